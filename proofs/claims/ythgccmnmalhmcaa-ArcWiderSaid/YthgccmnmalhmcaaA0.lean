/- Laws about heaps and calls that the walks use. Conditions: as each theorem states them. -/
import Derived.OrdersIn
import Derived.Below
import Derived.Maps.AppendAt
import Derived.Laws.CopyRow
import Derived.Laws.Cells
import Derived.IntWalk
namespace Go.Abs
set_option linter.unusedVariables false

inductive V where
 | sc (v : Value)
 | agg (cs : List V)
 | tup (vs : List V)
 | lst (new : Bool) (e n : Nat) (cs : List V)
 | rp (cs : List V)
 | sl (b ver e off len : Nat)
 | ptr (b ver o : Nat)
 | fn (f : Fn) (caps : List V)
 | any
 deriving Inhabited

def _root_.Go.Value.flat1 : Value → Bool
 | .agg _ | .tuple _ => false
 | _ => true

def V.leaf : V → Bool
 | .sc v => v.flat1
 | .agg _ | .tup _ | .any => false
 | _ => true

structure Info where
 dead : Bool
 blk : Option Nat
 e : Nat
 cap : Nat
 ver : Nat

structure Env where
 n0 : Nat
 F : Nat → Nat → Option Value
 σ : Nat → Option Info

mutual
def RL (E : Env) : V → Value → Prop
 | .sc v, c => c = v
 | .agg cs, c => ∃ ds, c = .agg ds.toArray ∧ RLs E cs ds ∧ cs.all V.leaf = true
 | .tup vs, c => ∃ ds, c = .tuple ds.toArray ∧ RLs E vs ds
 | .lst new e n cs, c => ∃ a cap, c = .slice a n cap ∧ n ≤ cap ∧ cs.length = n * e ∧ cs.all V.leaf = true ∧ (n = 0 ∨ ∃ B o, a = some ⟨B, o, none⟩ ∧ (new = true → E.n0 ≤ B) ∧ RF E B o cs)
 | .rp cs, c => ∃ B o, c = .pointer (some ⟨B, o, none⟩) ∧ RF E B o cs ∧ cs.all V.leaf = true
 | .sl b ver e off len, c => ∃ a cap, c = .slice a len cap ∧ len ≤ cap ∧ 0 < e ∧ ((a = none ∧ off = 0 ∧ len = 0 ∧ cap = 0) ∨ ∃ B, a = some ⟨B, off * e, none⟩) ∧
   ∃ I, E.σ b = some I ∧ (I.dead = true ∨ (ver ≤ I.ver ∧ (ver = I.ver → I.e = e ∧ ((I.blk = none ∧ a = none) ∨ ∃ B, I.blk = some B ∧ a = some ⟨B, off * e, none⟩ ∧ off + cap = I.cap))))
 | .ptr b ver o, c => ∃ B, c = .pointer (some ⟨B, o, none⟩) ∧ ∃ I, E.σ b = some I ∧ (I.dead = true ∨ (ver ≤ I.ver ∧ (ver = I.ver → I.blk = some B)))
 | .fn f caps, c => ∃ ds, c = .func f #[] ds.toArray ∧ RLs E caps ds
 | .any, _ => True
def RLs (E : Env) : List V → List Value → Prop
 | [], ds => ds = []
 | x :: xs, ds => ∃ d ds', ds = d :: ds' ∧ RL E x d ∧ RLs E xs ds'
def RF (E : Env) (B : Nat) : Nat → List V → Prop
 | _, [] => True
 | o, x :: xs => (∃ d, E.F B o = some d ∧ RL E x d) ∧ RF E B (o + 1) xs
end

def Info.le (I J : Info) : Prop := J = I ∨ J.dead = true ∨ (I.dead = false ∧ I.ver < J.ver)

structure Env.le (E E' : Env) : Prop where
 n0 : E'.n0 ≤ E.n0
 F : ∀ B o d, E.F B o = some d → E'.F B o = some d
 σ : ∀ b I, E.σ b = some I → ∃ J, E'.σ b = some J ∧ I.le J

theorem Info.le_refl (I : Info) : I.le I := .inl rfl
theorem Info.le_trans {I J K : Info} (h : I.le J) (k : J.le K) : I.le K := by
 rcases h with rfl | h | ⟨h1, h2⟩
 ·exact k
 ·rcases k with rfl | k | ⟨k1, k2⟩
  ·exact .inr (.inl h)
  ·exact .inr (.inl k)
  ·rw [h] at k1; cases k1
 ·rcases k with rfl | k | ⟨k1, k2⟩
  ·exact .inr (.inr ⟨h1, h2⟩)
  ·exact .inr (.inl k)
  ·exact .inr (.inr ⟨h1, Nat.lt_trans h2 k2⟩)
theorem Env.le_refl (E : Env) : E.le E := ⟨Nat.le_refl _, fun _ _ _ h => h, fun _ I h => ⟨I, h, I.le_refl⟩⟩
theorem Env.le_trans {E E' E'' : Env} (h : E.le E') (k : E'.le E'') : E.le E'' :=
 ⟨Nat.le_trans k.n0 h.n0, fun B o d x => k.F B o d (h.F B o d x), fun b I x => let ⟨J, y, l⟩ := h.σ b I x; let ⟨K, z, m⟩ := k.σ b J y; ⟨K, z, Info.le_trans l m⟩⟩

mutual
theorem RL.mono {E E' : Env} (h : E.le E') : ∀ (v : V) (c : Value), RL E v c → RL E' v c
 | .sc v, c, r => by simpa only [RL] using r
 | .agg cs, c, r => by
  simp only [RL] at r ⊢
  obtain ⟨ds, rfl, k, l⟩ := r
  exact ⟨ds, rfl, RLs.mono h cs ds k, l⟩
 | .tup vs, c, r => by
  simp only [RL] at r ⊢
  obtain ⟨ds, rfl, k⟩ := r
  exact ⟨ds, rfl, RLs.mono h vs ds k⟩
 | .lst new e n cs, c, r => by
  simp only [RL] at r ⊢
  obtain ⟨a, cap, rfl, h1, h2, h3, h4⟩ := r
  refine ⟨a, cap, rfl, h1, h2, h3, ?_⟩
  rcases h4 with h4 | ⟨B, o, rfl, h5, h6⟩
  ·exact .inl h4
  ·exact .inr ⟨B, o, rfl, fun q => Nat.le_trans h.n0 (h5 q), RF.mono h B cs o h6⟩
 | .rp cs, c, r => by
  simp only [RL] at r ⊢
  obtain ⟨B, o, rfl, h1, h2⟩ := r
  exact ⟨B, o, rfl, RF.mono h B cs o h1, h2⟩
 | .sl b ver e off len, c, r => by
  simp only [RL] at r ⊢
  obtain ⟨a, cap, rfl, q1, q2, q3, I, h1, h2⟩ := r
  obtain ⟨J, h3, h4⟩ := h.σ b I h1
  refine ⟨a, cap, rfl, q1, q2, q3, J, h3, ?_⟩
  rcases h4 with rfl | h4 | ⟨h4, h5⟩
  ·exact h2
  ·exact .inl h4
  ·rcases h2 with h2 | ⟨h2, h6⟩
   ·rw [h4] at h2; cases h2
   ·exact .inr ⟨by omega, fun e => by omega⟩
 | .ptr b ver o, c, r => by
  simp only [RL] at r ⊢
  obtain ⟨B, rfl, I, h1, h2⟩ := r
  obtain ⟨J, h3, h4⟩ := h.σ b I h1
  refine ⟨B, rfl, J, h3, ?_⟩
  rcases h4 with rfl | h4 | ⟨h4, h5⟩
  ·exact h2
  ·exact .inl h4
  ·rcases h2 with h2 | ⟨h2, h6⟩
   ·rw [h4] at h2; cases h2
   ·exact .inr ⟨by omega, fun e => by omega⟩
 | .fn f caps, c, r => by
  simp only [RL] at r ⊢
  obtain ⟨ds, rfl, k⟩ := r
  exact ⟨ds, rfl, RLs.mono h caps ds k⟩
 | .any, c, r => by simp only [RL]
theorem RLs.mono {E E' : Env} (h : E.le E') : ∀ (xs : List V) (ds : List Value), RLs E xs ds → RLs E' xs ds
 | [], ds, r => by simpa only [RLs] using r
 | x :: xs, ds, r => by
  simp only [RLs] at r ⊢
  obtain ⟨d, ds', rfl, h1, h2⟩ := r
  exact ⟨d, ds', rfl, RL.mono h x d h1, RLs.mono h xs ds' h2⟩
theorem RF.mono {E E' : Env} (h : E.le E') (B : Nat) : ∀ (xs : List V) (o : Nat), RF E B o xs → RF E' B o xs
 | [], o, r => by simp only [RF]
 | x :: xs, o, r => by
  simp only [RF] at r ⊢
  obtain ⟨⟨d, h1, h2⟩, h3⟩ := r
  exact ⟨⟨d, h.F B o d h1, RL.mono h x d h2⟩, RF.mono h B xs (o + 1) h3⟩
end

theorem RLs.length {E : Env} : ∀ (xs : List V) (ds : List Value), RLs E xs ds → ds.length = xs.length
 | [], ds, r => by simp only [RLs] at r; simp [r]
 | x :: xs, ds, r => by
  simp only [RLs] at r
  obtain ⟨d, ds', rfl, _, h⟩ := r
  simp [RLs.length xs ds' h]
theorem RLs.get {E : Env} : ∀ (xs : List V) (ds : List Value), RLs E xs ds → ∀ (i : Nat) (x : V), xs[i]? = some x → ∃ d, ds[i]? = some d ∧ RL E x d
 | [], ds, r, i, x, hx => by simp at hx
 | y :: xs, ds, r, i, x, hx => by
  simp only [RLs] at r
  obtain ⟨d, ds', rfl, h1, h2⟩ := r
  cases i with
  | zero => simp at hx; subst hx; exact ⟨d, by simp, h1⟩
  | succ i => simp at hx; simpa using RLs.get xs ds' h2 i x hx
theorem RLs.of_get {E : Env} : ∀ (xs : List V) (ds : List Value), ds.length = xs.length → (∀ (i : Nat) (x : V), xs[i]? = some x → ∃ d, ds[i]? = some d ∧ RL E x d) → RLs E xs ds
 | [], ds, hl, h => by simp only [RLs]; simpa using hl
 | y :: xs, ds, hl, h => by
  simp only [RLs]
  cases ds with
  | nil => simp at hl
  | cons d ds =>
   obtain ⟨d', h1, h2⟩ := h 0 y (by simp)
   simp at h1; subst h1
   exact ⟨d, ds, rfl, h2, RLs.of_get xs ds (by simpa using hl) (fun i x hx => by simpa using h (i + 1) x (by simpa using hx))⟩
theorem RF.get {E : Env} {B : Nat} : ∀ (xs : List V) (o : Nat), RF E B o xs → ∀ (i : Nat) (x : V), xs[i]? = some x → ∃ d, E.F B (o + i) = some d ∧ RL E x d
 | [], o, r, i, x, hx => by simp at hx
 | y :: xs, o, r, i, x, hx => by
  simp only [RF] at r
  obtain ⟨⟨d, h1, h2⟩, h3⟩ := r
  cases i with
  | zero => simp at hx; subst hx; exact ⟨d, h1, h2⟩
  | succ i =>
   simp at hx
   obtain ⟨d', h4, h5⟩ := RF.get xs (o + 1) h3 i x hx
   exact ⟨d', by rw [show o + (i + 1) = o + 1 + i by omega]; exact h4, h5⟩
theorem RF.of_get {E : Env} {B : Nat} : ∀ (xs : List V) (o : Nat), (∀ (i : Nat) (x : V), xs[i]? = some x → ∃ d, E.F B (o + i) = some d ∧ RL E x d) → RF E B o xs
 | [], o, h => by simp only [RF]
 | y :: xs, o, h => by
  simp only [RF]
  refine ⟨?_, RF.of_get xs (o + 1) fun i x hx => ?_⟩
  ·simpa using h 0 y (by simp)
  ·have := h (i + 1) x (by simpa using hx)
   rwa [show o + (i + 1) = o + 1 + i by omega] at this
theorem RF.drop {E : Env} {B : Nat} {xs : List V} {o : Nat} (h : RF E B o xs) (k : Nat) : RF E B (o + k) (xs.drop k) :=
 RF.of_get _ _ fun i x hx => by
  rw [List.getElem?_drop] at hx
  have := RF.get xs o h (k + i) x hx
  rwa [show o + (k + i) = o + k + i by omega] at this
theorem RF.take {E : Env} {B : Nat} {xs : List V} {o : Nat} (h : RF E B o xs) (k : Nat) : RF E B o (xs.take k) :=
 RF.of_get _ _ fun i x hx => by
  rw [List.getElem?_take] at hx
  split at hx
  ·exact RF.get xs o h i x hx
  ·cases hx
theorem RLs.drop {E : Env} {xs : List V} {ds : List Value} (h : RLs E xs ds) (k : Nat) : RLs E (xs.drop k) (ds.drop k) :=
 RLs.of_get _ _ (by simp [RLs.length _ _ h]) fun i x hx => by
  rw [List.getElem?_drop] at hx ⊢
  exact RLs.get xs ds h _ x hx
theorem RLs.take {E : Env} {xs : List V} {ds : List Value} (h : RLs E xs ds) (k : Nat) : RLs E (xs.take k) (ds.take k) :=
 RLs.of_get _ _ (by simp [RLs.length _ _ h]) fun i x hx => by
  rw [List.getElem?_take] at hx ⊢
  split at hx
  ·rw [if_pos ‹_›]; exact RLs.get xs ds h _ x hx
  ·cases hx
theorem RLs.append {E : Env} : ∀ {xs ys : List V} {ds es : List Value}, RLs E xs ds → RLs E ys es → RLs E (xs ++ ys) (ds ++ es)
 | [], ys, ds, es, h, k => by simp only [RLs] at h; subst h; simpa using k
 | x :: xs, ys, ds, es, h, k => by
  simp only [RLs] at h
  obtain ⟨d, ds', rfl, h1, h2⟩ := h
  simp only [List.cons_append, RLs]
  exact ⟨d, ds' ++ es, rfl, h1, RLs.append h2 k⟩
theorem RL.flat1 {E : Env} {v : V} {c : Value} (h : RL E v c) (hl : v.leaf = true) : c.flat1 = true := by
 cases v <;> simp only [RL, V.leaf] at h hl
 ·subst h; exact hl
 ·cases hl
 ·cases hl
 ·obtain ⟨a, cap, rfl, _⟩ := h; rfl
 ·obtain ⟨B, o, rfl, _⟩ := h; rfl
 ·obtain ⟨a, cap, rfl, _⟩ := h; rfl
 ·obtain ⟨B, rfl, _⟩ := h; rfl
 ·obtain ⟨ds, rfl, _⟩ := h; rfl
 ·cases hl
end Go.Abs
namespace Go.Abs
set_option linter.unusedVariables false

inductive TK where
 | leaf
 | bool
 | str8
 | int (k : IntKind)
 | str (fs : List (Nat × TypeId))
 | arr (n : Nat) (e : TypeId)
 | sli (e : TypeId)
 | ptr (e : TypeId)
 deriving DecidableEq
structure TI where
 size : Nat
 bytes : Nat
 k : TK
 zero : List Value

def tkOf : TypeDesc → TK
 | .struct fs => .str (fs.toList.map fun f => (f.offset, f.type))
 | .array n e => .arr n e
 | .slice e => .sli e
 | .pointer e => .ptr e
 | .int k => .int k
 | .bool => .bool
 | .string => .str8
 | _ => .leaf
def TK.isAgg : TK → Bool
 | .str _ | .arr _ _ => true
 | _ => false

def tiOf (P : Program) (t : TypeId) : Option TI :=
 match P.info? t, P.underlying t with
 | some i, some d => match i.zero with
  | some z => some { size := i.size, bytes := i.bytes, k := tkOf d, zero := z.cells.toList }
  | none => none
 | _, _ => none

def tkAt (P : Program) (t : TypeId) : Option TK := (tiOf P t).map TI.k

inductive Blk where
 | box (cs : List V)
 | arr (te : TypeId) (e ver : Nat) (cs : List V)
 | dead
 deriving Inhabited
def Blk.cells : Blk → List V
 | .box cs | .arr _ _ _ cs => cs
 | .dead => []
def Blk.hasVer (ver : Nat) : Blk → Bool
 | .box _ => ver == 0
 | .arr _ _ v _ => v == ver
 | .dead => false
def Blk.put (cs : List V) : Blk → Blk
 | .box _ => .box cs
 | .arr te e v _ => .arr te e v cs
 | .dead => .dead

structure St where
 tm : Nat → V
 mem : Nat → Option Blk
 nx : Nat

def cv : Value → V
 | .agg cs => if cs.toList.all Value.flat1 then .agg (cs.toList.map .sc) else .any
 | v => .sc v
def St.ev (s : St) : Operand → V
 | .tmp t => s.tm t
 | .const v => cv v
 | .global _ => .any
 | .func f => .fn (.func f) []

def upd {α : Type} (f : Nat → α) (k : Nat) (x : α) : Nat → α := fun i => if i = k then x else f i

structure Fx where
 val : V
 up : Option (Nat × Blk)

def V.cellsOf : V → Option (List V)
 | .agg cs => if cs.all V.leaf then some cs else none
 | v => if v.leaf then some [v] else none

def loadV (ti : TI) (cs : List V) : Option V :=
 if ti.k.isAgg then (if ti.size ≤ cs.length then some (.agg (cs.take ti.size)) else none)
 else cs.head?

def splice (cs : List V) (o : Nat) (ds : List V) : List V := cs.take o ++ ds ++ cs.drop (o + ds.length)

def fillV (place : Nat → Option (Nat × Nat)) (cells : List V) : List (Nat × V) → Option (List V)
 | [] => some cells
 | (i, v) :: rest =>
  match place i, v.cellsOf with
  | some (off, size), some ds => if ds.length = size ∧ off + ds.length ≤ cells.length then fillV place (splice cells off ds) rest else none
  | _, _ => none

def wr (k : IntKind) (n : Int) : V := .sc (.int k (k.wrap n))
def evInt (op : BinOp) (k : IntKind) (x y : Int) : Option V :=
 match op with
 | .add => some (.sc (.int k (k.wrap (x + y))))
 | .sub => some (.sc (.int k (k.wrap (x - y))))
 | .mul => some (.sc (.int k (k.wrap (x * y))))
 | .quo => if y = 0 then none else some (.sc (.int k (k.wrap (x.tdiv y))))
 | .rem => if y = 0 then none else some (.sc (.int k (x.tmod y)))
 | .eql => some (.sc (.bool (x == y)))
 | .neq => some (.sc (.bool (x != y)))
 | .lss => some (.sc (.bool (x < y)))
 | .leq => some (.sc (.bool (x ≤ y)))
 | .gtr => some (.sc (.bool (x > y)))
 | .geq => some (.sc (.bool (x ≥ y)))
 | .and => some (.sc (.int k (k.wrap (BitVec.ofInt k.bits x &&& BitVec.ofInt k.bits y).toNat)))
 | .or => some (.sc (.int k (k.wrap (BitVec.ofInt k.bits x ||| BitVec.ofInt k.bits y).toNat)))
 | .xor => some (.sc (.int k (k.wrap (BitVec.ofInt k.bits x ^^^ BitVec.ofInt k.bits y).toNat)))
 | .andNot => some (.sc (.int k (k.wrap (BitVec.ofInt k.bits x &&& ~~~BitVec.ofInt k.bits y).toNat)))
 | .shl | .shr => none
def evShift (op : BinOp) (k : IntKind) (x y : Int) : Option V :=
 if y < 0 then none else
 match op with
 | .shl => some (.sc (.int k (k.wrap (x * 2 ^ (min y.toNat k.bits)))))
 | .shr => some (.sc (.int k (x.fdiv (2 ^ (min y.toNat k.bits)))))
 | _ => none
def BinOp.isShift : BinOp → Bool
 | .shl | .shr => true
 | _ => false
def evBin (tk : Option TK) (op : BinOp) (x y : V) : Option V :=
 match x, y with
 | .sc (.int k a), .sc (.int k' b) => if BinOp.isShift op then evShift op k a b else if k = k' then evInt op k a b else none
 | .sc (.bool a), .sc (.bool b) => match op with
  | .eql => if tk = some .bool then some (.sc (.bool (a == b))) else none
  | .neq => if tk = some .bool then some (.sc (.bool (a != b))) else none
  | _ => none
 | _, _ => none
def evUn (op : UnOp) (x : V) : Option V :=
 match op, x with
 | .neg, .sc (.int k n) => some (.sc (.int k (k.wrap (0 - n))))
 | .xor, .sc (.int k n) => evInt .xor k (if k.signed then -1 else k.max) n
 | .not, .sc (.bool b) => some (.sc (.bool !b))
 | _, _ => none

def lenV : V → Option Nat
 | .sl _ _ _ _ len => some len
 | .lst _ _ n _ => some n
 | .sc (.slice none 0 0) => some 0
 | .sc (.string s) => some s.size
 | _ => none
def srcV (mem : Nat → Option Blk) (e : Nat) : V → Option (Nat × List V)
 | .lst _ e' n cs => if e' = e then some (n, cs) else none
 | .sc (.slice none 0 0) => some (0, [])
 | .sl b ver e0 off len => match mem b with
  | some (.arr _ e' v cs) => if v = ver ∧ e' = e ∧ e0 = e ∧ off * e + len * e ≤ cs.length then some (len, (cs.drop (off * e)).take (len * e)) else none
  | _ => none
 | _ => none
def roomy (n bytes : Nat) : Bool := n * bytes ≤ 140737488355328 ∧ n ≤ 140737488355328
def evAppend (P : Program) (t : TypeId) (s x : V) (mem : Nat → Option Blk) (id : Nat) : Option Fx :=
 match tkAt P t with
 | some (.sli te) => match tiOf P te with
  | some ti => if 0 < ti.size ∧ ti.zero.length = ti.size then match srcV mem ti.size x with
   | some (n, ys) => match s with
    | .sc (.slice none 0 0) => if n = 0 then none else if roomy n ti.bytes then some ⟨.sl id 0 ti.size 0 n, some (id, .arr te ti.size 0 ys)⟩ else none
    | .sl b ver e0 0 len => match mem b with
     | some (.arr te' e v cs) => if v = ver ∧ e0 = e ∧ te' = te ∧ e = ti.size ∧ cs.length = len * e ∧ roomy (len + n) ti.bytes = true then some ⟨.sl b (ver + 1) e0 0 (len + n), some (b, .arr te e (ver + 1) (cs ++ ys))⟩ else none
     | _ => none
    | _ => none
   | none => none
   else none
  | none => none
 | _ => none
def evMinMax (f : Int → Int → Int) : List V → Option V
 | .sc (.int k a) :: rest => rest.foldlM (fun acc y => match acc, y with | .sc (.int k' a'), .sc (.int k'' b) => if k'' = k' then some (.sc (.int k' (f a' b))) else none | _, _ => none) (.sc (.int k a))
 | _ => none
def mx2 (x y : Int) : Int := if y > x then y else x
def mn2 (x y : Int) : Int := if y < x then y else x

def evBuiltin (P : Program) (b : Builtin) (ts : Array TypeId) (args : List V) (mem : Nat → Option Blk) (id : Nat) : Option Fx :=
 match b, args with
 | .len, [x] => match ts[0]?, lenV x with
  | some t, some n => match tkAt P t, x with
   | some (.sli _), .sc (.slice none 0 0) | some (.sli _), .sl .. | some (.sli _), .lst .. => some ⟨.sc (.int .i64 n), none⟩
   | some .str8, .sc (.string _) => some ⟨.sc (.int .i64 n), none⟩
   | _, _ => none
  | _, _ => none
 | .append, [s, x] => if ts.size = 2 then match ts[0]?, ts[1]? with
  | some t, some t' => if t = t' then evAppend P t s x mem id else none
  | _, _ => none else none
 | .max, xs => (evMinMax mx2 xs).map (⟨·, none⟩)
 | .min, xs => (evMinMax mn2 xs).map (⟨·, none⟩)
 | _, _ => none

def fxAlloc (P : Program) (t : TypeId) (id : Nat) : Option Fx :=
 match tiOf P t with
 | some ti => if ti.zero.all Value.flat1 then some ⟨.ptr id 0 0, some (id, .box (ti.zero.map .sc))⟩ else none
 | none => none
def fxBox (x : V) (id : Nat) : Option Fx :=
 match x.cellsOf with
 | some cs => some ⟨.ptr id 0 0, some (id, .box cs)⟩
 | none => none
def fxPick (c a b : V) : Option Fx :=
 match c with
 | .sc (.bool t) => some ⟨if t then a else b, none⟩
 | _ => none
def fxBuild (P : Program) (t : TypeId) (parts : List (Nat × V)) : Option Fx :=
 match tiOf P t with
 | some ti => if ti.zero.all Value.flat1 then match ti.k with
  | .str fs => if fs.all (fun f => (tiOf P f.2).isSome) then (fillV (fun i => (fs[i]?).bind fun f => (tiOf P f.2).map fun j => (f.1, j.size)) (ti.zero.map .sc) parts).map fun cs => ⟨.agg cs, none⟩ else none
  | .arr _ e => match tiOf P e with
   | some j => (fillV (fun i => some (i * j.size, j.size)) (ti.zero.map .sc) parts).map fun cs => ⟨.agg cs, none⟩
   | none => none
  | _ => none
  else none
 | none => none
def fxBuildSlice (P : Program) (t : TypeId) (len : Nat) (parts : List (Nat × V)) (id : Nat) : Option Fx :=
 match tkAt P t with
 | some (.sli te) => match tiOf P te with
  | some j => if 0 < j.size ∧ len * j.size ≤ 16777216 ∧ j.zero.all Value.flat1 ∧ j.zero.length = j.size then
    (fillV (fun i => some (i * j.size, j.size)) ((List.replicate len (j.zero.map V.sc)).flatten) parts).map fun cs => ⟨.sl id 0 j.size 0 len, some (id, .arr te j.size 0 cs)⟩
   else none
  | none => none
 | _ => none
def fxLoad (P : Program) (t : TypeId) (a : V) (mem : Nat → Option Blk) : Option Fx :=
 match tiOf P t with
 | some ti => match a with
  | .ptr b ver o => match mem b with
   | some k => if k.hasVer ver then (loadV ti (k.cells.drop o)).map (⟨·, none⟩) else none
   | none => none
  | .rp cs => (loadV ti cs).map (⟨·, none⟩)
  | _ => none
 | none => none
def fxStore (P : Program) (t : TypeId) (a x : V) (mem : Nat → Option Blk) : Option Fx :=
 match tiOf P t with
 | some ti => match a, x.cellsOf with
  | .ptr b ver o, some ds => match mem b with
   | some k => if k.hasVer ver ∧ ds.length = ti.size ∧ o + ds.length ≤ k.cells.length then some ⟨.any, some (b, k.put (splice k.cells o ds))⟩ else none
   | none => none
  | _, _ => none
 | none => none
def fxNilCheck (x : V) : Option Fx :=
 match x with
 | .ptr b ver o => some ⟨.ptr b ver o, none⟩
 | .rp cs => some ⟨.rp cs, none⟩
 | .fn (.func f) caps => some ⟨.fn (.func f) caps, none⟩
 | _ => none
def fxFieldAddr (P : Program) (s : TypeId) (x : V) (f : Nat) : Option Fx :=
 match tkAt P s with
 | some (.str fs) => match fs[f]? with
  | some (off, ft) => match tiOf P ft with
   | some j => if j.size = 0 then none else match x with
    | .ptr b ver o => some ⟨.ptr b ver (o + off), none⟩
    | .rp cs => some ⟨.rp (cs.drop off), none⟩
    | _ => none
   | none => none
  | none => none
 | _ => none
def fxField (P : Program) (t : TypeId) (x : V) (f : Nat) : Option Fx :=
 match tkAt P t, x with
 | some (.str fs), .agg cs => match fs[f]? with
  | some (off, ft) => match tiOf P ft with
   | some j => if j.k.isAgg then (if off + j.size ≤ cs.length then some ⟨.agg ((cs.drop off).take j.size), none⟩ else none) else (cs[off]?).map (⟨·, none⟩)
   | none => none
  | none => none
 | _, _ => none
def fxIndexAddr (P : Program) (t : TypeId) (x i : V) : Option Fx :=
 match i with
 | .sc (.int _ n) => match tkAt P t with
  | some (.sli te) => match tiOf P te with
   | some j => match x with
    | .lst _ e m cs => if 0 ≤ n ∧ n < m ∧ e = j.size then some ⟨.rp ((cs.drop (n.toNat * e)).take e), none⟩ else none
    | .sl b ver e off len => if e = j.size ∧ 0 ≤ n ∧ n < len then some ⟨.ptr b ver ((off + n.toNat) * e), none⟩ else none
    | _ => none
   | none => none
  | some (.arr len te) => match tiOf P te with
   | some j => if 0 ≤ n ∧ n < len then match x with
    | .ptr b ver o => some ⟨.ptr b ver (o + n.toNat * j.size), none⟩
    | .rp cs => some ⟨.rp (cs.drop (n.toNat * j.size)), none⟩
    | _ => none
    else none
   | none => none
  | _ => none
 | _ => none
def fxIndex (P : Program) (t : TypeId) (x i : V) : Option Fx :=
 match i, tkAt P t, x with
 | .sc (.int _ n), some (.arr len te), .agg cs => match tiOf P te with
  | some j => if 0 ≤ n ∧ n < len then (if j.k.isAgg then (if n.toNat * j.size + j.size ≤ cs.length then some ⟨.agg ((cs.drop (n.toNat * j.size)).take j.size), none⟩ else none) else (cs[n.toNat * j.size]?).map (⟨·, none⟩)) else none
  | none => none
 | .sc (.int _ n), some .str8, .sc (.string s) => if 0 ≤ n ∧ n.toNat < s.size then some ⟨.sc (.int .u8 (s.get! n.toNat).toNat), none⟩ else none
 | _, _, _ => none
def fxExtract (x : V) (i : Nat) : Option Fx :=
 match x with
 | .tup vs => (vs[i]?).map (⟨·, none⟩)
 | _ => none
def fxMakeSlice (P : Program) (t : TypeId) (l c : V) (id : Nat) : Option Fx :=
 match tkAt P t, l, c with
 | some (.sli te), .sc (.int _ l), .sc (.int _ c) => match tiOf P te with
  | some j => if 0 < j.size ∧ 0 ≤ l ∧ l ≤ c ∧ roomy c.toNat j.bytes = true ∧ j.zero.all Value.flat1 ∧ j.zero.length = j.size then
    some ⟨.sl id 0 j.size 0 l.toNat, some (id, .arr te j.size 0 ((List.replicate l.toNat (j.zero.map V.sc)).flatten))⟩ else none
  | none => none
 | _, _, _ => none
def fxConvert (P : Program) (s d : TypeId) (x : V) : Option Fx :=
 match tkAt P s, tkAt P d, x with
 | some (.int _), some (.int k), .sc (.int _ n) => some ⟨.sc (.int k (k.wrap n)), none⟩
 | _, _, _ => none
def bdV (d : Nat) : Option V → Option Nat
 | none => some d
 | some (.sc (.int _ n)) => if 0 ≤ n then some n.toNat else none
 | _ => none
def fxSlice (P : Program) (t : TypeId) (x : V) (lo hi : Option V) : Option Fx :=
 match tkAt P t with
 | some (.sli te) => match tiOf P te with
  | some j => match x with
   | .lst new e n cs => match bdV 0 lo, bdV n hi with
    | some l, some h => if e = j.size ∧ l ≤ h ∧ h ≤ n then some ⟨.lst new e (h - l) ((cs.drop (l * e)).take ((h - l) * e)), none⟩ else none
    | _, _ => none
   | .sl b ver e off len => match bdV 0 lo, bdV len hi with
    | some l, some h => if e = j.size ∧ l < h ∧ h ≤ len then some ⟨.sl b ver e (off + l) (h - l), none⟩ else if e = j.size ∧ l = h ∧ h ≤ len then some ⟨.lst false e 0 [], none⟩ else none
    | _, _ => none
   | _ => none
  | none => none
 | _ => none
def opFx (P : Program) (op : Op) (ev : Operand → V) (mem : Nat → Option Blk) (id : Nat) : Option Fx :=
 match op with
 | .move x | .assign x => some ⟨ev x, none⟩
 | .pick c a b => fxPick (ev c) (ev a) (ev b)
 | .alloc t => fxAlloc P t id
 | .box _ x => fxBox (ev x) id
 | .build t parts => fxBuild P t (parts.toList.map fun p => (p.1, ev p.2))
 | .buildSlice t len parts => fxBuildSlice P t len (parts.toList.map fun p => (p.1, ev p.2)) id
 | .load t a => fxLoad P t (ev a) mem
 | .store t a x => fxStore P t (ev a) (ev x) mem
 | .nilCheck x => fxNilCheck (ev x)
 | .fieldAddr s x f => fxFieldAddr P s (ev x) f
 | .field t x f => fxField P t (ev x) f
 | .indexAddr t x i => fxIndexAddr P t (ev x) (ev i)
 | .index t x i => fxIndex P t (ev x) (ev i)
 | .slice t x lo hi none => fxSlice P t (ev x) (lo.map ev) (hi.map ev)
 | .extract x i => fxExtract (ev x) i
 | .makeSlice t l c => fxMakeSlice P t (ev l) (ev c) id
 | .makeFunc f first caps => if first.isEmpty then some ⟨.fn f (caps.toList.map ev), none⟩ else none
 | .binOp op t x y _ => (evBin (tkAt P t) op (ev x) (ev y)).map (⟨·, none⟩)
 | .unOp op _ x => (evUn op (ev x)).map (⟨·, none⟩)
 | .convert s d x => fxConvert P s d (ev x)
 | .call { callee := .builtin b, args, argTypes } => evBuiltin P b argTypes (args.toList.map ev) mem id
 | _ => none
end Go.Abs
namespace Go.Abs
set_option linter.unusedVariables false
set_option linter.unusedSimpArgs false

structure Cx where
 W0 : World
 S : Nat → Prop
 p : Nat
 F0 : Nat → Nat → Option Value
 N : Nat
 D : List Deferred

structure Keeps (S : Nat → Prop) (W W' : World) : Prop where
 os : W'.os = W.os
 tape : W'.tape = W.tape
 output : W'.output = W.output
 size : W.heap.size ≤ W'.heap.size
 block : ∀ k, k < W.heap.size → ¬ S k → W'.heap[k]? = W.heap[k]?
theorem Keeps.refl (S : Nat → Prop) (W : World) : Keeps S W W := ⟨rfl, rfl, rfl, Nat.le_refl _, fun _ _ _ => rfl⟩

def BlkOK (E : Env) (W : World) (I : Info) : Blk → Prop
 | .dead => I.dead = true
 | .box cs => I.dead = false ∧ I.ver = 0 ∧ I.e = 0 ∧ ∃ B cur t, I.blk = some B ∧ W.heap[B]? = some (.cells cur t (0, 0)) ∧ cs.length ≤ cur.size ∧ cs.all V.leaf = true ∧ RLs E cs (cur.toList.take cs.length)
 | .arr te e ver cs => I.dead = false ∧ I.ver = ver ∧ I.e = e ∧ 0 < e ∧ cs.all V.leaf = true ∧ (∃ n, cs.length = n * e) ∧
   ((I.blk = none ∧ cs = []) ∨ ∃ B cur, I.blk = some B ∧ W.heap[B]? = some (.cells cur te (0, 0)) ∧ cur.size = I.cap * e ∧ I.cap ≤ maxLen ∧ cs.length ≤ cur.size ∧ RLs E cs (cur.toList.take cs.length))

def Env.put (E : Env) (b : Nat) (I : Info) : Env := { E with σ := upd E.σ b (some I) }

structure InvM (C : Cx) (E : Env) (mem : Nat → Option Blk) (nx : Nat) (W : World) : Prop where
 n0 : E.n0 = C.W0.heap.size
 frz : ∀ B o d, E.F B o = some d → W.cell? ⟨B, o, none⟩ = some d
 blk : ∀ b k, mem b = some k → ∃ I, E.σ b = some I ∧ BlkOK E W I k
 dom : ∀ b I, E.σ b = some I → ∃ k, mem b = some k
 nx : ∀ b k, mem b = some k → b < nx
 inj : ∀ b b' I I' B, E.σ b = some I → E.σ b' = some I' → I.dead = false → I'.dead = false → I.blk = some B → I'.blk = some B → b = b'
 sep : ∀ b I B, E.σ b = some I → I.dead = false → I.blk = some B → ∀ o, E.F B o = none
 own : ∀ b I B, E.σ b = some I → I.dead = false → I.blk = some B → C.W0.heap.size ≤ B ∨ (b < C.p ∧ C.S B)
 old : ∀ B o, B < C.W0.heap.size → E.F B o = C.F0 B o
 keep : Keeps C.S C.W0 W

structure Inv (C : Cx) (E : Env) (s : St) (a : Act) (W : World) : Prop where
 m : InvM C E s.mem s.nx W
 tms : ∀ t, RL E (s.tm t) (a.tmps.getD t undef)
 size : a.tmps.size = C.N
 defs : a.defers = C.D

theorem BlkOK.mono {E E' : Env} (h : E.le E') {W W' : World} {I : Info} {k : Blk} (hw : ∀ B, I.blk = some B → W'.heap[B]? = W.heap[B]?) (hk : BlkOK E W I k) : BlkOK E' W' I k := by
 cases k with
 | dead => exact hk
 | box cs =>
  obtain ⟨h1, h2, h3, B, cur, t, h4, h5, h6, h7, h8⟩ := hk
  exact ⟨h1, h2, h3, B, cur, t, h4, by rw [hw B h4]; exact h5, h6, h7, RLs.mono h _ _ h8⟩
 | arr te e ver cs =>
  obtain ⟨h1, h2, h3, h4, h5, h6, h7⟩ := hk
  refine ⟨h1, h2, h3, h4, h5, h6, ?_⟩
  rcases h7 with h7 | ⟨B, cur, a1, a2, a3, a4, a5, a6⟩
  ·exact .inl h7
  ·exact .inr ⟨B, cur, a1, by rw [hw B a1]; exact a2, a3, a4, a5, RLs.mono h _ _ a6⟩
theorem BlkOK.lt {E : Env} {W : World} {I : Info} {k : Blk} (hk : BlkOK E W I k) (hd : I.dead = false) {B : Nat} (hB : I.blk = some B) : B < W.heap.size := by
 have key : ∀ (cur : Array Value) (t : TypeId), W.heap[B]? = some (.cells cur t (0, 0)) → B < W.heap.size := fun cur t h => (Array.getElem?_eq_some_iff.1 h).1
 cases k with
 | dead => rw [hk] at hd; cases hd
 | box cs =>
  obtain ⟨_, _, _, B', cur, t, h4, h5, _⟩ := hk
  rw [hB] at h4; cases h4
  exact key _ _ h5
 | arr te e ver cs =>
  obtain ⟨_, _, _, _, _, _, h7⟩ := hk
  rcases h7 with ⟨h7, _⟩ | ⟨B', cur, a1, a2, _⟩
  ·rw [hB] at h7; cases h7
  ·rw [hB] at a1; cases a1
   exact key _ _ a2

section
variable {C : Cx} {E : Env} {mem : Nat → Option Blk} {nx : Nat} {W W' : World}

theorem InvM.F_none (h : InvM C E mem nx W) {B : Nat} (hB : W.heap.size ≤ B) (o : Nat) : E.F B o = none := by
 cases hf : E.F B o with
 | none => rfl
 | some d =>
  have := World.block_lt_of_cell? W _ (h.frz B o d hf)
  simp at this; omega
theorem InvM.lt (h : InvM C E mem nx W) {b : Nat} {I : Info} (hs : E.σ b = some I) (hd : I.dead = false) {B : Nat} (hB : I.blk = some B) : B < W.heap.size := by
 obtain ⟨k, hk⟩ := h.dom b I hs
 obtain ⟨J, h1, h2⟩ := h.blk b k hk
 rw [hs] at h1; cases h1
 exact h2.lt hd hB

theorem Env.put_le {b : Nat} {I : Info} (hs : ∀ J, E.σ b = some J → J.le I) : E.le (E.put b I) where
 n0 := Nat.le_refl _
 F := fun _ _ _ h => h
 σ := fun b' J hJ => by
  unfold Env.put upd
  by_cases hb : b' = b
  ·subst hb; exact ⟨I, by simp, hs J hJ⟩
  ·exact ⟨J, by simp [hb, hJ], J.le_refl⟩

theorem InvM.put (h : InvM C E mem nx W) (b : Nat) (I : Info) (k : Blk) (row : Option Nat)
  (hle : ∀ J, E.σ b = some J → J.le I) (hd : I.dead = false)
  (hrow : ∀ B, row = some B → ∃ J, E.σ b = some J ∧ J.dead = false ∧ J.blk = some B)
  (hW : W.grownBy W' row)
  (hB : ∀ B, I.blk = some B → W.heap.size ≤ B ∨ ∃ J, E.σ b = some J ∧ J.dead = false ∧ J.blk = some B)
  (hk : BlkOK (E.put b I) W' I k) : InvM C (E.put b I) (upd mem b (some k)) (max nx (b + 1)) W' := by
 have hE := Env.put_le hle
 have same : ∀ B, B < W.heap.size → (∀ J, E.σ b = some J → J.dead = false → J.blk ≠ some B) → W'.heap[B]? = W.heap[B]? := by
  intro B hlt hne
  refine hW.block B hlt fun e => ?_
  obtain ⟨J, h1, h2, h3⟩ := hrow B e.symm
  exact hne J h1 h2 h3
 refine ⟨h.n0, ?_, ?_, ?_, ?_, ?_, ?_, ?_, h.old, ?_⟩
 ·intro B o d hF
  have hF : E.F B o = some d := hF
  have h1 := h.frz B o d hF
  have hlt := World.block_lt_of_cell? W _ h1
  rw [← h1]
  refine World.cell?_of_block (same B hlt fun J hJ hJd hJB => ?_)
  rw [h.sep b J B hJ hJd hJB o] at hF
  cases hF
 ·intro b' k' hk'
  unfold upd at hk'
  by_cases hb : b' = b
  ·subst hb
   simp at hk'; subst hk'
   exact ⟨I, by simp [Env.put, upd], hk⟩
  ·simp [hb] at hk'
   obtain ⟨J, h1, h2⟩ := h.blk b' k' hk'
   refine ⟨J, by simp [Env.put, upd, hb, h1], ?_⟩
   by_cases hJd : J.dead = true
   ·cases k' with
    | dead => exact hJd
    | box cs => obtain ⟨h3, _⟩ := h2; rw [hJd] at h3; cases h3
    | arr te e ver cs => obtain ⟨h3, _⟩ := h2; rw [hJd] at h3; cases h3
   ·have hJd : J.dead = false := by simpa using hJd
    refine h2.mono hE fun B hJB => same B (h2.lt hJd hJB) fun J' h3 h4 h5 => hb (h.inj b' b J J' B h1 h3 hJd h4 hJB h5)
 ·intro b' J hJ
  unfold Env.put upd at hJ
  unfold upd
  by_cases hb : b' = b
  ·exact ⟨k, by simp [hb]⟩
  ·simp [hb] at hJ
   obtain ⟨k', hk'⟩ := h.dom b' J hJ
   exact ⟨k', by simp [hb, hk']⟩
 ·intro b' k' hk'
  unfold upd at hk'
  by_cases hb : b' = b
  ·omega
  ·simp [hb] at hk'
   have := h.nx b' k' hk'
   omega
 ·intro b1 b2 I1 I2 B h1 h2 d1 d2 e1 e2
  unfold Env.put upd at h1 h2
  by_cases hb1 : b1 = b
  ·by_cases hb2 : b2 = b
   ·rw [hb1, hb2]
   ·simp [hb1] at h1; simp [hb2] at h2; subst h1
    rcases hB B e1 with hB | ⟨J, j1, j2, j3⟩
    ·have := h.lt h2 d2 e2; omega
    ·exact absurd (h.inj b b2 J I2 B j1 h2 j2 d2 j3 e2).symm hb2
  ·by_cases hb2 : b2 = b
   ·simp [hb2] at h2; simp [hb1] at h1; subst h2
    rcases hB B e2 with hB | ⟨J, j1, j2, j3⟩
    ·have := h.lt h1 d1 e1; omega
    ·exact absurd (h.inj b1 b I1 J B h1 j1 d1 j2 e1 j3) hb1
   ·simp [hb1] at h1; simp [hb2] at h2
    exact h.inj b1 b2 I1 I2 B h1 h2 d1 d2 e1 e2
 ·intro b' J B hJ hJd hJB o
  unfold Env.put upd at hJ
  by_cases hb : b' = b
  ·simp [hb] at hJ; subst hJ
   rcases hB B hJB with hB | ⟨J, j1, j2, j3⟩
   ·exact h.F_none hB o
   ·exact h.sep b J B j1 j2 j3 o
  ·simp [hb] at hJ
   exact h.sep b' J B hJ hJd hJB o
 ·intro b' J B hJ hJd hJB
  unfold Env.put upd at hJ
  by_cases hb : b' = b
  ·simp [hb] at hJ; subst hJ
   rcases hB B hJB with hB | ⟨J, j1, j2, j3⟩
   ·left; have := h.keep.size; omega
   ·rw [hb]; exact h.own b J B j1 j2 j3
  ·simp [hb] at hJ
   exact h.own b' J B hJ hJd hJB
 ·refine ⟨hW.os.trans h.keep.os, hW.tape.trans h.keep.tape, hW.output.trans h.keep.output, Nat.le_trans h.keep.size hW.size, fun k hk hS => ?_⟩
  rw [← h.keep.block k hk hS]
  refine same k (Nat.lt_of_lt_of_le hk h.keep.size) fun J h1 h2 h3 => ?_
  rcases h.own b J k h1 h2 h3 with h4 | h4
  ·omega
  ·exact hS h4.2

theorem InvM.drew (h : InvM C E mem nx W) : InvM C E mem nx { W with drawn := W.drawn + 1 } where
 n0 := h.n0
 frz := h.frz
 blk := fun b k hk => let ⟨I, h1, h2⟩ := h.blk b k hk; ⟨I, h1, h2.mono E.le_refl fun _ _ => rfl⟩
 dom := h.dom
 nx := h.nx
 inj := h.inj
 sep := h.sep
 own := h.own
 old := h.old
 keep := ⟨h.keep.os, h.keep.tape, h.keep.output, h.keep.size, h.keep.block⟩
theorem InvM.more (h : InvM C E mem nx W) {nx' : Nat} (hn : nx ≤ nx') : InvM C E mem nx' W :=
 { h with nx := fun b k hk => Nat.lt_of_lt_of_le (h.nx b k hk) hn }
end

theorem cv_ok (E : Env) (v : Value) : RL E (cv v) v := by
 unfold cv
 split
 ·rename_i cs
  split
  ·rename_i hf
   simp only [RL]
   refine ⟨cs.toList, by simp, ?_, ?_⟩
   ·refine RLs.of_get _ _ (by simp) fun i x hx => ?_
    simp at hx
    obtain ⟨d, h1, rfl⟩ := hx
    exact ⟨d, by simpa using h1, by simp [RL]⟩
   ·simpa [List.all_map, Function.comp_def, V.leaf] using hf
  ·simp [RL]
 ·simp [RL]
theorem Inv.ev {C : Cx} {E : Env} {s : St} {a : Act} {W : World} (h : Inv C E s a W) (x : Operand) : RL E (s.ev x) (a.eval x) := by
 cases x with
 | tmp t => exact h.tms t
 | const v => exact cv_ok E v
 | global g => simp [St.ev, RL]
 | func f => simp [St.ev, RL, RLs, Act.eval]
end Go.Abs
namespace Go.Abs
set_option linter.unusedVariables false
set_option linter.unusedSimpArgs false

section
variable {P : Program} {W : World}
theorem ti_info {t : TypeId} {ti : TI} (h : tiOf P t = some ti) :
  ∃ i d z, P.info? t = some i ∧ P.underlying t = some d ∧ i.zero = some z ∧ i.size = ti.size ∧ i.bytes = ti.bytes ∧ z.cells.toList = ti.zero ∧ ti.k = tkOf d := by
 unfold tiOf at h
 split at h
 ·rename_i i d hi hd
  split at h
  ·rename_i z hz
   cases h
   exact ⟨i, d, z, hi, hd, hz, rfl, rfl, rfl, rfl⟩
  ·cases h
 ·cases h
theorem run_typeInfo {t : TypeId} {i : TypeInfo} (h : P.info? t = some i) : (typeInfo t).run P W = .ok i W := by
 simp [typeInfo, h, Result.andThen]
theorem run_sizeOf {t : TypeId} {ti : TI} (h : tiOf P t = some ti) : (sizeOf t).run P W = .ok ti.size W := by
 obtain ⟨i, d, z, h1, h2, h3, h4, h5, h6, h7⟩ := ti_info h
 simp [sizeOf, run_typeInfo h1, Result.andThen, h4]
theorem run_isAgg {t : TypeId} {ti : TI} (h : tiOf P t = some ti) : (isAgg t).run P W = .ok ti.k.isAgg W := by
 obtain ⟨i, d, z, h1, h2, h3, h4, h5, h6, h7⟩ := ti_info h
 simp [isAgg, run_underlying h2, Result.andThen, h7]
 cases d <;> simp [tkOf, TK.isAgg]
theorem run_zero {t : TypeId} {ti : TI} (h : tiOf P t = some ti) : ∃ z, (zeroValue t).run P W = .ok z W ∧ z.cells.toList = ti.zero := by
 obtain ⟨i, d, z, h1, h2, h3, h4, h5, h6, h7⟩ := ti_info h
 exact ⟨z, by simp [zeroValue, run_typeInfo h1, Result.andThen, h3], h6⟩
theorem tk_und {t : TypeId} {k : TK} (h : tkAt P t = some k) : ∃ ti d, tiOf P t = some ti ∧ P.underlying t = some d ∧ k = tkOf d ∧ ti.k = k := by
 unfold tkAt at h
 cases hti : tiOf P t with
 | none => rw [hti] at h; cases h
 | some ti =>
  rw [hti] at h
  obtain ⟨i, d, z, h1, h2, h3, h4, h5, h6, h7⟩ := ti_info hti
  simp at h
  exact ⟨ti, d, rfl, h2, by rw [← h, h7], h⟩
theorem addr_add (B o j : Nat) : (⟨B, o, none⟩ : Addr).add j = ⟨B, o + j, none⟩ := by
 unfold Addr.add; split <;> simp_all

def CellsAt (W : World) (B o : Nat) (ds : List Value) : Prop := ∀ j d, ds[j]? = some d → W.cell? ⟨B, o + j, none⟩ = some d
theorem cellsAt_heap {B : Nat} {cur : Array Value} {t : TypeId} {fr : Nat × Nat} (h : W.heap[B]? = some (.cells cur t fr)) (o n : Nat) : CellsAt W B o ((cur.toList.take n).drop o) := by
 intro j d hj
 rw [List.getElem?_drop, List.getElem?_take] at hj
 split at hj
 ·simp [World.cell?, h]
  simpa using hj
 ·cases hj

theorem RF.list {E : Env} {B : Nat} : ∀ (cs : List V) (o : Nat), RF E B o cs → ∃ ds, RLs E cs ds ∧ ∀ j d, ds[j]? = some d → E.F B (o + j) = some d
 | [], o, h => ⟨[], by simp [RLs], fun j d hj => by simp at hj⟩
 | x :: xs, o, h => by
  simp only [RF] at h
  obtain ⟨⟨d, h1, h2⟩, h3⟩ := h
  obtain ⟨ds, h4, h5⟩ := RF.list xs (o + 1) h3
  refine ⟨d :: ds, ?_, fun j d' hj => ?_⟩
  ·simp only [RLs]; exact ⟨d, ds, rfl, h2, h4⟩
  ·cases j with
   | zero => simp at hj; subst hj; exact h1
   | succ j =>
    have := h5 j d' (by simpa using hj)
    rwa [show o + (j + 1) = o + 1 + j by omega]

theorem all_drop {cs : List V} (h : cs.all V.leaf = true) (n : Nat) : (cs.drop n).all V.leaf = true := by
 rw [List.all_eq_true] at h ⊢
 exact fun x hx => h x (List.mem_of_mem_drop hx)
theorem all_take {cs : List V} (h : cs.all V.leaf = true) (n : Nat) : (cs.take n).all V.leaf = true := by
 rw [List.all_eq_true] at h ⊢
 exact fun x hx => h x (List.mem_of_mem_take hx)

theorem run_loadVar {E : Env} {t : TypeId} {ti : TI} (h : tiOf P t = some ti) {B o : Nat} {cs : List V} {ds : List Value} (hc : CellsAt W B o ds) (hr : RLs E cs ds) (hl : cs.all V.leaf = true) {v : V}
  (hv : loadV ti cs = some v) : ∃ c, (loadVar t ⟨B, o, none⟩).run P W = .ok c W ∧ RL E v c := by
 unfold loadV at hv
 unfold loadVar
 simp only [Sem.run_bind, run_isAgg h, Result.andThen]
 by_cases ha : ti.k.isAgg = true
 ·simp only [ha, if_true] at hv ⊢
  split at hv
  ·rename_i hle
   cases hv
   have hlen := RLs.length _ _ hr
   have h1 := run_loadCells_list (P := P) W ⟨B, o, none⟩ (ds.take ti.size) (fun j d hj => by
    rw [addr_add]
    rw [List.getElem?_take] at hj
    split at hj
    ·exact hc j d hj
    ·cases hj)
   have hsz : (ds.take ti.size).length = ti.size := by simp; omega
   rw [hsz] at h1
   refine ⟨.agg (ds.take ti.size).toArray, by simp [run_sizeOf h, Result.andThen, h1], ?_⟩
   simp only [RL]
   exact ⟨_, rfl, hr.take _, all_take hl _⟩
  ·cases hv
 ·simp only [ha, Bool.false_eq_true, if_false] at hv ⊢
  cases cs with
  | nil => cases hv
  | cons x xs =>
   simp at hv; subst hv
   simp only [RLs] at hr
   obtain ⟨d, ds', rfl, h1, h2⟩ := hr
   have := hc 0 d (by simp)
   simp only [Nat.add_zero] at this
   exact ⟨d, by simp [this], h1⟩

theorem cells_of {E : Env} {v : V} {c : Value} {cs : List V} (h : RL E v c) (hv : v.cellsOf = some cs) : RLs E cs c.cells.toList ∧ cs.all V.leaf = true ∧ (∀ d ∈ c.cells.toList, d.flat1 = true) := by
 have flat : ∀ (cs : List V) (ds : List Value), RLs E cs ds → cs.all V.leaf = true → ∀ d ∈ ds, d.flat1 = true := by
  intro cs
  induction cs with
  | nil => intro ds h _ d hd; simp only [RLs] at h; subst h; cases hd
  | cons x xs ih =>
   intro ds h hl d hd
   simp only [RLs] at h
   obtain ⟨d', ds', rfl, h1, h2⟩ := h
   simp at hl
   rcases List.mem_cons.1 hd with rfl | hd
   ·exact RL.flat1 h1 hl.1
   ·exact ih ds' h2 (by simpa using hl.2) d hd
 unfold V.cellsOf at hv
 split at hv
 ·rename_i cs'
  split at hv
  ·cases hv
   simp only [RL] at h
   obtain ⟨ds, rfl, h1, h2⟩ := h
   exact ⟨by simpa [Value.cells] using h1, h2, by simpa [Value.cells] using flat _ _ h1 h2⟩
  ·cases hv
 ·split at hv
  ·rename_i hl
   cases hv
   have hf := RL.flat1 h hl
   have : c.cells = #[c] := by cases c <;> simp_all [Value.cells, Value.flat1]
   rw [this]
   exact ⟨by simp only [RLs]; exact ⟨c, [], rfl, h, rfl⟩, by simp [hl], by simpa using hf⟩
  ·cases hv

theorem flat1_eq (v : Value) : v.flat1 = v.oneCell' := by cases v <;> rfl
end

def Out (C : Cx) (E : Env) (mem : Nat → Option Blk) (nx : Nat) (fx : Fx) (r : Result Value) : Prop :=
 ∃ c W' E', r = .ok c W' ∧ E.le E' ∧ InvM C E' (match fx.up with | none => mem | some (b, k) => upd mem b (some k)) nx W' ∧ RL E' fx.val c

section
variable {P : Program} {C : Cx} {E : Env} {mem : Nat → Option Blk} {nx : Nat} {W : World}

theorem Out.same {v : V} {c : Value} {r : Result Value} (h : InvM C E mem nx W) (hr : r = .ok c W) (hv : RL E v c) : Out C E mem nx ⟨v, none⟩ r :=
 ⟨c, W, E, hr, E.le_refl, h, hv⟩

theorem InvM.new (h : InvM C E mem nx W) {id : Nat} (hid : mem id = none) (hlt : id < nx) (I : Info) (k : Blk) (o : Obj) (hd : I.dead = false) (hB : I.blk = some W.heap.size)
  (hk : BlkOK (E.put id I) (W.alloc o) I k) : E.le (E.put id I) ∧ InvM C (E.put id I) (upd mem id (some k)) nx (W.alloc o) := by
 have hs : E.σ id = none := by
  cases hs : E.σ id with
  | none => rfl
  | some J =>
   obtain ⟨k', hk'⟩ := h.dom id J hs
   rw [hid] at hk'; cases hk'
 have hle : ∀ J, E.σ id = some J → J.le I := fun J hJ => by rw [hs] at hJ; cases hJ
 have := h.put (W' := W.alloc o) id I k none hle hd (fun B hB => by cases hB) ⟨rfl, rfl, rfl, by simp, fun k hk _ => by
  simp only [World.alloc, Array.getElem?_push]
  rw [if_neg (by omega)]⟩ (fun B hB' => by rw [hB] at hB'; cases hB'; exact .inl (Nat.le_refl _)) hk
 rw [Nat.max_eq_left (by omega)] at this
 exact ⟨Env.put_le hle, this⟩
theorem alloc_get (W : World) (o : Obj) : (W.alloc o).heap[W.heap.size]? = some o := heap_alloc_new W o

theorem InvM.newBox (h : InvM C E mem nx W) {id : Nat} (hid : mem id = none) (hlt : id < nx) {cs : List V} {arr : Array Value} (t : TypeId) (hr : RLs E cs arr.toList) (hl : cs.all V.leaf = true) :
  ∃ E', E.le E' ∧ InvM C E' (upd mem id (some (.box cs))) nx (W.alloc (.cells arr t)) ∧ RL E' (.ptr id 0 0) (.pointer (some ⟨W.heap.size, 0, none⟩)) := by
 have hlen := RLs.length _ _ hr
 have hs : E.le (E.put id ⟨false, some W.heap.size, 0, 0, 0⟩) := Env.put_le fun J hJ => by
  obtain ⟨k', hk'⟩ := h.dom id J hJ
  rw [hid] at hk'; cases hk'
 obtain ⟨h1, h2⟩ := h.new hid hlt ⟨false, some W.heap.size, 0, 0, 0⟩ (.box cs) (.cells arr t) rfl rfl
  ⟨rfl, rfl, rfl, W.heap.size, arr, t, rfl, alloc_get W _, by simp at hlen; omega, hl, by
   have : arr.toList.take cs.length = arr.toList := List.take_of_length_le (by omega)
   rw [this]
   exact RLs.mono hs _ _ hr⟩
 refine ⟨_, h1, h2, ?_⟩
 simp only [RL]
 exact ⟨W.heap.size, rfl, ⟨false, some W.heap.size, 0, 0, 0⟩, by simp [Env.put, upd], .inr ⟨Nat.le_refl _, fun _ => rfl⟩⟩

theorem InvM.newArr (h : InvM C E mem nx W) {id : Nat} (hid : mem id = none) (hlt : id < nx) {cs : List V} {arr : Array Value} {te : TypeId} {e n len cap : Nat} (he : 0 < e) (hn : cs.length = n * e) (hcap : arr.size = cap * e) (hm : cap ≤ maxLen)
  (hlc : len ≤ cap) (hr : RLs E cs (arr.toList.take cs.length)) (hl : cs.all V.leaf = true) :
  ∃ E', E.le E' ∧ InvM C E' (upd mem id (some (.arr te e 0 cs))) nx (W.alloc (.cells arr te)) ∧ RL E' (.sl id 0 e 0 len) (.slice (some ⟨W.heap.size, 0, none⟩) len cap) := by
 have hlen := RLs.length _ _ hr
 have hs : E.le (E.put id ⟨false, some W.heap.size, e, cap, 0⟩) := Env.put_le fun J hJ => by
  obtain ⟨k', hk'⟩ := h.dom id J hJ
  rw [hid] at hk'; cases hk'
 obtain ⟨h1, h2⟩ := h.new hid hlt ⟨false, some W.heap.size, e, cap, 0⟩ (.arr te e 0 cs) (.cells arr te) rfl rfl
  ⟨rfl, rfl, rfl, he, hl, ⟨n, hn⟩, .inr ⟨W.heap.size, arr, rfl, alloc_get W _, hcap, hm, by simp at hlen; omega, RLs.mono hs _ _ hr⟩⟩
 refine ⟨_, h1, h2, ?_⟩
 simp only [RL]
 exact ⟨_, cap, rfl, hlc, he, .inr ⟨W.heap.size, by simp⟩, ⟨false, some W.heap.size, e, cap, 0⟩, by simp [Env.put, upd], .inr ⟨Nat.le_refl _, fun _ => ⟨rfl, .inr ⟨W.heap.size, rfl, by simp, by simp⟩⟩⟩⟩

theorem InvM.at_ (h : InvM C E mem nx W) {b ver o : Nat} {c : Value} {k : Blk} (hp : RL E (.ptr b ver o) c) (hm : mem b = some k) (hv : k.hasVer ver = true) :
  ∃ I B cur t, E.σ b = some I ∧ I.dead = false ∧ I.ver = ver ∧ I.blk = some B ∧ c = .pointer (some ⟨B, o, none⟩) ∧
   (k.cells ≠ [] → W.heap[B]? = some (.cells cur t (0, 0))) ∧ (k.cells = [] ∨ k.cells.length ≤ cur.size) ∧ k.cells.all V.leaf = true ∧ (k.cells = [] ∨ RLs E k.cells (cur.toList.take k.cells.length)) ∧ BlkOK E W I k := by
 obtain ⟨I, h1, h2⟩ := h.blk b k hm
 simp only [RL] at hp
 obtain ⟨Bp, rfl, J, h3, h4⟩ := hp
 rw [h1] at h3; cases h3
 cases k with
 | dead => cases hv
 | box cs =>
  simp [Blk.hasVer] at hv; subst hv
  have h2' := h2
  obtain ⟨a1, a2, a3, B, cur, t, a4, a5, a6, a7, a8⟩ := h2
  rcases h4 with h4 | ⟨h4, h5⟩
  ·rw [a1] at h4; cases h4
  ·have h6 := h5 a2.symm
   rw [a4] at h6
   obtain rfl : B = Bp := Option.some.inj h6
   exact ⟨I, B, cur, t, h1, a1, a2, a4, rfl, fun _ => a5, .inr a6, a7, .inr a8, h2'⟩
 | arr te e v cs =>
  simp [Blk.hasVer] at hv; subst hv
  have h2' := h2
  obtain ⟨a1, a2, a3, a4, a5, a6, a7⟩ := h2
  rcases h4 with h4 | ⟨h4, h5⟩
  ·rw [a1] at h4; cases h4
  ·have h6 := h5 a2.symm
   rcases a7 with ⟨a7, a8⟩ | ⟨B, cur, b1, b2, b3, b4, b5, b6⟩
   ·rw [a7] at h6; cases h6
   ·rw [b1] at h6
    obtain rfl : B = Bp := Option.some.inj h6
    exact ⟨I, B, cur, te, h1, a1, a2, b1, rfl, fun _ => b2, .inr b5, a5, .inr b6, h2'⟩

theorem load_ok (h : InvM C E mem nx W) {t : TypeId} {a : V} {c : Value} {fx : Fx} (ha : RL E a c) (hfx : fxLoad P t a mem = some fx) : Out C E mem nx fx ((Instr.loadAt t c).run P W) := by
 unfold fxLoad at hfx
 split at hfx
 ·rename_i ti hti
  split at hfx
  ·rename_i b ver o
   split at hfx
   ·rename_i k hk
    split at hfx
    ·rename_i hver
     cases hl : loadV ti (k.cells.drop o) with
     | none => rw [hl] at hfx; cases hfx
     | some v =>
      rw [hl] at hfx; cases hfx
      obtain ⟨I, B, cur, t', g1, g2, g3, g4, rfl, g5, g6, g7, g8, g9⟩ := h.at_ ha hk hver
      by_cases hne : k.cells = []
      ·rw [hne] at hl
       unfold loadV at hl
       simp at hl
       -- nothing is read: an empty struct
       obtain ⟨hz1, hz2, rfl⟩ := hl
       refine Out.same h (c := .agg #[]) ?_ (by simp only [RL]; exact ⟨[], rfl, by simp [RLs], by simp⟩)
       simp [Instr.loadAt, Instr.sureAddr, loadVar, run_isAgg hti, hz1, run_sizeOf hti, hz2, Result.andThen, loadCells, loadCellsFrom]
      ·rcases g8 with g8 | g8
       ·exact absurd g8 hne
       obtain ⟨c', r1, r2⟩ := run_loadVar (P := P) (E := E) hti (cellsAt_heap (g5 hne) o k.cells.length) (g8.drop o) (all_drop g7 o) hl
       exact Out.same h (by simp [Instr.loadAt, Instr.sureAddr, Result.andThen, r1]) r2
    ·cases hfx
   ·cases hfx
  ·rename_i cs
   cases hl : loadV ti cs with
   | none => rw [hl] at hfx; cases hfx
   | some v =>
    rw [hl] at hfx; cases hfx
    simp only [RL] at ha
    obtain ⟨B, o, rfl, g1, g2⟩ := ha
    obtain ⟨ds, g3, g4⟩ := RF.list cs o g1
    obtain ⟨c', r1, r2⟩ := run_loadVar (P := P) (E := E) (W := W) hti (B := B) (o := o) (fun j d hj => h.frz _ _ _ (g4 j d hj)) g3 g2 hl
    exact Out.same h (by simp [Instr.loadAt, Instr.sureAddr, Result.andThen, r1]) r2
  ·cases hfx
 ·cases hfx

theorem RLs.splice {cs ds : List V} {as bs : List Value} (h : RLs E cs as) (k : RLs E ds bs) (o : Nat) : RLs E (splice cs o ds) (as.take o ++ bs ++ as.drop (o + bs.length)) := by
 unfold Abs.splice
 rw [← RLs.length _ _ k]
 exact RLs.append (RLs.append (h.take o) k) (h.drop _)
theorem splice_length {cs ds : List V} {o : Nat} (h : o + ds.length ≤ cs.length) : (splice cs o ds).length = cs.length := by
 unfold splice; simp; omega
theorem splice_leaf {cs ds : List V} {o : Nat} (h : cs.all V.leaf = true) (k : ds.all V.leaf = true) : (splice cs o ds).all V.leaf = true := by
 unfold splice
 simp only [List.all_append, all_take h, all_drop h, k, Bool.and_self]

theorem store_ok (h : InvM C E mem nx W) {t : TypeId} {a x : V} {c d : Value} {fx : Fx} (ha : RL E a c) (hx : RL E x d) (hfx : fxStore P t a x mem = some fx) :
  ∃ W' E' b k, (Instr.storeAt t c d).run P W = .ok () W' ∧ E.le E' ∧ fx = ⟨.any, some (b, k)⟩ ∧ InvM C E' (upd mem b (some k)) nx W' := by
 unfold fxStore at hfx
 split at hfx
 ·rename_i ti hti
  split at hfx
  ·rename_i b ver o ds hds
   split at hfx
   ·rename_i k hk
    split at hfx
    ·rename_i hc
     obtain ⟨hver, hsz, hfit⟩ := hc
     cases hfx
     obtain ⟨I, B, cur, t', g1, g2, g3, g4, rfl, g5, g6, g7, g8, g9⟩ := h.at_ ha hk hver
     obtain ⟨x1, x2, x3⟩ := cells_of hx hds
     have hlen := RLs.length _ _ x1
     have hb := h.nx b k hk
     by_cases hne : k.cells = []
     ·-- nothing is stored
      rw [hne] at hfit
      have hd0 : ds = [] := List.eq_nil_of_length_eq_zero (by have : ([] : List V).length = 0 := rfl; omega)
      subst hd0
      have ho : o = 0 := by have : ([] : List V).length = 0 := rfl; omega
      have hs : splice k.cells o [] = k.cells := by rw [hne]; simp [splice]
      have hput : k.put (splice k.cells o []) = k := by rw [hs]; cases k <;> rfl
      refine ⟨W, E, b, k, ?_, E.le_refl, by rw [hput], ?_⟩
      ·have : d.cells.toList = [] := List.eq_nil_of_length_eq_zero (by simpa using hlen)
       have h0 : d.cells.size = 0 := by rw [← Array.length_toList, this]; rfl
       simp at hsz
       simp [Instr.storeAt, Instr.sureAddr, Result.andThen, storeVar, run_sizeOf hti, h0, ← hsz, this, storeCells]
      ·have : upd mem b (some k) = mem := by funext i; unfold upd; split <;> simp_all
       rw [this]; exact h
     ·have hh := g5 hne
      rcases g6 with g6 | g6
      ·exact absurd g6 hne
      rcases g8 with g8 | g8
      ·exact absurd g8 hne
      have hst := run_storeCells_at (P := P) B o t' d.cells.toList 0 cur W hh (by omega) (fun v hv => by rw [← flat1_eq]; exact x3 v hv)
      simp only [Nat.add_zero] at hst
      have hl2 : d.cells.size = ti.size := by rw [← Array.length_toList, hlen, hsz]
      refine ⟨W.setRow B ((cur.toList.take o ++ d.cells.toList ++ cur.toList.drop (o + d.cells.toList.length)).toArray), E.put b I, b, _, ?_, Env.put_le (fun J hJ => by rw [g1] at hJ; cases hJ; exact Info.le_refl _), rfl, ?_⟩
      ·simp [Instr.storeAt, Instr.sureAddr, Result.andThen, storeVar, run_sizeOf hti, hl2, hst]
      ·have hW' := setRow_heap W B cur ((cur.toList.take o ++ d.cells.toList ++ cur.toList.drop (o + d.cells.toList.length)).toArray) t' (0, 0) hh
       have hle : ∀ J, E.σ b = some J → J.le I := fun J hJ => by rw [g1] at hJ; cases hJ; exact Info.le_refl _
       have hEs := Env.put_le hle
       have hnew : ∀ n, n = k.cells.length → RLs (E.put b I) (splice k.cells o ds) (((cur.toList.take o ++ d.cells.toList ++ cur.toList.drop (o + d.cells.toList.length)).toArray).toList.take n) := by
        intro n hn
        subst hn
        have r1 := (RLs.splice (E := E) g8 x1 o)
        refine RLs.mono hEs _ _ ?_
        have e : (((cur.toList.take o ++ d.cells.toList ++ cur.toList.drop (o + d.cells.toList.length)).toArray).toList.take k.cells.length) =
          ((cur.toList.take k.cells.length).take o ++ d.cells.toList ++ (cur.toList.take k.cells.length).drop (o + d.cells.toList.length)) := by
         apply List.ext_getElem?
         intro i
         simp only [List.getElem?_take, List.getElem?_append, List.getElem?_drop, List.length_append, List.length_take, Array.length_toList, List.toList_toArray]
         have hl3 : d.cells.size = ds.length := by rw [← Array.length_toList, hlen]
         repeat' split
         all_goals first | rfl | omega | (simp only [Array.getElem?_toList]; congr 1; omega) | skip
         all_goals (exfalso; omega)
        rw [e]; exact r1
       have hput := h.put (W' := W.setRow B ((cur.toList.take o ++ d.cells.toList ++ cur.toList.drop (o + d.cells.toList.length)).toArray)) b I (k.put (splice k.cells o ds)) (some B) hle g2
        (fun B' e => by cases e; exact ⟨I, g1, g2, g4⟩) ⟨rfl, rfl, rfl, by simp [World.setRow], fun k' _ hk' => setRow_other W B k' _ (fun e => hk' (by rw [e]))⟩
        (fun B' e => .inr ⟨I, g1, g2, e⟩) (by
         have hsp := splice_length (cs := k.cells) hfit
         have hspl := splice_leaf (o := o) g7 x2
         have hcs : ((cur.toList.take o ++ d.cells.toList ++ cur.toList.drop (o + d.cells.toList.length)).toArray).size = cur.size := by
          have hl3 : d.cells.size = ds.length := by rw [← Array.length_toList, hlen]
          simp; omega
         cases k with
         | dead => cases hver
         | box cs =>
          obtain ⟨a1, a2, a3, _⟩ := g9
          simp only [Blk.put, Blk.cells] at *
          exact ⟨a1, a2, a3, B, _, t', g4, hW', by rw [hcs, hsp]; exact g6, hspl, hnew _ hsp⟩
         | arr te e v cs =>
          obtain ⟨a1, a2, a3, a4, a5, ⟨n, a6⟩, a7⟩ := g9
          simp only [Blk.put, Blk.cells] at *
          refine ⟨a1, a2, a3, a4, hspl, ⟨n, by rw [hsp]; exact a6⟩, .inr ?_⟩
          rcases a7 with ⟨a7, _⟩ | ⟨B', cur', b1, b2, b3, b4, b5, b6⟩
          ·rw [g4] at a7; cases a7
          ·rw [g4] at b1; cases b1
           rw [hh] at b2; cases b2
           exact ⟨B, _, g4, hW', by rw [hcs]; exact b3, b4, by rw [hcs, hsp]; exact b5, hnew _ hsp⟩)
       rw [Nat.max_eq_left (by omega)] at hput
       exact hput
    ·cases hfx
   ·cases hfx
  ·cases hfx
 ·cases hfx
end
end Go.Abs
namespace Go.Abs
set_option linter.unusedVariables false
set_option linter.unusedSimpArgs false
section
variable {P : Program} {C : Cx} {E : Env} {mem : Nat → Option Blk} {nx : Nat} {W : World}

theorem sc_leaf_all {zs : List Value} (h : zs.all Value.flat1 = true) : (zs.map V.sc).all V.leaf = true := by
 simpa [List.all_map, Function.comp_def, V.leaf] using h
theorem RLs.sc (E : Env) : ∀ (zs : List Value), RLs E (zs.map V.sc) zs
 | [] => by simp [RLs]
 | z :: zs => by simp only [List.map_cons, RLs]; exact ⟨z, zs, rfl, by simp [RL], RLs.sc E zs⟩

theorem alloc_ok (h : InvM C E mem nx W) {id : Nat} (hid : mem id = none) (hlt : id < nx) {t : TypeId} {fx : Fx} (hfx : fxAlloc P t id = some fx) (old : Value) : Out C E mem nx fx ((Instr.alloc t true old).run P W) := by
 unfold fxAlloc at hfx
 split at hfx
 ·rename_i ti hti
  split at hfx
  ·rename_i hz
   cases hfx
   obtain ⟨z, z1, z2⟩ := run_zero (P := P) (W := W) hti
   obtain ⟨E', e1, e2, e3⟩ := h.newBox (arr := z.cells) hid hlt t (by rw [z2]; exact RLs.sc E _) (sc_leaf_all hz)
   exact ⟨_, _, E', by simp [Instr.alloc, z1, Result.andThen, newVar, newRow], e1, e2, e3⟩
  ·cases hfx
 ·cases hfx
theorem box_ok (h : InvM C E mem nx W) {id : Nat} (hid : mem id = none) (hlt : id < nx) (t : TypeId) {x : V} {c : Value} (hx : RL E x c) {fx : Fx} (hfx : fxBox x id = some fx) : Out C E mem nx fx ((Instr.box t c).run P W) := by
 unfold fxBox at hfx
 split at hfx
 ·rename_i cs hcs
  cases hfx
  obtain ⟨x1, x2, x3⟩ := cells_of hx hcs
  obtain ⟨E', e1, e2, e3⟩ := h.newBox (arr := c.cells) hid hlt t x1 x2
  exact ⟨_, _, E', by simp [Instr.box, Result.andThen, newVar, newRow], e1, e2, e3⟩
 ·cases hfx
theorem pick_ok (h : InvM C E mem nx W) {c a b : V} {c' a' b' : Value} (hc : RL E c c') (ha : RL E a a') (hb : RL E b b') {fx : Fx} (hfx : fxPick c a b = some fx) :
  ∃ t, c' = .bool t ∧ Out C E mem nx fx (.ok (if t then a' else b') W) := by
 unfold fxPick at hfx
 split at hfx
 ·rename_i t
  cases hfx
  simp only [RL] at hc
  refine ⟨t, hc, Out.same h rfl ?_⟩
  cases t
  ·exact hb
  ·exact ha
 ·cases hfx

theorem fill_ok {E : Env} {place : Nat → Option (Nat × Nat)} {cplace : Nat → Option (Nat × Nat)} (hp : ∀ i x, place i = some x → cplace i = some x) : ∀ (parts : List (Nat × V)) (cparts : List (Nat × Value)) (cells : List V) (arr : Array Value) (out : List V),
  RLs E cells arr.toList → cells.all V.leaf = true → cparts.length = parts.length → (∀ (k : Nat) i v, parts[k]? = some (i, v) → ∃ d, cparts[k]? = some (i, d) ∧ RL E v d) → fillV place cells parts = some out →
  ∃ arr', Instr.fill cplace arr cparts = some arr' ∧ RLs E out arr'.toList ∧ out.all V.leaf = true ∧ out.length = cells.length
 | [], cparts, cells, arr, out, h1, h2, hl, h3, hf => by
  have : cparts = [] := List.eq_nil_of_length_eq_zero (by simpa using hl)
  subst this
  simp [fillV] at hf; subst hf
  exact ⟨arr, rfl, h1, h2, rfl⟩
 | (i, v) :: rest, cparts, cells, arr, out, h1, h2, hl, h3, hf => by
  cases cparts with
  | nil => simp at hl
  | cons cp crest =>
   obtain ⟨d, g1, g2⟩ := h3 0 i v (by simp)
   simp at g1; subst g1
   unfold fillV at hf
   split at hf
   ·rename_i off size ds q1 q2
    split at hf
    ·rename_i hc
     obtain ⟨c1, c2⟩ := hc
     obtain ⟨x1, x2, x3⟩ := cells_of g2 q2
     have hlen := RLs.length _ _ x1
     have hlen1 := RLs.length _ _ h1
     have hds : d.cells.size = ds.length := by rw [← Array.length_toList, hlen]
     have hfold : ∀ (l : List Value) (a : Array Value) (k : Nat), off + k + l.length ≤ a.size → (l.zipIdx k).foldl (fun cs (p : Value × Nat) => cs.setIfInBounds (off + p.2) p.1) a = (a.toList.take (off + k) ++ l ++ a.toList.drop (off + k + l.length)).toArray := by
      intro l
      induction l with
      | nil => intro a k hk; simp
      | cons x xs ih =>
       intro a k hk
       simp only [List.zipIdx_cons, List.foldl_cons]
       simp at hk
       rw [ih _ _ (by simp; omega)]
       congr 1
       apply List.ext_getElem?
       intro j
       simp only [Array.toList_setIfInBounds, List.length_append, List.getElem?_append, List.getElem?_take, List.getElem?_drop, List.length_take, List.length_set, Array.length_toList, List.getElem?_set, List.length_cons, List.getElem?_cons]
       repeat' split
       all_goals first | rfl | omega | (congr 1; omega) | skip
       all_goals (exfalso; omega)
     have hsp : (d.cells.zipIdx.foldl (fun cs (c, j) => cs.setIfInBounds (off + j) c) arr) = (arr.toList.take off ++ d.cells.toList ++ arr.toList.drop (off + d.cells.toList.length)).toArray := by
      have := hfold d.cells.toList arr 0 (by simp at hlen1 ⊢; omega)
      simp only [Nat.add_zero] at this
      rw [← this, ← Array.foldl_toList]
      simp
     obtain ⟨arr', r1, r2, r3, r4⟩ := fill_ok hp rest crest _ (arr.toList.take off ++ d.cells.toList ++ arr.toList.drop (off + d.cells.toList.length)).toArray out (by simpa using RLs.splice h1 x1 off) (splice_leaf h2 x2) (by simpa using hl)
      (fun k i v hk => by simpa using h3 (k + 1) i v (by simpa using hk)) hf
     refine ⟨arr', ?_, r2, r3, by rw [r4, splice_length c2]⟩
     unfold Instr.fill
     rw [hp i _ q1]
     simp only []
     rw [if_neg (by simp at hlen1; simp; omega), hsp]
     exact r1
    ·cases hf
   ·cases hf

theorem getElem?_fields (fs : Array Field) (i : Nat) : (fs.toList.map fun f => (f.offset, f.type))[i]? = (fs[i]?).map fun f => (f.offset, f.type) := by simp

theorem parts_ok {a : Act} {ev : Operand → V} (hev : ∀ x, RL E (ev x) (a.eval x)) (parts : Array (Nat × Operand)) :
  ((parts.map fun (i, x) => (i, a.eval x)).toList.length = (parts.toList.map fun p => (p.1, ev p.2)).length) ∧
  ∀ (k : Nat) i v, (parts.toList.map fun p => (p.1, ev p.2))[k]? = some (i, v) → ∃ d, (parts.map fun (i, x) => (i, a.eval x)).toList[k]? = some (i, d) ∧ RL E v d := by
 refine ⟨by simp, fun k i v hk => ?_⟩
 simp at hk
 obtain ⟨j, x, h1, rfl, rfl⟩ := hk
 exact ⟨a.eval x, by simp [h1], hev x⟩

theorem run_places' : ∀ (fs : List Field), (fs.map fun f => (f.offset, f.type)).all (fun (f : Nat × TypeId) => (tiOf P f.2).isSome) = true →
  ∃ places, (fs.mapM fun f => (do pure (f.offset, ← sizeOf f.type) : Sem (Nat × Nat))).run P W = .ok places W ∧
   ∀ (i : Nat), (places : List (Nat × Nat))[i]? = ((fs.map fun f => (f.offset, f.type))[i]?).bind fun (f : Nat × TypeId) => (tiOf P f.2).map fun j => (f.1, j.size)
 | [], _ => ⟨[], by simp, by simp⟩
 | f :: fs, h => by
  simp only [List.map_cons, List.all_cons, Bool.and_eq_true] at h
  obtain ⟨h1, h2⟩ := h
  obtain ⟨places, p1, p2⟩ := run_places' fs h2
  cases hti : tiOf P f.type with
  | none => rw [hti] at h1; cases h1
  | some ti =>
   refine ⟨(f.offset, ti.size) :: places, ?_, fun i => ?_⟩
   ·simp only [List.mapM_cons, Sem.run_bind, run_sizeOf hti, Result.andThen, Sem.run_pure, p1]
   ·cases i with
    | zero => simp [hti]
    | succ i => simpa using p2 i

theorem build_ok (h : InvM C E mem nx W) {t : TypeId} {parts : List (Nat × V)} {cparts : Array (Nat × Value)} (hl : cparts.toList.length = parts.length) (hp : ∀ (k : Nat) i v, parts[k]? = some (i, v) → ∃ d, cparts.toList[k]? = some (i, d) ∧ RL E v d)
  {fx : Fx} (hfx : fxBuild P t parts = some fx) : Out C E mem nx fx ((Instr.build t cparts).run P W) := by
 unfold fxBuild at hfx
 split at hfx
 ·rename_i ti hti
  split at hfx
  ·rename_i hz
   obtain ⟨z, z1, z2⟩ := run_zero (P := P) (W := W) hti
   obtain ⟨i, d, z', i1, i2, i3, i4, i5, i6, i7⟩ := ti_info hti
   have hcells : RLs E (ti.zero.map V.sc) z.cells.toList := by rw [z2]; exact RLs.sc E _
   split at hfx
   ·rename_i fs hk
    rw [i7] at hk
    cases d <;> simp [tkOf] at hk
    rename_i fields
    split at hfx
    ·rename_i hall
     cases hf : fillV (fun i => (fs[i]?).bind fun f => (tiOf P f.2).map fun j => (f.1, j.size)) (ti.zero.map V.sc) parts with
     | none => rw [hf] at hfx; cases hfx
     | some cs =>
      rw [hf] at hfx; cases hfx
      subst hk
      obtain ⟨places, p1, p2⟩ := run_places' (P := P) (W := W) fields.toList hall
      obtain ⟨arr, a1, a2, a3, a4⟩ := fill_ok (E := E) (cplace := fun i => places.toArray[i]?) (fun i x hx => by simp only [List.getElem?_toArray]; rw [p2 i]; exact hx) parts cparts.toList _ z.cells cs hcells (sc_leaf_all hz) hl hp hf
      refine Out.same h (c := .agg arr) ?_ (by simp only [RL]; exact ⟨arr.toList, by simp, a2, a3⟩)
      simp only [Instr.build, Sem.run_bind, z1, Result.andThen, run_underlying i2, Array.mapM_eq_mapM_toList, Sem.run_map, p1, a1, Sem.run_pure]
    ·cases hfx
   ·rename_i n e hk
    rw [i7] at hk
    cases d <;> simp [tkOf] at hk
    obtain ⟨rfl, rfl⟩ := hk
    split at hfx
    ·rename_i j hj
     cases hf : fillV (fun i => some (i * j.size, j.size)) (ti.zero.map V.sc) parts with
     | none => rw [hf] at hfx; cases hfx
     | some cs =>
      rw [hf] at hfx; cases hfx
      obtain ⟨arr, a1, a2, a3, a4⟩ := fill_ok (E := E) (cplace := fun i => some (i * j.size, j.size)) (fun i x hx => hx) parts cparts.toList _ z.cells cs hcells (sc_leaf_all hz) hl hp hf
      refine Out.same h (c := .agg arr) ?_ (by simp only [RL]; exact ⟨arr.toList, by simp, a2, a3⟩)
      simp only [Instr.build, Sem.run_bind, z1, Result.andThen, run_underlying i2, run_sizeOf hj, a1, Sem.run_pure]
    ·cases hfx
   ·cases hfx
  ·cases hfx
 ·cases hfx

theorem buildSlice_ok (h : InvM C E mem nx W) {id : Nat} (hid : mem id = none) (hlt : id < nx) {t : TypeId} {len : Nat} {parts : List (Nat × V)} {cparts : Array (Nat × Value)} (hl : cparts.toList.length = parts.length) (hp : ∀ (k : Nat) i v, parts[k]? = some (i, v) → ∃ d, cparts.toList[k]? = some (i, d) ∧ RL E v d)
  {fx : Fx} (hfx : fxBuildSlice P t len parts id = some fx) : Out C E mem nx fx ((Instr.buildSlice t len cparts).run P W) := by
 unfold fxBuildSlice at hfx
 split at hfx
 ·rename_i te hk
  obtain ⟨ti, d, k1, k2, k3, k4⟩ := tk_und hk
  cases d <;> simp [tkOf] at k3
  subst k3
  split at hfx
  ·rename_i j hj
   split at hfx
   ·rename_i hc
    obtain ⟨c1, c2, c3, c4⟩ := hc
    cases hf : fillV (fun i => some (i * j.size, j.size)) ((List.replicate len (j.zero.map V.sc)).flatten) parts with
    | none => rw [hf] at hfx; cases hfx
    | some cs =>
     rw [hf] at hfx; cases hfx
     obtain ⟨z, z1, z2⟩ := run_zero (P := P) (W := W) hj
     have hzs : z.cells.size = j.size := by rw [← Array.length_toList, z2, c4]
     have hrow : ∀ n, RLs E ((List.replicate n (j.zero.map V.sc)).flatten) ((Array.range (n * j.size)).map (fun i => z.cells[i % z.cells.size]!)).toList := by
      intro n
      have : ((Array.range (n * j.size)).map (fun i => z.cells[i % z.cells.size]!)).toList = (List.replicate n j.zero).flatten := by
       rw [← z2, ← hzs]
       induction n with
       | zero => simp
       | succ n ih =>
        rw [List.replicate_succ', List.flatten_append, ← ih]
        simp only [Array.toList_map, Array.toList_range, Nat.succ_mul, List.range_add, List.map_append, List.map_map, List.flatten_cons, List.flatten_nil, List.append_nil, Nat.add_mul, Nat.one_mul]
        congr 1
        apply List.ext_getElem?
        intro i
        simp only [List.getElem?_map, Function.comp_def]
        by_cases hi : i < z.cells.size
        ·rw [List.getElem?_range hi]
         simp only [Option.map_some, Nat.mul_add_mod_self_right, Nat.mod_eq_of_lt hi]
         simp [hi]
        ·rw [List.getElem?_eq_none (by simp; omega), List.getElem?_eq_none (by simp; omega)]; rfl
      rw [this]
      have hm : (List.replicate n (j.zero.map V.sc)).flatten = ((List.replicate n j.zero).flatten).map V.sc := by
       rw [List.map_flatten, List.map_replicate]
      rw [hm]
      exact RLs.sc E _
     have hleaf : ((List.replicate len (j.zero.map V.sc)).flatten).all V.leaf = true := by
      rw [List.all_eq_true]
      intro x hx
      rw [List.mem_flatten] at hx
      obtain ⟨l, l1, l2⟩ := hx
      rw [(List.mem_replicate.1 l1).2] at l2
      exact List.all_eq_true.1 (sc_leaf_all (by simpa using c3)) x l2
     obtain ⟨arr, a1, a2, a3, a4⟩ := fill_ok (E := E) (cplace := fun i => some (i * j.size, j.size)) (fun i x hx => hx) parts cparts.toList _ _ cs (hrow len) hleaf hl hp hf
     have hcl : cs.length = len * j.size := by rw [a4]; simp [List.length_flatten, c4]
     have har : arr.size = len * j.size := by rw [← Array.length_toList, RLs.length _ _ a2, hcl]
     obtain ⟨E', e1, e2, e3⟩ := h.newArr (arr := arr) (te := te) (len := len) (cap := len) hid hlt c1 hcl har (by unfold maxLen; have := Nat.le_mul_of_pos_right len c1; omega) (Nat.le_refl _) (by rw [List.take_of_length_le (by simp; omega)]; exact a2) a3
     refine ⟨_, _, E', ?_, e1, e2, e3⟩
     have hn : ¬ (len * j.size > 2 ^ 24) := by omega
     by_cases h0 : len * j.size = 0
     ·rw [h0] at a1
      have r0 : Array.range 0 = #[] := rfl
      simp only [r0, Array.map_empty] at a1
      simp [Instr.buildSlice, run_underlying k2, Result.andThen, run_sizeOf hj, h0, newRow, a1, r0]
     ·simp [Instr.buildSlice, run_underlying k2, Result.andThen, run_sizeOf hj, hn, h0, z1, a1, newRow]
   ·cases hfx
  ·cases hfx
 ·cases hfx
end
end Go.Abs
namespace Go.Abs
set_option linter.unusedVariables false
set_option linter.unusedSimpArgs false
section
variable {P : Program} {C : Cx} {E : Env} {mem : Nat → Option Blk} {nx : Nat} {W : World}

theorem Out.sc {u : Value} {r : Result Value} (h : InvM C E mem nx W) (hr : r = .ok u W) : Out C E mem nx ⟨.sc u, none⟩ r := Out.same h hr (by simp [RL])
theorem RL.ptr_shift {b ver o : Nat} {c : Value} (h : RL E (.ptr b ver o) c) : ∃ B, c = .pointer (some ⟨B, o, none⟩) ∧ ∀ o', RL E (.ptr b ver o') (.pointer (some ⟨B, o', none⟩)) := by
 simp only [RL] at h
 obtain ⟨B, rfl, I, h1, h2⟩ := h
 exact ⟨B, rfl, fun o' => by simp only [RL]; exact ⟨B, rfl, I, h1, h2⟩⟩

theorem nilCheck_ok (h : InvM C E mem nx W) {x : V} {c : Value} (hx : RL E x c) {fx : Fx} (hfx : fxNilCheck x = some fx) (ρ : Operand → Value) (o : Oper) (y : Operand) (ho : o.op = .nilCheck y) (hy : ρ y = c) :
  ∃ c', (execOp ρ o).run P W = .ok (.value c') W ∧ Out C E mem nx fx (.ok c' W) := by
 unfold fxNilCheck at hfx
 split at hfx
 ·rename_i b ver off
  cases hfx
  obtain ⟨B, rfl, _⟩ := hx.ptr_shift
  exact ⟨_, by simp [execOp, ho, hy], Out.same h rfl hx⟩
 ·cases hfx
  have hx' := hx
  simp only [RL] at hx
  obtain ⟨B, off, rfl, _⟩ := hx
  exact ⟨_, by simp [execOp, ho, hy], Out.same h rfl hx'⟩
 ·rename_i f caps
  cases hfx
  have hx' := hx
  simp only [RL] at hx
  obtain ⟨ds, rfl, _⟩ := hx
  exact ⟨_, by simp [execOp, ho, hy], Out.same h rfl hx'⟩
 ·cases hfx

theorem fields_get {fields : Array Field} {f : Nat} {off : Nat} {ft : TypeId} (h : (fields.toList.map fun f => (f.offset, f.type))[f]? = some (off, ft)) : ∃ g, fields[f]? = some g ∧ g.offset = off ∧ g.type = ft := by
 simp at h
 cases hg : fields[f]? with
 | none => rw [hg] at h; simp at h
 | some g => rw [hg] at h; simp at h; exact ⟨g, rfl, h.1, h.2⟩

theorem fieldAddr_ok (h : InvM C E mem nx W) {s : TypeId} {x : V} {f : Nat} {c : Value} (hx : RL E x c) {fx : Fx} (hfx : fxFieldAddr P s x f = some fx) : Out C E mem nx fx ((Instr.fieldAt s c f).run P W) := by
 unfold fxFieldAddr at hfx
 split at hfx
 ·rename_i fs hk
  obtain ⟨ti, d, k1, k2, k3, k4⟩ := tk_und hk
  cases d <;> simp [tkOf] at k3
  rename_i fields
  subst k3
  split at hfx
  ·rename_i off ft hf
   obtain ⟨g, g1, rfl, rfl⟩ := fields_get hf
   split at hfx
   ·rename_i j hj
    split at hfx
    ·cases hfx
    ·rename_i hz
     have run : ∀ B o, (Instr.fieldAt s (.pointer (some ⟨B, o, none⟩)) f).run P W = .ok (.pointer (some ⟨B, o + g.offset, none⟩)) W := by
      intro B o
      simp [Instr.fieldAt, run_underlying k2, Result.andThen, g1, Instr.sureAddr, fieldPlace, run_sizeOf hj, hz, addr_add]
     split at hfx
     ·rename_i b ver o
      cases hfx
      obtain ⟨B, rfl, q⟩ := hx.ptr_shift
      exact Out.same h (run B o) (q _)
     ·rename_i cs
      cases hfx
      simp only [RL] at hx
      obtain ⟨B, o, rfl, q1, q2⟩ := hx
      refine Out.same h (run B o) ?_
      simp only [RL]
      exact ⟨B, o + g.offset, rfl, q1.drop _, all_drop q2 _⟩
     ·cases hfx
   ·cases hfx
  ·cases hfx
 ·cases hfx

theorem part_ok {t : TypeId} {ti : TI} (hti : tiOf P t = some ti) {cs : List V} {ds : List Value} (hr : RLs E cs ds) (hl : cs.all V.leaf = true) {off : Nat} {v : V}
  (hv : (if ti.k.isAgg then (if off + ti.size ≤ cs.length then some (V.agg ((cs.drop off).take ti.size)) else none) else cs[off]?) = some v) :
  ∃ c, (part t ds.toArray off).run P W = .ok c W ∧ RL E v c := by
 unfold part
 simp only [Sem.run_bind, run_isAgg hti, Result.andThen]
 by_cases ha : ti.k.isAgg = true
 ·simp only [ha, if_true] at hv ⊢
  split at hv
  ·cases hv
   refine ⟨.agg ((ds.drop off).take ti.size).toArray, ?_, ?_⟩
   ·simp [run_sizeOf hti, Result.andThen, List.extract_eq_take_drop]
   ·simp only [RL]
    exact ⟨_, rfl, (hr.drop _).take _, all_take (all_drop hl _) _⟩
  ·cases hv
 ·simp only [ha, Bool.false_eq_true, if_false] at hv ⊢
  obtain ⟨d, d1, d2⟩ := RLs.get _ _ hr off v hv
  exact ⟨d, by simp [d1], d2⟩

theorem field_ok (h : InvM C E mem nx W) {t : TypeId} {x : V} {f : Nat} {c : Value} (hx : RL E x c) {fx : Fx} (hfx : fxField P t x f = some fx) : Out C E mem nx fx ((Instr.field t c f).run P W) := by
 unfold fxField at hfx
 split at hfx
 ·rename_i fs cs hk
  obtain ⟨ti, d, k1, k2, k3, k4⟩ := tk_und hk
  cases d <;> simp [tkOf] at k3
  rename_i fields
  subst k3
  simp only [RL] at hx
  obtain ⟨ds, rfl, x1, x2⟩ := hx
  split at hfx
  ·rename_i off ft hf
   obtain ⟨g, g1, rfl, rfl⟩ := fields_get hf
   split at hfx
   ·rename_i j hj
    have hv : ∃ v, (if j.k.isAgg then (if g.offset + j.size ≤ cs.length then some (V.agg ((cs.drop g.offset).take j.size)) else none) else cs[g.offset]?) = some v ∧ fx = ⟨v, none⟩ := by
     split at hfx
     ·rename_i ha
      split at hfx
      ·rename_i hle; cases hfx; exact ⟨_, by rw [if_pos ha, if_pos hle], rfl⟩
      ·cases hfx
     ·rename_i ha
      cases hc : cs[g.offset]? with
      | none => rw [hc] at hfx; cases hfx
      | some v => rw [hc] at hfx; cases hfx; exact ⟨v, by rw [if_neg ha], rfl⟩
    obtain ⟨v, hv, rfl⟩ := hv
    obtain ⟨c', r1, r2⟩ := part_ok (P := P) (W := W) hj x1 x2 hv
    refine Out.same h ?_ r2
    simp [Instr.field, run_underlying k2, Result.andThen, g1, asAgg, r1]
   ·cases hfx
  ·cases hfx
 ·cases hfx

theorem indexAddr_ok (h : InvM C E mem nx W) {t : TypeId} {x i : V} {c ci : Value} (hx : RL E x c) (hi : RL E i ci) {fx : Fx} (hfx : fxIndexAddr P t x i = some fx) : Out C E mem nx fx ((Instr.indexAt t c ci).run P W) := by
 unfold fxIndexAddr at hfx
 split at hfx
 ·rename_i kk n
  simp only [RL] at hi
  subst hi
  split at hfx
  ·rename_i te hk
   obtain ⟨ti, d, k1, k2, k3, k4⟩ := tk_und hk
   cases d <;> simp [tkOf] at k3
   subst k3
   split at hfx
   ·rename_i j hj
    split at hfx
    ·rename_i new e m cs
     split at hfx
     ·rename_i hc
      obtain ⟨c1, c2, rfl⟩ := hc
      cases hfx
      simp only [RL] at hx
      obtain ⟨a, cap, rfl, q1, q2, q3, q4⟩ := hx
      rcases q4 with q4 | ⟨B, o, rfl, q5, q6⟩
      ·omega
      ·refine Out.same h (c := .pointer (some ⟨B, o + n.toNat * j.size, none⟩)) ?_ ?_
       ·simp [Instr.indexAt, asIntOf, run_underlying k2, Result.andThen, c1, c2, run_sizeOf hj, addr_add]
       ·simp only [RL]
        exact ⟨B, _, rfl, (q6.drop _).take _, all_take (all_drop q3 _) _⟩
     ·cases hfx
    ·rename_i b ver e off len
     split at hfx
     ·rename_i hc
      obtain ⟨rfl, c1, c2⟩ := hc
      cases hfx
      simp only [RL] at hx
      obtain ⟨a, cap, rfl, q1, q2, q3, I, q4⟩ := hx
      rcases q3 with ⟨_, _, q3, _⟩ | ⟨B, rfl⟩
      ·omega
      ·refine Out.same h (c := .pointer (some ⟨B, (off + n.toNat) * j.size, none⟩)) ?_ ?_
       ·simp [Instr.indexAt, asIntOf, run_underlying k2, Result.andThen, c1, c2, run_sizeOf hj, addr_add, Nat.add_mul]
       ·simp only [RL]
        refine ⟨B, rfl, I, q4.1, ?_⟩
        rcases q4.2 with q5 | ⟨q5, q6⟩
        ·exact .inl q5
        ·refine .inr ⟨q5, fun e => ?_⟩
         obtain ⟨_, q7⟩ := q6 e
         rcases q7 with ⟨_, q7⟩ | ⟨B', q7, q8, _⟩
         ·cases q7
         ·cases q8; exact q7
     ·cases hfx
    ·cases hfx
   ·cases hfx
  ·rename_i len te hk
   obtain ⟨ti, d, k1, k2, k3, k4⟩ := tk_und hk
   cases d <;> simp [tkOf] at k3
   obtain ⟨rfl, rfl⟩ := k3
   split at hfx
   ·rename_i j hj
    split at hfx
    ·rename_i hc
     obtain ⟨c1, c2⟩ := hc
     have run : ∀ B o, (Instr.indexAt t (.pointer (some ⟨B, o, none⟩)) (.int kk n)).run P W = .ok (.pointer (some ⟨B, o + n.toNat * j.size, none⟩)) W := by
      intro B o
      simp [Instr.indexAt, asIntOf, run_underlying k2, Result.andThen, Instr.sureAddr, c1, c2, run_sizeOf hj, addr_add]
     split at hfx
     ·rename_i b ver o
      cases hfx
      obtain ⟨B, rfl, q⟩ := hx.ptr_shift
      exact Out.same h (run B o) (q _)
     ·rename_i cs
      cases hfx
      simp only [RL] at hx
      obtain ⟨B, o, rfl, q1, q2⟩ := hx
      refine Out.same h (run B o) ?_
      simp only [RL]
      exact ⟨B, _, rfl, q1.drop _, all_drop q2 _⟩
     ·cases hfx
    ·cases hfx
   ·cases hfx
  ·cases hfx
 ·cases hfx

theorem index_ok (h : InvM C E mem nx W) {t : TypeId} {x i : V} {c ci : Value} (hx : RL E x c) (hi : RL E i ci) {fx : Fx} (hfx : fxIndex P t x i = some fx) : Out C E mem nx fx ((Instr.index t c ci).run P W) := by
 unfold fxIndex at hfx
 split at hfx
 ·rename_i kk n len te cs hk
  simp only [RL] at hi
  subst hi
  obtain ⟨ti, d, k1, k2, k3, k4⟩ := tk_und hk
  cases d <;> simp [tkOf] at k3
  obtain ⟨rfl, rfl⟩ := k3
  simp only [RL] at hx
  obtain ⟨ds, rfl, x1, x2⟩ := hx
  split at hfx
  ·rename_i j hj
   split at hfx
   ·rename_i hc
    obtain ⟨c1, c2⟩ := hc
    have hv : ∃ v, (if j.k.isAgg then (if n.toNat * j.size + j.size ≤ cs.length then some (V.agg ((cs.drop (n.toNat * j.size)).take j.size)) else none) else cs[n.toNat * j.size]?) = some v ∧ fx = ⟨v, none⟩ := by
     split at hfx
     ·rename_i ha
      split at hfx
      ·rename_i hle; cases hfx; exact ⟨_, by rw [if_pos ha, if_pos hle], rfl⟩
      ·cases hfx
     ·rename_i ha
      cases hcs : cs[n.toNat * j.size]? with
      | none => rw [hcs] at hfx; cases hfx
      | some v => rw [hcs] at hfx; cases hfx; exact ⟨v, by rw [if_neg ha], rfl⟩
    obtain ⟨v, hv, rfl⟩ := hv
    obtain ⟨c', r1, r2⟩ := part_ok (P := P) (W := W) hj x1 x2 hv
    refine Out.same h ?_ r2
    simp [Instr.index, asIntOf, run_underlying k2, Result.andThen, c1, c2, run_sizeOf hj, r1]
   ·cases hfx
  ·cases hfx
 ·rename_i kk n s hk
  simp only [RL] at hi hx
  subst hi
  subst hx
  obtain ⟨ti, d, k1, k2, k3, k4⟩ := tk_und hk
  cases d <;> simp [tkOf] at k3
  split at hfx
  ·rename_i hc
   obtain ⟨c1, c2⟩ := hc
   cases hfx
   refine Out.same h (c := .int .u8 (s.get! n.toNat).toNat) ?_ (by simp only [RL])
   have e : s[n.toNat]? = some (s.get! n.toNat) := by
    rw [getElem?_pos s n.toNat c2]
    simp [ByteArray.get!, getElem!_def, ByteArray.getElem_eq_getElem_data, c2]
   simp [Instr.index, asIntOf, run_underlying k2, Result.andThen, c1, e]
  ·cases hfx
 ·cases hfx

theorem extract_ok (h : InvM C E mem nx W) {x : V} {i : Nat} {c : Value} (hx : RL E x c) {fx : Fx} (hfx : fxExtract x i = some fx) : Out C E mem nx fx ((Instr.extract c i).run P W) := by
 unfold fxExtract at hfx
 split at hfx
 ·rename_i vs
  simp only [RL] at hx
  obtain ⟨ds, rfl, x1⟩ := hx
  cases hv : vs[i]? with
  | none => rw [hv] at hfx; cases hfx
  | some v =>
   rw [hv] at hfx; cases hfx
   obtain ⟨d, d1, d2⟩ := RLs.get _ _ x1 i v hv
   exact Out.same h (by simp [Instr.extract, d1]) d2
 ·cases hfx

theorem convert_ok (h : InvM C E mem nx W) {s d : TypeId} {x : V} {c : Value} (hx : RL E x c) {fx : Fx} (hfx : fxConvert P s d x = some fx) : Out C E mem nx fx ((convert s d c).run P W) := by
 unfold fxConvert at hfx
 split at hfx
 ·rename_i k0 k kk n hs hd
  cases hfx
  simp only [RL] at hx
  subst hx
  obtain ⟨ti, ds, k1, k2, k3, k4⟩ := tk_und hs
  obtain ⟨ti', dd, k1', k2', k3', k4'⟩ := tk_und hd
  cases ds <;> simp [tkOf] at k3
  cases dd <;> simp [tkOf] at k3'
  subst k3'
  exact Out.sc h (by simp [convert, run_underlying k2, run_underlying k2', Result.andThen, Conv.intToInt])
 ·cases hfx

theorem un_ok (h : InvM C E mem nx W) {op : UnOp} {x v : V} {c : Value} (hx : RL E x c) (hv : evUn op x = some v) : Out C E mem nx ⟨v, none⟩ ((Op.unary op c).run P W) := by
 unfold evUn at hv
 split at hv
 ·cases hv
  simp only [RL] at hx
  subst hx
  exact Out.sc h (by simp [Op.unary, Op.intArith])
 ·simp only [RL] at hx
  subst hx
  simp [evInt] at hv
  subst hv
  exact Out.sc h (by simp [Op.unary, Op.intBits])
 ·cases hv
  simp only [RL] at hx
  subst hx
  exact Out.sc h (by simp [Op.unary])
 ·cases hv

theorem run_eq_bool {t : TypeId} {a b : Bool} (h : P.underlying t = some .bool) : (Op.equal t (.bool a) (.bool b)).run P W = .ok (a == b) W := by
 show (Op.equalIn (9999 + 1) t (.bool a) (.bool b)).run P W = _
 rw [Op.equalIn]
 simp only [Sem.run_bind, run_underlying h, Result.andThen, Sem.run_pure]

theorem bin_ok (h : InvM C E mem nx W) {op : BinOp} {t : TypeId} {x y v : V} {c d : Value} (xo yo : Operand) (hx : RL E x c) (hy : RL E y d) (hv : evBin (tkAt P t) op x y = some v) :
  Out C E mem nx ⟨v, none⟩ ((do eqGuard op t xo yo c d; binOp op t c d : Sem Value).run P W) := by
 unfold evBin at hv
 split at hv
 ·rename_i k a k' b
  simp only [RL] at hx hy
  subst hx; subst hy
  have hg : ((eqGuard op t xo yo (.int k a) (.int k' b))).run P W = .ok () W := by
   unfold eqGuard; split <;> simp
  simp only [Sem.run_bind, hg, Result.andThen]
  split at hv
  ·rename_i hs
   unfold evShift at hv
   split at hv
   ·cases hv
   ·rename_i hy0
    cases op <;> simp [BinOp.isShift] at hs <;> simp at hv <;> subst hv
    ·exact Out.sc h (by simp [binOp, Op.shift, hy0])
    ·exact Out.sc h (by simp [binOp, Op.shift, hy0])
  ·split at hv
   ·rename_i hs hk
    subst hk
    cases op <;> simp [BinOp.isShift] at hs <;> simp [evInt] at hv
    all_goals first
     | (subst hv; exact Out.sc h (by simp [binOp, Op.intArith, Op.intCmp, Op.intBits]))
     | (obtain ⟨h0, rfl⟩ := hv; exact Out.sc h (by simp [binOp, Op.intDiv, h0]))
   ·cases hv
 ·rename_i a b
  simp only [RL] at hx hy
  subst hx; subst hy
  have hg : ((eqGuard op t xo yo (.bool a) (.bool b))).run P W = .ok () W := by
   unfold eqGuard; split <;> simp
  simp only [Sem.run_bind, hg, Result.andThen]
  have und : tkAt P t = some .bool → P.underlying t = some .bool := by
   intro hk
   obtain ⟨ti, d, k1, k2, k3, k4⟩ := tk_und hk
   cases d <;> simp [tkOf] at k3
   exact k2
  split at hv
  ·split at hv
   ·rename_i hk
    cases hv
    exact Out.sc h (by simp only [binOp, Sem.run_bind, run_eq_bool (und hk), Result.andThen, Sem.run_pure])
   ·cases hv
  ·split at hv
   ·rename_i hk
    cases hv
    exact Out.sc h (by simp only [binOp, Sem.run_bind, run_eq_bool (und hk), Result.andThen, Sem.run_pure, bne])
   ·cases hv
  ·cases hv
 ·cases hv
end
end Go.Abs
namespace Go.Abs
set_option linter.unusedVariables false
set_option linter.unusedSimpArgs false
section
variable {P : Program} {C : Cx} {E : Env} {mem : Nat → Option Blk} {nx : Nat} {W : World}

theorem zrow_ok {E : Env} {z : Value} {zero : List Value} {size : Nat} (z2 : z.cells.toList = zero) (hzs : z.cells.size = size) (hz : zero.all Value.flat1 = true) (n : Nat) :
  RLs E ((List.replicate n (zero.map V.sc)).flatten) ((Array.range (n * size)).map (fun i => z.cells[i % z.cells.size]!)).toList ∧ ((List.replicate n (zero.map V.sc)).flatten).all V.leaf = true ∧ ((List.replicate n (zero.map V.sc)).flatten).length = n * size := by
 have hzl : zero.length = size := by rw [← z2]; simpa using hzs
 refine ⟨?_, ?_, ?_⟩
 ·have : ((Array.range (n * size)).map (fun i => z.cells[i % z.cells.size]!)).toList = (List.replicate n zero).flatten := by
   rw [← z2, ← hzs]
   induction n with
   | zero => simp
   | succ n ih =>
    rw [List.replicate_succ', List.flatten_append, ← ih]
    simp only [Array.toList_map, Array.toList_range, Nat.succ_mul, List.range_add, List.map_append, List.map_map, List.flatten_cons, List.flatten_nil, List.append_nil, Nat.add_mul, Nat.one_mul]
    congr 1
    apply List.ext_getElem?
    intro i
    simp only [List.getElem?_map, Function.comp_def]
    by_cases hi : i < z.cells.size
    ·rw [List.getElem?_range hi]
     simp only [Option.map_some, Nat.mul_add_mod_self_right, Nat.mod_eq_of_lt hi]
     simp [hi]
    ·rw [List.getElem?_eq_none (by simp; omega), List.getElem?_eq_none (by simp; omega)]; rfl
  rw [this]
  have hm : (List.replicate n (zero.map V.sc)).flatten = ((List.replicate n zero).flatten).map V.sc := by
   rw [List.map_flatten, List.map_replicate]
  rw [hm]
  exact RLs.sc E _
 ·rw [List.all_eq_true]
  intro x hx
  rw [List.mem_flatten] at hx
  obtain ⟨l, l1, l2⟩ := hx
  rw [(List.mem_replicate.1 l1).2] at l2
  exact List.all_eq_true.1 (sc_leaf_all hz) x l2
 ·simp [List.length_flatten, hzl]

theorem roomy_spec {n b : Nat} (h : roomy n b = true) : n * b ≤ 140737488355328 ∧ n ≤ 140737488355328 := by simpa [roomy] using h

theorem makeSlice_ok (h : InvM C E mem nx W) {id : Nat} (hid : mem id = none) (hlt : id < nx) {t : TypeId} {l c : V} {cl cc : Value} (hl : RL E l cl) (hc : RL E c cc) {fx : Fx} (hfx : fxMakeSlice P t l c id = some fx) :
  Out C E mem nx fx ((Instr.makeSlice t cl cc).run P W) := by
 unfold fxMakeSlice at hfx
 split at hfx
 ·rename_i te k1 l k2 c hk
  obtain ⟨ti, d, k1, k2, k3, k4⟩ := tk_und hk
  cases d <;> simp [tkOf] at k3
  subst k3
  simp only [RL] at hl hc
  subst hl; subst hc
  split at hfx
  ·rename_i j hj
   split at hfx
   ·rename_i hcc
    obtain ⟨c1, c2, c3, c4, c5, c6⟩ := hcc
    cases hfx
    obtain ⟨r1, r2⟩ := roomy_spec c4
    obtain ⟨z, z1, z2⟩ := run_zero (P := P) (W := W) hj
    obtain ⟨i, d, z', i1, i2, i3, i4, i5, i6, i7⟩ := ti_info hj
    have hzs : z.cells.size = j.size := by rw [← Array.length_toList, z2, c6]
    obtain ⟨q1, q2, q3⟩ := zrow_ok (E := E) z2 hzs (by simpa using c5) l.toNat
    obtain ⟨p1, p2, p3⟩ := zrow_ok (E := E) z2 hzs (by simpa using c5) c.toNat
    have hle : l.toNat * j.size ≤ c.toNat * j.size := Nat.mul_le_mul_right _ (by omega)
    obtain ⟨E', e1, e2, e3⟩ := h.newArr (arr := (Array.range (c.toNat * j.size)).map (fun i => z.cells[i % z.cells.size]!)) (te := te) (len := l.toNat) (cap := c.toNat) hid hlt c1 q3 (by simp) (by unfold maxLen; omega) (by omega)
     (by
      have : (((Array.range (c.toNat * j.size)).map (fun i => z.cells[i % z.cells.size]!)).toList).take (((List.replicate l.toNat (j.zero.map V.sc)).flatten).length) = ((Array.range (l.toNat * j.size)).map (fun i => z.cells[i % z.cells.size]!)).toList := by
       rw [q3]
       simp only [Array.toList_map, Array.toList_range]
       rw [← List.map_take, List.take_range, Nat.min_eq_left hle]
      rw [this]; exact q1) q2
    refine ⟨_, _, E', ?_, e1, e2, e3⟩
    have w1 : IntKind.i64.wrap l = l := IntWalk.i64_in _ (by omega)
    have w2 : IntKind.i64.wrap c = c := IntWalk.i64_in _ (by omega)
    have hb : (j.bytes : Int) * c ≤ 281474976710656 := by
     have e : ((c.toNat : Int)) = c := Int.toNat_of_nonneg (by omega)
     have this := Int.ofNat_le.2 r1
     rw [Int.natCast_mul, e, Int.mul_comm] at this
     omega
    have hcond : ¬ (c < 0 ∨ 281474976710656 < (i.bytes : Int) * c) := by rw [i5]; omega
    have n1 : ¬ (l < 0) := by omega
    have n2 : ¬ (l > c) := by omega
    have n3 : ¬ (c < 0) := by omega
    have n4 : ¬ (281474976710656 < (i.bytes : Int) * c) := by rw [i5]; omega
    by_cases h0 : c.toNat * j.size = 0
    ·have hc0 : c.toNat = 0 := by
      rcases Nat.mul_eq_zero.1 h0 with h | h
      ·exact h
      ·omega
     have r0 : Array.range 0 = #[] := rfl
     simp [Instr.makeSlice, run_underlying k2, Result.andThen, asInt, asIntOf, run_typeInfo i1, w1, w2, n1, n2, n3, n4, run_sizeOf hj, h0, newRow, r0, hc0]
    ·simp [Instr.makeSlice, run_underlying k2, Result.andThen, asInt, asIntOf, run_typeInfo i1, w1, w2, n1, n2, n3, n4, run_sizeOf hj, h0, newRow, z1]
   ·cases hfx
  ·cases hfx
 ·cases hfx

theorem len_ok (h : InvM C E mem nx W) {ts : Array TypeId} {ty : TypeId} {x : V} {c : Value} (hx : RL E x c) {id : Nat} {fx : Fx} (hfx : evBuiltin P .len ts [x] mem id = some fx) : Out C E mem nx fx ((Builtin.len_ ts ty #[c]).run P W) := by
 unfold evBuiltin at hfx
 simp only [] at hfx
 split at hfx
 ·rename_i t n ht hn
  have hslice : ∀ te, tkAt P t = some (.sli te) → P.underlying t = some (.slice te) := by
   intro te hk
   obtain ⟨ti, d, k1, k2, k3, k4⟩ := tk_und hk
   cases d <;> simp [tkOf] at k3
   subst k3; exact k2
  split at hfx
  ·rename_i te hk
   cases hfx
   simp only [RL] at hx; subst hx
   simp [lenV] at hn; subst hn
   exact Out.sc h (by simp [Builtin.len_, ht, run_underlying (hslice _ hk), Result.andThen, goInt])
  ·rename_i te b ver e off len hk
   cases hfx
   simp [lenV] at hn; subst hn
   simp only [RL] at hx
   obtain ⟨a, cap, rfl, _⟩ := hx
   exact Out.sc h (by simp [Builtin.len_, ht, run_underlying (hslice _ hk), Result.andThen, goInt])
  ·rename_i te new e m cs hk
   cases hfx
   simp [lenV] at hn; subst hn
   simp only [RL] at hx
   obtain ⟨a, cap, rfl, _⟩ := hx
   exact Out.sc h (by simp [Builtin.len_, ht, run_underlying (hslice _ hk), Result.andThen, goInt])
  ·rename_i s hk
   cases hfx
   simp only [RL] at hx; subst hx
   simp [lenV] at hn; subst hn
   have hs : P.underlying t = some .string := by
    obtain ⟨ti, d, k1, k2, k3, k4⟩ := tk_und hk
    cases d <;> simp [tkOf] at k3
    exact k2
   exact Out.sc h (by simp [Builtin.len_, ht, run_underlying hs, Result.andThen, goInt])
  ·cases hfx
 ·cases hfx

theorem src_ok (h : InvM C E mem nx W) {e : Nat} (he : 0 < e) {x : V} {c : Value} (hx : RL E x c) {n : Nat} {ys : List V} (hs : srcV mem e x = some (n, ys)) :
  ∃ a cap, c = .slice a n cap ∧ n ≤ cap ∧ ys.length = n * e ∧ ys.all V.leaf = true ∧ (n = 0 ∨ ∃ B o ds, a = some ⟨B, o, none⟩ ∧ RLs E ys ds ∧ CellsAt W B o ds) := by
 unfold srcV at hs
 split at hs
 ·rename_i new e' n' cs
  split at hs
  ·rename_i he'
   subst he'
   cases hs
   simp only [RL] at hx
   obtain ⟨a, cap, rfl, q1, q2, q3, q4⟩ := hx
   refine ⟨a, cap, rfl, q1, q2, q3, ?_⟩
   rcases q4 with q4 | ⟨B, o, rfl, q5, q6⟩
   ·exact .inl q4
   ·obtain ⟨ds, d1, d2⟩ := RF.list _ _ q6
    exact .inr ⟨B, o, ds, rfl, d1, fun j d hj => h.frz _ _ _ (d2 j d hj)⟩
  ·cases hs
 ·cases hs
  simp only [RL] at hx
  exact ⟨none, 0, hx, Nat.le_refl _, by simp, by simp, .inl rfl⟩
 ·rename_i b ver e0 off len
  split at hs
  ·rename_i te e' v cs hkk
   split at hs
   ·rename_i hc
    obtain ⟨rfl, rfl, rfl, hfit⟩ := hc
    cases hs
    obtain ⟨I, g1, g2⟩ := h.blk b _ hkk
    obtain ⟨a1, a2, a3, a4, a5, a6, a7⟩ := g2
    simp only [RL] at hx
    obtain ⟨a, cap, rfl, x1, x2, x3, J, j1, j2⟩ := hx
    rw [g1] at j1; cases j1
    have hlen : ((cs.drop (off * e0)).take (n * e0)).length = n * e0 := by simp; omega
    refine ⟨a, cap, rfl, x1, hlen, all_take (all_drop a5 _) _, ?_⟩
    rcases j2 with j2 | ⟨j2, j3⟩
    ·rw [a1] at j2; cases j2
    ·obtain ⟨j4, j5⟩ := j3 a2.symm
     rcases j5 with ⟨j5, rfl⟩ | ⟨B, j5, rfl, j7⟩
     ·rcases x3 with ⟨_, _, x3, _⟩ | ⟨B, x3⟩
      ·exact .inl x3
      ·cases x3
     ·refine .inr ?_
      rcases a7 with ⟨a7, _⟩ | ⟨B', cur, b1, b2, b3, b4, b5, b6⟩
      ·rw [a7] at j5; cases j5
      ·rw [j5] at b1
       obtain rfl : B = B' := Option.some.inj b1
       refine ⟨B, off * e0, _, rfl, (b6.drop (off * e0)).take (n * e0), ?_⟩
       intro j d hj
       rw [List.getElem?_take] at hj
       split at hj
       ·exact cellsAt_heap b2 (off * e0) cs.length j d hj
       ·cases hj
   ·cases hs
  ·cases hs
 ·cases hs

theorem cells_flat {E : Env} : ∀ {cs : List V} {ds : List Value}, RLs E cs ds → cs.all V.leaf = true → ∀ d ∈ ds, d.flat1 = true
 | [], ds, h, _, d, hd => by simp only [RLs] at h; subst h; cases hd
 | x :: xs, ds, h, hl, d, hd => by
  simp only [RLs] at h
  obtain ⟨d', ds', rfl, h1, h2⟩ := h
  simp only [List.all_cons, Bool.and_eq_true] at hl
  rcases List.mem_cons.1 hd with rfl | hd
  ·exact RL.flat1 h1 hl.1
  ·exact cells_flat h2 hl.2 d hd

theorem append_ok (h : InvM C E mem nx W) {id : Nat} (hid : mem id = none) (hlt : id < nx) {t ty : TypeId} {s x : V} {c d : Value} (hs : RL E s c) (hx : RL E x d)
  {fx : Fx} (hfx : evAppend P t s x mem id = some fx) : Out C E mem nx fx ((Builtin.append_ #[t, t] ty #[c, d]).run P W) := by
 unfold evAppend at hfx
 split at hfx
 ·rename_i te ht
  obtain ⟨ti0, dd0, k1, k2, k3, k4⟩ := tk_und ht
  cases dd0 <;> simp [tkOf] at k3
  subst k3
  split at hfx
  ·rename_i tie hte
   split at hfx
   ·rename_i hc
    obtain ⟨c1, c2⟩ := hc
    split at hfx
    ·rename_i n ys hsrc
     obtain ⟨a, capx, rfl, q1, q2, q3, q4⟩ := src_ok h c1 hx hsrc
     obtain ⟨i, dd, z, i1, i2, i3, i4, i5, i6, i7⟩ := ti_info hte
     have hzs : z.cells.size = tie.size := by rw [← Array.length_toList, i6, c2]
     -- the cells of the new elements, where there are some
     split at hfx
     ·-- onto nil
      split at hfx
      ·cases hfx
      ·rename_i hn0
       split at hfx
       ·rename_i hroom
        cases hfx
        obtain ⟨r1, r2⟩ := roomy_spec hroom
        simp only [RL] at hs
        subst hs
        rcases q4 with q4 | ⟨B, o, ds, rfl, d1, d2⟩
        ·exact absurd q4 hn0
        have dl := RLs.length _ _ d1
        obtain ⟨v', W', a1, a2, a3, a4, a5⟩ := run_append_own_at (P := P) W W.heap.size t ty te i z tie.size tie.bytes k2 i1 i3 i4 i5 hzs c1 (.slice none 0 0) 0 [] (World.ownsRow_nil W _ te tie.size) ⟨B, o, none⟩ n capx ds
         (by rw [dl, q2]) (fun j u hj => by rw [addr_add]; exact d2 j u hj) (fun u hu => by rw [← flat1_eq]; exact (cells_flat d1 q3) u hu) (by unfold maxLen; omega) (by simpa using r1) (Nat.le_refl _)
        simp only [Nat.zero_add, List.nil_append] at a2
        obtain ⟨b1, b2⟩ := a2
        rcases b2 with ⟨_, b2⟩ | ⟨g, cap, cur, rfl, g1, g2, g3, g4, g5, g6⟩
        ·exact absurd b2 hn0
        have hs0 : ∀ J, E.σ id = some J → J.le ⟨false, some g, tie.size, cap, 0⟩ := fun J hJ => by
         obtain ⟨k', hk'⟩ := h.dom id J hJ
         rw [hid] at hk'; cases hk'
        have hcl : ys.length ≤ cur.size := by rw [q2, g5]; exact Nat.mul_le_mul_right _ g3
        have put := h.put (W' := W') id ⟨false, some g, tie.size, cap, 0⟩ (.arr te tie.size 0 ys) none hs0 rfl (fun B hB => by cases hB) a3
         (fun B hB => by cases hB; exact .inl g1) ⟨rfl, rfl, rfl, c1, q3, ⟨n, q2⟩, .inr ⟨g, cur, rfl, g2, g5, g4, hcl, by
          rw [q2, g6]; exact RLs.mono (Env.put_le hs0) _ _ d1⟩⟩
        rw [Nat.max_eq_left (by omega)] at put
        refine ⟨_, W', _, a1, Env.put_le hs0, put, ?_⟩
        simp only [RL]
        exact ⟨_, cap, rfl, g3, c1, .inr ⟨g, by simp⟩, ⟨false, some g, tie.size, cap, 0⟩, by simp [Env.put, upd], .inr ⟨Nat.le_refl _, fun _ => ⟨rfl, .inr ⟨g, rfl, by simp, by simp⟩⟩⟩⟩
       ·cases hfx
     ·rename_i b ver e0 len
      split at hfx
      ·rename_i te' e v cs hkk
       split at hfx
       ·rename_i hcc
        obtain ⟨rfl, rfl, rfl, rfl, hfull, hroom⟩ := hcc
        cases hfx
        obtain ⟨r1, r2⟩ := roomy_spec hroom
        obtain ⟨I, g1, g2⟩ := h.blk b _ hkk
        obtain ⟨a1, a2, a3, a4, a5, a6, a7⟩ := g2
        have hb := h.nx b _ hkk
        simp only [RL] at hs
        obtain ⟨sa, scap, rfl, s1, s2, s3, J, j1, j2⟩ := hs
        rw [g1] at j1; cases j1
        rcases j2 with j2 | ⟨j2, j3⟩
        ·rw [a1] at j2; cases j2
        obtain ⟨j4, j50⟩ := j3 a2.symm
        -- nil, or at the head of its block
        have j5 : (I.blk = none ∧ sa = none ∧ len = 0 ∧ scap = 0) ∨ ∃ B, I.blk = some B ∧ sa = some ⟨B, 0, none⟩ ∧ scap = I.cap := by
         rcases j50 with ⟨j5, rfl⟩ | ⟨B, j5, rfl, j7⟩
         ·rcases s3 with ⟨_, _, s4, s5⟩ | ⟨B, s3⟩
          ·exact .inl ⟨j5, rfl, s4, s5⟩
          ·cases s3
         ·exact .inr ⟨B, j5, by simp, by omega⟩
        clear j50 j3
        have hleaf : (cs ++ ys).all V.leaf = true := by simp only [List.all_append, a5, q3, Bool.and_self]
        have hlen : (cs ++ ys).length = (len + n) * tie.size := by rw [List.length_append, hfull, q2, Nat.add_mul]
        -- the row as it stands
        have own : ∃ ds, RLs E cs ds ∧ W.ownsRow 0 te' tie.size (.slice sa len scap) len ds ∧ Value.ownBlock (.slice sa len scap) = I.blk := by
         rcases j5 with ⟨j5, rfl, rfl, rfl⟩ | ⟨B, j5, rfl, rfl⟩
         ·have : cs = [] := List.eq_nil_of_length_eq_zero (by rw [hfull]; simp)
          subst this
          exact ⟨[], by simp [RLs], World.ownsRow_nil W _ te' tie.size, by rw [j5]; rfl⟩
         ·rcases a7 with ⟨a7, _⟩ | ⟨B', cur, b1, b2, b3, b4, b5, b6⟩
          ·rw [a7] at j5; cases j5
          ·rw [j5] at b1
           obtain rfl : B = B' := Option.some.inj b1
           exact ⟨_, b6, ⟨by rw [RLs.length _ _ b6, hfull], .inr ⟨B, I.cap, cur, rfl, Nat.zero_le _, b2, s1, b4, b3, by rw [hfull]⟩⟩, by rw [j5]; rfl⟩
        obtain ⟨ds, o1, o2, o3⟩ := own
        by_cases hn0 : n = 0
        ·-- nothing is added: the slice stays
         subst hn0
         have hy : ys = [] := List.eq_nil_of_length_eq_zero (by rw [q2]; simp)
         subst hy
         have hle' : I.le { I with ver := I.ver + 1 } := .inr (.inr ⟨a1, by simp⟩)
         have hs0 : ∀ J, E.σ b = some J → J.le { I with ver := I.ver + 1 } := fun J hJ => by rw [g1] at hJ; cases hJ; exact hle'
         have put := h.put (W' := W) b { I with ver := I.ver + 1 } (.arr te' tie.size (v + 1) (cs ++ [])) none hs0 a1 (fun B hB => by cases hB) ⟨rfl, rfl, rfl, Nat.le_refl _, fun _ _ _ => rfl⟩
          (fun B hB => .inr ⟨I, g1, a1, hB⟩) ⟨a1, by simp [a2], a3, a4, by rw [List.append_nil]; exact a5, by rw [List.append_nil]; exact a6, by
           rcases a7 with ⟨a7, a8⟩ | ⟨B', cur, b1, b2, b3, b4, b5, b6⟩
           ·exact .inl ⟨a7, by simp [a8]⟩
           ·exact .inr ⟨B', cur, b1, b2, b3, b4, by simpa using b5, by simpa using RLs.mono (Env.put_le hs0) _ _ b6⟩⟩
         rw [Nat.max_eq_left (by omega)] at put
         refine ⟨.slice sa len scap, W, _, ?_, Env.put_le hs0, put, ?_⟩
         ·have hfc : ∀ (w : World), (Builtin.firstCells i.size 0 (.slice a 0 capx)).run P w = .ok #[] w := by
           intro w; cases a <;> simp [Builtin.firstCells, loadCells, loadCellsFrom]
          cases sa <;> simp [Builtin.append_, run_underlying k2, Result.andThen, sizeOf, run_typeInfo i1, Builtin.lenOf, s1, hfc, storeCells]
         ·show RL _ (.sl b (v + 1) tie.size 0 (len + 0)) _
          simp only [RL]
          refine ⟨sa, scap, rfl, s1, c1, by simpa using s3, { I with ver := I.ver + 1 }, by simp [Env.put, upd], .inr ⟨by simp [a2], fun _ => ⟨a3, ?_⟩⟩⟩
          rcases j5 with ⟨j5, rfl, _, _⟩ | ⟨B, j5, rfl, rfl⟩
          ·exact .inl ⟨j5, rfl⟩
          ·exact .inr ⟨B, j5, by simp, by simp⟩
        ·rcases q4 with q4 | ⟨B, o, es, rfl, d1, d2⟩
         ·exact absurd q4 hn0
         have dl := RLs.length _ _ d1
         obtain ⟨v', W', x1, x2, x3, x4, x5⟩ := run_append_own_at (P := P) W 0 t ty te' i z tie.size tie.bytes k2 i1 i3 i4 i5 hzs c1 (.slice sa len scap) len ds o2 ⟨B, o, none⟩ n capx es
          (by rw [dl, q2]) (fun j u hj => by rw [addr_add]; exact d2 j u hj) (fun u hu => by rw [← flat1_eq]; exact (cells_flat d1 q3) u hu) (by unfold maxLen; omega) r1 (Nat.zero_le _)
         obtain ⟨b1, b2⟩ := x2
         rcases b2 with ⟨_, b2⟩ | ⟨g, cap, cur, rfl, e1, e2, e3, e4, e5, e6⟩
         ·omega
         have hle' : I.le ⟨false, some g, tie.size, cap, I.ver + 1⟩ := .inr (.inr ⟨a1, by simp⟩)
         have hs0 : ∀ J, E.σ b = some J → J.le ⟨false, some g, tie.size, cap, I.ver + 1⟩ := fun J hJ => by rw [g1] at hJ; cases hJ; exact hle'
         have hcl : (cs ++ ys).length ≤ cur.size := by rw [hlen, e5]; exact Nat.mul_le_mul_right _ e3
         have put := h.put (W' := W') b ⟨false, some g, tie.size, cap, I.ver + 1⟩ (.arr te' tie.size (v + 1) (cs ++ ys)) (Value.ownBlock (.slice sa len scap)) hs0 rfl (fun B hB => ⟨I, g1, a1, by rw [← o3]; exact hB⟩) x3
          (fun B hB => by
           cases hB
           rcases x5 with x5 | x5
           ·exact .inr ⟨I, g1, a1, by rw [← o3, ← x5]; rfl⟩
           ·cases x5; exact .inl (Nat.le_refl _))
          ⟨rfl, by simp [a2], rfl, c1, hleaf, ⟨len + n, hlen⟩, .inr ⟨g, cur, rfl, e2, e5, e4, hcl, by
           rw [hlen, e6]; exact RLs.mono (Env.put_le hs0) _ _ (RLs.append o1 d1)⟩⟩
         rw [Nat.max_eq_left (by omega)] at put
         refine ⟨_, W', _, x1, Env.put_le hs0, put, ?_⟩
         simp only [RL]
         exact ⟨_, cap, rfl, e3, c1, .inr ⟨g, by simp⟩, ⟨false, some g, tie.size, cap, I.ver + 1⟩, by simp [Env.put, upd], .inr ⟨by simp [a2], fun _ => ⟨rfl, .inr ⟨g, rfl, by simp, by simp⟩⟩⟩⟩
       ·cases hfx
      ·cases hfx
     ·cases hfx
    ·cases hfx
   ·cases hfx
  ·cases hfx
 ·cases hfx
theorem bd_run {v : Option V} {c : Option Value} {d l m : Nat} (hv : ∀ x, v = some x → ∃ k, c = some k ∧ RL E x k) (hn : v = none → c = none) (hl : bdV d v = some l) (hm : l ≤ m) (code : BoundsCode) :
  (match c with | some x => Instr.sliceBound x m code | none => (pure d : Sem Nat)).run P W = .ok l W := by
 unfold bdV at hl
 split at hl
 ·cases hl; rw [hn rfl]; simp
 ·rename_i k n
  obtain ⟨k', rfl, hk⟩ := hv _ rfl
  simp only [RL] at hk
  subst hk
  split at hl
  ·cases hl
   rename_i h0
   simp only []
   unfold Instr.sliceBound
   simp [asIntOf, Result.andThen, h0]
   omega
  ·cases hl
 ·cases hl
theorem bounds_run {lo hi : Option V} {cl ch : Option Value} {len cap l u : Nat} (hlo : ∀ x, lo = some x → ∃ k, cl = some k ∧ RL E x k) (hlo' : lo = none → cl = none) (hhi : ∀ x, hi = some x → ∃ k, ch = some k ∧ RL E x k) (hhi' : hi = none → ch = none)
  (hl : bdV 0 lo = some l) (hu : bdV len hi = some u) (h1 : l ≤ u) (h2 : u ≤ cap) : (Instr.sliceBounds true len cap cl ch none).run P W = .ok (l, u, cap) W := by
 unfold Instr.sliceBounds
 have r1 := bd_run (P := P) (W := W) hhi hhi' hu h2 .sliceAcap
 have r2 := bd_run (P := P) (W := W) hlo hlo' hl h1 .sliceB
 cases ch <;> cases cl <;> simp_all [Result.andThen]
theorem slice_ok (h : InvM C E mem nx W) {t : TypeId} {x : V} {lo hi : Option V} {c : Value} {cl ch : Option Value} (hx : RL E x c) (hlo : ∀ x, lo = some x → ∃ k, cl = some k ∧ RL E x k) (hlo' : lo = none → cl = none) (hhi : ∀ x, hi = some x → ∃ k, ch = some k ∧ RL E x k) (hhi' : hi = none → ch = none)
  {fx : Fx} (hfx : fxSlice P t x lo hi = some fx) : Out C E mem nx fx ((Instr.sliceAt t c cl ch none).run P W) := by
 unfold fxSlice at hfx
 split at hfx
 ·rename_i te hk
  obtain ⟨ti, d, k1, k2, k3, k4⟩ := tk_und hk
  cases d <;> simp [tkOf] at k3
  subst k3
  split at hfx
  ·rename_i j hj
   split at hfx
   ·rename_i new e n cs
    split at hfx
    ·rename_i l u hl hu
     split at hfx
     ·rename_i hc
      obtain ⟨rfl, c1, c2⟩ := hc
      cases hfx
      simp only [RL] at hx
      obtain ⟨a, cap, rfl, q1, q2, q3, q4⟩ := hx
      have hb := bounds_run (P := P) (W := W) (cap := cap) hlo hlo' hhi hhi' hl hu c1 (by omega)
      refine Out.same h (c := .slice (if cap = l then a else a.map (·.add (l * j.size))) (u - l) (cap - l)) ?_ ?_
      ·simp [Instr.sliceAt, Instr.slice, run_underlying k2, Result.andThen, hb, run_sizeOf hj]
      ·simp only [RL]
       refine ⟨_, _, rfl, by omega, ?_, all_take (all_drop q3 _) _, ?_⟩
       ·rw [List.length_take, List.length_drop, q2, ← Nat.sub_mul]
        exact Nat.min_eq_left (Nat.mul_le_mul_right _ (by omega))
       ·by_cases hz : u - l = 0
        ·exact .inl hz
        ·right
         rcases q4 with q4 | ⟨B, o, rfl, q5, q6⟩
         ·omega
         ·refine ⟨B, o + l * j.size, ?_, q5, (q6.drop _).take _⟩
          rw [if_neg (by omega)]
          simp [addr_add]
     ·cases hfx
    ·cases hfx
   ·rename_i b ver e off len
    split at hfx
    ·rename_i l u hl hu
     simp only [RL] at hx
     obtain ⟨a, cap, rfl, q1, q2, q3, I, q4, q5⟩ := hx
     split at hfx
     ·rename_i hc
      obtain ⟨rfl, c1, c2⟩ := hc
      cases hfx
      have hb := bounds_run (P := P) (W := W) (cap := cap) hlo hlo' hhi hhi' hl hu (by omega) (by omega)
      refine Out.same h (c := .slice (if cap = l then a else a.map (·.add (l * j.size))) (u - l) (cap - l)) ?_ ?_
      ·simp [Instr.sliceAt, Instr.slice, run_underlying k2, Result.andThen, hb, run_sizeOf hj]
      ·rcases q3 with ⟨_, _, q3, _⟩ | ⟨B, rfl⟩
       ·omega
       ·rw [if_neg (by omega)]
        simp only [RL]
        refine ⟨_, _, rfl, by omega, q2, .inr ⟨B, by simp [addr_add, Nat.add_mul]⟩, I, q4, ?_⟩
        rcases q5 with q5 | ⟨q5, q6⟩
        ·exact .inl q5
        ·refine .inr ⟨q5, fun e => ?_⟩
         obtain ⟨q7, q8⟩ := q6 e
         refine ⟨q7, ?_⟩
         rcases q8 with ⟨_, q8⟩ | ⟨B', q8, q9, q10⟩
         ·cases q8
         ·cases q9
          exact .inr ⟨B, q8, by simp [addr_add, Nat.add_mul], by omega⟩
     ·split at hfx
      ·rename_i hc
       obtain ⟨rfl, c1, c2⟩ := hc
       cases hfx
       have hb := bounds_run (P := P) (W := W) (cap := cap) hlo hlo' hhi hhi' hl hu (by omega) (by omega)
       refine Out.same h (c := .slice (if cap = l then a else a.map (·.add (l * j.size))) (u - l) (cap - l)) ?_ ?_
       ·simp [Instr.sliceAt, Instr.slice, run_underlying k2, Result.andThen, hb, run_sizeOf hj]
       ·simp only [RL]
        exact ⟨_, _, by rw [show u - l = 0 by omega], by omega, by simp, by simp, by simp⟩
      ·cases hfx
    ·cases hfx
   ·cases hfx
  ·cases hfx
 ·cases hfx
end
end Go.Abs
