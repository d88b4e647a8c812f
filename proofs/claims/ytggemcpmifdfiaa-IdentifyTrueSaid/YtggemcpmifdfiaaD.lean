/- The plain functions that the program's functions compute. Conditions: as each theorem states them. -/
import Derived.Test.YtggemcpmifdfiaaA4
/-! Plain functions. -/
namespace Lf
open Go Go.Abs
set_option linter.unusedVariables false
structure num_Wide where
  Hi : Int
  Lo : NU64
  deriving DecidableEq
@[reducible] def num_Wide.tp (x : num_Wide) := (x.Hi, x.Lo)
instance : Cl num_Wide := Cl.iso num_Wide.tp (num_Wide.mk (Cl.d : Int) (Cl.d : NU64))
structure Bound where
  Lo : Int
  Hi : Int
  Unknown : Bool
  deriving DecidableEq
@[reducible] def Bound.tp (x : Bound) := (x.Lo, x.Hi, x.Unknown)
instance : Cl Bound := Cl.iso Bound.tp (Bound.mk (Cl.d : Int) (Cl.d : Int) (Cl.d : Bool))
structure change_ratios where
  lo : Int
  hi : Int
  under : Int
  above : Int
  deriving DecidableEq
@[reducible] def change_ratios.tp (x : change_ratios) := (x.lo, x.hi, x.under, x.above)
instance : Cl change_ratios := Cl.iso change_ratios.tp (change_ratios.mk (Cl.d : Int) (Cl.d : Int) (Cl.d : Int) (Cl.d : Int))
structure Vec where
  X : Int
  Y : Int
  Z : Int
  deriving DecidableEq
@[reducible] def Vec.tp (x : Vec) := (x.X, x.Y, x.Z)
instance : Cl Vec := Cl.iso Vec.tp (Vec.mk (Cl.d : Int) (Cl.d : Int) (Cl.d : Int))
structure Box where
  X : Bound
  Y : Bound
  Z : Bound
  deriving DecidableEq
@[reducible] def Box.tp (x : Box) := (x.X, x.Y, x.Z)
instance : Cl Box := Cl.iso Box.tp (Box.mk (Cl.d : Bound) (Cl.d : Bound) (Cl.d : Bound))
structure Seen where
  At : Bound
  From : Vec
  Box : Box
  Flux : Bound
  deriving DecidableEq
@[reducible] def Seen.tp (x : Seen) := (x.At, x.From, x.Box, x.Flux)
instance : Cl Seen := Cl.iso Seen.tp (Seen.mk (Cl.d : Bound) (Cl.d : Vec) (Cl.d : Box) (Cl.d : Bound))
structure Body where
  ID : Int
  Was : Vec
  Here : Vec
  Rate : Int
  deriving DecidableEq
@[reducible] def Body.tp (x : Body) := (x.ID, x.Was, x.Here, x.Rate)
instance : Cl Body := Cl.iso Body.tp (Body.mk (Cl.d : Int) (Cl.d : Vec) (Cl.d : Vec) (Cl.d : Int))
structure spymake_Stream where
  L : List Int
  at_ : Int
  deriving DecidableEq
@[reducible] def spymake_Stream.tp (x : spymake_Stream) := (x.L, x.at_)
instance : Cl spymake_Stream := Cl.iso spymake_Stream.tp (spymake_Stream.mk (Cl.d : List Int) (Cl.d : Int))
def tab1 : List UInt8 := [0, 1, 2, 2, 3, 3, 3, 3, 4, 4, 4, 4, 4, 4, 4, 4, 5, 5, 5, 5, 5, 5, 5, 5, 5, 5, 5, 5, 5, 5, 5, 5, 6, 6, 6, 6, 6, 6, 6, 6, 6, 6, 6, 6, 6, 6, 6, 6, 6, 6, 6, 6, 6, 6, 6, 6, 6, 6, 6, 6, 6, 6, 6, 6, 7, 7, 7, 7, 7, 7, 7, 7, 7, 7, 7, 7, 7, 7, 7, 7, 7, 7, 7, 7, 7, 7, 7, 7, 7, 7, 7, 7, 7, 7, 7, 7, 7, 7, 7, 7, 7, 7, 7, 7, 7, 7, 7, 7, 7, 7, 7, 7, 7, 7, 7, 7, 7, 7, 7, 7, 7, 7, 7, 7, 7, 7, 7, 7, 8, 8, 8, 8, 8, 8, 8, 8, 8, 8, 8, 8, 8, 8, 8, 8, 8, 8, 8, 8, 8, 8, 8, 8, 8, 8, 8, 8, 8, 8, 8, 8, 8, 8, 8, 8, 8, 8, 8, 8, 8, 8, 8, 8, 8, 8, 8, 8, 8, 8, 8, 8, 8, 8, 8, 8, 8, 8, 8, 8, 8, 8, 8, 8, 8, 8, 8, 8, 8, 8, 8, 8, 8, 8, 8, 8, 8, 8, 8, 8, 8, 8, 8, 8, 8, 8, 8, 8, 8, 8, 8, 8, 8, 8, 8, 8, 8, 8, 8, 8, 8, 8, 8, 8, 8, 8, 8, 8, 8, 8, 8, 8, 8, 8, 8, 8, 8, 8, 8, 8, 8, 8, 8, 8, 8, 8, 8, 8]
def bits_Len64 (x : Int) : Option Int :=
  if (decide (x ≥ 4294967296)) = true then if (decide ((Int.fdiv x (2 ^ 32)) ≥ 65536)) = true then if (decide ((Int.fdiv (Int.fdiv x (2 ^ 32)) (2 ^ 16)) ≥ 256)) = true then if (0 : Int) ≤ IntKind.wrap .u8 (Int.fdiv (Int.fdiv (Int.fdiv x (2 ^ 32)) (2 ^ 16)) (2 ^ 8)) ∧ (IntKind.wrap .u8 (Int.fdiv (Int.fdiv (Int.fdiv x (2 ^ 32)) (2 ^ 16)) (2 ^ 8))).toNat < tab1.length then letF (w6 ((w6 ((w6 (32 + 16)) + 8)) + (w6 (tabAt tab1 (IntKind.wrap .u8 (Int.fdiv (Int.fdiv (Int.fdiv x (2 ^ 32)) (2 ^ 16)) (2 ^ 8))))))) fun v5 => some v5 else none else if (0 : Int) ≤ IntKind.wrap .u8 (Int.fdiv (Int.fdiv x (2 ^ 32)) (2 ^ 16)) ∧ (IntKind.wrap .u8 (Int.fdiv (Int.fdiv x (2 ^ 32)) (2 ^ 16))).toNat < tab1.length then letF (w6 ((w6 (32 + 16)) + (w6 (tabAt tab1 (IntKind.wrap .u8 (Int.fdiv (Int.fdiv x (2 ^ 32)) (2 ^ 16))))))) fun v7 => some v7 else none else if (decide ((Int.fdiv x (2 ^ 32)) ≥ 256)) = true then if (0 : Int) ≤ IntKind.wrap .u8 (Int.fdiv (Int.fdiv x (2 ^ 32)) (2 ^ 8)) ∧ (IntKind.wrap .u8 (Int.fdiv (Int.fdiv x (2 ^ 32)) (2 ^ 8))).toNat < tab1.length then letF (w6 ((w6 (32 + 8)) + (w6 (tabAt tab1 (IntKind.wrap .u8 (Int.fdiv (Int.fdiv x (2 ^ 32)) (2 ^ 8))))))) fun v10 => some v10 else none else if (0 : Int) ≤ IntKind.wrap .u8 (Int.fdiv x (2 ^ 32)) ∧ (IntKind.wrap .u8 (Int.fdiv x (2 ^ 32))).toNat < tab1.length then letF (w6 (32 + (w6 (tabAt tab1 (IntKind.wrap .u8 (Int.fdiv x (2 ^ 32))))))) fun v12 => some v12 else none else if (decide (x ≥ 65536)) = true then if (decide ((Int.fdiv x (2 ^ 16)) ≥ 256)) = true then if (0 : Int) ≤ IntKind.wrap .u8 (Int.fdiv (Int.fdiv x (2 ^ 16)) (2 ^ 8)) ∧ (IntKind.wrap .u8 (Int.fdiv (Int.fdiv x (2 ^ 16)) (2 ^ 8))).toNat < tab1.length then letF (w6 ((w6 ((w6 (0 + 16)) + 8)) + (w6 (tabAt tab1 (IntKind.wrap .u8 (Int.fdiv (Int.fdiv x (2 ^ 16)) (2 ^ 8))))))) fun v16 => some v16 else none else if (0 : Int) ≤ IntKind.wrap .u8 (Int.fdiv x (2 ^ 16)) ∧ (IntKind.wrap .u8 (Int.fdiv x (2 ^ 16))).toNat < tab1.length then letF (w6 ((w6 (0 + 16)) + (w6 (tabAt tab1 (IntKind.wrap .u8 (Int.fdiv x (2 ^ 16))))))) fun v18 => some v18 else none else if (decide (x ≥ 256)) = true then if (0 : Int) ≤ IntKind.wrap .u8 (Int.fdiv x (2 ^ 8)) ∧ (IntKind.wrap .u8 (Int.fdiv x (2 ^ 8))).toNat < tab1.length then letF (w6 ((w6 (0 + 8)) + (w6 (tabAt tab1 (IntKind.wrap .u8 (Int.fdiv x (2 ^ 8))))))) fun v21 => some v21 else none else if (0 : Int) ≤ IntKind.wrap .u8 x ∧ (IntKind.wrap .u8 x).toNat < tab1.length then some (w6 (0 + (w6 (tabAt tab1 (IntKind.wrap .u8 x))))) else none
def bits_LeadingZeros64 (x : Int) : Option Int :=
  Option.bind (bits_Len64 x) fun r1 => some (w6 (64 - r1))
def bits_Div64.l2 (v7 : Int) (v8 : Int) (v14 : Int) (s28 : Int × Int) : Option (Step (Int × Int) Int) :=
  Option.bind (if (decide (s28.2 ≥ 4294967296)) = true then some true else letF (IntKind.wrap .u64 ((IntKind.wrap .u64 (4294967296 * s28.1)) + v14)) fun v32 => some (decide ((IntKind.wrap .u64 (s28.2 * v8)) > v32))) fun z30 : Bool => if z30 = true then letF (decide ((IntKind.wrap .u64 (s28.1 + (Int.fdiv v7 (2 ^ 32)))) ≥ 4294967296)) fun v34 => if v34 = true then some (.done (IntKind.wrap .u64 (s28.2 - 1))) else some (.next (IntKind.wrap .u64 (s28.1 + (Int.fdiv v7 (2 ^ 32))), IntKind.wrap .u64 (s28.2 - 1))) else some (.done s28.2)
def bits_Div64.l1 (v7 : Int) (v8 : Int) (v13 : Int) (s17 : Int × Int) : Option (Step (Int × Int) Int) :=
  Option.bind (if (decide (s17.1 ≥ 4294967296)) = true then some true else letF (IntKind.wrap .u64 ((IntKind.wrap .u64 (4294967296 * s17.2)) + (Int.fdiv v13 (2 ^ 32)))) fun v21 => some (decide ((IntKind.wrap .u64 (s17.1 * v8)) > v21))) fun z19 : Bool => if z19 = true then letF (decide ((IntKind.wrap .u64 (s17.2 + (Int.fdiv v7 (2 ^ 32)))) ≥ 4294967296)) fun v23 => if v23 = true then some (.done (IntKind.wrap .u64 (s17.1 - 1))) else some (.next (IntKind.wrap .u64 (s17.1 - 1), IntKind.wrap .u64 (s17.2 + (Int.fdiv v7 (2 ^ 32))))) else some (.done s17.1)
def bits_Div64 (hi : Int) (lo : Int) (y : Int) : Option (NU64 × NU64) :=
  if (y == 0) = true then none else if (decide (y ≤ hi)) = true then none else if (hi == 0) = true then if y ≠ 0 then some (NU64.mk (IntKind.wrap .u64 (Int.tdiv lo y)), NU64.mk (Int.tmod lo y)) else none else Option.bind (bits_LeadingZeros64 y) fun r5 => if (0 : Int) ≤ IntKind.wrap .u64 r5 then letF (IntKind.wrap .u64 (y * 2 ^ (min (IntKind.wrap .u64 r5).toNat (IntKind.bits .u64)))) fun v7 => letF (IntKind.wrap .u64 ((BitVec.ofInt 64 v7 &&& BitVec.ofInt 64 4294967295).toNat : Int)) fun v8 => letF (IntKind.wrap .u64 (hi * 2 ^ (min (IntKind.wrap .u64 r5).toNat (IntKind.bits .u64)))) fun v9 => if (0 : Int) ≤ IntKind.wrap .u64 (64 - (IntKind.wrap .u64 r5)) then letF (Int.fdiv lo (2 ^ (min (IntKind.wrap .u64 (64 - (IntKind.wrap .u64 r5))).toNat (IntKind.bits .u64)))) fun v11 => letF (IntKind.wrap .u64 ((BitVec.ofInt 64 v9 ||| BitVec.ofInt 64 v11).toNat : Int)) fun v12 => letF (IntKind.wrap .u64 (lo * 2 ^ (min (IntKind.wrap .u64 r5).toNat (IntKind.bits .u64)))) fun v13 => letF (IntKind.wrap .u64 ((BitVec.ofInt 64 v13 &&& BitVec.ofInt 64 4294967295).toNat : Int)) fun v14 => if (Int.fdiv v7 (2 ^ 32)) ≠ 0 then letF (IntKind.wrap .u64 ((IntKind.wrap .u64 (Int.tdiv v12 (Int.fdiv v7 (2 ^ 32)))) * (Int.fdiv v7 (2 ^ 32)))) fun v16 => Option.bind (loopF (bits_Div64.l1 v7 v8 v13) (IntKind.wrap .u64 (Int.tdiv v12 (Int.fdiv v7 (2 ^ 32))), IntKind.wrap .u64 (v12 - v16))) fun z18 : Int => letF (IntKind.wrap .u64 ((IntKind.wrap .u64 (v12 * 4294967296)) + (Int.fdiv v13 (2 ^ 32)))) fun v25 => letF (IntKind.wrap .u64 (Int.tdiv (IntKind.wrap .u64 (v25 - (IntKind.wrap .u64 (z18 * v7)))) (Int.fdiv v7 (2 ^ 32)))) fun v26 => letF (IntKind.wrap .u64 ((IntKind.wrap .u64 (v25 - (IntKind.wrap .u64 (z18 * v7)))) - (IntKind.wrap .u64 (v26 * (Int.fdiv v7 (2 ^ 32)))))) fun v27 => Option.bind (loopF (bits_Div64.l2 v7 v8 v14) (v27, v26)) fun z29 : Int => letF (IntKind.wrap .u64 ((IntKind.wrap .u64 (z18 * 4294967296)) + z29)) fun v36 => letF (IntKind.wrap .u64 ((IntKind.wrap .u64 (v25 - (IntKind.wrap .u64 (z18 * v7)))) * 4294967296)) fun v37 => letF (IntKind.wrap .u64 ((IntKind.wrap .u64 (v37 + v14)) - (IntKind.wrap .u64 (z29 * v7)))) fun v38 => letF (Int.fdiv v38 (2 ^ (min (IntKind.wrap .u64 r5).toNat (IntKind.bits .u64)))) fun v39 => some (NU64.mk v36, NU64.mk v39) else none else none else none
def Wide_Neg (w : num_Wide) : Option num_Wide :=
  letF (IntKind.wrap .u64 ((BitVec.ofInt 64 (18446744073709551615) ^^^ BitVec.ofInt 64 w.Lo.n).toNat : Int)) fun v1 => Option.bind (add64 v1 1 0) fun r2 => letF (IntKind.wrap .u64 ((BitVec.ofInt 64 (18446744073709551615) ^^^ BitVec.ofInt 64 (IntKind.wrap .u64 w.Hi)).toNat : Int)) fun v3 => Option.bind (add64 v3 0 r2.2) fun r4 => some (num_Wide.mk (w6 r4.1) (NU64.mk r2.1))
def Wide_Div (w : num_Wide) (d : Int) : Option (Int × Int) :=
  if (decide (d < 1)) = true then some (0, 1) else if (decide (w.Hi < 0)) = true then Option.bind (Wide_Neg w) fun r3 => if (decide ((IntKind.wrap .u64 r3.Hi) ≥ (IntKind.wrap .u64 d))) = true then some (0, 2) else Option.bind (bits_Div64 (IntKind.wrap .u64 r3.Hi) r3.Lo.n (IntKind.wrap .u64 d)) fun r5 => if (decide (w.Hi < 0)) = true then if (decide (r5.2.n > 0)) = true then letF (decide (r5.1.n > (IntKind.wrap .u64 (9223372036854775808 - 1)))) fun v8 => if v8 = true then some (0, 2) else if (decide (w.Hi ≥ 0)) = true then some (w6 r5.1.n, 0) else if (decide (r5.2.n > 0)) = true then some (w6 ((w6 (IntKind.wrap .u64 (0 - r5.1.n))) - 1), 0) else some (w6 (IntKind.wrap .u64 (0 - r5.1.n)), 0) else if (decide (r5.1.n > 9223372036854775808)) = true then some (0, 2) else if (decide (w.Hi ≥ 0)) = true then some (w6 r5.1.n, 0) else if (decide (r5.2.n > 0)) = true then some (w6 ((w6 (IntKind.wrap .u64 (0 - r5.1.n))) - 1), 0) else some (w6 (IntKind.wrap .u64 (0 - r5.1.n)), 0) else if (decide (r5.1.n > 9223372036854775807)) = true then some (0, 2) else if (decide (w.Hi ≥ 0)) = true then some (w6 r5.1.n, 0) else if (decide (r5.2.n > 0)) = true then some (w6 ((w6 (IntKind.wrap .u64 (0 - r5.1.n))) - 1), 0) else some (w6 (IntKind.wrap .u64 (0 - r5.1.n)), 0) else if (decide ((IntKind.wrap .u64 w.Hi) ≥ (IntKind.wrap .u64 d))) = true then some (0, 2) else Option.bind (bits_Div64 (IntKind.wrap .u64 w.Hi) w.Lo.n (IntKind.wrap .u64 d)) fun r19 => if (decide (w.Hi < 0)) = true then if (decide (r19.2.n > 0)) = true then letF (decide (r19.1.n > (IntKind.wrap .u64 (9223372036854775808 - 1)))) fun v22 => if v22 = true then some (0, 2) else if (decide (w.Hi ≥ 0)) = true then some (w6 r19.1.n, 0) else if (decide (r19.2.n > 0)) = true then some (w6 ((w6 (IntKind.wrap .u64 (0 - r19.1.n))) - 1), 0) else some (w6 (IntKind.wrap .u64 (0 - r19.1.n)), 0) else if (decide (r19.1.n > 9223372036854775808)) = true then some (0, 2) else if (decide (w.Hi ≥ 0)) = true then some (w6 r19.1.n, 0) else if (decide (r19.2.n > 0)) = true then some (w6 ((w6 (IntKind.wrap .u64 (0 - r19.1.n))) - 1), 0) else some (w6 (IntKind.wrap .u64 (0 - r19.1.n)), 0) else if (decide (r19.1.n > 9223372036854775807)) = true then some (0, 2) else if (decide (w.Hi ≥ 0)) = true then some (w6 r19.1.n, 0) else if (decide (r19.2.n > 0)) = true then some (w6 ((w6 (IntKind.wrap .u64 (0 - r19.1.n))) - 1), 0) else some (w6 (IntKind.wrap .u64 (0 - r19.1.n)), 0)
def cmp_isNaN (x : Int) : Option Bool :=
  some (x != x)
def num_size (a : Int) : Option NU64 :=
  if (decide (a < 0)) = true then some (NU64.mk (IntKind.wrap .u64 (0 - (IntKind.wrap .u64 a)))) else some (NU64.mk (IntKind.wrap .u64 a))
def bits_Mul64 (x : Int) (y : Int) : Option (NU64 × NU64) :=
  letF (IntKind.wrap .u64 ((BitVec.ofInt 64 x &&& BitVec.ofInt 64 4294967295).toNat : Int)) fun v1 => letF (IntKind.wrap .u64 ((BitVec.ofInt 64 y &&& BitVec.ofInt 64 4294967295).toNat : Int)) fun v2 => letF (IntKind.wrap .u64 ((IntKind.wrap .u64 ((Int.fdiv x (2 ^ 32)) * v2)) + (Int.fdiv (IntKind.wrap .u64 (v1 * v2)) (2 ^ 32)))) fun v3 => letF (IntKind.wrap .u64 ((BitVec.ofInt 64 v3 &&& BitVec.ofInt 64 4294967295).toNat : Int)) fun v4 => letF (IntKind.wrap .u64 (v4 + (IntKind.wrap .u64 (v1 * (Int.fdiv y (2 ^ 32)))))) fun v5 => letF (IntKind.wrap .u64 ((Int.fdiv x (2 ^ 32)) * (Int.fdiv y (2 ^ 32)))) fun v6 => letF (IntKind.wrap .u64 ((IntKind.wrap .u64 (v6 + (Int.fdiv v3 (2 ^ 32)))) + (Int.fdiv v5 (2 ^ 32)))) fun v7 => some (NU64.mk v7, NU64.mk (IntKind.wrap .u64 (x * y)))
def num_Product (a : Int) (b : Int) : Option num_Wide :=
  Option.bind (num_size a) fun r1 => Option.bind (num_size b) fun r2 => Option.bind (bits_Mul64 r1.n r2.n) fun r3 => if ((decide (a < 0)) != (decide (b < 0))) = true then Option.bind (Wide_Neg (num_Wide.mk (w6 r3.1.n) r3.2)) fun r5 => some r5 else some (num_Wide.mk (w6 r3.1.n) r3.2)
def num_MulDiv (a : Int) (b : Int) (c : Int) : Option (Int × Int) :=
  Option.bind (num_Product a b) fun r1 => Option.bind (Wide_Div r1 c) fun r2 => some (r2.1, r2.2)
def num_SqrtMul.l1 (r4 : NU64 × NU64) (s5 : Int × Int) : Option (Step (Int × Int) Int) :=
  if (decide (s5.2 > 0)) = true then Option.bind (letF (IntKind.wrap .u64 ((BitVec.ofInt 64 s5.1 ||| BitVec.ofInt 64 s5.2).toNat : Int)) fun v9 => letF (IntKind.wrap .u64 ((BitVec.ofInt 64 s5.1 ||| BitVec.ofInt 64 s5.2).toNat : Int)) fun v10 => Option.bind (bits_Mul64 v9 v10) fun r11 => Option.bind (if (decide (r11.1.n < r4.1.n)) = true then some true else if (r11.1.n == r4.1.n) = true then some (decide (r11.2.n ≤ r4.2.n)) else some false) fun z12 : Bool => if z12 = true then letF (IntKind.wrap .u64 ((BitVec.ofInt 64 s5.1 ||| BitVec.ofInt 64 s5.2).toNat : Int)) fun v16 => some v16 else some s5.1) fun z8 : Int => some (.next (z8, Int.fdiv s5.2 (2 ^ 1))) else some (.done s5.1)
def num_SqrtMul (a : Int) (b : Int) : Option Int :=
  Option.bind (if (decide (a < 0)) = true then some true else some (decide (b < 0))) fun z1 : Bool => if z1 = true then some 0 else Option.bind (bits_Mul64 (IntKind.wrap .u64 a) (IntKind.wrap .u64 b)) fun r4 => Option.bind (loopF (num_SqrtMul.l1 r4) (0, 4611686018427387904)) fun z6 : Int => some (w6 z6)
def cmp_Or.l1 (vals : List Int) (s1 : Int) : Option (Step Int (Step Unit Int)) :=
  if (decide (s1 < (vals.length : Int))) = true then if (0 : Int) ≤ s1 ∧ s1 < (vals.length : Int) then if ((gt vals s1) != 0) = true then some (.done (.done (gt vals s1))) else some (.next (w6 (s1 + 1))) else none else some (.done (.next ()))
def cmp_Or (vals : List Int) : Option Int :=
  seqF (loopF (cmp_Or.l1 vals) 0) fun z2 : Unit => some 0
def cmp_Compare (x : Int) (y : Int) : Option Int :=
  Option.bind (cmp_isNaN x) fun r1 => Option.bind (cmp_isNaN y) fun r2 => if r1 = true then if r2 = true then some 0 else some (-1) else if r2 = true then some 1 else if (decide (x < y)) = true then some (-1) else if (decide (x > y)) = true then some 1 else some 0
def bound_Check (b : Bound) : Option Int :=
  Option.bind (if b.Unknown = true then if (b.Lo != 0) = true then some true else some (b.Hi != 0) else some false) fun z1 : Bool => if z1 = true then some 3 else Option.bind (if (decide ((mn2 b.Lo b.Hi) < (-1152921504606846976))) = true then some true else some (decide ((mx2 b.Lo b.Hi) > 1152921504606846976))) fun z5 : Bool => if z5 = true then some 4 else if (decide (b.Lo > b.Hi)) = true then some 11 else some 0
def bound_None : Option Bound :=
  some (Bound.mk 0 0 true)
def bound_Norm (b : Bound) : Option Bound :=
  Option.bind (bound_Check b) fun r1 => if (r1 != 0) = true then Option.bind (bound_None) fun r3 => some r3 else some b
def bound_vague (a : Bound) (b : Bound) : Option Bool :=
  Option.bind (Option.bind (bound_Norm a) fun r2 => if r2.Unknown = true then some true else Option.bind (bound_Norm b) fun r4 => some r4.Unknown) fun z1 : Bool => some z1
def bound_Of (lo : Int) (hi : Int) : Option Bound :=
  Option.bind (bound_Norm (Bound.mk lo hi false)) fun r1 => some r1
def bound_Add (a : Bound) (b : Bound) : Option Bound :=
  Option.bind (bound_vague a b) fun r1 => if r1 = true then Option.bind (bound_None) fun r3 => some r3 else Option.bind (bound_Of (w6 (a.Lo + b.Lo)) (w6 (a.Hi + b.Hi))) fun r4 => some r4
def bound_Neg (b : Bound) : Option Bound :=
  Option.bind (bound_Norm b) fun r1 => some (Bound.mk (w6 (0 - r1.Hi)) (w6 (0 - r1.Lo)) r1.Unknown)
def num_Sqrt (a : Int) : Option Int :=
  Option.bind (num_SqrtMul a 1) fun r1 => some r1
def Wide_Cmp (w : num_Wide) (v : num_Wide) : Option Int :=
  Option.bind (cmp_Compare w.Hi v.Hi) fun r1 => Option.bind (cmp_Compare w.Lo.n v.Lo.n) fun r2 => Option.bind (cmp_Or ([r1, r2] : List Int)) fun r3 => some r3
def ratios_atMost (r_ : change_ratios) (a : Int) (b : Int) : Option (Bool × change_ratios) :=
  seqF (if (a == 0) = true then some (.done (decide (b ≥ 0), r_)) else if (decide (a > 0)) = true then Option.bind (num_Product b r_.above) fun r4 => Option.bind (num_Product r_.hi a) fun r5 => Option.bind (Wide_Cmp r4 r5) fun r6 => if (decide (r6 < 0)) = true then some (.next (change_ratios.mk r_.lo b r_.under a)) else some (.next r_) else Option.bind (num_Product (w6 (0 - b)) r_.under) fun r8 => Option.bind (num_Product r_.lo (w6 (0 - a))) fun r9 => Option.bind (Wide_Cmp r8 r9) fun r10 => if (decide (r10 > 0)) = true then some (.next (change_ratios.mk (w6 (0 - b)) r_.hi (w6 (0 - a)) r_.above)) else some (.next r_)) fun z1 : change_ratios => some (true, z1)
def bound_Sub (a : Bound) (b : Bound) : Option Bound :=
  Option.bind (bound_Neg b) fun r1 => Option.bind (bound_Add a r1) fun r2 => some r2
def tracklet_CheckSeen.l1 (s : Seen) (s10 : Int) : Option (Step Int (Step Unit Int)) :=
  letF (decide (s10 < (([s.Box.X, s.Box.Y, s.Box.Z] : List Bound).length : Int))) fun v12 => if v12 = true then if (0 : Int) ≤ s10 ∧ s10 < (([s.Box.X, s.Box.Y, s.Box.Z] : List Bound).length : Int) then Option.bind (bound_Check (gt ([s.Box.X, s.Box.Y, s.Box.Z] : List Bound) s10)) fun r15 => if (r15 != 0) = true then some (.done (.done r15)) else Option.bind (letF (decide ((gt ([s.Box.X, s.Box.Y, s.Box.Z] : List Bound) s10).Lo < (-536870912))) fun v18 => if v18 = true then some true else letF (decide ((gt ([s.Box.X, s.Box.Y, s.Box.Z] : List Bound) s10).Hi > 536870912)) fun v20 => some v20) fun z17 : Bool => if z17 = true then some (.done (.done 4)) else some (.next (w6 (s10 + 1))) else none else some (.done (.next ()))
def tracklet_CheckSeen (s : Seen) : Option Int :=
  Option.bind (bound_Check s.At) fun r1 => if (r1 != 0) = true then some r1 else if s.At.Unknown = true then some 1 else Option.bind (if (decide (s.At.Lo < (-17592186044416))) = true then some true else some (decide (s.At.Hi > 17592186044416))) fun z4 : Bool => if z4 = true then some 4 else Option.bind (if (decide ((mx2 (mx2 s.From.X s.From.Y) s.From.Z) > 4194304)) = true then some true else some (decide ((mn2 (mn2 s.From.X s.From.Y) s.From.Z) < (-4194304)))) fun z7 : Bool => if z7 = true then some 4 else seqF (loopF (tracklet_CheckSeen.l1 s) 0) fun z11 : Unit => Option.bind (bound_Check s.Flux) fun r22 => some r22
def spykeep4_exact_1 (x : Int) : Option Bound :=
  some (Bound.mk x x false)
def bound_Exact (v : Int) : Option Bound :=
  Option.bind (bound_Of v v) fun r1 => some r1
def sky_within.l1 (v : Vec) (most : Int) (s1 : Int) : Option (Step Int (Step Unit Bool)) :=
  if (decide (s1 < 3)) = true then if (0 : Int) ≤ s1 ∧ s1 < (([v.X, v.Y, v.Z] : List Int).length : Int) then Option.bind (letF (decide ((gt ([v.X, v.Y, v.Z] : List Int) s1) < (w6 (0 - most)))) fun v6 => if v6 = true then some true else some (decide ((gt ([v.X, v.Y, v.Z] : List Int) s1) > most))) fun z5 : Bool => if z5 = true then some (.done (.done false)) else some (.next (w6 (s1 + 1))) else none else some (.done (.next ()))
def sky_within (v : Vec) (most : Int) : Option Bool :=
  seqF (loopF (sky_within.l1 v most) 0) fun z2 : Unit => some true
def sky_Pull_1 (x : Int) (p1 : Int) : Option Int :=
  Option.bind (num_MulDiv 9007199254740992 (mx2 x (w6 (0 - x))) p1) fun r1 => if (w6 (p1 * p1)) ≠ 0 then if (decide (x > 0)) = true then some (w6 (0 - (w6 (Int.tdiv r1.1 (w6 (p1 * p1)))))) else some (w6 (Int.tdiv r1.1 (w6 (p1 * p1)))) else none
def sky_Pull (at_ : Vec) : Option Vec :=
  Option.bind (sky_within at_ 4194304) fun r1 => if (!r1) = true then some (Vec.mk 0 0 0) else letF (w6 ((w6 ((w6 (at_.X * at_.X)) + (w6 (at_.Y * at_.Y)))) + (w6 (at_.Z * at_.Z)))) fun v3 => Option.bind (num_Sqrt v3) fun r4 => if (decide (r4 < 65536)) = true then some (Vec.mk 0 0 0) else Option.bind (sky_Pull_1 at_.X r4) fun r6 => Option.bind (sky_Pull_1 at_.Y r4) fun r7 => Option.bind (sky_Pull_1 at_.Z r4) fun r8 => some (Vec.mk r6 r7 r8)
def sky_moves (b : Body) : Option Bool :=
  Option.bind (Option.bind (sky_within b.Was 4194304) fun r2 => if r2 = true then Option.bind (sky_within b.Here 4194304) fun r4 => some r4 else some false) fun z1 : Bool => some z1
def spymake_within_1 (c : Int) : Option Int :=
  some (mx2 (-4194304) (mn2 4194304 c))
def bound_Has (b : Bound) (v : Int) : Option Bool :=
  Option.bind (Option.bind (bound_vague b b) fun r2 => if r2 = true then some true else if (decide (b.Lo ≤ v)) = true then some (decide (v ≤ b.Hi)) else some false) fun z1 : Bool => some z1
def slices_Index_Int.l1 (s : List Int) (v : Int) (s1 : Int) : Option (Step Int (Step Unit Int)) :=
  if (decide (s1 < (s.length : Int))) = true then if (0 : Int) ≤ s1 ∧ s1 < (s.length : Int) then if (v == (gt s s1)) = true then some (.done (.done s1)) else some (.next (w6 (s1 + 1))) else none else some (.done (.next ()))
def slices_Index_Int (s : List Int) (v : Int) : Option Int :=
  seqF (loopF (slices_Index_Int.l1 s v) 0) fun z2 : Unit => some (-1)
def change_Share.l1 (a : Box) (b : Box) (s1 : change_ratios × Int) : Option (Step (change_ratios × Int) (Step change_ratios Bool)) :=
  if (decide (s1.2 < 3)) = true then seqF (if (0 : Int) ≤ s1.2 ∧ s1.2 < (([a.X, a.Y, a.Z] : List Bound).length : Int) then if (0 : Int) ≤ s1.2 ∧ s1.2 < (([b.X, b.Y, b.Z] : List Bound).length : Int) then Option.bind (Option.bind (bound_Check (gt ([a.X, a.Y, a.Z] : List Bound) s1.2)) fun r8 => if (r8 != 0) = true then some true else Option.bind (bound_Check (gt ([b.X, b.Y, b.Z] : List Bound) s1.2)) fun r10 => if (r10 != 0) = true then some true else if (gt ([a.X, a.Y, a.Z] : List Bound) s1.2).Unknown = true then some true else some (gt ([b.X, b.Y, b.Z] : List Bound) s1.2).Unknown) fun z7 : Bool => if z7 = true then some (.next s1.1) else Option.bind (Option.bind (ratios_atMost s1.1 (gt ([a.X, a.Y, a.Z] : List Bound) s1.2).Lo (gt ([b.X, b.Y, b.Z] : List Bound) s1.2).Hi) fun r15 => if (!r15.1) = true then some (r15.2, true) else Option.bind (ratios_atMost r15.2 (w6 (0 - (gt ([a.X, a.Y, a.Z] : List Bound) s1.2).Hi)) (w6 (0 - (gt ([b.X, b.Y, b.Z] : List Bound) s1.2).Lo))) fun r17 => some (r17.2, !r17.1)) fun z14 : change_ratios × Bool => if z14.2 = true then some (.done (.done (.done false))) else some (.next z14.1) else none else none) fun z4 : change_ratios => some (.next (z4, w6 (s1.2 + 1))) else some (.done (.next s1.1))
def change_Share (a : Box) (b : Box) : Option Bool :=
  seqF (loopF (change_Share.l1 a b) (change_ratios.mk 0 9223372036854775807 1 1, 0)) fun z2 : change_ratios => Option.bind (if (decide (z2.hi > 0)) = true then Option.bind (num_Product z2.lo z2.above) fun r21 => Option.bind (num_Product z2.hi z2.under) fun r22 => Option.bind (Wide_Cmp r21 r22) fun r23 => some (decide (r23 ≤ 0)) else some false) fun z19 : Bool => some z19
def predict_Exact (v : Vec) : Option (Bound × Bound × Bound) :=
  Option.bind (bound_Exact v.X) fun r1 => Option.bind (bound_Exact v.Y) fun r2 => Option.bind (bound_Exact v.Z) fun r3 => some (r1, r2, r3)
def identify_box (from_ : Vec) (p : Bound × Bound × Bound) : Option Box :=
  Option.bind (predict_Exact from_) fun r1 => Option.bind (bound_Sub p.1 r1.1) fun r2 => Option.bind (bound_Sub p.2.1 r1.2.1) fun r3 => Option.bind (bound_Sub p.2.2 r1.2.2) fun r4 => some (Box.mk r2 r3 r4)
def identify_Check.l2 (l : List Body) (s5 : Int) (s9 : Int) : Option (Step Int (Step Unit (Step Int (Step Unit Int)))) :=
  letF (decide (s9 < (([(gt l s5).Was, (gt l s5).Here] : List Vec).length : Int))) fun v11 => if v11 = true then if (0 : Int) ≤ s9 ∧ s9 < (([(gt l s5).Was, (gt l s5).Here] : List Vec).length : Int) then Option.bind (letF (mx2 (mx2 (gt ([(gt l s5).Was, (gt l s5).Here] : List Vec) s9).X (gt ([(gt l s5).Was, (gt l s5).Here] : List Vec) s9).Y) (gt ([(gt l s5).Was, (gt l s5).Here] : List Vec) s9).Z) fun v15 => if (decide (v15 > 4194304)) = true then some true else letF (mn2 (mn2 (gt ([(gt l s5).Was, (gt l s5).Here] : List Vec) s9).X (gt ([(gt l s5).Was, (gt l s5).Here] : List Vec) s9).Y) (gt ([(gt l s5).Was, (gt l s5).Here] : List Vec) s9).Z) fun v17 => some (decide (v17 < (-4194304)))) fun z14 : Bool => if z14 = true then some (.done (.done (.done (.done 4)))) else some (.next (w6 (s9 + 1))) else none else some (.done (.next ()))
def identify_Check.l1 (l : List Body) (s5 : Int) : Option (Step Int (Step Unit Int)) :=
  if (decide (s5 < (l.length : Int))) = true then if (0 : Int) ≤ s5 ∧ s5 < (l.length : Int) then seqF (loopF (identify_Check.l2 l s5) 0) fun z10 : Unit => some (.next (w6 (s5 + 1))) else none else some (.done (.next ()))
def identify_Check (s : Seen) (l : List Body) : Option Int :=
  Option.bind (tracklet_CheckSeen s) fun r1 => if (r1 != 0) = true then some r1 else if (decide ((w6 (s.At.Hi - s.At.Lo)) > 86400000)) = true then some 1 else if (decide ((l.length : Int) > 40)) = true then some 2 else seqF (loopF (identify_Check.l1 l) 0) fun z6 : Unit => some 0
def slices_Equal_Int.l1 (s1_ : List Int) (s2_ : List Int) (s2 : Int) : Option (Step Int (Step Unit Bool)) :=
  if (decide (s2 < (s1_.length : Int))) = true then if (0 : Int) ≤ s2 ∧ s2 < (s1_.length : Int) then if (0 : Int) ≤ s2 ∧ s2 < (s2_.length : Int) then if ((gt s1_ s2) != (gt s2_ s2)) = true then some (.done (.done false)) else some (.next (w6 (s2 + 1))) else none else none else some (.done (.next ()))
def slices_Equal_Int (s1_ : List Int) (s2_ : List Int) : Option Bool :=
  if ((s1_.length : Int) != (s2_.length : Int)) = true then some false else seqF (loopF (slices_Equal_Int.l1 s1_ s2_) 0) fun z3 : Unit => some true
def spykeep4_exact (v : Vec) : Option Box :=
  Option.bind (spykeep4_exact_1 v.X) fun r1 => Option.bind (spykeep4_exact_1 v.Y) fun r2 => Option.bind (spykeep4_exact_1 v.Z) fun r3 => some (Box.mk r1 r2 r3)
def bound_Hull (a : Bound) (b : Bound) : Option Bound :=
  Option.bind (bound_vague a b) fun r1 => if r1 = true then Option.bind (bound_None) fun r3 => some r3 else Option.bind (bound_Of (mn2 a.Lo b.Lo) (mx2 a.Hi b.Hi)) fun r4 => some r4
def num_CeilDiv (a : Int) (b : Int) : Option Int :=
  if (decide (b < 1)) = true then some 0 else if b ≠ 0 then if (decide ((Int.tmod a b) > 0)) = true then some (w6 ((w6 (Int.tdiv a b)) + 1)) else some (w6 (Int.tdiv a b)) else none
def sky_Step (was : Vec) (here : Vec) : Option (Vec × Int) :=
  Option.bind (Option.bind (sky_within was 4194304) fun r2 => if (!r2) = true then some true else Option.bind (sky_within here 4194304) fun r4 => some (!r4)) fun z1 : Bool => if z1 = true then some (Vec.mk 0 0 0, 4) else Option.bind (sky_Pull here) fun r6 => Option.bind (sky_within (Vec.mk (w6 ((w6 ((w6 (2 * here.X)) - was.X)) + r6.X)) (w6 ((w6 ((w6 (2 * here.Y)) - was.Y)) + r6.Y)) (w6 ((w6 ((w6 (2 * here.Z)) - was.Z)) + r6.Z))) 4194304) fun r7 => if (!r7) = true then some (Vec.mk 0 0 0, 18) else some (Vec.mk (w6 ((w6 ((w6 (2 * here.X)) - was.X)) + r6.X)) (w6 ((w6 ((w6 (2 * here.Y)) - was.Y)) + r6.Y)) (w6 ((w6 ((w6 (2 * here.Z)) - was.Z)) + r6.Z)), 0)
def sky_Path.l2 (s12 : Vec × Vec × Int × Int) : Option (Step (Vec × Vec × Int × Int) (Vec × Vec × Int)) :=
  Option.bind (if (decide (s12.2.2.2 < 0)) = true then some (s12.2.2.1 == 0) else some false) fun z14 : Bool => if z14 = true then Option.bind (sky_Step s12.2.1 s12.1) fun r17 => some (.next (r17.1, s12.1, r17.2, w6 (s12.2.2.2 + 1))) else some (.done (s12.1, s12.2.1, s12.2.2.1))
def sky_Path.l1 (s6 : Vec × Vec × Int × Int) : Option (Step (Vec × Vec × Int × Int) (Vec × Vec × Int)) :=
  Option.bind (if (decide (s6.2.2.2 > 0)) = true then some (s6.2.2.1 == 0) else some false) fun z8 : Bool => if z8 = true then Option.bind (sky_Step s6.1 s6.2.1) fun r11 => some (.next (s6.2.1, r11.1, r11.2, w6 (s6.2.2.2 - 1))) else some (.done (s6.1, s6.2.1, s6.2.2.1))
def sky_Path (b : Body) (day : Int) : Option (Vec × Vec × Int) :=
  Option.bind (if (decide (day < (-400))) = true then some true else if (decide (day > 400)) = true then some true else Option.bind (sky_moves b) fun r4 => some (!r4)) fun z1 : Bool => if z1 = true then some (Vec.mk 0 0 0, Vec.mk 0 0 0, 4) else Option.bind (loopF sky_Path.l1 (b.Was, b.Here, 0, day)) fun z7 : Vec × Vec × Int => Option.bind (loopF sky_Path.l2 (z7.1, z7.2.1, z7.2.2, day)) fun z13 : Vec × Vec × Int => if (z13.2.2 != 0) = true then some (Vec.mk 0 0 0, Vec.mk 0 0 0, z13.2.2) else some (z13.1, z13.2.1, 0)
def num_FloorDiv (a : Int) (b : Int) : Option Int :=
  if (decide (b < 1)) = true then some 0 else if b ≠ 0 then if (decide ((Int.tmod a b) < 0)) = true then some (w6 ((w6 (Int.tdiv a b)) - 1)) else some (w6 (Int.tdiv a b)) else none
def spymake_Below (x : Int) (n : Int) : Option Int :=
  if (decide (n < 1)) = true then some 0 else if n ≠ 0 then if (decide ((Int.tmod x n) < 0)) = true then some (w6 ((Int.tmod x n) + n)) else some (Int.tmod x n) else none
def Stream_Next (s : spymake_Stream) (n : Int) : Option (Int × spymake_Stream) :=
  if ((s.L.length : Int) == 0) = true then Option.bind (spymake_Below (w6 ((w6 (s.at_ + 1)) * 7919)) n) fun r2 => some (r2, spymake_Stream.mk s.L (w6 (s.at_ + 1))) else if (s.L.length : Int) ≠ 0 then if (0 : Int) ≤ Int.tmod (w6 ((w6 (s.at_ + 1)) - 1)) (s.L.length : Int) ∧ (Int.tmod (w6 ((w6 (s.at_ + 1)) - 1)) (s.L.length : Int)) < (s.L.length : Int) then Option.bind (spymake_Below (gt s.L (Int.tmod (w6 ((w6 (s.at_ + 1)) - 1)) (s.L.length : Int))) 1073741824) fun r5 => letF (w6 (7919 + (Int.tmod (w6 ((w6 (s.at_ + 1)) - 1)) (s.L.length : Int)))) fun v6 => letF (w6 ((w6 (Int.tdiv (w6 ((w6 (s.at_ + 1)) - 1)) (s.L.length : Int))) * v6)) fun v7 => Option.bind (spymake_Below (w6 (r5 + v7)) n) fun r8 => some (r8, spymake_Stream.mk s.L (w6 (s.at_ + 1))) else none else none
def Stream_rate (s : spymake_Stream) : Option (Int × spymake_Stream) :=
  Option.bind (Stream_Next s 6) fun r1 => if (0 : Int) ≤ r1.1 ∧ r1.1 < (([50, 500, 5000, 5000, 40000, 1048577] : List Int).length : Int) then Option.bind (Stream_Next r1.2 (gt ([50, 500, 5000, 5000, 40000, 1048577] : List Int) r1.1)) fun r3 => some (r3.1, r3.2) else none
def spymake_within (v : Vec) : Option Vec :=
  Option.bind (spymake_within_1 v.X) fun r1 => Option.bind (spymake_within_1 v.Y) fun r2 => Option.bind (spymake_within_1 v.Z) fun r3 => some (Vec.mk r1 r2 r3)
def predict_Has (p : Bound × Bound × Bound) (v : Vec) : Option Bool :=
  Option.bind (Option.bind (bound_Has p.1 v.X) fun r2 => if r2 = true then Option.bind (bound_Has p.2.1 v.Y) fun r4 => if r4 = true then Option.bind (bound_Has p.2.2 v.Z) fun r6 => some r6 else some false else some false) fun z1 : Bool => some z1
def slices_Contains_Int (s : List Int) (v : Int) : Option Bool :=
  Option.bind (slices_Index_Int s v) fun r1 => some (decide (r1 ≥ 0))
def slices_Index_Body.l1 (s : List Body) (v : Body) (s1 : Int) : Option (Step Int (Step Unit Int)) :=
  if (decide (s1 < (s.length : Int))) = true then if (0 : Int) ≤ s1 ∧ s1 < (s.length : Int) then if ((v.ID == (gt s s1).ID) && (((v.Was.X == (gt s s1).Was.X) && ((v.Was.Y == (gt s s1).Was.Y) && ((v.Was.Z == (gt s s1).Was.Z) && (true)))) && (((v.Here.X == (gt s s1).Here.X) && ((v.Here.Y == (gt s s1).Here.Y) && ((v.Here.Z == (gt s s1).Here.Z) && (true)))) && ((v.Rate == (gt s s1).Rate) && (true))))) = true then some (.done (.done s1)) else some (.next (w6 (s1 + 1))) else none else some (.done (.next ()))
def slices_Index_Body (s : List Body) (v : Body) : Option Int :=
  seqF (loopF (slices_Index_Body.l1 s v) 0) fun z2 : Unit => some (-1)
def sky_Place_1 (a : Int) (b : Int) (p2 : Int) : Option Int :=
  Option.bind (num_FloorDiv (w6 ((w6 (b - a)) * p2)) 86400000) fun r1 => some (w6 (a + r1))
def sky_Place (b : Body) (t : Int) : Option (Vec × Int) :=
  Option.bind (num_FloorDiv t 86400000) fun r1 => Option.bind (if (decide (r1 < (-400))) = true then some true else some (decide (r1 ≥ 400))) fun z2 : Bool => if z2 = true then some (Vec.mk 0 0 0, 4) else Option.bind (sky_Path b r1) fun r5 => if (r5.2.2 != 0) = true then some (Vec.mk 0 0 0, r5.2.2) else Option.bind (sky_Step r5.1 r5.2.1) fun r7 => if (r7.2 != 0) = true then some (Vec.mk 0 0 0, r7.2) else Option.bind (sky_Place_1 r5.2.1.X r7.1.X (w6 (t - (w6 (r1 * 86400000))))) fun r9 => Option.bind (sky_Place_1 r5.2.1.Y r7.1.Y (w6 (t - (w6 (r1 * 86400000))))) fun r10 => Option.bind (sky_Place_1 r5.2.1.Z r7.1.Z (w6 (t - (w6 (r1 * 86400000))))) fun r11 => some (Vec.mk r9 r10 r11, 0)
def identify_Path.l2 (s9 : (Bound × Bound × Bound) × Int) (r16 : (Bound × Bound × Bound)) (s17 : (Bound × Bound × Bound) × Int) : Option (Step ((Bound × Bound × Bound) × Int) (Bound × Bound × Bound)) :=
  if (decide (s17.2 < 3)) = true then if (0 : Int) ≤ s17.2 ∧ s17.2 < (([r16.1, r16.2.1, r16.2.2] : List Bound).length : Int) then if (s9.2 == 0) = true then if (0 : Int) ≤ s17.2 ∧ s17.2 < (([s17.1.1, s17.1.2.1, s17.1.2.2] : List Bound).length : Int) then letF (List.set ([s17.1.1, s17.1.2.1, s17.1.2.2] : List Bound) s17.2.toNat (gt ([r16.1, r16.2.1, r16.2.2] : List Bound) s17.2)) fun v23 => if (0 : Int) ≤ s17.2 ∧ s17.2 < (([(gt v23 0), (gt v23 1), (gt v23 2)] : List Bound).length : Int) then Option.bind (bound_Hull (gt ([(gt v23 0), (gt v23 1), (gt v23 2)] : List Bound) s17.2) (gt ([r16.1, r16.2.1, r16.2.2] : List Bound) s17.2)) fun r25 => letF (List.set ([(gt v23 0), (gt v23 1), (gt v23 2)] : List Bound) s17.2.toNat r25) fun v26 => some (.next ((gt v26 0, gt v26 1, gt v26 2), w6 (s17.2 + 1))) else none else none else if (0 : Int) ≤ s17.2 ∧ s17.2 < (([s17.1.1, s17.1.2.1, s17.1.2.2] : List Bound).length : Int) then Option.bind (bound_Hull (gt ([s17.1.1, s17.1.2.1, s17.1.2.2] : List Bound) s17.2) (gt ([r16.1, r16.2.1, r16.2.2] : List Bound) s17.2)) fun r28 => letF (List.set ([s17.1.1, s17.1.2.1, s17.1.2.2] : List Bound) s17.2.toNat r28) fun v29 => some (.next ((gt v29 0, gt v29 1, gt v29 2), w6 (s17.2 + 1))) else none else none else some (.done s17.1)
def identify_Path.l1 (b : Body) (t : Bound) (r6 : Int) (s9 : (Bound × Bound × Bound) × Int) : Option (Step ((Bound × Bound × Bound) × Int) (Step (Bound × Bound × Bound) ((Bound × Bound × Bound) × Bool))) :=
  letF (decide (s9.2 < ((([t.Lo, t.Hi] : List Int) ++ ([w6 (r6 * 86400000)] : List Int)).length : Int))) fun v11 => if v11 = true then if (0 : Int) ≤ s9.2 ∧ s9.2 < ((([t.Lo, t.Hi] : List Int) ++ ([w6 (r6 * 86400000)] : List Int)).length : Int) then Option.bind (sky_Place b (gt (([t.Lo, t.Hi] : List Int) ++ ([w6 (r6 * 86400000)] : List Int)) s9.2)) fun r14 => if (r14.2 != 0) = true then some (.done (.done ((Bound.mk 0 0 false, Bound.mk 0 0 false, Bound.mk 0 0 false), false))) else Option.bind (predict_Exact r14.1) fun r16 => Option.bind (loopF (identify_Path.l2 s9 r16) (s9.1, 0)) fun z18 : (Bound × Bound × Bound) => some (.next (z18, w6 (s9.2 + 1))) else none else some (.done (.next s9.1))
def identify_Path.l4 (s30 : (Bound × Bound × Bound) × Int) (r36 : (Bound × Bound × Bound)) (s37 : (Bound × Bound × Bound) × Int) : Option (Step ((Bound × Bound × Bound) × Int) (Bound × Bound × Bound)) :=
  if (decide (s37.2 < 3)) = true then if (0 : Int) ≤ s37.2 ∧ s37.2 < (([r36.1, r36.2.1, r36.2.2] : List Bound).length : Int) then if (s30.2 == 0) = true then if (0 : Int) ≤ s37.2 ∧ s37.2 < (([s37.1.1, s37.1.2.1, s37.1.2.2] : List Bound).length : Int) then letF (List.set ([s37.1.1, s37.1.2.1, s37.1.2.2] : List Bound) s37.2.toNat (gt ([r36.1, r36.2.1, r36.2.2] : List Bound) s37.2)) fun v43 => if (0 : Int) ≤ s37.2 ∧ s37.2 < (([(gt v43 0), (gt v43 1), (gt v43 2)] : List Bound).length : Int) then Option.bind (bound_Hull (gt ([(gt v43 0), (gt v43 1), (gt v43 2)] : List Bound) s37.2) (gt ([r36.1, r36.2.1, r36.2.2] : List Bound) s37.2)) fun r45 => letF (List.set ([(gt v43 0), (gt v43 1), (gt v43 2)] : List Bound) s37.2.toNat r45) fun v46 => some (.next ((gt v46 0, gt v46 1, gt v46 2), w6 (s37.2 + 1))) else none else none else if (0 : Int) ≤ s37.2 ∧ s37.2 < (([s37.1.1, s37.1.2.1, s37.1.2.2] : List Bound).length : Int) then Option.bind (bound_Hull (gt ([s37.1.1, s37.1.2.1, s37.1.2.2] : List Bound) s37.2) (gt ([r36.1, r36.2.1, r36.2.2] : List Bound) s37.2)) fun r48 => letF (List.set ([s37.1.1, s37.1.2.1, s37.1.2.2] : List Bound) s37.2.toNat r48) fun v49 => some (.next ((gt v49 0, gt v49 1, gt v49 2), w6 (s37.2 + 1))) else none else none else some (.done s37.1)
def identify_Path.l3 (b : Body) (t : Bound) (s30 : (Bound × Bound × Bound) × Int) : Option (Step ((Bound × Bound × Bound) × Int) (Step (Bound × Bound × Bound) ((Bound × Bound × Bound) × Bool))) :=
  if (decide (s30.2 < (([t.Lo, t.Hi] : List Int).length : Int))) = true then if (0 : Int) ≤ s30.2 ∧ s30.2 < (([t.Lo, t.Hi] : List Int).length : Int) then Option.bind (sky_Place b (gt ([t.Lo, t.Hi] : List Int) s30.2)) fun r34 => if (r34.2 != 0) = true then some (.done (.done ((Bound.mk 0 0 false, Bound.mk 0 0 false, Bound.mk 0 0 false), false))) else Option.bind (predict_Exact r34.1) fun r36 => Option.bind (loopF (identify_Path.l4 s30 r36) (s30.1, 0)) fun z38 : (Bound × Bound × Bound) => some (.next (z38, w6 (s30.2 + 1))) else none else some (.done (.next s30.1))
def identify_Path (b : Body) (t : Bound) : Option ((Bound × Bound × Bound) × Bool) :=
  Option.bind (Option.bind (bound_Check t) fun r2 => if (r2 != 0) = true then some true else if t.Unknown = true then some true else some (decide ((w6 (t.Hi - t.Lo)) > 86400000))) fun z1 : Bool => if z1 = true then some ((Bound.mk 0 0 false, Bound.mk 0 0 false, Bound.mk 0 0 false), false) else Option.bind (num_CeilDiv t.Lo 86400000) fun r6 => if (decide ((w6 (r6 * 86400000)) < t.Hi)) = true then if roomy (([t.Lo, t.Hi] : List Int).length + ([w6 (r6 * 86400000)] : List Int).length) 8 = true then seqF (loopF (identify_Path.l1 b t r6) ((Bound.mk 0 0 false, Bound.mk 0 0 false, Bound.mk 0 0 false), 0)) fun z10 : (Bound × Bound × Bound) => some (z10, true) else none else seqF (loopF (identify_Path.l3 b t) ((Bound.mk 0 0 false, Bound.mk 0 0 false, Bound.mk 0 0 false), 0)) fun z31 : (Bound × Bound × Bound) => some (z31, true)
def identify_Known.l1 (s : Seen) (l : List Body) (s3 : (List Int) × Int) : Option (Step ((List Int) × Int) (List Int)) :=
  if (decide (s3.2 < (l.length : Int))) = true then Option.bind (if (0 : Int) ≤ s3.2 ∧ s3.2 < (l.length : Int) then Option.bind (identify_Path (gt l s3.2) s.At) fun r8 => Option.bind (if r8.2 = true then Option.bind (identify_box s.From r8.1) fun r11 => Option.bind (change_Share r11 s.Box) fun r12 => some r12 else some false) fun z9 : Bool => if z9 = true then if roomy (s3.1.length + ([s3.2] : List Int).length) 8 = true then some (s3.1 ++ ([s3.2] : List Int)) else none else some s3.1 else none) fun z6 : (List Int) => some (.next (z6, w6 (s3.2 + 1))) else some (.done s3.1)
def identify_Known (s : Seen) (l : List Body) : Option ((List Int) × Int) :=
  Option.bind (identify_Check s l) fun r1 => if (r1 != 0) = true then some ([], r1) else Option.bind (loopF (identify_Known.l1 s l) (([] : List Int), 0)) fun z4 : (List Int) => some (z4, 0)
def identify_New.l1 (l : List Seen) (bodies : List Body) (s2 : (List Int) × Int) : Option (Step ((List Int) × Int) (Step (List Int) ((List Int) × Int))) :=
  if (decide (s2.2 < (l.length : Int))) = true then seqF (if (0 : Int) ≤ s2.2 ∧ s2.2 < (l.length : Int) then Option.bind (identify_Known (gt l s2.2) bodies) fun r7 => if (r7.2 != 0) = true then some (.done (.done (.done ([], r7.2)))) else if ((r7.1.length : Int) == 0) = true then if roomy (s2.1.length + ([s2.2] : List Int).length) 8 = true then some (.next (s2.1 ++ ([s2.2] : List Int))) else none else some (.next s2.1) else none) fun z5 : (List Int) => some (.next (z5, w6 (s2.2 + 1))) else some (.done (.next s2.1))
def identify_New (l : List Seen) (bodies : List Body) : Option ((List Int) × Int) :=
  if (decide ((l.length : Int) > 12)) = true then some ([], 2) else seqF (loopF (identify_New.l1 l bodies) (([] : List Int), 0)) fun z3 : (List Int) => some (z3, 0)
def Stream_Range (s : spymake_Stream) (low : Int) (high : Int) : Option (Int × spymake_Stream) :=
  if (decide (high < low)) = true then some (low, s) else Option.bind (Stream_Next s (w6 ((w6 (high - low)) + 1))) fun r2 => some (w6 (low + r2.1), r2.2)
def Stream_Held_1 (c : Int) (p1 : Int) (p2 : spymake_Stream) (p3 : Int) : Option (Bound × spymake_Stream) :=
  Option.bind (Stream_Next p2 (w6 (p3 + 1))) fun r1 => Option.bind (Stream_Next r1.2 (w6 (p3 + 1))) fun r2 => some (Bound.mk (w6 ((w6 (p1 * c)) - r1.1)) (w6 ((w6 (p1 * c)) + r2.1)) false, r2.2)
def Stream_Held (s : spymake_Stream) (v : Vec) (most : Int) : Option (Box × spymake_Stream) :=
  Option.bind (Stream_Range s 1 8) fun r1 => Option.bind (Stream_Held_1 v.X r1.1 r1.2 most) fun r2 => Option.bind (Stream_Held_1 v.Y r1.1 r2.2 most) fun r3 => Option.bind (Stream_Held_1 v.Z r1.1 r3.2 most) fun r4 => some (Box.mk r2.1 r3.1 r4.1, r4.2)
def spykeep4_from (a : Vec) (b : Vec) : Option Vec :=
  some (Vec.mk (w6 (b.X - a.X)) (w6 (b.Y - a.Y)) (w6 (b.Z - a.Z)))
def spykeep4_named : Option Bool :=
  Option.bind (spykeep4_exact (Vec.mk 3 0 0)) fun r1 => Option.bind (identify_Known (Seen.mk (Bound.mk 0 5 false) (Vec.mk (-500) 0 0) r1 (Bound.mk 0 0 false)) ([Body.mk 1 (Vec.mk 0 0 0) (Vec.mk 0 0 0) 0, Body.mk 2 (Vec.mk 0 900 0) (Vec.mk 0 900 0) 0] : List Body)) fun r2 => Option.bind (if (r2.2 == 0) = true then Option.bind (slices_Equal_Int r2.1 ([0] : List Int)) fun r5 => some r5 else some false) fun z3 : Bool => some z3
def Stream_Body (s : spymake_Stream) (id : Int) (here : Vec) : Option (Body × spymake_Stream) :=
  Option.bind (Stream_Next s 3) fun r1 => if (0 : Int) ≤ r1.1 ∧ r1.1 < (([1000, 90000, 150000] : List Int).length : Int) then Option.bind (Stream_Range r1.2 (w6 (0 - (gt ([1000, 90000, 150000] : List Int) r1.1))) (gt ([1000, 90000, 150000] : List Int) r1.1)) fun r3 => Option.bind (Stream_Range r3.2 (w6 (0 - (gt ([1000, 90000, 150000] : List Int) r1.1))) (gt ([1000, 90000, 150000] : List Int) r1.1)) fun r4 => Option.bind (Stream_Range r4.2 (w6 (0 - (gt ([1000, 90000, 150000] : List Int) r1.1))) (gt ([1000, 90000, 150000] : List Int) r1.1)) fun r5 => Option.bind (spymake_within (Vec.mk (w6 (here.X + r3.1)) (w6 (here.Y + r4.1)) (w6 (here.Z + (w6 (Int.tdiv r5.1 3)))))) fun r6 => Option.bind (spymake_within here) fun r7 => Option.bind (Stream_rate r5.2) fun r8 => some (Body.mk id r6 r7 r8.1, r8.2) else none
def Stream_Place (s : spymake_Stream) (dist : Int) : Option (Vec × spymake_Stream) :=
  Option.bind (Stream_Range s (w6 (0 - (w6 (dist * 1048576)))) (w6 (dist * 1048576))) fun r1 => Option.bind (Stream_Range r1.2 (w6 (0 - (w6 (dist * 1048576)))) (w6 (dist * 1048576))) fun r2 => Option.bind (Stream_Range r2.2 (w6 (0 - (w6 (dist * 1048576)))) (w6 (dist * 1048576))) fun r3 => some (Vec.mk r1.1 r2.1 (w6 (Int.tdiv r3.1 4)), r3.2)
def spykeep4_IdentifyTrue.l1 (r1 : Int × spymake_Stream) (s2 : spymake_Stream × (List Body) × Int) : Option (Step (spymake_Stream × (List Body) × Int) (spymake_Stream × (List Body))) :=
  if (decide (s2.2.2 < r1.1)) = true then Option.bind (Stream_Place s2.1 2) fun r5 => Option.bind (Stream_Body r5.2 (w6 (s2.2.2 + 1)) r5.1) fun r6 => if roomy (s2.2.1.length + ([r6.1] : List Body).length) 64 = true then some (.next (r6.2, s2.2.1 ++ ([r6.1] : List Body), w6 (s2.2.2 + 1))) else none else some (.done (s2.1, s2.2.1))
def spykeep4_IdentifyTrue (l : List Int) (when : Int) (before : Int) (behind : Int) : Option Bool :=
  Option.bind (Stream_Range (spymake_Stream.mk l 0) 1 5) fun r1 => Option.bind (loopF (spykeep4_IdentifyTrue.l1 r1) (r1.2, ([] : List Body), 0)) fun z3 : spymake_Stream × (List Body) => Option.bind (Stream_Next z3.1 r1.1) fun r8 => if (0 : Int) ≤ r8.1 ∧ r8.1 < (z3.2.length : Int) then Option.bind (spymake_Below when 60) fun r10 => Option.bind (spymake_Below behind 86400000) fun r11 => Option.bind (spymake_Below before 43200000) fun r12 => Option.bind (spymake_Below behind 43200000) fun r13 => Option.bind (Stream_Place r8.2 1) fun r14 => Option.bind (sky_Place (gt z3.2 r8.1) (w6 ((w6 ((w6 (r10 - 30)) * 86400000)) + r11))) fun r15 => Option.bind (identify_Path (gt z3.2 r8.1) (Bound.mk (w6 ((w6 ((w6 ((w6 (r10 - 30)) * 86400000)) + r11)) - r12)) (w6 ((w6 ((w6 ((w6 (r10 - 30)) * 86400000)) + r11)) + r13)) false)) fun r16 => Option.bind (spykeep4_named) fun r17 => if (!r17) = true then some false else Option.bind (if (r15.2 != 0) = true then some true else if (!r16.2) = true then some true else some ((r15.1.X == r14.1.X) && ((r15.1.Y == r14.1.Y) && ((r15.1.Z == r14.1.Z) && (true))))) fun z19 : Bool => if z19 = true then Option.bind (if (r15.2 == 0) = true then some true else some (!r16.2)) fun z23 : Bool => some z23 else Option.bind (spykeep4_from r14.1 r15.1) fun r25 => Option.bind (Stream_Next r14.2 2) fun r26 => if (0 : Int) ≤ r26.1 ∧ r26.1 < (([0, 500] : List Int).length : Int) then Option.bind (Stream_Held r26.2 r25 (gt ([0, 500] : List Int) r26.1)) fun r28 => Option.bind (identify_Known (Seen.mk (Bound.mk (w6 ((w6 ((w6 ((w6 (r10 - 30)) * 86400000)) + r11)) - r12)) (w6 ((w6 ((w6 ((w6 (r10 - 30)) * 86400000)) + r11)) + r13)) false) r14.1 r28.1 (Bound.mk 0 0 false)) z3.2) fun r29 => Option.bind (identify_New ([Seen.mk (Bound.mk (w6 ((w6 ((w6 ((w6 (r10 - 30)) * 86400000)) + r11)) - r12)) (w6 ((w6 ((w6 ((w6 (r10 - 30)) * 86400000)) + r11)) + r13)) false) r14.1 r28.1 (Bound.mk 0 0 false)] : List Seen) z3.2) fun r30 => Option.bind (if (r29.2 == 0) = true then if (r30.2 == 0) = true then Option.bind (slices_Index_Body z3.2 (gt z3.2 r8.1)) fun r34 => Option.bind (slices_Contains_Int r29.1 r34) fun r35 => if r35 = true then if ((r30.1.length : Int) == 0) = true then Option.bind (predict_Has r16.1 r15.1) fun r38 => some r38 else some false else some false else some false else some false) fun z31 : Bool => some z31 else none else none
end Lf
