/- The plain functions that the program's functions compute. Conditions: as each theorem states them. -/
import Derived.Test.YthgccmnmalhmcaaA4
/-! Plain functions. -/
namespace Lf
open Go Go.Abs
set_option linter.unusedVariables false
structure spymake_Stream where
  L : List Int
  at_ : Int
  deriving DecidableEq
@[reducible] def spymake_Stream.tp (x : spymake_Stream) := (x.L, x.at_)
instance : Cl spymake_Stream := Cl.iso spymake_Stream.tp (spymake_Stream.mk (Cl.d : List Int) (Cl.d : Int))
structure Bound where
  Lo : Int
  Hi : Int
  Unknown : Bool
  deriving DecidableEq
@[reducible] def Bound.tp (x : Bound) := (x.Lo, x.Hi, x.Unknown)
instance : Cl Bound := Cl.iso Bound.tp (Bound.mk (Cl.d : Int) (Cl.d : Int) (Cl.d : Bool))
structure Vec where
  X : Int
  Y : Int
  Z : Int
  deriving DecidableEq
@[reducible] def Vec.tp (x : Vec) := (x.X, x.Y, x.Z)
instance : Cl Vec := Cl.iso Vec.tp (Vec.mk (Cl.d : Int) (Cl.d : Int) (Cl.d : Int))
structure Box where
  X : Bound
  Y : Bound
  Z : Bound
  deriving DecidableEq
@[reducible] def Box.tp (x : Box) := (x.X, x.Y, x.Z)
instance : Cl Box := Cl.iso Box.tp (Box.mk (Cl.d : Bound) (Cl.d : Bound) (Cl.d : Bound))
structure Seen where
  At : Bound
  From : Vec
  Box : Box
  Flux : Bound
  deriving DecidableEq
@[reducible] def Seen.tp (x : Seen) := (x.At, x.From, x.Box, x.Flux)
instance : Cl Seen := Cl.iso Seen.tp (Seen.mk (Cl.d : Bound) (Cl.d : Vec) (Cl.d : Box) (Cl.d : Bound))
structure Body where
  ID : Int
  Was : Vec
  Here : Vec
  Rate : Int
  deriving DecidableEq
@[reducible] def Body.tp (x : Body) := (x.ID, x.Was, x.Here, x.Rate)
instance : Cl Body := Cl.iso Body.tp (Body.mk (Cl.d : Int) (Cl.d : Vec) (Cl.d : Vec) (Cl.d : Int))
structure num_Wide where
  Hi : Int
  Lo : NU64
  deriving DecidableEq
@[reducible] def num_Wide.tp (x : num_Wide) := (x.Hi, x.Lo)
instance : Cl num_Wide := Cl.iso num_Wide.tp (num_Wide.mk (Cl.d : Int) (Cl.d : NU64))
structure arc_Orbit where
  Seen : Seen × Seen × Seen
  Near : Int
  Far : Int
  deriving DecidableEq
@[reducible] def arc_Orbit.tp (x : arc_Orbit) := (x.Seen, x.Near, x.Far)
instance : Cl arc_Orbit := Cl.iso arc_Orbit.tp (arc_Orbit.mk (Cl.d : Seen × Seen × Seen) (Cl.d : Int) (Cl.d : Int))
structure arc_plane where
  ray : Bound × Bound × Bound
  from_ : Bound × Bound × Bound
  normal : Bound × Bound × Bound
  turn : Bound
  slope : Bound
  offset : Bound
  blurred : Bound
  deriving DecidableEq
@[reducible] def arc_plane.tp (x : arc_plane) := (x.ray, x.from_, x.normal, x.turn, x.slope, x.offset, x.blurred)
instance : Cl arc_plane := Cl.iso arc_plane.tp (arc_plane.mk (Cl.d : Bound × Bound × Bound) (Cl.d : Bound × Bound × Bound) (Cl.d : Bound × Bound × Bound) (Cl.d : Bound) (Cl.d : Bound) (Cl.d : Bound) (Cl.d : Bound))
def tab1 : List UInt8 := [0, 1, 2, 2, 3, 3, 3, 3, 4, 4, 4, 4, 4, 4, 4, 4, 5, 5, 5, 5, 5, 5, 5, 5, 5, 5, 5, 5, 5, 5, 5, 5, 6, 6, 6, 6, 6, 6, 6, 6, 6, 6, 6, 6, 6, 6, 6, 6, 6, 6, 6, 6, 6, 6, 6, 6, 6, 6, 6, 6, 6, 6, 6, 6, 7, 7, 7, 7, 7, 7, 7, 7, 7, 7, 7, 7, 7, 7, 7, 7, 7, 7, 7, 7, 7, 7, 7, 7, 7, 7, 7, 7, 7, 7, 7, 7, 7, 7, 7, 7, 7, 7, 7, 7, 7, 7, 7, 7, 7, 7, 7, 7, 7, 7, 7, 7, 7, 7, 7, 7, 7, 7, 7, 7, 7, 7, 7, 7, 8, 8, 8, 8, 8, 8, 8, 8, 8, 8, 8, 8, 8, 8, 8, 8, 8, 8, 8, 8, 8, 8, 8, 8, 8, 8, 8, 8, 8, 8, 8, 8, 8, 8, 8, 8, 8, 8, 8, 8, 8, 8, 8, 8, 8, 8, 8, 8, 8, 8, 8, 8, 8, 8, 8, 8, 8, 8, 8, 8, 8, 8, 8, 8, 8, 8, 8, 8, 8, 8, 8, 8, 8, 8, 8, 8, 8, 8, 8, 8, 8, 8, 8, 8, 8, 8, 8, 8, 8, 8, 8, 8, 8, 8, 8, 8, 8, 8, 8, 8, 8, 8, 8, 8, 8, 8, 8, 8, 8, 8, 8, 8, 8, 8, 8, 8, 8, 8, 8, 8, 8, 8, 8, 8, 8, 8, 8, 8]
def spymake_Below (x : Int) (n : Int) : Option Int :=
  if (decide (n < 1)) = true then some 0 else if n ≠ 0 then if (decide ((Int.tmod x n) < 0)) = true then some (w6 ((Int.tmod x n) + n)) else some (Int.tmod x n) else none
def Stream_Next (s : spymake_Stream) (n : Int) : Option (Int × spymake_Stream) :=
  if ((s.L.length : Int) == 0) = true then Option.bind (spymake_Below (w6 ((w6 (s.at_ + 1)) * 7919)) n) fun r2 => some (r2, spymake_Stream.mk s.L (w6 (s.at_ + 1))) else if (s.L.length : Int) ≠ 0 then if (0 : Int) ≤ Int.tmod (w6 ((w6 (s.at_ + 1)) - 1)) (s.L.length : Int) ∧ (Int.tmod (w6 ((w6 (s.at_ + 1)) - 1)) (s.L.length : Int)) < (s.L.length : Int) then Option.bind (spymake_Below (gt s.L (Int.tmod (w6 ((w6 (s.at_ + 1)) - 1)) (s.L.length : Int))) 1073741824) fun r5 => letF (w6 (7919 + (Int.tmod (w6 ((w6 (s.at_ + 1)) - 1)) (s.L.length : Int)))) fun v6 => letF (w6 ((w6 (Int.tdiv (w6 ((w6 (s.at_ + 1)) - 1)) (s.L.length : Int))) * v6)) fun v7 => Option.bind (spymake_Below (w6 (r5 + v7)) n) fun r8 => some (r8, spymake_Stream.mk s.L (w6 (s.at_ + 1))) else none else none
def Stream_Range (s : spymake_Stream) (low : Int) (high : Int) : Option (Int × spymake_Stream) :=
  if (decide (high < low)) = true then some (low, s) else Option.bind (Stream_Next s (w6 ((w6 (high - low)) + 1))) fun r2 => some (w6 (low + r2.1), r2.2)
def Stream_Place (s : spymake_Stream) (dist : Int) : Option (Vec × spymake_Stream) :=
  Option.bind (Stream_Range s (w6 (0 - (w6 (dist * 1048576)))) (w6 (dist * 1048576))) fun r1 => Option.bind (Stream_Range r1.2 (w6 (0 - (w6 (dist * 1048576)))) (w6 (dist * 1048576))) fun r2 => Option.bind (Stream_Range r2.2 (w6 (0 - (w6 (dist * 1048576)))) (w6 (dist * 1048576))) fun r3 => some (Vec.mk r1.1 r2.1 (w6 (Int.tdiv r3.1 4)), r3.2)
def spymake_within_1 (c : Int) : Option Int :=
  some (mx2 (-4194304) (mn2 4194304 c))
def spymake_within (v : Vec) : Option Vec :=
  Option.bind (spymake_within_1 v.X) fun r1 => Option.bind (spymake_within_1 v.Y) fun r2 => Option.bind (spymake_within_1 v.Z) fun r3 => some (Vec.mk r1 r2 r3)
def Stream_rate (s : spymake_Stream) : Option (Int × spymake_Stream) :=
  Option.bind (Stream_Next s 6) fun r1 => if (0 : Int) ≤ r1.1 ∧ r1.1 < (([50, 500, 5000, 5000, 40000, 1048577] : List Int).length : Int) then Option.bind (Stream_Next r1.2 (gt ([50, 500, 5000, 5000, 40000, 1048577] : List Int) r1.1)) fun r3 => some (r3.1, r3.2) else none
def Stream_Body (s : spymake_Stream) (id_ : Int) (here : Vec) : Option (Body × spymake_Stream) :=
  Option.bind (Stream_Next s 3) fun r1 => if (0 : Int) ≤ r1.1 ∧ r1.1 < (([1000, 90000, 150000] : List Int).length : Int) then Option.bind (Stream_Range r1.2 (w6 (0 - (gt ([1000, 90000, 150000] : List Int) r1.1))) (gt ([1000, 90000, 150000] : List Int) r1.1)) fun r3 => Option.bind (Stream_Range r3.2 (w6 (0 - (gt ([1000, 90000, 150000] : List Int) r1.1))) (gt ([1000, 90000, 150000] : List Int) r1.1)) fun r4 => Option.bind (Stream_Range r4.2 (w6 (0 - (gt ([1000, 90000, 150000] : List Int) r1.1))) (gt ([1000, 90000, 150000] : List Int) r1.1)) fun r5 => Option.bind (spymake_within (Vec.mk (w6 (here.X + r3.1)) (w6 (here.Y + r4.1)) (w6 (here.Z + (w6 (Int.tdiv r5.1 3)))))) fun r6 => Option.bind (spymake_within here) fun r7 => Option.bind (Stream_rate r5.2) fun r8 => some (Body.mk id_ r6 r7 r8.1, r8.2) else none
def sky_within.l1 (v : Vec) (most : Int) (s1 : Int) : Option (Step Int (Step Unit Bool)) :=
  if (decide (s1 < 3)) = true then if (0 : Int) ≤ s1 ∧ s1 < (([v.X, v.Y, v.Z] : List Int).length : Int) then Option.bind (letF (decide ((gt ([v.X, v.Y, v.Z] : List Int) s1) < (w6 (0 - most)))) fun v6 => if v6 = true then some true else some (decide ((gt ([v.X, v.Y, v.Z] : List Int) s1) > most))) fun z5 : Bool => if z5 = true then some (.done (.done false)) else some (.next (w6 (s1 + 1))) else none else some (.done (.next ()))
def sky_within (v : Vec) (most : Int) : Option Bool :=
  seqF (loopF (sky_within.l1 v most) 0) fun z2 : Unit => some true
def bits_Mul64 (x : Int) (y : Int) : Option (NU64 × NU64) :=
  letF (IntKind.wrap .u64 ((BitVec.ofInt 64 x &&& BitVec.ofInt 64 4294967295).toNat : Int)) fun v1 => letF (IntKind.wrap .u64 ((BitVec.ofInt 64 y &&& BitVec.ofInt 64 4294967295).toNat : Int)) fun v2 => letF (IntKind.wrap .u64 ((IntKind.wrap .u64 ((Int.fdiv x (2 ^ 32)) * v2)) + (Int.fdiv (IntKind.wrap .u64 (v1 * v2)) (2 ^ 32)))) fun v3 => letF (IntKind.wrap .u64 ((BitVec.ofInt 64 v3 &&& BitVec.ofInt 64 4294967295).toNat : Int)) fun v4 => letF (IntKind.wrap .u64 (v4 + (IntKind.wrap .u64 (v1 * (Int.fdiv y (2 ^ 32)))))) fun v5 => letF (IntKind.wrap .u64 ((Int.fdiv x (2 ^ 32)) * (Int.fdiv y (2 ^ 32)))) fun v6 => letF (IntKind.wrap .u64 ((IntKind.wrap .u64 (v6 + (Int.fdiv v3 (2 ^ 32)))) + (Int.fdiv v5 (2 ^ 32)))) fun v7 => some (NU64.mk v7, NU64.mk (IntKind.wrap .u64 (x * y)))
def num_SqrtMul.l1 (r4 : NU64 × NU64) (s5 : Int × Int) : Option (Step (Int × Int) Int) :=
  if (decide (s5.2 > 0)) = true then Option.bind (letF (IntKind.wrap .u64 ((BitVec.ofInt 64 s5.1 ||| BitVec.ofInt 64 s5.2).toNat : Int)) fun v9 => letF (IntKind.wrap .u64 ((BitVec.ofInt 64 s5.1 ||| BitVec.ofInt 64 s5.2).toNat : Int)) fun v10 => Option.bind (bits_Mul64 v9 v10) fun r11 => Option.bind (if (decide (r11.1.n < r4.1.n)) = true then some true else if (r11.1.n == r4.1.n) = true then some (decide (r11.2.n ≤ r4.2.n)) else some false) fun z12 : Bool => if z12 = true then letF (IntKind.wrap .u64 ((BitVec.ofInt 64 s5.1 ||| BitVec.ofInt 64 s5.2).toNat : Int)) fun v16 => some v16 else some s5.1) fun z8 : Int => some (.next (z8, Int.fdiv s5.2 (2 ^ 1))) else some (.done s5.1)
def num_SqrtMul (a : Int) (b : Int) : Option Int :=
  Option.bind (if (decide (a < 0)) = true then some true else some (decide (b < 0))) fun z1 : Bool => if z1 = true then some 0 else Option.bind (bits_Mul64 (IntKind.wrap .u64 a) (IntKind.wrap .u64 b)) fun r4 => Option.bind (loopF (num_SqrtMul.l1 r4) (0, 4611686018427387904)) fun z6 : Int => some (w6 z6)
def num_Sqrt (a : Int) : Option Int :=
  Option.bind (num_SqrtMul a 1) fun r1 => some r1
def num_size (a : Int) : Option NU64 :=
  if (decide (a < 0)) = true then some (NU64.mk (IntKind.wrap .u64 (0 - (IntKind.wrap .u64 a)))) else some (NU64.mk (IntKind.wrap .u64 a))
def Wide_Neg (w : num_Wide) : Option num_Wide :=
  letF (IntKind.wrap .u64 ((BitVec.ofInt 64 (18446744073709551615) ^^^ BitVec.ofInt 64 w.Lo.n).toNat : Int)) fun v1 => Option.bind (add64 v1 1 0) fun r2 => letF (IntKind.wrap .u64 ((BitVec.ofInt 64 (18446744073709551615) ^^^ BitVec.ofInt 64 (IntKind.wrap .u64 w.Hi)).toNat : Int)) fun v3 => Option.bind (add64 v3 0 r2.2) fun r4 => some (num_Wide.mk (w6 r4.1) (NU64.mk r2.1))
def num_Product (a : Int) (b : Int) : Option num_Wide :=
  Option.bind (num_size a) fun r1 => Option.bind (num_size b) fun r2 => Option.bind (bits_Mul64 r1.n r2.n) fun r3 => if ((decide (a < 0)) != (decide (b < 0))) = true then Option.bind (Wide_Neg (num_Wide.mk (w6 r3.1.n) r3.2)) fun r5 => some r5 else some (num_Wide.mk (w6 r3.1.n) r3.2)
def bits_Len64 (x : Int) : Option Int :=
  if (decide (x ≥ 4294967296)) = true then if (decide ((Int.fdiv x (2 ^ 32)) ≥ 65536)) = true then if (decide ((Int.fdiv (Int.fdiv x (2 ^ 32)) (2 ^ 16)) ≥ 256)) = true then if (0 : Int) ≤ IntKind.wrap .u8 (Int.fdiv (Int.fdiv (Int.fdiv x (2 ^ 32)) (2 ^ 16)) (2 ^ 8)) ∧ (IntKind.wrap .u8 (Int.fdiv (Int.fdiv (Int.fdiv x (2 ^ 32)) (2 ^ 16)) (2 ^ 8))).toNat < tab1.length then letF (w6 ((w6 ((w6 (32 + 16)) + 8)) + (w6 (tabAt tab1 (IntKind.wrap .u8 (Int.fdiv (Int.fdiv (Int.fdiv x (2 ^ 32)) (2 ^ 16)) (2 ^ 8))))))) fun v5 => some v5 else none else if (0 : Int) ≤ IntKind.wrap .u8 (Int.fdiv (Int.fdiv x (2 ^ 32)) (2 ^ 16)) ∧ (IntKind.wrap .u8 (Int.fdiv (Int.fdiv x (2 ^ 32)) (2 ^ 16))).toNat < tab1.length then letF (w6 ((w6 (32 + 16)) + (w6 (tabAt tab1 (IntKind.wrap .u8 (Int.fdiv (Int.fdiv x (2 ^ 32)) (2 ^ 16))))))) fun v7 => some v7 else none else if (decide ((Int.fdiv x (2 ^ 32)) ≥ 256)) = true then if (0 : Int) ≤ IntKind.wrap .u8 (Int.fdiv (Int.fdiv x (2 ^ 32)) (2 ^ 8)) ∧ (IntKind.wrap .u8 (Int.fdiv (Int.fdiv x (2 ^ 32)) (2 ^ 8))).toNat < tab1.length then letF (w6 ((w6 (32 + 8)) + (w6 (tabAt tab1 (IntKind.wrap .u8 (Int.fdiv (Int.fdiv x (2 ^ 32)) (2 ^ 8))))))) fun v10 => some v10 else none else if (0 : Int) ≤ IntKind.wrap .u8 (Int.fdiv x (2 ^ 32)) ∧ (IntKind.wrap .u8 (Int.fdiv x (2 ^ 32))).toNat < tab1.length then letF (w6 (32 + (w6 (tabAt tab1 (IntKind.wrap .u8 (Int.fdiv x (2 ^ 32))))))) fun v12 => some v12 else none else if (decide (x ≥ 65536)) = true then if (decide ((Int.fdiv x (2 ^ 16)) ≥ 256)) = true then if (0 : Int) ≤ IntKind.wrap .u8 (Int.fdiv (Int.fdiv x (2 ^ 16)) (2 ^ 8)) ∧ (IntKind.wrap .u8 (Int.fdiv (Int.fdiv x (2 ^ 16)) (2 ^ 8))).toNat < tab1.length then letF (w6 ((w6 ((w6 (0 + 16)) + 8)) + (w6 (tabAt tab1 (IntKind.wrap .u8 (Int.fdiv (Int.fdiv x (2 ^ 16)) (2 ^ 8))))))) fun v16 => some v16 else none else if (0 : Int) ≤ IntKind.wrap .u8 (Int.fdiv x (2 ^ 16)) ∧ (IntKind.wrap .u8 (Int.fdiv x (2 ^ 16))).toNat < tab1.length then letF (w6 ((w6 (0 + 16)) + (w6 (tabAt tab1 (IntKind.wrap .u8 (Int.fdiv x (2 ^ 16))))))) fun v18 => some v18 else none else if (decide (x ≥ 256)) = true then if (0 : Int) ≤ IntKind.wrap .u8 (Int.fdiv x (2 ^ 8)) ∧ (IntKind.wrap .u8 (Int.fdiv x (2 ^ 8))).toNat < tab1.length then letF (w6 ((w6 (0 + 8)) + (w6 (tabAt tab1 (IntKind.wrap .u8 (Int.fdiv x (2 ^ 8))))))) fun v21 => some v21 else none else if (0 : Int) ≤ IntKind.wrap .u8 x ∧ (IntKind.wrap .u8 x).toNat < tab1.length then some (w6 (0 + (w6 (tabAt tab1 (IntKind.wrap .u8 x))))) else none
def bits_LeadingZeros64 (x : Int) : Option Int :=
  Option.bind (bits_Len64 x) fun r1 => some (w6 (64 - r1))
def bits_Div64.l2 (v7 : Int) (v8 : Int) (v14 : Int) (s28 : Int × Int) : Option (Step (Int × Int) Int) :=
  Option.bind (if (decide (s28.2 ≥ 4294967296)) = true then some true else letF (IntKind.wrap .u64 ((IntKind.wrap .u64 (4294967296 * s28.1)) + v14)) fun v32 => some (decide ((IntKind.wrap .u64 (s28.2 * v8)) > v32))) fun z30 : Bool => if z30 = true then letF (decide ((IntKind.wrap .u64 (s28.1 + (Int.fdiv v7 (2 ^ 32)))) ≥ 4294967296)) fun v34 => if v34 = true then some (.done (IntKind.wrap .u64 (s28.2 - 1))) else some (.next (IntKind.wrap .u64 (s28.1 + (Int.fdiv v7 (2 ^ 32))), IntKind.wrap .u64 (s28.2 - 1))) else some (.done s28.2)
def bits_Div64.l1 (v7 : Int) (v8 : Int) (v13 : Int) (s17 : Int × Int) : Option (Step (Int × Int) Int) :=
  Option.bind (if (decide (s17.1 ≥ 4294967296)) = true then some true else letF (IntKind.wrap .u64 ((IntKind.wrap .u64 (4294967296 * s17.2)) + (Int.fdiv v13 (2 ^ 32)))) fun v21 => some (decide ((IntKind.wrap .u64 (s17.1 * v8)) > v21))) fun z19 : Bool => if z19 = true then letF (decide ((IntKind.wrap .u64 (s17.2 + (Int.fdiv v7 (2 ^ 32)))) ≥ 4294967296)) fun v23 => if v23 = true then some (.done (IntKind.wrap .u64 (s17.1 - 1))) else some (.next (IntKind.wrap .u64 (s17.1 - 1), IntKind.wrap .u64 (s17.2 + (Int.fdiv v7 (2 ^ 32))))) else some (.done s17.1)
def bits_Div64 (hi : Int) (lo : Int) (y : Int) : Option (NU64 × NU64) :=
  if (y == 0) = true then none else if (decide (y ≤ hi)) = true then none else if (hi == 0) = true then if y ≠ 0 then some (NU64.mk (IntKind.wrap .u64 (Int.tdiv lo y)), NU64.mk (Int.tmod lo y)) else none else Option.bind (bits_LeadingZeros64 y) fun r5 => if (0 : Int) ≤ IntKind.wrap .u64 r5 then letF (IntKind.wrap .u64 (y * 2 ^ (min (IntKind.wrap .u64 r5).toNat (IntKind.bits .u64)))) fun v7 => letF (IntKind.wrap .u64 ((BitVec.ofInt 64 v7 &&& BitVec.ofInt 64 4294967295).toNat : Int)) fun v8 => letF (IntKind.wrap .u64 (hi * 2 ^ (min (IntKind.wrap .u64 r5).toNat (IntKind.bits .u64)))) fun v9 => if (0 : Int) ≤ IntKind.wrap .u64 (64 - (IntKind.wrap .u64 r5)) then letF (Int.fdiv lo (2 ^ (min (IntKind.wrap .u64 (64 - (IntKind.wrap .u64 r5))).toNat (IntKind.bits .u64)))) fun v11 => letF (IntKind.wrap .u64 ((BitVec.ofInt 64 v9 ||| BitVec.ofInt 64 v11).toNat : Int)) fun v12 => letF (IntKind.wrap .u64 (lo * 2 ^ (min (IntKind.wrap .u64 r5).toNat (IntKind.bits .u64)))) fun v13 => letF (IntKind.wrap .u64 ((BitVec.ofInt 64 v13 &&& BitVec.ofInt 64 4294967295).toNat : Int)) fun v14 => if (Int.fdiv v7 (2 ^ 32)) ≠ 0 then letF (IntKind.wrap .u64 ((IntKind.wrap .u64 (Int.tdiv v12 (Int.fdiv v7 (2 ^ 32)))) * (Int.fdiv v7 (2 ^ 32)))) fun v16 => Option.bind (loopF (bits_Div64.l1 v7 v8 v13) (IntKind.wrap .u64 (Int.tdiv v12 (Int.fdiv v7 (2 ^ 32))), IntKind.wrap .u64 (v12 - v16))) fun z18 : Int => letF (IntKind.wrap .u64 ((IntKind.wrap .u64 (v12 * 4294967296)) + (Int.fdiv v13 (2 ^ 32)))) fun v25 => letF (IntKind.wrap .u64 (Int.tdiv (IntKind.wrap .u64 (v25 - (IntKind.wrap .u64 (z18 * v7)))) (Int.fdiv v7 (2 ^ 32)))) fun v26 => letF (IntKind.wrap .u64 ((IntKind.wrap .u64 (v25 - (IntKind.wrap .u64 (z18 * v7)))) - (IntKind.wrap .u64 (v26 * (Int.fdiv v7 (2 ^ 32)))))) fun v27 => Option.bind (loopF (bits_Div64.l2 v7 v8 v14) (v27, v26)) fun z29 : Int => letF (IntKind.wrap .u64 ((IntKind.wrap .u64 (z18 * 4294967296)) + z29)) fun v36 => letF (IntKind.wrap .u64 ((IntKind.wrap .u64 (v25 - (IntKind.wrap .u64 (z18 * v7)))) * 4294967296)) fun v37 => letF (IntKind.wrap .u64 ((IntKind.wrap .u64 (v37 + v14)) - (IntKind.wrap .u64 (z29 * v7)))) fun v38 => letF (Int.fdiv v38 (2 ^ (min (IntKind.wrap .u64 r5).toNat (IntKind.bits .u64)))) fun v39 => some (NU64.mk v36, NU64.mk v39) else none else none else none
def Wide_Div (w : num_Wide) (d : Int) : Option (Int × Int) :=
  if (decide (d < 1)) = true then some (0, 1) else if (decide (w.Hi < 0)) = true then Option.bind (Wide_Neg w) fun r3 => if (decide ((IntKind.wrap .u64 r3.Hi) ≥ (IntKind.wrap .u64 d))) = true then some (0, 2) else Option.bind (bits_Div64 (IntKind.wrap .u64 r3.Hi) r3.Lo.n (IntKind.wrap .u64 d)) fun r5 => if (decide (w.Hi < 0)) = true then if (decide (r5.2.n > 0)) = true then letF (decide (r5.1.n > (IntKind.wrap .u64 (9223372036854775808 - 1)))) fun v8 => if v8 = true then some (0, 2) else if (decide (w.Hi ≥ 0)) = true then some (w6 r5.1.n, 0) else if (decide (r5.2.n > 0)) = true then some (w6 ((w6 (IntKind.wrap .u64 (0 - r5.1.n))) - 1), 0) else some (w6 (IntKind.wrap .u64 (0 - r5.1.n)), 0) else if (decide (r5.1.n > 9223372036854775808)) = true then some (0, 2) else if (decide (w.Hi ≥ 0)) = true then some (w6 r5.1.n, 0) else if (decide (r5.2.n > 0)) = true then some (w6 ((w6 (IntKind.wrap .u64 (0 - r5.1.n))) - 1), 0) else some (w6 (IntKind.wrap .u64 (0 - r5.1.n)), 0) else if (decide (r5.1.n > 9223372036854775807)) = true then some (0, 2) else if (decide (w.Hi ≥ 0)) = true then some (w6 r5.1.n, 0) else if (decide (r5.2.n > 0)) = true then some (w6 ((w6 (IntKind.wrap .u64 (0 - r5.1.n))) - 1), 0) else some (w6 (IntKind.wrap .u64 (0 - r5.1.n)), 0) else if (decide ((IntKind.wrap .u64 w.Hi) ≥ (IntKind.wrap .u64 d))) = true then some (0, 2) else Option.bind (bits_Div64 (IntKind.wrap .u64 w.Hi) w.Lo.n (IntKind.wrap .u64 d)) fun r19 => if (decide (w.Hi < 0)) = true then if (decide (r19.2.n > 0)) = true then letF (decide (r19.1.n > (IntKind.wrap .u64 (9223372036854775808 - 1)))) fun v22 => if v22 = true then some (0, 2) else if (decide (w.Hi ≥ 0)) = true then some (w6 r19.1.n, 0) else if (decide (r19.2.n > 0)) = true then some (w6 ((w6 (IntKind.wrap .u64 (0 - r19.1.n))) - 1), 0) else some (w6 (IntKind.wrap .u64 (0 - r19.1.n)), 0) else if (decide (r19.1.n > 9223372036854775808)) = true then some (0, 2) else if (decide (w.Hi ≥ 0)) = true then some (w6 r19.1.n, 0) else if (decide (r19.2.n > 0)) = true then some (w6 ((w6 (IntKind.wrap .u64 (0 - r19.1.n))) - 1), 0) else some (w6 (IntKind.wrap .u64 (0 - r19.1.n)), 0) else if (decide (r19.1.n > 9223372036854775807)) = true then some (0, 2) else if (decide (w.Hi ≥ 0)) = true then some (w6 r19.1.n, 0) else if (decide (r19.2.n > 0)) = true then some (w6 ((w6 (IntKind.wrap .u64 (0 - r19.1.n))) - 1), 0) else some (w6 (IntKind.wrap .u64 (0 - r19.1.n)), 0)
def num_MulDiv (a : Int) (b : Int) (c : Int) : Option (Int × Int) :=
  Option.bind (num_Product a b) fun r1 => Option.bind (Wide_Div r1 c) fun r2 => some (r2.1, r2.2)
def sky_Pull_1 (x : Int) (p1 : Int) : Option Int :=
  Option.bind (num_MulDiv 9007199254740992 (mx2 x (w6 (0 - x))) p1) fun r1 => if (w6 (p1 * p1)) ≠ 0 then if (decide (x > 0)) = true then some (w6 (0 - (w6 (Int.tdiv r1.1 (w6 (p1 * p1)))))) else some (w6 (Int.tdiv r1.1 (w6 (p1 * p1)))) else none
def sky_Pull (at_ : Vec) : Option Vec :=
  Option.bind (sky_within at_ 4194304) fun r1 => if (!r1) = true then some (Vec.mk 0 0 0) else letF (w6 ((w6 ((w6 (at_.X * at_.X)) + (w6 (at_.Y * at_.Y)))) + (w6 (at_.Z * at_.Z)))) fun v3 => Option.bind (num_Sqrt v3) fun r4 => if (decide (r4 < 65536)) = true then some (Vec.mk 0 0 0) else Option.bind (sky_Pull_1 at_.X r4) fun r6 => Option.bind (sky_Pull_1 at_.Y r4) fun r7 => Option.bind (sky_Pull_1 at_.Z r4) fun r8 => some (Vec.mk r6 r7 r8)
def sky_Step (was : Vec) (here : Vec) : Option (Vec × Int) :=
  Option.bind (Option.bind (sky_within was 4194304) fun r2 => if (!r2) = true then some true else Option.bind (sky_within here 4194304) fun r4 => some (!r4)) fun z1 : Bool => if z1 = true then some (Vec.mk 0 0 0, 4) else Option.bind (sky_Pull here) fun r6 => Option.bind (sky_within (Vec.mk (w6 ((w6 ((w6 (2 * here.X)) - was.X)) + r6.X)) (w6 ((w6 ((w6 (2 * here.Y)) - was.Y)) + r6.Y)) (w6 ((w6 ((w6 (2 * here.Z)) - was.Z)) + r6.Z))) 4194304) fun r7 => if (!r7) = true then some (Vec.mk 0 0 0, 18) else some (Vec.mk (w6 ((w6 ((w6 (2 * here.X)) - was.X)) + r6.X)) (w6 ((w6 ((w6 (2 * here.Y)) - was.Y)) + r6.Y)) (w6 ((w6 ((w6 (2 * here.Z)) - was.Z)) + r6.Z)), 0)
def spykeep4_from (a : Vec) (b : Vec) : Option Vec :=
  some (Vec.mk (w6 (b.X - a.X)) (w6 (b.Y - a.Y)) (w6 (b.Z - a.Z)))
def Stream_Held_1 (c : Int) (p1 : Int) (p2 : spymake_Stream) (p3 : Int) : Option (Bound × spymake_Stream) :=
  Option.bind (Stream_Next p2 (w6 (p3 + 1))) fun r1 => Option.bind (Stream_Next r1.2 (w6 (p3 + 1))) fun r2 => some (Bound.mk (w6 ((w6 (p1 * c)) - r1.1)) (w6 ((w6 (p1 * c)) + r2.1)) false, r2.2)
def Stream_Held (s : spymake_Stream) (v : Vec) (most : Int) : Option (Box × spymake_Stream) :=
  Option.bind (Stream_Range s 1 8) fun r1 => Option.bind (Stream_Held_1 v.X r1.1 r1.2 most) fun r2 => Option.bind (Stream_Held_1 v.Y r1.1 r2.2 most) fun r3 => Option.bind (Stream_Held_1 v.Z r1.1 r3.2 most) fun r4 => some (Box.mk r2.1 r3.1 r4.1, r4.2)
def spymake_Bound (s : spymake_Stream) (most : Int) : Option (Bound × spymake_Stream) :=
  Option.bind (Stream_Next s 8) fun r1 => if (r1.1 == 0) = true then some (Bound.mk 0 0 true, r1.2) else if (r1.1 == 1) = true then Option.bind (Stream_Range r1.2 (w6 (0 - most)) most) fun r4 => some (Bound.mk r4.1 r4.1 false, r4.2) else Option.bind (Stream_Range r1.2 (w6 (0 - most)) most) fun r5 => Option.bind (Stream_Range r5.2 (w6 (0 - most)) most) fun r6 => some (Bound.mk (mn2 r5.1 r6.1) (mx2 r5.1 r6.1) false, r6.2)
def Stream_Nights.l1 (day : Int) (from_ : Vec × Vec × Vec) (at_ : Vec × Vec × Vec) (most : Int) (s1 : spymake_Stream × (Seen × Seen × Seen) × Int) : Option (Step (spymake_Stream × (Seen × Seen × Seen) × Int) (spymake_Stream × (Seen × Seen × Seen))) :=
  if (decide (s1.2.2 < 3)) = true then if (0 : Int) ≤ s1.2.2 ∧ s1.2.2 < (([at_.1, at_.2.1, at_.2.2] : List Vec).length : Int) then if (0 : Int) ≤ s1.2.2 ∧ s1.2.2 < (([from_.1, from_.2.1, from_.2.2] : List Vec).length : Int) then letF (w6 ((gt ([at_.1, at_.2.1, at_.2.2] : List Vec) s1.2.2).X - (gt ([from_.1, from_.2.1, from_.2.2] : List Vec) s1.2.2).X)) fun v6 => letF (w6 ((gt ([at_.1, at_.2.1, at_.2.2] : List Vec) s1.2.2).Y - (gt ([from_.1, from_.2.1, from_.2.2] : List Vec) s1.2.2).Y)) fun v7 => letF (w6 ((gt ([at_.1, at_.2.1, at_.2.2] : List Vec) s1.2.2).Z - (gt ([from_.1, from_.2.1, from_.2.2] : List Vec) s1.2.2).Z)) fun v8 => Option.bind (Stream_Held s1.1 (Vec.mk v6 v7 v8) most) fun r9 => Option.bind (spymake_Bound r9.2 1000) fun r10 => if (0 : Int) ≤ s1.2.2 ∧ s1.2.2 < (([s1.2.1.1, s1.2.1.2.1, s1.2.1.2.2] : List Seen).length : Int) then letF (List.set ([s1.2.1.1, s1.2.1.2.1, s1.2.1.2.2] : List Seen) s1.2.2.toNat (Seen.mk (Bound.mk (w6 ((w6 (day + s1.2.2)) * 86400000)) (w6 ((w6 (day + s1.2.2)) * 86400000)) false) (gt ([from_.1, from_.2.1, from_.2.2] : List Vec) s1.2.2) r9.1 r10.1)) fun v12 => some (.next (r10.2, (gt v12 0, gt v12 1, gt v12 2), w6 (s1.2.2 + 1))) else none else none else none else some (.done (s1.1, s1.2.1))
def Stream_Nights (s : spymake_Stream) (day : Int) (from_ : Vec × Vec × Vec) (at_ : Vec × Vec × Vec) (most : Int) : Option ((Seen × Seen × Seen) × spymake_Stream) :=
  Option.bind (loopF (Stream_Nights.l1 day from_ at_ most) (s, (Seen.mk (Bound.mk 0 0 false) (Vec.mk 0 0 0) (Box.mk (Bound.mk 0 0 false) (Bound.mk 0 0 false) (Bound.mk 0 0 false)) (Bound.mk 0 0 false), Seen.mk (Bound.mk 0 0 false) (Vec.mk 0 0 0) (Box.mk (Bound.mk 0 0 false) (Bound.mk 0 0 false) (Bound.mk 0 0 false)) (Bound.mk 0 0 false), Seen.mk (Bound.mk 0 0 false) (Vec.mk 0 0 0) (Box.mk (Bound.mk 0 0 false) (Bound.mk 0 0 false) (Bound.mk 0 0 false)) (Bound.mk 0 0 false)), 0)) fun z2 : spymake_Stream × (Seen × Seen × Seen) => some (z2.2, z2.1)
def spykeep4_orbit.l1 (r2 : Body × spymake_Stream) (r3 : Vec × Int) (r10 : Body × spymake_Stream) (r11 : Vec × Int) (s13 : Bool × Int) : Option (Step (Bool × Int) Bool) :=
  if (decide (s13.2 < 3)) = true then if (0 : Int) ≤ s13.2 ∧ s13.2 < (([r10.1.Was, r10.1.Here, r11.1] : List Vec).length : Int) then if (0 : Int) ≤ s13.2 ∧ s13.2 < (([r2.1.Was, r2.1.Here, r3.1] : List Vec).length : Int) then Option.bind (spykeep4_from (gt ([r10.1.Was, r10.1.Here, r11.1] : List Vec) s13.2) (gt ([r2.1.Was, r2.1.Here, r3.1] : List Vec) s13.2)) fun r18 => if s13.1 = true then letF (mx2 (mx2 (mx2 (mx2 (mx2 r18.X (w6 (0 - r18.X))) r18.Y) (w6 (0 - r18.Y))) r18.Z) (w6 (0 - r18.Z))) fun v20 => some (.next (decide (v20 > 40000), w6 (s13.2 + 1))) else some (.next (false, w6 (s13.2 + 1))) else none else none else some (.done s13.1)
def spykeep4_orbit.l2 (r2 : Body × spymake_Stream) (r3 : Vec × Int) (r4 : Vec × spymake_Stream) (r5 : Vec × spymake_Stream) (r6 : Vec × spymake_Stream) (s23 : Bool × Int) : Option (Step (Bool × Int) Bool) :=
  if (decide (s23.2 < 3)) = true then if (0 : Int) ≤ s23.2 ∧ s23.2 < (([r4.1, r5.1, r6.1] : List Vec).length : Int) then if (0 : Int) ≤ s23.2 ∧ s23.2 < (([r2.1.Was, r2.1.Here, r3.1] : List Vec).length : Int) then Option.bind (spykeep4_from (gt ([r4.1, r5.1, r6.1] : List Vec) s23.2) (gt ([r2.1.Was, r2.1.Here, r3.1] : List Vec) s23.2)) fun r28 => if s23.1 = true then letF (mx2 (mx2 (mx2 (mx2 (mx2 r28.X (w6 (0 - r28.X))) r28.Y) (w6 (0 - r28.Y))) r28.Z) (w6 (0 - r28.Z))) fun v30 => some (.next (decide (v30 > 40000), w6 (s23.2 + 1))) else some (.next (false, w6 (s23.2 + 1))) else none else none else some (.done s23.1)
def spykeep4_orbit.l3 (r2 : Body × spymake_Stream) (r3 : Vec × Int) (r4 : Vec × spymake_Stream) (r5 : Vec × spymake_Stream) (r6 : Vec × spymake_Stream) (s33 : Bool × Int) : Option (Step (Bool × Int) Bool) :=
  if (decide (s33.2 < 3)) = true then if (0 : Int) ≤ s33.2 ∧ s33.2 < (([r4.1, r5.1, r6.1] : List Vec).length : Int) then if (0 : Int) ≤ s33.2 ∧ s33.2 < (([r2.1.Was, r2.1.Here, r3.1] : List Vec).length : Int) then Option.bind (spykeep4_from (gt ([r4.1, r5.1, r6.1] : List Vec) s33.2) (gt ([r2.1.Was, r2.1.Here, r3.1] : List Vec) s33.2)) fun r38 => if s33.1 = true then letF (mx2 (mx2 (mx2 (mx2 (mx2 r38.X (w6 (0 - r38.X))) r38.Y) (w6 (0 - r38.Y))) r38.Z) (w6 (0 - r38.Z))) fun v40 => some (.next (decide (v40 > 40000), w6 (s33.2 + 1))) else some (.next (false, w6 (s33.2 + 1))) else none else none else some (.done s33.1)
def spykeep4_orbit (s : spymake_Stream) (most : Int) : Option ((Seen × Seen × Seen) × (Vec × Vec × Vec) × Bool × spymake_Stream) :=
  Option.bind (Stream_Place s 2) fun r1 => Option.bind (Stream_Body r1.2 1 r1.1) fun r2 => Option.bind (sky_Step r2.1.Was r2.1.Here) fun r3 => Option.bind (Stream_Place r2.2 1) fun r4 => Option.bind (Stream_Place r4.2 1) fun r5 => Option.bind (Stream_Place r5.2 1) fun r6 => Option.bind (Stream_Next r6.2 2) fun r7 => if (r7.1 == 0) = true then Option.bind (Stream_Place r7.2 1) fun r9 => Option.bind (Stream_Body r9.2 0 r9.1) fun r10 => Option.bind (sky_Step r10.1.Was r10.1.Here) fun r11 => if (r11.2 == 0) = true then Option.bind (loopF (spykeep4_orbit.l1 r2 r3 r10 r11) (r3.2 == 0, 0)) fun z14 : Bool => Option.bind (Stream_Range r10.2 (-300) 300) fun r21 => Option.bind (Stream_Nights r21.2 r21.1 (r10.1.Was, r10.1.Here, r11.1) (r2.1.Was, r2.1.Here, r3.1) most) fun r22 => some (r22.1, (r2.1.Was, r2.1.Here, r3.1), z14, r22.2) else Option.bind (loopF (spykeep4_orbit.l2 r2 r3 r4 r5 r6) (r3.2 == 0, 0)) fun z24 : Bool => Option.bind (Stream_Range r10.2 (-300) 300) fun r31 => Option.bind (Stream_Nights r31.2 r31.1 (r4.1, r5.1, r6.1) (r2.1.Was, r2.1.Here, r3.1) most) fun r32 => some (r32.1, (r2.1.Was, r2.1.Here, r3.1), z24, r32.2) else Option.bind (loopF (spykeep4_orbit.l3 r2 r3 r4 r5 r6) (r3.2 == 0, 0)) fun z34 : Bool => Option.bind (Stream_Range r7.2 (-300) 300) fun r41 => Option.bind (Stream_Nights r41.2 r41.1 (r4.1, r5.1, r6.1) (r2.1.Was, r2.1.Here, r3.1) most) fun r42 => some (r42.1, (r2.1.Was, r2.1.Here, r3.1), z34, r42.2)
def spykeep4_exact_1 (x : Int) : Option Bound :=
  some (Bound.mk x x false)
def spykeep4_exact (v : Vec) : Option Box :=
  Option.bind (spykeep4_exact_1 v.X) fun r1 => Option.bind (spykeep4_exact_1 v.Y) fun r2 => Option.bind (spykeep4_exact_1 v.Z) fun r3 => some (Box.mk r1 r2 r3)
def bound_Check (b : Bound) : Option Int :=
  Option.bind (if b.Unknown = true then if (b.Lo != 0) = true then some true else some (b.Hi != 0) else some false) fun z1 : Bool => if z1 = true then some 3 else Option.bind (if (decide ((mn2 b.Lo b.Hi) < (-1152921504606846976))) = true then some true else some (decide ((mx2 b.Lo b.Hi) > 1152921504606846976))) fun z5 : Bool => if z5 = true then some 4 else if (decide (b.Lo > b.Hi)) = true then some 11 else some 0
def bound_None : Option Bound :=
  some (Bound.mk 0 0 true)
def bound_Norm (b : Bound) : Option Bound :=
  Option.bind (bound_Check b) fun r1 => if (r1 != 0) = true then Option.bind (bound_None) fun r3 => some r3 else some b
def bound_vague (a : Bound) (b : Bound) : Option Bool :=
  Option.bind (Option.bind (bound_Norm a) fun r2 => if r2.Unknown = true then some true else Option.bind (bound_Norm b) fun r4 => some r4.Unknown) fun z1 : Bool => some z1
def bound_Of (lo : Int) (hi : Int) : Option Bound :=
  Option.bind (bound_Norm (Bound.mk lo hi false)) fun r1 => some r1
def bound_Neg (b : Bound) : Option Bound :=
  Option.bind (bound_Norm b) fun r1 => some (Bound.mk (w6 (0 - r1.Hi)) (w6 (0 - r1.Lo)) r1.Unknown)
def bound_Min (a : Bound) (b : Bound) : Option Bound :=
  Option.bind (bound_vague a b) fun r1 => if r1 = true then Option.bind (bound_None) fun r3 => some r3 else Option.bind (bound_Of (mn2 a.Lo b.Lo) (mn2 a.Hi b.Hi)) fun r4 => some r4
def bound_Max (a : Bound) (b : Bound) : Option Bound :=
  Option.bind (bound_Neg a) fun r1 => Option.bind (bound_Neg b) fun r2 => Option.bind (bound_Min r1 r2) fun r3 => Option.bind (bound_Neg r3) fun r4 => some r4
def bound_Abs (b : Bound) : Option Bound :=
  Option.bind (bound_vague b b) fun r1 => if r1 = true then Option.bind (bound_None) fun r3 => some r3 else Option.bind (if (decide (b.Lo < 0)) = true then some (decide (b.Hi > 0)) else some false) fun z4 : Bool => if z4 = true then Option.bind (bound_Of 0 (mx2 (w6 (0 - b.Lo)) b.Hi)) fun r7 => some r7 else Option.bind (bound_Neg b) fun r8 => Option.bind (bound_Max b r8) fun r9 => some r9
def bound_Mul_1 (x : Int) (y : Int) (p2 : Int) : Option (Int × Int) :=
  Option.bind (num_MulDiv x y p2) fun r1 => some (r1.1, r1.2)
def Wide_Mod (w : num_Wide) (d : Int) : Option Int :=
  if (decide (d < 1)) = true then some 0 else if (decide (w.Hi < 0)) = true then Option.bind (Wide_Neg w) fun r3 => if (IntKind.wrap .u64 d) ≠ 0 then Option.bind (bits_Div64 (Int.tmod (IntKind.wrap .u64 r3.Hi) (IntKind.wrap .u64 d)) r3.Lo.n (IntKind.wrap .u64 d)) fun r5 => Option.bind (some ()) fun z6 : Unit => if (decide (r5.2.n > 0)) = true then some (w6 (IntKind.wrap .u64 ((IntKind.wrap .u64 d) - r5.2.n))) else some (w6 r5.2.n) else none else if (IntKind.wrap .u64 d) ≠ 0 then Option.bind (bits_Div64 (Int.tmod (IntKind.wrap .u64 w.Hi) (IntKind.wrap .u64 d)) w.Lo.n (IntKind.wrap .u64 d)) fun r9 => Option.bind (some ()) fun z10 : Unit => some (w6 r9.2.n) else none
def num_MulDivUp (a : Int) (b : Int) (c : Int) : Option (Int × Int) :=
  Option.bind (num_Product a b) fun r1 => Option.bind (Wide_Div r1 c) fun r2 => Option.bind (if (r2.2 != 0) = true then some true else Option.bind (Wide_Mod r1 c) fun r5 => some (r5 == 0)) fun z3 : Bool => if z3 = true then some (r2.1, r2.2) else if (r2.1 == 9223372036854775807) = true then some (0, 2) else some (w6 (r2.1 + 1), 0)
def bound_Mul_2 (x : Int) (y : Int) (p2 : Int) : Option (Int × Int) :=
  Option.bind (num_MulDivUp x y p2) fun r1 => some (r1.1, r1.2)
def slices_Min_Int.l1 (x : List Int) (s3 : Int × Int) : Option (Step (Int × Int) Int) :=
  if (decide (s3.2 < (x.length : Int))) = true then if (0 : Int) ≤ s3.2 ∧ s3.2 < (x.length : Int) then some (.next (mn2 s3.1 (gt x s3.2), w6 (s3.2 + 1))) else none else some (.done s3.1)
def slices_Min_Int (x : List Int) : Option Int :=
  if (decide ((x.length : Int) < 1)) = true then none else if (0 : Int) ≤ 0 ∧ 0 < (x.length : Int) then Option.bind (loopF (slices_Min_Int.l1 x) (gt x 0, 1)) fun z4 : Int => some z4 else none
def slices_Max_Int.l1 (x : List Int) (s3 : Int × Int) : Option (Step (Int × Int) Int) :=
  if (decide (s3.2 < (x.length : Int))) = true then if (0 : Int) ≤ s3.2 ∧ s3.2 < (x.length : Int) then some (.next (mx2 s3.1 (gt x s3.2), w6 (s3.2 + 1))) else none else some (.done s3.1)
def slices_Max_Int (x : List Int) : Option Int :=
  if (decide ((x.length : Int) < 1)) = true then none else if (0 : Int) ≤ 0 ∧ 0 < (x.length : Int) then Option.bind (loopF (slices_Max_Int.l1 x) (gt x 0, 1)) fun z4 : Int => some z4 else none
def bound_corners_bound_Mul_1.l2 (a : Bound) (b : Bound) (down_c0 : Int) (up_c0 : Int) (s1 : (List Int) × Int) (s5 : (List Int) × Int) : Option (Step ((List Int) × Int) (Step (List Int) (Step ((List Int) × Int) (Step (List Int) Bound)))) :=
  if (decide (s5.2 < (([b.Lo, b.Hi] : List Int).length : Int))) = true then if (0 : Int) ≤ s5.2 ∧ s5.2 < (([b.Lo, b.Hi] : List Int).length : Int) then Option.bind (bound_Mul_1 (gt ([a.Lo, a.Hi] : List Int) s1.2) (gt ([b.Lo, b.Hi] : List Int) s5.2) down_c0) fun r9 => Option.bind (bound_Mul_2 (gt ([a.Lo, a.Hi] : List Int) s1.2) (gt ([b.Lo, b.Hi] : List Int) s5.2) up_c0) fun r10 => Option.bind (if (r9.2 != 0) = true then some true else some (r10.2 != 0)) fun z11 : Bool => if z11 = true then Option.bind (bound_None) fun r14 => some (.done (.done (.done (.done r14)))) else if roomy (s5.1.length + ([r9.1, r10.1] : List Int).length) 8 = true then some (.next (s5.1 ++ ([r9.1, r10.1] : List Int), w6 (s5.2 + 1))) else none else none else some (.done (.next s5.1))
def bound_corners_bound_Mul_1.l1 (a : Bound) (b : Bound) (down_c0 : Int) (up_c0 : Int) (s1 : (List Int) × Int) : Option (Step ((List Int) × Int) (Step (List Int) Bound)) :=
  if (decide (s1.2 < (([a.Lo, a.Hi] : List Int).length : Int))) = true then if (0 : Int) ≤ s1.2 ∧ s1.2 < (([a.Lo, a.Hi] : List Int).length : Int) then seqF (loopF (bound_corners_bound_Mul_1.l2 a b down_c0 up_c0 s1) (s1.1, 0)) fun z6 : (List Int) => some (.next (z6, w6 (s1.2 + 1))) else none else some (.done (.next s1.1))
def bound_corners_bound_Mul_1 (a : Bound) (b : Bound) (down_c0 : Int) (up_c0 : Int) : Option Bound :=
  seqF (loopF (bound_corners_bound_Mul_1.l1 a b down_c0 up_c0) (([] : List Int), 0)) fun z2 : (List Int) => Option.bind (slices_Min_Int z2) fun r16 => Option.bind (slices_Max_Int z2) fun r17 => Option.bind (bound_Of r16 r17) fun r18 => some r18
def bound_Mul (a : Bound) (b : Bound) (unit : Int) : Option Bound :=
  Option.bind (Option.bind (bound_vague a b) fun r2 => if r2 = true then some true else some (decide (unit < 1))) fun z1 : Bool => if z1 = true then Option.bind (bound_None) fun r5 => some r5 else Option.bind (bound_corners_bound_Mul_1 a b unit unit) fun r6 => some r6
def arc_Square (b : Bound) : Option Bound :=
  Option.bind (bound_Abs b) fun r1 => Option.bind (bound_Mul r1 r1 1) fun r2 => some r2
def bound_Add (a : Bound) (b : Bound) : Option Bound :=
  Option.bind (bound_vague a b) fun r1 => if r1 = true then Option.bind (bound_None) fun r3 => some r3 else Option.bind (bound_Of (w6 (a.Lo + b.Lo)) (w6 (a.Hi + b.Hi))) fun r4 => some r4
def bound_SumF : List Bound → Bound → Bound
  | [], s => s
  | x :: xs, s => if ((bound_Add s x).getD s).Unknown = true then (bound_Add s x).getD s else bound_SumF xs ((bound_Add s x).getD s)
def bound_Sum (l : List Bound) : Option Bound :=
  if l.length * 24 ≤ 140737488351232 then some (bound_SumF l (Bound.mk 0 0 false)) else none
def arc_Norm (v : Bound × Bound × Bound) : Option Bound :=
  Option.bind (arc_Square v.1) fun r1 => Option.bind (arc_Square v.2.1) fun r2 => Option.bind (arc_Square v.2.2) fun r3 => Option.bind (bound_Sum ([r1, r2, r3] : List Bound)) fun r4 => some r4
def cmp_isNaN (x : Int) : Option Bool :=
  some (x != x)
def cmp_Compare (x : Int) (y : Int) : Option Int :=
  Option.bind (cmp_isNaN x) fun r1 => Option.bind (cmp_isNaN y) fun r2 => if r1 = true then if r2 = true then some 0 else some (-1) else if r2 = true then some 1 else if (decide (x < y)) = true then some (-1) else if (decide (x > y)) = true then some 1 else some 0
def cmp_Or.l1 (vals : List Int) (s1 : Int) : Option (Step Int (Step Unit Int)) :=
  if (decide (s1 < (vals.length : Int))) = true then if (0 : Int) ≤ s1 ∧ s1 < (vals.length : Int) then if ((gt vals s1) != 0) = true then some (.done (.done (gt vals s1))) else some (.next (w6 (s1 + 1))) else none else some (.done (.next ()))
def cmp_Or (vals : List Int) : Option Int :=
  seqF (loopF (cmp_Or.l1 vals) 0) fun z2 : Unit => some 0
def Wide_Cmp (w : num_Wide) (v : num_Wide) : Option Int :=
  Option.bind (cmp_Compare w.Hi v.Hi) fun r1 => Option.bind (cmp_Compare w.Lo.n v.Lo.n) fun r2 => Option.bind (cmp_Or ([r1, r2] : List Int)) fun r3 => some r3
def bound_Root (a : Bound) (unit : Int) : Option Bound :=
  Option.bind (Option.bind (bound_vague a a) fun r2 => if r2 = true then some true else if (decide (unit < 1)) = true then some true else some (decide (a.Hi < 0))) fun z1 : Bool => if z1 = true then Option.bind (bound_None) fun r6 => some r6 else Option.bind (num_SqrtMul (mx2 a.Lo 0) unit) fun r7 => Option.bind (num_SqrtMul a.Hi unit) fun r8 => Option.bind (num_Product r8 r8) fun r9 => Option.bind (num_Product a.Hi unit) fun r10 => Option.bind (Wide_Cmp r9 r10) fun r11 => if (decide (r11 < 0)) = true then Option.bind (bound_Of r7 (w6 (r8 + 1))) fun r13 => some r13 else Option.bind (bound_Of r7 r8) fun r14 => some r14
def bound_Div_1 (x : Int) (y : Int) (p2 : Int) : Option (Int × Int) :=
  Option.bind (num_MulDiv x p2 y) fun r1 => some (r1.1, r1.2)
def bound_Div_2 (x : Int) (y : Int) (p2 : Int) : Option (Int × Int) :=
  Option.bind (num_MulDivUp x p2 y) fun r1 => some (r1.1, r1.2)
def bound_corners_bound_Div_1.l2 (a : Bound) (b : Bound) (down_c0 : Int) (up_c0 : Int) (s1 : (List Int) × Int) (s5 : (List Int) × Int) : Option (Step ((List Int) × Int) (Step (List Int) (Step ((List Int) × Int) (Step (List Int) Bound)))) :=
  if (decide (s5.2 < (([b.Lo, b.Hi] : List Int).length : Int))) = true then if (0 : Int) ≤ s5.2 ∧ s5.2 < (([b.Lo, b.Hi] : List Int).length : Int) then Option.bind (bound_Div_1 (gt ([a.Lo, a.Hi] : List Int) s1.2) (gt ([b.Lo, b.Hi] : List Int) s5.2) down_c0) fun r9 => Option.bind (bound_Div_2 (gt ([a.Lo, a.Hi] : List Int) s1.2) (gt ([b.Lo, b.Hi] : List Int) s5.2) up_c0) fun r10 => Option.bind (if (r9.2 != 0) = true then some true else some (r10.2 != 0)) fun z11 : Bool => if z11 = true then Option.bind (bound_None) fun r14 => some (.done (.done (.done (.done r14)))) else if roomy (s5.1.length + ([r9.1, r10.1] : List Int).length) 8 = true then some (.next (s5.1 ++ ([r9.1, r10.1] : List Int), w6 (s5.2 + 1))) else none else none else some (.done (.next s5.1))
def bound_corners_bound_Div_1.l1 (a : Bound) (b : Bound) (down_c0 : Int) (up_c0 : Int) (s1 : (List Int) × Int) : Option (Step ((List Int) × Int) (Step (List Int) Bound)) :=
  if (decide (s1.2 < (([a.Lo, a.Hi] : List Int).length : Int))) = true then if (0 : Int) ≤ s1.2 ∧ s1.2 < (([a.Lo, a.Hi] : List Int).length : Int) then seqF (loopF (bound_corners_bound_Div_1.l2 a b down_c0 up_c0 s1) (s1.1, 0)) fun z6 : (List Int) => some (.next (z6, w6 (s1.2 + 1))) else none else some (.done (.next s1.1))
def bound_corners_bound_Div_1 (a : Bound) (b : Bound) (down_c0 : Int) (up_c0 : Int) : Option Bound :=
  seqF (loopF (bound_corners_bound_Div_1.l1 a b down_c0 up_c0) (([] : List Int), 0)) fun z2 : (List Int) => Option.bind (slices_Min_Int z2) fun r16 => Option.bind (slices_Max_Int z2) fun r17 => Option.bind (bound_Of r16 r17) fun r18 => some r18
def bound_Div (a : Bound) (b : Bound) (unit : Int) : Option Bound :=
  Option.bind (Option.bind (bound_vague a b) fun r2 => if r2 = true then some true else if (decide (unit < 1)) = true then some true else if (decide (b.Lo ≤ 0)) = true then some (decide (b.Hi ≥ 0)) else some false) fun z1 : Bool => if z1 = true then Option.bind (bound_None) fun r7 => some r7 else if (decide (b.Hi < 0)) = true then Option.bind (bound_Neg a) fun r9 => Option.bind (bound_Neg b) fun r10 => Option.bind (bound_corners_bound_Div_1 r9 r10 unit unit) fun r11 => some r11 else Option.bind (bound_corners_bound_Div_1 a b unit unit) fun r12 => some r12
def bound_Meet (a : Bound) (b : Bound) : Option (Bound × Bool) :=
  Option.bind (bound_Norm a) fun r1 => Option.bind (bound_Norm b) fun r2 => if r1.Unknown = true then some (r2, true) else if r2.Unknown = true then some (r1, true) else if (decide ((mx2 r1.Lo r2.Lo) > (mn2 r1.Hi r2.Hi))) = true then some (Bound.mk 0 0 false, false) else Option.bind (bound_Of (mx2 r1.Lo r2.Lo) (mn2 r1.Hi r2.Hi)) fun r6 => some (r6, true)
def arc_Ray.l1 (r2 : Bound) (s6 : (Bound × Bound × Bound) × Int) : Option (Step ((Bound × Bound × Bound) × Int) (Bound × Bound × Bound)) :=
  if (decide (s6.2 < 3)) = true then if (0 : Int) ≤ s6.2 ∧ s6.2 < (([s6.1.1, s6.1.2.1, s6.1.2.2] : List Bound).length : Int) then Option.bind (bound_Div (gt ([s6.1.1, s6.1.2.1, s6.1.2.2] : List Bound) s6.2) r2 1125899906842624) fun r10 => Option.bind (bound_Meet r10 (Bound.mk (-1073741824) 1073741824 false)) fun r11 => letF (List.set ([s6.1.1, s6.1.2.1, s6.1.2.2] : List Bound) s6.2.toNat r11.1) fun v12 => some (.next ((gt v12 0, gt v12 1, gt v12 2), w6 (s6.2 + 1))) else none else some (.done s6.1)
def arc_Ray (b : Box) : Option ((Bound × Bound × Bound) × Bool) :=
  Option.bind (arc_Norm (b.X, b.Y, b.Z)) fun r1 => Option.bind (bound_Root r1 1099511627776) fun r2 => Option.bind (if r2.Unknown = true then some true else some (r2.Lo == 0)) fun z3 : Bool => if z3 = true then some ((Bound.mk 0 0 false, Bound.mk 0 0 false, Bound.mk 0 0 false), false) else Option.bind (loopF (arc_Ray.l1 r2) ((b.X, b.Y, b.Z), 0)) fun z7 : (Bound × Bound × Bound) => some (z7, true)
def spykeep4_rayed : Option Bool :=
  Option.bind (spykeep4_exact (Vec.mk 0 7 0)) fun r1 => Option.bind (arc_Ray r1) fun r2 => Option.bind (if r2.2 = true then some (((r2.1.1.Lo == 0) && ((r2.1.1.Hi == 0) && ((r2.1.1.Unknown == false) && (true)))) && (((r2.1.2.1.Lo == 1073741824) && ((r2.1.2.1.Hi == 1073741824) && ((r2.1.2.1.Unknown == false) && (true)))) && (((r2.1.2.2.Lo == 0) && ((r2.1.2.2.Hi == 0) && ((r2.1.2.2.Unknown == false) && (true)))) && (true)))) else some false) fun z3 : Bool => some z3
def tracklet_CheckSeen.l1 (s : Seen) (s10 : Int) : Option (Step Int (Step Unit Int)) :=
  letF (decide (s10 < (([s.Box.X, s.Box.Y, s.Box.Z] : List Bound).length : Int))) fun v12 => if v12 = true then if (0 : Int) ≤ s10 ∧ s10 < (([s.Box.X, s.Box.Y, s.Box.Z] : List Bound).length : Int) then Option.bind (bound_Check (gt ([s.Box.X, s.Box.Y, s.Box.Z] : List Bound) s10)) fun r15 => if (r15 != 0) = true then some (.done (.done r15)) else Option.bind (letF (decide ((gt ([s.Box.X, s.Box.Y, s.Box.Z] : List Bound) s10).Lo < (-536870912))) fun v18 => if v18 = true then some true else letF (decide ((gt ([s.Box.X, s.Box.Y, s.Box.Z] : List Bound) s10).Hi > 536870912)) fun v20 => some v20) fun z17 : Bool => if z17 = true then some (.done (.done 4)) else some (.next (w6 (s10 + 1))) else none else some (.done (.next ()))
def tracklet_CheckSeen (s : Seen) : Option Int :=
  Option.bind (bound_Check s.At) fun r1 => if (r1 != 0) = true then some r1 else if s.At.Unknown = true then some 1 else Option.bind (if (decide (s.At.Lo < (-17592186044416))) = true then some true else some (decide (s.At.Hi > 17592186044416))) fun z4 : Bool => if z4 = true then some 4 else Option.bind (if (decide ((mx2 (mx2 s.From.X s.From.Y) s.From.Z) > 4194304)) = true then some true else some (decide ((mn2 (mn2 s.From.X s.From.Y) s.From.Z) < (-4194304)))) fun z7 : Bool => if z7 = true then some 4 else seqF (loopF (tracklet_CheckSeen.l1 s) 0) fun z11 : Unit => Option.bind (bound_Check s.Flux) fun r22 => some r22
def arc_Check.l2 (s : Seen × Seen × Seen) (s19 : Int) : Option (Step Int (Step Unit Int)) :=
  if (decide (s19 < 3)) = true then if (0 : Int) ≤ s19 ∧ s19 < (([s.1, s.2.1, s.2.2] : List Seen).length : Int) then Option.bind (arc_Ray (gt ([s.1, s.2.1, s.2.2] : List Seen) s19).Box) fun r23 => if (!r23.2) = true then some (.done (.done 3)) else some (.next (w6 (s19 + 1))) else none else some (.done (.next ()))
def arc_Check.l1 (s : Seen × Seen × Seen) (s1 : Int) : Option (Step Int (Step Unit Int)) :=
  if (decide (s1 < 3)) = true then if (0 : Int) ≤ s1 ∧ s1 < (([s.1, s.2.1, s.2.2] : List Seen).length : Int) then Option.bind (tracklet_CheckSeen (gt ([s.1, s.2.1, s.2.2] : List Seen) s1)) fun r5 => if (r5 != 0) = true then some (.done (.done r5)) else Option.bind (letF ((gt ([s.1, s.2.1, s.2.2] : List Seen) s1).At.Lo != (gt ([s.1, s.2.1, s.2.2] : List Seen) s1).At.Hi) fun v8 => if v8 = true then some true else letF (Int.tmod (gt ([s.1, s.2.1, s.2.2] : List Seen) s1).At.Lo 86400000) fun v10 => some (v10 != 0)) fun z7 : Bool => if z7 = true then some (.done (.done 1)) else Option.bind (if (gt ([s.1, s.2.1, s.2.2] : List Seen) s1).Box.X.Unknown = true then some true else if (gt ([s.1, s.2.1, s.2.2] : List Seen) s1).Box.Y.Unknown = true then some true else some (gt ([s.1, s.2.1, s.2.2] : List Seen) s1).Box.Z.Unknown) fun z12 : Bool => if z12 = true then some (.done (.done 10)) else some (.next (w6 (s1 + 1))) else none else some (.done (.next ()))
def arc_Check (s : Seen × Seen × Seen) : Option Int :=
  seqF (loopF (arc_Check.l1 s) 0) fun z2 : Unit => Option.bind (if ((w6 (s.2.1.At.Lo - s.1.At.Lo)) != 86400000) = true then some true else some ((w6 (s.2.2.At.Lo - s.2.1.At.Lo)) != 86400000)) fun z16 : Bool => if z16 = true then some 11 else seqF (loopF (arc_Check.l2 s) 0) fun z20 : Unit => some 0
def bound_Sub (a : Bound) (b : Bound) : Option Bound :=
  Option.bind (bound_Neg b) fun r1 => Option.bind (bound_Add a r1) fun r2 => some r2
def arc_minus (a : Bound × Bound × Bound) (b : Bound × Bound × Bound) : Option (Bound × Bound × Bound) :=
  Option.bind (bound_Sub a.1 b.1) fun r1 => Option.bind (bound_Sub a.2.1 b.2.1) fun r2 => Option.bind (bound_Sub a.2.2 b.2.2) fun r3 => some (r1, r2, r3)
def arc_cross_1 (i : Int) (j : Int) (p2 : Bound × Bound × Bound) (p3 : Bound × Bound × Bound) : Option Bound :=
  if (0 : Int) ≤ i ∧ i < (([p2.1, p2.2.1, p2.2.2] : List Bound).length : Int) then if (0 : Int) ≤ j ∧ j < (([p3.1, p3.2.1, p3.2.2] : List Bound).length : Int) then Option.bind (bound_Mul (gt ([p2.1, p2.2.1, p2.2.2] : List Bound) i) (gt ([p3.1, p3.2.1, p3.2.2] : List Bound) j) 1073741824) fun r3 => if (0 : Int) ≤ j ∧ j < (([p2.1, p2.2.1, p2.2.2] : List Bound).length : Int) then if (0 : Int) ≤ i ∧ i < (([p3.1, p3.2.1, p3.2.2] : List Bound).length : Int) then Option.bind (bound_Mul (gt ([p2.1, p2.2.1, p2.2.2] : List Bound) j) (gt ([p3.1, p3.2.1, p3.2.2] : List Bound) i) 1073741824) fun r6 => Option.bind (bound_Sub r3 r6) fun r7 => some r7 else none else none else none else none
def arc_cross (a : Bound × Bound × Bound) (b : Bound × Bound × Bound) : Option (Bound × Bound × Bound) :=
  Option.bind (arc_cross_1 1 2 a b) fun r1 => Option.bind (arc_cross_1 2 0 a b) fun r2 => Option.bind (arc_cross_1 0 1 a b) fun r3 => some (r1, r2, r3)
def bound_Exact (v : Int) : Option Bound :=
  Option.bind (bound_Of v v) fun r1 => some r1
def arc_exact (v : Vec) : Option (Bound × Bound × Bound) :=
  Option.bind (bound_Exact v.X) fun r1 => Option.bind (bound_Exact v.Y) fun r2 => Option.bind (bound_Exact v.Z) fun r3 => some (r1, r2, r3)
def arc_dot (a : Bound × Bound × Bound) (b : Bound × Bound × Bound) (unit : Int) : Option Bound :=
  Option.bind (bound_Mul a.1 b.1 unit) fun r1 => Option.bind (bound_Mul a.2.1 b.2.1 unit) fun r2 => Option.bind (bound_Mul a.2.2 b.2.2 unit) fun r3 => Option.bind (bound_Sum ([r1, r2, r3] : List Bound)) fun r4 => some r4
def arc_begin (s : Seen × Seen × Seen) : Option arc_plane :=
  Option.bind (arc_Ray s.1.Box) fun r1 => Option.bind (arc_Ray s.2.1.Box) fun r2 => Option.bind (arc_Ray s.2.2.Box) fun r3 => Option.bind (arc_minus r3.1 r1.1) fun r4 => Option.bind (arc_cross r1.1 r4) fun r5 => Option.bind (arc_exact s.1.From) fun r6 => Option.bind (arc_exact s.2.1.From) fun r7 => Option.bind (arc_exact s.2.2.From) fun r8 => Option.bind (arc_minus r8 r7) fun r9 => Option.bind (arc_minus r7 r6) fun r10 => Option.bind (arc_minus r9 r10) fun r11 => Option.bind (arc_dot r5 r11 1) fun r12 => Option.bind (arc_minus r2.1 r1.1) fun r13 => Option.bind (arc_dot r13 r5 1073741824) fun r14 => Option.bind (arc_dot r5 r7 1) fun r15 => Option.bind (bound_Abs r5.1) fun r16 => Option.bind (bound_Abs r5.2.1) fun r17 => Option.bind (bound_Abs r5.2.2) fun r18 => Option.bind (bound_Sum ([r16, r17, r18] : List Bound)) fun r19 => some (arc_plane.mk r2.1 r7 r5 r12 r14 r15 r19)
def arc_steps (m : Int) (n : Int) : Option Bound :=
  some (Bound.mk (w6 (m * 4096)) (w6 (n * 4096)) false)
def arc_along.l1 (from_ : Bound × Bound × Bound) (ray : Bound × Bound × Bound) (far : Bound) (s1 : (Bound × Bound × Bound) × Int) : Option (Step ((Bound × Bound × Bound) × Int) (Bound × Bound × Bound)) :=
  if (decide (s1.2 < 3)) = true then if (0 : Int) ≤ s1.2 ∧ s1.2 < (([from_.1, from_.2.1, from_.2.2] : List Bound).length : Int) then if (0 : Int) ≤ s1.2 ∧ s1.2 < (([ray.1, ray.2.1, ray.2.2] : List Bound).length : Int) then Option.bind (bound_Mul (gt ([ray.1, ray.2.1, ray.2.2] : List Bound) s1.2) far 1073741824) fun r6 => Option.bind (bound_Add (gt ([from_.1, from_.2.1, from_.2.2] : List Bound) s1.2) r6) fun r7 => if (0 : Int) ≤ s1.2 ∧ s1.2 < (([s1.1.1, s1.1.2.1, s1.1.2.2] : List Bound).length : Int) then letF (List.set ([s1.1.1, s1.1.2.1, s1.1.2.2] : List Bound) s1.2.toNat r7) fun v9 => some (.next ((gt v9 0, gt v9 1, gt v9 2), w6 (s1.2 + 1))) else none else none else none else some (.done s1.1)
def arc_along (from_ : Bound × Bound × Bound) (ray : Bound × Bound × Bound) (far : Bound) : Option (Bound × Bound × Bound) :=
  Option.bind (loopF (arc_along.l1 from_ ray far) ((Bound.mk 0 0 false, Bound.mk 0 0 false, Bound.mk 0 0 false), 0)) fun z2 : (Bound × Bound × Bound) => some z2
def bound_Scale (a : Bound) (n : Int) (d : Int) : Option Bound :=
  Option.bind (bound_Exact n) fun r1 => Option.bind (bound_Mul a r1 d) fun r2 => some r2
def num_FloorDiv (a : Int) (b : Int) : Option Int :=
  if (decide (b < 1)) = true then some 0 else if b ≠ 0 then if (decide ((Int.tmod a b) < 0)) = true then some (w6 ((w6 (Int.tdiv a b)) - 1)) else some (w6 (Int.tdiv a b)) else none
def num_CeilDiv (a : Int) (b : Int) : Option Int :=
  if (decide (b < 1)) = true then some 0 else if b ≠ 0 then if (decide ((Int.tmod a b) > 0)) = true then some (w6 ((w6 (Int.tdiv a b)) + 1)) else some (w6 (Int.tdiv a b)) else none
def arc_Strength (r_ : Bound) : Option Bound :=
  Option.bind (Option.bind (bound_Check r_) fun r2 => if (r2 != 0) = true then some true else if r_.Unknown = true then some true else if (decide (r_.Lo < 0)) = true then some true else some (decide (r_.Hi ≥ 67108864))) fun z1 : Bool => if z1 = true then Option.bind (bound_None) fun r7 => some r7 else if (decide (r_.Hi < 65536)) = true then some (Bound.mk 0 0 false) else Option.bind (num_MulDiv 9007199254740992 68719476736 (w6 (r_.Hi * r_.Hi))) fun r9 => Option.bind (num_MulDivUp 9007199254740992 68719476736 (w6 ((mx2 r_.Lo 65536) * (mx2 r_.Lo 65536)))) fun r10 => Option.bind (num_FloorDiv r9.1 r_.Hi) fun r11 => Option.bind (num_CeilDiv r10.1 (mx2 r_.Lo 65536)) fun r12 => if (decide (r_.Lo < 65536)) = true then some (Bound.mk 0 r12 false) else some (Bound.mk r11 r12 false)
def bound_Hull (a : Bound) (b : Bound) : Option Bound :=
  Option.bind (bound_vague a b) fun r1 => if r1 = true then Option.bind (bound_None) fun r3 => some r3 else Option.bind (bound_Of (mn2 a.Lo b.Lo) (mx2 a.Hi b.Hi)) fun r4 => some r4
def bound_Has (b : Bound) (v : Int) : Option Bool :=
  Option.bind (Option.bind (bound_vague b b) fun r2 => if r2 = true then some true else if (decide (b.Lo ≤ v)) = true then some (decide (v ≤ b.Hi)) else some false) fun z1 : Bool => some z1
def plane_can (p : arc_plane) (far : Bound) : Option Bool :=
  Option.bind (arc_along p.from_ p.ray far) fun r1 => Option.bind (arc_Norm r1) fun r2 => Option.bind (bound_Root r2 1) fun r3 => Option.bind (bound_Mul far p.slope 1) fun r4 => Option.bind (bound_Scale r4 2 1) fun r5 => Option.bind (bound_Sub p.turn r5) fun r6 => Option.bind (arc_Strength r3) fun r7 => Option.bind (bound_Add p.offset r4) fun r8 => Option.bind (bound_Mul r7 r8 68719476736) fun r9 => Option.bind (bound_Add r6 r9) fun r10 => Option.bind (if r3.Unknown = true then some true else some (decide (r3.Lo < 524288))) fun z11 : Bool => if z11 = true then Option.bind (bound_Scale p.blurred 98 1) fun r14 => Option.bind (bound_Neg r14) fun r15 => Option.bind (bound_Hull r14 r15) fun r16 => Option.bind (bound_Add r10 r16) fun r17 => Option.bind (bound_Has r17 0) fun r18 => some r18 else Option.bind (bound_Scale p.blurred 2 1) fun r19 => Option.bind (bound_Neg r19) fun r20 => Option.bind (bound_Hull r19 r20) fun r21 => Option.bind (bound_Add r10 r21) fun r22 => Option.bind (bound_Has r22 0) fun r23 => some r23
def arc_Solve_1 (m : Int) (p1 : List arc_Orbit) (p1V : Nat) (p2 : Seen × Seen × Seen) : Option (Nat × (List arc_Orbit)) :=
  Option.bind (if (decide ((w6 ((p1.length : Int) - 1)) ≥ 0)) = true then if (0 : Int) ≤ w6 ((p1.length : Int) - 1) ∧ (w6 ((p1.length : Int) - 1)) < (p1.length : Int) then some ((gt p1 (w6 ((p1.length : Int) - 1))).Far == (w6 (m * 4096))) else none else some false) fun z1 : Bool => if z1 = true then if (0 : Int) ≤ w6 ((p1.length : Int) - 1) ∧ (w6 ((p1.length : Int) - 1)) < (p1.length : Int) then letF (List.set p1 (w6 ((p1.length : Int) - 1)).toNat (arc_Orbit.mk (gt p1 (w6 ((p1.length : Int) - 1))).Seen (gt p1 (w6 ((p1.length : Int) - 1))).Near (w6 ((gt p1 (w6 ((p1.length : Int) - 1))).Far + 4096)))) fun v6 => some (p1V, v6) else none else if roomy (p1.length + ([arc_Orbit.mk p2 (w6 (m * 4096)) (w6 ((w6 (m + 1)) * 4096))] : List arc_Orbit).length) 448 = true then some ((p1V + 1), p1 ++ ([arc_Orbit.mk p2 (w6 (m * 4096)) (w6 ((w6 (m + 1)) * 4096))] : List arc_Orbit)) else none
def plane_search_arc_Solve_1 : Nat → arc_plane → Int → Int → (List arc_Orbit) → Nat → (Seen × Seen × Seen) → Option (Nat × (List arc_Orbit))
  | 0, _, _, _, _, _, _ => none
  | fuel + 1, p, m, n, fc0, fc0V, fc1 =>
  Option.bind (arc_steps m n) fun r1 => Option.bind (plane_can p r1) fun r2 => if (!r2) = true then some (fc0V, fc0) else if (n == (w6 (m + 1))) = true then Option.bind (arc_Solve_1 m fc0 fc0V fc1) fun r5 => some (r5.1, r5.2) else Option.bind (plane_search_arc_Solve_1 fuel p m (w6 (Int.tdiv (w6 (m + n)) 2)) fc0 fc0V fc1) fun r6 => Option.bind (plane_search_arc_Solve_1 fuel p (w6 (Int.tdiv (w6 (m + n)) 2)) n r6.2 r6.1 fc1) fun r7 => some (r7.1, r7.2)
def plane_search_arc_Solve_1_2 : Nat → arc_plane → Int → Int → (List arc_Orbit) → Nat → (Seen × Seen × Seen) → Option (Nat × (List arc_Orbit) × (Seen × Seen × Seen))
  | 0, _, _, _, _, _, _ => none
  | fuel + 1, p, m, n, fc0, fc0V, fc1 =>
  Option.bind (arc_steps m n) fun r1 => Option.bind (plane_can p r1) fun r2 => if (!r2) = true then some (fc0V, fc0, fc1) else if (n == (w6 (m + 1))) = true then Option.bind (arc_Solve_1 m fc0 fc0V fc1) fun r5 => some (r5.1, r5.2, fc1) else Option.bind (plane_search_arc_Solve_1_2 fuel p m (w6 (Int.tdiv (w6 (m + n)) 2)) fc0 fc0V fc1) fun r6 => Option.bind (plane_search_arc_Solve_1_2 fuel p (w6 (Int.tdiv (w6 (m + n)) 2)) n r6.2.1 r6.1 r6.2.2) fun r7 => some (r7.1, r7.2.1, r7.2.2)
def arc_Solve (s : Seen × Seen × Seen) : Option ((List arc_Orbit) × Int) :=
  Option.bind (arc_Check s) fun r1 => if (r1 != 0) = true then some ([], r1) else Option.bind (arc_begin s) fun r3 => Option.bind (plane_search_arc_Solve_1_2 64 r3 0 4096 ([] : List arc_Orbit) 0 s) fun r4 => some (r4.2.1, 0)
def spykeep4_ArcWider_1 (p : arc_Orbit) (p1 : arc_Orbit) : Option Bool :=
  Option.bind (if (decide (p.Near ≤ p1.Near)) = true then some (decide (p1.Far ≤ p.Far)) else some false) fun z1 : Bool => some z1
def slices_IndexFunc_arc_Orbit_spykeep4_ArcWider_1.l1 (s : List arc_Orbit) (fc0 : arc_Orbit) (s1 : Int) : Option (Step Int (Step Unit Int)) :=
  if (decide (s1 < (s.length : Int))) = true then if (0 : Int) ≤ s1 ∧ s1 < (s.length : Int) then Option.bind (spykeep4_ArcWider_1 (gt s s1) fc0) fun r5 => if r5 = true then some (.done (.done s1)) else some (.next (w6 (s1 + 1))) else none else some (.done (.next ()))
def slices_IndexFunc_arc_Orbit_spykeep4_ArcWider_1 (s : List arc_Orbit) (fc0 : arc_Orbit) : Option Int :=
  seqF (loopF (slices_IndexFunc_arc_Orbit_spykeep4_ArcWider_1.l1 s fc0) 0) fun z2 : Unit => some (-1)
def slices_ContainsFunc_arc_Orbit_spykeep4_ArcWider_1 (s : List arc_Orbit) (fc0 : arc_Orbit) : Option Bool :=
  Option.bind (slices_IndexFunc_arc_Orbit_spykeep4_ArcWider_1 s fc0) fun r1 => some (decide (r1 ≥ 0))
def spykeep4_ArcWider.l1 (r11 : (List arc_Orbit) × Int) (r12 : (List arc_Orbit) × Int) (s16 : Int) : Option (Step Int (Step Unit Bool)) :=
  if (decide (s16 < (r11.1.length : Int))) = true then if (0 : Int) ≤ s16 ∧ s16 < (r11.1.length : Int) then Option.bind (slices_ContainsFunc_arc_Orbit_spykeep4_ArcWider_1 r12.1 (gt r11.1 s16)) fun r20 => if (!r20) = true then some (.done (.done false)) else some (.next (w6 (s16 + 1))) else none else some (.done (.next ()))
def spykeep4_ArcWider (l : List Int) (most : Int) (wide : Int) : Option Bool :=
  Option.bind (spymake_Below most 200) fun r1 => Option.bind (spykeep4_orbit (spymake_Stream.mk l 0) r1) fun r2 => Option.bind (Option.bind (spykeep4_rayed) fun r4 => if (!r4) = true then some true else some (!r2.2.2.1)) fun z3 : Bool => if z3 = true then Option.bind (spykeep4_rayed) fun r7 => some r7 else Option.bind (spymake_Below wide 300) fun r8 => Option.bind (spymake_Below wide 300) fun r9 => Option.bind (spymake_Below wide 300) fun r10 => Option.bind (arc_Solve r2.1) fun r11 => Option.bind (arc_Solve (Seen.mk r2.1.1.At r2.1.1.From (Box.mk (Bound.mk (w6 (r2.1.1.Box.X.Lo - r8)) (w6 (r2.1.1.Box.X.Hi + r8)) r2.1.1.Box.X.Unknown) (Bound.mk (w6 (r2.1.1.Box.Y.Lo - r8)) (w6 (r2.1.1.Box.Y.Hi + r8)) r2.1.1.Box.Y.Unknown) (Bound.mk (w6 (r2.1.1.Box.Z.Lo - r8)) (w6 (r2.1.1.Box.Z.Hi + r8)) r2.1.1.Box.Z.Unknown)) r2.1.1.Flux, Seen.mk r2.1.2.1.At r2.1.2.1.From (Box.mk (Bound.mk (w6 (r2.1.2.1.Box.X.Lo - r9)) (w6 (r2.1.2.1.Box.X.Hi + r9)) r2.1.2.1.Box.X.Unknown) (Bound.mk (w6 (r2.1.2.1.Box.Y.Lo - r9)) (w6 (r2.1.2.1.Box.Y.Hi + r9)) r2.1.2.1.Box.Y.Unknown) (Bound.mk (w6 (r2.1.2.1.Box.Z.Lo - r9)) (w6 (r2.1.2.1.Box.Z.Hi + r9)) r2.1.2.1.Box.Z.Unknown)) r2.1.2.1.Flux, Seen.mk r2.1.2.2.At r2.1.2.2.From (Box.mk (Bound.mk (w6 (r2.1.2.2.Box.X.Lo - r10)) (w6 (r2.1.2.2.Box.X.Hi + r10)) r2.1.2.2.Box.X.Unknown) (Bound.mk (w6 (r2.1.2.2.Box.Y.Lo - r10)) (w6 (r2.1.2.2.Box.Y.Hi + r10)) r2.1.2.2.Box.Y.Unknown) (Bound.mk (w6 (r2.1.2.2.Box.Z.Lo - r10)) (w6 (r2.1.2.2.Box.Z.Hi + r10)) r2.1.2.2.Box.Z.Unknown)) r2.1.2.2.Flux)) fun r12 => Option.bind (if (r11.2 != 0) = true then some true else some (r12.2 != 0)) fun z13 : Bool => if z13 = true then some false else seqF (loopF (spykeep4_ArcWider.l1 r11 r12) 0) fun z17 : Unit => some true
end Lf
