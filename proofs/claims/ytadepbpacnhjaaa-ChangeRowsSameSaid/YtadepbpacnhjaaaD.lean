/- The plain functions that the program's functions compute. Conditions: as each theorem states them. -/
import Derived.Test.YtadepbpacnhjaaaA4
/-! Plain functions. -/
namespace Lf
open Go Go.Abs
set_option linter.unusedVariables false
structure change_Change where
  Kind : Int
  Old : Int
  Now : Int
  deriving DecidableEq
@[reducible] def change_Change.tp (x : change_Change) := (x.Kind, x.Old, x.Now)
instance : Cl change_Change := Cl.iso change_Change.tp (change_Change.mk (Cl.d : Int) (Cl.d : Int) (Cl.d : Int))
structure spymake_Stream where
  L : List Int
  at_ : Int
  deriving DecidableEq
@[reducible] def spymake_Stream.tp (x : spymake_Stream) := (x.L, x.at_)
instance : Cl spymake_Stream := Cl.iso spymake_Stream.tp (spymake_Stream.mk (Cl.d : List Int) (Cl.d : Int))
structure Vec where
  X : Int
  Y : Int
  Z : Int
  deriving DecidableEq
@[reducible] def Vec.tp (x : Vec) := (x.X, x.Y, x.Z)
instance : Cl Vec := Cl.iso Vec.tp (Vec.mk (Cl.d : Int) (Cl.d : Int) (Cl.d : Int))
structure Bound where
  Lo : Int
  Hi : Int
  Unknown : Bool
  deriving DecidableEq
@[reducible] def Bound.tp (x : Bound) := (x.Lo, x.Hi, x.Unknown)
instance : Cl Bound := Cl.iso Bound.tp (Bound.mk (Cl.d : Int) (Cl.d : Int) (Cl.d : Bool))
structure Box where
  X : Bound
  Y : Bound
  Z : Bound
  deriving DecidableEq
@[reducible] def Box.tp (x : Box) := (x.X, x.Y, x.Z)
instance : Cl Box := Cl.iso Box.tp (Box.mk (Cl.d : Bound) (Cl.d : Bound) (Cl.d : Bound))
structure Row where
  ID : Int
  Box : Box
  Flux : Bound
  When : Bound
  Frames : NilS
  Marks : Int
  deriving DecidableEq
@[reducible] def Row.tp (x : Row) := (x.ID, x.Box, x.Flux, x.When, x.Frames, x.Marks)
instance : Cl Row := Cl.iso Row.tp (Row.mk (Cl.d : Int) (Cl.d : Box) (Cl.d : Bound) (Cl.d : Bound) (Cl.d : NilS) (Cl.d : Int))
structure change_ratios where
  lo : Int
  hi : Int
  under : Int
  above : Int
  deriving DecidableEq
@[reducible] def change_ratios.tp (x : change_ratios) := (x.lo, x.hi, x.under, x.above)
instance : Cl change_ratios := Cl.iso change_ratios.tp (change_ratios.mk (Cl.d : Int) (Cl.d : Int) (Cl.d : Int) (Cl.d : Int))
structure num_Wide where
  Hi : Int
  Lo : NU64
  deriving DecidableEq
@[reducible] def num_Wide.tp (x : num_Wide) := (x.Hi, x.Lo)
instance : Cl num_Wide := Cl.iso num_Wide.tp (num_Wide.mk (Cl.d : Int) (Cl.d : NU64))
structure Cells where
  W : Int
  H : Int
  At : List Bound
  deriving DecidableEq
@[reducible] def Cells.tp (x : Cells) := (x.W, x.H, x.At)
instance : Cl Cells := Cl.iso Cells.tp (Cells.mk (Cl.d : Int) (Cl.d : Int) (Cl.d : List Bound))
structure Source_ where
  Peak : Int
  Parts : List Int
  deriving DecidableEq
@[reducible] def Source_.tp (x : Source_) := (x.Peak, x.Parts)
instance : Cl Source_ := Cl.iso Source_.tp (Source_.mk (Cl.d : Int) (Cl.d : List Int))
structure change_Report where
  Up : List Source_
  Down : List Source_
  Same : List Int
  deriving DecidableEq
@[reducible] def change_Report.tp (x : change_Report) := (x.Up, x.Down, x.Same)
instance : Cl change_Report := Cl.iso change_Report.tp (change_Report.mk (Cl.d : List Source_) (Cl.d : List Source_) (Cl.d : List Int))
def spykeep4_ChangeRowsSame_1 (c : change_Change) : Option Bool :=
  Option.bind (if (c.Kind != 7) = true then some (c.Kind != 8) else some false) fun z1 : Bool => some z1
def spymake_Below (x : Int) (n : Int) : Option Int :=
  if (decide (n < 1)) = true then some 0 else if n ≠ 0 then if (decide ((Int.tmod x n) < 0)) = true then some (w6 ((Int.tmod x n) + n)) else some (Int.tmod x n) else none
def Stream_Next (s : spymake_Stream) (n : Int) : Option (Int × spymake_Stream) :=
  if ((s.L.length : Int) == 0) = true then Option.bind (spymake_Below (w6 ((w6 (s.at_ + 1)) * 7919)) n) fun r2 => some (r2, spymake_Stream.mk s.L (w6 (s.at_ + 1))) else if (s.L.length : Int) ≠ 0 then if (0 : Int) ≤ Int.tmod (w6 ((w6 (s.at_ + 1)) - 1)) (s.L.length : Int) ∧ (Int.tmod (w6 ((w6 (s.at_ + 1)) - 1)) (s.L.length : Int)) < (s.L.length : Int) then Option.bind (spymake_Below (gt s.L (Int.tmod (w6 ((w6 (s.at_ + 1)) - 1)) (s.L.length : Int))) 1073741824) fun r5 => letF (w6 (7919 + (Int.tmod (w6 ((w6 (s.at_ + 1)) - 1)) (s.L.length : Int)))) fun v6 => letF (w6 ((w6 (Int.tdiv (w6 ((w6 (s.at_ + 1)) - 1)) (s.L.length : Int))) * v6)) fun v7 => Option.bind (spymake_Below (w6 (r5 + v7)) n) fun r8 => some (r8, spymake_Stream.mk s.L (w6 (s.at_ + 1))) else none else none
def Stream_Range (s : spymake_Stream) (low : Int) (high : Int) : Option (Int × spymake_Stream) :=
  if (decide (high < low)) = true then some (low, s) else Option.bind (Stream_Next s (w6 ((w6 (high - low)) + 1))) fun r2 => some (w6 (low + r2.1), r2.2)
def Stream_Vec (s : spymake_Stream) : Option (Vec × spymake_Stream) :=
  Option.bind (Stream_Next s 4) fun r1 => if (0 : Int) ≤ r1.1 ∧ r1.1 < (([3, 100, 5000, 1048576] : List Int).length : Int) then Option.bind (Stream_Range r1.2 (w6 (0 - (gt ([3, 100, 5000, 1048576] : List Int) r1.1))) (gt ([3, 100, 5000, 1048576] : List Int) r1.1)) fun r3 => Option.bind (Stream_Range r3.2 (w6 (0 - (gt ([3, 100, 5000, 1048576] : List Int) r1.1))) (gt ([3, 100, 5000, 1048576] : List Int) r1.1)) fun r4 => Option.bind (Stream_Range r4.2 (w6 (0 - (gt ([3, 100, 5000, 1048576] : List Int) r1.1))) (gt ([3, 100, 5000, 1048576] : List Int) r1.1)) fun r5 => if ((r3.1 == 0) && ((r4.1 == 0) && ((r5.1 == 0) && (true)))) = true then some (Vec.mk 1 r4.1 r5.1, r5.2) else some (Vec.mk r3.1 r4.1 r5.1, r5.2) else none
def slices_Clone_Row (s : List Row) : Option (List Row) :=
  nilF s (some []) (if roomy (([] : List Row).length + s.length) 160 = true then some (([] : List Row) ++ s) else none)
def Stream_Held_1 (c : Int) (p1 : Int) (p2 : spymake_Stream) (p3 : Int) : Option (Bound × spymake_Stream) :=
  Option.bind (Stream_Next p2 (w6 (p3 + 1))) fun r1 => Option.bind (Stream_Next r1.2 (w6 (p3 + 1))) fun r2 => some (Bound.mk (w6 ((w6 (p1 * c)) - r1.1)) (w6 ((w6 (p1 * c)) + r2.1)) false, r2.2)
def Stream_Held (s : spymake_Stream) (v : Vec) (most : Int) : Option (Box × spymake_Stream) :=
  Option.bind (Stream_Range s 1 8) fun r1 => Option.bind (Stream_Held_1 v.X r1.1 r1.2 most) fun r2 => Option.bind (Stream_Held_1 v.Y r1.1 r2.2 most) fun r3 => Option.bind (Stream_Held_1 v.Z r1.1 r3.2 most) fun r4 => some (Box.mk r2.1 r3.1 r4.1, r4.2)
def bound_Check (b : Bound) : Option Int :=
  Option.bind (if b.Unknown = true then if (b.Lo != 0) = true then some true else some (b.Hi != 0) else some false) fun z1 : Bool => if z1 = true then some 3 else Option.bind (if (decide ((mn2 b.Lo b.Hi) < (-1152921504606846976))) = true then some true else some (decide ((mx2 b.Lo b.Hi) > 1152921504606846976))) fun z5 : Bool => if z5 = true then some 4 else if (decide (b.Lo > b.Hi)) = true then some 11 else some 0
def num_size (a : Int) : Option NU64 :=
  if (decide (a < 0)) = true then some (NU64.mk (IntKind.wrap .u64 (0 - (IntKind.wrap .u64 a)))) else some (NU64.mk (IntKind.wrap .u64 a))
def bits_Mul64 (x : Int) (y : Int) : Option (NU64 × NU64) :=
  letF (IntKind.wrap .u64 ((BitVec.ofInt 64 x &&& BitVec.ofInt 64 4294967295).toNat : Int)) fun v1 => letF (IntKind.wrap .u64 ((BitVec.ofInt 64 y &&& BitVec.ofInt 64 4294967295).toNat : Int)) fun v2 => letF (IntKind.wrap .u64 ((IntKind.wrap .u64 ((Int.fdiv x (2 ^ 32)) * v2)) + (Int.fdiv (IntKind.wrap .u64 (v1 * v2)) (2 ^ 32)))) fun v3 => letF (IntKind.wrap .u64 ((BitVec.ofInt 64 v3 &&& BitVec.ofInt 64 4294967295).toNat : Int)) fun v4 => letF (IntKind.wrap .u64 (v4 + (IntKind.wrap .u64 (v1 * (Int.fdiv y (2 ^ 32)))))) fun v5 => letF (IntKind.wrap .u64 ((Int.fdiv x (2 ^ 32)) * (Int.fdiv y (2 ^ 32)))) fun v6 => letF (IntKind.wrap .u64 ((IntKind.wrap .u64 (v6 + (Int.fdiv v3 (2 ^ 32)))) + (Int.fdiv v5 (2 ^ 32)))) fun v7 => some (NU64.mk v7, NU64.mk (IntKind.wrap .u64 (x * y)))
def Wide_Neg (w : num_Wide) : Option num_Wide :=
  letF (IntKind.wrap .u64 ((BitVec.ofInt 64 (18446744073709551615) ^^^ BitVec.ofInt 64 w.Lo.n).toNat : Int)) fun v1 => Option.bind (add64 v1 1 0) fun r2 => letF (IntKind.wrap .u64 ((BitVec.ofInt 64 (18446744073709551615) ^^^ BitVec.ofInt 64 (IntKind.wrap .u64 w.Hi)).toNat : Int)) fun v3 => Option.bind (add64 v3 0 r2.2) fun r4 => some (num_Wide.mk (w6 r4.1) (NU64.mk r2.1))
def num_Product (a : Int) (b : Int) : Option num_Wide :=
  Option.bind (num_size a) fun r1 => Option.bind (num_size b) fun r2 => Option.bind (bits_Mul64 r1.n r2.n) fun r3 => if ((decide (a < 0)) != (decide (b < 0))) = true then Option.bind (Wide_Neg (num_Wide.mk (w6 r3.1.n) r3.2)) fun r5 => some r5 else some (num_Wide.mk (w6 r3.1.n) r3.2)
def cmp_isNaN (x : Int) : Option Bool :=
  some (x != x)
def cmp_Compare (x : Int) (y : Int) : Option Int :=
  Option.bind (cmp_isNaN x) fun r1 => Option.bind (cmp_isNaN y) fun r2 => if r1 = true then if r2 = true then some 0 else some (-1) else if r2 = true then some 1 else if (decide (x < y)) = true then some (-1) else if (decide (x > y)) = true then some 1 else some 0
def cmp_Or.l1 (vals : List Int) (s1 : Int) : Option (Step Int (Step Unit Int)) :=
  if (decide (s1 < (vals.length : Int))) = true then if (0 : Int) ≤ s1 ∧ s1 < (vals.length : Int) then if ((gt vals s1) != 0) = true then some (.done (.done (gt vals s1))) else some (.next (w6 (s1 + 1))) else none else some (.done (.next ()))
def cmp_Or (vals : List Int) : Option Int :=
  seqF (loopF (cmp_Or.l1 vals) 0) fun z2 : Unit => some 0
def Wide_Cmp (w : num_Wide) (v : num_Wide) : Option Int :=
  Option.bind (cmp_Compare w.Hi v.Hi) fun r1 => Option.bind (cmp_Compare w.Lo.n v.Lo.n) fun r2 => Option.bind (cmp_Or ([r1, r2] : List Int)) fun r3 => some r3
def ratios_atMost (r_ : change_ratios) (a : Int) (b : Int) : Option (Bool × change_ratios) :=
  seqF (if (a == 0) = true then some (.done (decide (b ≥ 0), r_)) else if (decide (a > 0)) = true then Option.bind (num_Product b r_.above) fun r4 => Option.bind (num_Product r_.hi a) fun r5 => Option.bind (Wide_Cmp r4 r5) fun r6 => if (decide (r6 < 0)) = true then some (.next (change_ratios.mk r_.lo b r_.under a)) else some (.next r_) else Option.bind (num_Product (w6 (0 - b)) r_.under) fun r8 => Option.bind (num_Product r_.lo (w6 (0 - a))) fun r9 => Option.bind (Wide_Cmp r8 r9) fun r10 => if (decide (r10 > 0)) = true then some (.next (change_ratios.mk (w6 (0 - b)) r_.hi (w6 (0 - a)) r_.above)) else some (.next r_)) fun z1 : change_ratios => some (true, z1)
def change_Share.l1 (a : Box) (b : Box) (s1 : change_ratios × Int) : Option (Step (change_ratios × Int) (Step change_ratios Bool)) :=
  if (decide (s1.2 < 3)) = true then seqF (if (0 : Int) ≤ s1.2 ∧ s1.2 < (([a.X, a.Y, a.Z] : List Bound).length : Int) then if (0 : Int) ≤ s1.2 ∧ s1.2 < (([b.X, b.Y, b.Z] : List Bound).length : Int) then Option.bind (Option.bind (bound_Check (gt ([a.X, a.Y, a.Z] : List Bound) s1.2)) fun r8 => if (r8 != 0) = true then some true else Option.bind (bound_Check (gt ([b.X, b.Y, b.Z] : List Bound) s1.2)) fun r10 => if (r10 != 0) = true then some true else if (gt ([a.X, a.Y, a.Z] : List Bound) s1.2).Unknown = true then some true else some (gt ([b.X, b.Y, b.Z] : List Bound) s1.2).Unknown) fun z7 : Bool => if z7 = true then some (.next s1.1) else Option.bind (Option.bind (ratios_atMost s1.1 (gt ([a.X, a.Y, a.Z] : List Bound) s1.2).Lo (gt ([b.X, b.Y, b.Z] : List Bound) s1.2).Hi) fun r15 => if (!r15.1) = true then some (r15.2, true) else Option.bind (ratios_atMost r15.2 (w6 (0 - (gt ([a.X, a.Y, a.Z] : List Bound) s1.2).Hi)) (w6 (0 - (gt ([b.X, b.Y, b.Z] : List Bound) s1.2).Lo))) fun r17 => some (r17.2, !r17.1)) fun z14 : change_ratios × Bool => if z14.2 = true then some (.done (.done (.done false))) else some (.next z14.1) else none else none) fun z4 : change_ratios => some (.next (z4, w6 (s1.2 + 1))) else some (.done (.next s1.1))
def change_Share (a : Box) (b : Box) : Option Bool :=
  seqF (loopF (change_Share.l1 a b) (change_ratios.mk 0 9223372036854775807 1 1, 0)) fun z2 : change_ratios => Option.bind (if (decide (z2.hi > 0)) = true then Option.bind (num_Product z2.lo z2.above) fun r21 => Option.bind (num_Product z2.hi z2.under) fun r22 => Option.bind (Wide_Cmp r21 r22) fun r23 => some (decide (r23 ≤ 0)) else some false) fun z19 : Bool => some z19
def change_check.l2 (l : List Row) (s2 : Int) (s6 : Int) : Option (Step Int (Step Unit (Step Int (Step Unit Int)))) :=
  letF (decide (s6 < (([(gt l s2).Box.X, (gt l s2).Box.Y, (gt l s2).Box.Z] : List Bound).length : Int))) fun v8 => if v8 = true then if (0 : Int) ≤ s6 ∧ s6 < (([(gt l s2).Box.X, (gt l s2).Box.Y, (gt l s2).Box.Z] : List Bound).length : Int) then Option.bind (bound_Check (gt ([(gt l s2).Box.X, (gt l s2).Box.Y, (gt l s2).Box.Z] : List Bound) s6)) fun r11 => if (r11 != 0) = true then some (.done (.done (.done (.done r11)))) else some (.next (w6 (s6 + 1))) else none else some (.done (.next ()))
def change_check.l1 (l : List Row) (s2 : Int) : Option (Step Int (Step Unit Int)) :=
  if (decide (s2 < (l.length : Int))) = true then if (0 : Int) ≤ s2 ∧ s2 < (l.length : Int) then seqF (loopF (change_check.l2 l s2) 0) fun z7 : Unit => Option.bind (bound_Check (gt l s2).Flux) fun r13 => if (r13 != 0) = true then some (.done (.done r13)) else some (.next (w6 (s2 + 1))) else none else some (.done (.next ()))
def change_check (l : List Row) : Option Int :=
  if (decide ((l.length : Int) > 200)) = true then some 2 else seqF (loopF (change_check.l1 l) 0) fun z3 : Unit => some 0
def change_nearI (r : Row) : List Row → Int → List Int → Option (List Int)
  | [], _, xs => some xs
  | s :: t, j, xs => Option.bind (change_Share r.Box s.Box) fun b => change_nearI r t (j + 1) (if b = true then xs ++ [j] else xs)
def change_nearL (m : List Row) : List Row → Option (List (List Int))
  | [] => some []
  | r :: t => Option.bind (change_nearI r m 0 []) fun xs => Option.bind (change_nearL m t) fun R => some (xs :: R)
def change_near (l m : List Row) : Option (List (List Int)) :=
  if l.length ≤ 64 ∧ m.length ≤ 64 then change_nearL m l else none
def bound_None : Option Bound :=
  some (Bound.mk 0 0 true)
def bound_Norm (b : Bound) : Option Bound :=
  Option.bind (bound_Check b) fun r1 => if (r1 != 0) = true then Option.bind (bound_None) fun r3 => some r3 else some b
def bound_vague (a : Bound) (b : Bound) : Option Bool :=
  Option.bind (Option.bind (bound_Norm a) fun r2 => if r2.Unknown = true then some true else Option.bind (bound_Norm b) fun r4 => some r4.Unknown) fun z1 : Bool => some z1
def bound_Cmp (a : Bound) (b : Bound) : Option Int :=
  seqF (Option.bind (bound_vague a b) fun r2 => if r2 = true then some (.next ()) else if (decide (a.Hi < b.Lo)) = true then some (.done (-1)) else if (decide (a.Lo > b.Hi)) = true then some (.done 1) else some (.next ())) fun z1 : Unit => some 0
def change_kind (old : Row) (now : Row) : Option Int :=
  Option.bind (bound_Cmp now.Flux old.Flux) fun r1 => if (r1 == 1) = true then some 2 else if (r1 == (-1)) = true then some 3 else some 7
def change_Between.l2 (r6 : List (List Int)) (s25 : (List change_Change) × Int) : Option (Step ((List change_Change) × Int) (List change_Change)) :=
  if (decide (s25.2 < (r6.length : Int))) = true then Option.bind (if (0 : Int) ≤ s25.2 ∧ s25.2 < (r6.length : Int) then if (((gt r6 s25.2).length : Int) == 0) = true then if roomy (s25.1.length + ([change_Change.mk 5 s25.2 (-1)] : List change_Change).length) 24 = true then some (s25.1 ++ ([change_Change.mk 5 s25.2 (-1)] : List change_Change)) else none else some s25.1 else none) fun z28 : (List change_Change) => some (.next (z28, w6 (s25.2 + 1))) else some (.done s25.1)
def change_Between.l1 (old : List Row) (now : List Row) (r5 : List (List Int)) (r6 : List (List Int)) (s7 : (List change_Change) × Int) : Option (Step ((List change_Change) × Int) (List change_Change)) :=
  if (decide (s7.2 < (r5.length : Int))) = true then Option.bind (if (0 : Int) ≤ s7.2 ∧ s7.2 < (r5.length : Int) then if (((gt r5 s7.2).length : Int) == 0) = true then if roomy (s7.1.length + ([change_Change.mk 1 (-1) s7.2] : List change_Change).length) 24 = true then some (s7.1 ++ ([change_Change.mk 1 (-1) s7.2] : List change_Change)) else none else Option.bind (if (decide (((gt r5 s7.2).length : Int) > 1)) = true then some true else if (0 : Int) ≤ 0 ∧ 0 < ((gt r5 s7.2).length : Int) then if (0 : Int) ≤ gt (gt r5 s7.2) 0 ∧ (gt (gt r5 s7.2) 0) < (r6.length : Int) then some (decide (((gt r6 (gt (gt r5 s7.2) 0)).length : Int) > 1)) else none else none) fun z14 : Bool => if z14 = true then if roomy (s7.1.length + ([change_Change.mk 8 (-1) s7.2] : List change_Change).length) 24 = true then some (s7.1 ++ ([change_Change.mk 8 (-1) s7.2] : List change_Change)) else none else if (0 : Int) ≤ 0 ∧ 0 < ((gt r5 s7.2).length : Int) then if (0 : Int) ≤ gt (gt r5 s7.2) 0 ∧ (gt (gt r5 s7.2) 0) < (old.length : Int) then if (0 : Int) ≤ s7.2 ∧ s7.2 < (now.length : Int) then Option.bind (change_kind (gt old (gt (gt r5 s7.2) 0)) (gt now s7.2)) fun r23 => if roomy (s7.1.length + ([change_Change.mk r23 (gt (gt r5 s7.2) 0) s7.2] : List change_Change).length) 24 = true then some (s7.1 ++ ([change_Change.mk r23 (gt (gt r5 s7.2) 0) s7.2] : List change_Change)) else none else none else none else none else none) fun z10 : (List change_Change) => some (.next (z10, w6 (s7.2 + 1))) else some (.done s7.1)
def change_Between (old : List Row) (now : List Row) : Option ((List change_Change) × Int) :=
  Option.bind (change_check old) fun r1 => if (r1 != 0) = true then some ([], r1) else Option.bind (change_check now) fun r3 => if (r3 != 0) = true then some ([], r3) else Option.bind (change_near now old) fun r5 => Option.bind (change_near old now) fun r6 => Option.bind (loopF (change_Between.l1 old now r5 r6) (([] : List change_Change), 0)) fun z8 : (List change_Change) => Option.bind (loopF (change_Between.l2 r6) (z8, 0)) fun z26 : (List change_Change) => some (z26, 0)
def spykeep4_noticed_1 (lo : Int) (hi : Int) : Option Bound :=
  some (Bound.mk lo hi false)
def find_Check.l1 (c : Cells) (s7 : Int) : Option (Step Int (Step Unit Int)) :=
  if (decide (s7 < (c.At.length : Int))) = true then if (0 : Int) ≤ s7 ∧ s7 < (c.At.length : Int) then Option.bind (bound_Check (gt c.At s7)) fun r11 => if (r11 != 0) = true then some (.done (.done r11)) else Option.bind (if (decide ((gt c.At s7).Lo < (-1099511627776))) = true then some true else some (decide ((gt c.At s7).Hi > 1099511627776))) fun z13 : Bool => if z13 = true then some (.done (.done 4)) else some (.next (w6 (s7 + 1))) else none else some (.done (.next ()))
def find_Check (c : Cells) : Option Int :=
  Option.bind (if (decide (c.W < 1)) = true then some true else if (decide (c.W > 32)) = true then some true else if (decide (c.H < 1)) = true then some true else if (decide (c.H > 32)) = true then some true else some ((c.At.length : Int) != (w6 (c.W * c.H)))) fun z1 : Bool => if z1 = true then some 3 else seqF (loopF (find_Check.l1 c) 0) fun z8 : Unit => some 0
def bound_Neg (b : Bound) : Option Bound :=
  Option.bind (bound_Norm b) fun r1 => some (Bound.mk (w6 (0 - r1.Hi)) (w6 (0 - r1.Lo)) r1.Unknown)
def bound_Of (lo : Int) (hi : Int) : Option Bound :=
  Option.bind (bound_Norm (Bound.mk lo hi false)) fun r1 => some r1
def bound_Add (a : Bound) (b : Bound) : Option Bound :=
  Option.bind (bound_vague a b) fun r1 => if r1 = true then Option.bind (bound_None) fun r3 => some r3 else Option.bind (bound_Of (w6 (a.Lo + b.Lo)) (w6 (a.Hi + b.Hi))) fun r4 => some r4
def bound_Sub (a : Bound) (b : Bound) : Option Bound :=
  Option.bind (bound_Neg b) fun r1 => Option.bind (bound_Add a r1) fun r2 => some r2
def differ_limited (b : Bound) : Option Bound :=
  Option.bind (if (decide (b.Lo < (-1099511627776))) = true then some true else some (decide (b.Hi > 1099511627776))) fun z1 : Bool => if z1 = true then Option.bind (bound_None) fun r4 => some r4 else some b
def differ_Sub.l1 (a : Cells) (b : Cells) (s8 : (List Bound) × Int) : Option (Step ((List Bound) × Int) (List Bound)) :=
  if (decide (s8.2 < (a.At.length : Int))) = true then if (0 : Int) ≤ s8.2 ∧ s8.2 < (a.At.length : Int) then if (0 : Int) ≤ s8.2 ∧ s8.2 < (b.At.length : Int) then Option.bind (bound_Sub (gt a.At s8.2) (gt b.At s8.2)) fun r13 => Option.bind (differ_limited r13) fun r14 => if roomy (s8.1.length + ([r14] : List Bound).length) 24 = true then some (.next (s8.1 ++ ([r14] : List Bound), w6 (s8.2 + 1))) else none else none else none else some (.done s8.1)
def differ_Sub (a : Cells) (b : Cells) : Option (Cells × Int) :=
  Option.bind (find_Check a) fun r1 => if (r1 != 0) = true then some (Cells.mk 0 0 [], r1) else Option.bind (find_Check b) fun r3 => if (r3 != 0) = true then some (Cells.mk 0 0 [], r3) else Option.bind (if (a.W != b.W) = true then some true else some (a.H != b.H)) fun z5 : Bool => if z5 = true then some (Cells.mk 0 0 [], 12) else Option.bind (loopF (differ_Sub.l1 a b) (([] : List Bound), 0)) fun z9 : (List Bound) => some (Cells.mk a.W a.H z9, 0)
/-- A step of the heap: a cell, a height. -/
abbrev HpSt := Int × Int
def atS (xs : List HpSt) (k : Nat) : HpSt := xs.getD k (0, 0)
def swS (xs : List HpSt) (i j : Nat) : List HpSt := (xs.set i (atS xs j)).set j (atS xs i)
def upS : Nat → List HpSt → Nat → List HpSt
  | 0, xs, _ => xs
  | f + 1, xs, j => if j = 0 then xs else if (atS xs ((j - 1) / 2)).2 < (atS xs j).2 then upS f (swS xs ((j - 1) / 2) j) ((j - 1) / 2) else xs
def downS : Nat → List HpSt → Nat → Nat → List HpSt
  | 0, xs, _, _ => xs
  | f + 1, xs, i, n => if n ≤ 2 * i + 1 then xs else
    if 2 * i + 2 < n ∧ (atS xs (2 * i + 1)).2 < (atS xs (2 * i + 2)).2 then (if (atS xs i).2 < (atS xs (2 * i + 2)).2 then downS f (swS xs i (2 * i + 2)) (2 * i + 2) n else xs)
    else if (atS xs i).2 < (atS xs (2 * i + 1)).2 then downS f (swS xs i (2 * i + 1)) (2 * i + 1) n else xs
def pushS (xs : List HpSt) (s : HpSt) : List HpSt := upS (xs.length + 1) (xs ++ [s]) xs.length
def popN (xs : List HpSt) : Nat := xs.length - 1
def popY (xs : List HpSt) : List HpSt := downS (popN xs + 1) (swS xs 0 (popN xs)) 0 (popN xs)
/-- The neighbours of cell (x, y) in m columns from u on of row v. -/
def nbU (w x y v : Nat) : Nat → Nat → List Nat
  | _, 0 => []
  | u, m + 1 => if u = x ∧ v = y then nbU w x y v (u + 1) m else (v * w + u) :: nbU w x y v (u + 1) m
/-- .. in k rows from v on, columns from u0 to before u1. -/
def nbV (w x y u0 m : Nat) : Nat → Nat → List Nat
  | _, 0 => []
  | v, k + 1 => nbU w x y v u0 m ++ nbV w x y u0 m (v + 1) k
def nbs (w h i : Nat) : List Nat :=
  let x := i % w; let y := i / w
  nbV w x y (x - 1) (min (x + 1) (w - 1) + 1 - (x - 1)) (y - 1) (min (y + 1) (h - 1) + 1 - (y - 1))
/-- A greatest light. -/
def hgt (lo hi : Int) (u : Bool) : Int := if u = true then 4611686018427387904 else hi
def hgtB (b : Bound) : Int := hgt b.Lo b.Hi b.Unknown
def atB (l : List Bound) (k : Nat) : Bound := l.getD k ⟨0, 0, false⟩
def pushN (l : List Bound) (done : List Bool) (ht : Int) : List Nat → List HpSt → List HpSt
  | [], q => q
  | i :: is, q => if done.getD i false = true then pushN l done ht is q else pushN l done ht is (pushS q ((i : Int), min ht (hgtB (atB l i))))
def sadL (w h : Nat) (l : List Bound) : Nat → List HpSt → List Int → List Bool → Option (List Int)
  | 0, _, _, _ => none
  | f + 1, q, out, done =>
    if q.length = 0 then some out else if q.length < 90000 then
      let s := atS (popY q) (q.length - 1)
      if 0 ≤ s.1 ∧ s.1 < l.length then
        if done.getD s.1.toNat false = true then sadL w h l f ((popY q).take (q.length - 1)) out done
        else sadL w h l f (pushN l (done.set s.1.toNat true) s.2 (nbs w h s.1.toNat) ((popY q).take (q.length - 1))) (out.set s.1.toNat s.2) (done.set s.1.toNat true)
      else none
    else none
def find_saddles (c : Cells) (from_ : Int) : Option (List Int) :=
  if 1 ≤ c.W ∧ c.W ≤ 32 ∧ 1 ≤ c.H ∧ c.H ≤ 32 ∧ (c.At.length : Int) = c.W * c.H ∧ 0 ≤ from_ ∧ from_ < c.At.length then sadL c.W.toNat c.H.toNat c.At (9 * c.At.length + 1) [(from_, hgtB (atB c.At from_.toNat))] (List.replicate c.At.length 0) (List.replicate c.At.length false) else none
def find_CheckLevel (b : Bound) : Option Int :=
  Option.bind (bound_Check b) fun r1 => if (r1 != 0) = true then some r1 else if b.Unknown = true then some 1 else Option.bind (if (decide (b.Lo < (-1099511627776))) = true then some true else some (decide (b.Hi > 1099511627776))) fun z4 : Bool => if z4 = true then some 4 else some 0
def find_Sure_1 (i : Int) (j : Int) (p2 : Cells) : Option Int :=
  if (0 : Int) ≤ j ∧ j < (p2.At.length : Int) then if (0 : Int) ≤ i ∧ i < (p2.At.length : Int) then Option.bind (cmp_Compare (gt p2.At j).Lo (gt p2.At i).Lo) fun r3 => some r3 else none else none
def slices_insertionSortCmpFunc_Int_find_Sure_1.l2 (a : Int) (cmpc0 : Cells) (s4 : (List Int) × Int) : Option (Step ((List Int) × Int) (List Int)) :=
  Option.bind (if (decide (s4.2 > a)) = true then if (0 : Int) ≤ s4.2 ∧ s4.2 < (s4.1.length : Int) then if (0 : Int) ≤ w6 (s4.2 - 1) ∧ (w6 (s4.2 - 1)) < (s4.1.length : Int) then Option.bind (find_Sure_1 (gt s4.1 s4.2) (gt s4.1 (w6 (s4.2 - 1))) cmpc0) fun r10 => some (decide (r10 < 0)) else none else none else some false) fun z6 : Bool => if z6 = true then if (0 : Int) ≤ w6 (s4.2 - 1) ∧ (w6 (s4.2 - 1)) < (s4.1.length : Int) then if (0 : Int) ≤ s4.2 ∧ s4.2 < (s4.1.length : Int) then letF (List.set (List.set s4.1 s4.2.toNat (gt s4.1 (w6 (s4.2 - 1)))) (w6 (s4.2 - 1)).toNat (gt s4.1 s4.2)) fun v14 => some (.next (v14, w6 (s4.2 - 1))) else none else none else some (.done s4.1)
def slices_insertionSortCmpFunc_Int_find_Sure_1.l1 (a : Int) (b : Int) (cmpc0 : Cells) (s1 : (List Int) × Int) : Option (Step ((List Int) × Int) (List Int)) :=
  if (decide (s1.2 < b)) = true then Option.bind (loopF (slices_insertionSortCmpFunc_Int_find_Sure_1.l2 a cmpc0) (s1.1, s1.2)) fun z5 : (List Int) => some (.next (z5, w6 (s1.2 + 1))) else some (.done s1.1)
def slices_insertionSortCmpFunc_Int_find_Sure_1 (data : List Int) (a : Int) (b : Int) (cmpc0 : Cells) : Option (List Int) :=
  Option.bind (loopF (slices_insertionSortCmpFunc_Int_find_Sure_1.l1 a b cmpc0) (data, w6 (a + 1))) fun z2 : (List Int) => some z2
def slices_swapRangeCmpFunc_Int_find_Sure_1.l1 (a : Int) (b : Int) (n : Int) (s1 : (List Int) × Int) : Option (Step ((List Int) × Int) (List Int)) :=
  if (decide (s1.2 < n)) = true then if (0 : Int) ≤ w6 (b + s1.2) ∧ (w6 (b + s1.2)) < (s1.1.length : Int) then if (0 : Int) ≤ w6 (a + s1.2) ∧ (w6 (a + s1.2)) < (s1.1.length : Int) then letF (List.set s1.1 (w6 (a + s1.2)).toNat (gt s1.1 (w6 (b + s1.2)))) fun v6 => some (.next (List.set v6 (w6 (b + s1.2)).toNat (gt s1.1 (w6 (a + s1.2))), w6 (s1.2 + 1))) else none else none else some (.done s1.1)
def slices_swapRangeCmpFunc_Int_find_Sure_1 (data : List Int) (a : Int) (b : Int) (n : Int) (cmpc0 : Cells) : Option (List Int) :=
  Option.bind (loopF (slices_swapRangeCmpFunc_Int_find_Sure_1.l1 a b n) (data, 0)) fun z2 : (List Int) => some z2
def slices_rotateCmpFunc_Int_find_Sure_1.l1 (m : Int) (cmpc0 : Cells) (s1 : (List Int) × Int × Int) : Option (Step ((List Int) × Int × Int) ((List Int) × Int)) :=
  if (s1.2.1 != s1.2.2) = true then if (decide (s1.2.1 > s1.2.2)) = true then Option.bind (slices_swapRangeCmpFunc_Int_find_Sure_1 s1.1 (w6 (m - s1.2.1)) m s1.2.2 cmpc0) fun r5 => if s1.1.length = r5.length then some (.next (r5, w6 (s1.2.1 - s1.2.2), s1.2.2)) else none else Option.bind (slices_swapRangeCmpFunc_Int_find_Sure_1 s1.1 (w6 (m - s1.2.1)) (w6 ((w6 (m + s1.2.2)) - s1.2.1)) s1.2.1 cmpc0) fun r7 => if s1.1.length = r7.length then some (.next (r7, s1.2.1, w6 (s1.2.2 - s1.2.1))) else none else some (.done (s1.1, s1.2.1))
def slices_rotateCmpFunc_Int_find_Sure_1 (data : List Int) (a : Int) (m : Int) (b : Int) (cmpc0 : Cells) : Option (List Int) :=
  Option.bind (loopF (slices_rotateCmpFunc_Int_find_Sure_1.l1 m cmpc0) (data, w6 (m - a), w6 (b - m))) fun z2 : (List Int) × Int => Option.bind (slices_swapRangeCmpFunc_Int_find_Sure_1 z2.1 (w6 (m - z2.2)) m z2.2 cmpc0) fun r9 => if z2.1.length = r9.length then some r9 else none
def slices_symMergeCmpFunc_Int_find_Sure_1.l2 (z3 : Int) (s10 : (List Int) × Int) : Option (Step ((List Int) × Int) (List Int)) :=
  if (decide (s10.2 < (w6 (z3 - 1)))) = true then if (0 : Int) ≤ w6 (s10.2 + 1) ∧ (w6 (s10.2 + 1)) < (s10.1.length : Int) then if (0 : Int) ≤ s10.2 ∧ s10.2 < (s10.1.length : Int) then letF (List.set (List.set s10.1 s10.2.toNat (gt s10.1 (w6 (s10.2 + 1)))) (w6 (s10.2 + 1)).toNat (gt s10.1 s10.2)) fun v15 => some (.next (v15, w6 (s10.2 + 1))) else none else none else some (.done s10.1)
def slices_symMergeCmpFunc_Int_find_Sure_1.l1 (data : List Int) (a : Int) (cmpc0 : Cells) (s2 : Int × Int) : Option (Step (Int × Int) Int) :=
  if (decide (s2.1 < s2.2)) = true then if (0 : Int) ≤ w6 (Int.fdiv (IntKind.wrap .u64 (w6 (s2.1 + s2.2))) (2 ^ 1)) ∧ (w6 (Int.fdiv (IntKind.wrap .u64 (w6 (s2.1 + s2.2))) (2 ^ 1))) < (data.length : Int) then if (0 : Int) ≤ a ∧ a < (data.length : Int) then Option.bind (find_Sure_1 (gt data (w6 (Int.fdiv (IntKind.wrap .u64 (w6 (s2.1 + s2.2))) (2 ^ 1)))) (gt data a) cmpc0) fun r7 => if (decide (r7 < 0)) = true then letF (w6 ((w6 (Int.fdiv (IntKind.wrap .u64 (w6 (s2.1 + s2.2))) (2 ^ 1))) + 1)) fun v9 => some (.next (v9, s2.2)) else some (.next (s2.1, w6 (Int.fdiv (IntKind.wrap .u64 (w6 (s2.1 + s2.2))) (2 ^ 1)))) else none else none else some (.done s2.1)
def slices_symMergeCmpFunc_Int_find_Sure_1.l4 (z18 : Int) (s25 : (List Int) × Int) : Option (Step ((List Int) × Int) (List Int)) :=
  if (decide (s25.2 > z18)) = true then if (0 : Int) ≤ w6 (s25.2 - 1) ∧ (w6 (s25.2 - 1)) < (s25.1.length : Int) then if (0 : Int) ≤ s25.2 ∧ s25.2 < (s25.1.length : Int) then letF (List.set (List.set s25.1 s25.2.toNat (gt s25.1 (w6 (s25.2 - 1)))) (w6 (s25.2 - 1)).toNat (gt s25.1 s25.2)) fun v30 => some (.next (v30, w6 (s25.2 - 1))) else none else none else some (.done s25.1)
def slices_symMergeCmpFunc_Int_find_Sure_1.l3 (data : List Int) (m : Int) (cmpc0 : Cells) (s17 : Int × Int) : Option (Step (Int × Int) Int) :=
  if (decide (s17.1 < s17.2)) = true then if (0 : Int) ≤ m ∧ m < (data.length : Int) then if (0 : Int) ≤ w6 (Int.fdiv (IntKind.wrap .u64 (w6 (s17.1 + s17.2))) (2 ^ 1)) ∧ (w6 (Int.fdiv (IntKind.wrap .u64 (w6 (s17.1 + s17.2))) (2 ^ 1))) < (data.length : Int) then Option.bind (find_Sure_1 (gt data m) (gt data (w6 (Int.fdiv (IntKind.wrap .u64 (w6 (s17.1 + s17.2))) (2 ^ 1)))) cmpc0) fun r22 => if (!(decide (r22 < 0))) = true then letF (w6 ((w6 (Int.fdiv (IntKind.wrap .u64 (w6 (s17.1 + s17.2))) (2 ^ 1))) + 1)) fun v24 => some (.next (v24, s17.2)) else some (.next (s17.1, w6 (Int.fdiv (IntKind.wrap .u64 (w6 (s17.1 + s17.2))) (2 ^ 1)))) else none else none else some (.done s17.1)
def slices_symMergeCmpFunc_Int_find_Sure_1.l5 (data : List Int) (cmpc0 : Cells) (v31 : Int) (s34 : Int × Int) : Option (Step (Int × Int) Int) :=
  if (decide (s34.1 < s34.2)) = true then letF (w6 ((w6 (v31 - 1)) - (w6 (Int.fdiv (IntKind.wrap .u64 (w6 (s34.1 + s34.2))) (2 ^ 1))))) fun v37 => if (0 : Int) ≤ v37 ∧ v37 < (data.length : Int) then if (0 : Int) ≤ w6 (Int.fdiv (IntKind.wrap .u64 (w6 (s34.1 + s34.2))) (2 ^ 1)) ∧ (w6 (Int.fdiv (IntKind.wrap .u64 (w6 (s34.1 + s34.2))) (2 ^ 1))) < (data.length : Int) then Option.bind (find_Sure_1 (gt data v37) (gt data (w6 (Int.fdiv (IntKind.wrap .u64 (w6 (s34.1 + s34.2))) (2 ^ 1)))) cmpc0) fun r40 => if (!(decide (r40 < 0))) = true then letF (w6 ((w6 (Int.fdiv (IntKind.wrap .u64 (w6 (s34.1 + s34.2))) (2 ^ 1))) + 1)) fun v42 => some (.next (v42, s34.2)) else some (.next (s34.1, w6 (Int.fdiv (IntKind.wrap .u64 (w6 (s34.1 + s34.2))) (2 ^ 1)))) else none else none else some (.done s34.1)
def slices_symMergeCmpFunc_Int_find_Sure_1.l6 (data : List Int) (cmpc0 : Cells) (v31 : Int) (s84 : Int × Int) : Option (Step (Int × Int) Int) :=
  if (decide (s84.1 < s84.2)) = true then letF (w6 ((w6 (v31 - 1)) - (w6 (Int.fdiv (IntKind.wrap .u64 (w6 (s84.1 + s84.2))) (2 ^ 1))))) fun v87 => if (0 : Int) ≤ v87 ∧ v87 < (data.length : Int) then if (0 : Int) ≤ w6 (Int.fdiv (IntKind.wrap .u64 (w6 (s84.1 + s84.2))) (2 ^ 1)) ∧ (w6 (Int.fdiv (IntKind.wrap .u64 (w6 (s84.1 + s84.2))) (2 ^ 1))) < (data.length : Int) then Option.bind (find_Sure_1 (gt data v87) (gt data (w6 (Int.fdiv (IntKind.wrap .u64 (w6 (s84.1 + s84.2))) (2 ^ 1)))) cmpc0) fun r90 => if (!(decide (r90 < 0))) = true then letF (w6 ((w6 (Int.fdiv (IntKind.wrap .u64 (w6 (s84.1 + s84.2))) (2 ^ 1))) + 1)) fun v92 => some (.next (v92, s84.2)) else some (.next (s84.1, w6 (Int.fdiv (IntKind.wrap .u64 (w6 (s84.1 + s84.2))) (2 ^ 1)))) else none else none else some (.done s84.1)
def slices_symMergeCmpFunc_Int_find_Sure_1 : Nat → (List Int) → Int → Int → Int → Cells → Option (List Int)
  | 0, _, _, _, _, _ => none
  | fuel + 1, data, a, m, b, cmpc0 =>
  if ((w6 (m - a)) == 1) = true then Option.bind (loopF (slices_symMergeCmpFunc_Int_find_Sure_1.l1 data a cmpc0) (m, b)) fun z3 : Int => Option.bind (loopF (slices_symMergeCmpFunc_Int_find_Sure_1.l2 z3) (data, a)) fun z11 : (List Int) => some z11 else if ((w6 (b - m)) == 1) = true then Option.bind (loopF (slices_symMergeCmpFunc_Int_find_Sure_1.l3 data m cmpc0) (a, m)) fun z18 : Int => Option.bind (loopF (slices_symMergeCmpFunc_Int_find_Sure_1.l4 z18) (data, m)) fun z26 : (List Int) => some z26 else letF (w6 ((w6 (Int.fdiv (IntKind.wrap .u64 (w6 (a + b))) (2 ^ 1))) + m)) fun v31 => letF (decide (m > (w6 (Int.fdiv (IntKind.wrap .u64 (w6 (a + b))) (2 ^ 1))))) fun v32 => if v32 = true then Option.bind (loopF (slices_symMergeCmpFunc_Int_find_Sure_1.l5 data cmpc0 v31) (w6 (v31 - b), w6 (Int.fdiv (IntKind.wrap .u64 (w6 (a + b))) (2 ^ 1)))) fun z35 : Int => Option.bind (if (decide (z35 < m)) = true then some (decide (m < (w6 (v31 - z35)))) else some false) fun z43 : Bool => if z43 = true then Option.bind (slices_rotateCmpFunc_Int_find_Sure_1 data z35 m (w6 (v31 - z35)) cmpc0) fun r46 => if data.length = r46.length then Option.bind (if (decide (a < z35)) = true then letF (decide (z35 < (w6 (Int.fdiv (IntKind.wrap .u64 (w6 (a + b))) (2 ^ 1))))) fun v50 => some v50 else some false) fun z48 : Bool => if z48 = true then Option.bind (slices_symMergeCmpFunc_Int_find_Sure_1 fuel r46 a z35 (w6 (Int.fdiv (IntKind.wrap .u64 (w6 (a + b))) (2 ^ 1))) cmpc0) fun r52 => if r46.length = r52.length then Option.bind (letF (decide ((w6 (Int.fdiv (IntKind.wrap .u64 (w6 (a + b))) (2 ^ 1))) < (w6 (v31 - z35)))) fun v55 => if v55 = true then some (decide ((w6 (v31 - z35)) < b)) else some false) fun z54 : Bool => if z54 = true then Option.bind (slices_symMergeCmpFunc_Int_find_Sure_1 fuel r52 (w6 (Int.fdiv (IntKind.wrap .u64 (w6 (a + b))) (2 ^ 1))) (w6 (v31 - z35)) b cmpc0) fun r58 => if r52.length = r58.length then some r58 else none else some r52 else none else Option.bind (letF (decide ((w6 (Int.fdiv (IntKind.wrap .u64 (w6 (a + b))) (2 ^ 1))) < (w6 (v31 - z35)))) fun v61 => if v61 = true then some (decide ((w6 (v31 - z35)) < b)) else some false) fun z60 : Bool => if z60 = true then Option.bind (slices_symMergeCmpFunc_Int_find_Sure_1 fuel r46 (w6 (Int.fdiv (IntKind.wrap .u64 (w6 (a + b))) (2 ^ 1))) (w6 (v31 - z35)) b cmpc0) fun r64 => if r46.length = r64.length then some r64 else none else some r46 else none else Option.bind (if (decide (a < z35)) = true then letF (decide (z35 < (w6 (Int.fdiv (IntKind.wrap .u64 (w6 (a + b))) (2 ^ 1))))) fun v68 => some v68 else some false) fun z66 : Bool => if z66 = true then Option.bind (slices_symMergeCmpFunc_Int_find_Sure_1 fuel data a z35 (w6 (Int.fdiv (IntKind.wrap .u64 (w6 (a + b))) (2 ^ 1))) cmpc0) fun r70 => if data.length = r70.length then Option.bind (letF (decide ((w6 (Int.fdiv (IntKind.wrap .u64 (w6 (a + b))) (2 ^ 1))) < (w6 (v31 - z35)))) fun v73 => if v73 = true then some (decide ((w6 (v31 - z35)) < b)) else some false) fun z72 : Bool => if z72 = true then Option.bind (slices_symMergeCmpFunc_Int_find_Sure_1 fuel r70 (w6 (Int.fdiv (IntKind.wrap .u64 (w6 (a + b))) (2 ^ 1))) (w6 (v31 - z35)) b cmpc0) fun r76 => if r70.length = r76.length then some r76 else none else some r70 else none else Option.bind (letF (decide ((w6 (Int.fdiv (IntKind.wrap .u64 (w6 (a + b))) (2 ^ 1))) < (w6 (v31 - z35)))) fun v79 => if v79 = true then some (decide ((w6 (v31 - z35)) < b)) else some false) fun z78 : Bool => if z78 = true then Option.bind (slices_symMergeCmpFunc_Int_find_Sure_1 fuel data (w6 (Int.fdiv (IntKind.wrap .u64 (w6 (a + b))) (2 ^ 1))) (w6 (v31 - z35)) b cmpc0) fun r82 => if data.length = r82.length then some r82 else none else some data else Option.bind (loopF (slices_symMergeCmpFunc_Int_find_Sure_1.l6 data cmpc0 v31) (a, m)) fun z85 : Int => Option.bind (if (decide (z85 < m)) = true then some (decide (m < (w6 (v31 - z85)))) else some false) fun z93 : Bool => if z93 = true then Option.bind (slices_rotateCmpFunc_Int_find_Sure_1 data z85 m (w6 (v31 - z85)) cmpc0) fun r96 => if data.length = r96.length then Option.bind (if (decide (a < z85)) = true then letF (decide (z85 < (w6 (Int.fdiv (IntKind.wrap .u64 (w6 (a + b))) (2 ^ 1))))) fun v100 => some v100 else some false) fun z98 : Bool => if z98 = true then Option.bind (slices_symMergeCmpFunc_Int_find_Sure_1 fuel r96 a z85 (w6 (Int.fdiv (IntKind.wrap .u64 (w6 (a + b))) (2 ^ 1))) cmpc0) fun r102 => if r96.length = r102.length then Option.bind (letF (decide ((w6 (Int.fdiv (IntKind.wrap .u64 (w6 (a + b))) (2 ^ 1))) < (w6 (v31 - z85)))) fun v105 => if v105 = true then some (decide ((w6 (v31 - z85)) < b)) else some false) fun z104 : Bool => if z104 = true then Option.bind (slices_symMergeCmpFunc_Int_find_Sure_1 fuel r102 (w6 (Int.fdiv (IntKind.wrap .u64 (w6 (a + b))) (2 ^ 1))) (w6 (v31 - z85)) b cmpc0) fun r108 => if r102.length = r108.length then some r108 else none else some r102 else none else Option.bind (letF (decide ((w6 (Int.fdiv (IntKind.wrap .u64 (w6 (a + b))) (2 ^ 1))) < (w6 (v31 - z85)))) fun v111 => if v111 = true then some (decide ((w6 (v31 - z85)) < b)) else some false) fun z110 : Bool => if z110 = true then Option.bind (slices_symMergeCmpFunc_Int_find_Sure_1 fuel r96 (w6 (Int.fdiv (IntKind.wrap .u64 (w6 (a + b))) (2 ^ 1))) (w6 (v31 - z85)) b cmpc0) fun r114 => if r96.length = r114.length then some r114 else none else some r96 else none else Option.bind (if (decide (a < z85)) = true then letF (decide (z85 < (w6 (Int.fdiv (IntKind.wrap .u64 (w6 (a + b))) (2 ^ 1))))) fun v118 => some v118 else some false) fun z116 : Bool => if z116 = true then Option.bind (slices_symMergeCmpFunc_Int_find_Sure_1 fuel data a z85 (w6 (Int.fdiv (IntKind.wrap .u64 (w6 (a + b))) (2 ^ 1))) cmpc0) fun r120 => if data.length = r120.length then Option.bind (letF (decide ((w6 (Int.fdiv (IntKind.wrap .u64 (w6 (a + b))) (2 ^ 1))) < (w6 (v31 - z85)))) fun v123 => if v123 = true then some (decide ((w6 (v31 - z85)) < b)) else some false) fun z122 : Bool => if z122 = true then Option.bind (slices_symMergeCmpFunc_Int_find_Sure_1 fuel r120 (w6 (Int.fdiv (IntKind.wrap .u64 (w6 (a + b))) (2 ^ 1))) (w6 (v31 - z85)) b cmpc0) fun r126 => if r120.length = r126.length then some r126 else none else some r120 else none else Option.bind (letF (decide ((w6 (Int.fdiv (IntKind.wrap .u64 (w6 (a + b))) (2 ^ 1))) < (w6 (v31 - z85)))) fun v129 => if v129 = true then some (decide ((w6 (v31 - z85)) < b)) else some false) fun z128 : Bool => if z128 = true then Option.bind (slices_symMergeCmpFunc_Int_find_Sure_1 fuel data (w6 (Int.fdiv (IntKind.wrap .u64 (w6 (a + b))) (2 ^ 1))) (w6 (v31 - z85)) b cmpc0) fun r132 => if data.length = r132.length then some r132 else none else some data
def slices_stableCmpFunc_Int_find_Sure_1.l3 (n : Int) (cmpc0 : Cells) (s8 : (List Int) × Int) (s11 : (List Int) × Int × Int) : Option (Step ((List Int) × Int × Int) ((List Int) × Int)) :=
  if (decide (s11.2.2 ≤ n)) = true then Option.bind (slices_symMergeCmpFunc_Int_find_Sure_1 64 s11.1 s11.2.1 (w6 (s11.2.1 + s8.2)) s11.2.2 cmpc0) fun r14 => if s11.1.length = r14.length then some (.next (r14, s11.2.2, w6 (s11.2.2 + (w6 (2 * s8.2))))) else none else some (.done (s11.1, s11.2.1))
def slices_stableCmpFunc_Int_find_Sure_1.l2 (n : Int) (cmpc0 : Cells) (s8 : (List Int) × Int) : Option (Step ((List Int) × Int) (List Int)) :=
  if (decide (s8.2 < n)) = true then Option.bind (loopF (slices_stableCmpFunc_Int_find_Sure_1.l3 n cmpc0 s8) (s8.1, 0, w6 (2 * s8.2))) fun z12 : (List Int) × Int => if (decide ((w6 (z12.2 + s8.2)) < n)) = true then Option.bind (slices_symMergeCmpFunc_Int_find_Sure_1 64 z12.1 z12.2 (w6 (z12.2 + s8.2)) n cmpc0) fun r17 => if z12.1.length = r17.length then some (.next (r17, w6 (s8.2 * 2))) else none else some (.next (z12.1, w6 (s8.2 * 2))) else some (.done s8.1)
def slices_stableCmpFunc_Int_find_Sure_1.l1 (n : Int) (cmpc0 : Cells) (s1 : (List Int) × Int × Int) : Option (Step ((List Int) × Int × Int) ((List Int) × Int)) :=
  if (decide (s1.2.2 ≤ n)) = true then Option.bind (slices_insertionSortCmpFunc_Int_find_Sure_1 s1.1 s1.2.1 s1.2.2 cmpc0) fun r4 => if s1.1.length = r4.length then some (.next (r4, s1.2.2, w6 (s1.2.2 + 20))) else none else some (.done (s1.1, s1.2.1))
def slices_stableCmpFunc_Int_find_Sure_1 (data : List Int) (n : Int) (cmpc0 : Cells) : Option (List Int) :=
  Option.bind (loopF (slices_stableCmpFunc_Int_find_Sure_1.l1 n cmpc0) (data, 0, 20)) fun z2 : (List Int) × Int => Option.bind (slices_insertionSortCmpFunc_Int_find_Sure_1 z2.1 z2.2 n cmpc0) fun r6 => if z2.1.length = r6.length then Option.bind (loopF (slices_stableCmpFunc_Int_find_Sure_1.l2 n cmpc0) (r6, 20)) fun z9 : (List Int) => some z9 else none
def slices_SortStableFunc_Int_find_Sure_1 (x : List Int) (cmpc0 : Cells) : Option (List Int) :=
  Option.bind (slices_stableCmpFunc_Int_find_Sure_1 x (x.length : Int) cmpc0) fun r1 => if x.length = r1.length then some r1 else none
def slices_symMergeCmpFunc_Int_find_Sure_1_2.l2 (z3 : Int) (s10 : (List Int) × Int) : Option (Step ((List Int) × Int) (List Int)) :=
  if (decide (s10.2 < (w6 (z3 - 1)))) = true then if (0 : Int) ≤ w6 (s10.2 + 1) ∧ (w6 (s10.2 + 1)) < (s10.1.length : Int) then if (0 : Int) ≤ s10.2 ∧ s10.2 < (s10.1.length : Int) then letF (List.set (List.set s10.1 s10.2.toNat (gt s10.1 (w6 (s10.2 + 1)))) (w6 (s10.2 + 1)).toNat (gt s10.1 s10.2)) fun v15 => some (.next (v15, w6 (s10.2 + 1))) else none else none else some (.done s10.1)
def slices_symMergeCmpFunc_Int_find_Sure_1_2.l1 (data : List Int) (a : Int) (cmpc0 : Cells) (s2 : Int × Int) : Option (Step (Int × Int) Int) :=
  if (decide (s2.1 < s2.2)) = true then if (0 : Int) ≤ w6 (Int.fdiv (IntKind.wrap .u64 (w6 (s2.1 + s2.2))) (2 ^ 1)) ∧ (w6 (Int.fdiv (IntKind.wrap .u64 (w6 (s2.1 + s2.2))) (2 ^ 1))) < (data.length : Int) then if (0 : Int) ≤ a ∧ a < (data.length : Int) then Option.bind (find_Sure_1 (gt data (w6 (Int.fdiv (IntKind.wrap .u64 (w6 (s2.1 + s2.2))) (2 ^ 1)))) (gt data a) cmpc0) fun r7 => if (decide (r7 < 0)) = true then letF (w6 ((w6 (Int.fdiv (IntKind.wrap .u64 (w6 (s2.1 + s2.2))) (2 ^ 1))) + 1)) fun v9 => some (.next (v9, s2.2)) else some (.next (s2.1, w6 (Int.fdiv (IntKind.wrap .u64 (w6 (s2.1 + s2.2))) (2 ^ 1)))) else none else none else some (.done s2.1)
def slices_symMergeCmpFunc_Int_find_Sure_1_2.l4 (z18 : Int) (s25 : (List Int) × Int) : Option (Step ((List Int) × Int) (List Int)) :=
  if (decide (s25.2 > z18)) = true then if (0 : Int) ≤ w6 (s25.2 - 1) ∧ (w6 (s25.2 - 1)) < (s25.1.length : Int) then if (0 : Int) ≤ s25.2 ∧ s25.2 < (s25.1.length : Int) then letF (List.set (List.set s25.1 s25.2.toNat (gt s25.1 (w6 (s25.2 - 1)))) (w6 (s25.2 - 1)).toNat (gt s25.1 s25.2)) fun v30 => some (.next (v30, w6 (s25.2 - 1))) else none else none else some (.done s25.1)
def slices_symMergeCmpFunc_Int_find_Sure_1_2.l3 (data : List Int) (m : Int) (cmpc0 : Cells) (s17 : Int × Int) : Option (Step (Int × Int) Int) :=
  if (decide (s17.1 < s17.2)) = true then if (0 : Int) ≤ m ∧ m < (data.length : Int) then if (0 : Int) ≤ w6 (Int.fdiv (IntKind.wrap .u64 (w6 (s17.1 + s17.2))) (2 ^ 1)) ∧ (w6 (Int.fdiv (IntKind.wrap .u64 (w6 (s17.1 + s17.2))) (2 ^ 1))) < (data.length : Int) then Option.bind (find_Sure_1 (gt data m) (gt data (w6 (Int.fdiv (IntKind.wrap .u64 (w6 (s17.1 + s17.2))) (2 ^ 1)))) cmpc0) fun r22 => if (!(decide (r22 < 0))) = true then letF (w6 ((w6 (Int.fdiv (IntKind.wrap .u64 (w6 (s17.1 + s17.2))) (2 ^ 1))) + 1)) fun v24 => some (.next (v24, s17.2)) else some (.next (s17.1, w6 (Int.fdiv (IntKind.wrap .u64 (w6 (s17.1 + s17.2))) (2 ^ 1)))) else none else none else some (.done s17.1)
def slices_symMergeCmpFunc_Int_find_Sure_1_2.l5 (data : List Int) (cmpc0 : Cells) (v31 : Int) (s34 : Int × Int) : Option (Step (Int × Int) Int) :=
  if (decide (s34.1 < s34.2)) = true then letF (w6 ((w6 (v31 - 1)) - (w6 (Int.fdiv (IntKind.wrap .u64 (w6 (s34.1 + s34.2))) (2 ^ 1))))) fun v37 => if (0 : Int) ≤ v37 ∧ v37 < (data.length : Int) then if (0 : Int) ≤ w6 (Int.fdiv (IntKind.wrap .u64 (w6 (s34.1 + s34.2))) (2 ^ 1)) ∧ (w6 (Int.fdiv (IntKind.wrap .u64 (w6 (s34.1 + s34.2))) (2 ^ 1))) < (data.length : Int) then Option.bind (find_Sure_1 (gt data v37) (gt data (w6 (Int.fdiv (IntKind.wrap .u64 (w6 (s34.1 + s34.2))) (2 ^ 1)))) cmpc0) fun r40 => if (!(decide (r40 < 0))) = true then letF (w6 ((w6 (Int.fdiv (IntKind.wrap .u64 (w6 (s34.1 + s34.2))) (2 ^ 1))) + 1)) fun v42 => some (.next (v42, s34.2)) else some (.next (s34.1, w6 (Int.fdiv (IntKind.wrap .u64 (w6 (s34.1 + s34.2))) (2 ^ 1)))) else none else none else some (.done s34.1)
def slices_symMergeCmpFunc_Int_find_Sure_1_2.l6 (data : List Int) (cmpc0 : Cells) (v31 : Int) (s84 : Int × Int) : Option (Step (Int × Int) Int) :=
  if (decide (s84.1 < s84.2)) = true then letF (w6 ((w6 (v31 - 1)) - (w6 (Int.fdiv (IntKind.wrap .u64 (w6 (s84.1 + s84.2))) (2 ^ 1))))) fun v87 => if (0 : Int) ≤ v87 ∧ v87 < (data.length : Int) then if (0 : Int) ≤ w6 (Int.fdiv (IntKind.wrap .u64 (w6 (s84.1 + s84.2))) (2 ^ 1)) ∧ (w6 (Int.fdiv (IntKind.wrap .u64 (w6 (s84.1 + s84.2))) (2 ^ 1))) < (data.length : Int) then Option.bind (find_Sure_1 (gt data v87) (gt data (w6 (Int.fdiv (IntKind.wrap .u64 (w6 (s84.1 + s84.2))) (2 ^ 1)))) cmpc0) fun r90 => if (!(decide (r90 < 0))) = true then letF (w6 ((w6 (Int.fdiv (IntKind.wrap .u64 (w6 (s84.1 + s84.2))) (2 ^ 1))) + 1)) fun v92 => some (.next (v92, s84.2)) else some (.next (s84.1, w6 (Int.fdiv (IntKind.wrap .u64 (w6 (s84.1 + s84.2))) (2 ^ 1)))) else none else none else some (.done s84.1)
def slices_symMergeCmpFunc_Int_find_Sure_1_2 : Nat → (List Int) → Int → Int → Int → Cells → Option ((List Int) × Cells)
  | 0, _, _, _, _, _ => none
  | fuel + 1, data, a, m, b, cmpc0 =>
  if ((w6 (m - a)) == 1) = true then Option.bind (loopF (slices_symMergeCmpFunc_Int_find_Sure_1_2.l1 data a cmpc0) (m, b)) fun z3 : Int => Option.bind (loopF (slices_symMergeCmpFunc_Int_find_Sure_1_2.l2 z3) (data, a)) fun z11 : (List Int) => some (z11, cmpc0) else if ((w6 (b - m)) == 1) = true then Option.bind (loopF (slices_symMergeCmpFunc_Int_find_Sure_1_2.l3 data m cmpc0) (a, m)) fun z18 : Int => Option.bind (loopF (slices_symMergeCmpFunc_Int_find_Sure_1_2.l4 z18) (data, m)) fun z26 : (List Int) => some (z26, cmpc0) else letF (w6 ((w6 (Int.fdiv (IntKind.wrap .u64 (w6 (a + b))) (2 ^ 1))) + m)) fun v31 => letF (decide (m > (w6 (Int.fdiv (IntKind.wrap .u64 (w6 (a + b))) (2 ^ 1))))) fun v32 => if v32 = true then Option.bind (loopF (slices_symMergeCmpFunc_Int_find_Sure_1_2.l5 data cmpc0 v31) (w6 (v31 - b), w6 (Int.fdiv (IntKind.wrap .u64 (w6 (a + b))) (2 ^ 1)))) fun z35 : Int => Option.bind (if (decide (z35 < m)) = true then some (decide (m < (w6 (v31 - z35)))) else some false) fun z43 : Bool => if z43 = true then Option.bind (slices_rotateCmpFunc_Int_find_Sure_1 data z35 m (w6 (v31 - z35)) cmpc0) fun r46 => if data.length = r46.length then Option.bind (if (decide (a < z35)) = true then letF (decide (z35 < (w6 (Int.fdiv (IntKind.wrap .u64 (w6 (a + b))) (2 ^ 1))))) fun v50 => some v50 else some false) fun z48 : Bool => if z48 = true then Option.bind (slices_symMergeCmpFunc_Int_find_Sure_1_2 fuel r46 a z35 (w6 (Int.fdiv (IntKind.wrap .u64 (w6 (a + b))) (2 ^ 1))) cmpc0) fun r52 => if r46.length = r52.1.length then Option.bind (letF (decide ((w6 (Int.fdiv (IntKind.wrap .u64 (w6 (a + b))) (2 ^ 1))) < (w6 (v31 - z35)))) fun v55 => if v55 = true then some (decide ((w6 (v31 - z35)) < b)) else some false) fun z54 : Bool => if z54 = true then Option.bind (slices_symMergeCmpFunc_Int_find_Sure_1_2 fuel r52.1 (w6 (Int.fdiv (IntKind.wrap .u64 (w6 (a + b))) (2 ^ 1))) (w6 (v31 - z35)) b r52.2) fun r58 => if r52.1.length = r58.1.length then some (r58.1, r58.2) else none else some (r52.1, r52.2) else none else Option.bind (letF (decide ((w6 (Int.fdiv (IntKind.wrap .u64 (w6 (a + b))) (2 ^ 1))) < (w6 (v31 - z35)))) fun v61 => if v61 = true then some (decide ((w6 (v31 - z35)) < b)) else some false) fun z60 : Bool => if z60 = true then Option.bind (slices_symMergeCmpFunc_Int_find_Sure_1_2 fuel r46 (w6 (Int.fdiv (IntKind.wrap .u64 (w6 (a + b))) (2 ^ 1))) (w6 (v31 - z35)) b cmpc0) fun r64 => if r46.length = r64.1.length then some (r64.1, r64.2) else none else some (r46, cmpc0) else none else Option.bind (if (decide (a < z35)) = true then letF (decide (z35 < (w6 (Int.fdiv (IntKind.wrap .u64 (w6 (a + b))) (2 ^ 1))))) fun v68 => some v68 else some false) fun z66 : Bool => if z66 = true then Option.bind (slices_symMergeCmpFunc_Int_find_Sure_1_2 fuel data a z35 (w6 (Int.fdiv (IntKind.wrap .u64 (w6 (a + b))) (2 ^ 1))) cmpc0) fun r70 => if data.length = r70.1.length then Option.bind (letF (decide ((w6 (Int.fdiv (IntKind.wrap .u64 (w6 (a + b))) (2 ^ 1))) < (w6 (v31 - z35)))) fun v73 => if v73 = true then some (decide ((w6 (v31 - z35)) < b)) else some false) fun z72 : Bool => if z72 = true then Option.bind (slices_symMergeCmpFunc_Int_find_Sure_1_2 fuel r70.1 (w6 (Int.fdiv (IntKind.wrap .u64 (w6 (a + b))) (2 ^ 1))) (w6 (v31 - z35)) b r70.2) fun r76 => if r70.1.length = r76.1.length then some (r76.1, r76.2) else none else some (r70.1, r70.2) else none else Option.bind (letF (decide ((w6 (Int.fdiv (IntKind.wrap .u64 (w6 (a + b))) (2 ^ 1))) < (w6 (v31 - z35)))) fun v79 => if v79 = true then some (decide ((w6 (v31 - z35)) < b)) else some false) fun z78 : Bool => if z78 = true then Option.bind (slices_symMergeCmpFunc_Int_find_Sure_1_2 fuel data (w6 (Int.fdiv (IntKind.wrap .u64 (w6 (a + b))) (2 ^ 1))) (w6 (v31 - z35)) b cmpc0) fun r82 => if data.length = r82.1.length then some (r82.1, r82.2) else none else some (data, cmpc0) else Option.bind (loopF (slices_symMergeCmpFunc_Int_find_Sure_1_2.l6 data cmpc0 v31) (a, m)) fun z85 : Int => Option.bind (if (decide (z85 < m)) = true then some (decide (m < (w6 (v31 - z85)))) else some false) fun z93 : Bool => if z93 = true then Option.bind (slices_rotateCmpFunc_Int_find_Sure_1 data z85 m (w6 (v31 - z85)) cmpc0) fun r96 => if data.length = r96.length then Option.bind (if (decide (a < z85)) = true then letF (decide (z85 < (w6 (Int.fdiv (IntKind.wrap .u64 (w6 (a + b))) (2 ^ 1))))) fun v100 => some v100 else some false) fun z98 : Bool => if z98 = true then Option.bind (slices_symMergeCmpFunc_Int_find_Sure_1_2 fuel r96 a z85 (w6 (Int.fdiv (IntKind.wrap .u64 (w6 (a + b))) (2 ^ 1))) cmpc0) fun r102 => if r96.length = r102.1.length then Option.bind (letF (decide ((w6 (Int.fdiv (IntKind.wrap .u64 (w6 (a + b))) (2 ^ 1))) < (w6 (v31 - z85)))) fun v105 => if v105 = true then some (decide ((w6 (v31 - z85)) < b)) else some false) fun z104 : Bool => if z104 = true then Option.bind (slices_symMergeCmpFunc_Int_find_Sure_1_2 fuel r102.1 (w6 (Int.fdiv (IntKind.wrap .u64 (w6 (a + b))) (2 ^ 1))) (w6 (v31 - z85)) b r102.2) fun r108 => if r102.1.length = r108.1.length then some (r108.1, r108.2) else none else some (r102.1, r102.2) else none else Option.bind (letF (decide ((w6 (Int.fdiv (IntKind.wrap .u64 (w6 (a + b))) (2 ^ 1))) < (w6 (v31 - z85)))) fun v111 => if v111 = true then some (decide ((w6 (v31 - z85)) < b)) else some false) fun z110 : Bool => if z110 = true then Option.bind (slices_symMergeCmpFunc_Int_find_Sure_1_2 fuel r96 (w6 (Int.fdiv (IntKind.wrap .u64 (w6 (a + b))) (2 ^ 1))) (w6 (v31 - z85)) b cmpc0) fun r114 => if r96.length = r114.1.length then some (r114.1, r114.2) else none else some (r96, cmpc0) else none else Option.bind (if (decide (a < z85)) = true then letF (decide (z85 < (w6 (Int.fdiv (IntKind.wrap .u64 (w6 (a + b))) (2 ^ 1))))) fun v118 => some v118 else some false) fun z116 : Bool => if z116 = true then Option.bind (slices_symMergeCmpFunc_Int_find_Sure_1_2 fuel data a z85 (w6 (Int.fdiv (IntKind.wrap .u64 (w6 (a + b))) (2 ^ 1))) cmpc0) fun r120 => if data.length = r120.1.length then Option.bind (letF (decide ((w6 (Int.fdiv (IntKind.wrap .u64 (w6 (a + b))) (2 ^ 1))) < (w6 (v31 - z85)))) fun v123 => if v123 = true then some (decide ((w6 (v31 - z85)) < b)) else some false) fun z122 : Bool => if z122 = true then Option.bind (slices_symMergeCmpFunc_Int_find_Sure_1_2 fuel r120.1 (w6 (Int.fdiv (IntKind.wrap .u64 (w6 (a + b))) (2 ^ 1))) (w6 (v31 - z85)) b r120.2) fun r126 => if r120.1.length = r126.1.length then some (r126.1, r126.2) else none else some (r120.1, r120.2) else none else Option.bind (letF (decide ((w6 (Int.fdiv (IntKind.wrap .u64 (w6 (a + b))) (2 ^ 1))) < (w6 (v31 - z85)))) fun v129 => if v129 = true then some (decide ((w6 (v31 - z85)) < b)) else some false) fun z128 : Bool => if z128 = true then Option.bind (slices_symMergeCmpFunc_Int_find_Sure_1_2 fuel data (w6 (Int.fdiv (IntKind.wrap .u64 (w6 (a + b))) (2 ^ 1))) (w6 (v31 - z85)) b cmpc0) fun r132 => if data.length = r132.1.length then some (r132.1, r132.2) else none else some (data, cmpc0)
def slices_stableCmpFunc_Int_find_Sure_1_2.l3 (n : Int) (s8 : (List Int) × Cells × Int) (s11 : (List Int) × Cells × Int × Int) : Option (Step ((List Int) × Cells × Int × Int) ((List Int) × Cells × Int)) :=
  if (decide (s11.2.2.2 ≤ n)) = true then Option.bind (slices_symMergeCmpFunc_Int_find_Sure_1_2 64 s11.1 s11.2.2.1 (w6 (s11.2.2.1 + s8.2.2)) s11.2.2.2 s11.2.1) fun r14 => if s11.1.length = r14.1.length then some (.next (r14.1, r14.2, s11.2.2.2, w6 (s11.2.2.2 + (w6 (2 * s8.2.2))))) else none else some (.done (s11.1, s11.2.1, s11.2.2.1))
def slices_stableCmpFunc_Int_find_Sure_1_2.l2 (n : Int) (s8 : (List Int) × Cells × Int) : Option (Step ((List Int) × Cells × Int) ((List Int) × Cells)) :=
  if (decide (s8.2.2 < n)) = true then Option.bind (loopF (slices_stableCmpFunc_Int_find_Sure_1_2.l3 n s8) (s8.1, s8.2.1, 0, w6 (2 * s8.2.2))) fun z12 : (List Int) × Cells × Int => if (decide ((w6 (z12.2.2 + s8.2.2)) < n)) = true then Option.bind (slices_symMergeCmpFunc_Int_find_Sure_1_2 64 z12.1 z12.2.2 (w6 (z12.2.2 + s8.2.2)) n z12.2.1) fun r17 => if z12.1.length = r17.1.length then some (.next (r17.1, r17.2, w6 (s8.2.2 * 2))) else none else some (.next (z12.1, z12.2.1, w6 (s8.2.2 * 2))) else some (.done (s8.1, s8.2.1))
def slices_stableCmpFunc_Int_find_Sure_1_2.l1 (n : Int) (cmpc0 : Cells) (s1 : (List Int) × Int × Int) : Option (Step ((List Int) × Int × Int) ((List Int) × Int)) :=
  if (decide (s1.2.2 ≤ n)) = true then Option.bind (slices_insertionSortCmpFunc_Int_find_Sure_1 s1.1 s1.2.1 s1.2.2 cmpc0) fun r4 => if s1.1.length = r4.length then some (.next (r4, s1.2.2, w6 (s1.2.2 + 20))) else none else some (.done (s1.1, s1.2.1))
def slices_stableCmpFunc_Int_find_Sure_1_2 (data : List Int) (n : Int) (cmpc0 : Cells) : Option ((List Int) × Cells) :=
  Option.bind (loopF (slices_stableCmpFunc_Int_find_Sure_1_2.l1 n cmpc0) (data, 0, 20)) fun z2 : (List Int) × Int => Option.bind (slices_insertionSortCmpFunc_Int_find_Sure_1 z2.1 z2.2 n cmpc0) fun r6 => if z2.1.length = r6.length then Option.bind (loopF (slices_stableCmpFunc_Int_find_Sure_1_2.l2 n) (r6, cmpc0, 20)) fun z9 : (List Int) × Cells => some (z9.1, z9.2) else none
def slices_SortStableFunc_Int_find_Sure_1_2 (x : List Int) (cmpc0 : Cells) : Option ((List Int) × Cells) :=
  Option.bind (slices_stableCmpFunc_Int_find_Sure_1_2 x (x.length : Int) cmpc0) fun r1 => if x.length = r1.1.length then some (r1.1, r1.2) else none
def find_Sure.l1 (c : Cells) (level : Bound) (s5 : (List Int) × Int) : Option (Step ((List Int) × Int) (List Int)) :=
  if (decide (s5.2 < (c.At.length : Int))) = true then Option.bind (if (0 : Int) ≤ s5.2 ∧ s5.2 < (c.At.length : Int) then Option.bind (if (!(gt c.At s5.2).Unknown) = true then some (decide ((gt c.At s5.2).Lo > level.Hi)) else some false) fun z10 : Bool => if z10 = true then if roomy (s5.1.length + ([s5.2] : List Int).length) 8 = true then some (s5.1 ++ ([s5.2] : List Int)) else none else some s5.1 else none) fun z8 : (List Int) => some (.next (z8, w6 (s5.2 + 1))) else some (.done s5.1)
def find_Sure (c : Cells) (level : Bound) : Option ((List Int) × Int) :=
  Option.bind (find_Check c) fun r1 => Option.bind (find_CheckLevel level) fun r2 => Option.bind (cmp_Or ([r1, r2] : List Int)) fun r3 => if (r3 != 0) = true then some ([], r3) else Option.bind (loopF (find_Sure.l1 c level) (([] : List Int), 0)) fun z6 : (List Int) => Option.bind (slices_SortStableFunc_Int_find_Sure_1_2 z6 c) fun r14 => if z6.length = r14.1.length then some (r14.1, 0) else none
def sqI (w i j : Int) : Int := (Int.tmod i w - Int.tmod j w) * (Int.tmod i w - Int.tmod j w) + (Int.tdiv i w - Int.tdiv j w) * (Int.tdiv i w - Int.tdiv j w)
def sadR (w h : Nat) (l : List Bound) (x : Nat) : Option (List Int) := sadL w h l (9 * l.length + 1) [((x : Int), hgtB (atB l x))] (List.replicate l.length 0) (List.replicate l.length false)
def fd1 (w h : Nat) (t : List Bound) : List Int → List Int → List (List Int) → Option (Option (List Int × List (List Int)))
  | [], ps, ws => some (some (ps, ws))
  | x :: l, ps, ws => if (ws.any fun R => decide ((atB t x.toNat).Lo ≤ R.getD x.toNat 0)) = true then fd1 w h t l ps ws else if ps.length = 24 then some none else Option.bind (sadR w h t x.toNat) fun R => fd1 w h t l (ps ++ [x]) (ws ++ [R])
def wayG (ws : List (List Int)) (k : Nat) (x : Nat) : Int := (ws.getD k []).getD x 0
def better (w : Nat) (ps : List Int) (ws : List (List Int)) (x k b : Nat) : Bool := decide (wayG ws b x < wayG ws k x) || (decide (wayG ws k x = wayG ws b x) && decide (sqI w (ps.getD k 0) x < sqI w (ps.getD b 0) x))
def bestF (w : Nat) (ps : List Int) (ws : List (List Int)) (x : Nat) : Nat → Nat → Nat → Nat
  | _, 0, b => b
  | k, m + 1, b => bestF w ps ws x (k + 1) m (if better w ps ws x k b = true then k else b)
def fd2 (w : Nat) (ps : List Int) (ws : List (List Int)) : List Int → List (List Int) → List (List Int)
  | [], parts => parts
  | x :: l, parts => fd2 w ps ws l (parts.set (bestF w ps ws x.toNat 0 ps.length 0) (parts.getD (bestF w ps ws x.toNat 0 ps.length 0) [] ++ [x]))
def fdL (w h : Nat) (t : List Bound) (er : Int) (l : List Int) : Option (List (Int × List Int) × Int) :=
  if er ≠ 0 then some ([], er) else Option.bind (fd1 w h t l [] []) fun r => match r with
    | none => some ([], 2)
    | some (ps, ws) => some (ps.zip (fd2 w ps ws (l.mergeSort fun x y => decide (x ≤ y)) (ps.map fun _ => [])), 0)
def find_Find (c : Cells) (level : Bound) : Option ((List Source_) × Int) :=
  Option.bind (find_Sure c level) fun s => if 1 ≤ c.W ∧ c.W ≤ 32 ∧ 1 ≤ c.H ∧ c.H ≤ 32 ∧ (c.At.length : Int) = c.W * c.H ∧ (∀ x ∈ s.1, 0 ≤ x ∧ x < c.At.length) ∧ s.1.length ≤ 1024 then Option.bind (fdL c.W.toNat c.H.toNat c.At s.2 s.1) fun R => some (R.1.map (fun p => Source_.mk p.1 p.2), R.2) else none
def bound_Inside (a : Bound) (b : Bound) : Option Bool :=
  Option.bind (Option.bind (bound_vague b b) fun r2 => if r2 = true then some true else Option.bind (bound_vague a a) fun r4 => if (!r4) = true then if (decide (b.Lo ≤ a.Lo)) = true then some (decide (a.Hi ≤ b.Hi)) else some false else some false) fun z1 : Bool => some z1
def change_In.l1 (cut : Int) (r1 : Cells × Int) (s11 : (List Int) × Int) : Option (Step ((List Int) × Int) (List Int)) :=
  if (decide (s11.2 < (r1.1.At.length : Int))) = true then Option.bind (if (0 : Int) ≤ s11.2 ∧ s11.2 < (r1.1.At.length : Int) then Option.bind (if (!(gt r1.1.At s11.2).Unknown) = true then Option.bind (bound_Inside (gt r1.1.At s11.2) (Bound.mk (w6 (0 - cut)) cut false)) fun r18 => some r18 else some false) fun z16 : Bool => if z16 = true then if roomy (s11.1.length + ([s11.2] : List Int).length) 8 = true then some (s11.1 ++ ([s11.2] : List Int)) else none else some s11.1 else none) fun z14 : (List Int) => some (.next (z14, w6 (s11.2 + 1))) else some (.done s11.1)
def change_In (old : Cells) (now : Cells) (cut : Int) : Option (change_Report × Int) :=
  Option.bind (differ_Sub now old) fun r1 => if (r1.2 != 0) = true then some (change_Report.mk [] [] [], r1.2) else Option.bind (if (decide (cut < 0)) = true then some true else some (decide (cut > 1099511627776))) fun z3 : Bool => if z3 = true then some (change_Report.mk [] [] [], 1) else Option.bind (differ_Sub old now) fun r6 => Option.bind (find_Find r1.1 (Bound.mk (w6 (0 - cut)) cut false)) fun r7 => if (r7.2 != 0) = true then some (change_Report.mk [] [] [], r7.2) else Option.bind (find_Find r6.1 (Bound.mk (w6 (0 - cut)) cut false)) fun r9 => if (r9.2 != 0) = true then some (change_Report.mk [] [] [], r9.2) else Option.bind (loopF (change_In.l1 cut r1) (([] : List Int), 0)) fun z12 : (List Int) => some (change_Report.mk r7.1 r9.1 z12, 0)
def slices_Equal_Int.l1 (s1_ : List Int) (s2_ : List Int) (s2 : Int) : Option (Step Int (Step Unit Bool)) :=
  if (decide (s2 < (s1_.length : Int))) = true then if (0 : Int) ≤ s2 ∧ s2 < (s1_.length : Int) then if (0 : Int) ≤ s2 ∧ s2 < (s2_.length : Int) then if ((gt s1_ s2) != (gt s2_ s2)) = true then some (.done (.done false)) else some (.next (w6 (s2 + 1))) else none else none else some (.done (.next ()))
def slices_Equal_Int (s1_ : List Int) (s2_ : List Int) : Option Bool :=
  if ((s1_.length : Int) != (s2_.length : Int)) = true then some false else seqF (loopF (slices_Equal_Int.l1 s1_ s2_) 0) fun z3 : Unit => some true
def spykeep4_noticed : Option Bool :=
  Option.bind (spykeep4_noticed_1 1 2) fun r1 => Option.bind (spykeep4_noticed_1 1 2) fun r2 => Option.bind (spykeep4_noticed_1 1 2) fun r3 => Option.bind (spykeep4_noticed_1 11 12) fun r4 => Option.bind (change_In (Cells.mk 2 1 ([r1, r2] : List Bound)) (Cells.mk 2 1 ([r3, r4] : List Bound)) 3) fun r5 => Option.bind (if (r5.2 == 0) = true then if ((r5.1.Up.length : Int) == 1) = true then if (0 : Int) ≤ 0 ∧ 0 < (r5.1.Up.length : Int) then if ((gt r5.1.Up 0).Peak == 1) = true then if ((r5.1.Down.length : Int) == 0) = true then Option.bind (slices_Equal_Int r5.1.Same ([0] : List Int)) fun r12 => some r12 else some false else some false else none else some false else some false) fun z6 : Bool => some z6
def slices_IndexFunc_change_Change_spykeep4_ChangeRowsSame_1.l1 (s : List change_Change) (s1 : Int) : Option (Step Int (Step Unit Int)) :=
  if (decide (s1 < (s.length : Int))) = true then if (0 : Int) ≤ s1 ∧ s1 < (s.length : Int) then Option.bind (spykeep4_ChangeRowsSame_1 (gt s s1)) fun r5 => if r5 = true then some (.done (.done s1)) else some (.next (w6 (s1 + 1))) else none else some (.done (.next ()))
def slices_IndexFunc_change_Change_spykeep4_ChangeRowsSame_1 (s : List change_Change) : Option Int :=
  seqF (loopF (slices_IndexFunc_change_Change_spykeep4_ChangeRowsSame_1.l1 s) 0) fun z2 : Unit => some (-1)
def slices_ContainsFunc_change_Change_spykeep4_ChangeRowsSame_1 (s : List change_Change) : Option Bool :=
  Option.bind (slices_IndexFunc_change_Change_spykeep4_ChangeRowsSame_1 s) fun r1 => some (decide (r1 ≥ 0))
def spykeep4_ChangeRowsSame.l2 (r2 : Int × spymake_Stream) (r7 : Vec × spymake_Stream) (r8 : Int × spymake_Stream) (s9 : spymake_Stream × (List Row) × (List Row) × Int) : Option (Step (spymake_Stream × (List Row) × (List Row) × Int) (spymake_Stream × (List Row) × (List Row))) :=
  if (decide (s9.2.2.2 < 2)) = true then Option.bind (Stream_Next s9.1 50) fun r12 => Option.bind (Stream_Next r12.2 50) fun r13 => Option.bind (slices_Clone_Row s9.2.1) fun r14 => Option.bind (Stream_Held r13.2 r7.1 (gt ([0, 5, 4000] : List Int) r2.1)) fun r15 => if roomy (r14.length + ([Row.mk 0 r15.1 (Bound.mk (w6 (r8.1 - r12.1)) (w6 (r8.1 + r13.1)) false) (Bound.mk 0 0 false) NilS.mk 0] : List Row).length) 160 = true then some (.next (r15.2, s9.2.2.1, r14 ++ ([Row.mk 0 r15.1 (Bound.mk (w6 (r8.1 - r12.1)) (w6 (r8.1 + r13.1)) false) (Bound.mk 0 0 false) NilS.mk 0] : List Row), w6 (s9.2.2.2 + 1))) else none else some (.done (s9.1, s9.2.1, s9.2.2.1))
def spykeep4_ChangeRowsSame.l3 (r1 : Int × spymake_Stream) (z5 : (List Row) × (List Row)) (s17 : Int) : Option (Step Int (Step Unit Bool)) :=
  if (decide (s17 < r1.1)) = true then Option.bind (if (0 : Int) ≤ s17 ∧ s17 < (z5.1.length : Int) then if (0 : Int) ≤ s17 ∧ s17 < (z5.2.length : Int) then Option.bind (change_Share (gt z5.1 s17).Box (gt z5.2 s17).Box) fun r23 => if (!r23) = true then some true else Option.bind (change_Share (gt z5.2 s17).Box (gt z5.1 s17).Box) fun r25 => some (!r25) else none else none) fun z20 : Bool => if z20 = true then some (.done (.done false)) else some (.next (w6 (s17 + 1))) else some (.done (.next ()))
def spykeep4_ChangeRowsSame.l1 (r1 : Int × spymake_Stream) (r2 : Int × spymake_Stream) (s4 : spymake_Stream × (List Row) × (List Row) × Int) : Option (Step (spymake_Stream × (List Row) × (List Row) × Int) ((List Row) × (List Row))) :=
  if (decide (s4.2.2.2 < r1.1)) = true then Option.bind (Stream_Vec s4.1) fun r7 => Option.bind (Stream_Next r7.2 5000) fun r8 => Option.bind (loopF (spykeep4_ChangeRowsSame.l2 r2 r7 r8) (r8.2, s4.2.1, s4.2.2.1, 0)) fun z10 : spymake_Stream × (List Row) × (List Row) => some (.next (z10.1, z10.2.1, z10.2.2, w6 (s4.2.2.2 + 1))) else some (.done (s4.2.1, s4.2.2.1))
def spykeep4_ChangeRowsSame (l : List Int) : Option Bool :=
  Option.bind (Stream_Range (spymake_Stream.mk l 0) 1 6) fun r1 => Option.bind (Stream_Next r1.2 3) fun r2 => if (0 : Int) ≤ r2.1 ∧ r2.1 < (([0, 5, 4000] : List Int).length : Int) then Option.bind (loopF (spykeep4_ChangeRowsSame.l1 r1 r2) (r2.2, ([] : List Row), ([] : List Row), 0)) fun z5 : (List Row) × (List Row) => seqF (loopF (spykeep4_ChangeRowsSame.l3 r1 z5) 0) fun z18 : Unit => Option.bind (change_Between z5.1 z5.2) fun r27 => Option.bind (Option.bind (spykeep4_noticed) fun r29 => if (!r29) = true then some true else if (r27.2 != 0) = true then some true else some ((r27.1.length : Int) != r1.1)) fun z28 : Bool => if z28 = true then some false else Option.bind (slices_ContainsFunc_change_Change_spykeep4_ChangeRowsSame_1 r27.1) fun r33 => some (!r33) else none
end Lf
