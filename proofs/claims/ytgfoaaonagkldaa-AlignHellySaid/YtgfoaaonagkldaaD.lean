/- The plain functions that the program's functions compute. Conditions: as each theorem states them. -/
import Derived.Test.YtgfoaaonagkldaaAbsX2
/-! Plain functions. -/
namespace Lf
open Go Go.Abs
set_option linter.unusedVariables false
structure Bound where
  Lo : Int
  Hi : Int
  Unknown : Bool
  deriving DecidableEq
@[reducible] def Bound.tp (x : Bound) := (x.Lo, x.Hi, x.Unknown)
instance : Cl Bound := Cl.iso Bound.tp (Bound.mk (Cl.d : Int) (Cl.d : Int) (Cl.d : Bool))
structure align_Pair where
  A : Int
  B : Int
  deriving DecidableEq
@[reducible] def align_Pair.tp (x : align_Pair) := (x.A, x.B)
instance : Cl align_Pair := Cl.iso align_Pair.tp (align_Pair.mk (Cl.d : Int) (Cl.d : Int))
structure Measured where
  X : Bound
  Y : Bound
  Flux : Bound
  deriving DecidableEq
@[reducible] def Measured.tp (x : Measured) := (x.X, x.Y, x.Flux)
instance : Cl Measured := Cl.iso Measured.tp (Measured.mk (Cl.d : Bound) (Cl.d : Bound) (Cl.d : Bound))
structure align_Shift where
  DX : Int
  DY : Int
  Pairs : List align_Pair
  deriving DecidableEq
@[reducible] def align_Shift.tp (x : align_Shift) := (x.DX, x.DY, x.Pairs)
instance : Cl align_Shift := Cl.iso align_Shift.tp (align_Shift.mk (Cl.d : Int) (Cl.d : Int) (Cl.d : List align_Pair))
structure spymake_Stream where
  L : List Int
  at_ : Int
  deriving DecidableEq
@[reducible] def spymake_Stream.tp (x : spymake_Stream) := (x.L, x.at_)
instance : Cl spymake_Stream := Cl.iso spymake_Stream.tp (spymake_Stream.mk (Cl.d : List Int) (Cl.d : Int))
def slices_Index.l1 (s : List Int) (v : Int) (s1 : Int) : Option (Step Int (Step Unit Int)) :=
  if (decide (s1 < (s.length : Int))) = true then if (0 : Int) ≤ s1 ∧ s1 < (s.length : Int) then if (v == (gt s s1)) = true then some (.done (.done s1)) else some (.next (w6 (s1 + 1))) else none else some (.done (.next ()))
def slices_Index (s : List Int) (v : Int) : Option Int :=
  seqF (loopF (slices_Index.l1 s v) 0) fun z2 : Unit => some (-1)
def bound_Check (b : Bound) : Option Int :=
  Option.bind (if b.Unknown = true then if (b.Lo != 0) = true then some true else some (b.Hi != 0) else some false) fun z1 : Bool => if z1 = true then some 3 else Option.bind (if (decide ((mn2 b.Lo b.Hi) < (-1152921504606846976))) = true then some true else some (decide ((mx2 b.Lo b.Hi) > 1152921504606846976))) fun z5 : Bool => if z5 = true then some 4 else if (decide (b.Lo > b.Hi)) = true then some 11 else some 0
def bound_None : Option Bound :=
  some (Bound.mk 0 0 true)
def bound_Norm (b : Bound) : Option Bound :=
  Option.bind (bound_Check b) fun r1 => if (r1 != 0) = true then Option.bind (bound_None) fun r3 => some r3 else some b
def bound_vague (a : Bound) (b : Bound) : Option Bool :=
  Option.bind (Option.bind (bound_Norm a) fun r2 => if r2.Unknown = true then some true else Option.bind (bound_Norm b) fun r4 => some r4.Unknown) fun z1 : Bool => some z1
def slices_Contains (s : List Int) (v : Int) : Option Bool :=
  Option.bind (slices_Index s v) fun r1 => some (decide (r1 ≥ 0))
def bound_Has (b : Bound) (v : Int) : Option Bool :=
  Option.bind (Option.bind (bound_vague b b) fun r2 => if r2 = true then some true else if (decide (b.Lo ≤ v)) = true then some (decide (v ≤ b.Hi)) else some false) fun z1 : Bool => some z1
def bound_Of (lo : Int) (hi : Int) : Option Bound :=
  Option.bind (bound_Norm (Bound.mk lo hi false)) fun r1 => some r1
def bound_Add (a : Bound) (b : Bound) : Option Bound :=
  Option.bind (bound_vague a b) fun r1 => if r1 = true then Option.bind (bound_None) fun r3 => some r3 else Option.bind (bound_Of (w6 (a.Lo + b.Lo)) (w6 (a.Hi + b.Hi))) fun r4 => some r4
def bound_Neg (b : Bound) : Option Bound :=
  Option.bind (bound_Norm b) fun r1 => some (Bound.mk (w6 (0 - r1.Hi)) (w6 (0 - r1.Lo)) r1.Unknown)
def align_worth.l1 (l : List align_Pair) (s1 : (List Int) × (List Int) × Int) : Option (Step ((List Int) × (List Int) × Int) ((List Int) × (List Int))) :=
  if (decide (s1.2.2 < (l.length : Int))) = true then Option.bind (if (0 : Int) ≤ s1.2.2 ∧ s1.2.2 < (l.length : Int) then Option.bind (slices_Contains s1.1 (gt l s1.2.2).A) fun r6 => if (!r6) = true then if roomy (s1.1.length + ([(gt l s1.2.2).A] : List Int).length) 8 = true then Option.bind (slices_Contains s1.2.1 (gt l s1.2.2).B) fun r9 => if (!r9) = true then if roomy (s1.2.1.length + ([(gt l s1.2.2).B] : List Int).length) 8 = true then some (s1.1 ++ ([(gt l s1.2.2).A] : List Int), s1.2.1 ++ ([(gt l s1.2.2).B] : List Int)) else none else some (s1.1 ++ ([(gt l s1.2.2).A] : List Int), s1.2.1) else none else Option.bind (slices_Contains s1.2.1 (gt l s1.2.2).B) fun r12 => if (!r12) = true then if roomy (s1.2.1.length + ([(gt l s1.2.2).B] : List Int).length) 8 = true then some (s1.1, s1.2.1 ++ ([(gt l s1.2.2).B] : List Int)) else none else some (s1.1, s1.2.1) else none) fun z4 : (List Int) × (List Int) => some (.next (z4.1, z4.2, w6 (s1.2.2 + 1))) else some (.done (s1.1, s1.2.1))
def align_worth (l : List align_Pair) : Option Int :=
  Option.bind (loopF (align_worth.l1 l) (([] : List Int), ([] : List Int), 0)) fun z2 : (List Int) × (List Int) => some (mn2 (z2.1.length : Int) (z2.2.length : Int))
def bound_Sub (a : Bound) (b : Bound) : Option Bound :=
  Option.bind (bound_Neg b) fun r1 => Option.bind (bound_Add a r1) fun r2 => some r2
def align_between (m : Measured) (n : Measured) : Option (Bound × Bound × Bool) :=
  Option.bind (bound_Sub n.X m.X) fun r1 => Option.bind (bound_Sub n.Y m.Y) fun r2 => Option.bind (if (!r1.Unknown) = true then some (!r2.Unknown) else some false) fun z3 : Bool => some (r1, r2, z3)
def align_joined.l2 (a : List Measured) (b : List Measured) (x : Int) (y : Int) (s1 : (List align_Pair) × Int) (s5 : (List align_Pair) × Int) : Option (Step ((List align_Pair) × Int) (List align_Pair)) :=
  if (decide (s5.2 < (b.length : Int))) = true then Option.bind (if (0 : Int) ≤ s5.2 ∧ s5.2 < (b.length : Int) then Option.bind (align_between (gt a s1.2) (gt b s5.2)) fun r10 => Option.bind (if r10.2.2 = true then Option.bind (bound_Has r10.1 x) fun r13 => if r13 = true then Option.bind (bound_Has r10.2.1 y) fun r15 => some r15 else some false else some false) fun z11 : Bool => if z11 = true then if roomy (s5.1.length + ([align_Pair.mk s1.2 s5.2] : List align_Pair).length) 16 = true then some (s5.1 ++ ([align_Pair.mk s1.2 s5.2] : List align_Pair)) else none else some s5.1 else none) fun z8 : (List align_Pair) => some (.next (z8, w6 (s5.2 + 1))) else some (.done s5.1)
def align_joined.l1 (a : List Measured) (b : List Measured) (x : Int) (y : Int) (s1 : (List align_Pair) × Int) : Option (Step ((List align_Pair) × Int) (List align_Pair)) :=
  if (decide (s1.2 < (a.length : Int))) = true then if (0 : Int) ≤ s1.2 ∧ s1.2 < (a.length : Int) then Option.bind (loopF (align_joined.l2 a b x y s1) (s1.1, 0)) fun z6 : (List align_Pair) => some (.next (z6, w6 (s1.2 + 1))) else none else some (.done s1.1)
def align_joined (a : List Measured) (b : List Measured) (x : Int) (y : Int) : Option (List align_Pair) :=
  Option.bind (loopF (align_joined.l1 a b x y) (([] : List align_Pair), 0)) fun z2 : (List align_Pair) => some z2
def align_check.l1 (l : List Measured) (s2 : Int) : Option (Step Int (Step Unit Int)) :=
  if (decide (s2 < (l.length : Int))) = true then if (0 : Int) ≤ s2 ∧ s2 < (l.length : Int) then Option.bind (bound_Check (gt l s2).X) fun r6 => if (r6 != 0) = true then some (.done (.done r6)) else Option.bind (bound_Check (gt l s2).Y) fun r8 => if (r8 != 0) = true then some (.done (.done r8)) else some (.next (w6 (s2 + 1))) else none else some (.done (.next ()))
def align_check (l : List Measured) (most : Int) : Option Int :=
  if (decide ((l.length : Int) > most)) = true then some 2 else seqF (loopF (align_check.l1 l) 0) fun z3 : Unit => some 0
def align_checks (a : List Measured) (b : List Measured) (most : Int) (least : Int) : Option Int :=
  Option.bind (align_check a most) fun r1 => if (r1 != 0) = true then some r1 else Option.bind (align_check b most) fun r3 => if (r3 != 0) = true then some r3 else if (decide (least < 1)) = true then some 1 else some 0
def align_Whole.l2 (a : List Measured) (b : List Measured) (least : Int) (s3 : (List align_Shift) × Int) (s6 : (List align_Shift) × Int) : Option (Step ((List align_Shift) × Int) (List align_Shift)) :=
  if (decide (s6.2 < 32)) = true then Option.bind (Option.bind (align_joined a b (w6 (s6.2 * 256)) (w6 (s3.2 * 256))) fun r10 => Option.bind (align_worth r10) fun r11 => if (decide (r11 ≥ least)) = true then if roomy (s6.1.length + ([align_Shift.mk s6.2 s3.2 r10] : List align_Shift).length) 40 = true then some (s6.1 ++ ([align_Shift.mk s6.2 s3.2 r10] : List align_Shift)) else none else some s6.1) fun z9 : (List align_Shift) => some (.next (z9, w6 (s6.2 + 1))) else some (.done s6.1)
def align_Whole.l1 (a : List Measured) (b : List Measured) (least : Int) (s3 : (List align_Shift) × Int) : Option (Step ((List align_Shift) × Int) (List align_Shift)) :=
  if (decide (s3.2 < 32)) = true then Option.bind (loopF (align_Whole.l2 a b least s3) (s3.1, (-31))) fun z7 : (List align_Shift) => some (.next (z7, w6 (s3.2 + 1))) else some (.done s3.1)
def align_Whole (a : List Measured) (b : List Measured) (least : Int) : Option ((List align_Shift) × Int) :=
  Option.bind (align_checks a b 24 least) fun r1 => if (r1 != 0) = true then some ([], r1) else Option.bind (loopF (align_Whole.l1 a b least) (([] : List align_Shift), (-31))) fun z4 : (List align_Shift) => some (z4, 0)
def spykeep4_at (x : Int) : Option Bound :=
  some (Bound.mk x x false)
def bound_Meet (a : Bound) (b : Bound) : Option (Bound × Bool) :=
  Option.bind (bound_Norm a) fun r1 => Option.bind (bound_Norm b) fun r2 => if r1.Unknown = true then some (r2, true) else if r2.Unknown = true then some (r1, true) else if (decide ((mx2 r1.Lo r2.Lo) > (mn2 r1.Hi r2.Hi))) = true then some (Bound.mk 0 0 false, false) else Option.bind (bound_Of (mx2 r1.Lo r2.Lo) (mn2 r1.Hi r2.Hi)) fun r6 => some (r6, true)
def spymake_Below (x : Int) (n : Int) : Option Int :=
  if (decide (n < 1)) = true then some 0 else if n ≠ 0 then if (decide ((Int.tmod x n) < 0)) = true then some (w6 ((Int.tmod x n) + n)) else some (Int.tmod x n) else none
def Stream_Next (s : spymake_Stream) (n : Int) : Option (Int × spymake_Stream) :=
  if ((s.L.length : Int) == 0) = true then Option.bind (spymake_Below (w6 ((w6 (s.at_ + 1)) * 7919)) n) fun r2 => some (r2, spymake_Stream.mk s.L (w6 (s.at_ + 1))) else if (s.L.length : Int) ≠ 0 then if (0 : Int) ≤ Int.tmod (w6 ((w6 (s.at_ + 1)) - 1)) (s.L.length : Int) ∧ (Int.tmod (w6 ((w6 (s.at_ + 1)) - 1)) (s.L.length : Int)) < (s.L.length : Int) then Option.bind (spymake_Below (gt s.L (Int.tmod (w6 ((w6 (s.at_ + 1)) - 1)) (s.L.length : Int))) 1073741824) fun r5 => letF (w6 (7919 + (Int.tmod (w6 ((w6 (s.at_ + 1)) - 1)) (s.L.length : Int)))) fun v6 => letF (w6 ((w6 (Int.tdiv (w6 ((w6 (s.at_ + 1)) - 1)) (s.L.length : Int))) * v6)) fun v7 => Option.bind (spymake_Below (w6 (r5 + v7)) n) fun r8 => some (r8, spymake_Stream.mk s.L (w6 (s.at_ + 1))) else none else none
def Stream_Range (s : spymake_Stream) (low : Int) (high : Int) : Option (Int × spymake_Stream) :=
  if (decide (high < low)) = true then some (low, s) else Option.bind (Stream_Next s (w6 ((w6 (high - low)) + 1))) fun r2 => some (w6 (low + r2.1), r2.2)
def spymake_Bound (s : spymake_Stream) (most : Int) : Option (Bound × spymake_Stream) :=
  Option.bind (Stream_Next s 8) fun r1 => if (r1.1 == 0) = true then some (Bound.mk 0 0 true, r1.2) else if (r1.1 == 1) = true then Option.bind (Stream_Range r1.2 (w6 (0 - most)) most) fun r4 => some (Bound.mk r4.1 r4.1 false, r4.2) else Option.bind (Stream_Range r1.2 (w6 (0 - most)) most) fun r5 => Option.bind (Stream_Range r5.2 (w6 (0 - most)) most) fun r6 => some (Bound.mk (mn2 r5.1 r6.1) (mx2 r5.1 r6.1) false, r6.2)
def Stream_Around (s : spymake_Stream) (x : Int) (most : Int) : Option (Bound × spymake_Stream) :=
  Option.bind (Stream_Next s (w6 (most + 1))) fun r1 => Option.bind (Stream_Next r1.2 (w6 (most + 1))) fun r2 => some (Bound.mk (w6 (x - r1.1)) (w6 (x + r2.1)) false, r2.2)
def spykeep4_laid : Option Bool :=
  Option.bind (spykeep4_at 100) fun r1 => Option.bind (spykeep4_at 7) fun r2 => Option.bind (spykeep4_at 100) fun r3 => Option.bind (spykeep4_at 263) fun r4 => Option.bind (align_Whole ([Measured.mk r1 r2 (Bound.mk 0 0 false)] : List Measured) ([Measured.mk r3 r4 (Bound.mk 0 0 false)] : List Measured) 1) fun r5 => Option.bind (if (r5.2 == 0) = true then if ((r5.1.length : Int) == 1) = true then if (0 : Int) ≤ 0 ∧ 0 < (r5.1.length : Int) then if ((gt r5.1 0).DX == 0) = true then if ((gt r5.1 0).DY == 1) = true then some (((gt r5.1 0).Pairs.length : Int) == 1) else some false else some false else none else some false else some false) fun z6 : Bool => some z6
def align_Common.l2 (a : List Measured) (b : List Measured) (l : List align_Pair) (s14 : Bound × Bound × Int) : Option (Step (Bound × Bound × Int) (Step (Bound × Bound) (Bound × Bound × Int))) :=
  if (decide (s14.2.2 < (l.length : Int))) = true then if (0 : Int) ≤ s14.2.2 ∧ s14.2.2 < (l.length : Int) then if (0 : Int) ≤ (gt l s14.2.2).A ∧ (gt l s14.2.2).A < (a.length : Int) then if (0 : Int) ≤ (gt l s14.2.2).B ∧ (gt l s14.2.2).B < (b.length : Int) then Option.bind (align_between (gt a (gt l s14.2.2).A) (gt b (gt l s14.2.2).B)) fun r20 => if (!r20.2.2) = true then some (.done (.done (Bound.mk 0 0 false, Bound.mk 0 0 false, 10))) else Option.bind (bound_Meet s14.1 r20.1) fun r22 => Option.bind (bound_Meet s14.2.1 r20.2.1) fun r23 => Option.bind (if (!r22.2) = true then some true else some (!r23.2)) fun z24 : Bool => if z24 = true then some (.done (.done (Bound.mk 0 0 false, Bound.mk 0 0 false, 15))) else some (.next (r22.1, r23.1, w6 (s14.2.2 + 1))) else none else none else none else some (.done (.next (s14.1, s14.2.1)))
def align_Common.l1 (a : List Measured) (b : List Measured) (l : List align_Pair) (s5 : Int) : Option (Step Int (Step Unit (Bound × Bound × Int))) :=
  if (decide (s5 < (l.length : Int))) = true then if (0 : Int) ≤ s5 ∧ s5 < (l.length : Int) then Option.bind (if (decide ((gt l s5).A < 0)) = true then some true else if (decide ((gt l s5).A ≥ (a.length : Int))) = true then some true else if (decide ((gt l s5).B < 0)) = true then some true else some (decide ((gt l s5).B ≥ (b.length : Int)))) fun z9 : Bool => if z9 = true then some (.done (.done (Bound.mk 0 0 false, Bound.mk 0 0 false, 4))) else some (.next (w6 (s5 + 1))) else none else some (.done (.next ()))
def align_Common (a : List Measured) (b : List Measured) (l : List align_Pair) : Option (Bound × Bound × Int) :=
  Option.bind (align_checks a b 24 1) fun r1 => if (r1 != 0) = true then some (Bound.mk 0 0 false, Bound.mk 0 0 false, r1) else Option.bind (bound_None) fun r3 => Option.bind (bound_None) fun r4 => seqF (loopF (align_Common.l1 a b l) 0) fun z6 : Unit => seqF (loopF (align_Common.l2 a b l) (r3, r4, 0)) fun z15 : Bound × Bound => some (z15.1, z15.2, 0)
def Stream_Spots.l1 (r1 : Int × spymake_Stream) (r3 : Int × spymake_Stream) (s4 : spymake_Stream × (List Measured) × Int) : Option (Step (spymake_Stream × (List Measured) × Int) (spymake_Stream × (List Measured))) :=
  if (decide (s4.2.2 < r3.1)) = true then Option.bind (Stream_Range s4.1 0 31) fun r7 => Option.bind (Stream_Next r7.2 3) fun r8 => Option.bind (Stream_Range r8.2 0 31) fun r9 => Option.bind (Stream_Next r9.2 3) fun r10 => Option.bind (Stream_Around r10.2 (w6 ((w6 (r7.1 * 256)) + (w6 (r8.1 * 128)))) (gt ([0, 8, 300] : List Int) r1.1)) fun r11 => Option.bind (Stream_Around r11.2 (w6 ((w6 (r9.1 * 256)) + (w6 (r10.1 * 128)))) (gt ([0, 8, 300] : List Int) r1.1)) fun r12 => Option.bind (spymake_Bound r12.2 1000) fun r13 => if roomy (s4.2.1.length + ([Measured.mk r11.1 r12.1 r13.1] : List Measured).length) 72 = true then some (.next (r13.2, s4.2.1 ++ ([Measured.mk r11.1 r12.1 r13.1] : List Measured), w6 (s4.2.2 + 1))) else none else some (.done (s4.1, s4.2.1))
def Stream_Spots (s : spymake_Stream) (most : Int) : Option ((List Measured) × spymake_Stream) :=
  Option.bind (Stream_Next s 3) fun r1 => if (0 : Int) ≤ r1.1 ∧ r1.1 < (([0, 8, 300] : List Int).length : Int) then Option.bind (Stream_Next r1.2 (w6 (most + 1))) fun r3 => Option.bind (loopF (Stream_Spots.l1 r1 r3) (r3.2, ([] : List Measured), 0)) fun z5 : spymake_Stream × (List Measured) => some (z5.2, z5.1) else none
def spykeep4_AlignHelly.l3 (r1 : (List Measured) × spymake_Stream) (r2 : (List Measured) × spymake_Stream) (z5 : (List align_Pair)) (s17 : Bool × Int) (s23 : Bool × Int) : Option (Step (Bool × Int) Bool) :=
  letF (decide (s23.2 < (((List.drop 0 z5).take (s17.2.toNat - 0)).length : Int))) fun v25 => if v25 = true then if (0 : Int) ≤ s23.2 ∧ s23.2 < (((List.drop 0 z5).take (s17.2.toNat - 0)).length : Int) then Option.bind (align_Common r1.1 r2.1 ([(gt z5 s17.2), (gt ((List.drop 0 z5).take (s17.2.toNat - 0)) s23.2)] : List align_Pair)) fun r28 => if s23.1 = true then some (.next (r28.2.2 == 0, w6 (s23.2 + 1))) else some (.next (false, w6 (s23.2 + 1))) else none else some (.done s23.1)
def spykeep4_AlignHelly.l4 (r1 : (List Measured) × spymake_Stream) (r2 : (List Measured) × spymake_Stream) (z5 : (List align_Pair)) (r14 : Bound × Bound × Int) (s31 : Int) : Option (Step Int (Step Unit Bool)) :=
  if (decide (s31 < (z5.length : Int))) = true then if (0 : Int) ≤ s31 ∧ s31 < (z5.length : Int) then Option.bind (align_Common r1.1 r2.1 ([(gt z5 s31)] : List align_Pair)) fun r35 => Option.bind (if (r35.2.2 != 0) = true then some true else if (r14.2.2 == 0) = true then if r14.1.Unknown = true then some true else if r14.2.1.Unknown = true then some true else if (decide (r14.1.Lo < r35.1.Lo)) = true then some true else if (decide (r14.1.Hi > r35.1.Hi)) = true then some true else if (decide (r14.2.1.Lo < r35.2.1.Lo)) = true then some true else some (decide (r14.2.1.Hi > r35.2.1.Hi)) else some false) fun z36 : Bool => if z36 = true then some (.done (.done false)) else some (.next (w6 (s31 + 1))) else none else some (.done (.next ()))
def spykeep4_AlignHelly.l2 (r1 : (List Measured) × spymake_Stream) (r2 : (List Measured) × spymake_Stream) (z5 : (List align_Pair)) (s17 : Bool × Int) : Option (Step (Bool × Int) Bool) :=
  if (decide (s17.2 < (z5.length : Int))) = true then if (0 : Int) ≤ s17.2 ∧ s17.2 < (z5.length : Int) then if (0 : Int) ≤ s17.2 then if 0 ≤ s17.2.toNat ∧ s17.2.toNat ≤ z5.length then Option.bind (loopF (spykeep4_AlignHelly.l3 r1 r2 z5 s17) (s17.1, 0)) fun z24 : Bool => some (.next (z24, w6 (s17.2 + 1))) else none else none else none else some (.done s17.1)
def spykeep4_AlignHelly.l1 (r1 : (List Measured) × spymake_Stream) (r2 : (List Measured) × spymake_Stream) (r3 : Int × spymake_Stream) (s4 : spymake_Stream × (List align_Pair) × Int) : Option (Step (spymake_Stream × (List align_Pair) × Int) (List align_Pair)) :=
  if (decide (s4.2.2 < r3.1)) = true then Option.bind (Option.bind (if (decide ((r1.1.length : Int) > 0)) = true then some (decide ((r2.1.length : Int) > 0)) else some false) fun z8 : Bool => if z8 = true then Option.bind (Stream_Next s4.1 (r1.1.length : Int)) fun r11 => Option.bind (Stream_Next r11.2 (r2.1.length : Int)) fun r12 => if roomy (s4.2.1.length + ([align_Pair.mk r11.1 r12.1] : List align_Pair).length) 16 = true then some (r12.2, s4.2.1 ++ ([align_Pair.mk r11.1 r12.1] : List align_Pair)) else none else some (s4.1, s4.2.1)) fun z7 : spymake_Stream × (List align_Pair) => some (.next (z7.1, z7.2, w6 (s4.2.2 + 1))) else some (.done s4.2.1)
def spykeep4_AlignHelly (l : List Int) : Option Bool :=
  Option.bind (Stream_Spots (spymake_Stream.mk l 0) 5) fun r1 => Option.bind (Stream_Spots r1.2 5) fun r2 => Option.bind (Stream_Range r2.2 0 5) fun r3 => Option.bind (loopF (spykeep4_AlignHelly.l1 r1 r2 r3) (r3.2, ([] : List align_Pair), 0)) fun z5 : (List align_Pair) => Option.bind (align_Common r1.1 r2.1 z5) fun r14 => Option.bind (spykeep4_laid) fun r15 => if (!r15) = true then some false else Option.bind (loopF (spykeep4_AlignHelly.l2 r1 r2 z5) (true, 0)) fun z18 : Bool => if (z18 != (r14.2.2 == 0)) = true then some false else seqF (loopF (spykeep4_AlignHelly.l4 r1 r2 z5 r14) 0) fun z32 : Unit => some true
end Lf
