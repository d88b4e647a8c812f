/- The plain functions that the program's functions compute. Conditions: as each theorem states them. -/
import Derived.Test.YtgkkeenjejkjbaaA4
/-! Plain functions. -/
namespace Lf
open Go Go.Abs
set_option linter.unusedVariables false
structure Bound where
  Lo : Int
  Hi : Int
  Unknown : Bool
  deriving DecidableEq
@[reducible] def Bound.tp (x : Bound) := (x.Lo, x.Hi, x.Unknown)
instance : Cl Bound := Cl.iso Bound.tp (Bound.mk (Cl.d : Int) (Cl.d : Int) (Cl.d : Bool))
structure stack_Stack where
  W : Int
  H : Int
  N : Int
  Holes : List Int
  At : List Bound
  deriving DecidableEq
@[reducible] def stack_Stack.tp (x : stack_Stack) := (x.W, x.H, x.N, x.Holes, x.At)
instance : Cl stack_Stack := Cl.iso stack_Stack.tp (stack_Stack.mk (Cl.d : Int) (Cl.d : Int) (Cl.d : Int) (Cl.d : List Int) (Cl.d : List Bound))
structure Cells where
  W : Int
  H : Int
  At : List Bound
  deriving DecidableEq
@[reducible] def Cells.tp (x : Cells) := (x.W, x.H, x.At)
instance : Cl Cells := Cl.iso Cells.tp (Cells.mk (Cl.d : Int) (Cl.d : Int) (Cl.d : List Bound))
structure spymake_Stream where
  L : List Int
  at_ : Int
  deriving DecidableEq
@[reducible] def spymake_Stream.tp (x : spymake_Stream) := (x.L, x.at_)
instance : Cl spymake_Stream := Cl.iso spymake_Stream.tp (spymake_Stream.mk (Cl.d : List Int) (Cl.d : Int))
def bound_Check (b : Bound) : Option Int :=
  Option.bind (if b.Unknown = true then if (b.Lo != 0) = true then some true else some (b.Hi != 0) else some false) fun z1 : Bool => if z1 = true then some 3 else Option.bind (if (decide ((mn2 b.Lo b.Hi) < (-1152921504606846976))) = true then some true else some (decide ((mx2 b.Lo b.Hi) > 1152921504606846976))) fun z5 : Bool => if z5 = true then some 4 else if (decide (b.Lo > b.Hi)) = true then some 11 else some 0
def bound_None : Option Bound :=
  some (Bound.mk 0 0 true)
def bound_Norm (b : Bound) : Option Bound :=
  Option.bind (bound_Check b) fun r1 => if (r1 != 0) = true then Option.bind (bound_None) fun r3 => some r3 else some b
def bound_Of (lo : Int) (hi : Int) : Option Bound :=
  Option.bind (bound_Norm (Bound.mk lo hi false)) fun r1 => some r1
def bound_vague (a : Bound) (b : Bound) : Option Bool :=
  Option.bind (Option.bind (bound_Norm a) fun r2 => if r2.Unknown = true then some true else Option.bind (bound_Norm b) fun r4 => some r4.Unknown) fun z1 : Bool => some z1
def stack_Check.l1 (s : stack_Stack) (s11 : Int) : Option (Step Int (Step Unit Int)) :=
  if (decide (s11 < (s.At.length : Int))) = true then if (0 : Int) ≤ s11 ∧ s11 < (s.At.length : Int) then Option.bind (bound_Check (gt s.At s11)) fun r15 => if (r15 != 0) = true then some (.done (.done r15)) else if (0 : Int) ≤ s11 ∧ s11 < (s.Holes.length : Int) then if (gt s.At s11).Unknown = true then some (.done (.done 3)) else Option.bind (if (decide ((w6 (s.N - (gt s.Holes s11))) < 0)) = true then some true else if (decide ((w6 (s.N - (gt s.Holes s11))) > s.N)) = true then some true else letF (w6 (0 - (w6 ((w6 (s.N - (gt s.Holes s11))) * 1099511627776)))) fun v22 => if (decide ((gt s.At s11).Lo < v22)) = true then some true else letF (decide ((gt s.At s11).Hi > (w6 ((w6 (s.N - (gt s.Holes s11))) * 1099511627776)))) fun v24 => some v24) fun z19 : Bool => if z19 = true then some (.done (.done 4)) else some (.next (w6 (s11 + 1))) else none else none else some (.done (.next ()))
def stack_Check (s : stack_Stack) : Option Int :=
  Option.bind (if (decide (s.W < 1)) = true then some true else if (decide (s.W > 32)) = true then some true else if (decide (s.H < 1)) = true then some true else if (decide (s.H > 32)) = true then some true else if ((s.At.length : Int) != (w6 (s.W * s.H))) = true then some true else some ((s.Holes.length : Int) != (w6 (s.W * s.H)))) fun z1 : Bool => if z1 = true then some 3 else Option.bind (if (decide (s.N < 0)) = true then some true else some (decide (s.N > 8))) fun z8 : Bool => if z8 = true then some 4 else seqF (loopF (stack_Check.l1 s) 0) fun z12 : Unit => some 0
def stack_Total_1 (i : Int) (p1 : stack_Stack) : Option Bound :=
  if (0 : Int) ≤ i ∧ i < (p1.Holes.length : Int) then if (decide ((gt p1.Holes i) > 0)) = true then Option.bind (bound_None) fun r3 => some r3 else if (0 : Int) ≤ i ∧ i < (p1.At.length : Int) then some (gt p1.At i) else none else none
def stack_each_stack_Total_1.l1 (s : stack_Stack) (fc0 : stack_Stack) (s3 : (List Bound) × Int) : Option (Step ((List Bound) × Int) (List Bound)) :=
  if (decide (s3.2 < (s.At.length : Int))) = true then Option.bind (stack_Total_1 s3.2 fc0) fun r6 => if roomy (s3.1.length + ([r6] : List Bound).length) 24 = true then some (.next (s3.1 ++ ([r6] : List Bound), w6 (s3.2 + 1))) else none else some (.done s3.1)
def stack_each_stack_Total_1 (s : stack_Stack) (fc0 : stack_Stack) : Option (Cells × Int) :=
  Option.bind (stack_Check s) fun r1 => if (r1 != 0) = true then some (Cells.mk 0 0 [], r1) else Option.bind (loopF (stack_each_stack_Total_1.l1 s fc0) (([] : List Bound), 0)) fun z4 : (List Bound) => some (Cells.mk s.W s.H z4, 0)
def stack_Total (s : stack_Stack) : Option (Cells × Int) :=
  Option.bind (stack_each_stack_Total_1 s s) fun r1 => some (r1.1, r1.2)
def slices_Clone_Bound (s : List Bound) : Option (List Bound) :=
  Option.bind (nilF s (some true) (some false)) fun z1 : Bool => if z1 = true then some [] else if roomy (([] : List Bound).length + s.length) 24 = true then some (([] : List Bound) ++ s) else none
def slices_Clone_Int (s : List Int) : Option (List Int) :=
  Option.bind (nilF s (some true) (some false)) fun z1 : Bool => if z1 = true then some [] else if roomy (([] : List Int).length + s.length) 8 = true then some (([] : List Int) ++ s) else none
def find_Check.l1 (c : Cells) (s7 : Int) : Option (Step Int (Step Unit Int)) :=
  if (decide (s7 < (c.At.length : Int))) = true then if (0 : Int) ≤ s7 ∧ s7 < (c.At.length : Int) then Option.bind (bound_Check (gt c.At s7)) fun r11 => if (r11 != 0) = true then some (.done (.done r11)) else Option.bind (if (decide ((gt c.At s7).Lo < (-1099511627776))) = true then some true else some (decide ((gt c.At s7).Hi > 1099511627776))) fun z13 : Bool => if z13 = true then some (.done (.done 4)) else some (.next (w6 (s7 + 1))) else none else some (.done (.next ()))
def find_Check (c : Cells) : Option Int :=
  Option.bind (if (decide (c.W < 1)) = true then some true else if (decide (c.W > 32)) = true then some true else if (decide (c.H < 1)) = true then some true else if (decide (c.H > 32)) = true then some true else some ((c.At.length : Int) != (w6 (c.W * c.H)))) fun z1 : Bool => if z1 = true then some 3 else seqF (loopF (find_Check.l1 c) 0) fun z8 : Unit => some 0
def bound_Add (a : Bound) (b : Bound) : Option Bound :=
  Option.bind (bound_vague a b) fun r1 => if r1 = true then Option.bind (bound_None) fun r3 => some r3 else Option.bind (bound_Of (w6 (a.Lo + b.Lo)) (w6 (a.Hi + b.Hi))) fun r4 => some r4
def stack_New (w : Int) (h : Int) : Option (stack_Stack × Int) :=
  Option.bind (if (decide (w < 1)) = true then some true else if (decide (w > 32)) = true then some true else if (decide (h < 1)) = true then some true else some (decide (h > 32))) fun z1 : Bool => if z1 = true then some (stack_Stack.mk 0 0 0 [] [], 3) else if (0 : Int) ≤ w6 (w * h) ∧ (w6 (w * h)) ≤ w6 (w * h) ∧ roomy (w6 (w * h)).toNat 8 = true then if (0 : Int) ≤ w6 (w * h) ∧ (w6 (w * h)) ≤ w6 (w * h) ∧ roomy (w6 (w * h)).toNat 24 = true then some (stack_Stack.mk w h 0 (List.replicate (w6 (w * h)).toNat (0 : Int)) (List.replicate (w6 (w * h)).toNat (Bound.mk 0 0 false : Bound)), 0) else none else none
def stack_fit (s : stack_Stack) (c : Cells) : Option Int :=
  Option.bind (stack_Check s) fun r1 => if (r1 != 0) = true then some r1 else Option.bind (find_Check c) fun r3 => if (r3 != 0) = true then some r3 else Option.bind (if (s.W != c.W) = true then some true else some (s.H != c.H)) fun z5 : Bool => if z5 = true then some 12 else some 0
def stack_copied (s : stack_Stack) : Option stack_Stack :=
  Option.bind (slices_Clone_Int s.Holes) fun r1 => Option.bind (slices_Clone_Bound s.At) fun r2 => some (stack_Stack.mk s.W s.H s.N r1 r2)
def stack_Add.l1 (c : Cells) (s5 : (List Int) × (List Bound) × Int) : Option (Step ((List Int) × (List Bound) × Int) ((List Int) × (List Bound))) :=
  if (decide (s5.2.2 < (c.At.length : Int))) = true then Option.bind (if (0 : Int) ≤ s5.2.2 ∧ s5.2.2 < (c.At.length : Int) then if (gt c.At s5.2.2).Unknown = true then if (0 : Int) ≤ s5.2.2 ∧ s5.2.2 < (s5.1.length : Int) then some (List.set s5.1 s5.2.2.toNat (w6 ((gt s5.1 s5.2.2) + 1)), s5.2.1) else none else if (0 : Int) ≤ s5.2.2 ∧ s5.2.2 < (s5.2.1.length : Int) then Option.bind (bound_Add (gt s5.2.1 s5.2.2) (gt c.At s5.2.2)) fun r13 => some (s5.1, List.set s5.2.1 s5.2.2.toNat r13) else none else none) fun z8 : (List Int) × (List Bound) => some (.next (z8.1, z8.2, w6 (s5.2.2 + 1))) else some (.done (s5.1, s5.2.1))
def stack_Add (s : stack_Stack) (c : Cells) : Option (stack_Stack × Int) :=
  Option.bind (stack_fit s c) fun r1 => if (r1 != 0) = true then some (stack_Stack.mk 0 0 0 [] [], r1) else if (s.N == 8) = true then some (stack_Stack.mk 0 0 0 [] [], 9) else Option.bind (stack_copied s) fun r4 => Option.bind (loopF (stack_Add.l1 c) (r4.Holes, r4.At, 0)) fun z6 : (List Int) × (List Bound) => some (stack_Stack.mk r4.W r4.H (w6 (r4.N + 1)) z6.1 z6.2, 0)
def stack_All.l1 (l : List Cells) (s5 : stack_Stack × Int × Int) : Option (Step (stack_Stack × Int × Int) (Step (stack_Stack × Int) (Cells × Int))) :=
  if (decide (s5.2.2 < (l.length : Int))) = true then if (0 : Int) ≤ s5.2.2 ∧ s5.2.2 < (l.length : Int) then if (s5.2.1 != 0) = true then some (.done (.done (Cells.mk 0 0 [], s5.2.1))) else Option.bind (stack_Add s5.1 (gt l s5.2.2)) fun r10 => some (.next (r10.1, r10.2, w6 (s5.2.2 + 1))) else none else some (.done (.next (s5.1, s5.2.1)))
def stack_All (l : List Cells) : Option (Cells × Int) :=
  if ((l.length : Int) == 0) = true then some (Cells.mk 0 0 [], 8) else if (decide ((l.length : Int) > 8)) = true then some (Cells.mk 0 0 [], 2) else if (0 : Int) ≤ 0 ∧ 0 < (l.length : Int) then Option.bind (stack_New (gt l 0).W (gt l 0).H) fun r4 => seqF (loopF (stack_All.l1 l) (r4.1, r4.2, 0)) fun z6 : stack_Stack × Int => if (z6.2 != 0) = true then some (Cells.mk 0 0 [], z6.2) else Option.bind (stack_Total z6.1) fun r12 => some (r12.1, r12.2) else none
def spykeep4_piled_1 (lo : Int) (hi : Int) : Option (List Bound) :=
  some ([Bound.mk lo hi false] : List Bound)
def spymake_Below (x : Int) (n : Int) : Option Int :=
  if (decide (n < 1)) = true then some 0 else if n ≠ 0 then if (decide ((Int.tmod x n) < 0)) = true then some (w6 ((Int.tmod x n) + n)) else some (Int.tmod x n) else none
def Stream_Next (s : spymake_Stream) (n : Int) : Option (Int × spymake_Stream) :=
  if ((s.L.length : Int) == 0) = true then Option.bind (spymake_Below (w6 ((w6 (s.at_ + 1)) * 7919)) n) fun r2 => some (r2, spymake_Stream.mk s.L (w6 (s.at_ + 1))) else if (s.L.length : Int) ≠ 0 then if (0 : Int) ≤ Int.tmod (w6 ((w6 (s.at_ + 1)) - 1)) (s.L.length : Int) ∧ (Int.tmod (w6 ((w6 (s.at_ + 1)) - 1)) (s.L.length : Int)) < (s.L.length : Int) then Option.bind (spymake_Below (gt s.L (Int.tmod (w6 ((w6 (s.at_ + 1)) - 1)) (s.L.length : Int))) 1073741824) fun r5 => letF (w6 (7919 + (Int.tmod (w6 ((w6 (s.at_ + 1)) - 1)) (s.L.length : Int)))) fun v6 => letF (w6 ((w6 (Int.tdiv (w6 ((w6 (s.at_ + 1)) - 1)) (s.L.length : Int))) * v6)) fun v7 => Option.bind (spymake_Below (w6 (r5 + v7)) n) fun r8 => some (r8, spymake_Stream.mk s.L (w6 (s.at_ + 1))) else none else none
def slices_Equal_Bound.l1 (s1_ : List Bound) (s2_ : List Bound) (s2 : Int) : Option (Step Int (Step Unit Bool)) :=
  if (decide (s2 < (s1_.length : Int))) = true then if (0 : Int) ≤ s2 ∧ s2 < (s1_.length : Int) then if (0 : Int) ≤ s2 ∧ s2 < (s2_.length : Int) then if (!(((gt s1_ s2).Lo == (gt s2_ s2).Lo) && (((gt s1_ s2).Hi == (gt s2_ s2).Hi) && (((gt s1_ s2).Unknown == (gt s2_ s2).Unknown) && (true))))) = true then some (.done (.done false)) else some (.next (w6 (s2 + 1))) else none else none else some (.done (.next ()))
def slices_Equal_Bound (s1_ : List Bound) (s2_ : List Bound) : Option Bool :=
  if ((s1_.length : Int) != (s2_.length : Int)) = true then some false else seqF (loopF (slices_Equal_Bound.l1 s1_ s2_) 0) fun z3 : Unit => some true
def slices_Equal_Int.l1 (s1_ : List Int) (s2_ : List Int) (s2 : Int) : Option (Step Int (Step Unit Bool)) :=
  if (decide (s2 < (s1_.length : Int))) = true then if (0 : Int) ≤ s2 ∧ s2 < (s1_.length : Int) then if (0 : Int) ≤ s2 ∧ s2 < (s2_.length : Int) then if ((gt s1_ s2) != (gt s2_ s2)) = true then some (.done (.done false)) else some (.next (w6 (s2 + 1))) else none else none else some (.done (.next ()))
def slices_Equal_Int (s1_ : List Int) (s2_ : List Int) : Option Bool :=
  if ((s1_.length : Int) != (s2_.length : Int)) = true then some false else seqF (loopF (slices_Equal_Int.l1 s1_ s2_) 0) fun z3 : Unit => some true
def spykeep4_piled : Option Bool :=
  Option.bind (spykeep4_piled_1 1 2) fun r1 => Option.bind (spykeep4_piled_1 10 30) fun r2 => Option.bind (stack_All ([Cells.mk 1 1 r1, Cells.mk 1 1 r2] : List Cells)) fun r3 => Option.bind (if (r3.2 == 0) = true then if (r3.1.W == 1) = true then Option.bind (spykeep4_piled_1 11 32) fun r7 => Option.bind (slices_Equal_Bound r3.1.At r7) fun r8 => some r8 else some false else some false) fun z4 : Bool => some z4
def slices_Delete_Cells (l : List Cells) (i j : Int) : Option (List Cells) :=
  if 0 ≤ i ∧ i ≤ j ∧ j ≤ l.length then some (l.take i.toNat ++ l.drop j.toNat) else none
def slices_Clone_Cells (s : List Cells) : Option (List Cells) :=
  Option.bind (nilF s (some true) (some false)) fun z1 : Bool => if z1 = true then some [] else if roomy (([] : List Cells).length + s.length) 40 = true then some (([] : List Cells) ++ s) else none
def stack_Remove.l1 (c : Cells) (s5 : (List Int) × (List Bound) × Int) : Option (Step ((List Int) × (List Bound) × Int) ((List Int) × (List Bound))) :=
  if (decide (s5.2.2 < (c.At.length : Int))) = true then Option.bind (if (0 : Int) ≤ s5.2.2 ∧ s5.2.2 < (c.At.length : Int) then if (gt c.At s5.2.2).Unknown = true then if (0 : Int) ≤ s5.2.2 ∧ s5.2.2 < (s5.1.length : Int) then some (List.set s5.1 s5.2.2.toNat (w6 ((gt s5.1 s5.2.2) - 1)), s5.2.1) else none else if (0 : Int) ≤ s5.2.2 ∧ s5.2.2 < (s5.2.1.length : Int) then letF (List.set s5.2.1 s5.2.2.toNat (Bound.mk (w6 ((gt s5.2.1 s5.2.2).Lo - (gt c.At s5.2.2).Lo)) (w6 ((gt s5.2.1 s5.2.2).Hi - (gt c.At s5.2.2).Hi)) false)) fun v13 => some (s5.1, v13) else none else none) fun z8 : (List Int) × (List Bound) => some (.next (z8.1, z8.2, w6 (s5.2.2 + 1))) else some (.done (s5.1, s5.2.1))
def stack_Remove (s : stack_Stack) (c : Cells) : Option (stack_Stack × Int) :=
  Option.bind (stack_fit s c) fun r1 => if (r1 != 0) = true then some (stack_Stack.mk 0 0 0 [] [], r1) else if (s.N == 0) = true then some (stack_Stack.mk 0 0 0 [] [], 8) else Option.bind (stack_copied s) fun r4 => Option.bind (loopF (stack_Remove.l1 c) (r4.Holes, r4.At, 0)) fun z6 : (List Int) × (List Bound) => Option.bind (stack_Check (stack_Stack.mk r4.W r4.H (w6 (r4.N - 1)) z6.1 z6.2)) fun r14 => if (r14 != 0) = true then some (stack_Stack.mk 0 0 0 [] [], 15) else some (stack_Stack.mk r4.W r4.H (w6 (r4.N - 1)) z6.1 z6.2, 0)
def spykeep4_added.l1 (l : List Cells) (s2 : stack_Stack × Int × Int) : Option (Step (stack_Stack × Int × Int) (stack_Stack × Int)) :=
  if (decide (s2.2.2 < (l.length : Int))) = true then Option.bind (if (0 : Int) ≤ s2.2.2 ∧ s2.2.2 < (l.length : Int) then if (s2.2.1 == 0) = true then Option.bind (stack_Add s2.1 (gt l s2.2.2)) fun r8 => some (r8.1, r8.2) else some (s2.1, s2.2.1) else none) fun z5 : stack_Stack × Int => some (.next (z5.1, z5.2, w6 (s2.2.2 + 1))) else some (.done (s2.1, s2.2.1))
def spykeep4_added (w : Int) (h : Int) (l : List Cells) : Option (stack_Stack × Int) :=
  Option.bind (stack_New w h) fun r1 => Option.bind (loopF (spykeep4_added.l1 l) (r1.1, r1.2, 0)) fun z3 : stack_Stack × Int => some (z3.1, z3.2)
def Stream_Range (s : spymake_Stream) (low : Int) (high : Int) : Option (Int × spymake_Stream) :=
  if (decide (high < low)) = true then some (low, s) else Option.bind (Stream_Next s (w6 ((w6 (high - low)) + 1))) fun r2 => some (w6 (low + r2.1), r2.2)
def Stream_Field.l1 (w : Int) (h : Int) (r1 : Int × spymake_Stream) (r2 : Int × spymake_Stream) (s3 : spymake_Stream × (List Bound) × Int) : Option (Step (spymake_Stream × (List Bound) × Int) (spymake_Stream × (List Bound))) :=
  if (decide (s3.2.2 < (w6 (w * h)))) = true then Option.bind (Stream_Next s3.1 5) fun r6 => if (r6.1 == 0) = true then Option.bind (Stream_Next r6.2 2000) fun r8 => Option.bind (Stream_Next r8.2 (w6 (r2.1 + 1))) fun r9 => Option.bind (Stream_Next r9.2 (w6 (r2.1 + 1))) fun r10 => Option.bind (Stream_Next r10.2 15) fun r11 => if (r11.1 == 0) = true then if roomy (s3.2.1.length + ([Bound.mk 0 0 true] : List Bound).length) 24 = true then some (.next (r11.2, s3.2.1 ++ ([Bound.mk 0 0 true] : List Bound), w6 (s3.2.2 + 1))) else none else if roomy (s3.2.1.length + ([Bound.mk (w6 ((w6 (r1.1 + r8.1)) - r9.1)) (w6 ((w6 (r1.1 + r8.1)) + r10.1)) false] : List Bound).length) 24 = true then some (.next (r11.2, s3.2.1 ++ ([Bound.mk (w6 ((w6 (r1.1 + r8.1)) - r9.1)) (w6 ((w6 (r1.1 + r8.1)) + r10.1)) false] : List Bound), w6 (s3.2.2 + 1))) else none else Option.bind (Stream_Next r6.2 (w6 (r2.1 + 1))) fun r15 => Option.bind (Stream_Next r15.2 (w6 (r2.1 + 1))) fun r16 => Option.bind (Stream_Next r16.2 15) fun r17 => if (r17.1 == 0) = true then if roomy (s3.2.1.length + ([Bound.mk 0 0 true] : List Bound).length) 24 = true then some (.next (r17.2, s3.2.1 ++ ([Bound.mk 0 0 true] : List Bound), w6 (s3.2.2 + 1))) else none else if roomy (s3.2.1.length + ([Bound.mk (w6 (r1.1 - r15.1)) (w6 (r1.1 + r16.1)) false] : List Bound).length) 24 = true then some (.next (r17.2, s3.2.1 ++ ([Bound.mk (w6 (r1.1 - r15.1)) (w6 (r1.1 + r16.1)) false] : List Bound), w6 (s3.2.2 + 1))) else none else some (.done (s3.1, s3.2.1))
def Stream_Field (s : spymake_Stream) (w : Int) (h : Int) : Option (Cells × spymake_Stream) :=
  Option.bind (Stream_Next s 200) fun r1 => Option.bind (Stream_Range r1.2 0 30) fun r2 => Option.bind (loopF (Stream_Field.l1 w h r1 r2) (r2.2, ([] : List Bound), 0)) fun z4 : spymake_Stream × (List Bound) => some (Cells.mk w h z4.2, z4.1)
def spykeep4_StackBack.l1 (r1 : Int × spymake_Stream) (r2 : Int × spymake_Stream) (r3 : Int × spymake_Stream) (s4 : spymake_Stream × (List Cells) × Int) : Option (Step (spymake_Stream × (List Cells) × Int) (List Cells)) :=
  if (decide (s4.2.2 < r3.1)) = true then Option.bind (Stream_Field s4.1 r1.1 r2.1) fun r7 => if roomy (s4.2.1.length + ([r7.1] : List Cells).length) 40 = true then some (.next (r7.2, s4.2.1 ++ ([r7.1] : List Cells), w6 (s4.2.2 + 1))) else none else some (.done s4.2.1)
def spykeep4_StackBack (l : List Int) (out : Int) : Option Bool :=
  Option.bind (Stream_Range (spymake_Stream.mk l 0) 1 6) fun r1 => Option.bind (Stream_Range r1.2 1 6) fun r2 => Option.bind (Stream_Range r2.2 1 8) fun r3 => Option.bind (loopF (spykeep4_StackBack.l1 r1 r2 r3) (r3.2, ([] : List Cells), 0)) fun z5 : (List Cells) => Option.bind (spymake_Below out r3.1) fun r9 => Option.bind (spykeep4_added r1.1 r2.1 z5) fun r10 => if (0 : Int) ≤ r9 ∧ r9 < (z5.length : Int) then Option.bind (stack_Remove r10.1 (gt z5 r9)) fun r12 => Option.bind (slices_Clone_Cells z5) fun r13 => Option.bind (slices_Delete_Cells r13 r9 (w6 (r9 + 1))) fun r14 => Option.bind (spykeep4_added r1.1 r2.1 r14) fun r15 => Option.bind (Option.bind (spykeep4_piled) fun r17 => if (!r17) = true then some true else if (r10.2 != 0) = true then some true else if (r12.2 != 0) = true then some true else some (r15.2 != 0)) fun z16 : Bool => if z16 = true then some false else Option.bind (if (r12.1.N == (w6 (r3.1 - 1))) = true then if (r12.1.W == r15.1.W) = true then if (r12.1.H == r15.1.H) = true then Option.bind (slices_Equal_Int r12.1.Holes r15.1.Holes) fun r26 => if r26 = true then Option.bind (slices_Equal_Bound r12.1.At r15.1.At) fun r28 => some r28 else some false else some false else some false else some false) fun z22 : Bool => some z22 else none
end Lf
