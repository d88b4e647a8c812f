/- The plain functions that the program's functions compute. Conditions: as each theorem states them. -/
import Derived.Test.YtijiomgafcolhaaA4
/-! Plain functions. -/
namespace Lf
open Go Go.Abs
set_option linter.unusedVariables false
structure Bound where
  Lo : Int
  Hi : Int
  Unknown : Bool
  deriving DecidableEq
@[reducible] def Bound.tp (x : Bound) := (x.Lo, x.Hi, x.Unknown)
instance : Cl Bound := Cl.iso Bound.tp (Bound.mk (Cl.d : Int) (Cl.d : Int) (Cl.d : Bool))
structure Cells where
  W : Int
  H : Int
  At : List Bound
  deriving DecidableEq
@[reducible] def Cells.tp (x : Cells) := (x.W, x.H, x.At)
instance : Cl Cells := Cl.iso Cells.tp (Cells.mk (Cl.d : Int) (Cl.d : Int) (Cl.d : List Bound))
structure Measured where
  X : Bound
  Y : Bound
  Flux : Bound
  deriving DecidableEq
@[reducible] def Measured.tp (x : Measured) := (x.X, x.Y, x.Flux)
instance : Cl Measured := Cl.iso Measured.tp (Measured.mk (Cl.d : Bound) (Cl.d : Bound) (Cl.d : Bound))
structure Source_ where
  Peak : Int
  Parts : List Int
  deriving DecidableEq
@[reducible] def Source_.tp (x : Source_) := (x.Peak, x.Parts)
instance : Cl Source_ := Cl.iso Source_.tp (Source_.mk (Cl.d : Int) (Cl.d : List Int))
structure spymake_Stream where
  L : List Int
  at_ : Int
  deriving DecidableEq
@[reducible] def spymake_Stream.tp (x : spymake_Stream) := (x.L, x.at_)
instance : Cl spymake_Stream := Cl.iso spymake_Stream.tp (spymake_Stream.mk (Cl.d : List Int) (Cl.d : Int))
def bound_Check (b : Bound) : Option Int :=
  Option.bind (if b.Unknown = true then if (b.Lo != 0) = true then some true else some (b.Hi != 0) else some false) fun z1 : Bool => if z1 = true then some 3 else Option.bind (if (decide ((mn2 b.Lo b.Hi) < (-1152921504606846976))) = true then some true else some (decide ((mx2 b.Lo b.Hi) > 1152921504606846976))) fun z5 : Bool => if z5 = true then some 4 else if (decide (b.Lo > b.Hi)) = true then some 11 else some 0
def bound_None : Option Bound :=
  some (Bound.mk 0 0 true)
def bound_Norm (b : Bound) : Option Bound :=
  Option.bind (bound_Check b) fun r1 => if (r1 != 0) = true then Option.bind (bound_None) fun r3 => some r3 else some b
def bound_vague (a : Bound) (b : Bound) : Option Bool :=
  Option.bind (Option.bind (bound_Norm a) fun r2 => if r2.Unknown = true then some true else Option.bind (bound_Norm b) fun r4 => some r4.Unknown) fun z1 : Bool => some z1
def bound_Of (lo : Int) (hi : Int) : Option Bound :=
  Option.bind (bound_Norm (Bound.mk lo hi false)) fun r1 => some r1
def bound_Min (a : Bound) (b : Bound) : Option Bound :=
  Option.bind (bound_vague a b) fun r1 => if r1 = true then Option.bind (bound_None) fun r3 => some r3 else Option.bind (bound_Of (mn2 a.Lo b.Lo) (mn2 a.Hi b.Hi)) fun r4 => some r4
def bound_Neg (b : Bound) : Option Bound :=
  Option.bind (bound_Norm b) fun r1 => some (Bound.mk (w6 (0 - r1.Hi)) (w6 (0 - r1.Lo)) r1.Unknown)
def bound_Max (a : Bound) (b : Bound) : Option Bound :=
  Option.bind (bound_Neg a) fun r1 => Option.bind (bound_Neg b) fun r2 => Option.bind (bound_Min r1 r2) fun r3 => Option.bind (bound_Neg r3) fun r4 => some r4
def bound_Add (a : Bound) (b : Bound) : Option Bound :=
  Option.bind (bound_vague a b) fun r1 => if r1 = true then Option.bind (bound_None) fun r3 => some r3 else Option.bind (bound_Of (w6 (a.Lo + b.Lo)) (w6 (a.Hi + b.Hi))) fun r4 => some r4
def bound_Sub (a : Bound) (b : Bound) : Option Bound :=
  Option.bind (bound_Neg b) fun r1 => Option.bind (bound_Add a r1) fun r2 => some r2
def num_CeilDiv (a : Int) (b : Int) : Option Int :=
  if (decide (b < 1)) = true then some 0 else if b ≠ 0 then if (decide ((Int.tmod a b) > 0)) = true then some (w6 ((w6 (Int.tdiv a b)) + 1)) else some (w6 (Int.tdiv a b)) else none
def measure_above (b : Bound) (level : Bound) : Option (Bound × Int) :=
  if b.Unknown = true then some (b, 0) else Option.bind (bound_Sub b level) fun r2 => if (decide (r2.Hi < 0)) = true then some (Bound.mk 0 0 false, 15) else Option.bind (bound_Max r2 (Bound.mk 0 0 false)) fun r4 => some (r4, 0)
def measure_greatest.l2 (at_ : List Int) (v : List Bound) (s1 : Int × Int) (s5 : Int × Int × Int) : Option (Step (Int × Int × Int) (Int × Int)) :=
  if (decide (s5.2.2 < (v.length : Int))) = true then if (0 : Int) ≤ s5.2.2 ∧ s5.2.2 < (v.length : Int) then if (0 : Int) ≤ s5.2.2 ∧ s5.2.2 < (at_.length : Int) then if (decide ((gt at_ s5.2.2) > (gt at_ s1.2))) = true then some (.next (w6 (s5.1 + (w6 ((gt v s5.2.2).Hi * (gt at_ s5.2.2)))), w6 (s5.2.1 + (gt v s5.2.2).Hi), w6 (s5.2.2 + 1))) else some (.next (w6 (s5.1 + (w6 ((gt v s5.2.2).Lo * (gt at_ s5.2.2)))), w6 (s5.2.1 + (gt v s5.2.2).Lo), w6 (s5.2.2 + 1))) else none else none else some (.done (s5.1, s5.2.1))
def measure_greatest.l1 (at_ : List Int) (v : List Bound) (s1 : Int × Int) : Option (Step (Int × Int) Int) :=
  if (decide (s1.2 < (at_.length : Int))) = true then if (0 : Int) ≤ s1.2 ∧ s1.2 < (at_.length : Int) then Option.bind (loopF (measure_greatest.l2 at_ v s1) (0, 0, 0)) fun z6 : Int × Int => Option.bind (num_CeilDiv z6.1 z6.2) fun r11 => some (.next (mx2 s1.1 r11, w6 (s1.2 + 1))) else none else some (.done s1.1)
def measure_greatest (at_ : List Int) (v : List Bound) : Option Int :=
  Option.bind (loopF (measure_greatest.l1 at_ v) ((-4611686018427387904), 0)) fun z2 : Int => some z2
def find_Check.l1 (c : Cells) (s7 : Int) : Option (Step Int (Step Unit Int)) :=
  if (decide (s7 < (c.At.length : Int))) = true then if (0 : Int) ≤ s7 ∧ s7 < (c.At.length : Int) then Option.bind (bound_Check (gt c.At s7)) fun r11 => if (r11 != 0) = true then some (.done (.done r11)) else Option.bind (if (decide ((gt c.At s7).Lo < (-1099511627776))) = true then some true else some (decide ((gt c.At s7).Hi > 1099511627776))) fun z13 : Bool => if z13 = true then some (.done (.done 4)) else some (.next (w6 (s7 + 1))) else none else some (.done (.next ()))
def find_Check (c : Cells) : Option Int :=
  Option.bind (if (decide (c.W < 1)) = true then some true else if (decide (c.W > 32)) = true then some true else if (decide (c.H < 1)) = true then some true else if (decide (c.H > 32)) = true then some true else some ((c.At.length : Int) != (w6 (c.W * c.H)))) fun z1 : Bool => if z1 = true then some 3 else seqF (loopF (find_Check.l1 c) 0) fun z8 : Unit => some 0
def find_CheckLevel (b : Bound) : Option Int :=
  Option.bind (bound_Check b) fun r1 => if (r1 != 0) = true then some r1 else if b.Unknown = true then some 1 else Option.bind (if (decide (b.Lo < (-1099511627776))) = true then some true else some (decide (b.Hi > 1099511627776))) fun z4 : Bool => if z4 = true then some 4 else some 0
def cmp_Or.l1 (vals : List Int) (s1 : Int) : Option (Step Int (Step Unit Int)) :=
  if (decide (s1 < (vals.length : Int))) = true then if (0 : Int) ≤ s1 ∧ s1 < (vals.length : Int) then if ((gt vals s1) != 0) = true then some (.done (.done (gt vals s1))) else some (.next (w6 (s1 + 1))) else none else some (.done (.next ()))
def cmp_Or (vals : List Int) : Option Int :=
  seqF (loopF (cmp_Or.l1 vals) 0) fun z2 : Unit => some 0
def measure_Above.l2 (c : Cells) (level : Bound) (cells : List Int) (s16 : (List Bound) × Int) : Option (Step ((List Bound) × Int) (Step (List Bound) ((List Bound) × Int))) :=
  if (decide (s16.2 < (cells.length : Int))) = true then if (0 : Int) ≤ s16.2 ∧ s16.2 < (cells.length : Int) then if (0 : Int) ≤ gt cells s16.2 ∧ (gt cells s16.2) < (c.At.length : Int) then Option.bind (measure_above (gt c.At (gt cells s16.2)) level) fun r21 => if (r21.2 != 0) = true then some (.done (.done ([], r21.2))) else if roomy (s16.1.length + ([r21.1] : List Bound).length) 24 = true then some (.next (s16.1 ++ ([r21.1] : List Bound), w6 (s16.2 + 1))) else none else none else none else some (.done (.next s16.1))
def measure_Above.l1 (c : Cells) (cells : List Int) (s5 : Int) : Option (Step Int (Step Unit ((List Bound) × Int))) :=
  if (decide (s5 < (cells.length : Int))) = true then if (0 : Int) ≤ s5 ∧ s5 < (cells.length : Int) then Option.bind (if (decide ((gt cells s5) < 0)) = true then some true else some (decide ((gt cells s5) ≥ (c.At.length : Int)))) fun z9 : Bool => if z9 = true then some (.done (.done ([], 4))) else Option.bind (if (decide (s5 > 0)) = true then if (0 : Int) ≤ w6 (s5 - 1) ∧ (w6 (s5 - 1)) < (cells.length : Int) then some (decide ((gt cells s5) ≤ (gt cells (w6 (s5 - 1))))) else none else some false) fun z12 : Bool => if z12 = true then some (.done (.done ([], 11))) else some (.next (w6 (s5 + 1))) else none else some (.done (.next ()))
def measure_Above (c : Cells) (level : Bound) (cells : List Int) : Option ((List Bound) × Int) :=
  Option.bind (find_Check c) fun r1 => Option.bind (find_CheckLevel level) fun r2 => Option.bind (cmp_Or ([r1, r2] : List Int)) fun r3 => if (r3 != 0) = true then some ([], r3) else seqF (loopF (measure_Above.l1 c cells) 0) fun z6 : Unit => seqF (loopF (measure_Above.l2 c level cells) (([] : List Bound), 0)) fun z17 : (List Bound) => some (z17, 0)
def spymake_Below (x : Int) (n : Int) : Option Int :=
  if (decide (n < 1)) = true then some 0 else if n ≠ 0 then if (decide ((Int.tmod x n) < 0)) = true then some (w6 ((Int.tmod x n) + n)) else some (Int.tmod x n) else none
def measure_Mean.l2 (at_ : List Int) (s22 : (List Int) × Int) : Option (Step ((List Int) × Int) (List Int)) :=
  if (decide (s22.2 < (at_.length : Int))) = true then if (0 : Int) ≤ s22.2 ∧ s22.2 < (at_.length : Int) then if roomy (s22.1.length + ([w6 (0 - (gt at_ s22.2))] : List Int).length) 8 = true then some (.next (s22.1 ++ ([w6 (0 - (gt at_ s22.2))] : List Int), w6 (s22.2 + 1))) else none else none else some (.done s22.1)
def measure_Mean.l1 (at_ : List Int) (v : List Bound) (s3 : Bool × Bool × Int) : Option (Step (Bool × Bool × Int) (Step (Bool × Bool) (Bound × Int))) :=
  if (decide (s3.2.2 < (v.length : Int))) = true then if (0 : Int) ≤ s3.2.2 ∧ s3.2.2 < (v.length : Int) then Option.bind (bound_Check (gt v s3.2.2)) fun r7 => if (r7 != 0) = true then some (.done (.done (Bound.mk 0 0 false, r7))) else Option.bind (if (decide ((gt v s3.2.2).Lo < 0)) = true then some true else if (decide ((gt v s3.2.2).Hi > 2199023255552)) = true then some true else if (0 : Int) ≤ s3.2.2 ∧ s3.2.2 < (at_.length : Int) then if (decide ((gt at_ s3.2.2) < 0)) = true then some true else some (decide ((gt at_ s3.2.2) ≥ 8192)) else none) fun z9 : Bool => if z9 = true then some (.done (.done (Bound.mk 0 0 false, 4))) else if s3.1 = true then if s3.2.1 = true then some (.next (true, !(gt v s3.2.2).Unknown, w6 (s3.2.2 + 1))) else some (.next (true, false, w6 (s3.2.2 + 1))) else if s3.2.1 = true then some (.next (decide ((gt v s3.2.2).Lo > 0), !(gt v s3.2.2).Unknown, w6 (s3.2.2 + 1))) else some (.next (decide ((gt v s3.2.2).Lo > 0), false, w6 (s3.2.2 + 1))) else none else some (.done (.next (s3.1, s3.2.1)))
def measure_Mean (at_ : List Int) (v : List Bound) : Option (Bound × Int) :=
  if ((at_.length : Int) != (v.length : Int)) = true then some (Bound.mk 0 0 false, 3) else if (decide ((at_.length : Int) > 441)) = true then some (Bound.mk 0 0 false, 2) else seqF (loopF (measure_Mean.l1 at_ v) (false, true, 0)) fun z4 : Bool × Bool => Option.bind (if (!z4.1) = true then some true else some (!z4.2)) fun z18 : Bool => if z18 = true then Option.bind (bound_None) fun r21 => some (r21, 0) else Option.bind (loopF (measure_Mean.l2 at_) (([] : List Int), 0)) fun z23 : (List Int) => Option.bind (measure_greatest z23 v) fun r27 => Option.bind (measure_greatest at_ v) fun r28 => some (Bound.mk (w6 (0 - r27)) r28 false, 0)
def measure_unknown : Option Measured :=
  Option.bind (bound_None) fun r1 => Option.bind (bound_None) fun r2 => Option.bind (bound_None) fun r3 => some (Measured.mk r1 r2 r3)
def measure_whole (c : Cells) (i : Int) (reach : Int) : Option Bool :=
  if c.W ≠ 0 then Option.bind (if (decide ((Int.tmod i c.W) ≥ reach)) = true then if (decide ((w6 ((Int.tmod i c.W) + reach)) < c.W)) = true then if (decide ((w6 (Int.tdiv i c.W)) ≥ reach)) = true then some (decide ((w6 ((w6 (Int.tdiv i c.W)) + reach)) < c.H)) else some false else some false else some false) fun z2 : Bool => some z2 else none
def bound_SumF : List Bound → Bound → Bound
  | [], s => s
  | x :: xs, s => if ((bound_Add s x).getD s).Unknown = true then (bound_Add s x).getD s else bound_SumF xs ((bound_Add s x).getD s)
def bound_Sum (l : List Bound) : Option Bound :=
  if l.length * 24 ≤ 140737488351232 then some (bound_SumF l (Bound.mk 0 0 false)) else none
def measure_Cells.l2 (s : Source_) (w : Int) (reach : Int) (s11 : (List Int) × Int) (s15 : (List Int) × Int) : Option (Step ((List Int) × Int) (List Int)) :=
  letF (decide (s15.2 ≤ (mn2 (w6 ((Int.tmod s.Peak w) + reach)) (w6 (w - 1))))) fun v17 => if v17 = true then if roomy (s15.1.length + ([w6 ((w6 (s11.2 * w)) + s15.2)] : List Int).length) 8 = true then some (.next (s15.1 ++ ([w6 ((w6 (s11.2 * w)) + s15.2)] : List Int), w6 (s15.2 + 1))) else none else some (.done s15.1)
def measure_Cells.l1 (s : Source_) (w : Int) (h : Int) (reach : Int) (s11 : (List Int) × Int) : Option (Step ((List Int) × Int) (List Int)) :=
  letF (decide (s11.2 ≤ (mn2 (w6 ((w6 (Int.tdiv s.Peak w)) + reach)) (w6 (h - 1))))) fun v13 => if v13 = true then Option.bind (loopF (measure_Cells.l2 s w reach s11) (s11.1, mx2 (w6 ((Int.tmod s.Peak w) - reach)) 0)) fun z16 : (List Int) => some (.next (z16, w6 (s11.2 + 1))) else some (.done s11.1)
def measure_Cells (s : Source_) (w : Int) (h : Int) (reach : Int) : Option (List Int) :=
  Option.bind (if (decide (w < 1)) = true then some true else if (decide (w > 32)) = true then some true else if (decide (h < 1)) = true then some true else if (decide (h > 32)) = true then some true else if (decide (s.Peak < 0)) = true then some true else if (decide (s.Peak ≥ (w6 (w * h)))) = true then some true else if (decide (reach < 0)) = true then some true else some (decide (reach > 10))) fun z1 : Bool => if z1 = true then some [] else if w ≠ 0 then Option.bind (loopF (measure_Cells.l1 s w h reach) (([] : List Int), mx2 (w6 ((w6 (Int.tdiv s.Peak w)) - reach)) 0)) fun z12 : (List Int) => some z12 else none
def measure_window (c : Cells) (level : Bound) (s : Source_) (reach : Int) : Option ((List Int) × (List Bound) × Int) :=
  Option.bind (find_Check c) fun r1 => Option.bind (find_CheckLevel level) fun r2 => Option.bind (cmp_Or ([r1, r2] : List Int)) fun r3 => if (r3 != 0) = true then some ([], [], r3) else Option.bind (if (decide (s.Peak < 0)) = true then some true else some (decide (s.Peak ≥ (c.At.length : Int)))) fun z5 : Bool => if z5 = true then some ([], [], 4) else Option.bind (if (decide (reach < 0)) = true then some true else some (decide (reach > 10))) fun z8 : Bool => if z8 = true then some ([], [], 1) else Option.bind (measure_Cells s c.W c.H reach) fun r11 => Option.bind (measure_Above c level r11) fun r12 => some (r11, r12.1, r12.2)
def Stream_Next (s : spymake_Stream) (n : Int) : Option (Int × spymake_Stream) :=
  if ((s.L.length : Int) == 0) = true then Option.bind (spymake_Below (w6 ((w6 (s.at_ + 1)) * 7919)) n) fun r2 => some (r2, spymake_Stream.mk s.L (w6 (s.at_ + 1))) else if (s.L.length : Int) ≠ 0 then if (0 : Int) ≤ Int.tmod (w6 ((w6 (s.at_ + 1)) - 1)) (s.L.length : Int) ∧ (Int.tmod (w6 ((w6 (s.at_ + 1)) - 1)) (s.L.length : Int)) < (s.L.length : Int) then Option.bind (spymake_Below (gt s.L (Int.tmod (w6 ((w6 (s.at_ + 1)) - 1)) (s.L.length : Int))) 1073741824) fun r5 => letF (w6 (7919 + (Int.tmod (w6 ((w6 (s.at_ + 1)) - 1)) (s.L.length : Int)))) fun v6 => letF (w6 ((w6 (Int.tdiv (w6 ((w6 (s.at_ + 1)) - 1)) (s.L.length : Int))) * v6)) fun v7 => Option.bind (spymake_Below (w6 (r5 + v7)) n) fun r8 => some (r8, spymake_Stream.mk s.L (w6 (s.at_ + 1))) else none else none
def spykeep4_weighed : Option Bool :=
  Option.bind (measure_Mean ([0, 10] : List Int) ([Bound.mk 1 1 false, Bound.mk 1 3 false] : List Bound)) fun r1 => Option.bind (if (r1.2 == 0) = true then some ((r1.1.Lo == 5) && ((r1.1.Hi == 8) && ((r1.1.Unknown == false) && (true)))) else some false) fun z2 : Bool => some z2
def measure_Measure.l1 (c : Cells) (r1 : (List Int) × (List Bound) × Int) (s9 : (List Int) × (List Int) × Int) : Option (Step ((List Int) × (List Int) × Int) ((List Int) × (List Int))) :=
  if (decide (s9.2.2 < (r1.1.length : Int))) = true then if (0 : Int) ≤ s9.2.2 ∧ s9.2.2 < (r1.1.length : Int) then if c.W ≠ 0 then if roomy (s9.1.length + ([w6 ((w6 ((Int.tmod (gt r1.1 s9.2.2) c.W) * 256)) + 128)] : List Int).length) 8 = true then if roomy (s9.2.1.length + ([w6 ((w6 ((w6 (Int.tdiv (gt r1.1 s9.2.2) c.W)) * 256)) + 128)] : List Int).length) 8 = true then some (.next (s9.1 ++ ([w6 ((w6 ((Int.tmod (gt r1.1 s9.2.2) c.W) * 256)) + 128)] : List Int), s9.2.1 ++ ([w6 ((w6 ((w6 (Int.tdiv (gt r1.1 s9.2.2) c.W)) * 256)) + 128)] : List Int), w6 (s9.2.2 + 1))) else none else none else none else none else some (.done (s9.1, s9.2.1))
def measure_Measure (c : Cells) (level : Bound) (s : Source_) (reach : Int) : Option (Measured × Int) :=
  Option.bind (measure_window c level s reach) fun r1 => if (r1.2.2 != 0) = true then some (Measured.mk (Bound.mk 0 0 false) (Bound.mk 0 0 false) (Bound.mk 0 0 false), r1.2.2) else Option.bind (bound_Sum r1.2.1) fun r3 => Option.bind (if r3.Unknown = true then some true else Option.bind (measure_whole c s.Peak reach) fun r6 => some (!r6)) fun z4 : Bool => if z4 = true then Option.bind (measure_unknown) fun r8 => some (r8, 0) else Option.bind (loopF (measure_Measure.l1 c r1) (([] : List Int), ([] : List Int), 0)) fun z10 : (List Int) × (List Int) => Option.bind (measure_Mean z10.1 r1.2.1) fun r16 => Option.bind (measure_Mean z10.2 r1.2.1) fun r17 => some (Measured.mk r16.1 r17.1 r3, 0)
def Stream_Level (s : spymake_Stream) (back : Int) : Option (Bound × spymake_Stream) :=
  Option.bind (Stream_Next s 6) fun r1 => Option.bind (Stream_Next r1.2 6) fun r2 => some (Bound.mk (w6 (back - r1.1)) (w6 (back + r2.1)) false, r2.2)
def Stream_Veil.l1 (light : List Int) (holes : Bool) (r1 : Int × spymake_Stream) (s3 : spymake_Stream × (List Bound) × Int) : Option (Step (spymake_Stream × (List Bound) × Int) (spymake_Stream × (List Bound))) :=
  if (decide (s3.2.2 < (light.length : Int))) = true then if (0 : Int) ≤ s3.2.2 ∧ s3.2.2 < (light.length : Int) then Option.bind (Stream_Next s3.1 (w6 ((gt ([0, 3, 30, 200] : List Int) r1.1) + 1))) fun r7 => Option.bind (Stream_Next r7.2 (w6 ((gt ([0, 3, 30, 200] : List Int) r1.1) + 1))) fun r8 => Option.bind (if holes = true then Option.bind (Stream_Next r8.2 9) fun r11 => some (r11.2, r11.1 == 0) else some (r8.2, false)) fun z9 : spymake_Stream × Bool => if z9.2 = true then if roomy (s3.2.1.length + ([Bound.mk 0 0 true] : List Bound).length) 24 = true then some (.next (z9.1, s3.2.1 ++ ([Bound.mk 0 0 true] : List Bound), w6 (s3.2.2 + 1))) else none else if roomy (s3.2.1.length + ([Bound.mk (w6 ((gt light s3.2.2) - r7.1)) (w6 ((gt light s3.2.2) + r8.1)) false] : List Bound).length) 24 = true then some (.next (z9.1, s3.2.1 ++ ([Bound.mk (w6 ((gt light s3.2.2) - r7.1)) (w6 ((gt light s3.2.2) + r8.1)) false] : List Bound), w6 (s3.2.2 + 1))) else none else none else some (.done (s3.1, s3.2.1))
def Stream_Veil (s : spymake_Stream) (w : Int) (h : Int) (light : List Int) (holes : Bool) : Option (Cells × spymake_Stream) :=
  Option.bind (Stream_Next s 4) fun r1 => if (0 : Int) ≤ r1.1 ∧ r1.1 < (([0, 3, 30, 200] : List Int).length : Int) then Option.bind (loopF (Stream_Veil.l1 light holes r1) (r1.2, ([] : List Bound), 0)) fun z4 : spymake_Stream × (List Bound) => some (Cells.mk w h z4.2, z4.1) else none
def Stream_Range (s : spymake_Stream) (low : Int) (high : Int) : Option (Int × spymake_Stream) :=
  if (decide (high < low)) = true then some (low, s) else Option.bind (Stream_Next s (w6 ((w6 (high - low)) + 1))) fun r2 => some (w6 (low + r2.1), r2.2)
def Stream_Lights.l3 (w : Int) (s8 : spymake_Stream × (List Int) × Int) (r11 : Int × spymake_Stream) (r12 : Int × spymake_Stream) (r13 : Int × spymake_Stream) (r16 : Int × spymake_Stream) (s17 : (List Int) × Int) : Option (Step ((List Int) × Int) (List Int)) :=
  if (decide (s17.2 < (s8.2.1.length : Int))) = true then Option.bind (if w ≠ 0 then letF (mx2 (w6 ((Int.tmod s17.2 w) - r11.1)) (w6 (r11.1 - (Int.tmod s17.2 w)))) fun v22 => letF (mx2 (w6 ((w6 (Int.tdiv s17.2 w)) - r12.1)) (w6 (r12.1 - (w6 (Int.tdiv s17.2 w))))) fun v23 => Option.bind (if (decide (v22 ≤ r13.1)) = true then some (decide (v23 ≤ r13.1)) else some false) fun z24 : Bool => if z24 = true then if (0 : Int) ≤ s17.2 ∧ s17.2 < (s17.1.length : Int) then letF (w6 ((w6 (r16.1 * (w6 ((w6 (r13.1 + 1)) - v22)))) * (w6 ((w6 (r13.1 + 1)) - v23)))) fun v28 => if (w6 ((w6 (r13.1 + 1)) * (w6 (r13.1 + 1)))) ≠ 0 then letF (w6 ((gt s17.1 s17.2) + (w6 (Int.tdiv v28 (w6 ((w6 (r13.1 + 1)) * (w6 (r13.1 + 1)))))))) fun v30 => some (List.set s17.1 s17.2.toNat v30) else none else none else some s17.1 else none) fun z20 : (List Int) => some (.next (z20, w6 (s17.2 + 1))) else some (.done s17.1)
def Stream_Lights.l2 (w : Int) (h : Int) (points : Int) (s8 : spymake_Stream × (List Int) × Int) : Option (Step (spymake_Stream × (List Int) × Int) (spymake_Stream × (List Int))) :=
  if (decide (s8.2.2 < points)) = true then Option.bind (Stream_Next s8.1 w) fun r11 => Option.bind (Stream_Next r11.2 h) fun r12 => Option.bind (Stream_Range r12.2 1 3) fun r13 => Option.bind (Stream_Next r13.2 3) fun r14 => if (0 : Int) ≤ r14.1 ∧ r14.1 < (([30, 400, 5000] : List Int).length : Int) then Option.bind (Stream_Next r14.2 (gt ([30, 400, 5000] : List Int) r14.1)) fun r16 => Option.bind (loopF (Stream_Lights.l3 w s8 r11 r12 r13 r16) (s8.2.1, 0)) fun z18 : (List Int) => some (.next (r16.2, z18, w6 (s8.2.2 + 1))) else none else some (.done (s8.1, s8.2.1))
def Stream_Lights.l1 (w : Int) (h : Int) (r1 : Int × spymake_Stream) (s3 : (List Int) × Int) : Option (Step ((List Int) × Int) (List Int)) :=
  letF (decide (s3.2 < ((List.replicate (w6 (w * h)).toNat (0 : Int)).length : Int))) fun v5 => if v5 = true then if (0 : Int) ≤ s3.2 ∧ s3.2 < (s3.1.length : Int) then some (.next (List.set s3.1 s3.2.toNat r1.1, w6 (s3.2 + 1))) else none else some (.done s3.1)
def Stream_Lights (s : spymake_Stream) (w : Int) (h : Int) (points : Int) : Option ((List Int) × Int × spymake_Stream) :=
  Option.bind (Stream_Next s 40) fun r1 => if (0 : Int) ≤ w6 (w * h) ∧ (w6 (w * h)) ≤ w6 (w * h) ∧ roomy (w6 (w * h)).toNat 8 = true then Option.bind (loopF (Stream_Lights.l1 w h r1) (List.replicate (w6 (w * h)).toNat (0 : Int), 0)) fun z4 : (List Int) => Option.bind (loopF (Stream_Lights.l2 w h points) (r1.2, z4, 0)) fun z9 : spymake_Stream × (List Int) => some (z9.2, r1.1, z9.1) else none
def spykeep4_MeasureTrue_1 (b : Bound) (at_ : Int) (p2 : Int) : Option Bool :=
  Option.bind (if b.Unknown = true then some true else if (decide ((w6 (b.Lo * p2)) ≤ at_)) = true then some (decide (at_ ≤ (w6 (b.Hi * p2)))) else some false) fun z1 : Bool => some z1
def spykeep4_MeasureTrue.l1 (r2 : Int × spymake_Stream) (r5 : (List Int) × Int × spymake_Stream) (r11 : (List Int)) (s18 : Int × Int × Int × Int) : Option (Step (Int × Int × Int × Int) (Step (Int × Int × Int) Bool)) :=
  if (decide (s18.2.2.2 < (r11.length : Int))) = true then if (0 : Int) ≤ s18.2.2.2 ∧ s18.2.2.2 < (r11.length : Int) then Option.bind (if (decide ((gt r11 s18.2.2.2) < 0)) = true then some true else some (decide ((gt r11 s18.2.2.2) ≥ (r5.1.length : Int)))) fun z22 : Bool => if z22 = true then some (.done (.done false)) else if (0 : Int) ≤ gt r11 s18.2.2.2 ∧ (gt r11 s18.2.2.2) < (r5.1.length : Int) then if r2.1 ≠ 0 then letF (w6 ((w6 ((gt r5.1 (gt r11 s18.2.2.2)) - r5.2.1)) * (w6 ((w6 ((Int.tmod (gt r11 s18.2.2.2) r2.1) * 256)) + 128)))) fun v27 => letF (w6 ((w6 ((w6 (Int.tdiv (gt r11 s18.2.2.2) r2.1)) * 256)) + 128)) fun v28 => letF (w6 (s18.2.2.1 + (w6 ((w6 ((gt r5.1 (gt r11 s18.2.2.2)) - r5.2.1)) * v28)))) fun v29 => some (.next (w6 (s18.1 + (w6 ((gt r5.1 (gt r11 s18.2.2.2)) - r5.2.1))), w6 (s18.2.1 + v27), v29, w6 (s18.2.2.2 + 1))) else none else none else none else some (.done (.next (s18.1, s18.2.1, s18.2.2.1)))
def spykeep4_MeasureTrue (l : List Int) : Option Bool :=
  Option.bind (Stream_Range (spymake_Stream.mk l 0) 0 3) fun r1 => Option.bind (Stream_Range r1.2 (w6 ((w6 (2 * r1.1)) + 1)) 9) fun r2 => Option.bind (Stream_Range r2.2 (w6 ((w6 (2 * r1.1)) + 1)) 9) fun r3 => Option.bind (Stream_Range r3.2 1 3) fun r4 => Option.bind (Stream_Lights r4.2 r2.1 r3.1 r4.1) fun r5 => Option.bind (Stream_Veil r5.2.2 r2.1 r3.1 r5.1 false) fun r6 => Option.bind (Stream_Level r6.2 r5.2.1) fun r7 => Option.bind (Stream_Range r7.2 r1.1 (w6 ((w6 (r3.1 - 1)) - r1.1))) fun r8 => Option.bind (Stream_Range r8.2 r1.1 (w6 ((w6 (r2.1 - 1)) - r1.1))) fun r9 => Option.bind (measure_Measure r6.1 (Bound.mk (mn2 r7.1.Lo r5.2.1) (mx2 r7.1.Hi r5.2.1) r7.1.Unknown) (Source_.mk (w6 ((w6 (r8.1 * r2.1)) + r9.1)) []) r1.1) fun r10 => Option.bind (measure_Cells (Source_.mk (w6 ((w6 (r8.1 * r2.1)) + r9.1)) []) r2.1 r3.1 r1.1) fun r11 => Option.bind (Option.bind (spykeep4_weighed) fun r13 => if (!r13) = true then some true else if (r10.2 != 0) = true then some true else letF ((r11.length : Int) != (w6 ((w6 ((w6 (2 * r1.1)) + 1)) * (w6 ((w6 (2 * r1.1)) + 1))))) fun v16 => some v16) fun z12 : Bool => if z12 = true then some false else seqF (loopF (spykeep4_MeasureTrue.l1 r2 r5 r11) (0, 0, 0, 0)) fun z19 : Int × Int × Int => Option.bind (if (!r10.1.Flux.Unknown) = true then if (decide (r10.1.Flux.Lo ≤ z19.1)) = true then if (decide (z19.1 ≤ r10.1.Flux.Hi)) = true then Option.bind (spykeep4_MeasureTrue_1 r10.1.X z19.2.1 z19.1) fun r34 => if r34 = true then Option.bind (spykeep4_MeasureTrue_1 r10.1.Y z19.2.2 z19.1) fun r36 => some r36 else some false else some false else some false else some false) fun z30 : Bool => some z30
end Lf
