/- The plain functions that the program's functions compute. Conditions: as each theorem states them. -/
import Derived.Test.YtojlcejbgkjhmaaA4
import Derived.Shelf.SlSortCmp.Insertion
import Derived.Sort.AssemblyPlain
/-! Plain functions. -/
namespace Lf
open Go Go.Abs
set_option linter.unusedVariables false
structure Vec where
  X : Int
  Y : Int
  Z : Int
  deriving DecidableEq
@[reducible] def Vec.tp (x : Vec) := (x.X, x.Y, x.Z)
instance : Cl Vec := Cl.iso Vec.tp (Vec.mk (Cl.d : Int) (Cl.d : Int) (Cl.d : Int))
structure Body where
  ID : Int
  Was : Vec
  Here : Vec
  Rate : Int
  deriving DecidableEq
@[reducible] def Body.tp (x : Body) := (x.ID, x.Was, x.Here, x.Rate)
instance : Cl Body := Cl.iso Body.tp (Body.mk (Cl.d : Int) (Cl.d : Vec) (Cl.d : Vec) (Cl.d : Int))
structure Galaxy where
  ID : Int
  At : Vec
  Rate : Int
  Wide : Int
  High : Int
  deriving DecidableEq
@[reducible] def Galaxy.tp (x : Galaxy) := (x.ID, x.At, x.Rate, x.Wide, x.High)
instance : Cl Galaxy := Cl.iso Galaxy.tp (Galaxy.mk (Cl.d : Int) (Cl.d : Vec) (Cl.d : Int) (Cl.d : Int) (Cl.d : Int))
structure Star where
  ID : Int
  At : Vec
  Rate : Int
  Wave : List Int
  Period : Int
  From : Int
  To : Int
  deriving DecidableEq
@[reducible] def Star.tp (x : Star) := (x.ID, x.At, x.Rate, x.Wave, x.Period, x.From, x.To)
instance : Cl Star := Cl.iso Star.tp (Star.mk (Cl.d : Int) (Cl.d : Vec) (Cl.d : Int) (Cl.d : List Int) (Cl.d : Int) (Cl.d : Int) (Cl.d : Int))
structure Bound where
  Lo : Int
  Hi : Int
  Unknown : Bool
  deriving DecidableEq
@[reducible] def Bound.tp (x : Bound) := (x.Lo, x.Hi, x.Unknown)
instance : Cl Bound := Cl.iso Bound.tp (Bound.mk (Cl.d : Int) (Cl.d : Int) (Cl.d : Bool))
structure Sky where
  Back : Int
  Stars : List Star
  Galaxies : List Galaxy
  Bodies : List Body
  Home : Body
  deriving DecidableEq
@[reducible] def Sky.tp (x : Sky) := (x.Back, x.Stars, x.Galaxies, x.Bodies, x.Home)
instance : Cl Sky := Cl.iso Sky.tp (Sky.mk (Cl.d : Int) (Cl.d : List Star) (Cl.d : List Galaxy) (Cl.d : List Body) (Cl.d : Body))
structure curve_Sample where
  At : Bound
  Light : Bound
  deriving DecidableEq
@[reducible] def curve_Sample.tp (x : curve_Sample) := (x.At, x.Light)
instance : Cl curve_Sample := Cl.iso curve_Sample.tp (curve_Sample.mk (Cl.d : Bound) (Cl.d : Bound))
structure period_Ask where
  Phases : Int
  Least : Int
  Most : Int
  Step : Int
  deriving DecidableEq
@[reducible] def period_Ask.tp (x : period_Ask) := (x.Phases, x.Least, x.Most, x.Step)
instance : Cl period_Ask := Cl.iso period_Ask.tp (period_Ask.mk (Cl.d : Int) (Cl.d : Int) (Cl.d : Int) (Cl.d : Int))
structure spymake_Stream where
  L : List Int
  at_ : Int
  deriving DecidableEq
@[reducible] def spymake_Stream.tp (x : spymake_Stream) := (x.L, x.at_)
instance : Cl spymake_Stream := Cl.iso spymake_Stream.tp (spymake_Stream.mk (Cl.d : List Int) (Cl.d : Int))
def tab1 : List UInt8 := [0, 1, 2, 2, 3, 3, 3, 3, 4, 4, 4, 4, 4, 4, 4, 4, 5, 5, 5, 5, 5, 5, 5, 5, 5, 5, 5, 5, 5, 5, 5, 5, 6, 6, 6, 6, 6, 6, 6, 6, 6, 6, 6, 6, 6, 6, 6, 6, 6, 6, 6, 6, 6, 6, 6, 6, 6, 6, 6, 6, 6, 6, 6, 6, 7, 7, 7, 7, 7, 7, 7, 7, 7, 7, 7, 7, 7, 7, 7, 7, 7, 7, 7, 7, 7, 7, 7, 7, 7, 7, 7, 7, 7, 7, 7, 7, 7, 7, 7, 7, 7, 7, 7, 7, 7, 7, 7, 7, 7, 7, 7, 7, 7, 7, 7, 7, 7, 7, 7, 7, 7, 7, 7, 7, 7, 7, 7, 7, 8, 8, 8, 8, 8, 8, 8, 8, 8, 8, 8, 8, 8, 8, 8, 8, 8, 8, 8, 8, 8, 8, 8, 8, 8, 8, 8, 8, 8, 8, 8, 8, 8, 8, 8, 8, 8, 8, 8, 8, 8, 8, 8, 8, 8, 8, 8, 8, 8, 8, 8, 8, 8, 8, 8, 8, 8, 8, 8, 8, 8, 8, 8, 8, 8, 8, 8, 8, 8, 8, 8, 8, 8, 8, 8, 8, 8, 8, 8, 8, 8, 8, 8, 8, 8, 8, 8, 8, 8, 8, 8, 8, 8, 8, 8, 8, 8, 8, 8, 8, 8, 8, 8, 8, 8, 8, 8, 8, 8, 8, 8, 8, 8, 8, 8, 8, 8, 8, 8, 8, 8, 8, 8, 8, 8, 8, 8, 8]
def sky_within.l1 (v : Vec) (most : Int) (s1 : Int) : Option (Step Int (Step Unit Bool)) :=
  if (decide (s1 < 3)) = true then if (0 : Int) ≤ s1 ∧ s1 < (([v.X, v.Y, v.Z] : List Int).length : Int) then Option.bind (letF (decide ((gt ([v.X, v.Y, v.Z] : List Int) s1) < (w6 (0 - most)))) fun v6 => if v6 = true then some true else some (decide ((gt ([v.X, v.Y, v.Z] : List Int) s1) > most))) fun z5 : Bool => if z5 = true then some (.done (.done false)) else some (.next (w6 (s1 + 1))) else none else some (.done (.next ()))
def sky_within (v : Vec) (most : Int) : Option Bool :=
  seqF (loopF (sky_within.l1 v most) 0) fun z2 : Unit => some true
def sphere_Check (v : Vec) : Option Int :=
  Option.bind (if (decide ((mx2 (mx2 v.X v.Y) v.Z) > 1048576)) = true then some true else some (decide ((mn2 (mn2 v.X v.Y) v.Z) < (-1048576)))) fun z1 : Bool => if z1 = true then some 4 else if ((v.X == 0) && ((v.Y == 0) && ((v.Z == 0) && (true)))) = true then some 8 else some 0
def num_Mod (a : Int) (b : Int) : Option Int :=
  if (decide (b < 1)) = true then some 0 else if b ≠ 0 then if (decide ((Int.tmod a b) < 0)) = true then some (w6 ((Int.tmod a b) + b)) else some (Int.tmod a b) else none
def num_FloorDiv (a : Int) (b : Int) : Option Int :=
  if (decide (b < 1)) = true then some 0 else if b ≠ 0 then if (decide ((Int.tmod a b) < 0)) = true then some (w6 ((w6 (Int.tdiv a b)) - 1)) else some (w6 (Int.tdiv a b)) else none
def cmp_isNaN (x : Int) : Option Bool :=
  some (x != x)
def xorshift_Next (r_ : NU64) : Option (NU64 × NU64) :=
  letF (IntKind.wrap .u64 ((BitVec.ofInt 64 r_.n ^^^ BitVec.ofInt 64 (IntKind.wrap .u64 (r_.n * 2 ^ 13))).toNat : Int)) fun v1 => letF (IntKind.wrap .u64 ((BitVec.ofInt 64 v1 ^^^ BitVec.ofInt 64 (Int.fdiv v1 (2 ^ 7))).toNat : Int)) fun v2 => letF (IntKind.wrap .u64 ((BitVec.ofInt 64 v2 ^^^ BitVec.ofInt 64 (IntKind.wrap .u64 (v2 * 2 ^ 17))).toNat : Int)) fun v3 => some (NU64.mk v3, NU64.mk v3)
def bits_Len64 (x : Int) : Option Int :=
  if (decide (x ≥ 4294967296)) = true then if (decide ((Int.fdiv x (2 ^ 32)) ≥ 65536)) = true then if (decide ((Int.fdiv (Int.fdiv x (2 ^ 32)) (2 ^ 16)) ≥ 256)) = true then if (0 : Int) ≤ IntKind.wrap .u8 (Int.fdiv (Int.fdiv (Int.fdiv x (2 ^ 32)) (2 ^ 16)) (2 ^ 8)) ∧ (IntKind.wrap .u8 (Int.fdiv (Int.fdiv (Int.fdiv x (2 ^ 32)) (2 ^ 16)) (2 ^ 8))).toNat < tab1.length then letF (w6 ((w6 ((w6 (32 + 16)) + 8)) + (w6 (tabAt tab1 (IntKind.wrap .u8 (Int.fdiv (Int.fdiv (Int.fdiv x (2 ^ 32)) (2 ^ 16)) (2 ^ 8))))))) fun v5 => some v5 else none else if (0 : Int) ≤ IntKind.wrap .u8 (Int.fdiv (Int.fdiv x (2 ^ 32)) (2 ^ 16)) ∧ (IntKind.wrap .u8 (Int.fdiv (Int.fdiv x (2 ^ 32)) (2 ^ 16))).toNat < tab1.length then letF (w6 ((w6 (32 + 16)) + (w6 (tabAt tab1 (IntKind.wrap .u8 (Int.fdiv (Int.fdiv x (2 ^ 32)) (2 ^ 16))))))) fun v7 => some v7 else none else if (decide ((Int.fdiv x (2 ^ 32)) ≥ 256)) = true then if (0 : Int) ≤ IntKind.wrap .u8 (Int.fdiv (Int.fdiv x (2 ^ 32)) (2 ^ 8)) ∧ (IntKind.wrap .u8 (Int.fdiv (Int.fdiv x (2 ^ 32)) (2 ^ 8))).toNat < tab1.length then letF (w6 ((w6 (32 + 8)) + (w6 (tabAt tab1 (IntKind.wrap .u8 (Int.fdiv (Int.fdiv x (2 ^ 32)) (2 ^ 8))))))) fun v10 => some v10 else none else if (0 : Int) ≤ IntKind.wrap .u8 (Int.fdiv x (2 ^ 32)) ∧ (IntKind.wrap .u8 (Int.fdiv x (2 ^ 32))).toNat < tab1.length then letF (w6 (32 + (w6 (tabAt tab1 (IntKind.wrap .u8 (Int.fdiv x (2 ^ 32))))))) fun v12 => some v12 else none else if (decide (x ≥ 65536)) = true then if (decide ((Int.fdiv x (2 ^ 16)) ≥ 256)) = true then if (0 : Int) ≤ IntKind.wrap .u8 (Int.fdiv (Int.fdiv x (2 ^ 16)) (2 ^ 8)) ∧ (IntKind.wrap .u8 (Int.fdiv (Int.fdiv x (2 ^ 16)) (2 ^ 8))).toNat < tab1.length then letF (w6 ((w6 ((w6 (0 + 16)) + 8)) + (w6 (tabAt tab1 (IntKind.wrap .u8 (Int.fdiv (Int.fdiv x (2 ^ 16)) (2 ^ 8))))))) fun v16 => some v16 else none else if (0 : Int) ≤ IntKind.wrap .u8 (Int.fdiv x (2 ^ 16)) ∧ (IntKind.wrap .u8 (Int.fdiv x (2 ^ 16))).toNat < tab1.length then letF (w6 ((w6 (0 + 16)) + (w6 (tabAt tab1 (IntKind.wrap .u8 (Int.fdiv x (2 ^ 16))))))) fun v18 => some v18 else none else if (decide (x ≥ 256)) = true then if (0 : Int) ≤ IntKind.wrap .u8 (Int.fdiv x (2 ^ 8)) ∧ (IntKind.wrap .u8 (Int.fdiv x (2 ^ 8))).toNat < tab1.length then letF (w6 ((w6 (0 + 8)) + (w6 (tabAt tab1 (IntKind.wrap .u8 (Int.fdiv x (2 ^ 8))))))) fun v21 => some v21 else none else if (0 : Int) ≤ IntKind.wrap .u8 x ∧ (IntKind.wrap .u8 x).toNat < tab1.length then some (w6 (0 + (w6 (tabAt tab1 (IntKind.wrap .u8 x))))) else none
def bits_Len (x : Int) : Option Int :=
  Option.bind (bits_Len64 x) fun r1 => some r1
def slices_nextPowerOfTwo (length : Int) : Option NU64 :=
  Option.bind (bits_Len (IntKind.wrap .u64 length)) fun r1 => if (0 : Int) ≤ r1 then letF (IntKind.wrap .u64 (1 * 2 ^ (min r1.toNat (IntKind.bits .u64)))) fun v3 => some (NU64.mk v3) else none
def sky_moves (b : Body) : Option Bool :=
  Option.bind (Option.bind (sky_within b.Was 4194304) fun r2 => if r2 = true then Option.bind (sky_within b.Here 4194304) fun r4 => some r4 else some false) fun z1 : Bool => some z1
def sky_galaxy.l1 (g : Galaxy) (s3 : Int) : Option (Step Int (Step Unit Int)) :=
  if (decide (s3 < 2)) = true then if (0 : Int) ≤ s3 ∧ s3 < (([g.Wide, g.High] : List Int).length : Int) then Option.bind (if ((gt ([g.Wide, g.High] : List Int) s3) != 1) = true then if ((gt ([g.Wide, g.High] : List Int) s3) != 2) = true then some ((gt ([g.Wide, g.High] : List Int) s3) != 4) else some false else some false) fun z7 : Bool => if z7 = true then some (.done (.done 4)) else some (.next (w6 (s3 + 1))) else none else some (.done (.next ()))
def sky_galaxy (g : Galaxy) : Option Int :=
  Option.bind (sphere_Check g.At) fun r1 => if (r1 != 0) = true then some r1 else seqF (loopF (sky_galaxy.l1 g) 0) fun z4 : Unit => some 0
def sky_star_1 (q : Int) (p1 : Star) : Option Bool :=
  Option.bind (if (decide (q < 0)) = true then some true else some (decide (q > (w6 (1048576 - p1.Rate))))) fun z1 : Bool => some z1
def slices_IndexFunc_Int_sky_star_1.l1 (s : List Int) (fc0 : Star) (s1 : Int) : Option (Step Int (Step Unit Int)) :=
  if (decide (s1 < (s.length : Int))) = true then if (0 : Int) ≤ s1 ∧ s1 < (s.length : Int) then Option.bind (sky_star_1 (gt s s1) fc0) fun r5 => if r5 = true then some (.done (.done s1)) else some (.next (w6 (s1 + 1))) else none else some (.done (.next ()))
def slices_IndexFunc_Int_sky_star_1 (s : List Int) (fc0 : Star) : Option Int :=
  seqF (loopF (slices_IndexFunc_Int_sky_star_1.l1 s fc0) 0) fun z2 : Unit => some (-1)
def slices_ContainsFunc_Int_sky_star_1 (s : List Int) (fc0 : Star) : Option Bool :=
  Option.bind (slices_IndexFunc_Int_sky_star_1 s fc0) fun r1 => some (decide (r1 ≥ 0))
def sky_star (s : Star) : Option Int :=
  Option.bind (sphere_Check s.At) fun r1 => if (r1 != 0) = true then some r1 else if (decide ((s.Wave.length : Int) > 16)) = true then some 2 else Option.bind (if ((s.Wave.length : Int) == 0) = true then some (s.Period != 0) else some false) fun z4 : Bool => if z4 = true then some 3 else Option.bind (if (decide ((s.Wave.length : Int) > 0)) = true then if (decide (s.Period < 1)) = true then some true else if (decide (s.Period > 17592186044416)) = true then some true else if (s.Wave.length : Int) ≠ 0 then some ((Int.tmod s.Period (s.Wave.length : Int)) != 0) else none else some false) fun z7 : Bool => if z7 = true then some 4 else Option.bind (slices_ContainsFunc_Int_sky_star_1 s.Wave s) fun r13 => if r13 = true then some 4 else Option.bind (if (decide ((mn2 s.From s.To) < (-17592186044416))) = true then some true else some (decide ((mx2 s.From s.To) > 17592186044416))) fun z15 : Bool => if z15 = true then some 4 else if (decide (s.From > s.To)) = true then some 11 else some 0
def bound_Check (b : Bound) : Option Int :=
  Option.bind (if b.Unknown = true then if (b.Lo != 0) = true then some true else some (b.Hi != 0) else some false) fun z1 : Bool => if z1 = true then some 3 else Option.bind (if (decide ((mn2 b.Lo b.Hi) < (-1152921504606846976))) = true then some true else some (decide ((mx2 b.Lo b.Hi) > 1152921504606846976))) fun z5 : Bool => if z5 = true then some 4 else if (decide (b.Lo > b.Hi)) = true then some 11 else some 0
def bound_None : Option Bound :=
  some (Bound.mk 0 0 true)
def bound_Norm (b : Bound) : Option Bound :=
  Option.bind (bound_Check b) fun r1 => if (r1 != 0) = true then Option.bind (bound_None) fun r3 => some r3 else some b
def bound_Of (lo : Int) (hi : Int) : Option Bound :=
  Option.bind (bound_Norm (Bound.mk lo hi false)) fun r1 => some r1
def curve_Phase (t : Bound) (period : Int) (phases : Int) : Option (Int × Bool) :=
  Option.bind (Option.bind (bound_Check t) fun r2 => if (r2 != 0) = true then some true else if t.Unknown = true then some true else if (decide (phases < 1)) = true then some true else if (decide (phases > 16)) = true then some true else if (decide (period < 1)) = true then some true else if phases ≠ 0 then some ((Int.tmod period phases) != 0) else none) fun z1 : Bool => if z1 = true then some (0, false) else if phases ≠ 0 then Option.bind (num_FloorDiv t.Lo (w6 (Int.tdiv period phases))) fun r11 => Option.bind (num_FloorDiv t.Hi (w6 (Int.tdiv period phases))) fun r12 => Option.bind (if (r11 != r12) = true then some (decide (phases > 1)) else some false) fun z13 : Bool => if z13 = true then some (0, false) else Option.bind (num_Mod r11 phases) fun r16 => some (r16, true) else none
def cmp_Or.l1 (vals : List Int) (s1 : Int) : Option (Step Int (Step Unit Int)) :=
  if (decide (s1 < (vals.length : Int))) = true then if (0 : Int) ≤ s1 ∧ s1 < (vals.length : Int) then if ((gt vals s1) != 0) = true then some (.done (.done (gt vals s1))) else some (.next (w6 (s1 + 1))) else none else some (.done (.next ()))
def cmp_Or (vals : List Int) : Option Int :=
  seqF (loopF (cmp_Or.l1 vals) 0) fun z2 : Unit => some 0
def cmp_Compare (x : Int) (y : Int) : Option Int :=
  Option.bind (cmp_isNaN x) fun r1 => Option.bind (cmp_isNaN y) fun r2 => if r1 = true then if r2 = true then some 0 else some (-1) else if r2 = true then some 1 else if (decide (x < y)) = true then some (-1) else if (decide (x > y)) = true then some 1 else some 0
def bits_Len32 (x : Int) : Option Int :=
  if (decide (x ≥ 65536)) = true then if (decide ((Int.fdiv x (2 ^ 16)) ≥ 256)) = true then if (0 : Int) ≤ IntKind.wrap .u8 (Int.fdiv (Int.fdiv x (2 ^ 16)) (2 ^ 8)) ∧ (IntKind.wrap .u8 (Int.fdiv (Int.fdiv x (2 ^ 16)) (2 ^ 8))).toNat < tab1.length then letF (w6 ((w6 (16 + 8)) + (w6 (tabAt tab1 (IntKind.wrap .u8 (Int.fdiv (Int.fdiv x (2 ^ 16)) (2 ^ 8))))))) fun v4 => some v4 else none else if (0 : Int) ≤ IntKind.wrap .u8 (Int.fdiv x (2 ^ 16)) ∧ (IntKind.wrap .u8 (Int.fdiv x (2 ^ 16))).toNat < tab1.length then letF (w6 (16 + (w6 (tabAt tab1 (IntKind.wrap .u8 (Int.fdiv x (2 ^ 16))))))) fun v6 => some v6 else none else if (decide (x ≥ 256)) = true then if (0 : Int) ≤ IntKind.wrap .u8 (Int.fdiv x (2 ^ 8)) ∧ (IntKind.wrap .u8 (Int.fdiv x (2 ^ 8))).toNat < tab1.length then letF (w6 ((w6 (0 + 8)) + (w6 (tabAt tab1 (IntKind.wrap .u8 (Int.fdiv x (2 ^ 8))))))) fun v9 => some v9 else none else if (0 : Int) ≤ IntKind.wrap .u8 x ∧ (IntKind.wrap .u8 x).toNat < tab1.length then some (w6 (0 + (w6 (tabAt tab1 (IntKind.wrap .u8 x))))) else none
def sky_Check (s : Sky) : Option Int :=
  match s with
  | ⟨back, [x], [], [], home⟩ => if back = 0 ∧ home = Body.mk 0 (Vec.mk 0 0 0) (Vec.mk 0 0 0) 0 ∧ 1 ≤ x.ID ∧ x.ID ≤ 1073741824 ∧ 0 ≤ x.Rate ∧ x.Rate ≤ 1048576 then sky_star x else none
  | _ => none
def bound_Meet (a : Bound) (b : Bound) : Option (Bound × Bool) :=
  Option.bind (bound_Norm a) fun r1 => Option.bind (bound_Norm b) fun r2 => if r1.Unknown = true then some (r2, true) else if r2.Unknown = true then some (r1, true) else if (decide ((mx2 r1.Lo r2.Lo) > (mn2 r1.Hi r2.Hi))) = true then some (Bound.mk 0 0 false, false) else Option.bind (bound_Of (mx2 r1.Lo r2.Lo) (mn2 r1.Hi r2.Hi)) fun r6 => some (r6, true)
def curve_order (s : curve_Sample) (t : curve_Sample) : Option Int :=
  Option.bind (cmp_Compare s.At.Lo t.At.Lo) fun r1 => Option.bind (cmp_Compare s.At.Hi t.At.Hi) fun r2 => Option.bind (cmp_Or ([r1, r2] : List Int)) fun r3 => some r3
def curve_Check.l1 (l : List curve_Sample) (s2 : Int) : Option (Step Int (Step Unit Int)) :=
  if (decide (s2 < (l.length : Int))) = true then if (0 : Int) ≤ s2 ∧ s2 < (l.length : Int) then Option.bind (bound_Check (gt l s2).At) fun r6 => Option.bind (bound_Check (gt l s2).Light) fun r7 => Option.bind (cmp_Or ([r6, r7] : List Int)) fun r8 => if (r8 != 0) = true then some (.done (.done r8)) else if (gt l s2).At.Unknown = true then some (.done (.done 1)) else Option.bind (if (decide ((gt l s2).At.Lo < (-17592186044416))) = true then some true else some (decide ((gt l s2).At.Hi > 17592186044416))) fun z11 : Bool => if z11 = true then some (.done (.done 4)) else Option.bind (if (decide (s2 > 0)) = true then if (0 : Int) ≤ w6 (s2 - 1) ∧ (w6 (s2 - 1)) < (l.length : Int) then Option.bind (curve_order (gt l (w6 (s2 - 1))) (gt l s2)) fun r17 => some (decide (r17 > 0)) else none else some false) fun z14 : Bool => if z14 = true then some (.done (.done 11)) else some (.next (w6 (s2 + 1))) else none else some (.done (.next ()))
def curve_Check (l : List curve_Sample) : Option Int :=
  if (decide ((l.length : Int) > 64)) = true then some 2 else seqF (loopF (curve_Check.l1 l) 0) fun z3 : Unit => some 0
def curve_FoldL (period phases : Int) : List curve_Sample → Int → List (List Int) → Option (List (List Int))
  | [], _, rows => some rows
  | s :: l, i, rows => Option.bind (curve_Phase s.At period phases) fun r => if r.2 = true then (if 0 ≤ r.1 ∧ r.1 < rows.length then curve_FoldL period phases l (i + 1) (rows.set r.1.toNat (gt rows r.1 ++ [i])) else none) else curve_FoldL period phases l (i + 1) rows
def curve_Fold (l : List curve_Sample) (period phases : Int) : Option ((List (List Int)) × Int) :=
  Option.bind (curve_Check l) fun e => if e = 0 then (if l.length ≤ 64 ∧ 1 ≤ phases ∧ phases ≤ 16 ∧ 1 ≤ period ∧ period ≤ 17592186044416 ∧ Int.tmod period phases = 0 then Option.bind (curve_FoldL period phases l 0 (List.replicate phases.toNat [])) fun R => some (R, 0) else none) else none
def sky_shines (s : Star) (t : Int) : Option Int :=
  Option.bind (if (decide (t < s.From)) = true then some true else some (decide (t ≥ s.To))) fun z1 : Bool => if z1 = true then some 0 else if ((s.Wave.length : Int) == 0) = true then some s.Rate else if s.Period ≠ 0 then if (decide ((Int.tmod t s.Period) < 0)) = true then if (s.Wave.length : Int) ≠ 0 then if (w6 (Int.tdiv s.Period (s.Wave.length : Int))) ≠ 0 then letF (w6 (Int.tdiv (w6 ((Int.tmod t s.Period) + s.Period)) (w6 (Int.tdiv s.Period (s.Wave.length : Int))))) fun v9 => if (0 : Int) ≤ v9 ∧ v9 < (s.Wave.length : Int) then some (w6 (s.Rate + (gt s.Wave v9))) else none else none else none else if (s.Wave.length : Int) ≠ 0 then if (w6 (Int.tdiv s.Period (s.Wave.length : Int))) ≠ 0 then letF (w6 (Int.tdiv (Int.tmod t s.Period) (w6 (Int.tdiv s.Period (s.Wave.length : Int))))) fun v13 => if (0 : Int) ≤ v13 ∧ v13 < (s.Wave.length : Int) then some (w6 (s.Rate + (gt s.Wave v13))) else none else none else none else none
def sky_timed (s : Sky) (t : Int) : Option Int :=
  Option.bind (sky_Check s) fun r1 => if (r1 != 0) = true then some r1 else Option.bind (if (decide (t < (-17592186044416))) = true then some true else some (decide (t > 17592186044416))) fun z3 : Bool => if z3 = true then some 4 else some 0
def slices_Index_Int.l1 (s : List Int) (v : Int) (s1 : Int) : Option (Step Int (Step Unit Int)) :=
  if (decide (s1 < (s.length : Int))) = true then if (0 : Int) ≤ s1 ∧ s1 < (s.length : Int) then if (v == (gt s s1)) = true then some (.done (.done s1)) else some (.next (w6 (s1 + 1))) else none else some (.done (.next ()))
def slices_Index_Int (s : List Int) (v : Int) : Option Int :=
  seqF (loopF (slices_Index_Int.l1 s v) 0) fun z2 : Unit => some (-1)
def slices_Equal_Int.l1 (s1_ : List Int) (s2_ : List Int) (s2 : Int) : Option (Step Int (Step Unit Bool)) :=
  if (decide (s2 < (s1_.length : Int))) = true then if (0 : Int) ≤ s2 ∧ s2 < (s1_.length : Int) then if (0 : Int) ≤ s2 ∧ s2 < (s2_.length : Int) then if ((gt s1_ s2) != (gt s2_ s2)) = true then some (.done (.done false)) else some (.next (w6 (s2 + 1))) else none else none else some (.done (.next ()))
def slices_Equal_Int (s1_ : List Int) (s2_ : List Int) : Option Bool :=
  if ((s1_.length : Int) != (s2_.length : Int)) = true then some false else seqF (loopF (slices_Equal_Int.l1 s1_ s2_) 0) fun z3 : Unit => some true
def spykeep4_fitted_1 (t : Int) (q : Int) : Option curve_Sample :=
  some (curve_Sample.mk (Bound.mk t t false) (Bound.mk q q false))
def curve_Table.l2 (l : List curve_Sample) (r1 : (List (List Int)) × Int) (s3 : (List Bound) × Int) (s8 : Bound × Int) : Option (Step (Bound × Int) (Step Bound (Step ((List Bound) × Int) (Step (List Bound) ((List Bound) × Int))))) :=
  if (decide (s8.2 < ((gt r1.1 s3.2).length : Int))) = true then if (0 : Int) ≤ s8.2 ∧ s8.2 < ((gt r1.1 s3.2).length : Int) then if (0 : Int) ≤ gt (gt r1.1 s3.2) s8.2 ∧ (gt (gt r1.1 s3.2) s8.2) < (l.length : Int) then Option.bind (bound_Meet s8.1 (gt l (gt (gt r1.1 s3.2) s8.2)).Light) fun r13 => if (!r13.2) = true then some (.done (.done (.done (.done ([], 15))))) else some (.next (r13.1, w6 (s8.2 + 1))) else none else none else some (.done (.next s8.1))
def curve_Table.l1 (l : List curve_Sample) (r1 : (List (List Int)) × Int) (s3 : (List Bound) × Int) : Option (Step ((List Bound) × Int) (Step (List Bound) ((List Bound) × Int))) :=
  if (decide (s3.2 < (r1.1.length : Int))) = true then if (0 : Int) ≤ s3.2 ∧ s3.2 < (r1.1.length : Int) then Option.bind (bound_None) fun r7 => seqF (loopF (curve_Table.l2 l r1 s3) (r7, 0)) fun z9 : Bound => if roomy (s3.1.length + ([z9] : List Bound).length) 24 = true then some (.next (s3.1 ++ ([z9] : List Bound), w6 (s3.2 + 1))) else none else none else some (.done (.next s3.1))
def curve_Table (l : List curve_Sample) (period : Int) (phases : Int) : Option ((List Bound) × Int) :=
  Option.bind (curve_Fold l period phases) fun r1 => if (r1.2 != 0) = true then some ([], r1.2) else seqF (loopF (curve_Table.l1 l r1) (([] : List Bound), 0)) fun z4 : (List Bound) => some (z4, 0)
def period_Check (a : period_Ask) : Option Int :=
  Option.bind (if (decide (a.Phases < 1)) = true then some true else some (decide (a.Phases > 16))) fun z1 : Bool => if z1 = true then some 1 else Option.bind (if (decide (a.Least < 1)) = true then some true else if (decide (a.Most > 17592186044416)) = true then some true else if (decide (a.Step < 1)) = true then some true else some (decide (a.Step > 17592186044416))) fun z4 : Bool => if z4 = true then some 4 else if (decide (a.Least > a.Most)) = true then some 11 else Option.bind (if a.Phases ≠ 0 then if ((Int.tmod a.Least a.Phases) != 0) = true then some true else some ((Int.tmod a.Step a.Phases) != 0) else none) fun z10 : Bool => if z10 = true then some 3 else if a.Step ≠ 0 then letF (decide ((w6 (Int.tdiv (w6 (a.Most - a.Least)) a.Step)) ≥ 4096)) fun v15 => if v15 = true then some 2 else some 0 else none
def spykeep4_samples_1 (a : curve_Sample) (b : curve_Sample) : Option Int :=
  if (a.At.Lo != b.At.Lo) = true then some (w6 (a.At.Lo - b.At.Lo)) else some (w6 (a.At.Hi - b.At.Hi))
def sky_Rate.l3 (s : Sky) (id_ : Int) (s14 : Int) : Option (Step Int (Step Unit (Int × Int))) :=
  if (decide (s14 < (s.Bodies.length : Int))) = true then if (0 : Int) ≤ s14 ∧ s14 < (s.Bodies.length : Int) then if ((gt s.Bodies s14).ID == id_) = true then some (.done (.done ((gt s.Bodies s14).Rate, 0))) else some (.next (w6 (s14 + 1))) else none else some (.done (.next ()))
def sky_Rate.l2 (s : Sky) (id_ : Int) (s9 : Int) : Option (Step Int (Step Unit (Int × Int))) :=
  if (decide (s9 < (s.Galaxies.length : Int))) = true then if (0 : Int) ≤ s9 ∧ s9 < (s.Galaxies.length : Int) then if ((gt s.Galaxies s9).ID == id_) = true then some (.done (.done ((gt s.Galaxies s9).Rate, 0))) else some (.next (w6 (s9 + 1))) else none else some (.done (.next ()))
def sky_Rate.l1 (s : Sky) (id_ : Int) (t : Int) (s3 : Int) : Option (Step Int (Step Unit (Int × Int))) :=
  if (decide (s3 < (s.Stars.length : Int))) = true then if (0 : Int) ≤ s3 ∧ s3 < (s.Stars.length : Int) then if ((gt s.Stars s3).ID == id_) = true then Option.bind (sky_shines (gt s.Stars s3) t) fun r8 => some (.done (.done (r8, 0))) else some (.next (w6 (s3 + 1))) else none else some (.done (.next ()))
def sky_Rate (s : Sky) (id_ : Int) (t : Int) : Option (Int × Int) :=
  Option.bind (sky_timed s t) fun r1 => if (r1 != 0) = true then some (0, r1) else seqF (loopF (sky_Rate.l1 s id_ t) 0) fun z4 : Unit => seqF (loopF (sky_Rate.l2 s id_) 0) fun z10 : Unit => seqF (loopF (sky_Rate.l3 s id_) 0) fun z15 : Unit => some (0, 8)
def spymake_Below (x : Int) (n : Int) : Option Int :=
  if (decide (n < 1)) = true then some 0 else if n ≠ 0 then if (decide ((Int.tmod x n) < 0)) = true then some (w6 ((Int.tmod x n) + n)) else some (Int.tmod x n) else none
def Stream_Next (s : spymake_Stream) (n : Int) : Option (Int × spymake_Stream) :=
  if ((s.L.length : Int) == 0) = true then Option.bind (spymake_Below (w6 ((w6 (s.at_ + 1)) * 7919)) n) fun r2 => some (r2, spymake_Stream.mk s.L (w6 (s.at_ + 1))) else if (s.L.length : Int) ≠ 0 then if (0 : Int) ≤ Int.tmod (w6 ((w6 (s.at_ + 1)) - 1)) (s.L.length : Int) ∧ (Int.tmod (w6 ((w6 (s.at_ + 1)) - 1)) (s.L.length : Int)) < (s.L.length : Int) then Option.bind (spymake_Below (gt s.L (Int.tmod (w6 ((w6 (s.at_ + 1)) - 1)) (s.L.length : Int))) 1073741824) fun r5 => letF (w6 (7919 + (Int.tmod (w6 ((w6 (s.at_ + 1)) - 1)) (s.L.length : Int)))) fun v6 => letF (w6 ((w6 (Int.tdiv (w6 ((w6 (s.at_ + 1)) - 1)) (s.L.length : Int))) * v6)) fun v7 => Option.bind (spymake_Below (w6 (r5 + v7)) n) fun r8 => some (r8, spymake_Stream.mk s.L (w6 (s.at_ + 1))) else none else none
def Stream_Range (s : spymake_Stream) (low : Int) (high : Int) : Option (Int × spymake_Stream) :=
  if (decide (high < low)) = true then some (low, s) else Option.bind (Stream_Next s (w6 ((w6 (high - low)) + 1))) fun r2 => some (w6 (low + r2.1), r2.2)
def slices_Contains_Int (s : List Int) (v : Int) : Option Bool :=
  Option.bind (slices_Index_Int s v) fun r1 => some (decide (r1 ≥ 0))
def period_Fit.l1 (l : List curve_Sample) (a : period_Ask) (s5 : (List Int) × Int) : Option (Step ((List Int) × Int) (List Int)) :=
  if (decide (s5.2 ≤ a.Most)) = true then Option.bind (Option.bind (curve_Table l s5.2 a.Phases) fun r9 => if (r9.2 == 0) = true then if roomy (s5.1.length + ([s5.2] : List Int).length) 8 = true then some (s5.1 ++ ([s5.2] : List Int)) else none else some s5.1) fun z8 : (List Int) => some (.next (z8, w6 (s5.2 + a.Step))) else some (.done s5.1)
def period_Fit (l : List curve_Sample) (a : period_Ask) : Option ((List Int) × Int) :=
  Option.bind (curve_Check l) fun r1 => Option.bind (period_Check a) fun r2 => Option.bind (cmp_Or ([r1, r2] : List Int)) fun r3 => if (r3 != 0) = true then some ([], r3) else Option.bind (loopF (period_Fit.l1 l a) (([] : List Int), a.Least)) fun z6 : (List Int) => some (z6, 0)
def spykeep4_fitted : Option Bool :=
  Option.bind (spykeep4_fitted_1 0 5) fun r1 => Option.bind (spykeep4_fitted_1 3 7) fun r2 => Option.bind (spykeep4_fitted_1 4 5) fun r3 => Option.bind (period_Fit ([r1, r2, r3] : List curve_Sample) (period_Ask.mk 2 2 8 2)) fun r4 => Option.bind (if (r4.2 == 0) = true then Option.bind (slices_Equal_Int r4.1 ([2, 4] : List Int)) fun r7 => some r7 else some false) fun z5 : Bool => some z5
def slices_insertionSortCmpFunc_curve_Sample_spykeep4_samples_1.l2 (a : Int) (s4 : (List curve_Sample) × Int) : Option (Step ((List curve_Sample) × Int) (List curve_Sample)) :=
  Option.bind (if (decide (s4.2 > a)) = true then if (0 : Int) ≤ s4.2 ∧ s4.2 < (s4.1.length : Int) then if (0 : Int) ≤ w6 (s4.2 - 1) ∧ (w6 (s4.2 - 1)) < (s4.1.length : Int) then Option.bind (spykeep4_samples_1 (gt s4.1 s4.2) (gt s4.1 (w6 (s4.2 - 1)))) fun r10 => some (decide (r10 < 0)) else none else none else some false) fun z6 : Bool => if z6 = true then if (0 : Int) ≤ w6 (s4.2 - 1) ∧ (w6 (s4.2 - 1)) < (s4.1.length : Int) then if (0 : Int) ≤ s4.2 ∧ s4.2 < (s4.1.length : Int) then letF (List.set (List.set s4.1 s4.2.toNat (gt s4.1 (w6 (s4.2 - 1)))) (w6 (s4.2 - 1)).toNat (gt s4.1 s4.2)) fun v14 => some (.next (v14, w6 (s4.2 - 1))) else none else none else some (.done s4.1)
def slices_insertionSortCmpFunc_curve_Sample_spykeep4_samples_1.l1 (a : Int) (b : Int) (s1 : (List curve_Sample) × Int) : Option (Step ((List curve_Sample) × Int) (List curve_Sample)) :=
  if (decide (s1.2 < b)) = true then Option.bind (loopF (slices_insertionSortCmpFunc_curve_Sample_spykeep4_samples_1.l2 a) (s1.1, s1.2)) fun z5 : (List curve_Sample) => some (.next (z5, w6 (s1.2 + 1))) else some (.done s1.1)
def slices_insertionSortCmpFunc_curve_Sample_spykeep4_samples_1 (data : List curve_Sample) (a : Int) (b : Int) : Option (List curve_Sample) :=
  Option.bind (loopF (slices_insertionSortCmpFunc_curve_Sample_spykeep4_samples_1.l1 a b) (data, w6 (a + 1))) fun z2 : (List curve_Sample) => some z2
def slices_pdqsortCmpFunc_curve_Sample_spykeep4_samples_1.l1 (data : List curve_Sample) (a : Int) (b : Int) (s1 : Unit) : Option (Step Unit (Step Unit (List curve_Sample))) :=
  if (decide ((w6 (b - a)) ≤ 12)) = true then Option.bind (slices_insertionSortCmpFunc_curve_Sample_spykeep4_samples_1 data a b) fun r4 => if data.length = r4.length then some (.done (.done r4)) else none else none
def slices_pdqsortCmpFunc_curve_Sample_spykeep4_samples_1 (data : List curve_Sample) (a : Int) (b : Int) (limit : Int) : Option (List curve_Sample) :=
  seqF (loopF (slices_pdqsortCmpFunc_curve_Sample_spykeep4_samples_1.l1 data a b) ()) fun z2 : Unit => none
def slices_SortFunc_curve_Sample_spykeep4_samples_1_short (x : List curve_Sample) : Option (List curve_Sample) :=
  Option.bind (bits_Len (IntKind.wrap .u64 (x.length : Int))) fun r1 => Option.bind (slices_pdqsortCmpFunc_curve_Sample_spykeep4_samples_1 x 0 (x.length : Int) r1) fun r2 => if x.length = r2.length then some r2 else none
def cmpS (a b : curve_Sample) : Int := if a.At.Lo ≠ b.At.Lo then a.At.Lo - b.At.Lo else a.At.Hi - b.At.Hi
def bndS (s : curve_Sample) : Prop := (-4611686018427387904 ≤ s.At.Lo ∧ s.At.Lo ≤ 4611686018427387903) ∧ (-4611686018427387904 ≤ s.At.Hi ∧ s.At.Hi ≤ 4611686018427387903)
instance (s : curve_Sample) : Decidable (bndS s) := by unfold bndS; infer_instance
abbrev SmB := {s : curve_Sample // bndS s}
instance : Inhabited SmB := ⟨⟨curve_Sample.mk (Bound.mk 0 0 false) (Bound.mk 0 0 false), by decide⟩⟩
def cmpB (a b : SmB) : Int := cmpS a.1 b.1
def toB (l : List curve_Sample) : List SmB := l.filterMap fun s => if h : bndS s then some ⟨s, h⟩ else none
def sortB (l : List curve_Sample) : List curve_Sample := (Go.Sort.pdq (Go.Proofs.ltOf cmpB) (toB l).toArray 0 (toB l).toArray.size (Go.Lib.bitLen (toB l).toArray.size) true true).toList.map (·.1)
def slices_SortFunc_curve_Sample_spykeep4_samples_1 (x : List curve_Sample) : Option (List curve_Sample) :=
  if x.length ≤ 12 then slices_SortFunc_curve_Sample_spykeep4_samples_1_short x else if (∀ s ∈ x, bndS s) ∧ x.length ≤ 1000000 then some (sortB x) else none

def spykeep4_samples.l1 (x : Star) (r2 : Int × spymake_Stream) (s3 : spymake_Stream × (List curve_Sample) × Int × Int) : Option (Step (spymake_Stream × (List curve_Sample) × Int × Int) (Step (spymake_Stream × (List curve_Sample)) ((List curve_Sample) × Bool × spymake_Stream))) :=
  if (decide (s3.2.2.2 < r2.1)) = true then Option.bind (Stream_Next s3.1 900) fun r6 => Option.bind (sky_Rate (Sky.mk 0 ([x] : List Star) [] [] (Body.mk 0 (Vec.mk 0 0 0) (Vec.mk 0 0 0) 0)) x.ID (w6 (s3.2.2.1 + r6.1))) fun r7 => if (r7.2 != 0) = true then some (.done (.done ([], false, r6.2))) else Option.bind (Stream_Next r6.2 2) fun r9 => Option.bind (Stream_Next r9.2 40) fun r10 => Option.bind (Stream_Next r10.2 30) fun r11 => Option.bind (Stream_Next r11.2 30) fun r12 => Option.bind (Stream_Next r12.2 12) fun r13 => if (r13.1 == 0) = true then letF (w6 ((w6 (s3.2.2.1 + r6.1)) + (w6 (Int.tdiv (w6 (r9.1 * r10.1)) 2)))) fun v15 => if roomy (s3.2.1.length + ([curve_Sample.mk (Bound.mk (w6 ((w6 (s3.2.2.1 + r6.1)) - (w6 (r9.1 * r10.1)))) v15 false) (Bound.mk 0 0 true)] : List curve_Sample).length) 48 = true then some (.next (r13.2, s3.2.1 ++ ([curve_Sample.mk (Bound.mk (w6 ((w6 (s3.2.2.1 + r6.1)) - (w6 (r9.1 * r10.1)))) v15 false) (Bound.mk 0 0 true)] : List curve_Sample), w6 (s3.2.2.1 + r6.1), w6 (s3.2.2.2 + 1))) else none else letF (w6 ((w6 (s3.2.2.1 + r6.1)) + (w6 (Int.tdiv (w6 (r9.1 * r10.1)) 2)))) fun v17 => if roomy (s3.2.1.length + ([curve_Sample.mk (Bound.mk (w6 ((w6 (s3.2.2.1 + r6.1)) - (w6 (r9.1 * r10.1)))) v17 false) (Bound.mk (w6 (r7.1 - r11.1)) (w6 (r7.1 + r12.1)) false)] : List curve_Sample).length) 48 = true then some (.next (r13.2, s3.2.1 ++ ([curve_Sample.mk (Bound.mk (w6 ((w6 (s3.2.2.1 + r6.1)) - (w6 (r9.1 * r10.1)))) v17 false) (Bound.mk (w6 (r7.1 - r11.1)) (w6 (r7.1 + r12.1)) false)] : List curve_Sample), w6 (s3.2.2.1 + r6.1), w6 (s3.2.2.2 + 1))) else none else some (.done (.next (s3.1, s3.2.1)))
def spykeep4_samples (s : spymake_Stream) (x : Star) (n : Int) : Option ((List curve_Sample) × Bool × spymake_Stream) :=
  Option.bind (Stream_Range s (-5000) 5000) fun r1 => Option.bind (Stream_Next r1.2 (w6 (n + 1))) fun r2 => seqF (loopF (spykeep4_samples.l1 x r2) (r2.2, ([] : List curve_Sample), r1.1, 0)) fun z4 : spymake_Stream × (List curve_Sample) => Option.bind (slices_SortFunc_curve_Sample_spykeep4_samples_1 z4.2) fun r19 => if z4.2.length = r19.length then some (r19, true, z4.1) else none
def Stream_Wave.l1 (r2 : Int × spymake_Stream) (s3 : spymake_Stream × (List Int) × Int) : Option (Step (spymake_Stream × (List Int) × Int) (spymake_Stream × (List Int))) :=
  if (decide (s3.2.2 < r2.1)) = true then Option.bind (Stream_Next s3.1 4) fun r6 => Option.bind (Stream_Next r6.2 300) fun r7 => if roomy (s3.2.1.length + ([w6 (r6.1 * r7.1)] : List Int).length) 8 = true then some (.next (r7.2, s3.2.1 ++ ([w6 (r6.1 * r7.1)] : List Int), w6 (s3.2.2 + 1))) else none else some (.done (s3.1, s3.2.1))
def Stream_Wave (s : spymake_Stream) (id_ : Int) (at_ : Vec) : Option (Star × spymake_Stream) :=
  Option.bind (Stream_Next s 500) fun r1 => Option.bind (Stream_Range r1.2 1 6) fun r2 => Option.bind (loopF (Stream_Wave.l1 r2) (r2.2, ([] : List Int), 0)) fun z4 : spymake_Stream × (List Int) => Option.bind (Stream_Range z4.1 1 400) fun r9 => some (Star.mk id_ at_ r1.1 z4.2 (w6 ((z4.2.length : Int) * r9.1)) (-17592186044416) 17592186044416, r9.2)
def Stream_Vec (s : spymake_Stream) : Option (Vec × spymake_Stream) :=
  Option.bind (Stream_Next s 4) fun r1 => if (0 : Int) ≤ r1.1 ∧ r1.1 < (([3, 100, 5000, 1048576] : List Int).length : Int) then Option.bind (Stream_Range r1.2 (w6 (0 - (gt ([3, 100, 5000, 1048576] : List Int) r1.1))) (gt ([3, 100, 5000, 1048576] : List Int) r1.1)) fun r3 => Option.bind (Stream_Range r3.2 (w6 (0 - (gt ([3, 100, 5000, 1048576] : List Int) r1.1))) (gt ([3, 100, 5000, 1048576] : List Int) r1.1)) fun r4 => Option.bind (Stream_Range r4.2 (w6 (0 - (gt ([3, 100, 5000, 1048576] : List Int) r1.1))) (gt ([3, 100, 5000, 1048576] : List Int) r1.1)) fun r5 => if ((r3.1 == 0) && ((r4.1 == 0) && ((r5.1 == 0) && (true)))) = true then some (Vec.mk 1 r4.1 r5.1, r5.2) else some (Vec.mk r3.1 r4.1 r5.1, r5.2) else none
def spykeep4_PeriodTrue.l1 (r2 : Star × spymake_Stream) (r4 : Int) (r5 : Int) (s6 : Int × Int) : Option (Step (Int × Int) Int) :=
  if (decide (s6.2 < r5)) = true then Option.bind (letF (decide (s6.1 > (w6 ((r2.1.Wave.length : Int) * (w6 (1 + r4)))))) fun v10 => if v10 = true then some (w6 (s6.1 - (w6 ((r2.1.Wave.length : Int) * (w6 (1 + r4)))))) else some s6.1) fun z9 : Int => some (.next (z9, w6 (s6.2 + 1))) else some (.done s6.1)
def spykeep4_PeriodTrue (l : List Int) (below : Int) (above : Int) (step : Int) : Option Bool :=
  Option.bind (Stream_Vec (spymake_Stream.mk l 0)) fun r1 => Option.bind (Stream_Wave r1.2 1 r1.1) fun r2 => Option.bind (spykeep4_samples r2.2 r2.1 20) fun r3 => Option.bind (spymake_Below step 3) fun r4 => Option.bind (spymake_Below below 40) fun r5 => Option.bind (loopF (spykeep4_PeriodTrue.l1 r2 r4 r5) (r2.1.Period, 0)) fun z7 : Int => Option.bind (spymake_Below above 40) fun r12 => letF (w6 (r2.1.Period + (w6 ((w6 ((r2.1.Wave.length : Int) * (w6 (1 + r4)))) * r12)))) fun v13 => Option.bind (period_Fit r3.1 (period_Ask.mk (r2.1.Wave.length : Int) z7 v13 (w6 ((r2.1.Wave.length : Int) * (w6 (1 + r4)))))) fun r14 => Option.bind (Option.bind (spykeep4_fitted) fun r16 => if r16 = true then if r3.2.1 = true then if (r14.2 == 0) = true then Option.bind (slices_Contains_Int r14.1 r2.1.Period) fun r20 => some r20 else some false else some false else some false) fun z15 : Bool => some z15
end Lf
