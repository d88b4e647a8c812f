/- Each function of the program computes its plain function. Conditions: as each theorem states them. -/
import Derived.Test.YtalolmjmbcpdcaaT
import Derived.Test.YtalolmjmbcpdcaaH
import Derived.Test.YtalolmjmbcpdcaaS
import Derived.Test.YtalolmjmbcpdcaaF
import Derived.Test.YtalolmjmbcpdcaaP2
namespace Go.Proofs.Fsd
open Go Go.Abs Lf
set_option linter.unusedVariables false
set_option linter.unusedSimpArgs false
set_option maxRecDepth 100000
set_option maxHeartbeats 1000000
theorem ok3 (l : List Int) (more : Int) (r : Bool) (hR : spykeep4_FindShifted l more = some r) : FnP Try.prog 3 [rowV false l, .sc (.int .i64 more)] (.sc (.bool r)) := by
  refine fnP_of (FnX.walk Try.func3 rfl 191 0 (by simp [Try.ntmps3]) rfl fun W S F Q hQ => ?_)
  unfold spykeep4_FindShifted at hR
  refine AWP.sq ?_
  refine AWP.rgC 4 rfl rfl ?_
  refine pu (v := .sc _) rfl rfl (fun _ => rfl) ?_
  refine RunC.fin ?_
  refine AWP.sq ?_
  refine AWP.rgC 20 rfl rfl ?_
  refine pu (v := rowV _ l) rfl rfl (fun _ => rfl) ?_
  refine bu (cs := [rowV (α := Int) false l, .sc (.int .i64 0)]) rfl bt25 rfl ?_
  refine bx (cs := _) 12 rfl rfl rfl ?_
  refine pu (v := .ptr _ _ _) rfl rfl (fun _ => rfl) ?_
  refine RunC.fin ?_
  refine AWP.sq ?_
  refine AWP.rgC 44 rfl rfl ?_
  refine pu (v := .ptr _ _ _) rfl rfl (fun _ => rfl) ?_
  obtain ⟨r1, hr1, hR⟩ := bindE hR
  refine cps (res' := .sc (.int .i64 r1.1)) (ups := [(12, boxB (α := spymake_Stream) false r1.2)]) [12] 24 rfl rfl rfl cb4 (ok4 (spymake_Stream.mk l 0) 1 8 _ hr1) (.cons (ldP rfl rfl) (.cons (.sc _) (.cons (.sc _) (.nil)))) (pc rfl (.box (.cons ldR' (.cons (.sc _) (.nil))) rfl) pn) rfl rfl rfl rfl rfl (by first | rfl | exact renR | exact renA | exact renS | simp only [V.ren, V.rens, renR, renA, renS] | (simp only [V.ren, V.rens, renR, renA, renS]; rfl)) (by simp only [passUps, renBox, renArr]; rfl) ?_
  refine pu (v := .ptr _ _ _) rfl rfl (fun _ => rfl) ?_
  obtain ⟨r2, hr2, hR⟩ := bindE hR
  refine cps (res' := .sc (.int .i64 r2.1)) (ups := [(12, boxB (α := spymake_Stream) false r2.2)]) [12] 32 rfl rfl rfl cb4 (ok4 r1.2 1 8 _ hr2) (.cons (ldP rfl rfl) (.cons (.sc _) (.cons (.sc _) (.nil)))) (pc rfl (.box (.cons ldR' (.cons (.sc _) (.nil))) rfl) pn) rfl rfl rfl rfl rfl (by first | rfl | exact renR | exact renA | exact renS | simp only [V.ren, V.rens, renR, renA, renS] | (simp only [V.ren, V.rens, renR, renA, renS]; rfl)) (by simp only [passUps, renBox, renArr]; rfl) ?_
  refine pu (v := .sc _) rfl rfl (fun _ => rfl) ?_
  refine pu (v := .sc _) rfl rfl (fun _ => rfl) ?_
  refine RunC.fin ?_
  refine AWP.sq ?_
  refine AWP.rgC 88 rfl rfl ?_
  refine pu (v := .ptr _ _ _) rfl rfl (fun _ => rfl) ?_
  refine pu (v := .sc _) rfl rfl (fun _ => rfl) ?_
  refine pu (v := .sc _) rfl rfl (fun _ => rfl) ?_
  refine pu (v := .ptr _ _ _) rfl rfl (fun _ => rfl) ?_
  obtain ⟨r3, hr3, hR⟩ := bindE hR
  refine cps (res' := .sc (.int .i64 r3.1)) (ups := [(12, boxB (α := spymake_Stream) false r3.2)]) [12] 60 rfl rfl rfl cb4 (ok4 r2.2 0 5 _ hr3) (.cons (ldP rfl rfl) (.cons (.sc _) (.cons (.sc _) (.nil)))) (pc rfl (.box (.cons ldR' (.cons (.sc _) (.nil))) rfl) pn) rfl rfl rfl rfl rfl (by first | rfl | exact renR | exact renA | exact renS | simp only [V.ren, V.rens, renR, renA, renS] | (simp only [V.ren, V.rens, renR, renA, renS]; rfl)) (by simp only [passUps, renBox, renArr]; rfl) ?_
  obtain ⟨r4, hr4, hR⟩ := bindE hR
  refine cps (res' := .tup [rowV (α := Int) true r4.1, .sc (.int .i64 r4.2.1)]) (ups := [(12, boxB (α := spymake_Stream) false r4.2.2)]) [12] 64 rfl rfl rfl cb5 (ok5 r3.2 r1.1 r2.1 r3.1 _ hr4) (.cons (ldP rfl rfl) (.cons (.sc _) (.cons (.sc _) (.cons (.sc _) (.nil))))) (pc rfl (.box (.cons ldR' (.cons (.sc _) (.nil))) rfl) pn) rfl rfl rfl rfl rfl (by first | rfl | exact renR | exact renA | exact renS | simp only [V.ren, V.rens, renR, renA, renS] | (simp only [V.ren, V.rens, renR, renA, renS]; rfl)) (by simp only [passUps, renBox, renArr]; rfl) ?_
  refine pu (v := .tup _) rfl rfl (fun _ => rfl) ?_
  refine pu (v := rowV _ r4.1) rfl rfl (fun _ => rfl) ?_
  refine pu (v := .sc _) rfl rfl (fun _ => rfl) ?_
  refine pu (v := rowV _ r4.1) rfl rfl (fun _ => rfl) ?_
  refine pu (v := .sc _) rfl rfl (fun _ => rfl) ?_
  refine RunC.fin ?_
  refine AWP.sq ?_
  refine AWP.rgC 136 rfl rfl ?_
  refine pu (v := .ptr _ _ _) rfl rfl (fun _ => rfl) ?_
  refine pu (v := .sc _) rfl rfl (fun _ => rfl) ?_
  refine pu (v := .sc _) rfl rfl (fun _ => rfl) ?_
  refine pu (v := rowV _ r4.1) rfl rfl (fun _ => rfl) ?_
  obtain ⟨r5, hr5, hR⟩ := bindE hR
  refine cps (res' := aggV (α := Cells) true r5.1) (ups := [(12, boxB (α := spymake_Stream) false r5.2)]) [12] 104 rfl rfl rfl cb6 (ok6 r4.2.2 r1.1 r2.1 r4.1 true _ hr5) (.cons (ldP rfl rfl) (.cons (.sc _) (.cons (.sc _) (.cons ldR' (.cons (.sc _) (.nil)))))) (pc rfl (.box (.cons ldR' (.cons (.sc _) (.nil))) rfl) pn) rfl rfl rfl rfl rfl (by first | rfl | exact renR | exact renA | exact renS | simp only [V.ren, V.rens, renR, renA, renS] | (simp only [V.ren, V.rens, renR, renA, renS]; rfl)) (by simp only [passUps, renBox, renArr]; rfl) ?_
  refine pu (v := .ptr _ _ _) rfl rfl (fun _ => rfl) ?_
  refine pu (v := .sc _) rfl rfl (fun _ => rfl) ?_
  obtain ⟨r6, hr6, hR⟩ := bindE hR
  refine cps (res' := aggV (α := Bound) true r6.1) (ups := [(12, boxB (α := spymake_Stream) false r6.2)]) [12] 116 rfl rfl rfl cb7 (ok7 r5.2 r4.2.1 _ hr6) (.cons (ldP rfl rfl) (.cons (.sc _) (.nil))) (pc rfl (.box (.cons ldR' (.cons (.sc _) (.nil))) rfl) pn) rfl rfl rfl rfl rfl (by first | rfl | exact renR | exact renA | exact renS | simp only [V.ren, V.rens, renR, renA, renS] | (simp only [V.ren, V.rens, renR, renA, renS]; rfl)) (by simp only [passUps, renBox, renArr]; rfl) ?_
  refine al (cs := [.sc (.int .i64 0), .sc (.int .i64 0), .sc (.slice none 0 0)]) 120 rfl rfl ti33 rfl rfl ?_
  refine al (cs := [.sc (.int .i64 0), .sc (.int .i64 0), .sc (.bool false)]) 124 rfl rfl ti36 rfl rfl ?_
  refine stB (cs' := [.sc (.int .i64 r5.1.W), .sc (.int .i64 r5.1.H), rowV (α := Bound) true r5.1.At]) rfl rfl rfl rfl ti33 rfl rfl rfl rfl rfl ?_
  refine stB (cs' := [.sc (.int .i64 r6.1.Lo), .sc (.int .i64 r6.1.Hi), .sc (.bool r6.1.Unknown)]) rfl rfl rfl rfl ti36 rfl rfl rfl rfl rfl ?_
  refine RunC.fin ?_
  refine AWP.sq ?_
  refine AWP.rgC 152 rfl rfl ?_
  refine pu (v := .sc _) rfl rfl (fun _ => rfl) ?_
  obtain ⟨r7, hr7, hR⟩ := bindE hR
  refine cls [] rfl rfl cb8 (ok8 more 1073741824 _ hr7) (.cons (.sc _) (.cons (.sc _) (.nil))) (.inr rfl) rfl ?_
  refine pu (v := .sc _) rfl rfl (fun _ => rfl) ?_
  refine pu (v := .sc _) rfl rfl (fun _ => rfl) ?_
  refine RunC.fin ?_
  refine AWP.sq ?_
  refine AWP.rgD 184 [0, 0, 3, 0, 0, 0, 55, 127] ⟨[], [none, none, none, some [124], none, none, some [168], some [172]]⟩ hmix (by kernel_rfl) rfl rfl ?_
  refine pu (v := .sc _) rfl rfl (fun _ => rfl) ?_
  refine pu (v := .sc _) rfl rfl (fun _ => rfl) ?_
  refine bu (cs := [.sc (.int .i64 r1.1), .sc (.int .i64 r2.1), .sc (.slice none 0 0)]) rfl bt33 rfl ?_
  refine ldB (v := .agg _) rfl rfl rfl rfl ti36 rfl rfl ?_
  refine al (cs := [.sc (.int .i64 0), .sc (.int .i64 0), .sc (.slice none 0 0)]) 168 rfl rfl ti33 rfl rfl ?_
  refine al (cs := [.sc (.int .i64 0), .sc (.int .i64 0), .sc (.bool false)]) 172 rfl rfl ti36 rfl rfl ?_
  refine stB (cs' := [.sc (.int .i64 r1.1), .sc (.int .i64 r2.1), .sc (.slice none 0 0)]) rfl rfl rfl rfl ti33 rfl rfl rfl rfl rfl ?_
  refine stB (cs' := [.sc (.int .i64 r6.1.Lo), .sc (.int .i64 r6.1.Hi), .sc (.bool r6.1.Unknown)]) rfl rfl rfl rfl ti36 rfl rfl rfl rfl rfl ?_
  refine RunC.fin ?_
  refine AWP.sq ?_
  refine AWP.sq ?_
  refine AWP.rgC 200 rfl rfl ?_
  refine fa rfl rfl ti33 rfl rfl ti31 rfl ?_
  refine ldB (v := rowV _ r5.1.At) rfl rfl rfl rfl ti31 rfl rfl ?_
  refine lenL (α := Bound) rfl rfl ti31 rfl ?_
  refine pu (v := .sc _) rfl rfl (fun _ => rfl) ?_
  refine RunC.fin ?_
  refine AWP.nilB Bound 168 2 36 rfl rfl (cs' := [.sc (.int .i64 r1.1), .sc (.int .i64 r2.1), slV Bound 200 0 0 0]) rfl ?_
  refine AWP.loopJ (fun s8 : (List Bound) × Int => LS.mk [(10, .ptr 0 0 0), (11, .ptr 1 0 0), (12, .sc (.int .i64 (w6 (r7 - 536870912)))), (13, .ptr 2 0 0), (14, .ptr 4 0 0), (57, rowV (α := Bound) true r5.1.At), (58, .sc (.int .i64 (r5.1.At.length : Int))), (59, .sc (.int .i64 s8.2))] (lblks 0 [boxB (α := Cells) true r5.1, boxB (α := Bound) true r6.1, .box [.sc (.int .i64 r1.1), .sc (.int .i64 r2.1), slV Bound 3 0 0 s8.1.length], arrB (α := Bound) 36 0 true s8.1, boxB (α := Bound) true r6.1]) 5) (fun z9 : (List Bound) => LS.mk [(10, .ptr 0 0 0), (11, .ptr 1 0 0), (12, .sc (.int .i64 (w6 (r7 - 536870912)))), (13, .ptr 2 0 0), (14, .ptr 4 0 0)] (lblks 0 [boxB (α := Cells) true r5.1, boxB (α := Bound) true r6.1, .box [.sc (.int .i64 r1.1), .sc (.int .i64 r2.1), slV Bound 3 0 0 z9.length], arrB (α := Bound) 36 0 true z9, boxB (α := Bound) true r6.1]) 5) (spykeep4_FindShifted.l1 r5 r7) hR (s0 := (([] : List Bound), 0)) (Weak.turnL [(120, 0), (124, 0), (168, 0), (200, 0), (172, 0)] [] rfl rfl (tc (trP' rfl rfl rfl rfl) (tc (trP' rfl rfl rfl rfl) (tc (.sc _) (tc (trP' rfl rfl rfl rfl) (tc (trP' rfl rfl rfl rfl) (tc trR1 (tc (.sc _) (tc (.sc _) tn)))))))) (mc rfl (.box rfl (.cons (.sc _) (.cons (.sc _) (.cons trR1 (.nil)))) rfl) (mc rfl (.box rfl (.cons (.sc _) (.cons (.sc _) (.cons (.sc _) (.nil)))) rfl) (mc rfl (.box rfl (.cons (.sc _) (.cons (.sc _) (.cons (trS' rfl rfl rfl rfl rfl) (.nil)))) rfl) (mc rfl (btrA' rfl) (mc rfl (.box rfl (.cons (.sc _) (.cons (.sc _) (.cons (.sc _) (.nil)))) rfl) mn)))))) (fun s8 o8 hR => ?_) fun z9 hR => ?_
  · unfold spykeep4_FindShifted.l1 at hR
    refine AWP.sq ?_
    refine AWP.rgC 9 rfl rfl ?_
    refine pu (v := .sc _) rfl rfl (fun _ => rfl) ?_
    refine RunC.fin ?_
    refine AWP.sq ?_
    refine AWP.cd hR rfl (fun h10 hR => ?_) fun h10 hR => ?_
    · refine AWP.skip ?_
      refine skT ?_
      refine AWP.sq ?_
      refine AWP.block ?_
      refine AWP.sq ?_
      refine AWP.rgC 25 rfl rfl ?_
      obtain ⟨h11, hR⟩ := chkE hR
      refine ixL (α := Bound) rfl rfl rfl ti31 rfl ti36 rfl h11 ?_
      refine ldR (v := .agg _) rfl rfl ti36 rfl ?_
      refine al (cs := [.sc (.int .i64 0), .sc (.int .i64 0), .sc (.bool false)]) 17 rfl rfl ti36 rfl rfl ?_
      refine stB (cs' := [.sc (.int .i64 (gt r5.1.At s8.2).Lo), .sc (.int .i64 (gt r5.1.At s8.2).Hi), .sc (.bool (gt r5.1.At s8.2).Unknown)]) rfl rfl rfl rfl ti36 rfl rfl rfl rfl rfl ?_
      refine RunC.fin ?_
      refine AWP.sq ?_
      refine AWP.sq ?_
      refine AWP.rgC 37 rfl rfl ?_
      refine fa rfl rfl ti36 rfl rfl ti4 rfl ?_
      refine ldB (v := .sc _) rfl rfl rfl rfl ti4 rfl rfl ?_
      refine pu (v := .sc _) rfl rfl (fun _ => rfl) ?_
      refine RunC.fin ?_
      refine AWP.cd hR rfl (fun h12 hR => ?_) fun h12 hR => ?_
      · refine AWP.rgC 85 rfl rfl ?_
        refine fa rfl rfl ti36 rfl rfl ti28 rfl ?_
        refine ldB (v := .sc _) rfl rfl rfl rfl ti28 rfl rfl ?_
        refine pu (v := .sc _) rfl rfl (fun _ => rfl) ?_
        refine pu (v := .sc _) rfl rfl (fun _ => rfl) ?_
        refine fa rfl rfl ti36 rfl rfl ti28 rfl ?_
        refine ldB (v := .sc _) rfl rfl rfl rfl ti28 rfl rfl ?_
        refine pu (v := .sc _) rfl rfl (fun _ => rfl) ?_
        refine pu (v := .sc _) rfl rfl (fun _ => rfl) ?_
        refine fa rfl rfl ti36 rfl rfl ti28 rfl ?_
        refine stB (cs' := [.sc (.int .i64 (w6 ((gt r5.1.At s8.2).Lo + (w6 (r7 - 536870912))))), .sc (.int .i64 (gt r5.1.At s8.2).Hi), .sc (.bool (gt r5.1.At s8.2).Unknown)]) rfl rfl rfl rfl ti28 rfl rfl rfl rfl rfl ?_
        refine fa rfl rfl ti36 rfl rfl ti28 rfl ?_
        refine stB (cs' := [.sc (.int .i64 (w6 ((gt r5.1.At s8.2).Lo + (w6 (r7 - 536870912))))), .sc (.int .i64 (w6 ((gt r5.1.At s8.2).Hi + (w6 (r7 - 536870912))))), .sc (.bool (gt r5.1.At s8.2).Unknown)]) rfl rfl rfl rfl ti28 rfl rfl rfl rfl rfl ?_
        refine RunC.fin ?_
        refine AWP.rgC 113 rfl rfl ?_
        refine fa rfl rfl ti33 rfl rfl ti31 rfl ?_
        refine ldB (v := slV Bound _ _ _ _) rfl rfl rfl rfl ti31 rfl rfl ?_
        refine ldB (v := .agg _) rfl rfl rfl rfl ti36 rfl rfl ?_
        refine bs (α := Bound) 97 true ([Bound.mk (w6 ((gt r5.1.At s8.2).Lo + (w6 (r7 - 536870912)))) (w6 ((gt r5.1.At s8.2).Hi + (w6 (r7 - 536870912)))) (gt r5.1.At s8.2).Unknown] : List Bound) rfl rfl ti31 rfl ti36 rfl rfl rfl rfl rfl ?_
        obtain ⟨h13, hR⟩ := chkE hR
        refine ap' (α := Bound) (nw := true) (xs := s8.1) (ys := ([Bound.mk (w6 ((gt r5.1.At s8.2).Lo + (w6 (r7 - 536870912)))) (w6 ((gt r5.1.At s8.2).Hi + (w6 (r7 - 536870912)))) (gt r5.1.At s8.2).Unknown] : List Bound)) rfl rfl rfl rfl (srcS' rfl rfl rfl) ti31 rfl ti36 rfl h13 rfl ?_
        refine fa rfl rfl ti33 rfl rfl ti31 rfl ?_
        refine stB (cs' := [.sc (.int .i64 r1.1), .sc (.int .i64 r2.1), slV Bound 3 1 0 (s8.1 ++ ([Bound.mk (w6 ((gt r5.1.At s8.2).Lo + (w6 (r7 - 536870912)))) (w6 ((gt r5.1.At s8.2).Hi + (w6 (r7 - 536870912)))) (gt r5.1.At s8.2).Unknown] : List Bound)).length]) rfl rfl rfl rfl ti31 rfl rfl rfl rfl rfl ?_
        refine RunC.blk ?_
        refine RunC.fin ?_
        refine AWP.rgC 121 rfl rfl ?_
        refine pu (v := .sc _) rfl rfl (fun _ => rfl) ?_
        refine pu (v := .sc _) rfl rfl (fun _ => rfl) ?_
        refine RunC.fin ?_
        refine ⟨(s8.1 ++ ([Bound.mk (w6 ((gt r5.1.At s8.2).Lo + (w6 (r7 - 536870912)))) (w6 ((gt r5.1.At s8.2).Hi + (w6 (r7 - 536870912)))) (gt r5.1.At s8.2).Unknown] : List Bound), w6 (s8.2 + 1)), (Option.some.inj hR).symm, ?_⟩
        exact Weak.turnL [(0, 0), (1, 0), (2, 0), (3, 0), (4, 0)] [] rfl rfl (tc (trP' rfl rfl rfl rfl) (tc (trP' rfl rfl rfl rfl) (tc (.sc _) (tc (trP' rfl rfl rfl rfl) (tc (trP' rfl rfl rfl rfl) (tc trR1 (tc (.sc _) (tc (.sc _) tn)))))))) (mc rfl (.box rfl (.cons (.sc _) (.cons (.sc _) (.cons trR1 (.nil)))) rfl) (mc rfl (.box rfl (.cons (.sc _) (.cons (.sc _) (.cons (.sc _) (.nil)))) rfl) (mc rfl (.box rfl (.cons (.sc _) (.cons (.sc _) (.cons (trS' rfl rfl rfl rfl rfl) (.nil)))) rfl) (mc rfl (btrA' rfl) (mc rfl (.box rfl (.cons (.sc _) (.cons (.sc _) (.cons (.sc _) (.nil)))) rfl) mn)))))
      · refine AWP.skip ?_
        refine skT ?_
        refine AWP.rgC 65 rfl rfl ?_
        refine fa rfl rfl ti33 rfl rfl ti31 rfl ?_
        refine ldB (v := slV Bound _ _ _ _) rfl rfl rfl rfl ti31 rfl rfl ?_
        refine ldB (v := .agg _) rfl rfl rfl rfl ti36 rfl rfl ?_
        refine bs (α := Bound) 49 true ([(gt r5.1.At s8.2)] : List Bound) rfl rfl ti31 rfl ti36 rfl rfl rfl rfl rfl ?_
        obtain ⟨h14, hR⟩ := chkE hR
        refine ap' (α := Bound) (nw := true) (xs := s8.1) (ys := ([(gt r5.1.At s8.2)] : List Bound)) rfl rfl rfl rfl (srcS' rfl rfl rfl) ti31 rfl ti36 rfl h14 rfl ?_
        refine fa rfl rfl ti33 rfl rfl ti31 rfl ?_
        refine stB (cs' := [.sc (.int .i64 r1.1), .sc (.int .i64 r2.1), slV Bound 3 1 0 (s8.1 ++ ([(gt r5.1.At s8.2)] : List Bound)).length]) rfl rfl rfl rfl ti31 rfl rfl rfl rfl rfl ?_
        refine RunC.blk ?_
        refine RunC.fin ?_
        refine AWP.rgC 73 rfl rfl ?_
        refine pu (v := .sc _) rfl rfl (fun _ => rfl) ?_
        refine pu (v := .sc _) rfl rfl (fun _ => rfl) ?_
        refine RunC.fin ?_
        refine ⟨(s8.1 ++ ([(gt r5.1.At s8.2)] : List Bound), w6 (s8.2 + 1)), (Option.some.inj hR).symm, ?_⟩
        exact Weak.turnL [(0, 0), (1, 0), (2, 0), (3, 0), (4, 0)] [] rfl rfl (tc (trP' rfl rfl rfl rfl) (tc (trP' rfl rfl rfl rfl) (tc (.sc _) (tc (trP' rfl rfl rfl rfl) (tc (trP' rfl rfl rfl rfl) (tc trR1 (tc (.sc _) (tc (.sc _) tn)))))))) (mc rfl (.box rfl (.cons (.sc _) (.cons (.sc _) (.cons trR1 (.nil)))) rfl) (mc rfl (.box rfl (.cons (.sc _) (.cons (.sc _) (.cons (.sc _) (.nil)))) rfl) (mc rfl (.box rfl (.cons (.sc _) (.cons (.sc _) (.cons (trS' rfl rfl rfl rfl rfl) (.nil)))) rfl) (mc rfl (btrA' rfl) (mc rfl (.box rfl (.cons (.sc _) (.cons (.sc _) (.cons (.sc _) (.nil)))) rfl) mn)))))
    · refine AWP.exit ?_
      refine exT ?_
      refine exT ?_
      refine exH (skT ?_)
      refine ⟨s8.1, (Option.some.inj hR).symm, ?_⟩
      exact Weak.turnL [(0, 0), (1, 0), (2, 0), (3, 0), (4, 0)] [] rfl rfl (tc (trP' rfl rfl rfl rfl) (tc (trP' rfl rfl rfl rfl) (tc (.sc _) (tc (trP' rfl rfl rfl rfl) (tc (trP' rfl rfl rfl rfl) tn))))) (mc rfl (.box rfl (.cons (.sc _) (.cons (.sc _) (.cons trR1 (.nil)))) rfl) (mc rfl (.box rfl (.cons (.sc _) (.cons (.sc _) (.cons (.sc _) (.nil)))) rfl) (mc rfl (.box rfl (.cons (.sc _) (.cons (.sc _) (.cons (trS' rfl rfl rfl rfl rfl) (.nil)))) rfl) (mc rfl (btrA' rfl) (mc rfl (.box rfl (.cons (.sc _) (.cons (.sc _) (.cons (.sc _) (.nil)))) rfl) mn)))))
  · refine skT ?_
    refine AWP.sq ?_
    refine AWP.rgC 53 rfl rfl ?_
    refine fa rfl rfl ti36 rfl rfl ti28 rfl ?_
    refine ldB (v := .sc _) rfl rfl rfl rfl ti28 rfl rfl ?_
    refine pu (v := .sc _) rfl rfl (fun _ => rfl) ?_
    refine pu (v := .sc _) rfl rfl (fun _ => rfl) ?_
    refine fa rfl rfl ti36 rfl rfl ti28 rfl ?_
    refine ldB (v := .sc _) rfl rfl rfl rfl ti28 rfl rfl ?_
    refine pu (v := .sc _) rfl rfl (fun _ => rfl) ?_
    refine pu (v := .sc _) rfl rfl (fun _ => rfl) ?_
    refine fa rfl rfl ti36 rfl rfl ti28 rfl ?_
    refine stB (cs' := [.sc (.int .i64 (w6 (r6.1.Lo + (w6 (r7 - 536870912))))), .sc (.int .i64 r6.1.Hi), .sc (.bool r6.1.Unknown)]) rfl rfl rfl rfl ti28 rfl rfl rfl rfl rfl ?_
    refine fa rfl rfl ti36 rfl rfl ti28 rfl ?_
    refine stB (cs' := [.sc (.int .i64 (w6 (r6.1.Lo + (w6 (r7 - 536870912))))), .sc (.int .i64 (w6 (r6.1.Hi + (w6 (r7 - 536870912))))), .sc (.bool r6.1.Unknown)]) rfl rfl rfl rfl ti28 rfl rfl rfl rfl rfl ?_
    refine RunC.fin ?_
    refine AWP.sq ?_
    refine AWP.rgC 85 rfl rfl ?_
    refine ldB (v := .agg _) rfl rfl rfl rfl ti33 rfl rfl ?_
    refine ldB (v := .agg _) rfl rfl rfl rfl ti36 rfl rfl ?_
    obtain ⟨r15, hr15, hR⟩ := bindE hR
    refine cpx (res' := .tup [slV Int 61 0 0 r15.1.length, .sc (.int .i64 r15.2)]) (ups := [(61, arrB (α := Int) 3 0 false r15.1)]) [] 61 rfl rfl rfl cb9 (ok9_27 r5.1 r6.1 _ hr15) (.cons (.agg (.cons (.sc _) (.cons (.sc _) (.cons ldR' (.nil)))) rfl) (.cons (.agg (.cons (.sc _) (.cons (.sc _) (.cons (.sc _) (.nil)))) rfl) (.nil))) pn rfl rfl rfl (by simp only [V.ren, V.rens, renS, renR, renA]; rfl) (by simp only [passUps, renBox, renArr]; rfl) ?_
    refine pu (v := .tup _) rfl rfl (fun _ => rfl) ?_
    refine pu (v := slV Int _ _ _ _) rfl rfl (fun _ => rfl) ?_
    refine pu (v := .sc _) rfl rfl (fun _ => rfl) ?_
    refine pu (v := slV Int _ _ _ _) rfl rfl (fun _ => rfl) ?_
    refine pu (v := .sc _) rfl rfl (fun _ => rfl) ?_
    refine RunC.fin ?_
    refine AWP.sq ?_
    refine AWP.rgC 117 rfl rfl ?_
    refine ldB (v := .agg _) rfl rfl rfl rfl ti33 rfl rfl ?_
    refine ldB (v := .agg _) rfl rfl rfl rfl ti36 rfl rfl ?_
    obtain ⟨r16, hr16, hR⟩ := bindE hR
    refine cls [] rfl rfl cb10 (ok10 r5.1 r6.1 _ hr16) (.cons (.agg (.cons (.sc _) (.cons (.sc _) (.cons ldR' (.nil)))) rfl) (.cons (.agg (.cons (.sc _) (.cons (.sc _) (.cons (.sc _) (.nil)))) rfl) (.nil))) (.inr rfl) rfl ?_
    refine pu (v := .tup _) rfl rfl (fun _ => rfl) ?_
    refine pu (v := rowV _ r16.1) rfl rfl (fun _ => rfl) ?_
    refine pu (v := .sc _) rfl rfl (fun _ => rfl) ?_
    refine pu (v := rowV _ r16.1) rfl rfl (fun _ => rfl) ?_
    refine pu (v := .sc _) rfl rfl (fun _ => rfl) ?_
    refine RunC.fin ?_
    refine AWP.sq ?_
    refine AWP.rgC 149 rfl rfl ?_
    refine ldB (v := .agg _) rfl rfl rfl rfl ti33 rfl rfl ?_
    refine ldB (v := .agg _) rfl rfl rfl rfl ti36 rfl rfl ?_
    obtain ⟨r17, hr17, hR⟩ := bindE hR
    refine cls [3] rfl rfl cb10 (ok10 (Cells.mk r1.1 r2.1 z9) (Bound.mk (w6 (r6.1.Lo + (w6 (r7 - 536870912)))) (w6 (r6.1.Hi + (w6 (r7 - 536870912)))) r6.1.Unknown) _ hr17) (.cons (.agg (.cons (.sc _) (.cons (.sc _) (.cons (ldS' rfl rfl rfl rfl) (.nil)))) rfl) (.cons (.agg (.cons (.sc _) (.cons (.sc _) (.cons (.sc _) (.nil)))) rfl) (.nil))) (.inl (by first | rfl | exact freshR | exact freshA | (simp only [V.fresh, V.freshs, freshR, freshA, Bool.and_self]))) rfl ?_
    refine pu (v := .tup _) rfl rfl (fun _ => rfl) ?_
    refine pu (v := rowV _ r17.1) rfl rfl (fun _ => rfl) ?_
    refine pu (v := .sc _) rfl rfl (fun _ => rfl) ?_
    refine pu (v := rowV _ r17.1) rfl rfl (fun _ => rfl) ?_
    refine pu (v := .sc _) rfl rfl (fun _ => rfl) ?_
    refine RunC.fin ?_
    refine AWP.sq ?_
    refine AWP.joinX (fun z18 : Bool => LS.mk [(17, slV Int 0 0 0 r15.1.length), (19, rowV (α := Source_) true r16.1), (21, rowV (α := Source_) true r17.1), (131, .sc (.bool z18))] (lblks 0 [arrB (α := Int) 3 0 false r15.1]) 1) hR (fun o18 hR => ?_) fun z18 hR => ?_
    · refine AWP.rgC 233 rfl rfl ?_
      obtain ⟨r19, hr19, hR⟩ := bindE hR
      refine cls [] rfl rfl cb11 (ok11 _ hr19) (.nil) (.inr rfl) rfl ?_
      refine pu (v := .sc _) rfl rfl (fun _ => rfl) ?_
      refine pu (v := .sc _) rfl rfl (fun _ => rfl) ?_
      refine brR hR (fun h20 hR => ?_) fun h20 hR => ?_
      · refine sk (skW rfl rfl rfl h20) ?_
        refine sk (skW rfl rfl rfl h20) ?_
        refine pkT (v := .sc (.bool true)) rfl rfl h20 rfl ?_
        refine pu (v := .sc _) rfl rfl (fun _ => rfl) ?_
        refine sk (skW rfl rfl rfl rfl) ?_
        refine sk (skW rfl rfl rfl rfl) ?_
        refine pkT (v := .sc (.bool true)) rfl rfl rfl rfl ?_
        refine pu (v := .sc _) rfl rfl (fun _ => rfl) ?_
        refine sk (skW rfl rfl rfl rfl) ?_
        refine sk (skW rfl rfl rfl rfl) ?_
        refine pkT (v := .sc (.bool true)) rfl rfl rfl rfl ?_
        refine pu (v := .sc _) rfl rfl (fun _ => rfl) ?_
        refine sk (skW rfl rfl rfl rfl) ?_
        refine sk (skW rfl rfl rfl rfl) ?_
        refine sk (skW rfl rfl rfl rfl) ?_
        refine sk (skW rfl rfl rfl rfl) ?_
        refine sk (skW rfl rfl rfl rfl) ?_
        refine pkT (v := .sc (.bool true)) rfl rfl rfl rfl ?_
        refine RunC.fin ?_
        have hR := Option.some.inj hR; subst hR
        exact Weak.turnL [(61, 0)] [] rfl rfl (tc (trS' rfl rfl rfl rfl rfl) (tc trR1 (tc trR1 (tc (.sc _) tn)))) (mc rfl (btrA' rfl) mn)
      · refine pu (v := .sc _) (wtG rfl rfl rfl h20) rfl (fun _ => rfl) ?_
        refine pu (v := .sc _) (wtG rfl rfl rfl h20) rfl (fun _ => rfl) ?_
        refine pkF (v := .sc (.bool (r15.2 != 0))) rfl rfl h20 rfl ?_
        refine pu (v := .sc _) rfl rfl (fun _ => rfl) ?_
        refine brR hR (fun h21 hR => ?_) fun h21 hR => ?_
        · refine sk (skW rfl rfl rfl h21) ?_
          refine sk (skW rfl rfl rfl h21) ?_
          refine pkT (v := .sc (.bool true)) rfl rfl h21 rfl ?_
          refine pu (v := .sc _) rfl rfl (fun _ => rfl) ?_
          refine sk (skW rfl rfl rfl rfl) ?_
          refine sk (skW rfl rfl rfl rfl) ?_
          refine pkT (v := .sc (.bool true)) rfl rfl rfl rfl ?_
          refine pu (v := .sc _) rfl rfl (fun _ => rfl) ?_
          refine sk (skW rfl rfl rfl rfl) ?_
          refine sk (skW rfl rfl rfl rfl) ?_
          refine sk (skW rfl rfl rfl rfl) ?_
          refine sk (skW rfl rfl rfl rfl) ?_
          refine sk (skW rfl rfl rfl rfl) ?_
          refine pkT (v := .sc (.bool true)) rfl rfl rfl rfl ?_
          refine RunC.fin ?_
          have hR := Option.some.inj hR; subst hR
          exact Weak.turnL [(61, 0)] [] rfl rfl (tc (trS' rfl rfl rfl rfl rfl) (tc trR1 (tc trR1 (tc (.sc _) tn)))) (mc rfl (btrA' rfl) mn)
        · refine pu (v := .sc _) (wtG rfl rfl rfl h21) rfl (fun _ => rfl) ?_
          refine pu (v := .sc _) (wtG rfl rfl rfl h21) rfl (fun _ => rfl) ?_
          refine pkF (v := .sc (.bool (r16.2 != 0))) rfl rfl h21 rfl ?_
          refine pu (v := .sc _) rfl rfl (fun _ => rfl) ?_
          refine brR hR (fun h22 hR => ?_) fun h22 hR => ?_
          · refine sk (skW rfl rfl rfl h22) ?_
            refine sk (skW rfl rfl rfl h22) ?_
            refine pkT (v := .sc (.bool true)) rfl rfl h22 rfl ?_
            refine pu (v := .sc _) rfl rfl (fun _ => rfl) ?_
            refine sk (skW rfl rfl rfl rfl) ?_
            refine sk (skW rfl rfl rfl rfl) ?_
            refine sk (skW rfl rfl rfl rfl) ?_
            refine sk (skW rfl rfl rfl rfl) ?_
            refine sk (skW rfl rfl rfl rfl) ?_
            refine pkT (v := .sc (.bool true)) rfl rfl rfl rfl ?_
            refine RunC.fin ?_
            have hR := Option.some.inj hR; subst hR
            exact Weak.turnL [(61, 0)] [] rfl rfl (tc (trS' rfl rfl rfl rfl rfl) (tc trR1 (tc trR1 (tc (.sc _) tn)))) (mc rfl (btrA' rfl) mn)
          · refine pu (v := .sc _) (wtG rfl rfl rfl h22) rfl (fun _ => rfl) ?_
            refine pu (v := .sc _) (wtG rfl rfl rfl h22) rfl (fun _ => rfl) ?_
            refine pkF (v := .sc (.bool (r17.2 != 0))) rfl rfl h22 rfl ?_
            refine pu (v := .sc _) rfl rfl (fun _ => rfl) ?_
            refine brR hR (fun h23 hR => ?_) fun h23 hR => ?_
            · refine sk (skW rfl rfl rfl h23) ?_
              refine sk (skW rfl rfl rfl h23) ?_
              refine sk (skW rfl rfl rfl h23) ?_
              refine sk (skW rfl rfl rfl h23) ?_
              refine sk (skW rfl rfl rfl h23) ?_
              refine pkT (v := .sc (.bool true)) rfl rfl h23 rfl ?_
              refine RunC.fin ?_
              have hR := Option.some.inj hR; subst hR
              exact Weak.turnL [(61, 0)] [] rfl rfl (tc (trS' rfl rfl rfl rfl rfl) (tc trR1 (tc trR1 (tc (.sc _) tn)))) (mc rfl (btrA' rfl) mn)
            · refine pu (v := rowV _ r16.1) (wtG rfl rfl rfl h23) rfl (fun _ => rfl) ?_
              refine lenL (α := Source_) (wtG rfl rfl rfl h23) rfl ti41 rfl ?_
              refine pu (v := rowV _ r17.1) (wtG rfl rfl rfl h23) rfl (fun _ => rfl) ?_
              refine lenL (α := Source_) (wtG rfl rfl rfl h23) rfl ti41 rfl ?_
              refine pu (v := .sc _) (wtG rfl rfl rfl h23) rfl (fun _ => rfl) ?_
              refine pkF (v := .sc (.bool ((r16.1.length : Int) != (r17.1.length : Int)))) rfl rfl h23 rfl ?_
              refine RunC.fin ?_
              have hR := Option.some.inj hR; subst hR
              exact Weak.turnL [(61, 0)] [] rfl rfl (tc (trS' rfl rfl rfl rfl rfl) (tc trR1 (tc trR1 (tc (.sc _) tn)))) (mc rfl (btrA' rfl) mn)
    · refine AWP.cd hR rfl (fun h24 hR => ?_) fun h24 hR => ?_
      · refine AWP.sq ?_
        refine AWP.rgC 5 rfl rfl ?_
        refine pu (v := .sc _) rfl rfl (fun _ => rfl) ?_
        refine RunC.fin ?_
        refine AWP.ret ?_
        refine rtT ?_
        have hR := Option.some.inj hR; subst hR
        exact hQ _ _ (LS.mk [(4, .sc (.bool false))] (lblks 0 []) 0) (.sc (.bool false)) [] (.inr rfl) (Weak.turnL [] [] rfl rfl (tc (.sc _) tn) mn) (ro1 (rvT (v := .sc (.bool false)) rfl)) rfl rfl (.sc _) pn
      · refine AWP.skip ?_
        refine skT ?_
        refine AWP.sq ?_
        refine AWP.rgC 5 rfl rfl ?_
        refine pu (v := .sc _) rfl rfl (fun _ => rfl) ?_
        refine RunC.fin ?_
        refine AWP.sq ?_
        refine AWP.sq ?_
        refine AWP.rgC 17 rfl rfl ?_
        refine pu (v := rowV _ r16.1) rfl rfl (fun _ => rfl) ?_
        refine lenL (α := Source_) rfl rfl ti41 rfl ?_
        refine pu (v := .sc _) rfl rfl (fun _ => rfl) ?_
        refine RunC.fin ?_
        refine AWP.nilT Int 23 3 rfl ?_
        refine AWP.loopK' (fun s25 : (List Int) × Int => LS.mk [(17, slV Int 0 0 0 r15.1.length), (19, rowV (α := Source_) true r16.1), (21, rowV (α := Source_) true r17.1), (23, slV Int 1 0 0 s25.1.length), (133, .sc (.int .i64 (r16.1.length : Int))), (134, .sc (.int .i64 s25.2))] (lblks 0 [arrB (α := Int) 3 0 false r15.1, arrB (α := Int) 3 0 true s25.1]) 2) (fun z26 : (List Int) => LS.mk [(17, slV Int 0 0 0 r15.1.length), (23, slV Int 1 0 0 z26.length)] (lblks 0 [arrB (α := Int) 3 0 false r15.1, arrB (α := Int) 3 0 true z26]) 2) (spykeep4_FindShifted.l2 r16 r17) hR (s0 := (([] : List Int), 0)) (Weak.turnL [(0, 0), (17, 0)] [] rfl rfl (tc (trS' rfl rfl rfl rfl rfl) (tc trR1 (tc trR1 (tc (trS' rfl rfl rfl rfl rfl) (tc (.sc _) (tc (.sc _) tn)))))) (mc rfl (btrA' rfl) (mc rfl (btrA' rfl) mn))) (fun s25 o25 hR hE25 => ?_) fun z26 hR => ?_
        · unfold spykeep4_FindShifted.l2 at hR
          refine AWP.sq ?_
          refine AWP.rgC 6 rfl rfl ?_
          refine pu (v := .sc _) rfl rfl (fun _ => rfl) ?_
          refine RunC.fin ?_
          refine AWP.sq ?_
          refine AWP.cd hR rfl (fun h27 hR => ?_) fun h27 hR => ?_
          · refine AWP.skip ?_
            refine skT ?_
            refine AWP.sq ?_
            refine AWP.block ?_
            refine AWP.sq ?_
            refine AWP.rgC 14 rfl rfl ?_
            refine pu (v := .sc _) rfl rfl (fun _ => rfl) ?_
            refine pu (v := .sc _) rfl rfl (fun _ => rfl) ?_
            refine RunC.fin ?_
            refine AWP.sq ?_
            refine AWP.joinX (fun z28 : Bool => LS.mk [(17, slV Int 0 0 0 r15.1.length), (19, rowV (α := Source_) true r16.1), (21, rowV (α := Source_) true r17.1), (23, slV Int 1 0 0 s25.1.length), (24, .sc (.int .i64 s25.2)), (133, .sc (.int .i64 (r16.1.length : Int))), (134, .sc (.int .i64 s25.2)), (175, .sc (.bool z28))] (lblks 0 [arrB (α := Int) 3 0 false r15.1, arrB (α := Int) 3 0 true s25.1]) 2) hR (fun o28 hR => ?_) fun z28 hR => ?_
            · refine AWP.rgD 170 [0, 0, 3, 7, 15, 0, 0, 96, 224, 480, 1023, 2047, 4095, 4095, 16383, 32767, 65535, 4095, 4095, 397311, 921599, 1970175, 4194303, 8388607, 16777215, 33554431, 67108863, 67108863, 268435455, 536870911, 1073741823, 67108863, 67108863, 6509559807, 15099494399, 32279363583, 68719476735, 137438953471, 274877906943] ⟨[], [none, none, none, none, some [], none, none, none, none, some [], none, none, none, none, none, none, some [], none, none, none, none, some [], none, none, none, none, none, none, none, none, some [], none, none, none, none, some [], none, none, none]⟩ hmix (by kernel_rfl) rfl rfl ?_
              refine pu (v := rowV _ r16.1) rfl rfl (fun _ => rfl) ?_
              refine pu (v := .sc _) rfl rfl (fun _ => rfl) ?_
              obtain ⟨h29, hR⟩ := chkE hR
              refine ixL (α := Source_) rfl rfl rfl ti41 rfl ti46 rfl h29 ?_
              refine fr rfl rfl ti46 rfl rfl ti3 rfl ?_
              refine ldR (v := .sc _) rfl rfl ti3 rfl ?_
              refine pu (v := rowV _ r17.1) rfl rfl (fun _ => rfl) ?_
              refine pu (v := .sc _) rfl rfl (fun _ => rfl) ?_
              obtain ⟨h30, hR⟩ := chkE hR
              refine ixL (α := Source_) rfl rfl rfl ti41 rfl ti46 rfl h30 ?_
              refine fr rfl rfl ti46 rfl rfl ti3 rfl ?_
              refine ldR (v := .sc _) rfl rfl ti3 rfl ?_
              refine pu (v := .sc _) rfl rfl (fun _ => rfl) ?_
              refine pu (v := .sc _) rfl rfl (fun _ => rfl) ?_
              refine brR hR (fun h31 hR => ?_) fun h31 hR => ?_
              · refine sk (skW rfl rfl rfl h31) ?_
                refine sk (skW rfl rfl rfl h31) ?_
                refine sk (skW rfl rfl rfl h31) ?_
                refine sk (skW rfl rfl rfl h31) ?_
                refine sk (skW rfl rfl rfl h31) ?_
                refine sk (skW rfl rfl rfl h31) ?_
                refine sk (skW rfl rfl rfl h31) ?_
                refine sk (skW rfl rfl rfl h31) ?_
                refine sk (skW rfl rfl rfl h31) ?_
                refine sk (skW rfl rfl rfl h31) ?_
                refine sk (skW rfl rfl rfl h31) ?_
                refine sk (skW rfl rfl rfl h31) ?_
                refine pkT (v := .sc (.bool true)) rfl rfl h31 rfl ?_
                refine pu (v := .sc _) rfl rfl (fun _ => rfl) ?_
                refine sk (skW rfl rfl rfl rfl) ?_
                refine sk (skW rfl rfl rfl rfl) ?_
                refine sk (skW rfl rfl rfl rfl) ?_
                refine sk (skW rfl rfl rfl rfl) ?_
                refine sk (skW rfl rfl rfl rfl) ?_
                refine sk (skW rfl rfl rfl rfl) ?_
                refine sk (skW rfl rfl rfl rfl) ?_
                refine sk (skW rfl rfl rfl rfl) ?_
                refine sk (skW rfl rfl rfl rfl) ?_
                refine sk (skW rfl rfl rfl rfl) ?_
                refine sk (skW rfl rfl rfl rfl) ?_
                refine sk (skW rfl rfl rfl rfl) ?_
                refine pkT (v := .sc (.bool true)) rfl rfl rfl rfl ?_
                refine RunC.fin ?_
                have hR := Option.some.inj hR; subst hR
                exact Weak.turnL [(0, 0), (1, 0)] [] rfl rfl (tc (trS' rfl rfl rfl rfl rfl) (tc trR1 (tc trR1 (tc (trS' rfl rfl rfl rfl rfl) (tc (.sc _) (tc (.sc _) (tc (.sc _) (tc (.sc _) tn)))))))) (mc rfl (btrA' rfl) (mc rfl (btrA' rfl) mn))
              · refine pu (v := rowV _ r16.1) (wtG rfl rfl rfl h31) rfl (fun _ => rfl) ?_
                refine pu (v := .sc _) (wtG rfl rfl rfl h31) rfl (fun _ => rfl) ?_
                refine ixL (α := Source_) (wtG rfl rfl rfl h31) rfl rfl ti41 rfl ti46 rfl h29 ?_
                refine fr (wtG rfl rfl rfl h31) rfl ti46 rfl rfl ti22 rfl ?_
                refine ldR (v := rowV _ (gt r16.1 s25.2).Parts) (wtG rfl rfl rfl h31) rfl ti22 rfl ?_
                refine pu (v := rowV _ r17.1) (wtG rfl rfl rfl h31) rfl (fun _ => rfl) ?_
                refine pu (v := .sc _) (wtG rfl rfl rfl h31) rfl (fun _ => rfl) ?_
                refine ixL (α := Source_) (wtG rfl rfl rfl h31) rfl rfl ti41 rfl ti46 rfl h30 ?_
                refine fr (wtG rfl rfl rfl h31) rfl ti46 rfl rfl ti22 rfl ?_
                refine ldR (v := rowV _ (gt r17.1 s25.2).Parts) (wtG rfl rfl rfl h31) rfl ti22 rfl ?_
                obtain ⟨r32, hr32, hR⟩ := bindE hR
                refine cls [] (wtG rfl rfl rfl h31) rfl cb12 (ok12 (gt r16.1 s25.2).Parts (gt r17.1 s25.2).Parts _ hr32) (.cons ldR' (.cons ldR' (.nil))) (.inr rfl) rfl ?_
                refine pu (v := .sc _) (wtG rfl rfl rfl h31) rfl (fun _ => rfl) ?_
                refine pkF (v := .sc (.bool (!r32))) rfl rfl h31 rfl ?_
                refine pu (v := .sc _) rfl rfl (fun _ => rfl) ?_
                refine brR hR (fun h33 hR => ?_) fun h33 hR => ?_
                · refine sk (skW rfl rfl rfl h33) ?_
                  refine sk (skW rfl rfl rfl h33) ?_
                  refine sk (skW rfl rfl rfl h33) ?_
                  refine sk (skW rfl rfl rfl h33) ?_
                  refine sk (skW rfl rfl rfl h33) ?_
                  refine sk (skW rfl rfl rfl h33) ?_
                  refine sk (skW rfl rfl rfl h33) ?_
                  refine sk (skW rfl rfl rfl h33) ?_
                  refine sk (skW rfl rfl rfl h33) ?_
                  refine sk (skW rfl rfl rfl h33) ?_
                  refine sk (skW rfl rfl rfl h33) ?_
                  refine sk (skW rfl rfl rfl h33) ?_
                  refine pkT (v := .sc (.bool true)) rfl rfl h33 rfl ?_
                  refine RunC.fin ?_
                  have hR := Option.some.inj hR; subst hR
                  exact Weak.turnL [(0, 0), (1, 0)] [] rfl rfl (tc (trS' rfl rfl rfl rfl rfl) (tc trR1 (tc trR1 (tc (trS' rfl rfl rfl rfl rfl) (tc (.sc _) (tc (.sc _) (tc (.sc _) (tc (.sc _) tn)))))))) (mc rfl (btrA' rfl) (mc rfl (btrA' rfl) mn))
                · refine pu (v := rowV _ r16.1) (wtG rfl rfl rfl h33) rfl (fun _ => rfl) ?_
                  refine pu (v := .sc _) (wtG rfl rfl rfl h33) rfl (fun _ => rfl) ?_
                  refine ixL (α := Source_) (wtG rfl rfl rfl h33) rfl rfl ti41 rfl ti46 rfl h29 ?_
                  refine fr (wtG rfl rfl rfl h33) rfl ti46 rfl rfl ti22 rfl ?_
                  refine ldR (v := rowV _ (gt r16.1 s25.2).Parts) (wtG rfl rfl rfl h33) rfl ti22 rfl ?_
                  refine pu (v := rowV _ r16.1) (wtG rfl rfl rfl h33) rfl (fun _ => rfl) ?_
                  refine pu (v := .sc _) (wtG rfl rfl rfl h33) rfl (fun _ => rfl) ?_
                  refine ixL (α := Source_) (wtG rfl rfl rfl h33) rfl rfl ti41 rfl ti46 rfl h29 ?_
                  refine fr (wtG rfl rfl rfl h33) rfl ti46 rfl rfl ti3 rfl ?_
                  refine ldR (v := .sc _) (wtG rfl rfl rfl h33) rfl ti3 rfl ?_
                  obtain ⟨r34, hr34, hR⟩ := bindE hR
                  refine cls [] (wtG rfl rfl rfl h33) rfl cb13 (ok13 (gt r16.1 s25.2).Parts (gt r16.1 s25.2).Peak _ hr34) (.cons ldR' (.cons (.sc _) (.nil))) (.inr rfl) rfl ?_
                  refine pu (v := .sc _) (wtG rfl rfl rfl h33) rfl (fun _ => rfl) ?_
                  refine pkF (v := .sc (.bool (!r34))) rfl rfl h33 rfl ?_
                  refine RunC.fin ?_
                  have hR := Option.some.inj hR; subst hR
                  exact Weak.turnL [(0, 0), (1, 0)] [] rfl rfl (tc (trS' rfl rfl rfl rfl rfl) (tc trR1 (tc trR1 (tc (trS' rfl rfl rfl rfl rfl) (tc (.sc _) (tc (.sc _) (tc (.sc _) (tc (.sc _) tn)))))))) (mc rfl (btrA' rfl) (mc rfl (btrA' rfl) mn))
            · refine AWP.cd hR rfl (fun h35 hR => ?_) fun h35 hR => ?_
              · refine AWP.sq ?_
                refine AWP.rgC 6 rfl rfl ?_
                refine pu (v := .sc _) rfl rfl (fun _ => rfl) ?_
                refine RunC.fin ?_
                refine AWP.ret ?_
                refine rtT ?_
                refine rtB ?_
                refine rtT ?_
                refine rtT ?_
                refine rtB (rtT ?_)
                replace hR := escL hR hE25
                refine rtT ?_
                have hR := Option.some.inj hR; subst hR
                exact hQ _ _ (LS.mk [(4, .sc (.bool false))] (lblks 0 []) 0) (.sc (.bool false)) [] (.inr rfl) (Weak.turnL [] [] rfl rfl (tc (.sc _) tn) mn) (ro1 (rvT (v := .sc (.bool false)) rfl)) rfl rfl (.sc _) pn
              · refine AWP.skip ?_
                refine skT ?_
                refine AWP.rgC 34 rfl rfl ?_
                refine pu (v := slV Int _ _ _ _) rfl rfl (fun _ => rfl) ?_
                refine pu (v := rowV _ r16.1) rfl rfl (fun _ => rfl) ?_
                refine pu (v := .sc _) rfl rfl (fun _ => rfl) ?_
                obtain ⟨h36, hR⟩ := chkE hR
                refine ixL (α := Source_) rfl rfl rfl ti41 rfl ti46 rfl h36 ?_
                refine fr rfl rfl ti46 rfl rfl ti22 rfl ?_
                refine ldR (v := rowV _ (gt r16.1 s25.2).Parts) rfl rfl ti22 rfl ?_
                obtain ⟨h37, hR⟩ := chkE hR
                refine ap' (α := Int) (nw := true) (xs := s25.1) (ys := (gt r16.1 s25.2).Parts) rfl rfl rfl rfl (srcR' rfl) ti22 rfl ti3 rfl h37 rfl ?_
                refine pu (v := slV Int _ _ _ _) rfl rfl (fun _ => rfl) ?_
                refine RunC.blk ?_
                refine RunC.fin ?_
                refine AWP.rgC 42 rfl rfl ?_
                refine pu (v := .sc _) rfl rfl (fun _ => rfl) ?_
                refine pu (v := .sc _) rfl rfl (fun _ => rfl) ?_
                refine RunC.fin ?_
                refine ⟨(s25.1 ++ (gt r16.1 s25.2).Parts, w6 (s25.2 + 1)), (Option.some.inj hR).symm, ?_⟩
                exact Weak.turnL [(0, 0), (1, 0)] [] rfl rfl (tc (trS' rfl rfl rfl rfl rfl) (tc trR1 (tc trR1 (tc (trS' rfl rfl rfl rfl rfl) (tc (.sc _) (tc (.sc _) tn)))))) (mc rfl (btrA' rfl) (mc rfl (btrA' rfl) mn))
          · refine AWP.exit ?_
            refine exT ?_
            refine exT ?_
            refine exH (skT ?_)
            refine ⟨s25.1, (Option.some.inj hR).symm, ?_⟩
            exact Weak.turnL [(0, 0), (1, 0)] [] rfl rfl (tc (trS' rfl rfl rfl rfl rfl) (tc (trS' rfl rfl rfl rfl rfl) tn)) (mc rfl (btrA' rfl) (mc rfl (btrA' rfl) mn))
        · refine skT ?_
          refine AWP.sq ?_
          refine AWP.rgC 10 rfl rfl ?_
          refine pu (v := slV Int _ _ _ _) rfl rfl (fun _ => rfl) ?_
          obtain ⟨r38, hr38, hR⟩ := bindE hR
          obtain ⟨h39, hR⟩ := chkE hR
          refine cps (res' := .tup []) (ups := [(1, arrB (α := Int) 3 0 false r38)]) [1] 6 rfl rfl rfl cb14 (ok14 z26 _ hr38) (.cons (ldM rfl rfl) (.nil)) (pc rfl bldA pn) rfl rfl rfl rfl rfl (by first | rfl | exact renR | exact renA | exact renS | simp only [V.ren, V.rens, renR, renA, renS] | (simp only [V.ren, V.rens, renR, renA, renS]; rfl)) (by simp only [passUps, renBox, renArr]; rfl) ?_
          refine RunC.fin ?_
          refine AWP.sq ?_
          refine AWP.rgC 18 rfl rfl ?_
          refine pu (v := slV Int _ _ _ _) rfl rfl (fun _ => rfl) ?_
          obtain ⟨r40, hr40, hR⟩ := bindE hR
          obtain ⟨h41, hR⟩ := chkE hR
          refine cps (res' := .tup []) (ups := [(0, arrB (α := Int) 3 0 false r40)]) [0] 14 rfl rfl rfl cb14 (ok14 r15.1 _ hr40) (.cons (ldM rfl rfl) (.nil)) (pc rfl bldA pn) rfl rfl rfl rfl rfl (by first | rfl | exact renR | exact renA | exact renS | simp only [V.ren, V.rens, renR, renA, renS] | (simp only [V.ren, V.rens, renR, renA, renS]; rfl)) (by simp only [passUps, renBox, renArr]; rfl) ?_
          refine RunC.fin ?_
          refine AWP.sq ?_
          refine AWP.rgC 34 rfl rfl ?_
          refine pu (v := slV Int _ _ _ _) rfl rfl (fun _ => rfl) ?_
          refine pu (v := slV Int _ _ _ _) rfl rfl (fun _ => rfl) ?_
          obtain ⟨r42, hr42, hR⟩ := bindE hR
          refine cls [0, 1] rfl rfl cb12 (ok12 r38 r40 _ hr42) (.cons (ldS' rfl rfl rfl h39) (.cons (ldS' rfl rfl rfl h41) (.nil))) (.inl (by first | rfl | exact freshR | exact freshA | (simp only [V.fresh, V.freshs, freshR, freshA, Bool.and_self]))) rfl ?_
          refine pu (v := .sc _) rfl rfl (fun _ => rfl) ?_
          refine RunC.fin ?_
          refine AWP.ret ?_
          have hR := Option.some.inj hR; subst hR
          exact hQ _ _ (LS.mk [(4, .sc (.bool r42))] (lblks 0 []) 0) (.sc (.bool r42)) [] (.inr rfl) (Weak.turnL [] [] rfl rfl (tc (.sc _) tn) mn) (ro1 (rvT (v := .sc (.bool r42)) rfl)) rfl rfl (.sc _) pn
end Go.Proofs.Fsd
