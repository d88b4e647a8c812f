/- Each function of the program computes its plain function. Conditions: as each theorem states them. -/
import Derived.Test.YtnifnojpagapnaaT
import Derived.Test.YtnifnojpagapnaaP1
namespace Go.Proofs.Sto
open Go Go.Abs Lf
set_option linter.unusedVariables false
set_option linter.unusedSimpArgs false
set_option maxRecDepth 100000
set_option maxHeartbeats 1000000
theorem ok3 (l : List Int) (turn : Int) (part : Int) (r : Bool) (hR : spykeep4_StackOrder l turn part = some r) : FnP Try.prog 3 [rowV false l, .sc (.int .i64 turn), .sc (.int .i64 part)] (.sc (.bool r)) := by
  refine fnP_of (FnX.walk Try.func3 rfl 220 0 (by simp [Try.ntmps3]) rfl fun W S F Q hQ => ?_)
  unfold spykeep4_StackOrder at hR
  refine AWP.sq ?_
  refine AWP.rgC 4 rfl rfl ?_
  refine pu (v := .sc _) rfl rfl (fun _ => rfl) ?_
  refine RunC.fin ?_
  refine AWP.sq ?_
  refine AWP.rgC 20 rfl rfl ?_
  refine pu (v := rowV _ l) rfl rfl (fun _ => rfl) ?_
  refine bu (cs := [rowV (α := Int) false l, .sc (.int .i64 0)]) rfl bt25 rfl ?_
  refine bx (cs := _) 12 rfl rfl rfl ?_
  refine pu (v := .ptr _ _ _) rfl rfl (fun _ => rfl) ?_
  refine RunC.fin ?_
  refine AWP.sq ?_
  refine AWP.rgC 44 rfl rfl ?_
  refine pu (v := .ptr _ _ _) rfl rfl (fun _ => rfl) ?_
  obtain ⟨r1, hr1, hR⟩ := bindE hR
  refine cps (res' := .sc (.int .i64 r1.1)) (ups := [(12, boxB (α := spymake_Stream) false r1.2)]) [12] 24 rfl rfl rfl cb4 (ok4 (spymake_Stream.mk l 0) 1 6 _ hr1) (.cons (ldP rfl rfl) (.cons (.sc _) (.cons (.sc _) (.nil)))) (pc rfl (.box (.cons ldR' (.cons (.sc _) (.nil))) rfl) pn) rfl rfl rfl rfl rfl (by first | rfl | exact renR | exact renA | exact renS | simp only [V.ren, V.rens, renR, renA, renS] | (simp only [V.ren, V.rens, renR, renA, renS]; rfl)) (by simp only [passUps, renBox, renArr]; rfl) ?_
  refine pu (v := .ptr _ _ _) rfl rfl (fun _ => rfl) ?_
  obtain ⟨r2, hr2, hR⟩ := bindE hR
  refine cps (res' := .sc (.int .i64 r2.1)) (ups := [(12, boxB (α := spymake_Stream) false r2.2)]) [12] 32 rfl rfl rfl cb4 (ok4 r1.2 1 6 _ hr2) (.cons (ldP rfl rfl) (.cons (.sc _) (.cons (.sc _) (.nil)))) (pc rfl (.box (.cons ldR' (.cons (.sc _) (.nil))) rfl) pn) rfl rfl rfl rfl rfl (by first | rfl | exact renR | exact renA | exact renS | simp only [V.ren, V.rens, renR, renA, renS] | (simp only [V.ren, V.rens, renR, renA, renS]; rfl)) (by simp only [passUps, renBox, renArr]; rfl) ?_
  refine pu (v := .sc _) rfl rfl (fun _ => rfl) ?_
  refine pu (v := .sc _) rfl rfl (fun _ => rfl) ?_
  refine RunC.fin ?_
  refine AWP.sq ?_
  refine AWP.rgC 52 rfl rfl ?_
  refine pu (v := .sc _) rfl rfl (fun _ => rfl) ?_
  refine pu (v := .sc _) rfl rfl (fun _ => rfl) ?_
  refine RunC.fin ?_
  refine AWP.sq ?_
  refine AWP.rgC 64 rfl rfl ?_
  refine pu (v := .ptr _ _ _) rfl rfl (fun _ => rfl) ?_
  obtain ⟨r3, hr3, hR⟩ := bindE hR
  refine cps (res' := .sc (.int .i64 r3.1)) (ups := [(12, boxB (α := spymake_Stream) false r3.2)]) [12] 56 rfl rfl rfl cb4 (ok4 r2.2 1 8 _ hr3) (.cons (ldP rfl rfl) (.cons (.sc _) (.cons (.sc _) (.nil)))) (pc rfl (.box (.cons ldR' (.cons (.sc _) (.nil))) rfl) pn) rfl rfl rfl rfl rfl (by first | rfl | exact renR | exact renA | exact renS | simp only [V.ren, V.rens, renR, renA, renS] | (simp only [V.ren, V.rens, renR, renA, renS]; rfl)) (by simp only [passUps, renBox, renArr]; rfl) ?_
  refine pu (v := .sc _) rfl rfl (fun _ => rfl) ?_
  refine RunC.fin ?_
  refine AWP.sq ?_
  refine AWP.sq ?_
  refine AWP.rgC 72 rfl rfl ?_
  refine pu (v := .sc _) rfl rfl (fun _ => rfl) ?_
  refine pu (v := .sc _) rfl rfl (fun _ => rfl) ?_
  refine RunC.fin ?_
  refine AWP.nilT Cells 10 30 rfl ?_
  refine AWP.loopJ (fun s4 : spymake_Stream × (List Cells) × Int => LS.mk [(1, .sc (.int .i64 turn)), (2, .sc (.int .i64 part)), (7, .ptr 0 0 0), (8, .sc (.int .i64 r1.1)), (9, .sc (.int .i64 r2.1)), (10, slV Cells 1 0 0 s4.2.1.length), (11, .sc (.slice none 0 0)), (12, .sc (.int .i64 r3.1)), (42, .sc (.int .i64 r3.1)), (43, .sc (.int .i64 s4.2.2))] (lblks 0 [boxB (α := spymake_Stream) false s4.1, arrB (α := Cells) 30 0 true s4.2.1]) 2) (fun z5 : (List Cells) => LS.mk [(1, .sc (.int .i64 turn)), (2, .sc (.int .i64 part)), (8, .sc (.int .i64 r1.1)), (9, .sc (.int .i64 r2.1)), (10, slV Cells 0 0 0 z5.length), (11, .sc (.slice none 0 0)), (12, .sc (.int .i64 r3.1))] (lblks 0 [arrB (α := Cells) 30 0 true z5]) 1) (spykeep4_StackOrder.l1 r1 r2 r3) hR (s0 := (r3.2, ([] : List Cells), 0)) (Weak.turnL [(12, 0), (72, 0)] [] rfl rfl (tc (.sc _) (tc (.sc _) (tc (trP' rfl rfl rfl rfl) (tc (.sc _) (tc (.sc _) (tc (trS' rfl rfl rfl rfl rfl) (tc (.sc _) (tc (.sc _) (tc (.sc _) (tc (.sc _) tn)))))))))) (mc rfl (.box rfl (.cons trR1 (.cons (.sc _) (.nil))) rfl) (mc rfl (btrA' rfl) mn))) (fun s4 o4 hR => ?_) fun z5 hR => ?_
  · unfold spykeep4_StackOrder.l1 at hR
    refine AWP.sq ?_
    refine AWP.rgC 6 rfl rfl ?_
    refine pu (v := .sc _) rfl rfl (fun _ => rfl) ?_
    refine RunC.fin ?_
    refine AWP.sq ?_
    refine AWP.cd hR rfl (fun h6 hR => ?_) fun h6 hR => ?_
    · refine AWP.skip ?_
      refine skT ?_
      refine AWP.sq ?_
      refine AWP.block ?_
      refine AWP.rgC 38 rfl rfl ?_
      refine pu (v := slV Cells _ _ _ _) rfl rfl (fun _ => rfl) ?_
      refine pu (v := .ptr _ _ _) rfl rfl (fun _ => rfl) ?_
      refine pu (v := .sc _) rfl rfl (fun _ => rfl) ?_
      refine pu (v := .sc _) rfl rfl (fun _ => rfl) ?_
      obtain ⟨r7, hr7, hR⟩ := bindE hR
      refine cps (res' := aggV (α := Cells) true r7.1) (ups := [(0, boxB (α := spymake_Stream) false r7.2)]) [0] 22 rfl rfl rfl cb5 (ok5 s4.1 r1.1 r2.1 _ hr7) (.cons (ldP rfl rfl) (.cons (.sc _) (.cons (.sc _) (.nil)))) (pc rfl (.box (.cons ldR' (.cons (.sc _) (.nil))) rfl) pn) rfl rfl rfl rfl rfl (by first | rfl | exact renR | exact renA | exact renS | simp only [V.ren, V.rens, renR, renA, renS] | (simp only [V.ren, V.rens, renR, renA, renS]; rfl)) (by simp only [passUps, renBox, renArr]; rfl) ?_
      refine bs (α := Cells) 26 true ([r7.1] : List Cells) rfl rfl ti27 rfl ti30 rfl rfl rfl rfl rfl ?_
      obtain ⟨h8, hR⟩ := chkE hR
      refine ap' (α := Cells) (nw := true) (xs := s4.2.1) (ys := ([r7.1] : List Cells)) rfl rfl rfl rfl (srcS' rfl rfl rfl) ti27 rfl ti30 rfl h8 rfl ?_
      refine pu (v := slV Cells _ _ _ _) rfl rfl (fun _ => rfl) ?_
      refine RunC.blk ?_
      refine RunC.fin ?_
      refine AWP.rgC 46 rfl rfl ?_
      refine pu (v := .sc _) rfl rfl (fun _ => rfl) ?_
      refine pu (v := .sc _) rfl rfl (fun _ => rfl) ?_
      refine RunC.fin ?_
      refine ⟨(r7.2, s4.2.1 ++ ([r7.1] : List Cells), w6 (s4.2.2 + 1)), (Option.some.inj hR).symm, ?_⟩
      exact Weak.turnL [(0, 0), (1, 0)] [] rfl rfl (tc (.sc _) (tc (.sc _) (tc (trP' rfl rfl rfl rfl) (tc (.sc _) (tc (.sc _) (tc (trS' rfl rfl rfl rfl rfl) (tc (.sc _) (tc (.sc _) (tc (.sc _) (tc (.sc _) tn)))))))))) (mc rfl (.box rfl (.cons trR1 (.cons (.sc _) (.nil))) rfl) (mc rfl (btrA' rfl) mn))
    · refine AWP.exit ?_
      refine exT ?_
      refine exT ?_
      refine exH (skT ?_)
      refine ⟨s4.2.1, (Option.some.inj hR).symm, ?_⟩
      exact Weak.turnL [(1, 0)] [] rfl rfl (tc (.sc _) (tc (.sc _) (tc (.sc _) (tc (.sc _) (tc (trS' rfl rfl rfl rfl rfl) (tc (.sc _) (tc (.sc _) tn))))))) (mc rfl (btrA' rfl) mn)
  · refine skT ?_
    refine AWP.sq ?_
    refine AWP.rgC 17 rfl rfl ?_
    refine pu (v := .sc _) rfl rfl (fun _ => rfl) ?_
    refine pu (v := .sc _) rfl rfl (fun _ => rfl) ?_
    obtain ⟨r9, hr9, hR⟩ := bindE hR
    refine cls [] rfl rfl cb6 (ok6 turn r3.1 _ hr9) (.cons (.sc _) (.cons (.sc _) (.nil))) (.inr rfl) rfl ?_
    refine pu (v := .sc _) rfl rfl (fun _ => rfl) ?_
    refine RunC.fin ?_
    refine AWP.sq ?_
    refine AWP.sq ?_
    refine AWP.rgC 25 rfl rfl ?_
    refine pu (v := .sc _) rfl rfl (fun _ => rfl) ?_
    refine pu (v := .sc _) rfl rfl (fun _ => rfl) ?_
    refine RunC.fin ?_
    refine AWP.nilT Cells 11 30 rfl ?_
    refine AWP.loopJ (fun s10 : (List Cells) × Int => LS.mk [(1, .sc (.int .i64 r9)), (2, .sc (.int .i64 part)), (8, .sc (.int .i64 r1.1)), (9, .sc (.int .i64 r2.1)), (10, slV Cells 0 0 0 z5.length), (11, slV Cells 1 0 0 s10.1.length), (12, .sc (.int .i64 r3.1)), (56, .sc (.int .i64 r3.1)), (57, .sc (.int .i64 s10.2))] (lblks 0 [arrB (α := Cells) 30 0 true z5, arrB (α := Cells) 30 0 true s10.1]) 2) (fun z11 : (List Cells) => LS.mk [(2, .sc (.int .i64 part)), (8, .sc (.int .i64 r1.1)), (9, .sc (.int .i64 r2.1)), (10, slV Cells 0 0 0 z5.length), (11, slV Cells 1 0 0 z11.length), (12, .sc (.int .i64 r3.1))] (lblks 0 [arrB (α := Cells) 30 0 true z5, arrB (α := Cells) 30 0 true z11]) 2) (spykeep4_StackOrder.l2 r3 z5 r9) hR (s0 := (([] : List Cells), 0)) (Weak.turnL [(0, 0), (25, 0)] [] rfl rfl (tc (.sc _) (tc (.sc _) (tc (.sc _) (tc (.sc _) (tc (trS' rfl rfl rfl rfl rfl) (tc (trS' rfl rfl rfl rfl rfl) (tc (.sc _) (tc (.sc _) (tc (.sc _) tn))))))))) (mc rfl (btrA' rfl) (mc rfl (btrA' rfl) mn))) (fun s10 o10 hR => ?_) fun z11 hR => ?_
    · unfold spykeep4_StackOrder.l2 at hR
      refine AWP.sq ?_
      refine AWP.rgC 6 rfl rfl ?_
      refine pu (v := .sc _) rfl rfl (fun _ => rfl) ?_
      refine RunC.fin ?_
      refine AWP.sq ?_
      refine AWP.cd hR rfl (fun h12 hR => ?_) fun h12 hR => ?_
      · refine AWP.skip ?_
        refine skT ?_
        refine AWP.sq ?_
        refine AWP.block ?_
        refine AWP.sq ?_
        refine AWP.rgC 14 rfl rfl ?_
        refine pu (v := .sc _) rfl rfl (fun _ => rfl) ?_
        refine pu (v := .sc _) rfl rfl (fun _ => rfl) ?_
        refine RunC.fin ?_
        refine AWP.rgC 74 rfl rfl ?_
        refine pu (v := slV Cells _ _ _ _) rfl rfl (fun _ => rfl) ?_
        refine pu (v := slV Cells _ _ _ _) rfl rfl (fun _ => rfl) ?_
        refine pu (v := .sc _) rfl rfl (fun _ => rfl) ?_
        refine pu (v := .sc _) rfl rfl (fun _ => rfl) ?_
        refine pu (v := .sc _) rfl rfl (fun _ => rfl) ?_
        refine pu (v := .sc _) rfl rfl (fun _ => rfl) ?_
        refine pu (v := .sc _) rfl rfl (fun _ => rfl) ?_
        refine pu (v := .sc _) rfl rfl (fun _ => rfl) ?_
        refine pu (v := .sc _) rfl rfl (fun _ => rfl) ?_
        obtain ⟨h13, hR⟩ := chkE hR
        refine rm rfl rfl rfl h13 rfl ?_
        obtain ⟨h14, hR⟩ := chkE hR
        refine ixS0 (α := Cells) rfl rfl rfl ti27 rfl ti30 rfl h14 ?_
        refine ldE (α := Cells) (v := .agg _) rfl rfl rfl (ixlt h14) ti30 rfl rfl rfl rfl ?_
        refine bs (α := Cells) 62 true ([(gt z5 (Int.tmod (w6 ((w6 ((w6 (r3.1 - 1)) - s10.2)) + r9)) r3.1))] : List Cells) rfl rfl ti27 rfl ti30 rfl rfl rfl rfl rfl ?_
        obtain ⟨h15, hR⟩ := chkE hR
        refine ap' (α := Cells) (nw := true) (xs := s10.1) (ys := ([(gt z5 (Int.tmod (w6 ((w6 ((w6 (r3.1 - 1)) - s10.2)) + r9)) r3.1))] : List Cells)) rfl rfl rfl rfl (srcS' rfl rfl rfl) ti27 rfl ti30 rfl h15 rfl ?_
        refine pu (v := slV Cells _ _ _ _) rfl rfl (fun _ => rfl) ?_
        refine RunC.blk ?_
        refine RunC.fin ?_
        refine AWP.rgC 82 rfl rfl ?_
        refine pu (v := .sc _) rfl rfl (fun _ => rfl) ?_
        refine pu (v := .sc _) rfl rfl (fun _ => rfl) ?_
        refine RunC.fin ?_
        refine ⟨(s10.1 ++ ([(gt z5 (Int.tmod (w6 ((w6 ((w6 (r3.1 - 1)) - s10.2)) + r9)) r3.1))] : List Cells), w6 (s10.2 + 1)), (Option.some.inj hR).symm, ?_⟩
        exact Weak.turnL [(0, 0), (1, 0)] [] rfl rfl (tc (.sc _) (tc (.sc _) (tc (.sc _) (tc (.sc _) (tc (trS' rfl rfl rfl rfl rfl) (tc (trS' rfl rfl rfl rfl rfl) (tc (.sc _) (tc (.sc _) (tc (.sc _) tn))))))))) (mc rfl (btrA' rfl) (mc rfl (btrA' rfl) mn))
      · refine AWP.exit ?_
        refine exT ?_
        refine exT ?_
        refine exH (skT ?_)
        refine ⟨s10.1, (Option.some.inj hR).symm, ?_⟩
        exact Weak.turnL [(0, 0), (1, 0)] [] rfl rfl (tc (.sc _) (tc (.sc _) (tc (.sc _) (tc (trS' rfl rfl rfl rfl rfl) (tc (trS' rfl rfl rfl rfl rfl) (tc (.sc _) tn)))))) (mc rfl (btrA' rfl) (mc rfl (btrA' rfl) mn))
    · refine skT ?_
      refine AWP.sq ?_
      refine AWP.rgC 22 rfl rfl ?_
      refine pu (v := .sc _) rfl rfl (fun _ => rfl) ?_
      refine pu (v := .sc _) rfl rfl (fun _ => rfl) ?_
      refine pu (v := .sc _) rfl rfl (fun _ => rfl) ?_
      obtain ⟨r16, hr16, hR⟩ := bindE hR
      refine cls [] rfl rfl cb6 (ok6 part (w6 (r3.1 + 1)) _ hr16) (.cons (.sc _) (.cons (.sc _) (.nil))) (.inr rfl) rfl ?_
      refine pu (v := .sc _) rfl rfl (fun _ => rfl) ?_
      refine RunC.fin ?_
      refine AWP.sq ?_
      refine AWP.rgC 62 rfl rfl ?_
      refine pu (v := .sc _) rfl rfl (fun _ => rfl) ?_
      refine pu (v := .sc _) rfl rfl (fun _ => rfl) ?_
      refine pu (v := slV Cells _ _ _ _) rfl rfl (fun _ => rfl) ?_
      obtain ⟨r17, hr17, hR⟩ := bindE hR
      refine cls [0] rfl rfl cb7 (ok7 r1.1 r2.1 z5 _ hr17) (.cons (.sc _) (.cons (.sc _) (.cons (ldS' rfl rfl rfl rfl) (.nil)))) (.inl (by first | rfl | exact freshR | exact freshA | (simp only [V.fresh, V.freshs, freshR, freshA, Bool.and_self]))) rfl ?_
      refine pu (v := .tup _) rfl rfl (fun _ => rfl) ?_
      refine pu (v := .agg _) rfl rfl (fun _ => rfl) ?_
      refine pu (v := .sc _) rfl rfl (fun _ => rfl) ?_
      refine al (cs := [.sc (.int .i64 0), .sc (.int .i64 0), .sc (.int .i64 0), .sc (.slice none 0 0), .sc (.slice none 0 0)]) 50 rfl rfl ti33 rfl rfl ?_
      refine stB (cs' := [.sc (.int .i64 r17.1.W), .sc (.int .i64 r17.1.H), .sc (.int .i64 r17.1.N), rowV (α := Int) true r17.1.Holes, rowV (α := Bound) true r17.1.At]) rfl rfl rfl rfl ti33 rfl rfl rfl rfl rfl ?_
      refine pu (v := .sc _) rfl rfl (fun _ => rfl) ?_
      refine RunC.fin ?_
      refine AWP.sq ?_
      refine AWP.rgC 102 rfl rfl ?_
      refine pu (v := .sc _) rfl rfl (fun _ => rfl) ?_
      refine pu (v := .sc _) rfl rfl (fun _ => rfl) ?_
      refine pu (v := slV Cells _ _ _ _) rfl rfl (fun _ => rfl) ?_
      obtain ⟨r18, hr18, hR⟩ := bindE hR
      refine cls [1] rfl rfl cb7 (ok7 r1.1 r2.1 z11 _ hr18) (.cons (.sc _) (.cons (.sc _) (.cons (ldS' rfl rfl rfl rfl) (.nil)))) (.inl (by first | rfl | exact freshR | exact freshA | (simp only [V.fresh, V.freshs, freshR, freshA, Bool.and_self]))) rfl ?_
      refine pu (v := .tup _) rfl rfl (fun _ => rfl) ?_
      refine pu (v := .agg _) rfl rfl (fun _ => rfl) ?_
      refine pu (v := .sc _) rfl rfl (fun _ => rfl) ?_
      refine al (cs := [.sc (.int .i64 0), .sc (.int .i64 0), .sc (.int .i64 0), .sc (.slice none 0 0), .sc (.slice none 0 0)]) 90 rfl rfl ti33 rfl rfl ?_
      refine stB (cs' := [.sc (.int .i64 r18.1.W), .sc (.int .i64 r18.1.H), .sc (.int .i64 r18.1.N), rowV (α := Int) true r18.1.Holes, rowV (α := Bound) true r18.1.At]) rfl rfl rfl rfl ti33 rfl rfl rfl rfl rfl ?_
      refine pu (v := .sc _) rfl rfl (fun _ => rfl) ?_
      refine RunC.fin ?_
      refine AWP.sq ?_
      refine AWP.weaken (s' := (LS.mk [(2, .sc (.int .i64 r16)), (8, .sc (.int .i64 r1.1)), (9, .sc (.int .i64 r2.1)), (10, rowV (α := Cells) true z5), (11, slV Cells 0 0 0 z11.length), (12, .sc (.int .i64 r3.1)), (14, .ptr 1 0 0), (15, .sc (.int .i64 r17.2)), (16, .ptr 2 0 0), (17, .sc (.int .i64 r18.2)), (75, .sc (.int .i64 part)), (76, .sc (.int .i64 r3.1)), (77, .sc (.int .i64 (w6 (r3.1 + 1)))), (78, .sc (.int .i64 r16)), (79, .tup [aggV (α := stack_Stack) true r17.1, .sc (.int .i64 r17.2)]), (80, .sc (.int .i64 r1.1)), (81, .sc (.int .i64 r2.1)), (82, rowV (α := Cells) true z5), (83, .tup [aggV (α := stack_Stack) true r17.1, .sc (.int .i64 r17.2)]), (84, aggV (α := stack_Stack) true r17.1), (85, .sc (.int .i64 r17.2)), (86, .tup [aggV (α := stack_Stack) true r18.1, .sc (.int .i64 r18.2)]), (87, .sc (.int .i64 r1.1)), (88, .sc (.int .i64 r2.1)), (89, slV Cells 0 0 0 z11.length), (90, .tup [aggV (α := stack_Stack) true r18.1, .sc (.int .i64 r18.2)]), (91, aggV (α := stack_Stack) true r18.1), (92, .sc (.int .i64 r18.2))] (lblks 0 [arrB (α := Cells) 30 0 true z11, boxB (α := stack_Stack) true r17.1, boxB (α := stack_Stack) true r18.1]) 3).st) (Weak.turnL [(1, 0), (50, 0), (90, 0)] [0] rfl rfl (tc (.sc _) (tc (.sc _) (tc (.sc _) (tc (trF' rfl rfl id rfl) (tc (trS' rfl rfl rfl rfl rfl) (tc (.sc _) (tc (trP' rfl rfl rfl rfl) (tc (.sc _) (tc (trP' rfl rfl rfl rfl) (tc (.sc _) (tc (.sc _) (tc (.sc _) (tc (.sc _) (tc (.sc _) (tc (.tup (.cons (.agg (.cons (.sc _) (.cons (.sc _) (.cons (.sc _) (.cons trR1 (.cons trR1 (.nil)))))) rfl) (.cons (.sc _) (.nil)))) (tc (.sc _) (tc (.sc _) (tc (trF' rfl rfl id rfl) (tc (.tup (.cons (.agg (.cons (.sc _) (.cons (.sc _) (.cons (.sc _) (.cons trR1 (.cons trR1 (.nil)))))) rfl) (.cons (.sc _) (.nil)))) (tc (.agg (.cons (.sc _) (.cons (.sc _) (.cons (.sc _) (.cons trR1 (.cons trR1 (.nil)))))) rfl) (tc (.sc _) (tc (.tup (.cons (.agg (.cons (.sc _) (.cons (.sc _) (.cons (.sc _) (.cons trR1 (.cons trR1 (.nil)))))) rfl) (.cons (.sc _) (.nil)))) (tc (.sc _) (tc (.sc _) (tc (trS' rfl rfl rfl rfl rfl) (tc (.tup (.cons (.agg (.cons (.sc _) (.cons (.sc _) (.cons (.sc _) (.cons trR1 (.cons trR1 (.nil)))))) rfl) (.cons (.sc _) (.nil)))) (tc (.agg (.cons (.sc _) (.cons (.sc _) (.cons (.sc _) (.cons trR1 (.cons trR1 (.nil)))))) rfl) (tc (.sc _) tn)))))))))))))))))))))))))))) (mc rfl (btrA' rfl) (mc rfl (.box rfl (.cons (.sc _) (.cons (.sc _) (.cons (.sc _) (.cons trR1 (.cons trR1 (.nil)))))) rfl) (mc rfl (.box rfl (.cons (.sc _) (.cons (.sc _) (.cons (.sc _) (.cons trR1 (.cons trR1 (.nil)))))) rfl) mn)))) ?_
      refine AWP.rgC 51 rfl rfl ?_
      refine pu (v := .sc _) rfl rfl (fun _ => rfl) ?_
      refine pu (v := .sc _) rfl rfl (fun _ => rfl) ?_
      refine pu (v := rowV _ z5) rfl rfl (fun _ => rfl) ?_
      refine pu (v := .sc _) rfl rfl (fun _ => rfl) ?_
      obtain ⟨h19, hR⟩ := chkE hR
      obtain ⟨h20, hR⟩ := chkE hR
      refine slL (α := Cells) 0 r16.toNat rfl rfl ti27 rfl ti30 rfl rfl (bd_int h19) h20 ?_
      obtain ⟨r21, hr21, hR⟩ := bindE hR
      refine cls [] rfl rfl cb7 (ok7 r1.1 r2.1 ((List.drop 0 z5).take (r16.toNat - 0)) _ hr21) (.cons (.sc _) (.cons (.sc _) (.cons ldR' (.nil)))) (.inr rfl) rfl ?_
      refine pu (v := .tup _) rfl rfl (fun _ => rfl) ?_
      refine pu (v := .agg _) rfl rfl (fun _ => rfl) ?_
      refine pu (v := .sc _) rfl rfl (fun _ => rfl) ?_
      refine al (cs := [.sc (.int .i64 0), .sc (.int .i64 0), .sc (.int .i64 0), .sc (.slice none 0 0), .sc (.slice none 0 0)]) 39 rfl rfl ti33 rfl rfl ?_
      refine stB (cs' := [.sc (.int .i64 r21.1.W), .sc (.int .i64 r21.1.H), .sc (.int .i64 r21.1.N), rowV (α := Int) true r21.1.Holes, rowV (α := Bound) true r21.1.At]) rfl rfl rfl rfl ti33 rfl rfl rfl rfl rfl ?_
      refine pu (v := .sc _) rfl rfl (fun _ => rfl) ?_
      refine RunC.fin ?_
      refine AWP.sq ?_
      refine AWP.rgC 99 rfl rfl ?_
      refine pu (v := .sc _) rfl rfl (fun _ => rfl) ?_
      refine pu (v := .sc _) rfl rfl (fun _ => rfl) ?_
      refine pu (v := rowV _ z5) rfl rfl (fun _ => rfl) ?_
      refine pu (v := .sc _) rfl rfl (fun _ => rfl) ?_
      obtain ⟨h22, hR⟩ := chkE hR
      refine slL (α := Cells) r16.toNat z5.length rfl rfl ti27 rfl ti30 rfl (bd_int h19) rfl h22 ?_
      obtain ⟨r23, hr23, hR⟩ := bindE hR
      refine cls [] rfl rfl cb7 (ok7 r1.1 r2.1 ((List.drop r16.toNat z5).take (z5.length - r16.toNat)) _ hr23) (.cons (.sc _) (.cons (.sc _) (.cons ldR' (.nil)))) (.inr rfl) rfl ?_
      refine pu (v := .tup _) rfl rfl (fun _ => rfl) ?_
      refine pu (v := .agg _) rfl rfl (fun _ => rfl) ?_
      refine pu (v := .sc _) rfl rfl (fun _ => rfl) ?_
      refine al (cs := [.sc (.int .i64 0), .sc (.int .i64 0), .sc (.int .i64 0), .sc (.slice none 0 0), .sc (.slice none 0 0)]) 87 rfl rfl ti33 rfl rfl ?_
      refine stB (cs' := [.sc (.int .i64 r23.1.W), .sc (.int .i64 r23.1.H), .sc (.int .i64 r23.1.N), rowV (α := Int) true r23.1.Holes, rowV (α := Bound) true r23.1.At]) rfl rfl rfl rfl ti33 rfl rfl rfl rfl rfl ?_
      refine pu (v := .sc _) rfl rfl (fun _ => rfl) ?_
      refine RunC.fin ?_
      refine AWP.sq ?_
      refine AWP.rgC 135 rfl rfl ?_
      refine ldB (v := .agg _) rfl rfl rfl rfl ti33 rfl rfl ?_
      refine ldB (v := .agg _) rfl rfl rfl rfl ti33 rfl rfl ?_
      obtain ⟨r24, hr24, hR⟩ := bindE hR
      refine cls [] rfl rfl cb8 (ok8 r21.1 r23.1 _ hr24) (.cons (.agg (.cons (.sc _) (.cons (.sc _) (.cons (.sc _) (.cons ldR' (.cons ldR' (.nil)))))) rfl) (.cons (.agg (.cons (.sc _) (.cons (.sc _) (.cons (.sc _) (.cons ldR' (.cons ldR' (.nil)))))) rfl) (.nil))) (.inr rfl) rfl ?_
      refine pu (v := .tup _) rfl rfl (fun _ => rfl) ?_
      refine pu (v := .agg _) rfl rfl (fun _ => rfl) ?_
      refine pu (v := .sc _) rfl rfl (fun _ => rfl) ?_
      refine al (cs := [.sc (.int .i64 0), .sc (.int .i64 0), .sc (.int .i64 0), .sc (.slice none 0 0), .sc (.slice none 0 0)]) 123 rfl rfl ti33 rfl rfl ?_
      refine stB (cs' := [.sc (.int .i64 r24.1.W), .sc (.int .i64 r24.1.H), .sc (.int .i64 r24.1.N), rowV (α := Int) true r24.1.Holes, rowV (α := Bound) true r24.1.At]) rfl rfl rfl rfl ti33 rfl rfl rfl rfl rfl ?_
      refine pu (v := .sc _) rfl rfl (fun _ => rfl) ?_
      refine RunC.fin ?_
      refine AWP.sq ?_
      refine AWP.rgC 167 rfl rfl ?_
      refine pu (v := rowV _ z5) rfl rfl (fun _ => rfl) ?_
      obtain ⟨r25, hr25, hR⟩ := bindE hR
      refine cls [] rfl rfl cb9 (ok9 z5 _ hr25) (.cons ldR' (.nil)) (.inr rfl) rfl ?_
      refine pu (v := .tup _) rfl rfl (fun _ => rfl) ?_
      refine pu (v := .agg _) rfl rfl (fun _ => rfl) ?_
      refine pu (v := .sc _) rfl rfl (fun _ => rfl) ?_
      refine al (cs := [.sc (.int .i64 0), .sc (.int .i64 0), .sc (.slice none 0 0)]) 155 rfl rfl ti30 rfl rfl ?_
      refine stB (cs' := [.sc (.int .i64 r25.1.W), .sc (.int .i64 r25.1.H), rowV (α := Bound) true r25.1.At]) rfl rfl rfl rfl ti30 rfl rfl rfl rfl rfl ?_
      refine pu (v := .sc _) rfl rfl (fun _ => rfl) ?_
      refine RunC.fin ?_
      refine AWP.sq ?_
      refine AWP.joinX (fun z26 : Bool => LS.mk [(14, .ptr 0 0 0), (16, .ptr 1 0 0), (22, .ptr 2 0 0), (24, .ptr 3 0 0), (147, .sc (.bool z26))] (lblks 0 [boxB (α := stack_Stack) true r17.1, boxB (α := stack_Stack) true r18.1, boxB (α := stack_Stack) true r24.1, boxB (α := Cells) true r25.1]) 4) hR (fun o26 hR => ?_) fun z26 hR => ?_
      · refine AWP.rgC 271 rfl rfl ?_
        obtain ⟨r27, hr27, hR⟩ := bindE hR
        refine cls [] rfl rfl cb10 (ok10 _ hr27) (.nil) (.inr rfl) rfl ?_
        refine pu (v := .sc _) rfl rfl (fun _ => rfl) ?_
        refine pu (v := .sc _) rfl rfl (fun _ => rfl) ?_
        refine brR hR (fun h28 hR => ?_) fun h28 hR => ?_
        · refine sk (skW rfl rfl rfl h28) ?_
          refine sk (skW rfl rfl rfl h28) ?_
          refine pkT (v := .sc (.bool true)) rfl rfl h28 rfl ?_
          refine pu (v := .sc _) rfl rfl (fun _ => rfl) ?_
          refine sk (skW rfl rfl rfl rfl) ?_
          refine sk (skW rfl rfl rfl rfl) ?_
          refine pkT (v := .sc (.bool true)) rfl rfl rfl rfl ?_
          refine pu (v := .sc _) rfl rfl (fun _ => rfl) ?_
          refine sk (skW rfl rfl rfl rfl) ?_
          refine sk (skW rfl rfl rfl rfl) ?_
          refine pkT (v := .sc (.bool true)) rfl rfl rfl rfl ?_
          refine pu (v := .sc _) rfl rfl (fun _ => rfl) ?_
          refine sk (skW rfl rfl rfl rfl) ?_
          refine sk (skW rfl rfl rfl rfl) ?_
          refine pkT (v := .sc (.bool true)) rfl rfl rfl rfl ?_
          refine pu (v := .sc _) rfl rfl (fun _ => rfl) ?_
          refine sk (skW rfl rfl rfl rfl) ?_
          refine sk (skW rfl rfl rfl rfl) ?_
          refine pkT (v := .sc (.bool true)) rfl rfl rfl rfl ?_
          refine pu (v := .sc _) rfl rfl (fun _ => rfl) ?_
          refine sk (skW rfl rfl rfl rfl) ?_
          refine sk (skW rfl rfl rfl rfl) ?_
          refine pkT (v := .sc (.bool true)) rfl rfl rfl rfl ?_
          refine RunC.fin ?_
          have hR := Option.some.inj hR; subst hR
          exact Weak.turnL [(1, 0), (2, 0), (123, 0), (155, 0)] [] rfl rfl (tc (trP' rfl rfl rfl rfl) (tc (trP' rfl rfl rfl rfl) (tc (trP' rfl rfl rfl rfl) (tc (trP' rfl rfl rfl rfl) (tc (.sc _) tn))))) (mc rfl (.box rfl (.cons (.sc _) (.cons (.sc _) (.cons (.sc _) (.cons trR1 (.cons trR1 (.nil)))))) rfl) (mc rfl (.box rfl (.cons (.sc _) (.cons (.sc _) (.cons (.sc _) (.cons trR1 (.cons trR1 (.nil)))))) rfl) (mc rfl (.box rfl (.cons (.sc _) (.cons (.sc _) (.cons (.sc _) (.cons trR1 (.cons trR1 (.nil)))))) rfl) (mc rfl (.box rfl (.cons (.sc _) (.cons (.sc _) (.cons trR1 (.nil)))) rfl) mn))))
        · refine pu (v := .sc _) (wtG rfl rfl rfl h28) rfl (fun _ => rfl) ?_
          refine pu (v := .sc _) (wtG rfl rfl rfl h28) rfl (fun _ => rfl) ?_
          refine pkF (v := .sc (.bool (r17.2 != 0))) rfl rfl h28 rfl ?_
          refine pu (v := .sc _) rfl rfl (fun _ => rfl) ?_
          refine brR hR (fun h29 hR => ?_) fun h29 hR => ?_
          · refine sk (skW rfl rfl rfl h29) ?_
            refine sk (skW rfl rfl rfl h29) ?_
            refine pkT (v := .sc (.bool true)) rfl rfl h29 rfl ?_
            refine pu (v := .sc _) rfl rfl (fun _ => rfl) ?_
            refine sk (skW rfl rfl rfl rfl) ?_
            refine sk (skW rfl rfl rfl rfl) ?_
            refine pkT (v := .sc (.bool true)) rfl rfl rfl rfl ?_
            refine pu (v := .sc _) rfl rfl (fun _ => rfl) ?_
            refine sk (skW rfl rfl rfl rfl) ?_
            refine sk (skW rfl rfl rfl rfl) ?_
            refine pkT (v := .sc (.bool true)) rfl rfl rfl rfl ?_
            refine pu (v := .sc _) rfl rfl (fun _ => rfl) ?_
            refine sk (skW rfl rfl rfl rfl) ?_
            refine sk (skW rfl rfl rfl rfl) ?_
            refine pkT (v := .sc (.bool true)) rfl rfl rfl rfl ?_
            refine pu (v := .sc _) rfl rfl (fun _ => rfl) ?_
            refine sk (skW rfl rfl rfl rfl) ?_
            refine sk (skW rfl rfl rfl rfl) ?_
            refine pkT (v := .sc (.bool true)) rfl rfl rfl rfl ?_
            refine RunC.fin ?_
            have hR := Option.some.inj hR; subst hR
            exact Weak.turnL [(1, 0), (2, 0), (123, 0), (155, 0)] [] rfl rfl (tc (trP' rfl rfl rfl rfl) (tc (trP' rfl rfl rfl rfl) (tc (trP' rfl rfl rfl rfl) (tc (trP' rfl rfl rfl rfl) (tc (.sc _) tn))))) (mc rfl (.box rfl (.cons (.sc _) (.cons (.sc _) (.cons (.sc _) (.cons trR1 (.cons trR1 (.nil)))))) rfl) (mc rfl (.box rfl (.cons (.sc _) (.cons (.sc _) (.cons (.sc _) (.cons trR1 (.cons trR1 (.nil)))))) rfl) (mc rfl (.box rfl (.cons (.sc _) (.cons (.sc _) (.cons (.sc _) (.cons trR1 (.cons trR1 (.nil)))))) rfl) (mc rfl (.box rfl (.cons (.sc _) (.cons (.sc _) (.cons trR1 (.nil)))) rfl) mn))))
          · refine pu (v := .sc _) (wtG rfl rfl rfl h29) rfl (fun _ => rfl) ?_
            refine pu (v := .sc _) (wtG rfl rfl rfl h29) rfl (fun _ => rfl) ?_
            refine pkF (v := .sc (.bool (r18.2 != 0))) rfl rfl h29 rfl ?_
            refine pu (v := .sc _) rfl rfl (fun _ => rfl) ?_
            refine brR hR (fun h30 hR => ?_) fun h30 hR => ?_
            · refine sk (skW rfl rfl rfl h30) ?_
              refine sk (skW rfl rfl rfl h30) ?_
              refine pkT (v := .sc (.bool true)) rfl rfl h30 rfl ?_
              refine pu (v := .sc _) rfl rfl (fun _ => rfl) ?_
              refine sk (skW rfl rfl rfl rfl) ?_
              refine sk (skW rfl rfl rfl rfl) ?_
              refine pkT (v := .sc (.bool true)) rfl rfl rfl rfl ?_
              refine pu (v := .sc _) rfl rfl (fun _ => rfl) ?_
              refine sk (skW rfl rfl rfl rfl) ?_
              refine sk (skW rfl rfl rfl rfl) ?_
              refine pkT (v := .sc (.bool true)) rfl rfl rfl rfl ?_
              refine pu (v := .sc _) rfl rfl (fun _ => rfl) ?_
              refine sk (skW rfl rfl rfl rfl) ?_
              refine sk (skW rfl rfl rfl rfl) ?_
              refine pkT (v := .sc (.bool true)) rfl rfl rfl rfl ?_
              refine RunC.fin ?_
              have hR := Option.some.inj hR; subst hR
              exact Weak.turnL [(1, 0), (2, 0), (123, 0), (155, 0)] [] rfl rfl (tc (trP' rfl rfl rfl rfl) (tc (trP' rfl rfl rfl rfl) (tc (trP' rfl rfl rfl rfl) (tc (trP' rfl rfl rfl rfl) (tc (.sc _) tn))))) (mc rfl (.box rfl (.cons (.sc _) (.cons (.sc _) (.cons (.sc _) (.cons trR1 (.cons trR1 (.nil)))))) rfl) (mc rfl (.box rfl (.cons (.sc _) (.cons (.sc _) (.cons (.sc _) (.cons trR1 (.cons trR1 (.nil)))))) rfl) (mc rfl (.box rfl (.cons (.sc _) (.cons (.sc _) (.cons (.sc _) (.cons trR1 (.cons trR1 (.nil)))))) rfl) (mc rfl (.box rfl (.cons (.sc _) (.cons (.sc _) (.cons trR1 (.nil)))) rfl) mn))))
            · refine pu (v := .sc _) (wtG rfl rfl rfl h30) rfl (fun _ => rfl) ?_
              refine pu (v := .sc _) (wtG rfl rfl rfl h30) rfl (fun _ => rfl) ?_
              refine pkF (v := .sc (.bool (r21.2 != 0))) rfl rfl h30 rfl ?_
              refine pu (v := .sc _) rfl rfl (fun _ => rfl) ?_
              refine brR hR (fun h31 hR => ?_) fun h31 hR => ?_
              · refine sk (skW rfl rfl rfl h31) ?_
                refine sk (skW rfl rfl rfl h31) ?_
                refine pkT (v := .sc (.bool true)) rfl rfl h31 rfl ?_
                refine pu (v := .sc _) rfl rfl (fun _ => rfl) ?_
                refine sk (skW rfl rfl rfl rfl) ?_
                refine sk (skW rfl rfl rfl rfl) ?_
                refine pkT (v := .sc (.bool true)) rfl rfl rfl rfl ?_
                refine pu (v := .sc _) rfl rfl (fun _ => rfl) ?_
                refine sk (skW rfl rfl rfl rfl) ?_
                refine sk (skW rfl rfl rfl rfl) ?_
                refine pkT (v := .sc (.bool true)) rfl rfl rfl rfl ?_
                refine RunC.fin ?_
                have hR := Option.some.inj hR; subst hR
                exact Weak.turnL [(1, 0), (2, 0), (123, 0), (155, 0)] [] rfl rfl (tc (trP' rfl rfl rfl rfl) (tc (trP' rfl rfl rfl rfl) (tc (trP' rfl rfl rfl rfl) (tc (trP' rfl rfl rfl rfl) (tc (.sc _) tn))))) (mc rfl (.box rfl (.cons (.sc _) (.cons (.sc _) (.cons (.sc _) (.cons trR1 (.cons trR1 (.nil)))))) rfl) (mc rfl (.box rfl (.cons (.sc _) (.cons (.sc _) (.cons (.sc _) (.cons trR1 (.cons trR1 (.nil)))))) rfl) (mc rfl (.box rfl (.cons (.sc _) (.cons (.sc _) (.cons (.sc _) (.cons trR1 (.cons trR1 (.nil)))))) rfl) (mc rfl (.box rfl (.cons (.sc _) (.cons (.sc _) (.cons trR1 (.nil)))) rfl) mn))))
              · refine pu (v := .sc _) (wtG rfl rfl rfl h31) rfl (fun _ => rfl) ?_
                refine pu (v := .sc _) (wtG rfl rfl rfl h31) rfl (fun _ => rfl) ?_
                refine pkF (v := .sc (.bool (r23.2 != 0))) rfl rfl h31 rfl ?_
                refine pu (v := .sc _) rfl rfl (fun _ => rfl) ?_
                refine brR hR (fun h32 hR => ?_) fun h32 hR => ?_
                · refine sk (skW rfl rfl rfl h32) ?_
                  refine sk (skW rfl rfl rfl h32) ?_
                  refine pkT (v := .sc (.bool true)) rfl rfl h32 rfl ?_
                  refine pu (v := .sc _) rfl rfl (fun _ => rfl) ?_
                  refine sk (skW rfl rfl rfl rfl) ?_
                  refine sk (skW rfl rfl rfl rfl) ?_
                  refine pkT (v := .sc (.bool true)) rfl rfl rfl rfl ?_
                  refine RunC.fin ?_
                  have hR := Option.some.inj hR; subst hR
                  exact Weak.turnL [(1, 0), (2, 0), (123, 0), (155, 0)] [] rfl rfl (tc (trP' rfl rfl rfl rfl) (tc (trP' rfl rfl rfl rfl) (tc (trP' rfl rfl rfl rfl) (tc (trP' rfl rfl rfl rfl) (tc (.sc _) tn))))) (mc rfl (.box rfl (.cons (.sc _) (.cons (.sc _) (.cons (.sc _) (.cons trR1 (.cons trR1 (.nil)))))) rfl) (mc rfl (.box rfl (.cons (.sc _) (.cons (.sc _) (.cons (.sc _) (.cons trR1 (.cons trR1 (.nil)))))) rfl) (mc rfl (.box rfl (.cons (.sc _) (.cons (.sc _) (.cons (.sc _) (.cons trR1 (.cons trR1 (.nil)))))) rfl) (mc rfl (.box rfl (.cons (.sc _) (.cons (.sc _) (.cons trR1 (.nil)))) rfl) mn))))
                · refine pu (v := .sc _) (wtG rfl rfl rfl h32) rfl (fun _ => rfl) ?_
                  refine pu (v := .sc _) (wtG rfl rfl rfl h32) rfl (fun _ => rfl) ?_
                  refine pkF (v := .sc (.bool (r24.2 != 0))) rfl rfl h32 rfl ?_
                  refine pu (v := .sc _) rfl rfl (fun _ => rfl) ?_
                  refine brR hR (fun h33 hR => ?_) fun h33 hR => ?_
                  · refine sk (skW rfl rfl rfl h33) ?_
                    refine sk (skW rfl rfl rfl h33) ?_
                    refine pkT (v := .sc (.bool true)) rfl rfl h33 rfl ?_
                    refine RunC.fin ?_
                    have hR := Option.some.inj hR; subst hR
                    exact Weak.turnL [(1, 0), (2, 0), (123, 0), (155, 0)] [] rfl rfl (tc (trP' rfl rfl rfl rfl) (tc (trP' rfl rfl rfl rfl) (tc (trP' rfl rfl rfl rfl) (tc (trP' rfl rfl rfl rfl) (tc (.sc _) tn))))) (mc rfl (.box rfl (.cons (.sc _) (.cons (.sc _) (.cons (.sc _) (.cons trR1 (.cons trR1 (.nil)))))) rfl) (mc rfl (.box rfl (.cons (.sc _) (.cons (.sc _) (.cons (.sc _) (.cons trR1 (.cons trR1 (.nil)))))) rfl) (mc rfl (.box rfl (.cons (.sc _) (.cons (.sc _) (.cons (.sc _) (.cons trR1 (.cons trR1 (.nil)))))) rfl) (mc rfl (.box rfl (.cons (.sc _) (.cons (.sc _) (.cons trR1 (.nil)))) rfl) mn))))
                  · refine pu (v := .sc _) (wtG rfl rfl rfl h33) rfl (fun _ => rfl) ?_
                    refine pu (v := .sc _) (wtG rfl rfl rfl h33) rfl (fun _ => rfl) ?_
                    refine pkF (v := .sc (.bool (r25.2 != 0))) rfl rfl h33 rfl ?_
                    refine RunC.fin ?_
                    have hR := Option.some.inj hR; subst hR
                    exact Weak.turnL [(1, 0), (2, 0), (123, 0), (155, 0)] [] rfl rfl (tc (trP' rfl rfl rfl rfl) (tc (trP' rfl rfl rfl rfl) (tc (trP' rfl rfl rfl rfl) (tc (trP' rfl rfl rfl rfl) (tc (.sc _) tn))))) (mc rfl (.box rfl (.cons (.sc _) (.cons (.sc _) (.cons (.sc _) (.cons trR1 (.cons trR1 (.nil)))))) rfl) (mc rfl (.box rfl (.cons (.sc _) (.cons (.sc _) (.cons (.sc _) (.cons trR1 (.cons trR1 (.nil)))))) rfl) (mc rfl (.box rfl (.cons (.sc _) (.cons (.sc _) (.cons (.sc _) (.cons trR1 (.cons trR1 (.nil)))))) rfl) (mc rfl (.box rfl (.cons (.sc _) (.cons (.sc _) (.cons trR1 (.nil)))) rfl) mn))))
      · refine AWP.cd hR rfl (fun h34 hR => ?_) fun h34 hR => ?_
        · refine AWP.sq ?_
          refine AWP.rgC 8 rfl rfl ?_
          refine pu (v := .sc _) rfl rfl (fun _ => rfl) ?_
          refine RunC.fin ?_
          refine AWP.ret ?_
          refine rtT ?_
          have hR := Option.some.inj hR; subst hR
          exact hQ _ _ (LS.mk [(6, .sc (.bool false))] (lblks 0 []) 0) (.sc (.bool false)) [] (.inr rfl) (Weak.turnL [] [] rfl rfl (tc (.sc _) tn) mn) (ro1 (rvT (v := .sc (.bool false)) rfl)) rfl rfl (.sc _) pn
        · refine AWP.skip ?_
          refine skT ?_
          refine AWP.sq ?_
          refine AWP.rgC 8 rfl rfl ?_
          refine pu (v := .sc _) rfl rfl (fun _ => rfl) ?_
          refine RunC.fin ?_
          refine AWP.sq ?_
          refine AWP.sq ?_
          refine AWP.rgC 32 rfl rfl ?_
          refine ldB (v := .agg _) rfl rfl rfl rfl ti33 rfl rfl ?_
          refine ldB (v := .agg _) rfl rfl rfl rfl ti33 rfl rfl ?_
          refine ldB (v := .agg _) rfl rfl rfl rfl ti33 rfl rfl ?_
          refine bs (α := stack_Stack) 20 true ([r17.1, r18.1, r24.1] : List stack_Stack) rfl rfl ti41 rfl ti33 rfl rfl rfl rfl rfl ?_
          refine lenS (α := stack_Stack) rfl rfl ti41 rfl ?_
          refine pu (v := .sc _) rfl rfl (fun _ => rfl) ?_
          refine RunC.fin ?_
          refine AWP.nilT Cells 26 30 rfl ?_
          refine AWP.loopK' (fun s35 : (List Cells) × Int => LS.mk [(24, .ptr 0 0 0), (26, slV Cells 1 0 0 s35.1.length), (151, slV stack_Stack 2 0 0 ([r17.1, r18.1, r24.1] : List stack_Stack).length), (152, .sc (.int .i64 (([r17.1, r18.1, r24.1] : List stack_Stack).length : Int))), (153, .sc (.int .i64 s35.2))] (lblks 0 [boxB (α := Cells) true r25.1, arrB (α := Cells) 30 0 true s35.1, arrB (α := stack_Stack) 33 0 true ([r17.1, r18.1, r24.1] : List stack_Stack)]) 3) (fun z36 : (List Cells) => LS.mk [(24, .ptr 0 0 0), (26, slV Cells 1 0 0 z36.length)] (lblks 0 [boxB (α := Cells) true r25.1, arrB (α := Cells) 30 0 true z36]) 2) (spykeep4_StackOrder.l3 r17 r18 r24) hR (s0 := (([] : List Cells), 0)) (Weak.turnL [(3, 0), (32, 0), (20, 0)] [] rfl rfl (tc (trP' rfl rfl rfl rfl) (tc (trS' rfl rfl rfl rfl rfl) (tc (trS' rfl rfl rfl rfl rfl) (tc (.sc _) (tc (.sc _) tn))))) (mc rfl (.box rfl (.cons (.sc _) (.cons (.sc _) (.cons trR1 (.nil)))) rfl) (mc rfl (btrA' rfl) (mc rfl (btrA' rfl) mn)))) (fun s35 o35 hR hE35 => ?_) fun z36 hR => ?_
          · unfold spykeep4_StackOrder.l3 at hR
            refine AWP.sq ?_
            refine AWP.rgC 7 rfl rfl ?_
            obtain ⟨v37, ev37, hR⟩ := letE hR
            refine pu (v := .sc _) rfl rfl (fun _ => puB ev37) ?_
            refine RunC.fin ?_
            refine AWP.sq ?_
            refine AWP.cd hR rfl (fun h38 hR => ?_) fun h38 hR => ?_
            · refine AWP.skip ?_
              refine skT ?_
              refine AWP.sq ?_
              refine AWP.block ?_
              refine AWP.sq ?_
              refine AWP.rgC 23 rfl rfl ?_
              obtain ⟨h39, hR⟩ := chkE hR
              refine ixS0 (α := stack_Stack) rfl rfl rfl ti41 rfl ti33 rfl h39 ?_
              refine ldE (α := stack_Stack) (v := .agg _) rfl rfl rfl (ixlt h39) ti33 rfl rfl rfl rfl ?_
              refine al (cs := [.sc (.int .i64 0), .sc (.int .i64 0), .sc (.int .i64 0), .sc (.slice none 0 0), .sc (.slice none 0 0)]) 15 rfl rfl ti33 rfl rfl ?_
              refine stB (cs' := [.sc (.int .i64 (gt ([r17.1, r18.1, r24.1] : List stack_Stack) s35.2).W), .sc (.int .i64 (gt ([r17.1, r18.1, r24.1] : List stack_Stack) s35.2).H), .sc (.int .i64 (gt ([r17.1, r18.1, r24.1] : List stack_Stack) s35.2).N), rowV (α := Int) true (gt ([r17.1, r18.1, r24.1] : List stack_Stack) s35.2).Holes, rowV (α := Bound) true (gt ([r17.1, r18.1, r24.1] : List stack_Stack) s35.2).At]) rfl rfl rfl rfl ti33 rfl rfl rfl rfl rfl ?_
              refine RunC.fin ?_
              refine AWP.sq ?_
              refine AWP.rgC 55 rfl rfl ?_
              refine ldB (v := .agg _) rfl rfl rfl rfl ti33 rfl rfl ?_
              obtain ⟨r40, hr40, hR⟩ := bindE hR
              refine cls [] rfl rfl cb11 (ok11 (gt ([r17.1, r18.1, r24.1] : List stack_Stack) s35.2) _ hr40) (.cons (.agg (.cons (.sc _) (.cons (.sc _) (.cons (.sc _) (.cons ldR' (.cons ldR' (.nil)))))) rfl) (.nil)) (.inr rfl) rfl ?_
              refine pu (v := .tup _) rfl rfl (fun _ => rfl) ?_
              refine pu (v := .agg _) rfl rfl (fun _ => rfl) ?_
              refine pu (v := .sc _) rfl rfl (fun _ => rfl) ?_
              refine al (cs := [.sc (.int .i64 0), .sc (.int .i64 0), .sc (.slice none 0 0)]) 43 rfl rfl ti30 rfl rfl ?_
              refine stB (cs' := [.sc (.int .i64 r40.1.W), .sc (.int .i64 r40.1.H), rowV (α := Bound) true r40.1.At]) rfl rfl rfl rfl ti30 rfl rfl rfl rfl rfl ?_
              refine pu (v := .sc _) rfl rfl (fun _ => rfl) ?_
              refine RunC.fin ?_
              refine AWP.sq ?_
              refine AWP.rgC 87 rfl rfl ?_
              refine ldB (v := .agg _) rfl rfl rfl rfl ti33 rfl rfl ?_
              obtain ⟨r41, hr41, hR⟩ := bindE hR
              refine cls [] rfl rfl cb12 (ok12 (gt ([r17.1, r18.1, r24.1] : List stack_Stack) s35.2) _ hr41) (.cons (.agg (.cons (.sc _) (.cons (.sc _) (.cons (.sc _) (.cons ldR' (.cons ldR' (.nil)))))) rfl) (.nil)) (.inr rfl) rfl ?_
              refine pu (v := .tup _) rfl rfl (fun _ => rfl) ?_
              refine pu (v := .agg _) rfl rfl (fun _ => rfl) ?_
              refine pu (v := .sc _) rfl rfl (fun _ => rfl) ?_
              refine al (cs := [.sc (.int .i64 0), .sc (.int .i64 0), .sc (.slice none 0 0)]) 75 rfl rfl ti30 rfl rfl ?_
              refine stB (cs' := [.sc (.int .i64 r41.1.W), .sc (.int .i64 r41.1.H), rowV (α := Bound) true r41.1.At]) rfl rfl rfl rfl ti30 rfl rfl rfl rfl rfl ?_
              refine pu (v := .sc _) rfl rfl (fun _ => rfl) ?_
              refine RunC.fin ?_
              refine AWP.sq ?_
              refine AWP.joinX (fun z42 : Bool => LS.mk [(24, .ptr 0 0 0), (26, slV Cells 1 0 0 s35.1.length), (29, .ptr 2 0 0), (31, .ptr 3 0 0), (151, slV stack_Stack 4 0 0 ([r17.1, r18.1, r24.1] : List stack_Stack).length), (152, .sc (.int .i64 (([r17.1, r18.1, r24.1] : List stack_Stack).length : Int))), (153, .sc (.int .i64 s35.2)), (172, .sc (.bool z42))] (lblks 0 [boxB (α := Cells) true r25.1, arrB (α := Cells) 30 0 true s35.1, boxB (α := Cells) true r40.1, boxB (α := Cells) true r41.1, arrB (α := stack_Stack) 33 0 true ([r17.1, r18.1, r24.1] : List stack_Stack)]) 5) hR (fun o42 hR => ?_) fun z42 hR => ?_
              · refine AWP.rgC 111 rfl rfl ?_
                refine pu (v := .sc _) rfl rfl (fun _ => rfl) ?_
                refine pu (v := .sc _) rfl rfl (fun _ => rfl) ?_
                refine pu (v := .sc _) rfl rfl (fun _ => rfl) ?_
                refine brR hR (fun h43 hR => ?_) fun h43 hR => ?_
                · refine sk (skW rfl rfl rfl h43) ?_
                  refine sk (skW rfl rfl rfl h43) ?_
                  refine pkT (v := .sc (.bool true)) rfl rfl h43 rfl ?_
                  refine RunC.fin ?_
                  have hR := Option.some.inj hR; subst hR
                  exact Weak.turnL [(0, 0), (1, 0), (43, 0), (75, 0), (2, 0)] [] rfl rfl (tc (trP' rfl rfl rfl rfl) (tc (trS' rfl rfl rfl rfl rfl) (tc (trP' rfl rfl rfl rfl) (tc (trP' rfl rfl rfl rfl) (tc (trS' rfl rfl rfl rfl rfl) (tc (.sc _) (tc (.sc _) (tc (.sc _) tn)))))))) (mc rfl (.box rfl (.cons (.sc _) (.cons (.sc _) (.cons trR1 (.nil)))) rfl) (mc rfl (btrA' rfl) (mc rfl (.box rfl (.cons (.sc _) (.cons (.sc _) (.cons trR1 (.nil)))) rfl) (mc rfl (.box rfl (.cons (.sc _) (.cons (.sc _) (.cons trR1 (.nil)))) rfl) (mc rfl (btrA' rfl) mn)))))
                · refine pu (v := .sc _) (wtG rfl rfl rfl h43) rfl (fun _ => rfl) ?_
                  refine pu (v := .sc _) (wtG rfl rfl rfl h43) rfl (fun _ => rfl) ?_
                  refine pkF (v := .sc (.bool (r41.2 != 0))) rfl rfl h43 rfl ?_
                  refine RunC.fin ?_
                  have hR := Option.some.inj hR; subst hR
                  exact Weak.turnL [(0, 0), (1, 0), (43, 0), (75, 0), (2, 0)] [] rfl rfl (tc (trP' rfl rfl rfl rfl) (tc (trS' rfl rfl rfl rfl rfl) (tc (trP' rfl rfl rfl rfl) (tc (trP' rfl rfl rfl rfl) (tc (trS' rfl rfl rfl rfl rfl) (tc (.sc _) (tc (.sc _) (tc (.sc _) tn)))))))) (mc rfl (.box rfl (.cons (.sc _) (.cons (.sc _) (.cons trR1 (.nil)))) rfl) (mc rfl (btrA' rfl) (mc rfl (.box rfl (.cons (.sc _) (.cons (.sc _) (.cons trR1 (.nil)))) rfl) (mc rfl (.box rfl (.cons (.sc _) (.cons (.sc _) (.cons trR1 (.nil)))) rfl) (mc rfl (btrA' rfl) mn)))))
              · refine AWP.cd hR rfl (fun h44 hR => ?_) fun h44 hR => ?_
                · refine AWP.sq ?_
                  refine AWP.rgC 9 rfl rfl ?_
                  refine pu (v := .sc _) rfl rfl (fun _ => rfl) ?_
                  refine RunC.fin ?_
                  refine AWP.ret ?_
                  refine rtT ?_
                  refine rtB ?_
                  refine rtT ?_
                  refine rtT ?_
                  refine rtB (rtT ?_)
                  replace hR := escL hR hE35
                  refine rtT ?_
                  have hR := Option.some.inj hR; subst hR
                  exact hQ _ _ (LS.mk [(6, .sc (.bool false))] (lblks 0 []) 0) (.sc (.bool false)) [] (.inr rfl) (Weak.turnL [] [] rfl rfl (tc (.sc _) tn) mn) (ro1 (rvT (v := .sc (.bool false)) rfl)) rfl rfl (.sc _) pn
                · refine AWP.skip ?_
                  refine skT ?_
                  refine AWP.rgC 29 rfl rfl ?_
                  refine pu (v := slV Cells _ _ _ _) rfl rfl (fun _ => rfl) ?_
                  refine ldB (v := .agg _) rfl rfl rfl rfl ti30 rfl rfl ?_
                  refine ldB (v := .agg _) rfl rfl rfl rfl ti30 rfl rfl ?_
                  refine bs (α := Cells) 17 true ([r40.1, r41.1] : List Cells) rfl rfl ti27 rfl ti30 rfl rfl rfl rfl rfl ?_
                  obtain ⟨h45, hR⟩ := chkE hR
                  refine ap' (α := Cells) (nw := true) (xs := s35.1) (ys := ([r40.1, r41.1] : List Cells)) rfl rfl rfl rfl (srcS' rfl rfl rfl) ti27 rfl ti30 rfl h45 rfl ?_
                  refine pu (v := slV Cells _ _ _ _) rfl rfl (fun _ => rfl) ?_
                  refine RunC.blk ?_
                  refine RunC.fin ?_
                  refine AWP.rgC 37 rfl rfl ?_
                  refine pu (v := .sc _) rfl rfl (fun _ => rfl) ?_
                  refine pu (v := .sc _) rfl rfl (fun _ => rfl) ?_
                  refine RunC.fin ?_
                  refine ⟨(s35.1 ++ ([r40.1, r41.1] : List Cells), w6 (s35.2 + 1)), (Option.some.inj hR).symm, ?_⟩
                  exact Weak.turnL [(0, 0), (1, 0), (4, 0)] [] rfl rfl (tc (trP' rfl rfl rfl rfl) (tc (trS' rfl rfl rfl rfl rfl) (tc (trS' rfl rfl rfl rfl rfl) (tc (.sc _) (tc (.sc _) tn))))) (mc rfl (.box rfl (.cons (.sc _) (.cons (.sc _) (.cons trR1 (.nil)))) rfl) (mc rfl (btrA' rfl) (mc rfl (btrA' rfl) mn)))
            · refine AWP.exit ?_
              refine exT ?_
              refine exT ?_
              refine exH (skT ?_)
              refine ⟨s35.1, (Option.some.inj hR).symm, ?_⟩
              exact Weak.turnL [(0, 0), (1, 0)] [] rfl rfl (tc (trP' rfl rfl rfl rfl) (tc (trS' rfl rfl rfl rfl rfl) tn)) (mc rfl (.box rfl (.cons (.sc _) (.cons (.sc _) (.cons trR1 (.nil)))) rfl) (mc rfl (btrA' rfl) mn))
          · refine skT ?_
            refine AWP.joinX (fun z46 : Bool => LS.mk [(6, .sc (.bool z46))] (lblks 0 []) 0) hR (fun o46 hR => ?_) fun z46 hR => ?_
            · refine AWP.rgD 170 [0, 1, 3, 0, 8, 24, 63, 127, 255, 511, 1023, 255, 2303, 6399, 16383, 32767, 65535, 131071, 262143, 524287, 131071, 2097151, 4194303, 8388607, 16777215, 33554431, 67108863, 16777215, 150994943, 419430399, 1073741823, 2147483647, 4294967295, 8589934591, 17179869183, 34359738367, 8589934591, 77309411327, 214748364799, 549755813887, 1099511627775, 2199023255551] ⟨[], [none, none, some [1], none, none, some [1], none, none, none, none, some [1], none, none, some [1], none, none, none, none, none, some [1], some [0], none, none, none, none, none, some [1], none, none, some [1], none, none, none, none, none, some [1], none, none, some [1], none, none, none]⟩ hmix (by kernel_rfl) rfl rfl ?_
              refine pu (v := slV Cells _ _ _ _) rfl rfl (fun _ => rfl) ?_
              obtain ⟨h47, hR⟩ := chkE hR
              refine ixS0 (α := Cells) rfl rfl rfl ti27 rfl ti30 rfl h47 ?_
              refine ldE (α := Cells) (v := .agg _) rfl rfl rfl (ixlt h47) ti30 rfl rfl rfl rfl ?_
              refine pu (v := slV Cells _ _ _ _) rfl rfl (fun _ => rfl) ?_
              obtain ⟨h48, hR⟩ := chkE hR
              refine ixS0 (α := Cells) rfl rfl rfl ti27 rfl ti30 rfl h48 ?_
              refine ldE (α := Cells) (v := .agg _) rfl rfl rfl (ixlt h48) ti30 rfl rfl rfl rfl ?_
              obtain ⟨r49, hr49, hR⟩ := bindE hR
              refine cls [] rfl rfl cb13 (ok13 (gt z36 0) (gt z36 2) _ hr49) (.cons (.agg (.cons (.sc _) (.cons (.sc _) (.cons ldR' (.nil)))) rfl) (.cons (.agg (.cons (.sc _) (.cons (.sc _) (.cons ldR' (.nil)))) rfl) (.nil))) (.inr rfl) rfl ?_
              refine pu (v := .sc _) rfl rfl (fun _ => rfl) ?_
              refine brR hR (fun h50 hR => ?_) fun h50 hR => ?_
              · refine pu (v := slV Cells _ _ _ _) (wtG rfl rfl rfl h50) rfl (fun _ => rfl) ?_
                refine ixS0 (α := Cells) (wtG rfl rfl rfl h50) rfl rfl ti27 rfl ti30 rfl h47 ?_
                refine ldE (α := Cells) (v := .agg _) (wtG rfl rfl rfl h50) rfl rfl (ixlt h47) ti30 rfl rfl rfl rfl ?_
                refine pu (v := slV Cells _ _ _ _) (wtG rfl rfl rfl h50) rfl (fun _ => rfl) ?_
                obtain ⟨h51, hR⟩ := chkE hR
                refine ixS0 (α := Cells) (wtG rfl rfl rfl h50) rfl rfl ti27 rfl ti30 rfl h51 ?_
                refine ldE (α := Cells) (v := .agg _) (wtG rfl rfl rfl h50) rfl rfl (ixlt h51) ti30 rfl rfl rfl rfl ?_
                obtain ⟨r52, hr52, hR⟩ := bindE hR
                refine cls [] (wtG rfl rfl rfl h50) rfl cb13 (ok13 (gt z36 0) (gt z36 4) _ hr52) (.cons (.agg (.cons (.sc _) (.cons (.sc _) (.cons ldR' (.nil)))) rfl) (.cons (.agg (.cons (.sc _) (.cons (.sc _) (.cons ldR' (.nil)))) rfl) (.nil))) (.inr rfl) rfl ?_
                refine pkT (v := .sc (.bool r52)) rfl rfl h50 rfl ?_
                refine pu (v := .sc _) rfl rfl (fun _ => rfl) ?_
                refine brR hR (fun h53 hR => ?_) fun h53 hR => ?_
                · refine pu (v := slV Cells _ _ _ _) (wtG rfl rfl rfl h53) rfl (fun _ => rfl) ?_
                  refine ixS0 (α := Cells) (wtG rfl rfl rfl h53) rfl rfl ti27 rfl ti30 rfl h47 ?_
                  refine ldE (α := Cells) (v := .agg _) (wtG rfl rfl rfl h53) rfl rfl (ixlt h47) ti30 rfl rfl rfl rfl ?_
                  refine ldB (v := .agg _) (wtG rfl rfl rfl h53) rfl rfl rfl ti30 rfl rfl ?_
                  obtain ⟨r54, hr54, hR⟩ := bindE hR
                  refine cls [] (wtG rfl rfl rfl h53) rfl cb13 (ok13 (gt z36 0) r25.1 _ hr54) (.cons (.agg (.cons (.sc _) (.cons (.sc _) (.cons ldR' (.nil)))) rfl) (.cons (.agg (.cons (.sc _) (.cons (.sc _) (.cons ldR' (.nil)))) rfl) (.nil))) (.inr rfl) rfl ?_
                  refine pkT (v := .sc (.bool r54)) rfl rfl h53 rfl ?_
                  refine pu (v := .sc _) rfl rfl (fun _ => rfl) ?_
                  refine brR hR (fun h55 hR => ?_) fun h55 hR => ?_
                  · refine pu (v := slV Cells _ _ _ _) (wtG rfl rfl rfl h55) rfl (fun _ => rfl) ?_
                    obtain ⟨h56, hR⟩ := chkE hR
                    refine ixS0 (α := Cells) (wtG rfl rfl rfl h55) rfl rfl ti27 rfl ti30 rfl h56 ?_
                    refine ldE (α := Cells) (v := .agg _) (wtG rfl rfl rfl h55) rfl rfl (ixlt h56) ti30 rfl rfl rfl rfl ?_
                    refine pu (v := slV Cells _ _ _ _) (wtG rfl rfl rfl h55) rfl (fun _ => rfl) ?_
                    obtain ⟨h57, hR⟩ := chkE hR
                    refine ixS0 (α := Cells) (wtG rfl rfl rfl h55) rfl rfl ti27 rfl ti30 rfl h57 ?_
                    refine ldE (α := Cells) (v := .agg _) (wtG rfl rfl rfl h55) rfl rfl (ixlt h57) ti30 rfl rfl rfl rfl ?_
                    obtain ⟨r58, hr58, hR⟩ := bindE hR
                    refine cls [] (wtG rfl rfl rfl h55) rfl cb13 (ok13 (gt z36 1) (gt z36 3) _ hr58) (.cons (.agg (.cons (.sc _) (.cons (.sc _) (.cons ldR' (.nil)))) rfl) (.cons (.agg (.cons (.sc _) (.cons (.sc _) (.cons ldR' (.nil)))) rfl) (.nil))) (.inr rfl) rfl ?_
                    refine pkT (v := .sc (.bool r58)) rfl rfl h55 rfl ?_
                    refine pu (v := .sc _) rfl rfl (fun _ => rfl) ?_
                    refine brR hR (fun h59 hR => ?_) fun h59 hR => ?_
                    · refine pu (v := slV Cells _ _ _ _) (wtG rfl rfl rfl h59) rfl (fun _ => rfl) ?_
                      refine ixS0 (α := Cells) (wtG rfl rfl rfl h59) rfl rfl ti27 rfl ti30 rfl h56 ?_
                      refine ldE (α := Cells) (v := .agg _) (wtG rfl rfl rfl h59) rfl rfl (ixlt h56) ti30 rfl rfl rfl rfl ?_
                      refine pu (v := slV Cells _ _ _ _) (wtG rfl rfl rfl h59) rfl (fun _ => rfl) ?_
                      obtain ⟨h60, hR⟩ := chkE hR
                      refine ixS0 (α := Cells) (wtG rfl rfl rfl h59) rfl rfl ti27 rfl ti30 rfl h60 ?_
                      refine ldE (α := Cells) (v := .agg _) (wtG rfl rfl rfl h59) rfl rfl (ixlt h60) ti30 rfl rfl rfl rfl ?_
                      obtain ⟨r61, hr61, hR⟩ := bindE hR
                      refine cls [] (wtG rfl rfl rfl h59) rfl cb13 (ok13 (gt z36 1) (gt z36 5) _ hr61) (.cons (.agg (.cons (.sc _) (.cons (.sc _) (.cons ldR' (.nil)))) rfl) (.cons (.agg (.cons (.sc _) (.cons (.sc _) (.cons ldR' (.nil)))) rfl) (.nil))) (.inr rfl) rfl ?_
                      refine pkT (v := .sc (.bool r61)) rfl rfl h59 rfl ?_
                      refine pu (v := .sc _) rfl rfl (fun _ => rfl) ?_
                      refine RunC.fin ?_
                      have hR := Option.some.inj hR; subst hR
                      exact Weak.turnL [] [] rfl rfl (tc (.sc _) tn) mn
                    · refine sk (skW rfl rfl rfl h59) ?_
                      refine sk (skW rfl rfl rfl h59) ?_
                      refine sk (skW rfl rfl rfl h59) ?_
                      refine sk (skW rfl rfl rfl h59) ?_
                      refine sk (skW rfl rfl rfl h59) ?_
                      refine sk (skW rfl rfl rfl h59) ?_
                      refine sk (skW rfl rfl rfl h59) ?_
                      refine pkF (v := .sc (.bool false)) rfl rfl h59 rfl ?_
                      refine pu (v := .sc _) rfl rfl (fun _ => rfl) ?_
                      refine RunC.fin ?_
                      have hR := Option.some.inj hR; subst hR
                      exact Weak.turnL [] [] rfl rfl (tc (.sc _) tn) mn
                  · refine sk (skW rfl rfl rfl h55) ?_
                    refine sk (skW rfl rfl rfl h55) ?_
                    refine sk (skW rfl rfl rfl h55) ?_
                    refine sk (skW rfl rfl rfl h55) ?_
                    refine sk (skW rfl rfl rfl h55) ?_
                    refine sk (skW rfl rfl rfl h55) ?_
                    refine sk (skW rfl rfl rfl h55) ?_
                    refine pkF (v := .sc (.bool false)) rfl rfl h55 rfl ?_
                    refine pu (v := .sc _) rfl rfl (fun _ => rfl) ?_
                    refine sk (skW rfl rfl rfl rfl) ?_
                    refine sk (skW rfl rfl rfl rfl) ?_
                    refine sk (skW rfl rfl rfl rfl) ?_
                    refine sk (skW rfl rfl rfl rfl) ?_
                    refine sk (skW rfl rfl rfl rfl) ?_
                    refine sk (skW rfl rfl rfl rfl) ?_
                    refine sk (skW rfl rfl rfl rfl) ?_
                    refine pkF (v := .sc (.bool false)) rfl rfl rfl rfl ?_
                    refine pu (v := .sc _) rfl rfl (fun _ => rfl) ?_
                    refine RunC.fin ?_
                    have hR := Option.some.inj hR; subst hR
                    exact Weak.turnL [] [] rfl rfl (tc (.sc _) tn) mn
                · refine sk (skW rfl rfl rfl h53) ?_
                  refine sk (skW rfl rfl rfl h53) ?_
                  refine sk (skW rfl rfl rfl h53) ?_
                  refine sk (skW rfl rfl rfl h53) ?_
                  refine sk (skW rfl rfl rfl h53) ?_
                  refine pkF (v := .sc (.bool false)) rfl rfl h53 rfl ?_
                  refine pu (v := .sc _) rfl rfl (fun _ => rfl) ?_
                  refine sk (skW rfl rfl rfl rfl) ?_
                  refine sk (skW rfl rfl rfl rfl) ?_
                  refine sk (skW rfl rfl rfl rfl) ?_
                  refine sk (skW rfl rfl rfl rfl) ?_
                  refine sk (skW rfl rfl rfl rfl) ?_
                  refine sk (skW rfl rfl rfl rfl) ?_
                  refine sk (skW rfl rfl rfl rfl) ?_
                  refine pkF (v := .sc (.bool false)) rfl rfl rfl rfl ?_
                  refine pu (v := .sc _) rfl rfl (fun _ => rfl) ?_
                  refine sk (skW rfl rfl rfl rfl) ?_
                  refine sk (skW rfl rfl rfl rfl) ?_
                  refine sk (skW rfl rfl rfl rfl) ?_
                  refine sk (skW rfl rfl rfl rfl) ?_
                  refine sk (skW rfl rfl rfl rfl) ?_
                  refine sk (skW rfl rfl rfl rfl) ?_
                  refine sk (skW rfl rfl rfl rfl) ?_
                  refine pkF (v := .sc (.bool false)) rfl rfl rfl rfl ?_
                  refine pu (v := .sc _) rfl rfl (fun _ => rfl) ?_
                  refine RunC.fin ?_
                  have hR := Option.some.inj hR; subst hR
                  exact Weak.turnL [] [] rfl rfl (tc (.sc _) tn) mn
              · refine sk (skW rfl rfl rfl h50) ?_
                refine sk (skW rfl rfl rfl h50) ?_
                refine sk (skW rfl rfl rfl h50) ?_
                refine sk (skW rfl rfl rfl h50) ?_
                refine sk (skW rfl rfl rfl h50) ?_
                refine sk (skW rfl rfl rfl h50) ?_
                refine sk (skW rfl rfl rfl h50) ?_
                refine pkF (v := .sc (.bool false)) rfl rfl h50 rfl ?_
                refine pu (v := .sc _) rfl rfl (fun _ => rfl) ?_
                refine sk (skW rfl rfl rfl rfl) ?_
                refine sk (skW rfl rfl rfl rfl) ?_
                refine sk (skW rfl rfl rfl rfl) ?_
                refine sk (skW rfl rfl rfl rfl) ?_
                refine sk (skW rfl rfl rfl rfl) ?_
                refine pkF (v := .sc (.bool false)) rfl rfl rfl rfl ?_
                refine pu (v := .sc _) rfl rfl (fun _ => rfl) ?_
                refine sk (skW rfl rfl rfl rfl) ?_
                refine sk (skW rfl rfl rfl rfl) ?_
                refine sk (skW rfl rfl rfl rfl) ?_
                refine sk (skW rfl rfl rfl rfl) ?_
                refine sk (skW rfl rfl rfl rfl) ?_
                refine sk (skW rfl rfl rfl rfl) ?_
                refine sk (skW rfl rfl rfl rfl) ?_
                refine pkF (v := .sc (.bool false)) rfl rfl rfl rfl ?_
                refine pu (v := .sc _) rfl rfl (fun _ => rfl) ?_
                refine sk (skW rfl rfl rfl rfl) ?_
                refine sk (skW rfl rfl rfl rfl) ?_
                refine sk (skW rfl rfl rfl rfl) ?_
                refine sk (skW rfl rfl rfl rfl) ?_
                refine sk (skW rfl rfl rfl rfl) ?_
                refine sk (skW rfl rfl rfl rfl) ?_
                refine sk (skW rfl rfl rfl rfl) ?_
                refine pkF (v := .sc (.bool false)) rfl rfl rfl rfl ?_
                refine pu (v := .sc _) rfl rfl (fun _ => rfl) ?_
                refine RunC.fin ?_
                have hR := Option.some.inj hR; subst hR
                exact Weak.turnL [] [] rfl rfl (tc (.sc _) tn) mn
            · refine AWP.ret ?_
              have hR := Option.some.inj hR; subst hR
              exact hQ _ _ (LS.mk [(6, .sc (.bool z46))] (lblks 0 []) 0) (.sc (.bool z46)) [] (.inr rfl) (Weak.turnL [] [] rfl rfl (tc (.sc _) tn) mn) (ro1 (rvT (v := .sc (.bool z46)) rfl)) rfl rfl (.sc _) pn
end Go.Proofs.Sto
