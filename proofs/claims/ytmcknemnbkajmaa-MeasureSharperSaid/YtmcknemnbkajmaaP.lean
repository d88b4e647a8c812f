/- Each function of the program computes its plain function. Conditions: as each theorem states them. -/
import Derived.Test.YtmcknemnbkajmaaA4
import Derived.Test.YtmcknemnbkajmaaT
import Derived.Test.YtmcknemnbkajmaaP1
namespace Go.Proofs.Mes
open Go Go.Abs Lf
set_option linter.unusedVariables false
set_option linter.unusedSimpArgs false
set_option maxRecDepth 100000
set_option maxHeartbeats 1000000
theorem ok5 (s : spymake_Stream) (w : Int) (h : Int) (points : Int) (r : (List Int) × Int × spymake_Stream) (hR : Stream_Lights s w h points = some r) : FnD Try.prog 5 [boxB false s] [.ptr 0 0 0, .sc (.int .i64 w), .sc (.int .i64 h), .sc (.int .i64 points)] (.tup [rowV (α := Int) true r.1, .sc (.int .i64 r.2.1)]) [boxB false r.2.2] := by
  refine FnX.walk Try.func5 rfl 116 1 (by simp [Try.ntmps5]) rfl fun W S F Q hQ => ?_
  unfold Stream_Lights at hR
  refine AWP.sq ?_
  refine AWP.rgC 9 rfl rfl ?_
  refine pu (v := .sc _) rfl rfl (fun _ => rfl) ?_
  refine pu (v := .sc _) rfl rfl (fun _ => rfl) ?_
  refine RunC.fin ?_
  refine AWP.sq ?_
  refine AWP.rgC 21 rfl rfl ?_
  refine pu (v := .ptr _ _ _) rfl rfl (fun _ => rfl) ?_
  obtain ⟨r1, hr1, hR⟩ := bindE hR
  refine cps (res' := .sc (.int .i64 r1.1)) (ups := [(0, boxB (α := spymake_Stream) false r1.2)]) [0] 13 rfl rfl rfl cb12 (ok12 s 40 _ hr1) (.cons (ldP rfl rfl) (.cons (.sc _) (.nil))) (pc rfl (.box (.cons ldR' (.cons (.sc _) (.nil))) rfl) pn) rfl rfl rfl rfl rfl (by first | rfl | exact renR | exact renA | exact renS | simp only [V.ren, V.rens, renR, renA, renS] | (simp only [V.ren, V.rens, renR, renA, renS]; rfl)) (by simp only [passUps, renBox, renArr]; rfl) ?_
  refine pu (v := .sc _) rfl rfl (fun _ => rfl) ?_
  refine RunC.fin ?_
  refine AWP.sq ?_
  refine AWP.rgC 41 rfl rfl ?_
  refine pu (v := .sc _) rfl rfl (fun _ => rfl) ?_
  refine pu (v := .sc _) rfl rfl (fun _ => rfl) ?_
  refine pu (v := .sc _) rfl rfl (fun _ => rfl) ?_
  obtain ⟨h2, hR⟩ := chkE hR
  refine mk (α := Int) 33 true 0 rfl rfl rfl rfl ti27 rfl ti28 rfl rfl h2 ?_
  refine pu (v := slV Int _ _ _ _) rfl rfl (fun _ => rfl) ?_
  refine RunC.fin ?_
  refine AWP.sq ?_
  refine AWP.sq ?_
  refine AWP.rgC 53 rfl rfl ?_
  refine pu (v := slV Int _ _ _ _) rfl rfl (fun _ => rfl) ?_
  refine lenS (α := Int) rfl rfl ti27 rfl ?_
  refine pu (v := .sc _) rfl rfl (fun _ => rfl) ?_
  refine RunC.fin ?_
  refine AWP.loopJ (fun s3 : (List Int) × Int => LS.mk [(0, .ptr 0 0 0), (1, .sc (.int .i64 w)), (2, .sc (.int .i64 h)), (3, .sc (.int .i64 points)), (10, .sc (.int .i64 r1.1)), (11, slV Int 1 0 0 s3.1.length), (27, .sc (.int .i64 ((List.replicate (w6 (w * h)).toNat (0 : Int)).length : Int))), (28, .sc (.int .i64 s3.2))] (lblks 0 [boxB (α := spymake_Stream) false r1.2, arrB (α := Int) 28 0 true s3.1]) 2) (fun z4 : (List Int) => LS.mk [(0, .ptr 0 0 0), (1, .sc (.int .i64 w)), (2, .sc (.int .i64 h)), (3, .sc (.int .i64 points)), (10, .sc (.int .i64 r1.1)), (11, slV Int 1 0 0 z4.length)] (lblks 0 [boxB (α := spymake_Stream) false r1.2, arrB (α := Int) 28 0 true z4]) 2) (Stream_Lights.l1 w h r1) hR (s0 := (List.replicate (w6 (w * h)).toNat (0 : Int), 0)) (Weak.turnL [(0, 0), (33, 0)] [] rfl rfl (tc (trP' rfl rfl rfl rfl) (tc (.sc _) (tc (.sc _) (tc (.sc _) (tc (.sc _) (tc (trS' rfl rfl rfl rfl rfl) (tc (.sc _) (tc (.sc _) tn)))))))) (mc rfl (.box rfl (.cons trR1 (.cons (.sc _) (.nil))) rfl) (mc rfl (btrA' rfl) mn))) (fun s3 o3 hR => ?_) fun z4 hR => ?_
  · unfold Stream_Lights.l1 at hR
    refine AWP.sq ?_
    refine AWP.rgC 6 rfl rfl ?_
    obtain ⟨v5, ev5, hR⟩ := letE hR
    refine pu (v := .sc _) rfl rfl (fun _ => puB ev5) ?_
    refine RunC.fin ?_
    refine AWP.sq ?_
    refine AWP.cd hR rfl (fun h6 hR => ?_) fun h6 hR => ?_
    · refine AWP.skip ?_
      refine skT ?_
      refine AWP.sq ?_
      refine AWP.block ?_
      refine AWP.sq ?_
      refine AWP.rgC 14 rfl rfl ?_
      refine pu (v := .sc _) rfl rfl (fun _ => rfl) ?_
      refine pu (v := .sc _) rfl rfl (fun _ => rfl) ?_
      refine RunC.fin ?_
      refine AWP.rgC 34 rfl rfl ?_
      refine pu (v := slV Int _ _ _ _) rfl rfl (fun _ => rfl) ?_
      refine pu (v := .sc _) rfl rfl (fun _ => rfl) ?_
      refine pu (v := .sc _) rfl rfl (fun _ => rfl) ?_
      obtain ⟨h7, hR⟩ := chkE hR
      refine ixS0 (α := Int) rfl rfl rfl ti27 rfl ti28 rfl h7 ?_
      refine stE (α := Int) (y := r1.1) rfl rfl rfl (ixlt h7) ti28 rfl rfl rfl rfl rfl ?_
      refine RunC.blk ?_
      refine RunC.fin ?_
      refine AWP.rgC 42 rfl rfl ?_
      refine pu (v := .sc _) rfl rfl (fun _ => rfl) ?_
      refine pu (v := .sc _) rfl rfl (fun _ => rfl) ?_
      refine RunC.fin ?_
      refine ⟨(List.set s3.1 s3.2.toNat r1.1, w6 (s3.2 + 1)), (Option.some.inj hR).symm, ?_⟩
      exact Weak.turnL [(0, 0), (1, 0)] [] rfl rfl (tc (trP' rfl rfl rfl rfl) (tc (.sc _) (tc (.sc _) (tc (.sc _) (tc (.sc _) (tc (trS' rfl rfl rfl rfl (by simp only [List.length_set])) (tc (.sc _) (tc (.sc _) tn)))))))) (mc rfl (.box rfl (.cons trR1 (.cons (.sc _) (.nil))) rfl) (mc rfl (btrA' rfl) mn))
    · refine AWP.exit ?_
      refine exT ?_
      refine exT ?_
      refine exH (skT ?_)
      refine ⟨s3.1, (Option.some.inj hR).symm, ?_⟩
      exact Weak.turnL [(0, 0), (1, 0)] [] rfl rfl (tc (trP' rfl rfl rfl rfl) (tc (.sc _) (tc (.sc _) (tc (.sc _) (tc (.sc _) (tc (trS' rfl rfl rfl rfl rfl) tn)))))) (mc rfl (.box rfl (.cons trR1 (.cons (.sc _) (.nil))) rfl) (mc rfl (btrA' rfl) mn))
  · refine skT ?_
    refine AWP.sq ?_
    refine AWP.sq ?_
    refine AWP.rgC 10 rfl rfl ?_
    refine pu (v := .sc _) rfl rfl (fun _ => rfl) ?_
    refine pu (v := .sc _) rfl rfl (fun _ => rfl) ?_
    refine RunC.fin ?_
    refine AWP.loopJ (fun s8 : spymake_Stream × (List Int) × Int => LS.mk [(0, .ptr 0 0 0), (1, .sc (.int .i64 w)), (2, .sc (.int .i64 h)), (10, .sc (.int .i64 r1.1)), (11, slV Int 1 0 0 s8.2.1.length), (36, .sc (.int .i64 points)), (37, .sc (.int .i64 s8.2.2))] (lblks 0 [boxB (α := spymake_Stream) false s8.1, arrB (α := Int) 28 0 true s8.2.1]) 2) (fun z9 : spymake_Stream × (List Int) => LS.mk [(10, .sc (.int .i64 r1.1)), (11, slV Int 1 0 0 z9.2.length)] (lblks 0 [boxB (α := spymake_Stream) false z9.1, arrB (α := Int) 28 0 true z9.2]) 2) (Stream_Lights.l2 w h points) hR (s0 := (r1.2, z4, 0)) (Weak.turnL [(0, 0), (1, 0)] [] rfl rfl (tc (trP' rfl rfl rfl rfl) (tc (.sc _) (tc (.sc _) (tc (.sc _) (tc (trS' rfl rfl rfl rfl rfl) (tc (.sc _) (tc (.sc _) tn))))))) (mc rfl (.box rfl (.cons trR1 (.cons (.sc _) (.nil))) rfl) (mc rfl (btrA' rfl) mn))) (fun s8 o8 hR => ?_) fun z9 hR => ?_
    · unfold Stream_Lights.l2 at hR
      refine AWP.sq ?_
      refine AWP.rgC 6 rfl rfl ?_
      refine pu (v := .sc _) rfl rfl (fun _ => rfl) ?_
      refine RunC.fin ?_
      refine AWP.sq ?_
      refine AWP.cd hR rfl (fun h10 hR => ?_) fun h10 hR => ?_
      · refine AWP.skip ?_
        refine skT ?_
        refine AWP.sq ?_
        refine AWP.block ?_
        refine AWP.sq ?_
        refine AWP.rgC 50 rfl rfl ?_
        refine pu (v := .ptr _ _ _) rfl rfl (fun _ => rfl) ?_
        refine pu (v := .sc _) rfl rfl (fun _ => rfl) ?_
        obtain ⟨r11, hr11, hR⟩ := bindE hR
        refine cps (res' := .sc (.int .i64 r11.1)) (ups := [(0, boxB (α := spymake_Stream) false r11.2)]) [0] 14 rfl rfl rfl cb12 (ok12 s8.1 w _ hr11) (.cons (ldP rfl rfl) (.cons (.sc _) (.nil))) (pc rfl (.box (.cons ldR' (.cons (.sc _) (.nil))) rfl) pn) rfl rfl rfl rfl rfl (by first | rfl | exact renR | exact renA | exact renS | simp only [V.ren, V.rens, renR, renA, renS] | (simp only [V.ren, V.rens, renR, renA, renS]; rfl)) (by simp only [passUps, renBox, renArr]; rfl) ?_
        refine pu (v := .ptr _ _ _) rfl rfl (fun _ => rfl) ?_
        refine pu (v := .sc _) rfl rfl (fun _ => rfl) ?_
        obtain ⟨r12, hr12, hR⟩ := bindE hR
        refine cps (res' := .sc (.int .i64 r12.1)) (ups := [(0, boxB (α := spymake_Stream) false r12.2)]) [0] 26 rfl rfl rfl cb12 (ok12 r11.2 h _ hr12) (.cons (ldP rfl rfl) (.cons (.sc _) (.nil))) (pc rfl (.box (.cons ldR' (.cons (.sc _) (.nil))) rfl) pn) rfl rfl rfl rfl rfl (by first | rfl | exact renR | exact renA | exact renS | simp only [V.ren, V.rens, renR, renA, renS] | (simp only [V.ren, V.rens, renR, renA, renS]; rfl)) (by simp only [passUps, renBox, renArr]; rfl) ?_
        refine pu (v := .ptr _ _ _) rfl rfl (fun _ => rfl) ?_
        obtain ⟨r13, hr13, hR⟩ := bindE hR
        refine cps (res' := .sc (.int .i64 r13.1)) (ups := [(0, boxB (α := spymake_Stream) false r13.2)]) [0] 34 rfl rfl rfl cb4 (ok4 r12.2 1 3 _ hr13) (.cons (ldP rfl rfl) (.cons (.sc _) (.cons (.sc _) (.nil)))) (pc rfl (.box (.cons ldR' (.cons (.sc _) (.nil))) rfl) pn) rfl rfl rfl rfl rfl (by first | rfl | exact renR | exact renA | exact renS | simp only [V.ren, V.rens, renR, renA, renS] | (simp only [V.ren, V.rens, renR, renA, renS]; rfl)) (by simp only [passUps, renBox, renArr]; rfl) ?_
        refine pu (v := .sc _) rfl rfl (fun _ => rfl) ?_
        refine pu (v := .sc _) rfl rfl (fun _ => rfl) ?_
        refine pu (v := .sc _) rfl rfl (fun _ => rfl) ?_
        refine RunC.fin ?_
        refine AWP.sq ?_
        refine AWP.rgC 82 rfl rfl ?_
        refine pu (v := .ptr _ _ _) rfl rfl (fun _ => rfl) ?_
        refine bs (α := Int) 54 true ([30, 400, 5000] : List Int) rfl rfl ti22 rfl ti3 rfl rfl rfl rfl rfl ?_
        refine pu (v := .ptr _ _ _) rfl rfl (fun _ => rfl) ?_
        obtain ⟨r14, hr14, hR⟩ := bindE hR
        refine cps (res' := .sc (.int .i64 r14.1)) (ups := [(0, boxB (α := spymake_Stream) false r14.2)]) [0] 62 rfl rfl rfl cb12 (ok12 r13.2 3 _ hr14) (.cons (ldP rfl rfl) (.cons (.sc _) (.nil))) (pc rfl (.box (.cons ldR' (.cons (.sc _) (.nil))) rfl) pn) rfl rfl rfl rfl rfl (by first | rfl | exact renR | exact renA | exact renS | simp only [V.ren, V.rens, renR, renA, renS] | (simp only [V.ren, V.rens, renR, renA, renS]; rfl)) (by simp only [passUps, renBox, renArr]; rfl) ?_
        obtain ⟨h15, hR⟩ := chkE hR
        refine ixS0 (α := Int) rfl rfl rfl ti22 rfl ti3 rfl h15 ?_
        refine ldE (α := Int) (v := .sc _) rfl rfl rfl (ixlt h15) ti3 rfl rfl rfl rfl ?_
        obtain ⟨r16, hr16, hR⟩ := bindE hR
        refine cps (res' := .sc (.int .i64 r16.1)) (ups := [(0, boxB (α := spymake_Stream) false r16.2)]) [0] 74 rfl rfl rfl cb12 (ok12 r14.2 (gt ([30, 400, 5000] : List Int) r14.1) _ hr16) (.cons (ldP rfl rfl) (.cons (.sc _) (.nil))) (pc rfl (.box (.cons ldR' (.cons (.sc _) (.nil))) rfl) pn) rfl rfl rfl rfl rfl (by first | rfl | exact renR | exact renA | exact renS | simp only [V.ren, V.rens, renR, renA, renS] | (simp only [V.ren, V.rens, renR, renA, renS]; rfl)) (by simp only [passUps, renBox, renArr]; rfl) ?_
        refine pu (v := .sc _) rfl rfl (fun _ => rfl) ?_
        refine RunC.fin ?_
        refine AWP.sq ?_
        refine AWP.rgC 94 rfl rfl ?_
        refine pu (v := slV Int _ _ _ _) rfl rfl (fun _ => rfl) ?_
        refine lenS (α := Int) rfl rfl ti27 rfl ?_
        refine pu (v := .sc _) rfl rfl (fun _ => rfl) ?_
        refine RunC.fin ?_
        refine AWP.loopJ (fun s17 : (List Int) × Int => LS.mk [(0, .ptr 0 0 0), (1, .sc (.int .i64 w)), (2, .sc (.int .i64 h)), (10, .sc (.int .i64 r1.1)), (11, slV Int 1 0 0 s17.1.length), (13, .sc (.int .i64 r11.1)), (14, .sc (.int .i64 r12.1)), (15, .sc (.int .i64 r13.1)), (16, .sc (.int .i64 r16.1)), (36, .sc (.int .i64 points)), (37, .sc (.int .i64 s8.2.2)), (55, .sc (.int .i64 (s8.2.1.length : Int))), (56, .sc (.int .i64 s17.2))] (lblks 0 [boxB (α := spymake_Stream) false r16.2, arrB (α := Int) 28 0 true s17.1]) 2) (fun z18 : (List Int) => LS.mk [(0, .ptr 0 0 0), (1, .sc (.int .i64 w)), (2, .sc (.int .i64 h)), (10, .sc (.int .i64 r1.1)), (11, slV Int 1 0 0 z18.length), (36, .sc (.int .i64 points)), (37, .sc (.int .i64 s8.2.2))] (lblks 0 [boxB (α := spymake_Stream) false r16.2, arrB (α := Int) 28 0 true z18]) 2) (Stream_Lights.l3 w s8 r11 r12 r13 r16) hR (s0 := (s8.2.1, 0)) (Weak.turnL [(0, 0), (1, 0)] [] rfl rfl (tc (trP' rfl rfl rfl rfl) (tc (.sc _) (tc (.sc _) (tc (.sc _) (tc (trS' rfl rfl rfl rfl rfl) (tc (.sc _) (tc (.sc _) (tc (.sc _) (tc (.sc _) (tc (.sc _) (tc (.sc _) (tc (.sc _) (tc (.sc _) tn))))))))))))) (mc rfl (.box rfl (.cons trR1 (.cons (.sc _) (.nil))) rfl) (mc rfl (btrA' rfl) mn))) (fun s17 o17 hR => ?_) fun z18 hR => ?_
        · unfold Stream_Lights.l3 at hR
          refine AWP.sq ?_
          refine AWP.rgC 6 rfl rfl ?_
          refine pu (v := .sc _) rfl rfl (fun _ => rfl) ?_
          refine RunC.fin ?_
          refine AWP.sq ?_
          refine AWP.cd hR rfl (fun h19 hR => ?_) fun h19 hR => ?_
          · refine AWP.skip ?_
            refine skT ?_
            refine AWP.joinX (fun z20 : (List Int) => LS.mk [(0, .ptr 0 0 0), (1, .sc (.int .i64 w)), (2, .sc (.int .i64 h)), (10, .sc (.int .i64 r1.1)), (11, slV Int 1 0 0 z20.length), (13, .sc (.int .i64 r11.1)), (14, .sc (.int .i64 r12.1)), (15, .sc (.int .i64 r13.1)), (16, .sc (.int .i64 r16.1)), (36, .sc (.int .i64 points)), (37, .sc (.int .i64 s8.2.2)), (55, .sc (.int .i64 (s8.2.1.length : Int))), (56, .sc (.int .i64 s17.2))] (lblks 0 [boxB (α := spymake_Stream) false r16.2, arrB (α := Int) 28 0 true z20]) 2) hR (fun o20 hR => ?_) fun z20 hR => ?_
            · refine AWP.block ?_
              refine AWP.sq ?_
              refine AWP.rgC 14 rfl rfl ?_
              refine pu (v := .sc _) rfl rfl (fun _ => rfl) ?_
              refine pu (v := .sc _) rfl rfl (fun _ => rfl) ?_
              refine RunC.fin ?_
              refine AWP.sq ?_
              refine AWP.rgD 110 [0, 0, 3, 0, 15, 0, 0, 0, 192, 480, 1023, 0, 0, 6144, 0, 30720, 0, 0, 0, 393216, 983040, 2095104, 2047, 8388607] ⟨[], [none, none, none, none, none, none, none, none, none, none, none, none, none, none, none, none, none, none, none, none, none, none, none, none]⟩ hmix (by kernel_rfl) rfl rfl ?_
              refine pu (v := .sc _) rfl rfl (fun _ => rfl) ?_
              refine pu (v := .sc _) rfl rfl (fun _ => rfl) ?_
              obtain ⟨h21, hR⟩ := chkE hR
              refine rm rfl rfl rfl h21 rfl ?_
              refine pu (v := .sc _) rfl rfl (fun _ => rfl) ?_
              refine pu (v := .sc _) rfl rfl (fun _ => rfl) ?_
              refine pu (v := .sc _) rfl rfl (fun _ => rfl) ?_
              refine pu (v := .sc _) rfl rfl (fun _ => rfl) ?_
              refine pu (v := .sc _) rfl rfl (fun _ => rfl) ?_
              refine rm rfl rfl rfl h21 rfl ?_
              refine pu (v := .sc _) rfl rfl (fun _ => rfl) ?_
              obtain ⟨v22, ev22, hR⟩ := letE hR
              refine pu (v := .sc _) rfl rfl (fun _ => puI ev22) ?_
              refine pu (v := .sc _) rfl rfl (fun _ => rfl) ?_
              refine pu (v := .sc _) rfl rfl (fun _ => rfl) ?_
              refine qu rfl rfl rfl h21 rfl ?_
              refine pu (v := .sc _) rfl rfl (fun _ => rfl) ?_
              refine pu (v := .sc _) rfl rfl (fun _ => rfl) ?_
              refine pu (v := .sc _) rfl rfl (fun _ => rfl) ?_
              refine pu (v := .sc _) rfl rfl (fun _ => rfl) ?_
              refine pu (v := .sc _) rfl rfl (fun _ => rfl) ?_
              refine qu rfl rfl rfl h21 rfl ?_
              refine pu (v := .sc _) rfl rfl (fun _ => rfl) ?_
              obtain ⟨v23, ev23, hR⟩ := letE hR
              refine pu (v := .sc _) rfl rfl (fun _ => puI ev23) ?_
              refine pu (v := .sc _) rfl rfl (fun _ => rfl) ?_
              refine pu (v := .sc _) rfl rfl (fun _ => rfl) ?_
              refine RunC.fin ?_
              refine AWP.joinX (fun z24 : Bool => LS.mk [(0, .ptr 0 0 0), (1, .sc (.int .i64 w)), (2, .sc (.int .i64 h)), (10, .sc (.int .i64 r1.1)), (11, slV Int 1 0 0 s17.1.length), (13, .sc (.int .i64 r11.1)), (14, .sc (.int .i64 r12.1)), (15, .sc (.int .i64 r13.1)), (16, .sc (.int .i64 r16.1)), (17, .sc (.int .i64 s17.2)), (18, .sc (.int .i64 v22)), (19, .sc (.int .i64 v23)), (36, .sc (.int .i64 points)), (37, .sc (.int .i64 s8.2.2)), (55, .sc (.int .i64 (s8.2.1.length : Int))), (56, .sc (.int .i64 s17.2)), (88, .sc (.bool z24))] (lblks 0 [boxB (α := spymake_Stream) false r16.2, arrB (α := Int) 28 0 true s17.1]) 2) hR (fun o24 hR => ?_) fun z24 hR => ?_
              · refine AWP.rgC 142 rfl rfl ?_
                refine pu (v := .sc _) rfl rfl (fun _ => rfl) ?_
                refine pu (v := .sc _) rfl rfl (fun _ => rfl) ?_
                refine pu (v := .sc _) rfl rfl (fun _ => rfl) ?_
                refine pu (v := .sc _) rfl rfl (fun _ => rfl) ?_
                refine brR hR (fun h25 hR => ?_) fun h25 hR => ?_
                · refine pu (v := .sc _) (wtG rfl rfl rfl h25) rfl (fun _ => rfl) ?_
                  refine pu (v := .sc _) (wtG rfl rfl rfl h25) rfl (fun _ => rfl) ?_
                  refine pu (v := .sc _) (wtG rfl rfl rfl h25) rfl (fun _ => rfl) ?_
                  refine pkT (v := .sc (.bool (decide (v23 ≤ r13.1)))) rfl rfl h25 rfl ?_
                  refine RunC.fin ?_
                  have hR := Option.some.inj hR; subst hR
                  exact Weak.turnL [(0, 0), (1, 0)] [] rfl rfl (tc (trP' rfl rfl rfl rfl) (tc (.sc _) (tc (.sc _) (tc (.sc _) (tc (trS' rfl rfl rfl rfl rfl) (tc (.sc _) (tc (.sc _) (tc (.sc _) (tc (.sc _) (tc (.sc _) (tc (.sc _) (tc (.sc _) (tc (.sc _) (tc (.sc _) (tc (.sc _) (tc (.sc _) (tc (.sc _) tn))))))))))))))))) (mc rfl (.box rfl (.cons trR1 (.cons (.sc _) (.nil))) rfl) (mc rfl (btrA' rfl) mn))
                · refine sk (skW rfl rfl rfl h25) ?_
                  refine sk (skW rfl rfl rfl h25) ?_
                  refine sk (skW rfl rfl rfl h25) ?_
                  refine pkF (v := .sc (.bool false)) rfl rfl h25 rfl ?_
                  refine RunC.fin ?_
                  have hR := Option.some.inj hR; subst hR
                  exact Weak.turnL [(0, 0), (1, 0)] [] rfl rfl (tc (trP' rfl rfl rfl rfl) (tc (.sc _) (tc (.sc _) (tc (.sc _) (tc (trS' rfl rfl rfl rfl rfl) (tc (.sc _) (tc (.sc _) (tc (.sc _) (tc (.sc _) (tc (.sc _) (tc (.sc _) (tc (.sc _) (tc (.sc _) (tc (.sc _) (tc (.sc _) (tc (.sc _) (tc (.sc _) tn))))))))))))))))) (mc rfl (.box rfl (.cons trR1 (.cons (.sc _) (.nil))) rfl) (mc rfl (btrA' rfl) mn))
              · refine AWP.cd hR rfl (fun h26 hR => ?_) fun h26 hR => ?_
                · refine AWP.rgD 98 [0, 0, 3, 7, 0, 0, 32, 0, 224, 496, 0, 1024, 0, 7168, 16368, 0, 32768, 0, 131072, 491520, 1048560, 2097151, 4194303, 8388607] ⟨[], [none, none, none, some [1], none, none, none, none, none, none, none, none, none, none, none, none, none, none, none, none, none, none, none, some [1]]⟩ hmix (by kernel_rfl) rfl rfl ?_
                  refine pu (v := slV Int _ _ _ _) rfl rfl (fun _ => rfl) ?_
                  refine pu (v := .sc _) rfl rfl (fun _ => rfl) ?_
                  obtain ⟨h27, hR⟩ := chkE hR
                  refine ixS0 (α := Int) rfl rfl rfl ti27 rfl ti28 rfl h27 ?_
                  refine ldE (α := Int) (v := .sc _) rfl rfl rfl (ixlt h27) ti28 rfl rfl rfl rfl ?_
                  refine pu (v := .sc _) rfl rfl (fun _ => rfl) ?_
                  refine pu (v := .sc _) rfl rfl (fun _ => rfl) ?_
                  refine pu (v := .sc _) rfl rfl (fun _ => rfl) ?_
                  refine pu (v := .sc _) rfl rfl (fun _ => rfl) ?_
                  refine pu (v := .sc _) rfl rfl (fun _ => rfl) ?_
                  refine pu (v := .sc _) rfl rfl (fun _ => rfl) ?_
                  refine pu (v := .sc _) rfl rfl (fun _ => rfl) ?_
                  refine pu (v := .sc _) rfl rfl (fun _ => rfl) ?_
                  refine pu (v := .sc _) rfl rfl (fun _ => rfl) ?_
                  refine pu (v := .sc _) rfl rfl (fun _ => rfl) ?_
                  obtain ⟨v28, ev28, hR⟩ := letE hR
                  refine pu (v := .sc _) rfl rfl (fun _ => puI ev28) ?_
                  refine pu (v := .sc _) rfl rfl (fun _ => rfl) ?_
                  refine pu (v := .sc _) rfl rfl (fun _ => rfl) ?_
                  refine pu (v := .sc _) rfl rfl (fun _ => rfl) ?_
                  refine pu (v := .sc _) rfl rfl (fun _ => rfl) ?_
                  refine pu (v := .sc _) rfl rfl (fun _ => rfl) ?_
                  obtain ⟨h29, hR⟩ := chkE hR
                  refine qu rfl rfl rfl h29 rfl ?_
                  obtain ⟨v30, ev30, hR⟩ := letE hR
                  refine pu (v := .sc _) rfl rfl (fun _ => puI ev30) ?_
                  refine ixS0 (α := Int) rfl rfl rfl ti27 rfl ti28 rfl h27 ?_
                  refine stE (α := Int) (y := v30) rfl rfl rfl (ixlt h27) ti28 rfl rfl rfl rfl rfl ?_
                  refine RunC.blk ?_
                  refine RunC.fin ?_
                  have hR := Option.some.inj hR; subst hR
                  exact Weak.turnL [(0, 0), (1, 0)] [] rfl rfl (tc (trP' rfl rfl rfl rfl) (tc (.sc _) (tc (.sc _) (tc (.sc _) (tc (trS' rfl rfl rfl rfl (by simp only [List.length_set])) (tc (.sc _) (tc (.sc _) (tc (.sc _) (tc (.sc _) (tc (.sc _) (tc (.sc _) (tc (.sc _) (tc (.sc _) tn))))))))))))) (mc rfl (.box rfl (.cons trR1 (.cons (.sc _) (.nil))) rfl) (mc rfl (btrA' rfl) mn))
                · refine AWP.skip ?_
                  refine skB ?_
                  refine skT ?_
                  have hR := Option.some.inj hR; subst hR
                  exact Weak.turnL [(0, 0), (1, 0)] [] rfl rfl (tc (trP' rfl rfl rfl rfl) (tc (.sc _) (tc (.sc _) (tc (.sc _) (tc (trS' rfl rfl rfl rfl rfl) (tc (.sc _) (tc (.sc _) (tc (.sc _) (tc (.sc _) (tc (.sc _) (tc (.sc _) (tc (.sc _) (tc (.sc _) tn))))))))))))) (mc rfl (.box rfl (.cons trR1 (.cons (.sc _) (.nil))) rfl) (mc rfl (btrA' rfl) mn))
            · refine AWP.rgC 10 rfl rfl ?_
              refine pu (v := .sc _) rfl rfl (fun _ => rfl) ?_
              refine pu (v := .sc _) rfl rfl (fun _ => rfl) ?_
              refine RunC.fin ?_
              refine ⟨(z20, w6 (s17.2 + 1)), (Option.some.inj hR).symm, ?_⟩
              exact Weak.turnL [(0, 0), (1, 0)] [] rfl rfl (tc (trP' rfl rfl rfl rfl) (tc (.sc _) (tc (.sc _) (tc (.sc _) (tc (trS' rfl rfl rfl rfl rfl) (tc (.sc _) (tc (.sc _) (tc (.sc _) (tc (.sc _) (tc (.sc _) (tc (.sc _) (tc (.sc _) (tc (.sc _) tn))))))))))))) (mc rfl (.box rfl (.cons trR1 (.cons (.sc _) (.nil))) rfl) (mc rfl (btrA' rfl) mn))
          · refine AWP.exit ?_
            refine exT ?_
            refine exT ?_
            refine exH (skT ?_)
            refine ⟨s17.1, (Option.some.inj hR).symm, ?_⟩
            exact Weak.turnL [(0, 0), (1, 0)] [] rfl rfl (tc (trP' rfl rfl rfl rfl) (tc (.sc _) (tc (.sc _) (tc (.sc _) (tc (trS' rfl rfl rfl rfl rfl) (tc (.sc _) (tc (.sc _) tn))))))) (mc rfl (.box rfl (.cons trR1 (.cons (.sc _) (.nil))) rfl) (mc rfl (btrA' rfl) mn))
        · refine skB ?_
          refine skT ?_
          refine AWP.rgC 10 rfl rfl ?_
          refine pu (v := .sc _) rfl rfl (fun _ => rfl) ?_
          refine pu (v := .sc _) rfl rfl (fun _ => rfl) ?_
          refine RunC.fin ?_
          refine ⟨(r16.2, z18, w6 (s8.2.2 + 1)), (Option.some.inj hR).symm, ?_⟩
          exact Weak.turnL [(0, 0), (1, 0)] [] rfl rfl (tc (trP' rfl rfl rfl rfl) (tc (.sc _) (tc (.sc _) (tc (.sc _) (tc (trS' rfl rfl rfl rfl rfl) (tc (.sc _) (tc (.sc _) tn))))))) (mc rfl (.box rfl (.cons trR1 (.cons (.sc _) (.nil))) rfl) (mc rfl (btrA' rfl) mn))
      · refine AWP.exit ?_
        refine exT ?_
        refine exT ?_
        refine exH (skT ?_)
        refine ⟨(s8.1, s8.2.1), (Option.some.inj hR).symm, ?_⟩
        exact Weak.turnL [(0, 0), (1, 0)] [] rfl rfl (tc (.sc _) (tc (trS' rfl rfl rfl rfl rfl) tn)) (mc rfl (.box rfl (.cons trR1 (.cons (.sc _) (.nil))) rfl) (mc rfl (btrA' rfl) mn))
    · refine skT ?_
      refine AWP.sq ?_
      refine AWP.rgC 18 rfl rfl ?_
      refine pu (v := slV Int _ _ _ _) rfl rfl (fun _ => rfl) ?_
      refine pu (v := .sc _) rfl rfl (fun _ => rfl) ?_
      refine pu (v := slV Int _ _ _ _) rfl rfl (fun _ => rfl) ?_
      refine pu (v := .sc _) rfl rfl (fun _ => rfl) ?_
      refine RunC.fin ?_
      refine AWP.ret ?_
      have hR := Option.some.inj hR; subst hR
      exact hQ _ _ (LS.mk [(8, rowV (α := Int) true z9.2), (9, .sc (.int .i64 r1.1))] (lblks 0 [boxB (α := spymake_Stream) false z9.1]) 1) (.tup [rowV (α := Int) true z9.2, .sc (.int .i64 r1.1)]) [] (.inr rfl) (Weak.turnL [(0, 0)] [1] rfl rfl (tc (trF' rfl rfl id rfl) (tc (.sc _) tn)) (mc rfl (.box rfl (.cons trR1 (.cons (.sc _) (.nil))) rfl) mn)) (ro2 (rvT (v := rowV (α := Int) true z9.2) rfl) (rvT (v := .sc (.int .i64 r1.1)) rfl)) rfl rfl (.tup (.cons ldR' (.cons (.sc _) .nil))) (pc rfl bldB pn)
theorem ok3 (l : List Int) (r : Bool) (hR : spykeep4_MeasureSharper l = some r) : FnP Try.prog 3 [rowV false l] (.sc (.bool r)) := by
  refine fnP_of (FnX.walk Try.func3 rfl 237 0 (by simp [Try.ntmps3]) rfl fun W S F Q hQ => ?_)
  unfold spykeep4_MeasureSharper at hR
  refine AWP.sq ?_
  refine AWP.rgC 4 rfl rfl ?_
  refine pu (v := .sc _) rfl rfl (fun _ => rfl) ?_
  refine RunC.fin ?_
  refine AWP.sq ?_
  refine AWP.rgC 20 rfl rfl ?_
  refine pu (v := rowV _ l) rfl rfl (fun _ => rfl) ?_
  refine bu (cs := [rowV (α := Int) false l, .sc (.int .i64 0)]) rfl bt25 rfl ?_
  refine bx (cs := _) 12 rfl rfl rfl ?_
  refine pu (v := .ptr _ _ _) rfl rfl (fun _ => rfl) ?_
  refine RunC.fin ?_
  refine AWP.sq ?_
  refine AWP.rgC 32 rfl rfl ?_
  refine pu (v := .ptr _ _ _) rfl rfl (fun _ => rfl) ?_
  obtain ⟨r1, hr1, hR⟩ := bindE hR
  refine cps (res' := .sc (.int .i64 r1.1)) (ups := [(12, boxB (α := spymake_Stream) false r1.2)]) [12] 24 rfl rfl rfl cb4 (ok4 (spymake_Stream.mk l 0) 0 2 _ hr1) (.cons (ldP rfl rfl) (.cons (.sc _) (.cons (.sc _) (.nil)))) (pc rfl (.box (.cons ldR' (.cons (.sc _) (.nil))) rfl) pn) rfl rfl rfl rfl rfl (by first | rfl | exact renR | exact renA | exact renS | simp only [V.ren, V.rens, renR, renA, renS] | (simp only [V.ren, V.rens, renR, renA, renS]; rfl)) (by simp only [passUps, renBox, renArr]; rfl) ?_
  refine pu (v := .sc _) rfl rfl (fun _ => rfl) ?_
  refine RunC.fin ?_
  refine AWP.sq ?_
  refine AWP.rgC 80 rfl rfl ?_
  refine pu (v := .ptr _ _ _) rfl rfl (fun _ => rfl) ?_
  refine pu (v := .sc _) rfl rfl (fun _ => rfl) ?_
  refine pu (v := .sc _) rfl rfl (fun _ => rfl) ?_
  refine pu (v := .sc _) rfl rfl (fun _ => rfl) ?_
  obtain ⟨r2, hr2, hR⟩ := bindE hR
  refine cps (res' := .sc (.int .i64 r2.1)) (ups := [(12, boxB (α := spymake_Stream) false r2.2)]) [12] 48 rfl rfl rfl cb4 (ok4 r1.2 (w6 ((w6 (2 * r1.1)) + 1)) 7 _ hr2) (.cons (ldP rfl rfl) (.cons (.sc _) (.cons (.sc _) (.nil)))) (pc rfl (.box (.cons ldR' (.cons (.sc _) (.nil))) rfl) pn) rfl rfl rfl rfl rfl (by first | rfl | exact renR | exact renA | exact renS | simp only [V.ren, V.rens, renR, renA, renS] | (simp only [V.ren, V.rens, renR, renA, renS]; rfl)) (by simp only [passUps, renBox, renArr]; rfl) ?_
  refine pu (v := .ptr _ _ _) rfl rfl (fun _ => rfl) ?_
  refine pu (v := .sc _) rfl rfl (fun _ => rfl) ?_
  refine pu (v := .sc _) rfl rfl (fun _ => rfl) ?_
  refine pu (v := .sc _) rfl rfl (fun _ => rfl) ?_
  obtain ⟨r3, hr3, hR⟩ := bindE hR
  refine cps (res' := .sc (.int .i64 r3.1)) (ups := [(12, boxB (α := spymake_Stream) false r3.2)]) [12] 68 rfl rfl rfl cb4 (ok4 r2.2 (w6 ((w6 (2 * r1.1)) + 1)) 7 _ hr3) (.cons (ldP rfl rfl) (.cons (.sc _) (.cons (.sc _) (.nil)))) (pc rfl (.box (.cons ldR' (.cons (.sc _) (.nil))) rfl) pn) rfl rfl rfl rfl rfl (by first | rfl | exact renR | exact renA | exact renS | simp only [V.ren, V.rens, renR, renA, renS] | (simp only [V.ren, V.rens, renR, renA, renS]; rfl)) (by simp only [passUps, renBox, renArr]; rfl) ?_
  refine pu (v := .sc _) rfl rfl (fun _ => rfl) ?_
  refine pu (v := .sc _) rfl rfl (fun _ => rfl) ?_
  refine RunC.fin ?_
  refine AWP.sq ?_
  refine AWP.rgC 124 rfl rfl ?_
  refine pu (v := .ptr _ _ _) rfl rfl (fun _ => rfl) ?_
  refine pu (v := .sc _) rfl rfl (fun _ => rfl) ?_
  refine pu (v := .sc _) rfl rfl (fun _ => rfl) ?_
  refine pu (v := .ptr _ _ _) rfl rfl (fun _ => rfl) ?_
  obtain ⟨r4, hr4, hR⟩ := bindE hR
  refine cps (res' := .sc (.int .i64 r4.1)) (ups := [(12, boxB (α := spymake_Stream) false r4.2)]) [12] 96 rfl rfl rfl cb4 (ok4 r3.2 1 3 _ hr4) (.cons (ldP rfl rfl) (.cons (.sc _) (.cons (.sc _) (.nil)))) (pc rfl (.box (.cons ldR' (.cons (.sc _) (.nil))) rfl) pn) rfl rfl rfl rfl rfl (by first | rfl | exact renR | exact renA | exact renS | simp only [V.ren, V.rens, renR, renA, renS] | (simp only [V.ren, V.rens, renR, renA, renS]; rfl)) (by simp only [passUps, renBox, renArr]; rfl) ?_
  obtain ⟨r5, hr5, hR⟩ := bindE hR
  refine cps (res' := .tup [rowV (α := Int) true r5.1, .sc (.int .i64 r5.2.1)]) (ups := [(12, boxB (α := spymake_Stream) false r5.2.2)]) [12] 100 rfl rfl rfl cb5 (ok5 r4.2 r2.1 r3.1 r4.1 _ hr5) (.cons (ldP rfl rfl) (.cons (.sc _) (.cons (.sc _) (.cons (.sc _) (.nil))))) (pc rfl (.box (.cons ldR' (.cons (.sc _) (.nil))) rfl) pn) rfl rfl rfl rfl rfl (by first | rfl | exact renR | exact renA | exact renS | simp only [V.ren, V.rens, renR, renA, renS] | (simp only [V.ren, V.rens, renR, renA, renS]; rfl)) (by simp only [passUps, renBox, renArr]; rfl) ?_
  refine pu (v := .tup _) rfl rfl (fun _ => rfl) ?_
  refine pu (v := rowV _ r5.1) rfl rfl (fun _ => rfl) ?_
  refine pu (v := .sc _) rfl rfl (fun _ => rfl) ?_
  refine pu (v := rowV _ r5.1) rfl rfl (fun _ => rfl) ?_
  refine pu (v := .sc _) rfl rfl (fun _ => rfl) ?_
  refine RunC.fin ?_
  refine AWP.sq ?_
  refine AWP.rgC 172 rfl rfl ?_
  refine pu (v := .ptr _ _ _) rfl rfl (fun _ => rfl) ?_
  refine pu (v := .sc _) rfl rfl (fun _ => rfl) ?_
  refine pu (v := .sc _) rfl rfl (fun _ => rfl) ?_
  refine pu (v := rowV _ r5.1) rfl rfl (fun _ => rfl) ?_
  obtain ⟨r6, hr6, hR⟩ := bindE hR
  refine cps (res' := aggV (α := Cells) true r6.1) (ups := [(12, boxB (α := spymake_Stream) false r6.2)]) [12] 140 rfl rfl rfl cb6 (ok6 r5.2.2 r2.1 r3.1 r5.1 false _ hr6) (.cons (ldP rfl rfl) (.cons (.sc _) (.cons (.sc _) (.cons ldR' (.cons (.sc _) (.nil)))))) (pc rfl (.box (.cons ldR' (.cons (.sc _) (.nil))) rfl) pn) rfl rfl rfl rfl rfl (by first | rfl | exact renR | exact renA | exact renS | simp only [V.ren, V.rens, renR, renA, renS] | (simp only [V.ren, V.rens, renR, renA, renS]; rfl)) (by simp only [passUps, renBox, renArr]; rfl) ?_
  refine pu (v := .ptr _ _ _) rfl rfl (fun _ => rfl) ?_
  refine pu (v := .sc _) rfl rfl (fun _ => rfl) ?_
  obtain ⟨r7, hr7, hR⟩ := bindE hR
  refine cps (res' := aggV (α := Bound) true r7.1) (ups := [(12, boxB (α := spymake_Stream) false r7.2)]) [12] 152 rfl rfl rfl cb7 (ok7 r6.2 r5.2.1 _ hr7) (.cons (ldP rfl rfl) (.cons (.sc _) (.nil))) (pc rfl (.box (.cons ldR' (.cons (.sc _) (.nil))) rfl) pn) rfl rfl rfl rfl rfl (by first | rfl | exact renR | exact renA | exact renS | simp only [V.ren, V.rens, renR, renA, renS] | (simp only [V.ren, V.rens, renR, renA, renS]; rfl)) (by simp only [passUps, renBox, renArr]; rfl) ?_
  refine al (cs := [.sc (.int .i64 0), .sc (.int .i64 0), .sc (.slice none 0 0)]) 156 rfl rfl ti33 rfl rfl ?_
  refine al (cs := [.sc (.int .i64 0), .sc (.int .i64 0), .sc (.bool false)]) 160 rfl rfl ti36 rfl rfl ?_
  refine stB (cs' := [.sc (.int .i64 r6.1.W), .sc (.int .i64 r6.1.H), rowV (α := Bound) true r6.1.At]) rfl rfl rfl rfl ti33 rfl rfl rfl rfl rfl ?_
  refine stB (cs' := [.sc (.int .i64 r7.1.Lo), .sc (.int .i64 r7.1.Hi), .sc (.bool r7.1.Unknown)]) rfl rfl rfl rfl ti36 rfl rfl rfl rfl rfl ?_
  refine RunC.fin ?_
  refine AWP.sq ?_
  refine AWP.rgC 220 rfl rfl ?_
  refine fa rfl rfl ti36 rfl rfl ti28 rfl ?_
  refine ldB (v := .sc _) rfl rfl rfl rfl ti28 rfl rfl ?_
  refine pu (v := .sc _) rfl rfl (fun _ => rfl) ?_
  refine pu (v := .sc _) rfl rfl (fun _ => rfl) ?_
  refine fa rfl rfl ti36 rfl rfl ti28 rfl ?_
  refine ldB (v := .sc _) rfl rfl rfl rfl ti28 rfl rfl ?_
  refine pu (v := .sc _) rfl rfl (fun _ => rfl) ?_
  refine pu (v := .sc _) rfl rfl (fun _ => rfl) ?_
  refine fa rfl rfl ti36 rfl rfl ti28 rfl ?_
  refine stB (cs' := [.sc (.int .i64 (mn2 r7.1.Lo r5.2.1)), .sc (.int .i64 r7.1.Hi), .sc (.bool r7.1.Unknown)]) rfl rfl rfl rfl ti28 rfl rfl rfl rfl rfl ?_
  refine fa rfl rfl ti36 rfl rfl ti28 rfl ?_
  refine stB (cs' := [.sc (.int .i64 (mn2 r7.1.Lo r5.2.1)), .sc (.int .i64 (mx2 r7.1.Hi r5.2.1)), .sc (.bool r7.1.Unknown)]) rfl rfl rfl rfl ti28 rfl rfl rfl rfl rfl ?_
  refine RunC.fin ?_
  refine AWP.sq ?_
  refine AWP.rgC 240 rfl rfl ?_
  refine pu (v := .sc _) rfl rfl (fun _ => rfl) ?_
  refine pu (v := .sc _) rfl rfl (fun _ => rfl) ?_
  refine bu (cs := [.sc (.int .i64 r2.1), .sc (.int .i64 r3.1), .sc (.slice none 0 0)]) rfl bt33 rfl ?_
  refine al (cs := [.sc (.int .i64 0), .sc (.int .i64 0), .sc (.slice none 0 0)]) 232 rfl rfl ti33 rfl rfl ?_
  refine stB (cs' := [.sc (.int .i64 r2.1), .sc (.int .i64 r3.1), .sc (.slice none 0 0)]) rfl rfl rfl rfl ti33 rfl rfl rfl rfl rfl ?_
  refine RunC.fin ?_
  refine AWP.sq ?_
  refine AWP.sq ?_
  refine AWP.rgC 256 rfl rfl ?_
  refine fa rfl rfl ti33 rfl rfl ti31 rfl ?_
  refine ldB (v := rowV _ r6.1.At) rfl rfl rfl rfl ti31 rfl rfl ?_
  refine lenL (α := Bound) rfl rfl ti31 rfl ?_
  refine pu (v := .sc _) rfl rfl (fun _ => rfl) ?_
  refine RunC.fin ?_
  refine AWP.nilB Bound 232 2 36 rfl rfl (cs' := [.sc (.int .i64 r2.1), .sc (.int .i64 r3.1), slV Bound 256 0 0 0]) rfl ?_
  refine AWP.loopJ (fun s8 : (List Bound) × Int => LS.mk [(3, .ptr 0 0 0), (4, .sc (.int .i64 r1.1)), (5, .sc (.int .i64 r2.1)), (6, .sc (.int .i64 r3.1)), (7, rowV (α := Int) true r5.1), (8, .sc (.int .i64 r5.2.1)), (9, .ptr 1 0 0), (10, .ptr 2 0 0), (11, .ptr 3 0 0), (70, rowV (α := Bound) true r6.1.At), (71, .sc (.int .i64 (r6.1.At.length : Int))), (72, .sc (.int .i64 s8.2))] (lblks 0 [boxB (α := spymake_Stream) false r7.2, boxB (α := Cells) true r6.1, boxB (α := Bound) true (Bound.mk (mn2 r7.1.Lo r5.2.1) (mx2 r7.1.Hi r5.2.1) r7.1.Unknown), .box [.sc (.int .i64 r2.1), .sc (.int .i64 r3.1), slV Bound 4 0 0 s8.1.length], arrB (α := Bound) 36 0 true s8.1]) 5) (fun z9 : (List Bound) => LS.mk [(3, .ptr 0 0 0), (4, .sc (.int .i64 r1.1)), (5, .sc (.int .i64 r2.1)), (6, .sc (.int .i64 r3.1)), (8, .sc (.int .i64 r5.2.1)), (9, .ptr 1 0 0), (10, .ptr 2 0 0), (11, .ptr 3 0 0)] (lblks 0 [boxB (α := spymake_Stream) false r7.2, boxB (α := Cells) true r6.1, boxB (α := Bound) true (Bound.mk (mn2 r7.1.Lo r5.2.1) (mx2 r7.1.Hi r5.2.1) r7.1.Unknown), .box [.sc (.int .i64 r2.1), .sc (.int .i64 r3.1), slV Bound 4 0 0 z9.length], arrB (α := Bound) 36 0 true z9]) 5) (spykeep4_MeasureSharper.l1 r5 r6) hR (s0 := (([] : List Bound), 0)) (Weak.turnL [(12, 0), (156, 0), (160, 0), (232, 0), (256, 0)] [] rfl rfl (tc (trP' rfl rfl rfl rfl) (tc (.sc _) (tc (.sc _) (tc (.sc _) (tc trR1 (tc (.sc _) (tc (trP' rfl rfl rfl rfl) (tc (trP' rfl rfl rfl rfl) (tc (trP' rfl rfl rfl rfl) (tc trR1 (tc (.sc _) (tc (.sc _) tn)))))))))))) (mc rfl (.box rfl (.cons trR1 (.cons (.sc _) (.nil))) rfl) (mc rfl (.box rfl (.cons (.sc _) (.cons (.sc _) (.cons trR1 (.nil)))) rfl) (mc rfl (.box rfl (.cons (.sc _) (.cons (.sc _) (.cons (.sc _) (.nil)))) rfl) (mc rfl (.box rfl (.cons (.sc _) (.cons (.sc _) (.cons (trS' rfl rfl rfl rfl rfl) (.nil)))) rfl) (mc rfl (btrA' rfl) mn)))))) (fun s8 o8 hR => ?_) fun z9 hR => ?_
  · unfold spykeep4_MeasureSharper.l1 at hR
    refine AWP.sq ?_
    refine AWP.rgC 9 rfl rfl ?_
    refine pu (v := .sc _) rfl rfl (fun _ => rfl) ?_
    refine RunC.fin ?_
    refine AWP.sq ?_
    refine AWP.cd hR rfl (fun h10 hR => ?_) fun h10 hR => ?_
    · refine AWP.skip ?_
      refine skT ?_
      refine AWP.sq ?_
      refine AWP.block ?_
      refine AWP.sq ?_
      refine AWP.rgC 33 rfl rfl ?_
      refine pu (v := .sc _) rfl rfl (fun _ => rfl) ?_
      obtain ⟨h11, hR⟩ := chkE hR
      refine ixL (α := Bound) rfl rfl rfl ti31 rfl ti36 rfl h11 ?_
      refine ldR (v := .agg _) rfl rfl ti36 rfl ?_
      refine al (cs := [.sc (.int .i64 0), .sc (.int .i64 0), .sc (.bool false)]) 21 rfl rfl ti36 rfl rfl ?_
      refine pu (v := .sc _) rfl rfl (fun _ => rfl) ?_
      refine stB (cs' := [.sc (.int .i64 (gt r6.1.At s8.2).Lo), .sc (.int .i64 (gt r6.1.At s8.2).Hi), .sc (.bool (gt r6.1.At s8.2).Unknown)]) rfl rfl rfl rfl ti36 rfl rfl rfl rfl rfl ?_
      refine RunC.fin ?_
      refine AWP.rgD 165 [0, 1, 0, 0, 12, 28, 0, 0, 192, 448, 0, 1024, 4032, 8128, 16380, 0, 0, 98304, 229376, 0, 524288, 0, 0, 6291456, 14680064, 33030144, 66584576, 134184960, 268435452, 536870908, 1073741823, 2147483647, 4294967295] ⟨[], [none, some [3], none, none, none, some [], none, none, none, some [], none, some [21], none, none, none, none, none, none, some [], none, some [21], none, none, none, some [], none, none, none, none, none, some [4, 149], none, some [3]]⟩ hmix (by kernel_rfl) rfl rfl ?_
      refine fa rfl rfl ti33 rfl rfl ti31 rfl ?_
      refine ldB (v := slV Bound _ _ _ _) rfl rfl rfl rfl ti31 rfl rfl ?_
      refine pu (v := rowV _ r5.1) rfl rfl (fun _ => rfl) ?_
      refine pu (v := .sc _) rfl rfl (fun _ => rfl) ?_
      obtain ⟨h12, hR⟩ := chkE hR
      refine ixL (α := Int) rfl rfl rfl ti27 rfl ti28 rfl h12 ?_
      refine ldR (v := .sc _) rfl rfl ti28 rfl ?_
      refine pu (v := rowV _ r5.1) rfl rfl (fun _ => rfl) ?_
      refine pu (v := .sc _) rfl rfl (fun _ => rfl) ?_
      refine ixL (α := Int) rfl rfl rfl ti27 rfl ti28 rfl h12 ?_
      refine ldR (v := .sc _) rfl rfl ti28 rfl ?_
      refine fa rfl rfl ti36 rfl rfl ti28 rfl ?_
      refine ldB (v := .sc _) rfl rfl rfl rfl ti28 rfl rfl ?_
      refine pu (v := .sc _) rfl rfl (fun _ => rfl) ?_
      refine qu rfl rfl rfl (by decide) rfl ?_
      obtain ⟨v13, ev13, hR⟩ := letE hR
      refine pu (v := .sc _) rfl rfl (fun _ => puI ev13) ?_
      refine pu (v := rowV _ r5.1) rfl rfl (fun _ => rfl) ?_
      refine pu (v := .sc _) rfl rfl (fun _ => rfl) ?_
      refine ixL (α := Int) rfl rfl rfl ti27 rfl ti28 rfl h12 ?_
      refine ldR (v := .sc _) rfl rfl ti28 rfl ?_
      refine fa rfl rfl ti36 rfl rfl ti28 rfl ?_
      refine ldB (v := .sc _) rfl rfl rfl rfl ti28 rfl rfl ?_
      refine pu (v := rowV _ r5.1) rfl rfl (fun _ => rfl) ?_
      refine pu (v := .sc _) rfl rfl (fun _ => rfl) ?_
      refine ixL (α := Int) rfl rfl rfl ti27 rfl ti28 rfl h12 ?_
      refine ldR (v := .sc _) rfl rfl ti28 rfl ?_
      refine pu (v := .sc _) rfl rfl (fun _ => rfl) ?_
      refine qu rfl rfl rfl (by decide) rfl ?_
      obtain ⟨v14, ev14, hR⟩ := letE hR
      refine pu (v := .sc _) rfl rfl (fun _ => puI ev14) ?_
      refine bu (cs := [.sc (.int .i64 v13), .sc (.int .i64 v14), .sc (.bool false)]) rfl bt36 rfl ?_
      refine bs (α := Bound) 149 true ([Bound.mk v13 v14 false] : List Bound) rfl rfl ti31 rfl ti36 rfl rfl rfl rfl rfl ?_
      obtain ⟨h15, hR⟩ := chkE hR
      refine ap' (α := Bound) (nw := true) (xs := s8.1) (ys := ([Bound.mk v13 v14 false] : List Bound)) rfl rfl rfl rfl (srcS' rfl rfl rfl) ti31 rfl ti36 rfl h15 rfl ?_
      refine fa rfl rfl ti33 rfl rfl ti31 rfl ?_
      refine stB (cs' := [.sc (.int .i64 r2.1), .sc (.int .i64 r3.1), slV Bound 4 1 0 (s8.1 ++ ([Bound.mk v13 v14 false] : List Bound)).length]) rfl rfl rfl rfl ti31 rfl rfl rfl rfl rfl ?_
      refine RunC.blk ?_
      refine RunC.fin ?_
      refine AWP.rgC 173 rfl rfl ?_
      refine pu (v := .sc _) rfl rfl (fun _ => rfl) ?_
      refine pu (v := .sc _) rfl rfl (fun _ => rfl) ?_
      refine RunC.fin ?_
      refine ⟨(s8.1 ++ ([Bound.mk v13 v14 false] : List Bound), w6 (s8.2 + 1)), (Option.some.inj hR).symm, ?_⟩
      exact Weak.turnL [(0, 0), (1, 0), (2, 0), (3, 0), (4, 0)] [] rfl rfl (tc (trP' rfl rfl rfl rfl) (tc (.sc _) (tc (.sc _) (tc (.sc _) (tc trR1 (tc (.sc _) (tc (trP' rfl rfl rfl rfl) (tc (trP' rfl rfl rfl rfl) (tc (trP' rfl rfl rfl rfl) (tc trR1 (tc (.sc _) (tc (.sc _) tn)))))))))))) (mc rfl (.box rfl (.cons trR1 (.cons (.sc _) (.nil))) rfl) (mc rfl (.box rfl (.cons (.sc _) (.cons (.sc _) (.cons trR1 (.nil)))) rfl) (mc rfl (.box rfl (.cons (.sc _) (.cons (.sc _) (.cons (.sc _) (.nil)))) rfl) (mc rfl (.box rfl (.cons (.sc _) (.cons (.sc _) (.cons (trS' rfl rfl rfl rfl rfl) (.nil)))) rfl) (mc rfl (btrA' rfl) mn)))))
    · refine AWP.exit ?_
      refine exT ?_
      refine exT ?_
      refine exH (skT ?_)
      refine ⟨s8.1, (Option.some.inj hR).symm, ?_⟩
      exact Weak.turnL [(0, 0), (1, 0), (2, 0), (3, 0), (4, 0)] [] rfl rfl (tc (trP' rfl rfl rfl rfl) (tc (.sc _) (tc (.sc _) (tc (.sc _) (tc (.sc _) (tc (trP' rfl rfl rfl rfl) (tc (trP' rfl rfl rfl rfl) (tc (trP' rfl rfl rfl rfl) tn)))))))) (mc rfl (.box rfl (.cons trR1 (.cons (.sc _) (.nil))) rfl) (mc rfl (.box rfl (.cons (.sc _) (.cons (.sc _) (.cons trR1 (.nil)))) rfl) (mc rfl (.box rfl (.cons (.sc _) (.cons (.sc _) (.cons (.sc _) (.nil)))) rfl) (mc rfl (.box rfl (.cons (.sc _) (.cons (.sc _) (.cons (trS' rfl rfl rfl rfl rfl) (.nil)))) rfl) (mc rfl (btrA' rfl) mn)))))
  · refine skT ?_
    refine AWP.sq ?_
    refine AWP.rgC 85 rfl rfl ?_
    refine pu (v := .ptr _ _ _) rfl rfl (fun _ => rfl) ?_
    refine pu (v := .sc _) rfl rfl (fun _ => rfl) ?_
    refine pu (v := .sc _) rfl rfl (fun _ => rfl) ?_
    refine pu (v := .sc _) rfl rfl (fun _ => rfl) ?_
    refine pu (v := .sc _) rfl rfl (fun _ => rfl) ?_
    refine pu (v := .sc _) rfl rfl (fun _ => rfl) ?_
    obtain ⟨r16, hr16, hR⟩ := bindE hR
    refine cps (res' := .sc (.int .i64 r16.1)) (ups := [(0, boxB (α := spymake_Stream) false r16.2)]) [0] 29 rfl rfl rfl cb4 (ok4 r7.2 r1.1 (w6 ((w6 (r3.1 - 1)) - r1.1)) _ hr16) (.cons (ldP rfl rfl) (.cons (.sc _) (.cons (.sc _) (.nil)))) (pc rfl (.box (.cons ldR' (.cons (.sc _) (.nil))) rfl) pn) rfl rfl rfl rfl rfl (by first | rfl | exact renR | exact renA | exact renS | simp only [V.ren, V.rens, renR, renA, renS] | (simp only [V.ren, V.rens, renR, renA, renS]; rfl)) (by simp only [passUps, renBox, renArr]; rfl) ?_
    refine pu (v := .sc _) rfl rfl (fun _ => rfl) ?_
    refine pu (v := .sc _) rfl rfl (fun _ => rfl) ?_
    refine pu (v := .ptr _ _ _) rfl rfl (fun _ => rfl) ?_
    refine pu (v := .sc _) rfl rfl (fun _ => rfl) ?_
    refine pu (v := .sc _) rfl rfl (fun _ => rfl) ?_
    refine pu (v := .sc _) rfl rfl (fun _ => rfl) ?_
    refine pu (v := .sc _) rfl rfl (fun _ => rfl) ?_
    refine pu (v := .sc _) rfl rfl (fun _ => rfl) ?_
    obtain ⟨r17, hr17, hR⟩ := bindE hR
    refine cps (res' := .sc (.int .i64 r17.1)) (ups := [(0, boxB (α := spymake_Stream) false r17.2)]) [0] 65 rfl rfl rfl cb4 (ok4 r16.2 r1.1 (w6 ((w6 (r2.1 - 1)) - r1.1)) _ hr17) (.cons (ldP rfl rfl) (.cons (.sc _) (.cons (.sc _) (.nil)))) (pc rfl (.box (.cons ldR' (.cons (.sc _) (.nil))) rfl) pn) rfl rfl rfl rfl rfl (by first | rfl | exact renR | exact renA | exact renS | simp only [V.ren, V.rens, renR, renA, renS] | (simp only [V.ren, V.rens, renR, renA, renS]; rfl)) (by simp only [passUps, renBox, renArr]; rfl) ?_
    refine pu (v := .sc _) rfl rfl (fun _ => rfl) ?_
    refine bu (cs := [.sc (.int .i64 (w6 ((w6 (r16.1 * r2.1)) + r17.1))), .sc (.slice none 0 0)]) rfl bt39 rfl ?_
    refine al (cs := [.sc (.int .i64 0), .sc (.slice none 0 0)]) 77 rfl rfl ti39 rfl rfl ?_
    refine stB (cs' := [.sc (.int .i64 (w6 ((w6 (r16.1 * r2.1)) + r17.1))), .sc (.slice none 0 0)]) rfl rfl rfl rfl ti39 rfl rfl rfl rfl rfl ?_
    refine RunC.fin ?_
    refine AWP.sq ?_
    refine AWP.rgC 129 rfl rfl ?_
    refine ldB (v := .agg _) rfl rfl rfl rfl ti33 rfl rfl ?_
    refine ldB (v := .agg _) rfl rfl rfl rfl ti36 rfl rfl ?_
    refine ldB (v := .agg _) rfl rfl rfl rfl ti39 rfl rfl ?_
    refine pu (v := .sc _) rfl rfl (fun _ => rfl) ?_
    obtain ⟨r18, hr18, hR⟩ := bindE hR
    refine cls [] rfl rfl cb8 (ok8 r6.1 (Bound.mk (mn2 r7.1.Lo r5.2.1) (mx2 r7.1.Hi r5.2.1) r7.1.Unknown) (Source_.mk (w6 ((w6 (r16.1 * r2.1)) + r17.1)) []) r1.1 _ hr18) (.cons (.agg (.cons (.sc _) (.cons (.sc _) (.cons ldR' (.nil)))) rfl) (.cons (.agg (.cons (.sc _) (.cons (.sc _) (.cons (.sc _) (.nil)))) rfl) (.cons (.agg (.cons (.sc _) (.cons .nil (.nil))) rfl) (.cons (.sc _) (.nil))))) (.inr rfl) rfl ?_
    refine pu (v := .tup _) rfl rfl (fun _ => rfl) ?_
    refine pu (v := .agg _) rfl rfl (fun _ => rfl) ?_
    refine pu (v := .sc _) rfl rfl (fun _ => rfl) ?_
    refine al (cs := [.sc (.int .i64 0), .sc (.int .i64 0), .sc (.bool false), .sc (.int .i64 0), .sc (.int .i64 0), .sc (.bool false), .sc (.int .i64 0), .sc (.int .i64 0), .sc (.bool false)]) 117 rfl rfl ti44 rfl rfl ?_
    refine stB (cs' := [.sc (.int .i64 r18.1.X.Lo), .sc (.int .i64 r18.1.X.Hi), .sc (.bool r18.1.X.Unknown), .sc (.int .i64 r18.1.Y.Lo), .sc (.int .i64 r18.1.Y.Hi), .sc (.bool r18.1.Y.Unknown), .sc (.int .i64 r18.1.Flux.Lo), .sc (.int .i64 r18.1.Flux.Hi), .sc (.bool r18.1.Flux.Unknown)]) rfl rfl rfl rfl ti44 rfl rfl rfl rfl rfl ?_
    refine pu (v := .sc _) rfl rfl (fun _ => rfl) ?_
    refine RunC.fin ?_
    refine AWP.sq ?_
    refine AWP.rgC 181 rfl rfl ?_
    refine ldB (v := .agg _) rfl rfl rfl rfl ti33 rfl rfl ?_
    refine pu (v := .sc _) rfl rfl (fun _ => rfl) ?_
    refine pu (v := .sc _) rfl rfl (fun _ => rfl) ?_
    refine bu (cs := [.sc (.int .i64 r5.2.1), .sc (.int .i64 r5.2.1), .sc (.bool false)]) rfl bt36 rfl ?_
    refine ldB (v := .agg _) rfl rfl rfl rfl ti39 rfl rfl ?_
    refine pu (v := .sc _) rfl rfl (fun _ => rfl) ?_
    obtain ⟨r19, hr19, hR⟩ := bindE hR
    refine cls [4] rfl rfl cb8 (ok8 (Cells.mk r2.1 r3.1 z9) (Bound.mk r5.2.1 r5.2.1 false) (Source_.mk (w6 ((w6 (r16.1 * r2.1)) + r17.1)) []) r1.1 _ hr19) (.cons (.agg (.cons (.sc _) (.cons (.sc _) (.cons (ldS' rfl rfl rfl rfl) (.nil)))) rfl) (.cons (.agg (.cons (.sc _) (.cons (.sc _) (.cons (.sc _) (.nil)))) rfl) (.cons (.agg (.cons (.sc _) (.cons .nil (.nil))) rfl) (.cons (.sc _) (.nil))))) (.inl (by first | rfl | exact freshR | exact freshA | (simp only [V.fresh, V.freshs, freshR, freshA, Bool.and_self]))) rfl ?_
    refine pu (v := .tup _) rfl rfl (fun _ => rfl) ?_
    refine pu (v := .agg _) rfl rfl (fun _ => rfl) ?_
    refine pu (v := .sc _) rfl rfl (fun _ => rfl) ?_
    refine al (cs := [.sc (.int .i64 0), .sc (.int .i64 0), .sc (.bool false), .sc (.int .i64 0), .sc (.int .i64 0), .sc (.bool false), .sc (.int .i64 0), .sc (.int .i64 0), .sc (.bool false)]) 169 rfl rfl ti44 rfl rfl ?_
    refine stB (cs' := [.sc (.int .i64 r19.1.X.Lo), .sc (.int .i64 r19.1.X.Hi), .sc (.bool r19.1.X.Unknown), .sc (.int .i64 r19.1.Y.Lo), .sc (.int .i64 r19.1.Y.Hi), .sc (.bool r19.1.Y.Unknown), .sc (.int .i64 r19.1.Flux.Lo), .sc (.int .i64 r19.1.Flux.Hi), .sc (.bool r19.1.Flux.Unknown)]) rfl rfl rfl rfl ti44 rfl rfl rfl rfl rfl ?_
    refine pu (v := .sc _) rfl rfl (fun _ => rfl) ?_
    refine RunC.fin ?_
    refine AWP.sq ?_
    refine AWP.rgC 225 rfl rfl ?_
    refine ldB (v := .agg _) rfl rfl rfl rfl ti33 rfl rfl ?_
    refine ldB (v := .agg _) rfl rfl rfl rfl ti36 rfl rfl ?_
    refine ldB (v := .agg _) rfl rfl rfl rfl ti39 rfl rfl ?_
    refine pu (v := .sc _) rfl rfl (fun _ => rfl) ?_
    obtain ⟨r20, hr20, hR⟩ := bindE hR
    refine cls [] rfl rfl cb9 (ok9 r6.1 (Bound.mk (mn2 r7.1.Lo r5.2.1) (mx2 r7.1.Hi r5.2.1) r7.1.Unknown) (Source_.mk (w6 ((w6 (r16.1 * r2.1)) + r17.1)) []) r1.1 _ hr20) (.cons (.agg (.cons (.sc _) (.cons (.sc _) (.cons ldR' (.nil)))) rfl) (.cons (.agg (.cons (.sc _) (.cons (.sc _) (.cons (.sc _) (.nil)))) rfl) (.cons (.agg (.cons (.sc _) (.cons .nil (.nil))) rfl) (.cons (.sc _) (.nil))))) (.inr rfl) rfl ?_
    refine pu (v := .tup _) rfl rfl (fun _ => rfl) ?_
    refine pu (v := .agg _) rfl rfl (fun _ => rfl) ?_
    refine pu (v := .sc _) rfl rfl (fun _ => rfl) ?_
    refine al (cs := [.sc (.int .i64 0), .sc (.int .i64 0), .sc (.bool false)]) 213 rfl rfl ti50 rfl rfl ?_
    refine stB (cs' := [.sc (.int .i64 r20.1.Lo), .sc (.int .i64 r20.1.Hi), .sc (.bool r20.1.Unknown)]) rfl rfl rfl rfl ti50 rfl rfl rfl rfl rfl ?_
    refine pu (v := .sc _) rfl rfl (fun _ => rfl) ?_
    refine RunC.fin ?_
    refine AWP.sq ?_
    refine AWP.rgC 277 rfl rfl ?_
    refine ldB (v := .agg _) rfl rfl rfl rfl ti33 rfl rfl ?_
    refine pu (v := .sc _) rfl rfl (fun _ => rfl) ?_
    refine pu (v := .sc _) rfl rfl (fun _ => rfl) ?_
    refine bu (cs := [.sc (.int .i64 r5.2.1), .sc (.int .i64 r5.2.1), .sc (.bool false)]) rfl bt36 rfl ?_
    refine ldB (v := .agg _) rfl rfl rfl rfl ti39 rfl rfl ?_
    refine pu (v := .sc _) rfl rfl (fun _ => rfl) ?_
    obtain ⟨r21, hr21, hR⟩ := bindE hR
    refine cls [4] rfl rfl cb9 (ok9 (Cells.mk r2.1 r3.1 z9) (Bound.mk r5.2.1 r5.2.1 false) (Source_.mk (w6 ((w6 (r16.1 * r2.1)) + r17.1)) []) r1.1 _ hr21) (.cons (.agg (.cons (.sc _) (.cons (.sc _) (.cons (ldS' rfl rfl rfl rfl) (.nil)))) rfl) (.cons (.agg (.cons (.sc _) (.cons (.sc _) (.cons (.sc _) (.nil)))) rfl) (.cons (.agg (.cons (.sc _) (.cons .nil (.nil))) rfl) (.cons (.sc _) (.nil))))) (.inl (by first | rfl | exact freshR | exact freshA | (simp only [V.fresh, V.freshs, freshR, freshA, Bool.and_self]))) rfl ?_
    refine pu (v := .tup _) rfl rfl (fun _ => rfl) ?_
    refine pu (v := .agg _) rfl rfl (fun _ => rfl) ?_
    refine pu (v := .sc _) rfl rfl (fun _ => rfl) ?_
    refine al (cs := [.sc (.int .i64 0), .sc (.int .i64 0), .sc (.bool false)]) 265 rfl rfl ti50 rfl rfl ?_
    refine stB (cs' := [.sc (.int .i64 r21.1.Lo), .sc (.int .i64 r21.1.Hi), .sc (.bool r21.1.Unknown)]) rfl rfl rfl rfl ti50 rfl rfl rfl rfl rfl ?_
    refine pu (v := .sc _) rfl rfl (fun _ => rfl) ?_
    refine RunC.fin ?_
    refine AWP.sq ?_
    refine AWP.joinX (fun z22 : Bool => LS.mk [(15, .ptr 0 0 0), (17, .ptr 1 0 0), (19, .ptr 2 0 0), (21, .ptr 3 0 0), (181, .sc (.bool z22))] (lblks 0 [boxB (α := Measured) true r18.1, boxB (α := Measured) true r19.1, boxB (α := Bound) true r20.1, boxB (α := Bound) true r21.1]) 4) hR (fun o22 hR => ?_) fun z22 hR => ?_
    · refine AWP.rgC 349 rfl rfl ?_
      obtain ⟨r23, hr23, hR⟩ := bindE hR
      refine cls [] rfl rfl cb10 (ok10 _ hr23) (.nil) (.inr rfl) rfl ?_
      refine pu (v := .sc _) rfl rfl (fun _ => rfl) ?_
      refine pu (v := .sc _) rfl rfl (fun _ => rfl) ?_
      refine brR hR (fun h24 hR => ?_) fun h24 hR => ?_
      · refine sk (skW rfl rfl rfl h24) ?_
        refine sk (skW rfl rfl rfl h24) ?_
        refine pkT (v := .sc (.bool true)) rfl rfl h24 rfl ?_
        refine pu (v := .sc _) rfl rfl (fun _ => rfl) ?_
        refine sk (skW rfl rfl rfl rfl) ?_
        refine sk (skW rfl rfl rfl rfl) ?_
        refine pkT (v := .sc (.bool true)) rfl rfl rfl rfl ?_
        refine pu (v := .sc _) rfl rfl (fun _ => rfl) ?_
        refine sk (skW rfl rfl rfl rfl) ?_
        refine sk (skW rfl rfl rfl rfl) ?_
        refine pkT (v := .sc (.bool true)) rfl rfl rfl rfl ?_
        refine pu (v := .sc _) rfl rfl (fun _ => rfl) ?_
        refine sk (skW rfl rfl rfl rfl) ?_
        refine sk (skW rfl rfl rfl rfl) ?_
        refine pkT (v := .sc (.bool true)) rfl rfl rfl rfl ?_
        refine RunC.fin ?_
        have hR := Option.some.inj hR; subst hR
        exact Weak.turnL [(117, 0), (169, 0), (213, 0), (265, 0)] [] rfl rfl (tc (trP' rfl rfl rfl rfl) (tc (trP' rfl rfl rfl rfl) (tc (trP' rfl rfl rfl rfl) (tc (trP' rfl rfl rfl rfl) (tc (.sc _) tn))))) (mc rfl (.box rfl (.cons (.sc _) (.cons (.sc _) (.cons (.sc _) (.cons (.sc _) (.cons (.sc _) (.cons (.sc _) (.cons (.sc _) (.cons (.sc _) (.cons (.sc _) (.nil)))))))))) rfl) (mc rfl (.box rfl (.cons (.sc _) (.cons (.sc _) (.cons (.sc _) (.cons (.sc _) (.cons (.sc _) (.cons (.sc _) (.cons (.sc _) (.cons (.sc _) (.cons (.sc _) (.nil)))))))))) rfl) (mc rfl (.box rfl (.cons (.sc _) (.cons (.sc _) (.cons (.sc _) (.nil)))) rfl) (mc rfl (.box rfl (.cons (.sc _) (.cons (.sc _) (.cons (.sc _) (.nil)))) rfl) mn))))
      · refine pu (v := .sc _) (wtG rfl rfl rfl h24) rfl (fun _ => rfl) ?_
        refine pu (v := .sc _) (wtG rfl rfl rfl h24) rfl (fun _ => rfl) ?_
        refine pkF (v := .sc (.bool (r18.2 != 0))) rfl rfl h24 rfl ?_
        refine pu (v := .sc _) rfl rfl (fun _ => rfl) ?_
        refine brR hR (fun h25 hR => ?_) fun h25 hR => ?_
        · refine sk (skW rfl rfl rfl h25) ?_
          refine sk (skW rfl rfl rfl h25) ?_
          refine pkT (v := .sc (.bool true)) rfl rfl h25 rfl ?_
          refine pu (v := .sc _) rfl rfl (fun _ => rfl) ?_
          refine sk (skW rfl rfl rfl rfl) ?_
          refine sk (skW rfl rfl rfl rfl) ?_
          refine pkT (v := .sc (.bool true)) rfl rfl rfl rfl ?_
          refine pu (v := .sc _) rfl rfl (fun _ => rfl) ?_
          refine sk (skW rfl rfl rfl rfl) ?_
          refine sk (skW rfl rfl rfl rfl) ?_
          refine pkT (v := .sc (.bool true)) rfl rfl rfl rfl ?_
          refine RunC.fin ?_
          have hR := Option.some.inj hR; subst hR
          exact Weak.turnL [(117, 0), (169, 0), (213, 0), (265, 0)] [] rfl rfl (tc (trP' rfl rfl rfl rfl) (tc (trP' rfl rfl rfl rfl) (tc (trP' rfl rfl rfl rfl) (tc (trP' rfl rfl rfl rfl) (tc (.sc _) tn))))) (mc rfl (.box rfl (.cons (.sc _) (.cons (.sc _) (.cons (.sc _) (.cons (.sc _) (.cons (.sc _) (.cons (.sc _) (.cons (.sc _) (.cons (.sc _) (.cons (.sc _) (.nil)))))))))) rfl) (mc rfl (.box rfl (.cons (.sc _) (.cons (.sc _) (.cons (.sc _) (.cons (.sc _) (.cons (.sc _) (.cons (.sc _) (.cons (.sc _) (.cons (.sc _) (.cons (.sc _) (.nil)))))))))) rfl) (mc rfl (.box rfl (.cons (.sc _) (.cons (.sc _) (.cons (.sc _) (.nil)))) rfl) (mc rfl (.box rfl (.cons (.sc _) (.cons (.sc _) (.cons (.sc _) (.nil)))) rfl) mn))))
        · refine pu (v := .sc _) (wtG rfl rfl rfl h25) rfl (fun _ => rfl) ?_
          refine pu (v := .sc _) (wtG rfl rfl rfl h25) rfl (fun _ => rfl) ?_
          refine pkF (v := .sc (.bool (r19.2 != 0))) rfl rfl h25 rfl ?_
          refine pu (v := .sc _) rfl rfl (fun _ => rfl) ?_
          refine brR hR (fun h26 hR => ?_) fun h26 hR => ?_
          · refine sk (skW rfl rfl rfl h26) ?_
            refine sk (skW rfl rfl rfl h26) ?_
            refine pkT (v := .sc (.bool true)) rfl rfl h26 rfl ?_
            refine pu (v := .sc _) rfl rfl (fun _ => rfl) ?_
            refine sk (skW rfl rfl rfl rfl) ?_
            refine sk (skW rfl rfl rfl rfl) ?_
            refine pkT (v := .sc (.bool true)) rfl rfl rfl rfl ?_
            refine RunC.fin ?_
            have hR := Option.some.inj hR; subst hR
            exact Weak.turnL [(117, 0), (169, 0), (213, 0), (265, 0)] [] rfl rfl (tc (trP' rfl rfl rfl rfl) (tc (trP' rfl rfl rfl rfl) (tc (trP' rfl rfl rfl rfl) (tc (trP' rfl rfl rfl rfl) (tc (.sc _) tn))))) (mc rfl (.box rfl (.cons (.sc _) (.cons (.sc _) (.cons (.sc _) (.cons (.sc _) (.cons (.sc _) (.cons (.sc _) (.cons (.sc _) (.cons (.sc _) (.cons (.sc _) (.nil)))))))))) rfl) (mc rfl (.box rfl (.cons (.sc _) (.cons (.sc _) (.cons (.sc _) (.cons (.sc _) (.cons (.sc _) (.cons (.sc _) (.cons (.sc _) (.cons (.sc _) (.cons (.sc _) (.nil)))))))))) rfl) (mc rfl (.box rfl (.cons (.sc _) (.cons (.sc _) (.cons (.sc _) (.nil)))) rfl) (mc rfl (.box rfl (.cons (.sc _) (.cons (.sc _) (.cons (.sc _) (.nil)))) rfl) mn))))
          · refine pu (v := .sc _) (wtG rfl rfl rfl h26) rfl (fun _ => rfl) ?_
            refine pu (v := .sc _) (wtG rfl rfl rfl h26) rfl (fun _ => rfl) ?_
            refine pkF (v := .sc (.bool (r20.2 != 0))) rfl rfl h26 rfl ?_
            refine pu (v := .sc _) rfl rfl (fun _ => rfl) ?_
            refine brR hR (fun h27 hR => ?_) fun h27 hR => ?_
            · refine sk (skW rfl rfl rfl h27) ?_
              refine sk (skW rfl rfl rfl h27) ?_
              refine pkT (v := .sc (.bool true)) rfl rfl h27 rfl ?_
              refine RunC.fin ?_
              have hR := Option.some.inj hR; subst hR
              exact Weak.turnL [(117, 0), (169, 0), (213, 0), (265, 0)] [] rfl rfl (tc (trP' rfl rfl rfl rfl) (tc (trP' rfl rfl rfl rfl) (tc (trP' rfl rfl rfl rfl) (tc (trP' rfl rfl rfl rfl) (tc (.sc _) tn))))) (mc rfl (.box rfl (.cons (.sc _) (.cons (.sc _) (.cons (.sc _) (.cons (.sc _) (.cons (.sc _) (.cons (.sc _) (.cons (.sc _) (.cons (.sc _) (.cons (.sc _) (.nil)))))))))) rfl) (mc rfl (.box rfl (.cons (.sc _) (.cons (.sc _) (.cons (.sc _) (.cons (.sc _) (.cons (.sc _) (.cons (.sc _) (.cons (.sc _) (.cons (.sc _) (.cons (.sc _) (.nil)))))))))) rfl) (mc rfl (.box rfl (.cons (.sc _) (.cons (.sc _) (.cons (.sc _) (.nil)))) rfl) (mc rfl (.box rfl (.cons (.sc _) (.cons (.sc _) (.cons (.sc _) (.nil)))) rfl) mn))))
            · refine pu (v := .sc _) (wtG rfl rfl rfl h27) rfl (fun _ => rfl) ?_
              refine pu (v := .sc _) (wtG rfl rfl rfl h27) rfl (fun _ => rfl) ?_
              refine pkF (v := .sc (.bool (r21.2 != 0))) rfl rfl h27 rfl ?_
              refine RunC.fin ?_
              have hR := Option.some.inj hR; subst hR
              exact Weak.turnL [(117, 0), (169, 0), (213, 0), (265, 0)] [] rfl rfl (tc (trP' rfl rfl rfl rfl) (tc (trP' rfl rfl rfl rfl) (tc (trP' rfl rfl rfl rfl) (tc (trP' rfl rfl rfl rfl) (tc (.sc _) tn))))) (mc rfl (.box rfl (.cons (.sc _) (.cons (.sc _) (.cons (.sc _) (.cons (.sc _) (.cons (.sc _) (.cons (.sc _) (.cons (.sc _) (.cons (.sc _) (.cons (.sc _) (.nil)))))))))) rfl) (mc rfl (.box rfl (.cons (.sc _) (.cons (.sc _) (.cons (.sc _) (.cons (.sc _) (.cons (.sc _) (.cons (.sc _) (.cons (.sc _) (.cons (.sc _) (.cons (.sc _) (.nil)))))))))) rfl) (mc rfl (.box rfl (.cons (.sc _) (.cons (.sc _) (.cons (.sc _) (.nil)))) rfl) (mc rfl (.box rfl (.cons (.sc _) (.cons (.sc _) (.cons (.sc _) (.nil)))) rfl) mn))))
    · refine AWP.cd hR rfl (fun h28 hR => ?_) fun h28 hR => ?_
      · refine AWP.sq ?_
        refine AWP.rgC 8 rfl rfl ?_
        refine pu (v := .sc _) rfl rfl (fun _ => rfl) ?_
        refine RunC.fin ?_
        refine AWP.ret ?_
        refine rtT ?_
        have hR := Option.some.inj hR; subst hR
        exact hQ _ _ (LS.mk [(2, .sc (.bool false))] (lblks 0 []) 0) (.sc (.bool false)) [] (.inr rfl) (Weak.turnL [] [] rfl rfl (tc (.sc _) tn) mn) (ro1 (rvT (v := .sc (.bool false)) rfl)) rfl rfl (.sc _) pn
      · refine AWP.skip ?_
        refine skT ?_
        refine AWP.sq ?_
        refine AWP.rgC 8 rfl rfl ?_
        refine pu (v := .fn _ _) rfl rfl (fun _ => rfl) ?_
        refine RunC.fin ?_
        refine AWP.joinX (fun z29 : Bool => LS.mk [(2, .sc (.bool z29))] (lblks 0 []) 0) hR (fun o29 hR => ?_) fun z29 hR => ?_
        · refine AWP.rgC 232 rfl rfl ?_
          refine pu (v := .fn _ _) rfl rfl (fun _ => rfl) ?_
          refine fa rfl rfl ti44 rfl rfl ti42 rfl ?_
          refine ldB (v := .agg _) rfl rfl rfl rfl ti42 rfl rfl ?_
          refine fa rfl rfl ti44 rfl rfl ti42 rfl ?_
          refine ldB (v := .agg _) rfl rfl rfl rfl ti42 rfl rfl ?_
          obtain ⟨r30, hr30, hR⟩ := bindE hR
          refine cls [] rfl rfl cb11 (ok11 r19.1.X r18.1.X _ hr30) (.cons (.agg (.cons (.sc _) (.cons (.sc _) (.cons (.sc _) (.nil)))) rfl) (.cons (.agg (.cons (.sc _) (.cons (.sc _) (.cons (.sc _) (.nil)))) rfl) (.nil))) (.inr rfl) rfl ?_
          refine pu (v := .sc _) rfl rfl (fun _ => rfl) ?_
          refine brR hR (fun h31 hR => ?_) fun h31 hR => ?_
          · refine pu (v := .fn _ _) (wtG rfl rfl rfl h31) rfl (fun _ => rfl) ?_
            refine fa (wtG rfl rfl rfl h31) rfl ti44 rfl rfl ti42 rfl ?_
            refine ldB (v := .agg _) (wtG rfl rfl rfl h31) rfl rfl rfl ti42 rfl rfl ?_
            refine fa (wtG rfl rfl rfl h31) rfl ti44 rfl rfl ti42 rfl ?_
            refine ldB (v := .agg _) (wtG rfl rfl rfl h31) rfl rfl rfl ti42 rfl rfl ?_
            obtain ⟨r32, hr32, hR⟩ := bindE hR
            refine cls [] (wtG rfl rfl rfl h31) rfl cb11 (ok11 r19.1.Y r18.1.Y _ hr32) (.cons (.agg (.cons (.sc _) (.cons (.sc _) (.cons (.sc _) (.nil)))) rfl) (.cons (.agg (.cons (.sc _) (.cons (.sc _) (.cons (.sc _) (.nil)))) rfl) (.nil))) (.inr rfl) rfl ?_
            refine pkT (v := .sc (.bool r32)) rfl rfl h31 rfl ?_
            refine pu (v := .sc _) rfl rfl (fun _ => rfl) ?_
            refine brR hR (fun h33 hR => ?_) fun h33 hR => ?_
            · refine fa (wtG rfl rfl rfl h33) rfl ti44 rfl rfl ti36 rfl ?_
              refine fa (wtG rfl rfl rfl h33) rfl ti36 rfl rfl ti28 rfl ?_
              refine ldB (v := .sc _) (wtG rfl rfl rfl h33) rfl rfl rfl ti28 rfl rfl ?_
              refine fa (wtG rfl rfl rfl h33) rfl ti44 rfl rfl ti36 rfl ?_
              refine fa (wtG rfl rfl rfl h33) rfl ti36 rfl rfl ti28 rfl ?_
              refine ldB (v := .sc _) (wtG rfl rfl rfl h33) rfl rfl rfl ti28 rfl rfl ?_
              refine pu (v := .sc _) (wtG rfl rfl rfl h33) rfl (fun _ => rfl) ?_
              refine pkT (v := .sc (.bool (decide (r18.1.Flux.Lo ≤ r19.1.Flux.Lo)))) rfl rfl h33 rfl ?_
              refine pu (v := .sc _) rfl rfl (fun _ => rfl) ?_
              refine brR hR (fun h34 hR => ?_) fun h34 hR => ?_
              · refine fa (wtG rfl rfl rfl h34) rfl ti44 rfl rfl ti36 rfl ?_
                refine fa (wtG rfl rfl rfl h34) rfl ti36 rfl rfl ti28 rfl ?_
                refine ldB (v := .sc _) (wtG rfl rfl rfl h34) rfl rfl rfl ti28 rfl rfl ?_
                refine fa (wtG rfl rfl rfl h34) rfl ti44 rfl rfl ti36 rfl ?_
                refine fa (wtG rfl rfl rfl h34) rfl ti36 rfl rfl ti28 rfl ?_
                refine ldB (v := .sc _) (wtG rfl rfl rfl h34) rfl rfl rfl ti28 rfl rfl ?_
                refine pu (v := .sc _) (wtG rfl rfl rfl h34) rfl (fun _ => rfl) ?_
                refine pkT (v := .sc (.bool (decide (r19.1.Flux.Hi ≤ r18.1.Flux.Hi)))) rfl rfl h34 rfl ?_
                refine pu (v := .sc _) rfl rfl (fun _ => rfl) ?_
                refine brR hR (fun h35 hR => ?_) fun h35 hR => ?_
                · refine fa (wtG rfl rfl rfl h35) rfl ti50 rfl rfl ti4 rfl ?_
                  refine ldB (v := .sc _) (wtG rfl rfl rfl h35) rfl rfl rfl ti4 rfl rfl ?_
                  refine pu (v := .sc _) (wtG rfl rfl rfl h35) rfl (fun _ => rfl) ?_
                  refine brR hR (fun h36 hR => ?_) fun h36 hR => ?_
                  · refine sk (skW rfl rfl rfl h36) ?_
                    refine sk (skW rfl rfl rfl h36) ?_
                    refine sk (skW rfl rfl rfl h36) ?_
                    refine sk (skW rfl rfl rfl h36) ?_
                    refine sk (skW2 rfl rfl rfl) ?_
                    refine sk (skW2 rfl rfl rfl) ?_
                    refine sk (skW2 rfl rfl rfl) ?_
                    refine sk (skW2 rfl rfl rfl) ?_
                    refine sk (skW2 rfl rfl rfl) ?_
                    refine sk (skW rfl rfl rfl h36) ?_
                    refine sk (skW rfl rfl rfl h36) ?_
                    refine sk (skW2 rfl rfl rfl) ?_
                    refine sk (skW2 rfl rfl rfl) ?_
                    refine sk (skW2 rfl rfl rfl) ?_
                    refine sk (skW2 rfl rfl rfl) ?_
                    refine sk (skW2 rfl rfl rfl) ?_
                    refine sk (skW rfl rfl rfl h36) ?_
                    refine pkT (v := .sc (.bool true)) (wtG rfl rfl rfl h35) rfl h36 rfl ?_
                    refine pkT (v := .sc (.bool true)) rfl rfl h35 rfl ?_
                    refine pu (v := .sc _) rfl rfl (fun _ => rfl) ?_
                    refine RunC.fin ?_
                    have hR := Option.some.inj hR; subst hR
                    exact Weak.turnL [] [] rfl rfl (tc (.sc _) tn) mn
                  · refine fa (wtG rfl rfl rfl h36) rfl ti50 rfl rfl ti4 rfl ?_
                    refine ldB (v := .sc _) (wtG rfl rfl rfl h36) rfl rfl rfl ti4 rfl rfl ?_
                    refine pu (v := .sc _) (wtG rfl rfl rfl h36) rfl (fun _ => rfl) ?_
                    refine pu (v := .sc _) (wtG rfl rfl rfl h36) rfl (fun _ => rfl) ?_
                    refine brR hR (fun h37 hR => ?_) fun h37 hR => ?_
                    · refine fa (wtG rfl rfl rfl h37) rfl ti50 rfl rfl ti48 rfl ?_
                      refine ldB (v := .sc _) (wtG rfl rfl rfl h37) rfl rfl rfl ti48 rfl rfl ?_
                      refine fa (wtG rfl rfl rfl h37) rfl ti50 rfl rfl ti48 rfl ?_
                      refine ldB (v := .sc _) (wtG rfl rfl rfl h37) rfl rfl rfl ti48 rfl rfl ?_
                      refine pu (v := .sc _) (wtG rfl rfl rfl h37) rfl (fun _ => rfl) ?_
                      refine pkT (v := .sc (.bool (decide (r20.1.Lo ≤ r21.1.Lo)))) (wtG rfl rfl rfl h36) rfl h37 rfl ?_
                      refine pu (v := .sc _) (wtG rfl rfl rfl h36) rfl (fun _ => rfl) ?_
                      refine brR hR (fun h38 hR => ?_) fun h38 hR => ?_
                      · refine fa (wtG rfl rfl rfl h38) rfl ti50 rfl rfl ti48 rfl ?_
                        refine ldB (v := .sc _) (wtG rfl rfl rfl h38) rfl rfl rfl ti48 rfl rfl ?_
                        refine fa (wtG rfl rfl rfl h38) rfl ti50 rfl rfl ti48 rfl ?_
                        refine ldB (v := .sc _) (wtG rfl rfl rfl h38) rfl rfl rfl ti48 rfl rfl ?_
                        refine pu (v := .sc _) (wtG rfl rfl rfl h38) rfl (fun _ => rfl) ?_
                        refine pkT (v := .sc (.bool (decide (r21.1.Hi ≤ r20.1.Hi)))) (wtG rfl rfl rfl h36) rfl h38 rfl ?_
                        refine pkF (v := .sc (.bool (decide (r21.1.Hi ≤ r20.1.Hi)))) (wtG rfl rfl rfl h35) rfl h36 rfl ?_
                        refine pkT (v := .sc (.bool (decide (r21.1.Hi ≤ r20.1.Hi)))) rfl rfl h35 rfl ?_
                        refine pu (v := .sc _) rfl rfl (fun _ => rfl) ?_
                        refine RunC.fin ?_
                        have hR := Option.some.inj hR; subst hR
                        exact Weak.turnL [] [] rfl rfl (tc (.sc _) tn) mn
                      · refine sk (skW rfl rfl rfl h38) ?_
                        refine sk (skW rfl rfl rfl h38) ?_
                        refine sk (skW rfl rfl rfl h38) ?_
                        refine sk (skW rfl rfl rfl h38) ?_
                        refine sk (skW rfl rfl rfl h38) ?_
                        refine pkF (v := .sc (.bool false)) (wtG rfl rfl rfl h36) rfl h38 rfl ?_
                        refine pkF (v := .sc (.bool false)) (wtG rfl rfl rfl h35) rfl h36 rfl ?_
                        refine pkT (v := .sc (.bool false)) rfl rfl h35 rfl ?_
                        refine pu (v := .sc _) rfl rfl (fun _ => rfl) ?_
                        refine RunC.fin ?_
                        have hR := Option.some.inj hR; subst hR
                        exact Weak.turnL [] [] rfl rfl (tc (.sc _) tn) mn
                    · refine sk (skW rfl rfl rfl h37) ?_
                      refine sk (skW rfl rfl rfl h37) ?_
                      refine sk (skW rfl rfl rfl h37) ?_
                      refine sk (skW rfl rfl rfl h37) ?_
                      refine sk (skW rfl rfl rfl h37) ?_
                      refine pkF (v := .sc (.bool false)) (wtG rfl rfl rfl h36) rfl h37 rfl ?_
                      refine pu (v := .sc _) (wtG rfl rfl rfl h36) rfl (fun _ => rfl) ?_
                      refine sk (skW rfl rfl rfl rfl) ?_
                      refine sk (skW rfl rfl rfl rfl) ?_
                      refine sk (skW rfl rfl rfl rfl) ?_
                      refine sk (skW rfl rfl rfl rfl) ?_
                      refine sk (skW rfl rfl rfl rfl) ?_
                      refine pkF (v := .sc (.bool false)) (wtG rfl rfl rfl h36) rfl rfl rfl ?_
                      refine pkF (v := .sc (.bool false)) (wtG rfl rfl rfl h35) rfl h36 rfl ?_
                      refine pkT (v := .sc (.bool false)) rfl rfl h35 rfl ?_
                      refine pu (v := .sc _) rfl rfl (fun _ => rfl) ?_
                      refine RunC.fin ?_
                      have hR := Option.some.inj hR; subst hR
                      exact Weak.turnL [] [] rfl rfl (tc (.sc _) tn) mn
                · refine sk (skW rfl rfl rfl h35) ?_
                  refine sk (skW rfl rfl rfl h35) ?_
                  refine sk (skW rfl rfl rfl h35) ?_
                  refine sk (skW2 rfl rfl rfl) ?_
                  refine sk (skW2 rfl rfl rfl) ?_
                  refine sk (skW2 rfl rfl rfl) ?_
                  refine sk (skW2 rfl rfl rfl) ?_
                  refine sk (skW2 rfl rfl rfl) ?_
                  refine sk (skW2 rfl rfl rfl) ?_
                  refine sk (skW2 rfl rfl rfl) ?_
                  refine sk (skW2 rfl rfl rfl) ?_
                  refine sk (skW2 rfl rfl rfl) ?_
                  refine sk (skW2 rfl rfl rfl) ?_
                  refine sk (skW2 rfl rfl rfl) ?_
                  refine sk (skW2 rfl rfl rfl) ?_
                  refine sk (skW2 rfl rfl rfl) ?_
                  refine sk (skW2 rfl rfl rfl) ?_
                  refine sk (skW2 rfl rfl rfl) ?_
                  refine sk (skW2 rfl rfl rfl) ?_
                  refine sk (skW2 rfl rfl rfl) ?_
                  refine sk (skW rfl rfl rfl h35) ?_
                  refine pkF (v := .sc (.bool false)) rfl rfl h35 rfl ?_
                  refine pu (v := .sc _) rfl rfl (fun _ => rfl) ?_
                  refine RunC.fin ?_
                  have hR := Option.some.inj hR; subst hR
                  exact Weak.turnL [] [] rfl rfl (tc (.sc _) tn) mn
              · refine sk (skW rfl rfl rfl h34) ?_
                refine sk (skW rfl rfl rfl h34) ?_
                refine sk (skW rfl rfl rfl h34) ?_
                refine sk (skW rfl rfl rfl h34) ?_
                refine sk (skW rfl rfl rfl h34) ?_
                refine sk (skW rfl rfl rfl h34) ?_
                refine sk (skW rfl rfl rfl h34) ?_
                refine pkF (v := .sc (.bool false)) rfl rfl h34 rfl ?_
                refine pu (v := .sc _) rfl rfl (fun _ => rfl) ?_
                refine sk (skW rfl rfl rfl rfl) ?_
                refine sk (skW rfl rfl rfl rfl) ?_
                refine sk (skW rfl rfl rfl rfl) ?_
                refine sk (skW2 rfl rfl rfl) ?_
                refine sk (skW2 rfl rfl rfl) ?_
                refine sk (skW2 rfl rfl rfl) ?_
                refine sk (skW2 rfl rfl rfl) ?_
                refine sk (skW2 rfl rfl rfl) ?_
                refine sk (skW2 rfl rfl rfl) ?_
                refine sk (skW2 rfl rfl rfl) ?_
                refine sk (skW2 rfl rfl rfl) ?_
                refine sk (skW2 rfl rfl rfl) ?_
                refine sk (skW2 rfl rfl rfl) ?_
                refine sk (skW2 rfl rfl rfl) ?_
                refine sk (skW2 rfl rfl rfl) ?_
                refine sk (skW2 rfl rfl rfl) ?_
                refine sk (skW2 rfl rfl rfl) ?_
                refine sk (skW2 rfl rfl rfl) ?_
                refine sk (skW2 rfl rfl rfl) ?_
                refine sk (skW2 rfl rfl rfl) ?_
                refine sk (skW rfl rfl rfl rfl) ?_
                refine pkF (v := .sc (.bool false)) rfl rfl rfl rfl ?_
                refine pu (v := .sc _) rfl rfl (fun _ => rfl) ?_
                refine RunC.fin ?_
                have hR := Option.some.inj hR; subst hR
                exact Weak.turnL [] [] rfl rfl (tc (.sc _) tn) mn
            · refine sk (skW rfl rfl rfl h33) ?_
              refine sk (skW rfl rfl rfl h33) ?_
              refine sk (skW rfl rfl rfl h33) ?_
              refine sk (skW rfl rfl rfl h33) ?_
              refine sk (skW rfl rfl rfl h33) ?_
              refine sk (skW rfl rfl rfl h33) ?_
              refine sk (skW rfl rfl rfl h33) ?_
              refine pkF (v := .sc (.bool false)) rfl rfl h33 rfl ?_
              refine pu (v := .sc _) rfl rfl (fun _ => rfl) ?_
              refine sk (skW rfl rfl rfl rfl) ?_
              refine sk (skW rfl rfl rfl rfl) ?_
              refine sk (skW rfl rfl rfl rfl) ?_
              refine sk (skW rfl rfl rfl rfl) ?_
              refine sk (skW rfl rfl rfl rfl) ?_
              refine sk (skW rfl rfl rfl rfl) ?_
              refine sk (skW rfl rfl rfl rfl) ?_
              refine pkF (v := .sc (.bool false)) rfl rfl rfl rfl ?_
              refine pu (v := .sc _) rfl rfl (fun _ => rfl) ?_
              refine sk (skW rfl rfl rfl rfl) ?_
              refine sk (skW rfl rfl rfl rfl) ?_
              refine sk (skW rfl rfl rfl rfl) ?_
              refine sk (skW2 rfl rfl rfl) ?_
              refine sk (skW2 rfl rfl rfl) ?_
              refine sk (skW2 rfl rfl rfl) ?_
              refine sk (skW2 rfl rfl rfl) ?_
              refine sk (skW2 rfl rfl rfl) ?_
              refine sk (skW2 rfl rfl rfl) ?_
              refine sk (skW2 rfl rfl rfl) ?_
              refine sk (skW2 rfl rfl rfl) ?_
              refine sk (skW2 rfl rfl rfl) ?_
              refine sk (skW2 rfl rfl rfl) ?_
              refine sk (skW2 rfl rfl rfl) ?_
              refine sk (skW2 rfl rfl rfl) ?_
              refine sk (skW2 rfl rfl rfl) ?_
              refine sk (skW2 rfl rfl rfl) ?_
              refine sk (skW2 rfl rfl rfl) ?_
              refine sk (skW2 rfl rfl rfl) ?_
              refine sk (skW2 rfl rfl rfl) ?_
              refine sk (skW rfl rfl rfl rfl) ?_
              refine pkF (v := .sc (.bool false)) rfl rfl rfl rfl ?_
              refine pu (v := .sc _) rfl rfl (fun _ => rfl) ?_
              refine RunC.fin ?_
              have hR := Option.some.inj hR; subst hR
              exact Weak.turnL [] [] rfl rfl (tc (.sc _) tn) mn
          · refine sk (skW rfl rfl rfl h31) ?_
            refine sk (skW rfl rfl rfl h31) ?_
            refine sk (skW rfl rfl rfl h31) ?_
            refine sk (skW rfl rfl rfl h31) ?_
            refine sk (skW rfl rfl rfl h31) ?_
            refine sk (skW rfl rfl rfl h31) ?_
            refine pkF (v := .sc (.bool false)) rfl rfl h31 rfl ?_
            refine pu (v := .sc _) rfl rfl (fun _ => rfl) ?_
            refine sk (skW rfl rfl rfl rfl) ?_
            refine sk (skW rfl rfl rfl rfl) ?_
            refine sk (skW rfl rfl rfl rfl) ?_
            refine sk (skW rfl rfl rfl rfl) ?_
            refine sk (skW rfl rfl rfl rfl) ?_
            refine sk (skW rfl rfl rfl rfl) ?_
            refine sk (skW rfl rfl rfl rfl) ?_
            refine pkF (v := .sc (.bool false)) rfl rfl rfl rfl ?_
            refine pu (v := .sc _) rfl rfl (fun _ => rfl) ?_
            refine sk (skW rfl rfl rfl rfl) ?_
            refine sk (skW rfl rfl rfl rfl) ?_
            refine sk (skW rfl rfl rfl rfl) ?_
            refine sk (skW rfl rfl rfl rfl) ?_
            refine sk (skW rfl rfl rfl rfl) ?_
            refine sk (skW rfl rfl rfl rfl) ?_
            refine sk (skW rfl rfl rfl rfl) ?_
            refine pkF (v := .sc (.bool false)) rfl rfl rfl rfl ?_
            refine pu (v := .sc _) rfl rfl (fun _ => rfl) ?_
            refine sk (skW rfl rfl rfl rfl) ?_
            refine sk (skW rfl rfl rfl rfl) ?_
            refine sk (skW rfl rfl rfl rfl) ?_
            refine sk (skW2 rfl rfl rfl) ?_
            refine sk (skW2 rfl rfl rfl) ?_
            refine sk (skW2 rfl rfl rfl) ?_
            refine sk (skW2 rfl rfl rfl) ?_
            refine sk (skW2 rfl rfl rfl) ?_
            refine sk (skW2 rfl rfl rfl) ?_
            refine sk (skW2 rfl rfl rfl) ?_
            refine sk (skW2 rfl rfl rfl) ?_
            refine sk (skW2 rfl rfl rfl) ?_
            refine sk (skW2 rfl rfl rfl) ?_
            refine sk (skW2 rfl rfl rfl) ?_
            refine sk (skW2 rfl rfl rfl) ?_
            refine sk (skW2 rfl rfl rfl) ?_
            refine sk (skW2 rfl rfl rfl) ?_
            refine sk (skW2 rfl rfl rfl) ?_
            refine sk (skW2 rfl rfl rfl) ?_
            refine sk (skW2 rfl rfl rfl) ?_
            refine sk (skW rfl rfl rfl rfl) ?_
            refine pkF (v := .sc (.bool false)) rfl rfl rfl rfl ?_
            refine pu (v := .sc _) rfl rfl (fun _ => rfl) ?_
            refine RunC.fin ?_
            have hR := Option.some.inj hR; subst hR
            exact Weak.turnL [] [] rfl rfl (tc (.sc _) tn) mn
        · refine AWP.ret ?_
          have hR := Option.some.inj hR; subst hR
          exact hQ _ _ (LS.mk [(2, .sc (.bool z29))] (lblks 0 []) 0) (.sc (.bool z29)) [] (.inr rfl) (Weak.turnL [] [] rfl rfl (tc (.sc _) tn) mn) (ro1 (rvT (v := .sc (.bool z29)) rfl)) rfl rfl (.sc _) pn
end Go.Proofs.Mes
