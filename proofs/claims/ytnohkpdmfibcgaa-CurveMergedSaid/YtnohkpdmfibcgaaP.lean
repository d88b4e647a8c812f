/- Each function of the program computes its plain function. Conditions: as each theorem states them. -/
import Derived.Test.YtnohkpdmfibcgaaA4
import Derived.Shelf.SlSortCmp.WholeK
import Derived.Shelf.Spec.SlicesGrow
import Derived.Maps.Own
import Derived.WalkKit
import Derived.Test.YtnohkpdmfibcgaaT
import Derived.Test.YtnohkpdmfibcgaaP1
namespace Go.Proofs.Cum
open Go Go.Abs Lf
set_option linter.unusedVariables false
set_option linter.unusedSimpArgs false
set_option maxRecDepth 100000
set_option maxHeartbeats 1000000
theorem ok36 (data : List curve_Sample) (n : Int) (r : (List curve_Sample)) (hR : slices_stableCmpFunc_curve_Sample_curve_order data n = some r) : FnD Try.prog 36 [arrB 53 0 false data] [slV curve_Sample 0 0 0 data.length, .sc (.int .i64 n), .fn (.func 22) []] (.tup []) [arrB 53 0 false r] := by
  refine FnX.walk Try.func36 rfl 63 1 (by simp [Try.ntmps36]) rfl fun W S F Q hQ => ?_
  unfold slices_stableCmpFunc_curve_Sample_curve_order at hR
  refine AWP.sq ?_
  refine AWP.rgC 5 rfl rfl ?_
  refine pu (v := .sc _) rfl rfl (fun _ => rfl) ?_
  refine RunC.fin ?_
  refine AWP.sq ?_
  refine AWP.rgC 17 rfl rfl ?_
  refine pu (v := .sc _) rfl rfl (fun _ => rfl) ?_
  refine pu (v := .sc _) rfl rfl (fun _ => rfl) ?_
  refine pu (v := .sc _) rfl rfl (fun _ => rfl) ?_
  refine RunC.fin ?_
  refine AWP.sq ?_
  refine AWP.loopJ (fun s1 : (List curve_Sample) × Int × Int => LS.mk [(0, slV curve_Sample 0 0 0 s1.1.length), (1, .sc (.int .i64 n)), (2, .fn (.func 22) []), (6, .sc (.int .i64 20)), (7, .sc (.int .i64 s1.2.1)), (8, .sc (.int .i64 s1.2.2))] (lblks 0 [arrB (α := curve_Sample) 53 0 false s1.1]) 1) (fun z2 : (List curve_Sample) × Int => LS.mk [(0, slV curve_Sample 0 0 0 z2.1.length), (1, .sc (.int .i64 n)), (2, .fn (.func 22) []), (6, .sc (.int .i64 20)), (7, .sc (.int .i64 z2.2))] (lblks 0 [arrB (α := curve_Sample) 53 0 false z2.1]) 1) (slices_stableCmpFunc_curve_Sample_curve_order.l1 n) hR (s0 := (data, 0, 20)) (Weak.turnL [(0, 0)] [] rfl rfl (tc (trS' rfl rfl rfl rfl rfl) (tc (.sc _) (tc (.fn (.nil)) (tc (.sc _) (tc (.sc _) (tc (.sc _) tn)))))) (mc rfl (btrA' rfl) mn)) (fun s1 o1 hR => ?_) fun z2 hR => ?_
  · unfold slices_stableCmpFunc_curve_Sample_curve_order.l1 at hR
    refine AWP.sq ?_
    refine AWP.sq ?_
    refine AWP.rgC 13 rfl rfl ?_
    refine pu (v := .sc _) rfl rfl (fun _ => rfl) ?_
    refine pu (v := .sc _) rfl rfl (fun _ => rfl) ?_
    refine pu (v := .sc _) rfl rfl (fun _ => rfl) ?_
    refine RunC.fin ?_
    refine AWP.cd hR rfl (fun h3 hR => ?_) fun h3 hR => ?_
    · refine AWP.skip ?_
      refine skT ?_
      refine AWP.block ?_
      refine AWP.sq ?_
      refine AWP.rgC 33 rfl rfl ?_
      refine pu (v := slV curve_Sample _ _ _ _) rfl rfl (fun _ => rfl) ?_
      refine pu (v := .sc _) rfl rfl (fun _ => rfl) ?_
      refine pu (v := .sc _) rfl rfl (fun _ => rfl) ?_
      refine pu (v := .fn _ _) rfl rfl (fun _ => rfl) ?_
      obtain ⟨r4, hr4, hR⟩ := bindE hR
      obtain ⟨h5, hR⟩ := chkE hR
      refine cps (res' := .tup []) (ups := [(0, arrB (α := curve_Sample) 53 0 false r4)]) [0] 29 rfl rfl rfl cb47 (ok47 s1.1 s1.2.1 s1.2.2 _ hr4) (.cons (ldM rfl rfl) (.cons (.sc _) (.cons (.sc _) (.cons (.fn (.nil)) (.nil))))) (pc rfl bldA pn) rfl rfl rfl rfl rfl (by first | rfl | exact renR | exact renA | exact renS | simp only [V.ren, V.rens, renR, renA, renS] | (simp only [V.ren, V.rens, renR, renA, renS]; rfl)) (by simp only [passUps, renBox, renArr]; rfl) ?_
      refine RunC.fin ?_
      refine AWP.sq ?_
      refine AWP.rgC 41 rfl rfl ?_
      refine pu (v := .sc _) rfl rfl (fun _ => rfl) ?_
      refine pu (v := .sc _) rfl rfl (fun _ => rfl) ?_
      refine RunC.fin ?_
      refine AWP.rgC 57 rfl rfl ?_
      refine pu (v := .sc _) rfl rfl (fun _ => rfl) ?_
      refine pu (v := .sc _) rfl rfl (fun _ => rfl) ?_
      refine pu (v := .sc _) rfl rfl (fun _ => rfl) ?_
      refine pu (v := .sc _) rfl rfl (fun _ => rfl) ?_
      refine RunC.blk ?_
      refine RunC.fin ?_
      refine ⟨(r4, s1.2.2, w6 (s1.2.2 + 20)), (Option.some.inj hR).symm, ?_⟩
      exact Weak.turnL [(0, 0)] [] rfl rfl (tc (trS' rfl rfl rfl rfl h5) (tc (.sc _) (tc (.fn (.nil)) (tc (.sc _) (tc (.sc _) (tc (.sc _) tn)))))) (mc rfl (btrA' rfl) mn)
    · refine AWP.exit ?_
      refine exT ?_
      refine exT ?_
      refine exH (skT ?_)
      refine ⟨(s1.1, s1.2.1), (Option.some.inj hR).symm, ?_⟩
      exact Weak.turnL [(0, 0)] [] rfl rfl (tc (trS' rfl rfl rfl rfl rfl) (tc (.sc _) (tc (.fn (.nil)) (tc (.sc _) (tc (.sc _) tn))))) (mc rfl (btrA' rfl) mn)
  · refine skT ?_
    refine AWP.sq ?_
    refine AWP.rgC 21 rfl rfl ?_
    refine pu (v := slV curve_Sample _ _ _ _) rfl rfl (fun _ => rfl) ?_
    refine pu (v := .sc _) rfl rfl (fun _ => rfl) ?_
    refine pu (v := .sc _) rfl rfl (fun _ => rfl) ?_
    refine pu (v := .fn _ _) rfl rfl (fun _ => rfl) ?_
    obtain ⟨r6, hr6, hR⟩ := bindE hR
    obtain ⟨h7, hR⟩ := chkE hR
    refine cps (res' := .tup []) (ups := [(0, arrB (α := curve_Sample) 53 0 false r6)]) [0] 17 rfl rfl rfl cb47 (ok47 z2.1 z2.2 n _ hr6) (.cons (ldM rfl rfl) (.cons (.sc _) (.cons (.sc _) (.cons (.fn (.nil)) (.nil))))) (pc rfl bldA pn) rfl rfl rfl rfl rfl (by first | rfl | exact renR | exact renA | exact renS | simp only [V.ren, V.rens, renR, renA, renS] | (simp only [V.ren, V.rens, renR, renA, renS]; rfl)) (by simp only [passUps, renBox, renArr]; rfl) ?_
    refine RunC.fin ?_
    refine AWP.loopJ (fun s8 : (List curve_Sample) × Int => LS.mk [(0, slV curve_Sample 0 0 0 s8.1.length), (1, .sc (.int .i64 n)), (2, .fn (.func 22) []), (6, .sc (.int .i64 s8.2))] (lblks 0 [arrB (α := curve_Sample) 53 0 false s8.1]) 1) (fun z9 : (List curve_Sample) => LS.mk [] (lblks 0 [arrB (α := curve_Sample) 53 0 false z9]) 1) (slices_stableCmpFunc_curve_Sample_curve_order.l2 n) hR (s0 := (r6, 20)) (Weak.turnL [(0, 0)] [] rfl rfl (tc (trS' rfl rfl rfl rfl h7) (tc (.sc _) (tc (.fn (.nil)) (tc (.sc _) tn)))) (mc rfl (btrA' rfl) mn)) (fun s8 o8 hR => ?_) fun z9 hR => ?_
    · unfold slices_stableCmpFunc_curve_Sample_curve_order.l2 at hR
      refine AWP.sq ?_
      refine AWP.sq ?_
      refine AWP.rgC 13 rfl rfl ?_
      refine pu (v := .sc _) rfl rfl (fun _ => rfl) ?_
      refine pu (v := .sc _) rfl rfl (fun _ => rfl) ?_
      refine pu (v := .sc _) rfl rfl (fun _ => rfl) ?_
      refine RunC.fin ?_
      refine AWP.cd hR rfl (fun h10 hR => ?_) fun h10 hR => ?_
      · refine AWP.skip ?_
        refine skT ?_
        refine AWP.block ?_
        refine AWP.sq ?_
        refine AWP.rgC 29 rfl rfl ?_
        refine pu (v := .sc _) rfl rfl (fun _ => rfl) ?_
        refine pu (v := .sc _) rfl rfl (fun _ => rfl) ?_
        refine pu (v := .sc _) rfl rfl (fun _ => rfl) ?_
        refine pu (v := .sc _) rfl rfl (fun _ => rfl) ?_
        refine RunC.fin ?_
        refine AWP.sq ?_
        refine AWP.loopJ (fun s11 : (List curve_Sample) × Int × Int => LS.mk [(0, slV curve_Sample 0 0 0 s11.1.length), (1, .sc (.int .i64 n)), (2, .fn (.func 22) []), (6, .sc (.int .i64 s8.2)), (7, .sc (.int .i64 s11.2.1)), (8, .sc (.int .i64 s11.2.2))] (lblks 0 [arrB (α := curve_Sample) 53 0 false s11.1]) 1) (fun z12 : (List curve_Sample) × Int => LS.mk [(0, slV curve_Sample 0 0 0 z12.1.length), (1, .sc (.int .i64 n)), (2, .fn (.func 22) []), (6, .sc (.int .i64 s8.2)), (7, .sc (.int .i64 z12.2))] (lblks 0 [arrB (α := curve_Sample) 53 0 false z12.1]) 1) (slices_stableCmpFunc_curve_Sample_curve_order.l3 n s8) hR (s0 := (s8.1, 0, w6 (2 * s8.2))) (Weak.turnL [(0, 0)] [] rfl rfl (tc (trS' rfl rfl rfl rfl rfl) (tc (.sc _) (tc (.fn (.nil)) (tc (.sc _) (tc (.sc _) (tc (.sc _) tn)))))) (mc rfl (btrA' rfl) mn)) (fun s11 o11 hR => ?_) fun z12 hR => ?_
        · unfold slices_stableCmpFunc_curve_Sample_curve_order.l3 at hR
          refine AWP.sq ?_
          refine AWP.sq ?_
          refine AWP.rgC 13 rfl rfl ?_
          refine pu (v := .sc _) rfl rfl (fun _ => rfl) ?_
          refine pu (v := .sc _) rfl rfl (fun _ => rfl) ?_
          refine pu (v := .sc _) rfl rfl (fun _ => rfl) ?_
          refine RunC.fin ?_
          refine AWP.cd hR rfl (fun h13 hR => ?_) fun h13 hR => ?_
          · refine AWP.skip ?_
            refine skT ?_
            refine AWP.block ?_
            refine AWP.sq ?_
            refine AWP.rgC 45 rfl rfl ?_
            refine pu (v := slV curve_Sample _ _ _ _) rfl rfl (fun _ => rfl) ?_
            refine pu (v := .sc _) rfl rfl (fun _ => rfl) ?_
            refine pu (v := .sc _) rfl rfl (fun _ => rfl) ?_
            refine pu (v := .sc _) rfl rfl (fun _ => rfl) ?_
            refine pu (v := .sc _) rfl rfl (fun _ => rfl) ?_
            refine pu (v := .sc _) rfl rfl (fun _ => rfl) ?_
            refine pu (v := .fn _ _) rfl rfl (fun _ => rfl) ?_
            obtain ⟨r14, hr14, hR⟩ := bindE hR
            obtain ⟨h15, hR⟩ := chkE hR
            refine cps (res' := .tup []) (ups := [(0, arrB (α := curve_Sample) 53 0 false r14)]) [0] 41 rfl rfl rfl cb57 (ok57 64 s11.1 s11.2.1 (w6 (s11.2.1 + s8.2)) s11.2.2 _ hr14) (.cons (ldM rfl rfl) (.cons (.sc _) (.cons (.sc _) (.cons (.sc _) (.cons (.fn (.nil)) (.nil)))))) (pc rfl bldA pn) rfl rfl rfl rfl rfl (by first | rfl | exact renR | exact renA | exact renS | simp only [V.ren, V.rens, renR, renA, renS] | (simp only [V.ren, V.rens, renR, renA, renS]; rfl)) (by simp only [passUps, renBox, renArr]; rfl) ?_
            refine RunC.fin ?_
            refine AWP.sq ?_
            refine AWP.rgC 53 rfl rfl ?_
            refine pu (v := .sc _) rfl rfl (fun _ => rfl) ?_
            refine pu (v := .sc _) rfl rfl (fun _ => rfl) ?_
            refine RunC.fin ?_
            refine AWP.rgC 73 rfl rfl ?_
            refine pu (v := .sc _) rfl rfl (fun _ => rfl) ?_
            refine pu (v := .sc _) rfl rfl (fun _ => rfl) ?_
            refine pu (v := .sc _) rfl rfl (fun _ => rfl) ?_
            refine pu (v := .sc _) rfl rfl (fun _ => rfl) ?_
            refine pu (v := .sc _) rfl rfl (fun _ => rfl) ?_
            refine RunC.blk ?_
            refine RunC.fin ?_
            refine ⟨(r14, s11.2.2, w6 (s11.2.2 + (w6 (2 * s8.2)))), (Option.some.inj hR).symm, ?_⟩
            exact Weak.turnL [(0, 0)] [] rfl rfl (tc (trS' rfl rfl rfl rfl h15) (tc (.sc _) (tc (.fn (.nil)) (tc (.sc _) (tc (.sc _) (tc (.sc _) tn)))))) (mc rfl (btrA' rfl) mn)
          · refine AWP.exit ?_
            refine exT ?_
            refine exT ?_
            refine exH (skT ?_)
            refine ⟨(s11.1, s11.2.1), (Option.some.inj hR).symm, ?_⟩
            exact Weak.turnL [(0, 0)] [] rfl rfl (tc (trS' rfl rfl rfl rfl rfl) (tc (.sc _) (tc (.fn (.nil)) (tc (.sc _) (tc (.sc _) tn))))) (mc rfl (btrA' rfl) mn)
        · refine skT ?_
          refine AWP.sq ?_
          refine AWP.sq ?_
          refine AWP.rgC 17 rfl rfl ?_
          refine pu (v := .sc _) rfl rfl (fun _ => rfl) ?_
          refine pu (v := .sc _) rfl rfl (fun _ => rfl) ?_
          refine pu (v := .sc _) rfl rfl (fun _ => rfl) ?_
          refine pu (v := .sc _) rfl rfl (fun _ => rfl) ?_
          refine RunC.fin ?_
          refine AWP.sq ?_
          refine AWP.rgC 29 rfl rfl ?_
          refine pu (v := .sc _) rfl rfl (fun _ => rfl) ?_
          refine pu (v := .sc _) rfl rfl (fun _ => rfl) ?_
          refine pu (v := .sc _) rfl rfl (fun _ => rfl) ?_
          refine RunC.fin ?_
          refine AWP.cd hR rfl (fun h16 hR => ?_) fun h16 hR => ?_
          · refine AWP.rgC 53 rfl rfl ?_
            refine pu (v := slV curve_Sample _ _ _ _) rfl rfl (fun _ => rfl) ?_
            refine pu (v := .sc _) rfl rfl (fun _ => rfl) ?_
            refine pu (v := .sc _) rfl rfl (fun _ => rfl) ?_
            refine pu (v := .sc _) rfl rfl (fun _ => rfl) ?_
            refine pu (v := .fn _ _) rfl rfl (fun _ => rfl) ?_
            obtain ⟨r17, hr17, hR⟩ := bindE hR
            obtain ⟨h18, hR⟩ := chkE hR
            refine cps (res' := .tup []) (ups := [(0, arrB (α := curve_Sample) 53 0 false r17)]) [0] 49 rfl rfl rfl cb57 (ok57 64 z12.1 z12.2 (w6 (z12.2 + s8.2)) n _ hr17) (.cons (ldM rfl rfl) (.cons (.sc _) (.cons (.sc _) (.cons (.sc _) (.cons (.fn (.nil)) (.nil)))))) (pc rfl bldA pn) rfl rfl rfl rfl rfl (by first | rfl | exact renR | exact renA | exact renS | simp only [V.ren, V.rens, renR, renA, renS] | (simp only [V.ren, V.rens, renR, renA, renS]; rfl)) (by simp only [passUps, renBox, renArr]; rfl) ?_
            refine RunC.fin ?_
            refine AWP.rgC 65 rfl rfl ?_
            refine pu (v := .sc _) rfl rfl (fun _ => rfl) ?_
            refine pu (v := .sc _) rfl rfl (fun _ => rfl) ?_
            refine pu (v := .sc _) rfl rfl (fun _ => rfl) ?_
            refine RunC.blk ?_
            refine RunC.fin ?_
            refine ⟨(r17, w6 (s8.2 * 2)), (Option.some.inj hR).symm, ?_⟩
            exact Weak.turnL [(0, 0)] [] rfl rfl (tc (trS' rfl rfl rfl rfl h18) (tc (.sc _) (tc (.fn (.nil)) (tc (.sc _) tn)))) (mc rfl (btrA' rfl) mn)
          · refine AWP.skip ?_
            refine skT ?_
            refine AWP.rgC 41 rfl rfl ?_
            refine pu (v := .sc _) rfl rfl (fun _ => rfl) ?_
            refine pu (v := .sc _) rfl rfl (fun _ => rfl) ?_
            refine pu (v := .sc _) rfl rfl (fun _ => rfl) ?_
            refine RunC.blk ?_
            refine RunC.fin ?_
            refine ⟨(z12.1, w6 (s8.2 * 2)), (Option.some.inj hR).symm, ?_⟩
            exact Weak.turnL [(0, 0)] [] rfl rfl (tc (trS' rfl rfl rfl rfl rfl) (tc (.sc _) (tc (.fn (.nil)) (tc (.sc _) tn)))) (mc rfl (btrA' rfl) mn)
      · refine AWP.exit ?_
        refine exT ?_
        refine exT ?_
        refine exH (skT ?_)
        refine ⟨s8.1, (Option.some.inj hR).symm, ?_⟩
        exact Weak.turnL [(0, 0)] [] rfl rfl tn (mc rfl (btrA' rfl) mn)
    · have hR := Option.some.inj hR; subst hR
      exact hQ _ _ (LS.mk [] (lblks 0 [arrB (α := curve_Sample) 53 0 false z9]) 1) (.tup []) [] (.inl rfl) (Weak.turnL [(0, 0)] [] rfl rfl tn (mc rfl (btrA' rfl) mn)) (ro0 ) rfl rfl (.tup .nil) (pc rfl bldA pn)
theorem ok21 (x : List curve_Sample) (r : (List curve_Sample)) (hR : slices_SortStableFunc_curve_Sample_curve_order x = some r) : FnD Try.prog 21 [arrB 53 0 false x] [slV curve_Sample 0 0 0 x.length, .fn (.func 22) []] (.tup []) [arrB 53 0 false r] := by
  refine FnX.walk Try.func21 rfl 9 1 (by simp [Try.ntmps21]) rfl fun W S F Q hQ => ?_
  unfold slices_SortStableFunc_curve_Sample_curve_order at hR
  refine AWP.rgC 21 rfl rfl ?_
  refine pu (v := slV curve_Sample _ _ _ _) rfl rfl (fun _ => rfl) ?_
  refine pu (v := slV curve_Sample _ _ _ _) rfl rfl (fun _ => rfl) ?_
  refine lenS (α := curve_Sample) rfl rfl ti35 rfl ?_
  refine pu (v := .fn _ _) rfl rfl (fun _ => rfl) ?_
  obtain ⟨r1, hr1, hR⟩ := bindE hR
  obtain ⟨h2, hR⟩ := chkE hR
  refine cps (res' := .tup []) (ups := [(0, arrB (α := curve_Sample) 53 0 false r1)]) [0] 17 rfl rfl rfl cb36 (ok36 x (x.length : Int) _ hr1) (.cons (ldM rfl rfl) (.cons (.sc _) (.cons (.fn (.nil)) (.nil)))) (pc rfl bldA pn) rfl rfl rfl rfl rfl (by first | rfl | exact renR | exact renA | exact renS | simp only [V.ren, V.rens, renR, renA, renS] | (simp only [V.ren, V.rens, renR, renA, renS]; rfl)) (by simp only [passUps, renBox, renArr]; rfl) ?_
  refine RunC.nil ?_
  have hR := Option.some.inj hR; subst hR
  exact hQ _ _ (LS.mk [] (lblks 0 [arrB (α := curve_Sample) 53 0 false r1]) 1) (.tup []) [] (.inl rfl) (Weak.turnL [(0, 0)] [] rfl rfl tn (mc rfl (btrA' rfl) mn)) (ro0 ) rfl rfl (.tup .nil) (pc rfl bldA pn)
theorem ok20_54 (slices : List (List curve_Sample)) (r : (List curve_Sample)) (hR : slices_Concat_curve_Sample slices = some r) : FnD Try.prog 20 [] [rowV false slices] (slV curve_Sample 0 0 0 r.length) [arrB (α := curve_Sample) 53 0 true r] := by
  refine FnX.walk Try.func20 rfl 36 0 (by simp [Try.ntmps20]) rfl fun W S F Q hQ => ?_
  unfold slices_Concat_curve_Sample at hR
  refine AWP.sq ?_
  refine AWP.rgC 4 rfl rfl ?_
  refine pu (v := .sc _) rfl rfl (fun _ => rfl) ?_
  refine RunC.fin ?_
  refine AWP.sq ?_
  refine AWP.rgC 8 rfl rfl ?_
  refine pu (v := .sc _) rfl rfl (fun _ => rfl) ?_
  refine RunC.fin ?_
  refine AWP.sq ?_
  refine AWP.sq ?_
  refine AWP.rgC 20 rfl rfl ?_
  refine pu (v := rowV _ slices) rfl rfl (fun _ => rfl) ?_
  refine lenL (α := List curve_Sample) rfl rfl ti86 rfl ?_
  refine pu (v := .sc _) rfl rfl (fun _ => rfl) ?_
  refine RunC.fin ?_
  refine AWP.loopJ (fun s1 : Int × Int => LS.mk [(0, rowV (α := List curve_Sample) false slices), (3, .sc (.int .i64 s1.1)), (9, rowV (α := List curve_Sample) false slices), (10, .sc (.int .i64 (slices.length : Int))), (11, .sc (.int .i64 s1.2))] (lblks 0 []) 0) (fun z2 : Int => LS.mk [(0, rowV (α := List curve_Sample) false slices), (3, .sc (.int .i64 z2))] (lblks 0 []) 0) (slices_Concat_curve_Sample.l1 slices) hR (s0 := (0, 0)) (Weak.turnL [] [] rfl rfl (tc trR1 (tc (.sc _) (tc trR1 (tc (.sc _) (tc (.sc _) tn))))) mn) (fun s1 o1 hR => ?_) fun z2 hR => ?_
  · unfold slices_Concat_curve_Sample.l1 at hR
    refine AWP.sq ?_
    refine AWP.rgC 4 rfl rfl ?_
    refine pu (v := .sc _) rfl rfl (fun _ => rfl) ?_
    refine RunC.fin ?_
    refine AWP.sq ?_
    refine AWP.cd hR rfl (fun h3 hR => ?_) fun h3 hR => ?_
    · refine AWP.skip ?_
      refine skT ?_
      refine AWP.joinX (fun z4 : Unit => LS.mk [(0, rowV (α := List curve_Sample) false slices), (3, .sc (.int .i64 (w6 (s1.1 + ((gt slices s1.2).length : Int))))), (9, rowV (α := List curve_Sample) false slices), (10, .sc (.int .i64 (slices.length : Int))), (11, .sc (.int .i64 s1.2))] (lblks 0 []) 0) hR (fun o4 hR => ?_) fun z4 hR => ?_
      · refine AWP.block ?_
        refine AWP.sq ?_
        refine AWP.rgC 16 rfl rfl ?_
        obtain ⟨h5, hR⟩ := chkE hR
        refine ixL (α := List curve_Sample) rfl rfl rfl ti86 rfl ti35 rfl h5 ?_
        refine ldR (v := rowV _ (gt slices s1.2)) rfl rfl ti35 rfl ?_
        refine pu (v := rowV _ (gt slices s1.2)) rfl rfl (fun _ => rfl) ?_
        refine RunC.fin ?_
        refine AWP.sq ?_
        refine AWP.rgC 36 rfl rfl ?_
        refine pu (v := .sc _) rfl rfl (fun _ => rfl) ?_
        refine pu (v := rowV _ (gt slices s1.2)) rfl rfl (fun _ => rfl) ?_
        refine lenL (α := curve_Sample) rfl rfl ti35 rfl ?_
        refine pu (v := .sc _) rfl rfl (fun _ => rfl) ?_
        refine pu (v := .sc _) rfl rfl (fun _ => rfl) ?_
        refine RunC.fin ?_
        refine AWP.sq ?_
        refine AWP.rgC 44 rfl rfl ?_
        refine pu (v := .sc _) rfl rfl (fun _ => rfl) ?_
        refine pu (v := .sc _) rfl rfl (fun _ => rfl) ?_
        refine RunC.fin ?_
        refine AWP.cd hR rfl (fun h6 hR => ?_) fun h6 hR => ?_
        · cases hR
        · refine AWP.skip ?_
          refine skB ?_
          refine skT ?_
          have hR := Option.some.inj hR; subst hR
          exact Weak.turnL [] [] rfl rfl (tc trR1 (tc (.sc _) (tc trR1 (tc (.sc _) (tc (.sc _) tn))))) mn
      · refine AWP.rgC 8 rfl rfl ?_
        refine pu (v := .sc _) rfl rfl (fun _ => rfl) ?_
        refine pu (v := .sc _) rfl rfl (fun _ => rfl) ?_
        refine RunC.fin ?_
        refine ⟨(w6 (s1.1 + ((gt slices s1.2).length : Int)), w6 (s1.2 + 1)), (Option.some.inj hR).symm, ?_⟩
        exact Weak.turnL [] [] rfl rfl (tc trR1 (tc (.sc _) (tc trR1 (tc (.sc _) (tc (.sc _) tn))))) mn
    · refine AWP.exit ?_
      refine exT ?_
      refine exT ?_
      refine exH (skT ?_)
      refine ⟨s1.1, (Option.some.inj hR).symm, ?_⟩
      exact Weak.turnL [] [] rfl rfl (tc trR1 (tc (.sc _) tn)) mn
  · refine skT ?_
    refine AWP.sq ?_
    refine AWP.rgC 12 rfl rfl ?_
    refine pu (v := .sc _) rfl rfl (fun _ => rfl) ?_
    obtain ⟨r7, hr7, hR⟩ := bindE hR
    refine cpx (res' := slV curve_Sample 4 0 0 r7.length) (ups := [(4, arrB (α := curve_Sample) 53 0 true r7)]) [] 4 rfl rfl rfl cb35 (ok35 z2 _ hr7) (.cons (.sc _) (.cons (.sc _) (.nil))) pn rfl rfl rfl (by simp only [V.ren, V.rens, renS, renR, renA]; rfl) (by simp only [passUps, renBox, renArr]; rfl) ?_
    refine pu (v := slV curve_Sample _ _ _ _) rfl rfl (fun _ => rfl) ?_
    refine RunC.fin ?_
    refine AWP.sq ?_
    refine AWP.sq ?_
    refine AWP.rgC 24 rfl rfl ?_
    refine pu (v := rowV _ slices) rfl rfl (fun _ => rfl) ?_
    refine lenL (α := List curve_Sample) rfl rfl ti86 rfl ?_
    refine pu (v := .sc _) rfl rfl (fun _ => rfl) ?_
    refine RunC.fin ?_
    refine AWP.loopJ (fun s8 : (List curve_Sample) × Int => LS.mk [(6, slV curve_Sample 0 0 0 s8.1.length), (25, rowV (α := List curve_Sample) false slices), (26, .sc (.int .i64 (slices.length : Int))), (27, .sc (.int .i64 s8.2))] (lblks 0 [arrB (α := curve_Sample) 53 0 true s8.1]) 1) (fun z9 : (List curve_Sample) => LS.mk [(6, slV curve_Sample 0 0 0 z9.length)] (lblks 0 [arrB (α := curve_Sample) 53 0 true z9]) 1) (slices_Concat_curve_Sample.l2 slices) hR (s0 := (r7, 0)) (Weak.turnL [(4, 0)] [] rfl rfl (tc (trS' rfl rfl rfl rfl rfl) (tc trR1 (tc (.sc _) (tc (.sc _) tn)))) (mc rfl (btrA' rfl) mn)) (fun s8 o8 hR => ?_) fun z9 hR => ?_
    · unfold slices_Concat_curve_Sample.l2 at hR
      refine AWP.sq ?_
      refine AWP.rgC 5 rfl rfl ?_
      refine pu (v := .sc _) rfl rfl (fun _ => rfl) ?_
      refine RunC.fin ?_
      refine AWP.sq ?_
      refine AWP.cd hR rfl (fun h10 hR => ?_) fun h10 hR => ?_
      · refine AWP.skip ?_
        refine skT ?_
        refine AWP.sq ?_
        refine AWP.block ?_
        refine AWP.sq ?_
        refine AWP.rgC 17 rfl rfl ?_
        obtain ⟨h11, hR⟩ := chkE hR
        refine ixL (α := List curve_Sample) rfl rfl rfl ti86 rfl ti35 rfl h11 ?_
        refine ldR (v := rowV _ (gt slices s8.2)) rfl rfl ti35 rfl ?_
        refine pu (v := rowV _ (gt slices s8.2)) rfl rfl (fun _ => rfl) ?_
        refine RunC.fin ?_
        refine AWP.rgC 33 rfl rfl ?_
        refine pu (v := slV curve_Sample _ _ _ _) rfl rfl (fun _ => rfl) ?_
        refine pu (v := rowV _ (gt slices s8.2)) rfl rfl (fun _ => rfl) ?_
        obtain ⟨h12, hR⟩ := chkE hR
        refine ap' (α := curve_Sample) (nw := true) (xs := s8.1) (ys := (gt slices s8.2)) rfl rfl rfl rfl (srcR2 rfl (fun _ => rfl)) ti35 rfl ti53 rfl h12 rfl ?_
        refine pu (v := slV curve_Sample _ _ _ _) rfl rfl (fun _ => rfl) ?_
        refine RunC.blk ?_
        refine RunC.fin ?_
        refine AWP.rgC 41 rfl rfl ?_
        refine pu (v := .sc _) rfl rfl (fun _ => rfl) ?_
        refine pu (v := .sc _) rfl rfl (fun _ => rfl) ?_
        refine RunC.fin ?_
        refine ⟨(s8.1 ++ (gt slices s8.2), w6 (s8.2 + 1)), (Option.some.inj hR).symm, ?_⟩
        exact Weak.turnL [(0, 0)] [] rfl rfl (tc (trS' rfl rfl rfl rfl rfl) (tc trR1 (tc (.sc _) (tc (.sc _) tn)))) (mc rfl (btrA' rfl) mn)
      · refine AWP.exit ?_
        refine exT ?_
        refine exT ?_
        refine exH (skT ?_)
        refine ⟨s8.1, (Option.some.inj hR).symm, ?_⟩
        exact Weak.turnL [(0, 0)] [] rfl rfl (tc (trS' rfl rfl rfl rfl rfl) tn) (mc rfl (btrA' rfl) mn)
    · refine skT ?_
      refine AWP.sq ?_
      refine AWP.rgC 9 rfl rfl ?_
      refine pu (v := slV curve_Sample _ _ _ _) rfl rfl (fun _ => rfl) ?_
      refine pu (v := slV curve_Sample _ _ _ _) rfl rfl (fun _ => rfl) ?_
      refine RunC.fin ?_
      refine AWP.ret ?_
      have hR := Option.some.inj hR; subst hR
      exact hQ _ _ (LS.mk [(2, slV curve_Sample 0 0 0 z9.length)] (lblks 0 [arrB (α := curve_Sample) 53 0 true z9]) 1) (slV curve_Sample 0 0 0 z9.length) [0] (.inr rfl) (Weak.turnL [(0, 0)] [] rfl rfl (tc (trS' rfl rfl rfl rfl rfl) tn) (mc rfl (btrA' rfl) mn)) (ro1 (rvT (v := slV curve_Sample 0 0 0 z9.length) rfl)) rfl rfl (ldM rfl rfl) (pc rfl bldA pn)
theorem ok20_55 (slices : List (List curve_Sample)) (r : (List curve_Sample)) (hR : slices_Concat_curve_Sample slices = some r) : FnD Try.prog 20 [arrB 35 0 false slices] [slV (List curve_Sample) 0 0 0 slices.length] (slV curve_Sample 1 0 0 r.length) [arrB 35 0 false slices, arrB (α := curve_Sample) 53 0 true r] := by
  refine FnX.walk Try.func20 rfl 36 1 (by simp [Try.ntmps20]) rfl fun W S F Q hQ => ?_
  unfold slices_Concat_curve_Sample at hR
  refine AWP.sq ?_
  refine AWP.rgC 5 rfl rfl ?_
  refine pu (v := .sc _) rfl rfl (fun _ => rfl) ?_
  refine RunC.fin ?_
  refine AWP.sq ?_
  refine AWP.rgC 9 rfl rfl ?_
  refine pu (v := .sc _) rfl rfl (fun _ => rfl) ?_
  refine RunC.fin ?_
  refine AWP.sq ?_
  refine AWP.sq ?_
  refine AWP.rgC 21 rfl rfl ?_
  refine pu (v := slV (List curve_Sample) _ _ _ _) rfl rfl (fun _ => rfl) ?_
  refine lenS (α := List curve_Sample) rfl rfl ti86 rfl ?_
  refine pu (v := .sc _) rfl rfl (fun _ => rfl) ?_
  refine RunC.fin ?_
  refine AWP.loopJ (fun s1 : Int × Int => LS.mk [(0, slV (List curve_Sample) 0 0 0 slices.length), (3, .sc (.int .i64 s1.1)), (9, slV (List curve_Sample) 0 0 0 slices.length), (10, .sc (.int .i64 (slices.length : Int))), (11, .sc (.int .i64 s1.2))] (lblks 0 [arrB (α := List curve_Sample) 35 0 false slices]) 1) (fun z2 : Int => LS.mk [(0, slV (List curve_Sample) 0 0 0 slices.length), (3, .sc (.int .i64 z2))] (lblks 0 [arrB (α := List curve_Sample) 35 0 false slices]) 1) (slices_Concat_curve_Sample.l1 slices) hR (s0 := (0, 0)) (Weak.turnL [(0, 0)] [] rfl rfl (tc (trS' rfl rfl rfl rfl rfl) (tc (.sc _) (tc (trS' rfl rfl rfl rfl rfl) (tc (.sc _) (tc (.sc _) tn))))) (mc rfl (btrA' rfl) mn)) (fun s1 o1 hR => ?_) fun z2 hR => ?_
  · unfold slices_Concat_curve_Sample.l1 at hR
    refine AWP.sq ?_
    refine AWP.rgC 5 rfl rfl ?_
    refine pu (v := .sc _) rfl rfl (fun _ => rfl) ?_
    refine RunC.fin ?_
    refine AWP.sq ?_
    refine AWP.cd hR rfl (fun h3 hR => ?_) fun h3 hR => ?_
    · refine AWP.skip ?_
      refine skT ?_
      refine AWP.joinX (fun z4 : Unit => LS.mk [(0, slV (List curve_Sample) 0 0 0 slices.length), (3, .sc (.int .i64 (w6 (s1.1 + ((gt slices s1.2).length : Int))))), (9, slV (List curve_Sample) 0 0 0 slices.length), (10, .sc (.int .i64 (slices.length : Int))), (11, .sc (.int .i64 s1.2))] (lblks 0 [arrB (α := List curve_Sample) 35 0 false slices]) 1) hR (fun o4 hR => ?_) fun z4 hR => ?_
      · refine AWP.block ?_
        refine AWP.sq ?_
        refine AWP.rgC 17 rfl rfl ?_
        obtain ⟨h5, hR⟩ := chkE hR
        refine ixS0 (α := List curve_Sample) rfl rfl rfl ti86 rfl ti35 rfl h5 ?_
        refine ldE (α := List curve_Sample) (v := rowV _ (gt slices s1.2)) rfl rfl rfl (ixlt h5) ti35 rfl rfl rfl rfl ?_
        refine pu (v := rowV _ (gt slices s1.2)) rfl rfl (fun _ => rfl) ?_
        refine RunC.fin ?_
        refine AWP.sq ?_
        refine AWP.rgC 37 rfl rfl ?_
        refine pu (v := .sc _) rfl rfl (fun _ => rfl) ?_
        refine pu (v := rowV _ (gt slices s1.2)) rfl rfl (fun _ => rfl) ?_
        refine lenL (α := curve_Sample) rfl rfl ti35 rfl ?_
        refine pu (v := .sc _) rfl rfl (fun _ => rfl) ?_
        refine pu (v := .sc _) rfl rfl (fun _ => rfl) ?_
        refine RunC.fin ?_
        refine AWP.sq ?_
        refine AWP.rgC 45 rfl rfl ?_
        refine pu (v := .sc _) rfl rfl (fun _ => rfl) ?_
        refine pu (v := .sc _) rfl rfl (fun _ => rfl) ?_
        refine RunC.fin ?_
        refine AWP.cd hR rfl (fun h6 hR => ?_) fun h6 hR => ?_
        · cases hR
        · refine AWP.skip ?_
          refine skB ?_
          refine skT ?_
          have hR := Option.some.inj hR; subst hR
          exact Weak.turnL [(0, 0)] [] rfl rfl (tc (trS' rfl rfl rfl rfl rfl) (tc (.sc _) (tc (trS' rfl rfl rfl rfl rfl) (tc (.sc _) (tc (.sc _) tn))))) (mc rfl (btrA' rfl) mn)
      · refine AWP.rgC 9 rfl rfl ?_
        refine pu (v := .sc _) rfl rfl (fun _ => rfl) ?_
        refine pu (v := .sc _) rfl rfl (fun _ => rfl) ?_
        refine RunC.fin ?_
        refine ⟨(w6 (s1.1 + ((gt slices s1.2).length : Int)), w6 (s1.2 + 1)), (Option.some.inj hR).symm, ?_⟩
        exact Weak.turnL [(0, 0)] [] rfl rfl (tc (trS' rfl rfl rfl rfl rfl) (tc (.sc _) (tc (trS' rfl rfl rfl rfl rfl) (tc (.sc _) (tc (.sc _) tn))))) (mc rfl (btrA' rfl) mn)
    · refine AWP.exit ?_
      refine exT ?_
      refine exT ?_
      refine exH (skT ?_)
      refine ⟨s1.1, (Option.some.inj hR).symm, ?_⟩
      exact Weak.turnL [(0, 0)] [] rfl rfl (tc (trS' rfl rfl rfl rfl rfl) (tc (.sc _) tn)) (mc rfl (btrA' rfl) mn)
  · refine skT ?_
    refine AWP.sq ?_
    refine AWP.rgC 13 rfl rfl ?_
    refine pu (v := .sc _) rfl rfl (fun _ => rfl) ?_
    obtain ⟨r7, hr7, hR⟩ := bindE hR
    refine cpx (res' := slV curve_Sample 5 0 0 r7.length) (ups := [(5, arrB (α := curve_Sample) 53 0 true r7)]) [] 5 rfl rfl rfl cb35 (ok35 z2 _ hr7) (.cons (.sc _) (.cons (.sc _) (.nil))) pn rfl rfl rfl (by simp only [V.ren, V.rens, renS, renR, renA]; rfl) (by simp only [passUps, renBox, renArr]; rfl) ?_
    refine pu (v := slV curve_Sample _ _ _ _) rfl rfl (fun _ => rfl) ?_
    refine RunC.fin ?_
    refine AWP.sq ?_
    refine AWP.sq ?_
    refine AWP.rgC 25 rfl rfl ?_
    refine pu (v := slV (List curve_Sample) _ _ _ _) rfl rfl (fun _ => rfl) ?_
    refine lenS (α := List curve_Sample) rfl rfl ti86 rfl ?_
    refine pu (v := .sc _) rfl rfl (fun _ => rfl) ?_
    refine RunC.fin ?_
    refine AWP.loopJ (fun s8 : (List curve_Sample) × Int => LS.mk [(6, slV curve_Sample 1 0 0 s8.1.length), (25, slV (List curve_Sample) 0 0 0 slices.length), (26, .sc (.int .i64 (slices.length : Int))), (27, .sc (.int .i64 s8.2))] (lblks 0 [arrB (α := List curve_Sample) 35 0 false slices, arrB (α := curve_Sample) 53 0 true s8.1]) 2) (fun z9 : (List curve_Sample) => LS.mk [(6, slV curve_Sample 1 0 0 z9.length)] (lblks 0 [arrB (α := List curve_Sample) 35 0 false slices, arrB (α := curve_Sample) 53 0 true z9]) 2) (slices_Concat_curve_Sample.l2 slices) hR (s0 := (r7, 0)) (Weak.turnL [(0, 0), (5, 0)] [] rfl rfl (tc (trS' rfl rfl rfl rfl rfl) (tc (trS' rfl rfl rfl rfl rfl) (tc (.sc _) (tc (.sc _) tn)))) (mc rfl (btrA' rfl) (mc rfl (btrA' rfl) mn))) (fun s8 o8 hR => ?_) fun z9 hR => ?_
    · unfold slices_Concat_curve_Sample.l2 at hR
      refine AWP.sq ?_
      refine AWP.rgC 6 rfl rfl ?_
      refine pu (v := .sc _) rfl rfl (fun _ => rfl) ?_
      refine RunC.fin ?_
      refine AWP.sq ?_
      refine AWP.cd hR rfl (fun h10 hR => ?_) fun h10 hR => ?_
      · refine AWP.skip ?_
        refine skT ?_
        refine AWP.sq ?_
        refine AWP.block ?_
        refine AWP.sq ?_
        refine AWP.rgC 18 rfl rfl ?_
        obtain ⟨h11, hR⟩ := chkE hR
        refine ixS0 (α := List curve_Sample) rfl rfl rfl ti86 rfl ti35 rfl h11 ?_
        refine ldE (α := List curve_Sample) (v := rowV _ (gt slices s8.2)) rfl rfl rfl (ixlt h11) ti35 rfl rfl rfl rfl ?_
        refine pu (v := rowV _ (gt slices s8.2)) rfl rfl (fun _ => rfl) ?_
        refine RunC.fin ?_
        refine AWP.rgC 34 rfl rfl ?_
        refine pu (v := slV curve_Sample _ _ _ _) rfl rfl (fun _ => rfl) ?_
        refine pu (v := rowV _ (gt slices s8.2)) rfl rfl (fun _ => rfl) ?_
        obtain ⟨h12, hR⟩ := chkE hR
        refine ap' (α := curve_Sample) (nw := true) (xs := s8.1) (ys := (gt slices s8.2)) rfl rfl rfl rfl (srcR2 rfl (fun _ => rfl)) ti35 rfl ti53 rfl h12 rfl ?_
        refine pu (v := slV curve_Sample _ _ _ _) rfl rfl (fun _ => rfl) ?_
        refine RunC.blk ?_
        refine RunC.fin ?_
        refine AWP.rgC 42 rfl rfl ?_
        refine pu (v := .sc _) rfl rfl (fun _ => rfl) ?_
        refine pu (v := .sc _) rfl rfl (fun _ => rfl) ?_
        refine RunC.fin ?_
        refine ⟨(s8.1 ++ (gt slices s8.2), w6 (s8.2 + 1)), (Option.some.inj hR).symm, ?_⟩
        exact Weak.turnL [(0, 0), (1, 0)] [] rfl rfl (tc (trS' rfl rfl rfl rfl rfl) (tc (trS' rfl rfl rfl rfl rfl) (tc (.sc _) (tc (.sc _) tn)))) (mc rfl (btrA' rfl) (mc rfl (btrA' rfl) mn))
      · refine AWP.exit ?_
        refine exT ?_
        refine exT ?_
        refine exH (skT ?_)
        refine ⟨s8.1, (Option.some.inj hR).symm, ?_⟩
        exact Weak.turnL [(0, 0), (1, 0)] [] rfl rfl (tc (trS' rfl rfl rfl rfl rfl) tn) (mc rfl (btrA' rfl) (mc rfl (btrA' rfl) mn))
    · refine skT ?_
      refine AWP.sq ?_
      refine AWP.rgC 10 rfl rfl ?_
      refine pu (v := slV curve_Sample _ _ _ _) rfl rfl (fun _ => rfl) ?_
      refine pu (v := slV curve_Sample _ _ _ _) rfl rfl (fun _ => rfl) ?_
      refine RunC.fin ?_
      refine AWP.ret ?_
      have hR := Option.some.inj hR; subst hR
      exact hQ _ _ (LS.mk [(2, slV curve_Sample 1 0 0 z9.length)] (lblks 0 [arrB (α := List curve_Sample) 35 0 false slices, arrB (α := curve_Sample) 53 0 true z9]) 2) (slV curve_Sample 1 0 0 z9.length) [1] (.inr rfl) (Weak.turnL [(0, 0), (1, 0)] [] rfl rfl (tc (trS' rfl rfl rfl rfl rfl) tn) (mc rfl (btrA' rfl) (mc rfl (btrA' rfl) mn))) (ro1 (rvT (v := slV curve_Sample 1 0 0 z9.length) rfl)) rfl rfl (ldM rfl rfl) (pc rfl bldA (pc rfl bldA pn))
theorem ok7 (a : List curve_Sample) (b : List curve_Sample) (r : (List curve_Sample) × Int) (hR : curve_Merge a b = some r) : FnP Try.prog 7 [rowV false a, rowV false b] (.tup [rowV (α := curve_Sample) false r.1, .sc (.int .i64 r.2)]) := by
  refine fnP_of (FnX.walk Try.func7 rfl 30 0 (by simp [Try.ntmps7]) rfl fun W S F Q hQ => ?_)
  unfold curve_Merge at hR
  refine AWP.sq ?_
  refine AWP.rgC 8 rfl rfl ?_
  refine pu (v := .sc _) rfl rfl (fun _ => rfl) ?_
  refine pu (v := .sc _) rfl rfl (fun _ => rfl) ?_
  refine RunC.fin ?_
  refine AWP.sq ?_
  refine AWP.sq ?_
  refine AWP.rgC 36 rfl rfl ?_
  refine pu (v := rowV _ a) rfl rfl (fun _ => rfl) ?_
  obtain ⟨r1, hr1, hR⟩ := bindE hR
  refine cls [] rfl rfl cb9 (ok9 a _ hr1) (.cons ldR' (.nil)) (.inr rfl) rfl ?_
  refine pu (v := rowV _ b) rfl rfl (fun _ => rfl) ?_
  obtain ⟨r2, hr2, hR⟩ := bindE hR
  refine cls [] rfl rfl cb9 (ok9 b _ hr2) (.cons ldR' (.nil)) (.inr rfl) rfl ?_
  refine bs (α := Int) 24 true ([r1, r2] : List Int) rfl rfl ti85 rfl ti38 rfl rfl rfl rfl rfl ?_
  obtain ⟨r3, hr3, hR⟩ := bindE hR
  refine cls [24] rfl rfl cb19 (ok19 ([r1, r2] : List Int) _ hr3) (.cons (ldS' rfl rfl rfl rfl) (.nil)) (.inl (by first | rfl | exact freshR | exact freshA | (simp only [V.fresh, V.freshs, freshR, freshA, Bool.and_self]))) rfl ?_
  refine pu (v := .sc _) rfl rfl (fun _ => rfl) ?_
  refine RunC.fin ?_
  refine AWP.sq ?_
  refine AWP.rgC 44 rfl rfl ?_
  refine pu (v := .sc _) rfl rfl (fun _ => rfl) ?_
  refine pu (v := .sc _) rfl rfl (fun _ => rfl) ?_
  refine RunC.fin ?_
  refine AWP.cd hR rfl (fun h4 hR => ?_) fun h4 hR => ?_
  · refine AWP.sq ?_
    refine AWP.rgC 56 rfl rfl ?_
    refine pu (v := .sc _) rfl rfl (fun _ => rfl) ?_
    refine pu (v := .sc _) rfl rfl (fun _ => rfl) ?_
    refine pu (v := .sc _) rfl rfl (fun _ => rfl) ?_
    refine RunC.fin ?_
    refine AWP.ret ?_
    refine rtT ?_
    have hR := Option.some.inj hR; subst hR
    exact hQ _ _ (LS.mk [(4, rowV (α := curve_Sample) false []), (5, .sc (.int .i64 r3))] (lblks 0 []) 0) (.tup [rowV (α := curve_Sample) false [], .sc (.int .i64 r3)]) [] (.inr rfl) (Weak.turnL [] [] rfl rfl (tc trN (tc (.sc _) tn)) mn) (ro2 (rvT (v := rowV (α := curve_Sample) false []) rfl) (rvT (v := .sc (.int .i64 r3)) rfl)) rfl rfl (.tup (.cons ldR' (.cons (.sc _) .nil))) pn
  · refine AWP.skip ?_
    refine skT ?_
    refine AWP.sq ?_
    refine AWP.sq ?_
    refine AWP.rgC 68 rfl rfl ?_
    refine pu (v := rowV _ a) rfl rfl (fun _ => rfl) ?_
    refine lenL (α := curve_Sample) rfl rfl ti35 rfl ?_
    refine pu (v := rowV _ b) rfl rfl (fun _ => rfl) ?_
    refine lenL (α := curve_Sample) rfl rfl ti35 rfl ?_
    refine pu (v := .sc _) rfl rfl (fun _ => rfl) ?_
    refine pu (v := .sc _) rfl rfl (fun _ => rfl) ?_
    refine RunC.fin ?_
    refine AWP.cd hR rfl (fun h5 hR => ?_) fun h5 hR => ?_
    · refine AWP.sq ?_
      refine AWP.rgC 76 rfl rfl ?_
      refine pu (v := .sc _) rfl rfl (fun _ => rfl) ?_
      refine pu (v := .sc _) rfl rfl (fun _ => rfl) ?_
      refine RunC.fin ?_
      refine AWP.ret ?_
      refine rtT ?_
      have hR := Option.some.inj hR; subst hR
      exact hQ _ _ (LS.mk [(4, rowV (α := curve_Sample) false []), (5, .sc (.int .i64 9))] (lblks 0 []) 0) (.tup [rowV (α := curve_Sample) false [], .sc (.int .i64 9)]) [] (.inr rfl) (Weak.turnL [] [] rfl rfl (tc trN (tc (.sc _) tn)) mn) (ro2 (rvT (v := rowV (α := curve_Sample) false []) rfl) (rvT (v := .sc (.int .i64 9)) rfl)) rfl rfl (.tup (.cons ldR' (.cons (.sc _) .nil))) pn
    · refine AWP.skip ?_
      refine skT ?_
      refine AWP.sq ?_
      refine AWP.rgC 88 rfl rfl ?_
      refine pu (v := rowV _ a) rfl rfl (fun _ => rfl) ?_
      refine pu (v := rowV _ b) rfl rfl (fun _ => rfl) ?_
      refine bs (α := List curve_Sample) 76 false ([a, b] : List (List curve_Sample)) rfl rfl ti86 rfl ti35 rfl rfl rfl rfl rfl ?_
      obtain ⟨r6, hr6, hR⟩ := bindE hR
      refine cpx (res' := slV curve_Sample 80 0 0 r6.length) (ups := [(76, arrB (α := List curve_Sample) 35 0 false ([a, b] : List (List curve_Sample))), (80, arrB (α := curve_Sample) 53 0 true r6)]) [76] 80 rfl rfl rfl cb20 (ok20_55 ([a, b] : List (List curve_Sample)) _ hr6) (.cons (ldM rfl rfl) (.nil)) (pc rfl bldA pn) rfl rfl rfl (by simp only [V.ren, V.rens, renS, renR, renA]; rfl) (by simp only [passUps, renBox, renArr]; rfl) ?_
      refine pu (v := slV curve_Sample _ _ _ _) rfl rfl (fun _ => rfl) ?_
      refine RunC.fin ?_
      refine AWP.sq ?_
      refine AWP.rgC 96 rfl rfl ?_
      refine pu (v := slV curve_Sample _ _ _ _) rfl rfl (fun _ => rfl) ?_
      obtain ⟨r7, hr7, hR⟩ := bindE hR
      obtain ⟨h8, hR⟩ := chkE hR
      refine cps (res' := .tup []) (ups := [(80, arrB (α := curve_Sample) 53 0 false r7)]) [80] 92 rfl rfl rfl cb21 (ok21 r6 _ hr7) (.cons (ldM rfl rfl) (.cons (.fn (.nil)) (.nil))) (pc rfl bldA pn) rfl rfl rfl rfl rfl (by first | rfl | exact renR | exact renA | exact renS | simp only [V.ren, V.rens, renR, renA, renS] | (simp only [V.ren, V.rens, renR, renA, renS]; rfl)) (by simp only [passUps, renBox, renArr]; rfl) ?_
      refine RunC.fin ?_
      refine AWP.sq ?_
      refine AWP.rgC 108 rfl rfl ?_
      refine pu (v := slV curve_Sample _ _ _ _) rfl rfl (fun _ => rfl) ?_
      refine pu (v := slV curve_Sample _ _ _ _) rfl rfl (fun _ => rfl) ?_
      refine pu (v := .sc _) rfl rfl (fun _ => rfl) ?_
      refine RunC.fin ?_
      refine AWP.ret ?_
      have hR := Option.some.inj hR; subst hR
      exact hQ _ _ (LS.mk [(4, rowV (α := curve_Sample) false r7), (5, .sc (.int .i64 0))] (lblks 0 []) 0) (.tup [rowV (α := curve_Sample) false r7, .sc (.int .i64 0)]) [] (.inr rfl) (Weak.turnL [] [80] rfl rfl (tc (trF' rfl rfl id h8) (tc (.sc _) tn)) mn) (ro2 (rvT (v := rowV (α := curve_Sample) false r7) rfl) (rvT (v := .sc (.int .i64 0)) rfl)) rfl rfl (.tup (.cons ldR' (.cons (.sc _) .nil))) pn
theorem ok47_57 (data : List curve_Sample) (a : Int) (b : Int) (r : (List curve_Sample)) (hR : slices_insertionSortCmpFunc_curve_Sample_spykeep4_samples_1 data a b = some r) : FnD Try.prog 47 [arrB 53 0 false data] [slV curve_Sample 0 0 0 data.length, .sc (.int .i64 a), .sc (.int .i64 b), .fn (.func 18) []] (.tup []) [arrB 53 0 false r] := by
  refine FnX.walk Try.func47 rfl 53 1 (by simp [Try.ntmps47]) rfl fun W S F Q hQ => ?_
  unfold slices_insertionSortCmpFunc_curve_Sample_spykeep4_samples_1 at hR
  refine AWP.sq ?_
  refine AWP.rgC 13 rfl rfl ?_
  refine pu (v := .sc _) rfl rfl (fun _ => rfl) ?_
  refine pu (v := .sc _) rfl rfl (fun _ => rfl) ?_
  refine pu (v := .sc _) rfl rfl (fun _ => rfl) ?_
  refine RunC.fin ?_
  refine AWP.loopJ (fun s1 : (List curve_Sample) × Int => LS.mk [(0, slV curve_Sample 0 0 0 s1.1.length), (1, .sc (.int .i64 a)), (2, .sc (.int .i64 b)), (3, .fn (.func 18) []), (8, .sc (.int .i64 s1.2))] (lblks 0 [arrB (α := curve_Sample) 53 0 false s1.1]) 1) (fun z2 : (List curve_Sample) => LS.mk [] (lblks 0 [arrB (α := curve_Sample) 53 0 false z2]) 1) (slices_insertionSortCmpFunc_curve_Sample_spykeep4_samples_1.l1 a b) hR (s0 := (data, w6 (a + 1))) (Weak.turnL [(0, 0)] [] rfl rfl (tc (trS' rfl rfl rfl rfl rfl) (tc (.sc _) (tc (.sc _) (tc (.fn (.nil)) (tc (.sc _) tn))))) (mc rfl (btrA' rfl) mn)) (fun s1 o1 hR => ?_) fun z2 hR => ?_
  · unfold slices_insertionSortCmpFunc_curve_Sample_spykeep4_samples_1.l1 at hR
    refine AWP.sq ?_
    refine AWP.sq ?_
    refine AWP.rgC 13 rfl rfl ?_
    refine pu (v := .sc _) rfl rfl (fun _ => rfl) ?_
    refine pu (v := .sc _) rfl rfl (fun _ => rfl) ?_
    refine pu (v := .sc _) rfl rfl (fun _ => rfl) ?_
    refine RunC.fin ?_
    refine AWP.cd hR rfl (fun h3 hR => ?_) fun h3 hR => ?_
    · refine AWP.skip ?_
      refine skT ?_
      refine AWP.sq ?_
      refine AWP.block ?_
      refine AWP.sq ?_
      refine AWP.rgC 21 rfl rfl ?_
      refine pu (v := .sc _) rfl rfl (fun _ => rfl) ?_
      refine pu (v := .sc _) rfl rfl (fun _ => rfl) ?_
      refine RunC.fin ?_
      refine AWP.loopJ (fun s4 : (List curve_Sample) × Int => LS.mk [(0, slV curve_Sample 0 0 0 s4.1.length), (1, .sc (.int .i64 a)), (2, .sc (.int .i64 b)), (3, .fn (.func 18) []), (8, .sc (.int .i64 s1.2)), (9, .sc (.int .i64 s4.2))] (lblks 0 [arrB (α := curve_Sample) 53 0 false s4.1]) 1) (fun z5 : (List curve_Sample) => LS.mk [(0, slV curve_Sample 0 0 0 z5.length), (1, .sc (.int .i64 a)), (2, .sc (.int .i64 b)), (3, .fn (.func 18) []), (8, .sc (.int .i64 s1.2))] (lblks 0 [arrB (α := curve_Sample) 53 0 false z5]) 1) (slices_insertionSortCmpFunc_curve_Sample_spykeep4_samples_1.l2 a) hR (s0 := (s1.1, s1.2)) (Weak.turnL [(0, 0)] [] rfl rfl (tc (trS' rfl rfl rfl rfl rfl) (tc (.sc _) (tc (.sc _) (tc (.fn (.nil)) (tc (.sc _) (tc (.sc _) tn)))))) (mc rfl (btrA' rfl) mn)) (fun s4 o4 hR => ?_) fun z5 hR => ?_
      · unfold slices_insertionSortCmpFunc_curve_Sample_spykeep4_samples_1.l2 at hR
        refine AWP.sq ?_
        refine AWP.joinX (fun z6 : Bool => LS.mk [(0, slV curve_Sample 0 0 0 s4.1.length), (1, .sc (.int .i64 a)), (2, .sc (.int .i64 b)), (3, .fn (.func 18) []), (8, .sc (.int .i64 s1.2)), (9, .sc (.int .i64 s4.2)), (34, .sc (.bool z6))] (lblks 0 [arrB (α := curve_Sample) 53 0 false s4.1]) 1) hR (fun o6 hR => ?_) fun z6 hR => ?_
        · refine AWP.rgD 69 [0, 0, 3, 7, 15, 15, 15, 111, 239, 15, 15, 1039, 3599, 7695, 16383, 32767, 65535] ⟨[], [none, none, none, none, none, none, none, none, some [0], none, none, none, none, some [0], none, none, none]⟩ hmix (by kernel_rfl) rfl rfl ?_
          refine pu (v := .sc _) rfl rfl (fun _ => rfl) ?_
          refine pu (v := .sc _) rfl rfl (fun _ => rfl) ?_
          refine pu (v := .sc _) rfl rfl (fun _ => rfl) ?_
          refine pu (v := .sc _) rfl rfl (fun _ => rfl) ?_
          refine brR hR (fun h7 hR => ?_) fun h7 hR => ?_
          · refine pu (v := .fn _ _) (wtG rfl rfl rfl h7) rfl (fun _ => rfl) ?_
            refine pu (v := slV curve_Sample _ _ _ _) (wtG rfl rfl rfl h7) rfl (fun _ => rfl) ?_
            refine pu (v := .sc _) (wtG rfl rfl rfl h7) rfl (fun _ => rfl) ?_
            obtain ⟨h8, hR⟩ := chkE hR
            refine ixS0 (α := curve_Sample) (wtG rfl rfl rfl h7) rfl rfl ti35 rfl ti53 rfl h8 ?_
            refine ldE (α := curve_Sample) (v := .agg _) (wtG rfl rfl rfl h7) rfl rfl (ixlt h8) ti53 rfl rfl rfl rfl ?_
            refine pu (v := slV curve_Sample _ _ _ _) (wtG rfl rfl rfl h7) rfl (fun _ => rfl) ?_
            refine pu (v := .sc _) (wtG rfl rfl rfl h7) rfl (fun _ => rfl) ?_
            refine pu (v := .sc _) (wtG rfl rfl rfl h7) rfl (fun _ => rfl) ?_
            obtain ⟨h9, hR⟩ := chkE hR
            refine ixS0 (α := curve_Sample) (wtG rfl rfl rfl h7) rfl rfl ti35 rfl ti53 rfl h9 ?_
            refine ldE (α := curve_Sample) (v := .agg _) (wtG rfl rfl rfl h7) rfl rfl (ixlt h9) ti53 rfl rfl rfl rfl ?_
            obtain ⟨r10, hr10, hR⟩ := bindE hR
            refine cls [] (wtG rfl rfl rfl h7) rfl cb18 (ok18 (gt s4.1 s4.2) (gt s4.1 (w6 (s4.2 - 1))) _ hr10) (.cons (.agg (.cons (.sc _) (.cons (.sc _) (.cons (.sc _) (.cons (.sc _) (.cons (.sc _) (.cons (.sc _) (.nil))))))) rfl) (.cons (.agg (.cons (.sc _) (.cons (.sc _) (.cons (.sc _) (.cons (.sc _) (.cons (.sc _) (.cons (.sc _) (.nil))))))) rfl) (.nil))) (.inr rfl) rfl ?_
            refine pu (v := .sc _) (wtG rfl rfl rfl h7) rfl (fun _ => rfl) ?_
            refine pkT (v := .sc (.bool (decide (r10 < 0)))) rfl rfl h7 rfl ?_
            refine RunC.fin ?_
            have hR := Option.some.inj hR; subst hR
            exact Weak.turnL [(0, 0)] [] rfl rfl (tc (trS' rfl rfl rfl rfl rfl) (tc (.sc _) (tc (.sc _) (tc (.fn (.nil)) (tc (.sc _) (tc (.sc _) (tc (.sc _) tn))))))) (mc rfl (btrA' rfl) mn)
          · refine sk (skW rfl rfl rfl h7) ?_
            refine sk (skW rfl rfl rfl h7) ?_
            refine sk (skW rfl rfl rfl h7) ?_
            refine sk (skW rfl rfl rfl h7) ?_
            refine sk (skW rfl rfl rfl h7) ?_
            refine sk (skW rfl rfl rfl h7) ?_
            refine sk (skW rfl rfl rfl h7) ?_
            refine sk (skW rfl rfl rfl h7) ?_
            refine sk (skW rfl rfl rfl h7) ?_
            refine sk (skW rfl rfl rfl h7) ?_
            refine sk (skW rfl rfl rfl h7) ?_
            refine sk (skW rfl rfl rfl h7) ?_
            refine pkF (v := .sc (.bool false)) rfl rfl h7 rfl ?_
            refine RunC.fin ?_
            have hR := Option.some.inj hR; subst hR
            exact Weak.turnL [(0, 0)] [] rfl rfl (tc (trS' rfl rfl rfl rfl rfl) (tc (.sc _) (tc (.sc _) (tc (.fn (.nil)) (tc (.sc _) (tc (.sc _) (tc (.sc _) tn))))))) (mc rfl (btrA' rfl) mn)
        · refine AWP.cd hR rfl (fun h11 hR => ?_) fun h11 hR => ?_
          · refine AWP.skip ?_
            refine skT ?_
            refine AWP.sq ?_
            refine AWP.block ?_
            refine AWP.rgD 73 [0, 0, 0, 0, 8, 0, 0, 64, 224, 480, 0, 0, 3072, 7168, 16355, 32739, 65535, 131071] ⟨[], [none, none, none, none, none, none, none, none, none, some [0], none, none, none, some [0], none, some [0], none, some [0]]⟩ hmix (by kernel_rfl) rfl rfl ?_
            refine pu (v := slV curve_Sample _ _ _ _) rfl rfl (fun _ => rfl) ?_
            refine pu (v := .sc _) rfl rfl (fun _ => rfl) ?_
            refine pu (v := slV curve_Sample _ _ _ _) rfl rfl (fun _ => rfl) ?_
            refine pu (v := .sc _) rfl rfl (fun _ => rfl) ?_
            refine pu (v := .sc _) rfl rfl (fun _ => rfl) ?_
            refine pu (v := slV curve_Sample _ _ _ _) rfl rfl (fun _ => rfl) ?_
            refine pu (v := .sc _) rfl rfl (fun _ => rfl) ?_
            refine pu (v := .sc _) rfl rfl (fun _ => rfl) ?_
            obtain ⟨h12, hR⟩ := chkE hR
            refine ixS0 (α := curve_Sample) rfl rfl rfl ti35 rfl ti53 rfl h12 ?_
            refine ldE (α := curve_Sample) (v := .agg _) rfl rfl rfl (ixlt h12) ti53 rfl rfl rfl rfl ?_
            refine pu (v := slV curve_Sample _ _ _ _) rfl rfl (fun _ => rfl) ?_
            refine pu (v := .sc _) rfl rfl (fun _ => rfl) ?_
            obtain ⟨h13, hR⟩ := chkE hR
            refine ixS0 (α := curve_Sample) rfl rfl rfl ti35 rfl ti53 rfl h13 ?_
            refine ldE (α := curve_Sample) (v := .agg _) rfl rfl rfl (ixlt h13) ti53 rfl rfl rfl rfl ?_
            refine ixS0 (α := curve_Sample) rfl rfl rfl ti35 rfl ti53 rfl h13 ?_
            refine stE (α := curve_Sample) (y := (gt s4.1 (w6 (s4.2 - 1)))) rfl rfl rfl (ixlt h13) ti53 rfl rfl rfl rfl rfl ?_
            refine ixS0 (α := curve_Sample) rfl rfl rfl ti35 rfl ti53 rfl h12 ?_
            obtain ⟨v14, ev14, hR⟩ := letE hR
            refine stE (α := curve_Sample) (y := (gt s4.1 s4.2)) rfl rfl rfl (by first | exact ixlt h12 | (simp only [List.length_set]; exact ixlt h12)) ti53 rfl rfl rfl rfl rfl ?_
            rw [ev14]
            refine RunC.blk ?_
            refine RunC.fin ?_
            refine AWP.rgC 85 rfl rfl ?_
            refine pu (v := .sc _) rfl rfl (fun _ => rfl) ?_
            refine pu (v := .sc _) rfl rfl (fun _ => rfl) ?_
            refine pu (v := .sc _) rfl rfl (fun _ => rfl) ?_
            refine RunC.fin ?_
            refine ⟨(v14, w6 (s4.2 - 1)), (Option.some.inj hR).symm, ?_⟩
            exact Weak.turnL [(0, 0)] [] rfl rfl (tc (trS' rfl rfl rfl rfl (by subst ev14; simp only [List.length_set])) (tc (.sc _) (tc (.sc _) (tc (.fn (.nil)) (tc (.sc _) (tc (.sc _) tn)))))) (mc rfl (btrA' rfl) mn)
          · refine AWP.exit ?_
            refine exT ?_
            refine exT ?_
            refine exH (skT ?_)
            refine ⟨s4.1, (Option.some.inj hR).symm, ?_⟩
            exact Weak.turnL [(0, 0)] [] rfl rfl (tc (trS' rfl rfl rfl rfl rfl) (tc (.sc _) (tc (.sc _) (tc (.fn (.nil)) (tc (.sc _) tn))))) (mc rfl (btrA' rfl) mn)
      · refine skB ?_
        refine skT ?_
        refine AWP.rgC 13 rfl rfl ?_
        refine pu (v := .sc _) rfl rfl (fun _ => rfl) ?_
        refine pu (v := .sc _) rfl rfl (fun _ => rfl) ?_
        refine pu (v := .sc _) rfl rfl (fun _ => rfl) ?_
        refine RunC.fin ?_
        refine ⟨(z5, w6 (s1.2 + 1)), (Option.some.inj hR).symm, ?_⟩
        exact Weak.turnL [(0, 0)] [] rfl rfl (tc (trS' rfl rfl rfl rfl rfl) (tc (.sc _) (tc (.sc _) (tc (.fn (.nil)) (tc (.sc _) tn))))) (mc rfl (btrA' rfl) mn)
    · refine AWP.exit ?_
      refine exT ?_
      refine exT ?_
      refine exH (skT ?_)
      refine ⟨s1.1, (Option.some.inj hR).symm, ?_⟩
      exact Weak.turnL [(0, 0)] [] rfl rfl tn (mc rfl (btrA' rfl) mn)
  · have hR := Option.some.inj hR; subst hR
    exact hQ _ _ (LS.mk [] (lblks 0 [arrB (α := curve_Sample) 53 0 false z2]) 1) (.tup []) [] (.inl rfl) (Weak.turnL [(0, 0)] [] rfl rfl tn (mc rfl (btrA' rfl) mn)) (ro0 ) rfl rfl (.tup .nil) (pc rfl bldA pn)
theorem ok33 (data : List curve_Sample) (a : Int) (b : Int) (limit : Int) (r : (List curve_Sample)) (hR : slices_pdqsortCmpFunc_curve_Sample_spykeep4_samples_1 data a b limit = some r) : FnD Try.prog 33 [arrB 53 0 false data] [slV curve_Sample 0 0 0 data.length, .sc (.int .i64 a), .sc (.int .i64 b), .sc (.int .i64 limit), .fn (.func 18) []] (.tup []) [arrB 53 0 false r] := by
  refine FnX.walk Try.func33 rfl 148 1 (by simp [Try.ntmps33]) rfl fun W S F Q hQ => ?_
  unfold slices_pdqsortCmpFunc_curve_Sample_spykeep4_samples_1 at hR
  refine AWP.sq ?_
  refine AWP.rgC 5 rfl rfl ?_
  refine pu (v := .sc _) rfl rfl (fun _ => rfl) ?_
  refine RunC.fin ?_
  refine AWP.sq ?_
  refine AWP.rgC 9 rfl rfl ?_
  refine pu (v := .sc _) rfl rfl (fun _ => rfl) ?_
  refine RunC.fin ?_
  refine AWP.loopK' (fun s1 : Unit => LS.mk [(0, slV curve_Sample 0 0 0 data.length), (1, .sc (.int .i64 a)), (2, .sc (.int .i64 b)), (3, .sc (.int .i64 limit)), (4, .fn (.func 18) []), (10, .sc (.bool true)), (11, .sc (.bool true))] (lblks 0 [arrB (α := curve_Sample) 53 0 false data]) 1) (fun z2 : Unit => LS.mk [] (lblks 0 []) 0) (slices_pdqsortCmpFunc_curve_Sample_spykeep4_samples_1.l1 data a b) hR (s0 := ()) (Weak.turnL [(0, 0)] [] rfl rfl (tc (trS' rfl rfl rfl rfl rfl) (tc (.sc _) (tc (.sc _) (tc (.sc _) (tc (.fn (.nil)) (tc (.sc _) (tc (.sc _) tn))))))) (mc rfl (btrA' rfl) mn)) (fun s1 o1 hR hE1 => ?_) fun z2 hR => ?_
  · unfold slices_pdqsortCmpFunc_curve_Sample_spykeep4_samples_1.l1 at hR
    refine AWP.block ?_
    refine AWP.sq ?_
    refine AWP.rgC 17 rfl rfl ?_
    refine pu (v := .sc _) rfl rfl (fun _ => rfl) ?_
    refine pu (v := .sc _) rfl rfl (fun _ => rfl) ?_
    refine pu (v := .sc _) rfl rfl (fun _ => rfl) ?_
    refine pu (v := .sc _) rfl rfl (fun _ => rfl) ?_
    refine RunC.fin ?_
    refine AWP.sq ?_
    refine AWP.sq ?_
    refine AWP.rgC 25 rfl rfl ?_
    refine pu (v := .sc _) rfl rfl (fun _ => rfl) ?_
    refine pu (v := .sc _) rfl rfl (fun _ => rfl) ?_
    refine RunC.fin ?_
    refine AWP.cd hR rfl (fun h3 hR => ?_) fun h3 hR => ?_
    · refine AWP.sq ?_
      refine AWP.rgC 45 rfl rfl ?_
      refine pu (v := slV curve_Sample _ _ _ _) rfl rfl (fun _ => rfl) ?_
      refine pu (v := .sc _) rfl rfl (fun _ => rfl) ?_
      refine pu (v := .sc _) rfl rfl (fun _ => rfl) ?_
      refine pu (v := .fn _ _) rfl rfl (fun _ => rfl) ?_
      obtain ⟨r4, hr4, hR⟩ := bindE hR
      obtain ⟨h5, hR⟩ := chkE hR
      refine cps (res' := .tup []) (ups := [(0, arrB (α := curve_Sample) 53 0 false r4)]) [0] 41 rfl rfl rfl cb47 (ok47_57 data a b _ hr4) (.cons (ldM rfl rfl) (.cons (.sc _) (.cons (.sc _) (.cons (.fn (.nil)) (.nil))))) (pc rfl bldA pn) rfl rfl rfl rfl rfl (by first | rfl | exact renR | exact renA | exact renS | simp only [V.ren, V.rens, renR, renA, renS] | (simp only [V.ren, V.rens, renR, renA, renS]; rfl)) (by simp only [passUps, renBox, renArr]; rfl) ?_
      refine RunC.fin ?_
      refine AWP.ret ?_
      refine rtT ?_
      refine rtB ?_
      refine rtT ?_
      refine rtB (rtT ?_)
      replace hR := escL hR hE1
      have hR := Option.some.inj hR; subst hR
      exact hQ _ _ (LS.mk [] (lblks 0 [arrB (α := curve_Sample) 53 0 false r4]) 1) (.tup []) [] (.inr rfl) (Weak.turnL [(0, 0)] [] rfl rfl tn (mc rfl (btrA' rfl) mn)) (ro0 ) rfl rfl (.tup .nil) (pc rfl bldA pn)
    · cases hR
  · cases hR
theorem ok17 (x : List curve_Sample) (r : (List curve_Sample)) (hR : slices_SortFunc_curve_Sample_spykeep4_samples_1_short x = some r) : FnD Try.prog 17 [arrB 53 0 false x] [slV curve_Sample 0 0 0 x.length, .fn (.func 18) []] (.tup []) [arrB 53 0 false r] := by
  refine FnX.walk Try.func17 rfl 14 1 (by simp [Try.ntmps17]) rfl fun W S F Q hQ => ?_
  unfold slices_SortFunc_curve_Sample_spykeep4_samples_1_short at hR
  refine AWP.sq ?_
  refine AWP.rgC 13 rfl rfl ?_
  refine pu (v := slV curve_Sample _ _ _ _) rfl rfl (fun _ => rfl) ?_
  refine lenS (α := curve_Sample) rfl rfl ti35 rfl ?_
  refine pu (v := .sc _) rfl rfl (fun _ => rfl) ?_
  refine RunC.fin ?_
  refine AWP.rgC 41 rfl rfl ?_
  refine pu (v := slV curve_Sample _ _ _ _) rfl rfl (fun _ => rfl) ?_
  refine pu (v := .sc _) rfl rfl (fun _ => rfl) ?_
  refine pu (v := .sc _) rfl rfl (fun _ => rfl) ?_
  refine cn rfl rfl ti3 rfl ti84 rfl rfl ?_
  obtain ⟨r1, hr1, hR⟩ := bindE hR
  refine cls [] rfl rfl cb34 (ok34 (IntKind.wrap .u64 (x.length : Int)) _ hr1) (.cons (.sc _) (.nil)) (.inr rfl) rfl ?_
  refine pu (v := .fn _ _) rfl rfl (fun _ => rfl) ?_
  obtain ⟨r2, hr2, hR⟩ := bindE hR
  obtain ⟨h3, hR⟩ := chkE hR
  refine cps (res' := .tup []) (ups := [(0, arrB (α := curve_Sample) 53 0 false r2)]) [0] 37 rfl rfl rfl cb33 (ok33 x 0 (x.length : Int) r1 _ hr2) (.cons (ldM rfl rfl) (.cons (.sc _) (.cons (.sc _) (.cons (.sc _) (.cons (.fn (.nil)) (.nil)))))) (pc rfl bldA pn) rfl rfl rfl rfl rfl (by first | rfl | exact renR | exact renA | exact renS | simp only [V.ren, V.rens, renR, renA, renS] | (simp only [V.ren, V.rens, renR, renA, renS]; rfl)) (by simp only [passUps, renBox, renArr]; rfl) ?_
  refine RunC.nil ?_
  have hR := Option.some.inj hR; subst hR
  exact hQ _ _ (LS.mk [] (lblks 0 [arrB (α := curve_Sample) 53 0 false r2]) 1) (.tup []) [] (.inl rfl) (Weak.turnL [(0, 0)] [] rfl rfl tn (mc rfl (btrA' rfl) mn)) (ro0 ) rfl rfl (.tup .nil) (pc rfl bldA pn)
section
open Go.RowKit Go.Shelf Go.Lib Go.Sort Go.Proofs
def sampWs17 (s : curve_Sample) : List Value := [.int .i64 s.At.Lo, .int .i64 s.At.Hi, .bool s.At.Unknown, .int .i64 s.Light.Lo, .int .i64 s.Light.Hi, .bool s.Light.Unknown]
theorem cmps17 (a b : curve_Sample) (h1 : -4611686018427387904 ≤ a.At.Lo ∧ a.At.Lo ≤ 4611686018427387903) (h2 : -4611686018427387904 ≤ b.At.Lo ∧ b.At.Lo ≤ 4611686018427387903) (h3 : -4611686018427387904 ≤ a.At.Hi ∧ a.At.Hi ≤ 4611686018427387903) (h4 : -4611686018427387904 ≤ b.At.Hi ∧ b.At.Hi ≤ 4611686018427387903) (W : World) :
    Calls Try.prog 18 #[.agg (sampWs17 a).toArray, .agg (sampWs17 b).toArray] W fun e w' => e = .returned (.int .i64 (cmpS a b)) ∧ ∃ q os', w' = grow (W.drewN q) os' := by
  obtain ⟨⟨al, ah, au⟩, ⟨al2, ah2, au2⟩⟩ := a
  obtain ⟨⟨bl, bh, bu⟩, ⟨bl2, bh2, bu2⟩⟩ := b
  simp only [] at h1 h2 h3 h4
  unfold sampWs17 cmpS
  simp only []
  by_cases h : al = bl
  · rw [if_neg (fun q => q h)]
    go_enter Try.func18, Try.ntmps18
    go_wp2
    go_ret
    exact ⟨rfl, 0, _, by rw [alloc_eq_grow, alloc_eq_grow, grow_grow]; rfl⟩
  · rw [if_pos h]
    go_enter Try.func18, Try.ntmps18
    go_wp2
    go_ret
    exact ⟨rfl, 0, _, by rw [alloc_eq_grow, alloc_eq_grow, grow_grow]; rfl⟩
def sortLs17_ren : Go.Shelf.Ren := ⟨fun | 6 => 17 | 15 => 34 | 14 => 33 | 28 => 55 | 29 => 56 | 20 => 47 | 21 => 48 | 22 => 49 | 23 => 50 | 24 => 51 | 25 => 52 | 26 => 53 | 27 => 54 | 46 => 63 | 47 => 64 | 48 => 65 | 49 => 66 | 50 => 67 | 57 => 73 | n => n, fun | 22 => 35 | 24 => 53 | 25 => 67 | 3 => 3 | 39 => 84 | 0 => 0 | 53 => 104 | 55 => 106 | 4 => 4 | 46 => 98 | 45 => 97 | 50 => 70 | 5 => 5 | 9 => 9 | 66 => 113 | 70 => 117 | 76 => 124 | 77 => 125 | n => n, fun | n => n⟩
theorem sortLs17 : Go.Proofs.SlLaysF0.n6 Try.prog sortLs17_ren := {
  mixed := by kernel_rfl,
  f6 := ⟨Try.f17.name, by decide, Try.func17.trans (congrArg some (by kernel_rfl))⟩,
  f14 := ⟨Try.f33.name, by decide, Try.func33.trans (congrArg some (by kernel_rfl))⟩,
  f15 := Try.func34.trans (congrArg some (by kernel_rfl)),
  f20 := ⟨Try.f47.name, by decide, Try.func47.trans (congrArg some (by kernel_rfl))⟩,
  f21 := ⟨Try.f48.name, by decide, Try.func48.trans (congrArg some (by kernel_rfl))⟩,
  f22 := ⟨Try.f49.name, by decide, Try.func49.trans (congrArg some (by kernel_rfl))⟩,
  f23 := ⟨Try.f50.name, by decide, Try.func50.trans (congrArg some (by kernel_rfl))⟩,
  f24 := ⟨Try.f51.name, by decide, Try.func51.trans (congrArg some (by kernel_rfl))⟩,
  f25 := ⟨Try.f52.name, by decide, Try.func52.trans (congrArg some (by kernel_rfl))⟩,
  f26 := ⟨Try.f53.name, by decide, Try.func53.trans (congrArg some (by kernel_rfl))⟩,
  f27 := ⟨Try.f54.name, by decide, Try.func54.trans (congrArg some (by kernel_rfl))⟩,
  f28 := Try.func55.trans (congrArg some (by kernel_rfl)),
  f29 := Try.func56.trans (congrArg some (by kernel_rfl)),
  f46 := ⟨Try.f63.name, by decide, Try.func63.trans (congrArg some (by kernel_rfl))⟩,
  f47 := Try.func64.trans (congrArg some (by kernel_rfl)),
  f48 := Try.func65.trans (congrArg some (by kernel_rfl)),
  f49 := ⟨Try.f66.name, by decide, Try.func66.trans (congrArg some (by kernel_rfl))⟩,
  f50 := ⟨Try.f67.name, by decide, Try.func67.trans (congrArg some (by kernel_rfl))⟩,
  f57 := ⟨Try.f73.name, by decide, Try.func73.trans (congrArg some (by kernel_rfl))⟩,
  t0 := Try.underlying0,
  a0 := Try.isAgg0,
  z0 := Try.sizeOf0,
  v0 := Try.zeroValue0,
  t3 := Try.underlying3,
  a3 := Try.isAgg3,
  z3 := Try.sizeOf3,
  v3 := Try.zeroValue3,
  t4 := Try.underlying4,
  a4 := Try.isAgg4,
  z4 := Try.sizeOf4,
  v4 := Try.zeroValue4,
  t5 := Try.underlying5,
  a5 := Try.isAgg5,
  z5 := Try.sizeOf5,
  v5 := Try.zeroValue5,
  t9 := Try.underlying9,
  a9 := Try.isAgg9,
  z9 := Try.sizeOf9,
  v9 := Try.zeroValue9,
  t22 := Try.underlying35,
  a22 := Try.isAgg35,
  z22 := Try.sizeOf35,
  v22 := Try.zeroValue35,
  t25 := Try.underlying67,
  a25 := Try.isAgg67,
  z25 := Try.sizeOf67,
  v25 := Try.zeroValue67,
  t39 := Try.underlying84,
  a39 := Try.isAgg84,
  z39 := Try.sizeOf84,
  v39 := Try.zeroValue84,
  t45 := Try.underlying97,
  a45 := Try.isAgg97,
  z45 := Try.sizeOf97,
  v45 := Try.zeroValue97,
  t46 := Try.underlying98,
  a46 := Try.isAgg98,
  z46 := Try.sizeOf98,
  v46 := Try.zeroValue98,
  t50 := Try.underlying70,
  a50 := Try.isAgg70,
  z50 := Try.sizeOf70,
  v50 := Try.zeroValue70,
  t53 := Try.underlying104,
  a53 := Try.isAgg104,
  z53 := Try.sizeOf104,
  v53 := Try.zeroValue104,
  t55 := Try.underlying106,
  a55 := Try.isAgg106,
  z55 := Try.sizeOf106,
  v55 := Try.zeroValue106,
  t66 := Try.underlying113,
  a66 := Try.isAgg113,
  z66 := Try.sizeOf113,
  v66 := Try.zeroValue113,
  t70 := Try.underlying117,
  a70 := Try.isAgg117,
  z70 := Try.sizeOf117,
  v70 := Try.zeroValue117,
  t76 := Try.underlying124,
  a76 := Try.isAgg124,
  z76 := Try.sizeOf124,
  v76 := Try.zeroValue124,
  t77 := Try.underlying125,
  a77 := Try.isAgg125,
  z77 := Try.sizeOf125,
  v77 := Try.zeroValue125 }
theorem isAggs17 (w : World) : (isAgg 53).run Try.prog w = .ok true w := Go.Abs.run_isAgg ti53
theorem sizeOfs17 (w : World) : (Go.sizeOf 53).run Try.prog w = .ok 6 w := Go.Abs.run_sizeOf ti53
theorem swos17 : SWO (ltOf cmpB) where
  irrefl a := by unfold ltOf cmpB cmpS; simp
  trans a b c h1 h2 := by
    unfold ltOf cmpB cmpS at *
    simp only [decide_eq_true_eq] at *
    split at h1 <;> split at h2 <;> split <;> omega
  ntrans a b c h1 h2 := by
    unfold ltOf cmpB cmpS at *
    simp only [decide_eq_false_iff_not] at *
    split at h1 <;> split at h2 <;> split <;> omega
theorem toBmaps17 : ∀ (l : List curve_Sample), (∀ s ∈ l, bndS s) → (toB l).map (·.1) = l
  | [], _ => rfl
  | s :: l, h => by
    have hs := h s List.mem_cons_self
    unfold toB
    rw [List.filterMap_cons, dif_pos hs]
    show s :: (toB l).map (·.1) = s :: l
    rw [toBmaps17 l fun a ha => h a (List.mem_cons_of_mem _ ha)]
theorem okAny17 (x : List curve_Sample) (r : List curve_Sample) (hR : slices_SortFunc_curve_Sample_spykeep4_samples_1 x = some r) : FnD Try.prog 17 [arrB 53 0 false x] [slV curve_Sample 0 0 0 x.length, .fn (.func 18) []] (.tup []) [arrB 53 0 false r] := by
  unfold slices_SortFunc_curve_Sample_spykeep4_samples_1 at hR
  split at hR
  · exact ok17 x r hR
  · rename_i hlen
    split at hR
    · rename_i h
      obtain ⟨hb, hn⟩ := h
      cases hR
      have hm := toBmaps17 x hb
      have hsz : (toB x).toArray.size = x.length := by
        have := congrArg List.length hm
        simpa using this
      have eg : ∀ args w, (callFunc 18 args).run Try.prog w = .ok (.enter 18 args) w := enters_of Try.func18 (by kernel_rfl) rfl
      have hp := pdq_sorts (ltOf cmpB) swos17 (toB x).toArray 0 (toB x).toArray.size (Lib.bitLen (toB x).toArray.size) true true (Nat.zero_le _) (Nat.le_refl _) (Or.inl rfl)
      refine fnD_order (α := SmB) (·.1) sampWs17 (fun nw s => rfl) (fun s v hv => by unfold sampWs17 at hv; simp at hv; rcases hv with rfl | rfl | rfl | rfl | rfl | rfl <;> rfl) (toB x).toArray (pdq (ltOf cmpB) (toB x).toArray 0 (toB x).toArray.size (Lib.bitLen (toB x).toArray.size) true true) hp.1.1 (by omega) (fun B cap w hH hB => ?_) false x (by simp [hm])
      have hcon := AnyQ.slices_SortFunc_eq sortLs17 6 isAggs17 sizeOfs17 (fun s : SmB => sampWs17 s.1) (fun _ => rfl) (fun s v hv => by unfold sampWs17 at hv; simp at hv; rcases hv with rfl | rfl | rfl | rfl | rfl | rfl <;> rfl) cmpB swos17 18 #[] B 0 cap (toB x).toArray w eg (fun m os dk hs a b => cmps17 a.1 b.1 a.2.1 b.2.1 a.2.2 b.2.2 _) hH hB (by omega)
      exact hcon
    · cases hR
end

theorem ok6 (s : spymake_Stream) (x : Star) (n : Int) (r : (List curve_Sample) × Bool × spymake_Stream) (hR : spykeep4_samples s x n = some r) : FnD Try.prog 6 [boxB false s] [.ptr 0 0 0, aggV false x, .sc (.int .i64 n)] (.tup [rowV (α := curve_Sample) false r.1, .sc (.bool r.2.1)]) [boxB false r.2.2] := by
  refine FnX.walk Try.func6 rfl 75 1 (by simp [Try.ntmps6]) rfl fun W S F Q hQ => ?_
  unfold spykeep4_samples at hR
  refine AWP.sq ?_
  refine AWP.rgC 13 rfl rfl ?_
  refine bx (cs := _) 1 rfl rfl rfl ?_
  refine pu (v := .sc _) rfl rfl (fun _ => rfl) ?_
  refine pu (v := .sc _) rfl rfl (fun _ => rfl) ?_
  refine RunC.fin ?_
  refine AWP.sq ?_
  refine AWP.rgC 33 rfl rfl ?_
  refine ldB (v := .agg _) rfl rfl rfl rfl ti34 rfl rfl ?_
  refine bs (α := Star) 17 false ([x] : List Star) rfl rfl ti57 rfl ti34 rfl rfl rfl rfl rfl ?_
  refine bu (cs := [.sc (.int .i64 0), slV Star 17 0 0 ([x] : List Star).length, .sc (.slice none 0 0), .sc (.slice none 0 0), .sc (.int .i64 0), .sc (.int .i64 0), .sc (.int .i64 0), .sc (.int .i64 0), .sc (.int .i64 0), .sc (.int .i64 0), .sc (.int .i64 0), .sc (.int .i64 0)]) rfl bt63 rfl ?_
  refine al (cs := [.sc (.int .i64 0), .sc (.slice none 0 0), .sc (.slice none 0 0), .sc (.slice none 0 0), .sc (.int .i64 0), .sc (.int .i64 0), .sc (.int .i64 0), .sc (.int .i64 0), .sc (.int .i64 0), .sc (.int .i64 0), .sc (.int .i64 0), .sc (.int .i64 0)]) 25 rfl rfl ti63 rfl rfl ?_
  refine stB (cs' := [.sc (.int .i64 0), slV Star 17 0 0 ([x] : List Star).length, .sc (.slice none 0 0), .sc (.slice none 0 0), .sc (.int .i64 0), .sc (.int .i64 0), .sc (.int .i64 0), .sc (.int .i64 0), .sc (.int .i64 0), .sc (.int .i64 0), .sc (.int .i64 0), .sc (.int .i64 0)]) rfl rfl rfl rfl ti63 rfl rfl rfl rfl rfl ?_
  refine RunC.fin ?_
  refine AWP.sq ?_
  refine AWP.rgC 37 rfl rfl ?_
  refine pu (v := .sc _) rfl rfl (fun _ => rfl) ?_
  refine RunC.fin ?_
  refine AWP.sq ?_
  refine AWP.rgC 49 rfl rfl ?_
  refine pu (v := .ptr _ _ _) rfl rfl (fun _ => rfl) ?_
  obtain ⟨r1, hr1, hR⟩ := bindE hR
  refine cps (res' := .sc (.int .i64 r1.1)) (ups := [(0, boxB (α := spymake_Stream) false r1.2)]) [0] 41 rfl rfl rfl cb14 (ok14 s (-5000) 5000 _ hr1) (.cons (ldP rfl rfl) (.cons (.sc _) (.cons (.sc _) (.nil)))) (pc rfl (.box (.cons ldR' (.cons (.sc _) (.nil))) rfl) pn) rfl rfl rfl rfl rfl (by first | rfl | exact renR | exact renA | exact renS | simp only [V.ren, V.rens, renR, renA, renS] | (simp only [V.ren, V.rens, renR, renA, renS]; rfl)) (by simp only [passUps, renBox, renArr]; rfl) ?_
  refine pu (v := .sc _) rfl rfl (fun _ => rfl) ?_
  refine RunC.fin ?_
  refine AWP.sq ?_
  refine AWP.sq ?_
  refine AWP.rgC 69 rfl rfl ?_
  refine pu (v := .ptr _ _ _) rfl rfl (fun _ => rfl) ?_
  refine pu (v := .sc _) rfl rfl (fun _ => rfl) ?_
  refine pu (v := .sc _) rfl rfl (fun _ => rfl) ?_
  obtain ⟨r2, hr2, hR⟩ := bindE hR
  refine cps (res' := .sc (.int .i64 r2.1)) (ups := [(0, boxB (α := spymake_Stream) false r2.2)]) [0] 61 rfl rfl rfl cb5 (ok5 r1.2 (w6 (n + 1)) _ hr2) (.cons (ldP rfl rfl) (.cons (.sc _) (.nil))) (pc rfl (.box (.cons ldR' (.cons (.sc _) (.nil))) rfl) pn) rfl rfl rfl rfl rfl (by first | rfl | exact renR | exact renA | exact renS | simp only [V.ren, V.rens, renR, renA, renS] | (simp only [V.ren, V.rens, renR, renA, renS]; rfl)) (by simp only [passUps, renBox, renArr]; rfl) ?_
  refine pu (v := .sc _) rfl rfl (fun _ => rfl) ?_
  refine RunC.fin ?_
  refine AWP.nilT curve_Sample 9 53 rfl ?_
  refine AWP.loopK' (fun s3 : spymake_Stream × (List curve_Sample) × Int × Int => LS.mk [(0, .ptr 0 0 0), (4, .ptr 1 0 0), (8, .ptr 2 0 0), (9, slV curve_Sample 4 0 0 s3.2.1.length), (10, .sc (.int .i64 s3.2.2.1)), (23, .sc (.int .i64 r2.1)), (24, .sc (.int .i64 s3.2.2.2))] (lblks 0 [boxB (α := spymake_Stream) false s3.1, boxB (α := Star) false x, .box [.sc (.int .i64 0), slV Star 3 0 0 ([x] : List Star).length, .sc (.slice none 0 0), .sc (.slice none 0 0), .sc (.int .i64 0), .sc (.int .i64 0), .sc (.int .i64 0), .sc (.int .i64 0), .sc (.int .i64 0), .sc (.int .i64 0), .sc (.int .i64 0), .sc (.int .i64 0)], arrB (α := Star) 34 0 false ([x] : List Star), arrB (α := curve_Sample) 53 0 true s3.2.1]) 5) (fun z4 : spymake_Stream × (List curve_Sample) => LS.mk [(9, slV curve_Sample 1 0 0 z4.2.length)] (lblks 0 [boxB (α := spymake_Stream) false z4.1, arrB (α := curve_Sample) 53 0 true z4.2]) 2) (spykeep4_samples.l1 x r2) hR (s0 := (r2.2, ([] : List curve_Sample), r1.1, 0)) (Weak.turnL [(0, 0), (1, 0), (25, 0), (17, 0), (69, 0)] [] rfl rfl (tc (trP' rfl rfl rfl rfl) (tc (trP' rfl rfl rfl rfl) (tc (trP' rfl rfl rfl rfl) (tc (trS' rfl rfl rfl rfl rfl) (tc (.sc _) (tc (.sc _) (tc (.sc _) tn))))))) (mc rfl (.box rfl (.cons trR1 (.cons (.sc _) (.nil))) rfl) (mc rfl (.box rfl (.cons (.sc _) (.cons (.sc _) (.cons (.sc _) (.cons (.sc _) (.cons (.sc _) (.cons trR1 (.cons (.sc _) (.cons (.sc _) (.cons (.sc _) (.nil)))))))))) rfl) (mc rfl (.box rfl (.cons (.sc _) (.cons (trS' rfl rfl rfl rfl rfl) (.cons (.sc _) (.cons (.sc _) (.cons (.sc _) (.cons (.sc _) (.cons (.sc _) (.cons (.sc _) (.cons (.sc _) (.cons (.sc _) (.cons (.sc _) (.cons (.sc _) (.nil))))))))))))) rfl) (mc rfl (btrA' rfl) (mc rfl (btrA' rfl) mn)))))) (fun s3 o3 hR hE3 => ?_) fun z4 hR => ?_
  · unfold spykeep4_samples.l1 at hR
    refine AWP.sq ?_
    refine AWP.rgC 9 rfl rfl ?_
    refine pu (v := .sc _) rfl rfl (fun _ => rfl) ?_
    refine RunC.fin ?_
    refine AWP.sq ?_
    refine AWP.cd hR rfl (fun h5 hR => ?_) fun h5 hR => ?_
    · refine AWP.skip ?_
      refine skT ?_
      refine AWP.sq ?_
      refine AWP.block ?_
      refine AWP.sq ?_
      refine AWP.rgC 29 rfl rfl ?_
      refine pu (v := .sc _) rfl rfl (fun _ => rfl) ?_
      refine pu (v := .ptr _ _ _) rfl rfl (fun _ => rfl) ?_
      obtain ⟨r6, hr6, hR⟩ := bindE hR
      refine cps (res' := .sc (.int .i64 r6.1)) (ups := [(0, boxB (α := spymake_Stream) false r6.2)]) [0] 17 rfl rfl rfl cb5 (ok5 s3.1 900 _ hr6) (.cons (ldP rfl rfl) (.cons (.sc _) (.nil))) (pc rfl (.box (.cons ldR' (.cons (.sc _) (.nil))) rfl) pn) rfl rfl rfl rfl rfl (by first | rfl | exact renR | exact renA | exact renS | simp only [V.ren, V.rens, renR, renA, renS] | (simp only [V.ren, V.rens, renR, renA, renS]; rfl)) (by simp only [passUps, renBox, renArr]; rfl) ?_
      refine pu (v := .sc _) rfl rfl (fun _ => rfl) ?_
      refine pu (v := .sc _) rfl rfl (fun _ => rfl) ?_
      refine RunC.fin ?_
      refine AWP.sq ?_
      refine AWP.rgC 69 rfl rfl ?_
      refine ldB (v := .agg _) rfl rfl rfl rfl ti63 rfl rfl ?_
      refine fa rfl rfl ti34 rfl rfl ti3 rfl ?_
      refine ldB (v := .sc _) rfl rfl rfl rfl ti3 rfl rfl ?_
      refine pu (v := .sc _) rfl rfl (fun _ => rfl) ?_
      obtain ⟨r7, hr7, hR⟩ := bindE hR
      refine cls [3] rfl rfl cb16 (ok16 (Sky.mk 0 ([x] : List Star) [] [] (Body.mk 0 (Vec.mk 0 0 0) (Vec.mk 0 0 0) 0)) x.ID (w6 (s3.2.2.1 + r6.1)) _ hr7) (.cons (.agg (.cons (.sc _) (.cons (ldS' rfl rfl rfl rfl) (.cons .nil (.cons .nil (.cons (.sc _) (.cons (.sc _) (.cons (.sc _) (.cons (.sc _) (.cons (.sc _) (.cons (.sc _) (.cons (.sc _) (.cons (.sc _) (.nil))))))))))))) rfl) (.cons (.sc _) (.cons (.sc _) (.nil)))) (.inl (by first | rfl | exact freshR | exact freshA | (simp only [V.fresh, V.freshs, freshR, freshA, Bool.and_self]))) rfl ?_
      refine pu (v := .tup _) rfl rfl (fun _ => rfl) ?_
      refine pu (v := .sc _) rfl rfl (fun _ => rfl) ?_
      refine pu (v := .sc _) rfl rfl (fun _ => rfl) ?_
      refine pu (v := .sc _) rfl rfl (fun _ => rfl) ?_
      refine pu (v := .sc _) rfl rfl (fun _ => rfl) ?_
      refine RunC.fin ?_
      refine AWP.sq ?_
      refine AWP.sq ?_
      refine AWP.rgC 77 rfl rfl ?_
      refine pu (v := .sc _) rfl rfl (fun _ => rfl) ?_
      refine pu (v := .sc _) rfl rfl (fun _ => rfl) ?_
      refine RunC.fin ?_
      refine AWP.cd hR rfl (fun h8 hR => ?_) fun h8 hR => ?_
      · refine AWP.sq ?_
        refine AWP.rgC 85 rfl rfl ?_
        refine pu (v := .sc _) rfl rfl (fun _ => rfl) ?_
        refine pu (v := .sc _) rfl rfl (fun _ => rfl) ?_
        refine RunC.fin ?_
        refine AWP.ret ?_
        refine rtT ?_
        refine rtB ?_
        refine rtT ?_
        refine rtT ?_
        refine rtB (rtT ?_)
        replace hR := escL hR hE3
        refine rtT ?_
        have hR := Option.some.inj hR; subst hR
        exact hQ _ _ (LS.mk [(6, rowV (α := curve_Sample) false []), (7, .sc (.bool false))] (lblks 0 [boxB (α := spymake_Stream) false r6.2]) 1) (.tup [rowV (α := curve_Sample) false [], .sc (.bool false)]) [] (.inr rfl) (Weak.turnL [(0, 0)] [] rfl rfl (tc trN (tc (.sc _) tn)) (mc rfl (.box rfl (.cons trR1 (.cons (.sc _) (.nil))) rfl) mn)) (ro2 (rvT (v := rowV (α := curve_Sample) false []) rfl) (rvT (v := .sc (.bool false)) rfl)) rfl rfl (.tup (.cons ldR' (.cons (.sc _) .nil))) (pc rfl bldB pn)
      · refine AWP.skip ?_
        refine skT ?_
        refine AWP.sq ?_
        refine AWP.rgC 101 rfl rfl ?_
        refine pu (v := .ptr _ _ _) rfl rfl (fun _ => rfl) ?_
        obtain ⟨r9, hr9, hR⟩ := bindE hR
        refine cps (res' := .sc (.int .i64 r9.1)) (ups := [(0, boxB (α := spymake_Stream) false r9.2)]) [0] 81 rfl rfl rfl cb5 (ok5 r6.2 2 _ hr9) (.cons (ldP rfl rfl) (.cons (.sc _) (.nil))) (pc rfl (.box (.cons ldR' (.cons (.sc _) (.nil))) rfl) pn) rfl rfl rfl rfl rfl (by first | rfl | exact renR | exact renA | exact renS | simp only [V.ren, V.rens, renR, renA, renS] | (simp only [V.ren, V.rens, renR, renA, renS]; rfl)) (by simp only [passUps, renBox, renArr]; rfl) ?_
        refine pu (v := .ptr _ _ _) rfl rfl (fun _ => rfl) ?_
        obtain ⟨r10, hr10, hR⟩ := bindE hR
        refine cps (res' := .sc (.int .i64 r10.1)) (ups := [(0, boxB (α := spymake_Stream) false r10.2)]) [0] 89 rfl rfl rfl cb5 (ok5 r9.2 40 _ hr10) (.cons (ldP rfl rfl) (.cons (.sc _) (.nil))) (pc rfl (.box (.cons ldR' (.cons (.sc _) (.nil))) rfl) pn) rfl rfl rfl rfl rfl (by first | rfl | exact renR | exact renA | exact renS | simp only [V.ren, V.rens, renR, renA, renS] | (simp only [V.ren, V.rens, renR, renA, renS]; rfl)) (by simp only [passUps, renBox, renArr]; rfl) ?_
        refine pu (v := .sc _) rfl rfl (fun _ => rfl) ?_
        refine pu (v := .sc _) rfl rfl (fun _ => rfl) ?_
        refine RunC.fin ?_
        refine AWP.sq ?_
        refine AWP.rgC 145 rfl rfl ?_
        refine pu (v := .sc _) rfl rfl (fun _ => rfl) ?_
        refine pu (v := .ptr _ _ _) rfl rfl (fun _ => rfl) ?_
        obtain ⟨r11, hr11, hR⟩ := bindE hR
        refine cps (res' := .sc (.int .i64 r11.1)) (ups := [(0, boxB (α := spymake_Stream) false r11.2)]) [0] 109 rfl rfl rfl cb5 (ok5 r10.2 30 _ hr11) (.cons (ldP rfl rfl) (.cons (.sc _) (.nil))) (pc rfl (.box (.cons ldR' (.cons (.sc _) (.nil))) rfl) pn) rfl rfl rfl rfl rfl (by first | rfl | exact renR | exact renA | exact renS | simp only [V.ren, V.rens, renR, renA, renS] | (simp only [V.ren, V.rens, renR, renA, renS]; rfl)) (by simp only [passUps, renBox, renArr]; rfl) ?_
        refine pu (v := .sc _) rfl rfl (fun _ => rfl) ?_
        refine pu (v := .sc _) rfl rfl (fun _ => rfl) ?_
        refine pu (v := .ptr _ _ _) rfl rfl (fun _ => rfl) ?_
        obtain ⟨r12, hr12, hR⟩ := bindE hR
        refine cps (res' := .sc (.int .i64 r12.1)) (ups := [(0, boxB (α := spymake_Stream) false r12.2)]) [0] 125 rfl rfl rfl cb5 (ok5 r11.2 30 _ hr12) (.cons (ldP rfl rfl) (.cons (.sc _) (.nil))) (pc rfl (.box (.cons ldR' (.cons (.sc _) (.nil))) rfl) pn) rfl rfl rfl rfl rfl (by first | rfl | exact renR | exact renA | exact renS | simp only [V.ren, V.rens, renR, renA, renS] | (simp only [V.ren, V.rens, renR, renA, renS]; rfl)) (by simp only [passUps, renBox, renArr]; rfl) ?_
        refine pu (v := .sc _) rfl rfl (fun _ => rfl) ?_
        refine bu (cs := [.sc (.int .i64 (w6 (r7.1 - r11.1))), .sc (.int .i64 (w6 (r7.1 + r12.1))), .sc (.bool false)]) rfl bt44 rfl ?_
        refine al (cs := [.sc (.int .i64 0), .sc (.int .i64 0), .sc (.bool false)]) 137 rfl rfl ti44 rfl rfl ?_
        refine stB (cs' := [.sc (.int .i64 (w6 (r7.1 - r11.1))), .sc (.int .i64 (w6 (r7.1 + r12.1))), .sc (.bool false)]) rfl rfl rfl rfl ti44 rfl rfl rfl rfl rfl ?_
        refine RunC.fin ?_
        refine AWP.sq ?_
        refine AWP.sq ?_
        refine AWP.rgC 157 rfl rfl ?_
        refine pu (v := .ptr _ _ _) rfl rfl (fun _ => rfl) ?_
        obtain ⟨r13, hr13, hR⟩ := bindE hR
        refine cps (res' := .sc (.int .i64 r13.1)) (ups := [(0, boxB (α := spymake_Stream) false r13.2)]) [0] 149 rfl rfl rfl cb5 (ok5 r12.2 12 _ hr13) (.cons (ldP rfl rfl) (.cons (.sc _) (.nil))) (pc rfl (.box (.cons ldR' (.cons (.sc _) (.nil))) rfl) pn) rfl rfl rfl rfl rfl (by first | rfl | exact renR | exact renA | exact renS | simp only [V.ren, V.rens, renR, renA, renS] | (simp only [V.ren, V.rens, renR, renA, renS]; rfl)) (by simp only [passUps, renBox, renArr]; rfl) ?_
        refine pu (v := .sc _) rfl rfl (fun _ => rfl) ?_
        refine RunC.fin ?_
        refine AWP.cd hR rfl (fun h14 hR => ?_) fun h14 hR => ?_
        · refine AWP.rgC 165 rfl rfl ?_
          refine bu (cs := [.sc (.int .i64 0), .sc (.int .i64 0), .sc (.bool true)]) rfl bt44 rfl ?_
          refine stB (cs' := [.sc (.int .i64 0), .sc (.int .i64 0), .sc (.bool true)]) rfl rfl rfl rfl ti44 rfl rfl rfl rfl rfl ?_
          refine RunC.fin ?_
          refine AWP.rgC 221 rfl rfl ?_
          refine pu (v := slV curve_Sample _ _ _ _) rfl rfl (fun _ => rfl) ?_
          refine pu (v := .sc _) rfl rfl (fun _ => rfl) ?_
          refine pu (v := .sc _) rfl rfl (fun _ => rfl) ?_
          refine pu (v := .sc _) rfl rfl (fun _ => rfl) ?_
          refine pu (v := .sc _) rfl rfl (fun _ => rfl) ?_
          refine pu (v := .sc _) rfl rfl (fun _ => rfl) ?_
          refine qu rfl rfl rfl (by decide) rfl ?_
          obtain ⟨v15, ev15, hR⟩ := letE hR
          refine pu (v := .sc _) rfl rfl (fun _ => puI ev15) ?_
          refine bu (cs := [.sc (.int .i64 (w6 ((w6 (s3.2.2.1 + r6.1)) - (w6 (r9.1 * r10.1))))), .sc (.int .i64 v15), .sc (.bool false)]) rfl bt51 rfl ?_
          refine ldB (v := .agg _) rfl rfl rfl rfl ti44 rfl rfl ?_
          refine bu (cs := [.sc (.int .i64 (w6 ((w6 (s3.2.2.1 + r6.1)) - (w6 (r9.1 * r10.1))))), .sc (.int .i64 v15), .sc (.bool false), .sc (.int .i64 0), .sc (.int .i64 0), .sc (.bool true)]) rfl bt53 rfl ?_
          refine bs (α := curve_Sample) 209 true ([curve_Sample.mk (Bound.mk (w6 ((w6 (s3.2.2.1 + r6.1)) - (w6 (r9.1 * r10.1)))) v15 false) (Bound.mk 0 0 true)] : List curve_Sample) rfl rfl ti35 rfl ti53 rfl rfl rfl rfl rfl ?_
          obtain ⟨h16, hR⟩ := chkE hR
          refine ap' (α := curve_Sample) (nw := true) (xs := s3.2.1) (ys := ([curve_Sample.mk (Bound.mk (w6 ((w6 (s3.2.2.1 + r6.1)) - (w6 (r9.1 * r10.1)))) v15 false) (Bound.mk 0 0 true)] : List curve_Sample)) rfl rfl rfl rfl (srcS' rfl rfl rfl) ti35 rfl ti53 rfl h16 rfl ?_
          refine pu (v := slV curve_Sample _ _ _ _) rfl rfl (fun _ => rfl) ?_
          refine RunC.blk ?_
          refine RunC.fin ?_
          refine AWP.rgC 229 rfl rfl ?_
          refine pu (v := .sc _) rfl rfl (fun _ => rfl) ?_
          refine pu (v := .sc _) rfl rfl (fun _ => rfl) ?_
          refine RunC.fin ?_
          refine ⟨(r13.2, s3.2.1 ++ ([curve_Sample.mk (Bound.mk (w6 ((w6 (s3.2.2.1 + r6.1)) - (w6 (r9.1 * r10.1)))) v15 false) (Bound.mk 0 0 true)] : List curve_Sample), w6 (s3.2.2.1 + r6.1), w6 (s3.2.2.2 + 1)), (Option.some.inj hR).symm, ?_⟩
          exact Weak.turnL [(0, 0), (1, 0), (2, 0), (3, 0), (4, 0)] [] rfl rfl (tc (trP' rfl rfl rfl rfl) (tc (trP' rfl rfl rfl rfl) (tc (trP' rfl rfl rfl rfl) (tc (trS' rfl rfl rfl rfl rfl) (tc (.sc _) (tc (.sc _) (tc (.sc _) tn))))))) (mc rfl (.box rfl (.cons trR1 (.cons (.sc _) (.nil))) rfl) (mc rfl (.box rfl (.cons (.sc _) (.cons (.sc _) (.cons (.sc _) (.cons (.sc _) (.cons (.sc _) (.cons trR1 (.cons (.sc _) (.cons (.sc _) (.cons (.sc _) (.nil)))))))))) rfl) (mc rfl (.box rfl (.cons (.sc _) (.cons (trS' rfl rfl rfl rfl rfl) (.cons (.sc _) (.cons (.sc _) (.cons (.sc _) (.cons (.sc _) (.cons (.sc _) (.cons (.sc _) (.cons (.sc _) (.cons (.sc _) (.cons (.sc _) (.cons (.sc _) (.nil))))))))))))) rfl) (mc rfl (btrA' rfl) (mc rfl (btrA' rfl) mn)))))
        · refine AWP.skip ?_
          refine skT ?_
          refine AWP.rgC 213 rfl rfl ?_
          refine pu (v := slV curve_Sample _ _ _ _) rfl rfl (fun _ => rfl) ?_
          refine pu (v := .sc _) rfl rfl (fun _ => rfl) ?_
          refine pu (v := .sc _) rfl rfl (fun _ => rfl) ?_
          refine pu (v := .sc _) rfl rfl (fun _ => rfl) ?_
          refine pu (v := .sc _) rfl rfl (fun _ => rfl) ?_
          refine pu (v := .sc _) rfl rfl (fun _ => rfl) ?_
          refine qu rfl rfl rfl (by decide) rfl ?_
          obtain ⟨v17, ev17, hR⟩ := letE hR
          refine pu (v := .sc _) rfl rfl (fun _ => puI ev17) ?_
          refine bu (cs := [.sc (.int .i64 (w6 ((w6 (s3.2.2.1 + r6.1)) - (w6 (r9.1 * r10.1))))), .sc (.int .i64 v17), .sc (.bool false)]) rfl bt51 rfl ?_
          refine ldB (v := .agg _) rfl rfl rfl rfl ti44 rfl rfl ?_
          refine bu (cs := [.sc (.int .i64 (w6 ((w6 (s3.2.2.1 + r6.1)) - (w6 (r9.1 * r10.1))))), .sc (.int .i64 v17), .sc (.bool false), .sc (.int .i64 (w6 (r7.1 - r11.1))), .sc (.int .i64 (w6 (r7.1 + r12.1))), .sc (.bool false)]) rfl bt53 rfl ?_
          refine bs (α := curve_Sample) 201 true ([curve_Sample.mk (Bound.mk (w6 ((w6 (s3.2.2.1 + r6.1)) - (w6 (r9.1 * r10.1)))) v17 false) (Bound.mk (w6 (r7.1 - r11.1)) (w6 (r7.1 + r12.1)) false)] : List curve_Sample) rfl rfl ti35 rfl ti53 rfl rfl rfl rfl rfl ?_
          obtain ⟨h18, hR⟩ := chkE hR
          refine ap' (α := curve_Sample) (nw := true) (xs := s3.2.1) (ys := ([curve_Sample.mk (Bound.mk (w6 ((w6 (s3.2.2.1 + r6.1)) - (w6 (r9.1 * r10.1)))) v17 false) (Bound.mk (w6 (r7.1 - r11.1)) (w6 (r7.1 + r12.1)) false)] : List curve_Sample)) rfl rfl rfl rfl (srcS' rfl rfl rfl) ti35 rfl ti53 rfl h18 rfl ?_
          refine pu (v := slV curve_Sample _ _ _ _) rfl rfl (fun _ => rfl) ?_
          refine RunC.blk ?_
          refine RunC.fin ?_
          refine AWP.rgC 221 rfl rfl ?_
          refine pu (v := .sc _) rfl rfl (fun _ => rfl) ?_
          refine pu (v := .sc _) rfl rfl (fun _ => rfl) ?_
          refine RunC.fin ?_
          refine ⟨(r13.2, s3.2.1 ++ ([curve_Sample.mk (Bound.mk (w6 ((w6 (s3.2.2.1 + r6.1)) - (w6 (r9.1 * r10.1)))) v17 false) (Bound.mk (w6 (r7.1 - r11.1)) (w6 (r7.1 + r12.1)) false)] : List curve_Sample), w6 (s3.2.2.1 + r6.1), w6 (s3.2.2.2 + 1)), (Option.some.inj hR).symm, ?_⟩
          exact Weak.turnL [(0, 0), (1, 0), (2, 0), (3, 0), (4, 0)] [] rfl rfl (tc (trP' rfl rfl rfl rfl) (tc (trP' rfl rfl rfl rfl) (tc (trP' rfl rfl rfl rfl) (tc (trS' rfl rfl rfl rfl rfl) (tc (.sc _) (tc (.sc _) (tc (.sc _) tn))))))) (mc rfl (.box rfl (.cons trR1 (.cons (.sc _) (.nil))) rfl) (mc rfl (.box rfl (.cons (.sc _) (.cons (.sc _) (.cons (.sc _) (.cons (.sc _) (.cons (.sc _) (.cons trR1 (.cons (.sc _) (.cons (.sc _) (.cons (.sc _) (.nil)))))))))) rfl) (mc rfl (.box rfl (.cons (.sc _) (.cons (trS' rfl rfl rfl rfl rfl) (.cons (.sc _) (.cons (.sc _) (.cons (.sc _) (.cons (.sc _) (.cons (.sc _) (.cons (.sc _) (.cons (.sc _) (.cons (.sc _) (.cons (.sc _) (.cons (.sc _) (.nil))))))))))))) rfl) (mc rfl (btrA' rfl) (mc rfl (btrA' rfl) mn)))))
    · refine AWP.exit ?_
      refine exT ?_
      refine exT ?_
      refine exH (skT ?_)
      refine ⟨(s3.1, s3.2.1), (Option.some.inj hR).symm, ?_⟩
      exact Weak.turnL [(0, 0), (4, 0)] [] rfl rfl (tc (trS' rfl rfl rfl rfl rfl) tn) (mc rfl (.box rfl (.cons trR1 (.cons (.sc _) (.nil))) rfl) (mc rfl (btrA' rfl) mn))
  · refine skT ?_
    refine AWP.sq ?_
    refine AWP.rgC 10 rfl rfl ?_
    refine pu (v := slV curve_Sample _ _ _ _) rfl rfl (fun _ => rfl) ?_
    obtain ⟨r19, hr19, hR⟩ := bindE hR
    obtain ⟨h20, hR⟩ := chkE hR
    refine cps (res' := .tup []) (ups := [(1, arrB (α := curve_Sample) 53 0 false r19)]) [1] 6 rfl rfl rfl cb17 (okAny17 z4.2 _ hr19) (.cons (ldM rfl rfl) (.cons (.fn (.nil)) (.nil))) (pc rfl bldA pn) rfl rfl rfl rfl rfl (by first | rfl | exact renR | exact renA | exact renS | simp only [V.ren, V.rens, renR, renA, renS] | (simp only [V.ren, V.rens, renR, renA, renS]; rfl)) (by simp only [passUps, renBox, renArr]; rfl) ?_
    refine RunC.fin ?_
    refine AWP.sq ?_
    refine AWP.rgC 22 rfl rfl ?_
    refine pu (v := slV curve_Sample _ _ _ _) rfl rfl (fun _ => rfl) ?_
    refine pu (v := slV curve_Sample _ _ _ _) rfl rfl (fun _ => rfl) ?_
    refine pu (v := .sc _) rfl rfl (fun _ => rfl) ?_
    refine RunC.fin ?_
    refine AWP.ret ?_
    have hR := Option.some.inj hR; subst hR
    exact hQ _ _ (LS.mk [(6, rowV (α := curve_Sample) false r19), (7, .sc (.bool true))] (lblks 0 [boxB (α := spymake_Stream) false z4.1]) 1) (.tup [rowV (α := curve_Sample) false r19, .sc (.bool true)]) [] (.inr rfl) (Weak.turnL [(0, 0)] [1] rfl rfl (tc (trF' rfl rfl id h20) (tc (.sc _) tn)) (mc rfl (.box rfl (.cons trR1 (.cons (.sc _) (.nil))) rfl) mn)) (ro2 (rvT (v := rowV (α := curve_Sample) false r19) rfl) (rvT (v := .sc (.bool true)) rfl)) rfl rfl (.tup (.cons ldR' (.cons (.sc _) .nil))) (pc rfl bldB pn)
theorem ok4 (s : spymake_Stream) (r : Vec × spymake_Stream) (hR : Stream_Vec s = some r) : FnD Try.prog 4 [boxB false s] [.ptr 0 0 0] (aggV (α := Vec) true r.1) [boxB false r.2] := by
  refine FnX.walk Try.func4 rfl 31 1 (by simp [Try.ntmps4]) rfl fun W S F Q hQ => ?_
  unfold Stream_Vec at hR
  refine AWP.sq ?_
  refine AWP.rgC 5 rfl rfl ?_
  refine al (cs := [.sc (.int .i64 0), .sc (.int .i64 0), .sc (.int .i64 0)]) 1 rfl rfl ti27 rfl rfl ?_
  refine RunC.fin ?_
  refine AWP.sq ?_
  refine AWP.rgC 29 rfl rfl ?_
  refine bs (α := Int) 5 true ([3, 100, 5000, 1048576] : List Int) rfl rfl ti22 rfl ti3 rfl rfl rfl rfl rfl ?_
  refine pu (v := .ptr _ _ _) rfl rfl (fun _ => rfl) ?_
  obtain ⟨r1, hr1, hR⟩ := bindE hR
  refine cps (res' := .sc (.int .i64 r1.1)) (ups := [(0, boxB (α := spymake_Stream) false r1.2)]) [0] 13 rfl rfl rfl cb5 (ok5 s 4 _ hr1) (.cons (ldP rfl rfl) (.cons (.sc _) (.nil))) (pc rfl (.box (.cons ldR' (.cons (.sc _) (.nil))) rfl) pn) rfl rfl rfl rfl rfl (by first | rfl | exact renR | exact renA | exact renS | simp only [V.ren, V.rens, renR, renA, renS] | (simp only [V.ren, V.rens, renR, renA, renS]; rfl)) (by simp only [passUps, renBox, renArr]; rfl) ?_
  obtain ⟨h2, hR⟩ := chkE hR
  refine ixS0 (α := Int) rfl rfl rfl ti22 rfl ti3 rfl h2 ?_
  refine ldE (α := Int) (v := .sc _) rfl rfl rfl (ixlt h2) ti3 rfl rfl rfl rfl ?_
  refine pu (v := .sc _) rfl rfl (fun _ => rfl) ?_
  refine RunC.fin ?_
  refine AWP.sq ?_
  refine AWP.rgC 101 rfl rfl ?_
  refine pu (v := .ptr _ _ _) rfl rfl (fun _ => rfl) ?_
  refine pu (v := .sc _) rfl rfl (fun _ => rfl) ?_
  refine pu (v := .sc _) rfl rfl (fun _ => rfl) ?_
  refine pu (v := .sc _) rfl rfl (fun _ => rfl) ?_
  obtain ⟨r3, hr3, hR⟩ := bindE hR
  refine cps (res' := .sc (.int .i64 r3.1)) (ups := [(0, boxB (α := spymake_Stream) false r3.2)]) [0] 45 rfl rfl rfl cb14 (ok14 r1.2 (w6 (0 - (gt ([3, 100, 5000, 1048576] : List Int) r1.1))) (gt ([3, 100, 5000, 1048576] : List Int) r1.1) _ hr3) (.cons (ldP rfl rfl) (.cons (.sc _) (.cons (.sc _) (.nil)))) (pc rfl (.box (.cons ldR' (.cons (.sc _) (.nil))) rfl) pn) rfl rfl rfl rfl rfl (by first | rfl | exact renR | exact renA | exact renS | simp only [V.ren, V.rens, renR, renA, renS] | (simp only [V.ren, V.rens, renR, renA, renS]; rfl)) (by simp only [passUps, renBox, renArr]; rfl) ?_
  refine pu (v := .ptr _ _ _) rfl rfl (fun _ => rfl) ?_
  refine pu (v := .sc _) rfl rfl (fun _ => rfl) ?_
  refine pu (v := .sc _) rfl rfl (fun _ => rfl) ?_
  refine pu (v := .sc _) rfl rfl (fun _ => rfl) ?_
  obtain ⟨r4, hr4, hR⟩ := bindE hR
  refine cps (res' := .sc (.int .i64 r4.1)) (ups := [(0, boxB (α := spymake_Stream) false r4.2)]) [0] 65 rfl rfl rfl cb14 (ok14 r3.2 (w6 (0 - (gt ([3, 100, 5000, 1048576] : List Int) r1.1))) (gt ([3, 100, 5000, 1048576] : List Int) r1.1) _ hr4) (.cons (ldP rfl rfl) (.cons (.sc _) (.cons (.sc _) (.nil)))) (pc rfl (.box (.cons ldR' (.cons (.sc _) (.nil))) rfl) pn) rfl rfl rfl rfl rfl (by first | rfl | exact renR | exact renA | exact renS | simp only [V.ren, V.rens, renR, renA, renS] | (simp only [V.ren, V.rens, renR, renA, renS]; rfl)) (by simp only [passUps, renBox, renArr]; rfl) ?_
  refine pu (v := .ptr _ _ _) rfl rfl (fun _ => rfl) ?_
  refine pu (v := .sc _) rfl rfl (fun _ => rfl) ?_
  refine pu (v := .sc _) rfl rfl (fun _ => rfl) ?_
  refine pu (v := .sc _) rfl rfl (fun _ => rfl) ?_
  obtain ⟨r5, hr5, hR⟩ := bindE hR
  refine cps (res' := .sc (.int .i64 r5.1)) (ups := [(0, boxB (α := spymake_Stream) false r5.2)]) [0] 85 rfl rfl rfl cb14 (ok14 r4.2 (w6 (0 - (gt ([3, 100, 5000, 1048576] : List Int) r1.1))) (gt ([3, 100, 5000, 1048576] : List Int) r1.1) _ hr5) (.cons (ldP rfl rfl) (.cons (.sc _) (.cons (.sc _) (.nil)))) (pc rfl (.box (.cons ldR' (.cons (.sc _) (.nil))) rfl) pn) rfl rfl rfl rfl rfl (by first | rfl | exact renR | exact renA | exact renS | simp only [V.ren, V.rens, renR, renA, renS] | (simp only [V.ren, V.rens, renR, renA, renS]; rfl)) (by simp only [passUps, renBox, renArr]; rfl) ?_
  refine bu (cs := [.sc (.int .i64 r3.1), .sc (.int .i64 r4.1), .sc (.int .i64 r5.1)]) rfl bt27 rfl ?_
  refine al (cs := [.sc (.int .i64 0), .sc (.int .i64 0), .sc (.int .i64 0)]) 93 rfl rfl ti27 rfl rfl ?_
  refine stB (cs' := [.sc (.int .i64 r3.1), .sc (.int .i64 r4.1), .sc (.int .i64 r5.1)]) rfl rfl rfl rfl ti27 rfl rfl rfl rfl rfl ?_
  refine RunC.fin ?_
  refine AWP.sq ?_
  refine AWP.sq ?_
  refine AWP.rgC 113 rfl rfl ?_
  refine ldB (v := .agg _) rfl rfl rfl rfl ti27 rfl rfl ?_
  refine bu (cs := [.sc (.int .i64 0), .sc (.int .i64 0), .sc (.int .i64 0)]) rfl bt27 rfl ?_
  refine es (cs := [.sc (.int .i64 r3.1), .sc (.int .i64 r4.1), .sc (.int .i64 r5.1)]) (ds := [.sc (.int .i64 0), .sc (.int .i64 0), .sc (.int .i64 0)]) rfl rfl rfl qa27 qg27 (qe27 _ _ _ _ _ _) ?_
  refine RunC.fin ?_
  refine AWP.cd hR rfl (fun h6 hR => ?_) fun h6 hR => ?_
  · refine AWP.rgC 121 rfl rfl ?_
    refine fa rfl rfl ti27 rfl rfl ti2 rfl ?_
    refine stB (cs' := [.sc (.int .i64 1), .sc (.int .i64 r4.1), .sc (.int .i64 r5.1)]) rfl rfl rfl rfl ti2 rfl rfl rfl rfl rfl ?_
    refine RunC.fin ?_
    refine AWP.sq ?_
    refine AWP.rgC 129 rfl rfl ?_
    refine ldB (v := .agg _) rfl rfl rfl rfl ti27 rfl rfl ?_
    refine stB (cs' := [.sc (.int .i64 1), .sc (.int .i64 r4.1), .sc (.int .i64 r5.1)]) rfl rfl rfl rfl ti27 rfl rfl rfl rfl rfl ?_
    refine RunC.fin ?_
    refine AWP.ret ?_
    have hR := Option.some.inj hR; subst hR
    exact hQ _ _ (LS.mk [(2, .ptr 1 0 0)] (lblks 0 [boxB (α := spymake_Stream) false r5.2, boxB (α := Vec) true (Vec.mk 1 r4.1 r5.1)]) 2) (aggV (α := Vec) true (Vec.mk 1 r4.1 r5.1)) [] (.inr rfl) (Weak.turnL [(0, 0), (1, 0)] [] rfl rfl (tc (trP' rfl rfl rfl rfl) tn) (mc rfl (.box rfl (.cons trR1 (.cons (.sc _) (.nil))) rfl) (mc rfl (.box rfl (.cons (.sc _) (.cons (.sc _) (.cons (.sc _) (.nil)))) rfl) mn))) (ro1 (rvC (v := aggV (α := Vec) true (Vec.mk 1 r4.1 r5.1)) rfl rfl ti27 rfl)) rfl rfl ldA (pc rfl bldB pn)
  · refine AWP.skip ?_
    refine skT ?_
    refine AWP.sq ?_
    refine AWP.rgC 121 rfl rfl ?_
    refine ldB (v := .agg _) rfl rfl rfl rfl ti27 rfl rfl ?_
    refine stB (cs' := [.sc (.int .i64 r3.1), .sc (.int .i64 r4.1), .sc (.int .i64 r5.1)]) rfl rfl rfl rfl ti27 rfl rfl rfl rfl rfl ?_
    refine RunC.fin ?_
    refine AWP.ret ?_
    have hR := Option.some.inj hR; subst hR
    exact hQ _ _ (LS.mk [(2, .ptr 1 0 0)] (lblks 0 [boxB (α := spymake_Stream) false r5.2, boxB (α := Vec) true (Vec.mk r3.1 r4.1 r5.1)]) 2) (aggV (α := Vec) true (Vec.mk r3.1 r4.1 r5.1)) [] (.inr rfl) (Weak.turnL [(0, 0), (1, 0)] [] rfl rfl (tc (trP' rfl rfl rfl rfl) tn) (mc rfl (.box rfl (.cons trR1 (.cons (.sc _) (.nil))) rfl) (mc rfl (.box rfl (.cons (.sc _) (.cons (.sc _) (.cons (.sc _) (.nil)))) rfl) mn))) (ro1 (rvC (v := aggV (α := Vec) true (Vec.mk r3.1 r4.1 r5.1)) rfl rfl ti27 rfl)) rfl rfl ldA (pc rfl bldB pn)
theorem ok12 (s1_ : List curve_Sample) (s2_ : List curve_Sample) (r : Bool) (hR : slices_EqualFunc_curve_Sample_spykeep4_CurveMerged_1 s1_ s2_ = some r) : FnP Try.prog 12 [rowV false s1_, rowV false s2_, .fn (.func 13) []] (.sc (.bool r)) := by
  refine fnP_of (FnX.walk Try.func12 rfl 32 0 (by simp [Try.ntmps12]) rfl fun W S F Q hQ => ?_)
  unfold slices_EqualFunc_curve_Sample_spykeep4_CurveMerged_1 at hR
  refine AWP.sq ?_
  refine AWP.rgC 4 rfl rfl ?_
  refine pu (v := .sc _) rfl rfl (fun _ => rfl) ?_
  refine RunC.fin ?_
  refine AWP.sq ?_
  refine AWP.sq ?_
  refine AWP.rgC 24 rfl rfl ?_
  refine pu (v := rowV _ s1_) rfl rfl (fun _ => rfl) ?_
  refine lenL (α := curve_Sample) rfl rfl ti35 rfl ?_
  refine pu (v := rowV _ s2_) rfl rfl (fun _ => rfl) ?_
  refine lenL (α := curve_Sample) rfl rfl ti35 rfl ?_
  refine pu (v := .sc _) rfl rfl (fun _ => rfl) ?_
  refine RunC.fin ?_
  refine AWP.cd hR rfl (fun h1 hR => ?_) fun h1 hR => ?_
  · refine AWP.sq ?_
    refine AWP.rgC 28 rfl rfl ?_
    refine pu (v := .sc _) rfl rfl (fun _ => rfl) ?_
    refine RunC.fin ?_
    refine AWP.ret ?_
    refine rtT ?_
    have hR := Option.some.inj hR; subst hR
    exact hQ _ _ (LS.mk [(6, .sc (.bool false))] (lblks 0 []) 0) (.sc (.bool false)) [] (.inr rfl) (Weak.turnL [] [] rfl rfl (tc (.sc _) tn) mn) (ro1 (rvT (v := .sc (.bool false)) rfl)) rfl rfl (.sc _) pn
  · refine AWP.skip ?_
    refine skT ?_
    refine AWP.sq ?_
    refine AWP.sq ?_
    refine AWP.rgC 36 rfl rfl ?_
    refine pu (v := rowV _ s1_) rfl rfl (fun _ => rfl) ?_
    refine lenL (α := curve_Sample) rfl rfl ti35 rfl ?_
    refine pu (v := .sc _) rfl rfl (fun _ => rfl) ?_
    refine RunC.fin ?_
    refine AWP.loopK' (fun s2 : Int => LS.mk [(1, rowV (α := curve_Sample) false s2_), (2, .fn (.func 13) []), (15, rowV (α := curve_Sample) false s1_), (16, .sc (.int .i64 (s1_.length : Int))), (17, .sc (.int .i64 s2))] (lblks 0 []) 0) (fun z3 : Unit => LS.mk [] (lblks 0 []) 0) (slices_EqualFunc_curve_Sample_spykeep4_CurveMerged_1.l1 s1_ s2_) hR (s0 := 0) (Weak.turnL [] [] rfl rfl (tc trR1 (tc (.fn (.nil)) (tc trR1 (tc (.sc _) (tc (.sc _) tn))))) mn) (fun s2 o2 hR hE2 => ?_) fun z3 hR => ?_
    · unfold slices_EqualFunc_curve_Sample_spykeep4_CurveMerged_1.l1 at hR
      refine AWP.sq ?_
      refine AWP.rgC 4 rfl rfl ?_
      refine pu (v := .sc _) rfl rfl (fun _ => rfl) ?_
      refine RunC.fin ?_
      refine AWP.sq ?_
      refine AWP.cd hR rfl (fun h4 hR => ?_) fun h4 hR => ?_
      · refine AWP.skip ?_
        refine skT ?_
        refine AWP.sq ?_
        refine AWP.block ?_
        refine AWP.sq ?_
        refine AWP.rgC 28 rfl rfl ?_
        refine pu (v := .sc _) rfl rfl (fun _ => rfl) ?_
        obtain ⟨h5, hR⟩ := chkE hR
        refine ixL (α := curve_Sample) rfl rfl rfl ti35 rfl ti53 rfl h5 ?_
        refine ldR (v := .agg _) rfl rfl ti53 rfl ?_
        refine al (cs := [.sc (.int .i64 0), .sc (.int .i64 0), .sc (.bool false), .sc (.int .i64 0), .sc (.int .i64 0), .sc (.bool false)]) 16 rfl rfl ti53 rfl rfl ?_
        refine pu (v := .sc _) rfl rfl (fun _ => rfl) ?_
        refine stB (cs' := [.sc (.int .i64 (gt s1_ s2).At.Lo), .sc (.int .i64 (gt s1_ s2).At.Hi), .sc (.bool (gt s1_ s2).At.Unknown), .sc (.int .i64 (gt s1_ s2).Light.Lo), .sc (.int .i64 (gt s1_ s2).Light.Hi), .sc (.bool (gt s1_ s2).Light.Unknown)]) rfl rfl rfl rfl ti53 rfl rfl rfl rfl rfl ?_
        refine RunC.fin ?_
        refine AWP.sq ?_
        refine AWP.rgC 52 rfl rfl ?_
        refine pu (v := rowV _ s2_) rfl rfl (fun _ => rfl) ?_
        refine pu (v := .sc _) rfl rfl (fun _ => rfl) ?_
        obtain ⟨h6, hR⟩ := chkE hR
        refine ixL (α := curve_Sample) rfl rfl rfl ti35 rfl ti53 rfl h6 ?_
        refine ldR (v := .agg _) rfl rfl ti53 rfl ?_
        refine al (cs := [.sc (.int .i64 0), .sc (.int .i64 0), .sc (.bool false), .sc (.int .i64 0), .sc (.int .i64 0), .sc (.bool false)]) 44 rfl rfl ti53 rfl rfl ?_
        refine stB (cs' := [.sc (.int .i64 (gt s2_ s2).At.Lo), .sc (.int .i64 (gt s2_ s2).At.Hi), .sc (.bool (gt s2_ s2).At.Unknown), .sc (.int .i64 (gt s2_ s2).Light.Lo), .sc (.int .i64 (gt s2_ s2).Light.Hi), .sc (.bool (gt s2_ s2).Light.Unknown)]) rfl rfl rfl rfl ti53 rfl rfl rfl rfl rfl ?_
        refine RunC.fin ?_
        refine AWP.sq ?_
        refine AWP.rgC 72 rfl rfl ?_
        refine pu (v := .fn _ _) rfl rfl (fun _ => rfl) ?_
        refine ldB (v := .agg _) rfl rfl rfl rfl ti53 rfl rfl ?_
        refine ldB (v := .agg _) rfl rfl rfl rfl ti53 rfl rfl ?_
        obtain ⟨r7, hr7, hR⟩ := bindE hR
        refine cls [] rfl rfl cb13 (ok13 (gt s1_ s2) (gt s2_ s2) _ hr7) (.cons (.agg (.cons (.sc _) (.cons (.sc _) (.cons (.sc _) (.cons (.sc _) (.cons (.sc _) (.cons (.sc _) (.nil))))))) rfl) (.cons (.agg (.cons (.sc _) (.cons (.sc _) (.cons (.sc _) (.cons (.sc _) (.cons (.sc _) (.cons (.sc _) (.nil))))))) rfl) (.nil))) (.inr rfl) rfl ?_
        refine pu (v := .sc _) rfl rfl (fun _ => rfl) ?_
        refine RunC.fin ?_
        refine AWP.cd hR rfl (fun h8 hR => ?_) fun h8 hR => ?_
        · refine AWP.sq ?_
          refine AWP.rgC 76 rfl rfl ?_
          refine pu (v := .sc _) rfl rfl (fun _ => rfl) ?_
          refine RunC.fin ?_
          refine AWP.ret ?_
          refine rtB ?_
          refine rtT ?_
          refine rtT ?_
          refine rtB (rtT ?_)
          replace hR := escL hR hE2
          refine rtT ?_
          have hR := Option.some.inj hR; subst hR
          exact hQ _ _ (LS.mk [(6, .sc (.bool false))] (lblks 0 []) 0) (.sc (.bool false)) [] (.inr rfl) (Weak.turnL [] [] rfl rfl (tc (.sc _) tn) mn) (ro1 (rvT (v := .sc (.bool false)) rfl)) rfl rfl (.sc _) pn
        · refine AWP.skip ?_
          refine skB ?_
          refine skT ?_
          refine AWP.rgC 80 rfl rfl ?_
          refine pu (v := .sc _) rfl rfl (fun _ => rfl) ?_
          refine pu (v := .sc _) rfl rfl (fun _ => rfl) ?_
          refine RunC.fin ?_
          refine ⟨(w6 (s2 + 1)), (Option.some.inj hR).symm, ?_⟩
          exact Weak.turnL [] [] rfl rfl (tc trR1 (tc (.fn (.nil)) (tc trR1 (tc (.sc _) (tc (.sc _) tn))))) mn
      · refine AWP.exit ?_
        refine exT ?_
        refine exT ?_
        refine exH (skT ?_)
        refine ⟨(), (Option.some.inj hR).symm, ?_⟩
        exact Weak.turnL [] [] rfl rfl tn mn
    · refine skT ?_
      refine AWP.sq ?_
      refine AWP.rgC 4 rfl rfl ?_
      refine pu (v := .sc _) rfl rfl (fun _ => rfl) ?_
      refine RunC.fin ?_
      refine AWP.ret ?_
      have hR := Option.some.inj hR; subst hR
      exact hQ _ _ (LS.mk [(6, .sc (.bool true))] (lblks 0 []) 0) (.sc (.bool true)) [] (.inr rfl) (Weak.turnL [] [] rfl rfl (tc (.sc _) tn) mn) (ro1 (rvT (v := .sc (.bool true)) rfl)) rfl rfl (.sc _) pn
theorem ok3 (l : List Int) (r : Bool) (hR : spykeep4_CurveMerged l = some r) : FnP Try.prog 3 [rowV false l] (.sc (.bool r)) := by
  refine fnP_of (FnX.walk Try.func3 rfl 161 0 (by simp [Try.ntmps3]) rfl fun W S F Q hQ => ?_)
  unfold spykeep4_CurveMerged at hR
  refine AWP.sq ?_
  refine AWP.rgC 4 rfl rfl ?_
  refine pu (v := .sc _) rfl rfl (fun _ => rfl) ?_
  refine RunC.fin ?_
  refine AWP.sq ?_
  refine AWP.rgC 20 rfl rfl ?_
  refine pu (v := rowV _ l) rfl rfl (fun _ => rfl) ?_
  refine bu (cs := [rowV (α := Int) false l, .sc (.int .i64 0)]) rfl bt25 rfl ?_
  refine bx (cs := _) 12 rfl rfl rfl ?_
  refine pu (v := .ptr _ _ _) rfl rfl (fun _ => rfl) ?_
  refine RunC.fin ?_
  refine AWP.sq ?_
  refine AWP.rgC 48 rfl rfl ?_
  refine pu (v := .ptr _ _ _) rfl rfl (fun _ => rfl) ?_
  obtain ⟨r1, hr1, hR⟩ := bindE hR
  refine cps (res' := aggV (α := Vec) true r1.1) (ups := [(12, boxB (α := spymake_Stream) false r1.2)]) [12] 24 rfl rfl rfl cb4 (ok4 (spymake_Stream.mk l 0) _ hr1) (.cons (ldP rfl rfl) (.nil)) (pc rfl (.box (.cons ldR' (.cons (.sc _) (.nil))) rfl) pn) rfl rfl rfl rfl rfl (by first | rfl | exact renR | exact renA | exact renS | simp only [V.ren, V.rens, renR, renA, renS] | (simp only [V.ren, V.rens, renR, renA, renS]; rfl)) (by simp only [passUps, renBox, renArr]; rfl) ?_
  refine pu (v := .ptr _ _ _) rfl rfl (fun _ => rfl) ?_
  obtain ⟨r2, hr2, hR⟩ := bindE hR
  refine cps (res' := .sc (.int .i64 r2.1)) (ups := [(12, boxB (α := spymake_Stream) false r2.2)]) [12] 32 rfl rfl rfl cb5 (ok5 r1.2 900 _ hr2) (.cons (ldP rfl rfl) (.cons (.sc _) (.nil))) (pc rfl (.box (.cons ldR' (.cons (.sc _) (.nil))) rfl) pn) rfl rfl rfl rfl rfl (by first | rfl | exact renR | exact renA | exact renS | simp only [V.ren, V.rens, renR, renA, renS] | (simp only [V.ren, V.rens, renR, renA, renS]; rfl)) (by simp only [passUps, renBox, renArr]; rfl) ?_
  refine bu (cs := [.sc (.int .i64 1), .sc (.int .i64 r1.1.X), .sc (.int .i64 r1.1.Y), .sc (.int .i64 r1.1.Z), .sc (.int .i64 r2.1), .sc (.slice none 0 0), .sc (.int .i64 0), .sc (.int .i64 (-17592186044416)), .sc (.int .i64 17592186044416)]) rfl bt34 rfl ?_
  refine al (cs := [.sc (.int .i64 0), .sc (.int .i64 0), .sc (.int .i64 0), .sc (.int .i64 0), .sc (.int .i64 0), .sc (.slice none 0 0), .sc (.int .i64 0), .sc (.int .i64 0), .sc (.int .i64 0)]) 40 rfl rfl ti34 rfl rfl ?_
  refine stB (cs' := [.sc (.int .i64 1), .sc (.int .i64 r1.1.X), .sc (.int .i64 r1.1.Y), .sc (.int .i64 r1.1.Z), .sc (.int .i64 r2.1), .sc (.slice none 0 0), .sc (.int .i64 0), .sc (.int .i64 (-17592186044416)), .sc (.int .i64 17592186044416)]) rfl rfl rfl rfl ti34 rfl rfl rfl rfl rfl ?_
  refine RunC.fin ?_
  refine AWP.sq ?_
  refine AWP.rgC 80 rfl rfl ?_
  refine pu (v := .ptr _ _ _) rfl rfl (fun _ => rfl) ?_
  refine ldB (v := .agg _) rfl rfl rfl rfl ti34 rfl rfl ?_
  obtain ⟨r3, hr3, hR⟩ := bindE hR
  refine cps (res' := .tup [rowV (α := curve_Sample) false r3.1, .sc (.bool r3.2.1)]) (ups := [(12, boxB (α := spymake_Stream) false r3.2.2)]) [12] 56 rfl rfl rfl cb6 (ok6 r2.2 (Star.mk 1 r1.1 r2.1 [] 0 (-17592186044416) 17592186044416) 12 _ hr3) (.cons (ldP rfl rfl) (.cons (.agg (.cons (.sc _) (.cons (.sc _) (.cons (.sc _) (.cons (.sc _) (.cons (.sc _) (.cons .nil (.cons (.sc _) (.cons (.sc _) (.cons (.sc _) (.nil)))))))))) rfl) (.cons (.sc _) (.nil)))) (pc rfl (.box (.cons ldR' (.cons (.sc _) (.nil))) rfl) pn) rfl rfl rfl rfl rfl (by first | rfl | exact renR | exact renA | exact renS | simp only [V.ren, V.rens, renR, renA, renS] | (simp only [V.ren, V.rens, renR, renA, renS]; rfl)) (by simp only [passUps, renBox, renArr]; rfl) ?_
  refine pu (v := .tup _) rfl rfl (fun _ => rfl) ?_
  refine pu (v := rowV _ r3.1) rfl rfl (fun _ => rfl) ?_
  refine pu (v := .sc _) rfl rfl (fun _ => rfl) ?_
  refine pu (v := rowV _ r3.1) rfl rfl (fun _ => rfl) ?_
  refine pu (v := .sc _) rfl rfl (fun _ => rfl) ?_
  refine RunC.fin ?_
  refine AWP.sq ?_
  refine AWP.rgC 112 rfl rfl ?_
  refine pu (v := .ptr _ _ _) rfl rfl (fun _ => rfl) ?_
  refine ldB (v := .agg _) rfl rfl rfl rfl ti34 rfl rfl ?_
  obtain ⟨r4, hr4, hR⟩ := bindE hR
  refine cps (res' := .tup [rowV (α := curve_Sample) false r4.1, .sc (.bool r4.2.1)]) (ups := [(12, boxB (α := spymake_Stream) false r4.2.2)]) [12] 88 rfl rfl rfl cb6 (ok6 r3.2.2 (Star.mk 1 r1.1 r2.1 [] 0 (-17592186044416) 17592186044416) 12 _ hr4) (.cons (ldP rfl rfl) (.cons (.agg (.cons (.sc _) (.cons (.sc _) (.cons (.sc _) (.cons (.sc _) (.cons (.sc _) (.cons .nil (.cons (.sc _) (.cons (.sc _) (.cons (.sc _) (.nil)))))))))) rfl) (.cons (.sc _) (.nil)))) (pc rfl (.box (.cons ldR' (.cons (.sc _) (.nil))) rfl) pn) rfl rfl rfl rfl rfl (by first | rfl | exact renR | exact renA | exact renS | simp only [V.ren, V.rens, renR, renA, renS] | (simp only [V.ren, V.rens, renR, renA, renS]; rfl)) (by simp only [passUps, renBox, renArr]; rfl) ?_
  refine pu (v := .tup _) rfl rfl (fun _ => rfl) ?_
  refine pu (v := rowV _ r4.1) rfl rfl (fun _ => rfl) ?_
  refine pu (v := .sc _) rfl rfl (fun _ => rfl) ?_
  refine pu (v := rowV _ r4.1) rfl rfl (fun _ => rfl) ?_
  refine pu (v := .sc _) rfl rfl (fun _ => rfl) ?_
  refine RunC.fin ?_
  refine AWP.sq ?_
  refine AWP.rgC 144 rfl rfl ?_
  refine pu (v := rowV _ r3.1) rfl rfl (fun _ => rfl) ?_
  refine pu (v := rowV _ r4.1) rfl rfl (fun _ => rfl) ?_
  obtain ⟨r5, hr5, hR⟩ := bindE hR
  refine cls [] rfl rfl cb7 (ok7 r3.1 r4.1 _ hr5) (.cons ldR' (.cons ldR' (.nil))) (.inr rfl) rfl ?_
  refine pu (v := .tup _) rfl rfl (fun _ => rfl) ?_
  refine pu (v := rowV _ r5.1) rfl rfl (fun _ => rfl) ?_
  refine pu (v := .sc _) rfl rfl (fun _ => rfl) ?_
  refine pu (v := rowV _ r5.1) rfl rfl (fun _ => rfl) ?_
  refine pu (v := .sc _) rfl rfl (fun _ => rfl) ?_
  refine RunC.fin ?_
  refine AWP.sq ?_
  refine AWP.rgC 176 rfl rfl ?_
  refine pu (v := rowV _ r4.1) rfl rfl (fun _ => rfl) ?_
  refine pu (v := rowV _ r3.1) rfl rfl (fun _ => rfl) ?_
  obtain ⟨r6, hr6, hR⟩ := bindE hR
  refine cls [] rfl rfl cb7 (ok7 r4.1 r3.1 _ hr6) (.cons ldR' (.cons ldR' (.nil))) (.inr rfl) rfl ?_
  refine pu (v := .tup _) rfl rfl (fun _ => rfl) ?_
  refine pu (v := rowV _ r6.1) rfl rfl (fun _ => rfl) ?_
  refine pu (v := .sc _) rfl rfl (fun _ => rfl) ?_
  refine pu (v := rowV _ r6.1) rfl rfl (fun _ => rfl) ?_
  refine pu (v := .sc _) rfl rfl (fun _ => rfl) ?_
  refine RunC.fin ?_
  refine AWP.sq ?_
  refine AWP.joinX (fun z7 : Bool => LS.mk [(4, .ptr 0 0 0), (9, rowV (α := curve_Sample) false r5.1), (11, rowV (α := curve_Sample) false r6.1), (85, .sc (.bool z7))] (lblks 0 [.box [.sc (.int .i64 1), .sc (.int .i64 r1.1.X), .sc (.int .i64 r1.1.Y), .sc (.int .i64 r1.1.Z), .sc (.int .i64 r2.1), .sc (.slice none 0 0), .sc (.int .i64 0), .sc (.int .i64 (-17592186044416)), .sc (.int .i64 17592186044416)]]) 1) hR (fun o7 hR => ?_) fun z7 hR => ?_
  · refine AWP.rgC 308 rfl rfl ?_
    obtain ⟨r8, hr8, hR⟩ := bindE hR
    refine cls [] rfl rfl cb8 (ok8 _ hr8) (.nil) (.inr rfl) rfl ?_
    refine pu (v := .sc _) rfl rfl (fun _ => rfl) ?_
    refine pu (v := .sc _) rfl rfl (fun _ => rfl) ?_
    refine brR hR (fun h9 hR => ?_) fun h9 hR => ?_
    · refine sk (skW rfl rfl rfl h9) ?_
      refine sk (skW rfl rfl rfl h9) ?_
      refine pkT (v := .sc (.bool true)) rfl rfl h9 rfl ?_
      refine pu (v := .sc _) rfl rfl (fun _ => rfl) ?_
      refine sk (skW rfl rfl rfl rfl) ?_
      refine sk (skW rfl rfl rfl rfl) ?_
      refine pkT (v := .sc (.bool true)) rfl rfl rfl rfl ?_
      refine pu (v := .sc _) rfl rfl (fun _ => rfl) ?_
      refine sk (skW rfl rfl rfl rfl) ?_
      refine sk (skW rfl rfl rfl rfl) ?_
      refine pkT (v := .sc (.bool true)) rfl rfl rfl rfl ?_
      refine pu (v := .sc _) rfl rfl (fun _ => rfl) ?_
      refine sk (skW rfl rfl rfl rfl) ?_
      refine sk (skW rfl rfl rfl rfl) ?_
      refine pkT (v := .sc (.bool true)) rfl rfl rfl rfl ?_
      refine pu (v := .sc _) rfl rfl (fun _ => rfl) ?_
      refine sk (skW rfl rfl rfl rfl) ?_
      refine sk (skW rfl rfl rfl rfl) ?_
      refine sk (skW rfl rfl rfl rfl) ?_
      refine sk (skW rfl rfl rfl rfl) ?_
      refine sk (skW rfl rfl rfl rfl) ?_
      refine sk (skW rfl rfl rfl rfl) ?_
      refine sk (skW rfl rfl rfl rfl) ?_
      refine sk (skW rfl rfl rfl rfl) ?_
      refine pkT (v := .sc (.bool true)) rfl rfl rfl rfl ?_
      refine pu (v := .sc _) rfl rfl (fun _ => rfl) ?_
      refine sk (skW rfl rfl rfl rfl) ?_
      refine sk (skW rfl rfl rfl rfl) ?_
      refine sk (skW rfl rfl rfl rfl) ?_
      refine pkT (v := .sc (.bool true)) rfl rfl rfl rfl ?_
      refine RunC.fin ?_
      have hR := Option.some.inj hR; subst hR
      exact Weak.turnL [(40, 0)] [] rfl rfl (tc (trP' rfl rfl rfl rfl) (tc trR1 (tc trR1 (tc (.sc _) tn)))) (mc rfl (.box rfl (.cons (.sc _) (.cons (.sc _) (.cons (.sc _) (.cons (.sc _) (.cons (.sc _) (.cons (.sc _) (.cons (.sc _) (.cons (.sc _) (.cons (.sc _) (.nil)))))))))) rfl) mn)
    · refine pu (v := .sc _) (wtG rfl rfl rfl h9) rfl (fun _ => rfl) ?_
      refine pu (v := .sc _) (wtG rfl rfl rfl h9) rfl (fun _ => rfl) ?_
      refine pkF (v := .sc (.bool (!r3.2.1))) rfl rfl h9 rfl ?_
      refine pu (v := .sc _) rfl rfl (fun _ => rfl) ?_
      refine brR hR (fun h10 hR => ?_) fun h10 hR => ?_
      · refine sk (skW rfl rfl rfl h10) ?_
        refine sk (skW rfl rfl rfl h10) ?_
        refine pkT (v := .sc (.bool true)) rfl rfl h10 rfl ?_
        refine pu (v := .sc _) rfl rfl (fun _ => rfl) ?_
        refine sk (skW rfl rfl rfl rfl) ?_
        refine sk (skW rfl rfl rfl rfl) ?_
        refine pkT (v := .sc (.bool true)) rfl rfl rfl rfl ?_
        refine pu (v := .sc _) rfl rfl (fun _ => rfl) ?_
        refine sk (skW rfl rfl rfl rfl) ?_
        refine sk (skW rfl rfl rfl rfl) ?_
        refine pkT (v := .sc (.bool true)) rfl rfl rfl rfl ?_
        refine pu (v := .sc _) rfl rfl (fun _ => rfl) ?_
        refine sk (skW rfl rfl rfl rfl) ?_
        refine sk (skW rfl rfl rfl rfl) ?_
        refine sk (skW rfl rfl rfl rfl) ?_
        refine sk (skW rfl rfl rfl rfl) ?_
        refine sk (skW rfl rfl rfl rfl) ?_
        refine sk (skW rfl rfl rfl rfl) ?_
        refine sk (skW rfl rfl rfl rfl) ?_
        refine sk (skW rfl rfl rfl rfl) ?_
        refine pkT (v := .sc (.bool true)) rfl rfl rfl rfl ?_
        refine pu (v := .sc _) rfl rfl (fun _ => rfl) ?_
        refine sk (skW rfl rfl rfl rfl) ?_
        refine sk (skW rfl rfl rfl rfl) ?_
        refine sk (skW rfl rfl rfl rfl) ?_
        refine pkT (v := .sc (.bool true)) rfl rfl rfl rfl ?_
        refine RunC.fin ?_
        have hR := Option.some.inj hR; subst hR
        exact Weak.turnL [(40, 0)] [] rfl rfl (tc (trP' rfl rfl rfl rfl) (tc trR1 (tc trR1 (tc (.sc _) tn)))) (mc rfl (.box rfl (.cons (.sc _) (.cons (.sc _) (.cons (.sc _) (.cons (.sc _) (.cons (.sc _) (.cons (.sc _) (.cons (.sc _) (.cons (.sc _) (.cons (.sc _) (.nil)))))))))) rfl) mn)
      · refine pu (v := .sc _) (wtG rfl rfl rfl h10) rfl (fun _ => rfl) ?_
        refine pu (v := .sc _) (wtG rfl rfl rfl h10) rfl (fun _ => rfl) ?_
        refine pkF (v := .sc (.bool (!r4.2.1))) rfl rfl h10 rfl ?_
        refine pu (v := .sc _) rfl rfl (fun _ => rfl) ?_
        refine brR hR (fun h11 hR => ?_) fun h11 hR => ?_
        · refine sk (skW rfl rfl rfl h11) ?_
          refine sk (skW rfl rfl rfl h11) ?_
          refine pkT (v := .sc (.bool true)) rfl rfl h11 rfl ?_
          refine pu (v := .sc _) rfl rfl (fun _ => rfl) ?_
          refine sk (skW rfl rfl rfl rfl) ?_
          refine sk (skW rfl rfl rfl rfl) ?_
          refine pkT (v := .sc (.bool true)) rfl rfl rfl rfl ?_
          refine pu (v := .sc _) rfl rfl (fun _ => rfl) ?_
          refine sk (skW rfl rfl rfl rfl) ?_
          refine sk (skW rfl rfl rfl rfl) ?_
          refine sk (skW rfl rfl rfl rfl) ?_
          refine sk (skW rfl rfl rfl rfl) ?_
          refine sk (skW rfl rfl rfl rfl) ?_
          refine sk (skW rfl rfl rfl rfl) ?_
          refine sk (skW rfl rfl rfl rfl) ?_
          refine sk (skW rfl rfl rfl rfl) ?_
          refine pkT (v := .sc (.bool true)) rfl rfl rfl rfl ?_
          refine pu (v := .sc _) rfl rfl (fun _ => rfl) ?_
          refine sk (skW rfl rfl rfl rfl) ?_
          refine sk (skW rfl rfl rfl rfl) ?_
          refine sk (skW rfl rfl rfl rfl) ?_
          refine pkT (v := .sc (.bool true)) rfl rfl rfl rfl ?_
          refine RunC.fin ?_
          have hR := Option.some.inj hR; subst hR
          exact Weak.turnL [(40, 0)] [] rfl rfl (tc (trP' rfl rfl rfl rfl) (tc trR1 (tc trR1 (tc (.sc _) tn)))) (mc rfl (.box rfl (.cons (.sc _) (.cons (.sc _) (.cons (.sc _) (.cons (.sc _) (.cons (.sc _) (.cons (.sc _) (.cons (.sc _) (.cons (.sc _) (.cons (.sc _) (.nil)))))))))) rfl) mn)
        · refine pu (v := .sc _) (wtG rfl rfl rfl h11) rfl (fun _ => rfl) ?_
          refine pu (v := .sc _) (wtG rfl rfl rfl h11) rfl (fun _ => rfl) ?_
          refine pkF (v := .sc (.bool (r5.2 != 0))) rfl rfl h11 rfl ?_
          refine pu (v := .sc _) rfl rfl (fun _ => rfl) ?_
          refine brR hR (fun h12 hR => ?_) fun h12 hR => ?_
          · refine sk (skW rfl rfl rfl h12) ?_
            refine sk (skW rfl rfl rfl h12) ?_
            refine pkT (v := .sc (.bool true)) rfl rfl h12 rfl ?_
            refine pu (v := .sc _) rfl rfl (fun _ => rfl) ?_
            refine sk (skW rfl rfl rfl rfl) ?_
            refine sk (skW rfl rfl rfl rfl) ?_
            refine sk (skW rfl rfl rfl rfl) ?_
            refine sk (skW rfl rfl rfl rfl) ?_
            refine sk (skW rfl rfl rfl rfl) ?_
            refine sk (skW rfl rfl rfl rfl) ?_
            refine sk (skW rfl rfl rfl rfl) ?_
            refine sk (skW rfl rfl rfl rfl) ?_
            refine pkT (v := .sc (.bool true)) rfl rfl rfl rfl ?_
            refine pu (v := .sc _) rfl rfl (fun _ => rfl) ?_
            refine sk (skW rfl rfl rfl rfl) ?_
            refine sk (skW rfl rfl rfl rfl) ?_
            refine sk (skW rfl rfl rfl rfl) ?_
            refine pkT (v := .sc (.bool true)) rfl rfl rfl rfl ?_
            refine RunC.fin ?_
            have hR := Option.some.inj hR; subst hR
            exact Weak.turnL [(40, 0)] [] rfl rfl (tc (trP' rfl rfl rfl rfl) (tc trR1 (tc trR1 (tc (.sc _) tn)))) (mc rfl (.box rfl (.cons (.sc _) (.cons (.sc _) (.cons (.sc _) (.cons (.sc _) (.cons (.sc _) (.cons (.sc _) (.cons (.sc _) (.cons (.sc _) (.cons (.sc _) (.nil)))))))))) rfl) mn)
          · refine pu (v := .sc _) (wtG rfl rfl rfl h12) rfl (fun _ => rfl) ?_
            refine pu (v := .sc _) (wtG rfl rfl rfl h12) rfl (fun _ => rfl) ?_
            refine pkF (v := .sc (.bool (r6.2 != 0))) rfl rfl h12 rfl ?_
            refine pu (v := .sc _) rfl rfl (fun _ => rfl) ?_
            refine brR hR (fun h13 hR => ?_) fun h13 hR => ?_
            · refine sk (skW rfl rfl rfl h13) ?_
              refine sk (skW rfl rfl rfl h13) ?_
              refine sk (skW rfl rfl rfl h13) ?_
              refine sk (skW rfl rfl rfl h13) ?_
              refine sk (skW rfl rfl rfl h13) ?_
              refine sk (skW rfl rfl rfl h13) ?_
              refine sk (skW rfl rfl rfl h13) ?_
              refine sk (skW rfl rfl rfl h13) ?_
              refine pkT (v := .sc (.bool true)) rfl rfl h13 rfl ?_
              refine pu (v := .sc _) rfl rfl (fun _ => rfl) ?_
              refine sk (skW rfl rfl rfl rfl) ?_
              refine sk (skW rfl rfl rfl rfl) ?_
              refine sk (skW rfl rfl rfl rfl) ?_
              refine pkT (v := .sc (.bool true)) rfl rfl rfl rfl ?_
              refine RunC.fin ?_
              have hR := Option.some.inj hR; subst hR
              exact Weak.turnL [(40, 0)] [] rfl rfl (tc (trP' rfl rfl rfl rfl) (tc trR1 (tc trR1 (tc (.sc _) tn)))) (mc rfl (.box rfl (.cons (.sc _) (.cons (.sc _) (.cons (.sc _) (.cons (.sc _) (.cons (.sc _) (.cons (.sc _) (.cons (.sc _) (.cons (.sc _) (.cons (.sc _) (.nil)))))))))) rfl) mn)
            · refine pu (v := rowV _ r5.1) (wtG rfl rfl rfl h13) rfl (fun _ => rfl) ?_
              refine lenL (α := curve_Sample) (wtG rfl rfl rfl h13) rfl ti35 rfl ?_
              refine pu (v := rowV _ r3.1) (wtG rfl rfl rfl h13) rfl (fun _ => rfl) ?_
              refine lenL (α := curve_Sample) (wtG rfl rfl rfl h13) rfl ti35 rfl ?_
              refine pu (v := rowV _ r4.1) (wtG rfl rfl rfl h13) rfl (fun _ => rfl) ?_
              refine lenL (α := curve_Sample) (wtG rfl rfl rfl h13) rfl ti35 rfl ?_
              refine pu (v := .sc _) (wtG rfl rfl rfl h13) rfl (fun _ => rfl) ?_
              obtain ⟨v14, ev14, hR⟩ := letE hR
              refine pu (v := .sc _) (wtG rfl rfl rfl h13) rfl (fun _ => puB ev14) ?_
              refine pkF (v := .sc (.bool v14)) rfl rfl h13 rfl ?_
              refine pu (v := .sc _) rfl rfl (fun _ => rfl) ?_
              refine brR hR (fun h15 hR => ?_) fun h15 hR => ?_
              · refine sk (skW rfl rfl rfl h15) ?_
                refine sk (skW rfl rfl rfl h15) ?_
                refine sk (skW rfl rfl rfl h15) ?_
                refine pkT (v := .sc (.bool true)) rfl rfl h15 rfl ?_
                refine RunC.fin ?_
                have hR := Option.some.inj hR; subst hR
                exact Weak.turnL [(40, 0)] [] rfl rfl (tc (trP' rfl rfl rfl rfl) (tc trR1 (tc trR1 (tc (.sc _) tn)))) (mc rfl (.box rfl (.cons (.sc _) (.cons (.sc _) (.cons (.sc _) (.cons (.sc _) (.cons (.sc _) (.cons (.sc _) (.cons (.sc _) (.cons (.sc _) (.cons (.sc _) (.nil)))))))))) rfl) mn)
              · refine pu (v := rowV _ r5.1) (wtG rfl rfl rfl h15) rfl (fun _ => rfl) ?_
                obtain ⟨r16, hr16, hR⟩ := bindE hR
                refine cls [] (wtG rfl rfl rfl h15) rfl cb9 (ok9 r5.1 _ hr16) (.cons ldR' (.nil)) (.inr rfl) rfl ?_
                refine pu (v := .sc _) (wtG rfl rfl rfl h15) rfl (fun _ => rfl) ?_
                refine pkF (v := .sc (.bool (r16 != 0))) rfl rfl h15 rfl ?_
                refine RunC.fin ?_
                have hR := Option.some.inj hR; subst hR
                exact Weak.turnL [(40, 0)] [] rfl rfl (tc (trP' rfl rfl rfl rfl) (tc trR1 (tc trR1 (tc (.sc _) tn)))) (mc rfl (.box rfl (.cons (.sc _) (.cons (.sc _) (.cons (.sc _) (.cons (.sc _) (.cons (.sc _) (.cons (.sc _) (.cons (.sc _) (.cons (.sc _) (.cons (.sc _) (.nil)))))))))) rfl) mn)
  · refine AWP.cd hR rfl (fun h17 hR => ?_) fun h17 hR => ?_
    · refine AWP.sq ?_
      refine AWP.rgC 5 rfl rfl ?_
      refine pu (v := .sc _) rfl rfl (fun _ => rfl) ?_
      refine RunC.fin ?_
      refine AWP.ret ?_
      refine rtT ?_
      have hR := Option.some.inj hR; subst hR
      exact hQ _ _ (LS.mk [(2, .sc (.bool false))] (lblks 0 []) 0) (.sc (.bool false)) [] (.inr rfl) (Weak.turnL [] [] rfl rfl (tc (.sc _) tn) mn) (ro1 (rvT (v := .sc (.bool false)) rfl)) rfl rfl (.sc _) pn
    · refine AWP.skip ?_
      refine skT ?_
      refine AWP.sq ?_
      refine AWP.rgC 41 rfl rfl ?_
      refine pu (v := rowV _ r5.1) rfl rfl (fun _ => rfl) ?_
      obtain ⟨r18, hr18, hR⟩ := bindE hR
      refine cls [] rfl rfl cb10 (ok10 r5.1 _ hr18) (.cons ldR' (.nil)) (.inr rfl) rfl ?_
      refine pu (v := .tup _) rfl rfl (fun _ => rfl) ?_
      refine pu (v := .agg _) rfl rfl (fun _ => rfl) ?_
      refine pu (v := .sc _) rfl rfl (fun _ => rfl) ?_
      refine pu (v := .sc _) rfl rfl (fun _ => rfl) ?_
      refine al (cs := [.sc (.int .i64 0), .sc (.int .i64 0), .sc (.bool false)]) 25 rfl rfl ti44 rfl rfl ?_
      refine stB (cs' := [.sc (.int .i64 r18.1.Lo), .sc (.int .i64 r18.1.Hi), .sc (.bool r18.1.Unknown)]) rfl rfl rfl rfl ti44 rfl rfl rfl rfl rfl ?_
      refine pu (v := .sc _) rfl rfl (fun _ => rfl) ?_
      refine pu (v := .sc _) rfl rfl (fun _ => rfl) ?_
      refine RunC.fin ?_
      refine AWP.sq ?_
      refine AWP.rgC 81 rfl rfl ?_
      refine pu (v := rowV _ r6.1) rfl rfl (fun _ => rfl) ?_
      obtain ⟨r19, hr19, hR⟩ := bindE hR
      refine cls [] rfl rfl cb10 (ok10 r6.1 _ hr19) (.cons ldR' (.nil)) (.inr rfl) rfl ?_
      refine pu (v := .tup _) rfl rfl (fun _ => rfl) ?_
      refine pu (v := .agg _) rfl rfl (fun _ => rfl) ?_
      refine pu (v := .sc _) rfl rfl (fun _ => rfl) ?_
      refine pu (v := .sc _) rfl rfl (fun _ => rfl) ?_
      refine al (cs := [.sc (.int .i64 0), .sc (.int .i64 0), .sc (.bool false)]) 65 rfl rfl ti44 rfl rfl ?_
      refine stB (cs' := [.sc (.int .i64 r19.1.Lo), .sc (.int .i64 r19.1.Hi), .sc (.bool r19.1.Unknown)]) rfl rfl rfl rfl ti44 rfl rfl rfl rfl rfl ?_
      refine pu (v := .sc _) rfl rfl (fun _ => rfl) ?_
      refine pu (v := .sc _) rfl rfl (fun _ => rfl) ?_
      refine RunC.fin ?_
      refine AWP.sq ?_
      refine AWP.joinX (fun z20 : Bool => LS.mk [(9, rowV (α := curve_Sample) false r5.1), (11, rowV (α := curve_Sample) false r6.1), (135, .sc (.bool z20))] (lblks 0 []) 0) hR (fun o20 hR => ?_) fun z20 hR => ?_
      · refine AWP.rgC 233 rfl rfl ?_
        refine pu (v := .sc _) rfl rfl (fun _ => rfl) ?_
        refine pu (v := .sc _) rfl rfl (fun _ => rfl) ?_
        refine pu (v := .sc _) rfl rfl (fun _ => rfl) ?_
        refine brR hR (fun h21 hR => ?_) fun h21 hR => ?_
        · refine sk (skW rfl rfl rfl h21) ?_
          refine sk (skW rfl rfl rfl h21) ?_
          refine pkT (v := .sc (.bool true)) rfl rfl h21 rfl ?_
          refine pu (v := .sc _) rfl rfl (fun _ => rfl) ?_
          refine sk (skW rfl rfl rfl rfl) ?_
          refine sk (skW rfl rfl rfl rfl) ?_
          refine pkT (v := .sc (.bool true)) rfl rfl rfl rfl ?_
          refine pu (v := .sc _) rfl rfl (fun _ => rfl) ?_
          refine sk (skW rfl rfl rfl rfl) ?_
          refine sk (skW rfl rfl rfl rfl) ?_
          refine pkT (v := .sc (.bool true)) rfl rfl rfl rfl ?_
          refine pu (v := .sc _) rfl rfl (fun _ => rfl) ?_
          refine sk (skW rfl rfl rfl rfl) ?_
          refine sk (skW rfl rfl rfl rfl) ?_
          refine sk (skW rfl rfl rfl rfl) ?_
          refine pkT (v := .sc (.bool true)) rfl rfl rfl rfl ?_
          refine pu (v := .sc _) rfl rfl (fun _ => rfl) ?_
          refine sk (skW rfl rfl rfl rfl) ?_
          refine sk (skW rfl rfl rfl rfl) ?_
          refine sk (skW rfl rfl rfl rfl) ?_
          refine sk (skW rfl rfl rfl rfl) ?_
          refine sk (skW2 rfl rfl rfl) ?_
          refine sk (skW2 rfl rfl rfl) ?_
          refine sk (skW2 rfl rfl rfl) ?_
          refine sk (skW2 rfl rfl rfl) ?_
          refine sk (skW2 rfl rfl rfl) ?_
          refine sk (skW2 rfl rfl rfl) ?_
          refine sk (skW2 rfl rfl rfl) ?_
          refine sk (skW2 rfl rfl rfl) ?_
          refine sk (skW2 rfl rfl rfl) ?_
          refine sk (skW2 rfl rfl rfl) ?_
          refine sk (skW2 rfl rfl rfl) ?_
          refine sk (skW2 rfl rfl rfl) ?_
          refine sk (skW rfl rfl rfl rfl) ?_
          refine pkT (v := .sc (.bool true)) rfl rfl rfl rfl ?_
          refine RunC.fin ?_
          have hR := Option.some.inj hR; subst hR
          exact Weak.turnL [] [] rfl rfl (tc trR1 (tc trR1 (tc (.sc _) tn))) mn
        · refine pu (v := .sc _) (wtG rfl rfl rfl h21) rfl (fun _ => rfl) ?_
          refine pu (v := .sc _) (wtG rfl rfl rfl h21) rfl (fun _ => rfl) ?_
          refine pkF (v := .sc (.bool (!r19.2.1))) rfl rfl h21 rfl ?_
          refine pu (v := .sc _) rfl rfl (fun _ => rfl) ?_
          refine brR hR (fun h22 hR => ?_) fun h22 hR => ?_
          · refine sk (skW rfl rfl rfl h22) ?_
            refine sk (skW rfl rfl rfl h22) ?_
            refine pkT (v := .sc (.bool true)) rfl rfl h22 rfl ?_
            refine pu (v := .sc _) rfl rfl (fun _ => rfl) ?_
            refine sk (skW rfl rfl rfl rfl) ?_
            refine sk (skW rfl rfl rfl rfl) ?_
            refine pkT (v := .sc (.bool true)) rfl rfl rfl rfl ?_
            refine pu (v := .sc _) rfl rfl (fun _ => rfl) ?_
            refine sk (skW rfl rfl rfl rfl) ?_
            refine sk (skW rfl rfl rfl rfl) ?_
            refine sk (skW rfl rfl rfl rfl) ?_
            refine pkT (v := .sc (.bool true)) rfl rfl rfl rfl ?_
            refine pu (v := .sc _) rfl rfl (fun _ => rfl) ?_
            refine sk (skW rfl rfl rfl rfl) ?_
            refine sk (skW rfl rfl rfl rfl) ?_
            refine sk (skW rfl rfl rfl rfl) ?_
            refine sk (skW rfl rfl rfl rfl) ?_
            refine sk (skW2 rfl rfl rfl) ?_
            refine sk (skW2 rfl rfl rfl) ?_
            refine sk (skW2 rfl rfl rfl) ?_
            refine sk (skW2 rfl rfl rfl) ?_
            refine sk (skW2 rfl rfl rfl) ?_
            refine sk (skW2 rfl rfl rfl) ?_
            refine sk (skW2 rfl rfl rfl) ?_
            refine sk (skW2 rfl rfl rfl) ?_
            refine sk (skW2 rfl rfl rfl) ?_
            refine sk (skW2 rfl rfl rfl) ?_
            refine sk (skW2 rfl rfl rfl) ?_
            refine sk (skW2 rfl rfl rfl) ?_
            refine sk (skW rfl rfl rfl rfl) ?_
            refine pkT (v := .sc (.bool true)) rfl rfl rfl rfl ?_
            refine RunC.fin ?_
            have hR := Option.some.inj hR; subst hR
            exact Weak.turnL [] [] rfl rfl (tc trR1 (tc trR1 (tc (.sc _) tn))) mn
          · refine pu (v := .sc _) (wtG rfl rfl rfl h22) rfl (fun _ => rfl) ?_
            refine pu (v := .sc _) (wtG rfl rfl rfl h22) rfl (fun _ => rfl) ?_
            refine pkF (v := .sc (.bool (r18.2.2 != 0))) rfl rfl h22 rfl ?_
            refine pu (v := .sc _) rfl rfl (fun _ => rfl) ?_
            refine brR hR (fun h23 hR => ?_) fun h23 hR => ?_
            · refine sk (skW rfl rfl rfl h23) ?_
              refine sk (skW rfl rfl rfl h23) ?_
              refine pkT (v := .sc (.bool true)) rfl rfl h23 rfl ?_
              refine pu (v := .sc _) rfl rfl (fun _ => rfl) ?_
              refine sk (skW rfl rfl rfl rfl) ?_
              refine sk (skW rfl rfl rfl rfl) ?_
              refine sk (skW rfl rfl rfl rfl) ?_
              refine pkT (v := .sc (.bool true)) rfl rfl rfl rfl ?_
              refine pu (v := .sc _) rfl rfl (fun _ => rfl) ?_
              refine sk (skW rfl rfl rfl rfl) ?_
              refine sk (skW rfl rfl rfl rfl) ?_
              refine sk (skW rfl rfl rfl rfl) ?_
              refine sk (skW rfl rfl rfl rfl) ?_
              refine sk (skW2 rfl rfl rfl) ?_
              refine sk (skW2 rfl rfl rfl) ?_
              refine sk (skW2 rfl rfl rfl) ?_
              refine sk (skW2 rfl rfl rfl) ?_
              refine sk (skW2 rfl rfl rfl) ?_
              refine sk (skW2 rfl rfl rfl) ?_
              refine sk (skW2 rfl rfl rfl) ?_
              refine sk (skW2 rfl rfl rfl) ?_
              refine sk (skW2 rfl rfl rfl) ?_
              refine sk (skW2 rfl rfl rfl) ?_
              refine sk (skW2 rfl rfl rfl) ?_
              refine sk (skW2 rfl rfl rfl) ?_
              refine sk (skW rfl rfl rfl rfl) ?_
              refine pkT (v := .sc (.bool true)) rfl rfl rfl rfl ?_
              refine RunC.fin ?_
              have hR := Option.some.inj hR; subst hR
              exact Weak.turnL [] [] rfl rfl (tc trR1 (tc trR1 (tc (.sc _) tn))) mn
            · refine pu (v := .sc _) (wtG rfl rfl rfl h23) rfl (fun _ => rfl) ?_
              refine pu (v := .sc _) (wtG rfl rfl rfl h23) rfl (fun _ => rfl) ?_
              refine pkF (v := .sc (.bool (r19.2.2 != 0))) rfl rfl h23 rfl ?_
              refine pu (v := .sc _) rfl rfl (fun _ => rfl) ?_
              refine brR hR (fun h24 hR => ?_) fun h24 hR => ?_
              · refine sk (skW rfl rfl rfl h24) ?_
                refine sk (skW rfl rfl rfl h24) ?_
                refine sk (skW rfl rfl rfl h24) ?_
                refine pkT (v := .sc (.bool true)) rfl rfl h24 rfl ?_
                refine pu (v := .sc _) rfl rfl (fun _ => rfl) ?_
                refine sk (skW rfl rfl rfl rfl) ?_
                refine sk (skW rfl rfl rfl rfl) ?_
                refine sk (skW rfl rfl rfl rfl) ?_
                refine sk (skW rfl rfl rfl rfl) ?_
                refine sk (skW2 rfl rfl rfl) ?_
                refine sk (skW2 rfl rfl rfl) ?_
                refine sk (skW2 rfl rfl rfl) ?_
                refine sk (skW2 rfl rfl rfl) ?_
                refine sk (skW2 rfl rfl rfl) ?_
                refine sk (skW2 rfl rfl rfl) ?_
                refine sk (skW2 rfl rfl rfl) ?_
                refine sk (skW2 rfl rfl rfl) ?_
                refine sk (skW2 rfl rfl rfl) ?_
                refine sk (skW2 rfl rfl rfl) ?_
                refine sk (skW2 rfl rfl rfl) ?_
                refine sk (skW2 rfl rfl rfl) ?_
                refine sk (skW rfl rfl rfl rfl) ?_
                refine pkT (v := .sc (.bool true)) rfl rfl rfl rfl ?_
                refine RunC.fin ?_
                have hR := Option.some.inj hR; subst hR
                exact Weak.turnL [] [] rfl rfl (tc trR1 (tc trR1 (tc (.sc _) tn))) mn
              · refine ldB (v := .agg _) (wtG rfl rfl rfl h24) rfl rfl rfl ti44 rfl rfl ?_
                refine ldB (v := .agg _) (wtG rfl rfl rfl h24) rfl rfl rfl ti44 rfl rfl ?_
                refine ns (cs := [.sc (.int .i64 r18.1.Lo), .sc (.int .i64 r18.1.Hi), .sc (.bool r18.1.Unknown)]) (ds := [.sc (.int .i64 r19.1.Lo), .sc (.int .i64 r19.1.Hi), .sc (.bool r19.1.Unknown)]) (wtG rfl rfl rfl h24) rfl rfl qa44 qg44 (qe44 _ _ _ _ _ _) ?_
                refine pkF (v := .sc (.bool (!((r18.1.Lo == r19.1.Lo) && ((r18.1.Hi == r19.1.Hi) && ((r18.1.Unknown == r19.1.Unknown) && (true))))))) rfl rfl h24 rfl ?_
                refine pu (v := .sc _) rfl rfl (fun _ => rfl) ?_
                refine brR hR (fun h25 hR => ?_) fun h25 hR => ?_
                · refine sk (skW rfl rfl rfl h25) ?_
                  refine sk (skW rfl rfl rfl h25) ?_
                  refine sk (skW rfl rfl rfl h25) ?_
                  refine sk (skW rfl rfl rfl h25) ?_
                  refine sk (skW2 rfl rfl rfl) ?_
                  refine sk (skW2 rfl rfl rfl) ?_
                  refine sk (skW2 rfl rfl rfl) ?_
                  refine sk (skW2 rfl rfl rfl) ?_
                  refine sk (skW2 rfl rfl rfl) ?_
                  refine sk (skW2 rfl rfl rfl) ?_
                  refine sk (skW2 rfl rfl rfl) ?_
                  refine sk (skW2 rfl rfl rfl) ?_
                  refine sk (skW2 rfl rfl rfl) ?_
                  refine sk (skW2 rfl rfl rfl) ?_
                  refine sk (skW2 rfl rfl rfl) ?_
                  refine sk (skW2 rfl rfl rfl) ?_
                  refine sk (skW rfl rfl rfl h25) ?_
                  refine pkT (v := .sc (.bool true)) rfl rfl h25 rfl ?_
                  refine RunC.fin ?_
                  have hR := Option.some.inj hR; subst hR
                  exact Weak.turnL [] [] rfl rfl (tc trR1 (tc trR1 (tc (.sc _) tn))) mn
                · refine fa (wtG rfl rfl rfl h25) rfl ti44 rfl rfl ti4 rfl ?_
                  refine ldB (v := .sc _) (wtG rfl rfl rfl h25) rfl rfl rfl ti4 rfl rfl ?_
                  refine pu (v := .sc _) (wtG rfl rfl rfl h25) rfl (fun _ => rfl) ?_
                  refine pu (v := .sc _) (wtG rfl rfl rfl h25) rfl (fun _ => rfl) ?_
                  refine brR hR (fun h26 hR => ?_) fun h26 hR => ?_
                  · refine fa (wtG rfl rfl rfl h26) rfl ti44 rfl rfl ti29 rfl ?_
                    refine ldB (v := .sc _) (wtG rfl rfl rfl h26) rfl rfl rfl ti29 rfl rfl ?_
                    refine fa (wtG rfl rfl rfl h26) rfl ti34 rfl rfl ti29 rfl ?_
                    refine ldB (v := .sc _) (wtG rfl rfl rfl h26) rfl rfl rfl ti29 rfl rfl ?_
                    refine pu (v := .sc _) (wtG rfl rfl rfl h26) rfl (fun _ => rfl) ?_
                    refine pu (v := .sc _) (wtG rfl rfl rfl h26) rfl (fun _ => rfl) ?_
                    refine brR hR (fun h27 hR => ?_) fun h27 hR => ?_
                    · refine sk (skW rfl rfl rfl h27) ?_
                      refine sk (skW rfl rfl rfl h27) ?_
                      refine sk (skW rfl rfl rfl h27) ?_
                      refine sk (skW rfl rfl rfl h27) ?_
                      refine sk (skW rfl rfl rfl h27) ?_
                      refine pkT (v := .sc (.bool true)) (wtG rfl rfl rfl h26) rfl h27 rfl ?_
                      refine pkT (v := .sc (.bool true)) (wtG rfl rfl rfl h25) rfl h26 rfl ?_
                      refine pkF (v := .sc (.bool true)) rfl rfl h25 rfl ?_
                      refine RunC.fin ?_
                      have hR := Option.some.inj hR; subst hR
                      exact Weak.turnL [] [] rfl rfl (tc trR1 (tc trR1 (tc (.sc _) tn))) mn
                    · refine fa (wtG rfl rfl rfl h27) rfl ti44 rfl rfl ti29 rfl ?_
                      refine ldB (v := .sc _) (wtG rfl rfl rfl h27) rfl rfl rfl ti29 rfl rfl ?_
                      refine fa (wtG rfl rfl rfl h27) rfl ti34 rfl rfl ti29 rfl ?_
                      refine ldB (v := .sc _) (wtG rfl rfl rfl h27) rfl rfl rfl ti29 rfl rfl ?_
                      refine pu (v := .sc _) (wtG rfl rfl rfl h27) rfl (fun _ => rfl) ?_
                      refine pkF (v := .sc (.bool (decide (r18.1.Hi < r2.1)))) (wtG rfl rfl rfl h26) rfl h27 rfl ?_
                      refine pkT (v := .sc (.bool (decide (r18.1.Hi < r2.1)))) (wtG rfl rfl rfl h25) rfl h26 rfl ?_
                      refine pkF (v := .sc (.bool (decide (r18.1.Hi < r2.1)))) rfl rfl h25 rfl ?_
                      refine RunC.fin ?_
                      have hR := Option.some.inj hR; subst hR
                      exact Weak.turnL [] [] rfl rfl (tc trR1 (tc trR1 (tc (.sc _) tn))) mn
                  · refine sk (skW rfl rfl rfl h26) ?_
                    refine sk (skW rfl rfl rfl h26) ?_
                    refine sk (skW rfl rfl rfl h26) ?_
                    refine sk (skW rfl rfl rfl h26) ?_
                    refine sk (skW rfl rfl rfl h26) ?_
                    refine sk (skW rfl rfl rfl h26) ?_
                    refine sk (skW2 rfl rfl rfl) ?_
                    refine sk (skW2 rfl rfl rfl) ?_
                    refine sk (skW2 rfl rfl rfl) ?_
                    refine sk (skW2 rfl rfl rfl) ?_
                    refine sk (skW2 rfl rfl rfl) ?_
                    refine sk (skW rfl rfl rfl h26) ?_
                    refine pkF (v := .sc (.bool false)) (wtG rfl rfl rfl h25) rfl h26 rfl ?_
                    refine pkF (v := .sc (.bool false)) rfl rfl h25 rfl ?_
                    refine RunC.fin ?_
                    have hR := Option.some.inj hR; subst hR
                    exact Weak.turnL [] [] rfl rfl (tc trR1 (tc trR1 (tc (.sc _) tn))) mn
      · refine AWP.cd hR rfl (fun h28 hR => ?_) fun h28 hR => ?_
        · refine AWP.sq ?_
          refine AWP.rgC 4 rfl rfl ?_
          refine pu (v := .sc _) rfl rfl (fun _ => rfl) ?_
          refine RunC.fin ?_
          refine AWP.ret ?_
          refine rtT ?_
          have hR := Option.some.inj hR; subst hR
          exact hQ _ _ (LS.mk [(2, .sc (.bool false))] (lblks 0 []) 0) (.sc (.bool false)) [] (.inr rfl) (Weak.turnL [] [] rfl rfl (tc (.sc _) tn) mn) (ro1 (rvT (v := .sc (.bool false)) rfl)) rfl rfl (.sc _) pn
        · refine AWP.skip ?_
          refine skT ?_
          refine AWP.sq ?_
          refine AWP.rgC 32 rfl rfl ?_
          refine pu (v := rowV _ r5.1) rfl rfl (fun _ => rfl) ?_
          obtain ⟨r29, hr29, hR⟩ := bindE hR
          refine cls [] rfl rfl cb11 (ok11 r5.1 _ hr29) (.cons ldR' (.nil)) (.inr rfl) rfl ?_
          refine pu (v := .tup _) rfl rfl (fun _ => rfl) ?_
          refine pu (v := .agg _) rfl rfl (fun _ => rfl) ?_
          refine pu (v := .sc _) rfl rfl (fun _ => rfl) ?_
          refine al (cs := [.sc (.int .i64 0), .sc (.int .i64 0), .sc (.bool false)]) 20 rfl rfl ti44 rfl rfl ?_
          refine stB (cs' := [.sc (.int .i64 r29.1.Lo), .sc (.int .i64 r29.1.Hi), .sc (.bool r29.1.Unknown)]) rfl rfl rfl rfl ti44 rfl rfl rfl rfl rfl ?_
          refine pu (v := .sc _) rfl rfl (fun _ => rfl) ?_
          refine RunC.fin ?_
          refine AWP.sq ?_
          refine AWP.joinX (fun z30 : Bool => LS.mk [(9, rowV (α := curve_Sample) false r5.1), (11, rowV (α := curve_Sample) false r6.1), (157, .sc (.bool z30))] (lblks 0 []) 0) hR (fun o30 hR => ?_) fun z30 hR => ?_
          · refine AWP.rgC 100 rfl rfl ?_
            refine pu (v := rowV _ r5.1) rfl rfl (fun _ => rfl) ?_
            refine lenL (α := curve_Sample) rfl rfl ti35 rfl ?_
            refine pu (v := .sc _) rfl rfl (fun _ => rfl) ?_
            refine pu (v := .sc _) rfl rfl (fun _ => rfl) ?_
            refine brR hR (fun h31 hR => ?_) fun h31 hR => ?_
            · refine pu (v := .sc _) (wtG rfl rfl rfl h31) rfl (fun _ => rfl) ?_
              refine pu (v := .sc _) (wtG rfl rfl rfl h31) rfl (fun _ => rfl) ?_
              refine pu (v := .sc _) (wtG rfl rfl rfl h31) rfl (fun _ => rfl) ?_
              refine brR hR (fun h32 hR => ?_) fun h32 hR => ?_
              · refine sk (skW rfl rfl rfl h32) ?_
                refine sk (skW rfl rfl rfl h32) ?_
                refine sk (skW rfl rfl rfl h32) ?_
                refine sk (skW rfl rfl rfl h32) ?_
                refine sk (skW2 rfl rfl rfl) ?_
                refine sk (skW2 rfl rfl rfl) ?_
                refine sk (skW2 rfl rfl rfl) ?_
                refine sk (skW rfl rfl rfl h32) ?_
                refine pkT (v := .sc (.bool true)) (wtG rfl rfl rfl h31) rfl h32 rfl ?_
                refine pkT (v := .sc (.bool true)) rfl rfl h31 rfl ?_
                refine RunC.fin ?_
                have hR := Option.some.inj hR; subst hR
                exact Weak.turnL [] [] rfl rfl (tc trR1 (tc trR1 (tc (.sc _) tn))) mn
              · refine fa (wtG rfl rfl rfl h32) rfl ti44 rfl rfl ti4 rfl ?_
                refine ldB (v := .sc _) (wtG rfl rfl rfl h32) rfl rfl rfl ti4 rfl rfl ?_
                refine pu (v := .sc _) (wtG rfl rfl rfl h32) rfl (fun _ => rfl) ?_
                refine pu (v := .sc _) (wtG rfl rfl rfl h32) rfl (fun _ => rfl) ?_
                refine brR hR (fun h33 hR => ?_) fun h33 hR => ?_
                · refine fa (wtG rfl rfl rfl h33) rfl ti44 rfl rfl ti29 rfl ?_
                  refine ldB (v := .sc _) (wtG rfl rfl rfl h33) rfl rfl rfl ti29 rfl rfl ?_
                  refine pu (v := .sc _) (wtG rfl rfl rfl h33) rfl (fun _ => rfl) ?_
                  refine pkT (v := .sc (.bool (r29.1.Lo != 0))) (wtG rfl rfl rfl h32) rfl h33 rfl ?_
                  refine pkF (v := .sc (.bool (r29.1.Lo != 0))) (wtG rfl rfl rfl h31) rfl h32 rfl ?_
                  refine pkT (v := .sc (.bool (r29.1.Lo != 0))) rfl rfl h31 rfl ?_
                  refine RunC.fin ?_
                  have hR := Option.some.inj hR; subst hR
                  exact Weak.turnL [] [] rfl rfl (tc trR1 (tc trR1 (tc (.sc _) tn))) mn
                · refine sk (skW rfl rfl rfl h33) ?_
                  refine sk (skW rfl rfl rfl h33) ?_
                  refine sk (skW rfl rfl rfl h33) ?_
                  refine pkF (v := .sc (.bool false)) (wtG rfl rfl rfl h32) rfl h33 rfl ?_
                  refine pkF (v := .sc (.bool false)) (wtG rfl rfl rfl h31) rfl h32 rfl ?_
                  refine pkT (v := .sc (.bool false)) rfl rfl h31 rfl ?_
                  refine RunC.fin ?_
                  have hR := Option.some.inj hR; subst hR
                  exact Weak.turnL [] [] rfl rfl (tc trR1 (tc trR1 (tc (.sc _) tn))) mn
            · refine sk (skW rfl rfl rfl h31) ?_
              refine sk (skW rfl rfl rfl h31) ?_
              refine sk (skW rfl rfl rfl h31) ?_
              refine sk (skW2 rfl rfl rfl) ?_
              refine sk (skW2 rfl rfl rfl) ?_
              refine sk (skW2 rfl rfl rfl) ?_
              refine sk (skW2 rfl rfl rfl) ?_
              refine sk (skW2 rfl rfl rfl) ?_
              refine sk (skW2 rfl rfl rfl) ?_
              refine sk (skW2 rfl rfl rfl) ?_
              refine sk (skW2 rfl rfl rfl) ?_
              refine sk (skW rfl rfl rfl h31) ?_
              refine pkF (v := .sc (.bool false)) rfl rfl h31 rfl ?_
              refine RunC.fin ?_
              have hR := Option.some.inj hR; subst hR
              exact Weak.turnL [] [] rfl rfl (tc trR1 (tc trR1 (tc (.sc _) tn))) mn
          · refine AWP.cd hR rfl (fun h34 hR => ?_) fun h34 hR => ?_
            · refine AWP.sq ?_
              refine AWP.rgC 4 rfl rfl ?_
              refine pu (v := .sc _) rfl rfl (fun _ => rfl) ?_
              refine RunC.fin ?_
              refine AWP.ret ?_
              refine rtT ?_
              have hR := Option.some.inj hR; subst hR
              exact hQ _ _ (LS.mk [(2, .sc (.bool false))] (lblks 0 []) 0) (.sc (.bool false)) [] (.inr rfl) (Weak.turnL [] [] rfl rfl (tc (.sc _) tn) mn) (ro1 (rvT (v := .sc (.bool false)) rfl)) rfl rfl (.sc _) pn
            · refine AWP.skip ?_
              refine skT ?_
              refine AWP.sq ?_
              refine AWP.rgC 16 rfl rfl ?_
              refine pu (v := rowV _ r5.1) rfl rfl (fun _ => rfl) ?_
              refine pu (v := rowV _ r6.1) rfl rfl (fun _ => rfl) ?_
              obtain ⟨r35, hr35, hR⟩ := bindE hR
              refine cls [] rfl rfl cb12 (ok12 r5.1 r6.1 _ hr35) (.cons ldR' (.cons ldR' (.cons (.fn (.nil)) (.nil)))) (.inr rfl) rfl ?_
              refine pu (v := .sc _) rfl rfl (fun _ => rfl) ?_
              refine RunC.fin ?_
              refine AWP.ret ?_
              have hR := Option.some.inj hR; subst hR
              exact hQ _ _ (LS.mk [(2, .sc (.bool r35))] (lblks 0 []) 0) (.sc (.bool r35)) [] (.inr rfl) (Weak.turnL [] [] rfl rfl (tc (.sc _) tn) mn) (ro1 (rvT (v := .sc (.bool r35)) rfl)) rfl rfl (.sc _) pn
end Go.Proofs.Cum
