/- Each function of the program computes its plain function. Conditions: as each theorem states them. -/
import Derived.Test.YtadepbpacnhjaaaA4
import Derived.WalkKit
import Derived.Deep.WholeRow
import Derived.Test.YtadepbpacnhjaaaT
import Derived.Test.YtadepbpacnhjaaaH
import Derived.Test.YtadepbpacnhjaaaS
import Derived.Test.YtadepbpacnhjaaaF
import Derived.Test.YtadepbpacnhjaaaP1
namespace Go.Proofs.Crs
open Go Go.Abs Lf
set_option linter.unusedVariables false
set_option linter.unusedSimpArgs false
set_option maxRecDepth 100000
set_option maxHeartbeats 1000000
theorem ok85_52 (data : List Int) (a : Int) (b : Int) (cmpc0 : Cells) (r : (List Int)) (hR : slices_insertionSortCmpFunc_Int_find_Sure_1 data a b cmpc0 = some r) : FnD Try.prog 85 [arrB 3 0 false data, boxB false cmpc0] [slV Int 0 0 0 data.length, .sc (.int .i64 a), .sc (.int .i64 b), .fn (.func 59) [.ptr 1 0 0]] (.tup []) [arrB 3 0 false r, boxB false cmpc0] := by
  refine FnX.walk Try.func85 rfl 53 2 (by simp [Try.ntmps85]) rfl fun W S F Q hQ => ?_
  unfold slices_insertionSortCmpFunc_Int_find_Sure_1 at hR
  refine AWP.sq ?_
  refine AWP.rgC 14 rfl rfl ?_
  refine pu (v := .sc _) rfl rfl (fun _ => rfl) ?_
  refine pu (v := .sc _) rfl rfl (fun _ => rfl) ?_
  refine pu (v := .sc _) rfl rfl (fun _ => rfl) ?_
  refine RunC.fin ?_
  refine AWP.loopJ (fun s1 : (List Int) × Int => LS.mk [(0, slV Int 0 0 0 s1.1.length), (1, .sc (.int .i64 a)), (2, .sc (.int .i64 b)), (3, .fn (.func 59) [.ptr 1 0 0]), (8, .sc (.int .i64 s1.2))] (lblks 0 [arrB (α := Int) 3 0 false s1.1, boxB (α := Cells) false cmpc0]) 2) (fun z2 : (List Int) => LS.mk [] (lblks 0 [arrB (α := Int) 3 0 false z2, boxB (α := Cells) false cmpc0]) 2) (slices_insertionSortCmpFunc_Int_find_Sure_1.l1 a b cmpc0) hR (s0 := (data, w6 (a + 1))) (Weak.turnL [(0, 0), (1, 0)] [] rfl rfl (tc (trS' rfl rfl rfl rfl rfl) (tc (.sc _) (tc (.sc _) (tc (.fn (.cons (trP' rfl rfl rfl rfl) (.nil))) (tc (.sc _) tn))))) (mc rfl (btrA' rfl) (mc rfl (.box rfl (.cons (.sc _) (.cons (.sc _) (.cons trR1 (.nil)))) rfl) mn))) (fun s1 o1 hR => ?_) fun z2 hR => ?_
  · unfold slices_insertionSortCmpFunc_Int_find_Sure_1.l1 at hR
    refine AWP.sq ?_
    refine AWP.sq ?_
    refine AWP.rgC 14 rfl rfl ?_
    refine pu (v := .sc _) rfl rfl (fun _ => rfl) ?_
    refine pu (v := .sc _) rfl rfl (fun _ => rfl) ?_
    refine pu (v := .sc _) rfl rfl (fun _ => rfl) ?_
    refine RunC.fin ?_
    refine AWP.cd hR rfl (fun h3 hR => ?_) fun h3 hR => ?_
    · refine AWP.skip ?_
      refine skT ?_
      refine AWP.sq ?_
      refine AWP.block ?_
      refine AWP.sq ?_
      refine AWP.rgC 22 rfl rfl ?_
      refine pu (v := .sc _) rfl rfl (fun _ => rfl) ?_
      refine pu (v := .sc _) rfl rfl (fun _ => rfl) ?_
      refine RunC.fin ?_
      refine AWP.loopJ (fun s4 : (List Int) × Int => LS.mk [(0, slV Int 0 0 0 s4.1.length), (1, .sc (.int .i64 a)), (2, .sc (.int .i64 b)), (3, .fn (.func 59) [.ptr 1 0 0]), (8, .sc (.int .i64 s1.2)), (9, .sc (.int .i64 s4.2))] (lblks 0 [arrB (α := Int) 3 0 false s4.1, boxB (α := Cells) false cmpc0]) 2) (fun z5 : (List Int) => LS.mk [(0, slV Int 0 0 0 z5.length), (1, .sc (.int .i64 a)), (2, .sc (.int .i64 b)), (3, .fn (.func 59) [.ptr 1 0 0]), (8, .sc (.int .i64 s1.2))] (lblks 0 [arrB (α := Int) 3 0 false z5, boxB (α := Cells) false cmpc0]) 2) (slices_insertionSortCmpFunc_Int_find_Sure_1.l2 a cmpc0) hR (s0 := (s1.1, s1.2)) (Weak.turnL [(0, 0), (1, 0)] [] rfl rfl (tc (trS' rfl rfl rfl rfl rfl) (tc (.sc _) (tc (.sc _) (tc (.fn (.cons (trP' rfl rfl rfl rfl) (.nil))) (tc (.sc _) (tc (.sc _) tn)))))) (mc rfl (btrA' rfl) (mc rfl (.box rfl (.cons (.sc _) (.cons (.sc _) (.cons trR1 (.nil)))) rfl) mn))) (fun s4 o4 hR => ?_) fun z5 hR => ?_
      · unfold slices_insertionSortCmpFunc_Int_find_Sure_1.l2 at hR
        refine AWP.sq ?_
        refine AWP.joinX (fun z6 : Bool => LS.mk [(0, slV Int 0 0 0 s4.1.length), (1, .sc (.int .i64 a)), (2, .sc (.int .i64 b)), (3, .fn (.func 59) [.ptr 1 0 0]), (8, .sc (.int .i64 s1.2)), (9, .sc (.int .i64 s4.2)), (34, .sc (.bool z6))] (lblks 0 [arrB (α := Int) 3 0 false s4.1, boxB (α := Cells) false cmpc0]) 2) hR (fun o6 hR => ?_) fun z6 hR => ?_
        · refine AWP.rgD 70 [0, 0, 3, 7, 15, 15, 15, 111, 239, 15, 15, 1039, 3599, 7695, 16383, 32767, 65535] ⟨[], [none, none, none, none, none, none, none, none, some [0], none, none, none, none, some [0], none, none, none]⟩ hmix (by kernel_rfl) rfl rfl ?_
          refine pu (v := .sc _) rfl rfl (fun _ => rfl) ?_
          refine pu (v := .sc _) rfl rfl (fun _ => rfl) ?_
          refine pu (v := .sc _) rfl rfl (fun _ => rfl) ?_
          refine pu (v := .sc _) rfl rfl (fun _ => rfl) ?_
          refine brR hR (fun h7 hR => ?_) fun h7 hR => ?_
          · refine pu (v := .fn _ _) (wtG rfl rfl rfl h7) rfl (fun _ => rfl) ?_
            refine pu (v := slV Int _ _ _ _) (wtG rfl rfl rfl h7) rfl (fun _ => rfl) ?_
            refine pu (v := .sc _) (wtG rfl rfl rfl h7) rfl (fun _ => rfl) ?_
            obtain ⟨h8, hR⟩ := chkE hR
            refine ixS0 (α := Int) (wtG rfl rfl rfl h7) rfl rfl ti22 rfl ti3 rfl h8 ?_
            refine ldE (α := Int) (v := .sc _) (wtG rfl rfl rfl h7) rfl rfl (ixlt h8) ti3 rfl rfl rfl rfl ?_
            refine pu (v := slV Int _ _ _ _) (wtG rfl rfl rfl h7) rfl (fun _ => rfl) ?_
            refine pu (v := .sc _) (wtG rfl rfl rfl h7) rfl (fun _ => rfl) ?_
            refine pu (v := .sc _) (wtG rfl rfl rfl h7) rfl (fun _ => rfl) ?_
            obtain ⟨h9, hR⟩ := chkE hR
            refine ixS0 (α := Int) (wtG rfl rfl rfl h7) rfl rfl ti22 rfl ti3 rfl h9 ?_
            refine ldE (α := Int) (v := .sc _) (wtG rfl rfl rfl h7) rfl rfl (ixlt h9) ti3 rfl rfl rfl rfl ?_
            obtain ⟨r10, hr10, hR⟩ := bindE hR
            refine cls [1] (wtG rfl rfl rfl h7) rfl cb59 (ok59 (gt s4.1 s4.2) (gt s4.1 (w6 (s4.2 - 1))) cmpc0 _ hr10) (.cons (.sc _) (.cons (.sc _) (.cons (ldX rfl rfl (.cons (.sc _) (.cons (.sc _) (.cons ldR' (.nil)))) rfl) (.nil)))) (.inl (by first | rfl | exact freshR | exact freshA | (simp only [V.fresh, V.freshs, freshR, freshA, Bool.and_self]))) rfl ?_
            refine pu (v := .sc _) (wtG rfl rfl rfl h7) rfl (fun _ => rfl) ?_
            refine pkT (v := .sc (.bool (decide (r10 < 0)))) rfl rfl h7 rfl ?_
            refine RunC.fin ?_
            have hR := Option.some.inj hR; subst hR
            exact Weak.turnL [(0, 0), (1, 0)] [] rfl rfl (tc (trS' rfl rfl rfl rfl rfl) (tc (.sc _) (tc (.sc _) (tc (.fn (.cons (trP' rfl rfl rfl rfl) (.nil))) (tc (.sc _) (tc (.sc _) (tc (.sc _) tn))))))) (mc rfl (btrA' rfl) (mc rfl (.box rfl (.cons (.sc _) (.cons (.sc _) (.cons trR1 (.nil)))) rfl) mn))
          · refine sk (skW rfl rfl rfl h7) ?_
            refine sk (skW rfl rfl rfl h7) ?_
            refine sk (skW rfl rfl rfl h7) ?_
            refine sk (skW rfl rfl rfl h7) ?_
            refine sk (skW rfl rfl rfl h7) ?_
            refine sk (skW rfl rfl rfl h7) ?_
            refine sk (skW rfl rfl rfl h7) ?_
            refine sk (skW rfl rfl rfl h7) ?_
            refine sk (skW rfl rfl rfl h7) ?_
            refine sk (skW rfl rfl rfl h7) ?_
            refine sk (skW rfl rfl rfl h7) ?_
            refine sk (skW rfl rfl rfl h7) ?_
            refine pkF (v := .sc (.bool false)) rfl rfl h7 rfl ?_
            refine RunC.fin ?_
            have hR := Option.some.inj hR; subst hR
            exact Weak.turnL [(0, 0), (1, 0)] [] rfl rfl (tc (trS' rfl rfl rfl rfl rfl) (tc (.sc _) (tc (.sc _) (tc (.fn (.cons (trP' rfl rfl rfl rfl) (.nil))) (tc (.sc _) (tc (.sc _) (tc (.sc _) tn))))))) (mc rfl (btrA' rfl) (mc rfl (.box rfl (.cons (.sc _) (.cons (.sc _) (.cons trR1 (.nil)))) rfl) mn))
        · refine AWP.cd hR rfl (fun h11 hR => ?_) fun h11 hR => ?_
          · refine AWP.skip ?_
            refine skT ?_
            refine AWP.sq ?_
            refine AWP.block ?_
            refine AWP.rgD 74 [0, 0, 0, 0, 8, 0, 0, 64, 224, 480, 0, 0, 3072, 7168, 16355, 32739, 65535, 131071] ⟨[], [none, none, none, none, none, none, none, none, none, some [0], none, none, none, some [0], none, some [0], none, some [0]]⟩ hmix (by kernel_rfl) rfl rfl ?_
            refine pu (v := slV Int _ _ _ _) rfl rfl (fun _ => rfl) ?_
            refine pu (v := .sc _) rfl rfl (fun _ => rfl) ?_
            refine pu (v := slV Int _ _ _ _) rfl rfl (fun _ => rfl) ?_
            refine pu (v := .sc _) rfl rfl (fun _ => rfl) ?_
            refine pu (v := .sc _) rfl rfl (fun _ => rfl) ?_
            refine pu (v := slV Int _ _ _ _) rfl rfl (fun _ => rfl) ?_
            refine pu (v := .sc _) rfl rfl (fun _ => rfl) ?_
            refine pu (v := .sc _) rfl rfl (fun _ => rfl) ?_
            obtain ⟨h12, hR⟩ := chkE hR
            refine ixS0 (α := Int) rfl rfl rfl ti22 rfl ti3 rfl h12 ?_
            refine ldE (α := Int) (v := .sc _) rfl rfl rfl (ixlt h12) ti3 rfl rfl rfl rfl ?_
            refine pu (v := slV Int _ _ _ _) rfl rfl (fun _ => rfl) ?_
            refine pu (v := .sc _) rfl rfl (fun _ => rfl) ?_
            obtain ⟨h13, hR⟩ := chkE hR
            refine ixS0 (α := Int) rfl rfl rfl ti22 rfl ti3 rfl h13 ?_
            refine ldE (α := Int) (v := .sc _) rfl rfl rfl (ixlt h13) ti3 rfl rfl rfl rfl ?_
            refine ixS0 (α := Int) rfl rfl rfl ti22 rfl ti3 rfl h13 ?_
            refine stE (α := Int) (y := gt s4.1 (w6 (s4.2 - 1))) rfl rfl rfl (ixlt h13) ti3 rfl rfl rfl rfl rfl ?_
            refine ixS0 (α := Int) rfl rfl rfl ti22 rfl ti3 rfl h12 ?_
            obtain ⟨v14, ev14, hR⟩ := letE hR
            refine stE (α := Int) (y := gt s4.1 s4.2) rfl rfl rfl (by first | exact ixlt h12 | (simp only [List.length_set]; exact ixlt h12)) ti3 rfl rfl rfl rfl rfl ?_
            rw [ev14]
            refine RunC.blk ?_
            refine RunC.fin ?_
            refine AWP.rgC 86 rfl rfl ?_
            refine pu (v := .sc _) rfl rfl (fun _ => rfl) ?_
            refine pu (v := .sc _) rfl rfl (fun _ => rfl) ?_
            refine pu (v := .sc _) rfl rfl (fun _ => rfl) ?_
            refine RunC.fin ?_
            refine ⟨(v14, w6 (s4.2 - 1)), (Option.some.inj hR).symm, ?_⟩
            exact Weak.turnL [(0, 0), (1, 0)] [] rfl rfl (tc (trS' rfl rfl rfl rfl (by subst ev14; simp only [List.length_set])) (tc (.sc _) (tc (.sc _) (tc (.fn (.cons (trP' rfl rfl rfl rfl) (.nil))) (tc (.sc _) (tc (.sc _) tn)))))) (mc rfl (btrA' rfl) (mc rfl (.box rfl (.cons (.sc _) (.cons (.sc _) (.cons trR1 (.nil)))) rfl) mn))
          · refine AWP.exit ?_
            refine exT ?_
            refine exT ?_
            refine exH (skT ?_)
            refine ⟨s4.1, (Option.some.inj hR).symm, ?_⟩
            exact Weak.turnL [(0, 0), (1, 0)] [] rfl rfl (tc (trS' rfl rfl rfl rfl rfl) (tc (.sc _) (tc (.sc _) (tc (.fn (.cons (trP' rfl rfl rfl rfl) (.nil))) (tc (.sc _) tn))))) (mc rfl (btrA' rfl) (mc rfl (.box rfl (.cons (.sc _) (.cons (.sc _) (.cons trR1 (.nil)))) rfl) mn))
      · refine skB ?_
        refine skT ?_
        refine AWP.rgC 14 rfl rfl ?_
        refine pu (v := .sc _) rfl rfl (fun _ => rfl) ?_
        refine pu (v := .sc _) rfl rfl (fun _ => rfl) ?_
        refine pu (v := .sc _) rfl rfl (fun _ => rfl) ?_
        refine RunC.fin ?_
        refine ⟨(z5, w6 (s1.2 + 1)), (Option.some.inj hR).symm, ?_⟩
        exact Weak.turnL [(0, 0), (1, 0)] [] rfl rfl (tc (trS' rfl rfl rfl rfl rfl) (tc (.sc _) (tc (.sc _) (tc (.fn (.cons (trP' rfl rfl rfl rfl) (.nil))) (tc (.sc _) tn))))) (mc rfl (btrA' rfl) (mc rfl (.box rfl (.cons (.sc _) (.cons (.sc _) (.cons trR1 (.nil)))) rfl) mn))
    · refine AWP.exit ?_
      refine exT ?_
      refine exT ?_
      refine exH (skT ?_)
      refine ⟨s1.1, (Option.some.inj hR).symm, ?_⟩
      exact Weak.turnL [(0, 0), (1, 0)] [] rfl rfl tn (mc rfl (btrA' rfl) (mc rfl (.box rfl (.cons (.sc _) (.cons (.sc _) (.cons trR1 (.nil)))) rfl) mn))
  · have hR := Option.some.inj hR; subst hR
    exact hQ _ _ (LS.mk [] (lblks 0 [arrB (α := Int) 3 0 false z2, boxB (α := Cells) false cmpc0]) 2) (.tup []) [] (.inl rfl) (Weak.turnL [(0, 0), (1, 0)] [] rfl rfl tn (mc rfl (btrA' rfl) (mc rfl (.box rfl (.cons (.sc _) (.cons (.sc _) (.cons trR1 (.nil)))) rfl) mn))) (ro0 ) rfl rfl (.tup .nil) (pc rfl bldA (pc rfl bldB pn))
theorem ok95_53 (data : List Int) (a : Int) (b : Int) (n : Int) (cmpc0 : Cells) (r : (List Int)) (hR : slices_swapRangeCmpFunc_Int_find_Sure_1 data a b n cmpc0 = some r) : FnD Try.prog 95 [arrB 3 0 false data, boxB false cmpc0] [slV Int 0 0 0 data.length, .sc (.int .i64 a), .sc (.int .i64 b), .sc (.int .i64 n), .fn (.func 59) [.ptr 1 0 0]] (.tup []) [arrB 3 0 false r, boxB false cmpc0] := by
  refine FnX.walk Try.func95 rfl 38 2 (by simp [Try.ntmps95]) rfl fun W S F Q hQ => ?_
  unfold slices_swapRangeCmpFunc_Int_find_Sure_1 at hR
  refine AWP.sq ?_
  refine AWP.rgC 6 rfl rfl ?_
  refine pu (v := .sc _) rfl rfl (fun _ => rfl) ?_
  refine RunC.fin ?_
  refine AWP.loopJ (fun s1 : (List Int) × Int => LS.mk [(0, slV Int 0 0 0 s1.1.length), (1, .sc (.int .i64 a)), (2, .sc (.int .i64 b)), (3, .sc (.int .i64 n)), (10, .sc (.int .i64 s1.2))] (lblks 0 [arrB (α := Int) 3 0 false s1.1, boxB (α := Cells) false cmpc0]) 2) (fun z2 : (List Int) => LS.mk [] (lblks 0 [arrB (α := Int) 3 0 false z2, boxB (α := Cells) false cmpc0]) 2) (slices_swapRangeCmpFunc_Int_find_Sure_1.l1 a b n) hR (s0 := (data, 0)) (Weak.turnL [(0, 0), (1, 0)] [] rfl rfl (tc (trS' rfl rfl rfl rfl rfl) (tc (.sc _) (tc (.sc _) (tc (.sc _) (tc (.sc _) tn))))) (mc rfl (btrA' rfl) (mc rfl (.box rfl (.cons (.sc _) (.cons (.sc _) (.cons trR1 (.nil)))) rfl) mn))) (fun s1 o1 hR => ?_) fun z2 hR => ?_
  · unfold slices_swapRangeCmpFunc_Int_find_Sure_1.l1 at hR
    refine AWP.sq ?_
    refine AWP.sq ?_
    refine AWP.rgC 14 rfl rfl ?_
    refine pu (v := .sc _) rfl rfl (fun _ => rfl) ?_
    refine pu (v := .sc _) rfl rfl (fun _ => rfl) ?_
    refine pu (v := .sc _) rfl rfl (fun _ => rfl) ?_
    refine RunC.fin ?_
    refine AWP.cd hR rfl (fun h3 hR => ?_) fun h3 hR => ?_
    · refine AWP.skip ?_
      refine skT ?_
      refine AWP.sq ?_
      refine AWP.block ?_
      refine AWP.rgD 110 [0, 0, 0, 6, 0, 0, 0, 96, 0, 0, 0, 1536, 3840, 7936, 0, 0, 0, 98304, 245760, 507904, 1048335, 2096911, 4194303, 8388607] ⟨[], [none, none, none, none, none, none, none, none, none, none, none, none, none, some [0], none, none, none, none, none, some [0], none, some [0], none, some [0]]⟩ hmix (by kernel_rfl) rfl rfl ?_
      refine pu (v := slV Int _ _ _ _) rfl rfl (fun _ => rfl) ?_
      refine pu (v := .sc _) rfl rfl (fun _ => rfl) ?_
      refine pu (v := .sc _) rfl rfl (fun _ => rfl) ?_
      refine pu (v := .sc _) rfl rfl (fun _ => rfl) ?_
      refine pu (v := slV Int _ _ _ _) rfl rfl (fun _ => rfl) ?_
      refine pu (v := .sc _) rfl rfl (fun _ => rfl) ?_
      refine pu (v := .sc _) rfl rfl (fun _ => rfl) ?_
      refine pu (v := .sc _) rfl rfl (fun _ => rfl) ?_
      refine pu (v := slV Int _ _ _ _) rfl rfl (fun _ => rfl) ?_
      refine pu (v := .sc _) rfl rfl (fun _ => rfl) ?_
      refine pu (v := .sc _) rfl rfl (fun _ => rfl) ?_
      refine pu (v := .sc _) rfl rfl (fun _ => rfl) ?_
      obtain ⟨h4, hR⟩ := chkE hR
      refine ixS0 (α := Int) rfl rfl rfl ti22 rfl ti3 rfl h4 ?_
      refine ldE (α := Int) (v := .sc _) rfl rfl rfl (ixlt h4) ti3 rfl rfl rfl rfl ?_
      refine pu (v := slV Int _ _ _ _) rfl rfl (fun _ => rfl) ?_
      refine pu (v := .sc _) rfl rfl (fun _ => rfl) ?_
      refine pu (v := .sc _) rfl rfl (fun _ => rfl) ?_
      refine pu (v := .sc _) rfl rfl (fun _ => rfl) ?_
      obtain ⟨h5, hR⟩ := chkE hR
      refine ixS0 (α := Int) rfl rfl rfl ti22 rfl ti3 rfl h5 ?_
      refine ldE (α := Int) (v := .sc _) rfl rfl rfl (ixlt h5) ti3 rfl rfl rfl rfl ?_
      refine ixS0 (α := Int) rfl rfl rfl ti22 rfl ti3 rfl h5 ?_
      obtain ⟨v6, ev6, hR⟩ := letE hR
      refine stE (α := Int) (y := gt s1.1 (w6 (b + s1.2))) rfl rfl rfl (ixlt h5) ti3 rfl rfl rfl rfl rfl ?_
      rw [ev6]
      refine ixS0 (α := Int) rfl rfl rfl ti22 rfl ti3 rfl h4 ?_
      refine stE (α := Int) (y := gt s1.1 (w6 (a + s1.2))) rfl rfl rfl (by first | exact ixlt h4 | (subst ev6; simp only [List.length_set]; exact ixlt h4)) ti3 rfl rfl rfl rfl rfl ?_
      refine RunC.blk ?_
      refine RunC.fin ?_
      refine AWP.rgC 122 rfl rfl ?_
      refine pu (v := .sc _) rfl rfl (fun _ => rfl) ?_
      refine pu (v := .sc _) rfl rfl (fun _ => rfl) ?_
      refine pu (v := .sc _) rfl rfl (fun _ => rfl) ?_
      refine RunC.fin ?_
      refine ⟨(List.set v6 (w6 (b + s1.2)).toNat (gt s1.1 (w6 (a + s1.2))), w6 (s1.2 + 1)), (Option.some.inj hR).symm, ?_⟩
      exact Weak.turnL [(0, 0), (1, 0)] [] rfl rfl (tc (trS' rfl rfl rfl rfl (by subst ev6; simp only [List.length_set])) (tc (.sc _) (tc (.sc _) (tc (.sc _) (tc (.sc _) tn))))) (mc rfl (btrA' rfl) (mc rfl (.box rfl (.cons (.sc _) (.cons (.sc _) (.cons trR1 (.nil)))) rfl) mn))
    · refine AWP.exit ?_
      refine exT ?_
      refine exT ?_
      refine exH (skT ?_)
      refine ⟨s1.1, (Option.some.inj hR).symm, ?_⟩
      exact Weak.turnL [(0, 0), (1, 0)] [] rfl rfl tn (mc rfl (btrA' rfl) (mc rfl (.box rfl (.cons (.sc _) (.cons (.sc _) (.cons trR1 (.nil)))) rfl) mn))
  · have hR := Option.some.inj hR; subst hR
    exact hQ _ _ (LS.mk [] (lblks 0 [arrB (α := Int) 3 0 false z2, boxB (α := Cells) false cmpc0]) 2) (.tup []) [] (.inl rfl) (Weak.turnL [(0, 0), (1, 0)] [] rfl rfl tn (mc rfl (btrA' rfl) (mc rfl (.box rfl (.cons (.sc _) (.cons (.sc _) (.cons trR1 (.nil)))) rfl) mn))) (ro0 ) rfl rfl (.tup .nil) (pc rfl bldA (pc rfl bldB pn))
theorem ok93_54 (data : List Int) (a : Int) (m : Int) (b : Int) (cmpc0 : Cells) (r : (List Int)) (hR : slices_rotateCmpFunc_Int_find_Sure_1 data a m b cmpc0 = some r) : FnD Try.prog 93 [arrB 3 0 false data, boxB false cmpc0] [slV Int 0 0 0 data.length, .sc (.int .i64 a), .sc (.int .i64 m), .sc (.int .i64 b), .fn (.func 59) [.ptr 1 0 0]] (.tup []) [arrB 3 0 false r, boxB false cmpc0] := by
  refine FnX.walk Try.func93 rfl 58 2 (by simp [Try.ntmps93]) rfl fun W S F Q hQ => ?_
  unfold slices_rotateCmpFunc_Int_find_Sure_1 at hR
  refine AWP.sq ?_
  refine AWP.rgC 18 rfl rfl ?_
  refine pu (v := .sc _) rfl rfl (fun _ => rfl) ?_
  refine pu (v := .sc _) rfl rfl (fun _ => rfl) ?_
  refine pu (v := .sc _) rfl rfl (fun _ => rfl) ?_
  refine pu (v := .sc _) rfl rfl (fun _ => rfl) ?_
  refine RunC.fin ?_
  refine AWP.sq ?_
  refine AWP.rgC 34 rfl rfl ?_
  refine pu (v := .sc _) rfl rfl (fun _ => rfl) ?_
  refine pu (v := .sc _) rfl rfl (fun _ => rfl) ?_
  refine pu (v := .sc _) rfl rfl (fun _ => rfl) ?_
  refine pu (v := .sc _) rfl rfl (fun _ => rfl) ?_
  refine RunC.fin ?_
  refine AWP.sq ?_
  refine AWP.loopJ (fun s1 : (List Int) × Int × Int => LS.mk [(0, slV Int 0 0 0 s1.1.length), (2, .sc (.int .i64 m)), (4, .fn (.func 59) [.ptr 1 0 0]), (10, .sc (.int .i64 s1.2.1)), (11, .sc (.int .i64 s1.2.2))] (lblks 0 [arrB (α := Int) 3 0 false s1.1, boxB (α := Cells) false cmpc0]) 2) (fun z2 : (List Int) × Int => LS.mk [(0, slV Int 0 0 0 z2.1.length), (2, .sc (.int .i64 m)), (4, .fn (.func 59) [.ptr 1 0 0]), (10, .sc (.int .i64 z2.2))] (lblks 0 [arrB (α := Int) 3 0 false z2.1, boxB (α := Cells) false cmpc0]) 2) (slices_rotateCmpFunc_Int_find_Sure_1.l1 m cmpc0) hR (s0 := (data, w6 (m - a), w6 (b - m))) (Weak.turnL [(0, 0), (1, 0)] [] rfl rfl (tc (trS' rfl rfl rfl rfl rfl) (tc (.sc _) (tc (.fn (.cons (trP' rfl rfl rfl rfl) (.nil))) (tc (.sc _) (tc (.sc _) tn))))) (mc rfl (btrA' rfl) (mc rfl (.box rfl (.cons (.sc _) (.cons (.sc _) (.cons trR1 (.nil)))) rfl) mn))) (fun s1 o1 hR => ?_) fun z2 hR => ?_
  · unfold slices_rotateCmpFunc_Int_find_Sure_1.l1 at hR
    refine AWP.sq ?_
    refine AWP.sq ?_
    refine AWP.rgC 14 rfl rfl ?_
    refine pu (v := .sc _) rfl rfl (fun _ => rfl) ?_
    refine pu (v := .sc _) rfl rfl (fun _ => rfl) ?_
    refine pu (v := .sc _) rfl rfl (fun _ => rfl) ?_
    refine RunC.fin ?_
    refine AWP.cd hR rfl (fun h3 hR => ?_) fun h3 hR => ?_
    · refine AWP.skip ?_
      refine skT ?_
      refine AWP.block ?_
      refine AWP.sq ?_
      refine AWP.rgC 26 rfl rfl ?_
      refine pu (v := .sc _) rfl rfl (fun _ => rfl) ?_
      refine pu (v := .sc _) rfl rfl (fun _ => rfl) ?_
      refine pu (v := .sc _) rfl rfl (fun _ => rfl) ?_
      refine RunC.fin ?_
      refine AWP.cd hR rfl (fun h4 hR => ?_) fun h4 hR => ?_
      · refine AWP.sq ?_
        refine AWP.rgC 58 rfl rfl ?_
        refine pu (v := slV Int _ _ _ _) rfl rfl (fun _ => rfl) ?_
        refine pu (v := .sc _) rfl rfl (fun _ => rfl) ?_
        refine pu (v := .sc _) rfl rfl (fun _ => rfl) ?_
        refine pu (v := .sc _) rfl rfl (fun _ => rfl) ?_
        refine pu (v := .sc _) rfl rfl (fun _ => rfl) ?_
        refine pu (v := .sc _) rfl rfl (fun _ => rfl) ?_
        refine pu (v := .fn _ _) rfl rfl (fun _ => rfl) ?_
        obtain ⟨r5, hr5, hR⟩ := bindE hR
        obtain ⟨h6, hR⟩ := chkE hR
        refine cps (res' := .tup []) (ups := [(0, arrB (α := Int) 3 0 false r5), (1, boxB (α := Cells) false cmpc0)]) [0, 1] 54 rfl rfl rfl cb95 (ok95_53 s1.1 (w6 (m - s1.2.1)) m s1.2.2 cmpc0 _ hr5) (.cons (ldM rfl rfl) (.cons (.sc _) (.cons (.sc _) (.cons (.sc _) (.cons (.fn (.cons (ldP rfl rfl) (.nil))) (.nil)))))) (pc rfl bldA (pc rfl (.box (.cons (.sc _) (.cons (.sc _) (.cons ldR' (.nil)))) rfl) pn)) rfl rfl rfl rfl rfl (by first | rfl | exact renR | exact renA | exact renS | simp only [V.ren, V.rens, renR, renA, renS] | (simp only [V.ren, V.rens, renR, renA, renS]; rfl)) (by simp only [passUps, renBox, renArr]; rfl) ?_
        refine RunC.fin ?_
        refine AWP.rgC 74 rfl rfl ?_
        refine pu (v := .sc _) rfl rfl (fun _ => rfl) ?_
        refine pu (v := .sc _) rfl rfl (fun _ => rfl) ?_
        refine pu (v := .sc _) rfl rfl (fun _ => rfl) ?_
        refine pu (v := .sc _) rfl rfl (fun _ => rfl) ?_
        refine RunC.blk ?_
        refine RunC.fin ?_
        refine ⟨(r5, w6 (s1.2.1 - s1.2.2), s1.2.2), (Option.some.inj hR).symm, ?_⟩
        exact Weak.turnL [(0, 0), (1, 0)] [] rfl rfl (tc (trS' rfl rfl rfl rfl h6) (tc (.sc _) (tc (.fn (.cons (trP' rfl rfl rfl rfl) (.nil))) (tc (.sc _) (tc (.sc _) tn))))) (mc rfl (btrA' rfl) (mc rfl (.box rfl (.cons (.sc _) (.cons (.sc _) (.cons trR1 (.nil)))) rfl) mn))
      · refine AWP.sq ?_
        refine AWP.rgC 74 rfl rfl ?_
        refine pu (v := slV Int _ _ _ _) rfl rfl (fun _ => rfl) ?_
        refine pu (v := .sc _) rfl rfl (fun _ => rfl) ?_
        refine pu (v := .sc _) rfl rfl (fun _ => rfl) ?_
        refine pu (v := .sc _) rfl rfl (fun _ => rfl) ?_
        refine pu (v := .sc _) rfl rfl (fun _ => rfl) ?_
        refine pu (v := .sc _) rfl rfl (fun _ => rfl) ?_
        refine pu (v := .sc _) rfl rfl (fun _ => rfl) ?_
        refine pu (v := .sc _) rfl rfl (fun _ => rfl) ?_
        refine pu (v := .sc _) rfl rfl (fun _ => rfl) ?_
        refine pu (v := .sc _) rfl rfl (fun _ => rfl) ?_
        refine pu (v := .fn _ _) rfl rfl (fun _ => rfl) ?_
        obtain ⟨r7, hr7, hR⟩ := bindE hR
        obtain ⟨h8, hR⟩ := chkE hR
        refine cps (res' := .tup []) (ups := [(0, arrB (α := Int) 3 0 false r7), (1, boxB (α := Cells) false cmpc0)]) [0, 1] 70 rfl rfl rfl cb95 (ok95_53 s1.1 (w6 (m - s1.2.1)) (w6 ((w6 (m + s1.2.2)) - s1.2.1)) s1.2.1 cmpc0 _ hr7) (.cons (ldM rfl rfl) (.cons (.sc _) (.cons (.sc _) (.cons (.sc _) (.cons (.fn (.cons (ldP rfl rfl) (.nil))) (.nil)))))) (pc rfl bldA (pc rfl (.box (.cons (.sc _) (.cons (.sc _) (.cons ldR' (.nil)))) rfl) pn)) rfl rfl rfl rfl rfl (by first | rfl | exact renR | exact renA | exact renS | simp only [V.ren, V.rens, renR, renA, renS] | (simp only [V.ren, V.rens, renR, renA, renS]; rfl)) (by simp only [passUps, renBox, renArr]; rfl) ?_
        refine RunC.fin ?_
        refine AWP.rgC 90 rfl rfl ?_
        refine pu (v := .sc _) rfl rfl (fun _ => rfl) ?_
        refine pu (v := .sc _) rfl rfl (fun _ => rfl) ?_
        refine pu (v := .sc _) rfl rfl (fun _ => rfl) ?_
        refine pu (v := .sc _) rfl rfl (fun _ => rfl) ?_
        refine RunC.blk ?_
        refine RunC.fin ?_
        refine ⟨(r7, s1.2.1, w6 (s1.2.2 - s1.2.1)), (Option.some.inj hR).symm, ?_⟩
        exact Weak.turnL [(0, 0), (1, 0)] [] rfl rfl (tc (trS' rfl rfl rfl rfl h8) (tc (.sc _) (tc (.fn (.cons (trP' rfl rfl rfl rfl) (.nil))) (tc (.sc _) (tc (.sc _) tn))))) (mc rfl (btrA' rfl) (mc rfl (.box rfl (.cons (.sc _) (.cons (.sc _) (.cons trR1 (.nil)))) rfl) mn))
    · refine AWP.exit ?_
      refine exT ?_
      refine exT ?_
      refine exH (skT ?_)
      refine ⟨(s1.1, s1.2.1), (Option.some.inj hR).symm, ?_⟩
      exact Weak.turnL [(0, 0), (1, 0)] [] rfl rfl (tc (trS' rfl rfl rfl rfl rfl) (tc (.sc _) (tc (.fn (.cons (trP' rfl rfl rfl rfl) (.nil))) (tc (.sc _) tn)))) (mc rfl (btrA' rfl) (mc rfl (.box rfl (.cons (.sc _) (.cons (.sc _) (.cons trR1 (.nil)))) rfl) mn))
  · refine skT ?_
    refine AWP.rgC 34 rfl rfl ?_
    refine pu (v := slV Int _ _ _ _) rfl rfl (fun _ => rfl) ?_
    refine pu (v := .sc _) rfl rfl (fun _ => rfl) ?_
    refine pu (v := .sc _) rfl rfl (fun _ => rfl) ?_
    refine pu (v := .sc _) rfl rfl (fun _ => rfl) ?_
    refine pu (v := .sc _) rfl rfl (fun _ => rfl) ?_
    refine pu (v := .sc _) rfl rfl (fun _ => rfl) ?_
    refine pu (v := .fn _ _) rfl rfl (fun _ => rfl) ?_
    obtain ⟨r9, hr9, hR⟩ := bindE hR
    obtain ⟨h10, hR⟩ := chkE hR
    refine cps (res' := .tup []) (ups := [(0, arrB (α := Int) 3 0 false r9), (1, boxB (α := Cells) false cmpc0)]) [0, 1] 30 rfl rfl rfl cb95 (ok95_53 z2.1 (w6 (m - z2.2)) m z2.2 cmpc0 _ hr9) (.cons (ldM rfl rfl) (.cons (.sc _) (.cons (.sc _) (.cons (.sc _) (.cons (.fn (.cons (ldP rfl rfl) (.nil))) (.nil)))))) (pc rfl bldA (pc rfl (.box (.cons (.sc _) (.cons (.sc _) (.cons ldR' (.nil)))) rfl) pn)) rfl rfl rfl rfl rfl (by first | rfl | exact renR | exact renA | exact renS | simp only [V.ren, V.rens, renR, renA, renS] | (simp only [V.ren, V.rens, renR, renA, renS]; rfl)) (by simp only [passUps, renBox, renArr]; rfl) ?_
    refine RunC.nil ?_
    have hR := Option.some.inj hR; subst hR
    exact hQ _ _ (LS.mk [] (lblks 0 [arrB (α := Int) 3 0 false r9, boxB (α := Cells) false cmpc0]) 2) (.tup []) [] (.inl rfl) (Weak.turnL [(0, 0), (1, 0)] [] rfl rfl tn (mc rfl (btrA' rfl) (mc rfl (.box rfl (.cons (.sc _) (.cons (.sc _) (.cons trR1 (.nil)))) rfl) mn))) (ro0 ) rfl rfl (.tup .nil) (pc rfl bldA (pc rfl bldB pn))
theorem ok86_55 : ∀ (fuel : Nat) (data : List Int) (a : Int) (m : Int) (b : Int) (cmpc0 : Cells) (r : (List Int) × Cells) (hR : slices_symMergeCmpFunc_Int_find_Sure_1_2 fuel data a m b cmpc0 = some r), FnD Try.prog 86 [arrB 3 0 false data, boxB false cmpc0] [slV Int 0 0 0 data.length, .sc (.int .i64 a), .sc (.int .i64 m), .sc (.int .i64 b), .fn (.func 59) [.ptr 1 0 0]] (.tup []) [arrB 3 0 false r.1, boxB false r.2] := by
  intro fuel
  induction fuel with
  | zero => intro data a m b cmpc0 r hR; exact nomatch (show none = some r from hR)
  | succ fuel ih =>
    intro data a m b cmpc0 r hR
    refine FnX.walk Try.func86 rfl 220 2 (by simp [Try.ntmps86]) rfl fun W S F Q hQ => ?_
    unfold slices_symMergeCmpFunc_Int_find_Sure_1_2 at hR
    refine AWP.sq ?_
    refine AWP.sq ?_
    refine AWP.rgC 18 rfl rfl ?_
    refine pu (v := .sc _) rfl rfl (fun _ => rfl) ?_
    refine pu (v := .sc _) rfl rfl (fun _ => rfl) ?_
    refine pu (v := .sc _) rfl rfl (fun _ => rfl) ?_
    refine pu (v := .sc _) rfl rfl (fun _ => rfl) ?_
    refine RunC.fin ?_
    refine AWP.cd hR rfl (fun h1 hR => ?_) fun h1 hR => ?_
    · refine AWP.sq ?_
      refine AWP.rgC 26 rfl rfl ?_
      refine pu (v := .sc _) rfl rfl (fun _ => rfl) ?_
      refine pu (v := .sc _) rfl rfl (fun _ => rfl) ?_
      refine RunC.fin ?_
      refine AWP.sq ?_
      refine AWP.rgC 34 rfl rfl ?_
      refine pu (v := .sc _) rfl rfl (fun _ => rfl) ?_
      refine pu (v := .sc _) rfl rfl (fun _ => rfl) ?_
      refine RunC.fin ?_
      refine AWP.sq ?_
      refine AWP.loopJ (fun s2 : Int × Int => LS.mk [(0, slV Int 0 0 0 data.length), (1, .sc (.int .i64 a)), (4, .fn (.func 59) [.ptr 1 0 0]), (10, .sc (.int .i64 s2.1)), (11, .sc (.int .i64 s2.2))] (lblks 0 [arrB (α := Int) 3 0 false data, boxB (α := Cells) false cmpc0]) 2) (fun z3 : Int => LS.mk [(0, slV Int 0 0 0 data.length), (1, .sc (.int .i64 a)), (10, .sc (.int .i64 z3))] (lblks 0 [arrB (α := Int) 3 0 false data, boxB (α := Cells) false cmpc0]) 2) (slices_symMergeCmpFunc_Int_find_Sure_1_2.l1 data a cmpc0) hR (s0 := (m, b)) (Weak.turnL [(0, 0), (1, 0)] [] rfl rfl (tc (trS' rfl rfl rfl rfl rfl) (tc (.sc _) (tc (.fn (.cons (trP' rfl rfl rfl rfl) (.nil))) (tc (.sc _) (tc (.sc _) tn))))) (mc rfl (btrA' rfl) (mc rfl (.box rfl (.cons (.sc _) (.cons (.sc _) (.cons trR1 (.nil)))) rfl) mn))) (fun s2 o2 hR => ?_) fun z3 hR => ?_
      · unfold slices_symMergeCmpFunc_Int_find_Sure_1_2.l1 at hR
        refine AWP.sq ?_
        refine AWP.sq ?_
        refine AWP.rgC 14 rfl rfl ?_
        refine pu (v := .sc _) rfl rfl (fun _ => rfl) ?_
        refine pu (v := .sc _) rfl rfl (fun _ => rfl) ?_
        refine pu (v := .sc _) rfl rfl (fun _ => rfl) ?_
        refine RunC.fin ?_
        refine AWP.cd hR rfl (fun h4 hR => ?_) fun h4 hR => ?_
        · refine AWP.skip ?_
          refine skT ?_
          refine AWP.block ?_
          refine AWP.sq ?_
          refine AWP.rgC 42 rfl rfl ?_
          refine pu (v := .sc _) rfl rfl (fun _ => rfl) ?_
          refine pu (v := .sc _) rfl rfl (fun _ => rfl) ?_
          refine pu (v := .sc _) rfl rfl (fun _ => rfl) ?_
          refine cn rfl rfl ti3 rfl ti102 rfl rfl ?_
          refine pu (v := .sc _) rfl rfl (fun _ => rfl) ?_
          refine cn rfl rfl ti102 rfl ti3 rfl rfl ?_
          refine pu (v := .sc _) rfl rfl (fun _ => rfl) ?_
          refine RunC.fin ?_
          refine AWP.sq ?_
          refine AWP.rgD 86 [0, 0, 0, 6, 14, 0, 0, 96, 224, 511, 1023] ⟨[], [none, none, none, none, some [0], none, none, none, some [0], none, none]⟩ hmix (by kernel_rfl) rfl rfl ?_
          refine pu (v := .fn _ _) rfl rfl (fun _ => rfl) ?_
          refine pu (v := slV Int _ _ _ _) rfl rfl (fun _ => rfl) ?_
          refine pu (v := .sc _) rfl rfl (fun _ => rfl) ?_
          obtain ⟨h5, hR⟩ := chkE hR
          refine ixS0 (α := Int) rfl rfl rfl ti22 rfl ti3 rfl h5 ?_
          refine ldE (α := Int) (v := .sc _) rfl rfl rfl (ixlt h5) ti3 rfl rfl rfl rfl ?_
          refine pu (v := slV Int _ _ _ _) rfl rfl (fun _ => rfl) ?_
          refine pu (v := .sc _) rfl rfl (fun _ => rfl) ?_
          obtain ⟨h6, hR⟩ := chkE hR
          refine ixS0 (α := Int) rfl rfl rfl ti22 rfl ti3 rfl h6 ?_
          refine ldE (α := Int) (v := .sc _) rfl rfl rfl (ixlt h6) ti3 rfl rfl rfl rfl ?_
          obtain ⟨r7, hr7, hR⟩ := bindE hR
          refine cls [1] rfl rfl cb59 (ok59 (gt data (w6 (Int.fdiv (IntKind.wrap .u64 (w6 (s2.1 + s2.2))) (2 ^ 1)))) (gt data a) cmpc0 _ hr7) (.cons (.sc _) (.cons (.sc _) (.cons (ldX rfl rfl (.cons (.sc _) (.cons (.sc _) (.cons ldR' (.nil)))) rfl) (.nil)))) (.inl (by first | rfl | exact freshR | exact freshA | (simp only [V.fresh, V.freshs, freshR, freshA, Bool.and_self]))) rfl ?_
          refine pu (v := .sc _) rfl rfl (fun _ => rfl) ?_
          refine RunC.fin ?_
          refine AWP.cd hR rfl (fun h8 hR => ?_) fun h8 hR => ?_
          · refine AWP.rgC 98 rfl rfl ?_
            refine pu (v := .sc _) rfl rfl (fun _ => rfl) ?_
            obtain ⟨v9, ev9, hR⟩ := letE hR
            refine pu (v := .sc _) rfl rfl (fun _ => puI ev9) ?_
            refine pu (v := .sc _) rfl rfl (fun _ => rfl) ?_
            refine RunC.blk ?_
            refine RunC.fin ?_
            refine ⟨(v9, s2.2), (Option.some.inj hR).symm, ?_⟩
            exact Weak.turnL [(0, 0), (1, 0)] [] rfl rfl (tc (trS' rfl rfl rfl rfl rfl) (tc (.sc _) (tc (.fn (.cons (trP' rfl rfl rfl rfl) (.nil))) (tc (.sc _) (tc (.sc _) tn))))) (mc rfl (btrA' rfl) (mc rfl (.box rfl (.cons (.sc _) (.cons (.sc _) (.cons trR1 (.nil)))) rfl) mn))
          · refine AWP.rgC 94 rfl rfl ?_
            refine pu (v := .sc _) rfl rfl (fun _ => rfl) ?_
            refine pu (v := .sc _) rfl rfl (fun _ => rfl) ?_
            refine RunC.blk ?_
            refine RunC.fin ?_
            refine ⟨(s2.1, w6 (Int.fdiv (IntKind.wrap .u64 (w6 (s2.1 + s2.2))) (2 ^ 1))), (Option.some.inj hR).symm, ?_⟩
            exact Weak.turnL [(0, 0), (1, 0)] [] rfl rfl (tc (trS' rfl rfl rfl rfl rfl) (tc (.sc _) (tc (.fn (.cons (trP' rfl rfl rfl rfl) (.nil))) (tc (.sc _) (tc (.sc _) tn))))) (mc rfl (btrA' rfl) (mc rfl (.box rfl (.cons (.sc _) (.cons (.sc _) (.cons trR1 (.nil)))) rfl) mn))
        · refine AWP.exit ?_
          refine exT ?_
          refine exT ?_
          refine exH (skT ?_)
          refine ⟨s2.1, (Option.some.inj hR).symm, ?_⟩
          exact Weak.turnL [(0, 0), (1, 0)] [] rfl rfl (tc (trS' rfl rfl rfl rfl rfl) (tc (.sc _) (tc (.sc _) tn))) (mc rfl (btrA' rfl) (mc rfl (.box rfl (.cons (.sc _) (.cons (.sc _) (.cons trR1 (.nil)))) rfl) mn))
      · refine skT ?_
        refine AWP.sq ?_
        refine AWP.sq ?_
        refine AWP.rgC 10 rfl rfl ?_
        refine pu (v := .sc _) rfl rfl (fun _ => rfl) ?_
        refine pu (v := .sc _) rfl rfl (fun _ => rfl) ?_
        refine RunC.fin ?_
        refine AWP.loopJ (fun s10 : (List Int) × Int => LS.mk [(0, slV Int 0 0 0 s10.1.length), (10, .sc (.int .i64 z3)), (13, .sc (.int .i64 s10.2))] (lblks 0 [arrB (α := Int) 3 0 false s10.1, boxB (α := Cells) false cmpc0]) 2) (fun z11 : (List Int) => LS.mk [] (lblks 0 [arrB (α := Int) 3 0 false z11, boxB (α := Cells) false cmpc0]) 2) (slices_symMergeCmpFunc_Int_find_Sure_1_2.l2 z3) hR (s0 := (data, a)) (Weak.turnL [(0, 0), (1, 0)] [] rfl rfl (tc (trS' rfl rfl rfl rfl rfl) (tc (.sc _) (tc (.sc _) tn))) (mc rfl (btrA' rfl) (mc rfl (.box rfl (.cons (.sc _) (.cons (.sc _) (.cons trR1 (.nil)))) rfl) mn))) (fun s10 o10 hR => ?_) fun z11 hR => ?_
        · unfold slices_symMergeCmpFunc_Int_find_Sure_1_2.l2 at hR
          refine AWP.sq ?_
          refine AWP.sq ?_
          refine AWP.rgC 18 rfl rfl ?_
          refine pu (v := .sc _) rfl rfl (fun _ => rfl) ?_
          refine pu (v := .sc _) rfl rfl (fun _ => rfl) ?_
          refine pu (v := .sc _) rfl rfl (fun _ => rfl) ?_
          refine pu (v := .sc _) rfl rfl (fun _ => rfl) ?_
          refine RunC.fin ?_
          refine AWP.cd hR rfl (fun h12 hR => ?_) fun h12 hR => ?_
          · refine AWP.skip ?_
            refine skT ?_
            refine AWP.sq ?_
            refine AWP.block ?_
            refine AWP.rgD 90 [0, 0, 0, 0, 8, 0, 0, 64, 224, 480, 0, 0, 3072, 7168, 16355, 32739, 65535, 131071] ⟨[], [none, none, none, none, none, none, none, none, none, some [0], none, none, none, some [0], none, some [0], none, some [0]]⟩ hmix (by kernel_rfl) rfl rfl ?_
            refine pu (v := slV Int _ _ _ _) rfl rfl (fun _ => rfl) ?_
            refine pu (v := .sc _) rfl rfl (fun _ => rfl) ?_
            refine pu (v := slV Int _ _ _ _) rfl rfl (fun _ => rfl) ?_
            refine pu (v := .sc _) rfl rfl (fun _ => rfl) ?_
            refine pu (v := .sc _) rfl rfl (fun _ => rfl) ?_
            refine pu (v := slV Int _ _ _ _) rfl rfl (fun _ => rfl) ?_
            refine pu (v := .sc _) rfl rfl (fun _ => rfl) ?_
            refine pu (v := .sc _) rfl rfl (fun _ => rfl) ?_
            obtain ⟨h13, hR⟩ := chkE hR
            refine ixS0 (α := Int) rfl rfl rfl ti22 rfl ti3 rfl h13 ?_
            refine ldE (α := Int) (v := .sc _) rfl rfl rfl (ixlt h13) ti3 rfl rfl rfl rfl ?_
            refine pu (v := slV Int _ _ _ _) rfl rfl (fun _ => rfl) ?_
            refine pu (v := .sc _) rfl rfl (fun _ => rfl) ?_
            obtain ⟨h14, hR⟩ := chkE hR
            refine ixS0 (α := Int) rfl rfl rfl ti22 rfl ti3 rfl h14 ?_
            refine ldE (α := Int) (v := .sc _) rfl rfl rfl (ixlt h14) ti3 rfl rfl rfl rfl ?_
            refine ixS0 (α := Int) rfl rfl rfl ti22 rfl ti3 rfl h14 ?_
            refine stE (α := Int) (y := gt s10.1 (w6 (s10.2 + 1))) rfl rfl rfl (ixlt h14) ti3 rfl rfl rfl rfl rfl ?_
            refine ixS0 (α := Int) rfl rfl rfl ti22 rfl ti3 rfl h13 ?_
            obtain ⟨v15, ev15, hR⟩ := letE hR
            refine stE (α := Int) (y := gt s10.1 s10.2) rfl rfl rfl (by first | exact ixlt h13 | (simp only [List.length_set]; exact ixlt h13)) ti3 rfl rfl rfl rfl rfl ?_
            rw [ev15]
            refine RunC.blk ?_
            refine RunC.fin ?_
            refine AWP.rgC 102 rfl rfl ?_
            refine pu (v := .sc _) rfl rfl (fun _ => rfl) ?_
            refine pu (v := .sc _) rfl rfl (fun _ => rfl) ?_
            refine pu (v := .sc _) rfl rfl (fun _ => rfl) ?_
            refine RunC.fin ?_
            refine ⟨(v15, w6 (s10.2 + 1)), (Option.some.inj hR).symm, ?_⟩
            exact Weak.turnL [(0, 0), (1, 0)] [] rfl rfl (tc (trS' rfl rfl rfl rfl (by subst ev15; simp only [List.length_set])) (tc (.sc _) (tc (.sc _) tn))) (mc rfl (btrA' rfl) (mc rfl (.box rfl (.cons (.sc _) (.cons (.sc _) (.cons trR1 (.nil)))) rfl) mn))
          · refine AWP.exit ?_
            refine exT ?_
            refine exT ?_
            refine exH (skT ?_)
            refine ⟨s10.1, (Option.some.inj hR).symm, ?_⟩
            exact Weak.turnL [(0, 0), (1, 0)] [] rfl rfl tn (mc rfl (btrA' rfl) (mc rfl (.box rfl (.cons (.sc _) (.cons (.sc _) (.cons trR1 (.nil)))) rfl) mn))
        · refine skT ?_
          refine AWP.ret ?_
          refine rtT ?_
          have hR := Option.some.inj hR; subst hR
          exact hQ _ _ (LS.mk [] (lblks 0 [arrB (α := Int) 3 0 false z11, boxB (α := Cells) false cmpc0]) 2) (.tup []) [] (.inr rfl) (Weak.turnL [(0, 0), (1, 0)] [] rfl rfl tn (mc rfl (btrA' rfl) (mc rfl (.box rfl (.cons (.sc _) (.cons (.sc _) (.cons trR1 (.nil)))) rfl) mn))) (ro0 ) rfl rfl (.tup .nil) (pc rfl bldA (pc rfl bldB pn))
    · refine AWP.skip ?_
      refine skT ?_
      refine AWP.sq ?_
      refine AWP.sq ?_
      refine AWP.rgC 34 rfl rfl ?_
      refine pu (v := .sc _) rfl rfl (fun _ => rfl) ?_
      refine pu (v := .sc _) rfl rfl (fun _ => rfl) ?_
      refine pu (v := .sc _) rfl rfl (fun _ => rfl) ?_
      refine pu (v := .sc _) rfl rfl (fun _ => rfl) ?_
      refine RunC.fin ?_
      refine AWP.cd hR rfl (fun h16 hR => ?_) fun h16 hR => ?_
      · refine AWP.sq ?_
        refine AWP.rgC 42 rfl rfl ?_
        refine pu (v := .sc _) rfl rfl (fun _ => rfl) ?_
        refine pu (v := .sc _) rfl rfl (fun _ => rfl) ?_
        refine RunC.fin ?_
        refine AWP.sq ?_
        refine AWP.rgC 50 rfl rfl ?_
        refine pu (v := .sc _) rfl rfl (fun _ => rfl) ?_
        refine pu (v := .sc _) rfl rfl (fun _ => rfl) ?_
        refine RunC.fin ?_
        refine AWP.sq ?_
        refine AWP.loopJ (fun s17 : Int × Int => LS.mk [(0, slV Int 0 0 0 data.length), (2, .sc (.int .i64 m)), (4, .fn (.func 59) [.ptr 1 0 0]), (14, .sc (.int .i64 s17.1)), (15, .sc (.int .i64 s17.2))] (lblks 0 [arrB (α := Int) 3 0 false data, boxB (α := Cells) false cmpc0]) 2) (fun z18 : Int => LS.mk [(0, slV Int 0 0 0 data.length), (2, .sc (.int .i64 m)), (14, .sc (.int .i64 z18))] (lblks 0 [arrB (α := Int) 3 0 false data, boxB (α := Cells) false cmpc0]) 2) (slices_symMergeCmpFunc_Int_find_Sure_1_2.l3 data m cmpc0) hR (s0 := (a, m)) (Weak.turnL [(0, 0), (1, 0)] [] rfl rfl (tc (trS' rfl rfl rfl rfl rfl) (tc (.sc _) (tc (.fn (.cons (trP' rfl rfl rfl rfl) (.nil))) (tc (.sc _) (tc (.sc _) tn))))) (mc rfl (btrA' rfl) (mc rfl (.box rfl (.cons (.sc _) (.cons (.sc _) (.cons trR1 (.nil)))) rfl) mn))) (fun s17 o17 hR => ?_) fun z18 hR => ?_
        · unfold slices_symMergeCmpFunc_Int_find_Sure_1_2.l3 at hR
          refine AWP.sq ?_
          refine AWP.sq ?_
          refine AWP.rgC 14 rfl rfl ?_
          refine pu (v := .sc _) rfl rfl (fun _ => rfl) ?_
          refine pu (v := .sc _) rfl rfl (fun _ => rfl) ?_
          refine pu (v := .sc _) rfl rfl (fun _ => rfl) ?_
          refine RunC.fin ?_
          refine AWP.cd hR rfl (fun h19 hR => ?_) fun h19 hR => ?_
          · refine AWP.skip ?_
            refine skT ?_
            refine AWP.block ?_
            refine AWP.sq ?_
            refine AWP.rgC 42 rfl rfl ?_
            refine pu (v := .sc _) rfl rfl (fun _ => rfl) ?_
            refine pu (v := .sc _) rfl rfl (fun _ => rfl) ?_
            refine pu (v := .sc _) rfl rfl (fun _ => rfl) ?_
            refine cn rfl rfl ti3 rfl ti102 rfl rfl ?_
            refine pu (v := .sc _) rfl rfl (fun _ => rfl) ?_
            refine cn rfl rfl ti102 rfl ti3 rfl rfl ?_
            refine pu (v := .sc _) rfl rfl (fun _ => rfl) ?_
            refine RunC.fin ?_
            refine AWP.sq ?_
            refine AWP.rgD 90 [0, 0, 0, 6, 14, 0, 0, 96, 224, 511, 1023, 2047] ⟨[], [none, none, none, none, some [0], none, none, none, some [0], none, none, none]⟩ hmix (by kernel_rfl) rfl rfl ?_
            refine pu (v := .fn _ _) rfl rfl (fun _ => rfl) ?_
            refine pu (v := slV Int _ _ _ _) rfl rfl (fun _ => rfl) ?_
            refine pu (v := .sc _) rfl rfl (fun _ => rfl) ?_
            obtain ⟨h20, hR⟩ := chkE hR
            refine ixS0 (α := Int) rfl rfl rfl ti22 rfl ti3 rfl h20 ?_
            refine ldE (α := Int) (v := .sc _) rfl rfl rfl (ixlt h20) ti3 rfl rfl rfl rfl ?_
            refine pu (v := slV Int _ _ _ _) rfl rfl (fun _ => rfl) ?_
            refine pu (v := .sc _) rfl rfl (fun _ => rfl) ?_
            obtain ⟨h21, hR⟩ := chkE hR
            refine ixS0 (α := Int) rfl rfl rfl ti22 rfl ti3 rfl h21 ?_
            refine ldE (α := Int) (v := .sc _) rfl rfl rfl (ixlt h21) ti3 rfl rfl rfl rfl ?_
            obtain ⟨r22, hr22, hR⟩ := bindE hR
            refine cls [1] rfl rfl cb59 (ok59 (gt data m) (gt data (w6 (Int.fdiv (IntKind.wrap .u64 (w6 (s17.1 + s17.2))) (2 ^ 1)))) cmpc0 _ hr22) (.cons (.sc _) (.cons (.sc _) (.cons (ldX rfl rfl (.cons (.sc _) (.cons (.sc _) (.cons ldR' (.nil)))) rfl) (.nil)))) (.inl (by first | rfl | exact freshR | exact freshA | (simp only [V.fresh, V.freshs, freshR, freshA, Bool.and_self]))) rfl ?_
            refine pu (v := .sc _) rfl rfl (fun _ => rfl) ?_
            refine pu (v := .sc _) rfl rfl (fun _ => rfl) ?_
            refine RunC.fin ?_
            refine AWP.cd hR rfl (fun h23 hR => ?_) fun h23 hR => ?_
            · refine AWP.rgC 102 rfl rfl ?_
              refine pu (v := .sc _) rfl rfl (fun _ => rfl) ?_
              obtain ⟨v24, ev24, hR⟩ := letE hR
              refine pu (v := .sc _) rfl rfl (fun _ => puI ev24) ?_
              refine pu (v := .sc _) rfl rfl (fun _ => rfl) ?_
              refine RunC.blk ?_
              refine RunC.fin ?_
              refine ⟨(v24, s17.2), (Option.some.inj hR).symm, ?_⟩
              exact Weak.turnL [(0, 0), (1, 0)] [] rfl rfl (tc (trS' rfl rfl rfl rfl rfl) (tc (.sc _) (tc (.fn (.cons (trP' rfl rfl rfl rfl) (.nil))) (tc (.sc _) (tc (.sc _) tn))))) (mc rfl (btrA' rfl) (mc rfl (.box rfl (.cons (.sc _) (.cons (.sc _) (.cons trR1 (.nil)))) rfl) mn))
            · refine AWP.rgC 98 rfl rfl ?_
              refine pu (v := .sc _) rfl rfl (fun _ => rfl) ?_
              refine pu (v := .sc _) rfl rfl (fun _ => rfl) ?_
              refine RunC.blk ?_
              refine RunC.fin ?_
              refine ⟨(s17.1, w6 (Int.fdiv (IntKind.wrap .u64 (w6 (s17.1 + s17.2))) (2 ^ 1))), (Option.some.inj hR).symm, ?_⟩
              exact Weak.turnL [(0, 0), (1, 0)] [] rfl rfl (tc (trS' rfl rfl rfl rfl rfl) (tc (.sc _) (tc (.fn (.cons (trP' rfl rfl rfl rfl) (.nil))) (tc (.sc _) (tc (.sc _) tn))))) (mc rfl (btrA' rfl) (mc rfl (.box rfl (.cons (.sc _) (.cons (.sc _) (.cons trR1 (.nil)))) rfl) mn))
          · refine AWP.exit ?_
            refine exT ?_
            refine exT ?_
            refine exH (skT ?_)
            refine ⟨s17.1, (Option.some.inj hR).symm, ?_⟩
            exact Weak.turnL [(0, 0), (1, 0)] [] rfl rfl (tc (trS' rfl rfl rfl rfl rfl) (tc (.sc _) (tc (.sc _) tn))) (mc rfl (btrA' rfl) (mc rfl (.box rfl (.cons (.sc _) (.cons (.sc _) (.cons trR1 (.nil)))) rfl) mn))
        · refine skT ?_
          refine AWP.sq ?_
          refine AWP.sq ?_
          refine AWP.rgC 10 rfl rfl ?_
          refine pu (v := .sc _) rfl rfl (fun _ => rfl) ?_
          refine pu (v := .sc _) rfl rfl (fun _ => rfl) ?_
          refine RunC.fin ?_
          refine AWP.loopJ (fun s25 : (List Int) × Int => LS.mk [(0, slV Int 0 0 0 s25.1.length), (14, .sc (.int .i64 z18)), (17, .sc (.int .i64 s25.2))] (lblks 0 [arrB (α := Int) 3 0 false s25.1, boxB (α := Cells) false cmpc0]) 2) (fun z26 : (List Int) => LS.mk [] (lblks 0 [arrB (α := Int) 3 0 false z26, boxB (α := Cells) false cmpc0]) 2) (slices_symMergeCmpFunc_Int_find_Sure_1_2.l4 z18) hR (s0 := (data, m)) (Weak.turnL [(0, 0), (1, 0)] [] rfl rfl (tc (trS' rfl rfl rfl rfl rfl) (tc (.sc _) (tc (.sc _) tn))) (mc rfl (btrA' rfl) (mc rfl (.box rfl (.cons (.sc _) (.cons (.sc _) (.cons trR1 (.nil)))) rfl) mn))) (fun s25 o25 hR => ?_) fun z26 hR => ?_
          · unfold slices_symMergeCmpFunc_Int_find_Sure_1_2.l4 at hR
            refine AWP.sq ?_
            refine AWP.sq ?_
            refine AWP.rgC 14 rfl rfl ?_
            refine pu (v := .sc _) rfl rfl (fun _ => rfl) ?_
            refine pu (v := .sc _) rfl rfl (fun _ => rfl) ?_
            refine pu (v := .sc _) rfl rfl (fun _ => rfl) ?_
            refine RunC.fin ?_
            refine AWP.cd hR rfl (fun h27 hR => ?_) fun h27 hR => ?_
            · refine AWP.skip ?_
              refine skT ?_
              refine AWP.sq ?_
              refine AWP.block ?_
              refine AWP.rgD 86 [0, 0, 0, 0, 8, 0, 0, 64, 224, 480, 0, 0, 3072, 7168, 16355, 32739, 65535, 131071] ⟨[], [none, none, none, none, none, none, none, none, none, some [0], none, none, none, some [0], none, some [0], none, some [0]]⟩ hmix (by kernel_rfl) rfl rfl ?_
              refine pu (v := slV Int _ _ _ _) rfl rfl (fun _ => rfl) ?_
              refine pu (v := .sc _) rfl rfl (fun _ => rfl) ?_
              refine pu (v := slV Int _ _ _ _) rfl rfl (fun _ => rfl) ?_
              refine pu (v := .sc _) rfl rfl (fun _ => rfl) ?_
              refine pu (v := .sc _) rfl rfl (fun _ => rfl) ?_
              refine pu (v := slV Int _ _ _ _) rfl rfl (fun _ => rfl) ?_
              refine pu (v := .sc _) rfl rfl (fun _ => rfl) ?_
              refine pu (v := .sc _) rfl rfl (fun _ => rfl) ?_
              obtain ⟨h28, hR⟩ := chkE hR
              refine ixS0 (α := Int) rfl rfl rfl ti22 rfl ti3 rfl h28 ?_
              refine ldE (α := Int) (v := .sc _) rfl rfl rfl (ixlt h28) ti3 rfl rfl rfl rfl ?_
              refine pu (v := slV Int _ _ _ _) rfl rfl (fun _ => rfl) ?_
              refine pu (v := .sc _) rfl rfl (fun _ => rfl) ?_
              obtain ⟨h29, hR⟩ := chkE hR
              refine ixS0 (α := Int) rfl rfl rfl ti22 rfl ti3 rfl h29 ?_
              refine ldE (α := Int) (v := .sc _) rfl rfl rfl (ixlt h29) ti3 rfl rfl rfl rfl ?_
              refine ixS0 (α := Int) rfl rfl rfl ti22 rfl ti3 rfl h29 ?_
              refine stE (α := Int) (y := gt s25.1 (w6 (s25.2 - 1))) rfl rfl rfl (ixlt h29) ti3 rfl rfl rfl rfl rfl ?_
              refine ixS0 (α := Int) rfl rfl rfl ti22 rfl ti3 rfl h28 ?_
              obtain ⟨v30, ev30, hR⟩ := letE hR
              refine stE (α := Int) (y := gt s25.1 s25.2) rfl rfl rfl (by first | exact ixlt h28 | (simp only [List.length_set]; exact ixlt h28)) ti3 rfl rfl rfl rfl rfl ?_
              rw [ev30]
              refine RunC.blk ?_
              refine RunC.fin ?_
              refine AWP.rgC 98 rfl rfl ?_
              refine pu (v := .sc _) rfl rfl (fun _ => rfl) ?_
              refine pu (v := .sc _) rfl rfl (fun _ => rfl) ?_
              refine pu (v := .sc _) rfl rfl (fun _ => rfl) ?_
              refine RunC.fin ?_
              refine ⟨(v30, w6 (s25.2 - 1)), (Option.some.inj hR).symm, ?_⟩
              exact Weak.turnL [(0, 0), (1, 0)] [] rfl rfl (tc (trS' rfl rfl rfl rfl (by subst ev30; simp only [List.length_set])) (tc (.sc _) (tc (.sc _) tn))) (mc rfl (btrA' rfl) (mc rfl (.box rfl (.cons (.sc _) (.cons (.sc _) (.cons trR1 (.nil)))) rfl) mn))
            · refine AWP.exit ?_
              refine exT ?_
              refine exT ?_
              refine exH (skT ?_)
              refine ⟨s25.1, (Option.some.inj hR).symm, ?_⟩
              exact Weak.turnL [(0, 0), (1, 0)] [] rfl rfl tn (mc rfl (btrA' rfl) (mc rfl (.box rfl (.cons (.sc _) (.cons (.sc _) (.cons trR1 (.nil)))) rfl) mn))
          · refine skT ?_
            refine AWP.ret ?_
            refine rtT ?_
            have hR := Option.some.inj hR; subst hR
            exact hQ _ _ (LS.mk [] (lblks 0 [arrB (α := Int) 3 0 false z26, boxB (α := Cells) false cmpc0]) 2) (.tup []) [] (.inr rfl) (Weak.turnL [(0, 0), (1, 0)] [] rfl rfl tn (mc rfl (btrA' rfl) (mc rfl (.box rfl (.cons (.sc _) (.cons (.sc _) (.cons trR1 (.nil)))) rfl) mn))) (ro0 ) rfl rfl (.tup .nil) (pc rfl bldA (pc rfl bldB pn))
      · refine AWP.skip ?_
        refine skT ?_
        refine AWP.sq ?_
        refine AWP.rgC 62 rfl rfl ?_
        refine pu (v := .sc _) rfl rfl (fun _ => rfl) ?_
        refine pu (v := .sc _) rfl rfl (fun _ => rfl) ?_
        refine pu (v := .sc _) rfl rfl (fun _ => rfl) ?_
        refine cn rfl rfl ti3 rfl ti102 rfl rfl ?_
        refine pu (v := .sc _) rfl rfl (fun _ => rfl) ?_
        refine cn rfl rfl ti102 rfl ti3 rfl rfl ?_
        refine pu (v := .sc _) rfl rfl (fun _ => rfl) ?_
        refine RunC.fin ?_
        refine AWP.sq ?_
        refine AWP.rgC 78 rfl rfl ?_
        refine pu (v := .sc _) rfl rfl (fun _ => rfl) ?_
        refine pu (v := .sc _) rfl rfl (fun _ => rfl) ?_
        obtain ⟨v31, ev31, hR⟩ := letE hR
        refine pu (v := .sc _) rfl rfl (fun _ => puI ev31) ?_
        refine pu (v := .sc _) rfl rfl (fun _ => rfl) ?_
        refine RunC.fin ?_
        refine AWP.sq ?_
        refine AWP.rgC 86 rfl rfl ?_
        refine pu (v := .sc _) rfl rfl (fun _ => rfl) ?_
        refine pu (v := .sc _) rfl rfl (fun _ => rfl) ?_
        refine RunC.fin ?_
        refine AWP.sq ?_
        refine AWP.sq ?_
        refine AWP.rgC 98 rfl rfl ?_
        refine pu (v := .sc _) rfl rfl (fun _ => rfl) ?_
        refine pu (v := .sc _) rfl rfl (fun _ => rfl) ?_
        obtain ⟨v32, ev32, hR⟩ := letE hR
        refine pu (v := .sc _) rfl rfl (fun _ => puB ev32) ?_
        refine RunC.fin ?_
        refine AWP.cd hR rfl (fun h33 hR => ?_) fun h33 hR => ?_
        · refine AWP.sq ?_
          refine AWP.rgC 114 rfl rfl ?_
          refine pu (v := .sc _) rfl rfl (fun _ => rfl) ?_
          refine pu (v := .sc _) rfl rfl (fun _ => rfl) ?_
          refine pu (v := .sc _) rfl rfl (fun _ => rfl) ?_
          refine pu (v := .sc _) rfl rfl (fun _ => rfl) ?_
          refine RunC.fin ?_
          refine AWP.rgC 122 rfl rfl ?_
          refine pu (v := .sc _) rfl rfl (fun _ => rfl) ?_
          refine pu (v := .sc _) rfl rfl (fun _ => rfl) ?_
          refine RunC.fin ?_
          refine AWP.sq ?_
          refine AWP.rgC 134 rfl rfl ?_
          refine pu (v := .sc _) rfl rfl (fun _ => rfl) ?_
          refine pu (v := .sc _) rfl rfl (fun _ => rfl) ?_
          refine pu (v := .sc _) rfl rfl (fun _ => rfl) ?_
          refine RunC.fin ?_
          refine AWP.sq ?_
          refine AWP.loopJ (fun s34 : Int × Int => LS.mk [(0, slV Int 0 0 0 data.length), (1, .sc (.int .i64 a)), (2, .sc (.int .i64 m)), (3, .sc (.int .i64 b)), (4, .fn (.func 59) [.ptr 1 0 0]), (18, .sc (.int .i64 (w6 (Int.fdiv (IntKind.wrap .u64 (w6 (a + b))) (2 ^ 1))))), (19, .sc (.int .i64 v31)), (20, .sc (.int .i64 s34.1)), (21, .sc (.int .i64 s34.2)), (22, .sc (.int .i64 (w6 (v31 - 1))))] (lblks 0 [arrB (α := Int) 3 0 false data, boxB (α := Cells) false cmpc0]) 2) (fun z35 : Int => LS.mk [(0, slV Int 0 0 0 data.length), (1, .sc (.int .i64 a)), (2, .sc (.int .i64 m)), (3, .sc (.int .i64 b)), (4, .fn (.func 59) [.ptr 1 0 0]), (18, .sc (.int .i64 (w6 (Int.fdiv (IntKind.wrap .u64 (w6 (a + b))) (2 ^ 1))))), (19, .sc (.int .i64 v31)), (20, .sc (.int .i64 z35))] (lblks 0 [arrB (α := Int) 3 0 false data, boxB (α := Cells) false cmpc0]) 2) (slices_symMergeCmpFunc_Int_find_Sure_1_2.l5 data cmpc0 v31) hR (s0 := (w6 (v31 - b), w6 (Int.fdiv (IntKind.wrap .u64 (w6 (a + b))) (2 ^ 1)))) (Weak.turnL [(0, 0), (1, 0)] [] rfl rfl (tc (trS' rfl rfl rfl rfl rfl) (tc (.sc _) (tc (.sc _) (tc (.sc _) (tc (.fn (.cons (trP' rfl rfl rfl rfl) (.nil))) (tc (.sc _) (tc (.sc _) (tc (.sc _) (tc (.sc _) (tc (.sc _) tn)))))))))) (mc rfl (btrA' rfl) (mc rfl (.box rfl (.cons (.sc _) (.cons (.sc _) (.cons trR1 (.nil)))) rfl) mn))) (fun s34 o34 hR => ?_) fun z35 hR => ?_
          · unfold slices_symMergeCmpFunc_Int_find_Sure_1_2.l5 at hR
            refine AWP.sq ?_
            refine AWP.sq ?_
            refine AWP.rgC 14 rfl rfl ?_
            refine pu (v := .sc _) rfl rfl (fun _ => rfl) ?_
            refine pu (v := .sc _) rfl rfl (fun _ => rfl) ?_
            refine pu (v := .sc _) rfl rfl (fun _ => rfl) ?_
            refine RunC.fin ?_
            refine AWP.cd hR rfl (fun h36 hR => ?_) fun h36 hR => ?_
            · refine AWP.skip ?_
              refine skT ?_
              refine AWP.block ?_
              refine AWP.sq ?_
              refine AWP.rgC 42 rfl rfl ?_
              refine pu (v := .sc _) rfl rfl (fun _ => rfl) ?_
              refine pu (v := .sc _) rfl rfl (fun _ => rfl) ?_
              refine pu (v := .sc _) rfl rfl (fun _ => rfl) ?_
              refine cn rfl rfl ti3 rfl ti102 rfl rfl ?_
              refine pu (v := .sc _) rfl rfl (fun _ => rfl) ?_
              refine cn rfl rfl ti102 rfl ti3 rfl rfl ?_
              refine pu (v := .sc _) rfl rfl (fun _ => rfl) ?_
              refine RunC.fin ?_
              refine AWP.sq ?_
              refine AWP.rgD 98 [0, 0, 0, 0, 12, 30, 62, 0, 0, 384, 896, 2047, 4095, 8191] ⟨[], [none, none, none, none, none, none, some [0], none, none, none, some [0], none, none, none]⟩ hmix (by kernel_rfl) rfl rfl ?_
              refine pu (v := .fn _ _) rfl rfl (fun _ => rfl) ?_
              refine pu (v := slV Int _ _ _ _) rfl rfl (fun _ => rfl) ?_
              refine pu (v := .sc _) rfl rfl (fun _ => rfl) ?_
              refine pu (v := .sc _) rfl rfl (fun _ => rfl) ?_
              obtain ⟨v37, ev37, hR⟩ := letE hR
              refine pu (v := .sc _) rfl rfl (fun _ => puI ev37) ?_
              obtain ⟨h38, hR⟩ := chkE hR
              refine ixS0 (α := Int) rfl rfl rfl ti22 rfl ti3 rfl h38 ?_
              refine ldE (α := Int) (v := .sc _) rfl rfl rfl (ixlt h38) ti3 rfl rfl rfl rfl ?_
              refine pu (v := slV Int _ _ _ _) rfl rfl (fun _ => rfl) ?_
              refine pu (v := .sc _) rfl rfl (fun _ => rfl) ?_
              obtain ⟨h39, hR⟩ := chkE hR
              refine ixS0 (α := Int) rfl rfl rfl ti22 rfl ti3 rfl h39 ?_
              refine ldE (α := Int) (v := .sc _) rfl rfl rfl (ixlt h39) ti3 rfl rfl rfl rfl ?_
              obtain ⟨r40, hr40, hR⟩ := bindE hR
              refine cls [1] rfl rfl cb59 (ok59 (gt data v37) (gt data (w6 (Int.fdiv (IntKind.wrap .u64 (w6 (s34.1 + s34.2))) (2 ^ 1)))) cmpc0 _ hr40) (.cons (.sc _) (.cons (.sc _) (.cons (ldX rfl rfl (.cons (.sc _) (.cons (.sc _) (.cons ldR' (.nil)))) rfl) (.nil)))) (.inl (by first | rfl | exact freshR | exact freshA | (simp only [V.fresh, V.freshs, freshR, freshA, Bool.and_self]))) rfl ?_
              refine pu (v := .sc _) rfl rfl (fun _ => rfl) ?_
              refine pu (v := .sc _) rfl rfl (fun _ => rfl) ?_
              refine RunC.fin ?_
              refine AWP.cd hR rfl (fun h41 hR => ?_) fun h41 hR => ?_
              · refine AWP.rgC 110 rfl rfl ?_
                refine pu (v := .sc _) rfl rfl (fun _ => rfl) ?_
                obtain ⟨v42, ev42, hR⟩ := letE hR
                refine pu (v := .sc _) rfl rfl (fun _ => puI ev42) ?_
                refine pu (v := .sc _) rfl rfl (fun _ => rfl) ?_
                refine RunC.blk ?_
                refine RunC.fin ?_
                refine ⟨(v42, s34.2), (Option.some.inj hR).symm, ?_⟩
                exact Weak.turnL [(0, 0), (1, 0)] [] rfl rfl (tc (trS' rfl rfl rfl rfl rfl) (tc (.sc _) (tc (.sc _) (tc (.sc _) (tc (.fn (.cons (trP' rfl rfl rfl rfl) (.nil))) (tc (.sc _) (tc (.sc _) (tc (.sc _) (tc (.sc _) (tc (.sc _) tn)))))))))) (mc rfl (btrA' rfl) (mc rfl (.box rfl (.cons (.sc _) (.cons (.sc _) (.cons trR1 (.nil)))) rfl) mn))
              · refine AWP.rgC 106 rfl rfl ?_
                refine pu (v := .sc _) rfl rfl (fun _ => rfl) ?_
                refine pu (v := .sc _) rfl rfl (fun _ => rfl) ?_
                refine RunC.blk ?_
                refine RunC.fin ?_
                refine ⟨(s34.1, w6 (Int.fdiv (IntKind.wrap .u64 (w6 (s34.1 + s34.2))) (2 ^ 1))), (Option.some.inj hR).symm, ?_⟩
                exact Weak.turnL [(0, 0), (1, 0)] [] rfl rfl (tc (trS' rfl rfl rfl rfl rfl) (tc (.sc _) (tc (.sc _) (tc (.sc _) (tc (.fn (.cons (trP' rfl rfl rfl rfl) (.nil))) (tc (.sc _) (tc (.sc _) (tc (.sc _) (tc (.sc _) (tc (.sc _) tn)))))))))) (mc rfl (btrA' rfl) (mc rfl (.box rfl (.cons (.sc _) (.cons (.sc _) (.cons trR1 (.nil)))) rfl) mn))
            · refine AWP.exit ?_
              refine exT ?_
              refine exT ?_
              refine exH (skT ?_)
              refine ⟨s34.1, (Option.some.inj hR).symm, ?_⟩
              exact Weak.turnL [(0, 0), (1, 0)] [] rfl rfl (tc (trS' rfl rfl rfl rfl rfl) (tc (.sc _) (tc (.sc _) (tc (.sc _) (tc (.fn (.cons (trP' rfl rfl rfl rfl) (.nil))) (tc (.sc _) (tc (.sc _) (tc (.sc _) tn)))))))) (mc rfl (btrA' rfl) (mc rfl (.box rfl (.cons (.sc _) (.cons (.sc _) (.cons trR1 (.nil)))) rfl) mn))
          · refine skT ?_
            refine AWP.sq ?_
            refine AWP.rgC 18 rfl rfl ?_
            refine pu (v := .sc _) rfl rfl (fun _ => rfl) ?_
            refine pu (v := .sc _) rfl rfl (fun _ => rfl) ?_
            refine pu (v := .sc _) rfl rfl (fun _ => rfl) ?_
            refine pu (v := .sc _) rfl rfl (fun _ => rfl) ?_
            refine RunC.fin ?_
            refine AWP.sq ?_
            refine AWP.joinX (fun z43 : Bool => LS.mk [(0, slV Int 0 0 0 data.length), (1, .sc (.int .i64 a)), (2, .sc (.int .i64 m)), (3, .sc (.int .i64 b)), (4, .fn (.func 59) [.ptr 1 0 0]), (18, .sc (.int .i64 (w6 (Int.fdiv (IntKind.wrap .u64 (w6 (a + b))) (2 ^ 1))))), (20, .sc (.int .i64 z35)), (24, .sc (.int .i64 (w6 (v31 - z35)))), (185, .sc (.bool z43))] (lblks 0 [arrB (α := Int) 3 0 false data, boxB (α := Cells) false cmpc0]) 2) hR (fun o43 hR => ?_) fun z43 hR => ?_
            · refine AWP.rgC 50 rfl rfl ?_
              refine pu (v := .sc _) rfl rfl (fun _ => rfl) ?_
              refine pu (v := .sc _) rfl rfl (fun _ => rfl) ?_
              refine pu (v := .sc _) rfl rfl (fun _ => rfl) ?_
              refine pu (v := .sc _) rfl rfl (fun _ => rfl) ?_
              refine brR hR (fun h44 hR => ?_) fun h44 hR => ?_
              · refine pu (v := .sc _) (wtG rfl rfl rfl h44) rfl (fun _ => rfl) ?_
                refine pu (v := .sc _) (wtG rfl rfl rfl h44) rfl (fun _ => rfl) ?_
                refine pu (v := .sc _) (wtG rfl rfl rfl h44) rfl (fun _ => rfl) ?_
                refine pkT (v := .sc (.bool (decide (m < (w6 (v31 - z35)))))) rfl rfl h44 rfl ?_
                refine RunC.fin ?_
                have hR := Option.some.inj hR; subst hR
                exact Weak.turnL [(0, 0), (1, 0)] [] rfl rfl (tc (trS' rfl rfl rfl rfl rfl) (tc (.sc _) (tc (.sc _) (tc (.sc _) (tc (.fn (.cons (trP' rfl rfl rfl rfl) (.nil))) (tc (.sc _) (tc (.sc _) (tc (.sc _) (tc (.sc _) tn))))))))) (mc rfl (btrA' rfl) (mc rfl (.box rfl (.cons (.sc _) (.cons (.sc _) (.cons trR1 (.nil)))) rfl) mn))
              · refine sk (skW rfl rfl rfl h44) ?_
                refine sk (skW rfl rfl rfl h44) ?_
                refine sk (skW rfl rfl rfl h44) ?_
                refine pkF (v := .sc (.bool false)) rfl rfl h44 rfl ?_
                refine RunC.fin ?_
                have hR := Option.some.inj hR; subst hR
                exact Weak.turnL [(0, 0), (1, 0)] [] rfl rfl (tc (trS' rfl rfl rfl rfl rfl) (tc (.sc _) (tc (.sc _) (tc (.sc _) (tc (.fn (.cons (trP' rfl rfl rfl rfl) (.nil))) (tc (.sc _) (tc (.sc _) (tc (.sc _) (tc (.sc _) tn))))))))) (mc rfl (btrA' rfl) (mc rfl (.box rfl (.cons (.sc _) (.cons (.sc _) (.cons trR1 (.nil)))) rfl) mn))
            · refine AWP.cd hR rfl (fun h45 hR => ?_) fun h45 hR => ?_
              · refine AWP.rgC 26 rfl rfl ?_
                refine pu (v := slV Int _ _ _ _) rfl rfl (fun _ => rfl) ?_
                refine pu (v := .sc _) rfl rfl (fun _ => rfl) ?_
                refine pu (v := .sc _) rfl rfl (fun _ => rfl) ?_
                refine pu (v := .sc _) rfl rfl (fun _ => rfl) ?_
                refine pu (v := .fn _ _) rfl rfl (fun _ => rfl) ?_
                obtain ⟨r46, hr46, hR⟩ := bindE hR
                obtain ⟨h47, hR⟩ := chkE hR
                refine cps (res' := .tup []) (ups := [(0, arrB (α := Int) 3 0 false r46), (1, boxB (α := Cells) false cmpc0)]) [0, 1] 22 rfl rfl rfl cb93 (ok93_54 data z35 m (w6 (v31 - z35)) cmpc0 _ hr46) (.cons (ldM rfl rfl) (.cons (.sc _) (.cons (.sc _) (.cons (.sc _) (.cons (.fn (.cons (ldP rfl rfl) (.nil))) (.nil)))))) (pc rfl bldA (pc rfl (.box (.cons (.sc _) (.cons (.sc _) (.cons ldR' (.nil)))) rfl) pn)) rfl rfl rfl rfl rfl (by first | rfl | exact renR | exact renA | exact renS | simp only [V.ren, V.rens, renR, renA, renS] | (simp only [V.ren, V.rens, renR, renA, renS]; rfl)) (by simp only [passUps, renBox, renArr]; rfl) ?_
                refine RunC.fin ?_
                refine AWP.sq ?_
                refine AWP.joinX (fun z48 : Bool => LS.mk [(0, slV Int 0 0 0 data.length), (1, .sc (.int .i64 a)), (3, .sc (.int .i64 b)), (4, .fn (.func 59) [.ptr 1 0 0]), (18, .sc (.int .i64 (w6 (Int.fdiv (IntKind.wrap .u64 (w6 (a + b))) (2 ^ 1))))), (20, .sc (.int .i64 z35)), (24, .sc (.int .i64 (w6 (v31 - z35)))), (199, .sc (.bool z48))] (lblks 0 [arrB (α := Int) 3 0 false r46, boxB (α := Cells) false cmpc0]) 2) hR (fun o48 hR => ?_) fun z48 hR => ?_
                · refine AWP.rgC 58 rfl rfl ?_
                  refine pu (v := .sc _) rfl rfl (fun _ => rfl) ?_
                  refine pu (v := .sc _) rfl rfl (fun _ => rfl) ?_
                  refine pu (v := .sc _) rfl rfl (fun _ => rfl) ?_
                  refine pu (v := .sc _) rfl rfl (fun _ => rfl) ?_
                  refine brR hR (fun h49 hR => ?_) fun h49 hR => ?_
                  · refine pu (v := .sc _) (wtG rfl rfl rfl h49) rfl (fun _ => rfl) ?_
                    refine pu (v := .sc _) (wtG rfl rfl rfl h49) rfl (fun _ => rfl) ?_
                    obtain ⟨v50, ev50, hR⟩ := letE hR
                    refine pu (v := .sc _) (wtG rfl rfl rfl h49) rfl (fun _ => puB ev50) ?_
                    refine pkT (v := .sc (.bool v50)) rfl rfl h49 rfl ?_
                    refine RunC.fin ?_
                    have hR := Option.some.inj hR; subst hR
                    exact Weak.turnL [(0, 0), (1, 0)] [] rfl rfl (tc (trS' rfl rfl rfl rfl rfl) (tc (.sc _) (tc (.sc _) (tc (.fn (.cons (trP' rfl rfl rfl rfl) (.nil))) (tc (.sc _) (tc (.sc _) (tc (.sc _) (tc (.sc _) tn)))))))) (mc rfl (btrA' rfl) (mc rfl (.box rfl (.cons (.sc _) (.cons (.sc _) (.cons trR1 (.nil)))) rfl) mn))
                  · refine sk (skW rfl rfl rfl h49) ?_
                    refine sk (skW rfl rfl rfl h49) ?_
                    refine sk (skW rfl rfl rfl h49) ?_
                    refine pkF (v := .sc (.bool false)) rfl rfl h49 rfl ?_
                    refine RunC.fin ?_
                    have hR := Option.some.inj hR; subst hR
                    exact Weak.turnL [(0, 0), (1, 0)] [] rfl rfl (tc (trS' rfl rfl rfl rfl rfl) (tc (.sc _) (tc (.sc _) (tc (.fn (.cons (trP' rfl rfl rfl rfl) (.nil))) (tc (.sc _) (tc (.sc _) (tc (.sc _) (tc (.sc _) tn)))))))) (mc rfl (btrA' rfl) (mc rfl (.box rfl (.cons (.sc _) (.cons (.sc _) (.cons trR1 (.nil)))) rfl) mn))
                · refine AWP.cd hR rfl (fun h51 hR => ?_) fun h51 hR => ?_
                  · refine AWP.rgC 26 rfl rfl ?_
                    refine pu (v := slV Int _ _ _ _) rfl rfl (fun _ => rfl) ?_
                    refine pu (v := .sc _) rfl rfl (fun _ => rfl) ?_
                    refine pu (v := .sc _) rfl rfl (fun _ => rfl) ?_
                    refine pu (v := .sc _) rfl rfl (fun _ => rfl) ?_
                    refine pu (v := .fn _ _) rfl rfl (fun _ => rfl) ?_
                    obtain ⟨r52, hr52, hR⟩ := bindE hR
                    obtain ⟨h53, hR⟩ := chkE hR
                    refine cps (res' := .tup []) (ups := [(0, arrB (α := Int) 3 0 false r52.1), (1, boxB (α := Cells) false r52.2)]) [0, 1] 22 rfl rfl rfl cb86 (ih r46 a z35 (w6 (Int.fdiv (IntKind.wrap .u64 (w6 (a + b))) (2 ^ 1))) cmpc0 _ hr52) (.cons (ldM2 rfl rfl (by first | assumption | omega)) (.cons (.sc _) (.cons (.sc _) (.cons (.sc _) (.cons (.fn (.cons (ldP rfl rfl) (.nil))) (.nil)))))) (pc rfl bldA (pc rfl (.box (.cons (.sc _) (.cons (.sc _) (.cons ldR' (.nil)))) rfl) pn)) rfl rfl rfl rfl rfl (by first | rfl | exact renR | exact renA | exact renS | simp only [V.ren, V.rens, renR, renA, renS] | (simp only [V.ren, V.rens, renR, renA, renS]; rfl)) (by simp only [passUps, renBox, renArr]; rfl) ?_
                    refine RunC.fin ?_
                    refine AWP.joinX (fun z54 : Bool => LS.mk [(0, slV Int 0 0 0 data.length), (3, .sc (.int .i64 b)), (4, .fn (.func 59) [.ptr 1 0 0]), (18, .sc (.int .i64 (w6 (Int.fdiv (IntKind.wrap .u64 (w6 (a + b))) (2 ^ 1))))), (24, .sc (.int .i64 (w6 (v31 - z35)))), (213, .sc (.bool z54))] (lblks 0 [arrB (α := Int) 3 0 false r52.1, boxB (α := Cells) false r52.2]) 2) hR (fun o54 hR => ?_) fun z54 hR => ?_
                    · refine AWP.rgC 58 rfl rfl ?_
                      refine pu (v := .sc _) rfl rfl (fun _ => rfl) ?_
                      refine pu (v := .sc _) rfl rfl (fun _ => rfl) ?_
                      obtain ⟨v55, ev55, hR⟩ := letE hR
                      refine pu (v := .sc _) rfl rfl (fun _ => puB ev55) ?_
                      refine pu (v := .sc _) rfl rfl (fun _ => rfl) ?_
                      refine brR hR (fun h56 hR => ?_) fun h56 hR => ?_
                      · refine pu (v := .sc _) (wtG rfl rfl rfl h56) rfl (fun _ => rfl) ?_
                        refine pu (v := .sc _) (wtG rfl rfl rfl h56) rfl (fun _ => rfl) ?_
                        refine pu (v := .sc _) (wtG rfl rfl rfl h56) rfl (fun _ => rfl) ?_
                        refine pkT (v := .sc (.bool (decide ((w6 (v31 - z35)) < b)))) rfl rfl h56 rfl ?_
                        refine RunC.fin ?_
                        have hR := Option.some.inj hR; subst hR
                        exact Weak.turnL [(0, 0), (1, 0)] [] rfl rfl (tc (trS' rfl rfl rfl rfl rfl) (tc (.sc _) (tc (.fn (.cons (trP' rfl rfl rfl rfl) (.nil))) (tc (.sc _) (tc (.sc _) (tc (.sc _) tn)))))) (mc rfl (btrA' rfl) (mc rfl (.box rfl (.cons (.sc _) (.cons (.sc _) (.cons trR1 (.nil)))) rfl) mn))
                      · refine sk (skW rfl rfl rfl h56) ?_
                        refine sk (skW rfl rfl rfl h56) ?_
                        refine sk (skW rfl rfl rfl h56) ?_
                        refine pkF (v := .sc (.bool false)) rfl rfl h56 rfl ?_
                        refine RunC.fin ?_
                        have hR := Option.some.inj hR; subst hR
                        exact Weak.turnL [(0, 0), (1, 0)] [] rfl rfl (tc (trS' rfl rfl rfl rfl rfl) (tc (.sc _) (tc (.fn (.cons (trP' rfl rfl rfl rfl) (.nil))) (tc (.sc _) (tc (.sc _) (tc (.sc _) tn)))))) (mc rfl (btrA' rfl) (mc rfl (.box rfl (.cons (.sc _) (.cons (.sc _) (.cons trR1 (.nil)))) rfl) mn))
                    · refine AWP.cd hR rfl (fun h57 hR => ?_) fun h57 hR => ?_
                      · refine AWP.rgC 26 rfl rfl ?_
                        refine pu (v := slV Int _ _ _ _) rfl rfl (fun _ => rfl) ?_
                        refine pu (v := .sc _) rfl rfl (fun _ => rfl) ?_
                        refine pu (v := .sc _) rfl rfl (fun _ => rfl) ?_
                        refine pu (v := .sc _) rfl rfl (fun _ => rfl) ?_
                        refine pu (v := .fn _ _) rfl rfl (fun _ => rfl) ?_
                        obtain ⟨r58, hr58, hR⟩ := bindE hR
                        obtain ⟨h59, hR⟩ := chkE hR
                        refine cps (res' := .tup []) (ups := [(0, arrB (α := Int) 3 0 false r58.1), (1, boxB (α := Cells) false r58.2)]) [0, 1] 22 rfl rfl rfl cb86 (ih r52.1 (w6 (Int.fdiv (IntKind.wrap .u64 (w6 (a + b))) (2 ^ 1))) (w6 (v31 - z35)) b r52.2 _ hr58) (.cons (ldM2 rfl rfl (by first | assumption | omega)) (.cons (.sc _) (.cons (.sc _) (.cons (.sc _) (.cons (.fn (.cons (ldP rfl rfl) (.nil))) (.nil)))))) (pc rfl bldA (pc rfl (.box (.cons (.sc _) (.cons (.sc _) (.cons ldR' (.nil)))) rfl) pn)) rfl rfl rfl rfl rfl (by first | rfl | exact renR | exact renA | exact renS | simp only [V.ren, V.rens, renR, renA, renS] | (simp only [V.ren, V.rens, renR, renA, renS]; rfl)) (by simp only [passUps, renBox, renArr]; rfl) ?_
                        refine RunC.nil ?_
                        have hR := Option.some.inj hR; subst hR
                        exact hQ _ _ (LS.mk [] (lblks 0 [arrB (α := Int) 3 0 false r58.1, boxB (α := Cells) false r58.2]) 2) (.tup []) [] (.inl rfl) (Weak.turnL [(0, 0), (1, 0)] [] rfl rfl tn (mc rfl (btrA' rfl) (mc rfl (.box rfl (.cons (.sc _) (.cons (.sc _) (.cons trR1 (.nil)))) rfl) mn))) (ro0 ) rfl rfl (.tup .nil) (pc rfl bldA (pc rfl bldB pn))
                      · refine AWP.skip ?_
                        have hR := Option.some.inj hR; subst hR
                        exact hQ _ _ (LS.mk [] (lblks 0 [arrB (α := Int) 3 0 false r52.1, boxB (α := Cells) false r52.2]) 2) (.tup []) [] (.inl rfl) (Weak.turnL [(0, 0), (1, 0)] [] rfl rfl tn (mc rfl (btrA' rfl) (mc rfl (.box rfl (.cons (.sc _) (.cons (.sc _) (.cons trR1 (.nil)))) rfl) mn))) (ro0 ) rfl rfl (.tup .nil) (pc rfl bldA (pc rfl bldB pn))
                  · refine AWP.skip ?_
                    refine skT ?_
                    refine AWP.joinX (fun z60 : Bool => LS.mk [(0, slV Int 0 0 0 data.length), (3, .sc (.int .i64 b)), (4, .fn (.func 59) [.ptr 1 0 0]), (18, .sc (.int .i64 (w6 (Int.fdiv (IntKind.wrap .u64 (w6 (a + b))) (2 ^ 1))))), (24, .sc (.int .i64 (w6 (v31 - z35)))), (213, .sc (.bool z60))] (lblks 0 [arrB (α := Int) 3 0 false r46, boxB (α := Cells) false cmpc0]) 2) hR (fun o60 hR => ?_) fun z60 hR => ?_
                    · refine AWP.rgC 34 rfl rfl ?_
                      refine pu (v := .sc _) rfl rfl (fun _ => rfl) ?_
                      refine pu (v := .sc _) rfl rfl (fun _ => rfl) ?_
                      obtain ⟨v61, ev61, hR⟩ := letE hR
                      refine pu (v := .sc _) rfl rfl (fun _ => puB ev61) ?_
                      refine pu (v := .sc _) rfl rfl (fun _ => rfl) ?_
                      refine brR hR (fun h62 hR => ?_) fun h62 hR => ?_
                      · refine pu (v := .sc _) (wtG rfl rfl rfl h62) rfl (fun _ => rfl) ?_
                        refine pu (v := .sc _) (wtG rfl rfl rfl h62) rfl (fun _ => rfl) ?_
                        refine pu (v := .sc _) (wtG rfl rfl rfl h62) rfl (fun _ => rfl) ?_
                        refine pkT (v := .sc (.bool (decide ((w6 (v31 - z35)) < b)))) rfl rfl h62 rfl ?_
                        refine RunC.fin ?_
                        have hR := Option.some.inj hR; subst hR
                        exact Weak.turnL [(0, 0), (1, 0)] [] rfl rfl (tc (trS' rfl rfl rfl rfl rfl) (tc (.sc _) (tc (.fn (.cons (trP' rfl rfl rfl rfl) (.nil))) (tc (.sc _) (tc (.sc _) (tc (.sc _) tn)))))) (mc rfl (btrA' rfl) (mc rfl (.box rfl (.cons (.sc _) (.cons (.sc _) (.cons trR1 (.nil)))) rfl) mn))
                      · refine sk (skW rfl rfl rfl h62) ?_
                        refine sk (skW rfl rfl rfl h62) ?_
                        refine sk (skW rfl rfl rfl h62) ?_
                        refine pkF (v := .sc (.bool false)) rfl rfl h62 rfl ?_
                        refine RunC.fin ?_
                        have hR := Option.some.inj hR; subst hR
                        exact Weak.turnL [(0, 0), (1, 0)] [] rfl rfl (tc (trS' rfl rfl rfl rfl rfl) (tc (.sc _) (tc (.fn (.cons (trP' rfl rfl rfl rfl) (.nil))) (tc (.sc _) (tc (.sc _) (tc (.sc _) tn)))))) (mc rfl (btrA' rfl) (mc rfl (.box rfl (.cons (.sc _) (.cons (.sc _) (.cons trR1 (.nil)))) rfl) mn))
                    · refine AWP.cd hR rfl (fun h63 hR => ?_) fun h63 hR => ?_
                      · refine AWP.rgC 26 rfl rfl ?_
                        refine pu (v := slV Int _ _ _ _) rfl rfl (fun _ => rfl) ?_
                        refine pu (v := .sc _) rfl rfl (fun _ => rfl) ?_
                        refine pu (v := .sc _) rfl rfl (fun _ => rfl) ?_
                        refine pu (v := .sc _) rfl rfl (fun _ => rfl) ?_
                        refine pu (v := .fn _ _) rfl rfl (fun _ => rfl) ?_
                        obtain ⟨r64, hr64, hR⟩ := bindE hR
                        obtain ⟨h65, hR⟩ := chkE hR
                        refine cps (res' := .tup []) (ups := [(0, arrB (α := Int) 3 0 false r64.1), (1, boxB (α := Cells) false r64.2)]) [0, 1] 22 rfl rfl rfl cb86 (ih r46 (w6 (Int.fdiv (IntKind.wrap .u64 (w6 (a + b))) (2 ^ 1))) (w6 (v31 - z35)) b cmpc0 _ hr64) (.cons (ldM2 rfl rfl (by first | assumption | omega)) (.cons (.sc _) (.cons (.sc _) (.cons (.sc _) (.cons (.fn (.cons (ldP rfl rfl) (.nil))) (.nil)))))) (pc rfl bldA (pc rfl (.box (.cons (.sc _) (.cons (.sc _) (.cons ldR' (.nil)))) rfl) pn)) rfl rfl rfl rfl rfl (by first | rfl | exact renR | exact renA | exact renS | simp only [V.ren, V.rens, renR, renA, renS] | (simp only [V.ren, V.rens, renR, renA, renS]; rfl)) (by simp only [passUps, renBox, renArr]; rfl) ?_
                        refine RunC.nil ?_
                        have hR := Option.some.inj hR; subst hR
                        exact hQ _ _ (LS.mk [] (lblks 0 [arrB (α := Int) 3 0 false r64.1, boxB (α := Cells) false r64.2]) 2) (.tup []) [] (.inl rfl) (Weak.turnL [(0, 0), (1, 0)] [] rfl rfl tn (mc rfl (btrA' rfl) (mc rfl (.box rfl (.cons (.sc _) (.cons (.sc _) (.cons trR1 (.nil)))) rfl) mn))) (ro0 ) rfl rfl (.tup .nil) (pc rfl bldA (pc rfl bldB pn))
                      · refine AWP.skip ?_
                        have hR := Option.some.inj hR; subst hR
                        exact hQ _ _ (LS.mk [] (lblks 0 [arrB (α := Int) 3 0 false r46, boxB (α := Cells) false cmpc0]) 2) (.tup []) [] (.inl rfl) (Weak.turnL [(0, 0), (1, 0)] [] rfl rfl tn (mc rfl (btrA' rfl) (mc rfl (.box rfl (.cons (.sc _) (.cons (.sc _) (.cons trR1 (.nil)))) rfl) mn))) (ro0 ) rfl rfl (.tup .nil) (pc rfl bldA (pc rfl bldB pn))
              · refine AWP.skip ?_
                refine skT ?_
                refine AWP.sq ?_
                refine AWP.joinX (fun z66 : Bool => LS.mk [(0, slV Int 0 0 0 data.length), (1, .sc (.int .i64 a)), (3, .sc (.int .i64 b)), (4, .fn (.func 59) [.ptr 1 0 0]), (18, .sc (.int .i64 (w6 (Int.fdiv (IntKind.wrap .u64 (w6 (a + b))) (2 ^ 1))))), (20, .sc (.int .i64 z35)), (24, .sc (.int .i64 (w6 (v31 - z35)))), (199, .sc (.bool z66))] (lblks 0 [arrB (α := Int) 3 0 false data, boxB (α := Cells) false cmpc0]) 2) hR (fun o66 hR => ?_) fun z66 hR => ?_
                · refine AWP.rgC 34 rfl rfl ?_
                  refine pu (v := .sc _) rfl rfl (fun _ => rfl) ?_
                  refine pu (v := .sc _) rfl rfl (fun _ => rfl) ?_
                  refine pu (v := .sc _) rfl rfl (fun _ => rfl) ?_
                  refine pu (v := .sc _) rfl rfl (fun _ => rfl) ?_
                  refine brR hR (fun h67 hR => ?_) fun h67 hR => ?_
                  · refine pu (v := .sc _) (wtG rfl rfl rfl h67) rfl (fun _ => rfl) ?_
                    refine pu (v := .sc _) (wtG rfl rfl rfl h67) rfl (fun _ => rfl) ?_
                    obtain ⟨v68, ev68, hR⟩ := letE hR
                    refine pu (v := .sc _) (wtG rfl rfl rfl h67) rfl (fun _ => puB ev68) ?_
                    refine pkT (v := .sc (.bool v68)) rfl rfl h67 rfl ?_
                    refine RunC.fin ?_
                    have hR := Option.some.inj hR; subst hR
                    exact Weak.turnL [(0, 0), (1, 0)] [] rfl rfl (tc (trS' rfl rfl rfl rfl rfl) (tc (.sc _) (tc (.sc _) (tc (.fn (.cons (trP' rfl rfl rfl rfl) (.nil))) (tc (.sc _) (tc (.sc _) (tc (.sc _) (tc (.sc _) tn)))))))) (mc rfl (btrA' rfl) (mc rfl (.box rfl (.cons (.sc _) (.cons (.sc _) (.cons trR1 (.nil)))) rfl) mn))
                  · refine sk (skW rfl rfl rfl h67) ?_
                    refine sk (skW rfl rfl rfl h67) ?_
                    refine sk (skW rfl rfl rfl h67) ?_
                    refine pkF (v := .sc (.bool false)) rfl rfl h67 rfl ?_
                    refine RunC.fin ?_
                    have hR := Option.some.inj hR; subst hR
                    exact Weak.turnL [(0, 0), (1, 0)] [] rfl rfl (tc (trS' rfl rfl rfl rfl rfl) (tc (.sc _) (tc (.sc _) (tc (.fn (.cons (trP' rfl rfl rfl rfl) (.nil))) (tc (.sc _) (tc (.sc _) (tc (.sc _) (tc (.sc _) tn)))))))) (mc rfl (btrA' rfl) (mc rfl (.box rfl (.cons (.sc _) (.cons (.sc _) (.cons trR1 (.nil)))) rfl) mn))
                · refine AWP.cd hR rfl (fun h69 hR => ?_) fun h69 hR => ?_
                  · refine AWP.rgC 26 rfl rfl ?_
                    refine pu (v := slV Int _ _ _ _) rfl rfl (fun _ => rfl) ?_
                    refine pu (v := .sc _) rfl rfl (fun _ => rfl) ?_
                    refine pu (v := .sc _) rfl rfl (fun _ => rfl) ?_
                    refine pu (v := .sc _) rfl rfl (fun _ => rfl) ?_
                    refine pu (v := .fn _ _) rfl rfl (fun _ => rfl) ?_
                    obtain ⟨r70, hr70, hR⟩ := bindE hR
                    obtain ⟨h71, hR⟩ := chkE hR
                    refine cps (res' := .tup []) (ups := [(0, arrB (α := Int) 3 0 false r70.1), (1, boxB (α := Cells) false r70.2)]) [0, 1] 22 rfl rfl rfl cb86 (ih data a z35 (w6 (Int.fdiv (IntKind.wrap .u64 (w6 (a + b))) (2 ^ 1))) cmpc0 _ hr70) (.cons (ldM rfl rfl) (.cons (.sc _) (.cons (.sc _) (.cons (.sc _) (.cons (.fn (.cons (ldP rfl rfl) (.nil))) (.nil)))))) (pc rfl bldA (pc rfl (.box (.cons (.sc _) (.cons (.sc _) (.cons ldR' (.nil)))) rfl) pn)) rfl rfl rfl rfl rfl (by first | rfl | exact renR | exact renA | exact renS | simp only [V.ren, V.rens, renR, renA, renS] | (simp only [V.ren, V.rens, renR, renA, renS]; rfl)) (by simp only [passUps, renBox, renArr]; rfl) ?_
                    refine RunC.fin ?_
                    refine AWP.joinX (fun z72 : Bool => LS.mk [(0, slV Int 0 0 0 data.length), (3, .sc (.int .i64 b)), (4, .fn (.func 59) [.ptr 1 0 0]), (18, .sc (.int .i64 (w6 (Int.fdiv (IntKind.wrap .u64 (w6 (a + b))) (2 ^ 1))))), (24, .sc (.int .i64 (w6 (v31 - z35)))), (213, .sc (.bool z72))] (lblks 0 [arrB (α := Int) 3 0 false r70.1, boxB (α := Cells) false r70.2]) 2) hR (fun o72 hR => ?_) fun z72 hR => ?_
                    · refine AWP.rgC 58 rfl rfl ?_
                      refine pu (v := .sc _) rfl rfl (fun _ => rfl) ?_
                      refine pu (v := .sc _) rfl rfl (fun _ => rfl) ?_
                      obtain ⟨v73, ev73, hR⟩ := letE hR
                      refine pu (v := .sc _) rfl rfl (fun _ => puB ev73) ?_
                      refine pu (v := .sc _) rfl rfl (fun _ => rfl) ?_
                      refine brR hR (fun h74 hR => ?_) fun h74 hR => ?_
                      · refine pu (v := .sc _) (wtG rfl rfl rfl h74) rfl (fun _ => rfl) ?_
                        refine pu (v := .sc _) (wtG rfl rfl rfl h74) rfl (fun _ => rfl) ?_
                        refine pu (v := .sc _) (wtG rfl rfl rfl h74) rfl (fun _ => rfl) ?_
                        refine pkT (v := .sc (.bool (decide ((w6 (v31 - z35)) < b)))) rfl rfl h74 rfl ?_
                        refine RunC.fin ?_
                        have hR := Option.some.inj hR; subst hR
                        exact Weak.turnL [(0, 0), (1, 0)] [] rfl rfl (tc (trS' rfl rfl rfl rfl rfl) (tc (.sc _) (tc (.fn (.cons (trP' rfl rfl rfl rfl) (.nil))) (tc (.sc _) (tc (.sc _) (tc (.sc _) tn)))))) (mc rfl (btrA' rfl) (mc rfl (.box rfl (.cons (.sc _) (.cons (.sc _) (.cons trR1 (.nil)))) rfl) mn))
                      · refine sk (skW rfl rfl rfl h74) ?_
                        refine sk (skW rfl rfl rfl h74) ?_
                        refine sk (skW rfl rfl rfl h74) ?_
                        refine pkF (v := .sc (.bool false)) rfl rfl h74 rfl ?_
                        refine RunC.fin ?_
                        have hR := Option.some.inj hR; subst hR
                        exact Weak.turnL [(0, 0), (1, 0)] [] rfl rfl (tc (trS' rfl rfl rfl rfl rfl) (tc (.sc _) (tc (.fn (.cons (trP' rfl rfl rfl rfl) (.nil))) (tc (.sc _) (tc (.sc _) (tc (.sc _) tn)))))) (mc rfl (btrA' rfl) (mc rfl (.box rfl (.cons (.sc _) (.cons (.sc _) (.cons trR1 (.nil)))) rfl) mn))
                    · refine AWP.cd hR rfl (fun h75 hR => ?_) fun h75 hR => ?_
                      · refine AWP.rgC 26 rfl rfl ?_
                        refine pu (v := slV Int _ _ _ _) rfl rfl (fun _ => rfl) ?_
                        refine pu (v := .sc _) rfl rfl (fun _ => rfl) ?_
                        refine pu (v := .sc _) rfl rfl (fun _ => rfl) ?_
                        refine pu (v := .sc _) rfl rfl (fun _ => rfl) ?_
                        refine pu (v := .fn _ _) rfl rfl (fun _ => rfl) ?_
                        obtain ⟨r76, hr76, hR⟩ := bindE hR
                        obtain ⟨h77, hR⟩ := chkE hR
                        refine cps (res' := .tup []) (ups := [(0, arrB (α := Int) 3 0 false r76.1), (1, boxB (α := Cells) false r76.2)]) [0, 1] 22 rfl rfl rfl cb86 (ih r70.1 (w6 (Int.fdiv (IntKind.wrap .u64 (w6 (a + b))) (2 ^ 1))) (w6 (v31 - z35)) b r70.2 _ hr76) (.cons (ldM2 rfl rfl (by first | assumption | omega)) (.cons (.sc _) (.cons (.sc _) (.cons (.sc _) (.cons (.fn (.cons (ldP rfl rfl) (.nil))) (.nil)))))) (pc rfl bldA (pc rfl (.box (.cons (.sc _) (.cons (.sc _) (.cons ldR' (.nil)))) rfl) pn)) rfl rfl rfl rfl rfl (by first | rfl | exact renR | exact renA | exact renS | simp only [V.ren, V.rens, renR, renA, renS] | (simp only [V.ren, V.rens, renR, renA, renS]; rfl)) (by simp only [passUps, renBox, renArr]; rfl) ?_
                        refine RunC.nil ?_
                        have hR := Option.some.inj hR; subst hR
                        exact hQ _ _ (LS.mk [] (lblks 0 [arrB (α := Int) 3 0 false r76.1, boxB (α := Cells) false r76.2]) 2) (.tup []) [] (.inl rfl) (Weak.turnL [(0, 0), (1, 0)] [] rfl rfl tn (mc rfl (btrA' rfl) (mc rfl (.box rfl (.cons (.sc _) (.cons (.sc _) (.cons trR1 (.nil)))) rfl) mn))) (ro0 ) rfl rfl (.tup .nil) (pc rfl bldA (pc rfl bldB pn))
                      · refine AWP.skip ?_
                        have hR := Option.some.inj hR; subst hR
                        exact hQ _ _ (LS.mk [] (lblks 0 [arrB (α := Int) 3 0 false r70.1, boxB (α := Cells) false r70.2]) 2) (.tup []) [] (.inl rfl) (Weak.turnL [(0, 0), (1, 0)] [] rfl rfl tn (mc rfl (btrA' rfl) (mc rfl (.box rfl (.cons (.sc _) (.cons (.sc _) (.cons trR1 (.nil)))) rfl) mn))) (ro0 ) rfl rfl (.tup .nil) (pc rfl bldA (pc rfl bldB pn))
                  · refine AWP.skip ?_
                    refine skT ?_
                    refine AWP.joinX (fun z78 : Bool => LS.mk [(0, slV Int 0 0 0 data.length), (3, .sc (.int .i64 b)), (4, .fn (.func 59) [.ptr 1 0 0]), (18, .sc (.int .i64 (w6 (Int.fdiv (IntKind.wrap .u64 (w6 (a + b))) (2 ^ 1))))), (24, .sc (.int .i64 (w6 (v31 - z35)))), (213, .sc (.bool z78))] (lblks 0 [arrB (α := Int) 3 0 false data, boxB (α := Cells) false cmpc0]) 2) hR (fun o78 hR => ?_) fun z78 hR => ?_
                    · refine AWP.rgC 34 rfl rfl ?_
                      refine pu (v := .sc _) rfl rfl (fun _ => rfl) ?_
                      refine pu (v := .sc _) rfl rfl (fun _ => rfl) ?_
                      obtain ⟨v79, ev79, hR⟩ := letE hR
                      refine pu (v := .sc _) rfl rfl (fun _ => puB ev79) ?_
                      refine pu (v := .sc _) rfl rfl (fun _ => rfl) ?_
                      refine brR hR (fun h80 hR => ?_) fun h80 hR => ?_
                      · refine pu (v := .sc _) (wtG rfl rfl rfl h80) rfl (fun _ => rfl) ?_
                        refine pu (v := .sc _) (wtG rfl rfl rfl h80) rfl (fun _ => rfl) ?_
                        refine pu (v := .sc _) (wtG rfl rfl rfl h80) rfl (fun _ => rfl) ?_
                        refine pkT (v := .sc (.bool (decide ((w6 (v31 - z35)) < b)))) rfl rfl h80 rfl ?_
                        refine RunC.fin ?_
                        have hR := Option.some.inj hR; subst hR
                        exact Weak.turnL [(0, 0), (1, 0)] [] rfl rfl (tc (trS' rfl rfl rfl rfl rfl) (tc (.sc _) (tc (.fn (.cons (trP' rfl rfl rfl rfl) (.nil))) (tc (.sc _) (tc (.sc _) (tc (.sc _) tn)))))) (mc rfl (btrA' rfl) (mc rfl (.box rfl (.cons (.sc _) (.cons (.sc _) (.cons trR1 (.nil)))) rfl) mn))
                      · refine sk (skW rfl rfl rfl h80) ?_
                        refine sk (skW rfl rfl rfl h80) ?_
                        refine sk (skW rfl rfl rfl h80) ?_
                        refine pkF (v := .sc (.bool false)) rfl rfl h80 rfl ?_
                        refine RunC.fin ?_
                        have hR := Option.some.inj hR; subst hR
                        exact Weak.turnL [(0, 0), (1, 0)] [] rfl rfl (tc (trS' rfl rfl rfl rfl rfl) (tc (.sc _) (tc (.fn (.cons (trP' rfl rfl rfl rfl) (.nil))) (tc (.sc _) (tc (.sc _) (tc (.sc _) tn)))))) (mc rfl (btrA' rfl) (mc rfl (.box rfl (.cons (.sc _) (.cons (.sc _) (.cons trR1 (.nil)))) rfl) mn))
                    · refine AWP.cd hR rfl (fun h81 hR => ?_) fun h81 hR => ?_
                      · refine AWP.rgC 26 rfl rfl ?_
                        refine pu (v := slV Int _ _ _ _) rfl rfl (fun _ => rfl) ?_
                        refine pu (v := .sc _) rfl rfl (fun _ => rfl) ?_
                        refine pu (v := .sc _) rfl rfl (fun _ => rfl) ?_
                        refine pu (v := .sc _) rfl rfl (fun _ => rfl) ?_
                        refine pu (v := .fn _ _) rfl rfl (fun _ => rfl) ?_
                        obtain ⟨r82, hr82, hR⟩ := bindE hR
                        obtain ⟨h83, hR⟩ := chkE hR
                        refine cps (res' := .tup []) (ups := [(0, arrB (α := Int) 3 0 false r82.1), (1, boxB (α := Cells) false r82.2)]) [0, 1] 22 rfl rfl rfl cb86 (ih data (w6 (Int.fdiv (IntKind.wrap .u64 (w6 (a + b))) (2 ^ 1))) (w6 (v31 - z35)) b cmpc0 _ hr82) (.cons (ldM rfl rfl) (.cons (.sc _) (.cons (.sc _) (.cons (.sc _) (.cons (.fn (.cons (ldP rfl rfl) (.nil))) (.nil)))))) (pc rfl bldA (pc rfl (.box (.cons (.sc _) (.cons (.sc _) (.cons ldR' (.nil)))) rfl) pn)) rfl rfl rfl rfl rfl (by first | rfl | exact renR | exact renA | exact renS | simp only [V.ren, V.rens, renR, renA, renS] | (simp only [V.ren, V.rens, renR, renA, renS]; rfl)) (by simp only [passUps, renBox, renArr]; rfl) ?_
                        refine RunC.nil ?_
                        have hR := Option.some.inj hR; subst hR
                        exact hQ _ _ (LS.mk [] (lblks 0 [arrB (α := Int) 3 0 false r82.1, boxB (α := Cells) false r82.2]) 2) (.tup []) [] (.inl rfl) (Weak.turnL [(0, 0), (1, 0)] [] rfl rfl tn (mc rfl (btrA' rfl) (mc rfl (.box rfl (.cons (.sc _) (.cons (.sc _) (.cons trR1 (.nil)))) rfl) mn))) (ro0 ) rfl rfl (.tup .nil) (pc rfl bldA (pc rfl bldB pn))
                      · refine AWP.skip ?_
                        have hR := Option.some.inj hR; subst hR
                        exact hQ _ _ (LS.mk [] (lblks 0 [arrB (α := Int) 3 0 false data, boxB (α := Cells) false cmpc0]) 2) (.tup []) [] (.inl rfl) (Weak.turnL [(0, 0), (1, 0)] [] rfl rfl tn (mc rfl (btrA' rfl) (mc rfl (.box rfl (.cons (.sc _) (.cons (.sc _) (.cons trR1 (.nil)))) rfl) mn))) (ro0 ) rfl rfl (.tup .nil) (pc rfl bldA (pc rfl bldB pn))
        · refine AWP.sq ?_
          refine AWP.rgC 106 rfl rfl ?_
          refine pu (v := .sc _) rfl rfl (fun _ => rfl) ?_
          refine pu (v := .sc _) rfl rfl (fun _ => rfl) ?_
          refine RunC.fin ?_
          refine AWP.rgC 114 rfl rfl ?_
          refine pu (v := .sc _) rfl rfl (fun _ => rfl) ?_
          refine pu (v := .sc _) rfl rfl (fun _ => rfl) ?_
          refine RunC.fin ?_
          refine AWP.sq ?_
          refine AWP.rgC 126 rfl rfl ?_
          refine pu (v := .sc _) rfl rfl (fun _ => rfl) ?_
          refine pu (v := .sc _) rfl rfl (fun _ => rfl) ?_
          refine pu (v := .sc _) rfl rfl (fun _ => rfl) ?_
          refine RunC.fin ?_
          refine AWP.sq ?_
          refine AWP.loopJ (fun s84 : Int × Int => LS.mk [(0, slV Int 0 0 0 data.length), (1, .sc (.int .i64 a)), (2, .sc (.int .i64 m)), (3, .sc (.int .i64 b)), (4, .fn (.func 59) [.ptr 1 0 0]), (18, .sc (.int .i64 (w6 (Int.fdiv (IntKind.wrap .u64 (w6 (a + b))) (2 ^ 1))))), (19, .sc (.int .i64 v31)), (20, .sc (.int .i64 s84.1)), (21, .sc (.int .i64 s84.2)), (22, .sc (.int .i64 (w6 (v31 - 1))))] (lblks 0 [arrB (α := Int) 3 0 false data, boxB (α := Cells) false cmpc0]) 2) (fun z85 : Int => LS.mk [(0, slV Int 0 0 0 data.length), (1, .sc (.int .i64 a)), (2, .sc (.int .i64 m)), (3, .sc (.int .i64 b)), (4, .fn (.func 59) [.ptr 1 0 0]), (18, .sc (.int .i64 (w6 (Int.fdiv (IntKind.wrap .u64 (w6 (a + b))) (2 ^ 1))))), (19, .sc (.int .i64 v31)), (20, .sc (.int .i64 z85))] (lblks 0 [arrB (α := Int) 3 0 false data, boxB (α := Cells) false cmpc0]) 2) (slices_symMergeCmpFunc_Int_find_Sure_1_2.l6 data cmpc0 v31) hR (s0 := (a, m)) (Weak.turnL [(0, 0), (1, 0)] [] rfl rfl (tc (trS' rfl rfl rfl rfl rfl) (tc (.sc _) (tc (.sc _) (tc (.sc _) (tc (.fn (.cons (trP' rfl rfl rfl rfl) (.nil))) (tc (.sc _) (tc (.sc _) (tc (.sc _) (tc (.sc _) (tc (.sc _) tn)))))))))) (mc rfl (btrA' rfl) (mc rfl (.box rfl (.cons (.sc _) (.cons (.sc _) (.cons trR1 (.nil)))) rfl) mn))) (fun s84 o84 hR => ?_) fun z85 hR => ?_
          · unfold slices_symMergeCmpFunc_Int_find_Sure_1_2.l6 at hR
            refine AWP.sq ?_
            refine AWP.sq ?_
            refine AWP.rgC 14 rfl rfl ?_
            refine pu (v := .sc _) rfl rfl (fun _ => rfl) ?_
            refine pu (v := .sc _) rfl rfl (fun _ => rfl) ?_
            refine pu (v := .sc _) rfl rfl (fun _ => rfl) ?_
            refine RunC.fin ?_
            refine AWP.cd hR rfl (fun h86 hR => ?_) fun h86 hR => ?_
            · refine AWP.skip ?_
              refine skT ?_
              refine AWP.block ?_
              refine AWP.sq ?_
              refine AWP.rgC 42 rfl rfl ?_
              refine pu (v := .sc _) rfl rfl (fun _ => rfl) ?_
              refine pu (v := .sc _) rfl rfl (fun _ => rfl) ?_
              refine pu (v := .sc _) rfl rfl (fun _ => rfl) ?_
              refine cn rfl rfl ti3 rfl ti102 rfl rfl ?_
              refine pu (v := .sc _) rfl rfl (fun _ => rfl) ?_
              refine cn rfl rfl ti102 rfl ti3 rfl rfl ?_
              refine pu (v := .sc _) rfl rfl (fun _ => rfl) ?_
              refine RunC.fin ?_
              refine AWP.sq ?_
              refine AWP.rgD 98 [0, 0, 0, 0, 12, 30, 62, 0, 0, 384, 896, 2047, 4095, 8191] ⟨[], [none, none, none, none, none, none, some [0], none, none, none, some [0], none, none, none]⟩ hmix (by kernel_rfl) rfl rfl ?_
              refine pu (v := .fn _ _) rfl rfl (fun _ => rfl) ?_
              refine pu (v := slV Int _ _ _ _) rfl rfl (fun _ => rfl) ?_
              refine pu (v := .sc _) rfl rfl (fun _ => rfl) ?_
              refine pu (v := .sc _) rfl rfl (fun _ => rfl) ?_
              obtain ⟨v87, ev87, hR⟩ := letE hR
              refine pu (v := .sc _) rfl rfl (fun _ => puI ev87) ?_
              obtain ⟨h88, hR⟩ := chkE hR
              refine ixS0 (α := Int) rfl rfl rfl ti22 rfl ti3 rfl h88 ?_
              refine ldE (α := Int) (v := .sc _) rfl rfl rfl (ixlt h88) ti3 rfl rfl rfl rfl ?_
              refine pu (v := slV Int _ _ _ _) rfl rfl (fun _ => rfl) ?_
              refine pu (v := .sc _) rfl rfl (fun _ => rfl) ?_
              obtain ⟨h89, hR⟩ := chkE hR
              refine ixS0 (α := Int) rfl rfl rfl ti22 rfl ti3 rfl h89 ?_
              refine ldE (α := Int) (v := .sc _) rfl rfl rfl (ixlt h89) ti3 rfl rfl rfl rfl ?_
              obtain ⟨r90, hr90, hR⟩ := bindE hR
              refine cls [1] rfl rfl cb59 (ok59 (gt data v87) (gt data (w6 (Int.fdiv (IntKind.wrap .u64 (w6 (s84.1 + s84.2))) (2 ^ 1)))) cmpc0 _ hr90) (.cons (.sc _) (.cons (.sc _) (.cons (ldX rfl rfl (.cons (.sc _) (.cons (.sc _) (.cons ldR' (.nil)))) rfl) (.nil)))) (.inl (by first | rfl | exact freshR | exact freshA | (simp only [V.fresh, V.freshs, freshR, freshA, Bool.and_self]))) rfl ?_
              refine pu (v := .sc _) rfl rfl (fun _ => rfl) ?_
              refine pu (v := .sc _) rfl rfl (fun _ => rfl) ?_
              refine RunC.fin ?_
              refine AWP.cd hR rfl (fun h91 hR => ?_) fun h91 hR => ?_
              · refine AWP.rgC 110 rfl rfl ?_
                refine pu (v := .sc _) rfl rfl (fun _ => rfl) ?_
                obtain ⟨v92, ev92, hR⟩ := letE hR
                refine pu (v := .sc _) rfl rfl (fun _ => puI ev92) ?_
                refine pu (v := .sc _) rfl rfl (fun _ => rfl) ?_
                refine RunC.blk ?_
                refine RunC.fin ?_
                refine ⟨(v92, s84.2), (Option.some.inj hR).symm, ?_⟩
                exact Weak.turnL [(0, 0), (1, 0)] [] rfl rfl (tc (trS' rfl rfl rfl rfl rfl) (tc (.sc _) (tc (.sc _) (tc (.sc _) (tc (.fn (.cons (trP' rfl rfl rfl rfl) (.nil))) (tc (.sc _) (tc (.sc _) (tc (.sc _) (tc (.sc _) (tc (.sc _) tn)))))))))) (mc rfl (btrA' rfl) (mc rfl (.box rfl (.cons (.sc _) (.cons (.sc _) (.cons trR1 (.nil)))) rfl) mn))
              · refine AWP.rgC 106 rfl rfl ?_
                refine pu (v := .sc _) rfl rfl (fun _ => rfl) ?_
                refine pu (v := .sc _) rfl rfl (fun _ => rfl) ?_
                refine RunC.blk ?_
                refine RunC.fin ?_
                refine ⟨(s84.1, w6 (Int.fdiv (IntKind.wrap .u64 (w6 (s84.1 + s84.2))) (2 ^ 1))), (Option.some.inj hR).symm, ?_⟩
                exact Weak.turnL [(0, 0), (1, 0)] [] rfl rfl (tc (trS' rfl rfl rfl rfl rfl) (tc (.sc _) (tc (.sc _) (tc (.sc _) (tc (.fn (.cons (trP' rfl rfl rfl rfl) (.nil))) (tc (.sc _) (tc (.sc _) (tc (.sc _) (tc (.sc _) (tc (.sc _) tn)))))))))) (mc rfl (btrA' rfl) (mc rfl (.box rfl (.cons (.sc _) (.cons (.sc _) (.cons trR1 (.nil)))) rfl) mn))
            · refine AWP.exit ?_
              refine exT ?_
              refine exT ?_
              refine exH (skT ?_)
              refine ⟨s84.1, (Option.some.inj hR).symm, ?_⟩
              exact Weak.turnL [(0, 0), (1, 0)] [] rfl rfl (tc (trS' rfl rfl rfl rfl rfl) (tc (.sc _) (tc (.sc _) (tc (.sc _) (tc (.fn (.cons (trP' rfl rfl rfl rfl) (.nil))) (tc (.sc _) (tc (.sc _) (tc (.sc _) tn)))))))) (mc rfl (btrA' rfl) (mc rfl (.box rfl (.cons (.sc _) (.cons (.sc _) (.cons trR1 (.nil)))) rfl) mn))
          · refine skT ?_
            refine AWP.sq ?_
            refine AWP.rgC 18 rfl rfl ?_
            refine pu (v := .sc _) rfl rfl (fun _ => rfl) ?_
            refine pu (v := .sc _) rfl rfl (fun _ => rfl) ?_
            refine pu (v := .sc _) rfl rfl (fun _ => rfl) ?_
            refine pu (v := .sc _) rfl rfl (fun _ => rfl) ?_
            refine RunC.fin ?_
            refine AWP.sq ?_
            refine AWP.joinX (fun z93 : Bool => LS.mk [(0, slV Int 0 0 0 data.length), (1, .sc (.int .i64 a)), (2, .sc (.int .i64 m)), (3, .sc (.int .i64 b)), (4, .fn (.func 59) [.ptr 1 0 0]), (18, .sc (.int .i64 (w6 (Int.fdiv (IntKind.wrap .u64 (w6 (a + b))) (2 ^ 1))))), (20, .sc (.int .i64 z85)), (24, .sc (.int .i64 (w6 (v31 - z85)))), (185, .sc (.bool z93))] (lblks 0 [arrB (α := Int) 3 0 false data, boxB (α := Cells) false cmpc0]) 2) hR (fun o93 hR => ?_) fun z93 hR => ?_
            · refine AWP.rgC 50 rfl rfl ?_
              refine pu (v := .sc _) rfl rfl (fun _ => rfl) ?_
              refine pu (v := .sc _) rfl rfl (fun _ => rfl) ?_
              refine pu (v := .sc _) rfl rfl (fun _ => rfl) ?_
              refine pu (v := .sc _) rfl rfl (fun _ => rfl) ?_
              refine brR hR (fun h94 hR => ?_) fun h94 hR => ?_
              · refine pu (v := .sc _) (wtG rfl rfl rfl h94) rfl (fun _ => rfl) ?_
                refine pu (v := .sc _) (wtG rfl rfl rfl h94) rfl (fun _ => rfl) ?_
                refine pu (v := .sc _) (wtG rfl rfl rfl h94) rfl (fun _ => rfl) ?_
                refine pkT (v := .sc (.bool (decide (m < (w6 (v31 - z85)))))) rfl rfl h94 rfl ?_
                refine RunC.fin ?_
                have hR := Option.some.inj hR; subst hR
                exact Weak.turnL [(0, 0), (1, 0)] [] rfl rfl (tc (trS' rfl rfl rfl rfl rfl) (tc (.sc _) (tc (.sc _) (tc (.sc _) (tc (.fn (.cons (trP' rfl rfl rfl rfl) (.nil))) (tc (.sc _) (tc (.sc _) (tc (.sc _) (tc (.sc _) tn))))))))) (mc rfl (btrA' rfl) (mc rfl (.box rfl (.cons (.sc _) (.cons (.sc _) (.cons trR1 (.nil)))) rfl) mn))
              · refine sk (skW rfl rfl rfl h94) ?_
                refine sk (skW rfl rfl rfl h94) ?_
                refine sk (skW rfl rfl rfl h94) ?_
                refine pkF (v := .sc (.bool false)) rfl rfl h94 rfl ?_
                refine RunC.fin ?_
                have hR := Option.some.inj hR; subst hR
                exact Weak.turnL [(0, 0), (1, 0)] [] rfl rfl (tc (trS' rfl rfl rfl rfl rfl) (tc (.sc _) (tc (.sc _) (tc (.sc _) (tc (.fn (.cons (trP' rfl rfl rfl rfl) (.nil))) (tc (.sc _) (tc (.sc _) (tc (.sc _) (tc (.sc _) tn))))))))) (mc rfl (btrA' rfl) (mc rfl (.box rfl (.cons (.sc _) (.cons (.sc _) (.cons trR1 (.nil)))) rfl) mn))
            · refine AWP.cd hR rfl (fun h95 hR => ?_) fun h95 hR => ?_
              · refine AWP.rgC 26 rfl rfl ?_
                refine pu (v := slV Int _ _ _ _) rfl rfl (fun _ => rfl) ?_
                refine pu (v := .sc _) rfl rfl (fun _ => rfl) ?_
                refine pu (v := .sc _) rfl rfl (fun _ => rfl) ?_
                refine pu (v := .sc _) rfl rfl (fun _ => rfl) ?_
                refine pu (v := .fn _ _) rfl rfl (fun _ => rfl) ?_
                obtain ⟨r96, hr96, hR⟩ := bindE hR
                obtain ⟨h97, hR⟩ := chkE hR
                refine cps (res' := .tup []) (ups := [(0, arrB (α := Int) 3 0 false r96), (1, boxB (α := Cells) false cmpc0)]) [0, 1] 22 rfl rfl rfl cb93 (ok93_54 data z85 m (w6 (v31 - z85)) cmpc0 _ hr96) (.cons (ldM rfl rfl) (.cons (.sc _) (.cons (.sc _) (.cons (.sc _) (.cons (.fn (.cons (ldP rfl rfl) (.nil))) (.nil)))))) (pc rfl bldA (pc rfl (.box (.cons (.sc _) (.cons (.sc _) (.cons ldR' (.nil)))) rfl) pn)) rfl rfl rfl rfl rfl (by first | rfl | exact renR | exact renA | exact renS | simp only [V.ren, V.rens, renR, renA, renS] | (simp only [V.ren, V.rens, renR, renA, renS]; rfl)) (by simp only [passUps, renBox, renArr]; rfl) ?_
                refine RunC.fin ?_
                refine AWP.sq ?_
                refine AWP.joinX (fun z98 : Bool => LS.mk [(0, slV Int 0 0 0 data.length), (1, .sc (.int .i64 a)), (3, .sc (.int .i64 b)), (4, .fn (.func 59) [.ptr 1 0 0]), (18, .sc (.int .i64 (w6 (Int.fdiv (IntKind.wrap .u64 (w6 (a + b))) (2 ^ 1))))), (20, .sc (.int .i64 z85)), (24, .sc (.int .i64 (w6 (v31 - z85)))), (199, .sc (.bool z98))] (lblks 0 [arrB (α := Int) 3 0 false r96, boxB (α := Cells) false cmpc0]) 2) hR (fun o98 hR => ?_) fun z98 hR => ?_
                · refine AWP.rgC 58 rfl rfl ?_
                  refine pu (v := .sc _) rfl rfl (fun _ => rfl) ?_
                  refine pu (v := .sc _) rfl rfl (fun _ => rfl) ?_
                  refine pu (v := .sc _) rfl rfl (fun _ => rfl) ?_
                  refine pu (v := .sc _) rfl rfl (fun _ => rfl) ?_
                  refine brR hR (fun h99 hR => ?_) fun h99 hR => ?_
                  · refine pu (v := .sc _) (wtG rfl rfl rfl h99) rfl (fun _ => rfl) ?_
                    refine pu (v := .sc _) (wtG rfl rfl rfl h99) rfl (fun _ => rfl) ?_
                    obtain ⟨v100, ev100, hR⟩ := letE hR
                    refine pu (v := .sc _) (wtG rfl rfl rfl h99) rfl (fun _ => puB ev100) ?_
                    refine pkT (v := .sc (.bool v100)) rfl rfl h99 rfl ?_
                    refine RunC.fin ?_
                    have hR := Option.some.inj hR; subst hR
                    exact Weak.turnL [(0, 0), (1, 0)] [] rfl rfl (tc (trS' rfl rfl rfl rfl rfl) (tc (.sc _) (tc (.sc _) (tc (.fn (.cons (trP' rfl rfl rfl rfl) (.nil))) (tc (.sc _) (tc (.sc _) (tc (.sc _) (tc (.sc _) tn)))))))) (mc rfl (btrA' rfl) (mc rfl (.box rfl (.cons (.sc _) (.cons (.sc _) (.cons trR1 (.nil)))) rfl) mn))
                  · refine sk (skW rfl rfl rfl h99) ?_
                    refine sk (skW rfl rfl rfl h99) ?_
                    refine sk (skW rfl rfl rfl h99) ?_
                    refine pkF (v := .sc (.bool false)) rfl rfl h99 rfl ?_
                    refine RunC.fin ?_
                    have hR := Option.some.inj hR; subst hR
                    exact Weak.turnL [(0, 0), (1, 0)] [] rfl rfl (tc (trS' rfl rfl rfl rfl rfl) (tc (.sc _) (tc (.sc _) (tc (.fn (.cons (trP' rfl rfl rfl rfl) (.nil))) (tc (.sc _) (tc (.sc _) (tc (.sc _) (tc (.sc _) tn)))))))) (mc rfl (btrA' rfl) (mc rfl (.box rfl (.cons (.sc _) (.cons (.sc _) (.cons trR1 (.nil)))) rfl) mn))
                · refine AWP.cd hR rfl (fun h101 hR => ?_) fun h101 hR => ?_
                  · refine AWP.rgC 26 rfl rfl ?_
                    refine pu (v := slV Int _ _ _ _) rfl rfl (fun _ => rfl) ?_
                    refine pu (v := .sc _) rfl rfl (fun _ => rfl) ?_
                    refine pu (v := .sc _) rfl rfl (fun _ => rfl) ?_
                    refine pu (v := .sc _) rfl rfl (fun _ => rfl) ?_
                    refine pu (v := .fn _ _) rfl rfl (fun _ => rfl) ?_
                    obtain ⟨r102, hr102, hR⟩ := bindE hR
                    obtain ⟨h103, hR⟩ := chkE hR
                    refine cps (res' := .tup []) (ups := [(0, arrB (α := Int) 3 0 false r102.1), (1, boxB (α := Cells) false r102.2)]) [0, 1] 22 rfl rfl rfl cb86 (ih r96 a z85 (w6 (Int.fdiv (IntKind.wrap .u64 (w6 (a + b))) (2 ^ 1))) cmpc0 _ hr102) (.cons (ldM2 rfl rfl (by first | assumption | omega)) (.cons (.sc _) (.cons (.sc _) (.cons (.sc _) (.cons (.fn (.cons (ldP rfl rfl) (.nil))) (.nil)))))) (pc rfl bldA (pc rfl (.box (.cons (.sc _) (.cons (.sc _) (.cons ldR' (.nil)))) rfl) pn)) rfl rfl rfl rfl rfl (by first | rfl | exact renR | exact renA | exact renS | simp only [V.ren, V.rens, renR, renA, renS] | (simp only [V.ren, V.rens, renR, renA, renS]; rfl)) (by simp only [passUps, renBox, renArr]; rfl) ?_
                    refine RunC.fin ?_
                    refine AWP.joinX (fun z104 : Bool => LS.mk [(0, slV Int 0 0 0 data.length), (3, .sc (.int .i64 b)), (4, .fn (.func 59) [.ptr 1 0 0]), (18, .sc (.int .i64 (w6 (Int.fdiv (IntKind.wrap .u64 (w6 (a + b))) (2 ^ 1))))), (24, .sc (.int .i64 (w6 (v31 - z85)))), (213, .sc (.bool z104))] (lblks 0 [arrB (α := Int) 3 0 false r102.1, boxB (α := Cells) false r102.2]) 2) hR (fun o104 hR => ?_) fun z104 hR => ?_
                    · refine AWP.rgC 58 rfl rfl ?_
                      refine pu (v := .sc _) rfl rfl (fun _ => rfl) ?_
                      refine pu (v := .sc _) rfl rfl (fun _ => rfl) ?_
                      obtain ⟨v105, ev105, hR⟩ := letE hR
                      refine pu (v := .sc _) rfl rfl (fun _ => puB ev105) ?_
                      refine pu (v := .sc _) rfl rfl (fun _ => rfl) ?_
                      refine brR hR (fun h106 hR => ?_) fun h106 hR => ?_
                      · refine pu (v := .sc _) (wtG rfl rfl rfl h106) rfl (fun _ => rfl) ?_
                        refine pu (v := .sc _) (wtG rfl rfl rfl h106) rfl (fun _ => rfl) ?_
                        refine pu (v := .sc _) (wtG rfl rfl rfl h106) rfl (fun _ => rfl) ?_
                        refine pkT (v := .sc (.bool (decide ((w6 (v31 - z85)) < b)))) rfl rfl h106 rfl ?_
                        refine RunC.fin ?_
                        have hR := Option.some.inj hR; subst hR
                        exact Weak.turnL [(0, 0), (1, 0)] [] rfl rfl (tc (trS' rfl rfl rfl rfl rfl) (tc (.sc _) (tc (.fn (.cons (trP' rfl rfl rfl rfl) (.nil))) (tc (.sc _) (tc (.sc _) (tc (.sc _) tn)))))) (mc rfl (btrA' rfl) (mc rfl (.box rfl (.cons (.sc _) (.cons (.sc _) (.cons trR1 (.nil)))) rfl) mn))
                      · refine sk (skW rfl rfl rfl h106) ?_
                        refine sk (skW rfl rfl rfl h106) ?_
                        refine sk (skW rfl rfl rfl h106) ?_
                        refine pkF (v := .sc (.bool false)) rfl rfl h106 rfl ?_
                        refine RunC.fin ?_
                        have hR := Option.some.inj hR; subst hR
                        exact Weak.turnL [(0, 0), (1, 0)] [] rfl rfl (tc (trS' rfl rfl rfl rfl rfl) (tc (.sc _) (tc (.fn (.cons (trP' rfl rfl rfl rfl) (.nil))) (tc (.sc _) (tc (.sc _) (tc (.sc _) tn)))))) (mc rfl (btrA' rfl) (mc rfl (.box rfl (.cons (.sc _) (.cons (.sc _) (.cons trR1 (.nil)))) rfl) mn))
                    · refine AWP.cd hR rfl (fun h107 hR => ?_) fun h107 hR => ?_
                      · refine AWP.rgC 26 rfl rfl ?_
                        refine pu (v := slV Int _ _ _ _) rfl rfl (fun _ => rfl) ?_
                        refine pu (v := .sc _) rfl rfl (fun _ => rfl) ?_
                        refine pu (v := .sc _) rfl rfl (fun _ => rfl) ?_
                        refine pu (v := .sc _) rfl rfl (fun _ => rfl) ?_
                        refine pu (v := .fn _ _) rfl rfl (fun _ => rfl) ?_
                        obtain ⟨r108, hr108, hR⟩ := bindE hR
                        obtain ⟨h109, hR⟩ := chkE hR
                        refine cps (res' := .tup []) (ups := [(0, arrB (α := Int) 3 0 false r108.1), (1, boxB (α := Cells) false r108.2)]) [0, 1] 22 rfl rfl rfl cb86 (ih r102.1 (w6 (Int.fdiv (IntKind.wrap .u64 (w6 (a + b))) (2 ^ 1))) (w6 (v31 - z85)) b r102.2 _ hr108) (.cons (ldM2 rfl rfl (by first | assumption | omega)) (.cons (.sc _) (.cons (.sc _) (.cons (.sc _) (.cons (.fn (.cons (ldP rfl rfl) (.nil))) (.nil)))))) (pc rfl bldA (pc rfl (.box (.cons (.sc _) (.cons (.sc _) (.cons ldR' (.nil)))) rfl) pn)) rfl rfl rfl rfl rfl (by first | rfl | exact renR | exact renA | exact renS | simp only [V.ren, V.rens, renR, renA, renS] | (simp only [V.ren, V.rens, renR, renA, renS]; rfl)) (by simp only [passUps, renBox, renArr]; rfl) ?_
                        refine RunC.nil ?_
                        have hR := Option.some.inj hR; subst hR
                        exact hQ _ _ (LS.mk [] (lblks 0 [arrB (α := Int) 3 0 false r108.1, boxB (α := Cells) false r108.2]) 2) (.tup []) [] (.inl rfl) (Weak.turnL [(0, 0), (1, 0)] [] rfl rfl tn (mc rfl (btrA' rfl) (mc rfl (.box rfl (.cons (.sc _) (.cons (.sc _) (.cons trR1 (.nil)))) rfl) mn))) (ro0 ) rfl rfl (.tup .nil) (pc rfl bldA (pc rfl bldB pn))
                      · refine AWP.skip ?_
                        have hR := Option.some.inj hR; subst hR
                        exact hQ _ _ (LS.mk [] (lblks 0 [arrB (α := Int) 3 0 false r102.1, boxB (α := Cells) false r102.2]) 2) (.tup []) [] (.inl rfl) (Weak.turnL [(0, 0), (1, 0)] [] rfl rfl tn (mc rfl (btrA' rfl) (mc rfl (.box rfl (.cons (.sc _) (.cons (.sc _) (.cons trR1 (.nil)))) rfl) mn))) (ro0 ) rfl rfl (.tup .nil) (pc rfl bldA (pc rfl bldB pn))
                  · refine AWP.skip ?_
                    refine skT ?_
                    refine AWP.joinX (fun z110 : Bool => LS.mk [(0, slV Int 0 0 0 data.length), (3, .sc (.int .i64 b)), (4, .fn (.func 59) [.ptr 1 0 0]), (18, .sc (.int .i64 (w6 (Int.fdiv (IntKind.wrap .u64 (w6 (a + b))) (2 ^ 1))))), (24, .sc (.int .i64 (w6 (v31 - z85)))), (213, .sc (.bool z110))] (lblks 0 [arrB (α := Int) 3 0 false r96, boxB (α := Cells) false cmpc0]) 2) hR (fun o110 hR => ?_) fun z110 hR => ?_
                    · refine AWP.rgC 34 rfl rfl ?_
                      refine pu (v := .sc _) rfl rfl (fun _ => rfl) ?_
                      refine pu (v := .sc _) rfl rfl (fun _ => rfl) ?_
                      obtain ⟨v111, ev111, hR⟩ := letE hR
                      refine pu (v := .sc _) rfl rfl (fun _ => puB ev111) ?_
                      refine pu (v := .sc _) rfl rfl (fun _ => rfl) ?_
                      refine brR hR (fun h112 hR => ?_) fun h112 hR => ?_
                      · refine pu (v := .sc _) (wtG rfl rfl rfl h112) rfl (fun _ => rfl) ?_
                        refine pu (v := .sc _) (wtG rfl rfl rfl h112) rfl (fun _ => rfl) ?_
                        refine pu (v := .sc _) (wtG rfl rfl rfl h112) rfl (fun _ => rfl) ?_
                        refine pkT (v := .sc (.bool (decide ((w6 (v31 - z85)) < b)))) rfl rfl h112 rfl ?_
                        refine RunC.fin ?_
                        have hR := Option.some.inj hR; subst hR
                        exact Weak.turnL [(0, 0), (1, 0)] [] rfl rfl (tc (trS' rfl rfl rfl rfl rfl) (tc (.sc _) (tc (.fn (.cons (trP' rfl rfl rfl rfl) (.nil))) (tc (.sc _) (tc (.sc _) (tc (.sc _) tn)))))) (mc rfl (btrA' rfl) (mc rfl (.box rfl (.cons (.sc _) (.cons (.sc _) (.cons trR1 (.nil)))) rfl) mn))
                      · refine sk (skW rfl rfl rfl h112) ?_
                        refine sk (skW rfl rfl rfl h112) ?_
                        refine sk (skW rfl rfl rfl h112) ?_
                        refine pkF (v := .sc (.bool false)) rfl rfl h112 rfl ?_
                        refine RunC.fin ?_
                        have hR := Option.some.inj hR; subst hR
                        exact Weak.turnL [(0, 0), (1, 0)] [] rfl rfl (tc (trS' rfl rfl rfl rfl rfl) (tc (.sc _) (tc (.fn (.cons (trP' rfl rfl rfl rfl) (.nil))) (tc (.sc _) (tc (.sc _) (tc (.sc _) tn)))))) (mc rfl (btrA' rfl) (mc rfl (.box rfl (.cons (.sc _) (.cons (.sc _) (.cons trR1 (.nil)))) rfl) mn))
                    · refine AWP.cd hR rfl (fun h113 hR => ?_) fun h113 hR => ?_
                      · refine AWP.rgC 26 rfl rfl ?_
                        refine pu (v := slV Int _ _ _ _) rfl rfl (fun _ => rfl) ?_
                        refine pu (v := .sc _) rfl rfl (fun _ => rfl) ?_
                        refine pu (v := .sc _) rfl rfl (fun _ => rfl) ?_
                        refine pu (v := .sc _) rfl rfl (fun _ => rfl) ?_
                        refine pu (v := .fn _ _) rfl rfl (fun _ => rfl) ?_
                        obtain ⟨r114, hr114, hR⟩ := bindE hR
                        obtain ⟨h115, hR⟩ := chkE hR
                        refine cps (res' := .tup []) (ups := [(0, arrB (α := Int) 3 0 false r114.1), (1, boxB (α := Cells) false r114.2)]) [0, 1] 22 rfl rfl rfl cb86 (ih r96 (w6 (Int.fdiv (IntKind.wrap .u64 (w6 (a + b))) (2 ^ 1))) (w6 (v31 - z85)) b cmpc0 _ hr114) (.cons (ldM2 rfl rfl (by first | assumption | omega)) (.cons (.sc _) (.cons (.sc _) (.cons (.sc _) (.cons (.fn (.cons (ldP rfl rfl) (.nil))) (.nil)))))) (pc rfl bldA (pc rfl (.box (.cons (.sc _) (.cons (.sc _) (.cons ldR' (.nil)))) rfl) pn)) rfl rfl rfl rfl rfl (by first | rfl | exact renR | exact renA | exact renS | simp only [V.ren, V.rens, renR, renA, renS] | (simp only [V.ren, V.rens, renR, renA, renS]; rfl)) (by simp only [passUps, renBox, renArr]; rfl) ?_
                        refine RunC.nil ?_
                        have hR := Option.some.inj hR; subst hR
                        exact hQ _ _ (LS.mk [] (lblks 0 [arrB (α := Int) 3 0 false r114.1, boxB (α := Cells) false r114.2]) 2) (.tup []) [] (.inl rfl) (Weak.turnL [(0, 0), (1, 0)] [] rfl rfl tn (mc rfl (btrA' rfl) (mc rfl (.box rfl (.cons (.sc _) (.cons (.sc _) (.cons trR1 (.nil)))) rfl) mn))) (ro0 ) rfl rfl (.tup .nil) (pc rfl bldA (pc rfl bldB pn))
                      · refine AWP.skip ?_
                        have hR := Option.some.inj hR; subst hR
                        exact hQ _ _ (LS.mk [] (lblks 0 [arrB (α := Int) 3 0 false r96, boxB (α := Cells) false cmpc0]) 2) (.tup []) [] (.inl rfl) (Weak.turnL [(0, 0), (1, 0)] [] rfl rfl tn (mc rfl (btrA' rfl) (mc rfl (.box rfl (.cons (.sc _) (.cons (.sc _) (.cons trR1 (.nil)))) rfl) mn))) (ro0 ) rfl rfl (.tup .nil) (pc rfl bldA (pc rfl bldB pn))
              · refine AWP.skip ?_
                refine skT ?_
                refine AWP.sq ?_
                refine AWP.joinX (fun z116 : Bool => LS.mk [(0, slV Int 0 0 0 data.length), (1, .sc (.int .i64 a)), (3, .sc (.int .i64 b)), (4, .fn (.func 59) [.ptr 1 0 0]), (18, .sc (.int .i64 (w6 (Int.fdiv (IntKind.wrap .u64 (w6 (a + b))) (2 ^ 1))))), (20, .sc (.int .i64 z85)), (24, .sc (.int .i64 (w6 (v31 - z85)))), (199, .sc (.bool z116))] (lblks 0 [arrB (α := Int) 3 0 false data, boxB (α := Cells) false cmpc0]) 2) hR (fun o116 hR => ?_) fun z116 hR => ?_
                · refine AWP.rgC 34 rfl rfl ?_
                  refine pu (v := .sc _) rfl rfl (fun _ => rfl) ?_
                  refine pu (v := .sc _) rfl rfl (fun _ => rfl) ?_
                  refine pu (v := .sc _) rfl rfl (fun _ => rfl) ?_
                  refine pu (v := .sc _) rfl rfl (fun _ => rfl) ?_
                  refine brR hR (fun h117 hR => ?_) fun h117 hR => ?_
                  · refine pu (v := .sc _) (wtG rfl rfl rfl h117) rfl (fun _ => rfl) ?_
                    refine pu (v := .sc _) (wtG rfl rfl rfl h117) rfl (fun _ => rfl) ?_
                    obtain ⟨v118, ev118, hR⟩ := letE hR
                    refine pu (v := .sc _) (wtG rfl rfl rfl h117) rfl (fun _ => puB ev118) ?_
                    refine pkT (v := .sc (.bool v118)) rfl rfl h117 rfl ?_
                    refine RunC.fin ?_
                    have hR := Option.some.inj hR; subst hR
                    exact Weak.turnL [(0, 0), (1, 0)] [] rfl rfl (tc (trS' rfl rfl rfl rfl rfl) (tc (.sc _) (tc (.sc _) (tc (.fn (.cons (trP' rfl rfl rfl rfl) (.nil))) (tc (.sc _) (tc (.sc _) (tc (.sc _) (tc (.sc _) tn)))))))) (mc rfl (btrA' rfl) (mc rfl (.box rfl (.cons (.sc _) (.cons (.sc _) (.cons trR1 (.nil)))) rfl) mn))
                  · refine sk (skW rfl rfl rfl h117) ?_
                    refine sk (skW rfl rfl rfl h117) ?_
                    refine sk (skW rfl rfl rfl h117) ?_
                    refine pkF (v := .sc (.bool false)) rfl rfl h117 rfl ?_
                    refine RunC.fin ?_
                    have hR := Option.some.inj hR; subst hR
                    exact Weak.turnL [(0, 0), (1, 0)] [] rfl rfl (tc (trS' rfl rfl rfl rfl rfl) (tc (.sc _) (tc (.sc _) (tc (.fn (.cons (trP' rfl rfl rfl rfl) (.nil))) (tc (.sc _) (tc (.sc _) (tc (.sc _) (tc (.sc _) tn)))))))) (mc rfl (btrA' rfl) (mc rfl (.box rfl (.cons (.sc _) (.cons (.sc _) (.cons trR1 (.nil)))) rfl) mn))
                · refine AWP.cd hR rfl (fun h119 hR => ?_) fun h119 hR => ?_
                  · refine AWP.rgC 26 rfl rfl ?_
                    refine pu (v := slV Int _ _ _ _) rfl rfl (fun _ => rfl) ?_
                    refine pu (v := .sc _) rfl rfl (fun _ => rfl) ?_
                    refine pu (v := .sc _) rfl rfl (fun _ => rfl) ?_
                    refine pu (v := .sc _) rfl rfl (fun _ => rfl) ?_
                    refine pu (v := .fn _ _) rfl rfl (fun _ => rfl) ?_
                    obtain ⟨r120, hr120, hR⟩ := bindE hR
                    obtain ⟨h121, hR⟩ := chkE hR
                    refine cps (res' := .tup []) (ups := [(0, arrB (α := Int) 3 0 false r120.1), (1, boxB (α := Cells) false r120.2)]) [0, 1] 22 rfl rfl rfl cb86 (ih data a z85 (w6 (Int.fdiv (IntKind.wrap .u64 (w6 (a + b))) (2 ^ 1))) cmpc0 _ hr120) (.cons (ldM rfl rfl) (.cons (.sc _) (.cons (.sc _) (.cons (.sc _) (.cons (.fn (.cons (ldP rfl rfl) (.nil))) (.nil)))))) (pc rfl bldA (pc rfl (.box (.cons (.sc _) (.cons (.sc _) (.cons ldR' (.nil)))) rfl) pn)) rfl rfl rfl rfl rfl (by first | rfl | exact renR | exact renA | exact renS | simp only [V.ren, V.rens, renR, renA, renS] | (simp only [V.ren, V.rens, renR, renA, renS]; rfl)) (by simp only [passUps, renBox, renArr]; rfl) ?_
                    refine RunC.fin ?_
                    refine AWP.joinX (fun z122 : Bool => LS.mk [(0, slV Int 0 0 0 data.length), (3, .sc (.int .i64 b)), (4, .fn (.func 59) [.ptr 1 0 0]), (18, .sc (.int .i64 (w6 (Int.fdiv (IntKind.wrap .u64 (w6 (a + b))) (2 ^ 1))))), (24, .sc (.int .i64 (w6 (v31 - z85)))), (213, .sc (.bool z122))] (lblks 0 [arrB (α := Int) 3 0 false r120.1, boxB (α := Cells) false r120.2]) 2) hR (fun o122 hR => ?_) fun z122 hR => ?_
                    · refine AWP.rgC 58 rfl rfl ?_
                      refine pu (v := .sc _) rfl rfl (fun _ => rfl) ?_
                      refine pu (v := .sc _) rfl rfl (fun _ => rfl) ?_
                      obtain ⟨v123, ev123, hR⟩ := letE hR
                      refine pu (v := .sc _) rfl rfl (fun _ => puB ev123) ?_
                      refine pu (v := .sc _) rfl rfl (fun _ => rfl) ?_
                      refine brR hR (fun h124 hR => ?_) fun h124 hR => ?_
                      · refine pu (v := .sc _) (wtG rfl rfl rfl h124) rfl (fun _ => rfl) ?_
                        refine pu (v := .sc _) (wtG rfl rfl rfl h124) rfl (fun _ => rfl) ?_
                        refine pu (v := .sc _) (wtG rfl rfl rfl h124) rfl (fun _ => rfl) ?_
                        refine pkT (v := .sc (.bool (decide ((w6 (v31 - z85)) < b)))) rfl rfl h124 rfl ?_
                        refine RunC.fin ?_
                        have hR := Option.some.inj hR; subst hR
                        exact Weak.turnL [(0, 0), (1, 0)] [] rfl rfl (tc (trS' rfl rfl rfl rfl rfl) (tc (.sc _) (tc (.fn (.cons (trP' rfl rfl rfl rfl) (.nil))) (tc (.sc _) (tc (.sc _) (tc (.sc _) tn)))))) (mc rfl (btrA' rfl) (mc rfl (.box rfl (.cons (.sc _) (.cons (.sc _) (.cons trR1 (.nil)))) rfl) mn))
                      · refine sk (skW rfl rfl rfl h124) ?_
                        refine sk (skW rfl rfl rfl h124) ?_
                        refine sk (skW rfl rfl rfl h124) ?_
                        refine pkF (v := .sc (.bool false)) rfl rfl h124 rfl ?_
                        refine RunC.fin ?_
                        have hR := Option.some.inj hR; subst hR
                        exact Weak.turnL [(0, 0), (1, 0)] [] rfl rfl (tc (trS' rfl rfl rfl rfl rfl) (tc (.sc _) (tc (.fn (.cons (trP' rfl rfl rfl rfl) (.nil))) (tc (.sc _) (tc (.sc _) (tc (.sc _) tn)))))) (mc rfl (btrA' rfl) (mc rfl (.box rfl (.cons (.sc _) (.cons (.sc _) (.cons trR1 (.nil)))) rfl) mn))
                    · refine AWP.cd hR rfl (fun h125 hR => ?_) fun h125 hR => ?_
                      · refine AWP.rgC 26 rfl rfl ?_
                        refine pu (v := slV Int _ _ _ _) rfl rfl (fun _ => rfl) ?_
                        refine pu (v := .sc _) rfl rfl (fun _ => rfl) ?_
                        refine pu (v := .sc _) rfl rfl (fun _ => rfl) ?_
                        refine pu (v := .sc _) rfl rfl (fun _ => rfl) ?_
                        refine pu (v := .fn _ _) rfl rfl (fun _ => rfl) ?_
                        obtain ⟨r126, hr126, hR⟩ := bindE hR
                        obtain ⟨h127, hR⟩ := chkE hR
                        refine cps (res' := .tup []) (ups := [(0, arrB (α := Int) 3 0 false r126.1), (1, boxB (α := Cells) false r126.2)]) [0, 1] 22 rfl rfl rfl cb86 (ih r120.1 (w6 (Int.fdiv (IntKind.wrap .u64 (w6 (a + b))) (2 ^ 1))) (w6 (v31 - z85)) b r120.2 _ hr126) (.cons (ldM2 rfl rfl (by first | assumption | omega)) (.cons (.sc _) (.cons (.sc _) (.cons (.sc _) (.cons (.fn (.cons (ldP rfl rfl) (.nil))) (.nil)))))) (pc rfl bldA (pc rfl (.box (.cons (.sc _) (.cons (.sc _) (.cons ldR' (.nil)))) rfl) pn)) rfl rfl rfl rfl rfl (by first | rfl | exact renR | exact renA | exact renS | simp only [V.ren, V.rens, renR, renA, renS] | (simp only [V.ren, V.rens, renR, renA, renS]; rfl)) (by simp only [passUps, renBox, renArr]; rfl) ?_
                        refine RunC.nil ?_
                        have hR := Option.some.inj hR; subst hR
                        exact hQ _ _ (LS.mk [] (lblks 0 [arrB (α := Int) 3 0 false r126.1, boxB (α := Cells) false r126.2]) 2) (.tup []) [] (.inl rfl) (Weak.turnL [(0, 0), (1, 0)] [] rfl rfl tn (mc rfl (btrA' rfl) (mc rfl (.box rfl (.cons (.sc _) (.cons (.sc _) (.cons trR1 (.nil)))) rfl) mn))) (ro0 ) rfl rfl (.tup .nil) (pc rfl bldA (pc rfl bldB pn))
                      · refine AWP.skip ?_
                        have hR := Option.some.inj hR; subst hR
                        exact hQ _ _ (LS.mk [] (lblks 0 [arrB (α := Int) 3 0 false r120.1, boxB (α := Cells) false r120.2]) 2) (.tup []) [] (.inl rfl) (Weak.turnL [(0, 0), (1, 0)] [] rfl rfl tn (mc rfl (btrA' rfl) (mc rfl (.box rfl (.cons (.sc _) (.cons (.sc _) (.cons trR1 (.nil)))) rfl) mn))) (ro0 ) rfl rfl (.tup .nil) (pc rfl bldA (pc rfl bldB pn))
                  · refine AWP.skip ?_
                    refine skT ?_
                    refine AWP.joinX (fun z128 : Bool => LS.mk [(0, slV Int 0 0 0 data.length), (3, .sc (.int .i64 b)), (4, .fn (.func 59) [.ptr 1 0 0]), (18, .sc (.int .i64 (w6 (Int.fdiv (IntKind.wrap .u64 (w6 (a + b))) (2 ^ 1))))), (24, .sc (.int .i64 (w6 (v31 - z85)))), (213, .sc (.bool z128))] (lblks 0 [arrB (α := Int) 3 0 false data, boxB (α := Cells) false cmpc0]) 2) hR (fun o128 hR => ?_) fun z128 hR => ?_
                    · refine AWP.rgC 34 rfl rfl ?_
                      refine pu (v := .sc _) rfl rfl (fun _ => rfl) ?_
                      refine pu (v := .sc _) rfl rfl (fun _ => rfl) ?_
                      obtain ⟨v129, ev129, hR⟩ := letE hR
                      refine pu (v := .sc _) rfl rfl (fun _ => puB ev129) ?_
                      refine pu (v := .sc _) rfl rfl (fun _ => rfl) ?_
                      refine brR hR (fun h130 hR => ?_) fun h130 hR => ?_
                      · refine pu (v := .sc _) (wtG rfl rfl rfl h130) rfl (fun _ => rfl) ?_
                        refine pu (v := .sc _) (wtG rfl rfl rfl h130) rfl (fun _ => rfl) ?_
                        refine pu (v := .sc _) (wtG rfl rfl rfl h130) rfl (fun _ => rfl) ?_
                        refine pkT (v := .sc (.bool (decide ((w6 (v31 - z85)) < b)))) rfl rfl h130 rfl ?_
                        refine RunC.fin ?_
                        have hR := Option.some.inj hR; subst hR
                        exact Weak.turnL [(0, 0), (1, 0)] [] rfl rfl (tc (trS' rfl rfl rfl rfl rfl) (tc (.sc _) (tc (.fn (.cons (trP' rfl rfl rfl rfl) (.nil))) (tc (.sc _) (tc (.sc _) (tc (.sc _) tn)))))) (mc rfl (btrA' rfl) (mc rfl (.box rfl (.cons (.sc _) (.cons (.sc _) (.cons trR1 (.nil)))) rfl) mn))
                      · refine sk (skW rfl rfl rfl h130) ?_
                        refine sk (skW rfl rfl rfl h130) ?_
                        refine sk (skW rfl rfl rfl h130) ?_
                        refine pkF (v := .sc (.bool false)) rfl rfl h130 rfl ?_
                        refine RunC.fin ?_
                        have hR := Option.some.inj hR; subst hR
                        exact Weak.turnL [(0, 0), (1, 0)] [] rfl rfl (tc (trS' rfl rfl rfl rfl rfl) (tc (.sc _) (tc (.fn (.cons (trP' rfl rfl rfl rfl) (.nil))) (tc (.sc _) (tc (.sc _) (tc (.sc _) tn)))))) (mc rfl (btrA' rfl) (mc rfl (.box rfl (.cons (.sc _) (.cons (.sc _) (.cons trR1 (.nil)))) rfl) mn))
                    · refine AWP.cd hR rfl (fun h131 hR => ?_) fun h131 hR => ?_
                      · refine AWP.rgC 26 rfl rfl ?_
                        refine pu (v := slV Int _ _ _ _) rfl rfl (fun _ => rfl) ?_
                        refine pu (v := .sc _) rfl rfl (fun _ => rfl) ?_
                        refine pu (v := .sc _) rfl rfl (fun _ => rfl) ?_
                        refine pu (v := .sc _) rfl rfl (fun _ => rfl) ?_
                        refine pu (v := .fn _ _) rfl rfl (fun _ => rfl) ?_
                        obtain ⟨r132, hr132, hR⟩ := bindE hR
                        obtain ⟨h133, hR⟩ := chkE hR
                        refine cps (res' := .tup []) (ups := [(0, arrB (α := Int) 3 0 false r132.1), (1, boxB (α := Cells) false r132.2)]) [0, 1] 22 rfl rfl rfl cb86 (ih data (w6 (Int.fdiv (IntKind.wrap .u64 (w6 (a + b))) (2 ^ 1))) (w6 (v31 - z85)) b cmpc0 _ hr132) (.cons (ldM rfl rfl) (.cons (.sc _) (.cons (.sc _) (.cons (.sc _) (.cons (.fn (.cons (ldP rfl rfl) (.nil))) (.nil)))))) (pc rfl bldA (pc rfl (.box (.cons (.sc _) (.cons (.sc _) (.cons ldR' (.nil)))) rfl) pn)) rfl rfl rfl rfl rfl (by first | rfl | exact renR | exact renA | exact renS | simp only [V.ren, V.rens, renR, renA, renS] | (simp only [V.ren, V.rens, renR, renA, renS]; rfl)) (by simp only [passUps, renBox, renArr]; rfl) ?_
                        refine RunC.nil ?_
                        have hR := Option.some.inj hR; subst hR
                        exact hQ _ _ (LS.mk [] (lblks 0 [arrB (α := Int) 3 0 false r132.1, boxB (α := Cells) false r132.2]) 2) (.tup []) [] (.inl rfl) (Weak.turnL [(0, 0), (1, 0)] [] rfl rfl tn (mc rfl (btrA' rfl) (mc rfl (.box rfl (.cons (.sc _) (.cons (.sc _) (.cons trR1 (.nil)))) rfl) mn))) (ro0 ) rfl rfl (.tup .nil) (pc rfl bldA (pc rfl bldB pn))
                      · refine AWP.skip ?_
                        have hR := Option.some.inj hR; subst hR
                        exact hQ _ _ (LS.mk [] (lblks 0 [arrB (α := Int) 3 0 false data, boxB (α := Cells) false cmpc0]) 2) (.tup []) [] (.inl rfl) (Weak.turnL [(0, 0), (1, 0)] [] rfl rfl tn (mc rfl (btrA' rfl) (mc rfl (.box rfl (.cons (.sc _) (.cons (.sc _) (.cons trR1 (.nil)))) rfl) mn))) (ro0 ) rfl rfl (.tup .nil) (pc rfl bldA (pc rfl bldB pn))
theorem ok70_56 (data : List Int) (n : Int) (cmpc0 : Cells) (r : (List Int) × Cells) (hR : slices_stableCmpFunc_Int_find_Sure_1_2 data n cmpc0 = some r) : FnD Try.prog 70 [arrB 3 0 false data, boxB false cmpc0] [slV Int 0 0 0 data.length, .sc (.int .i64 n), .fn (.func 59) [.ptr 1 0 0]] (.tup []) [arrB 3 0 false r.1, boxB false r.2] := by
  refine FnX.walk Try.func70 rfl 63 2 (by simp [Try.ntmps70]) rfl fun W S F Q hQ => ?_
  unfold slices_stableCmpFunc_Int_find_Sure_1_2 at hR
  refine AWP.sq ?_
  refine AWP.rgC 6 rfl rfl ?_
  refine pu (v := .sc _) rfl rfl (fun _ => rfl) ?_
  refine RunC.fin ?_
  refine AWP.sq ?_
  refine AWP.rgC 18 rfl rfl ?_
  refine pu (v := .sc _) rfl rfl (fun _ => rfl) ?_
  refine pu (v := .sc _) rfl rfl (fun _ => rfl) ?_
  refine pu (v := .sc _) rfl rfl (fun _ => rfl) ?_
  refine RunC.fin ?_
  refine AWP.sq ?_
  refine AWP.loopJ (fun s1 : (List Int) × Int × Int => LS.mk [(0, slV Int 0 0 0 s1.1.length), (1, .sc (.int .i64 n)), (2, .fn (.func 59) [.ptr 1 0 0]), (6, .sc (.int .i64 20)), (7, .sc (.int .i64 s1.2.1)), (8, .sc (.int .i64 s1.2.2))] (lblks 0 [arrB (α := Int) 3 0 false s1.1, boxB (α := Cells) false cmpc0]) 2) (fun z2 : (List Int) × Int => LS.mk [(0, slV Int 0 0 0 z2.1.length), (1, .sc (.int .i64 n)), (2, .fn (.func 59) [.ptr 1 0 0]), (6, .sc (.int .i64 20)), (7, .sc (.int .i64 z2.2))] (lblks 0 [arrB (α := Int) 3 0 false z2.1, boxB (α := Cells) false cmpc0]) 2) (slices_stableCmpFunc_Int_find_Sure_1_2.l1 n cmpc0) hR (s0 := (data, 0, 20)) (Weak.turnL [(0, 0), (1, 0)] [] rfl rfl (tc (trS' rfl rfl rfl rfl rfl) (tc (.sc _) (tc (.fn (.cons (trP' rfl rfl rfl rfl) (.nil))) (tc (.sc _) (tc (.sc _) (tc (.sc _) tn)))))) (mc rfl (btrA' rfl) (mc rfl (.box rfl (.cons (.sc _) (.cons (.sc _) (.cons trR1 (.nil)))) rfl) mn))) (fun s1 o1 hR => ?_) fun z2 hR => ?_
  · unfold slices_stableCmpFunc_Int_find_Sure_1_2.l1 at hR
    refine AWP.sq ?_
    refine AWP.sq ?_
    refine AWP.rgC 14 rfl rfl ?_
    refine pu (v := .sc _) rfl rfl (fun _ => rfl) ?_
    refine pu (v := .sc _) rfl rfl (fun _ => rfl) ?_
    refine pu (v := .sc _) rfl rfl (fun _ => rfl) ?_
    refine RunC.fin ?_
    refine AWP.cd hR rfl (fun h3 hR => ?_) fun h3 hR => ?_
    · refine AWP.skip ?_
      refine skT ?_
      refine AWP.block ?_
      refine AWP.sq ?_
      refine AWP.rgC 34 rfl rfl ?_
      refine pu (v := slV Int _ _ _ _) rfl rfl (fun _ => rfl) ?_
      refine pu (v := .sc _) rfl rfl (fun _ => rfl) ?_
      refine pu (v := .sc _) rfl rfl (fun _ => rfl) ?_
      refine pu (v := .fn _ _) rfl rfl (fun _ => rfl) ?_
      obtain ⟨r4, hr4, hR⟩ := bindE hR
      obtain ⟨h5, hR⟩ := chkE hR
      refine cps (res' := .tup []) (ups := [(0, arrB (α := Int) 3 0 false r4), (1, boxB (α := Cells) false cmpc0)]) [0, 1] 30 rfl rfl rfl cb85 (ok85_52 s1.1 s1.2.1 s1.2.2 cmpc0 _ hr4) (.cons (ldM rfl rfl) (.cons (.sc _) (.cons (.sc _) (.cons (.fn (.cons (ldP rfl rfl) (.nil))) (.nil))))) (pc rfl bldA (pc rfl (.box (.cons (.sc _) (.cons (.sc _) (.cons ldR' (.nil)))) rfl) pn)) rfl rfl rfl rfl rfl (by first | rfl | exact renR | exact renA | exact renS | simp only [V.ren, V.rens, renR, renA, renS] | (simp only [V.ren, V.rens, renR, renA, renS]; rfl)) (by simp only [passUps, renBox, renArr]; rfl) ?_
      refine RunC.fin ?_
      refine AWP.sq ?_
      refine AWP.rgC 42 rfl rfl ?_
      refine pu (v := .sc _) rfl rfl (fun _ => rfl) ?_
      refine pu (v := .sc _) rfl rfl (fun _ => rfl) ?_
      refine RunC.fin ?_
      refine AWP.rgC 58 rfl rfl ?_
      refine pu (v := .sc _) rfl rfl (fun _ => rfl) ?_
      refine pu (v := .sc _) rfl rfl (fun _ => rfl) ?_
      refine pu (v := .sc _) rfl rfl (fun _ => rfl) ?_
      refine pu (v := .sc _) rfl rfl (fun _ => rfl) ?_
      refine RunC.blk ?_
      refine RunC.fin ?_
      refine ⟨(r4, s1.2.2, w6 (s1.2.2 + 20)), (Option.some.inj hR).symm, ?_⟩
      exact Weak.turnL [(0, 0), (1, 0)] [] rfl rfl (tc (trS' rfl rfl rfl rfl h5) (tc (.sc _) (tc (.fn (.cons (trP' rfl rfl rfl rfl) (.nil))) (tc (.sc _) (tc (.sc _) (tc (.sc _) tn)))))) (mc rfl (btrA' rfl) (mc rfl (.box rfl (.cons (.sc _) (.cons (.sc _) (.cons trR1 (.nil)))) rfl) mn))
    · refine AWP.exit ?_
      refine exT ?_
      refine exT ?_
      refine exH (skT ?_)
      refine ⟨(s1.1, s1.2.1), (Option.some.inj hR).symm, ?_⟩
      exact Weak.turnL [(0, 0), (1, 0)] [] rfl rfl (tc (trS' rfl rfl rfl rfl rfl) (tc (.sc _) (tc (.fn (.cons (trP' rfl rfl rfl rfl) (.nil))) (tc (.sc _) (tc (.sc _) tn))))) (mc rfl (btrA' rfl) (mc rfl (.box rfl (.cons (.sc _) (.cons (.sc _) (.cons trR1 (.nil)))) rfl) mn))
  · refine skT ?_
    refine AWP.sq ?_
    refine AWP.rgC 22 rfl rfl ?_
    refine pu (v := slV Int _ _ _ _) rfl rfl (fun _ => rfl) ?_
    refine pu (v := .sc _) rfl rfl (fun _ => rfl) ?_
    refine pu (v := .sc _) rfl rfl (fun _ => rfl) ?_
    refine pu (v := .fn _ _) rfl rfl (fun _ => rfl) ?_
    obtain ⟨r6, hr6, hR⟩ := bindE hR
    obtain ⟨h7, hR⟩ := chkE hR
    refine cps (res' := .tup []) (ups := [(0, arrB (α := Int) 3 0 false r6), (1, boxB (α := Cells) false cmpc0)]) [0, 1] 18 rfl rfl rfl cb85 (ok85_52 z2.1 z2.2 n cmpc0 _ hr6) (.cons (ldM rfl rfl) (.cons (.sc _) (.cons (.sc _) (.cons (.fn (.cons (ldP rfl rfl) (.nil))) (.nil))))) (pc rfl bldA (pc rfl (.box (.cons (.sc _) (.cons (.sc _) (.cons ldR' (.nil)))) rfl) pn)) rfl rfl rfl rfl rfl (by first | rfl | exact renR | exact renA | exact renS | simp only [V.ren, V.rens, renR, renA, renS] | (simp only [V.ren, V.rens, renR, renA, renS]; rfl)) (by simp only [passUps, renBox, renArr]; rfl) ?_
    refine RunC.fin ?_
    refine AWP.loopJ (fun s8 : (List Int) × Cells × Int => LS.mk [(0, slV Int 0 0 0 s8.1.length), (1, .sc (.int .i64 n)), (2, .fn (.func 59) [.ptr 1 0 0]), (6, .sc (.int .i64 s8.2.2))] (lblks 0 [arrB (α := Int) 3 0 false s8.1, boxB (α := Cells) false s8.2.1]) 2) (fun z9 : (List Int) × Cells => LS.mk [] (lblks 0 [arrB (α := Int) 3 0 false z9.1, boxB (α := Cells) false z9.2]) 2) (slices_stableCmpFunc_Int_find_Sure_1_2.l2 n) hR (s0 := (r6, cmpc0, 20)) (Weak.turnL [(0, 0), (1, 0)] [] rfl rfl (tc (trS' rfl rfl rfl rfl h7) (tc (.sc _) (tc (.fn (.cons (trP' rfl rfl rfl rfl) (.nil))) (tc (.sc _) tn)))) (mc rfl (btrA' rfl) (mc rfl (.box rfl (.cons (.sc _) (.cons (.sc _) (.cons trR1 (.nil)))) rfl) mn))) (fun s8 o8 hR => ?_) fun z9 hR => ?_
    · unfold slices_stableCmpFunc_Int_find_Sure_1_2.l2 at hR
      refine AWP.sq ?_
      refine AWP.sq ?_
      refine AWP.rgC 14 rfl rfl ?_
      refine pu (v := .sc _) rfl rfl (fun _ => rfl) ?_
      refine pu (v := .sc _) rfl rfl (fun _ => rfl) ?_
      refine pu (v := .sc _) rfl rfl (fun _ => rfl) ?_
      refine RunC.fin ?_
      refine AWP.cd hR rfl (fun h10 hR => ?_) fun h10 hR => ?_
      · refine AWP.skip ?_
        refine skT ?_
        refine AWP.block ?_
        refine AWP.sq ?_
        refine AWP.rgC 30 rfl rfl ?_
        refine pu (v := .sc _) rfl rfl (fun _ => rfl) ?_
        refine pu (v := .sc _) rfl rfl (fun _ => rfl) ?_
        refine pu (v := .sc _) rfl rfl (fun _ => rfl) ?_
        refine pu (v := .sc _) rfl rfl (fun _ => rfl) ?_
        refine RunC.fin ?_
        refine AWP.sq ?_
        refine AWP.loopJ (fun s11 : (List Int) × Cells × Int × Int => LS.mk [(0, slV Int 0 0 0 s11.1.length), (1, .sc (.int .i64 n)), (2, .fn (.func 59) [.ptr 1 0 0]), (6, .sc (.int .i64 s8.2.2)), (7, .sc (.int .i64 s11.2.2.1)), (8, .sc (.int .i64 s11.2.2.2))] (lblks 0 [arrB (α := Int) 3 0 false s11.1, boxB (α := Cells) false s11.2.1]) 2) (fun z12 : (List Int) × Cells × Int => LS.mk [(0, slV Int 0 0 0 z12.1.length), (1, .sc (.int .i64 n)), (2, .fn (.func 59) [.ptr 1 0 0]), (6, .sc (.int .i64 s8.2.2)), (7, .sc (.int .i64 z12.2.2))] (lblks 0 [arrB (α := Int) 3 0 false z12.1, boxB (α := Cells) false z12.2.1]) 2) (slices_stableCmpFunc_Int_find_Sure_1_2.l3 n s8) hR (s0 := (s8.1, s8.2.1, 0, w6 (2 * s8.2.2))) (Weak.turnL [(0, 0), (1, 0)] [] rfl rfl (tc (trS' rfl rfl rfl rfl rfl) (tc (.sc _) (tc (.fn (.cons (trP' rfl rfl rfl rfl) (.nil))) (tc (.sc _) (tc (.sc _) (tc (.sc _) tn)))))) (mc rfl (btrA' rfl) (mc rfl (.box rfl (.cons (.sc _) (.cons (.sc _) (.cons trR1 (.nil)))) rfl) mn))) (fun s11 o11 hR => ?_) fun z12 hR => ?_
        · unfold slices_stableCmpFunc_Int_find_Sure_1_2.l3 at hR
          refine AWP.sq ?_
          refine AWP.sq ?_
          refine AWP.rgC 14 rfl rfl ?_
          refine pu (v := .sc _) rfl rfl (fun _ => rfl) ?_
          refine pu (v := .sc _) rfl rfl (fun _ => rfl) ?_
          refine pu (v := .sc _) rfl rfl (fun _ => rfl) ?_
          refine RunC.fin ?_
          refine AWP.cd hR rfl (fun h13 hR => ?_) fun h13 hR => ?_
          · refine AWP.skip ?_
            refine skT ?_
            refine AWP.block ?_
            refine AWP.sq ?_
            refine AWP.rgC 46 rfl rfl ?_
            refine pu (v := slV Int _ _ _ _) rfl rfl (fun _ => rfl) ?_
            refine pu (v := .sc _) rfl rfl (fun _ => rfl) ?_
            refine pu (v := .sc _) rfl rfl (fun _ => rfl) ?_
            refine pu (v := .sc _) rfl rfl (fun _ => rfl) ?_
            refine pu (v := .sc _) rfl rfl (fun _ => rfl) ?_
            refine pu (v := .sc _) rfl rfl (fun _ => rfl) ?_
            refine pu (v := .fn _ _) rfl rfl (fun _ => rfl) ?_
            obtain ⟨r14, hr14, hR⟩ := bindE hR
            obtain ⟨h15, hR⟩ := chkE hR
            refine cps (res' := .tup []) (ups := [(0, arrB (α := Int) 3 0 false r14.1), (1, boxB (α := Cells) false r14.2)]) [0, 1] 42 rfl rfl rfl cb86 (ok86_55 64 s11.1 s11.2.2.1 (w6 (s11.2.2.1 + s8.2.2)) s11.2.2.2 s11.2.1 _ hr14) (.cons (ldM rfl rfl) (.cons (.sc _) (.cons (.sc _) (.cons (.sc _) (.cons (.fn (.cons (ldP rfl rfl) (.nil))) (.nil)))))) (pc rfl bldA (pc rfl (.box (.cons (.sc _) (.cons (.sc _) (.cons ldR' (.nil)))) rfl) pn)) rfl rfl rfl rfl rfl (by first | rfl | exact renR | exact renA | exact renS | simp only [V.ren, V.rens, renR, renA, renS] | (simp only [V.ren, V.rens, renR, renA, renS]; rfl)) (by simp only [passUps, renBox, renArr]; rfl) ?_
            refine RunC.fin ?_
            refine AWP.sq ?_
            refine AWP.rgC 54 rfl rfl ?_
            refine pu (v := .sc _) rfl rfl (fun _ => rfl) ?_
            refine pu (v := .sc _) rfl rfl (fun _ => rfl) ?_
            refine RunC.fin ?_
            refine AWP.rgC 74 rfl rfl ?_
            refine pu (v := .sc _) rfl rfl (fun _ => rfl) ?_
            refine pu (v := .sc _) rfl rfl (fun _ => rfl) ?_
            refine pu (v := .sc _) rfl rfl (fun _ => rfl) ?_
            refine pu (v := .sc _) rfl rfl (fun _ => rfl) ?_
            refine pu (v := .sc _) rfl rfl (fun _ => rfl) ?_
            refine RunC.blk ?_
            refine RunC.fin ?_
            refine ⟨(r14.1, r14.2, s11.2.2.2, w6 (s11.2.2.2 + (w6 (2 * s8.2.2)))), (Option.some.inj hR).symm, ?_⟩
            exact Weak.turnL [(0, 0), (1, 0)] [] rfl rfl (tc (trS' rfl rfl rfl rfl h15) (tc (.sc _) (tc (.fn (.cons (trP' rfl rfl rfl rfl) (.nil))) (tc (.sc _) (tc (.sc _) (tc (.sc _) tn)))))) (mc rfl (btrA' rfl) (mc rfl (.box rfl (.cons (.sc _) (.cons (.sc _) (.cons trR1 (.nil)))) rfl) mn))
          · refine AWP.exit ?_
            refine exT ?_
            refine exT ?_
            refine exH (skT ?_)
            refine ⟨(s11.1, s11.2.1, s11.2.2.1), (Option.some.inj hR).symm, ?_⟩
            exact Weak.turnL [(0, 0), (1, 0)] [] rfl rfl (tc (trS' rfl rfl rfl rfl rfl) (tc (.sc _) (tc (.fn (.cons (trP' rfl rfl rfl rfl) (.nil))) (tc (.sc _) (tc (.sc _) tn))))) (mc rfl (btrA' rfl) (mc rfl (.box rfl (.cons (.sc _) (.cons (.sc _) (.cons trR1 (.nil)))) rfl) mn))
        · refine skT ?_
          refine AWP.sq ?_
          refine AWP.sq ?_
          refine AWP.rgC 18 rfl rfl ?_
          refine pu (v := .sc _) rfl rfl (fun _ => rfl) ?_
          refine pu (v := .sc _) rfl rfl (fun _ => rfl) ?_
          refine pu (v := .sc _) rfl rfl (fun _ => rfl) ?_
          refine pu (v := .sc _) rfl rfl (fun _ => rfl) ?_
          refine RunC.fin ?_
          refine AWP.sq ?_
          refine AWP.rgC 30 rfl rfl ?_
          refine pu (v := .sc _) rfl rfl (fun _ => rfl) ?_
          refine pu (v := .sc _) rfl rfl (fun _ => rfl) ?_
          refine pu (v := .sc _) rfl rfl (fun _ => rfl) ?_
          refine RunC.fin ?_
          refine AWP.cd hR rfl (fun h16 hR => ?_) fun h16 hR => ?_
          · refine AWP.rgC 54 rfl rfl ?_
            refine pu (v := slV Int _ _ _ _) rfl rfl (fun _ => rfl) ?_
            refine pu (v := .sc _) rfl rfl (fun _ => rfl) ?_
            refine pu (v := .sc _) rfl rfl (fun _ => rfl) ?_
            refine pu (v := .sc _) rfl rfl (fun _ => rfl) ?_
            refine pu (v := .fn _ _) rfl rfl (fun _ => rfl) ?_
            obtain ⟨r17, hr17, hR⟩ := bindE hR
            obtain ⟨h18, hR⟩ := chkE hR
            refine cps (res' := .tup []) (ups := [(0, arrB (α := Int) 3 0 false r17.1), (1, boxB (α := Cells) false r17.2)]) [0, 1] 50 rfl rfl rfl cb86 (ok86_55 64 z12.1 z12.2.2 (w6 (z12.2.2 + s8.2.2)) n z12.2.1 _ hr17) (.cons (ldM rfl rfl) (.cons (.sc _) (.cons (.sc _) (.cons (.sc _) (.cons (.fn (.cons (ldP rfl rfl) (.nil))) (.nil)))))) (pc rfl bldA (pc rfl (.box (.cons (.sc _) (.cons (.sc _) (.cons ldR' (.nil)))) rfl) pn)) rfl rfl rfl rfl rfl (by first | rfl | exact renR | exact renA | exact renS | simp only [V.ren, V.rens, renR, renA, renS] | (simp only [V.ren, V.rens, renR, renA, renS]; rfl)) (by simp only [passUps, renBox, renArr]; rfl) ?_
            refine RunC.fin ?_
            refine AWP.rgC 66 rfl rfl ?_
            refine pu (v := .sc _) rfl rfl (fun _ => rfl) ?_
            refine pu (v := .sc _) rfl rfl (fun _ => rfl) ?_
            refine pu (v := .sc _) rfl rfl (fun _ => rfl) ?_
            refine RunC.blk ?_
            refine RunC.fin ?_
            refine ⟨(r17.1, r17.2, w6 (s8.2.2 * 2)), (Option.some.inj hR).symm, ?_⟩
            exact Weak.turnL [(0, 0), (1, 0)] [] rfl rfl (tc (trS' rfl rfl rfl rfl h18) (tc (.sc _) (tc (.fn (.cons (trP' rfl rfl rfl rfl) (.nil))) (tc (.sc _) tn)))) (mc rfl (btrA' rfl) (mc rfl (.box rfl (.cons (.sc _) (.cons (.sc _) (.cons trR1 (.nil)))) rfl) mn))
          · refine AWP.skip ?_
            refine skT ?_
            refine AWP.rgC 42 rfl rfl ?_
            refine pu (v := .sc _) rfl rfl (fun _ => rfl) ?_
            refine pu (v := .sc _) rfl rfl (fun _ => rfl) ?_
            refine pu (v := .sc _) rfl rfl (fun _ => rfl) ?_
            refine RunC.blk ?_
            refine RunC.fin ?_
            refine ⟨(z12.1, z12.2.1, w6 (s8.2.2 * 2)), (Option.some.inj hR).symm, ?_⟩
            exact Weak.turnL [(0, 0), (1, 0)] [] rfl rfl (tc (trS' rfl rfl rfl rfl rfl) (tc (.sc _) (tc (.fn (.cons (trP' rfl rfl rfl rfl) (.nil))) (tc (.sc _) tn)))) (mc rfl (btrA' rfl) (mc rfl (.box rfl (.cons (.sc _) (.cons (.sc _) (.cons trR1 (.nil)))) rfl) mn))
      · refine AWP.exit ?_
        refine exT ?_
        refine exT ?_
        refine exH (skT ?_)
        refine ⟨(s8.1, s8.2.1), (Option.some.inj hR).symm, ?_⟩
        exact Weak.turnL [(0, 0), (1, 0)] [] rfl rfl tn (mc rfl (btrA' rfl) (mc rfl (.box rfl (.cons (.sc _) (.cons (.sc _) (.cons trR1 (.nil)))) rfl) mn))
    · have hR := Option.some.inj hR; subst hR
      exact hQ _ _ (LS.mk [] (lblks 0 [arrB (α := Int) 3 0 false z9.1, boxB (α := Cells) false z9.2]) 2) (.tup []) [] (.inl rfl) (Weak.turnL [(0, 0), (1, 0)] [] rfl rfl tn (mc rfl (btrA' rfl) (mc rfl (.box rfl (.cons (.sc _) (.cons (.sc _) (.cons trR1 (.nil)))) rfl) mn))) (ro0 ) rfl rfl (.tup .nil) (pc rfl bldA (pc rfl bldB pn))
theorem ok58_57 (x : List Int) (cmpc0 : Cells) (r : (List Int) × Cells) (hR : slices_SortStableFunc_Int_find_Sure_1_2 x cmpc0 = some r) : FnD Try.prog 58 [arrB 3 0 false x, boxB false cmpc0] [slV Int 0 0 0 x.length, .fn (.func 59) [.ptr 1 0 0]] (.tup []) [arrB 3 0 false r.1, boxB false r.2] := by
  refine FnX.walk Try.func58 rfl 9 2 (by simp [Try.ntmps58]) rfl fun W S F Q hQ => ?_
  unfold slices_SortStableFunc_Int_find_Sure_1_2 at hR
  refine AWP.rgC 22 rfl rfl ?_
  refine pu (v := slV Int _ _ _ _) rfl rfl (fun _ => rfl) ?_
  refine pu (v := slV Int _ _ _ _) rfl rfl (fun _ => rfl) ?_
  refine lenS (α := Int) rfl rfl ti22 rfl ?_
  refine pu (v := .fn _ _) rfl rfl (fun _ => rfl) ?_
  obtain ⟨r1, hr1, hR⟩ := bindE hR
  obtain ⟨h2, hR⟩ := chkE hR
  refine cps (res' := .tup []) (ups := [(0, arrB (α := Int) 3 0 false r1.1), (1, boxB (α := Cells) false r1.2)]) [0, 1] 18 rfl rfl rfl cb70 (ok70_56 x (x.length : Int) cmpc0 _ hr1) (.cons (ldM rfl rfl) (.cons (.sc _) (.cons (.fn (.cons (ldP rfl rfl) (.nil))) (.nil)))) (pc rfl bldA (pc rfl (.box (.cons (.sc _) (.cons (.sc _) (.cons ldR' (.nil)))) rfl) pn)) rfl rfl rfl rfl rfl (by first | rfl | exact renR | exact renA | exact renS | simp only [V.ren, V.rens, renR, renA, renS] | (simp only [V.ren, V.rens, renR, renA, renS]; rfl)) (by simp only [passUps, renBox, renArr]; rfl) ?_
  refine RunC.nil ?_
  have hR := Option.some.inj hR; subst hR
  exact hQ _ _ (LS.mk [] (lblks 0 [arrB (α := Int) 3 0 false r1.1, boxB (α := Cells) false r1.2]) 2) (.tup []) [] (.inl rfl) (Weak.turnL [(0, 0), (1, 0)] [] rfl rfl tn (mc rfl (btrA' rfl) (mc rfl (.box rfl (.cons (.sc _) (.cons (.sc _) (.cons trR1 (.nil)))) rfl) mn))) (ro0 ) rfl rfl (.tup .nil) (pc rfl bldA (pc rfl bldB pn))
theorem ok45 (c : Cells) (level : Bound) (r : (List Int) × Int) (hR : find_Sure c level = some r) : FnD Try.prog 45 [] [aggV false c, aggV false level] (.tup [slV Int 0 0 0 r.1.length, .sc (.int .i64 r.2)]) [arrB (α := Int) 3 0 false r.1] := by
  refine FnX.walk Try.func45 rfl 46 0 (by simp [Try.ntmps45]) rfl fun W S F Q hQ => ?_
  unfold find_Sure at hR
  refine AWP.sq ?_
  refine AWP.rgC 16 rfl rfl ?_
  refine bx (cs := _) 0 rfl rfl rfl ?_
  refine bx (cs := _) 4 rfl rfl rfl ?_
  refine pu (v := .sc _) rfl rfl (fun _ => rfl) ?_
  refine pu (v := .sc _) rfl rfl (fun _ => rfl) ?_
  refine RunC.fin ?_
  refine AWP.sq ?_
  refine AWP.sq ?_
  refine AWP.rgD 44 [0, 1, 0, 7, 15, 31, 63] ⟨[], [some [0], none, some [4], none, none, none, none]⟩ hmix (by kernel_rfl) rfl rfl ?_
  refine ldB (v := .agg _) rfl rfl rfl rfl ti77 rfl rfl ?_
  obtain ⟨r1, hr1, hR⟩ := bindE hR
  refine cls [] rfl rfl cb42 (ok42 c _ hr1) (.cons (.agg (.cons (.sc _) (.cons (.sc _) (.cons ldR' (.nil)))) rfl) (.nil)) (.inr rfl) rfl ?_
  refine ldB (v := .agg _) rfl rfl rfl rfl ti34 rfl rfl ?_
  obtain ⟨r2, hr2, hR⟩ := bindE hR
  refine cls [] rfl rfl cb57 (ok57 level _ hr2) (.cons (.agg (.cons (.sc _) (.cons (.sc _) (.cons (.sc _) (.nil)))) rfl) (.nil)) (.inr rfl) rfl ?_
  refine bs (α := Int) 32 true ([r1, r2] : List Int) rfl rfl ti140 rfl ti49 rfl rfl rfl rfl rfl ?_
  obtain ⟨r3, hr3, hR⟩ := bindE hR
  refine cls [32] rfl rfl cb56 (ok56 ([r1, r2] : List Int) _ hr3) (.cons (ldS' rfl rfl rfl rfl) (.nil)) (.inl (by first | rfl | exact freshR | exact freshA | (simp only [V.fresh, V.freshs, freshR, freshA, Bool.and_self]))) rfl ?_
  refine pu (v := .sc _) rfl rfl (fun _ => rfl) ?_
  refine RunC.fin ?_
  refine AWP.sq ?_
  refine AWP.rgC 52 rfl rfl ?_
  refine pu (v := .sc _) rfl rfl (fun _ => rfl) ?_
  refine pu (v := .sc _) rfl rfl (fun _ => rfl) ?_
  refine RunC.fin ?_
  refine AWP.cd hR rfl (fun h4 hR => ?_) fun h4 hR => ?_
  · refine AWP.sq ?_
    refine AWP.rgC 64 rfl rfl ?_
    refine pu (v := .sc _) rfl rfl (fun _ => rfl) ?_
    refine pu (v := .sc _) rfl rfl (fun _ => rfl) ?_
    refine pu (v := .sc _) rfl rfl (fun _ => rfl) ?_
    refine RunC.fin ?_
    refine AWP.nilT Int 4 3 rfl ?_
    refine AWP.ret ?_
    refine rtT ?_
    have hR := Option.some.inj hR; subst hR
    exact hQ _ _ (LS.mk [(4, slV Int 0 0 0 [].length), (5, .sc (.int .i64 r3))] (lblks 0 [arrB (α := Int) 3 0 true []]) 1) (.tup [slV Int 0 0 0 [].length, .sc (.int .i64 r3)]) [0] (.inr rfl) (Weak.turnL [(64, 0)] [] rfl rfl (tc (trS' rfl rfl rfl rfl rfl) (tc (.sc _) tn)) (mc rfl (btrA' rfl) mn)) (ro2 (rvT (v := slV Int 0 0 0 [].length) rfl) (rvT (v := .sc (.int .i64 r3)) rfl)) rfl rfl (.tup (.cons (ldM rfl rfl) (.cons (.sc _) .nil))) (pc rfl bldA pn)
  · refine AWP.skip ?_
    refine skT ?_
    refine AWP.sq ?_
    refine AWP.rgC 56 rfl rfl ?_
    refine pu (v := .sc _) rfl rfl (fun _ => rfl) ?_
    refine RunC.fin ?_
    refine AWP.sq ?_
    refine AWP.sq ?_
    refine AWP.rgC 72 rfl rfl ?_
    refine fa rfl rfl ti77 rfl rfl ti75 rfl ?_
    refine ldB (v := rowV _ c.At) rfl rfl rfl rfl ti75 rfl rfl ?_
    refine lenL (α := Bound) rfl rfl ti75 rfl ?_
    refine pu (v := .sc _) rfl rfl (fun _ => rfl) ?_
    refine RunC.fin ?_
    refine AWP.nilT Int 7 3 rfl ?_
    refine AWP.loopJ (fun s5 : (List Int) × Int => LS.mk [(2, .ptr 0 0 0), (3, .ptr 1 0 0), (7, slV Int 2 0 0 s5.1.length), (20, rowV (α := Bound) false c.At), (21, .sc (.int .i64 (c.At.length : Int))), (22, .sc (.int .i64 s5.2))] (lblks 0 [boxB (α := Cells) false c, boxB (α := Bound) true level, arrB (α := Int) 3 0 true s5.1]) 3) (fun z6 : (List Int) => LS.mk [(2, .ptr 0 0 0), (7, slV Int 1 0 0 z6.length)] (lblks 0 [boxB (α := Cells) false c, arrB (α := Int) 3 0 true z6]) 2) (find_Sure.l1 c level) hR (s0 := (([] : List Int), 0)) (Weak.turnL [(0, 0), (4, 0), (72, 0)] [] rfl rfl (tc (trP' rfl rfl rfl rfl) (tc (trP' rfl rfl rfl rfl) (tc (trS' rfl rfl rfl rfl rfl) (tc trR1 (tc (.sc _) (tc (.sc _) tn)))))) (mc rfl (.box rfl (.cons (.sc _) (.cons (.sc _) (.cons trR1 (.nil)))) rfl) (mc rfl (.box rfl (.cons (.sc _) (.cons (.sc _) (.cons (.sc _) (.nil)))) rfl) (mc rfl (btrA' rfl) mn)))) (fun s5 o5 hR => ?_) fun z6 hR => ?_
    · unfold find_Sure.l1 at hR
      refine AWP.sq ?_
      refine AWP.rgC 7 rfl rfl ?_
      refine pu (v := .sc _) rfl rfl (fun _ => rfl) ?_
      refine RunC.fin ?_
      refine AWP.sq ?_
      refine AWP.cd hR rfl (fun h7 hR => ?_) fun h7 hR => ?_
      · refine AWP.skip ?_
        refine skT ?_
        refine AWP.joinX (fun z8 : (List Int) => LS.mk [(2, .ptr 0 0 0), (3, .ptr 1 0 0), (7, slV Int 2 0 0 z8.length), (20, rowV (α := Bound) false c.At), (21, .sc (.int .i64 (c.At.length : Int))), (22, .sc (.int .i64 s5.2))] (lblks 0 [boxB (α := Cells) false c, boxB (α := Bound) true level, arrB (α := Int) 3 0 true z8]) 3) hR (fun o8 hR => ?_) fun z8 hR => ?_
        · refine AWP.block ?_
          refine AWP.sq ?_
          refine AWP.rgC 31 rfl rfl ?_
          refine pu (v := .sc _) rfl rfl (fun _ => rfl) ?_
          obtain ⟨h9, hR⟩ := chkE hR
          refine ixL (α := Bound) rfl rfl rfl ti75 rfl ti34 rfl h9 ?_
          refine ldR (v := .agg _) rfl rfl ti34 rfl ?_
          refine al (cs := [.sc (.int .i64 0), .sc (.int .i64 0), .sc (.bool false)]) 19 rfl rfl ti34 rfl rfl ?_
          refine pu (v := .sc _) rfl rfl (fun _ => rfl) ?_
          refine stB (cs' := [.sc (.int .i64 (gt c.At s5.2).Lo), .sc (.int .i64 (gt c.At s5.2).Hi), .sc (.bool (gt c.At s5.2).Unknown)]) rfl rfl rfl rfl ti34 rfl rfl rfl rfl rfl ?_
          refine RunC.fin ?_
          refine AWP.joinX (fun z10 : Bool => LS.mk [(2, .ptr 0 0 0), (3, .ptr 1 0 0), (7, slV Int 2 0 0 s5.1.length), (8, .sc (.int .i64 s5.2)), (20, rowV (α := Bound) false c.At), (21, .sc (.int .i64 (c.At.length : Int))), (22, .sc (.int .i64 s5.2)), (36, .sc (.bool z10))] (lblks 0 [boxB (α := Cells) false c, boxB (α := Bound) true level, arrB (α := Int) 3 0 true s5.1]) 3) hR (fun o10 hR => ?_) fun z10 hR => ?_
          · refine AWP.rgC 71 rfl rfl ?_
            refine fa rfl rfl ti34 rfl rfl ti4 rfl ?_
            refine ldB (v := .sc _) rfl rfl rfl rfl ti4 rfl rfl ?_
            refine pu (v := .sc _) rfl rfl (fun _ => rfl) ?_
            refine pu (v := .sc _) rfl rfl (fun _ => rfl) ?_
            refine brR hR (fun h11 hR => ?_) fun h11 hR => ?_
            · refine fa (wtG rfl rfl rfl h11) rfl ti34 rfl rfl ti32 rfl ?_
              refine ldB (v := .sc _) (wtG rfl rfl rfl h11) rfl rfl rfl ti32 rfl rfl ?_
              refine fa (wtG rfl rfl rfl h11) rfl ti34 rfl rfl ti32 rfl ?_
              refine ldB (v := .sc _) (wtG rfl rfl rfl h11) rfl rfl rfl ti32 rfl rfl ?_
              refine pu (v := .sc _) (wtG rfl rfl rfl h11) rfl (fun _ => rfl) ?_
              refine pkT (v := .sc (.bool (decide ((gt c.At s5.2).Lo > level.Hi)))) rfl rfl h11 rfl ?_
              refine RunC.fin ?_
              have hR := Option.some.inj hR; subst hR
              exact Weak.turnL [(0, 0), (1, 0), (2, 0)] [] rfl rfl (tc (trP' rfl rfl rfl rfl) (tc (trP' rfl rfl rfl rfl) (tc (trS' rfl rfl rfl rfl rfl) (tc (.sc _) (tc trR1 (tc (.sc _) (tc (.sc _) (tc (.sc _) tn)))))))) (mc rfl (.box rfl (.cons (.sc _) (.cons (.sc _) (.cons trR1 (.nil)))) rfl) (mc rfl (.box rfl (.cons (.sc _) (.cons (.sc _) (.cons (.sc _) (.nil)))) rfl) (mc rfl (btrA' rfl) mn)))
            · refine sk (skW rfl rfl rfl h11) ?_
              refine sk (skW rfl rfl rfl h11) ?_
              refine sk (skW rfl rfl rfl h11) ?_
              refine sk (skW rfl rfl rfl h11) ?_
              refine sk (skW rfl rfl rfl h11) ?_
              refine pkF (v := .sc (.bool false)) rfl rfl h11 rfl ?_
              refine RunC.fin ?_
              have hR := Option.some.inj hR; subst hR
              exact Weak.turnL [(0, 0), (1, 0), (2, 0)] [] rfl rfl (tc (trP' rfl rfl rfl rfl) (tc (trP' rfl rfl rfl rfl) (tc (trS' rfl rfl rfl rfl rfl) (tc (.sc _) (tc trR1 (tc (.sc _) (tc (.sc _) (tc (.sc _) tn)))))))) (mc rfl (.box rfl (.cons (.sc _) (.cons (.sc _) (.cons trR1 (.nil)))) rfl) (mc rfl (.box rfl (.cons (.sc _) (.cons (.sc _) (.cons (.sc _) (.nil)))) rfl) (mc rfl (btrA' rfl) mn)))
          · refine AWP.cd hR rfl (fun h12 hR => ?_) fun h12 hR => ?_
            · refine AWP.rgC 23 rfl rfl ?_
              refine pu (v := slV Int _ _ _ _) rfl rfl (fun _ => rfl) ?_
              refine pu (v := .sc _) rfl rfl (fun _ => rfl) ?_
              refine bs (α := Int) 11 true ([s5.2] : List Int) rfl rfl ti22 rfl ti3 rfl rfl rfl rfl rfl ?_
              obtain ⟨h13, hR⟩ := chkE hR
              refine ap' (α := Int) (nw := true) (xs := s5.1) (ys := ([s5.2] : List Int)) rfl rfl rfl rfl (srcS' rfl rfl rfl) ti22 rfl ti3 rfl h13 rfl ?_
              refine pu (v := slV Int _ _ _ _) rfl rfl (fun _ => rfl) ?_
              refine RunC.blk ?_
              refine RunC.fin ?_
              have hR := Option.some.inj hR; subst hR
              exact Weak.turnL [(0, 0), (1, 0), (2, 0)] [] rfl rfl (tc (trP' rfl rfl rfl rfl) (tc (trP' rfl rfl rfl rfl) (tc (trS' rfl rfl rfl rfl rfl) (tc trR1 (tc (.sc _) (tc (.sc _) tn)))))) (mc rfl (.box rfl (.cons (.sc _) (.cons (.sc _) (.cons trR1 (.nil)))) rfl) (mc rfl (.box rfl (.cons (.sc _) (.cons (.sc _) (.cons (.sc _) (.nil)))) rfl) (mc rfl (btrA' rfl) mn)))
            · refine AWP.skip ?_
              refine skB ?_
              refine skT ?_
              have hR := Option.some.inj hR; subst hR
              exact Weak.turnL [(0, 0), (1, 0), (2, 0)] [] rfl rfl (tc (trP' rfl rfl rfl rfl) (tc (trP' rfl rfl rfl rfl) (tc (trS' rfl rfl rfl rfl rfl) (tc trR1 (tc (.sc _) (tc (.sc _) tn)))))) (mc rfl (.box rfl (.cons (.sc _) (.cons (.sc _) (.cons trR1 (.nil)))) rfl) (mc rfl (.box rfl (.cons (.sc _) (.cons (.sc _) (.cons (.sc _) (.nil)))) rfl) (mc rfl (btrA' rfl) mn)))
        · refine AWP.rgC 11 rfl rfl ?_
          refine pu (v := .sc _) rfl rfl (fun _ => rfl) ?_
          refine pu (v := .sc _) rfl rfl (fun _ => rfl) ?_
          refine RunC.fin ?_
          refine ⟨(z8, w6 (s5.2 + 1)), (Option.some.inj hR).symm, ?_⟩
          exact Weak.turnL [(0, 0), (1, 0), (2, 0)] [] rfl rfl (tc (trP' rfl rfl rfl rfl) (tc (trP' rfl rfl rfl rfl) (tc (trS' rfl rfl rfl rfl rfl) (tc trR1 (tc (.sc _) (tc (.sc _) tn)))))) (mc rfl (.box rfl (.cons (.sc _) (.cons (.sc _) (.cons trR1 (.nil)))) rfl) (mc rfl (.box rfl (.cons (.sc _) (.cons (.sc _) (.cons (.sc _) (.nil)))) rfl) (mc rfl (btrA' rfl) mn)))
      · refine AWP.exit ?_
        refine exT ?_
        refine exT ?_
        refine exH (skT ?_)
        refine ⟨s5.1, (Option.some.inj hR).symm, ?_⟩
        exact Weak.turnL [(0, 0), (2, 0)] [] rfl rfl (tc (trP' rfl rfl rfl rfl) (tc (trS' rfl rfl rfl rfl rfl) tn)) (mc rfl (.box rfl (.cons (.sc _) (.cons (.sc _) (.cons trR1 (.nil)))) rfl) (mc rfl (btrA' rfl) mn))
    · refine skT ?_
      refine AWP.sq ?_
      refine AWP.rgC 14 rfl rfl ?_
      refine pu (v := slV Int _ _ _ _) rfl rfl (fun _ => rfl) ?_
      refine pu (v := .fn _ _) rfl rfl (fun _ => rfl) ?_
      obtain ⟨r14, hr14, hR⟩ := bindE hR
      obtain ⟨h15, hR⟩ := chkE hR
      refine cps (res' := .tup []) (ups := [(1, arrB (α := Int) 3 0 false r14.1), (0, boxB (α := Cells) false r14.2)]) [1, 0] 10 rfl rfl rfl cb58 (ok58_57 z6 c _ hr14) (.cons (ldM rfl rfl) (.cons (.fn (.cons (ldP rfl rfl) (.nil))) (.nil))) (pc rfl bldA (pc rfl (.box (.cons (.sc _) (.cons (.sc _) (.cons ldR' (.nil)))) rfl) pn)) rfl rfl rfl rfl rfl (by first | rfl | exact renR | exact renA | exact renS | simp only [V.ren, V.rens, renR, renA, renS] | (simp only [V.ren, V.rens, renR, renA, renS]; rfl)) (by simp only [passUps, renBox, renArr]; rfl) ?_
      refine RunC.fin ?_
      refine AWP.sq ?_
      refine AWP.rgC 26 rfl rfl ?_
      refine pu (v := slV Int _ _ _ _) rfl rfl (fun _ => rfl) ?_
      refine pu (v := slV Int _ _ _ _) rfl rfl (fun _ => rfl) ?_
      refine pu (v := .sc _) rfl rfl (fun _ => rfl) ?_
      refine RunC.fin ?_
      refine AWP.ret ?_
      have hR := Option.some.inj hR; subst hR
      exact hQ _ _ (LS.mk [(4, slV Int 0 0 0 r14.1.length), (5, .sc (.int .i64 0))] (lblks 0 [arrB (α := Int) 3 0 false r14.1]) 1) (.tup [slV Int 0 0 0 r14.1.length, .sc (.int .i64 0)]) [0] (.inr rfl) (Weak.turnL [(1, 0)] [] rfl rfl (tc (trS' rfl rfl rfl rfl h15) (tc (.sc _) tn)) (mc rfl (btrA' rfl) mn)) (ro2 (rvT (v := slV Int 0 0 0 r14.1.length) rfl) (rvT (v := .sc (.int .i64 0)) rfl)) rfl rfl (.tup (.cons (ldM rfl rfl) (.cons (.sc _) .nil))) (pc rfl bldA pn)
section
open Go.RowKit Go.Shelf
theorem ok36 (c : Cells) (level : Bound) (r : (List Source_) × Int) (hR : find_Find c level = some r) : FnP Try.prog 36 [aggV false c, aggV false level] (.tup [rowV true r.1, .sc (.int .i64 r.2)]) := by
  unfold find_Find at hR
  obtain ⟨s, hS, hR⟩ := Option.bind_eq_some_iff.1 hR
  split at hR
  · rename_i hc
    obtain ⟨w1, w2, h1, h2, h3, hb, hl⟩ := hc
    obtain ⟨R, hF, hR⟩ := Option.bind_eq_some_iff.1 hR
    cases hR
    refine fnP_inF fun E W cargs hn hf ha => ?_
    unfold aggV at ha
    simp only [RLs, RL] at ha
    obtain ⟨_, _, rfl, ⟨ds, rfl, h4, _⟩, _, _, rfl, ⟨ds2, rfl, h5, _⟩, rfl⟩ := ha
    have h4 : RLs E [.sc (.int .i64 c.W), .sc (.int .i64 c.H), rowV false c.At] ds := h4
    have h5 : RLs E [.sc (.int .i64 level.Lo), .sc (.int .i64 level.Hi), .sc (.bool level.Unknown)] ds2 := h5
    unfold rowV at h4
    simp only [RLs, RL] at h4 h5
    obtain ⟨_, _, rfl, rfl, _, _, rfl, rfl, _, _, rfl, ⟨A, cap, rfl, q1, _, _, q2⟩, rfl⟩ := h4
    obtain ⟨_, _, rfl, rfl, _, _, rfl, rfl, _, _, rfl, rfl, rfl⟩ := h5
    obtain ⟨cw, hw⟩ : ∃ n : Nat, c.W = n := ⟨c.W.toNat, by omega⟩
    obtain ⟨ch, hh⟩ : ∃ n : Nat, c.H = n := ⟨c.H.toNat, by omega⟩
    have hA := rowB_of hf q2
    have SU : ∀ W', Below W.heap.size W W' → Calls Try.prog 45 #[.agg #[.int .i64 c.W, .int .i64 c.H, .slice A c.At.length cap], .agg #[.int .i64 level.Lo, .int .i64 level.Hi, .bool level.Unknown]] W' fun e w' => ∃ v, e = .returned (.tuple #[v, .int .i64 s.2]) ∧ w'.ownsRow W'.heap.size 3 1 v s.1.length (s.1.map (Value.int .i64)) ∧ Below W'.heap.size W' w' := fun W' hB => by
      refine fnD_own_ints (ok45 c level s hS) (cargs := [.agg #[.int .i64 c.W, .int .i64 c.H, .slice A c.At.length cap], .agg #[.int .i64 level.Lo, .int .i64 level.Hi, .bool level.Unknown]]) (rls_cons ?_ (rls_cons ?_ rls_nil))
      · unfold aggV
        simp only [RL]
        exact ⟨[.int .i64 c.W, .int .i64 c.H, .slice A c.At.length cap], rfl, rls_cons rl_sc (rls_cons rl_sc (rls_cons (rowB_rl (rowB_below hA hB) q1) rls_nil)), Cl.leaf false c⟩
      · unfold aggV
        simp only [RL]
        exact ⟨[.int .i64 level.Lo, .int .i64 level.Hi, .bool level.Unknown], rfl, rls_cons rl_sc (rls_cons rl_sc (rls_cons rl_sc rls_nil)), Cl.leaf false level⟩
    rw [hw, hh] at hF h3 SU
    simp only [Int.toNat_natCast] at hF
    have h3 : c.At.length = cw * ch := by have : ((cw * ch : Nat) : Int) = (cw : Int) * ch := by push_cast; rfl
                                          omega
    have FR := find_raw cw ch (by omega) (by omega) c.At h3 level s.2 s.1 hb hl R hF W A cap hA q1 SU
    rw [← hw, ← hh] at FR
    refine FR.mono ?_
    rintro e w' ⟨v, rfl, hv, hB⟩
    refine ⟨_, rfl, ?_, hB⟩
    simp only [RL]
    exact ⟨[_, _], rfl, rls_cons (srcV_rl hv hn) (rls_cons rl_sc rls_nil)⟩
  · cases hR
end

theorem ok37 (a : Bound) (b : Bound) (r : Bool) (hR : bound_Inside a b = some r) : FnP Try.prog 37 [aggV false a, aggV false b] (.sc (.bool r)) := by
  refine fnP_of (FnX.walk Try.func37 rfl 28 0 (by simp [Try.ntmps37]) rfl fun W S F Q hQ => ?_)
  unfold bound_Inside at hR
  refine AWP.sq ?_
  refine AWP.rgC 12 rfl rfl ?_
  refine bx (cs := _) 0 rfl rfl rfl ?_
  refine bx (cs := _) 4 rfl rfl rfl ?_
  refine pu (v := .sc _) rfl rfl (fun _ => rfl) ?_
  refine RunC.fin ?_
  refine AWP.joinX (fun z1 : Bool => LS.mk [(4, .sc (.bool z1))] (lblks 0 []) 0) hR (fun o1 hR => ?_) fun z1 hR => ?_
  · refine AWP.rgC 108 rfl rfl ?_
    refine ldB (v := .agg _) rfl rfl rfl rfl ti34 rfl rfl ?_
    refine ldB (v := .agg _) rfl rfl rfl rfl ti34 rfl rfl ?_
    obtain ⟨r2, hr2, hR⟩ := bindE hR
    refine cls [] rfl rfl cb41 (ok41 b b _ hr2) (.cons (.agg (.cons (.sc _) (.cons (.sc _) (.cons (.sc _) (.nil)))) rfl) (.cons (.agg (.cons (.sc _) (.cons (.sc _) (.cons (.sc _) (.nil)))) rfl) (.nil))) (.inr rfl) rfl ?_
    refine pu (v := .sc _) rfl rfl (fun _ => rfl) ?_
    refine brR hR (fun h3 hR => ?_) fun h3 hR => ?_
    · refine sk (skW rfl rfl rfl h3) ?_
      refine sk (skW rfl rfl rfl h3) ?_
      refine sk (skW rfl rfl rfl h3) ?_
      refine sk (skW rfl rfl rfl h3) ?_
      refine sk (skW rfl rfl rfl h3) ?_
      refine sk (skW2 rfl rfl rfl) ?_
      refine sk (skW2 rfl rfl rfl) ?_
      refine sk (skW2 rfl rfl rfl) ?_
      refine sk (skW2 rfl rfl rfl) ?_
      refine sk (skW2 rfl rfl rfl) ?_
      refine sk (skW rfl rfl rfl h3) ?_
      refine sk (skW rfl rfl rfl h3) ?_
      refine sk (skW2 rfl rfl rfl) ?_
      refine sk (skW2 rfl rfl rfl) ?_
      refine sk (skW2 rfl rfl rfl) ?_
      refine sk (skW2 rfl rfl rfl) ?_
      refine sk (skW2 rfl rfl rfl) ?_
      refine sk (skW rfl rfl rfl h3) ?_
      refine pkT (v := .sc (.bool true)) rfl rfl h3 rfl ?_
      refine pu (v := .sc _) rfl rfl (fun _ => rfl) ?_
      refine RunC.fin ?_
      have hR := Option.some.inj hR; subst hR
      exact Weak.turnL [] [] rfl rfl (tc (.sc _) tn) mn
    · refine ldB (v := .agg _) (wtG rfl rfl rfl h3) rfl rfl rfl ti34 rfl rfl ?_
      refine ldB (v := .agg _) (wtG rfl rfl rfl h3) rfl rfl rfl ti34 rfl rfl ?_
      obtain ⟨r4, hr4, hR⟩ := bindE hR
      refine cls [] (wtG rfl rfl rfl h3) rfl cb41 (ok41 a a _ hr4) (.cons (.agg (.cons (.sc _) (.cons (.sc _) (.cons (.sc _) (.nil)))) rfl) (.cons (.agg (.cons (.sc _) (.cons (.sc _) (.cons (.sc _) (.nil)))) rfl) (.nil))) (.inr rfl) rfl ?_
      refine pu (v := .sc _) (wtG rfl rfl rfl h3) rfl (fun _ => rfl) ?_
      refine pu (v := .sc _) (wtG rfl rfl rfl h3) rfl (fun _ => rfl) ?_
      refine brR hR (fun h5 hR => ?_) fun h5 hR => ?_
      · refine fa (wtG rfl rfl rfl h5) rfl ti34 rfl rfl ti32 rfl ?_
        refine ldB (v := .sc _) (wtG rfl rfl rfl h5) rfl rfl rfl ti32 rfl rfl ?_
        refine fa (wtG rfl rfl rfl h5) rfl ti34 rfl rfl ti32 rfl ?_
        refine ldB (v := .sc _) (wtG rfl rfl rfl h5) rfl rfl rfl ti32 rfl rfl ?_
        refine pu (v := .sc _) (wtG rfl rfl rfl h5) rfl (fun _ => rfl) ?_
        refine pkT (v := .sc (.bool (decide (b.Lo ≤ a.Lo)))) (wtG rfl rfl rfl h3) rfl h5 rfl ?_
        refine pu (v := .sc _) (wtG rfl rfl rfl h3) rfl (fun _ => rfl) ?_
        refine brR hR (fun h6 hR => ?_) fun h6 hR => ?_
        · refine fa (wtG rfl rfl rfl h6) rfl ti34 rfl rfl ti32 rfl ?_
          refine ldB (v := .sc _) (wtG rfl rfl rfl h6) rfl rfl rfl ti32 rfl rfl ?_
          refine fa (wtG rfl rfl rfl h6) rfl ti34 rfl rfl ti32 rfl ?_
          refine ldB (v := .sc _) (wtG rfl rfl rfl h6) rfl rfl rfl ti32 rfl rfl ?_
          refine pu (v := .sc _) (wtG rfl rfl rfl h6) rfl (fun _ => rfl) ?_
          refine pkT (v := .sc (.bool (decide (a.Hi ≤ b.Hi)))) (wtG rfl rfl rfl h3) rfl h6 rfl ?_
          refine pkF (v := .sc (.bool (decide (a.Hi ≤ b.Hi)))) rfl rfl h3 rfl ?_
          refine pu (v := .sc _) rfl rfl (fun _ => rfl) ?_
          refine RunC.fin ?_
          have hR := Option.some.inj hR; subst hR
          exact Weak.turnL [] [] rfl rfl (tc (.sc _) tn) mn
        · refine sk (skW rfl rfl rfl h6) ?_
          refine sk (skW rfl rfl rfl h6) ?_
          refine sk (skW rfl rfl rfl h6) ?_
          refine sk (skW rfl rfl rfl h6) ?_
          refine sk (skW rfl rfl rfl h6) ?_
          refine pkF (v := .sc (.bool false)) (wtG rfl rfl rfl h3) rfl h6 rfl ?_
          refine pkF (v := .sc (.bool false)) rfl rfl h3 rfl ?_
          refine pu (v := .sc _) rfl rfl (fun _ => rfl) ?_
          refine RunC.fin ?_
          have hR := Option.some.inj hR; subst hR
          exact Weak.turnL [] [] rfl rfl (tc (.sc _) tn) mn
      · refine sk (skW rfl rfl rfl h5) ?_
        refine sk (skW rfl rfl rfl h5) ?_
        refine sk (skW rfl rfl rfl h5) ?_
        refine sk (skW rfl rfl rfl h5) ?_
        refine sk (skW rfl rfl rfl h5) ?_
        refine pkF (v := .sc (.bool false)) (wtG rfl rfl rfl h3) rfl h5 rfl ?_
        refine pu (v := .sc _) (wtG rfl rfl rfl h3) rfl (fun _ => rfl) ?_
        refine sk (skW rfl rfl rfl rfl) ?_
        refine sk (skW rfl rfl rfl rfl) ?_
        refine sk (skW rfl rfl rfl rfl) ?_
        refine sk (skW rfl rfl rfl rfl) ?_
        refine sk (skW rfl rfl rfl rfl) ?_
        refine pkF (v := .sc (.bool false)) (wtG rfl rfl rfl h3) rfl rfl rfl ?_
        refine pkF (v := .sc (.bool false)) rfl rfl h3 rfl ?_
        refine pu (v := .sc _) rfl rfl (fun _ => rfl) ?_
        refine RunC.fin ?_
        have hR := Option.some.inj hR; subst hR
        exact Weak.turnL [] [] rfl rfl (tc (.sc _) tn) mn
  · refine AWP.ret ?_
    have hR := Option.some.inj hR; subst hR
    exact hQ _ _ (LS.mk [(4, .sc (.bool z1))] (lblks 0 []) 0) (.sc (.bool z1)) [] (.inr rfl) (Weak.turnL [] [] rfl rfl (tc (.sc _) tn) mn) (ro1 (rvT (v := .sc (.bool z1)) rfl)) rfl rfl (.sc _) pn
theorem ok24 (old : Cells) (now : Cells) (cut : Int) (r : change_Report × Int) (hR : change_In old now cut = some r) : FnP Try.prog 24 [aggV false old, aggV false now, .sc (.int .i64 cut)] (.tup [aggV (α := change_Report) true r.1, .sc (.int .i64 r.2)]) := by
  refine fnP_of (FnX.walk Try.func24 rfl 89 0 (by simp [Try.ntmps24]) rfl fun W S F Q hQ => ?_)
  unfold change_In at hR
  refine AWP.sq ?_
  refine AWP.rgC 16 rfl rfl ?_
  refine bx (cs := _) 0 rfl rfl rfl ?_
  refine bx (cs := _) 4 rfl rfl rfl ?_
  refine al (cs := [.sc (.slice none 0 0), .sc (.slice none 0 0), .sc (.slice none 0 0)]) 8 rfl rfl ti80 rfl rfl ?_
  refine pu (v := .sc _) rfl rfl (fun _ => rfl) ?_
  refine RunC.fin ?_
  refine AWP.sq ?_
  refine AWP.rgC 52 rfl rfl ?_
  refine ldB (v := .agg _) rfl rfl rfl rfl ti77 rfl rfl ?_
  refine ldB (v := .agg _) rfl rfl rfl rfl ti77 rfl rfl ?_
  obtain ⟨r1, hr1, hR⟩ := bindE hR
  refine cls [] rfl rfl cb35 (ok35 now old _ hr1) (.cons (.agg (.cons (.sc _) (.cons (.sc _) (.cons ldR' (.nil)))) rfl) (.cons (.agg (.cons (.sc _) (.cons (.sc _) (.cons ldR' (.nil)))) rfl) (.nil))) (.inr rfl) rfl ?_
  refine pu (v := .tup _) rfl rfl (fun _ => rfl) ?_
  refine pu (v := .agg _) rfl rfl (fun _ => rfl) ?_
  refine pu (v := .sc _) rfl rfl (fun _ => rfl) ?_
  refine al (cs := [.sc (.int .i64 0), .sc (.int .i64 0), .sc (.slice none 0 0)]) 40 rfl rfl ti77 rfl rfl ?_
  refine stB (cs' := [.sc (.int .i64 r1.1.W), .sc (.int .i64 r1.1.H), rowV (α := Bound) true r1.1.At]) rfl rfl rfl rfl ti77 rfl rfl rfl rfl rfl ?_
  refine pu (v := .sc _) rfl rfl (fun _ => rfl) ?_
  refine RunC.fin ?_
  refine AWP.sq ?_
  refine AWP.sq ?_
  refine AWP.rgC 60 rfl rfl ?_
  refine pu (v := .sc _) rfl rfl (fun _ => rfl) ?_
  refine pu (v := .sc _) rfl rfl (fun _ => rfl) ?_
  refine RunC.fin ?_
  refine AWP.cd hR rfl (fun h2 hR => ?_) fun h2 hR => ?_
  · refine AWP.sq ?_
    refine AWP.rgC 76 rfl rfl ?_
    refine bu (cs := [.sc (.slice none 0 0), .sc (.slice none 0 0), .sc (.slice none 0 0)]) rfl bt80 rfl ?_
    refine pu (v := .sc _) rfl rfl (fun _ => rfl) ?_
    refine stB (cs' := [.sc (.slice none 0 0), .sc (.slice none 0 0), .sc (.slice none 0 0)]) rfl rfl rfl rfl ti80 rfl rfl rfl rfl rfl ?_
    refine pu (v := .sc _) rfl rfl (fun _ => rfl) ?_
    refine RunC.fin ?_
    refine AWP.ret ?_
    refine rtT ?_
    have hR := Option.some.inj hR; subst hR
    exact hQ _ _ (LS.mk [(6, .ptr 0 0 0), (7, .sc (.int .i64 r1.2))] (lblks 0 [boxB (α := change_Report) true (change_Report.mk [] [] [])]) 1) (.tup [aggV (α := change_Report) true (change_Report.mk [] [] []), .sc (.int .i64 r1.2)]) [] (.inr rfl) (Weak.turnL [(8, 0)] [] rfl rfl (tc (trP' rfl rfl rfl rfl) (tc (.sc _) tn)) (mc rfl (.box rfl (.cons trN (.cons trN (.cons trN (.nil)))) rfl) mn)) (ro2 (rvC (v := aggV (α := change_Report) true (change_Report.mk [] [] [])) rfl rfl ti80 rfl) (rvT (v := .sc (.int .i64 r1.2)) rfl)) rfl rfl (.tup (.cons ldA (.cons (.sc _) .nil))) pn
  · refine AWP.skip ?_
    refine skT ?_
    refine AWP.sq ?_
    refine AWP.joinX (fun z3 : Bool => LS.mk [(2, .sc (.int .i64 cut)), (3, .ptr 0 0 0), (4, .ptr 1 0 0), (6, .ptr 2 0 0), (8, .ptr 3 0 0), (31, .sc (.bool z3))] (lblks 0 [boxB (α := Cells) false old, boxB (α := Cells) false now, .box [.sc (.slice none 0 0), .sc (.slice none 0 0), .sc (.slice none 0 0)], boxB (α := Cells) true r1.1]) 4) hR (fun o3 hR => ?_) fun z3 hR => ?_
    · refine AWP.rgC 84 rfl rfl ?_
      refine pu (v := .sc _) rfl rfl (fun _ => rfl) ?_
      refine pu (v := .sc _) rfl rfl (fun _ => rfl) ?_
      refine pu (v := .sc _) rfl rfl (fun _ => rfl) ?_
      refine brR hR (fun h4 hR => ?_) fun h4 hR => ?_
      · refine sk (skW rfl rfl rfl h4) ?_
        refine sk (skW rfl rfl rfl h4) ?_
        refine pkT (v := .sc (.bool true)) rfl rfl h4 rfl ?_
        refine RunC.fin ?_
        have hR := Option.some.inj hR; subst hR
        exact Weak.turnL [(0, 0), (4, 0), (8, 0), (40, 0)] [] rfl rfl (tc (.sc _) (tc (trP' rfl rfl rfl rfl) (tc (trP' rfl rfl rfl rfl) (tc (trP' rfl rfl rfl rfl) (tc (trP' rfl rfl rfl rfl) (tc (.sc _) tn)))))) (mc rfl (.box rfl (.cons (.sc _) (.cons (.sc _) (.cons trR1 (.nil)))) rfl) (mc rfl (.box rfl (.cons (.sc _) (.cons (.sc _) (.cons trR1 (.nil)))) rfl) (mc rfl (.box rfl (.cons (.sc _) (.cons (.sc _) (.cons (.sc _) (.nil)))) rfl) (mc rfl (.box rfl (.cons (.sc _) (.cons (.sc _) (.cons trR1 (.nil)))) rfl) mn))))
      · refine pu (v := .sc _) (wtG rfl rfl rfl h4) rfl (fun _ => rfl) ?_
        refine pu (v := .sc _) (wtG rfl rfl rfl h4) rfl (fun _ => rfl) ?_
        refine pkF (v := .sc (.bool (decide (cut > 1099511627776)))) rfl rfl h4 rfl ?_
        refine RunC.fin ?_
        have hR := Option.some.inj hR; subst hR
        exact Weak.turnL [(0, 0), (4, 0), (8, 0), (40, 0)] [] rfl rfl (tc (.sc _) (tc (trP' rfl rfl rfl rfl) (tc (trP' rfl rfl rfl rfl) (tc (trP' rfl rfl rfl rfl) (tc (trP' rfl rfl rfl rfl) (tc (.sc _) tn)))))) (mc rfl (.box rfl (.cons (.sc _) (.cons (.sc _) (.cons trR1 (.nil)))) rfl) (mc rfl (.box rfl (.cons (.sc _) (.cons (.sc _) (.cons trR1 (.nil)))) rfl) (mc rfl (.box rfl (.cons (.sc _) (.cons (.sc _) (.cons (.sc _) (.nil)))) rfl) (mc rfl (.box rfl (.cons (.sc _) (.cons (.sc _) (.cons trR1 (.nil)))) rfl) mn))))
    · refine AWP.cd hR rfl (fun h5 hR => ?_) fun h5 hR => ?_
      · refine AWP.sq ?_
        refine AWP.rgC 16 rfl rfl ?_
        refine bu (cs := [.sc (.slice none 0 0), .sc (.slice none 0 0), .sc (.slice none 0 0)]) rfl bt80 rfl ?_
        refine stB (cs' := [.sc (.slice none 0 0), .sc (.slice none 0 0), .sc (.slice none 0 0)]) rfl rfl rfl rfl ti80 rfl rfl rfl rfl rfl ?_
        refine pu (v := .sc _) rfl rfl (fun _ => rfl) ?_
        refine RunC.fin ?_
        refine AWP.ret ?_
        refine rtT ?_
        have hR := Option.some.inj hR; subst hR
        exact hQ _ _ (LS.mk [(6, .ptr 0 0 0), (7, .sc (.int .i64 1))] (lblks 0 [boxB (α := change_Report) true (change_Report.mk [] [] [])]) 1) (.tup [aggV (α := change_Report) true (change_Report.mk [] [] []), .sc (.int .i64 1)]) [] (.inr rfl) (Weak.turnL [(2, 0)] [] rfl rfl (tc (trP' rfl rfl rfl rfl) (tc (.sc _) tn)) (mc rfl (.box rfl (.cons trN (.cons trN (.cons trN (.nil)))) rfl) mn)) (ro2 (rvC (v := aggV (α := change_Report) true (change_Report.mk [] [] [])) rfl rfl ti80 rfl) (rvT (v := .sc (.int .i64 1)) rfl)) rfl rfl (.tup (.cons ldA (.cons (.sc _) .nil))) pn
      · refine AWP.skip ?_
        refine skT ?_
        refine AWP.sq ?_
        refine AWP.rgC 40 rfl rfl ?_
        refine ldB (v := .agg _) rfl rfl rfl rfl ti77 rfl rfl ?_
        refine ldB (v := .agg _) rfl rfl rfl rfl ti77 rfl rfl ?_
        obtain ⟨r6, hr6, hR⟩ := bindE hR
        refine cls [] rfl rfl cb35 (ok35 old now _ hr6) (.cons (.agg (.cons (.sc _) (.cons (.sc _) (.cons ldR' (.nil)))) rfl) (.cons (.agg (.cons (.sc _) (.cons (.sc _) (.cons ldR' (.nil)))) rfl) (.nil))) (.inr rfl) rfl ?_
        refine pu (v := .tup _) rfl rfl (fun _ => rfl) ?_
        refine pu (v := .agg _) rfl rfl (fun _ => rfl) ?_
        refine pu (v := .sc _) rfl rfl (fun _ => rfl) ?_
        refine al (cs := [.sc (.int .i64 0), .sc (.int .i64 0), .sc (.slice none 0 0)]) 28 rfl rfl ti77 rfl rfl ?_
        refine stB (cs' := [.sc (.int .i64 r6.1.W), .sc (.int .i64 r6.1.H), rowV (α := Bound) true r6.1.At]) rfl rfl rfl rfl ti77 rfl rfl rfl rfl rfl ?_
        refine pu (v := .sc _) rfl rfl (fun _ => rfl) ?_
        refine RunC.fin ?_
        refine AWP.sq ?_
        refine AWP.rgC 44 rfl rfl ?_
        refine al (cs := [.sc (.slice none 0 0), .sc (.slice none 0 0), .sc (.slice none 0 0)]) 40 rfl rfl ti80 rfl rfl ?_
        refine RunC.fin ?_
        refine AWP.sq ?_
        refine AWP.rgC 68 rfl rfl ?_
        refine pu (v := .sc _) rfl rfl (fun _ => rfl) ?_
        refine pu (v := .sc _) rfl rfl (fun _ => rfl) ?_
        refine pu (v := .sc _) rfl rfl (fun _ => rfl) ?_
        refine bu (cs := [.sc (.int .i64 (w6 (0 - cut))), .sc (.int .i64 cut), .sc (.bool false)]) rfl bt34 rfl ?_
        refine al (cs := [.sc (.int .i64 0), .sc (.int .i64 0), .sc (.bool false)]) 60 rfl rfl ti34 rfl rfl ?_
        refine stB (cs' := [.sc (.int .i64 (w6 (0 - cut))), .sc (.int .i64 cut), .sc (.bool false)]) rfl rfl rfl rfl ti34 rfl rfl rfl rfl rfl ?_
        refine RunC.fin ?_
        refine AWP.sq ?_
        refine AWP.rgC 104 rfl rfl ?_
        refine ldB (v := .agg _) rfl rfl rfl rfl ti77 rfl rfl ?_
        refine ldB (v := .agg _) rfl rfl rfl rfl ti34 rfl rfl ?_
        obtain ⟨r7, hr7, hR⟩ := bindE hR
        refine cls [] rfl rfl cb36 (ok36 r1.1 (Bound.mk (w6 (0 - cut)) cut false) _ hr7) (.cons (.agg (.cons (.sc _) (.cons (.sc _) (.cons ldR' (.nil)))) rfl) (.cons (.agg (.cons (.sc _) (.cons (.sc _) (.cons (.sc _) (.nil)))) rfl) (.nil))) (.inr rfl) rfl ?_
        refine pu (v := .tup _) rfl rfl (fun _ => rfl) ?_
        refine pu (v := rowV _ r7.1) rfl rfl (fun _ => rfl) ?_
        refine pu (v := .sc _) rfl rfl (fun _ => rfl) ?_
        refine fa rfl rfl ti80 rfl rfl ti78 rfl ?_
        refine stB (cs' := [rowV (α := Source_) true r7.1, .sc (.slice none 0 0), .sc (.slice none 0 0)]) rfl rfl rfl rfl ti78 rfl rfl rfl rfl rfl ?_
        refine pu (v := .sc _) rfl rfl (fun _ => rfl) ?_
        refine RunC.fin ?_
        refine AWP.sq ?_
        refine AWP.sq ?_
        refine AWP.rgC 112 rfl rfl ?_
        refine pu (v := .sc _) rfl rfl (fun _ => rfl) ?_
        refine pu (v := .sc _) rfl rfl (fun _ => rfl) ?_
        refine RunC.fin ?_
        refine AWP.cd hR rfl (fun h8 hR => ?_) fun h8 hR => ?_
        · refine AWP.sq ?_
          refine AWP.rgC 128 rfl rfl ?_
          refine bu (cs := [.sc (.slice none 0 0), .sc (.slice none 0 0), .sc (.slice none 0 0)]) rfl bt80 rfl ?_
          refine pu (v := .sc _) rfl rfl (fun _ => rfl) ?_
          refine stB (cs' := [.sc (.slice none 0 0), .sc (.slice none 0 0), .sc (.slice none 0 0)]) rfl rfl rfl rfl ti80 rfl rfl rfl rfl rfl ?_
          refine pu (v := .sc _) rfl rfl (fun _ => rfl) ?_
          refine RunC.fin ?_
          refine AWP.ret ?_
          refine rtT ?_
          have hR := Option.some.inj hR; subst hR
          exact hQ _ _ (LS.mk [(6, .ptr 0 0 0), (7, .sc (.int .i64 r7.2))] (lblks 0 [boxB (α := change_Report) true (change_Report.mk [] [] [])]) 1) (.tup [aggV (α := change_Report) true (change_Report.mk [] [] []), .sc (.int .i64 r7.2)]) [] (.inr rfl) (Weak.turnL [(2, 0)] [] rfl rfl (tc (trP' rfl rfl rfl rfl) (tc (.sc _) tn)) (mc rfl (.box rfl (.cons trN (.cons trN (.cons trN (.nil)))) rfl) mn)) (ro2 (rvC (v := aggV (α := change_Report) true (change_Report.mk [] [] [])) rfl rfl ti80 rfl) (rvT (v := .sc (.int .i64 r7.2)) rfl)) rfl rfl (.tup (.cons ldA (.cons (.sc _) .nil))) pn
        · refine AWP.skip ?_
          refine skT ?_
          refine AWP.sq ?_
          refine AWP.rgC 148 rfl rfl ?_
          refine ldB (v := .agg _) rfl rfl rfl rfl ti77 rfl rfl ?_
          refine ldB (v := .agg _) rfl rfl rfl rfl ti34 rfl rfl ?_
          obtain ⟨r9, hr9, hR⟩ := bindE hR
          refine cls [] rfl rfl cb36 (ok36 r6.1 (Bound.mk (w6 (0 - cut)) cut false) _ hr9) (.cons (.agg (.cons (.sc _) (.cons (.sc _) (.cons ldR' (.nil)))) rfl) (.cons (.agg (.cons (.sc _) (.cons (.sc _) (.cons (.sc _) (.nil)))) rfl) (.nil))) (.inr rfl) rfl ?_
          refine pu (v := .tup _) rfl rfl (fun _ => rfl) ?_
          refine pu (v := rowV _ r9.1) rfl rfl (fun _ => rfl) ?_
          refine pu (v := .sc _) rfl rfl (fun _ => rfl) ?_
          refine fa rfl rfl ti80 rfl rfl ti78 rfl ?_
          refine stB (cs' := [rowV (α := Source_) true r7.1, rowV (α := Source_) true r9.1, .sc (.slice none 0 0)]) rfl rfl rfl rfl ti78 rfl rfl rfl rfl rfl ?_
          refine pu (v := .sc _) rfl rfl (fun _ => rfl) ?_
          refine RunC.fin ?_
          refine AWP.sq ?_
          refine AWP.sq ?_
          refine AWP.rgC 156 rfl rfl ?_
          refine pu (v := .sc _) rfl rfl (fun _ => rfl) ?_
          refine pu (v := .sc _) rfl rfl (fun _ => rfl) ?_
          refine RunC.fin ?_
          refine AWP.cd hR rfl (fun h10 hR => ?_) fun h10 hR => ?_
          · refine AWP.sq ?_
            refine AWP.rgC 172 rfl rfl ?_
            refine bu (cs := [.sc (.slice none 0 0), .sc (.slice none 0 0), .sc (.slice none 0 0)]) rfl bt80 rfl ?_
            refine pu (v := .sc _) rfl rfl (fun _ => rfl) ?_
            refine stB (cs' := [.sc (.slice none 0 0), .sc (.slice none 0 0), .sc (.slice none 0 0)]) rfl rfl rfl rfl ti80 rfl rfl rfl rfl rfl ?_
            refine pu (v := .sc _) rfl rfl (fun _ => rfl) ?_
            refine RunC.fin ?_
            refine AWP.ret ?_
            refine rtT ?_
            have hR := Option.some.inj hR; subst hR
            exact hQ _ _ (LS.mk [(6, .ptr 0 0 0), (7, .sc (.int .i64 r9.2))] (lblks 0 [boxB (α := change_Report) true (change_Report.mk [] [] [])]) 1) (.tup [aggV (α := change_Report) true (change_Report.mk [] [] []), .sc (.int .i64 r9.2)]) [] (.inr rfl) (Weak.turnL [(2, 0)] [] rfl rfl (tc (trP' rfl rfl rfl rfl) (tc (.sc _) tn)) (mc rfl (.box rfl (.cons trN (.cons trN (.cons trN (.nil)))) rfl) mn)) (ro2 (rvC (v := aggV (α := change_Report) true (change_Report.mk [] [] [])) rfl rfl ti80 rfl) (rvT (v := .sc (.int .i64 r9.2)) rfl)) rfl rfl (.tup (.cons ldA (.cons (.sc _) .nil))) pn
          · refine AWP.skip ?_
            refine skT ?_
            refine AWP.sq ?_
            refine AWP.sq ?_
            refine AWP.rgC 172 rfl rfl ?_
            refine fa rfl rfl ti77 rfl rfl ti75 rfl ?_
            refine ldB (v := rowV _ r1.1.At) rfl rfl rfl rfl ti75 rfl rfl ?_
            refine lenL (α := Bound) rfl rfl ti75 rfl ?_
            refine pu (v := .sc _) rfl rfl (fun _ => rfl) ?_
            refine RunC.fin ?_
            refine AWP.nilB Int 40 2 3 rfl rfl (cs' := [rowV (α := Source_) true r7.1, rowV (α := Source_) true r9.1, slV Int 172 0 0 0]) rfl ?_
            refine AWP.loopJ (fun s11 : (List Int) × Int => LS.mk [(6, .ptr 0 0 0), (12, .ptr 1 0 0), (13, .ptr 3 0 0), (66, rowV (α := Bound) true r1.1.At), (67, .sc (.int .i64 (r1.1.At.length : Int))), (68, .sc (.int .i64 s11.2))] (lblks 0 [.box [.sc (.slice none 0 0), .sc (.slice none 0 0), .sc (.slice none 0 0)], .box [rowV (α := Source_) true r7.1, rowV (α := Source_) true r9.1, slV Int 2 0 0 s11.1.length], arrB (α := Int) 3 0 true s11.1, boxB (α := Bound) true (Bound.mk (w6 (0 - cut)) cut false)]) 4) (fun z12 : (List Int) => LS.mk [(6, .ptr 0 0 0), (12, .ptr 1 0 0)] (lblks 0 [.box [.sc (.slice none 0 0), .sc (.slice none 0 0), .sc (.slice none 0 0)], .box [rowV (α := Source_) true r7.1, rowV (α := Source_) true r9.1, slV Int 2 0 0 z12.length], arrB (α := Int) 3 0 true z12]) 3) (change_In.l1 cut r1) hR (s0 := (([] : List Int), 0)) (Weak.turnL [(2, 0), (40, 0), (172, 0), (60, 0)] [] rfl rfl (tc (trP' rfl rfl rfl rfl) (tc (trP' rfl rfl rfl rfl) (tc (trP' rfl rfl rfl rfl) (tc trR1 (tc (.sc _) (tc (.sc _) tn)))))) (mc rfl (.box rfl (.cons (.sc _) (.cons (.sc _) (.cons (.sc _) (.nil)))) rfl) (mc rfl (.box rfl (.cons trR1 (.cons trR1 (.cons (trS' rfl rfl rfl rfl rfl) (.nil)))) rfl) (mc rfl (btrA' rfl) (mc rfl (.box rfl (.cons (.sc _) (.cons (.sc _) (.cons (.sc _) (.nil)))) rfl) mn))))) (fun s11 o11 hR => ?_) fun z12 hR => ?_
            · unfold change_In.l1 at hR
              refine AWP.sq ?_
              refine AWP.rgC 8 rfl rfl ?_
              refine pu (v := .sc _) rfl rfl (fun _ => rfl) ?_
              refine RunC.fin ?_
              refine AWP.sq ?_
              refine AWP.cd hR rfl (fun h13 hR => ?_) fun h13 hR => ?_
              · refine AWP.skip ?_
                refine skT ?_
                refine AWP.joinX (fun z14 : (List Int) => LS.mk [(6, .ptr 0 0 0), (12, .ptr 1 0 0), (13, .ptr 3 0 0), (66, rowV (α := Bound) true r1.1.At), (67, .sc (.int .i64 (r1.1.At.length : Int))), (68, .sc (.int .i64 s11.2))] (lblks 0 [.box [.sc (.slice none 0 0), .sc (.slice none 0 0), .sc (.slice none 0 0)], .box [rowV (α := Source_) true r7.1, rowV (α := Source_) true r9.1, slV Int 2 0 0 z14.length], arrB (α := Int) 3 0 true z14, boxB (α := Bound) true (Bound.mk (w6 (0 - cut)) cut false)]) 4) hR (fun o14 hR => ?_) fun z14 hR => ?_
                · refine AWP.block ?_
                  refine AWP.sq ?_
                  refine AWP.rgC 32 rfl rfl ?_
                  refine pu (v := .sc _) rfl rfl (fun _ => rfl) ?_
                  obtain ⟨h15, hR⟩ := chkE hR
                  refine ixL (α := Bound) rfl rfl rfl ti75 rfl ti34 rfl h15 ?_
                  refine ldR (v := .agg _) rfl rfl ti34 rfl ?_
                  refine al (cs := [.sc (.int .i64 0), .sc (.int .i64 0), .sc (.bool false)]) 20 rfl rfl ti34 rfl rfl ?_
                  refine pu (v := .sc _) rfl rfl (fun _ => rfl) ?_
                  refine stB (cs' := [.sc (.int .i64 (gt r1.1.At s11.2).Lo), .sc (.int .i64 (gt r1.1.At s11.2).Hi), .sc (.bool (gt r1.1.At s11.2).Unknown)]) rfl rfl rfl rfl ti34 rfl rfl rfl rfl rfl ?_
                  refine RunC.fin ?_
                  refine AWP.joinX (fun z16 : Bool => LS.mk [(6, .ptr 0 0 0), (12, .ptr 1 0 0), (13, .ptr 3 0 0), (14, .sc (.int .i64 s11.2)), (66, rowV (α := Bound) true r1.1.At), (67, .sc (.int .i64 (r1.1.At.length : Int))), (68, .sc (.int .i64 s11.2)), (80, .sc (.bool z16))] (lblks 0 [.box [.sc (.slice none 0 0), .sc (.slice none 0 0), .sc (.slice none 0 0)], .box [rowV (α := Source_) true r7.1, rowV (α := Source_) true r9.1, slV Int 2 0 0 s11.1.length], arrB (α := Int) 3 0 true s11.1, boxB (α := Bound) true (Bound.mk (w6 (0 - cut)) cut false)]) 4) hR (fun o16 hR => ?_) fun z16 hR => ?_
                  · refine AWP.rgC 64 rfl rfl ?_
                    refine fa rfl rfl ti34 rfl rfl ti4 rfl ?_
                    refine ldB (v := .sc _) rfl rfl rfl rfl ti4 rfl rfl ?_
                    refine pu (v := .sc _) rfl rfl (fun _ => rfl) ?_
                    refine pu (v := .sc _) rfl rfl (fun _ => rfl) ?_
                    refine brR hR (fun h17 hR => ?_) fun h17 hR => ?_
                    · refine ldB (v := .agg _) (wtG rfl rfl rfl h17) rfl rfl rfl ti34 rfl rfl ?_
                      refine ldB (v := .agg _) (wtG rfl rfl rfl h17) rfl rfl rfl ti34 rfl rfl ?_
                      obtain ⟨r18, hr18, hR⟩ := bindE hR
                      refine cls [] (wtG rfl rfl rfl h17) rfl cb37 (ok37 (gt r1.1.At s11.2) (Bound.mk (w6 (0 - cut)) cut false) _ hr18) (.cons (.agg (.cons (.sc _) (.cons (.sc _) (.cons (.sc _) (.nil)))) rfl) (.cons (.agg (.cons (.sc _) (.cons (.sc _) (.cons (.sc _) (.nil)))) rfl) (.nil))) (.inr rfl) rfl ?_
                      refine pkT (v := .sc (.bool r18)) rfl rfl h17 rfl ?_
                      refine RunC.fin ?_
                      have hR := Option.some.inj hR; subst hR
                      exact Weak.turnL [(0, 0), (1, 0), (2, 0), (3, 0)] [] rfl rfl (tc (trP' rfl rfl rfl rfl) (tc (trP' rfl rfl rfl rfl) (tc (trP' rfl rfl rfl rfl) (tc (.sc _) (tc trR1 (tc (.sc _) (tc (.sc _) (tc (.sc _) tn)))))))) (mc rfl (.box rfl (.cons (.sc _) (.cons (.sc _) (.cons (.sc _) (.nil)))) rfl) (mc rfl (.box rfl (.cons trR1 (.cons trR1 (.cons (trS' rfl rfl rfl rfl rfl) (.nil)))) rfl) (mc rfl (btrA' rfl) (mc rfl (.box rfl (.cons (.sc _) (.cons (.sc _) (.cons (.sc _) (.nil)))) rfl) mn))))
                    · refine sk (skW rfl rfl rfl h17) ?_
                      refine sk (skW rfl rfl rfl h17) ?_
                      refine sk (skW rfl rfl rfl h17) ?_
                      refine pkF (v := .sc (.bool false)) rfl rfl h17 rfl ?_
                      refine RunC.fin ?_
                      have hR := Option.some.inj hR; subst hR
                      exact Weak.turnL [(0, 0), (1, 0), (2, 0), (3, 0)] [] rfl rfl (tc (trP' rfl rfl rfl rfl) (tc (trP' rfl rfl rfl rfl) (tc (trP' rfl rfl rfl rfl) (tc (.sc _) (tc trR1 (tc (.sc _) (tc (.sc _) (tc (.sc _) tn)))))))) (mc rfl (.box rfl (.cons (.sc _) (.cons (.sc _) (.cons (.sc _) (.nil)))) rfl) (mc rfl (.box rfl (.cons trR1 (.cons trR1 (.cons (trS' rfl rfl rfl rfl rfl) (.nil)))) rfl) (mc rfl (btrA' rfl) (mc rfl (.box rfl (.cons (.sc _) (.cons (.sc _) (.cons (.sc _) (.nil)))) rfl) mn))))
                  · refine AWP.cd hR rfl (fun h19 hR => ?_) fun h19 hR => ?_
                    · refine AWP.rgC 32 rfl rfl ?_
                      refine fa rfl rfl ti80 rfl rfl ti22 rfl ?_
                      refine ldB (v := slV Int _ _ _ _) rfl rfl rfl rfl ti22 rfl rfl ?_
                      refine pu (v := .sc _) rfl rfl (fun _ => rfl) ?_
                      refine bs (α := Int) 16 true ([s11.2] : List Int) rfl rfl ti22 rfl ti3 rfl rfl rfl rfl rfl ?_
                      obtain ⟨h20, hR⟩ := chkE hR
                      refine ap' (α := Int) (nw := true) (xs := s11.1) (ys := ([s11.2] : List Int)) rfl rfl rfl rfl (srcS' rfl rfl rfl) ti22 rfl ti3 rfl h20 rfl ?_
                      refine fa rfl rfl ti80 rfl rfl ti22 rfl ?_
                      refine stB (cs' := [rowV (α := Source_) true r7.1, rowV (α := Source_) true r9.1, slV Int 2 1 0 (s11.1 ++ ([s11.2] : List Int)).length]) rfl rfl rfl rfl ti22 rfl rfl rfl rfl rfl ?_
                      refine RunC.blk ?_
                      refine RunC.fin ?_
                      have hR := Option.some.inj hR; subst hR
                      exact Weak.turnL [(0, 0), (1, 0), (2, 0), (3, 0)] [] rfl rfl (tc (trP' rfl rfl rfl rfl) (tc (trP' rfl rfl rfl rfl) (tc (trP' rfl rfl rfl rfl) (tc trR1 (tc (.sc _) (tc (.sc _) tn)))))) (mc rfl (.box rfl (.cons (.sc _) (.cons (.sc _) (.cons (.sc _) (.nil)))) rfl) (mc rfl (.box rfl (.cons trR1 (.cons trR1 (.cons (trS' rfl rfl rfl rfl rfl) (.nil)))) rfl) (mc rfl (btrA' rfl) (mc rfl (.box rfl (.cons (.sc _) (.cons (.sc _) (.cons (.sc _) (.nil)))) rfl) mn))))
                    · refine AWP.skip ?_
                      refine skB ?_
                      refine skT ?_
                      have hR := Option.some.inj hR; subst hR
                      exact Weak.turnL [(0, 0), (1, 0), (2, 0), (3, 0)] [] rfl rfl (tc (trP' rfl rfl rfl rfl) (tc (trP' rfl rfl rfl rfl) (tc (trP' rfl rfl rfl rfl) (tc trR1 (tc (.sc _) (tc (.sc _) tn)))))) (mc rfl (.box rfl (.cons (.sc _) (.cons (.sc _) (.cons (.sc _) (.nil)))) rfl) (mc rfl (.box rfl (.cons trR1 (.cons trR1 (.cons (trS' rfl rfl rfl rfl rfl) (.nil)))) rfl) (mc rfl (btrA' rfl) (mc rfl (.box rfl (.cons (.sc _) (.cons (.sc _) (.cons (.sc _) (.nil)))) rfl) mn))))
                · refine AWP.rgC 12 rfl rfl ?_
                  refine pu (v := .sc _) rfl rfl (fun _ => rfl) ?_
                  refine pu (v := .sc _) rfl rfl (fun _ => rfl) ?_
                  refine RunC.fin ?_
                  refine ⟨(z14, w6 (s11.2 + 1)), (Option.some.inj hR).symm, ?_⟩
                  exact Weak.turnL [(0, 0), (1, 0), (2, 0), (3, 0)] [] rfl rfl (tc (trP' rfl rfl rfl rfl) (tc (trP' rfl rfl rfl rfl) (tc (trP' rfl rfl rfl rfl) (tc trR1 (tc (.sc _) (tc (.sc _) tn)))))) (mc rfl (.box rfl (.cons (.sc _) (.cons (.sc _) (.cons (.sc _) (.nil)))) rfl) (mc rfl (.box rfl (.cons trR1 (.cons trR1 (.cons (trS' rfl rfl rfl rfl rfl) (.nil)))) rfl) (mc rfl (btrA' rfl) (mc rfl (.box rfl (.cons (.sc _) (.cons (.sc _) (.cons (.sc _) (.nil)))) rfl) mn))))
              · refine AWP.exit ?_
                refine exT ?_
                refine exT ?_
                refine exH (skT ?_)
                refine ⟨s11.1, (Option.some.inj hR).symm, ?_⟩
                exact Weak.turnL [(0, 0), (1, 0), (2, 0)] [] rfl rfl (tc (trP' rfl rfl rfl rfl) (tc (trP' rfl rfl rfl rfl) tn)) (mc rfl (.box rfl (.cons (.sc _) (.cons (.sc _) (.cons (.sc _) (.nil)))) rfl) (mc rfl (.box rfl (.cons trR1 (.cons trR1 (.cons (trS' rfl rfl rfl rfl rfl) (.nil)))) rfl) (mc rfl (btrA' rfl) mn)))
            · refine skT ?_
              refine AWP.sq ?_
              refine AWP.rgC 15 rfl rfl ?_
              refine ldB (v := .agg _) rfl rfl rfl rfl ti80 rfl rfl ?_
              refine stB (cs' := [rowV (α := Source_) true r7.1, rowV (α := Source_) true r9.1, slV Int 2 0 0 z12.length]) rfl rfl rfl rfl ti80 rfl rfl rfl rfl rfl ?_
              refine pu (v := .sc _) rfl rfl (fun _ => rfl) ?_
              refine RunC.fin ?_
              refine AWP.ret ?_
              have hR := Option.some.inj hR; subst hR
              exact hQ _ _ (LS.mk [(6, .ptr 0 0 0), (7, .sc (.int .i64 0))] (lblks 0 [boxB (α := change_Report) true (change_Report.mk r7.1 r9.1 z12)]) 1) (.tup [aggV (α := change_Report) true (change_Report.mk r7.1 r9.1 z12), .sc (.int .i64 0)]) [] (.inr rfl) (Weak.turnL [(0, 0)] [2] rfl rfl (tc (trP' rfl rfl rfl rfl) (tc (.sc _) tn)) (mc rfl (.box rfl (.cons trR1 (.cons trR1 (.cons (trF' rfl rfl id rfl) (.nil)))) rfl) mn)) (ro2 (rvC (v := aggV (α := change_Report) true (change_Report.mk r7.1 r9.1 z12)) rfl rfl ti80 rfl) (rvT (v := .sc (.int .i64 0)) rfl)) rfl rfl (.tup (.cons ldA (.cons (.sc _) .nil))) pn
theorem ok25 (s1_ : List Int) (s2_ : List Int) (r : Bool) (hR : slices_Equal_Int s1_ s2_ = some r) : FnP Try.prog 25 [rowV false s1_, rowV false s2_] (.sc (.bool r)) := by
  refine fnP_of (FnX.walk Try.func25 rfl 26 0 (by simp [Try.ntmps25]) rfl fun W S F Q hQ => ?_)
  unfold slices_Equal_Int at hR
  refine AWP.sq ?_
  refine AWP.rgC 4 rfl rfl ?_
  refine pu (v := .sc _) rfl rfl (fun _ => rfl) ?_
  refine RunC.fin ?_
  refine AWP.sq ?_
  refine AWP.sq ?_
  refine AWP.rgC 24 rfl rfl ?_
  refine pu (v := rowV _ s1_) rfl rfl (fun _ => rfl) ?_
  refine lenL (α := Int) rfl rfl ti22 rfl ?_
  refine pu (v := rowV _ s2_) rfl rfl (fun _ => rfl) ?_
  refine lenL (α := Int) rfl rfl ti22 rfl ?_
  refine pu (v := .sc _) rfl rfl (fun _ => rfl) ?_
  refine RunC.fin ?_
  refine AWP.cd hR rfl (fun h1 hR => ?_) fun h1 hR => ?_
  · refine AWP.sq ?_
    refine AWP.rgC 28 rfl rfl ?_
    refine pu (v := .sc _) rfl rfl (fun _ => rfl) ?_
    refine RunC.fin ?_
    refine AWP.ret ?_
    refine rtT ?_
    have hR := Option.some.inj hR; subst hR
    exact hQ _ _ (LS.mk [(4, .sc (.bool false))] (lblks 0 []) 0) (.sc (.bool false)) [] (.inr rfl) (Weak.turnL [] [] rfl rfl (tc (.sc _) tn) mn) (ro1 (rvT (v := .sc (.bool false)) rfl)) rfl rfl (.sc _) pn
  · refine AWP.skip ?_
    refine skT ?_
    refine AWP.sq ?_
    refine AWP.sq ?_
    refine AWP.rgC 36 rfl rfl ?_
    refine pu (v := rowV _ s1_) rfl rfl (fun _ => rfl) ?_
    refine lenL (α := Int) rfl rfl ti22 rfl ?_
    refine pu (v := .sc _) rfl rfl (fun _ => rfl) ?_
    refine RunC.fin ?_
    refine AWP.loopK' (fun s2 : Int => LS.mk [(0, rowV (α := Int) false s1_), (1, rowV (α := Int) false s2_), (12, .sc (.int .i64 (s1_.length : Int))), (13, .sc (.int .i64 s2))] (lblks 0 []) 0) (fun z3 : Unit => LS.mk [] (lblks 0 []) 0) (slices_Equal_Int.l1 s1_ s2_) hR (s0 := 0) (Weak.turnL [] [] rfl rfl (tc trR1 (tc trR1 (tc (.sc _) (tc (.sc _) tn)))) mn) (fun s2 o2 hR hE2 => ?_) fun z3 hR => ?_
    · unfold slices_Equal_Int.l1 at hR
      refine AWP.sq ?_
      refine AWP.rgC 4 rfl rfl ?_
      refine pu (v := .sc _) rfl rfl (fun _ => rfl) ?_
      refine RunC.fin ?_
      refine AWP.sq ?_
      refine AWP.cd hR rfl (fun h4 hR => ?_) fun h4 hR => ?_
      · refine AWP.skip ?_
        refine skT ?_
        refine AWP.sq ?_
        refine AWP.block ?_
        refine AWP.sq ?_
        refine AWP.rgC 12 rfl rfl ?_
        refine pu (v := .sc _) rfl rfl (fun _ => rfl) ?_
        refine pu (v := .sc _) rfl rfl (fun _ => rfl) ?_
        refine RunC.fin ?_
        refine AWP.sq ?_
        refine AWP.rgD 48 [0, 0, 3, 7, 0, 0, 48, 112, 255] ⟨[], [none, none, none, some [], none, none, none, some [], none]⟩ hmix (by kernel_rfl) rfl rfl ?_
        refine pu (v := rowV _ s1_) rfl rfl (fun _ => rfl) ?_
        refine pu (v := .sc _) rfl rfl (fun _ => rfl) ?_
        obtain ⟨h5, hR⟩ := chkE hR
        refine ixL (α := Int) rfl rfl rfl ti22 rfl ti3 rfl h5 ?_
        refine ldR (v := .sc _) rfl rfl ti3 rfl ?_
        refine pu (v := rowV _ s2_) rfl rfl (fun _ => rfl) ?_
        refine pu (v := .sc _) rfl rfl (fun _ => rfl) ?_
        obtain ⟨h6, hR⟩ := chkE hR
        refine ixL (α := Int) rfl rfl rfl ti22 rfl ti3 rfl h6 ?_
        refine ldR (v := .sc _) rfl rfl ti3 rfl ?_
        refine pu (v := .sc _) rfl rfl (fun _ => rfl) ?_
        refine RunC.fin ?_
        refine AWP.cd hR rfl (fun h7 hR => ?_) fun h7 hR => ?_
        · refine AWP.sq ?_
          refine AWP.rgC 52 rfl rfl ?_
          refine pu (v := .sc _) rfl rfl (fun _ => rfl) ?_
          refine RunC.fin ?_
          refine AWP.ret ?_
          refine rtB ?_
          refine rtT ?_
          refine rtT ?_
          refine rtB (rtT ?_)
          replace hR := escL hR hE2
          refine rtT ?_
          have hR := Option.some.inj hR; subst hR
          exact hQ _ _ (LS.mk [(4, .sc (.bool false))] (lblks 0 []) 0) (.sc (.bool false)) [] (.inr rfl) (Weak.turnL [] [] rfl rfl (tc (.sc _) tn) mn) (ro1 (rvT (v := .sc (.bool false)) rfl)) rfl rfl (.sc _) pn
        · refine AWP.skip ?_
          refine skB ?_
          refine skT ?_
          refine AWP.rgC 56 rfl rfl ?_
          refine pu (v := .sc _) rfl rfl (fun _ => rfl) ?_
          refine pu (v := .sc _) rfl rfl (fun _ => rfl) ?_
          refine RunC.fin ?_
          refine ⟨(w6 (s2 + 1)), (Option.some.inj hR).symm, ?_⟩
          exact Weak.turnL [] [] rfl rfl (tc trR1 (tc trR1 (tc (.sc _) (tc (.sc _) tn)))) mn
      · refine AWP.exit ?_
        refine exT ?_
        refine exT ?_
        refine exH (skT ?_)
        refine ⟨(), (Option.some.inj hR).symm, ?_⟩
        exact Weak.turnL [] [] rfl rfl tn mn
    · refine skT ?_
      refine AWP.sq ?_
      refine AWP.rgC 4 rfl rfl ?_
      refine pu (v := .sc _) rfl rfl (fun _ => rfl) ?_
      refine RunC.fin ?_
      refine AWP.ret ?_
      have hR := Option.some.inj hR; subst hR
      exact hQ _ _ (LS.mk [(4, .sc (.bool true))] (lblks 0 []) 0) (.sc (.bool true)) [] (.inr rfl) (Weak.turnL [] [] rfl rfl (tc (.sc _) tn) mn) (ro1 (rvT (v := .sc (.bool true)) rfl)) rfl rfl (.sc _) pn
end Go.Proofs.Crs
