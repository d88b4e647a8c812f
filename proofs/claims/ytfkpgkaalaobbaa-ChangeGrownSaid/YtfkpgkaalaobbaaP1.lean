/- Each function of the program computes its plain function. Conditions: as each theorem states them. -/
import Derived.Test.YtfkpgkaalaobbaaT
import Derived.Test.YtfkpgkaalaobbaaH
import Derived.Test.YtfkpgkaalaobbaaF
import Derived.Test.YtfkpgkaalaobbaaP0
namespace Go.Proofs.Cgr
open Go Go.Abs Lf
set_option linter.unusedVariables false
set_option linter.unusedSimpArgs false
set_option maxRecDepth 100000
set_option maxHeartbeats 1000000
theorem ok67_30 (data : List Int) (a : Int) (b : Int) (cmpc0 : Cells) (r : (List Int)) (hR : slices_insertionSortCmpFunc_Int_find_Sure_1 data a b cmpc0 = some r) : FnD Try.prog 67 [arrB 3 0 false data, boxB false cmpc0] [slV Int 0 0 0 data.length, .sc (.int .i64 a), .sc (.int .i64 b), .fn (.func 40) [.ptr 1 0 0]] (.tup []) [arrB 3 0 false r, boxB false cmpc0] := by
  refine FnX.walk Try.func67 rfl 53 2 (by simp [Try.ntmps67]) rfl fun W S F Q hQ => ?_
  unfold slices_insertionSortCmpFunc_Int_find_Sure_1 at hR
  refine AWP.sq ?_
  refine AWP.rgC 14 rfl rfl ?_
  refine pu (v := .sc _) rfl rfl (fun _ => rfl) ?_
  refine pu (v := .sc _) rfl rfl (fun _ => rfl) ?_
  refine pu (v := .sc _) rfl rfl (fun _ => rfl) ?_
  refine RunC.fin ?_
  refine AWP.loopJ (fun s1 : (List Int) × Int => LS.mk [(0, slV Int 0 0 0 s1.1.length), (1, .sc (.int .i64 a)), (2, .sc (.int .i64 b)), (3, .fn (.func 40) [.ptr 1 0 0]), (8, .sc (.int .i64 s1.2))] (lblks 0 [arrB (α := Int) 3 0 false s1.1, boxB (α := Cells) false cmpc0]) 2) (fun z2 : (List Int) => LS.mk [] (lblks 0 [arrB (α := Int) 3 0 false z2, boxB (α := Cells) false cmpc0]) 2) (slices_insertionSortCmpFunc_Int_find_Sure_1.l1 a b cmpc0) hR (s0 := (data, w6 (a + 1))) (Weak.turnL [(0, 0), (1, 0)] [] rfl rfl (tc (trS' rfl rfl rfl rfl rfl) (tc (.sc _) (tc (.sc _) (tc (.fn (.cons (trP' rfl rfl rfl rfl) (.nil))) (tc (.sc _) tn))))) (mc rfl (btrA' rfl) (mc rfl (.box rfl (.cons (.sc _) (.cons (.sc _) (.cons trR1 (.nil)))) rfl) mn))) (fun s1 o1 hR => ?_) fun z2 hR => ?_
  · unfold slices_insertionSortCmpFunc_Int_find_Sure_1.l1 at hR
    refine AWP.sq ?_
    refine AWP.sq ?_
    refine AWP.rgC 14 rfl rfl ?_
    refine pu (v := .sc _) rfl rfl (fun _ => rfl) ?_
    refine pu (v := .sc _) rfl rfl (fun _ => rfl) ?_
    refine pu (v := .sc _) rfl rfl (fun _ => rfl) ?_
    refine RunC.fin ?_
    refine AWP.cd hR rfl (fun h3 hR => ?_) fun h3 hR => ?_
    · refine AWP.skip ?_
      refine skT ?_
      refine AWP.sq ?_
      refine AWP.block ?_
      refine AWP.sq ?_
      refine AWP.rgC 22 rfl rfl ?_
      refine pu (v := .sc _) rfl rfl (fun _ => rfl) ?_
      refine pu (v := .sc _) rfl rfl (fun _ => rfl) ?_
      refine RunC.fin ?_
      refine AWP.loopJ (fun s4 : (List Int) × Int => LS.mk [(0, slV Int 0 0 0 s4.1.length), (1, .sc (.int .i64 a)), (2, .sc (.int .i64 b)), (3, .fn (.func 40) [.ptr 1 0 0]), (8, .sc (.int .i64 s1.2)), (9, .sc (.int .i64 s4.2))] (lblks 0 [arrB (α := Int) 3 0 false s4.1, boxB (α := Cells) false cmpc0]) 2) (fun z5 : (List Int) => LS.mk [(0, slV Int 0 0 0 z5.length), (1, .sc (.int .i64 a)), (2, .sc (.int .i64 b)), (3, .fn (.func 40) [.ptr 1 0 0]), (8, .sc (.int .i64 s1.2))] (lblks 0 [arrB (α := Int) 3 0 false z5, boxB (α := Cells) false cmpc0]) 2) (slices_insertionSortCmpFunc_Int_find_Sure_1.l2 a cmpc0) hR (s0 := (s1.1, s1.2)) (Weak.turnL [(0, 0), (1, 0)] [] rfl rfl (tc (trS' rfl rfl rfl rfl rfl) (tc (.sc _) (tc (.sc _) (tc (.fn (.cons (trP' rfl rfl rfl rfl) (.nil))) (tc (.sc _) (tc (.sc _) tn)))))) (mc rfl (btrA' rfl) (mc rfl (.box rfl (.cons (.sc _) (.cons (.sc _) (.cons trR1 (.nil)))) rfl) mn))) (fun s4 o4 hR => ?_) fun z5 hR => ?_
      · unfold slices_insertionSortCmpFunc_Int_find_Sure_1.l2 at hR
        refine AWP.sq ?_
        refine AWP.joinX (fun z6 : Bool => LS.mk [(0, slV Int 0 0 0 s4.1.length), (1, .sc (.int .i64 a)), (2, .sc (.int .i64 b)), (3, .fn (.func 40) [.ptr 1 0 0]), (8, .sc (.int .i64 s1.2)), (9, .sc (.int .i64 s4.2)), (34, .sc (.bool z6))] (lblks 0 [arrB (α := Int) 3 0 false s4.1, boxB (α := Cells) false cmpc0]) 2) hR (fun o6 hR => ?_) fun z6 hR => ?_
        · refine AWP.rgD 70 [0, 0, 3, 7, 15, 15, 15, 111, 239, 15, 15, 1039, 3599, 7695, 16383, 32767, 65535] ⟨[], [none, none, none, none, none, none, none, none, some [0], none, none, none, none, some [0], none, none, none]⟩ hmix (by kernel_rfl) rfl rfl ?_
          refine pu (v := .sc _) rfl rfl (fun _ => rfl) ?_
          refine pu (v := .sc _) rfl rfl (fun _ => rfl) ?_
          refine pu (v := .sc _) rfl rfl (fun _ => rfl) ?_
          refine pu (v := .sc _) rfl rfl (fun _ => rfl) ?_
          refine brR hR (fun h7 hR => ?_) fun h7 hR => ?_
          · refine pu (v := .fn _ _) (wtG rfl rfl rfl h7) rfl (fun _ => rfl) ?_
            refine pu (v := slV Int _ _ _ _) (wtG rfl rfl rfl h7) rfl (fun _ => rfl) ?_
            refine pu (v := .sc _) (wtG rfl rfl rfl h7) rfl (fun _ => rfl) ?_
            obtain ⟨h8, hR⟩ := chkE hR
            refine ixS0 (α := Int) (wtG rfl rfl rfl h7) rfl rfl ti22 rfl ti3 rfl h8 ?_
            refine ldE (α := Int) (v := .sc _) (wtG rfl rfl rfl h7) rfl rfl (ixlt h8) ti3 rfl rfl rfl rfl ?_
            refine pu (v := slV Int _ _ _ _) (wtG rfl rfl rfl h7) rfl (fun _ => rfl) ?_
            refine pu (v := .sc _) (wtG rfl rfl rfl h7) rfl (fun _ => rfl) ?_
            refine pu (v := .sc _) (wtG rfl rfl rfl h7) rfl (fun _ => rfl) ?_
            obtain ⟨h9, hR⟩ := chkE hR
            refine ixS0 (α := Int) (wtG rfl rfl rfl h7) rfl rfl ti22 rfl ti3 rfl h9 ?_
            refine ldE (α := Int) (v := .sc _) (wtG rfl rfl rfl h7) rfl rfl (ixlt h9) ti3 rfl rfl rfl rfl ?_
            obtain ⟨r10, hr10, hR⟩ := bindE hR
            refine cls [1] (wtG rfl rfl rfl h7) rfl cb40 (ok40 (gt s4.1 s4.2) (gt s4.1 (w6 (s4.2 - 1))) cmpc0 _ hr10) (.cons (.sc _) (.cons (.sc _) (.cons (ldX rfl rfl (.cons (.sc _) (.cons (.sc _) (.cons ldR' (.nil)))) rfl) (.nil)))) (.inl (by first | rfl | exact freshR | exact freshA | (simp only [V.fresh, V.freshs, freshR, freshA, Bool.and_self]))) rfl ?_
            refine pu (v := .sc _) (wtG rfl rfl rfl h7) rfl (fun _ => rfl) ?_
            refine pkT (v := .sc (.bool (decide (r10 < 0)))) rfl rfl h7 rfl ?_
            refine RunC.fin ?_
            have hR := Option.some.inj hR; subst hR
            exact Weak.turnL [(0, 0), (1, 0)] [] rfl rfl (tc (trS' rfl rfl rfl rfl rfl) (tc (.sc _) (tc (.sc _) (tc (.fn (.cons (trP' rfl rfl rfl rfl) (.nil))) (tc (.sc _) (tc (.sc _) (tc (.sc _) tn))))))) (mc rfl (btrA' rfl) (mc rfl (.box rfl (.cons (.sc _) (.cons (.sc _) (.cons trR1 (.nil)))) rfl) mn))
          · refine sk (skW rfl rfl rfl h7) ?_
            refine sk (skW rfl rfl rfl h7) ?_
            refine sk (skW rfl rfl rfl h7) ?_
            refine sk (skW rfl rfl rfl h7) ?_
            refine sk (skW rfl rfl rfl h7) ?_
            refine sk (skW rfl rfl rfl h7) ?_
            refine sk (skW rfl rfl rfl h7) ?_
            refine sk (skW rfl rfl rfl h7) ?_
            refine sk (skW rfl rfl rfl h7) ?_
            refine sk (skW rfl rfl rfl h7) ?_
            refine sk (skW rfl rfl rfl h7) ?_
            refine sk (skW rfl rfl rfl h7) ?_
            refine pkF (v := .sc (.bool false)) rfl rfl h7 rfl ?_
            refine RunC.fin ?_
            have hR := Option.some.inj hR; subst hR
            exact Weak.turnL [(0, 0), (1, 0)] [] rfl rfl (tc (trS' rfl rfl rfl rfl rfl) (tc (.sc _) (tc (.sc _) (tc (.fn (.cons (trP' rfl rfl rfl rfl) (.nil))) (tc (.sc _) (tc (.sc _) (tc (.sc _) tn))))))) (mc rfl (btrA' rfl) (mc rfl (.box rfl (.cons (.sc _) (.cons (.sc _) (.cons trR1 (.nil)))) rfl) mn))
        · refine AWP.cd hR rfl (fun h11 hR => ?_) fun h11 hR => ?_
          · refine AWP.skip ?_
            refine skT ?_
            refine AWP.sq ?_
            refine AWP.block ?_
            refine AWP.rgD 74 [0, 0, 0, 0, 8, 0, 0, 64, 224, 480, 0, 0, 3072, 7168, 16355, 32739, 65535, 131071] ⟨[], [none, none, none, none, none, none, none, none, none, some [0], none, none, none, some [0], none, some [0], none, some [0]]⟩ hmix (by kernel_rfl) rfl rfl ?_
            refine pu (v := slV Int _ _ _ _) rfl rfl (fun _ => rfl) ?_
            refine pu (v := .sc _) rfl rfl (fun _ => rfl) ?_
            refine pu (v := slV Int _ _ _ _) rfl rfl (fun _ => rfl) ?_
            refine pu (v := .sc _) rfl rfl (fun _ => rfl) ?_
            refine pu (v := .sc _) rfl rfl (fun _ => rfl) ?_
            refine pu (v := slV Int _ _ _ _) rfl rfl (fun _ => rfl) ?_
            refine pu (v := .sc _) rfl rfl (fun _ => rfl) ?_
            refine pu (v := .sc _) rfl rfl (fun _ => rfl) ?_
            obtain ⟨h12, hR⟩ := chkE hR
            refine ixS0 (α := Int) rfl rfl rfl ti22 rfl ti3 rfl h12 ?_
            refine ldE (α := Int) (v := .sc _) rfl rfl rfl (ixlt h12) ti3 rfl rfl rfl rfl ?_
            refine pu (v := slV Int _ _ _ _) rfl rfl (fun _ => rfl) ?_
            refine pu (v := .sc _) rfl rfl (fun _ => rfl) ?_
            obtain ⟨h13, hR⟩ := chkE hR
            refine ixS0 (α := Int) rfl rfl rfl ti22 rfl ti3 rfl h13 ?_
            refine ldE (α := Int) (v := .sc _) rfl rfl rfl (ixlt h13) ti3 rfl rfl rfl rfl ?_
            refine ixS0 (α := Int) rfl rfl rfl ti22 rfl ti3 rfl h13 ?_
            refine stE (α := Int) (y := gt s4.1 (w6 (s4.2 - 1))) rfl rfl rfl (ixlt h13) ti3 rfl rfl rfl rfl rfl ?_
            refine ixS0 (α := Int) rfl rfl rfl ti22 rfl ti3 rfl h12 ?_
            obtain ⟨v14, ev14, hR⟩ := letE hR
            refine stE (α := Int) (y := gt s4.1 s4.2) rfl rfl rfl (by first | exact ixlt h12 | (simp only [List.length_set]; exact ixlt h12)) ti3 rfl rfl rfl rfl rfl ?_
            rw [ev14]
            refine RunC.blk ?_
            refine RunC.fin ?_
            refine AWP.rgC 86 rfl rfl ?_
            refine pu (v := .sc _) rfl rfl (fun _ => rfl) ?_
            refine pu (v := .sc _) rfl rfl (fun _ => rfl) ?_
            refine pu (v := .sc _) rfl rfl (fun _ => rfl) ?_
            refine RunC.fin ?_
            refine ⟨(v14, w6 (s4.2 - 1)), (Option.some.inj hR).symm, ?_⟩
            exact Weak.turnL [(0, 0), (1, 0)] [] rfl rfl (tc (trS' rfl rfl rfl rfl (by subst ev14; simp only [List.length_set])) (tc (.sc _) (tc (.sc _) (tc (.fn (.cons (trP' rfl rfl rfl rfl) (.nil))) (tc (.sc _) (tc (.sc _) tn)))))) (mc rfl (btrA' rfl) (mc rfl (.box rfl (.cons (.sc _) (.cons (.sc _) (.cons trR1 (.nil)))) rfl) mn))
          · refine AWP.exit ?_
            refine exT ?_
            refine exT ?_
            refine exH (skT ?_)
            refine ⟨s4.1, (Option.some.inj hR).symm, ?_⟩
            exact Weak.turnL [(0, 0), (1, 0)] [] rfl rfl (tc (trS' rfl rfl rfl rfl rfl) (tc (.sc _) (tc (.sc _) (tc (.fn (.cons (trP' rfl rfl rfl rfl) (.nil))) (tc (.sc _) tn))))) (mc rfl (btrA' rfl) (mc rfl (.box rfl (.cons (.sc _) (.cons (.sc _) (.cons trR1 (.nil)))) rfl) mn))
      · refine skB ?_
        refine skT ?_
        refine AWP.rgC 14 rfl rfl ?_
        refine pu (v := .sc _) rfl rfl (fun _ => rfl) ?_
        refine pu (v := .sc _) rfl rfl (fun _ => rfl) ?_
        refine pu (v := .sc _) rfl rfl (fun _ => rfl) ?_
        refine RunC.fin ?_
        refine ⟨(z5, w6 (s1.2 + 1)), (Option.some.inj hR).symm, ?_⟩
        exact Weak.turnL [(0, 0), (1, 0)] [] rfl rfl (tc (trS' rfl rfl rfl rfl rfl) (tc (.sc _) (tc (.sc _) (tc (.fn (.cons (trP' rfl rfl rfl rfl) (.nil))) (tc (.sc _) tn))))) (mc rfl (btrA' rfl) (mc rfl (.box rfl (.cons (.sc _) (.cons (.sc _) (.cons trR1 (.nil)))) rfl) mn))
    · refine AWP.exit ?_
      refine exT ?_
      refine exT ?_
      refine exH (skT ?_)
      refine ⟨s1.1, (Option.some.inj hR).symm, ?_⟩
      exact Weak.turnL [(0, 0), (1, 0)] [] rfl rfl tn (mc rfl (btrA' rfl) (mc rfl (.box rfl (.cons (.sc _) (.cons (.sc _) (.cons trR1 (.nil)))) rfl) mn))
  · have hR := Option.some.inj hR; subst hR
    exact hQ _ _ (LS.mk [] (lblks 0 [arrB (α := Int) 3 0 false z2, boxB (α := Cells) false cmpc0]) 2) (.tup []) [] (.inl rfl) (Weak.turnL [(0, 0), (1, 0)] [] rfl rfl tn (mc rfl (btrA' rfl) (mc rfl (.box rfl (.cons (.sc _) (.cons (.sc _) (.cons trR1 (.nil)))) rfl) mn))) (ro0 ) rfl rfl (.tup .nil) (pc rfl bldA (pc rfl bldB pn))
theorem ok77_31 (data : List Int) (a : Int) (b : Int) (n : Int) (cmpc0 : Cells) (r : (List Int)) (hR : slices_swapRangeCmpFunc_Int_find_Sure_1 data a b n cmpc0 = some r) : FnD Try.prog 77 [arrB 3 0 false data, boxB false cmpc0] [slV Int 0 0 0 data.length, .sc (.int .i64 a), .sc (.int .i64 b), .sc (.int .i64 n), .fn (.func 40) [.ptr 1 0 0]] (.tup []) [arrB 3 0 false r, boxB false cmpc0] := by
  refine FnX.walk Try.func77 rfl 38 2 (by simp [Try.ntmps77]) rfl fun W S F Q hQ => ?_
  unfold slices_swapRangeCmpFunc_Int_find_Sure_1 at hR
  refine AWP.sq ?_
  refine AWP.rgC 6 rfl rfl ?_
  refine pu (v := .sc _) rfl rfl (fun _ => rfl) ?_
  refine RunC.fin ?_
  refine AWP.loopJ (fun s1 : (List Int) × Int => LS.mk [(0, slV Int 0 0 0 s1.1.length), (1, .sc (.int .i64 a)), (2, .sc (.int .i64 b)), (3, .sc (.int .i64 n)), (10, .sc (.int .i64 s1.2))] (lblks 0 [arrB (α := Int) 3 0 false s1.1, boxB (α := Cells) false cmpc0]) 2) (fun z2 : (List Int) => LS.mk [] (lblks 0 [arrB (α := Int) 3 0 false z2, boxB (α := Cells) false cmpc0]) 2) (slices_swapRangeCmpFunc_Int_find_Sure_1.l1 a b n) hR (s0 := (data, 0)) (Weak.turnL [(0, 0), (1, 0)] [] rfl rfl (tc (trS' rfl rfl rfl rfl rfl) (tc (.sc _) (tc (.sc _) (tc (.sc _) (tc (.sc _) tn))))) (mc rfl (btrA' rfl) (mc rfl (.box rfl (.cons (.sc _) (.cons (.sc _) (.cons trR1 (.nil)))) rfl) mn))) (fun s1 o1 hR => ?_) fun z2 hR => ?_
  · unfold slices_swapRangeCmpFunc_Int_find_Sure_1.l1 at hR
    refine AWP.sq ?_
    refine AWP.sq ?_
    refine AWP.rgC 14 rfl rfl ?_
    refine pu (v := .sc _) rfl rfl (fun _ => rfl) ?_
    refine pu (v := .sc _) rfl rfl (fun _ => rfl) ?_
    refine pu (v := .sc _) rfl rfl (fun _ => rfl) ?_
    refine RunC.fin ?_
    refine AWP.cd hR rfl (fun h3 hR => ?_) fun h3 hR => ?_
    · refine AWP.skip ?_
      refine skT ?_
      refine AWP.sq ?_
      refine AWP.block ?_
      refine AWP.rgD 110 [0, 0, 0, 6, 0, 0, 0, 96, 0, 0, 0, 1536, 3840, 7936, 0, 0, 0, 98304, 245760, 507904, 1048335, 2096911, 4194303, 8388607] ⟨[], [none, none, none, none, none, none, none, none, none, none, none, none, none, some [0], none, none, none, none, none, some [0], none, some [0], none, some [0]]⟩ hmix (by kernel_rfl) rfl rfl ?_
      refine pu (v := slV Int _ _ _ _) rfl rfl (fun _ => rfl) ?_
      refine pu (v := .sc _) rfl rfl (fun _ => rfl) ?_
      refine pu (v := .sc _) rfl rfl (fun _ => rfl) ?_
      refine pu (v := .sc _) rfl rfl (fun _ => rfl) ?_
      refine pu (v := slV Int _ _ _ _) rfl rfl (fun _ => rfl) ?_
      refine pu (v := .sc _) rfl rfl (fun _ => rfl) ?_
      refine pu (v := .sc _) rfl rfl (fun _ => rfl) ?_
      refine pu (v := .sc _) rfl rfl (fun _ => rfl) ?_
      refine pu (v := slV Int _ _ _ _) rfl rfl (fun _ => rfl) ?_
      refine pu (v := .sc _) rfl rfl (fun _ => rfl) ?_
      refine pu (v := .sc _) rfl rfl (fun _ => rfl) ?_
      refine pu (v := .sc _) rfl rfl (fun _ => rfl) ?_
      obtain ⟨h4, hR⟩ := chkE hR
      refine ixS0 (α := Int) rfl rfl rfl ti22 rfl ti3 rfl h4 ?_
      refine ldE (α := Int) (v := .sc _) rfl rfl rfl (ixlt h4) ti3 rfl rfl rfl rfl ?_
      refine pu (v := slV Int _ _ _ _) rfl rfl (fun _ => rfl) ?_
      refine pu (v := .sc _) rfl rfl (fun _ => rfl) ?_
      refine pu (v := .sc _) rfl rfl (fun _ => rfl) ?_
      refine pu (v := .sc _) rfl rfl (fun _ => rfl) ?_
      obtain ⟨h5, hR⟩ := chkE hR
      refine ixS0 (α := Int) rfl rfl rfl ti22 rfl ti3 rfl h5 ?_
      refine ldE (α := Int) (v := .sc _) rfl rfl rfl (ixlt h5) ti3 rfl rfl rfl rfl ?_
      refine ixS0 (α := Int) rfl rfl rfl ti22 rfl ti3 rfl h5 ?_
      obtain ⟨v6, ev6, hR⟩ := letE hR
      refine stE (α := Int) (y := gt s1.1 (w6 (b + s1.2))) rfl rfl rfl (ixlt h5) ti3 rfl rfl rfl rfl rfl ?_
      rw [ev6]
      refine ixS0 (α := Int) rfl rfl rfl ti22 rfl ti3 rfl h4 ?_
      refine stE (α := Int) (y := gt s1.1 (w6 (a + s1.2))) rfl rfl rfl (by first | exact ixlt h4 | (subst ev6; simp only [List.length_set]; exact ixlt h4)) ti3 rfl rfl rfl rfl rfl ?_
      refine RunC.blk ?_
      refine RunC.fin ?_
      refine AWP.rgC 122 rfl rfl ?_
      refine pu (v := .sc _) rfl rfl (fun _ => rfl) ?_
      refine pu (v := .sc _) rfl rfl (fun _ => rfl) ?_
      refine pu (v := .sc _) rfl rfl (fun _ => rfl) ?_
      refine RunC.fin ?_
      refine ⟨(List.set v6 (w6 (b + s1.2)).toNat (gt s1.1 (w6 (a + s1.2))), w6 (s1.2 + 1)), (Option.some.inj hR).symm, ?_⟩
      exact Weak.turnL [(0, 0), (1, 0)] [] rfl rfl (tc (trS' rfl rfl rfl rfl (by subst ev6; simp only [List.length_set])) (tc (.sc _) (tc (.sc _) (tc (.sc _) (tc (.sc _) tn))))) (mc rfl (btrA' rfl) (mc rfl (.box rfl (.cons (.sc _) (.cons (.sc _) (.cons trR1 (.nil)))) rfl) mn))
    · refine AWP.exit ?_
      refine exT ?_
      refine exT ?_
      refine exH (skT ?_)
      refine ⟨s1.1, (Option.some.inj hR).symm, ?_⟩
      exact Weak.turnL [(0, 0), (1, 0)] [] rfl rfl tn (mc rfl (btrA' rfl) (mc rfl (.box rfl (.cons (.sc _) (.cons (.sc _) (.cons trR1 (.nil)))) rfl) mn))
  · have hR := Option.some.inj hR; subst hR
    exact hQ _ _ (LS.mk [] (lblks 0 [arrB (α := Int) 3 0 false z2, boxB (α := Cells) false cmpc0]) 2) (.tup []) [] (.inl rfl) (Weak.turnL [(0, 0), (1, 0)] [] rfl rfl tn (mc rfl (btrA' rfl) (mc rfl (.box rfl (.cons (.sc _) (.cons (.sc _) (.cons trR1 (.nil)))) rfl) mn))) (ro0 ) rfl rfl (.tup .nil) (pc rfl bldA (pc rfl bldB pn))
theorem ok75_32 (data : List Int) (a : Int) (m : Int) (b : Int) (cmpc0 : Cells) (r : (List Int)) (hR : slices_rotateCmpFunc_Int_find_Sure_1 data a m b cmpc0 = some r) : FnD Try.prog 75 [arrB 3 0 false data, boxB false cmpc0] [slV Int 0 0 0 data.length, .sc (.int .i64 a), .sc (.int .i64 m), .sc (.int .i64 b), .fn (.func 40) [.ptr 1 0 0]] (.tup []) [arrB 3 0 false r, boxB false cmpc0] := by
  refine FnX.walk Try.func75 rfl 58 2 (by simp [Try.ntmps75]) rfl fun W S F Q hQ => ?_
  unfold slices_rotateCmpFunc_Int_find_Sure_1 at hR
  refine AWP.sq ?_
  refine AWP.rgC 18 rfl rfl ?_
  refine pu (v := .sc _) rfl rfl (fun _ => rfl) ?_
  refine pu (v := .sc _) rfl rfl (fun _ => rfl) ?_
  refine pu (v := .sc _) rfl rfl (fun _ => rfl) ?_
  refine pu (v := .sc _) rfl rfl (fun _ => rfl) ?_
  refine RunC.fin ?_
  refine AWP.sq ?_
  refine AWP.rgC 34 rfl rfl ?_
  refine pu (v := .sc _) rfl rfl (fun _ => rfl) ?_
  refine pu (v := .sc _) rfl rfl (fun _ => rfl) ?_
  refine pu (v := .sc _) rfl rfl (fun _ => rfl) ?_
  refine pu (v := .sc _) rfl rfl (fun _ => rfl) ?_
  refine RunC.fin ?_
  refine AWP.sq ?_
  refine AWP.loopJ (fun s1 : (List Int) × Int × Int => LS.mk [(0, slV Int 0 0 0 s1.1.length), (2, .sc (.int .i64 m)), (4, .fn (.func 40) [.ptr 1 0 0]), (10, .sc (.int .i64 s1.2.1)), (11, .sc (.int .i64 s1.2.2))] (lblks 0 [arrB (α := Int) 3 0 false s1.1, boxB (α := Cells) false cmpc0]) 2) (fun z2 : (List Int) × Int => LS.mk [(0, slV Int 0 0 0 z2.1.length), (2, .sc (.int .i64 m)), (4, .fn (.func 40) [.ptr 1 0 0]), (10, .sc (.int .i64 z2.2))] (lblks 0 [arrB (α := Int) 3 0 false z2.1, boxB (α := Cells) false cmpc0]) 2) (slices_rotateCmpFunc_Int_find_Sure_1.l1 m cmpc0) hR (s0 := (data, w6 (m - a), w6 (b - m))) (Weak.turnL [(0, 0), (1, 0)] [] rfl rfl (tc (trS' rfl rfl rfl rfl rfl) (tc (.sc _) (tc (.fn (.cons (trP' rfl rfl rfl rfl) (.nil))) (tc (.sc _) (tc (.sc _) tn))))) (mc rfl (btrA' rfl) (mc rfl (.box rfl (.cons (.sc _) (.cons (.sc _) (.cons trR1 (.nil)))) rfl) mn))) (fun s1 o1 hR => ?_) fun z2 hR => ?_
  · unfold slices_rotateCmpFunc_Int_find_Sure_1.l1 at hR
    refine AWP.sq ?_
    refine AWP.sq ?_
    refine AWP.rgC 14 rfl rfl ?_
    refine pu (v := .sc _) rfl rfl (fun _ => rfl) ?_
    refine pu (v := .sc _) rfl rfl (fun _ => rfl) ?_
    refine pu (v := .sc _) rfl rfl (fun _ => rfl) ?_
    refine RunC.fin ?_
    refine AWP.cd hR rfl (fun h3 hR => ?_) fun h3 hR => ?_
    · refine AWP.skip ?_
      refine skT ?_
      refine AWP.block ?_
      refine AWP.sq ?_
      refine AWP.rgC 26 rfl rfl ?_
      refine pu (v := .sc _) rfl rfl (fun _ => rfl) ?_
      refine pu (v := .sc _) rfl rfl (fun _ => rfl) ?_
      refine pu (v := .sc _) rfl rfl (fun _ => rfl) ?_
      refine RunC.fin ?_
      refine AWP.cd hR rfl (fun h4 hR => ?_) fun h4 hR => ?_
      · refine AWP.sq ?_
        refine AWP.rgC 58 rfl rfl ?_
        refine pu (v := slV Int _ _ _ _) rfl rfl (fun _ => rfl) ?_
        refine pu (v := .sc _) rfl rfl (fun _ => rfl) ?_
        refine pu (v := .sc _) rfl rfl (fun _ => rfl) ?_
        refine pu (v := .sc _) rfl rfl (fun _ => rfl) ?_
        refine pu (v := .sc _) rfl rfl (fun _ => rfl) ?_
        refine pu (v := .sc _) rfl rfl (fun _ => rfl) ?_
        refine pu (v := .fn _ _) rfl rfl (fun _ => rfl) ?_
        obtain ⟨r5, hr5, hR⟩ := bindE hR
        obtain ⟨h6, hR⟩ := chkE hR
        refine cps (res' := .tup []) (ups := [(0, arrB (α := Int) 3 0 false r5), (1, boxB (α := Cells) false cmpc0)]) [0, 1] 54 rfl rfl rfl cb77 (ok77_31 s1.1 (w6 (m - s1.2.1)) m s1.2.2 cmpc0 _ hr5) (.cons (ldM rfl rfl) (.cons (.sc _) (.cons (.sc _) (.cons (.sc _) (.cons (.fn (.cons (ldP rfl rfl) (.nil))) (.nil)))))) (pc rfl bldA (pc rfl (.box (.cons (.sc _) (.cons (.sc _) (.cons ldR' (.nil)))) rfl) pn)) rfl rfl rfl rfl rfl (by first | rfl | exact renR | exact renA | exact renS | simp only [V.ren, V.rens, renR, renA, renS] | (simp only [V.ren, V.rens, renR, renA, renS]; rfl)) (by simp only [passUps, renBox, renArr]; rfl) ?_
        refine RunC.fin ?_
        refine AWP.rgC 74 rfl rfl ?_
        refine pu (v := .sc _) rfl rfl (fun _ => rfl) ?_
        refine pu (v := .sc _) rfl rfl (fun _ => rfl) ?_
        refine pu (v := .sc _) rfl rfl (fun _ => rfl) ?_
        refine pu (v := .sc _) rfl rfl (fun _ => rfl) ?_
        refine RunC.blk ?_
        refine RunC.fin ?_
        refine ⟨(r5, w6 (s1.2.1 - s1.2.2), s1.2.2), (Option.some.inj hR).symm, ?_⟩
        exact Weak.turnL [(0, 0), (1, 0)] [] rfl rfl (tc (trS' rfl rfl rfl rfl h6) (tc (.sc _) (tc (.fn (.cons (trP' rfl rfl rfl rfl) (.nil))) (tc (.sc _) (tc (.sc _) tn))))) (mc rfl (btrA' rfl) (mc rfl (.box rfl (.cons (.sc _) (.cons (.sc _) (.cons trR1 (.nil)))) rfl) mn))
      · refine AWP.sq ?_
        refine AWP.rgC 74 rfl rfl ?_
        refine pu (v := slV Int _ _ _ _) rfl rfl (fun _ => rfl) ?_
        refine pu (v := .sc _) rfl rfl (fun _ => rfl) ?_
        refine pu (v := .sc _) rfl rfl (fun _ => rfl) ?_
        refine pu (v := .sc _) rfl rfl (fun _ => rfl) ?_
        refine pu (v := .sc _) rfl rfl (fun _ => rfl) ?_
        refine pu (v := .sc _) rfl rfl (fun _ => rfl) ?_
        refine pu (v := .sc _) rfl rfl (fun _ => rfl) ?_
        refine pu (v := .sc _) rfl rfl (fun _ => rfl) ?_
        refine pu (v := .sc _) rfl rfl (fun _ => rfl) ?_
        refine pu (v := .sc _) rfl rfl (fun _ => rfl) ?_
        refine pu (v := .fn _ _) rfl rfl (fun _ => rfl) ?_
        obtain ⟨r7, hr7, hR⟩ := bindE hR
        obtain ⟨h8, hR⟩ := chkE hR
        refine cps (res' := .tup []) (ups := [(0, arrB (α := Int) 3 0 false r7), (1, boxB (α := Cells) false cmpc0)]) [0, 1] 70 rfl rfl rfl cb77 (ok77_31 s1.1 (w6 (m - s1.2.1)) (w6 ((w6 (m + s1.2.2)) - s1.2.1)) s1.2.1 cmpc0 _ hr7) (.cons (ldM rfl rfl) (.cons (.sc _) (.cons (.sc _) (.cons (.sc _) (.cons (.fn (.cons (ldP rfl rfl) (.nil))) (.nil)))))) (pc rfl bldA (pc rfl (.box (.cons (.sc _) (.cons (.sc _) (.cons ldR' (.nil)))) rfl) pn)) rfl rfl rfl rfl rfl (by first | rfl | exact renR | exact renA | exact renS | simp only [V.ren, V.rens, renR, renA, renS] | (simp only [V.ren, V.rens, renR, renA, renS]; rfl)) (by simp only [passUps, renBox, renArr]; rfl) ?_
        refine RunC.fin ?_
        refine AWP.rgC 90 rfl rfl ?_
        refine pu (v := .sc _) rfl rfl (fun _ => rfl) ?_
        refine pu (v := .sc _) rfl rfl (fun _ => rfl) ?_
        refine pu (v := .sc _) rfl rfl (fun _ => rfl) ?_
        refine pu (v := .sc _) rfl rfl (fun _ => rfl) ?_
        refine RunC.blk ?_
        refine RunC.fin ?_
        refine ⟨(r7, s1.2.1, w6 (s1.2.2 - s1.2.1)), (Option.some.inj hR).symm, ?_⟩
        exact Weak.turnL [(0, 0), (1, 0)] [] rfl rfl (tc (trS' rfl rfl rfl rfl h8) (tc (.sc _) (tc (.fn (.cons (trP' rfl rfl rfl rfl) (.nil))) (tc (.sc _) (tc (.sc _) tn))))) (mc rfl (btrA' rfl) (mc rfl (.box rfl (.cons (.sc _) (.cons (.sc _) (.cons trR1 (.nil)))) rfl) mn))
    · refine AWP.exit ?_
      refine exT ?_
      refine exT ?_
      refine exH (skT ?_)
      refine ⟨(s1.1, s1.2.1), (Option.some.inj hR).symm, ?_⟩
      exact Weak.turnL [(0, 0), (1, 0)] [] rfl rfl (tc (trS' rfl rfl rfl rfl rfl) (tc (.sc _) (tc (.fn (.cons (trP' rfl rfl rfl rfl) (.nil))) (tc (.sc _) tn)))) (mc rfl (btrA' rfl) (mc rfl (.box rfl (.cons (.sc _) (.cons (.sc _) (.cons trR1 (.nil)))) rfl) mn))
  · refine skT ?_
    refine AWP.rgC 34 rfl rfl ?_
    refine pu (v := slV Int _ _ _ _) rfl rfl (fun _ => rfl) ?_
    refine pu (v := .sc _) rfl rfl (fun _ => rfl) ?_
    refine pu (v := .sc _) rfl rfl (fun _ => rfl) ?_
    refine pu (v := .sc _) rfl rfl (fun _ => rfl) ?_
    refine pu (v := .sc _) rfl rfl (fun _ => rfl) ?_
    refine pu (v := .sc _) rfl rfl (fun _ => rfl) ?_
    refine pu (v := .fn _ _) rfl rfl (fun _ => rfl) ?_
    obtain ⟨r9, hr9, hR⟩ := bindE hR
    obtain ⟨h10, hR⟩ := chkE hR
    refine cps (res' := .tup []) (ups := [(0, arrB (α := Int) 3 0 false r9), (1, boxB (α := Cells) false cmpc0)]) [0, 1] 30 rfl rfl rfl cb77 (ok77_31 z2.1 (w6 (m - z2.2)) m z2.2 cmpc0 _ hr9) (.cons (ldM rfl rfl) (.cons (.sc _) (.cons (.sc _) (.cons (.sc _) (.cons (.fn (.cons (ldP rfl rfl) (.nil))) (.nil)))))) (pc rfl bldA (pc rfl (.box (.cons (.sc _) (.cons (.sc _) (.cons ldR' (.nil)))) rfl) pn)) rfl rfl rfl rfl rfl (by first | rfl | exact renR | exact renA | exact renS | simp only [V.ren, V.rens, renR, renA, renS] | (simp only [V.ren, V.rens, renR, renA, renS]; rfl)) (by simp only [passUps, renBox, renArr]; rfl) ?_
    refine RunC.nil ?_
    have hR := Option.some.inj hR; subst hR
    exact hQ _ _ (LS.mk [] (lblks 0 [arrB (α := Int) 3 0 false r9, boxB (α := Cells) false cmpc0]) 2) (.tup []) [] (.inl rfl) (Weak.turnL [(0, 0), (1, 0)] [] rfl rfl tn (mc rfl (btrA' rfl) (mc rfl (.box rfl (.cons (.sc _) (.cons (.sc _) (.cons trR1 (.nil)))) rfl) mn))) (ro0 ) rfl rfl (.tup .nil) (pc rfl bldA (pc rfl bldB pn))
end Go.Proofs.Cgr
