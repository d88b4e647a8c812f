/- Each function of the program computes its plain function. Conditions: as each theorem states them. -/
import Derived.Test.YtjbkinjdegllgaaT
import Derived.Test.YtjbkinjdegllgaaH
import Derived.Test.YtjbkinjdegllgaaF
import Derived.Test.YtjbkinjdegllgaaP0
namespace Go.Proofs.Cno
open Go Go.Abs Lf
set_option linter.unusedVariables false
set_option linter.unusedSimpArgs false
set_option maxRecDepth 100000
set_option maxHeartbeats 1000000
theorem ok62 : ∀ (fuel : Nat) (data : List Int) (a : Int) (m : Int) (b : Int) (cmpc0 : Cells) (r : (List Int)) (hR : slices_symMergeCmpFunc_Int_find_Sure_1 fuel data a m b cmpc0 = some r), FnD Try.prog 62 [arrB 3 0 false data] [slV Int 0 0 0 data.length, .sc (.int .i64 a), .sc (.int .i64 m), .sc (.int .i64 b), .fn (.func 34) [.rp (Cl.c false cmpc0)]] (.tup []) [arrB 3 0 false r] := by
  intro fuel
  induction fuel with
  | zero => intro data a m b cmpc0 r hR; exact nomatch (show none = some r from hR)
  | succ fuel ih =>
    intro data a m b cmpc0 r hR
    refine FnX.walk Try.func62 rfl 220 1 (by simp [Try.ntmps62]) rfl fun W S F Q hQ => ?_
    unfold slices_symMergeCmpFunc_Int_find_Sure_1 at hR
    refine AWP.sq ?_
    refine AWP.sq ?_
    refine AWP.rgC 17 rfl rfl ?_
    refine pu (v := .sc _) rfl rfl (fun _ => rfl) ?_
    refine pu (v := .sc _) rfl rfl (fun _ => rfl) ?_
    refine pu (v := .sc _) rfl rfl (fun _ => rfl) ?_
    refine pu (v := .sc _) rfl rfl (fun _ => rfl) ?_
    refine RunC.fin ?_
    refine AWP.cd hR rfl (fun h1 hR => ?_) fun h1 hR => ?_
    · refine AWP.sq ?_
      refine AWP.rgC 25 rfl rfl ?_
      refine pu (v := .sc _) rfl rfl (fun _ => rfl) ?_
      refine pu (v := .sc _) rfl rfl (fun _ => rfl) ?_
      refine RunC.fin ?_
      refine AWP.sq ?_
      refine AWP.rgC 33 rfl rfl ?_
      refine pu (v := .sc _) rfl rfl (fun _ => rfl) ?_
      refine pu (v := .sc _) rfl rfl (fun _ => rfl) ?_
      refine RunC.fin ?_
      refine AWP.sq ?_
      refine AWP.loopJ (fun s2 : Int × Int => LS.mk [(0, slV Int 0 0 0 data.length), (1, .sc (.int .i64 a)), (4, .fn (.func 34) [.rp (Cl.c false (cmpc0 : Cells))]), (10, .sc (.int .i64 s2.1)), (11, .sc (.int .i64 s2.2))] (lblks 0 [arrB (α := Int) 3 0 false data]) 1) (fun z3 : Int => LS.mk [(0, slV Int 0 0 0 data.length), (1, .sc (.int .i64 a)), (10, .sc (.int .i64 z3))] (lblks 0 [arrB (α := Int) 3 0 false data]) 1) (slices_symMergeCmpFunc_Int_find_Sure_1.l1 data a cmpc0) hR (s0 := (m, b)) (Weak.turnL [(0, 0)] [] rfl rfl (tc (trS' rfl rfl rfl rfl rfl) (tc (.sc _) (tc (.fn (.cons (.rp (Cl.tr _ _ _ _ id) (Cl.leaf _ _)) (.nil))) (tc (.sc _) (tc (.sc _) tn))))) (mc rfl (btrA' rfl) mn)) (fun s2 o2 hR => ?_) fun z3 hR => ?_
      · unfold slices_symMergeCmpFunc_Int_find_Sure_1.l1 at hR
        refine AWP.sq ?_
        refine AWP.sq ?_
        refine AWP.rgC 13 rfl rfl ?_
        refine pu (v := .sc _) rfl rfl (fun _ => rfl) ?_
        refine pu (v := .sc _) rfl rfl (fun _ => rfl) ?_
        refine pu (v := .sc _) rfl rfl (fun _ => rfl) ?_
        refine RunC.fin ?_
        refine AWP.cd hR rfl (fun h4 hR => ?_) fun h4 hR => ?_
        · refine AWP.skip ?_
          refine skT ?_
          refine AWP.block ?_
          refine AWP.sq ?_
          refine AWP.rgC 41 rfl rfl ?_
          refine pu (v := .sc _) rfl rfl (fun _ => rfl) ?_
          refine pu (v := .sc _) rfl rfl (fun _ => rfl) ?_
          refine pu (v := .sc _) rfl rfl (fun _ => rfl) ?_
          refine cn rfl rfl ti3 rfl ti87 rfl rfl ?_
          refine pu (v := .sc _) rfl rfl (fun _ => rfl) ?_
          refine cn rfl rfl ti87 rfl ti3 rfl rfl ?_
          refine pu (v := .sc _) rfl rfl (fun _ => rfl) ?_
          refine RunC.fin ?_
          refine AWP.sq ?_
          refine AWP.rgD 85 [0, 0, 0, 6, 14, 0, 0, 96, 224, 511, 1023] ⟨[], [none, none, none, none, some [0], none, none, none, some [0], none, none]⟩ hmix (by kernel_rfl) rfl rfl ?_
          refine pu (v := .fn _ _) rfl rfl (fun _ => rfl) ?_
          refine pu (v := slV Int _ _ _ _) rfl rfl (fun _ => rfl) ?_
          refine pu (v := .sc _) rfl rfl (fun _ => rfl) ?_
          obtain ⟨h5, hR⟩ := chkE hR
          refine ixS0 (α := Int) rfl rfl rfl ti22 rfl ti3 rfl h5 ?_
          refine ldE (α := Int) (v := .sc _) rfl rfl rfl (ixlt h5) ti3 rfl rfl rfl rfl ?_
          refine pu (v := slV Int _ _ _ _) rfl rfl (fun _ => rfl) ?_
          refine pu (v := .sc _) rfl rfl (fun _ => rfl) ?_
          obtain ⟨h6, hR⟩ := chkE hR
          refine ixS0 (α := Int) rfl rfl rfl ti22 rfl ti3 rfl h6 ?_
          refine ldE (α := Int) (v := .sc _) rfl rfl rfl (ixlt h6) ti3 rfl rfl rfl rfl ?_
          obtain ⟨r7, hr7, hR⟩ := bindE hR
          refine cls [] rfl rfl cb34 (ok34 (gt data (w6 (Int.fdiv (IntKind.wrap .u64 (w6 (s2.1 + s2.2))) (2 ^ 1)))) (gt data a) cmpc0 _ hr7) (.cons (.sc _) (.cons (.sc _) (.cons (.rp (Cl.ld _ _ _) (Cl.leaf _ _)) (.nil)))) (.inr rfl) rfl ?_
          refine pu (v := .sc _) rfl rfl (fun _ => rfl) ?_
          refine RunC.fin ?_
          refine AWP.cd hR rfl (fun h8 hR => ?_) fun h8 hR => ?_
          · refine AWP.rgC 97 rfl rfl ?_
            refine pu (v := .sc _) rfl rfl (fun _ => rfl) ?_
            obtain ⟨v9, ev9, hR⟩ := letE hR
            refine pu (v := .sc _) rfl rfl (fun _ => puI ev9) ?_
            refine pu (v := .sc _) rfl rfl (fun _ => rfl) ?_
            refine RunC.blk ?_
            refine RunC.fin ?_
            refine ⟨(v9, s2.2), (Option.some.inj hR).symm, ?_⟩
            exact Weak.turnL [(0, 0)] [] rfl rfl (tc (trS' rfl rfl rfl rfl rfl) (tc (.sc _) (tc (.fn (.cons (.rp (Cl.tr _ _ _ _ id) (Cl.leaf _ _)) (.nil))) (tc (.sc _) (tc (.sc _) tn))))) (mc rfl (btrA' rfl) mn)
          · refine AWP.rgC 93 rfl rfl ?_
            refine pu (v := .sc _) rfl rfl (fun _ => rfl) ?_
            refine pu (v := .sc _) rfl rfl (fun _ => rfl) ?_
            refine RunC.blk ?_
            refine RunC.fin ?_
            refine ⟨(s2.1, w6 (Int.fdiv (IntKind.wrap .u64 (w6 (s2.1 + s2.2))) (2 ^ 1))), (Option.some.inj hR).symm, ?_⟩
            exact Weak.turnL [(0, 0)] [] rfl rfl (tc (trS' rfl rfl rfl rfl rfl) (tc (.sc _) (tc (.fn (.cons (.rp (Cl.tr _ _ _ _ id) (Cl.leaf _ _)) (.nil))) (tc (.sc _) (tc (.sc _) tn))))) (mc rfl (btrA' rfl) mn)
        · refine AWP.exit ?_
          refine exT ?_
          refine exT ?_
          refine exH (skT ?_)
          refine ⟨s2.1, (Option.some.inj hR).symm, ?_⟩
          exact Weak.turnL [(0, 0)] [] rfl rfl (tc (trS' rfl rfl rfl rfl rfl) (tc (.sc _) (tc (.sc _) tn))) (mc rfl (btrA' rfl) mn)
      · refine skT ?_
        refine AWP.sq ?_
        refine AWP.sq ?_
        refine AWP.rgC 9 rfl rfl ?_
        refine pu (v := .sc _) rfl rfl (fun _ => rfl) ?_
        refine pu (v := .sc _) rfl rfl (fun _ => rfl) ?_
        refine RunC.fin ?_
        refine AWP.loopJ (fun s10 : (List Int) × Int => LS.mk [(0, slV Int 0 0 0 s10.1.length), (10, .sc (.int .i64 z3)), (13, .sc (.int .i64 s10.2))] (lblks 0 [arrB (α := Int) 3 0 false s10.1]) 1) (fun z11 : (List Int) => LS.mk [] (lblks 0 [arrB (α := Int) 3 0 false z11]) 1) (slices_symMergeCmpFunc_Int_find_Sure_1.l2 z3) hR (s0 := (data, a)) (Weak.turnL [(0, 0)] [] rfl rfl (tc (trS' rfl rfl rfl rfl rfl) (tc (.sc _) (tc (.sc _) tn))) (mc rfl (btrA' rfl) mn)) (fun s10 o10 hR => ?_) fun z11 hR => ?_
        · unfold slices_symMergeCmpFunc_Int_find_Sure_1.l2 at hR
          refine AWP.sq ?_
          refine AWP.sq ?_
          refine AWP.rgC 17 rfl rfl ?_
          refine pu (v := .sc _) rfl rfl (fun _ => rfl) ?_
          refine pu (v := .sc _) rfl rfl (fun _ => rfl) ?_
          refine pu (v := .sc _) rfl rfl (fun _ => rfl) ?_
          refine pu (v := .sc _) rfl rfl (fun _ => rfl) ?_
          refine RunC.fin ?_
          refine AWP.cd hR rfl (fun h12 hR => ?_) fun h12 hR => ?_
          · refine AWP.skip ?_
            refine skT ?_
            refine AWP.sq ?_
            refine AWP.block ?_
            refine AWP.rgD 89 [0, 0, 0, 0, 8, 0, 0, 64, 224, 480, 0, 0, 3072, 7168, 16355, 32739, 65535, 131071] ⟨[], [none, none, none, none, none, none, none, none, none, some [0], none, none, none, some [0], none, some [0], none, some [0]]⟩ hmix (by kernel_rfl) rfl rfl ?_
            refine pu (v := slV Int _ _ _ _) rfl rfl (fun _ => rfl) ?_
            refine pu (v := .sc _) rfl rfl (fun _ => rfl) ?_
            refine pu (v := slV Int _ _ _ _) rfl rfl (fun _ => rfl) ?_
            refine pu (v := .sc _) rfl rfl (fun _ => rfl) ?_
            refine pu (v := .sc _) rfl rfl (fun _ => rfl) ?_
            refine pu (v := slV Int _ _ _ _) rfl rfl (fun _ => rfl) ?_
            refine pu (v := .sc _) rfl rfl (fun _ => rfl) ?_
            refine pu (v := .sc _) rfl rfl (fun _ => rfl) ?_
            obtain ⟨h13, hR⟩ := chkE hR
            refine ixS0 (α := Int) rfl rfl rfl ti22 rfl ti3 rfl h13 ?_
            refine ldE (α := Int) (v := .sc _) rfl rfl rfl (ixlt h13) ti3 rfl rfl rfl rfl ?_
            refine pu (v := slV Int _ _ _ _) rfl rfl (fun _ => rfl) ?_
            refine pu (v := .sc _) rfl rfl (fun _ => rfl) ?_
            obtain ⟨h14, hR⟩ := chkE hR
            refine ixS0 (α := Int) rfl rfl rfl ti22 rfl ti3 rfl h14 ?_
            refine ldE (α := Int) (v := .sc _) rfl rfl rfl (ixlt h14) ti3 rfl rfl rfl rfl ?_
            refine ixS0 (α := Int) rfl rfl rfl ti22 rfl ti3 rfl h14 ?_
            refine stE (α := Int) (y := gt s10.1 (w6 (s10.2 + 1))) rfl rfl rfl (ixlt h14) ti3 rfl rfl rfl rfl rfl ?_
            refine ixS0 (α := Int) rfl rfl rfl ti22 rfl ti3 rfl h13 ?_
            obtain ⟨v15, ev15, hR⟩ := letE hR
            refine stE (α := Int) (y := gt s10.1 s10.2) rfl rfl rfl (by first | exact ixlt h13 | (simp only [List.length_set]; exact ixlt h13)) ti3 rfl rfl rfl rfl rfl ?_
            rw [ev15]
            refine RunC.blk ?_
            refine RunC.fin ?_
            refine AWP.rgC 101 rfl rfl ?_
            refine pu (v := .sc _) rfl rfl (fun _ => rfl) ?_
            refine pu (v := .sc _) rfl rfl (fun _ => rfl) ?_
            refine pu (v := .sc _) rfl rfl (fun _ => rfl) ?_
            refine RunC.fin ?_
            refine ⟨(v15, w6 (s10.2 + 1)), (Option.some.inj hR).symm, ?_⟩
            exact Weak.turnL [(0, 0)] [] rfl rfl (tc (trS' rfl rfl rfl rfl (by subst ev15; simp only [List.length_set])) (tc (.sc _) (tc (.sc _) tn))) (mc rfl (btrA' rfl) mn)
          · refine AWP.exit ?_
            refine exT ?_
            refine exT ?_
            refine exH (skT ?_)
            refine ⟨s10.1, (Option.some.inj hR).symm, ?_⟩
            exact Weak.turnL [(0, 0)] [] rfl rfl tn (mc rfl (btrA' rfl) mn)
        · refine skT ?_
          refine AWP.ret ?_
          refine rtT ?_
          have hR := Option.some.inj hR; subst hR
          exact hQ _ _ (LS.mk [] (lblks 0 [arrB (α := Int) 3 0 false z11]) 1) (.tup []) [] (.inr rfl) (Weak.turnL [(0, 0)] [] rfl rfl tn (mc rfl (btrA' rfl) mn)) (ro0 ) rfl rfl (.tup .nil) (pc rfl bldA pn)
    · refine AWP.skip ?_
      refine skT ?_
      refine AWP.sq ?_
      refine AWP.sq ?_
      refine AWP.rgC 33 rfl rfl ?_
      refine pu (v := .sc _) rfl rfl (fun _ => rfl) ?_
      refine pu (v := .sc _) rfl rfl (fun _ => rfl) ?_
      refine pu (v := .sc _) rfl rfl (fun _ => rfl) ?_
      refine pu (v := .sc _) rfl rfl (fun _ => rfl) ?_
      refine RunC.fin ?_
      refine AWP.cd hR rfl (fun h16 hR => ?_) fun h16 hR => ?_
      · refine AWP.sq ?_
        refine AWP.rgC 41 rfl rfl ?_
        refine pu (v := .sc _) rfl rfl (fun _ => rfl) ?_
        refine pu (v := .sc _) rfl rfl (fun _ => rfl) ?_
        refine RunC.fin ?_
        refine AWP.sq ?_
        refine AWP.rgC 49 rfl rfl ?_
        refine pu (v := .sc _) rfl rfl (fun _ => rfl) ?_
        refine pu (v := .sc _) rfl rfl (fun _ => rfl) ?_
        refine RunC.fin ?_
        refine AWP.sq ?_
        refine AWP.loopJ (fun s17 : Int × Int => LS.mk [(0, slV Int 0 0 0 data.length), (2, .sc (.int .i64 m)), (4, .fn (.func 34) [.rp (Cl.c false (cmpc0 : Cells))]), (14, .sc (.int .i64 s17.1)), (15, .sc (.int .i64 s17.2))] (lblks 0 [arrB (α := Int) 3 0 false data]) 1) (fun z18 : Int => LS.mk [(0, slV Int 0 0 0 data.length), (2, .sc (.int .i64 m)), (14, .sc (.int .i64 z18))] (lblks 0 [arrB (α := Int) 3 0 false data]) 1) (slices_symMergeCmpFunc_Int_find_Sure_1.l3 data m cmpc0) hR (s0 := (a, m)) (Weak.turnL [(0, 0)] [] rfl rfl (tc (trS' rfl rfl rfl rfl rfl) (tc (.sc _) (tc (.fn (.cons (.rp (Cl.tr _ _ _ _ id) (Cl.leaf _ _)) (.nil))) (tc (.sc _) (tc (.sc _) tn))))) (mc rfl (btrA' rfl) mn)) (fun s17 o17 hR => ?_) fun z18 hR => ?_
        · unfold slices_symMergeCmpFunc_Int_find_Sure_1.l3 at hR
          refine AWP.sq ?_
          refine AWP.sq ?_
          refine AWP.rgC 13 rfl rfl ?_
          refine pu (v := .sc _) rfl rfl (fun _ => rfl) ?_
          refine pu (v := .sc _) rfl rfl (fun _ => rfl) ?_
          refine pu (v := .sc _) rfl rfl (fun _ => rfl) ?_
          refine RunC.fin ?_
          refine AWP.cd hR rfl (fun h19 hR => ?_) fun h19 hR => ?_
          · refine AWP.skip ?_
            refine skT ?_
            refine AWP.block ?_
            refine AWP.sq ?_
            refine AWP.rgC 41 rfl rfl ?_
            refine pu (v := .sc _) rfl rfl (fun _ => rfl) ?_
            refine pu (v := .sc _) rfl rfl (fun _ => rfl) ?_
            refine pu (v := .sc _) rfl rfl (fun _ => rfl) ?_
            refine cn rfl rfl ti3 rfl ti87 rfl rfl ?_
            refine pu (v := .sc _) rfl rfl (fun _ => rfl) ?_
            refine cn rfl rfl ti87 rfl ti3 rfl rfl ?_
            refine pu (v := .sc _) rfl rfl (fun _ => rfl) ?_
            refine RunC.fin ?_
            refine AWP.sq ?_
            refine AWP.rgD 89 [0, 0, 0, 6, 14, 0, 0, 96, 224, 511, 1023, 2047] ⟨[], [none, none, none, none, some [0], none, none, none, some [0], none, none, none]⟩ hmix (by kernel_rfl) rfl rfl ?_
            refine pu (v := .fn _ _) rfl rfl (fun _ => rfl) ?_
            refine pu (v := slV Int _ _ _ _) rfl rfl (fun _ => rfl) ?_
            refine pu (v := .sc _) rfl rfl (fun _ => rfl) ?_
            obtain ⟨h20, hR⟩ := chkE hR
            refine ixS0 (α := Int) rfl rfl rfl ti22 rfl ti3 rfl h20 ?_
            refine ldE (α := Int) (v := .sc _) rfl rfl rfl (ixlt h20) ti3 rfl rfl rfl rfl ?_
            refine pu (v := slV Int _ _ _ _) rfl rfl (fun _ => rfl) ?_
            refine pu (v := .sc _) rfl rfl (fun _ => rfl) ?_
            obtain ⟨h21, hR⟩ := chkE hR
            refine ixS0 (α := Int) rfl rfl rfl ti22 rfl ti3 rfl h21 ?_
            refine ldE (α := Int) (v := .sc _) rfl rfl rfl (ixlt h21) ti3 rfl rfl rfl rfl ?_
            obtain ⟨r22, hr22, hR⟩ := bindE hR
            refine cls [] rfl rfl cb34 (ok34 (gt data m) (gt data (w6 (Int.fdiv (IntKind.wrap .u64 (w6 (s17.1 + s17.2))) (2 ^ 1)))) cmpc0 _ hr22) (.cons (.sc _) (.cons (.sc _) (.cons (.rp (Cl.ld _ _ _) (Cl.leaf _ _)) (.nil)))) (.inr rfl) rfl ?_
            refine pu (v := .sc _) rfl rfl (fun _ => rfl) ?_
            refine pu (v := .sc _) rfl rfl (fun _ => rfl) ?_
            refine RunC.fin ?_
            refine AWP.cd hR rfl (fun h23 hR => ?_) fun h23 hR => ?_
            · refine AWP.rgC 101 rfl rfl ?_
              refine pu (v := .sc _) rfl rfl (fun _ => rfl) ?_
              obtain ⟨v24, ev24, hR⟩ := letE hR
              refine pu (v := .sc _) rfl rfl (fun _ => puI ev24) ?_
              refine pu (v := .sc _) rfl rfl (fun _ => rfl) ?_
              refine RunC.blk ?_
              refine RunC.fin ?_
              refine ⟨(v24, s17.2), (Option.some.inj hR).symm, ?_⟩
              exact Weak.turnL [(0, 0)] [] rfl rfl (tc (trS' rfl rfl rfl rfl rfl) (tc (.sc _) (tc (.fn (.cons (.rp (Cl.tr _ _ _ _ id) (Cl.leaf _ _)) (.nil))) (tc (.sc _) (tc (.sc _) tn))))) (mc rfl (btrA' rfl) mn)
            · refine AWP.rgC 97 rfl rfl ?_
              refine pu (v := .sc _) rfl rfl (fun _ => rfl) ?_
              refine pu (v := .sc _) rfl rfl (fun _ => rfl) ?_
              refine RunC.blk ?_
              refine RunC.fin ?_
              refine ⟨(s17.1, w6 (Int.fdiv (IntKind.wrap .u64 (w6 (s17.1 + s17.2))) (2 ^ 1))), (Option.some.inj hR).symm, ?_⟩
              exact Weak.turnL [(0, 0)] [] rfl rfl (tc (trS' rfl rfl rfl rfl rfl) (tc (.sc _) (tc (.fn (.cons (.rp (Cl.tr _ _ _ _ id) (Cl.leaf _ _)) (.nil))) (tc (.sc _) (tc (.sc _) tn))))) (mc rfl (btrA' rfl) mn)
          · refine AWP.exit ?_
            refine exT ?_
            refine exT ?_
            refine exH (skT ?_)
            refine ⟨s17.1, (Option.some.inj hR).symm, ?_⟩
            exact Weak.turnL [(0, 0)] [] rfl rfl (tc (trS' rfl rfl rfl rfl rfl) (tc (.sc _) (tc (.sc _) tn))) (mc rfl (btrA' rfl) mn)
        · refine skT ?_
          refine AWP.sq ?_
          refine AWP.sq ?_
          refine AWP.rgC 9 rfl rfl ?_
          refine pu (v := .sc _) rfl rfl (fun _ => rfl) ?_
          refine pu (v := .sc _) rfl rfl (fun _ => rfl) ?_
          refine RunC.fin ?_
          refine AWP.loopJ (fun s25 : (List Int) × Int => LS.mk [(0, slV Int 0 0 0 s25.1.length), (14, .sc (.int .i64 z18)), (17, .sc (.int .i64 s25.2))] (lblks 0 [arrB (α := Int) 3 0 false s25.1]) 1) (fun z26 : (List Int) => LS.mk [] (lblks 0 [arrB (α := Int) 3 0 false z26]) 1) (slices_symMergeCmpFunc_Int_find_Sure_1.l4 z18) hR (s0 := (data, m)) (Weak.turnL [(0, 0)] [] rfl rfl (tc (trS' rfl rfl rfl rfl rfl) (tc (.sc _) (tc (.sc _) tn))) (mc rfl (btrA' rfl) mn)) (fun s25 o25 hR => ?_) fun z26 hR => ?_
          · unfold slices_symMergeCmpFunc_Int_find_Sure_1.l4 at hR
            refine AWP.sq ?_
            refine AWP.sq ?_
            refine AWP.rgC 13 rfl rfl ?_
            refine pu (v := .sc _) rfl rfl (fun _ => rfl) ?_
            refine pu (v := .sc _) rfl rfl (fun _ => rfl) ?_
            refine pu (v := .sc _) rfl rfl (fun _ => rfl) ?_
            refine RunC.fin ?_
            refine AWP.cd hR rfl (fun h27 hR => ?_) fun h27 hR => ?_
            · refine AWP.skip ?_
              refine skT ?_
              refine AWP.sq ?_
              refine AWP.block ?_
              refine AWP.rgD 85 [0, 0, 0, 0, 8, 0, 0, 64, 224, 480, 0, 0, 3072, 7168, 16355, 32739, 65535, 131071] ⟨[], [none, none, none, none, none, none, none, none, none, some [0], none, none, none, some [0], none, some [0], none, some [0]]⟩ hmix (by kernel_rfl) rfl rfl ?_
              refine pu (v := slV Int _ _ _ _) rfl rfl (fun _ => rfl) ?_
              refine pu (v := .sc _) rfl rfl (fun _ => rfl) ?_
              refine pu (v := slV Int _ _ _ _) rfl rfl (fun _ => rfl) ?_
              refine pu (v := .sc _) rfl rfl (fun _ => rfl) ?_
              refine pu (v := .sc _) rfl rfl (fun _ => rfl) ?_
              refine pu (v := slV Int _ _ _ _) rfl rfl (fun _ => rfl) ?_
              refine pu (v := .sc _) rfl rfl (fun _ => rfl) ?_
              refine pu (v := .sc _) rfl rfl (fun _ => rfl) ?_
              obtain ⟨h28, hR⟩ := chkE hR
              refine ixS0 (α := Int) rfl rfl rfl ti22 rfl ti3 rfl h28 ?_
              refine ldE (α := Int) (v := .sc _) rfl rfl rfl (ixlt h28) ti3 rfl rfl rfl rfl ?_
              refine pu (v := slV Int _ _ _ _) rfl rfl (fun _ => rfl) ?_
              refine pu (v := .sc _) rfl rfl (fun _ => rfl) ?_
              obtain ⟨h29, hR⟩ := chkE hR
              refine ixS0 (α := Int) rfl rfl rfl ti22 rfl ti3 rfl h29 ?_
              refine ldE (α := Int) (v := .sc _) rfl rfl rfl (ixlt h29) ti3 rfl rfl rfl rfl ?_
              refine ixS0 (α := Int) rfl rfl rfl ti22 rfl ti3 rfl h29 ?_
              refine stE (α := Int) (y := gt s25.1 (w6 (s25.2 - 1))) rfl rfl rfl (ixlt h29) ti3 rfl rfl rfl rfl rfl ?_
              refine ixS0 (α := Int) rfl rfl rfl ti22 rfl ti3 rfl h28 ?_
              obtain ⟨v30, ev30, hR⟩ := letE hR
              refine stE (α := Int) (y := gt s25.1 s25.2) rfl rfl rfl (by first | exact ixlt h28 | (simp only [List.length_set]; exact ixlt h28)) ti3 rfl rfl rfl rfl rfl ?_
              rw [ev30]
              refine RunC.blk ?_
              refine RunC.fin ?_
              refine AWP.rgC 97 rfl rfl ?_
              refine pu (v := .sc _) rfl rfl (fun _ => rfl) ?_
              refine pu (v := .sc _) rfl rfl (fun _ => rfl) ?_
              refine pu (v := .sc _) rfl rfl (fun _ => rfl) ?_
              refine RunC.fin ?_
              refine ⟨(v30, w6 (s25.2 - 1)), (Option.some.inj hR).symm, ?_⟩
              exact Weak.turnL [(0, 0)] [] rfl rfl (tc (trS' rfl rfl rfl rfl (by subst ev30; simp only [List.length_set])) (tc (.sc _) (tc (.sc _) tn))) (mc rfl (btrA' rfl) mn)
            · refine AWP.exit ?_
              refine exT ?_
              refine exT ?_
              refine exH (skT ?_)
              refine ⟨s25.1, (Option.some.inj hR).symm, ?_⟩
              exact Weak.turnL [(0, 0)] [] rfl rfl tn (mc rfl (btrA' rfl) mn)
          · refine skT ?_
            refine AWP.ret ?_
            refine rtT ?_
            have hR := Option.some.inj hR; subst hR
            exact hQ _ _ (LS.mk [] (lblks 0 [arrB (α := Int) 3 0 false z26]) 1) (.tup []) [] (.inr rfl) (Weak.turnL [(0, 0)] [] rfl rfl tn (mc rfl (btrA' rfl) mn)) (ro0 ) rfl rfl (.tup .nil) (pc rfl bldA pn)
      · refine AWP.skip ?_
        refine skT ?_
        refine AWP.sq ?_
        refine AWP.rgC 61 rfl rfl ?_
        refine pu (v := .sc _) rfl rfl (fun _ => rfl) ?_
        refine pu (v := .sc _) rfl rfl (fun _ => rfl) ?_
        refine pu (v := .sc _) rfl rfl (fun _ => rfl) ?_
        refine cn rfl rfl ti3 rfl ti87 rfl rfl ?_
        refine pu (v := .sc _) rfl rfl (fun _ => rfl) ?_
        refine cn rfl rfl ti87 rfl ti3 rfl rfl ?_
        refine pu (v := .sc _) rfl rfl (fun _ => rfl) ?_
        refine RunC.fin ?_
        refine AWP.sq ?_
        refine AWP.rgC 77 rfl rfl ?_
        refine pu (v := .sc _) rfl rfl (fun _ => rfl) ?_
        refine pu (v := .sc _) rfl rfl (fun _ => rfl) ?_
        obtain ⟨v31, ev31, hR⟩ := letE hR
        refine pu (v := .sc _) rfl rfl (fun _ => puI ev31) ?_
        refine pu (v := .sc _) rfl rfl (fun _ => rfl) ?_
        refine RunC.fin ?_
        refine AWP.sq ?_
        refine AWP.rgC 85 rfl rfl ?_
        refine pu (v := .sc _) rfl rfl (fun _ => rfl) ?_
        refine pu (v := .sc _) rfl rfl (fun _ => rfl) ?_
        refine RunC.fin ?_
        refine AWP.sq ?_
        refine AWP.sq ?_
        refine AWP.rgC 97 rfl rfl ?_
        refine pu (v := .sc _) rfl rfl (fun _ => rfl) ?_
        refine pu (v := .sc _) rfl rfl (fun _ => rfl) ?_
        obtain ⟨v32, ev32, hR⟩ := letE hR
        refine pu (v := .sc _) rfl rfl (fun _ => puB ev32) ?_
        refine RunC.fin ?_
        refine AWP.cd hR rfl (fun h33 hR => ?_) fun h33 hR => ?_
        · refine AWP.sq ?_
          refine AWP.rgC 113 rfl rfl ?_
          refine pu (v := .sc _) rfl rfl (fun _ => rfl) ?_
          refine pu (v := .sc _) rfl rfl (fun _ => rfl) ?_
          refine pu (v := .sc _) rfl rfl (fun _ => rfl) ?_
          refine pu (v := .sc _) rfl rfl (fun _ => rfl) ?_
          refine RunC.fin ?_
          refine AWP.rgC 121 rfl rfl ?_
          refine pu (v := .sc _) rfl rfl (fun _ => rfl) ?_
          refine pu (v := .sc _) rfl rfl (fun _ => rfl) ?_
          refine RunC.fin ?_
          refine AWP.sq ?_
          refine AWP.rgC 133 rfl rfl ?_
          refine pu (v := .sc _) rfl rfl (fun _ => rfl) ?_
          refine pu (v := .sc _) rfl rfl (fun _ => rfl) ?_
          refine pu (v := .sc _) rfl rfl (fun _ => rfl) ?_
          refine RunC.fin ?_
          refine AWP.sq ?_
          refine AWP.loopJ (fun s34 : Int × Int => LS.mk [(0, slV Int 0 0 0 data.length), (1, .sc (.int .i64 a)), (2, .sc (.int .i64 m)), (3, .sc (.int .i64 b)), (4, .fn (.func 34) [.rp (Cl.c false (cmpc0 : Cells))]), (18, .sc (.int .i64 (w6 (Int.fdiv (IntKind.wrap .u64 (w6 (a + b))) (2 ^ 1))))), (19, .sc (.int .i64 v31)), (20, .sc (.int .i64 s34.1)), (21, .sc (.int .i64 s34.2)), (22, .sc (.int .i64 (w6 (v31 - 1))))] (lblks 0 [arrB (α := Int) 3 0 false data]) 1) (fun z35 : Int => LS.mk [(0, slV Int 0 0 0 data.length), (1, .sc (.int .i64 a)), (2, .sc (.int .i64 m)), (3, .sc (.int .i64 b)), (4, .fn (.func 34) [.rp (Cl.c false (cmpc0 : Cells))]), (18, .sc (.int .i64 (w6 (Int.fdiv (IntKind.wrap .u64 (w6 (a + b))) (2 ^ 1))))), (19, .sc (.int .i64 v31)), (20, .sc (.int .i64 z35))] (lblks 0 [arrB (α := Int) 3 0 false data]) 1) (slices_symMergeCmpFunc_Int_find_Sure_1.l5 data cmpc0 v31) hR (s0 := (w6 (v31 - b), w6 (Int.fdiv (IntKind.wrap .u64 (w6 (a + b))) (2 ^ 1)))) (Weak.turnL [(0, 0)] [] rfl rfl (tc (trS' rfl rfl rfl rfl rfl) (tc (.sc _) (tc (.sc _) (tc (.sc _) (tc (.fn (.cons (.rp (Cl.tr _ _ _ _ id) (Cl.leaf _ _)) (.nil))) (tc (.sc _) (tc (.sc _) (tc (.sc _) (tc (.sc _) (tc (.sc _) tn)))))))))) (mc rfl (btrA' rfl) mn)) (fun s34 o34 hR => ?_) fun z35 hR => ?_
          · unfold slices_symMergeCmpFunc_Int_find_Sure_1.l5 at hR
            refine AWP.sq ?_
            refine AWP.sq ?_
            refine AWP.rgC 13 rfl rfl ?_
            refine pu (v := .sc _) rfl rfl (fun _ => rfl) ?_
            refine pu (v := .sc _) rfl rfl (fun _ => rfl) ?_
            refine pu (v := .sc _) rfl rfl (fun _ => rfl) ?_
            refine RunC.fin ?_
            refine AWP.cd hR rfl (fun h36 hR => ?_) fun h36 hR => ?_
            · refine AWP.skip ?_
              refine skT ?_
              refine AWP.block ?_
              refine AWP.sq ?_
              refine AWP.rgC 41 rfl rfl ?_
              refine pu (v := .sc _) rfl rfl (fun _ => rfl) ?_
              refine pu (v := .sc _) rfl rfl (fun _ => rfl) ?_
              refine pu (v := .sc _) rfl rfl (fun _ => rfl) ?_
              refine cn rfl rfl ti3 rfl ti87 rfl rfl ?_
              refine pu (v := .sc _) rfl rfl (fun _ => rfl) ?_
              refine cn rfl rfl ti87 rfl ti3 rfl rfl ?_
              refine pu (v := .sc _) rfl rfl (fun _ => rfl) ?_
              refine RunC.fin ?_
              refine AWP.sq ?_
              refine AWP.rgD 97 [0, 0, 0, 0, 12, 30, 62, 0, 0, 384, 896, 2047, 4095, 8191] ⟨[], [none, none, none, none, none, none, some [0], none, none, none, some [0], none, none, none]⟩ hmix (by kernel_rfl) rfl rfl ?_
              refine pu (v := .fn _ _) rfl rfl (fun _ => rfl) ?_
              refine pu (v := slV Int _ _ _ _) rfl rfl (fun _ => rfl) ?_
              refine pu (v := .sc _) rfl rfl (fun _ => rfl) ?_
              refine pu (v := .sc _) rfl rfl (fun _ => rfl) ?_
              obtain ⟨v37, ev37, hR⟩ := letE hR
              refine pu (v := .sc _) rfl rfl (fun _ => puI ev37) ?_
              obtain ⟨h38, hR⟩ := chkE hR
              refine ixS0 (α := Int) rfl rfl rfl ti22 rfl ti3 rfl h38 ?_
              refine ldE (α := Int) (v := .sc _) rfl rfl rfl (ixlt h38) ti3 rfl rfl rfl rfl ?_
              refine pu (v := slV Int _ _ _ _) rfl rfl (fun _ => rfl) ?_
              refine pu (v := .sc _) rfl rfl (fun _ => rfl) ?_
              obtain ⟨h39, hR⟩ := chkE hR
              refine ixS0 (α := Int) rfl rfl rfl ti22 rfl ti3 rfl h39 ?_
              refine ldE (α := Int) (v := .sc _) rfl rfl rfl (ixlt h39) ti3 rfl rfl rfl rfl ?_
              obtain ⟨r40, hr40, hR⟩ := bindE hR
              refine cls [] rfl rfl cb34 (ok34 (gt data v37) (gt data (w6 (Int.fdiv (IntKind.wrap .u64 (w6 (s34.1 + s34.2))) (2 ^ 1)))) cmpc0 _ hr40) (.cons (.sc _) (.cons (.sc _) (.cons (.rp (Cl.ld _ _ _) (Cl.leaf _ _)) (.nil)))) (.inr rfl) rfl ?_
              refine pu (v := .sc _) rfl rfl (fun _ => rfl) ?_
              refine pu (v := .sc _) rfl rfl (fun _ => rfl) ?_
              refine RunC.fin ?_
              refine AWP.cd hR rfl (fun h41 hR => ?_) fun h41 hR => ?_
              · refine AWP.rgC 109 rfl rfl ?_
                refine pu (v := .sc _) rfl rfl (fun _ => rfl) ?_
                obtain ⟨v42, ev42, hR⟩ := letE hR
                refine pu (v := .sc _) rfl rfl (fun _ => puI ev42) ?_
                refine pu (v := .sc _) rfl rfl (fun _ => rfl) ?_
                refine RunC.blk ?_
                refine RunC.fin ?_
                refine ⟨(v42, s34.2), (Option.some.inj hR).symm, ?_⟩
                exact Weak.turnL [(0, 0)] [] rfl rfl (tc (trS' rfl rfl rfl rfl rfl) (tc (.sc _) (tc (.sc _) (tc (.sc _) (tc (.fn (.cons (.rp (Cl.tr _ _ _ _ id) (Cl.leaf _ _)) (.nil))) (tc (.sc _) (tc (.sc _) (tc (.sc _) (tc (.sc _) (tc (.sc _) tn)))))))))) (mc rfl (btrA' rfl) mn)
              · refine AWP.rgC 105 rfl rfl ?_
                refine pu (v := .sc _) rfl rfl (fun _ => rfl) ?_
                refine pu (v := .sc _) rfl rfl (fun _ => rfl) ?_
                refine RunC.blk ?_
                refine RunC.fin ?_
                refine ⟨(s34.1, w6 (Int.fdiv (IntKind.wrap .u64 (w6 (s34.1 + s34.2))) (2 ^ 1))), (Option.some.inj hR).symm, ?_⟩
                exact Weak.turnL [(0, 0)] [] rfl rfl (tc (trS' rfl rfl rfl rfl rfl) (tc (.sc _) (tc (.sc _) (tc (.sc _) (tc (.fn (.cons (.rp (Cl.tr _ _ _ _ id) (Cl.leaf _ _)) (.nil))) (tc (.sc _) (tc (.sc _) (tc (.sc _) (tc (.sc _) (tc (.sc _) tn)))))))))) (mc rfl (btrA' rfl) mn)
            · refine AWP.exit ?_
              refine exT ?_
              refine exT ?_
              refine exH (skT ?_)
              refine ⟨s34.1, (Option.some.inj hR).symm, ?_⟩
              exact Weak.turnL [(0, 0)] [] rfl rfl (tc (trS' rfl rfl rfl rfl rfl) (tc (.sc _) (tc (.sc _) (tc (.sc _) (tc (.fn (.cons (.rp (Cl.tr _ _ _ _ id) (Cl.leaf _ _)) (.nil))) (tc (.sc _) (tc (.sc _) (tc (.sc _) tn)))))))) (mc rfl (btrA' rfl) mn)
          · refine skT ?_
            refine AWP.sq ?_
            refine AWP.rgC 17 rfl rfl ?_
            refine pu (v := .sc _) rfl rfl (fun _ => rfl) ?_
            refine pu (v := .sc _) rfl rfl (fun _ => rfl) ?_
            refine pu (v := .sc _) rfl rfl (fun _ => rfl) ?_
            refine pu (v := .sc _) rfl rfl (fun _ => rfl) ?_
            refine RunC.fin ?_
            refine AWP.sq ?_
            refine AWP.joinX (fun z43 : Bool => LS.mk [(0, slV Int 0 0 0 data.length), (1, .sc (.int .i64 a)), (2, .sc (.int .i64 m)), (3, .sc (.int .i64 b)), (4, .fn (.func 34) [.rp (Cl.c false (cmpc0 : Cells))]), (18, .sc (.int .i64 (w6 (Int.fdiv (IntKind.wrap .u64 (w6 (a + b))) (2 ^ 1))))), (20, .sc (.int .i64 z35)), (24, .sc (.int .i64 (w6 (v31 - z35)))), (185, .sc (.bool z43))] (lblks 0 [arrB (α := Int) 3 0 false data]) 1) hR (fun o43 hR => ?_) fun z43 hR => ?_
            · refine AWP.rgC 49 rfl rfl ?_
              refine pu (v := .sc _) rfl rfl (fun _ => rfl) ?_
              refine pu (v := .sc _) rfl rfl (fun _ => rfl) ?_
              refine pu (v := .sc _) rfl rfl (fun _ => rfl) ?_
              refine pu (v := .sc _) rfl rfl (fun _ => rfl) ?_
              refine brR hR (fun h44 hR => ?_) fun h44 hR => ?_
              · refine pu (v := .sc _) (wtG rfl rfl rfl h44) rfl (fun _ => rfl) ?_
                refine pu (v := .sc _) (wtG rfl rfl rfl h44) rfl (fun _ => rfl) ?_
                refine pu (v := .sc _) (wtG rfl rfl rfl h44) rfl (fun _ => rfl) ?_
                refine pkT (v := .sc (.bool (decide (m < (w6 (v31 - z35)))))) rfl rfl h44 rfl ?_
                refine RunC.fin ?_
                have hR := Option.some.inj hR; subst hR
                exact Weak.turnL [(0, 0)] [] rfl rfl (tc (trS' rfl rfl rfl rfl rfl) (tc (.sc _) (tc (.sc _) (tc (.sc _) (tc (.fn (.cons (.rp (Cl.tr _ _ _ _ id) (Cl.leaf _ _)) (.nil))) (tc (.sc _) (tc (.sc _) (tc (.sc _) (tc (.sc _) tn))))))))) (mc rfl (btrA' rfl) mn)
              · refine sk (skW rfl rfl rfl h44) ?_
                refine sk (skW rfl rfl rfl h44) ?_
                refine sk (skW rfl rfl rfl h44) ?_
                refine pkF (v := .sc (.bool false)) rfl rfl h44 rfl ?_
                refine RunC.fin ?_
                have hR := Option.some.inj hR; subst hR
                exact Weak.turnL [(0, 0)] [] rfl rfl (tc (trS' rfl rfl rfl rfl rfl) (tc (.sc _) (tc (.sc _) (tc (.sc _) (tc (.fn (.cons (.rp (Cl.tr _ _ _ _ id) (Cl.leaf _ _)) (.nil))) (tc (.sc _) (tc (.sc _) (tc (.sc _) (tc (.sc _) tn))))))))) (mc rfl (btrA' rfl) mn)
            · refine AWP.cd hR rfl (fun h45 hR => ?_) fun h45 hR => ?_
              · refine AWP.rgC 25 rfl rfl ?_
                refine pu (v := slV Int _ _ _ _) rfl rfl (fun _ => rfl) ?_
                refine pu (v := .sc _) rfl rfl (fun _ => rfl) ?_
                refine pu (v := .sc _) rfl rfl (fun _ => rfl) ?_
                refine pu (v := .sc _) rfl rfl (fun _ => rfl) ?_
                refine pu (v := .fn _ _) rfl rfl (fun _ => rfl) ?_
                obtain ⟨r46, hr46, hR⟩ := bindE hR
                obtain ⟨h47, hR⟩ := chkE hR
                refine cps (res' := .tup []) (ups := [(0, arrB (α := Int) 3 0 false r46)]) [0] 21 rfl rfl rfl cb69 (ok69 data z35 m (w6 (v31 - z35)) cmpc0 _ hr46) (.cons (ldM rfl rfl) (.cons (.sc _) (.cons (.sc _) (.cons (.sc _) (.cons (.fn (.cons (.rp (Cl.ld _ _ _) (Cl.leaf _ _)) (.nil))) (.nil)))))) (pc rfl bldA pn) rfl rfl rfl rfl rfl (by first | rfl | exact renR | exact renA | exact renS | simp only [V.ren, V.rens, renR, renA, renS] | (simp only [V.ren, V.rens, renR, renA, renS]; rfl)) (by simp only [passUps, renBox, renArr]; rfl) ?_
                refine RunC.fin ?_
                refine AWP.sq ?_
                refine AWP.joinX (fun z48 : Bool => LS.mk [(0, slV Int 0 0 0 data.length), (1, .sc (.int .i64 a)), (3, .sc (.int .i64 b)), (4, .fn (.func 34) [.rp (Cl.c false (cmpc0 : Cells))]), (18, .sc (.int .i64 (w6 (Int.fdiv (IntKind.wrap .u64 (w6 (a + b))) (2 ^ 1))))), (20, .sc (.int .i64 z35)), (24, .sc (.int .i64 (w6 (v31 - z35)))), (199, .sc (.bool z48))] (lblks 0 [arrB (α := Int) 3 0 false r46]) 1) hR (fun o48 hR => ?_) fun z48 hR => ?_
                · refine AWP.rgC 57 rfl rfl ?_
                  refine pu (v := .sc _) rfl rfl (fun _ => rfl) ?_
                  refine pu (v := .sc _) rfl rfl (fun _ => rfl) ?_
                  refine pu (v := .sc _) rfl rfl (fun _ => rfl) ?_
                  refine pu (v := .sc _) rfl rfl (fun _ => rfl) ?_
                  refine brR hR (fun h49 hR => ?_) fun h49 hR => ?_
                  · refine pu (v := .sc _) (wtG rfl rfl rfl h49) rfl (fun _ => rfl) ?_
                    refine pu (v := .sc _) (wtG rfl rfl rfl h49) rfl (fun _ => rfl) ?_
                    obtain ⟨v50, ev50, hR⟩ := letE hR
                    refine pu (v := .sc _) (wtG rfl rfl rfl h49) rfl (fun _ => puB ev50) ?_
                    refine pkT (v := .sc (.bool v50)) rfl rfl h49 rfl ?_
                    refine RunC.fin ?_
                    have hR := Option.some.inj hR; subst hR
                    exact Weak.turnL [(0, 0)] [] rfl rfl (tc (trS' rfl rfl rfl rfl rfl) (tc (.sc _) (tc (.sc _) (tc (.fn (.cons (.rp (Cl.tr _ _ _ _ id) (Cl.leaf _ _)) (.nil))) (tc (.sc _) (tc (.sc _) (tc (.sc _) (tc (.sc _) tn)))))))) (mc rfl (btrA' rfl) mn)
                  · refine sk (skW rfl rfl rfl h49) ?_
                    refine sk (skW rfl rfl rfl h49) ?_
                    refine sk (skW rfl rfl rfl h49) ?_
                    refine pkF (v := .sc (.bool false)) rfl rfl h49 rfl ?_
                    refine RunC.fin ?_
                    have hR := Option.some.inj hR; subst hR
                    exact Weak.turnL [(0, 0)] [] rfl rfl (tc (trS' rfl rfl rfl rfl rfl) (tc (.sc _) (tc (.sc _) (tc (.fn (.cons (.rp (Cl.tr _ _ _ _ id) (Cl.leaf _ _)) (.nil))) (tc (.sc _) (tc (.sc _) (tc (.sc _) (tc (.sc _) tn)))))))) (mc rfl (btrA' rfl) mn)
                · refine AWP.cd hR rfl (fun h51 hR => ?_) fun h51 hR => ?_
                  · refine AWP.rgC 25 rfl rfl ?_
                    refine pu (v := slV Int _ _ _ _) rfl rfl (fun _ => rfl) ?_
                    refine pu (v := .sc _) rfl rfl (fun _ => rfl) ?_
                    refine pu (v := .sc _) rfl rfl (fun _ => rfl) ?_
                    refine pu (v := .sc _) rfl rfl (fun _ => rfl) ?_
                    refine pu (v := .fn _ _) rfl rfl (fun _ => rfl) ?_
                    obtain ⟨r52, hr52, hR⟩ := bindE hR
                    obtain ⟨h53, hR⟩ := chkE hR
                    refine cps (res' := .tup []) (ups := [(0, arrB (α := Int) 3 0 false r52)]) [0] 21 rfl rfl rfl cb62 (ih r46 a z35 (w6 (Int.fdiv (IntKind.wrap .u64 (w6 (a + b))) (2 ^ 1))) cmpc0 _ hr52) (.cons (ldM2 rfl rfl (by first | assumption | omega)) (.cons (.sc _) (.cons (.sc _) (.cons (.sc _) (.cons (.fn (.cons (.rp (Cl.ld _ _ _) (Cl.leaf _ _)) (.nil))) (.nil)))))) (pc rfl bldA pn) rfl rfl rfl rfl rfl (by first | rfl | exact renR | exact renA | exact renS | simp only [V.ren, V.rens, renR, renA, renS] | (simp only [V.ren, V.rens, renR, renA, renS]; rfl)) (by simp only [passUps, renBox, renArr]; rfl) ?_
                    refine RunC.fin ?_
                    refine AWP.joinX (fun z54 : Bool => LS.mk [(0, slV Int 0 0 0 data.length), (3, .sc (.int .i64 b)), (4, .fn (.func 34) [.rp (Cl.c false (cmpc0 : Cells))]), (18, .sc (.int .i64 (w6 (Int.fdiv (IntKind.wrap .u64 (w6 (a + b))) (2 ^ 1))))), (24, .sc (.int .i64 (w6 (v31 - z35)))), (213, .sc (.bool z54))] (lblks 0 [arrB (α := Int) 3 0 false r52]) 1) hR (fun o54 hR => ?_) fun z54 hR => ?_
                    · refine AWP.rgC 57 rfl rfl ?_
                      refine pu (v := .sc _) rfl rfl (fun _ => rfl) ?_
                      refine pu (v := .sc _) rfl rfl (fun _ => rfl) ?_
                      obtain ⟨v55, ev55, hR⟩ := letE hR
                      refine pu (v := .sc _) rfl rfl (fun _ => puB ev55) ?_
                      refine pu (v := .sc _) rfl rfl (fun _ => rfl) ?_
                      refine brR hR (fun h56 hR => ?_) fun h56 hR => ?_
                      · refine pu (v := .sc _) (wtG rfl rfl rfl h56) rfl (fun _ => rfl) ?_
                        refine pu (v := .sc _) (wtG rfl rfl rfl h56) rfl (fun _ => rfl) ?_
                        refine pu (v := .sc _) (wtG rfl rfl rfl h56) rfl (fun _ => rfl) ?_
                        refine pkT (v := .sc (.bool (decide ((w6 (v31 - z35)) < b)))) rfl rfl h56 rfl ?_
                        refine RunC.fin ?_
                        have hR := Option.some.inj hR; subst hR
                        exact Weak.turnL [(0, 0)] [] rfl rfl (tc (trS' rfl rfl rfl rfl rfl) (tc (.sc _) (tc (.fn (.cons (.rp (Cl.tr _ _ _ _ id) (Cl.leaf _ _)) (.nil))) (tc (.sc _) (tc (.sc _) (tc (.sc _) tn)))))) (mc rfl (btrA' rfl) mn)
                      · refine sk (skW rfl rfl rfl h56) ?_
                        refine sk (skW rfl rfl rfl h56) ?_
                        refine sk (skW rfl rfl rfl h56) ?_
                        refine pkF (v := .sc (.bool false)) rfl rfl h56 rfl ?_
                        refine RunC.fin ?_
                        have hR := Option.some.inj hR; subst hR
                        exact Weak.turnL [(0, 0)] [] rfl rfl (tc (trS' rfl rfl rfl rfl rfl) (tc (.sc _) (tc (.fn (.cons (.rp (Cl.tr _ _ _ _ id) (Cl.leaf _ _)) (.nil))) (tc (.sc _) (tc (.sc _) (tc (.sc _) tn)))))) (mc rfl (btrA' rfl) mn)
                    · refine AWP.cd hR rfl (fun h57 hR => ?_) fun h57 hR => ?_
                      · refine AWP.rgC 25 rfl rfl ?_
                        refine pu (v := slV Int _ _ _ _) rfl rfl (fun _ => rfl) ?_
                        refine pu (v := .sc _) rfl rfl (fun _ => rfl) ?_
                        refine pu (v := .sc _) rfl rfl (fun _ => rfl) ?_
                        refine pu (v := .sc _) rfl rfl (fun _ => rfl) ?_
                        refine pu (v := .fn _ _) rfl rfl (fun _ => rfl) ?_
                        obtain ⟨r58, hr58, hR⟩ := bindE hR
                        obtain ⟨h59, hR⟩ := chkE hR
                        refine cps (res' := .tup []) (ups := [(0, arrB (α := Int) 3 0 false r58)]) [0] 21 rfl rfl rfl cb62 (ih r52 (w6 (Int.fdiv (IntKind.wrap .u64 (w6 (a + b))) (2 ^ 1))) (w6 (v31 - z35)) b cmpc0 _ hr58) (.cons (ldM2 rfl rfl (by first | assumption | omega)) (.cons (.sc _) (.cons (.sc _) (.cons (.sc _) (.cons (.fn (.cons (.rp (Cl.ld _ _ _) (Cl.leaf _ _)) (.nil))) (.nil)))))) (pc rfl bldA pn) rfl rfl rfl rfl rfl (by first | rfl | exact renR | exact renA | exact renS | simp only [V.ren, V.rens, renR, renA, renS] | (simp only [V.ren, V.rens, renR, renA, renS]; rfl)) (by simp only [passUps, renBox, renArr]; rfl) ?_
                        refine RunC.nil ?_
                        have hR := Option.some.inj hR; subst hR
                        exact hQ _ _ (LS.mk [] (lblks 0 [arrB (α := Int) 3 0 false r58]) 1) (.tup []) [] (.inl rfl) (Weak.turnL [(0, 0)] [] rfl rfl tn (mc rfl (btrA' rfl) mn)) (ro0 ) rfl rfl (.tup .nil) (pc rfl bldA pn)
                      · refine AWP.skip ?_
                        have hR := Option.some.inj hR; subst hR
                        exact hQ _ _ (LS.mk [] (lblks 0 [arrB (α := Int) 3 0 false r52]) 1) (.tup []) [] (.inl rfl) (Weak.turnL [(0, 0)] [] rfl rfl tn (mc rfl (btrA' rfl) mn)) (ro0 ) rfl rfl (.tup .nil) (pc rfl bldA pn)
                  · refine AWP.skip ?_
                    refine skT ?_
                    refine AWP.joinX (fun z60 : Bool => LS.mk [(0, slV Int 0 0 0 data.length), (3, .sc (.int .i64 b)), (4, .fn (.func 34) [.rp (Cl.c false (cmpc0 : Cells))]), (18, .sc (.int .i64 (w6 (Int.fdiv (IntKind.wrap .u64 (w6 (a + b))) (2 ^ 1))))), (24, .sc (.int .i64 (w6 (v31 - z35)))), (213, .sc (.bool z60))] (lblks 0 [arrB (α := Int) 3 0 false r46]) 1) hR (fun o60 hR => ?_) fun z60 hR => ?_
                    · refine AWP.rgC 33 rfl rfl ?_
                      refine pu (v := .sc _) rfl rfl (fun _ => rfl) ?_
                      refine pu (v := .sc _) rfl rfl (fun _ => rfl) ?_
                      obtain ⟨v61, ev61, hR⟩ := letE hR
                      refine pu (v := .sc _) rfl rfl (fun _ => puB ev61) ?_
                      refine pu (v := .sc _) rfl rfl (fun _ => rfl) ?_
                      refine brR hR (fun h62 hR => ?_) fun h62 hR => ?_
                      · refine pu (v := .sc _) (wtG rfl rfl rfl h62) rfl (fun _ => rfl) ?_
                        refine pu (v := .sc _) (wtG rfl rfl rfl h62) rfl (fun _ => rfl) ?_
                        refine pu (v := .sc _) (wtG rfl rfl rfl h62) rfl (fun _ => rfl) ?_
                        refine pkT (v := .sc (.bool (decide ((w6 (v31 - z35)) < b)))) rfl rfl h62 rfl ?_
                        refine RunC.fin ?_
                        have hR := Option.some.inj hR; subst hR
                        exact Weak.turnL [(0, 0)] [] rfl rfl (tc (trS' rfl rfl rfl rfl rfl) (tc (.sc _) (tc (.fn (.cons (.rp (Cl.tr _ _ _ _ id) (Cl.leaf _ _)) (.nil))) (tc (.sc _) (tc (.sc _) (tc (.sc _) tn)))))) (mc rfl (btrA' rfl) mn)
                      · refine sk (skW rfl rfl rfl h62) ?_
                        refine sk (skW rfl rfl rfl h62) ?_
                        refine sk (skW rfl rfl rfl h62) ?_
                        refine pkF (v := .sc (.bool false)) rfl rfl h62 rfl ?_
                        refine RunC.fin ?_
                        have hR := Option.some.inj hR; subst hR
                        exact Weak.turnL [(0, 0)] [] rfl rfl (tc (trS' rfl rfl rfl rfl rfl) (tc (.sc _) (tc (.fn (.cons (.rp (Cl.tr _ _ _ _ id) (Cl.leaf _ _)) (.nil))) (tc (.sc _) (tc (.sc _) (tc (.sc _) tn)))))) (mc rfl (btrA' rfl) mn)
                    · refine AWP.cd hR rfl (fun h63 hR => ?_) fun h63 hR => ?_
                      · refine AWP.rgC 25 rfl rfl ?_
                        refine pu (v := slV Int _ _ _ _) rfl rfl (fun _ => rfl) ?_
                        refine pu (v := .sc _) rfl rfl (fun _ => rfl) ?_
                        refine pu (v := .sc _) rfl rfl (fun _ => rfl) ?_
                        refine pu (v := .sc _) rfl rfl (fun _ => rfl) ?_
                        refine pu (v := .fn _ _) rfl rfl (fun _ => rfl) ?_
                        obtain ⟨r64, hr64, hR⟩ := bindE hR
                        obtain ⟨h65, hR⟩ := chkE hR
                        refine cps (res' := .tup []) (ups := [(0, arrB (α := Int) 3 0 false r64)]) [0] 21 rfl rfl rfl cb62 (ih r46 (w6 (Int.fdiv (IntKind.wrap .u64 (w6 (a + b))) (2 ^ 1))) (w6 (v31 - z35)) b cmpc0 _ hr64) (.cons (ldM2 rfl rfl (by first | assumption | omega)) (.cons (.sc _) (.cons (.sc _) (.cons (.sc _) (.cons (.fn (.cons (.rp (Cl.ld _ _ _) (Cl.leaf _ _)) (.nil))) (.nil)))))) (pc rfl bldA pn) rfl rfl rfl rfl rfl (by first | rfl | exact renR | exact renA | exact renS | simp only [V.ren, V.rens, renR, renA, renS] | (simp only [V.ren, V.rens, renR, renA, renS]; rfl)) (by simp only [passUps, renBox, renArr]; rfl) ?_
                        refine RunC.nil ?_
                        have hR := Option.some.inj hR; subst hR
                        exact hQ _ _ (LS.mk [] (lblks 0 [arrB (α := Int) 3 0 false r64]) 1) (.tup []) [] (.inl rfl) (Weak.turnL [(0, 0)] [] rfl rfl tn (mc rfl (btrA' rfl) mn)) (ro0 ) rfl rfl (.tup .nil) (pc rfl bldA pn)
                      · refine AWP.skip ?_
                        have hR := Option.some.inj hR; subst hR
                        exact hQ _ _ (LS.mk [] (lblks 0 [arrB (α := Int) 3 0 false r46]) 1) (.tup []) [] (.inl rfl) (Weak.turnL [(0, 0)] [] rfl rfl tn (mc rfl (btrA' rfl) mn)) (ro0 ) rfl rfl (.tup .nil) (pc rfl bldA pn)
              · refine AWP.skip ?_
                refine skT ?_
                refine AWP.sq ?_
                refine AWP.joinX (fun z66 : Bool => LS.mk [(0, slV Int 0 0 0 data.length), (1, .sc (.int .i64 a)), (3, .sc (.int .i64 b)), (4, .fn (.func 34) [.rp (Cl.c false (cmpc0 : Cells))]), (18, .sc (.int .i64 (w6 (Int.fdiv (IntKind.wrap .u64 (w6 (a + b))) (2 ^ 1))))), (20, .sc (.int .i64 z35)), (24, .sc (.int .i64 (w6 (v31 - z35)))), (199, .sc (.bool z66))] (lblks 0 [arrB (α := Int) 3 0 false data]) 1) hR (fun o66 hR => ?_) fun z66 hR => ?_
                · refine AWP.rgC 33 rfl rfl ?_
                  refine pu (v := .sc _) rfl rfl (fun _ => rfl) ?_
                  refine pu (v := .sc _) rfl rfl (fun _ => rfl) ?_
                  refine pu (v := .sc _) rfl rfl (fun _ => rfl) ?_
                  refine pu (v := .sc _) rfl rfl (fun _ => rfl) ?_
                  refine brR hR (fun h67 hR => ?_) fun h67 hR => ?_
                  · refine pu (v := .sc _) (wtG rfl rfl rfl h67) rfl (fun _ => rfl) ?_
                    refine pu (v := .sc _) (wtG rfl rfl rfl h67) rfl (fun _ => rfl) ?_
                    obtain ⟨v68, ev68, hR⟩ := letE hR
                    refine pu (v := .sc _) (wtG rfl rfl rfl h67) rfl (fun _ => puB ev68) ?_
                    refine pkT (v := .sc (.bool v68)) rfl rfl h67 rfl ?_
                    refine RunC.fin ?_
                    have hR := Option.some.inj hR; subst hR
                    exact Weak.turnL [(0, 0)] [] rfl rfl (tc (trS' rfl rfl rfl rfl rfl) (tc (.sc _) (tc (.sc _) (tc (.fn (.cons (.rp (Cl.tr _ _ _ _ id) (Cl.leaf _ _)) (.nil))) (tc (.sc _) (tc (.sc _) (tc (.sc _) (tc (.sc _) tn)))))))) (mc rfl (btrA' rfl) mn)
                  · refine sk (skW rfl rfl rfl h67) ?_
                    refine sk (skW rfl rfl rfl h67) ?_
                    refine sk (skW rfl rfl rfl h67) ?_
                    refine pkF (v := .sc (.bool false)) rfl rfl h67 rfl ?_
                    refine RunC.fin ?_
                    have hR := Option.some.inj hR; subst hR
                    exact Weak.turnL [(0, 0)] [] rfl rfl (tc (trS' rfl rfl rfl rfl rfl) (tc (.sc _) (tc (.sc _) (tc (.fn (.cons (.rp (Cl.tr _ _ _ _ id) (Cl.leaf _ _)) (.nil))) (tc (.sc _) (tc (.sc _) (tc (.sc _) (tc (.sc _) tn)))))))) (mc rfl (btrA' rfl) mn)
                · refine AWP.cd hR rfl (fun h69 hR => ?_) fun h69 hR => ?_
                  · refine AWP.rgC 25 rfl rfl ?_
                    refine pu (v := slV Int _ _ _ _) rfl rfl (fun _ => rfl) ?_
                    refine pu (v := .sc _) rfl rfl (fun _ => rfl) ?_
                    refine pu (v := .sc _) rfl rfl (fun _ => rfl) ?_
                    refine pu (v := .sc _) rfl rfl (fun _ => rfl) ?_
                    refine pu (v := .fn _ _) rfl rfl (fun _ => rfl) ?_
                    obtain ⟨r70, hr70, hR⟩ := bindE hR
                    obtain ⟨h71, hR⟩ := chkE hR
                    refine cps (res' := .tup []) (ups := [(0, arrB (α := Int) 3 0 false r70)]) [0] 21 rfl rfl rfl cb62 (ih data a z35 (w6 (Int.fdiv (IntKind.wrap .u64 (w6 (a + b))) (2 ^ 1))) cmpc0 _ hr70) (.cons (ldM rfl rfl) (.cons (.sc _) (.cons (.sc _) (.cons (.sc _) (.cons (.fn (.cons (.rp (Cl.ld _ _ _) (Cl.leaf _ _)) (.nil))) (.nil)))))) (pc rfl bldA pn) rfl rfl rfl rfl rfl (by first | rfl | exact renR | exact renA | exact renS | simp only [V.ren, V.rens, renR, renA, renS] | (simp only [V.ren, V.rens, renR, renA, renS]; rfl)) (by simp only [passUps, renBox, renArr]; rfl) ?_
                    refine RunC.fin ?_
                    refine AWP.joinX (fun z72 : Bool => LS.mk [(0, slV Int 0 0 0 data.length), (3, .sc (.int .i64 b)), (4, .fn (.func 34) [.rp (Cl.c false (cmpc0 : Cells))]), (18, .sc (.int .i64 (w6 (Int.fdiv (IntKind.wrap .u64 (w6 (a + b))) (2 ^ 1))))), (24, .sc (.int .i64 (w6 (v31 - z35)))), (213, .sc (.bool z72))] (lblks 0 [arrB (α := Int) 3 0 false r70]) 1) hR (fun o72 hR => ?_) fun z72 hR => ?_
                    · refine AWP.rgC 57 rfl rfl ?_
                      refine pu (v := .sc _) rfl rfl (fun _ => rfl) ?_
                      refine pu (v := .sc _) rfl rfl (fun _ => rfl) ?_
                      obtain ⟨v73, ev73, hR⟩ := letE hR
                      refine pu (v := .sc _) rfl rfl (fun _ => puB ev73) ?_
                      refine pu (v := .sc _) rfl rfl (fun _ => rfl) ?_
                      refine brR hR (fun h74 hR => ?_) fun h74 hR => ?_
                      · refine pu (v := .sc _) (wtG rfl rfl rfl h74) rfl (fun _ => rfl) ?_
                        refine pu (v := .sc _) (wtG rfl rfl rfl h74) rfl (fun _ => rfl) ?_
                        refine pu (v := .sc _) (wtG rfl rfl rfl h74) rfl (fun _ => rfl) ?_
                        refine pkT (v := .sc (.bool (decide ((w6 (v31 - z35)) < b)))) rfl rfl h74 rfl ?_
                        refine RunC.fin ?_
                        have hR := Option.some.inj hR; subst hR
                        exact Weak.turnL [(0, 0)] [] rfl rfl (tc (trS' rfl rfl rfl rfl rfl) (tc (.sc _) (tc (.fn (.cons (.rp (Cl.tr _ _ _ _ id) (Cl.leaf _ _)) (.nil))) (tc (.sc _) (tc (.sc _) (tc (.sc _) tn)))))) (mc rfl (btrA' rfl) mn)
                      · refine sk (skW rfl rfl rfl h74) ?_
                        refine sk (skW rfl rfl rfl h74) ?_
                        refine sk (skW rfl rfl rfl h74) ?_
                        refine pkF (v := .sc (.bool false)) rfl rfl h74 rfl ?_
                        refine RunC.fin ?_
                        have hR := Option.some.inj hR; subst hR
                        exact Weak.turnL [(0, 0)] [] rfl rfl (tc (trS' rfl rfl rfl rfl rfl) (tc (.sc _) (tc (.fn (.cons (.rp (Cl.tr _ _ _ _ id) (Cl.leaf _ _)) (.nil))) (tc (.sc _) (tc (.sc _) (tc (.sc _) tn)))))) (mc rfl (btrA' rfl) mn)
                    · refine AWP.cd hR rfl (fun h75 hR => ?_) fun h75 hR => ?_
                      · refine AWP.rgC 25 rfl rfl ?_
                        refine pu (v := slV Int _ _ _ _) rfl rfl (fun _ => rfl) ?_
                        refine pu (v := .sc _) rfl rfl (fun _ => rfl) ?_
                        refine pu (v := .sc _) rfl rfl (fun _ => rfl) ?_
                        refine pu (v := .sc _) rfl rfl (fun _ => rfl) ?_
                        refine pu (v := .fn _ _) rfl rfl (fun _ => rfl) ?_
                        obtain ⟨r76, hr76, hR⟩ := bindE hR
                        obtain ⟨h77, hR⟩ := chkE hR
                        refine cps (res' := .tup []) (ups := [(0, arrB (α := Int) 3 0 false r76)]) [0] 21 rfl rfl rfl cb62 (ih r70 (w6 (Int.fdiv (IntKind.wrap .u64 (w6 (a + b))) (2 ^ 1))) (w6 (v31 - z35)) b cmpc0 _ hr76) (.cons (ldM2 rfl rfl (by first | assumption | omega)) (.cons (.sc _) (.cons (.sc _) (.cons (.sc _) (.cons (.fn (.cons (.rp (Cl.ld _ _ _) (Cl.leaf _ _)) (.nil))) (.nil)))))) (pc rfl bldA pn) rfl rfl rfl rfl rfl (by first | rfl | exact renR | exact renA | exact renS | simp only [V.ren, V.rens, renR, renA, renS] | (simp only [V.ren, V.rens, renR, renA, renS]; rfl)) (by simp only [passUps, renBox, renArr]; rfl) ?_
                        refine RunC.nil ?_
                        have hR := Option.some.inj hR; subst hR
                        exact hQ _ _ (LS.mk [] (lblks 0 [arrB (α := Int) 3 0 false r76]) 1) (.tup []) [] (.inl rfl) (Weak.turnL [(0, 0)] [] rfl rfl tn (mc rfl (btrA' rfl) mn)) (ro0 ) rfl rfl (.tup .nil) (pc rfl bldA pn)
                      · refine AWP.skip ?_
                        have hR := Option.some.inj hR; subst hR
                        exact hQ _ _ (LS.mk [] (lblks 0 [arrB (α := Int) 3 0 false r70]) 1) (.tup []) [] (.inl rfl) (Weak.turnL [(0, 0)] [] rfl rfl tn (mc rfl (btrA' rfl) mn)) (ro0 ) rfl rfl (.tup .nil) (pc rfl bldA pn)
                  · refine AWP.skip ?_
                    refine skT ?_
                    refine AWP.joinX (fun z78 : Bool => LS.mk [(0, slV Int 0 0 0 data.length), (3, .sc (.int .i64 b)), (4, .fn (.func 34) [.rp (Cl.c false (cmpc0 : Cells))]), (18, .sc (.int .i64 (w6 (Int.fdiv (IntKind.wrap .u64 (w6 (a + b))) (2 ^ 1))))), (24, .sc (.int .i64 (w6 (v31 - z35)))), (213, .sc (.bool z78))] (lblks 0 [arrB (α := Int) 3 0 false data]) 1) hR (fun o78 hR => ?_) fun z78 hR => ?_
                    · refine AWP.rgC 33 rfl rfl ?_
                      refine pu (v := .sc _) rfl rfl (fun _ => rfl) ?_
                      refine pu (v := .sc _) rfl rfl (fun _ => rfl) ?_
                      obtain ⟨v79, ev79, hR⟩ := letE hR
                      refine pu (v := .sc _) rfl rfl (fun _ => puB ev79) ?_
                      refine pu (v := .sc _) rfl rfl (fun _ => rfl) ?_
                      refine brR hR (fun h80 hR => ?_) fun h80 hR => ?_
                      · refine pu (v := .sc _) (wtG rfl rfl rfl h80) rfl (fun _ => rfl) ?_
                        refine pu (v := .sc _) (wtG rfl rfl rfl h80) rfl (fun _ => rfl) ?_
                        refine pu (v := .sc _) (wtG rfl rfl rfl h80) rfl (fun _ => rfl) ?_
                        refine pkT (v := .sc (.bool (decide ((w6 (v31 - z35)) < b)))) rfl rfl h80 rfl ?_
                        refine RunC.fin ?_
                        have hR := Option.some.inj hR; subst hR
                        exact Weak.turnL [(0, 0)] [] rfl rfl (tc (trS' rfl rfl rfl rfl rfl) (tc (.sc _) (tc (.fn (.cons (.rp (Cl.tr _ _ _ _ id) (Cl.leaf _ _)) (.nil))) (tc (.sc _) (tc (.sc _) (tc (.sc _) tn)))))) (mc rfl (btrA' rfl) mn)
                      · refine sk (skW rfl rfl rfl h80) ?_
                        refine sk (skW rfl rfl rfl h80) ?_
                        refine sk (skW rfl rfl rfl h80) ?_
                        refine pkF (v := .sc (.bool false)) rfl rfl h80 rfl ?_
                        refine RunC.fin ?_
                        have hR := Option.some.inj hR; subst hR
                        exact Weak.turnL [(0, 0)] [] rfl rfl (tc (trS' rfl rfl rfl rfl rfl) (tc (.sc _) (tc (.fn (.cons (.rp (Cl.tr _ _ _ _ id) (Cl.leaf _ _)) (.nil))) (tc (.sc _) (tc (.sc _) (tc (.sc _) tn)))))) (mc rfl (btrA' rfl) mn)
                    · refine AWP.cd hR rfl (fun h81 hR => ?_) fun h81 hR => ?_
                      · refine AWP.rgC 25 rfl rfl ?_
                        refine pu (v := slV Int _ _ _ _) rfl rfl (fun _ => rfl) ?_
                        refine pu (v := .sc _) rfl rfl (fun _ => rfl) ?_
                        refine pu (v := .sc _) rfl rfl (fun _ => rfl) ?_
                        refine pu (v := .sc _) rfl rfl (fun _ => rfl) ?_
                        refine pu (v := .fn _ _) rfl rfl (fun _ => rfl) ?_
                        obtain ⟨r82, hr82, hR⟩ := bindE hR
                        obtain ⟨h83, hR⟩ := chkE hR
                        refine cps (res' := .tup []) (ups := [(0, arrB (α := Int) 3 0 false r82)]) [0] 21 rfl rfl rfl cb62 (ih data (w6 (Int.fdiv (IntKind.wrap .u64 (w6 (a + b))) (2 ^ 1))) (w6 (v31 - z35)) b cmpc0 _ hr82) (.cons (ldM rfl rfl) (.cons (.sc _) (.cons (.sc _) (.cons (.sc _) (.cons (.fn (.cons (.rp (Cl.ld _ _ _) (Cl.leaf _ _)) (.nil))) (.nil)))))) (pc rfl bldA pn) rfl rfl rfl rfl rfl (by first | rfl | exact renR | exact renA | exact renS | simp only [V.ren, V.rens, renR, renA, renS] | (simp only [V.ren, V.rens, renR, renA, renS]; rfl)) (by simp only [passUps, renBox, renArr]; rfl) ?_
                        refine RunC.nil ?_
                        have hR := Option.some.inj hR; subst hR
                        exact hQ _ _ (LS.mk [] (lblks 0 [arrB (α := Int) 3 0 false r82]) 1) (.tup []) [] (.inl rfl) (Weak.turnL [(0, 0)] [] rfl rfl tn (mc rfl (btrA' rfl) mn)) (ro0 ) rfl rfl (.tup .nil) (pc rfl bldA pn)
                      · refine AWP.skip ?_
                        have hR := Option.some.inj hR; subst hR
                        exact hQ _ _ (LS.mk [] (lblks 0 [arrB (α := Int) 3 0 false data]) 1) (.tup []) [] (.inl rfl) (Weak.turnL [(0, 0)] [] rfl rfl tn (mc rfl (btrA' rfl) mn)) (ro0 ) rfl rfl (.tup .nil) (pc rfl bldA pn)
        · refine AWP.sq ?_
          refine AWP.rgC 105 rfl rfl ?_
          refine pu (v := .sc _) rfl rfl (fun _ => rfl) ?_
          refine pu (v := .sc _) rfl rfl (fun _ => rfl) ?_
          refine RunC.fin ?_
          refine AWP.rgC 113 rfl rfl ?_
          refine pu (v := .sc _) rfl rfl (fun _ => rfl) ?_
          refine pu (v := .sc _) rfl rfl (fun _ => rfl) ?_
          refine RunC.fin ?_
          refine AWP.sq ?_
          refine AWP.rgC 125 rfl rfl ?_
          refine pu (v := .sc _) rfl rfl (fun _ => rfl) ?_
          refine pu (v := .sc _) rfl rfl (fun _ => rfl) ?_
          refine pu (v := .sc _) rfl rfl (fun _ => rfl) ?_
          refine RunC.fin ?_
          refine AWP.sq ?_
          refine AWP.loopJ (fun s84 : Int × Int => LS.mk [(0, slV Int 0 0 0 data.length), (1, .sc (.int .i64 a)), (2, .sc (.int .i64 m)), (3, .sc (.int .i64 b)), (4, .fn (.func 34) [.rp (Cl.c false (cmpc0 : Cells))]), (18, .sc (.int .i64 (w6 (Int.fdiv (IntKind.wrap .u64 (w6 (a + b))) (2 ^ 1))))), (19, .sc (.int .i64 v31)), (20, .sc (.int .i64 s84.1)), (21, .sc (.int .i64 s84.2)), (22, .sc (.int .i64 (w6 (v31 - 1))))] (lblks 0 [arrB (α := Int) 3 0 false data]) 1) (fun z85 : Int => LS.mk [(0, slV Int 0 0 0 data.length), (1, .sc (.int .i64 a)), (2, .sc (.int .i64 m)), (3, .sc (.int .i64 b)), (4, .fn (.func 34) [.rp (Cl.c false (cmpc0 : Cells))]), (18, .sc (.int .i64 (w6 (Int.fdiv (IntKind.wrap .u64 (w6 (a + b))) (2 ^ 1))))), (19, .sc (.int .i64 v31)), (20, .sc (.int .i64 z85))] (lblks 0 [arrB (α := Int) 3 0 false data]) 1) (slices_symMergeCmpFunc_Int_find_Sure_1.l6 data cmpc0 v31) hR (s0 := (a, m)) (Weak.turnL [(0, 0)] [] rfl rfl (tc (trS' rfl rfl rfl rfl rfl) (tc (.sc _) (tc (.sc _) (tc (.sc _) (tc (.fn (.cons (.rp (Cl.tr _ _ _ _ id) (Cl.leaf _ _)) (.nil))) (tc (.sc _) (tc (.sc _) (tc (.sc _) (tc (.sc _) (tc (.sc _) tn)))))))))) (mc rfl (btrA' rfl) mn)) (fun s84 o84 hR => ?_) fun z85 hR => ?_
          · unfold slices_symMergeCmpFunc_Int_find_Sure_1.l6 at hR
            refine AWP.sq ?_
            refine AWP.sq ?_
            refine AWP.rgC 13 rfl rfl ?_
            refine pu (v := .sc _) rfl rfl (fun _ => rfl) ?_
            refine pu (v := .sc _) rfl rfl (fun _ => rfl) ?_
            refine pu (v := .sc _) rfl rfl (fun _ => rfl) ?_
            refine RunC.fin ?_
            refine AWP.cd hR rfl (fun h86 hR => ?_) fun h86 hR => ?_
            · refine AWP.skip ?_
              refine skT ?_
              refine AWP.block ?_
              refine AWP.sq ?_
              refine AWP.rgC 41 rfl rfl ?_
              refine pu (v := .sc _) rfl rfl (fun _ => rfl) ?_
              refine pu (v := .sc _) rfl rfl (fun _ => rfl) ?_
              refine pu (v := .sc _) rfl rfl (fun _ => rfl) ?_
              refine cn rfl rfl ti3 rfl ti87 rfl rfl ?_
              refine pu (v := .sc _) rfl rfl (fun _ => rfl) ?_
              refine cn rfl rfl ti87 rfl ti3 rfl rfl ?_
              refine pu (v := .sc _) rfl rfl (fun _ => rfl) ?_
              refine RunC.fin ?_
              refine AWP.sq ?_
              refine AWP.rgD 97 [0, 0, 0, 0, 12, 30, 62, 0, 0, 384, 896, 2047, 4095, 8191] ⟨[], [none, none, none, none, none, none, some [0], none, none, none, some [0], none, none, none]⟩ hmix (by kernel_rfl) rfl rfl ?_
              refine pu (v := .fn _ _) rfl rfl (fun _ => rfl) ?_
              refine pu (v := slV Int _ _ _ _) rfl rfl (fun _ => rfl) ?_
              refine pu (v := .sc _) rfl rfl (fun _ => rfl) ?_
              refine pu (v := .sc _) rfl rfl (fun _ => rfl) ?_
              obtain ⟨v87, ev87, hR⟩ := letE hR
              refine pu (v := .sc _) rfl rfl (fun _ => puI ev87) ?_
              obtain ⟨h88, hR⟩ := chkE hR
              refine ixS0 (α := Int) rfl rfl rfl ti22 rfl ti3 rfl h88 ?_
              refine ldE (α := Int) (v := .sc _) rfl rfl rfl (ixlt h88) ti3 rfl rfl rfl rfl ?_
              refine pu (v := slV Int _ _ _ _) rfl rfl (fun _ => rfl) ?_
              refine pu (v := .sc _) rfl rfl (fun _ => rfl) ?_
              obtain ⟨h89, hR⟩ := chkE hR
              refine ixS0 (α := Int) rfl rfl rfl ti22 rfl ti3 rfl h89 ?_
              refine ldE (α := Int) (v := .sc _) rfl rfl rfl (ixlt h89) ti3 rfl rfl rfl rfl ?_
              obtain ⟨r90, hr90, hR⟩ := bindE hR
              refine cls [] rfl rfl cb34 (ok34 (gt data v87) (gt data (w6 (Int.fdiv (IntKind.wrap .u64 (w6 (s84.1 + s84.2))) (2 ^ 1)))) cmpc0 _ hr90) (.cons (.sc _) (.cons (.sc _) (.cons (.rp (Cl.ld _ _ _) (Cl.leaf _ _)) (.nil)))) (.inr rfl) rfl ?_
              refine pu (v := .sc _) rfl rfl (fun _ => rfl) ?_
              refine pu (v := .sc _) rfl rfl (fun _ => rfl) ?_
              refine RunC.fin ?_
              refine AWP.cd hR rfl (fun h91 hR => ?_) fun h91 hR => ?_
              · refine AWP.rgC 109 rfl rfl ?_
                refine pu (v := .sc _) rfl rfl (fun _ => rfl) ?_
                obtain ⟨v92, ev92, hR⟩ := letE hR
                refine pu (v := .sc _) rfl rfl (fun _ => puI ev92) ?_
                refine pu (v := .sc _) rfl rfl (fun _ => rfl) ?_
                refine RunC.blk ?_
                refine RunC.fin ?_
                refine ⟨(v92, s84.2), (Option.some.inj hR).symm, ?_⟩
                exact Weak.turnL [(0, 0)] [] rfl rfl (tc (trS' rfl rfl rfl rfl rfl) (tc (.sc _) (tc (.sc _) (tc (.sc _) (tc (.fn (.cons (.rp (Cl.tr _ _ _ _ id) (Cl.leaf _ _)) (.nil))) (tc (.sc _) (tc (.sc _) (tc (.sc _) (tc (.sc _) (tc (.sc _) tn)))))))))) (mc rfl (btrA' rfl) mn)
              · refine AWP.rgC 105 rfl rfl ?_
                refine pu (v := .sc _) rfl rfl (fun _ => rfl) ?_
                refine pu (v := .sc _) rfl rfl (fun _ => rfl) ?_
                refine RunC.blk ?_
                refine RunC.fin ?_
                refine ⟨(s84.1, w6 (Int.fdiv (IntKind.wrap .u64 (w6 (s84.1 + s84.2))) (2 ^ 1))), (Option.some.inj hR).symm, ?_⟩
                exact Weak.turnL [(0, 0)] [] rfl rfl (tc (trS' rfl rfl rfl rfl rfl) (tc (.sc _) (tc (.sc _) (tc (.sc _) (tc (.fn (.cons (.rp (Cl.tr _ _ _ _ id) (Cl.leaf _ _)) (.nil))) (tc (.sc _) (tc (.sc _) (tc (.sc _) (tc (.sc _) (tc (.sc _) tn)))))))))) (mc rfl (btrA' rfl) mn)
            · refine AWP.exit ?_
              refine exT ?_
              refine exT ?_
              refine exH (skT ?_)
              refine ⟨s84.1, (Option.some.inj hR).symm, ?_⟩
              exact Weak.turnL [(0, 0)] [] rfl rfl (tc (trS' rfl rfl rfl rfl rfl) (tc (.sc _) (tc (.sc _) (tc (.sc _) (tc (.fn (.cons (.rp (Cl.tr _ _ _ _ id) (Cl.leaf _ _)) (.nil))) (tc (.sc _) (tc (.sc _) (tc (.sc _) tn)))))))) (mc rfl (btrA' rfl) mn)
          · refine skT ?_
            refine AWP.sq ?_
            refine AWP.rgC 17 rfl rfl ?_
            refine pu (v := .sc _) rfl rfl (fun _ => rfl) ?_
            refine pu (v := .sc _) rfl rfl (fun _ => rfl) ?_
            refine pu (v := .sc _) rfl rfl (fun _ => rfl) ?_
            refine pu (v := .sc _) rfl rfl (fun _ => rfl) ?_
            refine RunC.fin ?_
            refine AWP.sq ?_
            refine AWP.joinX (fun z93 : Bool => LS.mk [(0, slV Int 0 0 0 data.length), (1, .sc (.int .i64 a)), (2, .sc (.int .i64 m)), (3, .sc (.int .i64 b)), (4, .fn (.func 34) [.rp (Cl.c false (cmpc0 : Cells))]), (18, .sc (.int .i64 (w6 (Int.fdiv (IntKind.wrap .u64 (w6 (a + b))) (2 ^ 1))))), (20, .sc (.int .i64 z85)), (24, .sc (.int .i64 (w6 (v31 - z85)))), (185, .sc (.bool z93))] (lblks 0 [arrB (α := Int) 3 0 false data]) 1) hR (fun o93 hR => ?_) fun z93 hR => ?_
            · refine AWP.rgC 49 rfl rfl ?_
              refine pu (v := .sc _) rfl rfl (fun _ => rfl) ?_
              refine pu (v := .sc _) rfl rfl (fun _ => rfl) ?_
              refine pu (v := .sc _) rfl rfl (fun _ => rfl) ?_
              refine pu (v := .sc _) rfl rfl (fun _ => rfl) ?_
              refine brR hR (fun h94 hR => ?_) fun h94 hR => ?_
              · refine pu (v := .sc _) (wtG rfl rfl rfl h94) rfl (fun _ => rfl) ?_
                refine pu (v := .sc _) (wtG rfl rfl rfl h94) rfl (fun _ => rfl) ?_
                refine pu (v := .sc _) (wtG rfl rfl rfl h94) rfl (fun _ => rfl) ?_
                refine pkT (v := .sc (.bool (decide (m < (w6 (v31 - z85)))))) rfl rfl h94 rfl ?_
                refine RunC.fin ?_
                have hR := Option.some.inj hR; subst hR
                exact Weak.turnL [(0, 0)] [] rfl rfl (tc (trS' rfl rfl rfl rfl rfl) (tc (.sc _) (tc (.sc _) (tc (.sc _) (tc (.fn (.cons (.rp (Cl.tr _ _ _ _ id) (Cl.leaf _ _)) (.nil))) (tc (.sc _) (tc (.sc _) (tc (.sc _) (tc (.sc _) tn))))))))) (mc rfl (btrA' rfl) mn)
              · refine sk (skW rfl rfl rfl h94) ?_
                refine sk (skW rfl rfl rfl h94) ?_
                refine sk (skW rfl rfl rfl h94) ?_
                refine pkF (v := .sc (.bool false)) rfl rfl h94 rfl ?_
                refine RunC.fin ?_
                have hR := Option.some.inj hR; subst hR
                exact Weak.turnL [(0, 0)] [] rfl rfl (tc (trS' rfl rfl rfl rfl rfl) (tc (.sc _) (tc (.sc _) (tc (.sc _) (tc (.fn (.cons (.rp (Cl.tr _ _ _ _ id) (Cl.leaf _ _)) (.nil))) (tc (.sc _) (tc (.sc _) (tc (.sc _) (tc (.sc _) tn))))))))) (mc rfl (btrA' rfl) mn)
            · refine AWP.cd hR rfl (fun h95 hR => ?_) fun h95 hR => ?_
              · refine AWP.rgC 25 rfl rfl ?_
                refine pu (v := slV Int _ _ _ _) rfl rfl (fun _ => rfl) ?_
                refine pu (v := .sc _) rfl rfl (fun _ => rfl) ?_
                refine pu (v := .sc _) rfl rfl (fun _ => rfl) ?_
                refine pu (v := .sc _) rfl rfl (fun _ => rfl) ?_
                refine pu (v := .fn _ _) rfl rfl (fun _ => rfl) ?_
                obtain ⟨r96, hr96, hR⟩ := bindE hR
                obtain ⟨h97, hR⟩ := chkE hR
                refine cps (res' := .tup []) (ups := [(0, arrB (α := Int) 3 0 false r96)]) [0] 21 rfl rfl rfl cb69 (ok69 data z85 m (w6 (v31 - z85)) cmpc0 _ hr96) (.cons (ldM rfl rfl) (.cons (.sc _) (.cons (.sc _) (.cons (.sc _) (.cons (.fn (.cons (.rp (Cl.ld _ _ _) (Cl.leaf _ _)) (.nil))) (.nil)))))) (pc rfl bldA pn) rfl rfl rfl rfl rfl (by first | rfl | exact renR | exact renA | exact renS | simp only [V.ren, V.rens, renR, renA, renS] | (simp only [V.ren, V.rens, renR, renA, renS]; rfl)) (by simp only [passUps, renBox, renArr]; rfl) ?_
                refine RunC.fin ?_
                refine AWP.sq ?_
                refine AWP.joinX (fun z98 : Bool => LS.mk [(0, slV Int 0 0 0 data.length), (1, .sc (.int .i64 a)), (3, .sc (.int .i64 b)), (4, .fn (.func 34) [.rp (Cl.c false (cmpc0 : Cells))]), (18, .sc (.int .i64 (w6 (Int.fdiv (IntKind.wrap .u64 (w6 (a + b))) (2 ^ 1))))), (20, .sc (.int .i64 z85)), (24, .sc (.int .i64 (w6 (v31 - z85)))), (199, .sc (.bool z98))] (lblks 0 [arrB (α := Int) 3 0 false r96]) 1) hR (fun o98 hR => ?_) fun z98 hR => ?_
                · refine AWP.rgC 57 rfl rfl ?_
                  refine pu (v := .sc _) rfl rfl (fun _ => rfl) ?_
                  refine pu (v := .sc _) rfl rfl (fun _ => rfl) ?_
                  refine pu (v := .sc _) rfl rfl (fun _ => rfl) ?_
                  refine pu (v := .sc _) rfl rfl (fun _ => rfl) ?_
                  refine brR hR (fun h99 hR => ?_) fun h99 hR => ?_
                  · refine pu (v := .sc _) (wtG rfl rfl rfl h99) rfl (fun _ => rfl) ?_
                    refine pu (v := .sc _) (wtG rfl rfl rfl h99) rfl (fun _ => rfl) ?_
                    obtain ⟨v100, ev100, hR⟩ := letE hR
                    refine pu (v := .sc _) (wtG rfl rfl rfl h99) rfl (fun _ => puB ev100) ?_
                    refine pkT (v := .sc (.bool v100)) rfl rfl h99 rfl ?_
                    refine RunC.fin ?_
                    have hR := Option.some.inj hR; subst hR
                    exact Weak.turnL [(0, 0)] [] rfl rfl (tc (trS' rfl rfl rfl rfl rfl) (tc (.sc _) (tc (.sc _) (tc (.fn (.cons (.rp (Cl.tr _ _ _ _ id) (Cl.leaf _ _)) (.nil))) (tc (.sc _) (tc (.sc _) (tc (.sc _) (tc (.sc _) tn)))))))) (mc rfl (btrA' rfl) mn)
                  · refine sk (skW rfl rfl rfl h99) ?_
                    refine sk (skW rfl rfl rfl h99) ?_
                    refine sk (skW rfl rfl rfl h99) ?_
                    refine pkF (v := .sc (.bool false)) rfl rfl h99 rfl ?_
                    refine RunC.fin ?_
                    have hR := Option.some.inj hR; subst hR
                    exact Weak.turnL [(0, 0)] [] rfl rfl (tc (trS' rfl rfl rfl rfl rfl) (tc (.sc _) (tc (.sc _) (tc (.fn (.cons (.rp (Cl.tr _ _ _ _ id) (Cl.leaf _ _)) (.nil))) (tc (.sc _) (tc (.sc _) (tc (.sc _) (tc (.sc _) tn)))))))) (mc rfl (btrA' rfl) mn)
                · refine AWP.cd hR rfl (fun h101 hR => ?_) fun h101 hR => ?_
                  · refine AWP.rgC 25 rfl rfl ?_
                    refine pu (v := slV Int _ _ _ _) rfl rfl (fun _ => rfl) ?_
                    refine pu (v := .sc _) rfl rfl (fun _ => rfl) ?_
                    refine pu (v := .sc _) rfl rfl (fun _ => rfl) ?_
                    refine pu (v := .sc _) rfl rfl (fun _ => rfl) ?_
                    refine pu (v := .fn _ _) rfl rfl (fun _ => rfl) ?_
                    obtain ⟨r102, hr102, hR⟩ := bindE hR
                    obtain ⟨h103, hR⟩ := chkE hR
                    refine cps (res' := .tup []) (ups := [(0, arrB (α := Int) 3 0 false r102)]) [0] 21 rfl rfl rfl cb62 (ih r96 a z85 (w6 (Int.fdiv (IntKind.wrap .u64 (w6 (a + b))) (2 ^ 1))) cmpc0 _ hr102) (.cons (ldM2 rfl rfl (by first | assumption | omega)) (.cons (.sc _) (.cons (.sc _) (.cons (.sc _) (.cons (.fn (.cons (.rp (Cl.ld _ _ _) (Cl.leaf _ _)) (.nil))) (.nil)))))) (pc rfl bldA pn) rfl rfl rfl rfl rfl (by first | rfl | exact renR | exact renA | exact renS | simp only [V.ren, V.rens, renR, renA, renS] | (simp only [V.ren, V.rens, renR, renA, renS]; rfl)) (by simp only [passUps, renBox, renArr]; rfl) ?_
                    refine RunC.fin ?_
                    refine AWP.joinX (fun z104 : Bool => LS.mk [(0, slV Int 0 0 0 data.length), (3, .sc (.int .i64 b)), (4, .fn (.func 34) [.rp (Cl.c false (cmpc0 : Cells))]), (18, .sc (.int .i64 (w6 (Int.fdiv (IntKind.wrap .u64 (w6 (a + b))) (2 ^ 1))))), (24, .sc (.int .i64 (w6 (v31 - z85)))), (213, .sc (.bool z104))] (lblks 0 [arrB (α := Int) 3 0 false r102]) 1) hR (fun o104 hR => ?_) fun z104 hR => ?_
                    · refine AWP.rgC 57 rfl rfl ?_
                      refine pu (v := .sc _) rfl rfl (fun _ => rfl) ?_
                      refine pu (v := .sc _) rfl rfl (fun _ => rfl) ?_
                      obtain ⟨v105, ev105, hR⟩ := letE hR
                      refine pu (v := .sc _) rfl rfl (fun _ => puB ev105) ?_
                      refine pu (v := .sc _) rfl rfl (fun _ => rfl) ?_
                      refine brR hR (fun h106 hR => ?_) fun h106 hR => ?_
                      · refine pu (v := .sc _) (wtG rfl rfl rfl h106) rfl (fun _ => rfl) ?_
                        refine pu (v := .sc _) (wtG rfl rfl rfl h106) rfl (fun _ => rfl) ?_
                        refine pu (v := .sc _) (wtG rfl rfl rfl h106) rfl (fun _ => rfl) ?_
                        refine pkT (v := .sc (.bool (decide ((w6 (v31 - z85)) < b)))) rfl rfl h106 rfl ?_
                        refine RunC.fin ?_
                        have hR := Option.some.inj hR; subst hR
                        exact Weak.turnL [(0, 0)] [] rfl rfl (tc (trS' rfl rfl rfl rfl rfl) (tc (.sc _) (tc (.fn (.cons (.rp (Cl.tr _ _ _ _ id) (Cl.leaf _ _)) (.nil))) (tc (.sc _) (tc (.sc _) (tc (.sc _) tn)))))) (mc rfl (btrA' rfl) mn)
                      · refine sk (skW rfl rfl rfl h106) ?_
                        refine sk (skW rfl rfl rfl h106) ?_
                        refine sk (skW rfl rfl rfl h106) ?_
                        refine pkF (v := .sc (.bool false)) rfl rfl h106 rfl ?_
                        refine RunC.fin ?_
                        have hR := Option.some.inj hR; subst hR
                        exact Weak.turnL [(0, 0)] [] rfl rfl (tc (trS' rfl rfl rfl rfl rfl) (tc (.sc _) (tc (.fn (.cons (.rp (Cl.tr _ _ _ _ id) (Cl.leaf _ _)) (.nil))) (tc (.sc _) (tc (.sc _) (tc (.sc _) tn)))))) (mc rfl (btrA' rfl) mn)
                    · refine AWP.cd hR rfl (fun h107 hR => ?_) fun h107 hR => ?_
                      · refine AWP.rgC 25 rfl rfl ?_
                        refine pu (v := slV Int _ _ _ _) rfl rfl (fun _ => rfl) ?_
                        refine pu (v := .sc _) rfl rfl (fun _ => rfl) ?_
                        refine pu (v := .sc _) rfl rfl (fun _ => rfl) ?_
                        refine pu (v := .sc _) rfl rfl (fun _ => rfl) ?_
                        refine pu (v := .fn _ _) rfl rfl (fun _ => rfl) ?_
                        obtain ⟨r108, hr108, hR⟩ := bindE hR
                        obtain ⟨h109, hR⟩ := chkE hR
                        refine cps (res' := .tup []) (ups := [(0, arrB (α := Int) 3 0 false r108)]) [0] 21 rfl rfl rfl cb62 (ih r102 (w6 (Int.fdiv (IntKind.wrap .u64 (w6 (a + b))) (2 ^ 1))) (w6 (v31 - z85)) b cmpc0 _ hr108) (.cons (ldM2 rfl rfl (by first | assumption | omega)) (.cons (.sc _) (.cons (.sc _) (.cons (.sc _) (.cons (.fn (.cons (.rp (Cl.ld _ _ _) (Cl.leaf _ _)) (.nil))) (.nil)))))) (pc rfl bldA pn) rfl rfl rfl rfl rfl (by first | rfl | exact renR | exact renA | exact renS | simp only [V.ren, V.rens, renR, renA, renS] | (simp only [V.ren, V.rens, renR, renA, renS]; rfl)) (by simp only [passUps, renBox, renArr]; rfl) ?_
                        refine RunC.nil ?_
                        have hR := Option.some.inj hR; subst hR
                        exact hQ _ _ (LS.mk [] (lblks 0 [arrB (α := Int) 3 0 false r108]) 1) (.tup []) [] (.inl rfl) (Weak.turnL [(0, 0)] [] rfl rfl tn (mc rfl (btrA' rfl) mn)) (ro0 ) rfl rfl (.tup .nil) (pc rfl bldA pn)
                      · refine AWP.skip ?_
                        have hR := Option.some.inj hR; subst hR
                        exact hQ _ _ (LS.mk [] (lblks 0 [arrB (α := Int) 3 0 false r102]) 1) (.tup []) [] (.inl rfl) (Weak.turnL [(0, 0)] [] rfl rfl tn (mc rfl (btrA' rfl) mn)) (ro0 ) rfl rfl (.tup .nil) (pc rfl bldA pn)
                  · refine AWP.skip ?_
                    refine skT ?_
                    refine AWP.joinX (fun z110 : Bool => LS.mk [(0, slV Int 0 0 0 data.length), (3, .sc (.int .i64 b)), (4, .fn (.func 34) [.rp (Cl.c false (cmpc0 : Cells))]), (18, .sc (.int .i64 (w6 (Int.fdiv (IntKind.wrap .u64 (w6 (a + b))) (2 ^ 1))))), (24, .sc (.int .i64 (w6 (v31 - z85)))), (213, .sc (.bool z110))] (lblks 0 [arrB (α := Int) 3 0 false r96]) 1) hR (fun o110 hR => ?_) fun z110 hR => ?_
                    · refine AWP.rgC 33 rfl rfl ?_
                      refine pu (v := .sc _) rfl rfl (fun _ => rfl) ?_
                      refine pu (v := .sc _) rfl rfl (fun _ => rfl) ?_
                      obtain ⟨v111, ev111, hR⟩ := letE hR
                      refine pu (v := .sc _) rfl rfl (fun _ => puB ev111) ?_
                      refine pu (v := .sc _) rfl rfl (fun _ => rfl) ?_
                      refine brR hR (fun h112 hR => ?_) fun h112 hR => ?_
                      · refine pu (v := .sc _) (wtG rfl rfl rfl h112) rfl (fun _ => rfl) ?_
                        refine pu (v := .sc _) (wtG rfl rfl rfl h112) rfl (fun _ => rfl) ?_
                        refine pu (v := .sc _) (wtG rfl rfl rfl h112) rfl (fun _ => rfl) ?_
                        refine pkT (v := .sc (.bool (decide ((w6 (v31 - z85)) < b)))) rfl rfl h112 rfl ?_
                        refine RunC.fin ?_
                        have hR := Option.some.inj hR; subst hR
                        exact Weak.turnL [(0, 0)] [] rfl rfl (tc (trS' rfl rfl rfl rfl rfl) (tc (.sc _) (tc (.fn (.cons (.rp (Cl.tr _ _ _ _ id) (Cl.leaf _ _)) (.nil))) (tc (.sc _) (tc (.sc _) (tc (.sc _) tn)))))) (mc rfl (btrA' rfl) mn)
                      · refine sk (skW rfl rfl rfl h112) ?_
                        refine sk (skW rfl rfl rfl h112) ?_
                        refine sk (skW rfl rfl rfl h112) ?_
                        refine pkF (v := .sc (.bool false)) rfl rfl h112 rfl ?_
                        refine RunC.fin ?_
                        have hR := Option.some.inj hR; subst hR
                        exact Weak.turnL [(0, 0)] [] rfl rfl (tc (trS' rfl rfl rfl rfl rfl) (tc (.sc _) (tc (.fn (.cons (.rp (Cl.tr _ _ _ _ id) (Cl.leaf _ _)) (.nil))) (tc (.sc _) (tc (.sc _) (tc (.sc _) tn)))))) (mc rfl (btrA' rfl) mn)
                    · refine AWP.cd hR rfl (fun h113 hR => ?_) fun h113 hR => ?_
                      · refine AWP.rgC 25 rfl rfl ?_
                        refine pu (v := slV Int _ _ _ _) rfl rfl (fun _ => rfl) ?_
                        refine pu (v := .sc _) rfl rfl (fun _ => rfl) ?_
                        refine pu (v := .sc _) rfl rfl (fun _ => rfl) ?_
                        refine pu (v := .sc _) rfl rfl (fun _ => rfl) ?_
                        refine pu (v := .fn _ _) rfl rfl (fun _ => rfl) ?_
                        obtain ⟨r114, hr114, hR⟩ := bindE hR
                        obtain ⟨h115, hR⟩ := chkE hR
                        refine cps (res' := .tup []) (ups := [(0, arrB (α := Int) 3 0 false r114)]) [0] 21 rfl rfl rfl cb62 (ih r96 (w6 (Int.fdiv (IntKind.wrap .u64 (w6 (a + b))) (2 ^ 1))) (w6 (v31 - z85)) b cmpc0 _ hr114) (.cons (ldM2 rfl rfl (by first | assumption | omega)) (.cons (.sc _) (.cons (.sc _) (.cons (.sc _) (.cons (.fn (.cons (.rp (Cl.ld _ _ _) (Cl.leaf _ _)) (.nil))) (.nil)))))) (pc rfl bldA pn) rfl rfl rfl rfl rfl (by first | rfl | exact renR | exact renA | exact renS | simp only [V.ren, V.rens, renR, renA, renS] | (simp only [V.ren, V.rens, renR, renA, renS]; rfl)) (by simp only [passUps, renBox, renArr]; rfl) ?_
                        refine RunC.nil ?_
                        have hR := Option.some.inj hR; subst hR
                        exact hQ _ _ (LS.mk [] (lblks 0 [arrB (α := Int) 3 0 false r114]) 1) (.tup []) [] (.inl rfl) (Weak.turnL [(0, 0)] [] rfl rfl tn (mc rfl (btrA' rfl) mn)) (ro0 ) rfl rfl (.tup .nil) (pc rfl bldA pn)
                      · refine AWP.skip ?_
                        have hR := Option.some.inj hR; subst hR
                        exact hQ _ _ (LS.mk [] (lblks 0 [arrB (α := Int) 3 0 false r96]) 1) (.tup []) [] (.inl rfl) (Weak.turnL [(0, 0)] [] rfl rfl tn (mc rfl (btrA' rfl) mn)) (ro0 ) rfl rfl (.tup .nil) (pc rfl bldA pn)
              · refine AWP.skip ?_
                refine skT ?_
                refine AWP.sq ?_
                refine AWP.joinX (fun z116 : Bool => LS.mk [(0, slV Int 0 0 0 data.length), (1, .sc (.int .i64 a)), (3, .sc (.int .i64 b)), (4, .fn (.func 34) [.rp (Cl.c false (cmpc0 : Cells))]), (18, .sc (.int .i64 (w6 (Int.fdiv (IntKind.wrap .u64 (w6 (a + b))) (2 ^ 1))))), (20, .sc (.int .i64 z85)), (24, .sc (.int .i64 (w6 (v31 - z85)))), (199, .sc (.bool z116))] (lblks 0 [arrB (α := Int) 3 0 false data]) 1) hR (fun o116 hR => ?_) fun z116 hR => ?_
                · refine AWP.rgC 33 rfl rfl ?_
                  refine pu (v := .sc _) rfl rfl (fun _ => rfl) ?_
                  refine pu (v := .sc _) rfl rfl (fun _ => rfl) ?_
                  refine pu (v := .sc _) rfl rfl (fun _ => rfl) ?_
                  refine pu (v := .sc _) rfl rfl (fun _ => rfl) ?_
                  refine brR hR (fun h117 hR => ?_) fun h117 hR => ?_
                  · refine pu (v := .sc _) (wtG rfl rfl rfl h117) rfl (fun _ => rfl) ?_
                    refine pu (v := .sc _) (wtG rfl rfl rfl h117) rfl (fun _ => rfl) ?_
                    obtain ⟨v118, ev118, hR⟩ := letE hR
                    refine pu (v := .sc _) (wtG rfl rfl rfl h117) rfl (fun _ => puB ev118) ?_
                    refine pkT (v := .sc (.bool v118)) rfl rfl h117 rfl ?_
                    refine RunC.fin ?_
                    have hR := Option.some.inj hR; subst hR
                    exact Weak.turnL [(0, 0)] [] rfl rfl (tc (trS' rfl rfl rfl rfl rfl) (tc (.sc _) (tc (.sc _) (tc (.fn (.cons (.rp (Cl.tr _ _ _ _ id) (Cl.leaf _ _)) (.nil))) (tc (.sc _) (tc (.sc _) (tc (.sc _) (tc (.sc _) tn)))))))) (mc rfl (btrA' rfl) mn)
                  · refine sk (skW rfl rfl rfl h117) ?_
                    refine sk (skW rfl rfl rfl h117) ?_
                    refine sk (skW rfl rfl rfl h117) ?_
                    refine pkF (v := .sc (.bool false)) rfl rfl h117 rfl ?_
                    refine RunC.fin ?_
                    have hR := Option.some.inj hR; subst hR
                    exact Weak.turnL [(0, 0)] [] rfl rfl (tc (trS' rfl rfl rfl rfl rfl) (tc (.sc _) (tc (.sc _) (tc (.fn (.cons (.rp (Cl.tr _ _ _ _ id) (Cl.leaf _ _)) (.nil))) (tc (.sc _) (tc (.sc _) (tc (.sc _) (tc (.sc _) tn)))))))) (mc rfl (btrA' rfl) mn)
                · refine AWP.cd hR rfl (fun h119 hR => ?_) fun h119 hR => ?_
                  · refine AWP.rgC 25 rfl rfl ?_
                    refine pu (v := slV Int _ _ _ _) rfl rfl (fun _ => rfl) ?_
                    refine pu (v := .sc _) rfl rfl (fun _ => rfl) ?_
                    refine pu (v := .sc _) rfl rfl (fun _ => rfl) ?_
                    refine pu (v := .sc _) rfl rfl (fun _ => rfl) ?_
                    refine pu (v := .fn _ _) rfl rfl (fun _ => rfl) ?_
                    obtain ⟨r120, hr120, hR⟩ := bindE hR
                    obtain ⟨h121, hR⟩ := chkE hR
                    refine cps (res' := .tup []) (ups := [(0, arrB (α := Int) 3 0 false r120)]) [0] 21 rfl rfl rfl cb62 (ih data a z85 (w6 (Int.fdiv (IntKind.wrap .u64 (w6 (a + b))) (2 ^ 1))) cmpc0 _ hr120) (.cons (ldM rfl rfl) (.cons (.sc _) (.cons (.sc _) (.cons (.sc _) (.cons (.fn (.cons (.rp (Cl.ld _ _ _) (Cl.leaf _ _)) (.nil))) (.nil)))))) (pc rfl bldA pn) rfl rfl rfl rfl rfl (by first | rfl | exact renR | exact renA | exact renS | simp only [V.ren, V.rens, renR, renA, renS] | (simp only [V.ren, V.rens, renR, renA, renS]; rfl)) (by simp only [passUps, renBox, renArr]; rfl) ?_
                    refine RunC.fin ?_
                    refine AWP.joinX (fun z122 : Bool => LS.mk [(0, slV Int 0 0 0 data.length), (3, .sc (.int .i64 b)), (4, .fn (.func 34) [.rp (Cl.c false (cmpc0 : Cells))]), (18, .sc (.int .i64 (w6 (Int.fdiv (IntKind.wrap .u64 (w6 (a + b))) (2 ^ 1))))), (24, .sc (.int .i64 (w6 (v31 - z85)))), (213, .sc (.bool z122))] (lblks 0 [arrB (α := Int) 3 0 false r120]) 1) hR (fun o122 hR => ?_) fun z122 hR => ?_
                    · refine AWP.rgC 57 rfl rfl ?_
                      refine pu (v := .sc _) rfl rfl (fun _ => rfl) ?_
                      refine pu (v := .sc _) rfl rfl (fun _ => rfl) ?_
                      obtain ⟨v123, ev123, hR⟩ := letE hR
                      refine pu (v := .sc _) rfl rfl (fun _ => puB ev123) ?_
                      refine pu (v := .sc _) rfl rfl (fun _ => rfl) ?_
                      refine brR hR (fun h124 hR => ?_) fun h124 hR => ?_
                      · refine pu (v := .sc _) (wtG rfl rfl rfl h124) rfl (fun _ => rfl) ?_
                        refine pu (v := .sc _) (wtG rfl rfl rfl h124) rfl (fun _ => rfl) ?_
                        refine pu (v := .sc _) (wtG rfl rfl rfl h124) rfl (fun _ => rfl) ?_
                        refine pkT (v := .sc (.bool (decide ((w6 (v31 - z85)) < b)))) rfl rfl h124 rfl ?_
                        refine RunC.fin ?_
                        have hR := Option.some.inj hR; subst hR
                        exact Weak.turnL [(0, 0)] [] rfl rfl (tc (trS' rfl rfl rfl rfl rfl) (tc (.sc _) (tc (.fn (.cons (.rp (Cl.tr _ _ _ _ id) (Cl.leaf _ _)) (.nil))) (tc (.sc _) (tc (.sc _) (tc (.sc _) tn)))))) (mc rfl (btrA' rfl) mn)
                      · refine sk (skW rfl rfl rfl h124) ?_
                        refine sk (skW rfl rfl rfl h124) ?_
                        refine sk (skW rfl rfl rfl h124) ?_
                        refine pkF (v := .sc (.bool false)) rfl rfl h124 rfl ?_
                        refine RunC.fin ?_
                        have hR := Option.some.inj hR; subst hR
                        exact Weak.turnL [(0, 0)] [] rfl rfl (tc (trS' rfl rfl rfl rfl rfl) (tc (.sc _) (tc (.fn (.cons (.rp (Cl.tr _ _ _ _ id) (Cl.leaf _ _)) (.nil))) (tc (.sc _) (tc (.sc _) (tc (.sc _) tn)))))) (mc rfl (btrA' rfl) mn)
                    · refine AWP.cd hR rfl (fun h125 hR => ?_) fun h125 hR => ?_
                      · refine AWP.rgC 25 rfl rfl ?_
                        refine pu (v := slV Int _ _ _ _) rfl rfl (fun _ => rfl) ?_
                        refine pu (v := .sc _) rfl rfl (fun _ => rfl) ?_
                        refine pu (v := .sc _) rfl rfl (fun _ => rfl) ?_
                        refine pu (v := .sc _) rfl rfl (fun _ => rfl) ?_
                        refine pu (v := .fn _ _) rfl rfl (fun _ => rfl) ?_
                        obtain ⟨r126, hr126, hR⟩ := bindE hR
                        obtain ⟨h127, hR⟩ := chkE hR
                        refine cps (res' := .tup []) (ups := [(0, arrB (α := Int) 3 0 false r126)]) [0] 21 rfl rfl rfl cb62 (ih r120 (w6 (Int.fdiv (IntKind.wrap .u64 (w6 (a + b))) (2 ^ 1))) (w6 (v31 - z85)) b cmpc0 _ hr126) (.cons (ldM2 rfl rfl (by first | assumption | omega)) (.cons (.sc _) (.cons (.sc _) (.cons (.sc _) (.cons (.fn (.cons (.rp (Cl.ld _ _ _) (Cl.leaf _ _)) (.nil))) (.nil)))))) (pc rfl bldA pn) rfl rfl rfl rfl rfl (by first | rfl | exact renR | exact renA | exact renS | simp only [V.ren, V.rens, renR, renA, renS] | (simp only [V.ren, V.rens, renR, renA, renS]; rfl)) (by simp only [passUps, renBox, renArr]; rfl) ?_
                        refine RunC.nil ?_
                        have hR := Option.some.inj hR; subst hR
                        exact hQ _ _ (LS.mk [] (lblks 0 [arrB (α := Int) 3 0 false r126]) 1) (.tup []) [] (.inl rfl) (Weak.turnL [(0, 0)] [] rfl rfl tn (mc rfl (btrA' rfl) mn)) (ro0 ) rfl rfl (.tup .nil) (pc rfl bldA pn)
                      · refine AWP.skip ?_
                        have hR := Option.some.inj hR; subst hR
                        exact hQ _ _ (LS.mk [] (lblks 0 [arrB (α := Int) 3 0 false r120]) 1) (.tup []) [] (.inl rfl) (Weak.turnL [(0, 0)] [] rfl rfl tn (mc rfl (btrA' rfl) mn)) (ro0 ) rfl rfl (.tup .nil) (pc rfl bldA pn)
                  · refine AWP.skip ?_
                    refine skT ?_
                    refine AWP.joinX (fun z128 : Bool => LS.mk [(0, slV Int 0 0 0 data.length), (3, .sc (.int .i64 b)), (4, .fn (.func 34) [.rp (Cl.c false (cmpc0 : Cells))]), (18, .sc (.int .i64 (w6 (Int.fdiv (IntKind.wrap .u64 (w6 (a + b))) (2 ^ 1))))), (24, .sc (.int .i64 (w6 (v31 - z85)))), (213, .sc (.bool z128))] (lblks 0 [arrB (α := Int) 3 0 false data]) 1) hR (fun o128 hR => ?_) fun z128 hR => ?_
                    · refine AWP.rgC 33 rfl rfl ?_
                      refine pu (v := .sc _) rfl rfl (fun _ => rfl) ?_
                      refine pu (v := .sc _) rfl rfl (fun _ => rfl) ?_
                      obtain ⟨v129, ev129, hR⟩ := letE hR
                      refine pu (v := .sc _) rfl rfl (fun _ => puB ev129) ?_
                      refine pu (v := .sc _) rfl rfl (fun _ => rfl) ?_
                      refine brR hR (fun h130 hR => ?_) fun h130 hR => ?_
                      · refine pu (v := .sc _) (wtG rfl rfl rfl h130) rfl (fun _ => rfl) ?_
                        refine pu (v := .sc _) (wtG rfl rfl rfl h130) rfl (fun _ => rfl) ?_
                        refine pu (v := .sc _) (wtG rfl rfl rfl h130) rfl (fun _ => rfl) ?_
                        refine pkT (v := .sc (.bool (decide ((w6 (v31 - z85)) < b)))) rfl rfl h130 rfl ?_
                        refine RunC.fin ?_
                        have hR := Option.some.inj hR; subst hR
                        exact Weak.turnL [(0, 0)] [] rfl rfl (tc (trS' rfl rfl rfl rfl rfl) (tc (.sc _) (tc (.fn (.cons (.rp (Cl.tr _ _ _ _ id) (Cl.leaf _ _)) (.nil))) (tc (.sc _) (tc (.sc _) (tc (.sc _) tn)))))) (mc rfl (btrA' rfl) mn)
                      · refine sk (skW rfl rfl rfl h130) ?_
                        refine sk (skW rfl rfl rfl h130) ?_
                        refine sk (skW rfl rfl rfl h130) ?_
                        refine pkF (v := .sc (.bool false)) rfl rfl h130 rfl ?_
                        refine RunC.fin ?_
                        have hR := Option.some.inj hR; subst hR
                        exact Weak.turnL [(0, 0)] [] rfl rfl (tc (trS' rfl rfl rfl rfl rfl) (tc (.sc _) (tc (.fn (.cons (.rp (Cl.tr _ _ _ _ id) (Cl.leaf _ _)) (.nil))) (tc (.sc _) (tc (.sc _) (tc (.sc _) tn)))))) (mc rfl (btrA' rfl) mn)
                    · refine AWP.cd hR rfl (fun h131 hR => ?_) fun h131 hR => ?_
                      · refine AWP.rgC 25 rfl rfl ?_
                        refine pu (v := slV Int _ _ _ _) rfl rfl (fun _ => rfl) ?_
                        refine pu (v := .sc _) rfl rfl (fun _ => rfl) ?_
                        refine pu (v := .sc _) rfl rfl (fun _ => rfl) ?_
                        refine pu (v := .sc _) rfl rfl (fun _ => rfl) ?_
                        refine pu (v := .fn _ _) rfl rfl (fun _ => rfl) ?_
                        obtain ⟨r132, hr132, hR⟩ := bindE hR
                        obtain ⟨h133, hR⟩ := chkE hR
                        refine cps (res' := .tup []) (ups := [(0, arrB (α := Int) 3 0 false r132)]) [0] 21 rfl rfl rfl cb62 (ih data (w6 (Int.fdiv (IntKind.wrap .u64 (w6 (a + b))) (2 ^ 1))) (w6 (v31 - z85)) b cmpc0 _ hr132) (.cons (ldM rfl rfl) (.cons (.sc _) (.cons (.sc _) (.cons (.sc _) (.cons (.fn (.cons (.rp (Cl.ld _ _ _) (Cl.leaf _ _)) (.nil))) (.nil)))))) (pc rfl bldA pn) rfl rfl rfl rfl rfl (by first | rfl | exact renR | exact renA | exact renS | simp only [V.ren, V.rens, renR, renA, renS] | (simp only [V.ren, V.rens, renR, renA, renS]; rfl)) (by simp only [passUps, renBox, renArr]; rfl) ?_
                        refine RunC.nil ?_
                        have hR := Option.some.inj hR; subst hR
                        exact hQ _ _ (LS.mk [] (lblks 0 [arrB (α := Int) 3 0 false r132]) 1) (.tup []) [] (.inl rfl) (Weak.turnL [(0, 0)] [] rfl rfl tn (mc rfl (btrA' rfl) mn)) (ro0 ) rfl rfl (.tup .nil) (pc rfl bldA pn)
                      · refine AWP.skip ?_
                        have hR := Option.some.inj hR; subst hR
                        exact hQ _ _ (LS.mk [] (lblks 0 [arrB (α := Int) 3 0 false data]) 1) (.tup []) [] (.inl rfl) (Weak.turnL [(0, 0)] [] rfl rfl tn (mc rfl (btrA' rfl) mn)) (ro0 ) rfl rfl (.tup .nil) (pc rfl bldA pn)
theorem ok46 (data : List Int) (n : Int) (cmpc0 : Cells) (r : (List Int)) (hR : slices_stableCmpFunc_Int_find_Sure_1 data n cmpc0 = some r) : FnD Try.prog 46 [arrB 3 0 false data] [slV Int 0 0 0 data.length, .sc (.int .i64 n), .fn (.func 34) [.rp (Cl.c false cmpc0)]] (.tup []) [arrB 3 0 false r] := by
  refine FnX.walk Try.func46 rfl 63 1 (by simp [Try.ntmps46]) rfl fun W S F Q hQ => ?_
  unfold slices_stableCmpFunc_Int_find_Sure_1 at hR
  refine AWP.sq ?_
  refine AWP.rgC 5 rfl rfl ?_
  refine pu (v := .sc _) rfl rfl (fun _ => rfl) ?_
  refine RunC.fin ?_
  refine AWP.sq ?_
  refine AWP.rgC 17 rfl rfl ?_
  refine pu (v := .sc _) rfl rfl (fun _ => rfl) ?_
  refine pu (v := .sc _) rfl rfl (fun _ => rfl) ?_
  refine pu (v := .sc _) rfl rfl (fun _ => rfl) ?_
  refine RunC.fin ?_
  refine AWP.sq ?_
  refine AWP.loopJ (fun s1 : (List Int) × Int × Int => LS.mk [(0, slV Int 0 0 0 s1.1.length), (1, .sc (.int .i64 n)), (2, .fn (.func 34) [.rp (Cl.c false (cmpc0 : Cells))]), (6, .sc (.int .i64 20)), (7, .sc (.int .i64 s1.2.1)), (8, .sc (.int .i64 s1.2.2))] (lblks 0 [arrB (α := Int) 3 0 false s1.1]) 1) (fun z2 : (List Int) × Int => LS.mk [(0, slV Int 0 0 0 z2.1.length), (1, .sc (.int .i64 n)), (2, .fn (.func 34) [.rp (Cl.c false (cmpc0 : Cells))]), (6, .sc (.int .i64 20)), (7, .sc (.int .i64 z2.2))] (lblks 0 [arrB (α := Int) 3 0 false z2.1]) 1) (slices_stableCmpFunc_Int_find_Sure_1.l1 n cmpc0) hR (s0 := (data, 0, 20)) (Weak.turnL [(0, 0)] [] rfl rfl (tc (trS' rfl rfl rfl rfl rfl) (tc (.sc _) (tc (.fn (.cons (.rp (Cl.tr _ _ _ _ id) (Cl.leaf _ _)) (.nil))) (tc (.sc _) (tc (.sc _) (tc (.sc _) tn)))))) (mc rfl (btrA' rfl) mn)) (fun s1 o1 hR => ?_) fun z2 hR => ?_
  · unfold slices_stableCmpFunc_Int_find_Sure_1.l1 at hR
    refine AWP.sq ?_
    refine AWP.sq ?_
    refine AWP.rgC 13 rfl rfl ?_
    refine pu (v := .sc _) rfl rfl (fun _ => rfl) ?_
    refine pu (v := .sc _) rfl rfl (fun _ => rfl) ?_
    refine pu (v := .sc _) rfl rfl (fun _ => rfl) ?_
    refine RunC.fin ?_
    refine AWP.cd hR rfl (fun h3 hR => ?_) fun h3 hR => ?_
    · refine AWP.skip ?_
      refine skT ?_
      refine AWP.block ?_
      refine AWP.sq ?_
      refine AWP.rgC 33 rfl rfl ?_
      refine pu (v := slV Int _ _ _ _) rfl rfl (fun _ => rfl) ?_
      refine pu (v := .sc _) rfl rfl (fun _ => rfl) ?_
      refine pu (v := .sc _) rfl rfl (fun _ => rfl) ?_
      refine pu (v := .fn _ _) rfl rfl (fun _ => rfl) ?_
      obtain ⟨r4, hr4, hR⟩ := bindE hR
      obtain ⟨h5, hR⟩ := chkE hR
      refine cps (res' := .tup []) (ups := [(0, arrB (α := Int) 3 0 false r4)]) [0] 29 rfl rfl rfl cb61 (ok61 s1.1 s1.2.1 s1.2.2 cmpc0 _ hr4) (.cons (ldM rfl rfl) (.cons (.sc _) (.cons (.sc _) (.cons (.fn (.cons (.rp (Cl.ld _ _ _) (Cl.leaf _ _)) (.nil))) (.nil))))) (pc rfl bldA pn) rfl rfl rfl rfl rfl (by first | rfl | exact renR | exact renA | exact renS | simp only [V.ren, V.rens, renR, renA, renS] | (simp only [V.ren, V.rens, renR, renA, renS]; rfl)) (by simp only [passUps, renBox, renArr]; rfl) ?_
      refine RunC.fin ?_
      refine AWP.sq ?_
      refine AWP.rgC 41 rfl rfl ?_
      refine pu (v := .sc _) rfl rfl (fun _ => rfl) ?_
      refine pu (v := .sc _) rfl rfl (fun _ => rfl) ?_
      refine RunC.fin ?_
      refine AWP.rgC 57 rfl rfl ?_
      refine pu (v := .sc _) rfl rfl (fun _ => rfl) ?_
      refine pu (v := .sc _) rfl rfl (fun _ => rfl) ?_
      refine pu (v := .sc _) rfl rfl (fun _ => rfl) ?_
      refine pu (v := .sc _) rfl rfl (fun _ => rfl) ?_
      refine RunC.blk ?_
      refine RunC.fin ?_
      refine ⟨(r4, s1.2.2, w6 (s1.2.2 + 20)), (Option.some.inj hR).symm, ?_⟩
      exact Weak.turnL [(0, 0)] [] rfl rfl (tc (trS' rfl rfl rfl rfl h5) (tc (.sc _) (tc (.fn (.cons (.rp (Cl.tr _ _ _ _ id) (Cl.leaf _ _)) (.nil))) (tc (.sc _) (tc (.sc _) (tc (.sc _) tn)))))) (mc rfl (btrA' rfl) mn)
    · refine AWP.exit ?_
      refine exT ?_
      refine exT ?_
      refine exH (skT ?_)
      refine ⟨(s1.1, s1.2.1), (Option.some.inj hR).symm, ?_⟩
      exact Weak.turnL [(0, 0)] [] rfl rfl (tc (trS' rfl rfl rfl rfl rfl) (tc (.sc _) (tc (.fn (.cons (.rp (Cl.tr _ _ _ _ id) (Cl.leaf _ _)) (.nil))) (tc (.sc _) (tc (.sc _) tn))))) (mc rfl (btrA' rfl) mn)
  · refine skT ?_
    refine AWP.sq ?_
    refine AWP.rgC 21 rfl rfl ?_
    refine pu (v := slV Int _ _ _ _) rfl rfl (fun _ => rfl) ?_
    refine pu (v := .sc _) rfl rfl (fun _ => rfl) ?_
    refine pu (v := .sc _) rfl rfl (fun _ => rfl) ?_
    refine pu (v := .fn _ _) rfl rfl (fun _ => rfl) ?_
    obtain ⟨r6, hr6, hR⟩ := bindE hR
    obtain ⟨h7, hR⟩ := chkE hR
    refine cps (res' := .tup []) (ups := [(0, arrB (α := Int) 3 0 false r6)]) [0] 17 rfl rfl rfl cb61 (ok61 z2.1 z2.2 n cmpc0 _ hr6) (.cons (ldM rfl rfl) (.cons (.sc _) (.cons (.sc _) (.cons (.fn (.cons (.rp (Cl.ld _ _ _) (Cl.leaf _ _)) (.nil))) (.nil))))) (pc rfl bldA pn) rfl rfl rfl rfl rfl (by first | rfl | exact renR | exact renA | exact renS | simp only [V.ren, V.rens, renR, renA, renS] | (simp only [V.ren, V.rens, renR, renA, renS]; rfl)) (by simp only [passUps, renBox, renArr]; rfl) ?_
    refine RunC.fin ?_
    refine AWP.loopJ (fun s8 : (List Int) × Int => LS.mk [(0, slV Int 0 0 0 s8.1.length), (1, .sc (.int .i64 n)), (2, .fn (.func 34) [.rp (Cl.c false (cmpc0 : Cells))]), (6, .sc (.int .i64 s8.2))] (lblks 0 [arrB (α := Int) 3 0 false s8.1]) 1) (fun z9 : (List Int) => LS.mk [] (lblks 0 [arrB (α := Int) 3 0 false z9]) 1) (slices_stableCmpFunc_Int_find_Sure_1.l2 n cmpc0) hR (s0 := (r6, 20)) (Weak.turnL [(0, 0)] [] rfl rfl (tc (trS' rfl rfl rfl rfl h7) (tc (.sc _) (tc (.fn (.cons (.rp (Cl.tr _ _ _ _ id) (Cl.leaf _ _)) (.nil))) (tc (.sc _) tn)))) (mc rfl (btrA' rfl) mn)) (fun s8 o8 hR => ?_) fun z9 hR => ?_
    · unfold slices_stableCmpFunc_Int_find_Sure_1.l2 at hR
      refine AWP.sq ?_
      refine AWP.sq ?_
      refine AWP.rgC 13 rfl rfl ?_
      refine pu (v := .sc _) rfl rfl (fun _ => rfl) ?_
      refine pu (v := .sc _) rfl rfl (fun _ => rfl) ?_
      refine pu (v := .sc _) rfl rfl (fun _ => rfl) ?_
      refine RunC.fin ?_
      refine AWP.cd hR rfl (fun h10 hR => ?_) fun h10 hR => ?_
      · refine AWP.skip ?_
        refine skT ?_
        refine AWP.block ?_
        refine AWP.sq ?_
        refine AWP.rgC 29 rfl rfl ?_
        refine pu (v := .sc _) rfl rfl (fun _ => rfl) ?_
        refine pu (v := .sc _) rfl rfl (fun _ => rfl) ?_
        refine pu (v := .sc _) rfl rfl (fun _ => rfl) ?_
        refine pu (v := .sc _) rfl rfl (fun _ => rfl) ?_
        refine RunC.fin ?_
        refine AWP.sq ?_
        refine AWP.loopJ (fun s11 : (List Int) × Int × Int => LS.mk [(0, slV Int 0 0 0 s11.1.length), (1, .sc (.int .i64 n)), (2, .fn (.func 34) [.rp (Cl.c false (cmpc0 : Cells))]), (6, .sc (.int .i64 s8.2)), (7, .sc (.int .i64 s11.2.1)), (8, .sc (.int .i64 s11.2.2))] (lblks 0 [arrB (α := Int) 3 0 false s11.1]) 1) (fun z12 : (List Int) × Int => LS.mk [(0, slV Int 0 0 0 z12.1.length), (1, .sc (.int .i64 n)), (2, .fn (.func 34) [.rp (Cl.c false (cmpc0 : Cells))]), (6, .sc (.int .i64 s8.2)), (7, .sc (.int .i64 z12.2))] (lblks 0 [arrB (α := Int) 3 0 false z12.1]) 1) (slices_stableCmpFunc_Int_find_Sure_1.l3 n cmpc0 s8) hR (s0 := (s8.1, 0, w6 (2 * s8.2))) (Weak.turnL [(0, 0)] [] rfl rfl (tc (trS' rfl rfl rfl rfl rfl) (tc (.sc _) (tc (.fn (.cons (.rp (Cl.tr _ _ _ _ id) (Cl.leaf _ _)) (.nil))) (tc (.sc _) (tc (.sc _) (tc (.sc _) tn)))))) (mc rfl (btrA' rfl) mn)) (fun s11 o11 hR => ?_) fun z12 hR => ?_
        · unfold slices_stableCmpFunc_Int_find_Sure_1.l3 at hR
          refine AWP.sq ?_
          refine AWP.sq ?_
          refine AWP.rgC 13 rfl rfl ?_
          refine pu (v := .sc _) rfl rfl (fun _ => rfl) ?_
          refine pu (v := .sc _) rfl rfl (fun _ => rfl) ?_
          refine pu (v := .sc _) rfl rfl (fun _ => rfl) ?_
          refine RunC.fin ?_
          refine AWP.cd hR rfl (fun h13 hR => ?_) fun h13 hR => ?_
          · refine AWP.skip ?_
            refine skT ?_
            refine AWP.block ?_
            refine AWP.sq ?_
            refine AWP.rgC 45 rfl rfl ?_
            refine pu (v := slV Int _ _ _ _) rfl rfl (fun _ => rfl) ?_
            refine pu (v := .sc _) rfl rfl (fun _ => rfl) ?_
            refine pu (v := .sc _) rfl rfl (fun _ => rfl) ?_
            refine pu (v := .sc _) rfl rfl (fun _ => rfl) ?_
            refine pu (v := .sc _) rfl rfl (fun _ => rfl) ?_
            refine pu (v := .sc _) rfl rfl (fun _ => rfl) ?_
            refine pu (v := .fn _ _) rfl rfl (fun _ => rfl) ?_
            obtain ⟨r14, hr14, hR⟩ := bindE hR
            obtain ⟨h15, hR⟩ := chkE hR
            refine cps (res' := .tup []) (ups := [(0, arrB (α := Int) 3 0 false r14)]) [0] 41 rfl rfl rfl cb62 (ok62 64 s11.1 s11.2.1 (w6 (s11.2.1 + s8.2)) s11.2.2 cmpc0 _ hr14) (.cons (ldM rfl rfl) (.cons (.sc _) (.cons (.sc _) (.cons (.sc _) (.cons (.fn (.cons (.rp (Cl.ld _ _ _) (Cl.leaf _ _)) (.nil))) (.nil)))))) (pc rfl bldA pn) rfl rfl rfl rfl rfl (by first | rfl | exact renR | exact renA | exact renS | simp only [V.ren, V.rens, renR, renA, renS] | (simp only [V.ren, V.rens, renR, renA, renS]; rfl)) (by simp only [passUps, renBox, renArr]; rfl) ?_
            refine RunC.fin ?_
            refine AWP.sq ?_
            refine AWP.rgC 53 rfl rfl ?_
            refine pu (v := .sc _) rfl rfl (fun _ => rfl) ?_
            refine pu (v := .sc _) rfl rfl (fun _ => rfl) ?_
            refine RunC.fin ?_
            refine AWP.rgC 73 rfl rfl ?_
            refine pu (v := .sc _) rfl rfl (fun _ => rfl) ?_
            refine pu (v := .sc _) rfl rfl (fun _ => rfl) ?_
            refine pu (v := .sc _) rfl rfl (fun _ => rfl) ?_
            refine pu (v := .sc _) rfl rfl (fun _ => rfl) ?_
            refine pu (v := .sc _) rfl rfl (fun _ => rfl) ?_
            refine RunC.blk ?_
            refine RunC.fin ?_
            refine ⟨(r14, s11.2.2, w6 (s11.2.2 + (w6 (2 * s8.2)))), (Option.some.inj hR).symm, ?_⟩
            exact Weak.turnL [(0, 0)] [] rfl rfl (tc (trS' rfl rfl rfl rfl h15) (tc (.sc _) (tc (.fn (.cons (.rp (Cl.tr _ _ _ _ id) (Cl.leaf _ _)) (.nil))) (tc (.sc _) (tc (.sc _) (tc (.sc _) tn)))))) (mc rfl (btrA' rfl) mn)
          · refine AWP.exit ?_
            refine exT ?_
            refine exT ?_
            refine exH (skT ?_)
            refine ⟨(s11.1, s11.2.1), (Option.some.inj hR).symm, ?_⟩
            exact Weak.turnL [(0, 0)] [] rfl rfl (tc (trS' rfl rfl rfl rfl rfl) (tc (.sc _) (tc (.fn (.cons (.rp (Cl.tr _ _ _ _ id) (Cl.leaf _ _)) (.nil))) (tc (.sc _) (tc (.sc _) tn))))) (mc rfl (btrA' rfl) mn)
        · refine skT ?_
          refine AWP.sq ?_
          refine AWP.sq ?_
          refine AWP.rgC 17 rfl rfl ?_
          refine pu (v := .sc _) rfl rfl (fun _ => rfl) ?_
          refine pu (v := .sc _) rfl rfl (fun _ => rfl) ?_
          refine pu (v := .sc _) rfl rfl (fun _ => rfl) ?_
          refine pu (v := .sc _) rfl rfl (fun _ => rfl) ?_
          refine RunC.fin ?_
          refine AWP.sq ?_
          refine AWP.rgC 29 rfl rfl ?_
          refine pu (v := .sc _) rfl rfl (fun _ => rfl) ?_
          refine pu (v := .sc _) rfl rfl (fun _ => rfl) ?_
          refine pu (v := .sc _) rfl rfl (fun _ => rfl) ?_
          refine RunC.fin ?_
          refine AWP.cd hR rfl (fun h16 hR => ?_) fun h16 hR => ?_
          · refine AWP.rgC 53 rfl rfl ?_
            refine pu (v := slV Int _ _ _ _) rfl rfl (fun _ => rfl) ?_
            refine pu (v := .sc _) rfl rfl (fun _ => rfl) ?_
            refine pu (v := .sc _) rfl rfl (fun _ => rfl) ?_
            refine pu (v := .sc _) rfl rfl (fun _ => rfl) ?_
            refine pu (v := .fn _ _) rfl rfl (fun _ => rfl) ?_
            obtain ⟨r17, hr17, hR⟩ := bindE hR
            obtain ⟨h18, hR⟩ := chkE hR
            refine cps (res' := .tup []) (ups := [(0, arrB (α := Int) 3 0 false r17)]) [0] 49 rfl rfl rfl cb62 (ok62 64 z12.1 z12.2 (w6 (z12.2 + s8.2)) n cmpc0 _ hr17) (.cons (ldM rfl rfl) (.cons (.sc _) (.cons (.sc _) (.cons (.sc _) (.cons (.fn (.cons (.rp (Cl.ld _ _ _) (Cl.leaf _ _)) (.nil))) (.nil)))))) (pc rfl bldA pn) rfl rfl rfl rfl rfl (by first | rfl | exact renR | exact renA | exact renS | simp only [V.ren, V.rens, renR, renA, renS] | (simp only [V.ren, V.rens, renR, renA, renS]; rfl)) (by simp only [passUps, renBox, renArr]; rfl) ?_
            refine RunC.fin ?_
            refine AWP.rgC 65 rfl rfl ?_
            refine pu (v := .sc _) rfl rfl (fun _ => rfl) ?_
            refine pu (v := .sc _) rfl rfl (fun _ => rfl) ?_
            refine pu (v := .sc _) rfl rfl (fun _ => rfl) ?_
            refine RunC.blk ?_
            refine RunC.fin ?_
            refine ⟨(r17, w6 (s8.2 * 2)), (Option.some.inj hR).symm, ?_⟩
            exact Weak.turnL [(0, 0)] [] rfl rfl (tc (trS' rfl rfl rfl rfl h18) (tc (.sc _) (tc (.fn (.cons (.rp (Cl.tr _ _ _ _ id) (Cl.leaf _ _)) (.nil))) (tc (.sc _) tn)))) (mc rfl (btrA' rfl) mn)
          · refine AWP.skip ?_
            refine skT ?_
            refine AWP.rgC 41 rfl rfl ?_
            refine pu (v := .sc _) rfl rfl (fun _ => rfl) ?_
            refine pu (v := .sc _) rfl rfl (fun _ => rfl) ?_
            refine pu (v := .sc _) rfl rfl (fun _ => rfl) ?_
            refine RunC.blk ?_
            refine RunC.fin ?_
            refine ⟨(z12.1, w6 (s8.2 * 2)), (Option.some.inj hR).symm, ?_⟩
            exact Weak.turnL [(0, 0)] [] rfl rfl (tc (trS' rfl rfl rfl rfl rfl) (tc (.sc _) (tc (.fn (.cons (.rp (Cl.tr _ _ _ _ id) (Cl.leaf _ _)) (.nil))) (tc (.sc _) tn)))) (mc rfl (btrA' rfl) mn)
      · refine AWP.exit ?_
        refine exT ?_
        refine exT ?_
        refine exH (skT ?_)
        refine ⟨s8.1, (Option.some.inj hR).symm, ?_⟩
        exact Weak.turnL [(0, 0)] [] rfl rfl tn (mc rfl (btrA' rfl) mn)
    · have hR := Option.some.inj hR; subst hR
      exact hQ _ _ (LS.mk [] (lblks 0 [arrB (α := Int) 3 0 false z9]) 1) (.tup []) [] (.inl rfl) (Weak.turnL [(0, 0)] [] rfl rfl tn (mc rfl (btrA' rfl) mn)) (ro0 ) rfl rfl (.tup .nil) (pc rfl bldA pn)
theorem ok33 (x : List Int) (cmpc0 : Cells) (r : (List Int)) (hR : slices_SortStableFunc_Int_find_Sure_1 x cmpc0 = some r) : FnD Try.prog 33 [arrB 3 0 false x] [slV Int 0 0 0 x.length, .fn (.func 34) [.rp (Cl.c false cmpc0)]] (.tup []) [arrB 3 0 false r] := by
  refine FnX.walk Try.func33 rfl 9 1 (by simp [Try.ntmps33]) rfl fun W S F Q hQ => ?_
  unfold slices_SortStableFunc_Int_find_Sure_1 at hR
  refine AWP.rgC 21 rfl rfl ?_
  refine pu (v := slV Int _ _ _ _) rfl rfl (fun _ => rfl) ?_
  refine pu (v := slV Int _ _ _ _) rfl rfl (fun _ => rfl) ?_
  refine lenS (α := Int) rfl rfl ti22 rfl ?_
  refine pu (v := .fn _ _) rfl rfl (fun _ => rfl) ?_
  obtain ⟨r1, hr1, hR⟩ := bindE hR
  obtain ⟨h2, hR⟩ := chkE hR
  refine cps (res' := .tup []) (ups := [(0, arrB (α := Int) 3 0 false r1)]) [0] 17 rfl rfl rfl cb46 (ok46 x (x.length : Int) cmpc0 _ hr1) (.cons (ldM rfl rfl) (.cons (.sc _) (.cons (.fn (.cons (.rp (Cl.ld _ _ _) (Cl.leaf _ _)) (.nil))) (.nil)))) (pc rfl bldA pn) rfl rfl rfl rfl rfl (by first | rfl | exact renR | exact renA | exact renS | simp only [V.ren, V.rens, renR, renA, renS] | (simp only [V.ren, V.rens, renR, renA, renS]; rfl)) (by simp only [passUps, renBox, renArr]; rfl) ?_
  refine RunC.nil ?_
  have hR := Option.some.inj hR; subst hR
  exact hQ _ _ (LS.mk [] (lblks 0 [arrB (α := Int) 3 0 false r1]) 1) (.tup []) [] (.inl rfl) (Weak.turnL [(0, 0)] [] rfl rfl tn (mc rfl (btrA' rfl) mn)) (ro0 ) rfl rfl (.tup .nil) (pc rfl bldA pn)
theorem ok61_28 (data : List Int) (a : Int) (b : Int) (cmpc0 : Cells) (r : (List Int)) (hR : slices_insertionSortCmpFunc_Int_find_Sure_1 data a b cmpc0 = some r) : FnD Try.prog 61 [arrB 3 0 false data, boxB false cmpc0] [slV Int 0 0 0 data.length, .sc (.int .i64 a), .sc (.int .i64 b), .fn (.func 34) [.ptr 1 0 0]] (.tup []) [arrB 3 0 false r, boxB false cmpc0] := by
  refine FnX.walk Try.func61 rfl 53 2 (by simp [Try.ntmps61]) rfl fun W S F Q hQ => ?_
  unfold slices_insertionSortCmpFunc_Int_find_Sure_1 at hR
  refine AWP.sq ?_
  refine AWP.rgC 14 rfl rfl ?_
  refine pu (v := .sc _) rfl rfl (fun _ => rfl) ?_
  refine pu (v := .sc _) rfl rfl (fun _ => rfl) ?_
  refine pu (v := .sc _) rfl rfl (fun _ => rfl) ?_
  refine RunC.fin ?_
  refine AWP.loopJ (fun s1 : (List Int) × Int => LS.mk [(0, slV Int 0 0 0 s1.1.length), (1, .sc (.int .i64 a)), (2, .sc (.int .i64 b)), (3, .fn (.func 34) [.ptr 1 0 0]), (8, .sc (.int .i64 s1.2))] (lblks 0 [arrB (α := Int) 3 0 false s1.1, boxB (α := Cells) false cmpc0]) 2) (fun z2 : (List Int) => LS.mk [] (lblks 0 [arrB (α := Int) 3 0 false z2, boxB (α := Cells) false cmpc0]) 2) (slices_insertionSortCmpFunc_Int_find_Sure_1.l1 a b cmpc0) hR (s0 := (data, w6 (a + 1))) (Weak.turnL [(0, 0), (1, 0)] [] rfl rfl (tc (trS' rfl rfl rfl rfl rfl) (tc (.sc _) (tc (.sc _) (tc (.fn (.cons (trP' rfl rfl rfl rfl) (.nil))) (tc (.sc _) tn))))) (mc rfl (btrA' rfl) (mc rfl (.box rfl (.cons (.sc _) (.cons (.sc _) (.cons trR1 (.nil)))) rfl) mn))) (fun s1 o1 hR => ?_) fun z2 hR => ?_
  · unfold slices_insertionSortCmpFunc_Int_find_Sure_1.l1 at hR
    refine AWP.sq ?_
    refine AWP.sq ?_
    refine AWP.rgC 14 rfl rfl ?_
    refine pu (v := .sc _) rfl rfl (fun _ => rfl) ?_
    refine pu (v := .sc _) rfl rfl (fun _ => rfl) ?_
    refine pu (v := .sc _) rfl rfl (fun _ => rfl) ?_
    refine RunC.fin ?_
    refine AWP.cd hR rfl (fun h3 hR => ?_) fun h3 hR => ?_
    · refine AWP.skip ?_
      refine skT ?_
      refine AWP.sq ?_
      refine AWP.block ?_
      refine AWP.sq ?_
      refine AWP.rgC 22 rfl rfl ?_
      refine pu (v := .sc _) rfl rfl (fun _ => rfl) ?_
      refine pu (v := .sc _) rfl rfl (fun _ => rfl) ?_
      refine RunC.fin ?_
      refine AWP.loopJ (fun s4 : (List Int) × Int => LS.mk [(0, slV Int 0 0 0 s4.1.length), (1, .sc (.int .i64 a)), (2, .sc (.int .i64 b)), (3, .fn (.func 34) [.ptr 1 0 0]), (8, .sc (.int .i64 s1.2)), (9, .sc (.int .i64 s4.2))] (lblks 0 [arrB (α := Int) 3 0 false s4.1, boxB (α := Cells) false cmpc0]) 2) (fun z5 : (List Int) => LS.mk [(0, slV Int 0 0 0 z5.length), (1, .sc (.int .i64 a)), (2, .sc (.int .i64 b)), (3, .fn (.func 34) [.ptr 1 0 0]), (8, .sc (.int .i64 s1.2))] (lblks 0 [arrB (α := Int) 3 0 false z5, boxB (α := Cells) false cmpc0]) 2) (slices_insertionSortCmpFunc_Int_find_Sure_1.l2 a cmpc0) hR (s0 := (s1.1, s1.2)) (Weak.turnL [(0, 0), (1, 0)] [] rfl rfl (tc (trS' rfl rfl rfl rfl rfl) (tc (.sc _) (tc (.sc _) (tc (.fn (.cons (trP' rfl rfl rfl rfl) (.nil))) (tc (.sc _) (tc (.sc _) tn)))))) (mc rfl (btrA' rfl) (mc rfl (.box rfl (.cons (.sc _) (.cons (.sc _) (.cons trR1 (.nil)))) rfl) mn))) (fun s4 o4 hR => ?_) fun z5 hR => ?_
      · unfold slices_insertionSortCmpFunc_Int_find_Sure_1.l2 at hR
        refine AWP.sq ?_
        refine AWP.joinX (fun z6 : Bool => LS.mk [(0, slV Int 0 0 0 s4.1.length), (1, .sc (.int .i64 a)), (2, .sc (.int .i64 b)), (3, .fn (.func 34) [.ptr 1 0 0]), (8, .sc (.int .i64 s1.2)), (9, .sc (.int .i64 s4.2)), (34, .sc (.bool z6))] (lblks 0 [arrB (α := Int) 3 0 false s4.1, boxB (α := Cells) false cmpc0]) 2) hR (fun o6 hR => ?_) fun z6 hR => ?_
        · refine AWP.rgD 70 [0, 0, 3, 7, 15, 15, 15, 111, 239, 15, 15, 1039, 3599, 7695, 16383, 32767, 65535] ⟨[], [none, none, none, none, none, none, none, none, some [0], none, none, none, none, some [0], none, none, none]⟩ hmix (by kernel_rfl) rfl rfl ?_
          refine pu (v := .sc _) rfl rfl (fun _ => rfl) ?_
          refine pu (v := .sc _) rfl rfl (fun _ => rfl) ?_
          refine pu (v := .sc _) rfl rfl (fun _ => rfl) ?_
          refine pu (v := .sc _) rfl rfl (fun _ => rfl) ?_
          refine brR hR (fun h7 hR => ?_) fun h7 hR => ?_
          · refine pu (v := .fn _ _) (wtG rfl rfl rfl h7) rfl (fun _ => rfl) ?_
            refine pu (v := slV Int _ _ _ _) (wtG rfl rfl rfl h7) rfl (fun _ => rfl) ?_
            refine pu (v := .sc _) (wtG rfl rfl rfl h7) rfl (fun _ => rfl) ?_
            obtain ⟨h8, hR⟩ := chkE hR
            refine ixS0 (α := Int) (wtG rfl rfl rfl h7) rfl rfl ti22 rfl ti3 rfl h8 ?_
            refine ldE (α := Int) (v := .sc _) (wtG rfl rfl rfl h7) rfl rfl (ixlt h8) ti3 rfl rfl rfl rfl ?_
            refine pu (v := slV Int _ _ _ _) (wtG rfl rfl rfl h7) rfl (fun _ => rfl) ?_
            refine pu (v := .sc _) (wtG rfl rfl rfl h7) rfl (fun _ => rfl) ?_
            refine pu (v := .sc _) (wtG rfl rfl rfl h7) rfl (fun _ => rfl) ?_
            obtain ⟨h9, hR⟩ := chkE hR
            refine ixS0 (α := Int) (wtG rfl rfl rfl h7) rfl rfl ti22 rfl ti3 rfl h9 ?_
            refine ldE (α := Int) (v := .sc _) (wtG rfl rfl rfl h7) rfl rfl (ixlt h9) ti3 rfl rfl rfl rfl ?_
            obtain ⟨r10, hr10, hR⟩ := bindE hR
            refine cls [1] (wtG rfl rfl rfl h7) rfl cb34 (ok34 (gt s4.1 s4.2) (gt s4.1 (w6 (s4.2 - 1))) cmpc0 _ hr10) (.cons (.sc _) (.cons (.sc _) (.cons (ldX rfl rfl (.cons (.sc _) (.cons (.sc _) (.cons ldR' (.nil)))) rfl) (.nil)))) (.inl (by first | rfl | exact freshR | exact freshA | (simp only [V.fresh, V.freshs, freshR, freshA, Bool.and_self]))) rfl ?_
            refine pu (v := .sc _) (wtG rfl rfl rfl h7) rfl (fun _ => rfl) ?_
            refine pkT (v := .sc (.bool (decide (r10 < 0)))) rfl rfl h7 rfl ?_
            refine RunC.fin ?_
            have hR := Option.some.inj hR; subst hR
            exact Weak.turnL [(0, 0), (1, 0)] [] rfl rfl (tc (trS' rfl rfl rfl rfl rfl) (tc (.sc _) (tc (.sc _) (tc (.fn (.cons (trP' rfl rfl rfl rfl) (.nil))) (tc (.sc _) (tc (.sc _) (tc (.sc _) tn))))))) (mc rfl (btrA' rfl) (mc rfl (.box rfl (.cons (.sc _) (.cons (.sc _) (.cons trR1 (.nil)))) rfl) mn))
          · refine sk (skW rfl rfl rfl h7) ?_
            refine sk (skW rfl rfl rfl h7) ?_
            refine sk (skW rfl rfl rfl h7) ?_
            refine sk (skW rfl rfl rfl h7) ?_
            refine sk (skW rfl rfl rfl h7) ?_
            refine sk (skW rfl rfl rfl h7) ?_
            refine sk (skW rfl rfl rfl h7) ?_
            refine sk (skW rfl rfl rfl h7) ?_
            refine sk (skW rfl rfl rfl h7) ?_
            refine sk (skW rfl rfl rfl h7) ?_
            refine sk (skW rfl rfl rfl h7) ?_
            refine sk (skW rfl rfl rfl h7) ?_
            refine pkF (v := .sc (.bool false)) rfl rfl h7 rfl ?_
            refine RunC.fin ?_
            have hR := Option.some.inj hR; subst hR
            exact Weak.turnL [(0, 0), (1, 0)] [] rfl rfl (tc (trS' rfl rfl rfl rfl rfl) (tc (.sc _) (tc (.sc _) (tc (.fn (.cons (trP' rfl rfl rfl rfl) (.nil))) (tc (.sc _) (tc (.sc _) (tc (.sc _) tn))))))) (mc rfl (btrA' rfl) (mc rfl (.box rfl (.cons (.sc _) (.cons (.sc _) (.cons trR1 (.nil)))) rfl) mn))
        · refine AWP.cd hR rfl (fun h11 hR => ?_) fun h11 hR => ?_
          · refine AWP.skip ?_
            refine skT ?_
            refine AWP.sq ?_
            refine AWP.block ?_
            refine AWP.rgD 74 [0, 0, 0, 0, 8, 0, 0, 64, 224, 480, 0, 0, 3072, 7168, 16355, 32739, 65535, 131071] ⟨[], [none, none, none, none, none, none, none, none, none, some [0], none, none, none, some [0], none, some [0], none, some [0]]⟩ hmix (by kernel_rfl) rfl rfl ?_
            refine pu (v := slV Int _ _ _ _) rfl rfl (fun _ => rfl) ?_
            refine pu (v := .sc _) rfl rfl (fun _ => rfl) ?_
            refine pu (v := slV Int _ _ _ _) rfl rfl (fun _ => rfl) ?_
            refine pu (v := .sc _) rfl rfl (fun _ => rfl) ?_
            refine pu (v := .sc _) rfl rfl (fun _ => rfl) ?_
            refine pu (v := slV Int _ _ _ _) rfl rfl (fun _ => rfl) ?_
            refine pu (v := .sc _) rfl rfl (fun _ => rfl) ?_
            refine pu (v := .sc _) rfl rfl (fun _ => rfl) ?_
            obtain ⟨h12, hR⟩ := chkE hR
            refine ixS0 (α := Int) rfl rfl rfl ti22 rfl ti3 rfl h12 ?_
            refine ldE (α := Int) (v := .sc _) rfl rfl rfl (ixlt h12) ti3 rfl rfl rfl rfl ?_
            refine pu (v := slV Int _ _ _ _) rfl rfl (fun _ => rfl) ?_
            refine pu (v := .sc _) rfl rfl (fun _ => rfl) ?_
            obtain ⟨h13, hR⟩ := chkE hR
            refine ixS0 (α := Int) rfl rfl rfl ti22 rfl ti3 rfl h13 ?_
            refine ldE (α := Int) (v := .sc _) rfl rfl rfl (ixlt h13) ti3 rfl rfl rfl rfl ?_
            refine ixS0 (α := Int) rfl rfl rfl ti22 rfl ti3 rfl h13 ?_
            refine stE (α := Int) (y := gt s4.1 (w6 (s4.2 - 1))) rfl rfl rfl (ixlt h13) ti3 rfl rfl rfl rfl rfl ?_
            refine ixS0 (α := Int) rfl rfl rfl ti22 rfl ti3 rfl h12 ?_
            obtain ⟨v14, ev14, hR⟩ := letE hR
            refine stE (α := Int) (y := gt s4.1 s4.2) rfl rfl rfl (by first | exact ixlt h12 | (simp only [List.length_set]; exact ixlt h12)) ti3 rfl rfl rfl rfl rfl ?_
            rw [ev14]
            refine RunC.blk ?_
            refine RunC.fin ?_
            refine AWP.rgC 86 rfl rfl ?_
            refine pu (v := .sc _) rfl rfl (fun _ => rfl) ?_
            refine pu (v := .sc _) rfl rfl (fun _ => rfl) ?_
            refine pu (v := .sc _) rfl rfl (fun _ => rfl) ?_
            refine RunC.fin ?_
            refine ⟨(v14, w6 (s4.2 - 1)), (Option.some.inj hR).symm, ?_⟩
            exact Weak.turnL [(0, 0), (1, 0)] [] rfl rfl (tc (trS' rfl rfl rfl rfl (by subst ev14; simp only [List.length_set])) (tc (.sc _) (tc (.sc _) (tc (.fn (.cons (trP' rfl rfl rfl rfl) (.nil))) (tc (.sc _) (tc (.sc _) tn)))))) (mc rfl (btrA' rfl) (mc rfl (.box rfl (.cons (.sc _) (.cons (.sc _) (.cons trR1 (.nil)))) rfl) mn))
          · refine AWP.exit ?_
            refine exT ?_
            refine exT ?_
            refine exH (skT ?_)
            refine ⟨s4.1, (Option.some.inj hR).symm, ?_⟩
            exact Weak.turnL [(0, 0), (1, 0)] [] rfl rfl (tc (trS' rfl rfl rfl rfl rfl) (tc (.sc _) (tc (.sc _) (tc (.fn (.cons (trP' rfl rfl rfl rfl) (.nil))) (tc (.sc _) tn))))) (mc rfl (btrA' rfl) (mc rfl (.box rfl (.cons (.sc _) (.cons (.sc _) (.cons trR1 (.nil)))) rfl) mn))
      · refine skB ?_
        refine skT ?_
        refine AWP.rgC 14 rfl rfl ?_
        refine pu (v := .sc _) rfl rfl (fun _ => rfl) ?_
        refine pu (v := .sc _) rfl rfl (fun _ => rfl) ?_
        refine pu (v := .sc _) rfl rfl (fun _ => rfl) ?_
        refine RunC.fin ?_
        refine ⟨(z5, w6 (s1.2 + 1)), (Option.some.inj hR).symm, ?_⟩
        exact Weak.turnL [(0, 0), (1, 0)] [] rfl rfl (tc (trS' rfl rfl rfl rfl rfl) (tc (.sc _) (tc (.sc _) (tc (.fn (.cons (trP' rfl rfl rfl rfl) (.nil))) (tc (.sc _) tn))))) (mc rfl (btrA' rfl) (mc rfl (.box rfl (.cons (.sc _) (.cons (.sc _) (.cons trR1 (.nil)))) rfl) mn))
    · refine AWP.exit ?_
      refine exT ?_
      refine exT ?_
      refine exH (skT ?_)
      refine ⟨s1.1, (Option.some.inj hR).symm, ?_⟩
      exact Weak.turnL [(0, 0), (1, 0)] [] rfl rfl tn (mc rfl (btrA' rfl) (mc rfl (.box rfl (.cons (.sc _) (.cons (.sc _) (.cons trR1 (.nil)))) rfl) mn))
  · have hR := Option.some.inj hR; subst hR
    exact hQ _ _ (LS.mk [] (lblks 0 [arrB (α := Int) 3 0 false z2, boxB (α := Cells) false cmpc0]) 2) (.tup []) [] (.inl rfl) (Weak.turnL [(0, 0), (1, 0)] [] rfl rfl tn (mc rfl (btrA' rfl) (mc rfl (.box rfl (.cons (.sc _) (.cons (.sc _) (.cons trR1 (.nil)))) rfl) mn))) (ro0 ) rfl rfl (.tup .nil) (pc rfl bldA (pc rfl bldB pn))
theorem ok71_29 (data : List Int) (a : Int) (b : Int) (n : Int) (cmpc0 : Cells) (r : (List Int)) (hR : slices_swapRangeCmpFunc_Int_find_Sure_1 data a b n cmpc0 = some r) : FnD Try.prog 71 [arrB 3 0 false data, boxB false cmpc0] [slV Int 0 0 0 data.length, .sc (.int .i64 a), .sc (.int .i64 b), .sc (.int .i64 n), .fn (.func 34) [.ptr 1 0 0]] (.tup []) [arrB 3 0 false r, boxB false cmpc0] := by
  refine FnX.walk Try.func71 rfl 38 2 (by simp [Try.ntmps71]) rfl fun W S F Q hQ => ?_
  unfold slices_swapRangeCmpFunc_Int_find_Sure_1 at hR
  refine AWP.sq ?_
  refine AWP.rgC 6 rfl rfl ?_
  refine pu (v := .sc _) rfl rfl (fun _ => rfl) ?_
  refine RunC.fin ?_
  refine AWP.loopJ (fun s1 : (List Int) × Int => LS.mk [(0, slV Int 0 0 0 s1.1.length), (1, .sc (.int .i64 a)), (2, .sc (.int .i64 b)), (3, .sc (.int .i64 n)), (10, .sc (.int .i64 s1.2))] (lblks 0 [arrB (α := Int) 3 0 false s1.1, boxB (α := Cells) false cmpc0]) 2) (fun z2 : (List Int) => LS.mk [] (lblks 0 [arrB (α := Int) 3 0 false z2, boxB (α := Cells) false cmpc0]) 2) (slices_swapRangeCmpFunc_Int_find_Sure_1.l1 a b n) hR (s0 := (data, 0)) (Weak.turnL [(0, 0), (1, 0)] [] rfl rfl (tc (trS' rfl rfl rfl rfl rfl) (tc (.sc _) (tc (.sc _) (tc (.sc _) (tc (.sc _) tn))))) (mc rfl (btrA' rfl) (mc rfl (.box rfl (.cons (.sc _) (.cons (.sc _) (.cons trR1 (.nil)))) rfl) mn))) (fun s1 o1 hR => ?_) fun z2 hR => ?_
  · unfold slices_swapRangeCmpFunc_Int_find_Sure_1.l1 at hR
    refine AWP.sq ?_
    refine AWP.sq ?_
    refine AWP.rgC 14 rfl rfl ?_
    refine pu (v := .sc _) rfl rfl (fun _ => rfl) ?_
    refine pu (v := .sc _) rfl rfl (fun _ => rfl) ?_
    refine pu (v := .sc _) rfl rfl (fun _ => rfl) ?_
    refine RunC.fin ?_
    refine AWP.cd hR rfl (fun h3 hR => ?_) fun h3 hR => ?_
    · refine AWP.skip ?_
      refine skT ?_
      refine AWP.sq ?_
      refine AWP.block ?_
      refine AWP.rgD 110 [0, 0, 0, 6, 0, 0, 0, 96, 0, 0, 0, 1536, 3840, 7936, 0, 0, 0, 98304, 245760, 507904, 1048335, 2096911, 4194303, 8388607] ⟨[], [none, none, none, none, none, none, none, none, none, none, none, none, none, some [0], none, none, none, none, none, some [0], none, some [0], none, some [0]]⟩ hmix (by kernel_rfl) rfl rfl ?_
      refine pu (v := slV Int _ _ _ _) rfl rfl (fun _ => rfl) ?_
      refine pu (v := .sc _) rfl rfl (fun _ => rfl) ?_
      refine pu (v := .sc _) rfl rfl (fun _ => rfl) ?_
      refine pu (v := .sc _) rfl rfl (fun _ => rfl) ?_
      refine pu (v := slV Int _ _ _ _) rfl rfl (fun _ => rfl) ?_
      refine pu (v := .sc _) rfl rfl (fun _ => rfl) ?_
      refine pu (v := .sc _) rfl rfl (fun _ => rfl) ?_
      refine pu (v := .sc _) rfl rfl (fun _ => rfl) ?_
      refine pu (v := slV Int _ _ _ _) rfl rfl (fun _ => rfl) ?_
      refine pu (v := .sc _) rfl rfl (fun _ => rfl) ?_
      refine pu (v := .sc _) rfl rfl (fun _ => rfl) ?_
      refine pu (v := .sc _) rfl rfl (fun _ => rfl) ?_
      obtain ⟨h4, hR⟩ := chkE hR
      refine ixS0 (α := Int) rfl rfl rfl ti22 rfl ti3 rfl h4 ?_
      refine ldE (α := Int) (v := .sc _) rfl rfl rfl (ixlt h4) ti3 rfl rfl rfl rfl ?_
      refine pu (v := slV Int _ _ _ _) rfl rfl (fun _ => rfl) ?_
      refine pu (v := .sc _) rfl rfl (fun _ => rfl) ?_
      refine pu (v := .sc _) rfl rfl (fun _ => rfl) ?_
      refine pu (v := .sc _) rfl rfl (fun _ => rfl) ?_
      obtain ⟨h5, hR⟩ := chkE hR
      refine ixS0 (α := Int) rfl rfl rfl ti22 rfl ti3 rfl h5 ?_
      refine ldE (α := Int) (v := .sc _) rfl rfl rfl (ixlt h5) ti3 rfl rfl rfl rfl ?_
      refine ixS0 (α := Int) rfl rfl rfl ti22 rfl ti3 rfl h5 ?_
      obtain ⟨v6, ev6, hR⟩ := letE hR
      refine stE (α := Int) (y := gt s1.1 (w6 (b + s1.2))) rfl rfl rfl (ixlt h5) ti3 rfl rfl rfl rfl rfl ?_
      rw [ev6]
      refine ixS0 (α := Int) rfl rfl rfl ti22 rfl ti3 rfl h4 ?_
      refine stE (α := Int) (y := gt s1.1 (w6 (a + s1.2))) rfl rfl rfl (by first | exact ixlt h4 | (subst ev6; simp only [List.length_set]; exact ixlt h4)) ti3 rfl rfl rfl rfl rfl ?_
      refine RunC.blk ?_
      refine RunC.fin ?_
      refine AWP.rgC 122 rfl rfl ?_
      refine pu (v := .sc _) rfl rfl (fun _ => rfl) ?_
      refine pu (v := .sc _) rfl rfl (fun _ => rfl) ?_
      refine pu (v := .sc _) rfl rfl (fun _ => rfl) ?_
      refine RunC.fin ?_
      refine ⟨(List.set v6 (w6 (b + s1.2)).toNat (gt s1.1 (w6 (a + s1.2))), w6 (s1.2 + 1)), (Option.some.inj hR).symm, ?_⟩
      exact Weak.turnL [(0, 0), (1, 0)] [] rfl rfl (tc (trS' rfl rfl rfl rfl (by subst ev6; simp only [List.length_set])) (tc (.sc _) (tc (.sc _) (tc (.sc _) (tc (.sc _) tn))))) (mc rfl (btrA' rfl) (mc rfl (.box rfl (.cons (.sc _) (.cons (.sc _) (.cons trR1 (.nil)))) rfl) mn))
    · refine AWP.exit ?_
      refine exT ?_
      refine exT ?_
      refine exH (skT ?_)
      refine ⟨s1.1, (Option.some.inj hR).symm, ?_⟩
      exact Weak.turnL [(0, 0), (1, 0)] [] rfl rfl tn (mc rfl (btrA' rfl) (mc rfl (.box rfl (.cons (.sc _) (.cons (.sc _) (.cons trR1 (.nil)))) rfl) mn))
  · have hR := Option.some.inj hR; subst hR
    exact hQ _ _ (LS.mk [] (lblks 0 [arrB (α := Int) 3 0 false z2, boxB (α := Cells) false cmpc0]) 2) (.tup []) [] (.inl rfl) (Weak.turnL [(0, 0), (1, 0)] [] rfl rfl tn (mc rfl (btrA' rfl) (mc rfl (.box rfl (.cons (.sc _) (.cons (.sc _) (.cons trR1 (.nil)))) rfl) mn))) (ro0 ) rfl rfl (.tup .nil) (pc rfl bldA (pc rfl bldB pn))
theorem ok69_30 (data : List Int) (a : Int) (m : Int) (b : Int) (cmpc0 : Cells) (r : (List Int)) (hR : slices_rotateCmpFunc_Int_find_Sure_1 data a m b cmpc0 = some r) : FnD Try.prog 69 [arrB 3 0 false data, boxB false cmpc0] [slV Int 0 0 0 data.length, .sc (.int .i64 a), .sc (.int .i64 m), .sc (.int .i64 b), .fn (.func 34) [.ptr 1 0 0]] (.tup []) [arrB 3 0 false r, boxB false cmpc0] := by
  refine FnX.walk Try.func69 rfl 58 2 (by simp [Try.ntmps69]) rfl fun W S F Q hQ => ?_
  unfold slices_rotateCmpFunc_Int_find_Sure_1 at hR
  refine AWP.sq ?_
  refine AWP.rgC 18 rfl rfl ?_
  refine pu (v := .sc _) rfl rfl (fun _ => rfl) ?_
  refine pu (v := .sc _) rfl rfl (fun _ => rfl) ?_
  refine pu (v := .sc _) rfl rfl (fun _ => rfl) ?_
  refine pu (v := .sc _) rfl rfl (fun _ => rfl) ?_
  refine RunC.fin ?_
  refine AWP.sq ?_
  refine AWP.rgC 34 rfl rfl ?_
  refine pu (v := .sc _) rfl rfl (fun _ => rfl) ?_
  refine pu (v := .sc _) rfl rfl (fun _ => rfl) ?_
  refine pu (v := .sc _) rfl rfl (fun _ => rfl) ?_
  refine pu (v := .sc _) rfl rfl (fun _ => rfl) ?_
  refine RunC.fin ?_
  refine AWP.sq ?_
  refine AWP.loopJ (fun s1 : (List Int) × Int × Int => LS.mk [(0, slV Int 0 0 0 s1.1.length), (2, .sc (.int .i64 m)), (4, .fn (.func 34) [.ptr 1 0 0]), (10, .sc (.int .i64 s1.2.1)), (11, .sc (.int .i64 s1.2.2))] (lblks 0 [arrB (α := Int) 3 0 false s1.1, boxB (α := Cells) false cmpc0]) 2) (fun z2 : (List Int) × Int => LS.mk [(0, slV Int 0 0 0 z2.1.length), (2, .sc (.int .i64 m)), (4, .fn (.func 34) [.ptr 1 0 0]), (10, .sc (.int .i64 z2.2))] (lblks 0 [arrB (α := Int) 3 0 false z2.1, boxB (α := Cells) false cmpc0]) 2) (slices_rotateCmpFunc_Int_find_Sure_1.l1 m cmpc0) hR (s0 := (data, w6 (m - a), w6 (b - m))) (Weak.turnL [(0, 0), (1, 0)] [] rfl rfl (tc (trS' rfl rfl rfl rfl rfl) (tc (.sc _) (tc (.fn (.cons (trP' rfl rfl rfl rfl) (.nil))) (tc (.sc _) (tc (.sc _) tn))))) (mc rfl (btrA' rfl) (mc rfl (.box rfl (.cons (.sc _) (.cons (.sc _) (.cons trR1 (.nil)))) rfl) mn))) (fun s1 o1 hR => ?_) fun z2 hR => ?_
  · unfold slices_rotateCmpFunc_Int_find_Sure_1.l1 at hR
    refine AWP.sq ?_
    refine AWP.sq ?_
    refine AWP.rgC 14 rfl rfl ?_
    refine pu (v := .sc _) rfl rfl (fun _ => rfl) ?_
    refine pu (v := .sc _) rfl rfl (fun _ => rfl) ?_
    refine pu (v := .sc _) rfl rfl (fun _ => rfl) ?_
    refine RunC.fin ?_
    refine AWP.cd hR rfl (fun h3 hR => ?_) fun h3 hR => ?_
    · refine AWP.skip ?_
      refine skT ?_
      refine AWP.block ?_
      refine AWP.sq ?_
      refine AWP.rgC 26 rfl rfl ?_
      refine pu (v := .sc _) rfl rfl (fun _ => rfl) ?_
      refine pu (v := .sc _) rfl rfl (fun _ => rfl) ?_
      refine pu (v := .sc _) rfl rfl (fun _ => rfl) ?_
      refine RunC.fin ?_
      refine AWP.cd hR rfl (fun h4 hR => ?_) fun h4 hR => ?_
      · refine AWP.sq ?_
        refine AWP.rgC 58 rfl rfl ?_
        refine pu (v := slV Int _ _ _ _) rfl rfl (fun _ => rfl) ?_
        refine pu (v := .sc _) rfl rfl (fun _ => rfl) ?_
        refine pu (v := .sc _) rfl rfl (fun _ => rfl) ?_
        refine pu (v := .sc _) rfl rfl (fun _ => rfl) ?_
        refine pu (v := .sc _) rfl rfl (fun _ => rfl) ?_
        refine pu (v := .sc _) rfl rfl (fun _ => rfl) ?_
        refine pu (v := .fn _ _) rfl rfl (fun _ => rfl) ?_
        obtain ⟨r5, hr5, hR⟩ := bindE hR
        obtain ⟨h6, hR⟩ := chkE hR
        refine cps (res' := .tup []) (ups := [(0, arrB (α := Int) 3 0 false r5), (1, boxB (α := Cells) false cmpc0)]) [0, 1] 54 rfl rfl rfl cb71 (ok71_29 s1.1 (w6 (m - s1.2.1)) m s1.2.2 cmpc0 _ hr5) (.cons (ldM rfl rfl) (.cons (.sc _) (.cons (.sc _) (.cons (.sc _) (.cons (.fn (.cons (ldP rfl rfl) (.nil))) (.nil)))))) (pc rfl bldA (pc rfl (.box (.cons (.sc _) (.cons (.sc _) (.cons ldR' (.nil)))) rfl) pn)) rfl rfl rfl rfl rfl (by first | rfl | exact renR | exact renA | exact renS | simp only [V.ren, V.rens, renR, renA, renS] | (simp only [V.ren, V.rens, renR, renA, renS]; rfl)) (by simp only [passUps, renBox, renArr]; rfl) ?_
        refine RunC.fin ?_
        refine AWP.rgC 74 rfl rfl ?_
        refine pu (v := .sc _) rfl rfl (fun _ => rfl) ?_
        refine pu (v := .sc _) rfl rfl (fun _ => rfl) ?_
        refine pu (v := .sc _) rfl rfl (fun _ => rfl) ?_
        refine pu (v := .sc _) rfl rfl (fun _ => rfl) ?_
        refine RunC.blk ?_
        refine RunC.fin ?_
        refine ⟨(r5, w6 (s1.2.1 - s1.2.2), s1.2.2), (Option.some.inj hR).symm, ?_⟩
        exact Weak.turnL [(0, 0), (1, 0)] [] rfl rfl (tc (trS' rfl rfl rfl rfl h6) (tc (.sc _) (tc (.fn (.cons (trP' rfl rfl rfl rfl) (.nil))) (tc (.sc _) (tc (.sc _) tn))))) (mc rfl (btrA' rfl) (mc rfl (.box rfl (.cons (.sc _) (.cons (.sc _) (.cons trR1 (.nil)))) rfl) mn))
      · refine AWP.sq ?_
        refine AWP.rgC 74 rfl rfl ?_
        refine pu (v := slV Int _ _ _ _) rfl rfl (fun _ => rfl) ?_
        refine pu (v := .sc _) rfl rfl (fun _ => rfl) ?_
        refine pu (v := .sc _) rfl rfl (fun _ => rfl) ?_
        refine pu (v := .sc _) rfl rfl (fun _ => rfl) ?_
        refine pu (v := .sc _) rfl rfl (fun _ => rfl) ?_
        refine pu (v := .sc _) rfl rfl (fun _ => rfl) ?_
        refine pu (v := .sc _) rfl rfl (fun _ => rfl) ?_
        refine pu (v := .sc _) rfl rfl (fun _ => rfl) ?_
        refine pu (v := .sc _) rfl rfl (fun _ => rfl) ?_
        refine pu (v := .sc _) rfl rfl (fun _ => rfl) ?_
        refine pu (v := .fn _ _) rfl rfl (fun _ => rfl) ?_
        obtain ⟨r7, hr7, hR⟩ := bindE hR
        obtain ⟨h8, hR⟩ := chkE hR
        refine cps (res' := .tup []) (ups := [(0, arrB (α := Int) 3 0 false r7), (1, boxB (α := Cells) false cmpc0)]) [0, 1] 70 rfl rfl rfl cb71 (ok71_29 s1.1 (w6 (m - s1.2.1)) (w6 ((w6 (m + s1.2.2)) - s1.2.1)) s1.2.1 cmpc0 _ hr7) (.cons (ldM rfl rfl) (.cons (.sc _) (.cons (.sc _) (.cons (.sc _) (.cons (.fn (.cons (ldP rfl rfl) (.nil))) (.nil)))))) (pc rfl bldA (pc rfl (.box (.cons (.sc _) (.cons (.sc _) (.cons ldR' (.nil)))) rfl) pn)) rfl rfl rfl rfl rfl (by first | rfl | exact renR | exact renA | exact renS | simp only [V.ren, V.rens, renR, renA, renS] | (simp only [V.ren, V.rens, renR, renA, renS]; rfl)) (by simp only [passUps, renBox, renArr]; rfl) ?_
        refine RunC.fin ?_
        refine AWP.rgC 90 rfl rfl ?_
        refine pu (v := .sc _) rfl rfl (fun _ => rfl) ?_
        refine pu (v := .sc _) rfl rfl (fun _ => rfl) ?_
        refine pu (v := .sc _) rfl rfl (fun _ => rfl) ?_
        refine pu (v := .sc _) rfl rfl (fun _ => rfl) ?_
        refine RunC.blk ?_
        refine RunC.fin ?_
        refine ⟨(r7, s1.2.1, w6 (s1.2.2 - s1.2.1)), (Option.some.inj hR).symm, ?_⟩
        exact Weak.turnL [(0, 0), (1, 0)] [] rfl rfl (tc (trS' rfl rfl rfl rfl h8) (tc (.sc _) (tc (.fn (.cons (trP' rfl rfl rfl rfl) (.nil))) (tc (.sc _) (tc (.sc _) tn))))) (mc rfl (btrA' rfl) (mc rfl (.box rfl (.cons (.sc _) (.cons (.sc _) (.cons trR1 (.nil)))) rfl) mn))
    · refine AWP.exit ?_
      refine exT ?_
      refine exT ?_
      refine exH (skT ?_)
      refine ⟨(s1.1, s1.2.1), (Option.some.inj hR).symm, ?_⟩
      exact Weak.turnL [(0, 0), (1, 0)] [] rfl rfl (tc (trS' rfl rfl rfl rfl rfl) (tc (.sc _) (tc (.fn (.cons (trP' rfl rfl rfl rfl) (.nil))) (tc (.sc _) tn)))) (mc rfl (btrA' rfl) (mc rfl (.box rfl (.cons (.sc _) (.cons (.sc _) (.cons trR1 (.nil)))) rfl) mn))
  · refine skT ?_
    refine AWP.rgC 34 rfl rfl ?_
    refine pu (v := slV Int _ _ _ _) rfl rfl (fun _ => rfl) ?_
    refine pu (v := .sc _) rfl rfl (fun _ => rfl) ?_
    refine pu (v := .sc _) rfl rfl (fun _ => rfl) ?_
    refine pu (v := .sc _) rfl rfl (fun _ => rfl) ?_
    refine pu (v := .sc _) rfl rfl (fun _ => rfl) ?_
    refine pu (v := .sc _) rfl rfl (fun _ => rfl) ?_
    refine pu (v := .fn _ _) rfl rfl (fun _ => rfl) ?_
    obtain ⟨r9, hr9, hR⟩ := bindE hR
    obtain ⟨h10, hR⟩ := chkE hR
    refine cps (res' := .tup []) (ups := [(0, arrB (α := Int) 3 0 false r9), (1, boxB (α := Cells) false cmpc0)]) [0, 1] 30 rfl rfl rfl cb71 (ok71_29 z2.1 (w6 (m - z2.2)) m z2.2 cmpc0 _ hr9) (.cons (ldM rfl rfl) (.cons (.sc _) (.cons (.sc _) (.cons (.sc _) (.cons (.fn (.cons (ldP rfl rfl) (.nil))) (.nil)))))) (pc rfl bldA (pc rfl (.box (.cons (.sc _) (.cons (.sc _) (.cons ldR' (.nil)))) rfl) pn)) rfl rfl rfl rfl rfl (by first | rfl | exact renR | exact renA | exact renS | simp only [V.ren, V.rens, renR, renA, renS] | (simp only [V.ren, V.rens, renR, renA, renS]; rfl)) (by simp only [passUps, renBox, renArr]; rfl) ?_
    refine RunC.nil ?_
    have hR := Option.some.inj hR; subst hR
    exact hQ _ _ (LS.mk [] (lblks 0 [arrB (α := Int) 3 0 false r9, boxB (α := Cells) false cmpc0]) 2) (.tup []) [] (.inl rfl) (Weak.turnL [(0, 0), (1, 0)] [] rfl rfl tn (mc rfl (btrA' rfl) (mc rfl (.box rfl (.cons (.sc _) (.cons (.sc _) (.cons trR1 (.nil)))) rfl) mn))) (ro0 ) rfl rfl (.tup .nil) (pc rfl bldA (pc rfl bldB pn))
end Go.Proofs.Cno
