/- Each function of the program computes its plain function. Conditions: as each theorem states them. -/
import Derived.Test.YtfkpgkaalaobbaaT
import Derived.Test.YtfkpgkaalaobbaaH
import Derived.Test.YtfkpgkaalaobbaaF
import Derived.Test.YtfkpgkaalaobbaaP1
namespace Go.Proofs.Cgr
open Go Go.Abs Lf
set_option linter.unusedVariables false
set_option linter.unusedSimpArgs false
set_option maxRecDepth 100000
set_option maxHeartbeats 1000000
theorem ok68_33 : ∀ (fuel : Nat) (data : List Int) (a : Int) (m : Int) (b : Int) (cmpc0 : Cells) (r : (List Int) × Cells) (hR : slices_symMergeCmpFunc_Int_find_Sure_1_2 fuel data a m b cmpc0 = some r), FnD Try.prog 68 [arrB 3 0 false data, boxB false cmpc0] [slV Int 0 0 0 data.length, .sc (.int .i64 a), .sc (.int .i64 m), .sc (.int .i64 b), .fn (.func 40) [.ptr 1 0 0]] (.tup []) [arrB 3 0 false r.1, boxB false r.2] := by
  intro fuel
  induction fuel with
  | zero => intro data a m b cmpc0 r hR; exact nomatch (show none = some r from hR)
  | succ fuel ih =>
    intro data a m b cmpc0 r hR
    refine FnX.walk Try.func68 rfl 220 2 (by simp [Try.ntmps68]) rfl fun W S F Q hQ => ?_
    unfold slices_symMergeCmpFunc_Int_find_Sure_1_2 at hR
    refine AWP.sq ?_
    refine AWP.sq ?_
    refine AWP.rgC 18 rfl rfl ?_
    refine pu (v := .sc _) rfl rfl (fun _ => rfl) ?_
    refine pu (v := .sc _) rfl rfl (fun _ => rfl) ?_
    refine pu (v := .sc _) rfl rfl (fun _ => rfl) ?_
    refine pu (v := .sc _) rfl rfl (fun _ => rfl) ?_
    refine RunC.fin ?_
    refine AWP.cd hR rfl (fun h1 hR => ?_) fun h1 hR => ?_
    · refine AWP.sq ?_
      refine AWP.rgC 26 rfl rfl ?_
      refine pu (v := .sc _) rfl rfl (fun _ => rfl) ?_
      refine pu (v := .sc _) rfl rfl (fun _ => rfl) ?_
      refine RunC.fin ?_
      refine AWP.sq ?_
      refine AWP.rgC 34 rfl rfl ?_
      refine pu (v := .sc _) rfl rfl (fun _ => rfl) ?_
      refine pu (v := .sc _) rfl rfl (fun _ => rfl) ?_
      refine RunC.fin ?_
      refine AWP.sq ?_
      refine AWP.loopJ (fun s2 : Int × Int => LS.mk [(0, slV Int 0 0 0 data.length), (1, .sc (.int .i64 a)), (4, .fn (.func 40) [.ptr 1 0 0]), (10, .sc (.int .i64 s2.1)), (11, .sc (.int .i64 s2.2))] (lblks 0 [arrB (α := Int) 3 0 false data, boxB (α := Cells) false cmpc0]) 2) (fun z3 : Int => LS.mk [(0, slV Int 0 0 0 data.length), (1, .sc (.int .i64 a)), (10, .sc (.int .i64 z3))] (lblks 0 [arrB (α := Int) 3 0 false data, boxB (α := Cells) false cmpc0]) 2) (slices_symMergeCmpFunc_Int_find_Sure_1_2.l1 data a cmpc0) hR (s0 := (m, b)) (Weak.turnL [(0, 0), (1, 0)] [] rfl rfl (tc (trS' rfl rfl rfl rfl rfl) (tc (.sc _) (tc (.fn (.cons (trP' rfl rfl rfl rfl) (.nil))) (tc (.sc _) (tc (.sc _) tn))))) (mc rfl (btrA' rfl) (mc rfl (.box rfl (.cons (.sc _) (.cons (.sc _) (.cons trR1 (.nil)))) rfl) mn))) (fun s2 o2 hR => ?_) fun z3 hR => ?_
      · unfold slices_symMergeCmpFunc_Int_find_Sure_1_2.l1 at hR
        refine AWP.sq ?_
        refine AWP.sq ?_
        refine AWP.rgC 14 rfl rfl ?_
        refine pu (v := .sc _) rfl rfl (fun _ => rfl) ?_
        refine pu (v := .sc _) rfl rfl (fun _ => rfl) ?_
        refine pu (v := .sc _) rfl rfl (fun _ => rfl) ?_
        refine RunC.fin ?_
        refine AWP.cd hR rfl (fun h4 hR => ?_) fun h4 hR => ?_
        · refine AWP.skip ?_
          refine skT ?_
          refine AWP.block ?_
          refine AWP.sq ?_
          refine AWP.rgC 42 rfl rfl ?_
          refine pu (v := .sc _) rfl rfl (fun _ => rfl) ?_
          refine pu (v := .sc _) rfl rfl (fun _ => rfl) ?_
          refine pu (v := .sc _) rfl rfl (fun _ => rfl) ?_
          refine cn rfl rfl ti3 rfl ti93 rfl rfl ?_
          refine pu (v := .sc _) rfl rfl (fun _ => rfl) ?_
          refine cn rfl rfl ti93 rfl ti3 rfl rfl ?_
          refine pu (v := .sc _) rfl rfl (fun _ => rfl) ?_
          refine RunC.fin ?_
          refine AWP.sq ?_
          refine AWP.rgD 86 [0, 0, 0, 6, 14, 0, 0, 96, 224, 511, 1023] ⟨[], [none, none, none, none, some [0], none, none, none, some [0], none, none]⟩ hmix (by kernel_rfl) rfl rfl ?_
          refine pu (v := .fn _ _) rfl rfl (fun _ => rfl) ?_
          refine pu (v := slV Int _ _ _ _) rfl rfl (fun _ => rfl) ?_
          refine pu (v := .sc _) rfl rfl (fun _ => rfl) ?_
          obtain ⟨h5, hR⟩ := chkE hR
          refine ixS0 (α := Int) rfl rfl rfl ti22 rfl ti3 rfl h5 ?_
          refine ldE (α := Int) (v := .sc _) rfl rfl rfl (ixlt h5) ti3 rfl rfl rfl rfl ?_
          refine pu (v := slV Int _ _ _ _) rfl rfl (fun _ => rfl) ?_
          refine pu (v := .sc _) rfl rfl (fun _ => rfl) ?_
          obtain ⟨h6, hR⟩ := chkE hR
          refine ixS0 (α := Int) rfl rfl rfl ti22 rfl ti3 rfl h6 ?_
          refine ldE (α := Int) (v := .sc _) rfl rfl rfl (ixlt h6) ti3 rfl rfl rfl rfl ?_
          obtain ⟨r7, hr7, hR⟩ := bindE hR
          refine cls [1] rfl rfl cb40 (ok40 (gt data (w6 (Int.fdiv (IntKind.wrap .u64 (w6 (s2.1 + s2.2))) (2 ^ 1)))) (gt data a) cmpc0 _ hr7) (.cons (.sc _) (.cons (.sc _) (.cons (ldX rfl rfl (.cons (.sc _) (.cons (.sc _) (.cons ldR' (.nil)))) rfl) (.nil)))) (.inl (by first | rfl | exact freshR | exact freshA | (simp only [V.fresh, V.freshs, freshR, freshA, Bool.and_self]))) rfl ?_
          refine pu (v := .sc _) rfl rfl (fun _ => rfl) ?_
          refine RunC.fin ?_
          refine AWP.cd hR rfl (fun h8 hR => ?_) fun h8 hR => ?_
          · refine AWP.rgC 98 rfl rfl ?_
            refine pu (v := .sc _) rfl rfl (fun _ => rfl) ?_
            obtain ⟨v9, ev9, hR⟩ := letE hR
            refine pu (v := .sc _) rfl rfl (fun _ => puI ev9) ?_
            refine pu (v := .sc _) rfl rfl (fun _ => rfl) ?_
            refine RunC.blk ?_
            refine RunC.fin ?_
            refine ⟨(v9, s2.2), (Option.some.inj hR).symm, ?_⟩
            exact Weak.turnL [(0, 0), (1, 0)] [] rfl rfl (tc (trS' rfl rfl rfl rfl rfl) (tc (.sc _) (tc (.fn (.cons (trP' rfl rfl rfl rfl) (.nil))) (tc (.sc _) (tc (.sc _) tn))))) (mc rfl (btrA' rfl) (mc rfl (.box rfl (.cons (.sc _) (.cons (.sc _) (.cons trR1 (.nil)))) rfl) mn))
          · refine AWP.rgC 94 rfl rfl ?_
            refine pu (v := .sc _) rfl rfl (fun _ => rfl) ?_
            refine pu (v := .sc _) rfl rfl (fun _ => rfl) ?_
            refine RunC.blk ?_
            refine RunC.fin ?_
            refine ⟨(s2.1, w6 (Int.fdiv (IntKind.wrap .u64 (w6 (s2.1 + s2.2))) (2 ^ 1))), (Option.some.inj hR).symm, ?_⟩
            exact Weak.turnL [(0, 0), (1, 0)] [] rfl rfl (tc (trS' rfl rfl rfl rfl rfl) (tc (.sc _) (tc (.fn (.cons (trP' rfl rfl rfl rfl) (.nil))) (tc (.sc _) (tc (.sc _) tn))))) (mc rfl (btrA' rfl) (mc rfl (.box rfl (.cons (.sc _) (.cons (.sc _) (.cons trR1 (.nil)))) rfl) mn))
        · refine AWP.exit ?_
          refine exT ?_
          refine exT ?_
          refine exH (skT ?_)
          refine ⟨s2.1, (Option.some.inj hR).symm, ?_⟩
          exact Weak.turnL [(0, 0), (1, 0)] [] rfl rfl (tc (trS' rfl rfl rfl rfl rfl) (tc (.sc _) (tc (.sc _) tn))) (mc rfl (btrA' rfl) (mc rfl (.box rfl (.cons (.sc _) (.cons (.sc _) (.cons trR1 (.nil)))) rfl) mn))
      · refine skT ?_
        refine AWP.sq ?_
        refine AWP.sq ?_
        refine AWP.rgC 10 rfl rfl ?_
        refine pu (v := .sc _) rfl rfl (fun _ => rfl) ?_
        refine pu (v := .sc _) rfl rfl (fun _ => rfl) ?_
        refine RunC.fin ?_
        refine AWP.loopJ (fun s10 : (List Int) × Int => LS.mk [(0, slV Int 0 0 0 s10.1.length), (10, .sc (.int .i64 z3)), (13, .sc (.int .i64 s10.2))] (lblks 0 [arrB (α := Int) 3 0 false s10.1, boxB (α := Cells) false cmpc0]) 2) (fun z11 : (List Int) => LS.mk [] (lblks 0 [arrB (α := Int) 3 0 false z11, boxB (α := Cells) false cmpc0]) 2) (slices_symMergeCmpFunc_Int_find_Sure_1_2.l2 z3) hR (s0 := (data, a)) (Weak.turnL [(0, 0), (1, 0)] [] rfl rfl (tc (trS' rfl rfl rfl rfl rfl) (tc (.sc _) (tc (.sc _) tn))) (mc rfl (btrA' rfl) (mc rfl (.box rfl (.cons (.sc _) (.cons (.sc _) (.cons trR1 (.nil)))) rfl) mn))) (fun s10 o10 hR => ?_) fun z11 hR => ?_
        · unfold slices_symMergeCmpFunc_Int_find_Sure_1_2.l2 at hR
          refine AWP.sq ?_
          refine AWP.sq ?_
          refine AWP.rgC 18 rfl rfl ?_
          refine pu (v := .sc _) rfl rfl (fun _ => rfl) ?_
          refine pu (v := .sc _) rfl rfl (fun _ => rfl) ?_
          refine pu (v := .sc _) rfl rfl (fun _ => rfl) ?_
          refine pu (v := .sc _) rfl rfl (fun _ => rfl) ?_
          refine RunC.fin ?_
          refine AWP.cd hR rfl (fun h12 hR => ?_) fun h12 hR => ?_
          · refine AWP.skip ?_
            refine skT ?_
            refine AWP.sq ?_
            refine AWP.block ?_
            refine AWP.rgD 90 [0, 0, 0, 0, 8, 0, 0, 64, 224, 480, 0, 0, 3072, 7168, 16355, 32739, 65535, 131071] ⟨[], [none, none, none, none, none, none, none, none, none, some [0], none, none, none, some [0], none, some [0], none, some [0]]⟩ hmix (by kernel_rfl) rfl rfl ?_
            refine pu (v := slV Int _ _ _ _) rfl rfl (fun _ => rfl) ?_
            refine pu (v := .sc _) rfl rfl (fun _ => rfl) ?_
            refine pu (v := slV Int _ _ _ _) rfl rfl (fun _ => rfl) ?_
            refine pu (v := .sc _) rfl rfl (fun _ => rfl) ?_
            refine pu (v := .sc _) rfl rfl (fun _ => rfl) ?_
            refine pu (v := slV Int _ _ _ _) rfl rfl (fun _ => rfl) ?_
            refine pu (v := .sc _) rfl rfl (fun _ => rfl) ?_
            refine pu (v := .sc _) rfl rfl (fun _ => rfl) ?_
            obtain ⟨h13, hR⟩ := chkE hR
            refine ixS0 (α := Int) rfl rfl rfl ti22 rfl ti3 rfl h13 ?_
            refine ldE (α := Int) (v := .sc _) rfl rfl rfl (ixlt h13) ti3 rfl rfl rfl rfl ?_
            refine pu (v := slV Int _ _ _ _) rfl rfl (fun _ => rfl) ?_
            refine pu (v := .sc _) rfl rfl (fun _ => rfl) ?_
            obtain ⟨h14, hR⟩ := chkE hR
            refine ixS0 (α := Int) rfl rfl rfl ti22 rfl ti3 rfl h14 ?_
            refine ldE (α := Int) (v := .sc _) rfl rfl rfl (ixlt h14) ti3 rfl rfl rfl rfl ?_
            refine ixS0 (α := Int) rfl rfl rfl ti22 rfl ti3 rfl h14 ?_
            refine stE (α := Int) (y := gt s10.1 (w6 (s10.2 + 1))) rfl rfl rfl (ixlt h14) ti3 rfl rfl rfl rfl rfl ?_
            refine ixS0 (α := Int) rfl rfl rfl ti22 rfl ti3 rfl h13 ?_
            obtain ⟨v15, ev15, hR⟩ := letE hR
            refine stE (α := Int) (y := gt s10.1 s10.2) rfl rfl rfl (by first | exact ixlt h13 | (simp only [List.length_set]; exact ixlt h13)) ti3 rfl rfl rfl rfl rfl ?_
            rw [ev15]
            refine RunC.blk ?_
            refine RunC.fin ?_
            refine AWP.rgC 102 rfl rfl ?_
            refine pu (v := .sc _) rfl rfl (fun _ => rfl) ?_
            refine pu (v := .sc _) rfl rfl (fun _ => rfl) ?_
            refine pu (v := .sc _) rfl rfl (fun _ => rfl) ?_
            refine RunC.fin ?_
            refine ⟨(v15, w6 (s10.2 + 1)), (Option.some.inj hR).symm, ?_⟩
            exact Weak.turnL [(0, 0), (1, 0)] [] rfl rfl (tc (trS' rfl rfl rfl rfl (by subst ev15; simp only [List.length_set])) (tc (.sc _) (tc (.sc _) tn))) (mc rfl (btrA' rfl) (mc rfl (.box rfl (.cons (.sc _) (.cons (.sc _) (.cons trR1 (.nil)))) rfl) mn))
          · refine AWP.exit ?_
            refine exT ?_
            refine exT ?_
            refine exH (skT ?_)
            refine ⟨s10.1, (Option.some.inj hR).symm, ?_⟩
            exact Weak.turnL [(0, 0), (1, 0)] [] rfl rfl tn (mc rfl (btrA' rfl) (mc rfl (.box rfl (.cons (.sc _) (.cons (.sc _) (.cons trR1 (.nil)))) rfl) mn))
        · refine skT ?_
          refine AWP.ret ?_
          refine rtT ?_
          have hR := Option.some.inj hR; subst hR
          exact hQ _ _ (LS.mk [] (lblks 0 [arrB (α := Int) 3 0 false z11, boxB (α := Cells) false cmpc0]) 2) (.tup []) [] (.inr rfl) (Weak.turnL [(0, 0), (1, 0)] [] rfl rfl tn (mc rfl (btrA' rfl) (mc rfl (.box rfl (.cons (.sc _) (.cons (.sc _) (.cons trR1 (.nil)))) rfl) mn))) (ro0 ) rfl rfl (.tup .nil) (pc rfl bldA (pc rfl bldB pn))
    · refine AWP.skip ?_
      refine skT ?_
      refine AWP.sq ?_
      refine AWP.sq ?_
      refine AWP.rgC 34 rfl rfl ?_
      refine pu (v := .sc _) rfl rfl (fun _ => rfl) ?_
      refine pu (v := .sc _) rfl rfl (fun _ => rfl) ?_
      refine pu (v := .sc _) rfl rfl (fun _ => rfl) ?_
      refine pu (v := .sc _) rfl rfl (fun _ => rfl) ?_
      refine RunC.fin ?_
      refine AWP.cd hR rfl (fun h16 hR => ?_) fun h16 hR => ?_
      · refine AWP.sq ?_
        refine AWP.rgC 42 rfl rfl ?_
        refine pu (v := .sc _) rfl rfl (fun _ => rfl) ?_
        refine pu (v := .sc _) rfl rfl (fun _ => rfl) ?_
        refine RunC.fin ?_
        refine AWP.sq ?_
        refine AWP.rgC 50 rfl rfl ?_
        refine pu (v := .sc _) rfl rfl (fun _ => rfl) ?_
        refine pu (v := .sc _) rfl rfl (fun _ => rfl) ?_
        refine RunC.fin ?_
        refine AWP.sq ?_
        refine AWP.loopJ (fun s17 : Int × Int => LS.mk [(0, slV Int 0 0 0 data.length), (2, .sc (.int .i64 m)), (4, .fn (.func 40) [.ptr 1 0 0]), (14, .sc (.int .i64 s17.1)), (15, .sc (.int .i64 s17.2))] (lblks 0 [arrB (α := Int) 3 0 false data, boxB (α := Cells) false cmpc0]) 2) (fun z18 : Int => LS.mk [(0, slV Int 0 0 0 data.length), (2, .sc (.int .i64 m)), (14, .sc (.int .i64 z18))] (lblks 0 [arrB (α := Int) 3 0 false data, boxB (α := Cells) false cmpc0]) 2) (slices_symMergeCmpFunc_Int_find_Sure_1_2.l3 data m cmpc0) hR (s0 := (a, m)) (Weak.turnL [(0, 0), (1, 0)] [] rfl rfl (tc (trS' rfl rfl rfl rfl rfl) (tc (.sc _) (tc (.fn (.cons (trP' rfl rfl rfl rfl) (.nil))) (tc (.sc _) (tc (.sc _) tn))))) (mc rfl (btrA' rfl) (mc rfl (.box rfl (.cons (.sc _) (.cons (.sc _) (.cons trR1 (.nil)))) rfl) mn))) (fun s17 o17 hR => ?_) fun z18 hR => ?_
        · unfold slices_symMergeCmpFunc_Int_find_Sure_1_2.l3 at hR
          refine AWP.sq ?_
          refine AWP.sq ?_
          refine AWP.rgC 14 rfl rfl ?_
          refine pu (v := .sc _) rfl rfl (fun _ => rfl) ?_
          refine pu (v := .sc _) rfl rfl (fun _ => rfl) ?_
          refine pu (v := .sc _) rfl rfl (fun _ => rfl) ?_
          refine RunC.fin ?_
          refine AWP.cd hR rfl (fun h19 hR => ?_) fun h19 hR => ?_
          · refine AWP.skip ?_
            refine skT ?_
            refine AWP.block ?_
            refine AWP.sq ?_
            refine AWP.rgC 42 rfl rfl ?_
            refine pu (v := .sc _) rfl rfl (fun _ => rfl) ?_
            refine pu (v := .sc _) rfl rfl (fun _ => rfl) ?_
            refine pu (v := .sc _) rfl rfl (fun _ => rfl) ?_
            refine cn rfl rfl ti3 rfl ti93 rfl rfl ?_
            refine pu (v := .sc _) rfl rfl (fun _ => rfl) ?_
            refine cn rfl rfl ti93 rfl ti3 rfl rfl ?_
            refine pu (v := .sc _) rfl rfl (fun _ => rfl) ?_
            refine RunC.fin ?_
            refine AWP.sq ?_
            refine AWP.rgD 90 [0, 0, 0, 6, 14, 0, 0, 96, 224, 511, 1023, 2047] ⟨[], [none, none, none, none, some [0], none, none, none, some [0], none, none, none]⟩ hmix (by kernel_rfl) rfl rfl ?_
            refine pu (v := .fn _ _) rfl rfl (fun _ => rfl) ?_
            refine pu (v := slV Int _ _ _ _) rfl rfl (fun _ => rfl) ?_
            refine pu (v := .sc _) rfl rfl (fun _ => rfl) ?_
            obtain ⟨h20, hR⟩ := chkE hR
            refine ixS0 (α := Int) rfl rfl rfl ti22 rfl ti3 rfl h20 ?_
            refine ldE (α := Int) (v := .sc _) rfl rfl rfl (ixlt h20) ti3 rfl rfl rfl rfl ?_
            refine pu (v := slV Int _ _ _ _) rfl rfl (fun _ => rfl) ?_
            refine pu (v := .sc _) rfl rfl (fun _ => rfl) ?_
            obtain ⟨h21, hR⟩ := chkE hR
            refine ixS0 (α := Int) rfl rfl rfl ti22 rfl ti3 rfl h21 ?_
            refine ldE (α := Int) (v := .sc _) rfl rfl rfl (ixlt h21) ti3 rfl rfl rfl rfl ?_
            obtain ⟨r22, hr22, hR⟩ := bindE hR
            refine cls [1] rfl rfl cb40 (ok40 (gt data m) (gt data (w6 (Int.fdiv (IntKind.wrap .u64 (w6 (s17.1 + s17.2))) (2 ^ 1)))) cmpc0 _ hr22) (.cons (.sc _) (.cons (.sc _) (.cons (ldX rfl rfl (.cons (.sc _) (.cons (.sc _) (.cons ldR' (.nil)))) rfl) (.nil)))) (.inl (by first | rfl | exact freshR | exact freshA | (simp only [V.fresh, V.freshs, freshR, freshA, Bool.and_self]))) rfl ?_
            refine pu (v := .sc _) rfl rfl (fun _ => rfl) ?_
            refine pu (v := .sc _) rfl rfl (fun _ => rfl) ?_
            refine RunC.fin ?_
            refine AWP.cd hR rfl (fun h23 hR => ?_) fun h23 hR => ?_
            · refine AWP.rgC 102 rfl rfl ?_
              refine pu (v := .sc _) rfl rfl (fun _ => rfl) ?_
              obtain ⟨v24, ev24, hR⟩ := letE hR
              refine pu (v := .sc _) rfl rfl (fun _ => puI ev24) ?_
              refine pu (v := .sc _) rfl rfl (fun _ => rfl) ?_
              refine RunC.blk ?_
              refine RunC.fin ?_
              refine ⟨(v24, s17.2), (Option.some.inj hR).symm, ?_⟩
              exact Weak.turnL [(0, 0), (1, 0)] [] rfl rfl (tc (trS' rfl rfl rfl rfl rfl) (tc (.sc _) (tc (.fn (.cons (trP' rfl rfl rfl rfl) (.nil))) (tc (.sc _) (tc (.sc _) tn))))) (mc rfl (btrA' rfl) (mc rfl (.box rfl (.cons (.sc _) (.cons (.sc _) (.cons trR1 (.nil)))) rfl) mn))
            · refine AWP.rgC 98 rfl rfl ?_
              refine pu (v := .sc _) rfl rfl (fun _ => rfl) ?_
              refine pu (v := .sc _) rfl rfl (fun _ => rfl) ?_
              refine RunC.blk ?_
              refine RunC.fin ?_
              refine ⟨(s17.1, w6 (Int.fdiv (IntKind.wrap .u64 (w6 (s17.1 + s17.2))) (2 ^ 1))), (Option.some.inj hR).symm, ?_⟩
              exact Weak.turnL [(0, 0), (1, 0)] [] rfl rfl (tc (trS' rfl rfl rfl rfl rfl) (tc (.sc _) (tc (.fn (.cons (trP' rfl rfl rfl rfl) (.nil))) (tc (.sc _) (tc (.sc _) tn))))) (mc rfl (btrA' rfl) (mc rfl (.box rfl (.cons (.sc _) (.cons (.sc _) (.cons trR1 (.nil)))) rfl) mn))
          · refine AWP.exit ?_
            refine exT ?_
            refine exT ?_
            refine exH (skT ?_)
            refine ⟨s17.1, (Option.some.inj hR).symm, ?_⟩
            exact Weak.turnL [(0, 0), (1, 0)] [] rfl rfl (tc (trS' rfl rfl rfl rfl rfl) (tc (.sc _) (tc (.sc _) tn))) (mc rfl (btrA' rfl) (mc rfl (.box rfl (.cons (.sc _) (.cons (.sc _) (.cons trR1 (.nil)))) rfl) mn))
        · refine skT ?_
          refine AWP.sq ?_
          refine AWP.sq ?_
          refine AWP.rgC 10 rfl rfl ?_
          refine pu (v := .sc _) rfl rfl (fun _ => rfl) ?_
          refine pu (v := .sc _) rfl rfl (fun _ => rfl) ?_
          refine RunC.fin ?_
          refine AWP.loopJ (fun s25 : (List Int) × Int => LS.mk [(0, slV Int 0 0 0 s25.1.length), (14, .sc (.int .i64 z18)), (17, .sc (.int .i64 s25.2))] (lblks 0 [arrB (α := Int) 3 0 false s25.1, boxB (α := Cells) false cmpc0]) 2) (fun z26 : (List Int) => LS.mk [] (lblks 0 [arrB (α := Int) 3 0 false z26, boxB (α := Cells) false cmpc0]) 2) (slices_symMergeCmpFunc_Int_find_Sure_1_2.l4 z18) hR (s0 := (data, m)) (Weak.turnL [(0, 0), (1, 0)] [] rfl rfl (tc (trS' rfl rfl rfl rfl rfl) (tc (.sc _) (tc (.sc _) tn))) (mc rfl (btrA' rfl) (mc rfl (.box rfl (.cons (.sc _) (.cons (.sc _) (.cons trR1 (.nil)))) rfl) mn))) (fun s25 o25 hR => ?_) fun z26 hR => ?_
          · unfold slices_symMergeCmpFunc_Int_find_Sure_1_2.l4 at hR
            refine AWP.sq ?_
            refine AWP.sq ?_
            refine AWP.rgC 14 rfl rfl ?_
            refine pu (v := .sc _) rfl rfl (fun _ => rfl) ?_
            refine pu (v := .sc _) rfl rfl (fun _ => rfl) ?_
            refine pu (v := .sc _) rfl rfl (fun _ => rfl) ?_
            refine RunC.fin ?_
            refine AWP.cd hR rfl (fun h27 hR => ?_) fun h27 hR => ?_
            · refine AWP.skip ?_
              refine skT ?_
              refine AWP.sq ?_
              refine AWP.block ?_
              refine AWP.rgD 86 [0, 0, 0, 0, 8, 0, 0, 64, 224, 480, 0, 0, 3072, 7168, 16355, 32739, 65535, 131071] ⟨[], [none, none, none, none, none, none, none, none, none, some [0], none, none, none, some [0], none, some [0], none, some [0]]⟩ hmix (by kernel_rfl) rfl rfl ?_
              refine pu (v := slV Int _ _ _ _) rfl rfl (fun _ => rfl) ?_
              refine pu (v := .sc _) rfl rfl (fun _ => rfl) ?_
              refine pu (v := slV Int _ _ _ _) rfl rfl (fun _ => rfl) ?_
              refine pu (v := .sc _) rfl rfl (fun _ => rfl) ?_
              refine pu (v := .sc _) rfl rfl (fun _ => rfl) ?_
              refine pu (v := slV Int _ _ _ _) rfl rfl (fun _ => rfl) ?_
              refine pu (v := .sc _) rfl rfl (fun _ => rfl) ?_
              refine pu (v := .sc _) rfl rfl (fun _ => rfl) ?_
              obtain ⟨h28, hR⟩ := chkE hR
              refine ixS0 (α := Int) rfl rfl rfl ti22 rfl ti3 rfl h28 ?_
              refine ldE (α := Int) (v := .sc _) rfl rfl rfl (ixlt h28) ti3 rfl rfl rfl rfl ?_
              refine pu (v := slV Int _ _ _ _) rfl rfl (fun _ => rfl) ?_
              refine pu (v := .sc _) rfl rfl (fun _ => rfl) ?_
              obtain ⟨h29, hR⟩ := chkE hR
              refine ixS0 (α := Int) rfl rfl rfl ti22 rfl ti3 rfl h29 ?_
              refine ldE (α := Int) (v := .sc _) rfl rfl rfl (ixlt h29) ti3 rfl rfl rfl rfl ?_
              refine ixS0 (α := Int) rfl rfl rfl ti22 rfl ti3 rfl h29 ?_
              refine stE (α := Int) (y := gt s25.1 (w6 (s25.2 - 1))) rfl rfl rfl (ixlt h29) ti3 rfl rfl rfl rfl rfl ?_
              refine ixS0 (α := Int) rfl rfl rfl ti22 rfl ti3 rfl h28 ?_
              obtain ⟨v30, ev30, hR⟩ := letE hR
              refine stE (α := Int) (y := gt s25.1 s25.2) rfl rfl rfl (by first | exact ixlt h28 | (simp only [List.length_set]; exact ixlt h28)) ti3 rfl rfl rfl rfl rfl ?_
              rw [ev30]
              refine RunC.blk ?_
              refine RunC.fin ?_
              refine AWP.rgC 98 rfl rfl ?_
              refine pu (v := .sc _) rfl rfl (fun _ => rfl) ?_
              refine pu (v := .sc _) rfl rfl (fun _ => rfl) ?_
              refine pu (v := .sc _) rfl rfl (fun _ => rfl) ?_
              refine RunC.fin ?_
              refine ⟨(v30, w6 (s25.2 - 1)), (Option.some.inj hR).symm, ?_⟩
              exact Weak.turnL [(0, 0), (1, 0)] [] rfl rfl (tc (trS' rfl rfl rfl rfl (by subst ev30; simp only [List.length_set])) (tc (.sc _) (tc (.sc _) tn))) (mc rfl (btrA' rfl) (mc rfl (.box rfl (.cons (.sc _) (.cons (.sc _) (.cons trR1 (.nil)))) rfl) mn))
            · refine AWP.exit ?_
              refine exT ?_
              refine exT ?_
              refine exH (skT ?_)
              refine ⟨s25.1, (Option.some.inj hR).symm, ?_⟩
              exact Weak.turnL [(0, 0), (1, 0)] [] rfl rfl tn (mc rfl (btrA' rfl) (mc rfl (.box rfl (.cons (.sc _) (.cons (.sc _) (.cons trR1 (.nil)))) rfl) mn))
          · refine skT ?_
            refine AWP.ret ?_
            refine rtT ?_
            have hR := Option.some.inj hR; subst hR
            exact hQ _ _ (LS.mk [] (lblks 0 [arrB (α := Int) 3 0 false z26, boxB (α := Cells) false cmpc0]) 2) (.tup []) [] (.inr rfl) (Weak.turnL [(0, 0), (1, 0)] [] rfl rfl tn (mc rfl (btrA' rfl) (mc rfl (.box rfl (.cons (.sc _) (.cons (.sc _) (.cons trR1 (.nil)))) rfl) mn))) (ro0 ) rfl rfl (.tup .nil) (pc rfl bldA (pc rfl bldB pn))
      · refine AWP.skip ?_
        refine skT ?_
        refine AWP.sq ?_
        refine AWP.rgC 62 rfl rfl ?_
        refine pu (v := .sc _) rfl rfl (fun _ => rfl) ?_
        refine pu (v := .sc _) rfl rfl (fun _ => rfl) ?_
        refine pu (v := .sc _) rfl rfl (fun _ => rfl) ?_
        refine cn rfl rfl ti3 rfl ti93 rfl rfl ?_
        refine pu (v := .sc _) rfl rfl (fun _ => rfl) ?_
        refine cn rfl rfl ti93 rfl ti3 rfl rfl ?_
        refine pu (v := .sc _) rfl rfl (fun _ => rfl) ?_
        refine RunC.fin ?_
        refine AWP.sq ?_
        refine AWP.rgC 78 rfl rfl ?_
        refine pu (v := .sc _) rfl rfl (fun _ => rfl) ?_
        refine pu (v := .sc _) rfl rfl (fun _ => rfl) ?_
        obtain ⟨v31, ev31, hR⟩ := letE hR
        refine pu (v := .sc _) rfl rfl (fun _ => puI ev31) ?_
        refine pu (v := .sc _) rfl rfl (fun _ => rfl) ?_
        refine RunC.fin ?_
        refine AWP.sq ?_
        refine AWP.rgC 86 rfl rfl ?_
        refine pu (v := .sc _) rfl rfl (fun _ => rfl) ?_
        refine pu (v := .sc _) rfl rfl (fun _ => rfl) ?_
        refine RunC.fin ?_
        refine AWP.sq ?_
        refine AWP.sq ?_
        refine AWP.rgC 98 rfl rfl ?_
        refine pu (v := .sc _) rfl rfl (fun _ => rfl) ?_
        refine pu (v := .sc _) rfl rfl (fun _ => rfl) ?_
        obtain ⟨v32, ev32, hR⟩ := letE hR
        refine pu (v := .sc _) rfl rfl (fun _ => puB ev32) ?_
        refine RunC.fin ?_
        refine AWP.cd hR rfl (fun h33 hR => ?_) fun h33 hR => ?_
        · refine AWP.sq ?_
          refine AWP.rgC 114 rfl rfl ?_
          refine pu (v := .sc _) rfl rfl (fun _ => rfl) ?_
          refine pu (v := .sc _) rfl rfl (fun _ => rfl) ?_
          refine pu (v := .sc _) rfl rfl (fun _ => rfl) ?_
          refine pu (v := .sc _) rfl rfl (fun _ => rfl) ?_
          refine RunC.fin ?_
          refine AWP.rgC 122 rfl rfl ?_
          refine pu (v := .sc _) rfl rfl (fun _ => rfl) ?_
          refine pu (v := .sc _) rfl rfl (fun _ => rfl) ?_
          refine RunC.fin ?_
          refine AWP.sq ?_
          refine AWP.rgC 134 rfl rfl ?_
          refine pu (v := .sc _) rfl rfl (fun _ => rfl) ?_
          refine pu (v := .sc _) rfl rfl (fun _ => rfl) ?_
          refine pu (v := .sc _) rfl rfl (fun _ => rfl) ?_
          refine RunC.fin ?_
          refine AWP.sq ?_
          refine AWP.loopJ (fun s34 : Int × Int => LS.mk [(0, slV Int 0 0 0 data.length), (1, .sc (.int .i64 a)), (2, .sc (.int .i64 m)), (3, .sc (.int .i64 b)), (4, .fn (.func 40) [.ptr 1 0 0]), (18, .sc (.int .i64 (w6 (Int.fdiv (IntKind.wrap .u64 (w6 (a + b))) (2 ^ 1))))), (19, .sc (.int .i64 v31)), (20, .sc (.int .i64 s34.1)), (21, .sc (.int .i64 s34.2)), (22, .sc (.int .i64 (w6 (v31 - 1))))] (lblks 0 [arrB (α := Int) 3 0 false data, boxB (α := Cells) false cmpc0]) 2) (fun z35 : Int => LS.mk [(0, slV Int 0 0 0 data.length), (1, .sc (.int .i64 a)), (2, .sc (.int .i64 m)), (3, .sc (.int .i64 b)), (4, .fn (.func 40) [.ptr 1 0 0]), (18, .sc (.int .i64 (w6 (Int.fdiv (IntKind.wrap .u64 (w6 (a + b))) (2 ^ 1))))), (19, .sc (.int .i64 v31)), (20, .sc (.int .i64 z35))] (lblks 0 [arrB (α := Int) 3 0 false data, boxB (α := Cells) false cmpc0]) 2) (slices_symMergeCmpFunc_Int_find_Sure_1_2.l5 data cmpc0 v31) hR (s0 := (w6 (v31 - b), w6 (Int.fdiv (IntKind.wrap .u64 (w6 (a + b))) (2 ^ 1)))) (Weak.turnL [(0, 0), (1, 0)] [] rfl rfl (tc (trS' rfl rfl rfl rfl rfl) (tc (.sc _) (tc (.sc _) (tc (.sc _) (tc (.fn (.cons (trP' rfl rfl rfl rfl) (.nil))) (tc (.sc _) (tc (.sc _) (tc (.sc _) (tc (.sc _) (tc (.sc _) tn)))))))))) (mc rfl (btrA' rfl) (mc rfl (.box rfl (.cons (.sc _) (.cons (.sc _) (.cons trR1 (.nil)))) rfl) mn))) (fun s34 o34 hR => ?_) fun z35 hR => ?_
          · unfold slices_symMergeCmpFunc_Int_find_Sure_1_2.l5 at hR
            refine AWP.sq ?_
            refine AWP.sq ?_
            refine AWP.rgC 14 rfl rfl ?_
            refine pu (v := .sc _) rfl rfl (fun _ => rfl) ?_
            refine pu (v := .sc _) rfl rfl (fun _ => rfl) ?_
            refine pu (v := .sc _) rfl rfl (fun _ => rfl) ?_
            refine RunC.fin ?_
            refine AWP.cd hR rfl (fun h36 hR => ?_) fun h36 hR => ?_
            · refine AWP.skip ?_
              refine skT ?_
              refine AWP.block ?_
              refine AWP.sq ?_
              refine AWP.rgC 42 rfl rfl ?_
              refine pu (v := .sc _) rfl rfl (fun _ => rfl) ?_
              refine pu (v := .sc _) rfl rfl (fun _ => rfl) ?_
              refine pu (v := .sc _) rfl rfl (fun _ => rfl) ?_
              refine cn rfl rfl ti3 rfl ti93 rfl rfl ?_
              refine pu (v := .sc _) rfl rfl (fun _ => rfl) ?_
              refine cn rfl rfl ti93 rfl ti3 rfl rfl ?_
              refine pu (v := .sc _) rfl rfl (fun _ => rfl) ?_
              refine RunC.fin ?_
              refine AWP.sq ?_
              refine AWP.rgD 98 [0, 0, 0, 0, 12, 30, 62, 0, 0, 384, 896, 2047, 4095, 8191] ⟨[], [none, none, none, none, none, none, some [0], none, none, none, some [0], none, none, none]⟩ hmix (by kernel_rfl) rfl rfl ?_
              refine pu (v := .fn _ _) rfl rfl (fun _ => rfl) ?_
              refine pu (v := slV Int _ _ _ _) rfl rfl (fun _ => rfl) ?_
              refine pu (v := .sc _) rfl rfl (fun _ => rfl) ?_
              refine pu (v := .sc _) rfl rfl (fun _ => rfl) ?_
              obtain ⟨v37, ev37, hR⟩ := letE hR
              refine pu (v := .sc _) rfl rfl (fun _ => puI ev37) ?_
              obtain ⟨h38, hR⟩ := chkE hR
              refine ixS0 (α := Int) rfl rfl rfl ti22 rfl ti3 rfl h38 ?_
              refine ldE (α := Int) (v := .sc _) rfl rfl rfl (ixlt h38) ti3 rfl rfl rfl rfl ?_
              refine pu (v := slV Int _ _ _ _) rfl rfl (fun _ => rfl) ?_
              refine pu (v := .sc _) rfl rfl (fun _ => rfl) ?_
              obtain ⟨h39, hR⟩ := chkE hR
              refine ixS0 (α := Int) rfl rfl rfl ti22 rfl ti3 rfl h39 ?_
              refine ldE (α := Int) (v := .sc _) rfl rfl rfl (ixlt h39) ti3 rfl rfl rfl rfl ?_
              obtain ⟨r40, hr40, hR⟩ := bindE hR
              refine cls [1] rfl rfl cb40 (ok40 (gt data v37) (gt data (w6 (Int.fdiv (IntKind.wrap .u64 (w6 (s34.1 + s34.2))) (2 ^ 1)))) cmpc0 _ hr40) (.cons (.sc _) (.cons (.sc _) (.cons (ldX rfl rfl (.cons (.sc _) (.cons (.sc _) (.cons ldR' (.nil)))) rfl) (.nil)))) (.inl (by first | rfl | exact freshR | exact freshA | (simp only [V.fresh, V.freshs, freshR, freshA, Bool.and_self]))) rfl ?_
              refine pu (v := .sc _) rfl rfl (fun _ => rfl) ?_
              refine pu (v := .sc _) rfl rfl (fun _ => rfl) ?_
              refine RunC.fin ?_
              refine AWP.cd hR rfl (fun h41 hR => ?_) fun h41 hR => ?_
              · refine AWP.rgC 110 rfl rfl ?_
                refine pu (v := .sc _) rfl rfl (fun _ => rfl) ?_
                obtain ⟨v42, ev42, hR⟩ := letE hR
                refine pu (v := .sc _) rfl rfl (fun _ => puI ev42) ?_
                refine pu (v := .sc _) rfl rfl (fun _ => rfl) ?_
                refine RunC.blk ?_
                refine RunC.fin ?_
                refine ⟨(v42, s34.2), (Option.some.inj hR).symm, ?_⟩
                exact Weak.turnL [(0, 0), (1, 0)] [] rfl rfl (tc (trS' rfl rfl rfl rfl rfl) (tc (.sc _) (tc (.sc _) (tc (.sc _) (tc (.fn (.cons (trP' rfl rfl rfl rfl) (.nil))) (tc (.sc _) (tc (.sc _) (tc (.sc _) (tc (.sc _) (tc (.sc _) tn)))))))))) (mc rfl (btrA' rfl) (mc rfl (.box rfl (.cons (.sc _) (.cons (.sc _) (.cons trR1 (.nil)))) rfl) mn))
              · refine AWP.rgC 106 rfl rfl ?_
                refine pu (v := .sc _) rfl rfl (fun _ => rfl) ?_
                refine pu (v := .sc _) rfl rfl (fun _ => rfl) ?_
                refine RunC.blk ?_
                refine RunC.fin ?_
                refine ⟨(s34.1, w6 (Int.fdiv (IntKind.wrap .u64 (w6 (s34.1 + s34.2))) (2 ^ 1))), (Option.some.inj hR).symm, ?_⟩
                exact Weak.turnL [(0, 0), (1, 0)] [] rfl rfl (tc (trS' rfl rfl rfl rfl rfl) (tc (.sc _) (tc (.sc _) (tc (.sc _) (tc (.fn (.cons (trP' rfl rfl rfl rfl) (.nil))) (tc (.sc _) (tc (.sc _) (tc (.sc _) (tc (.sc _) (tc (.sc _) tn)))))))))) (mc rfl (btrA' rfl) (mc rfl (.box rfl (.cons (.sc _) (.cons (.sc _) (.cons trR1 (.nil)))) rfl) mn))
            · refine AWP.exit ?_
              refine exT ?_
              refine exT ?_
              refine exH (skT ?_)
              refine ⟨s34.1, (Option.some.inj hR).symm, ?_⟩
              exact Weak.turnL [(0, 0), (1, 0)] [] rfl rfl (tc (trS' rfl rfl rfl rfl rfl) (tc (.sc _) (tc (.sc _) (tc (.sc _) (tc (.fn (.cons (trP' rfl rfl rfl rfl) (.nil))) (tc (.sc _) (tc (.sc _) (tc (.sc _) tn)))))))) (mc rfl (btrA' rfl) (mc rfl (.box rfl (.cons (.sc _) (.cons (.sc _) (.cons trR1 (.nil)))) rfl) mn))
          · refine skT ?_
            refine AWP.sq ?_
            refine AWP.rgC 18 rfl rfl ?_
            refine pu (v := .sc _) rfl rfl (fun _ => rfl) ?_
            refine pu (v := .sc _) rfl rfl (fun _ => rfl) ?_
            refine pu (v := .sc _) rfl rfl (fun _ => rfl) ?_
            refine pu (v := .sc _) rfl rfl (fun _ => rfl) ?_
            refine RunC.fin ?_
            refine AWP.sq ?_
            refine AWP.joinX (fun z43 : Bool => LS.mk [(0, slV Int 0 0 0 data.length), (1, .sc (.int .i64 a)), (2, .sc (.int .i64 m)), (3, .sc (.int .i64 b)), (4, .fn (.func 40) [.ptr 1 0 0]), (18, .sc (.int .i64 (w6 (Int.fdiv (IntKind.wrap .u64 (w6 (a + b))) (2 ^ 1))))), (20, .sc (.int .i64 z35)), (24, .sc (.int .i64 (w6 (v31 - z35)))), (185, .sc (.bool z43))] (lblks 0 [arrB (α := Int) 3 0 false data, boxB (α := Cells) false cmpc0]) 2) hR (fun o43 hR => ?_) fun z43 hR => ?_
            · refine AWP.rgC 50 rfl rfl ?_
              refine pu (v := .sc _) rfl rfl (fun _ => rfl) ?_
              refine pu (v := .sc _) rfl rfl (fun _ => rfl) ?_
              refine pu (v := .sc _) rfl rfl (fun _ => rfl) ?_
              refine pu (v := .sc _) rfl rfl (fun _ => rfl) ?_
              refine brR hR (fun h44 hR => ?_) fun h44 hR => ?_
              · refine pu (v := .sc _) (wtG rfl rfl rfl h44) rfl (fun _ => rfl) ?_
                refine pu (v := .sc _) (wtG rfl rfl rfl h44) rfl (fun _ => rfl) ?_
                refine pu (v := .sc _) (wtG rfl rfl rfl h44) rfl (fun _ => rfl) ?_
                refine pkT (v := .sc (.bool (decide (m < (w6 (v31 - z35)))))) rfl rfl h44 rfl ?_
                refine RunC.fin ?_
                have hR := Option.some.inj hR; subst hR
                exact Weak.turnL [(0, 0), (1, 0)] [] rfl rfl (tc (trS' rfl rfl rfl rfl rfl) (tc (.sc _) (tc (.sc _) (tc (.sc _) (tc (.fn (.cons (trP' rfl rfl rfl rfl) (.nil))) (tc (.sc _) (tc (.sc _) (tc (.sc _) (tc (.sc _) tn))))))))) (mc rfl (btrA' rfl) (mc rfl (.box rfl (.cons (.sc _) (.cons (.sc _) (.cons trR1 (.nil)))) rfl) mn))
              · refine sk (skW rfl rfl rfl h44) ?_
                refine sk (skW rfl rfl rfl h44) ?_
                refine sk (skW rfl rfl rfl h44) ?_
                refine pkF (v := .sc (.bool false)) rfl rfl h44 rfl ?_
                refine RunC.fin ?_
                have hR := Option.some.inj hR; subst hR
                exact Weak.turnL [(0, 0), (1, 0)] [] rfl rfl (tc (trS' rfl rfl rfl rfl rfl) (tc (.sc _) (tc (.sc _) (tc (.sc _) (tc (.fn (.cons (trP' rfl rfl rfl rfl) (.nil))) (tc (.sc _) (tc (.sc _) (tc (.sc _) (tc (.sc _) tn))))))))) (mc rfl (btrA' rfl) (mc rfl (.box rfl (.cons (.sc _) (.cons (.sc _) (.cons trR1 (.nil)))) rfl) mn))
            · refine AWP.cd hR rfl (fun h45 hR => ?_) fun h45 hR => ?_
              · refine AWP.rgC 26 rfl rfl ?_
                refine pu (v := slV Int _ _ _ _) rfl rfl (fun _ => rfl) ?_
                refine pu (v := .sc _) rfl rfl (fun _ => rfl) ?_
                refine pu (v := .sc _) rfl rfl (fun _ => rfl) ?_
                refine pu (v := .sc _) rfl rfl (fun _ => rfl) ?_
                refine pu (v := .fn _ _) rfl rfl (fun _ => rfl) ?_
                obtain ⟨r46, hr46, hR⟩ := bindE hR
                obtain ⟨h47, hR⟩ := chkE hR
                refine cps (res' := .tup []) (ups := [(0, arrB (α := Int) 3 0 false r46), (1, boxB (α := Cells) false cmpc0)]) [0, 1] 22 rfl rfl rfl cb75 (ok75_32 data z35 m (w6 (v31 - z35)) cmpc0 _ hr46) (.cons (ldM rfl rfl) (.cons (.sc _) (.cons (.sc _) (.cons (.sc _) (.cons (.fn (.cons (ldP rfl rfl) (.nil))) (.nil)))))) (pc rfl bldA (pc rfl (.box (.cons (.sc _) (.cons (.sc _) (.cons ldR' (.nil)))) rfl) pn)) rfl rfl rfl rfl rfl (by first | rfl | exact renR | exact renA | exact renS | simp only [V.ren, V.rens, renR, renA, renS] | (simp only [V.ren, V.rens, renR, renA, renS]; rfl)) (by simp only [passUps, renBox, renArr]; rfl) ?_
                refine RunC.fin ?_
                refine AWP.sq ?_
                refine AWP.joinX (fun z48 : Bool => LS.mk [(0, slV Int 0 0 0 data.length), (1, .sc (.int .i64 a)), (3, .sc (.int .i64 b)), (4, .fn (.func 40) [.ptr 1 0 0]), (18, .sc (.int .i64 (w6 (Int.fdiv (IntKind.wrap .u64 (w6 (a + b))) (2 ^ 1))))), (20, .sc (.int .i64 z35)), (24, .sc (.int .i64 (w6 (v31 - z35)))), (199, .sc (.bool z48))] (lblks 0 [arrB (α := Int) 3 0 false r46, boxB (α := Cells) false cmpc0]) 2) hR (fun o48 hR => ?_) fun z48 hR => ?_
                · refine AWP.rgC 58 rfl rfl ?_
                  refine pu (v := .sc _) rfl rfl (fun _ => rfl) ?_
                  refine pu (v := .sc _) rfl rfl (fun _ => rfl) ?_
                  refine pu (v := .sc _) rfl rfl (fun _ => rfl) ?_
                  refine pu (v := .sc _) rfl rfl (fun _ => rfl) ?_
                  refine brR hR (fun h49 hR => ?_) fun h49 hR => ?_
                  · refine pu (v := .sc _) (wtG rfl rfl rfl h49) rfl (fun _ => rfl) ?_
                    refine pu (v := .sc _) (wtG rfl rfl rfl h49) rfl (fun _ => rfl) ?_
                    obtain ⟨v50, ev50, hR⟩ := letE hR
                    refine pu (v := .sc _) (wtG rfl rfl rfl h49) rfl (fun _ => puB ev50) ?_
                    refine pkT (v := .sc (.bool v50)) rfl rfl h49 rfl ?_
                    refine RunC.fin ?_
                    have hR := Option.some.inj hR; subst hR
                    exact Weak.turnL [(0, 0), (1, 0)] [] rfl rfl (tc (trS' rfl rfl rfl rfl rfl) (tc (.sc _) (tc (.sc _) (tc (.fn (.cons (trP' rfl rfl rfl rfl) (.nil))) (tc (.sc _) (tc (.sc _) (tc (.sc _) (tc (.sc _) tn)))))))) (mc rfl (btrA' rfl) (mc rfl (.box rfl (.cons (.sc _) (.cons (.sc _) (.cons trR1 (.nil)))) rfl) mn))
                  · refine sk (skW rfl rfl rfl h49) ?_
                    refine sk (skW rfl rfl rfl h49) ?_
                    refine sk (skW rfl rfl rfl h49) ?_
                    refine pkF (v := .sc (.bool false)) rfl rfl h49 rfl ?_
                    refine RunC.fin ?_
                    have hR := Option.some.inj hR; subst hR
                    exact Weak.turnL [(0, 0), (1, 0)] [] rfl rfl (tc (trS' rfl rfl rfl rfl rfl) (tc (.sc _) (tc (.sc _) (tc (.fn (.cons (trP' rfl rfl rfl rfl) (.nil))) (tc (.sc _) (tc (.sc _) (tc (.sc _) (tc (.sc _) tn)))))))) (mc rfl (btrA' rfl) (mc rfl (.box rfl (.cons (.sc _) (.cons (.sc _) (.cons trR1 (.nil)))) rfl) mn))
                · refine AWP.cd hR rfl (fun h51 hR => ?_) fun h51 hR => ?_
                  · refine AWP.rgC 26 rfl rfl ?_
                    refine pu (v := slV Int _ _ _ _) rfl rfl (fun _ => rfl) ?_
                    refine pu (v := .sc _) rfl rfl (fun _ => rfl) ?_
                    refine pu (v := .sc _) rfl rfl (fun _ => rfl) ?_
                    refine pu (v := .sc _) rfl rfl (fun _ => rfl) ?_
                    refine pu (v := .fn _ _) rfl rfl (fun _ => rfl) ?_
                    obtain ⟨r52, hr52, hR⟩ := bindE hR
                    obtain ⟨h53, hR⟩ := chkE hR
                    refine cps (res' := .tup []) (ups := [(0, arrB (α := Int) 3 0 false r52.1), (1, boxB (α := Cells) false r52.2)]) [0, 1] 22 rfl rfl rfl cb68 (ih r46 a z35 (w6 (Int.fdiv (IntKind.wrap .u64 (w6 (a + b))) (2 ^ 1))) cmpc0 _ hr52) (.cons (ldM2 rfl rfl (by first | assumption | omega)) (.cons (.sc _) (.cons (.sc _) (.cons (.sc _) (.cons (.fn (.cons (ldP rfl rfl) (.nil))) (.nil)))))) (pc rfl bldA (pc rfl (.box (.cons (.sc _) (.cons (.sc _) (.cons ldR' (.nil)))) rfl) pn)) rfl rfl rfl rfl rfl (by first | rfl | exact renR | exact renA | exact renS | simp only [V.ren, V.rens, renR, renA, renS] | (simp only [V.ren, V.rens, renR, renA, renS]; rfl)) (by simp only [passUps, renBox, renArr]; rfl) ?_
                    refine RunC.fin ?_
                    refine AWP.joinX (fun z54 : Bool => LS.mk [(0, slV Int 0 0 0 data.length), (3, .sc (.int .i64 b)), (4, .fn (.func 40) [.ptr 1 0 0]), (18, .sc (.int .i64 (w6 (Int.fdiv (IntKind.wrap .u64 (w6 (a + b))) (2 ^ 1))))), (24, .sc (.int .i64 (w6 (v31 - z35)))), (213, .sc (.bool z54))] (lblks 0 [arrB (α := Int) 3 0 false r52.1, boxB (α := Cells) false r52.2]) 2) hR (fun o54 hR => ?_) fun z54 hR => ?_
                    · refine AWP.rgC 58 rfl rfl ?_
                      refine pu (v := .sc _) rfl rfl (fun _ => rfl) ?_
                      refine pu (v := .sc _) rfl rfl (fun _ => rfl) ?_
                      obtain ⟨v55, ev55, hR⟩ := letE hR
                      refine pu (v := .sc _) rfl rfl (fun _ => puB ev55) ?_
                      refine pu (v := .sc _) rfl rfl (fun _ => rfl) ?_
                      refine brR hR (fun h56 hR => ?_) fun h56 hR => ?_
                      · refine pu (v := .sc _) (wtG rfl rfl rfl h56) rfl (fun _ => rfl) ?_
                        refine pu (v := .sc _) (wtG rfl rfl rfl h56) rfl (fun _ => rfl) ?_
                        refine pu (v := .sc _) (wtG rfl rfl rfl h56) rfl (fun _ => rfl) ?_
                        refine pkT (v := .sc (.bool (decide ((w6 (v31 - z35)) < b)))) rfl rfl h56 rfl ?_
                        refine RunC.fin ?_
                        have hR := Option.some.inj hR; subst hR
                        exact Weak.turnL [(0, 0), (1, 0)] [] rfl rfl (tc (trS' rfl rfl rfl rfl rfl) (tc (.sc _) (tc (.fn (.cons (trP' rfl rfl rfl rfl) (.nil))) (tc (.sc _) (tc (.sc _) (tc (.sc _) tn)))))) (mc rfl (btrA' rfl) (mc rfl (.box rfl (.cons (.sc _) (.cons (.sc _) (.cons trR1 (.nil)))) rfl) mn))
                      · refine sk (skW rfl rfl rfl h56) ?_
                        refine sk (skW rfl rfl rfl h56) ?_
                        refine sk (skW rfl rfl rfl h56) ?_
                        refine pkF (v := .sc (.bool false)) rfl rfl h56 rfl ?_
                        refine RunC.fin ?_
                        have hR := Option.some.inj hR; subst hR
                        exact Weak.turnL [(0, 0), (1, 0)] [] rfl rfl (tc (trS' rfl rfl rfl rfl rfl) (tc (.sc _) (tc (.fn (.cons (trP' rfl rfl rfl rfl) (.nil))) (tc (.sc _) (tc (.sc _) (tc (.sc _) tn)))))) (mc rfl (btrA' rfl) (mc rfl (.box rfl (.cons (.sc _) (.cons (.sc _) (.cons trR1 (.nil)))) rfl) mn))
                    · refine AWP.cd hR rfl (fun h57 hR => ?_) fun h57 hR => ?_
                      · refine AWP.rgC 26 rfl rfl ?_
                        refine pu (v := slV Int _ _ _ _) rfl rfl (fun _ => rfl) ?_
                        refine pu (v := .sc _) rfl rfl (fun _ => rfl) ?_
                        refine pu (v := .sc _) rfl rfl (fun _ => rfl) ?_
                        refine pu (v := .sc _) rfl rfl (fun _ => rfl) ?_
                        refine pu (v := .fn _ _) rfl rfl (fun _ => rfl) ?_
                        obtain ⟨r58, hr58, hR⟩ := bindE hR
                        obtain ⟨h59, hR⟩ := chkE hR
                        refine cps (res' := .tup []) (ups := [(0, arrB (α := Int) 3 0 false r58.1), (1, boxB (α := Cells) false r58.2)]) [0, 1] 22 rfl rfl rfl cb68 (ih r52.1 (w6 (Int.fdiv (IntKind.wrap .u64 (w6 (a + b))) (2 ^ 1))) (w6 (v31 - z35)) b r52.2 _ hr58) (.cons (ldM2 rfl rfl (by first | assumption | omega)) (.cons (.sc _) (.cons (.sc _) (.cons (.sc _) (.cons (.fn (.cons (ldP rfl rfl) (.nil))) (.nil)))))) (pc rfl bldA (pc rfl (.box (.cons (.sc _) (.cons (.sc _) (.cons ldR' (.nil)))) rfl) pn)) rfl rfl rfl rfl rfl (by first | rfl | exact renR | exact renA | exact renS | simp only [V.ren, V.rens, renR, renA, renS] | (simp only [V.ren, V.rens, renR, renA, renS]; rfl)) (by simp only [passUps, renBox, renArr]; rfl) ?_
                        refine RunC.nil ?_
                        have hR := Option.some.inj hR; subst hR
                        exact hQ _ _ (LS.mk [] (lblks 0 [arrB (α := Int) 3 0 false r58.1, boxB (α := Cells) false r58.2]) 2) (.tup []) [] (.inl rfl) (Weak.turnL [(0, 0), (1, 0)] [] rfl rfl tn (mc rfl (btrA' rfl) (mc rfl (.box rfl (.cons (.sc _) (.cons (.sc _) (.cons trR1 (.nil)))) rfl) mn))) (ro0 ) rfl rfl (.tup .nil) (pc rfl bldA (pc rfl bldB pn))
                      · refine AWP.skip ?_
                        have hR := Option.some.inj hR; subst hR
                        exact hQ _ _ (LS.mk [] (lblks 0 [arrB (α := Int) 3 0 false r52.1, boxB (α := Cells) false r52.2]) 2) (.tup []) [] (.inl rfl) (Weak.turnL [(0, 0), (1, 0)] [] rfl rfl tn (mc rfl (btrA' rfl) (mc rfl (.box rfl (.cons (.sc _) (.cons (.sc _) (.cons trR1 (.nil)))) rfl) mn))) (ro0 ) rfl rfl (.tup .nil) (pc rfl bldA (pc rfl bldB pn))
                  · refine AWP.skip ?_
                    refine skT ?_
                    refine AWP.joinX (fun z60 : Bool => LS.mk [(0, slV Int 0 0 0 data.length), (3, .sc (.int .i64 b)), (4, .fn (.func 40) [.ptr 1 0 0]), (18, .sc (.int .i64 (w6 (Int.fdiv (IntKind.wrap .u64 (w6 (a + b))) (2 ^ 1))))), (24, .sc (.int .i64 (w6 (v31 - z35)))), (213, .sc (.bool z60))] (lblks 0 [arrB (α := Int) 3 0 false r46, boxB (α := Cells) false cmpc0]) 2) hR (fun o60 hR => ?_) fun z60 hR => ?_
                    · refine AWP.rgC 34 rfl rfl ?_
                      refine pu (v := .sc _) rfl rfl (fun _ => rfl) ?_
                      refine pu (v := .sc _) rfl rfl (fun _ => rfl) ?_
                      obtain ⟨v61, ev61, hR⟩ := letE hR
                      refine pu (v := .sc _) rfl rfl (fun _ => puB ev61) ?_
                      refine pu (v := .sc _) rfl rfl (fun _ => rfl) ?_
                      refine brR hR (fun h62 hR => ?_) fun h62 hR => ?_
                      · refine pu (v := .sc _) (wtG rfl rfl rfl h62) rfl (fun _ => rfl) ?_
                        refine pu (v := .sc _) (wtG rfl rfl rfl h62) rfl (fun _ => rfl) ?_
                        refine pu (v := .sc _) (wtG rfl rfl rfl h62) rfl (fun _ => rfl) ?_
                        refine pkT (v := .sc (.bool (decide ((w6 (v31 - z35)) < b)))) rfl rfl h62 rfl ?_
                        refine RunC.fin ?_
                        have hR := Option.some.inj hR; subst hR
                        exact Weak.turnL [(0, 0), (1, 0)] [] rfl rfl (tc (trS' rfl rfl rfl rfl rfl) (tc (.sc _) (tc (.fn (.cons (trP' rfl rfl rfl rfl) (.nil))) (tc (.sc _) (tc (.sc _) (tc (.sc _) tn)))))) (mc rfl (btrA' rfl) (mc rfl (.box rfl (.cons (.sc _) (.cons (.sc _) (.cons trR1 (.nil)))) rfl) mn))
                      · refine sk (skW rfl rfl rfl h62) ?_
                        refine sk (skW rfl rfl rfl h62) ?_
                        refine sk (skW rfl rfl rfl h62) ?_
                        refine pkF (v := .sc (.bool false)) rfl rfl h62 rfl ?_
                        refine RunC.fin ?_
                        have hR := Option.some.inj hR; subst hR
                        exact Weak.turnL [(0, 0), (1, 0)] [] rfl rfl (tc (trS' rfl rfl rfl rfl rfl) (tc (.sc _) (tc (.fn (.cons (trP' rfl rfl rfl rfl) (.nil))) (tc (.sc _) (tc (.sc _) (tc (.sc _) tn)))))) (mc rfl (btrA' rfl) (mc rfl (.box rfl (.cons (.sc _) (.cons (.sc _) (.cons trR1 (.nil)))) rfl) mn))
                    · refine AWP.cd hR rfl (fun h63 hR => ?_) fun h63 hR => ?_
                      · refine AWP.rgC 26 rfl rfl ?_
                        refine pu (v := slV Int _ _ _ _) rfl rfl (fun _ => rfl) ?_
                        refine pu (v := .sc _) rfl rfl (fun _ => rfl) ?_
                        refine pu (v := .sc _) rfl rfl (fun _ => rfl) ?_
                        refine pu (v := .sc _) rfl rfl (fun _ => rfl) ?_
                        refine pu (v := .fn _ _) rfl rfl (fun _ => rfl) ?_
                        obtain ⟨r64, hr64, hR⟩ := bindE hR
                        obtain ⟨h65, hR⟩ := chkE hR
                        refine cps (res' := .tup []) (ups := [(0, arrB (α := Int) 3 0 false r64.1), (1, boxB (α := Cells) false r64.2)]) [0, 1] 22 rfl rfl rfl cb68 (ih r46 (w6 (Int.fdiv (IntKind.wrap .u64 (w6 (a + b))) (2 ^ 1))) (w6 (v31 - z35)) b cmpc0 _ hr64) (.cons (ldM2 rfl rfl (by first | assumption | omega)) (.cons (.sc _) (.cons (.sc _) (.cons (.sc _) (.cons (.fn (.cons (ldP rfl rfl) (.nil))) (.nil)))))) (pc rfl bldA (pc rfl (.box (.cons (.sc _) (.cons (.sc _) (.cons ldR' (.nil)))) rfl) pn)) rfl rfl rfl rfl rfl (by first | rfl | exact renR | exact renA | exact renS | simp only [V.ren, V.rens, renR, renA, renS] | (simp only [V.ren, V.rens, renR, renA, renS]; rfl)) (by simp only [passUps, renBox, renArr]; rfl) ?_
                        refine RunC.nil ?_
                        have hR := Option.some.inj hR; subst hR
                        exact hQ _ _ (LS.mk [] (lblks 0 [arrB (α := Int) 3 0 false r64.1, boxB (α := Cells) false r64.2]) 2) (.tup []) [] (.inl rfl) (Weak.turnL [(0, 0), (1, 0)] [] rfl rfl tn (mc rfl (btrA' rfl) (mc rfl (.box rfl (.cons (.sc _) (.cons (.sc _) (.cons trR1 (.nil)))) rfl) mn))) (ro0 ) rfl rfl (.tup .nil) (pc rfl bldA (pc rfl bldB pn))
                      · refine AWP.skip ?_
                        have hR := Option.some.inj hR; subst hR
                        exact hQ _ _ (LS.mk [] (lblks 0 [arrB (α := Int) 3 0 false r46, boxB (α := Cells) false cmpc0]) 2) (.tup []) [] (.inl rfl) (Weak.turnL [(0, 0), (1, 0)] [] rfl rfl tn (mc rfl (btrA' rfl) (mc rfl (.box rfl (.cons (.sc _) (.cons (.sc _) (.cons trR1 (.nil)))) rfl) mn))) (ro0 ) rfl rfl (.tup .nil) (pc rfl bldA (pc rfl bldB pn))
              · refine AWP.skip ?_
                refine skT ?_
                refine AWP.sq ?_
                refine AWP.joinX (fun z66 : Bool => LS.mk [(0, slV Int 0 0 0 data.length), (1, .sc (.int .i64 a)), (3, .sc (.int .i64 b)), (4, .fn (.func 40) [.ptr 1 0 0]), (18, .sc (.int .i64 (w6 (Int.fdiv (IntKind.wrap .u64 (w6 (a + b))) (2 ^ 1))))), (20, .sc (.int .i64 z35)), (24, .sc (.int .i64 (w6 (v31 - z35)))), (199, .sc (.bool z66))] (lblks 0 [arrB (α := Int) 3 0 false data, boxB (α := Cells) false cmpc0]) 2) hR (fun o66 hR => ?_) fun z66 hR => ?_
                · refine AWP.rgC 34 rfl rfl ?_
                  refine pu (v := .sc _) rfl rfl (fun _ => rfl) ?_
                  refine pu (v := .sc _) rfl rfl (fun _ => rfl) ?_
                  refine pu (v := .sc _) rfl rfl (fun _ => rfl) ?_
                  refine pu (v := .sc _) rfl rfl (fun _ => rfl) ?_
                  refine brR hR (fun h67 hR => ?_) fun h67 hR => ?_
                  · refine pu (v := .sc _) (wtG rfl rfl rfl h67) rfl (fun _ => rfl) ?_
                    refine pu (v := .sc _) (wtG rfl rfl rfl h67) rfl (fun _ => rfl) ?_
                    obtain ⟨v68, ev68, hR⟩ := letE hR
                    refine pu (v := .sc _) (wtG rfl rfl rfl h67) rfl (fun _ => puB ev68) ?_
                    refine pkT (v := .sc (.bool v68)) rfl rfl h67 rfl ?_
                    refine RunC.fin ?_
                    have hR := Option.some.inj hR; subst hR
                    exact Weak.turnL [(0, 0), (1, 0)] [] rfl rfl (tc (trS' rfl rfl rfl rfl rfl) (tc (.sc _) (tc (.sc _) (tc (.fn (.cons (trP' rfl rfl rfl rfl) (.nil))) (tc (.sc _) (tc (.sc _) (tc (.sc _) (tc (.sc _) tn)))))))) (mc rfl (btrA' rfl) (mc rfl (.box rfl (.cons (.sc _) (.cons (.sc _) (.cons trR1 (.nil)))) rfl) mn))
                  · refine sk (skW rfl rfl rfl h67) ?_
                    refine sk (skW rfl rfl rfl h67) ?_
                    refine sk (skW rfl rfl rfl h67) ?_
                    refine pkF (v := .sc (.bool false)) rfl rfl h67 rfl ?_
                    refine RunC.fin ?_
                    have hR := Option.some.inj hR; subst hR
                    exact Weak.turnL [(0, 0), (1, 0)] [] rfl rfl (tc (trS' rfl rfl rfl rfl rfl) (tc (.sc _) (tc (.sc _) (tc (.fn (.cons (trP' rfl rfl rfl rfl) (.nil))) (tc (.sc _) (tc (.sc _) (tc (.sc _) (tc (.sc _) tn)))))))) (mc rfl (btrA' rfl) (mc rfl (.box rfl (.cons (.sc _) (.cons (.sc _) (.cons trR1 (.nil)))) rfl) mn))
                · refine AWP.cd hR rfl (fun h69 hR => ?_) fun h69 hR => ?_
                  · refine AWP.rgC 26 rfl rfl ?_
                    refine pu (v := slV Int _ _ _ _) rfl rfl (fun _ => rfl) ?_
                    refine pu (v := .sc _) rfl rfl (fun _ => rfl) ?_
                    refine pu (v := .sc _) rfl rfl (fun _ => rfl) ?_
                    refine pu (v := .sc _) rfl rfl (fun _ => rfl) ?_
                    refine pu (v := .fn _ _) rfl rfl (fun _ => rfl) ?_
                    obtain ⟨r70, hr70, hR⟩ := bindE hR
                    obtain ⟨h71, hR⟩ := chkE hR
                    refine cps (res' := .tup []) (ups := [(0, arrB (α := Int) 3 0 false r70.1), (1, boxB (α := Cells) false r70.2)]) [0, 1] 22 rfl rfl rfl cb68 (ih data a z35 (w6 (Int.fdiv (IntKind.wrap .u64 (w6 (a + b))) (2 ^ 1))) cmpc0 _ hr70) (.cons (ldM rfl rfl) (.cons (.sc _) (.cons (.sc _) (.cons (.sc _) (.cons (.fn (.cons (ldP rfl rfl) (.nil))) (.nil)))))) (pc rfl bldA (pc rfl (.box (.cons (.sc _) (.cons (.sc _) (.cons ldR' (.nil)))) rfl) pn)) rfl rfl rfl rfl rfl (by first | rfl | exact renR | exact renA | exact renS | simp only [V.ren, V.rens, renR, renA, renS] | (simp only [V.ren, V.rens, renR, renA, renS]; rfl)) (by simp only [passUps, renBox, renArr]; rfl) ?_
                    refine RunC.fin ?_
                    refine AWP.joinX (fun z72 : Bool => LS.mk [(0, slV Int 0 0 0 data.length), (3, .sc (.int .i64 b)), (4, .fn (.func 40) [.ptr 1 0 0]), (18, .sc (.int .i64 (w6 (Int.fdiv (IntKind.wrap .u64 (w6 (a + b))) (2 ^ 1))))), (24, .sc (.int .i64 (w6 (v31 - z35)))), (213, .sc (.bool z72))] (lblks 0 [arrB (α := Int) 3 0 false r70.1, boxB (α := Cells) false r70.2]) 2) hR (fun o72 hR => ?_) fun z72 hR => ?_
                    · refine AWP.rgC 58 rfl rfl ?_
                      refine pu (v := .sc _) rfl rfl (fun _ => rfl) ?_
                      refine pu (v := .sc _) rfl rfl (fun _ => rfl) ?_
                      obtain ⟨v73, ev73, hR⟩ := letE hR
                      refine pu (v := .sc _) rfl rfl (fun _ => puB ev73) ?_
                      refine pu (v := .sc _) rfl rfl (fun _ => rfl) ?_
                      refine brR hR (fun h74 hR => ?_) fun h74 hR => ?_
                      · refine pu (v := .sc _) (wtG rfl rfl rfl h74) rfl (fun _ => rfl) ?_
                        refine pu (v := .sc _) (wtG rfl rfl rfl h74) rfl (fun _ => rfl) ?_
                        refine pu (v := .sc _) (wtG rfl rfl rfl h74) rfl (fun _ => rfl) ?_
                        refine pkT (v := .sc (.bool (decide ((w6 (v31 - z35)) < b)))) rfl rfl h74 rfl ?_
                        refine RunC.fin ?_
                        have hR := Option.some.inj hR; subst hR
                        exact Weak.turnL [(0, 0), (1, 0)] [] rfl rfl (tc (trS' rfl rfl rfl rfl rfl) (tc (.sc _) (tc (.fn (.cons (trP' rfl rfl rfl rfl) (.nil))) (tc (.sc _) (tc (.sc _) (tc (.sc _) tn)))))) (mc rfl (btrA' rfl) (mc rfl (.box rfl (.cons (.sc _) (.cons (.sc _) (.cons trR1 (.nil)))) rfl) mn))
                      · refine sk (skW rfl rfl rfl h74) ?_
                        refine sk (skW rfl rfl rfl h74) ?_
                        refine sk (skW rfl rfl rfl h74) ?_
                        refine pkF (v := .sc (.bool false)) rfl rfl h74 rfl ?_
                        refine RunC.fin ?_
                        have hR := Option.some.inj hR; subst hR
                        exact Weak.turnL [(0, 0), (1, 0)] [] rfl rfl (tc (trS' rfl rfl rfl rfl rfl) (tc (.sc _) (tc (.fn (.cons (trP' rfl rfl rfl rfl) (.nil))) (tc (.sc _) (tc (.sc _) (tc (.sc _) tn)))))) (mc rfl (btrA' rfl) (mc rfl (.box rfl (.cons (.sc _) (.cons (.sc _) (.cons trR1 (.nil)))) rfl) mn))
                    · refine AWP.cd hR rfl (fun h75 hR => ?_) fun h75 hR => ?_
                      · refine AWP.rgC 26 rfl rfl ?_
                        refine pu (v := slV Int _ _ _ _) rfl rfl (fun _ => rfl) ?_
                        refine pu (v := .sc _) rfl rfl (fun _ => rfl) ?_
                        refine pu (v := .sc _) rfl rfl (fun _ => rfl) ?_
                        refine pu (v := .sc _) rfl rfl (fun _ => rfl) ?_
                        refine pu (v := .fn _ _) rfl rfl (fun _ => rfl) ?_
                        obtain ⟨r76, hr76, hR⟩ := bindE hR
                        obtain ⟨h77, hR⟩ := chkE hR
                        refine cps (res' := .tup []) (ups := [(0, arrB (α := Int) 3 0 false r76.1), (1, boxB (α := Cells) false r76.2)]) [0, 1] 22 rfl rfl rfl cb68 (ih r70.1 (w6 (Int.fdiv (IntKind.wrap .u64 (w6 (a + b))) (2 ^ 1))) (w6 (v31 - z35)) b r70.2 _ hr76) (.cons (ldM2 rfl rfl (by first | assumption | omega)) (.cons (.sc _) (.cons (.sc _) (.cons (.sc _) (.cons (.fn (.cons (ldP rfl rfl) (.nil))) (.nil)))))) (pc rfl bldA (pc rfl (.box (.cons (.sc _) (.cons (.sc _) (.cons ldR' (.nil)))) rfl) pn)) rfl rfl rfl rfl rfl (by first | rfl | exact renR | exact renA | exact renS | simp only [V.ren, V.rens, renR, renA, renS] | (simp only [V.ren, V.rens, renR, renA, renS]; rfl)) (by simp only [passUps, renBox, renArr]; rfl) ?_
                        refine RunC.nil ?_
                        have hR := Option.some.inj hR; subst hR
                        exact hQ _ _ (LS.mk [] (lblks 0 [arrB (α := Int) 3 0 false r76.1, boxB (α := Cells) false r76.2]) 2) (.tup []) [] (.inl rfl) (Weak.turnL [(0, 0), (1, 0)] [] rfl rfl tn (mc rfl (btrA' rfl) (mc rfl (.box rfl (.cons (.sc _) (.cons (.sc _) (.cons trR1 (.nil)))) rfl) mn))) (ro0 ) rfl rfl (.tup .nil) (pc rfl bldA (pc rfl bldB pn))
                      · refine AWP.skip ?_
                        have hR := Option.some.inj hR; subst hR
                        exact hQ _ _ (LS.mk [] (lblks 0 [arrB (α := Int) 3 0 false r70.1, boxB (α := Cells) false r70.2]) 2) (.tup []) [] (.inl rfl) (Weak.turnL [(0, 0), (1, 0)] [] rfl rfl tn (mc rfl (btrA' rfl) (mc rfl (.box rfl (.cons (.sc _) (.cons (.sc _) (.cons trR1 (.nil)))) rfl) mn))) (ro0 ) rfl rfl (.tup .nil) (pc rfl bldA (pc rfl bldB pn))
                  · refine AWP.skip ?_
                    refine skT ?_
                    refine AWP.joinX (fun z78 : Bool => LS.mk [(0, slV Int 0 0 0 data.length), (3, .sc (.int .i64 b)), (4, .fn (.func 40) [.ptr 1 0 0]), (18, .sc (.int .i64 (w6 (Int.fdiv (IntKind.wrap .u64 (w6 (a + b))) (2 ^ 1))))), (24, .sc (.int .i64 (w6 (v31 - z35)))), (213, .sc (.bool z78))] (lblks 0 [arrB (α := Int) 3 0 false data, boxB (α := Cells) false cmpc0]) 2) hR (fun o78 hR => ?_) fun z78 hR => ?_
                    · refine AWP.rgC 34 rfl rfl ?_
                      refine pu (v := .sc _) rfl rfl (fun _ => rfl) ?_
                      refine pu (v := .sc _) rfl rfl (fun _ => rfl) ?_
                      obtain ⟨v79, ev79, hR⟩ := letE hR
                      refine pu (v := .sc _) rfl rfl (fun _ => puB ev79) ?_
                      refine pu (v := .sc _) rfl rfl (fun _ => rfl) ?_
                      refine brR hR (fun h80 hR => ?_) fun h80 hR => ?_
                      · refine pu (v := .sc _) (wtG rfl rfl rfl h80) rfl (fun _ => rfl) ?_
                        refine pu (v := .sc _) (wtG rfl rfl rfl h80) rfl (fun _ => rfl) ?_
                        refine pu (v := .sc _) (wtG rfl rfl rfl h80) rfl (fun _ => rfl) ?_
                        refine pkT (v := .sc (.bool (decide ((w6 (v31 - z35)) < b)))) rfl rfl h80 rfl ?_
                        refine RunC.fin ?_
                        have hR := Option.some.inj hR; subst hR
                        exact Weak.turnL [(0, 0), (1, 0)] [] rfl rfl (tc (trS' rfl rfl rfl rfl rfl) (tc (.sc _) (tc (.fn (.cons (trP' rfl rfl rfl rfl) (.nil))) (tc (.sc _) (tc (.sc _) (tc (.sc _) tn)))))) (mc rfl (btrA' rfl) (mc rfl (.box rfl (.cons (.sc _) (.cons (.sc _) (.cons trR1 (.nil)))) rfl) mn))
                      · refine sk (skW rfl rfl rfl h80) ?_
                        refine sk (skW rfl rfl rfl h80) ?_
                        refine sk (skW rfl rfl rfl h80) ?_
                        refine pkF (v := .sc (.bool false)) rfl rfl h80 rfl ?_
                        refine RunC.fin ?_
                        have hR := Option.some.inj hR; subst hR
                        exact Weak.turnL [(0, 0), (1, 0)] [] rfl rfl (tc (trS' rfl rfl rfl rfl rfl) (tc (.sc _) (tc (.fn (.cons (trP' rfl rfl rfl rfl) (.nil))) (tc (.sc _) (tc (.sc _) (tc (.sc _) tn)))))) (mc rfl (btrA' rfl) (mc rfl (.box rfl (.cons (.sc _) (.cons (.sc _) (.cons trR1 (.nil)))) rfl) mn))
                    · refine AWP.cd hR rfl (fun h81 hR => ?_) fun h81 hR => ?_
                      · refine AWP.rgC 26 rfl rfl ?_
                        refine pu (v := slV Int _ _ _ _) rfl rfl (fun _ => rfl) ?_
                        refine pu (v := .sc _) rfl rfl (fun _ => rfl) ?_
                        refine pu (v := .sc _) rfl rfl (fun _ => rfl) ?_
                        refine pu (v := .sc _) rfl rfl (fun _ => rfl) ?_
                        refine pu (v := .fn _ _) rfl rfl (fun _ => rfl) ?_
                        obtain ⟨r82, hr82, hR⟩ := bindE hR
                        obtain ⟨h83, hR⟩ := chkE hR
                        refine cps (res' := .tup []) (ups := [(0, arrB (α := Int) 3 0 false r82.1), (1, boxB (α := Cells) false r82.2)]) [0, 1] 22 rfl rfl rfl cb68 (ih data (w6 (Int.fdiv (IntKind.wrap .u64 (w6 (a + b))) (2 ^ 1))) (w6 (v31 - z35)) b cmpc0 _ hr82) (.cons (ldM rfl rfl) (.cons (.sc _) (.cons (.sc _) (.cons (.sc _) (.cons (.fn (.cons (ldP rfl rfl) (.nil))) (.nil)))))) (pc rfl bldA (pc rfl (.box (.cons (.sc _) (.cons (.sc _) (.cons ldR' (.nil)))) rfl) pn)) rfl rfl rfl rfl rfl (by first | rfl | exact renR | exact renA | exact renS | simp only [V.ren, V.rens, renR, renA, renS] | (simp only [V.ren, V.rens, renR, renA, renS]; rfl)) (by simp only [passUps, renBox, renArr]; rfl) ?_
                        refine RunC.nil ?_
                        have hR := Option.some.inj hR; subst hR
                        exact hQ _ _ (LS.mk [] (lblks 0 [arrB (α := Int) 3 0 false r82.1, boxB (α := Cells) false r82.2]) 2) (.tup []) [] (.inl rfl) (Weak.turnL [(0, 0), (1, 0)] [] rfl rfl tn (mc rfl (btrA' rfl) (mc rfl (.box rfl (.cons (.sc _) (.cons (.sc _) (.cons trR1 (.nil)))) rfl) mn))) (ro0 ) rfl rfl (.tup .nil) (pc rfl bldA (pc rfl bldB pn))
                      · refine AWP.skip ?_
                        have hR := Option.some.inj hR; subst hR
                        exact hQ _ _ (LS.mk [] (lblks 0 [arrB (α := Int) 3 0 false data, boxB (α := Cells) false cmpc0]) 2) (.tup []) [] (.inl rfl) (Weak.turnL [(0, 0), (1, 0)] [] rfl rfl tn (mc rfl (btrA' rfl) (mc rfl (.box rfl (.cons (.sc _) (.cons (.sc _) (.cons trR1 (.nil)))) rfl) mn))) (ro0 ) rfl rfl (.tup .nil) (pc rfl bldA (pc rfl bldB pn))
        · refine AWP.sq ?_
          refine AWP.rgC 106 rfl rfl ?_
          refine pu (v := .sc _) rfl rfl (fun _ => rfl) ?_
          refine pu (v := .sc _) rfl rfl (fun _ => rfl) ?_
          refine RunC.fin ?_
          refine AWP.rgC 114 rfl rfl ?_
          refine pu (v := .sc _) rfl rfl (fun _ => rfl) ?_
          refine pu (v := .sc _) rfl rfl (fun _ => rfl) ?_
          refine RunC.fin ?_
          refine AWP.sq ?_
          refine AWP.rgC 126 rfl rfl ?_
          refine pu (v := .sc _) rfl rfl (fun _ => rfl) ?_
          refine pu (v := .sc _) rfl rfl (fun _ => rfl) ?_
          refine pu (v := .sc _) rfl rfl (fun _ => rfl) ?_
          refine RunC.fin ?_
          refine AWP.sq ?_
          refine AWP.loopJ (fun s84 : Int × Int => LS.mk [(0, slV Int 0 0 0 data.length), (1, .sc (.int .i64 a)), (2, .sc (.int .i64 m)), (3, .sc (.int .i64 b)), (4, .fn (.func 40) [.ptr 1 0 0]), (18, .sc (.int .i64 (w6 (Int.fdiv (IntKind.wrap .u64 (w6 (a + b))) (2 ^ 1))))), (19, .sc (.int .i64 v31)), (20, .sc (.int .i64 s84.1)), (21, .sc (.int .i64 s84.2)), (22, .sc (.int .i64 (w6 (v31 - 1))))] (lblks 0 [arrB (α := Int) 3 0 false data, boxB (α := Cells) false cmpc0]) 2) (fun z85 : Int => LS.mk [(0, slV Int 0 0 0 data.length), (1, .sc (.int .i64 a)), (2, .sc (.int .i64 m)), (3, .sc (.int .i64 b)), (4, .fn (.func 40) [.ptr 1 0 0]), (18, .sc (.int .i64 (w6 (Int.fdiv (IntKind.wrap .u64 (w6 (a + b))) (2 ^ 1))))), (19, .sc (.int .i64 v31)), (20, .sc (.int .i64 z85))] (lblks 0 [arrB (α := Int) 3 0 false data, boxB (α := Cells) false cmpc0]) 2) (slices_symMergeCmpFunc_Int_find_Sure_1_2.l6 data cmpc0 v31) hR (s0 := (a, m)) (Weak.turnL [(0, 0), (1, 0)] [] rfl rfl (tc (trS' rfl rfl rfl rfl rfl) (tc (.sc _) (tc (.sc _) (tc (.sc _) (tc (.fn (.cons (trP' rfl rfl rfl rfl) (.nil))) (tc (.sc _) (tc (.sc _) (tc (.sc _) (tc (.sc _) (tc (.sc _) tn)))))))))) (mc rfl (btrA' rfl) (mc rfl (.box rfl (.cons (.sc _) (.cons (.sc _) (.cons trR1 (.nil)))) rfl) mn))) (fun s84 o84 hR => ?_) fun z85 hR => ?_
          · unfold slices_symMergeCmpFunc_Int_find_Sure_1_2.l6 at hR
            refine AWP.sq ?_
            refine AWP.sq ?_
            refine AWP.rgC 14 rfl rfl ?_
            refine pu (v := .sc _) rfl rfl (fun _ => rfl) ?_
            refine pu (v := .sc _) rfl rfl (fun _ => rfl) ?_
            refine pu (v := .sc _) rfl rfl (fun _ => rfl) ?_
            refine RunC.fin ?_
            refine AWP.cd hR rfl (fun h86 hR => ?_) fun h86 hR => ?_
            · refine AWP.skip ?_
              refine skT ?_
              refine AWP.block ?_
              refine AWP.sq ?_
              refine AWP.rgC 42 rfl rfl ?_
              refine pu (v := .sc _) rfl rfl (fun _ => rfl) ?_
              refine pu (v := .sc _) rfl rfl (fun _ => rfl) ?_
              refine pu (v := .sc _) rfl rfl (fun _ => rfl) ?_
              refine cn rfl rfl ti3 rfl ti93 rfl rfl ?_
              refine pu (v := .sc _) rfl rfl (fun _ => rfl) ?_
              refine cn rfl rfl ti93 rfl ti3 rfl rfl ?_
              refine pu (v := .sc _) rfl rfl (fun _ => rfl) ?_
              refine RunC.fin ?_
              refine AWP.sq ?_
              refine AWP.rgD 98 [0, 0, 0, 0, 12, 30, 62, 0, 0, 384, 896, 2047, 4095, 8191] ⟨[], [none, none, none, none, none, none, some [0], none, none, none, some [0], none, none, none]⟩ hmix (by kernel_rfl) rfl rfl ?_
              refine pu (v := .fn _ _) rfl rfl (fun _ => rfl) ?_
              refine pu (v := slV Int _ _ _ _) rfl rfl (fun _ => rfl) ?_
              refine pu (v := .sc _) rfl rfl (fun _ => rfl) ?_
              refine pu (v := .sc _) rfl rfl (fun _ => rfl) ?_
              obtain ⟨v87, ev87, hR⟩ := letE hR
              refine pu (v := .sc _) rfl rfl (fun _ => puI ev87) ?_
              obtain ⟨h88, hR⟩ := chkE hR
              refine ixS0 (α := Int) rfl rfl rfl ti22 rfl ti3 rfl h88 ?_
              refine ldE (α := Int) (v := .sc _) rfl rfl rfl (ixlt h88) ti3 rfl rfl rfl rfl ?_
              refine pu (v := slV Int _ _ _ _) rfl rfl (fun _ => rfl) ?_
              refine pu (v := .sc _) rfl rfl (fun _ => rfl) ?_
              obtain ⟨h89, hR⟩ := chkE hR
              refine ixS0 (α := Int) rfl rfl rfl ti22 rfl ti3 rfl h89 ?_
              refine ldE (α := Int) (v := .sc _) rfl rfl rfl (ixlt h89) ti3 rfl rfl rfl rfl ?_
              obtain ⟨r90, hr90, hR⟩ := bindE hR
              refine cls [1] rfl rfl cb40 (ok40 (gt data v87) (gt data (w6 (Int.fdiv (IntKind.wrap .u64 (w6 (s84.1 + s84.2))) (2 ^ 1)))) cmpc0 _ hr90) (.cons (.sc _) (.cons (.sc _) (.cons (ldX rfl rfl (.cons (.sc _) (.cons (.sc _) (.cons ldR' (.nil)))) rfl) (.nil)))) (.inl (by first | rfl | exact freshR | exact freshA | (simp only [V.fresh, V.freshs, freshR, freshA, Bool.and_self]))) rfl ?_
              refine pu (v := .sc _) rfl rfl (fun _ => rfl) ?_
              refine pu (v := .sc _) rfl rfl (fun _ => rfl) ?_
              refine RunC.fin ?_
              refine AWP.cd hR rfl (fun h91 hR => ?_) fun h91 hR => ?_
              · refine AWP.rgC 110 rfl rfl ?_
                refine pu (v := .sc _) rfl rfl (fun _ => rfl) ?_
                obtain ⟨v92, ev92, hR⟩ := letE hR
                refine pu (v := .sc _) rfl rfl (fun _ => puI ev92) ?_
                refine pu (v := .sc _) rfl rfl (fun _ => rfl) ?_
                refine RunC.blk ?_
                refine RunC.fin ?_
                refine ⟨(v92, s84.2), (Option.some.inj hR).symm, ?_⟩
                exact Weak.turnL [(0, 0), (1, 0)] [] rfl rfl (tc (trS' rfl rfl rfl rfl rfl) (tc (.sc _) (tc (.sc _) (tc (.sc _) (tc (.fn (.cons (trP' rfl rfl rfl rfl) (.nil))) (tc (.sc _) (tc (.sc _) (tc (.sc _) (tc (.sc _) (tc (.sc _) tn)))))))))) (mc rfl (btrA' rfl) (mc rfl (.box rfl (.cons (.sc _) (.cons (.sc _) (.cons trR1 (.nil)))) rfl) mn))
              · refine AWP.rgC 106 rfl rfl ?_
                refine pu (v := .sc _) rfl rfl (fun _ => rfl) ?_
                refine pu (v := .sc _) rfl rfl (fun _ => rfl) ?_
                refine RunC.blk ?_
                refine RunC.fin ?_
                refine ⟨(s84.1, w6 (Int.fdiv (IntKind.wrap .u64 (w6 (s84.1 + s84.2))) (2 ^ 1))), (Option.some.inj hR).symm, ?_⟩
                exact Weak.turnL [(0, 0), (1, 0)] [] rfl rfl (tc (trS' rfl rfl rfl rfl rfl) (tc (.sc _) (tc (.sc _) (tc (.sc _) (tc (.fn (.cons (trP' rfl rfl rfl rfl) (.nil))) (tc (.sc _) (tc (.sc _) (tc (.sc _) (tc (.sc _) (tc (.sc _) tn)))))))))) (mc rfl (btrA' rfl) (mc rfl (.box rfl (.cons (.sc _) (.cons (.sc _) (.cons trR1 (.nil)))) rfl) mn))
            · refine AWP.exit ?_
              refine exT ?_
              refine exT ?_
              refine exH (skT ?_)
              refine ⟨s84.1, (Option.some.inj hR).symm, ?_⟩
              exact Weak.turnL [(0, 0), (1, 0)] [] rfl rfl (tc (trS' rfl rfl rfl rfl rfl) (tc (.sc _) (tc (.sc _) (tc (.sc _) (tc (.fn (.cons (trP' rfl rfl rfl rfl) (.nil))) (tc (.sc _) (tc (.sc _) (tc (.sc _) tn)))))))) (mc rfl (btrA' rfl) (mc rfl (.box rfl (.cons (.sc _) (.cons (.sc _) (.cons trR1 (.nil)))) rfl) mn))
          · refine skT ?_
            refine AWP.sq ?_
            refine AWP.rgC 18 rfl rfl ?_
            refine pu (v := .sc _) rfl rfl (fun _ => rfl) ?_
            refine pu (v := .sc _) rfl rfl (fun _ => rfl) ?_
            refine pu (v := .sc _) rfl rfl (fun _ => rfl) ?_
            refine pu (v := .sc _) rfl rfl (fun _ => rfl) ?_
            refine RunC.fin ?_
            refine AWP.sq ?_
            refine AWP.joinX (fun z93 : Bool => LS.mk [(0, slV Int 0 0 0 data.length), (1, .sc (.int .i64 a)), (2, .sc (.int .i64 m)), (3, .sc (.int .i64 b)), (4, .fn (.func 40) [.ptr 1 0 0]), (18, .sc (.int .i64 (w6 (Int.fdiv (IntKind.wrap .u64 (w6 (a + b))) (2 ^ 1))))), (20, .sc (.int .i64 z85)), (24, .sc (.int .i64 (w6 (v31 - z85)))), (185, .sc (.bool z93))] (lblks 0 [arrB (α := Int) 3 0 false data, boxB (α := Cells) false cmpc0]) 2) hR (fun o93 hR => ?_) fun z93 hR => ?_
            · refine AWP.rgC 50 rfl rfl ?_
              refine pu (v := .sc _) rfl rfl (fun _ => rfl) ?_
              refine pu (v := .sc _) rfl rfl (fun _ => rfl) ?_
              refine pu (v := .sc _) rfl rfl (fun _ => rfl) ?_
              refine pu (v := .sc _) rfl rfl (fun _ => rfl) ?_
              refine brR hR (fun h94 hR => ?_) fun h94 hR => ?_
              · refine pu (v := .sc _) (wtG rfl rfl rfl h94) rfl (fun _ => rfl) ?_
                refine pu (v := .sc _) (wtG rfl rfl rfl h94) rfl (fun _ => rfl) ?_
                refine pu (v := .sc _) (wtG rfl rfl rfl h94) rfl (fun _ => rfl) ?_
                refine pkT (v := .sc (.bool (decide (m < (w6 (v31 - z85)))))) rfl rfl h94 rfl ?_
                refine RunC.fin ?_
                have hR := Option.some.inj hR; subst hR
                exact Weak.turnL [(0, 0), (1, 0)] [] rfl rfl (tc (trS' rfl rfl rfl rfl rfl) (tc (.sc _) (tc (.sc _) (tc (.sc _) (tc (.fn (.cons (trP' rfl rfl rfl rfl) (.nil))) (tc (.sc _) (tc (.sc _) (tc (.sc _) (tc (.sc _) tn))))))))) (mc rfl (btrA' rfl) (mc rfl (.box rfl (.cons (.sc _) (.cons (.sc _) (.cons trR1 (.nil)))) rfl) mn))
              · refine sk (skW rfl rfl rfl h94) ?_
                refine sk (skW rfl rfl rfl h94) ?_
                refine sk (skW rfl rfl rfl h94) ?_
                refine pkF (v := .sc (.bool false)) rfl rfl h94 rfl ?_
                refine RunC.fin ?_
                have hR := Option.some.inj hR; subst hR
                exact Weak.turnL [(0, 0), (1, 0)] [] rfl rfl (tc (trS' rfl rfl rfl rfl rfl) (tc (.sc _) (tc (.sc _) (tc (.sc _) (tc (.fn (.cons (trP' rfl rfl rfl rfl) (.nil))) (tc (.sc _) (tc (.sc _) (tc (.sc _) (tc (.sc _) tn))))))))) (mc rfl (btrA' rfl) (mc rfl (.box rfl (.cons (.sc _) (.cons (.sc _) (.cons trR1 (.nil)))) rfl) mn))
            · refine AWP.cd hR rfl (fun h95 hR => ?_) fun h95 hR => ?_
              · refine AWP.rgC 26 rfl rfl ?_
                refine pu (v := slV Int _ _ _ _) rfl rfl (fun _ => rfl) ?_
                refine pu (v := .sc _) rfl rfl (fun _ => rfl) ?_
                refine pu (v := .sc _) rfl rfl (fun _ => rfl) ?_
                refine pu (v := .sc _) rfl rfl (fun _ => rfl) ?_
                refine pu (v := .fn _ _) rfl rfl (fun _ => rfl) ?_
                obtain ⟨r96, hr96, hR⟩ := bindE hR
                obtain ⟨h97, hR⟩ := chkE hR
                refine cps (res' := .tup []) (ups := [(0, arrB (α := Int) 3 0 false r96), (1, boxB (α := Cells) false cmpc0)]) [0, 1] 22 rfl rfl rfl cb75 (ok75_32 data z85 m (w6 (v31 - z85)) cmpc0 _ hr96) (.cons (ldM rfl rfl) (.cons (.sc _) (.cons (.sc _) (.cons (.sc _) (.cons (.fn (.cons (ldP rfl rfl) (.nil))) (.nil)))))) (pc rfl bldA (pc rfl (.box (.cons (.sc _) (.cons (.sc _) (.cons ldR' (.nil)))) rfl) pn)) rfl rfl rfl rfl rfl (by first | rfl | exact renR | exact renA | exact renS | simp only [V.ren, V.rens, renR, renA, renS] | (simp only [V.ren, V.rens, renR, renA, renS]; rfl)) (by simp only [passUps, renBox, renArr]; rfl) ?_
                refine RunC.fin ?_
                refine AWP.sq ?_
                refine AWP.joinX (fun z98 : Bool => LS.mk [(0, slV Int 0 0 0 data.length), (1, .sc (.int .i64 a)), (3, .sc (.int .i64 b)), (4, .fn (.func 40) [.ptr 1 0 0]), (18, .sc (.int .i64 (w6 (Int.fdiv (IntKind.wrap .u64 (w6 (a + b))) (2 ^ 1))))), (20, .sc (.int .i64 z85)), (24, .sc (.int .i64 (w6 (v31 - z85)))), (199, .sc (.bool z98))] (lblks 0 [arrB (α := Int) 3 0 false r96, boxB (α := Cells) false cmpc0]) 2) hR (fun o98 hR => ?_) fun z98 hR => ?_
                · refine AWP.rgC 58 rfl rfl ?_
                  refine pu (v := .sc _) rfl rfl (fun _ => rfl) ?_
                  refine pu (v := .sc _) rfl rfl (fun _ => rfl) ?_
                  refine pu (v := .sc _) rfl rfl (fun _ => rfl) ?_
                  refine pu (v := .sc _) rfl rfl (fun _ => rfl) ?_
                  refine brR hR (fun h99 hR => ?_) fun h99 hR => ?_
                  · refine pu (v := .sc _) (wtG rfl rfl rfl h99) rfl (fun _ => rfl) ?_
                    refine pu (v := .sc _) (wtG rfl rfl rfl h99) rfl (fun _ => rfl) ?_
                    obtain ⟨v100, ev100, hR⟩ := letE hR
                    refine pu (v := .sc _) (wtG rfl rfl rfl h99) rfl (fun _ => puB ev100) ?_
                    refine pkT (v := .sc (.bool v100)) rfl rfl h99 rfl ?_
                    refine RunC.fin ?_
                    have hR := Option.some.inj hR; subst hR
                    exact Weak.turnL [(0, 0), (1, 0)] [] rfl rfl (tc (trS' rfl rfl rfl rfl rfl) (tc (.sc _) (tc (.sc _) (tc (.fn (.cons (trP' rfl rfl rfl rfl) (.nil))) (tc (.sc _) (tc (.sc _) (tc (.sc _) (tc (.sc _) tn)))))))) (mc rfl (btrA' rfl) (mc rfl (.box rfl (.cons (.sc _) (.cons (.sc _) (.cons trR1 (.nil)))) rfl) mn))
                  · refine sk (skW rfl rfl rfl h99) ?_
                    refine sk (skW rfl rfl rfl h99) ?_
                    refine sk (skW rfl rfl rfl h99) ?_
                    refine pkF (v := .sc (.bool false)) rfl rfl h99 rfl ?_
                    refine RunC.fin ?_
                    have hR := Option.some.inj hR; subst hR
                    exact Weak.turnL [(0, 0), (1, 0)] [] rfl rfl (tc (trS' rfl rfl rfl rfl rfl) (tc (.sc _) (tc (.sc _) (tc (.fn (.cons (trP' rfl rfl rfl rfl) (.nil))) (tc (.sc _) (tc (.sc _) (tc (.sc _) (tc (.sc _) tn)))))))) (mc rfl (btrA' rfl) (mc rfl (.box rfl (.cons (.sc _) (.cons (.sc _) (.cons trR1 (.nil)))) rfl) mn))
                · refine AWP.cd hR rfl (fun h101 hR => ?_) fun h101 hR => ?_
                  · refine AWP.rgC 26 rfl rfl ?_
                    refine pu (v := slV Int _ _ _ _) rfl rfl (fun _ => rfl) ?_
                    refine pu (v := .sc _) rfl rfl (fun _ => rfl) ?_
                    refine pu (v := .sc _) rfl rfl (fun _ => rfl) ?_
                    refine pu (v := .sc _) rfl rfl (fun _ => rfl) ?_
                    refine pu (v := .fn _ _) rfl rfl (fun _ => rfl) ?_
                    obtain ⟨r102, hr102, hR⟩ := bindE hR
                    obtain ⟨h103, hR⟩ := chkE hR
                    refine cps (res' := .tup []) (ups := [(0, arrB (α := Int) 3 0 false r102.1), (1, boxB (α := Cells) false r102.2)]) [0, 1] 22 rfl rfl rfl cb68 (ih r96 a z85 (w6 (Int.fdiv (IntKind.wrap .u64 (w6 (a + b))) (2 ^ 1))) cmpc0 _ hr102) (.cons (ldM2 rfl rfl (by first | assumption | omega)) (.cons (.sc _) (.cons (.sc _) (.cons (.sc _) (.cons (.fn (.cons (ldP rfl rfl) (.nil))) (.nil)))))) (pc rfl bldA (pc rfl (.box (.cons (.sc _) (.cons (.sc _) (.cons ldR' (.nil)))) rfl) pn)) rfl rfl rfl rfl rfl (by first | rfl | exact renR | exact renA | exact renS | simp only [V.ren, V.rens, renR, renA, renS] | (simp only [V.ren, V.rens, renR, renA, renS]; rfl)) (by simp only [passUps, renBox, renArr]; rfl) ?_
                    refine RunC.fin ?_
                    refine AWP.joinX (fun z104 : Bool => LS.mk [(0, slV Int 0 0 0 data.length), (3, .sc (.int .i64 b)), (4, .fn (.func 40) [.ptr 1 0 0]), (18, .sc (.int .i64 (w6 (Int.fdiv (IntKind.wrap .u64 (w6 (a + b))) (2 ^ 1))))), (24, .sc (.int .i64 (w6 (v31 - z85)))), (213, .sc (.bool z104))] (lblks 0 [arrB (α := Int) 3 0 false r102.1, boxB (α := Cells) false r102.2]) 2) hR (fun o104 hR => ?_) fun z104 hR => ?_
                    · refine AWP.rgC 58 rfl rfl ?_
                      refine pu (v := .sc _) rfl rfl (fun _ => rfl) ?_
                      refine pu (v := .sc _) rfl rfl (fun _ => rfl) ?_
                      obtain ⟨v105, ev105, hR⟩ := letE hR
                      refine pu (v := .sc _) rfl rfl (fun _ => puB ev105) ?_
                      refine pu (v := .sc _) rfl rfl (fun _ => rfl) ?_
                      refine brR hR (fun h106 hR => ?_) fun h106 hR => ?_
                      · refine pu (v := .sc _) (wtG rfl rfl rfl h106) rfl (fun _ => rfl) ?_
                        refine pu (v := .sc _) (wtG rfl rfl rfl h106) rfl (fun _ => rfl) ?_
                        refine pu (v := .sc _) (wtG rfl rfl rfl h106) rfl (fun _ => rfl) ?_
                        refine pkT (v := .sc (.bool (decide ((w6 (v31 - z85)) < b)))) rfl rfl h106 rfl ?_
                        refine RunC.fin ?_
                        have hR := Option.some.inj hR; subst hR
                        exact Weak.turnL [(0, 0), (1, 0)] [] rfl rfl (tc (trS' rfl rfl rfl rfl rfl) (tc (.sc _) (tc (.fn (.cons (trP' rfl rfl rfl rfl) (.nil))) (tc (.sc _) (tc (.sc _) (tc (.sc _) tn)))))) (mc rfl (btrA' rfl) (mc rfl (.box rfl (.cons (.sc _) (.cons (.sc _) (.cons trR1 (.nil)))) rfl) mn))
                      · refine sk (skW rfl rfl rfl h106) ?_
                        refine sk (skW rfl rfl rfl h106) ?_
                        refine sk (skW rfl rfl rfl h106) ?_
                        refine pkF (v := .sc (.bool false)) rfl rfl h106 rfl ?_
                        refine RunC.fin ?_
                        have hR := Option.some.inj hR; subst hR
                        exact Weak.turnL [(0, 0), (1, 0)] [] rfl rfl (tc (trS' rfl rfl rfl rfl rfl) (tc (.sc _) (tc (.fn (.cons (trP' rfl rfl rfl rfl) (.nil))) (tc (.sc _) (tc (.sc _) (tc (.sc _) tn)))))) (mc rfl (btrA' rfl) (mc rfl (.box rfl (.cons (.sc _) (.cons (.sc _) (.cons trR1 (.nil)))) rfl) mn))
                    · refine AWP.cd hR rfl (fun h107 hR => ?_) fun h107 hR => ?_
                      · refine AWP.rgC 26 rfl rfl ?_
                        refine pu (v := slV Int _ _ _ _) rfl rfl (fun _ => rfl) ?_
                        refine pu (v := .sc _) rfl rfl (fun _ => rfl) ?_
                        refine pu (v := .sc _) rfl rfl (fun _ => rfl) ?_
                        refine pu (v := .sc _) rfl rfl (fun _ => rfl) ?_
                        refine pu (v := .fn _ _) rfl rfl (fun _ => rfl) ?_
                        obtain ⟨r108, hr108, hR⟩ := bindE hR
                        obtain ⟨h109, hR⟩ := chkE hR
                        refine cps (res' := .tup []) (ups := [(0, arrB (α := Int) 3 0 false r108.1), (1, boxB (α := Cells) false r108.2)]) [0, 1] 22 rfl rfl rfl cb68 (ih r102.1 (w6 (Int.fdiv (IntKind.wrap .u64 (w6 (a + b))) (2 ^ 1))) (w6 (v31 - z85)) b r102.2 _ hr108) (.cons (ldM2 rfl rfl (by first | assumption | omega)) (.cons (.sc _) (.cons (.sc _) (.cons (.sc _) (.cons (.fn (.cons (ldP rfl rfl) (.nil))) (.nil)))))) (pc rfl bldA (pc rfl (.box (.cons (.sc _) (.cons (.sc _) (.cons ldR' (.nil)))) rfl) pn)) rfl rfl rfl rfl rfl (by first | rfl | exact renR | exact renA | exact renS | simp only [V.ren, V.rens, renR, renA, renS] | (simp only [V.ren, V.rens, renR, renA, renS]; rfl)) (by simp only [passUps, renBox, renArr]; rfl) ?_
                        refine RunC.nil ?_
                        have hR := Option.some.inj hR; subst hR
                        exact hQ _ _ (LS.mk [] (lblks 0 [arrB (α := Int) 3 0 false r108.1, boxB (α := Cells) false r108.2]) 2) (.tup []) [] (.inl rfl) (Weak.turnL [(0, 0), (1, 0)] [] rfl rfl tn (mc rfl (btrA' rfl) (mc rfl (.box rfl (.cons (.sc _) (.cons (.sc _) (.cons trR1 (.nil)))) rfl) mn))) (ro0 ) rfl rfl (.tup .nil) (pc rfl bldA (pc rfl bldB pn))
                      · refine AWP.skip ?_
                        have hR := Option.some.inj hR; subst hR
                        exact hQ _ _ (LS.mk [] (lblks 0 [arrB (α := Int) 3 0 false r102.1, boxB (α := Cells) false r102.2]) 2) (.tup []) [] (.inl rfl) (Weak.turnL [(0, 0), (1, 0)] [] rfl rfl tn (mc rfl (btrA' rfl) (mc rfl (.box rfl (.cons (.sc _) (.cons (.sc _) (.cons trR1 (.nil)))) rfl) mn))) (ro0 ) rfl rfl (.tup .nil) (pc rfl bldA (pc rfl bldB pn))
                  · refine AWP.skip ?_
                    refine skT ?_
                    refine AWP.joinX (fun z110 : Bool => LS.mk [(0, slV Int 0 0 0 data.length), (3, .sc (.int .i64 b)), (4, .fn (.func 40) [.ptr 1 0 0]), (18, .sc (.int .i64 (w6 (Int.fdiv (IntKind.wrap .u64 (w6 (a + b))) (2 ^ 1))))), (24, .sc (.int .i64 (w6 (v31 - z85)))), (213, .sc (.bool z110))] (lblks 0 [arrB (α := Int) 3 0 false r96, boxB (α := Cells) false cmpc0]) 2) hR (fun o110 hR => ?_) fun z110 hR => ?_
                    · refine AWP.rgC 34 rfl rfl ?_
                      refine pu (v := .sc _) rfl rfl (fun _ => rfl) ?_
                      refine pu (v := .sc _) rfl rfl (fun _ => rfl) ?_
                      obtain ⟨v111, ev111, hR⟩ := letE hR
                      refine pu (v := .sc _) rfl rfl (fun _ => puB ev111) ?_
                      refine pu (v := .sc _) rfl rfl (fun _ => rfl) ?_
                      refine brR hR (fun h112 hR => ?_) fun h112 hR => ?_
                      · refine pu (v := .sc _) (wtG rfl rfl rfl h112) rfl (fun _ => rfl) ?_
                        refine pu (v := .sc _) (wtG rfl rfl rfl h112) rfl (fun _ => rfl) ?_
                        refine pu (v := .sc _) (wtG rfl rfl rfl h112) rfl (fun _ => rfl) ?_
                        refine pkT (v := .sc (.bool (decide ((w6 (v31 - z85)) < b)))) rfl rfl h112 rfl ?_
                        refine RunC.fin ?_
                        have hR := Option.some.inj hR; subst hR
                        exact Weak.turnL [(0, 0), (1, 0)] [] rfl rfl (tc (trS' rfl rfl rfl rfl rfl) (tc (.sc _) (tc (.fn (.cons (trP' rfl rfl rfl rfl) (.nil))) (tc (.sc _) (tc (.sc _) (tc (.sc _) tn)))))) (mc rfl (btrA' rfl) (mc rfl (.box rfl (.cons (.sc _) (.cons (.sc _) (.cons trR1 (.nil)))) rfl) mn))
                      · refine sk (skW rfl rfl rfl h112) ?_
                        refine sk (skW rfl rfl rfl h112) ?_
                        refine sk (skW rfl rfl rfl h112) ?_
                        refine pkF (v := .sc (.bool false)) rfl rfl h112 rfl ?_
                        refine RunC.fin ?_
                        have hR := Option.some.inj hR; subst hR
                        exact Weak.turnL [(0, 0), (1, 0)] [] rfl rfl (tc (trS' rfl rfl rfl rfl rfl) (tc (.sc _) (tc (.fn (.cons (trP' rfl rfl rfl rfl) (.nil))) (tc (.sc _) (tc (.sc _) (tc (.sc _) tn)))))) (mc rfl (btrA' rfl) (mc rfl (.box rfl (.cons (.sc _) (.cons (.sc _) (.cons trR1 (.nil)))) rfl) mn))
                    · refine AWP.cd hR rfl (fun h113 hR => ?_) fun h113 hR => ?_
                      · refine AWP.rgC 26 rfl rfl ?_
                        refine pu (v := slV Int _ _ _ _) rfl rfl (fun _ => rfl) ?_
                        refine pu (v := .sc _) rfl rfl (fun _ => rfl) ?_
                        refine pu (v := .sc _) rfl rfl (fun _ => rfl) ?_
                        refine pu (v := .sc _) rfl rfl (fun _ => rfl) ?_
                        refine pu (v := .fn _ _) rfl rfl (fun _ => rfl) ?_
                        obtain ⟨r114, hr114, hR⟩ := bindE hR
                        obtain ⟨h115, hR⟩ := chkE hR
                        refine cps (res' := .tup []) (ups := [(0, arrB (α := Int) 3 0 false r114.1), (1, boxB (α := Cells) false r114.2)]) [0, 1] 22 rfl rfl rfl cb68 (ih r96 (w6 (Int.fdiv (IntKind.wrap .u64 (w6 (a + b))) (2 ^ 1))) (w6 (v31 - z85)) b cmpc0 _ hr114) (.cons (ldM2 rfl rfl (by first | assumption | omega)) (.cons (.sc _) (.cons (.sc _) (.cons (.sc _) (.cons (.fn (.cons (ldP rfl rfl) (.nil))) (.nil)))))) (pc rfl bldA (pc rfl (.box (.cons (.sc _) (.cons (.sc _) (.cons ldR' (.nil)))) rfl) pn)) rfl rfl rfl rfl rfl (by first | rfl | exact renR | exact renA | exact renS | simp only [V.ren, V.rens, renR, renA, renS] | (simp only [V.ren, V.rens, renR, renA, renS]; rfl)) (by simp only [passUps, renBox, renArr]; rfl) ?_
                        refine RunC.nil ?_
                        have hR := Option.some.inj hR; subst hR
                        exact hQ _ _ (LS.mk [] (lblks 0 [arrB (α := Int) 3 0 false r114.1, boxB (α := Cells) false r114.2]) 2) (.tup []) [] (.inl rfl) (Weak.turnL [(0, 0), (1, 0)] [] rfl rfl tn (mc rfl (btrA' rfl) (mc rfl (.box rfl (.cons (.sc _) (.cons (.sc _) (.cons trR1 (.nil)))) rfl) mn))) (ro0 ) rfl rfl (.tup .nil) (pc rfl bldA (pc rfl bldB pn))
                      · refine AWP.skip ?_
                        have hR := Option.some.inj hR; subst hR
                        exact hQ _ _ (LS.mk [] (lblks 0 [arrB (α := Int) 3 0 false r96, boxB (α := Cells) false cmpc0]) 2) (.tup []) [] (.inl rfl) (Weak.turnL [(0, 0), (1, 0)] [] rfl rfl tn (mc rfl (btrA' rfl) (mc rfl (.box rfl (.cons (.sc _) (.cons (.sc _) (.cons trR1 (.nil)))) rfl) mn))) (ro0 ) rfl rfl (.tup .nil) (pc rfl bldA (pc rfl bldB pn))
              · refine AWP.skip ?_
                refine skT ?_
                refine AWP.sq ?_
                refine AWP.joinX (fun z116 : Bool => LS.mk [(0, slV Int 0 0 0 data.length), (1, .sc (.int .i64 a)), (3, .sc (.int .i64 b)), (4, .fn (.func 40) [.ptr 1 0 0]), (18, .sc (.int .i64 (w6 (Int.fdiv (IntKind.wrap .u64 (w6 (a + b))) (2 ^ 1))))), (20, .sc (.int .i64 z85)), (24, .sc (.int .i64 (w6 (v31 - z85)))), (199, .sc (.bool z116))] (lblks 0 [arrB (α := Int) 3 0 false data, boxB (α := Cells) false cmpc0]) 2) hR (fun o116 hR => ?_) fun z116 hR => ?_
                · refine AWP.rgC 34 rfl rfl ?_
                  refine pu (v := .sc _) rfl rfl (fun _ => rfl) ?_
                  refine pu (v := .sc _) rfl rfl (fun _ => rfl) ?_
                  refine pu (v := .sc _) rfl rfl (fun _ => rfl) ?_
                  refine pu (v := .sc _) rfl rfl (fun _ => rfl) ?_
                  refine brR hR (fun h117 hR => ?_) fun h117 hR => ?_
                  · refine pu (v := .sc _) (wtG rfl rfl rfl h117) rfl (fun _ => rfl) ?_
                    refine pu (v := .sc _) (wtG rfl rfl rfl h117) rfl (fun _ => rfl) ?_
                    obtain ⟨v118, ev118, hR⟩ := letE hR
                    refine pu (v := .sc _) (wtG rfl rfl rfl h117) rfl (fun _ => puB ev118) ?_
                    refine pkT (v := .sc (.bool v118)) rfl rfl h117 rfl ?_
                    refine RunC.fin ?_
                    have hR := Option.some.inj hR; subst hR
                    exact Weak.turnL [(0, 0), (1, 0)] [] rfl rfl (tc (trS' rfl rfl rfl rfl rfl) (tc (.sc _) (tc (.sc _) (tc (.fn (.cons (trP' rfl rfl rfl rfl) (.nil))) (tc (.sc _) (tc (.sc _) (tc (.sc _) (tc (.sc _) tn)))))))) (mc rfl (btrA' rfl) (mc rfl (.box rfl (.cons (.sc _) (.cons (.sc _) (.cons trR1 (.nil)))) rfl) mn))
                  · refine sk (skW rfl rfl rfl h117) ?_
                    refine sk (skW rfl rfl rfl h117) ?_
                    refine sk (skW rfl rfl rfl h117) ?_
                    refine pkF (v := .sc (.bool false)) rfl rfl h117 rfl ?_
                    refine RunC.fin ?_
                    have hR := Option.some.inj hR; subst hR
                    exact Weak.turnL [(0, 0), (1, 0)] [] rfl rfl (tc (trS' rfl rfl rfl rfl rfl) (tc (.sc _) (tc (.sc _) (tc (.fn (.cons (trP' rfl rfl rfl rfl) (.nil))) (tc (.sc _) (tc (.sc _) (tc (.sc _) (tc (.sc _) tn)))))))) (mc rfl (btrA' rfl) (mc rfl (.box rfl (.cons (.sc _) (.cons (.sc _) (.cons trR1 (.nil)))) rfl) mn))
                · refine AWP.cd hR rfl (fun h119 hR => ?_) fun h119 hR => ?_
                  · refine AWP.rgC 26 rfl rfl ?_
                    refine pu (v := slV Int _ _ _ _) rfl rfl (fun _ => rfl) ?_
                    refine pu (v := .sc _) rfl rfl (fun _ => rfl) ?_
                    refine pu (v := .sc _) rfl rfl (fun _ => rfl) ?_
                    refine pu (v := .sc _) rfl rfl (fun _ => rfl) ?_
                    refine pu (v := .fn _ _) rfl rfl (fun _ => rfl) ?_
                    obtain ⟨r120, hr120, hR⟩ := bindE hR
                    obtain ⟨h121, hR⟩ := chkE hR
                    refine cps (res' := .tup []) (ups := [(0, arrB (α := Int) 3 0 false r120.1), (1, boxB (α := Cells) false r120.2)]) [0, 1] 22 rfl rfl rfl cb68 (ih data a z85 (w6 (Int.fdiv (IntKind.wrap .u64 (w6 (a + b))) (2 ^ 1))) cmpc0 _ hr120) (.cons (ldM rfl rfl) (.cons (.sc _) (.cons (.sc _) (.cons (.sc _) (.cons (.fn (.cons (ldP rfl rfl) (.nil))) (.nil)))))) (pc rfl bldA (pc rfl (.box (.cons (.sc _) (.cons (.sc _) (.cons ldR' (.nil)))) rfl) pn)) rfl rfl rfl rfl rfl (by first | rfl | exact renR | exact renA | exact renS | simp only [V.ren, V.rens, renR, renA, renS] | (simp only [V.ren, V.rens, renR, renA, renS]; rfl)) (by simp only [passUps, renBox, renArr]; rfl) ?_
                    refine RunC.fin ?_
                    refine AWP.joinX (fun z122 : Bool => LS.mk [(0, slV Int 0 0 0 data.length), (3, .sc (.int .i64 b)), (4, .fn (.func 40) [.ptr 1 0 0]), (18, .sc (.int .i64 (w6 (Int.fdiv (IntKind.wrap .u64 (w6 (a + b))) (2 ^ 1))))), (24, .sc (.int .i64 (w6 (v31 - z85)))), (213, .sc (.bool z122))] (lblks 0 [arrB (α := Int) 3 0 false r120.1, boxB (α := Cells) false r120.2]) 2) hR (fun o122 hR => ?_) fun z122 hR => ?_
                    · refine AWP.rgC 58 rfl rfl ?_
                      refine pu (v := .sc _) rfl rfl (fun _ => rfl) ?_
                      refine pu (v := .sc _) rfl rfl (fun _ => rfl) ?_
                      obtain ⟨v123, ev123, hR⟩ := letE hR
                      refine pu (v := .sc _) rfl rfl (fun _ => puB ev123) ?_
                      refine pu (v := .sc _) rfl rfl (fun _ => rfl) ?_
                      refine brR hR (fun h124 hR => ?_) fun h124 hR => ?_
                      · refine pu (v := .sc _) (wtG rfl rfl rfl h124) rfl (fun _ => rfl) ?_
                        refine pu (v := .sc _) (wtG rfl rfl rfl h124) rfl (fun _ => rfl) ?_
                        refine pu (v := .sc _) (wtG rfl rfl rfl h124) rfl (fun _ => rfl) ?_
                        refine pkT (v := .sc (.bool (decide ((w6 (v31 - z85)) < b)))) rfl rfl h124 rfl ?_
                        refine RunC.fin ?_
                        have hR := Option.some.inj hR; subst hR
                        exact Weak.turnL [(0, 0), (1, 0)] [] rfl rfl (tc (trS' rfl rfl rfl rfl rfl) (tc (.sc _) (tc (.fn (.cons (trP' rfl rfl rfl rfl) (.nil))) (tc (.sc _) (tc (.sc _) (tc (.sc _) tn)))))) (mc rfl (btrA' rfl) (mc rfl (.box rfl (.cons (.sc _) (.cons (.sc _) (.cons trR1 (.nil)))) rfl) mn))
                      · refine sk (skW rfl rfl rfl h124) ?_
                        refine sk (skW rfl rfl rfl h124) ?_
                        refine sk (skW rfl rfl rfl h124) ?_
                        refine pkF (v := .sc (.bool false)) rfl rfl h124 rfl ?_
                        refine RunC.fin ?_
                        have hR := Option.some.inj hR; subst hR
                        exact Weak.turnL [(0, 0), (1, 0)] [] rfl rfl (tc (trS' rfl rfl rfl rfl rfl) (tc (.sc _) (tc (.fn (.cons (trP' rfl rfl rfl rfl) (.nil))) (tc (.sc _) (tc (.sc _) (tc (.sc _) tn)))))) (mc rfl (btrA' rfl) (mc rfl (.box rfl (.cons (.sc _) (.cons (.sc _) (.cons trR1 (.nil)))) rfl) mn))
                    · refine AWP.cd hR rfl (fun h125 hR => ?_) fun h125 hR => ?_
                      · refine AWP.rgC 26 rfl rfl ?_
                        refine pu (v := slV Int _ _ _ _) rfl rfl (fun _ => rfl) ?_
                        refine pu (v := .sc _) rfl rfl (fun _ => rfl) ?_
                        refine pu (v := .sc _) rfl rfl (fun _ => rfl) ?_
                        refine pu (v := .sc _) rfl rfl (fun _ => rfl) ?_
                        refine pu (v := .fn _ _) rfl rfl (fun _ => rfl) ?_
                        obtain ⟨r126, hr126, hR⟩ := bindE hR
                        obtain ⟨h127, hR⟩ := chkE hR
                        refine cps (res' := .tup []) (ups := [(0, arrB (α := Int) 3 0 false r126.1), (1, boxB (α := Cells) false r126.2)]) [0, 1] 22 rfl rfl rfl cb68 (ih r120.1 (w6 (Int.fdiv (IntKind.wrap .u64 (w6 (a + b))) (2 ^ 1))) (w6 (v31 - z85)) b r120.2 _ hr126) (.cons (ldM2 rfl rfl (by first | assumption | omega)) (.cons (.sc _) (.cons (.sc _) (.cons (.sc _) (.cons (.fn (.cons (ldP rfl rfl) (.nil))) (.nil)))))) (pc rfl bldA (pc rfl (.box (.cons (.sc _) (.cons (.sc _) (.cons ldR' (.nil)))) rfl) pn)) rfl rfl rfl rfl rfl (by first | rfl | exact renR | exact renA | exact renS | simp only [V.ren, V.rens, renR, renA, renS] | (simp only [V.ren, V.rens, renR, renA, renS]; rfl)) (by simp only [passUps, renBox, renArr]; rfl) ?_
                        refine RunC.nil ?_
                        have hR := Option.some.inj hR; subst hR
                        exact hQ _ _ (LS.mk [] (lblks 0 [arrB (α := Int) 3 0 false r126.1, boxB (α := Cells) false r126.2]) 2) (.tup []) [] (.inl rfl) (Weak.turnL [(0, 0), (1, 0)] [] rfl rfl tn (mc rfl (btrA' rfl) (mc rfl (.box rfl (.cons (.sc _) (.cons (.sc _) (.cons trR1 (.nil)))) rfl) mn))) (ro0 ) rfl rfl (.tup .nil) (pc rfl bldA (pc rfl bldB pn))
                      · refine AWP.skip ?_
                        have hR := Option.some.inj hR; subst hR
                        exact hQ _ _ (LS.mk [] (lblks 0 [arrB (α := Int) 3 0 false r120.1, boxB (α := Cells) false r120.2]) 2) (.tup []) [] (.inl rfl) (Weak.turnL [(0, 0), (1, 0)] [] rfl rfl tn (mc rfl (btrA' rfl) (mc rfl (.box rfl (.cons (.sc _) (.cons (.sc _) (.cons trR1 (.nil)))) rfl) mn))) (ro0 ) rfl rfl (.tup .nil) (pc rfl bldA (pc rfl bldB pn))
                  · refine AWP.skip ?_
                    refine skT ?_
                    refine AWP.joinX (fun z128 : Bool => LS.mk [(0, slV Int 0 0 0 data.length), (3, .sc (.int .i64 b)), (4, .fn (.func 40) [.ptr 1 0 0]), (18, .sc (.int .i64 (w6 (Int.fdiv (IntKind.wrap .u64 (w6 (a + b))) (2 ^ 1))))), (24, .sc (.int .i64 (w6 (v31 - z85)))), (213, .sc (.bool z128))] (lblks 0 [arrB (α := Int) 3 0 false data, boxB (α := Cells) false cmpc0]) 2) hR (fun o128 hR => ?_) fun z128 hR => ?_
                    · refine AWP.rgC 34 rfl rfl ?_
                      refine pu (v := .sc _) rfl rfl (fun _ => rfl) ?_
                      refine pu (v := .sc _) rfl rfl (fun _ => rfl) ?_
                      obtain ⟨v129, ev129, hR⟩ := letE hR
                      refine pu (v := .sc _) rfl rfl (fun _ => puB ev129) ?_
                      refine pu (v := .sc _) rfl rfl (fun _ => rfl) ?_
                      refine brR hR (fun h130 hR => ?_) fun h130 hR => ?_
                      · refine pu (v := .sc _) (wtG rfl rfl rfl h130) rfl (fun _ => rfl) ?_
                        refine pu (v := .sc _) (wtG rfl rfl rfl h130) rfl (fun _ => rfl) ?_
                        refine pu (v := .sc _) (wtG rfl rfl rfl h130) rfl (fun _ => rfl) ?_
                        refine pkT (v := .sc (.bool (decide ((w6 (v31 - z85)) < b)))) rfl rfl h130 rfl ?_
                        refine RunC.fin ?_
                        have hR := Option.some.inj hR; subst hR
                        exact Weak.turnL [(0, 0), (1, 0)] [] rfl rfl (tc (trS' rfl rfl rfl rfl rfl) (tc (.sc _) (tc (.fn (.cons (trP' rfl rfl rfl rfl) (.nil))) (tc (.sc _) (tc (.sc _) (tc (.sc _) tn)))))) (mc rfl (btrA' rfl) (mc rfl (.box rfl (.cons (.sc _) (.cons (.sc _) (.cons trR1 (.nil)))) rfl) mn))
                      · refine sk (skW rfl rfl rfl h130) ?_
                        refine sk (skW rfl rfl rfl h130) ?_
                        refine sk (skW rfl rfl rfl h130) ?_
                        refine pkF (v := .sc (.bool false)) rfl rfl h130 rfl ?_
                        refine RunC.fin ?_
                        have hR := Option.some.inj hR; subst hR
                        exact Weak.turnL [(0, 0), (1, 0)] [] rfl rfl (tc (trS' rfl rfl rfl rfl rfl) (tc (.sc _) (tc (.fn (.cons (trP' rfl rfl rfl rfl) (.nil))) (tc (.sc _) (tc (.sc _) (tc (.sc _) tn)))))) (mc rfl (btrA' rfl) (mc rfl (.box rfl (.cons (.sc _) (.cons (.sc _) (.cons trR1 (.nil)))) rfl) mn))
                    · refine AWP.cd hR rfl (fun h131 hR => ?_) fun h131 hR => ?_
                      · refine AWP.rgC 26 rfl rfl ?_
                        refine pu (v := slV Int _ _ _ _) rfl rfl (fun _ => rfl) ?_
                        refine pu (v := .sc _) rfl rfl (fun _ => rfl) ?_
                        refine pu (v := .sc _) rfl rfl (fun _ => rfl) ?_
                        refine pu (v := .sc _) rfl rfl (fun _ => rfl) ?_
                        refine pu (v := .fn _ _) rfl rfl (fun _ => rfl) ?_
                        obtain ⟨r132, hr132, hR⟩ := bindE hR
                        obtain ⟨h133, hR⟩ := chkE hR
                        refine cps (res' := .tup []) (ups := [(0, arrB (α := Int) 3 0 false r132.1), (1, boxB (α := Cells) false r132.2)]) [0, 1] 22 rfl rfl rfl cb68 (ih data (w6 (Int.fdiv (IntKind.wrap .u64 (w6 (a + b))) (2 ^ 1))) (w6 (v31 - z85)) b cmpc0 _ hr132) (.cons (ldM rfl rfl) (.cons (.sc _) (.cons (.sc _) (.cons (.sc _) (.cons (.fn (.cons (ldP rfl rfl) (.nil))) (.nil)))))) (pc rfl bldA (pc rfl (.box (.cons (.sc _) (.cons (.sc _) (.cons ldR' (.nil)))) rfl) pn)) rfl rfl rfl rfl rfl (by first | rfl | exact renR | exact renA | exact renS | simp only [V.ren, V.rens, renR, renA, renS] | (simp only [V.ren, V.rens, renR, renA, renS]; rfl)) (by simp only [passUps, renBox, renArr]; rfl) ?_
                        refine RunC.nil ?_
                        have hR := Option.some.inj hR; subst hR
                        exact hQ _ _ (LS.mk [] (lblks 0 [arrB (α := Int) 3 0 false r132.1, boxB (α := Cells) false r132.2]) 2) (.tup []) [] (.inl rfl) (Weak.turnL [(0, 0), (1, 0)] [] rfl rfl tn (mc rfl (btrA' rfl) (mc rfl (.box rfl (.cons (.sc _) (.cons (.sc _) (.cons trR1 (.nil)))) rfl) mn))) (ro0 ) rfl rfl (.tup .nil) (pc rfl bldA (pc rfl bldB pn))
                      · refine AWP.skip ?_
                        have hR := Option.some.inj hR; subst hR
                        exact hQ _ _ (LS.mk [] (lblks 0 [arrB (α := Int) 3 0 false data, boxB (α := Cells) false cmpc0]) 2) (.tup []) [] (.inl rfl) (Weak.turnL [(0, 0), (1, 0)] [] rfl rfl tn (mc rfl (btrA' rfl) (mc rfl (.box rfl (.cons (.sc _) (.cons (.sc _) (.cons trR1 (.nil)))) rfl) mn))) (ro0 ) rfl rfl (.tup .nil) (pc rfl bldA (pc rfl bldB pn))
theorem ok52_34 (data : List Int) (n : Int) (cmpc0 : Cells) (r : (List Int) × Cells) (hR : slices_stableCmpFunc_Int_find_Sure_1_2 data n cmpc0 = some r) : FnD Try.prog 52 [arrB 3 0 false data, boxB false cmpc0] [slV Int 0 0 0 data.length, .sc (.int .i64 n), .fn (.func 40) [.ptr 1 0 0]] (.tup []) [arrB 3 0 false r.1, boxB false r.2] := by
  refine FnX.walk Try.func52 rfl 63 2 (by simp [Try.ntmps52]) rfl fun W S F Q hQ => ?_
  unfold slices_stableCmpFunc_Int_find_Sure_1_2 at hR
  refine AWP.sq ?_
  refine AWP.rgC 6 rfl rfl ?_
  refine pu (v := .sc _) rfl rfl (fun _ => rfl) ?_
  refine RunC.fin ?_
  refine AWP.sq ?_
  refine AWP.rgC 18 rfl rfl ?_
  refine pu (v := .sc _) rfl rfl (fun _ => rfl) ?_
  refine pu (v := .sc _) rfl rfl (fun _ => rfl) ?_
  refine pu (v := .sc _) rfl rfl (fun _ => rfl) ?_
  refine RunC.fin ?_
  refine AWP.sq ?_
  refine AWP.loopJ (fun s1 : (List Int) × Int × Int => LS.mk [(0, slV Int 0 0 0 s1.1.length), (1, .sc (.int .i64 n)), (2, .fn (.func 40) [.ptr 1 0 0]), (6, .sc (.int .i64 20)), (7, .sc (.int .i64 s1.2.1)), (8, .sc (.int .i64 s1.2.2))] (lblks 0 [arrB (α := Int) 3 0 false s1.1, boxB (α := Cells) false cmpc0]) 2) (fun z2 : (List Int) × Int => LS.mk [(0, slV Int 0 0 0 z2.1.length), (1, .sc (.int .i64 n)), (2, .fn (.func 40) [.ptr 1 0 0]), (6, .sc (.int .i64 20)), (7, .sc (.int .i64 z2.2))] (lblks 0 [arrB (α := Int) 3 0 false z2.1, boxB (α := Cells) false cmpc0]) 2) (slices_stableCmpFunc_Int_find_Sure_1_2.l1 n cmpc0) hR (s0 := (data, 0, 20)) (Weak.turnL [(0, 0), (1, 0)] [] rfl rfl (tc (trS' rfl rfl rfl rfl rfl) (tc (.sc _) (tc (.fn (.cons (trP' rfl rfl rfl rfl) (.nil))) (tc (.sc _) (tc (.sc _) (tc (.sc _) tn)))))) (mc rfl (btrA' rfl) (mc rfl (.box rfl (.cons (.sc _) (.cons (.sc _) (.cons trR1 (.nil)))) rfl) mn))) (fun s1 o1 hR => ?_) fun z2 hR => ?_
  · unfold slices_stableCmpFunc_Int_find_Sure_1_2.l1 at hR
    refine AWP.sq ?_
    refine AWP.sq ?_
    refine AWP.rgC 14 rfl rfl ?_
    refine pu (v := .sc _) rfl rfl (fun _ => rfl) ?_
    refine pu (v := .sc _) rfl rfl (fun _ => rfl) ?_
    refine pu (v := .sc _) rfl rfl (fun _ => rfl) ?_
    refine RunC.fin ?_
    refine AWP.cd hR rfl (fun h3 hR => ?_) fun h3 hR => ?_
    · refine AWP.skip ?_
      refine skT ?_
      refine AWP.block ?_
      refine AWP.sq ?_
      refine AWP.rgC 34 rfl rfl ?_
      refine pu (v := slV Int _ _ _ _) rfl rfl (fun _ => rfl) ?_
      refine pu (v := .sc _) rfl rfl (fun _ => rfl) ?_
      refine pu (v := .sc _) rfl rfl (fun _ => rfl) ?_
      refine pu (v := .fn _ _) rfl rfl (fun _ => rfl) ?_
      obtain ⟨r4, hr4, hR⟩ := bindE hR
      obtain ⟨h5, hR⟩ := chkE hR
      refine cps (res' := .tup []) (ups := [(0, arrB (α := Int) 3 0 false r4), (1, boxB (α := Cells) false cmpc0)]) [0, 1] 30 rfl rfl rfl cb67 (ok67_30 s1.1 s1.2.1 s1.2.2 cmpc0 _ hr4) (.cons (ldM rfl rfl) (.cons (.sc _) (.cons (.sc _) (.cons (.fn (.cons (ldP rfl rfl) (.nil))) (.nil))))) (pc rfl bldA (pc rfl (.box (.cons (.sc _) (.cons (.sc _) (.cons ldR' (.nil)))) rfl) pn)) rfl rfl rfl rfl rfl (by first | rfl | exact renR | exact renA | exact renS | simp only [V.ren, V.rens, renR, renA, renS] | (simp only [V.ren, V.rens, renR, renA, renS]; rfl)) (by simp only [passUps, renBox, renArr]; rfl) ?_
      refine RunC.fin ?_
      refine AWP.sq ?_
      refine AWP.rgC 42 rfl rfl ?_
      refine pu (v := .sc _) rfl rfl (fun _ => rfl) ?_
      refine pu (v := .sc _) rfl rfl (fun _ => rfl) ?_
      refine RunC.fin ?_
      refine AWP.rgC 58 rfl rfl ?_
      refine pu (v := .sc _) rfl rfl (fun _ => rfl) ?_
      refine pu (v := .sc _) rfl rfl (fun _ => rfl) ?_
      refine pu (v := .sc _) rfl rfl (fun _ => rfl) ?_
      refine pu (v := .sc _) rfl rfl (fun _ => rfl) ?_
      refine RunC.blk ?_
      refine RunC.fin ?_
      refine ⟨(r4, s1.2.2, w6 (s1.2.2 + 20)), (Option.some.inj hR).symm, ?_⟩
      exact Weak.turnL [(0, 0), (1, 0)] [] rfl rfl (tc (trS' rfl rfl rfl rfl h5) (tc (.sc _) (tc (.fn (.cons (trP' rfl rfl rfl rfl) (.nil))) (tc (.sc _) (tc (.sc _) (tc (.sc _) tn)))))) (mc rfl (btrA' rfl) (mc rfl (.box rfl (.cons (.sc _) (.cons (.sc _) (.cons trR1 (.nil)))) rfl) mn))
    · refine AWP.exit ?_
      refine exT ?_
      refine exT ?_
      refine exH (skT ?_)
      refine ⟨(s1.1, s1.2.1), (Option.some.inj hR).symm, ?_⟩
      exact Weak.turnL [(0, 0), (1, 0)] [] rfl rfl (tc (trS' rfl rfl rfl rfl rfl) (tc (.sc _) (tc (.fn (.cons (trP' rfl rfl rfl rfl) (.nil))) (tc (.sc _) (tc (.sc _) tn))))) (mc rfl (btrA' rfl) (mc rfl (.box rfl (.cons (.sc _) (.cons (.sc _) (.cons trR1 (.nil)))) rfl) mn))
  · refine skT ?_
    refine AWP.sq ?_
    refine AWP.rgC 22 rfl rfl ?_
    refine pu (v := slV Int _ _ _ _) rfl rfl (fun _ => rfl) ?_
    refine pu (v := .sc _) rfl rfl (fun _ => rfl) ?_
    refine pu (v := .sc _) rfl rfl (fun _ => rfl) ?_
    refine pu (v := .fn _ _) rfl rfl (fun _ => rfl) ?_
    obtain ⟨r6, hr6, hR⟩ := bindE hR
    obtain ⟨h7, hR⟩ := chkE hR
    refine cps (res' := .tup []) (ups := [(0, arrB (α := Int) 3 0 false r6), (1, boxB (α := Cells) false cmpc0)]) [0, 1] 18 rfl rfl rfl cb67 (ok67_30 z2.1 z2.2 n cmpc0 _ hr6) (.cons (ldM rfl rfl) (.cons (.sc _) (.cons (.sc _) (.cons (.fn (.cons (ldP rfl rfl) (.nil))) (.nil))))) (pc rfl bldA (pc rfl (.box (.cons (.sc _) (.cons (.sc _) (.cons ldR' (.nil)))) rfl) pn)) rfl rfl rfl rfl rfl (by first | rfl | exact renR | exact renA | exact renS | simp only [V.ren, V.rens, renR, renA, renS] | (simp only [V.ren, V.rens, renR, renA, renS]; rfl)) (by simp only [passUps, renBox, renArr]; rfl) ?_
    refine RunC.fin ?_
    refine AWP.loopJ (fun s8 : (List Int) × Cells × Int => LS.mk [(0, slV Int 0 0 0 s8.1.length), (1, .sc (.int .i64 n)), (2, .fn (.func 40) [.ptr 1 0 0]), (6, .sc (.int .i64 s8.2.2))] (lblks 0 [arrB (α := Int) 3 0 false s8.1, boxB (α := Cells) false s8.2.1]) 2) (fun z9 : (List Int) × Cells => LS.mk [] (lblks 0 [arrB (α := Int) 3 0 false z9.1, boxB (α := Cells) false z9.2]) 2) (slices_stableCmpFunc_Int_find_Sure_1_2.l2 n) hR (s0 := (r6, cmpc0, 20)) (Weak.turnL [(0, 0), (1, 0)] [] rfl rfl (tc (trS' rfl rfl rfl rfl h7) (tc (.sc _) (tc (.fn (.cons (trP' rfl rfl rfl rfl) (.nil))) (tc (.sc _) tn)))) (mc rfl (btrA' rfl) (mc rfl (.box rfl (.cons (.sc _) (.cons (.sc _) (.cons trR1 (.nil)))) rfl) mn))) (fun s8 o8 hR => ?_) fun z9 hR => ?_
    · unfold slices_stableCmpFunc_Int_find_Sure_1_2.l2 at hR
      refine AWP.sq ?_
      refine AWP.sq ?_
      refine AWP.rgC 14 rfl rfl ?_
      refine pu (v := .sc _) rfl rfl (fun _ => rfl) ?_
      refine pu (v := .sc _) rfl rfl (fun _ => rfl) ?_
      refine pu (v := .sc _) rfl rfl (fun _ => rfl) ?_
      refine RunC.fin ?_
      refine AWP.cd hR rfl (fun h10 hR => ?_) fun h10 hR => ?_
      · refine AWP.skip ?_
        refine skT ?_
        refine AWP.block ?_
        refine AWP.sq ?_
        refine AWP.rgC 30 rfl rfl ?_
        refine pu (v := .sc _) rfl rfl (fun _ => rfl) ?_
        refine pu (v := .sc _) rfl rfl (fun _ => rfl) ?_
        refine pu (v := .sc _) rfl rfl (fun _ => rfl) ?_
        refine pu (v := .sc _) rfl rfl (fun _ => rfl) ?_
        refine RunC.fin ?_
        refine AWP.sq ?_
        refine AWP.loopJ (fun s11 : (List Int) × Cells × Int × Int => LS.mk [(0, slV Int 0 0 0 s11.1.length), (1, .sc (.int .i64 n)), (2, .fn (.func 40) [.ptr 1 0 0]), (6, .sc (.int .i64 s8.2.2)), (7, .sc (.int .i64 s11.2.2.1)), (8, .sc (.int .i64 s11.2.2.2))] (lblks 0 [arrB (α := Int) 3 0 false s11.1, boxB (α := Cells) false s11.2.1]) 2) (fun z12 : (List Int) × Cells × Int => LS.mk [(0, slV Int 0 0 0 z12.1.length), (1, .sc (.int .i64 n)), (2, .fn (.func 40) [.ptr 1 0 0]), (6, .sc (.int .i64 s8.2.2)), (7, .sc (.int .i64 z12.2.2))] (lblks 0 [arrB (α := Int) 3 0 false z12.1, boxB (α := Cells) false z12.2.1]) 2) (slices_stableCmpFunc_Int_find_Sure_1_2.l3 n s8) hR (s0 := (s8.1, s8.2.1, 0, w6 (2 * s8.2.2))) (Weak.turnL [(0, 0), (1, 0)] [] rfl rfl (tc (trS' rfl rfl rfl rfl rfl) (tc (.sc _) (tc (.fn (.cons (trP' rfl rfl rfl rfl) (.nil))) (tc (.sc _) (tc (.sc _) (tc (.sc _) tn)))))) (mc rfl (btrA' rfl) (mc rfl (.box rfl (.cons (.sc _) (.cons (.sc _) (.cons trR1 (.nil)))) rfl) mn))) (fun s11 o11 hR => ?_) fun z12 hR => ?_
        · unfold slices_stableCmpFunc_Int_find_Sure_1_2.l3 at hR
          refine AWP.sq ?_
          refine AWP.sq ?_
          refine AWP.rgC 14 rfl rfl ?_
          refine pu (v := .sc _) rfl rfl (fun _ => rfl) ?_
          refine pu (v := .sc _) rfl rfl (fun _ => rfl) ?_
          refine pu (v := .sc _) rfl rfl (fun _ => rfl) ?_
          refine RunC.fin ?_
          refine AWP.cd hR rfl (fun h13 hR => ?_) fun h13 hR => ?_
          · refine AWP.skip ?_
            refine skT ?_
            refine AWP.block ?_
            refine AWP.sq ?_
            refine AWP.rgC 46 rfl rfl ?_
            refine pu (v := slV Int _ _ _ _) rfl rfl (fun _ => rfl) ?_
            refine pu (v := .sc _) rfl rfl (fun _ => rfl) ?_
            refine pu (v := .sc _) rfl rfl (fun _ => rfl) ?_
            refine pu (v := .sc _) rfl rfl (fun _ => rfl) ?_
            refine pu (v := .sc _) rfl rfl (fun _ => rfl) ?_
            refine pu (v := .sc _) rfl rfl (fun _ => rfl) ?_
            refine pu (v := .fn _ _) rfl rfl (fun _ => rfl) ?_
            obtain ⟨r14, hr14, hR⟩ := bindE hR
            obtain ⟨h15, hR⟩ := chkE hR
            refine cps (res' := .tup []) (ups := [(0, arrB (α := Int) 3 0 false r14.1), (1, boxB (α := Cells) false r14.2)]) [0, 1] 42 rfl rfl rfl cb68 (ok68_33 64 s11.1 s11.2.2.1 (w6 (s11.2.2.1 + s8.2.2)) s11.2.2.2 s11.2.1 _ hr14) (.cons (ldM rfl rfl) (.cons (.sc _) (.cons (.sc _) (.cons (.sc _) (.cons (.fn (.cons (ldP rfl rfl) (.nil))) (.nil)))))) (pc rfl bldA (pc rfl (.box (.cons (.sc _) (.cons (.sc _) (.cons ldR' (.nil)))) rfl) pn)) rfl rfl rfl rfl rfl (by first | rfl | exact renR | exact renA | exact renS | simp only [V.ren, V.rens, renR, renA, renS] | (simp only [V.ren, V.rens, renR, renA, renS]; rfl)) (by simp only [passUps, renBox, renArr]; rfl) ?_
            refine RunC.fin ?_
            refine AWP.sq ?_
            refine AWP.rgC 54 rfl rfl ?_
            refine pu (v := .sc _) rfl rfl (fun _ => rfl) ?_
            refine pu (v := .sc _) rfl rfl (fun _ => rfl) ?_
            refine RunC.fin ?_
            refine AWP.rgC 74 rfl rfl ?_
            refine pu (v := .sc _) rfl rfl (fun _ => rfl) ?_
            refine pu (v := .sc _) rfl rfl (fun _ => rfl) ?_
            refine pu (v := .sc _) rfl rfl (fun _ => rfl) ?_
            refine pu (v := .sc _) rfl rfl (fun _ => rfl) ?_
            refine pu (v := .sc _) rfl rfl (fun _ => rfl) ?_
            refine RunC.blk ?_
            refine RunC.fin ?_
            refine ⟨(r14.1, r14.2, s11.2.2.2, w6 (s11.2.2.2 + (w6 (2 * s8.2.2)))), (Option.some.inj hR).symm, ?_⟩
            exact Weak.turnL [(0, 0), (1, 0)] [] rfl rfl (tc (trS' rfl rfl rfl rfl h15) (tc (.sc _) (tc (.fn (.cons (trP' rfl rfl rfl rfl) (.nil))) (tc (.sc _) (tc (.sc _) (tc (.sc _) tn)))))) (mc rfl (btrA' rfl) (mc rfl (.box rfl (.cons (.sc _) (.cons (.sc _) (.cons trR1 (.nil)))) rfl) mn))
          · refine AWP.exit ?_
            refine exT ?_
            refine exT ?_
            refine exH (skT ?_)
            refine ⟨(s11.1, s11.2.1, s11.2.2.1), (Option.some.inj hR).symm, ?_⟩
            exact Weak.turnL [(0, 0), (1, 0)] [] rfl rfl (tc (trS' rfl rfl rfl rfl rfl) (tc (.sc _) (tc (.fn (.cons (trP' rfl rfl rfl rfl) (.nil))) (tc (.sc _) (tc (.sc _) tn))))) (mc rfl (btrA' rfl) (mc rfl (.box rfl (.cons (.sc _) (.cons (.sc _) (.cons trR1 (.nil)))) rfl) mn))
        · refine skT ?_
          refine AWP.sq ?_
          refine AWP.sq ?_
          refine AWP.rgC 18 rfl rfl ?_
          refine pu (v := .sc _) rfl rfl (fun _ => rfl) ?_
          refine pu (v := .sc _) rfl rfl (fun _ => rfl) ?_
          refine pu (v := .sc _) rfl rfl (fun _ => rfl) ?_
          refine pu (v := .sc _) rfl rfl (fun _ => rfl) ?_
          refine RunC.fin ?_
          refine AWP.sq ?_
          refine AWP.rgC 30 rfl rfl ?_
          refine pu (v := .sc _) rfl rfl (fun _ => rfl) ?_
          refine pu (v := .sc _) rfl rfl (fun _ => rfl) ?_
          refine pu (v := .sc _) rfl rfl (fun _ => rfl) ?_
          refine RunC.fin ?_
          refine AWP.cd hR rfl (fun h16 hR => ?_) fun h16 hR => ?_
          · refine AWP.rgC 54 rfl rfl ?_
            refine pu (v := slV Int _ _ _ _) rfl rfl (fun _ => rfl) ?_
            refine pu (v := .sc _) rfl rfl (fun _ => rfl) ?_
            refine pu (v := .sc _) rfl rfl (fun _ => rfl) ?_
            refine pu (v := .sc _) rfl rfl (fun _ => rfl) ?_
            refine pu (v := .fn _ _) rfl rfl (fun _ => rfl) ?_
            obtain ⟨r17, hr17, hR⟩ := bindE hR
            obtain ⟨h18, hR⟩ := chkE hR
            refine cps (res' := .tup []) (ups := [(0, arrB (α := Int) 3 0 false r17.1), (1, boxB (α := Cells) false r17.2)]) [0, 1] 50 rfl rfl rfl cb68 (ok68_33 64 z12.1 z12.2.2 (w6 (z12.2.2 + s8.2.2)) n z12.2.1 _ hr17) (.cons (ldM rfl rfl) (.cons (.sc _) (.cons (.sc _) (.cons (.sc _) (.cons (.fn (.cons (ldP rfl rfl) (.nil))) (.nil)))))) (pc rfl bldA (pc rfl (.box (.cons (.sc _) (.cons (.sc _) (.cons ldR' (.nil)))) rfl) pn)) rfl rfl rfl rfl rfl (by first | rfl | exact renR | exact renA | exact renS | simp only [V.ren, V.rens, renR, renA, renS] | (simp only [V.ren, V.rens, renR, renA, renS]; rfl)) (by simp only [passUps, renBox, renArr]; rfl) ?_
            refine RunC.fin ?_
            refine AWP.rgC 66 rfl rfl ?_
            refine pu (v := .sc _) rfl rfl (fun _ => rfl) ?_
            refine pu (v := .sc _) rfl rfl (fun _ => rfl) ?_
            refine pu (v := .sc _) rfl rfl (fun _ => rfl) ?_
            refine RunC.blk ?_
            refine RunC.fin ?_
            refine ⟨(r17.1, r17.2, w6 (s8.2.2 * 2)), (Option.some.inj hR).symm, ?_⟩
            exact Weak.turnL [(0, 0), (1, 0)] [] rfl rfl (tc (trS' rfl rfl rfl rfl h18) (tc (.sc _) (tc (.fn (.cons (trP' rfl rfl rfl rfl) (.nil))) (tc (.sc _) tn)))) (mc rfl (btrA' rfl) (mc rfl (.box rfl (.cons (.sc _) (.cons (.sc _) (.cons trR1 (.nil)))) rfl) mn))
          · refine AWP.skip ?_
            refine skT ?_
            refine AWP.rgC 42 rfl rfl ?_
            refine pu (v := .sc _) rfl rfl (fun _ => rfl) ?_
            refine pu (v := .sc _) rfl rfl (fun _ => rfl) ?_
            refine pu (v := .sc _) rfl rfl (fun _ => rfl) ?_
            refine RunC.blk ?_
            refine RunC.fin ?_
            refine ⟨(z12.1, z12.2.1, w6 (s8.2.2 * 2)), (Option.some.inj hR).symm, ?_⟩
            exact Weak.turnL [(0, 0), (1, 0)] [] rfl rfl (tc (trS' rfl rfl rfl rfl rfl) (tc (.sc _) (tc (.fn (.cons (trP' rfl rfl rfl rfl) (.nil))) (tc (.sc _) tn)))) (mc rfl (btrA' rfl) (mc rfl (.box rfl (.cons (.sc _) (.cons (.sc _) (.cons trR1 (.nil)))) rfl) mn))
      · refine AWP.exit ?_
        refine exT ?_
        refine exT ?_
        refine exH (skT ?_)
        refine ⟨(s8.1, s8.2.1), (Option.some.inj hR).symm, ?_⟩
        exact Weak.turnL [(0, 0), (1, 0)] [] rfl rfl tn (mc rfl (btrA' rfl) (mc rfl (.box rfl (.cons (.sc _) (.cons (.sc _) (.cons trR1 (.nil)))) rfl) mn))
    · have hR := Option.some.inj hR; subst hR
      exact hQ _ _ (LS.mk [] (lblks 0 [arrB (α := Int) 3 0 false z9.1, boxB (α := Cells) false z9.2]) 2) (.tup []) [] (.inl rfl) (Weak.turnL [(0, 0), (1, 0)] [] rfl rfl tn (mc rfl (btrA' rfl) (mc rfl (.box rfl (.cons (.sc _) (.cons (.sc _) (.cons trR1 (.nil)))) rfl) mn))) (ro0 ) rfl rfl (.tup .nil) (pc rfl bldA (pc rfl bldB pn))
theorem ok39_35 (x : List Int) (cmpc0 : Cells) (r : (List Int) × Cells) (hR : slices_SortStableFunc_Int_find_Sure_1_2 x cmpc0 = some r) : FnD Try.prog 39 [arrB 3 0 false x, boxB false cmpc0] [slV Int 0 0 0 x.length, .fn (.func 40) [.ptr 1 0 0]] (.tup []) [arrB 3 0 false r.1, boxB false r.2] := by
  refine FnX.walk Try.func39 rfl 9 2 (by simp [Try.ntmps39]) rfl fun W S F Q hQ => ?_
  unfold slices_SortStableFunc_Int_find_Sure_1_2 at hR
  refine AWP.rgC 22 rfl rfl ?_
  refine pu (v := slV Int _ _ _ _) rfl rfl (fun _ => rfl) ?_
  refine pu (v := slV Int _ _ _ _) rfl rfl (fun _ => rfl) ?_
  refine lenS (α := Int) rfl rfl ti22 rfl ?_
  refine pu (v := .fn _ _) rfl rfl (fun _ => rfl) ?_
  obtain ⟨r1, hr1, hR⟩ := bindE hR
  obtain ⟨h2, hR⟩ := chkE hR
  refine cps (res' := .tup []) (ups := [(0, arrB (α := Int) 3 0 false r1.1), (1, boxB (α := Cells) false r1.2)]) [0, 1] 18 rfl rfl rfl cb52 (ok52_34 x (x.length : Int) cmpc0 _ hr1) (.cons (ldM rfl rfl) (.cons (.sc _) (.cons (.fn (.cons (ldP rfl rfl) (.nil))) (.nil)))) (pc rfl bldA (pc rfl (.box (.cons (.sc _) (.cons (.sc _) (.cons ldR' (.nil)))) rfl) pn)) rfl rfl rfl rfl rfl (by first | rfl | exact renR | exact renA | exact renS | simp only [V.ren, V.rens, renR, renA, renS] | (simp only [V.ren, V.rens, renR, renA, renS]; rfl)) (by simp only [passUps, renBox, renArr]; rfl) ?_
  refine RunC.nil ?_
  have hR := Option.some.inj hR; subst hR
  exact hQ _ _ (LS.mk [] (lblks 0 [arrB (α := Int) 3 0 false r1.1, boxB (α := Cells) false r1.2]) 2) (.tup []) [] (.inl rfl) (Weak.turnL [(0, 0), (1, 0)] [] rfl rfl tn (mc rfl (btrA' rfl) (mc rfl (.box rfl (.cons (.sc _) (.cons (.sc _) (.cons trR1 (.nil)))) rfl) mn))) (ro0 ) rfl rfl (.tup .nil) (pc rfl bldA (pc rfl bldB pn))
theorem ok25 (c : Cells) (level : Bound) (r : (List Int) × Int) (hR : find_Sure c level = some r) : FnD Try.prog 25 [] [aggV false c, aggV false level] (.tup [slV Int 0 0 0 r.1.length, .sc (.int .i64 r.2)]) [arrB (α := Int) 3 0 false r.1] := by
  refine FnX.walk Try.func25 rfl 46 0 (by simp [Try.ntmps25]) rfl fun W S F Q hQ => ?_
  unfold find_Sure at hR
  refine AWP.sq ?_
  refine AWP.rgC 16 rfl rfl ?_
  refine bx (cs := _) 0 rfl rfl rfl ?_
  refine bx (cs := _) 4 rfl rfl rfl ?_
  refine pu (v := .sc _) rfl rfl (fun _ => rfl) ?_
  refine pu (v := .sc _) rfl rfl (fun _ => rfl) ?_
  refine RunC.fin ?_
  refine AWP.sq ?_
  refine AWP.sq ?_
  refine AWP.rgD 44 [0, 1, 0, 7, 15, 31, 63] ⟨[], [some [0], none, some [4], none, none, none, none]⟩ hmix (by kernel_rfl) rfl rfl ?_
  refine ldB (v := .agg _) rfl rfl rfl rfl ti34 rfl rfl ?_
  obtain ⟨r1, hr1, hR⟩ := bindE hR
  refine cls [] rfl rfl cb22 (ok22 c _ hr1) (.cons (.agg (.cons (.sc _) (.cons (.sc _) (.cons ldR' (.nil)))) rfl) (.nil)) (.inr rfl) rfl ?_
  refine ldB (v := .agg _) rfl rfl rfl rfl ti52 rfl rfl ?_
  obtain ⟨r2, hr2, hR⟩ := bindE hR
  refine cls [] rfl rfl cb38 (ok38 level _ hr2) (.cons (.agg (.cons (.sc _) (.cons (.sc _) (.cons (.sc _) (.nil)))) rfl) (.nil)) (.inr rfl) rfl ?_
  refine bs (α := Int) 32 true ([r1, r2] : List Int) rfl rfl ti96 rfl ti40 rfl rfl rfl rfl rfl ?_
  obtain ⟨r3, hr3, hR⟩ := bindE hR
  refine cls [32] rfl rfl cb37 (ok37 ([r1, r2] : List Int) _ hr3) (.cons (ldS' rfl rfl rfl rfl) (.nil)) (.inl (by first | rfl | exact freshR | exact freshA | (simp only [V.fresh, V.freshs, freshR, freshA, Bool.and_self]))) rfl ?_
  refine pu (v := .sc _) rfl rfl (fun _ => rfl) ?_
  refine RunC.fin ?_
  refine AWP.sq ?_
  refine AWP.rgC 52 rfl rfl ?_
  refine pu (v := .sc _) rfl rfl (fun _ => rfl) ?_
  refine pu (v := .sc _) rfl rfl (fun _ => rfl) ?_
  refine RunC.fin ?_
  refine AWP.cd hR rfl (fun h4 hR => ?_) fun h4 hR => ?_
  · refine AWP.sq ?_
    refine AWP.rgC 64 rfl rfl ?_
    refine pu (v := .sc _) rfl rfl (fun _ => rfl) ?_
    refine pu (v := .sc _) rfl rfl (fun _ => rfl) ?_
    refine pu (v := .sc _) rfl rfl (fun _ => rfl) ?_
    refine RunC.fin ?_
    refine AWP.nilT Int 4 3 rfl ?_
    refine AWP.ret ?_
    refine rtT ?_
    have hR := Option.some.inj hR; subst hR
    exact hQ _ _ (LS.mk [(4, slV Int 0 0 0 [].length), (5, .sc (.int .i64 r3))] (lblks 0 [arrB (α := Int) 3 0 true []]) 1) (.tup [slV Int 0 0 0 [].length, .sc (.int .i64 r3)]) [0] (.inr rfl) (Weak.turnL [(64, 0)] [] rfl rfl (tc (trS' rfl rfl rfl rfl rfl) (tc (.sc _) tn)) (mc rfl (btrA' rfl) mn)) (ro2 (rvT (v := slV Int 0 0 0 [].length) rfl) (rvT (v := .sc (.int .i64 r3)) rfl)) rfl rfl (.tup (.cons (ldM rfl rfl) (.cons (.sc _) .nil))) (pc rfl bldA pn)
  · refine AWP.skip ?_
    refine skT ?_
    refine AWP.sq ?_
    refine AWP.rgC 56 rfl rfl ?_
    refine pu (v := .sc _) rfl rfl (fun _ => rfl) ?_
    refine RunC.fin ?_
    refine AWP.sq ?_
    refine AWP.sq ?_
    refine AWP.rgC 72 rfl rfl ?_
    refine fa rfl rfl ti34 rfl rfl ti32 rfl ?_
    refine ldB (v := rowV _ c.At) rfl rfl rfl rfl ti32 rfl rfl ?_
    refine lenL (α := Bound) rfl rfl ti32 rfl ?_
    refine pu (v := .sc _) rfl rfl (fun _ => rfl) ?_
    refine RunC.fin ?_
    refine AWP.nilT Int 7 3 rfl ?_
    refine AWP.loopJ (fun s5 : (List Int) × Int => LS.mk [(2, .ptr 0 0 0), (3, .ptr 1 0 0), (7, slV Int 2 0 0 s5.1.length), (20, rowV (α := Bound) false c.At), (21, .sc (.int .i64 (c.At.length : Int))), (22, .sc (.int .i64 s5.2))] (lblks 0 [boxB (α := Cells) false c, boxB (α := Bound) true level, arrB (α := Int) 3 0 true s5.1]) 3) (fun z6 : (List Int) => LS.mk [(2, .ptr 0 0 0), (7, slV Int 1 0 0 z6.length)] (lblks 0 [boxB (α := Cells) false c, arrB (α := Int) 3 0 true z6]) 2) (find_Sure.l1 c level) hR (s0 := (([] : List Int), 0)) (Weak.turnL [(0, 0), (4, 0), (72, 0)] [] rfl rfl (tc (trP' rfl rfl rfl rfl) (tc (trP' rfl rfl rfl rfl) (tc (trS' rfl rfl rfl rfl rfl) (tc trR1 (tc (.sc _) (tc (.sc _) tn)))))) (mc rfl (.box rfl (.cons (.sc _) (.cons (.sc _) (.cons trR1 (.nil)))) rfl) (mc rfl (.box rfl (.cons (.sc _) (.cons (.sc _) (.cons (.sc _) (.nil)))) rfl) (mc rfl (btrA' rfl) mn)))) (fun s5 o5 hR => ?_) fun z6 hR => ?_
    · unfold find_Sure.l1 at hR
      refine AWP.sq ?_
      refine AWP.rgC 7 rfl rfl ?_
      refine pu (v := .sc _) rfl rfl (fun _ => rfl) ?_
      refine RunC.fin ?_
      refine AWP.sq ?_
      refine AWP.cd hR rfl (fun h7 hR => ?_) fun h7 hR => ?_
      · refine AWP.skip ?_
        refine skT ?_
        refine AWP.joinX (fun z8 : (List Int) => LS.mk [(2, .ptr 0 0 0), (3, .ptr 1 0 0), (7, slV Int 2 0 0 z8.length), (20, rowV (α := Bound) false c.At), (21, .sc (.int .i64 (c.At.length : Int))), (22, .sc (.int .i64 s5.2))] (lblks 0 [boxB (α := Cells) false c, boxB (α := Bound) true level, arrB (α := Int) 3 0 true z8]) 3) hR (fun o8 hR => ?_) fun z8 hR => ?_
        · refine AWP.block ?_
          refine AWP.sq ?_
          refine AWP.rgC 31 rfl rfl ?_
          refine pu (v := .sc _) rfl rfl (fun _ => rfl) ?_
          obtain ⟨h9, hR⟩ := chkE hR
          refine ixL (α := Bound) rfl rfl rfl ti32 rfl ti52 rfl h9 ?_
          refine ldR (v := .agg _) rfl rfl ti52 rfl ?_
          refine al (cs := [.sc (.int .i64 0), .sc (.int .i64 0), .sc (.bool false)]) 19 rfl rfl ti52 rfl rfl ?_
          refine pu (v := .sc _) rfl rfl (fun _ => rfl) ?_
          refine stB (cs' := [.sc (.int .i64 (gt c.At s5.2).Lo), .sc (.int .i64 (gt c.At s5.2).Hi), .sc (.bool (gt c.At s5.2).Unknown)]) rfl rfl rfl rfl ti52 rfl rfl rfl rfl rfl ?_
          refine RunC.fin ?_
          refine AWP.joinX (fun z10 : Bool => LS.mk [(2, .ptr 0 0 0), (3, .ptr 1 0 0), (7, slV Int 2 0 0 s5.1.length), (8, .sc (.int .i64 s5.2)), (20, rowV (α := Bound) false c.At), (21, .sc (.int .i64 (c.At.length : Int))), (22, .sc (.int .i64 s5.2)), (36, .sc (.bool z10))] (lblks 0 [boxB (α := Cells) false c, boxB (α := Bound) true level, arrB (α := Int) 3 0 true s5.1]) 3) hR (fun o10 hR => ?_) fun z10 hR => ?_
          · refine AWP.rgC 71 rfl rfl ?_
            refine fa rfl rfl ti52 rfl rfl ti4 rfl ?_
            refine ldB (v := .sc _) rfl rfl rfl rfl ti4 rfl rfl ?_
            refine pu (v := .sc _) rfl rfl (fun _ => rfl) ?_
            refine pu (v := .sc _) rfl rfl (fun _ => rfl) ?_
            refine brR hR (fun h11 hR => ?_) fun h11 hR => ?_
            · refine fa (wtG rfl rfl rfl h11) rfl ti52 rfl rfl ti28 rfl ?_
              refine ldB (v := .sc _) (wtG rfl rfl rfl h11) rfl rfl rfl ti28 rfl rfl ?_
              refine fa (wtG rfl rfl rfl h11) rfl ti52 rfl rfl ti28 rfl ?_
              refine ldB (v := .sc _) (wtG rfl rfl rfl h11) rfl rfl rfl ti28 rfl rfl ?_
              refine pu (v := .sc _) (wtG rfl rfl rfl h11) rfl (fun _ => rfl) ?_
              refine pkT (v := .sc (.bool (decide ((gt c.At s5.2).Lo > level.Hi)))) rfl rfl h11 rfl ?_
              refine RunC.fin ?_
              have hR := Option.some.inj hR; subst hR
              exact Weak.turnL [(0, 0), (1, 0), (2, 0)] [] rfl rfl (tc (trP' rfl rfl rfl rfl) (tc (trP' rfl rfl rfl rfl) (tc (trS' rfl rfl rfl rfl rfl) (tc (.sc _) (tc trR1 (tc (.sc _) (tc (.sc _) (tc (.sc _) tn)))))))) (mc rfl (.box rfl (.cons (.sc _) (.cons (.sc _) (.cons trR1 (.nil)))) rfl) (mc rfl (.box rfl (.cons (.sc _) (.cons (.sc _) (.cons (.sc _) (.nil)))) rfl) (mc rfl (btrA' rfl) mn)))
            · refine sk (skW rfl rfl rfl h11) ?_
              refine sk (skW rfl rfl rfl h11) ?_
              refine sk (skW rfl rfl rfl h11) ?_
              refine sk (skW rfl rfl rfl h11) ?_
              refine sk (skW rfl rfl rfl h11) ?_
              refine pkF (v := .sc (.bool false)) rfl rfl h11 rfl ?_
              refine RunC.fin ?_
              have hR := Option.some.inj hR; subst hR
              exact Weak.turnL [(0, 0), (1, 0), (2, 0)] [] rfl rfl (tc (trP' rfl rfl rfl rfl) (tc (trP' rfl rfl rfl rfl) (tc (trS' rfl rfl rfl rfl rfl) (tc (.sc _) (tc trR1 (tc (.sc _) (tc (.sc _) (tc (.sc _) tn)))))))) (mc rfl (.box rfl (.cons (.sc _) (.cons (.sc _) (.cons trR1 (.nil)))) rfl) (mc rfl (.box rfl (.cons (.sc _) (.cons (.sc _) (.cons (.sc _) (.nil)))) rfl) (mc rfl (btrA' rfl) mn)))
          · refine AWP.cd hR rfl (fun h12 hR => ?_) fun h12 hR => ?_
            · refine AWP.rgC 23 rfl rfl ?_
              refine pu (v := slV Int _ _ _ _) rfl rfl (fun _ => rfl) ?_
              refine pu (v := .sc _) rfl rfl (fun _ => rfl) ?_
              refine bs (α := Int) 11 true ([s5.2] : List Int) rfl rfl ti22 rfl ti3 rfl rfl rfl rfl rfl ?_
              obtain ⟨h13, hR⟩ := chkE hR
              refine ap' (α := Int) (nw := true) (xs := s5.1) (ys := ([s5.2] : List Int)) rfl rfl rfl rfl (srcS' rfl rfl rfl) ti22 rfl ti3 rfl h13 rfl ?_
              refine pu (v := slV Int _ _ _ _) rfl rfl (fun _ => rfl) ?_
              refine RunC.blk ?_
              refine RunC.fin ?_
              have hR := Option.some.inj hR; subst hR
              exact Weak.turnL [(0, 0), (1, 0), (2, 0)] [] rfl rfl (tc (trP' rfl rfl rfl rfl) (tc (trP' rfl rfl rfl rfl) (tc (trS' rfl rfl rfl rfl rfl) (tc trR1 (tc (.sc _) (tc (.sc _) tn)))))) (mc rfl (.box rfl (.cons (.sc _) (.cons (.sc _) (.cons trR1 (.nil)))) rfl) (mc rfl (.box rfl (.cons (.sc _) (.cons (.sc _) (.cons (.sc _) (.nil)))) rfl) (mc rfl (btrA' rfl) mn)))
            · refine AWP.skip ?_
              refine skB ?_
              refine skT ?_
              have hR := Option.some.inj hR; subst hR
              exact Weak.turnL [(0, 0), (1, 0), (2, 0)] [] rfl rfl (tc (trP' rfl rfl rfl rfl) (tc (trP' rfl rfl rfl rfl) (tc (trS' rfl rfl rfl rfl rfl) (tc trR1 (tc (.sc _) (tc (.sc _) tn)))))) (mc rfl (.box rfl (.cons (.sc _) (.cons (.sc _) (.cons trR1 (.nil)))) rfl) (mc rfl (.box rfl (.cons (.sc _) (.cons (.sc _) (.cons (.sc _) (.nil)))) rfl) (mc rfl (btrA' rfl) mn)))
        · refine AWP.rgC 11 rfl rfl ?_
          refine pu (v := .sc _) rfl rfl (fun _ => rfl) ?_
          refine pu (v := .sc _) rfl rfl (fun _ => rfl) ?_
          refine RunC.fin ?_
          refine ⟨(z8, w6 (s5.2 + 1)), (Option.some.inj hR).symm, ?_⟩
          exact Weak.turnL [(0, 0), (1, 0), (2, 0)] [] rfl rfl (tc (trP' rfl rfl rfl rfl) (tc (trP' rfl rfl rfl rfl) (tc (trS' rfl rfl rfl rfl rfl) (tc trR1 (tc (.sc _) (tc (.sc _) tn)))))) (mc rfl (.box rfl (.cons (.sc _) (.cons (.sc _) (.cons trR1 (.nil)))) rfl) (mc rfl (.box rfl (.cons (.sc _) (.cons (.sc _) (.cons (.sc _) (.nil)))) rfl) (mc rfl (btrA' rfl) mn)))
      · refine AWP.exit ?_
        refine exT ?_
        refine exT ?_
        refine exH (skT ?_)
        refine ⟨s5.1, (Option.some.inj hR).symm, ?_⟩
        exact Weak.turnL [(0, 0), (2, 0)] [] rfl rfl (tc (trP' rfl rfl rfl rfl) (tc (trS' rfl rfl rfl rfl rfl) tn)) (mc rfl (.box rfl (.cons (.sc _) (.cons (.sc _) (.cons trR1 (.nil)))) rfl) (mc rfl (btrA' rfl) mn))
    · refine skT ?_
      refine AWP.sq ?_
      refine AWP.rgC 14 rfl rfl ?_
      refine pu (v := slV Int _ _ _ _) rfl rfl (fun _ => rfl) ?_
      refine pu (v := .fn _ _) rfl rfl (fun _ => rfl) ?_
      obtain ⟨r14, hr14, hR⟩ := bindE hR
      obtain ⟨h15, hR⟩ := chkE hR
      refine cps (res' := .tup []) (ups := [(1, arrB (α := Int) 3 0 false r14.1), (0, boxB (α := Cells) false r14.2)]) [1, 0] 10 rfl rfl rfl cb39 (ok39_35 z6 c _ hr14) (.cons (ldM rfl rfl) (.cons (.fn (.cons (ldP rfl rfl) (.nil))) (.nil))) (pc rfl bldA (pc rfl (.box (.cons (.sc _) (.cons (.sc _) (.cons ldR' (.nil)))) rfl) pn)) rfl rfl rfl rfl rfl (by first | rfl | exact renR | exact renA | exact renS | simp only [V.ren, V.rens, renR, renA, renS] | (simp only [V.ren, V.rens, renR, renA, renS]; rfl)) (by simp only [passUps, renBox, renArr]; rfl) ?_
      refine RunC.fin ?_
      refine AWP.sq ?_
      refine AWP.rgC 26 rfl rfl ?_
      refine pu (v := slV Int _ _ _ _) rfl rfl (fun _ => rfl) ?_
      refine pu (v := slV Int _ _ _ _) rfl rfl (fun _ => rfl) ?_
      refine pu (v := .sc _) rfl rfl (fun _ => rfl) ?_
      refine RunC.fin ?_
      refine AWP.ret ?_
      have hR := Option.some.inj hR; subst hR
      exact hQ _ _ (LS.mk [(4, slV Int 0 0 0 r14.1.length), (5, .sc (.int .i64 0))] (lblks 0 [arrB (α := Int) 3 0 false r14.1]) 1) (.tup [slV Int 0 0 0 r14.1.length, .sc (.int .i64 0)]) [0] (.inr rfl) (Weak.turnL [(1, 0)] [] rfl rfl (tc (trS' rfl rfl rfl rfl h15) (tc (.sc _) tn)) (mc rfl (btrA' rfl) mn)) (ro2 (rvT (v := slV Int 0 0 0 r14.1.length) rfl) (rvT (v := .sc (.int .i64 0)) rfl)) rfl rfl (.tup (.cons (ldM rfl rfl) (.cons (.sc _) .nil))) (pc rfl bldA pn)
section
open Go.RowKit Go.Shelf
theorem ok17 (c : Cells) (level : Bound) (r : (List Source_) × Int) (hR : find_Find c level = some r) : FnP Try.prog 17 [aggV false c, aggV false level] (.tup [rowV true r.1, .sc (.int .i64 r.2)]) := by
  unfold find_Find at hR
  obtain ⟨s, hS, hR⟩ := Option.bind_eq_some_iff.1 hR
  split at hR
  · rename_i hc
    obtain ⟨w1, w2, h1, h2, h3, hb, hl⟩ := hc
    obtain ⟨R, hF, hR⟩ := Option.bind_eq_some_iff.1 hR
    cases hR
    refine fnP_inF fun E W cargs hn hf ha => ?_
    unfold aggV at ha
    simp only [RLs, RL] at ha
    obtain ⟨_, _, rfl, ⟨ds, rfl, h4, _⟩, _, _, rfl, ⟨ds2, rfl, h5, _⟩, rfl⟩ := ha
    have h4 : RLs E [.sc (.int .i64 c.W), .sc (.int .i64 c.H), rowV false c.At] ds := h4
    have h5 : RLs E [.sc (.int .i64 level.Lo), .sc (.int .i64 level.Hi), .sc (.bool level.Unknown)] ds2 := h5
    unfold rowV at h4
    simp only [RLs, RL] at h4 h5
    obtain ⟨_, _, rfl, rfl, _, _, rfl, rfl, _, _, rfl, ⟨A, cap, rfl, q1, _, _, q2⟩, rfl⟩ := h4
    obtain ⟨_, _, rfl, rfl, _, _, rfl, rfl, _, _, rfl, rfl, rfl⟩ := h5
    obtain ⟨cw, hw⟩ : ∃ n : Nat, c.W = n := ⟨c.W.toNat, by omega⟩
    obtain ⟨ch, hh⟩ : ∃ n : Nat, c.H = n := ⟨c.H.toNat, by omega⟩
    have hA := rowB_of hf q2
    have SU : ∀ W', Below W.heap.size W W' → Calls Try.prog 25 #[.agg #[.int .i64 c.W, .int .i64 c.H, .slice A c.At.length cap], .agg #[.int .i64 level.Lo, .int .i64 level.Hi, .bool level.Unknown]] W' fun e w' => ∃ v, e = .returned (.tuple #[v, .int .i64 s.2]) ∧ w'.ownsRow W'.heap.size 3 1 v s.1.length (s.1.map (Value.int .i64)) ∧ Below W'.heap.size W' w' := fun W' hB => by
      refine fnD_own_ints (ok25 c level s hS) (cargs := [.agg #[.int .i64 c.W, .int .i64 c.H, .slice A c.At.length cap], .agg #[.int .i64 level.Lo, .int .i64 level.Hi, .bool level.Unknown]]) (rls_cons ?_ (rls_cons ?_ rls_nil))
      · unfold aggV
        simp only [RL]
        exact ⟨[.int .i64 c.W, .int .i64 c.H, .slice A c.At.length cap], rfl, rls_cons rl_sc (rls_cons rl_sc (rls_cons (rowB_rl (rowB_below hA hB) q1) rls_nil)), Cl.leaf false c⟩
      · unfold aggV
        simp only [RL]
        exact ⟨[.int .i64 level.Lo, .int .i64 level.Hi, .bool level.Unknown], rfl, rls_cons rl_sc (rls_cons rl_sc (rls_cons rl_sc rls_nil)), Cl.leaf false level⟩
    rw [hw, hh] at hF h3 SU
    simp only [Int.toNat_natCast] at hF
    have h3 : c.At.length = cw * ch := by have : ((cw * ch : Nat) : Int) = (cw : Int) * ch := by push_cast; rfl
                                          omega
    have FR := find_raw cw ch (by omega) (by omega) c.At h3 level s.2 s.1 hb hl R hF W A cap hA q1 SU
    rw [← hw, ← hh] at FR
    refine FR.mono ?_
    rintro e w' ⟨v, rfl, hv, hB⟩
    refine ⟨_, rfl, ?_, hB⟩
    simp only [RL]
    exact ⟨[_, _], rfl, rls_cons (srcV_rl hv hn) (rls_cons rl_sc rls_nil)⟩
  · cases hR
end

theorem ok18 (a : Bound) (b : Bound) (r : Bool) (hR : bound_Inside a b = some r) : FnP Try.prog 18 [aggV false a, aggV false b] (.sc (.bool r)) := by
  refine fnP_of (FnX.walk Try.func18 rfl 28 0 (by simp [Try.ntmps18]) rfl fun W S F Q hQ => ?_)
  unfold bound_Inside at hR
  refine AWP.sq ?_
  refine AWP.rgC 12 rfl rfl ?_
  refine bx (cs := _) 0 rfl rfl rfl ?_
  refine bx (cs := _) 4 rfl rfl rfl ?_
  refine pu (v := .sc _) rfl rfl (fun _ => rfl) ?_
  refine RunC.fin ?_
  refine AWP.joinX (fun z1 : Bool => LS.mk [(4, .sc (.bool z1))] (lblks 0 []) 0) hR (fun o1 hR => ?_) fun z1 hR => ?_
  · refine AWP.rgC 108 rfl rfl ?_
    refine ldB (v := .agg _) rfl rfl rfl rfl ti52 rfl rfl ?_
    refine ldB (v := .agg _) rfl rfl rfl rfl ti52 rfl rfl ?_
    obtain ⟨r2, hr2, hR⟩ := bindE hR
    refine cls [] rfl rfl cb32 (ok32 b b _ hr2) (.cons (.agg (.cons (.sc _) (.cons (.sc _) (.cons (.sc _) (.nil)))) rfl) (.cons (.agg (.cons (.sc _) (.cons (.sc _) (.cons (.sc _) (.nil)))) rfl) (.nil))) (.inr rfl) rfl ?_
    refine pu (v := .sc _) rfl rfl (fun _ => rfl) ?_
    refine brR hR (fun h3 hR => ?_) fun h3 hR => ?_
    · refine sk (skW rfl rfl rfl h3) ?_
      refine sk (skW rfl rfl rfl h3) ?_
      refine sk (skW rfl rfl rfl h3) ?_
      refine sk (skW rfl rfl rfl h3) ?_
      refine sk (skW rfl rfl rfl h3) ?_
      refine sk (skW2 rfl rfl rfl) ?_
      refine sk (skW2 rfl rfl rfl) ?_
      refine sk (skW2 rfl rfl rfl) ?_
      refine sk (skW2 rfl rfl rfl) ?_
      refine sk (skW2 rfl rfl rfl) ?_
      refine sk (skW rfl rfl rfl h3) ?_
      refine sk (skW rfl rfl rfl h3) ?_
      refine sk (skW2 rfl rfl rfl) ?_
      refine sk (skW2 rfl rfl rfl) ?_
      refine sk (skW2 rfl rfl rfl) ?_
      refine sk (skW2 rfl rfl rfl) ?_
      refine sk (skW2 rfl rfl rfl) ?_
      refine sk (skW rfl rfl rfl h3) ?_
      refine pkT (v := .sc (.bool true)) rfl rfl h3 rfl ?_
      refine pu (v := .sc _) rfl rfl (fun _ => rfl) ?_
      refine RunC.fin ?_
      have hR := Option.some.inj hR; subst hR
      exact Weak.turnL [] [] rfl rfl (tc (.sc _) tn) mn
    · refine ldB (v := .agg _) (wtG rfl rfl rfl h3) rfl rfl rfl ti52 rfl rfl ?_
      refine ldB (v := .agg _) (wtG rfl rfl rfl h3) rfl rfl rfl ti52 rfl rfl ?_
      obtain ⟨r4, hr4, hR⟩ := bindE hR
      refine cls [] (wtG rfl rfl rfl h3) rfl cb32 (ok32 a a _ hr4) (.cons (.agg (.cons (.sc _) (.cons (.sc _) (.cons (.sc _) (.nil)))) rfl) (.cons (.agg (.cons (.sc _) (.cons (.sc _) (.cons (.sc _) (.nil)))) rfl) (.nil))) (.inr rfl) rfl ?_
      refine pu (v := .sc _) (wtG rfl rfl rfl h3) rfl (fun _ => rfl) ?_
      refine pu (v := .sc _) (wtG rfl rfl rfl h3) rfl (fun _ => rfl) ?_
      refine brR hR (fun h5 hR => ?_) fun h5 hR => ?_
      · refine fa (wtG rfl rfl rfl h5) rfl ti52 rfl rfl ti28 rfl ?_
        refine ldB (v := .sc _) (wtG rfl rfl rfl h5) rfl rfl rfl ti28 rfl rfl ?_
        refine fa (wtG rfl rfl rfl h5) rfl ti52 rfl rfl ti28 rfl ?_
        refine ldB (v := .sc _) (wtG rfl rfl rfl h5) rfl rfl rfl ti28 rfl rfl ?_
        refine pu (v := .sc _) (wtG rfl rfl rfl h5) rfl (fun _ => rfl) ?_
        refine pkT (v := .sc (.bool (decide (b.Lo ≤ a.Lo)))) (wtG rfl rfl rfl h3) rfl h5 rfl ?_
        refine pu (v := .sc _) (wtG rfl rfl rfl h3) rfl (fun _ => rfl) ?_
        refine brR hR (fun h6 hR => ?_) fun h6 hR => ?_
        · refine fa (wtG rfl rfl rfl h6) rfl ti52 rfl rfl ti28 rfl ?_
          refine ldB (v := .sc _) (wtG rfl rfl rfl h6) rfl rfl rfl ti28 rfl rfl ?_
          refine fa (wtG rfl rfl rfl h6) rfl ti52 rfl rfl ti28 rfl ?_
          refine ldB (v := .sc _) (wtG rfl rfl rfl h6) rfl rfl rfl ti28 rfl rfl ?_
          refine pu (v := .sc _) (wtG rfl rfl rfl h6) rfl (fun _ => rfl) ?_
          refine pkT (v := .sc (.bool (decide (a.Hi ≤ b.Hi)))) (wtG rfl rfl rfl h3) rfl h6 rfl ?_
          refine pkF (v := .sc (.bool (decide (a.Hi ≤ b.Hi)))) rfl rfl h3 rfl ?_
          refine pu (v := .sc _) rfl rfl (fun _ => rfl) ?_
          refine RunC.fin ?_
          have hR := Option.some.inj hR; subst hR
          exact Weak.turnL [] [] rfl rfl (tc (.sc _) tn) mn
        · refine sk (skW rfl rfl rfl h6) ?_
          refine sk (skW rfl rfl rfl h6) ?_
          refine sk (skW rfl rfl rfl h6) ?_
          refine sk (skW rfl rfl rfl h6) ?_
          refine sk (skW rfl rfl rfl h6) ?_
          refine pkF (v := .sc (.bool false)) (wtG rfl rfl rfl h3) rfl h6 rfl ?_
          refine pkF (v := .sc (.bool false)) rfl rfl h3 rfl ?_
          refine pu (v := .sc _) rfl rfl (fun _ => rfl) ?_
          refine RunC.fin ?_
          have hR := Option.some.inj hR; subst hR
          exact Weak.turnL [] [] rfl rfl (tc (.sc _) tn) mn
      · refine sk (skW rfl rfl rfl h5) ?_
        refine sk (skW rfl rfl rfl h5) ?_
        refine sk (skW rfl rfl rfl h5) ?_
        refine sk (skW rfl rfl rfl h5) ?_
        refine sk (skW rfl rfl rfl h5) ?_
        refine pkF (v := .sc (.bool false)) (wtG rfl rfl rfl h3) rfl h5 rfl ?_
        refine pu (v := .sc _) (wtG rfl rfl rfl h3) rfl (fun _ => rfl) ?_
        refine sk (skW rfl rfl rfl rfl) ?_
        refine sk (skW rfl rfl rfl rfl) ?_
        refine sk (skW rfl rfl rfl rfl) ?_
        refine sk (skW rfl rfl rfl rfl) ?_
        refine sk (skW rfl rfl rfl rfl) ?_
        refine pkF (v := .sc (.bool false)) (wtG rfl rfl rfl h3) rfl rfl rfl ?_
        refine pkF (v := .sc (.bool false)) rfl rfl h3 rfl ?_
        refine pu (v := .sc _) rfl rfl (fun _ => rfl) ?_
        refine RunC.fin ?_
        have hR := Option.some.inj hR; subst hR
        exact Weak.turnL [] [] rfl rfl (tc (.sc _) tn) mn
  · refine AWP.ret ?_
    have hR := Option.some.inj hR; subst hR
    exact hQ _ _ (LS.mk [(4, .sc (.bool z1))] (lblks 0 []) 0) (.sc (.bool z1)) [] (.inr rfl) (Weak.turnL [] [] rfl rfl (tc (.sc _) tn) mn) (ro1 (rvT (v := .sc (.bool z1)) rfl)) rfl rfl (.sc _) pn
theorem ok10 (old : Cells) (now : Cells) (cut : Int) (r : change_Report × Int) (hR : change_In old now cut = some r) : FnP Try.prog 10 [aggV false old, aggV false now, .sc (.int .i64 cut)] (.tup [aggV (α := change_Report) true r.1, .sc (.int .i64 r.2)]) := by
  refine fnP_of (FnX.walk Try.func10 rfl 89 0 (by simp [Try.ntmps10]) rfl fun W S F Q hQ => ?_)
  unfold change_In at hR
  refine AWP.sq ?_
  refine AWP.rgC 16 rfl rfl ?_
  refine bx (cs := _) 0 rfl rfl rfl ?_
  refine bx (cs := _) 4 rfl rfl rfl ?_
  refine al (cs := [.sc (.slice none 0 0), .sc (.slice none 0 0), .sc (.slice none 0 0)]) 8 rfl rfl ti39 rfl rfl ?_
  refine pu (v := .sc _) rfl rfl (fun _ => rfl) ?_
  refine RunC.fin ?_
  refine AWP.sq ?_
  refine AWP.rgC 52 rfl rfl ?_
  refine ldB (v := .agg _) rfl rfl rfl rfl ti34 rfl rfl ?_
  refine ldB (v := .agg _) rfl rfl rfl rfl ti34 rfl rfl ?_
  obtain ⟨r1, hr1, hR⟩ := bindE hR
  refine cls [] rfl rfl cb16 (ok16 now old _ hr1) (.cons (.agg (.cons (.sc _) (.cons (.sc _) (.cons ldR' (.nil)))) rfl) (.cons (.agg (.cons (.sc _) (.cons (.sc _) (.cons ldR' (.nil)))) rfl) (.nil))) (.inr rfl) rfl ?_
  refine pu (v := .tup _) rfl rfl (fun _ => rfl) ?_
  refine pu (v := .agg _) rfl rfl (fun _ => rfl) ?_
  refine pu (v := .sc _) rfl rfl (fun _ => rfl) ?_
  refine al (cs := [.sc (.int .i64 0), .sc (.int .i64 0), .sc (.slice none 0 0)]) 40 rfl rfl ti34 rfl rfl ?_
  refine stB (cs' := [.sc (.int .i64 r1.1.W), .sc (.int .i64 r1.1.H), rowV (α := Bound) true r1.1.At]) rfl rfl rfl rfl ti34 rfl rfl rfl rfl rfl ?_
  refine pu (v := .sc _) rfl rfl (fun _ => rfl) ?_
  refine RunC.fin ?_
  refine AWP.sq ?_
  refine AWP.sq ?_
  refine AWP.rgC 60 rfl rfl ?_
  refine pu (v := .sc _) rfl rfl (fun _ => rfl) ?_
  refine pu (v := .sc _) rfl rfl (fun _ => rfl) ?_
  refine RunC.fin ?_
  refine AWP.cd hR rfl (fun h2 hR => ?_) fun h2 hR => ?_
  · refine AWP.sq ?_
    refine AWP.rgC 76 rfl rfl ?_
    refine bu (cs := [.sc (.slice none 0 0), .sc (.slice none 0 0), .sc (.slice none 0 0)]) rfl bt39 rfl ?_
    refine pu (v := .sc _) rfl rfl (fun _ => rfl) ?_
    refine stB (cs' := [.sc (.slice none 0 0), .sc (.slice none 0 0), .sc (.slice none 0 0)]) rfl rfl rfl rfl ti39 rfl rfl rfl rfl rfl ?_
    refine pu (v := .sc _) rfl rfl (fun _ => rfl) ?_
    refine RunC.fin ?_
    refine AWP.ret ?_
    refine rtT ?_
    have hR := Option.some.inj hR; subst hR
    exact hQ _ _ (LS.mk [(6, .ptr 0 0 0), (7, .sc (.int .i64 r1.2))] (lblks 0 [boxB (α := change_Report) true (change_Report.mk [] [] [])]) 1) (.tup [aggV (α := change_Report) true (change_Report.mk [] [] []), .sc (.int .i64 r1.2)]) [] (.inr rfl) (Weak.turnL [(8, 0)] [] rfl rfl (tc (trP' rfl rfl rfl rfl) (tc (.sc _) tn)) (mc rfl (.box rfl (.cons trN (.cons trN (.cons trN (.nil)))) rfl) mn)) (ro2 (rvC (v := aggV (α := change_Report) true (change_Report.mk [] [] [])) rfl rfl ti39 rfl) (rvT (v := .sc (.int .i64 r1.2)) rfl)) rfl rfl (.tup (.cons ldA (.cons (.sc _) .nil))) pn
  · refine AWP.skip ?_
    refine skT ?_
    refine AWP.sq ?_
    refine AWP.joinX (fun z3 : Bool => LS.mk [(2, .sc (.int .i64 cut)), (3, .ptr 0 0 0), (4, .ptr 1 0 0), (6, .ptr 2 0 0), (8, .ptr 3 0 0), (31, .sc (.bool z3))] (lblks 0 [boxB (α := Cells) false old, boxB (α := Cells) false now, .box [.sc (.slice none 0 0), .sc (.slice none 0 0), .sc (.slice none 0 0)], boxB (α := Cells) true r1.1]) 4) hR (fun o3 hR => ?_) fun z3 hR => ?_
    · refine AWP.rgC 84 rfl rfl ?_
      refine pu (v := .sc _) rfl rfl (fun _ => rfl) ?_
      refine pu (v := .sc _) rfl rfl (fun _ => rfl) ?_
      refine pu (v := .sc _) rfl rfl (fun _ => rfl) ?_
      refine brR hR (fun h4 hR => ?_) fun h4 hR => ?_
      · refine sk (skW rfl rfl rfl h4) ?_
        refine sk (skW rfl rfl rfl h4) ?_
        refine pkT (v := .sc (.bool true)) rfl rfl h4 rfl ?_
        refine RunC.fin ?_
        have hR := Option.some.inj hR; subst hR
        exact Weak.turnL [(0, 0), (4, 0), (8, 0), (40, 0)] [] rfl rfl (tc (.sc _) (tc (trP' rfl rfl rfl rfl) (tc (trP' rfl rfl rfl rfl) (tc (trP' rfl rfl rfl rfl) (tc (trP' rfl rfl rfl rfl) (tc (.sc _) tn)))))) (mc rfl (.box rfl (.cons (.sc _) (.cons (.sc _) (.cons trR1 (.nil)))) rfl) (mc rfl (.box rfl (.cons (.sc _) (.cons (.sc _) (.cons trR1 (.nil)))) rfl) (mc rfl (.box rfl (.cons (.sc _) (.cons (.sc _) (.cons (.sc _) (.nil)))) rfl) (mc rfl (.box rfl (.cons (.sc _) (.cons (.sc _) (.cons trR1 (.nil)))) rfl) mn))))
      · refine pu (v := .sc _) (wtG rfl rfl rfl h4) rfl (fun _ => rfl) ?_
        refine pu (v := .sc _) (wtG rfl rfl rfl h4) rfl (fun _ => rfl) ?_
        refine pkF (v := .sc (.bool (decide (cut > 1099511627776)))) rfl rfl h4 rfl ?_
        refine RunC.fin ?_
        have hR := Option.some.inj hR; subst hR
        exact Weak.turnL [(0, 0), (4, 0), (8, 0), (40, 0)] [] rfl rfl (tc (.sc _) (tc (trP' rfl rfl rfl rfl) (tc (trP' rfl rfl rfl rfl) (tc (trP' rfl rfl rfl rfl) (tc (trP' rfl rfl rfl rfl) (tc (.sc _) tn)))))) (mc rfl (.box rfl (.cons (.sc _) (.cons (.sc _) (.cons trR1 (.nil)))) rfl) (mc rfl (.box rfl (.cons (.sc _) (.cons (.sc _) (.cons trR1 (.nil)))) rfl) (mc rfl (.box rfl (.cons (.sc _) (.cons (.sc _) (.cons (.sc _) (.nil)))) rfl) (mc rfl (.box rfl (.cons (.sc _) (.cons (.sc _) (.cons trR1 (.nil)))) rfl) mn))))
    · refine AWP.cd hR rfl (fun h5 hR => ?_) fun h5 hR => ?_
      · refine AWP.sq ?_
        refine AWP.rgC 16 rfl rfl ?_
        refine bu (cs := [.sc (.slice none 0 0), .sc (.slice none 0 0), .sc (.slice none 0 0)]) rfl bt39 rfl ?_
        refine stB (cs' := [.sc (.slice none 0 0), .sc (.slice none 0 0), .sc (.slice none 0 0)]) rfl rfl rfl rfl ti39 rfl rfl rfl rfl rfl ?_
        refine pu (v := .sc _) rfl rfl (fun _ => rfl) ?_
        refine RunC.fin ?_
        refine AWP.ret ?_
        refine rtT ?_
        have hR := Option.some.inj hR; subst hR
        exact hQ _ _ (LS.mk [(6, .ptr 0 0 0), (7, .sc (.int .i64 1))] (lblks 0 [boxB (α := change_Report) true (change_Report.mk [] [] [])]) 1) (.tup [aggV (α := change_Report) true (change_Report.mk [] [] []), .sc (.int .i64 1)]) [] (.inr rfl) (Weak.turnL [(2, 0)] [] rfl rfl (tc (trP' rfl rfl rfl rfl) (tc (.sc _) tn)) (mc rfl (.box rfl (.cons trN (.cons trN (.cons trN (.nil)))) rfl) mn)) (ro2 (rvC (v := aggV (α := change_Report) true (change_Report.mk [] [] [])) rfl rfl ti39 rfl) (rvT (v := .sc (.int .i64 1)) rfl)) rfl rfl (.tup (.cons ldA (.cons (.sc _) .nil))) pn
      · refine AWP.skip ?_
        refine skT ?_
        refine AWP.sq ?_
        refine AWP.rgC 40 rfl rfl ?_
        refine ldB (v := .agg _) rfl rfl rfl rfl ti34 rfl rfl ?_
        refine ldB (v := .agg _) rfl rfl rfl rfl ti34 rfl rfl ?_
        obtain ⟨r6, hr6, hR⟩ := bindE hR
        refine cls [] rfl rfl cb16 (ok16 old now _ hr6) (.cons (.agg (.cons (.sc _) (.cons (.sc _) (.cons ldR' (.nil)))) rfl) (.cons (.agg (.cons (.sc _) (.cons (.sc _) (.cons ldR' (.nil)))) rfl) (.nil))) (.inr rfl) rfl ?_
        refine pu (v := .tup _) rfl rfl (fun _ => rfl) ?_
        refine pu (v := .agg _) rfl rfl (fun _ => rfl) ?_
        refine pu (v := .sc _) rfl rfl (fun _ => rfl) ?_
        refine al (cs := [.sc (.int .i64 0), .sc (.int .i64 0), .sc (.slice none 0 0)]) 28 rfl rfl ti34 rfl rfl ?_
        refine stB (cs' := [.sc (.int .i64 r6.1.W), .sc (.int .i64 r6.1.H), rowV (α := Bound) true r6.1.At]) rfl rfl rfl rfl ti34 rfl rfl rfl rfl rfl ?_
        refine pu (v := .sc _) rfl rfl (fun _ => rfl) ?_
        refine RunC.fin ?_
        refine AWP.sq ?_
        refine AWP.rgC 44 rfl rfl ?_
        refine al (cs := [.sc (.slice none 0 0), .sc (.slice none 0 0), .sc (.slice none 0 0)]) 40 rfl rfl ti39 rfl rfl ?_
        refine RunC.fin ?_
        refine AWP.sq ?_
        refine AWP.rgC 68 rfl rfl ?_
        refine pu (v := .sc _) rfl rfl (fun _ => rfl) ?_
        refine pu (v := .sc _) rfl rfl (fun _ => rfl) ?_
        refine pu (v := .sc _) rfl rfl (fun _ => rfl) ?_
        refine bu (cs := [.sc (.int .i64 (w6 (0 - cut))), .sc (.int .i64 cut), .sc (.bool false)]) rfl bt52 rfl ?_
        refine al (cs := [.sc (.int .i64 0), .sc (.int .i64 0), .sc (.bool false)]) 60 rfl rfl ti52 rfl rfl ?_
        refine stB (cs' := [.sc (.int .i64 (w6 (0 - cut))), .sc (.int .i64 cut), .sc (.bool false)]) rfl rfl rfl rfl ti52 rfl rfl rfl rfl rfl ?_
        refine RunC.fin ?_
        refine AWP.sq ?_
        refine AWP.rgC 104 rfl rfl ?_
        refine ldB (v := .agg _) rfl rfl rfl rfl ti34 rfl rfl ?_
        refine ldB (v := .agg _) rfl rfl rfl rfl ti52 rfl rfl ?_
        obtain ⟨r7, hr7, hR⟩ := bindE hR
        refine cls [] rfl rfl cb17 (ok17 r1.1 (Bound.mk (w6 (0 - cut)) cut false) _ hr7) (.cons (.agg (.cons (.sc _) (.cons (.sc _) (.cons ldR' (.nil)))) rfl) (.cons (.agg (.cons (.sc _) (.cons (.sc _) (.cons (.sc _) (.nil)))) rfl) (.nil))) (.inr rfl) rfl ?_
        refine pu (v := .tup _) rfl rfl (fun _ => rfl) ?_
        refine pu (v := rowV _ r7.1) rfl rfl (fun _ => rfl) ?_
        refine pu (v := .sc _) rfl rfl (fun _ => rfl) ?_
        refine fa rfl rfl ti39 rfl rfl ti37 rfl ?_
        refine stB (cs' := [rowV (α := Source_) true r7.1, .sc (.slice none 0 0), .sc (.slice none 0 0)]) rfl rfl rfl rfl ti37 rfl rfl rfl rfl rfl ?_
        refine pu (v := .sc _) rfl rfl (fun _ => rfl) ?_
        refine RunC.fin ?_
        refine AWP.sq ?_
        refine AWP.sq ?_
        refine AWP.rgC 112 rfl rfl ?_
        refine pu (v := .sc _) rfl rfl (fun _ => rfl) ?_
        refine pu (v := .sc _) rfl rfl (fun _ => rfl) ?_
        refine RunC.fin ?_
        refine AWP.cd hR rfl (fun h8 hR => ?_) fun h8 hR => ?_
        · refine AWP.sq ?_
          refine AWP.rgC 128 rfl rfl ?_
          refine bu (cs := [.sc (.slice none 0 0), .sc (.slice none 0 0), .sc (.slice none 0 0)]) rfl bt39 rfl ?_
          refine pu (v := .sc _) rfl rfl (fun _ => rfl) ?_
          refine stB (cs' := [.sc (.slice none 0 0), .sc (.slice none 0 0), .sc (.slice none 0 0)]) rfl rfl rfl rfl ti39 rfl rfl rfl rfl rfl ?_
          refine pu (v := .sc _) rfl rfl (fun _ => rfl) ?_
          refine RunC.fin ?_
          refine AWP.ret ?_
          refine rtT ?_
          have hR := Option.some.inj hR; subst hR
          exact hQ _ _ (LS.mk [(6, .ptr 0 0 0), (7, .sc (.int .i64 r7.2))] (lblks 0 [boxB (α := change_Report) true (change_Report.mk [] [] [])]) 1) (.tup [aggV (α := change_Report) true (change_Report.mk [] [] []), .sc (.int .i64 r7.2)]) [] (.inr rfl) (Weak.turnL [(2, 0)] [] rfl rfl (tc (trP' rfl rfl rfl rfl) (tc (.sc _) tn)) (mc rfl (.box rfl (.cons trN (.cons trN (.cons trN (.nil)))) rfl) mn)) (ro2 (rvC (v := aggV (α := change_Report) true (change_Report.mk [] [] [])) rfl rfl ti39 rfl) (rvT (v := .sc (.int .i64 r7.2)) rfl)) rfl rfl (.tup (.cons ldA (.cons (.sc _) .nil))) pn
        · refine AWP.skip ?_
          refine skT ?_
          refine AWP.sq ?_
          refine AWP.rgC 148 rfl rfl ?_
          refine ldB (v := .agg _) rfl rfl rfl rfl ti34 rfl rfl ?_
          refine ldB (v := .agg _) rfl rfl rfl rfl ti52 rfl rfl ?_
          obtain ⟨r9, hr9, hR⟩ := bindE hR
          refine cls [] rfl rfl cb17 (ok17 r6.1 (Bound.mk (w6 (0 - cut)) cut false) _ hr9) (.cons (.agg (.cons (.sc _) (.cons (.sc _) (.cons ldR' (.nil)))) rfl) (.cons (.agg (.cons (.sc _) (.cons (.sc _) (.cons (.sc _) (.nil)))) rfl) (.nil))) (.inr rfl) rfl ?_
          refine pu (v := .tup _) rfl rfl (fun _ => rfl) ?_
          refine pu (v := rowV _ r9.1) rfl rfl (fun _ => rfl) ?_
          refine pu (v := .sc _) rfl rfl (fun _ => rfl) ?_
          refine fa rfl rfl ti39 rfl rfl ti37 rfl ?_
          refine stB (cs' := [rowV (α := Source_) true r7.1, rowV (α := Source_) true r9.1, .sc (.slice none 0 0)]) rfl rfl rfl rfl ti37 rfl rfl rfl rfl rfl ?_
          refine pu (v := .sc _) rfl rfl (fun _ => rfl) ?_
          refine RunC.fin ?_
          refine AWP.sq ?_
          refine AWP.sq ?_
          refine AWP.rgC 156 rfl rfl ?_
          refine pu (v := .sc _) rfl rfl (fun _ => rfl) ?_
          refine pu (v := .sc _) rfl rfl (fun _ => rfl) ?_
          refine RunC.fin ?_
          refine AWP.cd hR rfl (fun h10 hR => ?_) fun h10 hR => ?_
          · refine AWP.sq ?_
            refine AWP.rgC 172 rfl rfl ?_
            refine bu (cs := [.sc (.slice none 0 0), .sc (.slice none 0 0), .sc (.slice none 0 0)]) rfl bt39 rfl ?_
            refine pu (v := .sc _) rfl rfl (fun _ => rfl) ?_
            refine stB (cs' := [.sc (.slice none 0 0), .sc (.slice none 0 0), .sc (.slice none 0 0)]) rfl rfl rfl rfl ti39 rfl rfl rfl rfl rfl ?_
            refine pu (v := .sc _) rfl rfl (fun _ => rfl) ?_
            refine RunC.fin ?_
            refine AWP.ret ?_
            refine rtT ?_
            have hR := Option.some.inj hR; subst hR
            exact hQ _ _ (LS.mk [(6, .ptr 0 0 0), (7, .sc (.int .i64 r9.2))] (lblks 0 [boxB (α := change_Report) true (change_Report.mk [] [] [])]) 1) (.tup [aggV (α := change_Report) true (change_Report.mk [] [] []), .sc (.int .i64 r9.2)]) [] (.inr rfl) (Weak.turnL [(2, 0)] [] rfl rfl (tc (trP' rfl rfl rfl rfl) (tc (.sc _) tn)) (mc rfl (.box rfl (.cons trN (.cons trN (.cons trN (.nil)))) rfl) mn)) (ro2 (rvC (v := aggV (α := change_Report) true (change_Report.mk [] [] [])) rfl rfl ti39 rfl) (rvT (v := .sc (.int .i64 r9.2)) rfl)) rfl rfl (.tup (.cons ldA (.cons (.sc _) .nil))) pn
          · refine AWP.skip ?_
            refine skT ?_
            refine AWP.sq ?_
            refine AWP.sq ?_
            refine AWP.rgC 172 rfl rfl ?_
            refine fa rfl rfl ti34 rfl rfl ti32 rfl ?_
            refine ldB (v := rowV _ r1.1.At) rfl rfl rfl rfl ti32 rfl rfl ?_
            refine lenL (α := Bound) rfl rfl ti32 rfl ?_
            refine pu (v := .sc _) rfl rfl (fun _ => rfl) ?_
            refine RunC.fin ?_
            refine AWP.nilB Int 40 2 3 rfl rfl (cs' := [rowV (α := Source_) true r7.1, rowV (α := Source_) true r9.1, slV Int 172 0 0 0]) rfl ?_
            refine AWP.loopJ (fun s11 : (List Int) × Int => LS.mk [(6, .ptr 0 0 0), (12, .ptr 1 0 0), (13, .ptr 3 0 0), (66, rowV (α := Bound) true r1.1.At), (67, .sc (.int .i64 (r1.1.At.length : Int))), (68, .sc (.int .i64 s11.2))] (lblks 0 [.box [.sc (.slice none 0 0), .sc (.slice none 0 0), .sc (.slice none 0 0)], .box [rowV (α := Source_) true r7.1, rowV (α := Source_) true r9.1, slV Int 2 0 0 s11.1.length], arrB (α := Int) 3 0 true s11.1, boxB (α := Bound) true (Bound.mk (w6 (0 - cut)) cut false)]) 4) (fun z12 : (List Int) => LS.mk [(6, .ptr 0 0 0), (12, .ptr 1 0 0)] (lblks 0 [.box [.sc (.slice none 0 0), .sc (.slice none 0 0), .sc (.slice none 0 0)], .box [rowV (α := Source_) true r7.1, rowV (α := Source_) true r9.1, slV Int 2 0 0 z12.length], arrB (α := Int) 3 0 true z12]) 3) (change_In.l1 cut r1) hR (s0 := (([] : List Int), 0)) (Weak.turnL [(2, 0), (40, 0), (172, 0), (60, 0)] [] rfl rfl (tc (trP' rfl rfl rfl rfl) (tc (trP' rfl rfl rfl rfl) (tc (trP' rfl rfl rfl rfl) (tc trR1 (tc (.sc _) (tc (.sc _) tn)))))) (mc rfl (.box rfl (.cons (.sc _) (.cons (.sc _) (.cons (.sc _) (.nil)))) rfl) (mc rfl (.box rfl (.cons trR1 (.cons trR1 (.cons (trS' rfl rfl rfl rfl rfl) (.nil)))) rfl) (mc rfl (btrA' rfl) (mc rfl (.box rfl (.cons (.sc _) (.cons (.sc _) (.cons (.sc _) (.nil)))) rfl) mn))))) (fun s11 o11 hR => ?_) fun z12 hR => ?_
            · unfold change_In.l1 at hR
              refine AWP.sq ?_
              refine AWP.rgC 8 rfl rfl ?_
              refine pu (v := .sc _) rfl rfl (fun _ => rfl) ?_
              refine RunC.fin ?_
              refine AWP.sq ?_
              refine AWP.cd hR rfl (fun h13 hR => ?_) fun h13 hR => ?_
              · refine AWP.skip ?_
                refine skT ?_
                refine AWP.joinX (fun z14 : (List Int) => LS.mk [(6, .ptr 0 0 0), (12, .ptr 1 0 0), (13, .ptr 3 0 0), (66, rowV (α := Bound) true r1.1.At), (67, .sc (.int .i64 (r1.1.At.length : Int))), (68, .sc (.int .i64 s11.2))] (lblks 0 [.box [.sc (.slice none 0 0), .sc (.slice none 0 0), .sc (.slice none 0 0)], .box [rowV (α := Source_) true r7.1, rowV (α := Source_) true r9.1, slV Int 2 0 0 z14.length], arrB (α := Int) 3 0 true z14, boxB (α := Bound) true (Bound.mk (w6 (0 - cut)) cut false)]) 4) hR (fun o14 hR => ?_) fun z14 hR => ?_
                · refine AWP.block ?_
                  refine AWP.sq ?_
                  refine AWP.rgC 32 rfl rfl ?_
                  refine pu (v := .sc _) rfl rfl (fun _ => rfl) ?_
                  obtain ⟨h15, hR⟩ := chkE hR
                  refine ixL (α := Bound) rfl rfl rfl ti32 rfl ti52 rfl h15 ?_
                  refine ldR (v := .agg _) rfl rfl ti52 rfl ?_
                  refine al (cs := [.sc (.int .i64 0), .sc (.int .i64 0), .sc (.bool false)]) 20 rfl rfl ti52 rfl rfl ?_
                  refine pu (v := .sc _) rfl rfl (fun _ => rfl) ?_
                  refine stB (cs' := [.sc (.int .i64 (gt r1.1.At s11.2).Lo), .sc (.int .i64 (gt r1.1.At s11.2).Hi), .sc (.bool (gt r1.1.At s11.2).Unknown)]) rfl rfl rfl rfl ti52 rfl rfl rfl rfl rfl ?_
                  refine RunC.fin ?_
                  refine AWP.joinX (fun z16 : Bool => LS.mk [(6, .ptr 0 0 0), (12, .ptr 1 0 0), (13, .ptr 3 0 0), (14, .sc (.int .i64 s11.2)), (66, rowV (α := Bound) true r1.1.At), (67, .sc (.int .i64 (r1.1.At.length : Int))), (68, .sc (.int .i64 s11.2)), (80, .sc (.bool z16))] (lblks 0 [.box [.sc (.slice none 0 0), .sc (.slice none 0 0), .sc (.slice none 0 0)], .box [rowV (α := Source_) true r7.1, rowV (α := Source_) true r9.1, slV Int 2 0 0 s11.1.length], arrB (α := Int) 3 0 true s11.1, boxB (α := Bound) true (Bound.mk (w6 (0 - cut)) cut false)]) 4) hR (fun o16 hR => ?_) fun z16 hR => ?_
                  · refine AWP.rgC 64 rfl rfl ?_
                    refine fa rfl rfl ti52 rfl rfl ti4 rfl ?_
                    refine ldB (v := .sc _) rfl rfl rfl rfl ti4 rfl rfl ?_
                    refine pu (v := .sc _) rfl rfl (fun _ => rfl) ?_
                    refine pu (v := .sc _) rfl rfl (fun _ => rfl) ?_
                    refine brR hR (fun h17 hR => ?_) fun h17 hR => ?_
                    · refine ldB (v := .agg _) (wtG rfl rfl rfl h17) rfl rfl rfl ti52 rfl rfl ?_
                      refine ldB (v := .agg _) (wtG rfl rfl rfl h17) rfl rfl rfl ti52 rfl rfl ?_
                      obtain ⟨r18, hr18, hR⟩ := bindE hR
                      refine cls [] (wtG rfl rfl rfl h17) rfl cb18 (ok18 (gt r1.1.At s11.2) (Bound.mk (w6 (0 - cut)) cut false) _ hr18) (.cons (.agg (.cons (.sc _) (.cons (.sc _) (.cons (.sc _) (.nil)))) rfl) (.cons (.agg (.cons (.sc _) (.cons (.sc _) (.cons (.sc _) (.nil)))) rfl) (.nil))) (.inr rfl) rfl ?_
                      refine pkT (v := .sc (.bool r18)) rfl rfl h17 rfl ?_
                      refine RunC.fin ?_
                      have hR := Option.some.inj hR; subst hR
                      exact Weak.turnL [(0, 0), (1, 0), (2, 0), (3, 0)] [] rfl rfl (tc (trP' rfl rfl rfl rfl) (tc (trP' rfl rfl rfl rfl) (tc (trP' rfl rfl rfl rfl) (tc (.sc _) (tc trR1 (tc (.sc _) (tc (.sc _) (tc (.sc _) tn)))))))) (mc rfl (.box rfl (.cons (.sc _) (.cons (.sc _) (.cons (.sc _) (.nil)))) rfl) (mc rfl (.box rfl (.cons trR1 (.cons trR1 (.cons (trS' rfl rfl rfl rfl rfl) (.nil)))) rfl) (mc rfl (btrA' rfl) (mc rfl (.box rfl (.cons (.sc _) (.cons (.sc _) (.cons (.sc _) (.nil)))) rfl) mn))))
                    · refine sk (skW rfl rfl rfl h17) ?_
                      refine sk (skW rfl rfl rfl h17) ?_
                      refine sk (skW rfl rfl rfl h17) ?_
                      refine pkF (v := .sc (.bool false)) rfl rfl h17 rfl ?_
                      refine RunC.fin ?_
                      have hR := Option.some.inj hR; subst hR
                      exact Weak.turnL [(0, 0), (1, 0), (2, 0), (3, 0)] [] rfl rfl (tc (trP' rfl rfl rfl rfl) (tc (trP' rfl rfl rfl rfl) (tc (trP' rfl rfl rfl rfl) (tc (.sc _) (tc trR1 (tc (.sc _) (tc (.sc _) (tc (.sc _) tn)))))))) (mc rfl (.box rfl (.cons (.sc _) (.cons (.sc _) (.cons (.sc _) (.nil)))) rfl) (mc rfl (.box rfl (.cons trR1 (.cons trR1 (.cons (trS' rfl rfl rfl rfl rfl) (.nil)))) rfl) (mc rfl (btrA' rfl) (mc rfl (.box rfl (.cons (.sc _) (.cons (.sc _) (.cons (.sc _) (.nil)))) rfl) mn))))
                  · refine AWP.cd hR rfl (fun h19 hR => ?_) fun h19 hR => ?_
                    · refine AWP.rgC 32 rfl rfl ?_
                      refine fa rfl rfl ti39 rfl rfl ti22 rfl ?_
                      refine ldB (v := slV Int _ _ _ _) rfl rfl rfl rfl ti22 rfl rfl ?_
                      refine pu (v := .sc _) rfl rfl (fun _ => rfl) ?_
                      refine bs (α := Int) 16 true ([s11.2] : List Int) rfl rfl ti22 rfl ti3 rfl rfl rfl rfl rfl ?_
                      obtain ⟨h20, hR⟩ := chkE hR
                      refine ap' (α := Int) (nw := true) (xs := s11.1) (ys := ([s11.2] : List Int)) rfl rfl rfl rfl (srcS' rfl rfl rfl) ti22 rfl ti3 rfl h20 rfl ?_
                      refine fa rfl rfl ti39 rfl rfl ti22 rfl ?_
                      refine stB (cs' := [rowV (α := Source_) true r7.1, rowV (α := Source_) true r9.1, slV Int 2 1 0 (s11.1 ++ ([s11.2] : List Int)).length]) rfl rfl rfl rfl ti22 rfl rfl rfl rfl rfl ?_
                      refine RunC.blk ?_
                      refine RunC.fin ?_
                      have hR := Option.some.inj hR; subst hR
                      exact Weak.turnL [(0, 0), (1, 0), (2, 0), (3, 0)] [] rfl rfl (tc (trP' rfl rfl rfl rfl) (tc (trP' rfl rfl rfl rfl) (tc (trP' rfl rfl rfl rfl) (tc trR1 (tc (.sc _) (tc (.sc _) tn)))))) (mc rfl (.box rfl (.cons (.sc _) (.cons (.sc _) (.cons (.sc _) (.nil)))) rfl) (mc rfl (.box rfl (.cons trR1 (.cons trR1 (.cons (trS' rfl rfl rfl rfl rfl) (.nil)))) rfl) (mc rfl (btrA' rfl) (mc rfl (.box rfl (.cons (.sc _) (.cons (.sc _) (.cons (.sc _) (.nil)))) rfl) mn))))
                    · refine AWP.skip ?_
                      refine skB ?_
                      refine skT ?_
                      have hR := Option.some.inj hR; subst hR
                      exact Weak.turnL [(0, 0), (1, 0), (2, 0), (3, 0)] [] rfl rfl (tc (trP' rfl rfl rfl rfl) (tc (trP' rfl rfl rfl rfl) (tc (trP' rfl rfl rfl rfl) (tc trR1 (tc (.sc _) (tc (.sc _) tn)))))) (mc rfl (.box rfl (.cons (.sc _) (.cons (.sc _) (.cons (.sc _) (.nil)))) rfl) (mc rfl (.box rfl (.cons trR1 (.cons trR1 (.cons (trS' rfl rfl rfl rfl rfl) (.nil)))) rfl) (mc rfl (btrA' rfl) (mc rfl (.box rfl (.cons (.sc _) (.cons (.sc _) (.cons (.sc _) (.nil)))) rfl) mn))))
                · refine AWP.rgC 12 rfl rfl ?_
                  refine pu (v := .sc _) rfl rfl (fun _ => rfl) ?_
                  refine pu (v := .sc _) rfl rfl (fun _ => rfl) ?_
                  refine RunC.fin ?_
                  refine ⟨(z14, w6 (s11.2 + 1)), (Option.some.inj hR).symm, ?_⟩
                  exact Weak.turnL [(0, 0), (1, 0), (2, 0), (3, 0)] [] rfl rfl (tc (trP' rfl rfl rfl rfl) (tc (trP' rfl rfl rfl rfl) (tc (trP' rfl rfl rfl rfl) (tc trR1 (tc (.sc _) (tc (.sc _) tn)))))) (mc rfl (.box rfl (.cons (.sc _) (.cons (.sc _) (.cons (.sc _) (.nil)))) rfl) (mc rfl (.box rfl (.cons trR1 (.cons trR1 (.cons (trS' rfl rfl rfl rfl rfl) (.nil)))) rfl) (mc rfl (btrA' rfl) (mc rfl (.box rfl (.cons (.sc _) (.cons (.sc _) (.cons (.sc _) (.nil)))) rfl) mn))))
              · refine AWP.exit ?_
                refine exT ?_
                refine exT ?_
                refine exH (skT ?_)
                refine ⟨s11.1, (Option.some.inj hR).symm, ?_⟩
                exact Weak.turnL [(0, 0), (1, 0), (2, 0)] [] rfl rfl (tc (trP' rfl rfl rfl rfl) (tc (trP' rfl rfl rfl rfl) tn)) (mc rfl (.box rfl (.cons (.sc _) (.cons (.sc _) (.cons (.sc _) (.nil)))) rfl) (mc rfl (.box rfl (.cons trR1 (.cons trR1 (.cons (trS' rfl rfl rfl rfl rfl) (.nil)))) rfl) (mc rfl (btrA' rfl) mn)))
            · refine skT ?_
              refine AWP.sq ?_
              refine AWP.rgC 15 rfl rfl ?_
              refine ldB (v := .agg _) rfl rfl rfl rfl ti39 rfl rfl ?_
              refine stB (cs' := [rowV (α := Source_) true r7.1, rowV (α := Source_) true r9.1, slV Int 2 0 0 z12.length]) rfl rfl rfl rfl ti39 rfl rfl rfl rfl rfl ?_
              refine pu (v := .sc _) rfl rfl (fun _ => rfl) ?_
              refine RunC.fin ?_
              refine AWP.ret ?_
              have hR := Option.some.inj hR; subst hR
              exact hQ _ _ (LS.mk [(6, .ptr 0 0 0), (7, .sc (.int .i64 0))] (lblks 0 [boxB (α := change_Report) true (change_Report.mk r7.1 r9.1 z12)]) 1) (.tup [aggV (α := change_Report) true (change_Report.mk r7.1 r9.1 z12), .sc (.int .i64 0)]) [] (.inr rfl) (Weak.turnL [(0, 0)] [2] rfl rfl (tc (trP' rfl rfl rfl rfl) (tc (.sc _) tn)) (mc rfl (.box rfl (.cons trR1 (.cons trR1 (.cons (trF' rfl rfl id rfl) (.nil)))) rfl) mn)) (ro2 (rvC (v := aggV (α := change_Report) true (change_Report.mk r7.1 r9.1 z12)) rfl rfl ti39 rfl) (rvT (v := .sc (.int .i64 0)) rfl)) rfl rfl (.tup (.cons ldA (.cons (.sc _) .nil))) pn
theorem ok19 (lo : Int) (hi : Int) (r : Bound) (hR : spykeep4_noticed_1 lo hi = some r) : FnP Try.prog 19 [.sc (.int .i64 lo), .sc (.int .i64 hi)] (aggV (α := Bound) true r) := by
  refine fnP_of (FnX.walk Try.func19 rfl 8 0 (by simp [Try.ntmps19]) rfl fun W S F Q hQ => ?_)
  unfold spykeep4_noticed_1 at hR
  refine AWP.sq ?_
  refine AWP.rgC 4 rfl rfl ?_
  refine al (cs := [.sc (.int .i64 0), .sc (.int .i64 0), .sc (.bool false)]) 0 rfl rfl ti52 rfl rfl ?_
  refine RunC.fin ?_
  refine AWP.sq ?_
  refine AWP.rgC 20 rfl rfl ?_
  refine pu (v := .sc _) rfl rfl (fun _ => rfl) ?_
  refine pu (v := .sc _) rfl rfl (fun _ => rfl) ?_
  refine bu (cs := [.sc (.int .i64 lo), .sc (.int .i64 hi), .sc (.bool false)]) rfl bt52 rfl ?_
  refine stB (cs' := [.sc (.int .i64 lo), .sc (.int .i64 hi), .sc (.bool false)]) rfl rfl rfl rfl ti52 rfl rfl rfl rfl rfl ?_
  refine RunC.fin ?_
  refine AWP.ret ?_
  have hR := Option.some.inj hR; subst hR
  exact hQ _ _ (LS.mk [(4, .ptr 0 0 0)] (lblks 0 [boxB (α := Bound) true (Bound.mk lo hi false)]) 1) (aggV (α := Bound) true (Bound.mk lo hi false)) [] (.inr rfl) (Weak.turnL [(0, 0)] [] rfl rfl (tc (trP' rfl rfl rfl rfl) tn) (mc rfl (.box rfl (.cons (.sc _) (.cons (.sc _) (.cons (.sc _) (.nil)))) rfl) mn)) (ro1 (rvC (v := aggV (α := Bound) true (Bound.mk lo hi false)) rfl rfl ti52 rfl)) rfl rfl ldA pn
theorem ok12 (s1_ : List Int) (s2_ : List Int) (r : Bool) (hR : slices_Equal_Int s1_ s2_ = some r) : FnP Try.prog 12 [rowV false s1_, rowV false s2_] (.sc (.bool r)) := by
  refine fnP_of (FnX.walk Try.func12 rfl 26 0 (by simp [Try.ntmps12]) rfl fun W S F Q hQ => ?_)
  unfold slices_Equal_Int at hR
  refine AWP.sq ?_
  refine AWP.rgC 4 rfl rfl ?_
  refine pu (v := .sc _) rfl rfl (fun _ => rfl) ?_
  refine RunC.fin ?_
  refine AWP.sq ?_
  refine AWP.sq ?_
  refine AWP.rgC 24 rfl rfl ?_
  refine pu (v := rowV _ s1_) rfl rfl (fun _ => rfl) ?_
  refine lenL (α := Int) rfl rfl ti22 rfl ?_
  refine pu (v := rowV _ s2_) rfl rfl (fun _ => rfl) ?_
  refine lenL (α := Int) rfl rfl ti22 rfl ?_
  refine pu (v := .sc _) rfl rfl (fun _ => rfl) ?_
  refine RunC.fin ?_
  refine AWP.cd hR rfl (fun h1 hR => ?_) fun h1 hR => ?_
  · refine AWP.sq ?_
    refine AWP.rgC 28 rfl rfl ?_
    refine pu (v := .sc _) rfl rfl (fun _ => rfl) ?_
    refine RunC.fin ?_
    refine AWP.ret ?_
    refine rtT ?_
    have hR := Option.some.inj hR; subst hR
    exact hQ _ _ (LS.mk [(4, .sc (.bool false))] (lblks 0 []) 0) (.sc (.bool false)) [] (.inr rfl) (Weak.turnL [] [] rfl rfl (tc (.sc _) tn) mn) (ro1 (rvT (v := .sc (.bool false)) rfl)) rfl rfl (.sc _) pn
  · refine AWP.skip ?_
    refine skT ?_
    refine AWP.sq ?_
    refine AWP.sq ?_
    refine AWP.rgC 36 rfl rfl ?_
    refine pu (v := rowV _ s1_) rfl rfl (fun _ => rfl) ?_
    refine lenL (α := Int) rfl rfl ti22 rfl ?_
    refine pu (v := .sc _) rfl rfl (fun _ => rfl) ?_
    refine RunC.fin ?_
    refine AWP.loopK' (fun s2 : Int => LS.mk [(0, rowV (α := Int) false s1_), (1, rowV (α := Int) false s2_), (12, .sc (.int .i64 (s1_.length : Int))), (13, .sc (.int .i64 s2))] (lblks 0 []) 0) (fun z3 : Unit => LS.mk [] (lblks 0 []) 0) (slices_Equal_Int.l1 s1_ s2_) hR (s0 := 0) (Weak.turnL [] [] rfl rfl (tc trR1 (tc trR1 (tc (.sc _) (tc (.sc _) tn)))) mn) (fun s2 o2 hR hE2 => ?_) fun z3 hR => ?_
    · unfold slices_Equal_Int.l1 at hR
      refine AWP.sq ?_
      refine AWP.rgC 4 rfl rfl ?_
      refine pu (v := .sc _) rfl rfl (fun _ => rfl) ?_
      refine RunC.fin ?_
      refine AWP.sq ?_
      refine AWP.cd hR rfl (fun h4 hR => ?_) fun h4 hR => ?_
      · refine AWP.skip ?_
        refine skT ?_
        refine AWP.sq ?_
        refine AWP.block ?_
        refine AWP.sq ?_
        refine AWP.rgC 12 rfl rfl ?_
        refine pu (v := .sc _) rfl rfl (fun _ => rfl) ?_
        refine pu (v := .sc _) rfl rfl (fun _ => rfl) ?_
        refine RunC.fin ?_
        refine AWP.sq ?_
        refine AWP.rgD 48 [0, 0, 3, 7, 0, 0, 48, 112, 255] ⟨[], [none, none, none, some [], none, none, none, some [], none]⟩ hmix (by kernel_rfl) rfl rfl ?_
        refine pu (v := rowV _ s1_) rfl rfl (fun _ => rfl) ?_
        refine pu (v := .sc _) rfl rfl (fun _ => rfl) ?_
        obtain ⟨h5, hR⟩ := chkE hR
        refine ixL (α := Int) rfl rfl rfl ti22 rfl ti3 rfl h5 ?_
        refine ldR (v := .sc _) rfl rfl ti3 rfl ?_
        refine pu (v := rowV _ s2_) rfl rfl (fun _ => rfl) ?_
        refine pu (v := .sc _) rfl rfl (fun _ => rfl) ?_
        obtain ⟨h6, hR⟩ := chkE hR
        refine ixL (α := Int) rfl rfl rfl ti22 rfl ti3 rfl h6 ?_
        refine ldR (v := .sc _) rfl rfl ti3 rfl ?_
        refine pu (v := .sc _) rfl rfl (fun _ => rfl) ?_
        refine RunC.fin ?_
        refine AWP.cd hR rfl (fun h7 hR => ?_) fun h7 hR => ?_
        · refine AWP.sq ?_
          refine AWP.rgC 52 rfl rfl ?_
          refine pu (v := .sc _) rfl rfl (fun _ => rfl) ?_
          refine RunC.fin ?_
          refine AWP.ret ?_
          refine rtB ?_
          refine rtT ?_
          refine rtT ?_
          refine rtB (rtT ?_)
          replace hR := escL hR hE2
          refine rtT ?_
          have hR := Option.some.inj hR; subst hR
          exact hQ _ _ (LS.mk [(4, .sc (.bool false))] (lblks 0 []) 0) (.sc (.bool false)) [] (.inr rfl) (Weak.turnL [] [] rfl rfl (tc (.sc _) tn) mn) (ro1 (rvT (v := .sc (.bool false)) rfl)) rfl rfl (.sc _) pn
        · refine AWP.skip ?_
          refine skB ?_
          refine skT ?_
          refine AWP.rgC 56 rfl rfl ?_
          refine pu (v := .sc _) rfl rfl (fun _ => rfl) ?_
          refine pu (v := .sc _) rfl rfl (fun _ => rfl) ?_
          refine RunC.fin ?_
          refine ⟨(w6 (s2 + 1)), (Option.some.inj hR).symm, ?_⟩
          exact Weak.turnL [] [] rfl rfl (tc trR1 (tc trR1 (tc (.sc _) (tc (.sc _) tn)))) mn
      · refine AWP.exit ?_
        refine exT ?_
        refine exT ?_
        refine exH (skT ?_)
        refine ⟨(), (Option.some.inj hR).symm, ?_⟩
        exact Weak.turnL [] [] rfl rfl tn mn
    · refine skT ?_
      refine AWP.sq ?_
      refine AWP.rgC 4 rfl rfl ?_
      refine pu (v := .sc _) rfl rfl (fun _ => rfl) ?_
      refine RunC.fin ?_
      refine AWP.ret ?_
      have hR := Option.some.inj hR; subst hR
      exact hQ _ _ (LS.mk [(4, .sc (.bool true))] (lblks 0 []) 0) (.sc (.bool true)) [] (.inr rfl) (Weak.turnL [] [] rfl rfl (tc (.sc _) tn) mn) (ro1 (rvT (v := .sc (.bool true)) rfl)) rfl rfl (.sc _) pn
theorem ok11 (r : Bool) (hR : spykeep4_noticed = some r) : FnP Try.prog 11 [] (.sc (.bool r)) := by
  refine fnP_of (FnX.walk Try.func11 rfl 52 0 (by simp [Try.ntmps11]) rfl fun W S F Q hQ => ?_)
  unfold spykeep4_noticed at hR
  refine AWP.sq ?_
  refine AWP.rgC 4 rfl rfl ?_
  refine pu (v := .sc _) rfl rfl (fun _ => rfl) ?_
  refine RunC.fin ?_
  refine AWP.sq ?_
  refine AWP.rgC 8 rfl rfl ?_
  refine pu (v := .fn _ _) rfl rfl (fun _ => rfl) ?_
  refine RunC.fin ?_
  refine AWP.sq ?_
  refine AWP.rgC 72 rfl rfl ?_
  refine pu (v := .fn _ _) rfl rfl (fun _ => rfl) ?_
  obtain ⟨r1, hr1, hR⟩ := bindE hR
  refine cls [] rfl rfl cb19 (ok19 1 2 _ hr1) (.cons (.sc _) (.cons (.sc _) (.nil))) (.inr rfl) rfl ?_
  refine pu (v := .fn _ _) rfl rfl (fun _ => rfl) ?_
  obtain ⟨r2, hr2, hR⟩ := bindE hR
  refine cls [] rfl rfl cb19 (ok19 1 2 _ hr2) (.cons (.sc _) (.cons (.sc _) (.nil))) (.inr rfl) rfl ?_
  refine bs (α := Bound) 24 true ([r1, r2] : List Bound) rfl rfl ti32 rfl ti52 rfl rfl rfl rfl rfl ?_
  refine bu (cs := [.sc (.int .i64 2), .sc (.int .i64 1), slV Bound 24 0 0 ([r1, r2] : List Bound).length]) rfl bt34 rfl ?_
  refine pu (v := .fn _ _) rfl rfl (fun _ => rfl) ?_
  obtain ⟨r3, hr3, hR⟩ := bindE hR
  refine cls [] rfl rfl cb19 (ok19 1 2 _ hr3) (.cons (.sc _) (.cons (.sc _) (.nil))) (.inr rfl) rfl ?_
  refine pu (v := .fn _ _) rfl rfl (fun _ => rfl) ?_
  obtain ⟨r4, hr4, hR⟩ := bindE hR
  refine cls [] rfl rfl cb19 (ok19 11 12 _ hr4) (.cons (.sc _) (.cons (.sc _) (.nil))) (.inr rfl) rfl ?_
  refine bs (α := Bound) 48 true ([r3, r4] : List Bound) rfl rfl ti32 rfl ti52 rfl rfl rfl rfl rfl ?_
  refine bu (cs := [.sc (.int .i64 2), .sc (.int .i64 1), slV Bound 48 0 0 ([r3, r4] : List Bound).length]) rfl bt34 rfl ?_
  refine al (cs := [.sc (.int .i64 0), .sc (.int .i64 0), .sc (.slice none 0 0)]) 56 rfl rfl ti34 rfl rfl ?_
  refine al (cs := [.sc (.int .i64 0), .sc (.int .i64 0), .sc (.slice none 0 0)]) 60 rfl rfl ti34 rfl rfl ?_
  refine stB (cs' := [.sc (.int .i64 2), .sc (.int .i64 1), slV Bound 24 0 0 ([r1, r2] : List Bound).length]) rfl rfl rfl rfl ti34 rfl rfl rfl rfl rfl ?_
  refine stB (cs' := [.sc (.int .i64 2), .sc (.int .i64 1), slV Bound 48 0 0 ([r3, r4] : List Bound).length]) rfl rfl rfl rfl ti34 rfl rfl rfl rfl rfl ?_
  refine RunC.fin ?_
  refine AWP.sq ?_
  refine AWP.rgC 108 rfl rfl ?_
  refine ldB (v := .agg _) rfl rfl rfl rfl ti34 rfl rfl ?_
  refine ldB (v := .agg _) rfl rfl rfl rfl ti34 rfl rfl ?_
  obtain ⟨r5, hr5, hR⟩ := bindE hR
  refine cls [24, 48] rfl rfl cb10 (ok10 (Cells.mk 2 1 ([r1, r2] : List Bound)) (Cells.mk 2 1 ([r3, r4] : List Bound)) 3 _ hr5) (.cons (.agg (.cons (.sc _) (.cons (.sc _) (.cons (ldS' rfl rfl rfl rfl) (.nil)))) rfl) (.cons (.agg (.cons (.sc _) (.cons (.sc _) (.cons (ldS' rfl rfl rfl rfl) (.nil)))) rfl) (.cons (.sc _) (.nil)))) (.inl (by first | rfl | exact freshR | exact freshA | (simp only [V.fresh, V.freshs, freshR, freshA, Bool.and_self]))) rfl ?_
  refine pu (v := .tup _) rfl rfl (fun _ => rfl) ?_
  refine pu (v := .agg _) rfl rfl (fun _ => rfl) ?_
  refine pu (v := .sc _) rfl rfl (fun _ => rfl) ?_
  refine al (cs := [.sc (.slice none 0 0), .sc (.slice none 0 0), .sc (.slice none 0 0)]) 96 rfl rfl ti39 rfl rfl ?_
  refine stB (cs' := [rowV (α := Source_) true r5.1.Up, rowV (α := Source_) true r5.1.Down, rowV (α := Int) true r5.1.Same]) rfl rfl rfl rfl ti39 rfl rfl rfl rfl rfl ?_
  refine pu (v := .sc _) rfl rfl (fun _ => rfl) ?_
  refine RunC.fin ?_
  refine AWP.joinX (fun z6 : Bool => LS.mk [(0, .sc (.bool z6))] (lblks 0 []) 0) hR (fun o6 hR => ?_) fun z6 hR => ?_
  · refine AWP.rgC 224 rfl rfl ?_
    refine pu (v := .sc _) rfl rfl (fun _ => rfl) ?_
    refine pu (v := .sc _) rfl rfl (fun _ => rfl) ?_
    refine pu (v := .sc _) rfl rfl (fun _ => rfl) ?_
    refine brR hR (fun h7 hR => ?_) fun h7 hR => ?_
    · refine fa (wtG rfl rfl rfl h7) rfl ti39 rfl rfl ti37 rfl ?_
      refine ldB (v := rowV _ r5.1.Up) (wtG rfl rfl rfl h7) rfl rfl rfl ti37 rfl rfl ?_
      refine lenL (α := Source_) (wtG rfl rfl rfl h7) rfl ti37 rfl ?_
      refine pu (v := .sc _) (wtG rfl rfl rfl h7) rfl (fun _ => rfl) ?_
      refine pkT (v := .sc (.bool ((r5.1.Up.length : Int) == 1))) rfl rfl h7 rfl ?_
      refine pu (v := .sc _) rfl rfl (fun _ => rfl) ?_
      refine brR hR (fun h8 hR => ?_) fun h8 hR => ?_
      · refine fa (wtG rfl rfl rfl h8) rfl ti39 rfl rfl ti37 rfl ?_
        refine ldB (v := rowV _ r5.1.Up) (wtG rfl rfl rfl h8) rfl rfl rfl ti37 rfl rfl ?_
        obtain ⟨h9, hR⟩ := chkE hR
        refine ixL (α := Source_) (wtG rfl rfl rfl h8) rfl rfl ti37 rfl ti46 rfl h9 ?_
        refine fr (wtG rfl rfl rfl h8) rfl ti46 rfl rfl ti3 rfl ?_
        refine ldR (v := .sc _) (wtG rfl rfl rfl h8) rfl ti3 rfl ?_
        refine pu (v := .sc _) (wtG rfl rfl rfl h8) rfl (fun _ => rfl) ?_
        refine pkT (v := .sc (.bool ((gt r5.1.Up 0).Peak == 1))) rfl rfl h8 rfl ?_
        refine pu (v := .sc _) rfl rfl (fun _ => rfl) ?_
        refine brR hR (fun h10 hR => ?_) fun h10 hR => ?_
        · refine fa (wtG rfl rfl rfl h10) rfl ti39 rfl rfl ti37 rfl ?_
          refine ldB (v := rowV _ r5.1.Down) (wtG rfl rfl rfl h10) rfl rfl rfl ti37 rfl rfl ?_
          refine lenL (α := Source_) (wtG rfl rfl rfl h10) rfl ti37 rfl ?_
          refine pu (v := .sc _) (wtG rfl rfl rfl h10) rfl (fun _ => rfl) ?_
          refine pkT (v := .sc (.bool ((r5.1.Down.length : Int) == 0))) rfl rfl h10 rfl ?_
          refine pu (v := .sc _) rfl rfl (fun _ => rfl) ?_
          refine brR hR (fun h11 hR => ?_) fun h11 hR => ?_
          · refine fa (wtG rfl rfl rfl h11) rfl ti39 rfl rfl ti22 rfl ?_
            refine ldB (v := rowV _ r5.1.Same) (wtG rfl rfl rfl h11) rfl rfl rfl ti22 rfl rfl ?_
            refine bs (α := Int) 208 true ([0] : List Int) (wtG rfl rfl rfl h11) rfl ti22 rfl ti3 rfl rfl rfl rfl rfl ?_
            obtain ⟨r12, hr12, hR⟩ := bindE hR
            refine cls [208] (wtG rfl rfl rfl h11) rfl cb12 (ok12 r5.1.Same ([0] : List Int) _ hr12) (.cons ldR' (.cons (ldS' rfl rfl rfl rfl) (.nil))) (.inl (by first | rfl | exact freshR | exact freshA | (simp only [V.fresh, V.freshs, freshR, freshA, Bool.and_self]))) rfl ?_
            refine pkT (v := .sc (.bool r12)) rfl rfl h11 rfl ?_
            refine pu (v := .sc _) rfl rfl (fun _ => rfl) ?_
            refine RunC.fin ?_
            have hR := Option.some.inj hR; subst hR
            exact Weak.turnL [] [] rfl rfl (tc (.sc _) tn) mn
          · refine sk (skW rfl rfl rfl h11) ?_
            refine sk (skW rfl rfl rfl h11) ?_
            refine sk (skW rfl rfl rfl h11) ?_
            refine sk (skW rfl rfl rfl h11) ?_
            refine pkF (v := .sc (.bool false)) rfl rfl h11 rfl ?_
            refine pu (v := .sc _) rfl rfl (fun _ => rfl) ?_
            refine RunC.fin ?_
            have hR := Option.some.inj hR; subst hR
            exact Weak.turnL [] [] rfl rfl (tc (.sc _) tn) mn
        · refine sk (skW rfl rfl rfl h10) ?_
          refine sk (skW rfl rfl rfl h10) ?_
          refine sk (skW rfl rfl rfl h10) ?_
          refine sk (skW rfl rfl rfl h10) ?_
          refine pkF (v := .sc (.bool false)) rfl rfl h10 rfl ?_
          refine pu (v := .sc _) rfl rfl (fun _ => rfl) ?_
          refine sk (skW rfl rfl rfl rfl) ?_
          refine sk (skW rfl rfl rfl rfl) ?_
          refine sk (skW rfl rfl rfl rfl) ?_
          refine sk (skW rfl rfl rfl rfl) ?_
          refine pkF (v := .sc (.bool false)) rfl rfl rfl rfl ?_
          refine pu (v := .sc _) rfl rfl (fun _ => rfl) ?_
          refine RunC.fin ?_
          have hR := Option.some.inj hR; subst hR
          exact Weak.turnL [] [] rfl rfl (tc (.sc _) tn) mn
      · refine sk (skW rfl rfl rfl h8) ?_
        refine sk (skW rfl rfl rfl h8) ?_
        refine sk (skW rfl rfl rfl h8) ?_
        refine sk (skW rfl rfl rfl h8) ?_
        refine sk (skW rfl rfl rfl h8) ?_
        refine sk (skW rfl rfl rfl h8) ?_
        refine pkF (v := .sc (.bool false)) rfl rfl h8 rfl ?_
        refine pu (v := .sc _) rfl rfl (fun _ => rfl) ?_
        refine sk (skW rfl rfl rfl rfl) ?_
        refine sk (skW rfl rfl rfl rfl) ?_
        refine sk (skW rfl rfl rfl rfl) ?_
        refine sk (skW rfl rfl rfl rfl) ?_
        refine pkF (v := .sc (.bool false)) rfl rfl rfl rfl ?_
        refine pu (v := .sc _) rfl rfl (fun _ => rfl) ?_
        refine sk (skW rfl rfl rfl rfl) ?_
        refine sk (skW rfl rfl rfl rfl) ?_
        refine sk (skW rfl rfl rfl rfl) ?_
        refine sk (skW rfl rfl rfl rfl) ?_
        refine pkF (v := .sc (.bool false)) rfl rfl rfl rfl ?_
        refine pu (v := .sc _) rfl rfl (fun _ => rfl) ?_
        refine RunC.fin ?_
        have hR := Option.some.inj hR; subst hR
        exact Weak.turnL [] [] rfl rfl (tc (.sc _) tn) mn
    · refine sk (skW rfl rfl rfl h7) ?_
      refine sk (skW rfl rfl rfl h7) ?_
      refine sk (skW rfl rfl rfl h7) ?_
      refine sk (skW rfl rfl rfl h7) ?_
      refine pkF (v := .sc (.bool false)) rfl rfl h7 rfl ?_
      refine pu (v := .sc _) rfl rfl (fun _ => rfl) ?_
      refine sk (skW rfl rfl rfl rfl) ?_
      refine sk (skW rfl rfl rfl rfl) ?_
      refine sk (skW rfl rfl rfl rfl) ?_
      refine sk (skW rfl rfl rfl rfl) ?_
      refine sk (skW rfl rfl rfl rfl) ?_
      refine sk (skW rfl rfl rfl rfl) ?_
      refine pkF (v := .sc (.bool false)) rfl rfl rfl rfl ?_
      refine pu (v := .sc _) rfl rfl (fun _ => rfl) ?_
      refine sk (skW rfl rfl rfl rfl) ?_
      refine sk (skW rfl rfl rfl rfl) ?_
      refine sk (skW rfl rfl rfl rfl) ?_
      refine sk (skW rfl rfl rfl rfl) ?_
      refine pkF (v := .sc (.bool false)) rfl rfl rfl rfl ?_
      refine pu (v := .sc _) rfl rfl (fun _ => rfl) ?_
      refine sk (skW rfl rfl rfl rfl) ?_
      refine sk (skW rfl rfl rfl rfl) ?_
      refine sk (skW rfl rfl rfl rfl) ?_
      refine sk (skW rfl rfl rfl rfl) ?_
      refine pkF (v := .sc (.bool false)) rfl rfl rfl rfl ?_
      refine pu (v := .sc _) rfl rfl (fun _ => rfl) ?_
      refine RunC.fin ?_
      have hR := Option.some.inj hR; subst hR
      exact Weak.turnL [] [] rfl rfl (tc (.sc _) tn) mn
  · refine AWP.ret ?_
    have hR := Option.some.inj hR; subst hR
    exact hQ _ _ (LS.mk [(0, .sc (.bool z6))] (lblks 0 []) 0) (.sc (.bool z6)) [] (.inr rfl) (Weak.turnL [] [] rfl rfl (tc (.sc _) tn) mn) (ro1 (rvT (v := .sc (.bool z6)) rfl)) rfl rfl (.sc _) pn
theorem ok20 (s : List Int) (v : Int) (r : Int) (hR : slices_Index_Int s v = some r) : FnP Try.prog 20 [rowV false s, .sc (.int .i64 v)] (.sc (.int .i64 r)) := by
  refine fnP_of (FnX.walk Try.func20 rfl 19 0 (by simp [Try.ntmps20]) rfl fun W S F Q hQ => ?_)
  unfold slices_Index_Int at hR
  refine AWP.sq ?_
  refine AWP.rgC 4 rfl rfl ?_
  refine pu (v := .sc _) rfl rfl (fun _ => rfl) ?_
  refine RunC.fin ?_
  refine AWP.sq ?_
  refine AWP.sq ?_
  refine AWP.rgC 16 rfl rfl ?_
  refine pu (v := rowV _ s) rfl rfl (fun _ => rfl) ?_
  refine lenL (α := Int) rfl rfl ti22 rfl ?_
  refine pu (v := .sc _) rfl rfl (fun _ => rfl) ?_
  refine RunC.fin ?_
  refine AWP.loopK' (fun s1 : Int => LS.mk [(0, rowV (α := Int) false s), (1, .sc (.int .i64 v)), (7, .sc (.int .i64 (s.length : Int))), (8, .sc (.int .i64 s1))] (lblks 0 []) 0) (fun z2 : Unit => LS.mk [] (lblks 0 []) 0) (slices_Index_Int.l1 s v) hR (s0 := 0) (Weak.turnL [] [] rfl rfl (tc trR1 (tc (.sc _) (tc (.sc _) (tc (.sc _) tn)))) mn) (fun s1 o1 hR hE1 => ?_) fun z2 hR => ?_
  · unfold slices_Index_Int.l1 at hR
    refine AWP.sq ?_
    refine AWP.rgC 4 rfl rfl ?_
    refine pu (v := .sc _) rfl rfl (fun _ => rfl) ?_
    refine RunC.fin ?_
    refine AWP.sq ?_
    refine AWP.cd hR rfl (fun h3 hR => ?_) fun h3 hR => ?_
    · refine AWP.skip ?_
      refine skT ?_
      refine AWP.sq ?_
      refine AWP.block ?_
      refine AWP.sq ?_
      refine AWP.rgC 12 rfl rfl ?_
      refine pu (v := .sc _) rfl rfl (fun _ => rfl) ?_
      refine pu (v := .sc _) rfl rfl (fun _ => rfl) ?_
      refine RunC.fin ?_
      refine AWP.sq ?_
      refine AWP.rgC 36 rfl rfl ?_
      refine pu (v := .sc _) rfl rfl (fun _ => rfl) ?_
      refine pu (v := rowV _ s) rfl rfl (fun _ => rfl) ?_
      refine pu (v := .sc _) rfl rfl (fun _ => rfl) ?_
      obtain ⟨h4, hR⟩ := chkE hR
      refine ixL (α := Int) rfl rfl rfl ti22 rfl ti3 rfl h4 ?_
      refine ldR (v := .sc _) rfl rfl ti3 rfl ?_
      refine pu (v := .sc _) rfl rfl (fun _ => rfl) ?_
      refine RunC.fin ?_
      refine AWP.cd hR rfl (fun h5 hR => ?_) fun h5 hR => ?_
      · refine AWP.sq ?_
        refine AWP.rgC 44 rfl rfl ?_
        refine pu (v := .sc _) rfl rfl (fun _ => rfl) ?_
        refine pu (v := .sc _) rfl rfl (fun _ => rfl) ?_
        refine RunC.fin ?_
        refine AWP.ret ?_
        refine rtB ?_
        refine rtT ?_
        refine rtT ?_
        refine rtB (rtT ?_)
        replace hR := escL hR hE1
        refine rtT ?_
        have hR := Option.some.inj hR; subst hR
        exact hQ _ _ (LS.mk [(4, .sc (.int .i64 s1))] (lblks 0 []) 0) (.sc (.int .i64 s1)) [] (.inr rfl) (Weak.turnL [] [] rfl rfl (tc (.sc _) tn) mn) (ro1 (rvT (v := .sc (.int .i64 s1)) rfl)) rfl rfl (.sc _) pn
      · refine AWP.skip ?_
        refine skB ?_
        refine skT ?_
        refine AWP.rgC 44 rfl rfl ?_
        refine pu (v := .sc _) rfl rfl (fun _ => rfl) ?_
        refine pu (v := .sc _) rfl rfl (fun _ => rfl) ?_
        refine RunC.fin ?_
        refine ⟨(w6 (s1 + 1)), (Option.some.inj hR).symm, ?_⟩
        exact Weak.turnL [] [] rfl rfl (tc trR1 (tc (.sc _) (tc (.sc _) (tc (.sc _) tn)))) mn
    · refine AWP.exit ?_
      refine exT ?_
      refine exT ?_
      refine exH (skT ?_)
      refine ⟨(), (Option.some.inj hR).symm, ?_⟩
      exact Weak.turnL [] [] rfl rfl tn mn
  · refine skT ?_
    refine AWP.sq ?_
    refine AWP.rgC 4 rfl rfl ?_
    refine pu (v := .sc _) rfl rfl (fun _ => rfl) ?_
    refine RunC.fin ?_
    refine AWP.ret ?_
    have hR := Option.some.inj hR; subst hR
    exact hQ _ _ (LS.mk [(4, .sc (.int .i64 (-1)))] (lblks 0 []) 0) (.sc (.int .i64 (-1))) [] (.inr rfl) (Weak.turnL [] [] rfl rfl (tc (.sc _) tn) mn) (ro1 (rvT (v := .sc (.int .i64 (-1))) rfl)) rfl rfl (.sc _) pn
theorem ok14 (s : List Int) (v : Int) (r : Bool) (hR : slices_Contains_Int s v = some r) : FnP Try.prog 14 [rowV false s, .sc (.int .i64 v)] (.sc (.bool r)) := by
  refine fnP_of (FnX.walk Try.func14 rfl 9 0 (by simp [Try.ntmps14]) rfl fun W S F Q hQ => ?_)
  unfold slices_Contains_Int at hR
  refine AWP.sq ?_
  refine AWP.rgC 4 rfl rfl ?_
  refine pu (v := .sc _) rfl rfl (fun _ => rfl) ?_
  refine RunC.fin ?_
  refine AWP.sq ?_
  refine AWP.rgC 24 rfl rfl ?_
  refine pu (v := rowV _ s) rfl rfl (fun _ => rfl) ?_
  refine pu (v := .sc _) rfl rfl (fun _ => rfl) ?_
  obtain ⟨r1, hr1, hR⟩ := bindE hR
  refine cls [] rfl rfl cb20 (ok20 s v _ hr1) (.cons ldR' (.cons (.sc _) (.nil))) (.inr rfl) rfl ?_
  refine pu (v := .sc _) rfl rfl (fun _ => rfl) ?_
  refine pu (v := .sc _) rfl rfl (fun _ => rfl) ?_
  refine RunC.fin ?_
  refine AWP.ret ?_
  have hR := Option.some.inj hR; subst hR
  exact hQ _ _ (LS.mk [(4, .sc (.bool (decide (r1 ≥ 0))))] (lblks 0 []) 0) (.sc (.bool (decide (r1 ≥ 0)))) [] (.inr rfl) (Weak.turnL [] [] rfl rfl (tc (.sc _) tn) mn) (ro1 (rvT (v := .sc (.bool (decide (r1 ≥ 0)))) rfl)) rfl rfl (.sc _) pn
theorem ok13 (x : Source_) (p1 : Int) (r : Bool) (hR : spykeep4_ChangeGrown_1 x p1 = some r) : FnP Try.prog 13 [aggV false x, .rp (Cl.c false p1)] (.sc (.bool r)) := by
  refine fnP_of (FnX.walk Try.func13 rfl 8 0 (by simp [Try.ntmps13]) rfl fun W S F Q hQ => ?_)
  unfold spykeep4_ChangeGrown_1 at hR
  refine AWP.sq ?_
  refine AWP.rgC 8 rfl rfl ?_
  refine bx (cs := _) 0 rfl rfl rfl ?_
  refine pu (v := .sc _) rfl rfl (fun _ => rfl) ?_
  refine RunC.fin ?_
  refine AWP.sq ?_
  refine AWP.rgC 28 rfl rfl ?_
  refine fa rfl rfl ti46 rfl rfl ti22 rfl ?_
  refine ldB (v := rowV _ x.Parts) rfl rfl rfl rfl ti22 rfl rfl ?_
  refine ldR (v := .sc _) rfl rfl ti3 rfl ?_
  obtain ⟨r1, hr1, hR⟩ := bindE hR
  refine cls [] rfl rfl cb14 (ok14 x.Parts p1 _ hr1) (.cons ldR' (.cons (.sc _) (.nil))) (.inr rfl) rfl ?_
  refine pu (v := .sc _) rfl rfl (fun _ => rfl) ?_
  refine RunC.fin ?_
  refine AWP.ret ?_
  have hR := Option.some.inj hR; subst hR
  exact hQ _ _ (LS.mk [(3, .sc (.bool r1))] (lblks 0 []) 0) (.sc (.bool r1)) [] (.inr rfl) (Weak.turnL [] [] rfl rfl (tc (.sc _) tn) mn) (ro1 (rvT (v := .sc (.bool r1)) rfl)) rfl rfl (.sc _) pn
theorem ok21 (s : List Source_) (fc0 : Int) (r : Int) (hR : slices_IndexFunc_Source__spykeep4_ChangeGrown_1 s fc0 = some r) : FnP Try.prog 21 [rowV false s, .fn (.func 13) [.rp (Cl.c false fc0)]] (.sc (.int .i64 r)) := by
  refine fnP_of (FnX.walk Try.func21 rfl 19 0 (by simp [Try.ntmps21]) rfl fun W S F Q hQ => ?_)
  unfold slices_IndexFunc_Source__spykeep4_ChangeGrown_1 at hR
  refine AWP.sq ?_
  refine AWP.rgC 4 rfl rfl ?_
  refine pu (v := .sc _) rfl rfl (fun _ => rfl) ?_
  refine RunC.fin ?_
  refine AWP.sq ?_
  refine AWP.sq ?_
  refine AWP.rgC 16 rfl rfl ?_
  refine pu (v := rowV _ s) rfl rfl (fun _ => rfl) ?_
  refine lenL (α := Source_) rfl rfl ti37 rfl ?_
  refine pu (v := .sc _) rfl rfl (fun _ => rfl) ?_
  refine RunC.fin ?_
  refine AWP.loopK' (fun s1 : Int => LS.mk [(0, rowV (α := Source_) false s), (1, .fn (.func 13) [.rp (Cl.c false (fc0 : Int))]), (7, .sc (.int .i64 (s.length : Int))), (8, .sc (.int .i64 s1))] (lblks 0 []) 0) (fun z2 : Unit => LS.mk [] (lblks 0 []) 0) (slices_IndexFunc_Source__spykeep4_ChangeGrown_1.l1 s fc0) hR (s0 := 0) (Weak.turnL [] [] rfl rfl (tc trR1 (tc (.fn (.cons (.rp (Cl.tr _ _ _ _ id) (Cl.leaf _ _)) (.nil))) (tc (.sc _) (tc (.sc _) tn)))) mn) (fun s1 o1 hR hE1 => ?_) fun z2 hR => ?_
  · unfold slices_IndexFunc_Source__spykeep4_ChangeGrown_1.l1 at hR
    refine AWP.sq ?_
    refine AWP.rgC 4 rfl rfl ?_
    refine pu (v := .sc _) rfl rfl (fun _ => rfl) ?_
    refine RunC.fin ?_
    refine AWP.sq ?_
    refine AWP.cd hR rfl (fun h3 hR => ?_) fun h3 hR => ?_
    · refine AWP.skip ?_
      refine skT ?_
      refine AWP.sq ?_
      refine AWP.block ?_
      refine AWP.sq ?_
      refine AWP.rgC 12 rfl rfl ?_
      refine pu (v := .sc _) rfl rfl (fun _ => rfl) ?_
      refine pu (v := .sc _) rfl rfl (fun _ => rfl) ?_
      refine RunC.fin ?_
      refine AWP.sq ?_
      refine AWP.rgC 36 rfl rfl ?_
      refine pu (v := .fn _ _) rfl rfl (fun _ => rfl) ?_
      refine pu (v := rowV _ s) rfl rfl (fun _ => rfl) ?_
      refine pu (v := .sc _) rfl rfl (fun _ => rfl) ?_
      obtain ⟨h4, hR⟩ := chkE hR
      refine ixL (α := Source_) rfl rfl rfl ti37 rfl ti46 rfl h4 ?_
      refine ldR (v := .agg _) rfl rfl ti46 rfl ?_
      obtain ⟨r5, hr5, hR⟩ := bindE hR
      refine cls [] rfl rfl cb13 (ok13 (gt s s1) fc0 _ hr5) (.cons (.agg (.cons (.sc _) (.cons ldR' (.nil))) rfl) (.cons (.rp (Cl.ld _ _ _) (Cl.leaf _ _)) (.nil))) (.inr rfl) rfl ?_
      refine RunC.fin ?_
      refine AWP.cd hR rfl (fun h6 hR => ?_) fun h6 hR => ?_
      · refine AWP.sq ?_
        refine AWP.rgC 44 rfl rfl ?_
        refine pu (v := .sc _) rfl rfl (fun _ => rfl) ?_
        refine pu (v := .sc _) rfl rfl (fun _ => rfl) ?_
        refine RunC.fin ?_
        refine AWP.ret ?_
        refine rtB ?_
        refine rtT ?_
        refine rtT ?_
        refine rtB (rtT ?_)
        replace hR := escL hR hE1
        refine rtT ?_
        have hR := Option.some.inj hR; subst hR
        exact hQ _ _ (LS.mk [(4, .sc (.int .i64 s1))] (lblks 0 []) 0) (.sc (.int .i64 s1)) [] (.inr rfl) (Weak.turnL [] [] rfl rfl (tc (.sc _) tn) mn) (ro1 (rvT (v := .sc (.int .i64 s1)) rfl)) rfl rfl (.sc _) pn
      · refine AWP.skip ?_
        refine skB ?_
        refine skT ?_
        refine AWP.rgC 44 rfl rfl ?_
        refine pu (v := .sc _) rfl rfl (fun _ => rfl) ?_
        refine pu (v := .sc _) rfl rfl (fun _ => rfl) ?_
        refine RunC.fin ?_
        refine ⟨(w6 (s1 + 1)), (Option.some.inj hR).symm, ?_⟩
        exact Weak.turnL [] [] rfl rfl (tc trR1 (tc (.fn (.cons (.rp (Cl.tr _ _ _ _ id) (Cl.leaf _ _)) (.nil))) (tc (.sc _) (tc (.sc _) tn)))) mn
    · refine AWP.exit ?_
      refine exT ?_
      refine exT ?_
      refine exH (skT ?_)
      refine ⟨(), (Option.some.inj hR).symm, ?_⟩
      exact Weak.turnL [] [] rfl rfl tn mn
  · refine skT ?_
    refine AWP.sq ?_
    refine AWP.rgC 4 rfl rfl ?_
    refine pu (v := .sc _) rfl rfl (fun _ => rfl) ?_
    refine RunC.fin ?_
    refine AWP.ret ?_
    have hR := Option.some.inj hR; subst hR
    exact hQ _ _ (LS.mk [(4, .sc (.int .i64 (-1)))] (lblks 0 []) 0) (.sc (.int .i64 (-1))) [] (.inr rfl) (Weak.turnL [] [] rfl rfl (tc (.sc _) tn) mn) (ro1 (rvT (v := .sc (.int .i64 (-1))) rfl)) rfl rfl (.sc _) pn
theorem ok15 (s : List Source_) (fc0 : Int) (r : Bool) (hR : slices_ContainsFunc_Source__spykeep4_ChangeGrown_1 s fc0 = some r) : FnP Try.prog 15 [rowV false s, .fn (.func 13) [.rp (Cl.c false fc0)]] (.sc (.bool r)) := by
  refine fnP_of (FnX.walk Try.func15 rfl 9 0 (by simp [Try.ntmps15]) rfl fun W S F Q hQ => ?_)
  unfold slices_ContainsFunc_Source__spykeep4_ChangeGrown_1 at hR
  refine AWP.sq ?_
  refine AWP.rgC 4 rfl rfl ?_
  refine pu (v := .sc _) rfl rfl (fun _ => rfl) ?_
  refine RunC.fin ?_
  refine AWP.sq ?_
  refine AWP.rgC 24 rfl rfl ?_
  refine pu (v := rowV _ s) rfl rfl (fun _ => rfl) ?_
  refine pu (v := .fn _ _) rfl rfl (fun _ => rfl) ?_
  obtain ⟨r1, hr1, hR⟩ := bindE hR
  refine cls [] rfl rfl cb21 (ok21 s fc0 _ hr1) (.cons ldR' (.cons (.fn (.cons (.rp (Cl.ld _ _ _) (Cl.leaf _ _)) (.nil))) (.nil))) (.inr rfl) rfl ?_
  refine pu (v := .sc _) rfl rfl (fun _ => rfl) ?_
  refine pu (v := .sc _) rfl rfl (fun _ => rfl) ?_
  refine RunC.fin ?_
  refine AWP.ret ?_
  have hR := Option.some.inj hR; subst hR
  exact hQ _ _ (LS.mk [(4, .sc (.bool (decide (r1 ≥ 0))))] (lblks 0 []) 0) (.sc (.bool (decide (r1 ≥ 0)))) [] (.inr rfl) (Weak.turnL [] [] rfl rfl (tc (.sc _) tn) mn) (ro1 (rvT (v := .sc (.bool (decide (r1 ≥ 0)))) rfl)) rfl rfl (.sc _) pn
end Go.Proofs.Cgr
