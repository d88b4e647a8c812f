/- Each function of the program computes its plain function. Conditions: as each theorem states them. -/
import Derived.Test.YtmcknemnbkajmaaA4
import Derived.Test.YtmcknemnbkajmaaT
import Derived.Test.YtmcknemnbkajmaaP0
namespace Go.Proofs.Mes
open Go Go.Abs Lf
set_option linter.unusedVariables false
set_option linter.unusedSimpArgs false
set_option maxRecDepth 100000
set_option maxHeartbeats 1000000
theorem ok27 (c : Cells) (level : Bound) (cells : List Int) (r : (List Bound) × Int) (hR : measure_Above c level cells = some r) : FnP Try.prog 27 [aggV false c, aggV false level, rowV false cells] (.tup [rowV (α := Bound) true r.1, .sc (.int .i64 r.2)]) := by
  refine fnP_of (FnX.walk Try.func27 rfl 80 0 (by simp [Try.ntmps27]) rfl fun W S F Q hQ => ?_)
  unfold measure_Above at hR
  refine AWP.sq ?_
  refine AWP.rgC 16 rfl rfl ?_
  refine bx (cs := _) 0 rfl rfl rfl ?_
  refine bx (cs := _) 4 rfl rfl rfl ?_
  refine pu (v := .sc _) rfl rfl (fun _ => rfl) ?_
  refine pu (v := .sc _) rfl rfl (fun _ => rfl) ?_
  refine RunC.fin ?_
  refine AWP.sq ?_
  refine AWP.sq ?_
  refine AWP.rgD 44 [0, 1, 0, 7, 15, 31, 63] ⟨[], [some [0], none, some [4], none, none, none, none]⟩ hmix (by kernel_rfl) rfl rfl ?_
  refine ldB (v := .agg _) rfl rfl rfl rfl ti33 rfl rfl ?_
  obtain ⟨r1, hr1, hR⟩ := bindE hR
  refine cls [] rfl rfl cb25 (ok25 c _ hr1) (.cons (.agg (.cons (.sc _) (.cons (.sc _) (.cons ldR' (.nil)))) rfl) (.nil)) (.inr rfl) rfl ?_
  refine ldB (v := .agg _) rfl rfl rfl rfl ti36 rfl rfl ?_
  obtain ⟨r2, hr2, hR⟩ := bindE hR
  refine cls [] rfl rfl cb26 (ok26 level _ hr2) (.cons (.agg (.cons (.sc _) (.cons (.sc _) (.cons (.sc _) (.nil)))) rfl) (.nil)) (.inr rfl) rfl ?_
  refine bs (α := Int) 32 true ([r1, r2] : List Int) rfl rfl ti87 rfl ti45 rfl rfl rfl rfl rfl ?_
  obtain ⟨r3, hr3, hR⟩ := bindE hR
  refine cls [32] rfl rfl cb24 (ok24 ([r1, r2] : List Int) _ hr3) (.cons (ldS' rfl rfl rfl rfl) (.nil)) (.inl (by first | rfl | exact freshR | exact freshA | (simp only [V.fresh, V.freshs, freshR, freshA, Bool.and_self]))) rfl ?_
  refine pu (v := .sc _) rfl rfl (fun _ => rfl) ?_
  refine RunC.fin ?_
  refine AWP.sq ?_
  refine AWP.rgC 52 rfl rfl ?_
  refine pu (v := .sc _) rfl rfl (fun _ => rfl) ?_
  refine pu (v := .sc _) rfl rfl (fun _ => rfl) ?_
  refine RunC.fin ?_
  refine AWP.cd hR rfl (fun h4 hR => ?_) fun h4 hR => ?_
  · refine AWP.sq ?_
    refine AWP.rgC 64 rfl rfl ?_
    refine pu (v := .sc _) rfl rfl (fun _ => rfl) ?_
    refine pu (v := .sc _) rfl rfl (fun _ => rfl) ?_
    refine pu (v := .sc _) rfl rfl (fun _ => rfl) ?_
    refine RunC.fin ?_
    refine AWP.ret ?_
    refine rtT ?_
    have hR := Option.some.inj hR; subst hR
    exact hQ _ _ (LS.mk [(6, rowV (α := Bound) true []), (7, .sc (.int .i64 r3))] (lblks 0 []) 0) (.tup [rowV (α := Bound) true [], .sc (.int .i64 r3)]) [] (.inr rfl) (Weak.turnL [] [] rfl rfl (tc trN (tc (.sc _) tn)) mn) (ro2 (rvT (v := rowV (α := Bound) true []) rfl) (rvT (v := .sc (.int .i64 r3)) rfl)) rfl rfl (.tup (.cons ldR' (.cons (.sc _) .nil))) pn
  · refine AWP.skip ?_
    refine skT ?_
    refine AWP.sq ?_
    refine AWP.sq ?_
    refine AWP.rgC 64 rfl rfl ?_
    refine pu (v := rowV _ cells) rfl rfl (fun _ => rfl) ?_
    refine lenL (α := Int) rfl rfl ti22 rfl ?_
    refine pu (v := .sc _) rfl rfl (fun _ => rfl) ?_
    refine RunC.fin ?_
    refine AWP.loopK' (fun s5 : Int => LS.mk [(2, rowV (α := Int) false cells), (3, .ptr 0 0 0), (4, .ptr 1 0 0), (25, rowV (α := Int) false cells), (26, .sc (.int .i64 (cells.length : Int))), (27, .sc (.int .i64 s5))] (lblks 0 [boxB (α := Cells) false c, boxB (α := Bound) true level]) 2) (fun z6 : Unit => LS.mk [(2, rowV (α := Int) false cells), (3, .ptr 0 0 0), (4, .ptr 1 0 0)] (lblks 0 [boxB (α := Cells) false c, boxB (α := Bound) true level]) 2) (measure_Above.l1 c cells) hR (s0 := 0) (Weak.turnL [(0, 0), (4, 0)] [] rfl rfl (tc trR1 (tc (trP' rfl rfl rfl rfl) (tc (trP' rfl rfl rfl rfl) (tc trR1 (tc (.sc _) (tc (.sc _) tn)))))) (mc rfl (.box rfl (.cons (.sc _) (.cons (.sc _) (.cons trR1 (.nil)))) rfl) (mc rfl (.box rfl (.cons (.sc _) (.cons (.sc _) (.cons (.sc _) (.nil)))) rfl) mn))) (fun s5 o5 hR hE5 => ?_) fun z6 hR => ?_
    · unfold measure_Above.l1 at hR
      refine AWP.sq ?_
      refine AWP.rgC 6 rfl rfl ?_
      refine pu (v := .sc _) rfl rfl (fun _ => rfl) ?_
      refine RunC.fin ?_
      refine AWP.sq ?_
      refine AWP.cd hR rfl (fun h7 hR => ?_) fun h7 hR => ?_
      · refine AWP.skip ?_
        refine skT ?_
        refine AWP.sq ?_
        refine AWP.block ?_
        refine AWP.sq ?_
        refine AWP.rgC 26 rfl rfl ?_
        refine pu (v := .sc _) rfl rfl (fun _ => rfl) ?_
        obtain ⟨h8, hR⟩ := chkE hR
        refine ixL (α := Int) rfl rfl rfl ti22 rfl ti3 rfl h8 ?_
        refine ldR (v := .sc _) rfl rfl ti3 rfl ?_
        refine pu (v := .sc _) rfl rfl (fun _ => rfl) ?_
        refine pu (v := .sc _) rfl rfl (fun _ => rfl) ?_
        refine RunC.fin ?_
        refine AWP.block ?_
        refine AWP.joinX (fun z9 : Bool => LS.mk [(2, rowV (α := Int) false cells), (3, .ptr 0 0 0), (4, .ptr 1 0 0), (9, .sc (.int .i64 s5)), (10, .sc (.int .i64 (gt cells s5))), (25, rowV (α := Int) false cells), (26, .sc (.int .i64 (cells.length : Int))), (27, .sc (.int .i64 s5)), (32, .sc (.bool z9))] (lblks 0 [boxB (α := Cells) false c, boxB (α := Bound) true level]) 2) hR (fun o9 hR => ?_) fun z9 hR => ?_
        · refine AWP.rgC 66 rfl rfl ?_
          refine pu (v := .sc _) rfl rfl (fun _ => rfl) ?_
          refine pu (v := .sc _) rfl rfl (fun _ => rfl) ?_
          refine pu (v := .sc _) rfl rfl (fun _ => rfl) ?_
          refine brR hR (fun h10 hR => ?_) fun h10 hR => ?_
          · refine sk (skW rfl rfl rfl h10) ?_
            refine sk (skW rfl rfl rfl h10) ?_
            refine sk (skW rfl rfl rfl h10) ?_
            refine sk (skW rfl rfl rfl h10) ?_
            refine sk (skW rfl rfl rfl h10) ?_
            refine pkT (v := .sc (.bool true)) rfl rfl h10 rfl ?_
            refine pu (v := .sc _) rfl rfl (fun _ => rfl) ?_
            refine RunC.fin ?_
            have hR := Option.some.inj hR; subst hR
            exact Weak.turnL [(0, 0), (1, 0)] [] rfl rfl (tc trR1 (tc (trP' rfl rfl rfl rfl) (tc (trP' rfl rfl rfl rfl) (tc (.sc _) (tc (.sc _) (tc trR1 (tc (.sc _) (tc (.sc _) (tc (.sc _) tn))))))))) (mc rfl (.box rfl (.cons (.sc _) (.cons (.sc _) (.cons trR1 (.nil)))) rfl) (mc rfl (.box rfl (.cons (.sc _) (.cons (.sc _) (.cons (.sc _) (.nil)))) rfl) mn))
          · refine pu (v := .sc _) (wtG rfl rfl rfl h10) rfl (fun _ => rfl) ?_
            refine fa (wtG rfl rfl rfl h10) rfl ti33 rfl rfl ti31 rfl ?_
            refine ldB (v := rowV _ c.At) (wtG rfl rfl rfl h10) rfl rfl rfl ti31 rfl rfl ?_
            refine lenL (α := Bound) (wtG rfl rfl rfl h10) rfl ti31 rfl ?_
            refine pu (v := .sc _) (wtG rfl rfl rfl h10) rfl (fun _ => rfl) ?_
            refine pkF (v := .sc (.bool (decide ((gt cells s5) ≥ (c.At.length : Int))))) rfl rfl h10 rfl ?_
            refine pu (v := .sc _) rfl rfl (fun _ => rfl) ?_
            refine RunC.fin ?_
            have hR := Option.some.inj hR; subst hR
            exact Weak.turnL [(0, 0), (1, 0)] [] rfl rfl (tc trR1 (tc (trP' rfl rfl rfl rfl) (tc (trP' rfl rfl rfl rfl) (tc (.sc _) (tc (.sc _) (tc trR1 (tc (.sc _) (tc (.sc _) (tc (.sc _) tn))))))))) (mc rfl (.box rfl (.cons (.sc _) (.cons (.sc _) (.cons trR1 (.nil)))) rfl) (mc rfl (.box rfl (.cons (.sc _) (.cons (.sc _) (.cons (.sc _) (.nil)))) rfl) mn))
        · refine AWP.cd hR rfl (fun h11 hR => ?_) fun h11 hR => ?_
          · refine AWP.sq ?_
            refine AWP.rgC 10 rfl rfl ?_
            refine pu (v := .sc _) rfl rfl (fun _ => rfl) ?_
            refine pu (v := .sc _) rfl rfl (fun _ => rfl) ?_
            refine RunC.fin ?_
            refine AWP.ret ?_
            refine rtB ?_
            refine rtB ?_
            refine rtT ?_
            refine rtT ?_
            refine rtB (rtT ?_)
            replace hR := escL hR hE5
            refine rtT ?_
            have hR := Option.some.inj hR; subst hR
            exact hQ _ _ (LS.mk [(6, rowV (α := Bound) true []), (7, .sc (.int .i64 4))] (lblks 0 []) 0) (.tup [rowV (α := Bound) true [], .sc (.int .i64 4)]) [] (.inr rfl) (Weak.turnL [] [] rfl rfl (tc trN (tc (.sc _) tn)) mn) (ro2 (rvT (v := rowV (α := Bound) true []) rfl) (rvT (v := .sc (.int .i64 4)) rfl)) rfl rfl (.tup (.cons ldR' (.cons (.sc _) .nil))) pn
          · refine AWP.joinX (fun z12 : Bool => LS.mk [(2, rowV (α := Int) false cells), (3, .ptr 0 0 0), (4, .ptr 1 0 0), (25, rowV (α := Int) false cells), (26, .sc (.int .i64 (cells.length : Int))), (27, .sc (.int .i64 s5)), (42, .sc (.bool z12))] (lblks 0 [boxB (α := Cells) false c, boxB (α := Bound) true level]) 2) hR (fun o12 hR => ?_) fun z12 hR => ?_
            · refine AWP.rgC 50 rfl rfl ?_
              refine pu (v := .sc _) rfl rfl (fun _ => rfl) ?_
              refine pu (v := .sc _) rfl rfl (fun _ => rfl) ?_
              refine pu (v := .sc _) rfl rfl (fun _ => rfl) ?_
              refine brR hR (fun h13 hR => ?_) fun h13 hR => ?_
              · refine pu (v := .sc _) (wtG rfl rfl rfl h13) rfl (fun _ => rfl) ?_
                refine pu (v := rowV _ cells) (wtG rfl rfl rfl h13) rfl (fun _ => rfl) ?_
                refine pu (v := .sc _) (wtG rfl rfl rfl h13) rfl (fun _ => rfl) ?_
                refine pu (v := .sc _) (wtG rfl rfl rfl h13) rfl (fun _ => rfl) ?_
                obtain ⟨h14, hR⟩ := chkE hR
                refine ixL (α := Int) (wtG rfl rfl rfl h13) rfl rfl ti22 rfl ti3 rfl h14 ?_
                refine ldR (v := .sc _) (wtG rfl rfl rfl h13) rfl ti3 rfl ?_
                refine pu (v := .sc _) (wtG rfl rfl rfl h13) rfl (fun _ => rfl) ?_
                refine pkT (v := .sc (.bool (decide ((gt cells s5) ≤ (gt cells (w6 (s5 - 1))))))) rfl rfl h13 rfl ?_
                refine pu (v := .sc _) rfl rfl (fun _ => rfl) ?_
                refine RunC.fin ?_
                have hR := Option.some.inj hR; subst hR
                exact Weak.turnL [(0, 0), (1, 0)] [] rfl rfl (tc trR1 (tc (trP' rfl rfl rfl rfl) (tc (trP' rfl rfl rfl rfl) (tc trR1 (tc (.sc _) (tc (.sc _) (tc (.sc _) tn))))))) (mc rfl (.box rfl (.cons (.sc _) (.cons (.sc _) (.cons trR1 (.nil)))) rfl) (mc rfl (.box rfl (.cons (.sc _) (.cons (.sc _) (.cons (.sc _) (.nil)))) rfl) mn))
              · refine sk (skW rfl rfl rfl h13) ?_
                refine sk (skW rfl rfl rfl h13) ?_
                refine sk (skW rfl rfl rfl h13) ?_
                refine sk (skW rfl rfl rfl h13) ?_
                refine sk (skW rfl rfl rfl h13) ?_
                refine sk (skW rfl rfl rfl h13) ?_
                refine sk (skW rfl rfl rfl h13) ?_
                refine pkF (v := .sc (.bool false)) rfl rfl h13 rfl ?_
                refine pu (v := .sc _) rfl rfl (fun _ => rfl) ?_
                refine RunC.fin ?_
                have hR := Option.some.inj hR; subst hR
                exact Weak.turnL [(0, 0), (1, 0)] [] rfl rfl (tc trR1 (tc (trP' rfl rfl rfl rfl) (tc (trP' rfl rfl rfl rfl) (tc trR1 (tc (.sc _) (tc (.sc _) (tc (.sc _) tn))))))) (mc rfl (.box rfl (.cons (.sc _) (.cons (.sc _) (.cons trR1 (.nil)))) rfl) (mc rfl (.box rfl (.cons (.sc _) (.cons (.sc _) (.cons (.sc _) (.nil)))) rfl) mn))
            · refine AWP.cd hR rfl (fun h15 hR => ?_) fun h15 hR => ?_
              · refine AWP.sq ?_
                refine AWP.rgC 10 rfl rfl ?_
                refine pu (v := .sc _) rfl rfl (fun _ => rfl) ?_
                refine pu (v := .sc _) rfl rfl (fun _ => rfl) ?_
                refine RunC.fin ?_
                refine AWP.ret ?_
                refine rtB ?_
                refine rtB ?_
                refine rtT ?_
                refine rtT ?_
                refine rtB (rtT ?_)
                replace hR := escL hR hE5
                refine rtT ?_
                have hR := Option.some.inj hR; subst hR
                exact hQ _ _ (LS.mk [(6, rowV (α := Bound) true []), (7, .sc (.int .i64 11))] (lblks 0 []) 0) (.tup [rowV (α := Bound) true [], .sc (.int .i64 11)]) [] (.inr rfl) (Weak.turnL [] [] rfl rfl (tc trN (tc (.sc _) tn)) mn) (ro2 (rvT (v := rowV (α := Bound) true []) rfl) (rvT (v := .sc (.int .i64 11)) rfl)) rfl rfl (.tup (.cons ldR' (.cons (.sc _) .nil))) pn
              · refine AWP.skip ?_
                refine skB ?_
                refine skB ?_
                refine skT ?_
                refine AWP.rgC 10 rfl rfl ?_
                refine pu (v := .sc _) rfl rfl (fun _ => rfl) ?_
                refine pu (v := .sc _) rfl rfl (fun _ => rfl) ?_
                refine RunC.fin ?_
                refine ⟨(w6 (s5 + 1)), (Option.some.inj hR).symm, ?_⟩
                exact Weak.turnL [(0, 0), (1, 0)] [] rfl rfl (tc trR1 (tc (trP' rfl rfl rfl rfl) (tc (trP' rfl rfl rfl rfl) (tc trR1 (tc (.sc _) (tc (.sc _) tn)))))) (mc rfl (.box rfl (.cons (.sc _) (.cons (.sc _) (.cons trR1 (.nil)))) rfl) (mc rfl (.box rfl (.cons (.sc _) (.cons (.sc _) (.cons (.sc _) (.nil)))) rfl) mn))
      · refine AWP.exit ?_
        refine exT ?_
        refine exT ?_
        refine exH (skT ?_)
        refine ⟨(), (Option.some.inj hR).symm, ?_⟩
        exact Weak.turnL [(0, 0), (1, 0)] [] rfl rfl (tc trR1 (tc (trP' rfl rfl rfl rfl) (tc (trP' rfl rfl rfl rfl) tn))) (mc rfl (.box rfl (.cons (.sc _) (.cons (.sc _) (.cons trR1 (.nil)))) rfl) (mc rfl (.box rfl (.cons (.sc _) (.cons (.sc _) (.cons (.sc _) (.nil)))) rfl) mn))
    · refine skT ?_
      refine AWP.sq ?_
      refine AWP.rgC 6 rfl rfl ?_
      refine pu (v := .sc _) rfl rfl (fun _ => rfl) ?_
      refine RunC.fin ?_
      refine AWP.sq ?_
      refine AWP.sq ?_
      refine AWP.rgC 18 rfl rfl ?_
      refine pu (v := rowV _ cells) rfl rfl (fun _ => rfl) ?_
      refine lenL (α := Int) rfl rfl ti22 rfl ?_
      refine pu (v := .sc _) rfl rfl (fun _ => rfl) ?_
      refine RunC.fin ?_
      refine AWP.nilT Bound 11 36 rfl ?_
      refine AWP.loopK' (fun s16 : (List Bound) × Int => LS.mk [(3, .ptr 0 0 0), (4, .ptr 1 0 0), (11, slV Bound 2 0 0 s16.1.length), (55, rowV (α := Int) false cells), (56, .sc (.int .i64 (cells.length : Int))), (57, .sc (.int .i64 s16.2))] (lblks 0 [boxB (α := Cells) false c, boxB (α := Bound) true level, arrB (α := Bound) 36 0 true s16.1]) 3) (fun z17 : (List Bound) => LS.mk [(11, slV Bound 0 0 0 z17.length)] (lblks 0 [arrB (α := Bound) 36 0 true z17]) 1) (measure_Above.l2 c level cells) hR (s0 := (([] : List Bound), 0)) (Weak.turnL [(0, 0), (1, 0), (18, 0)] [] rfl rfl (tc (trP' rfl rfl rfl rfl) (tc (trP' rfl rfl rfl rfl) (tc (trS' rfl rfl rfl rfl rfl) (tc trR1 (tc (.sc _) (tc (.sc _) tn)))))) (mc rfl (.box rfl (.cons (.sc _) (.cons (.sc _) (.cons trR1 (.nil)))) rfl) (mc rfl (.box rfl (.cons (.sc _) (.cons (.sc _) (.cons (.sc _) (.nil)))) rfl) (mc rfl (btrA' rfl) mn)))) (fun s16 o16 hR hE16 => ?_) fun z17 hR => ?_
      · unfold measure_Above.l2 at hR
        refine AWP.sq ?_
        refine AWP.rgC 7 rfl rfl ?_
        refine pu (v := .sc _) rfl rfl (fun _ => rfl) ?_
        refine RunC.fin ?_
        refine AWP.sq ?_
        refine AWP.cd hR rfl (fun h18 hR => ?_) fun h18 hR => ?_
        · refine AWP.skip ?_
          refine skT ?_
          refine AWP.sq ?_
          refine AWP.block ?_
          refine AWP.sq ?_
          refine AWP.rgC 19 rfl rfl ?_
          obtain ⟨h19, hR⟩ := chkE hR
          refine ixL (α := Int) rfl rfl rfl ti22 rfl ti3 rfl h19 ?_
          refine ldR (v := .sc _) rfl rfl ti3 rfl ?_
          refine pu (v := .sc _) rfl rfl (fun _ => rfl) ?_
          refine RunC.fin ?_
          refine AWP.sq ?_
          refine AWP.rgD 71 [0, 1, 0, 7, 15, 0, 63, 127, 255, 255, 0, 1535, 4095] ⟨[], [none, some [0], none, none, some [], some [1], none, none, none, none, none, some [59], none]⟩ hmix (by kernel_rfl) rfl rfl ?_
          refine fa rfl rfl ti33 rfl rfl ti31 rfl ?_
          refine ldB (v := rowV _ c.At) rfl rfl rfl rfl ti31 rfl rfl ?_
          refine pu (v := .sc _) rfl rfl (fun _ => rfl) ?_
          obtain ⟨h20, hR⟩ := chkE hR
          refine ixL (α := Bound) rfl rfl rfl ti31 rfl ti36 rfl h20 ?_
          refine ldR (v := .agg _) rfl rfl ti36 rfl ?_
          refine ldB (v := .agg _) rfl rfl rfl rfl ti36 rfl rfl ?_
          obtain ⟨r21, hr21, hR⟩ := bindE hR
          refine cls [] rfl rfl cb39 (ok39 (gt c.At (gt cells s16.2)) level _ hr21) (.cons (.agg (.cons (.sc _) (.cons (.sc _) (.cons (.sc _) (.nil)))) rfl) (.cons (.agg (.cons (.sc _) (.cons (.sc _) (.cons (.sc _) (.nil)))) rfl) (.nil))) (.inr rfl) rfl ?_
          refine pu (v := .tup _) rfl rfl (fun _ => rfl) ?_
          refine pu (v := .agg _) rfl rfl (fun _ => rfl) ?_
          refine pu (v := .sc _) rfl rfl (fun _ => rfl) ?_
          refine al (cs := [.sc (.int .i64 0), .sc (.int .i64 0), .sc (.bool false)]) 59 rfl rfl ti36 rfl rfl ?_
          refine stB (cs' := [.sc (.int .i64 r21.1.Lo), .sc (.int .i64 r21.1.Hi), .sc (.bool r21.1.Unknown)]) rfl rfl rfl rfl ti36 rfl rfl rfl rfl rfl ?_
          refine pu (v := .sc _) rfl rfl (fun _ => rfl) ?_
          refine RunC.fin ?_
          refine AWP.sq ?_
          refine AWP.sq ?_
          refine AWP.rgC 79 rfl rfl ?_
          refine pu (v := .sc _) rfl rfl (fun _ => rfl) ?_
          refine pu (v := .sc _) rfl rfl (fun _ => rfl) ?_
          refine RunC.fin ?_
          refine AWP.cd hR rfl (fun h22 hR => ?_) fun h22 hR => ?_
          · refine AWP.sq ?_
            refine AWP.rgC 91 rfl rfl ?_
            refine pu (v := .sc _) rfl rfl (fun _ => rfl) ?_
            refine pu (v := .sc _) rfl rfl (fun _ => rfl) ?_
            refine pu (v := .sc _) rfl rfl (fun _ => rfl) ?_
            refine RunC.fin ?_
            refine AWP.ret ?_
            refine rtT ?_
            refine rtB ?_
            refine rtT ?_
            refine rtT ?_
            refine rtB (rtT ?_)
            replace hR := escL hR hE16
            refine rtT ?_
            have hR := Option.some.inj hR; subst hR
            exact hQ _ _ (LS.mk [(6, rowV (α := Bound) true []), (7, .sc (.int .i64 r21.2))] (lblks 0 []) 0) (.tup [rowV (α := Bound) true [], .sc (.int .i64 r21.2)]) [] (.inr rfl) (Weak.turnL [] [] rfl rfl (tc trN (tc (.sc _) tn)) mn) (ro2 (rvT (v := rowV (α := Bound) true []) rfl) (rvT (v := .sc (.int .i64 r21.2)) rfl)) rfl rfl (.tup (.cons ldR' (.cons (.sc _) .nil))) pn
          · refine AWP.skip ?_
            refine skT ?_
            refine AWP.rgC 99 rfl rfl ?_
            refine pu (v := slV Bound _ _ _ _) rfl rfl (fun _ => rfl) ?_
            refine ldB (v := .agg _) rfl rfl rfl rfl ti36 rfl rfl ?_
            refine bs (α := Bound) 87 true ([r21.1] : List Bound) rfl rfl ti31 rfl ti36 rfl rfl rfl rfl rfl ?_
            obtain ⟨h23, hR⟩ := chkE hR
            refine ap' (α := Bound) (nw := true) (xs := s16.1) (ys := ([r21.1] : List Bound)) rfl rfl rfl rfl (srcS' rfl rfl rfl) ti31 rfl ti36 rfl h23 rfl ?_
            refine pu (v := slV Bound _ _ _ _) rfl rfl (fun _ => rfl) ?_
            refine RunC.blk ?_
            refine RunC.fin ?_
            refine AWP.rgC 107 rfl rfl ?_
            refine pu (v := .sc _) rfl rfl (fun _ => rfl) ?_
            refine pu (v := .sc _) rfl rfl (fun _ => rfl) ?_
            refine RunC.fin ?_
            refine ⟨(s16.1 ++ ([r21.1] : List Bound), w6 (s16.2 + 1)), (Option.some.inj hR).symm, ?_⟩
            exact Weak.turnL [(0, 0), (1, 0), (2, 0)] [] rfl rfl (tc (trP' rfl rfl rfl rfl) (tc (trP' rfl rfl rfl rfl) (tc (trS' rfl rfl rfl rfl rfl) (tc trR1 (tc (.sc _) (tc (.sc _) tn)))))) (mc rfl (.box rfl (.cons (.sc _) (.cons (.sc _) (.cons trR1 (.nil)))) rfl) (mc rfl (.box rfl (.cons (.sc _) (.cons (.sc _) (.cons (.sc _) (.nil)))) rfl) (mc rfl (btrA' rfl) mn)))
        · refine AWP.exit ?_
          refine exT ?_
          refine exT ?_
          refine exH (skT ?_)
          refine ⟨s16.1, (Option.some.inj hR).symm, ?_⟩
          exact Weak.turnL [(2, 0)] [] rfl rfl (tc (trS' rfl rfl rfl rfl rfl) tn) (mc rfl (btrA' rfl) mn)
      · refine skT ?_
        refine AWP.sq ?_
        refine AWP.rgC 13 rfl rfl ?_
        refine pu (v := slV Bound _ _ _ _) rfl rfl (fun _ => rfl) ?_
        refine pu (v := slV Bound _ _ _ _) rfl rfl (fun _ => rfl) ?_
        refine pu (v := .sc _) rfl rfl (fun _ => rfl) ?_
        refine RunC.fin ?_
        refine AWP.ret ?_
        have hR := Option.some.inj hR; subst hR
        exact hQ _ _ (LS.mk [(6, rowV (α := Bound) true z17), (7, .sc (.int .i64 0))] (lblks 0 []) 0) (.tup [rowV (α := Bound) true z17, .sc (.int .i64 0)]) [] (.inr rfl) (Weak.turnL [] [0] rfl rfl (tc (trF' rfl rfl id rfl) (tc (.sc _) tn)) mn) (ro2 (rvT (v := rowV (α := Bound) true z17) rfl) (rvT (v := .sc (.int .i64 0)) rfl)) rfl rfl (.tup (.cons ldR' (.cons (.sc _) .nil))) pn
theorem ok23 (x : Int) (n : Int) (r : Int) (hR : spymake_Below x n = some r) : FnP Try.prog 23 [.sc (.int .i64 x), .sc (.int .i64 n)] (.sc (.int .i64 r)) := by
  refine fnP_of (FnX.walk Try.func23 rfl 16 0 (by simp [Try.ntmps23]) rfl fun W S F Q hQ => ?_)
  unfold spymake_Below at hR
  refine AWP.sq ?_
  refine AWP.rgC 4 rfl rfl ?_
  refine pu (v := .sc _) rfl rfl (fun _ => rfl) ?_
  refine RunC.fin ?_
  refine AWP.sq ?_
  refine AWP.sq ?_
  refine AWP.rgC 12 rfl rfl ?_
  refine pu (v := .sc _) rfl rfl (fun _ => rfl) ?_
  refine pu (v := .sc _) rfl rfl (fun _ => rfl) ?_
  refine RunC.fin ?_
  refine AWP.cd hR rfl (fun h1 hR => ?_) fun h1 hR => ?_
  · refine AWP.sq ?_
    refine AWP.rgC 16 rfl rfl ?_
    refine pu (v := .sc _) rfl rfl (fun _ => rfl) ?_
    refine RunC.fin ?_
    refine AWP.ret ?_
    refine rtT ?_
    have hR := Option.some.inj hR; subst hR
    exact hQ _ _ (LS.mk [(4, .sc (.int .i64 0))] (lblks 0 []) 0) (.sc (.int .i64 0)) [] (.inr rfl) (Weak.turnL [] [] rfl rfl (tc (.sc _) tn) mn) (ro1 (rvT (v := .sc (.int .i64 0)) rfl)) rfl rfl (.sc _) pn
  · refine AWP.skip ?_
    refine skT ?_
    refine AWP.sq ?_
    refine AWP.rgC 28 rfl rfl ?_
    refine pu (v := .sc _) rfl rfl (fun _ => rfl) ?_
    refine pu (v := .sc _) rfl rfl (fun _ => rfl) ?_
    obtain ⟨h2, hR⟩ := chkE hR
    refine rm rfl rfl rfl h2 rfl ?_
    refine pu (v := .sc _) rfl rfl (fun _ => rfl) ?_
    refine RunC.fin ?_
    refine AWP.sq ?_
    refine AWP.sq ?_
    refine AWP.rgC 36 rfl rfl ?_
    refine pu (v := .sc _) rfl rfl (fun _ => rfl) ?_
    refine pu (v := .sc _) rfl rfl (fun _ => rfl) ?_
    refine RunC.fin ?_
    refine AWP.cd hR rfl (fun h3 hR => ?_) fun h3 hR => ?_
    · refine AWP.rgC 52 rfl rfl ?_
      refine pu (v := .sc _) rfl rfl (fun _ => rfl) ?_
      refine pu (v := .sc _) rfl rfl (fun _ => rfl) ?_
      refine pu (v := .sc _) rfl rfl (fun _ => rfl) ?_
      refine pu (v := .sc _) rfl rfl (fun _ => rfl) ?_
      refine RunC.fin ?_
      refine AWP.sq ?_
      refine AWP.rgC 60 rfl rfl ?_
      refine pu (v := .sc _) rfl rfl (fun _ => rfl) ?_
      refine pu (v := .sc _) rfl rfl (fun _ => rfl) ?_
      refine RunC.fin ?_
      refine AWP.ret ?_
      have hR := Option.some.inj hR; subst hR
      exact hQ _ _ (LS.mk [(4, .sc (.int .i64 (w6 ((Int.tmod x n) + n))))] (lblks 0 []) 0) (.sc (.int .i64 (w6 ((Int.tmod x n) + n)))) [] (.inr rfl) (Weak.turnL [] [] rfl rfl (tc (.sc _) tn) mn) (ro1 (rvT (v := .sc (.int .i64 (w6 ((Int.tmod x n) + n)))) rfl)) rfl rfl (.sc _) pn
    · refine AWP.skip ?_
      refine skT ?_
      refine AWP.sq ?_
      refine AWP.rgC 44 rfl rfl ?_
      refine pu (v := .sc _) rfl rfl (fun _ => rfl) ?_
      refine pu (v := .sc _) rfl rfl (fun _ => rfl) ?_
      refine RunC.fin ?_
      refine AWP.ret ?_
      have hR := Option.some.inj hR; subst hR
      exact hQ _ _ (LS.mk [(4, .sc (.int .i64 (Int.tmod x n)))] (lblks 0 []) 0) (.sc (.int .i64 (Int.tmod x n))) [] (.inr rfl) (Weak.turnL [] [] rfl rfl (tc (.sc _) tn) mn) (ro1 (rvT (v := .sc (.int .i64 (Int.tmod x n))) rfl)) rfl rfl (.sc _) pn
theorem ok18 (r : Bound) (hR : bound_None = some r) : FnP Try.prog 18 [] (aggV (α := Bound) true r) := by
  refine fnP_of (FnX.walk Try.func18 rfl 2 0 (by simp [Try.ntmps18]) rfl fun W S F Q hQ => ?_)
  unfold bound_None at hR
  refine AWP.sq ?_
  refine AWP.rgC 4 rfl rfl ?_
  refine al (cs := [.sc (.int .i64 0), .sc (.int .i64 0), .sc (.bool false)]) 0 rfl rfl ti50 rfl rfl ?_
  refine RunC.fin ?_
  refine AWP.sq ?_
  refine AWP.rgC 12 rfl rfl ?_
  refine bu (cs := [.sc (.int .i64 0), .sc (.int .i64 0), .sc (.bool true)]) rfl bt50 rfl ?_
  refine stB (cs' := [.sc (.int .i64 0), .sc (.int .i64 0), .sc (.bool true)]) rfl rfl rfl rfl ti50 rfl rfl rfl rfl rfl ?_
  refine RunC.fin ?_
  refine AWP.ret ?_
  have hR := Option.some.inj hR; subst hR
  exact hQ _ _ (LS.mk [(0, .ptr 0 0 0)] (lblks 0 [boxB (α := Bound) true (Bound.mk 0 0 true)]) 1) (aggV (α := Bound) true (Bound.mk 0 0 true)) [] (.inr rfl) (Weak.turnL [(0, 0)] [] rfl rfl (tc (trP' rfl rfl rfl rfl) tn) (mc rfl (.box rfl (.cons (.sc _) (.cons (.sc _) (.cons (.sc _) (.nil)))) rfl) mn)) (ro1 (rvC (v := aggV (α := Bound) true (Bound.mk 0 0 true)) rfl rfl ti50 rfl)) rfl rfl ldA pn
theorem ok22 (a : Bound) (b : Bound) (r : Bound) (hR : measure_share a b = some r) : FnP Try.prog 22 [aggV false a, aggV false b] (aggV (α := Bound) true r) := by
  refine fnP_of (FnX.walk Try.func22 rfl 49 0 (by simp [Try.ntmps22]) rfl fun W S F Q hQ => ?_)
  unfold measure_share at hR
  refine AWP.sq ?_
  refine AWP.rgC 12 rfl rfl ?_
  refine bx (cs := _) 0 rfl rfl rfl ?_
  refine bx (cs := _) 4 rfl rfl rfl ?_
  refine al (cs := [.sc (.int .i64 0), .sc (.int .i64 0), .sc (.bool false)]) 8 rfl rfl ti50 rfl rfl ?_
  refine RunC.fin ?_
  refine AWP.sq ?_
  refine AWP.joinX (fun z1 : Bool => LS.mk [(2, .ptr 0 0 0), (3, .ptr 1 0 0), (4, .ptr 2 0 0), (22, .sc (.bool z1))] (lblks 0 [boxB (α := Bound) true a, boxB (α := Bound) true b, boxB (α := Bound) true (Bound.mk 0 0 false)]) 3) hR (fun o1 hR => ?_) fun z1 hR => ?_
  · refine AWP.rgC 68 rfl rfl ?_
    refine fa rfl rfl ti36 rfl rfl ti4 rfl ?_
    refine ldB (v := .sc _) rfl rfl rfl rfl ti4 rfl rfl ?_
    refine pu (v := .sc _) rfl rfl (fun _ => rfl) ?_
    refine brR hR (fun h2 hR => ?_) fun h2 hR => ?_
    · refine sk (skW rfl rfl rfl h2) ?_
      refine sk (skW rfl rfl rfl h2) ?_
      refine pkT (v := .sc (.bool true)) rfl rfl h2 rfl ?_
      refine pu (v := .sc _) rfl rfl (fun _ => rfl) ?_
      refine sk (skW rfl rfl rfl rfl) ?_
      refine sk (skW rfl rfl rfl rfl) ?_
      refine sk (skW rfl rfl rfl rfl) ?_
      refine sk (skW rfl rfl rfl rfl) ?_
      refine sk (skW rfl rfl rfl rfl) ?_
      refine sk (skW rfl rfl rfl rfl) ?_
      refine pkT (v := .sc (.bool true)) rfl rfl rfl rfl ?_
      refine RunC.fin ?_
      have hR := Option.some.inj hR; subst hR
      exact Weak.turnL [(0, 0), (4, 0), (8, 0)] [] rfl rfl (tc (trP' rfl rfl rfl rfl) (tc (trP' rfl rfl rfl rfl) (tc (trP' rfl rfl rfl rfl) (tc (.sc _) tn)))) (mc rfl (.box rfl (.cons (.sc _) (.cons (.sc _) (.cons (.sc _) (.nil)))) rfl) (mc rfl (.box rfl (.cons (.sc _) (.cons (.sc _) (.cons (.sc _) (.nil)))) rfl) (mc rfl (.box rfl (.cons (.sc _) (.cons (.sc _) (.cons (.sc _) (.nil)))) rfl) mn)))
    · refine fa (wtG rfl rfl rfl h2) rfl ti36 rfl rfl ti4 rfl ?_
      refine ldB (v := .sc _) (wtG rfl rfl rfl h2) rfl rfl rfl ti4 rfl rfl ?_
      refine pkF (v := .sc (.bool b.Unknown)) rfl rfl h2 rfl ?_
      refine pu (v := .sc _) rfl rfl (fun _ => rfl) ?_
      refine brR hR (fun h3 hR => ?_) fun h3 hR => ?_
      · refine sk (skW rfl rfl rfl h3) ?_
        refine sk (skW rfl rfl rfl h3) ?_
        refine sk (skW rfl rfl rfl h3) ?_
        refine sk (skW rfl rfl rfl h3) ?_
        refine sk (skW rfl rfl rfl h3) ?_
        refine sk (skW rfl rfl rfl h3) ?_
        refine pkT (v := .sc (.bool true)) rfl rfl h3 rfl ?_
        refine RunC.fin ?_
        have hR := Option.some.inj hR; subst hR
        exact Weak.turnL [(0, 0), (4, 0), (8, 0)] [] rfl rfl (tc (trP' rfl rfl rfl rfl) (tc (trP' rfl rfl rfl rfl) (tc (trP' rfl rfl rfl rfl) (tc (.sc _) tn)))) (mc rfl (.box rfl (.cons (.sc _) (.cons (.sc _) (.cons (.sc _) (.nil)))) rfl) (mc rfl (.box rfl (.cons (.sc _) (.cons (.sc _) (.cons (.sc _) (.nil)))) rfl) (mc rfl (.box rfl (.cons (.sc _) (.cons (.sc _) (.cons (.sc _) (.nil)))) rfl) mn)))
      · refine fa (wtG rfl rfl rfl h3) rfl ti36 rfl rfl ti28 rfl ?_
        refine ldB (v := .sc _) (wtG rfl rfl rfl h3) rfl rfl rfl ti28 rfl rfl ?_
        refine fa (wtG rfl rfl rfl h3) rfl ti36 rfl rfl ti28 rfl ?_
        refine ldB (v := .sc _) (wtG rfl rfl rfl h3) rfl rfl rfl ti28 rfl rfl ?_
        refine pu (v := .sc _) (wtG rfl rfl rfl h3) rfl (fun _ => rfl) ?_
        refine pu (v := .sc _) (wtG rfl rfl rfl h3) rfl (fun _ => rfl) ?_
        refine pkF (v := .sc (.bool (decide ((w6 (a.Lo + b.Lo)) ≤ 0)))) rfl rfl h3 rfl ?_
        refine RunC.fin ?_
        have hR := Option.some.inj hR; subst hR
        exact Weak.turnL [(0, 0), (4, 0), (8, 0)] [] rfl rfl (tc (trP' rfl rfl rfl rfl) (tc (trP' rfl rfl rfl rfl) (tc (trP' rfl rfl rfl rfl) (tc (.sc _) tn)))) (mc rfl (.box rfl (.cons (.sc _) (.cons (.sc _) (.cons (.sc _) (.nil)))) rfl) (mc rfl (.box rfl (.cons (.sc _) (.cons (.sc _) (.cons (.sc _) (.nil)))) rfl) (mc rfl (.box rfl (.cons (.sc _) (.cons (.sc _) (.cons (.sc _) (.nil)))) rfl) mn)))
  · refine AWP.cd hR rfl (fun h4 hR => ?_) fun h4 hR => ?_
    · refine AWP.sq ?_
      refine AWP.rgC 11 rfl rfl ?_
      obtain ⟨r5, hr5, hR⟩ := bindE hR
      refine cls [] rfl rfl cb18 (ok18 _ hr5) (.nil) (.inr rfl) rfl ?_
      refine stB (cs' := [.sc (.int .i64 r5.Lo), .sc (.int .i64 r5.Hi), .sc (.bool r5.Unknown)]) rfl rfl rfl rfl ti50 rfl rfl rfl rfl rfl ?_
      refine RunC.fin ?_
      refine AWP.ret ?_
      refine rtT ?_
      have hR := Option.some.inj hR; subst hR
      exact hQ _ _ (LS.mk [(4, .ptr 0 0 0)] (lblks 0 [boxB (α := Bound) true r5]) 1) (aggV (α := Bound) true r5) [] (.inr rfl) (Weak.turnL [(2, 0)] [] rfl rfl (tc (trP' rfl rfl rfl rfl) tn) (mc rfl (.box rfl (.cons (.sc _) (.cons (.sc _) (.cons (.sc _) (.nil)))) rfl) mn)) (ro1 (rvC (v := aggV (α := Bound) true r5) rfl rfl ti50 rfl)) rfl rfl ldA pn
    · refine AWP.skip ?_
      refine skT ?_
      refine AWP.sq ?_
      refine AWP.rgC 55 rfl rfl ?_
      refine fa rfl rfl ti36 rfl rfl ti28 rfl ?_
      refine ldB (v := .sc _) rfl rfl rfl rfl ti28 rfl rfl ?_
      refine fa rfl rfl ti36 rfl rfl ti28 rfl ?_
      refine ldB (v := .sc _) rfl rfl rfl rfl ti28 rfl rfl ?_
      refine fa rfl rfl ti36 rfl rfl ti28 rfl ?_
      refine ldB (v := .sc _) rfl rfl rfl rfl ti28 rfl rfl ?_
      refine pu (v := .sc _) rfl rfl (fun _ => rfl) ?_
      obtain ⟨r6, hr6, hR⟩ := bindE hR
      refine cls [] rfl rfl cb37 (ok37 a.Lo 1073741824 (w6 (a.Lo + b.Hi)) _ hr6) (.cons (.sc _) (.cons (.sc _) (.cons (.sc _) (.nil)))) (.inr rfl) rfl ?_
      refine pu (v := .tup _) rfl rfl (fun _ => rfl) ?_
      refine pu (v := .sc _) rfl rfl (fun _ => rfl) ?_
      refine pu (v := .sc _) rfl rfl (fun _ => rfl) ?_
      refine pu (v := .sc _) rfl rfl (fun _ => rfl) ?_
      refine pu (v := .sc _) rfl rfl (fun _ => rfl) ?_
      refine RunC.fin ?_
      refine AWP.sq ?_
      refine AWP.rgC 107 rfl rfl ?_
      refine fa rfl rfl ti36 rfl rfl ti28 rfl ?_
      refine ldB (v := .sc _) rfl rfl rfl rfl ti28 rfl rfl ?_
      refine fa rfl rfl ti36 rfl rfl ti28 rfl ?_
      refine ldB (v := .sc _) rfl rfl rfl rfl ti28 rfl rfl ?_
      refine fa rfl rfl ti36 rfl rfl ti28 rfl ?_
      refine ldB (v := .sc _) rfl rfl rfl rfl ti28 rfl rfl ?_
      refine pu (v := .sc _) rfl rfl (fun _ => rfl) ?_
      obtain ⟨r7, hr7, hR⟩ := bindE hR
      refine cls [] rfl rfl cb38 (ok38 a.Hi 1073741824 (w6 (a.Hi + b.Lo)) _ hr7) (.cons (.sc _) (.cons (.sc _) (.cons (.sc _) (.nil)))) (.inr rfl) rfl ?_
      refine pu (v := .tup _) rfl rfl (fun _ => rfl) ?_
      refine pu (v := .sc _) rfl rfl (fun _ => rfl) ?_
      refine pu (v := .sc _) rfl rfl (fun _ => rfl) ?_
      refine pu (v := .sc _) rfl rfl (fun _ => rfl) ?_
      refine pu (v := .sc _) rfl rfl (fun _ => rfl) ?_
      refine RunC.fin ?_
      refine AWP.sq ?_
      refine AWP.rgC 123 rfl rfl ?_
      refine pu (v := .sc _) rfl rfl (fun _ => rfl) ?_
      refine pu (v := .sc _) rfl rfl (fun _ => rfl) ?_
      refine bu (cs := [.sc (.int .i64 r6.1), .sc (.int .i64 r7.1), .sc (.bool false)]) rfl bt50 rfl ?_
      refine stB (cs' := [.sc (.int .i64 r6.1), .sc (.int .i64 r7.1), .sc (.bool false)]) rfl rfl rfl rfl ti50 rfl rfl rfl rfl rfl ?_
      refine RunC.fin ?_
      refine AWP.ret ?_
      have hR := Option.some.inj hR; subst hR
      exact hQ _ _ (LS.mk [(4, .ptr 0 0 0)] (lblks 0 [boxB (α := Bound) true (Bound.mk r6.1 r7.1 false)]) 1) (aggV (α := Bound) true (Bound.mk r6.1 r7.1 false)) [] (.inr rfl) (Weak.turnL [(2, 0)] [] rfl rfl (tc (trP' rfl rfl rfl rfl) tn) (mc rfl (.box rfl (.cons (.sc _) (.cons (.sc _) (.cons (.sc _) (.nil)))) rfl) mn)) (ro1 (rvC (v := aggV (α := Bound) true (Bound.mk r6.1 r7.1 false)) rfl rfl ti50 rfl)) rfl rfl ldA pn
theorem ok20 (s : List Int) (v : Int) (r : Bool) (hR : slices_Contains_Int s v = some r) : FnP Try.prog 20 [rowV false s, .sc (.int .i64 v)] (.sc (.bool r)) := by
  refine fnP_of (FnX.walk Try.func20 rfl 9 0 (by simp [Try.ntmps20]) rfl fun W S F Q hQ => ?_)
  unfold slices_Contains_Int at hR
  refine AWP.sq ?_
  refine AWP.rgC 4 rfl rfl ?_
  refine pu (v := .sc _) rfl rfl (fun _ => rfl) ?_
  refine RunC.fin ?_
  refine AWP.sq ?_
  refine AWP.rgC 24 rfl rfl ?_
  refine pu (v := rowV _ s) rfl rfl (fun _ => rfl) ?_
  refine pu (v := .sc _) rfl rfl (fun _ => rfl) ?_
  obtain ⟨r1, hr1, hR⟩ := bindE hR
  refine cls [] rfl rfl cb34 (ok34 s v _ hr1) (.cons ldR' (.cons (.sc _) (.nil))) (.inr rfl) rfl ?_
  refine pu (v := .sc _) rfl rfl (fun _ => rfl) ?_
  refine pu (v := .sc _) rfl rfl (fun _ => rfl) ?_
  refine RunC.fin ?_
  refine AWP.ret ?_
  have hR := Option.some.inj hR; subst hR
  exact hQ _ _ (LS.mk [(4, .sc (.bool (decide (r1 ≥ 0))))] (lblks 0 []) 0) (.sc (.bool (decide (r1 ≥ 0)))) [] (.inr rfl) (Weak.turnL [] [] rfl rfl (tc (.sc _) tn) mn) (ro1 (rvT (v := .sc (.bool (decide (r1 ≥ 0)))) rfl)) rfl rfl (.sc _) pn
theorem ok19 (s : Source_) (w : Int) (h : Int) (reach : Int) (r : (List Int)) (hR : measure_Cells s w h reach = some r) : FnP Try.prog 19 [aggV false s, .sc (.int .i64 w), .sc (.int .i64 h), .sc (.int .i64 reach)] (rowV (α := Int) true r) := by
  refine fnP_of (FnX.walk Try.func19 rfl 94 0 (by simp [Try.ntmps19]) rfl fun W S F Q hQ => ?_)
  unfold measure_Cells at hR
  refine AWP.sq ?_
  refine AWP.rgC 8 rfl rfl ?_
  refine bx (cs := _) 0 rfl rfl rfl ?_
  refine pu (v := .sc _) rfl rfl (fun _ => rfl) ?_
  refine RunC.fin ?_
  refine AWP.sq ?_
  refine AWP.joinX (fun z1 : Bool => LS.mk [(1, .sc (.int .i64 w)), (2, .sc (.int .i64 h)), (3, .sc (.int .i64 reach)), (4, .ptr 0 0 0), (48, .sc (.bool z1))] (lblks 0 [boxB (α := Source_) false s]) 1) hR (fun o1 hR => ?_) fun z1 hR => ?_
  · refine AWP.rgC 148 rfl rfl ?_
    refine pu (v := .sc _) rfl rfl (fun _ => rfl) ?_
    refine pu (v := .sc _) rfl rfl (fun _ => rfl) ?_
    refine pu (v := .sc _) rfl rfl (fun _ => rfl) ?_
    refine brR hR (fun h2 hR => ?_) fun h2 hR => ?_
    · refine sk (skW rfl rfl rfl h2) ?_
      refine sk (skW rfl rfl rfl h2) ?_
      refine pkT (v := .sc (.bool true)) rfl rfl h2 rfl ?_
      refine pu (v := .sc _) rfl rfl (fun _ => rfl) ?_
      refine sk (skW rfl rfl rfl rfl) ?_
      refine sk (skW rfl rfl rfl rfl) ?_
      refine pkT (v := .sc (.bool true)) rfl rfl rfl rfl ?_
      refine pu (v := .sc _) rfl rfl (fun _ => rfl) ?_
      refine sk (skW rfl rfl rfl rfl) ?_
      refine sk (skW rfl rfl rfl rfl) ?_
      refine pkT (v := .sc (.bool true)) rfl rfl rfl rfl ?_
      refine pu (v := .sc _) rfl rfl (fun _ => rfl) ?_
      refine sk (skW rfl rfl rfl rfl) ?_
      refine sk (skW rfl rfl rfl rfl) ?_
      refine sk (skW rfl rfl rfl rfl) ?_
      refine pkT (v := .sc (.bool true)) rfl rfl rfl rfl ?_
      refine pu (v := .sc _) rfl rfl (fun _ => rfl) ?_
      refine sk (skW rfl rfl rfl rfl) ?_
      refine sk (skW rfl rfl rfl rfl) ?_
      refine sk (skW rfl rfl rfl rfl) ?_
      refine sk (skW rfl rfl rfl rfl) ?_
      refine sk (skW rfl rfl rfl rfl) ?_
      refine sk (skW rfl rfl rfl rfl) ?_
      refine pkT (v := .sc (.bool true)) rfl rfl rfl rfl ?_
      refine pu (v := .sc _) rfl rfl (fun _ => rfl) ?_
      refine sk (skW rfl rfl rfl rfl) ?_
      refine sk (skW rfl rfl rfl rfl) ?_
      refine pkT (v := .sc (.bool true)) rfl rfl rfl rfl ?_
      refine pu (v := .sc _) rfl rfl (fun _ => rfl) ?_
      refine sk (skW rfl rfl rfl rfl) ?_
      refine sk (skW rfl rfl rfl rfl) ?_
      refine pkT (v := .sc (.bool true)) rfl rfl rfl rfl ?_
      refine RunC.fin ?_
      have hR := Option.some.inj hR; subst hR
      exact Weak.turnL [(0, 0)] [] rfl rfl (tc (.sc _) (tc (.sc _) (tc (.sc _) (tc (trP' rfl rfl rfl rfl) (tc (.sc _) tn))))) (mc rfl (.box rfl (.cons (.sc _) (.cons trR1 (.nil))) rfl) mn)
    · refine pu (v := .sc _) (wtG rfl rfl rfl h2) rfl (fun _ => rfl) ?_
      refine pu (v := .sc _) (wtG rfl rfl rfl h2) rfl (fun _ => rfl) ?_
      refine pkF (v := .sc (.bool (decide (w > 32)))) rfl rfl h2 rfl ?_
      refine pu (v := .sc _) rfl rfl (fun _ => rfl) ?_
      refine brR hR (fun h3 hR => ?_) fun h3 hR => ?_
      · refine sk (skW rfl rfl rfl h3) ?_
        refine sk (skW rfl rfl rfl h3) ?_
        refine pkT (v := .sc (.bool true)) rfl rfl h3 rfl ?_
        refine pu (v := .sc _) rfl rfl (fun _ => rfl) ?_
        refine sk (skW rfl rfl rfl rfl) ?_
        refine sk (skW rfl rfl rfl rfl) ?_
        refine pkT (v := .sc (.bool true)) rfl rfl rfl rfl ?_
        refine pu (v := .sc _) rfl rfl (fun _ => rfl) ?_
        refine sk (skW rfl rfl rfl rfl) ?_
        refine sk (skW rfl rfl rfl rfl) ?_
        refine sk (skW rfl rfl rfl rfl) ?_
        refine pkT (v := .sc (.bool true)) rfl rfl rfl rfl ?_
        refine pu (v := .sc _) rfl rfl (fun _ => rfl) ?_
        refine sk (skW rfl rfl rfl rfl) ?_
        refine sk (skW rfl rfl rfl rfl) ?_
        refine sk (skW rfl rfl rfl rfl) ?_
        refine sk (skW rfl rfl rfl rfl) ?_
        refine sk (skW rfl rfl rfl rfl) ?_
        refine sk (skW rfl rfl rfl rfl) ?_
        refine pkT (v := .sc (.bool true)) rfl rfl rfl rfl ?_
        refine pu (v := .sc _) rfl rfl (fun _ => rfl) ?_
        refine sk (skW rfl rfl rfl rfl) ?_
        refine sk (skW rfl rfl rfl rfl) ?_
        refine pkT (v := .sc (.bool true)) rfl rfl rfl rfl ?_
        refine pu (v := .sc _) rfl rfl (fun _ => rfl) ?_
        refine sk (skW rfl rfl rfl rfl) ?_
        refine sk (skW rfl rfl rfl rfl) ?_
        refine pkT (v := .sc (.bool true)) rfl rfl rfl rfl ?_
        refine RunC.fin ?_
        have hR := Option.some.inj hR; subst hR
        exact Weak.turnL [(0, 0)] [] rfl rfl (tc (.sc _) (tc (.sc _) (tc (.sc _) (tc (trP' rfl rfl rfl rfl) (tc (.sc _) tn))))) (mc rfl (.box rfl (.cons (.sc _) (.cons trR1 (.nil))) rfl) mn)
      · refine pu (v := .sc _) (wtG rfl rfl rfl h3) rfl (fun _ => rfl) ?_
        refine pu (v := .sc _) (wtG rfl rfl rfl h3) rfl (fun _ => rfl) ?_
        refine pkF (v := .sc (.bool (decide (h < 1)))) rfl rfl h3 rfl ?_
        refine pu (v := .sc _) rfl rfl (fun _ => rfl) ?_
        refine brR hR (fun h4 hR => ?_) fun h4 hR => ?_
        · refine sk (skW rfl rfl rfl h4) ?_
          refine sk (skW rfl rfl rfl h4) ?_
          refine pkT (v := .sc (.bool true)) rfl rfl h4 rfl ?_
          refine pu (v := .sc _) rfl rfl (fun _ => rfl) ?_
          refine sk (skW rfl rfl rfl rfl) ?_
          refine sk (skW rfl rfl rfl rfl) ?_
          refine sk (skW rfl rfl rfl rfl) ?_
          refine pkT (v := .sc (.bool true)) rfl rfl rfl rfl ?_
          refine pu (v := .sc _) rfl rfl (fun _ => rfl) ?_
          refine sk (skW rfl rfl rfl rfl) ?_
          refine sk (skW rfl rfl rfl rfl) ?_
          refine sk (skW rfl rfl rfl rfl) ?_
          refine sk (skW rfl rfl rfl rfl) ?_
          refine sk (skW rfl rfl rfl rfl) ?_
          refine sk (skW rfl rfl rfl rfl) ?_
          refine pkT (v := .sc (.bool true)) rfl rfl rfl rfl ?_
          refine pu (v := .sc _) rfl rfl (fun _ => rfl) ?_
          refine sk (skW rfl rfl rfl rfl) ?_
          refine sk (skW rfl rfl rfl rfl) ?_
          refine pkT (v := .sc (.bool true)) rfl rfl rfl rfl ?_
          refine pu (v := .sc _) rfl rfl (fun _ => rfl) ?_
          refine sk (skW rfl rfl rfl rfl) ?_
          refine sk (skW rfl rfl rfl rfl) ?_
          refine pkT (v := .sc (.bool true)) rfl rfl rfl rfl ?_
          refine RunC.fin ?_
          have hR := Option.some.inj hR; subst hR
          exact Weak.turnL [(0, 0)] [] rfl rfl (tc (.sc _) (tc (.sc _) (tc (.sc _) (tc (trP' rfl rfl rfl rfl) (tc (.sc _) tn))))) (mc rfl (.box rfl (.cons (.sc _) (.cons trR1 (.nil))) rfl) mn)
        · refine pu (v := .sc _) (wtG rfl rfl rfl h4) rfl (fun _ => rfl) ?_
          refine pu (v := .sc _) (wtG rfl rfl rfl h4) rfl (fun _ => rfl) ?_
          refine pkF (v := .sc (.bool (decide (h > 32)))) rfl rfl h4 rfl ?_
          refine pu (v := .sc _) rfl rfl (fun _ => rfl) ?_
          refine brR hR (fun h5 hR => ?_) fun h5 hR => ?_
          · refine sk (skW rfl rfl rfl h5) ?_
            refine sk (skW rfl rfl rfl h5) ?_
            refine sk (skW rfl rfl rfl h5) ?_
            refine pkT (v := .sc (.bool true)) rfl rfl h5 rfl ?_
            refine pu (v := .sc _) rfl rfl (fun _ => rfl) ?_
            refine sk (skW rfl rfl rfl rfl) ?_
            refine sk (skW rfl rfl rfl rfl) ?_
            refine sk (skW rfl rfl rfl rfl) ?_
            refine sk (skW rfl rfl rfl rfl) ?_
            refine sk (skW rfl rfl rfl rfl) ?_
            refine sk (skW rfl rfl rfl rfl) ?_
            refine pkT (v := .sc (.bool true)) rfl rfl rfl rfl ?_
            refine pu (v := .sc _) rfl rfl (fun _ => rfl) ?_
            refine sk (skW rfl rfl rfl rfl) ?_
            refine sk (skW rfl rfl rfl rfl) ?_
            refine pkT (v := .sc (.bool true)) rfl rfl rfl rfl ?_
            refine pu (v := .sc _) rfl rfl (fun _ => rfl) ?_
            refine sk (skW rfl rfl rfl rfl) ?_
            refine sk (skW rfl rfl rfl rfl) ?_
            refine pkT (v := .sc (.bool true)) rfl rfl rfl rfl ?_
            refine RunC.fin ?_
            have hR := Option.some.inj hR; subst hR
            exact Weak.turnL [(0, 0)] [] rfl rfl (tc (.sc _) (tc (.sc _) (tc (.sc _) (tc (trP' rfl rfl rfl rfl) (tc (.sc _) tn))))) (mc rfl (.box rfl (.cons (.sc _) (.cons trR1 (.nil))) rfl) mn)
          · refine fa (wtG rfl rfl rfl h5) rfl ti39 rfl rfl ti3 rfl ?_
            refine ldB (v := .sc _) (wtG rfl rfl rfl h5) rfl rfl rfl ti3 rfl rfl ?_
            refine pu (v := .sc _) (wtG rfl rfl rfl h5) rfl (fun _ => rfl) ?_
            refine pkF (v := .sc (.bool (decide (s.Peak < 0)))) rfl rfl h5 rfl ?_
            refine pu (v := .sc _) rfl rfl (fun _ => rfl) ?_
            refine brR hR (fun h6 hR => ?_) fun h6 hR => ?_
            · refine sk (skW rfl rfl rfl h6) ?_
              refine sk (skW rfl rfl rfl h6) ?_
              refine sk (skW rfl rfl rfl h6) ?_
              refine sk (skW rfl rfl rfl h6) ?_
              refine sk (skW rfl rfl rfl h6) ?_
              refine sk (skW rfl rfl rfl h6) ?_
              refine pkT (v := .sc (.bool true)) rfl rfl h6 rfl ?_
              refine pu (v := .sc _) rfl rfl (fun _ => rfl) ?_
              refine sk (skW rfl rfl rfl rfl) ?_
              refine sk (skW rfl rfl rfl rfl) ?_
              refine pkT (v := .sc (.bool true)) rfl rfl rfl rfl ?_
              refine pu (v := .sc _) rfl rfl (fun _ => rfl) ?_
              refine sk (skW rfl rfl rfl rfl) ?_
              refine sk (skW rfl rfl rfl rfl) ?_
              refine pkT (v := .sc (.bool true)) rfl rfl rfl rfl ?_
              refine RunC.fin ?_
              have hR := Option.some.inj hR; subst hR
              exact Weak.turnL [(0, 0)] [] rfl rfl (tc (.sc _) (tc (.sc _) (tc (.sc _) (tc (trP' rfl rfl rfl rfl) (tc (.sc _) tn))))) (mc rfl (.box rfl (.cons (.sc _) (.cons trR1 (.nil))) rfl) mn)
            · refine fa (wtG rfl rfl rfl h6) rfl ti39 rfl rfl ti3 rfl ?_
              refine ldB (v := .sc _) (wtG rfl rfl rfl h6) rfl rfl rfl ti3 rfl rfl ?_
              refine pu (v := .sc _) (wtG rfl rfl rfl h6) rfl (fun _ => rfl) ?_
              refine pu (v := .sc _) (wtG rfl rfl rfl h6) rfl (fun _ => rfl) ?_
              refine pu (v := .sc _) (wtG rfl rfl rfl h6) rfl (fun _ => rfl) ?_
              refine pu (v := .sc _) (wtG rfl rfl rfl h6) rfl (fun _ => rfl) ?_
              refine pkF (v := .sc (.bool (decide (s.Peak ≥ (w6 (w * h)))))) rfl rfl h6 rfl ?_
              refine pu (v := .sc _) rfl rfl (fun _ => rfl) ?_
              refine brR hR (fun h7 hR => ?_) fun h7 hR => ?_
              · refine sk (skW rfl rfl rfl h7) ?_
                refine sk (skW rfl rfl rfl h7) ?_
                refine pkT (v := .sc (.bool true)) rfl rfl h7 rfl ?_
                refine pu (v := .sc _) rfl rfl (fun _ => rfl) ?_
                refine sk (skW rfl rfl rfl rfl) ?_
                refine sk (skW rfl rfl rfl rfl) ?_
                refine pkT (v := .sc (.bool true)) rfl rfl rfl rfl ?_
                refine RunC.fin ?_
                have hR := Option.some.inj hR; subst hR
                exact Weak.turnL [(0, 0)] [] rfl rfl (tc (.sc _) (tc (.sc _) (tc (.sc _) (tc (trP' rfl rfl rfl rfl) (tc (.sc _) tn))))) (mc rfl (.box rfl (.cons (.sc _) (.cons trR1 (.nil))) rfl) mn)
              · refine pu (v := .sc _) (wtG rfl rfl rfl h7) rfl (fun _ => rfl) ?_
                refine pu (v := .sc _) (wtG rfl rfl rfl h7) rfl (fun _ => rfl) ?_
                refine pkF (v := .sc (.bool (decide (reach < 0)))) rfl rfl h7 rfl ?_
                refine pu (v := .sc _) rfl rfl (fun _ => rfl) ?_
                refine brR hR (fun h8 hR => ?_) fun h8 hR => ?_
                · refine sk (skW rfl rfl rfl h8) ?_
                  refine sk (skW rfl rfl rfl h8) ?_
                  refine pkT (v := .sc (.bool true)) rfl rfl h8 rfl ?_
                  refine RunC.fin ?_
                  have hR := Option.some.inj hR; subst hR
                  exact Weak.turnL [(0, 0)] [] rfl rfl (tc (.sc _) (tc (.sc _) (tc (.sc _) (tc (trP' rfl rfl rfl rfl) (tc (.sc _) tn))))) (mc rfl (.box rfl (.cons (.sc _) (.cons trR1 (.nil))) rfl) mn)
                · refine pu (v := .sc _) (wtG rfl rfl rfl h8) rfl (fun _ => rfl) ?_
                  refine pu (v := .sc _) (wtG rfl rfl rfl h8) rfl (fun _ => rfl) ?_
                  refine pkF (v := .sc (.bool (decide (reach > 10)))) rfl rfl h8 rfl ?_
                  refine RunC.fin ?_
                  have hR := Option.some.inj hR; subst hR
                  exact Weak.turnL [(0, 0)] [] rfl rfl (tc (.sc _) (tc (.sc _) (tc (.sc _) (tc (trP' rfl rfl rfl rfl) (tc (.sc _) tn))))) (mc rfl (.box rfl (.cons (.sc _) (.cons trR1 (.nil))) rfl) mn)
  · refine AWP.cd hR rfl (fun h9 hR => ?_) fun h9 hR => ?_
    · refine AWP.sq ?_
      refine AWP.rgC 5 rfl rfl ?_
      refine pu (v := .sc _) rfl rfl (fun _ => rfl) ?_
      refine RunC.fin ?_
      refine AWP.ret ?_
      refine rtT ?_
      have hR := Option.some.inj hR; subst hR
      exact hQ _ _ (LS.mk [(8, rowV (α := Int) true [])] (lblks 0 []) 0) (rowV (α := Int) true []) [] (.inr rfl) (Weak.turnL [] [] rfl rfl (tc trN tn) mn) (ro1 (rvT (v := rowV (α := Int) true []) rfl)) rfl rfl ldR' pn
    · refine AWP.skip ?_
      refine skT ?_
      refine AWP.sq ?_
      refine AWP.rgC 5 rfl rfl ?_
      refine pu (v := .sc _) rfl rfl (fun _ => rfl) ?_
      refine RunC.fin ?_
      refine AWP.sq ?_
      refine AWP.rgD 45 [0, 1, 0, 7, 0, 16, 0, 112, 15, 511] ⟨[], [none, some [0], none, none, none, some [0], none, none, none, none]⟩ hmix (by kernel_rfl) rfl rfl ?_
      refine fa rfl rfl ti39 rfl rfl ti3 rfl ?_
      refine ldB (v := .sc _) rfl rfl rfl rfl ti3 rfl rfl ?_
      refine pu (v := .sc _) rfl rfl (fun _ => rfl) ?_
      obtain ⟨h10, hR⟩ := chkE hR
      refine rm rfl rfl rfl h10 rfl ?_
      refine fa rfl rfl ti39 rfl rfl ti3 rfl ?_
      refine ldB (v := .sc _) rfl rfl rfl rfl ti3 rfl rfl ?_
      refine pu (v := .sc _) rfl rfl (fun _ => rfl) ?_
      refine qu rfl rfl rfl h10 rfl ?_
      refine pu (v := .sc _) rfl rfl (fun _ => rfl) ?_
      refine pu (v := .sc _) rfl rfl (fun _ => rfl) ?_
      refine RunC.fin ?_
      refine AWP.sq ?_
      refine AWP.sq ?_
      refine AWP.rgC 65 rfl rfl ?_
      refine pu (v := .sc _) rfl rfl (fun _ => rfl) ?_
      refine pu (v := .sc _) rfl rfl (fun _ => rfl) ?_
      refine pu (v := .sc _) rfl rfl (fun _ => rfl) ?_
      refine pu (v := .sc _) rfl rfl (fun _ => rfl) ?_
      refine pu (v := .sc _) rfl rfl (fun _ => rfl) ?_
      refine RunC.fin ?_
      refine AWP.nilT Int 9 3 rfl ?_
      refine AWP.loopJ (fun s11 : (List Int) × Int => LS.mk [(1, .sc (.int .i64 w)), (2, .sc (.int .i64 h)), (3, .sc (.int .i64 reach)), (9, slV Int 0 0 0 s11.1.length), (10, .sc (.int .i64 (Int.tmod s.Peak w))), (11, .sc (.int .i64 (w6 (Int.tdiv s.Peak w)))), (12, .sc (.int .i64 s11.2))] (lblks 0 [arrB (α := Int) 3 0 true s11.1]) 1) (fun z12 : (List Int) => LS.mk [(9, slV Int 0 0 0 z12.length)] (lblks 0 [arrB (α := Int) 3 0 true z12]) 1) (measure_Cells.l1 s w h reach) hR (s0 := (([] : List Int), mx2 (w6 ((w6 (Int.tdiv s.Peak w)) - reach)) 0)) (Weak.turnL [(65, 0)] [] rfl rfl (tc (.sc _) (tc (.sc _) (tc (.sc _) (tc (trS' rfl rfl rfl rfl rfl) (tc (.sc _) (tc (.sc _) (tc (.sc _) tn))))))) (mc rfl (btrA' rfl) mn)) (fun s11 o11 hR => ?_) fun z12 hR => ?_
      · unfold measure_Cells.l1 at hR
        refine AWP.sq ?_
        refine AWP.sq ?_
        refine AWP.rgC 33 rfl rfl ?_
        refine pu (v := .sc _) rfl rfl (fun _ => rfl) ?_
        refine pu (v := .sc _) rfl rfl (fun _ => rfl) ?_
        refine pu (v := .sc _) rfl rfl (fun _ => rfl) ?_
        refine pu (v := .sc _) rfl rfl (fun _ => rfl) ?_
        refine pu (v := .sc _) rfl rfl (fun _ => rfl) ?_
        refine pu (v := .sc _) rfl rfl (fun _ => rfl) ?_
        refine pu (v := .sc _) rfl rfl (fun _ => rfl) ?_
        obtain ⟨v13, ev13, hR⟩ := letE hR
        refine pu (v := .sc _) rfl rfl (fun _ => puB ev13) ?_
        refine RunC.fin ?_
        refine AWP.cd hR rfl (fun h14 hR => ?_) fun h14 hR => ?_
        · refine AWP.skip ?_
          refine skT ?_
          refine AWP.sq ?_
          refine AWP.block ?_
          refine AWP.sq ?_
          refine AWP.rgC 53 rfl rfl ?_
          refine pu (v := .sc _) rfl rfl (fun _ => rfl) ?_
          refine pu (v := .sc _) rfl rfl (fun _ => rfl) ?_
          refine pu (v := .sc _) rfl rfl (fun _ => rfl) ?_
          refine pu (v := .sc _) rfl rfl (fun _ => rfl) ?_
          refine pu (v := .sc _) rfl rfl (fun _ => rfl) ?_
          refine RunC.fin ?_
          refine AWP.loopJ (fun s15 : (List Int) × Int => LS.mk [(1, .sc (.int .i64 w)), (2, .sc (.int .i64 h)), (3, .sc (.int .i64 reach)), (9, slV Int 0 0 0 s15.1.length), (10, .sc (.int .i64 (Int.tmod s.Peak w))), (11, .sc (.int .i64 (w6 (Int.tdiv s.Peak w)))), (12, .sc (.int .i64 s11.2)), (13, .sc (.int .i64 s15.2))] (lblks 0 [arrB (α := Int) 3 0 true s15.1]) 1) (fun z16 : (List Int) => LS.mk [(1, .sc (.int .i64 w)), (2, .sc (.int .i64 h)), (3, .sc (.int .i64 reach)), (9, slV Int 0 0 0 z16.length), (10, .sc (.int .i64 (Int.tmod s.Peak w))), (11, .sc (.int .i64 (w6 (Int.tdiv s.Peak w)))), (12, .sc (.int .i64 s11.2))] (lblks 0 [arrB (α := Int) 3 0 true z16]) 1) (measure_Cells.l2 s w reach s11) hR (s0 := (s11.1, mx2 (w6 ((Int.tmod s.Peak w) - reach)) 0)) (Weak.turnL [(0, 0)] [] rfl rfl (tc (.sc _) (tc (.sc _) (tc (.sc _) (tc (trS' rfl rfl rfl rfl rfl) (tc (.sc _) (tc (.sc _) (tc (.sc _) (tc (.sc _) tn)))))))) (mc rfl (btrA' rfl) mn)) (fun s15 o15 hR => ?_) fun z16 hR => ?_
          · unfold measure_Cells.l2 at hR
            refine AWP.sq ?_
            refine AWP.sq ?_
            refine AWP.rgC 33 rfl rfl ?_
            refine pu (v := .sc _) rfl rfl (fun _ => rfl) ?_
            refine pu (v := .sc _) rfl rfl (fun _ => rfl) ?_
            refine pu (v := .sc _) rfl rfl (fun _ => rfl) ?_
            refine pu (v := .sc _) rfl rfl (fun _ => rfl) ?_
            refine pu (v := .sc _) rfl rfl (fun _ => rfl) ?_
            refine pu (v := .sc _) rfl rfl (fun _ => rfl) ?_
            refine pu (v := .sc _) rfl rfl (fun _ => rfl) ?_
            obtain ⟨v17, ev17, hR⟩ := letE hR
            refine pu (v := .sc _) rfl rfl (fun _ => puB ev17) ?_
            refine RunC.fin ?_
            refine AWP.cd hR rfl (fun h18 hR => ?_) fun h18 hR => ?_
            · refine AWP.skip ?_
              refine skT ?_
              refine AWP.sq ?_
              refine AWP.block ?_
              refine AWP.rgC 69 rfl rfl ?_
              refine pu (v := slV Int _ _ _ _) rfl rfl (fun _ => rfl) ?_
              refine pu (v := .sc _) rfl rfl (fun _ => rfl) ?_
              refine pu (v := .sc _) rfl rfl (fun _ => rfl) ?_
              refine pu (v := .sc _) rfl rfl (fun _ => rfl) ?_
              refine pu (v := .sc _) rfl rfl (fun _ => rfl) ?_
              refine pu (v := .sc _) rfl rfl (fun _ => rfl) ?_
              refine bs (α := Int) 57 true ([w6 ((w6 (s11.2 * w)) + s15.2)] : List Int) rfl rfl ti22 rfl ti3 rfl rfl rfl rfl rfl ?_
              obtain ⟨h19, hR⟩ := chkE hR
              refine ap' (α := Int) (nw := true) (xs := s15.1) (ys := ([w6 ((w6 (s11.2 * w)) + s15.2)] : List Int)) rfl rfl rfl rfl (srcS' rfl rfl rfl) ti22 rfl ti3 rfl h19 rfl ?_
              refine pu (v := slV Int _ _ _ _) rfl rfl (fun _ => rfl) ?_
              refine RunC.blk ?_
              refine RunC.fin ?_
              refine AWP.rgC 81 rfl rfl ?_
              refine pu (v := .sc _) rfl rfl (fun _ => rfl) ?_
              refine pu (v := .sc _) rfl rfl (fun _ => rfl) ?_
              refine pu (v := .sc _) rfl rfl (fun _ => rfl) ?_
              refine RunC.fin ?_
              refine ⟨(s15.1 ++ ([w6 ((w6 (s11.2 * w)) + s15.2)] : List Int), w6 (s15.2 + 1)), (Option.some.inj hR).symm, ?_⟩
              exact Weak.turnL [(0, 0)] [] rfl rfl (tc (.sc _) (tc (.sc _) (tc (.sc _) (tc (trS' rfl rfl rfl rfl rfl) (tc (.sc _) (tc (.sc _) (tc (.sc _) (tc (.sc _) tn)))))))) (mc rfl (btrA' rfl) mn)
            · refine AWP.exit ?_
              refine exT ?_
              refine exT ?_
              refine exH (skT ?_)
              refine ⟨s15.1, (Option.some.inj hR).symm, ?_⟩
              exact Weak.turnL [(0, 0)] [] rfl rfl (tc (.sc _) (tc (.sc _) (tc (.sc _) (tc (trS' rfl rfl rfl rfl rfl) (tc (.sc _) (tc (.sc _) (tc (.sc _) tn))))))) (mc rfl (btrA' rfl) mn)
          · refine skB ?_
            refine skT ?_
            refine AWP.rgC 13 rfl rfl ?_
            refine pu (v := .sc _) rfl rfl (fun _ => rfl) ?_
            refine pu (v := .sc _) rfl rfl (fun _ => rfl) ?_
            refine pu (v := .sc _) rfl rfl (fun _ => rfl) ?_
            refine RunC.fin ?_
            refine ⟨(z16, w6 (s11.2 + 1)), (Option.some.inj hR).symm, ?_⟩
            exact Weak.turnL [(0, 0)] [] rfl rfl (tc (.sc _) (tc (.sc _) (tc (.sc _) (tc (trS' rfl rfl rfl rfl rfl) (tc (.sc _) (tc (.sc _) (tc (.sc _) tn))))))) (mc rfl (btrA' rfl) mn)
        · refine AWP.exit ?_
          refine exT ?_
          refine exT ?_
          refine exH (skT ?_)
          refine ⟨s11.1, (Option.some.inj hR).symm, ?_⟩
          exact Weak.turnL [(0, 0)] [] rfl rfl (tc (trS' rfl rfl rfl rfl rfl) tn) (mc rfl (btrA' rfl) mn)
      · refine skT ?_
        refine AWP.sq ?_
        refine AWP.rgC 9 rfl rfl ?_
        refine pu (v := slV Int _ _ _ _) rfl rfl (fun _ => rfl) ?_
        refine pu (v := slV Int _ _ _ _) rfl rfl (fun _ => rfl) ?_
        refine RunC.fin ?_
        refine AWP.ret ?_
        have hR := Option.some.inj hR; subst hR
        exact hQ _ _ (LS.mk [(8, rowV (α := Int) true z12)] (lblks 0 []) 0) (rowV (α := Int) true z12) [] (.inr rfl) (Weak.turnL [] [0] rfl rfl (tc (trF' rfl rfl id rfl) tn) mn) (ro1 (rvT (v := rowV (α := Int) true z12) rfl)) rfl rfl ldR' pn
theorem ok17 (at_ : List Int) (v : List Bound) (r : Bound × Int) (hR : measure_Mean at_ v = some r) : FnP Try.prog 17 [rowV false at_, rowV false v] (.tup [aggV (α := Bound) true r.1, .sc (.int .i64 r.2)]) := by
  refine fnP_of (FnX.walk Try.func17 rfl 100 0 (by simp [Try.ntmps17]) rfl fun W S F Q hQ => ?_)
  unfold measure_Mean at hR
  refine AWP.sq ?_
  refine AWP.rgC 8 rfl rfl ?_
  refine al (cs := [.sc (.int .i64 0), .sc (.int .i64 0), .sc (.bool false)]) 0 rfl rfl ti42 rfl rfl ?_
  refine pu (v := .sc _) rfl rfl (fun _ => rfl) ?_
  refine RunC.fin ?_
  refine AWP.sq ?_
  refine AWP.sq ?_
  refine AWP.rgC 28 rfl rfl ?_
  refine pu (v := rowV _ at_) rfl rfl (fun _ => rfl) ?_
  refine lenL (α := Int) rfl rfl ti62 rfl ?_
  refine pu (v := rowV _ v) rfl rfl (fun _ => rfl) ?_
  refine lenL (α := Bound) rfl rfl ti31 rfl ?_
  refine pu (v := .sc _) rfl rfl (fun _ => rfl) ?_
  refine RunC.fin ?_
  refine AWP.cd hR rfl (fun h1 hR => ?_) fun h1 hR => ?_
  · refine AWP.sq ?_
    refine AWP.rgC 40 rfl rfl ?_
    refine bu (cs := [.sc (.int .i64 0), .sc (.int .i64 0), .sc (.bool false)]) rfl bt42 rfl ?_
    refine stB (cs' := [.sc (.int .i64 0), .sc (.int .i64 0), .sc (.bool false)]) rfl rfl rfl rfl ti42 rfl rfl rfl rfl rfl ?_
    refine pu (v := .sc _) rfl rfl (fun _ => rfl) ?_
    refine RunC.fin ?_
    refine AWP.ret ?_
    refine rtT ?_
    have hR := Option.some.inj hR; subst hR
    exact hQ _ _ (LS.mk [(4, .ptr 0 0 0), (5, .sc (.int .i64 3))] (lblks 0 [boxB (α := Bound) true (Bound.mk 0 0 false)]) 1) (.tup [aggV (α := Bound) true (Bound.mk 0 0 false), .sc (.int .i64 3)]) [] (.inr rfl) (Weak.turnL [(0, 0)] [] rfl rfl (tc (trP' rfl rfl rfl rfl) (tc (.sc _) tn)) (mc rfl (.box rfl (.cons (.sc _) (.cons (.sc _) (.cons (.sc _) (.nil)))) rfl) mn)) (ro2 (rvC (v := aggV (α := Bound) true (Bound.mk 0 0 false)) rfl rfl ti42 rfl) (rvT (v := .sc (.int .i64 3)) rfl)) rfl rfl (.tup (.cons ldA (.cons (.sc _) .nil))) pn
  · refine AWP.skip ?_
    refine skT ?_
    refine AWP.sq ?_
    refine AWP.sq ?_
    refine AWP.rgC 40 rfl rfl ?_
    refine pu (v := rowV _ at_) rfl rfl (fun _ => rfl) ?_
    refine lenL (α := Int) rfl rfl ti62 rfl ?_
    refine pu (v := .sc _) rfl rfl (fun _ => rfl) ?_
    refine RunC.fin ?_
    refine AWP.cd hR rfl (fun h2 hR => ?_) fun h2 hR => ?_
    · refine AWP.sq ?_
      refine AWP.rgC 52 rfl rfl ?_
      refine bu (cs := [.sc (.int .i64 0), .sc (.int .i64 0), .sc (.bool false)]) rfl bt42 rfl ?_
      refine stB (cs' := [.sc (.int .i64 0), .sc (.int .i64 0), .sc (.bool false)]) rfl rfl rfl rfl ti42 rfl rfl rfl rfl rfl ?_
      refine pu (v := .sc _) rfl rfl (fun _ => rfl) ?_
      refine RunC.fin ?_
      refine AWP.ret ?_
      refine rtT ?_
      have hR := Option.some.inj hR; subst hR
      exact hQ _ _ (LS.mk [(4, .ptr 0 0 0), (5, .sc (.int .i64 2))] (lblks 0 [boxB (α := Bound) true (Bound.mk 0 0 false)]) 1) (.tup [aggV (α := Bound) true (Bound.mk 0 0 false), .sc (.int .i64 2)]) [] (.inr rfl) (Weak.turnL [(0, 0)] [] rfl rfl (tc (trP' rfl rfl rfl rfl) (tc (.sc _) tn)) (mc rfl (.box rfl (.cons (.sc _) (.cons (.sc _) (.cons (.sc _) (.nil)))) rfl) mn)) (ro2 (rvC (v := aggV (α := Bound) true (Bound.mk 0 0 false)) rfl rfl ti42 rfl) (rvT (v := .sc (.int .i64 2)) rfl)) rfl rfl (.tup (.cons ldA (.cons (.sc _) .nil))) pn
    · refine AWP.skip ?_
      refine skT ?_
      refine AWP.sq ?_
      refine AWP.rgC 48 rfl rfl ?_
      refine pu (v := .sc _) rfl rfl (fun _ => rfl) ?_
      refine pu (v := .sc _) rfl rfl (fun _ => rfl) ?_
      refine RunC.fin ?_
      refine AWP.sq ?_
      refine AWP.sq ?_
      refine AWP.rgC 60 rfl rfl ?_
      refine pu (v := rowV _ v) rfl rfl (fun _ => rfl) ?_
      refine lenL (α := Bound) rfl rfl ti31 rfl ?_
      refine pu (v := .sc _) rfl rfl (fun _ => rfl) ?_
      refine RunC.fin ?_
      refine AWP.loopK' (fun s3 : Bool × Bool × Int => LS.mk [(0, rowV (α := Int) false at_), (1, rowV (α := Bound) false v), (4, .ptr 0 0 0), (6, .sc (.bool s3.1)), (7, .sc (.bool s3.2.1)), (24, rowV (α := Bound) false v), (25, .sc (.int .i64 (v.length : Int))), (26, .sc (.int .i64 s3.2.2))] (lblks 0 [boxB (α := Bound) true (Bound.mk 0 0 false)]) 1) (fun z4 : Bool × Bool => LS.mk [(0, rowV (α := Int) false at_), (1, rowV (α := Bound) false v), (4, .ptr 0 0 0), (6, .sc (.bool z4.1)), (7, .sc (.bool z4.2))] (lblks 0 [boxB (α := Bound) true (Bound.mk 0 0 false)]) 1) (measure_Mean.l1 at_ v) hR (s0 := (false, true, 0)) (Weak.turnL [(0, 0)] [] rfl rfl (tc trR1 (tc trR1 (tc (trP' rfl rfl rfl rfl) (tc (.sc _) (tc (.sc _) (tc trR1 (tc (.sc _) (tc (.sc _) tn)))))))) (mc rfl (.box rfl (.cons (.sc _) (.cons (.sc _) (.cons (.sc _) (.nil)))) rfl) mn)) (fun s3 o3 hR hE3 => ?_) fun z4 hR => ?_
      · unfold measure_Mean.l1 at hR
        refine AWP.sq ?_
        refine AWP.rgC 5 rfl rfl ?_
        refine pu (v := .sc _) rfl rfl (fun _ => rfl) ?_
        refine RunC.fin ?_
        refine AWP.sq ?_
        refine AWP.cd hR rfl (fun h5 hR => ?_) fun h5 hR => ?_
        · refine AWP.skip ?_
          refine skT ?_
          refine AWP.sq ?_
          refine AWP.block ?_
          refine AWP.sq ?_
          refine AWP.rgC 29 rfl rfl ?_
          refine pu (v := .sc _) rfl rfl (fun _ => rfl) ?_
          obtain ⟨h6, hR⟩ := chkE hR
          refine ixL (α := Bound) rfl rfl rfl ti31 rfl ti36 rfl h6 ?_
          refine ldR (v := .agg _) rfl rfl ti36 rfl ?_
          refine al (cs := [.sc (.int .i64 0), .sc (.int .i64 0), .sc (.bool false)]) 17 rfl rfl ti36 rfl rfl ?_
          refine pu (v := .sc _) rfl rfl (fun _ => rfl) ?_
          refine stB (cs' := [.sc (.int .i64 (gt v s3.2.2).Lo), .sc (.int .i64 (gt v s3.2.2).Hi), .sc (.bool (gt v s3.2.2).Unknown)]) rfl rfl rfl rfl ti36 rfl rfl rfl rfl rfl ?_
          refine RunC.fin ?_
          refine AWP.sq ?_
          refine AWP.sq ?_
          refine AWP.rgC 41 rfl rfl ?_
          refine ldB (v := .agg _) rfl rfl rfl rfl ti36 rfl rfl ?_
          obtain ⟨r7, hr7, hR⟩ := bindE hR
          refine cls [] rfl rfl cb32 (ok32 (gt v s3.2.2) _ hr7) (.cons (.agg (.cons (.sc _) (.cons (.sc _) (.cons (.sc _) (.nil)))) rfl) (.nil)) (.inr rfl) rfl ?_
          refine pu (v := .sc _) rfl rfl (fun _ => rfl) ?_
          refine RunC.fin ?_
          refine AWP.sq ?_
          refine AWP.rgC 49 rfl rfl ?_
          refine pu (v := .sc _) rfl rfl (fun _ => rfl) ?_
          refine pu (v := .sc _) rfl rfl (fun _ => rfl) ?_
          refine RunC.fin ?_
          refine AWP.cd hR rfl (fun h8 hR => ?_) fun h8 hR => ?_
          · refine AWP.sq ?_
            refine AWP.rgC 65 rfl rfl ?_
            refine bu (cs := [.sc (.int .i64 0), .sc (.int .i64 0), .sc (.bool false)]) rfl bt42 rfl ?_
            refine pu (v := .sc _) rfl rfl (fun _ => rfl) ?_
            refine stB (cs' := [.sc (.int .i64 0), .sc (.int .i64 0), .sc (.bool false)]) rfl rfl rfl rfl ti42 rfl rfl rfl rfl rfl ?_
            refine pu (v := .sc _) rfl rfl (fun _ => rfl) ?_
            refine RunC.fin ?_
            refine AWP.ret ?_
            refine rtT ?_
            refine rtB ?_
            refine rtT ?_
            refine rtT ?_
            refine rtB (rtT ?_)
            replace hR := escL hR hE3
            refine rtT ?_
            have hR := Option.some.inj hR; subst hR
            exact hQ _ _ (LS.mk [(4, .ptr 0 0 0), (5, .sc (.int .i64 r7))] (lblks 0 [boxB (α := Bound) true (Bound.mk 0 0 false)]) 1) (.tup [aggV (α := Bound) true (Bound.mk 0 0 false), .sc (.int .i64 r7)]) [] (.inr rfl) (Weak.turnL [(0, 0)] [] rfl rfl (tc (trP' rfl rfl rfl rfl) (tc (.sc _) tn)) (mc rfl (.box rfl (.cons (.sc _) (.cons (.sc _) (.cons (.sc _) (.nil)))) rfl) mn)) (ro2 (rvC (v := aggV (α := Bound) true (Bound.mk 0 0 false)) rfl rfl ti42 rfl) (rvT (v := .sc (.int .i64 r7)) rfl)) rfl rfl (.tup (.cons ldA (.cons (.sc _) .nil))) pn
          · refine AWP.skip ?_
            refine skT ?_
            refine AWP.sq ?_
            refine AWP.joinX (fun z9 : Bool => LS.mk [(0, rowV (α := Int) false at_), (1, rowV (α := Bound) false v), (4, .ptr 0 0 0), (6, .sc (.bool s3.1)), (7, .sc (.bool s3.2.1)), (9, .ptr 1 0 0), (24, rowV (α := Bound) false v), (25, .sc (.int .i64 (v.length : Int))), (26, .sc (.int .i64 s3.2.2)), (58, .sc (.bool z9))] (lblks 0 [boxB (α := Bound) true (Bound.mk 0 0 false), boxB (α := Bound) true (gt v s3.2.2)]) 2) hR (fun o9 hR => ?_) fun z9 hR => ?_
            · refine AWP.rgC 137 rfl rfl ?_
              refine fa rfl rfl ti36 rfl rfl ti28 rfl ?_
              refine ldB (v := .sc _) rfl rfl rfl rfl ti28 rfl rfl ?_
              refine pu (v := .sc _) rfl rfl (fun _ => rfl) ?_
              refine pu (v := .sc _) rfl rfl (fun _ => rfl) ?_
              refine brR hR (fun h10 hR => ?_) fun h10 hR => ?_
              · refine sk (skW rfl rfl rfl h10) ?_
                refine sk (skW rfl rfl rfl h10) ?_
                refine sk (skW rfl rfl rfl h10) ?_
                refine pkT (v := .sc (.bool true)) rfl rfl h10 rfl ?_
                refine pu (v := .sc _) rfl rfl (fun _ => rfl) ?_
                refine sk (skW rfl rfl rfl rfl) ?_
                refine sk (skW rfl rfl rfl rfl) ?_
                refine sk (skW rfl rfl rfl rfl) ?_
                refine sk (skW rfl rfl rfl rfl) ?_
                refine sk (skW rfl rfl rfl rfl) ?_
                refine pkT (v := .sc (.bool true)) rfl rfl rfl rfl ?_
                refine pu (v := .sc _) rfl rfl (fun _ => rfl) ?_
                refine sk (skW rfl rfl rfl rfl) ?_
                refine sk (skW rfl rfl rfl rfl) ?_
                refine sk (skW rfl rfl rfl rfl) ?_
                refine sk (skW rfl rfl rfl rfl) ?_
                refine sk (skW rfl rfl rfl rfl) ?_
                refine pkT (v := .sc (.bool true)) rfl rfl rfl rfl ?_
                refine RunC.fin ?_
                have hR := Option.some.inj hR; subst hR
                exact Weak.turnL [(0, 0), (17, 0)] [] rfl rfl (tc trR1 (tc trR1 (tc (trP' rfl rfl rfl rfl) (tc (.sc _) (tc (.sc _) (tc (trP' rfl rfl rfl rfl) (tc trR1 (tc (.sc _) (tc (.sc _) (tc (.sc _) tn)))))))))) (mc rfl (.box rfl (.cons (.sc _) (.cons (.sc _) (.cons (.sc _) (.nil)))) rfl) (mc rfl (.box rfl (.cons (.sc _) (.cons (.sc _) (.cons (.sc _) (.nil)))) rfl) mn))
              · refine fa (wtG rfl rfl rfl h10) rfl ti36 rfl rfl ti28 rfl ?_
                refine ldB (v := .sc _) (wtG rfl rfl rfl h10) rfl rfl rfl ti28 rfl rfl ?_
                refine pu (v := .sc _) (wtG rfl rfl rfl h10) rfl (fun _ => rfl) ?_
                refine pkF (v := .sc (.bool (decide ((gt v s3.2.2).Hi > 2199023255552)))) rfl rfl h10 rfl ?_
                refine pu (v := .sc _) rfl rfl (fun _ => rfl) ?_
                refine brR hR (fun h11 hR => ?_) fun h11 hR => ?_
                · refine sk (skW rfl rfl rfl h11) ?_
                  refine sk (skW rfl rfl rfl h11) ?_
                  refine sk (skW rfl rfl rfl h11) ?_
                  refine sk (skW rfl rfl rfl h11) ?_
                  refine sk (skW rfl rfl rfl h11) ?_
                  refine pkT (v := .sc (.bool true)) rfl rfl h11 rfl ?_
                  refine pu (v := .sc _) rfl rfl (fun _ => rfl) ?_
                  refine sk (skW rfl rfl rfl rfl) ?_
                  refine sk (skW rfl rfl rfl rfl) ?_
                  refine sk (skW rfl rfl rfl rfl) ?_
                  refine sk (skW rfl rfl rfl rfl) ?_
                  refine sk (skW rfl rfl rfl rfl) ?_
                  refine pkT (v := .sc (.bool true)) rfl rfl rfl rfl ?_
                  refine RunC.fin ?_
                  have hR := Option.some.inj hR; subst hR
                  exact Weak.turnL [(0, 0), (17, 0)] [] rfl rfl (tc trR1 (tc trR1 (tc (trP' rfl rfl rfl rfl) (tc (.sc _) (tc (.sc _) (tc (trP' rfl rfl rfl rfl) (tc trR1 (tc (.sc _) (tc (.sc _) (tc (.sc _) tn)))))))))) (mc rfl (.box rfl (.cons (.sc _) (.cons (.sc _) (.cons (.sc _) (.nil)))) rfl) (mc rfl (.box rfl (.cons (.sc _) (.cons (.sc _) (.cons (.sc _) (.nil)))) rfl) mn))
                · refine pu (v := rowV _ at_) (wtG rfl rfl rfl h11) rfl (fun _ => rfl) ?_
                  refine pu (v := .sc _) (wtG rfl rfl rfl h11) rfl (fun _ => rfl) ?_
                  obtain ⟨h12, hR⟩ := chkE hR
                  refine ixL (α := Int) (wtG rfl rfl rfl h11) rfl rfl ti62 rfl ti40 rfl h12 ?_
                  refine ldR (v := .sc _) (wtG rfl rfl rfl h11) rfl ti40 rfl ?_
                  refine pu (v := .sc _) (wtG rfl rfl rfl h11) rfl (fun _ => rfl) ?_
                  refine pkF (v := .sc (.bool (decide ((gt at_ s3.2.2) < 0)))) rfl rfl h11 rfl ?_
                  refine pu (v := .sc _) rfl rfl (fun _ => rfl) ?_
                  refine brR hR (fun h13 hR => ?_) fun h13 hR => ?_
                  · refine sk (skW rfl rfl rfl h13) ?_
                    refine sk (skW rfl rfl rfl h13) ?_
                    refine sk (skW rfl rfl rfl h13) ?_
                    refine sk (skW rfl rfl rfl h13) ?_
                    refine sk (skW rfl rfl rfl h13) ?_
                    refine pkT (v := .sc (.bool true)) rfl rfl h13 rfl ?_
                    refine RunC.fin ?_
                    have hR := Option.some.inj hR; subst hR
                    exact Weak.turnL [(0, 0), (17, 0)] [] rfl rfl (tc trR1 (tc trR1 (tc (trP' rfl rfl rfl rfl) (tc (.sc _) (tc (.sc _) (tc (trP' rfl rfl rfl rfl) (tc trR1 (tc (.sc _) (tc (.sc _) (tc (.sc _) tn)))))))))) (mc rfl (.box rfl (.cons (.sc _) (.cons (.sc _) (.cons (.sc _) (.nil)))) rfl) (mc rfl (.box rfl (.cons (.sc _) (.cons (.sc _) (.cons (.sc _) (.nil)))) rfl) mn))
                  · refine pu (v := rowV _ at_) (wtG rfl rfl rfl h13) rfl (fun _ => rfl) ?_
                    refine pu (v := .sc _) (wtG rfl rfl rfl h13) rfl (fun _ => rfl) ?_
                    refine ixL (α := Int) (wtG rfl rfl rfl h13) rfl rfl ti62 rfl ti40 rfl h12 ?_
                    refine ldR (v := .sc _) (wtG rfl rfl rfl h13) rfl ti40 rfl ?_
                    refine pu (v := .sc _) (wtG rfl rfl rfl h13) rfl (fun _ => rfl) ?_
                    refine pkF (v := .sc (.bool (decide ((gt at_ s3.2.2) ≥ 8192)))) rfl rfl h13 rfl ?_
                    refine RunC.fin ?_
                    have hR := Option.some.inj hR; subst hR
                    exact Weak.turnL [(0, 0), (17, 0)] [] rfl rfl (tc trR1 (tc trR1 (tc (trP' rfl rfl rfl rfl) (tc (.sc _) (tc (.sc _) (tc (trP' rfl rfl rfl rfl) (tc trR1 (tc (.sc _) (tc (.sc _) (tc (.sc _) tn)))))))))) (mc rfl (.box rfl (.cons (.sc _) (.cons (.sc _) (.cons (.sc _) (.nil)))) rfl) (mc rfl (.box rfl (.cons (.sc _) (.cons (.sc _) (.cons (.sc _) (.nil)))) rfl) mn))
            · refine AWP.cd hR rfl (fun h14 hR => ?_) fun h14 hR => ?_
              · refine AWP.sq ?_
                refine AWP.rgC 14 rfl rfl ?_
                refine bu (cs := [.sc (.int .i64 0), .sc (.int .i64 0), .sc (.bool false)]) rfl bt42 rfl ?_
                refine stB (cs' := [.sc (.int .i64 0), .sc (.int .i64 0), .sc (.bool false)]) rfl rfl rfl rfl ti42 rfl rfl rfl rfl rfl ?_
                refine pu (v := .sc _) rfl rfl (fun _ => rfl) ?_
                refine RunC.fin ?_
                refine AWP.ret ?_
                refine rtT ?_
                refine rtB ?_
                refine rtT ?_
                refine rtT ?_
                refine rtB (rtT ?_)
                replace hR := escL hR hE3
                refine rtT ?_
                have hR := Option.some.inj hR; subst hR
                exact hQ _ _ (LS.mk [(4, .ptr 0 0 0), (5, .sc (.int .i64 4))] (lblks 0 [boxB (α := Bound) true (Bound.mk 0 0 false)]) 1) (.tup [aggV (α := Bound) true (Bound.mk 0 0 false), .sc (.int .i64 4)]) [] (.inr rfl) (Weak.turnL [(0, 0)] [] rfl rfl (tc (trP' rfl rfl rfl rfl) (tc (.sc _) tn)) (mc rfl (.box rfl (.cons (.sc _) (.cons (.sc _) (.cons (.sc _) (.nil)))) rfl) mn)) (ro2 (rvC (v := aggV (α := Bound) true (Bound.mk 0 0 false)) rfl rfl ti42 rfl) (rvT (v := .sc (.int .i64 4)) rfl)) rfl rfl (.tup (.cons ldA (.cons (.sc _) .nil))) pn
              · refine AWP.skip ?_
                refine skT ?_
                refine AWP.rgD 58 [0, 1, 3, 7, 15, 31, 0, 67, 195, 451, 963, 1987, 255, 8191] ⟨[], [none, none, none, some [1], none, none, none, none, none, some [1], none, none, none, none]⟩ hmix (by kernel_rfl) rfl rfl ?_
                refine pu (v := .sc _) rfl rfl (fun _ => rfl) ?_
                refine pu (v := .sc _) rfl rfl (fun _ => rfl) ?_
                refine brR hR (fun h15 hR => ?_) fun h15 hR => ?_
                · refine sk (skW rfl rfl rfl h15) ?_
                  refine sk (skW rfl rfl rfl h15) ?_
                  refine sk (skW rfl rfl rfl h15) ?_
                  refine pkT (v := .sc (.bool true)) rfl rfl h15 rfl ?_
                  refine pu (v := .sc _) rfl rfl (fun _ => rfl) ?_
                  refine pu (v := .sc _) rfl rfl (fun _ => rfl) ?_
                  refine brR hR (fun h16 hR => ?_) fun h16 hR => ?_
                  · refine fa (wtG rfl rfl rfl h16) rfl ti36 rfl rfl ti4 rfl ?_
                    refine ldB (v := .sc _) (wtG rfl rfl rfl h16) rfl rfl rfl ti4 rfl rfl ?_
                    refine pu (v := .sc _) (wtG rfl rfl rfl h16) rfl (fun _ => rfl) ?_
                    refine pkT (v := .sc (.bool (!(gt v s3.2.2).Unknown))) rfl rfl h16 rfl ?_
                    refine pu (v := .sc _) rfl rfl (fun _ => rfl) ?_
                    refine pu (v := .sc _) rfl rfl (fun _ => rfl) ?_
                    refine RunC.blk ?_
                    refine RunC.fin ?_
                    refine AWP.rgC 66 rfl rfl ?_
                    refine pu (v := .sc _) rfl rfl (fun _ => rfl) ?_
                    refine pu (v := .sc _) rfl rfl (fun _ => rfl) ?_
                    refine RunC.fin ?_
                    refine ⟨(true, !(gt v s3.2.2).Unknown, w6 (s3.2.2 + 1)), (Option.some.inj hR).symm, ?_⟩
                    exact Weak.turnL [(0, 0)] [] rfl rfl (tc trR1 (tc trR1 (tc (trP' rfl rfl rfl rfl) (tc (.sc _) (tc (.sc _) (tc trR1 (tc (.sc _) (tc (.sc _) tn)))))))) (mc rfl (.box rfl (.cons (.sc _) (.cons (.sc _) (.cons (.sc _) (.nil)))) rfl) mn)
                  · refine sk (skW rfl rfl rfl h16) ?_
                    refine sk (skW rfl rfl rfl h16) ?_
                    refine sk (skW rfl rfl rfl h16) ?_
                    refine pkF (v := .sc (.bool false)) rfl rfl h16 rfl ?_
                    refine pu (v := .sc _) rfl rfl (fun _ => rfl) ?_
                    refine pu (v := .sc _) rfl rfl (fun _ => rfl) ?_
                    refine RunC.blk ?_
                    refine RunC.fin ?_
                    refine AWP.rgC 66 rfl rfl ?_
                    refine pu (v := .sc _) rfl rfl (fun _ => rfl) ?_
                    refine pu (v := .sc _) rfl rfl (fun _ => rfl) ?_
                    refine RunC.fin ?_
                    refine ⟨(true, false, w6 (s3.2.2 + 1)), (Option.some.inj hR).symm, ?_⟩
                    exact Weak.turnL [(0, 0)] [] rfl rfl (tc trR1 (tc trR1 (tc (trP' rfl rfl rfl rfl) (tc (.sc _) (tc (.sc _) (tc trR1 (tc (.sc _) (tc (.sc _) tn)))))))) (mc rfl (.box rfl (.cons (.sc _) (.cons (.sc _) (.cons (.sc _) (.nil)))) rfl) mn)
                · refine fa (wtG rfl rfl rfl h15) rfl ti36 rfl rfl ti28 rfl ?_
                  refine ldB (v := .sc _) (wtG rfl rfl rfl h15) rfl rfl rfl ti28 rfl rfl ?_
                  refine pu (v := .sc _) (wtG rfl rfl rfl h15) rfl (fun _ => rfl) ?_
                  refine pkF (v := .sc (.bool (decide ((gt v s3.2.2).Lo > 0)))) rfl rfl h15 rfl ?_
                  refine pu (v := .sc _) rfl rfl (fun _ => rfl) ?_
                  refine pu (v := .sc _) rfl rfl (fun _ => rfl) ?_
                  refine brR hR (fun h17 hR => ?_) fun h17 hR => ?_
                  · refine fa (wtG rfl rfl rfl h17) rfl ti36 rfl rfl ti4 rfl ?_
                    refine ldB (v := .sc _) (wtG rfl rfl rfl h17) rfl rfl rfl ti4 rfl rfl ?_
                    refine pu (v := .sc _) (wtG rfl rfl rfl h17) rfl (fun _ => rfl) ?_
                    refine pkT (v := .sc (.bool (!(gt v s3.2.2).Unknown))) rfl rfl h17 rfl ?_
                    refine pu (v := .sc _) rfl rfl (fun _ => rfl) ?_
                    refine pu (v := .sc _) rfl rfl (fun _ => rfl) ?_
                    refine RunC.blk ?_
                    refine RunC.fin ?_
                    refine AWP.rgC 66 rfl rfl ?_
                    refine pu (v := .sc _) rfl rfl (fun _ => rfl) ?_
                    refine pu (v := .sc _) rfl rfl (fun _ => rfl) ?_
                    refine RunC.fin ?_
                    refine ⟨(decide ((gt v s3.2.2).Lo > 0), !(gt v s3.2.2).Unknown, w6 (s3.2.2 + 1)), (Option.some.inj hR).symm, ?_⟩
                    exact Weak.turnL [(0, 0)] [] rfl rfl (tc trR1 (tc trR1 (tc (trP' rfl rfl rfl rfl) (tc (.sc _) (tc (.sc _) (tc trR1 (tc (.sc _) (tc (.sc _) tn)))))))) (mc rfl (.box rfl (.cons (.sc _) (.cons (.sc _) (.cons (.sc _) (.nil)))) rfl) mn)
                  · refine sk (skW rfl rfl rfl h17) ?_
                    refine sk (skW rfl rfl rfl h17) ?_
                    refine sk (skW rfl rfl rfl h17) ?_
                    refine pkF (v := .sc (.bool false)) rfl rfl h17 rfl ?_
                    refine pu (v := .sc _) rfl rfl (fun _ => rfl) ?_
                    refine pu (v := .sc _) rfl rfl (fun _ => rfl) ?_
                    refine RunC.blk ?_
                    refine RunC.fin ?_
                    refine AWP.rgC 66 rfl rfl ?_
                    refine pu (v := .sc _) rfl rfl (fun _ => rfl) ?_
                    refine pu (v := .sc _) rfl rfl (fun _ => rfl) ?_
                    refine RunC.fin ?_
                    refine ⟨(decide ((gt v s3.2.2).Lo > 0), false, w6 (s3.2.2 + 1)), (Option.some.inj hR).symm, ?_⟩
                    exact Weak.turnL [(0, 0)] [] rfl rfl (tc trR1 (tc trR1 (tc (trP' rfl rfl rfl rfl) (tc (.sc _) (tc (.sc _) (tc trR1 (tc (.sc _) (tc (.sc _) tn)))))))) (mc rfl (.box rfl (.cons (.sc _) (.cons (.sc _) (.cons (.sc _) (.nil)))) rfl) mn)
        · refine AWP.exit ?_
          refine exT ?_
          refine exT ?_
          refine exH (skT ?_)
          refine ⟨(s3.1, s3.2.1), (Option.some.inj hR).symm, ?_⟩
          exact Weak.turnL [(0, 0)] [] rfl rfl (tc trR1 (tc trR1 (tc (trP' rfl rfl rfl rfl) (tc (.sc _) (tc (.sc _) tn))))) (mc rfl (.box rfl (.cons (.sc _) (.cons (.sc _) (.cons (.sc _) (.nil)))) rfl) mn)
      · refine skT ?_
        refine AWP.sq ?_
        refine AWP.joinX (fun z18 : Bool => LS.mk [(0, rowV (α := Int) false at_), (1, rowV (α := Bound) false v), (4, .ptr 0 0 0), (78, .sc (.bool z18))] (lblks 0 [boxB (α := Bound) true (Bound.mk 0 0 false)]) 1) hR (fun o18 hR => ?_) fun z18 hR => ?_
        · refine AWP.rgC 25 rfl rfl ?_
          refine pu (v := .sc _) rfl rfl (fun _ => rfl) ?_
          refine pu (v := .sc _) rfl rfl (fun _ => rfl) ?_
          refine pu (v := .sc _) rfl rfl (fun _ => rfl) ?_
          refine brR hR (fun h19 hR => ?_) fun h19 hR => ?_
          · refine sk (skW rfl rfl rfl h19) ?_
            refine sk (skW rfl rfl rfl h19) ?_
            refine pkT (v := .sc (.bool true)) rfl rfl h19 rfl ?_
            refine RunC.fin ?_
            have hR := Option.some.inj hR; subst hR
            exact Weak.turnL [(0, 0)] [] rfl rfl (tc trR1 (tc trR1 (tc (trP' rfl rfl rfl rfl) (tc (.sc _) tn)))) (mc rfl (.box rfl (.cons (.sc _) (.cons (.sc _) (.cons (.sc _) (.nil)))) rfl) mn)
          · refine pu (v := .sc _) (wtG rfl rfl rfl h19) rfl (fun _ => rfl) ?_
            refine pu (v := .sc _) (wtG rfl rfl rfl h19) rfl (fun _ => rfl) ?_
            refine pkF (v := .sc (.bool (!z4.2))) rfl rfl h19 rfl ?_
            refine RunC.fin ?_
            have hR := Option.some.inj hR; subst hR
            exact Weak.turnL [(0, 0)] [] rfl rfl (tc trR1 (tc trR1 (tc (trP' rfl rfl rfl rfl) (tc (.sc _) tn)))) (mc rfl (.box rfl (.cons (.sc _) (.cons (.sc _) (.cons (.sc _) (.nil)))) rfl) mn)
        · refine AWP.cd hR rfl (fun h20 hR => ?_) fun h20 hR => ?_
          · refine AWP.sq ?_
            refine AWP.rgC 13 rfl rfl ?_
            obtain ⟨r21, hr21, hR⟩ := bindE hR
            refine cls [] rfl rfl cb30 (ok30 _ hr21) (.nil) (.inr rfl) rfl ?_
            refine stB (cs' := [.sc (.int .i64 r21.Lo), .sc (.int .i64 r21.Hi), .sc (.bool r21.Unknown)]) rfl rfl rfl rfl ti42 rfl rfl rfl rfl rfl ?_
            refine pu (v := .sc _) rfl rfl (fun _ => rfl) ?_
            refine RunC.fin ?_
            refine AWP.ret ?_
            refine rtT ?_
            have hR := Option.some.inj hR; subst hR
            exact hQ _ _ (LS.mk [(4, .ptr 0 0 0), (5, .sc (.int .i64 0))] (lblks 0 [boxB (α := Bound) true r21]) 1) (.tup [aggV (α := Bound) true r21, .sc (.int .i64 0)]) [] (.inr rfl) (Weak.turnL [(0, 0)] [] rfl rfl (tc (trP' rfl rfl rfl rfl) (tc (.sc _) tn)) (mc rfl (.box rfl (.cons (.sc _) (.cons (.sc _) (.cons (.sc _) (.nil)))) rfl) mn)) (ro2 (rvC (v := aggV (α := Bound) true r21) rfl rfl ti42 rfl) (rvT (v := .sc (.int .i64 0)) rfl)) rfl rfl (.tup (.cons ldA (.cons (.sc _) .nil))) pn
          · refine AWP.skip ?_
            refine skT ?_
            refine AWP.sq ?_
            refine AWP.rgC 5 rfl rfl ?_
            refine pu (v := .sc _) rfl rfl (fun _ => rfl) ?_
            refine RunC.fin ?_
            refine AWP.sq ?_
            refine AWP.sq ?_
            refine AWP.rgC 17 rfl rfl ?_
            refine pu (v := rowV _ at_) rfl rfl (fun _ => rfl) ?_
            refine lenL (α := Int) rfl rfl ti62 rfl ?_
            refine pu (v := .sc _) rfl rfl (fun _ => rfl) ?_
            refine RunC.fin ?_
            refine AWP.nilT Int 11 40 rfl ?_
            refine AWP.loopJ (fun s22 : (List Int) × Int => LS.mk [(0, rowV (α := Int) false at_), (1, rowV (α := Bound) false v), (4, .ptr 0 0 0), (11, slV Int 1 0 0 s22.1.length), (80, rowV (α := Int) false at_), (81, .sc (.int .i64 (at_.length : Int))), (82, .sc (.int .i64 s22.2))] (lblks 0 [boxB (α := Bound) true (Bound.mk 0 0 false), arrB (α := Int) 40 0 true s22.1]) 2) (fun z23 : (List Int) => LS.mk [(0, rowV (α := Int) false at_), (1, rowV (α := Bound) false v), (4, .ptr 0 0 0), (11, slV Int 1 0 0 z23.length)] (lblks 0 [boxB (α := Bound) true (Bound.mk 0 0 false), arrB (α := Int) 40 0 true z23]) 2) (measure_Mean.l2 at_) hR (s0 := (([] : List Int), 0)) (Weak.turnL [(0, 0), (17, 0)] [] rfl rfl (tc trR1 (tc trR1 (tc (trP' rfl rfl rfl rfl) (tc (trS' rfl rfl rfl rfl rfl) (tc trR1 (tc (.sc _) (tc (.sc _) tn))))))) (mc rfl (.box rfl (.cons (.sc _) (.cons (.sc _) (.cons (.sc _) (.nil)))) rfl) (mc rfl (btrA' rfl) mn))) (fun s22 o22 hR => ?_) fun z23 hR => ?_
            · unfold measure_Mean.l2 at hR
              refine AWP.sq ?_
              refine AWP.rgC 6 rfl rfl ?_
              refine pu (v := .sc _) rfl rfl (fun _ => rfl) ?_
              refine RunC.fin ?_
              refine AWP.sq ?_
              refine AWP.cd hR rfl (fun h24 hR => ?_) fun h24 hR => ?_
              · refine AWP.skip ?_
                refine skT ?_
                refine AWP.sq ?_
                refine AWP.block ?_
                refine AWP.sq ?_
                refine AWP.rgC 18 rfl rfl ?_
                obtain ⟨h25, hR⟩ := chkE hR
                refine ixL (α := Int) rfl rfl rfl ti62 rfl ti40 rfl h25 ?_
                refine ldR (v := .sc _) rfl rfl ti40 rfl ?_
                refine pu (v := .sc _) rfl rfl (fun _ => rfl) ?_
                refine RunC.fin ?_
                refine AWP.rgC 42 rfl rfl ?_
                refine pu (v := slV Int _ _ _ _) rfl rfl (fun _ => rfl) ?_
                refine pu (v := .sc _) rfl rfl (fun _ => rfl) ?_
                refine pu (v := .sc _) rfl rfl (fun _ => rfl) ?_
                refine bs (α := Int) 30 true ([w6 (0 - (gt at_ s22.2))] : List Int) rfl rfl ti62 rfl ti40 rfl rfl rfl rfl rfl ?_
                obtain ⟨h26, hR⟩ := chkE hR
                refine ap' (α := Int) (nw := true) (xs := s22.1) (ys := ([w6 (0 - (gt at_ s22.2))] : List Int)) rfl rfl rfl rfl (srcS' rfl rfl rfl) ti62 rfl ti40 rfl h26 rfl ?_
                refine pu (v := slV Int _ _ _ _) rfl rfl (fun _ => rfl) ?_
                refine RunC.blk ?_
                refine RunC.fin ?_
                refine AWP.rgC 50 rfl rfl ?_
                refine pu (v := .sc _) rfl rfl (fun _ => rfl) ?_
                refine pu (v := .sc _) rfl rfl (fun _ => rfl) ?_
                refine RunC.fin ?_
                refine ⟨(s22.1 ++ ([w6 (0 - (gt at_ s22.2))] : List Int), w6 (s22.2 + 1)), (Option.some.inj hR).symm, ?_⟩
                exact Weak.turnL [(0, 0), (1, 0)] [] rfl rfl (tc trR1 (tc trR1 (tc (trP' rfl rfl rfl rfl) (tc (trS' rfl rfl rfl rfl rfl) (tc trR1 (tc (.sc _) (tc (.sc _) tn))))))) (mc rfl (.box rfl (.cons (.sc _) (.cons (.sc _) (.cons (.sc _) (.nil)))) rfl) (mc rfl (btrA' rfl) mn))
              · refine AWP.exit ?_
                refine exT ?_
                refine exT ?_
                refine exH (skT ?_)
                refine ⟨s22.1, (Option.some.inj hR).symm, ?_⟩
                exact Weak.turnL [(0, 0), (1, 0)] [] rfl rfl (tc trR1 (tc trR1 (tc (trP' rfl rfl rfl rfl) (tc (trS' rfl rfl rfl rfl rfl) tn)))) (mc rfl (.box rfl (.cons (.sc _) (.cons (.sc _) (.cons (.sc _) (.nil)))) rfl) (mc rfl (btrA' rfl) mn))
            · refine skT ?_
              refine AWP.sq ?_
              refine AWP.rgC 42 rfl rfl ?_
              refine pu (v := slV Int _ _ _ _) rfl rfl (fun _ => rfl) ?_
              refine pu (v := rowV _ v) rfl rfl (fun _ => rfl) ?_
              obtain ⟨r27, hr27, hR⟩ := bindE hR
              refine cls [1] rfl rfl cb33 (ok33 z23 v _ hr27) (.cons (ldS' rfl rfl rfl rfl) (.cons ldR' (.nil))) (.inl (by first | rfl | exact freshR | exact freshA | (simp only [V.fresh, V.freshs, freshR, freshA, Bool.and_self]))) rfl ?_
              refine pu (v := .sc _) rfl rfl (fun _ => rfl) ?_
              refine pu (v := rowV _ at_) rfl rfl (fun _ => rfl) ?_
              refine pu (v := rowV _ v) rfl rfl (fun _ => rfl) ?_
              obtain ⟨r28, hr28, hR⟩ := bindE hR
              refine cls [] rfl rfl cb33 (ok33 at_ v _ hr28) (.cons ldR' (.cons ldR' (.nil))) (.inr rfl) rfl ?_
              refine bu (cs := [.sc (.int .i64 (w6 (0 - r27))), .sc (.int .i64 r28), .sc (.bool false)]) rfl bt42 rfl ?_
              refine stB (cs' := [.sc (.int .i64 (w6 (0 - r27))), .sc (.int .i64 r28), .sc (.bool false)]) rfl rfl rfl rfl ti42 rfl rfl rfl rfl rfl ?_
              refine pu (v := .sc _) rfl rfl (fun _ => rfl) ?_
              refine RunC.fin ?_
              refine AWP.ret ?_
              have hR := Option.some.inj hR; subst hR
              exact hQ _ _ (LS.mk [(4, .ptr 0 0 0), (5, .sc (.int .i64 0))] (lblks 0 [boxB (α := Bound) true (Bound.mk (w6 (0 - r27)) r28 false)]) 1) (.tup [aggV (α := Bound) true (Bound.mk (w6 (0 - r27)) r28 false), .sc (.int .i64 0)]) [] (.inr rfl) (Weak.turnL [(0, 0)] [] rfl rfl (tc (trP' rfl rfl rfl rfl) (tc (.sc _) tn)) (mc rfl (.box rfl (.cons (.sc _) (.cons (.sc _) (.cons (.sc _) (.nil)))) rfl) mn)) (ro2 (rvC (v := aggV (α := Bound) true (Bound.mk (w6 (0 - r27)) r28 false)) rfl rfl ti42 rfl) (rvT (v := .sc (.int .i64 0)) rfl)) rfl rfl (.tup (.cons ldA (.cons (.sc _) .nil))) pn
theorem ok16 (r : Measured) (hR : measure_unknown = some r) : FnP Try.prog 16 [] (aggV (α := Measured) true r) := by
  refine fnP_of (FnX.walk Try.func16 rfl 5 0 (by simp [Try.ntmps16]) rfl fun W S F Q hQ => ?_)
  unfold measure_unknown at hR
  refine AWP.sq ?_
  refine AWP.rgC 4 rfl rfl ?_
  refine al (cs := [.sc (.int .i64 0), .sc (.int .i64 0), .sc (.bool false), .sc (.int .i64 0), .sc (.int .i64 0), .sc (.bool false), .sc (.int .i64 0), .sc (.int .i64 0), .sc (.bool false)]) 0 rfl rfl ti44 rfl rfl ?_
  refine RunC.fin ?_
  refine AWP.sq ?_
  refine AWP.rgC 24 rfl rfl ?_
  obtain ⟨r1, hr1, hR⟩ := bindE hR
  refine cls [] rfl rfl cb30 (ok30 _ hr1) (.nil) (.inr rfl) rfl ?_
  obtain ⟨r2, hr2, hR⟩ := bindE hR
  refine cls [] rfl rfl cb30 (ok30 _ hr2) (.nil) (.inr rfl) rfl ?_
  obtain ⟨r3, hr3, hR⟩ := bindE hR
  refine cls [] rfl rfl cb31 (ok31 _ hr3) (.nil) (.inr rfl) rfl ?_
  refine bu (cs := [.sc (.int .i64 r1.Lo), .sc (.int .i64 r1.Hi), .sc (.bool r1.Unknown), .sc (.int .i64 r2.Lo), .sc (.int .i64 r2.Hi), .sc (.bool r2.Unknown), .sc (.int .i64 r3.Lo), .sc (.int .i64 r3.Hi), .sc (.bool r3.Unknown)]) rfl bt44 rfl ?_
  refine stB (cs' := [.sc (.int .i64 r1.Lo), .sc (.int .i64 r1.Hi), .sc (.bool r1.Unknown), .sc (.int .i64 r2.Lo), .sc (.int .i64 r2.Hi), .sc (.bool r2.Unknown), .sc (.int .i64 r3.Lo), .sc (.int .i64 r3.Hi), .sc (.bool r3.Unknown)]) rfl rfl rfl rfl ti44 rfl rfl rfl rfl rfl ?_
  refine RunC.fin ?_
  refine AWP.ret ?_
  have hR := Option.some.inj hR; subst hR
  exact hQ _ _ (LS.mk [(0, .ptr 0 0 0)] (lblks 0 [boxB (α := Measured) true (Measured.mk r1 r2 r3)]) 1) (aggV (α := Measured) true (Measured.mk r1 r2 r3)) [] (.inr rfl) (Weak.turnL [(0, 0)] [] rfl rfl (tc (trP' rfl rfl rfl rfl) tn) (mc rfl (.box rfl (.cons (.sc _) (.cons (.sc _) (.cons (.sc _) (.cons (.sc _) (.cons (.sc _) (.cons (.sc _) (.cons (.sc _) (.cons (.sc _) (.cons (.sc _) (.nil)))))))))) rfl) mn)) (ro1 (rvC (v := aggV (α := Measured) true (Measured.mk r1 r2 r3)) rfl rfl ti44 rfl)) rfl rfl ldA pn
theorem ok15 (c : Cells) (i : Int) (reach : Int) (r : Bool) (hR : measure_whole c i reach = some r) : FnP Try.prog 15 [aggV false c, .sc (.int .i64 i), .sc (.int .i64 reach)] (.sc (.bool r)) := by
  refine fnP_of (FnX.walk Try.func15 rfl 41 0 (by simp [Try.ntmps15]) rfl fun W S F Q hQ => ?_)
  unfold measure_whole at hR
  refine AWP.sq ?_
  refine AWP.rgC 8 rfl rfl ?_
  refine bx (cs := _) 0 rfl rfl rfl ?_
  refine pu (v := .sc _) rfl rfl (fun _ => rfl) ?_
  refine RunC.fin ?_
  refine AWP.sq ?_
  refine AWP.rgD 48 [0, 0, 2, 7, 0, 0, 32, 112, 15, 511] ⟨[], [none, none, some [0], none, none, none, some [0], none, none, none]⟩ hmix (by kernel_rfl) rfl rfl ?_
  refine pu (v := .sc _) rfl rfl (fun _ => rfl) ?_
  refine fa rfl rfl ti33 rfl rfl ti3 rfl ?_
  refine ldB (v := .sc _) rfl rfl rfl rfl ti3 rfl rfl ?_
  obtain ⟨h1, hR⟩ := chkE hR
  refine rm rfl rfl rfl h1 rfl ?_
  refine pu (v := .sc _) rfl rfl (fun _ => rfl) ?_
  refine fa rfl rfl ti33 rfl rfl ti3 rfl ?_
  refine ldB (v := .sc _) rfl rfl rfl rfl ti3 rfl rfl ?_
  refine qu rfl rfl rfl h1 rfl ?_
  refine pu (v := .sc _) rfl rfl (fun _ => rfl) ?_
  refine pu (v := .sc _) rfl rfl (fun _ => rfl) ?_
  refine RunC.fin ?_
  refine AWP.joinX (fun z2 : Bool => LS.mk [(6, .sc (.bool z2))] (lblks 0 []) 0) hR (fun o2 hR => ?_) fun z2 hR => ?_
  · refine AWP.rgC 148 rfl rfl ?_
    refine pu (v := .sc _) rfl rfl (fun _ => rfl) ?_
    refine pu (v := .sc _) rfl rfl (fun _ => rfl) ?_
    refine pu (v := .sc _) rfl rfl (fun _ => rfl) ?_
    refine pu (v := .sc _) rfl rfl (fun _ => rfl) ?_
    refine brR hR (fun h3 hR => ?_) fun h3 hR => ?_
    · refine pu (v := .sc _) (wtG rfl rfl rfl h3) rfl (fun _ => rfl) ?_
      refine pu (v := .sc _) (wtG rfl rfl rfl h3) rfl (fun _ => rfl) ?_
      refine pu (v := .sc _) (wtG rfl rfl rfl h3) rfl (fun _ => rfl) ?_
      refine fa (wtG rfl rfl rfl h3) rfl ti33 rfl rfl ti3 rfl ?_
      refine ldB (v := .sc _) (wtG rfl rfl rfl h3) rfl rfl rfl ti3 rfl rfl ?_
      refine pu (v := .sc _) (wtG rfl rfl rfl h3) rfl (fun _ => rfl) ?_
      refine pkT (v := .sc (.bool (decide ((w6 ((Int.tmod i c.W) + reach)) < c.W)))) rfl rfl h3 rfl ?_
      refine pu (v := .sc _) rfl rfl (fun _ => rfl) ?_
      refine brR hR (fun h4 hR => ?_) fun h4 hR => ?_
      · refine pu (v := .sc _) (wtG rfl rfl rfl h4) rfl (fun _ => rfl) ?_
        refine pu (v := .sc _) (wtG rfl rfl rfl h4) rfl (fun _ => rfl) ?_
        refine pu (v := .sc _) (wtG rfl rfl rfl h4) rfl (fun _ => rfl) ?_
        refine pkT (v := .sc (.bool (decide ((w6 (Int.tdiv i c.W)) ≥ reach)))) rfl rfl h4 rfl ?_
        refine pu (v := .sc _) rfl rfl (fun _ => rfl) ?_
        refine brR hR (fun h5 hR => ?_) fun h5 hR => ?_
        · refine pu (v := .sc _) (wtG rfl rfl rfl h5) rfl (fun _ => rfl) ?_
          refine pu (v := .sc _) (wtG rfl rfl rfl h5) rfl (fun _ => rfl) ?_
          refine pu (v := .sc _) (wtG rfl rfl rfl h5) rfl (fun _ => rfl) ?_
          refine fa (wtG rfl rfl rfl h5) rfl ti33 rfl rfl ti3 rfl ?_
          refine ldB (v := .sc _) (wtG rfl rfl rfl h5) rfl rfl rfl ti3 rfl rfl ?_
          refine pu (v := .sc _) (wtG rfl rfl rfl h5) rfl (fun _ => rfl) ?_
          refine pkT (v := .sc (.bool (decide ((w6 ((w6 (Int.tdiv i c.W)) + reach)) < c.H)))) rfl rfl h5 rfl ?_
          refine pu (v := .sc _) rfl rfl (fun _ => rfl) ?_
          refine RunC.fin ?_
          have hR := Option.some.inj hR; subst hR
          exact Weak.turnL [] [] rfl rfl (tc (.sc _) tn) mn
        · refine sk (skW rfl rfl rfl h5) ?_
          refine sk (skW rfl rfl rfl h5) ?_
          refine sk (skW rfl rfl rfl h5) ?_
          refine sk (skW rfl rfl rfl h5) ?_
          refine sk (skW rfl rfl rfl h5) ?_
          refine sk (skW rfl rfl rfl h5) ?_
          refine pkF (v := .sc (.bool false)) rfl rfl h5 rfl ?_
          refine pu (v := .sc _) rfl rfl (fun _ => rfl) ?_
          refine RunC.fin ?_
          have hR := Option.some.inj hR; subst hR
          exact Weak.turnL [] [] rfl rfl (tc (.sc _) tn) mn
      · refine sk (skW rfl rfl rfl h4) ?_
        refine sk (skW rfl rfl rfl h4) ?_
        refine sk (skW rfl rfl rfl h4) ?_
        refine pkF (v := .sc (.bool false)) rfl rfl h4 rfl ?_
        refine pu (v := .sc _) rfl rfl (fun _ => rfl) ?_
        refine sk (skW rfl rfl rfl rfl) ?_
        refine sk (skW rfl rfl rfl rfl) ?_
        refine sk (skW rfl rfl rfl rfl) ?_
        refine sk (skW rfl rfl rfl rfl) ?_
        refine sk (skW rfl rfl rfl rfl) ?_
        refine sk (skW rfl rfl rfl rfl) ?_
        refine pkF (v := .sc (.bool false)) rfl rfl rfl rfl ?_
        refine pu (v := .sc _) rfl rfl (fun _ => rfl) ?_
        refine RunC.fin ?_
        have hR := Option.some.inj hR; subst hR
        exact Weak.turnL [] [] rfl rfl (tc (.sc _) tn) mn
    · refine sk (skW rfl rfl rfl h3) ?_
      refine sk (skW rfl rfl rfl h3) ?_
      refine sk (skW rfl rfl rfl h3) ?_
      refine sk (skW rfl rfl rfl h3) ?_
      refine sk (skW rfl rfl rfl h3) ?_
      refine sk (skW rfl rfl rfl h3) ?_
      refine pkF (v := .sc (.bool false)) rfl rfl h3 rfl ?_
      refine pu (v := .sc _) rfl rfl (fun _ => rfl) ?_
      refine sk (skW rfl rfl rfl rfl) ?_
      refine sk (skW rfl rfl rfl rfl) ?_
      refine sk (skW rfl rfl rfl rfl) ?_
      refine pkF (v := .sc (.bool false)) rfl rfl rfl rfl ?_
      refine pu (v := .sc _) rfl rfl (fun _ => rfl) ?_
      refine sk (skW rfl rfl rfl rfl) ?_
      refine sk (skW rfl rfl rfl rfl) ?_
      refine sk (skW rfl rfl rfl rfl) ?_
      refine sk (skW rfl rfl rfl rfl) ?_
      refine sk (skW rfl rfl rfl rfl) ?_
      refine sk (skW rfl rfl rfl rfl) ?_
      refine pkF (v := .sc (.bool false)) rfl rfl rfl rfl ?_
      refine pu (v := .sc _) rfl rfl (fun _ => rfl) ?_
      refine RunC.fin ?_
      have hR := Option.some.inj hR; subst hR
      exact Weak.turnL [] [] rfl rfl (tc (.sc _) tn) mn
  · refine AWP.ret ?_
    have hR := Option.some.inj hR; subst hR
    exact hQ _ _ (LS.mk [(6, .sc (.bool z2))] (lblks 0 []) 0) (.sc (.bool z2)) [] (.inr rfl) (Weak.turnL [] [] rfl rfl (tc (.sc _) tn) mn) (ro1 (rvT (v := .sc (.bool z2)) rfl)) rfl rfl (.sc _) pn
section
open Go.RowKit Go.Shelf
attribute [local go_sem] Oper.semAt_some
theorem tot_bindx14 {α β : Type} {x : Option α} {f : α → Option β} (h : ∃ r, x = some r) (k : ∀ r, ∃ q, f r = some q) : ∃ q, x.bind f = some q := by
  obtain ⟨r, rfl⟩ := h; exact k r
theorem tot_itex14 {α : Type} {c : Prop} [Decidable c] {x y : Option α} (h : ∃ r, x = some r) (k : ∃ r, y = some r) : ∃ r, (if c then x else y) = some r := by
  split
  · exact h
  · exact k
theorem check_totx14 (b : Bound) : ∃ r, bound_Check b = some r := by
  unfold bound_Check
  refine tot_bindx14 (tot_itex14 (tot_itex14 ⟨_, rfl⟩ ⟨_, rfl⟩) ⟨_, rfl⟩) fun z => tot_itex14 ⟨_, rfl⟩ (tot_bindx14 (tot_itex14 ⟨_, rfl⟩ ⟨_, rfl⟩) fun y => tot_itex14 ⟨_, rfl⟩ (tot_itex14 ⟨_, rfl⟩ ⟨_, rfl⟩))
theorem norm_totx14 (b : Bound) : ∃ r, bound_Norm b = some r := by
  unfold bound_Norm bound_None
  exact tot_bindx14 (check_totx14 b) fun r => tot_itex14 ⟨_, rfl⟩ ⟨_, rfl⟩
theorem add_totx14 (a b : Bound) : ∃ r, bound_Add a b = some r := by
  unfold bound_Add bound_vague bound_Of bound_None
  refine tot_bindx14 (tot_bindx14 (tot_bindx14 (norm_totx14 a) fun r => tot_itex14 ⟨_, rfl⟩ (tot_bindx14 (norm_totx14 b) fun r => ⟨_, rfl⟩)) fun r => ⟨_, rfl⟩) fun r => tot_itex14 ⟨_, rfl⟩ (tot_bindx14 (tot_bindx14 (norm_totx14 _) fun r => ⟨_, rfl⟩) fun r => ⟨_, rfl⟩)
def addTx14 (s x : Bound) : Bound := (bound_Add s x).getD s
theorem addT_specx14 (s x : Bound) : bound_Add s x = some (addTx14 s x) := by
  obtain ⟨r, h⟩ := add_totx14 s x
  unfold addTx14; rw [h]; rfl
theorem add_callsx14 (s x : Bound) (w : World) : Calls Try.prog 21 #[.agg #[.int .i64 s.Lo, .int .i64 s.Hi, .bool s.Unknown], .agg #[.int .i64 x.Lo, .int .i64 x.Hi, .bool x.Unknown]] w fun e w' => e = .returned (.agg #[.int .i64 (addTx14 s x).Lo, .int .i64 (addTx14 s x).Hi, .bool (addTx14 s x).Unknown]) ∧ Below w.heap.size w w' := by
  have ag : ∀ (E : Env) (b : Bound), RL E (aggV false b) (.agg #[.int .i64 b.Lo, .int .i64 b.Hi, .bool b.Unknown]) := fun E b => by
    unfold aggV
    simp only [RL]
    exact ⟨[.int .i64 b.Lo, .int .i64 b.Hi, .bool b.Unknown], rfl, rls_cons rl_sc (rls_cons rl_sc (rls_cons rl_sc rls_nil)), Cl.leaf false b⟩
  refine (fnP_out (ok21 s x _ (addT_specx14 s x)) (cargs := [.agg #[.int .i64 s.Lo, .int .i64 s.Hi, .bool s.Unknown], .agg #[.int .i64 x.Lo, .int .i64 x.Hi, .bool x.Unknown]]) (rls_cons (ag _ s) (rls_cons (ag _ x) rls_nil))).mono ?_
  rintro e w' ⟨c, E', rfl, h1, h2⟩
  unfold aggV at h1
  simp only [RL] at h1
  obtain ⟨ds, rfl, h3, _⟩ := h1
  have h3 : RLs E' [.sc (.int .i64 (addTx14 s x).Lo), .sc (.int .i64 (addTx14 s x).Hi), .sc (.bool (addTx14 s x).Unknown)] ds := h3
  simp only [RLs, RL] at h3
  obtain ⟨_, _, rfl, rfl, _, _, rfl, rfl, _, _, rfl, rfl, rfl⟩ := h3
  exact ⟨rfl, h2⟩
def encBx14 (x : Bound) : Array Value := #[.agg #[.int .i64 x.Lo, .int .i64 x.Hi, .bool x.Unknown]]
abbrev RowBx14 := Row3 (fun x : Bound => .int .i64 x.Lo) (fun x : Bound => .int .i64 x.Hi) (fun x : Bound => .bool x.Unknown)
theorem values_Bx14 (a : Option Addr) (len cap : Nat) (w : World) :
    Calls Try.prog 29 #[.slice a len cap] w fun e w' => e = .returned (.func (.func 40) #[] #[.pointer (some ⟨w.heap.size, 0, none⟩)]) ∧ w' = w.alloc (.cells #[.slice a len cap] 31) := by
  go_enter Try.func29, Try.ntmps29
  go_wp2
  go_ret
  exact ⟨rfl, rfl⟩
set_option maxHeartbeats 2000000 in
theorem values1_Bx14 (F : Fence) (n : Nat) (h7 : F.fn 40) (hro : F.round = none) (hn : 1 ≤ n) (l Bs n₀ : Nat) (A : Option Addr) (cap : Nat) (zs : List Bound) (hreach : zs.length * 24 ≤ 140737488351232) (hb0 : ∀ ad, A = some ad → 0 < zs.length → ad.block < n₀) (J Jx : List Bound → World → Prop)
    (hY : ∀ pre x W, J pre W → pre.length < zs.length → YieldAt F (n - 1) Try.prog l (encBx14 x) W fun e W' =>
      (e = .returned (.bool true) ∧ J (pre ++ [x]) W' ∧ Below n₀ W W') ∨ (e = .returned (.bool false) ∧ Jx (pre ++ [x]) W'))
    (W : World) (hJ : AbidesFrom W.heap.size J) (hBs : W.cell? ⟨Bs, 0, none⟩ = some (.slice A zs.length cap)) (hn0 : n₀ ≤ W.heap.size) (hc : RowBx14 W A zs) (h0 : J [] W) :
    CallsIn F n Try.prog 40 #[.func (.yield l) #[] #[], .pointer (some ⟨Bs, 0, none⟩)] W fun e W' => (∃ v, e = .returned v) ∧
      ((∃ ys, ys = zs ∧ J ys W') ∨ (∃ pre, (∃ k, k ≤ zs.length ∧ pre = zs.take k) ∧ Jx pre W')) := by
  refine callsIn_of_wp Try.func40 rfl h7 ?_ hro
  simp only [Try.ntmps40, List.size_toArray, List.length_cons, List.length_nil, Nat.reduceAdd, Nat.reduceSub, Array.replicate_succ, Array.replicate_zero, List.push_toArray, List.append_toArray, List.nil_append, List.cons_append]
  gi_wp2
  gi_loopw [7] (fun i wr => ∃ k : Nat, k ≤ zs.length ∧ i = .int .i64 k ∧ J (zs.take k) wr ∧ Below n₀ W wr ∧ W.heap.size ≤ wr.heap.size)
    (fun i _ => zs.length - (intOf i).toNat)
  case atStart => exact ⟨0, Nat.zero_le _, rfl, by simpa using h0, Below.refl _ _, Nat.le_refl _⟩
  case round =>
    obtain ⟨k, hk, rfl, hJs, hnx, hsz⟩ := hrel
    by_cases hlt : k < zs.length
    · obtain ⟨ad, rfl, _, hx0, hx1, hx2⟩ := hc k hlt
      have hb := hb0 ad rfl (by omega)
      have ht : zs.take (k + 1) = zs.take k ++ [zs[k]] := by rw [List.take_succ_eq_append_getElem hlt]
      generalize zs[k] = x at hx0 hx1 hx2 ht
      replace hx0 := (hnx.cell (p := ad.add (k * 3)) (by rw [add_blk]; exact hb)).trans hx0
      replace hx1 := (hnx.cell (p := ⟨(ad.add (k * 3)).block, (ad.add (k * 3)).off + 1, none⟩) (by show (ad.add (k * 3)).block < n₀; rw [add_blk]; exact hb)).trans hx1
      replace hx2 := (hnx.cell (p := ⟨(ad.add (k * 3)).block, (ad.add (k * 3)).off + 2, none⟩) (by show (ad.add (k * 3)).block < n₀; rw [add_blk]; exact hb)).trans hx2
      have hJ1 := hJ (zs.take k) wr (wr.alloc (.cells #[.int .i64 x.Lo, .int .i64 x.Hi, .bool x.Unknown] 36)) none hJs (World.grownBy_alloc wr _ none) (fun r e => by cases e)
      have hb1 : Below n₀ wr (wr.alloc (.cells #[.int .i64 x.Lo, .int .i64 x.Hi, .bool x.Unknown] 36)) := (Below.refl n₀ wr).alloc (by omega) _
      have hs1 : wr.heap.size ≤ (wr.alloc (.cells #[.int .i64 x.Lo, .int .i64 x.Hi, .bool x.Unknown] 36)).heap.size := by simp
      obtain ⟨fn, tmps, assign, body, hy, hR⟩ := hY (zs.take k) x _ hJ1 (by simp; omega)
      simp only [encBx14] at hy
      have HT := Lib.hid ht
      clear ht
      gi_wp2
      refine hR.mono ?_
      rintro e W3 (⟨rfl, hJ3, hk3⟩ | ⟨rfl, hJx3⟩)
      · gi_wp2
        go_roundw
        case rel => exact ⟨k + 1, by omega, by simp, by rw [HT.out]; exact hJ3, (hnx.trans hb1).trans hk3, Nat.le_trans hsz (Nat.le_trans hs1 hk3.size)⟩
        case measure => simp [intOf]; omega
      · gi_wp2
        refine bodyPost_ret (results_none rfl _ _ _) rfl ?_
        exact ⟨⟨_, rfl⟩, .inr ⟨_, ⟨k + 1, by omega, HT.out.symm⟩, hJx3⟩⟩
    · obtain rfl : k = zs.length := by omega
      gi_wp2
      go_end0
      exact ⟨⟨_, rfl⟩, .inl ⟨_, rfl, by simpa using hJs⟩⟩
theorem values_stops_Bx14 (F : Fence) (n : Nat) (h7 : F.fn 40) (hro : F.round = none) (hn : 1 ≤ n) (Bs n₀ : Nat) (A : Option Addr) (cap : Nat) (zs : List Bound) (hreach : zs.length * 24 ≤ 140737488351232) (w : World) (hBs : Bs < w.heap.size) (hn₀ : n₀ ≤ w.heap.size)
    (hc : w.cell? ⟨Bs, 0, none⟩ = some (.slice A zs.length cap)) (hC : RowBx14 w A zs) (hb0 : ∀ ad, A = some ad → 0 < zs.length → ad.block < n₀) :
    SeqStopsK F n Try.prog 40 #[.pointer (some ⟨Bs, 0, none⟩)] encBx14 (Below n₀) (fun ys => ys = zs) (fun pre => pre <+: zs) zs.length w := fun l J Jx W hW hJ _ hY h0 => by
  have hc' := (hW.cell (p := ⟨Bs, 0, none⟩) hBs).trans hc
  refine (values1_Bx14 F n h7 hro hn l Bs n₀ A cap zs hreach hb0 J Jx hY W hJ hc' (Nat.le_trans hn₀ hW.size) (hC.below hW) h0).mono ?_
  rintro e W' ⟨he, ⟨ys, rfl, hj⟩ | ⟨pre, ⟨k, hk, rfl⟩, hj⟩⟩
  · exact ⟨he, .inl ⟨_, rfl, hj⟩⟩
  · exact ⟨he, .inr ⟨_, List.take_prefix _ _, hj⟩⟩
theorem sumF_consx14 (x : Bound) (xs : List Bound) (s : Bound) : bound_SumF (x :: xs) s = if (addTx14 s x).Unknown = true then addTx14 s x else bound_SumF xs (addTx14 s x) := rfl
set_option maxHeartbeats 2000000 in
theorem total_Bx14 (A : Option Addr) (cap : Nat) (zs : List Bound) (hreach : zs.length * 24 ≤ 140737488351232) (w : World) (Bs : Nat) (hBs : Bs < w.heap.size) (hc : w.cell? ⟨Bs, 0, none⟩ = some (.slice A zs.length cap)) (hC : RowBx14 w A zs) (hb0 : ∀ ad, A = some ad → 0 < zs.length → ad.block < w.heap.size) :
    Calls Try.prog 28 #[.func (.func 40) #[] #[.pointer (some ⟨Bs, 0, none⟩)]] w fun e w' => e = .returned (.agg #[.int .i64 (bound_SumF zs ⟨0, 0, false⟩).Lo, .int .i64 (bound_SumF zs ⟨0, 0, false⟩).Hi, .bool (bound_SumF zs ⟨0, 0, false⟩).Unknown]) ∧ Below w.heap.size w w' := by
  refine (callsIn_wide (n := 6)).1 ?_
  refine callsIn_of_wp_marks Try.func28 rfl trivial ?_ rfl
  simp only [Try.ntmps28, List.size_toArray, List.length_cons, List.length_nil, Nat.reduceAdd, Nat.reduceSub, Array.replicate_succ, Array.replicate_zero, List.push_toArray, List.append_toArray, List.nil_append, List.cons_append]
  gi_wp2
  have hz : ((w.alloc (.cells #[.int .i64 0, .int .i64 0, .bool false] 36)).alloc (.cells #[.int .i64 0, .int .i64 0, .bool false] 36)).heap.size = w.heap.size + 2 := by simp
  have hr2 : ((w.alloc (.cells #[.int .i64 0, .int .i64 0, .bool false] 36)).alloc (.cells #[.int .i64 0, .int .i64 0, .bool false] 36)).heap[w.heap.size]? = some (.cells #[.int .i64 0, .int .i64 0, .bool false] 36 (0, 0)) := blk_alloc (World.alloc_heap_new w _) _
  have hs2 : ((w.alloc (.cells #[.int .i64 0, .int .i64 0, .bool false] 36)).alloc (.cells #[.int .i64 0, .int .i64 0, .bool false] 36)).heap[w.heap.size + 1]? = some (.cells #[.int .i64 0, .int .i64 0, .bool false] 36 (0, 0)) := by
    have := World.alloc_heap_new (w.alloc (.cells #[.int .i64 0, .int .i64 0, .bool false] 36)) (.cells #[.int .i64 0, .int .i64 0, .bool false] 36)
    rwa [World.size_alloc] at this
  have hb2 : Below w.heap.size w ((w.alloc (.cells #[.int .i64 0, .int .i64 0, .bool false] 36)).alloc (.cells #[.int .i64 0, .int .i64 0, .bool false] 36)) := ((Below.refl _ w).alloc (Nat.le_refl _) _).alloc (by simp) _
  obtain ⟨w2, hw2⟩ : ∃ w2, (w.alloc (.cells #[.int .i64 0, .int .i64 0, .bool false] 36)).alloc (.cells #[.int .i64 0, .int .i64 0, .bool false] 36) = w2 := ⟨_, rfl⟩
  rw [hw2] at hz hr2 hs2 hb2 ⊢
  refine wpIn_rangeFunc_ownH (α := Bound) rfl (by omega) (gf := 40) (lb := #[.pointer (some ⟨Bs, 0, none⟩)]) rfl trivial (enters_of Try.func40 (by kernel_rfl) rfl)
    (values_stops_Bx14 Fence.wide 5 trivial rfl (by omega) Bs w.heap.size A cap zs hreach w2 (by omega) (by omega) ((hb2.cell (p := ⟨Bs, 0, none⟩) hBs).trans hc) (hC.below hb2) hb0) belowK_t (belowK_b (by omega)) (Below.refl _ _) (fun _ => rfl)
    (fun pre W => (∃ s : Bound, W.heap[w.heap.size + 1]? = some (.cells #[.int .i64 s.Lo, .int .i64 s.Hi, .bool s.Unknown] 36 (0, 0)) ∧ s.Unknown = false ∧ ∀ rest, bound_SumF (pre ++ rest) ⟨0, 0, false⟩ = bound_SumF rest s) ∧ W.heap[w.heap.size]? = some (.cells #[.int .i64 0, .int .i64 0, .bool false] 36 (0, 0)) ∧ Below w.heap.size w W)
    (fun c pre W => c = .exit 0 ∧ (∃ s : Bound, W.heap[w.heap.size + 1]? = some (.cells #[.int .i64 s.Lo, .int .i64 s.Hi, .bool s.Unknown] 36 (0, 0)) ∧ ∀ rest, bound_SumF (pre ++ rest) ⟨0, 0, false⟩ = s) ∧ W.heap[w.heap.size]? = some (.cells #[.int .i64 0, .int .i64 0, .bool false] 36 (0, 0)) ∧ Below w.heap.size w W)
    (fun s A B row hs hg hr => ⟨by obtain ⟨⟨u, h1, h2⟩, _⟩ := hs; exact ⟨u, own3 (β := Unit) _ _ _ _ () A B row h1 hg hr, h2⟩, own3 (β := Unit) _ _ _ _ () A B row hs.2.1 hg hr, ownFrom_below (β := Unit) (Nat.le_refl _) (by omega) () A B row hs.2.2 hg hr⟩)
    (fun c s A B row hs hg hr => ⟨hs.1, by obtain ⟨_, ⟨u, h1, h2⟩, _⟩ := hs; exact ⟨u, own3 (β := Unit) _ _ _ _ () A B row h1 hg hr, h2⟩, own3 (β := Unit) _ _ _ _ () A B row hs.2.2.1 hg hr, ownFrom_below (β := Unit) (Nat.le_refl _) (by omega) () A B row hs.2.2.2 hg hr⟩)
    ⟨⟨⟨0, 0, false⟩, hs2, rfl, fun rest => rfl⟩, hr2, hb2⟩
    (fun x a' W => ∃ Bx, w.heap.size + 1 < Bx ∧ W.heap[Bx]? = some (.cells #[.int .i64 x.Lo, .int .i64 x.Hi, .bool x.Unknown] 36 (0, 0)) ∧ a' = { tmps := #[.func (.func 40) #[] #[.pointer (some ⟨Bs, 0, none⟩)], undef, .pointer (some ⟨w.heap.size, 0, none⟩), .pointer (some ⟨w.heap.size + 1, 0, none⟩), .pointer (some ⟨Bx, 0, none⟩), .func (.func 40) #[] #[.pointer (some ⟨Bs, 0, none⟩)], .agg #[.int .i64 x.Lo, .int .i64 x.Hi, .bool x.Unknown], undef, undef, undef, undef, undef, undef], defers := [] })
    (fun x a' _ A B row hs hg hr => by obtain ⟨Bx, h1, h2, h3⟩ := hs; exact ⟨Bx, h1, own3 (β := Unit) _ _ _ _ () A B row h2 hg hr, h3⟩) ?assign ?body ?done ?stop
  case assign =>
    rintro l pre x W K ⟨⟨s, h1, h2⟩, h3, h4⟩ hK
    simp only [encBx14]
    gi_wp2
    exact hK _ _ ((KeepsOthers.alloc _ _).from _) ((Below.refl _ W).alloc h4.size _) ⟨⟨s, blk_alloc h1 _, h2⟩, blk_alloc h3 _, h4.alloc h4.size _⟩ ⟨W.heap.size, blk_lt h1, World.alloc_heap_new W _, rfl⟩
  case body =>
    rintro l pre x a' W hl hr ⟨⟨s, h1, h2, h3⟩, h4, h5⟩ ⟨Bx, hBx, bX, rfl⟩ hlt
    have hl1 := blk_lt h1
    obtain ⟨hc0, hc1, hc2, hf0, hf1, hf2⟩ := cel3 h1
    obtain ⟨hd0, hd1, hd2, _, _, _⟩ := cel3 bX
    have H1 := Lib.hid h1
    have H3 := Lib.hid h3
    have H4 := Lib.hid h4
    have HX := Lib.hid bX
    clear h1 h3 h4 bX h2 hr
    by_cases hu : (addTx14 s x).Unknown = true
    · gi_wp2_with (refine ⟨trivial, ?_⟩; gi_at_call 21; refine (CallsIn.inRound l (callsIn_wide.2 (add_callsx14 s x _))).mono ?_; rintro e w5 ⟨rfl, hb5⟩; have hs5 := blk_below H1.out hb5; obtain ⟨hg0, hg1, hg2, hk0, hk1, hk2⟩ := cel3 hs5; have HS5 := Lib.hid hs5; clear hs5; have HB5 := Lib.hid hb5; clear hb5)
      have g := round3 (w2 := w2) (by omega) h5 HB5.out (Nat.le_succ w.heap.size) (.int .i64 (addTx14 s x).Lo) (.int .i64 (addTx14 s x).Hi) (.bool true)
      refine ⟨g.1, rfl, ⟨addTx14 s x, by rw [hu]; exact put3 _ _ _ HS5.out, fun rest => ?_⟩, far3 (blk_below H4.out HB5.out) (by omega) _ _ _, h5.trans g.2⟩
      rw [List.append_assoc, H3.out]
      exact if_pos hu
    · have hu' : (addTx14 s x).Unknown = false := by simpa using hu
      gi_wp2_with (refine ⟨trivial, ?_⟩; gi_at_call 21; refine (CallsIn.inRound l (callsIn_wide.2 (add_callsx14 s x _))).mono ?_; rintro e w5 ⟨rfl, hb5⟩; have hs5 := blk_below H1.out hb5; obtain ⟨hg0, hg1, hg2, hk0, hk1, hk2⟩ := cel3 hs5; have HS5 := Lib.hid hs5; clear hs5; have HB5 := Lib.hid hb5; clear hb5)
      have g := round3 (w2 := w2) (by omega) h5 HB5.out (Nat.le_succ w.heap.size) (.int .i64 (addTx14 s x).Lo) (.int .i64 (addTx14 s x).Hi) (.bool false)
      refine ⟨g.1, g.2, ⟨addTx14 s x, by rw [hu']; exact put3 _ _ _ HS5.out, hu', fun rest => ?_⟩, far3 (blk_below H4.out HB5.out) (by omega) _ _ _, h5.trans g.2⟩
      rw [List.append_assoc, H3.out]
      exact if_neg hu
  case done =>
    rintro D ys W hD rfl ⟨⟨s, h1, h2, h3⟩, h4, h5⟩ hK
    obtain ⟨hc0, hc1, hc2, hf0, hf1, hf2⟩ := cel3 h1
    obtain ⟨hd0, hd1, hd2, he0, he1, he2⟩ := cel3 h4
    gi_wp2
    have hS : bound_SumF ys ⟨0, 0, false⟩ = s := by have := h3 []; rwa [List.append_nil] at this
    have hK3 := ((KeepsOthers.setCell W ⟨w.heap.size, 0, none⟩ (.int .i64 s.Lo)).trans ((KeepsOthers.setCell _ ⟨w.heap.size, 1, none⟩ (.int .i64 s.Hi)).trans (KeepsOthers.setCell _ ⟨w.heap.size, 2, none⟩ (.bool false)))).same D _ hK rfl
    have hR := put3 (.int .i64 s.Lo) (.int .i64 s.Hi) (.bool false) h4
    have hB3 := (((Below.refl w.heap.size W).setCell (p := ⟨w.heap.size, 0, none⟩) (Nat.le_refl _) (.int .i64 s.Lo)).setCell (p := ⟨w.heap.size, 1, none⟩) (Nat.le_refl _) (.int .i64 s.Hi)).setCell (p := ⟨w.heap.size, 2, none⟩) (Nat.le_refl _) (.bool false)
    have hB4 := belowK_b (w := w) (n₀ := w.heap.size) (Nat.le_refl _) _ D _ (.deferred none) (by omega) hK3 rfl rfl
    have hR4 := ((grownBy_putObj' _ D (.deferred none)).block w.heap.size (blk_lt hR) (fun e => by cases e; omega)).trans hR
    refine ⟨by simp, .inl ⟨_, _, rfl, run_takeDeferred hK3, ?_⟩⟩
    refine ⟨_, results_cell_row rfl _ _ w.heap.size 36 _ (0, 0) _ rfl hR4 Try.underlying36 rfl (by kernel_rfl), ?_, (h5.trans hB3).trans hB4⟩
    rw [hS, h2]
  case stop =>
    rintro D c pre W hD hpre ⟨rfl, ⟨s, h1, h2⟩, h4, h5⟩ hK
    obtain ⟨rest, rfl⟩ := hpre
    have hS := h2 rest
    clear h2
    obtain ⟨hc0, hc1, hc2, hf0, hf1, hf2⟩ := cel3 h1
    obtain ⟨hd0, hd1, hd2, he0, he1, he2⟩ := cel3 h4
    have HS := Lib.hid hS
    clear hS
    gi_wp2
    have hK3 := ((KeepsOthers.setCell W ⟨w.heap.size, 0, none⟩ (.int .i64 s.Lo)).trans ((KeepsOthers.setCell _ ⟨w.heap.size, 1, none⟩ (.int .i64 s.Hi)).trans (KeepsOthers.setCell _ ⟨w.heap.size, 2, none⟩ (.bool s.Unknown)))).same D _ hK rfl
    have hR := put3 (.int .i64 s.Lo) (.int .i64 s.Hi) (.bool s.Unknown) h4
    have hB3 := (((Below.refl w.heap.size W).setCell (p := ⟨w.heap.size, 0, none⟩) (Nat.le_refl _) (.int .i64 s.Lo)).setCell (p := ⟨w.heap.size, 1, none⟩) (Nat.le_refl _) (.int .i64 s.Hi)).setCell (p := ⟨w.heap.size, 2, none⟩) (Nat.le_refl _) (.bool s.Unknown)
    have hB4 := belowK_b (w := w) (n₀ := w.heap.size) (Nat.le_refl _) _ D _ (.deferred none) (by omega) hK3 rfl rfl
    have hR4 := ((grownBy_putObj' _ D (.deferred none)).block w.heap.size (blk_lt hR) (fun e => by cases e; omega)).trans hR
    refine ⟨by simp, .inl ⟨_, _, rfl, run_takeDeferred hK3, ?_⟩⟩
    refine ⟨_, results_cell_row rfl _ _ w.heap.size 36 _ (0, 0) _ rfl hR4 Try.underlying36 rfl (by kernel_rfl), ?_, (h5.trans hB3).trans hB4⟩
    rw [HS.out]
theorem sum_callsx14 (A0 : Option Addr) (c0 : Nat) (l0 : List Bound) (hreach : l0.length * 24 ≤ 140737488351232) (w : World) (hr0 : RowBx14 w A0 l0) (hc0 : l0.length ≤ c0) :
    Calls Try.prog 14 #[.slice A0 l0.length c0] w fun e w' => e = .returned (.agg #[.int .i64 (bound_SumF l0 ⟨0, 0, false⟩).Lo, .int .i64 (bound_SumF l0 ⟨0, 0, false⟩).Hi, .bool (bound_SumF l0 ⟨0, 0, false⟩).Unknown]) ∧ Below w.heap.size w w' := by
  have hB : Below w.heap.size w ((w.alloc (.cells #[.int .i64 0, .int .i64 0, .bool false] 36)).alloc (.cells #[.slice A0 l0.length c0] 31)) := ((Below.refl _ w).alloc (Nat.le_refl _) _).alloc (by simp) _
  have h1 : ((w.alloc (.cells #[.int .i64 0, .int .i64 0, .bool false] 36)).alloc (.cells #[.slice A0 l0.length c0] 31)).heap[w.heap.size]? = some (.cells #[.int .i64 0, .int .i64 0, .bool false] 36 (0, 0)) := blk_alloc (World.alloc_heap_new w _) _
  have h2 : ((w.alloc (.cells #[.int .i64 0, .int .i64 0, .bool false] 36)).alloc (.cells #[.slice A0 l0.length c0] 31)).heap[w.heap.size + 1]? = some (.cells #[.slice A0 l0.length c0] 31 (0, 0)) := by
    have := World.alloc_heap_new (w.alloc (.cells #[.int .i64 0, .int .i64 0, .bool false] 36)) (.cells #[.slice A0 l0.length c0] 31)
    rwa [World.size_alloc] at this
  have hb0 : ∀ ad, A0 = some ad → 0 < l0.length → ad.block < w.heap.size := by
    intro ad e hp
    obtain ⟨ad', e', hx, _⟩ := hr0 0 hp
    rw [e] at e'; cases e'
    exact hx
  have T := total_Bx14 A0 c0 l0 hreach _ (w.heap.size + 1) (by simp) ((cel1 h2).1) (hr0.below hB) (fun ad e hp => Nat.lt_of_lt_of_le (hb0 ad e hp) hB.size)
  have H1 := Lib.hid h1
  have HB := Lib.hid hB
  clear h1 h2 hB hb0
  go_enter Try.func14, Try.ntmps14
  go_wp2_with (first | (go_at_call 29; refine (values_Bx14 _ _ _ _).mono ?_; rintro e w1 ⟨rfl, rfl⟩) | (go_at_call 28; refine T.mono ?_; rintro e w1 ⟨rfl, hb1⟩; have h3 := blk_below H1.out hb1; obtain ⟨hc0_, hc1_, hc2_, hf0, hf1, hf2⟩ := cel3 h3; have H3 := Lib.hid h3; have HB1 := Lib.hid hb1; clear h3 hb1))
  have hR := put3 (.int .i64 (bound_SumF l0 ⟨0, 0, false⟩).Lo) (.int .i64 (bound_SumF l0 ⟨0, 0, false⟩).Hi) (.bool (bound_SumF l0 ⟨0, 0, false⟩).Unknown) H3.out
  refine bodyPost_ret (results_cell_row rfl _ _ w.heap.size 36 _ (0, 0) _ rfl hR Try.underlying36 rfl (by kernel_rfl)) rfl ?_
  exact ⟨rfl, (((HB.out.trans (HB1.out.mono HB.out.size)).setCell (p := ⟨w.heap.size, 0, none⟩) (Nat.le_refl _) _).setCell (p := ⟨w.heap.size, 1, none⟩) (Nat.le_refl _) _).setCell (p := ⟨w.heap.size, 2, none⟩) (Nat.le_refl _) _⟩
theorem row_cellsx14 (l : List Bound) (k : Nat) (hk : k < l.length) : (l.flatMap (Cl.c false))[k * 3]? = some (.sc (.int .i64 l[k].Lo)) ∧ (l.flatMap (Cl.c false))[k * 3 + 1]? = some (.sc (.int .i64 l[k].Hi)) ∧ (l.flatMap (Cl.c false))[k * 3 + 2]? = some (.sc (.bool l[k].Unknown)) := by
  have h := flat_at false l k hk
  have e : l.getD k Cl.d = l[k] := by rw [List.getD_eq_getElem?_getD, List.getElem?_eq_getElem hk]; rfl
  rw [e] at h
  have h : ((l.flatMap (Cl.c false)).drop (k * 3)).take 3 = [.sc (.int .i64 l[k].Lo), .sc (.int .i64 l[k].Hi), .sc (.bool l[k].Unknown)] := h
  have g : ∀ i : Nat, i < 3 → (l.flatMap (Cl.c false))[k * 3 + i]? = ([.sc (.int .i64 l[k].Lo), .sc (.int .i64 l[k].Hi), .sc (.bool l[k].Unknown)] : List V)[i]? := fun i hi => by
    rw [← h, List.getElem?_take, if_pos hi, List.getElem?_drop]
  exact ⟨g 0 (by decide), g 1 (by decide), g 2 (by decide)⟩
theorem ok14 (l : List Bound) (r : Bound) (hR : bound_Sum l = some r) : FnP Try.prog 14 [rowV false l] (aggV (α := Bound) true r) := by
  unfold bound_Sum at hR
  split at hR
  · rename_i hreach
    have hR := Option.some.inj hR
    subst hR
    refine fnP_in fun E W cargs hF ha => ?_
    simp only [RLs] at ha
    obtain ⟨c, ds, rfl, h1, rfl⟩ := ha
    unfold rowV at h1
    simp only [RL] at h1
    obtain ⟨a, cap, rfl, h2, h3, h4, h5⟩ := h1
    refine (sum_callsx14 a cap l hreach W (fun k hk => ?_) h2).mono ?_
    · rcases h5 with h5 | ⟨B, o, rfl, _, h6⟩
      · omega
      · obtain ⟨g0, g1, g2⟩ := row_cellsx14 l k hk
        obtain ⟨d0, e0, f0⟩ := RF.get _ _ h6 _ _ g0
        obtain ⟨d1, e1, f1⟩ := RF.get _ _ h6 _ _ g1
        obtain ⟨d2, e2, f2⟩ := RF.get _ _ h6 _ _ g2
        simp only [RL] at f0 f1 f2
        subst f0; subst f1; subst f2
        have c0 := hF _ _ _ e0
        have c1 := hF _ _ _ e1
        have c2 := hF _ _ _ e2
        refine ⟨⟨B, o, none⟩, rfl, World.block_lt_of_cell? W ⟨B, o + k * 3, none⟩ c0, ?_, ?_, ?_⟩
        · rw [addr_add]; exact c0
        · rw [addr_add]; exact c1
        · rw [addr_add]; exact c2
    · rintro e w' ⟨rfl, hb⟩
      refine ⟨_, rfl, ?_, hb⟩
      unfold aggV
      simp only [RL]
      exact ⟨[.int .i64 (bound_SumF l ⟨0, 0, false⟩).Lo, .int .i64 (bound_SumF l ⟨0, 0, false⟩).Hi, .bool (bound_SumF l ⟨0, 0, false⟩).Unknown], rfl, rls_cons rl_sc (rls_cons rl_sc (rls_cons rl_sc rls_nil)), Cl.leaf true _⟩
  · cases hR
end

theorem ok13 (c : Cells) (level : Bound) (s : Source_) (reach : Int) (r : (List Int) × (List Bound) × Int) (hR : measure_window c level s reach = some r) : FnP Try.prog 13 [aggV false c, aggV false level, aggV false s, .sc (.int .i64 reach)] (.tup [rowV (α := Int) true r.1, rowV (α := Bound) true r.2.1, .sc (.int .i64 r.2.2)]) := by
  refine fnP_of (FnX.walk Try.func13 rfl 60 0 (by simp [Try.ntmps13]) rfl fun W S F Q hQ => ?_)
  unfold measure_window at hR
  refine AWP.sq ?_
  refine AWP.rgC 24 rfl rfl ?_
  refine bx (cs := _) 0 rfl rfl rfl ?_
  refine bx (cs := _) 4 rfl rfl rfl ?_
  refine bx (cs := _) 8 rfl rfl rfl ?_
  refine pu (v := .sc _) rfl rfl (fun _ => rfl) ?_
  refine pu (v := .sc _) rfl rfl (fun _ => rfl) ?_
  refine pu (v := .sc _) rfl rfl (fun _ => rfl) ?_
  refine RunC.fin ?_
  refine AWP.sq ?_
  refine AWP.sq ?_
  refine AWP.rgD 52 [0, 1, 0, 7, 15, 31, 63] ⟨[], [some [0], none, some [4], none, none, none, none]⟩ hmix (by kernel_rfl) rfl rfl ?_
  refine ldB (v := .agg _) rfl rfl rfl rfl ti33 rfl rfl ?_
  obtain ⟨r1, hr1, hR⟩ := bindE hR
  refine cls [] rfl rfl cb25 (ok25 c _ hr1) (.cons (.agg (.cons (.sc _) (.cons (.sc _) (.cons ldR' (.nil)))) rfl) (.nil)) (.inr rfl) rfl ?_
  refine ldB (v := .agg _) rfl rfl rfl rfl ti36 rfl rfl ?_
  obtain ⟨r2, hr2, hR⟩ := bindE hR
  refine cls [] rfl rfl cb26 (ok26 level _ hr2) (.cons (.agg (.cons (.sc _) (.cons (.sc _) (.cons (.sc _) (.nil)))) rfl) (.nil)) (.inr rfl) rfl ?_
  refine bs (α := Int) 40 true ([r1, r2] : List Int) rfl rfl ti87 rfl ti45 rfl rfl rfl rfl rfl ?_
  obtain ⟨r3, hr3, hR⟩ := bindE hR
  refine cls [40] rfl rfl cb24 (ok24 ([r1, r2] : List Int) _ hr3) (.cons (ldS' rfl rfl rfl rfl) (.nil)) (.inl (by first | rfl | exact freshR | exact freshA | (simp only [V.fresh, V.freshs, freshR, freshA, Bool.and_self]))) rfl ?_
  refine pu (v := .sc _) rfl rfl (fun _ => rfl) ?_
  refine RunC.fin ?_
  refine AWP.sq ?_
  refine AWP.rgC 60 rfl rfl ?_
  refine pu (v := .sc _) rfl rfl (fun _ => rfl) ?_
  refine pu (v := .sc _) rfl rfl (fun _ => rfl) ?_
  refine RunC.fin ?_
  refine AWP.cd hR rfl (fun h4 hR => ?_) fun h4 hR => ?_
  · refine AWP.sq ?_
    refine AWP.rgC 76 rfl rfl ?_
    refine pu (v := .sc _) rfl rfl (fun _ => rfl) ?_
    refine pu (v := .sc _) rfl rfl (fun _ => rfl) ?_
    refine pu (v := .sc _) rfl rfl (fun _ => rfl) ?_
    refine pu (v := .sc _) rfl rfl (fun _ => rfl) ?_
    refine RunC.fin ?_
    refine AWP.ret ?_
    refine rtT ?_
    have hR := Option.some.inj hR; subst hR
    exact hQ _ _ (LS.mk [(8, rowV (α := Int) true []), (9, rowV (α := Bound) true []), (10, .sc (.int .i64 r3))] (lblks 0 []) 0) (.tup [rowV (α := Int) true [], rowV (α := Bound) true [], .sc (.int .i64 r3)]) [] (.inr rfl) (Weak.turnL [] [] rfl rfl (tc trN (tc trN (tc (.sc _) tn))) mn) (ro3 (rvT (v := rowV (α := Int) true []) rfl) (rvT (v := rowV (α := Bound) true []) rfl) (rvT (v := .sc (.int .i64 r3)) rfl)) rfl rfl (.tup (.cons ldR' (.cons ldR' (.cons (.sc _) .nil)))) pn
  · refine AWP.skip ?_
    refine skT ?_
    refine AWP.sq ?_
    refine AWP.block ?_
    refine AWP.joinX (fun z5 : Bool => LS.mk [(3, .sc (.int .i64 reach)), (4, .ptr 0 0 0), (5, .ptr 1 0 0), (6, .ptr 2 0 0), (24, .sc (.bool z5))] (lblks 0 [boxB (α := Cells) false c, boxB (α := Bound) true level, boxB (α := Source_) false s]) 3) hR (fun o5 hR => ?_) fun z5 hR => ?_
    · refine AWP.rgC 108 rfl rfl ?_
      refine fa rfl rfl ti39 rfl rfl ti3 rfl ?_
      refine ldB (v := .sc _) rfl rfl rfl rfl ti3 rfl rfl ?_
      refine pu (v := .sc _) rfl rfl (fun _ => rfl) ?_
      refine pu (v := .sc _) rfl rfl (fun _ => rfl) ?_
      refine brR hR (fun h6 hR => ?_) fun h6 hR => ?_
      · refine sk (skW rfl rfl rfl h6) ?_
        refine sk (skW rfl rfl rfl h6) ?_
        refine sk (skW rfl rfl rfl h6) ?_
        refine sk (skW rfl rfl rfl h6) ?_
        refine sk (skW rfl rfl rfl h6) ?_
        refine sk (skW rfl rfl rfl h6) ?_
        refine pkT (v := .sc (.bool true)) rfl rfl h6 rfl ?_
        refine pu (v := .sc _) rfl rfl (fun _ => rfl) ?_
        refine RunC.fin ?_
        have hR := Option.some.inj hR; subst hR
        exact Weak.turnL [(0, 0), (4, 0), (8, 0)] [] rfl rfl (tc (.sc _) (tc (trP' rfl rfl rfl rfl) (tc (trP' rfl rfl rfl rfl) (tc (trP' rfl rfl rfl rfl) (tc (.sc _) tn))))) (mc rfl (.box rfl (.cons (.sc _) (.cons (.sc _) (.cons trR1 (.nil)))) rfl) (mc rfl (.box rfl (.cons (.sc _) (.cons (.sc _) (.cons (.sc _) (.nil)))) rfl) (mc rfl (.box rfl (.cons (.sc _) (.cons trR1 (.nil))) rfl) mn)))
      · refine fa (wtG rfl rfl rfl h6) rfl ti39 rfl rfl ti3 rfl ?_
        refine ldB (v := .sc _) (wtG rfl rfl rfl h6) rfl rfl rfl ti3 rfl rfl ?_
        refine fa (wtG rfl rfl rfl h6) rfl ti33 rfl rfl ti31 rfl ?_
        refine ldB (v := rowV _ c.At) (wtG rfl rfl rfl h6) rfl rfl rfl ti31 rfl rfl ?_
        refine lenL (α := Bound) (wtG rfl rfl rfl h6) rfl ti31 rfl ?_
        refine pu (v := .sc _) (wtG rfl rfl rfl h6) rfl (fun _ => rfl) ?_
        refine pkF (v := .sc (.bool (decide (s.Peak ≥ (c.At.length : Int))))) rfl rfl h6 rfl ?_
        refine pu (v := .sc _) rfl rfl (fun _ => rfl) ?_
        refine RunC.fin ?_
        have hR := Option.some.inj hR; subst hR
        exact Weak.turnL [(0, 0), (4, 0), (8, 0)] [] rfl rfl (tc (.sc _) (tc (trP' rfl rfl rfl rfl) (tc (trP' rfl rfl rfl rfl) (tc (trP' rfl rfl rfl rfl) (tc (.sc _) tn))))) (mc rfl (.box rfl (.cons (.sc _) (.cons (.sc _) (.cons trR1 (.nil)))) rfl) (mc rfl (.box rfl (.cons (.sc _) (.cons (.sc _) (.cons (.sc _) (.nil)))) rfl) (mc rfl (.box rfl (.cons (.sc _) (.cons trR1 (.nil))) rfl) mn)))
    · refine AWP.cd hR rfl (fun h7 hR => ?_) fun h7 hR => ?_
      · refine AWP.sq ?_
        refine AWP.rgC 15 rfl rfl ?_
        refine pu (v := .sc _) rfl rfl (fun _ => rfl) ?_
        refine pu (v := .sc _) rfl rfl (fun _ => rfl) ?_
        refine pu (v := .sc _) rfl rfl (fun _ => rfl) ?_
        refine RunC.fin ?_
        refine AWP.ret ?_
        refine rtB ?_
        refine rtT ?_
        have hR := Option.some.inj hR; subst hR
        exact hQ _ _ (LS.mk [(8, rowV (α := Int) true []), (9, rowV (α := Bound) true []), (10, .sc (.int .i64 4))] (lblks 0 []) 0) (.tup [rowV (α := Int) true [], rowV (α := Bound) true [], .sc (.int .i64 4)]) [] (.inr rfl) (Weak.turnL [] [] rfl rfl (tc trN (tc trN (tc (.sc _) tn))) mn) (ro3 (rvT (v := rowV (α := Int) true []) rfl) (rvT (v := rowV (α := Bound) true []) rfl) (rvT (v := .sc (.int .i64 4)) rfl)) rfl rfl (.tup (.cons ldR' (.cons ldR' (.cons (.sc _) .nil)))) pn
      · refine AWP.joinX (fun z8 : Bool => LS.mk [(3, .sc (.int .i64 reach)), (4, .ptr 0 0 0), (5, .ptr 1 0 0), (6, .ptr 2 0 0), (36, .sc (.bool z8))] (lblks 0 [boxB (α := Cells) false c, boxB (α := Bound) true level, boxB (α := Source_) false s]) 3) hR (fun o8 hR => ?_) fun z8 hR => ?_
        · refine AWP.rgC 31 rfl rfl ?_
          refine pu (v := .sc _) rfl rfl (fun _ => rfl) ?_
          refine pu (v := .sc _) rfl rfl (fun _ => rfl) ?_
          refine pu (v := .sc _) rfl rfl (fun _ => rfl) ?_
          refine brR hR (fun h9 hR => ?_) fun h9 hR => ?_
          · refine sk (skW rfl rfl rfl h9) ?_
            refine sk (skW rfl rfl rfl h9) ?_
            refine pkT (v := .sc (.bool true)) rfl rfl h9 rfl ?_
            refine pu (v := .sc _) rfl rfl (fun _ => rfl) ?_
            refine RunC.fin ?_
            have hR := Option.some.inj hR; subst hR
            exact Weak.turnL [(0, 0), (1, 0), (2, 0)] [] rfl rfl (tc (.sc _) (tc (trP' rfl rfl rfl rfl) (tc (trP' rfl rfl rfl rfl) (tc (trP' rfl rfl rfl rfl) (tc (.sc _) tn))))) (mc rfl (.box rfl (.cons (.sc _) (.cons (.sc _) (.cons trR1 (.nil)))) rfl) (mc rfl (.box rfl (.cons (.sc _) (.cons (.sc _) (.cons (.sc _) (.nil)))) rfl) (mc rfl (.box rfl (.cons (.sc _) (.cons trR1 (.nil))) rfl) mn)))
          · refine pu (v := .sc _) (wtG rfl rfl rfl h9) rfl (fun _ => rfl) ?_
            refine pu (v := .sc _) (wtG rfl rfl rfl h9) rfl (fun _ => rfl) ?_
            refine pkF (v := .sc (.bool (decide (reach > 10)))) rfl rfl h9 rfl ?_
            refine pu (v := .sc _) rfl rfl (fun _ => rfl) ?_
            refine RunC.fin ?_
            have hR := Option.some.inj hR; subst hR
            exact Weak.turnL [(0, 0), (1, 0), (2, 0)] [] rfl rfl (tc (.sc _) (tc (trP' rfl rfl rfl rfl) (tc (trP' rfl rfl rfl rfl) (tc (trP' rfl rfl rfl rfl) (tc (.sc _) tn))))) (mc rfl (.box rfl (.cons (.sc _) (.cons (.sc _) (.cons trR1 (.nil)))) rfl) (mc rfl (.box rfl (.cons (.sc _) (.cons (.sc _) (.cons (.sc _) (.nil)))) rfl) (mc rfl (.box rfl (.cons (.sc _) (.cons trR1 (.nil))) rfl) mn)))
        · refine AWP.cd hR rfl (fun h10 hR => ?_) fun h10 hR => ?_
          · refine AWP.sq ?_
            refine AWP.rgC 15 rfl rfl ?_
            refine pu (v := .sc _) rfl rfl (fun _ => rfl) ?_
            refine pu (v := .sc _) rfl rfl (fun _ => rfl) ?_
            refine pu (v := .sc _) rfl rfl (fun _ => rfl) ?_
            refine RunC.fin ?_
            refine AWP.ret ?_
            refine rtB ?_
            refine rtT ?_
            have hR := Option.some.inj hR; subst hR
            exact hQ _ _ (LS.mk [(8, rowV (α := Int) true []), (9, rowV (α := Bound) true []), (10, .sc (.int .i64 1))] (lblks 0 []) 0) (.tup [rowV (α := Int) true [], rowV (α := Bound) true [], .sc (.int .i64 1)]) [] (.inr rfl) (Weak.turnL [] [] rfl rfl (tc trN (tc trN (tc (.sc _) tn))) mn) (ro3 (rvT (v := rowV (α := Int) true []) rfl) (rvT (v := rowV (α := Bound) true []) rfl) (rvT (v := .sc (.int .i64 1)) rfl)) rfl rfl (.tup (.cons ldR' (.cons ldR' (.cons (.sc _) .nil)))) pn
          · refine AWP.skip ?_
            refine skB ?_
            refine skT ?_
            refine AWP.sq ?_
            refine AWP.rgC 35 rfl rfl ?_
            refine ldB (v := .agg _) rfl rfl rfl rfl ti39 rfl rfl ?_
            refine fa rfl rfl ti33 rfl rfl ti3 rfl ?_
            refine ldB (v := .sc _) rfl rfl rfl rfl ti3 rfl rfl ?_
            refine fa rfl rfl ti33 rfl rfl ti3 rfl ?_
            refine ldB (v := .sc _) rfl rfl rfl rfl ti3 rfl rfl ?_
            refine pu (v := .sc _) rfl rfl (fun _ => rfl) ?_
            obtain ⟨r11, hr11, hR⟩ := bindE hR
            refine cls [] rfl rfl cb19 (ok19 s c.W c.H reach _ hr11) (.cons (.agg (.cons (.sc _) (.cons ldR' (.nil))) rfl) (.cons (.sc _) (.cons (.sc _) (.cons (.sc _) (.nil))))) (.inr rfl) rfl ?_
            refine pu (v := rowV _ r11) rfl rfl (fun _ => rfl) ?_
            refine RunC.fin ?_
            refine AWP.sq ?_
            refine AWP.rgC 71 rfl rfl ?_
            refine ldB (v := .agg _) rfl rfl rfl rfl ti33 rfl rfl ?_
            refine ldB (v := .agg _) rfl rfl rfl rfl ti36 rfl rfl ?_
            refine pu (v := rowV _ r11) rfl rfl (fun _ => rfl) ?_
            obtain ⟨r12, hr12, hR⟩ := bindE hR
            refine cls [] rfl rfl cb27 (ok27 c level r11 _ hr12) (.cons (.agg (.cons (.sc _) (.cons (.sc _) (.cons ldR' (.nil)))) rfl) (.cons (.agg (.cons (.sc _) (.cons (.sc _) (.cons (.sc _) (.nil)))) rfl) (.cons ldR' (.nil)))) (.inr rfl) rfl ?_
            refine pu (v := .tup _) rfl rfl (fun _ => rfl) ?_
            refine pu (v := rowV _ r12.1) rfl rfl (fun _ => rfl) ?_
            refine pu (v := .sc _) rfl rfl (fun _ => rfl) ?_
            refine pu (v := rowV _ r12.1) rfl rfl (fun _ => rfl) ?_
            refine pu (v := .sc _) rfl rfl (fun _ => rfl) ?_
            refine RunC.fin ?_
            refine AWP.sq ?_
            refine AWP.rgC 95 rfl rfl ?_
            refine pu (v := rowV _ r11) rfl rfl (fun _ => rfl) ?_
            refine pu (v := rowV _ r12.1) rfl rfl (fun _ => rfl) ?_
            refine pu (v := .sc _) rfl rfl (fun _ => rfl) ?_
            refine pu (v := rowV _ r11) rfl rfl (fun _ => rfl) ?_
            refine pu (v := rowV _ r12.1) rfl rfl (fun _ => rfl) ?_
            refine pu (v := .sc _) rfl rfl (fun _ => rfl) ?_
            refine RunC.fin ?_
            refine AWP.ret ?_
            have hR := Option.some.inj hR; subst hR
            exact hQ _ _ (LS.mk [(8, rowV (α := Int) true r11), (9, rowV (α := Bound) true r12.1), (10, .sc (.int .i64 r12.2))] (lblks 0 []) 0) (.tup [rowV (α := Int) true r11, rowV (α := Bound) true r12.1, .sc (.int .i64 r12.2)]) [] (.inr rfl) (Weak.turnL [] [] rfl rfl (tc trR1 (tc trR1 (tc (.sc _) tn))) mn) (ro3 (rvT (v := rowV (α := Int) true r11) rfl) (rvT (v := rowV (α := Bound) true r12.1) rfl) (rvT (v := .sc (.int .i64 r12.2)) rfl)) rfl rfl (.tup (.cons ldR' (.cons ldR' (.cons (.sc _) .nil)))) pn
theorem ok12 (s : spymake_Stream) (n : Int) (r : Int × spymake_Stream) (hR : Stream_Next s n = some r) : FnD Try.prog 12 [boxB false s] [.ptr 0 0 0, .sc (.int .i64 n)] (.sc (.int .i64 r.1)) [boxB false r.2] := by
  refine FnX.walk Try.func12 rfl 64 1 (by simp [Try.ntmps12]) rfl fun W S F Q hQ => ?_
  unfold Stream_Next at hR
  refine AWP.sq ?_
  refine AWP.rgC 5 rfl rfl ?_
  refine pu (v := .sc _) rfl rfl (fun _ => rfl) ?_
  refine RunC.fin ?_
  refine AWP.sq ?_
  refine AWP.rgC 37 rfl rfl ?_
  refine pu (v := .ptr _ _ _) rfl rfl (fun _ => rfl) ?_
  refine pu (v := .ptr _ _ _) rfl rfl (fun _ => rfl) ?_
  refine fa rfl rfl ti25 rfl rfl ti3 rfl ?_
  refine ldB (v := .sc _) rfl rfl rfl rfl ti3 rfl rfl ?_
  refine pu (v := .sc _) rfl rfl (fun _ => rfl) ?_
  refine pu (v := .ptr _ _ _) rfl rfl (fun _ => rfl) ?_
  refine fa rfl rfl ti25 rfl rfl ti3 rfl ?_
  refine stB (cs' := [rowV (α := Int) false s.L, .sc (.int .i64 (w6 (s.at_ + 1)))]) rfl rfl rfl rfl ti3 rfl rfl rfl rfl rfl ?_
  refine RunC.fin ?_
  refine AWP.sq ?_
  refine AWP.sq ?_
  refine AWP.rgC 61 rfl rfl ?_
  refine pu (v := .ptr _ _ _) rfl rfl (fun _ => rfl) ?_
  refine pu (v := .ptr _ _ _) rfl rfl (fun _ => rfl) ?_
  refine fa rfl rfl ti25 rfl rfl ti22 rfl ?_
  refine ldB (v := rowV _ s.L) rfl rfl rfl rfl ti22 rfl rfl ?_
  refine lenL (α := Int) rfl rfl ti22 rfl ?_
  refine pu (v := .sc _) rfl rfl (fun _ => rfl) ?_
  refine RunC.fin ?_
  refine AWP.cd hR rfl (fun h1 hR => ?_) fun h1 hR => ?_
  · refine AWP.sq ?_
    refine AWP.rgC 93 rfl rfl ?_
    refine pu (v := .ptr _ _ _) rfl rfl (fun _ => rfl) ?_
    refine pu (v := .ptr _ _ _) rfl rfl (fun _ => rfl) ?_
    refine fa rfl rfl ti25 rfl rfl ti3 rfl ?_
    refine ldB (v := .sc _) rfl rfl rfl rfl ti3 rfl rfl ?_
    refine pu (v := .sc _) rfl rfl (fun _ => rfl) ?_
    refine pu (v := .sc _) rfl rfl (fun _ => rfl) ?_
    obtain ⟨r2, hr2, hR⟩ := bindE hR
    refine cls [] rfl rfl cb23 (ok23 (w6 ((w6 (s.at_ + 1)) * 7919)) n _ hr2) (.cons (.sc _) (.cons (.sc _) (.nil))) (.inr rfl) rfl ?_
    refine pu (v := .sc _) rfl rfl (fun _ => rfl) ?_
    refine RunC.fin ?_
    refine AWP.ret ?_
    refine rtT ?_
    have hR := Option.some.inj hR; subst hR
    exact hQ _ _ (LS.mk [(4, .sc (.int .i64 r2))] (lblks 0 [boxB (α := spymake_Stream) false (spymake_Stream.mk s.L (w6 (s.at_ + 1)))]) 1) (.sc (.int .i64 r2)) [] (.inr rfl) (Weak.turnL [(0, 0)] [] rfl rfl (tc (.sc _) tn) (mc rfl (.box rfl (.cons trR1 (.cons (.sc _) (.nil))) rfl) mn)) (ro1 (rvT (v := .sc (.int .i64 r2)) rfl)) rfl rfl (.sc _) (pc rfl bldB pn)
  · refine AWP.skip ?_
    refine skT ?_
    refine AWP.sq ?_
    refine AWP.rgD 109 [0, 1, 3, 7, 15, 0, 32, 96, 224, 480, 1023, 2047] ⟨[], [none, none, none, some [0], none, none, none, none, some [0], none, none, none]⟩ hmix (by kernel_rfl) rfl rfl ?_
    refine pu (v := .ptr _ _ _) rfl rfl (fun _ => rfl) ?_
    refine pu (v := .ptr _ _ _) rfl rfl (fun _ => rfl) ?_
    refine fa rfl rfl ti25 rfl rfl ti3 rfl ?_
    refine ldB (v := .sc _) rfl rfl rfl rfl ti3 rfl rfl ?_
    refine pu (v := .sc _) rfl rfl (fun _ => rfl) ?_
    refine pu (v := .ptr _ _ _) rfl rfl (fun _ => rfl) ?_
    refine pu (v := .ptr _ _ _) rfl rfl (fun _ => rfl) ?_
    refine fa rfl rfl ti25 rfl rfl ti22 rfl ?_
    refine ldB (v := rowV _ s.L) rfl rfl rfl rfl ti22 rfl rfl ?_
    refine lenL (α := Int) rfl rfl ti22 rfl ?_
    obtain ⟨h3, hR⟩ := chkE hR
    refine rm rfl rfl rfl h3 rfl ?_
    refine pu (v := .sc _) rfl rfl (fun _ => rfl) ?_
    refine RunC.fin ?_
    refine AWP.sq ?_
    refine AWP.rgD 157 [0, 1, 3, 7, 15, 0, 32, 96, 224, 480, 1023, 2047] ⟨[], [none, none, none, some [0], none, none, none, none, some [0], none, none, none]⟩ hmix (by kernel_rfl) rfl rfl ?_
    refine pu (v := .ptr _ _ _) rfl rfl (fun _ => rfl) ?_
    refine pu (v := .ptr _ _ _) rfl rfl (fun _ => rfl) ?_
    refine fa rfl rfl ti25 rfl rfl ti3 rfl ?_
    refine ldB (v := .sc _) rfl rfl rfl rfl ti3 rfl rfl ?_
    refine pu (v := .sc _) rfl rfl (fun _ => rfl) ?_
    refine pu (v := .ptr _ _ _) rfl rfl (fun _ => rfl) ?_
    refine pu (v := .ptr _ _ _) rfl rfl (fun _ => rfl) ?_
    refine fa rfl rfl ti25 rfl rfl ti22 rfl ?_
    refine ldB (v := rowV _ s.L) rfl rfl rfl rfl ti22 rfl rfl ?_
    refine lenL (α := Int) rfl rfl ti22 rfl ?_
    refine qu rfl rfl rfl h3 rfl ?_
    refine pu (v := .sc _) rfl rfl (fun _ => rfl) ?_
    refine RunC.fin ?_
    refine AWP.sq ?_
    refine AWP.rgC 221 rfl rfl ?_
    refine pu (v := .ptr _ _ _) rfl rfl (fun _ => rfl) ?_
    refine pu (v := .ptr _ _ _) rfl rfl (fun _ => rfl) ?_
    refine fa rfl rfl ti25 rfl rfl ti22 rfl ?_
    refine ldB (v := rowV _ s.L) rfl rfl rfl rfl ti22 rfl rfl ?_
    refine pu (v := .sc _) rfl rfl (fun _ => rfl) ?_
    obtain ⟨h4, hR⟩ := chkE hR
    refine ixL (α := Int) rfl rfl rfl ti22 rfl ti3 rfl h4 ?_
    refine ldR (v := .sc _) rfl rfl ti3 rfl ?_
    obtain ⟨r5, hr5, hR⟩ := bindE hR
    refine cls [] rfl rfl cb23 (ok23 (gt s.L (Int.tmod (w6 ((w6 (s.at_ + 1)) - 1)) (s.L.length : Int))) 1073741824 _ hr5) (.cons (.sc _) (.cons (.sc _) (.nil))) (.inr rfl) rfl ?_
    refine pu (v := .sc _) rfl rfl (fun _ => rfl) ?_
    refine pu (v := .sc _) rfl rfl (fun _ => rfl) ?_
    obtain ⟨v6, ev6, hR⟩ := letE hR
    refine pu (v := .sc _) rfl rfl (fun _ => puI ev6) ?_
    obtain ⟨v7, ev7, hR⟩ := letE hR
    refine pu (v := .sc _) rfl rfl (fun _ => puI ev7) ?_
    refine pu (v := .sc _) rfl rfl (fun _ => rfl) ?_
    refine pu (v := .sc _) rfl rfl (fun _ => rfl) ?_
    obtain ⟨r8, hr8, hR⟩ := bindE hR
    refine cls [] rfl rfl cb23 (ok23 (w6 (r5 + v7)) n _ hr8) (.cons (.sc _) (.cons (.sc _) (.nil))) (.inr rfl) rfl ?_
    refine pu (v := .sc _) rfl rfl (fun _ => rfl) ?_
    refine RunC.fin ?_
    refine AWP.ret ?_
    have hR := Option.some.inj hR; subst hR
    exact hQ _ _ (LS.mk [(4, .sc (.int .i64 r8))] (lblks 0 [boxB (α := spymake_Stream) false (spymake_Stream.mk s.L (w6 (s.at_ + 1)))]) 1) (.sc (.int .i64 r8)) [] (.inr rfl) (Weak.turnL [(0, 0)] [] rfl rfl (tc (.sc _) tn) (mc rfl (.box rfl (.cons trR1 (.cons (.sc _) (.nil))) rfl) mn)) (ro1 (rvT (v := .sc (.int .i64 r8)) rfl)) rfl rfl (.sc _) (pc rfl bldB pn)
theorem ok11 (b : Bound) (a : Bound) (r : Bool) (hR : spykeep4_MeasureSharper_1 b a = some r) : FnP Try.prog 11 [aggV false b, aggV false a] (.sc (.bool r)) := by
  refine fnP_of (FnX.walk Try.func11 rfl 26 0 (by simp [Try.ntmps11]) rfl fun W S F Q hQ => ?_)
  unfold spykeep4_MeasureSharper_1 at hR
  refine AWP.sq ?_
  refine AWP.rgC 12 rfl rfl ?_
  refine bx (cs := _) 0 rfl rfl rfl ?_
  refine bx (cs := _) 4 rfl rfl rfl ?_
  refine pu (v := .sc _) rfl rfl (fun _ => rfl) ?_
  refine RunC.fin ?_
  refine AWP.joinX (fun z1 : Bool => LS.mk [(4, .sc (.bool z1))] (lblks 0 []) 0) hR (fun o1 hR => ?_) fun z1 hR => ?_
  · refine AWP.rgC 100 rfl rfl ?_
    refine fa rfl rfl ti42 rfl rfl ti4 rfl ?_
    refine ldB (v := .sc _) rfl rfl rfl rfl ti4 rfl rfl ?_
    refine pu (v := .sc _) rfl rfl (fun _ => rfl) ?_
    refine brR hR (fun h2 hR => ?_) fun h2 hR => ?_
    · refine sk (skW rfl rfl rfl h2) ?_
      refine sk (skW rfl rfl rfl h2) ?_
      refine sk (skW rfl rfl rfl h2) ?_
      refine sk (skW rfl rfl rfl h2) ?_
      refine sk (skW2 rfl rfl rfl) ?_
      refine sk (skW2 rfl rfl rfl) ?_
      refine sk (skW2 rfl rfl rfl) ?_
      refine sk (skW2 rfl rfl rfl) ?_
      refine sk (skW2 rfl rfl rfl) ?_
      refine sk (skW rfl rfl rfl h2) ?_
      refine sk (skW rfl rfl rfl h2) ?_
      refine sk (skW2 rfl rfl rfl) ?_
      refine sk (skW2 rfl rfl rfl) ?_
      refine sk (skW2 rfl rfl rfl) ?_
      refine sk (skW2 rfl rfl rfl) ?_
      refine sk (skW2 rfl rfl rfl) ?_
      refine sk (skW rfl rfl rfl h2) ?_
      refine pkT (v := .sc (.bool true)) rfl rfl h2 rfl ?_
      refine pu (v := .sc _) rfl rfl (fun _ => rfl) ?_
      refine RunC.fin ?_
      have hR := Option.some.inj hR; subst hR
      exact Weak.turnL [] [] rfl rfl (tc (.sc _) tn) mn
    · refine fa (wtG rfl rfl rfl h2) rfl ti42 rfl rfl ti4 rfl ?_
      refine ldB (v := .sc _) (wtG rfl rfl rfl h2) rfl rfl rfl ti4 rfl rfl ?_
      refine pu (v := .sc _) (wtG rfl rfl rfl h2) rfl (fun _ => rfl) ?_
      refine pu (v := .sc _) (wtG rfl rfl rfl h2) rfl (fun _ => rfl) ?_
      refine brR hR (fun h3 hR => ?_) fun h3 hR => ?_
      · refine fa (wtG rfl rfl rfl h3) rfl ti42 rfl rfl ti40 rfl ?_
        refine ldB (v := .sc _) (wtG rfl rfl rfl h3) rfl rfl rfl ti40 rfl rfl ?_
        refine fa (wtG rfl rfl rfl h3) rfl ti42 rfl rfl ti40 rfl ?_
        refine ldB (v := .sc _) (wtG rfl rfl rfl h3) rfl rfl rfl ti40 rfl rfl ?_
        refine pu (v := .sc _) (wtG rfl rfl rfl h3) rfl (fun _ => rfl) ?_
        refine pkT (v := .sc (.bool (decide (a.Lo ≤ b.Lo)))) (wtG rfl rfl rfl h2) rfl h3 rfl ?_
        refine pu (v := .sc _) (wtG rfl rfl rfl h2) rfl (fun _ => rfl) ?_
        refine brR hR (fun h4 hR => ?_) fun h4 hR => ?_
        · refine fa (wtG rfl rfl rfl h4) rfl ti42 rfl rfl ti40 rfl ?_
          refine ldB (v := .sc _) (wtG rfl rfl rfl h4) rfl rfl rfl ti40 rfl rfl ?_
          refine fa (wtG rfl rfl rfl h4) rfl ti42 rfl rfl ti40 rfl ?_
          refine ldB (v := .sc _) (wtG rfl rfl rfl h4) rfl rfl rfl ti40 rfl rfl ?_
          refine pu (v := .sc _) (wtG rfl rfl rfl h4) rfl (fun _ => rfl) ?_
          refine pkT (v := .sc (.bool (decide (b.Hi ≤ a.Hi)))) (wtG rfl rfl rfl h2) rfl h4 rfl ?_
          refine pkF (v := .sc (.bool (decide (b.Hi ≤ a.Hi)))) rfl rfl h2 rfl ?_
          refine pu (v := .sc _) rfl rfl (fun _ => rfl) ?_
          refine RunC.fin ?_
          have hR := Option.some.inj hR; subst hR
          exact Weak.turnL [] [] rfl rfl (tc (.sc _) tn) mn
        · refine sk (skW rfl rfl rfl h4) ?_
          refine sk (skW rfl rfl rfl h4) ?_
          refine sk (skW rfl rfl rfl h4) ?_
          refine sk (skW rfl rfl rfl h4) ?_
          refine sk (skW rfl rfl rfl h4) ?_
          refine pkF (v := .sc (.bool false)) (wtG rfl rfl rfl h2) rfl h4 rfl ?_
          refine pkF (v := .sc (.bool false)) rfl rfl h2 rfl ?_
          refine pu (v := .sc _) rfl rfl (fun _ => rfl) ?_
          refine RunC.fin ?_
          have hR := Option.some.inj hR; subst hR
          exact Weak.turnL [] [] rfl rfl (tc (.sc _) tn) mn
      · refine sk (skW rfl rfl rfl h3) ?_
        refine sk (skW rfl rfl rfl h3) ?_
        refine sk (skW rfl rfl rfl h3) ?_
        refine sk (skW rfl rfl rfl h3) ?_
        refine sk (skW rfl rfl rfl h3) ?_
        refine pkF (v := .sc (.bool false)) (wtG rfl rfl rfl h2) rfl h3 rfl ?_
        refine pu (v := .sc _) (wtG rfl rfl rfl h2) rfl (fun _ => rfl) ?_
        refine sk (skW rfl rfl rfl rfl) ?_
        refine sk (skW rfl rfl rfl rfl) ?_
        refine sk (skW rfl rfl rfl rfl) ?_
        refine sk (skW rfl rfl rfl rfl) ?_
        refine sk (skW rfl rfl rfl rfl) ?_
        refine pkF (v := .sc (.bool false)) (wtG rfl rfl rfl h2) rfl rfl rfl ?_
        refine pkF (v := .sc (.bool false)) rfl rfl h2 rfl ?_
        refine pu (v := .sc _) rfl rfl (fun _ => rfl) ?_
        refine RunC.fin ?_
        have hR := Option.some.inj hR; subst hR
        exact Weak.turnL [] [] rfl rfl (tc (.sc _) tn) mn
  · refine AWP.ret ?_
    have hR := Option.some.inj hR; subst hR
    exact hQ _ _ (LS.mk [(4, .sc (.bool z1))] (lblks 0 []) 0) (.sc (.bool z1)) [] (.inr rfl) (Weak.turnL [] [] rfl rfl (tc (.sc _) tn) mn) (ro1 (rvT (v := .sc (.bool z1)) rfl)) rfl rfl (.sc _) pn
theorem ok10 (r : Bool) (hR : spykeep4_weighed = some r) : FnP Try.prog 10 [] (.sc (.bool r)) := by
  refine fnP_of (FnX.walk Try.func10 rfl 18 0 (by simp [Try.ntmps10]) rfl fun W S F Q hQ => ?_)
  unfold spykeep4_weighed at hR
  refine AWP.sq ?_
  refine AWP.rgC 4 rfl rfl ?_
  refine pu (v := .sc _) rfl rfl (fun _ => rfl) ?_
  refine RunC.fin ?_
  refine AWP.sq ?_
  refine AWP.rgC 48 rfl rfl ?_
  refine bs (α := Int) 4 true ([0, 10] : List Int) rfl rfl ti62 rfl ti40 rfl rfl rfl rfl rfl ?_
  refine bu (cs := [.sc (.int .i64 1), .sc (.int .i64 1), .sc (.bool false)]) rfl bt36 rfl ?_
  refine bu (cs := [.sc (.int .i64 1), .sc (.int .i64 3), .sc (.bool false)]) rfl bt36 rfl ?_
  refine bs (α := Bound) 16 true ([Bound.mk 1 1 false, Bound.mk 1 3 false] : List Bound) rfl rfl ti31 rfl ti36 rfl rfl rfl rfl rfl ?_
  obtain ⟨r1, hr1, hR⟩ := bindE hR
  refine cls [4, 16] rfl rfl cb17 (ok17 ([0, 10] : List Int) ([Bound.mk 1 1 false, Bound.mk 1 3 false] : List Bound) _ hr1) (.cons (ldS' rfl rfl rfl rfl) (.cons (ldS' rfl rfl rfl rfl) (.nil))) (.inl (by first | rfl | exact freshR | exact freshA | (simp only [V.fresh, V.freshs, freshR, freshA, Bool.and_self]))) rfl ?_
  refine pu (v := .tup _) rfl rfl (fun _ => rfl) ?_
  refine pu (v := .agg _) rfl rfl (fun _ => rfl) ?_
  refine pu (v := .sc _) rfl rfl (fun _ => rfl) ?_
  refine al (cs := [.sc (.int .i64 0), .sc (.int .i64 0), .sc (.bool false)]) 36 rfl rfl ti42 rfl rfl ?_
  refine stB (cs' := [.sc (.int .i64 r1.1.Lo), .sc (.int .i64 r1.1.Hi), .sc (.bool r1.1.Unknown)]) rfl rfl rfl rfl ti42 rfl rfl rfl rfl rfl ?_
  refine pu (v := .sc _) rfl rfl (fun _ => rfl) ?_
  refine RunC.fin ?_
  refine AWP.joinX (fun z2 : Bool => LS.mk [(0, .sc (.bool z2))] (lblks 0 []) 0) hR (fun o2 hR => ?_) fun z2 hR => ?_
  · refine AWP.rgC 80 rfl rfl ?_
    refine pu (v := .sc _) rfl rfl (fun _ => rfl) ?_
    refine pu (v := .sc _) rfl rfl (fun _ => rfl) ?_
    refine pu (v := .sc _) rfl rfl (fun _ => rfl) ?_
    refine brR hR (fun h3 hR => ?_) fun h3 hR => ?_
    · refine ldB (v := .agg _) (wtG rfl rfl rfl h3) rfl rfl rfl ti42 rfl rfl ?_
      refine bu (cs := [.sc (.int .i64 5), .sc (.int .i64 8), .sc (.bool false)]) (wtG rfl rfl rfl h3) bt42 rfl ?_
      refine es (cs := [.sc (.int .i64 r1.1.Lo), .sc (.int .i64 r1.1.Hi), .sc (.bool r1.1.Unknown)]) (ds := [.sc (.int .i64 5), .sc (.int .i64 8), .sc (.bool false)]) (wtG rfl rfl rfl h3) rfl rfl qa42 qg42 (qe42 _ _ _ _ _ _) ?_
      refine pkT (v := .sc (.bool ((r1.1.Lo == 5) && ((r1.1.Hi == 8) && ((r1.1.Unknown == false) && (true)))))) rfl rfl h3 rfl ?_
      refine pu (v := .sc _) rfl rfl (fun _ => rfl) ?_
      refine RunC.fin ?_
      have hR := Option.some.inj hR; subst hR
      exact Weak.turnL [] [] rfl rfl (tc (.sc _) tn) mn
    · refine sk (skW rfl rfl rfl h3) ?_
      refine sk (skW rfl rfl rfl h3) ?_
      refine sk (skW rfl rfl rfl h3) ?_
      refine pkF (v := .sc (.bool false)) rfl rfl h3 rfl ?_
      refine pu (v := .sc _) rfl rfl (fun _ => rfl) ?_
      refine RunC.fin ?_
      have hR := Option.some.inj hR; subst hR
      exact Weak.turnL [] [] rfl rfl (tc (.sc _) tn) mn
  · refine AWP.ret ?_
    have hR := Option.some.inj hR; subst hR
    exact hQ _ _ (LS.mk [(0, .sc (.bool z2))] (lblks 0 []) 0) (.sc (.bool z2)) [] (.inr rfl) (Weak.turnL [] [] rfl rfl (tc (.sc _) tn) mn) (ro1 (rvT (v := .sc (.bool z2)) rfl)) rfl rfl (.sc _) pn
theorem ok9 (c : Cells) (level : Bound) (s : Source_) (reach : Int) (r : Bound × Int) (hR : measure_Sharp c level s reach = some r) : FnP Try.prog 9 [aggV false c, aggV false level, aggV false s, .sc (.int .i64 reach)] (.tup [aggV (α := Bound) true r.1, .sc (.int .i64 r.2)]) := by
  refine fnP_of (FnX.walk Try.func9 rfl 70 0 (by simp [Try.ntmps9]) rfl fun W S F Q hQ => ?_)
  unfold measure_Sharp at hR
  refine AWP.sq ?_
  refine AWP.rgC 20 rfl rfl ?_
  refine bx (cs := _) 0 rfl rfl rfl ?_
  refine bx (cs := _) 4 rfl rfl rfl ?_
  refine bx (cs := _) 8 rfl rfl rfl ?_
  refine al (cs := [.sc (.int .i64 0), .sc (.int .i64 0), .sc (.bool false)]) 12 rfl rfl ti50 rfl rfl ?_
  refine pu (v := .sc _) rfl rfl (fun _ => rfl) ?_
  refine RunC.fin ?_
  refine AWP.sq ?_
  refine AWP.rgC 68 rfl rfl ?_
  refine ldB (v := .agg _) rfl rfl rfl rfl ti33 rfl rfl ?_
  refine ldB (v := .agg _) rfl rfl rfl rfl ti36 rfl rfl ?_
  refine ldB (v := .agg _) rfl rfl rfl rfl ti39 rfl rfl ?_
  refine pu (v := .sc _) rfl rfl (fun _ => rfl) ?_
  obtain ⟨r1, hr1, hR⟩ := bindE hR
  refine cls [] rfl rfl cb13 (ok13 c level s reach _ hr1) (.cons (.agg (.cons (.sc _) (.cons (.sc _) (.cons ldR' (.nil)))) rfl) (.cons (.agg (.cons (.sc _) (.cons (.sc _) (.cons (.sc _) (.nil)))) rfl) (.cons (.agg (.cons (.sc _) (.cons ldR' (.nil))) rfl) (.cons (.sc _) (.nil))))) (.inr rfl) rfl ?_
  refine pu (v := .tup _) rfl rfl (fun _ => rfl) ?_
  refine pu (v := rowV _ r1.1) rfl rfl (fun _ => rfl) ?_
  refine pu (v := rowV _ r1.2.1) rfl rfl (fun _ => rfl) ?_
  refine pu (v := .sc _) rfl rfl (fun _ => rfl) ?_
  refine pu (v := rowV _ r1.1) rfl rfl (fun _ => rfl) ?_
  refine pu (v := rowV _ r1.2.1) rfl rfl (fun _ => rfl) ?_
  refine pu (v := .sc _) rfl rfl (fun _ => rfl) ?_
  refine RunC.fin ?_
  refine AWP.sq ?_
  refine AWP.sq ?_
  refine AWP.rgC 76 rfl rfl ?_
  refine pu (v := .sc _) rfl rfl (fun _ => rfl) ?_
  refine pu (v := .sc _) rfl rfl (fun _ => rfl) ?_
  refine RunC.fin ?_
  refine AWP.cd hR rfl (fun h2 hR => ?_) fun h2 hR => ?_
  · refine AWP.sq ?_
    refine AWP.rgC 92 rfl rfl ?_
    refine bu (cs := [.sc (.int .i64 0), .sc (.int .i64 0), .sc (.bool false)]) rfl bt50 rfl ?_
    refine pu (v := .sc _) rfl rfl (fun _ => rfl) ?_
    refine stB (cs' := [.sc (.int .i64 0), .sc (.int .i64 0), .sc (.bool false)]) rfl rfl rfl rfl ti50 rfl rfl rfl rfl rfl ?_
    refine pu (v := .sc _) rfl rfl (fun _ => rfl) ?_
    refine RunC.fin ?_
    refine AWP.ret ?_
    refine rtT ?_
    have hR := Option.some.inj hR; subst hR
    exact hQ _ _ (LS.mk [(8, .ptr 0 0 0), (9, .sc (.int .i64 r1.2.2))] (lblks 0 [boxB (α := Bound) true (Bound.mk 0 0 false)]) 1) (.tup [aggV (α := Bound) true (Bound.mk 0 0 false), .sc (.int .i64 r1.2.2)]) [] (.inr rfl) (Weak.turnL [(12, 0)] [] rfl rfl (tc (trP' rfl rfl rfl rfl) (tc (.sc _) tn)) (mc rfl (.box rfl (.cons (.sc _) (.cons (.sc _) (.cons (.sc _) (.nil)))) rfl) mn)) (ro2 (rvC (v := aggV (α := Bound) true (Bound.mk 0 0 false)) rfl rfl ti50 rfl) (rvT (v := .sc (.int .i64 r1.2.2)) rfl)) rfl rfl (.tup (.cons ldA (.cons (.sc _) .nil))) pn
  · refine AWP.skip ?_
    refine skT ?_
    refine AWP.sq ?_
    refine AWP.sq ?_
    refine AWP.rgC 100 rfl rfl ?_
    refine ldB (v := .agg _) rfl rfl rfl rfl ti33 rfl rfl ?_
    refine fa rfl rfl ti39 rfl rfl ti3 rfl ?_
    refine ldB (v := .sc _) rfl rfl rfl rfl ti3 rfl rfl ?_
    refine pu (v := .sc _) rfl rfl (fun _ => rfl) ?_
    obtain ⟨r3, hr3, hR⟩ := bindE hR
    refine cls [] rfl rfl cb15 (ok15 c s.Peak reach _ hr3) (.cons (.agg (.cons (.sc _) (.cons (.sc _) (.cons ldR' (.nil)))) rfl) (.cons (.sc _) (.cons (.sc _) (.nil)))) (.inr rfl) rfl ?_
    refine pu (v := .sc _) rfl rfl (fun _ => rfl) ?_
    refine RunC.fin ?_
    refine AWP.cd hR rfl (fun h4 hR => ?_) fun h4 hR => ?_
    · refine AWP.sq ?_
      refine AWP.rgC 112 rfl rfl ?_
      obtain ⟨r5, hr5, hR⟩ := bindE hR
      refine cls [] rfl rfl cb18 (ok18 _ hr5) (.nil) (.inr rfl) rfl ?_
      refine stB (cs' := [.sc (.int .i64 r5.Lo), .sc (.int .i64 r5.Hi), .sc (.bool r5.Unknown)]) rfl rfl rfl rfl ti50 rfl rfl rfl rfl rfl ?_
      refine pu (v := .sc _) rfl rfl (fun _ => rfl) ?_
      refine RunC.fin ?_
      refine AWP.ret ?_
      refine rtT ?_
      have hR := Option.some.inj hR; subst hR
      exact hQ _ _ (LS.mk [(8, .ptr 0 0 0), (9, .sc (.int .i64 0))] (lblks 0 [boxB (α := Bound) true r5]) 1) (.tup [aggV (α := Bound) true r5, .sc (.int .i64 0)]) [] (.inr rfl) (Weak.turnL [(12, 0)] [] rfl rfl (tc (trP' rfl rfl rfl rfl) (tc (.sc _) tn)) (mc rfl (.box rfl (.cons (.sc _) (.cons (.sc _) (.cons (.sc _) (.nil)))) rfl) mn)) (ro2 (rvC (v := aggV (α := Bound) true r5) rfl rfl ti50 rfl) (rvT (v := .sc (.int .i64 0)) rfl)) rfl rfl (.tup (.cons ldA (.cons (.sc _) .nil))) pn
    · refine AWP.skip ?_
      refine skT ?_
      refine AWP.sq ?_
      refine AWP.rgC 128 rfl rfl ?_
      refine ldB (v := .agg _) rfl rfl rfl rfl ti39 rfl rfl ?_
      refine fa rfl rfl ti33 rfl rfl ti3 rfl ?_
      refine ldB (v := .sc _) rfl rfl rfl rfl ti3 rfl rfl ?_
      refine fa rfl rfl ti33 rfl rfl ti3 rfl ?_
      refine ldB (v := .sc _) rfl rfl rfl rfl ti3 rfl rfl ?_
      obtain ⟨r6, hr6, hR⟩ := bindE hR
      refine cls [] rfl rfl cb19 (ok19 s c.W c.H 1 _ hr6) (.cons (.agg (.cons (.sc _) (.cons ldR' (.nil))) rfl) (.cons (.sc _) (.cons (.sc _) (.cons (.sc _) (.nil))))) (.inr rfl) rfl ?_
      refine pu (v := rowV _ r6) rfl rfl (fun _ => rfl) ?_
      refine RunC.fin ?_
      refine AWP.sq ?_
      refine AWP.rgC 136 rfl rfl ?_
      refine al (cs := [.sc (.int .i64 0), .sc (.int .i64 0), .sc (.bool false)]) 128 rfl rfl ti36 rfl rfl ?_
      refine al (cs := [.sc (.int .i64 0), .sc (.int .i64 0), .sc (.bool false)]) 132 rfl rfl ti36 rfl rfl ?_
      refine RunC.fin ?_
      refine AWP.sq ?_
      refine AWP.sq ?_
      refine AWP.rgC 148 rfl rfl ?_
      refine pu (v := rowV _ r1.1) rfl rfl (fun _ => rfl) ?_
      refine lenL (α := Int) rfl rfl ti22 rfl ?_
      refine pu (v := .sc _) rfl rfl (fun _ => rfl) ?_
      refine RunC.fin ?_
      refine AWP.loopJ (fun s7 : Bound × Bound × Int => LS.mk [(8, .ptr 0 0 0), (11, rowV (α := Bound) true r1.2.1), (13, rowV (α := Int) true r6), (14, .ptr 1 0 0), (15, .ptr 2 0 0), (44, rowV (α := Int) true r1.1), (45, .sc (.int .i64 (r1.1.length : Int))), (46, .sc (.int .i64 s7.2.2))] (lblks 0 [boxB (α := Bound) true (Bound.mk 0 0 false), boxB (α := Bound) true s7.1, boxB (α := Bound) true s7.2.1]) 3) (fun z8 : Bound × Bound => LS.mk [(8, .ptr 0 0 0), (14, .ptr 1 0 0), (15, .ptr 2 0 0)] (lblks 0 [boxB (α := Bound) true (Bound.mk 0 0 false), boxB (α := Bound) true z8.1, boxB (α := Bound) true z8.2]) 3) (measure_Sharp.l1 r1 r6) hR (s0 := (Bound.mk 0 0 false, Bound.mk 0 0 false, 0)) (Weak.turnL [(12, 0), (128, 0), (132, 0)] [] rfl rfl (tc (trP' rfl rfl rfl rfl) (tc trR1 (tc trR1 (tc (trP' rfl rfl rfl rfl) (tc (trP' rfl rfl rfl rfl) (tc trR1 (tc (.sc _) (tc (.sc _) tn)))))))) (mc rfl (.box rfl (.cons (.sc _) (.cons (.sc _) (.cons (.sc _) (.nil)))) rfl) (mc rfl (.box rfl (.cons (.sc _) (.cons (.sc _) (.cons (.sc _) (.nil)))) rfl) (mc rfl (.box rfl (.cons (.sc _) (.cons (.sc _) (.cons (.sc _) (.nil)))) rfl) mn)))) (fun s7 o7 hR => ?_) fun z8 hR => ?_
      · unfold measure_Sharp.l1 at hR
        refine AWP.sq ?_
        refine AWP.rgC 7 rfl rfl ?_
        refine pu (v := .sc _) rfl rfl (fun _ => rfl) ?_
        refine RunC.fin ?_
        refine AWP.sq ?_
        refine AWP.cd hR rfl (fun h9 hR => ?_) fun h9 hR => ?_
        · refine AWP.skip ?_
          refine skT ?_
          refine AWP.joinX (fun z10 : Bound × Bound => LS.mk [(8, .ptr 0 0 0), (11, rowV (α := Bound) true r1.2.1), (13, rowV (α := Int) true r6), (14, .ptr 1 0 0), (15, .ptr 2 0 0), (44, rowV (α := Int) true r1.1), (45, .sc (.int .i64 (r1.1.length : Int))), (46, .sc (.int .i64 s7.2.2))] (lblks 0 [boxB (α := Bound) true (Bound.mk 0 0 false), boxB (α := Bound) true z10.1, boxB (α := Bound) true z10.2]) 3) hR (fun o10 hR => ?_) fun z10 hR => ?_
          · refine AWP.block ?_
            refine AWP.sq ?_
            refine AWP.rgC 27 rfl rfl ?_
            refine pu (v := .sc _) rfl rfl (fun _ => rfl) ?_
            obtain ⟨h11, hR⟩ := chkE hR
            refine ixL (α := Int) rfl rfl rfl ti22 rfl ti3 rfl h11 ?_
            refine ldR (v := .sc _) rfl rfl ti3 rfl ?_
            refine pu (v := .sc _) rfl rfl (fun _ => rfl) ?_
            refine pu (v := .sc _) rfl rfl (fun _ => rfl) ?_
            refine RunC.fin ?_
            refine AWP.sq ?_
            refine AWP.rgC 39 rfl rfl ?_
            refine pu (v := rowV _ r6) rfl rfl (fun _ => rfl) ?_
            refine pu (v := .sc _) rfl rfl (fun _ => rfl) ?_
            obtain ⟨r12, hr12, hR⟩ := bindE hR
            refine cls [] rfl rfl cb20 (ok20 r6 (gt r1.1 s7.2.2) _ hr12) (.cons ldR' (.cons (.sc _) (.nil))) (.inr rfl) rfl ?_
            refine RunC.fin ?_
            refine AWP.cd hR rfl (fun h13 hR => ?_) fun h13 hR => ?_
            · refine AWP.rgD 67 [0, 0, 0, 6, 14, 31, 63] ⟨[], [some [1], none, none, none, some [], none, some [1]]⟩ hmix (by kernel_rfl) rfl rfl ?_
              refine ldB (v := .agg _) rfl rfl rfl rfl ti36 rfl rfl ?_
              refine pu (v := rowV _ r1.2.1) rfl rfl (fun _ => rfl) ?_
              refine pu (v := .sc _) rfl rfl (fun _ => rfl) ?_
              obtain ⟨h14, hR⟩ := chkE hR
              refine ixL (α := Bound) rfl rfl rfl ti31 rfl ti36 rfl h14 ?_
              refine ldR (v := .agg _) rfl rfl ti36 rfl ?_
              obtain ⟨r15, hr15, hR⟩ := bindE hR
              refine cls [] rfl rfl cb21 (ok21 s7.1 (gt r1.2.1 s7.2.2) _ hr15) (.cons (.agg (.cons (.sc _) (.cons (.sc _) (.cons (.sc _) (.nil)))) rfl) (.cons (.agg (.cons (.sc _) (.cons (.sc _) (.cons (.sc _) (.nil)))) rfl) (.nil))) (.inr rfl) rfl ?_
              refine stB (cs' := [.sc (.int .i64 r15.Lo), .sc (.int .i64 r15.Hi), .sc (.bool r15.Unknown)]) rfl rfl rfl rfl ti36 rfl rfl rfl rfl rfl ?_
              refine RunC.blk ?_
              refine RunC.fin ?_
              have hR := Option.some.inj hR; subst hR
              exact Weak.turnL [(0, 0), (1, 0), (2, 0)] [] rfl rfl (tc (trP' rfl rfl rfl rfl) (tc trR1 (tc trR1 (tc (trP' rfl rfl rfl rfl) (tc (trP' rfl rfl rfl rfl) (tc trR1 (tc (.sc _) (tc (.sc _) tn)))))))) (mc rfl (.box rfl (.cons (.sc _) (.cons (.sc _) (.cons (.sc _) (.nil)))) rfl) (mc rfl (.box rfl (.cons (.sc _) (.cons (.sc _) (.cons (.sc _) (.nil)))) rfl) (mc rfl (.box rfl (.cons (.sc _) (.cons (.sc _) (.cons (.sc _) (.nil)))) rfl) mn)))
            · refine AWP.rgD 67 [0, 0, 0, 6, 14, 31, 63] ⟨[], [some [2], none, none, none, some [], none, some [2]]⟩ hmix (by kernel_rfl) rfl rfl ?_
              refine ldB (v := .agg _) rfl rfl rfl rfl ti36 rfl rfl ?_
              refine pu (v := rowV _ r1.2.1) rfl rfl (fun _ => rfl) ?_
              refine pu (v := .sc _) rfl rfl (fun _ => rfl) ?_
              obtain ⟨h16, hR⟩ := chkE hR
              refine ixL (α := Bound) rfl rfl rfl ti31 rfl ti36 rfl h16 ?_
              refine ldR (v := .agg _) rfl rfl ti36 rfl ?_
              obtain ⟨r17, hr17, hR⟩ := bindE hR
              refine cls [] rfl rfl cb21 (ok21 s7.2.1 (gt r1.2.1 s7.2.2) _ hr17) (.cons (.agg (.cons (.sc _) (.cons (.sc _) (.cons (.sc _) (.nil)))) rfl) (.cons (.agg (.cons (.sc _) (.cons (.sc _) (.cons (.sc _) (.nil)))) rfl) (.nil))) (.inr rfl) rfl ?_
              refine stB (cs' := [.sc (.int .i64 r17.Lo), .sc (.int .i64 r17.Hi), .sc (.bool r17.Unknown)]) rfl rfl rfl rfl ti36 rfl rfl rfl rfl rfl ?_
              refine RunC.blk ?_
              refine RunC.fin ?_
              have hR := Option.some.inj hR; subst hR
              exact Weak.turnL [(0, 0), (1, 0), (2, 0)] [] rfl rfl (tc (trP' rfl rfl rfl rfl) (tc trR1 (tc trR1 (tc (trP' rfl rfl rfl rfl) (tc (trP' rfl rfl rfl rfl) (tc trR1 (tc (.sc _) (tc (.sc _) tn)))))))) (mc rfl (.box rfl (.cons (.sc _) (.cons (.sc _) (.cons (.sc _) (.nil)))) rfl) (mc rfl (.box rfl (.cons (.sc _) (.cons (.sc _) (.cons (.sc _) (.nil)))) rfl) (mc rfl (.box rfl (.cons (.sc _) (.cons (.sc _) (.cons (.sc _) (.nil)))) rfl) mn)))
          · refine AWP.rgC 11 rfl rfl ?_
            refine pu (v := .sc _) rfl rfl (fun _ => rfl) ?_
            refine pu (v := .sc _) rfl rfl (fun _ => rfl) ?_
            refine RunC.fin ?_
            refine ⟨(z10.1, z10.2, w6 (s7.2.2 + 1)), (Option.some.inj hR).symm, ?_⟩
            exact Weak.turnL [(0, 0), (1, 0), (2, 0)] [] rfl rfl (tc (trP' rfl rfl rfl rfl) (tc trR1 (tc trR1 (tc (trP' rfl rfl rfl rfl) (tc (trP' rfl rfl rfl rfl) (tc trR1 (tc (.sc _) (tc (.sc _) tn)))))))) (mc rfl (.box rfl (.cons (.sc _) (.cons (.sc _) (.cons (.sc _) (.nil)))) rfl) (mc rfl (.box rfl (.cons (.sc _) (.cons (.sc _) (.cons (.sc _) (.nil)))) rfl) (mc rfl (.box rfl (.cons (.sc _) (.cons (.sc _) (.cons (.sc _) (.nil)))) rfl) mn)))
        · refine AWP.exit ?_
          refine exT ?_
          refine exT ?_
          refine exH (skT ?_)
          refine ⟨(s7.1, s7.2.1), (Option.some.inj hR).symm, ?_⟩
          exact Weak.turnL [(0, 0), (1, 0), (2, 0)] [] rfl rfl (tc (trP' rfl rfl rfl rfl) (tc (trP' rfl rfl rfl rfl) (tc (trP' rfl rfl rfl rfl) tn))) (mc rfl (.box rfl (.cons (.sc _) (.cons (.sc _) (.cons (.sc _) (.nil)))) rfl) (mc rfl (.box rfl (.cons (.sc _) (.cons (.sc _) (.cons (.sc _) (.nil)))) rfl) (mc rfl (.box rfl (.cons (.sc _) (.cons (.sc _) (.cons (.sc _) (.nil)))) rfl) mn)))
      · refine skT ?_
        refine AWP.sq ?_
        refine AWP.rgC 23 rfl rfl ?_
        refine ldB (v := .agg _) rfl rfl rfl rfl ti36 rfl rfl ?_
        refine ldB (v := .agg _) rfl rfl rfl rfl ti36 rfl rfl ?_
        obtain ⟨r18, hr18, hR⟩ := bindE hR
        refine cls [] rfl rfl cb22 (ok22 z8.1 z8.2 _ hr18) (.cons (.agg (.cons (.sc _) (.cons (.sc _) (.cons (.sc _) (.nil)))) rfl) (.cons (.agg (.cons (.sc _) (.cons (.sc _) (.cons (.sc _) (.nil)))) rfl) (.nil))) (.inr rfl) rfl ?_
        refine stB (cs' := [.sc (.int .i64 r18.Lo), .sc (.int .i64 r18.Hi), .sc (.bool r18.Unknown)]) rfl rfl rfl rfl ti50 rfl rfl rfl rfl rfl ?_
        refine pu (v := .sc _) rfl rfl (fun _ => rfl) ?_
        refine RunC.fin ?_
        refine AWP.ret ?_
        have hR := Option.some.inj hR; subst hR
        exact hQ _ _ (LS.mk [(8, .ptr 0 0 0), (9, .sc (.int .i64 0))] (lblks 0 [boxB (α := Bound) true r18]) 1) (.tup [aggV (α := Bound) true r18, .sc (.int .i64 0)]) [] (.inr rfl) (Weak.turnL [(0, 0)] [] rfl rfl (tc (trP' rfl rfl rfl rfl) (tc (.sc _) tn)) (mc rfl (.box rfl (.cons (.sc _) (.cons (.sc _) (.cons (.sc _) (.nil)))) rfl) mn)) (ro2 (rvC (v := aggV (α := Bound) true r18) rfl rfl ti50 rfl) (rvT (v := .sc (.int .i64 0)) rfl)) rfl rfl (.tup (.cons ldA (.cons (.sc _) .nil))) pn
theorem ok8 (c : Cells) (level : Bound) (s : Source_) (reach : Int) (r : Measured × Int) (hR : measure_Measure c level s reach = some r) : FnP Try.prog 8 [aggV false c, aggV false level, aggV false s, .sc (.int .i64 reach)] (.tup [aggV (α := Measured) true r.1, .sc (.int .i64 r.2)]) := by
  refine fnP_of (FnX.walk Try.func8 rfl 89 0 (by simp [Try.ntmps8]) rfl fun W S F Q hQ => ?_)
  unfold measure_Measure at hR
  refine AWP.sq ?_
  refine AWP.rgC 20 rfl rfl ?_
  refine bx (cs := _) 0 rfl rfl rfl ?_
  refine bx (cs := _) 4 rfl rfl rfl ?_
  refine bx (cs := _) 8 rfl rfl rfl ?_
  refine al (cs := [.sc (.int .i64 0), .sc (.int .i64 0), .sc (.bool false), .sc (.int .i64 0), .sc (.int .i64 0), .sc (.bool false), .sc (.int .i64 0), .sc (.int .i64 0), .sc (.bool false)]) 12 rfl rfl ti44 rfl rfl ?_
  refine pu (v := .sc _) rfl rfl (fun _ => rfl) ?_
  refine RunC.fin ?_
  refine AWP.sq ?_
  refine AWP.rgC 68 rfl rfl ?_
  refine ldB (v := .agg _) rfl rfl rfl rfl ti33 rfl rfl ?_
  refine ldB (v := .agg _) rfl rfl rfl rfl ti36 rfl rfl ?_
  refine ldB (v := .agg _) rfl rfl rfl rfl ti39 rfl rfl ?_
  refine pu (v := .sc _) rfl rfl (fun _ => rfl) ?_
  obtain ⟨r1, hr1, hR⟩ := bindE hR
  refine cls [] rfl rfl cb13 (ok13 c level s reach _ hr1) (.cons (.agg (.cons (.sc _) (.cons (.sc _) (.cons ldR' (.nil)))) rfl) (.cons (.agg (.cons (.sc _) (.cons (.sc _) (.cons (.sc _) (.nil)))) rfl) (.cons (.agg (.cons (.sc _) (.cons ldR' (.nil))) rfl) (.cons (.sc _) (.nil))))) (.inr rfl) rfl ?_
  refine pu (v := .tup _) rfl rfl (fun _ => rfl) ?_
  refine pu (v := rowV _ r1.1) rfl rfl (fun _ => rfl) ?_
  refine pu (v := rowV _ r1.2.1) rfl rfl (fun _ => rfl) ?_
  refine pu (v := .sc _) rfl rfl (fun _ => rfl) ?_
  refine pu (v := rowV _ r1.1) rfl rfl (fun _ => rfl) ?_
  refine pu (v := rowV _ r1.2.1) rfl rfl (fun _ => rfl) ?_
  refine pu (v := .sc _) rfl rfl (fun _ => rfl) ?_
  refine RunC.fin ?_
  refine AWP.sq ?_
  refine AWP.sq ?_
  refine AWP.rgC 76 rfl rfl ?_
  refine pu (v := .sc _) rfl rfl (fun _ => rfl) ?_
  refine pu (v := .sc _) rfl rfl (fun _ => rfl) ?_
  refine RunC.fin ?_
  refine AWP.cd hR rfl (fun h2 hR => ?_) fun h2 hR => ?_
  · refine AWP.sq ?_
    refine AWP.rgC 92 rfl rfl ?_
    refine bu (cs := [.sc (.int .i64 0), .sc (.int .i64 0), .sc (.bool false), .sc (.int .i64 0), .sc (.int .i64 0), .sc (.bool false), .sc (.int .i64 0), .sc (.int .i64 0), .sc (.bool false)]) rfl bt44 rfl ?_
    refine pu (v := .sc _) rfl rfl (fun _ => rfl) ?_
    refine stB (cs' := [.sc (.int .i64 0), .sc (.int .i64 0), .sc (.bool false), .sc (.int .i64 0), .sc (.int .i64 0), .sc (.bool false), .sc (.int .i64 0), .sc (.int .i64 0), .sc (.bool false)]) rfl rfl rfl rfl ti44 rfl rfl rfl rfl rfl ?_
    refine pu (v := .sc _) rfl rfl (fun _ => rfl) ?_
    refine RunC.fin ?_
    refine AWP.ret ?_
    refine rtT ?_
    have hR := Option.some.inj hR; subst hR
    exact hQ _ _ (LS.mk [(8, .ptr 0 0 0), (9, .sc (.int .i64 r1.2.2))] (lblks 0 [boxB (α := Measured) true (Measured.mk (Bound.mk 0 0 false) (Bound.mk 0 0 false) (Bound.mk 0 0 false))]) 1) (.tup [aggV (α := Measured) true (Measured.mk (Bound.mk 0 0 false) (Bound.mk 0 0 false) (Bound.mk 0 0 false)), .sc (.int .i64 r1.2.2)]) [] (.inr rfl) (Weak.turnL [(12, 0)] [] rfl rfl (tc (trP' rfl rfl rfl rfl) (tc (.sc _) tn)) (mc rfl (.box rfl (.cons (.sc _) (.cons (.sc _) (.cons (.sc _) (.cons (.sc _) (.cons (.sc _) (.cons (.sc _) (.cons (.sc _) (.cons (.sc _) (.cons (.sc _) (.nil)))))))))) rfl) mn)) (ro2 (rvC (v := aggV (α := Measured) true (Measured.mk (Bound.mk 0 0 false) (Bound.mk 0 0 false) (Bound.mk 0 0 false))) rfl rfl ti44 rfl) (rvT (v := .sc (.int .i64 r1.2.2)) rfl)) rfl rfl (.tup (.cons ldA (.cons (.sc _) .nil))) pn
  · refine AWP.skip ?_
    refine skT ?_
    refine AWP.sq ?_
    refine AWP.rgC 92 rfl rfl ?_
    refine pu (v := rowV _ r1.2.1) rfl rfl (fun _ => rfl) ?_
    obtain ⟨r3, hr3, hR⟩ := bindE hR
    refine cls [] rfl rfl cb14 (ok14 r1.2.1 _ hr3) (.cons ldR' (.nil)) (.inr rfl) rfl ?_
    refine al (cs := [.sc (.int .i64 0), .sc (.int .i64 0), .sc (.bool false)]) 84 rfl rfl ti36 rfl rfl ?_
    refine stB (cs' := [.sc (.int .i64 r3.Lo), .sc (.int .i64 r3.Hi), .sc (.bool r3.Unknown)]) rfl rfl rfl rfl ti36 rfl rfl rfl rfl rfl ?_
    refine RunC.fin ?_
    refine AWP.sq ?_
    refine AWP.joinX (fun z4 : Bool => LS.mk [(4, .ptr 0 0 0), (8, .ptr 1 0 0), (10, rowV (α := Int) true r1.1), (11, rowV (α := Bound) true r1.2.1), (13, .ptr 2 0 0), (46, .sc (.bool z4))] (lblks 0 [boxB (α := Cells) false c, boxB (α := Measured) true (Measured.mk (Bound.mk 0 0 false) (Bound.mk 0 0 false) (Bound.mk 0 0 false)), boxB (α := Bound) true r3]) 3) hR (fun o4 hR => ?_) fun z4 hR => ?_
    · refine AWP.rgC 132 rfl rfl ?_
      refine fa rfl rfl ti36 rfl rfl ti4 rfl ?_
      refine ldB (v := .sc _) rfl rfl rfl rfl ti4 rfl rfl ?_
      refine pu (v := .sc _) rfl rfl (fun _ => rfl) ?_
      refine brR hR (fun h5 hR => ?_) fun h5 hR => ?_
      · refine sk (skW rfl rfl rfl h5) ?_
        refine sk (skW rfl rfl rfl h5) ?_
        refine sk (skW rfl rfl rfl h5) ?_
        refine sk (skW rfl rfl rfl h5) ?_
        refine sk (skW rfl rfl rfl h5) ?_
        refine sk (skW rfl rfl rfl h5) ?_
        refine pkT (v := .sc (.bool true)) rfl rfl h5 rfl ?_
        refine RunC.fin ?_
        have hR := Option.some.inj hR; subst hR
        exact Weak.turnL [(0, 0), (12, 0), (84, 0)] [] rfl rfl (tc (trP' rfl rfl rfl rfl) (tc (trP' rfl rfl rfl rfl) (tc trR1 (tc trR1 (tc (trP' rfl rfl rfl rfl) (tc (.sc _) tn)))))) (mc rfl (.box rfl (.cons (.sc _) (.cons (.sc _) (.cons trR1 (.nil)))) rfl) (mc rfl (.box rfl (.cons (.sc _) (.cons (.sc _) (.cons (.sc _) (.cons (.sc _) (.cons (.sc _) (.cons (.sc _) (.cons (.sc _) (.cons (.sc _) (.cons (.sc _) (.nil)))))))))) rfl) (mc rfl (.box rfl (.cons (.sc _) (.cons (.sc _) (.cons (.sc _) (.nil)))) rfl) mn)))
      · refine ldB (v := .agg _) (wtG rfl rfl rfl h5) rfl rfl rfl ti33 rfl rfl ?_
        refine fa (wtG rfl rfl rfl h5) rfl ti39 rfl rfl ti3 rfl ?_
        refine ldB (v := .sc _) (wtG rfl rfl rfl h5) rfl rfl rfl ti3 rfl rfl ?_
        refine pu (v := .sc _) (wtG rfl rfl rfl h5) rfl (fun _ => rfl) ?_
        obtain ⟨r6, hr6, hR⟩ := bindE hR
        refine cls [] (wtG rfl rfl rfl h5) rfl cb15 (ok15 c s.Peak reach _ hr6) (.cons (.agg (.cons (.sc _) (.cons (.sc _) (.cons ldR' (.nil)))) rfl) (.cons (.sc _) (.cons (.sc _) (.nil)))) (.inr rfl) rfl ?_
        refine pu (v := .sc _) (wtG rfl rfl rfl h5) rfl (fun _ => rfl) ?_
        refine pkF (v := .sc (.bool (!r6))) rfl rfl h5 rfl ?_
        refine RunC.fin ?_
        have hR := Option.some.inj hR; subst hR
        exact Weak.turnL [(0, 0), (12, 0), (84, 0)] [] rfl rfl (tc (trP' rfl rfl rfl rfl) (tc (trP' rfl rfl rfl rfl) (tc trR1 (tc trR1 (tc (trP' rfl rfl rfl rfl) (tc (.sc _) tn)))))) (mc rfl (.box rfl (.cons (.sc _) (.cons (.sc _) (.cons trR1 (.nil)))) rfl) (mc rfl (.box rfl (.cons (.sc _) (.cons (.sc _) (.cons (.sc _) (.cons (.sc _) (.cons (.sc _) (.cons (.sc _) (.cons (.sc _) (.cons (.sc _) (.cons (.sc _) (.nil)))))))))) rfl) (mc rfl (.box rfl (.cons (.sc _) (.cons (.sc _) (.cons (.sc _) (.nil)))) rfl) mn)))
    · refine AWP.cd hR rfl (fun h7 hR => ?_) fun h7 hR => ?_
      · refine AWP.sq ?_
        refine AWP.rgC 15 rfl rfl ?_
        obtain ⟨r8, hr8, hR⟩ := bindE hR
        refine cls [] rfl rfl cb16 (ok16 _ hr8) (.nil) (.inr rfl) rfl ?_
        refine stB (cs' := [.sc (.int .i64 r8.X.Lo), .sc (.int .i64 r8.X.Hi), .sc (.bool r8.X.Unknown), .sc (.int .i64 r8.Y.Lo), .sc (.int .i64 r8.Y.Hi), .sc (.bool r8.Y.Unknown), .sc (.int .i64 r8.Flux.Lo), .sc (.int .i64 r8.Flux.Hi), .sc (.bool r8.Flux.Unknown)]) rfl rfl rfl rfl ti44 rfl rfl rfl rfl rfl ?_
        refine pu (v := .sc _) rfl rfl (fun _ => rfl) ?_
        refine RunC.fin ?_
        refine AWP.ret ?_
        refine rtT ?_
        have hR := Option.some.inj hR; subst hR
        exact hQ _ _ (LS.mk [(8, .ptr 0 0 0), (9, .sc (.int .i64 0))] (lblks 0 [boxB (α := Measured) true r8]) 1) (.tup [aggV (α := Measured) true r8, .sc (.int .i64 0)]) [] (.inr rfl) (Weak.turnL [(1, 0)] [] rfl rfl (tc (trP' rfl rfl rfl rfl) (tc (.sc _) tn)) (mc rfl (.box rfl (.cons (.sc _) (.cons (.sc _) (.cons (.sc _) (.cons (.sc _) (.cons (.sc _) (.cons (.sc _) (.cons (.sc _) (.cons (.sc _) (.cons (.sc _) (.nil)))))))))) rfl) mn)) (ro2 (rvC (v := aggV (α := Measured) true r8) rfl rfl ti44 rfl) (rvT (v := .sc (.int .i64 0)) rfl)) rfl rfl (.tup (.cons ldA (.cons (.sc _) .nil))) pn
      · refine AWP.skip ?_
        refine skT ?_
        refine AWP.sq ?_
        refine AWP.rgC 11 rfl rfl ?_
        refine pu (v := .sc _) rfl rfl (fun _ => rfl) ?_
        refine pu (v := .sc _) rfl rfl (fun _ => rfl) ?_
        refine RunC.fin ?_
        refine AWP.sq ?_
        refine AWP.sq ?_
        refine AWP.rgC 23 rfl rfl ?_
        refine pu (v := rowV _ r1.1) rfl rfl (fun _ => rfl) ?_
        refine lenL (α := Int) rfl rfl ti22 rfl ?_
        refine pu (v := .sc _) rfl rfl (fun _ => rfl) ?_
        refine RunC.fin ?_
        refine AWP.nilT Int 14 40 rfl ?_
        refine AWP.nilT Int 15 40 rfl ?_
        refine AWP.loopJ (fun s9 : (List Int) × (List Int) × Int => LS.mk [(4, .ptr 0 0 0), (8, .ptr 1 0 0), (11, rowV (α := Bound) true r1.2.1), (13, .ptr 2 0 0), (14, slV Int 3 0 0 s9.1.length), (15, slV Int 4 0 0 s9.2.1.length), (48, rowV (α := Int) true r1.1), (49, .sc (.int .i64 (r1.1.length : Int))), (50, .sc (.int .i64 s9.2.2))] (lblks 0 [boxB (α := Cells) false c, boxB (α := Measured) true (Measured.mk (Bound.mk 0 0 false) (Bound.mk 0 0 false) (Bound.mk 0 0 false)), boxB (α := Bound) true r3, arrB (α := Int) 40 0 true s9.1, arrB (α := Int) 40 0 true s9.2.1]) 5) (fun z10 : (List Int) × (List Int) => LS.mk [(8, .ptr 0 0 0), (11, rowV (α := Bound) true r1.2.1), (13, .ptr 1 0 0), (14, slV Int 2 0 0 z10.1.length), (15, slV Int 3 0 0 z10.2.length)] (lblks 0 [boxB (α := Measured) true (Measured.mk (Bound.mk 0 0 false) (Bound.mk 0 0 false) (Bound.mk 0 0 false)), boxB (α := Bound) true r3, arrB (α := Int) 40 0 true z10.1, arrB (α := Int) 40 0 true z10.2]) 4) (measure_Measure.l1 c r1) hR (s0 := (([] : List Int), ([] : List Int), 0)) (Weak.turnL [(0, 0), (1, 0), (2, 0), (23, 0), (24, 0)] [] rfl rfl (tc (trP' rfl rfl rfl rfl) (tc (trP' rfl rfl rfl rfl) (tc trR1 (tc (trP' rfl rfl rfl rfl) (tc (trS' rfl rfl rfl rfl rfl) (tc (trS' rfl rfl rfl rfl rfl) (tc trR1 (tc (.sc _) (tc (.sc _) tn))))))))) (mc rfl (.box rfl (.cons (.sc _) (.cons (.sc _) (.cons trR1 (.nil)))) rfl) (mc rfl (.box rfl (.cons (.sc _) (.cons (.sc _) (.cons (.sc _) (.cons (.sc _) (.cons (.sc _) (.cons (.sc _) (.cons (.sc _) (.cons (.sc _) (.cons (.sc _) (.nil)))))))))) rfl) (mc rfl (.box rfl (.cons (.sc _) (.cons (.sc _) (.cons (.sc _) (.nil)))) rfl) (mc rfl (btrA' rfl) (mc rfl (btrA' rfl) mn)))))) (fun s9 o9 hR => ?_) fun z10 hR => ?_
        · unfold measure_Measure.l1 at hR
          refine AWP.sq ?_
          refine AWP.rgC 9 rfl rfl ?_
          refine pu (v := .sc _) rfl rfl (fun _ => rfl) ?_
          refine RunC.fin ?_
          refine AWP.sq ?_
          refine AWP.cd hR rfl (fun h11 hR => ?_) fun h11 hR => ?_
          · refine AWP.skip ?_
            refine skT ?_
            refine AWP.sq ?_
            refine AWP.block ?_
            refine AWP.sq ?_
            refine AWP.rgC 21 rfl rfl ?_
            obtain ⟨h12, hR⟩ := chkE hR
            refine ixL (α := Int) rfl rfl rfl ti22 rfl ti3 rfl h12 ?_
            refine ldR (v := .sc _) rfl rfl ti3 rfl ?_
            refine pu (v := .sc _) rfl rfl (fun _ => rfl) ?_
            refine RunC.fin ?_
            refine AWP.sq ?_
            refine AWP.rgC 61 rfl rfl ?_
            refine pu (v := slV Int _ _ _ _) rfl rfl (fun _ => rfl) ?_
            refine pu (v := .sc _) rfl rfl (fun _ => rfl) ?_
            refine fa rfl rfl ti33 rfl rfl ti3 rfl ?_
            refine ldB (v := .sc _) rfl rfl rfl rfl ti3 rfl rfl ?_
            obtain ⟨h13, hR⟩ := chkE hR
            refine rm rfl rfl rfl h13 rfl ?_
            refine pu (v := .sc _) rfl rfl (fun _ => rfl) ?_
            refine pu (v := .sc _) rfl rfl (fun _ => rfl) ?_
            refine bs (α := Int) 49 true ([w6 ((w6 ((Int.tmod (gt r1.1 s9.2.2) c.W) * 256)) + 128)] : List Int) rfl rfl ti62 rfl ti40 rfl rfl rfl rfl rfl ?_
            obtain ⟨h14, hR⟩ := chkE hR
            refine ap' (α := Int) (nw := true) (xs := s9.1) (ys := ([w6 ((w6 ((Int.tmod (gt r1.1 s9.2.2) c.W) * 256)) + 128)] : List Int)) rfl rfl rfl rfl (srcS' rfl rfl rfl) ti62 rfl ti40 rfl h14 rfl ?_
            refine pu (v := slV Int _ _ _ _) rfl rfl (fun _ => rfl) ?_
            refine RunC.fin ?_
            refine AWP.rgC 101 rfl rfl ?_
            refine pu (v := slV Int _ _ _ _) rfl rfl (fun _ => rfl) ?_
            refine pu (v := .sc _) rfl rfl (fun _ => rfl) ?_
            refine fa rfl rfl ti33 rfl rfl ti3 rfl ?_
            refine ldB (v := .sc _) rfl rfl rfl rfl ti3 rfl rfl ?_
            refine qu rfl rfl rfl h13 rfl ?_
            refine pu (v := .sc _) rfl rfl (fun _ => rfl) ?_
            refine pu (v := .sc _) rfl rfl (fun _ => rfl) ?_
            refine bs (α := Int) 89 true ([w6 ((w6 ((w6 (Int.tdiv (gt r1.1 s9.2.2) c.W)) * 256)) + 128)] : List Int) rfl rfl ti62 rfl ti40 rfl rfl rfl rfl rfl ?_
            obtain ⟨h15, hR⟩ := chkE hR
            refine ap' (α := Int) (nw := true) (xs := s9.2.1) (ys := ([w6 ((w6 ((w6 (Int.tdiv (gt r1.1 s9.2.2) c.W)) * 256)) + 128)] : List Int)) rfl rfl rfl rfl (srcS' rfl rfl rfl) ti62 rfl ti40 rfl h15 rfl ?_
            refine pu (v := slV Int _ _ _ _) rfl rfl (fun _ => rfl) ?_
            refine RunC.blk ?_
            refine RunC.fin ?_
            refine AWP.rgC 109 rfl rfl ?_
            refine pu (v := .sc _) rfl rfl (fun _ => rfl) ?_
            refine pu (v := .sc _) rfl rfl (fun _ => rfl) ?_
            refine RunC.fin ?_
            refine ⟨(s9.1 ++ ([w6 ((w6 ((Int.tmod (gt r1.1 s9.2.2) c.W) * 256)) + 128)] : List Int), s9.2.1 ++ ([w6 ((w6 ((w6 (Int.tdiv (gt r1.1 s9.2.2) c.W)) * 256)) + 128)] : List Int), w6 (s9.2.2 + 1)), (Option.some.inj hR).symm, ?_⟩
            exact Weak.turnL [(0, 0), (1, 0), (2, 0), (3, 0), (4, 0)] [] rfl rfl (tc (trP' rfl rfl rfl rfl) (tc (trP' rfl rfl rfl rfl) (tc trR1 (tc (trP' rfl rfl rfl rfl) (tc (trS' rfl rfl rfl rfl rfl) (tc (trS' rfl rfl rfl rfl rfl) (tc trR1 (tc (.sc _) (tc (.sc _) tn))))))))) (mc rfl (.box rfl (.cons (.sc _) (.cons (.sc _) (.cons trR1 (.nil)))) rfl) (mc rfl (.box rfl (.cons (.sc _) (.cons (.sc _) (.cons (.sc _) (.cons (.sc _) (.cons (.sc _) (.cons (.sc _) (.cons (.sc _) (.cons (.sc _) (.cons (.sc _) (.nil)))))))))) rfl) (mc rfl (.box rfl (.cons (.sc _) (.cons (.sc _) (.cons (.sc _) (.nil)))) rfl) (mc rfl (btrA' rfl) (mc rfl (btrA' rfl) mn)))))
          · refine AWP.exit ?_
            refine exT ?_
            refine exT ?_
            refine exH (skT ?_)
            refine ⟨(s9.1, s9.2.1), (Option.some.inj hR).symm, ?_⟩
            exact Weak.turnL [(1, 0), (2, 0), (3, 0), (4, 0)] [] rfl rfl (tc (trP' rfl rfl rfl rfl) (tc trR1 (tc (trP' rfl rfl rfl rfl) (tc (trS' rfl rfl rfl rfl rfl) (tc (trS' rfl rfl rfl rfl rfl) tn))))) (mc rfl (.box rfl (.cons (.sc _) (.cons (.sc _) (.cons (.sc _) (.cons (.sc _) (.cons (.sc _) (.cons (.sc _) (.cons (.sc _) (.cons (.sc _) (.cons (.sc _) (.nil)))))))))) rfl) (mc rfl (.box rfl (.cons (.sc _) (.cons (.sc _) (.cons (.sc _) (.nil)))) rfl) (mc rfl (btrA' rfl) (mc rfl (btrA' rfl) mn))))
        · refine skT ?_
          refine AWP.sq ?_
          refine AWP.rgC 40 rfl rfl ?_
          refine pu (v := slV Int _ _ _ _) rfl rfl (fun _ => rfl) ?_
          refine pu (v := rowV _ r1.2.1) rfl rfl (fun _ => rfl) ?_
          obtain ⟨r16, hr16, hR⟩ := bindE hR
          refine cls [2] rfl rfl cb17 (ok17 z10.1 r1.2.1 _ hr16) (.cons (ldS' rfl rfl rfl rfl) (.cons ldR' (.nil))) (.inl (by first | rfl | exact freshR | exact freshA | (simp only [V.fresh, V.freshs, freshR, freshA, Bool.and_self]))) rfl ?_
          refine pu (v := .tup _) rfl rfl (fun _ => rfl) ?_
          refine pu (v := .agg _) rfl rfl (fun _ => rfl) ?_
          refine pu (v := .sc _) rfl rfl (fun _ => rfl) ?_
          refine al (cs := [.sc (.int .i64 0), .sc (.int .i64 0), .sc (.bool false)]) 28 rfl rfl ti42 rfl rfl ?_
          refine stB (cs' := [.sc (.int .i64 r16.1.Lo), .sc (.int .i64 r16.1.Hi), .sc (.bool r16.1.Unknown)]) rfl rfl rfl rfl ti42 rfl rfl rfl rfl rfl ?_
          refine pu (v := .sc _) rfl rfl (fun _ => rfl) ?_
          refine RunC.fin ?_
          refine AWP.sq ?_
          refine AWP.rgC 76 rfl rfl ?_
          refine pu (v := slV Int _ _ _ _) rfl rfl (fun _ => rfl) ?_
          refine pu (v := rowV _ r1.2.1) rfl rfl (fun _ => rfl) ?_
          obtain ⟨r17, hr17, hR⟩ := bindE hR
          refine cls [3] rfl rfl cb17 (ok17 z10.2 r1.2.1 _ hr17) (.cons (ldS' rfl rfl rfl rfl) (.cons ldR' (.nil))) (.inl (by first | rfl | exact freshR | exact freshA | (simp only [V.fresh, V.freshs, freshR, freshA, Bool.and_self]))) rfl ?_
          refine pu (v := .tup _) rfl rfl (fun _ => rfl) ?_
          refine pu (v := .agg _) rfl rfl (fun _ => rfl) ?_
          refine pu (v := .sc _) rfl rfl (fun _ => rfl) ?_
          refine al (cs := [.sc (.int .i64 0), .sc (.int .i64 0), .sc (.bool false)]) 64 rfl rfl ti42 rfl rfl ?_
          refine stB (cs' := [.sc (.int .i64 r17.1.Lo), .sc (.int .i64 r17.1.Hi), .sc (.bool r17.1.Unknown)]) rfl rfl rfl rfl ti42 rfl rfl rfl rfl rfl ?_
          refine pu (v := .sc _) rfl rfl (fun _ => rfl) ?_
          refine RunC.fin ?_
          refine AWP.sq ?_
          refine AWP.rgC 100 rfl rfl ?_
          refine ldB (v := .agg _) rfl rfl rfl rfl ti42 rfl rfl ?_
          refine ldB (v := .agg _) rfl rfl rfl rfl ti42 rfl rfl ?_
          refine ldB (v := .agg _) rfl rfl rfl rfl ti36 rfl rfl ?_
          refine bu (cs := [.sc (.int .i64 r16.1.Lo), .sc (.int .i64 r16.1.Hi), .sc (.bool r16.1.Unknown), .sc (.int .i64 r17.1.Lo), .sc (.int .i64 r17.1.Hi), .sc (.bool r17.1.Unknown), .sc (.int .i64 r3.Lo), .sc (.int .i64 r3.Hi), .sc (.bool r3.Unknown)]) rfl bt44 rfl ?_
          refine stB (cs' := [.sc (.int .i64 r16.1.Lo), .sc (.int .i64 r16.1.Hi), .sc (.bool r16.1.Unknown), .sc (.int .i64 r17.1.Lo), .sc (.int .i64 r17.1.Hi), .sc (.bool r17.1.Unknown), .sc (.int .i64 r3.Lo), .sc (.int .i64 r3.Hi), .sc (.bool r3.Unknown)]) rfl rfl rfl rfl ti44 rfl rfl rfl rfl rfl ?_
          refine pu (v := .sc _) rfl rfl (fun _ => rfl) ?_
          refine RunC.fin ?_
          refine AWP.ret ?_
          have hR := Option.some.inj hR; subst hR
          exact hQ _ _ (LS.mk [(8, .ptr 0 0 0), (9, .sc (.int .i64 0))] (lblks 0 [boxB (α := Measured) true (Measured.mk r16.1 r17.1 r3)]) 1) (.tup [aggV (α := Measured) true (Measured.mk r16.1 r17.1 r3), .sc (.int .i64 0)]) [] (.inr rfl) (Weak.turnL [(0, 0)] [] rfl rfl (tc (trP' rfl rfl rfl rfl) (tc (.sc _) tn)) (mc rfl (.box rfl (.cons (.sc _) (.cons (.sc _) (.cons (.sc _) (.cons (.sc _) (.cons (.sc _) (.cons (.sc _) (.cons (.sc _) (.cons (.sc _) (.cons (.sc _) (.nil)))))))))) rfl) mn)) (ro2 (rvC (v := aggV (α := Measured) true (Measured.mk r16.1 r17.1 r3)) rfl rfl ti44 rfl) (rvT (v := .sc (.int .i64 0)) rfl)) rfl rfl (.tup (.cons ldA (.cons (.sc _) .nil))) pn
theorem ok7 (s : spymake_Stream) (back : Int) (r : Bound × spymake_Stream) (hR : Stream_Level s back = some r) : FnD Try.prog 7 [boxB false s] [.ptr 0 0 0, .sc (.int .i64 back)] (aggV (α := Bound) true r.1) [boxB false r.2] := by
  refine FnX.walk Try.func7 rfl 14 1 (by simp [Try.ntmps7]) rfl fun W S F Q hQ => ?_
  unfold Stream_Level at hR
  refine AWP.sq ?_
  refine AWP.rgC 5 rfl rfl ?_
  refine al (cs := [.sc (.int .i64 0), .sc (.int .i64 0), .sc (.bool false)]) 1 rfl rfl ti36 rfl rfl ?_
  refine RunC.fin ?_
  refine AWP.sq ?_
  refine AWP.rgC 45 rfl rfl ?_
  refine pu (v := .sc _) rfl rfl (fun _ => rfl) ?_
  refine pu (v := .ptr _ _ _) rfl rfl (fun _ => rfl) ?_
  obtain ⟨r1, hr1, hR⟩ := bindE hR
  refine cps (res' := .sc (.int .i64 r1.1)) (ups := [(0, boxB (α := spymake_Stream) false r1.2)]) [0] 13 rfl rfl rfl cb12 (ok12 s 6 _ hr1) (.cons (ldP rfl rfl) (.cons (.sc _) (.nil))) (pc rfl (.box (.cons ldR' (.cons (.sc _) (.nil))) rfl) pn) rfl rfl rfl rfl rfl (by first | rfl | exact renR | exact renA | exact renS | simp only [V.ren, V.rens, renR, renA, renS] | (simp only [V.ren, V.rens, renR, renA, renS]; rfl)) (by simp only [passUps, renBox, renArr]; rfl) ?_
  refine pu (v := .sc _) rfl rfl (fun _ => rfl) ?_
  refine pu (v := .sc _) rfl rfl (fun _ => rfl) ?_
  refine pu (v := .ptr _ _ _) rfl rfl (fun _ => rfl) ?_
  obtain ⟨r2, hr2, hR⟩ := bindE hR
  refine cps (res' := .sc (.int .i64 r2.1)) (ups := [(0, boxB (α := spymake_Stream) false r2.2)]) [0] 29 rfl rfl rfl cb12 (ok12 r1.2 6 _ hr2) (.cons (ldP rfl rfl) (.cons (.sc _) (.nil))) (pc rfl (.box (.cons ldR' (.cons (.sc _) (.nil))) rfl) pn) rfl rfl rfl rfl rfl (by first | rfl | exact renR | exact renA | exact renS | simp only [V.ren, V.rens, renR, renA, renS] | (simp only [V.ren, V.rens, renR, renA, renS]; rfl)) (by simp only [passUps, renBox, renArr]; rfl) ?_
  refine pu (v := .sc _) rfl rfl (fun _ => rfl) ?_
  refine bu (cs := [.sc (.int .i64 (w6 (back - r1.1))), .sc (.int .i64 (w6 (back + r2.1))), .sc (.bool false)]) rfl bt36 rfl ?_
  refine stB (cs' := [.sc (.int .i64 (w6 (back - r1.1))), .sc (.int .i64 (w6 (back + r2.1))), .sc (.bool false)]) rfl rfl rfl rfl ti36 rfl rfl rfl rfl rfl ?_
  refine RunC.fin ?_
  refine AWP.ret ?_
  have hR := Option.some.inj hR; subst hR
  exact hQ _ _ (LS.mk [(4, .ptr 1 0 0)] (lblks 0 [boxB (α := spymake_Stream) false r2.2, boxB (α := Bound) true (Bound.mk (w6 (back - r1.1)) (w6 (back + r2.1)) false)]) 2) (aggV (α := Bound) true (Bound.mk (w6 (back - r1.1)) (w6 (back + r2.1)) false)) [] (.inr rfl) (Weak.turnL [(0, 0), (1, 0)] [] rfl rfl (tc (trP' rfl rfl rfl rfl) tn) (mc rfl (.box rfl (.cons trR1 (.cons (.sc _) (.nil))) rfl) (mc rfl (.box rfl (.cons (.sc _) (.cons (.sc _) (.cons (.sc _) (.nil)))) rfl) mn))) (ro1 (rvC (v := aggV (α := Bound) true (Bound.mk (w6 (back - r1.1)) (w6 (back + r2.1)) false)) rfl rfl ti36 rfl)) rfl rfl ldA (pc rfl bldB pn)
theorem ok6 (s : spymake_Stream) (w : Int) (h : Int) (light : List Int) (holes : Bool) (r : Cells × spymake_Stream) (hR : Stream_Veil s w h light holes = some r) : FnD Try.prog 6 [boxB false s] [.ptr 0 0 0, .sc (.int .i64 w), .sc (.int .i64 h), rowV false light, .sc (.bool holes)] (aggV (α := Cells) true r.1) [boxB false r.2] := by
  refine FnX.walk Try.func6 rfl 58 1 (by simp [Try.ntmps6]) rfl fun W S F Q hQ => ?_
  unfold Stream_Veil at hR
  refine AWP.sq ?_
  refine AWP.rgC 5 rfl rfl ?_
  refine al (cs := [.sc (.int .i64 0), .sc (.int .i64 0), .sc (.slice none 0 0)]) 1 rfl rfl ti33 rfl rfl ?_
  refine RunC.fin ?_
  refine AWP.sq ?_
  refine AWP.rgC 25 rfl rfl ?_
  refine pu (v := .sc _) rfl rfl (fun _ => rfl) ?_
  refine pu (v := .sc _) rfl rfl (fun _ => rfl) ?_
  refine bu (cs := [.sc (.int .i64 w), .sc (.int .i64 h), .sc (.slice none 0 0)]) rfl bt33 rfl ?_
  refine al (cs := [.sc (.int .i64 0), .sc (.int .i64 0), .sc (.slice none 0 0)]) 17 rfl rfl ti33 rfl rfl ?_
  refine stB (cs' := [.sc (.int .i64 w), .sc (.int .i64 h), .sc (.slice none 0 0)]) rfl rfl rfl rfl ti33 rfl rfl rfl rfl rfl ?_
  refine RunC.fin ?_
  refine AWP.sq ?_
  refine AWP.rgC 49 rfl rfl ?_
  refine bs (α := Int) 25 true ([0, 3, 30, 200] : List Int) rfl rfl ti22 rfl ti3 rfl rfl rfl rfl rfl ?_
  refine pu (v := .ptr _ _ _) rfl rfl (fun _ => rfl) ?_
  obtain ⟨r1, hr1, hR⟩ := bindE hR
  refine cps (res' := .sc (.int .i64 r1.1)) (ups := [(0, boxB (α := spymake_Stream) false r1.2)]) [0] 33 rfl rfl rfl cb12 (ok12 s 4 _ hr1) (.cons (ldP rfl rfl) (.cons (.sc _) (.nil))) (pc rfl (.box (.cons ldR' (.cons (.sc _) (.nil))) rfl) pn) rfl rfl rfl rfl rfl (by first | rfl | exact renR | exact renA | exact renS | simp only [V.ren, V.rens, renR, renA, renS] | (simp only [V.ren, V.rens, renR, renA, renS]; rfl)) (by simp only [passUps, renBox, renArr]; rfl) ?_
  obtain ⟨h2, hR⟩ := chkE hR
  refine ixS0 (α := Int) rfl rfl rfl ti22 rfl ti3 rfl h2 ?_
  refine ldE (α := Int) (v := .sc _) rfl rfl rfl (ixlt h2) ti3 rfl rfl rfl rfl ?_
  refine pu (v := .sc _) rfl rfl (fun _ => rfl) ?_
  refine RunC.fin ?_
  refine AWP.sq ?_
  refine AWP.sq ?_
  refine AWP.rgC 61 rfl rfl ?_
  refine pu (v := rowV _ light) rfl rfl (fun _ => rfl) ?_
  refine lenL (α := Int) rfl rfl ti27 rfl ?_
  refine pu (v := .sc _) rfl rfl (fun _ => rfl) ?_
  refine RunC.fin ?_
  refine AWP.nilB Bound 17 2 36 rfl rfl (cs' := [.sc (.int .i64 w), .sc (.int .i64 h), slV Bound 61 0 0 0]) rfl ?_
  refine AWP.loopJ (fun s3 : spymake_Stream × (List Bound) × Int => LS.mk [(0, .ptr 0 0 0), (4, .sc (.bool holes)), (10, .ptr 1 0 0), (11, .ptr 2 0 0), (12, .sc (.int .i64 (gt ([0, 3, 30, 200] : List Int) r1.1))), (24, rowV (α := Int) false light), (25, .sc (.int .i64 (light.length : Int))), (26, .sc (.int .i64 s3.2.2))] (lblks 0 [boxB (α := spymake_Stream) false s3.1, .box [.sc (.int .i64 0), .sc (.int .i64 0), .sc (.slice none 0 0)], .box [.sc (.int .i64 w), .sc (.int .i64 h), slV Bound 3 0 0 s3.2.1.length], arrB (α := Bound) 36 0 true s3.2.1]) 4) (fun z4 : spymake_Stream × (List Bound) => LS.mk [(10, .ptr 1 0 0), (11, .ptr 2 0 0)] (lblks 0 [boxB (α := spymake_Stream) false z4.1, .box [.sc (.int .i64 0), .sc (.int .i64 0), .sc (.slice none 0 0)], .box [.sc (.int .i64 w), .sc (.int .i64 h), slV Bound 3 0 0 z4.2.length], arrB (α := Bound) 36 0 true z4.2]) 4) (Stream_Veil.l1 light holes r1) hR (s0 := (r1.2, ([] : List Bound), 0)) (Weak.turnL [(0, 0), (1, 0), (17, 0), (61, 0)] [] rfl rfl (tc (trP' rfl rfl rfl rfl) (tc (.sc _) (tc (trP' rfl rfl rfl rfl) (tc (trP' rfl rfl rfl rfl) (tc (.sc _) (tc trR1 (tc (.sc _) (tc (.sc _) tn)))))))) (mc rfl (.box rfl (.cons trR1 (.cons (.sc _) (.nil))) rfl) (mc rfl (.box rfl (.cons (.sc _) (.cons (.sc _) (.cons (.sc _) (.nil)))) rfl) (mc rfl (.box rfl (.cons (.sc _) (.cons (.sc _) (.cons (trS' rfl rfl rfl rfl rfl) (.nil)))) rfl) (mc rfl (btrA' rfl) mn))))) (fun s3 o3 hR => ?_) fun z4 hR => ?_
  · unfold Stream_Veil.l1 at hR
    refine AWP.sq ?_
    refine AWP.rgC 8 rfl rfl ?_
    refine pu (v := .sc _) rfl rfl (fun _ => rfl) ?_
    refine RunC.fin ?_
    refine AWP.sq ?_
    refine AWP.cd hR rfl (fun h5 hR => ?_) fun h5 hR => ?_
    · refine AWP.skip ?_
      refine skT ?_
      refine AWP.sq ?_
      refine AWP.block ?_
      refine AWP.sq ?_
      refine AWP.rgC 20 rfl rfl ?_
      obtain ⟨h6, hR⟩ := chkE hR
      refine ixL (α := Int) rfl rfl rfl ti27 rfl ti28 rfl h6 ?_
      refine ldR (v := .sc _) rfl rfl ti28 rfl ?_
      refine pu (v := .sc _) rfl rfl (fun _ => rfl) ?_
      refine RunC.fin ?_
      refine AWP.sq ?_
      refine AWP.rgC 80 rfl rfl ?_
      refine pu (v := .sc _) rfl rfl (fun _ => rfl) ?_
      refine pu (v := .ptr _ _ _) rfl rfl (fun _ => rfl) ?_
      refine pu (v := .sc _) rfl rfl (fun _ => rfl) ?_
      refine pu (v := .sc _) rfl rfl (fun _ => rfl) ?_
      obtain ⟨r7, hr7, hR⟩ := bindE hR
      refine cps (res' := .sc (.int .i64 r7.1)) (ups := [(0, boxB (α := spymake_Stream) false r7.2)]) [0] 36 rfl rfl rfl cb12 (ok12 s3.1 (w6 ((gt ([0, 3, 30, 200] : List Int) r1.1) + 1)) _ hr7) (.cons (ldP rfl rfl) (.cons (.sc _) (.nil))) (pc rfl (.box (.cons ldR' (.cons (.sc _) (.nil))) rfl) pn) rfl rfl rfl rfl rfl (by first | rfl | exact renR | exact renA | exact renS | simp only [V.ren, V.rens, renR, renA, renS] | (simp only [V.ren, V.rens, renR, renA, renS]; rfl)) (by simp only [passUps, renBox, renArr]; rfl) ?_
      refine pu (v := .sc _) rfl rfl (fun _ => rfl) ?_
      refine pu (v := .sc _) rfl rfl (fun _ => rfl) ?_
      refine pu (v := .ptr _ _ _) rfl rfl (fun _ => rfl) ?_
      refine pu (v := .sc _) rfl rfl (fun _ => rfl) ?_
      refine pu (v := .sc _) rfl rfl (fun _ => rfl) ?_
      obtain ⟨r8, hr8, hR⟩ := bindE hR
      refine cps (res' := .sc (.int .i64 r8.1)) (ups := [(0, boxB (α := spymake_Stream) false r8.2)]) [0] 60 rfl rfl rfl cb12 (ok12 r7.2 (w6 ((gt ([0, 3, 30, 200] : List Int) r1.1) + 1)) _ hr8) (.cons (ldP rfl rfl) (.cons (.sc _) (.nil))) (pc rfl (.box (.cons ldR' (.cons (.sc _) (.nil))) rfl) pn) rfl rfl rfl rfl rfl (by first | rfl | exact renR | exact renA | exact renS | simp only [V.ren, V.rens, renR, renA, renS] | (simp only [V.ren, V.rens, renR, renA, renS]; rfl)) (by simp only [passUps, renBox, renArr]; rfl) ?_
      refine pu (v := .sc _) rfl rfl (fun _ => rfl) ?_
      refine bu (cs := [.sc (.int .i64 (w6 ((gt light s3.2.2) - r7.1))), .sc (.int .i64 (w6 ((gt light s3.2.2) + r8.1))), .sc (.bool false)]) rfl bt36 rfl ?_
      refine al (cs := [.sc (.int .i64 0), .sc (.int .i64 0), .sc (.bool false)]) 72 rfl rfl ti36 rfl rfl ?_
      refine stB (cs' := [.sc (.int .i64 (w6 ((gt light s3.2.2) - r7.1))), .sc (.int .i64 (w6 ((gt light s3.2.2) + r8.1))), .sc (.bool false)]) rfl rfl rfl rfl ti36 rfl rfl rfl rfl rfl ?_
      refine RunC.fin ?_
      refine AWP.sq ?_
      refine AWP.joinX (fun z9 : spymake_Stream × Bool => LS.mk [(0, .ptr 0 0 0), (4, .sc (.bool holes)), (10, .ptr 1 0 0), (11, .ptr 2 0 0), (12, .sc (.int .i64 (gt ([0, 3, 30, 200] : List Int) r1.1))), (15, .ptr 4 0 0), (24, rowV (α := Int) false light), (25, .sc (.int .i64 (light.length : Int))), (26, .sc (.int .i64 s3.2.2)), (48, .sc (.bool z9.2))] (lblks 0 [boxB (α := spymake_Stream) false z9.1, .box [.sc (.int .i64 0), .sc (.int .i64 0), .sc (.slice none 0 0)], .box [.sc (.int .i64 w), .sc (.int .i64 h), slV Bound 3 0 0 s3.2.1.length], arrB (α := Bound) 36 0 true s3.2.1, boxB (α := Bound) true (Bound.mk (w6 ((gt light s3.2.2) - r7.1)) (w6 ((gt light s3.2.2) + r8.1)) false)]) 5) hR (fun o9 hR => ?_) fun z9 hR => ?_
      · refine AWP.rgC 104 rfl rfl ?_
        refine pu (v := .sc _) rfl rfl (fun _ => rfl) ?_
        refine pu (v := .sc _) rfl rfl (fun _ => rfl) ?_
        refine brR hR (fun h10 hR => ?_) fun h10 hR => ?_
        · refine pu (v := .ptr _ _ _) (wtG rfl rfl rfl h10) rfl (fun _ => rfl) ?_
          obtain ⟨r11, hr11, hR⟩ := bindE hR
          refine cps (res' := .sc (.int .i64 r11.1)) (ups := [(0, boxB (α := spymake_Stream) false r11.2)]) [0] 92 (wtG rfl rfl rfl h10) rfl rfl cb12 (ok12 r8.2 9 _ hr11) (.cons (ldP rfl rfl) (.cons (.sc _) (.nil))) (pc rfl (.box (.cons ldR' (.cons (.sc _) (.nil))) rfl) pn) rfl rfl rfl rfl rfl (by first | rfl | exact renR | exact renA | exact renS | simp only [V.ren, V.rens, renR, renA, renS] | (simp only [V.ren, V.rens, renR, renA, renS]; rfl)) (by simp only [passUps, renBox, renArr]; rfl) ?_
          refine pu (v := .sc _) (wtG rfl rfl rfl h10) rfl (fun _ => rfl) ?_
          refine pkT (v := .sc (.bool (r11.1 == 0))) rfl rfl h10 rfl ?_
          refine RunC.fin ?_
          have hR := Option.some.inj hR; subst hR
          exact Weak.turnL [(0, 0), (1, 0), (2, 0), (3, 0), (72, 0)] [] rfl rfl (tc (trP' rfl rfl rfl rfl) (tc (.sc _) (tc (trP' rfl rfl rfl rfl) (tc (trP' rfl rfl rfl rfl) (tc (.sc _) (tc (trP' rfl rfl rfl rfl) (tc trR1 (tc (.sc _) (tc (.sc _) (tc (.sc _) tn)))))))))) (mc rfl (.box rfl (.cons trR1 (.cons (.sc _) (.nil))) rfl) (mc rfl (.box rfl (.cons (.sc _) (.cons (.sc _) (.cons (.sc _) (.nil)))) rfl) (mc rfl (.box rfl (.cons (.sc _) (.cons (.sc _) (.cons (trS' rfl rfl rfl rfl rfl) (.nil)))) rfl) (mc rfl (btrA' rfl) (mc rfl (.box rfl (.cons (.sc _) (.cons (.sc _) (.cons (.sc _) (.nil)))) rfl) mn)))))
        · refine sk (skW rfl rfl rfl h10) ?_
          refine sk (skW rfl rfl rfl h10) ?_
          refine sk (skW rfl rfl rfl h10) ?_
          refine pkF (v := .sc (.bool false)) rfl rfl h10 rfl ?_
          refine RunC.fin ?_
          have hR := Option.some.inj hR; subst hR
          exact Weak.turnL [(0, 0), (1, 0), (2, 0), (3, 0), (72, 0)] [] rfl rfl (tc (trP' rfl rfl rfl rfl) (tc (.sc _) (tc (trP' rfl rfl rfl rfl) (tc (trP' rfl rfl rfl rfl) (tc (.sc _) (tc (trP' rfl rfl rfl rfl) (tc trR1 (tc (.sc _) (tc (.sc _) (tc (.sc _) tn)))))))))) (mc rfl (.box rfl (.cons trR1 (.cons (.sc _) (.nil))) rfl) (mc rfl (.box rfl (.cons (.sc _) (.cons (.sc _) (.cons (.sc _) (.nil)))) rfl) (mc rfl (.box rfl (.cons (.sc _) (.cons (.sc _) (.cons (trS' rfl rfl rfl rfl rfl) (.nil)))) rfl) (mc rfl (btrA' rfl) (mc rfl (.box rfl (.cons (.sc _) (.cons (.sc _) (.cons (.sc _) (.nil)))) rfl) mn)))))
      · refine AWP.cd hR rfl (fun h12 hR => ?_) fun h12 hR => ?_
        · refine AWP.rgC 13 rfl rfl ?_
          refine bu (cs := [.sc (.int .i64 0), .sc (.int .i64 0), .sc (.bool true)]) rfl bt36 rfl ?_
          refine stB (cs' := [.sc (.int .i64 0), .sc (.int .i64 0), .sc (.bool true)]) rfl rfl rfl rfl ti36 rfl rfl rfl rfl rfl ?_
          refine RunC.fin ?_
          refine AWP.rgC 41 rfl rfl ?_
          refine fa rfl rfl ti33 rfl rfl ti31 rfl ?_
          refine ldB (v := slV Bound _ _ _ _) rfl rfl rfl rfl ti31 rfl rfl ?_
          refine ldB (v := .agg _) rfl rfl rfl rfl ti36 rfl rfl ?_
          refine bs (α := Bound) 25 true ([Bound.mk 0 0 true] : List Bound) rfl rfl ti31 rfl ti36 rfl rfl rfl rfl rfl ?_
          obtain ⟨h13, hR⟩ := chkE hR
          refine ap' (α := Bound) (nw := true) (xs := s3.2.1) (ys := ([Bound.mk 0 0 true] : List Bound)) rfl rfl rfl rfl (srcS' rfl rfl rfl) ti31 rfl ti36 rfl h13 rfl ?_
          refine fa rfl rfl ti33 rfl rfl ti31 rfl ?_
          refine stB (cs' := [.sc (.int .i64 w), .sc (.int .i64 h), slV Bound 3 1 0 (s3.2.1 ++ ([Bound.mk 0 0 true] : List Bound)).length]) rfl rfl rfl rfl ti31 rfl rfl rfl rfl rfl ?_
          refine RunC.blk ?_
          refine RunC.fin ?_
          refine AWP.rgC 49 rfl rfl ?_
          refine pu (v := .sc _) rfl rfl (fun _ => rfl) ?_
          refine pu (v := .sc _) rfl rfl (fun _ => rfl) ?_
          refine RunC.fin ?_
          refine ⟨(z9.1, s3.2.1 ++ ([Bound.mk 0 0 true] : List Bound), w6 (s3.2.2 + 1)), (Option.some.inj hR).symm, ?_⟩
          exact Weak.turnL [(0, 0), (1, 0), (2, 0), (3, 0)] [] rfl rfl (tc (trP' rfl rfl rfl rfl) (tc (.sc _) (tc (trP' rfl rfl rfl rfl) (tc (trP' rfl rfl rfl rfl) (tc (.sc _) (tc trR1 (tc (.sc _) (tc (.sc _) tn)))))))) (mc rfl (.box rfl (.cons trR1 (.cons (.sc _) (.nil))) rfl) (mc rfl (.box rfl (.cons (.sc _) (.cons (.sc _) (.cons (.sc _) (.nil)))) rfl) (mc rfl (.box rfl (.cons (.sc _) (.cons (.sc _) (.cons (trS' rfl rfl rfl rfl rfl) (.nil)))) rfl) (mc rfl (btrA' rfl) mn))))
        · refine AWP.skip ?_
          refine skT ?_
          refine AWP.rgC 33 rfl rfl ?_
          refine fa rfl rfl ti33 rfl rfl ti31 rfl ?_
          refine ldB (v := slV Bound _ _ _ _) rfl rfl rfl rfl ti31 rfl rfl ?_
          refine ldB (v := .agg _) rfl rfl rfl rfl ti36 rfl rfl ?_
          refine bs (α := Bound) 17 true ([Bound.mk (w6 ((gt light s3.2.2) - r7.1)) (w6 ((gt light s3.2.2) + r8.1)) false] : List Bound) rfl rfl ti31 rfl ti36 rfl rfl rfl rfl rfl ?_
          obtain ⟨h14, hR⟩ := chkE hR
          refine ap' (α := Bound) (nw := true) (xs := s3.2.1) (ys := ([Bound.mk (w6 ((gt light s3.2.2) - r7.1)) (w6 ((gt light s3.2.2) + r8.1)) false] : List Bound)) rfl rfl rfl rfl (srcS' rfl rfl rfl) ti31 rfl ti36 rfl h14 rfl ?_
          refine fa rfl rfl ti33 rfl rfl ti31 rfl ?_
          refine stB (cs' := [.sc (.int .i64 w), .sc (.int .i64 h), slV Bound 3 1 0 (s3.2.1 ++ ([Bound.mk (w6 ((gt light s3.2.2) - r7.1)) (w6 ((gt light s3.2.2) + r8.1)) false] : List Bound)).length]) rfl rfl rfl rfl ti31 rfl rfl rfl rfl rfl ?_
          refine RunC.blk ?_
          refine RunC.fin ?_
          refine AWP.rgC 41 rfl rfl ?_
          refine pu (v := .sc _) rfl rfl (fun _ => rfl) ?_
          refine pu (v := .sc _) rfl rfl (fun _ => rfl) ?_
          refine RunC.fin ?_
          refine ⟨(z9.1, s3.2.1 ++ ([Bound.mk (w6 ((gt light s3.2.2) - r7.1)) (w6 ((gt light s3.2.2) + r8.1)) false] : List Bound), w6 (s3.2.2 + 1)), (Option.some.inj hR).symm, ?_⟩
          exact Weak.turnL [(0, 0), (1, 0), (2, 0), (3, 0)] [] rfl rfl (tc (trP' rfl rfl rfl rfl) (tc (.sc _) (tc (trP' rfl rfl rfl rfl) (tc (trP' rfl rfl rfl rfl) (tc (.sc _) (tc trR1 (tc (.sc _) (tc (.sc _) tn)))))))) (mc rfl (.box rfl (.cons trR1 (.cons (.sc _) (.nil))) rfl) (mc rfl (.box rfl (.cons (.sc _) (.cons (.sc _) (.cons (.sc _) (.nil)))) rfl) (mc rfl (.box rfl (.cons (.sc _) (.cons (.sc _) (.cons (trS' rfl rfl rfl rfl rfl) (.nil)))) rfl) (mc rfl (btrA' rfl) mn))))
    · refine AWP.exit ?_
      refine exT ?_
      refine exT ?_
      refine exH (skT ?_)
      refine ⟨(s3.1, s3.2.1), (Option.some.inj hR).symm, ?_⟩
      exact Weak.turnL [(0, 0), (1, 0), (2, 0), (3, 0)] [] rfl rfl (tc (trP' rfl rfl rfl rfl) (tc (trP' rfl rfl rfl rfl) tn)) (mc rfl (.box rfl (.cons trR1 (.cons (.sc _) (.nil))) rfl) (mc rfl (.box rfl (.cons (.sc _) (.cons (.sc _) (.cons (.sc _) (.nil)))) rfl) (mc rfl (.box rfl (.cons (.sc _) (.cons (.sc _) (.cons (trS' rfl rfl rfl rfl rfl) (.nil)))) rfl) (mc rfl (btrA' rfl) mn))))
  · refine skT ?_
    refine AWP.sq ?_
    refine AWP.rgC 12 rfl rfl ?_
    refine ldB (v := .agg _) rfl rfl rfl rfl ti33 rfl rfl ?_
    refine stB (cs' := [.sc (.int .i64 w), .sc (.int .i64 h), slV Bound 3 0 0 z4.2.length]) rfl rfl rfl rfl ti33 rfl rfl rfl rfl rfl ?_
    refine RunC.fin ?_
    refine AWP.ret ?_
    have hR := Option.some.inj hR; subst hR
    exact hQ _ _ (LS.mk [(10, .ptr 1 0 0)] (lblks 0 [boxB (α := spymake_Stream) false z4.1, boxB (α := Cells) true (Cells.mk w h z4.2)]) 2) (aggV (α := Cells) true (Cells.mk w h z4.2)) [] (.inr rfl) (Weak.turnL [(0, 0), (1, 0)] [3] rfl rfl (tc (trP' rfl rfl rfl rfl) tn) (mc rfl (.box rfl (.cons trR1 (.cons (.sc _) (.nil))) rfl) (mc rfl (.box rfl (.cons (.sc _) (.cons (.sc _) (.cons (trF' rfl rfl id rfl) (.nil)))) rfl) mn))) (ro1 (rvC (v := aggV (α := Cells) true (Cells.mk w h z4.2)) rfl rfl ti33 rfl)) rfl rfl ldA (pc rfl bldB pn)
theorem ok4 (s : spymake_Stream) (low : Int) (high : Int) (r : Int × spymake_Stream) (hR : Stream_Range s low high = some r) : FnD Try.prog 4 [boxB false s] [.ptr 0 0 0, .sc (.int .i64 low), .sc (.int .i64 high)] (.sc (.int .i64 r.1)) [boxB false r.2] := by
  refine FnX.walk Try.func4 rfl 19 1 (by simp [Try.ntmps4]) rfl fun W S F Q hQ => ?_
  unfold Stream_Range at hR
  refine AWP.sq ?_
  refine AWP.rgC 5 rfl rfl ?_
  refine pu (v := .sc _) rfl rfl (fun _ => rfl) ?_
  refine RunC.fin ?_
  refine AWP.sq ?_
  refine AWP.sq ?_
  refine AWP.rgC 17 rfl rfl ?_
  refine pu (v := .sc _) rfl rfl (fun _ => rfl) ?_
  refine pu (v := .sc _) rfl rfl (fun _ => rfl) ?_
  refine pu (v := .sc _) rfl rfl (fun _ => rfl) ?_
  refine RunC.fin ?_
  refine AWP.cd hR rfl (fun h1 hR => ?_) fun h1 hR => ?_
  · refine AWP.sq ?_
    refine AWP.rgC 25 rfl rfl ?_
    refine pu (v := .sc _) rfl rfl (fun _ => rfl) ?_
    refine pu (v := .sc _) rfl rfl (fun _ => rfl) ?_
    refine RunC.fin ?_
    refine AWP.ret ?_
    refine rtT ?_
    have hR := Option.some.inj hR; subst hR
    exact hQ _ _ (LS.mk [(6, .sc (.int .i64 low))] (lblks 0 [boxB (α := spymake_Stream) false s]) 1) (.sc (.int .i64 low)) [] (.inr rfl) (Weak.turnL [(0, 0)] [] rfl rfl (tc (.sc _) tn) (mc rfl (.box rfl (.cons trR1 (.cons (.sc _) (.nil))) rfl) mn)) (ro1 (rvT (v := .sc (.int .i64 low)) rfl)) rfl rfl (.sc _) (pc rfl bldB pn)
  · refine AWP.skip ?_
    refine skT ?_
    refine AWP.sq ?_
    refine AWP.rgC 53 rfl rfl ?_
    refine pu (v := .sc _) rfl rfl (fun _ => rfl) ?_
    refine pu (v := .ptr _ _ _) rfl rfl (fun _ => rfl) ?_
    refine pu (v := .sc _) rfl rfl (fun _ => rfl) ?_
    refine pu (v := .sc _) rfl rfl (fun _ => rfl) ?_
    refine pu (v := .sc _) rfl rfl (fun _ => rfl) ?_
    refine pu (v := .sc _) rfl rfl (fun _ => rfl) ?_
    obtain ⟨r2, hr2, hR⟩ := bindE hR
    refine cps (res' := .sc (.int .i64 r2.1)) (ups := [(0, boxB (α := spymake_Stream) false r2.2)]) [0] 41 rfl rfl rfl cb12 (ok12 s (w6 ((w6 (high - low)) + 1)) _ hr2) (.cons (ldP rfl rfl) (.cons (.sc _) (.nil))) (pc rfl (.box (.cons ldR' (.cons (.sc _) (.nil))) rfl) pn) rfl rfl rfl rfl rfl (by first | rfl | exact renR | exact renA | exact renS | simp only [V.ren, V.rens, renR, renA, renS] | (simp only [V.ren, V.rens, renR, renA, renS]; rfl)) (by simp only [passUps, renBox, renArr]; rfl) ?_
    refine pu (v := .sc _) rfl rfl (fun _ => rfl) ?_
    refine pu (v := .sc _) rfl rfl (fun _ => rfl) ?_
    refine RunC.fin ?_
    refine AWP.ret ?_
    have hR := Option.some.inj hR; subst hR
    exact hQ _ _ (LS.mk [(6, .sc (.int .i64 (w6 (low + r2.1))))] (lblks 0 [boxB (α := spymake_Stream) false r2.2]) 1) (.sc (.int .i64 (w6 (low + r2.1)))) [] (.inr rfl) (Weak.turnL [(0, 0)] [] rfl rfl (tc (.sc _) tn) (mc rfl (.box rfl (.cons trR1 (.cons (.sc _) (.nil))) rfl) mn)) (ro1 (rvT (v := .sc (.int .i64 (w6 (low + r2.1)))) rfl)) rfl rfl (.sc _) (pc rfl bldB pn)
end Go.Proofs.Mes
