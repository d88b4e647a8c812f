/- Each function of the program computes its plain function. Conditions: as each theorem states them. -/
import Derived.Test.YtadepbpacnhjaaaA4
import Derived.WalkKit
import Derived.Deep.WholeRow
import Derived.Test.YtadepbpacnhjaaaT
import Derived.Test.YtadepbpacnhjaaaH
import Derived.Test.YtadepbpacnhjaaaS
import Derived.Test.YtadepbpacnhjaaaF
import Derived.Test.YtadepbpacnhjaaaP0
namespace Go.Proofs.Crs
open Go Go.Abs Lf
set_option linter.unusedVariables false
set_option linter.unusedSimpArgs false
set_option maxRecDepth 100000
set_option maxHeartbeats 1000000
theorem ok42 (c : Cells) (r : Int) (hR : find_Check c = some r) : FnP Try.prog 42 [aggV false c] (.sc (.int .i64 r)) := by
  refine fnP_of (FnX.walk Try.func42 rfl 56 0 (by simp [Try.ntmps42]) rfl fun W S F Q hQ => ?_)
  unfold find_Check at hR
  refine AWP.sq ?_
  refine AWP.rgC 8 rfl rfl ?_
  refine bx (cs := _) 0 rfl rfl rfl ?_
  refine pu (v := .sc _) rfl rfl (fun _ => rfl) ?_
  refine RunC.fin ?_
  refine AWP.sq ?_
  refine AWP.joinX (fun z1 : Bool => LS.mk [(1, .ptr 0 0 0), (34, .sc (.bool z1))] (lblks 0 [boxB (α := Cells) false c]) 1) hR (fun o1 hR => ?_) fun z1 hR => ?_
  · refine AWP.rgC 124 rfl rfl ?_
    refine fa rfl rfl ti77 rfl rfl ti3 rfl ?_
    refine ldB (v := .sc _) rfl rfl rfl rfl ti3 rfl rfl ?_
    refine pu (v := .sc _) rfl rfl (fun _ => rfl) ?_
    refine pu (v := .sc _) rfl rfl (fun _ => rfl) ?_
    refine brR hR (fun h2 hR => ?_) fun h2 hR => ?_
    · refine sk (skW rfl rfl rfl h2) ?_
      refine sk (skW rfl rfl rfl h2) ?_
      refine sk (skW rfl rfl rfl h2) ?_
      refine pkT (v := .sc (.bool true)) rfl rfl h2 rfl ?_
      refine pu (v := .sc _) rfl rfl (fun _ => rfl) ?_
      refine sk (skW rfl rfl rfl rfl) ?_
      refine sk (skW rfl rfl rfl rfl) ?_
      refine sk (skW rfl rfl rfl rfl) ?_
      refine pkT (v := .sc (.bool true)) rfl rfl rfl rfl ?_
      refine pu (v := .sc _) rfl rfl (fun _ => rfl) ?_
      refine sk (skW rfl rfl rfl rfl) ?_
      refine sk (skW rfl rfl rfl rfl) ?_
      refine sk (skW rfl rfl rfl rfl) ?_
      refine pkT (v := .sc (.bool true)) rfl rfl rfl rfl ?_
      refine pu (v := .sc _) rfl rfl (fun _ => rfl) ?_
      refine sk (skW rfl rfl rfl rfl) ?_
      refine sk (skW rfl rfl rfl rfl) ?_
      refine sk (skW rfl rfl rfl rfl) ?_
      refine sk (skW rfl rfl rfl rfl) ?_
      refine sk (skW rfl rfl rfl rfl) ?_
      refine sk (skW rfl rfl rfl rfl) ?_
      refine sk (skW rfl rfl rfl rfl) ?_
      refine sk (skW rfl rfl rfl rfl) ?_
      refine sk (skW rfl rfl rfl rfl) ?_
      refine pkT (v := .sc (.bool true)) rfl rfl rfl rfl ?_
      refine RunC.fin ?_
      have hR := Option.some.inj hR; subst hR
      exact Weak.turnL [(0, 0)] [] rfl rfl (tc (trP' rfl rfl rfl rfl) (tc (.sc _) tn)) (mc rfl (.box rfl (.cons (.sc _) (.cons (.sc _) (.cons trR1 (.nil)))) rfl) mn)
    · refine fa (wtG rfl rfl rfl h2) rfl ti77 rfl rfl ti3 rfl ?_
      refine ldB (v := .sc _) (wtG rfl rfl rfl h2) rfl rfl rfl ti3 rfl rfl ?_
      refine pu (v := .sc _) (wtG rfl rfl rfl h2) rfl (fun _ => rfl) ?_
      refine pkF (v := .sc (.bool (decide (c.W > 32)))) rfl rfl h2 rfl ?_
      refine pu (v := .sc _) rfl rfl (fun _ => rfl) ?_
      refine brR hR (fun h3 hR => ?_) fun h3 hR => ?_
      · refine sk (skW rfl rfl rfl h3) ?_
        refine sk (skW rfl rfl rfl h3) ?_
        refine sk (skW rfl rfl rfl h3) ?_
        refine pkT (v := .sc (.bool true)) rfl rfl h3 rfl ?_
        refine pu (v := .sc _) rfl rfl (fun _ => rfl) ?_
        refine sk (skW rfl rfl rfl rfl) ?_
        refine sk (skW rfl rfl rfl rfl) ?_
        refine sk (skW rfl rfl rfl rfl) ?_
        refine pkT (v := .sc (.bool true)) rfl rfl rfl rfl ?_
        refine pu (v := .sc _) rfl rfl (fun _ => rfl) ?_
        refine sk (skW rfl rfl rfl rfl) ?_
        refine sk (skW rfl rfl rfl rfl) ?_
        refine sk (skW rfl rfl rfl rfl) ?_
        refine sk (skW rfl rfl rfl rfl) ?_
        refine sk (skW rfl rfl rfl rfl) ?_
        refine sk (skW rfl rfl rfl rfl) ?_
        refine sk (skW rfl rfl rfl rfl) ?_
        refine sk (skW rfl rfl rfl rfl) ?_
        refine sk (skW rfl rfl rfl rfl) ?_
        refine pkT (v := .sc (.bool true)) rfl rfl rfl rfl ?_
        refine RunC.fin ?_
        have hR := Option.some.inj hR; subst hR
        exact Weak.turnL [(0, 0)] [] rfl rfl (tc (trP' rfl rfl rfl rfl) (tc (.sc _) tn)) (mc rfl (.box rfl (.cons (.sc _) (.cons (.sc _) (.cons trR1 (.nil)))) rfl) mn)
      · refine fa (wtG rfl rfl rfl h3) rfl ti77 rfl rfl ti3 rfl ?_
        refine ldB (v := .sc _) (wtG rfl rfl rfl h3) rfl rfl rfl ti3 rfl rfl ?_
        refine pu (v := .sc _) (wtG rfl rfl rfl h3) rfl (fun _ => rfl) ?_
        refine pkF (v := .sc (.bool (decide (c.H < 1)))) rfl rfl h3 rfl ?_
        refine pu (v := .sc _) rfl rfl (fun _ => rfl) ?_
        refine brR hR (fun h4 hR => ?_) fun h4 hR => ?_
        · refine sk (skW rfl rfl rfl h4) ?_
          refine sk (skW rfl rfl rfl h4) ?_
          refine sk (skW rfl rfl rfl h4) ?_
          refine pkT (v := .sc (.bool true)) rfl rfl h4 rfl ?_
          refine pu (v := .sc _) rfl rfl (fun _ => rfl) ?_
          refine sk (skW rfl rfl rfl rfl) ?_
          refine sk (skW rfl rfl rfl rfl) ?_
          refine sk (skW rfl rfl rfl rfl) ?_
          refine sk (skW rfl rfl rfl rfl) ?_
          refine sk (skW rfl rfl rfl rfl) ?_
          refine sk (skW rfl rfl rfl rfl) ?_
          refine sk (skW rfl rfl rfl rfl) ?_
          refine sk (skW rfl rfl rfl rfl) ?_
          refine sk (skW rfl rfl rfl rfl) ?_
          refine pkT (v := .sc (.bool true)) rfl rfl rfl rfl ?_
          refine RunC.fin ?_
          have hR := Option.some.inj hR; subst hR
          exact Weak.turnL [(0, 0)] [] rfl rfl (tc (trP' rfl rfl rfl rfl) (tc (.sc _) tn)) (mc rfl (.box rfl (.cons (.sc _) (.cons (.sc _) (.cons trR1 (.nil)))) rfl) mn)
        · refine fa (wtG rfl rfl rfl h4) rfl ti77 rfl rfl ti3 rfl ?_
          refine ldB (v := .sc _) (wtG rfl rfl rfl h4) rfl rfl rfl ti3 rfl rfl ?_
          refine pu (v := .sc _) (wtG rfl rfl rfl h4) rfl (fun _ => rfl) ?_
          refine pkF (v := .sc (.bool (decide (c.H > 32)))) rfl rfl h4 rfl ?_
          refine pu (v := .sc _) rfl rfl (fun _ => rfl) ?_
          refine brR hR (fun h5 hR => ?_) fun h5 hR => ?_
          · refine sk (skW rfl rfl rfl h5) ?_
            refine sk (skW rfl rfl rfl h5) ?_
            refine sk (skW rfl rfl rfl h5) ?_
            refine sk (skW rfl rfl rfl h5) ?_
            refine sk (skW rfl rfl rfl h5) ?_
            refine sk (skW rfl rfl rfl h5) ?_
            refine sk (skW rfl rfl rfl h5) ?_
            refine sk (skW rfl rfl rfl h5) ?_
            refine sk (skW rfl rfl rfl h5) ?_
            refine pkT (v := .sc (.bool true)) rfl rfl h5 rfl ?_
            refine RunC.fin ?_
            have hR := Option.some.inj hR; subst hR
            exact Weak.turnL [(0, 0)] [] rfl rfl (tc (trP' rfl rfl rfl rfl) (tc (.sc _) tn)) (mc rfl (.box rfl (.cons (.sc _) (.cons (.sc _) (.cons trR1 (.nil)))) rfl) mn)
          · refine fa (wtG rfl rfl rfl h5) rfl ti77 rfl rfl ti75 rfl ?_
            refine ldB (v := rowV _ c.At) (wtG rfl rfl rfl h5) rfl rfl rfl ti75 rfl rfl ?_
            refine lenL (α := Bound) (wtG rfl rfl rfl h5) rfl ti75 rfl ?_
            refine fa (wtG rfl rfl rfl h5) rfl ti77 rfl rfl ti3 rfl ?_
            refine ldB (v := .sc _) (wtG rfl rfl rfl h5) rfl rfl rfl ti3 rfl rfl ?_
            refine fa (wtG rfl rfl rfl h5) rfl ti77 rfl rfl ti3 rfl ?_
            refine ldB (v := .sc _) (wtG rfl rfl rfl h5) rfl rfl rfl ti3 rfl rfl ?_
            refine pu (v := .sc _) (wtG rfl rfl rfl h5) rfl (fun _ => rfl) ?_
            refine pu (v := .sc _) (wtG rfl rfl rfl h5) rfl (fun _ => rfl) ?_
            refine pkF (v := .sc (.bool ((c.At.length : Int) != (w6 (c.W * c.H))))) rfl rfl h5 rfl ?_
            refine RunC.fin ?_
            have hR := Option.some.inj hR; subst hR
            exact Weak.turnL [(0, 0)] [] rfl rfl (tc (trP' rfl rfl rfl rfl) (tc (.sc _) tn)) (mc rfl (.box rfl (.cons (.sc _) (.cons (.sc _) (.cons trR1 (.nil)))) rfl) mn)
  · refine AWP.cd hR rfl (fun h6 hR => ?_) fun h6 hR => ?_
    · refine AWP.sq ?_
      refine AWP.rgC 5 rfl rfl ?_
      refine pu (v := .sc _) rfl rfl (fun _ => rfl) ?_
      refine RunC.fin ?_
      refine AWP.ret ?_
      refine rtT ?_
      have hR := Option.some.inj hR; subst hR
      exact hQ _ _ (LS.mk [(2, .sc (.int .i64 3))] (lblks 0 []) 0) (.sc (.int .i64 3)) [] (.inr rfl) (Weak.turnL [] [] rfl rfl (tc (.sc _) tn) mn) (ro1 (rvT (v := .sc (.int .i64 3)) rfl)) rfl rfl (.sc _) pn
    · refine AWP.skip ?_
      refine skT ?_
      refine AWP.sq ?_
      refine AWP.sq ?_
      refine AWP.rgC 17 rfl rfl ?_
      refine fa rfl rfl ti77 rfl rfl ti75 rfl ?_
      refine ldB (v := rowV _ c.At) rfl rfl rfl rfl ti75 rfl rfl ?_
      refine lenL (α := Bound) rfl rfl ti75 rfl ?_
      refine pu (v := .sc _) rfl rfl (fun _ => rfl) ?_
      refine RunC.fin ?_
      refine AWP.loopK' (fun s7 : Int => LS.mk [(36, rowV (α := Bound) false c.At), (37, .sc (.int .i64 (c.At.length : Int))), (38, .sc (.int .i64 s7))] (lblks 0 []) 0) (fun z8 : Unit => LS.mk [] (lblks 0 []) 0) (find_Check.l1 c) hR (s0 := 0) (Weak.turnL [] [] rfl rfl (tc trR1 (tc (.sc _) (tc (.sc _) tn))) mn) (fun s7 o7 hR hE7 => ?_) fun z8 hR => ?_
      · unfold find_Check.l1 at hR
        refine AWP.sq ?_
        refine AWP.rgC 4 rfl rfl ?_
        refine pu (v := .sc _) rfl rfl (fun _ => rfl) ?_
        refine RunC.fin ?_
        refine AWP.sq ?_
        refine AWP.cd hR rfl (fun h9 hR => ?_) fun h9 hR => ?_
        · refine AWP.skip ?_
          refine skT ?_
          refine AWP.sq ?_
          refine AWP.block ?_
          refine AWP.sq ?_
          refine AWP.rgC 20 rfl rfl ?_
          obtain ⟨h10, hR⟩ := chkE hR
          refine ixL (α := Bound) rfl rfl rfl ti75 rfl ti34 rfl h10 ?_
          refine ldR (v := .agg _) rfl rfl ti34 rfl ?_
          refine al (cs := [.sc (.int .i64 0), .sc (.int .i64 0), .sc (.bool false)]) 12 rfl rfl ti34 rfl rfl ?_
          refine stB (cs' := [.sc (.int .i64 (gt c.At s7).Lo), .sc (.int .i64 (gt c.At s7).Hi), .sc (.bool (gt c.At s7).Unknown)]) rfl rfl rfl rfl ti34 rfl rfl rfl rfl rfl ?_
          refine RunC.fin ?_
          refine AWP.sq ?_
          refine AWP.sq ?_
          refine AWP.rgC 32 rfl rfl ?_
          refine ldB (v := .agg _) rfl rfl rfl rfl ti34 rfl rfl ?_
          obtain ⟨r11, hr11, hR⟩ := bindE hR
          refine cls [] rfl rfl cb33 (ok33 (gt c.At s7) _ hr11) (.cons (.agg (.cons (.sc _) (.cons (.sc _) (.cons (.sc _) (.nil)))) rfl) (.nil)) (.inr rfl) rfl ?_
          refine pu (v := .sc _) rfl rfl (fun _ => rfl) ?_
          refine RunC.fin ?_
          refine AWP.sq ?_
          refine AWP.rgC 40 rfl rfl ?_
          refine pu (v := .sc _) rfl rfl (fun _ => rfl) ?_
          refine pu (v := .sc _) rfl rfl (fun _ => rfl) ?_
          refine RunC.fin ?_
          refine AWP.cd hR rfl (fun h12 hR => ?_) fun h12 hR => ?_
          · refine AWP.sq ?_
            refine AWP.rgC 48 rfl rfl ?_
            refine pu (v := .sc _) rfl rfl (fun _ => rfl) ?_
            refine pu (v := .sc _) rfl rfl (fun _ => rfl) ?_
            refine RunC.fin ?_
            refine AWP.ret ?_
            refine rtT ?_
            refine rtB ?_
            refine rtT ?_
            refine rtT ?_
            refine rtB (rtT ?_)
            replace hR := escL hR hE7
            refine rtT ?_
            have hR := Option.some.inj hR; subst hR
            exact hQ _ _ (LS.mk [(2, .sc (.int .i64 r11))] (lblks 0 []) 0) (.sc (.int .i64 r11)) [] (.inr rfl) (Weak.turnL [] [] rfl rfl (tc (.sc _) tn) mn) (ro1 (rvT (v := .sc (.int .i64 r11)) rfl)) rfl rfl (.sc _) pn
          · refine AWP.skip ?_
            refine skT ?_
            refine AWP.joinX (fun z13 : Bool => LS.mk [(36, rowV (α := Bound) false c.At), (37, .sc (.int .i64 (c.At.length : Int))), (38, .sc (.int .i64 s7)), (54, .sc (.bool z13))] (lblks 0 []) 0) hR (fun o13 hR => ?_) fun z13 hR => ?_
            · refine AWP.rgC 72 rfl rfl ?_
              refine fa rfl rfl ti34 rfl rfl ti32 rfl ?_
              refine ldB (v := .sc _) rfl rfl rfl rfl ti32 rfl rfl ?_
              refine pu (v := .sc _) rfl rfl (fun _ => rfl) ?_
              refine pu (v := .sc _) rfl rfl (fun _ => rfl) ?_
              refine brR hR (fun h14 hR => ?_) fun h14 hR => ?_
              · refine sk (skW rfl rfl rfl h14) ?_
                refine sk (skW rfl rfl rfl h14) ?_
                refine sk (skW rfl rfl rfl h14) ?_
                refine pkT (v := .sc (.bool true)) rfl rfl h14 rfl ?_
                refine RunC.fin ?_
                have hR := Option.some.inj hR; subst hR
                exact Weak.turnL [] [] rfl rfl (tc trR1 (tc (.sc _) (tc (.sc _) (tc (.sc _) tn)))) mn
              · refine fa (wtG rfl rfl rfl h14) rfl ti34 rfl rfl ti32 rfl ?_
                refine ldB (v := .sc _) (wtG rfl rfl rfl h14) rfl rfl rfl ti32 rfl rfl ?_
                refine pu (v := .sc _) (wtG rfl rfl rfl h14) rfl (fun _ => rfl) ?_
                refine pkF (v := .sc (.bool (decide ((gt c.At s7).Hi > 1099511627776)))) rfl rfl h14 rfl ?_
                refine RunC.fin ?_
                have hR := Option.some.inj hR; subst hR
                exact Weak.turnL [] [] rfl rfl (tc trR1 (tc (.sc _) (tc (.sc _) (tc (.sc _) tn)))) mn
            · refine AWP.cd hR rfl (fun h15 hR => ?_) fun h15 hR => ?_
              · refine AWP.sq ?_
                refine AWP.rgC 4 rfl rfl ?_
                refine pu (v := .sc _) rfl rfl (fun _ => rfl) ?_
                refine RunC.fin ?_
                refine AWP.ret ?_
                refine rtB ?_
                refine rtT ?_
                refine rtT ?_
                refine rtB (rtT ?_)
                replace hR := escL hR hE7
                refine rtT ?_
                have hR := Option.some.inj hR; subst hR
                exact hQ _ _ (LS.mk [(2, .sc (.int .i64 4))] (lblks 0 []) 0) (.sc (.int .i64 4)) [] (.inr rfl) (Weak.turnL [] [] rfl rfl (tc (.sc _) tn) mn) (ro1 (rvT (v := .sc (.int .i64 4)) rfl)) rfl rfl (.sc _) pn
              · refine AWP.skip ?_
                refine skB ?_
                refine skT ?_
                refine AWP.rgC 8 rfl rfl ?_
                refine pu (v := .sc _) rfl rfl (fun _ => rfl) ?_
                refine pu (v := .sc _) rfl rfl (fun _ => rfl) ?_
                refine RunC.fin ?_
                refine ⟨(w6 (s7 + 1)), (Option.some.inj hR).symm, ?_⟩
                exact Weak.turnL [] [] rfl rfl (tc trR1 (tc (.sc _) (tc (.sc _) tn))) mn
        · refine AWP.exit ?_
          refine exT ?_
          refine exT ?_
          refine exH (skT ?_)
          refine ⟨(), (Option.some.inj hR).symm, ?_⟩
          exact Weak.turnL [] [] rfl rfl tn mn
      · refine skT ?_
        refine AWP.sq ?_
        refine AWP.rgC 4 rfl rfl ?_
        refine pu (v := .sc _) rfl rfl (fun _ => rfl) ?_
        refine RunC.fin ?_
        refine AWP.ret ?_
        have hR := Option.some.inj hR; subst hR
        exact hQ _ _ (LS.mk [(2, .sc (.int .i64 0))] (lblks 0 []) 0) (.sc (.int .i64 0)) [] (.inr rfl) (Weak.turnL [] [] rfl rfl (tc (.sc _) tn) mn) (ro1 (rvT (v := .sc (.int .i64 0)) rfl)) rfl rfl (.sc _) pn
theorem ok55 (b : Bound) (r : Bound) (hR : bound_Neg b = some r) : FnP Try.prog 55 [aggV false b] (aggV (α := Bound) true r) := by
  refine fnP_of (FnX.walk Try.func55 rfl 14 0 (by simp [Try.ntmps55]) rfl fun W S F Q hQ => ?_)
  unfold bound_Neg at hR
  refine AWP.sq ?_
  refine AWP.rgC 8 rfl rfl ?_
  refine bx (cs := _) 0 rfl rfl rfl ?_
  refine al (cs := [.sc (.int .i64 0), .sc (.int .i64 0), .sc (.bool false)]) 4 rfl rfl ti34 rfl rfl ?_
  refine RunC.fin ?_
  refine AWP.sq ?_
  refine AWP.rgC 20 rfl rfl ?_
  refine ldB (v := .agg _) rfl rfl rfl rfl ti34 rfl rfl ?_
  obtain ⟨r1, hr1, hR⟩ := bindE hR
  refine cls [] rfl rfl cb52 (ok52 b _ hr1) (.cons (.agg (.cons (.sc _) (.cons (.sc _) (.cons (.sc _) (.nil)))) rfl) (.nil)) (.inr rfl) rfl ?_
  refine stB (cs' := [.sc (.int .i64 r1.Lo), .sc (.int .i64 r1.Hi), .sc (.bool r1.Unknown)]) rfl rfl rfl rfl ti34 rfl rfl rfl rfl rfl ?_
  refine RunC.fin ?_
  refine AWP.sq ?_
  refine AWP.rgC 60 rfl rfl ?_
  refine fa rfl rfl ti34 rfl rfl ti32 rfl ?_
  refine ldB (v := .sc _) rfl rfl rfl rfl ti32 rfl rfl ?_
  refine pu (v := .sc _) rfl rfl (fun _ => rfl) ?_
  refine fa rfl rfl ti34 rfl rfl ti32 rfl ?_
  refine ldB (v := .sc _) rfl rfl rfl rfl ti32 rfl rfl ?_
  refine pu (v := .sc _) rfl rfl (fun _ => rfl) ?_
  refine fa rfl rfl ti34 rfl rfl ti32 rfl ?_
  refine stB (cs' := [.sc (.int .i64 (w6 (0 - r1.Hi))), .sc (.int .i64 r1.Hi), .sc (.bool r1.Unknown)]) rfl rfl rfl rfl ti32 rfl rfl rfl rfl rfl ?_
  refine fa rfl rfl ti34 rfl rfl ti32 rfl ?_
  refine stB (cs' := [.sc (.int .i64 (w6 (0 - r1.Hi))), .sc (.int .i64 (w6 (0 - r1.Lo))), .sc (.bool r1.Unknown)]) rfl rfl rfl rfl ti32 rfl rfl rfl rfl rfl ?_
  refine RunC.fin ?_
  refine AWP.sq ?_
  refine AWP.rgC 68 rfl rfl ?_
  refine ldB (v := .agg _) rfl rfl rfl rfl ti34 rfl rfl ?_
  refine stB (cs' := [.sc (.int .i64 (w6 (0 - r1.Hi))), .sc (.int .i64 (w6 (0 - r1.Lo))), .sc (.bool r1.Unknown)]) rfl rfl rfl rfl ti34 rfl rfl rfl rfl rfl ?_
  refine RunC.fin ?_
  refine AWP.ret ?_
  have hR := Option.some.inj hR; subst hR
  exact hQ _ _ (LS.mk [(2, .ptr 0 0 0)] (lblks 0 [boxB (α := Bound) true (Bound.mk (w6 (0 - r1.Hi)) (w6 (0 - r1.Lo)) r1.Unknown)]) 1) (aggV (α := Bound) true (Bound.mk (w6 (0 - r1.Hi)) (w6 (0 - r1.Lo)) r1.Unknown)) [] (.inr rfl) (Weak.turnL [(4, 0)] [] rfl rfl (tc (trP' rfl rfl rfl rfl) tn) (mc rfl (.box rfl (.cons (.sc _) (.cons (.sc _) (.cons (.sc _) (.nil)))) rfl) mn)) (ro1 (rvC (v := aggV (α := Bound) true (Bound.mk (w6 (0 - r1.Hi)) (w6 (0 - r1.Lo)) r1.Unknown)) rfl rfl ti34 rfl)) rfl rfl ldA pn
theorem ok69 (lo : Int) (hi : Int) (r : Bound) (hR : bound_Of lo hi = some r) : FnP Try.prog 69 [.sc (.int .i64 lo), .sc (.int .i64 hi)] (aggV (α := Bound) true r) := by
  refine fnP_of (FnX.walk Try.func69 rfl 9 0 (by simp [Try.ntmps69]) rfl fun W S F Q hQ => ?_)
  unfold bound_Of at hR
  refine AWP.sq ?_
  refine AWP.rgC 4 rfl rfl ?_
  refine al (cs := [.sc (.int .i64 0), .sc (.int .i64 0), .sc (.bool false)]) 0 rfl rfl ti34 rfl rfl ?_
  refine RunC.fin ?_
  refine AWP.sq ?_
  refine AWP.rgC 24 rfl rfl ?_
  refine pu (v := .sc _) rfl rfl (fun _ => rfl) ?_
  refine pu (v := .sc _) rfl rfl (fun _ => rfl) ?_
  refine bu (cs := [.sc (.int .i64 lo), .sc (.int .i64 hi), .sc (.bool false)]) rfl bt34 rfl ?_
  obtain ⟨r1, hr1, hR⟩ := bindE hR
  refine cls [] rfl rfl cb52 (ok52 (Bound.mk lo hi false) _ hr1) (.cons (.agg (.cons (.sc _) (.cons (.sc _) (.cons (.sc _) (.nil)))) rfl) (.nil)) (.inr rfl) rfl ?_
  refine stB (cs' := [.sc (.int .i64 r1.Lo), .sc (.int .i64 r1.Hi), .sc (.bool r1.Unknown)]) rfl rfl rfl rfl ti34 rfl rfl rfl rfl rfl ?_
  refine RunC.fin ?_
  refine AWP.ret ?_
  have hR := Option.some.inj hR; subst hR
  exact hQ _ _ (LS.mk [(4, .ptr 0 0 0)] (lblks 0 [boxB (α := Bound) true r1]) 1) (aggV (α := Bound) true r1) [] (.inr rfl) (Weak.turnL [(0, 0)] [] rfl rfl (tc (trP' rfl rfl rfl rfl) tn) (mc rfl (.box rfl (.cons (.sc _) (.cons (.sc _) (.cons (.sc _) (.nil)))) rfl) mn)) (ro1 (rvC (v := aggV (α := Bound) true r1) rfl rfl ti34 rfl)) rfl rfl ldA pn
theorem ok54 (a : Bound) (b : Bound) (r : Bound) (hR : bound_Add a b = some r) : FnP Try.prog 54 [aggV false a, aggV false b] (aggV (α := Bound) true r) := by
  refine fnP_of (FnX.walk Try.func54 rfl 20 0 (by simp [Try.ntmps54]) rfl fun W S F Q hQ => ?_)
  unfold bound_Add at hR
  refine AWP.sq ?_
  refine AWP.rgC 12 rfl rfl ?_
  refine bx (cs := _) 0 rfl rfl rfl ?_
  refine bx (cs := _) 4 rfl rfl rfl ?_
  refine al (cs := [.sc (.int .i64 0), .sc (.int .i64 0), .sc (.bool false)]) 8 rfl rfl ti34 rfl rfl ?_
  refine RunC.fin ?_
  refine AWP.sq ?_
  refine AWP.sq ?_
  refine AWP.rgC 24 rfl rfl ?_
  refine ldB (v := .agg _) rfl rfl rfl rfl ti34 rfl rfl ?_
  refine ldB (v := .agg _) rfl rfl rfl rfl ti34 rfl rfl ?_
  obtain ⟨r1, hr1, hR⟩ := bindE hR
  refine cls [] rfl rfl cb41 (ok41 a b _ hr1) (.cons (.agg (.cons (.sc _) (.cons (.sc _) (.cons (.sc _) (.nil)))) rfl) (.cons (.agg (.cons (.sc _) (.cons (.sc _) (.cons (.sc _) (.nil)))) rfl) (.nil))) (.inr rfl) rfl ?_
  refine RunC.fin ?_
  refine AWP.cd hR rfl (fun h2 hR => ?_) fun h2 hR => ?_
  · refine AWP.sq ?_
    refine AWP.rgC 32 rfl rfl ?_
    obtain ⟨r3, hr3, hR⟩ := bindE hR
    refine cls [] rfl rfl cb53 (ok53 _ hr3) (.nil) (.inr rfl) rfl ?_
    refine stB (cs' := [.sc (.int .i64 r3.Lo), .sc (.int .i64 r3.Hi), .sc (.bool r3.Unknown)]) rfl rfl rfl rfl ti34 rfl rfl rfl rfl rfl ?_
    refine RunC.fin ?_
    refine AWP.ret ?_
    refine rtT ?_
    have hR := Option.some.inj hR; subst hR
    exact hQ _ _ (LS.mk [(4, .ptr 0 0 0)] (lblks 0 [boxB (α := Bound) true r3]) 1) (aggV (α := Bound) true r3) [] (.inr rfl) (Weak.turnL [(8, 0)] [] rfl rfl (tc (trP' rfl rfl rfl rfl) tn) (mc rfl (.box rfl (.cons (.sc _) (.cons (.sc _) (.cons (.sc _) (.nil)))) rfl) mn)) (ro1 (rvC (v := aggV (α := Bound) true r3) rfl rfl ti34 rfl)) rfl rfl ldA pn
  · refine AWP.skip ?_
    refine skT ?_
    refine AWP.sq ?_
    refine AWP.rgC 72 rfl rfl ?_
    refine fa rfl rfl ti34 rfl rfl ti32 rfl ?_
    refine ldB (v := .sc _) rfl rfl rfl rfl ti32 rfl rfl ?_
    refine fa rfl rfl ti34 rfl rfl ti32 rfl ?_
    refine ldB (v := .sc _) rfl rfl rfl rfl ti32 rfl rfl ?_
    refine pu (v := .sc _) rfl rfl (fun _ => rfl) ?_
    refine fa rfl rfl ti34 rfl rfl ti32 rfl ?_
    refine ldB (v := .sc _) rfl rfl rfl rfl ti32 rfl rfl ?_
    refine fa rfl rfl ti34 rfl rfl ti32 rfl ?_
    refine ldB (v := .sc _) rfl rfl rfl rfl ti32 rfl rfl ?_
    refine pu (v := .sc _) rfl rfl (fun _ => rfl) ?_
    obtain ⟨r4, hr4, hR⟩ := bindE hR
    refine cls [] rfl rfl cb69 (ok69 (w6 (a.Lo + b.Lo)) (w6 (a.Hi + b.Hi)) _ hr4) (.cons (.sc _) (.cons (.sc _) (.nil))) (.inr rfl) rfl ?_
    refine stB (cs' := [.sc (.int .i64 r4.Lo), .sc (.int .i64 r4.Hi), .sc (.bool r4.Unknown)]) rfl rfl rfl rfl ti34 rfl rfl rfl rfl rfl ?_
    refine RunC.fin ?_
    refine AWP.ret ?_
    have hR := Option.some.inj hR; subst hR
    exact hQ _ _ (LS.mk [(4, .ptr 0 0 0)] (lblks 0 [boxB (α := Bound) true r4]) 1) (aggV (α := Bound) true r4) [] (.inr rfl) (Weak.turnL [(8, 0)] [] rfl rfl (tc (trP' rfl rfl rfl rfl) tn) (mc rfl (.box rfl (.cons (.sc _) (.cons (.sc _) (.cons (.sc _) (.nil)))) rfl) mn)) (ro1 (rvC (v := aggV (α := Bound) true r4) rfl rfl ti34 rfl)) rfl rfl ldA pn
theorem ok44 (a : Bound) (b : Bound) (r : Bound) (hR : bound_Sub a b = some r) : FnP Try.prog 44 [aggV false a, aggV false b] (aggV (α := Bound) true r) := by
  refine fnP_of (FnX.walk Try.func44 rfl 9 0 (by simp [Try.ntmps44]) rfl fun W S F Q hQ => ?_)
  unfold bound_Sub at hR
  refine AWP.sq ?_
  refine AWP.rgC 12 rfl rfl ?_
  refine bx (cs := _) 0 rfl rfl rfl ?_
  refine bx (cs := _) 4 rfl rfl rfl ?_
  refine al (cs := [.sc (.int .i64 0), .sc (.int .i64 0), .sc (.bool false)]) 8 rfl rfl ti34 rfl rfl ?_
  refine RunC.fin ?_
  refine AWP.sq ?_
  refine AWP.rgD 32 [0, 0, 2, 7, 15] ⟨[], [some [0], some [4], none, none, some [8]]⟩ hmix (by kernel_rfl) rfl rfl ?_
  refine ldB (v := .agg _) rfl rfl rfl rfl ti34 rfl rfl ?_
  refine ldB (v := .agg _) rfl rfl rfl rfl ti34 rfl rfl ?_
  obtain ⟨r1, hr1, hR⟩ := bindE hR
  refine cls [] rfl rfl cb55 (ok55 b _ hr1) (.cons (.agg (.cons (.sc _) (.cons (.sc _) (.cons (.sc _) (.nil)))) rfl) (.nil)) (.inr rfl) rfl ?_
  obtain ⟨r2, hr2, hR⟩ := bindE hR
  refine cls [] rfl rfl cb54 (ok54 a r1 _ hr2) (.cons (.agg (.cons (.sc _) (.cons (.sc _) (.cons (.sc _) (.nil)))) rfl) (.cons (.agg (.cons (.sc _) (.cons (.sc _) (.cons (.sc _) (.nil)))) rfl) (.nil))) (.inr rfl) rfl ?_
  refine stB (cs' := [.sc (.int .i64 r2.Lo), .sc (.int .i64 r2.Hi), .sc (.bool r2.Unknown)]) rfl rfl rfl rfl ti34 rfl rfl rfl rfl rfl ?_
  refine RunC.fin ?_
  refine AWP.ret ?_
  have hR := Option.some.inj hR; subst hR
  exact hQ _ _ (LS.mk [(4, .ptr 0 0 0)] (lblks 0 [boxB (α := Bound) true r2]) 1) (aggV (α := Bound) true r2) [] (.inr rfl) (Weak.turnL [(8, 0)] [] rfl rfl (tc (trP' rfl rfl rfl rfl) tn) (mc rfl (.box rfl (.cons (.sc _) (.cons (.sc _) (.cons (.sc _) (.nil)))) rfl) mn)) (ro1 (rvC (v := aggV (α := Bound) true r2) rfl rfl ti34 rfl)) rfl rfl ldA pn
theorem ok43 (b : Bound) (r : Bound) (hR : differ_limited b = some r) : FnP Try.prog 43 [aggV false b] (aggV (α := Bound) true r) := by
  refine fnP_of (FnX.walk Try.func43 rfl 13 0 (by simp [Try.ntmps43]) rfl fun W S F Q hQ => ?_)
  unfold differ_limited at hR
  refine AWP.sq ?_
  refine AWP.rgC 8 rfl rfl ?_
  refine bx (cs := _) 0 rfl rfl rfl ?_
  refine al (cs := [.sc (.int .i64 0), .sc (.int .i64 0), .sc (.bool false)]) 4 rfl rfl ti34 rfl rfl ?_
  refine RunC.fin ?_
  refine AWP.sq ?_
  refine AWP.joinX (fun z1 : Bool => LS.mk [(1, .ptr 0 0 0), (2, .ptr 1 0 0), (10, .sc (.bool z1))] (lblks 0 [boxB (α := Bound) true b, boxB (α := Bound) true (Bound.mk 0 0 false)]) 2) hR (fun o1 hR => ?_) fun z1 hR => ?_
  · refine AWP.rgC 40 rfl rfl ?_
    refine fa rfl rfl ti34 rfl rfl ti32 rfl ?_
    refine ldB (v := .sc _) rfl rfl rfl rfl ti32 rfl rfl ?_
    refine pu (v := .sc _) rfl rfl (fun _ => rfl) ?_
    refine pu (v := .sc _) rfl rfl (fun _ => rfl) ?_
    refine brR hR (fun h2 hR => ?_) fun h2 hR => ?_
    · refine sk (skW rfl rfl rfl h2) ?_
      refine sk (skW rfl rfl rfl h2) ?_
      refine sk (skW rfl rfl rfl h2) ?_
      refine pkT (v := .sc (.bool true)) rfl rfl h2 rfl ?_
      refine RunC.fin ?_
      have hR := Option.some.inj hR; subst hR
      exact Weak.turnL [(0, 0), (4, 0)] [] rfl rfl (tc (trP' rfl rfl rfl rfl) (tc (trP' rfl rfl rfl rfl) (tc (.sc _) tn))) (mc rfl (.box rfl (.cons (.sc _) (.cons (.sc _) (.cons (.sc _) (.nil)))) rfl) (mc rfl (.box rfl (.cons (.sc _) (.cons (.sc _) (.cons (.sc _) (.nil)))) rfl) mn))
    · refine fa (wtG rfl rfl rfl h2) rfl ti34 rfl rfl ti32 rfl ?_
      refine ldB (v := .sc _) (wtG rfl rfl rfl h2) rfl rfl rfl ti32 rfl rfl ?_
      refine pu (v := .sc _) (wtG rfl rfl rfl h2) rfl (fun _ => rfl) ?_
      refine pkF (v := .sc (.bool (decide (b.Hi > 1099511627776)))) rfl rfl h2 rfl ?_
      refine RunC.fin ?_
      have hR := Option.some.inj hR; subst hR
      exact Weak.turnL [(0, 0), (4, 0)] [] rfl rfl (tc (trP' rfl rfl rfl rfl) (tc (trP' rfl rfl rfl rfl) (tc (.sc _) tn))) (mc rfl (.box rfl (.cons (.sc _) (.cons (.sc _) (.cons (.sc _) (.nil)))) rfl) (mc rfl (.box rfl (.cons (.sc _) (.cons (.sc _) (.cons (.sc _) (.nil)))) rfl) mn))
  · refine AWP.cd hR rfl (fun h3 hR => ?_) fun h3 hR => ?_
    · refine AWP.sq ?_
      refine AWP.rgC 10 rfl rfl ?_
      obtain ⟨r4, hr4, hR⟩ := bindE hR
      refine cls [] rfl rfl cb53 (ok53 _ hr4) (.nil) (.inr rfl) rfl ?_
      refine stB (cs' := [.sc (.int .i64 r4.Lo), .sc (.int .i64 r4.Hi), .sc (.bool r4.Unknown)]) rfl rfl rfl rfl ti34 rfl rfl rfl rfl rfl ?_
      refine RunC.fin ?_
      refine AWP.ret ?_
      refine rtT ?_
      have hR := Option.some.inj hR; subst hR
      exact hQ _ _ (LS.mk [(2, .ptr 0 0 0)] (lblks 0 [boxB (α := Bound) true r4]) 1) (aggV (α := Bound) true r4) [] (.inr rfl) (Weak.turnL [(1, 0)] [] rfl rfl (tc (trP' rfl rfl rfl rfl) tn) (mc rfl (.box rfl (.cons (.sc _) (.cons (.sc _) (.cons (.sc _) (.nil)))) rfl) mn)) (ro1 (rvC (v := aggV (α := Bound) true r4) rfl rfl ti34 rfl)) rfl rfl ldA pn
    · refine AWP.skip ?_
      refine skT ?_
      refine AWP.sq ?_
      refine AWP.rgC 10 rfl rfl ?_
      refine ldB (v := .agg _) rfl rfl rfl rfl ti34 rfl rfl ?_
      refine stB (cs' := [.sc (.int .i64 b.Lo), .sc (.int .i64 b.Hi), .sc (.bool b.Unknown)]) rfl rfl rfl rfl ti34 rfl rfl rfl rfl rfl ?_
      refine RunC.fin ?_
      refine AWP.ret ?_
      have hR := Option.some.inj hR; subst hR
      exact hQ _ _ (LS.mk [(2, .ptr 0 0 0)] (lblks 0 [boxB (α := Bound) true b]) 1) (aggV (α := Bound) true b) [] (.inr rfl) (Weak.turnL [(1, 0)] [] rfl rfl (tc (trP' rfl rfl rfl rfl) tn) (mc rfl (.box rfl (.cons (.sc _) (.cons (.sc _) (.cons (.sc _) (.nil)))) rfl) mn)) (ro1 (rvC (v := aggV (α := Bound) true b) rfl rfl ti34 rfl)) rfl rfl ldA pn
theorem ok35 (a : Cells) (b : Cells) (r : Cells × Int) (hR : differ_Sub a b = some r) : FnP Try.prog 35 [aggV false a, aggV false b] (.tup [aggV (α := Cells) true r.1, .sc (.int .i64 r.2)]) := by
  refine fnP_of (FnX.walk Try.func35 rfl 65 0 (by simp [Try.ntmps35]) rfl fun W S F Q hQ => ?_)
  unfold differ_Sub at hR
  refine AWP.sq ?_
  refine AWP.rgC 16 rfl rfl ?_
  refine bx (cs := _) 0 rfl rfl rfl ?_
  refine bx (cs := _) 4 rfl rfl rfl ?_
  refine al (cs := [.sc (.int .i64 0), .sc (.int .i64 0), .sc (.slice none 0 0)]) 8 rfl rfl ti77 rfl rfl ?_
  refine pu (v := .sc _) rfl rfl (fun _ => rfl) ?_
  refine RunC.fin ?_
  refine AWP.sq ?_
  refine AWP.sq ?_
  refine AWP.rgC 28 rfl rfl ?_
  refine ldB (v := .agg _) rfl rfl rfl rfl ti77 rfl rfl ?_
  obtain ⟨r1, hr1, hR⟩ := bindE hR
  refine cls [] rfl rfl cb42 (ok42 a _ hr1) (.cons (.agg (.cons (.sc _) (.cons (.sc _) (.cons ldR' (.nil)))) rfl) (.nil)) (.inr rfl) rfl ?_
  refine pu (v := .sc _) rfl rfl (fun _ => rfl) ?_
  refine RunC.fin ?_
  refine AWP.sq ?_
  refine AWP.rgC 36 rfl rfl ?_
  refine pu (v := .sc _) rfl rfl (fun _ => rfl) ?_
  refine pu (v := .sc _) rfl rfl (fun _ => rfl) ?_
  refine RunC.fin ?_
  refine AWP.cd hR rfl (fun h2 hR => ?_) fun h2 hR => ?_
  · refine AWP.sq ?_
    refine AWP.rgC 52 rfl rfl ?_
    refine bu (cs := [.sc (.int .i64 0), .sc (.int .i64 0), .sc (.slice none 0 0)]) rfl bt77 rfl ?_
    refine pu (v := .sc _) rfl rfl (fun _ => rfl) ?_
    refine stB (cs' := [.sc (.int .i64 0), .sc (.int .i64 0), .sc (.slice none 0 0)]) rfl rfl rfl rfl ti77 rfl rfl rfl rfl rfl ?_
    refine pu (v := .sc _) rfl rfl (fun _ => rfl) ?_
    refine RunC.fin ?_
    refine AWP.ret ?_
    refine rtT ?_
    have hR := Option.some.inj hR; subst hR
    exact hQ _ _ (LS.mk [(4, .ptr 0 0 0), (5, .sc (.int .i64 r1))] (lblks 0 [boxB (α := Cells) true (Cells.mk 0 0 [])]) 1) (.tup [aggV (α := Cells) true (Cells.mk 0 0 []), .sc (.int .i64 r1)]) [] (.inr rfl) (Weak.turnL [(8, 0)] [] rfl rfl (tc (trP' rfl rfl rfl rfl) (tc (.sc _) tn)) (mc rfl (.box rfl (.cons (.sc _) (.cons (.sc _) (.cons trN (.nil)))) rfl) mn)) (ro2 (rvC (v := aggV (α := Cells) true (Cells.mk 0 0 [])) rfl rfl ti77 rfl) (rvT (v := .sc (.int .i64 r1)) rfl)) rfl rfl (.tup (.cons ldA (.cons (.sc _) .nil))) pn
  · refine AWP.skip ?_
    refine skT ?_
    refine AWP.sq ?_
    refine AWP.sq ?_
    refine AWP.rgC 48 rfl rfl ?_
    refine ldB (v := .agg _) rfl rfl rfl rfl ti77 rfl rfl ?_
    obtain ⟨r3, hr3, hR⟩ := bindE hR
    refine cls [] rfl rfl cb42 (ok42 b _ hr3) (.cons (.agg (.cons (.sc _) (.cons (.sc _) (.cons ldR' (.nil)))) rfl) (.nil)) (.inr rfl) rfl ?_
    refine pu (v := .sc _) rfl rfl (fun _ => rfl) ?_
    refine RunC.fin ?_
    refine AWP.sq ?_
    refine AWP.rgC 56 rfl rfl ?_
    refine pu (v := .sc _) rfl rfl (fun _ => rfl) ?_
    refine pu (v := .sc _) rfl rfl (fun _ => rfl) ?_
    refine RunC.fin ?_
    refine AWP.cd hR rfl (fun h4 hR => ?_) fun h4 hR => ?_
    · refine AWP.sq ?_
      refine AWP.rgC 72 rfl rfl ?_
      refine bu (cs := [.sc (.int .i64 0), .sc (.int .i64 0), .sc (.slice none 0 0)]) rfl bt77 rfl ?_
      refine pu (v := .sc _) rfl rfl (fun _ => rfl) ?_
      refine stB (cs' := [.sc (.int .i64 0), .sc (.int .i64 0), .sc (.slice none 0 0)]) rfl rfl rfl rfl ti77 rfl rfl rfl rfl rfl ?_
      refine pu (v := .sc _) rfl rfl (fun _ => rfl) ?_
      refine RunC.fin ?_
      refine AWP.ret ?_
      refine rtT ?_
      have hR := Option.some.inj hR; subst hR
      exact hQ _ _ (LS.mk [(4, .ptr 0 0 0), (5, .sc (.int .i64 r3))] (lblks 0 [boxB (α := Cells) true (Cells.mk 0 0 [])]) 1) (.tup [aggV (α := Cells) true (Cells.mk 0 0 []), .sc (.int .i64 r3)]) [] (.inr rfl) (Weak.turnL [(8, 0)] [] rfl rfl (tc (trP' rfl rfl rfl rfl) (tc (.sc _) tn)) (mc rfl (.box rfl (.cons (.sc _) (.cons (.sc _) (.cons trN (.nil)))) rfl) mn)) (ro2 (rvC (v := aggV (α := Cells) true (Cells.mk 0 0 [])) rfl rfl ti77 rfl) (rvT (v := .sc (.int .i64 r3)) rfl)) rfl rfl (.tup (.cons ldA (.cons (.sc _) .nil))) pn
    · refine AWP.skip ?_
      refine skT ?_
      refine AWP.sq ?_
      refine AWP.joinX (fun z5 : Bool => LS.mk [(2, .ptr 0 0 0), (3, .ptr 1 0 0), (4, .ptr 2 0 0), (33, .sc (.bool z5))] (lblks 0 [boxB (α := Cells) false a, boxB (α := Cells) false b, .box [.sc (.int .i64 0), .sc (.int .i64 0), .sc (.slice none 0 0)]]) 3) hR (fun o5 hR => ?_) fun z5 hR => ?_
      · refine AWP.rgC 104 rfl rfl ?_
        refine fa rfl rfl ti77 rfl rfl ti3 rfl ?_
        refine ldB (v := .sc _) rfl rfl rfl rfl ti3 rfl rfl ?_
        refine fa rfl rfl ti77 rfl rfl ti3 rfl ?_
        refine ldB (v := .sc _) rfl rfl rfl rfl ti3 rfl rfl ?_
        refine pu (v := .sc _) rfl rfl (fun _ => rfl) ?_
        refine pu (v := .sc _) rfl rfl (fun _ => rfl) ?_
        refine brR hR (fun h6 hR => ?_) fun h6 hR => ?_
        · refine sk (skW rfl rfl rfl h6) ?_
          refine sk (skW rfl rfl rfl h6) ?_
          refine sk (skW rfl rfl rfl h6) ?_
          refine sk (skW rfl rfl rfl h6) ?_
          refine sk (skW rfl rfl rfl h6) ?_
          refine pkT (v := .sc (.bool true)) rfl rfl h6 rfl ?_
          refine RunC.fin ?_
          have hR := Option.some.inj hR; subst hR
          exact Weak.turnL [(0, 0), (4, 0), (8, 0)] [] rfl rfl (tc (trP' rfl rfl rfl rfl) (tc (trP' rfl rfl rfl rfl) (tc (trP' rfl rfl rfl rfl) (tc (.sc _) tn)))) (mc rfl (.box rfl (.cons (.sc _) (.cons (.sc _) (.cons trR1 (.nil)))) rfl) (mc rfl (.box rfl (.cons (.sc _) (.cons (.sc _) (.cons trR1 (.nil)))) rfl) (mc rfl (.box rfl (.cons (.sc _) (.cons (.sc _) (.cons (.sc _) (.nil)))) rfl) mn)))
        · refine fa (wtG rfl rfl rfl h6) rfl ti77 rfl rfl ti3 rfl ?_
          refine ldB (v := .sc _) (wtG rfl rfl rfl h6) rfl rfl rfl ti3 rfl rfl ?_
          refine fa (wtG rfl rfl rfl h6) rfl ti77 rfl rfl ti3 rfl ?_
          refine ldB (v := .sc _) (wtG rfl rfl rfl h6) rfl rfl rfl ti3 rfl rfl ?_
          refine pu (v := .sc _) (wtG rfl rfl rfl h6) rfl (fun _ => rfl) ?_
          refine pkF (v := .sc (.bool (a.H != b.H))) rfl rfl h6 rfl ?_
          refine RunC.fin ?_
          have hR := Option.some.inj hR; subst hR
          exact Weak.turnL [(0, 0), (4, 0), (8, 0)] [] rfl rfl (tc (trP' rfl rfl rfl rfl) (tc (trP' rfl rfl rfl rfl) (tc (trP' rfl rfl rfl rfl) (tc (.sc _) tn)))) (mc rfl (.box rfl (.cons (.sc _) (.cons (.sc _) (.cons trR1 (.nil)))) rfl) (mc rfl (.box rfl (.cons (.sc _) (.cons (.sc _) (.cons trR1 (.nil)))) rfl) (mc rfl (.box rfl (.cons (.sc _) (.cons (.sc _) (.cons (.sc _) (.nil)))) rfl) mn)))
      · refine AWP.cd hR rfl (fun h7 hR => ?_) fun h7 hR => ?_
        · refine AWP.sq ?_
          refine AWP.rgC 15 rfl rfl ?_
          refine bu (cs := [.sc (.int .i64 0), .sc (.int .i64 0), .sc (.slice none 0 0)]) rfl bt77 rfl ?_
          refine stB (cs' := [.sc (.int .i64 0), .sc (.int .i64 0), .sc (.slice none 0 0)]) rfl rfl rfl rfl ti77 rfl rfl rfl rfl rfl ?_
          refine pu (v := .sc _) rfl rfl (fun _ => rfl) ?_
          refine RunC.fin ?_
          refine AWP.ret ?_
          refine rtT ?_
          have hR := Option.some.inj hR; subst hR
          exact hQ _ _ (LS.mk [(4, .ptr 0 0 0), (5, .sc (.int .i64 12))] (lblks 0 [boxB (α := Cells) true (Cells.mk 0 0 [])]) 1) (.tup [aggV (α := Cells) true (Cells.mk 0 0 []), .sc (.int .i64 12)]) [] (.inr rfl) (Weak.turnL [(2, 0)] [] rfl rfl (tc (trP' rfl rfl rfl rfl) (tc (.sc _) tn)) (mc rfl (.box rfl (.cons (.sc _) (.cons (.sc _) (.cons trN (.nil)))) rfl) mn)) (ro2 (rvC (v := aggV (α := Cells) true (Cells.mk 0 0 [])) rfl rfl ti77 rfl) (rvT (v := .sc (.int .i64 12)) rfl)) rfl rfl (.tup (.cons ldA (.cons (.sc _) .nil))) pn
        · refine AWP.skip ?_
          refine skT ?_
          refine AWP.sq ?_
          refine AWP.rgC 31 rfl rfl ?_
          refine fa rfl rfl ti77 rfl rfl ti3 rfl ?_
          refine ldB (v := .sc _) rfl rfl rfl rfl ti3 rfl rfl ?_
          refine fa rfl rfl ti77 rfl rfl ti3 rfl ?_
          refine ldB (v := .sc _) rfl rfl rfl rfl ti3 rfl rfl ?_
          refine bu (cs := [.sc (.int .i64 a.W), .sc (.int .i64 a.H), .sc (.slice none 0 0)]) rfl bt77 rfl ?_
          refine al (cs := [.sc (.int .i64 0), .sc (.int .i64 0), .sc (.slice none 0 0)]) 23 rfl rfl ti77 rfl rfl ?_
          refine stB (cs' := [.sc (.int .i64 a.W), .sc (.int .i64 a.H), .sc (.slice none 0 0)]) rfl rfl rfl rfl ti77 rfl rfl rfl rfl rfl ?_
          refine RunC.fin ?_
          refine AWP.sq ?_
          refine AWP.sq ?_
          refine AWP.rgC 47 rfl rfl ?_
          refine fa rfl rfl ti77 rfl rfl ti75 rfl ?_
          refine ldB (v := rowV _ a.At) rfl rfl rfl rfl ti75 rfl rfl ?_
          refine lenL (α := Bound) rfl rfl ti75 rfl ?_
          refine pu (v := .sc _) rfl rfl (fun _ => rfl) ?_
          refine RunC.fin ?_
          refine AWP.nilB Bound 23 2 34 rfl rfl (cs' := [.sc (.int .i64 a.W), .sc (.int .i64 a.H), slV Bound 47 0 0 0]) rfl ?_
          refine AWP.loopJ (fun s8 : (List Bound) × Int => LS.mk [(2, .ptr 0 0 0), (3, .ptr 1 0 0), (4, .ptr 2 0 0), (8, .ptr 3 0 0), (42, .sc (.int .i64 (a.At.length : Int))), (43, .sc (.int .i64 s8.2))] (lblks 0 [boxB (α := Cells) false a, boxB (α := Cells) false b, .box [.sc (.int .i64 0), .sc (.int .i64 0), .sc (.slice none 0 0)], .box [.sc (.int .i64 a.W), .sc (.int .i64 a.H), slV Bound 4 0 0 s8.1.length], arrB (α := Bound) 34 0 true s8.1]) 5) (fun z9 : (List Bound) => LS.mk [(4, .ptr 0 0 0), (8, .ptr 1 0 0)] (lblks 0 [.box [.sc (.int .i64 0), .sc (.int .i64 0), .sc (.slice none 0 0)], .box [.sc (.int .i64 a.W), .sc (.int .i64 a.H), slV Bound 2 0 0 z9.length], arrB (α := Bound) 34 0 true z9]) 3) (differ_Sub.l1 a b) hR (s0 := (([] : List Bound), 0)) (Weak.turnL [(0, 0), (1, 0), (2, 0), (23, 0), (47, 0)] [] rfl rfl (tc (trP' rfl rfl rfl rfl) (tc (trP' rfl rfl rfl rfl) (tc (trP' rfl rfl rfl rfl) (tc (trP' rfl rfl rfl rfl) (tc (.sc _) (tc (.sc _) tn)))))) (mc rfl (.box rfl (.cons (.sc _) (.cons (.sc _) (.cons trR1 (.nil)))) rfl) (mc rfl (.box rfl (.cons (.sc _) (.cons (.sc _) (.cons trR1 (.nil)))) rfl) (mc rfl (.box rfl (.cons (.sc _) (.cons (.sc _) (.cons (.sc _) (.nil)))) rfl) (mc rfl (.box rfl (.cons (.sc _) (.cons (.sc _) (.cons (trS' rfl rfl rfl rfl rfl) (.nil)))) rfl) (mc rfl (btrA' rfl) mn)))))) (fun s8 o8 hR => ?_) fun z9 hR => ?_
          · unfold differ_Sub.l1 at hR
            refine AWP.sq ?_
            refine AWP.rgC 9 rfl rfl ?_
            refine pu (v := .sc _) rfl rfl (fun _ => rfl) ?_
            refine RunC.fin ?_
            refine AWP.sq ?_
            refine AWP.cd hR rfl (fun h10 hR => ?_) fun h10 hR => ?_
            · refine AWP.skip ?_
              refine skT ?_
              refine AWP.sq ?_
              refine AWP.block ?_
              refine AWP.sq ?_
              refine AWP.rgC 17 rfl rfl ?_
              refine pu (v := .sc _) rfl rfl (fun _ => rfl) ?_
              refine pu (v := .sc _) rfl rfl (fun _ => rfl) ?_
              refine RunC.fin ?_
              refine AWP.rgD 89 [0, 1, 0, 4, 0, 28, 60, 0, 128, 0, 896, 1920, 4092, 8188, 16380, 32767, 65535, 131071] ⟨[], [none, some [3], none, some [0], none, none, some [], none, some [1], none, none, some [], none, none, none, some [4, 73], none, some [3]]⟩ hmix (by kernel_rfl) rfl rfl ?_
              refine fa rfl rfl ti77 rfl rfl ti75 rfl ?_
              refine ldB (v := slV Bound _ _ _ _) rfl rfl rfl rfl ti75 rfl rfl ?_
              refine fa rfl rfl ti77 rfl rfl ti75 rfl ?_
              refine ldB (v := rowV _ a.At) rfl rfl rfl rfl ti75 rfl rfl ?_
              refine pu (v := .sc _) rfl rfl (fun _ => rfl) ?_
              obtain ⟨h11, hR⟩ := chkE hR
              refine ixL (α := Bound) rfl rfl rfl ti75 rfl ti34 rfl h11 ?_
              refine ldR (v := .agg _) rfl rfl ti34 rfl ?_
              refine fa rfl rfl ti77 rfl rfl ti75 rfl ?_
              refine ldB (v := rowV _ b.At) rfl rfl rfl rfl ti75 rfl rfl ?_
              refine pu (v := .sc _) rfl rfl (fun _ => rfl) ?_
              obtain ⟨h12, hR⟩ := chkE hR
              refine ixL (α := Bound) rfl rfl rfl ti75 rfl ti34 rfl h12 ?_
              refine ldR (v := .agg _) rfl rfl ti34 rfl ?_
              obtain ⟨r13, hr13, hR⟩ := bindE hR
              refine cls [] rfl rfl cb44 (ok44 (gt a.At s8.2) (gt b.At s8.2) _ hr13) (.cons (.agg (.cons (.sc _) (.cons (.sc _) (.cons (.sc _) (.nil)))) rfl) (.cons (.agg (.cons (.sc _) (.cons (.sc _) (.cons (.sc _) (.nil)))) rfl) (.nil))) (.inr rfl) rfl ?_
              obtain ⟨r14, hr14, hR⟩ := bindE hR
              refine cls [] rfl rfl cb43 (ok43 r13 _ hr14) (.cons (.agg (.cons (.sc _) (.cons (.sc _) (.cons (.sc _) (.nil)))) rfl) (.nil)) (.inr rfl) rfl ?_
              refine bs (α := Bound) 73 true ([r14] : List Bound) rfl rfl ti75 rfl ti34 rfl rfl rfl rfl rfl ?_
              obtain ⟨h15, hR⟩ := chkE hR
              refine ap' (α := Bound) (nw := true) (xs := s8.1) (ys := ([r14] : List Bound)) rfl rfl rfl rfl (srcS' rfl rfl rfl) ti75 rfl ti34 rfl h15 rfl ?_
              refine fa rfl rfl ti77 rfl rfl ti75 rfl ?_
              refine stB (cs' := [.sc (.int .i64 a.W), .sc (.int .i64 a.H), slV Bound 4 1 0 (s8.1 ++ ([r14] : List Bound)).length]) rfl rfl rfl rfl ti75 rfl rfl rfl rfl rfl ?_
              refine RunC.blk ?_
              refine RunC.fin ?_
              refine AWP.rgC 97 rfl rfl ?_
              refine pu (v := .sc _) rfl rfl (fun _ => rfl) ?_
              refine pu (v := .sc _) rfl rfl (fun _ => rfl) ?_
              refine RunC.fin ?_
              refine ⟨(s8.1 ++ ([r14] : List Bound), w6 (s8.2 + 1)), (Option.some.inj hR).symm, ?_⟩
              exact Weak.turnL [(0, 0), (1, 0), (2, 0), (3, 0), (4, 0)] [] rfl rfl (tc (trP' rfl rfl rfl rfl) (tc (trP' rfl rfl rfl rfl) (tc (trP' rfl rfl rfl rfl) (tc (trP' rfl rfl rfl rfl) (tc (.sc _) (tc (.sc _) tn)))))) (mc rfl (.box rfl (.cons (.sc _) (.cons (.sc _) (.cons trR1 (.nil)))) rfl) (mc rfl (.box rfl (.cons (.sc _) (.cons (.sc _) (.cons trR1 (.nil)))) rfl) (mc rfl (.box rfl (.cons (.sc _) (.cons (.sc _) (.cons (.sc _) (.nil)))) rfl) (mc rfl (.box rfl (.cons (.sc _) (.cons (.sc _) (.cons (trS' rfl rfl rfl rfl rfl) (.nil)))) rfl) (mc rfl (btrA' rfl) mn)))))
            · refine AWP.exit ?_
              refine exT ?_
              refine exT ?_
              refine exH (skT ?_)
              refine ⟨s8.1, (Option.some.inj hR).symm, ?_⟩
              exact Weak.turnL [(2, 0), (3, 0), (4, 0)] [] rfl rfl (tc (trP' rfl rfl rfl rfl) (tc (trP' rfl rfl rfl rfl) tn)) (mc rfl (.box rfl (.cons (.sc _) (.cons (.sc _) (.cons (.sc _) (.nil)))) rfl) (mc rfl (.box rfl (.cons (.sc _) (.cons (.sc _) (.cons (trS' rfl rfl rfl rfl rfl) (.nil)))) rfl) (mc rfl (btrA' rfl) mn)))
          · refine skT ?_
            refine AWP.sq ?_
            refine AWP.rgC 15 rfl rfl ?_
            refine ldB (v := .agg _) rfl rfl rfl rfl ti77 rfl rfl ?_
            refine stB (cs' := [.sc (.int .i64 a.W), .sc (.int .i64 a.H), slV Bound 2 0 0 z9.length]) rfl rfl rfl rfl ti77 rfl rfl rfl rfl rfl ?_
            refine pu (v := .sc _) rfl rfl (fun _ => rfl) ?_
            refine RunC.fin ?_
            refine AWP.ret ?_
            have hR := Option.some.inj hR; subst hR
            exact hQ _ _ (LS.mk [(4, .ptr 0 0 0), (5, .sc (.int .i64 0))] (lblks 0 [boxB (α := Cells) true (Cells.mk a.W a.H z9)]) 1) (.tup [aggV (α := Cells) true (Cells.mk a.W a.H z9), .sc (.int .i64 0)]) [] (.inr rfl) (Weak.turnL [(0, 0)] [2] rfl rfl (tc (trP' rfl rfl rfl rfl) (tc (.sc _) tn)) (mc rfl (.box rfl (.cons (.sc _) (.cons (.sc _) (.cons (trF' rfl rfl id rfl) (.nil)))) rfl) mn)) (ro2 (rvC (v := aggV (α := Cells) true (Cells.mk a.W a.H z9)) rfl rfl ti77 rfl) (rvT (v := .sc (.int .i64 0)) rfl)) rfl rfl (.tup (.cons ldA (.cons (.sc _) .nil))) pn
theorem ok57 (b : Bound) (r : Int) (hR : find_CheckLevel b = some r) : FnP Try.prog 57 [aggV false b] (.sc (.int .i64 r)) := by
  refine fnP_of (FnX.walk Try.func57 rfl 22 0 (by simp [Try.ntmps57]) rfl fun W S F Q hQ => ?_)
  unfold find_CheckLevel at hR
  refine AWP.sq ?_
  refine AWP.rgC 8 rfl rfl ?_
  refine bx (cs := _) 0 rfl rfl rfl ?_
  refine pu (v := .sc _) rfl rfl (fun _ => rfl) ?_
  refine RunC.fin ?_
  refine AWP.sq ?_
  refine AWP.sq ?_
  refine AWP.rgC 20 rfl rfl ?_
  refine ldB (v := .agg _) rfl rfl rfl rfl ti34 rfl rfl ?_
  obtain ⟨r1, hr1, hR⟩ := bindE hR
  refine cls [] rfl rfl cb33 (ok33 b _ hr1) (.cons (.agg (.cons (.sc _) (.cons (.sc _) (.cons (.sc _) (.nil)))) rfl) (.nil)) (.inr rfl) rfl ?_
  refine pu (v := .sc _) rfl rfl (fun _ => rfl) ?_
  refine RunC.fin ?_
  refine AWP.block ?_
  refine AWP.sq ?_
  refine AWP.rgC 32 rfl rfl ?_
  refine pu (v := .sc _) rfl rfl (fun _ => rfl) ?_
  refine pu (v := .sc _) rfl rfl (fun _ => rfl) ?_
  refine pu (v := .sc _) rfl rfl (fun _ => rfl) ?_
  refine RunC.fin ?_
  refine AWP.cd hR rfl (fun h2 hR => ?_) fun h2 hR => ?_
  · refine AWP.sq ?_
    refine AWP.rgC 40 rfl rfl ?_
    refine pu (v := .sc _) rfl rfl (fun _ => rfl) ?_
    refine pu (v := .sc _) rfl rfl (fun _ => rfl) ?_
    refine RunC.fin ?_
    refine AWP.ret ?_
    refine rtB ?_
    refine rtT ?_
    have hR := Option.some.inj hR; subst hR
    exact hQ _ _ (LS.mk [(2, .sc (.int .i64 r1))] (lblks 0 []) 0) (.sc (.int .i64 r1)) [] (.inr rfl) (Weak.turnL [] [] rfl rfl (tc (.sc _) tn) mn) (ro1 (rvT (v := .sc (.int .i64 r1)) rfl)) rfl rfl (.sc _) pn
  · refine AWP.sq ?_
    refine AWP.rgC 44 rfl rfl ?_
    refine fa rfl rfl ti34 rfl rfl ti4 rfl ?_
    refine ldB (v := .sc _) rfl rfl rfl rfl ti4 rfl rfl ?_
    refine pu (v := .sc _) rfl rfl (fun _ => rfl) ?_
    refine RunC.fin ?_
    refine AWP.cd hR rfl (fun h3 hR => ?_) fun h3 hR => ?_
    · refine AWP.sq ?_
      refine AWP.rgC 48 rfl rfl ?_
      refine pu (v := .sc _) rfl rfl (fun _ => rfl) ?_
      refine RunC.fin ?_
      refine AWP.ret ?_
      refine rtB ?_
      refine rtT ?_
      have hR := Option.some.inj hR; subst hR
      exact hQ _ _ (LS.mk [(2, .sc (.int .i64 1))] (lblks 0 []) 0) (.sc (.int .i64 1)) [] (.inr rfl) (Weak.turnL [] [] rfl rfl (tc (.sc _) tn) mn) (ro1 (rvT (v := .sc (.int .i64 1)) rfl)) rfl rfl (.sc _) pn
    · refine AWP.joinX (fun z4 : Bool => LS.mk [(13, .sc (.bool z4))] (lblks 0 []) 0) hR (fun o4 hR => ?_) fun z4 hR => ?_
      · refine AWP.rgC 80 rfl rfl ?_
        refine fa rfl rfl ti34 rfl rfl ti32 rfl ?_
        refine ldB (v := .sc _) rfl rfl rfl rfl ti32 rfl rfl ?_
        refine pu (v := .sc _) rfl rfl (fun _ => rfl) ?_
        refine pu (v := .sc _) rfl rfl (fun _ => rfl) ?_
        refine brR hR (fun h5 hR => ?_) fun h5 hR => ?_
        · refine sk (skW rfl rfl rfl h5) ?_
          refine sk (skW rfl rfl rfl h5) ?_
          refine sk (skW rfl rfl rfl h5) ?_
          refine pkT (v := .sc (.bool true)) rfl rfl h5 rfl ?_
          refine pu (v := .sc _) rfl rfl (fun _ => rfl) ?_
          refine RunC.fin ?_
          have hR := Option.some.inj hR; subst hR
          exact Weak.turnL [] [] rfl rfl (tc (.sc _) tn) mn
        · refine fa (wtG rfl rfl rfl h5) rfl ti34 rfl rfl ti32 rfl ?_
          refine ldB (v := .sc _) (wtG rfl rfl rfl h5) rfl rfl rfl ti32 rfl rfl ?_
          refine pu (v := .sc _) (wtG rfl rfl rfl h5) rfl (fun _ => rfl) ?_
          refine pkF (v := .sc (.bool (decide (b.Hi > 1099511627776)))) rfl rfl h5 rfl ?_
          refine pu (v := .sc _) rfl rfl (fun _ => rfl) ?_
          refine RunC.fin ?_
          have hR := Option.some.inj hR; subst hR
          exact Weak.turnL [] [] rfl rfl (tc (.sc _) tn) mn
      · refine AWP.cd hR rfl (fun h6 hR => ?_) fun h6 hR => ?_
        · refine AWP.sq ?_
          refine AWP.rgC 4 rfl rfl ?_
          refine pu (v := .sc _) rfl rfl (fun _ => rfl) ?_
          refine RunC.fin ?_
          refine AWP.ret ?_
          refine rtB ?_
          refine rtT ?_
          have hR := Option.some.inj hR; subst hR
          exact hQ _ _ (LS.mk [(2, .sc (.int .i64 4))] (lblks 0 []) 0) (.sc (.int .i64 4)) [] (.inr rfl) (Weak.turnL [] [] rfl rfl (tc (.sc _) tn) mn) (ro1 (rvT (v := .sc (.int .i64 4)) rfl)) rfl rfl (.sc _) pn
        · refine AWP.skip ?_
          refine skB ?_
          refine skT ?_
          refine AWP.sq ?_
          refine AWP.rgC 4 rfl rfl ?_
          refine pu (v := .sc _) rfl rfl (fun _ => rfl) ?_
          refine RunC.fin ?_
          refine AWP.ret ?_
          have hR := Option.some.inj hR; subst hR
          exact hQ _ _ (LS.mk [(2, .sc (.int .i64 0))] (lblks 0 []) 0) (.sc (.int .i64 0)) [] (.inr rfl) (Weak.turnL [] [] rfl rfl (tc (.sc _) tn) mn) (ro1 (rvT (v := .sc (.int .i64 0)) rfl)) rfl rfl (.sc _) pn
theorem ok56 (vals : List Int) (r : Int) (hR : cmp_Or vals = some r) : FnP Try.prog 56 [rowV false vals] (.sc (.int .i64 r)) := by
  refine fnP_of (FnX.walk Try.func56 rfl 18 0 (by simp [Try.ntmps56]) rfl fun W S F Q hQ => ?_)
  unfold cmp_Or at hR
  refine AWP.sq ?_
  refine AWP.rgC 4 rfl rfl ?_
  refine pu (v := .sc _) rfl rfl (fun _ => rfl) ?_
  refine RunC.fin ?_
  refine AWP.sq ?_
  refine AWP.rgC 8 rfl rfl ?_
  refine pu (v := .sc _) rfl rfl (fun _ => rfl) ?_
  refine RunC.fin ?_
  refine AWP.sq ?_
  refine AWP.sq ?_
  refine AWP.rgC 20 rfl rfl ?_
  refine pu (v := rowV _ vals) rfl rfl (fun _ => rfl) ?_
  refine lenL (α := Int) rfl rfl ti140 rfl ?_
  refine pu (v := .sc _) rfl rfl (fun _ => rfl) ?_
  refine RunC.fin ?_
  refine AWP.loopK' (fun s1 : Int => LS.mk [(3, .sc (.int .i64 0)), (6, rowV (α := Int) false vals), (7, .sc (.int .i64 (vals.length : Int))), (8, .sc (.int .i64 s1))] (lblks 0 []) 0) (fun z2 : Unit => LS.mk [(3, .sc (.int .i64 0))] (lblks 0 []) 0) (cmp_Or.l1 vals) hR (s0 := 0) (Weak.turnL [] [] rfl rfl (tc (.sc _) (tc trR1 (tc (.sc _) (tc (.sc _) tn)))) mn) (fun s1 o1 hR hE1 => ?_) fun z2 hR => ?_
  · unfold cmp_Or.l1 at hR
    refine AWP.sq ?_
    refine AWP.rgC 4 rfl rfl ?_
    refine pu (v := .sc _) rfl rfl (fun _ => rfl) ?_
    refine RunC.fin ?_
    refine AWP.sq ?_
    refine AWP.cd hR rfl (fun h3 hR => ?_) fun h3 hR => ?_
    · refine AWP.skip ?_
      refine skT ?_
      refine AWP.sq ?_
      refine AWP.block ?_
      refine AWP.sq ?_
      refine AWP.rgC 16 rfl rfl ?_
      obtain ⟨h4, hR⟩ := chkE hR
      refine ixL (α := Int) rfl rfl rfl ti140 rfl ti49 rfl h4 ?_
      refine ldR (v := .sc _) rfl rfl ti49 rfl ?_
      refine pu (v := .sc _) rfl rfl (fun _ => rfl) ?_
      refine RunC.fin ?_
      refine AWP.sq ?_
      refine AWP.rgC 28 rfl rfl ?_
      refine pu (v := .sc _) rfl rfl (fun _ => rfl) ?_
      refine pu (v := .sc _) rfl rfl (fun _ => rfl) ?_
      refine pu (v := .sc _) rfl rfl (fun _ => rfl) ?_
      refine RunC.fin ?_
      refine AWP.cd hR rfl (fun h5 hR => ?_) fun h5 hR => ?_
      · refine AWP.sq ?_
        refine AWP.rgC 36 rfl rfl ?_
        refine pu (v := .sc _) rfl rfl (fun _ => rfl) ?_
        refine pu (v := .sc _) rfl rfl (fun _ => rfl) ?_
        refine RunC.fin ?_
        refine AWP.ret ?_
        refine rtB ?_
        refine rtT ?_
        refine rtT ?_
        refine rtB (rtT ?_)
        replace hR := escL hR hE1
        refine rtT ?_
        have hR := Option.some.inj hR; subst hR
        exact hQ _ _ (LS.mk [(2, .sc (.int .i64 (gt vals s1)))] (lblks 0 []) 0) (.sc (.int .i64 (gt vals s1))) [] (.inr rfl) (Weak.turnL [] [] rfl rfl (tc (.sc _) tn) mn) (ro1 (rvT (v := .sc (.int .i64 (gt vals s1))) rfl)) rfl rfl (.sc _) pn
      · refine AWP.skip ?_
        refine skB ?_
        refine skT ?_
        refine AWP.rgC 36 rfl rfl ?_
        refine pu (v := .sc _) rfl rfl (fun _ => rfl) ?_
        refine pu (v := .sc _) rfl rfl (fun _ => rfl) ?_
        refine RunC.fin ?_
        refine ⟨(w6 (s1 + 1)), (Option.some.inj hR).symm, ?_⟩
        exact Weak.turnL [] [] rfl rfl (tc (.sc _) (tc trR1 (tc (.sc _) (tc (.sc _) tn)))) mn
    · refine AWP.exit ?_
      refine exT ?_
      refine exT ?_
      refine exH (skT ?_)
      refine ⟨(), (Option.some.inj hR).symm, ?_⟩
      exact Weak.turnL [] [] rfl rfl (tc (.sc _) tn) mn
  · refine skT ?_
    refine AWP.sq ?_
    refine AWP.rgC 8 rfl rfl ?_
    refine pu (v := .sc _) rfl rfl (fun _ => rfl) ?_
    refine pu (v := .sc _) rfl rfl (fun _ => rfl) ?_
    refine RunC.fin ?_
    refine AWP.ret ?_
    have hR := Option.some.inj hR; subst hR
    exact hQ _ _ (LS.mk [(2, .sc (.int .i64 0))] (lblks 0 []) 0) (.sc (.int .i64 0)) [] (.inr rfl) (Weak.turnL [] [] rfl rfl (tc (.sc _) tn) mn) (ro1 (rvT (v := .sc (.int .i64 0)) rfl)) rfl rfl (.sc _) pn
theorem ok68 (x : Int) (r : Bool) (hR : cmp_isNaN x = some r) : FnP Try.prog 68 [.sc (.int .i64 x)] (.sc (.bool r)) := by
  refine fnP_of (FnX.walk Try.func68 rfl 6 0 (by simp [Try.ntmps68]) rfl fun W S F Q hQ => ?_)
  unfold cmp_isNaN at hR
  refine AWP.sq ?_
  refine AWP.rgC 4 rfl rfl ?_
  refine pu (v := .sc _) rfl rfl (fun _ => rfl) ?_
  refine RunC.fin ?_
  refine AWP.sq ?_
  refine AWP.rgC 20 rfl rfl ?_
  refine pu (v := .sc _) rfl rfl (fun _ => rfl) ?_
  refine pu (v := .sc _) rfl rfl (fun _ => rfl) ?_
  refine pu (v := .sc _) rfl rfl (fun _ => rfl) ?_
  refine pu (v := .sc _) rfl rfl (fun _ => rfl) ?_
  refine RunC.fin ?_
  refine AWP.ret ?_
  have hR := Option.some.inj hR; subst hR
  exact hQ _ _ (LS.mk [(2, .sc (.bool (x != x)))] (lblks 0 []) 0) (.sc (.bool (x != x))) [] (.inr rfl) (Weak.turnL [] [] rfl rfl (tc (.sc _) tn) mn) (ro1 (rvT (v := .sc (.bool (x != x))) rfl)) rfl rfl (.sc _) pn
theorem ok50 (x : Int) (y : Int) (r : Int) (hR : cmp_Compare x y = some r) : FnP Try.prog 50 [.sc (.int .i64 x), .sc (.int .i64 y)] (.sc (.int .i64 r)) := by
  refine fnP_of (FnX.walk Try.func50 rfl 20 0 (by simp [Try.ntmps50]) rfl fun W S F Q hQ => ?_)
  unfold cmp_Compare at hR
  refine AWP.sq ?_
  refine AWP.rgC 4 rfl rfl ?_
  refine pu (v := .sc _) rfl rfl (fun _ => rfl) ?_
  refine RunC.fin ?_
  refine AWP.sq ?_
  refine AWP.rgC 16 rfl rfl ?_
  refine pu (v := .sc _) rfl rfl (fun _ => rfl) ?_
  obtain ⟨r1, hr1, hR⟩ := bindE hR
  refine cls [] rfl rfl cb68 (ok68 x _ hr1) (.cons (.sc _) (.nil)) (.inr rfl) rfl ?_
  refine pu (v := .sc _) rfl rfl (fun _ => rfl) ?_
  refine RunC.fin ?_
  refine AWP.sq ?_
  refine AWP.rgC 28 rfl rfl ?_
  refine pu (v := .sc _) rfl rfl (fun _ => rfl) ?_
  obtain ⟨r2, hr2, hR⟩ := bindE hR
  refine cls [] rfl rfl cb68 (ok68 y _ hr2) (.cons (.sc _) (.nil)) (.inr rfl) rfl ?_
  refine pu (v := .sc _) rfl rfl (fun _ => rfl) ?_
  refine RunC.fin ?_
  refine AWP.sq ?_
  refine AWP.sq ?_
  refine AWP.rgC 32 rfl rfl ?_
  refine pu (v := .sc _) rfl rfl (fun _ => rfl) ?_
  refine RunC.fin ?_
  refine AWP.cd hR rfl (fun h3 hR => ?_) fun h3 hR => ?_
  · refine AWP.sq ?_
    refine AWP.sq ?_
    refine AWP.rgC 36 rfl rfl ?_
    refine pu (v := .sc _) rfl rfl (fun _ => rfl) ?_
    refine RunC.fin ?_
    refine AWP.cd hR rfl (fun h4 hR => ?_) fun h4 hR => ?_
    · refine AWP.sq ?_
      refine AWP.rgC 40 rfl rfl ?_
      refine pu (v := .sc _) rfl rfl (fun _ => rfl) ?_
      refine RunC.fin ?_
      refine AWP.ret ?_
      refine rtT ?_
      refine rtT ?_
      have hR := Option.some.inj hR; subst hR
      exact hQ _ _ (LS.mk [(4, .sc (.int .i64 0))] (lblks 0 []) 0) (.sc (.int .i64 0)) [] (.inr rfl) (Weak.turnL [] [] rfl rfl (tc (.sc _) tn) mn) (ro1 (rvT (v := .sc (.int .i64 0)) rfl)) rfl rfl (.sc _) pn
    · refine AWP.skip ?_
      refine skT ?_
      refine AWP.sq ?_
      refine AWP.rgC 40 rfl rfl ?_
      refine pu (v := .sc _) rfl rfl (fun _ => rfl) ?_
      refine RunC.fin ?_
      refine AWP.ret ?_
      refine rtT ?_
      have hR := Option.some.inj hR; subst hR
      exact hQ _ _ (LS.mk [(4, .sc (.int .i64 (-1)))] (lblks 0 []) 0) (.sc (.int .i64 (-1))) [] (.inr rfl) (Weak.turnL [] [] rfl rfl (tc (.sc _) tn) mn) (ro1 (rvT (v := .sc (.int .i64 (-1))) rfl)) rfl rfl (.sc _) pn
  · refine AWP.skip ?_
    refine skT ?_
    refine AWP.sq ?_
    refine AWP.sq ?_
    refine AWP.rgC 36 rfl rfl ?_
    refine pu (v := .sc _) rfl rfl (fun _ => rfl) ?_
    refine RunC.fin ?_
    refine AWP.cd hR rfl (fun h5 hR => ?_) fun h5 hR => ?_
    · refine AWP.sq ?_
      refine AWP.rgC 40 rfl rfl ?_
      refine pu (v := .sc _) rfl rfl (fun _ => rfl) ?_
      refine RunC.fin ?_
      refine AWP.ret ?_
      refine rtT ?_
      have hR := Option.some.inj hR; subst hR
      exact hQ _ _ (LS.mk [(4, .sc (.int .i64 1))] (lblks 0 []) 0) (.sc (.int .i64 1)) [] (.inr rfl) (Weak.turnL [] [] rfl rfl (tc (.sc _) tn) mn) (ro1 (rvT (v := .sc (.int .i64 1)) rfl)) rfl rfl (.sc _) pn
    · refine AWP.skip ?_
      refine skT ?_
      refine AWP.sq ?_
      refine AWP.sq ?_
      refine AWP.rgC 48 rfl rfl ?_
      refine pu (v := .sc _) rfl rfl (fun _ => rfl) ?_
      refine pu (v := .sc _) rfl rfl (fun _ => rfl) ?_
      refine pu (v := .sc _) rfl rfl (fun _ => rfl) ?_
      refine RunC.fin ?_
      refine AWP.cd hR rfl (fun h6 hR => ?_) fun h6 hR => ?_
      · refine AWP.sq ?_
        refine AWP.rgC 52 rfl rfl ?_
        refine pu (v := .sc _) rfl rfl (fun _ => rfl) ?_
        refine RunC.fin ?_
        refine AWP.ret ?_
        refine rtT ?_
        have hR := Option.some.inj hR; subst hR
        exact hQ _ _ (LS.mk [(4, .sc (.int .i64 (-1)))] (lblks 0 []) 0) (.sc (.int .i64 (-1))) [] (.inr rfl) (Weak.turnL [] [] rfl rfl (tc (.sc _) tn) mn) (ro1 (rvT (v := .sc (.int .i64 (-1))) rfl)) rfl rfl (.sc _) pn
      · refine AWP.skip ?_
        refine skT ?_
        refine AWP.sq ?_
        refine AWP.sq ?_
        refine AWP.rgC 60 rfl rfl ?_
        refine pu (v := .sc _) rfl rfl (fun _ => rfl) ?_
        refine pu (v := .sc _) rfl rfl (fun _ => rfl) ?_
        refine pu (v := .sc _) rfl rfl (fun _ => rfl) ?_
        refine RunC.fin ?_
        refine AWP.cd hR rfl (fun h7 hR => ?_) fun h7 hR => ?_
        · refine AWP.sq ?_
          refine AWP.rgC 64 rfl rfl ?_
          refine pu (v := .sc _) rfl rfl (fun _ => rfl) ?_
          refine RunC.fin ?_
          refine AWP.ret ?_
          refine rtT ?_
          have hR := Option.some.inj hR; subst hR
          exact hQ _ _ (LS.mk [(4, .sc (.int .i64 1))] (lblks 0 []) 0) (.sc (.int .i64 1)) [] (.inr rfl) (Weak.turnL [] [] rfl rfl (tc (.sc _) tn) mn) (ro1 (rvT (v := .sc (.int .i64 1)) rfl)) rfl rfl (.sc _) pn
        · refine AWP.skip ?_
          refine skT ?_
          refine AWP.sq ?_
          refine AWP.rgC 64 rfl rfl ?_
          refine pu (v := .sc _) rfl rfl (fun _ => rfl) ?_
          refine RunC.fin ?_
          refine AWP.ret ?_
          have hR := Option.some.inj hR; subst hR
          exact hQ _ _ (LS.mk [(4, .sc (.int .i64 0))] (lblks 0 []) 0) (.sc (.int .i64 0)) [] (.inr rfl) (Weak.turnL [] [] rfl rfl (tc (.sc _) tn) mn) (ro1 (rvT (v := .sc (.int .i64 0)) rfl)) rfl rfl (.sc _) pn
theorem ok59 (i : Int) (j : Int) (p2 : Cells) (r : Int) (hR : find_Sure_1 i j p2 = some r) : FnP Try.prog 59 [.sc (.int .i64 i), .sc (.int .i64 j), .rp (Cl.c false p2)] (.sc (.int .i64 r)) := by
  refine fnP_of (FnX.walk Try.func59 rfl 19 0 (by simp [Try.ntmps59]) rfl fun W S F Q hQ => ?_)
  unfold find_Sure_1 at hR
  refine AWP.sq ?_
  refine AWP.rgC 4 rfl rfl ?_
  refine pu (v := .sc _) rfl rfl (fun _ => rfl) ?_
  refine RunC.fin ?_
  refine AWP.sq ?_
  refine AWP.rgD 60 [0, 1, 0, 7, 15, 31, 0, 64, 0, 448, 960, 1984, 4095, 8191] ⟨[], [none, some [], none, none, none, some [], none, some [], none, none, none, some [], none, none]⟩ hmix (by kernel_rfl) rfl rfl ?_
  refine fr rfl rfl ti77 rfl rfl ti75 rfl ?_
  refine ldR (v := rowV _ p2.At) rfl rfl ti75 rfl ?_
  refine pu (v := .sc _) rfl rfl (fun _ => rfl) ?_
  obtain ⟨h1, hR⟩ := chkE hR
  refine ixL (α := Bound) rfl rfl rfl ti75 rfl ti34 rfl h1 ?_
  refine fr rfl rfl ti34 rfl rfl ti32 rfl ?_
  refine ldR (v := .sc _) rfl rfl ti32 rfl ?_
  refine fr rfl rfl ti77 rfl rfl ti75 rfl ?_
  refine ldR (v := rowV _ p2.At) rfl rfl ti75 rfl ?_
  refine pu (v := .sc _) rfl rfl (fun _ => rfl) ?_
  obtain ⟨h2, hR⟩ := chkE hR
  refine ixL (α := Bound) rfl rfl rfl ti75 rfl ti34 rfl h2 ?_
  refine fr rfl rfl ti34 rfl rfl ti32 rfl ?_
  refine ldR (v := .sc _) rfl rfl ti32 rfl ?_
  obtain ⟨r3, hr3, hR⟩ := bindE hR
  refine cls [] rfl rfl cb50 (ok50 (gt p2.At j).Lo (gt p2.At i).Lo _ hr3) (.cons (.sc _) (.cons (.sc _) (.nil))) (.inr rfl) rfl ?_
  refine pu (v := .sc _) rfl rfl (fun _ => rfl) ?_
  refine RunC.fin ?_
  refine AWP.ret ?_
  have hR := Option.some.inj hR; subst hR
  exact hQ _ _ (LS.mk [(5, .sc (.int .i64 r3))] (lblks 0 []) 0) (.sc (.int .i64 r3)) [] (.inr rfl) (Weak.turnL [] [] rfl rfl (tc (.sc _) tn) mn) (ro1 (rvT (v := .sc (.int .i64 r3)) rfl)) rfl rfl (.sc _) pn
end Go.Proofs.Crs
