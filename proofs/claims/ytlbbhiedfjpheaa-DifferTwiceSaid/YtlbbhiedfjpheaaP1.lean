/- Each function of the program computes its plain function. Conditions: as each theorem states them. -/
import Derived.Test.YtlbbhiedfjpheaaT
import Derived.Test.YtlbbhiedfjpheaaP0
namespace Go.Proofs.Dtw
open Go Go.Abs Lf
set_option linter.unusedVariables false
set_option linter.unusedSimpArgs false
set_option maxRecDepth 100000
set_option maxHeartbeats 1000000
theorem ok22 (c : Cells) (r : Int) (hR : find_Check c = some r) : FnP Try.prog 22 [aggV false c] (.sc (.int .i64 r)) := by
  refine fnP_of (FnX.walk Try.func22 rfl 56 0 (by simp [Try.ntmps22]) rfl fun W S F Q hQ => ?_)
  unfold find_Check at hR
  refine AWP.sq ?_
  refine AWP.rgC 8 rfl rfl ?_
  refine bx (cs := _) 0 rfl rfl rfl ?_
  refine pu (v := .sc _) rfl rfl (fun _ => rfl) ?_
  refine RunC.fin ?_
  refine AWP.sq ?_
  refine AWP.joinX (fun z1 : Bool => LS.mk [(1, .ptr 0 0 0), (34, .sc (.bool z1))] (lblks 0 [boxB (α := Cells) false c]) 1) hR (fun o1 hR => ?_) fun z1 hR => ?_
  · refine AWP.rgC 124 rfl rfl ?_
    refine fa rfl rfl ti33 rfl rfl ti3 rfl ?_
    refine ldB (v := .sc _) rfl rfl rfl rfl ti3 rfl rfl ?_
    refine pu (v := .sc _) rfl rfl (fun _ => rfl) ?_
    refine pu (v := .sc _) rfl rfl (fun _ => rfl) ?_
    refine brR hR (fun h2 hR => ?_) fun h2 hR => ?_
    · refine sk (skW rfl rfl rfl h2) ?_
      refine sk (skW rfl rfl rfl h2) ?_
      refine sk (skW rfl rfl rfl h2) ?_
      refine pkT (v := .sc (.bool true)) rfl rfl h2 rfl ?_
      refine pu (v := .sc _) rfl rfl (fun _ => rfl) ?_
      refine sk (skW rfl rfl rfl rfl) ?_
      refine sk (skW rfl rfl rfl rfl) ?_
      refine sk (skW rfl rfl rfl rfl) ?_
      refine pkT (v := .sc (.bool true)) rfl rfl rfl rfl ?_
      refine pu (v := .sc _) rfl rfl (fun _ => rfl) ?_
      refine sk (skW rfl rfl rfl rfl) ?_
      refine sk (skW rfl rfl rfl rfl) ?_
      refine sk (skW rfl rfl rfl rfl) ?_
      refine pkT (v := .sc (.bool true)) rfl rfl rfl rfl ?_
      refine pu (v := .sc _) rfl rfl (fun _ => rfl) ?_
      refine sk (skW rfl rfl rfl rfl) ?_
      refine sk (skW rfl rfl rfl rfl) ?_
      refine sk (skW rfl rfl rfl rfl) ?_
      refine sk (skW rfl rfl rfl rfl) ?_
      refine sk (skW rfl rfl rfl rfl) ?_
      refine sk (skW rfl rfl rfl rfl) ?_
      refine sk (skW rfl rfl rfl rfl) ?_
      refine sk (skW rfl rfl rfl rfl) ?_
      refine sk (skW rfl rfl rfl rfl) ?_
      refine pkT (v := .sc (.bool true)) rfl rfl rfl rfl ?_
      refine RunC.fin ?_
      have hR := Option.some.inj hR; subst hR
      exact Weak.turnL [(0, 0)] [] rfl rfl (tc (trP' rfl rfl rfl rfl) (tc (.sc _) tn)) (mc rfl (.box rfl (.cons (.sc _) (.cons (.sc _) (.cons trR1 (.nil)))) rfl) mn)
    · refine fa (wtG rfl rfl rfl h2) rfl ti33 rfl rfl ti3 rfl ?_
      refine ldB (v := .sc _) (wtG rfl rfl rfl h2) rfl rfl rfl ti3 rfl rfl ?_
      refine pu (v := .sc _) (wtG rfl rfl rfl h2) rfl (fun _ => rfl) ?_
      refine pkF (v := .sc (.bool (decide (c.W > 32)))) rfl rfl h2 rfl ?_
      refine pu (v := .sc _) rfl rfl (fun _ => rfl) ?_
      refine brR hR (fun h3 hR => ?_) fun h3 hR => ?_
      · refine sk (skW rfl rfl rfl h3) ?_
        refine sk (skW rfl rfl rfl h3) ?_
        refine sk (skW rfl rfl rfl h3) ?_
        refine pkT (v := .sc (.bool true)) rfl rfl h3 rfl ?_
        refine pu (v := .sc _) rfl rfl (fun _ => rfl) ?_
        refine sk (skW rfl rfl rfl rfl) ?_
        refine sk (skW rfl rfl rfl rfl) ?_
        refine sk (skW rfl rfl rfl rfl) ?_
        refine pkT (v := .sc (.bool true)) rfl rfl rfl rfl ?_
        refine pu (v := .sc _) rfl rfl (fun _ => rfl) ?_
        refine sk (skW rfl rfl rfl rfl) ?_
        refine sk (skW rfl rfl rfl rfl) ?_
        refine sk (skW rfl rfl rfl rfl) ?_
        refine sk (skW rfl rfl rfl rfl) ?_
        refine sk (skW rfl rfl rfl rfl) ?_
        refine sk (skW rfl rfl rfl rfl) ?_
        refine sk (skW rfl rfl rfl rfl) ?_
        refine sk (skW rfl rfl rfl rfl) ?_
        refine sk (skW rfl rfl rfl rfl) ?_
        refine pkT (v := .sc (.bool true)) rfl rfl rfl rfl ?_
        refine RunC.fin ?_
        have hR := Option.some.inj hR; subst hR
        exact Weak.turnL [(0, 0)] [] rfl rfl (tc (trP' rfl rfl rfl rfl) (tc (.sc _) tn)) (mc rfl (.box rfl (.cons (.sc _) (.cons (.sc _) (.cons trR1 (.nil)))) rfl) mn)
      · refine fa (wtG rfl rfl rfl h3) rfl ti33 rfl rfl ti3 rfl ?_
        refine ldB (v := .sc _) (wtG rfl rfl rfl h3) rfl rfl rfl ti3 rfl rfl ?_
        refine pu (v := .sc _) (wtG rfl rfl rfl h3) rfl (fun _ => rfl) ?_
        refine pkF (v := .sc (.bool (decide (c.H < 1)))) rfl rfl h3 rfl ?_
        refine pu (v := .sc _) rfl rfl (fun _ => rfl) ?_
        refine brR hR (fun h4 hR => ?_) fun h4 hR => ?_
        · refine sk (skW rfl rfl rfl h4) ?_
          refine sk (skW rfl rfl rfl h4) ?_
          refine sk (skW rfl rfl rfl h4) ?_
          refine pkT (v := .sc (.bool true)) rfl rfl h4 rfl ?_
          refine pu (v := .sc _) rfl rfl (fun _ => rfl) ?_
          refine sk (skW rfl rfl rfl rfl) ?_
          refine sk (skW rfl rfl rfl rfl) ?_
          refine sk (skW rfl rfl rfl rfl) ?_
          refine sk (skW rfl rfl rfl rfl) ?_
          refine sk (skW rfl rfl rfl rfl) ?_
          refine sk (skW rfl rfl rfl rfl) ?_
          refine sk (skW rfl rfl rfl rfl) ?_
          refine sk (skW rfl rfl rfl rfl) ?_
          refine sk (skW rfl rfl rfl rfl) ?_
          refine pkT (v := .sc (.bool true)) rfl rfl rfl rfl ?_
          refine RunC.fin ?_
          have hR := Option.some.inj hR; subst hR
          exact Weak.turnL [(0, 0)] [] rfl rfl (tc (trP' rfl rfl rfl rfl) (tc (.sc _) tn)) (mc rfl (.box rfl (.cons (.sc _) (.cons (.sc _) (.cons trR1 (.nil)))) rfl) mn)
        · refine fa (wtG rfl rfl rfl h4) rfl ti33 rfl rfl ti3 rfl ?_
          refine ldB (v := .sc _) (wtG rfl rfl rfl h4) rfl rfl rfl ti3 rfl rfl ?_
          refine pu (v := .sc _) (wtG rfl rfl rfl h4) rfl (fun _ => rfl) ?_
          refine pkF (v := .sc (.bool (decide (c.H > 32)))) rfl rfl h4 rfl ?_
          refine pu (v := .sc _) rfl rfl (fun _ => rfl) ?_
          refine brR hR (fun h5 hR => ?_) fun h5 hR => ?_
          · refine sk (skW rfl rfl rfl h5) ?_
            refine sk (skW rfl rfl rfl h5) ?_
            refine sk (skW rfl rfl rfl h5) ?_
            refine sk (skW rfl rfl rfl h5) ?_
            refine sk (skW rfl rfl rfl h5) ?_
            refine sk (skW rfl rfl rfl h5) ?_
            refine sk (skW rfl rfl rfl h5) ?_
            refine sk (skW rfl rfl rfl h5) ?_
            refine sk (skW rfl rfl rfl h5) ?_
            refine pkT (v := .sc (.bool true)) rfl rfl h5 rfl ?_
            refine RunC.fin ?_
            have hR := Option.some.inj hR; subst hR
            exact Weak.turnL [(0, 0)] [] rfl rfl (tc (trP' rfl rfl rfl rfl) (tc (.sc _) tn)) (mc rfl (.box rfl (.cons (.sc _) (.cons (.sc _) (.cons trR1 (.nil)))) rfl) mn)
          · refine fa (wtG rfl rfl rfl h5) rfl ti33 rfl rfl ti31 rfl ?_
            refine ldB (v := rowV _ c.At) (wtG rfl rfl rfl h5) rfl rfl rfl ti31 rfl rfl ?_
            refine lenL (α := Bound) (wtG rfl rfl rfl h5) rfl ti31 rfl ?_
            refine fa (wtG rfl rfl rfl h5) rfl ti33 rfl rfl ti3 rfl ?_
            refine ldB (v := .sc _) (wtG rfl rfl rfl h5) rfl rfl rfl ti3 rfl rfl ?_
            refine fa (wtG rfl rfl rfl h5) rfl ti33 rfl rfl ti3 rfl ?_
            refine ldB (v := .sc _) (wtG rfl rfl rfl h5) rfl rfl rfl ti3 rfl rfl ?_
            refine pu (v := .sc _) (wtG rfl rfl rfl h5) rfl (fun _ => rfl) ?_
            refine pu (v := .sc _) (wtG rfl rfl rfl h5) rfl (fun _ => rfl) ?_
            refine pkF (v := .sc (.bool ((c.At.length : Int) != (w6 (c.W * c.H))))) rfl rfl h5 rfl ?_
            refine RunC.fin ?_
            have hR := Option.some.inj hR; subst hR
            exact Weak.turnL [(0, 0)] [] rfl rfl (tc (trP' rfl rfl rfl rfl) (tc (.sc _) tn)) (mc rfl (.box rfl (.cons (.sc _) (.cons (.sc _) (.cons trR1 (.nil)))) rfl) mn)
  · refine AWP.cd hR rfl (fun h6 hR => ?_) fun h6 hR => ?_
    · refine AWP.sq ?_
      refine AWP.rgC 5 rfl rfl ?_
      refine pu (v := .sc _) rfl rfl (fun _ => rfl) ?_
      refine RunC.fin ?_
      refine AWP.ret ?_
      refine rtT ?_
      have hR := Option.some.inj hR; subst hR
      exact hQ _ _ (LS.mk [(2, .sc (.int .i64 3))] (lblks 0 []) 0) (.sc (.int .i64 3)) [] (.inr rfl) (Weak.turnL [] [] rfl rfl (tc (.sc _) tn) mn) (ro1 (rvT (v := .sc (.int .i64 3)) rfl)) rfl rfl (.sc _) pn
    · refine AWP.skip ?_
      refine skT ?_
      refine AWP.sq ?_
      refine AWP.sq ?_
      refine AWP.rgC 17 rfl rfl ?_
      refine fa rfl rfl ti33 rfl rfl ti31 rfl ?_
      refine ldB (v := rowV _ c.At) rfl rfl rfl rfl ti31 rfl rfl ?_
      refine lenL (α := Bound) rfl rfl ti31 rfl ?_
      refine pu (v := .sc _) rfl rfl (fun _ => rfl) ?_
      refine RunC.fin ?_
      refine AWP.loopK' (fun s7 : Int => LS.mk [(36, rowV (α := Bound) false c.At), (37, .sc (.int .i64 (c.At.length : Int))), (38, .sc (.int .i64 s7))] (lblks 0 []) 0) (fun z8 : Unit => LS.mk [] (lblks 0 []) 0) (find_Check.l1 c) hR (s0 := 0) (Weak.turnL [] [] rfl rfl (tc trR1 (tc (.sc _) (tc (.sc _) tn))) mn) (fun s7 o7 hR hE7 => ?_) fun z8 hR => ?_
      · unfold find_Check.l1 at hR
        refine AWP.sq ?_
        refine AWP.rgC 4 rfl rfl ?_
        refine pu (v := .sc _) rfl rfl (fun _ => rfl) ?_
        refine RunC.fin ?_
        refine AWP.sq ?_
        refine AWP.cd hR rfl (fun h9 hR => ?_) fun h9 hR => ?_
        · refine AWP.skip ?_
          refine skT ?_
          refine AWP.sq ?_
          refine AWP.block ?_
          refine AWP.sq ?_
          refine AWP.rgC 20 rfl rfl ?_
          obtain ⟨h10, hR⟩ := chkE hR
          refine ixL (α := Bound) rfl rfl rfl ti31 rfl ti49 rfl h10 ?_
          refine ldR (v := .agg _) rfl rfl ti49 rfl ?_
          refine al (cs := [.sc (.int .i64 0), .sc (.int .i64 0), .sc (.bool false)]) 12 rfl rfl ti49 rfl rfl ?_
          refine stB (cs' := [.sc (.int .i64 (gt c.At s7).Lo), .sc (.int .i64 (gt c.At s7).Hi), .sc (.bool (gt c.At s7).Unknown)]) rfl rfl rfl rfl ti49 rfl rfl rfl rfl rfl ?_
          refine RunC.fin ?_
          refine AWP.sq ?_
          refine AWP.sq ?_
          refine AWP.rgC 32 rfl rfl ?_
          refine ldB (v := .agg _) rfl rfl rfl rfl ti49 rfl rfl ?_
          obtain ⟨r11, hr11, hR⟩ := bindE hR
          refine cls [] rfl rfl cb29 (ok29 (gt c.At s7) _ hr11) (.cons (.agg (.cons (.sc _) (.cons (.sc _) (.cons (.sc _) (.nil)))) rfl) (.nil)) (.inr rfl) rfl ?_
          refine pu (v := .sc _) rfl rfl (fun _ => rfl) ?_
          refine RunC.fin ?_
          refine AWP.sq ?_
          refine AWP.rgC 40 rfl rfl ?_
          refine pu (v := .sc _) rfl rfl (fun _ => rfl) ?_
          refine pu (v := .sc _) rfl rfl (fun _ => rfl) ?_
          refine RunC.fin ?_
          refine AWP.cd hR rfl (fun h12 hR => ?_) fun h12 hR => ?_
          · refine AWP.sq ?_
            refine AWP.rgC 48 rfl rfl ?_
            refine pu (v := .sc _) rfl rfl (fun _ => rfl) ?_
            refine pu (v := .sc _) rfl rfl (fun _ => rfl) ?_
            refine RunC.fin ?_
            refine AWP.ret ?_
            refine rtT ?_
            refine rtB ?_
            refine rtT ?_
            refine rtT ?_
            refine rtB (rtT ?_)
            replace hR := escL hR hE7
            refine rtT ?_
            have hR := Option.some.inj hR; subst hR
            exact hQ _ _ (LS.mk [(2, .sc (.int .i64 r11))] (lblks 0 []) 0) (.sc (.int .i64 r11)) [] (.inr rfl) (Weak.turnL [] [] rfl rfl (tc (.sc _) tn) mn) (ro1 (rvT (v := .sc (.int .i64 r11)) rfl)) rfl rfl (.sc _) pn
          · refine AWP.skip ?_
            refine skT ?_
            refine AWP.joinX (fun z13 : Bool => LS.mk [(36, rowV (α := Bound) false c.At), (37, .sc (.int .i64 (c.At.length : Int))), (38, .sc (.int .i64 s7)), (54, .sc (.bool z13))] (lblks 0 []) 0) hR (fun o13 hR => ?_) fun z13 hR => ?_
            · refine AWP.rgC 72 rfl rfl ?_
              refine fa rfl rfl ti49 rfl rfl ti28 rfl ?_
              refine ldB (v := .sc _) rfl rfl rfl rfl ti28 rfl rfl ?_
              refine pu (v := .sc _) rfl rfl (fun _ => rfl) ?_
              refine pu (v := .sc _) rfl rfl (fun _ => rfl) ?_
              refine brR hR (fun h14 hR => ?_) fun h14 hR => ?_
              · refine sk (skW rfl rfl rfl h14) ?_
                refine sk (skW rfl rfl rfl h14) ?_
                refine sk (skW rfl rfl rfl h14) ?_
                refine pkT (v := .sc (.bool true)) rfl rfl h14 rfl ?_
                refine RunC.fin ?_
                have hR := Option.some.inj hR; subst hR
                exact Weak.turnL [] [] rfl rfl (tc trR1 (tc (.sc _) (tc (.sc _) (tc (.sc _) tn)))) mn
              · refine fa (wtG rfl rfl rfl h14) rfl ti49 rfl rfl ti28 rfl ?_
                refine ldB (v := .sc _) (wtG rfl rfl rfl h14) rfl rfl rfl ti28 rfl rfl ?_
                refine pu (v := .sc _) (wtG rfl rfl rfl h14) rfl (fun _ => rfl) ?_
                refine pkF (v := .sc (.bool (decide ((gt c.At s7).Hi > 1099511627776)))) rfl rfl h14 rfl ?_
                refine RunC.fin ?_
                have hR := Option.some.inj hR; subst hR
                exact Weak.turnL [] [] rfl rfl (tc trR1 (tc (.sc _) (tc (.sc _) (tc (.sc _) tn)))) mn
            · refine AWP.cd hR rfl (fun h15 hR => ?_) fun h15 hR => ?_
              · refine AWP.sq ?_
                refine AWP.rgC 4 rfl rfl ?_
                refine pu (v := .sc _) rfl rfl (fun _ => rfl) ?_
                refine RunC.fin ?_
                refine AWP.ret ?_
                refine rtB ?_
                refine rtT ?_
                refine rtT ?_
                refine rtB (rtT ?_)
                replace hR := escL hR hE7
                refine rtT ?_
                have hR := Option.some.inj hR; subst hR
                exact hQ _ _ (LS.mk [(2, .sc (.int .i64 4))] (lblks 0 []) 0) (.sc (.int .i64 4)) [] (.inr rfl) (Weak.turnL [] [] rfl rfl (tc (.sc _) tn) mn) (ro1 (rvT (v := .sc (.int .i64 4)) rfl)) rfl rfl (.sc _) pn
              · refine AWP.skip ?_
                refine skB ?_
                refine skT ?_
                refine AWP.rgC 8 rfl rfl ?_
                refine pu (v := .sc _) rfl rfl (fun _ => rfl) ?_
                refine pu (v := .sc _) rfl rfl (fun _ => rfl) ?_
                refine RunC.fin ?_
                refine ⟨(w6 (s7 + 1)), (Option.some.inj hR).symm, ?_⟩
                exact Weak.turnL [] [] rfl rfl (tc trR1 (tc (.sc _) (tc (.sc _) tn))) mn
        · refine AWP.exit ?_
          refine exT ?_
          refine exT ?_
          refine exH (skT ?_)
          refine ⟨(), (Option.some.inj hR).symm, ?_⟩
          exact Weak.turnL [] [] rfl rfl tn mn
      · refine skT ?_
        refine AWP.sq ?_
        refine AWP.rgC 4 rfl rfl ?_
        refine pu (v := .sc _) rfl rfl (fun _ => rfl) ?_
        refine RunC.fin ?_
        refine AWP.ret ?_
        have hR := Option.some.inj hR; subst hR
        exact hQ _ _ (LS.mk [(2, .sc (.int .i64 0))] (lblks 0 []) 0) (.sc (.int .i64 0)) [] (.inr rfl) (Weak.turnL [] [] rfl rfl (tc (.sc _) tn) mn) (ro1 (rvT (v := .sc (.int .i64 0)) rfl)) rfl rfl (.sc _) pn
theorem ok21 (w : Int) (r : Bool) (hR : differ_Quotient_2 w = some r) : FnP Try.prog 21 [.sc (.int .i64 w)] (.sc (.bool r)) := by
  refine fnP_of (FnX.walk Try.func21 rfl 5 0 (by simp [Try.ntmps21]) rfl fun W S F Q hQ => ?_)
  unfold differ_Quotient_2 at hR
  refine AWP.sq ?_
  refine AWP.rgC 4 rfl rfl ?_
  refine pu (v := .sc _) rfl rfl (fun _ => rfl) ?_
  refine RunC.fin ?_
  refine AWP.sq ?_
  refine AWP.rgC 16 rfl rfl ?_
  refine pu (v := .sc _) rfl rfl (fun _ => rfl) ?_
  refine pu (v := .sc _) rfl rfl (fun _ => rfl) ?_
  refine pu (v := .sc _) rfl rfl (fun _ => rfl) ?_
  refine RunC.fin ?_
  refine AWP.ret ?_
  have hR := Option.some.inj hR; subst hR
  exact hQ _ _ (LS.mk [(2, .sc (.bool (w != 0)))] (lblks 0 []) 0) (.sc (.bool (w != 0))) [] (.inr rfl) (Weak.turnL [] [] rfl rfl (tc (.sc _) tn) mn) (ro1 (rvT (v := .sc (.bool (w != 0))) rfl)) rfl rfl (.sc _) pn
theorem ok27 (s : List Int) (r : Int) (hR : slices_IndexFunc_Int_differ_first_1 s = some r) : FnP Try.prog 27 [rowV false s, .fn (.func 28) []] (.sc (.int .i64 r)) := by
  refine fnP_of (FnX.walk Try.func27 rfl 19 0 (by simp [Try.ntmps27]) rfl fun W S F Q hQ => ?_)
  unfold slices_IndexFunc_Int_differ_first_1 at hR
  refine AWP.sq ?_
  refine AWP.rgC 4 rfl rfl ?_
  refine pu (v := .sc _) rfl rfl (fun _ => rfl) ?_
  refine RunC.fin ?_
  refine AWP.sq ?_
  refine AWP.sq ?_
  refine AWP.rgC 16 rfl rfl ?_
  refine pu (v := rowV _ s) rfl rfl (fun _ => rfl) ?_
  refine lenL (α := Int) rfl rfl ti22 rfl ?_
  refine pu (v := .sc _) rfl rfl (fun _ => rfl) ?_
  refine RunC.fin ?_
  refine AWP.loopK' (fun s1 : Int => LS.mk [(0, rowV (α := Int) false s), (1, .fn (.func 28) []), (7, .sc (.int .i64 (s.length : Int))), (8, .sc (.int .i64 s1))] (lblks 0 []) 0) (fun z2 : Unit => LS.mk [] (lblks 0 []) 0) (slices_IndexFunc_Int_differ_first_1.l1 s) hR (s0 := 0) (Weak.turnL [] [] rfl rfl (tc trR1 (tc (.fn (.nil)) (tc (.sc _) (tc (.sc _) tn)))) mn) (fun s1 o1 hR hE1 => ?_) fun z2 hR => ?_
  · unfold slices_IndexFunc_Int_differ_first_1.l1 at hR
    refine AWP.sq ?_
    refine AWP.rgC 4 rfl rfl ?_
    refine pu (v := .sc _) rfl rfl (fun _ => rfl) ?_
    refine RunC.fin ?_
    refine AWP.sq ?_
    refine AWP.cd hR rfl (fun h3 hR => ?_) fun h3 hR => ?_
    · refine AWP.skip ?_
      refine skT ?_
      refine AWP.sq ?_
      refine AWP.block ?_
      refine AWP.sq ?_
      refine AWP.rgC 12 rfl rfl ?_
      refine pu (v := .sc _) rfl rfl (fun _ => rfl) ?_
      refine pu (v := .sc _) rfl rfl (fun _ => rfl) ?_
      refine RunC.fin ?_
      refine AWP.sq ?_
      refine AWP.rgC 36 rfl rfl ?_
      refine pu (v := .fn _ _) rfl rfl (fun _ => rfl) ?_
      refine pu (v := rowV _ s) rfl rfl (fun _ => rfl) ?_
      refine pu (v := .sc _) rfl rfl (fun _ => rfl) ?_
      obtain ⟨h4, hR⟩ := chkE hR
      refine ixL (α := Int) rfl rfl rfl ti22 rfl ti3 rfl h4 ?_
      refine ldR (v := .sc _) rfl rfl ti3 rfl ?_
      obtain ⟨r5, hr5, hR⟩ := bindE hR
      refine cls [] rfl rfl cb28 (ok28 (gt s s1) _ hr5) (.cons (.sc _) (.nil)) (.inr rfl) rfl ?_
      refine RunC.fin ?_
      refine AWP.cd hR rfl (fun h6 hR => ?_) fun h6 hR => ?_
      · refine AWP.sq ?_
        refine AWP.rgC 44 rfl rfl ?_
        refine pu (v := .sc _) rfl rfl (fun _ => rfl) ?_
        refine pu (v := .sc _) rfl rfl (fun _ => rfl) ?_
        refine RunC.fin ?_
        refine AWP.ret ?_
        refine rtB ?_
        refine rtT ?_
        refine rtT ?_
        refine rtB (rtT ?_)
        replace hR := escL hR hE1
        refine rtT ?_
        have hR := Option.some.inj hR; subst hR
        exact hQ _ _ (LS.mk [(4, .sc (.int .i64 s1))] (lblks 0 []) 0) (.sc (.int .i64 s1)) [] (.inr rfl) (Weak.turnL [] [] rfl rfl (tc (.sc _) tn) mn) (ro1 (rvT (v := .sc (.int .i64 s1)) rfl)) rfl rfl (.sc _) pn
      · refine AWP.skip ?_
        refine skB ?_
        refine skT ?_
        refine AWP.rgC 44 rfl rfl ?_
        refine pu (v := .sc _) rfl rfl (fun _ => rfl) ?_
        refine pu (v := .sc _) rfl rfl (fun _ => rfl) ?_
        refine RunC.fin ?_
        refine ⟨(w6 (s1 + 1)), (Option.some.inj hR).symm, ?_⟩
        exact Weak.turnL [] [] rfl rfl (tc trR1 (tc (.fn (.nil)) (tc (.sc _) (tc (.sc _) tn)))) mn
    · refine AWP.exit ?_
      refine exT ?_
      refine exT ?_
      refine exH (skT ?_)
      refine ⟨(), (Option.some.inj hR).symm, ?_⟩
      exact Weak.turnL [] [] rfl rfl tn mn
  · refine skT ?_
    refine AWP.sq ?_
    refine AWP.rgC 4 rfl rfl ?_
    refine pu (v := .sc _) rfl rfl (fun _ => rfl) ?_
    refine RunC.fin ?_
    refine AWP.ret ?_
    have hR := Option.some.inj hR; subst hR
    exact hQ _ _ (LS.mk [(4, .sc (.int .i64 (-1)))] (lblks 0 []) 0) (.sc (.int .i64 (-1))) [] (.inr rfl) (Weak.turnL [] [] rfl rfl (tc (.sc _) tn) mn) (ro1 (rvT (v := .sc (.int .i64 (-1))) rfl)) rfl rfl (.sc _) pn
theorem ok18 (k : differ_Kernel) (r : Int) (hR : differ_first k = some r) : FnP Try.prog 18 [aggV false k] (.sc (.int .i64 r)) := by
  refine fnP_of (FnX.walk Try.func18 rfl 6 0 (by simp [Try.ntmps18]) rfl fun W S F Q hQ => ?_)
  unfold differ_first at hR
  refine AWP.sq ?_
  refine AWP.rgC 8 rfl rfl ?_
  refine bx (cs := _) 0 rfl rfl rfl ?_
  refine pu (v := .sc _) rfl rfl (fun _ => rfl) ?_
  refine RunC.fin ?_
  refine AWP.sq ?_
  refine AWP.rgC 24 rfl rfl ?_
  refine fa rfl rfl ti36 rfl rfl ti22 rfl ?_
  refine ldB (v := rowV _ k.K) rfl rfl rfl rfl ti22 rfl rfl ?_
  obtain ⟨r1, hr1, hR⟩ := bindE hR
  refine cls [] rfl rfl cb27 (ok27 k.K _ hr1) (.cons ldR' (.cons (.fn (.nil)) (.nil))) (.inr rfl) rfl ?_
  refine pu (v := .sc _) rfl rfl (fun _ => rfl) ?_
  refine RunC.fin ?_
  refine AWP.ret ?_
  have hR := Option.some.inj hR; subst hR
  exact hQ _ _ (LS.mk [(2, .sc (.int .i64 r1))] (lblks 0 []) 0) (.sc (.int .i64 r1)) [] (.inr rfl) (Weak.turnL [] [] rfl rfl (tc (.sc _) tn) mn) (ro1 (rvT (v := .sc (.int .i64 r1)) rfl)) rfl rfl (.sc _) pn
theorem ok17 (s : List Int) (r : (List Int)) (hR : slices_Clone_Int s = some r) : FnP Try.prog 17 [rowV false s] (rowV (α := Int) true r) := by
  refine fnP_of (FnX.walk Try.func17 rfl 8 0 (by simp [Try.ntmps17]) rfl fun W S F Q hQ => ?_)
  unfold slices_Clone_Int at hR
  refine AWP.sq ?_
  refine AWP.rgC 4 rfl rfl ?_
  refine pu (v := .sc _) rfl rfl (fun _ => rfl) ?_
  refine RunC.fin ?_
  refine AWP.sq ?_
  refine AWP.joinX (fun z1 : Bool => LS.mk [(0, rowV (α := Int) false s), (4, .sc (.bool z1))] (lblks 0 []) 0) hR (fun o1 hR => ?_) fun z1 hR => ?_
  · refine AWP.rgC 12 rfl rfl ?_
    refine pu (v := rowV _ s) rfl rfl (fun _ => rfl) ?_
    refine nilE hR rfl rfl rfl (by rw [ti22]; rfl) (fun hR h2 => ?_) fun hR => ?_
    · refine RunC.fin ?_
      have hR := Option.some.inj hR; subst hR
      exact Weak.turnL [] [] rfl rfl (tc trR1 (tc (.sc _) tn)) mn
    · refine RunC.fin ?_
      have hR := Option.some.inj hR; subst hR
      exact Weak.turnL [] [] rfl rfl (tc trR1 (tc (.sc _) tn)) mn
  · refine AWP.cd hR rfl (fun h3 hR => ?_) fun h3 hR => ?_
    · refine AWP.sq ?_
      refine AWP.rgC 4 rfl rfl ?_
      refine pu (v := .sc _) rfl rfl (fun _ => rfl) ?_
      refine RunC.fin ?_
      refine AWP.ret ?_
      refine rtT ?_
      have hR := Option.some.inj hR; subst hR
      exact hQ _ _ (LS.mk [(2, rowV (α := Int) true [])] (lblks 0 []) 0) (rowV (α := Int) true []) [] (.inr rfl) (Weak.turnL [] [] rfl rfl (tc trN tn) mn) (ro1 (rvT (v := rowV (α := Int) true []) rfl)) rfl rfl ldR' pn
    · refine AWP.skip ?_
      refine skT ?_
      refine AWP.sq ?_
      refine AWP.rgC 16 rfl rfl ?_
      refine bs (α := Int) 0 true ([] : List Int) rfl rfl ti22 rfl ti3 rfl rfl rfl rfl rfl ?_
      refine pu (v := rowV _ s) rfl rfl (fun _ => rfl) ?_
      obtain ⟨h4, hR⟩ := chkE hR
      refine ap' (α := Int) (nw := true) (xs := ([] : List Int)) (ys := s) rfl rfl rfl rfl (srcR2 rfl (fun _ => rfl)) ti22 rfl ti3 rfl h4 rfl ?_
      refine pu (v := slV Int _ _ _ _) rfl rfl (fun _ => rfl) ?_
      refine RunC.fin ?_
      refine AWP.ret ?_
      have hR := Option.some.inj hR; subst hR
      exact hQ _ _ (LS.mk [(2, rowV (α := Int) true (([] : List Int) ++ s))] (lblks 0 []) 0) (rowV (α := Int) true (([] : List Int) ++ s)) [] (.inr rfl) (Weak.turnL [] [0] rfl rfl (tc (trF' rfl rfl id rfl) tn) mn) (ro1 (rvT (v := rowV (α := Int) true (([] : List Int) ++ s)) rfl)) rfl rfl ldR' pn
theorem ok16 (a : differ_Kernel) (b : differ_Kernel) (r : differ_Kernel) (hR : differ_times a b = some r) : FnP Try.prog 16 [aggV false a, aggV false b] (aggV (α := differ_Kernel) true r) := by
  refine fnP_of (FnX.walk Try.func16 rfl 80 0 (by simp [Try.ntmps16]) rfl fun W S F Q hQ => ?_)
  unfold differ_times at hR
  refine AWP.sq ?_
  refine AWP.rgC 12 rfl rfl ?_
  refine bx (cs := _) 0 rfl rfl rfl ?_
  refine bx (cs := _) 4 rfl rfl rfl ?_
  refine al (cs := [.sc (.int .i64 0), .sc (.int .i64 0), .sc (.slice none 0 0)]) 8 rfl rfl ti36 rfl rfl ?_
  refine RunC.fin ?_
  refine AWP.sq ?_
  refine AWP.rgC 72 rfl rfl ?_
  refine fa rfl rfl ti36 rfl rfl ti3 rfl ?_
  refine ldB (v := .sc _) rfl rfl rfl rfl ti3 rfl rfl ?_
  refine fa rfl rfl ti36 rfl rfl ti3 rfl ?_
  refine ldB (v := .sc _) rfl rfl rfl rfl ti3 rfl rfl ?_
  refine pu (v := .sc _) rfl rfl (fun _ => rfl) ?_
  refine pu (v := .sc _) rfl rfl (fun _ => rfl) ?_
  refine fa rfl rfl ti36 rfl rfl ti3 rfl ?_
  refine ldB (v := .sc _) rfl rfl rfl rfl ti3 rfl rfl ?_
  refine fa rfl rfl ti36 rfl rfl ti3 rfl ?_
  refine ldB (v := .sc _) rfl rfl rfl rfl ti3 rfl rfl ?_
  refine pu (v := .sc _) rfl rfl (fun _ => rfl) ?_
  refine pu (v := .sc _) rfl rfl (fun _ => rfl) ?_
  refine bu (cs := [.sc (.int .i64 (w6 ((w6 (a.W + b.W)) - 1))), .sc (.int .i64 (w6 ((w6 (a.H + b.H)) - 1))), .sc (.slice none 0 0)]) rfl bt36 rfl ?_
  refine al (cs := [.sc (.int .i64 0), .sc (.int .i64 0), .sc (.slice none 0 0)]) 64 rfl rfl ti36 rfl rfl ?_
  refine stB (cs' := [.sc (.int .i64 (w6 ((w6 (a.W + b.W)) - 1))), .sc (.int .i64 (w6 ((w6 (a.H + b.H)) - 1))), .sc (.slice none 0 0)]) rfl rfl rfl rfl ti36 rfl rfl rfl rfl rfl ?_
  refine RunC.fin ?_
  refine AWP.sq ?_
  refine AWP.rgC 104 rfl rfl ?_
  refine fa rfl rfl ti36 rfl rfl ti3 rfl ?_
  refine ldB (v := .sc _) rfl rfl rfl rfl ti3 rfl rfl ?_
  refine fa rfl rfl ti36 rfl rfl ti3 rfl ?_
  refine ldB (v := .sc _) rfl rfl rfl rfl ti3 rfl rfl ?_
  obtain ⟨v1, ev1, hR⟩ := letE hR
  refine pu (v := .sc _) rfl rfl (fun _ => puI ev1) ?_
  obtain ⟨h2, hR⟩ := chkE hR
  refine mk (α := Int) 92 true 0 rfl rfl rfl rfl ti22 rfl ti3 rfl rfl h2 ?_
  refine fa rfl rfl ti36 rfl rfl ti22 rfl ?_
  refine stB (cs' := [.sc (.int .i64 (w6 ((w6 (a.W + b.W)) - 1))), .sc (.int .i64 (w6 ((w6 (a.H + b.H)) - 1))), slV Int 92 0 0 (List.replicate v1.toNat (0 : Int)).length]) rfl rfl rfl rfl ti22 rfl rfl rfl rfl rfl ?_
  refine RunC.fin ?_
  refine AWP.sq ?_
  refine AWP.sq ?_
  refine AWP.rgC 120 rfl rfl ?_
  refine fa rfl rfl ti36 rfl rfl ti22 rfl ?_
  refine ldB (v := rowV _ a.K) rfl rfl rfl rfl ti22 rfl rfl ?_
  refine lenL (α := Int) rfl rfl ti22 rfl ?_
  refine pu (v := .sc _) rfl rfl (fun _ => rfl) ?_
  refine RunC.fin ?_
  refine AWP.loopJ (fun s3 : (List Int) × Int => LS.mk [(2, .ptr 0 0 0), (3, .ptr 1 0 0), (4, .ptr 2 0 0), (5, .ptr 3 0 0), (31, rowV (α := Int) false a.K), (32, .sc (.int .i64 (a.K.length : Int))), (33, .sc (.int .i64 s3.2))] (lblks 0 [boxB (α := differ_Kernel) false a, boxB (α := differ_Kernel) false b, .box [.sc (.int .i64 0), .sc (.int .i64 0), .sc (.slice none 0 0)], .box [.sc (.int .i64 (w6 ((w6 (a.W + b.W)) - 1))), .sc (.int .i64 (w6 ((w6 (a.H + b.H)) - 1))), slV Int 4 0 0 s3.1.length], arrB (α := Int) 3 0 true s3.1]) 5) (fun z4 : (List Int) => LS.mk [(4, .ptr 0 0 0), (5, .ptr 1 0 0)] (lblks 0 [.box [.sc (.int .i64 0), .sc (.int .i64 0), .sc (.slice none 0 0)], .box [.sc (.int .i64 (w6 ((w6 (a.W + b.W)) - 1))), .sc (.int .i64 (w6 ((w6 (a.H + b.H)) - 1))), slV Int 2 0 0 z4.length], arrB (α := Int) 3 0 true z4]) 3) (differ_times.l1 a b) hR (s0 := (List.replicate v1.toNat (0 : Int), 0)) (Weak.turnL [(0, 0), (4, 0), (8, 0), (64, 0), (92, 0)] [] rfl rfl (tc (trP' rfl rfl rfl rfl) (tc (trP' rfl rfl rfl rfl) (tc (trP' rfl rfl rfl rfl) (tc (trP' rfl rfl rfl rfl) (tc trR1 (tc (.sc _) (tc (.sc _) tn))))))) (mc rfl (.box rfl (.cons (.sc _) (.cons (.sc _) (.cons trR1 (.nil)))) rfl) (mc rfl (.box rfl (.cons (.sc _) (.cons (.sc _) (.cons trR1 (.nil)))) rfl) (mc rfl (.box rfl (.cons (.sc _) (.cons (.sc _) (.cons (.sc _) (.nil)))) rfl) (mc rfl (.box rfl (.cons (.sc _) (.cons (.sc _) (.cons (trS' rfl rfl rfl rfl rfl) (.nil)))) rfl) (mc rfl (btrA' rfl) mn)))))) (fun s3 o3 hR => ?_) fun z4 hR => ?_
  · unfold differ_times.l1 at hR
    refine AWP.sq ?_
    refine AWP.rgC 9 rfl rfl ?_
    refine pu (v := .sc _) rfl rfl (fun _ => rfl) ?_
    refine RunC.fin ?_
    refine AWP.sq ?_
    refine AWP.cd hR rfl (fun h5 hR => ?_) fun h5 hR => ?_
    · refine AWP.skip ?_
      refine skT ?_
      refine AWP.sq ?_
      refine AWP.block ?_
      refine AWP.sq ?_
      refine AWP.rgC 29 rfl rfl ?_
      refine pu (v := .sc _) rfl rfl (fun _ => rfl) ?_
      obtain ⟨h6, hR⟩ := chkE hR
      refine ixL (α := Int) rfl rfl rfl ti22 rfl ti3 rfl h6 ?_
      refine ldR (v := .sc _) rfl rfl ti3 rfl ?_
      refine pu (v := .sc _) rfl rfl (fun _ => rfl) ?_
      refine pu (v := .sc _) rfl rfl (fun _ => rfl) ?_
      refine RunC.fin ?_
      refine AWP.sq ?_
      refine AWP.rgC 45 rfl rfl ?_
      refine fa rfl rfl ti36 rfl rfl ti22 rfl ?_
      refine ldB (v := rowV _ b.K) rfl rfl rfl rfl ti22 rfl rfl ?_
      refine lenL (α := Int) rfl rfl ti22 rfl ?_
      refine pu (v := .sc _) rfl rfl (fun _ => rfl) ?_
      refine RunC.fin ?_
      refine AWP.loopJ (fun s7 : (List Int) × Int => LS.mk [(2, .ptr 0 0 0), (3, .ptr 1 0 0), (4, .ptr 2 0 0), (5, .ptr 3 0 0), (6, .sc (.int .i64 s3.2)), (7, .sc (.int .i64 (gt a.K s3.2))), (31, rowV (α := Int) false a.K), (32, .sc (.int .i64 (a.K.length : Int))), (33, .sc (.int .i64 s3.2)), (39, rowV (α := Int) false b.K), (40, .sc (.int .i64 (b.K.length : Int))), (41, .sc (.int .i64 s7.2))] (lblks 0 [boxB (α := differ_Kernel) false a, boxB (α := differ_Kernel) false b, .box [.sc (.int .i64 0), .sc (.int .i64 0), .sc (.slice none 0 0)], .box [.sc (.int .i64 (w6 ((w6 (a.W + b.W)) - 1))), .sc (.int .i64 (w6 ((w6 (a.H + b.H)) - 1))), slV Int 4 0 0 s7.1.length], arrB (α := Int) 3 0 true s7.1]) 5) (fun z8 : (List Int) => LS.mk [(2, .ptr 0 0 0), (3, .ptr 1 0 0), (4, .ptr 2 0 0), (5, .ptr 3 0 0), (31, rowV (α := Int) false a.K), (32, .sc (.int .i64 (a.K.length : Int))), (33, .sc (.int .i64 s3.2))] (lblks 0 [boxB (α := differ_Kernel) false a, boxB (α := differ_Kernel) false b, .box [.sc (.int .i64 0), .sc (.int .i64 0), .sc (.slice none 0 0)], .box [.sc (.int .i64 (w6 ((w6 (a.W + b.W)) - 1))), .sc (.int .i64 (w6 ((w6 (a.H + b.H)) - 1))), slV Int 4 0 0 z8.length], arrB (α := Int) 3 0 true z8]) 5) (differ_times.l2 a b s3) hR (s0 := (s3.1, 0)) (Weak.turnL [(0, 0), (1, 0), (2, 0), (3, 0), (4, 0)] [] rfl rfl (tc (trP' rfl rfl rfl rfl) (tc (trP' rfl rfl rfl rfl) (tc (trP' rfl rfl rfl rfl) (tc (trP' rfl rfl rfl rfl) (tc (.sc _) (tc (.sc _) (tc trR1 (tc (.sc _) (tc (.sc _) (tc trR1 (tc (.sc _) (tc (.sc _) tn)))))))))))) (mc rfl (.box rfl (.cons (.sc _) (.cons (.sc _) (.cons trR1 (.nil)))) rfl) (mc rfl (.box rfl (.cons (.sc _) (.cons (.sc _) (.cons trR1 (.nil)))) rfl) (mc rfl (.box rfl (.cons (.sc _) (.cons (.sc _) (.cons (.sc _) (.nil)))) rfl) (mc rfl (.box rfl (.cons (.sc _) (.cons (.sc _) (.cons (trS' rfl rfl rfl rfl rfl) (.nil)))) rfl) (mc rfl (btrA' rfl) mn)))))) (fun s7 o7 hR => ?_) fun z8 hR => ?_
      · unfold differ_times.l2 at hR
        refine AWP.sq ?_
        refine AWP.rgC 9 rfl rfl ?_
        refine pu (v := .sc _) rfl rfl (fun _ => rfl) ?_
        refine RunC.fin ?_
        refine AWP.sq ?_
        refine AWP.cd hR rfl (fun h9 hR => ?_) fun h9 hR => ?_
        · refine AWP.skip ?_
          refine skT ?_
          refine AWP.sq ?_
          refine AWP.block ?_
          refine AWP.sq ?_
          refine AWP.rgC 29 rfl rfl ?_
          refine pu (v := .sc _) rfl rfl (fun _ => rfl) ?_
          obtain ⟨h10, hR⟩ := chkE hR
          refine ixL (α := Int) rfl rfl rfl ti22 rfl ti3 rfl h10 ?_
          refine ldR (v := .sc _) rfl rfl ti3 rfl ?_
          refine pu (v := .sc _) rfl rfl (fun _ => rfl) ?_
          refine pu (v := .sc _) rfl rfl (fun _ => rfl) ?_
          refine RunC.fin ?_
          refine AWP.rgD 157 [0, 1, 0, 0, 8, 28, 0, 0, 128, 448, 1020, 0, 2048, 8188, 0, 0, 32768, 114688, 262140, 0, 0, 1048576, 3670016, 8388604, 16777215, 33554431, 0, 0, 201326592, 536870911, 1073741823, 2147483647] ⟨[], [none, some [3], none, none, some [0], none, none, none, some [1], none, none, none, some [3], none, none, none, some [0], none, none, none, none, some [1], none, none, none, some [4], none, none, none, none, none, some [4]]⟩ hmix (by kernel_rfl) rfl rfl ?_
          refine fa rfl rfl ti36 rfl rfl ti22 rfl ?_
          refine ldB (v := slV Int _ _ _ _) rfl rfl rfl rfl ti22 rfl rfl ?_
          refine pu (v := .sc _) rfl rfl (fun _ => rfl) ?_
          refine fa rfl rfl ti36 rfl rfl ti3 rfl ?_
          refine ldB (v := .sc _) rfl rfl rfl rfl ti3 rfl rfl ?_
          obtain ⟨h11, hR⟩ := chkE hR
          refine qu rfl rfl rfl h11 rfl ?_
          refine pu (v := .sc _) rfl rfl (fun _ => rfl) ?_
          refine fa rfl rfl ti36 rfl rfl ti3 rfl ?_
          refine ldB (v := .sc _) rfl rfl rfl rfl ti3 rfl rfl ?_
          obtain ⟨h12, hR⟩ := chkE hR
          refine qu rfl rfl rfl h12 rfl ?_
          refine pu (v := .sc _) rfl rfl (fun _ => rfl) ?_
          refine fa rfl rfl ti36 rfl rfl ti3 rfl ?_
          refine ldB (v := .sc _) rfl rfl rfl rfl ti3 rfl rfl ?_
          obtain ⟨v13, ev13, hR⟩ := letE hR
          refine pu (v := .sc _) rfl rfl (fun _ => puI ev13) ?_
          refine pu (v := .sc _) rfl rfl (fun _ => rfl) ?_
          refine fa rfl rfl ti36 rfl rfl ti3 rfl ?_
          refine ldB (v := .sc _) rfl rfl rfl rfl ti3 rfl rfl ?_
          refine rm rfl rfl rfl h11 rfl ?_
          refine pu (v := .sc _) rfl rfl (fun _ => rfl) ?_
          refine pu (v := .sc _) rfl rfl (fun _ => rfl) ?_
          refine fa rfl rfl ti36 rfl rfl ti3 rfl ?_
          refine ldB (v := .sc _) rfl rfl rfl rfl ti3 rfl rfl ?_
          refine rm rfl rfl rfl h12 rfl ?_
          refine pu (v := .sc _) rfl rfl (fun _ => rfl) ?_
          obtain ⟨h14, hR⟩ := chkE hR
          refine ixS0 (α := Int) rfl rfl rfl ti22 rfl ti3 rfl h14 ?_
          refine ldE (α := Int) (v := .sc _) rfl rfl rfl (ixlt h14) ti3 rfl rfl rfl rfl ?_
          refine pu (v := .sc _) rfl rfl (fun _ => rfl) ?_
          refine pu (v := .sc _) rfl rfl (fun _ => rfl) ?_
          refine pu (v := .sc _) rfl rfl (fun _ => rfl) ?_
          obtain ⟨v15, ev15, hR⟩ := letE hR
          refine pu (v := .sc _) rfl rfl (fun _ => puI ev15) ?_
          refine ixS0 (α := Int) rfl rfl rfl ti22 rfl ti3 rfl h14 ?_
          obtain ⟨v16, ev16, hR⟩ := letE hR
          refine stE (α := Int) (y := v15) rfl rfl rfl (ixlt h14) ti3 rfl rfl rfl rfl rfl ?_
          rw [ev16]
          refine RunC.blk ?_
          refine RunC.fin ?_
          refine AWP.rgC 165 rfl rfl ?_
          refine pu (v := .sc _) rfl rfl (fun _ => rfl) ?_
          refine pu (v := .sc _) rfl rfl (fun _ => rfl) ?_
          refine RunC.fin ?_
          refine ⟨(v16, w6 (s7.2 + 1)), (Option.some.inj hR).symm, ?_⟩
          exact Weak.turnL [(0, 0), (1, 0), (2, 0), (3, 0), (4, 0)] [] rfl rfl (tc (trP' rfl rfl rfl rfl) (tc (trP' rfl rfl rfl rfl) (tc (trP' rfl rfl rfl rfl) (tc (trP' rfl rfl rfl rfl) (tc (.sc _) (tc (.sc _) (tc trR1 (tc (.sc _) (tc (.sc _) (tc trR1 (tc (.sc _) (tc (.sc _) tn)))))))))))) (mc rfl (.box rfl (.cons (.sc _) (.cons (.sc _) (.cons trR1 (.nil)))) rfl) (mc rfl (.box rfl (.cons (.sc _) (.cons (.sc _) (.cons trR1 (.nil)))) rfl) (mc rfl (.box rfl (.cons (.sc _) (.cons (.sc _) (.cons (.sc _) (.nil)))) rfl) (mc rfl (.box rfl (.cons (.sc _) (.cons (.sc _) (.cons (trS' rfl rfl rfl rfl (by subst ev16; simp only [List.length_set])) (.nil)))) rfl) (mc rfl (btrA' rfl) mn)))))
        · refine AWP.exit ?_
          refine exT ?_
          refine exT ?_
          refine exH (skT ?_)
          refine ⟨s7.1, (Option.some.inj hR).symm, ?_⟩
          exact Weak.turnL [(0, 0), (1, 0), (2, 0), (3, 0), (4, 0)] [] rfl rfl (tc (trP' rfl rfl rfl rfl) (tc (trP' rfl rfl rfl rfl) (tc (trP' rfl rfl rfl rfl) (tc (trP' rfl rfl rfl rfl) (tc trR1 (tc (.sc _) (tc (.sc _) tn))))))) (mc rfl (.box rfl (.cons (.sc _) (.cons (.sc _) (.cons trR1 (.nil)))) rfl) (mc rfl (.box rfl (.cons (.sc _) (.cons (.sc _) (.cons trR1 (.nil)))) rfl) (mc rfl (.box rfl (.cons (.sc _) (.cons (.sc _) (.cons (.sc _) (.nil)))) rfl) (mc rfl (.box rfl (.cons (.sc _) (.cons (.sc _) (.cons (trS' rfl rfl rfl rfl rfl) (.nil)))) rfl) (mc rfl (btrA' rfl) mn)))))
      · refine skB ?_
        refine skT ?_
        refine AWP.rgC 13 rfl rfl ?_
        refine pu (v := .sc _) rfl rfl (fun _ => rfl) ?_
        refine pu (v := .sc _) rfl rfl (fun _ => rfl) ?_
        refine RunC.fin ?_
        refine ⟨(z8, w6 (s3.2 + 1)), (Option.some.inj hR).symm, ?_⟩
        exact Weak.turnL [(0, 0), (1, 0), (2, 0), (3, 0), (4, 0)] [] rfl rfl (tc (trP' rfl rfl rfl rfl) (tc (trP' rfl rfl rfl rfl) (tc (trP' rfl rfl rfl rfl) (tc (trP' rfl rfl rfl rfl) (tc trR1 (tc (.sc _) (tc (.sc _) tn))))))) (mc rfl (.box rfl (.cons (.sc _) (.cons (.sc _) (.cons trR1 (.nil)))) rfl) (mc rfl (.box rfl (.cons (.sc _) (.cons (.sc _) (.cons trR1 (.nil)))) rfl) (mc rfl (.box rfl (.cons (.sc _) (.cons (.sc _) (.cons (.sc _) (.nil)))) rfl) (mc rfl (.box rfl (.cons (.sc _) (.cons (.sc _) (.cons (trS' rfl rfl rfl rfl rfl) (.nil)))) rfl) (mc rfl (btrA' rfl) mn)))))
    · refine AWP.exit ?_
      refine exT ?_
      refine exT ?_
      refine exH (skT ?_)
      refine ⟨s3.1, (Option.some.inj hR).symm, ?_⟩
      exact Weak.turnL [(2, 0), (3, 0), (4, 0)] [] rfl rfl (tc (trP' rfl rfl rfl rfl) (tc (trP' rfl rfl rfl rfl) tn)) (mc rfl (.box rfl (.cons (.sc _) (.cons (.sc _) (.cons (.sc _) (.nil)))) rfl) (mc rfl (.box rfl (.cons (.sc _) (.cons (.sc _) (.cons (trS' rfl rfl rfl rfl rfl) (.nil)))) rfl) (mc rfl (btrA' rfl) mn)))
  · refine skT ?_
    refine AWP.sq ?_
    refine AWP.rgC 11 rfl rfl ?_
    refine ldB (v := .agg _) rfl rfl rfl rfl ti36 rfl rfl ?_
    refine stB (cs' := [.sc (.int .i64 (w6 ((w6 (a.W + b.W)) - 1))), .sc (.int .i64 (w6 ((w6 (a.H + b.H)) - 1))), slV Int 2 0 0 z4.length]) rfl rfl rfl rfl ti36 rfl rfl rfl rfl rfl ?_
    refine RunC.fin ?_
    refine AWP.ret ?_
    have hR := Option.some.inj hR; subst hR
    exact hQ _ _ (LS.mk [(4, .ptr 0 0 0)] (lblks 0 [boxB (α := differ_Kernel) true (differ_Kernel.mk (w6 ((w6 (a.W + b.W)) - 1)) (w6 ((w6 (a.H + b.H)) - 1)) z4)]) 1) (aggV (α := differ_Kernel) true (differ_Kernel.mk (w6 ((w6 (a.W + b.W)) - 1)) (w6 ((w6 (a.H + b.H)) - 1)) z4)) [] (.inr rfl) (Weak.turnL [(0, 0)] [2] rfl rfl (tc (trP' rfl rfl rfl rfl) tn) (mc rfl (.box rfl (.cons (.sc _) (.cons (.sc _) (.cons (trF' rfl rfl id rfl) (.nil)))) rfl) mn)) (ro1 (rvC (v := aggV (α := differ_Kernel) true (differ_Kernel.mk (w6 ((w6 (a.W + b.W)) - 1)) (w6 ((w6 (a.H + b.H)) - 1)) z4)) rfl rfl ti36 rfl)) rfl rfl ldA pn
theorem ok15 (k : differ_Kernel) (r : Int) (hR : differ_CheckKernel k = some r) : FnP Try.prog 15 [aggV false k] (.sc (.int .i64 r)) := by
  refine fnP_of (FnX.walk Try.func15 rfl 56 0 (by simp [Try.ntmps15]) rfl fun W S F Q hQ => ?_)
  unfold differ_CheckKernel at hR
  refine AWP.sq ?_
  refine AWP.rgC 8 rfl rfl ?_
  refine bx (cs := _) 0 rfl rfl rfl ?_
  refine pu (v := .sc _) rfl rfl (fun _ => rfl) ?_
  refine RunC.fin ?_
  refine AWP.sq ?_
  refine AWP.joinX (fun z1 : Bool => LS.mk [(1, .ptr 0 0 0), (34, .sc (.bool z1))] (lblks 0 [boxB (α := differ_Kernel) false k]) 1) hR (fun o1 hR => ?_) fun z1 hR => ?_
  · refine AWP.rgC 124 rfl rfl ?_
    refine fa rfl rfl ti36 rfl rfl ti3 rfl ?_
    refine ldB (v := .sc _) rfl rfl rfl rfl ti3 rfl rfl ?_
    refine pu (v := .sc _) rfl rfl (fun _ => rfl) ?_
    refine pu (v := .sc _) rfl rfl (fun _ => rfl) ?_
    refine brR hR (fun h2 hR => ?_) fun h2 hR => ?_
    · refine sk (skW rfl rfl rfl h2) ?_
      refine sk (skW rfl rfl rfl h2) ?_
      refine sk (skW rfl rfl rfl h2) ?_
      refine pkT (v := .sc (.bool true)) rfl rfl h2 rfl ?_
      refine pu (v := .sc _) rfl rfl (fun _ => rfl) ?_
      refine sk (skW rfl rfl rfl rfl) ?_
      refine sk (skW rfl rfl rfl rfl) ?_
      refine sk (skW rfl rfl rfl rfl) ?_
      refine pkT (v := .sc (.bool true)) rfl rfl rfl rfl ?_
      refine pu (v := .sc _) rfl rfl (fun _ => rfl) ?_
      refine sk (skW rfl rfl rfl rfl) ?_
      refine sk (skW rfl rfl rfl rfl) ?_
      refine sk (skW rfl rfl rfl rfl) ?_
      refine pkT (v := .sc (.bool true)) rfl rfl rfl rfl ?_
      refine pu (v := .sc _) rfl rfl (fun _ => rfl) ?_
      refine sk (skW rfl rfl rfl rfl) ?_
      refine sk (skW rfl rfl rfl rfl) ?_
      refine sk (skW rfl rfl rfl rfl) ?_
      refine sk (skW rfl rfl rfl rfl) ?_
      refine sk (skW rfl rfl rfl rfl) ?_
      refine sk (skW rfl rfl rfl rfl) ?_
      refine sk (skW rfl rfl rfl rfl) ?_
      refine sk (skW rfl rfl rfl rfl) ?_
      refine sk (skW rfl rfl rfl rfl) ?_
      refine pkT (v := .sc (.bool true)) rfl rfl rfl rfl ?_
      refine RunC.fin ?_
      have hR := Option.some.inj hR; subst hR
      exact Weak.turnL [(0, 0)] [] rfl rfl (tc (trP' rfl rfl rfl rfl) (tc (.sc _) tn)) (mc rfl (.box rfl (.cons (.sc _) (.cons (.sc _) (.cons trR1 (.nil)))) rfl) mn)
    · refine fa (wtG rfl rfl rfl h2) rfl ti36 rfl rfl ti3 rfl ?_
      refine ldB (v := .sc _) (wtG rfl rfl rfl h2) rfl rfl rfl ti3 rfl rfl ?_
      refine pu (v := .sc _) (wtG rfl rfl rfl h2) rfl (fun _ => rfl) ?_
      refine pkF (v := .sc (.bool (decide (k.W > 9)))) rfl rfl h2 rfl ?_
      refine pu (v := .sc _) rfl rfl (fun _ => rfl) ?_
      refine brR hR (fun h3 hR => ?_) fun h3 hR => ?_
      · refine sk (skW rfl rfl rfl h3) ?_
        refine sk (skW rfl rfl rfl h3) ?_
        refine sk (skW rfl rfl rfl h3) ?_
        refine pkT (v := .sc (.bool true)) rfl rfl h3 rfl ?_
        refine pu (v := .sc _) rfl rfl (fun _ => rfl) ?_
        refine sk (skW rfl rfl rfl rfl) ?_
        refine sk (skW rfl rfl rfl rfl) ?_
        refine sk (skW rfl rfl rfl rfl) ?_
        refine pkT (v := .sc (.bool true)) rfl rfl rfl rfl ?_
        refine pu (v := .sc _) rfl rfl (fun _ => rfl) ?_
        refine sk (skW rfl rfl rfl rfl) ?_
        refine sk (skW rfl rfl rfl rfl) ?_
        refine sk (skW rfl rfl rfl rfl) ?_
        refine sk (skW rfl rfl rfl rfl) ?_
        refine sk (skW rfl rfl rfl rfl) ?_
        refine sk (skW rfl rfl rfl rfl) ?_
        refine sk (skW rfl rfl rfl rfl) ?_
        refine sk (skW rfl rfl rfl rfl) ?_
        refine sk (skW rfl rfl rfl rfl) ?_
        refine pkT (v := .sc (.bool true)) rfl rfl rfl rfl ?_
        refine RunC.fin ?_
        have hR := Option.some.inj hR; subst hR
        exact Weak.turnL [(0, 0)] [] rfl rfl (tc (trP' rfl rfl rfl rfl) (tc (.sc _) tn)) (mc rfl (.box rfl (.cons (.sc _) (.cons (.sc _) (.cons trR1 (.nil)))) rfl) mn)
      · refine fa (wtG rfl rfl rfl h3) rfl ti36 rfl rfl ti3 rfl ?_
        refine ldB (v := .sc _) (wtG rfl rfl rfl h3) rfl rfl rfl ti3 rfl rfl ?_
        refine pu (v := .sc _) (wtG rfl rfl rfl h3) rfl (fun _ => rfl) ?_
        refine pkF (v := .sc (.bool (decide (k.H < 1)))) rfl rfl h3 rfl ?_
        refine pu (v := .sc _) rfl rfl (fun _ => rfl) ?_
        refine brR hR (fun h4 hR => ?_) fun h4 hR => ?_
        · refine sk (skW rfl rfl rfl h4) ?_
          refine sk (skW rfl rfl rfl h4) ?_
          refine sk (skW rfl rfl rfl h4) ?_
          refine pkT (v := .sc (.bool true)) rfl rfl h4 rfl ?_
          refine pu (v := .sc _) rfl rfl (fun _ => rfl) ?_
          refine sk (skW rfl rfl rfl rfl) ?_
          refine sk (skW rfl rfl rfl rfl) ?_
          refine sk (skW rfl rfl rfl rfl) ?_
          refine sk (skW rfl rfl rfl rfl) ?_
          refine sk (skW rfl rfl rfl rfl) ?_
          refine sk (skW rfl rfl rfl rfl) ?_
          refine sk (skW rfl rfl rfl rfl) ?_
          refine sk (skW rfl rfl rfl rfl) ?_
          refine sk (skW rfl rfl rfl rfl) ?_
          refine pkT (v := .sc (.bool true)) rfl rfl rfl rfl ?_
          refine RunC.fin ?_
          have hR := Option.some.inj hR; subst hR
          exact Weak.turnL [(0, 0)] [] rfl rfl (tc (trP' rfl rfl rfl rfl) (tc (.sc _) tn)) (mc rfl (.box rfl (.cons (.sc _) (.cons (.sc _) (.cons trR1 (.nil)))) rfl) mn)
        · refine fa (wtG rfl rfl rfl h4) rfl ti36 rfl rfl ti3 rfl ?_
          refine ldB (v := .sc _) (wtG rfl rfl rfl h4) rfl rfl rfl ti3 rfl rfl ?_
          refine pu (v := .sc _) (wtG rfl rfl rfl h4) rfl (fun _ => rfl) ?_
          refine pkF (v := .sc (.bool (decide (k.H > 9)))) rfl rfl h4 rfl ?_
          refine pu (v := .sc _) rfl rfl (fun _ => rfl) ?_
          refine brR hR (fun h5 hR => ?_) fun h5 hR => ?_
          · refine sk (skW rfl rfl rfl h5) ?_
            refine sk (skW rfl rfl rfl h5) ?_
            refine sk (skW rfl rfl rfl h5) ?_
            refine sk (skW rfl rfl rfl h5) ?_
            refine sk (skW rfl rfl rfl h5) ?_
            refine sk (skW rfl rfl rfl h5) ?_
            refine sk (skW rfl rfl rfl h5) ?_
            refine sk (skW rfl rfl rfl h5) ?_
            refine sk (skW rfl rfl rfl h5) ?_
            refine pkT (v := .sc (.bool true)) rfl rfl h5 rfl ?_
            refine RunC.fin ?_
            have hR := Option.some.inj hR; subst hR
            exact Weak.turnL [(0, 0)] [] rfl rfl (tc (trP' rfl rfl rfl rfl) (tc (.sc _) tn)) (mc rfl (.box rfl (.cons (.sc _) (.cons (.sc _) (.cons trR1 (.nil)))) rfl) mn)
          · refine fa (wtG rfl rfl rfl h5) rfl ti36 rfl rfl ti22 rfl ?_
            refine ldB (v := rowV _ k.K) (wtG rfl rfl rfl h5) rfl rfl rfl ti22 rfl rfl ?_
            refine lenL (α := Int) (wtG rfl rfl rfl h5) rfl ti22 rfl ?_
            refine fa (wtG rfl rfl rfl h5) rfl ti36 rfl rfl ti3 rfl ?_
            refine ldB (v := .sc _) (wtG rfl rfl rfl h5) rfl rfl rfl ti3 rfl rfl ?_
            refine fa (wtG rfl rfl rfl h5) rfl ti36 rfl rfl ti3 rfl ?_
            refine ldB (v := .sc _) (wtG rfl rfl rfl h5) rfl rfl rfl ti3 rfl rfl ?_
            refine pu (v := .sc _) (wtG rfl rfl rfl h5) rfl (fun _ => rfl) ?_
            refine pu (v := .sc _) (wtG rfl rfl rfl h5) rfl (fun _ => rfl) ?_
            refine pkF (v := .sc (.bool ((k.K.length : Int) != (w6 (k.W * k.H))))) rfl rfl h5 rfl ?_
            refine RunC.fin ?_
            have hR := Option.some.inj hR; subst hR
            exact Weak.turnL [(0, 0)] [] rfl rfl (tc (trP' rfl rfl rfl rfl) (tc (.sc _) tn)) (mc rfl (.box rfl (.cons (.sc _) (.cons (.sc _) (.cons trR1 (.nil)))) rfl) mn)
  · refine AWP.cd hR rfl (fun h6 hR => ?_) fun h6 hR => ?_
    · refine AWP.sq ?_
      refine AWP.rgC 5 rfl rfl ?_
      refine pu (v := .sc _) rfl rfl (fun _ => rfl) ?_
      refine RunC.fin ?_
      refine AWP.ret ?_
      refine rtT ?_
      have hR := Option.some.inj hR; subst hR
      exact hQ _ _ (LS.mk [(2, .sc (.int .i64 3))] (lblks 0 []) 0) (.sc (.int .i64 3)) [] (.inr rfl) (Weak.turnL [] [] rfl rfl (tc (.sc _) tn) mn) (ro1 (rvT (v := .sc (.int .i64 3)) rfl)) rfl rfl (.sc _) pn
    · refine AWP.skip ?_
      refine skT ?_
      refine AWP.sq ?_
      refine AWP.rgC 5 rfl rfl ?_
      refine pu (v := .sc _) rfl rfl (fun _ => rfl) ?_
      refine RunC.fin ?_
      refine AWP.sq ?_
      refine AWP.sq ?_
      refine AWP.rgC 21 rfl rfl ?_
      refine fa rfl rfl ti36 rfl rfl ti22 rfl ?_
      refine ldB (v := rowV _ k.K) rfl rfl rfl rfl ti22 rfl rfl ?_
      refine lenL (α := Int) rfl rfl ti22 rfl ?_
      refine pu (v := .sc _) rfl rfl (fun _ => rfl) ?_
      refine RunC.fin ?_
      refine AWP.loopK' (fun s7 : Bool × Int => LS.mk [(3, .sc (.bool s7.1)), (36, rowV (α := Int) false k.K), (37, .sc (.int .i64 (k.K.length : Int))), (38, .sc (.int .i64 s7.2))] (lblks 0 []) 0) (fun z8 : Bool => LS.mk [(3, .sc (.bool z8))] (lblks 0 []) 0) (differ_CheckKernel.l1 k) hR (s0 := (false, 0)) (Weak.turnL [] [] rfl rfl (tc (.sc _) (tc trR1 (tc (.sc _) (tc (.sc _) tn)))) mn) (fun s7 o7 hR hE7 => ?_) fun z8 hR => ?_
      · unfold differ_CheckKernel.l1 at hR
        refine AWP.sq ?_
        refine AWP.rgC 4 rfl rfl ?_
        refine pu (v := .sc _) rfl rfl (fun _ => rfl) ?_
        refine RunC.fin ?_
        refine AWP.sq ?_
        refine AWP.cd hR rfl (fun h9 hR => ?_) fun h9 hR => ?_
        · refine AWP.skip ?_
          refine skT ?_
          refine AWP.sq ?_
          refine AWP.block ?_
          refine AWP.sq ?_
          refine AWP.rgC 16 rfl rfl ?_
          obtain ⟨h10, hR⟩ := chkE hR
          refine ixL (α := Int) rfl rfl rfl ti22 rfl ti3 rfl h10 ?_
          refine ldR (v := .sc _) rfl rfl ti3 rfl ?_
          refine pu (v := .sc _) rfl rfl (fun _ => rfl) ?_
          refine RunC.fin ?_
          refine AWP.sq ?_
          refine AWP.joinX (fun z11 : Bool => LS.mk [(3, .sc (.bool s7.1)), (5, .sc (.int .i64 (gt k.K s7.2))), (36, rowV (α := Int) false k.K), (37, .sc (.int .i64 (k.K.length : Int))), (38, .sc (.int .i64 s7.2)), (47, .sc (.bool z11))] (lblks 0 []) 0) hR (fun o11 hR => ?_) fun z11 hR => ?_
          · refine AWP.rgC 40 rfl rfl ?_
            refine pu (v := .sc _) rfl rfl (fun _ => rfl) ?_
            refine pu (v := .sc _) rfl rfl (fun _ => rfl) ?_
            refine pu (v := .sc _) rfl rfl (fun _ => rfl) ?_
            refine brR hR (fun h12 hR => ?_) fun h12 hR => ?_
            · refine sk (skW rfl rfl rfl h12) ?_
              refine sk (skW rfl rfl rfl h12) ?_
              refine pkT (v := .sc (.bool true)) rfl rfl h12 rfl ?_
              refine RunC.fin ?_
              have hR := Option.some.inj hR; subst hR
              exact Weak.turnL [] [] rfl rfl (tc (.sc _) (tc (.sc _) (tc trR1 (tc (.sc _) (tc (.sc _) (tc (.sc _) tn)))))) mn
            · refine pu (v := .sc _) (wtG rfl rfl rfl h12) rfl (fun _ => rfl) ?_
              refine pu (v := .sc _) (wtG rfl rfl rfl h12) rfl (fun _ => rfl) ?_
              refine pkF (v := .sc (.bool (decide ((gt k.K s7.2) > 4096)))) rfl rfl h12 rfl ?_
              refine RunC.fin ?_
              have hR := Option.some.inj hR; subst hR
              exact Weak.turnL [] [] rfl rfl (tc (.sc _) (tc (.sc _) (tc trR1 (tc (.sc _) (tc (.sc _) (tc (.sc _) tn)))))) mn
          · refine AWP.cd hR rfl (fun h13 hR => ?_) fun h13 hR => ?_
            · refine AWP.sq ?_
              refine AWP.rgC 4 rfl rfl ?_
              refine pu (v := .sc _) rfl rfl (fun _ => rfl) ?_
              refine RunC.fin ?_
              refine AWP.ret ?_
              refine rtT ?_
              refine rtB ?_
              refine rtT ?_
              refine rtT ?_
              refine rtB (rtT ?_)
              replace hR := escL hR hE7
              refine rtT ?_
              have hR := Option.some.inj hR; subst hR
              exact hQ _ _ (LS.mk [(2, .sc (.int .i64 4))] (lblks 0 []) 0) (.sc (.int .i64 4)) [] (.inr rfl) (Weak.turnL [] [] rfl rfl (tc (.sc _) tn) mn) (ro1 (rvT (v := .sc (.int .i64 4)) rfl)) rfl rfl (.sc _) pn
            · refine AWP.skip ?_
              refine skT ?_
              refine AWP.rgC 24 rfl rfl ?_
              refine pu (v := .sc _) rfl rfl (fun _ => rfl) ?_
              refine pu (v := .sc _) rfl rfl (fun _ => rfl) ?_
              refine brR hR (fun h14 hR => ?_) fun h14 hR => ?_
              · refine sk (skW rfl rfl rfl h14) ?_
                refine sk (skW rfl rfl rfl h14) ?_
                refine pkT (v := .sc (.bool true)) rfl rfl h14 rfl ?_
                refine pu (v := .sc _) rfl rfl (fun _ => rfl) ?_
                refine RunC.blk ?_
                refine RunC.fin ?_
                refine AWP.rgC 32 rfl rfl ?_
                refine pu (v := .sc _) rfl rfl (fun _ => rfl) ?_
                refine pu (v := .sc _) rfl rfl (fun _ => rfl) ?_
                refine RunC.fin ?_
                refine ⟨(true, w6 (s7.2 + 1)), (Option.some.inj hR).symm, ?_⟩
                exact Weak.turnL [] [] rfl rfl (tc (.sc _) (tc trR1 (tc (.sc _) (tc (.sc _) tn)))) mn
              · refine pu (v := .sc _) (wtG rfl rfl rfl h14) rfl (fun _ => rfl) ?_
                refine pu (v := .sc _) (wtG rfl rfl rfl h14) rfl (fun _ => rfl) ?_
                refine pkF (v := .sc (.bool (decide ((gt k.K s7.2) > 0)))) rfl rfl h14 rfl ?_
                refine pu (v := .sc _) rfl rfl (fun _ => rfl) ?_
                refine RunC.blk ?_
                refine RunC.fin ?_
                refine AWP.rgC 32 rfl rfl ?_
                refine pu (v := .sc _) rfl rfl (fun _ => rfl) ?_
                refine pu (v := .sc _) rfl rfl (fun _ => rfl) ?_
                refine RunC.fin ?_
                refine ⟨(decide ((gt k.K s7.2) > 0), w6 (s7.2 + 1)), (Option.some.inj hR).symm, ?_⟩
                exact Weak.turnL [] [] rfl rfl (tc (.sc _) (tc trR1 (tc (.sc _) (tc (.sc _) tn)))) mn
        · refine AWP.exit ?_
          refine exT ?_
          refine exT ?_
          refine exH (skT ?_)
          refine ⟨s7.1, (Option.some.inj hR).symm, ?_⟩
          exact Weak.turnL [] [] rfl rfl (tc (.sc _) tn) mn
      · refine skT ?_
        refine AWP.sq ?_
        refine AWP.sq ?_
        refine AWP.rgC 8 rfl rfl ?_
        refine pu (v := .sc _) rfl rfl (fun _ => rfl) ?_
        refine pu (v := .sc _) rfl rfl (fun _ => rfl) ?_
        refine RunC.fin ?_
        refine AWP.cd hR rfl (fun h15 hR => ?_) fun h15 hR => ?_
        · refine AWP.sq ?_
          refine AWP.rgC 12 rfl rfl ?_
          refine pu (v := .sc _) rfl rfl (fun _ => rfl) ?_
          refine RunC.fin ?_
          refine AWP.ret ?_
          refine rtT ?_
          have hR := Option.some.inj hR; subst hR
          exact hQ _ _ (LS.mk [(2, .sc (.int .i64 8))] (lblks 0 []) 0) (.sc (.int .i64 8)) [] (.inr rfl) (Weak.turnL [] [] rfl rfl (tc (.sc _) tn) mn) (ro1 (rvT (v := .sc (.int .i64 8)) rfl)) rfl rfl (.sc _) pn
        · refine AWP.skip ?_
          refine skT ?_
          refine AWP.sq ?_
          refine AWP.rgC 12 rfl rfl ?_
          refine pu (v := .sc _) rfl rfl (fun _ => rfl) ?_
          refine RunC.fin ?_
          refine AWP.ret ?_
          have hR := Option.some.inj hR; subst hR
          exact hQ _ _ (LS.mk [(2, .sc (.int .i64 0))] (lblks 0 []) 0) (.sc (.int .i64 0)) [] (.inr rfl) (Weak.turnL [] [] rfl rfl (tc (.sc _) tn) mn) (ro1 (rvT (v := .sc (.int .i64 0)) rfl)) rfl rfl (.sc _) pn
theorem ok14 (s : spymake_Stream) (n : Int) (r : Int × spymake_Stream) (hR : Stream_Next s n = some r) : FnD Try.prog 14 [boxB false s] [.ptr 0 0 0, .sc (.int .i64 n)] (.sc (.int .i64 r.1)) [boxB false r.2] := by
  refine FnX.walk Try.func14 rfl 64 1 (by simp [Try.ntmps14]) rfl fun W S F Q hQ => ?_
  unfold Stream_Next at hR
  refine AWP.sq ?_
  refine AWP.rgC 5 rfl rfl ?_
  refine pu (v := .sc _) rfl rfl (fun _ => rfl) ?_
  refine RunC.fin ?_
  refine AWP.sq ?_
  refine AWP.rgC 37 rfl rfl ?_
  refine pu (v := .ptr _ _ _) rfl rfl (fun _ => rfl) ?_
  refine pu (v := .ptr _ _ _) rfl rfl (fun _ => rfl) ?_
  refine fa rfl rfl ti25 rfl rfl ti3 rfl ?_
  refine ldB (v := .sc _) rfl rfl rfl rfl ti3 rfl rfl ?_
  refine pu (v := .sc _) rfl rfl (fun _ => rfl) ?_
  refine pu (v := .ptr _ _ _) rfl rfl (fun _ => rfl) ?_
  refine fa rfl rfl ti25 rfl rfl ti3 rfl ?_
  refine stB (cs' := [rowV (α := Int) false s.L, .sc (.int .i64 (w6 (s.at_ + 1)))]) rfl rfl rfl rfl ti3 rfl rfl rfl rfl rfl ?_
  refine RunC.fin ?_
  refine AWP.sq ?_
  refine AWP.sq ?_
  refine AWP.rgC 61 rfl rfl ?_
  refine pu (v := .ptr _ _ _) rfl rfl (fun _ => rfl) ?_
  refine pu (v := .ptr _ _ _) rfl rfl (fun _ => rfl) ?_
  refine fa rfl rfl ti25 rfl rfl ti22 rfl ?_
  refine ldB (v := rowV _ s.L) rfl rfl rfl rfl ti22 rfl rfl ?_
  refine lenL (α := Int) rfl rfl ti22 rfl ?_
  refine pu (v := .sc _) rfl rfl (fun _ => rfl) ?_
  refine RunC.fin ?_
  refine AWP.cd hR rfl (fun h1 hR => ?_) fun h1 hR => ?_
  · refine AWP.sq ?_
    refine AWP.rgC 93 rfl rfl ?_
    refine pu (v := .ptr _ _ _) rfl rfl (fun _ => rfl) ?_
    refine pu (v := .ptr _ _ _) rfl rfl (fun _ => rfl) ?_
    refine fa rfl rfl ti25 rfl rfl ti3 rfl ?_
    refine ldB (v := .sc _) rfl rfl rfl rfl ti3 rfl rfl ?_
    refine pu (v := .sc _) rfl rfl (fun _ => rfl) ?_
    refine pu (v := .sc _) rfl rfl (fun _ => rfl) ?_
    obtain ⟨r2, hr2, hR⟩ := bindE hR
    refine cls [] rfl rfl cb26 (ok26 (w6 ((w6 (s.at_ + 1)) * 7919)) n _ hr2) (.cons (.sc _) (.cons (.sc _) (.nil))) (.inr rfl) rfl ?_
    refine pu (v := .sc _) rfl rfl (fun _ => rfl) ?_
    refine RunC.fin ?_
    refine AWP.ret ?_
    refine rtT ?_
    have hR := Option.some.inj hR; subst hR
    exact hQ _ _ (LS.mk [(4, .sc (.int .i64 r2))] (lblks 0 [boxB (α := spymake_Stream) false (spymake_Stream.mk s.L (w6 (s.at_ + 1)))]) 1) (.sc (.int .i64 r2)) [] (.inr rfl) (Weak.turnL [(0, 0)] [] rfl rfl (tc (.sc _) tn) (mc rfl (.box rfl (.cons trR1 (.cons (.sc _) (.nil))) rfl) mn)) (ro1 (rvT (v := .sc (.int .i64 r2)) rfl)) rfl rfl (.sc _) (pc rfl bldB pn)
  · refine AWP.skip ?_
    refine skT ?_
    refine AWP.sq ?_
    refine AWP.rgD 109 [0, 1, 3, 7, 15, 0, 32, 96, 224, 480, 1023, 2047] ⟨[], [none, none, none, some [0], none, none, none, none, some [0], none, none, none]⟩ hmix (by kernel_rfl) rfl rfl ?_
    refine pu (v := .ptr _ _ _) rfl rfl (fun _ => rfl) ?_
    refine pu (v := .ptr _ _ _) rfl rfl (fun _ => rfl) ?_
    refine fa rfl rfl ti25 rfl rfl ti3 rfl ?_
    refine ldB (v := .sc _) rfl rfl rfl rfl ti3 rfl rfl ?_
    refine pu (v := .sc _) rfl rfl (fun _ => rfl) ?_
    refine pu (v := .ptr _ _ _) rfl rfl (fun _ => rfl) ?_
    refine pu (v := .ptr _ _ _) rfl rfl (fun _ => rfl) ?_
    refine fa rfl rfl ti25 rfl rfl ti22 rfl ?_
    refine ldB (v := rowV _ s.L) rfl rfl rfl rfl ti22 rfl rfl ?_
    refine lenL (α := Int) rfl rfl ti22 rfl ?_
    obtain ⟨h3, hR⟩ := chkE hR
    refine rm rfl rfl rfl h3 rfl ?_
    refine pu (v := .sc _) rfl rfl (fun _ => rfl) ?_
    refine RunC.fin ?_
    refine AWP.sq ?_
    refine AWP.rgD 157 [0, 1, 3, 7, 15, 0, 32, 96, 224, 480, 1023, 2047] ⟨[], [none, none, none, some [0], none, none, none, none, some [0], none, none, none]⟩ hmix (by kernel_rfl) rfl rfl ?_
    refine pu (v := .ptr _ _ _) rfl rfl (fun _ => rfl) ?_
    refine pu (v := .ptr _ _ _) rfl rfl (fun _ => rfl) ?_
    refine fa rfl rfl ti25 rfl rfl ti3 rfl ?_
    refine ldB (v := .sc _) rfl rfl rfl rfl ti3 rfl rfl ?_
    refine pu (v := .sc _) rfl rfl (fun _ => rfl) ?_
    refine pu (v := .ptr _ _ _) rfl rfl (fun _ => rfl) ?_
    refine pu (v := .ptr _ _ _) rfl rfl (fun _ => rfl) ?_
    refine fa rfl rfl ti25 rfl rfl ti22 rfl ?_
    refine ldB (v := rowV _ s.L) rfl rfl rfl rfl ti22 rfl rfl ?_
    refine lenL (α := Int) rfl rfl ti22 rfl ?_
    refine qu rfl rfl rfl h3 rfl ?_
    refine pu (v := .sc _) rfl rfl (fun _ => rfl) ?_
    refine RunC.fin ?_
    refine AWP.sq ?_
    refine AWP.rgC 221 rfl rfl ?_
    refine pu (v := .ptr _ _ _) rfl rfl (fun _ => rfl) ?_
    refine pu (v := .ptr _ _ _) rfl rfl (fun _ => rfl) ?_
    refine fa rfl rfl ti25 rfl rfl ti22 rfl ?_
    refine ldB (v := rowV _ s.L) rfl rfl rfl rfl ti22 rfl rfl ?_
    refine pu (v := .sc _) rfl rfl (fun _ => rfl) ?_
    obtain ⟨h4, hR⟩ := chkE hR
    refine ixL (α := Int) rfl rfl rfl ti22 rfl ti3 rfl h4 ?_
    refine ldR (v := .sc _) rfl rfl ti3 rfl ?_
    obtain ⟨r5, hr5, hR⟩ := bindE hR
    refine cls [] rfl rfl cb26 (ok26 (gt s.L (Int.tmod (w6 ((w6 (s.at_ + 1)) - 1)) (s.L.length : Int))) 1073741824 _ hr5) (.cons (.sc _) (.cons (.sc _) (.nil))) (.inr rfl) rfl ?_
    refine pu (v := .sc _) rfl rfl (fun _ => rfl) ?_
    refine pu (v := .sc _) rfl rfl (fun _ => rfl) ?_
    obtain ⟨v6, ev6, hR⟩ := letE hR
    refine pu (v := .sc _) rfl rfl (fun _ => puI ev6) ?_
    obtain ⟨v7, ev7, hR⟩ := letE hR
    refine pu (v := .sc _) rfl rfl (fun _ => puI ev7) ?_
    refine pu (v := .sc _) rfl rfl (fun _ => rfl) ?_
    refine pu (v := .sc _) rfl rfl (fun _ => rfl) ?_
    obtain ⟨r8, hr8, hR⟩ := bindE hR
    refine cls [] rfl rfl cb26 (ok26 (w6 (r5 + v7)) n _ hr8) (.cons (.sc _) (.cons (.sc _) (.nil))) (.inr rfl) rfl ?_
    refine pu (v := .sc _) rfl rfl (fun _ => rfl) ?_
    refine RunC.fin ?_
    refine AWP.ret ?_
    have hR := Option.some.inj hR; subst hR
    exact hQ _ _ (LS.mk [(4, .sc (.int .i64 r8))] (lblks 0 [boxB (α := spymake_Stream) false (spymake_Stream.mk s.L (w6 (s.at_ + 1)))]) 1) (.sc (.int .i64 r8)) [] (.inr rfl) (Weak.turnL [(0, 0)] [] rfl rfl (tc (.sc _) tn) (mc rfl (.box rfl (.cons trR1 (.cons (.sc _) (.nil))) rfl) mn)) (ro1 (rvT (v := .sc (.int .i64 r8)) rfl)) rfl rfl (.sc _) (pc rfl bldB pn)
theorem ok13 (s1_ : List Int) (s2_ : List Int) (r : Bool) (hR : slices_Equal_Int s1_ s2_ = some r) : FnP Try.prog 13 [rowV false s1_, rowV false s2_] (.sc (.bool r)) := by
  refine fnP_of (FnX.walk Try.func13 rfl 26 0 (by simp [Try.ntmps13]) rfl fun W S F Q hQ => ?_)
  unfold slices_Equal_Int at hR
  refine AWP.sq ?_
  refine AWP.rgC 4 rfl rfl ?_
  refine pu (v := .sc _) rfl rfl (fun _ => rfl) ?_
  refine RunC.fin ?_
  refine AWP.sq ?_
  refine AWP.sq ?_
  refine AWP.rgC 24 rfl rfl ?_
  refine pu (v := rowV _ s1_) rfl rfl (fun _ => rfl) ?_
  refine lenL (α := Int) rfl rfl ti22 rfl ?_
  refine pu (v := rowV _ s2_) rfl rfl (fun _ => rfl) ?_
  refine lenL (α := Int) rfl rfl ti22 rfl ?_
  refine pu (v := .sc _) rfl rfl (fun _ => rfl) ?_
  refine RunC.fin ?_
  refine AWP.cd hR rfl (fun h1 hR => ?_) fun h1 hR => ?_
  · refine AWP.sq ?_
    refine AWP.rgC 28 rfl rfl ?_
    refine pu (v := .sc _) rfl rfl (fun _ => rfl) ?_
    refine RunC.fin ?_
    refine AWP.ret ?_
    refine rtT ?_
    have hR := Option.some.inj hR; subst hR
    exact hQ _ _ (LS.mk [(4, .sc (.bool false))] (lblks 0 []) 0) (.sc (.bool false)) [] (.inr rfl) (Weak.turnL [] [] rfl rfl (tc (.sc _) tn) mn) (ro1 (rvT (v := .sc (.bool false)) rfl)) rfl rfl (.sc _) pn
  · refine AWP.skip ?_
    refine skT ?_
    refine AWP.sq ?_
    refine AWP.sq ?_
    refine AWP.rgC 36 rfl rfl ?_
    refine pu (v := rowV _ s1_) rfl rfl (fun _ => rfl) ?_
    refine lenL (α := Int) rfl rfl ti22 rfl ?_
    refine pu (v := .sc _) rfl rfl (fun _ => rfl) ?_
    refine RunC.fin ?_
    refine AWP.loopK' (fun s2 : Int => LS.mk [(0, rowV (α := Int) false s1_), (1, rowV (α := Int) false s2_), (12, .sc (.int .i64 (s1_.length : Int))), (13, .sc (.int .i64 s2))] (lblks 0 []) 0) (fun z3 : Unit => LS.mk [] (lblks 0 []) 0) (slices_Equal_Int.l1 s1_ s2_) hR (s0 := 0) (Weak.turnL [] [] rfl rfl (tc trR1 (tc trR1 (tc (.sc _) (tc (.sc _) tn)))) mn) (fun s2 o2 hR hE2 => ?_) fun z3 hR => ?_
    · unfold slices_Equal_Int.l1 at hR
      refine AWP.sq ?_
      refine AWP.rgC 4 rfl rfl ?_
      refine pu (v := .sc _) rfl rfl (fun _ => rfl) ?_
      refine RunC.fin ?_
      refine AWP.sq ?_
      refine AWP.cd hR rfl (fun h4 hR => ?_) fun h4 hR => ?_
      · refine AWP.skip ?_
        refine skT ?_
        refine AWP.sq ?_
        refine AWP.block ?_
        refine AWP.sq ?_
        refine AWP.rgC 12 rfl rfl ?_
        refine pu (v := .sc _) rfl rfl (fun _ => rfl) ?_
        refine pu (v := .sc _) rfl rfl (fun _ => rfl) ?_
        refine RunC.fin ?_
        refine AWP.sq ?_
        refine AWP.rgD 48 [0, 0, 3, 7, 0, 0, 48, 112, 255] ⟨[], [none, none, none, some [], none, none, none, some [], none]⟩ hmix (by kernel_rfl) rfl rfl ?_
        refine pu (v := rowV _ s1_) rfl rfl (fun _ => rfl) ?_
        refine pu (v := .sc _) rfl rfl (fun _ => rfl) ?_
        obtain ⟨h5, hR⟩ := chkE hR
        refine ixL (α := Int) rfl rfl rfl ti22 rfl ti3 rfl h5 ?_
        refine ldR (v := .sc _) rfl rfl ti3 rfl ?_
        refine pu (v := rowV _ s2_) rfl rfl (fun _ => rfl) ?_
        refine pu (v := .sc _) rfl rfl (fun _ => rfl) ?_
        obtain ⟨h6, hR⟩ := chkE hR
        refine ixL (α := Int) rfl rfl rfl ti22 rfl ti3 rfl h6 ?_
        refine ldR (v := .sc _) rfl rfl ti3 rfl ?_
        refine pu (v := .sc _) rfl rfl (fun _ => rfl) ?_
        refine RunC.fin ?_
        refine AWP.cd hR rfl (fun h7 hR => ?_) fun h7 hR => ?_
        · refine AWP.sq ?_
          refine AWP.rgC 52 rfl rfl ?_
          refine pu (v := .sc _) rfl rfl (fun _ => rfl) ?_
          refine RunC.fin ?_
          refine AWP.ret ?_
          refine rtB ?_
          refine rtT ?_
          refine rtT ?_
          refine rtB (rtT ?_)
          replace hR := escL hR hE2
          refine rtT ?_
          have hR := Option.some.inj hR; subst hR
          exact hQ _ _ (LS.mk [(4, .sc (.bool false))] (lblks 0 []) 0) (.sc (.bool false)) [] (.inr rfl) (Weak.turnL [] [] rfl rfl (tc (.sc _) tn) mn) (ro1 (rvT (v := .sc (.bool false)) rfl)) rfl rfl (.sc _) pn
        · refine AWP.skip ?_
          refine skB ?_
          refine skT ?_
          refine AWP.rgC 56 rfl rfl ?_
          refine pu (v := .sc _) rfl rfl (fun _ => rfl) ?_
          refine pu (v := .sc _) rfl rfl (fun _ => rfl) ?_
          refine RunC.fin ?_
          refine ⟨(w6 (s2 + 1)), (Option.some.inj hR).symm, ?_⟩
          exact Weak.turnL [] [] rfl rfl (tc trR1 (tc trR1 (tc (.sc _) (tc (.sc _) tn)))) mn
      · refine AWP.exit ?_
        refine exT ?_
        refine exT ?_
        refine exH (skT ?_)
        refine ⟨(), (Option.some.inj hR).symm, ?_⟩
        exact Weak.turnL [] [] rfl rfl tn mn
    · refine skT ?_
      refine AWP.sq ?_
      refine AWP.rgC 4 rfl rfl ?_
      refine pu (v := .sc _) rfl rfl (fun _ => rfl) ?_
      refine RunC.fin ?_
      refine AWP.ret ?_
      have hR := Option.some.inj hR; subst hR
      exact hQ _ _ (LS.mk [(4, .sc (.bool true))] (lblks 0 []) 0) (.sc (.bool true)) [] (.inr rfl) (Weak.turnL [] [] rfl rfl (tc (.sc _) tn) mn) (ro1 (rvT (v := .sc (.bool true)) rfl)) rfl rfl (.sc _) pn
theorem ok12 (a : Cells) (b : Cells) (r : Bool) (hR : spykeep4_same a b = some r) : FnP Try.prog 12 [aggV false a, aggV false b] (.sc (.bool r)) := by
  refine fnP_of (FnX.walk Try.func12 rfl 24 0 (by simp [Try.ntmps12]) rfl fun W S F Q hQ => ?_)
  unfold spykeep4_same at hR
  refine AWP.sq ?_
  refine AWP.rgC 12 rfl rfl ?_
  refine bx (cs := _) 0 rfl rfl rfl ?_
  refine bx (cs := _) 4 rfl rfl rfl ?_
  refine pu (v := .sc _) rfl rfl (fun _ => rfl) ?_
  refine RunC.fin ?_
  refine AWP.joinX (fun z1 : Bool => LS.mk [(4, .sc (.bool z1))] (lblks 0 []) 0) hR (fun o1 hR => ?_) fun z1 hR => ?_
  · refine AWP.rgC 92 rfl rfl ?_
    refine fa rfl rfl ti33 rfl rfl ti3 rfl ?_
    refine ldB (v := .sc _) rfl rfl rfl rfl ti3 rfl rfl ?_
    refine fa rfl rfl ti33 rfl rfl ti3 rfl ?_
    refine ldB (v := .sc _) rfl rfl rfl rfl ti3 rfl rfl ?_
    refine pu (v := .sc _) rfl rfl (fun _ => rfl) ?_
    refine pu (v := .sc _) rfl rfl (fun _ => rfl) ?_
    refine brR hR (fun h2 hR => ?_) fun h2 hR => ?_
    · refine fa (wtG rfl rfl rfl h2) rfl ti33 rfl rfl ti3 rfl ?_
      refine ldB (v := .sc _) (wtG rfl rfl rfl h2) rfl rfl rfl ti3 rfl rfl ?_
      refine fa (wtG rfl rfl rfl h2) rfl ti33 rfl rfl ti3 rfl ?_
      refine ldB (v := .sc _) (wtG rfl rfl rfl h2) rfl rfl rfl ti3 rfl rfl ?_
      refine pu (v := .sc _) (wtG rfl rfl rfl h2) rfl (fun _ => rfl) ?_
      refine pkT (v := .sc (.bool (a.H == b.H))) rfl rfl h2 rfl ?_
      refine pu (v := .sc _) rfl rfl (fun _ => rfl) ?_
      refine brR hR (fun h3 hR => ?_) fun h3 hR => ?_
      · refine fa (wtG rfl rfl rfl h3) rfl ti33 rfl rfl ti31 rfl ?_
        refine ldB (v := rowV _ a.At) (wtG rfl rfl rfl h3) rfl rfl rfl ti31 rfl rfl ?_
        refine fa (wtG rfl rfl rfl h3) rfl ti33 rfl rfl ti31 rfl ?_
        refine ldB (v := rowV _ b.At) (wtG rfl rfl rfl h3) rfl rfl rfl ti31 rfl rfl ?_
        obtain ⟨r4, hr4, hR⟩ := bindE hR
        refine cls [] (wtG rfl rfl rfl h3) rfl cb25 (ok25 a.At b.At _ hr4) (.cons ldR' (.cons ldR' (.nil))) (.inr rfl) rfl ?_
        refine pkT (v := .sc (.bool r4)) rfl rfl h3 rfl ?_
        refine pu (v := .sc _) rfl rfl (fun _ => rfl) ?_
        refine RunC.fin ?_
        have hR := Option.some.inj hR; subst hR
        exact Weak.turnL [] [] rfl rfl (tc (.sc _) tn) mn
      · refine sk (skW rfl rfl rfl h3) ?_
        refine sk (skW rfl rfl rfl h3) ?_
        refine sk (skW rfl rfl rfl h3) ?_
        refine sk (skW rfl rfl rfl h3) ?_
        refine sk (skW rfl rfl rfl h3) ?_
        refine pkF (v := .sc (.bool false)) rfl rfl h3 rfl ?_
        refine pu (v := .sc _) rfl rfl (fun _ => rfl) ?_
        refine RunC.fin ?_
        have hR := Option.some.inj hR; subst hR
        exact Weak.turnL [] [] rfl rfl (tc (.sc _) tn) mn
    · refine sk (skW rfl rfl rfl h2) ?_
      refine sk (skW rfl rfl rfl h2) ?_
      refine sk (skW rfl rfl rfl h2) ?_
      refine sk (skW rfl rfl rfl h2) ?_
      refine sk (skW rfl rfl rfl h2) ?_
      refine pkF (v := .sc (.bool false)) rfl rfl h2 rfl ?_
      refine pu (v := .sc _) rfl rfl (fun _ => rfl) ?_
      refine sk (skW rfl rfl rfl rfl) ?_
      refine sk (skW rfl rfl rfl rfl) ?_
      refine sk (skW rfl rfl rfl rfl) ?_
      refine sk (skW rfl rfl rfl rfl) ?_
      refine sk (skW rfl rfl rfl rfl) ?_
      refine pkF (v := .sc (.bool false)) rfl rfl rfl rfl ?_
      refine pu (v := .sc _) rfl rfl (fun _ => rfl) ?_
      refine RunC.fin ?_
      have hR := Option.some.inj hR; subst hR
      exact Weak.turnL [] [] rfl rfl (tc (.sc _) tn) mn
  · refine AWP.ret ?_
    have hR := Option.some.inj hR; subst hR
    exact hQ _ _ (LS.mk [(4, .sc (.bool z1))] (lblks 0 []) 0) (.sc (.bool z1)) [] (.inr rfl) (Weak.turnL [] [] rfl rfl (tc (.sc _) tn) mn) (ro1 (rvT (v := .sc (.bool z1)) rfl)) rfl rfl (.sc _) pn
theorem ok11 (c : Cells) (k : differ_Kernel) (r : Cells × Int) (hR : differ_Blur c k = some r) : FnP Try.prog 11 [aggV false c, aggV false k] (.tup [aggV (α := Cells) true r.1, .sc (.int .i64 r.2)]) := by
  refine fnP_of (FnX.walk Try.func11 rfl 52 0 (by simp [Try.ntmps11]) rfl fun W S F Q hQ => ?_)
  unfold differ_Blur at hR
  refine AWP.sq ?_
  refine AWP.rgC 16 rfl rfl ?_
  refine bx (cs := _) 0 rfl rfl rfl ?_
  refine bx (cs := _) 4 rfl rfl rfl ?_
  refine al (cs := [.sc (.int .i64 0), .sc (.int .i64 0), .sc (.slice none 0 0)]) 8 rfl rfl ti33 rfl rfl ?_
  refine pu (v := .sc _) rfl rfl (fun _ => rfl) ?_
  refine RunC.fin ?_
  refine AWP.sq ?_
  refine AWP.sq ?_
  refine AWP.rgC 28 rfl rfl ?_
  refine ldB (v := .agg _) rfl rfl rfl rfl ti33 rfl rfl ?_
  obtain ⟨r1, hr1, hR⟩ := bindE hR
  refine cls [] rfl rfl cb22 (ok22 c _ hr1) (.cons (.agg (.cons (.sc _) (.cons (.sc _) (.cons ldR' (.nil)))) rfl) (.nil)) (.inr rfl) rfl ?_
  refine pu (v := .sc _) rfl rfl (fun _ => rfl) ?_
  refine RunC.fin ?_
  refine AWP.sq ?_
  refine AWP.rgC 36 rfl rfl ?_
  refine pu (v := .sc _) rfl rfl (fun _ => rfl) ?_
  refine pu (v := .sc _) rfl rfl (fun _ => rfl) ?_
  refine RunC.fin ?_
  refine AWP.cd hR rfl (fun h2 hR => ?_) fun h2 hR => ?_
  · refine AWP.sq ?_
    refine AWP.rgC 52 rfl rfl ?_
    refine bu (cs := [.sc (.int .i64 0), .sc (.int .i64 0), .sc (.slice none 0 0)]) rfl bt33 rfl ?_
    refine pu (v := .sc _) rfl rfl (fun _ => rfl) ?_
    refine stB (cs' := [.sc (.int .i64 0), .sc (.int .i64 0), .sc (.slice none 0 0)]) rfl rfl rfl rfl ti33 rfl rfl rfl rfl rfl ?_
    refine pu (v := .sc _) rfl rfl (fun _ => rfl) ?_
    refine RunC.fin ?_
    refine AWP.ret ?_
    refine rtT ?_
    have hR := Option.some.inj hR; subst hR
    exact hQ _ _ (LS.mk [(4, .ptr 0 0 0), (5, .sc (.int .i64 r1))] (lblks 0 [boxB (α := Cells) true (Cells.mk 0 0 [])]) 1) (.tup [aggV (α := Cells) true (Cells.mk 0 0 []), .sc (.int .i64 r1)]) [] (.inr rfl) (Weak.turnL [(8, 0)] [] rfl rfl (tc (trP' rfl rfl rfl rfl) (tc (.sc _) tn)) (mc rfl (.box rfl (.cons (.sc _) (.cons (.sc _) (.cons trN (.nil)))) rfl) mn)) (ro2 (rvC (v := aggV (α := Cells) true (Cells.mk 0 0 [])) rfl rfl ti33 rfl) (rvT (v := .sc (.int .i64 r1)) rfl)) rfl rfl (.tup (.cons ldA (.cons (.sc _) .nil))) pn
  · refine AWP.skip ?_
    refine skT ?_
    refine AWP.sq ?_
    refine AWP.sq ?_
    refine AWP.rgC 48 rfl rfl ?_
    refine ldB (v := .agg _) rfl rfl rfl rfl ti36 rfl rfl ?_
    obtain ⟨r3, hr3, hR⟩ := bindE hR
    refine cls [] rfl rfl cb15 (ok15 k _ hr3) (.cons (.agg (.cons (.sc _) (.cons (.sc _) (.cons ldR' (.nil)))) rfl) (.nil)) (.inr rfl) rfl ?_
    refine pu (v := .sc _) rfl rfl (fun _ => rfl) ?_
    refine RunC.fin ?_
    refine AWP.sq ?_
    refine AWP.rgC 56 rfl rfl ?_
    refine pu (v := .sc _) rfl rfl (fun _ => rfl) ?_
    refine pu (v := .sc _) rfl rfl (fun _ => rfl) ?_
    refine RunC.fin ?_
    refine AWP.cd hR rfl (fun h4 hR => ?_) fun h4 hR => ?_
    · refine AWP.sq ?_
      refine AWP.rgC 72 rfl rfl ?_
      refine bu (cs := [.sc (.int .i64 0), .sc (.int .i64 0), .sc (.slice none 0 0)]) rfl bt33 rfl ?_
      refine pu (v := .sc _) rfl rfl (fun _ => rfl) ?_
      refine stB (cs' := [.sc (.int .i64 0), .sc (.int .i64 0), .sc (.slice none 0 0)]) rfl rfl rfl rfl ti33 rfl rfl rfl rfl rfl ?_
      refine pu (v := .sc _) rfl rfl (fun _ => rfl) ?_
      refine RunC.fin ?_
      refine AWP.ret ?_
      refine rtT ?_
      have hR := Option.some.inj hR; subst hR
      exact hQ _ _ (LS.mk [(4, .ptr 0 0 0), (5, .sc (.int .i64 r3))] (lblks 0 [boxB (α := Cells) true (Cells.mk 0 0 [])]) 1) (.tup [aggV (α := Cells) true (Cells.mk 0 0 []), .sc (.int .i64 r3)]) [] (.inr rfl) (Weak.turnL [(8, 0)] [] rfl rfl (tc (trP' rfl rfl rfl rfl) (tc (.sc _) tn)) (mc rfl (.box rfl (.cons (.sc _) (.cons (.sc _) (.cons trN (.nil)))) rfl) mn)) (ro2 (rvC (v := aggV (α := Cells) true (Cells.mk 0 0 [])) rfl rfl ti33 rfl) (rvT (v := .sc (.int .i64 r3)) rfl)) rfl rfl (.tup (.cons ldA (.cons (.sc _) .nil))) pn
    · refine AWP.skip ?_
      refine skT ?_
      refine AWP.sq ?_
      refine AWP.rgC 84 rfl rfl ?_
      refine fa rfl rfl ti33 rfl rfl ti3 rfl ?_
      refine ldB (v := .sc _) rfl rfl rfl rfl ti3 rfl rfl ?_
      refine fa rfl rfl ti33 rfl rfl ti3 rfl ?_
      refine ldB (v := .sc _) rfl rfl rfl rfl ti3 rfl rfl ?_
      refine bu (cs := [.sc (.int .i64 c.W), .sc (.int .i64 c.H), .sc (.slice none 0 0)]) rfl bt33 rfl ?_
      refine al (cs := [.sc (.int .i64 0), .sc (.int .i64 0), .sc (.slice none 0 0)]) 76 rfl rfl ti33 rfl rfl ?_
      refine stB (cs' := [.sc (.int .i64 c.W), .sc (.int .i64 c.H), .sc (.slice none 0 0)]) rfl rfl rfl rfl ti33 rfl rfl rfl rfl rfl ?_
      refine RunC.fin ?_
      refine AWP.sq ?_
      refine AWP.sq ?_
      refine AWP.rgC 100 rfl rfl ?_
      refine fa rfl rfl ti33 rfl rfl ti31 rfl ?_
      refine ldB (v := rowV _ c.At) rfl rfl rfl rfl ti31 rfl rfl ?_
      refine lenL (α := Bound) rfl rfl ti31 rfl ?_
      refine pu (v := .sc _) rfl rfl (fun _ => rfl) ?_
      refine RunC.fin ?_
      refine AWP.nilB Bound 76 2 49 rfl rfl (cs' := [.sc (.int .i64 c.W), .sc (.int .i64 c.H), slV Bound 100 0 0 0]) rfl ?_
      refine AWP.loopJ (fun s5 : (List Bound) × Int => LS.mk [(2, .ptr 0 0 0), (3, .ptr 1 0 0), (4, .ptr 2 0 0), (8, .ptr 3 0 0), (29, .sc (.int .i64 (c.At.length : Int))), (30, .sc (.int .i64 s5.2))] (lblks 0 [boxB (α := Cells) false c, boxB (α := differ_Kernel) false k, .box [.sc (.int .i64 0), .sc (.int .i64 0), .sc (.slice none 0 0)], .box [.sc (.int .i64 c.W), .sc (.int .i64 c.H), slV Bound 4 0 0 s5.1.length], arrB (α := Bound) 49 0 true s5.1]) 5) (fun z6 : (List Bound) => LS.mk [(4, .ptr 0 0 0), (8, .ptr 1 0 0)] (lblks 0 [.box [.sc (.int .i64 0), .sc (.int .i64 0), .sc (.slice none 0 0)], .box [.sc (.int .i64 c.W), .sc (.int .i64 c.H), slV Bound 2 0 0 z6.length], arrB (α := Bound) 49 0 true z6]) 3) (differ_Blur.l1 c k) hR (s0 := (([] : List Bound), 0)) (Weak.turnL [(0, 0), (4, 0), (8, 0), (76, 0), (100, 0)] [] rfl rfl (tc (trP' rfl rfl rfl rfl) (tc (trP' rfl rfl rfl rfl) (tc (trP' rfl rfl rfl rfl) (tc (trP' rfl rfl rfl rfl) (tc (.sc _) (tc (.sc _) tn)))))) (mc rfl (.box rfl (.cons (.sc _) (.cons (.sc _) (.cons trR1 (.nil)))) rfl) (mc rfl (.box rfl (.cons (.sc _) (.cons (.sc _) (.cons trR1 (.nil)))) rfl) (mc rfl (.box rfl (.cons (.sc _) (.cons (.sc _) (.cons (.sc _) (.nil)))) rfl) (mc rfl (.box rfl (.cons (.sc _) (.cons (.sc _) (.cons (trS' rfl rfl rfl rfl rfl) (.nil)))) rfl) (mc rfl (btrA' rfl) mn)))))) (fun s5 o5 hR => ?_) fun z6 hR => ?_
      · unfold differ_Blur.l1 at hR
        refine AWP.sq ?_
        refine AWP.rgC 9 rfl rfl ?_
        refine pu (v := .sc _) rfl rfl (fun _ => rfl) ?_
        refine RunC.fin ?_
        refine AWP.sq ?_
        refine AWP.cd hR rfl (fun h7 hR => ?_) fun h7 hR => ?_
        · refine AWP.skip ?_
          refine skT ?_
          refine AWP.sq ?_
          refine AWP.block ?_
          refine AWP.sq ?_
          refine AWP.rgC 17 rfl rfl ?_
          refine pu (v := .sc _) rfl rfl (fun _ => rfl) ?_
          refine pu (v := .sc _) rfl rfl (fun _ => rfl) ?_
          refine RunC.fin ?_
          refine AWP.rgD 89 [0, 1, 0, 0, 0, 0, 32, 112, 0, 0, 512, 1792, 4092, 8188, 16380, 32767, 65535, 131071] ⟨[], [none, some [3], some [0], some [1], none, none, some [0], none, none, none, some [0], none, none, none, none, some [4, 73], none, some [3]]⟩ hmix (by kernel_rfl) rfl rfl ?_
          refine fa rfl rfl ti33 rfl rfl ti31 rfl ?_
          refine ldB (v := slV Bound _ _ _ _) rfl rfl rfl rfl ti31 rfl rfl ?_
          refine ldB (v := .agg _) rfl rfl rfl rfl ti33 rfl rfl ?_
          refine ldB (v := .agg _) rfl rfl rfl rfl ti36 rfl rfl ?_
          refine pu (v := .sc _) rfl rfl (fun _ => rfl) ?_
          refine fa rfl rfl ti33 rfl rfl ti3 rfl ?_
          refine ldB (v := .sc _) rfl rfl rfl rfl ti3 rfl rfl ?_
          obtain ⟨h8, hR⟩ := chkE hR
          refine rm rfl rfl rfl h8 rfl ?_
          refine pu (v := .sc _) rfl rfl (fun _ => rfl) ?_
          refine fa rfl rfl ti33 rfl rfl ti3 rfl ?_
          refine ldB (v := .sc _) rfl rfl rfl rfl ti3 rfl rfl ?_
          refine qu rfl rfl rfl h8 rfl ?_
          obtain ⟨r9, hr9, hR⟩ := bindE hR
          refine cls [] rfl rfl cb24 (ok24 c k (Int.tmod s5.2 c.W) (w6 (Int.tdiv s5.2 c.W)) _ hr9) (.cons (.agg (.cons (.sc _) (.cons (.sc _) (.cons ldR' (.nil)))) rfl) (.cons (.agg (.cons (.sc _) (.cons (.sc _) (.cons ldR' (.nil)))) rfl) (.cons (.sc _) (.cons (.sc _) (.nil))))) (.inr rfl) rfl ?_
          obtain ⟨r10, hr10, hR⟩ := bindE hR
          refine cls [] rfl rfl cb23 (ok23 r9 _ hr10) (.cons (.agg (.cons (.sc _) (.cons (.sc _) (.cons (.sc _) (.nil)))) rfl) (.nil)) (.inr rfl) rfl ?_
          refine bs (α := Bound) 73 true ([r10] : List Bound) rfl rfl ti31 rfl ti49 rfl rfl rfl rfl rfl ?_
          obtain ⟨h11, hR⟩ := chkE hR
          refine ap' (α := Bound) (nw := true) (xs := s5.1) (ys := ([r10] : List Bound)) rfl rfl rfl rfl (srcS' rfl rfl rfl) ti31 rfl ti49 rfl h11 rfl ?_
          refine fa rfl rfl ti33 rfl rfl ti31 rfl ?_
          refine stB (cs' := [.sc (.int .i64 c.W), .sc (.int .i64 c.H), slV Bound 4 1 0 (s5.1 ++ ([r10] : List Bound)).length]) rfl rfl rfl rfl ti31 rfl rfl rfl rfl rfl ?_
          refine RunC.blk ?_
          refine RunC.fin ?_
          refine AWP.rgC 97 rfl rfl ?_
          refine pu (v := .sc _) rfl rfl (fun _ => rfl) ?_
          refine pu (v := .sc _) rfl rfl (fun _ => rfl) ?_
          refine RunC.fin ?_
          refine ⟨(s5.1 ++ ([r10] : List Bound), w6 (s5.2 + 1)), (Option.some.inj hR).symm, ?_⟩
          exact Weak.turnL [(0, 0), (1, 0), (2, 0), (3, 0), (4, 0)] [] rfl rfl (tc (trP' rfl rfl rfl rfl) (tc (trP' rfl rfl rfl rfl) (tc (trP' rfl rfl rfl rfl) (tc (trP' rfl rfl rfl rfl) (tc (.sc _) (tc (.sc _) tn)))))) (mc rfl (.box rfl (.cons (.sc _) (.cons (.sc _) (.cons trR1 (.nil)))) rfl) (mc rfl (.box rfl (.cons (.sc _) (.cons (.sc _) (.cons trR1 (.nil)))) rfl) (mc rfl (.box rfl (.cons (.sc _) (.cons (.sc _) (.cons (.sc _) (.nil)))) rfl) (mc rfl (.box rfl (.cons (.sc _) (.cons (.sc _) (.cons (trS' rfl rfl rfl rfl rfl) (.nil)))) rfl) (mc rfl (btrA' rfl) mn)))))
        · refine AWP.exit ?_
          refine exT ?_
          refine exT ?_
          refine exH (skT ?_)
          refine ⟨s5.1, (Option.some.inj hR).symm, ?_⟩
          exact Weak.turnL [(2, 0), (3, 0), (4, 0)] [] rfl rfl (tc (trP' rfl rfl rfl rfl) (tc (trP' rfl rfl rfl rfl) tn)) (mc rfl (.box rfl (.cons (.sc _) (.cons (.sc _) (.cons (.sc _) (.nil)))) rfl) (mc rfl (.box rfl (.cons (.sc _) (.cons (.sc _) (.cons (trS' rfl rfl rfl rfl rfl) (.nil)))) rfl) (mc rfl (btrA' rfl) mn)))
      · refine skT ?_
        refine AWP.sq ?_
        refine AWP.rgC 15 rfl rfl ?_
        refine ldB (v := .agg _) rfl rfl rfl rfl ti33 rfl rfl ?_
        refine stB (cs' := [.sc (.int .i64 c.W), .sc (.int .i64 c.H), slV Bound 2 0 0 z6.length]) rfl rfl rfl rfl ti33 rfl rfl rfl rfl rfl ?_
        refine pu (v := .sc _) rfl rfl (fun _ => rfl) ?_
        refine RunC.fin ?_
        refine AWP.ret ?_
        have hR := Option.some.inj hR; subst hR
        exact hQ _ _ (LS.mk [(4, .ptr 0 0 0), (5, .sc (.int .i64 0))] (lblks 0 [boxB (α := Cells) true (Cells.mk c.W c.H z6)]) 1) (.tup [aggV (α := Cells) true (Cells.mk c.W c.H z6), .sc (.int .i64 0)]) [] (.inr rfl) (Weak.turnL [(0, 0)] [2] rfl rfl (tc (trP' rfl rfl rfl rfl) (tc (.sc _) tn)) (mc rfl (.box rfl (.cons (.sc _) (.cons (.sc _) (.cons (trF' rfl rfl id rfl) (.nil)))) rfl) mn)) (ro2 (rvC (v := aggV (α := Cells) true (Cells.mk c.W c.H z6)) rfl rfl ti33 rfl) (rvT (v := .sc (.int .i64 0)) rfl)) rfl rfl (.tup (.cons ldA (.cons (.sc _) .nil))) pn
theorem ok10 (r : Bool) (hR : spykeep4_blurred = some r) : FnP Try.prog 10 [] (.sc (.bool r)) := by
  refine fnP_of (FnX.walk Try.func10 rfl 38 0 (by simp [Try.ntmps10]) rfl fun W S F Q hQ => ?_)
  unfold spykeep4_blurred at hR
  refine AWP.sq ?_
  refine AWP.rgC 4 rfl rfl ?_
  refine pu (v := .sc _) rfl rfl (fun _ => rfl) ?_
  refine RunC.fin ?_
  refine AWP.sq ?_
  refine AWP.rgC 28 rfl rfl ?_
  refine bu (cs := [.sc (.int .i64 3), .sc (.int .i64 4), .sc (.bool false)]) rfl bt49 rfl ?_
  refine bu (cs := [.sc (.int .i64 5), .sc (.int .i64 5), .sc (.bool false)]) rfl bt49 rfl ?_
  refine bs (α := Bound) 12 true ([Bound.mk 3 4 false, Bound.mk 5 5 false] : List Bound) rfl rfl ti31 rfl ti49 rfl rfl rfl rfl rfl ?_
  refine bu (cs := [.sc (.int .i64 2), .sc (.int .i64 1), slV Bound 12 0 0 ([Bound.mk 3 4 false, Bound.mk 5 5 false] : List Bound).length]) rfl bt33 rfl ?_
  refine al (cs := [.sc (.int .i64 0), .sc (.int .i64 0), .sc (.slice none 0 0)]) 20 rfl rfl ti33 rfl rfl ?_
  refine stB (cs' := [.sc (.int .i64 2), .sc (.int .i64 1), slV Bound 12 0 0 ([Bound.mk 3 4 false, Bound.mk 5 5 false] : List Bound).length]) rfl rfl rfl rfl ti33 rfl rfl rfl rfl rfl ?_
  refine RunC.fin ?_
  refine AWP.sq ?_
  refine AWP.rgC 68 rfl rfl ?_
  refine ldB (v := .agg _) rfl rfl rfl rfl ti33 rfl rfl ?_
  refine bs (α := Int) 32 true ([1, 2] : List Int) rfl rfl ti22 rfl ti3 rfl rfl rfl rfl rfl ?_
  refine bu (cs := [.sc (.int .i64 2), .sc (.int .i64 1), slV Int 32 0 0 ([1, 2] : List Int).length]) rfl bt36 rfl ?_
  obtain ⟨r1, hr1, hR⟩ := bindE hR
  refine cls [12, 32] rfl rfl cb11 (ok11 (Cells.mk 2 1 ([Bound.mk 3 4 false, Bound.mk 5 5 false] : List Bound)) (differ_Kernel.mk 2 1 ([1, 2] : List Int)) _ hr1) (.cons (.agg (.cons (.sc _) (.cons (.sc _) (.cons (ldS' rfl rfl rfl rfl) (.nil)))) rfl) (.cons (.agg (.cons (.sc _) (.cons (.sc _) (.cons (ldS' rfl rfl rfl rfl) (.nil)))) rfl) (.nil))) (.inl (by first | rfl | exact freshR | exact freshA | (simp only [V.fresh, V.freshs, freshR, freshA, Bool.and_self]))) rfl ?_
  refine pu (v := .tup _) rfl rfl (fun _ => rfl) ?_
  refine pu (v := .agg _) rfl rfl (fun _ => rfl) ?_
  refine pu (v := .sc _) rfl rfl (fun _ => rfl) ?_
  refine al (cs := [.sc (.int .i64 0), .sc (.int .i64 0), .sc (.slice none 0 0)]) 56 rfl rfl ti33 rfl rfl ?_
  refine stB (cs' := [.sc (.int .i64 r1.1.W), .sc (.int .i64 r1.1.H), rowV (α := Bound) true r1.1.At]) rfl rfl rfl rfl ti33 rfl rfl rfl rfl rfl ?_
  refine pu (v := .sc _) rfl rfl (fun _ => rfl) ?_
  refine RunC.fin ?_
  refine AWP.joinX (fun z2 : Bool => LS.mk [(0, .sc (.bool z2))] (lblks 0 []) 0) hR (fun o2 hR => ?_) fun z2 hR => ?_
  · refine AWP.rgC 164 rfl rfl ?_
    refine pu (v := .sc _) rfl rfl (fun _ => rfl) ?_
    refine pu (v := .sc _) rfl rfl (fun _ => rfl) ?_
    refine pu (v := .sc _) rfl rfl (fun _ => rfl) ?_
    refine brR hR (fun h3 hR => ?_) fun h3 hR => ?_
    · refine fa (wtG rfl rfl rfl h3) rfl ti33 rfl rfl ti31 rfl ?_
      refine ldB (v := rowV _ r1.1.At) (wtG rfl rfl rfl h3) rfl rfl rfl ti31 rfl rfl ?_
      refine lenL (α := Bound) (wtG rfl rfl rfl h3) rfl ti31 rfl ?_
      refine pu (v := .sc _) (wtG rfl rfl rfl h3) rfl (fun _ => rfl) ?_
      refine pkT (v := .sc (.bool ((r1.1.At.length : Int) == 2))) rfl rfl h3 rfl ?_
      refine pu (v := .sc _) rfl rfl (fun _ => rfl) ?_
      refine brR hR (fun h4 hR => ?_) fun h4 hR => ?_
      · refine fa (wtG rfl rfl rfl h4) rfl ti33 rfl rfl ti31 rfl ?_
        refine ldB (v := rowV _ r1.1.At) (wtG rfl rfl rfl h4) rfl rfl rfl ti31 rfl rfl ?_
        obtain ⟨h5, hR⟩ := chkE hR
        refine ixL (α := Bound) (wtG rfl rfl rfl h4) rfl rfl ti31 rfl ti49 rfl h5 ?_
        refine fr (wtG rfl rfl rfl h4) rfl ti49 rfl rfl ti4 rfl ?_
        refine ldR (v := .sc _) (wtG rfl rfl rfl h4) rfl ti4 rfl ?_
        refine pkT (v := .sc (.bool (gt r1.1.At 0).Unknown)) rfl rfl h4 rfl ?_
        refine pu (v := .sc _) rfl rfl (fun _ => rfl) ?_
        refine brR hR (fun h6 hR => ?_) fun h6 hR => ?_
        · refine fa (wtG rfl rfl rfl h6) rfl ti33 rfl rfl ti31 rfl ?_
          refine ldB (v := rowV _ r1.1.At) (wtG rfl rfl rfl h6) rfl rfl rfl ti31 rfl rfl ?_
          obtain ⟨h7, hR⟩ := chkE hR
          refine ixL (α := Bound) (wtG rfl rfl rfl h6) rfl rfl ti31 rfl ti49 rfl h7 ?_
          refine ldR (v := .agg _) (wtG rfl rfl rfl h6) rfl ti49 rfl ?_
          refine bu (cs := [.sc (.int .i64 11), .sc (.int .i64 13), .sc (.bool false)]) (wtG rfl rfl rfl h6) bt49 rfl ?_
          refine es (cs := [.sc (.int .i64 (gt r1.1.At 1).Lo), .sc (.int .i64 (gt r1.1.At 1).Hi), .sc (.bool (gt r1.1.At 1).Unknown)]) (ds := [.sc (.int .i64 11), .sc (.int .i64 13), .sc (.bool false)]) (wtG rfl rfl rfl h6) rfl rfl qa49 qg49 (qe49 _ _ _ _ _ _) ?_
          refine pkT (v := .sc (.bool (((gt r1.1.At 1).Lo == 11) && (((gt r1.1.At 1).Hi == 13) && (((gt r1.1.At 1).Unknown == false) && (true)))))) rfl rfl h6 rfl ?_
          refine pu (v := .sc _) rfl rfl (fun _ => rfl) ?_
          refine RunC.fin ?_
          have hR := Option.some.inj hR; subst hR
          exact Weak.turnL [] [] rfl rfl (tc (.sc _) tn) mn
        · refine sk (skW rfl rfl rfl h6) ?_
          refine sk (skW rfl rfl rfl h6) ?_
          refine sk (skW rfl rfl rfl h6) ?_
          refine sk (skW rfl rfl rfl h6) ?_
          refine sk (skW rfl rfl rfl h6) ?_
          refine sk (skW rfl rfl rfl h6) ?_
          refine pkF (v := .sc (.bool false)) rfl rfl h6 rfl ?_
          refine pu (v := .sc _) rfl rfl (fun _ => rfl) ?_
          refine RunC.fin ?_
          have hR := Option.some.inj hR; subst hR
          exact Weak.turnL [] [] rfl rfl (tc (.sc _) tn) mn
      · refine sk (skW rfl rfl rfl h4) ?_
        refine sk (skW rfl rfl rfl h4) ?_
        refine sk (skW rfl rfl rfl h4) ?_
        refine sk (skW rfl rfl rfl h4) ?_
        refine sk (skW rfl rfl rfl h4) ?_
        refine pkF (v := .sc (.bool false)) rfl rfl h4 rfl ?_
        refine pu (v := .sc _) rfl rfl (fun _ => rfl) ?_
        refine sk (skW rfl rfl rfl rfl) ?_
        refine sk (skW rfl rfl rfl rfl) ?_
        refine sk (skW rfl rfl rfl rfl) ?_
        refine sk (skW rfl rfl rfl rfl) ?_
        refine sk (skW rfl rfl rfl rfl) ?_
        refine sk (skW rfl rfl rfl rfl) ?_
        refine pkF (v := .sc (.bool false)) rfl rfl rfl rfl ?_
        refine pu (v := .sc _) rfl rfl (fun _ => rfl) ?_
        refine RunC.fin ?_
        have hR := Option.some.inj hR; subst hR
        exact Weak.turnL [] [] rfl rfl (tc (.sc _) tn) mn
    · refine sk (skW rfl rfl rfl h3) ?_
      refine sk (skW rfl rfl rfl h3) ?_
      refine sk (skW rfl rfl rfl h3) ?_
      refine sk (skW rfl rfl rfl h3) ?_
      refine pkF (v := .sc (.bool false)) rfl rfl h3 rfl ?_
      refine pu (v := .sc _) rfl rfl (fun _ => rfl) ?_
      refine sk (skW rfl rfl rfl rfl) ?_
      refine sk (skW rfl rfl rfl rfl) ?_
      refine sk (skW rfl rfl rfl rfl) ?_
      refine sk (skW rfl rfl rfl rfl) ?_
      refine sk (skW rfl rfl rfl rfl) ?_
      refine pkF (v := .sc (.bool false)) rfl rfl rfl rfl ?_
      refine pu (v := .sc _) rfl rfl (fun _ => rfl) ?_
      refine sk (skW rfl rfl rfl rfl) ?_
      refine sk (skW rfl rfl rfl rfl) ?_
      refine sk (skW rfl rfl rfl rfl) ?_
      refine sk (skW rfl rfl rfl rfl) ?_
      refine sk (skW rfl rfl rfl rfl) ?_
      refine sk (skW rfl rfl rfl rfl) ?_
      refine pkF (v := .sc (.bool false)) rfl rfl rfl rfl ?_
      refine pu (v := .sc _) rfl rfl (fun _ => rfl) ?_
      refine RunC.fin ?_
      have hR := Option.some.inj hR; subst hR
      exact Weak.turnL [] [] rfl rfl (tc (.sc _) tn) mn
  · refine AWP.ret ?_
    have hR := Option.some.inj hR; subst hR
    exact hQ _ _ (LS.mk [(0, .sc (.bool z2))] (lblks 0 []) 0) (.sc (.bool z2)) [] (.inr rfl) (Weak.turnL [] [] rfl rfl (tc (.sc _) tn) mn) (ro1 (rvT (v := .sc (.bool z2)) rfl)) rfl rfl (.sc _) pn
theorem ok19 (j : Int) (p1 : Int) (p2 : differ_Kernel) (p3 : differ_Kernel) (p4 : differ_Kernel) (r : Int) (hR : differ_Quotient_1 j p1 p2 p3 p4 = some r) : FnP Try.prog 19 [.sc (.int .i64 j), .rp (Cl.c false p1), .rp (Cl.c false p2), .rp (Cl.c false p3), .rp (Cl.c false p4)] (.sc (.int .i64 r)) := by
  refine fnP_of (FnX.walk Try.func19 rfl 29 0 (by simp [Try.ntmps19]) rfl fun W S F Q hQ => ?_)
  unfold differ_Quotient_1 at hR
  refine AWP.sq ?_
  refine AWP.rgC 4 rfl rfl ?_
  refine pu (v := .sc _) rfl rfl (fun _ => rfl) ?_
  refine RunC.fin ?_
  refine AWP.sq ?_
  refine AWP.rgD 96 [0, 0, 2, 7, 0, 0, 32, 112, 255, 0, 512, 2047, 0, 0, 8192, 28672, 65535, 0, 0, 262144, 917504, 2097151, 4194303] ⟨[], [some [], none, some [], none, none, none, some [], none, none, none, some [], none, some [], none, some [], none, none, none, none, some [], none, none, none]⟩ hmix (by kernel_rfl) rfl rfl ?_
  refine ldR (v := .sc _) rfl rfl ti3 rfl ?_
  refine fr rfl rfl ti36 rfl rfl ti3 rfl ?_
  refine ldR (v := .sc _) rfl rfl ti3 rfl ?_
  obtain ⟨h1, hR⟩ := chkE hR
  refine qu rfl rfl rfl h1 rfl ?_
  refine pu (v := .sc _) rfl rfl (fun _ => rfl) ?_
  refine fr rfl rfl ti36 rfl rfl ti3 rfl ?_
  refine ldR (v := .sc _) rfl rfl ti3 rfl ?_
  obtain ⟨h2, hR⟩ := chkE hR
  refine qu rfl rfl rfl h2 rfl ?_
  refine pu (v := .sc _) rfl rfl (fun _ => rfl) ?_
  refine fr rfl rfl ti36 rfl rfl ti3 rfl ?_
  refine ldR (v := .sc _) rfl rfl ti3 rfl ?_
  obtain ⟨v3, ev3, hR⟩ := letE hR
  refine pu (v := .sc _) rfl rfl (fun _ => puI ev3) ?_
  refine ldR (v := .sc _) rfl rfl ti3 rfl ?_
  refine fr rfl rfl ti36 rfl rfl ti3 rfl ?_
  refine ldR (v := .sc _) rfl rfl ti3 rfl ?_
  refine rm rfl rfl rfl h1 rfl ?_
  refine pu (v := .sc _) rfl rfl (fun _ => rfl) ?_
  refine pu (v := .sc _) rfl rfl (fun _ => rfl) ?_
  refine fr rfl rfl ti36 rfl rfl ti3 rfl ?_
  refine ldR (v := .sc _) rfl rfl ti3 rfl ?_
  refine rm rfl rfl rfl h2 rfl ?_
  refine pu (v := .sc _) rfl rfl (fun _ => rfl) ?_
  refine pu (v := .sc _) rfl rfl (fun _ => rfl) ?_
  refine RunC.fin ?_
  refine AWP.ret ?_
  have hR := Option.some.inj hR; subst hR
  exact hQ _ _ (LS.mk [(6, .sc (.int .i64 (w6 ((w6 (v3 + (Int.tmod p1 p2.W))) + (Int.tmod j p3.W)))))] (lblks 0 []) 0) (.sc (.int .i64 (w6 ((w6 (v3 + (Int.tmod p1 p2.W))) + (Int.tmod j p3.W))))) [] (.inr rfl) (Weak.turnL [] [] rfl rfl (tc (.sc _) tn) mn) (ro1 (rvT (v := .sc (.int .i64 (w6 ((w6 (v3 + (Int.tmod p1 p2.W))) + (Int.tmod j p3.W))))) rfl)) rfl rfl (.sc _) pn
theorem ok17_43 (s : List Int) (r : (List Int)) (hR : slices_Clone_Int s = some r) : FnD Try.prog 17 [] [rowV false s] (slV Int 0 0 0 r.length) [arrB (α := Int) 3 0 true r] := by
  refine FnX.walk Try.func17 rfl 8 0 (by simp [Try.ntmps17]) rfl fun W S F Q hQ => ?_
  unfold slices_Clone_Int at hR
  refine AWP.sq ?_
  refine AWP.rgC 4 rfl rfl ?_
  refine pu (v := .sc _) rfl rfl (fun _ => rfl) ?_
  refine RunC.fin ?_
  refine AWP.sq ?_
  refine AWP.joinX (fun z1 : Bool => LS.mk [(0, rowV (α := Int) false s), (4, .sc (.bool z1))] (lblks 0 []) 0) hR (fun o1 hR => ?_) fun z1 hR => ?_
  · refine AWP.rgC 12 rfl rfl ?_
    refine pu (v := rowV _ s) rfl rfl (fun _ => rfl) ?_
    refine nilE hR rfl rfl rfl (by rw [ti22]; rfl) (fun hR h2 => ?_) fun hR => ?_
    · refine RunC.fin ?_
      have hR := Option.some.inj hR; subst hR
      exact Weak.turnL [] [] rfl rfl (tc trR1 (tc (.sc _) tn)) mn
    · refine RunC.fin ?_
      have hR := Option.some.inj hR; subst hR
      exact Weak.turnL [] [] rfl rfl (tc trR1 (tc (.sc _) tn)) mn
  · refine AWP.cd hR rfl (fun h3 hR => ?_) fun h3 hR => ?_
    · refine AWP.sq ?_
      refine AWP.rgC 4 rfl rfl ?_
      refine pu (v := .sc _) rfl rfl (fun _ => rfl) ?_
      refine RunC.fin ?_
      refine AWP.nilT Int 2 3 rfl ?_
      refine AWP.ret ?_
      refine rtT ?_
      have hR := Option.some.inj hR; subst hR
      exact hQ _ _ (LS.mk [(2, slV Int 0 0 0 [].length)] (lblks 0 [arrB (α := Int) 3 0 true []]) 1) (slV Int 0 0 0 [].length) [0] (.inr rfl) (Weak.turnL [(4, 0)] [] rfl rfl (tc (trS' rfl rfl rfl rfl rfl) tn) (mc rfl (btrA' rfl) mn)) (ro1 (rvT (v := slV Int 0 0 0 [].length) rfl)) rfl rfl (ldM rfl rfl) (pc rfl bldA pn)
    · refine AWP.skip ?_
      refine skT ?_
      refine AWP.sq ?_
      refine AWP.rgC 16 rfl rfl ?_
      refine bs (α := Int) 0 true ([] : List Int) rfl rfl ti22 rfl ti3 rfl rfl rfl rfl rfl ?_
      refine pu (v := rowV _ s) rfl rfl (fun _ => rfl) ?_
      obtain ⟨h4, hR⟩ := chkE hR
      refine ap' (α := Int) (nw := true) (xs := ([] : List Int)) (ys := s) rfl rfl rfl rfl (srcR2 rfl (fun _ => rfl)) ti22 rfl ti3 rfl h4 rfl ?_
      refine pu (v := slV Int _ _ _ _) rfl rfl (fun _ => rfl) ?_
      refine RunC.fin ?_
      refine AWP.ret ?_
      have hR := Option.some.inj hR; subst hR
      exact hQ _ _ (LS.mk [(2, slV Int 0 0 0 (([] : List Int) ++ s).length)] (lblks 0 [arrB (α := Int) 3 0 true (([] : List Int) ++ s)]) 1) (slV Int 0 0 0 (([] : List Int) ++ s).length) [0] (.inr rfl) (Weak.turnL [(0, 0)] [] rfl rfl (tc (trS' rfl rfl rfl rfl rfl) tn) (mc rfl (btrA' rfl) mn)) (ro1 (rvT (v := slV Int 0 0 0 (([] : List Int) ++ s).length) rfl)) rfl rfl (ldM rfl rfl) (pc rfl bldA pn)
theorem ok27_44 (s : List Int) (r : Int) (hR : slices_IndexFunc_Int_differ_Quotient_2 s = some r) : FnP Try.prog 27 [rowV false s, .fn (.func 21) []] (.sc (.int .i64 r)) := by
  refine fnP_of (FnX.walk Try.func27 rfl 19 0 (by simp [Try.ntmps27]) rfl fun W S F Q hQ => ?_)
  unfold slices_IndexFunc_Int_differ_Quotient_2 at hR
  refine AWP.sq ?_
  refine AWP.rgC 4 rfl rfl ?_
  refine pu (v := .sc _) rfl rfl (fun _ => rfl) ?_
  refine RunC.fin ?_
  refine AWP.sq ?_
  refine AWP.sq ?_
  refine AWP.rgC 16 rfl rfl ?_
  refine pu (v := rowV _ s) rfl rfl (fun _ => rfl) ?_
  refine lenL (α := Int) rfl rfl ti22 rfl ?_
  refine pu (v := .sc _) rfl rfl (fun _ => rfl) ?_
  refine RunC.fin ?_
  refine AWP.loopK' (fun s1 : Int => LS.mk [(0, rowV (α := Int) false s), (1, .fn (.func 21) []), (7, .sc (.int .i64 (s.length : Int))), (8, .sc (.int .i64 s1))] (lblks 0 []) 0) (fun z2 : Unit => LS.mk [] (lblks 0 []) 0) (slices_IndexFunc_Int_differ_Quotient_2.l1 s) hR (s0 := 0) (Weak.turnL [] [] rfl rfl (tc trR1 (tc (.fn (.nil)) (tc (.sc _) (tc (.sc _) tn)))) mn) (fun s1 o1 hR hE1 => ?_) fun z2 hR => ?_
  · unfold slices_IndexFunc_Int_differ_Quotient_2.l1 at hR
    refine AWP.sq ?_
    refine AWP.rgC 4 rfl rfl ?_
    refine pu (v := .sc _) rfl rfl (fun _ => rfl) ?_
    refine RunC.fin ?_
    refine AWP.sq ?_
    refine AWP.cd hR rfl (fun h3 hR => ?_) fun h3 hR => ?_
    · refine AWP.skip ?_
      refine skT ?_
      refine AWP.sq ?_
      refine AWP.block ?_
      refine AWP.sq ?_
      refine AWP.rgC 12 rfl rfl ?_
      refine pu (v := .sc _) rfl rfl (fun _ => rfl) ?_
      refine pu (v := .sc _) rfl rfl (fun _ => rfl) ?_
      refine RunC.fin ?_
      refine AWP.sq ?_
      refine AWP.rgC 36 rfl rfl ?_
      refine pu (v := .fn _ _) rfl rfl (fun _ => rfl) ?_
      refine pu (v := rowV _ s) rfl rfl (fun _ => rfl) ?_
      refine pu (v := .sc _) rfl rfl (fun _ => rfl) ?_
      obtain ⟨h4, hR⟩ := chkE hR
      refine ixL (α := Int) rfl rfl rfl ti22 rfl ti3 rfl h4 ?_
      refine ldR (v := .sc _) rfl rfl ti3 rfl ?_
      obtain ⟨r5, hr5, hR⟩ := bindE hR
      refine cls [] rfl rfl cb21 (ok21 (gt s s1) _ hr5) (.cons (.sc _) (.nil)) (.inr rfl) rfl ?_
      refine RunC.fin ?_
      refine AWP.cd hR rfl (fun h6 hR => ?_) fun h6 hR => ?_
      · refine AWP.sq ?_
        refine AWP.rgC 44 rfl rfl ?_
        refine pu (v := .sc _) rfl rfl (fun _ => rfl) ?_
        refine pu (v := .sc _) rfl rfl (fun _ => rfl) ?_
        refine RunC.fin ?_
        refine AWP.ret ?_
        refine rtB ?_
        refine rtT ?_
        refine rtT ?_
        refine rtB (rtT ?_)
        replace hR := escL hR hE1
        refine rtT ?_
        have hR := Option.some.inj hR; subst hR
        exact hQ _ _ (LS.mk [(4, .sc (.int .i64 s1))] (lblks 0 []) 0) (.sc (.int .i64 s1)) [] (.inr rfl) (Weak.turnL [] [] rfl rfl (tc (.sc _) tn) mn) (ro1 (rvT (v := .sc (.int .i64 s1)) rfl)) rfl rfl (.sc _) pn
      · refine AWP.skip ?_
        refine skB ?_
        refine skT ?_
        refine AWP.rgC 44 rfl rfl ?_
        refine pu (v := .sc _) rfl rfl (fun _ => rfl) ?_
        refine pu (v := .sc _) rfl rfl (fun _ => rfl) ?_
        refine RunC.fin ?_
        refine ⟨(w6 (s1 + 1)), (Option.some.inj hR).symm, ?_⟩
        exact Weak.turnL [] [] rfl rfl (tc trR1 (tc (.fn (.nil)) (tc (.sc _) (tc (.sc _) tn)))) mn
    · refine AWP.exit ?_
      refine exT ?_
      refine exT ?_
      refine exH (skT ?_)
      refine ⟨(), (Option.some.inj hR).symm, ?_⟩
      exact Weak.turnL [] [] rfl rfl tn mn
  · refine skT ?_
    refine AWP.sq ?_
    refine AWP.rgC 4 rfl rfl ?_
    refine pu (v := .sc _) rfl rfl (fun _ => rfl) ?_
    refine RunC.fin ?_
    refine AWP.ret ?_
    have hR := Option.some.inj hR; subst hR
    exact hQ _ _ (LS.mk [(4, .sc (.int .i64 (-1)))] (lblks 0 []) 0) (.sc (.int .i64 (-1))) [] (.inr rfl) (Weak.turnL [] [] rfl rfl (tc (.sc _) tn) mn) (ro1 (rvT (v := .sc (.int .i64 (-1))) rfl)) rfl rfl (.sc _) pn
theorem ok20 (s : List Int) (r : Bool) (hR : slices_ContainsFunc_Int_differ_Quotient_2 s = some r) : FnP Try.prog 20 [rowV false s, .fn (.func 21) []] (.sc (.bool r)) := by
  refine fnP_of (FnX.walk Try.func20 rfl 9 0 (by simp [Try.ntmps20]) rfl fun W S F Q hQ => ?_)
  unfold slices_ContainsFunc_Int_differ_Quotient_2 at hR
  refine AWP.sq ?_
  refine AWP.rgC 4 rfl rfl ?_
  refine pu (v := .sc _) rfl rfl (fun _ => rfl) ?_
  refine RunC.fin ?_
  refine AWP.sq ?_
  refine AWP.rgC 24 rfl rfl ?_
  refine pu (v := rowV _ s) rfl rfl (fun _ => rfl) ?_
  refine pu (v := .fn _ _) rfl rfl (fun _ => rfl) ?_
  obtain ⟨r1, hr1, hR⟩ := bindE hR
  refine cls [] rfl rfl cb27 (ok27_44 s _ hr1) (.cons ldR' (.cons (.fn (.nil)) (.nil))) (.inr rfl) rfl ?_
  refine pu (v := .sc _) rfl rfl (fun _ => rfl) ?_
  refine pu (v := .sc _) rfl rfl (fun _ => rfl) ?_
  refine RunC.fin ?_
  refine AWP.ret ?_
  have hR := Option.some.inj hR; subst hR
  exact hQ _ _ (LS.mk [(4, .sc (.bool (decide (r1 ≥ 0))))] (lblks 0 []) 0) (.sc (.bool (decide (r1 ≥ 0)))) [] (.inr rfl) (Weak.turnL [] [] rfl rfl (tc (.sc _) tn) mn) (ro1 (rvT (v := .sc (.bool (decide (r1 ≥ 0)))) rfl)) rfl rfl (.sc _) pn
theorem ok9 (a : differ_Kernel) (b : differ_Kernel) (r : differ_Kernel × Int) (hR : differ_Quotient a b = some r) : FnP Try.prog 9 [aggV false a, aggV false b] (.tup [aggV (α := differ_Kernel) true r.1, .sc (.int .i64 r.2)]) := by
  refine fnP_of (FnX.walk Try.func9 rfl 118 0 (by simp [Try.ntmps9]) rfl fun W S F Q hQ => ?_)
  unfold differ_Quotient at hR
  refine AWP.sq ?_
  refine AWP.rgC 16 rfl rfl ?_
  refine bx (cs := _) 0 rfl rfl rfl ?_
  refine bx (cs := _) 4 rfl rfl rfl ?_
  refine al (cs := [.sc (.int .i64 0), .sc (.int .i64 0), .sc (.slice none 0 0)]) 8 rfl rfl ti36 rfl rfl ?_
  refine pu (v := .sc _) rfl rfl (fun _ => rfl) ?_
  refine RunC.fin ?_
  refine AWP.sq ?_
  refine AWP.sq ?_
  refine AWP.rgC 28 rfl rfl ?_
  refine ldB (v := .agg _) rfl rfl rfl rfl ti36 rfl rfl ?_
  obtain ⟨r1, hr1, hR⟩ := bindE hR
  refine cls [] rfl rfl cb15 (ok15 a _ hr1) (.cons (.agg (.cons (.sc _) (.cons (.sc _) (.cons ldR' (.nil)))) rfl) (.nil)) (.inr rfl) rfl ?_
  refine pu (v := .sc _) rfl rfl (fun _ => rfl) ?_
  refine RunC.fin ?_
  refine AWP.sq ?_
  refine AWP.rgC 36 rfl rfl ?_
  refine pu (v := .sc _) rfl rfl (fun _ => rfl) ?_
  refine pu (v := .sc _) rfl rfl (fun _ => rfl) ?_
  refine RunC.fin ?_
  refine AWP.cd hR rfl (fun h2 hR => ?_) fun h2 hR => ?_
  · refine AWP.sq ?_
    refine AWP.rgC 52 rfl rfl ?_
    refine bu (cs := [.sc (.int .i64 0), .sc (.int .i64 0), .sc (.slice none 0 0)]) rfl bt36 rfl ?_
    refine pu (v := .sc _) rfl rfl (fun _ => rfl) ?_
    refine stB (cs' := [.sc (.int .i64 0), .sc (.int .i64 0), .sc (.slice none 0 0)]) rfl rfl rfl rfl ti36 rfl rfl rfl rfl rfl ?_
    refine pu (v := .sc _) rfl rfl (fun _ => rfl) ?_
    refine RunC.fin ?_
    refine AWP.ret ?_
    refine rtT ?_
    have hR := Option.some.inj hR; subst hR
    exact hQ _ _ (LS.mk [(4, .ptr 0 0 0), (5, .sc (.int .i64 r1))] (lblks 0 [boxB (α := differ_Kernel) true (differ_Kernel.mk 0 0 [])]) 1) (.tup [aggV (α := differ_Kernel) true (differ_Kernel.mk 0 0 []), .sc (.int .i64 r1)]) [] (.inr rfl) (Weak.turnL [(8, 0)] [] rfl rfl (tc (trP' rfl rfl rfl rfl) (tc (.sc _) tn)) (mc rfl (.box rfl (.cons (.sc _) (.cons (.sc _) (.cons trN (.nil)))) rfl) mn)) (ro2 (rvC (v := aggV (α := differ_Kernel) true (differ_Kernel.mk 0 0 [])) rfl rfl ti36 rfl) (rvT (v := .sc (.int .i64 r1)) rfl)) rfl rfl (.tup (.cons ldA (.cons (.sc _) .nil))) pn
  · refine AWP.skip ?_
    refine skT ?_
    refine AWP.sq ?_
    refine AWP.sq ?_
    refine AWP.rgC 48 rfl rfl ?_
    refine ldB (v := .agg _) rfl rfl rfl rfl ti36 rfl rfl ?_
    obtain ⟨r3, hr3, hR⟩ := bindE hR
    refine cls [] rfl rfl cb15 (ok15 b _ hr3) (.cons (.agg (.cons (.sc _) (.cons (.sc _) (.cons ldR' (.nil)))) rfl) (.nil)) (.inr rfl) rfl ?_
    refine pu (v := .sc _) rfl rfl (fun _ => rfl) ?_
    refine RunC.fin ?_
    refine AWP.sq ?_
    refine AWP.rgC 56 rfl rfl ?_
    refine pu (v := .sc _) rfl rfl (fun _ => rfl) ?_
    refine pu (v := .sc _) rfl rfl (fun _ => rfl) ?_
    refine RunC.fin ?_
    refine AWP.cd hR rfl (fun h4 hR => ?_) fun h4 hR => ?_
    · refine AWP.sq ?_
      refine AWP.rgC 72 rfl rfl ?_
      refine bu (cs := [.sc (.int .i64 0), .sc (.int .i64 0), .sc (.slice none 0 0)]) rfl bt36 rfl ?_
      refine pu (v := .sc _) rfl rfl (fun _ => rfl) ?_
      refine stB (cs' := [.sc (.int .i64 0), .sc (.int .i64 0), .sc (.slice none 0 0)]) rfl rfl rfl rfl ti36 rfl rfl rfl rfl rfl ?_
      refine pu (v := .sc _) rfl rfl (fun _ => rfl) ?_
      refine RunC.fin ?_
      refine AWP.ret ?_
      refine rtT ?_
      have hR := Option.some.inj hR; subst hR
      exact hQ _ _ (LS.mk [(4, .ptr 0 0 0), (5, .sc (.int .i64 r3))] (lblks 0 [boxB (α := differ_Kernel) true (differ_Kernel.mk 0 0 [])]) 1) (.tup [aggV (α := differ_Kernel) true (differ_Kernel.mk 0 0 []), .sc (.int .i64 r3)]) [] (.inr rfl) (Weak.turnL [(8, 0)] [] rfl rfl (tc (trP' rfl rfl rfl rfl) (tc (.sc _) tn)) (mc rfl (.box rfl (.cons (.sc _) (.cons (.sc _) (.cons trN (.nil)))) rfl) mn)) (ro2 (rvC (v := aggV (α := differ_Kernel) true (differ_Kernel.mk 0 0 [])) rfl rfl ti36 rfl) (rvT (v := .sc (.int .i64 r3)) rfl)) rfl rfl (.tup (.cons ldA (.cons (.sc _) .nil))) pn
    · refine AWP.skip ?_
      refine skT ?_
      refine AWP.sq ?_
      refine AWP.rgC 116 rfl rfl ?_
      refine fa rfl rfl ti36 rfl rfl ti3 rfl ?_
      refine ldB (v := .sc _) rfl rfl rfl rfl ti3 rfl rfl ?_
      refine fa rfl rfl ti36 rfl rfl ti3 rfl ?_
      refine ldB (v := .sc _) rfl rfl rfl rfl ti3 rfl rfl ?_
      refine pu (v := .sc _) rfl rfl (fun _ => rfl) ?_
      refine pu (v := .sc _) rfl rfl (fun _ => rfl) ?_
      refine fa rfl rfl ti36 rfl rfl ti3 rfl ?_
      refine ldB (v := .sc _) rfl rfl rfl rfl ti3 rfl rfl ?_
      refine fa rfl rfl ti36 rfl rfl ti3 rfl ?_
      refine ldB (v := .sc _) rfl rfl rfl rfl ti3 rfl rfl ?_
      refine pu (v := .sc _) rfl rfl (fun _ => rfl) ?_
      refine pu (v := .sc _) rfl rfl (fun _ => rfl) ?_
      refine bu (cs := [.sc (.int .i64 (w6 ((w6 (a.W - b.W)) + 1))), .sc (.int .i64 (w6 ((w6 (a.H - b.H)) + 1))), .sc (.slice none 0 0)]) rfl bt36 rfl ?_
      refine al (cs := [.sc (.int .i64 0), .sc (.int .i64 0), .sc (.slice none 0 0)]) 108 rfl rfl ti36 rfl rfl ?_
      refine stB (cs' := [.sc (.int .i64 (w6 ((w6 (a.W - b.W)) + 1))), .sc (.int .i64 (w6 ((w6 (a.H - b.H)) + 1))), .sc (.slice none 0 0)]) rfl rfl rfl rfl ti36 rfl rfl rfl rfl rfl ?_
      refine RunC.fin ?_
      refine AWP.sq ?_
      refine AWP.joinX (fun z5 : Bool => LS.mk [(2, .ptr 0 0 0), (3, .ptr 1 0 0), (4, .ptr 2 0 0), (8, .ptr 3 0 0), (48, .sc (.bool z5))] (lblks 0 [boxB (α := differ_Kernel) false a, boxB (α := differ_Kernel) false b, .box [.sc (.int .i64 0), .sc (.int .i64 0), .sc (.slice none 0 0)], .box [.sc (.int .i64 (w6 ((w6 (a.W - b.W)) + 1))), .sc (.int .i64 (w6 ((w6 (a.H - b.H)) + 1))), .sc (.slice none 0 0)]]) 4) hR (fun o5 hR => ?_) fun z5 hR => ?_
      · refine AWP.rgC 148 rfl rfl ?_
        refine fa rfl rfl ti36 rfl rfl ti3 rfl ?_
        refine ldB (v := .sc _) rfl rfl rfl rfl ti3 rfl rfl ?_
        refine pu (v := .sc _) rfl rfl (fun _ => rfl) ?_
        refine pu (v := .sc _) rfl rfl (fun _ => rfl) ?_
        refine brR hR (fun h6 hR => ?_) fun h6 hR => ?_
        · refine sk (skW rfl rfl rfl h6) ?_
          refine sk (skW rfl rfl rfl h6) ?_
          refine sk (skW rfl rfl rfl h6) ?_
          refine pkT (v := .sc (.bool true)) rfl rfl h6 rfl ?_
          refine RunC.fin ?_
          have hR := Option.some.inj hR; subst hR
          exact Weak.turnL [(0, 0), (4, 0), (8, 0), (108, 0)] [] rfl rfl (tc (trP' rfl rfl rfl rfl) (tc (trP' rfl rfl rfl rfl) (tc (trP' rfl rfl rfl rfl) (tc (trP' rfl rfl rfl rfl) (tc (.sc _) tn))))) (mc rfl (.box rfl (.cons (.sc _) (.cons (.sc _) (.cons trR1 (.nil)))) rfl) (mc rfl (.box rfl (.cons (.sc _) (.cons (.sc _) (.cons trR1 (.nil)))) rfl) (mc rfl (.box rfl (.cons (.sc _) (.cons (.sc _) (.cons (.sc _) (.nil)))) rfl) (mc rfl (.box rfl (.cons (.sc _) (.cons (.sc _) (.cons (.sc _) (.nil)))) rfl) mn))))
        · refine fa (wtG rfl rfl rfl h6) rfl ti36 rfl rfl ti3 rfl ?_
          refine ldB (v := .sc _) (wtG rfl rfl rfl h6) rfl rfl rfl ti3 rfl rfl ?_
          refine pu (v := .sc _) (wtG rfl rfl rfl h6) rfl (fun _ => rfl) ?_
          refine pkF (v := .sc (.bool (decide ((w6 ((w6 (a.H - b.H)) + 1)) < 1)))) rfl rfl h6 rfl ?_
          refine RunC.fin ?_
          have hR := Option.some.inj hR; subst hR
          exact Weak.turnL [(0, 0), (4, 0), (8, 0), (108, 0)] [] rfl rfl (tc (trP' rfl rfl rfl rfl) (tc (trP' rfl rfl rfl rfl) (tc (trP' rfl rfl rfl rfl) (tc (trP' rfl rfl rfl rfl) (tc (.sc _) tn))))) (mc rfl (.box rfl (.cons (.sc _) (.cons (.sc _) (.cons trR1 (.nil)))) rfl) (mc rfl (.box rfl (.cons (.sc _) (.cons (.sc _) (.cons trR1 (.nil)))) rfl) (mc rfl (.box rfl (.cons (.sc _) (.cons (.sc _) (.cons (.sc _) (.nil)))) rfl) (mc rfl (.box rfl (.cons (.sc _) (.cons (.sc _) (.cons (.sc _) (.nil)))) rfl) mn))))
      · refine AWP.cd hR rfl (fun h7 hR => ?_) fun h7 hR => ?_
        · refine AWP.sq ?_
          refine AWP.rgC 16 rfl rfl ?_
          refine bu (cs := [.sc (.int .i64 0), .sc (.int .i64 0), .sc (.slice none 0 0)]) rfl bt36 rfl ?_
          refine stB (cs' := [.sc (.int .i64 0), .sc (.int .i64 0), .sc (.slice none 0 0)]) rfl rfl rfl rfl ti36 rfl rfl rfl rfl rfl ?_
          refine pu (v := .sc _) rfl rfl (fun _ => rfl) ?_
          refine RunC.fin ?_
          refine AWP.ret ?_
          refine rtT ?_
          have hR := Option.some.inj hR; subst hR
          exact hQ _ _ (LS.mk [(4, .ptr 0 0 0), (5, .sc (.int .i64 8))] (lblks 0 [boxB (α := differ_Kernel) true (differ_Kernel.mk 0 0 [])]) 1) (.tup [aggV (α := differ_Kernel) true (differ_Kernel.mk 0 0 []), .sc (.int .i64 8)]) [] (.inr rfl) (Weak.turnL [(2, 0)] [] rfl rfl (tc (trP' rfl rfl rfl rfl) (tc (.sc _) tn)) (mc rfl (.box rfl (.cons (.sc _) (.cons (.sc _) (.cons trN (.nil)))) rfl) mn)) (ro2 (rvC (v := aggV (α := differ_Kernel) true (differ_Kernel.mk 0 0 [])) rfl rfl ti36 rfl) (rvT (v := .sc (.int .i64 8)) rfl)) rfl rfl (.tup (.cons ldA (.cons (.sc _) .nil))) pn
        · refine AWP.skip ?_
          refine skT ?_
          refine AWP.sq ?_
          refine AWP.rgC 36 rfl rfl ?_
          refine fa rfl rfl ti36 rfl rfl ti3 rfl ?_
          refine ldB (v := .sc _) rfl rfl rfl rfl ti3 rfl rfl ?_
          refine fa rfl rfl ti36 rfl rfl ti3 rfl ?_
          refine ldB (v := .sc _) rfl rfl rfl rfl ti3 rfl rfl ?_
          obtain ⟨v8, ev8, hR⟩ := letE hR
          refine pu (v := .sc _) rfl rfl (fun _ => puI ev8) ?_
          obtain ⟨h9, hR⟩ := chkE hR
          refine mk (α := Int) 24 true 0 rfl rfl rfl rfl ti22 rfl ti3 rfl rfl h9 ?_
          refine fa rfl rfl ti36 rfl rfl ti22 rfl ?_
          refine stB (cs' := [.sc (.int .i64 (w6 ((w6 (a.W - b.W)) + 1))), .sc (.int .i64 (w6 ((w6 (a.H - b.H)) + 1))), slV Int 24 0 0 (List.replicate v8.toNat (0 : Int)).length]) rfl rfl rfl rfl ti22 rfl rfl rfl rfl rfl ?_
          refine RunC.fin ?_
          refine AWP.sq ?_
          refine AWP.rgC 52 rfl rfl ?_
          refine fa rfl rfl ti36 rfl rfl ti22 rfl ?_
          refine ldB (v := rowV _ a.K) rfl rfl rfl rfl ti22 rfl rfl ?_
          obtain ⟨r10, hr10, hR⟩ := bindE hR
          refine cpx (res' := slV Int 44 0 0 r10.length) (ups := [(44, arrB (α := Int) 3 0 true r10)]) [] 44 rfl rfl rfl cb17 (ok17_43 a.K _ hr10) (.cons ldR' (.nil)) pn rfl rfl rfl (by simp only [V.ren, V.rens, renS, renR, renA]; rfl) (by simp only [passUps, renBox, renArr]; rfl) ?_
          refine pu (v := slV Int _ _ _ _) rfl rfl (fun _ => rfl) ?_
          refine RunC.fin ?_
          refine AWP.sq ?_
          refine AWP.rgC 64 rfl rfl ?_
          refine ldB (v := .agg _) rfl rfl rfl rfl ti36 rfl rfl ?_
          obtain ⟨r11, hr11, hR⟩ := bindE hR
          refine cls [] rfl rfl cb18 (ok18 b _ hr11) (.cons (.agg (.cons (.sc _) (.cons (.sc _) (.cons ldR' (.nil)))) rfl) (.nil)) (.inr rfl) rfl ?_
          refine pu (v := .sc _) rfl rfl (fun _ => rfl) ?_
          refine RunC.fin ?_
          refine AWP.sq ?_
          refine AWP.sq ?_
          refine AWP.rgC 80 rfl rfl ?_
          refine fa rfl rfl ti36 rfl rfl ti22 rfl ?_
          refine ldB (v := slV Int _ _ _ _) rfl rfl rfl rfl ti22 rfl rfl ?_
          refine lenS (α := Int) rfl rfl ti22 rfl ?_
          refine pu (v := .sc _) rfl rfl (fun _ => rfl) ?_
          refine RunC.fin ?_
          refine AWP.loopK' (fun s12 : (List Int) × (List Int) × Int => LS.mk [(2, .ptr 0 0 0), (3, .ptr 1 0 0), (4, .ptr 2 0 0), (8, .ptr 3 0 0), (9, slV Int 5 0 0 s12.2.1.length), (10, .sc (.int .i64 r11)), (64, .sc (.int .i64 ((List.replicate v8.toNat (0 : Int)).length : Int))), (65, .sc (.int .i64 s12.2.2))] (lblks 0 [boxB (α := differ_Kernel) false a, boxB (α := differ_Kernel) false b, .box [.sc (.int .i64 0), .sc (.int .i64 0), .sc (.slice none 0 0)], .box [.sc (.int .i64 (w6 ((w6 (a.W - b.W)) + 1))), .sc (.int .i64 (w6 ((w6 (a.H - b.H)) + 1))), slV Int 4 0 0 s12.1.length], arrB (α := Int) 3 0 true s12.1, arrB (α := Int) 3 0 true s12.2.1]) 6) (fun z13 : (List Int) × (List Int) => LS.mk [(4, .ptr 0 0 0), (8, .ptr 1 0 0), (9, slV Int 3 0 0 z13.2.length)] (lblks 0 [.box [.sc (.int .i64 0), .sc (.int .i64 0), .sc (.slice none 0 0)], .box [.sc (.int .i64 (w6 ((w6 (a.W - b.W)) + 1))), .sc (.int .i64 (w6 ((w6 (a.H - b.H)) + 1))), slV Int 2 0 0 z13.1.length], arrB (α := Int) 3 0 true z13.1, arrB (α := Int) 3 0 true z13.2]) 4) (differ_Quotient.l1 a b v8 r11) hR (s0 := (List.replicate v8.toNat (0 : Int), r10, 0)) (Weak.turnL [(0, 0), (1, 0), (2, 0), (3, 0), (24, 0), (44, 0)] [] rfl rfl (tc (trP' rfl rfl rfl rfl) (tc (trP' rfl rfl rfl rfl) (tc (trP' rfl rfl rfl rfl) (tc (trP' rfl rfl rfl rfl) (tc (trS' rfl rfl rfl rfl rfl) (tc (.sc _) (tc (.sc _) (tc (.sc _) tn)))))))) (mc rfl (.box rfl (.cons (.sc _) (.cons (.sc _) (.cons trR1 (.nil)))) rfl) (mc rfl (.box rfl (.cons (.sc _) (.cons (.sc _) (.cons trR1 (.nil)))) rfl) (mc rfl (.box rfl (.cons (.sc _) (.cons (.sc _) (.cons (.sc _) (.nil)))) rfl) (mc rfl (.box rfl (.cons (.sc _) (.cons (.sc _) (.cons (trS' rfl rfl rfl rfl rfl) (.nil)))) rfl) (mc rfl (btrA' rfl) (mc rfl (btrA' rfl) mn))))))) (fun s12 o12 hR hE12 => ?_) fun z13 hR => ?_
          · unfold differ_Quotient.l1 at hR
            refine AWP.sq ?_
            refine AWP.rgC 10 rfl rfl ?_
            obtain ⟨v14, ev14, hR⟩ := letE hR
            refine pu (v := .sc _) rfl rfl (fun _ => puB ev14) ?_
            refine RunC.fin ?_
            refine AWP.sq ?_
            refine AWP.cd hR rfl (fun h15 hR => ?_) fun h15 hR => ?_
            · refine AWP.skip ?_
              refine skT ?_
              refine AWP.sq ?_
              refine AWP.block ?_
              refine AWP.sq ?_
              refine AWP.rgC 22 rfl rfl ?_
              refine pu (v := .sc _) rfl rfl (fun _ => rfl) ?_
              refine al (cs := [.sc (.int .i64 0)]) 14 rfl rfl ti3 rfl rfl ?_
              refine stB (cs' := [.sc (.int .i64 s12.2.2)]) rfl rfl rfl rfl ti3 rfl rfl rfl rfl rfl ?_
              refine RunC.fin ?_
              refine AWP.sq ?_
              refine AWP.rgC 30 rfl rfl ?_
              refine pu (v := .fn _ _) rfl rfl (fun _ => rfl) ?_
              refine pu (v := .fn _ _) rfl rfl (fun _ => rfl) ?_
              refine RunC.fin ?_
              refine AWP.sq ?_
              refine AWP.rgD 82 [0, 0, 0, 6, 15, 31, 0, 64, 0, 448, 960, 2047, 4095] ⟨[], [none, none, none, none, none, some [5], none, some [1], none, none, some [], none, none]⟩ hmix (by kernel_rfl) rfl rfl ?_
              refine pu (v := slV Int _ _ _ _) rfl rfl (fun _ => rfl) ?_
              refine pu (v := .fn _ _) rfl rfl (fun _ => rfl) ?_
              refine pu (v := .sc _) rfl rfl (fun _ => rfl) ?_
              obtain ⟨r16, hr16, hR⟩ := bindE hR
              refine cls [0, 1, 3, 4, 14] rfl rfl cb19 (ok19 r11 s12.2.2 (differ_Kernel.mk (w6 ((w6 (a.W - b.W)) + 1)) (w6 ((w6 (a.H - b.H)) + 1)) s12.1) b a _ hr16) (.cons (.sc _) (.cons (ldX rfl rfl (.cons (.sc _) (.nil)) rfl) (.cons (ldX rfl rfl (.cons (.sc _) (.cons (.sc _) (.cons (ldS' rfl rfl rfl rfl) (.nil)))) rfl) (.cons (ldX rfl rfl (.cons (.sc _) (.cons (.sc _) (.cons ldR' (.nil)))) rfl) (.cons (ldX rfl rfl (.cons (.sc _) (.cons (.sc _) (.cons ldR' (.nil)))) rfl) (.nil)))))) (.inl (by first | rfl | exact freshR | exact freshA | (simp only [V.fresh, V.freshs, freshR, freshA, Bool.and_self]))) rfl ?_
              obtain ⟨h17, hR⟩ := chkE hR
              refine ixS0 (α := Int) rfl rfl rfl ti22 rfl ti3 rfl h17 ?_
              refine ldE (α := Int) (v := .sc _) rfl rfl rfl (ixlt h17) ti3 rfl rfl rfl rfl ?_
              refine fa rfl rfl ti36 rfl rfl ti22 rfl ?_
              refine ldB (v := rowV _ b.K) rfl rfl rfl rfl ti22 rfl rfl ?_
              refine pu (v := .sc _) rfl rfl (fun _ => rfl) ?_
              obtain ⟨h18, hR⟩ := chkE hR
              refine ixL (α := Int) rfl rfl rfl ti22 rfl ti3 rfl h18 ?_
              refine ldR (v := .sc _) rfl rfl ti3 rfl ?_
              obtain ⟨h19, hR⟩ := chkE hR
              refine qu rfl rfl rfl h19 rfl ?_
              refine pu (v := .sc _) rfl rfl (fun _ => rfl) ?_
              refine RunC.fin ?_
              refine AWP.sq ?_
              refine AWP.joinX (fun z20 : Bool => LS.mk [(2, .ptr 0 0 0), (3, .ptr 1 0 0), (4, .ptr 2 0 0), (8, .ptr 3 0 0), (9, slV Int 5 0 0 s12.2.1.length), (10, .sc (.int .i64 r11)), (11, .ptr 6 0 0), (12, .fn (.func 19) [.ptr 6 0 0, .ptr 3 0 0, .ptr 1 0 0, .ptr 0 0 0]), (13, .sc (.int .i64 (w6 (Int.tdiv (gt s12.2.1 r16) (gt b.K r11))))), (64, .sc (.int .i64 ((List.replicate v8.toNat (0 : Int)).length : Int))), (65, .sc (.int .i64 s12.2.2)), (86, .sc (.bool z20))] (lblks 0 [boxB (α := differ_Kernel) false a, boxB (α := differ_Kernel) false b, .box [.sc (.int .i64 0), .sc (.int .i64 0), .sc (.slice none 0 0)], .box [.sc (.int .i64 (w6 ((w6 (a.W - b.W)) + 1))), .sc (.int .i64 (w6 ((w6 (a.H - b.H)) + 1))), slV Int 4 0 0 s12.1.length], arrB (α := Int) 3 0 true s12.1, arrB (α := Int) 3 0 true s12.2.1, boxB (α := Int) true s12.2.2]) 7) hR (fun o20 hR => ?_) fun z20 hR => ?_
              · refine AWP.rgC 106 rfl rfl ?_
                refine pu (v := .sc _) rfl rfl (fun _ => rfl) ?_
                refine pu (v := .sc _) rfl rfl (fun _ => rfl) ?_
                refine pu (v := .sc _) rfl rfl (fun _ => rfl) ?_
                refine brR hR (fun h21 hR => ?_) fun h21 hR => ?_
                · refine sk (skW rfl rfl rfl h21) ?_
                  refine sk (skW rfl rfl rfl h21) ?_
                  refine pkT (v := .sc (.bool true)) rfl rfl h21 rfl ?_
                  refine RunC.fin ?_
                  have hR := Option.some.inj hR; subst hR
                  exact Weak.turnL [(0, 0), (1, 0), (2, 0), (3, 0), (4, 0), (5, 0), (14, 0)] [] rfl rfl (tc (trP' rfl rfl rfl rfl) (tc (trP' rfl rfl rfl rfl) (tc (trP' rfl rfl rfl rfl) (tc (trP' rfl rfl rfl rfl) (tc (trS' rfl rfl rfl rfl rfl) (tc (.sc _) (tc (trP' rfl rfl rfl rfl) (tc (.fn (.cons (trP' rfl rfl rfl rfl) (.cons (trP' rfl rfl rfl rfl) (.cons (trP' rfl rfl rfl rfl) (.cons (trP' rfl rfl rfl rfl) (.nil)))))) (tc (.sc _) (tc (.sc _) (tc (.sc _) (tc (.sc _) tn)))))))))))) (mc rfl (.box rfl (.cons (.sc _) (.cons (.sc _) (.cons trR1 (.nil)))) rfl) (mc rfl (.box rfl (.cons (.sc _) (.cons (.sc _) (.cons trR1 (.nil)))) rfl) (mc rfl (.box rfl (.cons (.sc _) (.cons (.sc _) (.cons (.sc _) (.nil)))) rfl) (mc rfl (.box rfl (.cons (.sc _) (.cons (.sc _) (.cons (trS' rfl rfl rfl rfl rfl) (.nil)))) rfl) (mc rfl (btrA' rfl) (mc rfl (btrA' rfl) (mc rfl (.box rfl (.cons (.sc _) (.nil)) rfl) mn)))))))
                · refine pu (v := .sc _) (wtG rfl rfl rfl h21) rfl (fun _ => rfl) ?_
                  obtain ⟨v22, ev22, hR⟩ := letE hR
                  refine pu (v := .sc _) (wtG rfl rfl rfl h21) rfl (fun _ => puB ev22) ?_
                  refine pkF (v := .sc (.bool v22)) rfl rfl h21 rfl ?_
                  refine RunC.fin ?_
                  have hR := Option.some.inj hR; subst hR
                  exact Weak.turnL [(0, 0), (1, 0), (2, 0), (3, 0), (4, 0), (5, 0), (14, 0)] [] rfl rfl (tc (trP' rfl rfl rfl rfl) (tc (trP' rfl rfl rfl rfl) (tc (trP' rfl rfl rfl rfl) (tc (trP' rfl rfl rfl rfl) (tc (trS' rfl rfl rfl rfl rfl) (tc (.sc _) (tc (trP' rfl rfl rfl rfl) (tc (.fn (.cons (trP' rfl rfl rfl rfl) (.cons (trP' rfl rfl rfl rfl) (.cons (trP' rfl rfl rfl rfl) (.cons (trP' rfl rfl rfl rfl) (.nil)))))) (tc (.sc _) (tc (.sc _) (tc (.sc _) (tc (.sc _) tn)))))))))))) (mc rfl (.box rfl (.cons (.sc _) (.cons (.sc _) (.cons trR1 (.nil)))) rfl) (mc rfl (.box rfl (.cons (.sc _) (.cons (.sc _) (.cons trR1 (.nil)))) rfl) (mc rfl (.box rfl (.cons (.sc _) (.cons (.sc _) (.cons (.sc _) (.nil)))) rfl) (mc rfl (.box rfl (.cons (.sc _) (.cons (.sc _) (.cons (trS' rfl rfl rfl rfl rfl) (.nil)))) rfl) (mc rfl (btrA' rfl) (mc rfl (btrA' rfl) (mc rfl (.box rfl (.cons (.sc _) (.nil)) rfl) mn)))))))
              · refine AWP.cd hR rfl (fun h23 hR => ?_) fun h23 hR => ?_
                · refine AWP.sq ?_
                  refine AWP.rgC 19 rfl rfl ?_
                  refine bu (cs := [.sc (.int .i64 0), .sc (.int .i64 0), .sc (.slice none 0 0)]) rfl bt36 rfl ?_
                  refine stB (cs' := [.sc (.int .i64 0), .sc (.int .i64 0), .sc (.slice none 0 0)]) rfl rfl rfl rfl ti36 rfl rfl rfl rfl rfl ?_
                  refine pu (v := .sc _) rfl rfl (fun _ => rfl) ?_
                  refine RunC.fin ?_
                  refine AWP.ret ?_
                  refine rtT ?_
                  refine rtB ?_
                  refine rtT ?_
                  refine rtT ?_
                  refine rtB (rtT ?_)
                  replace hR := escL hR hE12
                  refine rtT ?_
                  have hR := Option.some.inj hR; subst hR
                  exact hQ _ _ (LS.mk [(4, .ptr 0 0 0), (5, .sc (.int .i64 8))] (lblks 0 [boxB (α := differ_Kernel) true (differ_Kernel.mk 0 0 [])]) 1) (.tup [aggV (α := differ_Kernel) true (differ_Kernel.mk 0 0 []), .sc (.int .i64 8)]) [] (.inr rfl) (Weak.turnL [(2, 0)] [] rfl rfl (tc (trP' rfl rfl rfl rfl) (tc (.sc _) tn)) (mc rfl (.box rfl (.cons (.sc _) (.cons (.sc _) (.cons trN (.nil)))) rfl) mn)) (ro2 (rvC (v := aggV (α := differ_Kernel) true (differ_Kernel.mk 0 0 [])) rfl rfl ti36 rfl) (rvT (v := .sc (.int .i64 8)) rfl)) rfl rfl (.tup (.cons ldA (.cons (.sc _) .nil))) pn
                · refine AWP.skip ?_
                  refine skT ?_
                  refine AWP.sq ?_
                  refine AWP.rgC 31 rfl rfl ?_
                  refine fa rfl rfl ti36 rfl rfl ti22 rfl ?_
                  refine ldB (v := slV Int _ _ _ _) rfl rfl rfl rfl ti22 rfl rfl ?_
                  refine ldB (v := .sc _) rfl rfl rfl rfl ti3 rfl rfl ?_
                  refine pu (v := .sc _) rfl rfl (fun _ => rfl) ?_
                  obtain ⟨h24, hR⟩ := chkE hR
                  refine ixS0 (α := Int) rfl rfl rfl ti22 rfl ti3 rfl h24 ?_
                  obtain ⟨v25, ev25, hR⟩ := letE hR
                  refine stE (α := Int) (y := w6 (Int.tdiv (gt s12.2.1 r16) (gt b.K r11))) rfl rfl rfl (ixlt h24) ti3 rfl rfl rfl rfl rfl ?_
                  rw [ev25]
                  refine RunC.fin ?_
                  refine AWP.sq ?_
                  refine AWP.rgC 47 rfl rfl ?_
                  refine fa rfl rfl ti36 rfl rfl ti22 rfl ?_
                  refine ldB (v := rowV _ b.K) rfl rfl rfl rfl ti22 rfl rfl ?_
                  refine lenL (α := Int) rfl rfl ti22 rfl ?_
                  refine pu (v := .sc _) rfl rfl (fun _ => rfl) ?_
                  refine RunC.fin ?_
                  refine AWP.loopJ (fun s26 : (List Int) × Int => LS.mk [(2, .ptr 0 0 0), (3, .ptr 1 0 0), (4, .ptr 2 0 0), (8, .ptr 3 0 0), (9, slV Int 5 0 0 s26.1.length), (10, .sc (.int .i64 r11)), (12, .fn (.func 19) [.ptr 6 0 0, .ptr 3 0 0, .ptr 1 0 0, .ptr 0 0 0]), (13, .sc (.int .i64 (w6 (Int.tdiv (gt s12.2.1 r16) (gt b.K r11))))), (64, .sc (.int .i64 ((List.replicate v8.toNat (0 : Int)).length : Int))), (65, .sc (.int .i64 s12.2.2)), (94, rowV (α := Int) false b.K), (95, .sc (.int .i64 (b.K.length : Int))), (96, .sc (.int .i64 s26.2))] (lblks 0 [boxB (α := differ_Kernel) false a, boxB (α := differ_Kernel) false b, .box [.sc (.int .i64 0), .sc (.int .i64 0), .sc (.slice none 0 0)], .box [.sc (.int .i64 (w6 ((w6 (a.W - b.W)) + 1))), .sc (.int .i64 (w6 ((w6 (a.H - b.H)) + 1))), slV Int 4 0 0 s12.1.length], arrB (α := Int) 3 0 true v25, arrB (α := Int) 3 0 true s26.1, boxB (α := Int) true s12.2.2]) 7) (fun z27 : (List Int) => LS.mk [(2, .ptr 0 0 0), (3, .ptr 1 0 0), (4, .ptr 2 0 0), (8, .ptr 3 0 0), (9, slV Int 5 0 0 z27.length), (10, .sc (.int .i64 r11)), (64, .sc (.int .i64 ((List.replicate v8.toNat (0 : Int)).length : Int))), (65, .sc (.int .i64 s12.2.2))] (lblks 0 [boxB (α := differ_Kernel) false a, boxB (α := differ_Kernel) false b, .box [.sc (.int .i64 0), .sc (.int .i64 0), .sc (.slice none 0 0)], .box [.sc (.int .i64 (w6 ((w6 (a.W - b.W)) + 1))), .sc (.int .i64 (w6 ((w6 (a.H - b.H)) + 1))), slV Int 4 0 0 s12.1.length], arrB (α := Int) 3 0 true v25, arrB (α := Int) 3 0 true z27]) 6) (differ_Quotient.l2 a b r11 s12 r16 v25) hR (s0 := (s12.2.1, 0)) (Weak.turnL [(0, 0), (1, 0), (2, 0), (3, 0), (4, 0), (5, 0), (6, 0)] [] rfl rfl (tc (trP' rfl rfl rfl rfl) (tc (trP' rfl rfl rfl rfl) (tc (trP' rfl rfl rfl rfl) (tc (trP' rfl rfl rfl rfl) (tc (trS' rfl rfl rfl rfl rfl) (tc (.sc _) (tc (.fn (.cons (trP' rfl rfl rfl rfl) (.cons (trP' rfl rfl rfl rfl) (.cons (trP' rfl rfl rfl rfl) (.cons (trP' rfl rfl rfl rfl) (.nil)))))) (tc (.sc _) (tc (.sc _) (tc (.sc _) (tc trR1 (tc (.sc _) (tc (.sc _) tn))))))))))))) (mc rfl (.box rfl (.cons (.sc _) (.cons (.sc _) (.cons trR1 (.nil)))) rfl) (mc rfl (.box rfl (.cons (.sc _) (.cons (.sc _) (.cons trR1 (.nil)))) rfl) (mc rfl (.box rfl (.cons (.sc _) (.cons (.sc _) (.cons (.sc _) (.nil)))) rfl) (mc rfl (.box rfl (.cons (.sc _) (.cons (.sc _) (.cons (trS' rfl rfl rfl rfl rfl) (.nil)))) rfl) (mc rfl (btrA' rfl) (mc rfl (btrA' rfl) (mc rfl (.box rfl (.cons (.sc _) (.nil)) rfl) mn)))))))) (fun s26 o26 hR => ?_) fun z27 hR => ?_
                  · unfold differ_Quotient.l2 at hR
                    refine AWP.sq ?_
                    refine AWP.rgC 11 rfl rfl ?_
                    refine pu (v := .sc _) rfl rfl (fun _ => rfl) ?_
                    refine RunC.fin ?_
                    refine AWP.sq ?_
                    refine AWP.cd hR rfl (fun h28 hR => ?_) fun h28 hR => ?_
                    · refine AWP.skip ?_
                      refine skT ?_
                      refine AWP.sq ?_
                      refine AWP.block ?_
                      refine AWP.sq ?_
                      refine AWP.rgC 31 rfl rfl ?_
                      refine pu (v := .sc _) rfl rfl (fun _ => rfl) ?_
                      obtain ⟨h29, hR⟩ := chkE hR
                      refine ixL (α := Int) rfl rfl rfl ti22 rfl ti3 rfl h29 ?_
                      refine ldR (v := .sc _) rfl rfl ti3 rfl ?_
                      refine pu (v := .sc _) rfl rfl (fun _ => rfl) ?_
                      refine pu (v := .sc _) rfl rfl (fun _ => rfl) ?_
                      refine RunC.fin ?_
                      refine AWP.rgC 79 rfl rfl ?_
                      refine pu (v := slV Int _ _ _ _) rfl rfl (fun _ => rfl) ?_
                      refine pu (v := .fn _ _) rfl rfl (fun _ => rfl) ?_
                      refine pu (v := .sc _) rfl rfl (fun _ => rfl) ?_
                      obtain ⟨r30, hr30, hR⟩ := bindE hR
                      refine cls [0, 1, 3, 4, 6] rfl rfl cb19 (ok19 s26.2 s12.2.2 (differ_Kernel.mk (w6 ((w6 (a.W - b.W)) + 1)) (w6 ((w6 (a.H - b.H)) + 1)) v25) b a _ hr30) (.cons (.sc _) (.cons (ldX rfl rfl (.cons (.sc _) (.nil)) rfl) (.cons (ldX rfl rfl (.cons (.sc _) (.cons (.sc _) (.cons (ldS' rfl rfl rfl (by subst ev25; simp only [List.length_set])) (.nil)))) rfl) (.cons (ldX rfl rfl (.cons (.sc _) (.cons (.sc _) (.cons ldR' (.nil)))) rfl) (.cons (ldX rfl rfl (.cons (.sc _) (.cons (.sc _) (.cons ldR' (.nil)))) rfl) (.nil)))))) (.inl (by first | rfl | exact freshR | exact freshA | (simp only [V.fresh, V.freshs, freshR, freshA, Bool.and_self]))) rfl ?_
                      obtain ⟨h31, hR⟩ := chkE hR
                      refine ixS0 (α := Int) rfl rfl rfl ti22 rfl ti3 rfl h31 ?_
                      refine ldE (α := Int) (v := .sc _) rfl rfl rfl (ixlt h31) ti3 rfl rfl rfl rfl ?_
                      refine pu (v := .sc _) rfl rfl (fun _ => rfl) ?_
                      refine pu (v := .sc _) rfl rfl (fun _ => rfl) ?_
                      obtain ⟨v32, ev32, hR⟩ := letE hR
                      refine pu (v := .sc _) rfl rfl (fun _ => puI ev32) ?_
                      refine pu (v := .sc _) rfl rfl (fun _ => rfl) ?_
                      refine ixS0 (α := Int) rfl rfl rfl ti22 rfl ti3 rfl h31 ?_
                      refine stE (α := Int) (y := w6 ((gt s26.1 r30) - v32)) rfl rfl rfl (ixlt h31) ti3 rfl rfl rfl rfl rfl ?_
                      refine RunC.blk ?_
                      refine RunC.fin ?_
                      refine AWP.rgC 87 rfl rfl ?_
                      refine pu (v := .sc _) rfl rfl (fun _ => rfl) ?_
                      refine pu (v := .sc _) rfl rfl (fun _ => rfl) ?_
                      refine RunC.fin ?_
                      refine ⟨(List.set s26.1 r30.toNat (w6 ((gt s26.1 r30) - v32)), w6 (s26.2 + 1)), (Option.some.inj hR).symm, ?_⟩
                      exact Weak.turnL [(0, 0), (1, 0), (2, 0), (3, 0), (4, 0), (5, 0), (6, 0)] [] rfl rfl (tc (trP' rfl rfl rfl rfl) (tc (trP' rfl rfl rfl rfl) (tc (trP' rfl rfl rfl rfl) (tc (trP' rfl rfl rfl rfl) (tc (trS' rfl rfl rfl rfl (by simp only [List.length_set])) (tc (.sc _) (tc (.fn (.cons (trP' rfl rfl rfl rfl) (.cons (trP' rfl rfl rfl rfl) (.cons (trP' rfl rfl rfl rfl) (.cons (trP' rfl rfl rfl rfl) (.nil)))))) (tc (.sc _) (tc (.sc _) (tc (.sc _) (tc trR1 (tc (.sc _) (tc (.sc _) tn))))))))))))) (mc rfl (.box rfl (.cons (.sc _) (.cons (.sc _) (.cons trR1 (.nil)))) rfl) (mc rfl (.box rfl (.cons (.sc _) (.cons (.sc _) (.cons trR1 (.nil)))) rfl) (mc rfl (.box rfl (.cons (.sc _) (.cons (.sc _) (.cons (.sc _) (.nil)))) rfl) (mc rfl (.box rfl (.cons (.sc _) (.cons (.sc _) (.cons (trS' rfl rfl rfl rfl rfl) (.nil)))) rfl) (mc rfl (btrA' rfl) (mc rfl (btrA' rfl) (mc rfl (.box rfl (.cons (.sc _) (.nil)) rfl) mn)))))))
                    · refine AWP.exit ?_
                      refine exT ?_
                      refine exT ?_
                      refine exH (skT ?_)
                      refine ⟨s26.1, (Option.some.inj hR).symm, ?_⟩
                      exact Weak.turnL [(0, 0), (1, 0), (2, 0), (3, 0), (4, 0), (5, 0)] [] rfl rfl (tc (trP' rfl rfl rfl rfl) (tc (trP' rfl rfl rfl rfl) (tc (trP' rfl rfl rfl rfl) (tc (trP' rfl rfl rfl rfl) (tc (trS' rfl rfl rfl rfl rfl) (tc (.sc _) (tc (.sc _) (tc (.sc _) tn)))))))) (mc rfl (.box rfl (.cons (.sc _) (.cons (.sc _) (.cons trR1 (.nil)))) rfl) (mc rfl (.box rfl (.cons (.sc _) (.cons (.sc _) (.cons trR1 (.nil)))) rfl) (mc rfl (.box rfl (.cons (.sc _) (.cons (.sc _) (.cons (.sc _) (.nil)))) rfl) (mc rfl (.box rfl (.cons (.sc _) (.cons (.sc _) (.cons (trS' rfl rfl rfl rfl rfl) (.nil)))) rfl) (mc rfl (btrA' rfl) (mc rfl (btrA' rfl) mn))))))
                  · refine skB ?_
                    refine skT ?_
                    refine AWP.rgC 14 rfl rfl ?_
                    refine pu (v := .sc _) rfl rfl (fun _ => rfl) ?_
                    refine pu (v := .sc _) rfl rfl (fun _ => rfl) ?_
                    refine RunC.fin ?_
                    refine ⟨(v25, z27, w6 (s12.2.2 + 1)), (Option.some.inj hR).symm, ?_⟩
                    exact Weak.turnL [(0, 0), (1, 0), (2, 0), (3, 0), (4, 0), (5, 0)] [] rfl rfl (tc (trP' rfl rfl rfl rfl) (tc (trP' rfl rfl rfl rfl) (tc (trP' rfl rfl rfl rfl) (tc (trP' rfl rfl rfl rfl) (tc (trS' rfl rfl rfl rfl rfl) (tc (.sc _) (tc (.sc _) (tc (.sc _) tn)))))))) (mc rfl (.box rfl (.cons (.sc _) (.cons (.sc _) (.cons trR1 (.nil)))) rfl) (mc rfl (.box rfl (.cons (.sc _) (.cons (.sc _) (.cons trR1 (.nil)))) rfl) (mc rfl (.box rfl (.cons (.sc _) (.cons (.sc _) (.cons (.sc _) (.nil)))) rfl) (mc rfl (.box rfl (.cons (.sc _) (.cons (.sc _) (.cons (trS' rfl rfl rfl rfl (by subst ev25; simp only [List.length_set])) (.nil)))) rfl) (mc rfl (btrA' rfl) (mc rfl (btrA' rfl) mn))))))
            · refine AWP.exit ?_
              refine exT ?_
              refine exT ?_
              refine exH (skT ?_)
              refine ⟨(s12.1, s12.2.1), (Option.some.inj hR).symm, ?_⟩
              exact Weak.turnL [(2, 0), (3, 0), (4, 0), (5, 0)] [] rfl rfl (tc (trP' rfl rfl rfl rfl) (tc (trP' rfl rfl rfl rfl) (tc (trS' rfl rfl rfl rfl rfl) tn))) (mc rfl (.box rfl (.cons (.sc _) (.cons (.sc _) (.cons (.sc _) (.nil)))) rfl) (mc rfl (.box rfl (.cons (.sc _) (.cons (.sc _) (.cons (trS' rfl rfl rfl rfl rfl) (.nil)))) rfl) (mc rfl (btrA' rfl) (mc rfl (btrA' rfl) mn))))
          · refine skT ?_
            refine AWP.sq ?_
            refine AWP.sq ?_
            refine AWP.rgC 12 rfl rfl ?_
            refine pu (v := slV Int _ _ _ _) rfl rfl (fun _ => rfl) ?_
            obtain ⟨r33, hr33, hR⟩ := bindE hR
            refine cls [3] rfl rfl cb20 (ok20 z13.2 _ hr33) (.cons (ldS' rfl rfl rfl rfl) (.cons (.fn (.nil)) (.nil))) (.inl (by first | rfl | exact freshR | exact freshA | (simp only [V.fresh, V.freshs, freshR, freshA, Bool.and_self]))) rfl ?_
            refine RunC.fin ?_
            refine AWP.cd hR rfl (fun h34 hR => ?_) fun h34 hR => ?_
            · refine AWP.sq ?_
              refine AWP.rgC 24 rfl rfl ?_
              refine bu (cs := [.sc (.int .i64 0), .sc (.int .i64 0), .sc (.slice none 0 0)]) rfl bt36 rfl ?_
              refine stB (cs' := [.sc (.int .i64 0), .sc (.int .i64 0), .sc (.slice none 0 0)]) rfl rfl rfl rfl ti36 rfl rfl rfl rfl rfl ?_
              refine pu (v := .sc _) rfl rfl (fun _ => rfl) ?_
              refine RunC.fin ?_
              refine AWP.ret ?_
              refine rtT ?_
              have hR := Option.some.inj hR; subst hR
              exact hQ _ _ (LS.mk [(4, .ptr 0 0 0), (5, .sc (.int .i64 8))] (lblks 0 [boxB (α := differ_Kernel) true (differ_Kernel.mk 0 0 [])]) 1) (.tup [aggV (α := differ_Kernel) true (differ_Kernel.mk 0 0 []), .sc (.int .i64 8)]) [] (.inr rfl) (Weak.turnL [(0, 0)] [] rfl rfl (tc (trP' rfl rfl rfl rfl) (tc (.sc _) tn)) (mc rfl (.box rfl (.cons (.sc _) (.cons (.sc _) (.cons trN (.nil)))) rfl) mn)) (ro2 (rvC (v := aggV (α := differ_Kernel) true (differ_Kernel.mk 0 0 [])) rfl rfl ti36 rfl) (rvT (v := .sc (.int .i64 8)) rfl)) rfl rfl (.tup (.cons ldA (.cons (.sc _) .nil))) pn
            · refine AWP.skip ?_
              refine skT ?_
              refine AWP.sq ?_
              refine AWP.rgC 24 rfl rfl ?_
              refine ldB (v := .agg _) rfl rfl rfl rfl ti36 rfl rfl ?_
              refine stB (cs' := [.sc (.int .i64 (w6 ((w6 (a.W - b.W)) + 1))), .sc (.int .i64 (w6 ((w6 (a.H - b.H)) + 1))), slV Int 2 0 0 z13.1.length]) rfl rfl rfl rfl ti36 rfl rfl rfl rfl rfl ?_
              refine pu (v := .sc _) rfl rfl (fun _ => rfl) ?_
              refine RunC.fin ?_
              refine AWP.ret ?_
              have hR := Option.some.inj hR; subst hR
              exact hQ _ _ (LS.mk [(4, .ptr 0 0 0), (5, .sc (.int .i64 0))] (lblks 0 [boxB (α := differ_Kernel) true (differ_Kernel.mk (w6 ((w6 (a.W - b.W)) + 1)) (w6 ((w6 (a.H - b.H)) + 1)) z13.1)]) 1) (.tup [aggV (α := differ_Kernel) true (differ_Kernel.mk (w6 ((w6 (a.W - b.W)) + 1)) (w6 ((w6 (a.H - b.H)) + 1)) z13.1), .sc (.int .i64 0)]) [] (.inr rfl) (Weak.turnL [(0, 0)] [2] rfl rfl (tc (trP' rfl rfl rfl rfl) (tc (.sc _) tn)) (mc rfl (.box rfl (.cons (.sc _) (.cons (.sc _) (.cons (trF' rfl rfl id rfl) (.nil)))) rfl) mn)) (ro2 (rvC (v := aggV (α := differ_Kernel) true (differ_Kernel.mk (w6 ((w6 (a.W - b.W)) + 1)) (w6 ((w6 (a.H - b.H)) + 1)) z13.1)) rfl rfl ti36 rfl) (rvT (v := .sc (.int .i64 0)) rfl)) rfl rfl (.tup (.cons ldA (.cons (.sc _) .nil))) pn
theorem ok8 (a : differ_Kernel) (b : differ_Kernel) (r : differ_Kernel × Int) (hR : differ_Times a b = some r) : FnP Try.prog 8 [aggV false a, aggV false b] (.tup [aggV (α := differ_Kernel) true r.1, .sc (.int .i64 r.2)]) := by
  refine fnP_of (FnX.walk Try.func8 rfl 29 0 (by simp [Try.ntmps8]) rfl fun W S F Q hQ => ?_)
  unfold differ_Times at hR
  refine AWP.sq ?_
  refine AWP.rgC 16 rfl rfl ?_
  refine bx (cs := _) 0 rfl rfl rfl ?_
  refine bx (cs := _) 4 rfl rfl rfl ?_
  refine al (cs := [.sc (.int .i64 0), .sc (.int .i64 0), .sc (.slice none 0 0)]) 8 rfl rfl ti36 rfl rfl ?_
  refine pu (v := .sc _) rfl rfl (fun _ => rfl) ?_
  refine RunC.fin ?_
  refine AWP.sq ?_
  refine AWP.sq ?_
  refine AWP.rgC 28 rfl rfl ?_
  refine ldB (v := .agg _) rfl rfl rfl rfl ti36 rfl rfl ?_
  obtain ⟨r1, hr1, hR⟩ := bindE hR
  refine cls [] rfl rfl cb15 (ok15 a _ hr1) (.cons (.agg (.cons (.sc _) (.cons (.sc _) (.cons ldR' (.nil)))) rfl) (.nil)) (.inr rfl) rfl ?_
  refine pu (v := .sc _) rfl rfl (fun _ => rfl) ?_
  refine RunC.fin ?_
  refine AWP.sq ?_
  refine AWP.rgC 36 rfl rfl ?_
  refine pu (v := .sc _) rfl rfl (fun _ => rfl) ?_
  refine pu (v := .sc _) rfl rfl (fun _ => rfl) ?_
  refine RunC.fin ?_
  refine AWP.cd hR rfl (fun h2 hR => ?_) fun h2 hR => ?_
  · refine AWP.sq ?_
    refine AWP.rgC 52 rfl rfl ?_
    refine bu (cs := [.sc (.int .i64 0), .sc (.int .i64 0), .sc (.slice none 0 0)]) rfl bt36 rfl ?_
    refine pu (v := .sc _) rfl rfl (fun _ => rfl) ?_
    refine stB (cs' := [.sc (.int .i64 0), .sc (.int .i64 0), .sc (.slice none 0 0)]) rfl rfl rfl rfl ti36 rfl rfl rfl rfl rfl ?_
    refine pu (v := .sc _) rfl rfl (fun _ => rfl) ?_
    refine RunC.fin ?_
    refine AWP.ret ?_
    refine rtT ?_
    have hR := Option.some.inj hR; subst hR
    exact hQ _ _ (LS.mk [(4, .ptr 0 0 0), (5, .sc (.int .i64 r1))] (lblks 0 [boxB (α := differ_Kernel) true (differ_Kernel.mk 0 0 [])]) 1) (.tup [aggV (α := differ_Kernel) true (differ_Kernel.mk 0 0 []), .sc (.int .i64 r1)]) [] (.inr rfl) (Weak.turnL [(8, 0)] [] rfl rfl (tc (trP' rfl rfl rfl rfl) (tc (.sc _) tn)) (mc rfl (.box rfl (.cons (.sc _) (.cons (.sc _) (.cons trN (.nil)))) rfl) mn)) (ro2 (rvC (v := aggV (α := differ_Kernel) true (differ_Kernel.mk 0 0 [])) rfl rfl ti36 rfl) (rvT (v := .sc (.int .i64 r1)) rfl)) rfl rfl (.tup (.cons ldA (.cons (.sc _) .nil))) pn
  · refine AWP.skip ?_
    refine skT ?_
    refine AWP.sq ?_
    refine AWP.sq ?_
    refine AWP.rgC 48 rfl rfl ?_
    refine ldB (v := .agg _) rfl rfl rfl rfl ti36 rfl rfl ?_
    obtain ⟨r3, hr3, hR⟩ := bindE hR
    refine cls [] rfl rfl cb15 (ok15 b _ hr3) (.cons (.agg (.cons (.sc _) (.cons (.sc _) (.cons ldR' (.nil)))) rfl) (.nil)) (.inr rfl) rfl ?_
    refine pu (v := .sc _) rfl rfl (fun _ => rfl) ?_
    refine RunC.fin ?_
    refine AWP.sq ?_
    refine AWP.rgC 56 rfl rfl ?_
    refine pu (v := .sc _) rfl rfl (fun _ => rfl) ?_
    refine pu (v := .sc _) rfl rfl (fun _ => rfl) ?_
    refine RunC.fin ?_
    refine AWP.cd hR rfl (fun h4 hR => ?_) fun h4 hR => ?_
    · refine AWP.sq ?_
      refine AWP.rgC 72 rfl rfl ?_
      refine bu (cs := [.sc (.int .i64 0), .sc (.int .i64 0), .sc (.slice none 0 0)]) rfl bt36 rfl ?_
      refine pu (v := .sc _) rfl rfl (fun _ => rfl) ?_
      refine stB (cs' := [.sc (.int .i64 0), .sc (.int .i64 0), .sc (.slice none 0 0)]) rfl rfl rfl rfl ti36 rfl rfl rfl rfl rfl ?_
      refine pu (v := .sc _) rfl rfl (fun _ => rfl) ?_
      refine RunC.fin ?_
      refine AWP.ret ?_
      refine rtT ?_
      have hR := Option.some.inj hR; subst hR
      exact hQ _ _ (LS.mk [(4, .ptr 0 0 0), (5, .sc (.int .i64 r3))] (lblks 0 [boxB (α := differ_Kernel) true (differ_Kernel.mk 0 0 [])]) 1) (.tup [aggV (α := differ_Kernel) true (differ_Kernel.mk 0 0 []), .sc (.int .i64 r3)]) [] (.inr rfl) (Weak.turnL [(8, 0)] [] rfl rfl (tc (trP' rfl rfl rfl rfl) (tc (.sc _) tn)) (mc rfl (.box rfl (.cons (.sc _) (.cons (.sc _) (.cons trN (.nil)))) rfl) mn)) (ro2 (rvC (v := aggV (α := differ_Kernel) true (differ_Kernel.mk 0 0 [])) rfl rfl ti36 rfl) (rvT (v := .sc (.int .i64 r3)) rfl)) rfl rfl (.tup (.cons ldA (.cons (.sc _) .nil))) pn
    · refine AWP.skip ?_
      refine skT ?_
      refine AWP.sq ?_
      refine AWP.rgC 76 rfl rfl ?_
      refine ldB (v := .agg _) rfl rfl rfl rfl ti36 rfl rfl ?_
      refine ldB (v := .agg _) rfl rfl rfl rfl ti36 rfl rfl ?_
      obtain ⟨r5, hr5, hR⟩ := bindE hR
      refine cls [] rfl rfl cb16 (ok16 a b _ hr5) (.cons (.agg (.cons (.sc _) (.cons (.sc _) (.cons ldR' (.nil)))) rfl) (.cons (.agg (.cons (.sc _) (.cons (.sc _) (.cons ldR' (.nil)))) rfl) (.nil))) (.inr rfl) rfl ?_
      refine al (cs := [.sc (.int .i64 0), .sc (.int .i64 0), .sc (.slice none 0 0)]) 68 rfl rfl ti36 rfl rfl ?_
      refine stB (cs' := [.sc (.int .i64 r5.W), .sc (.int .i64 r5.H), rowV (α := Int) true r5.K]) rfl rfl rfl rfl ti36 rfl rfl rfl rfl rfl ?_
      refine RunC.fin ?_
      refine AWP.sq ?_
      refine AWP.sq ?_
      refine AWP.rgC 88 rfl rfl ?_
      refine ldB (v := .agg _) rfl rfl rfl rfl ti36 rfl rfl ?_
      obtain ⟨r6, hr6, hR⟩ := bindE hR
      refine cls [] rfl rfl cb15 (ok15 r5 _ hr6) (.cons (.agg (.cons (.sc _) (.cons (.sc _) (.cons ldR' (.nil)))) rfl) (.nil)) (.inr rfl) rfl ?_
      refine pu (v := .sc _) rfl rfl (fun _ => rfl) ?_
      refine RunC.fin ?_
      refine AWP.cd hR rfl (fun h7 hR => ?_) fun h7 hR => ?_
      · refine AWP.sq ?_
        refine AWP.rgC 100 rfl rfl ?_
        refine bu (cs := [.sc (.int .i64 0), .sc (.int .i64 0), .sc (.slice none 0 0)]) rfl bt36 rfl ?_
        refine stB (cs' := [.sc (.int .i64 0), .sc (.int .i64 0), .sc (.slice none 0 0)]) rfl rfl rfl rfl ti36 rfl rfl rfl rfl rfl ?_
        refine pu (v := .sc _) rfl rfl (fun _ => rfl) ?_
        refine RunC.fin ?_
        refine AWP.ret ?_
        refine rtT ?_
        have hR := Option.some.inj hR; subst hR
        exact hQ _ _ (LS.mk [(4, .ptr 0 0 0), (5, .sc (.int .i64 2))] (lblks 0 [boxB (α := differ_Kernel) true (differ_Kernel.mk 0 0 [])]) 1) (.tup [aggV (α := differ_Kernel) true (differ_Kernel.mk 0 0 []), .sc (.int .i64 2)]) [] (.inr rfl) (Weak.turnL [(8, 0)] [] rfl rfl (tc (trP' rfl rfl rfl rfl) (tc (.sc _) tn)) (mc rfl (.box rfl (.cons (.sc _) (.cons (.sc _) (.cons trN (.nil)))) rfl) mn)) (ro2 (rvC (v := aggV (α := differ_Kernel) true (differ_Kernel.mk 0 0 [])) rfl rfl ti36 rfl) (rvT (v := .sc (.int .i64 2)) rfl)) rfl rfl (.tup (.cons ldA (.cons (.sc _) .nil))) pn
      · refine AWP.skip ?_
        refine skT ?_
        refine AWP.sq ?_
        refine AWP.rgC 100 rfl rfl ?_
        refine ldB (v := .agg _) rfl rfl rfl rfl ti36 rfl rfl ?_
        refine stB (cs' := [.sc (.int .i64 r5.W), .sc (.int .i64 r5.H), rowV (α := Int) true r5.K]) rfl rfl rfl rfl ti36 rfl rfl rfl rfl rfl ?_
        refine pu (v := .sc _) rfl rfl (fun _ => rfl) ?_
        refine RunC.fin ?_
        refine AWP.ret ?_
        have hR := Option.some.inj hR; subst hR
        exact hQ _ _ (LS.mk [(4, .ptr 0 0 0), (5, .sc (.int .i64 0))] (lblks 0 [boxB (α := differ_Kernel) true r5]) 1) (.tup [aggV (α := differ_Kernel) true r5, .sc (.int .i64 0)]) [] (.inr rfl) (Weak.turnL [(8, 0)] [] rfl rfl (tc (trP' rfl rfl rfl rfl) (tc (.sc _) tn)) (mc rfl (.box rfl (.cons (.sc _) (.cons (.sc _) (.cons trR1 (.nil)))) rfl) mn)) (ro2 (rvC (v := aggV (α := differ_Kernel) true r5) rfl rfl ti36 rfl) (rvT (v := .sc (.int .i64 0)) rfl)) rfl rfl (.tup (.cons ldA (.cons (.sc _) .nil))) pn
theorem ok4 (s : spymake_Stream) (low : Int) (high : Int) (r : Int × spymake_Stream) (hR : Stream_Range s low high = some r) : FnD Try.prog 4 [boxB false s] [.ptr 0 0 0, .sc (.int .i64 low), .sc (.int .i64 high)] (.sc (.int .i64 r.1)) [boxB false r.2] := by
  refine FnX.walk Try.func4 rfl 19 1 (by simp [Try.ntmps4]) rfl fun W S F Q hQ => ?_
  unfold Stream_Range at hR
  refine AWP.sq ?_
  refine AWP.rgC 5 rfl rfl ?_
  refine pu (v := .sc _) rfl rfl (fun _ => rfl) ?_
  refine RunC.fin ?_
  refine AWP.sq ?_
  refine AWP.sq ?_
  refine AWP.rgC 17 rfl rfl ?_
  refine pu (v := .sc _) rfl rfl (fun _ => rfl) ?_
  refine pu (v := .sc _) rfl rfl (fun _ => rfl) ?_
  refine pu (v := .sc _) rfl rfl (fun _ => rfl) ?_
  refine RunC.fin ?_
  refine AWP.cd hR rfl (fun h1 hR => ?_) fun h1 hR => ?_
  · refine AWP.sq ?_
    refine AWP.rgC 25 rfl rfl ?_
    refine pu (v := .sc _) rfl rfl (fun _ => rfl) ?_
    refine pu (v := .sc _) rfl rfl (fun _ => rfl) ?_
    refine RunC.fin ?_
    refine AWP.ret ?_
    refine rtT ?_
    have hR := Option.some.inj hR; subst hR
    exact hQ _ _ (LS.mk [(6, .sc (.int .i64 low))] (lblks 0 [boxB (α := spymake_Stream) false s]) 1) (.sc (.int .i64 low)) [] (.inr rfl) (Weak.turnL [(0, 0)] [] rfl rfl (tc (.sc _) tn) (mc rfl (.box rfl (.cons trR1 (.cons (.sc _) (.nil))) rfl) mn)) (ro1 (rvT (v := .sc (.int .i64 low)) rfl)) rfl rfl (.sc _) (pc rfl bldB pn)
  · refine AWP.skip ?_
    refine skT ?_
    refine AWP.sq ?_
    refine AWP.rgC 53 rfl rfl ?_
    refine pu (v := .sc _) rfl rfl (fun _ => rfl) ?_
    refine pu (v := .ptr _ _ _) rfl rfl (fun _ => rfl) ?_
    refine pu (v := .sc _) rfl rfl (fun _ => rfl) ?_
    refine pu (v := .sc _) rfl rfl (fun _ => rfl) ?_
    refine pu (v := .sc _) rfl rfl (fun _ => rfl) ?_
    refine pu (v := .sc _) rfl rfl (fun _ => rfl) ?_
    obtain ⟨r2, hr2, hR⟩ := bindE hR
    refine cps (res' := .sc (.int .i64 r2.1)) (ups := [(0, boxB (α := spymake_Stream) false r2.2)]) [0] 41 rfl rfl rfl cb14 (ok14 s (w6 ((w6 (high - low)) + 1)) _ hr2) (.cons (ldP rfl rfl) (.cons (.sc _) (.nil))) (pc rfl (.box (.cons ldR' (.cons (.sc _) (.nil))) rfl) pn) rfl rfl rfl rfl rfl (by first | rfl | exact renR | exact renA | exact renS | simp only [V.ren, V.rens, renR, renA, renS] | (simp only [V.ren, V.rens, renR, renA, renS]; rfl)) (by simp only [passUps, renBox, renArr]; rfl) ?_
    refine pu (v := .sc _) rfl rfl (fun _ => rfl) ?_
    refine pu (v := .sc _) rfl rfl (fun _ => rfl) ?_
    refine RunC.fin ?_
    refine AWP.ret ?_
    have hR := Option.some.inj hR; subst hR
    exact hQ _ _ (LS.mk [(6, .sc (.int .i64 (w6 (low + r2.1))))] (lblks 0 [boxB (α := spymake_Stream) false r2.2]) 1) (.sc (.int .i64 (w6 (low + r2.1)))) [] (.inr rfl) (Weak.turnL [(0, 0)] [] rfl rfl (tc (.sc _) tn) (mc rfl (.box rfl (.cons trR1 (.cons (.sc _) (.nil))) rfl) mn)) (ro1 (rvT (v := .sc (.int .i64 (w6 (low + r2.1)))) rfl)) rfl rfl (.sc _) (pc rfl bldB pn)
theorem ok7 (s : spymake_Stream) (r : differ_Kernel × spymake_Stream) (hR : spykeep4_kernel s = some r) : FnD Try.prog 7 [boxB false s] [.ptr 0 0 0] (aggV (α := differ_Kernel) true r.1) [boxB false r.2] := by
  refine FnX.walk Try.func7 rfl 38 1 (by simp [Try.ntmps7]) rfl fun W S F Q hQ => ?_
  unfold spykeep4_kernel at hR
  refine AWP.sq ?_
  refine AWP.rgC 5 rfl rfl ?_
  refine al (cs := [.sc (.int .i64 0), .sc (.int .i64 0), .sc (.slice none 0 0)]) 1 rfl rfl ti36 rfl rfl ?_
  refine RunC.fin ?_
  refine AWP.sq ?_
  refine AWP.rgC 33 rfl rfl ?_
  refine pu (v := .ptr _ _ _) rfl rfl (fun _ => rfl) ?_
  obtain ⟨r1, hr1, hR⟩ := bindE hR
  refine cps (res' := .sc (.int .i64 r1.1)) (ups := [(0, boxB (α := spymake_Stream) false r1.2)]) [0] 9 rfl rfl rfl cb4 (ok4 s 1 3 _ hr1) (.cons (ldP rfl rfl) (.cons (.sc _) (.cons (.sc _) (.nil)))) (pc rfl (.box (.cons ldR' (.cons (.sc _) (.nil))) rfl) pn) rfl rfl rfl rfl rfl (by first | rfl | exact renR | exact renA | exact renS | simp only [V.ren, V.rens, renR, renA, renS] | (simp only [V.ren, V.rens, renR, renA, renS]; rfl)) (by simp only [passUps, renBox, renArr]; rfl) ?_
  refine pu (v := .ptr _ _ _) rfl rfl (fun _ => rfl) ?_
  obtain ⟨r2, hr2, hR⟩ := bindE hR
  refine cps (res' := .sc (.int .i64 r2.1)) (ups := [(0, boxB (α := spymake_Stream) false r2.2)]) [0] 17 rfl rfl rfl cb4 (ok4 r1.2 1 3 _ hr2) (.cons (ldP rfl rfl) (.cons (.sc _) (.cons (.sc _) (.nil)))) (pc rfl (.box (.cons ldR' (.cons (.sc _) (.nil))) rfl) pn) rfl rfl rfl rfl rfl (by first | rfl | exact renR | exact renA | exact renS | simp only [V.ren, V.rens, renR, renA, renS] | (simp only [V.ren, V.rens, renR, renA, renS]; rfl)) (by simp only [passUps, renBox, renArr]; rfl) ?_
  refine bu (cs := [.sc (.int .i64 r1.1), .sc (.int .i64 r2.1), .sc (.slice none 0 0)]) rfl bt36 rfl ?_
  refine al (cs := [.sc (.int .i64 0), .sc (.int .i64 0), .sc (.slice none 0 0)]) 25 rfl rfl ti36 rfl rfl ?_
  refine stB (cs' := [.sc (.int .i64 r1.1), .sc (.int .i64 r2.1), .sc (.slice none 0 0)]) rfl rfl rfl rfl ti36 rfl rfl rfl rfl rfl ?_
  refine RunC.fin ?_
  refine AWP.sq ?_
  refine AWP.sq ?_
  refine AWP.rgC 57 rfl rfl ?_
  refine fa rfl rfl ti36 rfl rfl ti3 rfl ?_
  refine ldB (v := .sc _) rfl rfl rfl rfl ti3 rfl rfl ?_
  refine fa rfl rfl ti36 rfl rfl ti3 rfl ?_
  refine ldB (v := .sc _) rfl rfl rfl rfl ti3 rfl rfl ?_
  refine pu (v := .sc _) rfl rfl (fun _ => rfl) ?_
  refine pu (v := .sc _) rfl rfl (fun _ => rfl) ?_
  refine RunC.fin ?_
  refine AWP.nilB Int 25 2 3 rfl rfl (cs' := [.sc (.int .i64 r1.1), .sc (.int .i64 r2.1), slV Int 57 0 0 0]) rfl ?_
  refine AWP.loopJ (fun s3 : spymake_Stream × (List Int) × Int => LS.mk [(0, .ptr 0 0 0), (2, .ptr 1 0 0), (3, .ptr 2 0 0), (13, .sc (.int .i64 (w6 (r1.1 * r2.1)))), (14, .sc (.int .i64 s3.2.2))] (lblks 0 [boxB (α := spymake_Stream) false s3.1, .box [.sc (.int .i64 0), .sc (.int .i64 0), .sc (.slice none 0 0)], .box [.sc (.int .i64 r1.1), .sc (.int .i64 r2.1), slV Int 3 0 0 s3.2.1.length], arrB (α := Int) 3 0 true s3.2.1]) 4) (fun z4 : spymake_Stream × (List Int) => LS.mk [(0, .ptr 0 0 0), (2, .ptr 1 0 0), (3, .ptr 2 0 0)] (lblks 0 [boxB (α := spymake_Stream) false z4.1, .box [.sc (.int .i64 0), .sc (.int .i64 0), .sc (.slice none 0 0)], .box [.sc (.int .i64 r1.1), .sc (.int .i64 r2.1), slV Int 3 0 0 z4.2.length], arrB (α := Int) 3 0 true z4.2]) 4) (spykeep4_kernel.l1 r1 r2) hR (s0 := (r2.2, ([] : List Int), 0)) (Weak.turnL [(0, 0), (1, 0), (25, 0), (57, 0)] [] rfl rfl (tc (trP' rfl rfl rfl rfl) (tc (trP' rfl rfl rfl rfl) (tc (trP' rfl rfl rfl rfl) (tc (.sc _) (tc (.sc _) tn))))) (mc rfl (.box rfl (.cons trR1 (.cons (.sc _) (.nil))) rfl) (mc rfl (.box rfl (.cons (.sc _) (.cons (.sc _) (.cons (.sc _) (.nil)))) rfl) (mc rfl (.box rfl (.cons (.sc _) (.cons (.sc _) (.cons (trS' rfl rfl rfl rfl rfl) (.nil)))) rfl) (mc rfl (btrA' rfl) mn))))) (fun s3 o3 hR => ?_) fun z4 hR => ?_
  · unfold spykeep4_kernel.l1 at hR
    refine AWP.sq ?_
    refine AWP.rgC 8 rfl rfl ?_
    refine pu (v := .sc _) rfl rfl (fun _ => rfl) ?_
    refine RunC.fin ?_
    refine AWP.sq ?_
    refine AWP.cd hR rfl (fun h5 hR => ?_) fun h5 hR => ?_
    · refine AWP.skip ?_
      refine skT ?_
      refine AWP.sq ?_
      refine AWP.block ?_
      refine AWP.rgD 52 [0, 1, 0, 4, 0, 28, 60, 124, 255, 511, 1023] ⟨[3, 5], [none, some [2], none, some [0], none, some [0], none, none, some [3, 36], none, some [2]]⟩ hmix (by kernel_rfl) rfl rfl ?_
      refine fa rfl rfl ti36 rfl rfl ti22 rfl ?_
      refine ldB (v := slV Int _ _ _ _) rfl rfl rfl rfl ti22 rfl rfl ?_
      refine pu (v := .ptr _ _ _) rfl rfl (fun _ => rfl) ?_
      obtain ⟨r6, hr6, hR⟩ := bindE hR
      refine cps (res' := .sc (.int .i64 r6.1)) (ups := [(0, boxB (α := spymake_Stream) false r6.2)]) [0] 20 rfl rfl rfl cb14 (ok14 s3.1 4 _ hr6) (.cons (ldP rfl rfl) (.cons (.sc _) (.nil))) (pc rfl (.box (.cons ldR' (.cons (.sc _) (.nil))) rfl) pn) rfl rfl rfl rfl rfl (by first | rfl | exact renR | exact renA | exact renS | simp only [V.ren, V.rens, renR, renA, renS] | (simp only [V.ren, V.rens, renR, renA, renS]; rfl)) (by simp only [passUps, renBox, renArr]; rfl) ?_
      refine pu (v := .ptr _ _ _) rfl rfl (fun _ => rfl) ?_
      obtain ⟨r7, hr7, hR⟩ := bindE hR
      refine cps (res' := .sc (.int .i64 r7.1)) (ups := [(0, boxB (α := spymake_Stream) false r7.2)]) [0] 28 rfl rfl rfl cb14 (ok14 r6.2 3 _ hr7) (.cons (ldP rfl rfl) (.cons (.sc _) (.nil))) (pc rfl (.box (.cons ldR' (.cons (.sc _) (.nil))) rfl) pn) rfl rfl rfl rfl rfl (by first | rfl | exact renR | exact renA | exact renS | simp only [V.ren, V.rens, renR, renA, renS] | (simp only [V.ren, V.rens, renR, renA, renS]; rfl)) (by simp only [passUps, renBox, renArr]; rfl) ?_
      refine pu (v := .sc _) rfl rfl (fun _ => rfl) ?_
      refine bs (α := Int) 36 true ([w6 (r6.1 * r7.1)] : List Int) rfl rfl ti22 rfl ti3 rfl rfl rfl rfl rfl ?_
      obtain ⟨h8, hR⟩ := chkE hR
      refine ap' (α := Int) (nw := true) (xs := s3.2.1) (ys := ([w6 (r6.1 * r7.1)] : List Int)) rfl rfl rfl rfl (srcS' rfl rfl rfl) ti22 rfl ti3 rfl h8 rfl ?_
      refine fa rfl rfl ti36 rfl rfl ti22 rfl ?_
      refine stB (cs' := [.sc (.int .i64 r1.1), .sc (.int .i64 r2.1), slV Int 3 1 0 (s3.2.1 ++ ([w6 (r6.1 * r7.1)] : List Int)).length]) rfl rfl rfl rfl ti22 rfl rfl rfl rfl rfl ?_
      refine RunC.blk ?_
      refine RunC.fin ?_
      refine AWP.rgC 60 rfl rfl ?_
      refine pu (v := .sc _) rfl rfl (fun _ => rfl) ?_
      refine pu (v := .sc _) rfl rfl (fun _ => rfl) ?_
      refine RunC.fin ?_
      refine ⟨(r7.2, s3.2.1 ++ ([w6 (r6.1 * r7.1)] : List Int), w6 (s3.2.2 + 1)), (Option.some.inj hR).symm, ?_⟩
      exact Weak.turnL [(0, 0), (1, 0), (2, 0), (3, 0)] [] rfl rfl (tc (trP' rfl rfl rfl rfl) (tc (trP' rfl rfl rfl rfl) (tc (trP' rfl rfl rfl rfl) (tc (.sc _) (tc (.sc _) tn))))) (mc rfl (.box rfl (.cons trR1 (.cons (.sc _) (.nil))) rfl) (mc rfl (.box rfl (.cons (.sc _) (.cons (.sc _) (.cons (.sc _) (.nil)))) rfl) (mc rfl (.box rfl (.cons (.sc _) (.cons (.sc _) (.cons (trS' rfl rfl rfl rfl rfl) (.nil)))) rfl) (mc rfl (btrA' rfl) mn))))
    · refine AWP.exit ?_
      refine exT ?_
      refine exT ?_
      refine exH (skT ?_)
      refine ⟨(s3.1, s3.2.1), (Option.some.inj hR).symm, ?_⟩
      exact Weak.turnL [(0, 0), (1, 0), (2, 0), (3, 0)] [] rfl rfl (tc (trP' rfl rfl rfl rfl) (tc (trP' rfl rfl rfl rfl) (tc (trP' rfl rfl rfl rfl) tn))) (mc rfl (.box rfl (.cons trR1 (.cons (.sc _) (.nil))) rfl) (mc rfl (.box rfl (.cons (.sc _) (.cons (.sc _) (.cons (.sc _) (.nil)))) rfl) (mc rfl (.box rfl (.cons (.sc _) (.cons (.sc _) (.cons (trS' rfl rfl rfl rfl rfl) (.nil)))) rfl) (mc rfl (btrA' rfl) mn))))
  · refine skT ?_
    refine AWP.sq ?_
    refine AWP.rgD 48 [0, 1, 0, 0, 8, 24, 60, 0, 252, 511, 1023] ⟨[6, 8], [none, some [2], none, none, some [2], none, some [0], none, some [0], none, some [3]]⟩ hmix (by kernel_rfl) rfl rfl ?_
    refine fa rfl rfl ti36 rfl rfl ti22 rfl ?_
    refine ldB (v := slV Int _ _ _ _) rfl rfl rfl rfl ti22 rfl rfl ?_
    refine pu (v := .ptr _ _ _) rfl rfl (fun _ => rfl) ?_
    refine fa rfl rfl ti36 rfl rfl ti22 rfl ?_
    refine ldB (v := slV Int _ _ _ _) rfl rfl rfl rfl ti22 rfl rfl ?_
    refine lenS (α := Int) rfl rfl ti22 rfl ?_
    obtain ⟨r9, hr9, hR⟩ := bindE hR
    refine cps (res' := .sc (.int .i64 r9.1)) (ups := [(0, boxB (α := spymake_Stream) false r9.2)]) [0] 28 rfl rfl rfl cb14 (ok14 z4.1 (z4.2.length : Int) _ hr9) (.cons (ldP rfl rfl) (.cons (.sc _) (.nil))) (pc rfl (.box (.cons ldR' (.cons (.sc _) (.nil))) rfl) pn) rfl rfl rfl rfl rfl (by first | rfl | exact renR | exact renA | exact renS | simp only [V.ren, V.rens, renR, renA, renS] | (simp only [V.ren, V.rens, renR, renA, renS]; rfl)) (by simp only [passUps, renBox, renArr]; rfl) ?_
    refine pu (v := .ptr _ _ _) rfl rfl (fun _ => rfl) ?_
    obtain ⟨r10, hr10, hR⟩ := bindE hR
    refine cps (res' := .sc (.int .i64 r10.1)) (ups := [(0, boxB (α := spymake_Stream) false r10.2)]) [0] 36 rfl rfl rfl cb4 (ok4 r9.2 1 5 _ hr10) (.cons (ldP rfl rfl) (.cons (.sc _) (.cons (.sc _) (.nil)))) (pc rfl (.box (.cons ldR' (.cons (.sc _) (.nil))) rfl) pn) rfl rfl rfl rfl rfl (by first | rfl | exact renR | exact renA | exact renS | simp only [V.ren, V.rens, renR, renA, renS] | (simp only [V.ren, V.rens, renR, renA, renS]; rfl)) (by simp only [passUps, renBox, renArr]; rfl) ?_
    obtain ⟨h11, hR⟩ := chkE hR
    refine ixS0 (α := Int) rfl rfl rfl ti22 rfl ti3 rfl h11 ?_
    refine stE (α := Int) (y := r10.1) rfl rfl rfl (ixlt h11) ti3 rfl rfl rfl rfl rfl ?_
    refine RunC.fin ?_
    refine AWP.sq ?_
    refine AWP.rgC 56 rfl rfl ?_
    refine ldB (v := .agg _) rfl rfl rfl rfl ti36 rfl rfl ?_
    refine stB (cs' := [.sc (.int .i64 r1.1), .sc (.int .i64 r2.1), slV Int 3 0 0 z4.2.length]) rfl rfl rfl rfl ti36 rfl rfl rfl rfl rfl ?_
    refine RunC.fin ?_
    refine AWP.ret ?_
    have hR := Option.some.inj hR; subst hR
    exact hQ _ _ (LS.mk [(2, .ptr 1 0 0)] (lblks 0 [boxB (α := spymake_Stream) false r10.2, boxB (α := differ_Kernel) true (differ_Kernel.mk r1.1 r2.1 (List.set z4.2 r9.1.toNat r10.1))]) 2) (aggV (α := differ_Kernel) true (differ_Kernel.mk r1.1 r2.1 (List.set z4.2 r9.1.toNat r10.1))) [] (.inr rfl) (Weak.turnL [(0, 0), (1, 0)] [3] rfl rfl (tc (trP' rfl rfl rfl rfl) tn) (mc rfl (.box rfl (.cons trR1 (.cons (.sc _) (.nil))) rfl) (mc rfl (.box rfl (.cons (.sc _) (.cons (.sc _) (.cons (trF' rfl rfl id (by simp only [List.length_set])) (.nil)))) rfl) mn))) (ro1 (rvC (v := aggV (α := differ_Kernel) true (differ_Kernel.mk r1.1 r2.1 (List.set z4.2 r9.1.toNat r10.1))) rfl rfl ti36 rfl)) rfl rfl ldA (pc rfl bldB pn)
theorem ok6 (s : spymake_Stream) (w : Int) (h : Int) (light : List Int) (holes : Bool) (r : Cells × spymake_Stream) (hR : Stream_Veil s w h light holes = some r) : FnD Try.prog 6 [boxB false s] [.ptr 0 0 0, .sc (.int .i64 w), .sc (.int .i64 h), rowV false light, .sc (.bool holes)] (aggV (α := Cells) true r.1) [boxB false r.2] := by
  refine FnX.walk Try.func6 rfl 58 1 (by simp [Try.ntmps6]) rfl fun W S F Q hQ => ?_
  unfold Stream_Veil at hR
  refine AWP.sq ?_
  refine AWP.rgC 5 rfl rfl ?_
  refine al (cs := [.sc (.int .i64 0), .sc (.int .i64 0), .sc (.slice none 0 0)]) 1 rfl rfl ti33 rfl rfl ?_
  refine RunC.fin ?_
  refine AWP.sq ?_
  refine AWP.rgC 25 rfl rfl ?_
  refine pu (v := .sc _) rfl rfl (fun _ => rfl) ?_
  refine pu (v := .sc _) rfl rfl (fun _ => rfl) ?_
  refine bu (cs := [.sc (.int .i64 w), .sc (.int .i64 h), .sc (.slice none 0 0)]) rfl bt33 rfl ?_
  refine al (cs := [.sc (.int .i64 0), .sc (.int .i64 0), .sc (.slice none 0 0)]) 17 rfl rfl ti33 rfl rfl ?_
  refine stB (cs' := [.sc (.int .i64 w), .sc (.int .i64 h), .sc (.slice none 0 0)]) rfl rfl rfl rfl ti33 rfl rfl rfl rfl rfl ?_
  refine RunC.fin ?_
  refine AWP.sq ?_
  refine AWP.rgC 49 rfl rfl ?_
  refine bs (α := Int) 25 true ([0, 3, 30, 200] : List Int) rfl rfl ti22 rfl ti3 rfl rfl rfl rfl rfl ?_
  refine pu (v := .ptr _ _ _) rfl rfl (fun _ => rfl) ?_
  obtain ⟨r1, hr1, hR⟩ := bindE hR
  refine cps (res' := .sc (.int .i64 r1.1)) (ups := [(0, boxB (α := spymake_Stream) false r1.2)]) [0] 33 rfl rfl rfl cb14 (ok14 s 4 _ hr1) (.cons (ldP rfl rfl) (.cons (.sc _) (.nil))) (pc rfl (.box (.cons ldR' (.cons (.sc _) (.nil))) rfl) pn) rfl rfl rfl rfl rfl (by first | rfl | exact renR | exact renA | exact renS | simp only [V.ren, V.rens, renR, renA, renS] | (simp only [V.ren, V.rens, renR, renA, renS]; rfl)) (by simp only [passUps, renBox, renArr]; rfl) ?_
  obtain ⟨h2, hR⟩ := chkE hR
  refine ixS0 (α := Int) rfl rfl rfl ti22 rfl ti3 rfl h2 ?_
  refine ldE (α := Int) (v := .sc _) rfl rfl rfl (ixlt h2) ti3 rfl rfl rfl rfl ?_
  refine pu (v := .sc _) rfl rfl (fun _ => rfl) ?_
  refine RunC.fin ?_
  refine AWP.sq ?_
  refine AWP.sq ?_
  refine AWP.rgC 61 rfl rfl ?_
  refine pu (v := rowV _ light) rfl rfl (fun _ => rfl) ?_
  refine lenL (α := Int) rfl rfl ti27 rfl ?_
  refine pu (v := .sc _) rfl rfl (fun _ => rfl) ?_
  refine RunC.fin ?_
  refine AWP.nilB Bound 17 2 49 rfl rfl (cs' := [.sc (.int .i64 w), .sc (.int .i64 h), slV Bound 61 0 0 0]) rfl ?_
  refine AWP.loopJ (fun s3 : spymake_Stream × (List Bound) × Int => LS.mk [(0, .ptr 0 0 0), (4, .sc (.bool holes)), (10, .ptr 1 0 0), (11, .ptr 2 0 0), (12, .sc (.int .i64 (gt ([0, 3, 30, 200] : List Int) r1.1))), (24, rowV (α := Int) false light), (25, .sc (.int .i64 (light.length : Int))), (26, .sc (.int .i64 s3.2.2))] (lblks 0 [boxB (α := spymake_Stream) false s3.1, .box [.sc (.int .i64 0), .sc (.int .i64 0), .sc (.slice none 0 0)], .box [.sc (.int .i64 w), .sc (.int .i64 h), slV Bound 3 0 0 s3.2.1.length], arrB (α := Bound) 49 0 true s3.2.1]) 4) (fun z4 : spymake_Stream × (List Bound) => LS.mk [(10, .ptr 1 0 0), (11, .ptr 2 0 0)] (lblks 0 [boxB (α := spymake_Stream) false z4.1, .box [.sc (.int .i64 0), .sc (.int .i64 0), .sc (.slice none 0 0)], .box [.sc (.int .i64 w), .sc (.int .i64 h), slV Bound 3 0 0 z4.2.length], arrB (α := Bound) 49 0 true z4.2]) 4) (Stream_Veil.l1 light holes r1) hR (s0 := (r1.2, ([] : List Bound), 0)) (Weak.turnL [(0, 0), (1, 0), (17, 0), (61, 0)] [] rfl rfl (tc (trP' rfl rfl rfl rfl) (tc (.sc _) (tc (trP' rfl rfl rfl rfl) (tc (trP' rfl rfl rfl rfl) (tc (.sc _) (tc trR1 (tc (.sc _) (tc (.sc _) tn)))))))) (mc rfl (.box rfl (.cons trR1 (.cons (.sc _) (.nil))) rfl) (mc rfl (.box rfl (.cons (.sc _) (.cons (.sc _) (.cons (.sc _) (.nil)))) rfl) (mc rfl (.box rfl (.cons (.sc _) (.cons (.sc _) (.cons (trS' rfl rfl rfl rfl rfl) (.nil)))) rfl) (mc rfl (btrA' rfl) mn))))) (fun s3 o3 hR => ?_) fun z4 hR => ?_
  · unfold Stream_Veil.l1 at hR
    refine AWP.sq ?_
    refine AWP.rgC 8 rfl rfl ?_
    refine pu (v := .sc _) rfl rfl (fun _ => rfl) ?_
    refine RunC.fin ?_
    refine AWP.sq ?_
    refine AWP.cd hR rfl (fun h5 hR => ?_) fun h5 hR => ?_
    · refine AWP.skip ?_
      refine skT ?_
      refine AWP.sq ?_
      refine AWP.block ?_
      refine AWP.sq ?_
      refine AWP.rgC 20 rfl rfl ?_
      obtain ⟨h6, hR⟩ := chkE hR
      refine ixL (α := Int) rfl rfl rfl ti27 rfl ti28 rfl h6 ?_
      refine ldR (v := .sc _) rfl rfl ti28 rfl ?_
      refine pu (v := .sc _) rfl rfl (fun _ => rfl) ?_
      refine RunC.fin ?_
      refine AWP.sq ?_
      refine AWP.rgC 80 rfl rfl ?_
      refine pu (v := .sc _) rfl rfl (fun _ => rfl) ?_
      refine pu (v := .ptr _ _ _) rfl rfl (fun _ => rfl) ?_
      refine pu (v := .sc _) rfl rfl (fun _ => rfl) ?_
      refine pu (v := .sc _) rfl rfl (fun _ => rfl) ?_
      obtain ⟨r7, hr7, hR⟩ := bindE hR
      refine cps (res' := .sc (.int .i64 r7.1)) (ups := [(0, boxB (α := spymake_Stream) false r7.2)]) [0] 36 rfl rfl rfl cb14 (ok14 s3.1 (w6 ((gt ([0, 3, 30, 200] : List Int) r1.1) + 1)) _ hr7) (.cons (ldP rfl rfl) (.cons (.sc _) (.nil))) (pc rfl (.box (.cons ldR' (.cons (.sc _) (.nil))) rfl) pn) rfl rfl rfl rfl rfl (by first | rfl | exact renR | exact renA | exact renS | simp only [V.ren, V.rens, renR, renA, renS] | (simp only [V.ren, V.rens, renR, renA, renS]; rfl)) (by simp only [passUps, renBox, renArr]; rfl) ?_
      refine pu (v := .sc _) rfl rfl (fun _ => rfl) ?_
      refine pu (v := .sc _) rfl rfl (fun _ => rfl) ?_
      refine pu (v := .ptr _ _ _) rfl rfl (fun _ => rfl) ?_
      refine pu (v := .sc _) rfl rfl (fun _ => rfl) ?_
      refine pu (v := .sc _) rfl rfl (fun _ => rfl) ?_
      obtain ⟨r8, hr8, hR⟩ := bindE hR
      refine cps (res' := .sc (.int .i64 r8.1)) (ups := [(0, boxB (α := spymake_Stream) false r8.2)]) [0] 60 rfl rfl rfl cb14 (ok14 r7.2 (w6 ((gt ([0, 3, 30, 200] : List Int) r1.1) + 1)) _ hr8) (.cons (ldP rfl rfl) (.cons (.sc _) (.nil))) (pc rfl (.box (.cons ldR' (.cons (.sc _) (.nil))) rfl) pn) rfl rfl rfl rfl rfl (by first | rfl | exact renR | exact renA | exact renS | simp only [V.ren, V.rens, renR, renA, renS] | (simp only [V.ren, V.rens, renR, renA, renS]; rfl)) (by simp only [passUps, renBox, renArr]; rfl) ?_
      refine pu (v := .sc _) rfl rfl (fun _ => rfl) ?_
      refine bu (cs := [.sc (.int .i64 (w6 ((gt light s3.2.2) - r7.1))), .sc (.int .i64 (w6 ((gt light s3.2.2) + r8.1))), .sc (.bool false)]) rfl bt49 rfl ?_
      refine al (cs := [.sc (.int .i64 0), .sc (.int .i64 0), .sc (.bool false)]) 72 rfl rfl ti49 rfl rfl ?_
      refine stB (cs' := [.sc (.int .i64 (w6 ((gt light s3.2.2) - r7.1))), .sc (.int .i64 (w6 ((gt light s3.2.2) + r8.1))), .sc (.bool false)]) rfl rfl rfl rfl ti49 rfl rfl rfl rfl rfl ?_
      refine RunC.fin ?_
      refine AWP.sq ?_
      refine AWP.joinX (fun z9 : spymake_Stream × Bool => LS.mk [(0, .ptr 0 0 0), (4, .sc (.bool holes)), (10, .ptr 1 0 0), (11, .ptr 2 0 0), (12, .sc (.int .i64 (gt ([0, 3, 30, 200] : List Int) r1.1))), (15, .ptr 4 0 0), (24, rowV (α := Int) false light), (25, .sc (.int .i64 (light.length : Int))), (26, .sc (.int .i64 s3.2.2)), (48, .sc (.bool z9.2))] (lblks 0 [boxB (α := spymake_Stream) false z9.1, .box [.sc (.int .i64 0), .sc (.int .i64 0), .sc (.slice none 0 0)], .box [.sc (.int .i64 w), .sc (.int .i64 h), slV Bound 3 0 0 s3.2.1.length], arrB (α := Bound) 49 0 true s3.2.1, boxB (α := Bound) true (Bound.mk (w6 ((gt light s3.2.2) - r7.1)) (w6 ((gt light s3.2.2) + r8.1)) false)]) 5) hR (fun o9 hR => ?_) fun z9 hR => ?_
      · refine AWP.rgC 104 rfl rfl ?_
        refine pu (v := .sc _) rfl rfl (fun _ => rfl) ?_
        refine pu (v := .sc _) rfl rfl (fun _ => rfl) ?_
        refine brR hR (fun h10 hR => ?_) fun h10 hR => ?_
        · refine pu (v := .ptr _ _ _) (wtG rfl rfl rfl h10) rfl (fun _ => rfl) ?_
          obtain ⟨r11, hr11, hR⟩ := bindE hR
          refine cps (res' := .sc (.int .i64 r11.1)) (ups := [(0, boxB (α := spymake_Stream) false r11.2)]) [0] 92 (wtG rfl rfl rfl h10) rfl rfl cb14 (ok14 r8.2 9 _ hr11) (.cons (ldP rfl rfl) (.cons (.sc _) (.nil))) (pc rfl (.box (.cons ldR' (.cons (.sc _) (.nil))) rfl) pn) rfl rfl rfl rfl rfl (by first | rfl | exact renR | exact renA | exact renS | simp only [V.ren, V.rens, renR, renA, renS] | (simp only [V.ren, V.rens, renR, renA, renS]; rfl)) (by simp only [passUps, renBox, renArr]; rfl) ?_
          refine pu (v := .sc _) (wtG rfl rfl rfl h10) rfl (fun _ => rfl) ?_
          refine pkT (v := .sc (.bool (r11.1 == 0))) rfl rfl h10 rfl ?_
          refine RunC.fin ?_
          have hR := Option.some.inj hR; subst hR
          exact Weak.turnL [(0, 0), (1, 0), (2, 0), (3, 0), (72, 0)] [] rfl rfl (tc (trP' rfl rfl rfl rfl) (tc (.sc _) (tc (trP' rfl rfl rfl rfl) (tc (trP' rfl rfl rfl rfl) (tc (.sc _) (tc (trP' rfl rfl rfl rfl) (tc trR1 (tc (.sc _) (tc (.sc _) (tc (.sc _) tn)))))))))) (mc rfl (.box rfl (.cons trR1 (.cons (.sc _) (.nil))) rfl) (mc rfl (.box rfl (.cons (.sc _) (.cons (.sc _) (.cons (.sc _) (.nil)))) rfl) (mc rfl (.box rfl (.cons (.sc _) (.cons (.sc _) (.cons (trS' rfl rfl rfl rfl rfl) (.nil)))) rfl) (mc rfl (btrA' rfl) (mc rfl (.box rfl (.cons (.sc _) (.cons (.sc _) (.cons (.sc _) (.nil)))) rfl) mn)))))
        · refine sk (skW rfl rfl rfl h10) ?_
          refine sk (skW rfl rfl rfl h10) ?_
          refine sk (skW rfl rfl rfl h10) ?_
          refine pkF (v := .sc (.bool false)) rfl rfl h10 rfl ?_
          refine RunC.fin ?_
          have hR := Option.some.inj hR; subst hR
          exact Weak.turnL [(0, 0), (1, 0), (2, 0), (3, 0), (72, 0)] [] rfl rfl (tc (trP' rfl rfl rfl rfl) (tc (.sc _) (tc (trP' rfl rfl rfl rfl) (tc (trP' rfl rfl rfl rfl) (tc (.sc _) (tc (trP' rfl rfl rfl rfl) (tc trR1 (tc (.sc _) (tc (.sc _) (tc (.sc _) tn)))))))))) (mc rfl (.box rfl (.cons trR1 (.cons (.sc _) (.nil))) rfl) (mc rfl (.box rfl (.cons (.sc _) (.cons (.sc _) (.cons (.sc _) (.nil)))) rfl) (mc rfl (.box rfl (.cons (.sc _) (.cons (.sc _) (.cons (trS' rfl rfl rfl rfl rfl) (.nil)))) rfl) (mc rfl (btrA' rfl) (mc rfl (.box rfl (.cons (.sc _) (.cons (.sc _) (.cons (.sc _) (.nil)))) rfl) mn)))))
      · refine AWP.cd hR rfl (fun h12 hR => ?_) fun h12 hR => ?_
        · refine AWP.rgC 13 rfl rfl ?_
          refine bu (cs := [.sc (.int .i64 0), .sc (.int .i64 0), .sc (.bool true)]) rfl bt49 rfl ?_
          refine stB (cs' := [.sc (.int .i64 0), .sc (.int .i64 0), .sc (.bool true)]) rfl rfl rfl rfl ti49 rfl rfl rfl rfl rfl ?_
          refine RunC.fin ?_
          refine AWP.rgC 41 rfl rfl ?_
          refine fa rfl rfl ti33 rfl rfl ti31 rfl ?_
          refine ldB (v := slV Bound _ _ _ _) rfl rfl rfl rfl ti31 rfl rfl ?_
          refine ldB (v := .agg _) rfl rfl rfl rfl ti49 rfl rfl ?_
          refine bs (α := Bound) 25 true ([Bound.mk 0 0 true] : List Bound) rfl rfl ti31 rfl ti49 rfl rfl rfl rfl rfl ?_
          obtain ⟨h13, hR⟩ := chkE hR
          refine ap' (α := Bound) (nw := true) (xs := s3.2.1) (ys := ([Bound.mk 0 0 true] : List Bound)) rfl rfl rfl rfl (srcS' rfl rfl rfl) ti31 rfl ti49 rfl h13 rfl ?_
          refine fa rfl rfl ti33 rfl rfl ti31 rfl ?_
          refine stB (cs' := [.sc (.int .i64 w), .sc (.int .i64 h), slV Bound 3 1 0 (s3.2.1 ++ ([Bound.mk 0 0 true] : List Bound)).length]) rfl rfl rfl rfl ti31 rfl rfl rfl rfl rfl ?_
          refine RunC.blk ?_
          refine RunC.fin ?_
          refine AWP.rgC 49 rfl rfl ?_
          refine pu (v := .sc _) rfl rfl (fun _ => rfl) ?_
          refine pu (v := .sc _) rfl rfl (fun _ => rfl) ?_
          refine RunC.fin ?_
          refine ⟨(z9.1, s3.2.1 ++ ([Bound.mk 0 0 true] : List Bound), w6 (s3.2.2 + 1)), (Option.some.inj hR).symm, ?_⟩
          exact Weak.turnL [(0, 0), (1, 0), (2, 0), (3, 0)] [] rfl rfl (tc (trP' rfl rfl rfl rfl) (tc (.sc _) (tc (trP' rfl rfl rfl rfl) (tc (trP' rfl rfl rfl rfl) (tc (.sc _) (tc trR1 (tc (.sc _) (tc (.sc _) tn)))))))) (mc rfl (.box rfl (.cons trR1 (.cons (.sc _) (.nil))) rfl) (mc rfl (.box rfl (.cons (.sc _) (.cons (.sc _) (.cons (.sc _) (.nil)))) rfl) (mc rfl (.box rfl (.cons (.sc _) (.cons (.sc _) (.cons (trS' rfl rfl rfl rfl rfl) (.nil)))) rfl) (mc rfl (btrA' rfl) mn))))
        · refine AWP.skip ?_
          refine skT ?_
          refine AWP.rgC 33 rfl rfl ?_
          refine fa rfl rfl ti33 rfl rfl ti31 rfl ?_
          refine ldB (v := slV Bound _ _ _ _) rfl rfl rfl rfl ti31 rfl rfl ?_
          refine ldB (v := .agg _) rfl rfl rfl rfl ti49 rfl rfl ?_
          refine bs (α := Bound) 17 true ([Bound.mk (w6 ((gt light s3.2.2) - r7.1)) (w6 ((gt light s3.2.2) + r8.1)) false] : List Bound) rfl rfl ti31 rfl ti49 rfl rfl rfl rfl rfl ?_
          obtain ⟨h14, hR⟩ := chkE hR
          refine ap' (α := Bound) (nw := true) (xs := s3.2.1) (ys := ([Bound.mk (w6 ((gt light s3.2.2) - r7.1)) (w6 ((gt light s3.2.2) + r8.1)) false] : List Bound)) rfl rfl rfl rfl (srcS' rfl rfl rfl) ti31 rfl ti49 rfl h14 rfl ?_
          refine fa rfl rfl ti33 rfl rfl ti31 rfl ?_
          refine stB (cs' := [.sc (.int .i64 w), .sc (.int .i64 h), slV Bound 3 1 0 (s3.2.1 ++ ([Bound.mk (w6 ((gt light s3.2.2) - r7.1)) (w6 ((gt light s3.2.2) + r8.1)) false] : List Bound)).length]) rfl rfl rfl rfl ti31 rfl rfl rfl rfl rfl ?_
          refine RunC.blk ?_
          refine RunC.fin ?_
          refine AWP.rgC 41 rfl rfl ?_
          refine pu (v := .sc _) rfl rfl (fun _ => rfl) ?_
          refine pu (v := .sc _) rfl rfl (fun _ => rfl) ?_
          refine RunC.fin ?_
          refine ⟨(z9.1, s3.2.1 ++ ([Bound.mk (w6 ((gt light s3.2.2) - r7.1)) (w6 ((gt light s3.2.2) + r8.1)) false] : List Bound), w6 (s3.2.2 + 1)), (Option.some.inj hR).symm, ?_⟩
          exact Weak.turnL [(0, 0), (1, 0), (2, 0), (3, 0)] [] rfl rfl (tc (trP' rfl rfl rfl rfl) (tc (.sc _) (tc (trP' rfl rfl rfl rfl) (tc (trP' rfl rfl rfl rfl) (tc (.sc _) (tc trR1 (tc (.sc _) (tc (.sc _) tn)))))))) (mc rfl (.box rfl (.cons trR1 (.cons (.sc _) (.nil))) rfl) (mc rfl (.box rfl (.cons (.sc _) (.cons (.sc _) (.cons (.sc _) (.nil)))) rfl) (mc rfl (.box rfl (.cons (.sc _) (.cons (.sc _) (.cons (trS' rfl rfl rfl rfl rfl) (.nil)))) rfl) (mc rfl (btrA' rfl) mn))))
    · refine AWP.exit ?_
      refine exT ?_
      refine exT ?_
      refine exH (skT ?_)
      refine ⟨(s3.1, s3.2.1), (Option.some.inj hR).symm, ?_⟩
      exact Weak.turnL [(0, 0), (1, 0), (2, 0), (3, 0)] [] rfl rfl (tc (trP' rfl rfl rfl rfl) (tc (trP' rfl rfl rfl rfl) tn)) (mc rfl (.box rfl (.cons trR1 (.cons (.sc _) (.nil))) rfl) (mc rfl (.box rfl (.cons (.sc _) (.cons (.sc _) (.cons (.sc _) (.nil)))) rfl) (mc rfl (.box rfl (.cons (.sc _) (.cons (.sc _) (.cons (trS' rfl rfl rfl rfl rfl) (.nil)))) rfl) (mc rfl (btrA' rfl) mn))))
  · refine skT ?_
    refine AWP.sq ?_
    refine AWP.rgC 12 rfl rfl ?_
    refine ldB (v := .agg _) rfl rfl rfl rfl ti33 rfl rfl ?_
    refine stB (cs' := [.sc (.int .i64 w), .sc (.int .i64 h), slV Bound 3 0 0 z4.2.length]) rfl rfl rfl rfl ti33 rfl rfl rfl rfl rfl ?_
    refine RunC.fin ?_
    refine AWP.ret ?_
    have hR := Option.some.inj hR; subst hR
    exact hQ _ _ (LS.mk [(10, .ptr 1 0 0)] (lblks 0 [boxB (α := spymake_Stream) false z4.1, boxB (α := Cells) true (Cells.mk w h z4.2)]) 2) (aggV (α := Cells) true (Cells.mk w h z4.2)) [] (.inr rfl) (Weak.turnL [(0, 0), (1, 0)] [3] rfl rfl (tc (trP' rfl rfl rfl rfl) tn) (mc rfl (.box rfl (.cons trR1 (.cons (.sc _) (.nil))) rfl) (mc rfl (.box rfl (.cons (.sc _) (.cons (.sc _) (.cons (trF' rfl rfl id rfl) (.nil)))) rfl) mn))) (ro1 (rvC (v := aggV (α := Cells) true (Cells.mk w h z4.2)) rfl rfl ti33 rfl)) rfl rfl ldA (pc rfl bldB pn)
theorem ok5 (s : spymake_Stream) (w : Int) (h : Int) (points : Int) (r : (List Int) × Int × spymake_Stream) (hR : Stream_Lights s w h points = some r) : FnD Try.prog 5 [boxB false s] [.ptr 0 0 0, .sc (.int .i64 w), .sc (.int .i64 h), .sc (.int .i64 points)] (.tup [rowV (α := Int) true r.1, .sc (.int .i64 r.2.1)]) [boxB false r.2.2] := by
  refine FnX.walk Try.func5 rfl 116 1 (by simp [Try.ntmps5]) rfl fun W S F Q hQ => ?_
  unfold Stream_Lights at hR
  refine AWP.sq ?_
  refine AWP.rgC 9 rfl rfl ?_
  refine pu (v := .sc _) rfl rfl (fun _ => rfl) ?_
  refine pu (v := .sc _) rfl rfl (fun _ => rfl) ?_
  refine RunC.fin ?_
  refine AWP.sq ?_
  refine AWP.rgC 21 rfl rfl ?_
  refine pu (v := .ptr _ _ _) rfl rfl (fun _ => rfl) ?_
  obtain ⟨r1, hr1, hR⟩ := bindE hR
  refine cps (res' := .sc (.int .i64 r1.1)) (ups := [(0, boxB (α := spymake_Stream) false r1.2)]) [0] 13 rfl rfl rfl cb14 (ok14 s 40 _ hr1) (.cons (ldP rfl rfl) (.cons (.sc _) (.nil))) (pc rfl (.box (.cons ldR' (.cons (.sc _) (.nil))) rfl) pn) rfl rfl rfl rfl rfl (by first | rfl | exact renR | exact renA | exact renS | simp only [V.ren, V.rens, renR, renA, renS] | (simp only [V.ren, V.rens, renR, renA, renS]; rfl)) (by simp only [passUps, renBox, renArr]; rfl) ?_
  refine pu (v := .sc _) rfl rfl (fun _ => rfl) ?_
  refine RunC.fin ?_
  refine AWP.sq ?_
  refine AWP.rgC 41 rfl rfl ?_
  refine pu (v := .sc _) rfl rfl (fun _ => rfl) ?_
  refine pu (v := .sc _) rfl rfl (fun _ => rfl) ?_
  refine pu (v := .sc _) rfl rfl (fun _ => rfl) ?_
  obtain ⟨h2, hR⟩ := chkE hR
  refine mk (α := Int) 33 true 0 rfl rfl rfl rfl ti27 rfl ti28 rfl rfl h2 ?_
  refine pu (v := slV Int _ _ _ _) rfl rfl (fun _ => rfl) ?_
  refine RunC.fin ?_
  refine AWP.sq ?_
  refine AWP.sq ?_
  refine AWP.rgC 53 rfl rfl ?_
  refine pu (v := slV Int _ _ _ _) rfl rfl (fun _ => rfl) ?_
  refine lenS (α := Int) rfl rfl ti27 rfl ?_
  refine pu (v := .sc _) rfl rfl (fun _ => rfl) ?_
  refine RunC.fin ?_
  refine AWP.loopJ (fun s3 : (List Int) × Int => LS.mk [(0, .ptr 0 0 0), (1, .sc (.int .i64 w)), (2, .sc (.int .i64 h)), (3, .sc (.int .i64 points)), (10, .sc (.int .i64 r1.1)), (11, slV Int 1 0 0 s3.1.length), (27, .sc (.int .i64 ((List.replicate (w6 (w * h)).toNat (0 : Int)).length : Int))), (28, .sc (.int .i64 s3.2))] (lblks 0 [boxB (α := spymake_Stream) false r1.2, arrB (α := Int) 28 0 true s3.1]) 2) (fun z4 : (List Int) => LS.mk [(0, .ptr 0 0 0), (1, .sc (.int .i64 w)), (2, .sc (.int .i64 h)), (3, .sc (.int .i64 points)), (10, .sc (.int .i64 r1.1)), (11, slV Int 1 0 0 z4.length)] (lblks 0 [boxB (α := spymake_Stream) false r1.2, arrB (α := Int) 28 0 true z4]) 2) (Stream_Lights.l1 w h r1) hR (s0 := (List.replicate (w6 (w * h)).toNat (0 : Int), 0)) (Weak.turnL [(0, 0), (33, 0)] [] rfl rfl (tc (trP' rfl rfl rfl rfl) (tc (.sc _) (tc (.sc _) (tc (.sc _) (tc (.sc _) (tc (trS' rfl rfl rfl rfl rfl) (tc (.sc _) (tc (.sc _) tn)))))))) (mc rfl (.box rfl (.cons trR1 (.cons (.sc _) (.nil))) rfl) (mc rfl (btrA' rfl) mn))) (fun s3 o3 hR => ?_) fun z4 hR => ?_
  · unfold Stream_Lights.l1 at hR
    refine AWP.sq ?_
    refine AWP.rgC 6 rfl rfl ?_
    obtain ⟨v5, ev5, hR⟩ := letE hR
    refine pu (v := .sc _) rfl rfl (fun _ => puB ev5) ?_
    refine RunC.fin ?_
    refine AWP.sq ?_
    refine AWP.cd hR rfl (fun h6 hR => ?_) fun h6 hR => ?_
    · refine AWP.skip ?_
      refine skT ?_
      refine AWP.sq ?_
      refine AWP.block ?_
      refine AWP.sq ?_
      refine AWP.rgC 14 rfl rfl ?_
      refine pu (v := .sc _) rfl rfl (fun _ => rfl) ?_
      refine pu (v := .sc _) rfl rfl (fun _ => rfl) ?_
      refine RunC.fin ?_
      refine AWP.rgC 34 rfl rfl ?_
      refine pu (v := slV Int _ _ _ _) rfl rfl (fun _ => rfl) ?_
      refine pu (v := .sc _) rfl rfl (fun _ => rfl) ?_
      refine pu (v := .sc _) rfl rfl (fun _ => rfl) ?_
      obtain ⟨h7, hR⟩ := chkE hR
      refine ixS0 (α := Int) rfl rfl rfl ti27 rfl ti28 rfl h7 ?_
      refine stE (α := Int) (y := r1.1) rfl rfl rfl (ixlt h7) ti28 rfl rfl rfl rfl rfl ?_
      refine RunC.blk ?_
      refine RunC.fin ?_
      refine AWP.rgC 42 rfl rfl ?_
      refine pu (v := .sc _) rfl rfl (fun _ => rfl) ?_
      refine pu (v := .sc _) rfl rfl (fun _ => rfl) ?_
      refine RunC.fin ?_
      refine ⟨(List.set s3.1 s3.2.toNat r1.1, w6 (s3.2 + 1)), (Option.some.inj hR).symm, ?_⟩
      exact Weak.turnL [(0, 0), (1, 0)] [] rfl rfl (tc (trP' rfl rfl rfl rfl) (tc (.sc _) (tc (.sc _) (tc (.sc _) (tc (.sc _) (tc (trS' rfl rfl rfl rfl (by simp only [List.length_set])) (tc (.sc _) (tc (.sc _) tn)))))))) (mc rfl (.box rfl (.cons trR1 (.cons (.sc _) (.nil))) rfl) (mc rfl (btrA' rfl) mn))
    · refine AWP.exit ?_
      refine exT ?_
      refine exT ?_
      refine exH (skT ?_)
      refine ⟨s3.1, (Option.some.inj hR).symm, ?_⟩
      exact Weak.turnL [(0, 0), (1, 0)] [] rfl rfl (tc (trP' rfl rfl rfl rfl) (tc (.sc _) (tc (.sc _) (tc (.sc _) (tc (.sc _) (tc (trS' rfl rfl rfl rfl rfl) tn)))))) (mc rfl (.box rfl (.cons trR1 (.cons (.sc _) (.nil))) rfl) (mc rfl (btrA' rfl) mn))
  · refine skT ?_
    refine AWP.sq ?_
    refine AWP.sq ?_
    refine AWP.rgC 10 rfl rfl ?_
    refine pu (v := .sc _) rfl rfl (fun _ => rfl) ?_
    refine pu (v := .sc _) rfl rfl (fun _ => rfl) ?_
    refine RunC.fin ?_
    refine AWP.loopJ (fun s8 : spymake_Stream × (List Int) × Int => LS.mk [(0, .ptr 0 0 0), (1, .sc (.int .i64 w)), (2, .sc (.int .i64 h)), (10, .sc (.int .i64 r1.1)), (11, slV Int 1 0 0 s8.2.1.length), (36, .sc (.int .i64 points)), (37, .sc (.int .i64 s8.2.2))] (lblks 0 [boxB (α := spymake_Stream) false s8.1, arrB (α := Int) 28 0 true s8.2.1]) 2) (fun z9 : spymake_Stream × (List Int) => LS.mk [(10, .sc (.int .i64 r1.1)), (11, slV Int 1 0 0 z9.2.length)] (lblks 0 [boxB (α := spymake_Stream) false z9.1, arrB (α := Int) 28 0 true z9.2]) 2) (Stream_Lights.l2 w h points) hR (s0 := (r1.2, z4, 0)) (Weak.turnL [(0, 0), (1, 0)] [] rfl rfl (tc (trP' rfl rfl rfl rfl) (tc (.sc _) (tc (.sc _) (tc (.sc _) (tc (trS' rfl rfl rfl rfl rfl) (tc (.sc _) (tc (.sc _) tn))))))) (mc rfl (.box rfl (.cons trR1 (.cons (.sc _) (.nil))) rfl) (mc rfl (btrA' rfl) mn))) (fun s8 o8 hR => ?_) fun z9 hR => ?_
    · unfold Stream_Lights.l2 at hR
      refine AWP.sq ?_
      refine AWP.rgC 6 rfl rfl ?_
      refine pu (v := .sc _) rfl rfl (fun _ => rfl) ?_
      refine RunC.fin ?_
      refine AWP.sq ?_
      refine AWP.cd hR rfl (fun h10 hR => ?_) fun h10 hR => ?_
      · refine AWP.skip ?_
        refine skT ?_
        refine AWP.sq ?_
        refine AWP.block ?_
        refine AWP.sq ?_
        refine AWP.rgC 50 rfl rfl ?_
        refine pu (v := .ptr _ _ _) rfl rfl (fun _ => rfl) ?_
        refine pu (v := .sc _) rfl rfl (fun _ => rfl) ?_
        obtain ⟨r11, hr11, hR⟩ := bindE hR
        refine cps (res' := .sc (.int .i64 r11.1)) (ups := [(0, boxB (α := spymake_Stream) false r11.2)]) [0] 14 rfl rfl rfl cb14 (ok14 s8.1 w _ hr11) (.cons (ldP rfl rfl) (.cons (.sc _) (.nil))) (pc rfl (.box (.cons ldR' (.cons (.sc _) (.nil))) rfl) pn) rfl rfl rfl rfl rfl (by first | rfl | exact renR | exact renA | exact renS | simp only [V.ren, V.rens, renR, renA, renS] | (simp only [V.ren, V.rens, renR, renA, renS]; rfl)) (by simp only [passUps, renBox, renArr]; rfl) ?_
        refine pu (v := .ptr _ _ _) rfl rfl (fun _ => rfl) ?_
        refine pu (v := .sc _) rfl rfl (fun _ => rfl) ?_
        obtain ⟨r12, hr12, hR⟩ := bindE hR
        refine cps (res' := .sc (.int .i64 r12.1)) (ups := [(0, boxB (α := spymake_Stream) false r12.2)]) [0] 26 rfl rfl rfl cb14 (ok14 r11.2 h _ hr12) (.cons (ldP rfl rfl) (.cons (.sc _) (.nil))) (pc rfl (.box (.cons ldR' (.cons (.sc _) (.nil))) rfl) pn) rfl rfl rfl rfl rfl (by first | rfl | exact renR | exact renA | exact renS | simp only [V.ren, V.rens, renR, renA, renS] | (simp only [V.ren, V.rens, renR, renA, renS]; rfl)) (by simp only [passUps, renBox, renArr]; rfl) ?_
        refine pu (v := .ptr _ _ _) rfl rfl (fun _ => rfl) ?_
        obtain ⟨r13, hr13, hR⟩ := bindE hR
        refine cps (res' := .sc (.int .i64 r13.1)) (ups := [(0, boxB (α := spymake_Stream) false r13.2)]) [0] 34 rfl rfl rfl cb4 (ok4 r12.2 1 3 _ hr13) (.cons (ldP rfl rfl) (.cons (.sc _) (.cons (.sc _) (.nil)))) (pc rfl (.box (.cons ldR' (.cons (.sc _) (.nil))) rfl) pn) rfl rfl rfl rfl rfl (by first | rfl | exact renR | exact renA | exact renS | simp only [V.ren, V.rens, renR, renA, renS] | (simp only [V.ren, V.rens, renR, renA, renS]; rfl)) (by simp only [passUps, renBox, renArr]; rfl) ?_
        refine pu (v := .sc _) rfl rfl (fun _ => rfl) ?_
        refine pu (v := .sc _) rfl rfl (fun _ => rfl) ?_
        refine pu (v := .sc _) rfl rfl (fun _ => rfl) ?_
        refine RunC.fin ?_
        refine AWP.sq ?_
        refine AWP.rgC 82 rfl rfl ?_
        refine pu (v := .ptr _ _ _) rfl rfl (fun _ => rfl) ?_
        refine bs (α := Int) 54 true ([30, 400, 5000] : List Int) rfl rfl ti22 rfl ti3 rfl rfl rfl rfl rfl ?_
        refine pu (v := .ptr _ _ _) rfl rfl (fun _ => rfl) ?_
        obtain ⟨r14, hr14, hR⟩ := bindE hR
        refine cps (res' := .sc (.int .i64 r14.1)) (ups := [(0, boxB (α := spymake_Stream) false r14.2)]) [0] 62 rfl rfl rfl cb14 (ok14 r13.2 3 _ hr14) (.cons (ldP rfl rfl) (.cons (.sc _) (.nil))) (pc rfl (.box (.cons ldR' (.cons (.sc _) (.nil))) rfl) pn) rfl rfl rfl rfl rfl (by first | rfl | exact renR | exact renA | exact renS | simp only [V.ren, V.rens, renR, renA, renS] | (simp only [V.ren, V.rens, renR, renA, renS]; rfl)) (by simp only [passUps, renBox, renArr]; rfl) ?_
        obtain ⟨h15, hR⟩ := chkE hR
        refine ixS0 (α := Int) rfl rfl rfl ti22 rfl ti3 rfl h15 ?_
        refine ldE (α := Int) (v := .sc _) rfl rfl rfl (ixlt h15) ti3 rfl rfl rfl rfl ?_
        obtain ⟨r16, hr16, hR⟩ := bindE hR
        refine cps (res' := .sc (.int .i64 r16.1)) (ups := [(0, boxB (α := spymake_Stream) false r16.2)]) [0] 74 rfl rfl rfl cb14 (ok14 r14.2 (gt ([30, 400, 5000] : List Int) r14.1) _ hr16) (.cons (ldP rfl rfl) (.cons (.sc _) (.nil))) (pc rfl (.box (.cons ldR' (.cons (.sc _) (.nil))) rfl) pn) rfl rfl rfl rfl rfl (by first | rfl | exact renR | exact renA | exact renS | simp only [V.ren, V.rens, renR, renA, renS] | (simp only [V.ren, V.rens, renR, renA, renS]; rfl)) (by simp only [passUps, renBox, renArr]; rfl) ?_
        refine pu (v := .sc _) rfl rfl (fun _ => rfl) ?_
        refine RunC.fin ?_
        refine AWP.sq ?_
        refine AWP.rgC 94 rfl rfl ?_
        refine pu (v := slV Int _ _ _ _) rfl rfl (fun _ => rfl) ?_
        refine lenS (α := Int) rfl rfl ti27 rfl ?_
        refine pu (v := .sc _) rfl rfl (fun _ => rfl) ?_
        refine RunC.fin ?_
        refine AWP.loopJ (fun s17 : (List Int) × Int => LS.mk [(0, .ptr 0 0 0), (1, .sc (.int .i64 w)), (2, .sc (.int .i64 h)), (10, .sc (.int .i64 r1.1)), (11, slV Int 1 0 0 s17.1.length), (13, .sc (.int .i64 r11.1)), (14, .sc (.int .i64 r12.1)), (15, .sc (.int .i64 r13.1)), (16, .sc (.int .i64 r16.1)), (36, .sc (.int .i64 points)), (37, .sc (.int .i64 s8.2.2)), (55, .sc (.int .i64 (s8.2.1.length : Int))), (56, .sc (.int .i64 s17.2))] (lblks 0 [boxB (α := spymake_Stream) false r16.2, arrB (α := Int) 28 0 true s17.1]) 2) (fun z18 : (List Int) => LS.mk [(0, .ptr 0 0 0), (1, .sc (.int .i64 w)), (2, .sc (.int .i64 h)), (10, .sc (.int .i64 r1.1)), (11, slV Int 1 0 0 z18.length), (36, .sc (.int .i64 points)), (37, .sc (.int .i64 s8.2.2))] (lblks 0 [boxB (α := spymake_Stream) false r16.2, arrB (α := Int) 28 0 true z18]) 2) (Stream_Lights.l3 w s8 r11 r12 r13 r16) hR (s0 := (s8.2.1, 0)) (Weak.turnL [(0, 0), (1, 0)] [] rfl rfl (tc (trP' rfl rfl rfl rfl) (tc (.sc _) (tc (.sc _) (tc (.sc _) (tc (trS' rfl rfl rfl rfl rfl) (tc (.sc _) (tc (.sc _) (tc (.sc _) (tc (.sc _) (tc (.sc _) (tc (.sc _) (tc (.sc _) (tc (.sc _) tn))))))))))))) (mc rfl (.box rfl (.cons trR1 (.cons (.sc _) (.nil))) rfl) (mc rfl (btrA' rfl) mn))) (fun s17 o17 hR => ?_) fun z18 hR => ?_
        · unfold Stream_Lights.l3 at hR
          refine AWP.sq ?_
          refine AWP.rgC 6 rfl rfl ?_
          refine pu (v := .sc _) rfl rfl (fun _ => rfl) ?_
          refine RunC.fin ?_
          refine AWP.sq ?_
          refine AWP.cd hR rfl (fun h19 hR => ?_) fun h19 hR => ?_
          · refine AWP.skip ?_
            refine skT ?_
            refine AWP.joinX (fun z20 : (List Int) => LS.mk [(0, .ptr 0 0 0), (1, .sc (.int .i64 w)), (2, .sc (.int .i64 h)), (10, .sc (.int .i64 r1.1)), (11, slV Int 1 0 0 z20.length), (13, .sc (.int .i64 r11.1)), (14, .sc (.int .i64 r12.1)), (15, .sc (.int .i64 r13.1)), (16, .sc (.int .i64 r16.1)), (36, .sc (.int .i64 points)), (37, .sc (.int .i64 s8.2.2)), (55, .sc (.int .i64 (s8.2.1.length : Int))), (56, .sc (.int .i64 s17.2))] (lblks 0 [boxB (α := spymake_Stream) false r16.2, arrB (α := Int) 28 0 true z20]) 2) hR (fun o20 hR => ?_) fun z20 hR => ?_
            · refine AWP.block ?_
              refine AWP.sq ?_
              refine AWP.rgC 14 rfl rfl ?_
              refine pu (v := .sc _) rfl rfl (fun _ => rfl) ?_
              refine pu (v := .sc _) rfl rfl (fun _ => rfl) ?_
              refine RunC.fin ?_
              refine AWP.sq ?_
              refine AWP.rgD 110 [0, 0, 3, 0, 15, 0, 0, 0, 192, 480, 1023, 0, 0, 6144, 0, 30720, 0, 0, 0, 393216, 983040, 2095104, 2047, 8388607] ⟨[], [none, none, none, none, none, none, none, none, none, none, none, none, none, none, none, none, none, none, none, none, none, none, none, none]⟩ hmix (by kernel_rfl) rfl rfl ?_
              refine pu (v := .sc _) rfl rfl (fun _ => rfl) ?_
              refine pu (v := .sc _) rfl rfl (fun _ => rfl) ?_
              obtain ⟨h21, hR⟩ := chkE hR
              refine rm rfl rfl rfl h21 rfl ?_
              refine pu (v := .sc _) rfl rfl (fun _ => rfl) ?_
              refine pu (v := .sc _) rfl rfl (fun _ => rfl) ?_
              refine pu (v := .sc _) rfl rfl (fun _ => rfl) ?_
              refine pu (v := .sc _) rfl rfl (fun _ => rfl) ?_
              refine pu (v := .sc _) rfl rfl (fun _ => rfl) ?_
              refine rm rfl rfl rfl h21 rfl ?_
              refine pu (v := .sc _) rfl rfl (fun _ => rfl) ?_
              obtain ⟨v22, ev22, hR⟩ := letE hR
              refine pu (v := .sc _) rfl rfl (fun _ => puI ev22) ?_
              refine pu (v := .sc _) rfl rfl (fun _ => rfl) ?_
              refine pu (v := .sc _) rfl rfl (fun _ => rfl) ?_
              refine qu rfl rfl rfl h21 rfl ?_
              refine pu (v := .sc _) rfl rfl (fun _ => rfl) ?_
              refine pu (v := .sc _) rfl rfl (fun _ => rfl) ?_
              refine pu (v := .sc _) rfl rfl (fun _ => rfl) ?_
              refine pu (v := .sc _) rfl rfl (fun _ => rfl) ?_
              refine pu (v := .sc _) rfl rfl (fun _ => rfl) ?_
              refine qu rfl rfl rfl h21 rfl ?_
              refine pu (v := .sc _) rfl rfl (fun _ => rfl) ?_
              obtain ⟨v23, ev23, hR⟩ := letE hR
              refine pu (v := .sc _) rfl rfl (fun _ => puI ev23) ?_
              refine pu (v := .sc _) rfl rfl (fun _ => rfl) ?_
              refine pu (v := .sc _) rfl rfl (fun _ => rfl) ?_
              refine RunC.fin ?_
              refine AWP.joinX (fun z24 : Bool => LS.mk [(0, .ptr 0 0 0), (1, .sc (.int .i64 w)), (2, .sc (.int .i64 h)), (10, .sc (.int .i64 r1.1)), (11, slV Int 1 0 0 s17.1.length), (13, .sc (.int .i64 r11.1)), (14, .sc (.int .i64 r12.1)), (15, .sc (.int .i64 r13.1)), (16, .sc (.int .i64 r16.1)), (17, .sc (.int .i64 s17.2)), (18, .sc (.int .i64 v22)), (19, .sc (.int .i64 v23)), (36, .sc (.int .i64 points)), (37, .sc (.int .i64 s8.2.2)), (55, .sc (.int .i64 (s8.2.1.length : Int))), (56, .sc (.int .i64 s17.2)), (88, .sc (.bool z24))] (lblks 0 [boxB (α := spymake_Stream) false r16.2, arrB (α := Int) 28 0 true s17.1]) 2) hR (fun o24 hR => ?_) fun z24 hR => ?_
              · refine AWP.rgC 142 rfl rfl ?_
                refine pu (v := .sc _) rfl rfl (fun _ => rfl) ?_
                refine pu (v := .sc _) rfl rfl (fun _ => rfl) ?_
                refine pu (v := .sc _) rfl rfl (fun _ => rfl) ?_
                refine pu (v := .sc _) rfl rfl (fun _ => rfl) ?_
                refine brR hR (fun h25 hR => ?_) fun h25 hR => ?_
                · refine pu (v := .sc _) (wtG rfl rfl rfl h25) rfl (fun _ => rfl) ?_
                  refine pu (v := .sc _) (wtG rfl rfl rfl h25) rfl (fun _ => rfl) ?_
                  refine pu (v := .sc _) (wtG rfl rfl rfl h25) rfl (fun _ => rfl) ?_
                  refine pkT (v := .sc (.bool (decide (v23 ≤ r13.1)))) rfl rfl h25 rfl ?_
                  refine RunC.fin ?_
                  have hR := Option.some.inj hR; subst hR
                  exact Weak.turnL [(0, 0), (1, 0)] [] rfl rfl (tc (trP' rfl rfl rfl rfl) (tc (.sc _) (tc (.sc _) (tc (.sc _) (tc (trS' rfl rfl rfl rfl rfl) (tc (.sc _) (tc (.sc _) (tc (.sc _) (tc (.sc _) (tc (.sc _) (tc (.sc _) (tc (.sc _) (tc (.sc _) (tc (.sc _) (tc (.sc _) (tc (.sc _) (tc (.sc _) tn))))))))))))))))) (mc rfl (.box rfl (.cons trR1 (.cons (.sc _) (.nil))) rfl) (mc rfl (btrA' rfl) mn))
                · refine sk (skW rfl rfl rfl h25) ?_
                  refine sk (skW rfl rfl rfl h25) ?_
                  refine sk (skW rfl rfl rfl h25) ?_
                  refine pkF (v := .sc (.bool false)) rfl rfl h25 rfl ?_
                  refine RunC.fin ?_
                  have hR := Option.some.inj hR; subst hR
                  exact Weak.turnL [(0, 0), (1, 0)] [] rfl rfl (tc (trP' rfl rfl rfl rfl) (tc (.sc _) (tc (.sc _) (tc (.sc _) (tc (trS' rfl rfl rfl rfl rfl) (tc (.sc _) (tc (.sc _) (tc (.sc _) (tc (.sc _) (tc (.sc _) (tc (.sc _) (tc (.sc _) (tc (.sc _) (tc (.sc _) (tc (.sc _) (tc (.sc _) (tc (.sc _) tn))))))))))))))))) (mc rfl (.box rfl (.cons trR1 (.cons (.sc _) (.nil))) rfl) (mc rfl (btrA' rfl) mn))
              · refine AWP.cd hR rfl (fun h26 hR => ?_) fun h26 hR => ?_
                · refine AWP.rgD 98 [0, 0, 3, 7, 0, 0, 32, 0, 224, 496, 0, 1024, 0, 7168, 16368, 0, 32768, 0, 131072, 491520, 1048560, 2097151, 4194303, 8388607] ⟨[], [none, none, none, some [1], none, none, none, none, none, none, none, none, none, none, none, none, none, none, none, none, none, none, none, some [1]]⟩ hmix (by kernel_rfl) rfl rfl ?_
                  refine pu (v := slV Int _ _ _ _) rfl rfl (fun _ => rfl) ?_
                  refine pu (v := .sc _) rfl rfl (fun _ => rfl) ?_
                  obtain ⟨h27, hR⟩ := chkE hR
                  refine ixS0 (α := Int) rfl rfl rfl ti27 rfl ti28 rfl h27 ?_
                  refine ldE (α := Int) (v := .sc _) rfl rfl rfl (ixlt h27) ti28 rfl rfl rfl rfl ?_
                  refine pu (v := .sc _) rfl rfl (fun _ => rfl) ?_
                  refine pu (v := .sc _) rfl rfl (fun _ => rfl) ?_
                  refine pu (v := .sc _) rfl rfl (fun _ => rfl) ?_
                  refine pu (v := .sc _) rfl rfl (fun _ => rfl) ?_
                  refine pu (v := .sc _) rfl rfl (fun _ => rfl) ?_
                  refine pu (v := .sc _) rfl rfl (fun _ => rfl) ?_
                  refine pu (v := .sc _) rfl rfl (fun _ => rfl) ?_
                  refine pu (v := .sc _) rfl rfl (fun _ => rfl) ?_
                  refine pu (v := .sc _) rfl rfl (fun _ => rfl) ?_
                  refine pu (v := .sc _) rfl rfl (fun _ => rfl) ?_
                  obtain ⟨v28, ev28, hR⟩ := letE hR
                  refine pu (v := .sc _) rfl rfl (fun _ => puI ev28) ?_
                  refine pu (v := .sc _) rfl rfl (fun _ => rfl) ?_
                  refine pu (v := .sc _) rfl rfl (fun _ => rfl) ?_
                  refine pu (v := .sc _) rfl rfl (fun _ => rfl) ?_
                  refine pu (v := .sc _) rfl rfl (fun _ => rfl) ?_
                  refine pu (v := .sc _) rfl rfl (fun _ => rfl) ?_
                  obtain ⟨h29, hR⟩ := chkE hR
                  refine qu rfl rfl rfl h29 rfl ?_
                  obtain ⟨v30, ev30, hR⟩ := letE hR
                  refine pu (v := .sc _) rfl rfl (fun _ => puI ev30) ?_
                  refine ixS0 (α := Int) rfl rfl rfl ti27 rfl ti28 rfl h27 ?_
                  refine stE (α := Int) (y := v30) rfl rfl rfl (ixlt h27) ti28 rfl rfl rfl rfl rfl ?_
                  refine RunC.blk ?_
                  refine RunC.fin ?_
                  have hR := Option.some.inj hR; subst hR
                  exact Weak.turnL [(0, 0), (1, 0)] [] rfl rfl (tc (trP' rfl rfl rfl rfl) (tc (.sc _) (tc (.sc _) (tc (.sc _) (tc (trS' rfl rfl rfl rfl (by simp only [List.length_set])) (tc (.sc _) (tc (.sc _) (tc (.sc _) (tc (.sc _) (tc (.sc _) (tc (.sc _) (tc (.sc _) (tc (.sc _) tn))))))))))))) (mc rfl (.box rfl (.cons trR1 (.cons (.sc _) (.nil))) rfl) (mc rfl (btrA' rfl) mn))
                · refine AWP.skip ?_
                  refine skB ?_
                  refine skT ?_
                  have hR := Option.some.inj hR; subst hR
                  exact Weak.turnL [(0, 0), (1, 0)] [] rfl rfl (tc (trP' rfl rfl rfl rfl) (tc (.sc _) (tc (.sc _) (tc (.sc _) (tc (trS' rfl rfl rfl rfl rfl) (tc (.sc _) (tc (.sc _) (tc (.sc _) (tc (.sc _) (tc (.sc _) (tc (.sc _) (tc (.sc _) (tc (.sc _) tn))))))))))))) (mc rfl (.box rfl (.cons trR1 (.cons (.sc _) (.nil))) rfl) (mc rfl (btrA' rfl) mn))
            · refine AWP.rgC 10 rfl rfl ?_
              refine pu (v := .sc _) rfl rfl (fun _ => rfl) ?_
              refine pu (v := .sc _) rfl rfl (fun _ => rfl) ?_
              refine RunC.fin ?_
              refine ⟨(z20, w6 (s17.2 + 1)), (Option.some.inj hR).symm, ?_⟩
              exact Weak.turnL [(0, 0), (1, 0)] [] rfl rfl (tc (trP' rfl rfl rfl rfl) (tc (.sc _) (tc (.sc _) (tc (.sc _) (tc (trS' rfl rfl rfl rfl rfl) (tc (.sc _) (tc (.sc _) (tc (.sc _) (tc (.sc _) (tc (.sc _) (tc (.sc _) (tc (.sc _) (tc (.sc _) tn))))))))))))) (mc rfl (.box rfl (.cons trR1 (.cons (.sc _) (.nil))) rfl) (mc rfl (btrA' rfl) mn))
          · refine AWP.exit ?_
            refine exT ?_
            refine exT ?_
            refine exH (skT ?_)
            refine ⟨s17.1, (Option.some.inj hR).symm, ?_⟩
            exact Weak.turnL [(0, 0), (1, 0)] [] rfl rfl (tc (trP' rfl rfl rfl rfl) (tc (.sc _) (tc (.sc _) (tc (.sc _) (tc (trS' rfl rfl rfl rfl rfl) (tc (.sc _) (tc (.sc _) tn))))))) (mc rfl (.box rfl (.cons trR1 (.cons (.sc _) (.nil))) rfl) (mc rfl (btrA' rfl) mn))
        · refine skB ?_
          refine skT ?_
          refine AWP.rgC 10 rfl rfl ?_
          refine pu (v := .sc _) rfl rfl (fun _ => rfl) ?_
          refine pu (v := .sc _) rfl rfl (fun _ => rfl) ?_
          refine RunC.fin ?_
          refine ⟨(r16.2, z18, w6 (s8.2.2 + 1)), (Option.some.inj hR).symm, ?_⟩
          exact Weak.turnL [(0, 0), (1, 0)] [] rfl rfl (tc (trP' rfl rfl rfl rfl) (tc (.sc _) (tc (.sc _) (tc (.sc _) (tc (trS' rfl rfl rfl rfl rfl) (tc (.sc _) (tc (.sc _) tn))))))) (mc rfl (.box rfl (.cons trR1 (.cons (.sc _) (.nil))) rfl) (mc rfl (btrA' rfl) mn))
      · refine AWP.exit ?_
        refine exT ?_
        refine exT ?_
        refine exH (skT ?_)
        refine ⟨(s8.1, s8.2.1), (Option.some.inj hR).symm, ?_⟩
        exact Weak.turnL [(0, 0), (1, 0)] [] rfl rfl (tc (.sc _) (tc (trS' rfl rfl rfl rfl rfl) tn)) (mc rfl (.box rfl (.cons trR1 (.cons (.sc _) (.nil))) rfl) (mc rfl (btrA' rfl) mn))
    · refine skT ?_
      refine AWP.sq ?_
      refine AWP.rgC 18 rfl rfl ?_
      refine pu (v := slV Int _ _ _ _) rfl rfl (fun _ => rfl) ?_
      refine pu (v := .sc _) rfl rfl (fun _ => rfl) ?_
      refine pu (v := slV Int _ _ _ _) rfl rfl (fun _ => rfl) ?_
      refine pu (v := .sc _) rfl rfl (fun _ => rfl) ?_
      refine RunC.fin ?_
      refine AWP.ret ?_
      have hR := Option.some.inj hR; subst hR
      exact hQ _ _ (LS.mk [(8, rowV (α := Int) true z9.2), (9, .sc (.int .i64 r1.1))] (lblks 0 [boxB (α := spymake_Stream) false z9.1]) 1) (.tup [rowV (α := Int) true z9.2, .sc (.int .i64 r1.1)]) [] (.inr rfl) (Weak.turnL [(0, 0)] [1] rfl rfl (tc (trF' rfl rfl id rfl) (tc (.sc _) tn)) (mc rfl (.box rfl (.cons trR1 (.cons (.sc _) (.nil))) rfl) mn)) (ro2 (rvT (v := rowV (α := Int) true z9.2) rfl) (rvT (v := .sc (.int .i64 r1.1)) rfl)) rfl rfl (.tup (.cons ldR' (.cons (.sc _) .nil))) (pc rfl bldB pn)
end Go.Proofs.Dtw
