/- Each function of the program computes its plain function. Conditions: as each theorem states them. -/
import Derived.Test.YtjbkficonmncgaaT
import Derived.Test.YtjbkficonmncgaaP0
namespace Go.Proofs.Pho
open Go Go.Abs Lf
set_option linter.unusedVariables false
set_option linter.unusedSimpArgs false
set_option maxRecDepth 100000
set_option maxHeartbeats 1000000
theorem ok30 (v : Vec) (most : Int) (r : Bool) (hR : sky_within v most = some r) : FnP Try.prog 30 [aggV false v, .sc (.int .i64 most)] (.sc (.bool r)) := by
  refine fnP_of (FnX.walk Try.func30 rfl 27 0 (by simp [Try.ntmps30]) rfl fun W S F Q hQ => ?_)
  unfold sky_within at hR
  refine AWP.sq ?_
  refine AWP.rgC 8 rfl rfl ?_
  refine bx (cs := _) 0 rfl rfl rfl ?_
  refine pu (v := .sc _) rfl rfl (fun _ => rfl) ?_
  refine RunC.fin ?_
  refine AWP.sq ?_
  refine AWP.sq ?_
  refine AWP.rgC 40 rfl rfl ?_
  refine fa rfl rfl ti27 rfl rfl ti2 rfl ?_
  refine ldB (v := .sc _) rfl rfl rfl rfl ti2 rfl rfl ?_
  refine fa rfl rfl ti27 rfl rfl ti2 rfl ?_
  refine ldB (v := .sc _) rfl rfl rfl rfl ti2 rfl rfl ?_
  refine fa rfl rfl ti27 rfl rfl ti2 rfl ?_
  refine ldB (v := .sc _) rfl rfl rfl rfl ti2 rfl rfl ?_
  refine buA (cs := [.sc (.int .i64 v.X), .sc (.int .i64 v.Y), .sc (.int .i64 v.Z)]) rfl ti76 rfl ti2 rfl rfl ?_
  refine pu (v := .sc _) rfl rfl (fun _ => rfl) ?_
  refine RunC.fin ?_
  refine AWP.loopK' (fun s1 : Int => LS.mk [(1, .sc (.int .i64 most)), (13, aggV (α := Int × Int × Int) true (v.X, v.Y, v.Z)), (14, .sc (.int .i64 s1))] (lblks 0 []) 0) (fun z2 : Unit => LS.mk [] (lblks 0 []) 0) (sky_within.l1 v most) hR (s0 := 0) (Weak.turnL [] [] rfl rfl (tc (.sc _) (tc (.agg (.cons (.sc _) (.cons (.sc _) (.cons (.sc _) (.nil)))) rfl) (tc (.sc _) tn))) mn) (fun s1 o1 hR hE1 => ?_) fun z2 hR => ?_
  · unfold sky_within.l1 at hR
    refine AWP.sq ?_
    refine AWP.rgC 4 rfl rfl ?_
    refine pu (v := .sc _) rfl rfl (fun _ => rfl) ?_
    refine RunC.fin ?_
    refine AWP.sq ?_
    refine AWP.cd hR rfl (fun h3 hR => ?_) fun h3 hR => ?_
    · refine AWP.skip ?_
      refine skT ?_
      refine AWP.sq ?_
      refine AWP.block ?_
      refine AWP.sq ?_
      refine AWP.rgC 12 rfl rfl ?_
      obtain ⟨h4, hR⟩ := chkE hR
      refine ixD (α := Int) (nw := true) (xs := ([v.X, v.Y, v.Z] : List Int)) (v := .sc _) rfl rfl rfl rfl ti76 rfl ti2 h4 rfl rfl rfl ?_
      refine pu (v := .sc _) rfl rfl (fun _ => rfl) ?_
      refine RunC.fin ?_
      refine AWP.joinX (fun z5 : Bool => LS.mk [(1, .sc (.int .i64 most)), (13, aggV (α := Int × Int × Int) true (v.X, v.Y, v.Z)), (14, .sc (.int .i64 s1)), (25, .sc (.bool z5))] (lblks 0 []) 0) hR (fun o5 hR => ?_) fun z5 hR => ?_
      · refine AWP.rgC 48 rfl rfl ?_
        refine pu (v := .sc _) rfl rfl (fun _ => rfl) ?_
        refine pu (v := .sc _) rfl rfl (fun _ => rfl) ?_
        refine pu (v := .sc _) rfl rfl (fun _ => rfl) ?_
        obtain ⟨v6, ev6, hR⟩ := letE hR
        refine pu (v := .sc _) rfl rfl (fun _ => puB ev6) ?_
        refine pu (v := .sc _) rfl rfl (fun _ => rfl) ?_
        refine brR hR (fun h7 hR => ?_) fun h7 hR => ?_
        · refine sk (skW rfl rfl rfl h7) ?_
          refine sk (skW rfl rfl rfl h7) ?_
          refine sk (skW rfl rfl rfl h7) ?_
          refine pkT (v := .sc (.bool true)) rfl rfl h7 rfl ?_
          refine RunC.fin ?_
          have hR := Option.some.inj hR; subst hR
          exact Weak.turnL [] [] rfl rfl (tc (.sc _) (tc (.agg (.cons (.sc _) (.cons (.sc _) (.cons (.sc _) (.nil)))) rfl) (tc (.sc _) (tc (.sc _) tn)))) mn
        · refine pu (v := .sc _) (wtG rfl rfl rfl h7) rfl (fun _ => rfl) ?_
          refine pu (v := .sc _) (wtG rfl rfl rfl h7) rfl (fun _ => rfl) ?_
          refine pu (v := .sc _) (wtG rfl rfl rfl h7) rfl (fun _ => rfl) ?_
          refine pkF (v := .sc (.bool (decide ((gt ([v.X, v.Y, v.Z] : List Int) s1) > most)))) rfl rfl h7 rfl ?_
          refine RunC.fin ?_
          have hR := Option.some.inj hR; subst hR
          exact Weak.turnL [] [] rfl rfl (tc (.sc _) (tc (.agg (.cons (.sc _) (.cons (.sc _) (.cons (.sc _) (.nil)))) rfl) (tc (.sc _) (tc (.sc _) tn)))) mn
      · refine AWP.cd hR rfl (fun h8 hR => ?_) fun h8 hR => ?_
        · refine AWP.sq ?_
          refine AWP.rgC 4 rfl rfl ?_
          refine pu (v := .sc _) rfl rfl (fun _ => rfl) ?_
          refine RunC.fin ?_
          refine AWP.ret ?_
          refine rtB ?_
          refine rtT ?_
          refine rtT ?_
          refine rtB (rtT ?_)
          replace hR := escL hR hE1
          refine rtT ?_
          have hR := Option.some.inj hR; subst hR
          exact hQ _ _ (LS.mk [(4, .sc (.bool false))] (lblks 0 []) 0) (.sc (.bool false)) [] (.inr rfl) (Weak.turnL [] [] rfl rfl (tc (.sc _) tn) mn) (ro1 (rvT (v := .sc (.bool false)) rfl)) rfl rfl (.sc _) pn
        · refine AWP.skip ?_
          refine skB ?_
          refine skT ?_
          refine AWP.rgC 8 rfl rfl ?_
          refine pu (v := .sc _) rfl rfl (fun _ => rfl) ?_
          refine pu (v := .sc _) rfl rfl (fun _ => rfl) ?_
          refine RunC.fin ?_
          refine ⟨(w6 (s1 + 1)), (Option.some.inj hR).symm, ?_⟩
          exact Weak.turnL [] [] rfl rfl (tc (.sc _) (tc (.agg (.cons (.sc _) (.cons (.sc _) (.cons (.sc _) (.nil)))) rfl) (tc (.sc _) tn))) mn
    · refine AWP.exit ?_
      refine exT ?_
      refine exT ?_
      refine exH (skT ?_)
      refine ⟨(), (Option.some.inj hR).symm, ?_⟩
      exact Weak.turnL [] [] rfl rfl tn mn
  · refine skT ?_
    refine AWP.sq ?_
    refine AWP.rgC 4 rfl rfl ?_
    refine pu (v := .sc _) rfl rfl (fun _ => rfl) ?_
    refine RunC.fin ?_
    refine AWP.ret ?_
    have hR := Option.some.inj hR; subst hR
    exact hQ _ _ (LS.mk [(4, .sc (.bool true))] (lblks 0 []) 0) (.sc (.bool true)) [] (.inr rfl) (Weak.turnL [] [] rfl rfl (tc (.sc _) tn) mn) (ro1 (rvT (v := .sc (.bool true)) rfl)) rfl rfl (.sc _) pn
theorem ok28 (x : Int) (r_ : Int) (r : Int) (hR : predict_part x r_ = some r) : FnP Try.prog 28 [.sc (.int .i64 x), .sc (.int .i64 r_)] (.sc (.int .i64 r)) := by
  refine fnP_of (FnX.walk Try.func28 rfl 26 0 (by simp [Try.ntmps28]) rfl fun W S F Q hQ => ?_)
  unfold predict_part at hR
  refine AWP.sq ?_
  refine AWP.rgC 4 rfl rfl ?_
  refine pu (v := .sc _) rfl rfl (fun _ => rfl) ?_
  refine RunC.fin ?_
  refine AWP.sq ?_
  refine AWP.rgC 48 rfl rfl ?_
  refine pu (v := .sc _) rfl rfl (fun _ => rfl) ?_
  refine pu (v := .sc _) rfl rfl (fun _ => rfl) ?_
  refine pu (v := .sc _) rfl rfl (fun _ => rfl) ?_
  refine pu (v := .sc _) rfl rfl (fun _ => rfl) ?_
  refine pu (v := .sc _) rfl rfl (fun _ => rfl) ?_
  obtain ⟨r1, hr1, hR⟩ := bindE hR
  refine cls [] rfl rfl cb33 (ok33 9007199254740992 (mx2 x (w6 (0 - x))) r_ _ hr1) (.cons (.sc _) (.cons (.sc _) (.cons (.sc _) (.nil)))) (.inr rfl) rfl ?_
  refine pu (v := .tup _) rfl rfl (fun _ => rfl) ?_
  refine pu (v := .sc _) rfl rfl (fun _ => rfl) ?_
  refine pu (v := .sc _) rfl rfl (fun _ => rfl) ?_
  refine pu (v := .sc _) rfl rfl (fun _ => rfl) ?_
  refine pu (v := .sc _) rfl rfl (fun _ => rfl) ?_
  refine RunC.fin ?_
  refine AWP.sq ?_
  refine AWP.rgC 72 rfl rfl ?_
  refine pu (v := .sc _) rfl rfl (fun _ => rfl) ?_
  refine pu (v := .sc _) rfl rfl (fun _ => rfl) ?_
  refine pu (v := .sc _) rfl rfl (fun _ => rfl) ?_
  refine pu (v := .sc _) rfl rfl (fun _ => rfl) ?_
  obtain ⟨h2, hR⟩ := chkE hR
  refine qu rfl rfl rfl h2 rfl ?_
  refine pu (v := .sc _) rfl rfl (fun _ => rfl) ?_
  refine RunC.fin ?_
  refine AWP.sq ?_
  refine AWP.sq ?_
  refine AWP.rgC 80 rfl rfl ?_
  refine pu (v := .sc _) rfl rfl (fun _ => rfl) ?_
  refine pu (v := .sc _) rfl rfl (fun _ => rfl) ?_
  refine RunC.fin ?_
  refine AWP.cd hR rfl (fun h3 hR => ?_) fun h3 hR => ?_
  · refine AWP.sq ?_
    refine AWP.rgC 92 rfl rfl ?_
    refine pu (v := .sc _) rfl rfl (fun _ => rfl) ?_
    refine pu (v := .sc _) rfl rfl (fun _ => rfl) ?_
    refine pu (v := .sc _) rfl rfl (fun _ => rfl) ?_
    refine RunC.fin ?_
    refine AWP.ret ?_
    refine rtT ?_
    have hR := Option.some.inj hR; subst hR
    exact hQ _ _ (LS.mk [(4, .sc (.int .i64 (w6 (0 - (w6 (Int.tdiv r1.1 (w6 (r_ * r_))))))))] (lblks 0 []) 0) (.sc (.int .i64 (w6 (0 - (w6 (Int.tdiv r1.1 (w6 (r_ * r_)))))))) [] (.inr rfl) (Weak.turnL [] [] rfl rfl (tc (.sc _) tn) mn) (ro1 (rvT (v := .sc (.int .i64 (w6 (0 - (w6 (Int.tdiv r1.1 (w6 (r_ * r_)))))))) rfl)) rfl rfl (.sc _) pn
  · refine AWP.skip ?_
    refine skT ?_
    refine AWP.sq ?_
    refine AWP.rgC 88 rfl rfl ?_
    refine pu (v := .sc _) rfl rfl (fun _ => rfl) ?_
    refine pu (v := .sc _) rfl rfl (fun _ => rfl) ?_
    refine RunC.fin ?_
    refine AWP.ret ?_
    have hR := Option.some.inj hR; subst hR
    exact hQ _ _ (LS.mk [(4, .sc (.int .i64 (w6 (Int.tdiv r1.1 (w6 (r_ * r_))))))] (lblks 0 []) 0) (.sc (.int .i64 (w6 (Int.tdiv r1.1 (w6 (r_ * r_)))))) [] (.inr rfl) (Weak.turnL [] [] rfl rfl (tc (.sc _) tn) mn) (ro1 (rvT (v := .sc (.int .i64 (w6 (Int.tdiv r1.1 (w6 (r_ * r_)))))) rfl)) rfl rfl (.sc _) pn
theorem ok26 (p : Bound × Bound × Bound) (r : Int × Int × Bool) (hR : predict_far p = some r) : FnP Try.prog 26 [aggV false p] (.tup [.sc (.int .i64 r.1), .sc (.int .i64 r.2.1), .sc (.bool r.2.2)]) := by
  refine fnP_of (FnX.walk Try.func26 rfl 44 0 (by simp [Try.ntmps26]) rfl fun W S F Q hQ => ?_)
  unfold predict_far at hR
  refine AWP.sq ?_
  refine AWP.rgC 16 rfl rfl ?_
  refine bx (cs := _) 0 rfl rfl rfl ?_
  refine pu (v := .sc _) rfl rfl (fun _ => rfl) ?_
  refine pu (v := .sc _) rfl rfl (fun _ => rfl) ?_
  refine pu (v := .sc _) rfl rfl (fun _ => rfl) ?_
  refine RunC.fin ?_
  refine AWP.sq ?_
  refine AWP.sq ?_
  refine AWP.rgC 24 rfl rfl ?_
  refine ldB (v := .agg _) rfl rfl rfl rfl ti38 rfl rfl ?_
  refine pu (v := .sc _) rfl rfl (fun _ => rfl) ?_
  refine RunC.fin ?_
  refine AWP.loopK' (fun s1 : Int × Int × Int => LS.mk [(2, .sc (.int .i64 s1.1)), (3, .sc (.int .i64 s1.2.1)), (8, aggV (α := Bound × Bound × Bound) true p), (9, .sc (.int .i64 s1.2.2))] (lblks 0 []) 0) (fun z2 : Int × Int => LS.mk [(2, .sc (.int .i64 z2.1)), (3, .sc (.int .i64 z2.2))] (lblks 0 []) 0) (predict_far.l1 p) hR (s0 := (0, 0, 0)) (Weak.turnL [] [] rfl rfl (tc (.sc _) (tc (.sc _) (tc (.agg (.cons (.sc _) (.cons (.sc _) (.cons (.sc _) (.cons (.sc _) (.cons (.sc _) (.cons (.sc _) (.cons (.sc _) (.cons (.sc _) (.cons (.sc _) (.nil)))))))))) rfl) (tc (.sc _) tn)))) mn) (fun s1 o1 hR hE1 => ?_) fun z2 hR => ?_
  · unfold predict_far.l1 at hR
    refine AWP.sq ?_
    refine AWP.rgC 4 rfl rfl ?_
    refine pu (v := .sc _) rfl rfl (fun _ => rfl) ?_
    refine RunC.fin ?_
    refine AWP.sq ?_
    refine AWP.cd hR rfl (fun h3 hR => ?_) fun h3 hR => ?_
    · refine AWP.skip ?_
      refine skT ?_
      refine AWP.sq ?_
      refine AWP.block ?_
      refine AWP.sq ?_
      refine AWP.rgC 16 rfl rfl ?_
      obtain ⟨h4, hR⟩ := chkE hR
      refine ixD (α := Bound) (nw := true) (xs := ([p.1, p.2.1, p.2.2] : List Bound)) (v := .agg _) rfl rfl rfl rfl ti38 rfl ti36 h4 rfl rfl rfl ?_
      refine al (cs := [.sc (.int .i64 0), .sc (.int .i64 0), .sc (.bool false)]) 8 rfl rfl ti36 rfl rfl ?_
      refine stB (cs' := [.sc (.int .i64 (gt ([p.1, p.2.1, p.2.2] : List Bound) s1.2.2).Lo), .sc (.int .i64 (gt ([p.1, p.2.1, p.2.2] : List Bound) s1.2.2).Hi), .sc (.bool (gt ([p.1, p.2.1, p.2.2] : List Bound) s1.2.2).Unknown)]) rfl rfl rfl rfl ti36 rfl rfl rfl rfl rfl ?_
      refine RunC.fin ?_
      refine AWP.sq ?_
      refine AWP.joinX (fun z5 : Bool => LS.mk [(2, .sc (.int .i64 s1.1)), (3, .sc (.int .i64 s1.2.1)), (6, .ptr 0 0 0), (8, aggV (α := Bound × Bound × Bound) true p), (9, .sc (.int .i64 s1.2.2)), (28, .sc (.bool z5))] (lblks 0 [boxB (α := Bound) true (gt ([p.1, p.2.1, p.2.2] : List Bound) s1.2.2)]) 1) hR (fun o5 hR => ?_) fun z5 hR => ?_
      · refine AWP.rgC 84 rfl rfl ?_
        refine ldB (v := .agg _) rfl rfl rfl rfl ti36 rfl rfl ?_
        obtain ⟨r6, hr6, hR⟩ := bindE hR
        refine cls [] rfl rfl cb39 (ok39 (gt ([p.1, p.2.1, p.2.2] : List Bound) s1.2.2) _ hr6) (.cons (.agg (.cons (.sc _) (.cons (.sc _) (.cons (.sc _) (.nil)))) rfl) (.nil)) (.inr rfl) rfl ?_
        refine pu (v := .sc _) rfl rfl (fun _ => rfl) ?_
        refine pu (v := .sc _) rfl rfl (fun _ => rfl) ?_
        refine brR hR (fun h7 hR => ?_) fun h7 hR => ?_
        · refine sk (skW rfl rfl rfl h7) ?_
          refine sk (skW rfl rfl rfl h7) ?_
          refine pkT (v := .sc (.bool true)) rfl rfl h7 rfl ?_
          refine pu (v := .sc _) rfl rfl (fun _ => rfl) ?_
          refine sk (skW rfl rfl rfl rfl) ?_
          refine sk (skW rfl rfl rfl rfl) ?_
          refine sk (skW rfl rfl rfl rfl) ?_
          refine pkT (v := .sc (.bool true)) rfl rfl rfl rfl ?_
          refine pu (v := .sc _) rfl rfl (fun _ => rfl) ?_
          refine sk (skW rfl rfl rfl rfl) ?_
          refine sk (skW rfl rfl rfl rfl) ?_
          refine sk (skW rfl rfl rfl rfl) ?_
          refine pkT (v := .sc (.bool true)) rfl rfl rfl rfl ?_
          refine RunC.fin ?_
          have hR := Option.some.inj hR; subst hR
          exact Weak.turnL [(8, 0)] [] rfl rfl (tc (.sc _) (tc (.sc _) (tc (trP' rfl rfl rfl rfl) (tc (.agg (.cons (.sc _) (.cons (.sc _) (.cons (.sc _) (.cons (.sc _) (.cons (.sc _) (.cons (.sc _) (.cons (.sc _) (.cons (.sc _) (.cons (.sc _) (.nil)))))))))) rfl) (tc (.sc _) (tc (.sc _) tn)))))) (mc rfl (.box rfl (.cons (.sc _) (.cons (.sc _) (.cons (.sc _) (.nil)))) rfl) mn)
        · refine fa (wtG rfl rfl rfl h7) rfl ti36 rfl rfl ti4 rfl ?_
          refine ldB (v := .sc _) (wtG rfl rfl rfl h7) rfl rfl rfl ti4 rfl rfl ?_
          refine pkF (v := .sc (.bool (gt ([p.1, p.2.1, p.2.2] : List Bound) s1.2.2).Unknown)) rfl rfl h7 rfl ?_
          refine pu (v := .sc _) rfl rfl (fun _ => rfl) ?_
          refine brR hR (fun h8 hR => ?_) fun h8 hR => ?_
          · refine sk (skW rfl rfl rfl h8) ?_
            refine sk (skW rfl rfl rfl h8) ?_
            refine sk (skW rfl rfl rfl h8) ?_
            refine pkT (v := .sc (.bool true)) rfl rfl h8 rfl ?_
            refine pu (v := .sc _) rfl rfl (fun _ => rfl) ?_
            refine sk (skW rfl rfl rfl rfl) ?_
            refine sk (skW rfl rfl rfl rfl) ?_
            refine sk (skW rfl rfl rfl rfl) ?_
            refine pkT (v := .sc (.bool true)) rfl rfl rfl rfl ?_
            refine RunC.fin ?_
            have hR := Option.some.inj hR; subst hR
            exact Weak.turnL [(8, 0)] [] rfl rfl (tc (.sc _) (tc (.sc _) (tc (trP' rfl rfl rfl rfl) (tc (.agg (.cons (.sc _) (.cons (.sc _) (.cons (.sc _) (.cons (.sc _) (.cons (.sc _) (.cons (.sc _) (.cons (.sc _) (.cons (.sc _) (.cons (.sc _) (.nil)))))))))) rfl) (tc (.sc _) (tc (.sc _) tn)))))) (mc rfl (.box rfl (.cons (.sc _) (.cons (.sc _) (.cons (.sc _) (.nil)))) rfl) mn)
          · refine fa (wtG rfl rfl rfl h8) rfl ti36 rfl rfl ti34 rfl ?_
            refine ldB (v := .sc _) (wtG rfl rfl rfl h8) rfl rfl rfl ti34 rfl rfl ?_
            obtain ⟨v9, ev9, hR⟩ := letE hR
            refine pu (v := .sc _) (wtG rfl rfl rfl h8) rfl (fun _ => puB ev9) ?_
            refine pkF (v := .sc (.bool v9)) rfl rfl h8 rfl ?_
            refine pu (v := .sc _) rfl rfl (fun _ => rfl) ?_
            refine brR hR (fun h10 hR => ?_) fun h10 hR => ?_
            · refine sk (skW rfl rfl rfl h10) ?_
              refine sk (skW rfl rfl rfl h10) ?_
              refine sk (skW rfl rfl rfl h10) ?_
              refine pkT (v := .sc (.bool true)) rfl rfl h10 rfl ?_
              refine RunC.fin ?_
              have hR := Option.some.inj hR; subst hR
              exact Weak.turnL [(8, 0)] [] rfl rfl (tc (.sc _) (tc (.sc _) (tc (trP' rfl rfl rfl rfl) (tc (.agg (.cons (.sc _) (.cons (.sc _) (.cons (.sc _) (.cons (.sc _) (.cons (.sc _) (.cons (.sc _) (.cons (.sc _) (.cons (.sc _) (.cons (.sc _) (.nil)))))))))) rfl) (tc (.sc _) (tc (.sc _) tn)))))) (mc rfl (.box rfl (.cons (.sc _) (.cons (.sc _) (.cons (.sc _) (.nil)))) rfl) mn)
            · refine fa (wtG rfl rfl rfl h10) rfl ti36 rfl rfl ti34 rfl ?_
              refine ldB (v := .sc _) (wtG rfl rfl rfl h10) rfl rfl rfl ti34 rfl rfl ?_
              obtain ⟨v11, ev11, hR⟩ := letE hR
              refine pu (v := .sc _) (wtG rfl rfl rfl h10) rfl (fun _ => puB ev11) ?_
              refine pkF (v := .sc (.bool v11)) rfl rfl h10 rfl ?_
              refine RunC.fin ?_
              have hR := Option.some.inj hR; subst hR
              exact Weak.turnL [(8, 0)] [] rfl rfl (tc (.sc _) (tc (.sc _) (tc (trP' rfl rfl rfl rfl) (tc (.agg (.cons (.sc _) (.cons (.sc _) (.cons (.sc _) (.cons (.sc _) (.cons (.sc _) (.cons (.sc _) (.cons (.sc _) (.cons (.sc _) (.cons (.sc _) (.nil)))))))))) rfl) (tc (.sc _) (tc (.sc _) tn)))))) (mc rfl (.box rfl (.cons (.sc _) (.cons (.sc _) (.cons (.sc _) (.nil)))) rfl) mn)
      · refine AWP.cd hR rfl (fun h12 hR => ?_) fun h12 hR => ?_
        · refine AWP.sq ?_
          refine AWP.rgC 13 rfl rfl ?_
          refine pu (v := .sc _) rfl rfl (fun _ => rfl) ?_
          refine pu (v := .sc _) rfl rfl (fun _ => rfl) ?_
          refine pu (v := .sc _) rfl rfl (fun _ => rfl) ?_
          refine RunC.fin ?_
          refine AWP.ret ?_
          refine rtT ?_
          refine rtB ?_
          refine rtT ?_
          refine rtT ?_
          refine rtB (rtT ?_)
          replace hR := escL hR hE1
          refine rtT ?_
          have hR := Option.some.inj hR; subst hR
          exact hQ _ _ (LS.mk [(2, .sc (.int .i64 0)), (3, .sc (.int .i64 0)), (4, .sc (.bool false))] (lblks 0 []) 0) (.tup [.sc (.int .i64 0), .sc (.int .i64 0), .sc (.bool false)]) [] (.inr rfl) (Weak.turnL [] [] rfl rfl (tc (.sc _) (tc (.sc _) (tc (.sc _) tn))) mn) (ro3 (rvT (v := .sc (.int .i64 0)) rfl) (rvT (v := .sc (.int .i64 0)) rfl) (rvT (v := .sc (.bool false)) rfl)) rfl rfl (.tup (.cons (.sc _) (.cons (.sc _) (.cons (.sc _) .nil)))) pn
        · refine AWP.skip ?_
          refine skT ?_
          refine AWP.sq ?_
          refine AWP.rgC 17 rfl rfl ?_
          refine ldB (v := .agg _) rfl rfl rfl rfl ti36 rfl rfl ?_
          obtain ⟨r13, hr13, hR⟩ := bindE hR
          refine cls [] rfl rfl cb40 (ok40 (gt ([p.1, p.2.1, p.2.2] : List Bound) s1.2.2) _ hr13) (.cons (.agg (.cons (.sc _) (.cons (.sc _) (.cons (.sc _) (.nil)))) rfl) (.nil)) (.inr rfl) rfl ?_
          refine al (cs := [.sc (.int .i64 0), .sc (.int .i64 0), .sc (.bool false)]) 9 rfl rfl ti36 rfl rfl ?_
          refine stB (cs' := [.sc (.int .i64 r13.Lo), .sc (.int .i64 r13.Hi), .sc (.bool r13.Unknown)]) rfl rfl rfl rfl ti36 rfl rfl rfl rfl rfl ?_
          refine RunC.fin ?_
          refine AWP.rgD 57 [0, 0, 2, 7, 0, 0, 32, 112, 15, 511] ⟨[], [none, none, some [9], none, none, none, some [9], none, none, none]⟩ hmix (by kernel_rfl) rfl rfl ?_
          refine pu (v := .sc _) rfl rfl (fun _ => rfl) ?_
          refine fa rfl rfl ti36 rfl rfl ti34 rfl ?_
          refine ldB (v := .sc _) rfl rfl rfl rfl ti34 rfl rfl ?_
          refine pu (v := .sc _) rfl rfl (fun _ => rfl) ?_
          refine pu (v := .sc _) rfl rfl (fun _ => rfl) ?_
          refine fa rfl rfl ti36 rfl rfl ti34 rfl ?_
          refine ldB (v := .sc _) rfl rfl rfl rfl ti34 rfl rfl ?_
          refine pu (v := .sc _) rfl rfl (fun _ => rfl) ?_
          refine pu (v := .sc _) rfl rfl (fun _ => rfl) ?_
          refine pu (v := .sc _) rfl rfl (fun _ => rfl) ?_
          refine RunC.blk ?_
          refine RunC.fin ?_
          refine AWP.rgC 65 rfl rfl ?_
          refine pu (v := .sc _) rfl rfl (fun _ => rfl) ?_
          refine pu (v := .sc _) rfl rfl (fun _ => rfl) ?_
          refine RunC.fin ?_
          refine ⟨(w6 (s1.1 + r13.Lo), w6 (s1.2.1 + r13.Hi), w6 (s1.2.2 + 1)), (Option.some.inj hR).symm, ?_⟩
          exact Weak.turnL [] [] rfl rfl (tc (.sc _) (tc (.sc _) (tc (.agg (.cons (.sc _) (.cons (.sc _) (.cons (.sc _) (.cons (.sc _) (.cons (.sc _) (.cons (.sc _) (.cons (.sc _) (.cons (.sc _) (.cons (.sc _) (.nil)))))))))) rfl) (tc (.sc _) tn)))) mn
    · refine AWP.exit ?_
      refine exT ?_
      refine exT ?_
      refine exH (skT ?_)
      refine ⟨(s1.1, s1.2.1), (Option.some.inj hR).symm, ?_⟩
      exact Weak.turnL [] [] rfl rfl (tc (.sc _) (tc (.sc _) tn)) mn
  · refine skT ?_
    refine AWP.sq ?_
    refine AWP.rgC 28 rfl rfl ?_
    refine pu (v := .sc _) rfl rfl (fun _ => rfl) ?_
    obtain ⟨r14, hr14, hR⟩ := bindE hR
    refine cls [] rfl rfl cb31 (ok31 z2.1 _ hr14) (.cons (.sc _) (.nil)) (.inr rfl) rfl ?_
    refine pu (v := .sc _) rfl rfl (fun _ => rfl) ?_
    obtain ⟨r15, hr15, hR⟩ := bindE hR
    refine cls [] rfl rfl cb31 (ok31 z2.2 _ hr15) (.cons (.sc _) (.nil)) (.inr rfl) rfl ?_
    refine pu (v := .sc _) rfl rfl (fun _ => rfl) ?_
    refine pu (v := .sc _) rfl rfl (fun _ => rfl) ?_
    refine pu (v := .sc _) rfl rfl (fun _ => rfl) ?_
    refine RunC.fin ?_
    refine AWP.ret ?_
    have hR := Option.some.inj hR; subst hR
    exact hQ _ _ (LS.mk [(2, .sc (.int .i64 r14)), (3, .sc (.int .i64 r15)), (4, .sc (.bool true))] (lblks 0 []) 0) (.tup [.sc (.int .i64 r14), .sc (.int .i64 r15), .sc (.bool true)]) [] (.inr rfl) (Weak.turnL [] [] rfl rfl (tc (.sc _) (tc (.sc _) (tc (.sc _) tn))) mn) (ro3 (rvT (v := .sc (.int .i64 r14)) rfl) (rvT (v := .sc (.int .i64 r15)) rfl) (rvT (v := .sc (.bool true)) rfl)) rfl rfl (.tup (.cons (.sc _) (.cons (.sc _) (.cons (.sc _) .nil)))) pn
theorem ok14 (p : Bound × Bound × Bound) (r : (Bound × Bound × Bound)) (hR : predict_Pull p = some r) : FnP Try.prog 14 [aggV false p] (aggV (α := Bound × Bound × Bound) true r) := by
  refine fnP_of (FnX.walk Try.func14 rfl 69 0 (by simp [Try.ntmps14]) rfl fun W S F Q hQ => ?_)
  unfold predict_Pull at hR
  refine AWP.sq ?_
  refine AWP.rgC 8 rfl rfl ?_
  refine bx (cs := _) 0 rfl rfl rfl ?_
  refine al (cs := [.sc (.int .i64 0), .sc (.int .i64 0), .sc (.bool false), .sc (.int .i64 0), .sc (.int .i64 0), .sc (.bool false), .sc (.int .i64 0), .sc (.int .i64 0), .sc (.bool false)]) 4 rfl rfl ti38 rfl rfl ?_
  refine RunC.fin ?_
  refine AWP.sq ?_
  refine AWP.rgC 44 rfl rfl ?_
  refine ldB (v := .agg _) rfl rfl rfl rfl ti38 rfl rfl ?_
  obtain ⟨r1, hr1, hR⟩ := bindE hR
  refine cls [] rfl rfl cb26 (ok26 p _ hr1) (.cons (.agg (.cons (.sc _) (.cons (.sc _) (.cons (.sc _) (.cons (.sc _) (.cons (.sc _) (.cons (.sc _) (.cons (.sc _) (.cons (.sc _) (.cons (.sc _) (.nil)))))))))) rfl) (.nil)) (.inr rfl) rfl ?_
  refine pu (v := .tup _) rfl rfl (fun _ => rfl) ?_
  refine pu (v := .sc _) rfl rfl (fun _ => rfl) ?_
  refine pu (v := .sc _) rfl rfl (fun _ => rfl) ?_
  refine pu (v := .sc _) rfl rfl (fun _ => rfl) ?_
  refine pu (v := .sc _) rfl rfl (fun _ => rfl) ?_
  refine pu (v := .sc _) rfl rfl (fun _ => rfl) ?_
  refine pu (v := .sc _) rfl rfl (fun _ => rfl) ?_
  refine RunC.fin ?_
  refine AWP.sq ?_
  refine AWP.rgC 48 rfl rfl ?_
  refine al (cs := [.sc (.int .i64 0), .sc (.int .i64 0), .sc (.bool false), .sc (.int .i64 0), .sc (.int .i64 0), .sc (.bool false), .sc (.int .i64 0), .sc (.int .i64 0), .sc (.bool false)]) 44 rfl rfl ti38 rfl rfl ?_
  refine RunC.fin ?_
  refine AWP.sq ?_
  refine AWP.sq ?_
  refine AWP.rgC 56 rfl rfl ?_
  refine ldB (v := .agg _) rfl rfl rfl rfl ti38 rfl rfl ?_
  refine pu (v := .sc _) rfl rfl (fun _ => rfl) ?_
  refine RunC.fin ?_
  refine AWP.loopJ (fun s2 : (Bound × Bound × Bound) × Int => LS.mk [(2, .ptr 0 0 0), (3, .sc (.int .i64 r1.1)), (4, .sc (.int .i64 r1.2.1)), (5, .sc (.bool r1.2.2)), (6, .ptr 1 0 0), (18, aggV (α := Bound × Bound × Bound) true p), (19, .sc (.int .i64 s2.2))] (lblks 0 [boxB (α := Bound × Bound × Bound) true (Bound.mk 0 0 false, Bound.mk 0 0 false, Bound.mk 0 0 false), boxB (α := Bound × Bound × Bound) true s2.1]) 2) (fun z3 : (Bound × Bound × Bound) => LS.mk [(2, .ptr 0 0 0), (6, .ptr 1 0 0)] (lblks 0 [boxB (α := Bound × Bound × Bound) true (Bound.mk 0 0 false, Bound.mk 0 0 false, Bound.mk 0 0 false), boxB (α := Bound × Bound × Bound) true z3]) 2) (predict_Pull.l1 p r1) hR (s0 := ((Bound.mk 0 0 false, Bound.mk 0 0 false, Bound.mk 0 0 false), 0)) (Weak.turnL [(4, 0), (44, 0)] [] rfl rfl (tc (trP' rfl rfl rfl rfl) (tc (.sc _) (tc (.sc _) (tc (.sc _) (tc (trP' rfl rfl rfl rfl) (tc (.agg (.cons (.sc _) (.cons (.sc _) (.cons (.sc _) (.cons (.sc _) (.cons (.sc _) (.cons (.sc _) (.cons (.sc _) (.cons (.sc _) (.cons (.sc _) (.nil)))))))))) rfl) (tc (.sc _) tn))))))) (mc rfl (.box rfl (.cons (.sc _) (.cons (.sc _) (.cons (.sc _) (.cons (.sc _) (.cons (.sc _) (.cons (.sc _) (.cons (.sc _) (.cons (.sc _) (.cons (.sc _) (.nil)))))))))) rfl) (mc rfl (.box rfl (.cons (.sc _) (.cons (.sc _) (.cons (.sc _) (.cons (.sc _) (.cons (.sc _) (.cons (.sc _) (.cons (.sc _) (.cons (.sc _) (.cons (.sc _) (.nil)))))))))) rfl) mn))) (fun s2 o2 hR => ?_) fun z3 hR => ?_
  · unfold predict_Pull.l1 at hR
    refine AWP.sq ?_
    refine AWP.rgC 6 rfl rfl ?_
    refine pu (v := .sc _) rfl rfl (fun _ => rfl) ?_
    refine RunC.fin ?_
    refine AWP.sq ?_
    refine AWP.cd hR rfl (fun h4 hR => ?_) fun h4 hR => ?_
    · refine AWP.skip ?_
      refine skT ?_
      refine AWP.joinX (fun z5 : (Bound × Bound × Bound) => LS.mk [(2, .ptr 0 0 0), (3, .sc (.int .i64 r1.1)), (4, .sc (.int .i64 r1.2.1)), (5, .sc (.bool r1.2.2)), (6, .ptr 1 0 0), (18, aggV (α := Bound × Bound × Bound) true p), (19, .sc (.int .i64 s2.2))] (lblks 0 [boxB (α := Bound × Bound × Bound) true (Bound.mk 0 0 false, Bound.mk 0 0 false, Bound.mk 0 0 false), boxB (α := Bound × Bound × Bound) true z5]) 2) hR (fun o5 hR => ?_) fun z5 hR => ?_
      · refine AWP.block ?_
        refine AWP.sq ?_
        refine AWP.rgC 26 rfl rfl ?_
        refine pu (v := .sc _) rfl rfl (fun _ => rfl) ?_
        obtain ⟨h6, hR⟩ := chkE hR
        refine ixD (α := Bound) (nw := true) (xs := ([p.1, p.2.1, p.2.2] : List Bound)) (v := .agg _) rfl rfl rfl rfl ti38 rfl ti36 h6 rfl rfl rfl ?_
        refine al (cs := [.sc (.int .i64 0), .sc (.int .i64 0), .sc (.bool false)]) 14 rfl rfl ti36 rfl rfl ?_
        refine pu (v := .sc _) rfl rfl (fun _ => rfl) ?_
        refine stB (cs' := [.sc (.int .i64 (gt ([p.1, p.2.1, p.2.2] : List Bound) s2.2).Lo), .sc (.int .i64 (gt ([p.1, p.2.1, p.2.2] : List Bound) s2.2).Hi), .sc (.bool (gt ([p.1, p.2.1, p.2.2] : List Bound) s2.2).Unknown)]) rfl rfl rfl rfl ti36 rfl rfl rfl rfl rfl ?_
        refine RunC.fin ?_
        refine AWP.sq ?_
        refine AWP.block ?_
        refine AWP.sq ?_
        refine AWP.rgC 38 rfl rfl ?_
        refine pu (v := .sc _) rfl rfl (fun _ => rfl) ?_
        refine pu (v := .sc _) rfl rfl (fun _ => rfl) ?_
        refine pu (v := .sc _) rfl rfl (fun _ => rfl) ?_
        refine RunC.fin ?_
        refine AWP.cd hR rfl (fun h7 hR => ?_) fun h7 hR => ?_
        · refine AWP.sq ?_
          refine AWP.rgC 54 rfl rfl ?_
          refine pu (v := .sc _) rfl rfl (fun _ => rfl) ?_
          obtain ⟨r8, hr8, hR⟩ := bindE hR
          refine cls [] rfl rfl cb27 (ok27 _ hr8) (.nil) (.inr rfl) rfl ?_
          obtain ⟨h9, hR⟩ := chkE hR
          refine iaP (o' := 0 + s2.2.toNat * Cl.e Bound + 0) rfl rfl rfl ti38 rfl ti36 h9 rfl ?_
          obtain ⟨v10, ev10, hR⟩ := letE hR
          refine stD (α := Bound) (nw := true) (pre := []) (post := []) (xs := ([s2.1.1, s2.1.2.1, s2.1.2.2] : List Bound)) (m := s2.2.toNat) (off := 0) (ys := [gt v10 0, gt v10 1, gt v10 2]) (y := r8) (cs' := [.sc (.int .i64 (gt v10 0).Lo), .sc (.int .i64 (gt v10 0).Hi), .sc (.bool (gt v10 0).Unknown), .sc (.int .i64 (gt v10 1).Lo), .sc (.int .i64 (gt v10 1).Hi), .sc (.bool (gt v10 1).Unknown), .sc (.int .i64 (gt v10 2).Lo), .sc (.int .i64 (gt v10 2).Hi), .sc (.bool (gt v10 2).Unknown)]) rfl rfl rfl rfl rfl rfl (ixlt h9) ti36 rfl rfl rfl rfl (etaS ev10 rfl rfl) rfl rfl ?_
          refine RunC.fin ?_
          refine AWP.exit ?_
          refine exB rfl ?_
          refine exT ?_
          refine exH ?_
          refine skT ?_
          have hR := Option.some.inj hR; subst hR
          exact Weak.turnL [(0, 0), (1, 0)] [] rfl rfl (tc (trP' rfl rfl rfl rfl) (tc (.sc _) (tc (.sc _) (tc (.sc _) (tc (trP' rfl rfl rfl rfl) (tc (.agg (.cons (.sc _) (.cons (.sc _) (.cons (.sc _) (.cons (.sc _) (.cons (.sc _) (.cons (.sc _) (.cons (.sc _) (.cons (.sc _) (.cons (.sc _) (.nil)))))))))) rfl) (tc (.sc _) tn))))))) (mc rfl (.box rfl (.cons (.sc _) (.cons (.sc _) (.cons (.sc _) (.cons (.sc _) (.cons (.sc _) (.cons (.sc _) (.cons (.sc _) (.cons (.sc _) (.cons (.sc _) (.nil)))))))))) rfl) (mc rfl (.box rfl (.cons (.sc _) (.cons (.sc _) (.cons (.sc _) (.cons (.sc _) (.cons (.sc _) (.cons (.sc _) (.cons (.sc _) (.cons (.sc _) (.cons (.sc _) (.nil)))))))))) rfl) mn))
        · refine AWP.sq ?_
          refine AWP.rgC 50 rfl rfl ?_
          refine pu (v := .sc _) rfl rfl (fun _ => rfl) ?_
          refine pu (v := .sc _) rfl rfl (fun _ => rfl) ?_
          refine pu (v := .sc _) rfl rfl (fun _ => rfl) ?_
          refine RunC.fin ?_
          refine AWP.cd hR rfl (fun h11 hR => ?_) fun h11 hR => ?_
          · refine AWP.exit ?_
            refine exB rfl ?_
            refine exT ?_
            refine exH ?_
            refine skT ?_
            have hR := Option.some.inj hR; subst hR
            exact Weak.turnL [(0, 0), (1, 0)] [] rfl rfl (tc (trP' rfl rfl rfl rfl) (tc (.sc _) (tc (.sc _) (tc (.sc _) (tc (trP' rfl rfl rfl rfl) (tc (.agg (.cons (.sc _) (.cons (.sc _) (.cons (.sc _) (.cons (.sc _) (.cons (.sc _) (.cons (.sc _) (.cons (.sc _) (.cons (.sc _) (.cons (.sc _) (.nil)))))))))) rfl) (tc (.sc _) tn))))))) (mc rfl (.box rfl (.cons (.sc _) (.cons (.sc _) (.cons (.sc _) (.cons (.sc _) (.cons (.sc _) (.cons (.sc _) (.cons (.sc _) (.cons (.sc _) (.cons (.sc _) (.nil)))))))))) rfl) (mc rfl (.box rfl (.cons (.sc _) (.cons (.sc _) (.cons (.sc _) (.cons (.sc _) (.cons (.sc _) (.cons (.sc _) (.cons (.sc _) (.cons (.sc _) (.cons (.sc _) (.nil)))))))))) rfl) mn))
          · refine AWP.skip ?_
            refine skB ?_
            refine skT ?_
            refine AWP.sq ?_
            refine AWP.rgC 62 rfl rfl ?_
            refine pu (v := .sc _) rfl rfl (fun _ => rfl) ?_
            refine pu (v := .sc _) rfl rfl (fun _ => rfl) ?_
            refine pu (v := .sc _) rfl rfl (fun _ => rfl) ?_
            refine RunC.fin ?_
            refine AWP.sq ?_
            refine AWP.rgD 102 [0, 1, 0, 7, 0, 16, 0, 127, 255, 511] ⟨[], [none, some [14], none, none, none, some [14], none, none, none, none]⟩ hmix (by kernel_rfl) rfl rfl ?_
            refine fa rfl rfl ti36 rfl rfl ti34 rfl ?_
            refine ldB (v := .sc _) rfl rfl rfl rfl ti34 rfl rfl ?_
            refine pu (v := .sc _) rfl rfl (fun _ => rfl) ?_
            obtain ⟨r12, hr12, hR⟩ := bindE hR
            refine cls [] rfl rfl cb28 (ok28 (gt ([p.1, p.2.1, p.2.2] : List Bound) s2.2).Hi r1.2.1 _ hr12) (.cons (.sc _) (.cons (.sc _) (.nil))) (.inr rfl) rfl ?_
            refine fa rfl rfl ti36 rfl rfl ti34 rfl ?_
            refine ldB (v := .sc _) rfl rfl rfl rfl ti34 rfl rfl ?_
            refine pu (v := .sc _) rfl rfl (fun _ => rfl) ?_
            obtain ⟨r13, hr13, hR⟩ := bindE hR
            refine cls [] rfl rfl cb28 (ok28 (gt ([p.1, p.2.1, p.2.2] : List Bound) s2.2).Lo r1.2.1 _ hr13) (.cons (.sc _) (.cons (.sc _) (.nil))) (.inr rfl) rfl ?_
            refine pu (v := .sc _) rfl rfl (fun _ => rfl) ?_
            refine pu (v := .sc _) rfl rfl (fun _ => rfl) ?_
            refine RunC.fin ?_
            refine AWP.sq ?_
            refine AWP.sq ?_
            refine AWP.rgC 114 rfl rfl ?_
            refine fa rfl rfl ti36 rfl rfl ti34 rfl ?_
            refine ldB (v := .sc _) rfl rfl rfl rfl ti34 rfl rfl ?_
            refine pu (v := .sc _) rfl rfl (fun _ => rfl) ?_
            refine RunC.fin ?_
            refine AWP.cd hR rfl (fun h14 hR => ?_) fun h14 hR => ?_
            · refine AWP.rgC 134 rfl rfl ?_
              refine fa rfl rfl ti36 rfl rfl ti34 rfl ?_
              refine ldB (v := .sc _) rfl rfl rfl rfl ti34 rfl rfl ?_
              refine pu (v := .sc _) rfl rfl (fun _ => rfl) ?_
              obtain ⟨r15, hr15, hR⟩ := bindE hR
              refine cls [] rfl rfl cb28 (ok28 (gt ([p.1, p.2.1, p.2.2] : List Bound) s2.2).Hi (mx2 r1.1 65536) _ hr15) (.cons (.sc _) (.cons (.sc _) (.nil))) (.inr rfl) rfl ?_
              refine pu (v := .sc _) rfl rfl (fun _ => rfl) ?_
              refine RunC.fin ?_
              refine AWP.sq ?_
              refine AWP.sq ?_
              refine AWP.rgC 146 rfl rfl ?_
              refine fa rfl rfl ti36 rfl rfl ti34 rfl ?_
              refine ldB (v := .sc _) rfl rfl rfl rfl ti34 rfl rfl ?_
              refine pu (v := .sc _) rfl rfl (fun _ => rfl) ?_
              refine RunC.fin ?_
              refine AWP.cd hR rfl (fun h16 hR => ?_) fun h16 hR => ?_
              · refine AWP.rgC 166 rfl rfl ?_
                refine fa rfl rfl ti36 rfl rfl ti34 rfl ?_
                refine ldB (v := .sc _) rfl rfl rfl rfl ti34 rfl rfl ?_
                refine pu (v := .sc _) rfl rfl (fun _ => rfl) ?_
                obtain ⟨r17, hr17, hR⟩ := bindE hR
                refine cls [] rfl rfl cb28 (ok28 (gt ([p.1, p.2.1, p.2.2] : List Bound) s2.2).Lo (mx2 r1.1 65536) _ hr17) (.cons (.sc _) (.cons (.sc _) (.nil))) (.inr rfl) rfl ?_
                refine pu (v := .sc _) rfl rfl (fun _ => rfl) ?_
                refine RunC.fin ?_
                refine AWP.sq ?_
                refine AWP.sq ?_
                refine AWP.rgC 174 rfl rfl ?_
                refine pu (v := .sc _) rfl rfl (fun _ => rfl) ?_
                refine pu (v := .sc _) rfl rfl (fun _ => rfl) ?_
                refine RunC.fin ?_
                refine AWP.cd hR rfl (fun h18 hR => ?_) fun h18 hR => ?_
                · refine AWP.rgC 198 rfl rfl ?_
                  refine pu (v := .sc _) rfl rfl (fun _ => rfl) ?_
                  refine pu (v := .sc _) rfl rfl (fun _ => rfl) ?_
                  refine pu (v := .sc _) rfl rfl (fun _ => rfl) ?_
                  refine pu (v := .sc _) rfl rfl (fun _ => rfl) ?_
                  refine pu (v := .sc _) rfl rfl (fun _ => rfl) ?_
                  refine pu (v := .sc _) rfl rfl (fun _ => rfl) ?_
                  refine RunC.fin ?_
                  refine AWP.rgC 222 rfl rfl ?_
                  refine pu (v := .sc _) rfl rfl (fun _ => rfl) ?_
                  refine pu (v := .sc _) rfl rfl (fun _ => rfl) ?_
                  refine pu (v := .sc _) rfl rfl (fun _ => rfl) ?_
                  obtain ⟨r19, hr19, hR⟩ := bindE hR
                  refine cls [] rfl rfl cb29 (ok29 (mn2 r15 0) (mx2 r17 0) _ hr19) (.cons (.sc _) (.cons (.sc _) (.nil))) (.inr rfl) rfl ?_
                  obtain ⟨h20, hR⟩ := chkE hR
                  refine iaP (o' := 0 + s2.2.toNat * Cl.e Bound + 0) rfl rfl rfl ti38 rfl ti36 h20 rfl ?_
                  obtain ⟨v21, ev21, hR⟩ := letE hR
                  refine stD (α := Bound) (nw := true) (pre := []) (post := []) (xs := ([s2.1.1, s2.1.2.1, s2.1.2.2] : List Bound)) (m := s2.2.toNat) (off := 0) (ys := [gt v21 0, gt v21 1, gt v21 2]) (y := r19) (cs' := [.sc (.int .i64 (gt v21 0).Lo), .sc (.int .i64 (gt v21 0).Hi), .sc (.bool (gt v21 0).Unknown), .sc (.int .i64 (gt v21 1).Lo), .sc (.int .i64 (gt v21 1).Hi), .sc (.bool (gt v21 1).Unknown), .sc (.int .i64 (gt v21 2).Lo), .sc (.int .i64 (gt v21 2).Hi), .sc (.bool (gt v21 2).Unknown)]) rfl rfl rfl rfl rfl rfl (ixlt h20) ti36 rfl rfl rfl rfl (etaS ev21 rfl rfl) rfl rfl ?_
                  refine RunC.blk ?_
                  refine RunC.fin ?_
                  have hR := Option.some.inj hR; subst hR
                  exact Weak.turnL [(0, 0), (1, 0)] [] rfl rfl (tc (trP' rfl rfl rfl rfl) (tc (.sc _) (tc (.sc _) (tc (.sc _) (tc (trP' rfl rfl rfl rfl) (tc (.agg (.cons (.sc _) (.cons (.sc _) (.cons (.sc _) (.cons (.sc _) (.cons (.sc _) (.cons (.sc _) (.cons (.sc _) (.cons (.sc _) (.cons (.sc _) (.nil)))))))))) rfl) (tc (.sc _) tn))))))) (mc rfl (.box rfl (.cons (.sc _) (.cons (.sc _) (.cons (.sc _) (.cons (.sc _) (.cons (.sc _) (.cons (.sc _) (.cons (.sc _) (.cons (.sc _) (.cons (.sc _) (.nil)))))))))) rfl) (mc rfl (.box rfl (.cons (.sc _) (.cons (.sc _) (.cons (.sc _) (.cons (.sc _) (.cons (.sc _) (.cons (.sc _) (.cons (.sc _) (.cons (.sc _) (.cons (.sc _) (.nil)))))))))) rfl) mn))
                · refine AWP.skip ?_
                  refine skT ?_
                  refine AWP.rgC 198 rfl rfl ?_
                  refine pu (v := .sc _) rfl rfl (fun _ => rfl) ?_
                  refine pu (v := .sc _) rfl rfl (fun _ => rfl) ?_
                  refine pu (v := .sc _) rfl rfl (fun _ => rfl) ?_
                  obtain ⟨r22, hr22, hR⟩ := bindE hR
                  refine cls [] rfl rfl cb29 (ok29 r15 r17 _ hr22) (.cons (.sc _) (.cons (.sc _) (.nil))) (.inr rfl) rfl ?_
                  obtain ⟨h23, hR⟩ := chkE hR
                  refine iaP (o' := 0 + s2.2.toNat * Cl.e Bound + 0) rfl rfl rfl ti38 rfl ti36 h23 rfl ?_
                  obtain ⟨v24, ev24, hR⟩ := letE hR
                  refine stD (α := Bound) (nw := true) (pre := []) (post := []) (xs := ([s2.1.1, s2.1.2.1, s2.1.2.2] : List Bound)) (m := s2.2.toNat) (off := 0) (ys := [gt v24 0, gt v24 1, gt v24 2]) (y := r22) (cs' := [.sc (.int .i64 (gt v24 0).Lo), .sc (.int .i64 (gt v24 0).Hi), .sc (.bool (gt v24 0).Unknown), .sc (.int .i64 (gt v24 1).Lo), .sc (.int .i64 (gt v24 1).Hi), .sc (.bool (gt v24 1).Unknown), .sc (.int .i64 (gt v24 2).Lo), .sc (.int .i64 (gt v24 2).Hi), .sc (.bool (gt v24 2).Unknown)]) rfl rfl rfl rfl rfl rfl (ixlt h23) ti36 rfl rfl rfl rfl (etaS ev24 rfl rfl) rfl rfl ?_
                  refine RunC.blk ?_
                  refine RunC.fin ?_
                  have hR := Option.some.inj hR; subst hR
                  exact Weak.turnL [(0, 0), (1, 0)] [] rfl rfl (tc (trP' rfl rfl rfl rfl) (tc (.sc _) (tc (.sc _) (tc (.sc _) (tc (trP' rfl rfl rfl rfl) (tc (.agg (.cons (.sc _) (.cons (.sc _) (.cons (.sc _) (.cons (.sc _) (.cons (.sc _) (.cons (.sc _) (.cons (.sc _) (.cons (.sc _) (.cons (.sc _) (.nil)))))))))) rfl) (tc (.sc _) tn))))))) (mc rfl (.box rfl (.cons (.sc _) (.cons (.sc _) (.cons (.sc _) (.cons (.sc _) (.cons (.sc _) (.cons (.sc _) (.cons (.sc _) (.cons (.sc _) (.cons (.sc _) (.nil)))))))))) rfl) (mc rfl (.box rfl (.cons (.sc _) (.cons (.sc _) (.cons (.sc _) (.cons (.sc _) (.cons (.sc _) (.cons (.sc _) (.cons (.sc _) (.cons (.sc _) (.cons (.sc _) (.nil)))))))))) rfl) mn))
              · refine AWP.skip ?_
                refine skT ?_
                refine AWP.sq ?_
                refine AWP.sq ?_
                refine AWP.rgC 154 rfl rfl ?_
                refine pu (v := .sc _) rfl rfl (fun _ => rfl) ?_
                refine pu (v := .sc _) rfl rfl (fun _ => rfl) ?_
                refine RunC.fin ?_
                refine AWP.cd hR rfl (fun h25 hR => ?_) fun h25 hR => ?_
                · refine AWP.rgC 178 rfl rfl ?_
                  refine pu (v := .sc _) rfl rfl (fun _ => rfl) ?_
                  refine pu (v := .sc _) rfl rfl (fun _ => rfl) ?_
                  refine pu (v := .sc _) rfl rfl (fun _ => rfl) ?_
                  refine pu (v := .sc _) rfl rfl (fun _ => rfl) ?_
                  refine pu (v := .sc _) rfl rfl (fun _ => rfl) ?_
                  refine pu (v := .sc _) rfl rfl (fun _ => rfl) ?_
                  refine RunC.fin ?_
                  refine AWP.rgC 202 rfl rfl ?_
                  refine pu (v := .sc _) rfl rfl (fun _ => rfl) ?_
                  refine pu (v := .sc _) rfl rfl (fun _ => rfl) ?_
                  refine pu (v := .sc _) rfl rfl (fun _ => rfl) ?_
                  obtain ⟨r26, hr26, hR⟩ := bindE hR
                  refine cls [] rfl rfl cb29 (ok29 (mn2 r15 0) (mx2 r13 0) _ hr26) (.cons (.sc _) (.cons (.sc _) (.nil))) (.inr rfl) rfl ?_
                  obtain ⟨h27, hR⟩ := chkE hR
                  refine iaP (o' := 0 + s2.2.toNat * Cl.e Bound + 0) rfl rfl rfl ti38 rfl ti36 h27 rfl ?_
                  obtain ⟨v28, ev28, hR⟩ := letE hR
                  refine stD (α := Bound) (nw := true) (pre := []) (post := []) (xs := ([s2.1.1, s2.1.2.1, s2.1.2.2] : List Bound)) (m := s2.2.toNat) (off := 0) (ys := [gt v28 0, gt v28 1, gt v28 2]) (y := r26) (cs' := [.sc (.int .i64 (gt v28 0).Lo), .sc (.int .i64 (gt v28 0).Hi), .sc (.bool (gt v28 0).Unknown), .sc (.int .i64 (gt v28 1).Lo), .sc (.int .i64 (gt v28 1).Hi), .sc (.bool (gt v28 1).Unknown), .sc (.int .i64 (gt v28 2).Lo), .sc (.int .i64 (gt v28 2).Hi), .sc (.bool (gt v28 2).Unknown)]) rfl rfl rfl rfl rfl rfl (ixlt h27) ti36 rfl rfl rfl rfl (etaS ev28 rfl rfl) rfl rfl ?_
                  refine RunC.blk ?_
                  refine RunC.fin ?_
                  have hR := Option.some.inj hR; subst hR
                  exact Weak.turnL [(0, 0), (1, 0)] [] rfl rfl (tc (trP' rfl rfl rfl rfl) (tc (.sc _) (tc (.sc _) (tc (.sc _) (tc (trP' rfl rfl rfl rfl) (tc (.agg (.cons (.sc _) (.cons (.sc _) (.cons (.sc _) (.cons (.sc _) (.cons (.sc _) (.cons (.sc _) (.cons (.sc _) (.cons (.sc _) (.cons (.sc _) (.nil)))))))))) rfl) (tc (.sc _) tn))))))) (mc rfl (.box rfl (.cons (.sc _) (.cons (.sc _) (.cons (.sc _) (.cons (.sc _) (.cons (.sc _) (.cons (.sc _) (.cons (.sc _) (.cons (.sc _) (.cons (.sc _) (.nil)))))))))) rfl) (mc rfl (.box rfl (.cons (.sc _) (.cons (.sc _) (.cons (.sc _) (.cons (.sc _) (.cons (.sc _) (.cons (.sc _) (.cons (.sc _) (.cons (.sc _) (.cons (.sc _) (.nil)))))))))) rfl) mn))
                · refine AWP.skip ?_
                  refine skT ?_
                  refine AWP.rgC 178 rfl rfl ?_
                  refine pu (v := .sc _) rfl rfl (fun _ => rfl) ?_
                  refine pu (v := .sc _) rfl rfl (fun _ => rfl) ?_
                  refine pu (v := .sc _) rfl rfl (fun _ => rfl) ?_
                  obtain ⟨r29, hr29, hR⟩ := bindE hR
                  refine cls [] rfl rfl cb29 (ok29 r15 r13 _ hr29) (.cons (.sc _) (.cons (.sc _) (.nil))) (.inr rfl) rfl ?_
                  obtain ⟨h30, hR⟩ := chkE hR
                  refine iaP (o' := 0 + s2.2.toNat * Cl.e Bound + 0) rfl rfl rfl ti38 rfl ti36 h30 rfl ?_
                  obtain ⟨v31, ev31, hR⟩ := letE hR
                  refine stD (α := Bound) (nw := true) (pre := []) (post := []) (xs := ([s2.1.1, s2.1.2.1, s2.1.2.2] : List Bound)) (m := s2.2.toNat) (off := 0) (ys := [gt v31 0, gt v31 1, gt v31 2]) (y := r29) (cs' := [.sc (.int .i64 (gt v31 0).Lo), .sc (.int .i64 (gt v31 0).Hi), .sc (.bool (gt v31 0).Unknown), .sc (.int .i64 (gt v31 1).Lo), .sc (.int .i64 (gt v31 1).Hi), .sc (.bool (gt v31 1).Unknown), .sc (.int .i64 (gt v31 2).Lo), .sc (.int .i64 (gt v31 2).Hi), .sc (.bool (gt v31 2).Unknown)]) rfl rfl rfl rfl rfl rfl (ixlt h30) ti36 rfl rfl rfl rfl (etaS ev31 rfl rfl) rfl rfl ?_
                  refine RunC.blk ?_
                  refine RunC.fin ?_
                  have hR := Option.some.inj hR; subst hR
                  exact Weak.turnL [(0, 0), (1, 0)] [] rfl rfl (tc (trP' rfl rfl rfl rfl) (tc (.sc _) (tc (.sc _) (tc (.sc _) (tc (trP' rfl rfl rfl rfl) (tc (.agg (.cons (.sc _) (.cons (.sc _) (.cons (.sc _) (.cons (.sc _) (.cons (.sc _) (.cons (.sc _) (.cons (.sc _) (.cons (.sc _) (.cons (.sc _) (.nil)))))))))) rfl) (tc (.sc _) tn))))))) (mc rfl (.box rfl (.cons (.sc _) (.cons (.sc _) (.cons (.sc _) (.cons (.sc _) (.cons (.sc _) (.cons (.sc _) (.cons (.sc _) (.cons (.sc _) (.cons (.sc _) (.nil)))))))))) rfl) (mc rfl (.box rfl (.cons (.sc _) (.cons (.sc _) (.cons (.sc _) (.cons (.sc _) (.cons (.sc _) (.cons (.sc _) (.cons (.sc _) (.cons (.sc _) (.cons (.sc _) (.nil)))))))))) rfl) mn))
            · refine AWP.skip ?_
              refine skT ?_
              refine AWP.sq ?_
              refine AWP.sq ?_
              refine AWP.rgC 126 rfl rfl ?_
              refine fa rfl rfl ti36 rfl rfl ti34 rfl ?_
              refine ldB (v := .sc _) rfl rfl rfl rfl ti34 rfl rfl ?_
              refine pu (v := .sc _) rfl rfl (fun _ => rfl) ?_
              refine RunC.fin ?_
              refine AWP.cd hR rfl (fun h32 hR => ?_) fun h32 hR => ?_
              · refine AWP.rgC 146 rfl rfl ?_
                refine fa rfl rfl ti36 rfl rfl ti34 rfl ?_
                refine ldB (v := .sc _) rfl rfl rfl rfl ti34 rfl rfl ?_
                refine pu (v := .sc _) rfl rfl (fun _ => rfl) ?_
                obtain ⟨r33, hr33, hR⟩ := bindE hR
                refine cls [] rfl rfl cb28 (ok28 (gt ([p.1, p.2.1, p.2.2] : List Bound) s2.2).Lo (mx2 r1.1 65536) _ hr33) (.cons (.sc _) (.cons (.sc _) (.nil))) (.inr rfl) rfl ?_
                refine pu (v := .sc _) rfl rfl (fun _ => rfl) ?_
                refine RunC.fin ?_
                refine AWP.sq ?_
                refine AWP.sq ?_
                refine AWP.rgC 154 rfl rfl ?_
                refine pu (v := .sc _) rfl rfl (fun _ => rfl) ?_
                refine pu (v := .sc _) rfl rfl (fun _ => rfl) ?_
                refine RunC.fin ?_
                refine AWP.cd hR rfl (fun h34 hR => ?_) fun h34 hR => ?_
                · refine AWP.rgC 178 rfl rfl ?_
                  refine pu (v := .sc _) rfl rfl (fun _ => rfl) ?_
                  refine pu (v := .sc _) rfl rfl (fun _ => rfl) ?_
                  refine pu (v := .sc _) rfl rfl (fun _ => rfl) ?_
                  refine pu (v := .sc _) rfl rfl (fun _ => rfl) ?_
                  refine pu (v := .sc _) rfl rfl (fun _ => rfl) ?_
                  refine pu (v := .sc _) rfl rfl (fun _ => rfl) ?_
                  refine RunC.fin ?_
                  refine AWP.rgC 202 rfl rfl ?_
                  refine pu (v := .sc _) rfl rfl (fun _ => rfl) ?_
                  refine pu (v := .sc _) rfl rfl (fun _ => rfl) ?_
                  refine pu (v := .sc _) rfl rfl (fun _ => rfl) ?_
                  obtain ⟨r35, hr35, hR⟩ := bindE hR
                  refine cls [] rfl rfl cb29 (ok29 (mn2 r12 0) (mx2 r33 0) _ hr35) (.cons (.sc _) (.cons (.sc _) (.nil))) (.inr rfl) rfl ?_
                  obtain ⟨h36, hR⟩ := chkE hR
                  refine iaP (o' := 0 + s2.2.toNat * Cl.e Bound + 0) rfl rfl rfl ti38 rfl ti36 h36 rfl ?_
                  obtain ⟨v37, ev37, hR⟩ := letE hR
                  refine stD (α := Bound) (nw := true) (pre := []) (post := []) (xs := ([s2.1.1, s2.1.2.1, s2.1.2.2] : List Bound)) (m := s2.2.toNat) (off := 0) (ys := [gt v37 0, gt v37 1, gt v37 2]) (y := r35) (cs' := [.sc (.int .i64 (gt v37 0).Lo), .sc (.int .i64 (gt v37 0).Hi), .sc (.bool (gt v37 0).Unknown), .sc (.int .i64 (gt v37 1).Lo), .sc (.int .i64 (gt v37 1).Hi), .sc (.bool (gt v37 1).Unknown), .sc (.int .i64 (gt v37 2).Lo), .sc (.int .i64 (gt v37 2).Hi), .sc (.bool (gt v37 2).Unknown)]) rfl rfl rfl rfl rfl rfl (ixlt h36) ti36 rfl rfl rfl rfl (etaS ev37 rfl rfl) rfl rfl ?_
                  refine RunC.blk ?_
                  refine RunC.fin ?_
                  have hR := Option.some.inj hR; subst hR
                  exact Weak.turnL [(0, 0), (1, 0)] [] rfl rfl (tc (trP' rfl rfl rfl rfl) (tc (.sc _) (tc (.sc _) (tc (.sc _) (tc (trP' rfl rfl rfl rfl) (tc (.agg (.cons (.sc _) (.cons (.sc _) (.cons (.sc _) (.cons (.sc _) (.cons (.sc _) (.cons (.sc _) (.cons (.sc _) (.cons (.sc _) (.cons (.sc _) (.nil)))))))))) rfl) (tc (.sc _) tn))))))) (mc rfl (.box rfl (.cons (.sc _) (.cons (.sc _) (.cons (.sc _) (.cons (.sc _) (.cons (.sc _) (.cons (.sc _) (.cons (.sc _) (.cons (.sc _) (.cons (.sc _) (.nil)))))))))) rfl) (mc rfl (.box rfl (.cons (.sc _) (.cons (.sc _) (.cons (.sc _) (.cons (.sc _) (.cons (.sc _) (.cons (.sc _) (.cons (.sc _) (.cons (.sc _) (.cons (.sc _) (.nil)))))))))) rfl) mn))
                · refine AWP.skip ?_
                  refine skT ?_
                  refine AWP.rgC 178 rfl rfl ?_
                  refine pu (v := .sc _) rfl rfl (fun _ => rfl) ?_
                  refine pu (v := .sc _) rfl rfl (fun _ => rfl) ?_
                  refine pu (v := .sc _) rfl rfl (fun _ => rfl) ?_
                  obtain ⟨r38, hr38, hR⟩ := bindE hR
                  refine cls [] rfl rfl cb29 (ok29 r12 r33 _ hr38) (.cons (.sc _) (.cons (.sc _) (.nil))) (.inr rfl) rfl ?_
                  obtain ⟨h39, hR⟩ := chkE hR
                  refine iaP (o' := 0 + s2.2.toNat * Cl.e Bound + 0) rfl rfl rfl ti38 rfl ti36 h39 rfl ?_
                  obtain ⟨v40, ev40, hR⟩ := letE hR
                  refine stD (α := Bound) (nw := true) (pre := []) (post := []) (xs := ([s2.1.1, s2.1.2.1, s2.1.2.2] : List Bound)) (m := s2.2.toNat) (off := 0) (ys := [gt v40 0, gt v40 1, gt v40 2]) (y := r38) (cs' := [.sc (.int .i64 (gt v40 0).Lo), .sc (.int .i64 (gt v40 0).Hi), .sc (.bool (gt v40 0).Unknown), .sc (.int .i64 (gt v40 1).Lo), .sc (.int .i64 (gt v40 1).Hi), .sc (.bool (gt v40 1).Unknown), .sc (.int .i64 (gt v40 2).Lo), .sc (.int .i64 (gt v40 2).Hi), .sc (.bool (gt v40 2).Unknown)]) rfl rfl rfl rfl rfl rfl (ixlt h39) ti36 rfl rfl rfl rfl (etaS ev40 rfl rfl) rfl rfl ?_
                  refine RunC.blk ?_
                  refine RunC.fin ?_
                  have hR := Option.some.inj hR; subst hR
                  exact Weak.turnL [(0, 0), (1, 0)] [] rfl rfl (tc (trP' rfl rfl rfl rfl) (tc (.sc _) (tc (.sc _) (tc (.sc _) (tc (trP' rfl rfl rfl rfl) (tc (.agg (.cons (.sc _) (.cons (.sc _) (.cons (.sc _) (.cons (.sc _) (.cons (.sc _) (.cons (.sc _) (.cons (.sc _) (.cons (.sc _) (.cons (.sc _) (.nil)))))))))) rfl) (tc (.sc _) tn))))))) (mc rfl (.box rfl (.cons (.sc _) (.cons (.sc _) (.cons (.sc _) (.cons (.sc _) (.cons (.sc _) (.cons (.sc _) (.cons (.sc _) (.cons (.sc _) (.cons (.sc _) (.nil)))))))))) rfl) (mc rfl (.box rfl (.cons (.sc _) (.cons (.sc _) (.cons (.sc _) (.cons (.sc _) (.cons (.sc _) (.cons (.sc _) (.cons (.sc _) (.cons (.sc _) (.cons (.sc _) (.nil)))))))))) rfl) mn))
              · refine AWP.skip ?_
                refine skT ?_
                refine AWP.sq ?_
                refine AWP.sq ?_
                refine AWP.rgC 134 rfl rfl ?_
                refine pu (v := .sc _) rfl rfl (fun _ => rfl) ?_
                refine pu (v := .sc _) rfl rfl (fun _ => rfl) ?_
                refine RunC.fin ?_
                refine AWP.cd hR rfl (fun h41 hR => ?_) fun h41 hR => ?_
                · refine AWP.rgC 158 rfl rfl ?_
                  refine pu (v := .sc _) rfl rfl (fun _ => rfl) ?_
                  refine pu (v := .sc _) rfl rfl (fun _ => rfl) ?_
                  refine pu (v := .sc _) rfl rfl (fun _ => rfl) ?_
                  refine pu (v := .sc _) rfl rfl (fun _ => rfl) ?_
                  refine pu (v := .sc _) rfl rfl (fun _ => rfl) ?_
                  refine pu (v := .sc _) rfl rfl (fun _ => rfl) ?_
                  refine RunC.fin ?_
                  refine AWP.rgC 182 rfl rfl ?_
                  refine pu (v := .sc _) rfl rfl (fun _ => rfl) ?_
                  refine pu (v := .sc _) rfl rfl (fun _ => rfl) ?_
                  refine pu (v := .sc _) rfl rfl (fun _ => rfl) ?_
                  obtain ⟨r42, hr42, hR⟩ := bindE hR
                  refine cls [] rfl rfl cb29 (ok29 (mn2 r12 0) (mx2 r13 0) _ hr42) (.cons (.sc _) (.cons (.sc _) (.nil))) (.inr rfl) rfl ?_
                  obtain ⟨h43, hR⟩ := chkE hR
                  refine iaP (o' := 0 + s2.2.toNat * Cl.e Bound + 0) rfl rfl rfl ti38 rfl ti36 h43 rfl ?_
                  obtain ⟨v44, ev44, hR⟩ := letE hR
                  refine stD (α := Bound) (nw := true) (pre := []) (post := []) (xs := ([s2.1.1, s2.1.2.1, s2.1.2.2] : List Bound)) (m := s2.2.toNat) (off := 0) (ys := [gt v44 0, gt v44 1, gt v44 2]) (y := r42) (cs' := [.sc (.int .i64 (gt v44 0).Lo), .sc (.int .i64 (gt v44 0).Hi), .sc (.bool (gt v44 0).Unknown), .sc (.int .i64 (gt v44 1).Lo), .sc (.int .i64 (gt v44 1).Hi), .sc (.bool (gt v44 1).Unknown), .sc (.int .i64 (gt v44 2).Lo), .sc (.int .i64 (gt v44 2).Hi), .sc (.bool (gt v44 2).Unknown)]) rfl rfl rfl rfl rfl rfl (ixlt h43) ti36 rfl rfl rfl rfl (etaS ev44 rfl rfl) rfl rfl ?_
                  refine RunC.blk ?_
                  refine RunC.fin ?_
                  have hR := Option.some.inj hR; subst hR
                  exact Weak.turnL [(0, 0), (1, 0)] [] rfl rfl (tc (trP' rfl rfl rfl rfl) (tc (.sc _) (tc (.sc _) (tc (.sc _) (tc (trP' rfl rfl rfl rfl) (tc (.agg (.cons (.sc _) (.cons (.sc _) (.cons (.sc _) (.cons (.sc _) (.cons (.sc _) (.cons (.sc _) (.cons (.sc _) (.cons (.sc _) (.cons (.sc _) (.nil)))))))))) rfl) (tc (.sc _) tn))))))) (mc rfl (.box rfl (.cons (.sc _) (.cons (.sc _) (.cons (.sc _) (.cons (.sc _) (.cons (.sc _) (.cons (.sc _) (.cons (.sc _) (.cons (.sc _) (.cons (.sc _) (.nil)))))))))) rfl) (mc rfl (.box rfl (.cons (.sc _) (.cons (.sc _) (.cons (.sc _) (.cons (.sc _) (.cons (.sc _) (.cons (.sc _) (.cons (.sc _) (.cons (.sc _) (.cons (.sc _) (.nil)))))))))) rfl) mn))
                · refine AWP.skip ?_
                  refine skT ?_
                  refine AWP.rgC 158 rfl rfl ?_
                  refine pu (v := .sc _) rfl rfl (fun _ => rfl) ?_
                  refine pu (v := .sc _) rfl rfl (fun _ => rfl) ?_
                  refine pu (v := .sc _) rfl rfl (fun _ => rfl) ?_
                  obtain ⟨r45, hr45, hR⟩ := bindE hR
                  refine cls [] rfl rfl cb29 (ok29 r12 r13 _ hr45) (.cons (.sc _) (.cons (.sc _) (.nil))) (.inr rfl) rfl ?_
                  obtain ⟨h46, hR⟩ := chkE hR
                  refine iaP (o' := 0 + s2.2.toNat * Cl.e Bound + 0) rfl rfl rfl ti38 rfl ti36 h46 rfl ?_
                  obtain ⟨v47, ev47, hR⟩ := letE hR
                  refine stD (α := Bound) (nw := true) (pre := []) (post := []) (xs := ([s2.1.1, s2.1.2.1, s2.1.2.2] : List Bound)) (m := s2.2.toNat) (off := 0) (ys := [gt v47 0, gt v47 1, gt v47 2]) (y := r45) (cs' := [.sc (.int .i64 (gt v47 0).Lo), .sc (.int .i64 (gt v47 0).Hi), .sc (.bool (gt v47 0).Unknown), .sc (.int .i64 (gt v47 1).Lo), .sc (.int .i64 (gt v47 1).Hi), .sc (.bool (gt v47 1).Unknown), .sc (.int .i64 (gt v47 2).Lo), .sc (.int .i64 (gt v47 2).Hi), .sc (.bool (gt v47 2).Unknown)]) rfl rfl rfl rfl rfl rfl (ixlt h46) ti36 rfl rfl rfl rfl (etaS ev47 rfl rfl) rfl rfl ?_
                  refine RunC.blk ?_
                  refine RunC.fin ?_
                  have hR := Option.some.inj hR; subst hR
                  exact Weak.turnL [(0, 0), (1, 0)] [] rfl rfl (tc (trP' rfl rfl rfl rfl) (tc (.sc _) (tc (.sc _) (tc (.sc _) (tc (trP' rfl rfl rfl rfl) (tc (.agg (.cons (.sc _) (.cons (.sc _) (.cons (.sc _) (.cons (.sc _) (.cons (.sc _) (.cons (.sc _) (.cons (.sc _) (.cons (.sc _) (.cons (.sc _) (.nil)))))))))) rfl) (tc (.sc _) tn))))))) (mc rfl (.box rfl (.cons (.sc _) (.cons (.sc _) (.cons (.sc _) (.cons (.sc _) (.cons (.sc _) (.cons (.sc _) (.cons (.sc _) (.cons (.sc _) (.cons (.sc _) (.nil)))))))))) rfl) (mc rfl (.box rfl (.cons (.sc _) (.cons (.sc _) (.cons (.sc _) (.cons (.sc _) (.cons (.sc _) (.cons (.sc _) (.cons (.sc _) (.cons (.sc _) (.cons (.sc _) (.nil)))))))))) rfl) mn))
      · refine AWP.rgC 10 rfl rfl ?_
        refine pu (v := .sc _) rfl rfl (fun _ => rfl) ?_
        refine pu (v := .sc _) rfl rfl (fun _ => rfl) ?_
        refine RunC.fin ?_
        refine ⟨(z5, w6 (s2.2 + 1)), (Option.some.inj hR).symm, ?_⟩
        exact Weak.turnL [(0, 0), (1, 0)] [] rfl rfl (tc (trP' rfl rfl rfl rfl) (tc (.sc _) (tc (.sc _) (tc (.sc _) (tc (trP' rfl rfl rfl rfl) (tc (.agg (.cons (.sc _) (.cons (.sc _) (.cons (.sc _) (.cons (.sc _) (.cons (.sc _) (.cons (.sc _) (.cons (.sc _) (.cons (.sc _) (.cons (.sc _) (.nil)))))))))) rfl) (tc (.sc _) tn))))))) (mc rfl (.box rfl (.cons (.sc _) (.cons (.sc _) (.cons (.sc _) (.cons (.sc _) (.cons (.sc _) (.cons (.sc _) (.cons (.sc _) (.cons (.sc _) (.cons (.sc _) (.nil)))))))))) rfl) (mc rfl (.box rfl (.cons (.sc _) (.cons (.sc _) (.cons (.sc _) (.cons (.sc _) (.cons (.sc _) (.cons (.sc _) (.cons (.sc _) (.cons (.sc _) (.cons (.sc _) (.nil)))))))))) rfl) mn))
    · refine AWP.exit ?_
      refine exT ?_
      refine exT ?_
      refine exH (skT ?_)
      refine ⟨s2.1, (Option.some.inj hR).symm, ?_⟩
      exact Weak.turnL [(0, 0), (1, 0)] [] rfl rfl (tc (trP' rfl rfl rfl rfl) (tc (trP' rfl rfl rfl rfl) tn)) (mc rfl (.box rfl (.cons (.sc _) (.cons (.sc _) (.cons (.sc _) (.cons (.sc _) (.cons (.sc _) (.cons (.sc _) (.cons (.sc _) (.cons (.sc _) (.cons (.sc _) (.nil)))))))))) rfl) (mc rfl (.box rfl (.cons (.sc _) (.cons (.sc _) (.cons (.sc _) (.cons (.sc _) (.cons (.sc _) (.cons (.sc _) (.cons (.sc _) (.cons (.sc _) (.cons (.sc _) (.nil)))))))))) rfl) mn))
  · refine skT ?_
    refine AWP.sq ?_
    refine AWP.rgC 10 rfl rfl ?_
    refine ldB (v := .agg _) rfl rfl rfl rfl ti38 rfl rfl ?_
    refine stB (cs' := [.sc (.int .i64 z3.1.Lo), .sc (.int .i64 z3.1.Hi), .sc (.bool z3.1.Unknown), .sc (.int .i64 z3.2.1.Lo), .sc (.int .i64 z3.2.1.Hi), .sc (.bool z3.2.1.Unknown), .sc (.int .i64 z3.2.2.Lo), .sc (.int .i64 z3.2.2.Hi), .sc (.bool z3.2.2.Unknown)]) rfl rfl rfl rfl ti38 rfl rfl rfl rfl rfl ?_
    refine RunC.fin ?_
    refine AWP.ret ?_
    have hR := Option.some.inj hR; subst hR
    exact hQ _ _ (LS.mk [(2, .ptr 0 0 0)] (lblks 0 [boxB (α := Bound × Bound × Bound) true z3]) 1) (aggV (α := Bound × Bound × Bound) true z3) [] (.inr rfl) (Weak.turnL [(0, 0)] [] rfl rfl (tc (trP' rfl rfl rfl rfl) tn) (mc rfl (.box rfl (.cons (.sc _) (.cons (.sc _) (.cons (.sc _) (.cons (.sc _) (.cons (.sc _) (.cons (.sc _) (.cons (.sc _) (.cons (.sc _) (.cons (.sc _) (.nil)))))))))) rfl) mn)) (ro1 (rvC (v := aggV (α := Bound × Bound × Bound) true z3) rfl rfl ti38 rfl)) rfl rfl ldA pn
theorem ok24 (was : Bound × Bound × Bound) (here : Bound × Bound × Bound) (r : (Bound × Bound × Bound)) (hR : predict_Step was here = some r) : FnP Try.prog 24 [aggV false was, aggV false here] (aggV (α := Bound × Bound × Bound) true r) := by
  refine fnP_of (FnX.walk Try.func24 rfl 29 0 (by simp [Try.ntmps24]) rfl fun W S F Q hQ => ?_)
  unfold predict_Step at hR
  refine AWP.sq ?_
  refine AWP.rgC 12 rfl rfl ?_
  refine bx (cs := _) 0 rfl rfl rfl ?_
  refine bx (cs := _) 4 rfl rfl rfl ?_
  refine al (cs := [.sc (.int .i64 0), .sc (.int .i64 0), .sc (.bool false), .sc (.int .i64 0), .sc (.int .i64 0), .sc (.bool false), .sc (.int .i64 0), .sc (.int .i64 0), .sc (.bool false)]) 8 rfl rfl ti38 rfl rfl ?_
  refine RunC.fin ?_
  refine AWP.sq ?_
  refine AWP.rgC 28 rfl rfl ?_
  refine ldB (v := .agg _) rfl rfl rfl rfl ti38 rfl rfl ?_
  obtain ⟨r1, hr1, hR⟩ := bindE hR
  refine cls [] rfl rfl cb14 (ok14 here _ hr1) (.cons (.agg (.cons (.sc _) (.cons (.sc _) (.cons (.sc _) (.cons (.sc _) (.cons (.sc _) (.cons (.sc _) (.cons (.sc _) (.cons (.sc _) (.cons (.sc _) (.nil)))))))))) rfl) (.nil)) (.inr rfl) rfl ?_
  refine al (cs := [.sc (.int .i64 0), .sc (.int .i64 0), .sc (.bool false), .sc (.int .i64 0), .sc (.int .i64 0), .sc (.bool false), .sc (.int .i64 0), .sc (.int .i64 0), .sc (.bool false)]) 20 rfl rfl ti38 rfl rfl ?_
  refine stB (cs' := [.sc (.int .i64 r1.1.Lo), .sc (.int .i64 r1.1.Hi), .sc (.bool r1.1.Unknown), .sc (.int .i64 r1.2.1.Lo), .sc (.int .i64 r1.2.1.Hi), .sc (.bool r1.2.1.Unknown), .sc (.int .i64 r1.2.2.Lo), .sc (.int .i64 r1.2.2.Hi), .sc (.bool r1.2.2.Unknown)]) rfl rfl rfl rfl ti38 rfl rfl rfl rfl rfl ?_
  refine RunC.fin ?_
  refine AWP.sq ?_
  refine AWP.rgC 32 rfl rfl ?_
  refine al (cs := [.sc (.int .i64 0), .sc (.int .i64 0), .sc (.bool false), .sc (.int .i64 0), .sc (.int .i64 0), .sc (.bool false), .sc (.int .i64 0), .sc (.int .i64 0), .sc (.bool false)]) 28 rfl rfl ti38 rfl rfl ?_
  refine RunC.fin ?_
  refine AWP.sq ?_
  refine AWP.sq ?_
  refine AWP.rgC 36 rfl rfl ?_
  refine pu (v := .sc _) rfl rfl (fun _ => rfl) ?_
  refine RunC.fin ?_
  refine AWP.loopJ (fun s2 : (Bound × Bound × Bound) × Int => LS.mk [(2, .ptr 0 0 0), (3, .ptr 1 0 0), (4, .ptr 2 0 0), (5, .ptr 3 0 0), (6, .ptr 4 0 0), (10, .sc (.int .i64 s2.2))] (lblks 0 [boxB (α := Bound × Bound × Bound) true was, boxB (α := Bound × Bound × Bound) true here, boxB (α := Bound × Bound × Bound) true (Bound.mk 0 0 false, Bound.mk 0 0 false, Bound.mk 0 0 false), boxB (α := Bound × Bound × Bound) true r1, boxB (α := Bound × Bound × Bound) true s2.1]) 5) (fun z3 : (Bound × Bound × Bound) => LS.mk [(4, .ptr 0 0 0), (6, .ptr 1 0 0)] (lblks 0 [boxB (α := Bound × Bound × Bound) true (Bound.mk 0 0 false, Bound.mk 0 0 false, Bound.mk 0 0 false), boxB (α := Bound × Bound × Bound) true z3]) 2) (predict_Step.l1 was here r1) hR (s0 := ((Bound.mk 0 0 false, Bound.mk 0 0 false, Bound.mk 0 0 false), 0)) (Weak.turnL [(0, 0), (4, 0), (8, 0), (20, 0), (28, 0)] [] rfl rfl (tc (trP' rfl rfl rfl rfl) (tc (trP' rfl rfl rfl rfl) (tc (trP' rfl rfl rfl rfl) (tc (trP' rfl rfl rfl rfl) (tc (trP' rfl rfl rfl rfl) (tc (.sc _) tn)))))) (mc rfl (.box rfl (.cons (.sc _) (.cons (.sc _) (.cons (.sc _) (.cons (.sc _) (.cons (.sc _) (.cons (.sc _) (.cons (.sc _) (.cons (.sc _) (.cons (.sc _) (.nil)))))))))) rfl) (mc rfl (.box rfl (.cons (.sc _) (.cons (.sc _) (.cons (.sc _) (.cons (.sc _) (.cons (.sc _) (.cons (.sc _) (.cons (.sc _) (.cons (.sc _) (.cons (.sc _) (.nil)))))))))) rfl) (mc rfl (.box rfl (.cons (.sc _) (.cons (.sc _) (.cons (.sc _) (.cons (.sc _) (.cons (.sc _) (.cons (.sc _) (.cons (.sc _) (.cons (.sc _) (.cons (.sc _) (.nil)))))))))) rfl) (mc rfl (.box rfl (.cons (.sc _) (.cons (.sc _) (.cons (.sc _) (.cons (.sc _) (.cons (.sc _) (.cons (.sc _) (.cons (.sc _) (.cons (.sc _) (.cons (.sc _) (.nil)))))))))) rfl) (mc rfl (.box rfl (.cons (.sc _) (.cons (.sc _) (.cons (.sc _) (.cons (.sc _) (.cons (.sc _) (.cons (.sc _) (.cons (.sc _) (.cons (.sc _) (.cons (.sc _) (.nil)))))))))) rfl) mn)))))) (fun s2 o2 hR => ?_) fun z3 hR => ?_
  · unfold predict_Step.l1 at hR
    refine AWP.sq ?_
    refine AWP.rgC 9 rfl rfl ?_
    refine pu (v := .sc _) rfl rfl (fun _ => rfl) ?_
    refine RunC.fin ?_
    refine AWP.sq ?_
    refine AWP.cd hR rfl (fun h4 hR => ?_) fun h4 hR => ?_
    · refine AWP.skip ?_
      refine skT ?_
      refine AWP.sq ?_
      refine AWP.block ?_
      refine AWP.sq ?_
      refine AWP.rgC 17 rfl rfl ?_
      refine pu (v := .sc _) rfl rfl (fun _ => rfl) ?_
      refine pu (v := .sc _) rfl rfl (fun _ => rfl) ?_
      refine RunC.fin ?_
      refine AWP.rgD 77 [0, 0, 2, 6, 14, 0, 32, 96, 254, 0, 512, 1536, 4094, 8191, 16383] ⟨[], [none, none, none, some [1], none, none, none, some [0], none, none, none, some [3], none, none, some [4]]⟩ hmix (by kernel_rfl) rfl rfl ?_
      refine pu (v := .sc _) rfl rfl (fun _ => rfl) ?_
      refine pu (v := .sc _) rfl rfl (fun _ => rfl) ?_
      obtain ⟨h5, hR⟩ := chkE hR
      refine iaP (o' := 0 + s2.2.toNat * Cl.e Bound + 0) rfl rfl rfl ti38 rfl ti36 h5 rfl ?_
      refine ldD (α := Bound) (nw := true) (pre := []) (post := []) (xs := ([here.1, here.2.1, here.2.2] : List Bound)) (m := s2.2.toNat) (off := 0) (v := .agg _) rfl rfl rfl rfl rfl rfl (ixlt h5) ti36 rfl rfl rfl rfl ?_
      obtain ⟨r6, hr6, hR⟩ := bindE hR
      refine cls [] rfl rfl cb37 (ok37 (gt ([here.1, here.2.1, here.2.2] : List Bound) s2.2) 2 1 _ hr6) (.cons (.agg (.cons (.sc _) (.cons (.sc _) (.cons (.sc _) (.nil)))) rfl) (.cons (.sc _) (.cons (.sc _) (.nil)))) (.inr rfl) rfl ?_
      refine pu (v := .sc _) rfl rfl (fun _ => rfl) ?_
      obtain ⟨h7, hR⟩ := chkE hR
      refine iaP (o' := 0 + s2.2.toNat * Cl.e Bound + 0) rfl rfl rfl ti38 rfl ti36 h7 rfl ?_
      refine ldD (α := Bound) (nw := true) (pre := []) (post := []) (xs := ([was.1, was.2.1, was.2.2] : List Bound)) (m := s2.2.toNat) (off := 0) (v := .agg _) rfl rfl rfl rfl rfl rfl (ixlt h7) ti36 rfl rfl rfl rfl ?_
      obtain ⟨r8, hr8, hR⟩ := bindE hR
      refine cls [] rfl rfl cb36 (ok36 r6 (gt ([was.1, was.2.1, was.2.2] : List Bound) s2.2) _ hr8) (.cons (.agg (.cons (.sc _) (.cons (.sc _) (.cons (.sc _) (.nil)))) rfl) (.cons (.agg (.cons (.sc _) (.cons (.sc _) (.cons (.sc _) (.nil)))) rfl) (.nil))) (.inr rfl) rfl ?_
      refine pu (v := .sc _) rfl rfl (fun _ => rfl) ?_
      obtain ⟨h9, hR⟩ := chkE hR
      refine iaP (o' := 0 + s2.2.toNat * Cl.e Bound + 0) rfl rfl rfl ti38 rfl ti36 h9 rfl ?_
      refine ldD (α := Bound) (nw := true) (pre := []) (post := []) (xs := ([r1.1, r1.2.1, r1.2.2] : List Bound)) (m := s2.2.toNat) (off := 0) (v := .agg _) rfl rfl rfl rfl rfl rfl (ixlt h9) ti36 rfl rfl rfl rfl ?_
      obtain ⟨r10, hr10, hR⟩ := bindE hR
      refine cls [] rfl rfl cb35 (ok35 r8 (gt ([r1.1, r1.2.1, r1.2.2] : List Bound) s2.2) _ hr10) (.cons (.agg (.cons (.sc _) (.cons (.sc _) (.cons (.sc _) (.nil)))) rfl) (.cons (.agg (.cons (.sc _) (.cons (.sc _) (.cons (.sc _) (.nil)))) rfl) (.nil))) (.inr rfl) rfl ?_
      obtain ⟨h11, hR⟩ := chkE hR
      refine iaP (o' := 0 + s2.2.toNat * Cl.e Bound + 0) rfl rfl rfl ti38 rfl ti36 h11 rfl ?_
      obtain ⟨v12, ev12, hR⟩ := letE hR
      refine stD (α := Bound) (nw := true) (pre := []) (post := []) (xs := ([s2.1.1, s2.1.2.1, s2.1.2.2] : List Bound)) (m := s2.2.toNat) (off := 0) (ys := [gt v12 0, gt v12 1, gt v12 2]) (y := r10) (cs' := [.sc (.int .i64 (gt v12 0).Lo), .sc (.int .i64 (gt v12 0).Hi), .sc (.bool (gt v12 0).Unknown), .sc (.int .i64 (gt v12 1).Lo), .sc (.int .i64 (gt v12 1).Hi), .sc (.bool (gt v12 1).Unknown), .sc (.int .i64 (gt v12 2).Lo), .sc (.int .i64 (gt v12 2).Hi), .sc (.bool (gt v12 2).Unknown)]) rfl rfl rfl rfl rfl rfl (ixlt h11) ti36 rfl rfl rfl rfl (etaS ev12 rfl rfl) rfl rfl ?_
      refine RunC.blk ?_
      refine RunC.fin ?_
      refine AWP.rgC 85 rfl rfl ?_
      refine pu (v := .sc _) rfl rfl (fun _ => rfl) ?_
      refine pu (v := .sc _) rfl rfl (fun _ => rfl) ?_
      refine RunC.fin ?_
      refine ⟨((gt v12 0, gt v12 1, gt v12 2), w6 (s2.2 + 1)), (Option.some.inj hR).symm, ?_⟩
      exact Weak.turnL [(0, 0), (1, 0), (2, 0), (3, 0), (4, 0)] [] rfl rfl (tc (trP' rfl rfl rfl rfl) (tc (trP' rfl rfl rfl rfl) (tc (trP' rfl rfl rfl rfl) (tc (trP' rfl rfl rfl rfl) (tc (trP' rfl rfl rfl rfl) (tc (.sc _) tn)))))) (mc rfl (.box rfl (.cons (.sc _) (.cons (.sc _) (.cons (.sc _) (.cons (.sc _) (.cons (.sc _) (.cons (.sc _) (.cons (.sc _) (.cons (.sc _) (.cons (.sc _) (.nil)))))))))) rfl) (mc rfl (.box rfl (.cons (.sc _) (.cons (.sc _) (.cons (.sc _) (.cons (.sc _) (.cons (.sc _) (.cons (.sc _) (.cons (.sc _) (.cons (.sc _) (.cons (.sc _) (.nil)))))))))) rfl) (mc rfl (.box rfl (.cons (.sc _) (.cons (.sc _) (.cons (.sc _) (.cons (.sc _) (.cons (.sc _) (.cons (.sc _) (.cons (.sc _) (.cons (.sc _) (.cons (.sc _) (.nil)))))))))) rfl) (mc rfl (.box rfl (.cons (.sc _) (.cons (.sc _) (.cons (.sc _) (.cons (.sc _) (.cons (.sc _) (.cons (.sc _) (.cons (.sc _) (.cons (.sc _) (.cons (.sc _) (.nil)))))))))) rfl) (mc rfl (.box rfl (.cons (.sc _) (.cons (.sc _) (.cons (.sc _) (.cons (.sc _) (.cons (.sc _) (.cons (.sc _) (.cons (.sc _) (.cons (.sc _) (.cons (.sc _) (.nil)))))))))) rfl) mn)))))
    · refine AWP.exit ?_
      refine exT ?_
      refine exT ?_
      refine exH (skT ?_)
      refine ⟨s2.1, (Option.some.inj hR).symm, ?_⟩
      exact Weak.turnL [(2, 0), (4, 0)] [] rfl rfl (tc (trP' rfl rfl rfl rfl) (tc (trP' rfl rfl rfl rfl) tn)) (mc rfl (.box rfl (.cons (.sc _) (.cons (.sc _) (.cons (.sc _) (.cons (.sc _) (.cons (.sc _) (.cons (.sc _) (.cons (.sc _) (.cons (.sc _) (.cons (.sc _) (.nil)))))))))) rfl) (mc rfl (.box rfl (.cons (.sc _) (.cons (.sc _) (.cons (.sc _) (.cons (.sc _) (.cons (.sc _) (.cons (.sc _) (.cons (.sc _) (.cons (.sc _) (.cons (.sc _) (.nil)))))))))) rfl) mn))
  · refine skT ?_
    refine AWP.sq ?_
    refine AWP.rgC 10 rfl rfl ?_
    refine ldB (v := .agg _) rfl rfl rfl rfl ti38 rfl rfl ?_
    refine stB (cs' := [.sc (.int .i64 z3.1.Lo), .sc (.int .i64 z3.1.Hi), .sc (.bool z3.1.Unknown), .sc (.int .i64 z3.2.1.Lo), .sc (.int .i64 z3.2.1.Hi), .sc (.bool z3.2.1.Unknown), .sc (.int .i64 z3.2.2.Lo), .sc (.int .i64 z3.2.2.Hi), .sc (.bool z3.2.2.Unknown)]) rfl rfl rfl rfl ti38 rfl rfl rfl rfl rfl ?_
    refine RunC.fin ?_
    refine AWP.ret ?_
    have hR := Option.some.inj hR; subst hR
    exact hQ _ _ (LS.mk [(4, .ptr 0 0 0)] (lblks 0 [boxB (α := Bound × Bound × Bound) true z3]) 1) (aggV (α := Bound × Bound × Bound) true z3) [] (.inr rfl) (Weak.turnL [(0, 0)] [] rfl rfl (tc (trP' rfl rfl rfl rfl) tn) (mc rfl (.box rfl (.cons (.sc _) (.cons (.sc _) (.cons (.sc _) (.cons (.sc _) (.cons (.sc _) (.cons (.sc _) (.cons (.sc _) (.cons (.sc _) (.cons (.sc _) (.nil)))))))))) rfl) mn)) (ro1 (rvC (v := aggV (α := Bound × Bound × Bound) true z3) rfl rfl ti38 rfl)) rfl rfl ldA pn
theorem ok32 (x : Int) (p1 : Int) (r : Int) (hR : sky_Pull_1 x p1 = some r) : FnP Try.prog 32 [.sc (.int .i64 x), .rp (Cl.c false p1)] (.sc (.int .i64 r)) := by
  refine fnP_of (FnX.walk Try.func32 rfl 25 0 (by simp [Try.ntmps32]) rfl fun W S F Q hQ => ?_)
  unfold sky_Pull_1 at hR
  refine AWP.sq ?_
  refine AWP.rgC 4 rfl rfl ?_
  refine pu (v := .sc _) rfl rfl (fun _ => rfl) ?_
  refine RunC.fin ?_
  refine AWP.sq ?_
  refine AWP.rgC 48 rfl rfl ?_
  refine pu (v := .sc _) rfl rfl (fun _ => rfl) ?_
  refine pu (v := .sc _) rfl rfl (fun _ => rfl) ?_
  refine pu (v := .sc _) rfl rfl (fun _ => rfl) ?_
  refine pu (v := .sc _) rfl rfl (fun _ => rfl) ?_
  refine ldR (v := .sc _) rfl rfl ti2 rfl ?_
  obtain ⟨r1, hr1, hR⟩ := bindE hR
  refine cls [] rfl rfl cb33 (ok33 9007199254740992 (mx2 x (w6 (0 - x))) p1 _ hr1) (.cons (.sc _) (.cons (.sc _) (.cons (.sc _) (.nil)))) (.inr rfl) rfl ?_
  refine pu (v := .tup _) rfl rfl (fun _ => rfl) ?_
  refine pu (v := .sc _) rfl rfl (fun _ => rfl) ?_
  refine pu (v := .sc _) rfl rfl (fun _ => rfl) ?_
  refine pu (v := .sc _) rfl rfl (fun _ => rfl) ?_
  refine pu (v := .sc _) rfl rfl (fun _ => rfl) ?_
  refine RunC.fin ?_
  refine AWP.sq ?_
  refine AWP.rgC 72 rfl rfl ?_
  refine pu (v := .sc _) rfl rfl (fun _ => rfl) ?_
  refine ldR (v := .sc _) rfl rfl ti2 rfl ?_
  refine ldR (v := .sc _) rfl rfl ti2 rfl ?_
  refine pu (v := .sc _) rfl rfl (fun _ => rfl) ?_
  obtain ⟨h2, hR⟩ := chkE hR
  refine qu rfl rfl rfl h2 rfl ?_
  refine pu (v := .sc _) rfl rfl (fun _ => rfl) ?_
  refine RunC.fin ?_
  refine AWP.sq ?_
  refine AWP.sq ?_
  refine AWP.rgC 80 rfl rfl ?_
  refine pu (v := .sc _) rfl rfl (fun _ => rfl) ?_
  refine pu (v := .sc _) rfl rfl (fun _ => rfl) ?_
  refine RunC.fin ?_
  refine AWP.cd hR rfl (fun h3 hR => ?_) fun h3 hR => ?_
  · refine AWP.sq ?_
    refine AWP.rgC 92 rfl rfl ?_
    refine pu (v := .sc _) rfl rfl (fun _ => rfl) ?_
    refine pu (v := .sc _) rfl rfl (fun _ => rfl) ?_
    refine pu (v := .sc _) rfl rfl (fun _ => rfl) ?_
    refine RunC.fin ?_
    refine AWP.ret ?_
    refine rtT ?_
    have hR := Option.some.inj hR; subst hR
    exact hQ _ _ (LS.mk [(3, .sc (.int .i64 (w6 (0 - (w6 (Int.tdiv r1.1 (w6 (p1 * p1))))))))] (lblks 0 []) 0) (.sc (.int .i64 (w6 (0 - (w6 (Int.tdiv r1.1 (w6 (p1 * p1)))))))) [] (.inr rfl) (Weak.turnL [] [] rfl rfl (tc (.sc _) tn) mn) (ro1 (rvT (v := .sc (.int .i64 (w6 (0 - (w6 (Int.tdiv r1.1 (w6 (p1 * p1)))))))) rfl)) rfl rfl (.sc _) pn
  · refine AWP.skip ?_
    refine skT ?_
    refine AWP.sq ?_
    refine AWP.rgC 88 rfl rfl ?_
    refine pu (v := .sc _) rfl rfl (fun _ => rfl) ?_
    refine pu (v := .sc _) rfl rfl (fun _ => rfl) ?_
    refine RunC.fin ?_
    refine AWP.ret ?_
    have hR := Option.some.inj hR; subst hR
    exact hQ _ _ (LS.mk [(3, .sc (.int .i64 (w6 (Int.tdiv r1.1 (w6 (p1 * p1))))))] (lblks 0 []) 0) (.sc (.int .i64 (w6 (Int.tdiv r1.1 (w6 (p1 * p1)))))) [] (.inr rfl) (Weak.turnL [] [] rfl rfl (tc (.sc _) tn) mn) (ro1 (rvT (v := .sc (.int .i64 (w6 (Int.tdiv r1.1 (w6 (p1 * p1)))))) rfl)) rfl rfl (.sc _) pn
theorem ok15 (at_ : Vec) (r : Vec) (hR : sky_Pull at_ = some r) : FnP Try.prog 15 [aggV false at_] (aggV (α := Vec) true r) := by
  refine fnP_of (FnX.walk Try.func15 rfl 44 0 (by simp [Try.ntmps15]) rfl fun W S F Q hQ => ?_)
  unfold sky_Pull at hR
  refine AWP.sq ?_
  refine AWP.rgC 8 rfl rfl ?_
  refine bx (cs := _) 0 rfl rfl rfl ?_
  refine al (cs := [.sc (.int .i64 0), .sc (.int .i64 0), .sc (.int .i64 0)]) 4 rfl rfl ti27 rfl rfl ?_
  refine RunC.fin ?_
  refine AWP.sq ?_
  refine AWP.sq ?_
  refine AWP.rgC 20 rfl rfl ?_
  refine ldB (v := .agg _) rfl rfl rfl rfl ti27 rfl rfl ?_
  obtain ⟨r1, hr1, hR⟩ := bindE hR
  refine cls [] rfl rfl cb30 (ok30 at_ 4194304 _ hr1) (.cons (.agg (.cons (.sc _) (.cons (.sc _) (.cons (.sc _) (.nil)))) rfl) (.cons (.sc _) (.nil))) (.inr rfl) rfl ?_
  refine pu (v := .sc _) rfl rfl (fun _ => rfl) ?_
  refine RunC.fin ?_
  refine AWP.cd hR rfl (fun h2 hR => ?_) fun h2 hR => ?_
  · refine AWP.sq ?_
    refine AWP.rgC 28 rfl rfl ?_
    refine bu (cs := [.sc (.int .i64 0), .sc (.int .i64 0), .sc (.int .i64 0)]) rfl bt27 rfl ?_
    refine stB (cs' := [.sc (.int .i64 0), .sc (.int .i64 0), .sc (.int .i64 0)]) rfl rfl rfl rfl ti27 rfl rfl rfl rfl rfl ?_
    refine RunC.fin ?_
    refine AWP.ret ?_
    refine rtT ?_
    have hR := Option.some.inj hR; subst hR
    exact hQ _ _ (LS.mk [(2, .ptr 0 0 0)] (lblks 0 [boxB (α := Vec) true (Vec.mk 0 0 0)]) 1) (aggV (α := Vec) true (Vec.mk 0 0 0)) [] (.inr rfl) (Weak.turnL [(4, 0)] [] rfl rfl (tc (trP' rfl rfl rfl rfl) tn) (mc rfl (.box rfl (.cons (.sc _) (.cons (.sc _) (.cons (.sc _) (.nil)))) rfl) mn)) (ro1 (rvC (v := aggV (α := Vec) true (Vec.mk 0 0 0)) rfl rfl ti27 rfl)) rfl rfl ldA pn
  · refine AWP.skip ?_
    refine skT ?_
    refine AWP.sq ?_
    refine AWP.rgC 100 rfl rfl ?_
    refine fa rfl rfl ti27 rfl rfl ti2 rfl ?_
    refine ldB (v := .sc _) rfl rfl rfl rfl ti2 rfl rfl ?_
    refine fa rfl rfl ti27 rfl rfl ti2 rfl ?_
    refine ldB (v := .sc _) rfl rfl rfl rfl ti2 rfl rfl ?_
    refine pu (v := .sc _) rfl rfl (fun _ => rfl) ?_
    refine fa rfl rfl ti27 rfl rfl ti2 rfl ?_
    refine ldB (v := .sc _) rfl rfl rfl rfl ti2 rfl rfl ?_
    refine fa rfl rfl ti27 rfl rfl ti2 rfl ?_
    refine ldB (v := .sc _) rfl rfl rfl rfl ti2 rfl rfl ?_
    refine pu (v := .sc _) rfl rfl (fun _ => rfl) ?_
    refine pu (v := .sc _) rfl rfl (fun _ => rfl) ?_
    refine fa rfl rfl ti27 rfl rfl ti2 rfl ?_
    refine ldB (v := .sc _) rfl rfl rfl rfl ti2 rfl rfl ?_
    refine fa rfl rfl ti27 rfl rfl ti2 rfl ?_
    refine ldB (v := .sc _) rfl rfl rfl rfl ti2 rfl rfl ?_
    refine pu (v := .sc _) rfl rfl (fun _ => rfl) ?_
    obtain ⟨v3, ev3, hR⟩ := letE hR
    refine pu (v := .sc _) rfl rfl (fun _ => puI ev3) ?_
    obtain ⟨r4, hr4, hR⟩ := bindE hR
    refine cls [] rfl rfl cb31 (ok31 v3 _ hr4) (.cons (.sc _) (.nil)) (.inr rfl) rfl ?_
    refine al (cs := [.sc (.int .i64 0)]) 92 rfl rfl ti2 rfl rfl ?_
    refine stB (cs' := [.sc (.int .i64 r4)]) rfl rfl rfl rfl ti2 rfl rfl rfl rfl rfl ?_
    refine RunC.fin ?_
    refine AWP.sq ?_
    refine AWP.sq ?_
    refine AWP.rgC 108 rfl rfl ?_
    refine ldB (v := .sc _) rfl rfl rfl rfl ti2 rfl rfl ?_
    refine pu (v := .sc _) rfl rfl (fun _ => rfl) ?_
    refine RunC.fin ?_
    refine AWP.cd hR rfl (fun h5 hR => ?_) fun h5 hR => ?_
    · refine AWP.sq ?_
      refine AWP.rgC 116 rfl rfl ?_
      refine bu (cs := [.sc (.int .i64 0), .sc (.int .i64 0), .sc (.int .i64 0)]) rfl bt27 rfl ?_
      refine stB (cs' := [.sc (.int .i64 0), .sc (.int .i64 0), .sc (.int .i64 0)]) rfl rfl rfl rfl ti27 rfl rfl rfl rfl rfl ?_
      refine RunC.fin ?_
      refine AWP.ret ?_
      refine rtT ?_
      have hR := Option.some.inj hR; subst hR
      exact hQ _ _ (LS.mk [(2, .ptr 0 0 0)] (lblks 0 [boxB (α := Vec) true (Vec.mk 0 0 0)]) 1) (aggV (α := Vec) true (Vec.mk 0 0 0)) [] (.inr rfl) (Weak.turnL [(4, 0)] [] rfl rfl (tc (trP' rfl rfl rfl rfl) tn) (mc rfl (.box rfl (.cons (.sc _) (.cons (.sc _) (.cons (.sc _) (.nil)))) rfl) mn)) (ro1 (rvC (v := aggV (α := Vec) true (Vec.mk 0 0 0)) rfl rfl ti27 rfl)) rfl rfl ldA pn
    · refine AWP.skip ?_
      refine skT ?_
      refine AWP.sq ?_
      refine AWP.rgC 116 rfl rfl ?_
      refine pu (v := .fn _ _) rfl rfl (fun _ => rfl) ?_
      refine pu (v := .fn _ _) rfl rfl (fun _ => rfl) ?_
      refine RunC.fin ?_
      refine AWP.sq ?_
      refine AWP.rgD 172 [0, 0, 2, 7, 0, 0, 32, 127, 0, 0, 512, 2047, 4095, 8191] ⟨[], [none, none, some [0], none, none, none, some [0], none, none, none, some [0], none, none, some [4]]⟩ hmix (by kernel_rfl) rfl rfl ?_
      refine pu (v := .fn _ _) rfl rfl (fun _ => rfl) ?_
      refine fa rfl rfl ti27 rfl rfl ti2 rfl ?_
      refine ldB (v := .sc _) rfl rfl rfl rfl ti2 rfl rfl ?_
      obtain ⟨r6, hr6, hR⟩ := bindE hR
      refine cls [92] rfl rfl cb32 (ok32 at_.X r4 _ hr6) (.cons (.sc _) (.cons (ldX rfl rfl (.cons (.sc _) (.nil)) rfl) (.nil))) (.inl (by first | rfl | exact freshR | exact freshA | (simp only [V.fresh, V.freshs, freshR, freshA, Bool.and_self]))) rfl ?_
      refine pu (v := .fn _ _) rfl rfl (fun _ => rfl) ?_
      refine fa rfl rfl ti27 rfl rfl ti2 rfl ?_
      refine ldB (v := .sc _) rfl rfl rfl rfl ti2 rfl rfl ?_
      obtain ⟨r7, hr7, hR⟩ := bindE hR
      refine cls [92] rfl rfl cb32 (ok32 at_.Y r4 _ hr7) (.cons (.sc _) (.cons (ldX rfl rfl (.cons (.sc _) (.nil)) rfl) (.nil))) (.inl (by first | rfl | exact freshR | exact freshA | (simp only [V.fresh, V.freshs, freshR, freshA, Bool.and_self]))) rfl ?_
      refine pu (v := .fn _ _) rfl rfl (fun _ => rfl) ?_
      refine fa rfl rfl ti27 rfl rfl ti2 rfl ?_
      refine ldB (v := .sc _) rfl rfl rfl rfl ti2 rfl rfl ?_
      obtain ⟨r8, hr8, hR⟩ := bindE hR
      refine cls [92] rfl rfl cb32 (ok32 at_.Z r4 _ hr8) (.cons (.sc _) (.cons (ldX rfl rfl (.cons (.sc _) (.nil)) rfl) (.nil))) (.inl (by first | rfl | exact freshR | exact freshA | (simp only [V.fresh, V.freshs, freshR, freshA, Bool.and_self]))) rfl ?_
      refine bu (cs := [.sc (.int .i64 r6), .sc (.int .i64 r7), .sc (.int .i64 r8)]) rfl bt27 rfl ?_
      refine stB (cs' := [.sc (.int .i64 r6), .sc (.int .i64 r7), .sc (.int .i64 r8)]) rfl rfl rfl rfl ti27 rfl rfl rfl rfl rfl ?_
      refine RunC.fin ?_
      refine AWP.ret ?_
      have hR := Option.some.inj hR; subst hR
      exact hQ _ _ (LS.mk [(2, .ptr 0 0 0)] (lblks 0 [boxB (α := Vec) true (Vec.mk r6 r7 r8)]) 1) (aggV (α := Vec) true (Vec.mk r6 r7 r8)) [] (.inr rfl) (Weak.turnL [(4, 0)] [] rfl rfl (tc (trP' rfl rfl rfl rfl) tn) (mc rfl (.box rfl (.cons (.sc _) (.cons (.sc _) (.cons (.sc _) (.nil)))) rfl) mn)) (ro1 (rvC (v := aggV (α := Vec) true (Vec.mk r6 r7 r8)) rfl rfl ti27 rfl)) rfl rfl ldA pn
theorem ok23 (was : Vec) (here : Vec) (r : Vec × Int) (hR : sky_Step was here = some r) : FnP Try.prog 23 [aggV false was, aggV false here] (.tup [aggV (α := Vec) true r.1, .sc (.int .i64 r.2)]) := by
  refine fnP_of (FnX.walk Try.func23 rfl 52 0 (by simp [Try.ntmps23]) rfl fun W S F Q hQ => ?_)
  unfold sky_Step at hR
  refine AWP.sq ?_
  refine AWP.rgC 16 rfl rfl ?_
  refine bx (cs := _) 0 rfl rfl rfl ?_
  refine bx (cs := _) 4 rfl rfl rfl ?_
  refine al (cs := [.sc (.int .i64 0), .sc (.int .i64 0), .sc (.int .i64 0)]) 8 rfl rfl ti27 rfl rfl ?_
  refine pu (v := .sc _) rfl rfl (fun _ => rfl) ?_
  refine RunC.fin ?_
  refine AWP.sq ?_
  refine AWP.joinX (fun z1 : Bool => LS.mk [(2, .ptr 0 0 0), (3, .ptr 1 0 0), (4, .ptr 2 0 0), (15, .sc (.bool z1))] (lblks 0 [boxB (α := Vec) true was, boxB (α := Vec) true here, boxB (α := Vec) true (Vec.mk 0 0 0)]) 3) hR (fun o1 hR => ?_) fun z1 hR => ?_
  · refine AWP.rgC 48 rfl rfl ?_
    refine ldB (v := .agg _) rfl rfl rfl rfl ti27 rfl rfl ?_
    obtain ⟨r2, hr2, hR⟩ := bindE hR
    refine cls [] rfl rfl cb30 (ok30 was 4194304 _ hr2) (.cons (.agg (.cons (.sc _) (.cons (.sc _) (.cons (.sc _) (.nil)))) rfl) (.cons (.sc _) (.nil))) (.inr rfl) rfl ?_
    refine pu (v := .sc _) rfl rfl (fun _ => rfl) ?_
    refine pu (v := .sc _) rfl rfl (fun _ => rfl) ?_
    refine brR hR (fun h3 hR => ?_) fun h3 hR => ?_
    · refine sk (skW rfl rfl rfl h3) ?_
      refine sk (skW rfl rfl rfl h3) ?_
      refine sk (skW rfl rfl rfl h3) ?_
      refine pkT (v := .sc (.bool true)) rfl rfl h3 rfl ?_
      refine RunC.fin ?_
      have hR := Option.some.inj hR; subst hR
      exact Weak.turnL [(0, 0), (4, 0), (8, 0)] [] rfl rfl (tc (trP' rfl rfl rfl rfl) (tc (trP' rfl rfl rfl rfl) (tc (trP' rfl rfl rfl rfl) (tc (.sc _) tn)))) (mc rfl (.box rfl (.cons (.sc _) (.cons (.sc _) (.cons (.sc _) (.nil)))) rfl) (mc rfl (.box rfl (.cons (.sc _) (.cons (.sc _) (.cons (.sc _) (.nil)))) rfl) (mc rfl (.box rfl (.cons (.sc _) (.cons (.sc _) (.cons (.sc _) (.nil)))) rfl) mn)))
    · refine ldB (v := .agg _) (wtG rfl rfl rfl h3) rfl rfl rfl ti27 rfl rfl ?_
      obtain ⟨r4, hr4, hR⟩ := bindE hR
      refine cls [] (wtG rfl rfl rfl h3) rfl cb30 (ok30 here 4194304 _ hr4) (.cons (.agg (.cons (.sc _) (.cons (.sc _) (.cons (.sc _) (.nil)))) rfl) (.cons (.sc _) (.nil))) (.inr rfl) rfl ?_
      refine pu (v := .sc _) (wtG rfl rfl rfl h3) rfl (fun _ => rfl) ?_
      refine pkF (v := .sc (.bool (!r4))) rfl rfl h3 rfl ?_
      refine RunC.fin ?_
      have hR := Option.some.inj hR; subst hR
      exact Weak.turnL [(0, 0), (4, 0), (8, 0)] [] rfl rfl (tc (trP' rfl rfl rfl rfl) (tc (trP' rfl rfl rfl rfl) (tc (trP' rfl rfl rfl rfl) (tc (.sc _) tn)))) (mc rfl (.box rfl (.cons (.sc _) (.cons (.sc _) (.cons (.sc _) (.nil)))) rfl) (mc rfl (.box rfl (.cons (.sc _) (.cons (.sc _) (.cons (.sc _) (.nil)))) rfl) (mc rfl (.box rfl (.cons (.sc _) (.cons (.sc _) (.cons (.sc _) (.nil)))) rfl) mn)))
  · refine AWP.cd hR rfl (fun h5 hR => ?_) fun h5 hR => ?_
    · refine AWP.sq ?_
      refine AWP.rgC 15 rfl rfl ?_
      refine bu (cs := [.sc (.int .i64 0), .sc (.int .i64 0), .sc (.int .i64 0)]) rfl bt27 rfl ?_
      refine stB (cs' := [.sc (.int .i64 0), .sc (.int .i64 0), .sc (.int .i64 0)]) rfl rfl rfl rfl ti27 rfl rfl rfl rfl rfl ?_
      refine pu (v := .sc _) rfl rfl (fun _ => rfl) ?_
      refine RunC.fin ?_
      refine AWP.ret ?_
      refine rtT ?_
      have hR := Option.some.inj hR; subst hR
      exact hQ _ _ (LS.mk [(4, .ptr 0 0 0), (5, .sc (.int .i64 4))] (lblks 0 [boxB (α := Vec) true (Vec.mk 0 0 0)]) 1) (.tup [aggV (α := Vec) true (Vec.mk 0 0 0), .sc (.int .i64 4)]) [] (.inr rfl) (Weak.turnL [(2, 0)] [] rfl rfl (tc (trP' rfl rfl rfl rfl) (tc (.sc _) tn)) (mc rfl (.box rfl (.cons (.sc _) (.cons (.sc _) (.cons (.sc _) (.nil)))) rfl) mn)) (ro2 (rvC (v := aggV (α := Vec) true (Vec.mk 0 0 0)) rfl rfl ti27 rfl) (rvT (v := .sc (.int .i64 4)) rfl)) rfl rfl (.tup (.cons ldA (.cons (.sc _) .nil))) pn
    · refine AWP.skip ?_
      refine skT ?_
      refine AWP.sq ?_
      refine AWP.rgC 19 rfl rfl ?_
      refine ldB (v := .agg _) rfl rfl rfl rfl ti27 rfl rfl ?_
      obtain ⟨r6, hr6, hR⟩ := bindE hR
      refine cls [] rfl rfl cb15 (ok15 here _ hr6) (.cons (.agg (.cons (.sc _) (.cons (.sc _) (.cons (.sc _) (.nil)))) rfl) (.nil)) (.inr rfl) rfl ?_
      refine al (cs := [.sc (.int .i64 0), .sc (.int .i64 0), .sc (.int .i64 0)]) 11 rfl rfl ti27 rfl rfl ?_
      refine stB (cs' := [.sc (.int .i64 r6.X), .sc (.int .i64 r6.Y), .sc (.int .i64 r6.Z)]) rfl rfl rfl rfl ti27 rfl rfl rfl rfl rfl ?_
      refine RunC.fin ?_
      refine AWP.sq ?_
      refine AWP.rgC 139 rfl rfl ?_
      refine fa rfl rfl ti27 rfl rfl ti2 rfl ?_
      refine ldB (v := .sc _) rfl rfl rfl rfl ti2 rfl rfl ?_
      refine pu (v := .sc _) rfl rfl (fun _ => rfl) ?_
      refine fa rfl rfl ti27 rfl rfl ti2 rfl ?_
      refine ldB (v := .sc _) rfl rfl rfl rfl ti2 rfl rfl ?_
      refine pu (v := .sc _) rfl rfl (fun _ => rfl) ?_
      refine fa rfl rfl ti27 rfl rfl ti2 rfl ?_
      refine ldB (v := .sc _) rfl rfl rfl rfl ti2 rfl rfl ?_
      refine pu (v := .sc _) rfl rfl (fun _ => rfl) ?_
      refine fa rfl rfl ti27 rfl rfl ti2 rfl ?_
      refine ldB (v := .sc _) rfl rfl rfl rfl ti2 rfl rfl ?_
      refine pu (v := .sc _) rfl rfl (fun _ => rfl) ?_
      refine fa rfl rfl ti27 rfl rfl ti2 rfl ?_
      refine ldB (v := .sc _) rfl rfl rfl rfl ti2 rfl rfl ?_
      refine pu (v := .sc _) rfl rfl (fun _ => rfl) ?_
      refine fa rfl rfl ti27 rfl rfl ti2 rfl ?_
      refine ldB (v := .sc _) rfl rfl rfl rfl ti2 rfl rfl ?_
      refine pu (v := .sc _) rfl rfl (fun _ => rfl) ?_
      refine fa rfl rfl ti27 rfl rfl ti2 rfl ?_
      refine ldB (v := .sc _) rfl rfl rfl rfl ti2 rfl rfl ?_
      refine pu (v := .sc _) rfl rfl (fun _ => rfl) ?_
      refine fa rfl rfl ti27 rfl rfl ti2 rfl ?_
      refine ldB (v := .sc _) rfl rfl rfl rfl ti2 rfl rfl ?_
      refine pu (v := .sc _) rfl rfl (fun _ => rfl) ?_
      refine fa rfl rfl ti27 rfl rfl ti2 rfl ?_
      refine ldB (v := .sc _) rfl rfl rfl rfl ti2 rfl rfl ?_
      refine pu (v := .sc _) rfl rfl (fun _ => rfl) ?_
      refine bu (cs := [.sc (.int .i64 (w6 ((w6 ((w6 (2 * here.X)) - was.X)) + r6.X))), .sc (.int .i64 (w6 ((w6 ((w6 (2 * here.Y)) - was.Y)) + r6.Y))), .sc (.int .i64 (w6 ((w6 ((w6 (2 * here.Z)) - was.Z)) + r6.Z)))]) rfl bt27 rfl ?_
      refine al (cs := [.sc (.int .i64 0), .sc (.int .i64 0), .sc (.int .i64 0)]) 131 rfl rfl ti27 rfl rfl ?_
      refine stB (cs' := [.sc (.int .i64 (w6 ((w6 ((w6 (2 * here.X)) - was.X)) + r6.X))), .sc (.int .i64 (w6 ((w6 ((w6 (2 * here.Y)) - was.Y)) + r6.Y))), .sc (.int .i64 (w6 ((w6 ((w6 (2 * here.Z)) - was.Z)) + r6.Z)))]) rfl rfl rfl rfl ti27 rfl rfl rfl rfl rfl ?_
      refine RunC.fin ?_
      refine AWP.sq ?_
      refine AWP.sq ?_
      refine AWP.rgC 151 rfl rfl ?_
      refine ldB (v := .agg _) rfl rfl rfl rfl ti27 rfl rfl ?_
      obtain ⟨r7, hr7, hR⟩ := bindE hR
      refine cls [] rfl rfl cb30 (ok30 (Vec.mk (w6 ((w6 ((w6 (2 * here.X)) - was.X)) + r6.X)) (w6 ((w6 ((w6 (2 * here.Y)) - was.Y)) + r6.Y)) (w6 ((w6 ((w6 (2 * here.Z)) - was.Z)) + r6.Z))) 4194304 _ hr7) (.cons (.agg (.cons (.sc _) (.cons (.sc _) (.cons (.sc _) (.nil)))) rfl) (.cons (.sc _) (.nil))) (.inr rfl) rfl ?_
      refine pu (v := .sc _) rfl rfl (fun _ => rfl) ?_
      refine RunC.fin ?_
      refine AWP.cd hR rfl (fun h8 hR => ?_) fun h8 hR => ?_
      · refine AWP.sq ?_
        refine AWP.rgC 163 rfl rfl ?_
        refine bu (cs := [.sc (.int .i64 0), .sc (.int .i64 0), .sc (.int .i64 0)]) rfl bt27 rfl ?_
        refine stB (cs' := [.sc (.int .i64 0), .sc (.int .i64 0), .sc (.int .i64 0)]) rfl rfl rfl rfl ti27 rfl rfl rfl rfl rfl ?_
        refine pu (v := .sc _) rfl rfl (fun _ => rfl) ?_
        refine RunC.fin ?_
        refine AWP.ret ?_
        refine rtT ?_
        have hR := Option.some.inj hR; subst hR
        exact hQ _ _ (LS.mk [(4, .ptr 0 0 0), (5, .sc (.int .i64 18))] (lblks 0 [boxB (α := Vec) true (Vec.mk 0 0 0)]) 1) (.tup [aggV (α := Vec) true (Vec.mk 0 0 0), .sc (.int .i64 18)]) [] (.inr rfl) (Weak.turnL [(2, 0)] [] rfl rfl (tc (trP' rfl rfl rfl rfl) (tc (.sc _) tn)) (mc rfl (.box rfl (.cons (.sc _) (.cons (.sc _) (.cons (.sc _) (.nil)))) rfl) mn)) (ro2 (rvC (v := aggV (α := Vec) true (Vec.mk 0 0 0)) rfl rfl ti27 rfl) (rvT (v := .sc (.int .i64 18)) rfl)) rfl rfl (.tup (.cons ldA (.cons (.sc _) .nil))) pn
      · refine AWP.skip ?_
        refine skT ?_
        refine AWP.sq ?_
        refine AWP.rgC 163 rfl rfl ?_
        refine ldB (v := .agg _) rfl rfl rfl rfl ti27 rfl rfl ?_
        refine stB (cs' := [.sc (.int .i64 (w6 ((w6 ((w6 (2 * here.X)) - was.X)) + r6.X))), .sc (.int .i64 (w6 ((w6 ((w6 (2 * here.Y)) - was.Y)) + r6.Y))), .sc (.int .i64 (w6 ((w6 ((w6 (2 * here.Z)) - was.Z)) + r6.Z)))]) rfl rfl rfl rfl ti27 rfl rfl rfl rfl rfl ?_
        refine pu (v := .sc _) rfl rfl (fun _ => rfl) ?_
        refine RunC.fin ?_
        refine AWP.ret ?_
        have hR := Option.some.inj hR; subst hR
        exact hQ _ _ (LS.mk [(4, .ptr 0 0 0), (5, .sc (.int .i64 0))] (lblks 0 [boxB (α := Vec) true (Vec.mk (w6 ((w6 ((w6 (2 * here.X)) - was.X)) + r6.X)) (w6 ((w6 ((w6 (2 * here.Y)) - was.Y)) + r6.Y)) (w6 ((w6 ((w6 (2 * here.Z)) - was.Z)) + r6.Z)))]) 1) (.tup [aggV (α := Vec) true (Vec.mk (w6 ((w6 ((w6 (2 * here.X)) - was.X)) + r6.X)) (w6 ((w6 ((w6 (2 * here.Y)) - was.Y)) + r6.Y)) (w6 ((w6 ((w6 (2 * here.Z)) - was.Z)) + r6.Z))), .sc (.int .i64 0)]) [] (.inr rfl) (Weak.turnL [(2, 0)] [] rfl rfl (tc (trP' rfl rfl rfl rfl) (tc (.sc _) tn)) (mc rfl (.box rfl (.cons (.sc _) (.cons (.sc _) (.cons (.sc _) (.nil)))) rfl) mn)) (ro2 (rvC (v := aggV (α := Vec) true (Vec.mk (w6 ((w6 ((w6 (2 * here.X)) - was.X)) + r6.X)) (w6 ((w6 ((w6 (2 * here.Y)) - was.Y)) + r6.Y)) (w6 ((w6 ((w6 (2 * here.Z)) - was.Z)) + r6.Z)))) rfl rfl ti27 rfl) (rvT (v := .sc (.int .i64 0)) rfl)) rfl rfl (.tup (.cons ldA (.cons (.sc _) .nil))) pn
theorem ok22 (b : Body) (r : Bool) (hR : sky_moves b = some r) : FnP Try.prog 22 [aggV false b] (.sc (.bool r)) := by
  refine fnP_of (FnX.walk Try.func22 rfl 11 0 (by simp [Try.ntmps22]) rfl fun W S F Q hQ => ?_)
  unfold sky_moves at hR
  refine AWP.sq ?_
  refine AWP.rgC 8 rfl rfl ?_
  refine bx (cs := _) 0 rfl rfl rfl ?_
  refine pu (v := .sc _) rfl rfl (fun _ => rfl) ?_
  refine RunC.fin ?_
  refine AWP.joinX (fun z1 : Bool => LS.mk [(2, .sc (.bool z1))] (lblks 0 []) 0) hR (fun o1 hR => ?_) fun z1 hR => ?_
  · refine AWP.rgC 44 rfl rfl ?_
    refine fa rfl rfl ti30 rfl rfl ti27 rfl ?_
    refine ldB (v := .agg _) rfl rfl rfl rfl ti27 rfl rfl ?_
    obtain ⟨r2, hr2, hR⟩ := bindE hR
    refine cls [] rfl rfl cb30 (ok30 b.Was 4194304 _ hr2) (.cons (.agg (.cons (.sc _) (.cons (.sc _) (.cons (.sc _) (.nil)))) rfl) (.cons (.sc _) (.nil))) (.inr rfl) rfl ?_
    refine pu (v := .sc _) rfl rfl (fun _ => rfl) ?_
    refine brR hR (fun h3 hR => ?_) fun h3 hR => ?_
    · refine fa (wtG rfl rfl rfl h3) rfl ti30 rfl rfl ti27 rfl ?_
      refine ldB (v := .agg _) (wtG rfl rfl rfl h3) rfl rfl rfl ti27 rfl rfl ?_
      obtain ⟨r4, hr4, hR⟩ := bindE hR
      refine cls [] (wtG rfl rfl rfl h3) rfl cb30 (ok30 b.Here 4194304 _ hr4) (.cons (.agg (.cons (.sc _) (.cons (.sc _) (.cons (.sc _) (.nil)))) rfl) (.cons (.sc _) (.nil))) (.inr rfl) rfl ?_
      refine pkT (v := .sc (.bool r4)) rfl rfl h3 rfl ?_
      refine pu (v := .sc _) rfl rfl (fun _ => rfl) ?_
      refine RunC.fin ?_
      have hR := Option.some.inj hR; subst hR
      exact Weak.turnL [] [] rfl rfl (tc (.sc _) tn) mn
    · refine sk (skW rfl rfl rfl h3) ?_
      refine sk (skW rfl rfl rfl h3) ?_
      refine sk (skW rfl rfl rfl h3) ?_
      refine pkF (v := .sc (.bool false)) rfl rfl h3 rfl ?_
      refine pu (v := .sc _) rfl rfl (fun _ => rfl) ?_
      refine RunC.fin ?_
      have hR := Option.some.inj hR; subst hR
      exact Weak.turnL [] [] rfl rfl (tc (.sc _) tn) mn
  · refine AWP.ret ?_
    have hR := Option.some.inj hR; subst hR
    exact hQ _ _ (LS.mk [(2, .sc (.bool z1))] (lblks 0 []) 0) (.sc (.bool z1)) [] (.inr rfl) (Weak.turnL [] [] rfl rfl (tc (.sc _) tn) mn) (ro1 (rvT (v := .sc (.bool z1)) rfl)) rfl rfl (.sc _) pn
theorem ok9 (v : Vec) (r : (Bound × Bound × Bound)) (hR : predict_Exact v = some r) : FnP Try.prog 9 [aggV false v] (aggV (α := Bound × Bound × Bound) true r) := by
  refine fnP_of (FnX.walk Try.func9 rfl 13 0 (by simp [Try.ntmps9]) rfl fun W S F Q hQ => ?_)
  unfold predict_Exact at hR
  refine AWP.sq ?_
  refine AWP.rgC 8 rfl rfl ?_
  refine bx (cs := _) 0 rfl rfl rfl ?_
  refine al (cs := [.sc (.int .i64 0), .sc (.int .i64 0), .sc (.bool false), .sc (.int .i64 0), .sc (.int .i64 0), .sc (.bool false), .sc (.int .i64 0), .sc (.int .i64 0), .sc (.bool false)]) 4 rfl rfl ti38 rfl rfl ?_
  refine RunC.fin ?_
  refine AWP.sq ?_
  refine AWP.rgD 52 [0, 1, 3, 0, 8, 31, 0, 64, 255, 511, 1023] ⟨[], [none, some [0], none, none, some [0], none, none, some [0], none, none, some [4]]⟩ hmix (by kernel_rfl) rfl rfl ?_
  refine fa rfl rfl ti27 rfl rfl ti2 rfl ?_
  refine ldB (v := .sc _) rfl rfl rfl rfl ti2 rfl rfl ?_
  obtain ⟨r1, hr1, hR⟩ := bindE hR
  refine cls [] rfl rfl cb21 (ok21 v.X _ hr1) (.cons (.sc _) (.nil)) (.inr rfl) rfl ?_
  refine fa rfl rfl ti27 rfl rfl ti2 rfl ?_
  refine ldB (v := .sc _) rfl rfl rfl rfl ti2 rfl rfl ?_
  obtain ⟨r2, hr2, hR⟩ := bindE hR
  refine cls [] rfl rfl cb21 (ok21 v.Y _ hr2) (.cons (.sc _) (.nil)) (.inr rfl) rfl ?_
  refine fa rfl rfl ti27 rfl rfl ti2 rfl ?_
  refine ldB (v := .sc _) rfl rfl rfl rfl ti2 rfl rfl ?_
  obtain ⟨r3, hr3, hR⟩ := bindE hR
  refine cls [] rfl rfl cb21 (ok21 v.Z _ hr3) (.cons (.sc _) (.nil)) (.inr rfl) rfl ?_
  refine buA (cs := [.sc (.int .i64 r1.Lo), .sc (.int .i64 r1.Hi), .sc (.bool r1.Unknown), .sc (.int .i64 r2.Lo), .sc (.int .i64 r2.Hi), .sc (.bool r2.Unknown), .sc (.int .i64 r3.Lo), .sc (.int .i64 r3.Hi), .sc (.bool r3.Unknown)]) rfl ti38 rfl ti36 rfl rfl ?_
  refine stB (cs' := [.sc (.int .i64 r1.Lo), .sc (.int .i64 r1.Hi), .sc (.bool r1.Unknown), .sc (.int .i64 r2.Lo), .sc (.int .i64 r2.Hi), .sc (.bool r2.Unknown), .sc (.int .i64 r3.Lo), .sc (.int .i64 r3.Hi), .sc (.bool r3.Unknown)]) rfl rfl rfl rfl ti38 rfl rfl rfl rfl rfl ?_
  refine RunC.fin ?_
  refine AWP.ret ?_
  have hR := Option.some.inj hR; subst hR
  exact hQ _ _ (LS.mk [(2, .ptr 0 0 0)] (lblks 0 [boxB (α := Bound × Bound × Bound) true (r1, r2, r3)]) 1) (aggV (α := Bound × Bound × Bound) true (r1, r2, r3)) [] (.inr rfl) (Weak.turnL [(4, 0)] [] rfl rfl (tc (trP' rfl rfl rfl rfl) tn) (mc rfl (.box rfl (.cons (.sc _) (.cons (.sc _) (.cons (.sc _) (.cons (.sc _) (.cons (.sc _) (.cons (.sc _) (.cons (.sc _) (.cons (.sc _) (.cons (.sc _) (.nil)))))))))) rfl) mn)) (ro1 (rvC (v := aggV (α := Bound × Bound × Bound) true (r1, r2, r3)) rfl rfl ti38 rfl)) rfl rfl ldA pn
theorem ok6 (x : Int) (n : Int) (r : Int) (hR : spymake_Below x n = some r) : FnP Try.prog 6 [.sc (.int .i64 x), .sc (.int .i64 n)] (.sc (.int .i64 r)) := by
  refine fnP_of (FnX.walk Try.func6 rfl 16 0 (by simp [Try.ntmps6]) rfl fun W S F Q hQ => ?_)
  unfold spymake_Below at hR
  refine AWP.sq ?_
  refine AWP.rgC 4 rfl rfl ?_
  refine pu (v := .sc _) rfl rfl (fun _ => rfl) ?_
  refine RunC.fin ?_
  refine AWP.sq ?_
  refine AWP.sq ?_
  refine AWP.rgC 12 rfl rfl ?_
  refine pu (v := .sc _) rfl rfl (fun _ => rfl) ?_
  refine pu (v := .sc _) rfl rfl (fun _ => rfl) ?_
  refine RunC.fin ?_
  refine AWP.cd hR rfl (fun h1 hR => ?_) fun h1 hR => ?_
  · refine AWP.sq ?_
    refine AWP.rgC 16 rfl rfl ?_
    refine pu (v := .sc _) rfl rfl (fun _ => rfl) ?_
    refine RunC.fin ?_
    refine AWP.ret ?_
    refine rtT ?_
    have hR := Option.some.inj hR; subst hR
    exact hQ _ _ (LS.mk [(4, .sc (.int .i64 0))] (lblks 0 []) 0) (.sc (.int .i64 0)) [] (.inr rfl) (Weak.turnL [] [] rfl rfl (tc (.sc _) tn) mn) (ro1 (rvT (v := .sc (.int .i64 0)) rfl)) rfl rfl (.sc _) pn
  · refine AWP.skip ?_
    refine skT ?_
    refine AWP.sq ?_
    refine AWP.rgC 28 rfl rfl ?_
    refine pu (v := .sc _) rfl rfl (fun _ => rfl) ?_
    refine pu (v := .sc _) rfl rfl (fun _ => rfl) ?_
    obtain ⟨h2, hR⟩ := chkE hR
    refine rm rfl rfl rfl h2 rfl ?_
    refine pu (v := .sc _) rfl rfl (fun _ => rfl) ?_
    refine RunC.fin ?_
    refine AWP.sq ?_
    refine AWP.sq ?_
    refine AWP.rgC 36 rfl rfl ?_
    refine pu (v := .sc _) rfl rfl (fun _ => rfl) ?_
    refine pu (v := .sc _) rfl rfl (fun _ => rfl) ?_
    refine RunC.fin ?_
    refine AWP.cd hR rfl (fun h3 hR => ?_) fun h3 hR => ?_
    · refine AWP.rgC 52 rfl rfl ?_
      refine pu (v := .sc _) rfl rfl (fun _ => rfl) ?_
      refine pu (v := .sc _) rfl rfl (fun _ => rfl) ?_
      refine pu (v := .sc _) rfl rfl (fun _ => rfl) ?_
      refine pu (v := .sc _) rfl rfl (fun _ => rfl) ?_
      refine RunC.fin ?_
      refine AWP.sq ?_
      refine AWP.rgC 60 rfl rfl ?_
      refine pu (v := .sc _) rfl rfl (fun _ => rfl) ?_
      refine pu (v := .sc _) rfl rfl (fun _ => rfl) ?_
      refine RunC.fin ?_
      refine AWP.ret ?_
      have hR := Option.some.inj hR; subst hR
      exact hQ _ _ (LS.mk [(4, .sc (.int .i64 (w6 ((Int.tmod x n) + n))))] (lblks 0 []) 0) (.sc (.int .i64 (w6 ((Int.tmod x n) + n)))) [] (.inr rfl) (Weak.turnL [] [] rfl rfl (tc (.sc _) tn) mn) (ro1 (rvT (v := .sc (.int .i64 (w6 ((Int.tmod x n) + n)))) rfl)) rfl rfl (.sc _) pn
    · refine AWP.skip ?_
      refine skT ?_
      refine AWP.sq ?_
      refine AWP.rgC 44 rfl rfl ?_
      refine pu (v := .sc _) rfl rfl (fun _ => rfl) ?_
      refine pu (v := .sc _) rfl rfl (fun _ => rfl) ?_
      refine RunC.fin ?_
      refine AWP.ret ?_
      have hR := Option.some.inj hR; subst hR
      exact hQ _ _ (LS.mk [(4, .sc (.int .i64 (Int.tmod x n)))] (lblks 0 []) 0) (.sc (.int .i64 (Int.tmod x n))) [] (.inr rfl) (Weak.turnL [] [] rfl rfl (tc (.sc _) tn) mn) (ro1 (rvT (v := .sc (.int .i64 (Int.tmod x n))) rfl)) rfl rfl (.sc _) pn
theorem ok16 (s : spymake_Stream) (n : Int) (r : Int × spymake_Stream) (hR : Stream_Next s n = some r) : FnD Try.prog 16 [boxB false s] [.ptr 0 0 0, .sc (.int .i64 n)] (.sc (.int .i64 r.1)) [boxB false r.2] := by
  refine FnX.walk Try.func16 rfl 64 1 (by simp [Try.ntmps16]) rfl fun W S F Q hQ => ?_
  unfold Stream_Next at hR
  refine AWP.sq ?_
  refine AWP.rgC 5 rfl rfl ?_
  refine pu (v := .sc _) rfl rfl (fun _ => rfl) ?_
  refine RunC.fin ?_
  refine AWP.sq ?_
  refine AWP.rgC 37 rfl rfl ?_
  refine pu (v := .ptr _ _ _) rfl rfl (fun _ => rfl) ?_
  refine pu (v := .ptr _ _ _) rfl rfl (fun _ => rfl) ?_
  refine fa rfl rfl ti25 rfl rfl ti3 rfl ?_
  refine ldB (v := .sc _) rfl rfl rfl rfl ti3 rfl rfl ?_
  refine pu (v := .sc _) rfl rfl (fun _ => rfl) ?_
  refine pu (v := .ptr _ _ _) rfl rfl (fun _ => rfl) ?_
  refine fa rfl rfl ti25 rfl rfl ti3 rfl ?_
  refine stB (cs' := [rowV (α := Int) false s.L, .sc (.int .i64 (w6 (s.at_ + 1)))]) rfl rfl rfl rfl ti3 rfl rfl rfl rfl rfl ?_
  refine RunC.fin ?_
  refine AWP.sq ?_
  refine AWP.sq ?_
  refine AWP.rgC 61 rfl rfl ?_
  refine pu (v := .ptr _ _ _) rfl rfl (fun _ => rfl) ?_
  refine pu (v := .ptr _ _ _) rfl rfl (fun _ => rfl) ?_
  refine fa rfl rfl ti25 rfl rfl ti22 rfl ?_
  refine ldB (v := rowV _ s.L) rfl rfl rfl rfl ti22 rfl rfl ?_
  refine lenL (α := Int) rfl rfl ti22 rfl ?_
  refine pu (v := .sc _) rfl rfl (fun _ => rfl) ?_
  refine RunC.fin ?_
  refine AWP.cd hR rfl (fun h1 hR => ?_) fun h1 hR => ?_
  · refine AWP.sq ?_
    refine AWP.rgC 93 rfl rfl ?_
    refine pu (v := .ptr _ _ _) rfl rfl (fun _ => rfl) ?_
    refine pu (v := .ptr _ _ _) rfl rfl (fun _ => rfl) ?_
    refine fa rfl rfl ti25 rfl rfl ti3 rfl ?_
    refine ldB (v := .sc _) rfl rfl rfl rfl ti3 rfl rfl ?_
    refine pu (v := .sc _) rfl rfl (fun _ => rfl) ?_
    refine pu (v := .sc _) rfl rfl (fun _ => rfl) ?_
    obtain ⟨r2, hr2, hR⟩ := bindE hR
    refine cls [] rfl rfl cb6 (ok6 (w6 ((w6 (s.at_ + 1)) * 7919)) n _ hr2) (.cons (.sc _) (.cons (.sc _) (.nil))) (.inr rfl) rfl ?_
    refine pu (v := .sc _) rfl rfl (fun _ => rfl) ?_
    refine RunC.fin ?_
    refine AWP.ret ?_
    refine rtT ?_
    have hR := Option.some.inj hR; subst hR
    exact hQ _ _ (LS.mk [(4, .sc (.int .i64 r2))] (lblks 0 [boxB (α := spymake_Stream) false (spymake_Stream.mk s.L (w6 (s.at_ + 1)))]) 1) (.sc (.int .i64 r2)) [] (.inr rfl) (Weak.turnL [(0, 0)] [] rfl rfl (tc (.sc _) tn) (mc rfl (.box rfl (.cons trR1 (.cons (.sc _) (.nil))) rfl) mn)) (ro1 (rvT (v := .sc (.int .i64 r2)) rfl)) rfl rfl (.sc _) (pc rfl bldB pn)
  · refine AWP.skip ?_
    refine skT ?_
    refine AWP.sq ?_
    refine AWP.rgD 109 [0, 1, 3, 7, 15, 0, 32, 96, 224, 480, 1023, 2047] ⟨[], [none, none, none, some [0], none, none, none, none, some [0], none, none, none]⟩ hmix (by kernel_rfl) rfl rfl ?_
    refine pu (v := .ptr _ _ _) rfl rfl (fun _ => rfl) ?_
    refine pu (v := .ptr _ _ _) rfl rfl (fun _ => rfl) ?_
    refine fa rfl rfl ti25 rfl rfl ti3 rfl ?_
    refine ldB (v := .sc _) rfl rfl rfl rfl ti3 rfl rfl ?_
    refine pu (v := .sc _) rfl rfl (fun _ => rfl) ?_
    refine pu (v := .ptr _ _ _) rfl rfl (fun _ => rfl) ?_
    refine pu (v := .ptr _ _ _) rfl rfl (fun _ => rfl) ?_
    refine fa rfl rfl ti25 rfl rfl ti22 rfl ?_
    refine ldB (v := rowV _ s.L) rfl rfl rfl rfl ti22 rfl rfl ?_
    refine lenL (α := Int) rfl rfl ti22 rfl ?_
    obtain ⟨h3, hR⟩ := chkE hR
    refine rm rfl rfl rfl h3 rfl ?_
    refine pu (v := .sc _) rfl rfl (fun _ => rfl) ?_
    refine RunC.fin ?_
    refine AWP.sq ?_
    refine AWP.rgD 157 [0, 1, 3, 7, 15, 0, 32, 96, 224, 480, 1023, 2047] ⟨[], [none, none, none, some [0], none, none, none, none, some [0], none, none, none]⟩ hmix (by kernel_rfl) rfl rfl ?_
    refine pu (v := .ptr _ _ _) rfl rfl (fun _ => rfl) ?_
    refine pu (v := .ptr _ _ _) rfl rfl (fun _ => rfl) ?_
    refine fa rfl rfl ti25 rfl rfl ti3 rfl ?_
    refine ldB (v := .sc _) rfl rfl rfl rfl ti3 rfl rfl ?_
    refine pu (v := .sc _) rfl rfl (fun _ => rfl) ?_
    refine pu (v := .ptr _ _ _) rfl rfl (fun _ => rfl) ?_
    refine pu (v := .ptr _ _ _) rfl rfl (fun _ => rfl) ?_
    refine fa rfl rfl ti25 rfl rfl ti22 rfl ?_
    refine ldB (v := rowV _ s.L) rfl rfl rfl rfl ti22 rfl rfl ?_
    refine lenL (α := Int) rfl rfl ti22 rfl ?_
    refine qu rfl rfl rfl h3 rfl ?_
    refine pu (v := .sc _) rfl rfl (fun _ => rfl) ?_
    refine RunC.fin ?_
    refine AWP.sq ?_
    refine AWP.rgC 221 rfl rfl ?_
    refine pu (v := .ptr _ _ _) rfl rfl (fun _ => rfl) ?_
    refine pu (v := .ptr _ _ _) rfl rfl (fun _ => rfl) ?_
    refine fa rfl rfl ti25 rfl rfl ti22 rfl ?_
    refine ldB (v := rowV _ s.L) rfl rfl rfl rfl ti22 rfl rfl ?_
    refine pu (v := .sc _) rfl rfl (fun _ => rfl) ?_
    obtain ⟨h4, hR⟩ := chkE hR
    refine ixL (α := Int) rfl rfl rfl ti22 rfl ti3 rfl h4 ?_
    refine ldR (v := .sc _) rfl rfl ti3 rfl ?_
    obtain ⟨r5, hr5, hR⟩ := bindE hR
    refine cls [] rfl rfl cb6 (ok6 (gt s.L (Int.tmod (w6 ((w6 (s.at_ + 1)) - 1)) (s.L.length : Int))) 1073741824 _ hr5) (.cons (.sc _) (.cons (.sc _) (.nil))) (.inr rfl) rfl ?_
    refine pu (v := .sc _) rfl rfl (fun _ => rfl) ?_
    refine pu (v := .sc _) rfl rfl (fun _ => rfl) ?_
    obtain ⟨v6, ev6, hR⟩ := letE hR
    refine pu (v := .sc _) rfl rfl (fun _ => puI ev6) ?_
    obtain ⟨v7, ev7, hR⟩ := letE hR
    refine pu (v := .sc _) rfl rfl (fun _ => puI ev7) ?_
    refine pu (v := .sc _) rfl rfl (fun _ => rfl) ?_
    refine pu (v := .sc _) rfl rfl (fun _ => rfl) ?_
    obtain ⟨r8, hr8, hR⟩ := bindE hR
    refine cls [] rfl rfl cb6 (ok6 (w6 (r5 + v7)) n _ hr8) (.cons (.sc _) (.cons (.sc _) (.nil))) (.inr rfl) rfl ?_
    refine pu (v := .sc _) rfl rfl (fun _ => rfl) ?_
    refine RunC.fin ?_
    refine AWP.ret ?_
    have hR := Option.some.inj hR; subst hR
    exact hQ _ _ (LS.mk [(4, .sc (.int .i64 r8))] (lblks 0 [boxB (α := spymake_Stream) false (spymake_Stream.mk s.L (w6 (s.at_ + 1)))]) 1) (.sc (.int .i64 r8)) [] (.inr rfl) (Weak.turnL [(0, 0)] [] rfl rfl (tc (.sc _) tn) (mc rfl (.box rfl (.cons trR1 (.cons (.sc _) (.nil))) rfl) mn)) (ro1 (rvT (v := .sc (.int .i64 r8)) rfl)) rfl rfl (.sc _) (pc rfl bldB pn)
theorem ok17 (s : spymake_Stream) (low : Int) (high : Int) (r : Int × spymake_Stream) (hR : Stream_Range s low high = some r) : FnD Try.prog 17 [boxB false s] [.ptr 0 0 0, .sc (.int .i64 low), .sc (.int .i64 high)] (.sc (.int .i64 r.1)) [boxB false r.2] := by
  refine FnX.walk Try.func17 rfl 19 1 (by simp [Try.ntmps17]) rfl fun W S F Q hQ => ?_
  unfold Stream_Range at hR
  refine AWP.sq ?_
  refine AWP.rgC 5 rfl rfl ?_
  refine pu (v := .sc _) rfl rfl (fun _ => rfl) ?_
  refine RunC.fin ?_
  refine AWP.sq ?_
  refine AWP.sq ?_
  refine AWP.rgC 17 rfl rfl ?_
  refine pu (v := .sc _) rfl rfl (fun _ => rfl) ?_
  refine pu (v := .sc _) rfl rfl (fun _ => rfl) ?_
  refine pu (v := .sc _) rfl rfl (fun _ => rfl) ?_
  refine RunC.fin ?_
  refine AWP.cd hR rfl (fun h1 hR => ?_) fun h1 hR => ?_
  · refine AWP.sq ?_
    refine AWP.rgC 25 rfl rfl ?_
    refine pu (v := .sc _) rfl rfl (fun _ => rfl) ?_
    refine pu (v := .sc _) rfl rfl (fun _ => rfl) ?_
    refine RunC.fin ?_
    refine AWP.ret ?_
    refine rtT ?_
    have hR := Option.some.inj hR; subst hR
    exact hQ _ _ (LS.mk [(6, .sc (.int .i64 low))] (lblks 0 [boxB (α := spymake_Stream) false s]) 1) (.sc (.int .i64 low)) [] (.inr rfl) (Weak.turnL [(0, 0)] [] rfl rfl (tc (.sc _) tn) (mc rfl (.box rfl (.cons trR1 (.cons (.sc _) (.nil))) rfl) mn)) (ro1 (rvT (v := .sc (.int .i64 low)) rfl)) rfl rfl (.sc _) (pc rfl bldB pn)
  · refine AWP.skip ?_
    refine skT ?_
    refine AWP.sq ?_
    refine AWP.rgC 53 rfl rfl ?_
    refine pu (v := .sc _) rfl rfl (fun _ => rfl) ?_
    refine pu (v := .ptr _ _ _) rfl rfl (fun _ => rfl) ?_
    refine pu (v := .sc _) rfl rfl (fun _ => rfl) ?_
    refine pu (v := .sc _) rfl rfl (fun _ => rfl) ?_
    refine pu (v := .sc _) rfl rfl (fun _ => rfl) ?_
    refine pu (v := .sc _) rfl rfl (fun _ => rfl) ?_
    obtain ⟨r2, hr2, hR⟩ := bindE hR
    refine cps (res' := .sc (.int .i64 r2.1)) (ups := [(0, boxB (α := spymake_Stream) false r2.2)]) [0] 41 rfl rfl rfl cb16 (ok16 s (w6 ((w6 (high - low)) + 1)) _ hr2) (.cons (ldP rfl rfl) (.cons (.sc _) (.nil))) (pc rfl (.box (.cons ldR' (.cons (.sc _) (.nil))) rfl) pn) rfl rfl rfl rfl rfl (by first | rfl | exact renR | exact renA | exact renS | simp only [V.ren, V.rens, renR, renA, renS] | (simp only [V.ren, V.rens, renR, renA, renS]; rfl)) (by simp only [passUps, renBox, renArr]; rfl) ?_
    refine pu (v := .sc _) rfl rfl (fun _ => rfl) ?_
    refine pu (v := .sc _) rfl rfl (fun _ => rfl) ?_
    refine RunC.fin ?_
    refine AWP.ret ?_
    have hR := Option.some.inj hR; subst hR
    exact hQ _ _ (LS.mk [(6, .sc (.int .i64 (w6 (low + r2.1))))] (lblks 0 [boxB (α := spymake_Stream) false r2.2]) 1) (.sc (.int .i64 (w6 (low + r2.1)))) [] (.inr rfl) (Weak.turnL [(0, 0)] [] rfl rfl (tc (.sc _) tn) (mc rfl (.box rfl (.cons trR1 (.cons (.sc _) (.nil))) rfl) mn)) (ro1 (rvT (v := .sc (.int .i64 (w6 (low + r2.1)))) rfl)) rfl rfl (.sc _) (pc rfl bldB pn)
theorem ok20 (c : Int) (p1 : Int) (p2 : spymake_Stream) (p3 : Int) (r : Bound × spymake_Stream) (hR : Stream_Held_1 c p1 p2 p3 = some r) : FnD Try.prog 20 [boxB false p2, .box [.ptr 0 0 0]] [.sc (.int .i64 c), .rp (Cl.c false p1), .ptr 1 0 0, .rp (Cl.c false p3)] (aggV (α := Bound) true r.1) [boxB false r.2, .box [.ptr 0 0 0]] := by
  refine FnX.walk Try.func20 rfl 23 2 (by simp [Try.ntmps20]) rfl fun W S F Q hQ => ?_
  unfold Stream_Held_1 at hR
  refine AWP.sq ?_
  refine AWP.rgC 6 rfl rfl ?_
  refine al (cs := [.sc (.int .i64 0), .sc (.int .i64 0), .sc (.bool false)]) 2 rfl rfl ti36 rfl rfl ?_
  refine RunC.fin ?_
  refine AWP.sq ?_
  refine AWP.rgD 78 [0, 0, 3, 0, 0, 16, 56, 127, 0, 0, 768, 0, 0, 4096, 14456, 32632, 65535, 131071] ⟨[6, 14], [some [], none, none, some [1], some [], none, some [0], none, some [], none, none, some [1], some [], none, some [0], none, none, some [2]]⟩ hmix (by kernel_rfl) rfl rfl ?_
  refine ldR (v := .sc _) rfl rfl ti2 rfl ?_
  refine pu (v := .sc _) rfl rfl (fun _ => rfl) ?_
  refine pu (v := .sc _) rfl rfl (fun _ => rfl) ?_
  refine ldB (v := .ptr _ _ _) rfl rfl rfl rfl ti23 rfl rfl ?_
  refine ldR (v := .sc _) rfl rfl ti3 rfl ?_
  refine pu (v := .sc _) rfl rfl (fun _ => rfl) ?_
  obtain ⟨r1, hr1, hR⟩ := bindE hR
  refine cps (res' := .sc (.int .i64 r1.1)) (ups := [(0, boxB (α := spymake_Stream) false r1.2)]) [0] 30 rfl rfl rfl cb16 (ok16 p2 (w6 (p3 + 1)) _ hr1) (.cons (ldP rfl rfl) (.cons (.sc _) (.nil))) (pc rfl (.box (.cons ldR' (.cons (.sc _) (.nil))) rfl) pn) rfl rfl rfl rfl rfl (by first | rfl | exact renR | exact renA | exact renS | simp only [V.ren, V.rens, renR, renA, renS] | (simp only [V.ren, V.rens, renR, renA, renS]; rfl)) (by simp only [passUps, renBox, renArr]; rfl) ?_
  refine pu (v := .sc _) rfl rfl (fun _ => rfl) ?_
  refine ldR (v := .sc _) rfl rfl ti2 rfl ?_
  refine pu (v := .sc _) rfl rfl (fun _ => rfl) ?_
  refine pu (v := .sc _) rfl rfl (fun _ => rfl) ?_
  refine ldB (v := .ptr _ _ _) rfl rfl rfl rfl ti23 rfl rfl ?_
  refine ldR (v := .sc _) rfl rfl ti3 rfl ?_
  refine pu (v := .sc _) rfl rfl (fun _ => rfl) ?_
  obtain ⟨r2, hr2, hR⟩ := bindE hR
  refine cps (res' := .sc (.int .i64 r2.1)) (ups := [(0, boxB (α := spymake_Stream) false r2.2)]) [0] 62 rfl rfl rfl cb16 (ok16 r1.2 (w6 (p3 + 1)) _ hr2) (.cons (ldP rfl rfl) (.cons (.sc _) (.nil))) (pc rfl (.box (.cons ldR' (.cons (.sc _) (.nil))) rfl) pn) rfl rfl rfl rfl rfl (by first | rfl | exact renR | exact renA | exact renS | simp only [V.ren, V.rens, renR, renA, renS] | (simp only [V.ren, V.rens, renR, renA, renS]; rfl)) (by simp only [passUps, renBox, renArr]; rfl) ?_
  refine pu (v := .sc _) rfl rfl (fun _ => rfl) ?_
  refine bu (cs := [.sc (.int .i64 (w6 ((w6 (p1 * c)) - r1.1))), .sc (.int .i64 (w6 ((w6 (p1 * c)) + r2.1))), .sc (.bool false)]) rfl bt36 rfl ?_
  refine stB (cs' := [.sc (.int .i64 (w6 ((w6 (p1 * c)) - r1.1))), .sc (.int .i64 (w6 ((w6 (p1 * c)) + r2.1))), .sc (.bool false)]) rfl rfl rfl rfl ti36 rfl rfl rfl rfl rfl ?_
  refine RunC.fin ?_
  refine AWP.ret ?_
  have hR := Option.some.inj hR; subst hR
  exact hQ _ _ (LS.mk [(5, .ptr 2 0 0)] (lblks 0 [boxB (α := spymake_Stream) false r2.2, .box [.ptr 0 0 0], boxB (α := Bound) true (Bound.mk (w6 ((w6 (p1 * c)) - r1.1)) (w6 ((w6 (p1 * c)) + r2.1)) false)]) 3) (aggV (α := Bound) true (Bound.mk (w6 ((w6 (p1 * c)) - r1.1)) (w6 ((w6 (p1 * c)) + r2.1)) false)) [] (.inr rfl) (Weak.turnL [(0, 0), (1, 0), (2, 0)] [] rfl rfl (tc (trP' rfl rfl rfl rfl) tn) (mc rfl (.box rfl (.cons trR1 (.cons (.sc _) (.nil))) rfl) (mc rfl (.box rfl (.cons (trP' rfl rfl rfl rfl) (.nil)) rfl) (mc rfl (.box rfl (.cons (.sc _) (.cons (.sc _) (.cons (.sc _) (.nil)))) rfl) mn)))) (ro1 (rvC (v := aggV (α := Bound) true (Bound.mk (w6 ((w6 (p1 * c)) - r1.1)) (w6 ((w6 (p1 * c)) + r2.1)) false)) rfl rfl ti36 rfl)) rfl rfl ldA (pc rfl bldB (pc rfl (.box (.cons (ldP rfl rfl) .nil) rfl) pn))
theorem ok20_49 (c : Int) (p1 : Int) (p2 : spymake_Stream) (p3 : Int) (r : Bound × spymake_Stream) (hR : Stream_Held_1 c p1 p2 p3 = some r) : FnD Try.prog 20 [boxB false p1, boxB false p2, .box [.ptr 1 0 0], boxB false p3] [.sc (.int .i64 c), .ptr 0 0 0, .ptr 2 0 0, .ptr 3 0 0] (aggV (α := Bound) true r.1) [boxB false p1, boxB false r.2, .box [.ptr 1 0 0], boxB false p3] := by
  refine FnX.walk Try.func20 rfl 23 4 (by simp [Try.ntmps20]) rfl fun W S F Q hQ => ?_
  unfold Stream_Held_1 at hR
  refine AWP.sq ?_
  refine AWP.rgC 8 rfl rfl ?_
  refine al (cs := [.sc (.int .i64 0), .sc (.int .i64 0), .sc (.bool false)]) 4 rfl rfl ti36 rfl rfl ?_
  refine RunC.fin ?_
  refine AWP.sq ?_
  refine AWP.rgD 80 [0, 0, 3, 0, 0, 16, 56, 127, 0, 0, 768, 0, 0, 4096, 14456, 32632, 65535, 131071] ⟨[6, 14], [some [0], none, none, some [2], some [3], none, some [1], none, some [0], none, none, some [2], some [3], none, some [1], none, none, some [4]]⟩ hmix (by kernel_rfl) rfl rfl ?_
  refine ldB (v := .sc _) rfl rfl rfl rfl ti2 rfl rfl ?_
  refine pu (v := .sc _) rfl rfl (fun _ => rfl) ?_
  refine pu (v := .sc _) rfl rfl (fun _ => rfl) ?_
  refine ldB (v := .ptr _ _ _) rfl rfl rfl rfl ti23 rfl rfl ?_
  refine ldB (v := .sc _) rfl rfl rfl rfl ti3 rfl rfl ?_
  refine pu (v := .sc _) rfl rfl (fun _ => rfl) ?_
  obtain ⟨r1, hr1, hR⟩ := bindE hR
  refine cps (res' := .sc (.int .i64 r1.1)) (ups := [(1, boxB (α := spymake_Stream) false r1.2)]) [1] 32 rfl rfl rfl cb16 (ok16 p2 (w6 (p3 + 1)) _ hr1) (.cons (ldP rfl rfl) (.cons (.sc _) (.nil))) (pc rfl (.box (.cons ldR' (.cons (.sc _) (.nil))) rfl) pn) rfl rfl rfl rfl rfl (by first | rfl | exact renR | exact renA | exact renS | simp only [V.ren, V.rens, renR, renA, renS] | (simp only [V.ren, V.rens, renR, renA, renS]; rfl)) (by simp only [passUps, renBox, renArr]; rfl) ?_
  refine pu (v := .sc _) rfl rfl (fun _ => rfl) ?_
  refine ldB (v := .sc _) rfl rfl rfl rfl ti2 rfl rfl ?_
  refine pu (v := .sc _) rfl rfl (fun _ => rfl) ?_
  refine pu (v := .sc _) rfl rfl (fun _ => rfl) ?_
  refine ldB (v := .ptr _ _ _) rfl rfl rfl rfl ti23 rfl rfl ?_
  refine ldB (v := .sc _) rfl rfl rfl rfl ti3 rfl rfl ?_
  refine pu (v := .sc _) rfl rfl (fun _ => rfl) ?_
  obtain ⟨r2, hr2, hR⟩ := bindE hR
  refine cps (res' := .sc (.int .i64 r2.1)) (ups := [(1, boxB (α := spymake_Stream) false r2.2)]) [1] 64 rfl rfl rfl cb16 (ok16 r1.2 (w6 (p3 + 1)) _ hr2) (.cons (ldP rfl rfl) (.cons (.sc _) (.nil))) (pc rfl (.box (.cons ldR' (.cons (.sc _) (.nil))) rfl) pn) rfl rfl rfl rfl rfl (by first | rfl | exact renR | exact renA | exact renS | simp only [V.ren, V.rens, renR, renA, renS] | (simp only [V.ren, V.rens, renR, renA, renS]; rfl)) (by simp only [passUps, renBox, renArr]; rfl) ?_
  refine pu (v := .sc _) rfl rfl (fun _ => rfl) ?_
  refine bu (cs := [.sc (.int .i64 (w6 ((w6 (p1 * c)) - r1.1))), .sc (.int .i64 (w6 ((w6 (p1 * c)) + r2.1))), .sc (.bool false)]) rfl bt36 rfl ?_
  refine stB (cs' := [.sc (.int .i64 (w6 ((w6 (p1 * c)) - r1.1))), .sc (.int .i64 (w6 ((w6 (p1 * c)) + r2.1))), .sc (.bool false)]) rfl rfl rfl rfl ti36 rfl rfl rfl rfl rfl ?_
  refine RunC.fin ?_
  refine AWP.ret ?_
  have hR := Option.some.inj hR; subst hR
  exact hQ _ _ (LS.mk [(5, .ptr 4 0 0)] (lblks 0 [boxB (α := Int) true p1, boxB (α := spymake_Stream) false r2.2, .box [.ptr 1 0 0], boxB (α := Int) true p3, boxB (α := Bound) true (Bound.mk (w6 ((w6 (p1 * c)) - r1.1)) (w6 ((w6 (p1 * c)) + r2.1)) false)]) 5) (aggV (α := Bound) true (Bound.mk (w6 ((w6 (p1 * c)) - r1.1)) (w6 ((w6 (p1 * c)) + r2.1)) false)) [] (.inr rfl) (Weak.turnL [(0, 0), (1, 0), (2, 0), (3, 0), (4, 0)] [] rfl rfl (tc (trP' rfl rfl rfl rfl) tn) (mc rfl (.box rfl (.cons (.sc _) (.nil)) rfl) (mc rfl (.box rfl (.cons trR1 (.cons (.sc _) (.nil))) rfl) (mc rfl (.box rfl (.cons (trP' rfl rfl rfl rfl) (.nil)) rfl) (mc rfl (.box rfl (.cons (.sc _) (.nil)) rfl) (mc rfl (.box rfl (.cons (.sc _) (.cons (.sc _) (.cons (.sc _) (.nil)))) rfl) mn)))))) (ro1 (rvC (v := aggV (α := Bound) true (Bound.mk (w6 ((w6 (p1 * c)) - r1.1)) (w6 ((w6 (p1 * c)) + r2.1)) false)) rfl rfl ti36 rfl)) rfl rfl ldA (pc rfl bldB (pc rfl bldB (pc rfl (.box (.cons (ldP rfl rfl) .nil) rfl) (pc rfl bldB pn))))
theorem ok8 (s : spymake_Stream) (v : Vec) (most : Int) (r : Box × spymake_Stream) (hR : Stream_Held s v most = some r) : FnD Try.prog 8 [boxB false s] [.ptr 0 0 0, aggV false v, .sc (.int .i64 most)] (aggV (α := Box) true r.1) [boxB false r.2] := by
  refine FnX.walk Try.func8 rfl 25 1 (by simp [Try.ntmps8]) rfl fun W S F Q hQ => ?_
  unfold Stream_Held at hR
  refine AWP.sq ?_
  refine AWP.rgC 17 rfl rfl ?_
  refine bx (cs := [.ptr 0 0 0]) 1 rfl rfl rfl ?_
  refine bx (cs := _) 5 rfl rfl rfl ?_
  refine bx (cs := [.sc (.int .i64 most)]) 9 rfl rfl rfl ?_
  refine al (cs := [.sc (.int .i64 0), .sc (.int .i64 0), .sc (.bool false), .sc (.int .i64 0), .sc (.int .i64 0), .sc (.bool false), .sc (.int .i64 0), .sc (.int .i64 0), .sc (.bool false)]) 13 rfl rfl ti40 rfl rfl ?_
  refine RunC.fin ?_
  refine AWP.sq ?_
  refine AWP.rgC 33 rfl rfl ?_
  refine ldB (v := .ptr _ _ _) rfl rfl rfl rfl ti23 rfl rfl ?_
  obtain ⟨r1, hr1, hR⟩ := bindE hR
  refine cps (res' := .sc (.int .i64 r1.1)) (ups := [(0, boxB (α := spymake_Stream) false r1.2)]) [0] 21 rfl rfl rfl cb17 (ok17 s 1 8 _ hr1) (.cons (ldP rfl rfl) (.cons (.sc _) (.cons (.sc _) (.nil)))) (pc rfl (.box (.cons ldR' (.cons (.sc _) (.nil))) rfl) pn) rfl rfl rfl rfl rfl (by first | rfl | exact renR | exact renA | exact renS | simp only [V.ren, V.rens, renR, renA, renS] | (simp only [V.ren, V.rens, renR, renA, renS]; rfl)) (by simp only [passUps, renBox, renArr]; rfl) ?_
  refine al (cs := [.sc (.int .i64 0)]) 25 rfl rfl ti2 rfl rfl ?_
  refine stB (cs' := [.sc (.int .i64 r1.1)]) rfl rfl rfl rfl ti2 rfl rfl rfl rfl rfl ?_
  refine RunC.fin ?_
  refine AWP.sq ?_
  refine AWP.rgC 41 rfl rfl ?_
  refine pu (v := .fn _ _) rfl rfl (fun _ => rfl) ?_
  refine pu (v := .fn _ _) rfl rfl (fun _ => rfl) ?_
  refine RunC.fin ?_
  refine AWP.sq ?_
  refine AWP.rgD 97 [0, 0, 2, 7, 0, 0, 32, 127, 0, 0, 512, 2047, 4095, 8191] ⟨[3, 7, 11], [none, none, some [5], some [0, 1, 9, 25], none, none, some [5], some [0, 1, 9, 25], none, none, some [5], some [0, 1, 9, 25], none, some [13]]⟩ hmix (by kernel_rfl) rfl rfl ?_
  refine pu (v := .fn _ _) rfl rfl (fun _ => rfl) ?_
  refine fa rfl rfl ti27 rfl rfl ti2 rfl ?_
  refine ldB (v := .sc _) rfl rfl rfl rfl ti2 rfl rfl ?_
  obtain ⟨r2, hr2, hR⟩ := bindE hR
  refine cps (res' := aggV (α := Bound) true r2.1) (ups := [(25, boxB (α := Int) true r1.1), (0, boxB (α := spymake_Stream) false r2.2), (1, .box [.ptr 0 0 0]), (9, boxB (α := Int) true most)]) [25, 0, 1, 9] 53 rfl rfl rfl cb20 (ok20_49 v.X r1.1 r1.2 most _ hr2) (.cons (.sc _) (.cons (ldP rfl rfl) (.cons (ldP rfl rfl) (.cons (ldP rfl rfl) (.nil))))) (pc rfl (.box (.cons (.sc _) (.nil)) rfl) (pc rfl (.box (.cons ldR' (.cons (.sc _) (.nil))) rfl) (pc rfl (.box (.cons (ldP rfl rfl) .nil) rfl) (pc rfl (.box (.cons (.sc _) (.nil)) rfl) pn)))) rfl rfl rfl rfl rfl (by first | rfl | exact renR | exact renA | exact renS | simp only [V.ren, V.rens, renR, renA, renS] | (simp only [V.ren, V.rens, renR, renA, renS]; rfl)) (by simp only [passUps, renBox, renArr]; rfl) ?_
  refine pu (v := .fn _ _) rfl rfl (fun _ => rfl) ?_
  refine fa rfl rfl ti27 rfl rfl ti2 rfl ?_
  refine ldB (v := .sc _) rfl rfl rfl rfl ti2 rfl rfl ?_
  obtain ⟨r3, hr3, hR⟩ := bindE hR
  refine cps (res' := aggV (α := Bound) true r3.1) (ups := [(25, boxB (α := Int) true r1.1), (0, boxB (α := spymake_Stream) false r3.2), (1, .box [.ptr 0 0 0]), (9, boxB (α := Int) true most)]) [25, 0, 1, 9] 69 rfl rfl rfl cb20 (ok20_49 v.Y r1.1 r2.2 most _ hr3) (.cons (.sc _) (.cons (ldP rfl rfl) (.cons (ldP rfl rfl) (.cons (ldP rfl rfl) (.nil))))) (pc rfl (.box (.cons (.sc _) (.nil)) rfl) (pc rfl (.box (.cons ldR' (.cons (.sc _) (.nil))) rfl) (pc rfl (.box (.cons (ldP rfl rfl) .nil) rfl) (pc rfl (.box (.cons (.sc _) (.nil)) rfl) pn)))) rfl rfl rfl rfl rfl (by first | rfl | exact renR | exact renA | exact renS | simp only [V.ren, V.rens, renR, renA, renS] | (simp only [V.ren, V.rens, renR, renA, renS]; rfl)) (by simp only [passUps, renBox, renArr]; rfl) ?_
  refine pu (v := .fn _ _) rfl rfl (fun _ => rfl) ?_
  refine fa rfl rfl ti27 rfl rfl ti2 rfl ?_
  refine ldB (v := .sc _) rfl rfl rfl rfl ti2 rfl rfl ?_
  obtain ⟨r4, hr4, hR⟩ := bindE hR
  refine cps (res' := aggV (α := Bound) true r4.1) (ups := [(25, boxB (α := Int) true r1.1), (0, boxB (α := spymake_Stream) false r4.2), (1, .box [.ptr 0 0 0]), (9, boxB (α := Int) true most)]) [25, 0, 1, 9] 85 rfl rfl rfl cb20 (ok20_49 v.Z r1.1 r3.2 most _ hr4) (.cons (.sc _) (.cons (ldP rfl rfl) (.cons (ldP rfl rfl) (.cons (ldP rfl rfl) (.nil))))) (pc rfl (.box (.cons (.sc _) (.nil)) rfl) (pc rfl (.box (.cons ldR' (.cons (.sc _) (.nil))) rfl) (pc rfl (.box (.cons (ldP rfl rfl) .nil) rfl) (pc rfl (.box (.cons (.sc _) (.nil)) rfl) pn)))) rfl rfl rfl rfl rfl (by first | rfl | exact renR | exact renA | exact renS | simp only [V.ren, V.rens, renR, renA, renS] | (simp only [V.ren, V.rens, renR, renA, renS]; rfl)) (by simp only [passUps, renBox, renArr]; rfl) ?_
  refine bu (cs := [.sc (.int .i64 r2.1.Lo), .sc (.int .i64 r2.1.Hi), .sc (.bool r2.1.Unknown), .sc (.int .i64 r3.1.Lo), .sc (.int .i64 r3.1.Hi), .sc (.bool r3.1.Unknown), .sc (.int .i64 r4.1.Lo), .sc (.int .i64 r4.1.Hi), .sc (.bool r4.1.Unknown)]) rfl bt40 rfl ?_
  refine stB (cs' := [.sc (.int .i64 r2.1.Lo), .sc (.int .i64 r2.1.Hi), .sc (.bool r2.1.Unknown), .sc (.int .i64 r3.1.Lo), .sc (.int .i64 r3.1.Hi), .sc (.bool r3.1.Unknown), .sc (.int .i64 r4.1.Lo), .sc (.int .i64 r4.1.Hi), .sc (.bool r4.1.Unknown)]) rfl rfl rfl rfl ti40 rfl rfl rfl rfl rfl ?_
  refine RunC.fin ?_
  refine AWP.ret ?_
  have hR := Option.some.inj hR; subst hR
  exact hQ _ _ (LS.mk [(6, .ptr 1 0 0)] (lblks 0 [boxB (α := spymake_Stream) false r4.2, boxB (α := Box) true (Box.mk r2.1 r3.1 r4.1)]) 2) (aggV (α := Box) true (Box.mk r2.1 r3.1 r4.1)) [] (.inr rfl) (Weak.turnL [(0, 0), (13, 0)] [] rfl rfl (tc (trP' rfl rfl rfl rfl) tn) (mc rfl (.box rfl (.cons trR1 (.cons (.sc _) (.nil))) rfl) (mc rfl (.box rfl (.cons (.sc _) (.cons (.sc _) (.cons (.sc _) (.cons (.sc _) (.cons (.sc _) (.cons (.sc _) (.cons (.sc _) (.cons (.sc _) (.cons (.sc _) (.nil)))))))))) rfl) mn))) (ro1 (rvC (v := aggV (α := Box) true (Box.mk r2.1 r3.1 r4.1)) rfl rfl ti40 rfl)) rfl rfl ldA (pc rfl bldB pn)
theorem ok19 (s : spymake_Stream) (r : Int × spymake_Stream) (hR : Stream_rate s = some r) : FnD Try.prog 19 [boxB false s] [.ptr 0 0 0] (.sc (.int .i64 r.1)) [boxB false r.2] := by
  refine FnX.walk Try.func19 rfl 10 1 (by simp [Try.ntmps19]) rfl fun W S F Q hQ => ?_
  unfold Stream_rate at hR
  refine AWP.sq ?_
  refine AWP.rgC 5 rfl rfl ?_
  refine pu (v := .sc _) rfl rfl (fun _ => rfl) ?_
  refine RunC.fin ?_
  refine AWP.sq ?_
  refine AWP.rgC 37 rfl rfl ?_
  refine pu (v := .ptr _ _ _) rfl rfl (fun _ => rfl) ?_
  refine bs (α := Int) 9 true ([50, 500, 5000, 5000, 40000, 1048577] : List Int) rfl rfl ti22 rfl ti3 rfl rfl rfl rfl rfl ?_
  refine pu (v := .ptr _ _ _) rfl rfl (fun _ => rfl) ?_
  obtain ⟨r1, hr1, hR⟩ := bindE hR
  refine cps (res' := .sc (.int .i64 r1.1)) (ups := [(0, boxB (α := spymake_Stream) false r1.2)]) [0] 17 rfl rfl rfl cb16 (ok16 s 6 _ hr1) (.cons (ldP rfl rfl) (.cons (.sc _) (.nil))) (pc rfl (.box (.cons ldR' (.cons (.sc _) (.nil))) rfl) pn) rfl rfl rfl rfl rfl (by first | rfl | exact renR | exact renA | exact renS | simp only [V.ren, V.rens, renR, renA, renS] | (simp only [V.ren, V.rens, renR, renA, renS]; rfl)) (by simp only [passUps, renBox, renArr]; rfl) ?_
  obtain ⟨h2, hR⟩ := chkE hR
  refine ixS0 (α := Int) rfl rfl rfl ti22 rfl ti3 rfl h2 ?_
  refine ldE (α := Int) (v := .sc _) rfl rfl rfl (ixlt h2) ti3 rfl rfl rfl rfl ?_
  obtain ⟨r3, hr3, hR⟩ := bindE hR
  refine cps (res' := .sc (.int .i64 r3.1)) (ups := [(0, boxB (α := spymake_Stream) false r3.2)]) [0] 29 rfl rfl rfl cb16 (ok16 r1.2 (gt ([50, 500, 5000, 5000, 40000, 1048577] : List Int) r1.1) _ hr3) (.cons (ldP rfl rfl) (.cons (.sc _) (.nil))) (pc rfl (.box (.cons ldR' (.cons (.sc _) (.nil))) rfl) pn) rfl rfl rfl rfl rfl (by first | rfl | exact renR | exact renA | exact renS | simp only [V.ren, V.rens, renR, renA, renS] | (simp only [V.ren, V.rens, renR, renA, renS]; rfl)) (by simp only [passUps, renBox, renArr]; rfl) ?_
  refine pu (v := .sc _) rfl rfl (fun _ => rfl) ?_
  refine RunC.fin ?_
  refine AWP.ret ?_
  have hR := Option.some.inj hR; subst hR
  exact hQ _ _ (LS.mk [(2, .sc (.int .i64 r3.1))] (lblks 0 [boxB (α := spymake_Stream) false r3.2]) 1) (.sc (.int .i64 r3.1)) [] (.inr rfl) (Weak.turnL [(0, 0)] [] rfl rfl (tc (.sc _) tn) (mc rfl (.box rfl (.cons trR1 (.cons (.sc _) (.nil))) rfl) mn)) (ro1 (rvT (v := .sc (.int .i64 r3.1)) rfl)) rfl rfl (.sc _) (pc rfl bldB pn)
theorem ok18 (v : Vec) (r : Vec) (hR : spymake_within v = some r) : FnP Try.prog 18 [aggV false v] (aggV (α := Vec) true r) := by
  refine fnP_of (FnX.walk Try.func18 rfl 17 0 (by simp [Try.ntmps18]) rfl fun W S F Q hQ => ?_)
  unfold spymake_within at hR
  refine AWP.sq ?_
  refine AWP.rgC 8 rfl rfl ?_
  refine bx (cs := _) 0 rfl rfl rfl ?_
  refine al (cs := [.sc (.int .i64 0), .sc (.int .i64 0), .sc (.int .i64 0)]) 4 rfl rfl ti27 rfl rfl ?_
  refine RunC.fin ?_
  refine AWP.sq ?_
  refine AWP.rgC 12 rfl rfl ?_
  refine pu (v := .fn _ _) rfl rfl (fun _ => rfl) ?_
  refine RunC.fin ?_
  refine AWP.sq ?_
  refine AWP.rgD 68 [0, 0, 2, 7, 0, 0, 32, 127, 0, 0, 512, 2047, 4095, 8191] ⟨[], [none, none, some [0], none, none, none, some [0], none, none, none, some [0], none, none, some [4]]⟩ hmix (by kernel_rfl) rfl rfl ?_
  refine pu (v := .fn _ _) rfl rfl (fun _ => rfl) ?_
  refine fa rfl rfl ti27 rfl rfl ti2 rfl ?_
  refine ldB (v := .sc _) rfl rfl rfl rfl ti2 rfl rfl ?_
  obtain ⟨r1, hr1, hR⟩ := bindE hR
  refine cls [] rfl rfl cb34 (ok34 v.X _ hr1) (.cons (.sc _) (.nil)) (.inr rfl) rfl ?_
  refine pu (v := .fn _ _) rfl rfl (fun _ => rfl) ?_
  refine fa rfl rfl ti27 rfl rfl ti2 rfl ?_
  refine ldB (v := .sc _) rfl rfl rfl rfl ti2 rfl rfl ?_
  obtain ⟨r2, hr2, hR⟩ := bindE hR
  refine cls [] rfl rfl cb34 (ok34 v.Y _ hr2) (.cons (.sc _) (.nil)) (.inr rfl) rfl ?_
  refine pu (v := .fn _ _) rfl rfl (fun _ => rfl) ?_
  refine fa rfl rfl ti27 rfl rfl ti2 rfl ?_
  refine ldB (v := .sc _) rfl rfl rfl rfl ti2 rfl rfl ?_
  obtain ⟨r3, hr3, hR⟩ := bindE hR
  refine cls [] rfl rfl cb34 (ok34 v.Z _ hr3) (.cons (.sc _) (.nil)) (.inr rfl) rfl ?_
  refine bu (cs := [.sc (.int .i64 r1), .sc (.int .i64 r2), .sc (.int .i64 r3)]) rfl bt27 rfl ?_
  refine stB (cs' := [.sc (.int .i64 r1), .sc (.int .i64 r2), .sc (.int .i64 r3)]) rfl rfl rfl rfl ti27 rfl rfl rfl rfl rfl ?_
  refine RunC.fin ?_
  refine AWP.ret ?_
  have hR := Option.some.inj hR; subst hR
  exact hQ _ _ (LS.mk [(2, .ptr 0 0 0)] (lblks 0 [boxB (α := Vec) true (Vec.mk r1 r2 r3)]) 1) (aggV (α := Vec) true (Vec.mk r1 r2 r3)) [] (.inr rfl) (Weak.turnL [(4, 0)] [] rfl rfl (tc (trP' rfl rfl rfl rfl) tn) (mc rfl (.box rfl (.cons (.sc _) (.cons (.sc _) (.cons (.sc _) (.nil)))) rfl) mn)) (ro1 (rvC (v := aggV (α := Vec) true (Vec.mk r1 r2 r3)) rfl rfl ti27 rfl)) rfl rfl ldA pn
theorem ok13 (p : Bound × Bound × Bound) (v : Vec) (r : Bool) (hR : predict_Has p v = some r) : FnP Try.prog 13 [aggV false p, aggV false v] (.sc (.bool r)) := by
  refine fnP_of (FnX.walk Try.func13 rfl 24 0 (by simp [Try.ntmps13]) rfl fun W S F Q hQ => ?_)
  unfold predict_Has at hR
  refine AWP.sq ?_
  refine AWP.rgC 12 rfl rfl ?_
  refine bx (cs := _) 0 rfl rfl rfl ?_
  refine bx (cs := _) 4 rfl rfl rfl ?_
  refine pu (v := .sc _) rfl rfl (fun _ => rfl) ?_
  refine RunC.fin ?_
  refine AWP.joinX (fun z1 : Bool => LS.mk [(4, .sc (.bool z1))] (lblks 0 []) 0) hR (fun o1 hR => ?_) fun z1 hR => ?_
  · refine AWP.rgC 92 rfl rfl ?_
    refine iaP (o' := 0) rfl rfl rfl ti38 rfl ti36 (by decide) rfl ?_
    refine ldB (v := .agg _) rfl rfl rfl rfl ti36 rfl rfl ?_
    refine fa rfl rfl ti27 rfl rfl ti2 rfl ?_
    refine ldB (v := .sc _) rfl rfl rfl rfl ti2 rfl rfl ?_
    obtain ⟨r2, hr2, hR⟩ := bindE hR
    refine cls [] rfl rfl cb25 (ok25 p.1 v.X _ hr2) (.cons (.agg (.cons (.sc _) (.cons (.sc _) (.cons (.sc _) (.nil)))) rfl) (.cons (.sc _) (.nil))) (.inr rfl) rfl ?_
    refine pu (v := .sc _) rfl rfl (fun _ => rfl) ?_
    refine brR hR (fun h3 hR => ?_) fun h3 hR => ?_
    · refine iaP (o' := 3) (wtG rfl rfl rfl h3) rfl rfl ti38 rfl ti36 (by decide) rfl ?_
      refine ldB (v := .agg _) (wtG rfl rfl rfl h3) rfl rfl rfl ti36 rfl rfl ?_
      refine fa (wtG rfl rfl rfl h3) rfl ti27 rfl rfl ti2 rfl ?_
      refine ldB (v := .sc _) (wtG rfl rfl rfl h3) rfl rfl rfl ti2 rfl rfl ?_
      obtain ⟨r4, hr4, hR⟩ := bindE hR
      refine cls [] (wtG rfl rfl rfl h3) rfl cb25 (ok25 p.2.1 v.Y _ hr4) (.cons (.agg (.cons (.sc _) (.cons (.sc _) (.cons (.sc _) (.nil)))) rfl) (.cons (.sc _) (.nil))) (.inr rfl) rfl ?_
      refine pkT (v := .sc (.bool r4)) rfl rfl h3 rfl ?_
      refine pu (v := .sc _) rfl rfl (fun _ => rfl) ?_
      refine brR hR (fun h5 hR => ?_) fun h5 hR => ?_
      · refine iaP (o' := 6) (wtG rfl rfl rfl h5) rfl rfl ti38 rfl ti36 (by decide) rfl ?_
        refine ldB (v := .agg _) (wtG rfl rfl rfl h5) rfl rfl rfl ti36 rfl rfl ?_
        refine fa (wtG rfl rfl rfl h5) rfl ti27 rfl rfl ti2 rfl ?_
        refine ldB (v := .sc _) (wtG rfl rfl rfl h5) rfl rfl rfl ti2 rfl rfl ?_
        obtain ⟨r6, hr6, hR⟩ := bindE hR
        refine cls [] (wtG rfl rfl rfl h5) rfl cb25 (ok25 p.2.2 v.Z _ hr6) (.cons (.agg (.cons (.sc _) (.cons (.sc _) (.cons (.sc _) (.nil)))) rfl) (.cons (.sc _) (.nil))) (.inr rfl) rfl ?_
        refine pkT (v := .sc (.bool r6)) rfl rfl h5 rfl ?_
        refine pu (v := .sc _) rfl rfl (fun _ => rfl) ?_
        refine RunC.fin ?_
        have hR := Option.some.inj hR; subst hR
        exact Weak.turnL [] [] rfl rfl (tc (.sc _) tn) mn
      · refine sk (skW rfl rfl rfl h5) ?_
        refine sk (skW rfl rfl rfl h5) ?_
        refine sk (skW rfl rfl rfl h5) ?_
        refine sk (skW rfl rfl rfl h5) ?_
        refine sk (skW rfl rfl rfl h5) ?_
        refine pkF (v := .sc (.bool false)) rfl rfl h5 rfl ?_
        refine pu (v := .sc _) rfl rfl (fun _ => rfl) ?_
        refine RunC.fin ?_
        have hR := Option.some.inj hR; subst hR
        exact Weak.turnL [] [] rfl rfl (tc (.sc _) tn) mn
    · refine sk (skW rfl rfl rfl h3) ?_
      refine sk (skW rfl rfl rfl h3) ?_
      refine sk (skW rfl rfl rfl h3) ?_
      refine sk (skW rfl rfl rfl h3) ?_
      refine sk (skW rfl rfl rfl h3) ?_
      refine pkF (v := .sc (.bool false)) rfl rfl h3 rfl ?_
      refine pu (v := .sc _) rfl rfl (fun _ => rfl) ?_
      refine sk (skW rfl rfl rfl rfl) ?_
      refine sk (skW rfl rfl rfl rfl) ?_
      refine sk (skW rfl rfl rfl rfl) ?_
      refine sk (skW rfl rfl rfl rfl) ?_
      refine sk (skW rfl rfl rfl rfl) ?_
      refine pkF (v := .sc (.bool false)) rfl rfl rfl rfl ?_
      refine pu (v := .sc _) rfl rfl (fun _ => rfl) ?_
      refine RunC.fin ?_
      have hR := Option.some.inj hR; subst hR
      exact Weak.turnL [] [] rfl rfl (tc (.sc _) tn) mn
  · refine AWP.ret ?_
    have hR := Option.some.inj hR; subst hR
    exact hQ _ _ (LS.mk [(4, .sc (.bool z1))] (lblks 0 []) 0) (.sc (.bool z1)) [] (.inr rfl) (Weak.turnL [] [] rfl rfl (tc (.sc _) tn) mn) (ro1 (rvT (v := .sc (.bool z1)) rfl)) rfl rfl (.sc _) pn
theorem ok12 (r : Bool) (hR : spykeep4_stepped = some r) : FnP Try.prog 12 [] (.sc (.bool r)) := by
  refine fnP_of (FnX.walk Try.func12 rfl 13 0 (by simp [Try.ntmps12]) rfl fun W S F Q hQ => ?_)
  unfold spykeep4_stepped at hR
  refine AWP.sq ?_
  refine AWP.rgC 4 rfl rfl ?_
  refine pu (v := .sc _) rfl rfl (fun _ => rfl) ?_
  refine RunC.fin ?_
  refine AWP.sq ?_
  refine AWP.rgC 32 rfl rfl ?_
  refine bu (cs := [.sc (.int .i64 1048576), .sc (.int .i64 0), .sc (.int .i64 0)]) rfl bt27 rfl ?_
  obtain ⟨r1, hr1, hR⟩ := bindE hR
  refine cls [] rfl rfl cb9 (ok9 (Vec.mk 1048576 0 0) _ hr1) (.cons (.agg (.cons (.sc _) (.cons (.sc _) (.cons (.sc _) (.nil)))) rfl) (.nil)) (.inr rfl) rfl ?_
  refine bu (cs := [.sc (.int .i64 1048576), .sc (.int .i64 92000), .sc (.int .i64 0)]) rfl bt27 rfl ?_
  obtain ⟨r2, hr2, hR⟩ := bindE hR
  refine cls [] rfl rfl cb9 (ok9 (Vec.mk 1048576 92000 0) _ hr2) (.cons (.agg (.cons (.sc _) (.cons (.sc _) (.cons (.sc _) (.nil)))) rfl) (.nil)) (.inr rfl) rfl ?_
  obtain ⟨r3, hr3, hR⟩ := bindE hR
  refine cls [] rfl rfl cb24 (ok24 r1 r2 _ hr3) (.cons (.agg (.cons (.sc _) (.cons (.sc _) (.cons (.sc _) (.cons (.sc _) (.cons (.sc _) (.cons (.sc _) (.cons (.sc _) (.cons (.sc _) (.cons (.sc _) (.nil)))))))))) rfl) (.cons (.agg (.cons (.sc _) (.cons (.sc _) (.cons (.sc _) (.cons (.sc _) (.cons (.sc _) (.cons (.sc _) (.cons (.sc _) (.cons (.sc _) (.cons (.sc _) (.nil)))))))))) rfl) (.nil))) (.inr rfl) rfl ?_
  refine al (cs := [.sc (.int .i64 0), .sc (.int .i64 0), .sc (.bool false), .sc (.int .i64 0), .sc (.int .i64 0), .sc (.bool false), .sc (.int .i64 0), .sc (.int .i64 0), .sc (.bool false)]) 24 rfl rfl ti38 rfl rfl ?_
  refine stB (cs' := [.sc (.int .i64 r3.1.Lo), .sc (.int .i64 r3.1.Hi), .sc (.bool r3.1.Unknown), .sc (.int .i64 r3.2.1.Lo), .sc (.int .i64 r3.2.1.Hi), .sc (.bool r3.2.1.Unknown), .sc (.int .i64 r3.2.2.Lo), .sc (.int .i64 r3.2.2.Hi), .sc (.bool r3.2.2.Unknown)]) rfl rfl rfl rfl ti38 rfl rfl rfl rfl rfl ?_
  refine RunC.fin ?_
  refine AWP.sq ?_
  refine AWP.rgC 60 rfl rfl ?_
  refine ldB (v := .agg _) rfl rfl rfl rfl ti38 rfl rfl ?_
  refine bu (cs := [.sc (.int .i64 1040478), .sc (.int .i64 1040478), .sc (.bool false)]) rfl bt36 rfl ?_
  refine bu (cs := [.sc (.int .i64 183290), .sc (.int .i64 183290), .sc (.bool false)]) rfl bt36 rfl ?_
  refine bu (cs := [.sc (.int .i64 0), .sc (.int .i64 0), .sc (.bool false)]) rfl bt36 rfl ?_
  refine buA (cs := [.sc (.int .i64 1040478), .sc (.int .i64 1040478), .sc (.bool false), .sc (.int .i64 183290), .sc (.int .i64 183290), .sc (.bool false), .sc (.int .i64 0), .sc (.int .i64 0), .sc (.bool false)]) rfl ti38 rfl ti36 rfl rfl ?_
  refine es (cs := [.sc (.int .i64 r3.1.Lo), .sc (.int .i64 r3.1.Hi), .sc (.bool r3.1.Unknown), .sc (.int .i64 r3.2.1.Lo), .sc (.int .i64 r3.2.1.Hi), .sc (.bool r3.2.1.Unknown), .sc (.int .i64 r3.2.2.Lo), .sc (.int .i64 r3.2.2.Hi), .sc (.bool r3.2.2.Unknown)]) (ds := [.sc (.int .i64 1040478), .sc (.int .i64 1040478), .sc (.bool false), .sc (.int .i64 183290), .sc (.int .i64 183290), .sc (.bool false), .sc (.int .i64 0), .sc (.int .i64 0), .sc (.bool false)]) rfl rfl rfl qa38 qg38 (qe38 _ _ _ _ _ _ _ _ _ _ _ _ _ _ _ _ _ _) ?_
  refine pu (v := .sc _) rfl rfl (fun _ => rfl) ?_
  refine RunC.fin ?_
  refine AWP.ret ?_
  have hR := Option.some.inj hR; subst hR
  exact hQ _ _ (LS.mk [(0, .sc (.bool (((r3.1.Lo == 1040478) && ((r3.1.Hi == 1040478) && ((r3.1.Unknown == false) && (true)))) && (((r3.2.1.Lo == 183290) && ((r3.2.1.Hi == 183290) && ((r3.2.1.Unknown == false) && (true)))) && (((r3.2.2.Lo == 0) && ((r3.2.2.Hi == 0) && ((r3.2.2.Unknown == false) && (true)))) && (true))))))] (lblks 0 []) 0) (.sc (.bool (((r3.1.Lo == 1040478) && ((r3.1.Hi == 1040478) && ((r3.1.Unknown == false) && (true)))) && (((r3.2.1.Lo == 183290) && ((r3.2.1.Hi == 183290) && ((r3.2.1.Unknown == false) && (true)))) && (((r3.2.2.Lo == 0) && ((r3.2.2.Hi == 0) && ((r3.2.2.Unknown == false) && (true)))) && (true)))))) [] (.inr rfl) (Weak.turnL [] [] rfl rfl (tc (.sc _) tn) mn) (ro1 (rvT (v := .sc (.bool (((r3.1.Lo == 1040478) && ((r3.1.Hi == 1040478) && ((r3.1.Unknown == false) && (true)))) && (((r3.2.1.Lo == 183290) && ((r3.2.1.Hi == 183290) && ((r3.2.1.Unknown == false) && (true)))) && (((r3.2.2.Lo == 0) && ((r3.2.2.Hi == 0) && ((r3.2.2.Unknown == false) && (true)))) && (true)))))) rfl)) rfl rfl (.sc _) pn
theorem ok11 (was : Bound × Bound × Bound) (here : Bound × Bound × Bound) (days : Int) (r : (Bound × Bound × Bound) × Int) (hR : predict_Ahead was here days = some r) : FnP Try.prog 11 [aggV false was, aggV false here, .sc (.int .i64 days)] (.tup [aggV (α := Bound × Bound × Bound) true r.1, .sc (.int .i64 r.2)]) := by
  refine fnP_of (FnX.walk Try.func11 rfl 31 0 (by simp [Try.ntmps11]) rfl fun W S F Q hQ => ?_)
  unfold predict_Ahead at hR
  refine AWP.sq ?_
  refine AWP.rgC 16 rfl rfl ?_
  refine bx (cs := _) 0 rfl rfl rfl ?_
  refine bx (cs := _) 4 rfl rfl rfl ?_
  refine al (cs := [.sc (.int .i64 0), .sc (.int .i64 0), .sc (.bool false), .sc (.int .i64 0), .sc (.int .i64 0), .sc (.bool false), .sc (.int .i64 0), .sc (.int .i64 0), .sc (.bool false)]) 8 rfl rfl ti38 rfl rfl ?_
  refine pu (v := .sc _) rfl rfl (fun _ => rfl) ?_
  refine RunC.fin ?_
  refine AWP.sq ?_
  refine AWP.joinX (fun z1 : Bool => LS.mk [(2, .sc (.int .i64 days)), (3, .ptr 0 0 0), (4, .ptr 1 0 0), (6, .ptr 2 0 0), (13, .sc (.bool z1))] (lblks 0 [boxB (α := Bound × Bound × Bound) true was, boxB (α := Bound × Bound × Bound) true here, boxB (α := Bound × Bound × Bound) true (Bound.mk 0 0 false, Bound.mk 0 0 false, Bound.mk 0 0 false)]) 3) hR (fun o1 hR => ?_) fun z1 hR => ?_
  · refine AWP.rgC 40 rfl rfl ?_
    refine pu (v := .sc _) rfl rfl (fun _ => rfl) ?_
    refine pu (v := .sc _) rfl rfl (fun _ => rfl) ?_
    refine pu (v := .sc _) rfl rfl (fun _ => rfl) ?_
    refine brR hR (fun h2 hR => ?_) fun h2 hR => ?_
    · refine sk (skW rfl rfl rfl h2) ?_
      refine sk (skW rfl rfl rfl h2) ?_
      refine pkT (v := .sc (.bool true)) rfl rfl h2 rfl ?_
      refine RunC.fin ?_
      have hR := Option.some.inj hR; subst hR
      exact Weak.turnL [(0, 0), (4, 0), (8, 0)] [] rfl rfl (tc (.sc _) (tc (trP' rfl rfl rfl rfl) (tc (trP' rfl rfl rfl rfl) (tc (trP' rfl rfl rfl rfl) (tc (.sc _) tn))))) (mc rfl (.box rfl (.cons (.sc _) (.cons (.sc _) (.cons (.sc _) (.cons (.sc _) (.cons (.sc _) (.cons (.sc _) (.cons (.sc _) (.cons (.sc _) (.cons (.sc _) (.nil)))))))))) rfl) (mc rfl (.box rfl (.cons (.sc _) (.cons (.sc _) (.cons (.sc _) (.cons (.sc _) (.cons (.sc _) (.cons (.sc _) (.cons (.sc _) (.cons (.sc _) (.cons (.sc _) (.nil)))))))))) rfl) (mc rfl (.box rfl (.cons (.sc _) (.cons (.sc _) (.cons (.sc _) (.cons (.sc _) (.cons (.sc _) (.cons (.sc _) (.cons (.sc _) (.cons (.sc _) (.cons (.sc _) (.nil)))))))))) rfl) mn)))
    · refine pu (v := .sc _) (wtG rfl rfl rfl h2) rfl (fun _ => rfl) ?_
      refine pu (v := .sc _) (wtG rfl rfl rfl h2) rfl (fun _ => rfl) ?_
      refine pkF (v := .sc (.bool (decide (days > 32)))) rfl rfl h2 rfl ?_
      refine RunC.fin ?_
      have hR := Option.some.inj hR; subst hR
      exact Weak.turnL [(0, 0), (4, 0), (8, 0)] [] rfl rfl (tc (.sc _) (tc (trP' rfl rfl rfl rfl) (tc (trP' rfl rfl rfl rfl) (tc (trP' rfl rfl rfl rfl) (tc (.sc _) tn))))) (mc rfl (.box rfl (.cons (.sc _) (.cons (.sc _) (.cons (.sc _) (.cons (.sc _) (.cons (.sc _) (.cons (.sc _) (.cons (.sc _) (.cons (.sc _) (.cons (.sc _) (.nil)))))))))) rfl) (mc rfl (.box rfl (.cons (.sc _) (.cons (.sc _) (.cons (.sc _) (.cons (.sc _) (.cons (.sc _) (.cons (.sc _) (.cons (.sc _) (.cons (.sc _) (.cons (.sc _) (.nil)))))))))) rfl) (mc rfl (.box rfl (.cons (.sc _) (.cons (.sc _) (.cons (.sc _) (.cons (.sc _) (.cons (.sc _) (.cons (.sc _) (.cons (.sc _) (.cons (.sc _) (.cons (.sc _) (.nil)))))))))) rfl) mn)))
  · refine AWP.cd hR rfl (fun h3 hR => ?_) fun h3 hR => ?_
    · refine AWP.sq ?_
      refine AWP.rgC 15 rfl rfl ?_
      refine buA (cs := [.sc (.int .i64 0), .sc (.int .i64 0), .sc (.bool false), .sc (.int .i64 0), .sc (.int .i64 0), .sc (.bool false), .sc (.int .i64 0), .sc (.int .i64 0), .sc (.bool false)]) rfl ti38 rfl ti36 rfl rfl ?_
      refine stB (cs' := [.sc (.int .i64 0), .sc (.int .i64 0), .sc (.bool false), .sc (.int .i64 0), .sc (.int .i64 0), .sc (.bool false), .sc (.int .i64 0), .sc (.int .i64 0), .sc (.bool false)]) rfl rfl rfl rfl ti38 rfl rfl rfl rfl rfl ?_
      refine pu (v := .sc _) rfl rfl (fun _ => rfl) ?_
      refine RunC.fin ?_
      refine AWP.ret ?_
      refine rtT ?_
      have hR := Option.some.inj hR; subst hR
      exact hQ _ _ (LS.mk [(6, .ptr 0 0 0), (7, .sc (.int .i64 4))] (lblks 0 [boxB (α := Bound × Bound × Bound) true (Bound.mk 0 0 false, Bound.mk 0 0 false, Bound.mk 0 0 false)]) 1) (.tup [aggV (α := Bound × Bound × Bound) true (Bound.mk 0 0 false, Bound.mk 0 0 false, Bound.mk 0 0 false), .sc (.int .i64 4)]) [] (.inr rfl) (Weak.turnL [(2, 0)] [] rfl rfl (tc (trP' rfl rfl rfl rfl) (tc (.sc _) tn)) (mc rfl (.box rfl (.cons (.sc _) (.cons (.sc _) (.cons (.sc _) (.cons (.sc _) (.cons (.sc _) (.cons (.sc _) (.cons (.sc _) (.cons (.sc _) (.cons (.sc _) (.nil)))))))))) rfl) mn)) (ro2 (rvC (v := aggV (α := Bound × Bound × Bound) true (Bound.mk 0 0 false, Bound.mk 0 0 false, Bound.mk 0 0 false)) rfl rfl ti38 rfl) (rvT (v := .sc (.int .i64 4)) rfl)) rfl rfl (.tup (.cons ldA (.cons (.sc _) .nil))) pn
    · refine AWP.skip ?_
      refine skT ?_
      refine AWP.sq ?_
      refine AWP.sq ?_
      refine AWP.rgC 11 rfl rfl ?_
      refine pu (v := .sc _) rfl rfl (fun _ => rfl) ?_
      refine pu (v := .sc _) rfl rfl (fun _ => rfl) ?_
      refine RunC.fin ?_
      refine AWP.cd hR rfl (fun h4 hR => ?_) fun h4 hR => ?_
      · refine AWP.rgC 43 rfl rfl ?_
        refine ldB (v := .agg _) rfl rfl rfl rfl ti38 rfl rfl ?_
        refine ldB (v := .agg _) rfl rfl rfl rfl ti38 rfl rfl ?_
        refine pu (v := .sc _) rfl rfl (fun _ => rfl) ?_
        refine pu (v := .sc _) rfl rfl (fun _ => rfl) ?_
        refine pu (v := .sc _) rfl rfl (fun _ => rfl) ?_
        refine stB (cs' := [.sc (.int .i64 here.1.Lo), .sc (.int .i64 here.1.Hi), .sc (.bool here.1.Unknown), .sc (.int .i64 here.2.1.Lo), .sc (.int .i64 here.2.1.Hi), .sc (.bool here.2.1.Unknown), .sc (.int .i64 here.2.2.Lo), .sc (.int .i64 here.2.2.Hi), .sc (.bool here.2.2.Unknown)]) rfl rfl rfl rfl ti38 rfl rfl rfl rfl rfl ?_
        refine stB (cs' := [.sc (.int .i64 was.1.Lo), .sc (.int .i64 was.1.Hi), .sc (.bool was.1.Unknown), .sc (.int .i64 was.2.1.Lo), .sc (.int .i64 was.2.1.Hi), .sc (.bool was.2.1.Unknown), .sc (.int .i64 was.2.2.Lo), .sc (.int .i64 was.2.2.Hi), .sc (.bool was.2.2.Unknown)]) rfl rfl rfl rfl ti38 rfl rfl rfl rfl rfl ?_
        refine pu (v := .sc _) rfl rfl (fun _ => rfl) ?_
        refine RunC.fin ?_
        refine AWP.sq ?_
        refine AWP.sq ?_
        refine AWP.rgC 51 rfl rfl ?_
        refine pu (v := .sc _) rfl rfl (fun _ => rfl) ?_
        refine pu (v := .sc _) rfl rfl (fun _ => rfl) ?_
        refine RunC.fin ?_
        refine AWP.loopJ (fun s5 : (Bound × Bound × Bound) × (Bound × Bound × Bound) × Int => LS.mk [(3, .ptr 0 0 0), (4, .ptr 1 0 0), (6, .ptr 2 0 0), (22, .sc (.int .i64 (w6 ((w6 (0 - days)) - 1)))), (23, .sc (.int .i64 s5.2.2))] (lblks 0 [boxB (α := Bound × Bound × Bound) true s5.1, boxB (α := Bound × Bound × Bound) true s5.2.1, boxB (α := Bound × Bound × Bound) true (Bound.mk 0 0 false, Bound.mk 0 0 false, Bound.mk 0 0 false)]) 3) (fun z6 : (Bound × Bound × Bound) => LS.mk [(4, .ptr 0 0 0), (6, .ptr 1 0 0)] (lblks 0 [boxB (α := Bound × Bound × Bound) true z6, boxB (α := Bound × Bound × Bound) true (Bound.mk 0 0 false, Bound.mk 0 0 false, Bound.mk 0 0 false)]) 2) (predict_Ahead.l1 days) hR (s0 := (here, was, 0)) (Weak.turnL [(0, 0), (1, 0), (2, 0)] [] rfl rfl (tc (trP' rfl rfl rfl rfl) (tc (trP' rfl rfl rfl rfl) (tc (trP' rfl rfl rfl rfl) (tc (.sc _) (tc (.sc _) tn))))) (mc rfl (.box rfl (.cons (.sc _) (.cons (.sc _) (.cons (.sc _) (.cons (.sc _) (.cons (.sc _) (.cons (.sc _) (.cons (.sc _) (.cons (.sc _) (.cons (.sc _) (.nil)))))))))) rfl) (mc rfl (.box rfl (.cons (.sc _) (.cons (.sc _) (.cons (.sc _) (.cons (.sc _) (.cons (.sc _) (.cons (.sc _) (.cons (.sc _) (.cons (.sc _) (.cons (.sc _) (.nil)))))))))) rfl) (mc rfl (.box rfl (.cons (.sc _) (.cons (.sc _) (.cons (.sc _) (.cons (.sc _) (.cons (.sc _) (.cons (.sc _) (.cons (.sc _) (.cons (.sc _) (.cons (.sc _) (.nil)))))))))) rfl) mn)))) (fun s5 o5 hR => ?_) fun z6 hR => ?_
        · unfold predict_Ahead.l1 at hR
          refine AWP.sq ?_
          refine AWP.rgC 7 rfl rfl ?_
          refine pu (v := .sc _) rfl rfl (fun _ => rfl) ?_
          refine RunC.fin ?_
          refine AWP.sq ?_
          refine AWP.cd hR rfl (fun h7 hR => ?_) fun h7 hR => ?_
          · refine AWP.skip ?_
            refine skT ?_
            refine AWP.sq ?_
            refine AWP.block ?_
            refine AWP.rgD 31 [0, 0, 0, 6, 15, 31] ⟨[], [some [1], some [0], some [1], none, some [0], some [1]]⟩ hmix (by kernel_rfl) rfl rfl ?_
            refine ldB (v := .agg _) rfl rfl rfl rfl ti38 rfl rfl ?_
            refine ldB (v := .agg _) rfl rfl rfl rfl ti38 rfl rfl ?_
            refine ldB (v := .agg _) rfl rfl rfl rfl ti38 rfl rfl ?_
            obtain ⟨r8, hr8, hR⟩ := bindE hR
            refine cls [] rfl rfl cb24 (ok24 s5.1 s5.2.1 _ hr8) (.cons (.agg (.cons (.sc _) (.cons (.sc _) (.cons (.sc _) (.cons (.sc _) (.cons (.sc _) (.cons (.sc _) (.cons (.sc _) (.cons (.sc _) (.cons (.sc _) (.nil)))))))))) rfl) (.cons (.agg (.cons (.sc _) (.cons (.sc _) (.cons (.sc _) (.cons (.sc _) (.cons (.sc _) (.cons (.sc _) (.cons (.sc _) (.cons (.sc _) (.cons (.sc _) (.nil)))))))))) rfl) (.nil))) (.inr rfl) rfl ?_
            refine stB (cs' := [.sc (.int .i64 s5.2.1.1.Lo), .sc (.int .i64 s5.2.1.1.Hi), .sc (.bool s5.2.1.1.Unknown), .sc (.int .i64 s5.2.1.2.1.Lo), .sc (.int .i64 s5.2.1.2.1.Hi), .sc (.bool s5.2.1.2.1.Unknown), .sc (.int .i64 s5.2.1.2.2.Lo), .sc (.int .i64 s5.2.1.2.2.Hi), .sc (.bool s5.2.1.2.2.Unknown)]) rfl rfl rfl rfl ti38 rfl rfl rfl rfl rfl ?_
            refine stB (cs' := [.sc (.int .i64 r8.1.Lo), .sc (.int .i64 r8.1.Hi), .sc (.bool r8.1.Unknown), .sc (.int .i64 r8.2.1.Lo), .sc (.int .i64 r8.2.1.Hi), .sc (.bool r8.2.1.Unknown), .sc (.int .i64 r8.2.2.Lo), .sc (.int .i64 r8.2.2.Hi), .sc (.bool r8.2.2.Unknown)]) rfl rfl rfl rfl ti38 rfl rfl rfl rfl rfl ?_
            refine RunC.blk ?_
            refine RunC.fin ?_
            refine AWP.rgC 39 rfl rfl ?_
            refine pu (v := .sc _) rfl rfl (fun _ => rfl) ?_
            refine pu (v := .sc _) rfl rfl (fun _ => rfl) ?_
            refine RunC.fin ?_
            refine ⟨(s5.2.1, r8, w6 (s5.2.2 + 1)), (Option.some.inj hR).symm, ?_⟩
            exact Weak.turnL [(0, 0), (1, 0), (2, 0)] [] rfl rfl (tc (trP' rfl rfl rfl rfl) (tc (trP' rfl rfl rfl rfl) (tc (trP' rfl rfl rfl rfl) (tc (.sc _) (tc (.sc _) tn))))) (mc rfl (.box rfl (.cons (.sc _) (.cons (.sc _) (.cons (.sc _) (.cons (.sc _) (.cons (.sc _) (.cons (.sc _) (.cons (.sc _) (.cons (.sc _) (.cons (.sc _) (.nil)))))))))) rfl) (mc rfl (.box rfl (.cons (.sc _) (.cons (.sc _) (.cons (.sc _) (.cons (.sc _) (.cons (.sc _) (.cons (.sc _) (.cons (.sc _) (.cons (.sc _) (.cons (.sc _) (.nil)))))))))) rfl) (mc rfl (.box rfl (.cons (.sc _) (.cons (.sc _) (.cons (.sc _) (.cons (.sc _) (.cons (.sc _) (.cons (.sc _) (.cons (.sc _) (.cons (.sc _) (.cons (.sc _) (.nil)))))))))) rfl) mn)))
          · refine AWP.exit ?_
            refine exT ?_
            refine exT ?_
            refine exH (skT ?_)
            refine ⟨s5.2.1, (Option.some.inj hR).symm, ?_⟩
            exact Weak.turnL [(1, 0), (2, 0)] [] rfl rfl (tc (trP' rfl rfl rfl rfl) (tc (trP' rfl rfl rfl rfl) tn)) (mc rfl (.box rfl (.cons (.sc _) (.cons (.sc _) (.cons (.sc _) (.cons (.sc _) (.cons (.sc _) (.cons (.sc _) (.cons (.sc _) (.cons (.sc _) (.cons (.sc _) (.nil)))))))))) rfl) (mc rfl (.box rfl (.cons (.sc _) (.cons (.sc _) (.cons (.sc _) (.cons (.sc _) (.cons (.sc _) (.cons (.sc _) (.cons (.sc _) (.cons (.sc _) (.cons (.sc _) (.nil)))))))))) rfl) mn))
        · refine skT ?_
          refine AWP.sq ?_
          refine AWP.rgC 14 rfl rfl ?_
          refine ldB (v := .agg _) rfl rfl rfl rfl ti38 rfl rfl ?_
          refine stB (cs' := [.sc (.int .i64 z6.1.Lo), .sc (.int .i64 z6.1.Hi), .sc (.bool z6.1.Unknown), .sc (.int .i64 z6.2.1.Lo), .sc (.int .i64 z6.2.1.Hi), .sc (.bool z6.2.1.Unknown), .sc (.int .i64 z6.2.2.Lo), .sc (.int .i64 z6.2.2.Hi), .sc (.bool z6.2.2.Unknown)]) rfl rfl rfl rfl ti38 rfl rfl rfl rfl rfl ?_
          refine pu (v := .sc _) rfl rfl (fun _ => rfl) ?_
          refine RunC.fin ?_
          refine AWP.ret ?_
          have hR := Option.some.inj hR; subst hR
          exact hQ _ _ (LS.mk [(6, .ptr 0 0 0), (7, .sc (.int .i64 0))] (lblks 0 [boxB (α := Bound × Bound × Bound) true z6]) 1) (.tup [aggV (α := Bound × Bound × Bound) true z6, .sc (.int .i64 0)]) [] (.inr rfl) (Weak.turnL [(1, 0)] [] rfl rfl (tc (trP' rfl rfl rfl rfl) (tc (.sc _) tn)) (mc rfl (.box rfl (.cons (.sc _) (.cons (.sc _) (.cons (.sc _) (.cons (.sc _) (.cons (.sc _) (.cons (.sc _) (.cons (.sc _) (.cons (.sc _) (.cons (.sc _) (.nil)))))))))) rfl) mn)) (ro2 (rvC (v := aggV (α := Bound × Bound × Bound) true z6) rfl rfl ti38 rfl) (rvT (v := .sc (.int .i64 0)) rfl)) rfl rfl (.tup (.cons ldA (.cons (.sc _) .nil))) pn
      · refine AWP.skip ?_
        refine skT ?_
        refine AWP.sq ?_
        refine AWP.sq ?_
        refine AWP.rgC 19 rfl rfl ?_
        refine pu (v := .sc _) rfl rfl (fun _ => rfl) ?_
        refine pu (v := .sc _) rfl rfl (fun _ => rfl) ?_
        refine RunC.fin ?_
        refine AWP.loopJ (fun s9 : (Bound × Bound × Bound) × (Bound × Bound × Bound) × Int => LS.mk [(3, .ptr 0 0 0), (4, .ptr 1 0 0), (6, .ptr 2 0 0), (22, .sc (.int .i64 days)), (23, .sc (.int .i64 s9.2.2))] (lblks 0 [boxB (α := Bound × Bound × Bound) true s9.1, boxB (α := Bound × Bound × Bound) true s9.2.1, boxB (α := Bound × Bound × Bound) true (Bound.mk 0 0 false, Bound.mk 0 0 false, Bound.mk 0 0 false)]) 3) (fun z10 : (Bound × Bound × Bound) => LS.mk [(4, .ptr 0 0 0), (6, .ptr 1 0 0)] (lblks 0 [boxB (α := Bound × Bound × Bound) true z10, boxB (α := Bound × Bound × Bound) true (Bound.mk 0 0 false, Bound.mk 0 0 false, Bound.mk 0 0 false)]) 2) (predict_Ahead.l2 days) hR (s0 := (was, here, 0)) (Weak.turnL [(0, 0), (1, 0), (2, 0)] [] rfl rfl (tc (trP' rfl rfl rfl rfl) (tc (trP' rfl rfl rfl rfl) (tc (trP' rfl rfl rfl rfl) (tc (.sc _) (tc (.sc _) tn))))) (mc rfl (.box rfl (.cons (.sc _) (.cons (.sc _) (.cons (.sc _) (.cons (.sc _) (.cons (.sc _) (.cons (.sc _) (.cons (.sc _) (.cons (.sc _) (.cons (.sc _) (.nil)))))))))) rfl) (mc rfl (.box rfl (.cons (.sc _) (.cons (.sc _) (.cons (.sc _) (.cons (.sc _) (.cons (.sc _) (.cons (.sc _) (.cons (.sc _) (.cons (.sc _) (.cons (.sc _) (.nil)))))))))) rfl) (mc rfl (.box rfl (.cons (.sc _) (.cons (.sc _) (.cons (.sc _) (.cons (.sc _) (.cons (.sc _) (.cons (.sc _) (.cons (.sc _) (.cons (.sc _) (.cons (.sc _) (.nil)))))))))) rfl) mn)))) (fun s9 o9 hR => ?_) fun z10 hR => ?_
        · unfold predict_Ahead.l2 at hR
          refine AWP.sq ?_
          refine AWP.rgC 7 rfl rfl ?_
          refine pu (v := .sc _) rfl rfl (fun _ => rfl) ?_
          refine RunC.fin ?_
          refine AWP.sq ?_
          refine AWP.cd hR rfl (fun h11 hR => ?_) fun h11 hR => ?_
          · refine AWP.skip ?_
            refine skT ?_
            refine AWP.sq ?_
            refine AWP.block ?_
            refine AWP.rgD 31 [0, 0, 0, 6, 15, 31] ⟨[], [some [1], some [0], some [1], none, some [0], some [1]]⟩ hmix (by kernel_rfl) rfl rfl ?_
            refine ldB (v := .agg _) rfl rfl rfl rfl ti38 rfl rfl ?_
            refine ldB (v := .agg _) rfl rfl rfl rfl ti38 rfl rfl ?_
            refine ldB (v := .agg _) rfl rfl rfl rfl ti38 rfl rfl ?_
            obtain ⟨r12, hr12, hR⟩ := bindE hR
            refine cls [] rfl rfl cb24 (ok24 s9.1 s9.2.1 _ hr12) (.cons (.agg (.cons (.sc _) (.cons (.sc _) (.cons (.sc _) (.cons (.sc _) (.cons (.sc _) (.cons (.sc _) (.cons (.sc _) (.cons (.sc _) (.cons (.sc _) (.nil)))))))))) rfl) (.cons (.agg (.cons (.sc _) (.cons (.sc _) (.cons (.sc _) (.cons (.sc _) (.cons (.sc _) (.cons (.sc _) (.cons (.sc _) (.cons (.sc _) (.cons (.sc _) (.nil)))))))))) rfl) (.nil))) (.inr rfl) rfl ?_
            refine stB (cs' := [.sc (.int .i64 s9.2.1.1.Lo), .sc (.int .i64 s9.2.1.1.Hi), .sc (.bool s9.2.1.1.Unknown), .sc (.int .i64 s9.2.1.2.1.Lo), .sc (.int .i64 s9.2.1.2.1.Hi), .sc (.bool s9.2.1.2.1.Unknown), .sc (.int .i64 s9.2.1.2.2.Lo), .sc (.int .i64 s9.2.1.2.2.Hi), .sc (.bool s9.2.1.2.2.Unknown)]) rfl rfl rfl rfl ti38 rfl rfl rfl rfl rfl ?_
            refine stB (cs' := [.sc (.int .i64 r12.1.Lo), .sc (.int .i64 r12.1.Hi), .sc (.bool r12.1.Unknown), .sc (.int .i64 r12.2.1.Lo), .sc (.int .i64 r12.2.1.Hi), .sc (.bool r12.2.1.Unknown), .sc (.int .i64 r12.2.2.Lo), .sc (.int .i64 r12.2.2.Hi), .sc (.bool r12.2.2.Unknown)]) rfl rfl rfl rfl ti38 rfl rfl rfl rfl rfl ?_
            refine RunC.blk ?_
            refine RunC.fin ?_
            refine AWP.rgC 39 rfl rfl ?_
            refine pu (v := .sc _) rfl rfl (fun _ => rfl) ?_
            refine pu (v := .sc _) rfl rfl (fun _ => rfl) ?_
            refine RunC.fin ?_
            refine ⟨(s9.2.1, r12, w6 (s9.2.2 + 1)), (Option.some.inj hR).symm, ?_⟩
            exact Weak.turnL [(0, 0), (1, 0), (2, 0)] [] rfl rfl (tc (trP' rfl rfl rfl rfl) (tc (trP' rfl rfl rfl rfl) (tc (trP' rfl rfl rfl rfl) (tc (.sc _) (tc (.sc _) tn))))) (mc rfl (.box rfl (.cons (.sc _) (.cons (.sc _) (.cons (.sc _) (.cons (.sc _) (.cons (.sc _) (.cons (.sc _) (.cons (.sc _) (.cons (.sc _) (.cons (.sc _) (.nil)))))))))) rfl) (mc rfl (.box rfl (.cons (.sc _) (.cons (.sc _) (.cons (.sc _) (.cons (.sc _) (.cons (.sc _) (.cons (.sc _) (.cons (.sc _) (.cons (.sc _) (.cons (.sc _) (.nil)))))))))) rfl) (mc rfl (.box rfl (.cons (.sc _) (.cons (.sc _) (.cons (.sc _) (.cons (.sc _) (.cons (.sc _) (.cons (.sc _) (.cons (.sc _) (.cons (.sc _) (.cons (.sc _) (.nil)))))))))) rfl) mn)))
          · refine AWP.exit ?_
            refine exT ?_
            refine exT ?_
            refine exH (skT ?_)
            refine ⟨s9.2.1, (Option.some.inj hR).symm, ?_⟩
            exact Weak.turnL [(1, 0), (2, 0)] [] rfl rfl (tc (trP' rfl rfl rfl rfl) (tc (trP' rfl rfl rfl rfl) tn)) (mc rfl (.box rfl (.cons (.sc _) (.cons (.sc _) (.cons (.sc _) (.cons (.sc _) (.cons (.sc _) (.cons (.sc _) (.cons (.sc _) (.cons (.sc _) (.cons (.sc _) (.nil)))))))))) rfl) (mc rfl (.box rfl (.cons (.sc _) (.cons (.sc _) (.cons (.sc _) (.cons (.sc _) (.cons (.sc _) (.cons (.sc _) (.cons (.sc _) (.cons (.sc _) (.cons (.sc _) (.nil)))))))))) rfl) mn))
        · refine skT ?_
          refine AWP.sq ?_
          refine AWP.rgC 14 rfl rfl ?_
          refine ldB (v := .agg _) rfl rfl rfl rfl ti38 rfl rfl ?_
          refine stB (cs' := [.sc (.int .i64 z10.1.Lo), .sc (.int .i64 z10.1.Hi), .sc (.bool z10.1.Unknown), .sc (.int .i64 z10.2.1.Lo), .sc (.int .i64 z10.2.1.Hi), .sc (.bool z10.2.1.Unknown), .sc (.int .i64 z10.2.2.Lo), .sc (.int .i64 z10.2.2.Hi), .sc (.bool z10.2.2.Unknown)]) rfl rfl rfl rfl ti38 rfl rfl rfl rfl rfl ?_
          refine pu (v := .sc _) rfl rfl (fun _ => rfl) ?_
          refine RunC.fin ?_
          refine AWP.ret ?_
          have hR := Option.some.inj hR; subst hR
          exact hQ _ _ (LS.mk [(6, .ptr 0 0 0), (7, .sc (.int .i64 0))] (lblks 0 [boxB (α := Bound × Bound × Bound) true z10]) 1) (.tup [aggV (α := Bound × Bound × Bound) true z10, .sc (.int .i64 0)]) [] (.inr rfl) (Weak.turnL [(1, 0)] [] rfl rfl (tc (trP' rfl rfl rfl rfl) (tc (.sc _) tn)) (mc rfl (.box rfl (.cons (.sc _) (.cons (.sc _) (.cons (.sc _) (.cons (.sc _) (.cons (.sc _) (.cons (.sc _) (.cons (.sc _) (.cons (.sc _) (.cons (.sc _) (.nil)))))))))) rfl) mn)) (ro2 (rvC (v := aggV (α := Bound × Bound × Bound) true z10) rfl rfl ti38 rfl) (rvT (v := .sc (.int .i64 0)) rfl)) rfl rfl (.tup (.cons ldA (.cons (.sc _) .nil))) pn
theorem ok10 (b : Body) (day : Int) (r : Vec × Vec × Int) (hR : sky_Path b day = some r) : FnP Try.prog 10 [aggV false b, .sc (.int .i64 day)] (.tup [aggV (α := Vec) true r.1, aggV (α := Vec) true r.2.1, .sc (.int .i64 r.2.2)]) := by
  refine fnP_of (FnX.walk Try.func10 rfl 73 0 (by simp [Try.ntmps10]) rfl fun W S F Q hQ => ?_)
  unfold sky_Path at hR
  refine AWP.sq ?_
  refine AWP.rgC 16 rfl rfl ?_
  refine bx (cs := _) 0 rfl rfl rfl ?_
  refine al (cs := [.sc (.int .i64 0), .sc (.int .i64 0), .sc (.int .i64 0)]) 4 rfl rfl ti27 rfl rfl ?_
  refine al (cs := [.sc (.int .i64 0), .sc (.int .i64 0), .sc (.int .i64 0)]) 8 rfl rfl ti27 rfl rfl ?_
  refine pu (v := .sc _) rfl rfl (fun _ => rfl) ?_
  refine RunC.fin ?_
  refine AWP.sq ?_
  refine AWP.joinX (fun z1 : Bool => LS.mk [(1, .sc (.int .i64 day)), (2, .ptr 0 0 0), (4, .ptr 1 0 0), (5, .ptr 2 0 0), (6, .sc (.int .i64 0)), (23, .sc (.bool z1))] (lblks 0 [boxB (α := Body) true b, boxB (α := Vec) true (Vec.mk 0 0 0), boxB (α := Vec) true (Vec.mk 0 0 0)]) 3) hR (fun o1 hR => ?_) fun z1 hR => ?_
  · refine AWP.rgC 60 rfl rfl ?_
    refine pu (v := .sc _) rfl rfl (fun _ => rfl) ?_
    refine pu (v := .sc _) rfl rfl (fun _ => rfl) ?_
    refine pu (v := .sc _) rfl rfl (fun _ => rfl) ?_
    refine brR hR (fun h2 hR => ?_) fun h2 hR => ?_
    · refine sk (skW rfl rfl rfl h2) ?_
      refine sk (skW rfl rfl rfl h2) ?_
      refine pkT (v := .sc (.bool true)) rfl rfl h2 rfl ?_
      refine pu (v := .sc _) rfl rfl (fun _ => rfl) ?_
      refine sk (skW rfl rfl rfl rfl) ?_
      refine sk (skW rfl rfl rfl rfl) ?_
      refine sk (skW rfl rfl rfl rfl) ?_
      refine pkT (v := .sc (.bool true)) rfl rfl rfl rfl ?_
      refine RunC.fin ?_
      have hR := Option.some.inj hR; subst hR
      exact Weak.turnL [(0, 0), (4, 0), (8, 0)] [] rfl rfl (tc (.sc _) (tc (trP' rfl rfl rfl rfl) (tc (trP' rfl rfl rfl rfl) (tc (trP' rfl rfl rfl rfl) (tc (.sc _) (tc (.sc _) tn)))))) (mc rfl (.box rfl (.cons (.sc _) (.cons (.sc _) (.cons (.sc _) (.cons (.sc _) (.cons (.sc _) (.cons (.sc _) (.cons (.sc _) (.cons (.sc _) (.nil))))))))) rfl) (mc rfl (.box rfl (.cons (.sc _) (.cons (.sc _) (.cons (.sc _) (.nil)))) rfl) (mc rfl (.box rfl (.cons (.sc _) (.cons (.sc _) (.cons (.sc _) (.nil)))) rfl) mn)))
    · refine pu (v := .sc _) (wtG rfl rfl rfl h2) rfl (fun _ => rfl) ?_
      refine pu (v := .sc _) (wtG rfl rfl rfl h2) rfl (fun _ => rfl) ?_
      refine pkF (v := .sc (.bool (decide (day > 400)))) rfl rfl h2 rfl ?_
      refine pu (v := .sc _) rfl rfl (fun _ => rfl) ?_
      refine brR hR (fun h3 hR => ?_) fun h3 hR => ?_
      · refine sk (skW rfl rfl rfl h3) ?_
        refine sk (skW rfl rfl rfl h3) ?_
        refine sk (skW rfl rfl rfl h3) ?_
        refine pkT (v := .sc (.bool true)) rfl rfl h3 rfl ?_
        refine RunC.fin ?_
        have hR := Option.some.inj hR; subst hR
        exact Weak.turnL [(0, 0), (4, 0), (8, 0)] [] rfl rfl (tc (.sc _) (tc (trP' rfl rfl rfl rfl) (tc (trP' rfl rfl rfl rfl) (tc (trP' rfl rfl rfl rfl) (tc (.sc _) (tc (.sc _) tn)))))) (mc rfl (.box rfl (.cons (.sc _) (.cons (.sc _) (.cons (.sc _) (.cons (.sc _) (.cons (.sc _) (.cons (.sc _) (.cons (.sc _) (.cons (.sc _) (.nil))))))))) rfl) (mc rfl (.box rfl (.cons (.sc _) (.cons (.sc _) (.cons (.sc _) (.nil)))) rfl) (mc rfl (.box rfl (.cons (.sc _) (.cons (.sc _) (.cons (.sc _) (.nil)))) rfl) mn)))
      · refine ldB (v := .agg _) (wtG rfl rfl rfl h3) rfl rfl rfl ti30 rfl rfl ?_
        obtain ⟨r4, hr4, hR⟩ := bindE hR
        refine cls [] (wtG rfl rfl rfl h3) rfl cb22 (ok22 b _ hr4) (.cons (.agg (.cons (.sc _) (.cons (.sc _) (.cons (.sc _) (.cons (.sc _) (.cons (.sc _) (.cons (.sc _) (.cons (.sc _) (.cons (.sc _) (.nil))))))))) rfl) (.nil)) (.inr rfl) rfl ?_
        refine pu (v := .sc _) (wtG rfl rfl rfl h3) rfl (fun _ => rfl) ?_
        refine pkF (v := .sc (.bool (!r4))) rfl rfl h3 rfl ?_
        refine RunC.fin ?_
        have hR := Option.some.inj hR; subst hR
        exact Weak.turnL [(0, 0), (4, 0), (8, 0)] [] rfl rfl (tc (.sc _) (tc (trP' rfl rfl rfl rfl) (tc (trP' rfl rfl rfl rfl) (tc (trP' rfl rfl rfl rfl) (tc (.sc _) (tc (.sc _) tn)))))) (mc rfl (.box rfl (.cons (.sc _) (.cons (.sc _) (.cons (.sc _) (.cons (.sc _) (.cons (.sc _) (.cons (.sc _) (.cons (.sc _) (.cons (.sc _) (.nil))))))))) rfl) (mc rfl (.box rfl (.cons (.sc _) (.cons (.sc _) (.cons (.sc _) (.nil)))) rfl) (mc rfl (.box rfl (.cons (.sc _) (.cons (.sc _) (.cons (.sc _) (.nil)))) rfl) mn)))
  · refine AWP.cd hR rfl (fun h5 hR => ?_) fun h5 hR => ?_
    · refine AWP.sq ?_
      refine AWP.rgC 23 rfl rfl ?_
      refine bu (cs := [.sc (.int .i64 0), .sc (.int .i64 0), .sc (.int .i64 0)]) rfl bt27 rfl ?_
      refine bu (cs := [.sc (.int .i64 0), .sc (.int .i64 0), .sc (.int .i64 0)]) rfl bt27 rfl ?_
      refine stB (cs' := [.sc (.int .i64 0), .sc (.int .i64 0), .sc (.int .i64 0)]) rfl rfl rfl rfl ti27 rfl rfl rfl rfl rfl ?_
      refine stB (cs' := [.sc (.int .i64 0), .sc (.int .i64 0), .sc (.int .i64 0)]) rfl rfl rfl rfl ti27 rfl rfl rfl rfl rfl ?_
      refine pu (v := .sc _) rfl rfl (fun _ => rfl) ?_
      refine RunC.fin ?_
      refine AWP.ret ?_
      refine rtT ?_
      have hR := Option.some.inj hR; subst hR
      exact hQ _ _ (LS.mk [(4, .ptr 0 0 0), (5, .ptr 1 0 0), (6, .sc (.int .i64 4))] (lblks 0 [boxB (α := Vec) true (Vec.mk 0 0 0), boxB (α := Vec) true (Vec.mk 0 0 0)]) 2) (.tup [aggV (α := Vec) true (Vec.mk 0 0 0), aggV (α := Vec) true (Vec.mk 0 0 0), .sc (.int .i64 4)]) [] (.inr rfl) (Weak.turnL [(1, 0), (2, 0)] [] rfl rfl (tc (trP' rfl rfl rfl rfl) (tc (trP' rfl rfl rfl rfl) (tc (.sc _) tn))) (mc rfl (.box rfl (.cons (.sc _) (.cons (.sc _) (.cons (.sc _) (.nil)))) rfl) (mc rfl (.box rfl (.cons (.sc _) (.cons (.sc _) (.cons (.sc _) (.nil)))) rfl) mn))) (ro3 (rvC (v := aggV (α := Vec) true (Vec.mk 0 0 0)) rfl rfl ti27 rfl) (rvC (v := aggV (α := Vec) true (Vec.mk 0 0 0)) rfl rfl ti27 rfl) (rvT (v := .sc (.int .i64 4)) rfl)) rfl rfl (.tup (.cons ldA (.cons ldA (.cons (.sc _) .nil)))) pn
    · refine AWP.skip ?_
      refine skT ?_
      refine AWP.sq ?_
      refine AWP.rgD 27 [0, 1, 0, 4, 3, 31] ⟨[], [none, some [0], none, some [0], some [1], some [2]]⟩ hmix (by kernel_rfl) rfl rfl ?_
      refine fa rfl rfl ti30 rfl rfl ti27 rfl ?_
      refine ldB (v := .agg _) rfl rfl rfl rfl ti27 rfl rfl ?_
      refine fa rfl rfl ti30 rfl rfl ti27 rfl ?_
      refine ldB (v := .agg _) rfl rfl rfl rfl ti27 rfl rfl ?_
      refine stB (cs' := [.sc (.int .i64 b.Was.X), .sc (.int .i64 b.Was.Y), .sc (.int .i64 b.Was.Z)]) rfl rfl rfl rfl ti27 rfl rfl rfl rfl rfl ?_
      refine stB (cs' := [.sc (.int .i64 b.Here.X), .sc (.int .i64 b.Here.Y), .sc (.int .i64 b.Here.Z)]) rfl rfl rfl rfl ti27 rfl rfl rfl rfl rfl ?_
      refine RunC.fin ?_
      refine AWP.sq ?_
      refine AWP.sq ?_
      refine AWP.rgC 35 rfl rfl ?_
      refine pu (v := .sc _) rfl rfl (fun _ => rfl) ?_
      refine pu (v := .sc _) rfl rfl (fun _ => rfl) ?_
      refine RunC.fin ?_
      refine AWP.loopJ (fun s6 : Vec × Vec × Int × Int => LS.mk [(1, .sc (.int .i64 day)), (4, .ptr 0 0 0), (5, .ptr 1 0 0), (6, .sc (.int .i64 s6.2.2.1)), (7, .sc (.int .i64 s6.2.2.2))] (lblks 0 [boxB (α := Vec) true s6.1, boxB (α := Vec) true s6.2.1]) 2) (fun z7 : Vec × Vec × Int => LS.mk [(1, .sc (.int .i64 day)), (4, .ptr 0 0 0), (5, .ptr 1 0 0), (6, .sc (.int .i64 z7.2.2))] (lblks 0 [boxB (α := Vec) true z7.1, boxB (α := Vec) true z7.2.1]) 2) sky_Path.l1 hR (s0 := (b.Was, b.Here, 0, day)) (Weak.turnL [(1, 0), (2, 0)] [] rfl rfl (tc (.sc _) (tc (trP' rfl rfl rfl rfl) (tc (trP' rfl rfl rfl rfl) (tc (.sc _) (tc (.sc _) tn))))) (mc rfl (.box rfl (.cons (.sc _) (.cons (.sc _) (.cons (.sc _) (.nil)))) rfl) (mc rfl (.box rfl (.cons (.sc _) (.cons (.sc _) (.cons (.sc _) (.nil)))) rfl) mn))) (fun s6 o6 hR => ?_) fun z7 hR => ?_
      · unfold sky_Path.l1 at hR
        refine AWP.sq ?_
        refine AWP.joinX (fun z8 : Bool => LS.mk [(1, .sc (.int .i64 day)), (4, .ptr 0 0 0), (5, .ptr 1 0 0), (6, .sc (.int .i64 s6.2.2.1)), (7, .sc (.int .i64 s6.2.2.2)), (36, .sc (.bool z8))] (lblks 0 [boxB (α := Vec) true s6.1, boxB (α := Vec) true s6.2.1]) 2) hR (fun o8 hR => ?_) fun z8 hR => ?_
        · refine AWP.rgC 26 rfl rfl ?_
          refine pu (v := .sc _) rfl rfl (fun _ => rfl) ?_
          refine pu (v := .sc _) rfl rfl (fun _ => rfl) ?_
          refine pu (v := .sc _) rfl rfl (fun _ => rfl) ?_
          refine brR hR (fun h9 hR => ?_) fun h9 hR => ?_
          · refine pu (v := .sc _) (wtG rfl rfl rfl h9) rfl (fun _ => rfl) ?_
            refine pu (v := .sc _) (wtG rfl rfl rfl h9) rfl (fun _ => rfl) ?_
            refine pkT (v := .sc (.bool (s6.2.2.1 == 0))) rfl rfl h9 rfl ?_
            refine RunC.fin ?_
            have hR := Option.some.inj hR; subst hR
            exact Weak.turnL [(0, 0), (1, 0)] [] rfl rfl (tc (.sc _) (tc (trP' rfl rfl rfl rfl) (tc (trP' rfl rfl rfl rfl) (tc (.sc _) (tc (.sc _) (tc (.sc _) tn)))))) (mc rfl (.box rfl (.cons (.sc _) (.cons (.sc _) (.cons (.sc _) (.nil)))) rfl) (mc rfl (.box rfl (.cons (.sc _) (.cons (.sc _) (.cons (.sc _) (.nil)))) rfl) mn))
          · refine sk (skW rfl rfl rfl h9) ?_
            refine sk (skW rfl rfl rfl h9) ?_
            refine pkF (v := .sc (.bool false)) rfl rfl h9 rfl ?_
            refine RunC.fin ?_
            have hR := Option.some.inj hR; subst hR
            exact Weak.turnL [(0, 0), (1, 0)] [] rfl rfl (tc (.sc _) (tc (trP' rfl rfl rfl rfl) (tc (trP' rfl rfl rfl rfl) (tc (.sc _) (tc (.sc _) (tc (.sc _) tn)))))) (mc rfl (.box rfl (.cons (.sc _) (.cons (.sc _) (.cons (.sc _) (.nil)))) rfl) (mc rfl (.box rfl (.cons (.sc _) (.cons (.sc _) (.cons (.sc _) (.nil)))) rfl) mn))
        · refine AWP.cd hR rfl (fun h10 hR => ?_) fun h10 hR => ?_
          · refine AWP.skip ?_
            refine skT ?_
            refine AWP.sq ?_
            refine AWP.block ?_
            refine AWP.sq ?_
            refine AWP.rgC 38 rfl rfl ?_
            refine ldB (v := .agg _) rfl rfl rfl rfl ti27 rfl rfl ?_
            refine ldB (v := .agg _) rfl rfl rfl rfl ti27 rfl rfl ?_
            obtain ⟨r11, hr11, hR⟩ := bindE hR
            refine cls [] rfl rfl cb23 (ok23 s6.1 s6.2.1 _ hr11) (.cons (.agg (.cons (.sc _) (.cons (.sc _) (.cons (.sc _) (.nil)))) rfl) (.cons (.agg (.cons (.sc _) (.cons (.sc _) (.cons (.sc _) (.nil)))) rfl) (.nil))) (.inr rfl) rfl ?_
            refine pu (v := .tup _) rfl rfl (fun _ => rfl) ?_
            refine pu (v := .agg _) rfl rfl (fun _ => rfl) ?_
            refine pu (v := .sc _) rfl rfl (fun _ => rfl) ?_
            refine al (cs := [.sc (.int .i64 0), .sc (.int .i64 0), .sc (.int .i64 0)]) 26 rfl rfl ti27 rfl rfl ?_
            refine stB (cs' := [.sc (.int .i64 r11.1.X), .sc (.int .i64 r11.1.Y), .sc (.int .i64 r11.1.Z)]) rfl rfl rfl rfl ti27 rfl rfl rfl rfl rfl ?_
            refine pu (v := .sc _) rfl rfl (fun _ => rfl) ?_
            refine RunC.fin ?_
            refine AWP.rgD 62 [0, 0, 0, 1, 11, 31] ⟨[], [some [1], some [26], none, some [0], some [1], none]⟩ hmix (by kernel_rfl) rfl rfl ?_
            refine ldB (v := .agg _) rfl rfl rfl rfl ti27 rfl rfl ?_
            refine ldB (v := .agg _) rfl rfl rfl rfl ti27 rfl rfl ?_
            refine pu (v := .sc _) rfl rfl (fun _ => rfl) ?_
            refine stB (cs' := [.sc (.int .i64 s6.2.1.X), .sc (.int .i64 s6.2.1.Y), .sc (.int .i64 s6.2.1.Z)]) rfl rfl rfl rfl ti27 rfl rfl rfl rfl rfl ?_
            refine stB (cs' := [.sc (.int .i64 r11.1.X), .sc (.int .i64 r11.1.Y), .sc (.int .i64 r11.1.Z)]) rfl rfl rfl rfl ti27 rfl rfl rfl rfl rfl ?_
            refine pu (v := .sc _) rfl rfl (fun _ => rfl) ?_
            refine RunC.blk ?_
            refine RunC.fin ?_
            refine AWP.rgC 74 rfl rfl ?_
            refine pu (v := .sc _) rfl rfl (fun _ => rfl) ?_
            refine pu (v := .sc _) rfl rfl (fun _ => rfl) ?_
            refine pu (v := .sc _) rfl rfl (fun _ => rfl) ?_
            refine RunC.fin ?_
            refine ⟨(s6.2.1, r11.1, r11.2, w6 (s6.2.2.2 - 1)), (Option.some.inj hR).symm, ?_⟩
            exact Weak.turnL [(0, 0), (1, 0)] [] rfl rfl (tc (.sc _) (tc (trP' rfl rfl rfl rfl) (tc (trP' rfl rfl rfl rfl) (tc (.sc _) (tc (.sc _) tn))))) (mc rfl (.box rfl (.cons (.sc _) (.cons (.sc _) (.cons (.sc _) (.nil)))) rfl) (mc rfl (.box rfl (.cons (.sc _) (.cons (.sc _) (.cons (.sc _) (.nil)))) rfl) mn))
          · refine AWP.exit ?_
            refine exT ?_
            refine exT ?_
            refine exH (skT ?_)
            refine ⟨(s6.1, s6.2.1, s6.2.2.1), (Option.some.inj hR).symm, ?_⟩
            exact Weak.turnL [(0, 0), (1, 0)] [] rfl rfl (tc (.sc _) (tc (trP' rfl rfl rfl rfl) (tc (trP' rfl rfl rfl rfl) (tc (.sc _) tn)))) (mc rfl (.box rfl (.cons (.sc _) (.cons (.sc _) (.cons (.sc _) (.nil)))) rfl) (mc rfl (.box rfl (.cons (.sc _) (.cons (.sc _) (.cons (.sc _) (.nil)))) rfl) mn))
      · refine skT ?_
        refine AWP.sq ?_
        refine AWP.sq ?_
        refine AWP.rgC 10 rfl rfl ?_
        refine pu (v := .sc _) rfl rfl (fun _ => rfl) ?_
        refine pu (v := .sc _) rfl rfl (fun _ => rfl) ?_
        refine RunC.fin ?_
        refine AWP.loopJ (fun s12 : Vec × Vec × Int × Int => LS.mk [(4, .ptr 0 0 0), (5, .ptr 1 0 0), (6, .sc (.int .i64 s12.2.2.1)), (10, .sc (.int .i64 s12.2.2.2))] (lblks 0 [boxB (α := Vec) true s12.1, boxB (α := Vec) true s12.2.1]) 2) (fun z13 : Vec × Vec × Int => LS.mk [(4, .ptr 0 0 0), (5, .ptr 1 0 0), (6, .sc (.int .i64 z13.2.2))] (lblks 0 [boxB (α := Vec) true z13.1, boxB (α := Vec) true z13.2.1]) 2) sky_Path.l2 hR (s0 := (z7.1, z7.2.1, z7.2.2, day)) (Weak.turnL [(0, 0), (1, 0)] [] rfl rfl (tc (trP' rfl rfl rfl rfl) (tc (trP' rfl rfl rfl rfl) (tc (.sc _) (tc (.sc _) tn)))) (mc rfl (.box rfl (.cons (.sc _) (.cons (.sc _) (.cons (.sc _) (.nil)))) rfl) (mc rfl (.box rfl (.cons (.sc _) (.cons (.sc _) (.cons (.sc _) (.nil)))) rfl) mn))) (fun s12 o12 hR => ?_) fun z13 hR => ?_
        · unfold sky_Path.l2 at hR
          refine AWP.sq ?_
          refine AWP.joinX (fun z14 : Bool => LS.mk [(4, .ptr 0 0 0), (5, .ptr 1 0 0), (6, .sc (.int .i64 s12.2.2.1)), (10, .sc (.int .i64 s12.2.2.2)), (54, .sc (.bool z14))] (lblks 0 [boxB (α := Vec) true s12.1, boxB (α := Vec) true s12.2.1]) 2) hR (fun o14 hR => ?_) fun z14 hR => ?_
          · refine AWP.rgC 26 rfl rfl ?_
            refine pu (v := .sc _) rfl rfl (fun _ => rfl) ?_
            refine pu (v := .sc _) rfl rfl (fun _ => rfl) ?_
            refine pu (v := .sc _) rfl rfl (fun _ => rfl) ?_
            refine brR hR (fun h15 hR => ?_) fun h15 hR => ?_
            · refine pu (v := .sc _) (wtG rfl rfl rfl h15) rfl (fun _ => rfl) ?_
              refine pu (v := .sc _) (wtG rfl rfl rfl h15) rfl (fun _ => rfl) ?_
              refine pkT (v := .sc (.bool (s12.2.2.1 == 0))) rfl rfl h15 rfl ?_
              refine RunC.fin ?_
              have hR := Option.some.inj hR; subst hR
              exact Weak.turnL [(0, 0), (1, 0)] [] rfl rfl (tc (trP' rfl rfl rfl rfl) (tc (trP' rfl rfl rfl rfl) (tc (.sc _) (tc (.sc _) (tc (.sc _) tn))))) (mc rfl (.box rfl (.cons (.sc _) (.cons (.sc _) (.cons (.sc _) (.nil)))) rfl) (mc rfl (.box rfl (.cons (.sc _) (.cons (.sc _) (.cons (.sc _) (.nil)))) rfl) mn))
            · refine sk (skW rfl rfl rfl h15) ?_
              refine sk (skW rfl rfl rfl h15) ?_
              refine pkF (v := .sc (.bool false)) rfl rfl h15 rfl ?_
              refine RunC.fin ?_
              have hR := Option.some.inj hR; subst hR
              exact Weak.turnL [(0, 0), (1, 0)] [] rfl rfl (tc (trP' rfl rfl rfl rfl) (tc (trP' rfl rfl rfl rfl) (tc (.sc _) (tc (.sc _) (tc (.sc _) tn))))) (mc rfl (.box rfl (.cons (.sc _) (.cons (.sc _) (.cons (.sc _) (.nil)))) rfl) (mc rfl (.box rfl (.cons (.sc _) (.cons (.sc _) (.cons (.sc _) (.nil)))) rfl) mn))
          · refine AWP.cd hR rfl (fun h16 hR => ?_) fun h16 hR => ?_
            · refine AWP.skip ?_
              refine skT ?_
              refine AWP.sq ?_
              refine AWP.block ?_
              refine AWP.sq ?_
              refine AWP.rgC 38 rfl rfl ?_
              refine ldB (v := .agg _) rfl rfl rfl rfl ti27 rfl rfl ?_
              refine ldB (v := .agg _) rfl rfl rfl rfl ti27 rfl rfl ?_
              obtain ⟨r17, hr17, hR⟩ := bindE hR
              refine cls [] rfl rfl cb23 (ok23 s12.2.1 s12.1 _ hr17) (.cons (.agg (.cons (.sc _) (.cons (.sc _) (.cons (.sc _) (.nil)))) rfl) (.cons (.agg (.cons (.sc _) (.cons (.sc _) (.cons (.sc _) (.nil)))) rfl) (.nil))) (.inr rfl) rfl ?_
              refine pu (v := .tup _) rfl rfl (fun _ => rfl) ?_
              refine pu (v := .agg _) rfl rfl (fun _ => rfl) ?_
              refine pu (v := .sc _) rfl rfl (fun _ => rfl) ?_
              refine al (cs := [.sc (.int .i64 0), .sc (.int .i64 0), .sc (.int .i64 0)]) 26 rfl rfl ti27 rfl rfl ?_
              refine stB (cs' := [.sc (.int .i64 r17.1.X), .sc (.int .i64 r17.1.Y), .sc (.int .i64 r17.1.Z)]) rfl rfl rfl rfl ti27 rfl rfl rfl rfl rfl ?_
              refine pu (v := .sc _) rfl rfl (fun _ => rfl) ?_
              refine RunC.fin ?_
              refine AWP.rgC 62 rfl rfl ?_
              refine ldB (v := .agg _) rfl rfl rfl rfl ti27 rfl rfl ?_
              refine ldB (v := .agg _) rfl rfl rfl rfl ti27 rfl rfl ?_
              refine pu (v := .sc _) rfl rfl (fun _ => rfl) ?_
              refine stB (cs' := [.sc (.int .i64 r17.1.X), .sc (.int .i64 r17.1.Y), .sc (.int .i64 r17.1.Z)]) rfl rfl rfl rfl ti27 rfl rfl rfl rfl rfl ?_
              refine stB (cs' := [.sc (.int .i64 s12.1.X), .sc (.int .i64 s12.1.Y), .sc (.int .i64 s12.1.Z)]) rfl rfl rfl rfl ti27 rfl rfl rfl rfl rfl ?_
              refine pu (v := .sc _) rfl rfl (fun _ => rfl) ?_
              refine RunC.blk ?_
              refine RunC.fin ?_
              refine AWP.rgC 74 rfl rfl ?_
              refine pu (v := .sc _) rfl rfl (fun _ => rfl) ?_
              refine pu (v := .sc _) rfl rfl (fun _ => rfl) ?_
              refine pu (v := .sc _) rfl rfl (fun _ => rfl) ?_
              refine RunC.fin ?_
              refine ⟨(r17.1, s12.1, r17.2, w6 (s12.2.2.2 + 1)), (Option.some.inj hR).symm, ?_⟩
              exact Weak.turnL [(0, 0), (1, 0)] [] rfl rfl (tc (trP' rfl rfl rfl rfl) (tc (trP' rfl rfl rfl rfl) (tc (.sc _) (tc (.sc _) tn)))) (mc rfl (.box rfl (.cons (.sc _) (.cons (.sc _) (.cons (.sc _) (.nil)))) rfl) (mc rfl (.box rfl (.cons (.sc _) (.cons (.sc _) (.cons (.sc _) (.nil)))) rfl) mn))
            · refine AWP.exit ?_
              refine exT ?_
              refine exT ?_
              refine exH (skT ?_)
              refine ⟨(s12.1, s12.2.1, s12.2.2.1), (Option.some.inj hR).symm, ?_⟩
              exact Weak.turnL [(0, 0), (1, 0)] [] rfl rfl (tc (trP' rfl rfl rfl rfl) (tc (trP' rfl rfl rfl rfl) (tc (.sc _) tn))) (mc rfl (.box rfl (.cons (.sc _) (.cons (.sc _) (.cons (.sc _) (.nil)))) rfl) (mc rfl (.box rfl (.cons (.sc _) (.cons (.sc _) (.cons (.sc _) (.nil)))) rfl) mn))
        · refine skT ?_
          refine AWP.sq ?_
          refine AWP.sq ?_
          refine AWP.rgC 10 rfl rfl ?_
          refine pu (v := .sc _) rfl rfl (fun _ => rfl) ?_
          refine pu (v := .sc _) rfl rfl (fun _ => rfl) ?_
          refine RunC.fin ?_
          refine AWP.cd hR rfl (fun h18 hR => ?_) fun h18 hR => ?_
          · refine AWP.sq ?_
            refine AWP.rgC 34 rfl rfl ?_
            refine bu (cs := [.sc (.int .i64 0), .sc (.int .i64 0), .sc (.int .i64 0)]) rfl bt27 rfl ?_
            refine bu (cs := [.sc (.int .i64 0), .sc (.int .i64 0), .sc (.int .i64 0)]) rfl bt27 rfl ?_
            refine pu (v := .sc _) rfl rfl (fun _ => rfl) ?_
            refine stB (cs' := [.sc (.int .i64 0), .sc (.int .i64 0), .sc (.int .i64 0)]) rfl rfl rfl rfl ti27 rfl rfl rfl rfl rfl ?_
            refine stB (cs' := [.sc (.int .i64 0), .sc (.int .i64 0), .sc (.int .i64 0)]) rfl rfl rfl rfl ti27 rfl rfl rfl rfl rfl ?_
            refine pu (v := .sc _) rfl rfl (fun _ => rfl) ?_
            refine RunC.fin ?_
            refine AWP.ret ?_
            refine rtT ?_
            have hR := Option.some.inj hR; subst hR
            exact hQ _ _ (LS.mk [(4, .ptr 0 0 0), (5, .ptr 1 0 0), (6, .sc (.int .i64 z13.2.2))] (lblks 0 [boxB (α := Vec) true (Vec.mk 0 0 0), boxB (α := Vec) true (Vec.mk 0 0 0)]) 2) (.tup [aggV (α := Vec) true (Vec.mk 0 0 0), aggV (α := Vec) true (Vec.mk 0 0 0), .sc (.int .i64 z13.2.2)]) [] (.inr rfl) (Weak.turnL [(0, 0), (1, 0)] [] rfl rfl (tc (trP' rfl rfl rfl rfl) (tc (trP' rfl rfl rfl rfl) (tc (.sc _) tn))) (mc rfl (.box rfl (.cons (.sc _) (.cons (.sc _) (.cons (.sc _) (.nil)))) rfl) (mc rfl (.box rfl (.cons (.sc _) (.cons (.sc _) (.cons (.sc _) (.nil)))) rfl) mn))) (ro3 (rvC (v := aggV (α := Vec) true (Vec.mk 0 0 0)) rfl rfl ti27 rfl) (rvC (v := aggV (α := Vec) true (Vec.mk 0 0 0)) rfl rfl ti27 rfl) (rvT (v := .sc (.int .i64 z13.2.2)) rfl)) rfl rfl (.tup (.cons ldA (.cons ldA (.cons (.sc _) .nil)))) pn
          · refine AWP.skip ?_
            refine skT ?_
            refine AWP.sq ?_
            refine AWP.rgD 30 [0, 0, 1, 7, 15] ⟨[], [some [0], some [1], some [0], some [1], none]⟩ hmix (by kernel_rfl) rfl rfl ?_
            refine ldB (v := .agg _) rfl rfl rfl rfl ti27 rfl rfl ?_
            refine ldB (v := .agg _) rfl rfl rfl rfl ti27 rfl rfl ?_
            refine stB (cs' := [.sc (.int .i64 z13.1.X), .sc (.int .i64 z13.1.Y), .sc (.int .i64 z13.1.Z)]) rfl rfl rfl rfl ti27 rfl rfl rfl rfl rfl ?_
            refine stB (cs' := [.sc (.int .i64 z13.2.1.X), .sc (.int .i64 z13.2.1.Y), .sc (.int .i64 z13.2.1.Z)]) rfl rfl rfl rfl ti27 rfl rfl rfl rfl rfl ?_
            refine pu (v := .sc _) rfl rfl (fun _ => rfl) ?_
            refine RunC.fin ?_
            refine AWP.ret ?_
            have hR := Option.some.inj hR; subst hR
            exact hQ _ _ (LS.mk [(4, .ptr 0 0 0), (5, .ptr 1 0 0), (6, .sc (.int .i64 0))] (lblks 0 [boxB (α := Vec) true z13.1, boxB (α := Vec) true z13.2.1]) 2) (.tup [aggV (α := Vec) true z13.1, aggV (α := Vec) true z13.2.1, .sc (.int .i64 0)]) [] (.inr rfl) (Weak.turnL [(0, 0), (1, 0)] [] rfl rfl (tc (trP' rfl rfl rfl rfl) (tc (trP' rfl rfl rfl rfl) (tc (.sc _) tn))) (mc rfl (.box rfl (.cons (.sc _) (.cons (.sc _) (.cons (.sc _) (.nil)))) rfl) (mc rfl (.box rfl (.cons (.sc _) (.cons (.sc _) (.cons (.sc _) (.nil)))) rfl) mn))) (ro3 (rvC (v := aggV (α := Vec) true z13.1) rfl rfl ti27 rfl) (rvC (v := aggV (α := Vec) true z13.2.1) rfl rfl ti27 rfl) (rvT (v := .sc (.int .i64 0)) rfl)) rfl rfl (.tup (.cons ldA (.cons ldA (.cons (.sc _) .nil)))) pn
theorem ok4 (s : spymake_Stream) (id : Int) (here : Vec) (r : Body × spymake_Stream) (hR : Stream_Body s id here = some r) : FnD Try.prog 4 [boxB false s] [.ptr 0 0 0, .sc (.int .i64 id), aggV false here] (aggV (α := Body) true r.1) [boxB false r.2] := by
  refine FnX.walk Try.func4 rfl 48 1 (by simp [Try.ntmps4]) rfl fun W S F Q hQ => ?_
  unfold Stream_Body at hR
  refine AWP.sq ?_
  refine AWP.rgC 9 rfl rfl ?_
  refine bx (cs := _) 1 rfl rfl rfl ?_
  refine al (cs := [.sc (.int .i64 0), .sc (.int .i64 0), .sc (.int .i64 0), .sc (.int .i64 0), .sc (.int .i64 0), .sc (.int .i64 0), .sc (.int .i64 0), .sc (.int .i64 0)]) 5 rfl rfl ti30 rfl rfl ?_
  refine RunC.fin ?_
  refine AWP.sq ?_
  refine AWP.rgC 33 rfl rfl ?_
  refine bs (α := Int) 9 true ([1000, 90000, 150000] : List Int) rfl rfl ti22 rfl ti3 rfl rfl rfl rfl rfl ?_
  refine pu (v := .ptr _ _ _) rfl rfl (fun _ => rfl) ?_
  obtain ⟨r1, hr1, hR⟩ := bindE hR
  refine cps (res' := .sc (.int .i64 r1.1)) (ups := [(0, boxB (α := spymake_Stream) false r1.2)]) [0] 17 rfl rfl rfl cb16 (ok16 s 3 _ hr1) (.cons (ldP rfl rfl) (.cons (.sc _) (.nil))) (pc rfl (.box (.cons ldR' (.cons (.sc _) (.nil))) rfl) pn) rfl rfl rfl rfl rfl (by first | rfl | exact renR | exact renA | exact renS | simp only [V.ren, V.rens, renR, renA, renS] | (simp only [V.ren, V.rens, renR, renA, renS]; rfl)) (by simp only [passUps, renBox, renArr]; rfl) ?_
  obtain ⟨h2, hR⟩ := chkE hR
  refine ixS0 (α := Int) rfl rfl rfl ti22 rfl ti3 rfl h2 ?_
  refine ldE (α := Int) (v := .sc _) rfl rfl rfl (ixlt h2) ti3 rfl rfl rfl rfl ?_
  refine pu (v := .sc _) rfl rfl (fun _ => rfl) ?_
  refine RunC.fin ?_
  refine AWP.sq ?_
  refine AWP.rgD 145 [0, 1, 0, 0, 8, 0, 60, 127, 0, 256, 0, 0, 2048, 0, 15484, 32636, 0, 65536, 0, 0, 524288, 0, 3964028, 8158332, 16743548, 33554431, 0, 134217727] ⟨[6, 14, 22], [none, some [1], none, none, none, none, some [0], none, none, some [1], none, none, none, none, some [0], none, none, some [1], none, none, none, none, some [0], none, none, none, none, some [137]]⟩ hmix (by kernel_rfl) rfl rfl ?_
  refine fa rfl rfl ti27 rfl rfl ti2 rfl ?_
  refine ldB (v := .sc _) rfl rfl rfl rfl ti2 rfl rfl ?_
  refine pu (v := .ptr _ _ _) rfl rfl (fun _ => rfl) ?_
  refine pu (v := .sc _) rfl rfl (fun _ => rfl) ?_
  refine pu (v := .sc _) rfl rfl (fun _ => rfl) ?_
  refine pu (v := .sc _) rfl rfl (fun _ => rfl) ?_
  obtain ⟨r3, hr3, hR⟩ := bindE hR
  refine cps (res' := .sc (.int .i64 r3.1)) (ups := [(0, boxB (α := spymake_Stream) false r3.2)]) [0] 57 rfl rfl rfl cb17 (ok17 r1.2 (w6 (0 - (gt ([1000, 90000, 150000] : List Int) r1.1))) (gt ([1000, 90000, 150000] : List Int) r1.1) _ hr3) (.cons (ldP rfl rfl) (.cons (.sc _) (.cons (.sc _) (.nil)))) (pc rfl (.box (.cons ldR' (.cons (.sc _) (.nil))) rfl) pn) rfl rfl rfl rfl rfl (by first | rfl | exact renR | exact renA | exact renS | simp only [V.ren, V.rens, renR, renA, renS] | (simp only [V.ren, V.rens, renR, renA, renS]; rfl)) (by simp only [passUps, renBox, renArr]; rfl) ?_
  refine pu (v := .sc _) rfl rfl (fun _ => rfl) ?_
  refine fa rfl rfl ti27 rfl rfl ti2 rfl ?_
  refine ldB (v := .sc _) rfl rfl rfl rfl ti2 rfl rfl ?_
  refine pu (v := .ptr _ _ _) rfl rfl (fun _ => rfl) ?_
  refine pu (v := .sc _) rfl rfl (fun _ => rfl) ?_
  refine pu (v := .sc _) rfl rfl (fun _ => rfl) ?_
  refine pu (v := .sc _) rfl rfl (fun _ => rfl) ?_
  obtain ⟨r4, hr4, hR⟩ := bindE hR
  refine cps (res' := .sc (.int .i64 r4.1)) (ups := [(0, boxB (α := spymake_Stream) false r4.2)]) [0] 89 rfl rfl rfl cb17 (ok17 r3.2 (w6 (0 - (gt ([1000, 90000, 150000] : List Int) r1.1))) (gt ([1000, 90000, 150000] : List Int) r1.1) _ hr4) (.cons (ldP rfl rfl) (.cons (.sc _) (.cons (.sc _) (.nil)))) (pc rfl (.box (.cons ldR' (.cons (.sc _) (.nil))) rfl) pn) rfl rfl rfl rfl rfl (by first | rfl | exact renR | exact renA | exact renS | simp only [V.ren, V.rens, renR, renA, renS] | (simp only [V.ren, V.rens, renR, renA, renS]; rfl)) (by simp only [passUps, renBox, renArr]; rfl) ?_
  refine pu (v := .sc _) rfl rfl (fun _ => rfl) ?_
  refine fa rfl rfl ti27 rfl rfl ti2 rfl ?_
  refine ldB (v := .sc _) rfl rfl rfl rfl ti2 rfl rfl ?_
  refine pu (v := .ptr _ _ _) rfl rfl (fun _ => rfl) ?_
  refine pu (v := .sc _) rfl rfl (fun _ => rfl) ?_
  refine pu (v := .sc _) rfl rfl (fun _ => rfl) ?_
  refine pu (v := .sc _) rfl rfl (fun _ => rfl) ?_
  obtain ⟨r5, hr5, hR⟩ := bindE hR
  refine cps (res' := .sc (.int .i64 r5.1)) (ups := [(0, boxB (α := spymake_Stream) false r5.2)]) [0] 121 rfl rfl rfl cb17 (ok17 r4.2 (w6 (0 - (gt ([1000, 90000, 150000] : List Int) r1.1))) (gt ([1000, 90000, 150000] : List Int) r1.1) _ hr5) (.cons (ldP rfl rfl) (.cons (.sc _) (.cons (.sc _) (.nil)))) (pc rfl (.box (.cons ldR' (.cons (.sc _) (.nil))) rfl) pn) rfl rfl rfl rfl rfl (by first | rfl | exact renR | exact renA | exact renS | simp only [V.ren, V.rens, renR, renA, renS] | (simp only [V.ren, V.rens, renR, renA, renS]; rfl)) (by simp only [passUps, renBox, renArr]; rfl) ?_
  refine qu rfl rfl rfl (by decide) rfl ?_
  refine pu (v := .sc _) rfl rfl (fun _ => rfl) ?_
  refine bu (cs := [.sc (.int .i64 (w6 (here.X + r3.1))), .sc (.int .i64 (w6 (here.Y + r4.1))), .sc (.int .i64 (w6 (here.Z + (w6 (Int.tdiv r5.1 3)))))]) rfl bt27 rfl ?_
  refine al (cs := [.sc (.int .i64 0), .sc (.int .i64 0), .sc (.int .i64 0)]) 137 rfl rfl ti27 rfl rfl ?_
  refine stB (cs' := [.sc (.int .i64 (w6 (here.X + r3.1))), .sc (.int .i64 (w6 (here.Y + r4.1))), .sc (.int .i64 (w6 (here.Z + (w6 (Int.tdiv r5.1 3)))))]) rfl rfl rfl rfl ti27 rfl rfl rfl rfl rfl ?_
  refine RunC.fin ?_
  refine AWP.sq ?_
  refine AWP.rgD 181 [0, 0, 2, 0, 14, 0, 62, 127, 255] ⟨[6], [none, some [137], none, some [1], none, none, some [0], none, some [5]]⟩ hmix (by kernel_rfl) rfl rfl ?_
  refine pu (v := .sc _) rfl rfl (fun _ => rfl) ?_
  refine ldB (v := .agg _) rfl rfl rfl rfl ti27 rfl rfl ?_
  obtain ⟨r6, hr6, hR⟩ := bindE hR
  refine cls [] rfl rfl cb18 (ok18 (Vec.mk (w6 (here.X + r3.1)) (w6 (here.Y + r4.1)) (w6 (here.Z + (w6 (Int.tdiv r5.1 3))))) _ hr6) (.cons (.agg (.cons (.sc _) (.cons (.sc _) (.cons (.sc _) (.nil)))) rfl) (.nil)) (.inr rfl) rfl ?_
  refine ldB (v := .agg _) rfl rfl rfl rfl ti27 rfl rfl ?_
  obtain ⟨r7, hr7, hR⟩ := bindE hR
  refine cls [] rfl rfl cb18 (ok18 here _ hr7) (.cons (.agg (.cons (.sc _) (.cons (.sc _) (.cons (.sc _) (.nil)))) rfl) (.nil)) (.inr rfl) rfl ?_
  refine pu (v := .ptr _ _ _) rfl rfl (fun _ => rfl) ?_
  obtain ⟨r8, hr8, hR⟩ := bindE hR
  refine cps (res' := .sc (.int .i64 r8.1)) (ups := [(0, boxB (α := spymake_Stream) false r8.2)]) [0] 169 rfl rfl rfl cb19 (ok19 r5.2 _ hr8) (.cons (ldP rfl rfl) (.nil)) (pc rfl (.box (.cons ldR' (.cons (.sc _) (.nil))) rfl) pn) rfl rfl rfl rfl rfl (by first | rfl | exact renR | exact renA | exact renS | simp only [V.ren, V.rens, renR, renA, renS] | (simp only [V.ren, V.rens, renR, renA, renS]; rfl)) (by simp only [passUps, renBox, renArr]; rfl) ?_
  refine bu (cs := [.sc (.int .i64 id), .sc (.int .i64 r6.X), .sc (.int .i64 r6.Y), .sc (.int .i64 r6.Z), .sc (.int .i64 r7.X), .sc (.int .i64 r7.Y), .sc (.int .i64 r7.Z), .sc (.int .i64 r8.1)]) rfl bt30 rfl ?_
  refine stB (cs' := [.sc (.int .i64 id), .sc (.int .i64 r6.X), .sc (.int .i64 r6.Y), .sc (.int .i64 r6.Z), .sc (.int .i64 r7.X), .sc (.int .i64 r7.Y), .sc (.int .i64 r7.Z), .sc (.int .i64 r8.1)]) rfl rfl rfl rfl ti30 rfl rfl rfl rfl rfl ?_
  refine RunC.fin ?_
  refine AWP.ret ?_
  have hR := Option.some.inj hR; subst hR
  exact hQ _ _ (LS.mk [(6, .ptr 1 0 0)] (lblks 0 [boxB (α := spymake_Stream) false r8.2, boxB (α := Body) true (Body.mk id r6 r7 r8.1)]) 2) (aggV (α := Body) true (Body.mk id r6 r7 r8.1)) [] (.inr rfl) (Weak.turnL [(0, 0), (5, 0)] [] rfl rfl (tc (trP' rfl rfl rfl rfl) tn) (mc rfl (.box rfl (.cons trR1 (.cons (.sc _) (.nil))) rfl) (mc rfl (.box rfl (.cons (.sc _) (.cons (.sc _) (.cons (.sc _) (.cons (.sc _) (.cons (.sc _) (.cons (.sc _) (.cons (.sc _) (.cons (.sc _) (.nil))))))))) rfl) mn))) (ro1 (rvC (v := aggV (α := Body) true (Body.mk id r6 r7 r8.1)) rfl rfl ti30 rfl)) rfl rfl ldA (pc rfl bldB pn)
theorem ok5 (s : spymake_Stream) (dist : Int) (r : Vec × spymake_Stream) (hR : Stream_Place s dist = some r) : FnD Try.prog 5 [boxB false s] [.ptr 0 0 0, .sc (.int .i64 dist)] (aggV (α := Vec) true r.1) [boxB false r.2] := by
  refine FnX.walk Try.func5 rfl 25 1 (by simp [Try.ntmps5]) rfl fun W S F Q hQ => ?_
  unfold Stream_Place at hR
  refine AWP.sq ?_
  refine AWP.rgC 5 rfl rfl ?_
  refine al (cs := [.sc (.int .i64 0), .sc (.int .i64 0), .sc (.int .i64 0)]) 1 rfl rfl ti27 rfl rfl ?_
  refine RunC.fin ?_
  refine AWP.sq ?_
  refine AWP.rgC 17 rfl rfl ?_
  refine pu (v := .sc _) rfl rfl (fun _ => rfl) ?_
  refine pu (v := .sc _) rfl rfl (fun _ => rfl) ?_
  refine pu (v := .sc _) rfl rfl (fun _ => rfl) ?_
  refine RunC.fin ?_
  refine AWP.sq ?_
  refine AWP.rgC 89 rfl rfl ?_
  refine pu (v := .ptr _ _ _) rfl rfl (fun _ => rfl) ?_
  refine pu (v := .sc _) rfl rfl (fun _ => rfl) ?_
  refine pu (v := .sc _) rfl rfl (fun _ => rfl) ?_
  refine pu (v := .sc _) rfl rfl (fun _ => rfl) ?_
  obtain ⟨r1, hr1, hR⟩ := bindE hR
  refine cps (res' := .sc (.int .i64 r1.1)) (ups := [(0, boxB (α := spymake_Stream) false r1.2)]) [0] 33 rfl rfl rfl cb17 (ok17 s (w6 (0 - (w6 (dist * 1048576)))) (w6 (dist * 1048576)) _ hr1) (.cons (ldP rfl rfl) (.cons (.sc _) (.cons (.sc _) (.nil)))) (pc rfl (.box (.cons ldR' (.cons (.sc _) (.nil))) rfl) pn) rfl rfl rfl rfl rfl (by first | rfl | exact renR | exact renA | exact renS | simp only [V.ren, V.rens, renR, renA, renS] | (simp only [V.ren, V.rens, renR, renA, renS]; rfl)) (by simp only [passUps, renBox, renArr]; rfl) ?_
  refine pu (v := .ptr _ _ _) rfl rfl (fun _ => rfl) ?_
  refine pu (v := .sc _) rfl rfl (fun _ => rfl) ?_
  refine pu (v := .sc _) rfl rfl (fun _ => rfl) ?_
  refine pu (v := .sc _) rfl rfl (fun _ => rfl) ?_
  obtain ⟨r2, hr2, hR⟩ := bindE hR
  refine cps (res' := .sc (.int .i64 r2.1)) (ups := [(0, boxB (α := spymake_Stream) false r2.2)]) [0] 53 rfl rfl rfl cb17 (ok17 r1.2 (w6 (0 - (w6 (dist * 1048576)))) (w6 (dist * 1048576)) _ hr2) (.cons (ldP rfl rfl) (.cons (.sc _) (.cons (.sc _) (.nil)))) (pc rfl (.box (.cons ldR' (.cons (.sc _) (.nil))) rfl) pn) rfl rfl rfl rfl rfl (by first | rfl | exact renR | exact renA | exact renS | simp only [V.ren, V.rens, renR, renA, renS] | (simp only [V.ren, V.rens, renR, renA, renS]; rfl)) (by simp only [passUps, renBox, renArr]; rfl) ?_
  refine pu (v := .ptr _ _ _) rfl rfl (fun _ => rfl) ?_
  refine pu (v := .sc _) rfl rfl (fun _ => rfl) ?_
  refine pu (v := .sc _) rfl rfl (fun _ => rfl) ?_
  refine pu (v := .sc _) rfl rfl (fun _ => rfl) ?_
  obtain ⟨r3, hr3, hR⟩ := bindE hR
  refine cps (res' := .sc (.int .i64 r3.1)) (ups := [(0, boxB (α := spymake_Stream) false r3.2)]) [0] 73 rfl rfl rfl cb17 (ok17 r2.2 (w6 (0 - (w6 (dist * 1048576)))) (w6 (dist * 1048576)) _ hr3) (.cons (ldP rfl rfl) (.cons (.sc _) (.cons (.sc _) (.nil)))) (pc rfl (.box (.cons ldR' (.cons (.sc _) (.nil))) rfl) pn) rfl rfl rfl rfl rfl (by first | rfl | exact renR | exact renA | exact renS | simp only [V.ren, V.rens, renR, renA, renS] | (simp only [V.ren, V.rens, renR, renA, renS]; rfl)) (by simp only [passUps, renBox, renArr]; rfl) ?_
  refine qu rfl rfl rfl (by decide) rfl ?_
  refine bu (cs := [.sc (.int .i64 r1.1), .sc (.int .i64 r2.1), .sc (.int .i64 (w6 (Int.tdiv r3.1 4)))]) rfl bt27 rfl ?_
  refine stB (cs' := [.sc (.int .i64 r1.1), .sc (.int .i64 r2.1), .sc (.int .i64 (w6 (Int.tdiv r3.1 4)))]) rfl rfl rfl rfl ti27 rfl rfl rfl rfl rfl ?_
  refine RunC.fin ?_
  refine AWP.ret ?_
  have hR := Option.some.inj hR; subst hR
  exact hQ _ _ (LS.mk [(4, .ptr 1 0 0)] (lblks 0 [boxB (α := spymake_Stream) false r3.2, boxB (α := Vec) true (Vec.mk r1.1 r2.1 (w6 (Int.tdiv r3.1 4)))]) 2) (aggV (α := Vec) true (Vec.mk r1.1 r2.1 (w6 (Int.tdiv r3.1 4)))) [] (.inr rfl) (Weak.turnL [(0, 0), (1, 0)] [] rfl rfl (tc (trP' rfl rfl rfl rfl) tn) (mc rfl (.box rfl (.cons trR1 (.cons (.sc _) (.nil))) rfl) (mc rfl (.box rfl (.cons (.sc _) (.cons (.sc _) (.cons (.sc _) (.nil)))) rfl) mn))) (ro1 (rvC (v := aggV (α := Vec) true (Vec.mk r1.1 r2.1 (w6 (Int.tdiv r3.1 4)))) rfl rfl ti27 rfl)) rfl rfl ldA (pc rfl bldB pn)
end Go.Proofs.Pho
