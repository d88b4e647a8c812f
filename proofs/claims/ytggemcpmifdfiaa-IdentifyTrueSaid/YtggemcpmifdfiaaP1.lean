/- Each function of the program computes its plain function. Conditions: as each theorem states them. -/
import Derived.Test.YtggemcpmifdfiaaT
import Derived.Test.YtggemcpmifdfiaaP0
namespace Go.Proofs.Idt
open Go Go.Abs Lf
set_option linter.unusedVariables false
set_option linter.unusedSimpArgs false
set_option maxRecDepth 100000
set_option maxHeartbeats 1000000
theorem ok40 (at_ : Vec) (r : Vec) (hR : sky_Pull at_ = some r) : FnP Try.prog 40 [aggV false at_] (aggV (α := Vec) true r) := by
  refine fnP_of (FnX.walk Try.func40 rfl 44 0 (by simp [Try.ntmps40]) rfl fun W S F Q hQ => ?_)
  unfold sky_Pull at hR
  refine AWP.sq ?_
  refine AWP.rgC 8 rfl rfl ?_
  refine bx (cs := _) 0 rfl rfl rfl ?_
  refine al (cs := [.sc (.int .i64 0), .sc (.int .i64 0), .sc (.int .i64 0)]) 4 rfl rfl ti29 rfl rfl ?_
  refine RunC.fin ?_
  refine AWP.sq ?_
  refine AWP.sq ?_
  refine AWP.rgC 20 rfl rfl ?_
  refine ldB (v := .agg _) rfl rfl rfl rfl ti29 rfl rfl ?_
  obtain ⟨r1, hr1, hR⟩ := bindE hR
  refine cls [] rfl rfl cb39 (ok39 at_ 4194304 _ hr1) (.cons (.agg (.cons (.sc _) (.cons (.sc _) (.cons (.sc _) (.nil)))) rfl) (.cons (.sc _) (.nil))) (.inr rfl) rfl ?_
  refine pu (v := .sc _) rfl rfl (fun _ => rfl) ?_
  refine RunC.fin ?_
  refine AWP.cd hR rfl (fun h2 hR => ?_) fun h2 hR => ?_
  · refine AWP.sq ?_
    refine AWP.rgC 28 rfl rfl ?_
    refine bu (cs := [.sc (.int .i64 0), .sc (.int .i64 0), .sc (.int .i64 0)]) rfl bt29 rfl ?_
    refine stB (cs' := [.sc (.int .i64 0), .sc (.int .i64 0), .sc (.int .i64 0)]) rfl rfl rfl rfl ti29 rfl rfl rfl rfl rfl ?_
    refine RunC.fin ?_
    refine AWP.ret ?_
    refine rtT ?_
    have hR := Option.some.inj hR; subst hR
    exact hQ _ _ (LS.mk [(2, .ptr 0 0 0)] (lblks 0 [boxB (α := Vec) true (Vec.mk 0 0 0)]) 1) (aggV (α := Vec) true (Vec.mk 0 0 0)) [] (.inr rfl) (Weak.turnL [(4, 0)] [] rfl rfl (tc (trP' rfl rfl rfl rfl) tn) (mc rfl (.box rfl (.cons (.sc _) (.cons (.sc _) (.cons (.sc _) (.nil)))) rfl) mn)) (ro1 (rvC (v := aggV (α := Vec) true (Vec.mk 0 0 0)) rfl rfl ti29 rfl)) rfl rfl ldA pn
  · refine AWP.skip ?_
    refine skT ?_
    refine AWP.sq ?_
    refine AWP.rgC 100 rfl rfl ?_
    refine fa rfl rfl ti29 rfl rfl ti2 rfl ?_
    refine ldB (v := .sc _) rfl rfl rfl rfl ti2 rfl rfl ?_
    refine fa rfl rfl ti29 rfl rfl ti2 rfl ?_
    refine ldB (v := .sc _) rfl rfl rfl rfl ti2 rfl rfl ?_
    refine pu (v := .sc _) rfl rfl (fun _ => rfl) ?_
    refine fa rfl rfl ti29 rfl rfl ti2 rfl ?_
    refine ldB (v := .sc _) rfl rfl rfl rfl ti2 rfl rfl ?_
    refine fa rfl rfl ti29 rfl rfl ti2 rfl ?_
    refine ldB (v := .sc _) rfl rfl rfl rfl ti2 rfl rfl ?_
    refine pu (v := .sc _) rfl rfl (fun _ => rfl) ?_
    refine pu (v := .sc _) rfl rfl (fun _ => rfl) ?_
    refine fa rfl rfl ti29 rfl rfl ti2 rfl ?_
    refine ldB (v := .sc _) rfl rfl rfl rfl ti2 rfl rfl ?_
    refine fa rfl rfl ti29 rfl rfl ti2 rfl ?_
    refine ldB (v := .sc _) rfl rfl rfl rfl ti2 rfl rfl ?_
    refine pu (v := .sc _) rfl rfl (fun _ => rfl) ?_
    obtain ⟨v3, ev3, hR⟩ := letE hR
    refine pu (v := .sc _) rfl rfl (fun _ => puI ev3) ?_
    obtain ⟨r4, hr4, hR⟩ := bindE hR
    refine cls [] rfl rfl cb52 (ok52 v3 _ hr4) (.cons (.sc _) (.nil)) (.inr rfl) rfl ?_
    refine al (cs := [.sc (.int .i64 0)]) 92 rfl rfl ti2 rfl rfl ?_
    refine stB (cs' := [.sc (.int .i64 r4)]) rfl rfl rfl rfl ti2 rfl rfl rfl rfl rfl ?_
    refine RunC.fin ?_
    refine AWP.sq ?_
    refine AWP.sq ?_
    refine AWP.rgC 108 rfl rfl ?_
    refine ldB (v := .sc _) rfl rfl rfl rfl ti2 rfl rfl ?_
    refine pu (v := .sc _) rfl rfl (fun _ => rfl) ?_
    refine RunC.fin ?_
    refine AWP.cd hR rfl (fun h5 hR => ?_) fun h5 hR => ?_
    · refine AWP.sq ?_
      refine AWP.rgC 116 rfl rfl ?_
      refine bu (cs := [.sc (.int .i64 0), .sc (.int .i64 0), .sc (.int .i64 0)]) rfl bt29 rfl ?_
      refine stB (cs' := [.sc (.int .i64 0), .sc (.int .i64 0), .sc (.int .i64 0)]) rfl rfl rfl rfl ti29 rfl rfl rfl rfl rfl ?_
      refine RunC.fin ?_
      refine AWP.ret ?_
      refine rtT ?_
      have hR := Option.some.inj hR; subst hR
      exact hQ _ _ (LS.mk [(2, .ptr 0 0 0)] (lblks 0 [boxB (α := Vec) true (Vec.mk 0 0 0)]) 1) (aggV (α := Vec) true (Vec.mk 0 0 0)) [] (.inr rfl) (Weak.turnL [(4, 0)] [] rfl rfl (tc (trP' rfl rfl rfl rfl) tn) (mc rfl (.box rfl (.cons (.sc _) (.cons (.sc _) (.cons (.sc _) (.nil)))) rfl) mn)) (ro1 (rvC (v := aggV (α := Vec) true (Vec.mk 0 0 0)) rfl rfl ti29 rfl)) rfl rfl ldA pn
    · refine AWP.skip ?_
      refine skT ?_
      refine AWP.sq ?_
      refine AWP.rgC 116 rfl rfl ?_
      refine pu (v := .fn _ _) rfl rfl (fun _ => rfl) ?_
      refine pu (v := .fn _ _) rfl rfl (fun _ => rfl) ?_
      refine RunC.fin ?_
      refine AWP.sq ?_
      refine AWP.rgD 172 [0, 0, 2, 7, 0, 0, 32, 127, 0, 0, 512, 2047, 4095, 8191] ⟨[], [none, none, some [0], none, none, none, some [0], none, none, none, some [0], none, none, some [4]]⟩ hmix (by kernel_rfl) rfl rfl ?_
      refine pu (v := .fn _ _) rfl rfl (fun _ => rfl) ?_
      refine fa rfl rfl ti29 rfl rfl ti2 rfl ?_
      refine ldB (v := .sc _) rfl rfl rfl rfl ti2 rfl rfl ?_
      obtain ⟨r6, hr6, hR⟩ := bindE hR
      refine cls [92] rfl rfl cb53 (ok53 at_.X r4 _ hr6) (.cons (.sc _) (.cons (ldX rfl rfl (.cons (.sc _) (.nil)) rfl) (.nil))) (.inl (by first | rfl | exact freshR | exact freshA | (simp only [V.fresh, V.freshs, freshR, freshA, Bool.and_self]))) rfl ?_
      refine pu (v := .fn _ _) rfl rfl (fun _ => rfl) ?_
      refine fa rfl rfl ti29 rfl rfl ti2 rfl ?_
      refine ldB (v := .sc _) rfl rfl rfl rfl ti2 rfl rfl ?_
      obtain ⟨r7, hr7, hR⟩ := bindE hR
      refine cls [92] rfl rfl cb53 (ok53 at_.Y r4 _ hr7) (.cons (.sc _) (.cons (ldX rfl rfl (.cons (.sc _) (.nil)) rfl) (.nil))) (.inl (by first | rfl | exact freshR | exact freshA | (simp only [V.fresh, V.freshs, freshR, freshA, Bool.and_self]))) rfl ?_
      refine pu (v := .fn _ _) rfl rfl (fun _ => rfl) ?_
      refine fa rfl rfl ti29 rfl rfl ti2 rfl ?_
      refine ldB (v := .sc _) rfl rfl rfl rfl ti2 rfl rfl ?_
      obtain ⟨r8, hr8, hR⟩ := bindE hR
      refine cls [92] rfl rfl cb53 (ok53 at_.Z r4 _ hr8) (.cons (.sc _) (.cons (ldX rfl rfl (.cons (.sc _) (.nil)) rfl) (.nil))) (.inl (by first | rfl | exact freshR | exact freshA | (simp only [V.fresh, V.freshs, freshR, freshA, Bool.and_self]))) rfl ?_
      refine bu (cs := [.sc (.int .i64 r6), .sc (.int .i64 r7), .sc (.int .i64 r8)]) rfl bt29 rfl ?_
      refine stB (cs' := [.sc (.int .i64 r6), .sc (.int .i64 r7), .sc (.int .i64 r8)]) rfl rfl rfl rfl ti29 rfl rfl rfl rfl rfl ?_
      refine RunC.fin ?_
      refine AWP.ret ?_
      have hR := Option.some.inj hR; subst hR
      exact hQ _ _ (LS.mk [(2, .ptr 0 0 0)] (lblks 0 [boxB (α := Vec) true (Vec.mk r6 r7 r8)]) 1) (aggV (α := Vec) true (Vec.mk r6 r7 r8)) [] (.inr rfl) (Weak.turnL [(4, 0)] [] rfl rfl (tc (trP' rfl rfl rfl rfl) tn) (mc rfl (.box rfl (.cons (.sc _) (.cons (.sc _) (.cons (.sc _) (.nil)))) rfl) mn)) (ro1 (rvC (v := aggV (α := Vec) true (Vec.mk r6 r7 r8)) rfl rfl ti29 rfl)) rfl rfl ldA pn
theorem ok38 (b : Body) (r : Bool) (hR : sky_moves b = some r) : FnP Try.prog 38 [aggV false b] (.sc (.bool r)) := by
  refine fnP_of (FnX.walk Try.func38 rfl 11 0 (by simp [Try.ntmps38]) rfl fun W S F Q hQ => ?_)
  unfold sky_moves at hR
  refine AWP.sq ?_
  refine AWP.rgC 8 rfl rfl ?_
  refine bx (cs := _) 0 rfl rfl rfl ?_
  refine pu (v := .sc _) rfl rfl (fun _ => rfl) ?_
  refine RunC.fin ?_
  refine AWP.joinX (fun z1 : Bool => LS.mk [(2, .sc (.bool z1))] (lblks 0 []) 0) hR (fun o1 hR => ?_) fun z1 hR => ?_
  · refine AWP.rgC 44 rfl rfl ?_
    refine fa rfl rfl ti32 rfl rfl ti29 rfl ?_
    refine ldB (v := .agg _) rfl rfl rfl rfl ti29 rfl rfl ?_
    obtain ⟨r2, hr2, hR⟩ := bindE hR
    refine cls [] rfl rfl cb39 (ok39 b.Was 4194304 _ hr2) (.cons (.agg (.cons (.sc _) (.cons (.sc _) (.cons (.sc _) (.nil)))) rfl) (.cons (.sc _) (.nil))) (.inr rfl) rfl ?_
    refine pu (v := .sc _) rfl rfl (fun _ => rfl) ?_
    refine brR hR (fun h3 hR => ?_) fun h3 hR => ?_
    · refine fa (wtG rfl rfl rfl h3) rfl ti32 rfl rfl ti29 rfl ?_
      refine ldB (v := .agg _) (wtG rfl rfl rfl h3) rfl rfl rfl ti29 rfl rfl ?_
      obtain ⟨r4, hr4, hR⟩ := bindE hR
      refine cls [] (wtG rfl rfl rfl h3) rfl cb39 (ok39 b.Here 4194304 _ hr4) (.cons (.agg (.cons (.sc _) (.cons (.sc _) (.cons (.sc _) (.nil)))) rfl) (.cons (.sc _) (.nil))) (.inr rfl) rfl ?_
      refine pkT (v := .sc (.bool r4)) rfl rfl h3 rfl ?_
      refine pu (v := .sc _) rfl rfl (fun _ => rfl) ?_
      refine RunC.fin ?_
      have hR := Option.some.inj hR; subst hR
      exact Weak.turnL [] [] rfl rfl (tc (.sc _) tn) mn
    · refine sk (skW rfl rfl rfl h3) ?_
      refine sk (skW rfl rfl rfl h3) ?_
      refine sk (skW rfl rfl rfl h3) ?_
      refine pkF (v := .sc (.bool false)) rfl rfl h3 rfl ?_
      refine pu (v := .sc _) rfl rfl (fun _ => rfl) ?_
      refine RunC.fin ?_
      have hR := Option.some.inj hR; subst hR
      exact Weak.turnL [] [] rfl rfl (tc (.sc _) tn) mn
  · refine AWP.ret ?_
    have hR := Option.some.inj hR; subst hR
    exact hQ _ _ (LS.mk [(2, .sc (.bool z1))] (lblks 0 []) 0) (.sc (.bool z1)) [] (.inr rfl) (Weak.turnL [] [] rfl rfl (tc (.sc _) tn) mn) (ro1 (rvT (v := .sc (.bool z1)) rfl)) rfl rfl (.sc _) pn
theorem ok37 (c : Int) (r : Int) (hR : spymake_within_1 c = some r) : FnP Try.prog 37 [.sc (.int .i64 c)] (.sc (.int .i64 r)) := by
  refine fnP_of (FnX.walk Try.func37 rfl 6 0 (by simp [Try.ntmps37]) rfl fun W S F Q hQ => ?_)
  unfold spymake_within_1 at hR
  refine AWP.sq ?_
  refine AWP.rgC 4 rfl rfl ?_
  refine pu (v := .sc _) rfl rfl (fun _ => rfl) ?_
  refine RunC.fin ?_
  refine AWP.sq ?_
  refine AWP.rgC 20 rfl rfl ?_
  refine pu (v := .sc _) rfl rfl (fun _ => rfl) ?_
  refine pu (v := .sc _) rfl rfl (fun _ => rfl) ?_
  refine pu (v := .sc _) rfl rfl (fun _ => rfl) ?_
  refine pu (v := .sc _) rfl rfl (fun _ => rfl) ?_
  refine RunC.fin ?_
  refine AWP.ret ?_
  have hR := Option.some.inj hR; subst hR
  exact hQ _ _ (LS.mk [(2, .sc (.int .i64 (mx2 (-4194304) (mn2 4194304 c))))] (lblks 0 []) 0) (.sc (.int .i64 (mx2 (-4194304) (mn2 4194304 c)))) [] (.inr rfl) (Weak.turnL [] [] rfl rfl (tc (.sc _) tn) mn) (ro1 (rvT (v := .sc (.int .i64 (mx2 (-4194304) (mn2 4194304 c)))) rfl)) rfl rfl (.sc _) pn
theorem ok36 (b : Bound) (v : Int) (r : Bool) (hR : bound_Has b v = some r) : FnP Try.prog 36 [aggV false b, .sc (.int .i64 v)] (.sc (.bool r)) := by
  refine fnP_of (FnX.walk Try.func36 rfl 20 0 (by simp [Try.ntmps36]) rfl fun W S F Q hQ => ?_)
  unfold bound_Has at hR
  refine AWP.sq ?_
  refine AWP.rgC 8 rfl rfl ?_
  refine bx (cs := _) 0 rfl rfl rfl ?_
  refine pu (v := .sc _) rfl rfl (fun _ => rfl) ?_
  refine RunC.fin ?_
  refine AWP.joinX (fun z1 : Bool => LS.mk [(4, .sc (.bool z1))] (lblks 0 []) 0) hR (fun o1 hR => ?_) fun z1 hR => ?_
  · refine AWP.rgC 72 rfl rfl ?_
    refine ldB (v := .agg _) rfl rfl rfl rfl ti44 rfl rfl ?_
    refine ldB (v := .agg _) rfl rfl rfl rfl ti44 rfl rfl ?_
    obtain ⟨r2, hr2, hR⟩ := bindE hR
    refine cls [] rfl rfl cb42 (ok42 b b _ hr2) (.cons (.agg (.cons (.sc _) (.cons (.sc _) (.cons (.sc _) (.nil)))) rfl) (.cons (.agg (.cons (.sc _) (.cons (.sc _) (.cons (.sc _) (.nil)))) rfl) (.nil))) (.inr rfl) rfl ?_
    refine pu (v := .sc _) rfl rfl (fun _ => rfl) ?_
    refine brR hR (fun h3 hR => ?_) fun h3 hR => ?_
    · refine sk (skW rfl rfl rfl h3) ?_
      refine sk (skW rfl rfl rfl h3) ?_
      refine sk (skW rfl rfl rfl h3) ?_
      refine sk (skW rfl rfl rfl h3) ?_
      refine sk (skW rfl rfl rfl h3) ?_
      refine sk (skW2 rfl rfl rfl) ?_
      refine sk (skW2 rfl rfl rfl) ?_
      refine sk (skW2 rfl rfl rfl) ?_
      refine sk (skW2 rfl rfl rfl) ?_
      refine sk (skW rfl rfl rfl h3) ?_
      refine pkT (v := .sc (.bool true)) rfl rfl h3 rfl ?_
      refine pu (v := .sc _) rfl rfl (fun _ => rfl) ?_
      refine RunC.fin ?_
      have hR := Option.some.inj hR; subst hR
      exact Weak.turnL [] [] rfl rfl (tc (.sc _) tn) mn
    · refine fa (wtG rfl rfl rfl h3) rfl ti44 rfl rfl ti42 rfl ?_
      refine ldB (v := .sc _) (wtG rfl rfl rfl h3) rfl rfl rfl ti42 rfl rfl ?_
      refine pu (v := .sc _) (wtG rfl rfl rfl h3) rfl (fun _ => rfl) ?_
      refine pu (v := .sc _) (wtG rfl rfl rfl h3) rfl (fun _ => rfl) ?_
      refine pu (v := .sc _) (wtG rfl rfl rfl h3) rfl (fun _ => rfl) ?_
      refine brR hR (fun h4 hR => ?_) fun h4 hR => ?_
      · refine pu (v := .sc _) (wtG rfl rfl rfl h4) rfl (fun _ => rfl) ?_
        refine fa (wtG rfl rfl rfl h4) rfl ti44 rfl rfl ti42 rfl ?_
        refine ldB (v := .sc _) (wtG rfl rfl rfl h4) rfl rfl rfl ti42 rfl rfl ?_
        refine pu (v := .sc _) (wtG rfl rfl rfl h4) rfl (fun _ => rfl) ?_
        refine pkT (v := .sc (.bool (decide (v ≤ b.Hi)))) (wtG rfl rfl rfl h3) rfl h4 rfl ?_
        refine pkF (v := .sc (.bool (decide (v ≤ b.Hi)))) rfl rfl h3 rfl ?_
        refine pu (v := .sc _) rfl rfl (fun _ => rfl) ?_
        refine RunC.fin ?_
        have hR := Option.some.inj hR; subst hR
        exact Weak.turnL [] [] rfl rfl (tc (.sc _) tn) mn
      · refine sk (skW rfl rfl rfl h4) ?_
        refine sk (skW rfl rfl rfl h4) ?_
        refine sk (skW rfl rfl rfl h4) ?_
        refine sk (skW rfl rfl rfl h4) ?_
        refine pkF (v := .sc (.bool false)) (wtG rfl rfl rfl h3) rfl h4 rfl ?_
        refine pkF (v := .sc (.bool false)) rfl rfl h3 rfl ?_
        refine pu (v := .sc _) rfl rfl (fun _ => rfl) ?_
        refine RunC.fin ?_
        have hR := Option.some.inj hR; subst hR
        exact Weak.turnL [] [] rfl rfl (tc (.sc _) tn) mn
  · refine AWP.ret ?_
    have hR := Option.some.inj hR; subst hR
    exact hQ _ _ (LS.mk [(4, .sc (.bool z1))] (lblks 0 []) 0) (.sc (.bool z1)) [] (.inr rfl) (Weak.turnL [] [] rfl rfl (tc (.sc _) tn) mn) (ro1 (rvT (v := .sc (.bool z1)) rfl)) rfl rfl (.sc _) pn
theorem ok35 (s : List Int) (v : Int) (r : Int) (hR : slices_Index_Int s v = some r) : FnP Try.prog 35 [rowV false s, .sc (.int .i64 v)] (.sc (.int .i64 r)) := by
  refine fnP_of (FnX.walk Try.func35 rfl 19 0 (by simp [Try.ntmps35]) rfl fun W S F Q hQ => ?_)
  unfold slices_Index_Int at hR
  refine AWP.sq ?_
  refine AWP.rgC 4 rfl rfl ?_
  refine pu (v := .sc _) rfl rfl (fun _ => rfl) ?_
  refine RunC.fin ?_
  refine AWP.sq ?_
  refine AWP.sq ?_
  refine AWP.rgC 16 rfl rfl ?_
  refine pu (v := rowV _ s) rfl rfl (fun _ => rfl) ?_
  refine lenL (α := Int) rfl rfl ti22 rfl ?_
  refine pu (v := .sc _) rfl rfl (fun _ => rfl) ?_
  refine RunC.fin ?_
  refine AWP.loopK' (fun s1 : Int => LS.mk [(0, rowV (α := Int) false s), (1, .sc (.int .i64 v)), (7, .sc (.int .i64 (s.length : Int))), (8, .sc (.int .i64 s1))] (lblks 0 []) 0) (fun z2 : Unit => LS.mk [] (lblks 0 []) 0) (slices_Index_Int.l1 s v) hR (s0 := 0) (Weak.turnL [] [] rfl rfl (tc trR1 (tc (.sc _) (tc (.sc _) (tc (.sc _) tn)))) mn) (fun s1 o1 hR hE1 => ?_) fun z2 hR => ?_
  · unfold slices_Index_Int.l1 at hR
    refine AWP.sq ?_
    refine AWP.rgC 4 rfl rfl ?_
    refine pu (v := .sc _) rfl rfl (fun _ => rfl) ?_
    refine RunC.fin ?_
    refine AWP.sq ?_
    refine AWP.cd hR rfl (fun h3 hR => ?_) fun h3 hR => ?_
    · refine AWP.skip ?_
      refine skT ?_
      refine AWP.sq ?_
      refine AWP.block ?_
      refine AWP.sq ?_
      refine AWP.rgC 12 rfl rfl ?_
      refine pu (v := .sc _) rfl rfl (fun _ => rfl) ?_
      refine pu (v := .sc _) rfl rfl (fun _ => rfl) ?_
      refine RunC.fin ?_
      refine AWP.sq ?_
      refine AWP.rgC 36 rfl rfl ?_
      refine pu (v := .sc _) rfl rfl (fun _ => rfl) ?_
      refine pu (v := rowV _ s) rfl rfl (fun _ => rfl) ?_
      refine pu (v := .sc _) rfl rfl (fun _ => rfl) ?_
      obtain ⟨h4, hR⟩ := chkE hR
      refine ixL (α := Int) rfl rfl rfl ti22 rfl ti3 rfl h4 ?_
      refine ldR (v := .sc _) rfl rfl ti3 rfl ?_
      refine pu (v := .sc _) rfl rfl (fun _ => rfl) ?_
      refine RunC.fin ?_
      refine AWP.cd hR rfl (fun h5 hR => ?_) fun h5 hR => ?_
      · refine AWP.sq ?_
        refine AWP.rgC 44 rfl rfl ?_
        refine pu (v := .sc _) rfl rfl (fun _ => rfl) ?_
        refine pu (v := .sc _) rfl rfl (fun _ => rfl) ?_
        refine RunC.fin ?_
        refine AWP.ret ?_
        refine rtB ?_
        refine rtT ?_
        refine rtT ?_
        refine rtB (rtT ?_)
        replace hR := escL hR hE1
        refine rtT ?_
        have hR := Option.some.inj hR; subst hR
        exact hQ _ _ (LS.mk [(4, .sc (.int .i64 s1))] (lblks 0 []) 0) (.sc (.int .i64 s1)) [] (.inr rfl) (Weak.turnL [] [] rfl rfl (tc (.sc _) tn) mn) (ro1 (rvT (v := .sc (.int .i64 s1)) rfl)) rfl rfl (.sc _) pn
      · refine AWP.skip ?_
        refine skB ?_
        refine skT ?_
        refine AWP.rgC 44 rfl rfl ?_
        refine pu (v := .sc _) rfl rfl (fun _ => rfl) ?_
        refine pu (v := .sc _) rfl rfl (fun _ => rfl) ?_
        refine RunC.fin ?_
        refine ⟨(w6 (s1 + 1)), (Option.some.inj hR).symm, ?_⟩
        exact Weak.turnL [] [] rfl rfl (tc trR1 (tc (.sc _) (tc (.sc _) (tc (.sc _) tn)))) mn
    · refine AWP.exit ?_
      refine exT ?_
      refine exT ?_
      refine exH (skT ?_)
      refine ⟨(), (Option.some.inj hR).symm, ?_⟩
      exact Weak.turnL [] [] rfl rfl tn mn
  · refine skT ?_
    refine AWP.sq ?_
    refine AWP.rgC 4 rfl rfl ?_
    refine pu (v := .sc _) rfl rfl (fun _ => rfl) ?_
    refine RunC.fin ?_
    refine AWP.ret ?_
    have hR := Option.some.inj hR; subst hR
    exact hQ _ _ (LS.mk [(4, .sc (.int .i64 (-1)))] (lblks 0 []) 0) (.sc (.int .i64 (-1))) [] (.inr rfl) (Weak.turnL [] [] rfl rfl (tc (.sc _) tn) mn) (ro1 (rvT (v := .sc (.int .i64 (-1))) rfl)) rfl rfl (.sc _) pn
theorem ok33 (a : Box) (b : Box) (r : Bool) (hR : change_Share a b = some r) : FnP Try.prog 33 [aggV false a, aggV false b] (.sc (.bool r)) := by
  refine fnP_of (FnX.walk Try.func33 rfl 98 0 (by simp [Try.ntmps33]) rfl fun W S F Q hQ => ?_)
  unfold change_Share at hR
  refine AWP.sq ?_
  refine AWP.rgC 12 rfl rfl ?_
  refine bx (cs := _) 0 rfl rfl rfl ?_
  refine bx (cs := _) 4 rfl rfl rfl ?_
  refine pu (v := .sc _) rfl rfl (fun _ => rfl) ?_
  refine RunC.fin ?_
  refine AWP.sq ?_
  refine AWP.rgC 24 rfl rfl ?_
  refine bu (cs := [.sc (.int .i64 0), .sc (.int .i64 9223372036854775807), .sc (.int .i64 1), .sc (.int .i64 1)]) rfl bt95 rfl ?_
  refine bx (cs := _) 16 rfl rfl rfl ?_
  refine pu (v := .ptr _ _ _) rfl rfl (fun _ => rfl) ?_
  refine RunC.fin ?_
  refine AWP.sq ?_
  refine AWP.rgD 96 [0, 1, 0, 4, 0, 16, 63, 0, 128, 0, 512, 0, 2048, 8064, 0, 0, 49279, 131071] ⟨[], [none, some [0], none, some [0], none, some [0], none, none, some [4], none, some [4], none, some [4], none, none, none, some [80], some [84]]⟩ hmix (by kernel_rfl) rfl rfl ?_
  refine fa rfl rfl ti51 rfl rfl ti44 rfl ?_
  refine ldB (v := .agg _) rfl rfl rfl rfl ti44 rfl rfl ?_
  refine fa rfl rfl ti51 rfl rfl ti44 rfl ?_
  refine ldB (v := .agg _) rfl rfl rfl rfl ti44 rfl rfl ?_
  refine fa rfl rfl ti51 rfl rfl ti44 rfl ?_
  refine ldB (v := .agg _) rfl rfl rfl rfl ti44 rfl rfl ?_
  refine buA (cs := [.sc (.int .i64 a.X.Lo), .sc (.int .i64 a.X.Hi), .sc (.bool a.X.Unknown), .sc (.int .i64 a.Y.Lo), .sc (.int .i64 a.Y.Hi), .sc (.bool a.Y.Unknown), .sc (.int .i64 a.Z.Lo), .sc (.int .i64 a.Z.Hi), .sc (.bool a.Z.Unknown)]) rfl ti45 rfl ti44 rfl rfl ?_
  refine fa rfl rfl ti51 rfl rfl ti44 rfl ?_
  refine ldB (v := .agg _) rfl rfl rfl rfl ti44 rfl rfl ?_
  refine fa rfl rfl ti51 rfl rfl ti44 rfl ?_
  refine ldB (v := .agg _) rfl rfl rfl rfl ti44 rfl rfl ?_
  refine fa rfl rfl ti51 rfl rfl ti44 rfl ?_
  refine ldB (v := .agg _) rfl rfl rfl rfl ti44 rfl rfl ?_
  refine buA (cs := [.sc (.int .i64 b.X.Lo), .sc (.int .i64 b.X.Hi), .sc (.bool b.X.Unknown), .sc (.int .i64 b.Y.Lo), .sc (.int .i64 b.Y.Hi), .sc (.bool b.Y.Unknown), .sc (.int .i64 b.Z.Lo), .sc (.int .i64 b.Z.Hi), .sc (.bool b.Z.Unknown)]) rfl ti45 rfl ti44 rfl rfl ?_
  refine al (cs := [.sc (.int .i64 0), .sc (.int .i64 0), .sc (.bool false), .sc (.int .i64 0), .sc (.int .i64 0), .sc (.bool false), .sc (.int .i64 0), .sc (.int .i64 0), .sc (.bool false)]) 80 rfl rfl ti45 rfl rfl ?_
  refine al (cs := [.sc (.int .i64 0), .sc (.int .i64 0), .sc (.bool false), .sc (.int .i64 0), .sc (.int .i64 0), .sc (.bool false), .sc (.int .i64 0), .sc (.int .i64 0), .sc (.bool false)]) 84 rfl rfl ti45 rfl rfl ?_
  refine stB (cs' := [.sc (.int .i64 a.X.Lo), .sc (.int .i64 a.X.Hi), .sc (.bool a.X.Unknown), .sc (.int .i64 a.Y.Lo), .sc (.int .i64 a.Y.Hi), .sc (.bool a.Y.Unknown), .sc (.int .i64 a.Z.Lo), .sc (.int .i64 a.Z.Hi), .sc (.bool a.Z.Unknown)]) rfl rfl rfl rfl ti45 rfl rfl rfl rfl rfl ?_
  refine stB (cs' := [.sc (.int .i64 b.X.Lo), .sc (.int .i64 b.X.Hi), .sc (.bool b.X.Unknown), .sc (.int .i64 b.Y.Lo), .sc (.int .i64 b.Y.Hi), .sc (.bool b.Y.Unknown), .sc (.int .i64 b.Z.Lo), .sc (.int .i64 b.Z.Hi), .sc (.bool b.Z.Unknown)]) rfl rfl rfl rfl ti45 rfl rfl rfl rfl rfl ?_
  refine RunC.fin ?_
  refine AWP.sq ?_
  refine AWP.sq ?_
  refine AWP.rgC 100 rfl rfl ?_
  refine pu (v := .sc _) rfl rfl (fun _ => rfl) ?_
  refine RunC.fin ?_
  refine AWP.loopK' (fun s1 : change_ratios × Int => LS.mk [(5, .ptr 0 0 0), (6, .ptr 1 0 0), (7, .ptr 2 0 0), (27, .sc (.int .i64 s1.2))] (lblks 0 [boxB (α := change_ratios) true s1.1, boxB (α := Bound × Bound × Bound) true (a.X, a.Y, a.Z), boxB (α := Bound × Bound × Bound) true (b.X, b.Y, b.Z)]) 3) (fun z2 : change_ratios => LS.mk [(5, .ptr 0 0 0)] (lblks 0 [boxB (α := change_ratios) true z2]) 1) (change_Share.l1 a b) hR (s0 := (change_ratios.mk 0 9223372036854775807 1 1, 0)) (Weak.turnL [(16, 0), (80, 0), (84, 0)] [] rfl rfl (tc (trP' rfl rfl rfl rfl) (tc (trP' rfl rfl rfl rfl) (tc (trP' rfl rfl rfl rfl) (tc (.sc _) tn)))) (mc rfl (.box rfl (.cons (.sc _) (.cons (.sc _) (.cons (.sc _) (.cons (.sc _) (.nil))))) rfl) (mc rfl (.box rfl (.cons (.sc _) (.cons (.sc _) (.cons (.sc _) (.cons (.sc _) (.cons (.sc _) (.cons (.sc _) (.cons (.sc _) (.cons (.sc _) (.cons (.sc _) (.nil)))))))))) rfl) (mc rfl (.box rfl (.cons (.sc _) (.cons (.sc _) (.cons (.sc _) (.cons (.sc _) (.cons (.sc _) (.cons (.sc _) (.cons (.sc _) (.cons (.sc _) (.cons (.sc _) (.nil)))))))))) rfl) mn)))) (fun s1 o1 hR hE1 => ?_) fun z2 hR => ?_
  · unfold change_Share.l1 at hR
    refine AWP.sq ?_
    refine AWP.rgC 7 rfl rfl ?_
    refine pu (v := .sc _) rfl rfl (fun _ => rfl) ?_
    refine RunC.fin ?_
    refine AWP.sq ?_
    refine AWP.cd hR rfl (fun h3 hR => ?_) fun h3 hR => ?_
    · refine AWP.skip ?_
      refine skT ?_
      refine AWP.joinS (fun z4 : change_ratios => LS.mk [(5, .ptr 0 0 0), (6, .ptr 1 0 0), (7, .ptr 2 0 0), (27, .sc (.int .i64 s1.2))] (lblks 0 [boxB (α := change_ratios) true z4, boxB (α := Bound × Bound × Bound) true (a.X, a.Y, a.Z), boxB (α := Bound × Bound × Bound) true (b.X, b.Y, b.Z)]) 3) hR (fun o4 hR hE4 => ?_) fun z4 hR => ?_
      · refine AWP.block ?_
        refine AWP.sq ?_
        refine AWP.rgC 15 rfl rfl ?_
        refine pu (v := .sc _) rfl rfl (fun _ => rfl) ?_
        refine pu (v := .sc _) rfl rfl (fun _ => rfl) ?_
        refine RunC.fin ?_
        refine AWP.sq ?_
        refine AWP.rgD 55 [0, 1, 3, 0, 8, 24, 0, 0, 199, 511] ⟨[], [none, none, some [1], none, none, some [2], none, none, some [39], some [43]]⟩ hmix (by kernel_rfl) rfl rfl ?_
        refine pu (v := .sc _) rfl rfl (fun _ => rfl) ?_
        obtain ⟨h5, hR⟩ := chkE hR
        refine iaP (o' := 0 + s1.2.toNat * Cl.e Bound + 0) rfl rfl rfl ti45 rfl ti44 h5 rfl ?_
        refine ldD (α := Bound) (nw := true) (pre := []) (post := []) (xs := ([a.X, a.Y, a.Z] : List Bound)) (m := s1.2.toNat) (off := 0) (v := .agg _) rfl rfl rfl rfl rfl rfl (ixlt h5) ti44 rfl rfl rfl rfl ?_
        refine pu (v := .sc _) rfl rfl (fun _ => rfl) ?_
        obtain ⟨h6, hR⟩ := chkE hR
        refine iaP (o' := 0 + s1.2.toNat * Cl.e Bound + 0) rfl rfl rfl ti45 rfl ti44 h6 rfl ?_
        refine ldD (α := Bound) (nw := true) (pre := []) (post := []) (xs := ([b.X, b.Y, b.Z] : List Bound)) (m := s1.2.toNat) (off := 0) (v := .agg _) rfl rfl rfl rfl rfl rfl (ixlt h6) ti44 rfl rfl rfl rfl ?_
        refine al (cs := [.sc (.int .i64 0), .sc (.int .i64 0), .sc (.bool false)]) 39 rfl rfl ti44 rfl rfl ?_
        refine al (cs := [.sc (.int .i64 0), .sc (.int .i64 0), .sc (.bool false)]) 43 rfl rfl ti44 rfl rfl ?_
        refine stB (cs' := [.sc (.int .i64 (gt ([a.X, a.Y, a.Z] : List Bound) s1.2).Lo), .sc (.int .i64 (gt ([a.X, a.Y, a.Z] : List Bound) s1.2).Hi), .sc (.bool (gt ([a.X, a.Y, a.Z] : List Bound) s1.2).Unknown)]) rfl rfl rfl rfl ti44 rfl rfl rfl rfl rfl ?_
        refine stB (cs' := [.sc (.int .i64 (gt ([b.X, b.Y, b.Z] : List Bound) s1.2).Lo), .sc (.int .i64 (gt ([b.X, b.Y, b.Z] : List Bound) s1.2).Hi), .sc (.bool (gt ([b.X, b.Y, b.Z] : List Bound) s1.2).Unknown)]) rfl rfl rfl rfl ti44 rfl rfl rfl rfl rfl ?_
        refine RunC.fin ?_
        refine AWP.sq ?_
        refine AWP.joinX (fun z7 : Bool => LS.mk [(5, .ptr 0 0 0), (6, .ptr 1 0 0), (7, .ptr 2 0 0), (9, .ptr 3 0 0), (10, .ptr 4 0 0), (27, .sc (.int .i64 s1.2)), (51, .sc (.bool z7))] (lblks 0 [boxB (α := change_ratios) true s1.1, boxB (α := Bound × Bound × Bound) true (a.X, a.Y, a.Z), boxB (α := Bound × Bound × Bound) true (b.X, b.Y, b.Z), boxB (α := Bound) true (gt ([a.X, a.Y, a.Z] : List Bound) s1.2), boxB (α := Bound) true (gt ([b.X, b.Y, b.Z] : List Bound) s1.2)]) 5) hR (fun o7 hR => ?_) fun z7 hR => ?_
        · refine AWP.rgC 119 rfl rfl ?_
          refine ldB (v := .agg _) rfl rfl rfl rfl ti44 rfl rfl ?_
          obtain ⟨r8, hr8, hR⟩ := bindE hR
          refine cls [] rfl rfl cb47 (ok47 (gt ([a.X, a.Y, a.Z] : List Bound) s1.2) _ hr8) (.cons (.agg (.cons (.sc _) (.cons (.sc _) (.cons (.sc _) (.nil)))) rfl) (.nil)) (.inr rfl) rfl ?_
          refine pu (v := .sc _) rfl rfl (fun _ => rfl) ?_
          refine pu (v := .sc _) rfl rfl (fun _ => rfl) ?_
          refine brR hR (fun h9 hR => ?_) fun h9 hR => ?_
          · refine sk (skW rfl rfl rfl h9) ?_
            refine sk (skW rfl rfl rfl h9) ?_
            refine sk (skW rfl rfl rfl h9) ?_
            refine pkT (v := .sc (.bool true)) rfl rfl h9 rfl ?_
            refine pu (v := .sc _) rfl rfl (fun _ => rfl) ?_
            refine sk (skW rfl rfl rfl rfl) ?_
            refine sk (skW rfl rfl rfl rfl) ?_
            refine pkT (v := .sc (.bool true)) rfl rfl rfl rfl ?_
            refine pu (v := .sc _) rfl rfl (fun _ => rfl) ?_
            refine sk (skW rfl rfl rfl rfl) ?_
            refine sk (skW rfl rfl rfl rfl) ?_
            refine pkT (v := .sc (.bool true)) rfl rfl rfl rfl ?_
            refine RunC.fin ?_
            have hR := Option.some.inj hR; subst hR
            exact Weak.turnL [(0, 0), (1, 0), (2, 0), (39, 0), (43, 0)] [] rfl rfl (tc (trP' rfl rfl rfl rfl) (tc (trP' rfl rfl rfl rfl) (tc (trP' rfl rfl rfl rfl) (tc (trP' rfl rfl rfl rfl) (tc (trP' rfl rfl rfl rfl) (tc (.sc _) (tc (.sc _) tn))))))) (mc rfl (.box rfl (.cons (.sc _) (.cons (.sc _) (.cons (.sc _) (.cons (.sc _) (.nil))))) rfl) (mc rfl (.box rfl (.cons (.sc _) (.cons (.sc _) (.cons (.sc _) (.cons (.sc _) (.cons (.sc _) (.cons (.sc _) (.cons (.sc _) (.cons (.sc _) (.cons (.sc _) (.nil)))))))))) rfl) (mc rfl (.box rfl (.cons (.sc _) (.cons (.sc _) (.cons (.sc _) (.cons (.sc _) (.cons (.sc _) (.cons (.sc _) (.cons (.sc _) (.cons (.sc _) (.cons (.sc _) (.nil)))))))))) rfl) (mc rfl (.box rfl (.cons (.sc _) (.cons (.sc _) (.cons (.sc _) (.nil)))) rfl) (mc rfl (.box rfl (.cons (.sc _) (.cons (.sc _) (.cons (.sc _) (.nil)))) rfl) mn)))))
          · refine ldB (v := .agg _) (wtG rfl rfl rfl h9) rfl rfl rfl ti44 rfl rfl ?_
            obtain ⟨r10, hr10, hR⟩ := bindE hR
            refine cls [] (wtG rfl rfl rfl h9) rfl cb47 (ok47 (gt ([b.X, b.Y, b.Z] : List Bound) s1.2) _ hr10) (.cons (.agg (.cons (.sc _) (.cons (.sc _) (.cons (.sc _) (.nil)))) rfl) (.nil)) (.inr rfl) rfl ?_
            refine pu (v := .sc _) (wtG rfl rfl rfl h9) rfl (fun _ => rfl) ?_
            refine pkF (v := .sc (.bool (r10 != 0))) rfl rfl h9 rfl ?_
            refine pu (v := .sc _) rfl rfl (fun _ => rfl) ?_
            refine brR hR (fun h11 hR => ?_) fun h11 hR => ?_
            · refine sk (skW rfl rfl rfl h11) ?_
              refine sk (skW rfl rfl rfl h11) ?_
              refine pkT (v := .sc (.bool true)) rfl rfl h11 rfl ?_
              refine pu (v := .sc _) rfl rfl (fun _ => rfl) ?_
              refine sk (skW rfl rfl rfl rfl) ?_
              refine sk (skW rfl rfl rfl rfl) ?_
              refine pkT (v := .sc (.bool true)) rfl rfl rfl rfl ?_
              refine RunC.fin ?_
              have hR := Option.some.inj hR; subst hR
              exact Weak.turnL [(0, 0), (1, 0), (2, 0), (39, 0), (43, 0)] [] rfl rfl (tc (trP' rfl rfl rfl rfl) (tc (trP' rfl rfl rfl rfl) (tc (trP' rfl rfl rfl rfl) (tc (trP' rfl rfl rfl rfl) (tc (trP' rfl rfl rfl rfl) (tc (.sc _) (tc (.sc _) tn))))))) (mc rfl (.box rfl (.cons (.sc _) (.cons (.sc _) (.cons (.sc _) (.cons (.sc _) (.nil))))) rfl) (mc rfl (.box rfl (.cons (.sc _) (.cons (.sc _) (.cons (.sc _) (.cons (.sc _) (.cons (.sc _) (.cons (.sc _) (.cons (.sc _) (.cons (.sc _) (.cons (.sc _) (.nil)))))))))) rfl) (mc rfl (.box rfl (.cons (.sc _) (.cons (.sc _) (.cons (.sc _) (.cons (.sc _) (.cons (.sc _) (.cons (.sc _) (.cons (.sc _) (.cons (.sc _) (.cons (.sc _) (.nil)))))))))) rfl) (mc rfl (.box rfl (.cons (.sc _) (.cons (.sc _) (.cons (.sc _) (.nil)))) rfl) (mc rfl (.box rfl (.cons (.sc _) (.cons (.sc _) (.cons (.sc _) (.nil)))) rfl) mn)))))
            · refine fa (wtG rfl rfl rfl h11) rfl ti44 rfl rfl ti4 rfl ?_
              refine ldB (v := .sc _) (wtG rfl rfl rfl h11) rfl rfl rfl ti4 rfl rfl ?_
              refine pkF (v := .sc (.bool (gt ([a.X, a.Y, a.Z] : List Bound) s1.2).Unknown)) rfl rfl h11 rfl ?_
              refine pu (v := .sc _) rfl rfl (fun _ => rfl) ?_
              refine brR hR (fun h12 hR => ?_) fun h12 hR => ?_
              · refine sk (skW rfl rfl rfl h12) ?_
                refine sk (skW rfl rfl rfl h12) ?_
                refine pkT (v := .sc (.bool true)) rfl rfl h12 rfl ?_
                refine RunC.fin ?_
                have hR := Option.some.inj hR; subst hR
                exact Weak.turnL [(0, 0), (1, 0), (2, 0), (39, 0), (43, 0)] [] rfl rfl (tc (trP' rfl rfl rfl rfl) (tc (trP' rfl rfl rfl rfl) (tc (trP' rfl rfl rfl rfl) (tc (trP' rfl rfl rfl rfl) (tc (trP' rfl rfl rfl rfl) (tc (.sc _) (tc (.sc _) tn))))))) (mc rfl (.box rfl (.cons (.sc _) (.cons (.sc _) (.cons (.sc _) (.cons (.sc _) (.nil))))) rfl) (mc rfl (.box rfl (.cons (.sc _) (.cons (.sc _) (.cons (.sc _) (.cons (.sc _) (.cons (.sc _) (.cons (.sc _) (.cons (.sc _) (.cons (.sc _) (.cons (.sc _) (.nil)))))))))) rfl) (mc rfl (.box rfl (.cons (.sc _) (.cons (.sc _) (.cons (.sc _) (.cons (.sc _) (.cons (.sc _) (.cons (.sc _) (.cons (.sc _) (.cons (.sc _) (.cons (.sc _) (.nil)))))))))) rfl) (mc rfl (.box rfl (.cons (.sc _) (.cons (.sc _) (.cons (.sc _) (.nil)))) rfl) (mc rfl (.box rfl (.cons (.sc _) (.cons (.sc _) (.cons (.sc _) (.nil)))) rfl) mn)))))
              · refine fa (wtG rfl rfl rfl h12) rfl ti44 rfl rfl ti4 rfl ?_
                refine ldB (v := .sc _) (wtG rfl rfl rfl h12) rfl rfl rfl ti4 rfl rfl ?_
                refine pkF (v := .sc (.bool (gt ([b.X, b.Y, b.Z] : List Bound) s1.2).Unknown)) rfl rfl h12 rfl ?_
                refine RunC.fin ?_
                have hR := Option.some.inj hR; subst hR
                exact Weak.turnL [(0, 0), (1, 0), (2, 0), (39, 0), (43, 0)] [] rfl rfl (tc (trP' rfl rfl rfl rfl) (tc (trP' rfl rfl rfl rfl) (tc (trP' rfl rfl rfl rfl) (tc (trP' rfl rfl rfl rfl) (tc (trP' rfl rfl rfl rfl) (tc (.sc _) (tc (.sc _) tn))))))) (mc rfl (.box rfl (.cons (.sc _) (.cons (.sc _) (.cons (.sc _) (.cons (.sc _) (.nil))))) rfl) (mc rfl (.box rfl (.cons (.sc _) (.cons (.sc _) (.cons (.sc _) (.cons (.sc _) (.cons (.sc _) (.cons (.sc _) (.cons (.sc _) (.cons (.sc _) (.cons (.sc _) (.nil)))))))))) rfl) (mc rfl (.box rfl (.cons (.sc _) (.cons (.sc _) (.cons (.sc _) (.cons (.sc _) (.cons (.sc _) (.cons (.sc _) (.cons (.sc _) (.cons (.sc _) (.cons (.sc _) (.nil)))))))))) rfl) (mc rfl (.box rfl (.cons (.sc _) (.cons (.sc _) (.cons (.sc _) (.nil)))) rfl) (mc rfl (.box rfl (.cons (.sc _) (.cons (.sc _) (.cons (.sc _) (.nil)))) rfl) mn)))))
        · refine AWP.cd hR rfl (fun h13 hR => ?_) fun h13 hR => ?_
          · refine AWP.exit ?_
            refine exT ?_
            refine exH ?_
            refine skT ?_
            refine ⟨s1.1, (Option.some.inj hR).symm, ?_⟩
            exact Weak.turnL [(0, 0), (1, 0), (2, 0)] [] rfl rfl (tc (trP' rfl rfl rfl rfl) (tc (trP' rfl rfl rfl rfl) (tc (trP' rfl rfl rfl rfl) (tc (.sc _) tn)))) (mc rfl (.box rfl (.cons (.sc _) (.cons (.sc _) (.cons (.sc _) (.cons (.sc _) (.nil))))) rfl) (mc rfl (.box rfl (.cons (.sc _) (.cons (.sc _) (.cons (.sc _) (.cons (.sc _) (.cons (.sc _) (.cons (.sc _) (.cons (.sc _) (.cons (.sc _) (.cons (.sc _) (.nil)))))))))) rfl) (mc rfl (.box rfl (.cons (.sc _) (.cons (.sc _) (.cons (.sc _) (.cons (.sc _) (.cons (.sc _) (.cons (.sc _) (.cons (.sc _) (.cons (.sc _) (.cons (.sc _) (.nil)))))))))) rfl) mn)))
          · refine AWP.skip ?_
            refine skT ?_
            refine AWP.joinX (fun z14 : change_ratios × Bool => LS.mk [(5, .ptr 0 0 0), (6, .ptr 1 0 0), (7, .ptr 2 0 0), (27, .sc (.int .i64 s1.2)), (69, .sc (.bool z14.2))] (lblks 0 [boxB (α := change_ratios) true z14.1, boxB (α := Bound × Bound × Bound) true (a.X, a.Y, a.Z), boxB (α := Bound × Bound × Bound) true (b.X, b.Y, b.Z)]) 3) hR (fun o14 hR => ?_) fun z14 hR => ?_
            · refine AWP.rgC 77 rfl rfl ?_
              refine pu (v := .ptr _ _ _) rfl rfl (fun _ => rfl) ?_
              refine fa rfl rfl ti44 rfl rfl ti42 rfl ?_
              refine ldB (v := .sc _) rfl rfl rfl rfl ti42 rfl rfl ?_
              refine fa rfl rfl ti44 rfl rfl ti42 rfl ?_
              refine ldB (v := .sc _) rfl rfl rfl rfl ti42 rfl rfl ?_
              obtain ⟨r15, hr15, hR⟩ := bindE hR
              refine cps (res' := .sc (.bool r15.1)) (ups := [(0, boxB (α := change_ratios) true r15.2)]) [0] 25 rfl rfl rfl cb48 (ok48 s1.1 (gt ([a.X, a.Y, a.Z] : List Bound) s1.2).Lo (gt ([b.X, b.Y, b.Z] : List Bound) s1.2).Hi _ hr15) (.cons (ldP rfl rfl) (.cons (.sc _) (.cons (.sc _) (.nil)))) (pc rfl (.box (.cons (.sc _) (.cons (.sc _) (.cons (.sc _) (.cons (.sc _) (.nil))))) rfl) pn) rfl rfl rfl rfl rfl (by first | rfl | exact renR | exact renA | exact renS | simp only [V.ren, V.rens, renR, renA, renS] | (simp only [V.ren, V.rens, renR, renA, renS]; rfl)) (by simp only [passUps, renBox, renArr]; rfl) ?_
              refine pu (v := .sc _) rfl rfl (fun _ => rfl) ?_
              refine pu (v := .sc _) rfl rfl (fun _ => rfl) ?_
              refine brR hR (fun h16 hR => ?_) fun h16 hR => ?_
              · refine sk (skW rfl rfl rfl h16) ?_
                refine sk (skW rfl rfl rfl h16) ?_
                refine sk (skW rfl rfl rfl h16) ?_
                refine sk (skW rfl rfl rfl h16) ?_
                refine sk (skW rfl rfl rfl h16) ?_
                refine sk (skW rfl rfl rfl h16) ?_
                refine sk (skW rfl rfl rfl h16) ?_
                refine sk (skW rfl rfl rfl h16) ?_
                refine sk (skW rfl rfl rfl h16) ?_
                refine pkT (v := .sc (.bool true)) rfl rfl h16 rfl ?_
                refine RunC.fin ?_
                have hR := Option.some.inj hR; subst hR
                exact Weak.turnL [(0, 0), (1, 0), (2, 0)] [] rfl rfl (tc (trP' rfl rfl rfl rfl) (tc (trP' rfl rfl rfl rfl) (tc (trP' rfl rfl rfl rfl) (tc (.sc _) (tc (.sc _) tn))))) (mc rfl (.box rfl (.cons (.sc _) (.cons (.sc _) (.cons (.sc _) (.cons (.sc _) (.nil))))) rfl) (mc rfl (.box rfl (.cons (.sc _) (.cons (.sc _) (.cons (.sc _) (.cons (.sc _) (.cons (.sc _) (.cons (.sc _) (.cons (.sc _) (.cons (.sc _) (.cons (.sc _) (.nil)))))))))) rfl) (mc rfl (.box rfl (.cons (.sc _) (.cons (.sc _) (.cons (.sc _) (.cons (.sc _) (.cons (.sc _) (.cons (.sc _) (.cons (.sc _) (.cons (.sc _) (.cons (.sc _) (.nil)))))))))) rfl) mn)))
              · refine pu (v := .ptr _ _ _) (wtG rfl rfl rfl h16) rfl (fun _ => rfl) ?_
                refine fa (wtG rfl rfl rfl h16) rfl ti44 rfl rfl ti42 rfl ?_
                refine ldB (v := .sc _) (wtG rfl rfl rfl h16) rfl rfl rfl ti42 rfl rfl ?_
                refine pu (v := .sc _) (wtG rfl rfl rfl h16) rfl (fun _ => rfl) ?_
                refine fa (wtG rfl rfl rfl h16) rfl ti44 rfl rfl ti42 rfl ?_
                refine ldB (v := .sc _) (wtG rfl rfl rfl h16) rfl rfl rfl ti42 rfl rfl ?_
                refine pu (v := .sc _) (wtG rfl rfl rfl h16) rfl (fun _ => rfl) ?_
                obtain ⟨r17, hr17, hR⟩ := bindE hR
                refine cps (res' := .sc (.bool r17.1)) (ups := [(0, boxB (α := change_ratios) true r17.2)]) [0] 65 (wtG rfl rfl rfl h16) rfl rfl cb48 (ok48 r15.2 (w6 (0 - (gt ([a.X, a.Y, a.Z] : List Bound) s1.2).Hi)) (w6 (0 - (gt ([b.X, b.Y, b.Z] : List Bound) s1.2).Lo)) _ hr17) (.cons (ldP rfl rfl) (.cons (.sc _) (.cons (.sc _) (.nil)))) (pc rfl (.box (.cons (.sc _) (.cons (.sc _) (.cons (.sc _) (.cons (.sc _) (.nil))))) rfl) pn) rfl rfl rfl rfl rfl (by first | rfl | exact renR | exact renA | exact renS | simp only [V.ren, V.rens, renR, renA, renS] | (simp only [V.ren, V.rens, renR, renA, renS]; rfl)) (by simp only [passUps, renBox, renArr]; rfl) ?_
                refine pu (v := .sc _) (wtG rfl rfl rfl h16) rfl (fun _ => rfl) ?_
                refine pkF (v := .sc (.bool (!r17.1))) rfl rfl h16 rfl ?_
                refine RunC.fin ?_
                have hR := Option.some.inj hR; subst hR
                exact Weak.turnL [(0, 0), (1, 0), (2, 0)] [] rfl rfl (tc (trP' rfl rfl rfl rfl) (tc (trP' rfl rfl rfl rfl) (tc (trP' rfl rfl rfl rfl) (tc (.sc _) (tc (.sc _) tn))))) (mc rfl (.box rfl (.cons (.sc _) (.cons (.sc _) (.cons (.sc _) (.cons (.sc _) (.nil))))) rfl) (mc rfl (.box rfl (.cons (.sc _) (.cons (.sc _) (.cons (.sc _) (.cons (.sc _) (.cons (.sc _) (.cons (.sc _) (.cons (.sc _) (.cons (.sc _) (.cons (.sc _) (.nil)))))))))) rfl) (mc rfl (.box rfl (.cons (.sc _) (.cons (.sc _) (.cons (.sc _) (.cons (.sc _) (.cons (.sc _) (.cons (.sc _) (.cons (.sc _) (.cons (.sc _) (.cons (.sc _) (.nil)))))))))) rfl) mn)))
            · refine AWP.cd hR rfl (fun h18 hR => ?_) fun h18 hR => ?_
              · refine AWP.sq ?_
                refine AWP.rgC 7 rfl rfl ?_
                refine pu (v := .sc _) rfl rfl (fun _ => rfl) ?_
                refine RunC.fin ?_
                refine AWP.ret ?_
                refine rtB ?_
                refine rtT ?_
                replace hR := escJ hR hE4
                refine rtT ?_
                refine rtB (rtT ?_)
                replace hR := escL hR hE1
                refine rtT ?_
                have hR := Option.some.inj hR; subst hR
                exact hQ _ _ (LS.mk [(4, .sc (.bool false))] (lblks 0 []) 0) (.sc (.bool false)) [] (.inr rfl) (Weak.turnL [] [] rfl rfl (tc (.sc _) tn) mn) (ro1 (rvT (v := .sc (.bool false)) rfl)) rfl rfl (.sc _) pn
              · refine AWP.skip ?_
                refine skB ?_
                refine skT ?_
                refine ⟨z14.1, (Option.some.inj hR).symm, ?_⟩
                exact Weak.turnL [(0, 0), (1, 0), (2, 0)] [] rfl rfl (tc (trP' rfl rfl rfl rfl) (tc (trP' rfl rfl rfl rfl) (tc (trP' rfl rfl rfl rfl) (tc (.sc _) tn)))) (mc rfl (.box rfl (.cons (.sc _) (.cons (.sc _) (.cons (.sc _) (.cons (.sc _) (.nil))))) rfl) (mc rfl (.box rfl (.cons (.sc _) (.cons (.sc _) (.cons (.sc _) (.cons (.sc _) (.cons (.sc _) (.cons (.sc _) (.cons (.sc _) (.cons (.sc _) (.cons (.sc _) (.nil)))))))))) rfl) (mc rfl (.box rfl (.cons (.sc _) (.cons (.sc _) (.cons (.sc _) (.cons (.sc _) (.cons (.sc _) (.cons (.sc _) (.cons (.sc _) (.cons (.sc _) (.cons (.sc _) (.nil)))))))))) rfl) mn)))
      · refine AWP.rgC 11 rfl rfl ?_
        refine pu (v := .sc _) rfl rfl (fun _ => rfl) ?_
        refine pu (v := .sc _) rfl rfl (fun _ => rfl) ?_
        refine RunC.fin ?_
        refine ⟨(z4, w6 (s1.2 + 1)), (Option.some.inj hR).symm, ?_⟩
        exact Weak.turnL [(0, 0), (1, 0), (2, 0)] [] rfl rfl (tc (trP' rfl rfl rfl rfl) (tc (trP' rfl rfl rfl rfl) (tc (trP' rfl rfl rfl rfl) (tc (.sc _) tn)))) (mc rfl (.box rfl (.cons (.sc _) (.cons (.sc _) (.cons (.sc _) (.cons (.sc _) (.nil))))) rfl) (mc rfl (.box rfl (.cons (.sc _) (.cons (.sc _) (.cons (.sc _) (.cons (.sc _) (.cons (.sc _) (.cons (.sc _) (.cons (.sc _) (.cons (.sc _) (.cons (.sc _) (.nil)))))))))) rfl) (mc rfl (.box rfl (.cons (.sc _) (.cons (.sc _) (.cons (.sc _) (.cons (.sc _) (.cons (.sc _) (.cons (.sc _) (.cons (.sc _) (.cons (.sc _) (.cons (.sc _) (.nil)))))))))) rfl) mn)))
    · refine AWP.exit ?_
      refine exT ?_
      refine exT ?_
      refine exH (skT ?_)
      refine ⟨s1.1, (Option.some.inj hR).symm, ?_⟩
      exact Weak.turnL [(0, 0)] [] rfl rfl (tc (trP' rfl rfl rfl rfl) tn) (mc rfl (.box rfl (.cons (.sc _) (.cons (.sc _) (.cons (.sc _) (.cons (.sc _) (.nil))))) rfl) mn)
  · refine skT ?_
    refine AWP.joinX (fun z19 : Bool => LS.mk [(4, .sc (.bool z19))] (lblks 0 []) 0) hR (fun o19 hR => ?_) fun z19 hR => ?_
    · refine AWP.rgD 113 [0, 1, 3, 7, 15, 31, 63, 127, 255, 511, 63, 1087, 3135, 7231, 16383, 63, 32831, 98367, 229439, 63, 524351, 1572927, 3670079, 8388607, 16777215, 33554431, 67108863, 134217727] ⟨[], [none, none, none, some [0], none, none, none, none, none, some [0], none, none, none, some [0], none, none, none, none, some [0], none, none, none, some [0], none, none, none, none, none]⟩ hmix (by kernel_rfl) rfl rfl ?_
      refine pu (v := .ptr _ _ _) rfl rfl (fun _ => rfl) ?_
      refine pu (v := .ptr _ _ _) rfl rfl (fun _ => rfl) ?_
      refine fa rfl rfl ti95 rfl rfl ti2 rfl ?_
      refine ldB (v := .sc _) rfl rfl rfl rfl ti2 rfl rfl ?_
      refine pu (v := .sc _) rfl rfl (fun _ => rfl) ?_
      refine pu (v := .sc _) rfl rfl (fun _ => rfl) ?_
      refine brR hR (fun h20 hR => ?_) fun h20 hR => ?_
      · refine pu (v := .ptr _ _ _) (wtG rfl rfl rfl h20) rfl (fun _ => rfl) ?_
        refine pu (v := .ptr _ _ _) (wtG rfl rfl rfl h20) rfl (fun _ => rfl) ?_
        refine fa (wtG rfl rfl rfl h20) rfl ti95 rfl rfl ti2 rfl ?_
        refine ldB (v := .sc _) (wtG rfl rfl rfl h20) rfl rfl rfl ti2 rfl rfl ?_
        refine pu (v := .ptr _ _ _) (wtG rfl rfl rfl h20) rfl (fun _ => rfl) ?_
        refine pu (v := .ptr _ _ _) (wtG rfl rfl rfl h20) rfl (fun _ => rfl) ?_
        refine fa (wtG rfl rfl rfl h20) rfl ti95 rfl rfl ti2 rfl ?_
        refine ldB (v := .sc _) (wtG rfl rfl rfl h20) rfl rfl rfl ti2 rfl rfl ?_
        obtain ⟨r21, hr21, hR⟩ := bindE hR
        refine cls [] (wtG rfl rfl rfl h20) rfl cb49 (ok49 z2.lo z2.above _ hr21) (.cons (.sc _) (.cons (.sc _) (.nil))) (.inr rfl) rfl ?_
        refine pu (v := .ptr _ _ _) (wtG rfl rfl rfl h20) rfl (fun _ => rfl) ?_
        refine pu (v := .ptr _ _ _) (wtG rfl rfl rfl h20) rfl (fun _ => rfl) ?_
        refine fa (wtG rfl rfl rfl h20) rfl ti95 rfl rfl ti2 rfl ?_
        refine ldB (v := .sc _) (wtG rfl rfl rfl h20) rfl rfl rfl ti2 rfl rfl ?_
        refine pu (v := .ptr _ _ _) (wtG rfl rfl rfl h20) rfl (fun _ => rfl) ?_
        refine pu (v := .ptr _ _ _) (wtG rfl rfl rfl h20) rfl (fun _ => rfl) ?_
        refine fa (wtG rfl rfl rfl h20) rfl ti95 rfl rfl ti2 rfl ?_
        refine ldB (v := .sc _) (wtG rfl rfl rfl h20) rfl rfl rfl ti2 rfl rfl ?_
        obtain ⟨r22, hr22, hR⟩ := bindE hR
        refine cls [] (wtG rfl rfl rfl h20) rfl cb49 (ok49 z2.hi z2.under _ hr22) (.cons (.sc _) (.cons (.sc _) (.nil))) (.inr rfl) rfl ?_
        obtain ⟨r23, hr23, hR⟩ := bindE hR
        refine cls [] (wtG rfl rfl rfl h20) rfl cb50 (ok50 r21 r22 _ hr23) (.cons (.agg (.cons (.sc _) (.cons (.sc _) (.nil))) rfl) (.cons (.agg (.cons (.sc _) (.cons (.sc _) (.nil))) rfl) (.nil))) (.inr rfl) rfl ?_
        refine pu (v := .sc _) (wtG rfl rfl rfl h20) rfl (fun _ => rfl) ?_
        refine pkT (v := .sc (.bool (decide (r23 ≤ 0)))) rfl rfl h20 rfl ?_
        refine pu (v := .sc _) rfl rfl (fun _ => rfl) ?_
        refine RunC.fin ?_
        have hR := Option.some.inj hR; subst hR
        exact Weak.turnL [] [] rfl rfl (tc (.sc _) tn) mn
      · refine sk (skW rfl rfl rfl h20) ?_
        refine sk (skW rfl rfl rfl h20) ?_
        refine sk (skW rfl rfl rfl h20) ?_
        refine sk (skW rfl rfl rfl h20) ?_
        refine sk (skW rfl rfl rfl h20) ?_
        refine sk (skW rfl rfl rfl h20) ?_
        refine sk (skW rfl rfl rfl h20) ?_
        refine sk (skW rfl rfl rfl h20) ?_
        refine sk (skW rfl rfl rfl h20) ?_
        refine sk (skW rfl rfl rfl h20) ?_
        refine sk (skW rfl rfl rfl h20) ?_
        refine sk (skW rfl rfl rfl h20) ?_
        refine sk (skW rfl rfl rfl h20) ?_
        refine sk (skW rfl rfl rfl h20) ?_
        refine sk (skW rfl rfl rfl h20) ?_
        refine sk (skW rfl rfl rfl h20) ?_
        refine sk (skW rfl rfl rfl h20) ?_
        refine sk (skW rfl rfl rfl h20) ?_
        refine sk (skW rfl rfl rfl h20) ?_
        refine sk (skW rfl rfl rfl h20) ?_
        refine pkF (v := .sc (.bool false)) rfl rfl h20 rfl ?_
        refine pu (v := .sc _) rfl rfl (fun _ => rfl) ?_
        refine RunC.fin ?_
        have hR := Option.some.inj hR; subst hR
        exact Weak.turnL [] [] rfl rfl (tc (.sc _) tn) mn
    · refine AWP.ret ?_
      have hR := Option.some.inj hR; subst hR
      exact hQ _ _ (LS.mk [(4, .sc (.bool z19))] (lblks 0 []) 0) (.sc (.bool z19)) [] (.inr rfl) (Weak.turnL [] [] rfl rfl (tc (.sc _) tn) mn) (ro1 (rvT (v := .sc (.bool z19)) rfl)) rfl rfl (.sc _) pn
theorem ok27 (v : Vec) (r : (Bound × Bound × Bound)) (hR : predict_Exact v = some r) : FnP Try.prog 27 [aggV false v] (aggV (α := Bound × Bound × Bound) true r) := by
  refine fnP_of (FnX.walk Try.func27 rfl 13 0 (by simp [Try.ntmps27]) rfl fun W S F Q hQ => ?_)
  unfold predict_Exact at hR
  refine AWP.sq ?_
  refine AWP.rgC 8 rfl rfl ?_
  refine bx (cs := _) 0 rfl rfl rfl ?_
  refine al (cs := [.sc (.int .i64 0), .sc (.int .i64 0), .sc (.bool false), .sc (.int .i64 0), .sc (.int .i64 0), .sc (.bool false), .sc (.int .i64 0), .sc (.int .i64 0), .sc (.bool false)]) 4 rfl rfl ti46 rfl rfl ?_
  refine RunC.fin ?_
  refine AWP.sq ?_
  refine AWP.rgD 52 [0, 1, 3, 0, 8, 31, 0, 64, 255, 511, 1023] ⟨[], [none, some [0], none, none, some [0], none, none, some [0], none, none, some [4]]⟩ hmix (by kernel_rfl) rfl rfl ?_
  refine fa rfl rfl ti29 rfl rfl ti2 rfl ?_
  refine ldB (v := .sc _) rfl rfl rfl rfl ti2 rfl rfl ?_
  obtain ⟨r1, hr1, hR⟩ := bindE hR
  refine cls [] rfl rfl cb41 (ok41 v.X _ hr1) (.cons (.sc _) (.nil)) (.inr rfl) rfl ?_
  refine fa rfl rfl ti29 rfl rfl ti2 rfl ?_
  refine ldB (v := .sc _) rfl rfl rfl rfl ti2 rfl rfl ?_
  obtain ⟨r2, hr2, hR⟩ := bindE hR
  refine cls [] rfl rfl cb41 (ok41 v.Y _ hr2) (.cons (.sc _) (.nil)) (.inr rfl) rfl ?_
  refine fa rfl rfl ti29 rfl rfl ti2 rfl ?_
  refine ldB (v := .sc _) rfl rfl rfl rfl ti2 rfl rfl ?_
  obtain ⟨r3, hr3, hR⟩ := bindE hR
  refine cls [] rfl rfl cb41 (ok41 v.Z _ hr3) (.cons (.sc _) (.nil)) (.inr rfl) rfl ?_
  refine buA (cs := [.sc (.int .i64 r1.Lo), .sc (.int .i64 r1.Hi), .sc (.bool r1.Unknown), .sc (.int .i64 r2.Lo), .sc (.int .i64 r2.Hi), .sc (.bool r2.Unknown), .sc (.int .i64 r3.Lo), .sc (.int .i64 r3.Hi), .sc (.bool r3.Unknown)]) rfl ti46 rfl ti44 rfl rfl ?_
  refine stB (cs' := [.sc (.int .i64 r1.Lo), .sc (.int .i64 r1.Hi), .sc (.bool r1.Unknown), .sc (.int .i64 r2.Lo), .sc (.int .i64 r2.Hi), .sc (.bool r2.Unknown), .sc (.int .i64 r3.Lo), .sc (.int .i64 r3.Hi), .sc (.bool r3.Unknown)]) rfl rfl rfl rfl ti46 rfl rfl rfl rfl rfl ?_
  refine RunC.fin ?_
  refine AWP.ret ?_
  have hR := Option.some.inj hR; subst hR
  exact hQ _ _ (LS.mk [(2, .ptr 0 0 0)] (lblks 0 [boxB (α := Bound × Bound × Bound) true (r1, r2, r3)]) 1) (aggV (α := Bound × Bound × Bound) true (r1, r2, r3)) [] (.inr rfl) (Weak.turnL [(4, 0)] [] rfl rfl (tc (trP' rfl rfl rfl rfl) tn) (mc rfl (.box rfl (.cons (.sc _) (.cons (.sc _) (.cons (.sc _) (.cons (.sc _) (.cons (.sc _) (.cons (.sc _) (.cons (.sc _) (.cons (.sc _) (.cons (.sc _) (.nil)))))))))) rfl) mn)) (ro1 (rvC (v := aggV (α := Bound × Bound × Bound) true (r1, r2, r3)) rfl rfl ti46 rfl)) rfl rfl ldA pn
theorem ok34 (from_ : Vec) (p : Bound × Bound × Bound) (r : Box) (hR : identify_box from_ p = some r) : FnP Try.prog 34 [aggV false from_, aggV false p] (aggV (α := Box) true r) := by
  refine fnP_of (FnX.walk Try.func34 rfl 24 0 (by simp [Try.ntmps34]) rfl fun W S F Q hQ => ?_)
  unfold identify_box at hR
  refine AWP.sq ?_
  refine AWP.rgC 12 rfl rfl ?_
  refine bx (cs := _) 0 rfl rfl rfl ?_
  refine bx (cs := _) 4 rfl rfl rfl ?_
  refine al (cs := [.sc (.int .i64 0), .sc (.int .i64 0), .sc (.bool false), .sc (.int .i64 0), .sc (.int .i64 0), .sc (.bool false), .sc (.int .i64 0), .sc (.int .i64 0), .sc (.bool false)]) 8 rfl rfl ti51 rfl rfl ?_
  refine RunC.fin ?_
  refine AWP.sq ?_
  refine AWP.rgC 28 rfl rfl ?_
  refine ldB (v := .agg _) rfl rfl rfl rfl ti29 rfl rfl ?_
  obtain ⟨r1, hr1, hR⟩ := bindE hR
  refine cls [] rfl rfl cb27 (ok27 from_ _ hr1) (.cons (.agg (.cons (.sc _) (.cons (.sc _) (.cons (.sc _) (.nil)))) rfl) (.nil)) (.inr rfl) rfl ?_
  refine al (cs := [.sc (.int .i64 0), .sc (.int .i64 0), .sc (.bool false), .sc (.int .i64 0), .sc (.int .i64 0), .sc (.bool false), .sc (.int .i64 0), .sc (.int .i64 0), .sc (.bool false)]) 20 rfl rfl ti46 rfl rfl ?_
  refine stB (cs' := [.sc (.int .i64 r1.1.Lo), .sc (.int .i64 r1.1.Hi), .sc (.bool r1.1.Unknown), .sc (.int .i64 r1.2.1.Lo), .sc (.int .i64 r1.2.1.Hi), .sc (.bool r1.2.1.Unknown), .sc (.int .i64 r1.2.2.Lo), .sc (.int .i64 r1.2.2.Hi), .sc (.bool r1.2.2.Unknown)]) rfl rfl rfl rfl ti46 rfl rfl rfl rfl rfl ?_
  refine RunC.fin ?_
  refine AWP.sq ?_
  refine AWP.rgD 96 [0, 1, 0, 4, 15, 0, 32, 0, 128, 511, 0, 1024, 0, 4096, 16383, 32767, 65535] ⟨[], [none, some [4], none, some [20], none, none, some [4], none, some [20], none, none, some [4], none, some [20], none, none, some [8]]⟩ hmix (by kernel_rfl) rfl rfl ?_
  refine iaP (o' := 0) rfl rfl rfl ti46 rfl ti44 (by decide) rfl ?_
  refine ldB (v := .agg _) rfl rfl rfl rfl ti44 rfl rfl ?_
  refine iaP (o' := 0) rfl rfl rfl ti46 rfl ti44 (by decide) rfl ?_
  refine ldB (v := .agg _) rfl rfl rfl rfl ti44 rfl rfl ?_
  obtain ⟨r2, hr2, hR⟩ := bindE hR
  refine cls [] rfl rfl cb51 (ok51 p.1 r1.1 _ hr2) (.cons (.agg (.cons (.sc _) (.cons (.sc _) (.cons (.sc _) (.nil)))) rfl) (.cons (.agg (.cons (.sc _) (.cons (.sc _) (.cons (.sc _) (.nil)))) rfl) (.nil))) (.inr rfl) rfl ?_
  refine iaP (o' := 3) rfl rfl rfl ti46 rfl ti44 (by decide) rfl ?_
  refine ldB (v := .agg _) rfl rfl rfl rfl ti44 rfl rfl ?_
  refine iaP (o' := 3) rfl rfl rfl ti46 rfl ti44 (by decide) rfl ?_
  refine ldB (v := .agg _) rfl rfl rfl rfl ti44 rfl rfl ?_
  obtain ⟨r3, hr3, hR⟩ := bindE hR
  refine cls [] rfl rfl cb51 (ok51 p.2.1 r1.2.1 _ hr3) (.cons (.agg (.cons (.sc _) (.cons (.sc _) (.cons (.sc _) (.nil)))) rfl) (.cons (.agg (.cons (.sc _) (.cons (.sc _) (.cons (.sc _) (.nil)))) rfl) (.nil))) (.inr rfl) rfl ?_
  refine iaP (o' := 6) rfl rfl rfl ti46 rfl ti44 (by decide) rfl ?_
  refine ldB (v := .agg _) rfl rfl rfl rfl ti44 rfl rfl ?_
  refine iaP (o' := 6) rfl rfl rfl ti46 rfl ti44 (by decide) rfl ?_
  refine ldB (v := .agg _) rfl rfl rfl rfl ti44 rfl rfl ?_
  obtain ⟨r4, hr4, hR⟩ := bindE hR
  refine cls [] rfl rfl cb51 (ok51 p.2.2 r1.2.2 _ hr4) (.cons (.agg (.cons (.sc _) (.cons (.sc _) (.cons (.sc _) (.nil)))) rfl) (.cons (.agg (.cons (.sc _) (.cons (.sc _) (.cons (.sc _) (.nil)))) rfl) (.nil))) (.inr rfl) rfl ?_
  refine bu (cs := [.sc (.int .i64 r2.Lo), .sc (.int .i64 r2.Hi), .sc (.bool r2.Unknown), .sc (.int .i64 r3.Lo), .sc (.int .i64 r3.Hi), .sc (.bool r3.Unknown), .sc (.int .i64 r4.Lo), .sc (.int .i64 r4.Hi), .sc (.bool r4.Unknown)]) rfl bt51 rfl ?_
  refine stB (cs' := [.sc (.int .i64 r2.Lo), .sc (.int .i64 r2.Hi), .sc (.bool r2.Unknown), .sc (.int .i64 r3.Lo), .sc (.int .i64 r3.Hi), .sc (.bool r3.Unknown), .sc (.int .i64 r4.Lo), .sc (.int .i64 r4.Hi), .sc (.bool r4.Unknown)]) rfl rfl rfl rfl ti51 rfl rfl rfl rfl rfl ?_
  refine RunC.fin ?_
  refine AWP.ret ?_
  have hR := Option.some.inj hR; subst hR
  exact hQ _ _ (LS.mk [(4, .ptr 0 0 0)] (lblks 0 [boxB (α := Box) true (Box.mk r2 r3 r4)]) 1) (aggV (α := Box) true (Box.mk r2 r3 r4)) [] (.inr rfl) (Weak.turnL [(8, 0)] [] rfl rfl (tc (trP' rfl rfl rfl rfl) tn) (mc rfl (.box rfl (.cons (.sc _) (.cons (.sc _) (.cons (.sc _) (.cons (.sc _) (.cons (.sc _) (.cons (.sc _) (.cons (.sc _) (.cons (.sc _) (.cons (.sc _) (.nil)))))))))) rfl) mn)) (ro1 (rvC (v := aggV (α := Box) true (Box.mk r2 r3 r4)) rfl rfl ti51 rfl)) rfl rfl ldA pn
theorem ok32 (s : Seen) (l : List Body) (r : Int) (hR : identify_Check s l = some r) : FnP Try.prog 32 [aggV false s, rowV false l] (.sc (.int .i64 r)) := by
  refine fnP_of (FnX.walk Try.func32 rfl 62 0 (by simp [Try.ntmps32]) rfl fun W S F Q hQ => ?_)
  unfold identify_Check at hR
  refine AWP.sq ?_
  refine AWP.rgC 8 rfl rfl ?_
  refine bx (cs := _) 0 rfl rfl rfl ?_
  refine pu (v := .sc _) rfl rfl (fun _ => rfl) ?_
  refine RunC.fin ?_
  refine AWP.sq ?_
  refine AWP.sq ?_
  refine AWP.rgC 20 rfl rfl ?_
  refine ldB (v := .agg _) rfl rfl rfl rfl ti57 rfl rfl ?_
  obtain ⟨r1, hr1, hR⟩ := bindE hR
  refine cls [] rfl rfl cb46 (ok46 s _ hr1) (.cons (.agg (.cons (.sc _) (.cons (.sc _) (.cons (.sc _) (.cons (.sc _) (.cons (.sc _) (.cons (.sc _) (.cons (.sc _) (.cons (.sc _) (.cons (.sc _) (.cons (.sc _) (.cons (.sc _) (.cons (.sc _) (.cons (.sc _) (.cons (.sc _) (.cons (.sc _) (.cons (.sc _) (.cons (.sc _) (.cons (.sc _) (.nil))))))))))))))))))) rfl) (.nil)) (.inr rfl) rfl ?_
  refine pu (v := .sc _) rfl rfl (fun _ => rfl) ?_
  refine RunC.fin ?_
  refine AWP.sq ?_
  refine AWP.rgC 28 rfl rfl ?_
  refine pu (v := .sc _) rfl rfl (fun _ => rfl) ?_
  refine pu (v := .sc _) rfl rfl (fun _ => rfl) ?_
  refine RunC.fin ?_
  refine AWP.cd hR rfl (fun h2 hR => ?_) fun h2 hR => ?_
  · refine AWP.sq ?_
    refine AWP.rgC 36 rfl rfl ?_
    refine pu (v := .sc _) rfl rfl (fun _ => rfl) ?_
    refine pu (v := .sc _) rfl rfl (fun _ => rfl) ?_
    refine RunC.fin ?_
    refine AWP.ret ?_
    refine rtT ?_
    have hR := Option.some.inj hR; subst hR
    exact hQ _ _ (LS.mk [(4, .sc (.int .i64 r1))] (lblks 0 []) 0) (.sc (.int .i64 r1)) [] (.inr rfl) (Weak.turnL [] [] rfl rfl (tc (.sc _) tn) mn) (ro1 (rvT (v := .sc (.int .i64 r1)) rfl)) rfl rfl (.sc _) pn
  · refine AWP.skip ?_
    refine skT ?_
    refine AWP.sq ?_
    refine AWP.sq ?_
    refine AWP.rgC 60 rfl rfl ?_
    refine fa rfl rfl ti57 rfl rfl ti38 rfl ?_
    refine fa rfl rfl ti38 rfl rfl ti36 rfl ?_
    refine ldB (v := .sc _) rfl rfl rfl rfl ti36 rfl rfl ?_
    refine fa rfl rfl ti57 rfl rfl ti38 rfl ?_
    refine fa rfl rfl ti38 rfl rfl ti36 rfl ?_
    refine ldB (v := .sc _) rfl rfl rfl rfl ti36 rfl rfl ?_
    refine pu (v := .sc _) rfl rfl (fun _ => rfl) ?_
    refine pu (v := .sc _) rfl rfl (fun _ => rfl) ?_
    refine RunC.fin ?_
    refine AWP.cd hR rfl (fun h3 hR => ?_) fun h3 hR => ?_
    · refine AWP.sq ?_
      refine AWP.rgC 64 rfl rfl ?_
      refine pu (v := .sc _) rfl rfl (fun _ => rfl) ?_
      refine RunC.fin ?_
      refine AWP.ret ?_
      refine rtT ?_
      have hR := Option.some.inj hR; subst hR
      exact hQ _ _ (LS.mk [(4, .sc (.int .i64 1))] (lblks 0 []) 0) (.sc (.int .i64 1)) [] (.inr rfl) (Weak.turnL [] [] rfl rfl (tc (.sc _) tn) mn) (ro1 (rvT (v := .sc (.int .i64 1)) rfl)) rfl rfl (.sc _) pn
    · refine AWP.skip ?_
      refine skT ?_
      refine AWP.sq ?_
      refine AWP.sq ?_
      refine AWP.rgC 72 rfl rfl ?_
      refine pu (v := rowV _ l) rfl rfl (fun _ => rfl) ?_
      refine lenL (α := Body) rfl rfl ti26 rfl ?_
      refine pu (v := .sc _) rfl rfl (fun _ => rfl) ?_
      refine RunC.fin ?_
      refine AWP.cd hR rfl (fun h4 hR => ?_) fun h4 hR => ?_
      · refine AWP.sq ?_
        refine AWP.rgC 76 rfl rfl ?_
        refine pu (v := .sc _) rfl rfl (fun _ => rfl) ?_
        refine RunC.fin ?_
        refine AWP.ret ?_
        refine rtT ?_
        have hR := Option.some.inj hR; subst hR
        exact hQ _ _ (LS.mk [(4, .sc (.int .i64 2))] (lblks 0 []) 0) (.sc (.int .i64 2)) [] (.inr rfl) (Weak.turnL [] [] rfl rfl (tc (.sc _) tn) mn) (ro1 (rvT (v := .sc (.int .i64 2)) rfl)) rfl rfl (.sc _) pn
      · refine AWP.skip ?_
        refine skT ?_
        refine AWP.sq ?_
        refine AWP.sq ?_
        refine AWP.rgC 84 rfl rfl ?_
        refine pu (v := rowV _ l) rfl rfl (fun _ => rfl) ?_
        refine lenL (α := Body) rfl rfl ti26 rfl ?_
        refine pu (v := .sc _) rfl rfl (fun _ => rfl) ?_
        refine RunC.fin ?_
        refine AWP.loopK' (fun s5 : Int => LS.mk [(26, rowV (α := Body) false l), (27, .sc (.int .i64 (l.length : Int))), (28, .sc (.int .i64 s5))] (lblks 0 []) 0) (fun z6 : Unit => LS.mk [] (lblks 0 []) 0) (identify_Check.l1 l) hR (s0 := 0) (Weak.turnL [] [] rfl rfl (tc trR1 (tc (.sc _) (tc (.sc _) tn))) mn) (fun s5 o5 hR hE5 => ?_) fun z6 hR => ?_
        · unfold identify_Check.l1 at hR
          refine AWP.sq ?_
          refine AWP.rgC 4 rfl rfl ?_
          refine pu (v := .sc _) rfl rfl (fun _ => rfl) ?_
          refine RunC.fin ?_
          refine AWP.sq ?_
          refine AWP.cd hR rfl (fun h7 hR => ?_) fun h7 hR => ?_
          · refine AWP.skip ?_
            refine skT ?_
            refine AWP.sq ?_
            refine AWP.block ?_
            refine AWP.sq ?_
            refine AWP.rgC 20 rfl rfl ?_
            obtain ⟨h8, hR⟩ := chkE hR
            refine ixL (α := Body) rfl rfl rfl ti26 rfl ti32 rfl h8 ?_
            refine ldR (v := .agg _) rfl rfl ti32 rfl ?_
            refine al (cs := [.sc (.int .i64 0), .sc (.int .i64 0), .sc (.int .i64 0), .sc (.int .i64 0), .sc (.int .i64 0), .sc (.int .i64 0), .sc (.int .i64 0), .sc (.int .i64 0)]) 12 rfl rfl ti32 rfl rfl ?_
            refine stB (cs' := [.sc (.int .i64 (gt l s5).ID), .sc (.int .i64 (gt l s5).Was.X), .sc (.int .i64 (gt l s5).Was.Y), .sc (.int .i64 (gt l s5).Was.Z), .sc (.int .i64 (gt l s5).Here.X), .sc (.int .i64 (gt l s5).Here.Y), .sc (.int .i64 (gt l s5).Here.Z), .sc (.int .i64 (gt l s5).Rate)]) rfl rfl rfl rfl ti32 rfl rfl rfl rfl rfl ?_
            refine RunC.fin ?_
            refine AWP.sq ?_
            refine AWP.rgC 48 rfl rfl ?_
            refine fa rfl rfl ti32 rfl rfl ti29 rfl ?_
            refine ldB (v := .agg _) rfl rfl rfl rfl ti29 rfl rfl ?_
            refine fa rfl rfl ti32 rfl rfl ti29 rfl ?_
            refine ldB (v := .agg _) rfl rfl rfl rfl ti29 rfl rfl ?_
            refine bs (α := Vec) 36 true ([(gt l s5).Was, (gt l s5).Here] : List Vec) rfl rfl ti92 rfl ti29 rfl rfl rfl rfl rfl ?_
            refine lenS (α := Vec) rfl rfl ti92 rfl ?_
            refine pu (v := .sc _) rfl rfl (fun _ => rfl) ?_
            refine RunC.fin ?_
            refine AWP.loopK' (fun s9 : Int => LS.mk [(26, rowV (α := Body) false l), (27, .sc (.int .i64 (l.length : Int))), (28, .sc (.int .i64 s5)), (36, slV Vec 0 0 0 ([(gt l s5).Was, (gt l s5).Here] : List Vec).length), (37, .sc (.int .i64 (([(gt l s5).Was, (gt l s5).Here] : List Vec).length : Int))), (38, .sc (.int .i64 s9))] (lblks 0 [arrB (α := Vec) 29 0 true ([(gt l s5).Was, (gt l s5).Here] : List Vec)]) 1) (fun z10 : Unit => LS.mk [(26, rowV (α := Body) false l), (27, .sc (.int .i64 (l.length : Int))), (28, .sc (.int .i64 s5))] (lblks 0 []) 0) (identify_Check.l2 l s5) hR (s0 := 0) (Weak.turnL [(36, 0)] [] rfl rfl (tc trR1 (tc (.sc _) (tc (.sc _) (tc (trS' rfl rfl rfl rfl rfl) (tc (.sc _) (tc (.sc _) tn)))))) (mc rfl (btrA' rfl) mn)) (fun s9 o9 hR hE9 => ?_) fun z10 hR => ?_
            · unfold identify_Check.l2 at hR
              refine AWP.sq ?_
              refine AWP.rgC 5 rfl rfl ?_
              obtain ⟨v11, ev11, hR⟩ := letE hR
              refine pu (v := .sc _) rfl rfl (fun _ => puB ev11) ?_
              refine RunC.fin ?_
              refine AWP.sq ?_
              refine AWP.cd hR rfl (fun h12 hR => ?_) fun h12 hR => ?_
              · refine AWP.skip ?_
                refine skT ?_
                refine AWP.sq ?_
                refine AWP.block ?_
                refine AWP.sq ?_
                refine AWP.rgC 21 rfl rfl ?_
                obtain ⟨h13, hR⟩ := chkE hR
                refine ixS0 (α := Vec) rfl rfl rfl ti92 rfl ti29 rfl h13 ?_
                refine ldE (α := Vec) (v := .agg _) rfl rfl rfl (ixlt h13) ti29 rfl rfl rfl rfl ?_
                refine al (cs := [.sc (.int .i64 0), .sc (.int .i64 0), .sc (.int .i64 0)]) 13 rfl rfl ti29 rfl rfl ?_
                refine stB (cs' := [.sc (.int .i64 (gt ([(gt l s5).Was, (gt l s5).Here] : List Vec) s9).X), .sc (.int .i64 (gt ([(gt l s5).Was, (gt l s5).Here] : List Vec) s9).Y), .sc (.int .i64 (gt ([(gt l s5).Was, (gt l s5).Here] : List Vec) s9).Z)]) rfl rfl rfl rfl ti29 rfl rfl rfl rfl rfl ?_
                refine RunC.fin ?_
                refine AWP.joinX (fun z14 : Bool => LS.mk [(26, rowV (α := Body) false l), (27, .sc (.int .i64 (l.length : Int))), (28, .sc (.int .i64 s5)), (36, slV Vec 0 0 0 ([(gt l s5).Was, (gt l s5).Here] : List Vec).length), (37, .sc (.int .i64 (([(gt l s5).Was, (gt l s5).Here] : List Vec).length : Int))), (38, .sc (.int .i64 s9)), (59, .sc (.bool z14))] (lblks 0 [arrB (α := Vec) 29 0 true ([(gt l s5).Was, (gt l s5).Here] : List Vec)]) 1) hR (fun o14 hR => ?_) fun z14 hR => ?_
                · refine AWP.rgC 93 rfl rfl ?_
                  refine fa rfl rfl ti29 rfl rfl ti2 rfl ?_
                  refine ldB (v := .sc _) rfl rfl rfl rfl ti2 rfl rfl ?_
                  refine fa rfl rfl ti29 rfl rfl ti2 rfl ?_
                  refine ldB (v := .sc _) rfl rfl rfl rfl ti2 rfl rfl ?_
                  refine fa rfl rfl ti29 rfl rfl ti2 rfl ?_
                  refine ldB (v := .sc _) rfl rfl rfl rfl ti2 rfl rfl ?_
                  obtain ⟨v15, ev15, hR⟩ := letE hR
                  refine pu (v := .sc _) rfl rfl (fun _ => puI ev15) ?_
                  refine pu (v := .sc _) rfl rfl (fun _ => rfl) ?_
                  refine pu (v := .sc _) rfl rfl (fun _ => rfl) ?_
                  refine brR hR (fun h16 hR => ?_) fun h16 hR => ?_
                  · refine sk (skW rfl rfl rfl h16) ?_
                    refine sk (skW rfl rfl rfl h16) ?_
                    refine sk (skW rfl rfl rfl h16) ?_
                    refine sk (skW rfl rfl rfl h16) ?_
                    refine sk (skW rfl rfl rfl h16) ?_
                    refine sk (skW rfl rfl rfl h16) ?_
                    refine sk (skW rfl rfl rfl h16) ?_
                    refine sk (skW rfl rfl rfl h16) ?_
                    refine pkT (v := .sc (.bool true)) rfl rfl h16 rfl ?_
                    refine RunC.fin ?_
                    have hR := Option.some.inj hR; subst hR
                    exact Weak.turnL [(0, 0)] [] rfl rfl (tc trR1 (tc (.sc _) (tc (.sc _) (tc (trS' rfl rfl rfl rfl rfl) (tc (.sc _) (tc (.sc _) (tc (.sc _) tn))))))) (mc rfl (btrA' rfl) mn)
                  · refine fa (wtG rfl rfl rfl h16) rfl ti29 rfl rfl ti2 rfl ?_
                    refine ldB (v := .sc _) (wtG rfl rfl rfl h16) rfl rfl rfl ti2 rfl rfl ?_
                    refine fa (wtG rfl rfl rfl h16) rfl ti29 rfl rfl ti2 rfl ?_
                    refine ldB (v := .sc _) (wtG rfl rfl rfl h16) rfl rfl rfl ti2 rfl rfl ?_
                    refine fa (wtG rfl rfl rfl h16) rfl ti29 rfl rfl ti2 rfl ?_
                    refine ldB (v := .sc _) (wtG rfl rfl rfl h16) rfl rfl rfl ti2 rfl rfl ?_
                    obtain ⟨v17, ev17, hR⟩ := letE hR
                    refine pu (v := .sc _) (wtG rfl rfl rfl h16) rfl (fun _ => puI ev17) ?_
                    refine pu (v := .sc _) (wtG rfl rfl rfl h16) rfl (fun _ => rfl) ?_
                    refine pkF (v := .sc (.bool (decide (v17 < (-4194304))))) rfl rfl h16 rfl ?_
                    refine RunC.fin ?_
                    have hR := Option.some.inj hR; subst hR
                    exact Weak.turnL [(0, 0)] [] rfl rfl (tc trR1 (tc (.sc _) (tc (.sc _) (tc (trS' rfl rfl rfl rfl rfl) (tc (.sc _) (tc (.sc _) (tc (.sc _) tn))))))) (mc rfl (btrA' rfl) mn)
                · refine AWP.cd hR rfl (fun h18 hR => ?_) fun h18 hR => ?_
                  · refine AWP.sq ?_
                    refine AWP.rgC 5 rfl rfl ?_
                    refine pu (v := .sc _) rfl rfl (fun _ => rfl) ?_
                    refine RunC.fin ?_
                    refine AWP.ret ?_
                    refine rtB ?_
                    refine rtT ?_
                    refine rtT ?_
                    refine rtB (rtT ?_)
                    replace hR := escL hR hE9
                    refine rtB ?_
                    refine rtT ?_
                    refine rtT ?_
                    refine rtB (rtT ?_)
                    replace hR := escL hR hE5
                    refine rtT ?_
                    have hR := Option.some.inj hR; subst hR
                    exact hQ _ _ (LS.mk [(4, .sc (.int .i64 4))] (lblks 0 []) 0) (.sc (.int .i64 4)) [] (.inr rfl) (Weak.turnL [] [] rfl rfl (tc (.sc _) tn) mn) (ro1 (rvT (v := .sc (.int .i64 4)) rfl)) rfl rfl (.sc _) pn
                  · refine AWP.skip ?_
                    refine skB ?_
                    refine skT ?_
                    refine AWP.rgC 9 rfl rfl ?_
                    refine pu (v := .sc _) rfl rfl (fun _ => rfl) ?_
                    refine pu (v := .sc _) rfl rfl (fun _ => rfl) ?_
                    refine RunC.fin ?_
                    refine ⟨(w6 (s9 + 1)), (Option.some.inj hR).symm, ?_⟩
                    exact Weak.turnL [(0, 0)] [] rfl rfl (tc trR1 (tc (.sc _) (tc (.sc _) (tc (trS' rfl rfl rfl rfl rfl) (tc (.sc _) (tc (.sc _) tn)))))) (mc rfl (btrA' rfl) mn)
              · refine AWP.exit ?_
                refine exT ?_
                refine exT ?_
                refine exH (skT ?_)
                refine ⟨(), (Option.some.inj hR).symm, ?_⟩
                exact Weak.turnL [] [] rfl rfl (tc trR1 (tc (.sc _) (tc (.sc _) tn))) mn
            · refine skB ?_
              refine skT ?_
              refine AWP.rgC 8 rfl rfl ?_
              refine pu (v := .sc _) rfl rfl (fun _ => rfl) ?_
              refine pu (v := .sc _) rfl rfl (fun _ => rfl) ?_
              refine RunC.fin ?_
              refine ⟨(w6 (s5 + 1)), (Option.some.inj hR).symm, ?_⟩
              exact Weak.turnL [] [] rfl rfl (tc trR1 (tc (.sc _) (tc (.sc _) tn))) mn
          · refine AWP.exit ?_
            refine exT ?_
            refine exT ?_
            refine exH (skT ?_)
            refine ⟨(), (Option.some.inj hR).symm, ?_⟩
            exact Weak.turnL [] [] rfl rfl tn mn
        · refine skT ?_
          refine AWP.sq ?_
          refine AWP.rgC 4 rfl rfl ?_
          refine pu (v := .sc _) rfl rfl (fun _ => rfl) ?_
          refine RunC.fin ?_
          refine AWP.ret ?_
          have hR := Option.some.inj hR; subst hR
          exact hQ _ _ (LS.mk [(4, .sc (.int .i64 0))] (lblks 0 []) 0) (.sc (.int .i64 0)) [] (.inr rfl) (Weak.turnL [] [] rfl rfl (tc (.sc _) tn) mn) (ro1 (rvT (v := .sc (.int .i64 0)) rfl)) rfl rfl (.sc _) pn
theorem ok30 (s1_ : List Int) (s2_ : List Int) (r : Bool) (hR : slices_Equal_Int s1_ s2_ = some r) : FnP Try.prog 30 [rowV false s1_, rowV false s2_] (.sc (.bool r)) := by
  refine fnP_of (FnX.walk Try.func30 rfl 26 0 (by simp [Try.ntmps30]) rfl fun W S F Q hQ => ?_)
  unfold slices_Equal_Int at hR
  refine AWP.sq ?_
  refine AWP.rgC 4 rfl rfl ?_
  refine pu (v := .sc _) rfl rfl (fun _ => rfl) ?_
  refine RunC.fin ?_
  refine AWP.sq ?_
  refine AWP.sq ?_
  refine AWP.rgC 24 rfl rfl ?_
  refine pu (v := rowV _ s1_) rfl rfl (fun _ => rfl) ?_
  refine lenL (α := Int) rfl rfl ti22 rfl ?_
  refine pu (v := rowV _ s2_) rfl rfl (fun _ => rfl) ?_
  refine lenL (α := Int) rfl rfl ti22 rfl ?_
  refine pu (v := .sc _) rfl rfl (fun _ => rfl) ?_
  refine RunC.fin ?_
  refine AWP.cd hR rfl (fun h1 hR => ?_) fun h1 hR => ?_
  · refine AWP.sq ?_
    refine AWP.rgC 28 rfl rfl ?_
    refine pu (v := .sc _) rfl rfl (fun _ => rfl) ?_
    refine RunC.fin ?_
    refine AWP.ret ?_
    refine rtT ?_
    have hR := Option.some.inj hR; subst hR
    exact hQ _ _ (LS.mk [(4, .sc (.bool false))] (lblks 0 []) 0) (.sc (.bool false)) [] (.inr rfl) (Weak.turnL [] [] rfl rfl (tc (.sc _) tn) mn) (ro1 (rvT (v := .sc (.bool false)) rfl)) rfl rfl (.sc _) pn
  · refine AWP.skip ?_
    refine skT ?_
    refine AWP.sq ?_
    refine AWP.sq ?_
    refine AWP.rgC 36 rfl rfl ?_
    refine pu (v := rowV _ s1_) rfl rfl (fun _ => rfl) ?_
    refine lenL (α := Int) rfl rfl ti22 rfl ?_
    refine pu (v := .sc _) rfl rfl (fun _ => rfl) ?_
    refine RunC.fin ?_
    refine AWP.loopK' (fun s2 : Int => LS.mk [(0, rowV (α := Int) false s1_), (1, rowV (α := Int) false s2_), (12, .sc (.int .i64 (s1_.length : Int))), (13, .sc (.int .i64 s2))] (lblks 0 []) 0) (fun z3 : Unit => LS.mk [] (lblks 0 []) 0) (slices_Equal_Int.l1 s1_ s2_) hR (s0 := 0) (Weak.turnL [] [] rfl rfl (tc trR1 (tc trR1 (tc (.sc _) (tc (.sc _) tn)))) mn) (fun s2 o2 hR hE2 => ?_) fun z3 hR => ?_
    · unfold slices_Equal_Int.l1 at hR
      refine AWP.sq ?_
      refine AWP.rgC 4 rfl rfl ?_
      refine pu (v := .sc _) rfl rfl (fun _ => rfl) ?_
      refine RunC.fin ?_
      refine AWP.sq ?_
      refine AWP.cd hR rfl (fun h4 hR => ?_) fun h4 hR => ?_
      · refine AWP.skip ?_
        refine skT ?_
        refine AWP.sq ?_
        refine AWP.block ?_
        refine AWP.sq ?_
        refine AWP.rgC 12 rfl rfl ?_
        refine pu (v := .sc _) rfl rfl (fun _ => rfl) ?_
        refine pu (v := .sc _) rfl rfl (fun _ => rfl) ?_
        refine RunC.fin ?_
        refine AWP.sq ?_
        refine AWP.rgD 48 [0, 0, 3, 7, 0, 0, 48, 112, 255] ⟨[], [none, none, none, some [], none, none, none, some [], none]⟩ hmix (by kernel_rfl) rfl rfl ?_
        refine pu (v := rowV _ s1_) rfl rfl (fun _ => rfl) ?_
        refine pu (v := .sc _) rfl rfl (fun _ => rfl) ?_
        obtain ⟨h5, hR⟩ := chkE hR
        refine ixL (α := Int) rfl rfl rfl ti22 rfl ti3 rfl h5 ?_
        refine ldR (v := .sc _) rfl rfl ti3 rfl ?_
        refine pu (v := rowV _ s2_) rfl rfl (fun _ => rfl) ?_
        refine pu (v := .sc _) rfl rfl (fun _ => rfl) ?_
        obtain ⟨h6, hR⟩ := chkE hR
        refine ixL (α := Int) rfl rfl rfl ti22 rfl ti3 rfl h6 ?_
        refine ldR (v := .sc _) rfl rfl ti3 rfl ?_
        refine pu (v := .sc _) rfl rfl (fun _ => rfl) ?_
        refine RunC.fin ?_
        refine AWP.cd hR rfl (fun h7 hR => ?_) fun h7 hR => ?_
        · refine AWP.sq ?_
          refine AWP.rgC 52 rfl rfl ?_
          refine pu (v := .sc _) rfl rfl (fun _ => rfl) ?_
          refine RunC.fin ?_
          refine AWP.ret ?_
          refine rtB ?_
          refine rtT ?_
          refine rtT ?_
          refine rtB (rtT ?_)
          replace hR := escL hR hE2
          refine rtT ?_
          have hR := Option.some.inj hR; subst hR
          exact hQ _ _ (LS.mk [(4, .sc (.bool false))] (lblks 0 []) 0) (.sc (.bool false)) [] (.inr rfl) (Weak.turnL [] [] rfl rfl (tc (.sc _) tn) mn) (ro1 (rvT (v := .sc (.bool false)) rfl)) rfl rfl (.sc _) pn
        · refine AWP.skip ?_
          refine skB ?_
          refine skT ?_
          refine AWP.rgC 56 rfl rfl ?_
          refine pu (v := .sc _) rfl rfl (fun _ => rfl) ?_
          refine pu (v := .sc _) rfl rfl (fun _ => rfl) ?_
          refine RunC.fin ?_
          refine ⟨(w6 (s2 + 1)), (Option.some.inj hR).symm, ?_⟩
          exact Weak.turnL [] [] rfl rfl (tc trR1 (tc trR1 (tc (.sc _) (tc (.sc _) tn)))) mn
      · refine AWP.exit ?_
        refine exT ?_
        refine exT ?_
        refine exH (skT ?_)
        refine ⟨(), (Option.some.inj hR).symm, ?_⟩
        exact Weak.turnL [] [] rfl rfl tn mn
    · refine skT ?_
      refine AWP.sq ?_
      refine AWP.rgC 4 rfl rfl ?_
      refine pu (v := .sc _) rfl rfl (fun _ => rfl) ?_
      refine RunC.fin ?_
      refine AWP.ret ?_
      have hR := Option.some.inj hR; subst hR
      exact hQ _ _ (LS.mk [(4, .sc (.bool true))] (lblks 0 []) 0) (.sc (.bool true)) [] (.inr rfl) (Weak.turnL [] [] rfl rfl (tc (.sc _) tn) mn) (ro1 (rvT (v := .sc (.bool true)) rfl)) rfl rfl (.sc _) pn
theorem ok29 (v : Vec) (r : Box) (hR : spykeep4_exact v = some r) : FnP Try.prog 29 [aggV false v] (aggV (α := Box) true r) := by
  refine fnP_of (FnX.walk Try.func29 rfl 17 0 (by simp [Try.ntmps29]) rfl fun W S F Q hQ => ?_)
  unfold spykeep4_exact at hR
  refine AWP.sq ?_
  refine AWP.rgC 8 rfl rfl ?_
  refine bx (cs := _) 0 rfl rfl rfl ?_
  refine al (cs := [.sc (.int .i64 0), .sc (.int .i64 0), .sc (.bool false), .sc (.int .i64 0), .sc (.int .i64 0), .sc (.bool false), .sc (.int .i64 0), .sc (.int .i64 0), .sc (.bool false)]) 4 rfl rfl ti51 rfl rfl ?_
  refine RunC.fin ?_
  refine AWP.sq ?_
  refine AWP.rgC 12 rfl rfl ?_
  refine pu (v := .fn _ _) rfl rfl (fun _ => rfl) ?_
  refine RunC.fin ?_
  refine AWP.sq ?_
  refine AWP.rgD 68 [0, 0, 2, 7, 0, 0, 32, 127, 0, 0, 512, 2047, 4095, 8191] ⟨[], [none, none, some [0], none, none, none, some [0], none, none, none, some [0], none, none, some [4]]⟩ hmix (by kernel_rfl) rfl rfl ?_
  refine pu (v := .fn _ _) rfl rfl (fun _ => rfl) ?_
  refine fa rfl rfl ti29 rfl rfl ti2 rfl ?_
  refine ldB (v := .sc _) rfl rfl rfl rfl ti2 rfl rfl ?_
  obtain ⟨r1, hr1, hR⟩ := bindE hR
  refine cls [] rfl rfl cb45 (ok45 v.X _ hr1) (.cons (.sc _) (.nil)) (.inr rfl) rfl ?_
  refine pu (v := .fn _ _) rfl rfl (fun _ => rfl) ?_
  refine fa rfl rfl ti29 rfl rfl ti2 rfl ?_
  refine ldB (v := .sc _) rfl rfl rfl rfl ti2 rfl rfl ?_
  obtain ⟨r2, hr2, hR⟩ := bindE hR
  refine cls [] rfl rfl cb45 (ok45 v.Y _ hr2) (.cons (.sc _) (.nil)) (.inr rfl) rfl ?_
  refine pu (v := .fn _ _) rfl rfl (fun _ => rfl) ?_
  refine fa rfl rfl ti29 rfl rfl ti2 rfl ?_
  refine ldB (v := .sc _) rfl rfl rfl rfl ti2 rfl rfl ?_
  obtain ⟨r3, hr3, hR⟩ := bindE hR
  refine cls [] rfl rfl cb45 (ok45 v.Z _ hr3) (.cons (.sc _) (.nil)) (.inr rfl) rfl ?_
  refine bu (cs := [.sc (.int .i64 r1.Lo), .sc (.int .i64 r1.Hi), .sc (.bool r1.Unknown), .sc (.int .i64 r2.Lo), .sc (.int .i64 r2.Hi), .sc (.bool r2.Unknown), .sc (.int .i64 r3.Lo), .sc (.int .i64 r3.Hi), .sc (.bool r3.Unknown)]) rfl bt51 rfl ?_
  refine stB (cs' := [.sc (.int .i64 r1.Lo), .sc (.int .i64 r1.Hi), .sc (.bool r1.Unknown), .sc (.int .i64 r2.Lo), .sc (.int .i64 r2.Hi), .sc (.bool r2.Unknown), .sc (.int .i64 r3.Lo), .sc (.int .i64 r3.Hi), .sc (.bool r3.Unknown)]) rfl rfl rfl rfl ti51 rfl rfl rfl rfl rfl ?_
  refine RunC.fin ?_
  refine AWP.ret ?_
  have hR := Option.some.inj hR; subst hR
  exact hQ _ _ (LS.mk [(2, .ptr 0 0 0)] (lblks 0 [boxB (α := Box) true (Box.mk r1 r2 r3)]) 1) (aggV (α := Box) true (Box.mk r1 r2 r3)) [] (.inr rfl) (Weak.turnL [(4, 0)] [] rfl rfl (tc (trP' rfl rfl rfl rfl) tn) (mc rfl (.box rfl (.cons (.sc _) (.cons (.sc _) (.cons (.sc _) (.cons (.sc _) (.cons (.sc _) (.cons (.sc _) (.cons (.sc _) (.cons (.sc _) (.cons (.sc _) (.nil)))))))))) rfl) mn)) (ro1 (rvC (v := aggV (α := Box) true (Box.mk r1 r2 r3)) rfl rfl ti51 rfl)) rfl rfl ldA pn
theorem ok28 (a : Bound) (b : Bound) (r : Bound) (hR : bound_Hull a b = some r) : FnP Try.prog 28 [aggV false a, aggV false b] (aggV (α := Bound) true r) := by
  refine fnP_of (FnX.walk Try.func28 rfl 20 0 (by simp [Try.ntmps28]) rfl fun W S F Q hQ => ?_)
  unfold bound_Hull at hR
  refine AWP.sq ?_
  refine AWP.rgC 12 rfl rfl ?_
  refine bx (cs := _) 0 rfl rfl rfl ?_
  refine bx (cs := _) 4 rfl rfl rfl ?_
  refine al (cs := [.sc (.int .i64 0), .sc (.int .i64 0), .sc (.bool false)]) 8 rfl rfl ti44 rfl rfl ?_
  refine RunC.fin ?_
  refine AWP.sq ?_
  refine AWP.sq ?_
  refine AWP.rgC 24 rfl rfl ?_
  refine ldB (v := .agg _) rfl rfl rfl rfl ti44 rfl rfl ?_
  refine ldB (v := .agg _) rfl rfl rfl rfl ti44 rfl rfl ?_
  obtain ⟨r1, hr1, hR⟩ := bindE hR
  refine cls [] rfl rfl cb42 (ok42 a b _ hr1) (.cons (.agg (.cons (.sc _) (.cons (.sc _) (.cons (.sc _) (.nil)))) rfl) (.cons (.agg (.cons (.sc _) (.cons (.sc _) (.cons (.sc _) (.nil)))) rfl) (.nil))) (.inr rfl) rfl ?_
  refine RunC.fin ?_
  refine AWP.cd hR rfl (fun h2 hR => ?_) fun h2 hR => ?_
  · refine AWP.sq ?_
    refine AWP.rgC 32 rfl rfl ?_
    obtain ⟨r3, hr3, hR⟩ := bindE hR
    refine cls [] rfl rfl cb43 (ok43 _ hr3) (.nil) (.inr rfl) rfl ?_
    refine stB (cs' := [.sc (.int .i64 r3.Lo), .sc (.int .i64 r3.Hi), .sc (.bool r3.Unknown)]) rfl rfl rfl rfl ti44 rfl rfl rfl rfl rfl ?_
    refine RunC.fin ?_
    refine AWP.ret ?_
    refine rtT ?_
    have hR := Option.some.inj hR; subst hR
    exact hQ _ _ (LS.mk [(4, .ptr 0 0 0)] (lblks 0 [boxB (α := Bound) true r3]) 1) (aggV (α := Bound) true r3) [] (.inr rfl) (Weak.turnL [(8, 0)] [] rfl rfl (tc (trP' rfl rfl rfl rfl) tn) (mc rfl (.box rfl (.cons (.sc _) (.cons (.sc _) (.cons (.sc _) (.nil)))) rfl) mn)) (ro1 (rvC (v := aggV (α := Bound) true r3) rfl rfl ti44 rfl)) rfl rfl ldA pn
  · refine AWP.skip ?_
    refine skT ?_
    refine AWP.sq ?_
    refine AWP.rgC 72 rfl rfl ?_
    refine fa rfl rfl ti44 rfl rfl ti42 rfl ?_
    refine ldB (v := .sc _) rfl rfl rfl rfl ti42 rfl rfl ?_
    refine fa rfl rfl ti44 rfl rfl ti42 rfl ?_
    refine ldB (v := .sc _) rfl rfl rfl rfl ti42 rfl rfl ?_
    refine pu (v := .sc _) rfl rfl (fun _ => rfl) ?_
    refine fa rfl rfl ti44 rfl rfl ti42 rfl ?_
    refine ldB (v := .sc _) rfl rfl rfl rfl ti42 rfl rfl ?_
    refine fa rfl rfl ti44 rfl rfl ti42 rfl ?_
    refine ldB (v := .sc _) rfl rfl rfl rfl ti42 rfl rfl ?_
    refine pu (v := .sc _) rfl rfl (fun _ => rfl) ?_
    obtain ⟨r4, hr4, hR⟩ := bindE hR
    refine cls [] rfl rfl cb44 (ok44 (mn2 a.Lo b.Lo) (mx2 a.Hi b.Hi) _ hr4) (.cons (.sc _) (.cons (.sc _) (.nil))) (.inr rfl) rfl ?_
    refine stB (cs' := [.sc (.int .i64 r4.Lo), .sc (.int .i64 r4.Hi), .sc (.bool r4.Unknown)]) rfl rfl rfl rfl ti44 rfl rfl rfl rfl rfl ?_
    refine RunC.fin ?_
    refine AWP.ret ?_
    have hR := Option.some.inj hR; subst hR
    exact hQ _ _ (LS.mk [(4, .ptr 0 0 0)] (lblks 0 [boxB (α := Bound) true r4]) 1) (aggV (α := Bound) true r4) [] (.inr rfl) (Weak.turnL [(8, 0)] [] rfl rfl (tc (trP' rfl rfl rfl rfl) tn) (mc rfl (.box rfl (.cons (.sc _) (.cons (.sc _) (.cons (.sc _) (.nil)))) rfl) mn)) (ro1 (rvC (v := aggV (α := Bound) true r4) rfl rfl ti44 rfl)) rfl rfl ldA pn
theorem ok26 (a : Int) (b : Int) (r : Int) (hR : num_CeilDiv a b = some r) : FnP Try.prog 26 [.sc (.int .i64 a), .sc (.int .i64 b)] (.sc (.int .i64 r)) := by
  refine fnP_of (FnX.walk Try.func26 rfl 18 0 (by simp [Try.ntmps26]) rfl fun W S F Q hQ => ?_)
  unfold num_CeilDiv at hR
  refine AWP.sq ?_
  refine AWP.rgC 4 rfl rfl ?_
  refine pu (v := .sc _) rfl rfl (fun _ => rfl) ?_
  refine RunC.fin ?_
  refine AWP.sq ?_
  refine AWP.sq ?_
  refine AWP.rgC 12 rfl rfl ?_
  refine pu (v := .sc _) rfl rfl (fun _ => rfl) ?_
  refine pu (v := .sc _) rfl rfl (fun _ => rfl) ?_
  refine RunC.fin ?_
  refine AWP.cd hR rfl (fun h1 hR => ?_) fun h1 hR => ?_
  · refine AWP.sq ?_
    refine AWP.rgC 16 rfl rfl ?_
    refine pu (v := .sc _) rfl rfl (fun _ => rfl) ?_
    refine RunC.fin ?_
    refine AWP.ret ?_
    refine rtT ?_
    have hR := Option.some.inj hR; subst hR
    exact hQ _ _ (LS.mk [(4, .sc (.int .i64 0))] (lblks 0 []) 0) (.sc (.int .i64 0)) [] (.inr rfl) (Weak.turnL [] [] rfl rfl (tc (.sc _) tn) mn) (ro1 (rvT (v := .sc (.int .i64 0)) rfl)) rfl rfl (.sc _) pn
  · refine AWP.skip ?_
    refine skT ?_
    refine AWP.sq ?_
    refine AWP.rgC 28 rfl rfl ?_
    refine pu (v := .sc _) rfl rfl (fun _ => rfl) ?_
    refine pu (v := .sc _) rfl rfl (fun _ => rfl) ?_
    obtain ⟨h2, hR⟩ := chkE hR
    refine qu rfl rfl rfl h2 rfl ?_
    refine pu (v := .sc _) rfl rfl (fun _ => rfl) ?_
    refine RunC.fin ?_
    refine AWP.sq ?_
    refine AWP.sq ?_
    refine AWP.rgC 44 rfl rfl ?_
    refine pu (v := .sc _) rfl rfl (fun _ => rfl) ?_
    refine pu (v := .sc _) rfl rfl (fun _ => rfl) ?_
    refine rm rfl rfl rfl h2 rfl ?_
    refine pu (v := .sc _) rfl rfl (fun _ => rfl) ?_
    refine RunC.fin ?_
    refine AWP.cd hR rfl (fun h3 hR => ?_) fun h3 hR => ?_
    · refine AWP.rgC 56 rfl rfl ?_
      refine pu (v := .sc _) rfl rfl (fun _ => rfl) ?_
      refine pu (v := .sc _) rfl rfl (fun _ => rfl) ?_
      refine pu (v := .sc _) rfl rfl (fun _ => rfl) ?_
      refine RunC.fin ?_
      refine AWP.sq ?_
      refine AWP.rgC 64 rfl rfl ?_
      refine pu (v := .sc _) rfl rfl (fun _ => rfl) ?_
      refine pu (v := .sc _) rfl rfl (fun _ => rfl) ?_
      refine RunC.fin ?_
      refine AWP.ret ?_
      have hR := Option.some.inj hR; subst hR
      exact hQ _ _ (LS.mk [(4, .sc (.int .i64 (w6 ((w6 (Int.tdiv a b)) + 1))))] (lblks 0 []) 0) (.sc (.int .i64 (w6 ((w6 (Int.tdiv a b)) + 1)))) [] (.inr rfl) (Weak.turnL [] [] rfl rfl (tc (.sc _) tn) mn) (ro1 (rvT (v := .sc (.int .i64 (w6 ((w6 (Int.tdiv a b)) + 1)))) rfl)) rfl rfl (.sc _) pn
    · refine AWP.skip ?_
      refine skT ?_
      refine AWP.sq ?_
      refine AWP.rgC 52 rfl rfl ?_
      refine pu (v := .sc _) rfl rfl (fun _ => rfl) ?_
      refine pu (v := .sc _) rfl rfl (fun _ => rfl) ?_
      refine RunC.fin ?_
      refine AWP.ret ?_
      have hR := Option.some.inj hR; subst hR
      exact hQ _ _ (LS.mk [(4, .sc (.int .i64 (w6 (Int.tdiv a b))))] (lblks 0 []) 0) (.sc (.int .i64 (w6 (Int.tdiv a b)))) [] (.inr rfl) (Weak.turnL [] [] rfl rfl (tc (.sc _) tn) mn) (ro1 (rvT (v := .sc (.int .i64 (w6 (Int.tdiv a b)))) rfl)) rfl rfl (.sc _) pn
theorem ok23 (was : Vec) (here : Vec) (r : Vec × Int) (hR : sky_Step was here = some r) : FnP Try.prog 23 [aggV false was, aggV false here] (.tup [aggV (α := Vec) true r.1, .sc (.int .i64 r.2)]) := by
  refine fnP_of (FnX.walk Try.func23 rfl 52 0 (by simp [Try.ntmps23]) rfl fun W S F Q hQ => ?_)
  unfold sky_Step at hR
  refine AWP.sq ?_
  refine AWP.rgC 16 rfl rfl ?_
  refine bx (cs := _) 0 rfl rfl rfl ?_
  refine bx (cs := _) 4 rfl rfl rfl ?_
  refine al (cs := [.sc (.int .i64 0), .sc (.int .i64 0), .sc (.int .i64 0)]) 8 rfl rfl ti29 rfl rfl ?_
  refine pu (v := .sc _) rfl rfl (fun _ => rfl) ?_
  refine RunC.fin ?_
  refine AWP.sq ?_
  refine AWP.joinX (fun z1 : Bool => LS.mk [(2, .ptr 0 0 0), (3, .ptr 1 0 0), (4, .ptr 2 0 0), (15, .sc (.bool z1))] (lblks 0 [boxB (α := Vec) true was, boxB (α := Vec) true here, boxB (α := Vec) true (Vec.mk 0 0 0)]) 3) hR (fun o1 hR => ?_) fun z1 hR => ?_
  · refine AWP.rgC 48 rfl rfl ?_
    refine ldB (v := .agg _) rfl rfl rfl rfl ti29 rfl rfl ?_
    obtain ⟨r2, hr2, hR⟩ := bindE hR
    refine cls [] rfl rfl cb39 (ok39 was 4194304 _ hr2) (.cons (.agg (.cons (.sc _) (.cons (.sc _) (.cons (.sc _) (.nil)))) rfl) (.cons (.sc _) (.nil))) (.inr rfl) rfl ?_
    refine pu (v := .sc _) rfl rfl (fun _ => rfl) ?_
    refine pu (v := .sc _) rfl rfl (fun _ => rfl) ?_
    refine brR hR (fun h3 hR => ?_) fun h3 hR => ?_
    · refine sk (skW rfl rfl rfl h3) ?_
      refine sk (skW rfl rfl rfl h3) ?_
      refine sk (skW rfl rfl rfl h3) ?_
      refine pkT (v := .sc (.bool true)) rfl rfl h3 rfl ?_
      refine RunC.fin ?_
      have hR := Option.some.inj hR; subst hR
      exact Weak.turnL [(0, 0), (4, 0), (8, 0)] [] rfl rfl (tc (trP' rfl rfl rfl rfl) (tc (trP' rfl rfl rfl rfl) (tc (trP' rfl rfl rfl rfl) (tc (.sc _) tn)))) (mc rfl (.box rfl (.cons (.sc _) (.cons (.sc _) (.cons (.sc _) (.nil)))) rfl) (mc rfl (.box rfl (.cons (.sc _) (.cons (.sc _) (.cons (.sc _) (.nil)))) rfl) (mc rfl (.box rfl (.cons (.sc _) (.cons (.sc _) (.cons (.sc _) (.nil)))) rfl) mn)))
    · refine ldB (v := .agg _) (wtG rfl rfl rfl h3) rfl rfl rfl ti29 rfl rfl ?_
      obtain ⟨r4, hr4, hR⟩ := bindE hR
      refine cls [] (wtG rfl rfl rfl h3) rfl cb39 (ok39 here 4194304 _ hr4) (.cons (.agg (.cons (.sc _) (.cons (.sc _) (.cons (.sc _) (.nil)))) rfl) (.cons (.sc _) (.nil))) (.inr rfl) rfl ?_
      refine pu (v := .sc _) (wtG rfl rfl rfl h3) rfl (fun _ => rfl) ?_
      refine pkF (v := .sc (.bool (!r4))) rfl rfl h3 rfl ?_
      refine RunC.fin ?_
      have hR := Option.some.inj hR; subst hR
      exact Weak.turnL [(0, 0), (4, 0), (8, 0)] [] rfl rfl (tc (trP' rfl rfl rfl rfl) (tc (trP' rfl rfl rfl rfl) (tc (trP' rfl rfl rfl rfl) (tc (.sc _) tn)))) (mc rfl (.box rfl (.cons (.sc _) (.cons (.sc _) (.cons (.sc _) (.nil)))) rfl) (mc rfl (.box rfl (.cons (.sc _) (.cons (.sc _) (.cons (.sc _) (.nil)))) rfl) (mc rfl (.box rfl (.cons (.sc _) (.cons (.sc _) (.cons (.sc _) (.nil)))) rfl) mn)))
  · refine AWP.cd hR rfl (fun h5 hR => ?_) fun h5 hR => ?_
    · refine AWP.sq ?_
      refine AWP.rgC 15 rfl rfl ?_
      refine bu (cs := [.sc (.int .i64 0), .sc (.int .i64 0), .sc (.int .i64 0)]) rfl bt29 rfl ?_
      refine stB (cs' := [.sc (.int .i64 0), .sc (.int .i64 0), .sc (.int .i64 0)]) rfl rfl rfl rfl ti29 rfl rfl rfl rfl rfl ?_
      refine pu (v := .sc _) rfl rfl (fun _ => rfl) ?_
      refine RunC.fin ?_
      refine AWP.ret ?_
      refine rtT ?_
      have hR := Option.some.inj hR; subst hR
      exact hQ _ _ (LS.mk [(4, .ptr 0 0 0), (5, .sc (.int .i64 4))] (lblks 0 [boxB (α := Vec) true (Vec.mk 0 0 0)]) 1) (.tup [aggV (α := Vec) true (Vec.mk 0 0 0), .sc (.int .i64 4)]) [] (.inr rfl) (Weak.turnL [(2, 0)] [] rfl rfl (tc (trP' rfl rfl rfl rfl) (tc (.sc _) tn)) (mc rfl (.box rfl (.cons (.sc _) (.cons (.sc _) (.cons (.sc _) (.nil)))) rfl) mn)) (ro2 (rvC (v := aggV (α := Vec) true (Vec.mk 0 0 0)) rfl rfl ti29 rfl) (rvT (v := .sc (.int .i64 4)) rfl)) rfl rfl (.tup (.cons ldA (.cons (.sc _) .nil))) pn
    · refine AWP.skip ?_
      refine skT ?_
      refine AWP.sq ?_
      refine AWP.rgC 19 rfl rfl ?_
      refine ldB (v := .agg _) rfl rfl rfl rfl ti29 rfl rfl ?_
      obtain ⟨r6, hr6, hR⟩ := bindE hR
      refine cls [] rfl rfl cb40 (ok40 here _ hr6) (.cons (.agg (.cons (.sc _) (.cons (.sc _) (.cons (.sc _) (.nil)))) rfl) (.nil)) (.inr rfl) rfl ?_
      refine al (cs := [.sc (.int .i64 0), .sc (.int .i64 0), .sc (.int .i64 0)]) 11 rfl rfl ti29 rfl rfl ?_
      refine stB (cs' := [.sc (.int .i64 r6.X), .sc (.int .i64 r6.Y), .sc (.int .i64 r6.Z)]) rfl rfl rfl rfl ti29 rfl rfl rfl rfl rfl ?_
      refine RunC.fin ?_
      refine AWP.sq ?_
      refine AWP.rgC 139 rfl rfl ?_
      refine fa rfl rfl ti29 rfl rfl ti2 rfl ?_
      refine ldB (v := .sc _) rfl rfl rfl rfl ti2 rfl rfl ?_
      refine pu (v := .sc _) rfl rfl (fun _ => rfl) ?_
      refine fa rfl rfl ti29 rfl rfl ti2 rfl ?_
      refine ldB (v := .sc _) rfl rfl rfl rfl ti2 rfl rfl ?_
      refine pu (v := .sc _) rfl rfl (fun _ => rfl) ?_
      refine fa rfl rfl ti29 rfl rfl ti2 rfl ?_
      refine ldB (v := .sc _) rfl rfl rfl rfl ti2 rfl rfl ?_
      refine pu (v := .sc _) rfl rfl (fun _ => rfl) ?_
      refine fa rfl rfl ti29 rfl rfl ti2 rfl ?_
      refine ldB (v := .sc _) rfl rfl rfl rfl ti2 rfl rfl ?_
      refine pu (v := .sc _) rfl rfl (fun _ => rfl) ?_
      refine fa rfl rfl ti29 rfl rfl ti2 rfl ?_
      refine ldB (v := .sc _) rfl rfl rfl rfl ti2 rfl rfl ?_
      refine pu (v := .sc _) rfl rfl (fun _ => rfl) ?_
      refine fa rfl rfl ti29 rfl rfl ti2 rfl ?_
      refine ldB (v := .sc _) rfl rfl rfl rfl ti2 rfl rfl ?_
      refine pu (v := .sc _) rfl rfl (fun _ => rfl) ?_
      refine fa rfl rfl ti29 rfl rfl ti2 rfl ?_
      refine ldB (v := .sc _) rfl rfl rfl rfl ti2 rfl rfl ?_
      refine pu (v := .sc _) rfl rfl (fun _ => rfl) ?_
      refine fa rfl rfl ti29 rfl rfl ti2 rfl ?_
      refine ldB (v := .sc _) rfl rfl rfl rfl ti2 rfl rfl ?_
      refine pu (v := .sc _) rfl rfl (fun _ => rfl) ?_
      refine fa rfl rfl ti29 rfl rfl ti2 rfl ?_
      refine ldB (v := .sc _) rfl rfl rfl rfl ti2 rfl rfl ?_
      refine pu (v := .sc _) rfl rfl (fun _ => rfl) ?_
      refine bu (cs := [.sc (.int .i64 (w6 ((w6 ((w6 (2 * here.X)) - was.X)) + r6.X))), .sc (.int .i64 (w6 ((w6 ((w6 (2 * here.Y)) - was.Y)) + r6.Y))), .sc (.int .i64 (w6 ((w6 ((w6 (2 * here.Z)) - was.Z)) + r6.Z)))]) rfl bt29 rfl ?_
      refine al (cs := [.sc (.int .i64 0), .sc (.int .i64 0), .sc (.int .i64 0)]) 131 rfl rfl ti29 rfl rfl ?_
      refine stB (cs' := [.sc (.int .i64 (w6 ((w6 ((w6 (2 * here.X)) - was.X)) + r6.X))), .sc (.int .i64 (w6 ((w6 ((w6 (2 * here.Y)) - was.Y)) + r6.Y))), .sc (.int .i64 (w6 ((w6 ((w6 (2 * here.Z)) - was.Z)) + r6.Z)))]) rfl rfl rfl rfl ti29 rfl rfl rfl rfl rfl ?_
      refine RunC.fin ?_
      refine AWP.sq ?_
      refine AWP.sq ?_
      refine AWP.rgC 151 rfl rfl ?_
      refine ldB (v := .agg _) rfl rfl rfl rfl ti29 rfl rfl ?_
      obtain ⟨r7, hr7, hR⟩ := bindE hR
      refine cls [] rfl rfl cb39 (ok39 (Vec.mk (w6 ((w6 ((w6 (2 * here.X)) - was.X)) + r6.X)) (w6 ((w6 ((w6 (2 * here.Y)) - was.Y)) + r6.Y)) (w6 ((w6 ((w6 (2 * here.Z)) - was.Z)) + r6.Z))) 4194304 _ hr7) (.cons (.agg (.cons (.sc _) (.cons (.sc _) (.cons (.sc _) (.nil)))) rfl) (.cons (.sc _) (.nil))) (.inr rfl) rfl ?_
      refine pu (v := .sc _) rfl rfl (fun _ => rfl) ?_
      refine RunC.fin ?_
      refine AWP.cd hR rfl (fun h8 hR => ?_) fun h8 hR => ?_
      · refine AWP.sq ?_
        refine AWP.rgC 163 rfl rfl ?_
        refine bu (cs := [.sc (.int .i64 0), .sc (.int .i64 0), .sc (.int .i64 0)]) rfl bt29 rfl ?_
        refine stB (cs' := [.sc (.int .i64 0), .sc (.int .i64 0), .sc (.int .i64 0)]) rfl rfl rfl rfl ti29 rfl rfl rfl rfl rfl ?_
        refine pu (v := .sc _) rfl rfl (fun _ => rfl) ?_
        refine RunC.fin ?_
        refine AWP.ret ?_
        refine rtT ?_
        have hR := Option.some.inj hR; subst hR
        exact hQ _ _ (LS.mk [(4, .ptr 0 0 0), (5, .sc (.int .i64 18))] (lblks 0 [boxB (α := Vec) true (Vec.mk 0 0 0)]) 1) (.tup [aggV (α := Vec) true (Vec.mk 0 0 0), .sc (.int .i64 18)]) [] (.inr rfl) (Weak.turnL [(2, 0)] [] rfl rfl (tc (trP' rfl rfl rfl rfl) (tc (.sc _) tn)) (mc rfl (.box rfl (.cons (.sc _) (.cons (.sc _) (.cons (.sc _) (.nil)))) rfl) mn)) (ro2 (rvC (v := aggV (α := Vec) true (Vec.mk 0 0 0)) rfl rfl ti29 rfl) (rvT (v := .sc (.int .i64 18)) rfl)) rfl rfl (.tup (.cons ldA (.cons (.sc _) .nil))) pn
      · refine AWP.skip ?_
        refine skT ?_
        refine AWP.sq ?_
        refine AWP.rgC 163 rfl rfl ?_
        refine ldB (v := .agg _) rfl rfl rfl rfl ti29 rfl rfl ?_
        refine stB (cs' := [.sc (.int .i64 (w6 ((w6 ((w6 (2 * here.X)) - was.X)) + r6.X))), .sc (.int .i64 (w6 ((w6 ((w6 (2 * here.Y)) - was.Y)) + r6.Y))), .sc (.int .i64 (w6 ((w6 ((w6 (2 * here.Z)) - was.Z)) + r6.Z)))]) rfl rfl rfl rfl ti29 rfl rfl rfl rfl rfl ?_
        refine pu (v := .sc _) rfl rfl (fun _ => rfl) ?_
        refine RunC.fin ?_
        refine AWP.ret ?_
        have hR := Option.some.inj hR; subst hR
        exact hQ _ _ (LS.mk [(4, .ptr 0 0 0), (5, .sc (.int .i64 0))] (lblks 0 [boxB (α := Vec) true (Vec.mk (w6 ((w6 ((w6 (2 * here.X)) - was.X)) + r6.X)) (w6 ((w6 ((w6 (2 * here.Y)) - was.Y)) + r6.Y)) (w6 ((w6 ((w6 (2 * here.Z)) - was.Z)) + r6.Z)))]) 1) (.tup [aggV (α := Vec) true (Vec.mk (w6 ((w6 ((w6 (2 * here.X)) - was.X)) + r6.X)) (w6 ((w6 ((w6 (2 * here.Y)) - was.Y)) + r6.Y)) (w6 ((w6 ((w6 (2 * here.Z)) - was.Z)) + r6.Z))), .sc (.int .i64 0)]) [] (.inr rfl) (Weak.turnL [(2, 0)] [] rfl rfl (tc (trP' rfl rfl rfl rfl) (tc (.sc _) tn)) (mc rfl (.box rfl (.cons (.sc _) (.cons (.sc _) (.cons (.sc _) (.nil)))) rfl) mn)) (ro2 (rvC (v := aggV (α := Vec) true (Vec.mk (w6 ((w6 ((w6 (2 * here.X)) - was.X)) + r6.X)) (w6 ((w6 ((w6 (2 * here.Y)) - was.Y)) + r6.Y)) (w6 ((w6 ((w6 (2 * here.Z)) - was.Z)) + r6.Z)))) rfl rfl ti29 rfl) (rvT (v := .sc (.int .i64 0)) rfl)) rfl rfl (.tup (.cons ldA (.cons (.sc _) .nil))) pn
theorem ok22 (b : Body) (day : Int) (r : Vec × Vec × Int) (hR : sky_Path b day = some r) : FnP Try.prog 22 [aggV false b, .sc (.int .i64 day)] (.tup [aggV (α := Vec) true r.1, aggV (α := Vec) true r.2.1, .sc (.int .i64 r.2.2)]) := by
  refine fnP_of (FnX.walk Try.func22 rfl 73 0 (by simp [Try.ntmps22]) rfl fun W S F Q hQ => ?_)
  unfold sky_Path at hR
  refine AWP.sq ?_
  refine AWP.rgC 16 rfl rfl ?_
  refine bx (cs := _) 0 rfl rfl rfl ?_
  refine al (cs := [.sc (.int .i64 0), .sc (.int .i64 0), .sc (.int .i64 0)]) 4 rfl rfl ti29 rfl rfl ?_
  refine al (cs := [.sc (.int .i64 0), .sc (.int .i64 0), .sc (.int .i64 0)]) 8 rfl rfl ti29 rfl rfl ?_
  refine pu (v := .sc _) rfl rfl (fun _ => rfl) ?_
  refine RunC.fin ?_
  refine AWP.sq ?_
  refine AWP.joinX (fun z1 : Bool => LS.mk [(1, .sc (.int .i64 day)), (2, .ptr 0 0 0), (4, .ptr 1 0 0), (5, .ptr 2 0 0), (6, .sc (.int .i64 0)), (23, .sc (.bool z1))] (lblks 0 [boxB (α := Body) true b, boxB (α := Vec) true (Vec.mk 0 0 0), boxB (α := Vec) true (Vec.mk 0 0 0)]) 3) hR (fun o1 hR => ?_) fun z1 hR => ?_
  · refine AWP.rgC 60 rfl rfl ?_
    refine pu (v := .sc _) rfl rfl (fun _ => rfl) ?_
    refine pu (v := .sc _) rfl rfl (fun _ => rfl) ?_
    refine pu (v := .sc _) rfl rfl (fun _ => rfl) ?_
    refine brR hR (fun h2 hR => ?_) fun h2 hR => ?_
    · refine sk (skW rfl rfl rfl h2) ?_
      refine sk (skW rfl rfl rfl h2) ?_
      refine pkT (v := .sc (.bool true)) rfl rfl h2 rfl ?_
      refine pu (v := .sc _) rfl rfl (fun _ => rfl) ?_
      refine sk (skW rfl rfl rfl rfl) ?_
      refine sk (skW rfl rfl rfl rfl) ?_
      refine sk (skW rfl rfl rfl rfl) ?_
      refine pkT (v := .sc (.bool true)) rfl rfl rfl rfl ?_
      refine RunC.fin ?_
      have hR := Option.some.inj hR; subst hR
      exact Weak.turnL [(0, 0), (4, 0), (8, 0)] [] rfl rfl (tc (.sc _) (tc (trP' rfl rfl rfl rfl) (tc (trP' rfl rfl rfl rfl) (tc (trP' rfl rfl rfl rfl) (tc (.sc _) (tc (.sc _) tn)))))) (mc rfl (.box rfl (.cons (.sc _) (.cons (.sc _) (.cons (.sc _) (.cons (.sc _) (.cons (.sc _) (.cons (.sc _) (.cons (.sc _) (.cons (.sc _) (.nil))))))))) rfl) (mc rfl (.box rfl (.cons (.sc _) (.cons (.sc _) (.cons (.sc _) (.nil)))) rfl) (mc rfl (.box rfl (.cons (.sc _) (.cons (.sc _) (.cons (.sc _) (.nil)))) rfl) mn)))
    · refine pu (v := .sc _) (wtG rfl rfl rfl h2) rfl (fun _ => rfl) ?_
      refine pu (v := .sc _) (wtG rfl rfl rfl h2) rfl (fun _ => rfl) ?_
      refine pkF (v := .sc (.bool (decide (day > 400)))) rfl rfl h2 rfl ?_
      refine pu (v := .sc _) rfl rfl (fun _ => rfl) ?_
      refine brR hR (fun h3 hR => ?_) fun h3 hR => ?_
      · refine sk (skW rfl rfl rfl h3) ?_
        refine sk (skW rfl rfl rfl h3) ?_
        refine sk (skW rfl rfl rfl h3) ?_
        refine pkT (v := .sc (.bool true)) rfl rfl h3 rfl ?_
        refine RunC.fin ?_
        have hR := Option.some.inj hR; subst hR
        exact Weak.turnL [(0, 0), (4, 0), (8, 0)] [] rfl rfl (tc (.sc _) (tc (trP' rfl rfl rfl rfl) (tc (trP' rfl rfl rfl rfl) (tc (trP' rfl rfl rfl rfl) (tc (.sc _) (tc (.sc _) tn)))))) (mc rfl (.box rfl (.cons (.sc _) (.cons (.sc _) (.cons (.sc _) (.cons (.sc _) (.cons (.sc _) (.cons (.sc _) (.cons (.sc _) (.cons (.sc _) (.nil))))))))) rfl) (mc rfl (.box rfl (.cons (.sc _) (.cons (.sc _) (.cons (.sc _) (.nil)))) rfl) (mc rfl (.box rfl (.cons (.sc _) (.cons (.sc _) (.cons (.sc _) (.nil)))) rfl) mn)))
      · refine ldB (v := .agg _) (wtG rfl rfl rfl h3) rfl rfl rfl ti32 rfl rfl ?_
        obtain ⟨r4, hr4, hR⟩ := bindE hR
        refine cls [] (wtG rfl rfl rfl h3) rfl cb38 (ok38 b _ hr4) (.cons (.agg (.cons (.sc _) (.cons (.sc _) (.cons (.sc _) (.cons (.sc _) (.cons (.sc _) (.cons (.sc _) (.cons (.sc _) (.cons (.sc _) (.nil))))))))) rfl) (.nil)) (.inr rfl) rfl ?_
        refine pu (v := .sc _) (wtG rfl rfl rfl h3) rfl (fun _ => rfl) ?_
        refine pkF (v := .sc (.bool (!r4))) rfl rfl h3 rfl ?_
        refine RunC.fin ?_
        have hR := Option.some.inj hR; subst hR
        exact Weak.turnL [(0, 0), (4, 0), (8, 0)] [] rfl rfl (tc (.sc _) (tc (trP' rfl rfl rfl rfl) (tc (trP' rfl rfl rfl rfl) (tc (trP' rfl rfl rfl rfl) (tc (.sc _) (tc (.sc _) tn)))))) (mc rfl (.box rfl (.cons (.sc _) (.cons (.sc _) (.cons (.sc _) (.cons (.sc _) (.cons (.sc _) (.cons (.sc _) (.cons (.sc _) (.cons (.sc _) (.nil))))))))) rfl) (mc rfl (.box rfl (.cons (.sc _) (.cons (.sc _) (.cons (.sc _) (.nil)))) rfl) (mc rfl (.box rfl (.cons (.sc _) (.cons (.sc _) (.cons (.sc _) (.nil)))) rfl) mn)))
  · refine AWP.cd hR rfl (fun h5 hR => ?_) fun h5 hR => ?_
    · refine AWP.sq ?_
      refine AWP.rgC 23 rfl rfl ?_
      refine bu (cs := [.sc (.int .i64 0), .sc (.int .i64 0), .sc (.int .i64 0)]) rfl bt29 rfl ?_
      refine bu (cs := [.sc (.int .i64 0), .sc (.int .i64 0), .sc (.int .i64 0)]) rfl bt29 rfl ?_
      refine stB (cs' := [.sc (.int .i64 0), .sc (.int .i64 0), .sc (.int .i64 0)]) rfl rfl rfl rfl ti29 rfl rfl rfl rfl rfl ?_
      refine stB (cs' := [.sc (.int .i64 0), .sc (.int .i64 0), .sc (.int .i64 0)]) rfl rfl rfl rfl ti29 rfl rfl rfl rfl rfl ?_
      refine pu (v := .sc _) rfl rfl (fun _ => rfl) ?_
      refine RunC.fin ?_
      refine AWP.ret ?_
      refine rtT ?_
      have hR := Option.some.inj hR; subst hR
      exact hQ _ _ (LS.mk [(4, .ptr 0 0 0), (5, .ptr 1 0 0), (6, .sc (.int .i64 4))] (lblks 0 [boxB (α := Vec) true (Vec.mk 0 0 0), boxB (α := Vec) true (Vec.mk 0 0 0)]) 2) (.tup [aggV (α := Vec) true (Vec.mk 0 0 0), aggV (α := Vec) true (Vec.mk 0 0 0), .sc (.int .i64 4)]) [] (.inr rfl) (Weak.turnL [(1, 0), (2, 0)] [] rfl rfl (tc (trP' rfl rfl rfl rfl) (tc (trP' rfl rfl rfl rfl) (tc (.sc _) tn))) (mc rfl (.box rfl (.cons (.sc _) (.cons (.sc _) (.cons (.sc _) (.nil)))) rfl) (mc rfl (.box rfl (.cons (.sc _) (.cons (.sc _) (.cons (.sc _) (.nil)))) rfl) mn))) (ro3 (rvC (v := aggV (α := Vec) true (Vec.mk 0 0 0)) rfl rfl ti29 rfl) (rvC (v := aggV (α := Vec) true (Vec.mk 0 0 0)) rfl rfl ti29 rfl) (rvT (v := .sc (.int .i64 4)) rfl)) rfl rfl (.tup (.cons ldA (.cons ldA (.cons (.sc _) .nil)))) pn
    · refine AWP.skip ?_
      refine skT ?_
      refine AWP.sq ?_
      refine AWP.rgD 27 [0, 1, 0, 4, 3, 31] ⟨[], [none, some [0], none, some [0], some [1], some [2]]⟩ hmix (by kernel_rfl) rfl rfl ?_
      refine fa rfl rfl ti32 rfl rfl ti29 rfl ?_
      refine ldB (v := .agg _) rfl rfl rfl rfl ti29 rfl rfl ?_
      refine fa rfl rfl ti32 rfl rfl ti29 rfl ?_
      refine ldB (v := .agg _) rfl rfl rfl rfl ti29 rfl rfl ?_
      refine stB (cs' := [.sc (.int .i64 b.Was.X), .sc (.int .i64 b.Was.Y), .sc (.int .i64 b.Was.Z)]) rfl rfl rfl rfl ti29 rfl rfl rfl rfl rfl ?_
      refine stB (cs' := [.sc (.int .i64 b.Here.X), .sc (.int .i64 b.Here.Y), .sc (.int .i64 b.Here.Z)]) rfl rfl rfl rfl ti29 rfl rfl rfl rfl rfl ?_
      refine RunC.fin ?_
      refine AWP.sq ?_
      refine AWP.sq ?_
      refine AWP.rgC 35 rfl rfl ?_
      refine pu (v := .sc _) rfl rfl (fun _ => rfl) ?_
      refine pu (v := .sc _) rfl rfl (fun _ => rfl) ?_
      refine RunC.fin ?_
      refine AWP.loopJ (fun s6 : Vec × Vec × Int × Int => LS.mk [(1, .sc (.int .i64 day)), (4, .ptr 0 0 0), (5, .ptr 1 0 0), (6, .sc (.int .i64 s6.2.2.1)), (7, .sc (.int .i64 s6.2.2.2))] (lblks 0 [boxB (α := Vec) true s6.1, boxB (α := Vec) true s6.2.1]) 2) (fun z7 : Vec × Vec × Int => LS.mk [(1, .sc (.int .i64 day)), (4, .ptr 0 0 0), (5, .ptr 1 0 0), (6, .sc (.int .i64 z7.2.2))] (lblks 0 [boxB (α := Vec) true z7.1, boxB (α := Vec) true z7.2.1]) 2) sky_Path.l1 hR (s0 := (b.Was, b.Here, 0, day)) (Weak.turnL [(1, 0), (2, 0)] [] rfl rfl (tc (.sc _) (tc (trP' rfl rfl rfl rfl) (tc (trP' rfl rfl rfl rfl) (tc (.sc _) (tc (.sc _) tn))))) (mc rfl (.box rfl (.cons (.sc _) (.cons (.sc _) (.cons (.sc _) (.nil)))) rfl) (mc rfl (.box rfl (.cons (.sc _) (.cons (.sc _) (.cons (.sc _) (.nil)))) rfl) mn))) (fun s6 o6 hR => ?_) fun z7 hR => ?_
      · unfold sky_Path.l1 at hR
        refine AWP.sq ?_
        refine AWP.joinX (fun z8 : Bool => LS.mk [(1, .sc (.int .i64 day)), (4, .ptr 0 0 0), (5, .ptr 1 0 0), (6, .sc (.int .i64 s6.2.2.1)), (7, .sc (.int .i64 s6.2.2.2)), (36, .sc (.bool z8))] (lblks 0 [boxB (α := Vec) true s6.1, boxB (α := Vec) true s6.2.1]) 2) hR (fun o8 hR => ?_) fun z8 hR => ?_
        · refine AWP.rgC 26 rfl rfl ?_
          refine pu (v := .sc _) rfl rfl (fun _ => rfl) ?_
          refine pu (v := .sc _) rfl rfl (fun _ => rfl) ?_
          refine pu (v := .sc _) rfl rfl (fun _ => rfl) ?_
          refine brR hR (fun h9 hR => ?_) fun h9 hR => ?_
          · refine pu (v := .sc _) (wtG rfl rfl rfl h9) rfl (fun _ => rfl) ?_
            refine pu (v := .sc _) (wtG rfl rfl rfl h9) rfl (fun _ => rfl) ?_
            refine pkT (v := .sc (.bool (s6.2.2.1 == 0))) rfl rfl h9 rfl ?_
            refine RunC.fin ?_
            have hR := Option.some.inj hR; subst hR
            exact Weak.turnL [(0, 0), (1, 0)] [] rfl rfl (tc (.sc _) (tc (trP' rfl rfl rfl rfl) (tc (trP' rfl rfl rfl rfl) (tc (.sc _) (tc (.sc _) (tc (.sc _) tn)))))) (mc rfl (.box rfl (.cons (.sc _) (.cons (.sc _) (.cons (.sc _) (.nil)))) rfl) (mc rfl (.box rfl (.cons (.sc _) (.cons (.sc _) (.cons (.sc _) (.nil)))) rfl) mn))
          · refine sk (skW rfl rfl rfl h9) ?_
            refine sk (skW rfl rfl rfl h9) ?_
            refine pkF (v := .sc (.bool false)) rfl rfl h9 rfl ?_
            refine RunC.fin ?_
            have hR := Option.some.inj hR; subst hR
            exact Weak.turnL [(0, 0), (1, 0)] [] rfl rfl (tc (.sc _) (tc (trP' rfl rfl rfl rfl) (tc (trP' rfl rfl rfl rfl) (tc (.sc _) (tc (.sc _) (tc (.sc _) tn)))))) (mc rfl (.box rfl (.cons (.sc _) (.cons (.sc _) (.cons (.sc _) (.nil)))) rfl) (mc rfl (.box rfl (.cons (.sc _) (.cons (.sc _) (.cons (.sc _) (.nil)))) rfl) mn))
        · refine AWP.cd hR rfl (fun h10 hR => ?_) fun h10 hR => ?_
          · refine AWP.skip ?_
            refine skT ?_
            refine AWP.sq ?_
            refine AWP.block ?_
            refine AWP.sq ?_
            refine AWP.rgC 38 rfl rfl ?_
            refine ldB (v := .agg _) rfl rfl rfl rfl ti29 rfl rfl ?_
            refine ldB (v := .agg _) rfl rfl rfl rfl ti29 rfl rfl ?_
            obtain ⟨r11, hr11, hR⟩ := bindE hR
            refine cls [] rfl rfl cb23 (ok23 s6.1 s6.2.1 _ hr11) (.cons (.agg (.cons (.sc _) (.cons (.sc _) (.cons (.sc _) (.nil)))) rfl) (.cons (.agg (.cons (.sc _) (.cons (.sc _) (.cons (.sc _) (.nil)))) rfl) (.nil))) (.inr rfl) rfl ?_
            refine pu (v := .tup _) rfl rfl (fun _ => rfl) ?_
            refine pu (v := .agg _) rfl rfl (fun _ => rfl) ?_
            refine pu (v := .sc _) rfl rfl (fun _ => rfl) ?_
            refine al (cs := [.sc (.int .i64 0), .sc (.int .i64 0), .sc (.int .i64 0)]) 26 rfl rfl ti29 rfl rfl ?_
            refine stB (cs' := [.sc (.int .i64 r11.1.X), .sc (.int .i64 r11.1.Y), .sc (.int .i64 r11.1.Z)]) rfl rfl rfl rfl ti29 rfl rfl rfl rfl rfl ?_
            refine pu (v := .sc _) rfl rfl (fun _ => rfl) ?_
            refine RunC.fin ?_
            refine AWP.rgD 62 [0, 0, 0, 1, 11, 31] ⟨[], [some [1], some [26], none, some [0], some [1], none]⟩ hmix (by kernel_rfl) rfl rfl ?_
            refine ldB (v := .agg _) rfl rfl rfl rfl ti29 rfl rfl ?_
            refine ldB (v := .agg _) rfl rfl rfl rfl ti29 rfl rfl ?_
            refine pu (v := .sc _) rfl rfl (fun _ => rfl) ?_
            refine stB (cs' := [.sc (.int .i64 s6.2.1.X), .sc (.int .i64 s6.2.1.Y), .sc (.int .i64 s6.2.1.Z)]) rfl rfl rfl rfl ti29 rfl rfl rfl rfl rfl ?_
            refine stB (cs' := [.sc (.int .i64 r11.1.X), .sc (.int .i64 r11.1.Y), .sc (.int .i64 r11.1.Z)]) rfl rfl rfl rfl ti29 rfl rfl rfl rfl rfl ?_
            refine pu (v := .sc _) rfl rfl (fun _ => rfl) ?_
            refine RunC.blk ?_
            refine RunC.fin ?_
            refine AWP.rgC 74 rfl rfl ?_
            refine pu (v := .sc _) rfl rfl (fun _ => rfl) ?_
            refine pu (v := .sc _) rfl rfl (fun _ => rfl) ?_
            refine pu (v := .sc _) rfl rfl (fun _ => rfl) ?_
            refine RunC.fin ?_
            refine ⟨(s6.2.1, r11.1, r11.2, w6 (s6.2.2.2 - 1)), (Option.some.inj hR).symm, ?_⟩
            exact Weak.turnL [(0, 0), (1, 0)] [] rfl rfl (tc (.sc _) (tc (trP' rfl rfl rfl rfl) (tc (trP' rfl rfl rfl rfl) (tc (.sc _) (tc (.sc _) tn))))) (mc rfl (.box rfl (.cons (.sc _) (.cons (.sc _) (.cons (.sc _) (.nil)))) rfl) (mc rfl (.box rfl (.cons (.sc _) (.cons (.sc _) (.cons (.sc _) (.nil)))) rfl) mn))
          · refine AWP.exit ?_
            refine exT ?_
            refine exT ?_
            refine exH (skT ?_)
            refine ⟨(s6.1, s6.2.1, s6.2.2.1), (Option.some.inj hR).symm, ?_⟩
            exact Weak.turnL [(0, 0), (1, 0)] [] rfl rfl (tc (.sc _) (tc (trP' rfl rfl rfl rfl) (tc (trP' rfl rfl rfl rfl) (tc (.sc _) tn)))) (mc rfl (.box rfl (.cons (.sc _) (.cons (.sc _) (.cons (.sc _) (.nil)))) rfl) (mc rfl (.box rfl (.cons (.sc _) (.cons (.sc _) (.cons (.sc _) (.nil)))) rfl) mn))
      · refine skT ?_
        refine AWP.sq ?_
        refine AWP.sq ?_
        refine AWP.rgC 10 rfl rfl ?_
        refine pu (v := .sc _) rfl rfl (fun _ => rfl) ?_
        refine pu (v := .sc _) rfl rfl (fun _ => rfl) ?_
        refine RunC.fin ?_
        refine AWP.loopJ (fun s12 : Vec × Vec × Int × Int => LS.mk [(4, .ptr 0 0 0), (5, .ptr 1 0 0), (6, .sc (.int .i64 s12.2.2.1)), (10, .sc (.int .i64 s12.2.2.2))] (lblks 0 [boxB (α := Vec) true s12.1, boxB (α := Vec) true s12.2.1]) 2) (fun z13 : Vec × Vec × Int => LS.mk [(4, .ptr 0 0 0), (5, .ptr 1 0 0), (6, .sc (.int .i64 z13.2.2))] (lblks 0 [boxB (α := Vec) true z13.1, boxB (α := Vec) true z13.2.1]) 2) sky_Path.l2 hR (s0 := (z7.1, z7.2.1, z7.2.2, day)) (Weak.turnL [(0, 0), (1, 0)] [] rfl rfl (tc (trP' rfl rfl rfl rfl) (tc (trP' rfl rfl rfl rfl) (tc (.sc _) (tc (.sc _) tn)))) (mc rfl (.box rfl (.cons (.sc _) (.cons (.sc _) (.cons (.sc _) (.nil)))) rfl) (mc rfl (.box rfl (.cons (.sc _) (.cons (.sc _) (.cons (.sc _) (.nil)))) rfl) mn))) (fun s12 o12 hR => ?_) fun z13 hR => ?_
        · unfold sky_Path.l2 at hR
          refine AWP.sq ?_
          refine AWP.joinX (fun z14 : Bool => LS.mk [(4, .ptr 0 0 0), (5, .ptr 1 0 0), (6, .sc (.int .i64 s12.2.2.1)), (10, .sc (.int .i64 s12.2.2.2)), (54, .sc (.bool z14))] (lblks 0 [boxB (α := Vec) true s12.1, boxB (α := Vec) true s12.2.1]) 2) hR (fun o14 hR => ?_) fun z14 hR => ?_
          · refine AWP.rgC 26 rfl rfl ?_
            refine pu (v := .sc _) rfl rfl (fun _ => rfl) ?_
            refine pu (v := .sc _) rfl rfl (fun _ => rfl) ?_
            refine pu (v := .sc _) rfl rfl (fun _ => rfl) ?_
            refine brR hR (fun h15 hR => ?_) fun h15 hR => ?_
            · refine pu (v := .sc _) (wtG rfl rfl rfl h15) rfl (fun _ => rfl) ?_
              refine pu (v := .sc _) (wtG rfl rfl rfl h15) rfl (fun _ => rfl) ?_
              refine pkT (v := .sc (.bool (s12.2.2.1 == 0))) rfl rfl h15 rfl ?_
              refine RunC.fin ?_
              have hR := Option.some.inj hR; subst hR
              exact Weak.turnL [(0, 0), (1, 0)] [] rfl rfl (tc (trP' rfl rfl rfl rfl) (tc (trP' rfl rfl rfl rfl) (tc (.sc _) (tc (.sc _) (tc (.sc _) tn))))) (mc rfl (.box rfl (.cons (.sc _) (.cons (.sc _) (.cons (.sc _) (.nil)))) rfl) (mc rfl (.box rfl (.cons (.sc _) (.cons (.sc _) (.cons (.sc _) (.nil)))) rfl) mn))
            · refine sk (skW rfl rfl rfl h15) ?_
              refine sk (skW rfl rfl rfl h15) ?_
              refine pkF (v := .sc (.bool false)) rfl rfl h15 rfl ?_
              refine RunC.fin ?_
              have hR := Option.some.inj hR; subst hR
              exact Weak.turnL [(0, 0), (1, 0)] [] rfl rfl (tc (trP' rfl rfl rfl rfl) (tc (trP' rfl rfl rfl rfl) (tc (.sc _) (tc (.sc _) (tc (.sc _) tn))))) (mc rfl (.box rfl (.cons (.sc _) (.cons (.sc _) (.cons (.sc _) (.nil)))) rfl) (mc rfl (.box rfl (.cons (.sc _) (.cons (.sc _) (.cons (.sc _) (.nil)))) rfl) mn))
          · refine AWP.cd hR rfl (fun h16 hR => ?_) fun h16 hR => ?_
            · refine AWP.skip ?_
              refine skT ?_
              refine AWP.sq ?_
              refine AWP.block ?_
              refine AWP.sq ?_
              refine AWP.rgC 38 rfl rfl ?_
              refine ldB (v := .agg _) rfl rfl rfl rfl ti29 rfl rfl ?_
              refine ldB (v := .agg _) rfl rfl rfl rfl ti29 rfl rfl ?_
              obtain ⟨r17, hr17, hR⟩ := bindE hR
              refine cls [] rfl rfl cb23 (ok23 s12.2.1 s12.1 _ hr17) (.cons (.agg (.cons (.sc _) (.cons (.sc _) (.cons (.sc _) (.nil)))) rfl) (.cons (.agg (.cons (.sc _) (.cons (.sc _) (.cons (.sc _) (.nil)))) rfl) (.nil))) (.inr rfl) rfl ?_
              refine pu (v := .tup _) rfl rfl (fun _ => rfl) ?_
              refine pu (v := .agg _) rfl rfl (fun _ => rfl) ?_
              refine pu (v := .sc _) rfl rfl (fun _ => rfl) ?_
              refine al (cs := [.sc (.int .i64 0), .sc (.int .i64 0), .sc (.int .i64 0)]) 26 rfl rfl ti29 rfl rfl ?_
              refine stB (cs' := [.sc (.int .i64 r17.1.X), .sc (.int .i64 r17.1.Y), .sc (.int .i64 r17.1.Z)]) rfl rfl rfl rfl ti29 rfl rfl rfl rfl rfl ?_
              refine pu (v := .sc _) rfl rfl (fun _ => rfl) ?_
              refine RunC.fin ?_
              refine AWP.rgC 62 rfl rfl ?_
              refine ldB (v := .agg _) rfl rfl rfl rfl ti29 rfl rfl ?_
              refine ldB (v := .agg _) rfl rfl rfl rfl ti29 rfl rfl ?_
              refine pu (v := .sc _) rfl rfl (fun _ => rfl) ?_
              refine stB (cs' := [.sc (.int .i64 r17.1.X), .sc (.int .i64 r17.1.Y), .sc (.int .i64 r17.1.Z)]) rfl rfl rfl rfl ti29 rfl rfl rfl rfl rfl ?_
              refine stB (cs' := [.sc (.int .i64 s12.1.X), .sc (.int .i64 s12.1.Y), .sc (.int .i64 s12.1.Z)]) rfl rfl rfl rfl ti29 rfl rfl rfl rfl rfl ?_
              refine pu (v := .sc _) rfl rfl (fun _ => rfl) ?_
              refine RunC.blk ?_
              refine RunC.fin ?_
              refine AWP.rgC 74 rfl rfl ?_
              refine pu (v := .sc _) rfl rfl (fun _ => rfl) ?_
              refine pu (v := .sc _) rfl rfl (fun _ => rfl) ?_
              refine pu (v := .sc _) rfl rfl (fun _ => rfl) ?_
              refine RunC.fin ?_
              refine ⟨(r17.1, s12.1, r17.2, w6 (s12.2.2.2 + 1)), (Option.some.inj hR).symm, ?_⟩
              exact Weak.turnL [(0, 0), (1, 0)] [] rfl rfl (tc (trP' rfl rfl rfl rfl) (tc (trP' rfl rfl rfl rfl) (tc (.sc _) (tc (.sc _) tn)))) (mc rfl (.box rfl (.cons (.sc _) (.cons (.sc _) (.cons (.sc _) (.nil)))) rfl) (mc rfl (.box rfl (.cons (.sc _) (.cons (.sc _) (.cons (.sc _) (.nil)))) rfl) mn))
            · refine AWP.exit ?_
              refine exT ?_
              refine exT ?_
              refine exH (skT ?_)
              refine ⟨(s12.1, s12.2.1, s12.2.2.1), (Option.some.inj hR).symm, ?_⟩
              exact Weak.turnL [(0, 0), (1, 0)] [] rfl rfl (tc (trP' rfl rfl rfl rfl) (tc (trP' rfl rfl rfl rfl) (tc (.sc _) tn))) (mc rfl (.box rfl (.cons (.sc _) (.cons (.sc _) (.cons (.sc _) (.nil)))) rfl) (mc rfl (.box rfl (.cons (.sc _) (.cons (.sc _) (.cons (.sc _) (.nil)))) rfl) mn))
        · refine skT ?_
          refine AWP.sq ?_
          refine AWP.sq ?_
          refine AWP.rgC 10 rfl rfl ?_
          refine pu (v := .sc _) rfl rfl (fun _ => rfl) ?_
          refine pu (v := .sc _) rfl rfl (fun _ => rfl) ?_
          refine RunC.fin ?_
          refine AWP.cd hR rfl (fun h18 hR => ?_) fun h18 hR => ?_
          · refine AWP.sq ?_
            refine AWP.rgC 34 rfl rfl ?_
            refine bu (cs := [.sc (.int .i64 0), .sc (.int .i64 0), .sc (.int .i64 0)]) rfl bt29 rfl ?_
            refine bu (cs := [.sc (.int .i64 0), .sc (.int .i64 0), .sc (.int .i64 0)]) rfl bt29 rfl ?_
            refine pu (v := .sc _) rfl rfl (fun _ => rfl) ?_
            refine stB (cs' := [.sc (.int .i64 0), .sc (.int .i64 0), .sc (.int .i64 0)]) rfl rfl rfl rfl ti29 rfl rfl rfl rfl rfl ?_
            refine stB (cs' := [.sc (.int .i64 0), .sc (.int .i64 0), .sc (.int .i64 0)]) rfl rfl rfl rfl ti29 rfl rfl rfl rfl rfl ?_
            refine pu (v := .sc _) rfl rfl (fun _ => rfl) ?_
            refine RunC.fin ?_
            refine AWP.ret ?_
            refine rtT ?_
            have hR := Option.some.inj hR; subst hR
            exact hQ _ _ (LS.mk [(4, .ptr 0 0 0), (5, .ptr 1 0 0), (6, .sc (.int .i64 z13.2.2))] (lblks 0 [boxB (α := Vec) true (Vec.mk 0 0 0), boxB (α := Vec) true (Vec.mk 0 0 0)]) 2) (.tup [aggV (α := Vec) true (Vec.mk 0 0 0), aggV (α := Vec) true (Vec.mk 0 0 0), .sc (.int .i64 z13.2.2)]) [] (.inr rfl) (Weak.turnL [(0, 0), (1, 0)] [] rfl rfl (tc (trP' rfl rfl rfl rfl) (tc (trP' rfl rfl rfl rfl) (tc (.sc _) tn))) (mc rfl (.box rfl (.cons (.sc _) (.cons (.sc _) (.cons (.sc _) (.nil)))) rfl) (mc rfl (.box rfl (.cons (.sc _) (.cons (.sc _) (.cons (.sc _) (.nil)))) rfl) mn))) (ro3 (rvC (v := aggV (α := Vec) true (Vec.mk 0 0 0)) rfl rfl ti29 rfl) (rvC (v := aggV (α := Vec) true (Vec.mk 0 0 0)) rfl rfl ti29 rfl) (rvT (v := .sc (.int .i64 z13.2.2)) rfl)) rfl rfl (.tup (.cons ldA (.cons ldA (.cons (.sc _) .nil)))) pn
          · refine AWP.skip ?_
            refine skT ?_
            refine AWP.sq ?_
            refine AWP.rgD 30 [0, 0, 1, 7, 15] ⟨[], [some [0], some [1], some [0], some [1], none]⟩ hmix (by kernel_rfl) rfl rfl ?_
            refine ldB (v := .agg _) rfl rfl rfl rfl ti29 rfl rfl ?_
            refine ldB (v := .agg _) rfl rfl rfl rfl ti29 rfl rfl ?_
            refine stB (cs' := [.sc (.int .i64 z13.1.X), .sc (.int .i64 z13.1.Y), .sc (.int .i64 z13.1.Z)]) rfl rfl rfl rfl ti29 rfl rfl rfl rfl rfl ?_
            refine stB (cs' := [.sc (.int .i64 z13.2.1.X), .sc (.int .i64 z13.2.1.Y), .sc (.int .i64 z13.2.1.Z)]) rfl rfl rfl rfl ti29 rfl rfl rfl rfl rfl ?_
            refine pu (v := .sc _) rfl rfl (fun _ => rfl) ?_
            refine RunC.fin ?_
            refine AWP.ret ?_
            have hR := Option.some.inj hR; subst hR
            exact hQ _ _ (LS.mk [(4, .ptr 0 0 0), (5, .ptr 1 0 0), (6, .sc (.int .i64 0))] (lblks 0 [boxB (α := Vec) true z13.1, boxB (α := Vec) true z13.2.1]) 2) (.tup [aggV (α := Vec) true z13.1, aggV (α := Vec) true z13.2.1, .sc (.int .i64 0)]) [] (.inr rfl) (Weak.turnL [(0, 0), (1, 0)] [] rfl rfl (tc (trP' rfl rfl rfl rfl) (tc (trP' rfl rfl rfl rfl) (tc (.sc _) tn))) (mc rfl (.box rfl (.cons (.sc _) (.cons (.sc _) (.cons (.sc _) (.nil)))) rfl) (mc rfl (.box rfl (.cons (.sc _) (.cons (.sc _) (.cons (.sc _) (.nil)))) rfl) mn))) (ro3 (rvC (v := aggV (α := Vec) true z13.1) rfl rfl ti29 rfl) (rvC (v := aggV (α := Vec) true z13.2.1) rfl rfl ti29 rfl) (rvT (v := .sc (.int .i64 0)) rfl)) rfl rfl (.tup (.cons ldA (.cons ldA (.cons (.sc _) .nil)))) pn
theorem ok21 (a : Int) (b : Int) (r : Int) (hR : num_FloorDiv a b = some r) : FnP Try.prog 21 [.sc (.int .i64 a), .sc (.int .i64 b)] (.sc (.int .i64 r)) := by
  refine fnP_of (FnX.walk Try.func21 rfl 18 0 (by simp [Try.ntmps21]) rfl fun W S F Q hQ => ?_)
  unfold num_FloorDiv at hR
  refine AWP.sq ?_
  refine AWP.rgC 4 rfl rfl ?_
  refine pu (v := .sc _) rfl rfl (fun _ => rfl) ?_
  refine RunC.fin ?_
  refine AWP.sq ?_
  refine AWP.sq ?_
  refine AWP.rgC 12 rfl rfl ?_
  refine pu (v := .sc _) rfl rfl (fun _ => rfl) ?_
  refine pu (v := .sc _) rfl rfl (fun _ => rfl) ?_
  refine RunC.fin ?_
  refine AWP.cd hR rfl (fun h1 hR => ?_) fun h1 hR => ?_
  · refine AWP.sq ?_
    refine AWP.rgC 16 rfl rfl ?_
    refine pu (v := .sc _) rfl rfl (fun _ => rfl) ?_
    refine RunC.fin ?_
    refine AWP.ret ?_
    refine rtT ?_
    have hR := Option.some.inj hR; subst hR
    exact hQ _ _ (LS.mk [(4, .sc (.int .i64 0))] (lblks 0 []) 0) (.sc (.int .i64 0)) [] (.inr rfl) (Weak.turnL [] [] rfl rfl (tc (.sc _) tn) mn) (ro1 (rvT (v := .sc (.int .i64 0)) rfl)) rfl rfl (.sc _) pn
  · refine AWP.skip ?_
    refine skT ?_
    refine AWP.sq ?_
    refine AWP.rgC 28 rfl rfl ?_
    refine pu (v := .sc _) rfl rfl (fun _ => rfl) ?_
    refine pu (v := .sc _) rfl rfl (fun _ => rfl) ?_
    obtain ⟨h2, hR⟩ := chkE hR
    refine qu rfl rfl rfl h2 rfl ?_
    refine pu (v := .sc _) rfl rfl (fun _ => rfl) ?_
    refine RunC.fin ?_
    refine AWP.sq ?_
    refine AWP.sq ?_
    refine AWP.rgC 44 rfl rfl ?_
    refine pu (v := .sc _) rfl rfl (fun _ => rfl) ?_
    refine pu (v := .sc _) rfl rfl (fun _ => rfl) ?_
    refine rm rfl rfl rfl h2 rfl ?_
    refine pu (v := .sc _) rfl rfl (fun _ => rfl) ?_
    refine RunC.fin ?_
    refine AWP.cd hR rfl (fun h3 hR => ?_) fun h3 hR => ?_
    · refine AWP.rgC 56 rfl rfl ?_
      refine pu (v := .sc _) rfl rfl (fun _ => rfl) ?_
      refine pu (v := .sc _) rfl rfl (fun _ => rfl) ?_
      refine pu (v := .sc _) rfl rfl (fun _ => rfl) ?_
      refine RunC.fin ?_
      refine AWP.sq ?_
      refine AWP.rgC 64 rfl rfl ?_
      refine pu (v := .sc _) rfl rfl (fun _ => rfl) ?_
      refine pu (v := .sc _) rfl rfl (fun _ => rfl) ?_
      refine RunC.fin ?_
      refine AWP.ret ?_
      have hR := Option.some.inj hR; subst hR
      exact hQ _ _ (LS.mk [(4, .sc (.int .i64 (w6 ((w6 (Int.tdiv a b)) - 1))))] (lblks 0 []) 0) (.sc (.int .i64 (w6 ((w6 (Int.tdiv a b)) - 1)))) [] (.inr rfl) (Weak.turnL [] [] rfl rfl (tc (.sc _) tn) mn) (ro1 (rvT (v := .sc (.int .i64 (w6 ((w6 (Int.tdiv a b)) - 1)))) rfl)) rfl rfl (.sc _) pn
    · refine AWP.skip ?_
      refine skT ?_
      refine AWP.sq ?_
      refine AWP.rgC 52 rfl rfl ?_
      refine pu (v := .sc _) rfl rfl (fun _ => rfl) ?_
      refine pu (v := .sc _) rfl rfl (fun _ => rfl) ?_
      refine RunC.fin ?_
      refine AWP.ret ?_
      have hR := Option.some.inj hR; subst hR
      exact hQ _ _ (LS.mk [(4, .sc (.int .i64 (w6 (Int.tdiv a b))))] (lblks 0 []) 0) (.sc (.int .i64 (w6 (Int.tdiv a b)))) [] (.inr rfl) (Weak.turnL [] [] rfl rfl (tc (.sc _) tn) mn) (ro1 (rvT (v := .sc (.int .i64 (w6 (Int.tdiv a b)))) rfl)) rfl rfl (.sc _) pn
theorem ok8 (x : Int) (n : Int) (r : Int) (hR : spymake_Below x n = some r) : FnP Try.prog 8 [.sc (.int .i64 x), .sc (.int .i64 n)] (.sc (.int .i64 r)) := by
  refine fnP_of (FnX.walk Try.func8 rfl 16 0 (by simp [Try.ntmps8]) rfl fun W S F Q hQ => ?_)
  unfold spymake_Below at hR
  refine AWP.sq ?_
  refine AWP.rgC 4 rfl rfl ?_
  refine pu (v := .sc _) rfl rfl (fun _ => rfl) ?_
  refine RunC.fin ?_
  refine AWP.sq ?_
  refine AWP.sq ?_
  refine AWP.rgC 12 rfl rfl ?_
  refine pu (v := .sc _) rfl rfl (fun _ => rfl) ?_
  refine pu (v := .sc _) rfl rfl (fun _ => rfl) ?_
  refine RunC.fin ?_
  refine AWP.cd hR rfl (fun h1 hR => ?_) fun h1 hR => ?_
  · refine AWP.sq ?_
    refine AWP.rgC 16 rfl rfl ?_
    refine pu (v := .sc _) rfl rfl (fun _ => rfl) ?_
    refine RunC.fin ?_
    refine AWP.ret ?_
    refine rtT ?_
    have hR := Option.some.inj hR; subst hR
    exact hQ _ _ (LS.mk [(4, .sc (.int .i64 0))] (lblks 0 []) 0) (.sc (.int .i64 0)) [] (.inr rfl) (Weak.turnL [] [] rfl rfl (tc (.sc _) tn) mn) (ro1 (rvT (v := .sc (.int .i64 0)) rfl)) rfl rfl (.sc _) pn
  · refine AWP.skip ?_
    refine skT ?_
    refine AWP.sq ?_
    refine AWP.rgC 28 rfl rfl ?_
    refine pu (v := .sc _) rfl rfl (fun _ => rfl) ?_
    refine pu (v := .sc _) rfl rfl (fun _ => rfl) ?_
    obtain ⟨h2, hR⟩ := chkE hR
    refine rm rfl rfl rfl h2 rfl ?_
    refine pu (v := .sc _) rfl rfl (fun _ => rfl) ?_
    refine RunC.fin ?_
    refine AWP.sq ?_
    refine AWP.sq ?_
    refine AWP.rgC 36 rfl rfl ?_
    refine pu (v := .sc _) rfl rfl (fun _ => rfl) ?_
    refine pu (v := .sc _) rfl rfl (fun _ => rfl) ?_
    refine RunC.fin ?_
    refine AWP.cd hR rfl (fun h3 hR => ?_) fun h3 hR => ?_
    · refine AWP.rgC 52 rfl rfl ?_
      refine pu (v := .sc _) rfl rfl (fun _ => rfl) ?_
      refine pu (v := .sc _) rfl rfl (fun _ => rfl) ?_
      refine pu (v := .sc _) rfl rfl (fun _ => rfl) ?_
      refine pu (v := .sc _) rfl rfl (fun _ => rfl) ?_
      refine RunC.fin ?_
      refine AWP.sq ?_
      refine AWP.rgC 60 rfl rfl ?_
      refine pu (v := .sc _) rfl rfl (fun _ => rfl) ?_
      refine pu (v := .sc _) rfl rfl (fun _ => rfl) ?_
      refine RunC.fin ?_
      refine AWP.ret ?_
      have hR := Option.some.inj hR; subst hR
      exact hQ _ _ (LS.mk [(4, .sc (.int .i64 (w6 ((Int.tmod x n) + n))))] (lblks 0 []) 0) (.sc (.int .i64 (w6 ((Int.tmod x n) + n)))) [] (.inr rfl) (Weak.turnL [] [] rfl rfl (tc (.sc _) tn) mn) (ro1 (rvT (v := .sc (.int .i64 (w6 ((Int.tmod x n) + n)))) rfl)) rfl rfl (.sc _) pn
    · refine AWP.skip ?_
      refine skT ?_
      refine AWP.sq ?_
      refine AWP.rgC 44 rfl rfl ?_
      refine pu (v := .sc _) rfl rfl (fun _ => rfl) ?_
      refine pu (v := .sc _) rfl rfl (fun _ => rfl) ?_
      refine RunC.fin ?_
      refine AWP.ret ?_
      have hR := Option.some.inj hR; subst hR
      exact hQ _ _ (LS.mk [(4, .sc (.int .i64 (Int.tmod x n)))] (lblks 0 []) 0) (.sc (.int .i64 (Int.tmod x n))) [] (.inr rfl) (Weak.turnL [] [] rfl rfl (tc (.sc _) tn) mn) (ro1 (rvT (v := .sc (.int .i64 (Int.tmod x n))) rfl)) rfl rfl (.sc _) pn
theorem ok7 (s : spymake_Stream) (n : Int) (r : Int × spymake_Stream) (hR : Stream_Next s n = some r) : FnD Try.prog 7 [boxB false s] [.ptr 0 0 0, .sc (.int .i64 n)] (.sc (.int .i64 r.1)) [boxB false r.2] := by
  refine FnX.walk Try.func7 rfl 64 1 (by simp [Try.ntmps7]) rfl fun W S F Q hQ => ?_
  unfold Stream_Next at hR
  refine AWP.sq ?_
  refine AWP.rgC 5 rfl rfl ?_
  refine pu (v := .sc _) rfl rfl (fun _ => rfl) ?_
  refine RunC.fin ?_
  refine AWP.sq ?_
  refine AWP.rgC 37 rfl rfl ?_
  refine pu (v := .ptr _ _ _) rfl rfl (fun _ => rfl) ?_
  refine pu (v := .ptr _ _ _) rfl rfl (fun _ => rfl) ?_
  refine fa rfl rfl ti25 rfl rfl ti3 rfl ?_
  refine ldB (v := .sc _) rfl rfl rfl rfl ti3 rfl rfl ?_
  refine pu (v := .sc _) rfl rfl (fun _ => rfl) ?_
  refine pu (v := .ptr _ _ _) rfl rfl (fun _ => rfl) ?_
  refine fa rfl rfl ti25 rfl rfl ti3 rfl ?_
  refine stB (cs' := [rowV (α := Int) false s.L, .sc (.int .i64 (w6 (s.at_ + 1)))]) rfl rfl rfl rfl ti3 rfl rfl rfl rfl rfl ?_
  refine RunC.fin ?_
  refine AWP.sq ?_
  refine AWP.sq ?_
  refine AWP.rgC 61 rfl rfl ?_
  refine pu (v := .ptr _ _ _) rfl rfl (fun _ => rfl) ?_
  refine pu (v := .ptr _ _ _) rfl rfl (fun _ => rfl) ?_
  refine fa rfl rfl ti25 rfl rfl ti22 rfl ?_
  refine ldB (v := rowV _ s.L) rfl rfl rfl rfl ti22 rfl rfl ?_
  refine lenL (α := Int) rfl rfl ti22 rfl ?_
  refine pu (v := .sc _) rfl rfl (fun _ => rfl) ?_
  refine RunC.fin ?_
  refine AWP.cd hR rfl (fun h1 hR => ?_) fun h1 hR => ?_
  · refine AWP.sq ?_
    refine AWP.rgC 93 rfl rfl ?_
    refine pu (v := .ptr _ _ _) rfl rfl (fun _ => rfl) ?_
    refine pu (v := .ptr _ _ _) rfl rfl (fun _ => rfl) ?_
    refine fa rfl rfl ti25 rfl rfl ti3 rfl ?_
    refine ldB (v := .sc _) rfl rfl rfl rfl ti3 rfl rfl ?_
    refine pu (v := .sc _) rfl rfl (fun _ => rfl) ?_
    refine pu (v := .sc _) rfl rfl (fun _ => rfl) ?_
    obtain ⟨r2, hr2, hR⟩ := bindE hR
    refine cls [] rfl rfl cb8 (ok8 (w6 ((w6 (s.at_ + 1)) * 7919)) n _ hr2) (.cons (.sc _) (.cons (.sc _) (.nil))) (.inr rfl) rfl ?_
    refine pu (v := .sc _) rfl rfl (fun _ => rfl) ?_
    refine RunC.fin ?_
    refine AWP.ret ?_
    refine rtT ?_
    have hR := Option.some.inj hR; subst hR
    exact hQ _ _ (LS.mk [(4, .sc (.int .i64 r2))] (lblks 0 [boxB (α := spymake_Stream) false (spymake_Stream.mk s.L (w6 (s.at_ + 1)))]) 1) (.sc (.int .i64 r2)) [] (.inr rfl) (Weak.turnL [(0, 0)] [] rfl rfl (tc (.sc _) tn) (mc rfl (.box rfl (.cons trR1 (.cons (.sc _) (.nil))) rfl) mn)) (ro1 (rvT (v := .sc (.int .i64 r2)) rfl)) rfl rfl (.sc _) (pc rfl bldB pn)
  · refine AWP.skip ?_
    refine skT ?_
    refine AWP.sq ?_
    refine AWP.rgD 109 [0, 1, 3, 7, 15, 0, 32, 96, 224, 480, 1023, 2047] ⟨[], [none, none, none, some [0], none, none, none, none, some [0], none, none, none]⟩ hmix (by kernel_rfl) rfl rfl ?_
    refine pu (v := .ptr _ _ _) rfl rfl (fun _ => rfl) ?_
    refine pu (v := .ptr _ _ _) rfl rfl (fun _ => rfl) ?_
    refine fa rfl rfl ti25 rfl rfl ti3 rfl ?_
    refine ldB (v := .sc _) rfl rfl rfl rfl ti3 rfl rfl ?_
    refine pu (v := .sc _) rfl rfl (fun _ => rfl) ?_
    refine pu (v := .ptr _ _ _) rfl rfl (fun _ => rfl) ?_
    refine pu (v := .ptr _ _ _) rfl rfl (fun _ => rfl) ?_
    refine fa rfl rfl ti25 rfl rfl ti22 rfl ?_
    refine ldB (v := rowV _ s.L) rfl rfl rfl rfl ti22 rfl rfl ?_
    refine lenL (α := Int) rfl rfl ti22 rfl ?_
    obtain ⟨h3, hR⟩ := chkE hR
    refine rm rfl rfl rfl h3 rfl ?_
    refine pu (v := .sc _) rfl rfl (fun _ => rfl) ?_
    refine RunC.fin ?_
    refine AWP.sq ?_
    refine AWP.rgD 157 [0, 1, 3, 7, 15, 0, 32, 96, 224, 480, 1023, 2047] ⟨[], [none, none, none, some [0], none, none, none, none, some [0], none, none, none]⟩ hmix (by kernel_rfl) rfl rfl ?_
    refine pu (v := .ptr _ _ _) rfl rfl (fun _ => rfl) ?_
    refine pu (v := .ptr _ _ _) rfl rfl (fun _ => rfl) ?_
    refine fa rfl rfl ti25 rfl rfl ti3 rfl ?_
    refine ldB (v := .sc _) rfl rfl rfl rfl ti3 rfl rfl ?_
    refine pu (v := .sc _) rfl rfl (fun _ => rfl) ?_
    refine pu (v := .ptr _ _ _) rfl rfl (fun _ => rfl) ?_
    refine pu (v := .ptr _ _ _) rfl rfl (fun _ => rfl) ?_
    refine fa rfl rfl ti25 rfl rfl ti22 rfl ?_
    refine ldB (v := rowV _ s.L) rfl rfl rfl rfl ti22 rfl rfl ?_
    refine lenL (α := Int) rfl rfl ti22 rfl ?_
    refine qu rfl rfl rfl h3 rfl ?_
    refine pu (v := .sc _) rfl rfl (fun _ => rfl) ?_
    refine RunC.fin ?_
    refine AWP.sq ?_
    refine AWP.rgC 221 rfl rfl ?_
    refine pu (v := .ptr _ _ _) rfl rfl (fun _ => rfl) ?_
    refine pu (v := .ptr _ _ _) rfl rfl (fun _ => rfl) ?_
    refine fa rfl rfl ti25 rfl rfl ti22 rfl ?_
    refine ldB (v := rowV _ s.L) rfl rfl rfl rfl ti22 rfl rfl ?_
    refine pu (v := .sc _) rfl rfl (fun _ => rfl) ?_
    obtain ⟨h4, hR⟩ := chkE hR
    refine ixL (α := Int) rfl rfl rfl ti22 rfl ti3 rfl h4 ?_
    refine ldR (v := .sc _) rfl rfl ti3 rfl ?_
    obtain ⟨r5, hr5, hR⟩ := bindE hR
    refine cls [] rfl rfl cb8 (ok8 (gt s.L (Int.tmod (w6 ((w6 (s.at_ + 1)) - 1)) (s.L.length : Int))) 1073741824 _ hr5) (.cons (.sc _) (.cons (.sc _) (.nil))) (.inr rfl) rfl ?_
    refine pu (v := .sc _) rfl rfl (fun _ => rfl) ?_
    refine pu (v := .sc _) rfl rfl (fun _ => rfl) ?_
    obtain ⟨v6, ev6, hR⟩ := letE hR
    refine pu (v := .sc _) rfl rfl (fun _ => puI ev6) ?_
    obtain ⟨v7, ev7, hR⟩ := letE hR
    refine pu (v := .sc _) rfl rfl (fun _ => puI ev7) ?_
    refine pu (v := .sc _) rfl rfl (fun _ => rfl) ?_
    refine pu (v := .sc _) rfl rfl (fun _ => rfl) ?_
    obtain ⟨r8, hr8, hR⟩ := bindE hR
    refine cls [] rfl rfl cb8 (ok8 (w6 (r5 + v7)) n _ hr8) (.cons (.sc _) (.cons (.sc _) (.nil))) (.inr rfl) rfl ?_
    refine pu (v := .sc _) rfl rfl (fun _ => rfl) ?_
    refine RunC.fin ?_
    refine AWP.ret ?_
    have hR := Option.some.inj hR; subst hR
    exact hQ _ _ (LS.mk [(4, .sc (.int .i64 r8))] (lblks 0 [boxB (α := spymake_Stream) false (spymake_Stream.mk s.L (w6 (s.at_ + 1)))]) 1) (.sc (.int .i64 r8)) [] (.inr rfl) (Weak.turnL [(0, 0)] [] rfl rfl (tc (.sc _) tn) (mc rfl (.box rfl (.cons trR1 (.cons (.sc _) (.nil))) rfl) mn)) (ro1 (rvT (v := .sc (.int .i64 r8)) rfl)) rfl rfl (.sc _) (pc rfl bldB pn)
theorem ok20 (s : spymake_Stream) (r : Int × spymake_Stream) (hR : Stream_rate s = some r) : FnD Try.prog 20 [boxB false s] [.ptr 0 0 0] (.sc (.int .i64 r.1)) [boxB false r.2] := by
  refine FnX.walk Try.func20 rfl 10 1 (by simp [Try.ntmps20]) rfl fun W S F Q hQ => ?_
  unfold Stream_rate at hR
  refine AWP.sq ?_
  refine AWP.rgC 5 rfl rfl ?_
  refine pu (v := .sc _) rfl rfl (fun _ => rfl) ?_
  refine RunC.fin ?_
  refine AWP.sq ?_
  refine AWP.rgC 37 rfl rfl ?_
  refine pu (v := .ptr _ _ _) rfl rfl (fun _ => rfl) ?_
  refine bs (α := Int) 9 true ([50, 500, 5000, 5000, 40000, 1048577] : List Int) rfl rfl ti22 rfl ti3 rfl rfl rfl rfl rfl ?_
  refine pu (v := .ptr _ _ _) rfl rfl (fun _ => rfl) ?_
  obtain ⟨r1, hr1, hR⟩ := bindE hR
  refine cps (res' := .sc (.int .i64 r1.1)) (ups := [(0, boxB (α := spymake_Stream) false r1.2)]) [0] 17 rfl rfl rfl cb7 (ok7 s 6 _ hr1) (.cons (ldP rfl rfl) (.cons (.sc _) (.nil))) (pc rfl (.box (.cons ldR' (.cons (.sc _) (.nil))) rfl) pn) rfl rfl rfl rfl rfl (by first | rfl | exact renR | exact renA | exact renS | simp only [V.ren, V.rens, renR, renA, renS] | (simp only [V.ren, V.rens, renR, renA, renS]; rfl)) (by simp only [passUps, renBox, renArr]; rfl) ?_
  obtain ⟨h2, hR⟩ := chkE hR
  refine ixS0 (α := Int) rfl rfl rfl ti22 rfl ti3 rfl h2 ?_
  refine ldE (α := Int) (v := .sc _) rfl rfl rfl (ixlt h2) ti3 rfl rfl rfl rfl ?_
  obtain ⟨r3, hr3, hR⟩ := bindE hR
  refine cps (res' := .sc (.int .i64 r3.1)) (ups := [(0, boxB (α := spymake_Stream) false r3.2)]) [0] 29 rfl rfl rfl cb7 (ok7 r1.2 (gt ([50, 500, 5000, 5000, 40000, 1048577] : List Int) r1.1) _ hr3) (.cons (ldP rfl rfl) (.cons (.sc _) (.nil))) (pc rfl (.box (.cons ldR' (.cons (.sc _) (.nil))) rfl) pn) rfl rfl rfl rfl rfl (by first | rfl | exact renR | exact renA | exact renS | simp only [V.ren, V.rens, renR, renA, renS] | (simp only [V.ren, V.rens, renR, renA, renS]; rfl)) (by simp only [passUps, renBox, renArr]; rfl) ?_
  refine pu (v := .sc _) rfl rfl (fun _ => rfl) ?_
  refine RunC.fin ?_
  refine AWP.ret ?_
  have hR := Option.some.inj hR; subst hR
  exact hQ _ _ (LS.mk [(2, .sc (.int .i64 r3.1))] (lblks 0 [boxB (α := spymake_Stream) false r3.2]) 1) (.sc (.int .i64 r3.1)) [] (.inr rfl) (Weak.turnL [(0, 0)] [] rfl rfl (tc (.sc _) tn) (mc rfl (.box rfl (.cons trR1 (.cons (.sc _) (.nil))) rfl) mn)) (ro1 (rvT (v := .sc (.int .i64 r3.1)) rfl)) rfl rfl (.sc _) (pc rfl bldB pn)
theorem ok19 (v : Vec) (r : Vec) (hR : spymake_within v = some r) : FnP Try.prog 19 [aggV false v] (aggV (α := Vec) true r) := by
  refine fnP_of (FnX.walk Try.func19 rfl 17 0 (by simp [Try.ntmps19]) rfl fun W S F Q hQ => ?_)
  unfold spymake_within at hR
  refine AWP.sq ?_
  refine AWP.rgC 8 rfl rfl ?_
  refine bx (cs := _) 0 rfl rfl rfl ?_
  refine al (cs := [.sc (.int .i64 0), .sc (.int .i64 0), .sc (.int .i64 0)]) 4 rfl rfl ti29 rfl rfl ?_
  refine RunC.fin ?_
  refine AWP.sq ?_
  refine AWP.rgC 12 rfl rfl ?_
  refine pu (v := .fn _ _) rfl rfl (fun _ => rfl) ?_
  refine RunC.fin ?_
  refine AWP.sq ?_
  refine AWP.rgD 68 [0, 0, 2, 7, 0, 0, 32, 127, 0, 0, 512, 2047, 4095, 8191] ⟨[], [none, none, some [0], none, none, none, some [0], none, none, none, some [0], none, none, some [4]]⟩ hmix (by kernel_rfl) rfl rfl ?_
  refine pu (v := .fn _ _) rfl rfl (fun _ => rfl) ?_
  refine fa rfl rfl ti29 rfl rfl ti2 rfl ?_
  refine ldB (v := .sc _) rfl rfl rfl rfl ti2 rfl rfl ?_
  obtain ⟨r1, hr1, hR⟩ := bindE hR
  refine cls [] rfl rfl cb37 (ok37 v.X _ hr1) (.cons (.sc _) (.nil)) (.inr rfl) rfl ?_
  refine pu (v := .fn _ _) rfl rfl (fun _ => rfl) ?_
  refine fa rfl rfl ti29 rfl rfl ti2 rfl ?_
  refine ldB (v := .sc _) rfl rfl rfl rfl ti2 rfl rfl ?_
  obtain ⟨r2, hr2, hR⟩ := bindE hR
  refine cls [] rfl rfl cb37 (ok37 v.Y _ hr2) (.cons (.sc _) (.nil)) (.inr rfl) rfl ?_
  refine pu (v := .fn _ _) rfl rfl (fun _ => rfl) ?_
  refine fa rfl rfl ti29 rfl rfl ti2 rfl ?_
  refine ldB (v := .sc _) rfl rfl rfl rfl ti2 rfl rfl ?_
  obtain ⟨r3, hr3, hR⟩ := bindE hR
  refine cls [] rfl rfl cb37 (ok37 v.Z _ hr3) (.cons (.sc _) (.nil)) (.inr rfl) rfl ?_
  refine bu (cs := [.sc (.int .i64 r1), .sc (.int .i64 r2), .sc (.int .i64 r3)]) rfl bt29 rfl ?_
  refine stB (cs' := [.sc (.int .i64 r1), .sc (.int .i64 r2), .sc (.int .i64 r3)]) rfl rfl rfl rfl ti29 rfl rfl rfl rfl rfl ?_
  refine RunC.fin ?_
  refine AWP.ret ?_
  have hR := Option.some.inj hR; subst hR
  exact hQ _ _ (LS.mk [(2, .ptr 0 0 0)] (lblks 0 [boxB (α := Vec) true (Vec.mk r1 r2 r3)]) 1) (aggV (α := Vec) true (Vec.mk r1 r2 r3)) [] (.inr rfl) (Weak.turnL [(4, 0)] [] rfl rfl (tc (trP' rfl rfl rfl rfl) tn) (mc rfl (.box rfl (.cons (.sc _) (.cons (.sc _) (.cons (.sc _) (.nil)))) rfl) mn)) (ro1 (rvC (v := aggV (α := Vec) true (Vec.mk r1 r2 r3)) rfl rfl ti29 rfl)) rfl rfl ldA pn
theorem ok18 (p : Bound × Bound × Bound) (v : Vec) (r : Bool) (hR : predict_Has p v = some r) : FnP Try.prog 18 [aggV false p, aggV false v] (.sc (.bool r)) := by
  refine fnP_of (FnX.walk Try.func18 rfl 24 0 (by simp [Try.ntmps18]) rfl fun W S F Q hQ => ?_)
  unfold predict_Has at hR
  refine AWP.sq ?_
  refine AWP.rgC 12 rfl rfl ?_
  refine bx (cs := _) 0 rfl rfl rfl ?_
  refine bx (cs := _) 4 rfl rfl rfl ?_
  refine pu (v := .sc _) rfl rfl (fun _ => rfl) ?_
  refine RunC.fin ?_
  refine AWP.joinX (fun z1 : Bool => LS.mk [(4, .sc (.bool z1))] (lblks 0 []) 0) hR (fun o1 hR => ?_) fun z1 hR => ?_
  · refine AWP.rgC 92 rfl rfl ?_
    refine iaP (o' := 0) rfl rfl rfl ti46 rfl ti44 (by decide) rfl ?_
    refine ldB (v := .agg _) rfl rfl rfl rfl ti44 rfl rfl ?_
    refine fa rfl rfl ti29 rfl rfl ti2 rfl ?_
    refine ldB (v := .sc _) rfl rfl rfl rfl ti2 rfl rfl ?_
    obtain ⟨r2, hr2, hR⟩ := bindE hR
    refine cls [] rfl rfl cb36 (ok36 p.1 v.X _ hr2) (.cons (.agg (.cons (.sc _) (.cons (.sc _) (.cons (.sc _) (.nil)))) rfl) (.cons (.sc _) (.nil))) (.inr rfl) rfl ?_
    refine pu (v := .sc _) rfl rfl (fun _ => rfl) ?_
    refine brR hR (fun h3 hR => ?_) fun h3 hR => ?_
    · refine iaP (o' := 3) (wtG rfl rfl rfl h3) rfl rfl ti46 rfl ti44 (by decide) rfl ?_
      refine ldB (v := .agg _) (wtG rfl rfl rfl h3) rfl rfl rfl ti44 rfl rfl ?_
      refine fa (wtG rfl rfl rfl h3) rfl ti29 rfl rfl ti2 rfl ?_
      refine ldB (v := .sc _) (wtG rfl rfl rfl h3) rfl rfl rfl ti2 rfl rfl ?_
      obtain ⟨r4, hr4, hR⟩ := bindE hR
      refine cls [] (wtG rfl rfl rfl h3) rfl cb36 (ok36 p.2.1 v.Y _ hr4) (.cons (.agg (.cons (.sc _) (.cons (.sc _) (.cons (.sc _) (.nil)))) rfl) (.cons (.sc _) (.nil))) (.inr rfl) rfl ?_
      refine pkT (v := .sc (.bool r4)) rfl rfl h3 rfl ?_
      refine pu (v := .sc _) rfl rfl (fun _ => rfl) ?_
      refine brR hR (fun h5 hR => ?_) fun h5 hR => ?_
      · refine iaP (o' := 6) (wtG rfl rfl rfl h5) rfl rfl ti46 rfl ti44 (by decide) rfl ?_
        refine ldB (v := .agg _) (wtG rfl rfl rfl h5) rfl rfl rfl ti44 rfl rfl ?_
        refine fa (wtG rfl rfl rfl h5) rfl ti29 rfl rfl ti2 rfl ?_
        refine ldB (v := .sc _) (wtG rfl rfl rfl h5) rfl rfl rfl ti2 rfl rfl ?_
        obtain ⟨r6, hr6, hR⟩ := bindE hR
        refine cls [] (wtG rfl rfl rfl h5) rfl cb36 (ok36 p.2.2 v.Z _ hr6) (.cons (.agg (.cons (.sc _) (.cons (.sc _) (.cons (.sc _) (.nil)))) rfl) (.cons (.sc _) (.nil))) (.inr rfl) rfl ?_
        refine pkT (v := .sc (.bool r6)) rfl rfl h5 rfl ?_
        refine pu (v := .sc _) rfl rfl (fun _ => rfl) ?_
        refine RunC.fin ?_
        have hR := Option.some.inj hR; subst hR
        exact Weak.turnL [] [] rfl rfl (tc (.sc _) tn) mn
      · refine sk (skW rfl rfl rfl h5) ?_
        refine sk (skW rfl rfl rfl h5) ?_
        refine sk (skW rfl rfl rfl h5) ?_
        refine sk (skW rfl rfl rfl h5) ?_
        refine sk (skW rfl rfl rfl h5) ?_
        refine pkF (v := .sc (.bool false)) rfl rfl h5 rfl ?_
        refine pu (v := .sc _) rfl rfl (fun _ => rfl) ?_
        refine RunC.fin ?_
        have hR := Option.some.inj hR; subst hR
        exact Weak.turnL [] [] rfl rfl (tc (.sc _) tn) mn
    · refine sk (skW rfl rfl rfl h3) ?_
      refine sk (skW rfl rfl rfl h3) ?_
      refine sk (skW rfl rfl rfl h3) ?_
      refine sk (skW rfl rfl rfl h3) ?_
      refine sk (skW rfl rfl rfl h3) ?_
      refine pkF (v := .sc (.bool false)) rfl rfl h3 rfl ?_
      refine pu (v := .sc _) rfl rfl (fun _ => rfl) ?_
      refine sk (skW rfl rfl rfl rfl) ?_
      refine sk (skW rfl rfl rfl rfl) ?_
      refine sk (skW rfl rfl rfl rfl) ?_
      refine sk (skW rfl rfl rfl rfl) ?_
      refine sk (skW rfl rfl rfl rfl) ?_
      refine pkF (v := .sc (.bool false)) rfl rfl rfl rfl ?_
      refine pu (v := .sc _) rfl rfl (fun _ => rfl) ?_
      refine RunC.fin ?_
      have hR := Option.some.inj hR; subst hR
      exact Weak.turnL [] [] rfl rfl (tc (.sc _) tn) mn
  · refine AWP.ret ?_
    have hR := Option.some.inj hR; subst hR
    exact hQ _ _ (LS.mk [(4, .sc (.bool z1))] (lblks 0 []) 0) (.sc (.bool z1)) [] (.inr rfl) (Weak.turnL [] [] rfl rfl (tc (.sc _) tn) mn) (ro1 (rvT (v := .sc (.bool z1)) rfl)) rfl rfl (.sc _) pn
theorem ok16 (s : List Int) (v : Int) (r : Bool) (hR : slices_Contains_Int s v = some r) : FnP Try.prog 16 [rowV false s, .sc (.int .i64 v)] (.sc (.bool r)) := by
  refine fnP_of (FnX.walk Try.func16 rfl 9 0 (by simp [Try.ntmps16]) rfl fun W S F Q hQ => ?_)
  unfold slices_Contains_Int at hR
  refine AWP.sq ?_
  refine AWP.rgC 4 rfl rfl ?_
  refine pu (v := .sc _) rfl rfl (fun _ => rfl) ?_
  refine RunC.fin ?_
  refine AWP.sq ?_
  refine AWP.rgC 24 rfl rfl ?_
  refine pu (v := rowV _ s) rfl rfl (fun _ => rfl) ?_
  refine pu (v := .sc _) rfl rfl (fun _ => rfl) ?_
  obtain ⟨r1, hr1, hR⟩ := bindE hR
  refine cls [] rfl rfl cb35 (ok35 s v _ hr1) (.cons ldR' (.cons (.sc _) (.nil))) (.inr rfl) rfl ?_
  refine pu (v := .sc _) rfl rfl (fun _ => rfl) ?_
  refine pu (v := .sc _) rfl rfl (fun _ => rfl) ?_
  refine RunC.fin ?_
  refine AWP.ret ?_
  have hR := Option.some.inj hR; subst hR
  exact hQ _ _ (LS.mk [(4, .sc (.bool (decide (r1 ≥ 0))))] (lblks 0 []) 0) (.sc (.bool (decide (r1 ≥ 0)))) [] (.inr rfl) (Weak.turnL [] [] rfl rfl (tc (.sc _) tn) mn) (ro1 (rvT (v := .sc (.bool (decide (r1 ≥ 0)))) rfl)) rfl rfl (.sc _) pn
theorem ok17 (s : List Body) (v : Body) (r : Int) (hR : slices_Index_Body s v = some r) : FnP Try.prog 17 [rowV false s, aggV false v] (.sc (.int .i64 r)) := by
  refine fnP_of (FnX.walk Try.func17 rfl 19 0 (by simp [Try.ntmps17]) rfl fun W S F Q hQ => ?_)
  unfold slices_Index_Body at hR
  refine AWP.sq ?_
  refine AWP.rgC 8 rfl rfl ?_
  refine bx (cs := _) 0 rfl rfl rfl ?_
  refine pu (v := .sc _) rfl rfl (fun _ => rfl) ?_
  refine RunC.fin ?_
  refine AWP.sq ?_
  refine AWP.sq ?_
  refine AWP.rgC 20 rfl rfl ?_
  refine pu (v := rowV _ s) rfl rfl (fun _ => rfl) ?_
  refine lenL (α := Body) rfl rfl ti26 rfl ?_
  refine pu (v := .sc _) rfl rfl (fun _ => rfl) ?_
  refine RunC.fin ?_
  refine AWP.loopK' (fun s1 : Int => LS.mk [(0, rowV (α := Body) false s), (3, .ptr 0 0 0), (7, .sc (.int .i64 (s.length : Int))), (8, .sc (.int .i64 s1))] (lblks 0 [boxB (α := Body) true v]) 1) (fun z2 : Unit => LS.mk [] (lblks 0 []) 0) (slices_Index_Body.l1 s v) hR (s0 := 0) (Weak.turnL [(0, 0)] [] rfl rfl (tc trR1 (tc (trP' rfl rfl rfl rfl) (tc (.sc _) (tc (.sc _) tn)))) (mc rfl (.box rfl (.cons (.sc _) (.cons (.sc _) (.cons (.sc _) (.cons (.sc _) (.cons (.sc _) (.cons (.sc _) (.cons (.sc _) (.cons (.sc _) (.nil))))))))) rfl) mn)) (fun s1 o1 hR hE1 => ?_) fun z2 hR => ?_
  · unfold slices_Index_Body.l1 at hR
    refine AWP.sq ?_
    refine AWP.rgC 5 rfl rfl ?_
    refine pu (v := .sc _) rfl rfl (fun _ => rfl) ?_
    refine RunC.fin ?_
    refine AWP.sq ?_
    refine AWP.cd hR rfl (fun h3 hR => ?_) fun h3 hR => ?_
    · refine AWP.skip ?_
      refine skT ?_
      refine AWP.sq ?_
      refine AWP.block ?_
      refine AWP.sq ?_
      refine AWP.rgC 13 rfl rfl ?_
      refine pu (v := .sc _) rfl rfl (fun _ => rfl) ?_
      refine pu (v := .sc _) rfl rfl (fun _ => rfl) ?_
      refine RunC.fin ?_
      refine AWP.sq ?_
      refine AWP.rgD 37 [0, 0, 0, 6, 14, 31] ⟨[], [some [0], none, none, none, some [], none]⟩ hmix (by kernel_rfl) rfl rfl ?_
      refine ldB (v := .agg _) rfl rfl rfl rfl ti32 rfl rfl ?_
      refine pu (v := rowV _ s) rfl rfl (fun _ => rfl) ?_
      refine pu (v := .sc _) rfl rfl (fun _ => rfl) ?_
      obtain ⟨h4, hR⟩ := chkE hR
      refine ixL (α := Body) rfl rfl rfl ti26 rfl ti32 rfl h4 ?_
      refine ldR (v := .agg _) rfl rfl ti32 rfl ?_
      refine es (cs := [.sc (.int .i64 v.ID), .sc (.int .i64 v.Was.X), .sc (.int .i64 v.Was.Y), .sc (.int .i64 v.Was.Z), .sc (.int .i64 v.Here.X), .sc (.int .i64 v.Here.Y), .sc (.int .i64 v.Here.Z), .sc (.int .i64 v.Rate)]) (ds := [.sc (.int .i64 (gt s s1).ID), .sc (.int .i64 (gt s s1).Was.X), .sc (.int .i64 (gt s s1).Was.Y), .sc (.int .i64 (gt s s1).Was.Z), .sc (.int .i64 (gt s s1).Here.X), .sc (.int .i64 (gt s s1).Here.Y), .sc (.int .i64 (gt s s1).Here.Z), .sc (.int .i64 (gt s s1).Rate)]) rfl rfl rfl qa32 qg32 (qe32 _ _ _ _ _ _ _ _ _ _ _ _ _ _ _ _) ?_
      refine RunC.fin ?_
      refine AWP.cd hR rfl (fun h5 hR => ?_) fun h5 hR => ?_
      · refine AWP.sq ?_
        refine AWP.rgC 45 rfl rfl ?_
        refine pu (v := .sc _) rfl rfl (fun _ => rfl) ?_
        refine pu (v := .sc _) rfl rfl (fun _ => rfl) ?_
        refine RunC.fin ?_
        refine AWP.ret ?_
        refine rtB ?_
        refine rtT ?_
        refine rtT ?_
        refine rtB (rtT ?_)
        replace hR := escL hR hE1
        refine rtT ?_
        have hR := Option.some.inj hR; subst hR
        exact hQ _ _ (LS.mk [(4, .sc (.int .i64 s1))] (lblks 0 []) 0) (.sc (.int .i64 s1)) [] (.inr rfl) (Weak.turnL [] [] rfl rfl (tc (.sc _) tn) mn) (ro1 (rvT (v := .sc (.int .i64 s1)) rfl)) rfl rfl (.sc _) pn
      · refine AWP.skip ?_
        refine skB ?_
        refine skT ?_
        refine AWP.rgC 45 rfl rfl ?_
        refine pu (v := .sc _) rfl rfl (fun _ => rfl) ?_
        refine pu (v := .sc _) rfl rfl (fun _ => rfl) ?_
        refine RunC.fin ?_
        refine ⟨(w6 (s1 + 1)), (Option.some.inj hR).symm, ?_⟩
        exact Weak.turnL [(0, 0)] [] rfl rfl (tc trR1 (tc (trP' rfl rfl rfl rfl) (tc (.sc _) (tc (.sc _) tn)))) (mc rfl (.box rfl (.cons (.sc _) (.cons (.sc _) (.cons (.sc _) (.cons (.sc _) (.cons (.sc _) (.cons (.sc _) (.cons (.sc _) (.cons (.sc _) (.nil))))))))) rfl) mn)
    · refine AWP.exit ?_
      refine exT ?_
      refine exT ?_
      refine exH (skT ?_)
      refine ⟨(), (Option.some.inj hR).symm, ?_⟩
      exact Weak.turnL [] [] rfl rfl tn mn
  · refine skT ?_
    refine AWP.sq ?_
    refine AWP.rgC 4 rfl rfl ?_
    refine pu (v := .sc _) rfl rfl (fun _ => rfl) ?_
    refine RunC.fin ?_
    refine AWP.ret ?_
    have hR := Option.some.inj hR; subst hR
    exact hQ _ _ (LS.mk [(4, .sc (.int .i64 (-1)))] (lblks 0 []) 0) (.sc (.int .i64 (-1))) [] (.inr rfl) (Weak.turnL [] [] rfl rfl (tc (.sc _) tn) mn) (ro1 (rvT (v := .sc (.int .i64 (-1))) rfl)) rfl rfl (.sc _) pn
theorem ok24 (a : Int) (b : Int) (p2 : Int) (r : Int) (hR : sky_Place_1 a b p2 = some r) : FnP Try.prog 24 [.sc (.int .i64 a), .sc (.int .i64 b), .rp (Cl.c false p2)] (.sc (.int .i64 r)) := by
  refine fnP_of (FnX.walk Try.func24 rfl 14 0 (by simp [Try.ntmps24]) rfl fun W S F Q hQ => ?_)
  unfold sky_Place_1 at hR
  refine AWP.sq ?_
  refine AWP.rgC 4 rfl rfl ?_
  refine pu (v := .sc _) rfl rfl (fun _ => rfl) ?_
  refine RunC.fin ?_
  refine AWP.sq ?_
  refine AWP.rgC 40 rfl rfl ?_
  refine pu (v := .sc _) rfl rfl (fun _ => rfl) ?_
  refine pu (v := .sc _) rfl rfl (fun _ => rfl) ?_
  refine pu (v := .sc _) rfl rfl (fun _ => rfl) ?_
  refine pu (v := .sc _) rfl rfl (fun _ => rfl) ?_
  refine ldR (v := .sc _) rfl rfl ti2 rfl ?_
  refine pu (v := .sc _) rfl rfl (fun _ => rfl) ?_
  obtain ⟨r1, hr1, hR⟩ := bindE hR
  refine cls [] rfl rfl cb21 (ok21 (w6 ((w6 (b - a)) * p2)) 86400000 _ hr1) (.cons (.sc _) (.cons (.sc _) (.nil))) (.inr rfl) rfl ?_
  refine pu (v := .sc _) rfl rfl (fun _ => rfl) ?_
  refine pu (v := .sc _) rfl rfl (fun _ => rfl) ?_
  refine RunC.fin ?_
  refine AWP.ret ?_
  have hR := Option.some.inj hR; subst hR
  exact hQ _ _ (LS.mk [(5, .sc (.int .i64 (w6 (a + r1))))] (lblks 0 []) 0) (.sc (.int .i64 (w6 (a + r1)))) [] (.inr rfl) (Weak.turnL [] [] rfl rfl (tc (.sc _) tn) mn) (ro1 (rvT (v := .sc (.int .i64 (w6 (a + r1)))) rfl)) rfl rfl (.sc _) pn
theorem ok9 (b : Body) (t : Int) (r : Vec × Int) (hR : sky_Place b t = some r) : FnP Try.prog 9 [aggV false b, .sc (.int .i64 t)] (.tup [aggV (α := Vec) true r.1, .sc (.int .i64 r.2)]) := by
  refine fnP_of (FnX.walk Try.func9 rfl 67 0 (by simp [Try.ntmps9]) rfl fun W S F Q hQ => ?_)
  unfold sky_Place at hR
  refine AWP.sq ?_
  refine AWP.rgC 12 rfl rfl ?_
  refine bx (cs := _) 0 rfl rfl rfl ?_
  refine al (cs := [.sc (.int .i64 0), .sc (.int .i64 0), .sc (.int .i64 0)]) 4 rfl rfl ti29 rfl rfl ?_
  refine pu (v := .sc _) rfl rfl (fun _ => rfl) ?_
  refine RunC.fin ?_
  refine AWP.sq ?_
  refine AWP.rgC 24 rfl rfl ?_
  refine pu (v := .sc _) rfl rfl (fun _ => rfl) ?_
  obtain ⟨r1, hr1, hR⟩ := bindE hR
  refine cls [] rfl rfl cb21 (ok21 t 86400000 _ hr1) (.cons (.sc _) (.cons (.sc _) (.nil))) (.inr rfl) rfl ?_
  refine pu (v := .sc _) rfl rfl (fun _ => rfl) ?_
  refine RunC.fin ?_
  refine AWP.sq ?_
  refine AWP.joinX (fun z2 : Bool => LS.mk [(1, .sc (.int .i64 t)), (2, .ptr 0 0 0), (4, .ptr 1 0 0), (6, .sc (.int .i64 r1)), (20, .sc (.bool z2))] (lblks 0 [boxB (α := Body) true b, boxB (α := Vec) true (Vec.mk 0 0 0)]) 2) hR (fun o2 hR => ?_) fun z2 hR => ?_
  · refine AWP.rgC 48 rfl rfl ?_
    refine pu (v := .sc _) rfl rfl (fun _ => rfl) ?_
    refine pu (v := .sc _) rfl rfl (fun _ => rfl) ?_
    refine pu (v := .sc _) rfl rfl (fun _ => rfl) ?_
    refine brR hR (fun h3 hR => ?_) fun h3 hR => ?_
    · refine sk (skW rfl rfl rfl h3) ?_
      refine sk (skW rfl rfl rfl h3) ?_
      refine pkT (v := .sc (.bool true)) rfl rfl h3 rfl ?_
      refine RunC.fin ?_
      have hR := Option.some.inj hR; subst hR
      exact Weak.turnL [(0, 0), (4, 0)] [] rfl rfl (tc (.sc _) (tc (trP' rfl rfl rfl rfl) (tc (trP' rfl rfl rfl rfl) (tc (.sc _) (tc (.sc _) tn))))) (mc rfl (.box rfl (.cons (.sc _) (.cons (.sc _) (.cons (.sc _) (.cons (.sc _) (.cons (.sc _) (.cons (.sc _) (.cons (.sc _) (.cons (.sc _) (.nil))))))))) rfl) (mc rfl (.box rfl (.cons (.sc _) (.cons (.sc _) (.cons (.sc _) (.nil)))) rfl) mn))
    · refine pu (v := .sc _) (wtG rfl rfl rfl h3) rfl (fun _ => rfl) ?_
      refine pu (v := .sc _) (wtG rfl rfl rfl h3) rfl (fun _ => rfl) ?_
      refine pkF (v := .sc (.bool (decide (r1 ≥ 400)))) rfl rfl h3 rfl ?_
      refine RunC.fin ?_
      have hR := Option.some.inj hR; subst hR
      exact Weak.turnL [(0, 0), (4, 0)] [] rfl rfl (tc (.sc _) (tc (trP' rfl rfl rfl rfl) (tc (trP' rfl rfl rfl rfl) (tc (.sc _) (tc (.sc _) tn))))) (mc rfl (.box rfl (.cons (.sc _) (.cons (.sc _) (.cons (.sc _) (.cons (.sc _) (.cons (.sc _) (.cons (.sc _) (.cons (.sc _) (.cons (.sc _) (.nil))))))))) rfl) (mc rfl (.box rfl (.cons (.sc _) (.cons (.sc _) (.cons (.sc _) (.nil)))) rfl) mn))
  · refine AWP.cd hR rfl (fun h4 hR => ?_) fun h4 hR => ?_
    · refine AWP.sq ?_
      refine AWP.rgC 14 rfl rfl ?_
      refine bu (cs := [.sc (.int .i64 0), .sc (.int .i64 0), .sc (.int .i64 0)]) rfl bt29 rfl ?_
      refine stB (cs' := [.sc (.int .i64 0), .sc (.int .i64 0), .sc (.int .i64 0)]) rfl rfl rfl rfl ti29 rfl rfl rfl rfl rfl ?_
      refine pu (v := .sc _) rfl rfl (fun _ => rfl) ?_
      refine RunC.fin ?_
      refine AWP.ret ?_
      refine rtT ?_
      have hR := Option.some.inj hR; subst hR
      exact hQ _ _ (LS.mk [(4, .ptr 0 0 0), (5, .sc (.int .i64 4))] (lblks 0 [boxB (α := Vec) true (Vec.mk 0 0 0)]) 1) (.tup [aggV (α := Vec) true (Vec.mk 0 0 0), .sc (.int .i64 4)]) [] (.inr rfl) (Weak.turnL [(1, 0)] [] rfl rfl (tc (trP' rfl rfl rfl rfl) (tc (.sc _) tn)) (mc rfl (.box rfl (.cons (.sc _) (.cons (.sc _) (.cons (.sc _) (.nil)))) rfl) mn)) (ro2 (rvC (v := aggV (α := Vec) true (Vec.mk 0 0 0)) rfl rfl ti29 rfl) (rvT (v := .sc (.int .i64 4)) rfl)) rfl rfl (.tup (.cons ldA (.cons (.sc _) .nil))) pn
    · refine AWP.skip ?_
      refine skT ?_
      refine AWP.sq ?_
      refine AWP.rgC 50 rfl rfl ?_
      refine ldB (v := .agg _) rfl rfl rfl rfl ti32 rfl rfl ?_
      refine pu (v := .sc _) rfl rfl (fun _ => rfl) ?_
      obtain ⟨r5, hr5, hR⟩ := bindE hR
      refine cls [] rfl rfl cb22 (ok22 b r1 _ hr5) (.cons (.agg (.cons (.sc _) (.cons (.sc _) (.cons (.sc _) (.cons (.sc _) (.cons (.sc _) (.cons (.sc _) (.cons (.sc _) (.cons (.sc _) (.nil))))))))) rfl) (.cons (.sc _) (.nil))) (.inr rfl) rfl ?_
      refine pu (v := .tup _) rfl rfl (fun _ => rfl) ?_
      refine pu (v := .agg _) rfl rfl (fun _ => rfl) ?_
      refine pu (v := .agg _) rfl rfl (fun _ => rfl) ?_
      refine pu (v := .sc _) rfl rfl (fun _ => rfl) ?_
      refine al (cs := [.sc (.int .i64 0), .sc (.int .i64 0), .sc (.int .i64 0)]) 30 rfl rfl ti29 rfl rfl ?_
      refine al (cs := [.sc (.int .i64 0), .sc (.int .i64 0), .sc (.int .i64 0)]) 34 rfl rfl ti29 rfl rfl ?_
      refine stB (cs' := [.sc (.int .i64 r5.1.X), .sc (.int .i64 r5.1.Y), .sc (.int .i64 r5.1.Z)]) rfl rfl rfl rfl ti29 rfl rfl rfl rfl rfl ?_
      refine stB (cs' := [.sc (.int .i64 r5.2.1.X), .sc (.int .i64 r5.2.1.Y), .sc (.int .i64 r5.2.1.Z)]) rfl rfl rfl rfl ti29 rfl rfl rfl rfl rfl ?_
      refine pu (v := .sc _) rfl rfl (fun _ => rfl) ?_
      refine RunC.fin ?_
      refine AWP.sq ?_
      refine AWP.sq ?_
      refine AWP.rgC 58 rfl rfl ?_
      refine pu (v := .sc _) rfl rfl (fun _ => rfl) ?_
      refine pu (v := .sc _) rfl rfl (fun _ => rfl) ?_
      refine RunC.fin ?_
      refine AWP.cd hR rfl (fun h6 hR => ?_) fun h6 hR => ?_
      · refine AWP.sq ?_
        refine AWP.rgC 74 rfl rfl ?_
        refine bu (cs := [.sc (.int .i64 0), .sc (.int .i64 0), .sc (.int .i64 0)]) rfl bt29 rfl ?_
        refine pu (v := .sc _) rfl rfl (fun _ => rfl) ?_
        refine stB (cs' := [.sc (.int .i64 0), .sc (.int .i64 0), .sc (.int .i64 0)]) rfl rfl rfl rfl ti29 rfl rfl rfl rfl rfl ?_
        refine pu (v := .sc _) rfl rfl (fun _ => rfl) ?_
        refine RunC.fin ?_
        refine AWP.ret ?_
        refine rtT ?_
        have hR := Option.some.inj hR; subst hR
        exact hQ _ _ (LS.mk [(4, .ptr 0 0 0), (5, .sc (.int .i64 r5.2.2))] (lblks 0 [boxB (α := Vec) true (Vec.mk 0 0 0)]) 1) (.tup [aggV (α := Vec) true (Vec.mk 0 0 0), .sc (.int .i64 r5.2.2)]) [] (.inr rfl) (Weak.turnL [(1, 0)] [] rfl rfl (tc (trP' rfl rfl rfl rfl) (tc (.sc _) tn)) (mc rfl (.box rfl (.cons (.sc _) (.cons (.sc _) (.cons (.sc _) (.nil)))) rfl) mn)) (ro2 (rvC (v := aggV (α := Vec) true (Vec.mk 0 0 0)) rfl rfl ti29 rfl) (rvT (v := .sc (.int .i64 r5.2.2)) rfl)) rfl rfl (.tup (.cons ldA (.cons (.sc _) .nil))) pn
      · refine AWP.skip ?_
        refine skT ?_
        refine AWP.sq ?_
        refine AWP.rgC 94 rfl rfl ?_
        refine ldB (v := .agg _) rfl rfl rfl rfl ti29 rfl rfl ?_
        refine ldB (v := .agg _) rfl rfl rfl rfl ti29 rfl rfl ?_
        obtain ⟨r7, hr7, hR⟩ := bindE hR
        refine cls [] rfl rfl cb23 (ok23 r5.1 r5.2.1 _ hr7) (.cons (.agg (.cons (.sc _) (.cons (.sc _) (.cons (.sc _) (.nil)))) rfl) (.cons (.agg (.cons (.sc _) (.cons (.sc _) (.cons (.sc _) (.nil)))) rfl) (.nil))) (.inr rfl) rfl ?_
        refine pu (v := .tup _) rfl rfl (fun _ => rfl) ?_
        refine pu (v := .agg _) rfl rfl (fun _ => rfl) ?_
        refine pu (v := .sc _) rfl rfl (fun _ => rfl) ?_
        refine al (cs := [.sc (.int .i64 0), .sc (.int .i64 0), .sc (.int .i64 0)]) 82 rfl rfl ti29 rfl rfl ?_
        refine stB (cs' := [.sc (.int .i64 r7.1.X), .sc (.int .i64 r7.1.Y), .sc (.int .i64 r7.1.Z)]) rfl rfl rfl rfl ti29 rfl rfl rfl rfl rfl ?_
        refine pu (v := .sc _) rfl rfl (fun _ => rfl) ?_
        refine RunC.fin ?_
        refine AWP.sq ?_
        refine AWP.sq ?_
        refine AWP.rgC 102 rfl rfl ?_
        refine pu (v := .sc _) rfl rfl (fun _ => rfl) ?_
        refine pu (v := .sc _) rfl rfl (fun _ => rfl) ?_
        refine RunC.fin ?_
        refine AWP.cd hR rfl (fun h8 hR => ?_) fun h8 hR => ?_
        · refine AWP.sq ?_
          refine AWP.rgC 118 rfl rfl ?_
          refine bu (cs := [.sc (.int .i64 0), .sc (.int .i64 0), .sc (.int .i64 0)]) rfl bt29 rfl ?_
          refine pu (v := .sc _) rfl rfl (fun _ => rfl) ?_
          refine stB (cs' := [.sc (.int .i64 0), .sc (.int .i64 0), .sc (.int .i64 0)]) rfl rfl rfl rfl ti29 rfl rfl rfl rfl rfl ?_
          refine pu (v := .sc _) rfl rfl (fun _ => rfl) ?_
          refine RunC.fin ?_
          refine AWP.ret ?_
          refine rtT ?_
          have hR := Option.some.inj hR; subst hR
          exact hQ _ _ (LS.mk [(4, .ptr 0 0 0), (5, .sc (.int .i64 r7.2))] (lblks 0 [boxB (α := Vec) true (Vec.mk 0 0 0)]) 1) (.tup [aggV (α := Vec) true (Vec.mk 0 0 0), .sc (.int .i64 r7.2)]) [] (.inr rfl) (Weak.turnL [(1, 0)] [] rfl rfl (tc (trP' rfl rfl rfl rfl) (tc (.sc _) tn)) (mc rfl (.box rfl (.cons (.sc _) (.cons (.sc _) (.cons (.sc _) (.nil)))) rfl) mn)) (ro2 (rvC (v := aggV (α := Vec) true (Vec.mk 0 0 0)) rfl rfl ti29 rfl) (rvT (v := .sc (.int .i64 r7.2)) rfl)) rfl rfl (.tup (.cons ldA (.cons (.sc _) .nil))) pn
        · refine AWP.skip ?_
          refine skT ?_
          refine AWP.sq ?_
          refine AWP.rgC 126 rfl rfl ?_
          refine pu (v := .sc _) rfl rfl (fun _ => rfl) ?_
          refine pu (v := .sc _) rfl rfl (fun _ => rfl) ?_
          refine pu (v := .sc _) rfl rfl (fun _ => rfl) ?_
          refine pu (v := .sc _) rfl rfl (fun _ => rfl) ?_
          refine al (cs := [.sc (.int .i64 0)]) 118 rfl rfl ti2 rfl rfl ?_
          refine stB (cs' := [.sc (.int .i64 (w6 (t - (w6 (r1 * 86400000)))))]) rfl rfl rfl rfl ti2 rfl rfl rfl rfl rfl ?_
          refine RunC.fin ?_
          refine AWP.sq ?_
          refine AWP.rgC 134 rfl rfl ?_
          refine pu (v := .fn _ _) rfl rfl (fun _ => rfl) ?_
          refine pu (v := .fn _ _) rfl rfl (fun _ => rfl) ?_
          refine RunC.fin ?_
          refine AWP.sq ?_
          refine AWP.rgD 218 [0, 0, 2, 0, 8, 31, 0, 0, 128, 0, 512, 2047, 0, 0, 8192, 0, 32768, 131071, 262143, 524287, 1048575] ⟨[], [none, none, some [34], none, some [82], none, none, none, some [34], none, some [82], none, none, none, some [34], none, some [82], none, none, some [1], none]⟩ hmix (by kernel_rfl) rfl rfl ?_
          refine pu (v := .fn _ _) rfl rfl (fun _ => rfl) ?_
          refine fa rfl rfl ti29 rfl rfl ti2 rfl ?_
          refine ldB (v := .sc _) rfl rfl rfl rfl ti2 rfl rfl ?_
          refine fa rfl rfl ti29 rfl rfl ti2 rfl ?_
          refine ldB (v := .sc _) rfl rfl rfl rfl ti2 rfl rfl ?_
          obtain ⟨r9, hr9, hR⟩ := bindE hR
          refine cls [118] rfl rfl cb24 (ok24 r5.2.1.X r7.1.X (w6 (t - (w6 (r1 * 86400000)))) _ hr9) (.cons (.sc _) (.cons (.sc _) (.cons (ldX rfl rfl (.cons (.sc _) (.nil)) rfl) (.nil)))) (.inl (by first | rfl | exact freshR | exact freshA | (simp only [V.fresh, V.freshs, freshR, freshA, Bool.and_self]))) rfl ?_
          refine pu (v := .fn _ _) rfl rfl (fun _ => rfl) ?_
          refine fa rfl rfl ti29 rfl rfl ti2 rfl ?_
          refine ldB (v := .sc _) rfl rfl rfl rfl ti2 rfl rfl ?_
          refine fa rfl rfl ti29 rfl rfl ti2 rfl ?_
          refine ldB (v := .sc _) rfl rfl rfl rfl ti2 rfl rfl ?_
          obtain ⟨r10, hr10, hR⟩ := bindE hR
          refine cls [118] rfl rfl cb24 (ok24 r5.2.1.Y r7.1.Y (w6 (t - (w6 (r1 * 86400000)))) _ hr10) (.cons (.sc _) (.cons (.sc _) (.cons (ldX rfl rfl (.cons (.sc _) (.nil)) rfl) (.nil)))) (.inl (by first | rfl | exact freshR | exact freshA | (simp only [V.fresh, V.freshs, freshR, freshA, Bool.and_self]))) rfl ?_
          refine pu (v := .fn _ _) rfl rfl (fun _ => rfl) ?_
          refine fa rfl rfl ti29 rfl rfl ti2 rfl ?_
          refine ldB (v := .sc _) rfl rfl rfl rfl ti2 rfl rfl ?_
          refine fa rfl rfl ti29 rfl rfl ti2 rfl ?_
          refine ldB (v := .sc _) rfl rfl rfl rfl ti2 rfl rfl ?_
          obtain ⟨r11, hr11, hR⟩ := bindE hR
          refine cls [118] rfl rfl cb24 (ok24 r5.2.1.Z r7.1.Z (w6 (t - (w6 (r1 * 86400000)))) _ hr11) (.cons (.sc _) (.cons (.sc _) (.cons (ldX rfl rfl (.cons (.sc _) (.nil)) rfl) (.nil)))) (.inl (by first | rfl | exact freshR | exact freshA | (simp only [V.fresh, V.freshs, freshR, freshA, Bool.and_self]))) rfl ?_
          refine bu (cs := [.sc (.int .i64 r9), .sc (.int .i64 r10), .sc (.int .i64 r11)]) rfl bt29 rfl ?_
          refine stB (cs' := [.sc (.int .i64 r9), .sc (.int .i64 r10), .sc (.int .i64 r11)]) rfl rfl rfl rfl ti29 rfl rfl rfl rfl rfl ?_
          refine pu (v := .sc _) rfl rfl (fun _ => rfl) ?_
          refine RunC.fin ?_
          refine AWP.ret ?_
          have hR := Option.some.inj hR; subst hR
          exact hQ _ _ (LS.mk [(4, .ptr 0 0 0), (5, .sc (.int .i64 0))] (lblks 0 [boxB (α := Vec) true (Vec.mk r9 r10 r11)]) 1) (.tup [aggV (α := Vec) true (Vec.mk r9 r10 r11), .sc (.int .i64 0)]) [] (.inr rfl) (Weak.turnL [(1, 0)] [] rfl rfl (tc (trP' rfl rfl rfl rfl) (tc (.sc _) tn)) (mc rfl (.box rfl (.cons (.sc _) (.cons (.sc _) (.cons (.sc _) (.nil)))) rfl) mn)) (ro2 (rvC (v := aggV (α := Vec) true (Vec.mk r9 r10 r11)) rfl rfl ti29 rfl) (rvT (v := .sc (.int .i64 0)) rfl)) rfl rfl (.tup (.cons ldA (.cons (.sc _) .nil))) pn
end Go.Proofs.Idt
