/- Each function of the program computes its plain function. Conditions: as each theorem states them. -/
import Derived.Test.YtggemcpmifdfiaaT
namespace Go.Proofs.Idt
open Go Go.Abs Lf
set_option linter.unusedVariables false
set_option linter.unusedSimpArgs false
set_option maxRecDepth 100000
set_option maxHeartbeats 1000000
theorem ok72 (x : Int) (r : Int) (hR : bits_Len64 x = some r) : FnP Try.prog 72 [.sc (.int .u64 x)] (.sc (.int .i64 r)) := by
  refine fnP_of (FnX.walk Try.func72 rfl 25 0 (by simp [Try.ntmps72]) rfl fun W S F Q hQ => ?_)
  unfold bits_Len64 at hR
  refine AWP.sq ?_
  refine AWP.rgC 4 rfl rfl ?_
  refine pu (v := .sc _) rfl rfl (fun _ => rfl) ?_
  refine RunC.fin ?_
  refine AWP.sq ?_
  refine AWP.sq ?_
  refine AWP.rgC 12 rfl rfl ?_
  refine pu (v := .sc _) rfl rfl (fun _ => rfl) ?_
  refine pu (v := .sc _) rfl rfl (fun _ => rfl) ?_
  refine RunC.fin ?_
  refine AWP.cd hR rfl (fun h1 hR => ?_) fun h1 hR => ?_
  · refine AWP.sq ?_
    refine AWP.rgC 24 rfl rfl ?_
    refine pu (v := .sc _) rfl rfl (fun _ => rfl) ?_
    refine pu (v := .sc _) rfl rfl (fun _ => rfl) ?_
    refine pu (v := .sc _) rfl rfl (fun _ => rfl) ?_
    refine RunC.fin ?_
    refine AWP.rgC 28 rfl rfl ?_
    refine pu (v := .sc _) rfl rfl (fun _ => rfl) ?_
    refine RunC.fin ?_
    refine AWP.sq ?_
    refine AWP.sq ?_
    refine AWP.rgC 36 rfl rfl ?_
    refine pu (v := .sc _) rfl rfl (fun _ => rfl) ?_
    refine pu (v := .sc _) rfl rfl (fun _ => rfl) ?_
    refine RunC.fin ?_
    refine AWP.cd hR rfl (fun h2 hR => ?_) fun h2 hR => ?_
    · refine AWP.sq ?_
      refine AWP.rgC 48 rfl rfl ?_
      refine pu (v := .sc _) rfl rfl (fun _ => rfl) ?_
      refine pu (v := .sc _) rfl rfl (fun _ => rfl) ?_
      refine pu (v := .sc _) rfl rfl (fun _ => rfl) ?_
      refine RunC.fin ?_
      refine AWP.rgC 60 rfl rfl ?_
      refine pu (v := .sc _) rfl rfl (fun _ => rfl) ?_
      refine pu (v := .sc _) rfl rfl (fun _ => rfl) ?_
      refine pu (v := .sc _) rfl rfl (fun _ => rfl) ?_
      refine RunC.fin ?_
      refine AWP.sq ?_
      refine AWP.sq ?_
      refine AWP.rgC 68 rfl rfl ?_
      refine pu (v := .sc _) rfl rfl (fun _ => rfl) ?_
      refine pu (v := .sc _) rfl rfl (fun _ => rfl) ?_
      refine RunC.fin ?_
      refine AWP.cd hR rfl (fun h3 hR => ?_) fun h3 hR => ?_
      · refine AWP.sq ?_
        refine AWP.rgC 80 rfl rfl ?_
        refine pu (v := .sc _) rfl rfl (fun _ => rfl) ?_
        refine pu (v := .sc _) rfl rfl (fun _ => rfl) ?_
        refine pu (v := .sc _) rfl rfl (fun _ => rfl) ?_
        refine RunC.fin ?_
        refine AWP.rgC 92 rfl rfl ?_
        refine pu (v := .sc _) rfl rfl (fun _ => rfl) ?_
        refine pu (v := .sc _) rfl rfl (fun _ => rfl) ?_
        refine pu (v := .sc _) rfl rfl (fun _ => rfl) ?_
        refine RunC.fin ?_
        refine AWP.sq ?_
        refine AWP.rgC 120 rfl rfl ?_
        refine pu (v := .sc _) rfl rfl (fun _ => rfl) ?_
        refine pu (v := .sc _) rfl rfl (fun _ => rfl) ?_
        refine cn rfl rfl ti98 rfl ti5 rfl rfl ?_
        obtain ⟨h4, hR⟩ := chkE hR
        refine ixT (s := tab1) rfl rfl rfl ti9 rfl h4 ?_
        refine cn rfl rfl ti5 rfl ti3 rfl rfl ?_
        obtain ⟨v5, ev5, hR⟩ := letE hR
        refine pu (v := .sc _) rfl rfl (fun _ => puI ev5) ?_
        refine pu (v := .sc _) rfl rfl (fun _ => rfl) ?_
        refine RunC.fin ?_
        refine AWP.ret ?_
        have hR := Option.some.inj hR; subst hR
        exact hQ _ _ (LS.mk [(2, .sc (.int .i64 v5))] (lblks 0 []) 0) (.sc (.int .i64 v5)) [] (.inr rfl) (Weak.turnL [] [] rfl rfl (tc (.sc _) tn) mn) (ro1 (rvT (v := .sc (.int .i64 v5)) rfl)) rfl rfl (.sc _) pn
      · refine AWP.skip ?_
        refine skT ?_
        refine AWP.sq ?_
        refine AWP.rgC 96 rfl rfl ?_
        refine pu (v := .sc _) rfl rfl (fun _ => rfl) ?_
        refine pu (v := .sc _) rfl rfl (fun _ => rfl) ?_
        refine cn rfl rfl ti98 rfl ti5 rfl rfl ?_
        obtain ⟨h6, hR⟩ := chkE hR
        refine ixT (s := tab1) rfl rfl rfl ti9 rfl h6 ?_
        refine cn rfl rfl ti5 rfl ti3 rfl rfl ?_
        obtain ⟨v7, ev7, hR⟩ := letE hR
        refine pu (v := .sc _) rfl rfl (fun _ => puI ev7) ?_
        refine pu (v := .sc _) rfl rfl (fun _ => rfl) ?_
        refine RunC.fin ?_
        refine AWP.ret ?_
        have hR := Option.some.inj hR; subst hR
        exact hQ _ _ (LS.mk [(2, .sc (.int .i64 v7))] (lblks 0 []) 0) (.sc (.int .i64 v7)) [] (.inr rfl) (Weak.turnL [] [] rfl rfl (tc (.sc _) tn) mn) (ro1 (rvT (v := .sc (.int .i64 v7)) rfl)) rfl rfl (.sc _) pn
    · refine AWP.skip ?_
      refine skT ?_
      refine AWP.sq ?_
      refine AWP.sq ?_
      refine AWP.rgC 44 rfl rfl ?_
      refine pu (v := .sc _) rfl rfl (fun _ => rfl) ?_
      refine pu (v := .sc _) rfl rfl (fun _ => rfl) ?_
      refine RunC.fin ?_
      refine AWP.cd hR rfl (fun h8 hR => ?_) fun h8 hR => ?_
      · refine AWP.sq ?_
        refine AWP.rgC 56 rfl rfl ?_
        refine pu (v := .sc _) rfl rfl (fun _ => rfl) ?_
        refine pu (v := .sc _) rfl rfl (fun _ => rfl) ?_
        refine pu (v := .sc _) rfl rfl (fun _ => rfl) ?_
        refine RunC.fin ?_
        refine AWP.rgC 68 rfl rfl ?_
        refine pu (v := .sc _) rfl rfl (fun _ => rfl) ?_
        refine pu (v := .sc _) rfl rfl (fun _ => rfl) ?_
        refine pu (v := .sc _) rfl rfl (fun _ => rfl) ?_
        refine RunC.fin ?_
        refine AWP.sq ?_
        refine AWP.rgC 96 rfl rfl ?_
        refine pu (v := .sc _) rfl rfl (fun _ => rfl) ?_
        refine pu (v := .sc _) rfl rfl (fun _ => rfl) ?_
        refine cn rfl rfl ti98 rfl ti5 rfl rfl ?_
        obtain ⟨h9, hR⟩ := chkE hR
        refine ixT (s := tab1) rfl rfl rfl ti9 rfl h9 ?_
        refine cn rfl rfl ti5 rfl ti3 rfl rfl ?_
        obtain ⟨v10, ev10, hR⟩ := letE hR
        refine pu (v := .sc _) rfl rfl (fun _ => puI ev10) ?_
        refine pu (v := .sc _) rfl rfl (fun _ => rfl) ?_
        refine RunC.fin ?_
        refine AWP.ret ?_
        have hR := Option.some.inj hR; subst hR
        exact hQ _ _ (LS.mk [(2, .sc (.int .i64 v10))] (lblks 0 []) 0) (.sc (.int .i64 v10)) [] (.inr rfl) (Weak.turnL [] [] rfl rfl (tc (.sc _) tn) mn) (ro1 (rvT (v := .sc (.int .i64 v10)) rfl)) rfl rfl (.sc _) pn
      · refine AWP.skip ?_
        refine skT ?_
        refine AWP.sq ?_
        refine AWP.rgC 72 rfl rfl ?_
        refine pu (v := .sc _) rfl rfl (fun _ => rfl) ?_
        refine pu (v := .sc _) rfl rfl (fun _ => rfl) ?_
        refine cn rfl rfl ti98 rfl ti5 rfl rfl ?_
        obtain ⟨h11, hR⟩ := chkE hR
        refine ixT (s := tab1) rfl rfl rfl ti9 rfl h11 ?_
        refine cn rfl rfl ti5 rfl ti3 rfl rfl ?_
        obtain ⟨v12, ev12, hR⟩ := letE hR
        refine pu (v := .sc _) rfl rfl (fun _ => puI ev12) ?_
        refine pu (v := .sc _) rfl rfl (fun _ => rfl) ?_
        refine RunC.fin ?_
        refine AWP.ret ?_
        have hR := Option.some.inj hR; subst hR
        exact hQ _ _ (LS.mk [(2, .sc (.int .i64 v12))] (lblks 0 []) 0) (.sc (.int .i64 v12)) [] (.inr rfl) (Weak.turnL [] [] rfl rfl (tc (.sc _) tn) mn) (ro1 (rvT (v := .sc (.int .i64 v12)) rfl)) rfl rfl (.sc _) pn
  · refine AWP.skip ?_
    refine skT ?_
    refine AWP.sq ?_
    refine AWP.sq ?_
    refine AWP.rgC 20 rfl rfl ?_
    refine pu (v := .sc _) rfl rfl (fun _ => rfl) ?_
    refine pu (v := .sc _) rfl rfl (fun _ => rfl) ?_
    refine RunC.fin ?_
    refine AWP.cd hR rfl (fun h13 hR => ?_) fun h13 hR => ?_
    · refine AWP.sq ?_
      refine AWP.rgC 32 rfl rfl ?_
      refine pu (v := .sc _) rfl rfl (fun _ => rfl) ?_
      refine pu (v := .sc _) rfl rfl (fun _ => rfl) ?_
      refine pu (v := .sc _) rfl rfl (fun _ => rfl) ?_
      refine RunC.fin ?_
      refine AWP.rgC 44 rfl rfl ?_
      refine pu (v := .sc _) rfl rfl (fun _ => rfl) ?_
      refine pu (v := .sc _) rfl rfl (fun _ => rfl) ?_
      refine pu (v := .sc _) rfl rfl (fun _ => rfl) ?_
      refine RunC.fin ?_
      refine AWP.sq ?_
      refine AWP.sq ?_
      refine AWP.rgC 52 rfl rfl ?_
      refine pu (v := .sc _) rfl rfl (fun _ => rfl) ?_
      refine pu (v := .sc _) rfl rfl (fun _ => rfl) ?_
      refine RunC.fin ?_
      refine AWP.cd hR rfl (fun h14 hR => ?_) fun h14 hR => ?_
      · refine AWP.sq ?_
        refine AWP.rgC 64 rfl rfl ?_
        refine pu (v := .sc _) rfl rfl (fun _ => rfl) ?_
        refine pu (v := .sc _) rfl rfl (fun _ => rfl) ?_
        refine pu (v := .sc _) rfl rfl (fun _ => rfl) ?_
        refine RunC.fin ?_
        refine AWP.rgC 76 rfl rfl ?_
        refine pu (v := .sc _) rfl rfl (fun _ => rfl) ?_
        refine pu (v := .sc _) rfl rfl (fun _ => rfl) ?_
        refine pu (v := .sc _) rfl rfl (fun _ => rfl) ?_
        refine RunC.fin ?_
        refine AWP.sq ?_
        refine AWP.rgC 104 rfl rfl ?_
        refine pu (v := .sc _) rfl rfl (fun _ => rfl) ?_
        refine pu (v := .sc _) rfl rfl (fun _ => rfl) ?_
        refine cn rfl rfl ti98 rfl ti5 rfl rfl ?_
        obtain ⟨h15, hR⟩ := chkE hR
        refine ixT (s := tab1) rfl rfl rfl ti9 rfl h15 ?_
        refine cn rfl rfl ti5 rfl ti3 rfl rfl ?_
        obtain ⟨v16, ev16, hR⟩ := letE hR
        refine pu (v := .sc _) rfl rfl (fun _ => puI ev16) ?_
        refine pu (v := .sc _) rfl rfl (fun _ => rfl) ?_
        refine RunC.fin ?_
        refine AWP.ret ?_
        have hR := Option.some.inj hR; subst hR
        exact hQ _ _ (LS.mk [(2, .sc (.int .i64 v16))] (lblks 0 []) 0) (.sc (.int .i64 v16)) [] (.inr rfl) (Weak.turnL [] [] rfl rfl (tc (.sc _) tn) mn) (ro1 (rvT (v := .sc (.int .i64 v16)) rfl)) rfl rfl (.sc _) pn
      · refine AWP.skip ?_
        refine skT ?_
        refine AWP.sq ?_
        refine AWP.rgC 80 rfl rfl ?_
        refine pu (v := .sc _) rfl rfl (fun _ => rfl) ?_
        refine pu (v := .sc _) rfl rfl (fun _ => rfl) ?_
        refine cn rfl rfl ti98 rfl ti5 rfl rfl ?_
        obtain ⟨h17, hR⟩ := chkE hR
        refine ixT (s := tab1) rfl rfl rfl ti9 rfl h17 ?_
        refine cn rfl rfl ti5 rfl ti3 rfl rfl ?_
        obtain ⟨v18, ev18, hR⟩ := letE hR
        refine pu (v := .sc _) rfl rfl (fun _ => puI ev18) ?_
        refine pu (v := .sc _) rfl rfl (fun _ => rfl) ?_
        refine RunC.fin ?_
        refine AWP.ret ?_
        have hR := Option.some.inj hR; subst hR
        exact hQ _ _ (LS.mk [(2, .sc (.int .i64 v18))] (lblks 0 []) 0) (.sc (.int .i64 v18)) [] (.inr rfl) (Weak.turnL [] [] rfl rfl (tc (.sc _) tn) mn) (ro1 (rvT (v := .sc (.int .i64 v18)) rfl)) rfl rfl (.sc _) pn
    · refine AWP.skip ?_
      refine skT ?_
      refine AWP.sq ?_
      refine AWP.sq ?_
      refine AWP.rgC 28 rfl rfl ?_
      refine pu (v := .sc _) rfl rfl (fun _ => rfl) ?_
      refine pu (v := .sc _) rfl rfl (fun _ => rfl) ?_
      refine RunC.fin ?_
      refine AWP.cd hR rfl (fun h19 hR => ?_) fun h19 hR => ?_
      · refine AWP.sq ?_
        refine AWP.rgC 40 rfl rfl ?_
        refine pu (v := .sc _) rfl rfl (fun _ => rfl) ?_
        refine pu (v := .sc _) rfl rfl (fun _ => rfl) ?_
        refine pu (v := .sc _) rfl rfl (fun _ => rfl) ?_
        refine RunC.fin ?_
        refine AWP.rgC 52 rfl rfl ?_
        refine pu (v := .sc _) rfl rfl (fun _ => rfl) ?_
        refine pu (v := .sc _) rfl rfl (fun _ => rfl) ?_
        refine pu (v := .sc _) rfl rfl (fun _ => rfl) ?_
        refine RunC.fin ?_
        refine AWP.sq ?_
        refine AWP.rgC 80 rfl rfl ?_
        refine pu (v := .sc _) rfl rfl (fun _ => rfl) ?_
        refine pu (v := .sc _) rfl rfl (fun _ => rfl) ?_
        refine cn rfl rfl ti98 rfl ti5 rfl rfl ?_
        obtain ⟨h20, hR⟩ := chkE hR
        refine ixT (s := tab1) rfl rfl rfl ti9 rfl h20 ?_
        refine cn rfl rfl ti5 rfl ti3 rfl rfl ?_
        obtain ⟨v21, ev21, hR⟩ := letE hR
        refine pu (v := .sc _) rfl rfl (fun _ => puI ev21) ?_
        refine pu (v := .sc _) rfl rfl (fun _ => rfl) ?_
        refine RunC.fin ?_
        refine AWP.ret ?_
        have hR := Option.some.inj hR; subst hR
        exact hQ _ _ (LS.mk [(2, .sc (.int .i64 v21))] (lblks 0 []) 0) (.sc (.int .i64 v21)) [] (.inr rfl) (Weak.turnL [] [] rfl rfl (tc (.sc _) tn) mn) (ro1 (rvT (v := .sc (.int .i64 v21)) rfl)) rfl rfl (.sc _) pn
      · refine AWP.skip ?_
        refine skT ?_
        refine AWP.sq ?_
        refine AWP.rgC 56 rfl rfl ?_
        refine pu (v := .sc _) rfl rfl (fun _ => rfl) ?_
        refine pu (v := .sc _) rfl rfl (fun _ => rfl) ?_
        refine cn rfl rfl ti98 rfl ti5 rfl rfl ?_
        obtain ⟨h22, hR⟩ := chkE hR
        refine ixT (s := tab1) rfl rfl rfl ti9 rfl h22 ?_
        refine cn rfl rfl ti5 rfl ti3 rfl rfl ?_
        refine pu (v := .sc _) rfl rfl (fun _ => rfl) ?_
        refine pu (v := .sc _) rfl rfl (fun _ => rfl) ?_
        refine RunC.fin ?_
        refine AWP.ret ?_
        have hR := Option.some.inj hR; subst hR
        exact hQ _ _ (LS.mk [(2, .sc (.int .i64 (w6 (0 + (w6 (tabAt tab1 (IntKind.wrap .u8 x)))))))] (lblks 0 []) 0) (.sc (.int .i64 (w6 (0 + (w6 (tabAt tab1 (IntKind.wrap .u8 x))))))) [] (.inr rfl) (Weak.turnL [] [] rfl rfl (tc (.sc _) tn) mn) (ro1 (rvT (v := .sc (.int .i64 (w6 (0 + (w6 (tabAt tab1 (IntKind.wrap .u8 x))))))) rfl)) rfl rfl (.sc _) pn
theorem ok71 (x : Int) (r : Int) (hR : bits_LeadingZeros64 x = some r) : FnP Try.prog 71 [.sc (.int .u64 x)] (.sc (.int .i64 r)) := by
  refine fnP_of (FnX.walk Try.func71 rfl 6 0 (by simp [Try.ntmps71]) rfl fun W S F Q hQ => ?_)
  unfold bits_LeadingZeros64 at hR
  refine AWP.sq ?_
  refine AWP.rgC 4 rfl rfl ?_
  refine pu (v := .sc _) rfl rfl (fun _ => rfl) ?_
  refine RunC.fin ?_
  refine AWP.sq ?_
  refine AWP.rgC 20 rfl rfl ?_
  refine pu (v := .sc _) rfl rfl (fun _ => rfl) ?_
  obtain ⟨r1, hr1, hR⟩ := bindE hR
  refine cls [] rfl rfl cb72 (ok72 x _ hr1) (.cons (.sc _) (.nil)) (.inr rfl) rfl ?_
  refine pu (v := .sc _) rfl rfl (fun _ => rfl) ?_
  refine pu (v := .sc _) rfl rfl (fun _ => rfl) ?_
  refine RunC.fin ?_
  refine AWP.ret ?_
  have hR := Option.some.inj hR; subst hR
  exact hQ _ _ (LS.mk [(2, .sc (.int .i64 (w6 (64 - r1))))] (lblks 0 []) 0) (.sc (.int .i64 (w6 (64 - r1)))) [] (.inr rfl) (Weak.turnL [] [] rfl rfl (tc (.sc _) tn) mn) (ro1 (rvT (v := .sc (.int .i64 (w6 (64 - r1)))) rfl)) rfl rfl (.sc _) pn
theorem ok70 (hi : Int) (lo : Int) (y : Int) (r : NU64 × NU64) (hR : bits_Div64 hi lo y = some r) : FnP Try.prog 70 [.sc (.int .u64 hi), .sc (.int .u64 lo), .sc (.int .u64 y)] (.tup [.sc (.int .u64 r.1.n), .sc (.int .u64 r.2.n)]) := by
  refine fnP_of (FnX.walk Try.func70 rfl 135 0 (by simp [Try.ntmps70]) rfl fun W S F Q hQ => ?_)
  unfold bits_Div64 at hR
  refine AWP.sq ?_
  refine AWP.rgC 8 rfl rfl ?_
  refine pu (v := .sc _) rfl rfl (fun _ => rfl) ?_
  refine pu (v := .sc _) rfl rfl (fun _ => rfl) ?_
  refine RunC.fin ?_
  refine AWP.sq ?_
  refine AWP.sq ?_
  refine AWP.rgC 16 rfl rfl ?_
  refine pu (v := .sc _) rfl rfl (fun _ => rfl) ?_
  refine pu (v := .sc _) rfl rfl (fun _ => rfl) ?_
  refine RunC.fin ?_
  refine AWP.cd hR rfl (fun h1 hR => ?_) fun h1 hR => ?_
  · cases hR
  · refine AWP.skip ?_
    refine skT ?_
    refine AWP.sq ?_
    refine AWP.sq ?_
    refine AWP.rgC 28 rfl rfl ?_
    refine pu (v := .sc _) rfl rfl (fun _ => rfl) ?_
    refine pu (v := .sc _) rfl rfl (fun _ => rfl) ?_
    refine pu (v := .sc _) rfl rfl (fun _ => rfl) ?_
    refine RunC.fin ?_
    refine AWP.cd hR rfl (fun h2 hR => ?_) fun h2 hR => ?_
    · cases hR
    · refine AWP.skip ?_
      refine skT ?_
      refine AWP.sq ?_
      refine AWP.sq ?_
      refine AWP.rgC 36 rfl rfl ?_
      refine pu (v := .sc _) rfl rfl (fun _ => rfl) ?_
      refine pu (v := .sc _) rfl rfl (fun _ => rfl) ?_
      refine RunC.fin ?_
      refine AWP.cd hR rfl (fun h3 hR => ?_) fun h3 hR => ?_
      · refine AWP.sq ?_
        refine AWP.rgD 68 [0, 0, 3, 0, 0, 24, 7, 127] ⟨[], [none, none, none, none, none, none, none, none]⟩ hmix (by kernel_rfl) rfl rfl ?_
        refine pu (v := .sc _) rfl rfl (fun _ => rfl) ?_
        refine pu (v := .sc _) rfl rfl (fun _ => rfl) ?_
        obtain ⟨h4, hR⟩ := chkE hR
        refine qu rfl rfl rfl h4 rfl ?_
        refine pu (v := .sc _) rfl rfl (fun _ => rfl) ?_
        refine pu (v := .sc _) rfl rfl (fun _ => rfl) ?_
        refine rm rfl rfl rfl h4 rfl ?_
        refine pu (v := .sc _) rfl rfl (fun _ => rfl) ?_
        refine pu (v := .sc _) rfl rfl (fun _ => rfl) ?_
        refine RunC.fin ?_
        refine AWP.ret ?_
        refine rtT ?_
        have hR := Option.some.inj hR; subst hR
        exact hQ _ _ (LS.mk [(6, .sc (.int .u64 (IntKind.wrap .u64 (Int.tdiv lo y)))), (7, .sc (.int .u64 (Int.tmod lo y)))] (lblks 0 []) 0) (.tup [.sc (.int .u64 (IntKind.wrap .u64 (Int.tdiv lo y))), .sc (.int .u64 (Int.tmod lo y))]) [] (.inr rfl) (Weak.turnL [] [] rfl rfl (tc (.sc _) (tc (.sc _) tn)) mn) (ro2 (rvT (v := .sc (.int .u64 (IntKind.wrap .u64 (Int.tdiv lo y)))) rfl) (rvT (v := .sc (.int .u64 (Int.tmod lo y))) rfl)) rfl rfl (.tup (.cons (.sc _) (.cons (.sc _) .nil))) pn
      · refine AWP.skip ?_
        refine skT ?_
        refine AWP.sq ?_
        refine AWP.rgC 52 rfl rfl ?_
        refine pu (v := .sc _) rfl rfl (fun _ => rfl) ?_
        obtain ⟨r5, hr5, hR⟩ := bindE hR
        refine cls [] rfl rfl cb71 (ok71 y _ hr5) (.cons (.sc _) (.nil)) (.inr rfl) rfl ?_
        refine cn rfl rfl ti3 rfl ti117 rfl rfl ?_
        refine pu (v := .sc _) rfl rfl (fun _ => rfl) ?_
        refine RunC.fin ?_
        refine AWP.sq ?_
        refine AWP.rgC 68 rfl rfl ?_
        refine pu (v := .sc _) rfl rfl (fun _ => rfl) ?_
        refine pu (v := .sc _) rfl rfl (fun _ => rfl) ?_
        obtain ⟨h6, hR⟩ := chkE hR
        obtain ⟨v7, ev7, hR⟩ := letE hR
        refine shL rfl rfl rfl h6 ev7 ?_
        refine pu (v := .sc _) rfl rfl (fun _ => rfl) ?_
        refine RunC.fin ?_
        refine AWP.sq ?_
        refine AWP.rgC 80 rfl rfl ?_
        refine pu (v := .sc _) rfl rfl (fun _ => rfl) ?_
        refine pu (v := .sc _) rfl rfl (fun _ => rfl) ?_
        refine pu (v := .sc _) rfl rfl (fun _ => rfl) ?_
        refine RunC.fin ?_
        refine AWP.sq ?_
        refine AWP.rgC 92 rfl rfl ?_
        refine pu (v := .sc _) rfl rfl (fun _ => rfl) ?_
        obtain ⟨v8, ev8, hR⟩ := letE hR
        refine pu (v := .sc _) rfl rfl (fun _ => puI ev8) ?_
        refine pu (v := .sc _) rfl rfl (fun _ => rfl) ?_
        refine RunC.fin ?_
        refine AWP.sq ?_
        refine AWP.rgC 128 rfl rfl ?_
        refine pu (v := .sc _) rfl rfl (fun _ => rfl) ?_
        refine pu (v := .sc _) rfl rfl (fun _ => rfl) ?_
        obtain ⟨v9, ev9, hR⟩ := letE hR
        refine shL rfl rfl rfl h6 ev9 ?_
        refine pu (v := .sc _) rfl rfl (fun _ => rfl) ?_
        refine pu (v := .sc _) rfl rfl (fun _ => rfl) ?_
        refine pu (v := .sc _) rfl rfl (fun _ => rfl) ?_
        obtain ⟨h10, hR⟩ := chkE hR
        obtain ⟨v11, ev11, hR⟩ := letE hR
        refine shR rfl rfl rfl h10 ev11 ?_
        obtain ⟨v12, ev12, hR⟩ := letE hR
        refine pu (v := .sc _) rfl rfl (fun _ => puI ev12) ?_
        refine pu (v := .sc _) rfl rfl (fun _ => rfl) ?_
        refine RunC.fin ?_
        refine AWP.sq ?_
        refine AWP.rgC 144 rfl rfl ?_
        refine pu (v := .sc _) rfl rfl (fun _ => rfl) ?_
        refine pu (v := .sc _) rfl rfl (fun _ => rfl) ?_
        obtain ⟨v13, ev13, hR⟩ := letE hR
        refine shL rfl rfl rfl h6 ev13 ?_
        refine pu (v := .sc _) rfl rfl (fun _ => rfl) ?_
        refine RunC.fin ?_
        refine AWP.sq ?_
        refine AWP.rgC 156 rfl rfl ?_
        refine pu (v := .sc _) rfl rfl (fun _ => rfl) ?_
        refine pu (v := .sc _) rfl rfl (fun _ => rfl) ?_
        refine pu (v := .sc _) rfl rfl (fun _ => rfl) ?_
        refine RunC.fin ?_
        refine AWP.sq ?_
        refine AWP.rgC 168 rfl rfl ?_
        refine pu (v := .sc _) rfl rfl (fun _ => rfl) ?_
        obtain ⟨v14, ev14, hR⟩ := letE hR
        refine pu (v := .sc _) rfl rfl (fun _ => puI ev14) ?_
        refine pu (v := .sc _) rfl rfl (fun _ => rfl) ?_
        refine RunC.fin ?_
        refine AWP.sq ?_
        refine AWP.rgC 184 rfl rfl ?_
        refine pu (v := .sc _) rfl rfl (fun _ => rfl) ?_
        refine pu (v := .sc _) rfl rfl (fun _ => rfl) ?_
        obtain ⟨h15, hR⟩ := chkE hR
        refine qu rfl rfl rfl h15 rfl ?_
        refine pu (v := .sc _) rfl rfl (fun _ => rfl) ?_
        refine RunC.fin ?_
        refine AWP.sq ?_
        refine AWP.rgC 208 rfl rfl ?_
        refine pu (v := .sc _) rfl rfl (fun _ => rfl) ?_
        refine pu (v := .sc _) rfl rfl (fun _ => rfl) ?_
        refine pu (v := .sc _) rfl rfl (fun _ => rfl) ?_
        obtain ⟨v16, ev16, hR⟩ := letE hR
        refine pu (v := .sc _) rfl rfl (fun _ => puI ev16) ?_
        refine pu (v := .sc _) rfl rfl (fun _ => rfl) ?_
        refine pu (v := .sc _) rfl rfl (fun _ => rfl) ?_
        refine RunC.fin ?_
        refine AWP.sq ?_
        refine AWP.loopJ (fun s17 : Int × Int => LS.mk [(2, .sc (.int .u64 v7)), (8, .sc (.int .u64 (IntKind.wrap .u64 r5))), (9, .sc (.int .u64 (Int.fdiv v7 (2 ^ 32)))), (10, .sc (.int .u64 v8)), (11, .sc (.int .u64 v12)), (13, .sc (.int .u64 (Int.fdiv v13 (2 ^ 32)))), (14, .sc (.int .u64 v14)), (15, .sc (.int .u64 s17.1)), (16, .sc (.int .u64 s17.2))] (lblks 0 []) 0) (fun z18 : Int => LS.mk [(2, .sc (.int .u64 v7)), (8, .sc (.int .u64 (IntKind.wrap .u64 r5))), (9, .sc (.int .u64 (Int.fdiv v7 (2 ^ 32)))), (10, .sc (.int .u64 v8)), (11, .sc (.int .u64 v12)), (13, .sc (.int .u64 (Int.fdiv v13 (2 ^ 32)))), (14, .sc (.int .u64 v14)), (15, .sc (.int .u64 z18))] (lblks 0 []) 0) (bits_Div64.l1 v7 v8 v13) hR (s0 := (IntKind.wrap .u64 (Int.tdiv v12 (Int.fdiv v7 (2 ^ 32))), IntKind.wrap .u64 (v12 - v16))) (Weak.turnL [] [] rfl rfl (tc (.sc _) (tc (.sc _) (tc (.sc _) (tc (.sc _) (tc (.sc _) (tc (.sc _) (tc (.sc _) (tc (.sc _) (tc (.sc _) tn))))))))) mn) (fun s17 o17 hR => ?_) fun z18 hR => ?_
        · unfold bits_Div64.l1 at hR
          refine AWP.sq ?_
          refine AWP.joinX (fun z19 : Bool => LS.mk [(2, .sc (.int .u64 v7)), (8, .sc (.int .u64 (IntKind.wrap .u64 r5))), (9, .sc (.int .u64 (Int.fdiv v7 (2 ^ 32)))), (10, .sc (.int .u64 v8)), (11, .sc (.int .u64 v12)), (13, .sc (.int .u64 (Int.fdiv v13 (2 ^ 32)))), (14, .sc (.int .u64 v14)), (15, .sc (.int .u64 s17.1)), (16, .sc (.int .u64 s17.2)), (78, .sc (.bool z19))] (lblks 0 []) 0) hR (fun o19 hR => ?_) fun z19 hR => ?_
          · refine AWP.rgC 48 rfl rfl ?_
            refine pu (v := .sc _) rfl rfl (fun _ => rfl) ?_
            refine pu (v := .sc _) rfl rfl (fun _ => rfl) ?_
            refine pu (v := .sc _) rfl rfl (fun _ => rfl) ?_
            refine brR hR (fun h20 hR => ?_) fun h20 hR => ?_
            · refine sk (skW rfl rfl rfl h20) ?_
              refine sk (skW rfl rfl rfl h20) ?_
              refine sk (skW rfl rfl rfl h20) ?_
              refine sk (skW rfl rfl rfl h20) ?_
              refine sk (skW rfl rfl rfl h20) ?_
              refine sk (skW rfl rfl rfl h20) ?_
              refine sk (skW rfl rfl rfl h20) ?_
              refine sk (skW rfl rfl rfl h20) ?_
              refine pkT (v := .sc (.bool true)) rfl rfl h20 rfl ?_
              refine RunC.fin ?_
              have hR := Option.some.inj hR; subst hR
              exact Weak.turnL [] [] rfl rfl (tc (.sc _) (tc (.sc _) (tc (.sc _) (tc (.sc _) (tc (.sc _) (tc (.sc _) (tc (.sc _) (tc (.sc _) (tc (.sc _) (tc (.sc _) tn)))))))))) mn
            · refine pu (v := .sc _) (wtG rfl rfl rfl h20) rfl (fun _ => rfl) ?_
              refine pu (v := .sc _) (wtG rfl rfl rfl h20) rfl (fun _ => rfl) ?_
              refine pu (v := .sc _) (wtG rfl rfl rfl h20) rfl (fun _ => rfl) ?_
              refine pu (v := .sc _) (wtG rfl rfl rfl h20) rfl (fun _ => rfl) ?_
              refine pu (v := .sc _) (wtG rfl rfl rfl h20) rfl (fun _ => rfl) ?_
              refine pu (v := .sc _) (wtG rfl rfl rfl h20) rfl (fun _ => rfl) ?_
              obtain ⟨v21, ev21, hR⟩ := letE hR
              refine pu (v := .sc _) (wtG rfl rfl rfl h20) rfl (fun _ => puI ev21) ?_
              refine pu (v := .sc _) (wtG rfl rfl rfl h20) rfl (fun _ => rfl) ?_
              refine pkF (v := .sc (.bool (decide ((IntKind.wrap .u64 (s17.1 * v8)) > v21)))) rfl rfl h20 rfl ?_
              refine RunC.fin ?_
              have hR := Option.some.inj hR; subst hR
              exact Weak.turnL [] [] rfl rfl (tc (.sc _) (tc (.sc _) (tc (.sc _) (tc (.sc _) (tc (.sc _) (tc (.sc _) (tc (.sc _) (tc (.sc _) (tc (.sc _) (tc (.sc _) tn)))))))))) mn
          · refine AWP.cd hR rfl (fun h22 hR => ?_) fun h22 hR => ?_
            · refine AWP.skip ?_
              refine skT ?_
              refine AWP.block ?_
              refine AWP.sq ?_
              refine AWP.rgC 12 rfl rfl ?_
              refine pu (v := .sc _) rfl rfl (fun _ => rfl) ?_
              refine pu (v := .sc _) rfl rfl (fun _ => rfl) ?_
              refine pu (v := .sc _) rfl rfl (fun _ => rfl) ?_
              refine RunC.fin ?_
              refine AWP.sq ?_
              refine AWP.rgC 28 rfl rfl ?_
              refine pu (v := .sc _) rfl rfl (fun _ => rfl) ?_
              refine pu (v := .sc _) rfl rfl (fun _ => rfl) ?_
              refine pu (v := .sc _) rfl rfl (fun _ => rfl) ?_
              refine pu (v := .sc _) rfl rfl (fun _ => rfl) ?_
              refine RunC.fin ?_
              refine AWP.sq ?_
              refine AWP.rgC 36 rfl rfl ?_
              refine pu (v := .sc _) rfl rfl (fun _ => rfl) ?_
              obtain ⟨v23, ev23, hR⟩ := letE hR
              refine pu (v := .sc _) rfl rfl (fun _ => puB ev23) ?_
              refine RunC.fin ?_
              refine AWP.cd hR rfl (fun h24 hR => ?_) fun h24 hR => ?_
              · refine AWP.exit ?_
                refine exB rfl ?_
                refine exT ?_
                refine exH (skT ?_)
                refine ⟨(IntKind.wrap .u64 (s17.1 - 1)), (Option.some.inj hR).symm, ?_⟩
                exact Weak.turnL [] [] rfl rfl (tc (.sc _) (tc (.sc _) (tc (.sc _) (tc (.sc _) (tc (.sc _) (tc (.sc _) (tc (.sc _) (tc (.sc _) tn)))))))) mn
              · refine AWP.skip ?_
                refine skB ?_
                refine skT ?_
                refine ⟨(IntKind.wrap .u64 (s17.1 - 1), IntKind.wrap .u64 (s17.2 + (Int.fdiv v7 (2 ^ 32)))), (Option.some.inj hR).symm, ?_⟩
                exact Weak.turnL [] [] rfl rfl (tc (.sc _) (tc (.sc _) (tc (.sc _) (tc (.sc _) (tc (.sc _) (tc (.sc _) (tc (.sc _) (tc (.sc _) (tc (.sc _) tn))))))))) mn
            · refine AWP.exit ?_
              refine exT ?_
              refine exT ?_
              refine exH (skT ?_)
              refine ⟨s17.1, (Option.some.inj hR).symm, ?_⟩
              exact Weak.turnL [] [] rfl rfl (tc (.sc _) (tc (.sc _) (tc (.sc _) (tc (.sc _) (tc (.sc _) (tc (.sc _) (tc (.sc _) (tc (.sc _) tn)))))))) mn
        · refine skT ?_
          refine AWP.sq ?_
          refine AWP.rgC 36 rfl rfl ?_
          refine pu (v := .sc _) rfl rfl (fun _ => rfl) ?_
          refine pu (v := .sc _) rfl rfl (fun _ => rfl) ?_
          refine pu (v := .sc _) rfl rfl (fun _ => rfl) ?_
          obtain ⟨v25, ev25, hR⟩ := letE hR
          refine pu (v := .sc _) rfl rfl (fun _ => puI ev25) ?_
          refine pu (v := .sc _) rfl rfl (fun _ => rfl) ?_
          refine pu (v := .sc _) rfl rfl (fun _ => rfl) ?_
          refine pu (v := .sc _) rfl rfl (fun _ => rfl) ?_
          refine pu (v := .sc _) rfl rfl (fun _ => rfl) ?_
          refine pu (v := .sc _) rfl rfl (fun _ => rfl) ?_
          refine RunC.fin ?_
          refine AWP.sq ?_
          refine AWP.rgC 52 rfl rfl ?_
          refine pu (v := .sc _) rfl rfl (fun _ => rfl) ?_
          refine pu (v := .sc _) rfl rfl (fun _ => rfl) ?_
          obtain ⟨v26, ev26, hR⟩ := letE hR
          refine qu rfl rfl rfl h15 ev26 ?_
          refine pu (v := .sc _) rfl rfl (fun _ => rfl) ?_
          refine RunC.fin ?_
          refine AWP.sq ?_
          refine AWP.rgC 76 rfl rfl ?_
          refine pu (v := .sc _) rfl rfl (fun _ => rfl) ?_
          refine pu (v := .sc _) rfl rfl (fun _ => rfl) ?_
          refine pu (v := .sc _) rfl rfl (fun _ => rfl) ?_
          refine pu (v := .sc _) rfl rfl (fun _ => rfl) ?_
          obtain ⟨v27, ev27, hR⟩ := letE hR
          refine pu (v := .sc _) rfl rfl (fun _ => puI ev27) ?_
          refine pu (v := .sc _) rfl rfl (fun _ => rfl) ?_
          refine RunC.fin ?_
          refine AWP.sq ?_
          refine AWP.loopJ (fun s28 : Int × Int => LS.mk [(2, .sc (.int .u64 v7)), (8, .sc (.int .u64 (IntKind.wrap .u64 r5))), (9, .sc (.int .u64 (Int.fdiv v7 (2 ^ 32)))), (10, .sc (.int .u64 v8)), (14, .sc (.int .u64 v14)), (15, .sc (.int .u64 z18)), (16, .sc (.int .u64 s28.1)), (17, .sc (.int .u64 (IntKind.wrap .u64 (v25 - (IntKind.wrap .u64 (z18 * v7)))))), (18, .sc (.int .u64 s28.2))] (lblks 0 []) 0) (fun z29 : Int => LS.mk [(2, .sc (.int .u64 v7)), (8, .sc (.int .u64 (IntKind.wrap .u64 r5))), (14, .sc (.int .u64 v14)), (15, .sc (.int .u64 z18)), (17, .sc (.int .u64 (IntKind.wrap .u64 (v25 - (IntKind.wrap .u64 (z18 * v7)))))), (18, .sc (.int .u64 z29))] (lblks 0 []) 0) (bits_Div64.l2 v7 v8 v14) hR (s0 := (v27, v26)) (Weak.turnL [] [] rfl rfl (tc (.sc _) (tc (.sc _) (tc (.sc _) (tc (.sc _) (tc (.sc _) (tc (.sc _) (tc (.sc _) (tc (.sc _) (tc (.sc _) tn))))))))) mn) (fun s28 o28 hR => ?_) fun z29 hR => ?_
          · unfold bits_Div64.l2 at hR
            refine AWP.sq ?_
            refine AWP.joinX (fun z30 : Bool => LS.mk [(2, .sc (.int .u64 v7)), (8, .sc (.int .u64 (IntKind.wrap .u64 r5))), (9, .sc (.int .u64 (Int.fdiv v7 (2 ^ 32)))), (10, .sc (.int .u64 v8)), (14, .sc (.int .u64 v14)), (15, .sc (.int .u64 z18)), (16, .sc (.int .u64 s28.1)), (17, .sc (.int .u64 (IntKind.wrap .u64 (v25 - (IntKind.wrap .u64 (z18 * v7)))))), (18, .sc (.int .u64 s28.2)), (113, .sc (.bool z30))] (lblks 0 []) 0) hR (fun o30 hR => ?_) fun z30 hR => ?_
            · refine AWP.rgC 48 rfl rfl ?_
              refine pu (v := .sc _) rfl rfl (fun _ => rfl) ?_
              refine pu (v := .sc _) rfl rfl (fun _ => rfl) ?_
              refine pu (v := .sc _) rfl rfl (fun _ => rfl) ?_
              refine brR hR (fun h31 hR => ?_) fun h31 hR => ?_
              · refine sk (skW rfl rfl rfl h31) ?_
                refine sk (skW rfl rfl rfl h31) ?_
                refine sk (skW rfl rfl rfl h31) ?_
                refine sk (skW rfl rfl rfl h31) ?_
                refine sk (skW rfl rfl rfl h31) ?_
                refine sk (skW rfl rfl rfl h31) ?_
                refine sk (skW rfl rfl rfl h31) ?_
                refine sk (skW rfl rfl rfl h31) ?_
                refine pkT (v := .sc (.bool true)) rfl rfl h31 rfl ?_
                refine RunC.fin ?_
                have hR := Option.some.inj hR; subst hR
                exact Weak.turnL [] [] rfl rfl (tc (.sc _) (tc (.sc _) (tc (.sc _) (tc (.sc _) (tc (.sc _) (tc (.sc _) (tc (.sc _) (tc (.sc _) (tc (.sc _) (tc (.sc _) tn)))))))))) mn
              · refine pu (v := .sc _) (wtG rfl rfl rfl h31) rfl (fun _ => rfl) ?_
                refine pu (v := .sc _) (wtG rfl rfl rfl h31) rfl (fun _ => rfl) ?_
                refine pu (v := .sc _) (wtG rfl rfl rfl h31) rfl (fun _ => rfl) ?_
                refine pu (v := .sc _) (wtG rfl rfl rfl h31) rfl (fun _ => rfl) ?_
                refine pu (v := .sc _) (wtG rfl rfl rfl h31) rfl (fun _ => rfl) ?_
                refine pu (v := .sc _) (wtG rfl rfl rfl h31) rfl (fun _ => rfl) ?_
                obtain ⟨v32, ev32, hR⟩ := letE hR
                refine pu (v := .sc _) (wtG rfl rfl rfl h31) rfl (fun _ => puI ev32) ?_
                refine pu (v := .sc _) (wtG rfl rfl rfl h31) rfl (fun _ => rfl) ?_
                refine pkF (v := .sc (.bool (decide ((IntKind.wrap .u64 (s28.2 * v8)) > v32)))) rfl rfl h31 rfl ?_
                refine RunC.fin ?_
                have hR := Option.some.inj hR; subst hR
                exact Weak.turnL [] [] rfl rfl (tc (.sc _) (tc (.sc _) (tc (.sc _) (tc (.sc _) (tc (.sc _) (tc (.sc _) (tc (.sc _) (tc (.sc _) (tc (.sc _) (tc (.sc _) tn)))))))))) mn
            · refine AWP.cd hR rfl (fun h33 hR => ?_) fun h33 hR => ?_
              · refine AWP.skip ?_
                refine skT ?_
                refine AWP.block ?_
                refine AWP.sq ?_
                refine AWP.rgC 12 rfl rfl ?_
                refine pu (v := .sc _) rfl rfl (fun _ => rfl) ?_
                refine pu (v := .sc _) rfl rfl (fun _ => rfl) ?_
                refine pu (v := .sc _) rfl rfl (fun _ => rfl) ?_
                refine RunC.fin ?_
                refine AWP.sq ?_
                refine AWP.rgC 28 rfl rfl ?_
                refine pu (v := .sc _) rfl rfl (fun _ => rfl) ?_
                refine pu (v := .sc _) rfl rfl (fun _ => rfl) ?_
                refine pu (v := .sc _) rfl rfl (fun _ => rfl) ?_
                refine pu (v := .sc _) rfl rfl (fun _ => rfl) ?_
                refine RunC.fin ?_
                refine AWP.sq ?_
                refine AWP.rgC 36 rfl rfl ?_
                refine pu (v := .sc _) rfl rfl (fun _ => rfl) ?_
                obtain ⟨v34, ev34, hR⟩ := letE hR
                refine pu (v := .sc _) rfl rfl (fun _ => puB ev34) ?_
                refine RunC.fin ?_
                refine AWP.cd hR rfl (fun h35 hR => ?_) fun h35 hR => ?_
                · refine AWP.exit ?_
                  refine exB rfl ?_
                  refine exT ?_
                  refine exH (skT ?_)
                  refine ⟨(IntKind.wrap .u64 (s28.2 - 1)), (Option.some.inj hR).symm, ?_⟩
                  exact Weak.turnL [] [] rfl rfl (tc (.sc _) (tc (.sc _) (tc (.sc _) (tc (.sc _) (tc (.sc _) (tc (.sc _) tn)))))) mn
                · refine AWP.skip ?_
                  refine skB ?_
                  refine skT ?_
                  refine ⟨(IntKind.wrap .u64 (s28.1 + (Int.fdiv v7 (2 ^ 32))), IntKind.wrap .u64 (s28.2 - 1)), (Option.some.inj hR).symm, ?_⟩
                  exact Weak.turnL [] [] rfl rfl (tc (.sc _) (tc (.sc _) (tc (.sc _) (tc (.sc _) (tc (.sc _) (tc (.sc _) (tc (.sc _) (tc (.sc _) (tc (.sc _) tn))))))))) mn
              · refine AWP.exit ?_
                refine exT ?_
                refine exT ?_
                refine exH (skT ?_)
                refine ⟨s28.2, (Option.some.inj hR).symm, ?_⟩
                exact Weak.turnL [] [] rfl rfl (tc (.sc _) (tc (.sc _) (tc (.sc _) (tc (.sc _) (tc (.sc _) (tc (.sc _) tn)))))) mn
          · refine skT ?_
            refine AWP.sq ?_
            refine AWP.rgC 64 rfl rfl ?_
            refine pu (v := .sc _) rfl rfl (fun _ => rfl) ?_
            refine pu (v := .sc _) rfl rfl (fun _ => rfl) ?_
            refine pu (v := .sc _) rfl rfl (fun _ => rfl) ?_
            obtain ⟨v36, ev36, hR⟩ := letE hR
            refine pu (v := .sc _) rfl rfl (fun _ => puI ev36) ?_
            refine pu (v := .sc _) rfl rfl (fun _ => rfl) ?_
            obtain ⟨v37, ev37, hR⟩ := letE hR
            refine pu (v := .sc _) rfl rfl (fun _ => puI ev37) ?_
            refine pu (v := .sc _) rfl rfl (fun _ => rfl) ?_
            refine pu (v := .sc _) rfl rfl (fun _ => rfl) ?_
            refine pu (v := .sc _) rfl rfl (fun _ => rfl) ?_
            refine pu (v := .sc _) rfl rfl (fun _ => rfl) ?_
            refine pu (v := .sc _) rfl rfl (fun _ => rfl) ?_
            obtain ⟨v38, ev38, hR⟩ := letE hR
            refine pu (v := .sc _) rfl rfl (fun _ => puI ev38) ?_
            refine pu (v := .sc _) rfl rfl (fun _ => rfl) ?_
            obtain ⟨v39, ev39, hR⟩ := letE hR
            refine shR rfl rfl rfl h6 ev39 ?_
            refine pu (v := .sc _) rfl rfl (fun _ => rfl) ?_
            refine pu (v := .sc _) rfl rfl (fun _ => rfl) ?_
            refine RunC.fin ?_
            refine AWP.ret ?_
            have hR := Option.some.inj hR; subst hR
            exact hQ _ _ (LS.mk [(6, .sc (.int .u64 v36)), (7, .sc (.int .u64 v39))] (lblks 0 []) 0) (.tup [.sc (.int .u64 v36), .sc (.int .u64 v39)]) [] (.inr rfl) (Weak.turnL [] [] rfl rfl (tc (.sc _) (tc (.sc _) tn)) mn) (ro2 (rvT (v := .sc (.int .u64 v36)) rfl) (rvT (v := .sc (.int .u64 v39)) rfl)) rfl rfl (.tup (.cons (.sc _) (.cons (.sc _) .nil))) pn
theorem ok59 (w : num_Wide) (r : num_Wide) (hR : Wide_Neg w = some r) : FnP Try.prog 59 [aggV false w] (aggV (α := num_Wide) true r) := by
  refine fnP_of (FnX.walk Try.func59 rfl 27 0 (by simp [Try.ntmps59]) rfl fun W S F Q hQ => ?_)
  unfold Wide_Neg at hR
  refine AWP.sq ?_
  refine AWP.rgC 8 rfl rfl ?_
  refine bx (cs := _) 0 rfl rfl rfl ?_
  refine al (cs := [.sc (.int .i64 0), .sc (.int .u64 0)]) 4 rfl rfl ti100 rfl rfl ?_
  refine RunC.fin ?_
  refine AWP.sq ?_
  refine AWP.rgC 44 rfl rfl ?_
  refine fa rfl rfl ti100 rfl rfl ti98 rfl ?_
  refine ldB (v := .sc _) rfl rfl rfl rfl ti98 rfl rfl ?_
  obtain ⟨v1, ev1, hR⟩ := letE hR
  refine pu (v := .sc _) rfl rfl (fun _ => puI ev1) ?_
  obtain ⟨r2, hr2, hR⟩ := bindE hR
  refine xa rfl xf67 rfl rfl rfl hr2 ?_
  refine pu (v := .tup _) rfl rfl (fun _ => rfl) ?_
  refine pu (v := .sc _) rfl rfl (fun _ => rfl) ?_
  refine pu (v := .sc _) rfl rfl (fun _ => rfl) ?_
  refine pu (v := .sc _) rfl rfl (fun _ => rfl) ?_
  refine pu (v := .sc _) rfl rfl (fun _ => rfl) ?_
  refine RunC.fin ?_
  refine AWP.sq ?_
  refine AWP.rgC 88 rfl rfl ?_
  refine fa rfl rfl ti100 rfl rfl ti2 rfl ?_
  refine ldB (v := .sc _) rfl rfl rfl rfl ti2 rfl rfl ?_
  refine cn rfl rfl ti2 rfl ti98 rfl rfl ?_
  obtain ⟨v3, ev3, hR⟩ := letE hR
  refine pu (v := .sc _) rfl rfl (fun _ => puI ev3) ?_
  refine pu (v := .sc _) rfl rfl (fun _ => rfl) ?_
  obtain ⟨r4, hr4, hR⟩ := bindE hR
  refine xa rfl xf67 rfl rfl rfl hr4 ?_
  refine pu (v := .tup _) rfl rfl (fun _ => rfl) ?_
  refine pu (v := .sc _) rfl rfl (fun _ => rfl) ?_
  refine pu (v := .sc _) rfl rfl (fun _ => rfl) ?_
  refine pu (v := .sc _) rfl rfl (fun _ => rfl) ?_
  refine pu (v := .sc _) rfl rfl (fun _ => rfl) ?_
  refine RunC.fin ?_
  refine AWP.sq ?_
  refine AWP.rgC 108 rfl rfl ?_
  refine pu (v := .sc _) rfl rfl (fun _ => rfl) ?_
  refine cn rfl rfl ti98 rfl ti2 rfl rfl ?_
  refine pu (v := .sc _) rfl rfl (fun _ => rfl) ?_
  refine bu (cs := [.sc (.int .i64 (w6 r4.1)), .sc (.int .u64 r2.1)]) rfl bt100 rfl ?_
  refine stB (cs' := [.sc (.int .i64 (w6 r4.1)), .sc (.int .u64 r2.1)]) rfl rfl rfl rfl ti100 rfl rfl rfl rfl rfl ?_
  refine RunC.fin ?_
  refine AWP.ret ?_
  have hR := Option.some.inj hR; subst hR
  exact hQ _ _ (LS.mk [(2, .ptr 0 0 0)] (lblks 0 [boxB (α := num_Wide) true (num_Wide.mk (w6 r4.1) (NU64.mk r2.1))]) 1) (aggV (α := num_Wide) true (num_Wide.mk (w6 r4.1) (NU64.mk r2.1))) [] (.inr rfl) (Weak.turnL [(4, 0)] [] rfl rfl (tc (trP' rfl rfl rfl rfl) tn) (mc rfl (.box rfl (.cons (.sc _) (.cons (.sc _) (.nil))) rfl) mn)) (ro1 (rvC (v := aggV (α := num_Wide) true (num_Wide.mk (w6 r4.1) (NU64.mk r2.1))) rfl rfl ti100 rfl)) rfl rfl ldA pn
theorem ok66 (w : num_Wide) (d : Int) (r : Int × Int) (hR : Wide_Div w d = some r) : FnP Try.prog 66 [aggV false w, .sc (.int .i64 d)] (.tup [.sc (.int .i64 r.1), .sc (.int .i64 r.2)]) := by
  refine fnP_of (FnX.walk Try.func66 rfl 61 0 (by simp [Try.ntmps66]) rfl fun W S F Q hQ => ?_)
  unfold Wide_Div at hR
  refine AWP.sq ?_
  refine AWP.rgC 12 rfl rfl ?_
  refine bx (cs := _) 0 rfl rfl rfl ?_
  refine pu (v := .sc _) rfl rfl (fun _ => rfl) ?_
  refine pu (v := .sc _) rfl rfl (fun _ => rfl) ?_
  refine RunC.fin ?_
  refine AWP.sq ?_
  refine AWP.sq ?_
  refine AWP.rgC 20 rfl rfl ?_
  refine pu (v := .sc _) rfl rfl (fun _ => rfl) ?_
  refine pu (v := .sc _) rfl rfl (fun _ => rfl) ?_
  refine RunC.fin ?_
  refine AWP.cd hR rfl (fun h1 hR => ?_) fun h1 hR => ?_
  · refine AWP.sq ?_
    refine AWP.rgC 28 rfl rfl ?_
    refine pu (v := .sc _) rfl rfl (fun _ => rfl) ?_
    refine pu (v := .sc _) rfl rfl (fun _ => rfl) ?_
    refine RunC.fin ?_
    refine AWP.ret ?_
    refine rtT ?_
    have hR := Option.some.inj hR; subst hR
    exact hQ _ _ (LS.mk [(4, .sc (.int .i64 0)), (5, .sc (.int .i64 1))] (lblks 0 []) 0) (.tup [.sc (.int .i64 0), .sc (.int .i64 1)]) [] (.inr rfl) (Weak.turnL [] [] rfl rfl (tc (.sc _) (tc (.sc _) tn)) mn) (ro2 (rvT (v := .sc (.int .i64 0)) rfl) (rvT (v := .sc (.int .i64 1)) rfl)) rfl rfl (.tup (.cons (.sc _) (.cons (.sc _) .nil))) pn
  · refine AWP.skip ?_
    refine skT ?_
    refine AWP.sq ?_
    refine AWP.rgC 32 rfl rfl ?_
    refine ldB (v := .agg _) rfl rfl rfl rfl ti100 rfl rfl ?_
    refine al (cs := [.sc (.int .i64 0), .sc (.int .u64 0)]) 24 rfl rfl ti100 rfl rfl ?_
    refine stB (cs' := [.sc (.int .i64 w.Hi), .sc (.int .u64 w.Lo.n)]) rfl rfl rfl rfl ti100 rfl rfl rfl rfl rfl ?_
    refine RunC.fin ?_
    refine AWP.sq ?_
    refine AWP.sq ?_
    refine AWP.rgC 44 rfl rfl ?_
    refine fa rfl rfl ti100 rfl rfl ti2 rfl ?_
    refine ldB (v := .sc _) rfl rfl rfl rfl ti2 rfl rfl ?_
    refine pu (v := .sc _) rfl rfl (fun _ => rfl) ?_
    refine RunC.fin ?_
    refine AWP.cd hR rfl (fun h2 hR => ?_) fun h2 hR => ?_
    · refine AWP.rgC 56 rfl rfl ?_
      refine ldB (v := .agg _) rfl rfl rfl rfl ti100 rfl rfl ?_
      obtain ⟨r3, hr3, hR⟩ := bindE hR
      refine cls [] rfl rfl cb59 (ok59 w _ hr3) (.cons (.agg (.cons (.sc _) (.cons (.sc _) (.nil))) rfl) (.nil)) (.inr rfl) rfl ?_
      refine stB (cs' := [.sc (.int .i64 r3.Hi), .sc (.int .u64 r3.Lo.n)]) rfl rfl rfl rfl ti100 rfl rfl rfl rfl rfl ?_
      refine RunC.fin ?_
      refine AWP.sq ?_
      refine AWP.sq ?_
      refine AWP.rgC 80 rfl rfl ?_
      refine fa rfl rfl ti100 rfl rfl ti2 rfl ?_
      refine ldB (v := .sc _) rfl rfl rfl rfl ti2 rfl rfl ?_
      refine cn rfl rfl ti2 rfl ti98 rfl rfl ?_
      refine pu (v := .sc _) rfl rfl (fun _ => rfl) ?_
      refine cn rfl rfl ti2 rfl ti98 rfl rfl ?_
      refine pu (v := .sc _) rfl rfl (fun _ => rfl) ?_
      refine RunC.fin ?_
      refine AWP.cd hR rfl (fun h4 hR => ?_) fun h4 hR => ?_
      · refine AWP.sq ?_
        refine AWP.rgC 88 rfl rfl ?_
        refine pu (v := .sc _) rfl rfl (fun _ => rfl) ?_
        refine pu (v := .sc _) rfl rfl (fun _ => rfl) ?_
        refine RunC.fin ?_
        refine AWP.ret ?_
        refine rtT ?_
        have hR := Option.some.inj hR; subst hR
        exact hQ _ _ (LS.mk [(4, .sc (.int .i64 0)), (5, .sc (.int .i64 2))] (lblks 0 []) 0) (.tup [.sc (.int .i64 0), .sc (.int .i64 2)]) [] (.inr rfl) (Weak.turnL [] [] rfl rfl (tc (.sc _) (tc (.sc _) tn)) mn) (ro2 (rvT (v := .sc (.int .i64 0)) rfl) (rvT (v := .sc (.int .i64 2)) rfl)) rfl rfl (.tup (.cons (.sc _) (.cons (.sc _) .nil))) pn
      · refine AWP.skip ?_
        refine skT ?_
        refine AWP.sq ?_
        refine AWP.rgC 132 rfl rfl ?_
        refine fa rfl rfl ti100 rfl rfl ti2 rfl ?_
        refine ldB (v := .sc _) rfl rfl rfl rfl ti2 rfl rfl ?_
        refine cn rfl rfl ti2 rfl ti98 rfl rfl ?_
        refine fa rfl rfl ti100 rfl rfl ti98 rfl ?_
        refine ldB (v := .sc _) rfl rfl rfl rfl ti98 rfl rfl ?_
        refine pu (v := .sc _) rfl rfl (fun _ => rfl) ?_
        refine cn rfl rfl ti2 rfl ti98 rfl rfl ?_
        obtain ⟨r5, hr5, hR⟩ := bindE hR
        refine cls [] rfl rfl cb70 (ok70 (IntKind.wrap .u64 r3.Hi) r3.Lo.n (IntKind.wrap .u64 d) _ hr5) (.cons (.sc _) (.cons (.sc _) (.cons (.sc _) (.nil)))) (.inr rfl) rfl ?_
        refine pu (v := .tup _) rfl rfl (fun _ => rfl) ?_
        refine pu (v := .sc _) rfl rfl (fun _ => rfl) ?_
        refine pu (v := .sc _) rfl rfl (fun _ => rfl) ?_
        refine pu (v := .sc _) rfl rfl (fun _ => rfl) ?_
        refine pu (v := .sc _) rfl rfl (fun _ => rfl) ?_
        refine RunC.fin ?_
        refine AWP.sq ?_
        refine AWP.rgC 136 rfl rfl ?_
        refine pu (v := .sc _) rfl rfl (fun _ => rfl) ?_
        refine RunC.fin ?_
        refine AWP.sq ?_
        refine AWP.sq ?_
        refine AWP.rgC 148 rfl rfl ?_
        refine fa rfl rfl ti100 rfl rfl ti2 rfl ?_
        refine ldB (v := .sc _) rfl rfl rfl rfl ti2 rfl rfl ?_
        refine pu (v := .sc _) rfl rfl (fun _ => rfl) ?_
        refine RunC.fin ?_
        refine AWP.cd hR rfl (fun h6 hR => ?_) fun h6 hR => ?_
        · refine AWP.sq ?_
          refine AWP.rgC 152 rfl rfl ?_
          refine pu (v := .sc _) rfl rfl (fun _ => rfl) ?_
          refine RunC.fin ?_
          refine AWP.sq ?_
          refine AWP.rgC 160 rfl rfl ?_
          refine pu (v := .sc _) rfl rfl (fun _ => rfl) ?_
          refine pu (v := .sc _) rfl rfl (fun _ => rfl) ?_
          refine RunC.fin ?_
          refine AWP.cd hR rfl (fun h7 hR => ?_) fun h7 hR => ?_
          · refine AWP.rgC 172 rfl rfl ?_
            refine pu (v := .sc _) rfl rfl (fun _ => rfl) ?_
            refine pu (v := .sc _) rfl rfl (fun _ => rfl) ?_
            refine pu (v := .sc _) rfl rfl (fun _ => rfl) ?_
            refine RunC.fin ?_
            refine AWP.sq ?_
            refine AWP.sq ?_
            refine AWP.rgC 184 rfl rfl ?_
            refine pu (v := .sc _) rfl rfl (fun _ => rfl) ?_
            refine pu (v := .sc _) rfl rfl (fun _ => rfl) ?_
            obtain ⟨v8, ev8, hR⟩ := letE hR
            refine pu (v := .sc _) rfl rfl (fun _ => puB ev8) ?_
            refine RunC.fin ?_
            refine AWP.cd hR rfl (fun h9 hR => ?_) fun h9 hR => ?_
            · refine AWP.sq ?_
              refine AWP.rgC 192 rfl rfl ?_
              refine pu (v := .sc _) rfl rfl (fun _ => rfl) ?_
              refine pu (v := .sc _) rfl rfl (fun _ => rfl) ?_
              refine RunC.fin ?_
              refine AWP.ret ?_
              refine rtT ?_
              have hR := Option.some.inj hR; subst hR
              exact hQ _ _ (LS.mk [(4, .sc (.int .i64 0)), (5, .sc (.int .i64 2))] (lblks 0 []) 0) (.tup [.sc (.int .i64 0), .sc (.int .i64 2)]) [] (.inr rfl) (Weak.turnL [] [] rfl rfl (tc (.sc _) (tc (.sc _) tn)) mn) (ro2 (rvT (v := .sc (.int .i64 0)) rfl) (rvT (v := .sc (.int .i64 2)) rfl)) rfl rfl (.tup (.cons (.sc _) (.cons (.sc _) .nil))) pn
            · refine AWP.skip ?_
              refine skT ?_
              refine AWP.sq ?_
              refine AWP.block ?_
              refine AWP.sq ?_
              refine AWP.rgC 200 rfl rfl ?_
              refine fa rfl rfl ti100 rfl rfl ti2 rfl ?_
              refine ldB (v := .sc _) rfl rfl rfl rfl ti2 rfl rfl ?_
              refine pu (v := .sc _) rfl rfl (fun _ => rfl) ?_
              refine pu (v := .sc _) rfl rfl (fun _ => rfl) ?_
              refine RunC.fin ?_
              refine AWP.cd hR rfl (fun h10 hR => ?_) fun h10 hR => ?_
              · refine AWP.sq ?_
                refine AWP.rgC 216 rfl rfl ?_
                refine pu (v := .sc _) rfl rfl (fun _ => rfl) ?_
                refine cn rfl rfl ti98 rfl ti2 rfl rfl ?_
                refine pu (v := .sc _) rfl rfl (fun _ => rfl) ?_
                refine pu (v := .sc _) rfl rfl (fun _ => rfl) ?_
                refine RunC.fin ?_
                refine AWP.ret ?_
                refine rtB ?_
                refine rtT ?_
                have hR := Option.some.inj hR; subst hR
                exact hQ _ _ (LS.mk [(4, .sc (.int .i64 (w6 r5.1.n))), (5, .sc (.int .i64 0))] (lblks 0 []) 0) (.tup [.sc (.int .i64 (w6 r5.1.n)), .sc (.int .i64 0)]) [] (.inr rfl) (Weak.turnL [] [] rfl rfl (tc (.sc _) (tc (.sc _) tn)) mn) (ro2 (rvT (v := .sc (.int .i64 (w6 r5.1.n))) rfl) (rvT (v := .sc (.int .i64 0)) rfl)) rfl rfl (.tup (.cons (.sc _) (.cons (.sc _) .nil))) pn
              · refine AWP.sq ?_
                refine AWP.rgC 212 rfl rfl ?_
                refine pu (v := .sc _) rfl rfl (fun _ => rfl) ?_
                refine pu (v := .sc _) rfl rfl (fun _ => rfl) ?_
                refine pu (v := .sc _) rfl rfl (fun _ => rfl) ?_
                refine RunC.fin ?_
                refine AWP.cd hR rfl (fun h11 hR => ?_) fun h11 hR => ?_
                · refine AWP.sq ?_
                  refine AWP.rgC 236 rfl rfl ?_
                  refine pu (v := .sc _) rfl rfl (fun _ => rfl) ?_
                  refine pu (v := .sc _) rfl rfl (fun _ => rfl) ?_
                  refine cn rfl rfl ti98 rfl ti2 rfl rfl ?_
                  refine pu (v := .sc _) rfl rfl (fun _ => rfl) ?_
                  refine pu (v := .sc _) rfl rfl (fun _ => rfl) ?_
                  refine pu (v := .sc _) rfl rfl (fun _ => rfl) ?_
                  refine RunC.fin ?_
                  refine AWP.ret ?_
                  refine rtB ?_
                  refine rtT ?_
                  have hR := Option.some.inj hR; subst hR
                  exact hQ _ _ (LS.mk [(4, .sc (.int .i64 (w6 ((w6 (IntKind.wrap .u64 (0 - r5.1.n))) - 1)))), (5, .sc (.int .i64 0))] (lblks 0 []) 0) (.tup [.sc (.int .i64 (w6 ((w6 (IntKind.wrap .u64 (0 - r5.1.n))) - 1))), .sc (.int .i64 0)]) [] (.inr rfl) (Weak.turnL [] [] rfl rfl (tc (.sc _) (tc (.sc _) tn)) mn) (ro2 (rvT (v := .sc (.int .i64 (w6 ((w6 (IntKind.wrap .u64 (0 - r5.1.n))) - 1)))) rfl) (rvT (v := .sc (.int .i64 0)) rfl)) rfl rfl (.tup (.cons (.sc _) (.cons (.sc _) .nil))) pn
                · refine AWP.skip ?_
                  refine skB ?_
                  refine skT ?_
                  refine AWP.sq ?_
                  refine AWP.rgC 232 rfl rfl ?_
                  refine pu (v := .sc _) rfl rfl (fun _ => rfl) ?_
                  refine pu (v := .sc _) rfl rfl (fun _ => rfl) ?_
                  refine cn rfl rfl ti98 rfl ti2 rfl rfl ?_
                  refine pu (v := .sc _) rfl rfl (fun _ => rfl) ?_
                  refine pu (v := .sc _) rfl rfl (fun _ => rfl) ?_
                  refine RunC.fin ?_
                  refine AWP.ret ?_
                  have hR := Option.some.inj hR; subst hR
                  exact hQ _ _ (LS.mk [(4, .sc (.int .i64 (w6 (IntKind.wrap .u64 (0 - r5.1.n))))), (5, .sc (.int .i64 0))] (lblks 0 []) 0) (.tup [.sc (.int .i64 (w6 (IntKind.wrap .u64 (0 - r5.1.n)))), .sc (.int .i64 0)]) [] (.inr rfl) (Weak.turnL [] [] rfl rfl (tc (.sc _) (tc (.sc _) tn)) mn) (ro2 (rvT (v := .sc (.int .i64 (w6 (IntKind.wrap .u64 (0 - r5.1.n))))) rfl) (rvT (v := .sc (.int .i64 0)) rfl)) rfl rfl (.tup (.cons (.sc _) (.cons (.sc _) .nil))) pn
          · refine AWP.skip ?_
            refine skT ?_
            refine AWP.sq ?_
            refine AWP.sq ?_
            refine AWP.rgC 172 rfl rfl ?_
            refine pu (v := .sc _) rfl rfl (fun _ => rfl) ?_
            refine pu (v := .sc _) rfl rfl (fun _ => rfl) ?_
            refine pu (v := .sc _) rfl rfl (fun _ => rfl) ?_
            refine RunC.fin ?_
            refine AWP.cd hR rfl (fun h12 hR => ?_) fun h12 hR => ?_
            · refine AWP.sq ?_
              refine AWP.rgC 180 rfl rfl ?_
              refine pu (v := .sc _) rfl rfl (fun _ => rfl) ?_
              refine pu (v := .sc _) rfl rfl (fun _ => rfl) ?_
              refine RunC.fin ?_
              refine AWP.ret ?_
              refine rtT ?_
              have hR := Option.some.inj hR; subst hR
              exact hQ _ _ (LS.mk [(4, .sc (.int .i64 0)), (5, .sc (.int .i64 2))] (lblks 0 []) 0) (.tup [.sc (.int .i64 0), .sc (.int .i64 2)]) [] (.inr rfl) (Weak.turnL [] [] rfl rfl (tc (.sc _) (tc (.sc _) tn)) mn) (ro2 (rvT (v := .sc (.int .i64 0)) rfl) (rvT (v := .sc (.int .i64 2)) rfl)) rfl rfl (.tup (.cons (.sc _) (.cons (.sc _) .nil))) pn
            · refine AWP.skip ?_
              refine skT ?_
              refine AWP.sq ?_
              refine AWP.block ?_
              refine AWP.sq ?_
              refine AWP.rgC 188 rfl rfl ?_
              refine fa rfl rfl ti100 rfl rfl ti2 rfl ?_
              refine ldB (v := .sc _) rfl rfl rfl rfl ti2 rfl rfl ?_
              refine pu (v := .sc _) rfl rfl (fun _ => rfl) ?_
              refine pu (v := .sc _) rfl rfl (fun _ => rfl) ?_
              refine RunC.fin ?_
              refine AWP.cd hR rfl (fun h13 hR => ?_) fun h13 hR => ?_
              · refine AWP.sq ?_
                refine AWP.rgC 204 rfl rfl ?_
                refine pu (v := .sc _) rfl rfl (fun _ => rfl) ?_
                refine cn rfl rfl ti98 rfl ti2 rfl rfl ?_
                refine pu (v := .sc _) rfl rfl (fun _ => rfl) ?_
                refine pu (v := .sc _) rfl rfl (fun _ => rfl) ?_
                refine RunC.fin ?_
                refine AWP.ret ?_
                refine rtB ?_
                refine rtT ?_
                have hR := Option.some.inj hR; subst hR
                exact hQ _ _ (LS.mk [(4, .sc (.int .i64 (w6 r5.1.n))), (5, .sc (.int .i64 0))] (lblks 0 []) 0) (.tup [.sc (.int .i64 (w6 r5.1.n)), .sc (.int .i64 0)]) [] (.inr rfl) (Weak.turnL [] [] rfl rfl (tc (.sc _) (tc (.sc _) tn)) mn) (ro2 (rvT (v := .sc (.int .i64 (w6 r5.1.n))) rfl) (rvT (v := .sc (.int .i64 0)) rfl)) rfl rfl (.tup (.cons (.sc _) (.cons (.sc _) .nil))) pn
              · refine AWP.sq ?_
                refine AWP.rgC 200 rfl rfl ?_
                refine pu (v := .sc _) rfl rfl (fun _ => rfl) ?_
                refine pu (v := .sc _) rfl rfl (fun _ => rfl) ?_
                refine pu (v := .sc _) rfl rfl (fun _ => rfl) ?_
                refine RunC.fin ?_
                refine AWP.cd hR rfl (fun h14 hR => ?_) fun h14 hR => ?_
                · refine AWP.sq ?_
                  refine AWP.rgC 224 rfl rfl ?_
                  refine pu (v := .sc _) rfl rfl (fun _ => rfl) ?_
                  refine pu (v := .sc _) rfl rfl (fun _ => rfl) ?_
                  refine cn rfl rfl ti98 rfl ti2 rfl rfl ?_
                  refine pu (v := .sc _) rfl rfl (fun _ => rfl) ?_
                  refine pu (v := .sc _) rfl rfl (fun _ => rfl) ?_
                  refine pu (v := .sc _) rfl rfl (fun _ => rfl) ?_
                  refine RunC.fin ?_
                  refine AWP.ret ?_
                  refine rtB ?_
                  refine rtT ?_
                  have hR := Option.some.inj hR; subst hR
                  exact hQ _ _ (LS.mk [(4, .sc (.int .i64 (w6 ((w6 (IntKind.wrap .u64 (0 - r5.1.n))) - 1)))), (5, .sc (.int .i64 0))] (lblks 0 []) 0) (.tup [.sc (.int .i64 (w6 ((w6 (IntKind.wrap .u64 (0 - r5.1.n))) - 1))), .sc (.int .i64 0)]) [] (.inr rfl) (Weak.turnL [] [] rfl rfl (tc (.sc _) (tc (.sc _) tn)) mn) (ro2 (rvT (v := .sc (.int .i64 (w6 ((w6 (IntKind.wrap .u64 (0 - r5.1.n))) - 1)))) rfl) (rvT (v := .sc (.int .i64 0)) rfl)) rfl rfl (.tup (.cons (.sc _) (.cons (.sc _) .nil))) pn
                · refine AWP.skip ?_
                  refine skB ?_
                  refine skT ?_
                  refine AWP.sq ?_
                  refine AWP.rgC 220 rfl rfl ?_
                  refine pu (v := .sc _) rfl rfl (fun _ => rfl) ?_
                  refine pu (v := .sc _) rfl rfl (fun _ => rfl) ?_
                  refine cn rfl rfl ti98 rfl ti2 rfl rfl ?_
                  refine pu (v := .sc _) rfl rfl (fun _ => rfl) ?_
                  refine pu (v := .sc _) rfl rfl (fun _ => rfl) ?_
                  refine RunC.fin ?_
                  refine AWP.ret ?_
                  have hR := Option.some.inj hR; subst hR
                  exact hQ _ _ (LS.mk [(4, .sc (.int .i64 (w6 (IntKind.wrap .u64 (0 - r5.1.n))))), (5, .sc (.int .i64 0))] (lblks 0 []) 0) (.tup [.sc (.int .i64 (w6 (IntKind.wrap .u64 (0 - r5.1.n)))), .sc (.int .i64 0)]) [] (.inr rfl) (Weak.turnL [] [] rfl rfl (tc (.sc _) (tc (.sc _) tn)) mn) (ro2 (rvT (v := .sc (.int .i64 (w6 (IntKind.wrap .u64 (0 - r5.1.n))))) rfl) (rvT (v := .sc (.int .i64 0)) rfl)) rfl rfl (.tup (.cons (.sc _) (.cons (.sc _) .nil))) pn
        · refine AWP.skip ?_
          refine skT ?_
          refine AWP.sq ?_
          refine AWP.sq ?_
          refine AWP.rgC 160 rfl rfl ?_
          refine pu (v := .sc _) rfl rfl (fun _ => rfl) ?_
          refine pu (v := .sc _) rfl rfl (fun _ => rfl) ?_
          refine pu (v := .sc _) rfl rfl (fun _ => rfl) ?_
          refine RunC.fin ?_
          refine AWP.cd hR rfl (fun h15 hR => ?_) fun h15 hR => ?_
          · refine AWP.sq ?_
            refine AWP.rgC 168 rfl rfl ?_
            refine pu (v := .sc _) rfl rfl (fun _ => rfl) ?_
            refine pu (v := .sc _) rfl rfl (fun _ => rfl) ?_
            refine RunC.fin ?_
            refine AWP.ret ?_
            refine rtT ?_
            have hR := Option.some.inj hR; subst hR
            exact hQ _ _ (LS.mk [(4, .sc (.int .i64 0)), (5, .sc (.int .i64 2))] (lblks 0 []) 0) (.tup [.sc (.int .i64 0), .sc (.int .i64 2)]) [] (.inr rfl) (Weak.turnL [] [] rfl rfl (tc (.sc _) (tc (.sc _) tn)) mn) (ro2 (rvT (v := .sc (.int .i64 0)) rfl) (rvT (v := .sc (.int .i64 2)) rfl)) rfl rfl (.tup (.cons (.sc _) (.cons (.sc _) .nil))) pn
          · refine AWP.skip ?_
            refine skT ?_
            refine AWP.sq ?_
            refine AWP.block ?_
            refine AWP.sq ?_
            refine AWP.rgC 176 rfl rfl ?_
            refine fa rfl rfl ti100 rfl rfl ti2 rfl ?_
            refine ldB (v := .sc _) rfl rfl rfl rfl ti2 rfl rfl ?_
            refine pu (v := .sc _) rfl rfl (fun _ => rfl) ?_
            refine pu (v := .sc _) rfl rfl (fun _ => rfl) ?_
            refine RunC.fin ?_
            refine AWP.cd hR rfl (fun h16 hR => ?_) fun h16 hR => ?_
            · refine AWP.sq ?_
              refine AWP.rgC 192 rfl rfl ?_
              refine pu (v := .sc _) rfl rfl (fun _ => rfl) ?_
              refine cn rfl rfl ti98 rfl ti2 rfl rfl ?_
              refine pu (v := .sc _) rfl rfl (fun _ => rfl) ?_
              refine pu (v := .sc _) rfl rfl (fun _ => rfl) ?_
              refine RunC.fin ?_
              refine AWP.ret ?_
              refine rtB ?_
              refine rtT ?_
              have hR := Option.some.inj hR; subst hR
              exact hQ _ _ (LS.mk [(4, .sc (.int .i64 (w6 r5.1.n))), (5, .sc (.int .i64 0))] (lblks 0 []) 0) (.tup [.sc (.int .i64 (w6 r5.1.n)), .sc (.int .i64 0)]) [] (.inr rfl) (Weak.turnL [] [] rfl rfl (tc (.sc _) (tc (.sc _) tn)) mn) (ro2 (rvT (v := .sc (.int .i64 (w6 r5.1.n))) rfl) (rvT (v := .sc (.int .i64 0)) rfl)) rfl rfl (.tup (.cons (.sc _) (.cons (.sc _) .nil))) pn
            · refine AWP.sq ?_
              refine AWP.rgC 188 rfl rfl ?_
              refine pu (v := .sc _) rfl rfl (fun _ => rfl) ?_
              refine pu (v := .sc _) rfl rfl (fun _ => rfl) ?_
              refine pu (v := .sc _) rfl rfl (fun _ => rfl) ?_
              refine RunC.fin ?_
              refine AWP.cd hR rfl (fun h17 hR => ?_) fun h17 hR => ?_
              · refine AWP.sq ?_
                refine AWP.rgC 212 rfl rfl ?_
                refine pu (v := .sc _) rfl rfl (fun _ => rfl) ?_
                refine pu (v := .sc _) rfl rfl (fun _ => rfl) ?_
                refine cn rfl rfl ti98 rfl ti2 rfl rfl ?_
                refine pu (v := .sc _) rfl rfl (fun _ => rfl) ?_
                refine pu (v := .sc _) rfl rfl (fun _ => rfl) ?_
                refine pu (v := .sc _) rfl rfl (fun _ => rfl) ?_
                refine RunC.fin ?_
                refine AWP.ret ?_
                refine rtB ?_
                refine rtT ?_
                have hR := Option.some.inj hR; subst hR
                exact hQ _ _ (LS.mk [(4, .sc (.int .i64 (w6 ((w6 (IntKind.wrap .u64 (0 - r5.1.n))) - 1)))), (5, .sc (.int .i64 0))] (lblks 0 []) 0) (.tup [.sc (.int .i64 (w6 ((w6 (IntKind.wrap .u64 (0 - r5.1.n))) - 1))), .sc (.int .i64 0)]) [] (.inr rfl) (Weak.turnL [] [] rfl rfl (tc (.sc _) (tc (.sc _) tn)) mn) (ro2 (rvT (v := .sc (.int .i64 (w6 ((w6 (IntKind.wrap .u64 (0 - r5.1.n))) - 1)))) rfl) (rvT (v := .sc (.int .i64 0)) rfl)) rfl rfl (.tup (.cons (.sc _) (.cons (.sc _) .nil))) pn
              · refine AWP.skip ?_
                refine skB ?_
                refine skT ?_
                refine AWP.sq ?_
                refine AWP.rgC 208 rfl rfl ?_
                refine pu (v := .sc _) rfl rfl (fun _ => rfl) ?_
                refine pu (v := .sc _) rfl rfl (fun _ => rfl) ?_
                refine cn rfl rfl ti98 rfl ti2 rfl rfl ?_
                refine pu (v := .sc _) rfl rfl (fun _ => rfl) ?_
                refine pu (v := .sc _) rfl rfl (fun _ => rfl) ?_
                refine RunC.fin ?_
                refine AWP.ret ?_
                have hR := Option.some.inj hR; subst hR
                exact hQ _ _ (LS.mk [(4, .sc (.int .i64 (w6 (IntKind.wrap .u64 (0 - r5.1.n))))), (5, .sc (.int .i64 0))] (lblks 0 []) 0) (.tup [.sc (.int .i64 (w6 (IntKind.wrap .u64 (0 - r5.1.n)))), .sc (.int .i64 0)]) [] (.inr rfl) (Weak.turnL [] [] rfl rfl (tc (.sc _) (tc (.sc _) tn)) mn) (ro2 (rvT (v := .sc (.int .i64 (w6 (IntKind.wrap .u64 (0 - r5.1.n))))) rfl) (rvT (v := .sc (.int .i64 0)) rfl)) rfl rfl (.tup (.cons (.sc _) (.cons (.sc _) .nil))) pn
    · refine AWP.skip ?_
      refine skT ?_
      refine AWP.sq ?_
      refine AWP.sq ?_
      refine AWP.rgC 68 rfl rfl ?_
      refine fa rfl rfl ti100 rfl rfl ti2 rfl ?_
      refine ldB (v := .sc _) rfl rfl rfl rfl ti2 rfl rfl ?_
      refine cn rfl rfl ti2 rfl ti98 rfl rfl ?_
      refine pu (v := .sc _) rfl rfl (fun _ => rfl) ?_
      refine cn rfl rfl ti2 rfl ti98 rfl rfl ?_
      refine pu (v := .sc _) rfl rfl (fun _ => rfl) ?_
      refine RunC.fin ?_
      refine AWP.cd hR rfl (fun h18 hR => ?_) fun h18 hR => ?_
      · refine AWP.sq ?_
        refine AWP.rgC 76 rfl rfl ?_
        refine pu (v := .sc _) rfl rfl (fun _ => rfl) ?_
        refine pu (v := .sc _) rfl rfl (fun _ => rfl) ?_
        refine RunC.fin ?_
        refine AWP.ret ?_
        refine rtT ?_
        have hR := Option.some.inj hR; subst hR
        exact hQ _ _ (LS.mk [(4, .sc (.int .i64 0)), (5, .sc (.int .i64 2))] (lblks 0 []) 0) (.tup [.sc (.int .i64 0), .sc (.int .i64 2)]) [] (.inr rfl) (Weak.turnL [] [] rfl rfl (tc (.sc _) (tc (.sc _) tn)) mn) (ro2 (rvT (v := .sc (.int .i64 0)) rfl) (rvT (v := .sc (.int .i64 2)) rfl)) rfl rfl (.tup (.cons (.sc _) (.cons (.sc _) .nil))) pn
      · refine AWP.skip ?_
        refine skT ?_
        refine AWP.sq ?_
        refine AWP.rgC 120 rfl rfl ?_
        refine fa rfl rfl ti100 rfl rfl ti2 rfl ?_
        refine ldB (v := .sc _) rfl rfl rfl rfl ti2 rfl rfl ?_
        refine cn rfl rfl ti2 rfl ti98 rfl rfl ?_
        refine fa rfl rfl ti100 rfl rfl ti98 rfl ?_
        refine ldB (v := .sc _) rfl rfl rfl rfl ti98 rfl rfl ?_
        refine pu (v := .sc _) rfl rfl (fun _ => rfl) ?_
        refine cn rfl rfl ti2 rfl ti98 rfl rfl ?_
        obtain ⟨r19, hr19, hR⟩ := bindE hR
        refine cls [] rfl rfl cb70 (ok70 (IntKind.wrap .u64 w.Hi) w.Lo.n (IntKind.wrap .u64 d) _ hr19) (.cons (.sc _) (.cons (.sc _) (.cons (.sc _) (.nil)))) (.inr rfl) rfl ?_
        refine pu (v := .tup _) rfl rfl (fun _ => rfl) ?_
        refine pu (v := .sc _) rfl rfl (fun _ => rfl) ?_
        refine pu (v := .sc _) rfl rfl (fun _ => rfl) ?_
        refine pu (v := .sc _) rfl rfl (fun _ => rfl) ?_
        refine pu (v := .sc _) rfl rfl (fun _ => rfl) ?_
        refine RunC.fin ?_
        refine AWP.sq ?_
        refine AWP.rgC 124 rfl rfl ?_
        refine pu (v := .sc _) rfl rfl (fun _ => rfl) ?_
        refine RunC.fin ?_
        refine AWP.sq ?_
        refine AWP.sq ?_
        refine AWP.rgC 136 rfl rfl ?_
        refine fa rfl rfl ti100 rfl rfl ti2 rfl ?_
        refine ldB (v := .sc _) rfl rfl rfl rfl ti2 rfl rfl ?_
        refine pu (v := .sc _) rfl rfl (fun _ => rfl) ?_
        refine RunC.fin ?_
        refine AWP.cd hR rfl (fun h20 hR => ?_) fun h20 hR => ?_
        · refine AWP.sq ?_
          refine AWP.rgC 140 rfl rfl ?_
          refine pu (v := .sc _) rfl rfl (fun _ => rfl) ?_
          refine RunC.fin ?_
          refine AWP.sq ?_
          refine AWP.rgC 148 rfl rfl ?_
          refine pu (v := .sc _) rfl rfl (fun _ => rfl) ?_
          refine pu (v := .sc _) rfl rfl (fun _ => rfl) ?_
          refine RunC.fin ?_
          refine AWP.cd hR rfl (fun h21 hR => ?_) fun h21 hR => ?_
          · refine AWP.rgC 160 rfl rfl ?_
            refine pu (v := .sc _) rfl rfl (fun _ => rfl) ?_
            refine pu (v := .sc _) rfl rfl (fun _ => rfl) ?_
            refine pu (v := .sc _) rfl rfl (fun _ => rfl) ?_
            refine RunC.fin ?_
            refine AWP.sq ?_
            refine AWP.sq ?_
            refine AWP.rgC 172 rfl rfl ?_
            refine pu (v := .sc _) rfl rfl (fun _ => rfl) ?_
            refine pu (v := .sc _) rfl rfl (fun _ => rfl) ?_
            obtain ⟨v22, ev22, hR⟩ := letE hR
            refine pu (v := .sc _) rfl rfl (fun _ => puB ev22) ?_
            refine RunC.fin ?_
            refine AWP.cd hR rfl (fun h23 hR => ?_) fun h23 hR => ?_
            · refine AWP.sq ?_
              refine AWP.rgC 180 rfl rfl ?_
              refine pu (v := .sc _) rfl rfl (fun _ => rfl) ?_
              refine pu (v := .sc _) rfl rfl (fun _ => rfl) ?_
              refine RunC.fin ?_
              refine AWP.ret ?_
              refine rtT ?_
              have hR := Option.some.inj hR; subst hR
              exact hQ _ _ (LS.mk [(4, .sc (.int .i64 0)), (5, .sc (.int .i64 2))] (lblks 0 []) 0) (.tup [.sc (.int .i64 0), .sc (.int .i64 2)]) [] (.inr rfl) (Weak.turnL [] [] rfl rfl (tc (.sc _) (tc (.sc _) tn)) mn) (ro2 (rvT (v := .sc (.int .i64 0)) rfl) (rvT (v := .sc (.int .i64 2)) rfl)) rfl rfl (.tup (.cons (.sc _) (.cons (.sc _) .nil))) pn
            · refine AWP.skip ?_
              refine skT ?_
              refine AWP.sq ?_
              refine AWP.block ?_
              refine AWP.sq ?_
              refine AWP.rgC 188 rfl rfl ?_
              refine fa rfl rfl ti100 rfl rfl ti2 rfl ?_
              refine ldB (v := .sc _) rfl rfl rfl rfl ti2 rfl rfl ?_
              refine pu (v := .sc _) rfl rfl (fun _ => rfl) ?_
              refine pu (v := .sc _) rfl rfl (fun _ => rfl) ?_
              refine RunC.fin ?_
              refine AWP.cd hR rfl (fun h24 hR => ?_) fun h24 hR => ?_
              · refine AWP.sq ?_
                refine AWP.rgC 204 rfl rfl ?_
                refine pu (v := .sc _) rfl rfl (fun _ => rfl) ?_
                refine cn rfl rfl ti98 rfl ti2 rfl rfl ?_
                refine pu (v := .sc _) rfl rfl (fun _ => rfl) ?_
                refine pu (v := .sc _) rfl rfl (fun _ => rfl) ?_
                refine RunC.fin ?_
                refine AWP.ret ?_
                refine rtB ?_
                refine rtT ?_
                have hR := Option.some.inj hR; subst hR
                exact hQ _ _ (LS.mk [(4, .sc (.int .i64 (w6 r19.1.n))), (5, .sc (.int .i64 0))] (lblks 0 []) 0) (.tup [.sc (.int .i64 (w6 r19.1.n)), .sc (.int .i64 0)]) [] (.inr rfl) (Weak.turnL [] [] rfl rfl (tc (.sc _) (tc (.sc _) tn)) mn) (ro2 (rvT (v := .sc (.int .i64 (w6 r19.1.n))) rfl) (rvT (v := .sc (.int .i64 0)) rfl)) rfl rfl (.tup (.cons (.sc _) (.cons (.sc _) .nil))) pn
              · refine AWP.sq ?_
                refine AWP.rgC 200 rfl rfl ?_
                refine pu (v := .sc _) rfl rfl (fun _ => rfl) ?_
                refine pu (v := .sc _) rfl rfl (fun _ => rfl) ?_
                refine pu (v := .sc _) rfl rfl (fun _ => rfl) ?_
                refine RunC.fin ?_
                refine AWP.cd hR rfl (fun h25 hR => ?_) fun h25 hR => ?_
                · refine AWP.sq ?_
                  refine AWP.rgC 224 rfl rfl ?_
                  refine pu (v := .sc _) rfl rfl (fun _ => rfl) ?_
                  refine pu (v := .sc _) rfl rfl (fun _ => rfl) ?_
                  refine cn rfl rfl ti98 rfl ti2 rfl rfl ?_
                  refine pu (v := .sc _) rfl rfl (fun _ => rfl) ?_
                  refine pu (v := .sc _) rfl rfl (fun _ => rfl) ?_
                  refine pu (v := .sc _) rfl rfl (fun _ => rfl) ?_
                  refine RunC.fin ?_
                  refine AWP.ret ?_
                  refine rtB ?_
                  refine rtT ?_
                  have hR := Option.some.inj hR; subst hR
                  exact hQ _ _ (LS.mk [(4, .sc (.int .i64 (w6 ((w6 (IntKind.wrap .u64 (0 - r19.1.n))) - 1)))), (5, .sc (.int .i64 0))] (lblks 0 []) 0) (.tup [.sc (.int .i64 (w6 ((w6 (IntKind.wrap .u64 (0 - r19.1.n))) - 1))), .sc (.int .i64 0)]) [] (.inr rfl) (Weak.turnL [] [] rfl rfl (tc (.sc _) (tc (.sc _) tn)) mn) (ro2 (rvT (v := .sc (.int .i64 (w6 ((w6 (IntKind.wrap .u64 (0 - r19.1.n))) - 1)))) rfl) (rvT (v := .sc (.int .i64 0)) rfl)) rfl rfl (.tup (.cons (.sc _) (.cons (.sc _) .nil))) pn
                · refine AWP.skip ?_
                  refine skB ?_
                  refine skT ?_
                  refine AWP.sq ?_
                  refine AWP.rgC 220 rfl rfl ?_
                  refine pu (v := .sc _) rfl rfl (fun _ => rfl) ?_
                  refine pu (v := .sc _) rfl rfl (fun _ => rfl) ?_
                  refine cn rfl rfl ti98 rfl ti2 rfl rfl ?_
                  refine pu (v := .sc _) rfl rfl (fun _ => rfl) ?_
                  refine pu (v := .sc _) rfl rfl (fun _ => rfl) ?_
                  refine RunC.fin ?_
                  refine AWP.ret ?_
                  have hR := Option.some.inj hR; subst hR
                  exact hQ _ _ (LS.mk [(4, .sc (.int .i64 (w6 (IntKind.wrap .u64 (0 - r19.1.n))))), (5, .sc (.int .i64 0))] (lblks 0 []) 0) (.tup [.sc (.int .i64 (w6 (IntKind.wrap .u64 (0 - r19.1.n)))), .sc (.int .i64 0)]) [] (.inr rfl) (Weak.turnL [] [] rfl rfl (tc (.sc _) (tc (.sc _) tn)) mn) (ro2 (rvT (v := .sc (.int .i64 (w6 (IntKind.wrap .u64 (0 - r19.1.n))))) rfl) (rvT (v := .sc (.int .i64 0)) rfl)) rfl rfl (.tup (.cons (.sc _) (.cons (.sc _) .nil))) pn
          · refine AWP.skip ?_
            refine skT ?_
            refine AWP.sq ?_
            refine AWP.sq ?_
            refine AWP.rgC 160 rfl rfl ?_
            refine pu (v := .sc _) rfl rfl (fun _ => rfl) ?_
            refine pu (v := .sc _) rfl rfl (fun _ => rfl) ?_
            refine pu (v := .sc _) rfl rfl (fun _ => rfl) ?_
            refine RunC.fin ?_
            refine AWP.cd hR rfl (fun h26 hR => ?_) fun h26 hR => ?_
            · refine AWP.sq ?_
              refine AWP.rgC 168 rfl rfl ?_
              refine pu (v := .sc _) rfl rfl (fun _ => rfl) ?_
              refine pu (v := .sc _) rfl rfl (fun _ => rfl) ?_
              refine RunC.fin ?_
              refine AWP.ret ?_
              refine rtT ?_
              have hR := Option.some.inj hR; subst hR
              exact hQ _ _ (LS.mk [(4, .sc (.int .i64 0)), (5, .sc (.int .i64 2))] (lblks 0 []) 0) (.tup [.sc (.int .i64 0), .sc (.int .i64 2)]) [] (.inr rfl) (Weak.turnL [] [] rfl rfl (tc (.sc _) (tc (.sc _) tn)) mn) (ro2 (rvT (v := .sc (.int .i64 0)) rfl) (rvT (v := .sc (.int .i64 2)) rfl)) rfl rfl (.tup (.cons (.sc _) (.cons (.sc _) .nil))) pn
            · refine AWP.skip ?_
              refine skT ?_
              refine AWP.sq ?_
              refine AWP.block ?_
              refine AWP.sq ?_
              refine AWP.rgC 176 rfl rfl ?_
              refine fa rfl rfl ti100 rfl rfl ti2 rfl ?_
              refine ldB (v := .sc _) rfl rfl rfl rfl ti2 rfl rfl ?_
              refine pu (v := .sc _) rfl rfl (fun _ => rfl) ?_
              refine pu (v := .sc _) rfl rfl (fun _ => rfl) ?_
              refine RunC.fin ?_
              refine AWP.cd hR rfl (fun h27 hR => ?_) fun h27 hR => ?_
              · refine AWP.sq ?_
                refine AWP.rgC 192 rfl rfl ?_
                refine pu (v := .sc _) rfl rfl (fun _ => rfl) ?_
                refine cn rfl rfl ti98 rfl ti2 rfl rfl ?_
                refine pu (v := .sc _) rfl rfl (fun _ => rfl) ?_
                refine pu (v := .sc _) rfl rfl (fun _ => rfl) ?_
                refine RunC.fin ?_
                refine AWP.ret ?_
                refine rtB ?_
                refine rtT ?_
                have hR := Option.some.inj hR; subst hR
                exact hQ _ _ (LS.mk [(4, .sc (.int .i64 (w6 r19.1.n))), (5, .sc (.int .i64 0))] (lblks 0 []) 0) (.tup [.sc (.int .i64 (w6 r19.1.n)), .sc (.int .i64 0)]) [] (.inr rfl) (Weak.turnL [] [] rfl rfl (tc (.sc _) (tc (.sc _) tn)) mn) (ro2 (rvT (v := .sc (.int .i64 (w6 r19.1.n))) rfl) (rvT (v := .sc (.int .i64 0)) rfl)) rfl rfl (.tup (.cons (.sc _) (.cons (.sc _) .nil))) pn
              · refine AWP.sq ?_
                refine AWP.rgC 188 rfl rfl ?_
                refine pu (v := .sc _) rfl rfl (fun _ => rfl) ?_
                refine pu (v := .sc _) rfl rfl (fun _ => rfl) ?_
                refine pu (v := .sc _) rfl rfl (fun _ => rfl) ?_
                refine RunC.fin ?_
                refine AWP.cd hR rfl (fun h28 hR => ?_) fun h28 hR => ?_
                · refine AWP.sq ?_
                  refine AWP.rgC 212 rfl rfl ?_
                  refine pu (v := .sc _) rfl rfl (fun _ => rfl) ?_
                  refine pu (v := .sc _) rfl rfl (fun _ => rfl) ?_
                  refine cn rfl rfl ti98 rfl ti2 rfl rfl ?_
                  refine pu (v := .sc _) rfl rfl (fun _ => rfl) ?_
                  refine pu (v := .sc _) rfl rfl (fun _ => rfl) ?_
                  refine pu (v := .sc _) rfl rfl (fun _ => rfl) ?_
                  refine RunC.fin ?_
                  refine AWP.ret ?_
                  refine rtB ?_
                  refine rtT ?_
                  have hR := Option.some.inj hR; subst hR
                  exact hQ _ _ (LS.mk [(4, .sc (.int .i64 (w6 ((w6 (IntKind.wrap .u64 (0 - r19.1.n))) - 1)))), (5, .sc (.int .i64 0))] (lblks 0 []) 0) (.tup [.sc (.int .i64 (w6 ((w6 (IntKind.wrap .u64 (0 - r19.1.n))) - 1))), .sc (.int .i64 0)]) [] (.inr rfl) (Weak.turnL [] [] rfl rfl (tc (.sc _) (tc (.sc _) tn)) mn) (ro2 (rvT (v := .sc (.int .i64 (w6 ((w6 (IntKind.wrap .u64 (0 - r19.1.n))) - 1)))) rfl) (rvT (v := .sc (.int .i64 0)) rfl)) rfl rfl (.tup (.cons (.sc _) (.cons (.sc _) .nil))) pn
                · refine AWP.skip ?_
                  refine skB ?_
                  refine skT ?_
                  refine AWP.sq ?_
                  refine AWP.rgC 208 rfl rfl ?_
                  refine pu (v := .sc _) rfl rfl (fun _ => rfl) ?_
                  refine pu (v := .sc _) rfl rfl (fun _ => rfl) ?_
                  refine cn rfl rfl ti98 rfl ti2 rfl rfl ?_
                  refine pu (v := .sc _) rfl rfl (fun _ => rfl) ?_
                  refine pu (v := .sc _) rfl rfl (fun _ => rfl) ?_
                  refine RunC.fin ?_
                  refine AWP.ret ?_
                  have hR := Option.some.inj hR; subst hR
                  exact hQ _ _ (LS.mk [(4, .sc (.int .i64 (w6 (IntKind.wrap .u64 (0 - r19.1.n))))), (5, .sc (.int .i64 0))] (lblks 0 []) 0) (.tup [.sc (.int .i64 (w6 (IntKind.wrap .u64 (0 - r19.1.n)))), .sc (.int .i64 0)]) [] (.inr rfl) (Weak.turnL [] [] rfl rfl (tc (.sc _) (tc (.sc _) tn)) mn) (ro2 (rvT (v := .sc (.int .i64 (w6 (IntKind.wrap .u64 (0 - r19.1.n))))) rfl) (rvT (v := .sc (.int .i64 0)) rfl)) rfl rfl (.tup (.cons (.sc _) (.cons (.sc _) .nil))) pn
        · refine AWP.skip ?_
          refine skT ?_
          refine AWP.sq ?_
          refine AWP.sq ?_
          refine AWP.rgC 148 rfl rfl ?_
          refine pu (v := .sc _) rfl rfl (fun _ => rfl) ?_
          refine pu (v := .sc _) rfl rfl (fun _ => rfl) ?_
          refine pu (v := .sc _) rfl rfl (fun _ => rfl) ?_
          refine RunC.fin ?_
          refine AWP.cd hR rfl (fun h29 hR => ?_) fun h29 hR => ?_
          · refine AWP.sq ?_
            refine AWP.rgC 156 rfl rfl ?_
            refine pu (v := .sc _) rfl rfl (fun _ => rfl) ?_
            refine pu (v := .sc _) rfl rfl (fun _ => rfl) ?_
            refine RunC.fin ?_
            refine AWP.ret ?_
            refine rtT ?_
            have hR := Option.some.inj hR; subst hR
            exact hQ _ _ (LS.mk [(4, .sc (.int .i64 0)), (5, .sc (.int .i64 2))] (lblks 0 []) 0) (.tup [.sc (.int .i64 0), .sc (.int .i64 2)]) [] (.inr rfl) (Weak.turnL [] [] rfl rfl (tc (.sc _) (tc (.sc _) tn)) mn) (ro2 (rvT (v := .sc (.int .i64 0)) rfl) (rvT (v := .sc (.int .i64 2)) rfl)) rfl rfl (.tup (.cons (.sc _) (.cons (.sc _) .nil))) pn
          · refine AWP.skip ?_
            refine skT ?_
            refine AWP.sq ?_
            refine AWP.block ?_
            refine AWP.sq ?_
            refine AWP.rgC 164 rfl rfl ?_
            refine fa rfl rfl ti100 rfl rfl ti2 rfl ?_
            refine ldB (v := .sc _) rfl rfl rfl rfl ti2 rfl rfl ?_
            refine pu (v := .sc _) rfl rfl (fun _ => rfl) ?_
            refine pu (v := .sc _) rfl rfl (fun _ => rfl) ?_
            refine RunC.fin ?_
            refine AWP.cd hR rfl (fun h30 hR => ?_) fun h30 hR => ?_
            · refine AWP.sq ?_
              refine AWP.rgC 180 rfl rfl ?_
              refine pu (v := .sc _) rfl rfl (fun _ => rfl) ?_
              refine cn rfl rfl ti98 rfl ti2 rfl rfl ?_
              refine pu (v := .sc _) rfl rfl (fun _ => rfl) ?_
              refine pu (v := .sc _) rfl rfl (fun _ => rfl) ?_
              refine RunC.fin ?_
              refine AWP.ret ?_
              refine rtB ?_
              refine rtT ?_
              have hR := Option.some.inj hR; subst hR
              exact hQ _ _ (LS.mk [(4, .sc (.int .i64 (w6 r19.1.n))), (5, .sc (.int .i64 0))] (lblks 0 []) 0) (.tup [.sc (.int .i64 (w6 r19.1.n)), .sc (.int .i64 0)]) [] (.inr rfl) (Weak.turnL [] [] rfl rfl (tc (.sc _) (tc (.sc _) tn)) mn) (ro2 (rvT (v := .sc (.int .i64 (w6 r19.1.n))) rfl) (rvT (v := .sc (.int .i64 0)) rfl)) rfl rfl (.tup (.cons (.sc _) (.cons (.sc _) .nil))) pn
            · refine AWP.sq ?_
              refine AWP.rgC 176 rfl rfl ?_
              refine pu (v := .sc _) rfl rfl (fun _ => rfl) ?_
              refine pu (v := .sc _) rfl rfl (fun _ => rfl) ?_
              refine pu (v := .sc _) rfl rfl (fun _ => rfl) ?_
              refine RunC.fin ?_
              refine AWP.cd hR rfl (fun h31 hR => ?_) fun h31 hR => ?_
              · refine AWP.sq ?_
                refine AWP.rgC 200 rfl rfl ?_
                refine pu (v := .sc _) rfl rfl (fun _ => rfl) ?_
                refine pu (v := .sc _) rfl rfl (fun _ => rfl) ?_
                refine cn rfl rfl ti98 rfl ti2 rfl rfl ?_
                refine pu (v := .sc _) rfl rfl (fun _ => rfl) ?_
                refine pu (v := .sc _) rfl rfl (fun _ => rfl) ?_
                refine pu (v := .sc _) rfl rfl (fun _ => rfl) ?_
                refine RunC.fin ?_
                refine AWP.ret ?_
                refine rtB ?_
                refine rtT ?_
                have hR := Option.some.inj hR; subst hR
                exact hQ _ _ (LS.mk [(4, .sc (.int .i64 (w6 ((w6 (IntKind.wrap .u64 (0 - r19.1.n))) - 1)))), (5, .sc (.int .i64 0))] (lblks 0 []) 0) (.tup [.sc (.int .i64 (w6 ((w6 (IntKind.wrap .u64 (0 - r19.1.n))) - 1))), .sc (.int .i64 0)]) [] (.inr rfl) (Weak.turnL [] [] rfl rfl (tc (.sc _) (tc (.sc _) tn)) mn) (ro2 (rvT (v := .sc (.int .i64 (w6 ((w6 (IntKind.wrap .u64 (0 - r19.1.n))) - 1)))) rfl) (rvT (v := .sc (.int .i64 0)) rfl)) rfl rfl (.tup (.cons (.sc _) (.cons (.sc _) .nil))) pn
              · refine AWP.skip ?_
                refine skB ?_
                refine skT ?_
                refine AWP.sq ?_
                refine AWP.rgC 196 rfl rfl ?_
                refine pu (v := .sc _) rfl rfl (fun _ => rfl) ?_
                refine pu (v := .sc _) rfl rfl (fun _ => rfl) ?_
                refine cn rfl rfl ti98 rfl ti2 rfl rfl ?_
                refine pu (v := .sc _) rfl rfl (fun _ => rfl) ?_
                refine pu (v := .sc _) rfl rfl (fun _ => rfl) ?_
                refine RunC.fin ?_
                refine AWP.ret ?_
                have hR := Option.some.inj hR; subst hR
                exact hQ _ _ (LS.mk [(4, .sc (.int .i64 (w6 (IntKind.wrap .u64 (0 - r19.1.n))))), (5, .sc (.int .i64 0))] (lblks 0 []) 0) (.tup [.sc (.int .i64 (w6 (IntKind.wrap .u64 (0 - r19.1.n)))), .sc (.int .i64 0)]) [] (.inr rfl) (Weak.turnL [] [] rfl rfl (tc (.sc _) (tc (.sc _) tn)) mn) (ro2 (rvT (v := .sc (.int .i64 (w6 (IntKind.wrap .u64 (0 - r19.1.n))))) rfl) (rvT (v := .sc (.int .i64 0)) rfl)) rfl rfl (.tup (.cons (.sc _) (.cons (.sc _) .nil))) pn
theorem ok69 (x : Int) (r : Bool) (hR : cmp_isNaN x = some r) : FnP Try.prog 69 [.sc (.int .u64 x)] (.sc (.bool r)) := by
  refine fnP_of (FnX.walk Try.func69 rfl 6 0 (by simp [Try.ntmps69]) rfl fun W S F Q hQ => ?_)
  unfold cmp_isNaN at hR
  refine AWP.sq ?_
  refine AWP.rgC 4 rfl rfl ?_
  refine pu (v := .sc _) rfl rfl (fun _ => rfl) ?_
  refine RunC.fin ?_
  refine AWP.sq ?_
  refine AWP.rgC 20 rfl rfl ?_
  refine pu (v := .sc _) rfl rfl (fun _ => rfl) ?_
  refine pu (v := .sc _) rfl rfl (fun _ => rfl) ?_
  refine pu (v := .sc _) rfl rfl (fun _ => rfl) ?_
  refine pu (v := .sc _) rfl rfl (fun _ => rfl) ?_
  refine RunC.fin ?_
  refine AWP.ret ?_
  have hR := Option.some.inj hR; subst hR
  exact hQ _ _ (LS.mk [(2, .sc (.bool (x != x)))] (lblks 0 []) 0) (.sc (.bool (x != x))) [] (.inr rfl) (Weak.turnL [] [] rfl rfl (tc (.sc _) tn) mn) (ro1 (rvT (v := .sc (.bool (x != x))) rfl)) rfl rfl (.sc _) pn
theorem ok68 (x : Int) (r : Bool) (hR : cmp_isNaN x = some r) : FnP Try.prog 68 [.sc (.int .i64 x)] (.sc (.bool r)) := by
  refine fnP_of (FnX.walk Try.func68 rfl 6 0 (by simp [Try.ntmps68]) rfl fun W S F Q hQ => ?_)
  unfold cmp_isNaN at hR
  refine AWP.sq ?_
  refine AWP.rgC 4 rfl rfl ?_
  refine pu (v := .sc _) rfl rfl (fun _ => rfl) ?_
  refine RunC.fin ?_
  refine AWP.sq ?_
  refine AWP.rgC 20 rfl rfl ?_
  refine pu (v := .sc _) rfl rfl (fun _ => rfl) ?_
  refine pu (v := .sc _) rfl rfl (fun _ => rfl) ?_
  refine pu (v := .sc _) rfl rfl (fun _ => rfl) ?_
  refine pu (v := .sc _) rfl rfl (fun _ => rfl) ?_
  refine RunC.fin ?_
  refine AWP.ret ?_
  have hR := Option.some.inj hR; subst hR
  exact hQ _ _ (LS.mk [(2, .sc (.bool (x != x)))] (lblks 0 []) 0) (.sc (.bool (x != x))) [] (.inr rfl) (Weak.turnL [] [] rfl rfl (tc (.sc _) tn) mn) (ro1 (rvT (v := .sc (.bool (x != x))) rfl)) rfl rfl (.sc _) pn
theorem ok58 (a : Int) (r : NU64) (hR : num_size a = some r) : FnP Try.prog 58 [.sc (.int .i64 a)] (.sc (.int .u64 r.n)) := by
  refine fnP_of (FnX.walk Try.func58 rfl 10 0 (by simp [Try.ntmps58]) rfl fun W S F Q hQ => ?_)
  unfold num_size at hR
  refine AWP.sq ?_
  refine AWP.rgC 4 rfl rfl ?_
  refine pu (v := .sc _) rfl rfl (fun _ => rfl) ?_
  refine RunC.fin ?_
  refine AWP.sq ?_
  refine AWP.sq ?_
  refine AWP.rgC 12 rfl rfl ?_
  refine pu (v := .sc _) rfl rfl (fun _ => rfl) ?_
  refine pu (v := .sc _) rfl rfl (fun _ => rfl) ?_
  refine RunC.fin ?_
  refine AWP.cd hR rfl (fun h1 hR => ?_) fun h1 hR => ?_
  · refine AWP.sq ?_
    refine AWP.rgC 28 rfl rfl ?_
    refine pu (v := .sc _) rfl rfl (fun _ => rfl) ?_
    refine cn rfl rfl ti2 rfl ti98 rfl rfl ?_
    refine pu (v := .sc _) rfl rfl (fun _ => rfl) ?_
    refine pu (v := .sc _) rfl rfl (fun _ => rfl) ?_
    refine RunC.fin ?_
    refine AWP.ret ?_
    refine rtT ?_
    have hR := Option.some.inj hR; subst hR
    exact hQ _ _ (LS.mk [(2, .sc (.int .u64 (IntKind.wrap .u64 (0 - (IntKind.wrap .u64 a)))))] (lblks 0 []) 0) (.sc (.int .u64 (IntKind.wrap .u64 (0 - (IntKind.wrap .u64 a))))) [] (.inr rfl) (Weak.turnL [] [] rfl rfl (tc (.sc _) tn) mn) (ro1 (rvT (v := .sc (.int .u64 (IntKind.wrap .u64 (0 - (IntKind.wrap .u64 a))))) rfl)) rfl rfl (.sc _) pn
  · refine AWP.skip ?_
    refine skT ?_
    refine AWP.sq ?_
    refine AWP.rgC 24 rfl rfl ?_
    refine pu (v := .sc _) rfl rfl (fun _ => rfl) ?_
    refine cn rfl rfl ti2 rfl ti98 rfl rfl ?_
    refine pu (v := .sc _) rfl rfl (fun _ => rfl) ?_
    refine RunC.fin ?_
    refine AWP.ret ?_
    have hR := Option.some.inj hR; subst hR
    exact hQ _ _ (LS.mk [(2, .sc (.int .u64 (IntKind.wrap .u64 a)))] (lblks 0 []) 0) (.sc (.int .u64 (IntKind.wrap .u64 a))) [] (.inr rfl) (Weak.turnL [] [] rfl rfl (tc (.sc _) tn) mn) (ro1 (rvT (v := .sc (.int .u64 (IntKind.wrap .u64 a))) rfl)) rfl rfl (.sc _) pn
theorem ok57 (x : Int) (y : Int) (r : NU64 × NU64) (hR : bits_Mul64 x y = some r) : FnP Try.prog 57 [.sc (.int .u64 x), .sc (.int .u64 y)] (.tup [.sc (.int .u64 r.1.n), .sc (.int .u64 r.2.n)]) := by
  refine fnP_of (FnX.walk Try.func57 rfl 51 0 (by simp [Try.ntmps57]) rfl fun W S F Q hQ => ?_)
  unfold bits_Mul64 at hR
  refine AWP.sq ?_
  refine AWP.rgC 8 rfl rfl ?_
  refine pu (v := .sc _) rfl rfl (fun _ => rfl) ?_
  refine pu (v := .sc _) rfl rfl (fun _ => rfl) ?_
  refine RunC.fin ?_
  refine AWP.sq ?_
  refine AWP.rgC 20 rfl rfl ?_
  refine pu (v := .sc _) rfl rfl (fun _ => rfl) ?_
  obtain ⟨v1, ev1, hR⟩ := letE hR
  refine pu (v := .sc _) rfl rfl (fun _ => puI ev1) ?_
  refine pu (v := .sc _) rfl rfl (fun _ => rfl) ?_
  refine RunC.fin ?_
  refine AWP.sq ?_
  refine AWP.rgC 32 rfl rfl ?_
  refine pu (v := .sc _) rfl rfl (fun _ => rfl) ?_
  refine pu (v := .sc _) rfl rfl (fun _ => rfl) ?_
  refine pu (v := .sc _) rfl rfl (fun _ => rfl) ?_
  refine RunC.fin ?_
  refine AWP.sq ?_
  refine AWP.rgC 44 rfl rfl ?_
  refine pu (v := .sc _) rfl rfl (fun _ => rfl) ?_
  obtain ⟨v2, ev2, hR⟩ := letE hR
  refine pu (v := .sc _) rfl rfl (fun _ => puI ev2) ?_
  refine pu (v := .sc _) rfl rfl (fun _ => rfl) ?_
  refine RunC.fin ?_
  refine AWP.sq ?_
  refine AWP.rgC 56 rfl rfl ?_
  refine pu (v := .sc _) rfl rfl (fun _ => rfl) ?_
  refine pu (v := .sc _) rfl rfl (fun _ => rfl) ?_
  refine pu (v := .sc _) rfl rfl (fun _ => rfl) ?_
  refine RunC.fin ?_
  refine AWP.sq ?_
  refine AWP.rgC 72 rfl rfl ?_
  refine pu (v := .sc _) rfl rfl (fun _ => rfl) ?_
  refine pu (v := .sc _) rfl rfl (fun _ => rfl) ?_
  refine pu (v := .sc _) rfl rfl (fun _ => rfl) ?_
  refine pu (v := .sc _) rfl rfl (fun _ => rfl) ?_
  refine RunC.fin ?_
  refine AWP.sq ?_
  refine AWP.rgC 100 rfl rfl ?_
  refine pu (v := .sc _) rfl rfl (fun _ => rfl) ?_
  refine pu (v := .sc _) rfl rfl (fun _ => rfl) ?_
  refine pu (v := .sc _) rfl rfl (fun _ => rfl) ?_
  refine pu (v := .sc _) rfl rfl (fun _ => rfl) ?_
  refine pu (v := .sc _) rfl rfl (fun _ => rfl) ?_
  obtain ⟨v3, ev3, hR⟩ := letE hR
  refine pu (v := .sc _) rfl rfl (fun _ => puI ev3) ?_
  refine pu (v := .sc _) rfl rfl (fun _ => rfl) ?_
  refine RunC.fin ?_
  refine AWP.sq ?_
  refine AWP.rgC 112 rfl rfl ?_
  refine pu (v := .sc _) rfl rfl (fun _ => rfl) ?_
  obtain ⟨v4, ev4, hR⟩ := letE hR
  refine pu (v := .sc _) rfl rfl (fun _ => puI ev4) ?_
  refine pu (v := .sc _) rfl rfl (fun _ => rfl) ?_
  refine RunC.fin ?_
  refine AWP.sq ?_
  refine AWP.rgC 124 rfl rfl ?_
  refine pu (v := .sc _) rfl rfl (fun _ => rfl) ?_
  refine pu (v := .sc _) rfl rfl (fun _ => rfl) ?_
  refine pu (v := .sc _) rfl rfl (fun _ => rfl) ?_
  refine RunC.fin ?_
  refine AWP.sq ?_
  refine AWP.rgC 148 rfl rfl ?_
  refine pu (v := .sc _) rfl rfl (fun _ => rfl) ?_
  refine pu (v := .sc _) rfl rfl (fun _ => rfl) ?_
  refine pu (v := .sc _) rfl rfl (fun _ => rfl) ?_
  refine pu (v := .sc _) rfl rfl (fun _ => rfl) ?_
  obtain ⟨v5, ev5, hR⟩ := letE hR
  refine pu (v := .sc _) rfl rfl (fun _ => puI ev5) ?_
  refine pu (v := .sc _) rfl rfl (fun _ => rfl) ?_
  refine RunC.fin ?_
  refine AWP.sq ?_
  refine AWP.rgC 184 rfl rfl ?_
  refine pu (v := .sc _) rfl rfl (fun _ => rfl) ?_
  refine pu (v := .sc _) rfl rfl (fun _ => rfl) ?_
  obtain ⟨v6, ev6, hR⟩ := letE hR
  refine pu (v := .sc _) rfl rfl (fun _ => puI ev6) ?_
  refine pu (v := .sc _) rfl rfl (fun _ => rfl) ?_
  refine pu (v := .sc _) rfl rfl (fun _ => rfl) ?_
  refine pu (v := .sc _) rfl rfl (fun _ => rfl) ?_
  refine pu (v := .sc _) rfl rfl (fun _ => rfl) ?_
  obtain ⟨v7, ev7, hR⟩ := letE hR
  refine pu (v := .sc _) rfl rfl (fun _ => puI ev7) ?_
  refine pu (v := .sc _) rfl rfl (fun _ => rfl) ?_
  refine RunC.fin ?_
  refine AWP.sq ?_
  refine AWP.rgC 200 rfl rfl ?_
  refine pu (v := .sc _) rfl rfl (fun _ => rfl) ?_
  refine pu (v := .sc _) rfl rfl (fun _ => rfl) ?_
  refine pu (v := .sc _) rfl rfl (fun _ => rfl) ?_
  refine pu (v := .sc _) rfl rfl (fun _ => rfl) ?_
  refine RunC.fin ?_
  refine AWP.ret ?_
  have hR := Option.some.inj hR; subst hR
  exact hQ _ _ (LS.mk [(4, .sc (.int .u64 v7)), (5, .sc (.int .u64 (IntKind.wrap .u64 (x * y))))] (lblks 0 []) 0) (.tup [.sc (.int .u64 v7), .sc (.int .u64 (IntKind.wrap .u64 (x * y)))]) [] (.inr rfl) (Weak.turnL [] [] rfl rfl (tc (.sc _) (tc (.sc _) tn)) mn) (ro2 (rvT (v := .sc (.int .u64 v7)) rfl) (rvT (v := .sc (.int .u64 (IntKind.wrap .u64 (x * y)))) rfl)) rfl rfl (.tup (.cons (.sc _) (.cons (.sc _) .nil))) pn
theorem ok49 (a : Int) (b : Int) (r : num_Wide) (hR : num_Product a b = some r) : FnP Try.prog 49 [.sc (.int .i64 a), .sc (.int .i64 b)] (aggV (α := num_Wide) true r) := by
  refine fnP_of (FnX.walk Try.func49 rfl 28 0 (by simp [Try.ntmps49]) rfl fun W S F Q hQ => ?_)
  unfold num_Product at hR
  refine AWP.sq ?_
  refine AWP.rgC 4 rfl rfl ?_
  refine al (cs := [.sc (.int .i64 0), .sc (.int .u64 0)]) 0 rfl rfl ti100 rfl rfl ?_
  refine RunC.fin ?_
  refine AWP.sq ?_
  refine AWP.rgC 44 rfl rfl ?_
  refine pu (v := .sc _) rfl rfl (fun _ => rfl) ?_
  obtain ⟨r1, hr1, hR⟩ := bindE hR
  refine cls [] rfl rfl cb58 (ok58 a _ hr1) (.cons (.sc _) (.nil)) (.inr rfl) rfl ?_
  refine pu (v := .sc _) rfl rfl (fun _ => rfl) ?_
  obtain ⟨r2, hr2, hR⟩ := bindE hR
  refine cls [] rfl rfl cb58 (ok58 b _ hr2) (.cons (.sc _) (.nil)) (.inr rfl) rfl ?_
  obtain ⟨r3, hr3, hR⟩ := bindE hR
  refine cls [] rfl rfl cb57 (ok57 r1.n r2.n _ hr3) (.cons (.sc _) (.cons (.sc _) (.nil))) (.inr rfl) rfl ?_
  refine pu (v := .tup _) rfl rfl (fun _ => rfl) ?_
  refine pu (v := .sc _) rfl rfl (fun _ => rfl) ?_
  refine pu (v := .sc _) rfl rfl (fun _ => rfl) ?_
  refine pu (v := .sc _) rfl rfl (fun _ => rfl) ?_
  refine pu (v := .sc _) rfl rfl (fun _ => rfl) ?_
  refine RunC.fin ?_
  refine AWP.sq ?_
  refine AWP.rgC 68 rfl rfl ?_
  refine pu (v := .sc _) rfl rfl (fun _ => rfl) ?_
  refine cn rfl rfl ti98 rfl ti2 rfl rfl ?_
  refine pu (v := .sc _) rfl rfl (fun _ => rfl) ?_
  refine bu (cs := [.sc (.int .i64 (w6 r3.1.n)), .sc (.int .u64 r3.2.n)]) rfl bt100 rfl ?_
  refine al (cs := [.sc (.int .i64 0), .sc (.int .u64 0)]) 60 rfl rfl ti100 rfl rfl ?_
  refine stB (cs' := [.sc (.int .i64 (w6 r3.1.n)), .sc (.int .u64 r3.2.n)]) rfl rfl rfl rfl ti100 rfl rfl rfl rfl rfl ?_
  refine RunC.fin ?_
  refine AWP.sq ?_
  refine AWP.sq ?_
  refine AWP.rgC 88 rfl rfl ?_
  refine pu (v := .sc _) rfl rfl (fun _ => rfl) ?_
  refine pu (v := .sc _) rfl rfl (fun _ => rfl) ?_
  refine pu (v := .sc _) rfl rfl (fun _ => rfl) ?_
  refine pu (v := .sc _) rfl rfl (fun _ => rfl) ?_
  refine nb rfl rfl rfl ti4 rfl rfl ?_
  refine RunC.fin ?_
  refine AWP.cd hR rfl (fun h4 hR => ?_) fun h4 hR => ?_
  · refine AWP.sq ?_
    refine AWP.rgC 100 rfl rfl ?_
    refine ldB (v := .agg _) rfl rfl rfl rfl ti100 rfl rfl ?_
    obtain ⟨r5, hr5, hR⟩ := bindE hR
    refine cls [] rfl rfl cb59 (ok59 (num_Wide.mk (w6 r3.1.n) r3.2) _ hr5) (.cons (.agg (.cons (.sc _) (.cons (.sc _) (.nil))) rfl) (.nil)) (.inr rfl) rfl ?_
    refine stB (cs' := [.sc (.int .i64 r5.Hi), .sc (.int .u64 r5.Lo.n)]) rfl rfl rfl rfl ti100 rfl rfl rfl rfl rfl ?_
    refine RunC.fin ?_
    refine AWP.ret ?_
    refine rtT ?_
    have hR := Option.some.inj hR; subst hR
    exact hQ _ _ (LS.mk [(4, .ptr 0 0 0)] (lblks 0 [boxB (α := num_Wide) true r5]) 1) (aggV (α := num_Wide) true r5) [] (.inr rfl) (Weak.turnL [(0, 0)] [] rfl rfl (tc (trP' rfl rfl rfl rfl) tn) (mc rfl (.box rfl (.cons (.sc _) (.cons (.sc _) (.nil))) rfl) mn)) (ro1 (rvC (v := aggV (α := num_Wide) true r5) rfl rfl ti100 rfl)) rfl rfl ldA pn
  · refine AWP.skip ?_
    refine skT ?_
    refine AWP.sq ?_
    refine AWP.rgC 96 rfl rfl ?_
    refine ldB (v := .agg _) rfl rfl rfl rfl ti100 rfl rfl ?_
    refine stB (cs' := [.sc (.int .i64 (w6 r3.1.n)), .sc (.int .u64 r3.2.n)]) rfl rfl rfl rfl ti100 rfl rfl rfl rfl rfl ?_
    refine RunC.fin ?_
    refine AWP.ret ?_
    have hR := Option.some.inj hR; subst hR
    exact hQ _ _ (LS.mk [(4, .ptr 0 0 0)] (lblks 0 [boxB (α := num_Wide) true (num_Wide.mk (w6 r3.1.n) r3.2)]) 1) (aggV (α := num_Wide) true (num_Wide.mk (w6 r3.1.n) r3.2)) [] (.inr rfl) (Weak.turnL [(0, 0)] [] rfl rfl (tc (trP' rfl rfl rfl rfl) tn) (mc rfl (.box rfl (.cons (.sc _) (.cons (.sc _) (.nil))) rfl) mn)) (ro1 (rvC (v := aggV (α := num_Wide) true (num_Wide.mk (w6 r3.1.n) r3.2)) rfl rfl ti100 rfl)) rfl rfl ldA pn
theorem ok54 (a : Int) (b : Int) (c : Int) (r : Int × Int) (hR : num_MulDiv a b c = some r) : FnP Try.prog 54 [.sc (.int .i64 a), .sc (.int .i64 b), .sc (.int .i64 c)] (.tup [.sc (.int .i64 r.1), .sc (.int .i64 r.2)]) := by
  refine fnP_of (FnX.walk Try.func54 rfl 15 0 (by simp [Try.ntmps54]) rfl fun W S F Q hQ => ?_)
  unfold num_MulDiv at hR
  refine AWP.sq ?_
  refine AWP.rgC 8 rfl rfl ?_
  refine pu (v := .sc _) rfl rfl (fun _ => rfl) ?_
  refine pu (v := .sc _) rfl rfl (fun _ => rfl) ?_
  refine RunC.fin ?_
  refine AWP.sq ?_
  refine AWP.rgC 44 rfl rfl ?_
  refine pu (v := .sc _) rfl rfl (fun _ => rfl) ?_
  refine pu (v := .sc _) rfl rfl (fun _ => rfl) ?_
  obtain ⟨r1, hr1, hR⟩ := bindE hR
  refine cls [] rfl rfl cb49 (ok49 a b _ hr1) (.cons (.sc _) (.cons (.sc _) (.nil))) (.inr rfl) rfl ?_
  refine pu (v := .sc _) rfl rfl (fun _ => rfl) ?_
  obtain ⟨r2, hr2, hR⟩ := bindE hR
  refine cls [] rfl rfl cb66 (ok66 r1 c _ hr2) (.cons (.agg (.cons (.sc _) (.cons (.sc _) (.nil))) rfl) (.cons (.sc _) (.nil))) (.inr rfl) rfl ?_
  refine pu (v := .sc _) rfl rfl (fun _ => rfl) ?_
  refine pu (v := .sc _) rfl rfl (fun _ => rfl) ?_
  refine pu (v := .sc _) rfl rfl (fun _ => rfl) ?_
  refine pu (v := .sc _) rfl rfl (fun _ => rfl) ?_
  refine RunC.fin ?_
  refine AWP.ret ?_
  have hR := Option.some.inj hR; subst hR
  exact hQ _ _ (LS.mk [(6, .sc (.int .i64 r2.1)), (7, .sc (.int .i64 r2.2))] (lblks 0 []) 0) (.tup [.sc (.int .i64 r2.1), .sc (.int .i64 r2.2)]) [] (.inr rfl) (Weak.turnL [] [] rfl rfl (tc (.sc _) (tc (.sc _) tn)) mn) (ro2 (rvT (v := .sc (.int .i64 r2.1)) rfl) (rvT (v := .sc (.int .i64 r2.2)) rfl)) rfl rfl (.tup (.cons (.sc _) (.cons (.sc _) .nil))) pn
theorem ok65 (a : Int) (b : Int) (r : Int) (hR : num_SqrtMul a b = some r) : FnP Try.prog 65 [.sc (.int .i64 a), .sc (.int .i64 b)] (.sc (.int .i64 r)) := by
  refine fnP_of (FnX.walk Try.func65 rfl 57 0 (by simp [Try.ntmps65]) rfl fun W S F Q hQ => ?_)
  unfold num_SqrtMul at hR
  refine AWP.sq ?_
  refine AWP.rgC 4 rfl rfl ?_
  refine pu (v := .sc _) rfl rfl (fun _ => rfl) ?_
  refine RunC.fin ?_
  refine AWP.sq ?_
  refine AWP.joinX (fun z1 : Bool => LS.mk [(0, .sc (.int .i64 a)), (1, .sc (.int .i64 b)), (16, .sc (.bool z1))] (lblks 0 []) 0) hR (fun o1 hR => ?_) fun z1 hR => ?_
  · refine AWP.rgC 28 rfl rfl ?_
    refine pu (v := .sc _) rfl rfl (fun _ => rfl) ?_
    refine pu (v := .sc _) rfl rfl (fun _ => rfl) ?_
    refine pu (v := .sc _) rfl rfl (fun _ => rfl) ?_
    refine brR hR (fun h2 hR => ?_) fun h2 hR => ?_
    · refine sk (skW rfl rfl rfl h2) ?_
      refine sk (skW rfl rfl rfl h2) ?_
      refine pkT (v := .sc (.bool true)) rfl rfl h2 rfl ?_
      refine RunC.fin ?_
      have hR := Option.some.inj hR; subst hR
      exact Weak.turnL [] [] rfl rfl (tc (.sc _) (tc (.sc _) (tc (.sc _) tn))) mn
    · refine pu (v := .sc _) (wtG rfl rfl rfl h2) rfl (fun _ => rfl) ?_
      refine pu (v := .sc _) (wtG rfl rfl rfl h2) rfl (fun _ => rfl) ?_
      refine pkF (v := .sc (.bool (decide (b < 0)))) rfl rfl h2 rfl ?_
      refine RunC.fin ?_
      have hR := Option.some.inj hR; subst hR
      exact Weak.turnL [] [] rfl rfl (tc (.sc _) (tc (.sc _) (tc (.sc _) tn))) mn
  · refine AWP.cd hR rfl (fun h3 hR => ?_) fun h3 hR => ?_
    · refine AWP.sq ?_
      refine AWP.rgC 4 rfl rfl ?_
      refine pu (v := .sc _) rfl rfl (fun _ => rfl) ?_
      refine RunC.fin ?_
      refine AWP.ret ?_
      refine rtT ?_
      have hR := Option.some.inj hR; subst hR
      exact hQ _ _ (LS.mk [(4, .sc (.int .i64 0))] (lblks 0 []) 0) (.sc (.int .i64 0)) [] (.inr rfl) (Weak.turnL [] [] rfl rfl (tc (.sc _) tn) mn) (ro1 (rvT (v := .sc (.int .i64 0)) rfl)) rfl rfl (.sc _) pn
    · refine AWP.skip ?_
      refine skT ?_
      refine AWP.sq ?_
      refine AWP.rgC 40 rfl rfl ?_
      refine pu (v := .sc _) rfl rfl (fun _ => rfl) ?_
      refine cn rfl rfl ti2 rfl ti98 rfl rfl ?_
      refine pu (v := .sc _) rfl rfl (fun _ => rfl) ?_
      refine cn rfl rfl ti2 rfl ti98 rfl rfl ?_
      obtain ⟨r4, hr4, hR⟩ := bindE hR
      refine cls [] rfl rfl cb57 (ok57 (IntKind.wrap .u64 a) (IntKind.wrap .u64 b) _ hr4) (.cons (.sc _) (.cons (.sc _) (.nil))) (.inr rfl) rfl ?_
      refine pu (v := .tup _) rfl rfl (fun _ => rfl) ?_
      refine pu (v := .sc _) rfl rfl (fun _ => rfl) ?_
      refine pu (v := .sc _) rfl rfl (fun _ => rfl) ?_
      refine pu (v := .sc _) rfl rfl (fun _ => rfl) ?_
      refine pu (v := .sc _) rfl rfl (fun _ => rfl) ?_
      refine RunC.fin ?_
      refine AWP.sq ?_
      refine AWP.rgC 44 rfl rfl ?_
      refine pu (v := .sc _) rfl rfl (fun _ => rfl) ?_
      refine RunC.fin ?_
      refine AWP.sq ?_
      refine AWP.sq ?_
      refine AWP.rgC 48 rfl rfl ?_
      refine pu (v := .sc _) rfl rfl (fun _ => rfl) ?_
      refine RunC.fin ?_
      refine AWP.loopJ (fun s5 : Int × Int => LS.mk [(5, .sc (.int .u64 r4.1.n)), (6, .sc (.int .u64 r4.2.n)), (7, .sc (.int .u64 s5.1)), (8, .sc (.int .u64 s5.2))] (lblks 0 []) 0) (fun z6 : Int => LS.mk [(7, .sc (.int .u64 z6))] (lblks 0 []) 0) (num_SqrtMul.l1 r4) hR (s0 := (0, 4611686018427387904)) (Weak.turnL [] [] rfl rfl (tc (.sc _) (tc (.sc _) (tc (.sc _) (tc (.sc _) tn)))) mn) (fun s5 o5 hR => ?_) fun z6 hR => ?_
      · unfold num_SqrtMul.l1 at hR
        refine AWP.sq ?_
        refine AWP.sq ?_
        refine AWP.rgC 8 rfl rfl ?_
        refine pu (v := .sc _) rfl rfl (fun _ => rfl) ?_
        refine pu (v := .sc _) rfl rfl (fun _ => rfl) ?_
        refine RunC.fin ?_
        refine AWP.cd hR rfl (fun h7 hR => ?_) fun h7 hR => ?_
        · refine AWP.skip ?_
          refine skT ?_
          refine AWP.joinX (fun z8 : Int => LS.mk [(5, .sc (.int .u64 r4.1.n)), (6, .sc (.int .u64 r4.2.n)), (7, .sc (.int .u64 z8)), (8, .sc (.int .u64 s5.2))] (lblks 0 []) 0) hR (fun o8 hR => ?_) fun z8 hR => ?_
          · refine AWP.block ?_
            refine AWP.sq ?_
            refine AWP.rgC 56 rfl rfl ?_
            refine pu (v := .sc _) rfl rfl (fun _ => rfl) ?_
            refine pu (v := .sc _) rfl rfl (fun _ => rfl) ?_
            obtain ⟨v9, ev9, hR⟩ := letE hR
            refine pu (v := .sc _) rfl rfl (fun _ => puI ev9) ?_
            refine pu (v := .sc _) rfl rfl (fun _ => rfl) ?_
            refine pu (v := .sc _) rfl rfl (fun _ => rfl) ?_
            obtain ⟨v10, ev10, hR⟩ := letE hR
            refine pu (v := .sc _) rfl rfl (fun _ => puI ev10) ?_
            obtain ⟨r11, hr11, hR⟩ := bindE hR
            refine cls [] rfl rfl cb57 (ok57 v9 v10 _ hr11) (.cons (.sc _) (.cons (.sc _) (.nil))) (.inr rfl) rfl ?_
            refine pu (v := .tup _) rfl rfl (fun _ => rfl) ?_
            refine pu (v := .sc _) rfl rfl (fun _ => rfl) ?_
            refine pu (v := .sc _) rfl rfl (fun _ => rfl) ?_
            refine pu (v := .sc _) rfl rfl (fun _ => rfl) ?_
            refine pu (v := .sc _) rfl rfl (fun _ => rfl) ?_
            refine RunC.fin ?_
            refine AWP.joinX (fun z12 : Bool => LS.mk [(5, .sc (.int .u64 r4.1.n)), (6, .sc (.int .u64 r4.2.n)), (7, .sc (.int .u64 s5.1)), (8, .sc (.int .u64 s5.2)), (51, .sc (.bool z12))] (lblks 0 []) 0) hR (fun o12 hR => ?_) fun z12 hR => ?_
            · refine AWP.rgC 108 rfl rfl ?_
              refine pu (v := .sc _) rfl rfl (fun _ => rfl) ?_
              refine pu (v := .sc _) rfl rfl (fun _ => rfl) ?_
              refine pu (v := .sc _) rfl rfl (fun _ => rfl) ?_
              refine pu (v := .sc _) rfl rfl (fun _ => rfl) ?_
              refine brR hR (fun h13 hR => ?_) fun h13 hR => ?_
              · refine sk (skW rfl rfl rfl h13) ?_
                refine sk (skW rfl rfl rfl h13) ?_
                refine sk (skW rfl rfl rfl h13) ?_
                refine sk (skW rfl rfl rfl h13) ?_
                refine sk (skW2 rfl rfl rfl) ?_
                refine sk (skW2 rfl rfl rfl) ?_
                refine sk (skW2 rfl rfl rfl) ?_
                refine sk (skW rfl rfl rfl h13) ?_
                refine pkT (v := .sc (.bool true)) rfl rfl h13 rfl ?_
                refine RunC.fin ?_
                have hR := Option.some.inj hR; subst hR
                exact Weak.turnL [] [] rfl rfl (tc (.sc _) (tc (.sc _) (tc (.sc _) (tc (.sc _) (tc (.sc _) tn))))) mn
              · refine pu (v := .sc _) (wtG rfl rfl rfl h13) rfl (fun _ => rfl) ?_
                refine pu (v := .sc _) (wtG rfl rfl rfl h13) rfl (fun _ => rfl) ?_
                refine pu (v := .sc _) (wtG rfl rfl rfl h13) rfl (fun _ => rfl) ?_
                refine pu (v := .sc _) (wtG rfl rfl rfl h13) rfl (fun _ => rfl) ?_
                refine brR hR (fun h14 hR => ?_) fun h14 hR => ?_
                · refine pu (v := .sc _) (wtG rfl rfl rfl h14) rfl (fun _ => rfl) ?_
                  refine pu (v := .sc _) (wtG rfl rfl rfl h14) rfl (fun _ => rfl) ?_
                  refine pu (v := .sc _) (wtG rfl rfl rfl h14) rfl (fun _ => rfl) ?_
                  refine pkT (v := .sc (.bool (decide (r11.2.n ≤ r4.2.n)))) (wtG rfl rfl rfl h13) rfl h14 rfl ?_
                  refine pkF (v := .sc (.bool (decide (r11.2.n ≤ r4.2.n)))) rfl rfl h13 rfl ?_
                  refine RunC.fin ?_
                  have hR := Option.some.inj hR; subst hR
                  exact Weak.turnL [] [] rfl rfl (tc (.sc _) (tc (.sc _) (tc (.sc _) (tc (.sc _) (tc (.sc _) tn))))) mn
                · refine sk (skW rfl rfl rfl h14) ?_
                  refine sk (skW rfl rfl rfl h14) ?_
                  refine sk (skW rfl rfl rfl h14) ?_
                  refine pkF (v := .sc (.bool false)) (wtG rfl rfl rfl h13) rfl h14 rfl ?_
                  refine pkF (v := .sc (.bool false)) rfl rfl h13 rfl ?_
                  refine RunC.fin ?_
                  have hR := Option.some.inj hR; subst hR
                  exact Weak.turnL [] [] rfl rfl (tc (.sc _) (tc (.sc _) (tc (.sc _) (tc (.sc _) (tc (.sc _) tn))))) mn
            · refine AWP.cd hR rfl (fun h15 hR => ?_) fun h15 hR => ?_
              · refine AWP.rgC 16 rfl rfl ?_
                refine pu (v := .sc _) rfl rfl (fun _ => rfl) ?_
                refine pu (v := .sc _) rfl rfl (fun _ => rfl) ?_
                obtain ⟨v16, ev16, hR⟩ := letE hR
                refine pu (v := .sc _) rfl rfl (fun _ => puI ev16) ?_
                refine pu (v := .sc _) rfl rfl (fun _ => rfl) ?_
                refine RunC.blk ?_
                refine RunC.fin ?_
                have hR := Option.some.inj hR; subst hR
                exact Weak.turnL [] [] rfl rfl (tc (.sc _) (tc (.sc _) (tc (.sc _) (tc (.sc _) tn)))) mn
              · refine AWP.skip ?_
                refine skB ?_
                refine skT ?_
                have hR := Option.some.inj hR; subst hR
                exact Weak.turnL [] [] rfl rfl (tc (.sc _) (tc (.sc _) (tc (.sc _) (tc (.sc _) tn)))) mn
          · refine AWP.rgC 12 rfl rfl ?_
            refine pu (v := .sc _) rfl rfl (fun _ => rfl) ?_
            refine pu (v := .sc _) rfl rfl (fun _ => rfl) ?_
            refine pu (v := .sc _) rfl rfl (fun _ => rfl) ?_
            refine RunC.fin ?_
            refine ⟨(z8, Int.fdiv s5.2 (2 ^ 1)), (Option.some.inj hR).symm, ?_⟩
            exact Weak.turnL [] [] rfl rfl (tc (.sc _) (tc (.sc _) (tc (.sc _) (tc (.sc _) tn)))) mn
        · refine AWP.exit ?_
          refine exT ?_
          refine exT ?_
          refine exH (skT ?_)
          refine ⟨s5.1, (Option.some.inj hR).symm, ?_⟩
          exact Weak.turnL [] [] rfl rfl (tc (.sc _) tn) mn
      · refine skT ?_
        refine AWP.sq ?_
        refine AWP.rgC 12 rfl rfl ?_
        refine pu (v := .sc _) rfl rfl (fun _ => rfl) ?_
        refine cn rfl rfl ti98 rfl ti2 rfl rfl ?_
        refine pu (v := .sc _) rfl rfl (fun _ => rfl) ?_
        refine RunC.fin ?_
        refine AWP.ret ?_
        have hR := Option.some.inj hR; subst hR
        exact hQ _ _ (LS.mk [(4, .sc (.int .i64 (w6 z6)))] (lblks 0 []) 0) (.sc (.int .i64 (w6 z6))) [] (.inr rfl) (Weak.turnL [] [] rfl rfl (tc (.sc _) tn) mn) (ro1 (rvT (v := .sc (.int .i64 (w6 z6))) rfl)) rfl rfl (.sc _) pn
theorem ok60 (vals : List Int) (r : Int) (hR : cmp_Or vals = some r) : FnP Try.prog 60 [rowV false vals] (.sc (.int .i64 r)) := by
  refine fnP_of (FnX.walk Try.func60 rfl 18 0 (by simp [Try.ntmps60]) rfl fun W S F Q hQ => ?_)
  unfold cmp_Or at hR
  refine AWP.sq ?_
  refine AWP.rgC 4 rfl rfl ?_
  refine pu (v := .sc _) rfl rfl (fun _ => rfl) ?_
  refine RunC.fin ?_
  refine AWP.sq ?_
  refine AWP.rgC 8 rfl rfl ?_
  refine pu (v := .sc _) rfl rfl (fun _ => rfl) ?_
  refine RunC.fin ?_
  refine AWP.sq ?_
  refine AWP.sq ?_
  refine AWP.rgC 20 rfl rfl ?_
  refine pu (v := rowV _ vals) rfl rfl (fun _ => rfl) ?_
  refine lenL (α := Int) rfl rfl ti22 rfl ?_
  refine pu (v := .sc _) rfl rfl (fun _ => rfl) ?_
  refine RunC.fin ?_
  refine AWP.loopK' (fun s1 : Int => LS.mk [(3, .sc (.int .i64 0)), (6, rowV (α := Int) false vals), (7, .sc (.int .i64 (vals.length : Int))), (8, .sc (.int .i64 s1))] (lblks 0 []) 0) (fun z2 : Unit => LS.mk [(3, .sc (.int .i64 0))] (lblks 0 []) 0) (cmp_Or.l1 vals) hR (s0 := 0) (Weak.turnL [] [] rfl rfl (tc (.sc _) (tc trR1 (tc (.sc _) (tc (.sc _) tn)))) mn) (fun s1 o1 hR hE1 => ?_) fun z2 hR => ?_
  · unfold cmp_Or.l1 at hR
    refine AWP.sq ?_
    refine AWP.rgC 4 rfl rfl ?_
    refine pu (v := .sc _) rfl rfl (fun _ => rfl) ?_
    refine RunC.fin ?_
    refine AWP.sq ?_
    refine AWP.cd hR rfl (fun h3 hR => ?_) fun h3 hR => ?_
    · refine AWP.skip ?_
      refine skT ?_
      refine AWP.sq ?_
      refine AWP.block ?_
      refine AWP.sq ?_
      refine AWP.rgC 16 rfl rfl ?_
      obtain ⟨h4, hR⟩ := chkE hR
      refine ixL (α := Int) rfl rfl rfl ti22 rfl ti3 rfl h4 ?_
      refine ldR (v := .sc _) rfl rfl ti3 rfl ?_
      refine pu (v := .sc _) rfl rfl (fun _ => rfl) ?_
      refine RunC.fin ?_
      refine AWP.sq ?_
      refine AWP.rgC 28 rfl rfl ?_
      refine pu (v := .sc _) rfl rfl (fun _ => rfl) ?_
      refine pu (v := .sc _) rfl rfl (fun _ => rfl) ?_
      refine pu (v := .sc _) rfl rfl (fun _ => rfl) ?_
      refine RunC.fin ?_
      refine AWP.cd hR rfl (fun h5 hR => ?_) fun h5 hR => ?_
      · refine AWP.sq ?_
        refine AWP.rgC 36 rfl rfl ?_
        refine pu (v := .sc _) rfl rfl (fun _ => rfl) ?_
        refine pu (v := .sc _) rfl rfl (fun _ => rfl) ?_
        refine RunC.fin ?_
        refine AWP.ret ?_
        refine rtB ?_
        refine rtT ?_
        refine rtT ?_
        refine rtB (rtT ?_)
        replace hR := escL hR hE1
        refine rtT ?_
        have hR := Option.some.inj hR; subst hR
        exact hQ _ _ (LS.mk [(2, .sc (.int .i64 (gt vals s1)))] (lblks 0 []) 0) (.sc (.int .i64 (gt vals s1))) [] (.inr rfl) (Weak.turnL [] [] rfl rfl (tc (.sc _) tn) mn) (ro1 (rvT (v := .sc (.int .i64 (gt vals s1))) rfl)) rfl rfl (.sc _) pn
      · refine AWP.skip ?_
        refine skB ?_
        refine skT ?_
        refine AWP.rgC 36 rfl rfl ?_
        refine pu (v := .sc _) rfl rfl (fun _ => rfl) ?_
        refine pu (v := .sc _) rfl rfl (fun _ => rfl) ?_
        refine RunC.fin ?_
        refine ⟨(w6 (s1 + 1)), (Option.some.inj hR).symm, ?_⟩
        exact Weak.turnL [] [] rfl rfl (tc (.sc _) (tc trR1 (tc (.sc _) (tc (.sc _) tn)))) mn
    · refine AWP.exit ?_
      refine exT ?_
      refine exT ?_
      refine exH (skT ?_)
      refine ⟨(), (Option.some.inj hR).symm, ?_⟩
      exact Weak.turnL [] [] rfl rfl (tc (.sc _) tn) mn
  · refine skT ?_
    refine AWP.sq ?_
    refine AWP.rgC 8 rfl rfl ?_
    refine pu (v := .sc _) rfl rfl (fun _ => rfl) ?_
    refine pu (v := .sc _) rfl rfl (fun _ => rfl) ?_
    refine RunC.fin ?_
    refine AWP.ret ?_
    have hR := Option.some.inj hR; subst hR
    exact hQ _ _ (LS.mk [(2, .sc (.int .i64 0))] (lblks 0 []) 0) (.sc (.int .i64 0)) [] (.inr rfl) (Weak.turnL [] [] rfl rfl (tc (.sc _) tn) mn) (ro1 (rvT (v := .sc (.int .i64 0)) rfl)) rfl rfl (.sc _) pn
theorem ok62 (x : Int) (y : Int) (r : Int) (hR : cmp_Compare x y = some r) : FnP Try.prog 62 [.sc (.int .u64 x), .sc (.int .u64 y)] (.sc (.int .i64 r)) := by
  refine fnP_of (FnX.walk Try.func62 rfl 20 0 (by simp [Try.ntmps62]) rfl fun W S F Q hQ => ?_)
  unfold cmp_Compare at hR
  refine AWP.sq ?_
  refine AWP.rgC 4 rfl rfl ?_
  refine pu (v := .sc _) rfl rfl (fun _ => rfl) ?_
  refine RunC.fin ?_
  refine AWP.sq ?_
  refine AWP.rgC 16 rfl rfl ?_
  refine pu (v := .sc _) rfl rfl (fun _ => rfl) ?_
  obtain ⟨r1, hr1, hR⟩ := bindE hR
  refine cls [] rfl rfl cb69 (ok69 x _ hr1) (.cons (.sc _) (.nil)) (.inr rfl) rfl ?_
  refine pu (v := .sc _) rfl rfl (fun _ => rfl) ?_
  refine RunC.fin ?_
  refine AWP.sq ?_
  refine AWP.rgC 28 rfl rfl ?_
  refine pu (v := .sc _) rfl rfl (fun _ => rfl) ?_
  obtain ⟨r2, hr2, hR⟩ := bindE hR
  refine cls [] rfl rfl cb69 (ok69 y _ hr2) (.cons (.sc _) (.nil)) (.inr rfl) rfl ?_
  refine pu (v := .sc _) rfl rfl (fun _ => rfl) ?_
  refine RunC.fin ?_
  refine AWP.sq ?_
  refine AWP.sq ?_
  refine AWP.rgC 32 rfl rfl ?_
  refine pu (v := .sc _) rfl rfl (fun _ => rfl) ?_
  refine RunC.fin ?_
  refine AWP.cd hR rfl (fun h3 hR => ?_) fun h3 hR => ?_
  · refine AWP.sq ?_
    refine AWP.sq ?_
    refine AWP.rgC 36 rfl rfl ?_
    refine pu (v := .sc _) rfl rfl (fun _ => rfl) ?_
    refine RunC.fin ?_
    refine AWP.cd hR rfl (fun h4 hR => ?_) fun h4 hR => ?_
    · refine AWP.sq ?_
      refine AWP.rgC 40 rfl rfl ?_
      refine pu (v := .sc _) rfl rfl (fun _ => rfl) ?_
      refine RunC.fin ?_
      refine AWP.ret ?_
      refine rtT ?_
      refine rtT ?_
      have hR := Option.some.inj hR; subst hR
      exact hQ _ _ (LS.mk [(4, .sc (.int .i64 0))] (lblks 0 []) 0) (.sc (.int .i64 0)) [] (.inr rfl) (Weak.turnL [] [] rfl rfl (tc (.sc _) tn) mn) (ro1 (rvT (v := .sc (.int .i64 0)) rfl)) rfl rfl (.sc _) pn
    · refine AWP.skip ?_
      refine skT ?_
      refine AWP.sq ?_
      refine AWP.rgC 40 rfl rfl ?_
      refine pu (v := .sc _) rfl rfl (fun _ => rfl) ?_
      refine RunC.fin ?_
      refine AWP.ret ?_
      refine rtT ?_
      have hR := Option.some.inj hR; subst hR
      exact hQ _ _ (LS.mk [(4, .sc (.int .i64 (-1)))] (lblks 0 []) 0) (.sc (.int .i64 (-1))) [] (.inr rfl) (Weak.turnL [] [] rfl rfl (tc (.sc _) tn) mn) (ro1 (rvT (v := .sc (.int .i64 (-1))) rfl)) rfl rfl (.sc _) pn
  · refine AWP.skip ?_
    refine skT ?_
    refine AWP.sq ?_
    refine AWP.sq ?_
    refine AWP.rgC 36 rfl rfl ?_
    refine pu (v := .sc _) rfl rfl (fun _ => rfl) ?_
    refine RunC.fin ?_
    refine AWP.cd hR rfl (fun h5 hR => ?_) fun h5 hR => ?_
    · refine AWP.sq ?_
      refine AWP.rgC 40 rfl rfl ?_
      refine pu (v := .sc _) rfl rfl (fun _ => rfl) ?_
      refine RunC.fin ?_
      refine AWP.ret ?_
      refine rtT ?_
      have hR := Option.some.inj hR; subst hR
      exact hQ _ _ (LS.mk [(4, .sc (.int .i64 1))] (lblks 0 []) 0) (.sc (.int .i64 1)) [] (.inr rfl) (Weak.turnL [] [] rfl rfl (tc (.sc _) tn) mn) (ro1 (rvT (v := .sc (.int .i64 1)) rfl)) rfl rfl (.sc _) pn
    · refine AWP.skip ?_
      refine skT ?_
      refine AWP.sq ?_
      refine AWP.sq ?_
      refine AWP.rgC 48 rfl rfl ?_
      refine pu (v := .sc _) rfl rfl (fun _ => rfl) ?_
      refine pu (v := .sc _) rfl rfl (fun _ => rfl) ?_
      refine pu (v := .sc _) rfl rfl (fun _ => rfl) ?_
      refine RunC.fin ?_
      refine AWP.cd hR rfl (fun h6 hR => ?_) fun h6 hR => ?_
      · refine AWP.sq ?_
        refine AWP.rgC 52 rfl rfl ?_
        refine pu (v := .sc _) rfl rfl (fun _ => rfl) ?_
        refine RunC.fin ?_
        refine AWP.ret ?_
        refine rtT ?_
        have hR := Option.some.inj hR; subst hR
        exact hQ _ _ (LS.mk [(4, .sc (.int .i64 (-1)))] (lblks 0 []) 0) (.sc (.int .i64 (-1))) [] (.inr rfl) (Weak.turnL [] [] rfl rfl (tc (.sc _) tn) mn) (ro1 (rvT (v := .sc (.int .i64 (-1))) rfl)) rfl rfl (.sc _) pn
      · refine AWP.skip ?_
        refine skT ?_
        refine AWP.sq ?_
        refine AWP.sq ?_
        refine AWP.rgC 60 rfl rfl ?_
        refine pu (v := .sc _) rfl rfl (fun _ => rfl) ?_
        refine pu (v := .sc _) rfl rfl (fun _ => rfl) ?_
        refine pu (v := .sc _) rfl rfl (fun _ => rfl) ?_
        refine RunC.fin ?_
        refine AWP.cd hR rfl (fun h7 hR => ?_) fun h7 hR => ?_
        · refine AWP.sq ?_
          refine AWP.rgC 64 rfl rfl ?_
          refine pu (v := .sc _) rfl rfl (fun _ => rfl) ?_
          refine RunC.fin ?_
          refine AWP.ret ?_
          refine rtT ?_
          have hR := Option.some.inj hR; subst hR
          exact hQ _ _ (LS.mk [(4, .sc (.int .i64 1))] (lblks 0 []) 0) (.sc (.int .i64 1)) [] (.inr rfl) (Weak.turnL [] [] rfl rfl (tc (.sc _) tn) mn) (ro1 (rvT (v := .sc (.int .i64 1)) rfl)) rfl rfl (.sc _) pn
        · refine AWP.skip ?_
          refine skT ?_
          refine AWP.sq ?_
          refine AWP.rgC 64 rfl rfl ?_
          refine pu (v := .sc _) rfl rfl (fun _ => rfl) ?_
          refine RunC.fin ?_
          refine AWP.ret ?_
          have hR := Option.some.inj hR; subst hR
          exact hQ _ _ (LS.mk [(4, .sc (.int .i64 0))] (lblks 0 []) 0) (.sc (.int .i64 0)) [] (.inr rfl) (Weak.turnL [] [] rfl rfl (tc (.sc _) tn) mn) (ro1 (rvT (v := .sc (.int .i64 0)) rfl)) rfl rfl (.sc _) pn
theorem ok61 (x : Int) (y : Int) (r : Int) (hR : cmp_Compare x y = some r) : FnP Try.prog 61 [.sc (.int .i64 x), .sc (.int .i64 y)] (.sc (.int .i64 r)) := by
  refine fnP_of (FnX.walk Try.func61 rfl 20 0 (by simp [Try.ntmps61]) rfl fun W S F Q hQ => ?_)
  unfold cmp_Compare at hR
  refine AWP.sq ?_
  refine AWP.rgC 4 rfl rfl ?_
  refine pu (v := .sc _) rfl rfl (fun _ => rfl) ?_
  refine RunC.fin ?_
  refine AWP.sq ?_
  refine AWP.rgC 16 rfl rfl ?_
  refine pu (v := .sc _) rfl rfl (fun _ => rfl) ?_
  obtain ⟨r1, hr1, hR⟩ := bindE hR
  refine cls [] rfl rfl cb68 (ok68 x _ hr1) (.cons (.sc _) (.nil)) (.inr rfl) rfl ?_
  refine pu (v := .sc _) rfl rfl (fun _ => rfl) ?_
  refine RunC.fin ?_
  refine AWP.sq ?_
  refine AWP.rgC 28 rfl rfl ?_
  refine pu (v := .sc _) rfl rfl (fun _ => rfl) ?_
  obtain ⟨r2, hr2, hR⟩ := bindE hR
  refine cls [] rfl rfl cb68 (ok68 y _ hr2) (.cons (.sc _) (.nil)) (.inr rfl) rfl ?_
  refine pu (v := .sc _) rfl rfl (fun _ => rfl) ?_
  refine RunC.fin ?_
  refine AWP.sq ?_
  refine AWP.sq ?_
  refine AWP.rgC 32 rfl rfl ?_
  refine pu (v := .sc _) rfl rfl (fun _ => rfl) ?_
  refine RunC.fin ?_
  refine AWP.cd hR rfl (fun h3 hR => ?_) fun h3 hR => ?_
  · refine AWP.sq ?_
    refine AWP.sq ?_
    refine AWP.rgC 36 rfl rfl ?_
    refine pu (v := .sc _) rfl rfl (fun _ => rfl) ?_
    refine RunC.fin ?_
    refine AWP.cd hR rfl (fun h4 hR => ?_) fun h4 hR => ?_
    · refine AWP.sq ?_
      refine AWP.rgC 40 rfl rfl ?_
      refine pu (v := .sc _) rfl rfl (fun _ => rfl) ?_
      refine RunC.fin ?_
      refine AWP.ret ?_
      refine rtT ?_
      refine rtT ?_
      have hR := Option.some.inj hR; subst hR
      exact hQ _ _ (LS.mk [(4, .sc (.int .i64 0))] (lblks 0 []) 0) (.sc (.int .i64 0)) [] (.inr rfl) (Weak.turnL [] [] rfl rfl (tc (.sc _) tn) mn) (ro1 (rvT (v := .sc (.int .i64 0)) rfl)) rfl rfl (.sc _) pn
    · refine AWP.skip ?_
      refine skT ?_
      refine AWP.sq ?_
      refine AWP.rgC 40 rfl rfl ?_
      refine pu (v := .sc _) rfl rfl (fun _ => rfl) ?_
      refine RunC.fin ?_
      refine AWP.ret ?_
      refine rtT ?_
      have hR := Option.some.inj hR; subst hR
      exact hQ _ _ (LS.mk [(4, .sc (.int .i64 (-1)))] (lblks 0 []) 0) (.sc (.int .i64 (-1))) [] (.inr rfl) (Weak.turnL [] [] rfl rfl (tc (.sc _) tn) mn) (ro1 (rvT (v := .sc (.int .i64 (-1))) rfl)) rfl rfl (.sc _) pn
  · refine AWP.skip ?_
    refine skT ?_
    refine AWP.sq ?_
    refine AWP.sq ?_
    refine AWP.rgC 36 rfl rfl ?_
    refine pu (v := .sc _) rfl rfl (fun _ => rfl) ?_
    refine RunC.fin ?_
    refine AWP.cd hR rfl (fun h5 hR => ?_) fun h5 hR => ?_
    · refine AWP.sq ?_
      refine AWP.rgC 40 rfl rfl ?_
      refine pu (v := .sc _) rfl rfl (fun _ => rfl) ?_
      refine RunC.fin ?_
      refine AWP.ret ?_
      refine rtT ?_
      have hR := Option.some.inj hR; subst hR
      exact hQ _ _ (LS.mk [(4, .sc (.int .i64 1))] (lblks 0 []) 0) (.sc (.int .i64 1)) [] (.inr rfl) (Weak.turnL [] [] rfl rfl (tc (.sc _) tn) mn) (ro1 (rvT (v := .sc (.int .i64 1)) rfl)) rfl rfl (.sc _) pn
    · refine AWP.skip ?_
      refine skT ?_
      refine AWP.sq ?_
      refine AWP.sq ?_
      refine AWP.rgC 48 rfl rfl ?_
      refine pu (v := .sc _) rfl rfl (fun _ => rfl) ?_
      refine pu (v := .sc _) rfl rfl (fun _ => rfl) ?_
      refine pu (v := .sc _) rfl rfl (fun _ => rfl) ?_
      refine RunC.fin ?_
      refine AWP.cd hR rfl (fun h6 hR => ?_) fun h6 hR => ?_
      · refine AWP.sq ?_
        refine AWP.rgC 52 rfl rfl ?_
        refine pu (v := .sc _) rfl rfl (fun _ => rfl) ?_
        refine RunC.fin ?_
        refine AWP.ret ?_
        refine rtT ?_
        have hR := Option.some.inj hR; subst hR
        exact hQ _ _ (LS.mk [(4, .sc (.int .i64 (-1)))] (lblks 0 []) 0) (.sc (.int .i64 (-1))) [] (.inr rfl) (Weak.turnL [] [] rfl rfl (tc (.sc _) tn) mn) (ro1 (rvT (v := .sc (.int .i64 (-1))) rfl)) rfl rfl (.sc _) pn
      · refine AWP.skip ?_
        refine skT ?_
        refine AWP.sq ?_
        refine AWP.sq ?_
        refine AWP.rgC 60 rfl rfl ?_
        refine pu (v := .sc _) rfl rfl (fun _ => rfl) ?_
        refine pu (v := .sc _) rfl rfl (fun _ => rfl) ?_
        refine pu (v := .sc _) rfl rfl (fun _ => rfl) ?_
        refine RunC.fin ?_
        refine AWP.cd hR rfl (fun h7 hR => ?_) fun h7 hR => ?_
        · refine AWP.sq ?_
          refine AWP.rgC 64 rfl rfl ?_
          refine pu (v := .sc _) rfl rfl (fun _ => rfl) ?_
          refine RunC.fin ?_
          refine AWP.ret ?_
          refine rtT ?_
          have hR := Option.some.inj hR; subst hR
          exact hQ _ _ (LS.mk [(4, .sc (.int .i64 1))] (lblks 0 []) 0) (.sc (.int .i64 1)) [] (.inr rfl) (Weak.turnL [] [] rfl rfl (tc (.sc _) tn) mn) (ro1 (rvT (v := .sc (.int .i64 1)) rfl)) rfl rfl (.sc _) pn
        · refine AWP.skip ?_
          refine skT ?_
          refine AWP.sq ?_
          refine AWP.rgC 64 rfl rfl ?_
          refine pu (v := .sc _) rfl rfl (fun _ => rfl) ?_
          refine RunC.fin ?_
          refine AWP.ret ?_
          have hR := Option.some.inj hR; subst hR
          exact hQ _ _ (LS.mk [(4, .sc (.int .i64 0))] (lblks 0 []) 0) (.sc (.int .i64 0)) [] (.inr rfl) (Weak.turnL [] [] rfl rfl (tc (.sc _) tn) mn) (ro1 (rvT (v := .sc (.int .i64 0)) rfl)) rfl rfl (.sc _) pn
theorem ok47 (b : Bound) (r : Int) (hR : bound_Check b = some r) : FnP Try.prog 47 [aggV false b] (.sc (.int .i64 r)) := by
  refine fnP_of (FnX.walk Try.func47 rfl 37 0 (by simp [Try.ntmps47]) rfl fun W S F Q hQ => ?_)
  unfold bound_Check at hR
  refine AWP.sq ?_
  refine AWP.rgC 8 rfl rfl ?_
  refine bx (cs := _) 0 rfl rfl rfl ?_
  refine pu (v := .sc _) rfl rfl (fun _ => rfl) ?_
  refine RunC.fin ?_
  refine AWP.sq ?_
  refine AWP.block ?_
  refine AWP.joinX (fun z1 : Bool => LS.mk [(1, .ptr 0 0 0), (3, .sc (.bool z1))] (lblks 0 [boxB (α := Bound) true b]) 1) hR (fun o1 hR => ?_) fun z1 hR => ?_
  · refine AWP.rgC 60 rfl rfl ?_
    refine fa rfl rfl ti44 rfl rfl ti4 rfl ?_
    refine ldB (v := .sc _) rfl rfl rfl rfl ti4 rfl rfl ?_
    refine pu (v := .sc _) rfl rfl (fun _ => rfl) ?_
    refine brR hR (fun h2 hR => ?_) fun h2 hR => ?_
    · refine fa (wtG rfl rfl rfl h2) rfl ti44 rfl rfl ti42 rfl ?_
      refine ldB (v := .sc _) (wtG rfl rfl rfl h2) rfl rfl rfl ti42 rfl rfl ?_
      refine pu (v := .sc _) (wtG rfl rfl rfl h2) rfl (fun _ => rfl) ?_
      refine pu (v := .sc _) (wtG rfl rfl rfl h2) rfl (fun _ => rfl) ?_
      refine brR hR (fun h3 hR => ?_) fun h3 hR => ?_
      · refine sk (skW rfl rfl rfl h3) ?_
        refine sk (skW rfl rfl rfl h3) ?_
        refine sk (skW rfl rfl rfl h3) ?_
        refine pkT (v := .sc (.bool true)) (wtG rfl rfl rfl h2) rfl h3 rfl ?_
        refine pkT (v := .sc (.bool true)) rfl rfl h2 rfl ?_
        refine pu (v := .sc _) rfl rfl (fun _ => rfl) ?_
        refine RunC.fin ?_
        have hR := Option.some.inj hR; subst hR
        exact Weak.turnL [(0, 0)] [] rfl rfl (tc (trP' rfl rfl rfl rfl) (tc (.sc _) tn)) (mc rfl (.box rfl (.cons (.sc _) (.cons (.sc _) (.cons (.sc _) (.nil)))) rfl) mn)
      · refine fa (wtG rfl rfl rfl h3) rfl ti44 rfl rfl ti42 rfl ?_
        refine ldB (v := .sc _) (wtG rfl rfl rfl h3) rfl rfl rfl ti42 rfl rfl ?_
        refine pu (v := .sc _) (wtG rfl rfl rfl h3) rfl (fun _ => rfl) ?_
        refine pkF (v := .sc (.bool (b.Hi != 0))) (wtG rfl rfl rfl h2) rfl h3 rfl ?_
        refine pkT (v := .sc (.bool (b.Hi != 0))) rfl rfl h2 rfl ?_
        refine pu (v := .sc _) rfl rfl (fun _ => rfl) ?_
        refine RunC.fin ?_
        have hR := Option.some.inj hR; subst hR
        exact Weak.turnL [(0, 0)] [] rfl rfl (tc (trP' rfl rfl rfl rfl) (tc (.sc _) tn)) (mc rfl (.box rfl (.cons (.sc _) (.cons (.sc _) (.cons (.sc _) (.nil)))) rfl) mn)
    · refine sk (skW rfl rfl rfl h2) ?_
      refine sk (skW rfl rfl rfl h2) ?_
      refine sk (skW rfl rfl rfl h2) ?_
      refine sk (skW rfl rfl rfl h2) ?_
      refine sk (skW2 rfl rfl rfl) ?_
      refine sk (skW2 rfl rfl rfl) ?_
      refine sk (skW2 rfl rfl rfl) ?_
      refine sk (skW rfl rfl rfl h2) ?_
      refine pkF (v := .sc (.bool false)) rfl rfl h2 rfl ?_
      refine pu (v := .sc _) rfl rfl (fun _ => rfl) ?_
      refine RunC.fin ?_
      have hR := Option.some.inj hR; subst hR
      exact Weak.turnL [(0, 0)] [] rfl rfl (tc (trP' rfl rfl rfl rfl) (tc (.sc _) tn)) (mc rfl (.box rfl (.cons (.sc _) (.cons (.sc _) (.cons (.sc _) (.nil)))) rfl) mn)
  · refine AWP.cd hR rfl (fun h4 hR => ?_) fun h4 hR => ?_
    · refine AWP.sq ?_
      refine AWP.rgC 5 rfl rfl ?_
      refine pu (v := .sc _) rfl rfl (fun _ => rfl) ?_
      refine RunC.fin ?_
      refine AWP.ret ?_
      refine rtB ?_
      refine rtT ?_
      have hR := Option.some.inj hR; subst hR
      exact hQ _ _ (LS.mk [(2, .sc (.int .i64 3))] (lblks 0 []) 0) (.sc (.int .i64 3)) [] (.inr rfl) (Weak.turnL [] [] rfl rfl (tc (.sc _) tn) mn) (ro1 (rvT (v := .sc (.int .i64 3)) rfl)) rfl rfl (.sc _) pn
    · refine AWP.joinX (fun z5 : Bool => LS.mk [(1, .ptr 0 0 0), (16, .sc (.bool z5))] (lblks 0 [boxB (α := Bound) true b]) 1) hR (fun o5 hR => ?_) fun z5 hR => ?_
      · refine AWP.rgC 61 rfl rfl ?_
        refine fa rfl rfl ti44 rfl rfl ti42 rfl ?_
        refine ldB (v := .sc _) rfl rfl rfl rfl ti42 rfl rfl ?_
        refine fa rfl rfl ti44 rfl rfl ti42 rfl ?_
        refine ldB (v := .sc _) rfl rfl rfl rfl ti42 rfl rfl ?_
        refine pu (v := .sc _) rfl rfl (fun _ => rfl) ?_
        refine pu (v := .sc _) rfl rfl (fun _ => rfl) ?_
        refine pu (v := .sc _) rfl rfl (fun _ => rfl) ?_
        refine brR hR (fun h6 hR => ?_) fun h6 hR => ?_
        · refine sk (skW rfl rfl rfl h6) ?_
          refine sk (skW rfl rfl rfl h6) ?_
          refine sk (skW rfl rfl rfl h6) ?_
          refine sk (skW rfl rfl rfl h6) ?_
          refine sk (skW rfl rfl rfl h6) ?_
          refine sk (skW rfl rfl rfl h6) ?_
          refine pkT (v := .sc (.bool true)) rfl rfl h6 rfl ?_
          refine pu (v := .sc _) rfl rfl (fun _ => rfl) ?_
          refine RunC.fin ?_
          have hR := Option.some.inj hR; subst hR
          exact Weak.turnL [(0, 0)] [] rfl rfl (tc (trP' rfl rfl rfl rfl) (tc (.sc _) tn)) (mc rfl (.box rfl (.cons (.sc _) (.cons (.sc _) (.cons (.sc _) (.nil)))) rfl) mn)
        · refine fa (wtG rfl rfl rfl h6) rfl ti44 rfl rfl ti42 rfl ?_
          refine ldB (v := .sc _) (wtG rfl rfl rfl h6) rfl rfl rfl ti42 rfl rfl ?_
          refine fa (wtG rfl rfl rfl h6) rfl ti44 rfl rfl ti42 rfl ?_
          refine ldB (v := .sc _) (wtG rfl rfl rfl h6) rfl rfl rfl ti42 rfl rfl ?_
          refine pu (v := .sc _) (wtG rfl rfl rfl h6) rfl (fun _ => rfl) ?_
          refine pu (v := .sc _) (wtG rfl rfl rfl h6) rfl (fun _ => rfl) ?_
          refine pkF (v := .sc (.bool (decide ((mx2 b.Lo b.Hi) > 1152921504606846976)))) rfl rfl h6 rfl ?_
          refine pu (v := .sc _) rfl rfl (fun _ => rfl) ?_
          refine RunC.fin ?_
          have hR := Option.some.inj hR; subst hR
          exact Weak.turnL [(0, 0)] [] rfl rfl (tc (trP' rfl rfl rfl rfl) (tc (.sc _) tn)) (mc rfl (.box rfl (.cons (.sc _) (.cons (.sc _) (.cons (.sc _) (.nil)))) rfl) mn)
      · refine AWP.cd hR rfl (fun h7 hR => ?_) fun h7 hR => ?_
        · refine AWP.sq ?_
          refine AWP.rgC 5 rfl rfl ?_
          refine pu (v := .sc _) rfl rfl (fun _ => rfl) ?_
          refine RunC.fin ?_
          refine AWP.ret ?_
          refine rtB ?_
          refine rtT ?_
          have hR := Option.some.inj hR; subst hR
          exact hQ _ _ (LS.mk [(2, .sc (.int .i64 4))] (lblks 0 []) 0) (.sc (.int .i64 4)) [] (.inr rfl) (Weak.turnL [] [] rfl rfl (tc (.sc _) tn) mn) (ro1 (rvT (v := .sc (.int .i64 4)) rfl)) rfl rfl (.sc _) pn
        · refine AWP.sq ?_
          refine AWP.rgC 25 rfl rfl ?_
          refine fa rfl rfl ti44 rfl rfl ti42 rfl ?_
          refine ldB (v := .sc _) rfl rfl rfl rfl ti42 rfl rfl ?_
          refine fa rfl rfl ti44 rfl rfl ti42 rfl ?_
          refine ldB (v := .sc _) rfl rfl rfl rfl ti42 rfl rfl ?_
          refine pu (v := .sc _) rfl rfl (fun _ => rfl) ?_
          refine pu (v := .sc _) rfl rfl (fun _ => rfl) ?_
          refine RunC.fin ?_
          refine AWP.cd hR rfl (fun h8 hR => ?_) fun h8 hR => ?_
          · refine AWP.sq ?_
            refine AWP.rgC 29 rfl rfl ?_
            refine pu (v := .sc _) rfl rfl (fun _ => rfl) ?_
            refine RunC.fin ?_
            refine AWP.ret ?_
            refine rtB ?_
            refine rtT ?_
            have hR := Option.some.inj hR; subst hR
            exact hQ _ _ (LS.mk [(2, .sc (.int .i64 11))] (lblks 0 []) 0) (.sc (.int .i64 11)) [] (.inr rfl) (Weak.turnL [] [] rfl rfl (tc (.sc _) tn) mn) (ro1 (rvT (v := .sc (.int .i64 11)) rfl)) rfl rfl (.sc _) pn
          · refine AWP.skip ?_
            refine skB ?_
            refine skT ?_
            refine AWP.sq ?_
            refine AWP.rgC 29 rfl rfl ?_
            refine pu (v := .sc _) rfl rfl (fun _ => rfl) ?_
            refine RunC.fin ?_
            refine AWP.ret ?_
            have hR := Option.some.inj hR; subst hR
            exact hQ _ _ (LS.mk [(2, .sc (.int .i64 0))] (lblks 0 []) 0) (.sc (.int .i64 0)) [] (.inr rfl) (Weak.turnL [] [] rfl rfl (tc (.sc _) tn) mn) (ro1 (rvT (v := .sc (.int .i64 0)) rfl)) rfl rfl (.sc _) pn
theorem ok43 (r : Bound) (hR : bound_None = some r) : FnP Try.prog 43 [] (aggV (α := Bound) true r) := by
  refine fnP_of (FnX.walk Try.func43 rfl 2 0 (by simp [Try.ntmps43]) rfl fun W S F Q hQ => ?_)
  unfold bound_None at hR
  refine AWP.sq ?_
  refine AWP.rgC 4 rfl rfl ?_
  refine al (cs := [.sc (.int .i64 0), .sc (.int .i64 0), .sc (.bool false)]) 0 rfl rfl ti44 rfl rfl ?_
  refine RunC.fin ?_
  refine AWP.sq ?_
  refine AWP.rgC 12 rfl rfl ?_
  refine bu (cs := [.sc (.int .i64 0), .sc (.int .i64 0), .sc (.bool true)]) rfl bt44 rfl ?_
  refine stB (cs' := [.sc (.int .i64 0), .sc (.int .i64 0), .sc (.bool true)]) rfl rfl rfl rfl ti44 rfl rfl rfl rfl rfl ?_
  refine RunC.fin ?_
  refine AWP.ret ?_
  have hR := Option.some.inj hR; subst hR
  exact hQ _ _ (LS.mk [(0, .ptr 0 0 0)] (lblks 0 [boxB (α := Bound) true (Bound.mk 0 0 true)]) 1) (aggV (α := Bound) true (Bound.mk 0 0 true)) [] (.inr rfl) (Weak.turnL [(0, 0)] [] rfl rfl (tc (trP' rfl rfl rfl rfl) tn) (mc rfl (.box rfl (.cons (.sc _) (.cons (.sc _) (.cons (.sc _) (.nil)))) rfl) mn)) (ro1 (rvC (v := aggV (α := Bound) true (Bound.mk 0 0 true)) rfl rfl ti44 rfl)) rfl rfl ldA pn
theorem ok55 (b : Bound) (r : Bound) (hR : bound_Norm b = some r) : FnP Try.prog 55 [aggV false b] (aggV (α := Bound) true r) := by
  refine fnP_of (FnX.walk Try.func55 rfl 8 0 (by simp [Try.ntmps55]) rfl fun W S F Q hQ => ?_)
  unfold bound_Norm at hR
  refine AWP.sq ?_
  refine AWP.rgC 8 rfl rfl ?_
  refine bx (cs := _) 0 rfl rfl rfl ?_
  refine al (cs := [.sc (.int .i64 0), .sc (.int .i64 0), .sc (.bool false)]) 4 rfl rfl ti44 rfl rfl ?_
  refine RunC.fin ?_
  refine AWP.sq ?_
  refine AWP.sq ?_
  refine AWP.rgC 20 rfl rfl ?_
  refine ldB (v := .agg _) rfl rfl rfl rfl ti44 rfl rfl ?_
  obtain ⟨r1, hr1, hR⟩ := bindE hR
  refine cls [] rfl rfl cb47 (ok47 b _ hr1) (.cons (.agg (.cons (.sc _) (.cons (.sc _) (.cons (.sc _) (.nil)))) rfl) (.nil)) (.inr rfl) rfl ?_
  refine pu (v := .sc _) rfl rfl (fun _ => rfl) ?_
  refine RunC.fin ?_
  refine AWP.cd hR rfl (fun h2 hR => ?_) fun h2 hR => ?_
  · refine AWP.sq ?_
    refine AWP.rgC 28 rfl rfl ?_
    obtain ⟨r3, hr3, hR⟩ := bindE hR
    refine cls [] rfl rfl cb43 (ok43 _ hr3) (.nil) (.inr rfl) rfl ?_
    refine stB (cs' := [.sc (.int .i64 r3.Lo), .sc (.int .i64 r3.Hi), .sc (.bool r3.Unknown)]) rfl rfl rfl rfl ti44 rfl rfl rfl rfl rfl ?_
    refine RunC.fin ?_
    refine AWP.ret ?_
    refine rtT ?_
    have hR := Option.some.inj hR; subst hR
    exact hQ _ _ (LS.mk [(2, .ptr 0 0 0)] (lblks 0 [boxB (α := Bound) true r3]) 1) (aggV (α := Bound) true r3) [] (.inr rfl) (Weak.turnL [(4, 0)] [] rfl rfl (tc (trP' rfl rfl rfl rfl) tn) (mc rfl (.box rfl (.cons (.sc _) (.cons (.sc _) (.cons (.sc _) (.nil)))) rfl) mn)) (ro1 (rvC (v := aggV (α := Bound) true r3) rfl rfl ti44 rfl)) rfl rfl ldA pn
  · refine AWP.skip ?_
    refine skT ?_
    refine AWP.sq ?_
    refine AWP.rgC 28 rfl rfl ?_
    refine ldB (v := .agg _) rfl rfl rfl rfl ti44 rfl rfl ?_
    refine stB (cs' := [.sc (.int .i64 b.Lo), .sc (.int .i64 b.Hi), .sc (.bool b.Unknown)]) rfl rfl rfl rfl ti44 rfl rfl rfl rfl rfl ?_
    refine RunC.fin ?_
    refine AWP.ret ?_
    have hR := Option.some.inj hR; subst hR
    exact hQ _ _ (LS.mk [(2, .ptr 0 0 0)] (lblks 0 [boxB (α := Bound) true b]) 1) (aggV (α := Bound) true b) [] (.inr rfl) (Weak.turnL [(4, 0)] [] rfl rfl (tc (trP' rfl rfl rfl rfl) tn) (mc rfl (.box rfl (.cons (.sc _) (.cons (.sc _) (.cons (.sc _) (.nil)))) rfl) mn)) (ro1 (rvC (v := aggV (α := Bound) true b) rfl rfl ti44 rfl)) rfl rfl ldA pn
theorem ok42 (a : Bound) (b : Bound) (r : Bool) (hR : bound_vague a b = some r) : FnP Try.prog 42 [aggV false a, aggV false b] (.sc (.bool r)) := by
  refine fnP_of (FnX.walk Try.func42 rfl 13 0 (by simp [Try.ntmps42]) rfl fun W S F Q hQ => ?_)
  unfold bound_vague at hR
  refine AWP.sq ?_
  refine AWP.rgC 12 rfl rfl ?_
  refine bx (cs := _) 0 rfl rfl rfl ?_
  refine bx (cs := _) 4 rfl rfl rfl ?_
  refine pu (v := .sc _) rfl rfl (fun _ => rfl) ?_
  refine RunC.fin ?_
  refine AWP.joinX (fun z1 : Bool => LS.mk [(4, .sc (.bool z1))] (lblks 0 []) 0) hR (fun o1 hR => ?_) fun z1 hR => ?_
  · refine AWP.rgC 48 rfl rfl ?_
    refine ldB (v := .agg _) rfl rfl rfl rfl ti44 rfl rfl ?_
    obtain ⟨r2, hr2, hR⟩ := bindE hR
    refine cls [] rfl rfl cb55 (ok55 a _ hr2) (.cons (.agg (.cons (.sc _) (.cons (.sc _) (.cons (.sc _) (.nil)))) rfl) (.nil)) (.inr rfl) rfl ?_
    refine fi (v := .sc _) rfl rfl ti44 rfl rfl ti4 rfl ?_
    refine pu (v := .sc _) rfl rfl (fun _ => rfl) ?_
    refine brR hR (fun h3 hR => ?_) fun h3 hR => ?_
    · refine sk (skW rfl rfl rfl h3) ?_
      refine sk (skW rfl rfl rfl h3) ?_
      refine sk (skW rfl rfl rfl h3) ?_
      refine pkT (v := .sc (.bool true)) rfl rfl h3 rfl ?_
      refine pu (v := .sc _) rfl rfl (fun _ => rfl) ?_
      refine RunC.fin ?_
      have hR := Option.some.inj hR; subst hR
      exact Weak.turnL [] [] rfl rfl (tc (.sc _) tn) mn
    · refine ldB (v := .agg _) (wtG rfl rfl rfl h3) rfl rfl rfl ti44 rfl rfl ?_
      obtain ⟨r4, hr4, hR⟩ := bindE hR
      refine cls [] (wtG rfl rfl rfl h3) rfl cb55 (ok55 b _ hr4) (.cons (.agg (.cons (.sc _) (.cons (.sc _) (.cons (.sc _) (.nil)))) rfl) (.nil)) (.inr rfl) rfl ?_
      refine fi (v := .sc _) (wtG rfl rfl rfl h3) rfl ti44 rfl rfl ti4 rfl ?_
      refine pkF (v := .sc (.bool r4.Unknown)) rfl rfl h3 rfl ?_
      refine pu (v := .sc _) rfl rfl (fun _ => rfl) ?_
      refine RunC.fin ?_
      have hR := Option.some.inj hR; subst hR
      exact Weak.turnL [] [] rfl rfl (tc (.sc _) tn) mn
  · refine AWP.ret ?_
    have hR := Option.some.inj hR; subst hR
    exact hQ _ _ (LS.mk [(4, .sc (.bool z1))] (lblks 0 []) 0) (.sc (.bool z1)) [] (.inr rfl) (Weak.turnL [] [] rfl rfl (tc (.sc _) tn) mn) (ro1 (rvT (v := .sc (.bool z1)) rfl)) rfl rfl (.sc _) pn
theorem ok44 (lo : Int) (hi : Int) (r : Bound) (hR : bound_Of lo hi = some r) : FnP Try.prog 44 [.sc (.int .i64 lo), .sc (.int .i64 hi)] (aggV (α := Bound) true r) := by
  refine fnP_of (FnX.walk Try.func44 rfl 9 0 (by simp [Try.ntmps44]) rfl fun W S F Q hQ => ?_)
  unfold bound_Of at hR
  refine AWP.sq ?_
  refine AWP.rgC 4 rfl rfl ?_
  refine al (cs := [.sc (.int .i64 0), .sc (.int .i64 0), .sc (.bool false)]) 0 rfl rfl ti44 rfl rfl ?_
  refine RunC.fin ?_
  refine AWP.sq ?_
  refine AWP.rgC 24 rfl rfl ?_
  refine pu (v := .sc _) rfl rfl (fun _ => rfl) ?_
  refine pu (v := .sc _) rfl rfl (fun _ => rfl) ?_
  refine bu (cs := [.sc (.int .i64 lo), .sc (.int .i64 hi), .sc (.bool false)]) rfl bt44 rfl ?_
  obtain ⟨r1, hr1, hR⟩ := bindE hR
  refine cls [] rfl rfl cb55 (ok55 (Bound.mk lo hi false) _ hr1) (.cons (.agg (.cons (.sc _) (.cons (.sc _) (.cons (.sc _) (.nil)))) rfl) (.nil)) (.inr rfl) rfl ?_
  refine stB (cs' := [.sc (.int .i64 r1.Lo), .sc (.int .i64 r1.Hi), .sc (.bool r1.Unknown)]) rfl rfl rfl rfl ti44 rfl rfl rfl rfl rfl ?_
  refine RunC.fin ?_
  refine AWP.ret ?_
  have hR := Option.some.inj hR; subst hR
  exact hQ _ _ (LS.mk [(4, .ptr 0 0 0)] (lblks 0 [boxB (α := Bound) true r1]) 1) (aggV (α := Bound) true r1) [] (.inr rfl) (Weak.turnL [(0, 0)] [] rfl rfl (tc (trP' rfl rfl rfl rfl) tn) (mc rfl (.box rfl (.cons (.sc _) (.cons (.sc _) (.cons (.sc _) (.nil)))) rfl) mn)) (ro1 (rvC (v := aggV (α := Bound) true r1) rfl rfl ti44 rfl)) rfl rfl ldA pn
theorem ok63 (a : Bound) (b : Bound) (r : Bound) (hR : bound_Add a b = some r) : FnP Try.prog 63 [aggV false a, aggV false b] (aggV (α := Bound) true r) := by
  refine fnP_of (FnX.walk Try.func63 rfl 20 0 (by simp [Try.ntmps63]) rfl fun W S F Q hQ => ?_)
  unfold bound_Add at hR
  refine AWP.sq ?_
  refine AWP.rgC 12 rfl rfl ?_
  refine bx (cs := _) 0 rfl rfl rfl ?_
  refine bx (cs := _) 4 rfl rfl rfl ?_
  refine al (cs := [.sc (.int .i64 0), .sc (.int .i64 0), .sc (.bool false)]) 8 rfl rfl ti44 rfl rfl ?_
  refine RunC.fin ?_
  refine AWP.sq ?_
  refine AWP.sq ?_
  refine AWP.rgC 24 rfl rfl ?_
  refine ldB (v := .agg _) rfl rfl rfl rfl ti44 rfl rfl ?_
  refine ldB (v := .agg _) rfl rfl rfl rfl ti44 rfl rfl ?_
  obtain ⟨r1, hr1, hR⟩ := bindE hR
  refine cls [] rfl rfl cb42 (ok42 a b _ hr1) (.cons (.agg (.cons (.sc _) (.cons (.sc _) (.cons (.sc _) (.nil)))) rfl) (.cons (.agg (.cons (.sc _) (.cons (.sc _) (.cons (.sc _) (.nil)))) rfl) (.nil))) (.inr rfl) rfl ?_
  refine RunC.fin ?_
  refine AWP.cd hR rfl (fun h2 hR => ?_) fun h2 hR => ?_
  · refine AWP.sq ?_
    refine AWP.rgC 32 rfl rfl ?_
    obtain ⟨r3, hr3, hR⟩ := bindE hR
    refine cls [] rfl rfl cb43 (ok43 _ hr3) (.nil) (.inr rfl) rfl ?_
    refine stB (cs' := [.sc (.int .i64 r3.Lo), .sc (.int .i64 r3.Hi), .sc (.bool r3.Unknown)]) rfl rfl rfl rfl ti44 rfl rfl rfl rfl rfl ?_
    refine RunC.fin ?_
    refine AWP.ret ?_
    refine rtT ?_
    have hR := Option.some.inj hR; subst hR
    exact hQ _ _ (LS.mk [(4, .ptr 0 0 0)] (lblks 0 [boxB (α := Bound) true r3]) 1) (aggV (α := Bound) true r3) [] (.inr rfl) (Weak.turnL [(8, 0)] [] rfl rfl (tc (trP' rfl rfl rfl rfl) tn) (mc rfl (.box rfl (.cons (.sc _) (.cons (.sc _) (.cons (.sc _) (.nil)))) rfl) mn)) (ro1 (rvC (v := aggV (α := Bound) true r3) rfl rfl ti44 rfl)) rfl rfl ldA pn
  · refine AWP.skip ?_
    refine skT ?_
    refine AWP.sq ?_
    refine AWP.rgC 72 rfl rfl ?_
    refine fa rfl rfl ti44 rfl rfl ti42 rfl ?_
    refine ldB (v := .sc _) rfl rfl rfl rfl ti42 rfl rfl ?_
    refine fa rfl rfl ti44 rfl rfl ti42 rfl ?_
    refine ldB (v := .sc _) rfl rfl rfl rfl ti42 rfl rfl ?_
    refine pu (v := .sc _) rfl rfl (fun _ => rfl) ?_
    refine fa rfl rfl ti44 rfl rfl ti42 rfl ?_
    refine ldB (v := .sc _) rfl rfl rfl rfl ti42 rfl rfl ?_
    refine fa rfl rfl ti44 rfl rfl ti42 rfl ?_
    refine ldB (v := .sc _) rfl rfl rfl rfl ti42 rfl rfl ?_
    refine pu (v := .sc _) rfl rfl (fun _ => rfl) ?_
    obtain ⟨r4, hr4, hR⟩ := bindE hR
    refine cls [] rfl rfl cb44 (ok44 (w6 (a.Lo + b.Lo)) (w6 (a.Hi + b.Hi)) _ hr4) (.cons (.sc _) (.cons (.sc _) (.nil))) (.inr rfl) rfl ?_
    refine stB (cs' := [.sc (.int .i64 r4.Lo), .sc (.int .i64 r4.Hi), .sc (.bool r4.Unknown)]) rfl rfl rfl rfl ti44 rfl rfl rfl rfl rfl ?_
    refine RunC.fin ?_
    refine AWP.ret ?_
    have hR := Option.some.inj hR; subst hR
    exact hQ _ _ (LS.mk [(4, .ptr 0 0 0)] (lblks 0 [boxB (α := Bound) true r4]) 1) (aggV (α := Bound) true r4) [] (.inr rfl) (Weak.turnL [(8, 0)] [] rfl rfl (tc (trP' rfl rfl rfl rfl) tn) (mc rfl (.box rfl (.cons (.sc _) (.cons (.sc _) (.cons (.sc _) (.nil)))) rfl) mn)) (ro1 (rvC (v := aggV (α := Bound) true r4) rfl rfl ti44 rfl)) rfl rfl ldA pn
theorem ok64 (b : Bound) (r : Bound) (hR : bound_Neg b = some r) : FnP Try.prog 64 [aggV false b] (aggV (α := Bound) true r) := by
  refine fnP_of (FnX.walk Try.func64 rfl 14 0 (by simp [Try.ntmps64]) rfl fun W S F Q hQ => ?_)
  unfold bound_Neg at hR
  refine AWP.sq ?_
  refine AWP.rgC 8 rfl rfl ?_
  refine bx (cs := _) 0 rfl rfl rfl ?_
  refine al (cs := [.sc (.int .i64 0), .sc (.int .i64 0), .sc (.bool false)]) 4 rfl rfl ti44 rfl rfl ?_
  refine RunC.fin ?_
  refine AWP.sq ?_
  refine AWP.rgC 20 rfl rfl ?_
  refine ldB (v := .agg _) rfl rfl rfl rfl ti44 rfl rfl ?_
  obtain ⟨r1, hr1, hR⟩ := bindE hR
  refine cls [] rfl rfl cb55 (ok55 b _ hr1) (.cons (.agg (.cons (.sc _) (.cons (.sc _) (.cons (.sc _) (.nil)))) rfl) (.nil)) (.inr rfl) rfl ?_
  refine stB (cs' := [.sc (.int .i64 r1.Lo), .sc (.int .i64 r1.Hi), .sc (.bool r1.Unknown)]) rfl rfl rfl rfl ti44 rfl rfl rfl rfl rfl ?_
  refine RunC.fin ?_
  refine AWP.sq ?_
  refine AWP.rgC 60 rfl rfl ?_
  refine fa rfl rfl ti44 rfl rfl ti42 rfl ?_
  refine ldB (v := .sc _) rfl rfl rfl rfl ti42 rfl rfl ?_
  refine pu (v := .sc _) rfl rfl (fun _ => rfl) ?_
  refine fa rfl rfl ti44 rfl rfl ti42 rfl ?_
  refine ldB (v := .sc _) rfl rfl rfl rfl ti42 rfl rfl ?_
  refine pu (v := .sc _) rfl rfl (fun _ => rfl) ?_
  refine fa rfl rfl ti44 rfl rfl ti42 rfl ?_
  refine stB (cs' := [.sc (.int .i64 (w6 (0 - r1.Hi))), .sc (.int .i64 r1.Hi), .sc (.bool r1.Unknown)]) rfl rfl rfl rfl ti42 rfl rfl rfl rfl rfl ?_
  refine fa rfl rfl ti44 rfl rfl ti42 rfl ?_
  refine stB (cs' := [.sc (.int .i64 (w6 (0 - r1.Hi))), .sc (.int .i64 (w6 (0 - r1.Lo))), .sc (.bool r1.Unknown)]) rfl rfl rfl rfl ti42 rfl rfl rfl rfl rfl ?_
  refine RunC.fin ?_
  refine AWP.sq ?_
  refine AWP.rgC 68 rfl rfl ?_
  refine ldB (v := .agg _) rfl rfl rfl rfl ti44 rfl rfl ?_
  refine stB (cs' := [.sc (.int .i64 (w6 (0 - r1.Hi))), .sc (.int .i64 (w6 (0 - r1.Lo))), .sc (.bool r1.Unknown)]) rfl rfl rfl rfl ti44 rfl rfl rfl rfl rfl ?_
  refine RunC.fin ?_
  refine AWP.ret ?_
  have hR := Option.some.inj hR; subst hR
  exact hQ _ _ (LS.mk [(2, .ptr 0 0 0)] (lblks 0 [boxB (α := Bound) true (Bound.mk (w6 (0 - r1.Hi)) (w6 (0 - r1.Lo)) r1.Unknown)]) 1) (aggV (α := Bound) true (Bound.mk (w6 (0 - r1.Hi)) (w6 (0 - r1.Lo)) r1.Unknown)) [] (.inr rfl) (Weak.turnL [(4, 0)] [] rfl rfl (tc (trP' rfl rfl rfl rfl) tn) (mc rfl (.box rfl (.cons (.sc _) (.cons (.sc _) (.cons (.sc _) (.nil)))) rfl) mn)) (ro1 (rvC (v := aggV (α := Bound) true (Bound.mk (w6 (0 - r1.Hi)) (w6 (0 - r1.Lo)) r1.Unknown)) rfl rfl ti44 rfl)) rfl rfl ldA pn
theorem ok56 (b : Bound) (r : Int) (hR : bound_Check b = some r) : FnP Try.prog 56 [aggV false b] (.sc (.int .i64 r)) := by
  refine fnP_of (FnX.walk Try.func56 rfl 37 0 (by simp [Try.ntmps56]) rfl fun W S F Q hQ => ?_)
  unfold bound_Check at hR
  refine AWP.sq ?_
  refine AWP.rgC 8 rfl rfl ?_
  refine bx (cs := _) 0 rfl rfl rfl ?_
  refine pu (v := .sc _) rfl rfl (fun _ => rfl) ?_
  refine RunC.fin ?_
  refine AWP.sq ?_
  refine AWP.block ?_
  refine AWP.joinX (fun z1 : Bool => LS.mk [(1, .ptr 0 0 0), (3, .sc (.bool z1))] (lblks 0 [boxB (α := Bound) true b]) 1) hR (fun o1 hR => ?_) fun z1 hR => ?_
  · refine AWP.rgC 60 rfl rfl ?_
    refine fa rfl rfl ti55 rfl rfl ti4 rfl ?_
    refine ldB (v := .sc _) rfl rfl rfl rfl ti4 rfl rfl ?_
    refine pu (v := .sc _) rfl rfl (fun _ => rfl) ?_
    refine brR hR (fun h2 hR => ?_) fun h2 hR => ?_
    · refine fa (wtG rfl rfl rfl h2) rfl ti55 rfl rfl ti30 rfl ?_
      refine ldB (v := .sc _) (wtG rfl rfl rfl h2) rfl rfl rfl ti30 rfl rfl ?_
      refine pu (v := .sc _) (wtG rfl rfl rfl h2) rfl (fun _ => rfl) ?_
      refine pu (v := .sc _) (wtG rfl rfl rfl h2) rfl (fun _ => rfl) ?_
      refine brR hR (fun h3 hR => ?_) fun h3 hR => ?_
      · refine sk (skW rfl rfl rfl h3) ?_
        refine sk (skW rfl rfl rfl h3) ?_
        refine sk (skW rfl rfl rfl h3) ?_
        refine pkT (v := .sc (.bool true)) (wtG rfl rfl rfl h2) rfl h3 rfl ?_
        refine pkT (v := .sc (.bool true)) rfl rfl h2 rfl ?_
        refine pu (v := .sc _) rfl rfl (fun _ => rfl) ?_
        refine RunC.fin ?_
        have hR := Option.some.inj hR; subst hR
        exact Weak.turnL [(0, 0)] [] rfl rfl (tc (trP' rfl rfl rfl rfl) (tc (.sc _) tn)) (mc rfl (.box rfl (.cons (.sc _) (.cons (.sc _) (.cons (.sc _) (.nil)))) rfl) mn)
      · refine fa (wtG rfl rfl rfl h3) rfl ti55 rfl rfl ti30 rfl ?_
        refine ldB (v := .sc _) (wtG rfl rfl rfl h3) rfl rfl rfl ti30 rfl rfl ?_
        refine pu (v := .sc _) (wtG rfl rfl rfl h3) rfl (fun _ => rfl) ?_
        refine pkF (v := .sc (.bool (b.Hi != 0))) (wtG rfl rfl rfl h2) rfl h3 rfl ?_
        refine pkT (v := .sc (.bool (b.Hi != 0))) rfl rfl h2 rfl ?_
        refine pu (v := .sc _) rfl rfl (fun _ => rfl) ?_
        refine RunC.fin ?_
        have hR := Option.some.inj hR; subst hR
        exact Weak.turnL [(0, 0)] [] rfl rfl (tc (trP' rfl rfl rfl rfl) (tc (.sc _) tn)) (mc rfl (.box rfl (.cons (.sc _) (.cons (.sc _) (.cons (.sc _) (.nil)))) rfl) mn)
    · refine sk (skW rfl rfl rfl h2) ?_
      refine sk (skW rfl rfl rfl h2) ?_
      refine sk (skW rfl rfl rfl h2) ?_
      refine sk (skW rfl rfl rfl h2) ?_
      refine sk (skW2 rfl rfl rfl) ?_
      refine sk (skW2 rfl rfl rfl) ?_
      refine sk (skW2 rfl rfl rfl) ?_
      refine sk (skW rfl rfl rfl h2) ?_
      refine pkF (v := .sc (.bool false)) rfl rfl h2 rfl ?_
      refine pu (v := .sc _) rfl rfl (fun _ => rfl) ?_
      refine RunC.fin ?_
      have hR := Option.some.inj hR; subst hR
      exact Weak.turnL [(0, 0)] [] rfl rfl (tc (trP' rfl rfl rfl rfl) (tc (.sc _) tn)) (mc rfl (.box rfl (.cons (.sc _) (.cons (.sc _) (.cons (.sc _) (.nil)))) rfl) mn)
  · refine AWP.cd hR rfl (fun h4 hR => ?_) fun h4 hR => ?_
    · refine AWP.sq ?_
      refine AWP.rgC 5 rfl rfl ?_
      refine pu (v := .sc _) rfl rfl (fun _ => rfl) ?_
      refine RunC.fin ?_
      refine AWP.ret ?_
      refine rtB ?_
      refine rtT ?_
      have hR := Option.some.inj hR; subst hR
      exact hQ _ _ (LS.mk [(2, .sc (.int .i64 3))] (lblks 0 []) 0) (.sc (.int .i64 3)) [] (.inr rfl) (Weak.turnL [] [] rfl rfl (tc (.sc _) tn) mn) (ro1 (rvT (v := .sc (.int .i64 3)) rfl)) rfl rfl (.sc _) pn
    · refine AWP.joinX (fun z5 : Bool => LS.mk [(1, .ptr 0 0 0), (16, .sc (.bool z5))] (lblks 0 [boxB (α := Bound) true b]) 1) hR (fun o5 hR => ?_) fun z5 hR => ?_
      · refine AWP.rgC 61 rfl rfl ?_
        refine fa rfl rfl ti55 rfl rfl ti30 rfl ?_
        refine ldB (v := .sc _) rfl rfl rfl rfl ti30 rfl rfl ?_
        refine fa rfl rfl ti55 rfl rfl ti30 rfl ?_
        refine ldB (v := .sc _) rfl rfl rfl rfl ti30 rfl rfl ?_
        refine pu (v := .sc _) rfl rfl (fun _ => rfl) ?_
        refine pu (v := .sc _) rfl rfl (fun _ => rfl) ?_
        refine pu (v := .sc _) rfl rfl (fun _ => rfl) ?_
        refine brR hR (fun h6 hR => ?_) fun h6 hR => ?_
        · refine sk (skW rfl rfl rfl h6) ?_
          refine sk (skW rfl rfl rfl h6) ?_
          refine sk (skW rfl rfl rfl h6) ?_
          refine sk (skW rfl rfl rfl h6) ?_
          refine sk (skW rfl rfl rfl h6) ?_
          refine sk (skW rfl rfl rfl h6) ?_
          refine pkT (v := .sc (.bool true)) rfl rfl h6 rfl ?_
          refine pu (v := .sc _) rfl rfl (fun _ => rfl) ?_
          refine RunC.fin ?_
          have hR := Option.some.inj hR; subst hR
          exact Weak.turnL [(0, 0)] [] rfl rfl (tc (trP' rfl rfl rfl rfl) (tc (.sc _) tn)) (mc rfl (.box rfl (.cons (.sc _) (.cons (.sc _) (.cons (.sc _) (.nil)))) rfl) mn)
        · refine fa (wtG rfl rfl rfl h6) rfl ti55 rfl rfl ti30 rfl ?_
          refine ldB (v := .sc _) (wtG rfl rfl rfl h6) rfl rfl rfl ti30 rfl rfl ?_
          refine fa (wtG rfl rfl rfl h6) rfl ti55 rfl rfl ti30 rfl ?_
          refine ldB (v := .sc _) (wtG rfl rfl rfl h6) rfl rfl rfl ti30 rfl rfl ?_
          refine pu (v := .sc _) (wtG rfl rfl rfl h6) rfl (fun _ => rfl) ?_
          refine pu (v := .sc _) (wtG rfl rfl rfl h6) rfl (fun _ => rfl) ?_
          refine pkF (v := .sc (.bool (decide ((mx2 b.Lo b.Hi) > 1152921504606846976)))) rfl rfl h6 rfl ?_
          refine pu (v := .sc _) rfl rfl (fun _ => rfl) ?_
          refine RunC.fin ?_
          have hR := Option.some.inj hR; subst hR
          exact Weak.turnL [(0, 0)] [] rfl rfl (tc (trP' rfl rfl rfl rfl) (tc (.sc _) tn)) (mc rfl (.box rfl (.cons (.sc _) (.cons (.sc _) (.cons (.sc _) (.nil)))) rfl) mn)
      · refine AWP.cd hR rfl (fun h7 hR => ?_) fun h7 hR => ?_
        · refine AWP.sq ?_
          refine AWP.rgC 5 rfl rfl ?_
          refine pu (v := .sc _) rfl rfl (fun _ => rfl) ?_
          refine RunC.fin ?_
          refine AWP.ret ?_
          refine rtB ?_
          refine rtT ?_
          have hR := Option.some.inj hR; subst hR
          exact hQ _ _ (LS.mk [(2, .sc (.int .i64 4))] (lblks 0 []) 0) (.sc (.int .i64 4)) [] (.inr rfl) (Weak.turnL [] [] rfl rfl (tc (.sc _) tn) mn) (ro1 (rvT (v := .sc (.int .i64 4)) rfl)) rfl rfl (.sc _) pn
        · refine AWP.sq ?_
          refine AWP.rgC 25 rfl rfl ?_
          refine fa rfl rfl ti55 rfl rfl ti30 rfl ?_
          refine ldB (v := .sc _) rfl rfl rfl rfl ti30 rfl rfl ?_
          refine fa rfl rfl ti55 rfl rfl ti30 rfl ?_
          refine ldB (v := .sc _) rfl rfl rfl rfl ti30 rfl rfl ?_
          refine pu (v := .sc _) rfl rfl (fun _ => rfl) ?_
          refine pu (v := .sc _) rfl rfl (fun _ => rfl) ?_
          refine RunC.fin ?_
          refine AWP.cd hR rfl (fun h8 hR => ?_) fun h8 hR => ?_
          · refine AWP.sq ?_
            refine AWP.rgC 29 rfl rfl ?_
            refine pu (v := .sc _) rfl rfl (fun _ => rfl) ?_
            refine RunC.fin ?_
            refine AWP.ret ?_
            refine rtB ?_
            refine rtT ?_
            have hR := Option.some.inj hR; subst hR
            exact hQ _ _ (LS.mk [(2, .sc (.int .i64 11))] (lblks 0 []) 0) (.sc (.int .i64 11)) [] (.inr rfl) (Weak.turnL [] [] rfl rfl (tc (.sc _) tn) mn) (ro1 (rvT (v := .sc (.int .i64 11)) rfl)) rfl rfl (.sc _) pn
          · refine AWP.skip ?_
            refine skB ?_
            refine skT ?_
            refine AWP.sq ?_
            refine AWP.rgC 29 rfl rfl ?_
            refine pu (v := .sc _) rfl rfl (fun _ => rfl) ?_
            refine RunC.fin ?_
            refine AWP.ret ?_
            have hR := Option.some.inj hR; subst hR
            exact hQ _ _ (LS.mk [(2, .sc (.int .i64 0))] (lblks 0 []) 0) (.sc (.int .i64 0)) [] (.inr rfl) (Weak.turnL [] [] rfl rfl (tc (.sc _) tn) mn) (ro1 (rvT (v := .sc (.int .i64 0)) rfl)) rfl rfl (.sc _) pn
theorem ok52 (a : Int) (r : Int) (hR : num_Sqrt a = some r) : FnP Try.prog 52 [.sc (.int .i64 a)] (.sc (.int .i64 r)) := by
  refine fnP_of (FnX.walk Try.func52 rfl 5 0 (by simp [Try.ntmps52]) rfl fun W S F Q hQ => ?_)
  unfold num_Sqrt at hR
  refine AWP.sq ?_
  refine AWP.rgC 4 rfl rfl ?_
  refine pu (v := .sc _) rfl rfl (fun _ => rfl) ?_
  refine RunC.fin ?_
  refine AWP.sq ?_
  refine AWP.rgC 16 rfl rfl ?_
  refine pu (v := .sc _) rfl rfl (fun _ => rfl) ?_
  obtain ⟨r1, hr1, hR⟩ := bindE hR
  refine cls [] rfl rfl cb65 (ok65 a 1 _ hr1) (.cons (.sc _) (.cons (.sc _) (.nil))) (.inr rfl) rfl ?_
  refine pu (v := .sc _) rfl rfl (fun _ => rfl) ?_
  refine RunC.fin ?_
  refine AWP.ret ?_
  have hR := Option.some.inj hR; subst hR
  exact hQ _ _ (LS.mk [(2, .sc (.int .i64 r1))] (lblks 0 []) 0) (.sc (.int .i64 r1)) [] (.inr rfl) (Weak.turnL [] [] rfl rfl (tc (.sc _) tn) mn) (ro1 (rvT (v := .sc (.int .i64 r1)) rfl)) rfl rfl (.sc _) pn
theorem ok50 (w : num_Wide) (v : num_Wide) (r : Int) (hR : Wide_Cmp w v = some r) : FnP Try.prog 50 [aggV false w, aggV false v] (.sc (.int .i64 r)) := by
  refine fnP_of (FnX.walk Try.func50 rfl 17 0 (by simp [Try.ntmps50]) rfl fun W S F Q hQ => ?_)
  unfold Wide_Cmp at hR
  refine AWP.sq ?_
  refine AWP.rgC 12 rfl rfl ?_
  refine bx (cs := _) 0 rfl rfl rfl ?_
  refine bx (cs := _) 4 rfl rfl rfl ?_
  refine pu (v := .sc _) rfl rfl (fun _ => rfl) ?_
  refine RunC.fin ?_
  refine AWP.sq ?_
  refine AWP.rgD 64 [0, 1, 0, 4, 15, 0, 32, 0, 128, 511, 1023, 2047, 4095] ⟨[], [none, some [0], none, some [4], none, none, some [0], none, some [4], none, none, none, none]⟩ hmix (by kernel_rfl) rfl rfl ?_
  refine fa rfl rfl ti100 rfl rfl ti2 rfl ?_
  refine ldB (v := .sc _) rfl rfl rfl rfl ti2 rfl rfl ?_
  refine fa rfl rfl ti100 rfl rfl ti2 rfl ?_
  refine ldB (v := .sc _) rfl rfl rfl rfl ti2 rfl rfl ?_
  obtain ⟨r1, hr1, hR⟩ := bindE hR
  refine cls [] rfl rfl cb61 (ok61 w.Hi v.Hi _ hr1) (.cons (.sc _) (.cons (.sc _) (.nil))) (.inr rfl) rfl ?_
  refine fa rfl rfl ti100 rfl rfl ti98 rfl ?_
  refine ldB (v := .sc _) rfl rfl rfl rfl ti98 rfl rfl ?_
  refine fa rfl rfl ti100 rfl rfl ti98 rfl ?_
  refine ldB (v := .sc _) rfl rfl rfl rfl ti98 rfl rfl ?_
  obtain ⟨r2, hr2, hR⟩ := bindE hR
  refine cls [] rfl rfl cb62 (ok62 w.Lo.n v.Lo.n _ hr2) (.cons (.sc _) (.cons (.sc _) (.nil))) (.inr rfl) rfl ?_
  refine bs (α := Int) 52 true ([r1, r2] : List Int) rfl rfl ti22 rfl ti3 rfl rfl rfl rfl rfl ?_
  obtain ⟨r3, hr3, hR⟩ := bindE hR
  refine cls [52] rfl rfl cb60 (ok60 ([r1, r2] : List Int) _ hr3) (.cons (ldS' rfl rfl rfl rfl) (.nil)) (.inl (by first | rfl | exact freshR | exact freshA | (simp only [V.fresh, V.freshs, freshR, freshA, Bool.and_self]))) rfl ?_
  refine pu (v := .sc _) rfl rfl (fun _ => rfl) ?_
  refine RunC.fin ?_
  refine AWP.ret ?_
  have hR := Option.some.inj hR; subst hR
  exact hQ _ _ (LS.mk [(4, .sc (.int .i64 r3))] (lblks 0 []) 0) (.sc (.int .i64 r3)) [] (.inr rfl) (Weak.turnL [] [] rfl rfl (tc (.sc _) tn) mn) (ro1 (rvT (v := .sc (.int .i64 r3)) rfl)) rfl rfl (.sc _) pn
theorem ok48 (r_ : change_ratios) (a : Int) (b : Int) (r : Bool × change_ratios) (hR : ratios_atMost r_ a b = some r) : FnD Try.prog 48 [boxB false r_] [.ptr 0 0 0, .sc (.int .i64 a), .sc (.int .i64 b)] (.sc (.bool r.1)) [boxB false r.2] := by
  refine FnX.walk Try.func48 rfl 64 1 (by simp [Try.ntmps48]) rfl fun W S F Q hQ => ?_
  unfold ratios_atMost at hR
  refine AWP.sq ?_
  refine AWP.rgC 5 rfl rfl ?_
  refine pu (v := .sc _) rfl rfl (fun _ => rfl) ?_
  refine RunC.fin ?_
  refine AWP.joinS (fun z1 : change_ratios => LS.mk [] (lblks 0 [boxB (α := change_ratios) true z1]) 1) hR (fun o1 hR hE1 => ?_) fun z1 hR => ?_
  · refine AWP.block ?_
    refine AWP.sq ?_
    refine AWP.rgC 17 rfl rfl ?_
    refine pu (v := .sc _) rfl rfl (fun _ => rfl) ?_
    refine pu (v := .sc _) rfl rfl (fun _ => rfl) ?_
    refine pu (v := .sc _) rfl rfl (fun _ => rfl) ?_
    refine RunC.fin ?_
    refine AWP.cd hR rfl (fun h2 hR => ?_) fun h2 hR => ?_
    · refine AWP.sq ?_
      refine AWP.rgC 29 rfl rfl ?_
      refine pu (v := .sc _) rfl rfl (fun _ => rfl) ?_
      refine pu (v := .sc _) rfl rfl (fun _ => rfl) ?_
      refine pu (v := .sc _) rfl rfl (fun _ => rfl) ?_
      refine RunC.fin ?_
      refine AWP.ret ?_
      refine rtB ?_
      refine rtT ?_
      replace hR := escJ hR hE1
      have hR := Option.some.inj hR; subst hR
      exact hQ _ _ (LS.mk [(6, .sc (.bool (decide (b ≥ 0))))] (lblks 0 [boxB (α := change_ratios) true r_]) 1) (.sc (.bool (decide (b ≥ 0)))) [] (.inr rfl) (Weak.turnL [(0, 0)] [] rfl rfl (tc (.sc _) tn) (mc rfl (.box rfl (.cons (.sc _) (.cons (.sc _) (.cons (.sc _) (.cons (.sc _) (.nil))))) rfl) mn)) (ro1 (rvT (v := .sc (.bool (decide (b ≥ 0)))) rfl)) rfl rfl (.sc _) (pc rfl bldB pn)
    · refine AWP.sq ?_
      refine AWP.rgC 29 rfl rfl ?_
      refine pu (v := .sc _) rfl rfl (fun _ => rfl) ?_
      refine pu (v := .sc _) rfl rfl (fun _ => rfl) ?_
      refine pu (v := .sc _) rfl rfl (fun _ => rfl) ?_
      refine RunC.fin ?_
      refine AWP.cd hR rfl (fun h3 hR => ?_) fun h3 hR => ?_
      · refine AWP.sq ?_
        refine AWP.rgD 85 [0, 0, 2, 6, 14, 31, 0, 64, 192, 448, 0, 2047, 4095, 8191] ⟨[], [none, none, none, none, some [0], none, none, none, none, some [0], none, none, none, none]⟩ hmix (by kernel_rfl) rfl rfl ?_
        refine pu (v := .sc _) rfl rfl (fun _ => rfl) ?_
        refine pu (v := .ptr _ _ _) rfl rfl (fun _ => rfl) ?_
        refine pu (v := .ptr _ _ _) rfl rfl (fun _ => rfl) ?_
        refine fa rfl rfl ti95 rfl rfl ti2 rfl ?_
        refine ldB (v := .sc _) rfl rfl rfl rfl ti2 rfl rfl ?_
        obtain ⟨r4, hr4, hR⟩ := bindE hR
        refine cls [] rfl rfl cb49 (ok49 b r_.above _ hr4) (.cons (.sc _) (.cons (.sc _) (.nil))) (.inr rfl) rfl ?_
        refine pu (v := .ptr _ _ _) rfl rfl (fun _ => rfl) ?_
        refine pu (v := .ptr _ _ _) rfl rfl (fun _ => rfl) ?_
        refine fa rfl rfl ti95 rfl rfl ti2 rfl ?_
        refine ldB (v := .sc _) rfl rfl rfl rfl ti2 rfl rfl ?_
        refine pu (v := .sc _) rfl rfl (fun _ => rfl) ?_
        obtain ⟨r5, hr5, hR⟩ := bindE hR
        refine cls [] rfl rfl cb49 (ok49 r_.hi a _ hr5) (.cons (.sc _) (.cons (.sc _) (.nil))) (.inr rfl) rfl ?_
        obtain ⟨r6, hr6, hR⟩ := bindE hR
        refine cls [] rfl rfl cb50 (ok50 r4 r5 _ hr6) (.cons (.agg (.cons (.sc _) (.cons (.sc _) (.nil))) rfl) (.cons (.agg (.cons (.sc _) (.cons (.sc _) (.nil))) rfl) (.nil))) (.inr rfl) rfl ?_
        refine pu (v := .sc _) rfl rfl (fun _ => rfl) ?_
        refine RunC.fin ?_
        refine AWP.cd hR rfl (fun h7 hR => ?_) fun h7 hR => ?_
        · refine AWP.rgC 125 rfl rfl ?_
          refine pu (v := .ptr _ _ _) rfl rfl (fun _ => rfl) ?_
          refine pu (v := .ptr _ _ _) rfl rfl (fun _ => rfl) ?_
          refine pu (v := .sc _) rfl rfl (fun _ => rfl) ?_
          refine pu (v := .sc _) rfl rfl (fun _ => rfl) ?_
          refine pu (v := .ptr _ _ _) rfl rfl (fun _ => rfl) ?_
          refine fa rfl rfl ti95 rfl rfl ti2 rfl ?_
          refine stB (cs' := [.sc (.int .i64 r_.lo), .sc (.int .i64 b), .sc (.int .i64 r_.under), .sc (.int .i64 r_.above)]) rfl rfl rfl rfl ti2 rfl rfl rfl rfl rfl ?_
          refine pu (v := .ptr _ _ _) rfl rfl (fun _ => rfl) ?_
          refine fa rfl rfl ti95 rfl rfl ti2 rfl ?_
          refine stB (cs' := [.sc (.int .i64 r_.lo), .sc (.int .i64 b), .sc (.int .i64 r_.under), .sc (.int .i64 a)]) rfl rfl rfl rfl ti2 rfl rfl rfl rfl rfl ?_
          refine RunC.blk ?_
          refine RunC.fin ?_
          refine ⟨(change_ratios.mk r_.lo b r_.under a), (Option.some.inj hR).symm, ?_⟩
          exact Weak.turnL [(0, 0)] [] rfl rfl tn (mc rfl (.box rfl (.cons (.sc _) (.cons (.sc _) (.cons (.sc _) (.cons (.sc _) (.nil))))) rfl) mn)
        · refine AWP.skip ?_
          refine skB ?_
          refine skT ?_
          refine ⟨r_, (Option.some.inj hR).symm, ?_⟩
          exact Weak.turnL [(0, 0)] [] rfl rfl tn (mc rfl (.box rfl (.cons (.sc _) (.cons (.sc _) (.cons (.sc _) (.cons (.sc _) (.nil))))) rfl) mn)
      · refine AWP.sq ?_
        refine AWP.rgD 97 [0, 1, 0, 4, 12, 28, 63, 0, 128, 384, 896, 0, 2048, 8191, 16383, 32767, 65535] ⟨[], [none, none, none, none, none, some [0], none, none, none, none, some [0], none, none, none, none, none, none]⟩ hmix (by kernel_rfl) rfl rfl ?_
        refine pu (v := .sc _) rfl rfl (fun _ => rfl) ?_
        refine pu (v := .sc _) rfl rfl (fun _ => rfl) ?_
        refine pu (v := .ptr _ _ _) rfl rfl (fun _ => rfl) ?_
        refine pu (v := .ptr _ _ _) rfl rfl (fun _ => rfl) ?_
        refine fa rfl rfl ti95 rfl rfl ti2 rfl ?_
        refine ldB (v := .sc _) rfl rfl rfl rfl ti2 rfl rfl ?_
        obtain ⟨r8, hr8, hR⟩ := bindE hR
        refine cls [] rfl rfl cb49 (ok49 (w6 (0 - b)) r_.under _ hr8) (.cons (.sc _) (.cons (.sc _) (.nil))) (.inr rfl) rfl ?_
        refine pu (v := .ptr _ _ _) rfl rfl (fun _ => rfl) ?_
        refine pu (v := .ptr _ _ _) rfl rfl (fun _ => rfl) ?_
        refine fa rfl rfl ti95 rfl rfl ti2 rfl ?_
        refine ldB (v := .sc _) rfl rfl rfl rfl ti2 rfl rfl ?_
        refine pu (v := .sc _) rfl rfl (fun _ => rfl) ?_
        refine pu (v := .sc _) rfl rfl (fun _ => rfl) ?_
        obtain ⟨r9, hr9, hR⟩ := bindE hR
        refine cls [] rfl rfl cb49 (ok49 r_.lo (w6 (0 - a)) _ hr9) (.cons (.sc _) (.cons (.sc _) (.nil))) (.inr rfl) rfl ?_
        obtain ⟨r10, hr10, hR⟩ := bindE hR
        refine cls [] rfl rfl cb50 (ok50 r8 r9 _ hr10) (.cons (.agg (.cons (.sc _) (.cons (.sc _) (.nil))) rfl) (.cons (.agg (.cons (.sc _) (.cons (.sc _) (.nil))) rfl) (.nil))) (.inr rfl) rfl ?_
        refine pu (v := .sc _) rfl rfl (fun _ => rfl) ?_
        refine pu (v := .sc _) rfl rfl (fun _ => rfl) ?_
        refine RunC.fin ?_
        refine AWP.cd hR rfl (fun h11 hR => ?_) fun h11 hR => ?_
        · refine AWP.rgC 145 rfl rfl ?_
          refine pu (v := .ptr _ _ _) rfl rfl (fun _ => rfl) ?_
          refine pu (v := .ptr _ _ _) rfl rfl (fun _ => rfl) ?_
          refine pu (v := .sc _) rfl rfl (fun _ => rfl) ?_
          refine pu (v := .sc _) rfl rfl (fun _ => rfl) ?_
          refine pu (v := .sc _) rfl rfl (fun _ => rfl) ?_
          refine pu (v := .sc _) rfl rfl (fun _ => rfl) ?_
          refine pu (v := .ptr _ _ _) rfl rfl (fun _ => rfl) ?_
          refine fa rfl rfl ti95 rfl rfl ti2 rfl ?_
          refine stB (cs' := [.sc (.int .i64 (w6 (0 - b))), .sc (.int .i64 r_.hi), .sc (.int .i64 r_.under), .sc (.int .i64 r_.above)]) rfl rfl rfl rfl ti2 rfl rfl rfl rfl rfl ?_
          refine pu (v := .ptr _ _ _) rfl rfl (fun _ => rfl) ?_
          refine fa rfl rfl ti95 rfl rfl ti2 rfl ?_
          refine stB (cs' := [.sc (.int .i64 (w6 (0 - b))), .sc (.int .i64 r_.hi), .sc (.int .i64 (w6 (0 - a))), .sc (.int .i64 r_.above)]) rfl rfl rfl rfl ti2 rfl rfl rfl rfl rfl ?_
          refine RunC.blk ?_
          refine RunC.fin ?_
          refine ⟨(change_ratios.mk (w6 (0 - b)) r_.hi (w6 (0 - a)) r_.above), (Option.some.inj hR).symm, ?_⟩
          exact Weak.turnL [(0, 0)] [] rfl rfl tn (mc rfl (.box rfl (.cons (.sc _) (.cons (.sc _) (.cons (.sc _) (.cons (.sc _) (.nil))))) rfl) mn)
        · refine AWP.skip ?_
          refine skB ?_
          refine skT ?_
          refine ⟨r_, (Option.some.inj hR).symm, ?_⟩
          exact Weak.turnL [(0, 0)] [] rfl rfl tn (mc rfl (.box rfl (.cons (.sc _) (.cons (.sc _) (.cons (.sc _) (.cons (.sc _) (.nil))))) rfl) mn)
  · refine AWP.sq ?_
    refine AWP.rgC 5 rfl rfl ?_
    refine pu (v := .sc _) rfl rfl (fun _ => rfl) ?_
    refine RunC.fin ?_
    refine AWP.ret ?_
    have hR := Option.some.inj hR; subst hR
    exact hQ _ _ (LS.mk [(6, .sc (.bool true))] (lblks 0 [boxB (α := change_ratios) true z1]) 1) (.sc (.bool true)) [] (.inr rfl) (Weak.turnL [(0, 0)] [] rfl rfl (tc (.sc _) tn) (mc rfl (.box rfl (.cons (.sc _) (.cons (.sc _) (.cons (.sc _) (.cons (.sc _) (.nil))))) rfl) mn)) (ro1 (rvT (v := .sc (.bool true)) rfl)) rfl rfl (.sc _) (pc rfl bldB pn)
theorem ok51 (a : Bound) (b : Bound) (r : Bound) (hR : bound_Sub a b = some r) : FnP Try.prog 51 [aggV false a, aggV false b] (aggV (α := Bound) true r) := by
  refine fnP_of (FnX.walk Try.func51 rfl 9 0 (by simp [Try.ntmps51]) rfl fun W S F Q hQ => ?_)
  unfold bound_Sub at hR
  refine AWP.sq ?_
  refine AWP.rgC 12 rfl rfl ?_
  refine bx (cs := _) 0 rfl rfl rfl ?_
  refine bx (cs := _) 4 rfl rfl rfl ?_
  refine al (cs := [.sc (.int .i64 0), .sc (.int .i64 0), .sc (.bool false)]) 8 rfl rfl ti44 rfl rfl ?_
  refine RunC.fin ?_
  refine AWP.sq ?_
  refine AWP.rgD 32 [0, 0, 2, 7, 15] ⟨[], [some [0], some [4], none, none, some [8]]⟩ hmix (by kernel_rfl) rfl rfl ?_
  refine ldB (v := .agg _) rfl rfl rfl rfl ti44 rfl rfl ?_
  refine ldB (v := .agg _) rfl rfl rfl rfl ti44 rfl rfl ?_
  obtain ⟨r1, hr1, hR⟩ := bindE hR
  refine cls [] rfl rfl cb64 (ok64 b _ hr1) (.cons (.agg (.cons (.sc _) (.cons (.sc _) (.cons (.sc _) (.nil)))) rfl) (.nil)) (.inr rfl) rfl ?_
  obtain ⟨r2, hr2, hR⟩ := bindE hR
  refine cls [] rfl rfl cb63 (ok63 a r1 _ hr2) (.cons (.agg (.cons (.sc _) (.cons (.sc _) (.cons (.sc _) (.nil)))) rfl) (.cons (.agg (.cons (.sc _) (.cons (.sc _) (.cons (.sc _) (.nil)))) rfl) (.nil))) (.inr rfl) rfl ?_
  refine stB (cs' := [.sc (.int .i64 r2.Lo), .sc (.int .i64 r2.Hi), .sc (.bool r2.Unknown)]) rfl rfl rfl rfl ti44 rfl rfl rfl rfl rfl ?_
  refine RunC.fin ?_
  refine AWP.ret ?_
  have hR := Option.some.inj hR; subst hR
  exact hQ _ _ (LS.mk [(4, .ptr 0 0 0)] (lblks 0 [boxB (α := Bound) true r2]) 1) (aggV (α := Bound) true r2) [] (.inr rfl) (Weak.turnL [(8, 0)] [] rfl rfl (tc (trP' rfl rfl rfl rfl) tn) (mc rfl (.box rfl (.cons (.sc _) (.cons (.sc _) (.cons (.sc _) (.nil)))) rfl) mn)) (ro1 (rvC (v := aggV (α := Bound) true r2) rfl rfl ti44 rfl)) rfl rfl ldA pn
theorem ok25 (b : Bound) (r : Int) (hR : bound_Check b = some r) : FnP Try.prog 25 [aggV false b] (.sc (.int .i64 r)) := by
  refine fnP_of (FnX.walk Try.func25 rfl 37 0 (by simp [Try.ntmps25]) rfl fun W S F Q hQ => ?_)
  unfold bound_Check at hR
  refine AWP.sq ?_
  refine AWP.rgC 8 rfl rfl ?_
  refine bx (cs := _) 0 rfl rfl rfl ?_
  refine pu (v := .sc _) rfl rfl (fun _ => rfl) ?_
  refine RunC.fin ?_
  refine AWP.sq ?_
  refine AWP.block ?_
  refine AWP.joinX (fun z1 : Bool => LS.mk [(1, .ptr 0 0 0), (3, .sc (.bool z1))] (lblks 0 [boxB (α := Bound) true b]) 1) hR (fun o1 hR => ?_) fun z1 hR => ?_
  · refine AWP.rgC 60 rfl rfl ?_
    refine fa rfl rfl ti38 rfl rfl ti4 rfl ?_
    refine ldB (v := .sc _) rfl rfl rfl rfl ti4 rfl rfl ?_
    refine pu (v := .sc _) rfl rfl (fun _ => rfl) ?_
    refine brR hR (fun h2 hR => ?_) fun h2 hR => ?_
    · refine fa (wtG rfl rfl rfl h2) rfl ti38 rfl rfl ti36 rfl ?_
      refine ldB (v := .sc _) (wtG rfl rfl rfl h2) rfl rfl rfl ti36 rfl rfl ?_
      refine pu (v := .sc _) (wtG rfl rfl rfl h2) rfl (fun _ => rfl) ?_
      refine pu (v := .sc _) (wtG rfl rfl rfl h2) rfl (fun _ => rfl) ?_
      refine brR hR (fun h3 hR => ?_) fun h3 hR => ?_
      · refine sk (skW rfl rfl rfl h3) ?_
        refine sk (skW rfl rfl rfl h3) ?_
        refine sk (skW rfl rfl rfl h3) ?_
        refine pkT (v := .sc (.bool true)) (wtG rfl rfl rfl h2) rfl h3 rfl ?_
        refine pkT (v := .sc (.bool true)) rfl rfl h2 rfl ?_
        refine pu (v := .sc _) rfl rfl (fun _ => rfl) ?_
        refine RunC.fin ?_
        have hR := Option.some.inj hR; subst hR
        exact Weak.turnL [(0, 0)] [] rfl rfl (tc (trP' rfl rfl rfl rfl) (tc (.sc _) tn)) (mc rfl (.box rfl (.cons (.sc _) (.cons (.sc _) (.cons (.sc _) (.nil)))) rfl) mn)
      · refine fa (wtG rfl rfl rfl h3) rfl ti38 rfl rfl ti36 rfl ?_
        refine ldB (v := .sc _) (wtG rfl rfl rfl h3) rfl rfl rfl ti36 rfl rfl ?_
        refine pu (v := .sc _) (wtG rfl rfl rfl h3) rfl (fun _ => rfl) ?_
        refine pkF (v := .sc (.bool (b.Hi != 0))) (wtG rfl rfl rfl h2) rfl h3 rfl ?_
        refine pkT (v := .sc (.bool (b.Hi != 0))) rfl rfl h2 rfl ?_
        refine pu (v := .sc _) rfl rfl (fun _ => rfl) ?_
        refine RunC.fin ?_
        have hR := Option.some.inj hR; subst hR
        exact Weak.turnL [(0, 0)] [] rfl rfl (tc (trP' rfl rfl rfl rfl) (tc (.sc _) tn)) (mc rfl (.box rfl (.cons (.sc _) (.cons (.sc _) (.cons (.sc _) (.nil)))) rfl) mn)
    · refine sk (skW rfl rfl rfl h2) ?_
      refine sk (skW rfl rfl rfl h2) ?_
      refine sk (skW rfl rfl rfl h2) ?_
      refine sk (skW rfl rfl rfl h2) ?_
      refine sk (skW2 rfl rfl rfl) ?_
      refine sk (skW2 rfl rfl rfl) ?_
      refine sk (skW2 rfl rfl rfl) ?_
      refine sk (skW rfl rfl rfl h2) ?_
      refine pkF (v := .sc (.bool false)) rfl rfl h2 rfl ?_
      refine pu (v := .sc _) rfl rfl (fun _ => rfl) ?_
      refine RunC.fin ?_
      have hR := Option.some.inj hR; subst hR
      exact Weak.turnL [(0, 0)] [] rfl rfl (tc (trP' rfl rfl rfl rfl) (tc (.sc _) tn)) (mc rfl (.box rfl (.cons (.sc _) (.cons (.sc _) (.cons (.sc _) (.nil)))) rfl) mn)
  · refine AWP.cd hR rfl (fun h4 hR => ?_) fun h4 hR => ?_
    · refine AWP.sq ?_
      refine AWP.rgC 5 rfl rfl ?_
      refine pu (v := .sc _) rfl rfl (fun _ => rfl) ?_
      refine RunC.fin ?_
      refine AWP.ret ?_
      refine rtB ?_
      refine rtT ?_
      have hR := Option.some.inj hR; subst hR
      exact hQ _ _ (LS.mk [(2, .sc (.int .i64 3))] (lblks 0 []) 0) (.sc (.int .i64 3)) [] (.inr rfl) (Weak.turnL [] [] rfl rfl (tc (.sc _) tn) mn) (ro1 (rvT (v := .sc (.int .i64 3)) rfl)) rfl rfl (.sc _) pn
    · refine AWP.joinX (fun z5 : Bool => LS.mk [(1, .ptr 0 0 0), (16, .sc (.bool z5))] (lblks 0 [boxB (α := Bound) true b]) 1) hR (fun o5 hR => ?_) fun z5 hR => ?_
      · refine AWP.rgC 61 rfl rfl ?_
        refine fa rfl rfl ti38 rfl rfl ti36 rfl ?_
        refine ldB (v := .sc _) rfl rfl rfl rfl ti36 rfl rfl ?_
        refine fa rfl rfl ti38 rfl rfl ti36 rfl ?_
        refine ldB (v := .sc _) rfl rfl rfl rfl ti36 rfl rfl ?_
        refine pu (v := .sc _) rfl rfl (fun _ => rfl) ?_
        refine pu (v := .sc _) rfl rfl (fun _ => rfl) ?_
        refine pu (v := .sc _) rfl rfl (fun _ => rfl) ?_
        refine brR hR (fun h6 hR => ?_) fun h6 hR => ?_
        · refine sk (skW rfl rfl rfl h6) ?_
          refine sk (skW rfl rfl rfl h6) ?_
          refine sk (skW rfl rfl rfl h6) ?_
          refine sk (skW rfl rfl rfl h6) ?_
          refine sk (skW rfl rfl rfl h6) ?_
          refine sk (skW rfl rfl rfl h6) ?_
          refine pkT (v := .sc (.bool true)) rfl rfl h6 rfl ?_
          refine pu (v := .sc _) rfl rfl (fun _ => rfl) ?_
          refine RunC.fin ?_
          have hR := Option.some.inj hR; subst hR
          exact Weak.turnL [(0, 0)] [] rfl rfl (tc (trP' rfl rfl rfl rfl) (tc (.sc _) tn)) (mc rfl (.box rfl (.cons (.sc _) (.cons (.sc _) (.cons (.sc _) (.nil)))) rfl) mn)
        · refine fa (wtG rfl rfl rfl h6) rfl ti38 rfl rfl ti36 rfl ?_
          refine ldB (v := .sc _) (wtG rfl rfl rfl h6) rfl rfl rfl ti36 rfl rfl ?_
          refine fa (wtG rfl rfl rfl h6) rfl ti38 rfl rfl ti36 rfl ?_
          refine ldB (v := .sc _) (wtG rfl rfl rfl h6) rfl rfl rfl ti36 rfl rfl ?_
          refine pu (v := .sc _) (wtG rfl rfl rfl h6) rfl (fun _ => rfl) ?_
          refine pu (v := .sc _) (wtG rfl rfl rfl h6) rfl (fun _ => rfl) ?_
          refine pkF (v := .sc (.bool (decide ((mx2 b.Lo b.Hi) > 1152921504606846976)))) rfl rfl h6 rfl ?_
          refine pu (v := .sc _) rfl rfl (fun _ => rfl) ?_
          refine RunC.fin ?_
          have hR := Option.some.inj hR; subst hR
          exact Weak.turnL [(0, 0)] [] rfl rfl (tc (trP' rfl rfl rfl rfl) (tc (.sc _) tn)) (mc rfl (.box rfl (.cons (.sc _) (.cons (.sc _) (.cons (.sc _) (.nil)))) rfl) mn)
      · refine AWP.cd hR rfl (fun h7 hR => ?_) fun h7 hR => ?_
        · refine AWP.sq ?_
          refine AWP.rgC 5 rfl rfl ?_
          refine pu (v := .sc _) rfl rfl (fun _ => rfl) ?_
          refine RunC.fin ?_
          refine AWP.ret ?_
          refine rtB ?_
          refine rtT ?_
          have hR := Option.some.inj hR; subst hR
          exact hQ _ _ (LS.mk [(2, .sc (.int .i64 4))] (lblks 0 []) 0) (.sc (.int .i64 4)) [] (.inr rfl) (Weak.turnL [] [] rfl rfl (tc (.sc _) tn) mn) (ro1 (rvT (v := .sc (.int .i64 4)) rfl)) rfl rfl (.sc _) pn
        · refine AWP.sq ?_
          refine AWP.rgC 25 rfl rfl ?_
          refine fa rfl rfl ti38 rfl rfl ti36 rfl ?_
          refine ldB (v := .sc _) rfl rfl rfl rfl ti36 rfl rfl ?_
          refine fa rfl rfl ti38 rfl rfl ti36 rfl ?_
          refine ldB (v := .sc _) rfl rfl rfl rfl ti36 rfl rfl ?_
          refine pu (v := .sc _) rfl rfl (fun _ => rfl) ?_
          refine pu (v := .sc _) rfl rfl (fun _ => rfl) ?_
          refine RunC.fin ?_
          refine AWP.cd hR rfl (fun h8 hR => ?_) fun h8 hR => ?_
          · refine AWP.sq ?_
            refine AWP.rgC 29 rfl rfl ?_
            refine pu (v := .sc _) rfl rfl (fun _ => rfl) ?_
            refine RunC.fin ?_
            refine AWP.ret ?_
            refine rtB ?_
            refine rtT ?_
            have hR := Option.some.inj hR; subst hR
            exact hQ _ _ (LS.mk [(2, .sc (.int .i64 11))] (lblks 0 []) 0) (.sc (.int .i64 11)) [] (.inr rfl) (Weak.turnL [] [] rfl rfl (tc (.sc _) tn) mn) (ro1 (rvT (v := .sc (.int .i64 11)) rfl)) rfl rfl (.sc _) pn
          · refine AWP.skip ?_
            refine skB ?_
            refine skT ?_
            refine AWP.sq ?_
            refine AWP.rgC 29 rfl rfl ?_
            refine pu (v := .sc _) rfl rfl (fun _ => rfl) ?_
            refine RunC.fin ?_
            refine AWP.ret ?_
            have hR := Option.some.inj hR; subst hR
            exact hQ _ _ (LS.mk [(2, .sc (.int .i64 0))] (lblks 0 []) 0) (.sc (.int .i64 0)) [] (.inr rfl) (Weak.turnL [] [] rfl rfl (tc (.sc _) tn) mn) (ro1 (rvT (v := .sc (.int .i64 0)) rfl)) rfl rfl (.sc _) pn
theorem ok46 (s : Seen) (r : Int) (hR : tracklet_CheckSeen s = some r) : FnP Try.prog 46 [aggV false s] (.sc (.int .i64 r)) := by
  refine fnP_of (FnX.walk Try.func46 rfl 85 0 (by simp [Try.ntmps46]) rfl fun W S F Q hQ => ?_)
  unfold tracklet_CheckSeen at hR
  refine AWP.sq ?_
  refine AWP.rgC 8 rfl rfl ?_
  refine bx (cs := _) 0 rfl rfl rfl ?_
  refine pu (v := .sc _) rfl rfl (fun _ => rfl) ?_
  refine RunC.fin ?_
  refine AWP.sq ?_
  refine AWP.sq ?_
  refine AWP.rgC 24 rfl rfl ?_
  refine fa rfl rfl ti57 rfl rfl ti38 rfl ?_
  refine ldB (v := .agg _) rfl rfl rfl rfl ti38 rfl rfl ?_
  obtain ⟨r1, hr1, hR⟩ := bindE hR
  refine cls [] rfl rfl cb25 (ok25 s.At _ hr1) (.cons (.agg (.cons (.sc _) (.cons (.sc _) (.cons (.sc _) (.nil)))) rfl) (.nil)) (.inr rfl) rfl ?_
  refine pu (v := .sc _) rfl rfl (fun _ => rfl) ?_
  refine RunC.fin ?_
  refine AWP.sq ?_
  refine AWP.rgC 32 rfl rfl ?_
  refine pu (v := .sc _) rfl rfl (fun _ => rfl) ?_
  refine pu (v := .sc _) rfl rfl (fun _ => rfl) ?_
  refine RunC.fin ?_
  refine AWP.cd hR rfl (fun h2 hR => ?_) fun h2 hR => ?_
  · refine AWP.sq ?_
    refine AWP.rgC 40 rfl rfl ?_
    refine pu (v := .sc _) rfl rfl (fun _ => rfl) ?_
    refine pu (v := .sc _) rfl rfl (fun _ => rfl) ?_
    refine RunC.fin ?_
    refine AWP.ret ?_
    refine rtT ?_
    have hR := Option.some.inj hR; subst hR
    exact hQ _ _ (LS.mk [(2, .sc (.int .i64 r1))] (lblks 0 []) 0) (.sc (.int .i64 r1)) [] (.inr rfl) (Weak.turnL [] [] rfl rfl (tc (.sc _) tn) mn) (ro1 (rvT (v := .sc (.int .i64 r1)) rfl)) rfl rfl (.sc _) pn
  · refine AWP.skip ?_
    refine skT ?_
    refine AWP.sq ?_
    refine AWP.block ?_
    refine AWP.sq ?_
    refine AWP.rgC 48 rfl rfl ?_
    refine fa rfl rfl ti57 rfl rfl ti38 rfl ?_
    refine fa rfl rfl ti38 rfl rfl ti4 rfl ?_
    refine ldB (v := .sc _) rfl rfl rfl rfl ti4 rfl rfl ?_
    refine pu (v := .sc _) rfl rfl (fun _ => rfl) ?_
    refine RunC.fin ?_
    refine AWP.cd hR rfl (fun h3 hR => ?_) fun h3 hR => ?_
    · refine AWP.sq ?_
      refine AWP.rgC 52 rfl rfl ?_
      refine pu (v := .sc _) rfl rfl (fun _ => rfl) ?_
      refine RunC.fin ?_
      refine AWP.ret ?_
      refine rtB ?_
      refine rtT ?_
      have hR := Option.some.inj hR; subst hR
      exact hQ _ _ (LS.mk [(2, .sc (.int .i64 1))] (lblks 0 []) 0) (.sc (.int .i64 1)) [] (.inr rfl) (Weak.turnL [] [] rfl rfl (tc (.sc _) tn) mn) (ro1 (rvT (v := .sc (.int .i64 1)) rfl)) rfl rfl (.sc _) pn
    · refine AWP.joinX (fun z4 : Bool => LS.mk [(1, .ptr 0 0 0), (17, .sc (.bool z4))] (lblks 0 [boxB (α := Seen) true s]) 1) hR (fun o4 hR => ?_) fun z4 hR => ?_
      · refine AWP.rgC 92 rfl rfl ?_
        refine fa rfl rfl ti57 rfl rfl ti38 rfl ?_
        refine fa rfl rfl ti38 rfl rfl ti36 rfl ?_
        refine ldB (v := .sc _) rfl rfl rfl rfl ti36 rfl rfl ?_
        refine pu (v := .sc _) rfl rfl (fun _ => rfl) ?_
        refine pu (v := .sc _) rfl rfl (fun _ => rfl) ?_
        refine brR hR (fun h5 hR => ?_) fun h5 hR => ?_
        · refine sk (skW rfl rfl rfl h5) ?_
          refine sk (skW rfl rfl rfl h5) ?_
          refine sk (skW rfl rfl rfl h5) ?_
          refine sk (skW rfl rfl rfl h5) ?_
          refine pkT (v := .sc (.bool true)) rfl rfl h5 rfl ?_
          refine pu (v := .sc _) rfl rfl (fun _ => rfl) ?_
          refine RunC.fin ?_
          have hR := Option.some.inj hR; subst hR
          exact Weak.turnL [(0, 0)] [] rfl rfl (tc (trP' rfl rfl rfl rfl) (tc (.sc _) tn)) (mc rfl (.box rfl (.cons (.sc _) (.cons (.sc _) (.cons (.sc _) (.cons (.sc _) (.cons (.sc _) (.cons (.sc _) (.cons (.sc _) (.cons (.sc _) (.cons (.sc _) (.cons (.sc _) (.cons (.sc _) (.cons (.sc _) (.cons (.sc _) (.cons (.sc _) (.cons (.sc _) (.cons (.sc _) (.cons (.sc _) (.cons (.sc _) (.nil))))))))))))))))))) rfl) mn)
        · refine fa (wtG rfl rfl rfl h5) rfl ti57 rfl rfl ti38 rfl ?_
          refine fa (wtG rfl rfl rfl h5) rfl ti38 rfl rfl ti36 rfl ?_
          refine ldB (v := .sc _) (wtG rfl rfl rfl h5) rfl rfl rfl ti36 rfl rfl ?_
          refine pu (v := .sc _) (wtG rfl rfl rfl h5) rfl (fun _ => rfl) ?_
          refine pkF (v := .sc (.bool (decide (s.At.Hi > 17592186044416)))) rfl rfl h5 rfl ?_
          refine pu (v := .sc _) rfl rfl (fun _ => rfl) ?_
          refine RunC.fin ?_
          have hR := Option.some.inj hR; subst hR
          exact Weak.turnL [(0, 0)] [] rfl rfl (tc (trP' rfl rfl rfl rfl) (tc (.sc _) tn)) (mc rfl (.box rfl (.cons (.sc _) (.cons (.sc _) (.cons (.sc _) (.cons (.sc _) (.cons (.sc _) (.cons (.sc _) (.cons (.sc _) (.cons (.sc _) (.cons (.sc _) (.cons (.sc _) (.cons (.sc _) (.cons (.sc _) (.cons (.sc _) (.cons (.sc _) (.cons (.sc _) (.cons (.sc _) (.cons (.sc _) (.cons (.sc _) (.nil))))))))))))))))))) rfl) mn)
      · refine AWP.cd hR rfl (fun h6 hR => ?_) fun h6 hR => ?_
        · refine AWP.sq ?_
          refine AWP.rgC 5 rfl rfl ?_
          refine pu (v := .sc _) rfl rfl (fun _ => rfl) ?_
          refine RunC.fin ?_
          refine AWP.ret ?_
          refine rtB ?_
          refine rtT ?_
          have hR := Option.some.inj hR; subst hR
          exact hQ _ _ (LS.mk [(2, .sc (.int .i64 4))] (lblks 0 []) 0) (.sc (.int .i64 4)) [] (.inr rfl) (Weak.turnL [] [] rfl rfl (tc (.sc _) tn) mn) (ro1 (rvT (v := .sc (.int .i64 4)) rfl)) rfl rfl (.sc _) pn
        · refine AWP.joinX (fun z7 : Bool => LS.mk [(1, .ptr 0 0 0), (28, .sc (.bool z7))] (lblks 0 [boxB (α := Seen) true s]) 1) hR (fun o7 hR => ?_) fun z7 hR => ?_
          · refine AWP.rgC 101 rfl rfl ?_
            refine fa rfl rfl ti57 rfl rfl ti29 rfl ?_
            refine fa rfl rfl ti29 rfl rfl ti2 rfl ?_
            refine ldB (v := .sc _) rfl rfl rfl rfl ti2 rfl rfl ?_
            refine fa rfl rfl ti57 rfl rfl ti29 rfl ?_
            refine fa rfl rfl ti29 rfl rfl ti2 rfl ?_
            refine ldB (v := .sc _) rfl rfl rfl rfl ti2 rfl rfl ?_
            refine fa rfl rfl ti57 rfl rfl ti29 rfl ?_
            refine fa rfl rfl ti29 rfl rfl ti2 rfl ?_
            refine ldB (v := .sc _) rfl rfl rfl rfl ti2 rfl rfl ?_
            refine pu (v := .sc _) rfl rfl (fun _ => rfl) ?_
            refine pu (v := .sc _) rfl rfl (fun _ => rfl) ?_
            refine pu (v := .sc _) rfl rfl (fun _ => rfl) ?_
            refine brR hR (fun h8 hR => ?_) fun h8 hR => ?_
            · refine sk (skW rfl rfl rfl h8) ?_
              refine sk (skW rfl rfl rfl h8) ?_
              refine sk (skW rfl rfl rfl h8) ?_
              refine sk (skW rfl rfl rfl h8) ?_
              refine sk (skW rfl rfl rfl h8) ?_
              refine sk (skW rfl rfl rfl h8) ?_
              refine sk (skW rfl rfl rfl h8) ?_
              refine sk (skW rfl rfl rfl h8) ?_
              refine sk (skW rfl rfl rfl h8) ?_
              refine sk (skW rfl rfl rfl h8) ?_
              refine sk (skW rfl rfl rfl h8) ?_
              refine pkT (v := .sc (.bool true)) rfl rfl h8 rfl ?_
              refine pu (v := .sc _) rfl rfl (fun _ => rfl) ?_
              refine RunC.fin ?_
              have hR := Option.some.inj hR; subst hR
              exact Weak.turnL [(0, 0)] [] rfl rfl (tc (trP' rfl rfl rfl rfl) (tc (.sc _) tn)) (mc rfl (.box rfl (.cons (.sc _) (.cons (.sc _) (.cons (.sc _) (.cons (.sc _) (.cons (.sc _) (.cons (.sc _) (.cons (.sc _) (.cons (.sc _) (.cons (.sc _) (.cons (.sc _) (.cons (.sc _) (.cons (.sc _) (.cons (.sc _) (.cons (.sc _) (.cons (.sc _) (.cons (.sc _) (.cons (.sc _) (.cons (.sc _) (.nil))))))))))))))))))) rfl) mn)
            · refine fa (wtG rfl rfl rfl h8) rfl ti57 rfl rfl ti29 rfl ?_
              refine fa (wtG rfl rfl rfl h8) rfl ti29 rfl rfl ti2 rfl ?_
              refine ldB (v := .sc _) (wtG rfl rfl rfl h8) rfl rfl rfl ti2 rfl rfl ?_
              refine fa (wtG rfl rfl rfl h8) rfl ti57 rfl rfl ti29 rfl ?_
              refine fa (wtG rfl rfl rfl h8) rfl ti29 rfl rfl ti2 rfl ?_
              refine ldB (v := .sc _) (wtG rfl rfl rfl h8) rfl rfl rfl ti2 rfl rfl ?_
              refine fa (wtG rfl rfl rfl h8) rfl ti57 rfl rfl ti29 rfl ?_
              refine fa (wtG rfl rfl rfl h8) rfl ti29 rfl rfl ti2 rfl ?_
              refine ldB (v := .sc _) (wtG rfl rfl rfl h8) rfl rfl rfl ti2 rfl rfl ?_
              refine pu (v := .sc _) (wtG rfl rfl rfl h8) rfl (fun _ => rfl) ?_
              refine pu (v := .sc _) (wtG rfl rfl rfl h8) rfl (fun _ => rfl) ?_
              refine pkF (v := .sc (.bool (decide ((mn2 (mn2 s.From.X s.From.Y) s.From.Z) < (-4194304))))) rfl rfl h8 rfl ?_
              refine pu (v := .sc _) rfl rfl (fun _ => rfl) ?_
              refine RunC.fin ?_
              have hR := Option.some.inj hR; subst hR
              exact Weak.turnL [(0, 0)] [] rfl rfl (tc (trP' rfl rfl rfl rfl) (tc (.sc _) tn)) (mc rfl (.box rfl (.cons (.sc _) (.cons (.sc _) (.cons (.sc _) (.cons (.sc _) (.cons (.sc _) (.cons (.sc _) (.cons (.sc _) (.cons (.sc _) (.cons (.sc _) (.cons (.sc _) (.cons (.sc _) (.cons (.sc _) (.cons (.sc _) (.cons (.sc _) (.cons (.sc _) (.cons (.sc _) (.cons (.sc _) (.cons (.sc _) (.nil))))))))))))))))))) rfl) mn)
          · refine AWP.cd hR rfl (fun h9 hR => ?_) fun h9 hR => ?_
            · refine AWP.sq ?_
              refine AWP.rgC 5 rfl rfl ?_
              refine pu (v := .sc _) rfl rfl (fun _ => rfl) ?_
              refine RunC.fin ?_
              refine AWP.ret ?_
              refine rtB ?_
              refine rtT ?_
              have hR := Option.some.inj hR; subst hR
              exact hQ _ _ (LS.mk [(2, .sc (.int .i64 4))] (lblks 0 []) 0) (.sc (.int .i64 4)) [] (.inr rfl) (Weak.turnL [] [] rfl rfl (tc (.sc _) tn) mn) (ro1 (rvT (v := .sc (.int .i64 4)) rfl)) rfl rfl (.sc _) pn
            · refine AWP.skip ?_
              refine skB ?_
              refine skT ?_
              refine AWP.sq ?_
              refine AWP.sq ?_
              refine AWP.rgC 49 rfl rfl ?_
              refine fa rfl rfl ti57 rfl rfl ti51 rfl ?_
              refine fa rfl rfl ti51 rfl rfl ti44 rfl ?_
              refine ldB (v := .agg _) rfl rfl rfl rfl ti44 rfl rfl ?_
              refine fa rfl rfl ti57 rfl rfl ti51 rfl ?_
              refine fa rfl rfl ti51 rfl rfl ti44 rfl ?_
              refine ldB (v := .agg _) rfl rfl rfl rfl ti44 rfl rfl ?_
              refine fa rfl rfl ti57 rfl rfl ti51 rfl ?_
              refine fa rfl rfl ti51 rfl rfl ti44 rfl ?_
              refine ldB (v := .agg _) rfl rfl rfl rfl ti44 rfl rfl ?_
              refine bs (α := Bound) 37 true ([s.Box.X, s.Box.Y, s.Box.Z] : List Bound) rfl rfl ti107 rfl ti44 rfl rfl rfl rfl rfl ?_
              refine lenS (α := Bound) rfl rfl ti107 rfl ?_
              refine pu (v := .sc _) rfl rfl (fun _ => rfl) ?_
              refine RunC.fin ?_
              refine AWP.loopK' (fun s10 : Int => LS.mk [(1, .ptr 0 0 0), (62, slV Bound 1 0 0 ([s.Box.X, s.Box.Y, s.Box.Z] : List Bound).length), (63, .sc (.int .i64 (([s.Box.X, s.Box.Y, s.Box.Z] : List Bound).length : Int))), (64, .sc (.int .i64 s10))] (lblks 0 [boxB (α := Seen) true s, arrB (α := Bound) 44 0 true ([s.Box.X, s.Box.Y, s.Box.Z] : List Bound)]) 2) (fun z11 : Unit => LS.mk [(1, .ptr 0 0 0)] (lblks 0 [boxB (α := Seen) true s]) 1) (tracklet_CheckSeen.l1 s) hR (s0 := 0) (Weak.turnL [(0, 0), (37, 0)] [] rfl rfl (tc (trP' rfl rfl rfl rfl) (tc (trS' rfl rfl rfl rfl rfl) (tc (.sc _) (tc (.sc _) tn)))) (mc rfl (.box rfl (.cons (.sc _) (.cons (.sc _) (.cons (.sc _) (.cons (.sc _) (.cons (.sc _) (.cons (.sc _) (.cons (.sc _) (.cons (.sc _) (.cons (.sc _) (.cons (.sc _) (.cons (.sc _) (.cons (.sc _) (.cons (.sc _) (.cons (.sc _) (.cons (.sc _) (.cons (.sc _) (.cons (.sc _) (.cons (.sc _) (.nil))))))))))))))))))) rfl) (mc rfl (btrA' rfl) mn))) (fun s10 o10 hR hE10 => ?_) fun z11 hR => ?_
              · unfold tracklet_CheckSeen.l1 at hR
                refine AWP.sq ?_
                refine AWP.rgC 6 rfl rfl ?_
                obtain ⟨v12, ev12, hR⟩ := letE hR
                refine pu (v := .sc _) rfl rfl (fun _ => puB ev12) ?_
                refine RunC.fin ?_
                refine AWP.sq ?_
                refine AWP.cd hR rfl (fun h13 hR => ?_) fun h13 hR => ?_
                · refine AWP.skip ?_
                  refine skT ?_
                  refine AWP.sq ?_
                  refine AWP.block ?_
                  refine AWP.sq ?_
                  refine AWP.rgC 22 rfl rfl ?_
                  obtain ⟨h14, hR⟩ := chkE hR
                  refine ixS0 (α := Bound) rfl rfl rfl ti107 rfl ti44 rfl h14 ?_
                  refine ldE (α := Bound) (v := .agg _) rfl rfl rfl (ixlt h14) ti44 rfl rfl rfl rfl ?_
                  refine al (cs := [.sc (.int .i64 0), .sc (.int .i64 0), .sc (.bool false)]) 14 rfl rfl ti44 rfl rfl ?_
                  refine stB (cs' := [.sc (.int .i64 (gt ([s.Box.X, s.Box.Y, s.Box.Z] : List Bound) s10).Lo), .sc (.int .i64 (gt ([s.Box.X, s.Box.Y, s.Box.Z] : List Bound) s10).Hi), .sc (.bool (gt ([s.Box.X, s.Box.Y, s.Box.Z] : List Bound) s10).Unknown)]) rfl rfl rfl rfl ti44 rfl rfl rfl rfl rfl ?_
                  refine RunC.fin ?_
                  refine AWP.sq ?_
                  refine AWP.sq ?_
                  refine AWP.rgC 34 rfl rfl ?_
                  refine ldB (v := .agg _) rfl rfl rfl rfl ti44 rfl rfl ?_
                  obtain ⟨r15, hr15, hR⟩ := bindE hR
                  refine cls [] rfl rfl cb47 (ok47 (gt ([s.Box.X, s.Box.Y, s.Box.Z] : List Bound) s10) _ hr15) (.cons (.agg (.cons (.sc _) (.cons (.sc _) (.cons (.sc _) (.nil)))) rfl) (.nil)) (.inr rfl) rfl ?_
                  refine pu (v := .sc _) rfl rfl (fun _ => rfl) ?_
                  refine RunC.fin ?_
                  refine AWP.sq ?_
                  refine AWP.rgC 42 rfl rfl ?_
                  refine pu (v := .sc _) rfl rfl (fun _ => rfl) ?_
                  refine pu (v := .sc _) rfl rfl (fun _ => rfl) ?_
                  refine RunC.fin ?_
                  refine AWP.cd hR rfl (fun h16 hR => ?_) fun h16 hR => ?_
                  · refine AWP.sq ?_
                    refine AWP.rgC 50 rfl rfl ?_
                    refine pu (v := .sc _) rfl rfl (fun _ => rfl) ?_
                    refine pu (v := .sc _) rfl rfl (fun _ => rfl) ?_
                    refine RunC.fin ?_
                    refine AWP.ret ?_
                    refine rtT ?_
                    refine rtB ?_
                    refine rtT ?_
                    refine rtT ?_
                    refine rtB (rtT ?_)
                    replace hR := escL hR hE10
                    refine rtT ?_
                    have hR := Option.some.inj hR; subst hR
                    exact hQ _ _ (LS.mk [(2, .sc (.int .i64 r15))] (lblks 0 []) 0) (.sc (.int .i64 r15)) [] (.inr rfl) (Weak.turnL [] [] rfl rfl (tc (.sc _) tn) mn) (ro1 (rvT (v := .sc (.int .i64 r15)) rfl)) rfl rfl (.sc _) pn
                  · refine AWP.skip ?_
                    refine skT ?_
                    refine AWP.joinX (fun z17 : Bool => LS.mk [(1, .ptr 0 0 0), (62, slV Bound 1 0 0 ([s.Box.X, s.Box.Y, s.Box.Z] : List Bound).length), (63, .sc (.int .i64 (([s.Box.X, s.Box.Y, s.Box.Z] : List Bound).length : Int))), (64, .sc (.int .i64 s10)), (80, .sc (.bool z17))] (lblks 0 [boxB (α := Seen) true s, arrB (α := Bound) 44 0 true ([s.Box.X, s.Box.Y, s.Box.Z] : List Bound)]) 2) hR (fun o17 hR => ?_) fun z17 hR => ?_
                    · refine AWP.rgC 74 rfl rfl ?_
                      refine fa rfl rfl ti44 rfl rfl ti42 rfl ?_
                      refine ldB (v := .sc _) rfl rfl rfl rfl ti42 rfl rfl ?_
                      obtain ⟨v18, ev18, hR⟩ := letE hR
                      refine pu (v := .sc _) rfl rfl (fun _ => puB ev18) ?_
                      refine pu (v := .sc _) rfl rfl (fun _ => rfl) ?_
                      refine brR hR (fun h19 hR => ?_) fun h19 hR => ?_
                      · refine sk (skW rfl rfl rfl h19) ?_
                        refine sk (skW rfl rfl rfl h19) ?_
                        refine sk (skW rfl rfl rfl h19) ?_
                        refine pkT (v := .sc (.bool true)) rfl rfl h19 rfl ?_
                        refine RunC.fin ?_
                        have hR := Option.some.inj hR; subst hR
                        exact Weak.turnL [(0, 0), (1, 0)] [] rfl rfl (tc (trP' rfl rfl rfl rfl) (tc (trS' rfl rfl rfl rfl rfl) (tc (.sc _) (tc (.sc _) (tc (.sc _) tn))))) (mc rfl (.box rfl (.cons (.sc _) (.cons (.sc _) (.cons (.sc _) (.cons (.sc _) (.cons (.sc _) (.cons (.sc _) (.cons (.sc _) (.cons (.sc _) (.cons (.sc _) (.cons (.sc _) (.cons (.sc _) (.cons (.sc _) (.cons (.sc _) (.cons (.sc _) (.cons (.sc _) (.cons (.sc _) (.cons (.sc _) (.cons (.sc _) (.nil))))))))))))))))))) rfl) (mc rfl (btrA' rfl) mn))
                      · refine fa (wtG rfl rfl rfl h19) rfl ti44 rfl rfl ti42 rfl ?_
                        refine ldB (v := .sc _) (wtG rfl rfl rfl h19) rfl rfl rfl ti42 rfl rfl ?_
                        obtain ⟨v20, ev20, hR⟩ := letE hR
                        refine pu (v := .sc _) (wtG rfl rfl rfl h19) rfl (fun _ => puB ev20) ?_
                        refine pkF (v := .sc (.bool v20)) rfl rfl h19 rfl ?_
                        refine RunC.fin ?_
                        have hR := Option.some.inj hR; subst hR
                        exact Weak.turnL [(0, 0), (1, 0)] [] rfl rfl (tc (trP' rfl rfl rfl rfl) (tc (trS' rfl rfl rfl rfl rfl) (tc (.sc _) (tc (.sc _) (tc (.sc _) tn))))) (mc rfl (.box rfl (.cons (.sc _) (.cons (.sc _) (.cons (.sc _) (.cons (.sc _) (.cons (.sc _) (.cons (.sc _) (.cons (.sc _) (.cons (.sc _) (.cons (.sc _) (.cons (.sc _) (.cons (.sc _) (.cons (.sc _) (.cons (.sc _) (.cons (.sc _) (.cons (.sc _) (.cons (.sc _) (.cons (.sc _) (.cons (.sc _) (.nil))))))))))))))))))) rfl) (mc rfl (btrA' rfl) mn))
                    · refine AWP.cd hR rfl (fun h21 hR => ?_) fun h21 hR => ?_
                      · refine AWP.sq ?_
                        refine AWP.rgC 6 rfl rfl ?_
                        refine pu (v := .sc _) rfl rfl (fun _ => rfl) ?_
                        refine RunC.fin ?_
                        refine AWP.ret ?_
                        refine rtB ?_
                        refine rtT ?_
                        refine rtT ?_
                        refine rtB (rtT ?_)
                        replace hR := escL hR hE10
                        refine rtT ?_
                        have hR := Option.some.inj hR; subst hR
                        exact hQ _ _ (LS.mk [(2, .sc (.int .i64 4))] (lblks 0 []) 0) (.sc (.int .i64 4)) [] (.inr rfl) (Weak.turnL [] [] rfl rfl (tc (.sc _) tn) mn) (ro1 (rvT (v := .sc (.int .i64 4)) rfl)) rfl rfl (.sc _) pn
                      · refine AWP.skip ?_
                        refine skB ?_
                        refine skT ?_
                        refine AWP.rgC 10 rfl rfl ?_
                        refine pu (v := .sc _) rfl rfl (fun _ => rfl) ?_
                        refine pu (v := .sc _) rfl rfl (fun _ => rfl) ?_
                        refine RunC.fin ?_
                        refine ⟨(w6 (s10 + 1)), (Option.some.inj hR).symm, ?_⟩
                        exact Weak.turnL [(0, 0), (1, 0)] [] rfl rfl (tc (trP' rfl rfl rfl rfl) (tc (trS' rfl rfl rfl rfl rfl) (tc (.sc _) (tc (.sc _) tn)))) (mc rfl (.box rfl (.cons (.sc _) (.cons (.sc _) (.cons (.sc _) (.cons (.sc _) (.cons (.sc _) (.cons (.sc _) (.cons (.sc _) (.cons (.sc _) (.cons (.sc _) (.cons (.sc _) (.cons (.sc _) (.cons (.sc _) (.cons (.sc _) (.cons (.sc _) (.cons (.sc _) (.cons (.sc _) (.cons (.sc _) (.cons (.sc _) (.nil))))))))))))))))))) rfl) (mc rfl (btrA' rfl) mn))
                · refine AWP.exit ?_
                  refine exT ?_
                  refine exT ?_
                  refine exH (skT ?_)
                  refine ⟨(), (Option.some.inj hR).symm, ?_⟩
                  exact Weak.turnL [(0, 0)] [] rfl rfl (tc (trP' rfl rfl rfl rfl) tn) (mc rfl (.box rfl (.cons (.sc _) (.cons (.sc _) (.cons (.sc _) (.cons (.sc _) (.cons (.sc _) (.cons (.sc _) (.cons (.sc _) (.cons (.sc _) (.cons (.sc _) (.cons (.sc _) (.cons (.sc _) (.cons (.sc _) (.cons (.sc _) (.cons (.sc _) (.cons (.sc _) (.cons (.sc _) (.cons (.sc _) (.cons (.sc _) (.nil))))))))))))))))))) rfl) mn)
              · refine skT ?_
                refine AWP.sq ?_
                refine AWP.rgC 17 rfl rfl ?_
                refine fa rfl rfl ti57 rfl rfl ti55 rfl ?_
                refine ldB (v := .agg _) rfl rfl rfl rfl ti55 rfl rfl ?_
                obtain ⟨r22, hr22, hR⟩ := bindE hR
                refine cls [] rfl rfl cb56 (ok56 s.Flux _ hr22) (.cons (.agg (.cons (.sc _) (.cons (.sc _) (.cons (.sc _) (.nil)))) rfl) (.nil)) (.inr rfl) rfl ?_
                refine pu (v := .sc _) rfl rfl (fun _ => rfl) ?_
                refine RunC.fin ?_
                refine AWP.ret ?_
                have hR := Option.some.inj hR; subst hR
                exact hQ _ _ (LS.mk [(2, .sc (.int .i64 r22))] (lblks 0 []) 0) (.sc (.int .i64 r22)) [] (.inr rfl) (Weak.turnL [] [] rfl rfl (tc (.sc _) tn) mn) (ro1 (rvT (v := .sc (.int .i64 r22)) rfl)) rfl rfl (.sc _) pn
theorem ok45 (x : Int) (r : Bound) (hR : spykeep4_exact_1 x = some r) : FnP Try.prog 45 [.sc (.int .i64 x)] (aggV (α := Bound) true r) := by
  refine fnP_of (FnX.walk Try.func45 rfl 6 0 (by simp [Try.ntmps45]) rfl fun W S F Q hQ => ?_)
  unfold spykeep4_exact_1 at hR
  refine AWP.sq ?_
  refine AWP.rgC 4 rfl rfl ?_
  refine al (cs := [.sc (.int .i64 0), .sc (.int .i64 0), .sc (.bool false)]) 0 rfl rfl ti44 rfl rfl ?_
  refine RunC.fin ?_
  refine AWP.sq ?_
  refine AWP.rgC 20 rfl rfl ?_
  refine pu (v := .sc _) rfl rfl (fun _ => rfl) ?_
  refine pu (v := .sc _) rfl rfl (fun _ => rfl) ?_
  refine bu (cs := [.sc (.int .i64 x), .sc (.int .i64 x), .sc (.bool false)]) rfl bt44 rfl ?_
  refine stB (cs' := [.sc (.int .i64 x), .sc (.int .i64 x), .sc (.bool false)]) rfl rfl rfl rfl ti44 rfl rfl rfl rfl rfl ?_
  refine RunC.fin ?_
  refine AWP.ret ?_
  have hR := Option.some.inj hR; subst hR
  exact hQ _ _ (LS.mk [(2, .ptr 0 0 0)] (lblks 0 [boxB (α := Bound) true (Bound.mk x x false)]) 1) (aggV (α := Bound) true (Bound.mk x x false)) [] (.inr rfl) (Weak.turnL [(0, 0)] [] rfl rfl (tc (trP' rfl rfl rfl rfl) tn) (mc rfl (.box rfl (.cons (.sc _) (.cons (.sc _) (.cons (.sc _) (.nil)))) rfl) mn)) (ro1 (rvC (v := aggV (α := Bound) true (Bound.mk x x false)) rfl rfl ti44 rfl)) rfl rfl ldA pn
theorem ok41 (v : Int) (r : Bound) (hR : bound_Exact v = some r) : FnP Try.prog 41 [.sc (.int .i64 v)] (aggV (α := Bound) true r) := by
  refine fnP_of (FnX.walk Try.func41 rfl 6 0 (by simp [Try.ntmps41]) rfl fun W S F Q hQ => ?_)
  unfold bound_Exact at hR
  refine AWP.sq ?_
  refine AWP.rgC 4 rfl rfl ?_
  refine al (cs := [.sc (.int .i64 0), .sc (.int .i64 0), .sc (.bool false)]) 0 rfl rfl ti44 rfl rfl ?_
  refine RunC.fin ?_
  refine AWP.sq ?_
  refine AWP.rgC 20 rfl rfl ?_
  refine pu (v := .sc _) rfl rfl (fun _ => rfl) ?_
  refine pu (v := .sc _) rfl rfl (fun _ => rfl) ?_
  obtain ⟨r1, hr1, hR⟩ := bindE hR
  refine cls [] rfl rfl cb44 (ok44 v v _ hr1) (.cons (.sc _) (.cons (.sc _) (.nil))) (.inr rfl) rfl ?_
  refine stB (cs' := [.sc (.int .i64 r1.Lo), .sc (.int .i64 r1.Hi), .sc (.bool r1.Unknown)]) rfl rfl rfl rfl ti44 rfl rfl rfl rfl rfl ?_
  refine RunC.fin ?_
  refine AWP.ret ?_
  have hR := Option.some.inj hR; subst hR
  exact hQ _ _ (LS.mk [(2, .ptr 0 0 0)] (lblks 0 [boxB (α := Bound) true r1]) 1) (aggV (α := Bound) true r1) [] (.inr rfl) (Weak.turnL [(0, 0)] [] rfl rfl (tc (trP' rfl rfl rfl rfl) tn) (mc rfl (.box rfl (.cons (.sc _) (.cons (.sc _) (.cons (.sc _) (.nil)))) rfl) mn)) (ro1 (rvC (v := aggV (α := Bound) true r1) rfl rfl ti44 rfl)) rfl rfl ldA pn
theorem ok39 (v : Vec) (most : Int) (r : Bool) (hR : sky_within v most = some r) : FnP Try.prog 39 [aggV false v, .sc (.int .i64 most)] (.sc (.bool r)) := by
  refine fnP_of (FnX.walk Try.func39 rfl 27 0 (by simp [Try.ntmps39]) rfl fun W S F Q hQ => ?_)
  unfold sky_within at hR
  refine AWP.sq ?_
  refine AWP.rgC 8 rfl rfl ?_
  refine bx (cs := _) 0 rfl rfl rfl ?_
  refine pu (v := .sc _) rfl rfl (fun _ => rfl) ?_
  refine RunC.fin ?_
  refine AWP.sq ?_
  refine AWP.sq ?_
  refine AWP.rgC 40 rfl rfl ?_
  refine fa rfl rfl ti29 rfl rfl ti2 rfl ?_
  refine ldB (v := .sc _) rfl rfl rfl rfl ti2 rfl rfl ?_
  refine fa rfl rfl ti29 rfl rfl ti2 rfl ?_
  refine ldB (v := .sc _) rfl rfl rfl rfl ti2 rfl rfl ?_
  refine fa rfl rfl ti29 rfl rfl ti2 rfl ?_
  refine ldB (v := .sc _) rfl rfl rfl rfl ti2 rfl rfl ?_
  refine buA (cs := [.sc (.int .i64 v.X), .sc (.int .i64 v.Y), .sc (.int .i64 v.Z)]) rfl ti103 rfl ti2 rfl rfl ?_
  refine pu (v := .sc _) rfl rfl (fun _ => rfl) ?_
  refine RunC.fin ?_
  refine AWP.loopK' (fun s1 : Int => LS.mk [(1, .sc (.int .i64 most)), (13, aggV (α := Int × Int × Int) true (v.X, v.Y, v.Z)), (14, .sc (.int .i64 s1))] (lblks 0 []) 0) (fun z2 : Unit => LS.mk [] (lblks 0 []) 0) (sky_within.l1 v most) hR (s0 := 0) (Weak.turnL [] [] rfl rfl (tc (.sc _) (tc (.agg (.cons (.sc _) (.cons (.sc _) (.cons (.sc _) (.nil)))) rfl) (tc (.sc _) tn))) mn) (fun s1 o1 hR hE1 => ?_) fun z2 hR => ?_
  · unfold sky_within.l1 at hR
    refine AWP.sq ?_
    refine AWP.rgC 4 rfl rfl ?_
    refine pu (v := .sc _) rfl rfl (fun _ => rfl) ?_
    refine RunC.fin ?_
    refine AWP.sq ?_
    refine AWP.cd hR rfl (fun h3 hR => ?_) fun h3 hR => ?_
    · refine AWP.skip ?_
      refine skT ?_
      refine AWP.sq ?_
      refine AWP.block ?_
      refine AWP.sq ?_
      refine AWP.rgC 12 rfl rfl ?_
      obtain ⟨h4, hR⟩ := chkE hR
      refine ixD (α := Int) (nw := true) (xs := ([v.X, v.Y, v.Z] : List Int)) (v := .sc _) rfl rfl rfl rfl ti103 rfl ti2 h4 rfl rfl rfl ?_
      refine pu (v := .sc _) rfl rfl (fun _ => rfl) ?_
      refine RunC.fin ?_
      refine AWP.joinX (fun z5 : Bool => LS.mk [(1, .sc (.int .i64 most)), (13, aggV (α := Int × Int × Int) true (v.X, v.Y, v.Z)), (14, .sc (.int .i64 s1)), (25, .sc (.bool z5))] (lblks 0 []) 0) hR (fun o5 hR => ?_) fun z5 hR => ?_
      · refine AWP.rgC 48 rfl rfl ?_
        refine pu (v := .sc _) rfl rfl (fun _ => rfl) ?_
        refine pu (v := .sc _) rfl rfl (fun _ => rfl) ?_
        refine pu (v := .sc _) rfl rfl (fun _ => rfl) ?_
        obtain ⟨v6, ev6, hR⟩ := letE hR
        refine pu (v := .sc _) rfl rfl (fun _ => puB ev6) ?_
        refine pu (v := .sc _) rfl rfl (fun _ => rfl) ?_
        refine brR hR (fun h7 hR => ?_) fun h7 hR => ?_
        · refine sk (skW rfl rfl rfl h7) ?_
          refine sk (skW rfl rfl rfl h7) ?_
          refine sk (skW rfl rfl rfl h7) ?_
          refine pkT (v := .sc (.bool true)) rfl rfl h7 rfl ?_
          refine RunC.fin ?_
          have hR := Option.some.inj hR; subst hR
          exact Weak.turnL [] [] rfl rfl (tc (.sc _) (tc (.agg (.cons (.sc _) (.cons (.sc _) (.cons (.sc _) (.nil)))) rfl) (tc (.sc _) (tc (.sc _) tn)))) mn
        · refine pu (v := .sc _) (wtG rfl rfl rfl h7) rfl (fun _ => rfl) ?_
          refine pu (v := .sc _) (wtG rfl rfl rfl h7) rfl (fun _ => rfl) ?_
          refine pu (v := .sc _) (wtG rfl rfl rfl h7) rfl (fun _ => rfl) ?_
          refine pkF (v := .sc (.bool (decide ((gt ([v.X, v.Y, v.Z] : List Int) s1) > most)))) rfl rfl h7 rfl ?_
          refine RunC.fin ?_
          have hR := Option.some.inj hR; subst hR
          exact Weak.turnL [] [] rfl rfl (tc (.sc _) (tc (.agg (.cons (.sc _) (.cons (.sc _) (.cons (.sc _) (.nil)))) rfl) (tc (.sc _) (tc (.sc _) tn)))) mn
      · refine AWP.cd hR rfl (fun h8 hR => ?_) fun h8 hR => ?_
        · refine AWP.sq ?_
          refine AWP.rgC 4 rfl rfl ?_
          refine pu (v := .sc _) rfl rfl (fun _ => rfl) ?_
          refine RunC.fin ?_
          refine AWP.ret ?_
          refine rtB ?_
          refine rtT ?_
          refine rtT ?_
          refine rtB (rtT ?_)
          replace hR := escL hR hE1
          refine rtT ?_
          have hR := Option.some.inj hR; subst hR
          exact hQ _ _ (LS.mk [(4, .sc (.bool false))] (lblks 0 []) 0) (.sc (.bool false)) [] (.inr rfl) (Weak.turnL [] [] rfl rfl (tc (.sc _) tn) mn) (ro1 (rvT (v := .sc (.bool false)) rfl)) rfl rfl (.sc _) pn
        · refine AWP.skip ?_
          refine skB ?_
          refine skT ?_
          refine AWP.rgC 8 rfl rfl ?_
          refine pu (v := .sc _) rfl rfl (fun _ => rfl) ?_
          refine pu (v := .sc _) rfl rfl (fun _ => rfl) ?_
          refine RunC.fin ?_
          refine ⟨(w6 (s1 + 1)), (Option.some.inj hR).symm, ?_⟩
          exact Weak.turnL [] [] rfl rfl (tc (.sc _) (tc (.agg (.cons (.sc _) (.cons (.sc _) (.cons (.sc _) (.nil)))) rfl) (tc (.sc _) tn))) mn
    · refine AWP.exit ?_
      refine exT ?_
      refine exT ?_
      refine exH (skT ?_)
      refine ⟨(), (Option.some.inj hR).symm, ?_⟩
      exact Weak.turnL [] [] rfl rfl tn mn
  · refine skT ?_
    refine AWP.sq ?_
    refine AWP.rgC 4 rfl rfl ?_
    refine pu (v := .sc _) rfl rfl (fun _ => rfl) ?_
    refine RunC.fin ?_
    refine AWP.ret ?_
    have hR := Option.some.inj hR; subst hR
    exact hQ _ _ (LS.mk [(4, .sc (.bool true))] (lblks 0 []) 0) (.sc (.bool true)) [] (.inr rfl) (Weak.turnL [] [] rfl rfl (tc (.sc _) tn) mn) (ro1 (rvT (v := .sc (.bool true)) rfl)) rfl rfl (.sc _) pn
theorem ok53 (x : Int) (p1 : Int) (r : Int) (hR : sky_Pull_1 x p1 = some r) : FnP Try.prog 53 [.sc (.int .i64 x), .rp (Cl.c false p1)] (.sc (.int .i64 r)) := by
  refine fnP_of (FnX.walk Try.func53 rfl 25 0 (by simp [Try.ntmps53]) rfl fun W S F Q hQ => ?_)
  unfold sky_Pull_1 at hR
  refine AWP.sq ?_
  refine AWP.rgC 4 rfl rfl ?_
  refine pu (v := .sc _) rfl rfl (fun _ => rfl) ?_
  refine RunC.fin ?_
  refine AWP.sq ?_
  refine AWP.rgC 48 rfl rfl ?_
  refine pu (v := .sc _) rfl rfl (fun _ => rfl) ?_
  refine pu (v := .sc _) rfl rfl (fun _ => rfl) ?_
  refine pu (v := .sc _) rfl rfl (fun _ => rfl) ?_
  refine pu (v := .sc _) rfl rfl (fun _ => rfl) ?_
  refine ldR (v := .sc _) rfl rfl ti2 rfl ?_
  obtain ⟨r1, hr1, hR⟩ := bindE hR
  refine cls [] rfl rfl cb54 (ok54 9007199254740992 (mx2 x (w6 (0 - x))) p1 _ hr1) (.cons (.sc _) (.cons (.sc _) (.cons (.sc _) (.nil)))) (.inr rfl) rfl ?_
  refine pu (v := .tup _) rfl rfl (fun _ => rfl) ?_
  refine pu (v := .sc _) rfl rfl (fun _ => rfl) ?_
  refine pu (v := .sc _) rfl rfl (fun _ => rfl) ?_
  refine pu (v := .sc _) rfl rfl (fun _ => rfl) ?_
  refine pu (v := .sc _) rfl rfl (fun _ => rfl) ?_
  refine RunC.fin ?_
  refine AWP.sq ?_
  refine AWP.rgC 72 rfl rfl ?_
  refine pu (v := .sc _) rfl rfl (fun _ => rfl) ?_
  refine ldR (v := .sc _) rfl rfl ti2 rfl ?_
  refine ldR (v := .sc _) rfl rfl ti2 rfl ?_
  refine pu (v := .sc _) rfl rfl (fun _ => rfl) ?_
  obtain ⟨h2, hR⟩ := chkE hR
  refine qu rfl rfl rfl h2 rfl ?_
  refine pu (v := .sc _) rfl rfl (fun _ => rfl) ?_
  refine RunC.fin ?_
  refine AWP.sq ?_
  refine AWP.sq ?_
  refine AWP.rgC 80 rfl rfl ?_
  refine pu (v := .sc _) rfl rfl (fun _ => rfl) ?_
  refine pu (v := .sc _) rfl rfl (fun _ => rfl) ?_
  refine RunC.fin ?_
  refine AWP.cd hR rfl (fun h3 hR => ?_) fun h3 hR => ?_
  · refine AWP.sq ?_
    refine AWP.rgC 92 rfl rfl ?_
    refine pu (v := .sc _) rfl rfl (fun _ => rfl) ?_
    refine pu (v := .sc _) rfl rfl (fun _ => rfl) ?_
    refine pu (v := .sc _) rfl rfl (fun _ => rfl) ?_
    refine RunC.fin ?_
    refine AWP.ret ?_
    refine rtT ?_
    have hR := Option.some.inj hR; subst hR
    exact hQ _ _ (LS.mk [(3, .sc (.int .i64 (w6 (0 - (w6 (Int.tdiv r1.1 (w6 (p1 * p1))))))))] (lblks 0 []) 0) (.sc (.int .i64 (w6 (0 - (w6 (Int.tdiv r1.1 (w6 (p1 * p1)))))))) [] (.inr rfl) (Weak.turnL [] [] rfl rfl (tc (.sc _) tn) mn) (ro1 (rvT (v := .sc (.int .i64 (w6 (0 - (w6 (Int.tdiv r1.1 (w6 (p1 * p1)))))))) rfl)) rfl rfl (.sc _) pn
  · refine AWP.skip ?_
    refine skT ?_
    refine AWP.sq ?_
    refine AWP.rgC 88 rfl rfl ?_
    refine pu (v := .sc _) rfl rfl (fun _ => rfl) ?_
    refine pu (v := .sc _) rfl rfl (fun _ => rfl) ?_
    refine RunC.fin ?_
    refine AWP.ret ?_
    have hR := Option.some.inj hR; subst hR
    exact hQ _ _ (LS.mk [(3, .sc (.int .i64 (w6 (Int.tdiv r1.1 (w6 (p1 * p1))))))] (lblks 0 []) 0) (.sc (.int .i64 (w6 (Int.tdiv r1.1 (w6 (p1 * p1)))))) [] (.inr rfl) (Weak.turnL [] [] rfl rfl (tc (.sc _) tn) mn) (ro1 (rvT (v := .sc (.int .i64 (w6 (Int.tdiv r1.1 (w6 (p1 * p1)))))) rfl)) rfl rfl (.sc _) pn
end Go.Proofs.Idt
