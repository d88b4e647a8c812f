/- Each function of the program computes its plain function. Conditions: as each theorem states them. -/
import Derived.Test.YtddmapanlfdooaaT
namespace Go.Proofs.Stm
open Go Go.Abs Lf
set_option linter.unusedVariables false
set_option linter.unusedSimpArgs false
set_option maxRecDepth 100000
set_option maxHeartbeats 1000000
theorem ok53 (x : Int) (r : Int) (hR : bits_Len64 x = some r) : FnP Try.prog 53 [.sc (.int .u64 x)] (.sc (.int .i64 r)) := by
  refine fnP_of (FnX.walk Try.func53 rfl 25 0 (by simp [Try.ntmps53]) rfl fun W S F Q hQ => ?_)
  unfold bits_Len64 at hR
  refine AWP.sq ?_
  refine AWP.rgC 4 rfl rfl ?_
  refine pu (v := .sc _) rfl rfl (fun _ => rfl) ?_
  refine RunC.fin ?_
  refine AWP.sq ?_
  refine AWP.sq ?_
  refine AWP.rgC 12 rfl rfl ?_
  refine pu (v := .sc _) rfl rfl (fun _ => rfl) ?_
  refine pu (v := .sc _) rfl rfl (fun _ => rfl) ?_
  refine RunC.fin ?_
  refine AWP.cd hR rfl (fun h1 hR => ?_) fun h1 hR => ?_
  · refine AWP.sq ?_
    refine AWP.rgC 24 rfl rfl ?_
    refine pu (v := .sc _) rfl rfl (fun _ => rfl) ?_
    refine pu (v := .sc _) rfl rfl (fun _ => rfl) ?_
    refine pu (v := .sc _) rfl rfl (fun _ => rfl) ?_
    refine RunC.fin ?_
    refine AWP.rgC 28 rfl rfl ?_
    refine pu (v := .sc _) rfl rfl (fun _ => rfl) ?_
    refine RunC.fin ?_
    refine AWP.sq ?_
    refine AWP.sq ?_
    refine AWP.rgC 36 rfl rfl ?_
    refine pu (v := .sc _) rfl rfl (fun _ => rfl) ?_
    refine pu (v := .sc _) rfl rfl (fun _ => rfl) ?_
    refine RunC.fin ?_
    refine AWP.cd hR rfl (fun h2 hR => ?_) fun h2 hR => ?_
    · refine AWP.sq ?_
      refine AWP.rgC 48 rfl rfl ?_
      refine pu (v := .sc _) rfl rfl (fun _ => rfl) ?_
      refine pu (v := .sc _) rfl rfl (fun _ => rfl) ?_
      refine pu (v := .sc _) rfl rfl (fun _ => rfl) ?_
      refine RunC.fin ?_
      refine AWP.rgC 60 rfl rfl ?_
      refine pu (v := .sc _) rfl rfl (fun _ => rfl) ?_
      refine pu (v := .sc _) rfl rfl (fun _ => rfl) ?_
      refine pu (v := .sc _) rfl rfl (fun _ => rfl) ?_
      refine RunC.fin ?_
      refine AWP.sq ?_
      refine AWP.sq ?_
      refine AWP.rgC 68 rfl rfl ?_
      refine pu (v := .sc _) rfl rfl (fun _ => rfl) ?_
      refine pu (v := .sc _) rfl rfl (fun _ => rfl) ?_
      refine RunC.fin ?_
      refine AWP.cd hR rfl (fun h3 hR => ?_) fun h3 hR => ?_
      · refine AWP.sq ?_
        refine AWP.rgC 80 rfl rfl ?_
        refine pu (v := .sc _) rfl rfl (fun _ => rfl) ?_
        refine pu (v := .sc _) rfl rfl (fun _ => rfl) ?_
        refine pu (v := .sc _) rfl rfl (fun _ => rfl) ?_
        refine RunC.fin ?_
        refine AWP.rgC 92 rfl rfl ?_
        refine pu (v := .sc _) rfl rfl (fun _ => rfl) ?_
        refine pu (v := .sc _) rfl rfl (fun _ => rfl) ?_
        refine pu (v := .sc _) rfl rfl (fun _ => rfl) ?_
        refine RunC.fin ?_
        refine AWP.sq ?_
        refine AWP.rgC 120 rfl rfl ?_
        refine pu (v := .sc _) rfl rfl (fun _ => rfl) ?_
        refine pu (v := .sc _) rfl rfl (fun _ => rfl) ?_
        refine cn rfl rfl ti78 rfl ti5 rfl rfl ?_
        obtain ⟨h4, hR⟩ := chkE hR
        refine ixT (s := tab1) rfl rfl rfl ti9 rfl h4 ?_
        refine cn rfl rfl ti5 rfl ti3 rfl rfl ?_
        obtain ⟨v5, ev5, hR⟩ := letE hR
        refine pu (v := .sc _) rfl rfl (fun _ => puI ev5) ?_
        refine pu (v := .sc _) rfl rfl (fun _ => rfl) ?_
        refine RunC.fin ?_
        refine AWP.ret ?_
        have hR := Option.some.inj hR; subst hR
        exact hQ _ _ (LS.mk [(2, .sc (.int .i64 v5))] (lblks 0 []) 0) (.sc (.int .i64 v5)) [] (.inr rfl) (Weak.turnL [] [] rfl rfl (tc (.sc _) tn) mn) (ro1 (rvT (v := .sc (.int .i64 v5)) rfl)) rfl rfl (.sc _) pn
      · refine AWP.skip ?_
        refine skT ?_
        refine AWP.sq ?_
        refine AWP.rgC 96 rfl rfl ?_
        refine pu (v := .sc _) rfl rfl (fun _ => rfl) ?_
        refine pu (v := .sc _) rfl rfl (fun _ => rfl) ?_
        refine cn rfl rfl ti78 rfl ti5 rfl rfl ?_
        obtain ⟨h6, hR⟩ := chkE hR
        refine ixT (s := tab1) rfl rfl rfl ti9 rfl h6 ?_
        refine cn rfl rfl ti5 rfl ti3 rfl rfl ?_
        obtain ⟨v7, ev7, hR⟩ := letE hR
        refine pu (v := .sc _) rfl rfl (fun _ => puI ev7) ?_
        refine pu (v := .sc _) rfl rfl (fun _ => rfl) ?_
        refine RunC.fin ?_
        refine AWP.ret ?_
        have hR := Option.some.inj hR; subst hR
        exact hQ _ _ (LS.mk [(2, .sc (.int .i64 v7))] (lblks 0 []) 0) (.sc (.int .i64 v7)) [] (.inr rfl) (Weak.turnL [] [] rfl rfl (tc (.sc _) tn) mn) (ro1 (rvT (v := .sc (.int .i64 v7)) rfl)) rfl rfl (.sc _) pn
    · refine AWP.skip ?_
      refine skT ?_
      refine AWP.sq ?_
      refine AWP.sq ?_
      refine AWP.rgC 44 rfl rfl ?_
      refine pu (v := .sc _) rfl rfl (fun _ => rfl) ?_
      refine pu (v := .sc _) rfl rfl (fun _ => rfl) ?_
      refine RunC.fin ?_
      refine AWP.cd hR rfl (fun h8 hR => ?_) fun h8 hR => ?_
      · refine AWP.sq ?_
        refine AWP.rgC 56 rfl rfl ?_
        refine pu (v := .sc _) rfl rfl (fun _ => rfl) ?_
        refine pu (v := .sc _) rfl rfl (fun _ => rfl) ?_
        refine pu (v := .sc _) rfl rfl (fun _ => rfl) ?_
        refine RunC.fin ?_
        refine AWP.rgC 68 rfl rfl ?_
        refine pu (v := .sc _) rfl rfl (fun _ => rfl) ?_
        refine pu (v := .sc _) rfl rfl (fun _ => rfl) ?_
        refine pu (v := .sc _) rfl rfl (fun _ => rfl) ?_
        refine RunC.fin ?_
        refine AWP.sq ?_
        refine AWP.rgC 96 rfl rfl ?_
        refine pu (v := .sc _) rfl rfl (fun _ => rfl) ?_
        refine pu (v := .sc _) rfl rfl (fun _ => rfl) ?_
        refine cn rfl rfl ti78 rfl ti5 rfl rfl ?_
        obtain ⟨h9, hR⟩ := chkE hR
        refine ixT (s := tab1) rfl rfl rfl ti9 rfl h9 ?_
        refine cn rfl rfl ti5 rfl ti3 rfl rfl ?_
        obtain ⟨v10, ev10, hR⟩ := letE hR
        refine pu (v := .sc _) rfl rfl (fun _ => puI ev10) ?_
        refine pu (v := .sc _) rfl rfl (fun _ => rfl) ?_
        refine RunC.fin ?_
        refine AWP.ret ?_
        have hR := Option.some.inj hR; subst hR
        exact hQ _ _ (LS.mk [(2, .sc (.int .i64 v10))] (lblks 0 []) 0) (.sc (.int .i64 v10)) [] (.inr rfl) (Weak.turnL [] [] rfl rfl (tc (.sc _) tn) mn) (ro1 (rvT (v := .sc (.int .i64 v10)) rfl)) rfl rfl (.sc _) pn
      · refine AWP.skip ?_
        refine skT ?_
        refine AWP.sq ?_
        refine AWP.rgC 72 rfl rfl ?_
        refine pu (v := .sc _) rfl rfl (fun _ => rfl) ?_
        refine pu (v := .sc _) rfl rfl (fun _ => rfl) ?_
        refine cn rfl rfl ti78 rfl ti5 rfl rfl ?_
        obtain ⟨h11, hR⟩ := chkE hR
        refine ixT (s := tab1) rfl rfl rfl ti9 rfl h11 ?_
        refine cn rfl rfl ti5 rfl ti3 rfl rfl ?_
        obtain ⟨v12, ev12, hR⟩ := letE hR
        refine pu (v := .sc _) rfl rfl (fun _ => puI ev12) ?_
        refine pu (v := .sc _) rfl rfl (fun _ => rfl) ?_
        refine RunC.fin ?_
        refine AWP.ret ?_
        have hR := Option.some.inj hR; subst hR
        exact hQ _ _ (LS.mk [(2, .sc (.int .i64 v12))] (lblks 0 []) 0) (.sc (.int .i64 v12)) [] (.inr rfl) (Weak.turnL [] [] rfl rfl (tc (.sc _) tn) mn) (ro1 (rvT (v := .sc (.int .i64 v12)) rfl)) rfl rfl (.sc _) pn
  · refine AWP.skip ?_
    refine skT ?_
    refine AWP.sq ?_
    refine AWP.sq ?_
    refine AWP.rgC 20 rfl rfl ?_
    refine pu (v := .sc _) rfl rfl (fun _ => rfl) ?_
    refine pu (v := .sc _) rfl rfl (fun _ => rfl) ?_
    refine RunC.fin ?_
    refine AWP.cd hR rfl (fun h13 hR => ?_) fun h13 hR => ?_
    · refine AWP.sq ?_
      refine AWP.rgC 32 rfl rfl ?_
      refine pu (v := .sc _) rfl rfl (fun _ => rfl) ?_
      refine pu (v := .sc _) rfl rfl (fun _ => rfl) ?_
      refine pu (v := .sc _) rfl rfl (fun _ => rfl) ?_
      refine RunC.fin ?_
      refine AWP.rgC 44 rfl rfl ?_
      refine pu (v := .sc _) rfl rfl (fun _ => rfl) ?_
      refine pu (v := .sc _) rfl rfl (fun _ => rfl) ?_
      refine pu (v := .sc _) rfl rfl (fun _ => rfl) ?_
      refine RunC.fin ?_
      refine AWP.sq ?_
      refine AWP.sq ?_
      refine AWP.rgC 52 rfl rfl ?_
      refine pu (v := .sc _) rfl rfl (fun _ => rfl) ?_
      refine pu (v := .sc _) rfl rfl (fun _ => rfl) ?_
      refine RunC.fin ?_
      refine AWP.cd hR rfl (fun h14 hR => ?_) fun h14 hR => ?_
      · refine AWP.sq ?_
        refine AWP.rgC 64 rfl rfl ?_
        refine pu (v := .sc _) rfl rfl (fun _ => rfl) ?_
        refine pu (v := .sc _) rfl rfl (fun _ => rfl) ?_
        refine pu (v := .sc _) rfl rfl (fun _ => rfl) ?_
        refine RunC.fin ?_
        refine AWP.rgC 76 rfl rfl ?_
        refine pu (v := .sc _) rfl rfl (fun _ => rfl) ?_
        refine pu (v := .sc _) rfl rfl (fun _ => rfl) ?_
        refine pu (v := .sc _) rfl rfl (fun _ => rfl) ?_
        refine RunC.fin ?_
        refine AWP.sq ?_
        refine AWP.rgC 104 rfl rfl ?_
        refine pu (v := .sc _) rfl rfl (fun _ => rfl) ?_
        refine pu (v := .sc _) rfl rfl (fun _ => rfl) ?_
        refine cn rfl rfl ti78 rfl ti5 rfl rfl ?_
        obtain ⟨h15, hR⟩ := chkE hR
        refine ixT (s := tab1) rfl rfl rfl ti9 rfl h15 ?_
        refine cn rfl rfl ti5 rfl ti3 rfl rfl ?_
        obtain ⟨v16, ev16, hR⟩ := letE hR
        refine pu (v := .sc _) rfl rfl (fun _ => puI ev16) ?_
        refine pu (v := .sc _) rfl rfl (fun _ => rfl) ?_
        refine RunC.fin ?_
        refine AWP.ret ?_
        have hR := Option.some.inj hR; subst hR
        exact hQ _ _ (LS.mk [(2, .sc (.int .i64 v16))] (lblks 0 []) 0) (.sc (.int .i64 v16)) [] (.inr rfl) (Weak.turnL [] [] rfl rfl (tc (.sc _) tn) mn) (ro1 (rvT (v := .sc (.int .i64 v16)) rfl)) rfl rfl (.sc _) pn
      · refine AWP.skip ?_
        refine skT ?_
        refine AWP.sq ?_
        refine AWP.rgC 80 rfl rfl ?_
        refine pu (v := .sc _) rfl rfl (fun _ => rfl) ?_
        refine pu (v := .sc _) rfl rfl (fun _ => rfl) ?_
        refine cn rfl rfl ti78 rfl ti5 rfl rfl ?_
        obtain ⟨h17, hR⟩ := chkE hR
        refine ixT (s := tab1) rfl rfl rfl ti9 rfl h17 ?_
        refine cn rfl rfl ti5 rfl ti3 rfl rfl ?_
        obtain ⟨v18, ev18, hR⟩ := letE hR
        refine pu (v := .sc _) rfl rfl (fun _ => puI ev18) ?_
        refine pu (v := .sc _) rfl rfl (fun _ => rfl) ?_
        refine RunC.fin ?_
        refine AWP.ret ?_
        have hR := Option.some.inj hR; subst hR
        exact hQ _ _ (LS.mk [(2, .sc (.int .i64 v18))] (lblks 0 []) 0) (.sc (.int .i64 v18)) [] (.inr rfl) (Weak.turnL [] [] rfl rfl (tc (.sc _) tn) mn) (ro1 (rvT (v := .sc (.int .i64 v18)) rfl)) rfl rfl (.sc _) pn
    · refine AWP.skip ?_
      refine skT ?_
      refine AWP.sq ?_
      refine AWP.sq ?_
      refine AWP.rgC 28 rfl rfl ?_
      refine pu (v := .sc _) rfl rfl (fun _ => rfl) ?_
      refine pu (v := .sc _) rfl rfl (fun _ => rfl) ?_
      refine RunC.fin ?_
      refine AWP.cd hR rfl (fun h19 hR => ?_) fun h19 hR => ?_
      · refine AWP.sq ?_
        refine AWP.rgC 40 rfl rfl ?_
        refine pu (v := .sc _) rfl rfl (fun _ => rfl) ?_
        refine pu (v := .sc _) rfl rfl (fun _ => rfl) ?_
        refine pu (v := .sc _) rfl rfl (fun _ => rfl) ?_
        refine RunC.fin ?_
        refine AWP.rgC 52 rfl rfl ?_
        refine pu (v := .sc _) rfl rfl (fun _ => rfl) ?_
        refine pu (v := .sc _) rfl rfl (fun _ => rfl) ?_
        refine pu (v := .sc _) rfl rfl (fun _ => rfl) ?_
        refine RunC.fin ?_
        refine AWP.sq ?_
        refine AWP.rgC 80 rfl rfl ?_
        refine pu (v := .sc _) rfl rfl (fun _ => rfl) ?_
        refine pu (v := .sc _) rfl rfl (fun _ => rfl) ?_
        refine cn rfl rfl ti78 rfl ti5 rfl rfl ?_
        obtain ⟨h20, hR⟩ := chkE hR
        refine ixT (s := tab1) rfl rfl rfl ti9 rfl h20 ?_
        refine cn rfl rfl ti5 rfl ti3 rfl rfl ?_
        obtain ⟨v21, ev21, hR⟩ := letE hR
        refine pu (v := .sc _) rfl rfl (fun _ => puI ev21) ?_
        refine pu (v := .sc _) rfl rfl (fun _ => rfl) ?_
        refine RunC.fin ?_
        refine AWP.ret ?_
        have hR := Option.some.inj hR; subst hR
        exact hQ _ _ (LS.mk [(2, .sc (.int .i64 v21))] (lblks 0 []) 0) (.sc (.int .i64 v21)) [] (.inr rfl) (Weak.turnL [] [] rfl rfl (tc (.sc _) tn) mn) (ro1 (rvT (v := .sc (.int .i64 v21)) rfl)) rfl rfl (.sc _) pn
      · refine AWP.skip ?_
        refine skT ?_
        refine AWP.sq ?_
        refine AWP.rgC 56 rfl rfl ?_
        refine pu (v := .sc _) rfl rfl (fun _ => rfl) ?_
        refine pu (v := .sc _) rfl rfl (fun _ => rfl) ?_
        refine cn rfl rfl ti78 rfl ti5 rfl rfl ?_
        obtain ⟨h22, hR⟩ := chkE hR
        refine ixT (s := tab1) rfl rfl rfl ti9 rfl h22 ?_
        refine cn rfl rfl ti5 rfl ti3 rfl rfl ?_
        refine pu (v := .sc _) rfl rfl (fun _ => rfl) ?_
        refine pu (v := .sc _) rfl rfl (fun _ => rfl) ?_
        refine RunC.fin ?_
        refine AWP.ret ?_
        have hR := Option.some.inj hR; subst hR
        exact hQ _ _ (LS.mk [(2, .sc (.int .i64 (w6 (0 + (w6 (tabAt tab1 (IntKind.wrap .u8 x)))))))] (lblks 0 []) 0) (.sc (.int .i64 (w6 (0 + (w6 (tabAt tab1 (IntKind.wrap .u8 x))))))) [] (.inr rfl) (Weak.turnL [] [] rfl rfl (tc (.sc _) tn) mn) (ro1 (rvT (v := .sc (.int .i64 (w6 (0 + (w6 (tabAt tab1 (IntKind.wrap .u8 x))))))) rfl)) rfl rfl (.sc _) pn
theorem ok52 (x : Int) (r : Int) (hR : bits_LeadingZeros64 x = some r) : FnP Try.prog 52 [.sc (.int .u64 x)] (.sc (.int .i64 r)) := by
  refine fnP_of (FnX.walk Try.func52 rfl 6 0 (by simp [Try.ntmps52]) rfl fun W S F Q hQ => ?_)
  unfold bits_LeadingZeros64 at hR
  refine AWP.sq ?_
  refine AWP.rgC 4 rfl rfl ?_
  refine pu (v := .sc _) rfl rfl (fun _ => rfl) ?_
  refine RunC.fin ?_
  refine AWP.sq ?_
  refine AWP.rgC 20 rfl rfl ?_
  refine pu (v := .sc _) rfl rfl (fun _ => rfl) ?_
  obtain ⟨r1, hr1, hR⟩ := bindE hR
  refine cls [] rfl rfl cb53 (ok53 x _ hr1) (.cons (.sc _) (.nil)) (.inr rfl) rfl ?_
  refine pu (v := .sc _) rfl rfl (fun _ => rfl) ?_
  refine pu (v := .sc _) rfl rfl (fun _ => rfl) ?_
  refine RunC.fin ?_
  refine AWP.ret ?_
  have hR := Option.some.inj hR; subst hR
  exact hQ _ _ (LS.mk [(2, .sc (.int .i64 (w6 (64 - r1))))] (lblks 0 []) 0) (.sc (.int .i64 (w6 (64 - r1)))) [] (.inr rfl) (Weak.turnL [] [] rfl rfl (tc (.sc _) tn) mn) (ro1 (rvT (v := .sc (.int .i64 (w6 (64 - r1)))) rfl)) rfl rfl (.sc _) pn
theorem ok50 (hi : Int) (lo : Int) (y : Int) (r : NU64 × NU64) (hR : bits_Div64 hi lo y = some r) : FnP Try.prog 50 [.sc (.int .u64 hi), .sc (.int .u64 lo), .sc (.int .u64 y)] (.tup [.sc (.int .u64 r.1.n), .sc (.int .u64 r.2.n)]) := by
  refine fnP_of (FnX.walk Try.func50 rfl 135 0 (by simp [Try.ntmps50]) rfl fun W S F Q hQ => ?_)
  unfold bits_Div64 at hR
  refine AWP.sq ?_
  refine AWP.rgC 8 rfl rfl ?_
  refine pu (v := .sc _) rfl rfl (fun _ => rfl) ?_
  refine pu (v := .sc _) rfl rfl (fun _ => rfl) ?_
  refine RunC.fin ?_
  refine AWP.sq ?_
  refine AWP.sq ?_
  refine AWP.rgC 16 rfl rfl ?_
  refine pu (v := .sc _) rfl rfl (fun _ => rfl) ?_
  refine pu (v := .sc _) rfl rfl (fun _ => rfl) ?_
  refine RunC.fin ?_
  refine AWP.cd hR rfl (fun h1 hR => ?_) fun h1 hR => ?_
  · cases hR
  · refine AWP.skip ?_
    refine skT ?_
    refine AWP.sq ?_
    refine AWP.sq ?_
    refine AWP.rgC 28 rfl rfl ?_
    refine pu (v := .sc _) rfl rfl (fun _ => rfl) ?_
    refine pu (v := .sc _) rfl rfl (fun _ => rfl) ?_
    refine pu (v := .sc _) rfl rfl (fun _ => rfl) ?_
    refine RunC.fin ?_
    refine AWP.cd hR rfl (fun h2 hR => ?_) fun h2 hR => ?_
    · cases hR
    · refine AWP.skip ?_
      refine skT ?_
      refine AWP.sq ?_
      refine AWP.sq ?_
      refine AWP.rgC 36 rfl rfl ?_
      refine pu (v := .sc _) rfl rfl (fun _ => rfl) ?_
      refine pu (v := .sc _) rfl rfl (fun _ => rfl) ?_
      refine RunC.fin ?_
      refine AWP.cd hR rfl (fun h3 hR => ?_) fun h3 hR => ?_
      · refine AWP.sq ?_
        refine AWP.rgD 68 [0, 0, 3, 0, 0, 24, 7, 127] ⟨[], [none, none, none, none, none, none, none, none]⟩ hmix (by kernel_rfl) rfl rfl ?_
        refine pu (v := .sc _) rfl rfl (fun _ => rfl) ?_
        refine pu (v := .sc _) rfl rfl (fun _ => rfl) ?_
        obtain ⟨h4, hR⟩ := chkE hR
        refine qu rfl rfl rfl h4 rfl ?_
        refine pu (v := .sc _) rfl rfl (fun _ => rfl) ?_
        refine pu (v := .sc _) rfl rfl (fun _ => rfl) ?_
        refine rm rfl rfl rfl h4 rfl ?_
        refine pu (v := .sc _) rfl rfl (fun _ => rfl) ?_
        refine pu (v := .sc _) rfl rfl (fun _ => rfl) ?_
        refine RunC.fin ?_
        refine AWP.ret ?_
        refine rtT ?_
        have hR := Option.some.inj hR; subst hR
        exact hQ _ _ (LS.mk [(6, .sc (.int .u64 (IntKind.wrap .u64 (Int.tdiv lo y)))), (7, .sc (.int .u64 (Int.tmod lo y)))] (lblks 0 []) 0) (.tup [.sc (.int .u64 (IntKind.wrap .u64 (Int.tdiv lo y))), .sc (.int .u64 (Int.tmod lo y))]) [] (.inr rfl) (Weak.turnL [] [] rfl rfl (tc (.sc _) (tc (.sc _) tn)) mn) (ro2 (rvT (v := .sc (.int .u64 (IntKind.wrap .u64 (Int.tdiv lo y)))) rfl) (rvT (v := .sc (.int .u64 (Int.tmod lo y))) rfl)) rfl rfl (.tup (.cons (.sc _) (.cons (.sc _) .nil))) pn
      · refine AWP.skip ?_
        refine skT ?_
        refine AWP.sq ?_
        refine AWP.rgC 52 rfl rfl ?_
        refine pu (v := .sc _) rfl rfl (fun _ => rfl) ?_
        obtain ⟨r5, hr5, hR⟩ := bindE hR
        refine cls [] rfl rfl cb52 (ok52 y _ hr5) (.cons (.sc _) (.nil)) (.inr rfl) rfl ?_
        refine cn rfl rfl ti3 rfl ti92 rfl rfl ?_
        refine pu (v := .sc _) rfl rfl (fun _ => rfl) ?_
        refine RunC.fin ?_
        refine AWP.sq ?_
        refine AWP.rgC 68 rfl rfl ?_
        refine pu (v := .sc _) rfl rfl (fun _ => rfl) ?_
        refine pu (v := .sc _) rfl rfl (fun _ => rfl) ?_
        obtain ⟨h6, hR⟩ := chkE hR
        obtain ⟨v7, ev7, hR⟩ := letE hR
        refine shL rfl rfl rfl h6 ev7 ?_
        refine pu (v := .sc _) rfl rfl (fun _ => rfl) ?_
        refine RunC.fin ?_
        refine AWP.sq ?_
        refine AWP.rgC 80 rfl rfl ?_
        refine pu (v := .sc _) rfl rfl (fun _ => rfl) ?_
        refine pu (v := .sc _) rfl rfl (fun _ => rfl) ?_
        refine pu (v := .sc _) rfl rfl (fun _ => rfl) ?_
        refine RunC.fin ?_
        refine AWP.sq ?_
        refine AWP.rgC 92 rfl rfl ?_
        refine pu (v := .sc _) rfl rfl (fun _ => rfl) ?_
        obtain ⟨v8, ev8, hR⟩ := letE hR
        refine pu (v := .sc _) rfl rfl (fun _ => puI ev8) ?_
        refine pu (v := .sc _) rfl rfl (fun _ => rfl) ?_
        refine RunC.fin ?_
        refine AWP.sq ?_
        refine AWP.rgC 128 rfl rfl ?_
        refine pu (v := .sc _) rfl rfl (fun _ => rfl) ?_
        refine pu (v := .sc _) rfl rfl (fun _ => rfl) ?_
        obtain ⟨v9, ev9, hR⟩ := letE hR
        refine shL rfl rfl rfl h6 ev9 ?_
        refine pu (v := .sc _) rfl rfl (fun _ => rfl) ?_
        refine pu (v := .sc _) rfl rfl (fun _ => rfl) ?_
        refine pu (v := .sc _) rfl rfl (fun _ => rfl) ?_
        obtain ⟨h10, hR⟩ := chkE hR
        obtain ⟨v11, ev11, hR⟩ := letE hR
        refine shR rfl rfl rfl h10 ev11 ?_
        obtain ⟨v12, ev12, hR⟩ := letE hR
        refine pu (v := .sc _) rfl rfl (fun _ => puI ev12) ?_
        refine pu (v := .sc _) rfl rfl (fun _ => rfl) ?_
        refine RunC.fin ?_
        refine AWP.sq ?_
        refine AWP.rgC 144 rfl rfl ?_
        refine pu (v := .sc _) rfl rfl (fun _ => rfl) ?_
        refine pu (v := .sc _) rfl rfl (fun _ => rfl) ?_
        obtain ⟨v13, ev13, hR⟩ := letE hR
        refine shL rfl rfl rfl h6 ev13 ?_
        refine pu (v := .sc _) rfl rfl (fun _ => rfl) ?_
        refine RunC.fin ?_
        refine AWP.sq ?_
        refine AWP.rgC 156 rfl rfl ?_
        refine pu (v := .sc _) rfl rfl (fun _ => rfl) ?_
        refine pu (v := .sc _) rfl rfl (fun _ => rfl) ?_
        refine pu (v := .sc _) rfl rfl (fun _ => rfl) ?_
        refine RunC.fin ?_
        refine AWP.sq ?_
        refine AWP.rgC 168 rfl rfl ?_
        refine pu (v := .sc _) rfl rfl (fun _ => rfl) ?_
        obtain ⟨v14, ev14, hR⟩ := letE hR
        refine pu (v := .sc _) rfl rfl (fun _ => puI ev14) ?_
        refine pu (v := .sc _) rfl rfl (fun _ => rfl) ?_
        refine RunC.fin ?_
        refine AWP.sq ?_
        refine AWP.rgC 184 rfl rfl ?_
        refine pu (v := .sc _) rfl rfl (fun _ => rfl) ?_
        refine pu (v := .sc _) rfl rfl (fun _ => rfl) ?_
        obtain ⟨h15, hR⟩ := chkE hR
        refine qu rfl rfl rfl h15 rfl ?_
        refine pu (v := .sc _) rfl rfl (fun _ => rfl) ?_
        refine RunC.fin ?_
        refine AWP.sq ?_
        refine AWP.rgC 208 rfl rfl ?_
        refine pu (v := .sc _) rfl rfl (fun _ => rfl) ?_
        refine pu (v := .sc _) rfl rfl (fun _ => rfl) ?_
        refine pu (v := .sc _) rfl rfl (fun _ => rfl) ?_
        obtain ⟨v16, ev16, hR⟩ := letE hR
        refine pu (v := .sc _) rfl rfl (fun _ => puI ev16) ?_
        refine pu (v := .sc _) rfl rfl (fun _ => rfl) ?_
        refine pu (v := .sc _) rfl rfl (fun _ => rfl) ?_
        refine RunC.fin ?_
        refine AWP.sq ?_
        refine AWP.loopJ (fun s17 : Int × Int => LS.mk [(2, .sc (.int .u64 v7)), (8, .sc (.int .u64 (IntKind.wrap .u64 r5))), (9, .sc (.int .u64 (Int.fdiv v7 (2 ^ 32)))), (10, .sc (.int .u64 v8)), (11, .sc (.int .u64 v12)), (13, .sc (.int .u64 (Int.fdiv v13 (2 ^ 32)))), (14, .sc (.int .u64 v14)), (15, .sc (.int .u64 s17.1)), (16, .sc (.int .u64 s17.2))] (lblks 0 []) 0) (fun z18 : Int => LS.mk [(2, .sc (.int .u64 v7)), (8, .sc (.int .u64 (IntKind.wrap .u64 r5))), (9, .sc (.int .u64 (Int.fdiv v7 (2 ^ 32)))), (10, .sc (.int .u64 v8)), (11, .sc (.int .u64 v12)), (13, .sc (.int .u64 (Int.fdiv v13 (2 ^ 32)))), (14, .sc (.int .u64 v14)), (15, .sc (.int .u64 z18))] (lblks 0 []) 0) (bits_Div64.l1 v7 v8 v13) hR (s0 := (IntKind.wrap .u64 (Int.tdiv v12 (Int.fdiv v7 (2 ^ 32))), IntKind.wrap .u64 (v12 - v16))) (Weak.turnL [] [] rfl rfl (tc (.sc _) (tc (.sc _) (tc (.sc _) (tc (.sc _) (tc (.sc _) (tc (.sc _) (tc (.sc _) (tc (.sc _) (tc (.sc _) tn))))))))) mn) (fun s17 o17 hR => ?_) fun z18 hR => ?_
        · unfold bits_Div64.l1 at hR
          refine AWP.sq ?_
          refine AWP.joinX (fun z19 : Bool => LS.mk [(2, .sc (.int .u64 v7)), (8, .sc (.int .u64 (IntKind.wrap .u64 r5))), (9, .sc (.int .u64 (Int.fdiv v7 (2 ^ 32)))), (10, .sc (.int .u64 v8)), (11, .sc (.int .u64 v12)), (13, .sc (.int .u64 (Int.fdiv v13 (2 ^ 32)))), (14, .sc (.int .u64 v14)), (15, .sc (.int .u64 s17.1)), (16, .sc (.int .u64 s17.2)), (78, .sc (.bool z19))] (lblks 0 []) 0) hR (fun o19 hR => ?_) fun z19 hR => ?_
          · refine AWP.rgC 48 rfl rfl ?_
            refine pu (v := .sc _) rfl rfl (fun _ => rfl) ?_
            refine pu (v := .sc _) rfl rfl (fun _ => rfl) ?_
            refine pu (v := .sc _) rfl rfl (fun _ => rfl) ?_
            refine brR hR (fun h20 hR => ?_) fun h20 hR => ?_
            · refine sk (skW rfl rfl rfl h20) ?_
              refine sk (skW rfl rfl rfl h20) ?_
              refine sk (skW rfl rfl rfl h20) ?_
              refine sk (skW rfl rfl rfl h20) ?_
              refine sk (skW rfl rfl rfl h20) ?_
              refine sk (skW rfl rfl rfl h20) ?_
              refine sk (skW rfl rfl rfl h20) ?_
              refine sk (skW rfl rfl rfl h20) ?_
              refine pkT (v := .sc (.bool true)) rfl rfl h20 rfl ?_
              refine RunC.fin ?_
              have hR := Option.some.inj hR; subst hR
              exact Weak.turnL [] [] rfl rfl (tc (.sc _) (tc (.sc _) (tc (.sc _) (tc (.sc _) (tc (.sc _) (tc (.sc _) (tc (.sc _) (tc (.sc _) (tc (.sc _) (tc (.sc _) tn)))))))))) mn
            · refine pu (v := .sc _) (wtG rfl rfl rfl h20) rfl (fun _ => rfl) ?_
              refine pu (v := .sc _) (wtG rfl rfl rfl h20) rfl (fun _ => rfl) ?_
              refine pu (v := .sc _) (wtG rfl rfl rfl h20) rfl (fun _ => rfl) ?_
              refine pu (v := .sc _) (wtG rfl rfl rfl h20) rfl (fun _ => rfl) ?_
              refine pu (v := .sc _) (wtG rfl rfl rfl h20) rfl (fun _ => rfl) ?_
              refine pu (v := .sc _) (wtG rfl rfl rfl h20) rfl (fun _ => rfl) ?_
              obtain ⟨v21, ev21, hR⟩ := letE hR
              refine pu (v := .sc _) (wtG rfl rfl rfl h20) rfl (fun _ => puI ev21) ?_
              refine pu (v := .sc _) (wtG rfl rfl rfl h20) rfl (fun _ => rfl) ?_
              refine pkF (v := .sc (.bool (decide ((IntKind.wrap .u64 (s17.1 * v8)) > v21)))) rfl rfl h20 rfl ?_
              refine RunC.fin ?_
              have hR := Option.some.inj hR; subst hR
              exact Weak.turnL [] [] rfl rfl (tc (.sc _) (tc (.sc _) (tc (.sc _) (tc (.sc _) (tc (.sc _) (tc (.sc _) (tc (.sc _) (tc (.sc _) (tc (.sc _) (tc (.sc _) tn)))))))))) mn
          · refine AWP.cd hR rfl (fun h22 hR => ?_) fun h22 hR => ?_
            · refine AWP.skip ?_
              refine skT ?_
              refine AWP.block ?_
              refine AWP.sq ?_
              refine AWP.rgC 12 rfl rfl ?_
              refine pu (v := .sc _) rfl rfl (fun _ => rfl) ?_
              refine pu (v := .sc _) rfl rfl (fun _ => rfl) ?_
              refine pu (v := .sc _) rfl rfl (fun _ => rfl) ?_
              refine RunC.fin ?_
              refine AWP.sq ?_
              refine AWP.rgC 28 rfl rfl ?_
              refine pu (v := .sc _) rfl rfl (fun _ => rfl) ?_
              refine pu (v := .sc _) rfl rfl (fun _ => rfl) ?_
              refine pu (v := .sc _) rfl rfl (fun _ => rfl) ?_
              refine pu (v := .sc _) rfl rfl (fun _ => rfl) ?_
              refine RunC.fin ?_
              refine AWP.sq ?_
              refine AWP.rgC 36 rfl rfl ?_
              refine pu (v := .sc _) rfl rfl (fun _ => rfl) ?_
              obtain ⟨v23, ev23, hR⟩ := letE hR
              refine pu (v := .sc _) rfl rfl (fun _ => puB ev23) ?_
              refine RunC.fin ?_
              refine AWP.cd hR rfl (fun h24 hR => ?_) fun h24 hR => ?_
              · refine AWP.exit ?_
                refine exB rfl ?_
                refine exT ?_
                refine exH (skT ?_)
                refine ⟨(IntKind.wrap .u64 (s17.1 - 1)), (Option.some.inj hR).symm, ?_⟩
                exact Weak.turnL [] [] rfl rfl (tc (.sc _) (tc (.sc _) (tc (.sc _) (tc (.sc _) (tc (.sc _) (tc (.sc _) (tc (.sc _) (tc (.sc _) tn)))))))) mn
              · refine AWP.skip ?_
                refine skB ?_
                refine skT ?_
                refine ⟨(IntKind.wrap .u64 (s17.1 - 1), IntKind.wrap .u64 (s17.2 + (Int.fdiv v7 (2 ^ 32)))), (Option.some.inj hR).symm, ?_⟩
                exact Weak.turnL [] [] rfl rfl (tc (.sc _) (tc (.sc _) (tc (.sc _) (tc (.sc _) (tc (.sc _) (tc (.sc _) (tc (.sc _) (tc (.sc _) (tc (.sc _) tn))))))))) mn
            · refine AWP.exit ?_
              refine exT ?_
              refine exT ?_
              refine exH (skT ?_)
              refine ⟨s17.1, (Option.some.inj hR).symm, ?_⟩
              exact Weak.turnL [] [] rfl rfl (tc (.sc _) (tc (.sc _) (tc (.sc _) (tc (.sc _) (tc (.sc _) (tc (.sc _) (tc (.sc _) (tc (.sc _) tn)))))))) mn
        · refine skT ?_
          refine AWP.sq ?_
          refine AWP.rgC 36 rfl rfl ?_
          refine pu (v := .sc _) rfl rfl (fun _ => rfl) ?_
          refine pu (v := .sc _) rfl rfl (fun _ => rfl) ?_
          refine pu (v := .sc _) rfl rfl (fun _ => rfl) ?_
          obtain ⟨v25, ev25, hR⟩ := letE hR
          refine pu (v := .sc _) rfl rfl (fun _ => puI ev25) ?_
          refine pu (v := .sc _) rfl rfl (fun _ => rfl) ?_
          refine pu (v := .sc _) rfl rfl (fun _ => rfl) ?_
          refine pu (v := .sc _) rfl rfl (fun _ => rfl) ?_
          refine pu (v := .sc _) rfl rfl (fun _ => rfl) ?_
          refine pu (v := .sc _) rfl rfl (fun _ => rfl) ?_
          refine RunC.fin ?_
          refine AWP.sq ?_
          refine AWP.rgC 52 rfl rfl ?_
          refine pu (v := .sc _) rfl rfl (fun _ => rfl) ?_
          refine pu (v := .sc _) rfl rfl (fun _ => rfl) ?_
          obtain ⟨v26, ev26, hR⟩ := letE hR
          refine qu rfl rfl rfl h15 ev26 ?_
          refine pu (v := .sc _) rfl rfl (fun _ => rfl) ?_
          refine RunC.fin ?_
          refine AWP.sq ?_
          refine AWP.rgC 76 rfl rfl ?_
          refine pu (v := .sc _) rfl rfl (fun _ => rfl) ?_
          refine pu (v := .sc _) rfl rfl (fun _ => rfl) ?_
          refine pu (v := .sc _) rfl rfl (fun _ => rfl) ?_
          refine pu (v := .sc _) rfl rfl (fun _ => rfl) ?_
          obtain ⟨v27, ev27, hR⟩ := letE hR
          refine pu (v := .sc _) rfl rfl (fun _ => puI ev27) ?_
          refine pu (v := .sc _) rfl rfl (fun _ => rfl) ?_
          refine RunC.fin ?_
          refine AWP.sq ?_
          refine AWP.loopJ (fun s28 : Int × Int => LS.mk [(2, .sc (.int .u64 v7)), (8, .sc (.int .u64 (IntKind.wrap .u64 r5))), (9, .sc (.int .u64 (Int.fdiv v7 (2 ^ 32)))), (10, .sc (.int .u64 v8)), (14, .sc (.int .u64 v14)), (15, .sc (.int .u64 z18)), (16, .sc (.int .u64 s28.1)), (17, .sc (.int .u64 (IntKind.wrap .u64 (v25 - (IntKind.wrap .u64 (z18 * v7)))))), (18, .sc (.int .u64 s28.2))] (lblks 0 []) 0) (fun z29 : Int => LS.mk [(2, .sc (.int .u64 v7)), (8, .sc (.int .u64 (IntKind.wrap .u64 r5))), (14, .sc (.int .u64 v14)), (15, .sc (.int .u64 z18)), (17, .sc (.int .u64 (IntKind.wrap .u64 (v25 - (IntKind.wrap .u64 (z18 * v7)))))), (18, .sc (.int .u64 z29))] (lblks 0 []) 0) (bits_Div64.l2 v7 v8 v14) hR (s0 := (v27, v26)) (Weak.turnL [] [] rfl rfl (tc (.sc _) (tc (.sc _) (tc (.sc _) (tc (.sc _) (tc (.sc _) (tc (.sc _) (tc (.sc _) (tc (.sc _) (tc (.sc _) tn))))))))) mn) (fun s28 o28 hR => ?_) fun z29 hR => ?_
          · unfold bits_Div64.l2 at hR
            refine AWP.sq ?_
            refine AWP.joinX (fun z30 : Bool => LS.mk [(2, .sc (.int .u64 v7)), (8, .sc (.int .u64 (IntKind.wrap .u64 r5))), (9, .sc (.int .u64 (Int.fdiv v7 (2 ^ 32)))), (10, .sc (.int .u64 v8)), (14, .sc (.int .u64 v14)), (15, .sc (.int .u64 z18)), (16, .sc (.int .u64 s28.1)), (17, .sc (.int .u64 (IntKind.wrap .u64 (v25 - (IntKind.wrap .u64 (z18 * v7)))))), (18, .sc (.int .u64 s28.2)), (113, .sc (.bool z30))] (lblks 0 []) 0) hR (fun o30 hR => ?_) fun z30 hR => ?_
            · refine AWP.rgC 48 rfl rfl ?_
              refine pu (v := .sc _) rfl rfl (fun _ => rfl) ?_
              refine pu (v := .sc _) rfl rfl (fun _ => rfl) ?_
              refine pu (v := .sc _) rfl rfl (fun _ => rfl) ?_
              refine brR hR (fun h31 hR => ?_) fun h31 hR => ?_
              · refine sk (skW rfl rfl rfl h31) ?_
                refine sk (skW rfl rfl rfl h31) ?_
                refine sk (skW rfl rfl rfl h31) ?_
                refine sk (skW rfl rfl rfl h31) ?_
                refine sk (skW rfl rfl rfl h31) ?_
                refine sk (skW rfl rfl rfl h31) ?_
                refine sk (skW rfl rfl rfl h31) ?_
                refine sk (skW rfl rfl rfl h31) ?_
                refine pkT (v := .sc (.bool true)) rfl rfl h31 rfl ?_
                refine RunC.fin ?_
                have hR := Option.some.inj hR; subst hR
                exact Weak.turnL [] [] rfl rfl (tc (.sc _) (tc (.sc _) (tc (.sc _) (tc (.sc _) (tc (.sc _) (tc (.sc _) (tc (.sc _) (tc (.sc _) (tc (.sc _) (tc (.sc _) tn)))))))))) mn
              · refine pu (v := .sc _) (wtG rfl rfl rfl h31) rfl (fun _ => rfl) ?_
                refine pu (v := .sc _) (wtG rfl rfl rfl h31) rfl (fun _ => rfl) ?_
                refine pu (v := .sc _) (wtG rfl rfl rfl h31) rfl (fun _ => rfl) ?_
                refine pu (v := .sc _) (wtG rfl rfl rfl h31) rfl (fun _ => rfl) ?_
                refine pu (v := .sc _) (wtG rfl rfl rfl h31) rfl (fun _ => rfl) ?_
                refine pu (v := .sc _) (wtG rfl rfl rfl h31) rfl (fun _ => rfl) ?_
                obtain ⟨v32, ev32, hR⟩ := letE hR
                refine pu (v := .sc _) (wtG rfl rfl rfl h31) rfl (fun _ => puI ev32) ?_
                refine pu (v := .sc _) (wtG rfl rfl rfl h31) rfl (fun _ => rfl) ?_
                refine pkF (v := .sc (.bool (decide ((IntKind.wrap .u64 (s28.2 * v8)) > v32)))) rfl rfl h31 rfl ?_
                refine RunC.fin ?_
                have hR := Option.some.inj hR; subst hR
                exact Weak.turnL [] [] rfl rfl (tc (.sc _) (tc (.sc _) (tc (.sc _) (tc (.sc _) (tc (.sc _) (tc (.sc _) (tc (.sc _) (tc (.sc _) (tc (.sc _) (tc (.sc _) tn)))))))))) mn
            · refine AWP.cd hR rfl (fun h33 hR => ?_) fun h33 hR => ?_
              · refine AWP.skip ?_
                refine skT ?_
                refine AWP.block ?_
                refine AWP.sq ?_
                refine AWP.rgC 12 rfl rfl ?_
                refine pu (v := .sc _) rfl rfl (fun _ => rfl) ?_
                refine pu (v := .sc _) rfl rfl (fun _ => rfl) ?_
                refine pu (v := .sc _) rfl rfl (fun _ => rfl) ?_
                refine RunC.fin ?_
                refine AWP.sq ?_
                refine AWP.rgC 28 rfl rfl ?_
                refine pu (v := .sc _) rfl rfl (fun _ => rfl) ?_
                refine pu (v := .sc _) rfl rfl (fun _ => rfl) ?_
                refine pu (v := .sc _) rfl rfl (fun _ => rfl) ?_
                refine pu (v := .sc _) rfl rfl (fun _ => rfl) ?_
                refine RunC.fin ?_
                refine AWP.sq ?_
                refine AWP.rgC 36 rfl rfl ?_
                refine pu (v := .sc _) rfl rfl (fun _ => rfl) ?_
                obtain ⟨v34, ev34, hR⟩ := letE hR
                refine pu (v := .sc _) rfl rfl (fun _ => puB ev34) ?_
                refine RunC.fin ?_
                refine AWP.cd hR rfl (fun h35 hR => ?_) fun h35 hR => ?_
                · refine AWP.exit ?_
                  refine exB rfl ?_
                  refine exT ?_
                  refine exH (skT ?_)
                  refine ⟨(IntKind.wrap .u64 (s28.2 - 1)), (Option.some.inj hR).symm, ?_⟩
                  exact Weak.turnL [] [] rfl rfl (tc (.sc _) (tc (.sc _) (tc (.sc _) (tc (.sc _) (tc (.sc _) (tc (.sc _) tn)))))) mn
                · refine AWP.skip ?_
                  refine skB ?_
                  refine skT ?_
                  refine ⟨(IntKind.wrap .u64 (s28.1 + (Int.fdiv v7 (2 ^ 32))), IntKind.wrap .u64 (s28.2 - 1)), (Option.some.inj hR).symm, ?_⟩
                  exact Weak.turnL [] [] rfl rfl (tc (.sc _) (tc (.sc _) (tc (.sc _) (tc (.sc _) (tc (.sc _) (tc (.sc _) (tc (.sc _) (tc (.sc _) (tc (.sc _) tn))))))))) mn
              · refine AWP.exit ?_
                refine exT ?_
                refine exT ?_
                refine exH (skT ?_)
                refine ⟨s28.2, (Option.some.inj hR).symm, ?_⟩
                exact Weak.turnL [] [] rfl rfl (tc (.sc _) (tc (.sc _) (tc (.sc _) (tc (.sc _) (tc (.sc _) (tc (.sc _) tn)))))) mn
          · refine skT ?_
            refine AWP.sq ?_
            refine AWP.rgC 64 rfl rfl ?_
            refine pu (v := .sc _) rfl rfl (fun _ => rfl) ?_
            refine pu (v := .sc _) rfl rfl (fun _ => rfl) ?_
            refine pu (v := .sc _) rfl rfl (fun _ => rfl) ?_
            obtain ⟨v36, ev36, hR⟩ := letE hR
            refine pu (v := .sc _) rfl rfl (fun _ => puI ev36) ?_
            refine pu (v := .sc _) rfl rfl (fun _ => rfl) ?_
            obtain ⟨v37, ev37, hR⟩ := letE hR
            refine pu (v := .sc _) rfl rfl (fun _ => puI ev37) ?_
            refine pu (v := .sc _) rfl rfl (fun _ => rfl) ?_
            refine pu (v := .sc _) rfl rfl (fun _ => rfl) ?_
            refine pu (v := .sc _) rfl rfl (fun _ => rfl) ?_
            refine pu (v := .sc _) rfl rfl (fun _ => rfl) ?_
            refine pu (v := .sc _) rfl rfl (fun _ => rfl) ?_
            obtain ⟨v38, ev38, hR⟩ := letE hR
            refine pu (v := .sc _) rfl rfl (fun _ => puI ev38) ?_
            refine pu (v := .sc _) rfl rfl (fun _ => rfl) ?_
            obtain ⟨v39, ev39, hR⟩ := letE hR
            refine shR rfl rfl rfl h6 ev39 ?_
            refine pu (v := .sc _) rfl rfl (fun _ => rfl) ?_
            refine pu (v := .sc _) rfl rfl (fun _ => rfl) ?_
            refine RunC.fin ?_
            refine AWP.ret ?_
            have hR := Option.some.inj hR; subst hR
            exact hQ _ _ (LS.mk [(6, .sc (.int .u64 v36)), (7, .sc (.int .u64 v39))] (lblks 0 []) 0) (.tup [.sc (.int .u64 v36), .sc (.int .u64 v39)]) [] (.inr rfl) (Weak.turnL [] [] rfl rfl (tc (.sc _) (tc (.sc _) tn)) mn) (ro2 (rvT (v := .sc (.int .u64 v36)) rfl) (rvT (v := .sc (.int .u64 v39)) rfl)) rfl rfl (.tup (.cons (.sc _) (.cons (.sc _) .nil))) pn
theorem ok49 (w : num_Wide) (r : num_Wide) (hR : Wide_Neg w = some r) : FnP Try.prog 49 [aggV false w] (aggV (α := num_Wide) true r) := by
  refine fnP_of (FnX.walk Try.func49 rfl 27 0 (by simp [Try.ntmps49]) rfl fun W S F Q hQ => ?_)
  unfold Wide_Neg at hR
  refine AWP.sq ?_
  refine AWP.rgC 8 rfl rfl ?_
  refine bx (cs := _) 0 rfl rfl rfl ?_
  refine al (cs := [.sc (.int .i64 0), .sc (.int .u64 0)]) 4 rfl rfl ti80 rfl rfl ?_
  refine RunC.fin ?_
  refine AWP.sq ?_
  refine AWP.rgC 44 rfl rfl ?_
  refine fa rfl rfl ti80 rfl rfl ti78 rfl ?_
  refine ldB (v := .sc _) rfl rfl rfl rfl ti78 rfl rfl ?_
  obtain ⟨v1, ev1, hR⟩ := letE hR
  refine pu (v := .sc _) rfl rfl (fun _ => puI ev1) ?_
  obtain ⟨r2, hr2, hR⟩ := bindE hR
  refine xa rfl xf51 rfl rfl rfl hr2 ?_
  refine pu (v := .tup _) rfl rfl (fun _ => rfl) ?_
  refine pu (v := .sc _) rfl rfl (fun _ => rfl) ?_
  refine pu (v := .sc _) rfl rfl (fun _ => rfl) ?_
  refine pu (v := .sc _) rfl rfl (fun _ => rfl) ?_
  refine pu (v := .sc _) rfl rfl (fun _ => rfl) ?_
  refine RunC.fin ?_
  refine AWP.sq ?_
  refine AWP.rgC 88 rfl rfl ?_
  refine fa rfl rfl ti80 rfl rfl ti2 rfl ?_
  refine ldB (v := .sc _) rfl rfl rfl rfl ti2 rfl rfl ?_
  refine cn rfl rfl ti2 rfl ti78 rfl rfl ?_
  obtain ⟨v3, ev3, hR⟩ := letE hR
  refine pu (v := .sc _) rfl rfl (fun _ => puI ev3) ?_
  refine pu (v := .sc _) rfl rfl (fun _ => rfl) ?_
  obtain ⟨r4, hr4, hR⟩ := bindE hR
  refine xa rfl xf51 rfl rfl rfl hr4 ?_
  refine pu (v := .tup _) rfl rfl (fun _ => rfl) ?_
  refine pu (v := .sc _) rfl rfl (fun _ => rfl) ?_
  refine pu (v := .sc _) rfl rfl (fun _ => rfl) ?_
  refine pu (v := .sc _) rfl rfl (fun _ => rfl) ?_
  refine pu (v := .sc _) rfl rfl (fun _ => rfl) ?_
  refine RunC.fin ?_
  refine AWP.sq ?_
  refine AWP.rgC 108 rfl rfl ?_
  refine pu (v := .sc _) rfl rfl (fun _ => rfl) ?_
  refine cn rfl rfl ti78 rfl ti2 rfl rfl ?_
  refine pu (v := .sc _) rfl rfl (fun _ => rfl) ?_
  refine bu (cs := [.sc (.int .i64 (w6 r4.1)), .sc (.int .u64 r2.1)]) rfl bt80 rfl ?_
  refine stB (cs' := [.sc (.int .i64 (w6 r4.1)), .sc (.int .u64 r2.1)]) rfl rfl rfl rfl ti80 rfl rfl rfl rfl rfl ?_
  refine RunC.fin ?_
  refine AWP.ret ?_
  have hR := Option.some.inj hR; subst hR
  exact hQ _ _ (LS.mk [(2, .ptr 0 0 0)] (lblks 0 [boxB (α := num_Wide) true (num_Wide.mk (w6 r4.1) (NU64.mk r2.1))]) 1) (aggV (α := num_Wide) true (num_Wide.mk (w6 r4.1) (NU64.mk r2.1))) [] (.inr rfl) (Weak.turnL [(4, 0)] [] rfl rfl (tc (trP' rfl rfl rfl rfl) tn) (mc rfl (.box rfl (.cons (.sc _) (.cons (.sc _) (.nil))) rfl) mn)) (ro1 (rvC (v := aggV (α := num_Wide) true (num_Wide.mk (w6 r4.1) (NU64.mk r2.1))) rfl rfl ti80 rfl)) rfl rfl ldA pn
theorem ok47 (x : Int) (y : Int) (r : NU64 × NU64) (hR : bits_Mul64 x y = some r) : FnP Try.prog 47 [.sc (.int .u64 x), .sc (.int .u64 y)] (.tup [.sc (.int .u64 r.1.n), .sc (.int .u64 r.2.n)]) := by
  refine fnP_of (FnX.walk Try.func47 rfl 51 0 (by simp [Try.ntmps47]) rfl fun W S F Q hQ => ?_)
  unfold bits_Mul64 at hR
  refine AWP.sq ?_
  refine AWP.rgC 8 rfl rfl ?_
  refine pu (v := .sc _) rfl rfl (fun _ => rfl) ?_
  refine pu (v := .sc _) rfl rfl (fun _ => rfl) ?_
  refine RunC.fin ?_
  refine AWP.sq ?_
  refine AWP.rgC 20 rfl rfl ?_
  refine pu (v := .sc _) rfl rfl (fun _ => rfl) ?_
  obtain ⟨v1, ev1, hR⟩ := letE hR
  refine pu (v := .sc _) rfl rfl (fun _ => puI ev1) ?_
  refine pu (v := .sc _) rfl rfl (fun _ => rfl) ?_
  refine RunC.fin ?_
  refine AWP.sq ?_
  refine AWP.rgC 32 rfl rfl ?_
  refine pu (v := .sc _) rfl rfl (fun _ => rfl) ?_
  refine pu (v := .sc _) rfl rfl (fun _ => rfl) ?_
  refine pu (v := .sc _) rfl rfl (fun _ => rfl) ?_
  refine RunC.fin ?_
  refine AWP.sq ?_
  refine AWP.rgC 44 rfl rfl ?_
  refine pu (v := .sc _) rfl rfl (fun _ => rfl) ?_
  obtain ⟨v2, ev2, hR⟩ := letE hR
  refine pu (v := .sc _) rfl rfl (fun _ => puI ev2) ?_
  refine pu (v := .sc _) rfl rfl (fun _ => rfl) ?_
  refine RunC.fin ?_
  refine AWP.sq ?_
  refine AWP.rgC 56 rfl rfl ?_
  refine pu (v := .sc _) rfl rfl (fun _ => rfl) ?_
  refine pu (v := .sc _) rfl rfl (fun _ => rfl) ?_
  refine pu (v := .sc _) rfl rfl (fun _ => rfl) ?_
  refine RunC.fin ?_
  refine AWP.sq ?_
  refine AWP.rgC 72 rfl rfl ?_
  refine pu (v := .sc _) rfl rfl (fun _ => rfl) ?_
  refine pu (v := .sc _) rfl rfl (fun _ => rfl) ?_
  refine pu (v := .sc _) rfl rfl (fun _ => rfl) ?_
  refine pu (v := .sc _) rfl rfl (fun _ => rfl) ?_
  refine RunC.fin ?_
  refine AWP.sq ?_
  refine AWP.rgC 100 rfl rfl ?_
  refine pu (v := .sc _) rfl rfl (fun _ => rfl) ?_
  refine pu (v := .sc _) rfl rfl (fun _ => rfl) ?_
  refine pu (v := .sc _) rfl rfl (fun _ => rfl) ?_
  refine pu (v := .sc _) rfl rfl (fun _ => rfl) ?_
  refine pu (v := .sc _) rfl rfl (fun _ => rfl) ?_
  obtain ⟨v3, ev3, hR⟩ := letE hR
  refine pu (v := .sc _) rfl rfl (fun _ => puI ev3) ?_
  refine pu (v := .sc _) rfl rfl (fun _ => rfl) ?_
  refine RunC.fin ?_
  refine AWP.sq ?_
  refine AWP.rgC 112 rfl rfl ?_
  refine pu (v := .sc _) rfl rfl (fun _ => rfl) ?_
  obtain ⟨v4, ev4, hR⟩ := letE hR
  refine pu (v := .sc _) rfl rfl (fun _ => puI ev4) ?_
  refine pu (v := .sc _) rfl rfl (fun _ => rfl) ?_
  refine RunC.fin ?_
  refine AWP.sq ?_
  refine AWP.rgC 124 rfl rfl ?_
  refine pu (v := .sc _) rfl rfl (fun _ => rfl) ?_
  refine pu (v := .sc _) rfl rfl (fun _ => rfl) ?_
  refine pu (v := .sc _) rfl rfl (fun _ => rfl) ?_
  refine RunC.fin ?_
  refine AWP.sq ?_
  refine AWP.rgC 148 rfl rfl ?_
  refine pu (v := .sc _) rfl rfl (fun _ => rfl) ?_
  refine pu (v := .sc _) rfl rfl (fun _ => rfl) ?_
  refine pu (v := .sc _) rfl rfl (fun _ => rfl) ?_
  refine pu (v := .sc _) rfl rfl (fun _ => rfl) ?_
  obtain ⟨v5, ev5, hR⟩ := letE hR
  refine pu (v := .sc _) rfl rfl (fun _ => puI ev5) ?_
  refine pu (v := .sc _) rfl rfl (fun _ => rfl) ?_
  refine RunC.fin ?_
  refine AWP.sq ?_
  refine AWP.rgC 184 rfl rfl ?_
  refine pu (v := .sc _) rfl rfl (fun _ => rfl) ?_
  refine pu (v := .sc _) rfl rfl (fun _ => rfl) ?_
  obtain ⟨v6, ev6, hR⟩ := letE hR
  refine pu (v := .sc _) rfl rfl (fun _ => puI ev6) ?_
  refine pu (v := .sc _) rfl rfl (fun _ => rfl) ?_
  refine pu (v := .sc _) rfl rfl (fun _ => rfl) ?_
  refine pu (v := .sc _) rfl rfl (fun _ => rfl) ?_
  refine pu (v := .sc _) rfl rfl (fun _ => rfl) ?_
  obtain ⟨v7, ev7, hR⟩ := letE hR
  refine pu (v := .sc _) rfl rfl (fun _ => puI ev7) ?_
  refine pu (v := .sc _) rfl rfl (fun _ => rfl) ?_
  refine RunC.fin ?_
  refine AWP.sq ?_
  refine AWP.rgC 200 rfl rfl ?_
  refine pu (v := .sc _) rfl rfl (fun _ => rfl) ?_
  refine pu (v := .sc _) rfl rfl (fun _ => rfl) ?_
  refine pu (v := .sc _) rfl rfl (fun _ => rfl) ?_
  refine pu (v := .sc _) rfl rfl (fun _ => rfl) ?_
  refine RunC.fin ?_
  refine AWP.ret ?_
  have hR := Option.some.inj hR; subst hR
  exact hQ _ _ (LS.mk [(4, .sc (.int .u64 v7)), (5, .sc (.int .u64 (IntKind.wrap .u64 (x * y))))] (lblks 0 []) 0) (.tup [.sc (.int .u64 v7), .sc (.int .u64 (IntKind.wrap .u64 (x * y)))]) [] (.inr rfl) (Weak.turnL [] [] rfl rfl (tc (.sc _) (tc (.sc _) tn)) mn) (ro2 (rvT (v := .sc (.int .u64 v7)) rfl) (rvT (v := .sc (.int .u64 (IntKind.wrap .u64 (x * y)))) rfl)) rfl rfl (.tup (.cons (.sc _) (.cons (.sc _) .nil))) pn
theorem ok48 (a : Int) (r : NU64) (hR : num_size a = some r) : FnP Try.prog 48 [.sc (.int .i64 a)] (.sc (.int .u64 r.n)) := by
  refine fnP_of (FnX.walk Try.func48 rfl 10 0 (by simp [Try.ntmps48]) rfl fun W S F Q hQ => ?_)
  unfold num_size at hR
  refine AWP.sq ?_
  refine AWP.rgC 4 rfl rfl ?_
  refine pu (v := .sc _) rfl rfl (fun _ => rfl) ?_
  refine RunC.fin ?_
  refine AWP.sq ?_
  refine AWP.sq ?_
  refine AWP.rgC 12 rfl rfl ?_
  refine pu (v := .sc _) rfl rfl (fun _ => rfl) ?_
  refine pu (v := .sc _) rfl rfl (fun _ => rfl) ?_
  refine RunC.fin ?_
  refine AWP.cd hR rfl (fun h1 hR => ?_) fun h1 hR => ?_
  · refine AWP.sq ?_
    refine AWP.rgC 28 rfl rfl ?_
    refine pu (v := .sc _) rfl rfl (fun _ => rfl) ?_
    refine cn rfl rfl ti2 rfl ti78 rfl rfl ?_
    refine pu (v := .sc _) rfl rfl (fun _ => rfl) ?_
    refine pu (v := .sc _) rfl rfl (fun _ => rfl) ?_
    refine RunC.fin ?_
    refine AWP.ret ?_
    refine rtT ?_
    have hR := Option.some.inj hR; subst hR
    exact hQ _ _ (LS.mk [(2, .sc (.int .u64 (IntKind.wrap .u64 (0 - (IntKind.wrap .u64 a)))))] (lblks 0 []) 0) (.sc (.int .u64 (IntKind.wrap .u64 (0 - (IntKind.wrap .u64 a))))) [] (.inr rfl) (Weak.turnL [] [] rfl rfl (tc (.sc _) tn) mn) (ro1 (rvT (v := .sc (.int .u64 (IntKind.wrap .u64 (0 - (IntKind.wrap .u64 a))))) rfl)) rfl rfl (.sc _) pn
  · refine AWP.skip ?_
    refine skT ?_
    refine AWP.sq ?_
    refine AWP.rgC 24 rfl rfl ?_
    refine pu (v := .sc _) rfl rfl (fun _ => rfl) ?_
    refine cn rfl rfl ti2 rfl ti78 rfl rfl ?_
    refine pu (v := .sc _) rfl rfl (fun _ => rfl) ?_
    refine RunC.fin ?_
    refine AWP.ret ?_
    have hR := Option.some.inj hR; subst hR
    exact hQ _ _ (LS.mk [(2, .sc (.int .u64 (IntKind.wrap .u64 a)))] (lblks 0 []) 0) (.sc (.int .u64 (IntKind.wrap .u64 a))) [] (.inr rfl) (Weak.turnL [] [] rfl rfl (tc (.sc _) tn) mn) (ro1 (rvT (v := .sc (.int .u64 (IntKind.wrap .u64 a))) rfl)) rfl rfl (.sc _) pn
theorem ok43 (w : num_Wide) (d : Int) (r : Int) (hR : Wide_Mod w d = some r) : FnP Try.prog 43 [aggV false w, .sc (.int .i64 d)] (.sc (.int .i64 r)) := by
  refine fnP_of (FnX.walk Try.func43 rfl 43 0 (by simp [Try.ntmps43]) rfl fun W S F Q hQ => ?_)
  unfold Wide_Mod at hR
  refine AWP.sq ?_
  refine AWP.rgC 8 rfl rfl ?_
  refine bx (cs := _) 0 rfl rfl rfl ?_
  refine pu (v := .sc _) rfl rfl (fun _ => rfl) ?_
  refine RunC.fin ?_
  refine AWP.sq ?_
  refine AWP.sq ?_
  refine AWP.rgC 16 rfl rfl ?_
  refine pu (v := .sc _) rfl rfl (fun _ => rfl) ?_
  refine pu (v := .sc _) rfl rfl (fun _ => rfl) ?_
  refine RunC.fin ?_
  refine AWP.cd hR rfl (fun h1 hR => ?_) fun h1 hR => ?_
  · refine AWP.sq ?_
    refine AWP.rgC 20 rfl rfl ?_
    refine pu (v := .sc _) rfl rfl (fun _ => rfl) ?_
    refine RunC.fin ?_
    refine AWP.ret ?_
    refine rtT ?_
    have hR := Option.some.inj hR; subst hR
    exact hQ _ _ (LS.mk [(4, .sc (.int .i64 0))] (lblks 0 []) 0) (.sc (.int .i64 0)) [] (.inr rfl) (Weak.turnL [] [] rfl rfl (tc (.sc _) tn) mn) (ro1 (rvT (v := .sc (.int .i64 0)) rfl)) rfl rfl (.sc _) pn
  · refine AWP.skip ?_
    refine skT ?_
    refine AWP.sq ?_
    refine AWP.rgC 28 rfl rfl ?_
    refine ldB (v := .agg _) rfl rfl rfl rfl ti80 rfl rfl ?_
    refine al (cs := [.sc (.int .i64 0), .sc (.int .u64 0)]) 20 rfl rfl ti80 rfl rfl ?_
    refine stB (cs' := [.sc (.int .i64 w.Hi), .sc (.int .u64 w.Lo.n)]) rfl rfl rfl rfl ti80 rfl rfl rfl rfl rfl ?_
    refine RunC.fin ?_
    refine AWP.sq ?_
    refine AWP.sq ?_
    refine AWP.rgC 40 rfl rfl ?_
    refine fa rfl rfl ti80 rfl rfl ti2 rfl ?_
    refine ldB (v := .sc _) rfl rfl rfl rfl ti2 rfl rfl ?_
    refine pu (v := .sc _) rfl rfl (fun _ => rfl) ?_
    refine RunC.fin ?_
    refine AWP.cd hR rfl (fun h2 hR => ?_) fun h2 hR => ?_
    · refine AWP.rgC 52 rfl rfl ?_
      refine ldB (v := .agg _) rfl rfl rfl rfl ti80 rfl rfl ?_
      obtain ⟨r3, hr3, hR⟩ := bindE hR
      refine cls [] rfl rfl cb49 (ok49 w _ hr3) (.cons (.agg (.cons (.sc _) (.cons (.sc _) (.nil))) rfl) (.nil)) (.inr rfl) rfl ?_
      refine stB (cs' := [.sc (.int .i64 r3.Hi), .sc (.int .u64 r3.Lo.n)]) rfl rfl rfl rfl ti80 rfl rfl rfl rfl rfl ?_
      refine RunC.fin ?_
      refine AWP.sq ?_
      refine AWP.rgD 116 [0, 1, 3, 0, 8, 31, 0, 64, 0, 256, 1023, 2047, 4095, 4095, 8191, 32767] ⟨[], [none, some [20], none, none, none, none, none, some [20], none, none, none, none, none, none, none, none]⟩ hmix (by kernel_rfl) rfl rfl ?_
      refine fa rfl rfl ti80 rfl rfl ti2 rfl ?_
      refine ldB (v := .sc _) rfl rfl rfl rfl ti2 rfl rfl ?_
      refine cn rfl rfl ti2 rfl ti78 rfl rfl ?_
      refine pu (v := .sc _) rfl rfl (fun _ => rfl) ?_
      refine cn rfl rfl ti2 rfl ti78 rfl rfl ?_
      obtain ⟨h4, hR⟩ := chkE hR
      refine rm rfl rfl rfl h4 rfl ?_
      refine fa rfl rfl ti80 rfl rfl ti78 rfl ?_
      refine ldB (v := .sc _) rfl rfl rfl rfl ti78 rfl rfl ?_
      refine pu (v := .sc _) rfl rfl (fun _ => rfl) ?_
      refine cn rfl rfl ti2 rfl ti78 rfl rfl ?_
      obtain ⟨r5, hr5, hR⟩ := bindE hR
      refine cls [] rfl rfl cb50 (ok50 (Int.tmod (IntKind.wrap .u64 r3.Hi) (IntKind.wrap .u64 d)) r3.Lo.n (IntKind.wrap .u64 d) _ hr5) (.cons (.sc _) (.cons (.sc _) (.cons (.sc _) (.nil)))) (.inr rfl) rfl ?_
      refine pu (v := .tup _) rfl rfl (fun _ => rfl) ?_
      refine pu (v := .sc _) rfl rfl (fun _ => rfl) ?_
      refine pu (v := .sc _) rfl rfl (fun _ => rfl) ?_
      refine pu (v := .sc _) rfl rfl (fun _ => rfl) ?_
      refine pu (v := .sc _) rfl rfl (fun _ => rfl) ?_
      refine RunC.fin ?_
      refine AWP.sq ?_
      refine AWP.joinX (fun z6 : Unit => LS.mk [(1, .sc (.int .i64 d)), (7, .sc (.int .u64 r5.2.n)), (36, .sc (.bool (decide (r5.2.n > 0))))] (lblks 0 []) 0) hR (fun o6 hR => ?_) fun z6 hR => ?_
      · refine AWP.rgC 144 rfl rfl ?_
        refine fa rfl rfl ti80 rfl rfl ti2 rfl ?_
        refine ldB (v := .sc _) rfl rfl rfl rfl ti2 rfl rfl ?_
        refine pu (v := .sc _) rfl rfl (fun _ => rfl) ?_
        refine pu (v := .sc _) rfl rfl (fun _ => rfl) ?_
        refine pu (v := .sc _) (wtG rfl rfl rfl h2) rfl (fun _ => rfl) ?_
        refine pu (v := .sc _) (wtG rfl rfl rfl h2) rfl (fun _ => rfl) ?_
        refine pkT (v := .sc (.bool (decide (r5.2.n > 0)))) rfl rfl h2 rfl ?_
        refine RunC.fin ?_
        have hR := Option.some.inj hR; subst hR
        exact Weak.turnL [] [] rfl rfl (tc (.sc _) (tc (.sc _) (tc (.sc _) tn))) mn
      · refine AWP.cd hR rfl (fun h7 hR => ?_) fun h7 hR => ?_
        · refine AWP.rgC 20 rfl rfl ?_
          refine pu (v := .sc _) rfl rfl (fun _ => rfl) ?_
          refine cn rfl rfl ti2 rfl ti78 rfl rfl ?_
          refine pu (v := .sc _) rfl rfl (fun _ => rfl) ?_
          refine pu (v := .sc _) rfl rfl (fun _ => rfl) ?_
          refine pu (v := .sc _) rfl rfl (fun _ => rfl) ?_
          refine RunC.fin ?_
          refine AWP.sq ?_
          refine AWP.rgC 32 rfl rfl ?_
          refine pu (v := .sc _) rfl rfl (fun _ => rfl) ?_
          refine cn rfl rfl ti78 rfl ti2 rfl rfl ?_
          refine pu (v := .sc _) rfl rfl (fun _ => rfl) ?_
          refine RunC.fin ?_
          refine AWP.ret ?_
          have hR := Option.some.inj hR; subst hR
          exact hQ _ _ (LS.mk [(4, .sc (.int .i64 (w6 (IntKind.wrap .u64 ((IntKind.wrap .u64 d) - r5.2.n)))))] (lblks 0 []) 0) (.sc (.int .i64 (w6 (IntKind.wrap .u64 ((IntKind.wrap .u64 d) - r5.2.n))))) [] (.inr rfl) (Weak.turnL [] [] rfl rfl (tc (.sc _) tn) mn) (ro1 (rvT (v := .sc (.int .i64 (w6 (IntKind.wrap .u64 ((IntKind.wrap .u64 d) - r5.2.n))))) rfl)) rfl rfl (.sc _) pn
        · refine AWP.skip ?_
          refine skT ?_
          refine AWP.sq ?_
          refine AWP.rgC 12 rfl rfl ?_
          refine pu (v := .sc _) rfl rfl (fun _ => rfl) ?_
          refine cn rfl rfl ti78 rfl ti2 rfl rfl ?_
          refine pu (v := .sc _) rfl rfl (fun _ => rfl) ?_
          refine RunC.fin ?_
          refine AWP.ret ?_
          have hR := Option.some.inj hR; subst hR
          exact hQ _ _ (LS.mk [(4, .sc (.int .i64 (w6 r5.2.n)))] (lblks 0 []) 0) (.sc (.int .i64 (w6 r5.2.n))) [] (.inr rfl) (Weak.turnL [] [] rfl rfl (tc (.sc _) tn) mn) (ro1 (rvT (v := .sc (.int .i64 (w6 r5.2.n))) rfl)) rfl rfl (.sc _) pn
    · refine AWP.skip ?_
      refine skT ?_
      refine AWP.sq ?_
      refine AWP.rgD 104 [0, 1, 3, 0, 8, 31, 0, 64, 0, 256, 1023, 2047, 4095, 4095, 8191, 32767] ⟨[], [none, some [20], none, none, none, none, none, some [20], none, none, none, none, none, none, none, none]⟩ hmix (by kernel_rfl) rfl rfl ?_
      refine fa rfl rfl ti80 rfl rfl ti2 rfl ?_
      refine ldB (v := .sc _) rfl rfl rfl rfl ti2 rfl rfl ?_
      refine cn rfl rfl ti2 rfl ti78 rfl rfl ?_
      refine pu (v := .sc _) rfl rfl (fun _ => rfl) ?_
      refine cn rfl rfl ti2 rfl ti78 rfl rfl ?_
      obtain ⟨h8, hR⟩ := chkE hR
      refine rm rfl rfl rfl h8 rfl ?_
      refine fa rfl rfl ti80 rfl rfl ti78 rfl ?_
      refine ldB (v := .sc _) rfl rfl rfl rfl ti78 rfl rfl ?_
      refine pu (v := .sc _) rfl rfl (fun _ => rfl) ?_
      refine cn rfl rfl ti2 rfl ti78 rfl rfl ?_
      obtain ⟨r9, hr9, hR⟩ := bindE hR
      refine cls [] rfl rfl cb50 (ok50 (Int.tmod (IntKind.wrap .u64 w.Hi) (IntKind.wrap .u64 d)) w.Lo.n (IntKind.wrap .u64 d) _ hr9) (.cons (.sc _) (.cons (.sc _) (.cons (.sc _) (.nil)))) (.inr rfl) rfl ?_
      refine pu (v := .tup _) rfl rfl (fun _ => rfl) ?_
      refine pu (v := .sc _) rfl rfl (fun _ => rfl) ?_
      refine pu (v := .sc _) rfl rfl (fun _ => rfl) ?_
      refine pu (v := .sc _) rfl rfl (fun _ => rfl) ?_
      refine pu (v := .sc _) rfl rfl (fun _ => rfl) ?_
      refine RunC.fin ?_
      refine AWP.sq ?_
      refine AWP.joinX (fun z10 : Unit => LS.mk [(1, .sc (.int .i64 d)), (7, .sc (.int .u64 r9.2.n)), (36, .sc (.bool false))] (lblks 0 []) 0) hR (fun o10 hR => ?_) fun z10 hR => ?_
      · refine AWP.rgC 132 rfl rfl ?_
        refine fa rfl rfl ti80 rfl rfl ti2 rfl ?_
        refine ldB (v := .sc _) rfl rfl rfl rfl ti2 rfl rfl ?_
        refine pu (v := .sc _) rfl rfl (fun _ => rfl) ?_
        refine pu (v := .sc _) rfl rfl (fun _ => rfl) ?_
        refine sk (skW rfl rfl rfl h2) ?_
        refine sk (skW rfl rfl rfl h2) ?_
        refine pkF (v := .sc (.bool false)) rfl rfl h2 rfl ?_
        refine RunC.fin ?_
        have hR := Option.some.inj hR; subst hR
        exact Weak.turnL [] [] rfl rfl (tc (.sc _) (tc (.sc _) (tc (.sc _) tn))) mn
      · refine AWP.cdF rfl ?_
        refine AWP.skip ?_
        refine skT ?_
        refine AWP.sq ?_
        refine AWP.rgC 12 rfl rfl ?_
        refine pu (v := .sc _) rfl rfl (fun _ => rfl) ?_
        refine cn rfl rfl ti78 rfl ti2 rfl rfl ?_
        refine pu (v := .sc _) rfl rfl (fun _ => rfl) ?_
        refine RunC.fin ?_
        refine AWP.ret ?_
        have hR := Option.some.inj hR; subst hR
        exact hQ _ _ (LS.mk [(4, .sc (.int .i64 (w6 r9.2.n)))] (lblks 0 []) 0) (.sc (.int .i64 (w6 r9.2.n))) [] (.inr rfl) (Weak.turnL [] [] rfl rfl (tc (.sc _) tn) mn) (ro1 (rvT (v := .sc (.int .i64 (w6 r9.2.n))) rfl)) rfl rfl (.sc _) pn
theorem ok42 (w : num_Wide) (d : Int) (r : Int × Int) (hR : Wide_Div w d = some r) : FnP Try.prog 42 [aggV false w, .sc (.int .i64 d)] (.tup [.sc (.int .i64 r.1), .sc (.int .i64 r.2)]) := by
  refine fnP_of (FnX.walk Try.func42 rfl 61 0 (by simp [Try.ntmps42]) rfl fun W S F Q hQ => ?_)
  unfold Wide_Div at hR
  refine AWP.sq ?_
  refine AWP.rgC 12 rfl rfl ?_
  refine bx (cs := _) 0 rfl rfl rfl ?_
  refine pu (v := .sc _) rfl rfl (fun _ => rfl) ?_
  refine pu (v := .sc _) rfl rfl (fun _ => rfl) ?_
  refine RunC.fin ?_
  refine AWP.sq ?_
  refine AWP.sq ?_
  refine AWP.rgC 20 rfl rfl ?_
  refine pu (v := .sc _) rfl rfl (fun _ => rfl) ?_
  refine pu (v := .sc _) rfl rfl (fun _ => rfl) ?_
  refine RunC.fin ?_
  refine AWP.cd hR rfl (fun h1 hR => ?_) fun h1 hR => ?_
  · refine AWP.sq ?_
    refine AWP.rgC 28 rfl rfl ?_
    refine pu (v := .sc _) rfl rfl (fun _ => rfl) ?_
    refine pu (v := .sc _) rfl rfl (fun _ => rfl) ?_
    refine RunC.fin ?_
    refine AWP.ret ?_
    refine rtT ?_
    have hR := Option.some.inj hR; subst hR
    exact hQ _ _ (LS.mk [(4, .sc (.int .i64 0)), (5, .sc (.int .i64 1))] (lblks 0 []) 0) (.tup [.sc (.int .i64 0), .sc (.int .i64 1)]) [] (.inr rfl) (Weak.turnL [] [] rfl rfl (tc (.sc _) (tc (.sc _) tn)) mn) (ro2 (rvT (v := .sc (.int .i64 0)) rfl) (rvT (v := .sc (.int .i64 1)) rfl)) rfl rfl (.tup (.cons (.sc _) (.cons (.sc _) .nil))) pn
  · refine AWP.skip ?_
    refine skT ?_
    refine AWP.sq ?_
    refine AWP.rgC 32 rfl rfl ?_
    refine ldB (v := .agg _) rfl rfl rfl rfl ti80 rfl rfl ?_
    refine al (cs := [.sc (.int .i64 0), .sc (.int .u64 0)]) 24 rfl rfl ti80 rfl rfl ?_
    refine stB (cs' := [.sc (.int .i64 w.Hi), .sc (.int .u64 w.Lo.n)]) rfl rfl rfl rfl ti80 rfl rfl rfl rfl rfl ?_
    refine RunC.fin ?_
    refine AWP.sq ?_
    refine AWP.sq ?_
    refine AWP.rgC 44 rfl rfl ?_
    refine fa rfl rfl ti80 rfl rfl ti2 rfl ?_
    refine ldB (v := .sc _) rfl rfl rfl rfl ti2 rfl rfl ?_
    refine pu (v := .sc _) rfl rfl (fun _ => rfl) ?_
    refine RunC.fin ?_
    refine AWP.cd hR rfl (fun h2 hR => ?_) fun h2 hR => ?_
    · refine AWP.rgC 56 rfl rfl ?_
      refine ldB (v := .agg _) rfl rfl rfl rfl ti80 rfl rfl ?_
      obtain ⟨r3, hr3, hR⟩ := bindE hR
      refine cls [] rfl rfl cb49 (ok49 w _ hr3) (.cons (.agg (.cons (.sc _) (.cons (.sc _) (.nil))) rfl) (.nil)) (.inr rfl) rfl ?_
      refine stB (cs' := [.sc (.int .i64 r3.Hi), .sc (.int .u64 r3.Lo.n)]) rfl rfl rfl rfl ti80 rfl rfl rfl rfl rfl ?_
      refine RunC.fin ?_
      refine AWP.sq ?_
      refine AWP.sq ?_
      refine AWP.rgC 80 rfl rfl ?_
      refine fa rfl rfl ti80 rfl rfl ti2 rfl ?_
      refine ldB (v := .sc _) rfl rfl rfl rfl ti2 rfl rfl ?_
      refine cn rfl rfl ti2 rfl ti78 rfl rfl ?_
      refine pu (v := .sc _) rfl rfl (fun _ => rfl) ?_
      refine cn rfl rfl ti2 rfl ti78 rfl rfl ?_
      refine pu (v := .sc _) rfl rfl (fun _ => rfl) ?_
      refine RunC.fin ?_
      refine AWP.cd hR rfl (fun h4 hR => ?_) fun h4 hR => ?_
      · refine AWP.sq ?_
        refine AWP.rgC 88 rfl rfl ?_
        refine pu (v := .sc _) rfl rfl (fun _ => rfl) ?_
        refine pu (v := .sc _) rfl rfl (fun _ => rfl) ?_
        refine RunC.fin ?_
        refine AWP.ret ?_
        refine rtT ?_
        have hR := Option.some.inj hR; subst hR
        exact hQ _ _ (LS.mk [(4, .sc (.int .i64 0)), (5, .sc (.int .i64 2))] (lblks 0 []) 0) (.tup [.sc (.int .i64 0), .sc (.int .i64 2)]) [] (.inr rfl) (Weak.turnL [] [] rfl rfl (tc (.sc _) (tc (.sc _) tn)) mn) (ro2 (rvT (v := .sc (.int .i64 0)) rfl) (rvT (v := .sc (.int .i64 2)) rfl)) rfl rfl (.tup (.cons (.sc _) (.cons (.sc _) .nil))) pn
      · refine AWP.skip ?_
        refine skT ?_
        refine AWP.sq ?_
        refine AWP.rgC 132 rfl rfl ?_
        refine fa rfl rfl ti80 rfl rfl ti2 rfl ?_
        refine ldB (v := .sc _) rfl rfl rfl rfl ti2 rfl rfl ?_
        refine cn rfl rfl ti2 rfl ti78 rfl rfl ?_
        refine fa rfl rfl ti80 rfl rfl ti78 rfl ?_
        refine ldB (v := .sc _) rfl rfl rfl rfl ti78 rfl rfl ?_
        refine pu (v := .sc _) rfl rfl (fun _ => rfl) ?_
        refine cn rfl rfl ti2 rfl ti78 rfl rfl ?_
        obtain ⟨r5, hr5, hR⟩ := bindE hR
        refine cls [] rfl rfl cb50 (ok50 (IntKind.wrap .u64 r3.Hi) r3.Lo.n (IntKind.wrap .u64 d) _ hr5) (.cons (.sc _) (.cons (.sc _) (.cons (.sc _) (.nil)))) (.inr rfl) rfl ?_
        refine pu (v := .tup _) rfl rfl (fun _ => rfl) ?_
        refine pu (v := .sc _) rfl rfl (fun _ => rfl) ?_
        refine pu (v := .sc _) rfl rfl (fun _ => rfl) ?_
        refine pu (v := .sc _) rfl rfl (fun _ => rfl) ?_
        refine pu (v := .sc _) rfl rfl (fun _ => rfl) ?_
        refine RunC.fin ?_
        refine AWP.sq ?_
        refine AWP.rgC 136 rfl rfl ?_
        refine pu (v := .sc _) rfl rfl (fun _ => rfl) ?_
        refine RunC.fin ?_
        refine AWP.sq ?_
        refine AWP.sq ?_
        refine AWP.rgC 148 rfl rfl ?_
        refine fa rfl rfl ti80 rfl rfl ti2 rfl ?_
        refine ldB (v := .sc _) rfl rfl rfl rfl ti2 rfl rfl ?_
        refine pu (v := .sc _) rfl rfl (fun _ => rfl) ?_
        refine RunC.fin ?_
        refine AWP.cd hR rfl (fun h6 hR => ?_) fun h6 hR => ?_
        · refine AWP.sq ?_
          refine AWP.rgC 152 rfl rfl ?_
          refine pu (v := .sc _) rfl rfl (fun _ => rfl) ?_
          refine RunC.fin ?_
          refine AWP.sq ?_
          refine AWP.rgC 160 rfl rfl ?_
          refine pu (v := .sc _) rfl rfl (fun _ => rfl) ?_
          refine pu (v := .sc _) rfl rfl (fun _ => rfl) ?_
          refine RunC.fin ?_
          refine AWP.cd hR rfl (fun h7 hR => ?_) fun h7 hR => ?_
          · refine AWP.rgC 172 rfl rfl ?_
            refine pu (v := .sc _) rfl rfl (fun _ => rfl) ?_
            refine pu (v := .sc _) rfl rfl (fun _ => rfl) ?_
            refine pu (v := .sc _) rfl rfl (fun _ => rfl) ?_
            refine RunC.fin ?_
            refine AWP.sq ?_
            refine AWP.sq ?_
            refine AWP.rgC 184 rfl rfl ?_
            refine pu (v := .sc _) rfl rfl (fun _ => rfl) ?_
            refine pu (v := .sc _) rfl rfl (fun _ => rfl) ?_
            obtain ⟨v8, ev8, hR⟩ := letE hR
            refine pu (v := .sc _) rfl rfl (fun _ => puB ev8) ?_
            refine RunC.fin ?_
            refine AWP.cd hR rfl (fun h9 hR => ?_) fun h9 hR => ?_
            · refine AWP.sq ?_
              refine AWP.rgC 192 rfl rfl ?_
              refine pu (v := .sc _) rfl rfl (fun _ => rfl) ?_
              refine pu (v := .sc _) rfl rfl (fun _ => rfl) ?_
              refine RunC.fin ?_
              refine AWP.ret ?_
              refine rtT ?_
              have hR := Option.some.inj hR; subst hR
              exact hQ _ _ (LS.mk [(4, .sc (.int .i64 0)), (5, .sc (.int .i64 2))] (lblks 0 []) 0) (.tup [.sc (.int .i64 0), .sc (.int .i64 2)]) [] (.inr rfl) (Weak.turnL [] [] rfl rfl (tc (.sc _) (tc (.sc _) tn)) mn) (ro2 (rvT (v := .sc (.int .i64 0)) rfl) (rvT (v := .sc (.int .i64 2)) rfl)) rfl rfl (.tup (.cons (.sc _) (.cons (.sc _) .nil))) pn
            · refine AWP.skip ?_
              refine skT ?_
              refine AWP.sq ?_
              refine AWP.block ?_
              refine AWP.sq ?_
              refine AWP.rgC 200 rfl rfl ?_
              refine fa rfl rfl ti80 rfl rfl ti2 rfl ?_
              refine ldB (v := .sc _) rfl rfl rfl rfl ti2 rfl rfl ?_
              refine pu (v := .sc _) rfl rfl (fun _ => rfl) ?_
              refine pu (v := .sc _) rfl rfl (fun _ => rfl) ?_
              refine RunC.fin ?_
              refine AWP.cd hR rfl (fun h10 hR => ?_) fun h10 hR => ?_
              · refine AWP.sq ?_
                refine AWP.rgC 216 rfl rfl ?_
                refine pu (v := .sc _) rfl rfl (fun _ => rfl) ?_
                refine cn rfl rfl ti78 rfl ti2 rfl rfl ?_
                refine pu (v := .sc _) rfl rfl (fun _ => rfl) ?_
                refine pu (v := .sc _) rfl rfl (fun _ => rfl) ?_
                refine RunC.fin ?_
                refine AWP.ret ?_
                refine rtB ?_
                refine rtT ?_
                have hR := Option.some.inj hR; subst hR
                exact hQ _ _ (LS.mk [(4, .sc (.int .i64 (w6 r5.1.n))), (5, .sc (.int .i64 0))] (lblks 0 []) 0) (.tup [.sc (.int .i64 (w6 r5.1.n)), .sc (.int .i64 0)]) [] (.inr rfl) (Weak.turnL [] [] rfl rfl (tc (.sc _) (tc (.sc _) tn)) mn) (ro2 (rvT (v := .sc (.int .i64 (w6 r5.1.n))) rfl) (rvT (v := .sc (.int .i64 0)) rfl)) rfl rfl (.tup (.cons (.sc _) (.cons (.sc _) .nil))) pn
              · refine AWP.sq ?_
                refine AWP.rgC 212 rfl rfl ?_
                refine pu (v := .sc _) rfl rfl (fun _ => rfl) ?_
                refine pu (v := .sc _) rfl rfl (fun _ => rfl) ?_
                refine pu (v := .sc _) rfl rfl (fun _ => rfl) ?_
                refine RunC.fin ?_
                refine AWP.cd hR rfl (fun h11 hR => ?_) fun h11 hR => ?_
                · refine AWP.sq ?_
                  refine AWP.rgC 236 rfl rfl ?_
                  refine pu (v := .sc _) rfl rfl (fun _ => rfl) ?_
                  refine pu (v := .sc _) rfl rfl (fun _ => rfl) ?_
                  refine cn rfl rfl ti78 rfl ti2 rfl rfl ?_
                  refine pu (v := .sc _) rfl rfl (fun _ => rfl) ?_
                  refine pu (v := .sc _) rfl rfl (fun _ => rfl) ?_
                  refine pu (v := .sc _) rfl rfl (fun _ => rfl) ?_
                  refine RunC.fin ?_
                  refine AWP.ret ?_
                  refine rtB ?_
                  refine rtT ?_
                  have hR := Option.some.inj hR; subst hR
                  exact hQ _ _ (LS.mk [(4, .sc (.int .i64 (w6 ((w6 (IntKind.wrap .u64 (0 - r5.1.n))) - 1)))), (5, .sc (.int .i64 0))] (lblks 0 []) 0) (.tup [.sc (.int .i64 (w6 ((w6 (IntKind.wrap .u64 (0 - r5.1.n))) - 1))), .sc (.int .i64 0)]) [] (.inr rfl) (Weak.turnL [] [] rfl rfl (tc (.sc _) (tc (.sc _) tn)) mn) (ro2 (rvT (v := .sc (.int .i64 (w6 ((w6 (IntKind.wrap .u64 (0 - r5.1.n))) - 1)))) rfl) (rvT (v := .sc (.int .i64 0)) rfl)) rfl rfl (.tup (.cons (.sc _) (.cons (.sc _) .nil))) pn
                · refine AWP.skip ?_
                  refine skB ?_
                  refine skT ?_
                  refine AWP.sq ?_
                  refine AWP.rgC 232 rfl rfl ?_
                  refine pu (v := .sc _) rfl rfl (fun _ => rfl) ?_
                  refine pu (v := .sc _) rfl rfl (fun _ => rfl) ?_
                  refine cn rfl rfl ti78 rfl ti2 rfl rfl ?_
                  refine pu (v := .sc _) rfl rfl (fun _ => rfl) ?_
                  refine pu (v := .sc _) rfl rfl (fun _ => rfl) ?_
                  refine RunC.fin ?_
                  refine AWP.ret ?_
                  have hR := Option.some.inj hR; subst hR
                  exact hQ _ _ (LS.mk [(4, .sc (.int .i64 (w6 (IntKind.wrap .u64 (0 - r5.1.n))))), (5, .sc (.int .i64 0))] (lblks 0 []) 0) (.tup [.sc (.int .i64 (w6 (IntKind.wrap .u64 (0 - r5.1.n)))), .sc (.int .i64 0)]) [] (.inr rfl) (Weak.turnL [] [] rfl rfl (tc (.sc _) (tc (.sc _) tn)) mn) (ro2 (rvT (v := .sc (.int .i64 (w6 (IntKind.wrap .u64 (0 - r5.1.n))))) rfl) (rvT (v := .sc (.int .i64 0)) rfl)) rfl rfl (.tup (.cons (.sc _) (.cons (.sc _) .nil))) pn
          · refine AWP.skip ?_
            refine skT ?_
            refine AWP.sq ?_
            refine AWP.sq ?_
            refine AWP.rgC 172 rfl rfl ?_
            refine pu (v := .sc _) rfl rfl (fun _ => rfl) ?_
            refine pu (v := .sc _) rfl rfl (fun _ => rfl) ?_
            refine pu (v := .sc _) rfl rfl (fun _ => rfl) ?_
            refine RunC.fin ?_
            refine AWP.cd hR rfl (fun h12 hR => ?_) fun h12 hR => ?_
            · refine AWP.sq ?_
              refine AWP.rgC 180 rfl rfl ?_
              refine pu (v := .sc _) rfl rfl (fun _ => rfl) ?_
              refine pu (v := .sc _) rfl rfl (fun _ => rfl) ?_
              refine RunC.fin ?_
              refine AWP.ret ?_
              refine rtT ?_
              have hR := Option.some.inj hR; subst hR
              exact hQ _ _ (LS.mk [(4, .sc (.int .i64 0)), (5, .sc (.int .i64 2))] (lblks 0 []) 0) (.tup [.sc (.int .i64 0), .sc (.int .i64 2)]) [] (.inr rfl) (Weak.turnL [] [] rfl rfl (tc (.sc _) (tc (.sc _) tn)) mn) (ro2 (rvT (v := .sc (.int .i64 0)) rfl) (rvT (v := .sc (.int .i64 2)) rfl)) rfl rfl (.tup (.cons (.sc _) (.cons (.sc _) .nil))) pn
            · refine AWP.skip ?_
              refine skT ?_
              refine AWP.sq ?_
              refine AWP.block ?_
              refine AWP.sq ?_
              refine AWP.rgC 188 rfl rfl ?_
              refine fa rfl rfl ti80 rfl rfl ti2 rfl ?_
              refine ldB (v := .sc _) rfl rfl rfl rfl ti2 rfl rfl ?_
              refine pu (v := .sc _) rfl rfl (fun _ => rfl) ?_
              refine pu (v := .sc _) rfl rfl (fun _ => rfl) ?_
              refine RunC.fin ?_
              refine AWP.cd hR rfl (fun h13 hR => ?_) fun h13 hR => ?_
              · refine AWP.sq ?_
                refine AWP.rgC 204 rfl rfl ?_
                refine pu (v := .sc _) rfl rfl (fun _ => rfl) ?_
                refine cn rfl rfl ti78 rfl ti2 rfl rfl ?_
                refine pu (v := .sc _) rfl rfl (fun _ => rfl) ?_
                refine pu (v := .sc _) rfl rfl (fun _ => rfl) ?_
                refine RunC.fin ?_
                refine AWP.ret ?_
                refine rtB ?_
                refine rtT ?_
                have hR := Option.some.inj hR; subst hR
                exact hQ _ _ (LS.mk [(4, .sc (.int .i64 (w6 r5.1.n))), (5, .sc (.int .i64 0))] (lblks 0 []) 0) (.tup [.sc (.int .i64 (w6 r5.1.n)), .sc (.int .i64 0)]) [] (.inr rfl) (Weak.turnL [] [] rfl rfl (tc (.sc _) (tc (.sc _) tn)) mn) (ro2 (rvT (v := .sc (.int .i64 (w6 r5.1.n))) rfl) (rvT (v := .sc (.int .i64 0)) rfl)) rfl rfl (.tup (.cons (.sc _) (.cons (.sc _) .nil))) pn
              · refine AWP.sq ?_
                refine AWP.rgC 200 rfl rfl ?_
                refine pu (v := .sc _) rfl rfl (fun _ => rfl) ?_
                refine pu (v := .sc _) rfl rfl (fun _ => rfl) ?_
                refine pu (v := .sc _) rfl rfl (fun _ => rfl) ?_
                refine RunC.fin ?_
                refine AWP.cd hR rfl (fun h14 hR => ?_) fun h14 hR => ?_
                · refine AWP.sq ?_
                  refine AWP.rgC 224 rfl rfl ?_
                  refine pu (v := .sc _) rfl rfl (fun _ => rfl) ?_
                  refine pu (v := .sc _) rfl rfl (fun _ => rfl) ?_
                  refine cn rfl rfl ti78 rfl ti2 rfl rfl ?_
                  refine pu (v := .sc _) rfl rfl (fun _ => rfl) ?_
                  refine pu (v := .sc _) rfl rfl (fun _ => rfl) ?_
                  refine pu (v := .sc _) rfl rfl (fun _ => rfl) ?_
                  refine RunC.fin ?_
                  refine AWP.ret ?_
                  refine rtB ?_
                  refine rtT ?_
                  have hR := Option.some.inj hR; subst hR
                  exact hQ _ _ (LS.mk [(4, .sc (.int .i64 (w6 ((w6 (IntKind.wrap .u64 (0 - r5.1.n))) - 1)))), (5, .sc (.int .i64 0))] (lblks 0 []) 0) (.tup [.sc (.int .i64 (w6 ((w6 (IntKind.wrap .u64 (0 - r5.1.n))) - 1))), .sc (.int .i64 0)]) [] (.inr rfl) (Weak.turnL [] [] rfl rfl (tc (.sc _) (tc (.sc _) tn)) mn) (ro2 (rvT (v := .sc (.int .i64 (w6 ((w6 (IntKind.wrap .u64 (0 - r5.1.n))) - 1)))) rfl) (rvT (v := .sc (.int .i64 0)) rfl)) rfl rfl (.tup (.cons (.sc _) (.cons (.sc _) .nil))) pn
                · refine AWP.skip ?_
                  refine skB ?_
                  refine skT ?_
                  refine AWP.sq ?_
                  refine AWP.rgC 220 rfl rfl ?_
                  refine pu (v := .sc _) rfl rfl (fun _ => rfl) ?_
                  refine pu (v := .sc _) rfl rfl (fun _ => rfl) ?_
                  refine cn rfl rfl ti78 rfl ti2 rfl rfl ?_
                  refine pu (v := .sc _) rfl rfl (fun _ => rfl) ?_
                  refine pu (v := .sc _) rfl rfl (fun _ => rfl) ?_
                  refine RunC.fin ?_
                  refine AWP.ret ?_
                  have hR := Option.some.inj hR; subst hR
                  exact hQ _ _ (LS.mk [(4, .sc (.int .i64 (w6 (IntKind.wrap .u64 (0 - r5.1.n))))), (5, .sc (.int .i64 0))] (lblks 0 []) 0) (.tup [.sc (.int .i64 (w6 (IntKind.wrap .u64 (0 - r5.1.n)))), .sc (.int .i64 0)]) [] (.inr rfl) (Weak.turnL [] [] rfl rfl (tc (.sc _) (tc (.sc _) tn)) mn) (ro2 (rvT (v := .sc (.int .i64 (w6 (IntKind.wrap .u64 (0 - r5.1.n))))) rfl) (rvT (v := .sc (.int .i64 0)) rfl)) rfl rfl (.tup (.cons (.sc _) (.cons (.sc _) .nil))) pn
        · refine AWP.skip ?_
          refine skT ?_
          refine AWP.sq ?_
          refine AWP.sq ?_
          refine AWP.rgC 160 rfl rfl ?_
          refine pu (v := .sc _) rfl rfl (fun _ => rfl) ?_
          refine pu (v := .sc _) rfl rfl (fun _ => rfl) ?_
          refine pu (v := .sc _) rfl rfl (fun _ => rfl) ?_
          refine RunC.fin ?_
          refine AWP.cd hR rfl (fun h15 hR => ?_) fun h15 hR => ?_
          · refine AWP.sq ?_
            refine AWP.rgC 168 rfl rfl ?_
            refine pu (v := .sc _) rfl rfl (fun _ => rfl) ?_
            refine pu (v := .sc _) rfl rfl (fun _ => rfl) ?_
            refine RunC.fin ?_
            refine AWP.ret ?_
            refine rtT ?_
            have hR := Option.some.inj hR; subst hR
            exact hQ _ _ (LS.mk [(4, .sc (.int .i64 0)), (5, .sc (.int .i64 2))] (lblks 0 []) 0) (.tup [.sc (.int .i64 0), .sc (.int .i64 2)]) [] (.inr rfl) (Weak.turnL [] [] rfl rfl (tc (.sc _) (tc (.sc _) tn)) mn) (ro2 (rvT (v := .sc (.int .i64 0)) rfl) (rvT (v := .sc (.int .i64 2)) rfl)) rfl rfl (.tup (.cons (.sc _) (.cons (.sc _) .nil))) pn
          · refine AWP.skip ?_
            refine skT ?_
            refine AWP.sq ?_
            refine AWP.block ?_
            refine AWP.sq ?_
            refine AWP.rgC 176 rfl rfl ?_
            refine fa rfl rfl ti80 rfl rfl ti2 rfl ?_
            refine ldB (v := .sc _) rfl rfl rfl rfl ti2 rfl rfl ?_
            refine pu (v := .sc _) rfl rfl (fun _ => rfl) ?_
            refine pu (v := .sc _) rfl rfl (fun _ => rfl) ?_
            refine RunC.fin ?_
            refine AWP.cd hR rfl (fun h16 hR => ?_) fun h16 hR => ?_
            · refine AWP.sq ?_
              refine AWP.rgC 192 rfl rfl ?_
              refine pu (v := .sc _) rfl rfl (fun _ => rfl) ?_
              refine cn rfl rfl ti78 rfl ti2 rfl rfl ?_
              refine pu (v := .sc _) rfl rfl (fun _ => rfl) ?_
              refine pu (v := .sc _) rfl rfl (fun _ => rfl) ?_
              refine RunC.fin ?_
              refine AWP.ret ?_
              refine rtB ?_
              refine rtT ?_
              have hR := Option.some.inj hR; subst hR
              exact hQ _ _ (LS.mk [(4, .sc (.int .i64 (w6 r5.1.n))), (5, .sc (.int .i64 0))] (lblks 0 []) 0) (.tup [.sc (.int .i64 (w6 r5.1.n)), .sc (.int .i64 0)]) [] (.inr rfl) (Weak.turnL [] [] rfl rfl (tc (.sc _) (tc (.sc _) tn)) mn) (ro2 (rvT (v := .sc (.int .i64 (w6 r5.1.n))) rfl) (rvT (v := .sc (.int .i64 0)) rfl)) rfl rfl (.tup (.cons (.sc _) (.cons (.sc _) .nil))) pn
            · refine AWP.sq ?_
              refine AWP.rgC 188 rfl rfl ?_
              refine pu (v := .sc _) rfl rfl (fun _ => rfl) ?_
              refine pu (v := .sc _) rfl rfl (fun _ => rfl) ?_
              refine pu (v := .sc _) rfl rfl (fun _ => rfl) ?_
              refine RunC.fin ?_
              refine AWP.cd hR rfl (fun h17 hR => ?_) fun h17 hR => ?_
              · refine AWP.sq ?_
                refine AWP.rgC 212 rfl rfl ?_
                refine pu (v := .sc _) rfl rfl (fun _ => rfl) ?_
                refine pu (v := .sc _) rfl rfl (fun _ => rfl) ?_
                refine cn rfl rfl ti78 rfl ti2 rfl rfl ?_
                refine pu (v := .sc _) rfl rfl (fun _ => rfl) ?_
                refine pu (v := .sc _) rfl rfl (fun _ => rfl) ?_
                refine pu (v := .sc _) rfl rfl (fun _ => rfl) ?_
                refine RunC.fin ?_
                refine AWP.ret ?_
                refine rtB ?_
                refine rtT ?_
                have hR := Option.some.inj hR; subst hR
                exact hQ _ _ (LS.mk [(4, .sc (.int .i64 (w6 ((w6 (IntKind.wrap .u64 (0 - r5.1.n))) - 1)))), (5, .sc (.int .i64 0))] (lblks 0 []) 0) (.tup [.sc (.int .i64 (w6 ((w6 (IntKind.wrap .u64 (0 - r5.1.n))) - 1))), .sc (.int .i64 0)]) [] (.inr rfl) (Weak.turnL [] [] rfl rfl (tc (.sc _) (tc (.sc _) tn)) mn) (ro2 (rvT (v := .sc (.int .i64 (w6 ((w6 (IntKind.wrap .u64 (0 - r5.1.n))) - 1)))) rfl) (rvT (v := .sc (.int .i64 0)) rfl)) rfl rfl (.tup (.cons (.sc _) (.cons (.sc _) .nil))) pn
              · refine AWP.skip ?_
                refine skB ?_
                refine skT ?_
                refine AWP.sq ?_
                refine AWP.rgC 208 rfl rfl ?_
                refine pu (v := .sc _) rfl rfl (fun _ => rfl) ?_
                refine pu (v := .sc _) rfl rfl (fun _ => rfl) ?_
                refine cn rfl rfl ti78 rfl ti2 rfl rfl ?_
                refine pu (v := .sc _) rfl rfl (fun _ => rfl) ?_
                refine pu (v := .sc _) rfl rfl (fun _ => rfl) ?_
                refine RunC.fin ?_
                refine AWP.ret ?_
                have hR := Option.some.inj hR; subst hR
                exact hQ _ _ (LS.mk [(4, .sc (.int .i64 (w6 (IntKind.wrap .u64 (0 - r5.1.n))))), (5, .sc (.int .i64 0))] (lblks 0 []) 0) (.tup [.sc (.int .i64 (w6 (IntKind.wrap .u64 (0 - r5.1.n)))), .sc (.int .i64 0)]) [] (.inr rfl) (Weak.turnL [] [] rfl rfl (tc (.sc _) (tc (.sc _) tn)) mn) (ro2 (rvT (v := .sc (.int .i64 (w6 (IntKind.wrap .u64 (0 - r5.1.n))))) rfl) (rvT (v := .sc (.int .i64 0)) rfl)) rfl rfl (.tup (.cons (.sc _) (.cons (.sc _) .nil))) pn
    · refine AWP.skip ?_
      refine skT ?_
      refine AWP.sq ?_
      refine AWP.sq ?_
      refine AWP.rgC 68 rfl rfl ?_
      refine fa rfl rfl ti80 rfl rfl ti2 rfl ?_
      refine ldB (v := .sc _) rfl rfl rfl rfl ti2 rfl rfl ?_
      refine cn rfl rfl ti2 rfl ti78 rfl rfl ?_
      refine pu (v := .sc _) rfl rfl (fun _ => rfl) ?_
      refine cn rfl rfl ti2 rfl ti78 rfl rfl ?_
      refine pu (v := .sc _) rfl rfl (fun _ => rfl) ?_
      refine RunC.fin ?_
      refine AWP.cd hR rfl (fun h18 hR => ?_) fun h18 hR => ?_
      · refine AWP.sq ?_
        refine AWP.rgC 76 rfl rfl ?_
        refine pu (v := .sc _) rfl rfl (fun _ => rfl) ?_
        refine pu (v := .sc _) rfl rfl (fun _ => rfl) ?_
        refine RunC.fin ?_
        refine AWP.ret ?_
        refine rtT ?_
        have hR := Option.some.inj hR; subst hR
        exact hQ _ _ (LS.mk [(4, .sc (.int .i64 0)), (5, .sc (.int .i64 2))] (lblks 0 []) 0) (.tup [.sc (.int .i64 0), .sc (.int .i64 2)]) [] (.inr rfl) (Weak.turnL [] [] rfl rfl (tc (.sc _) (tc (.sc _) tn)) mn) (ro2 (rvT (v := .sc (.int .i64 0)) rfl) (rvT (v := .sc (.int .i64 2)) rfl)) rfl rfl (.tup (.cons (.sc _) (.cons (.sc _) .nil))) pn
      · refine AWP.skip ?_
        refine skT ?_
        refine AWP.sq ?_
        refine AWP.rgC 120 rfl rfl ?_
        refine fa rfl rfl ti80 rfl rfl ti2 rfl ?_
        refine ldB (v := .sc _) rfl rfl rfl rfl ti2 rfl rfl ?_
        refine cn rfl rfl ti2 rfl ti78 rfl rfl ?_
        refine fa rfl rfl ti80 rfl rfl ti78 rfl ?_
        refine ldB (v := .sc _) rfl rfl rfl rfl ti78 rfl rfl ?_
        refine pu (v := .sc _) rfl rfl (fun _ => rfl) ?_
        refine cn rfl rfl ti2 rfl ti78 rfl rfl ?_
        obtain ⟨r19, hr19, hR⟩ := bindE hR
        refine cls [] rfl rfl cb50 (ok50 (IntKind.wrap .u64 w.Hi) w.Lo.n (IntKind.wrap .u64 d) _ hr19) (.cons (.sc _) (.cons (.sc _) (.cons (.sc _) (.nil)))) (.inr rfl) rfl ?_
        refine pu (v := .tup _) rfl rfl (fun _ => rfl) ?_
        refine pu (v := .sc _) rfl rfl (fun _ => rfl) ?_
        refine pu (v := .sc _) rfl rfl (fun _ => rfl) ?_
        refine pu (v := .sc _) rfl rfl (fun _ => rfl) ?_
        refine pu (v := .sc _) rfl rfl (fun _ => rfl) ?_
        refine RunC.fin ?_
        refine AWP.sq ?_
        refine AWP.rgC 124 rfl rfl ?_
        refine pu (v := .sc _) rfl rfl (fun _ => rfl) ?_
        refine RunC.fin ?_
        refine AWP.sq ?_
        refine AWP.sq ?_
        refine AWP.rgC 136 rfl rfl ?_
        refine fa rfl rfl ti80 rfl rfl ti2 rfl ?_
        refine ldB (v := .sc _) rfl rfl rfl rfl ti2 rfl rfl ?_
        refine pu (v := .sc _) rfl rfl (fun _ => rfl) ?_
        refine RunC.fin ?_
        refine AWP.cd hR rfl (fun h20 hR => ?_) fun h20 hR => ?_
        · refine AWP.sq ?_
          refine AWP.rgC 140 rfl rfl ?_
          refine pu (v := .sc _) rfl rfl (fun _ => rfl) ?_
          refine RunC.fin ?_
          refine AWP.sq ?_
          refine AWP.rgC 148 rfl rfl ?_
          refine pu (v := .sc _) rfl rfl (fun _ => rfl) ?_
          refine pu (v := .sc _) rfl rfl (fun _ => rfl) ?_
          refine RunC.fin ?_
          refine AWP.cd hR rfl (fun h21 hR => ?_) fun h21 hR => ?_
          · refine AWP.rgC 160 rfl rfl ?_
            refine pu (v := .sc _) rfl rfl (fun _ => rfl) ?_
            refine pu (v := .sc _) rfl rfl (fun _ => rfl) ?_
            refine pu (v := .sc _) rfl rfl (fun _ => rfl) ?_
            refine RunC.fin ?_
            refine AWP.sq ?_
            refine AWP.sq ?_
            refine AWP.rgC 172 rfl rfl ?_
            refine pu (v := .sc _) rfl rfl (fun _ => rfl) ?_
            refine pu (v := .sc _) rfl rfl (fun _ => rfl) ?_
            obtain ⟨v22, ev22, hR⟩ := letE hR
            refine pu (v := .sc _) rfl rfl (fun _ => puB ev22) ?_
            refine RunC.fin ?_
            refine AWP.cd hR rfl (fun h23 hR => ?_) fun h23 hR => ?_
            · refine AWP.sq ?_
              refine AWP.rgC 180 rfl rfl ?_
              refine pu (v := .sc _) rfl rfl (fun _ => rfl) ?_
              refine pu (v := .sc _) rfl rfl (fun _ => rfl) ?_
              refine RunC.fin ?_
              refine AWP.ret ?_
              refine rtT ?_
              have hR := Option.some.inj hR; subst hR
              exact hQ _ _ (LS.mk [(4, .sc (.int .i64 0)), (5, .sc (.int .i64 2))] (lblks 0 []) 0) (.tup [.sc (.int .i64 0), .sc (.int .i64 2)]) [] (.inr rfl) (Weak.turnL [] [] rfl rfl (tc (.sc _) (tc (.sc _) tn)) mn) (ro2 (rvT (v := .sc (.int .i64 0)) rfl) (rvT (v := .sc (.int .i64 2)) rfl)) rfl rfl (.tup (.cons (.sc _) (.cons (.sc _) .nil))) pn
            · refine AWP.skip ?_
              refine skT ?_
              refine AWP.sq ?_
              refine AWP.block ?_
              refine AWP.sq ?_
              refine AWP.rgC 188 rfl rfl ?_
              refine fa rfl rfl ti80 rfl rfl ti2 rfl ?_
              refine ldB (v := .sc _) rfl rfl rfl rfl ti2 rfl rfl ?_
              refine pu (v := .sc _) rfl rfl (fun _ => rfl) ?_
              refine pu (v := .sc _) rfl rfl (fun _ => rfl) ?_
              refine RunC.fin ?_
              refine AWP.cd hR rfl (fun h24 hR => ?_) fun h24 hR => ?_
              · refine AWP.sq ?_
                refine AWP.rgC 204 rfl rfl ?_
                refine pu (v := .sc _) rfl rfl (fun _ => rfl) ?_
                refine cn rfl rfl ti78 rfl ti2 rfl rfl ?_
                refine pu (v := .sc _) rfl rfl (fun _ => rfl) ?_
                refine pu (v := .sc _) rfl rfl (fun _ => rfl) ?_
                refine RunC.fin ?_
                refine AWP.ret ?_
                refine rtB ?_
                refine rtT ?_
                have hR := Option.some.inj hR; subst hR
                exact hQ _ _ (LS.mk [(4, .sc (.int .i64 (w6 r19.1.n))), (5, .sc (.int .i64 0))] (lblks 0 []) 0) (.tup [.sc (.int .i64 (w6 r19.1.n)), .sc (.int .i64 0)]) [] (.inr rfl) (Weak.turnL [] [] rfl rfl (tc (.sc _) (tc (.sc _) tn)) mn) (ro2 (rvT (v := .sc (.int .i64 (w6 r19.1.n))) rfl) (rvT (v := .sc (.int .i64 0)) rfl)) rfl rfl (.tup (.cons (.sc _) (.cons (.sc _) .nil))) pn
              · refine AWP.sq ?_
                refine AWP.rgC 200 rfl rfl ?_
                refine pu (v := .sc _) rfl rfl (fun _ => rfl) ?_
                refine pu (v := .sc _) rfl rfl (fun _ => rfl) ?_
                refine pu (v := .sc _) rfl rfl (fun _ => rfl) ?_
                refine RunC.fin ?_
                refine AWP.cd hR rfl (fun h25 hR => ?_) fun h25 hR => ?_
                · refine AWP.sq ?_
                  refine AWP.rgC 224 rfl rfl ?_
                  refine pu (v := .sc _) rfl rfl (fun _ => rfl) ?_
                  refine pu (v := .sc _) rfl rfl (fun _ => rfl) ?_
                  refine cn rfl rfl ti78 rfl ti2 rfl rfl ?_
                  refine pu (v := .sc _) rfl rfl (fun _ => rfl) ?_
                  refine pu (v := .sc _) rfl rfl (fun _ => rfl) ?_
                  refine pu (v := .sc _) rfl rfl (fun _ => rfl) ?_
                  refine RunC.fin ?_
                  refine AWP.ret ?_
                  refine rtB ?_
                  refine rtT ?_
                  have hR := Option.some.inj hR; subst hR
                  exact hQ _ _ (LS.mk [(4, .sc (.int .i64 (w6 ((w6 (IntKind.wrap .u64 (0 - r19.1.n))) - 1)))), (5, .sc (.int .i64 0))] (lblks 0 []) 0) (.tup [.sc (.int .i64 (w6 ((w6 (IntKind.wrap .u64 (0 - r19.1.n))) - 1))), .sc (.int .i64 0)]) [] (.inr rfl) (Weak.turnL [] [] rfl rfl (tc (.sc _) (tc (.sc _) tn)) mn) (ro2 (rvT (v := .sc (.int .i64 (w6 ((w6 (IntKind.wrap .u64 (0 - r19.1.n))) - 1)))) rfl) (rvT (v := .sc (.int .i64 0)) rfl)) rfl rfl (.tup (.cons (.sc _) (.cons (.sc _) .nil))) pn
                · refine AWP.skip ?_
                  refine skB ?_
                  refine skT ?_
                  refine AWP.sq ?_
                  refine AWP.rgC 220 rfl rfl ?_
                  refine pu (v := .sc _) rfl rfl (fun _ => rfl) ?_
                  refine pu (v := .sc _) rfl rfl (fun _ => rfl) ?_
                  refine cn rfl rfl ti78 rfl ti2 rfl rfl ?_
                  refine pu (v := .sc _) rfl rfl (fun _ => rfl) ?_
                  refine pu (v := .sc _) rfl rfl (fun _ => rfl) ?_
                  refine RunC.fin ?_
                  refine AWP.ret ?_
                  have hR := Option.some.inj hR; subst hR
                  exact hQ _ _ (LS.mk [(4, .sc (.int .i64 (w6 (IntKind.wrap .u64 (0 - r19.1.n))))), (5, .sc (.int .i64 0))] (lblks 0 []) 0) (.tup [.sc (.int .i64 (w6 (IntKind.wrap .u64 (0 - r19.1.n)))), .sc (.int .i64 0)]) [] (.inr rfl) (Weak.turnL [] [] rfl rfl (tc (.sc _) (tc (.sc _) tn)) mn) (ro2 (rvT (v := .sc (.int .i64 (w6 (IntKind.wrap .u64 (0 - r19.1.n))))) rfl) (rvT (v := .sc (.int .i64 0)) rfl)) rfl rfl (.tup (.cons (.sc _) (.cons (.sc _) .nil))) pn
          · refine AWP.skip ?_
            refine skT ?_
            refine AWP.sq ?_
            refine AWP.sq ?_
            refine AWP.rgC 160 rfl rfl ?_
            refine pu (v := .sc _) rfl rfl (fun _ => rfl) ?_
            refine pu (v := .sc _) rfl rfl (fun _ => rfl) ?_
            refine pu (v := .sc _) rfl rfl (fun _ => rfl) ?_
            refine RunC.fin ?_
            refine AWP.cd hR rfl (fun h26 hR => ?_) fun h26 hR => ?_
            · refine AWP.sq ?_
              refine AWP.rgC 168 rfl rfl ?_
              refine pu (v := .sc _) rfl rfl (fun _ => rfl) ?_
              refine pu (v := .sc _) rfl rfl (fun _ => rfl) ?_
              refine RunC.fin ?_
              refine AWP.ret ?_
              refine rtT ?_
              have hR := Option.some.inj hR; subst hR
              exact hQ _ _ (LS.mk [(4, .sc (.int .i64 0)), (5, .sc (.int .i64 2))] (lblks 0 []) 0) (.tup [.sc (.int .i64 0), .sc (.int .i64 2)]) [] (.inr rfl) (Weak.turnL [] [] rfl rfl (tc (.sc _) (tc (.sc _) tn)) mn) (ro2 (rvT (v := .sc (.int .i64 0)) rfl) (rvT (v := .sc (.int .i64 2)) rfl)) rfl rfl (.tup (.cons (.sc _) (.cons (.sc _) .nil))) pn
            · refine AWP.skip ?_
              refine skT ?_
              refine AWP.sq ?_
              refine AWP.block ?_
              refine AWP.sq ?_
              refine AWP.rgC 176 rfl rfl ?_
              refine fa rfl rfl ti80 rfl rfl ti2 rfl ?_
              refine ldB (v := .sc _) rfl rfl rfl rfl ti2 rfl rfl ?_
              refine pu (v := .sc _) rfl rfl (fun _ => rfl) ?_
              refine pu (v := .sc _) rfl rfl (fun _ => rfl) ?_
              refine RunC.fin ?_
              refine AWP.cd hR rfl (fun h27 hR => ?_) fun h27 hR => ?_
              · refine AWP.sq ?_
                refine AWP.rgC 192 rfl rfl ?_
                refine pu (v := .sc _) rfl rfl (fun _ => rfl) ?_
                refine cn rfl rfl ti78 rfl ti2 rfl rfl ?_
                refine pu (v := .sc _) rfl rfl (fun _ => rfl) ?_
                refine pu (v := .sc _) rfl rfl (fun _ => rfl) ?_
                refine RunC.fin ?_
                refine AWP.ret ?_
                refine rtB ?_
                refine rtT ?_
                have hR := Option.some.inj hR; subst hR
                exact hQ _ _ (LS.mk [(4, .sc (.int .i64 (w6 r19.1.n))), (5, .sc (.int .i64 0))] (lblks 0 []) 0) (.tup [.sc (.int .i64 (w6 r19.1.n)), .sc (.int .i64 0)]) [] (.inr rfl) (Weak.turnL [] [] rfl rfl (tc (.sc _) (tc (.sc _) tn)) mn) (ro2 (rvT (v := .sc (.int .i64 (w6 r19.1.n))) rfl) (rvT (v := .sc (.int .i64 0)) rfl)) rfl rfl (.tup (.cons (.sc _) (.cons (.sc _) .nil))) pn
              · refine AWP.sq ?_
                refine AWP.rgC 188 rfl rfl ?_
                refine pu (v := .sc _) rfl rfl (fun _ => rfl) ?_
                refine pu (v := .sc _) rfl rfl (fun _ => rfl) ?_
                refine pu (v := .sc _) rfl rfl (fun _ => rfl) ?_
                refine RunC.fin ?_
                refine AWP.cd hR rfl (fun h28 hR => ?_) fun h28 hR => ?_
                · refine AWP.sq ?_
                  refine AWP.rgC 212 rfl rfl ?_
                  refine pu (v := .sc _) rfl rfl (fun _ => rfl) ?_
                  refine pu (v := .sc _) rfl rfl (fun _ => rfl) ?_
                  refine cn rfl rfl ti78 rfl ti2 rfl rfl ?_
                  refine pu (v := .sc _) rfl rfl (fun _ => rfl) ?_
                  refine pu (v := .sc _) rfl rfl (fun _ => rfl) ?_
                  refine pu (v := .sc _) rfl rfl (fun _ => rfl) ?_
                  refine RunC.fin ?_
                  refine AWP.ret ?_
                  refine rtB ?_
                  refine rtT ?_
                  have hR := Option.some.inj hR; subst hR
                  exact hQ _ _ (LS.mk [(4, .sc (.int .i64 (w6 ((w6 (IntKind.wrap .u64 (0 - r19.1.n))) - 1)))), (5, .sc (.int .i64 0))] (lblks 0 []) 0) (.tup [.sc (.int .i64 (w6 ((w6 (IntKind.wrap .u64 (0 - r19.1.n))) - 1))), .sc (.int .i64 0)]) [] (.inr rfl) (Weak.turnL [] [] rfl rfl (tc (.sc _) (tc (.sc _) tn)) mn) (ro2 (rvT (v := .sc (.int .i64 (w6 ((w6 (IntKind.wrap .u64 (0 - r19.1.n))) - 1)))) rfl) (rvT (v := .sc (.int .i64 0)) rfl)) rfl rfl (.tup (.cons (.sc _) (.cons (.sc _) .nil))) pn
                · refine AWP.skip ?_
                  refine skB ?_
                  refine skT ?_
                  refine AWP.sq ?_
                  refine AWP.rgC 208 rfl rfl ?_
                  refine pu (v := .sc _) rfl rfl (fun _ => rfl) ?_
                  refine pu (v := .sc _) rfl rfl (fun _ => rfl) ?_
                  refine cn rfl rfl ti78 rfl ti2 rfl rfl ?_
                  refine pu (v := .sc _) rfl rfl (fun _ => rfl) ?_
                  refine pu (v := .sc _) rfl rfl (fun _ => rfl) ?_
                  refine RunC.fin ?_
                  refine AWP.ret ?_
                  have hR := Option.some.inj hR; subst hR
                  exact hQ _ _ (LS.mk [(4, .sc (.int .i64 (w6 (IntKind.wrap .u64 (0 - r19.1.n))))), (5, .sc (.int .i64 0))] (lblks 0 []) 0) (.tup [.sc (.int .i64 (w6 (IntKind.wrap .u64 (0 - r19.1.n)))), .sc (.int .i64 0)]) [] (.inr rfl) (Weak.turnL [] [] rfl rfl (tc (.sc _) (tc (.sc _) tn)) mn) (ro2 (rvT (v := .sc (.int .i64 (w6 (IntKind.wrap .u64 (0 - r19.1.n))))) rfl) (rvT (v := .sc (.int .i64 0)) rfl)) rfl rfl (.tup (.cons (.sc _) (.cons (.sc _) .nil))) pn
        · refine AWP.skip ?_
          refine skT ?_
          refine AWP.sq ?_
          refine AWP.sq ?_
          refine AWP.rgC 148 rfl rfl ?_
          refine pu (v := .sc _) rfl rfl (fun _ => rfl) ?_
          refine pu (v := .sc _) rfl rfl (fun _ => rfl) ?_
          refine pu (v := .sc _) rfl rfl (fun _ => rfl) ?_
          refine RunC.fin ?_
          refine AWP.cd hR rfl (fun h29 hR => ?_) fun h29 hR => ?_
          · refine AWP.sq ?_
            refine AWP.rgC 156 rfl rfl ?_
            refine pu (v := .sc _) rfl rfl (fun _ => rfl) ?_
            refine pu (v := .sc _) rfl rfl (fun _ => rfl) ?_
            refine RunC.fin ?_
            refine AWP.ret ?_
            refine rtT ?_
            have hR := Option.some.inj hR; subst hR
            exact hQ _ _ (LS.mk [(4, .sc (.int .i64 0)), (5, .sc (.int .i64 2))] (lblks 0 []) 0) (.tup [.sc (.int .i64 0), .sc (.int .i64 2)]) [] (.inr rfl) (Weak.turnL [] [] rfl rfl (tc (.sc _) (tc (.sc _) tn)) mn) (ro2 (rvT (v := .sc (.int .i64 0)) rfl) (rvT (v := .sc (.int .i64 2)) rfl)) rfl rfl (.tup (.cons (.sc _) (.cons (.sc _) .nil))) pn
          · refine AWP.skip ?_
            refine skT ?_
            refine AWP.sq ?_
            refine AWP.block ?_
            refine AWP.sq ?_
            refine AWP.rgC 164 rfl rfl ?_
            refine fa rfl rfl ti80 rfl rfl ti2 rfl ?_
            refine ldB (v := .sc _) rfl rfl rfl rfl ti2 rfl rfl ?_
            refine pu (v := .sc _) rfl rfl (fun _ => rfl) ?_
            refine pu (v := .sc _) rfl rfl (fun _ => rfl) ?_
            refine RunC.fin ?_
            refine AWP.cd hR rfl (fun h30 hR => ?_) fun h30 hR => ?_
            · refine AWP.sq ?_
              refine AWP.rgC 180 rfl rfl ?_
              refine pu (v := .sc _) rfl rfl (fun _ => rfl) ?_
              refine cn rfl rfl ti78 rfl ti2 rfl rfl ?_
              refine pu (v := .sc _) rfl rfl (fun _ => rfl) ?_
              refine pu (v := .sc _) rfl rfl (fun _ => rfl) ?_
              refine RunC.fin ?_
              refine AWP.ret ?_
              refine rtB ?_
              refine rtT ?_
              have hR := Option.some.inj hR; subst hR
              exact hQ _ _ (LS.mk [(4, .sc (.int .i64 (w6 r19.1.n))), (5, .sc (.int .i64 0))] (lblks 0 []) 0) (.tup [.sc (.int .i64 (w6 r19.1.n)), .sc (.int .i64 0)]) [] (.inr rfl) (Weak.turnL [] [] rfl rfl (tc (.sc _) (tc (.sc _) tn)) mn) (ro2 (rvT (v := .sc (.int .i64 (w6 r19.1.n))) rfl) (rvT (v := .sc (.int .i64 0)) rfl)) rfl rfl (.tup (.cons (.sc _) (.cons (.sc _) .nil))) pn
            · refine AWP.sq ?_
              refine AWP.rgC 176 rfl rfl ?_
              refine pu (v := .sc _) rfl rfl (fun _ => rfl) ?_
              refine pu (v := .sc _) rfl rfl (fun _ => rfl) ?_
              refine pu (v := .sc _) rfl rfl (fun _ => rfl) ?_
              refine RunC.fin ?_
              refine AWP.cd hR rfl (fun h31 hR => ?_) fun h31 hR => ?_
              · refine AWP.sq ?_
                refine AWP.rgC 200 rfl rfl ?_
                refine pu (v := .sc _) rfl rfl (fun _ => rfl) ?_
                refine pu (v := .sc _) rfl rfl (fun _ => rfl) ?_
                refine cn rfl rfl ti78 rfl ti2 rfl rfl ?_
                refine pu (v := .sc _) rfl rfl (fun _ => rfl) ?_
                refine pu (v := .sc _) rfl rfl (fun _ => rfl) ?_
                refine pu (v := .sc _) rfl rfl (fun _ => rfl) ?_
                refine RunC.fin ?_
                refine AWP.ret ?_
                refine rtB ?_
                refine rtT ?_
                have hR := Option.some.inj hR; subst hR
                exact hQ _ _ (LS.mk [(4, .sc (.int .i64 (w6 ((w6 (IntKind.wrap .u64 (0 - r19.1.n))) - 1)))), (5, .sc (.int .i64 0))] (lblks 0 []) 0) (.tup [.sc (.int .i64 (w6 ((w6 (IntKind.wrap .u64 (0 - r19.1.n))) - 1))), .sc (.int .i64 0)]) [] (.inr rfl) (Weak.turnL [] [] rfl rfl (tc (.sc _) (tc (.sc _) tn)) mn) (ro2 (rvT (v := .sc (.int .i64 (w6 ((w6 (IntKind.wrap .u64 (0 - r19.1.n))) - 1)))) rfl) (rvT (v := .sc (.int .i64 0)) rfl)) rfl rfl (.tup (.cons (.sc _) (.cons (.sc _) .nil))) pn
              · refine AWP.skip ?_
                refine skB ?_
                refine skT ?_
                refine AWP.sq ?_
                refine AWP.rgC 196 rfl rfl ?_
                refine pu (v := .sc _) rfl rfl (fun _ => rfl) ?_
                refine pu (v := .sc _) rfl rfl (fun _ => rfl) ?_
                refine cn rfl rfl ti78 rfl ti2 rfl rfl ?_
                refine pu (v := .sc _) rfl rfl (fun _ => rfl) ?_
                refine pu (v := .sc _) rfl rfl (fun _ => rfl) ?_
                refine RunC.fin ?_
                refine AWP.ret ?_
                have hR := Option.some.inj hR; subst hR
                exact hQ _ _ (LS.mk [(4, .sc (.int .i64 (w6 (IntKind.wrap .u64 (0 - r19.1.n))))), (5, .sc (.int .i64 0))] (lblks 0 []) 0) (.tup [.sc (.int .i64 (w6 (IntKind.wrap .u64 (0 - r19.1.n)))), .sc (.int .i64 0)]) [] (.inr rfl) (Weak.turnL [] [] rfl rfl (tc (.sc _) (tc (.sc _) tn)) mn) (ro2 (rvT (v := .sc (.int .i64 (w6 (IntKind.wrap .u64 (0 - r19.1.n))))) rfl) (rvT (v := .sc (.int .i64 0)) rfl)) rfl rfl (.tup (.cons (.sc _) (.cons (.sc _) .nil))) pn
theorem ok41 (a : Int) (b : Int) (r : num_Wide) (hR : num_Product a b = some r) : FnP Try.prog 41 [.sc (.int .i64 a), .sc (.int .i64 b)] (aggV (α := num_Wide) true r) := by
  refine fnP_of (FnX.walk Try.func41 rfl 28 0 (by simp [Try.ntmps41]) rfl fun W S F Q hQ => ?_)
  unfold num_Product at hR
  refine AWP.sq ?_
  refine AWP.rgC 4 rfl rfl ?_
  refine al (cs := [.sc (.int .i64 0), .sc (.int .u64 0)]) 0 rfl rfl ti80 rfl rfl ?_
  refine RunC.fin ?_
  refine AWP.sq ?_
  refine AWP.rgC 44 rfl rfl ?_
  refine pu (v := .sc _) rfl rfl (fun _ => rfl) ?_
  obtain ⟨r1, hr1, hR⟩ := bindE hR
  refine cls [] rfl rfl cb48 (ok48 a _ hr1) (.cons (.sc _) (.nil)) (.inr rfl) rfl ?_
  refine pu (v := .sc _) rfl rfl (fun _ => rfl) ?_
  obtain ⟨r2, hr2, hR⟩ := bindE hR
  refine cls [] rfl rfl cb48 (ok48 b _ hr2) (.cons (.sc _) (.nil)) (.inr rfl) rfl ?_
  obtain ⟨r3, hr3, hR⟩ := bindE hR
  refine cls [] rfl rfl cb47 (ok47 r1.n r2.n _ hr3) (.cons (.sc _) (.cons (.sc _) (.nil))) (.inr rfl) rfl ?_
  refine pu (v := .tup _) rfl rfl (fun _ => rfl) ?_
  refine pu (v := .sc _) rfl rfl (fun _ => rfl) ?_
  refine pu (v := .sc _) rfl rfl (fun _ => rfl) ?_
  refine pu (v := .sc _) rfl rfl (fun _ => rfl) ?_
  refine pu (v := .sc _) rfl rfl (fun _ => rfl) ?_
  refine RunC.fin ?_
  refine AWP.sq ?_
  refine AWP.rgC 68 rfl rfl ?_
  refine pu (v := .sc _) rfl rfl (fun _ => rfl) ?_
  refine cn rfl rfl ti78 rfl ti2 rfl rfl ?_
  refine pu (v := .sc _) rfl rfl (fun _ => rfl) ?_
  refine bu (cs := [.sc (.int .i64 (w6 r3.1.n)), .sc (.int .u64 r3.2.n)]) rfl bt80 rfl ?_
  refine al (cs := [.sc (.int .i64 0), .sc (.int .u64 0)]) 60 rfl rfl ti80 rfl rfl ?_
  refine stB (cs' := [.sc (.int .i64 (w6 r3.1.n)), .sc (.int .u64 r3.2.n)]) rfl rfl rfl rfl ti80 rfl rfl rfl rfl rfl ?_
  refine RunC.fin ?_
  refine AWP.sq ?_
  refine AWP.sq ?_
  refine AWP.rgC 88 rfl rfl ?_
  refine pu (v := .sc _) rfl rfl (fun _ => rfl) ?_
  refine pu (v := .sc _) rfl rfl (fun _ => rfl) ?_
  refine pu (v := .sc _) rfl rfl (fun _ => rfl) ?_
  refine pu (v := .sc _) rfl rfl (fun _ => rfl) ?_
  refine nb rfl rfl rfl ti4 rfl rfl ?_
  refine RunC.fin ?_
  refine AWP.cd hR rfl (fun h4 hR => ?_) fun h4 hR => ?_
  · refine AWP.sq ?_
    refine AWP.rgC 100 rfl rfl ?_
    refine ldB (v := .agg _) rfl rfl rfl rfl ti80 rfl rfl ?_
    obtain ⟨r5, hr5, hR⟩ := bindE hR
    refine cls [] rfl rfl cb49 (ok49 (num_Wide.mk (w6 r3.1.n) r3.2) _ hr5) (.cons (.agg (.cons (.sc _) (.cons (.sc _) (.nil))) rfl) (.nil)) (.inr rfl) rfl ?_
    refine stB (cs' := [.sc (.int .i64 r5.Hi), .sc (.int .u64 r5.Lo.n)]) rfl rfl rfl rfl ti80 rfl rfl rfl rfl rfl ?_
    refine RunC.fin ?_
    refine AWP.ret ?_
    refine rtT ?_
    have hR := Option.some.inj hR; subst hR
    exact hQ _ _ (LS.mk [(4, .ptr 0 0 0)] (lblks 0 [boxB (α := num_Wide) true r5]) 1) (aggV (α := num_Wide) true r5) [] (.inr rfl) (Weak.turnL [(0, 0)] [] rfl rfl (tc (trP' rfl rfl rfl rfl) tn) (mc rfl (.box rfl (.cons (.sc _) (.cons (.sc _) (.nil))) rfl) mn)) (ro1 (rvC (v := aggV (α := num_Wide) true r5) rfl rfl ti80 rfl)) rfl rfl ldA pn
  · refine AWP.skip ?_
    refine skT ?_
    refine AWP.sq ?_
    refine AWP.rgC 96 rfl rfl ?_
    refine ldB (v := .agg _) rfl rfl rfl rfl ti80 rfl rfl ?_
    refine stB (cs' := [.sc (.int .i64 (w6 r3.1.n)), .sc (.int .u64 r3.2.n)]) rfl rfl rfl rfl ti80 rfl rfl rfl rfl rfl ?_
    refine RunC.fin ?_
    refine AWP.ret ?_
    have hR := Option.some.inj hR; subst hR
    exact hQ _ _ (LS.mk [(4, .ptr 0 0 0)] (lblks 0 [boxB (α := num_Wide) true (num_Wide.mk (w6 r3.1.n) r3.2)]) 1) (aggV (α := num_Wide) true (num_Wide.mk (w6 r3.1.n) r3.2)) [] (.inr rfl) (Weak.turnL [(0, 0)] [] rfl rfl (tc (trP' rfl rfl rfl rfl) tn) (mc rfl (.box rfl (.cons (.sc _) (.cons (.sc _) (.nil))) rfl) mn)) (ro1 (rvC (v := aggV (α := num_Wide) true (num_Wide.mk (w6 r3.1.n) r3.2)) rfl rfl ti80 rfl)) rfl rfl ldA pn
theorem ok46 (s : List Bound) (r : (List Bound)) (hR : slices_Clone_Bound s = some r) : FnP Try.prog 46 [rowV false s] (rowV (α := Bound) true r) := by
  refine fnP_of (FnX.walk Try.func46 rfl 8 0 (by simp [Try.ntmps46]) rfl fun W S F Q hQ => ?_)
  unfold slices_Clone_Bound at hR
  refine AWP.sq ?_
  refine AWP.rgC 4 rfl rfl ?_
  refine pu (v := .sc _) rfl rfl (fun _ => rfl) ?_
  refine RunC.fin ?_
  refine AWP.sq ?_
  refine AWP.joinX (fun z1 : Bool => LS.mk [(0, rowV (α := Bound) false s), (4, .sc (.bool z1))] (lblks 0 []) 0) hR (fun o1 hR => ?_) fun z1 hR => ?_
  · refine AWP.rgC 12 rfl rfl ?_
    refine pu (v := rowV _ s) rfl rfl (fun _ => rfl) ?_
    refine nilE hR rfl rfl rfl (by rw [ti31]; rfl) (fun hR h2 => ?_) fun hR => ?_
    · refine RunC.fin ?_
      have hR := Option.some.inj hR; subst hR
      exact Weak.turnL [] [] rfl rfl (tc trR1 (tc (.sc _) tn)) mn
    · refine RunC.fin ?_
      have hR := Option.some.inj hR; subst hR
      exact Weak.turnL [] [] rfl rfl (tc trR1 (tc (.sc _) tn)) mn
  · refine AWP.cd hR rfl (fun h3 hR => ?_) fun h3 hR => ?_
    · refine AWP.sq ?_
      refine AWP.rgC 4 rfl rfl ?_
      refine pu (v := .sc _) rfl rfl (fun _ => rfl) ?_
      refine RunC.fin ?_
      refine AWP.ret ?_
      refine rtT ?_
      have hR := Option.some.inj hR; subst hR
      exact hQ _ _ (LS.mk [(2, rowV (α := Bound) true [])] (lblks 0 []) 0) (rowV (α := Bound) true []) [] (.inr rfl) (Weak.turnL [] [] rfl rfl (tc trN tn) mn) (ro1 (rvT (v := rowV (α := Bound) true []) rfl)) rfl rfl ldR' pn
    · refine AWP.skip ?_
      refine skT ?_
      refine AWP.sq ?_
      refine AWP.rgC 16 rfl rfl ?_
      refine bs (α := Bound) 0 true ([] : List Bound) rfl rfl ti31 rfl ti43 rfl rfl rfl rfl rfl ?_
      refine pu (v := rowV _ s) rfl rfl (fun _ => rfl) ?_
      obtain ⟨h4, hR⟩ := chkE hR
      refine ap' (α := Bound) (nw := true) (xs := ([] : List Bound)) (ys := s) rfl rfl rfl rfl (srcR2 rfl (fun _ => rfl)) ti31 rfl ti43 rfl h4 rfl ?_
      refine pu (v := slV Bound _ _ _ _) rfl rfl (fun _ => rfl) ?_
      refine RunC.fin ?_
      refine AWP.ret ?_
      have hR := Option.some.inj hR; subst hR
      exact hQ _ _ (LS.mk [(2, rowV (α := Bound) true (([] : List Bound) ++ s))] (lblks 0 []) 0) (rowV (α := Bound) true (([] : List Bound) ++ s)) [] (.inr rfl) (Weak.turnL [] [0] rfl rfl (tc (trF' rfl rfl id rfl) tn) mn) (ro1 (rvT (v := rowV (α := Bound) true (([] : List Bound) ++ s)) rfl)) rfl rfl ldR' pn
theorem ok45 (s : List Int) (r : (List Int)) (hR : slices_Clone_Int s = some r) : FnP Try.prog 45 [rowV false s] (rowV (α := Int) true r) := by
  refine fnP_of (FnX.walk Try.func45 rfl 8 0 (by simp [Try.ntmps45]) rfl fun W S F Q hQ => ?_)
  unfold slices_Clone_Int at hR
  refine AWP.sq ?_
  refine AWP.rgC 4 rfl rfl ?_
  refine pu (v := .sc _) rfl rfl (fun _ => rfl) ?_
  refine RunC.fin ?_
  refine AWP.sq ?_
  refine AWP.joinX (fun z1 : Bool => LS.mk [(0, rowV (α := Int) false s), (4, .sc (.bool z1))] (lblks 0 []) 0) hR (fun o1 hR => ?_) fun z1 hR => ?_
  · refine AWP.rgC 12 rfl rfl ?_
    refine pu (v := rowV _ s) rfl rfl (fun _ => rfl) ?_
    refine nilE hR rfl rfl rfl (by rw [ti22]; rfl) (fun hR h2 => ?_) fun hR => ?_
    · refine RunC.fin ?_
      have hR := Option.some.inj hR; subst hR
      exact Weak.turnL [] [] rfl rfl (tc trR1 (tc (.sc _) tn)) mn
    · refine RunC.fin ?_
      have hR := Option.some.inj hR; subst hR
      exact Weak.turnL [] [] rfl rfl (tc trR1 (tc (.sc _) tn)) mn
  · refine AWP.cd hR rfl (fun h3 hR => ?_) fun h3 hR => ?_
    · refine AWP.sq ?_
      refine AWP.rgC 4 rfl rfl ?_
      refine pu (v := .sc _) rfl rfl (fun _ => rfl) ?_
      refine RunC.fin ?_
      refine AWP.ret ?_
      refine rtT ?_
      have hR := Option.some.inj hR; subst hR
      exact hQ _ _ (LS.mk [(2, rowV (α := Int) true [])] (lblks 0 []) 0) (rowV (α := Int) true []) [] (.inr rfl) (Weak.turnL [] [] rfl rfl (tc trN tn) mn) (ro1 (rvT (v := rowV (α := Int) true []) rfl)) rfl rfl ldR' pn
    · refine AWP.skip ?_
      refine skT ?_
      refine AWP.sq ?_
      refine AWP.rgC 16 rfl rfl ?_
      refine bs (α := Int) 0 true ([] : List Int) rfl rfl ti22 rfl ti3 rfl rfl rfl rfl rfl ?_
      refine pu (v := rowV _ s) rfl rfl (fun _ => rfl) ?_
      obtain ⟨h4, hR⟩ := chkE hR
      refine ap' (α := Int) (nw := true) (xs := ([] : List Int)) (ys := s) rfl rfl rfl rfl (srcR2 rfl (fun _ => rfl)) ti22 rfl ti3 rfl h4 rfl ?_
      refine pu (v := slV Int _ _ _ _) rfl rfl (fun _ => rfl) ?_
      refine RunC.fin ?_
      refine AWP.ret ?_
      have hR := Option.some.inj hR; subst hR
      exact hQ _ _ (LS.mk [(2, rowV (α := Int) true (([] : List Int) ++ s))] (lblks 0 []) 0) (rowV (α := Int) true (([] : List Int) ++ s)) [] (.inr rfl) (Weak.turnL [] [0] rfl rfl (tc (trF' rfl rfl id rfl) tn) mn) (ro1 (rvT (v := rowV (α := Int) true (([] : List Int) ++ s)) rfl)) rfl rfl ldR' pn
theorem ok20 (b : Bound) (r : Int) (hR : bound_Check b = some r) : FnP Try.prog 20 [aggV false b] (.sc (.int .i64 r)) := by
  refine fnP_of (FnX.walk Try.func20 rfl 37 0 (by simp [Try.ntmps20]) rfl fun W S F Q hQ => ?_)
  unfold bound_Check at hR
  refine AWP.sq ?_
  refine AWP.rgC 8 rfl rfl ?_
  refine bx (cs := _) 0 rfl rfl rfl ?_
  refine pu (v := .sc _) rfl rfl (fun _ => rfl) ?_
  refine RunC.fin ?_
  refine AWP.sq ?_
  refine AWP.block ?_
  refine AWP.joinX (fun z1 : Bool => LS.mk [(1, .ptr 0 0 0), (3, .sc (.bool z1))] (lblks 0 [boxB (α := Bound) true b]) 1) hR (fun o1 hR => ?_) fun z1 hR => ?_
  · refine AWP.rgC 60 rfl rfl ?_
    refine fa rfl rfl ti43 rfl rfl ti4 rfl ?_
    refine ldB (v := .sc _) rfl rfl rfl rfl ti4 rfl rfl ?_
    refine pu (v := .sc _) rfl rfl (fun _ => rfl) ?_
    refine brR hR (fun h2 hR => ?_) fun h2 hR => ?_
    · refine fa (wtG rfl rfl rfl h2) rfl ti43 rfl rfl ti28 rfl ?_
      refine ldB (v := .sc _) (wtG rfl rfl rfl h2) rfl rfl rfl ti28 rfl rfl ?_
      refine pu (v := .sc _) (wtG rfl rfl rfl h2) rfl (fun _ => rfl) ?_
      refine pu (v := .sc _) (wtG rfl rfl rfl h2) rfl (fun _ => rfl) ?_
      refine brR hR (fun h3 hR => ?_) fun h3 hR => ?_
      · refine sk (skW rfl rfl rfl h3) ?_
        refine sk (skW rfl rfl rfl h3) ?_
        refine sk (skW rfl rfl rfl h3) ?_
        refine pkT (v := .sc (.bool true)) (wtG rfl rfl rfl h2) rfl h3 rfl ?_
        refine pkT (v := .sc (.bool true)) rfl rfl h2 rfl ?_
        refine pu (v := .sc _) rfl rfl (fun _ => rfl) ?_
        refine RunC.fin ?_
        have hR := Option.some.inj hR; subst hR
        exact Weak.turnL [(0, 0)] [] rfl rfl (tc (trP' rfl rfl rfl rfl) (tc (.sc _) tn)) (mc rfl (.box rfl (.cons (.sc _) (.cons (.sc _) (.cons (.sc _) (.nil)))) rfl) mn)
      · refine fa (wtG rfl rfl rfl h3) rfl ti43 rfl rfl ti28 rfl ?_
        refine ldB (v := .sc _) (wtG rfl rfl rfl h3) rfl rfl rfl ti28 rfl rfl ?_
        refine pu (v := .sc _) (wtG rfl rfl rfl h3) rfl (fun _ => rfl) ?_
        refine pkF (v := .sc (.bool (b.Hi != 0))) (wtG rfl rfl rfl h2) rfl h3 rfl ?_
        refine pkT (v := .sc (.bool (b.Hi != 0))) rfl rfl h2 rfl ?_
        refine pu (v := .sc _) rfl rfl (fun _ => rfl) ?_
        refine RunC.fin ?_
        have hR := Option.some.inj hR; subst hR
        exact Weak.turnL [(0, 0)] [] rfl rfl (tc (trP' rfl rfl rfl rfl) (tc (.sc _) tn)) (mc rfl (.box rfl (.cons (.sc _) (.cons (.sc _) (.cons (.sc _) (.nil)))) rfl) mn)
    · refine sk (skW rfl rfl rfl h2) ?_
      refine sk (skW rfl rfl rfl h2) ?_
      refine sk (skW rfl rfl rfl h2) ?_
      refine sk (skW rfl rfl rfl h2) ?_
      refine sk (skW2 rfl rfl rfl) ?_
      refine sk (skW2 rfl rfl rfl) ?_
      refine sk (skW2 rfl rfl rfl) ?_
      refine sk (skW rfl rfl rfl h2) ?_
      refine pkF (v := .sc (.bool false)) rfl rfl h2 rfl ?_
      refine pu (v := .sc _) rfl rfl (fun _ => rfl) ?_
      refine RunC.fin ?_
      have hR := Option.some.inj hR; subst hR
      exact Weak.turnL [(0, 0)] [] rfl rfl (tc (trP' rfl rfl rfl rfl) (tc (.sc _) tn)) (mc rfl (.box rfl (.cons (.sc _) (.cons (.sc _) (.cons (.sc _) (.nil)))) rfl) mn)
  · refine AWP.cd hR rfl (fun h4 hR => ?_) fun h4 hR => ?_
    · refine AWP.sq ?_
      refine AWP.rgC 5 rfl rfl ?_
      refine pu (v := .sc _) rfl rfl (fun _ => rfl) ?_
      refine RunC.fin ?_
      refine AWP.ret ?_
      refine rtB ?_
      refine rtT ?_
      have hR := Option.some.inj hR; subst hR
      exact hQ _ _ (LS.mk [(2, .sc (.int .i64 3))] (lblks 0 []) 0) (.sc (.int .i64 3)) [] (.inr rfl) (Weak.turnL [] [] rfl rfl (tc (.sc _) tn) mn) (ro1 (rvT (v := .sc (.int .i64 3)) rfl)) rfl rfl (.sc _) pn
    · refine AWP.joinX (fun z5 : Bool => LS.mk [(1, .ptr 0 0 0), (16, .sc (.bool z5))] (lblks 0 [boxB (α := Bound) true b]) 1) hR (fun o5 hR => ?_) fun z5 hR => ?_
      · refine AWP.rgC 61 rfl rfl ?_
        refine fa rfl rfl ti43 rfl rfl ti28 rfl ?_
        refine ldB (v := .sc _) rfl rfl rfl rfl ti28 rfl rfl ?_
        refine fa rfl rfl ti43 rfl rfl ti28 rfl ?_
        refine ldB (v := .sc _) rfl rfl rfl rfl ti28 rfl rfl ?_
        refine pu (v := .sc _) rfl rfl (fun _ => rfl) ?_
        refine pu (v := .sc _) rfl rfl (fun _ => rfl) ?_
        refine pu (v := .sc _) rfl rfl (fun _ => rfl) ?_
        refine brR hR (fun h6 hR => ?_) fun h6 hR => ?_
        · refine sk (skW rfl rfl rfl h6) ?_
          refine sk (skW rfl rfl rfl h6) ?_
          refine sk (skW rfl rfl rfl h6) ?_
          refine sk (skW rfl rfl rfl h6) ?_
          refine sk (skW rfl rfl rfl h6) ?_
          refine sk (skW rfl rfl rfl h6) ?_
          refine pkT (v := .sc (.bool true)) rfl rfl h6 rfl ?_
          refine pu (v := .sc _) rfl rfl (fun _ => rfl) ?_
          refine RunC.fin ?_
          have hR := Option.some.inj hR; subst hR
          exact Weak.turnL [(0, 0)] [] rfl rfl (tc (trP' rfl rfl rfl rfl) (tc (.sc _) tn)) (mc rfl (.box rfl (.cons (.sc _) (.cons (.sc _) (.cons (.sc _) (.nil)))) rfl) mn)
        · refine fa (wtG rfl rfl rfl h6) rfl ti43 rfl rfl ti28 rfl ?_
          refine ldB (v := .sc _) (wtG rfl rfl rfl h6) rfl rfl rfl ti28 rfl rfl ?_
          refine fa (wtG rfl rfl rfl h6) rfl ti43 rfl rfl ti28 rfl ?_
          refine ldB (v := .sc _) (wtG rfl rfl rfl h6) rfl rfl rfl ti28 rfl rfl ?_
          refine pu (v := .sc _) (wtG rfl rfl rfl h6) rfl (fun _ => rfl) ?_
          refine pu (v := .sc _) (wtG rfl rfl rfl h6) rfl (fun _ => rfl) ?_
          refine pkF (v := .sc (.bool (decide ((mx2 b.Lo b.Hi) > 1152921504606846976)))) rfl rfl h6 rfl ?_
          refine pu (v := .sc _) rfl rfl (fun _ => rfl) ?_
          refine RunC.fin ?_
          have hR := Option.some.inj hR; subst hR
          exact Weak.turnL [(0, 0)] [] rfl rfl (tc (trP' rfl rfl rfl rfl) (tc (.sc _) tn)) (mc rfl (.box rfl (.cons (.sc _) (.cons (.sc _) (.cons (.sc _) (.nil)))) rfl) mn)
      · refine AWP.cd hR rfl (fun h7 hR => ?_) fun h7 hR => ?_
        · refine AWP.sq ?_
          refine AWP.rgC 5 rfl rfl ?_
          refine pu (v := .sc _) rfl rfl (fun _ => rfl) ?_
          refine RunC.fin ?_
          refine AWP.ret ?_
          refine rtB ?_
          refine rtT ?_
          have hR := Option.some.inj hR; subst hR
          exact hQ _ _ (LS.mk [(2, .sc (.int .i64 4))] (lblks 0 []) 0) (.sc (.int .i64 4)) [] (.inr rfl) (Weak.turnL [] [] rfl rfl (tc (.sc _) tn) mn) (ro1 (rvT (v := .sc (.int .i64 4)) rfl)) rfl rfl (.sc _) pn
        · refine AWP.sq ?_
          refine AWP.rgC 25 rfl rfl ?_
          refine fa rfl rfl ti43 rfl rfl ti28 rfl ?_
          refine ldB (v := .sc _) rfl rfl rfl rfl ti28 rfl rfl ?_
          refine fa rfl rfl ti43 rfl rfl ti28 rfl ?_
          refine ldB (v := .sc _) rfl rfl rfl rfl ti28 rfl rfl ?_
          refine pu (v := .sc _) rfl rfl (fun _ => rfl) ?_
          refine pu (v := .sc _) rfl rfl (fun _ => rfl) ?_
          refine RunC.fin ?_
          refine AWP.cd hR rfl (fun h8 hR => ?_) fun h8 hR => ?_
          · refine AWP.sq ?_
            refine AWP.rgC 29 rfl rfl ?_
            refine pu (v := .sc _) rfl rfl (fun _ => rfl) ?_
            refine RunC.fin ?_
            refine AWP.ret ?_
            refine rtB ?_
            refine rtT ?_
            have hR := Option.some.inj hR; subst hR
            exact hQ _ _ (LS.mk [(2, .sc (.int .i64 11))] (lblks 0 []) 0) (.sc (.int .i64 11)) [] (.inr rfl) (Weak.turnL [] [] rfl rfl (tc (.sc _) tn) mn) (ro1 (rvT (v := .sc (.int .i64 11)) rfl)) rfl rfl (.sc _) pn
          · refine AWP.skip ?_
            refine skB ?_
            refine skT ?_
            refine AWP.sq ?_
            refine AWP.rgC 29 rfl rfl ?_
            refine pu (v := .sc _) rfl rfl (fun _ => rfl) ?_
            refine RunC.fin ?_
            refine AWP.ret ?_
            have hR := Option.some.inj hR; subst hR
            exact hQ _ _ (LS.mk [(2, .sc (.int .i64 0))] (lblks 0 []) 0) (.sc (.int .i64 0)) [] (.inr rfl) (Weak.turnL [] [] rfl rfl (tc (.sc _) tn) mn) (ro1 (rvT (v := .sc (.int .i64 0)) rfl)) rfl rfl (.sc _) pn
theorem ok44 (s : stack_Stack) (r : Int) (hR : stack_Check s = some r) : FnP Try.prog 44 [aggV false s] (.sc (.int .i64 r)) := by
  refine fnP_of (FnX.walk Try.func44 rfl 103 0 (by simp [Try.ntmps44]) rfl fun W S F Q hQ => ?_)
  unfold stack_Check at hR
  refine AWP.sq ?_
  refine AWP.rgC 8 rfl rfl ?_
  refine bx (cs := _) 0 rfl rfl rfl ?_
  refine pu (v := .sc _) rfl rfl (fun _ => rfl) ?_
  refine RunC.fin ?_
  refine AWP.sq ?_
  refine AWP.rgC 32 rfl rfl ?_
  refine fa rfl rfl ti63 rfl rfl ti3 rfl ?_
  refine ldB (v := .sc _) rfl rfl rfl rfl ti3 rfl rfl ?_
  refine fa rfl rfl ti63 rfl rfl ti3 rfl ?_
  refine ldB (v := .sc _) rfl rfl rfl rfl ti3 rfl rfl ?_
  refine pu (v := .sc _) rfl rfl (fun _ => rfl) ?_
  refine pu (v := .sc _) rfl rfl (fun _ => rfl) ?_
  refine RunC.fin ?_
  refine AWP.sq ?_
  refine AWP.joinX (fun z1 : Bool => LS.mk [(1, .ptr 0 0 0), (45, .sc (.bool z1))] (lblks 0 [boxB (α := stack_Stack) false s]) 1) hR (fun o1 hR => ?_) fun z1 hR => ?_
  · refine AWP.rgC 160 rfl rfl ?_
    refine fa rfl rfl ti63 rfl rfl ti3 rfl ?_
    refine ldB (v := .sc _) rfl rfl rfl rfl ti3 rfl rfl ?_
    refine pu (v := .sc _) rfl rfl (fun _ => rfl) ?_
    refine pu (v := .sc _) rfl rfl (fun _ => rfl) ?_
    refine brR hR (fun h2 hR => ?_) fun h2 hR => ?_
    · refine sk (skW rfl rfl rfl h2) ?_
      refine sk (skW rfl rfl rfl h2) ?_
      refine sk (skW rfl rfl rfl h2) ?_
      refine pkT (v := .sc (.bool true)) rfl rfl h2 rfl ?_
      refine pu (v := .sc _) rfl rfl (fun _ => rfl) ?_
      refine sk (skW rfl rfl rfl rfl) ?_
      refine sk (skW rfl rfl rfl rfl) ?_
      refine sk (skW rfl rfl rfl rfl) ?_
      refine pkT (v := .sc (.bool true)) rfl rfl rfl rfl ?_
      refine pu (v := .sc _) rfl rfl (fun _ => rfl) ?_
      refine sk (skW rfl rfl rfl rfl) ?_
      refine sk (skW rfl rfl rfl rfl) ?_
      refine sk (skW rfl rfl rfl rfl) ?_
      refine pkT (v := .sc (.bool true)) rfl rfl rfl rfl ?_
      refine pu (v := .sc _) rfl rfl (fun _ => rfl) ?_
      refine sk (skW rfl rfl rfl rfl) ?_
      refine sk (skW rfl rfl rfl rfl) ?_
      refine sk (skW rfl rfl rfl rfl) ?_
      refine sk (skW rfl rfl rfl rfl) ?_
      refine sk (skW rfl rfl rfl rfl) ?_
      refine pkT (v := .sc (.bool true)) rfl rfl rfl rfl ?_
      refine pu (v := .sc _) rfl rfl (fun _ => rfl) ?_
      refine sk (skW rfl rfl rfl rfl) ?_
      refine sk (skW rfl rfl rfl rfl) ?_
      refine sk (skW rfl rfl rfl rfl) ?_
      refine sk (skW rfl rfl rfl rfl) ?_
      refine sk (skW rfl rfl rfl rfl) ?_
      refine pkT (v := .sc (.bool true)) rfl rfl rfl rfl ?_
      refine RunC.fin ?_
      have hR := Option.some.inj hR; subst hR
      exact Weak.turnL [(0, 0)] [] rfl rfl (tc (trP' rfl rfl rfl rfl) (tc (.sc _) tn)) (mc rfl (.box rfl (.cons (.sc _) (.cons (.sc _) (.cons (.sc _) (.cons trR1 (.cons trR1 (.nil)))))) rfl) mn)
    · refine fa (wtG rfl rfl rfl h2) rfl ti63 rfl rfl ti3 rfl ?_
      refine ldB (v := .sc _) (wtG rfl rfl rfl h2) rfl rfl rfl ti3 rfl rfl ?_
      refine pu (v := .sc _) (wtG rfl rfl rfl h2) rfl (fun _ => rfl) ?_
      refine pkF (v := .sc (.bool (decide (s.W > 32)))) rfl rfl h2 rfl ?_
      refine pu (v := .sc _) rfl rfl (fun _ => rfl) ?_
      refine brR hR (fun h3 hR => ?_) fun h3 hR => ?_
      · refine sk (skW rfl rfl rfl h3) ?_
        refine sk (skW rfl rfl rfl h3) ?_
        refine sk (skW rfl rfl rfl h3) ?_
        refine pkT (v := .sc (.bool true)) rfl rfl h3 rfl ?_
        refine pu (v := .sc _) rfl rfl (fun _ => rfl) ?_
        refine sk (skW rfl rfl rfl rfl) ?_
        refine sk (skW rfl rfl rfl rfl) ?_
        refine sk (skW rfl rfl rfl rfl) ?_
        refine pkT (v := .sc (.bool true)) rfl rfl rfl rfl ?_
        refine pu (v := .sc _) rfl rfl (fun _ => rfl) ?_
        refine sk (skW rfl rfl rfl rfl) ?_
        refine sk (skW rfl rfl rfl rfl) ?_
        refine sk (skW rfl rfl rfl rfl) ?_
        refine sk (skW rfl rfl rfl rfl) ?_
        refine sk (skW rfl rfl rfl rfl) ?_
        refine pkT (v := .sc (.bool true)) rfl rfl rfl rfl ?_
        refine pu (v := .sc _) rfl rfl (fun _ => rfl) ?_
        refine sk (skW rfl rfl rfl rfl) ?_
        refine sk (skW rfl rfl rfl rfl) ?_
        refine sk (skW rfl rfl rfl rfl) ?_
        refine sk (skW rfl rfl rfl rfl) ?_
        refine sk (skW rfl rfl rfl rfl) ?_
        refine pkT (v := .sc (.bool true)) rfl rfl rfl rfl ?_
        refine RunC.fin ?_
        have hR := Option.some.inj hR; subst hR
        exact Weak.turnL [(0, 0)] [] rfl rfl (tc (trP' rfl rfl rfl rfl) (tc (.sc _) tn)) (mc rfl (.box rfl (.cons (.sc _) (.cons (.sc _) (.cons (.sc _) (.cons trR1 (.cons trR1 (.nil)))))) rfl) mn)
      · refine fa (wtG rfl rfl rfl h3) rfl ti63 rfl rfl ti3 rfl ?_
        refine ldB (v := .sc _) (wtG rfl rfl rfl h3) rfl rfl rfl ti3 rfl rfl ?_
        refine pu (v := .sc _) (wtG rfl rfl rfl h3) rfl (fun _ => rfl) ?_
        refine pkF (v := .sc (.bool (decide (s.H < 1)))) rfl rfl h3 rfl ?_
        refine pu (v := .sc _) rfl rfl (fun _ => rfl) ?_
        refine brR hR (fun h4 hR => ?_) fun h4 hR => ?_
        · refine sk (skW rfl rfl rfl h4) ?_
          refine sk (skW rfl rfl rfl h4) ?_
          refine sk (skW rfl rfl rfl h4) ?_
          refine pkT (v := .sc (.bool true)) rfl rfl h4 rfl ?_
          refine pu (v := .sc _) rfl rfl (fun _ => rfl) ?_
          refine sk (skW rfl rfl rfl rfl) ?_
          refine sk (skW rfl rfl rfl rfl) ?_
          refine sk (skW rfl rfl rfl rfl) ?_
          refine sk (skW rfl rfl rfl rfl) ?_
          refine sk (skW rfl rfl rfl rfl) ?_
          refine pkT (v := .sc (.bool true)) rfl rfl rfl rfl ?_
          refine pu (v := .sc _) rfl rfl (fun _ => rfl) ?_
          refine sk (skW rfl rfl rfl rfl) ?_
          refine sk (skW rfl rfl rfl rfl) ?_
          refine sk (skW rfl rfl rfl rfl) ?_
          refine sk (skW rfl rfl rfl rfl) ?_
          refine sk (skW rfl rfl rfl rfl) ?_
          refine pkT (v := .sc (.bool true)) rfl rfl rfl rfl ?_
          refine RunC.fin ?_
          have hR := Option.some.inj hR; subst hR
          exact Weak.turnL [(0, 0)] [] rfl rfl (tc (trP' rfl rfl rfl rfl) (tc (.sc _) tn)) (mc rfl (.box rfl (.cons (.sc _) (.cons (.sc _) (.cons (.sc _) (.cons trR1 (.cons trR1 (.nil)))))) rfl) mn)
        · refine fa (wtG rfl rfl rfl h4) rfl ti63 rfl rfl ti3 rfl ?_
          refine ldB (v := .sc _) (wtG rfl rfl rfl h4) rfl rfl rfl ti3 rfl rfl ?_
          refine pu (v := .sc _) (wtG rfl rfl rfl h4) rfl (fun _ => rfl) ?_
          refine pkF (v := .sc (.bool (decide (s.H > 32)))) rfl rfl h4 rfl ?_
          refine pu (v := .sc _) rfl rfl (fun _ => rfl) ?_
          refine brR hR (fun h5 hR => ?_) fun h5 hR => ?_
          · refine sk (skW rfl rfl rfl h5) ?_
            refine sk (skW rfl rfl rfl h5) ?_
            refine sk (skW rfl rfl rfl h5) ?_
            refine sk (skW rfl rfl rfl h5) ?_
            refine sk (skW rfl rfl rfl h5) ?_
            refine pkT (v := .sc (.bool true)) rfl rfl h5 rfl ?_
            refine pu (v := .sc _) rfl rfl (fun _ => rfl) ?_
            refine sk (skW rfl rfl rfl rfl) ?_
            refine sk (skW rfl rfl rfl rfl) ?_
            refine sk (skW rfl rfl rfl rfl) ?_
            refine sk (skW rfl rfl rfl rfl) ?_
            refine sk (skW rfl rfl rfl rfl) ?_
            refine pkT (v := .sc (.bool true)) rfl rfl rfl rfl ?_
            refine RunC.fin ?_
            have hR := Option.some.inj hR; subst hR
            exact Weak.turnL [(0, 0)] [] rfl rfl (tc (trP' rfl rfl rfl rfl) (tc (.sc _) tn)) (mc rfl (.box rfl (.cons (.sc _) (.cons (.sc _) (.cons (.sc _) (.cons trR1 (.cons trR1 (.nil)))))) rfl) mn)
          · refine fa (wtG rfl rfl rfl h5) rfl ti63 rfl rfl ti31 rfl ?_
            refine ldB (v := rowV _ s.At) (wtG rfl rfl rfl h5) rfl rfl rfl ti31 rfl rfl ?_
            refine lenL (α := Bound) (wtG rfl rfl rfl h5) rfl ti31 rfl ?_
            refine pu (v := .sc _) (wtG rfl rfl rfl h5) rfl (fun _ => rfl) ?_
            refine pu (v := .sc _) (wtG rfl rfl rfl h5) rfl (fun _ => rfl) ?_
            refine pkF (v := .sc (.bool ((s.At.length : Int) != (w6 (s.W * s.H))))) rfl rfl h5 rfl ?_
            refine pu (v := .sc _) rfl rfl (fun _ => rfl) ?_
            refine brR hR (fun h6 hR => ?_) fun h6 hR => ?_
            · refine sk (skW rfl rfl rfl h6) ?_
              refine sk (skW rfl rfl rfl h6) ?_
              refine sk (skW rfl rfl rfl h6) ?_
              refine sk (skW rfl rfl rfl h6) ?_
              refine sk (skW rfl rfl rfl h6) ?_
              refine pkT (v := .sc (.bool true)) rfl rfl h6 rfl ?_
              refine RunC.fin ?_
              have hR := Option.some.inj hR; subst hR
              exact Weak.turnL [(0, 0)] [] rfl rfl (tc (trP' rfl rfl rfl rfl) (tc (.sc _) tn)) (mc rfl (.box rfl (.cons (.sc _) (.cons (.sc _) (.cons (.sc _) (.cons trR1 (.cons trR1 (.nil)))))) rfl) mn)
            · refine fa (wtG rfl rfl rfl h6) rfl ti63 rfl rfl ti22 rfl ?_
              refine ldB (v := rowV _ s.Holes) (wtG rfl rfl rfl h6) rfl rfl rfl ti22 rfl rfl ?_
              refine lenL (α := Int) (wtG rfl rfl rfl h6) rfl ti22 rfl ?_
              refine pu (v := .sc _) (wtG rfl rfl rfl h6) rfl (fun _ => rfl) ?_
              refine pu (v := .sc _) (wtG rfl rfl rfl h6) rfl (fun _ => rfl) ?_
              refine pkF (v := .sc (.bool ((s.Holes.length : Int) != (w6 (s.W * s.H))))) rfl rfl h6 rfl ?_
              refine RunC.fin ?_
              have hR := Option.some.inj hR; subst hR
              exact Weak.turnL [(0, 0)] [] rfl rfl (tc (trP' rfl rfl rfl rfl) (tc (.sc _) tn)) (mc rfl (.box rfl (.cons (.sc _) (.cons (.sc _) (.cons (.sc _) (.cons trR1 (.cons trR1 (.nil)))))) rfl) mn)
  · refine AWP.cd hR rfl (fun h7 hR => ?_) fun h7 hR => ?_
    · refine AWP.sq ?_
      refine AWP.rgC 5 rfl rfl ?_
      refine pu (v := .sc _) rfl rfl (fun _ => rfl) ?_
      refine RunC.fin ?_
      refine AWP.ret ?_
      refine rtT ?_
      have hR := Option.some.inj hR; subst hR
      exact hQ _ _ (LS.mk [(2, .sc (.int .i64 3))] (lblks 0 []) 0) (.sc (.int .i64 3)) [] (.inr rfl) (Weak.turnL [] [] rfl rfl (tc (.sc _) tn) mn) (ro1 (rvT (v := .sc (.int .i64 3)) rfl)) rfl rfl (.sc _) pn
    · refine AWP.skip ?_
      refine skT ?_
      refine AWP.sq ?_
      refine AWP.joinX (fun z8 : Bool => LS.mk [(1, .ptr 0 0 0), (53, .sc (.bool z8))] (lblks 0 [boxB (α := stack_Stack) false s]) 1) hR (fun o8 hR => ?_) fun z8 hR => ?_
      · refine AWP.rgC 33 rfl rfl ?_
        refine fa rfl rfl ti63 rfl rfl ti3 rfl ?_
        refine ldB (v := .sc _) rfl rfl rfl rfl ti3 rfl rfl ?_
        refine pu (v := .sc _) rfl rfl (fun _ => rfl) ?_
        refine pu (v := .sc _) rfl rfl (fun _ => rfl) ?_
        refine brR hR (fun h9 hR => ?_) fun h9 hR => ?_
        · refine sk (skW rfl rfl rfl h9) ?_
          refine sk (skW rfl rfl rfl h9) ?_
          refine sk (skW rfl rfl rfl h9) ?_
          refine pkT (v := .sc (.bool true)) rfl rfl h9 rfl ?_
          refine RunC.fin ?_
          have hR := Option.some.inj hR; subst hR
          exact Weak.turnL [(0, 0)] [] rfl rfl (tc (trP' rfl rfl rfl rfl) (tc (.sc _) tn)) (mc rfl (.box rfl (.cons (.sc _) (.cons (.sc _) (.cons (.sc _) (.cons trR1 (.cons trR1 (.nil)))))) rfl) mn)
        · refine fa (wtG rfl rfl rfl h9) rfl ti63 rfl rfl ti3 rfl ?_
          refine ldB (v := .sc _) (wtG rfl rfl rfl h9) rfl rfl rfl ti3 rfl rfl ?_
          refine pu (v := .sc _) (wtG rfl rfl rfl h9) rfl (fun _ => rfl) ?_
          refine pkF (v := .sc (.bool (decide (s.N > 8)))) rfl rfl h9 rfl ?_
          refine RunC.fin ?_
          have hR := Option.some.inj hR; subst hR
          exact Weak.turnL [(0, 0)] [] rfl rfl (tc (trP' rfl rfl rfl rfl) (tc (.sc _) tn)) (mc rfl (.box rfl (.cons (.sc _) (.cons (.sc _) (.cons (.sc _) (.cons trR1 (.cons trR1 (.nil)))))) rfl) mn)
      · refine AWP.cd hR rfl (fun h10 hR => ?_) fun h10 hR => ?_
        · refine AWP.sq ?_
          refine AWP.rgC 5 rfl rfl ?_
          refine pu (v := .sc _) rfl rfl (fun _ => rfl) ?_
          refine RunC.fin ?_
          refine AWP.ret ?_
          refine rtT ?_
          have hR := Option.some.inj hR; subst hR
          exact hQ _ _ (LS.mk [(2, .sc (.int .i64 4))] (lblks 0 []) 0) (.sc (.int .i64 4)) [] (.inr rfl) (Weak.turnL [] [] rfl rfl (tc (.sc _) tn) mn) (ro1 (rvT (v := .sc (.int .i64 4)) rfl)) rfl rfl (.sc _) pn
        · refine AWP.skip ?_
          refine skT ?_
          refine AWP.sq ?_
          refine AWP.sq ?_
          refine AWP.rgC 17 rfl rfl ?_
          refine fa rfl rfl ti63 rfl rfl ti31 rfl ?_
          refine ldB (v := rowV _ s.At) rfl rfl rfl rfl ti31 rfl rfl ?_
          refine lenL (α := Bound) rfl rfl ti31 rfl ?_
          refine pu (v := .sc _) rfl rfl (fun _ => rfl) ?_
          refine RunC.fin ?_
          refine AWP.loopK' (fun s11 : Int => LS.mk [(1, .ptr 0 0 0), (55, rowV (α := Bound) false s.At), (56, .sc (.int .i64 (s.At.length : Int))), (57, .sc (.int .i64 s11))] (lblks 0 [boxB (α := stack_Stack) false s]) 1) (fun z12 : Unit => LS.mk [] (lblks 0 []) 0) (stack_Check.l1 s) hR (s0 := 0) (Weak.turnL [(0, 0)] [] rfl rfl (tc (trP' rfl rfl rfl rfl) (tc trR1 (tc (.sc _) (tc (.sc _) tn)))) (mc rfl (.box rfl (.cons (.sc _) (.cons (.sc _) (.cons (.sc _) (.cons trR1 (.cons trR1 (.nil)))))) rfl) mn)) (fun s11 o11 hR hE11 => ?_) fun z12 hR => ?_
          · unfold stack_Check.l1 at hR
            refine AWP.sq ?_
            refine AWP.rgC 5 rfl rfl ?_
            refine pu (v := .sc _) rfl rfl (fun _ => rfl) ?_
            refine RunC.fin ?_
            refine AWP.sq ?_
            refine AWP.cd hR rfl (fun h13 hR => ?_) fun h13 hR => ?_
            · refine AWP.skip ?_
              refine skT ?_
              refine AWP.sq ?_
              refine AWP.block ?_
              refine AWP.sq ?_
              refine AWP.rgC 29 rfl rfl ?_
              refine pu (v := .sc _) rfl rfl (fun _ => rfl) ?_
              obtain ⟨h14, hR⟩ := chkE hR
              refine ixL (α := Bound) rfl rfl rfl ti31 rfl ti43 rfl h14 ?_
              refine ldR (v := .agg _) rfl rfl ti43 rfl ?_
              refine al (cs := [.sc (.int .i64 0), .sc (.int .i64 0), .sc (.bool false)]) 17 rfl rfl ti43 rfl rfl ?_
              refine pu (v := .sc _) rfl rfl (fun _ => rfl) ?_
              refine stB (cs' := [.sc (.int .i64 (gt s.At s11).Lo), .sc (.int .i64 (gt s.At s11).Hi), .sc (.bool (gt s.At s11).Unknown)]) rfl rfl rfl rfl ti43 rfl rfl rfl rfl rfl ?_
              refine RunC.fin ?_
              refine AWP.sq ?_
              refine AWP.sq ?_
              refine AWP.rgC 41 rfl rfl ?_
              refine ldB (v := .agg _) rfl rfl rfl rfl ti43 rfl rfl ?_
              obtain ⟨r15, hr15, hR⟩ := bindE hR
              refine cls [] rfl rfl cb20 (ok20 (gt s.At s11) _ hr15) (.cons (.agg (.cons (.sc _) (.cons (.sc _) (.cons (.sc _) (.nil)))) rfl) (.nil)) (.inr rfl) rfl ?_
              refine pu (v := .sc _) rfl rfl (fun _ => rfl) ?_
              refine RunC.fin ?_
              refine AWP.sq ?_
              refine AWP.rgC 49 rfl rfl ?_
              refine pu (v := .sc _) rfl rfl (fun _ => rfl) ?_
              refine pu (v := .sc _) rfl rfl (fun _ => rfl) ?_
              refine RunC.fin ?_
              refine AWP.cd hR rfl (fun h16 hR => ?_) fun h16 hR => ?_
              · refine AWP.sq ?_
                refine AWP.rgC 57 rfl rfl ?_
                refine pu (v := .sc _) rfl rfl (fun _ => rfl) ?_
                refine pu (v := .sc _) rfl rfl (fun _ => rfl) ?_
                refine RunC.fin ?_
                refine AWP.ret ?_
                refine rtT ?_
                refine rtB ?_
                refine rtT ?_
                refine rtT ?_
                refine rtB (rtT ?_)
                replace hR := escL hR hE11
                refine rtT ?_
                have hR := Option.some.inj hR; subst hR
                exact hQ _ _ (LS.mk [(2, .sc (.int .i64 r15))] (lblks 0 []) 0) (.sc (.int .i64 r15)) [] (.inr rfl) (Weak.turnL [] [] rfl rfl (tc (.sc _) tn) mn) (ro1 (rvT (v := .sc (.int .i64 r15)) rfl)) rfl rfl (.sc _) pn
              · refine AWP.skip ?_
                refine skT ?_
                refine AWP.sq ?_
                refine AWP.rgD 85 [0, 1, 0, 4, 0, 28, 60, 127, 255] ⟨[], [none, some [0], none, some [0], none, none, some [], none, none]⟩ hmix (by kernel_rfl) rfl rfl ?_
                refine fa rfl rfl ti63 rfl rfl ti3 rfl ?_
                refine ldB (v := .sc _) rfl rfl rfl rfl ti3 rfl rfl ?_
                refine fa rfl rfl ti63 rfl rfl ti22 rfl ?_
                refine ldB (v := rowV _ s.Holes) rfl rfl rfl rfl ti22 rfl rfl ?_
                refine pu (v := .sc _) rfl rfl (fun _ => rfl) ?_
                obtain ⟨h17, hR⟩ := chkE hR
                refine ixL (α := Int) rfl rfl rfl ti22 rfl ti3 rfl h17 ?_
                refine ldR (v := .sc _) rfl rfl ti3 rfl ?_
                refine pu (v := .sc _) rfl rfl (fun _ => rfl) ?_
                refine pu (v := .sc _) rfl rfl (fun _ => rfl) ?_
                refine RunC.fin ?_
                refine AWP.sq ?_
                refine AWP.rgC 97 rfl rfl ?_
                refine pu (v := .sc _) rfl rfl (fun _ => rfl) ?_
                refine pu (v := .sc _) rfl rfl (fun _ => rfl) ?_
                refine pu (v := .sc _) rfl rfl (fun _ => rfl) ?_
                refine RunC.fin ?_
                refine AWP.block ?_
                refine AWP.sq ?_
                refine AWP.rgC 109 rfl rfl ?_
                refine fa rfl rfl ti43 rfl rfl ti4 rfl ?_
                refine ldB (v := .sc _) rfl rfl rfl rfl ti4 rfl rfl ?_
                refine pu (v := .sc _) rfl rfl (fun _ => rfl) ?_
                refine RunC.fin ?_
                refine AWP.cd hR rfl (fun h18 hR => ?_) fun h18 hR => ?_
                · refine AWP.sq ?_
                  refine AWP.rgC 113 rfl rfl ?_
                  refine pu (v := .sc _) rfl rfl (fun _ => rfl) ?_
                  refine RunC.fin ?_
                  refine AWP.ret ?_
                  refine rtB ?_
                  refine rtB ?_
                  refine rtT ?_
                  refine rtT ?_
                  refine rtB (rtT ?_)
                  replace hR := escL hR hE11
                  refine rtT ?_
                  have hR := Option.some.inj hR; subst hR
                  exact hQ _ _ (LS.mk [(2, .sc (.int .i64 3))] (lblks 0 []) 0) (.sc (.int .i64 3)) [] (.inr rfl) (Weak.turnL [] [] rfl rfl (tc (.sc _) tn) mn) (ro1 (rvT (v := .sc (.int .i64 3)) rfl)) rfl rfl (.sc _) pn
                · refine AWP.joinX (fun z19 : Bool => LS.mk [(1, .ptr 0 0 0), (55, rowV (α := Bound) false s.At), (56, .sc (.int .i64 (s.At.length : Int))), (57, .sc (.int .i64 s11)), (80, .sc (.bool z19))] (lblks 0 [boxB (α := stack_Stack) false s]) 1) hR (fun o19 hR => ?_) fun z19 hR => ?_
                  · refine AWP.rgC 197 rfl rfl ?_
                    refine pu (v := .sc _) rfl rfl (fun _ => rfl) ?_
                    refine pu (v := .sc _) rfl rfl (fun _ => rfl) ?_
                    refine pu (v := .sc _) rfl rfl (fun _ => rfl) ?_
                    refine brR hR (fun h20 hR => ?_) fun h20 hR => ?_
                    · refine sk (skW rfl rfl rfl h20) ?_
                      refine sk (skW rfl rfl rfl h20) ?_
                      refine sk (skW rfl rfl rfl h20) ?_
                      refine sk (skW rfl rfl rfl h20) ?_
                      refine pkT (v := .sc (.bool true)) rfl rfl h20 rfl ?_
                      refine pu (v := .sc _) rfl rfl (fun _ => rfl) ?_
                      refine sk (skW rfl rfl rfl rfl) ?_
                      refine sk (skW rfl rfl rfl rfl) ?_
                      refine sk (skW rfl rfl rfl rfl) ?_
                      refine sk (skW rfl rfl rfl rfl) ?_
                      refine sk (skW rfl rfl rfl rfl) ?_
                      refine pkT (v := .sc (.bool true)) rfl rfl rfl rfl ?_
                      refine pu (v := .sc _) rfl rfl (fun _ => rfl) ?_
                      refine sk (skW rfl rfl rfl rfl) ?_
                      refine sk (skW rfl rfl rfl rfl) ?_
                      refine sk (skW rfl rfl rfl rfl) ?_
                      refine sk (skW rfl rfl rfl rfl) ?_
                      refine pkT (v := .sc (.bool true)) rfl rfl rfl rfl ?_
                      refine pu (v := .sc _) rfl rfl (fun _ => rfl) ?_
                      refine RunC.fin ?_
                      have hR := Option.some.inj hR; subst hR
                      exact Weak.turnL [(0, 0)] [] rfl rfl (tc (trP' rfl rfl rfl rfl) (tc trR1 (tc (.sc _) (tc (.sc _) (tc (.sc _) tn))))) (mc rfl (.box rfl (.cons (.sc _) (.cons (.sc _) (.cons (.sc _) (.cons trR1 (.cons trR1 (.nil)))))) rfl) mn)
                    · refine pu (v := .sc _) (wtG rfl rfl rfl h20) rfl (fun _ => rfl) ?_
                      refine fa (wtG rfl rfl rfl h20) rfl ti63 rfl rfl ti3 rfl ?_
                      refine ldB (v := .sc _) (wtG rfl rfl rfl h20) rfl rfl rfl ti3 rfl rfl ?_
                      refine pu (v := .sc _) (wtG rfl rfl rfl h20) rfl (fun _ => rfl) ?_
                      refine pkF (v := .sc (.bool (decide ((w6 (s.N - (gt s.Holes s11))) > s.N)))) rfl rfl h20 rfl ?_
                      refine pu (v := .sc _) rfl rfl (fun _ => rfl) ?_
                      refine brR hR (fun h21 hR => ?_) fun h21 hR => ?_
                      · refine sk (skW rfl rfl rfl h21) ?_
                        refine sk (skW rfl rfl rfl h21) ?_
                        refine sk (skW rfl rfl rfl h21) ?_
                        refine sk (skW rfl rfl rfl h21) ?_
                        refine sk (skW rfl rfl rfl h21) ?_
                        refine pkT (v := .sc (.bool true)) rfl rfl h21 rfl ?_
                        refine pu (v := .sc _) rfl rfl (fun _ => rfl) ?_
                        refine sk (skW rfl rfl rfl rfl) ?_
                        refine sk (skW rfl rfl rfl rfl) ?_
                        refine sk (skW rfl rfl rfl rfl) ?_
                        refine sk (skW rfl rfl rfl rfl) ?_
                        refine pkT (v := .sc (.bool true)) rfl rfl rfl rfl ?_
                        refine pu (v := .sc _) rfl rfl (fun _ => rfl) ?_
                        refine RunC.fin ?_
                        have hR := Option.some.inj hR; subst hR
                        exact Weak.turnL [(0, 0)] [] rfl rfl (tc (trP' rfl rfl rfl rfl) (tc trR1 (tc (.sc _) (tc (.sc _) (tc (.sc _) tn))))) (mc rfl (.box rfl (.cons (.sc _) (.cons (.sc _) (.cons (.sc _) (.cons trR1 (.cons trR1 (.nil)))))) rfl) mn)
                      · refine fa (wtG rfl rfl rfl h21) rfl ti43 rfl rfl ti28 rfl ?_
                        refine ldB (v := .sc _) (wtG rfl rfl rfl h21) rfl rfl rfl ti28 rfl rfl ?_
                        refine pu (v := .sc _) (wtG rfl rfl rfl h21) rfl (fun _ => rfl) ?_
                        obtain ⟨v22, ev22, hR⟩ := letE hR
                        refine pu (v := .sc _) (wtG rfl rfl rfl h21) rfl (fun _ => puI ev22) ?_
                        refine pu (v := .sc _) (wtG rfl rfl rfl h21) rfl (fun _ => rfl) ?_
                        refine pkF (v := .sc (.bool (decide ((gt s.At s11).Lo < v22)))) rfl rfl h21 rfl ?_
                        refine pu (v := .sc _) rfl rfl (fun _ => rfl) ?_
                        refine brR hR (fun h23 hR => ?_) fun h23 hR => ?_
                        · refine sk (skW rfl rfl rfl h23) ?_
                          refine sk (skW rfl rfl rfl h23) ?_
                          refine sk (skW rfl rfl rfl h23) ?_
                          refine sk (skW rfl rfl rfl h23) ?_
                          refine pkT (v := .sc (.bool true)) rfl rfl h23 rfl ?_
                          refine pu (v := .sc _) rfl rfl (fun _ => rfl) ?_
                          refine RunC.fin ?_
                          have hR := Option.some.inj hR; subst hR
                          exact Weak.turnL [(0, 0)] [] rfl rfl (tc (trP' rfl rfl rfl rfl) (tc trR1 (tc (.sc _) (tc (.sc _) (tc (.sc _) tn))))) (mc rfl (.box rfl (.cons (.sc _) (.cons (.sc _) (.cons (.sc _) (.cons trR1 (.cons trR1 (.nil)))))) rfl) mn)
                        · refine fa (wtG rfl rfl rfl h23) rfl ti43 rfl rfl ti28 rfl ?_
                          refine ldB (v := .sc _) (wtG rfl rfl rfl h23) rfl rfl rfl ti28 rfl rfl ?_
                          refine pu (v := .sc _) (wtG rfl rfl rfl h23) rfl (fun _ => rfl) ?_
                          obtain ⟨v24, ev24, hR⟩ := letE hR
                          refine pu (v := .sc _) (wtG rfl rfl rfl h23) rfl (fun _ => puB ev24) ?_
                          refine pkF (v := .sc (.bool v24)) rfl rfl h23 rfl ?_
                          refine pu (v := .sc _) rfl rfl (fun _ => rfl) ?_
                          refine RunC.fin ?_
                          have hR := Option.some.inj hR; subst hR
                          exact Weak.turnL [(0, 0)] [] rfl rfl (tc (trP' rfl rfl rfl rfl) (tc trR1 (tc (.sc _) (tc (.sc _) (tc (.sc _) tn))))) (mc rfl (.box rfl (.cons (.sc _) (.cons (.sc _) (.cons (.sc _) (.cons trR1 (.cons trR1 (.nil)))))) rfl) mn)
                  · refine AWP.cd hR rfl (fun h25 hR => ?_) fun h25 hR => ?_
                    · refine AWP.sq ?_
                      refine AWP.rgC 5 rfl rfl ?_
                      refine pu (v := .sc _) rfl rfl (fun _ => rfl) ?_
                      refine RunC.fin ?_
                      refine AWP.ret ?_
                      refine rtB ?_
                      refine rtB ?_
                      refine rtT ?_
                      refine rtT ?_
                      refine rtB (rtT ?_)
                      replace hR := escL hR hE11
                      refine rtT ?_
                      have hR := Option.some.inj hR; subst hR
                      exact hQ _ _ (LS.mk [(2, .sc (.int .i64 4))] (lblks 0 []) 0) (.sc (.int .i64 4)) [] (.inr rfl) (Weak.turnL [] [] rfl rfl (tc (.sc _) tn) mn) (ro1 (rvT (v := .sc (.int .i64 4)) rfl)) rfl rfl (.sc _) pn
                    · refine AWP.skip ?_
                      refine skB ?_
                      refine skB ?_
                      refine skT ?_
                      refine AWP.rgC 9 rfl rfl ?_
                      refine pu (v := .sc _) rfl rfl (fun _ => rfl) ?_
                      refine pu (v := .sc _) rfl rfl (fun _ => rfl) ?_
                      refine RunC.fin ?_
                      refine ⟨(w6 (s11 + 1)), (Option.some.inj hR).symm, ?_⟩
                      exact Weak.turnL [(0, 0)] [] rfl rfl (tc (trP' rfl rfl rfl rfl) (tc trR1 (tc (.sc _) (tc (.sc _) tn)))) (mc rfl (.box rfl (.cons (.sc _) (.cons (.sc _) (.cons (.sc _) (.cons trR1 (.cons trR1 (.nil)))))) rfl) mn)
            · refine AWP.exit ?_
              refine exT ?_
              refine exT ?_
              refine exH (skT ?_)
              refine ⟨(), (Option.some.inj hR).symm, ?_⟩
              exact Weak.turnL [] [] rfl rfl tn mn
          · refine skT ?_
            refine AWP.sq ?_
            refine AWP.rgC 4 rfl rfl ?_
            refine pu (v := .sc _) rfl rfl (fun _ => rfl) ?_
            refine RunC.fin ?_
            refine AWP.ret ?_
            have hR := Option.some.inj hR; subst hR
            exact hQ _ _ (LS.mk [(2, .sc (.int .i64 0))] (lblks 0 []) 0) (.sc (.int .i64 0)) [] (.inr rfl) (Weak.turnL [] [] rfl rfl (tc (.sc _) tn) mn) (ro1 (rvT (v := .sc (.int .i64 0)) rfl)) rfl rfl (.sc _) pn
theorem ok40 (x : List Int) (r : Int) (hR : slices_Max_Int x = some r) : FnP Try.prog 40 [rowV false x] (.sc (.int .i64 r)) := by
  refine fnP_of (FnX.walk Try.func40 rfl 25 0 (by simp [Try.ntmps40]) rfl fun W S F Q hQ => ?_)
  unfold slices_Max_Int at hR
  refine AWP.sq ?_
  refine AWP.rgC 4 rfl rfl ?_
  refine pu (v := .sc _) rfl rfl (fun _ => rfl) ?_
  refine RunC.fin ?_
  refine AWP.sq ?_
  refine AWP.sq ?_
  refine AWP.rgC 16 rfl rfl ?_
  refine pu (v := rowV _ x) rfl rfl (fun _ => rfl) ?_
  refine lenL (α := Int) rfl rfl ti27 rfl ?_
  refine pu (v := .sc _) rfl rfl (fun _ => rfl) ?_
  refine RunC.fin ?_
  refine AWP.cd hR rfl (fun h1 hR => ?_) fun h1 hR => ?_
  · cases hR
  · refine AWP.skip ?_
    refine skT ?_
    refine AWP.sq ?_
    refine AWP.rgC 32 rfl rfl ?_
    refine pu (v := rowV _ x) rfl rfl (fun _ => rfl) ?_
    obtain ⟨h2, hR⟩ := chkE hR
    refine ixL (α := Int) rfl rfl rfl ti27 rfl ti28 rfl h2 ?_
    refine ldR (v := .sc _) rfl rfl ti28 rfl ?_
    refine pu (v := .sc _) rfl rfl (fun _ => rfl) ?_
    refine RunC.fin ?_
    refine AWP.sq ?_
    refine AWP.sq ?_
    refine AWP.rgC 36 rfl rfl ?_
    refine pu (v := .sc _) rfl rfl (fun _ => rfl) ?_
    refine RunC.fin ?_
    refine AWP.loopJ (fun s3 : Int × Int => LS.mk [(0, rowV (α := Int) false x), (3, .sc (.int .i64 s3.1)), (4, .sc (.int .i64 s3.2))] (lblks 0 []) 0) (fun z4 : Int => LS.mk [(3, .sc (.int .i64 z4))] (lblks 0 []) 0) (slices_Max_Int.l1 x) hR (s0 := (gt x 0, 1)) (Weak.turnL [] [] rfl rfl (tc trR1 (tc (.sc _) (tc (.sc _) tn))) mn) (fun s3 o3 hR => ?_) fun z4 hR => ?_
    · unfold slices_Max_Int.l1 at hR
      refine AWP.sq ?_
      refine AWP.sq ?_
      refine AWP.rgC 16 rfl rfl ?_
      refine pu (v := .sc _) rfl rfl (fun _ => rfl) ?_
      refine pu (v := rowV _ x) rfl rfl (fun _ => rfl) ?_
      refine lenL (α := Int) rfl rfl ti27 rfl ?_
      refine pu (v := .sc _) rfl rfl (fun _ => rfl) ?_
      refine RunC.fin ?_
      refine AWP.cd hR rfl (fun h5 hR => ?_) fun h5 hR => ?_
      · refine AWP.skip ?_
        refine skT ?_
        refine AWP.sq ?_
        refine AWP.block ?_
        refine AWP.rgC 44 rfl rfl ?_
        refine pu (v := .sc _) rfl rfl (fun _ => rfl) ?_
        refine pu (v := rowV _ x) rfl rfl (fun _ => rfl) ?_
        refine pu (v := .sc _) rfl rfl (fun _ => rfl) ?_
        obtain ⟨h6, hR⟩ := chkE hR
        refine ixL (α := Int) rfl rfl rfl ti27 rfl ti28 rfl h6 ?_
        refine ldR (v := .sc _) rfl rfl ti28 rfl ?_
        refine pu (v := .sc _) rfl rfl (fun _ => rfl) ?_
        refine pu (v := .sc _) rfl rfl (fun _ => rfl) ?_
        refine RunC.blk ?_
        refine RunC.fin ?_
        refine AWP.rgC 56 rfl rfl ?_
        refine pu (v := .sc _) rfl rfl (fun _ => rfl) ?_
        refine pu (v := .sc _) rfl rfl (fun _ => rfl) ?_
        refine pu (v := .sc _) rfl rfl (fun _ => rfl) ?_
        refine RunC.fin ?_
        refine ⟨(mx2 s3.1 (gt x s3.2), w6 (s3.2 + 1)), (Option.some.inj hR).symm, ?_⟩
        exact Weak.turnL [] [] rfl rfl (tc trR1 (tc (.sc _) (tc (.sc _) tn))) mn
      · refine AWP.exit ?_
        refine exT ?_
        refine exT ?_
        refine exH (skT ?_)
        refine ⟨s3.1, (Option.some.inj hR).symm, ?_⟩
        exact Weak.turnL [] [] rfl rfl (tc (.sc _) tn) mn
    · refine skT ?_
      refine AWP.sq ?_
      refine AWP.rgC 8 rfl rfl ?_
      refine pu (v := .sc _) rfl rfl (fun _ => rfl) ?_
      refine pu (v := .sc _) rfl rfl (fun _ => rfl) ?_
      refine RunC.fin ?_
      refine AWP.ret ?_
      have hR := Option.some.inj hR; subst hR
      exact hQ _ _ (LS.mk [(2, .sc (.int .i64 z4))] (lblks 0 []) 0) (.sc (.int .i64 z4)) [] (.inr rfl) (Weak.turnL [] [] rfl rfl (tc (.sc _) tn) mn) (ro1 (rvT (v := .sc (.int .i64 z4)) rfl)) rfl rfl (.sc _) pn
theorem ok39 (x : List Int) (r : Int) (hR : slices_Min_Int x = some r) : FnP Try.prog 39 [rowV false x] (.sc (.int .i64 r)) := by
  refine fnP_of (FnX.walk Try.func39 rfl 25 0 (by simp [Try.ntmps39]) rfl fun W S F Q hQ => ?_)
  unfold slices_Min_Int at hR
  refine AWP.sq ?_
  refine AWP.rgC 4 rfl rfl ?_
  refine pu (v := .sc _) rfl rfl (fun _ => rfl) ?_
  refine RunC.fin ?_
  refine AWP.sq ?_
  refine AWP.sq ?_
  refine AWP.rgC 16 rfl rfl ?_
  refine pu (v := rowV _ x) rfl rfl (fun _ => rfl) ?_
  refine lenL (α := Int) rfl rfl ti27 rfl ?_
  refine pu (v := .sc _) rfl rfl (fun _ => rfl) ?_
  refine RunC.fin ?_
  refine AWP.cd hR rfl (fun h1 hR => ?_) fun h1 hR => ?_
  · cases hR
  · refine AWP.skip ?_
    refine skT ?_
    refine AWP.sq ?_
    refine AWP.rgC 32 rfl rfl ?_
    refine pu (v := rowV _ x) rfl rfl (fun _ => rfl) ?_
    obtain ⟨h2, hR⟩ := chkE hR
    refine ixL (α := Int) rfl rfl rfl ti27 rfl ti28 rfl h2 ?_
    refine ldR (v := .sc _) rfl rfl ti28 rfl ?_
    refine pu (v := .sc _) rfl rfl (fun _ => rfl) ?_
    refine RunC.fin ?_
    refine AWP.sq ?_
    refine AWP.sq ?_
    refine AWP.rgC 36 rfl rfl ?_
    refine pu (v := .sc _) rfl rfl (fun _ => rfl) ?_
    refine RunC.fin ?_
    refine AWP.loopJ (fun s3 : Int × Int => LS.mk [(0, rowV (α := Int) false x), (3, .sc (.int .i64 s3.1)), (4, .sc (.int .i64 s3.2))] (lblks 0 []) 0) (fun z4 : Int => LS.mk [(3, .sc (.int .i64 z4))] (lblks 0 []) 0) (slices_Min_Int.l1 x) hR (s0 := (gt x 0, 1)) (Weak.turnL [] [] rfl rfl (tc trR1 (tc (.sc _) (tc (.sc _) tn))) mn) (fun s3 o3 hR => ?_) fun z4 hR => ?_
    · unfold slices_Min_Int.l1 at hR
      refine AWP.sq ?_
      refine AWP.sq ?_
      refine AWP.rgC 16 rfl rfl ?_
      refine pu (v := .sc _) rfl rfl (fun _ => rfl) ?_
      refine pu (v := rowV _ x) rfl rfl (fun _ => rfl) ?_
      refine lenL (α := Int) rfl rfl ti27 rfl ?_
      refine pu (v := .sc _) rfl rfl (fun _ => rfl) ?_
      refine RunC.fin ?_
      refine AWP.cd hR rfl (fun h5 hR => ?_) fun h5 hR => ?_
      · refine AWP.skip ?_
        refine skT ?_
        refine AWP.sq ?_
        refine AWP.block ?_
        refine AWP.rgC 44 rfl rfl ?_
        refine pu (v := .sc _) rfl rfl (fun _ => rfl) ?_
        refine pu (v := rowV _ x) rfl rfl (fun _ => rfl) ?_
        refine pu (v := .sc _) rfl rfl (fun _ => rfl) ?_
        obtain ⟨h6, hR⟩ := chkE hR
        refine ixL (α := Int) rfl rfl rfl ti27 rfl ti28 rfl h6 ?_
        refine ldR (v := .sc _) rfl rfl ti28 rfl ?_
        refine pu (v := .sc _) rfl rfl (fun _ => rfl) ?_
        refine pu (v := .sc _) rfl rfl (fun _ => rfl) ?_
        refine RunC.blk ?_
        refine RunC.fin ?_
        refine AWP.rgC 56 rfl rfl ?_
        refine pu (v := .sc _) rfl rfl (fun _ => rfl) ?_
        refine pu (v := .sc _) rfl rfl (fun _ => rfl) ?_
        refine pu (v := .sc _) rfl rfl (fun _ => rfl) ?_
        refine RunC.fin ?_
        refine ⟨(mn2 s3.1 (gt x s3.2), w6 (s3.2 + 1)), (Option.some.inj hR).symm, ?_⟩
        exact Weak.turnL [] [] rfl rfl (tc trR1 (tc (.sc _) (tc (.sc _) tn))) mn
      · refine AWP.exit ?_
        refine exT ?_
        refine exT ?_
        refine exH (skT ?_)
        refine ⟨s3.1, (Option.some.inj hR).symm, ?_⟩
        exact Weak.turnL [] [] rfl rfl (tc (.sc _) tn) mn
    · refine skT ?_
      refine AWP.sq ?_
      refine AWP.rgC 8 rfl rfl ?_
      refine pu (v := .sc _) rfl rfl (fun _ => rfl) ?_
      refine pu (v := .sc _) rfl rfl (fun _ => rfl) ?_
      refine RunC.fin ?_
      refine AWP.ret ?_
      have hR := Option.some.inj hR; subst hR
      exact hQ _ _ (LS.mk [(2, .sc (.int .i64 z4))] (lblks 0 []) 0) (.sc (.int .i64 z4)) [] (.inr rfl) (Weak.turnL [] [] rfl rfl (tc (.sc _) tn) mn) (ro1 (rvT (v := .sc (.int .i64 z4)) rfl)) rfl rfl (.sc _) pn
theorem ok34 (a : Int) (b : Int) (c : Int) (r : Int × Int) (hR : num_MulDivUp a b c = some r) : FnP Try.prog 34 [.sc (.int .i64 a), .sc (.int .i64 b), .sc (.int .i64 c)] (.tup [.sc (.int .i64 r.1), .sc (.int .i64 r.2)]) := by
  refine fnP_of (FnX.walk Try.func34 rfl 34 0 (by simp [Try.ntmps34]) rfl fun W S F Q hQ => ?_)
  unfold num_MulDivUp at hR
  refine AWP.sq ?_
  refine AWP.rgC 8 rfl rfl ?_
  refine pu (v := .sc _) rfl rfl (fun _ => rfl) ?_
  refine pu (v := .sc _) rfl rfl (fun _ => rfl) ?_
  refine RunC.fin ?_
  refine AWP.sq ?_
  refine AWP.rgC 28 rfl rfl ?_
  refine pu (v := .sc _) rfl rfl (fun _ => rfl) ?_
  refine pu (v := .sc _) rfl rfl (fun _ => rfl) ?_
  obtain ⟨r1, hr1, hR⟩ := bindE hR
  refine cls [] rfl rfl cb41 (ok41 a b _ hr1) (.cons (.sc _) (.cons (.sc _) (.nil))) (.inr rfl) rfl ?_
  refine al (cs := [.sc (.int .i64 0), .sc (.int .u64 0)]) 20 rfl rfl ti80 rfl rfl ?_
  refine stB (cs' := [.sc (.int .i64 r1.Hi), .sc (.int .u64 r1.Lo.n)]) rfl rfl rfl rfl ti80 rfl rfl rfl rfl rfl ?_
  refine RunC.fin ?_
  refine AWP.sq ?_
  refine AWP.rgC 60 rfl rfl ?_
  refine ldB (v := .agg _) rfl rfl rfl rfl ti80 rfl rfl ?_
  refine pu (v := .sc _) rfl rfl (fun _ => rfl) ?_
  obtain ⟨r2, hr2, hR⟩ := bindE hR
  refine cls [] rfl rfl cb42 (ok42 r1 c _ hr2) (.cons (.agg (.cons (.sc _) (.cons (.sc _) (.nil))) rfl) (.cons (.sc _) (.nil))) (.inr rfl) rfl ?_
  refine pu (v := .tup _) rfl rfl (fun _ => rfl) ?_
  refine pu (v := .sc _) rfl rfl (fun _ => rfl) ?_
  refine pu (v := .sc _) rfl rfl (fun _ => rfl) ?_
  refine pu (v := .sc _) rfl rfl (fun _ => rfl) ?_
  refine pu (v := .sc _) rfl rfl (fun _ => rfl) ?_
  refine RunC.fin ?_
  refine AWP.sq ?_
  refine AWP.joinX (fun z3 : Bool => LS.mk [(9, .sc (.int .i64 r2.1)), (10, .sc (.int .i64 r2.2)), (27, .sc (.bool z3))] (lblks 0 []) 0) hR (fun o3 hR => ?_) fun z3 hR => ?_
  · refine AWP.rgC 92 rfl rfl ?_
    refine pu (v := .sc _) rfl rfl (fun _ => rfl) ?_
    refine pu (v := .sc _) rfl rfl (fun _ => rfl) ?_
    refine pu (v := .sc _) rfl rfl (fun _ => rfl) ?_
    refine brR hR (fun h4 hR => ?_) fun h4 hR => ?_
    · refine sk (skW rfl rfl rfl h4) ?_
      refine sk (skW rfl rfl rfl h4) ?_
      refine sk (skW rfl rfl rfl h4) ?_
      refine sk (skW rfl rfl rfl h4) ?_
      refine pkT (v := .sc (.bool true)) rfl rfl h4 rfl ?_
      refine RunC.fin ?_
      have hR := Option.some.inj hR; subst hR
      exact Weak.turnL [] [] rfl rfl (tc (.sc _) (tc (.sc _) (tc (.sc _) tn))) mn
    · refine ldB (v := .agg _) (wtG rfl rfl rfl h4) rfl rfl rfl ti80 rfl rfl ?_
      refine pu (v := .sc _) (wtG rfl rfl rfl h4) rfl (fun _ => rfl) ?_
      obtain ⟨r5, hr5, hR⟩ := bindE hR
      refine cls [] (wtG rfl rfl rfl h4) rfl cb43 (ok43 r1 c _ hr5) (.cons (.agg (.cons (.sc _) (.cons (.sc _) (.nil))) rfl) (.cons (.sc _) (.nil))) (.inr rfl) rfl ?_
      refine pu (v := .sc _) (wtG rfl rfl rfl h4) rfl (fun _ => rfl) ?_
      refine pkF (v := .sc (.bool (r5 == 0))) rfl rfl h4 rfl ?_
      refine RunC.fin ?_
      have hR := Option.some.inj hR; subst hR
      exact Weak.turnL [] [] rfl rfl (tc (.sc _) (tc (.sc _) (tc (.sc _) tn))) mn
  · refine AWP.cd hR rfl (fun h6 hR => ?_) fun h6 hR => ?_
    · refine AWP.sq ?_
      refine AWP.rgC 16 rfl rfl ?_
      refine pu (v := .sc _) rfl rfl (fun _ => rfl) ?_
      refine pu (v := .sc _) rfl rfl (fun _ => rfl) ?_
      refine pu (v := .sc _) rfl rfl (fun _ => rfl) ?_
      refine pu (v := .sc _) rfl rfl (fun _ => rfl) ?_
      refine RunC.fin ?_
      refine AWP.ret ?_
      refine rtT ?_
      have hR := Option.some.inj hR; subst hR
      exact hQ _ _ (LS.mk [(6, .sc (.int .i64 r2.1)), (7, .sc (.int .i64 r2.2))] (lblks 0 []) 0) (.tup [.sc (.int .i64 r2.1), .sc (.int .i64 r2.2)]) [] (.inr rfl) (Weak.turnL [] [] rfl rfl (tc (.sc _) (tc (.sc _) tn)) mn) (ro2 (rvT (v := .sc (.int .i64 r2.1)) rfl) (rvT (v := .sc (.int .i64 r2.2)) rfl)) rfl rfl (.tup (.cons (.sc _) (.cons (.sc _) .nil))) pn
    · refine AWP.skip ?_
      refine skT ?_
      refine AWP.sq ?_
      refine AWP.sq ?_
      refine AWP.rgC 8 rfl rfl ?_
      refine pu (v := .sc _) rfl rfl (fun _ => rfl) ?_
      refine pu (v := .sc _) rfl rfl (fun _ => rfl) ?_
      refine RunC.fin ?_
      refine AWP.cd hR rfl (fun h7 hR => ?_) fun h7 hR => ?_
      · refine AWP.sq ?_
        refine AWP.rgC 16 rfl rfl ?_
        refine pu (v := .sc _) rfl rfl (fun _ => rfl) ?_
        refine pu (v := .sc _) rfl rfl (fun _ => rfl) ?_
        refine RunC.fin ?_
        refine AWP.ret ?_
        refine rtT ?_
        have hR := Option.some.inj hR; subst hR
        exact hQ _ _ (LS.mk [(6, .sc (.int .i64 0)), (7, .sc (.int .i64 2))] (lblks 0 []) 0) (.tup [.sc (.int .i64 0), .sc (.int .i64 2)]) [] (.inr rfl) (Weak.turnL [] [] rfl rfl (tc (.sc _) (tc (.sc _) tn)) mn) (ro2 (rvT (v := .sc (.int .i64 0)) rfl) (rvT (v := .sc (.int .i64 2)) rfl)) rfl rfl (.tup (.cons (.sc _) (.cons (.sc _) .nil))) pn
      · refine AWP.skip ?_
        refine skT ?_
        refine AWP.sq ?_
        refine AWP.rgC 24 rfl rfl ?_
        refine pu (v := .sc _) rfl rfl (fun _ => rfl) ?_
        refine pu (v := .sc _) rfl rfl (fun _ => rfl) ?_
        refine pu (v := .sc _) rfl rfl (fun _ => rfl) ?_
        refine pu (v := .sc _) rfl rfl (fun _ => rfl) ?_
        refine RunC.fin ?_
        refine AWP.ret ?_
        have hR := Option.some.inj hR; subst hR
        exact hQ _ _ (LS.mk [(6, .sc (.int .i64 (w6 (r2.1 + 1)))), (7, .sc (.int .i64 0))] (lblks 0 []) 0) (.tup [.sc (.int .i64 (w6 (r2.1 + 1))), .sc (.int .i64 0)]) [] (.inr rfl) (Weak.turnL [] [] rfl rfl (tc (.sc _) (tc (.sc _) tn)) mn) (ro2 (rvT (v := .sc (.int .i64 (w6 (r2.1 + 1)))) rfl) (rvT (v := .sc (.int .i64 0)) rfl)) rfl rfl (.tup (.cons (.sc _) (.cons (.sc _) .nil))) pn
theorem ok32 (a : Int) (b : Int) (c : Int) (r : Int × Int) (hR : num_MulDiv a b c = some r) : FnP Try.prog 32 [.sc (.int .i64 a), .sc (.int .i64 b), .sc (.int .i64 c)] (.tup [.sc (.int .i64 r.1), .sc (.int .i64 r.2)]) := by
  refine fnP_of (FnX.walk Try.func32 rfl 15 0 (by simp [Try.ntmps32]) rfl fun W S F Q hQ => ?_)
  unfold num_MulDiv at hR
  refine AWP.sq ?_
  refine AWP.rgC 8 rfl rfl ?_
  refine pu (v := .sc _) rfl rfl (fun _ => rfl) ?_
  refine pu (v := .sc _) rfl rfl (fun _ => rfl) ?_
  refine RunC.fin ?_
  refine AWP.sq ?_
  refine AWP.rgC 44 rfl rfl ?_
  refine pu (v := .sc _) rfl rfl (fun _ => rfl) ?_
  refine pu (v := .sc _) rfl rfl (fun _ => rfl) ?_
  obtain ⟨r1, hr1, hR⟩ := bindE hR
  refine cls [] rfl rfl cb41 (ok41 a b _ hr1) (.cons (.sc _) (.cons (.sc _) (.nil))) (.inr rfl) rfl ?_
  refine pu (v := .sc _) rfl rfl (fun _ => rfl) ?_
  obtain ⟨r2, hr2, hR⟩ := bindE hR
  refine cls [] rfl rfl cb42 (ok42 r1 c _ hr2) (.cons (.agg (.cons (.sc _) (.cons (.sc _) (.nil))) rfl) (.cons (.sc _) (.nil))) (.inr rfl) rfl ?_
  refine pu (v := .sc _) rfl rfl (fun _ => rfl) ?_
  refine pu (v := .sc _) rfl rfl (fun _ => rfl) ?_
  refine pu (v := .sc _) rfl rfl (fun _ => rfl) ?_
  refine pu (v := .sc _) rfl rfl (fun _ => rfl) ?_
  refine RunC.fin ?_
  refine AWP.ret ?_
  have hR := Option.some.inj hR; subst hR
  exact hQ _ _ (LS.mk [(6, .sc (.int .i64 r2.1)), (7, .sc (.int .i64 r2.2))] (lblks 0 []) 0) (.tup [.sc (.int .i64 r2.1), .sc (.int .i64 r2.2)]) [] (.inr rfl) (Weak.turnL [] [] rfl rfl (tc (.sc _) (tc (.sc _) tn)) mn) (ro2 (rvT (v := .sc (.int .i64 r2.1)) rfl) (rvT (v := .sc (.int .i64 r2.2)) rfl)) rfl rfl (.tup (.cons (.sc _) (.cons (.sc _) .nil))) pn
theorem ok36 (s : stack_Stack) (r : stack_Stack) (hR : stack_copied s = some r) : FnP Try.prog 36 [aggV false s] (aggV (α := stack_Stack) true r) := by
  refine fnP_of (FnX.walk Try.func36 rfl 12 0 (by simp [Try.ntmps36]) rfl fun W S F Q hQ => ?_)
  unfold stack_copied at hR
  refine AWP.sq ?_
  refine AWP.rgC 8 rfl rfl ?_
  refine bx (cs := _) 0 rfl rfl rfl ?_
  refine al (cs := [.sc (.int .i64 0), .sc (.int .i64 0), .sc (.int .i64 0), .sc (.slice none 0 0), .sc (.slice none 0 0)]) 4 rfl rfl ti63 rfl rfl ?_
  refine RunC.fin ?_
  refine AWP.sq ?_
  refine AWP.rgD 48 [0, 1, 3, 0, 8, 31, 31, 127, 255, 511] ⟨[], [none, some [0], none, none, some [0], none, none, some [0], none, some [0]]⟩ hmix (by kernel_rfl) rfl rfl ?_
  refine fa rfl rfl ti63 rfl rfl ti22 rfl ?_
  refine ldB (v := rowV _ s.Holes) rfl rfl rfl rfl ti22 rfl rfl ?_
  obtain ⟨r1, hr1, hR⟩ := bindE hR
  refine cls [] rfl rfl cb45 (ok45 s.Holes _ hr1) (.cons ldR' (.nil)) (.inr rfl) rfl ?_
  refine fa rfl rfl ti63 rfl rfl ti31 rfl ?_
  refine ldB (v := rowV _ s.At) rfl rfl rfl rfl ti31 rfl rfl ?_
  obtain ⟨r2, hr2, hR⟩ := bindE hR
  refine cls [] rfl rfl cb46 (ok46 s.At _ hr2) (.cons ldR' (.nil)) (.inr rfl) rfl ?_
  refine fa rfl rfl ti63 rfl rfl ti22 rfl ?_
  refine stB (cs' := [.sc (.int .i64 s.W), .sc (.int .i64 s.H), .sc (.int .i64 s.N), rowV (α := Int) true r1, rowV (α := Bound) false s.At]) rfl rfl rfl rfl ti22 rfl rfl rfl rfl rfl ?_
  refine fa rfl rfl ti63 rfl rfl ti31 rfl ?_
  refine stB (cs' := [.sc (.int .i64 s.W), .sc (.int .i64 s.H), .sc (.int .i64 s.N), rowV (α := Int) true r1, rowV (α := Bound) true r2]) rfl rfl rfl rfl ti31 rfl rfl rfl rfl rfl ?_
  refine RunC.fin ?_
  refine AWP.sq ?_
  refine AWP.rgC 56 rfl rfl ?_
  refine ldB (v := .agg _) rfl rfl rfl rfl ti63 rfl rfl ?_
  refine stB (cs' := [.sc (.int .i64 s.W), .sc (.int .i64 s.H), .sc (.int .i64 s.N), rowV (α := Int) true r1, rowV (α := Bound) true r2]) rfl rfl rfl rfl ti63 rfl rfl rfl rfl rfl ?_
  refine RunC.fin ?_
  refine AWP.ret ?_
  have hR := Option.some.inj hR; subst hR
  exact hQ _ _ (LS.mk [(2, .ptr 0 0 0)] (lblks 0 [boxB (α := stack_Stack) true (stack_Stack.mk s.W s.H s.N r1 r2)]) 1) (aggV (α := stack_Stack) true (stack_Stack.mk s.W s.H s.N r1 r2)) [] (.inr rfl) (Weak.turnL [(4, 0)] [] rfl rfl (tc (trP' rfl rfl rfl rfl) tn) (mc rfl (.box rfl (.cons (.sc _) (.cons (.sc _) (.cons (.sc _) (.cons trR1 (.cons trR1 (.nil)))))) rfl) mn)) (ro1 (rvC (v := aggV (α := stack_Stack) true (stack_Stack.mk s.W s.H s.N r1 r2)) rfl rfl ti63 rfl)) rfl rfl ldA pn
theorem ok13 (c : Cells) (r : Int) (hR : find_Check c = some r) : FnP Try.prog 13 [aggV false c] (.sc (.int .i64 r)) := by
  refine fnP_of (FnX.walk Try.func13 rfl 56 0 (by simp [Try.ntmps13]) rfl fun W S F Q hQ => ?_)
  unfold find_Check at hR
  refine AWP.sq ?_
  refine AWP.rgC 8 rfl rfl ?_
  refine bx (cs := _) 0 rfl rfl rfl ?_
  refine pu (v := .sc _) rfl rfl (fun _ => rfl) ?_
  refine RunC.fin ?_
  refine AWP.sq ?_
  refine AWP.joinX (fun z1 : Bool => LS.mk [(1, .ptr 0 0 0), (34, .sc (.bool z1))] (lblks 0 [boxB (α := Cells) false c]) 1) hR (fun o1 hR => ?_) fun z1 hR => ?_
  · refine AWP.rgC 124 rfl rfl ?_
    refine fa rfl rfl ti33 rfl rfl ti3 rfl ?_
    refine ldB (v := .sc _) rfl rfl rfl rfl ti3 rfl rfl ?_
    refine pu (v := .sc _) rfl rfl (fun _ => rfl) ?_
    refine pu (v := .sc _) rfl rfl (fun _ => rfl) ?_
    refine brR hR (fun h2 hR => ?_) fun h2 hR => ?_
    · refine sk (skW rfl rfl rfl h2) ?_
      refine sk (skW rfl rfl rfl h2) ?_
      refine sk (skW rfl rfl rfl h2) ?_
      refine pkT (v := .sc (.bool true)) rfl rfl h2 rfl ?_
      refine pu (v := .sc _) rfl rfl (fun _ => rfl) ?_
      refine sk (skW rfl rfl rfl rfl) ?_
      refine sk (skW rfl rfl rfl rfl) ?_
      refine sk (skW rfl rfl rfl rfl) ?_
      refine pkT (v := .sc (.bool true)) rfl rfl rfl rfl ?_
      refine pu (v := .sc _) rfl rfl (fun _ => rfl) ?_
      refine sk (skW rfl rfl rfl rfl) ?_
      refine sk (skW rfl rfl rfl rfl) ?_
      refine sk (skW rfl rfl rfl rfl) ?_
      refine pkT (v := .sc (.bool true)) rfl rfl rfl rfl ?_
      refine pu (v := .sc _) rfl rfl (fun _ => rfl) ?_
      refine sk (skW rfl rfl rfl rfl) ?_
      refine sk (skW rfl rfl rfl rfl) ?_
      refine sk (skW rfl rfl rfl rfl) ?_
      refine sk (skW rfl rfl rfl rfl) ?_
      refine sk (skW rfl rfl rfl rfl) ?_
      refine sk (skW rfl rfl rfl rfl) ?_
      refine sk (skW rfl rfl rfl rfl) ?_
      refine sk (skW rfl rfl rfl rfl) ?_
      refine sk (skW rfl rfl rfl rfl) ?_
      refine pkT (v := .sc (.bool true)) rfl rfl rfl rfl ?_
      refine RunC.fin ?_
      have hR := Option.some.inj hR; subst hR
      exact Weak.turnL [(0, 0)] [] rfl rfl (tc (trP' rfl rfl rfl rfl) (tc (.sc _) tn)) (mc rfl (.box rfl (.cons (.sc _) (.cons (.sc _) (.cons trR1 (.nil)))) rfl) mn)
    · refine fa (wtG rfl rfl rfl h2) rfl ti33 rfl rfl ti3 rfl ?_
      refine ldB (v := .sc _) (wtG rfl rfl rfl h2) rfl rfl rfl ti3 rfl rfl ?_
      refine pu (v := .sc _) (wtG rfl rfl rfl h2) rfl (fun _ => rfl) ?_
      refine pkF (v := .sc (.bool (decide (c.W > 32)))) rfl rfl h2 rfl ?_
      refine pu (v := .sc _) rfl rfl (fun _ => rfl) ?_
      refine brR hR (fun h3 hR => ?_) fun h3 hR => ?_
      · refine sk (skW rfl rfl rfl h3) ?_
        refine sk (skW rfl rfl rfl h3) ?_
        refine sk (skW rfl rfl rfl h3) ?_
        refine pkT (v := .sc (.bool true)) rfl rfl h3 rfl ?_
        refine pu (v := .sc _) rfl rfl (fun _ => rfl) ?_
        refine sk (skW rfl rfl rfl rfl) ?_
        refine sk (skW rfl rfl rfl rfl) ?_
        refine sk (skW rfl rfl rfl rfl) ?_
        refine pkT (v := .sc (.bool true)) rfl rfl rfl rfl ?_
        refine pu (v := .sc _) rfl rfl (fun _ => rfl) ?_
        refine sk (skW rfl rfl rfl rfl) ?_
        refine sk (skW rfl rfl rfl rfl) ?_
        refine sk (skW rfl rfl rfl rfl) ?_
        refine sk (skW rfl rfl rfl rfl) ?_
        refine sk (skW rfl rfl rfl rfl) ?_
        refine sk (skW rfl rfl rfl rfl) ?_
        refine sk (skW rfl rfl rfl rfl) ?_
        refine sk (skW rfl rfl rfl rfl) ?_
        refine sk (skW rfl rfl rfl rfl) ?_
        refine pkT (v := .sc (.bool true)) rfl rfl rfl rfl ?_
        refine RunC.fin ?_
        have hR := Option.some.inj hR; subst hR
        exact Weak.turnL [(0, 0)] [] rfl rfl (tc (trP' rfl rfl rfl rfl) (tc (.sc _) tn)) (mc rfl (.box rfl (.cons (.sc _) (.cons (.sc _) (.cons trR1 (.nil)))) rfl) mn)
      · refine fa (wtG rfl rfl rfl h3) rfl ti33 rfl rfl ti3 rfl ?_
        refine ldB (v := .sc _) (wtG rfl rfl rfl h3) rfl rfl rfl ti3 rfl rfl ?_
        refine pu (v := .sc _) (wtG rfl rfl rfl h3) rfl (fun _ => rfl) ?_
        refine pkF (v := .sc (.bool (decide (c.H < 1)))) rfl rfl h3 rfl ?_
        refine pu (v := .sc _) rfl rfl (fun _ => rfl) ?_
        refine brR hR (fun h4 hR => ?_) fun h4 hR => ?_
        · refine sk (skW rfl rfl rfl h4) ?_
          refine sk (skW rfl rfl rfl h4) ?_
          refine sk (skW rfl rfl rfl h4) ?_
          refine pkT (v := .sc (.bool true)) rfl rfl h4 rfl ?_
          refine pu (v := .sc _) rfl rfl (fun _ => rfl) ?_
          refine sk (skW rfl rfl rfl rfl) ?_
          refine sk (skW rfl rfl rfl rfl) ?_
          refine sk (skW rfl rfl rfl rfl) ?_
          refine sk (skW rfl rfl rfl rfl) ?_
          refine sk (skW rfl rfl rfl rfl) ?_
          refine sk (skW rfl rfl rfl rfl) ?_
          refine sk (skW rfl rfl rfl rfl) ?_
          refine sk (skW rfl rfl rfl rfl) ?_
          refine sk (skW rfl rfl rfl rfl) ?_
          refine pkT (v := .sc (.bool true)) rfl rfl rfl rfl ?_
          refine RunC.fin ?_
          have hR := Option.some.inj hR; subst hR
          exact Weak.turnL [(0, 0)] [] rfl rfl (tc (trP' rfl rfl rfl rfl) (tc (.sc _) tn)) (mc rfl (.box rfl (.cons (.sc _) (.cons (.sc _) (.cons trR1 (.nil)))) rfl) mn)
        · refine fa (wtG rfl rfl rfl h4) rfl ti33 rfl rfl ti3 rfl ?_
          refine ldB (v := .sc _) (wtG rfl rfl rfl h4) rfl rfl rfl ti3 rfl rfl ?_
          refine pu (v := .sc _) (wtG rfl rfl rfl h4) rfl (fun _ => rfl) ?_
          refine pkF (v := .sc (.bool (decide (c.H > 32)))) rfl rfl h4 rfl ?_
          refine pu (v := .sc _) rfl rfl (fun _ => rfl) ?_
          refine brR hR (fun h5 hR => ?_) fun h5 hR => ?_
          · refine sk (skW rfl rfl rfl h5) ?_
            refine sk (skW rfl rfl rfl h5) ?_
            refine sk (skW rfl rfl rfl h5) ?_
            refine sk (skW rfl rfl rfl h5) ?_
            refine sk (skW rfl rfl rfl h5) ?_
            refine sk (skW rfl rfl rfl h5) ?_
            refine sk (skW rfl rfl rfl h5) ?_
            refine sk (skW rfl rfl rfl h5) ?_
            refine sk (skW rfl rfl rfl h5) ?_
            refine pkT (v := .sc (.bool true)) rfl rfl h5 rfl ?_
            refine RunC.fin ?_
            have hR := Option.some.inj hR; subst hR
            exact Weak.turnL [(0, 0)] [] rfl rfl (tc (trP' rfl rfl rfl rfl) (tc (.sc _) tn)) (mc rfl (.box rfl (.cons (.sc _) (.cons (.sc _) (.cons trR1 (.nil)))) rfl) mn)
          · refine fa (wtG rfl rfl rfl h5) rfl ti33 rfl rfl ti31 rfl ?_
            refine ldB (v := rowV _ c.At) (wtG rfl rfl rfl h5) rfl rfl rfl ti31 rfl rfl ?_
            refine lenL (α := Bound) (wtG rfl rfl rfl h5) rfl ti31 rfl ?_
            refine fa (wtG rfl rfl rfl h5) rfl ti33 rfl rfl ti3 rfl ?_
            refine ldB (v := .sc _) (wtG rfl rfl rfl h5) rfl rfl rfl ti3 rfl rfl ?_
            refine fa (wtG rfl rfl rfl h5) rfl ti33 rfl rfl ti3 rfl ?_
            refine ldB (v := .sc _) (wtG rfl rfl rfl h5) rfl rfl rfl ti3 rfl rfl ?_
            refine pu (v := .sc _) (wtG rfl rfl rfl h5) rfl (fun _ => rfl) ?_
            refine pu (v := .sc _) (wtG rfl rfl rfl h5) rfl (fun _ => rfl) ?_
            refine pkF (v := .sc (.bool ((c.At.length : Int) != (w6 (c.W * c.H))))) rfl rfl h5 rfl ?_
            refine RunC.fin ?_
            have hR := Option.some.inj hR; subst hR
            exact Weak.turnL [(0, 0)] [] rfl rfl (tc (trP' rfl rfl rfl rfl) (tc (.sc _) tn)) (mc rfl (.box rfl (.cons (.sc _) (.cons (.sc _) (.cons trR1 (.nil)))) rfl) mn)
  · refine AWP.cd hR rfl (fun h6 hR => ?_) fun h6 hR => ?_
    · refine AWP.sq ?_
      refine AWP.rgC 5 rfl rfl ?_
      refine pu (v := .sc _) rfl rfl (fun _ => rfl) ?_
      refine RunC.fin ?_
      refine AWP.ret ?_
      refine rtT ?_
      have hR := Option.some.inj hR; subst hR
      exact hQ _ _ (LS.mk [(2, .sc (.int .i64 3))] (lblks 0 []) 0) (.sc (.int .i64 3)) [] (.inr rfl) (Weak.turnL [] [] rfl rfl (tc (.sc _) tn) mn) (ro1 (rvT (v := .sc (.int .i64 3)) rfl)) rfl rfl (.sc _) pn
    · refine AWP.skip ?_
      refine skT ?_
      refine AWP.sq ?_
      refine AWP.sq ?_
      refine AWP.rgC 17 rfl rfl ?_
      refine fa rfl rfl ti33 rfl rfl ti31 rfl ?_
      refine ldB (v := rowV _ c.At) rfl rfl rfl rfl ti31 rfl rfl ?_
      refine lenL (α := Bound) rfl rfl ti31 rfl ?_
      refine pu (v := .sc _) rfl rfl (fun _ => rfl) ?_
      refine RunC.fin ?_
      refine AWP.loopK' (fun s7 : Int => LS.mk [(36, rowV (α := Bound) false c.At), (37, .sc (.int .i64 (c.At.length : Int))), (38, .sc (.int .i64 s7))] (lblks 0 []) 0) (fun z8 : Unit => LS.mk [] (lblks 0 []) 0) (find_Check.l1 c) hR (s0 := 0) (Weak.turnL [] [] rfl rfl (tc trR1 (tc (.sc _) (tc (.sc _) tn))) mn) (fun s7 o7 hR hE7 => ?_) fun z8 hR => ?_
      · unfold find_Check.l1 at hR
        refine AWP.sq ?_
        refine AWP.rgC 4 rfl rfl ?_
        refine pu (v := .sc _) rfl rfl (fun _ => rfl) ?_
        refine RunC.fin ?_
        refine AWP.sq ?_
        refine AWP.cd hR rfl (fun h9 hR => ?_) fun h9 hR => ?_
        · refine AWP.skip ?_
          refine skT ?_
          refine AWP.sq ?_
          refine AWP.block ?_
          refine AWP.sq ?_
          refine AWP.rgC 20 rfl rfl ?_
          obtain ⟨h10, hR⟩ := chkE hR
          refine ixL (α := Bound) rfl rfl rfl ti31 rfl ti43 rfl h10 ?_
          refine ldR (v := .agg _) rfl rfl ti43 rfl ?_
          refine al (cs := [.sc (.int .i64 0), .sc (.int .i64 0), .sc (.bool false)]) 12 rfl rfl ti43 rfl rfl ?_
          refine stB (cs' := [.sc (.int .i64 (gt c.At s7).Lo), .sc (.int .i64 (gt c.At s7).Hi), .sc (.bool (gt c.At s7).Unknown)]) rfl rfl rfl rfl ti43 rfl rfl rfl rfl rfl ?_
          refine RunC.fin ?_
          refine AWP.sq ?_
          refine AWP.sq ?_
          refine AWP.rgC 32 rfl rfl ?_
          refine ldB (v := .agg _) rfl rfl rfl rfl ti43 rfl rfl ?_
          obtain ⟨r11, hr11, hR⟩ := bindE hR
          refine cls [] rfl rfl cb20 (ok20 (gt c.At s7) _ hr11) (.cons (.agg (.cons (.sc _) (.cons (.sc _) (.cons (.sc _) (.nil)))) rfl) (.nil)) (.inr rfl) rfl ?_
          refine pu (v := .sc _) rfl rfl (fun _ => rfl) ?_
          refine RunC.fin ?_
          refine AWP.sq ?_
          refine AWP.rgC 40 rfl rfl ?_
          refine pu (v := .sc _) rfl rfl (fun _ => rfl) ?_
          refine pu (v := .sc _) rfl rfl (fun _ => rfl) ?_
          refine RunC.fin ?_
          refine AWP.cd hR rfl (fun h12 hR => ?_) fun h12 hR => ?_
          · refine AWP.sq ?_
            refine AWP.rgC 48 rfl rfl ?_
            refine pu (v := .sc _) rfl rfl (fun _ => rfl) ?_
            refine pu (v := .sc _) rfl rfl (fun _ => rfl) ?_
            refine RunC.fin ?_
            refine AWP.ret ?_
            refine rtT ?_
            refine rtB ?_
            refine rtT ?_
            refine rtT ?_
            refine rtB (rtT ?_)
            replace hR := escL hR hE7
            refine rtT ?_
            have hR := Option.some.inj hR; subst hR
            exact hQ _ _ (LS.mk [(2, .sc (.int .i64 r11))] (lblks 0 []) 0) (.sc (.int .i64 r11)) [] (.inr rfl) (Weak.turnL [] [] rfl rfl (tc (.sc _) tn) mn) (ro1 (rvT (v := .sc (.int .i64 r11)) rfl)) rfl rfl (.sc _) pn
          · refine AWP.skip ?_
            refine skT ?_
            refine AWP.joinX (fun z13 : Bool => LS.mk [(36, rowV (α := Bound) false c.At), (37, .sc (.int .i64 (c.At.length : Int))), (38, .sc (.int .i64 s7)), (54, .sc (.bool z13))] (lblks 0 []) 0) hR (fun o13 hR => ?_) fun z13 hR => ?_
            · refine AWP.rgC 72 rfl rfl ?_
              refine fa rfl rfl ti43 rfl rfl ti28 rfl ?_
              refine ldB (v := .sc _) rfl rfl rfl rfl ti28 rfl rfl ?_
              refine pu (v := .sc _) rfl rfl (fun _ => rfl) ?_
              refine pu (v := .sc _) rfl rfl (fun _ => rfl) ?_
              refine brR hR (fun h14 hR => ?_) fun h14 hR => ?_
              · refine sk (skW rfl rfl rfl h14) ?_
                refine sk (skW rfl rfl rfl h14) ?_
                refine sk (skW rfl rfl rfl h14) ?_
                refine pkT (v := .sc (.bool true)) rfl rfl h14 rfl ?_
                refine RunC.fin ?_
                have hR := Option.some.inj hR; subst hR
                exact Weak.turnL [] [] rfl rfl (tc trR1 (tc (.sc _) (tc (.sc _) (tc (.sc _) tn)))) mn
              · refine fa (wtG rfl rfl rfl h14) rfl ti43 rfl rfl ti28 rfl ?_
                refine ldB (v := .sc _) (wtG rfl rfl rfl h14) rfl rfl rfl ti28 rfl rfl ?_
                refine pu (v := .sc _) (wtG rfl rfl rfl h14) rfl (fun _ => rfl) ?_
                refine pkF (v := .sc (.bool (decide ((gt c.At s7).Hi > 1099511627776)))) rfl rfl h14 rfl ?_
                refine RunC.fin ?_
                have hR := Option.some.inj hR; subst hR
                exact Weak.turnL [] [] rfl rfl (tc trR1 (tc (.sc _) (tc (.sc _) (tc (.sc _) tn)))) mn
            · refine AWP.cd hR rfl (fun h15 hR => ?_) fun h15 hR => ?_
              · refine AWP.sq ?_
                refine AWP.rgC 4 rfl rfl ?_
                refine pu (v := .sc _) rfl rfl (fun _ => rfl) ?_
                refine RunC.fin ?_
                refine AWP.ret ?_
                refine rtB ?_
                refine rtT ?_
                refine rtT ?_
                refine rtB (rtT ?_)
                replace hR := escL hR hE7
                refine rtT ?_
                have hR := Option.some.inj hR; subst hR
                exact hQ _ _ (LS.mk [(2, .sc (.int .i64 4))] (lblks 0 []) 0) (.sc (.int .i64 4)) [] (.inr rfl) (Weak.turnL [] [] rfl rfl (tc (.sc _) tn) mn) (ro1 (rvT (v := .sc (.int .i64 4)) rfl)) rfl rfl (.sc _) pn
              · refine AWP.skip ?_
                refine skB ?_
                refine skT ?_
                refine AWP.rgC 8 rfl rfl ?_
                refine pu (v := .sc _) rfl rfl (fun _ => rfl) ?_
                refine pu (v := .sc _) rfl rfl (fun _ => rfl) ?_
                refine RunC.fin ?_
                refine ⟨(w6 (s7 + 1)), (Option.some.inj hR).symm, ?_⟩
                exact Weak.turnL [] [] rfl rfl (tc trR1 (tc (.sc _) (tc (.sc _) tn))) mn
        · refine AWP.exit ?_
          refine exT ?_
          refine exT ?_
          refine exH (skT ?_)
          refine ⟨(), (Option.some.inj hR).symm, ?_⟩
          exact Weak.turnL [] [] rfl rfl tn mn
      · refine skT ?_
        refine AWP.sq ?_
        refine AWP.rgC 4 rfl rfl ?_
        refine pu (v := .sc _) rfl rfl (fun _ => rfl) ?_
        refine RunC.fin ?_
        refine AWP.ret ?_
        have hR := Option.some.inj hR; subst hR
        exact hQ _ _ (LS.mk [(2, .sc (.int .i64 0))] (lblks 0 []) 0) (.sc (.int .i64 0)) [] (.inr rfl) (Weak.turnL [] [] rfl rfl (tc (.sc _) tn) mn) (ro1 (rvT (v := .sc (.int .i64 0)) rfl)) rfl rfl (.sc _) pn
theorem ok35 (s : stack_Stack) (c : Cells) (r : Int) (hR : stack_fit s c = some r) : FnP Try.prog 35 [aggV false s, aggV false c] (.sc (.int .i64 r)) := by
  refine fnP_of (FnX.walk Try.func35 rfl 29 0 (by simp [Try.ntmps35]) rfl fun W S F Q hQ => ?_)
  unfold stack_fit at hR
  refine AWP.sq ?_
  refine AWP.rgC 12 rfl rfl ?_
  refine bx (cs := _) 0 rfl rfl rfl ?_
  refine bx (cs := _) 4 rfl rfl rfl ?_
  refine pu (v := .sc _) rfl rfl (fun _ => rfl) ?_
  refine RunC.fin ?_
  refine AWP.sq ?_
  refine AWP.sq ?_
  refine AWP.rgC 24 rfl rfl ?_
  refine ldB (v := .agg _) rfl rfl rfl rfl ti63 rfl rfl ?_
  obtain ⟨r1, hr1, hR⟩ := bindE hR
  refine cls [] rfl rfl cb44 (ok44 s _ hr1) (.cons (.agg (.cons (.sc _) (.cons (.sc _) (.cons (.sc _) (.cons ldR' (.cons ldR' (.nil)))))) rfl) (.nil)) (.inr rfl) rfl ?_
  refine pu (v := .sc _) rfl rfl (fun _ => rfl) ?_
  refine RunC.fin ?_
  refine AWP.sq ?_
  refine AWP.rgC 32 rfl rfl ?_
  refine pu (v := .sc _) rfl rfl (fun _ => rfl) ?_
  refine pu (v := .sc _) rfl rfl (fun _ => rfl) ?_
  refine RunC.fin ?_
  refine AWP.cd hR rfl (fun h2 hR => ?_) fun h2 hR => ?_
  · refine AWP.sq ?_
    refine AWP.rgC 40 rfl rfl ?_
    refine pu (v := .sc _) rfl rfl (fun _ => rfl) ?_
    refine pu (v := .sc _) rfl rfl (fun _ => rfl) ?_
    refine RunC.fin ?_
    refine AWP.ret ?_
    refine rtT ?_
    have hR := Option.some.inj hR; subst hR
    exact hQ _ _ (LS.mk [(4, .sc (.int .i64 r1))] (lblks 0 []) 0) (.sc (.int .i64 r1)) [] (.inr rfl) (Weak.turnL [] [] rfl rfl (tc (.sc _) tn) mn) (ro1 (rvT (v := .sc (.int .i64 r1)) rfl)) rfl rfl (.sc _) pn
  · refine AWP.skip ?_
    refine skT ?_
    refine AWP.sq ?_
    refine AWP.sq ?_
    refine AWP.rgC 44 rfl rfl ?_
    refine ldB (v := .agg _) rfl rfl rfl rfl ti33 rfl rfl ?_
    obtain ⟨r3, hr3, hR⟩ := bindE hR
    refine cls [] rfl rfl cb13 (ok13 c _ hr3) (.cons (.agg (.cons (.sc _) (.cons (.sc _) (.cons ldR' (.nil)))) rfl) (.nil)) (.inr rfl) rfl ?_
    refine pu (v := .sc _) rfl rfl (fun _ => rfl) ?_
    refine RunC.fin ?_
    refine AWP.sq ?_
    refine AWP.rgC 52 rfl rfl ?_
    refine pu (v := .sc _) rfl rfl (fun _ => rfl) ?_
    refine pu (v := .sc _) rfl rfl (fun _ => rfl) ?_
    refine RunC.fin ?_
    refine AWP.cd hR rfl (fun h4 hR => ?_) fun h4 hR => ?_
    · refine AWP.sq ?_
      refine AWP.rgC 60 rfl rfl ?_
      refine pu (v := .sc _) rfl rfl (fun _ => rfl) ?_
      refine pu (v := .sc _) rfl rfl (fun _ => rfl) ?_
      refine RunC.fin ?_
      refine AWP.ret ?_
      refine rtT ?_
      have hR := Option.some.inj hR; subst hR
      exact hQ _ _ (LS.mk [(4, .sc (.int .i64 r3))] (lblks 0 []) 0) (.sc (.int .i64 r3)) [] (.inr rfl) (Weak.turnL [] [] rfl rfl (tc (.sc _) tn) mn) (ro1 (rvT (v := .sc (.int .i64 r3)) rfl)) rfl rfl (.sc _) pn
    · refine AWP.skip ?_
      refine skT ?_
      refine AWP.sq ?_
      refine AWP.joinX (fun z5 : Bool => LS.mk [(28, .sc (.bool z5))] (lblks 0 []) 0) hR (fun o5 hR => ?_) fun z5 hR => ?_
      · refine AWP.rgC 100 rfl rfl ?_
        refine fa rfl rfl ti63 rfl rfl ti3 rfl ?_
        refine ldB (v := .sc _) rfl rfl rfl rfl ti3 rfl rfl ?_
        refine fa rfl rfl ti33 rfl rfl ti3 rfl ?_
        refine ldB (v := .sc _) rfl rfl rfl rfl ti3 rfl rfl ?_
        refine pu (v := .sc _) rfl rfl (fun _ => rfl) ?_
        refine pu (v := .sc _) rfl rfl (fun _ => rfl) ?_
        refine brR hR (fun h6 hR => ?_) fun h6 hR => ?_
        · refine sk (skW rfl rfl rfl h6) ?_
          refine sk (skW rfl rfl rfl h6) ?_
          refine sk (skW rfl rfl rfl h6) ?_
          refine sk (skW rfl rfl rfl h6) ?_
          refine sk (skW rfl rfl rfl h6) ?_
          refine pkT (v := .sc (.bool true)) rfl rfl h6 rfl ?_
          refine RunC.fin ?_
          have hR := Option.some.inj hR; subst hR
          exact Weak.turnL [] [] rfl rfl (tc (.sc _) tn) mn
        · refine fa (wtG rfl rfl rfl h6) rfl ti63 rfl rfl ti3 rfl ?_
          refine ldB (v := .sc _) (wtG rfl rfl rfl h6) rfl rfl rfl ti3 rfl rfl ?_
          refine fa (wtG rfl rfl rfl h6) rfl ti33 rfl rfl ti3 rfl ?_
          refine ldB (v := .sc _) (wtG rfl rfl rfl h6) rfl rfl rfl ti3 rfl rfl ?_
          refine pu (v := .sc _) (wtG rfl rfl rfl h6) rfl (fun _ => rfl) ?_
          refine pkF (v := .sc (.bool (s.H != c.H))) rfl rfl h6 rfl ?_
          refine RunC.fin ?_
          have hR := Option.some.inj hR; subst hR
          exact Weak.turnL [] [] rfl rfl (tc (.sc _) tn) mn
      · refine AWP.cd hR rfl (fun h7 hR => ?_) fun h7 hR => ?_
        · refine AWP.sq ?_
          refine AWP.rgC 4 rfl rfl ?_
          refine pu (v := .sc _) rfl rfl (fun _ => rfl) ?_
          refine RunC.fin ?_
          refine AWP.ret ?_
          refine rtT ?_
          have hR := Option.some.inj hR; subst hR
          exact hQ _ _ (LS.mk [(4, .sc (.int .i64 12))] (lblks 0 []) 0) (.sc (.int .i64 12)) [] (.inr rfl) (Weak.turnL [] [] rfl rfl (tc (.sc _) tn) mn) (ro1 (rvT (v := .sc (.int .i64 12)) rfl)) rfl rfl (.sc _) pn
        · refine AWP.skip ?_
          refine skT ?_
          refine AWP.sq ?_
          refine AWP.rgC 4 rfl rfl ?_
          refine pu (v := .sc _) rfl rfl (fun _ => rfl) ?_
          refine RunC.fin ?_
          refine AWP.ret ?_
          have hR := Option.some.inj hR; subst hR
          exact hQ _ _ (LS.mk [(4, .sc (.int .i64 0))] (lblks 0 []) 0) (.sc (.int .i64 0)) [] (.inr rfl) (Weak.turnL [] [] rfl rfl (tc (.sc _) tn) mn) (ro1 (rvT (v := .sc (.int .i64 0)) rfl)) rfl rfl (.sc _) pn
theorem ok21 (r : Bound) (hR : bound_None = some r) : FnP Try.prog 21 [] (aggV (α := Bound) true r) := by
  refine fnP_of (FnX.walk Try.func21 rfl 2 0 (by simp [Try.ntmps21]) rfl fun W S F Q hQ => ?_)
  unfold bound_None at hR
  refine AWP.sq ?_
  refine AWP.rgC 4 rfl rfl ?_
  refine al (cs := [.sc (.int .i64 0), .sc (.int .i64 0), .sc (.bool false)]) 0 rfl rfl ti43 rfl rfl ?_
  refine RunC.fin ?_
  refine AWP.sq ?_
  refine AWP.rgC 12 rfl rfl ?_
  refine bu (cs := [.sc (.int .i64 0), .sc (.int .i64 0), .sc (.bool true)]) rfl bt43 rfl ?_
  refine stB (cs' := [.sc (.int .i64 0), .sc (.int .i64 0), .sc (.bool true)]) rfl rfl rfl rfl ti43 rfl rfl rfl rfl rfl ?_
  refine RunC.fin ?_
  refine AWP.ret ?_
  have hR := Option.some.inj hR; subst hR
  exact hQ _ _ (LS.mk [(0, .ptr 0 0 0)] (lblks 0 [boxB (α := Bound) true (Bound.mk 0 0 true)]) 1) (aggV (α := Bound) true (Bound.mk 0 0 true)) [] (.inr rfl) (Weak.turnL [(0, 0)] [] rfl rfl (tc (trP' rfl rfl rfl rfl) tn) (mc rfl (.box rfl (.cons (.sc _) (.cons (.sc _) (.cons (.sc _) (.nil)))) rfl) mn)) (ro1 (rvC (v := aggV (α := Bound) true (Bound.mk 0 0 true)) rfl rfl ti43 rfl)) rfl rfl ldA pn
theorem ok29 (b : Bound) (r : Bound) (hR : bound_Norm b = some r) : FnP Try.prog 29 [aggV false b] (aggV (α := Bound) true r) := by
  refine fnP_of (FnX.walk Try.func29 rfl 8 0 (by simp [Try.ntmps29]) rfl fun W S F Q hQ => ?_)
  unfold bound_Norm at hR
  refine AWP.sq ?_
  refine AWP.rgC 8 rfl rfl ?_
  refine bx (cs := _) 0 rfl rfl rfl ?_
  refine al (cs := [.sc (.int .i64 0), .sc (.int .i64 0), .sc (.bool false)]) 4 rfl rfl ti43 rfl rfl ?_
  refine RunC.fin ?_
  refine AWP.sq ?_
  refine AWP.sq ?_
  refine AWP.rgC 20 rfl rfl ?_
  refine ldB (v := .agg _) rfl rfl rfl rfl ti43 rfl rfl ?_
  obtain ⟨r1, hr1, hR⟩ := bindE hR
  refine cls [] rfl rfl cb20 (ok20 b _ hr1) (.cons (.agg (.cons (.sc _) (.cons (.sc _) (.cons (.sc _) (.nil)))) rfl) (.nil)) (.inr rfl) rfl ?_
  refine pu (v := .sc _) rfl rfl (fun _ => rfl) ?_
  refine RunC.fin ?_
  refine AWP.cd hR rfl (fun h2 hR => ?_) fun h2 hR => ?_
  · refine AWP.sq ?_
    refine AWP.rgC 28 rfl rfl ?_
    obtain ⟨r3, hr3, hR⟩ := bindE hR
    refine cls [] rfl rfl cb21 (ok21 _ hr3) (.nil) (.inr rfl) rfl ?_
    refine stB (cs' := [.sc (.int .i64 r3.Lo), .sc (.int .i64 r3.Hi), .sc (.bool r3.Unknown)]) rfl rfl rfl rfl ti43 rfl rfl rfl rfl rfl ?_
    refine RunC.fin ?_
    refine AWP.ret ?_
    refine rtT ?_
    have hR := Option.some.inj hR; subst hR
    exact hQ _ _ (LS.mk [(2, .ptr 0 0 0)] (lblks 0 [boxB (α := Bound) true r3]) 1) (aggV (α := Bound) true r3) [] (.inr rfl) (Weak.turnL [(4, 0)] [] rfl rfl (tc (trP' rfl rfl rfl rfl) tn) (mc rfl (.box rfl (.cons (.sc _) (.cons (.sc _) (.cons (.sc _) (.nil)))) rfl) mn)) (ro1 (rvC (v := aggV (α := Bound) true r3) rfl rfl ti43 rfl)) rfl rfl ldA pn
  · refine AWP.skip ?_
    refine skT ?_
    refine AWP.sq ?_
    refine AWP.rgC 28 rfl rfl ?_
    refine ldB (v := .agg _) rfl rfl rfl rfl ti43 rfl rfl ?_
    refine stB (cs' := [.sc (.int .i64 b.Lo), .sc (.int .i64 b.Hi), .sc (.bool b.Unknown)]) rfl rfl rfl rfl ti43 rfl rfl rfl rfl rfl ?_
    refine RunC.fin ?_
    refine AWP.ret ?_
    have hR := Option.some.inj hR; subst hR
    exact hQ _ _ (LS.mk [(2, .ptr 0 0 0)] (lblks 0 [boxB (α := Bound) true b]) 1) (aggV (α := Bound) true b) [] (.inr rfl) (Weak.turnL [(4, 0)] [] rfl rfl (tc (trP' rfl rfl rfl rfl) tn) (mc rfl (.box rfl (.cons (.sc _) (.cons (.sc _) (.cons (.sc _) (.nil)))) rfl) mn)) (ro1 (rvC (v := aggV (α := Bound) true b) rfl rfl ti43 rfl)) rfl rfl ldA pn
theorem ok38 (i : Int) (p1 : stack_Stack) (r : Bound) (hR : stack_Total_1 i p1 = some r) : FnP Try.prog 38 [.sc (.int .i64 i), .rp (Cl.c false p1)] (aggV (α := Bound) true r) := by
  refine fnP_of (FnX.walk Try.func38 rfl 16 0 (by simp [Try.ntmps38]) rfl fun W S F Q hQ => ?_)
  unfold stack_Total_1 at hR
  refine AWP.sq ?_
  refine AWP.rgC 4 rfl rfl ?_
  refine al (cs := [.sc (.int .i64 0), .sc (.int .i64 0), .sc (.bool false)]) 0 rfl rfl ti43 rfl rfl ?_
  refine RunC.fin ?_
  refine AWP.sq ?_
  refine AWP.sq ?_
  refine AWP.rgC 28 rfl rfl ?_
  refine fr rfl rfl ti63 rfl rfl ti22 rfl ?_
  refine ldR (v := rowV _ p1.Holes) rfl rfl ti22 rfl ?_
  refine pu (v := .sc _) rfl rfl (fun _ => rfl) ?_
  obtain ⟨h1, hR⟩ := chkE hR
  refine ixL (α := Int) rfl rfl rfl ti22 rfl ti3 rfl h1 ?_
  refine ldR (v := .sc _) rfl rfl ti3 rfl ?_
  refine pu (v := .sc _) rfl rfl (fun _ => rfl) ?_
  refine RunC.fin ?_
  refine AWP.cd hR rfl (fun h2 hR => ?_) fun h2 hR => ?_
  · refine AWP.sq ?_
    refine AWP.rgC 36 rfl rfl ?_
    obtain ⟨r3, hr3, hR⟩ := bindE hR
    refine cls [] rfl rfl cb21 (ok21 _ hr3) (.nil) (.inr rfl) rfl ?_
    refine stB (cs' := [.sc (.int .i64 r3.Lo), .sc (.int .i64 r3.Hi), .sc (.bool r3.Unknown)]) rfl rfl rfl rfl ti43 rfl rfl rfl rfl rfl ?_
    refine RunC.fin ?_
    refine AWP.ret ?_
    refine rtT ?_
    have hR := Option.some.inj hR; subst hR
    exact hQ _ _ (LS.mk [(3, .ptr 0 0 0)] (lblks 0 [boxB (α := Bound) true r3]) 1) (aggV (α := Bound) true r3) [] (.inr rfl) (Weak.turnL [(0, 0)] [] rfl rfl (tc (trP' rfl rfl rfl rfl) tn) (mc rfl (.box rfl (.cons (.sc _) (.cons (.sc _) (.cons (.sc _) (.nil)))) rfl) mn)) (ro1 (rvC (v := aggV (α := Bound) true r3) rfl rfl ti43 rfl)) rfl rfl ldA pn
  · refine AWP.skip ?_
    refine skT ?_
    refine AWP.sq ?_
    refine AWP.rgC 52 rfl rfl ?_
    refine fr rfl rfl ti63 rfl rfl ti31 rfl ?_
    refine ldR (v := rowV _ p1.At) rfl rfl ti31 rfl ?_
    refine pu (v := .sc _) rfl rfl (fun _ => rfl) ?_
    obtain ⟨h4, hR⟩ := chkE hR
    refine ixL (α := Bound) rfl rfl rfl ti31 rfl ti43 rfl h4 ?_
    refine ldR (v := .agg _) rfl rfl ti43 rfl ?_
    refine stB (cs' := [.sc (.int .i64 (gt p1.At i).Lo), .sc (.int .i64 (gt p1.At i).Hi), .sc (.bool (gt p1.At i).Unknown)]) rfl rfl rfl rfl ti43 rfl rfl rfl rfl rfl ?_
    refine RunC.fin ?_
    refine AWP.ret ?_
    have hR := Option.some.inj hR; subst hR
    exact hQ _ _ (LS.mk [(3, .ptr 0 0 0)] (lblks 0 [boxB (α := Bound) true (gt p1.At i)]) 1) (aggV (α := Bound) true (gt p1.At i)) [] (.inr rfl) (Weak.turnL [(0, 0)] [] rfl rfl (tc (trP' rfl rfl rfl rfl) tn) (mc rfl (.box rfl (.cons (.sc _) (.cons (.sc _) (.cons (.sc _) (.nil)))) rfl) mn)) (ro1 (rvC (v := aggV (α := Bound) true (gt p1.At i)) rfl rfl ti43 rfl)) rfl rfl ldA pn
theorem ok37 (s : stack_Stack) (fc0 : stack_Stack) (r : Cells × Int) (hR : stack_each_stack_Total_1 s fc0 = some r) : FnP Try.prog 37 [aggV false s, .fn (.func 38) [.rp (Cl.c false fc0)]] (.tup [aggV (α := Cells) true r.1, .sc (.int .i64 r.2)]) := by
  refine fnP_of (FnX.walk Try.func37 rfl 36 0 (by simp [Try.ntmps37]) rfl fun W S F Q hQ => ?_)
  unfold stack_each_stack_Total_1 at hR
  refine AWP.sq ?_
  refine AWP.rgC 12 rfl rfl ?_
  refine bx (cs := _) 0 rfl rfl rfl ?_
  refine al (cs := [.sc (.int .i64 0), .sc (.int .i64 0), .sc (.slice none 0 0)]) 4 rfl rfl ti33 rfl rfl ?_
  refine pu (v := .sc _) rfl rfl (fun _ => rfl) ?_
  refine RunC.fin ?_
  refine AWP.sq ?_
  refine AWP.sq ?_
  refine AWP.rgC 24 rfl rfl ?_
  refine ldB (v := .agg _) rfl rfl rfl rfl ti63 rfl rfl ?_
  obtain ⟨r1, hr1, hR⟩ := bindE hR
  refine cls [] rfl rfl cb44 (ok44 s _ hr1) (.cons (.agg (.cons (.sc _) (.cons (.sc _) (.cons (.sc _) (.cons ldR' (.cons ldR' (.nil)))))) rfl) (.nil)) (.inr rfl) rfl ?_
  refine pu (v := .sc _) rfl rfl (fun _ => rfl) ?_
  refine RunC.fin ?_
  refine AWP.sq ?_
  refine AWP.rgC 32 rfl rfl ?_
  refine pu (v := .sc _) rfl rfl (fun _ => rfl) ?_
  refine pu (v := .sc _) rfl rfl (fun _ => rfl) ?_
  refine RunC.fin ?_
  refine AWP.cd hR rfl (fun h2 hR => ?_) fun h2 hR => ?_
  · refine AWP.sq ?_
    refine AWP.rgC 48 rfl rfl ?_
    refine bu (cs := [.sc (.int .i64 0), .sc (.int .i64 0), .sc (.slice none 0 0)]) rfl bt33 rfl ?_
    refine pu (v := .sc _) rfl rfl (fun _ => rfl) ?_
    refine stB (cs' := [.sc (.int .i64 0), .sc (.int .i64 0), .sc (.slice none 0 0)]) rfl rfl rfl rfl ti33 rfl rfl rfl rfl rfl ?_
    refine pu (v := .sc _) rfl rfl (fun _ => rfl) ?_
    refine RunC.fin ?_
    refine AWP.ret ?_
    refine rtT ?_
    have hR := Option.some.inj hR; subst hR
    exact hQ _ _ (LS.mk [(4, .ptr 0 0 0), (5, .sc (.int .i64 r1))] (lblks 0 [boxB (α := Cells) true (Cells.mk 0 0 [])]) 1) (.tup [aggV (α := Cells) true (Cells.mk 0 0 []), .sc (.int .i64 r1)]) [] (.inr rfl) (Weak.turnL [(4, 0)] [] rfl rfl (tc (trP' rfl rfl rfl rfl) (tc (.sc _) tn)) (mc rfl (.box rfl (.cons (.sc _) (.cons (.sc _) (.cons trN (.nil)))) rfl) mn)) (ro2 (rvC (v := aggV (α := Cells) true (Cells.mk 0 0 [])) rfl rfl ti33 rfl) (rvT (v := .sc (.int .i64 r1)) rfl)) rfl rfl (.tup (.cons ldA (.cons (.sc _) .nil))) pn
  · refine AWP.skip ?_
    refine skT ?_
    refine AWP.sq ?_
    refine AWP.rgC 60 rfl rfl ?_
    refine fa rfl rfl ti63 rfl rfl ti3 rfl ?_
    refine ldB (v := .sc _) rfl rfl rfl rfl ti3 rfl rfl ?_
    refine fa rfl rfl ti63 rfl rfl ti3 rfl ?_
    refine ldB (v := .sc _) rfl rfl rfl rfl ti3 rfl rfl ?_
    refine bu (cs := [.sc (.int .i64 s.W), .sc (.int .i64 s.H), .sc (.slice none 0 0)]) rfl bt33 rfl ?_
    refine al (cs := [.sc (.int .i64 0), .sc (.int .i64 0), .sc (.slice none 0 0)]) 52 rfl rfl ti33 rfl rfl ?_
    refine stB (cs' := [.sc (.int .i64 s.W), .sc (.int .i64 s.H), .sc (.slice none 0 0)]) rfl rfl rfl rfl ti33 rfl rfl rfl rfl rfl ?_
    refine RunC.fin ?_
    refine AWP.sq ?_
    refine AWP.sq ?_
    refine AWP.rgC 76 rfl rfl ?_
    refine fa rfl rfl ti63 rfl rfl ti31 rfl ?_
    refine ldB (v := rowV _ s.At) rfl rfl rfl rfl ti31 rfl rfl ?_
    refine lenL (α := Bound) rfl rfl ti31 rfl ?_
    refine pu (v := .sc _) rfl rfl (fun _ => rfl) ?_
    refine RunC.fin ?_
    refine AWP.nilB Bound 52 2 43 rfl rfl (cs' := [.sc (.int .i64 s.W), .sc (.int .i64 s.H), slV Bound 76 0 0 0]) rfl ?_
    refine AWP.loopJ (fun s3 : (List Bound) × Int => LS.mk [(1, .fn (.func 38) [.rp (Cl.c false (fc0 : stack_Stack))]), (4, .ptr 0 0 0), (7, .ptr 1 0 0), (22, .sc (.int .i64 (s.At.length : Int))), (23, .sc (.int .i64 s3.2))] (lblks 0 [.box [.sc (.int .i64 0), .sc (.int .i64 0), .sc (.slice none 0 0)], .box [.sc (.int .i64 s.W), .sc (.int .i64 s.H), slV Bound 2 0 0 s3.1.length], arrB (α := Bound) 43 0 true s3.1]) 3) (fun z4 : (List Bound) => LS.mk [(4, .ptr 0 0 0), (7, .ptr 1 0 0)] (lblks 0 [.box [.sc (.int .i64 0), .sc (.int .i64 0), .sc (.slice none 0 0)], .box [.sc (.int .i64 s.W), .sc (.int .i64 s.H), slV Bound 2 0 0 z4.length], arrB (α := Bound) 43 0 true z4]) 3) (stack_each_stack_Total_1.l1 s fc0) hR (s0 := (([] : List Bound), 0)) (Weak.turnL [(4, 0), (52, 0), (76, 0)] [] rfl rfl (tc (.fn (.cons (.rp (Cl.tr _ _ _ _ id) (Cl.leaf _ _)) (.nil))) (tc (trP' rfl rfl rfl rfl) (tc (trP' rfl rfl rfl rfl) (tc (.sc _) (tc (.sc _) tn))))) (mc rfl (.box rfl (.cons (.sc _) (.cons (.sc _) (.cons (.sc _) (.nil)))) rfl) (mc rfl (.box rfl (.cons (.sc _) (.cons (.sc _) (.cons (trS' rfl rfl rfl rfl rfl) (.nil)))) rfl) (mc rfl (btrA' rfl) mn)))) (fun s3 o3 hR => ?_) fun z4 hR => ?_
    · unfold stack_each_stack_Total_1.l1 at hR
      refine AWP.sq ?_
      refine AWP.rgC 7 rfl rfl ?_
      refine pu (v := .sc _) rfl rfl (fun _ => rfl) ?_
      refine RunC.fin ?_
      refine AWP.sq ?_
      refine AWP.cd hR rfl (fun h5 hR => ?_) fun h5 hR => ?_
      · refine AWP.skip ?_
        refine skT ?_
        refine AWP.sq ?_
        refine AWP.block ?_
        refine AWP.sq ?_
        refine AWP.rgC 15 rfl rfl ?_
        refine pu (v := .sc _) rfl rfl (fun _ => rfl) ?_
        refine pu (v := .sc _) rfl rfl (fun _ => rfl) ?_
        refine RunC.fin ?_
        refine AWP.rgD 51 [0, 1, 0, 0, 12, 28, 63, 127, 255] ⟨[], [none, some [1], none, none, none, none, some [2, 35], none, some [1]]⟩ hmix (by kernel_rfl) rfl rfl ?_
        refine fa rfl rfl ti33 rfl rfl ti31 rfl ?_
        refine ldB (v := slV Bound _ _ _ _) rfl rfl rfl rfl ti31 rfl rfl ?_
        refine pu (v := .fn _ _) rfl rfl (fun _ => rfl) ?_
        refine pu (v := .sc _) rfl rfl (fun _ => rfl) ?_
        obtain ⟨r6, hr6, hR⟩ := bindE hR
        refine cls [] rfl rfl cb38 (ok38 s3.2 fc0 _ hr6) (.cons (.sc _) (.cons (.rp (Cl.ld _ _ _) (Cl.leaf _ _)) (.nil))) (.inr rfl) rfl ?_
        refine bs (α := Bound) 35 true ([r6] : List Bound) rfl rfl ti31 rfl ti43 rfl rfl rfl rfl rfl ?_
        obtain ⟨h7, hR⟩ := chkE hR
        refine ap' (α := Bound) (nw := true) (xs := s3.1) (ys := ([r6] : List Bound)) rfl rfl rfl rfl (srcS' rfl rfl rfl) ti31 rfl ti43 rfl h7 rfl ?_
        refine fa rfl rfl ti33 rfl rfl ti31 rfl ?_
        refine stB (cs' := [.sc (.int .i64 s.W), .sc (.int .i64 s.H), slV Bound 2 1 0 (s3.1 ++ ([r6] : List Bound)).length]) rfl rfl rfl rfl ti31 rfl rfl rfl rfl rfl ?_
        refine RunC.blk ?_
        refine RunC.fin ?_
        refine AWP.rgC 59 rfl rfl ?_
        refine pu (v := .sc _) rfl rfl (fun _ => rfl) ?_
        refine pu (v := .sc _) rfl rfl (fun _ => rfl) ?_
        refine RunC.fin ?_
        refine ⟨(s3.1 ++ ([r6] : List Bound), w6 (s3.2 + 1)), (Option.some.inj hR).symm, ?_⟩
        exact Weak.turnL [(0, 0), (1, 0), (2, 0)] [] rfl rfl (tc (.fn (.cons (.rp (Cl.tr _ _ _ _ id) (Cl.leaf _ _)) (.nil))) (tc (trP' rfl rfl rfl rfl) (tc (trP' rfl rfl rfl rfl) (tc (.sc _) (tc (.sc _) tn))))) (mc rfl (.box rfl (.cons (.sc _) (.cons (.sc _) (.cons (.sc _) (.nil)))) rfl) (mc rfl (.box rfl (.cons (.sc _) (.cons (.sc _) (.cons (trS' rfl rfl rfl rfl rfl) (.nil)))) rfl) (mc rfl (btrA' rfl) mn)))
      · refine AWP.exit ?_
        refine exT ?_
        refine exT ?_
        refine exH (skT ?_)
        refine ⟨s3.1, (Option.some.inj hR).symm, ?_⟩
        exact Weak.turnL [(0, 0), (1, 0), (2, 0)] [] rfl rfl (tc (trP' rfl rfl rfl rfl) (tc (trP' rfl rfl rfl rfl) tn)) (mc rfl (.box rfl (.cons (.sc _) (.cons (.sc _) (.cons (.sc _) (.nil)))) rfl) (mc rfl (.box rfl (.cons (.sc _) (.cons (.sc _) (.cons (trS' rfl rfl rfl rfl rfl) (.nil)))) rfl) (mc rfl (btrA' rfl) mn)))
    · refine skT ?_
      refine AWP.sq ?_
      refine AWP.rgC 15 rfl rfl ?_
      refine ldB (v := .agg _) rfl rfl rfl rfl ti33 rfl rfl ?_
      refine stB (cs' := [.sc (.int .i64 s.W), .sc (.int .i64 s.H), slV Bound 2 0 0 z4.length]) rfl rfl rfl rfl ti33 rfl rfl rfl rfl rfl ?_
      refine pu (v := .sc _) rfl rfl (fun _ => rfl) ?_
      refine RunC.fin ?_
      refine AWP.ret ?_
      have hR := Option.some.inj hR; subst hR
      exact hQ _ _ (LS.mk [(4, .ptr 0 0 0), (5, .sc (.int .i64 0))] (lblks 0 [boxB (α := Cells) true (Cells.mk s.W s.H z4)]) 1) (.tup [aggV (α := Cells) true (Cells.mk s.W s.H z4), .sc (.int .i64 0)]) [] (.inr rfl) (Weak.turnL [(0, 0)] [2] rfl rfl (tc (trP' rfl rfl rfl rfl) (tc (.sc _) tn)) (mc rfl (.box rfl (.cons (.sc _) (.cons (.sc _) (.cons (trF' rfl rfl id rfl) (.nil)))) rfl) mn)) (ro2 (rvC (v := aggV (α := Cells) true (Cells.mk s.W s.H z4)) rfl rfl ti33 rfl) (rvT (v := .sc (.int .i64 0)) rfl)) rfl rfl (.tup (.cons ldA (.cons (.sc _) .nil))) pn
theorem ok28 (s : stack_Stack) (r : Cells × Int) (hR : stack_Total s = some r) : FnP Try.prog 28 [aggV false s] (.tup [aggV (α := Cells) true r.1, .sc (.int .i64 r.2)]) := by
  refine fnP_of (FnX.walk Try.func28 rfl 9 0 (by simp [Try.ntmps28]) rfl fun W S F Q hQ => ?_)
  unfold stack_Total at hR
  refine AWP.sq ?_
  refine AWP.rgC 12 rfl rfl ?_
  refine bx (cs := _) 0 rfl rfl rfl ?_
  refine al (cs := [.sc (.int .i64 0), .sc (.int .i64 0), .sc (.slice none 0 0)]) 4 rfl rfl ti33 rfl rfl ?_
  refine pu (v := .sc _) rfl rfl (fun _ => rfl) ?_
  refine RunC.fin ?_
  refine AWP.sq ?_
  refine AWP.rgC 40 rfl rfl ?_
  refine ldB (v := .agg _) rfl rfl rfl rfl ti63 rfl rfl ?_
  refine pu (v := .fn _ _) rfl rfl (fun _ => rfl) ?_
  obtain ⟨r1, hr1, hR⟩ := bindE hR
  refine cls [0] rfl rfl cb37 (ok37 s s _ hr1) (.cons (.agg (.cons (.sc _) (.cons (.sc _) (.cons (.sc _) (.cons ldR' (.cons ldR' (.nil)))))) rfl) (.cons (.fn (.cons (ldX rfl rfl (.cons (.sc _) (.cons (.sc _) (.cons (.sc _) (.cons ldR' (.cons ldR' (.nil)))))) rfl) (.nil))) (.nil))) (.inl (by first | rfl | exact freshR | exact freshA | (simp only [V.fresh, V.freshs, freshR, freshA, Bool.and_self]))) rfl ?_
  refine pu (v := .agg _) rfl rfl (fun _ => rfl) ?_
  refine pu (v := .sc _) rfl rfl (fun _ => rfl) ?_
  refine stB (cs' := [.sc (.int .i64 r1.1.W), .sc (.int .i64 r1.1.H), rowV (α := Bound) true r1.1.At]) rfl rfl rfl rfl ti33 rfl rfl rfl rfl rfl ?_
  refine pu (v := .sc _) rfl rfl (fun _ => rfl) ?_
  refine RunC.fin ?_
  refine AWP.ret ?_
  have hR := Option.some.inj hR; subst hR
  exact hQ _ _ (LS.mk [(2, .ptr 0 0 0), (3, .sc (.int .i64 r1.2))] (lblks 0 [boxB (α := Cells) true r1.1]) 1) (.tup [aggV (α := Cells) true r1.1, .sc (.int .i64 r1.2)]) [] (.inr rfl) (Weak.turnL [(4, 0)] [] rfl rfl (tc (trP' rfl rfl rfl rfl) (tc (.sc _) tn)) (mc rfl (.box rfl (.cons (.sc _) (.cons (.sc _) (.cons trR1 (.nil)))) rfl) mn)) (ro2 (rvC (v := aggV (α := Cells) true r1.1) rfl rfl ti33 rfl) (rvT (v := .sc (.int .i64 r1.2)) rfl)) rfl rfl (.tup (.cons ldA (.cons (.sc _) .nil))) pn
theorem ok45_25 (s : List Int) (r : (List Int)) (hR : slices_Clone_Int s = some r) : FnD Try.prog 45 [] [rowV false s] (slV Int 0 0 0 r.length) [arrB (α := Int) 3 0 true r] := by
  refine FnX.walk Try.func45 rfl 8 0 (by simp [Try.ntmps45]) rfl fun W S F Q hQ => ?_
  unfold slices_Clone_Int at hR
  refine AWP.sq ?_
  refine AWP.rgC 4 rfl rfl ?_
  refine pu (v := .sc _) rfl rfl (fun _ => rfl) ?_
  refine RunC.fin ?_
  refine AWP.sq ?_
  refine AWP.joinX (fun z1 : Bool => LS.mk [(0, rowV (α := Int) false s), (4, .sc (.bool z1))] (lblks 0 []) 0) hR (fun o1 hR => ?_) fun z1 hR => ?_
  · refine AWP.rgC 12 rfl rfl ?_
    refine pu (v := rowV _ s) rfl rfl (fun _ => rfl) ?_
    refine nilE hR rfl rfl rfl (by rw [ti22]; rfl) (fun hR h2 => ?_) fun hR => ?_
    · refine RunC.fin ?_
      have hR := Option.some.inj hR; subst hR
      exact Weak.turnL [] [] rfl rfl (tc trR1 (tc (.sc _) tn)) mn
    · refine RunC.fin ?_
      have hR := Option.some.inj hR; subst hR
      exact Weak.turnL [] [] rfl rfl (tc trR1 (tc (.sc _) tn)) mn
  · refine AWP.cd hR rfl (fun h3 hR => ?_) fun h3 hR => ?_
    · refine AWP.sq ?_
      refine AWP.rgC 4 rfl rfl ?_
      refine pu (v := .sc _) rfl rfl (fun _ => rfl) ?_
      refine RunC.fin ?_
      refine AWP.nilT Int 2 3 rfl ?_
      refine AWP.ret ?_
      refine rtT ?_
      have hR := Option.some.inj hR; subst hR
      exact hQ _ _ (LS.mk [(2, slV Int 0 0 0 [].length)] (lblks 0 [arrB (α := Int) 3 0 true []]) 1) (slV Int 0 0 0 [].length) [0] (.inr rfl) (Weak.turnL [(4, 0)] [] rfl rfl (tc (trS' rfl rfl rfl rfl rfl) tn) (mc rfl (btrA' rfl) mn)) (ro1 (rvT (v := slV Int 0 0 0 [].length) rfl)) rfl rfl (ldM rfl rfl) (pc rfl bldA pn)
    · refine AWP.skip ?_
      refine skT ?_
      refine AWP.sq ?_
      refine AWP.rgC 16 rfl rfl ?_
      refine bs (α := Int) 0 true ([] : List Int) rfl rfl ti22 rfl ti3 rfl rfl rfl rfl rfl ?_
      refine pu (v := rowV _ s) rfl rfl (fun _ => rfl) ?_
      obtain ⟨h4, hR⟩ := chkE hR
      refine ap' (α := Int) (nw := true) (xs := ([] : List Int)) (ys := s) rfl rfl rfl rfl (srcR2 rfl (fun _ => rfl)) ti22 rfl ti3 rfl h4 rfl ?_
      refine pu (v := slV Int _ _ _ _) rfl rfl (fun _ => rfl) ?_
      refine RunC.fin ?_
      refine AWP.ret ?_
      have hR := Option.some.inj hR; subst hR
      exact hQ _ _ (LS.mk [(2, slV Int 0 0 0 (([] : List Int) ++ s).length)] (lblks 0 [arrB (α := Int) 3 0 true (([] : List Int) ++ s)]) 1) (slV Int 0 0 0 (([] : List Int) ++ s).length) [0] (.inr rfl) (Weak.turnL [(0, 0)] [] rfl rfl (tc (trS' rfl rfl rfl rfl rfl) tn) (mc rfl (btrA' rfl) mn)) (ro1 (rvT (v := slV Int 0 0 0 (([] : List Int) ++ s).length) rfl)) rfl rfl (ldM rfl rfl) (pc rfl bldA pn)
theorem ok46_26 (s : List Bound) (r : (List Bound)) (hR : slices_Clone_Bound s = some r) : FnD Try.prog 46 [] [rowV false s] (slV Bound 0 0 0 r.length) [arrB (α := Bound) 43 0 true r] := by
  refine FnX.walk Try.func46 rfl 8 0 (by simp [Try.ntmps46]) rfl fun W S F Q hQ => ?_
  unfold slices_Clone_Bound at hR
  refine AWP.sq ?_
  refine AWP.rgC 4 rfl rfl ?_
  refine pu (v := .sc _) rfl rfl (fun _ => rfl) ?_
  refine RunC.fin ?_
  refine AWP.sq ?_
  refine AWP.joinX (fun z1 : Bool => LS.mk [(0, rowV (α := Bound) false s), (4, .sc (.bool z1))] (lblks 0 []) 0) hR (fun o1 hR => ?_) fun z1 hR => ?_
  · refine AWP.rgC 12 rfl rfl ?_
    refine pu (v := rowV _ s) rfl rfl (fun _ => rfl) ?_
    refine nilE hR rfl rfl rfl (by rw [ti31]; rfl) (fun hR h2 => ?_) fun hR => ?_
    · refine RunC.fin ?_
      have hR := Option.some.inj hR; subst hR
      exact Weak.turnL [] [] rfl rfl (tc trR1 (tc (.sc _) tn)) mn
    · refine RunC.fin ?_
      have hR := Option.some.inj hR; subst hR
      exact Weak.turnL [] [] rfl rfl (tc trR1 (tc (.sc _) tn)) mn
  · refine AWP.cd hR rfl (fun h3 hR => ?_) fun h3 hR => ?_
    · refine AWP.sq ?_
      refine AWP.rgC 4 rfl rfl ?_
      refine pu (v := .sc _) rfl rfl (fun _ => rfl) ?_
      refine RunC.fin ?_
      refine AWP.nilT Bound 2 43 rfl ?_
      refine AWP.ret ?_
      refine rtT ?_
      have hR := Option.some.inj hR; subst hR
      exact hQ _ _ (LS.mk [(2, slV Bound 0 0 0 [].length)] (lblks 0 [arrB (α := Bound) 43 0 true []]) 1) (slV Bound 0 0 0 [].length) [0] (.inr rfl) (Weak.turnL [(4, 0)] [] rfl rfl (tc (trS' rfl rfl rfl rfl rfl) tn) (mc rfl (btrA' rfl) mn)) (ro1 (rvT (v := slV Bound 0 0 0 [].length) rfl)) rfl rfl (ldM rfl rfl) (pc rfl bldA pn)
    · refine AWP.skip ?_
      refine skT ?_
      refine AWP.sq ?_
      refine AWP.rgC 16 rfl rfl ?_
      refine bs (α := Bound) 0 true ([] : List Bound) rfl rfl ti31 rfl ti43 rfl rfl rfl rfl rfl ?_
      refine pu (v := rowV _ s) rfl rfl (fun _ => rfl) ?_
      obtain ⟨h4, hR⟩ := chkE hR
      refine ap' (α := Bound) (nw := true) (xs := ([] : List Bound)) (ys := s) rfl rfl rfl rfl (srcR2 rfl (fun _ => rfl)) ti31 rfl ti43 rfl h4 rfl ?_
      refine pu (v := slV Bound _ _ _ _) rfl rfl (fun _ => rfl) ?_
      refine RunC.fin ?_
      refine AWP.ret ?_
      have hR := Option.some.inj hR; subst hR
      exact hQ _ _ (LS.mk [(2, slV Bound 0 0 0 (([] : List Bound) ++ s).length)] (lblks 0 [arrB (α := Bound) 43 0 true (([] : List Bound) ++ s)]) 1) (slV Bound 0 0 0 (([] : List Bound) ++ s).length) [0] (.inr rfl) (Weak.turnL [(0, 0)] [] rfl rfl (tc (trS' rfl rfl rfl rfl rfl) tn) (mc rfl (btrA' rfl) mn)) (ro1 (rvT (v := slV Bound 0 0 0 (([] : List Bound) ++ s).length) rfl)) rfl rfl (ldM rfl rfl) (pc rfl bldA pn)
end Go.Proofs.Stm
