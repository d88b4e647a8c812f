/- Each function of the program computes its plain function. Conditions: as each theorem states them. -/
import Derived.Test.YtadepbpacnhjaaaA4
import Derived.WalkKit
import Derived.Deep.WholeRow
import Derived.Test.YtadepbpacnhjaaaT
import Derived.Test.YtadepbpacnhjaaaH
import Derived.Test.YtadepbpacnhjaaaS
import Derived.Test.YtadepbpacnhjaaaF
import Derived.Test.YtadepbpacnhjaaaP2
namespace Go.Proofs.Crs
open Go Go.Abs Lf
set_option linter.unusedVariables false
set_option linter.unusedSimpArgs false
set_option maxRecDepth 100000
set_option maxHeartbeats 1000000
theorem ok11 (r : Bool) (hR : spykeep4_noticed = some r) : FnP Try.prog 11 [] (.sc (.bool r)) := by
  refine fnP_of (FnX.walk Try.func11 rfl 52 0 (by simp [Try.ntmps11]) rfl fun W S F Q hQ => ?_)
  unfold spykeep4_noticed at hR
  refine AWP.sq ?_
  refine AWP.rgC 4 rfl rfl ?_
  refine pu (v := .sc _) rfl rfl (fun _ => rfl) ?_
  refine RunC.fin ?_
  refine AWP.sq ?_
  refine AWP.rgC 8 rfl rfl ?_
  refine pu (v := .fn _ _) rfl rfl (fun _ => rfl) ?_
  refine RunC.fin ?_
  refine AWP.sq ?_
  refine AWP.rgC 72 rfl rfl ?_
  refine pu (v := .fn _ _) rfl rfl (fun _ => rfl) ?_
  obtain ⟨r1, hr1, hR⟩ := bindE hR
  refine cls [] rfl rfl cb23 (ok23 1 2 _ hr1) (.cons (.sc _) (.cons (.sc _) (.nil))) (.inr rfl) rfl ?_
  refine pu (v := .fn _ _) rfl rfl (fun _ => rfl) ?_
  obtain ⟨r2, hr2, hR⟩ := bindE hR
  refine cls [] rfl rfl cb23 (ok23 1 2 _ hr2) (.cons (.sc _) (.cons (.sc _) (.nil))) (.inr rfl) rfl ?_
  refine bs (α := Bound) 24 true ([r1, r2] : List Bound) rfl rfl ti75 rfl ti34 rfl rfl rfl rfl rfl ?_
  refine bu (cs := [.sc (.int .i64 2), .sc (.int .i64 1), slV Bound 24 0 0 ([r1, r2] : List Bound).length]) rfl bt77 rfl ?_
  refine pu (v := .fn _ _) rfl rfl (fun _ => rfl) ?_
  obtain ⟨r3, hr3, hR⟩ := bindE hR
  refine cls [] rfl rfl cb23 (ok23 1 2 _ hr3) (.cons (.sc _) (.cons (.sc _) (.nil))) (.inr rfl) rfl ?_
  refine pu (v := .fn _ _) rfl rfl (fun _ => rfl) ?_
  obtain ⟨r4, hr4, hR⟩ := bindE hR
  refine cls [] rfl rfl cb23 (ok23 11 12 _ hr4) (.cons (.sc _) (.cons (.sc _) (.nil))) (.inr rfl) rfl ?_
  refine bs (α := Bound) 48 true ([r3, r4] : List Bound) rfl rfl ti75 rfl ti34 rfl rfl rfl rfl rfl ?_
  refine bu (cs := [.sc (.int .i64 2), .sc (.int .i64 1), slV Bound 48 0 0 ([r3, r4] : List Bound).length]) rfl bt77 rfl ?_
  refine al (cs := [.sc (.int .i64 0), .sc (.int .i64 0), .sc (.slice none 0 0)]) 56 rfl rfl ti77 rfl rfl ?_
  refine al (cs := [.sc (.int .i64 0), .sc (.int .i64 0), .sc (.slice none 0 0)]) 60 rfl rfl ti77 rfl rfl ?_
  refine stB (cs' := [.sc (.int .i64 2), .sc (.int .i64 1), slV Bound 24 0 0 ([r1, r2] : List Bound).length]) rfl rfl rfl rfl ti77 rfl rfl rfl rfl rfl ?_
  refine stB (cs' := [.sc (.int .i64 2), .sc (.int .i64 1), slV Bound 48 0 0 ([r3, r4] : List Bound).length]) rfl rfl rfl rfl ti77 rfl rfl rfl rfl rfl ?_
  refine RunC.fin ?_
  refine AWP.sq ?_
  refine AWP.rgC 108 rfl rfl ?_
  refine ldB (v := .agg _) rfl rfl rfl rfl ti77 rfl rfl ?_
  refine ldB (v := .agg _) rfl rfl rfl rfl ti77 rfl rfl ?_
  obtain ⟨r5, hr5, hR⟩ := bindE hR
  refine cls [24, 48] rfl rfl cb24 (ok24 (Cells.mk 2 1 ([r1, r2] : List Bound)) (Cells.mk 2 1 ([r3, r4] : List Bound)) 3 _ hr5) (.cons (.agg (.cons (.sc _) (.cons (.sc _) (.cons (ldS' rfl rfl rfl rfl) (.nil)))) rfl) (.cons (.agg (.cons (.sc _) (.cons (.sc _) (.cons (ldS' rfl rfl rfl rfl) (.nil)))) rfl) (.cons (.sc _) (.nil)))) (.inl (by first | rfl | exact freshR | exact freshA | (simp only [V.fresh, V.freshs, freshR, freshA, Bool.and_self]))) rfl ?_
  refine pu (v := .tup _) rfl rfl (fun _ => rfl) ?_
  refine pu (v := .agg _) rfl rfl (fun _ => rfl) ?_
  refine pu (v := .sc _) rfl rfl (fun _ => rfl) ?_
  refine al (cs := [.sc (.slice none 0 0), .sc (.slice none 0 0), .sc (.slice none 0 0)]) 96 rfl rfl ti80 rfl rfl ?_
  refine stB (cs' := [rowV (α := Source_) true r5.1.Up, rowV (α := Source_) true r5.1.Down, rowV (α := Int) true r5.1.Same]) rfl rfl rfl rfl ti80 rfl rfl rfl rfl rfl ?_
  refine pu (v := .sc _) rfl rfl (fun _ => rfl) ?_
  refine RunC.fin ?_
  refine AWP.joinX (fun z6 : Bool => LS.mk [(0, .sc (.bool z6))] (lblks 0 []) 0) hR (fun o6 hR => ?_) fun z6 hR => ?_
  · refine AWP.rgC 224 rfl rfl ?_
    refine pu (v := .sc _) rfl rfl (fun _ => rfl) ?_
    refine pu (v := .sc _) rfl rfl (fun _ => rfl) ?_
    refine pu (v := .sc _) rfl rfl (fun _ => rfl) ?_
    refine brR hR (fun h7 hR => ?_) fun h7 hR => ?_
    · refine fa (wtG rfl rfl rfl h7) rfl ti80 rfl rfl ti78 rfl ?_
      refine ldB (v := rowV _ r5.1.Up) (wtG rfl rfl rfl h7) rfl rfl rfl ti78 rfl rfl ?_
      refine lenL (α := Source_) (wtG rfl rfl rfl h7) rfl ti78 rfl ?_
      refine pu (v := .sc _) (wtG rfl rfl rfl h7) rfl (fun _ => rfl) ?_
      refine pkT (v := .sc (.bool ((r5.1.Up.length : Int) == 1))) rfl rfl h7 rfl ?_
      refine pu (v := .sc _) rfl rfl (fun _ => rfl) ?_
      refine brR hR (fun h8 hR => ?_) fun h8 hR => ?_
      · refine fa (wtG rfl rfl rfl h8) rfl ti80 rfl rfl ti78 rfl ?_
        refine ldB (v := rowV _ r5.1.Up) (wtG rfl rfl rfl h8) rfl rfl rfl ti78 rfl rfl ?_
        obtain ⟨h9, hR⟩ := chkE hR
        refine ixL (α := Source_) (wtG rfl rfl rfl h8) rfl rfl ti78 rfl ti84 rfl h9 ?_
        refine fr (wtG rfl rfl rfl h8) rfl ti84 rfl rfl ti3 rfl ?_
        refine ldR (v := .sc _) (wtG rfl rfl rfl h8) rfl ti3 rfl ?_
        refine pu (v := .sc _) (wtG rfl rfl rfl h8) rfl (fun _ => rfl) ?_
        refine pkT (v := .sc (.bool ((gt r5.1.Up 0).Peak == 1))) rfl rfl h8 rfl ?_
        refine pu (v := .sc _) rfl rfl (fun _ => rfl) ?_
        refine brR hR (fun h10 hR => ?_) fun h10 hR => ?_
        · refine fa (wtG rfl rfl rfl h10) rfl ti80 rfl rfl ti78 rfl ?_
          refine ldB (v := rowV _ r5.1.Down) (wtG rfl rfl rfl h10) rfl rfl rfl ti78 rfl rfl ?_
          refine lenL (α := Source_) (wtG rfl rfl rfl h10) rfl ti78 rfl ?_
          refine pu (v := .sc _) (wtG rfl rfl rfl h10) rfl (fun _ => rfl) ?_
          refine pkT (v := .sc (.bool ((r5.1.Down.length : Int) == 0))) rfl rfl h10 rfl ?_
          refine pu (v := .sc _) rfl rfl (fun _ => rfl) ?_
          refine brR hR (fun h11 hR => ?_) fun h11 hR => ?_
          · refine fa (wtG rfl rfl rfl h11) rfl ti80 rfl rfl ti22 rfl ?_
            refine ldB (v := rowV _ r5.1.Same) (wtG rfl rfl rfl h11) rfl rfl rfl ti22 rfl rfl ?_
            refine bs (α := Int) 208 true ([0] : List Int) (wtG rfl rfl rfl h11) rfl ti22 rfl ti3 rfl rfl rfl rfl rfl ?_
            obtain ⟨r12, hr12, hR⟩ := bindE hR
            refine cls [208] (wtG rfl rfl rfl h11) rfl cb25 (ok25 r5.1.Same ([0] : List Int) _ hr12) (.cons ldR' (.cons (ldS' rfl rfl rfl rfl) (.nil))) (.inl (by first | rfl | exact freshR | exact freshA | (simp only [V.fresh, V.freshs, freshR, freshA, Bool.and_self]))) rfl ?_
            refine pkT (v := .sc (.bool r12)) rfl rfl h11 rfl ?_
            refine pu (v := .sc _) rfl rfl (fun _ => rfl) ?_
            refine RunC.fin ?_
            have hR := Option.some.inj hR; subst hR
            exact Weak.turnL [] [] rfl rfl (tc (.sc _) tn) mn
          · refine sk (skW rfl rfl rfl h11) ?_
            refine sk (skW rfl rfl rfl h11) ?_
            refine sk (skW rfl rfl rfl h11) ?_
            refine sk (skW rfl rfl rfl h11) ?_
            refine pkF (v := .sc (.bool false)) rfl rfl h11 rfl ?_
            refine pu (v := .sc _) rfl rfl (fun _ => rfl) ?_
            refine RunC.fin ?_
            have hR := Option.some.inj hR; subst hR
            exact Weak.turnL [] [] rfl rfl (tc (.sc _) tn) mn
        · refine sk (skW rfl rfl rfl h10) ?_
          refine sk (skW rfl rfl rfl h10) ?_
          refine sk (skW rfl rfl rfl h10) ?_
          refine sk (skW rfl rfl rfl h10) ?_
          refine pkF (v := .sc (.bool false)) rfl rfl h10 rfl ?_
          refine pu (v := .sc _) rfl rfl (fun _ => rfl) ?_
          refine sk (skW rfl rfl rfl rfl) ?_
          refine sk (skW rfl rfl rfl rfl) ?_
          refine sk (skW rfl rfl rfl rfl) ?_
          refine sk (skW rfl rfl rfl rfl) ?_
          refine pkF (v := .sc (.bool false)) rfl rfl rfl rfl ?_
          refine pu (v := .sc _) rfl rfl (fun _ => rfl) ?_
          refine RunC.fin ?_
          have hR := Option.some.inj hR; subst hR
          exact Weak.turnL [] [] rfl rfl (tc (.sc _) tn) mn
      · refine sk (skW rfl rfl rfl h8) ?_
        refine sk (skW rfl rfl rfl h8) ?_
        refine sk (skW rfl rfl rfl h8) ?_
        refine sk (skW rfl rfl rfl h8) ?_
        refine sk (skW rfl rfl rfl h8) ?_
        refine sk (skW rfl rfl rfl h8) ?_
        refine pkF (v := .sc (.bool false)) rfl rfl h8 rfl ?_
        refine pu (v := .sc _) rfl rfl (fun _ => rfl) ?_
        refine sk (skW rfl rfl rfl rfl) ?_
        refine sk (skW rfl rfl rfl rfl) ?_
        refine sk (skW rfl rfl rfl rfl) ?_
        refine sk (skW rfl rfl rfl rfl) ?_
        refine pkF (v := .sc (.bool false)) rfl rfl rfl rfl ?_
        refine pu (v := .sc _) rfl rfl (fun _ => rfl) ?_
        refine sk (skW rfl rfl rfl rfl) ?_
        refine sk (skW rfl rfl rfl rfl) ?_
        refine sk (skW rfl rfl rfl rfl) ?_
        refine sk (skW rfl rfl rfl rfl) ?_
        refine pkF (v := .sc (.bool false)) rfl rfl rfl rfl ?_
        refine pu (v := .sc _) rfl rfl (fun _ => rfl) ?_
        refine RunC.fin ?_
        have hR := Option.some.inj hR; subst hR
        exact Weak.turnL [] [] rfl rfl (tc (.sc _) tn) mn
    · refine sk (skW rfl rfl rfl h7) ?_
      refine sk (skW rfl rfl rfl h7) ?_
      refine sk (skW rfl rfl rfl h7) ?_
      refine sk (skW rfl rfl rfl h7) ?_
      refine pkF (v := .sc (.bool false)) rfl rfl h7 rfl ?_
      refine pu (v := .sc _) rfl rfl (fun _ => rfl) ?_
      refine sk (skW rfl rfl rfl rfl) ?_
      refine sk (skW rfl rfl rfl rfl) ?_
      refine sk (skW rfl rfl rfl rfl) ?_
      refine sk (skW rfl rfl rfl rfl) ?_
      refine sk (skW rfl rfl rfl rfl) ?_
      refine sk (skW rfl rfl rfl rfl) ?_
      refine pkF (v := .sc (.bool false)) rfl rfl rfl rfl ?_
      refine pu (v := .sc _) rfl rfl (fun _ => rfl) ?_
      refine sk (skW rfl rfl rfl rfl) ?_
      refine sk (skW rfl rfl rfl rfl) ?_
      refine sk (skW rfl rfl rfl rfl) ?_
      refine sk (skW rfl rfl rfl rfl) ?_
      refine pkF (v := .sc (.bool false)) rfl rfl rfl rfl ?_
      refine pu (v := .sc _) rfl rfl (fun _ => rfl) ?_
      refine sk (skW rfl rfl rfl rfl) ?_
      refine sk (skW rfl rfl rfl rfl) ?_
      refine sk (skW rfl rfl rfl rfl) ?_
      refine sk (skW rfl rfl rfl rfl) ?_
      refine pkF (v := .sc (.bool false)) rfl rfl rfl rfl ?_
      refine pu (v := .sc _) rfl rfl (fun _ => rfl) ?_
      refine RunC.fin ?_
      have hR := Option.some.inj hR; subst hR
      exact Weak.turnL [] [] rfl rfl (tc (.sc _) tn) mn
  · refine AWP.ret ?_
    have hR := Option.some.inj hR; subst hR
    exact hQ _ _ (LS.mk [(0, .sc (.bool z6))] (lblks 0 []) 0) (.sc (.bool z6)) [] (.inr rfl) (Weak.turnL [] [] rfl rfl (tc (.sc _) tn) mn) (ro1 (rvT (v := .sc (.bool z6)) rfl)) rfl rfl (.sc _) pn
theorem ok26 (s : List change_Change) (r : Int) (hR : slices_IndexFunc_change_Change_spykeep4_ChangeRowsSame_1 s = some r) : FnP Try.prog 26 [rowV false s, .fn (.func 13) []] (.sc (.int .i64 r)) := by
  refine fnP_of (FnX.walk Try.func26 rfl 19 0 (by simp [Try.ntmps26]) rfl fun W S F Q hQ => ?_)
  unfold slices_IndexFunc_change_Change_spykeep4_ChangeRowsSame_1 at hR
  refine AWP.sq ?_
  refine AWP.rgC 4 rfl rfl ?_
  refine pu (v := .sc _) rfl rfl (fun _ => rfl) ?_
  refine RunC.fin ?_
  refine AWP.sq ?_
  refine AWP.sq ?_
  refine AWP.rgC 16 rfl rfl ?_
  refine pu (v := rowV _ s) rfl rfl (fun _ => rfl) ?_
  refine lenL (α := change_Change) rfl rfl ti48 rfl ?_
  refine pu (v := .sc _) rfl rfl (fun _ => rfl) ?_
  refine RunC.fin ?_
  refine AWP.loopK' (fun s1 : Int => LS.mk [(0, rowV (α := change_Change) false s), (1, .fn (.func 13) []), (7, .sc (.int .i64 (s.length : Int))), (8, .sc (.int .i64 s1))] (lblks 0 []) 0) (fun z2 : Unit => LS.mk [] (lblks 0 []) 0) (slices_IndexFunc_change_Change_spykeep4_ChangeRowsSame_1.l1 s) hR (s0 := 0) (Weak.turnL [] [] rfl rfl (tc trR1 (tc (.fn (.nil)) (tc (.sc _) (tc (.sc _) tn)))) mn) (fun s1 o1 hR hE1 => ?_) fun z2 hR => ?_
  · unfold slices_IndexFunc_change_Change_spykeep4_ChangeRowsSame_1.l1 at hR
    refine AWP.sq ?_
    refine AWP.rgC 4 rfl rfl ?_
    refine pu (v := .sc _) rfl rfl (fun _ => rfl) ?_
    refine RunC.fin ?_
    refine AWP.sq ?_
    refine AWP.cd hR rfl (fun h3 hR => ?_) fun h3 hR => ?_
    · refine AWP.skip ?_
      refine skT ?_
      refine AWP.sq ?_
      refine AWP.block ?_
      refine AWP.sq ?_
      refine AWP.rgC 12 rfl rfl ?_
      refine pu (v := .sc _) rfl rfl (fun _ => rfl) ?_
      refine pu (v := .sc _) rfl rfl (fun _ => rfl) ?_
      refine RunC.fin ?_
      refine AWP.sq ?_
      refine AWP.rgC 36 rfl rfl ?_
      refine pu (v := .fn _ _) rfl rfl (fun _ => rfl) ?_
      refine pu (v := rowV _ s) rfl rfl (fun _ => rfl) ?_
      refine pu (v := .sc _) rfl rfl (fun _ => rfl) ?_
      obtain ⟨h4, hR⟩ := chkE hR
      refine ixL (α := change_Change) rfl rfl rfl ti48 rfl ti55 rfl h4 ?_
      refine ldR (v := .agg _) rfl rfl ti55 rfl ?_
      obtain ⟨r5, hr5, hR⟩ := bindE hR
      refine cls [] rfl rfl cb13 (ok13 (gt s s1) _ hr5) (.cons (.agg (.cons (.sc _) (.cons (.sc _) (.cons (.sc _) (.nil)))) rfl) (.nil)) (.inr rfl) rfl ?_
      refine RunC.fin ?_
      refine AWP.cd hR rfl (fun h6 hR => ?_) fun h6 hR => ?_
      · refine AWP.sq ?_
        refine AWP.rgC 44 rfl rfl ?_
        refine pu (v := .sc _) rfl rfl (fun _ => rfl) ?_
        refine pu (v := .sc _) rfl rfl (fun _ => rfl) ?_
        refine RunC.fin ?_
        refine AWP.ret ?_
        refine rtB ?_
        refine rtT ?_
        refine rtT ?_
        refine rtB (rtT ?_)
        replace hR := escL hR hE1
        refine rtT ?_
        have hR := Option.some.inj hR; subst hR
        exact hQ _ _ (LS.mk [(4, .sc (.int .i64 s1))] (lblks 0 []) 0) (.sc (.int .i64 s1)) [] (.inr rfl) (Weak.turnL [] [] rfl rfl (tc (.sc _) tn) mn) (ro1 (rvT (v := .sc (.int .i64 s1)) rfl)) rfl rfl (.sc _) pn
      · refine AWP.skip ?_
        refine skB ?_
        refine skT ?_
        refine AWP.rgC 44 rfl rfl ?_
        refine pu (v := .sc _) rfl rfl (fun _ => rfl) ?_
        refine pu (v := .sc _) rfl rfl (fun _ => rfl) ?_
        refine RunC.fin ?_
        refine ⟨(w6 (s1 + 1)), (Option.some.inj hR).symm, ?_⟩
        exact Weak.turnL [] [] rfl rfl (tc trR1 (tc (.fn (.nil)) (tc (.sc _) (tc (.sc _) tn)))) mn
    · refine AWP.exit ?_
      refine exT ?_
      refine exT ?_
      refine exH (skT ?_)
      refine ⟨(), (Option.some.inj hR).symm, ?_⟩
      exact Weak.turnL [] [] rfl rfl tn mn
  · refine skT ?_
    refine AWP.sq ?_
    refine AWP.rgC 4 rfl rfl ?_
    refine pu (v := .sc _) rfl rfl (fun _ => rfl) ?_
    refine RunC.fin ?_
    refine AWP.ret ?_
    have hR := Option.some.inj hR; subst hR
    exact hQ _ _ (LS.mk [(4, .sc (.int .i64 (-1)))] (lblks 0 []) 0) (.sc (.int .i64 (-1))) [] (.inr rfl) (Weak.turnL [] [] rfl rfl (tc (.sc _) tn) mn) (ro1 (rvT (v := .sc (.int .i64 (-1))) rfl)) rfl rfl (.sc _) pn
theorem ok12 (s : List change_Change) (r : Bool) (hR : slices_ContainsFunc_change_Change_spykeep4_ChangeRowsSame_1 s = some r) : FnP Try.prog 12 [rowV false s, .fn (.func 13) []] (.sc (.bool r)) := by
  refine fnP_of (FnX.walk Try.func12 rfl 9 0 (by simp [Try.ntmps12]) rfl fun W S F Q hQ => ?_)
  unfold slices_ContainsFunc_change_Change_spykeep4_ChangeRowsSame_1 at hR
  refine AWP.sq ?_
  refine AWP.rgC 4 rfl rfl ?_
  refine pu (v := .sc _) rfl rfl (fun _ => rfl) ?_
  refine RunC.fin ?_
  refine AWP.sq ?_
  refine AWP.rgC 24 rfl rfl ?_
  refine pu (v := rowV _ s) rfl rfl (fun _ => rfl) ?_
  refine pu (v := .fn _ _) rfl rfl (fun _ => rfl) ?_
  obtain ⟨r1, hr1, hR⟩ := bindE hR
  refine cls [] rfl rfl cb26 (ok26 s _ hr1) (.cons ldR' (.cons (.fn (.nil)) (.nil))) (.inr rfl) rfl ?_
  refine pu (v := .sc _) rfl rfl (fun _ => rfl) ?_
  refine pu (v := .sc _) rfl rfl (fun _ => rfl) ?_
  refine RunC.fin ?_
  refine AWP.ret ?_
  have hR := Option.some.inj hR; subst hR
  exact hQ _ _ (LS.mk [(4, .sc (.bool (decide (r1 ≥ 0))))] (lblks 0 []) 0) (.sc (.bool (decide (r1 ≥ 0)))) [] (.inr rfl) (Weak.turnL [] [] rfl rfl (tc (.sc _) tn) mn) (ro1 (rvT (v := .sc (.bool (decide (r1 ≥ 0)))) rfl)) rfl rfl (.sc _) pn
theorem ok3 (l : List Int) (r : Bool) (hR : spykeep4_ChangeRowsSame l = some r) : FnP Try.prog 3 [rowV false l] (.sc (.bool r)) := by
  refine fnP_of (FnX.walk Try.func3 rfl 107 0 (by simp [Try.ntmps3]) rfl fun W S F Q hQ => ?_)
  unfold spykeep4_ChangeRowsSame at hR
  refine AWP.sq ?_
  refine AWP.rgC 4 rfl rfl ?_
  refine pu (v := .sc _) rfl rfl (fun _ => rfl) ?_
  refine RunC.fin ?_
  refine AWP.sq ?_
  refine AWP.rgC 20 rfl rfl ?_
  refine pu (v := rowV _ l) rfl rfl (fun _ => rfl) ?_
  refine bu (cs := [rowV (α := Int) false l, .sc (.int .i64 0)]) rfl bt25 rfl ?_
  refine bx (cs := _) 12 rfl rfl rfl ?_
  refine pu (v := .ptr _ _ _) rfl rfl (fun _ => rfl) ?_
  refine RunC.fin ?_
  refine AWP.sq ?_
  refine AWP.rgC 28 rfl rfl ?_
  refine pu (v := .sc _) rfl rfl (fun _ => rfl) ?_
  refine pu (v := .sc _) rfl rfl (fun _ => rfl) ?_
  refine RunC.fin ?_
  refine AWP.sq ?_
  refine AWP.rgC 40 rfl rfl ?_
  refine pu (v := .ptr _ _ _) rfl rfl (fun _ => rfl) ?_
  obtain ⟨r1, hr1, hR⟩ := bindE hR
  refine cps (res' := .sc (.int .i64 r1.1)) (ups := [(12, boxB (α := spymake_Stream) false r1.2)]) [12] 32 rfl rfl rfl cb4 (ok4 (spymake_Stream.mk l 0) 1 6 _ hr1) (.cons (ldP rfl rfl) (.cons (.sc _) (.cons (.sc _) (.nil)))) (pc rfl (.box (.cons ldR' (.cons (.sc _) (.nil))) rfl) pn) rfl rfl rfl rfl rfl (by first | rfl | exact renR | exact renA | exact renS | simp only [V.ren, V.rens, renR, renA, renS] | (simp only [V.ren, V.rens, renR, renA, renS]; rfl)) (by simp only [passUps, renBox, renArr]; rfl) ?_
  refine pu (v := .sc _) rfl rfl (fun _ => rfl) ?_
  refine RunC.fin ?_
  refine AWP.sq ?_
  refine AWP.rgC 64 rfl rfl ?_
  refine bs (α := Int) 40 true ([0, 5, 4000] : List Int) rfl rfl ti22 rfl ti3 rfl rfl rfl rfl rfl ?_
  refine pu (v := .ptr _ _ _) rfl rfl (fun _ => rfl) ?_
  obtain ⟨r2, hr2, hR⟩ := bindE hR
  refine cps (res' := .sc (.int .i64 r2.1)) (ups := [(12, boxB (α := spymake_Stream) false r2.2)]) [12] 48 rfl rfl rfl cb5 (ok5 r1.2 3 _ hr2) (.cons (ldP rfl rfl) (.cons (.sc _) (.nil))) (pc rfl (.box (.cons ldR' (.cons (.sc _) (.nil))) rfl) pn) rfl rfl rfl rfl rfl (by first | rfl | exact renR | exact renA | exact renS | simp only [V.ren, V.rens, renR, renA, renS] | (simp only [V.ren, V.rens, renR, renA, renS]; rfl)) (by simp only [passUps, renBox, renArr]; rfl) ?_
  obtain ⟨h3, hR⟩ := chkE hR
  refine ixS0 (α := Int) rfl rfl rfl ti22 rfl ti3 rfl h3 ?_
  refine ldE (α := Int) (v := .sc _) rfl rfl rfl (ixlt h3) ti3 rfl rfl rfl rfl ?_
  refine pu (v := .sc _) rfl rfl (fun _ => rfl) ?_
  refine RunC.fin ?_
  refine AWP.sq ?_
  refine AWP.sq ?_
  refine AWP.rgC 72 rfl rfl ?_
  refine pu (v := .sc _) rfl rfl (fun _ => rfl) ?_
  refine pu (v := .sc _) rfl rfl (fun _ => rfl) ?_
  refine RunC.fin ?_
  refine AWP.loopJ (fun s4 : spymake_Stream × (List Row) × (List Row) × Int => LS.mk [(3, .ptr 0 0 0), (4, rowV (α := Row) true s4.2.1), (5, rowV (α := Row) true s4.2.2.1), (6, .sc (.int .i64 r1.1)), (7, .sc (.int .i64 (gt ([0, 5, 4000] : List Int) r2.1))), (24, .sc (.int .i64 r1.1)), (25, .sc (.int .i64 s4.2.2.2))] (lblks 0 [boxB (α := spymake_Stream) false s4.1]) 1) (fun z5 : (List Row) × (List Row) => LS.mk [(4, rowV (α := Row) true z5.1), (5, rowV (α := Row) true z5.2), (6, .sc (.int .i64 r1.1))] (lblks 0 []) 0) (spykeep4_ChangeRowsSame.l1 r1 r2) hR (s0 := (r2.2, ([] : List Row), ([] : List Row), 0)) (Weak.turnL [(12, 0)] [] rfl rfl (tc (trP' rfl rfl rfl rfl) (tc trN (tc trN (tc (.sc _) (tc (.sc _) (tc (.sc _) (tc (.sc _) tn))))))) (mc rfl (.box rfl (.cons trR1 (.cons (.sc _) (.nil))) rfl) mn)) (fun s4 o4 hR => ?_) fun z5 hR => ?_
  · unfold spykeep4_ChangeRowsSame.l1 at hR
    refine AWP.sq ?_
    refine AWP.rgC 5 rfl rfl ?_
    refine pu (v := .sc _) rfl rfl (fun _ => rfl) ?_
    refine RunC.fin ?_
    refine AWP.sq ?_
    refine AWP.cd hR rfl (fun h6 hR => ?_) fun h6 hR => ?_
    · refine AWP.skip ?_
      refine skT ?_
      refine AWP.sq ?_
      refine AWP.block ?_
      refine AWP.sq ?_
      refine AWP.rgC 33 rfl rfl ?_
      refine pu (v := .ptr _ _ _) rfl rfl (fun _ => rfl) ?_
      obtain ⟨r7, hr7, hR⟩ := bindE hR
      refine cps (res' := aggV (α := Vec) true r7.1) (ups := [(0, boxB (α := spymake_Stream) false r7.2)]) [0] 9 rfl rfl rfl cb6 (ok6 s4.1 _ hr7) (.cons (ldP rfl rfl) (.nil)) (pc rfl (.box (.cons ldR' (.cons (.sc _) (.nil))) rfl) pn) rfl rfl rfl rfl rfl (by first | rfl | exact renR | exact renA | exact renS | simp only [V.ren, V.rens, renR, renA, renS] | (simp only [V.ren, V.rens, renR, renA, renS]; rfl)) (by simp only [passUps, renBox, renArr]; rfl) ?_
      refine pu (v := .ptr _ _ _) rfl rfl (fun _ => rfl) ?_
      obtain ⟨r8, hr8, hR⟩ := bindE hR
      refine cps (res' := .sc (.int .i64 r8.1)) (ups := [(0, boxB (α := spymake_Stream) false r8.2)]) [0] 17 rfl rfl rfl cb5 (ok5 r7.2 5000 _ hr8) (.cons (ldP rfl rfl) (.cons (.sc _) (.nil))) (pc rfl (.box (.cons ldR' (.cons (.sc _) (.nil))) rfl) pn) rfl rfl rfl rfl rfl (by first | rfl | exact renR | exact renA | exact renS | simp only [V.ren, V.rens, renR, renA, renS] | (simp only [V.ren, V.rens, renR, renA, renS]; rfl)) (by simp only [passUps, renBox, renArr]; rfl) ?_
      refine al (cs := [.sc (.int .i64 0), .sc (.int .i64 0), .sc (.int .i64 0)]) 21 rfl rfl ti30 rfl rfl ?_
      refine stB (cs' := [.sc (.int .i64 r7.1.X), .sc (.int .i64 r7.1.Y), .sc (.int .i64 r7.1.Z)]) rfl rfl rfl rfl ti30 rfl rfl rfl rfl rfl ?_
      refine pu (v := .sc _) rfl rfl (fun _ => rfl) ?_
      refine RunC.fin ?_
      refine AWP.sq ?_
      refine AWP.rgC 37 rfl rfl ?_
      refine pu (v := .sc _) rfl rfl (fun _ => rfl) ?_
      refine RunC.fin ?_
      refine AWP.loopJ (fun s9 : spymake_Stream × (List Row) × (List Row) × Int => LS.mk [(3, .ptr 0 0 0), (4, rowV (α := Row) true s9.2.1), (5, rowV (α := Row) true s9.2.2.1), (6, .sc (.int .i64 r1.1)), (7, .sc (.int .i64 (gt ([0, 5, 4000] : List Int) r2.1))), (8, .ptr 1 0 0), (9, .sc (.int .i64 r8.1)), (24, .sc (.int .i64 r1.1)), (25, .sc (.int .i64 s4.2.2.2)), (31, .sc (.int .i64 s9.2.2.2))] (lblks 0 [boxB (α := spymake_Stream) false s9.1, boxB (α := Vec) true r7.1]) 2) (fun z10 : spymake_Stream × (List Row) × (List Row) => LS.mk [(3, .ptr 0 0 0), (4, rowV (α := Row) true z10.2.1), (5, rowV (α := Row) true z10.2.2), (6, .sc (.int .i64 r1.1)), (7, .sc (.int .i64 (gt ([0, 5, 4000] : List Int) r2.1))), (24, .sc (.int .i64 r1.1)), (25, .sc (.int .i64 s4.2.2.2))] (lblks 0 [boxB (α := spymake_Stream) false z10.1]) 1) (spykeep4_ChangeRowsSame.l2 r2 r7 r8) hR (s0 := (r8.2, s4.2.1, s4.2.2.1, 0)) (Weak.turnL [(0, 0), (21, 0)] [] rfl rfl (tc (trP' rfl rfl rfl rfl) (tc trR1 (tc trR1 (tc (.sc _) (tc (.sc _) (tc (trP' rfl rfl rfl rfl) (tc (.sc _) (tc (.sc _) (tc (.sc _) (tc (.sc _) tn)))))))))) (mc rfl (.box rfl (.cons trR1 (.cons (.sc _) (.nil))) rfl) (mc rfl (.box rfl (.cons (.sc _) (.cons (.sc _) (.cons (.sc _) (.nil)))) rfl) mn))) (fun s9 o9 hR => ?_) fun z10 hR => ?_
      · unfold spykeep4_ChangeRowsSame.l2 at hR
        refine AWP.sq ?_
        refine AWP.rgC 6 rfl rfl ?_
        refine pu (v := .sc _) rfl rfl (fun _ => rfl) ?_
        refine RunC.fin ?_
        refine AWP.sq ?_
        refine AWP.cd hR rfl (fun h11 hR => ?_) fun h11 hR => ?_
        · refine AWP.skip ?_
          refine skT ?_
          refine AWP.sq ?_
          refine AWP.block ?_
          refine AWP.sq ?_
          refine AWP.rgC 50 rfl rfl ?_
          refine pu (v := .sc _) rfl rfl (fun _ => rfl) ?_
          refine pu (v := .ptr _ _ _) rfl rfl (fun _ => rfl) ?_
          obtain ⟨r12, hr12, hR⟩ := bindE hR
          refine cps (res' := .sc (.int .i64 r12.1)) (ups := [(0, boxB (α := spymake_Stream) false r12.2)]) [0] 14 rfl rfl rfl cb5 (ok5 s9.1 50 _ hr12) (.cons (ldP rfl rfl) (.cons (.sc _) (.nil))) (pc rfl (.box (.cons ldR' (.cons (.sc _) (.nil))) rfl) pn) rfl rfl rfl rfl rfl (by first | rfl | exact renR | exact renA | exact renS | simp only [V.ren, V.rens, renR, renA, renS] | (simp only [V.ren, V.rens, renR, renA, renS]; rfl)) (by simp only [passUps, renBox, renArr]; rfl) ?_
          refine pu (v := .sc _) rfl rfl (fun _ => rfl) ?_
          refine pu (v := .sc _) rfl rfl (fun _ => rfl) ?_
          refine pu (v := .ptr _ _ _) rfl rfl (fun _ => rfl) ?_
          obtain ⟨r13, hr13, hR⟩ := bindE hR
          refine cps (res' := .sc (.int .i64 r13.1)) (ups := [(0, boxB (α := spymake_Stream) false r13.2)]) [0] 30 rfl rfl rfl cb5 (ok5 r12.2 50 _ hr13) (.cons (ldP rfl rfl) (.cons (.sc _) (.nil))) (pc rfl (.box (.cons ldR' (.cons (.sc _) (.nil))) rfl) pn) rfl rfl rfl rfl rfl (by first | rfl | exact renR | exact renA | exact renS | simp only [V.ren, V.rens, renR, renA, renS] | (simp only [V.ren, V.rens, renR, renA, renS]; rfl)) (by simp only [passUps, renBox, renArr]; rfl) ?_
          refine pu (v := .sc _) rfl rfl (fun _ => rfl) ?_
          refine bu (cs := [.sc (.int .i64 (w6 (r8.1 - r12.1))), .sc (.int .i64 (w6 (r8.1 + r13.1))), .sc (.bool false)]) rfl bt34 rfl ?_
          refine al (cs := [.sc (.int .i64 0), .sc (.int .i64 0), .sc (.bool false)]) 42 rfl rfl ti34 rfl rfl ?_
          refine stB (cs' := [.sc (.int .i64 (w6 (r8.1 - r12.1))), .sc (.int .i64 (w6 (r8.1 + r13.1))), .sc (.bool false)]) rfl rfl rfl rfl ti34 rfl rfl rfl rfl rfl ?_
          refine RunC.fin ?_
          refine AWP.rgD 102 [0, 0, 2, 0, 0, 0, 62, 0, 254, 510, 1022, 2047, 4095] ⟨[2, 6], [none, none, some [], none, some [1], none, some [0], some [42], none, none, some [58, 86], none, none]⟩ hmix (by kernel_rfl) rfl rfl ?_
          refine pu (v := rowV _ s9.2.2.1) rfl rfl (fun _ => rfl) ?_
          refine pu (v := rowV _ s9.2.1) rfl rfl (fun _ => rfl) ?_
          obtain ⟨r14, hr14, hR⟩ := bindE hR
          refine cps (res' := slV Row 58 0 0 r14.length) (ups := [(58, arrB (α := Row) 45 0 true r14)]) [] 58 rfl rfl rfl cb7 (ok7_9 s9.2.1 _ hr14) (.cons ldR' (.nil)) pn rfl rfl rfl rfl rfl (by first | rfl | exact renR | exact renA | exact renS | simp only [V.ren, V.rens, renR, renA, renS] | (simp only [V.ren, V.rens, renR, renA, renS]; rfl)) (by simp only [passUps, renBox, renArr]; rfl) ?_
          refine pu (v := .ptr _ _ _) rfl rfl (fun _ => rfl) ?_
          refine ldB (v := .agg _) rfl rfl rfl rfl ti30 rfl rfl ?_
          refine pu (v := .sc _) rfl rfl (fun _ => rfl) ?_
          obtain ⟨r15, hr15, hR⟩ := bindE hR
          refine cps (res' := aggV (α := Box) true r15.1) (ups := [(0, boxB (α := spymake_Stream) false r15.2)]) [0] 74 rfl rfl rfl cb8 (ok8 r13.2 r7.1 (gt ([0, 5, 4000] : List Int) r2.1) _ hr15) (.cons (ldP rfl rfl) (.cons (.agg (.cons (.sc _) (.cons (.sc _) (.cons (.sc _) (.nil)))) rfl) (.cons (.sc _) (.nil)))) (pc rfl (.box (.cons ldR' (.cons (.sc _) (.nil))) rfl) pn) rfl rfl rfl rfl rfl (by first | rfl | exact renR | exact renA | exact renS | simp only [V.ren, V.rens, renR, renA, renS] | (simp only [V.ren, V.rens, renR, renA, renS]; rfl)) (by simp only [passUps, renBox, renArr]; rfl) ?_
          refine ldB (v := .agg _) rfl rfl rfl rfl ti34 rfl rfl ?_
          refine bu (cs := [.sc (.int .i64 0), .sc (.int .i64 r15.1.X.Lo), .sc (.int .i64 r15.1.X.Hi), .sc (.bool r15.1.X.Unknown), .sc (.int .i64 r15.1.Y.Lo), .sc (.int .i64 r15.1.Y.Hi), .sc (.bool r15.1.Y.Unknown), .sc (.int .i64 r15.1.Z.Lo), .sc (.int .i64 r15.1.Z.Hi), .sc (.bool r15.1.Z.Unknown), .sc (.int .i64 (w6 (r8.1 - r12.1))), .sc (.int .i64 (w6 (r8.1 + r13.1))), .sc (.bool false), .sc (.int .i64 0), .sc (.int .i64 0), .sc (.bool false), .sc (.slice none 0 0), .sc (.int .i64 0)]) rfl bt45 rfl ?_
          refine bs (α := Row) 86 true ([Row.mk 0 r15.1 (Bound.mk (w6 (r8.1 - r12.1)) (w6 (r8.1 + r13.1)) false) (Bound.mk 0 0 false) NilS.mk 0] : List Row) rfl rfl ti26 rfl ti45 rfl rfl rfl rfl rfl ?_
          obtain ⟨h16, hR⟩ := chkE hR
          refine ap' (α := Row) (nw := true) (xs := r14) (ys := ([Row.mk 0 r15.1 (Bound.mk (w6 (r8.1 - r12.1)) (w6 (r8.1 + r13.1)) false) (Bound.mk 0 0 false) NilS.mk 0] : List Row)) rfl rfl rfl rfl (srcS' rfl rfl rfl) ti26 rfl ti45 rfl h16 rfl ?_
          refine pu (v := rowV _ s9.2.2.1) rfl rfl (fun _ => rfl) ?_
          refine pu (v := slV Row _ _ _ _) rfl rfl (fun _ => rfl) ?_
          refine RunC.blk ?_
          refine RunC.fin ?_
          refine AWP.rgC 110 rfl rfl ?_
          refine pu (v := .sc _) rfl rfl (fun _ => rfl) ?_
          refine pu (v := .sc _) rfl rfl (fun _ => rfl) ?_
          refine RunC.fin ?_
          refine ⟨(r15.2, s9.2.2.1, r14 ++ ([Row.mk 0 r15.1 (Bound.mk (w6 (r8.1 - r12.1)) (w6 (r8.1 + r13.1)) false) (Bound.mk 0 0 false) NilS.mk 0] : List Row), w6 (s9.2.2.2 + 1)), (Option.some.inj hR).symm, ?_⟩
          exact Weak.turnL [(0, 0), (1, 0)] [58] rfl rfl (tc (trP' rfl rfl rfl rfl) (tc trR1 (tc (trF' rfl rfl id rfl) (tc (.sc _) (tc (.sc _) (tc (trP' rfl rfl rfl rfl) (tc (.sc _) (tc (.sc _) (tc (.sc _) (tc (.sc _) tn)))))))))) (mc rfl (.box rfl (.cons trR1 (.cons (.sc _) (.nil))) rfl) (mc rfl (.box rfl (.cons (.sc _) (.cons (.sc _) (.cons (.sc _) (.nil)))) rfl) mn))
        · refine AWP.exit ?_
          refine exT ?_
          refine exT ?_
          refine exH (skT ?_)
          refine ⟨(s9.1, s9.2.1, s9.2.2.1), (Option.some.inj hR).symm, ?_⟩
          exact Weak.turnL [(0, 0)] [] rfl rfl (tc (trP' rfl rfl rfl rfl) (tc trR1 (tc trR1 (tc (.sc _) (tc (.sc _) (tc (.sc _) (tc (.sc _) tn))))))) (mc rfl (.box rfl (.cons trR1 (.cons (.sc _) (.nil))) rfl) mn)
      · refine skB ?_
        refine skT ?_
        refine AWP.rgC 9 rfl rfl ?_
        refine pu (v := .sc _) rfl rfl (fun _ => rfl) ?_
        refine pu (v := .sc _) rfl rfl (fun _ => rfl) ?_
        refine RunC.fin ?_
        refine ⟨(z10.1, z10.2.1, z10.2.2, w6 (s4.2.2.2 + 1)), (Option.some.inj hR).symm, ?_⟩
        exact Weak.turnL [(0, 0)] [] rfl rfl (tc (trP' rfl rfl rfl rfl) (tc trR1 (tc trR1 (tc (.sc _) (tc (.sc _) (tc (.sc _) (tc (.sc _) tn))))))) (mc rfl (.box rfl (.cons trR1 (.cons (.sc _) (.nil))) rfl) mn)
    · refine AWP.exit ?_
      refine exT ?_
      refine exT ?_
      refine exH (skT ?_)
      refine ⟨(s4.2.1, s4.2.2.1), (Option.some.inj hR).symm, ?_⟩
      exact Weak.turnL [] [] rfl rfl (tc trR1 (tc trR1 (tc (.sc _) tn))) mn
  · refine skT ?_
    refine AWP.sq ?_
    refine AWP.sq ?_
    refine AWP.rgC 8 rfl rfl ?_
    refine pu (v := .sc _) rfl rfl (fun _ => rfl) ?_
    refine pu (v := .sc _) rfl rfl (fun _ => rfl) ?_
    refine RunC.fin ?_
    refine AWP.loopK' (fun s17 : Int => LS.mk [(4, rowV (α := Row) true z5.1), (5, rowV (α := Row) true z5.2), (6, .sc (.int .i64 r1.1)), (55, .sc (.int .i64 r1.1)), (56, .sc (.int .i64 s17))] (lblks 0 []) 0) (fun z18 : Unit => LS.mk [(4, rowV (α := Row) true z5.1), (5, rowV (α := Row) true z5.2), (6, .sc (.int .i64 r1.1))] (lblks 0 []) 0) (spykeep4_ChangeRowsSame.l3 r1 z5) hR (s0 := 0) (Weak.turnL [] [] rfl rfl (tc trR1 (tc trR1 (tc (.sc _) (tc (.sc _) (tc (.sc _) tn))))) mn) (fun s17 o17 hR hE17 => ?_) fun z18 hR => ?_
    · unfold spykeep4_ChangeRowsSame.l3 at hR
      refine AWP.sq ?_
      refine AWP.rgC 4 rfl rfl ?_
      refine pu (v := .sc _) rfl rfl (fun _ => rfl) ?_
      refine RunC.fin ?_
      refine AWP.sq ?_
      refine AWP.cd hR rfl (fun h19 hR => ?_) fun h19 hR => ?_
      · refine AWP.skip ?_
        refine skT ?_
        refine AWP.sq ?_
        refine AWP.block ?_
        refine AWP.sq ?_
        refine AWP.rgC 12 rfl rfl ?_
        refine pu (v := .sc _) rfl rfl (fun _ => rfl) ?_
        refine pu (v := .sc _) rfl rfl (fun _ => rfl) ?_
        refine RunC.fin ?_
        refine AWP.joinX (fun z20 : Bool => LS.mk [(4, rowV (α := Row) true z5.1), (5, rowV (α := Row) true z5.2), (6, .sc (.int .i64 r1.1)), (55, .sc (.int .i64 r1.1)), (56, .sc (.int .i64 s17)), (84, .sc (.bool z20))] (lblks 0 []) 0) hR (fun o20 hR => ?_) fun z20 hR => ?_
        · refine AWP.rgD 116 [0, 0, 3, 7, 15, 0, 0, 96, 224, 480, 1023, 2047, 4095, 8191, 8191, 32767, 65535, 131071, 8191, 8191, 794623, 1843199, 3940351, 8388607, 16777215, 33554431] ⟨[], [none, none, none, none, some [], none, none, none, none, some [], none, none, none, none, none, none, none, some [], none, none, none, none, some [], none, none, none]⟩ hmix (by kernel_rfl) rfl rfl ?_
          refine pu (v := rowV _ z5.1) rfl rfl (fun _ => rfl) ?_
          refine pu (v := .sc _) rfl rfl (fun _ => rfl) ?_
          obtain ⟨h21, hR⟩ := chkE hR
          refine ixL (α := Row) rfl rfl rfl ti26 rfl ti45 rfl h21 ?_
          refine fr rfl rfl ti45 rfl rfl ti40 rfl ?_
          refine ldR (v := .agg _) rfl rfl ti40 rfl ?_
          refine pu (v := rowV _ z5.2) rfl rfl (fun _ => rfl) ?_
          refine pu (v := .sc _) rfl rfl (fun _ => rfl) ?_
          obtain ⟨h22, hR⟩ := chkE hR
          refine ixL (α := Row) rfl rfl rfl ti26 rfl ti45 rfl h22 ?_
          refine fr rfl rfl ti45 rfl rfl ti40 rfl ?_
          refine ldR (v := .agg _) rfl rfl ti40 rfl ?_
          obtain ⟨r23, hr23, hR⟩ := bindE hR
          refine cls [] rfl rfl cb9 (ok9 (gt z5.1 s17).Box (gt z5.2 s17).Box _ hr23) (.cons (.agg (.cons (.sc _) (.cons (.sc _) (.cons (.sc _) (.cons (.sc _) (.cons (.sc _) (.cons (.sc _) (.cons (.sc _) (.cons (.sc _) (.cons (.sc _) (.nil)))))))))) rfl) (.cons (.agg (.cons (.sc _) (.cons (.sc _) (.cons (.sc _) (.cons (.sc _) (.cons (.sc _) (.cons (.sc _) (.cons (.sc _) (.cons (.sc _) (.cons (.sc _) (.nil)))))))))) rfl) (.nil))) (.inr rfl) rfl ?_
          refine pu (v := .sc _) rfl rfl (fun _ => rfl) ?_
          refine pu (v := .sc _) rfl rfl (fun _ => rfl) ?_
          refine brR hR (fun h24 hR => ?_) fun h24 hR => ?_
          · refine sk (skW rfl rfl rfl h24) ?_
            refine sk (skW rfl rfl rfl h24) ?_
            refine sk (skW rfl rfl rfl h24) ?_
            refine sk (skW rfl rfl rfl h24) ?_
            refine sk (skW rfl rfl rfl h24) ?_
            refine sk (skW rfl rfl rfl h24) ?_
            refine sk (skW rfl rfl rfl h24) ?_
            refine sk (skW rfl rfl rfl h24) ?_
            refine sk (skW rfl rfl rfl h24) ?_
            refine sk (skW rfl rfl rfl h24) ?_
            refine sk (skW rfl rfl rfl h24) ?_
            refine sk (skW rfl rfl rfl h24) ?_
            refine pkT (v := .sc (.bool true)) rfl rfl h24 rfl ?_
            refine RunC.fin ?_
            have hR := Option.some.inj hR; subst hR
            exact Weak.turnL [] [] rfl rfl (tc trR1 (tc trR1 (tc (.sc _) (tc (.sc _) (tc (.sc _) (tc (.sc _) tn)))))) mn
          · refine pu (v := rowV _ z5.2) (wtG rfl rfl rfl h24) rfl (fun _ => rfl) ?_
            refine pu (v := .sc _) (wtG rfl rfl rfl h24) rfl (fun _ => rfl) ?_
            refine ixL (α := Row) (wtG rfl rfl rfl h24) rfl rfl ti26 rfl ti45 rfl h22 ?_
            refine fr (wtG rfl rfl rfl h24) rfl ti45 rfl rfl ti40 rfl ?_
            refine ldR (v := .agg _) (wtG rfl rfl rfl h24) rfl ti40 rfl ?_
            refine pu (v := rowV _ z5.1) (wtG rfl rfl rfl h24) rfl (fun _ => rfl) ?_
            refine pu (v := .sc _) (wtG rfl rfl rfl h24) rfl (fun _ => rfl) ?_
            refine ixL (α := Row) (wtG rfl rfl rfl h24) rfl rfl ti26 rfl ti45 rfl h21 ?_
            refine fr (wtG rfl rfl rfl h24) rfl ti45 rfl rfl ti40 rfl ?_
            refine ldR (v := .agg _) (wtG rfl rfl rfl h24) rfl ti40 rfl ?_
            obtain ⟨r25, hr25, hR⟩ := bindE hR
            refine cls [] (wtG rfl rfl rfl h24) rfl cb9 (ok9 (gt z5.2 s17).Box (gt z5.1 s17).Box _ hr25) (.cons (.agg (.cons (.sc _) (.cons (.sc _) (.cons (.sc _) (.cons (.sc _) (.cons (.sc _) (.cons (.sc _) (.cons (.sc _) (.cons (.sc _) (.cons (.sc _) (.nil)))))))))) rfl) (.cons (.agg (.cons (.sc _) (.cons (.sc _) (.cons (.sc _) (.cons (.sc _) (.cons (.sc _) (.cons (.sc _) (.cons (.sc _) (.cons (.sc _) (.cons (.sc _) (.nil)))))))))) rfl) (.nil))) (.inr rfl) rfl ?_
            refine pu (v := .sc _) (wtG rfl rfl rfl h24) rfl (fun _ => rfl) ?_
            refine pkF (v := .sc (.bool (!r25))) rfl rfl h24 rfl ?_
            refine RunC.fin ?_
            have hR := Option.some.inj hR; subst hR
            exact Weak.turnL [] [] rfl rfl (tc trR1 (tc trR1 (tc (.sc _) (tc (.sc _) (tc (.sc _) (tc (.sc _) tn)))))) mn
        · refine AWP.cd hR rfl (fun h26 hR => ?_) fun h26 hR => ?_
          · refine AWP.sq ?_
            refine AWP.rgC 4 rfl rfl ?_
            refine pu (v := .sc _) rfl rfl (fun _ => rfl) ?_
            refine RunC.fin ?_
            refine AWP.ret ?_
            refine rtB ?_
            refine rtT ?_
            refine rtT ?_
            refine rtB (rtT ?_)
            replace hR := escL hR hE17
            refine rtT ?_
            have hR := Option.some.inj hR; subst hR
            exact hQ _ _ (LS.mk [(2, .sc (.bool false))] (lblks 0 []) 0) (.sc (.bool false)) [] (.inr rfl) (Weak.turnL [] [] rfl rfl (tc (.sc _) tn) mn) (ro1 (rvT (v := .sc (.bool false)) rfl)) rfl rfl (.sc _) pn
          · refine AWP.skip ?_
            refine skB ?_
            refine skT ?_
            refine AWP.rgC 8 rfl rfl ?_
            refine pu (v := .sc _) rfl rfl (fun _ => rfl) ?_
            refine pu (v := .sc _) rfl rfl (fun _ => rfl) ?_
            refine RunC.fin ?_
            refine ⟨(w6 (s17 + 1)), (Option.some.inj hR).symm, ?_⟩
            exact Weak.turnL [] [] rfl rfl (tc trR1 (tc trR1 (tc (.sc _) (tc (.sc _) (tc (.sc _) tn))))) mn
      · refine AWP.exit ?_
        refine exT ?_
        refine exT ?_
        refine exH (skT ?_)
        refine ⟨(), (Option.some.inj hR).symm, ?_⟩
        exact Weak.turnL [] [] rfl rfl (tc trR1 (tc trR1 (tc (.sc _) tn))) mn
    · refine skT ?_
      refine AWP.sq ?_
      refine AWP.rgC 32 rfl rfl ?_
      refine pu (v := rowV _ z5.1) rfl rfl (fun _ => rfl) ?_
      refine pu (v := rowV _ z5.2) rfl rfl (fun _ => rfl) ?_
      obtain ⟨r27, hr27, hR⟩ := bindE hR
      refine cls [] rfl rfl cb10 (ok10 z5.1 z5.2 _ hr27) (.cons ldR' (.cons ldR' (.nil))) (.inr rfl) rfl ?_
      refine pu (v := .tup _) rfl rfl (fun _ => rfl) ?_
      refine pu (v := rowV _ r27.1) rfl rfl (fun _ => rfl) ?_
      refine pu (v := .sc _) rfl rfl (fun _ => rfl) ?_
      refine pu (v := rowV _ r27.1) rfl rfl (fun _ => rfl) ?_
      refine pu (v := .sc _) rfl rfl (fun _ => rfl) ?_
      refine RunC.fin ?_
      refine AWP.sq ?_
      refine AWP.joinX (fun z28 : Bool => LS.mk [(12, rowV (α := change_Change) true r27.1), (103, .sc (.bool z28))] (lblks 0 []) 0) hR (fun o28 hR => ?_) fun z28 hR => ?_
      · refine AWP.rgC 80 rfl rfl ?_
        obtain ⟨r29, hr29, hR⟩ := bindE hR
        refine cls [] rfl rfl cb11 (ok11 _ hr29) (.nil) (.inr rfl) rfl ?_
        refine pu (v := .sc _) rfl rfl (fun _ => rfl) ?_
        refine pu (v := .sc _) rfl rfl (fun _ => rfl) ?_
        refine brR hR (fun h30 hR => ?_) fun h30 hR => ?_
        · refine sk (skW rfl rfl rfl h30) ?_
          refine sk (skW rfl rfl rfl h30) ?_
          refine pkT (v := .sc (.bool true)) rfl rfl h30 rfl ?_
          refine pu (v := .sc _) rfl rfl (fun _ => rfl) ?_
          refine sk (skW rfl rfl rfl rfl) ?_
          refine sk (skW rfl rfl rfl rfl) ?_
          refine sk (skW rfl rfl rfl rfl) ?_
          refine sk (skW rfl rfl rfl rfl) ?_
          refine pkT (v := .sc (.bool true)) rfl rfl rfl rfl ?_
          refine RunC.fin ?_
          have hR := Option.some.inj hR; subst hR
          exact Weak.turnL [] [] rfl rfl (tc trR1 (tc (.sc _) tn)) mn
        · refine pu (v := .sc _) (wtG rfl rfl rfl h30) rfl (fun _ => rfl) ?_
          refine pu (v := .sc _) (wtG rfl rfl rfl h30) rfl (fun _ => rfl) ?_
          refine pkF (v := .sc (.bool (r27.2 != 0))) rfl rfl h30 rfl ?_
          refine pu (v := .sc _) rfl rfl (fun _ => rfl) ?_
          refine brR hR (fun h31 hR => ?_) fun h31 hR => ?_
          · refine sk (skW rfl rfl rfl h31) ?_
            refine sk (skW rfl rfl rfl h31) ?_
            refine sk (skW rfl rfl rfl h31) ?_
            refine sk (skW rfl rfl rfl h31) ?_
            refine pkT (v := .sc (.bool true)) rfl rfl h31 rfl ?_
            refine RunC.fin ?_
            have hR := Option.some.inj hR; subst hR
            exact Weak.turnL [] [] rfl rfl (tc trR1 (tc (.sc _) tn)) mn
          · refine pu (v := rowV _ r27.1) (wtG rfl rfl rfl h31) rfl (fun _ => rfl) ?_
            refine lenL (α := change_Change) (wtG rfl rfl rfl h31) rfl ti48 rfl ?_
            refine pu (v := .sc _) (wtG rfl rfl rfl h31) rfl (fun _ => rfl) ?_
            refine pu (v := .sc _) (wtG rfl rfl rfl h31) rfl (fun _ => rfl) ?_
            refine pkF (v := .sc (.bool ((r27.1.length : Int) != r1.1))) rfl rfl h31 rfl ?_
            refine RunC.fin ?_
            have hR := Option.some.inj hR; subst hR
            exact Weak.turnL [] [] rfl rfl (tc trR1 (tc (.sc _) tn)) mn
      · refine AWP.cd hR rfl (fun h32 hR => ?_) fun h32 hR => ?_
        · refine AWP.sq ?_
          refine AWP.rgC 4 rfl rfl ?_
          refine pu (v := .sc _) rfl rfl (fun _ => rfl) ?_
          refine RunC.fin ?_
          refine AWP.ret ?_
          refine rtT ?_
          have hR := Option.some.inj hR; subst hR
          exact hQ _ _ (LS.mk [(2, .sc (.bool false))] (lblks 0 []) 0) (.sc (.bool false)) [] (.inr rfl) (Weak.turnL [] [] rfl rfl (tc (.sc _) tn) mn) (ro1 (rvT (v := .sc (.bool false)) rfl)) rfl rfl (.sc _) pn
        · refine AWP.skip ?_
          refine skT ?_
          refine AWP.sq ?_
          refine AWP.rgC 16 rfl rfl ?_
          refine pu (v := rowV _ r27.1) rfl rfl (fun _ => rfl) ?_
          obtain ⟨r33, hr33, hR⟩ := bindE hR
          refine cls [] rfl rfl cb12 (ok12 r27.1 _ hr33) (.cons ldR' (.cons (.fn (.nil)) (.nil))) (.inr rfl) rfl ?_
          refine pu (v := .sc _) rfl rfl (fun _ => rfl) ?_
          refine pu (v := .sc _) rfl rfl (fun _ => rfl) ?_
          refine RunC.fin ?_
          refine AWP.ret ?_
          have hR := Option.some.inj hR; subst hR
          exact hQ _ _ (LS.mk [(2, .sc (.bool (!r33)))] (lblks 0 []) 0) (.sc (.bool (!r33))) [] (.inr rfl) (Weak.turnL [] [] rfl rfl (tc (.sc _) tn) mn) (ro1 (rvT (v := .sc (.bool (!r33))) rfl)) rfl rfl (.sc _) pn
end Go.Proofs.Crs
