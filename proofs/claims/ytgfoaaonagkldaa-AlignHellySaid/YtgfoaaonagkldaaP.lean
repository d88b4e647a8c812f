/- Each function of the program computes its plain function. Conditions: as each theorem states them. -/
import Derived.Test.YtgfoaaonagkldaaT
namespace Go.Proofs.Ahl
open Go Go.Abs Lf
set_option linter.unusedVariables false
set_option linter.unusedSimpArgs false
set_option maxRecDepth 100000
set_option maxHeartbeats 1000000
theorem ok30 (s : List Int) (v : Int) (r : Int) (hR : slices_Index s v = some r) : FnP Try.prog 30 [rowV false s, .sc (.int .i64 v)] (.sc (.int .i64 r)) := by
  refine fnP_of (FnX.walk Try.func30 rfl 19 0 (by simp [Try.ntmps30]) rfl fun W S F Q hQ => ?_)
  unfold slices_Index at hR
  refine AWP.sq ?_
  refine AWP.rgC 4 rfl rfl ?_
  refine pu (v := .sc _) rfl rfl (fun _ => rfl) ?_
  refine RunC.fin ?_
  refine AWP.sq ?_
  refine AWP.sq ?_
  refine AWP.rgC 16 rfl rfl ?_
  refine pu (v := rowV _ s) rfl rfl (fun _ => rfl) ?_
  refine lenL (α := Int) rfl rfl ti22 rfl ?_
  refine pu (v := .sc _) rfl rfl (fun _ => rfl) ?_
  refine RunC.fin ?_
  refine AWP.loopK' (fun s1 : Int => LS.mk [(0, rowV (α := Int) false s), (1, .sc (.int .i64 v)), (7, .sc (.int .i64 (s.length : Int))), (8, .sc (.int .i64 s1))] (lblks 0 []) 0) (fun z2 : Unit => LS.mk [] (lblks 0 []) 0) (slices_Index.l1 s v) hR (s0 := 0) (Weak.turnL [] [] rfl rfl (tc trR1 (tc (.sc _) (tc (.sc _) (tc (.sc _) tn)))) mn) (fun s1 o1 hR hE1 => ?_) fun z2 hR => ?_
  · unfold slices_Index.l1 at hR
    refine AWP.sq ?_
    refine AWP.rgC 4 rfl rfl ?_
    refine pu (v := .sc _) rfl rfl (fun _ => rfl) ?_
    refine RunC.fin ?_
    refine AWP.sq ?_
    refine AWP.cd hR rfl (fun h3 hR => ?_) fun h3 hR => ?_
    · refine AWP.skip ?_
      refine skT ?_
      refine AWP.sq ?_
      refine AWP.block ?_
      refine AWP.sq ?_
      refine AWP.rgC 12 rfl rfl ?_
      refine pu (v := .sc _) rfl rfl (fun _ => rfl) ?_
      refine pu (v := .sc _) rfl rfl (fun _ => rfl) ?_
      refine RunC.fin ?_
      refine AWP.sq ?_
      refine AWP.rgC 36 rfl rfl ?_
      refine pu (v := .sc _) rfl rfl (fun _ => rfl) ?_
      refine pu (v := rowV _ s) rfl rfl (fun _ => rfl) ?_
      refine pu (v := .sc _) rfl rfl (fun _ => rfl) ?_
      obtain ⟨h4, hR⟩ := chkE hR
      refine ixL (α := Int) rfl rfl rfl ti22 rfl ti3 rfl h4 ?_
      refine ldR (v := .sc _) rfl rfl ti3 rfl ?_
      refine pu (v := .sc _) rfl rfl (fun _ => rfl) ?_
      refine RunC.fin ?_
      refine AWP.cd hR rfl (fun h5 hR => ?_) fun h5 hR => ?_
      · refine AWP.sq ?_
        refine AWP.rgC 44 rfl rfl ?_
        refine pu (v := .sc _) rfl rfl (fun _ => rfl) ?_
        refine pu (v := .sc _) rfl rfl (fun _ => rfl) ?_
        refine RunC.fin ?_
        refine AWP.ret ?_
        refine rtB ?_
        refine rtT ?_
        refine rtT ?_
        refine rtB (rtT ?_)
        replace hR := escL hR hE1
        refine rtT ?_
        have hR := Option.some.inj hR; subst hR
        exact hQ _ _ (LS.mk [(4, .sc (.int .i64 s1))] (lblks 0 []) 0) (.sc (.int .i64 s1)) [] (.inr rfl) (Weak.turnL [] [] rfl rfl (tc (.sc _) tn) mn) (ro1 (rvT (v := .sc (.int .i64 s1)) rfl)) rfl rfl (.sc _) pn
      · refine AWP.skip ?_
        refine skB ?_
        refine skT ?_
        refine AWP.rgC 44 rfl rfl ?_
        refine pu (v := .sc _) rfl rfl (fun _ => rfl) ?_
        refine pu (v := .sc _) rfl rfl (fun _ => rfl) ?_
        refine RunC.fin ?_
        refine ⟨(w6 (s1 + 1)), (Option.some.inj hR).symm, ?_⟩
        exact Weak.turnL [] [] rfl rfl (tc trR1 (tc (.sc _) (tc (.sc _) (tc (.sc _) tn)))) mn
    · refine AWP.exit ?_
      refine exT ?_
      refine exT ?_
      refine exH (skT ?_)
      refine ⟨(), (Option.some.inj hR).symm, ?_⟩
      exact Weak.turnL [] [] rfl rfl tn mn
  · refine skT ?_
    refine AWP.sq ?_
    refine AWP.rgC 4 rfl rfl ?_
    refine pu (v := .sc _) rfl rfl (fun _ => rfl) ?_
    refine RunC.fin ?_
    refine AWP.ret ?_
    have hR := Option.some.inj hR; subst hR
    exact hQ _ _ (LS.mk [(4, .sc (.int .i64 (-1)))] (lblks 0 []) 0) (.sc (.int .i64 (-1))) [] (.inr rfl) (Weak.turnL [] [] rfl rfl (tc (.sc _) tn) mn) (ro1 (rvT (v := .sc (.int .i64 (-1))) rfl)) rfl rfl (.sc _) pn
theorem ok24 (b : Bound) (r : Int) (hR : bound_Check b = some r) : FnP Try.prog 24 [aggV false b] (.sc (.int .i64 r)) := by
  refine fnP_of (FnX.walk Try.func24 rfl 37 0 (by simp [Try.ntmps24]) rfl fun W S F Q hQ => ?_)
  unfold bound_Check at hR
  refine AWP.sq ?_
  refine AWP.rgC 8 rfl rfl ?_
  refine bx (cs := _) 0 rfl rfl rfl ?_
  refine pu (v := .sc _) rfl rfl (fun _ => rfl) ?_
  refine RunC.fin ?_
  refine AWP.sq ?_
  refine AWP.block ?_
  refine AWP.joinX (fun z1 : Bool => LS.mk [(1, .ptr 0 0 0), (3, .sc (.bool z1))] (lblks 0 [boxB (α := Bound) true b]) 1) hR (fun o1 hR => ?_) fun z1 hR => ?_
  · refine AWP.rgC 60 rfl rfl ?_
    refine fa rfl rfl ti35 rfl rfl ti4 rfl ?_
    refine ldB (v := .sc _) rfl rfl rfl rfl ti4 rfl rfl ?_
    refine pu (v := .sc _) rfl rfl (fun _ => rfl) ?_
    refine brR hR (fun h2 hR => ?_) fun h2 hR => ?_
    · refine fa (wtG rfl rfl rfl h2) rfl ti35 rfl rfl ti33 rfl ?_
      refine ldB (v := .sc _) (wtG rfl rfl rfl h2) rfl rfl rfl ti33 rfl rfl ?_
      refine pu (v := .sc _) (wtG rfl rfl rfl h2) rfl (fun _ => rfl) ?_
      refine pu (v := .sc _) (wtG rfl rfl rfl h2) rfl (fun _ => rfl) ?_
      refine brR hR (fun h3 hR => ?_) fun h3 hR => ?_
      · refine sk (skW rfl rfl rfl h3) ?_
        refine sk (skW rfl rfl rfl h3) ?_
        refine sk (skW rfl rfl rfl h3) ?_
        refine pkT (v := .sc (.bool true)) (wtG rfl rfl rfl h2) rfl h3 rfl ?_
        refine pkT (v := .sc (.bool true)) rfl rfl h2 rfl ?_
        refine pu (v := .sc _) rfl rfl (fun _ => rfl) ?_
        refine RunC.fin ?_
        have hR := Option.some.inj hR; subst hR
        exact Weak.turnL [(0, 0)] [] rfl rfl (tc (trP' rfl rfl rfl rfl) (tc (.sc _) tn)) (mc rfl (.box rfl (.cons (.sc _) (.cons (.sc _) (.cons (.sc _) (.nil)))) rfl) mn)
      · refine fa (wtG rfl rfl rfl h3) rfl ti35 rfl rfl ti33 rfl ?_
        refine ldB (v := .sc _) (wtG rfl rfl rfl h3) rfl rfl rfl ti33 rfl rfl ?_
        refine pu (v := .sc _) (wtG rfl rfl rfl h3) rfl (fun _ => rfl) ?_
        refine pkF (v := .sc (.bool (b.Hi != 0))) (wtG rfl rfl rfl h2) rfl h3 rfl ?_
        refine pkT (v := .sc (.bool (b.Hi != 0))) rfl rfl h2 rfl ?_
        refine pu (v := .sc _) rfl rfl (fun _ => rfl) ?_
        refine RunC.fin ?_
        have hR := Option.some.inj hR; subst hR
        exact Weak.turnL [(0, 0)] [] rfl rfl (tc (trP' rfl rfl rfl rfl) (tc (.sc _) tn)) (mc rfl (.box rfl (.cons (.sc _) (.cons (.sc _) (.cons (.sc _) (.nil)))) rfl) mn)
    · refine sk (skW rfl rfl rfl h2) ?_
      refine sk (skW rfl rfl rfl h2) ?_
      refine sk (skW rfl rfl rfl h2) ?_
      refine sk (skW rfl rfl rfl h2) ?_
      refine sk (skW2 rfl rfl rfl) ?_
      refine sk (skW2 rfl rfl rfl) ?_
      refine sk (skW2 rfl rfl rfl) ?_
      refine sk (skW rfl rfl rfl h2) ?_
      refine pkF (v := .sc (.bool false)) rfl rfl h2 rfl ?_
      refine pu (v := .sc _) rfl rfl (fun _ => rfl) ?_
      refine RunC.fin ?_
      have hR := Option.some.inj hR; subst hR
      exact Weak.turnL [(0, 0)] [] rfl rfl (tc (trP' rfl rfl rfl rfl) (tc (.sc _) tn)) (mc rfl (.box rfl (.cons (.sc _) (.cons (.sc _) (.cons (.sc _) (.nil)))) rfl) mn)
  · refine AWP.cd hR rfl (fun h4 hR => ?_) fun h4 hR => ?_
    · refine AWP.sq ?_
      refine AWP.rgC 5 rfl rfl ?_
      refine pu (v := .sc _) rfl rfl (fun _ => rfl) ?_
      refine RunC.fin ?_
      refine AWP.ret ?_
      refine rtB ?_
      refine rtT ?_
      have hR := Option.some.inj hR; subst hR
      exact hQ _ _ (LS.mk [(2, .sc (.int .i64 3))] (lblks 0 []) 0) (.sc (.int .i64 3)) [] (.inr rfl) (Weak.turnL [] [] rfl rfl (tc (.sc _) tn) mn) (ro1 (rvT (v := .sc (.int .i64 3)) rfl)) rfl rfl (.sc _) pn
    · refine AWP.joinX (fun z5 : Bool => LS.mk [(1, .ptr 0 0 0), (16, .sc (.bool z5))] (lblks 0 [boxB (α := Bound) true b]) 1) hR (fun o5 hR => ?_) fun z5 hR => ?_
      · refine AWP.rgC 61 rfl rfl ?_
        refine fa rfl rfl ti35 rfl rfl ti33 rfl ?_
        refine ldB (v := .sc _) rfl rfl rfl rfl ti33 rfl rfl ?_
        refine fa rfl rfl ti35 rfl rfl ti33 rfl ?_
        refine ldB (v := .sc _) rfl rfl rfl rfl ti33 rfl rfl ?_
        refine pu (v := .sc _) rfl rfl (fun _ => rfl) ?_
        refine pu (v := .sc _) rfl rfl (fun _ => rfl) ?_
        refine pu (v := .sc _) rfl rfl (fun _ => rfl) ?_
        refine brR hR (fun h6 hR => ?_) fun h6 hR => ?_
        · refine sk (skW rfl rfl rfl h6) ?_
          refine sk (skW rfl rfl rfl h6) ?_
          refine sk (skW rfl rfl rfl h6) ?_
          refine sk (skW rfl rfl rfl h6) ?_
          refine sk (skW rfl rfl rfl h6) ?_
          refine sk (skW rfl rfl rfl h6) ?_
          refine pkT (v := .sc (.bool true)) rfl rfl h6 rfl ?_
          refine pu (v := .sc _) rfl rfl (fun _ => rfl) ?_
          refine RunC.fin ?_
          have hR := Option.some.inj hR; subst hR
          exact Weak.turnL [(0, 0)] [] rfl rfl (tc (trP' rfl rfl rfl rfl) (tc (.sc _) tn)) (mc rfl (.box rfl (.cons (.sc _) (.cons (.sc _) (.cons (.sc _) (.nil)))) rfl) mn)
        · refine fa (wtG rfl rfl rfl h6) rfl ti35 rfl rfl ti33 rfl ?_
          refine ldB (v := .sc _) (wtG rfl rfl rfl h6) rfl rfl rfl ti33 rfl rfl ?_
          refine fa (wtG rfl rfl rfl h6) rfl ti35 rfl rfl ti33 rfl ?_
          refine ldB (v := .sc _) (wtG rfl rfl rfl h6) rfl rfl rfl ti33 rfl rfl ?_
          refine pu (v := .sc _) (wtG rfl rfl rfl h6) rfl (fun _ => rfl) ?_
          refine pu (v := .sc _) (wtG rfl rfl rfl h6) rfl (fun _ => rfl) ?_
          refine pkF (v := .sc (.bool (decide ((mx2 b.Lo b.Hi) > 1152921504606846976)))) rfl rfl h6 rfl ?_
          refine pu (v := .sc _) rfl rfl (fun _ => rfl) ?_
          refine RunC.fin ?_
          have hR := Option.some.inj hR; subst hR
          exact Weak.turnL [(0, 0)] [] rfl rfl (tc (trP' rfl rfl rfl rfl) (tc (.sc _) tn)) (mc rfl (.box rfl (.cons (.sc _) (.cons (.sc _) (.cons (.sc _) (.nil)))) rfl) mn)
      · refine AWP.cd hR rfl (fun h7 hR => ?_) fun h7 hR => ?_
        · refine AWP.sq ?_
          refine AWP.rgC 5 rfl rfl ?_
          refine pu (v := .sc _) rfl rfl (fun _ => rfl) ?_
          refine RunC.fin ?_
          refine AWP.ret ?_
          refine rtB ?_
          refine rtT ?_
          have hR := Option.some.inj hR; subst hR
          exact hQ _ _ (LS.mk [(2, .sc (.int .i64 4))] (lblks 0 []) 0) (.sc (.int .i64 4)) [] (.inr rfl) (Weak.turnL [] [] rfl rfl (tc (.sc _) tn) mn) (ro1 (rvT (v := .sc (.int .i64 4)) rfl)) rfl rfl (.sc _) pn
        · refine AWP.sq ?_
          refine AWP.rgC 25 rfl rfl ?_
          refine fa rfl rfl ti35 rfl rfl ti33 rfl ?_
          refine ldB (v := .sc _) rfl rfl rfl rfl ti33 rfl rfl ?_
          refine fa rfl rfl ti35 rfl rfl ti33 rfl ?_
          refine ldB (v := .sc _) rfl rfl rfl rfl ti33 rfl rfl ?_
          refine pu (v := .sc _) rfl rfl (fun _ => rfl) ?_
          refine pu (v := .sc _) rfl rfl (fun _ => rfl) ?_
          refine RunC.fin ?_
          refine AWP.cd hR rfl (fun h8 hR => ?_) fun h8 hR => ?_
          · refine AWP.sq ?_
            refine AWP.rgC 29 rfl rfl ?_
            refine pu (v := .sc _) rfl rfl (fun _ => rfl) ?_
            refine RunC.fin ?_
            refine AWP.ret ?_
            refine rtB ?_
            refine rtT ?_
            have hR := Option.some.inj hR; subst hR
            exact hQ _ _ (LS.mk [(2, .sc (.int .i64 11))] (lblks 0 []) 0) (.sc (.int .i64 11)) [] (.inr rfl) (Weak.turnL [] [] rfl rfl (tc (.sc _) tn) mn) (ro1 (rvT (v := .sc (.int .i64 11)) rfl)) rfl rfl (.sc _) pn
          · refine AWP.skip ?_
            refine skB ?_
            refine skT ?_
            refine AWP.sq ?_
            refine AWP.rgC 29 rfl rfl ?_
            refine pu (v := .sc _) rfl rfl (fun _ => rfl) ?_
            refine RunC.fin ?_
            refine AWP.ret ?_
            have hR := Option.some.inj hR; subst hR
            exact hQ _ _ (LS.mk [(2, .sc (.int .i64 0))] (lblks 0 []) 0) (.sc (.int .i64 0)) [] (.inr rfl) (Weak.turnL [] [] rfl rfl (tc (.sc _) tn) mn) (ro1 (rvT (v := .sc (.int .i64 0)) rfl)) rfl rfl (.sc _) pn
theorem ok13 (r : Bound) (hR : bound_None = some r) : FnP Try.prog 13 [] (aggV (α := Bound) true r) := by
  refine fnP_of (FnX.walk Try.func13 rfl 2 0 (by simp [Try.ntmps13]) rfl fun W S F Q hQ => ?_)
  unfold bound_None at hR
  refine AWP.sq ?_
  refine AWP.rgC 4 rfl rfl ?_
  refine al (cs := [.sc (.int .i64 0), .sc (.int .i64 0), .sc (.bool false)]) 0 rfl rfl ti35 rfl rfl ?_
  refine RunC.fin ?_
  refine AWP.sq ?_
  refine AWP.rgC 12 rfl rfl ?_
  refine bu (cs := [.sc (.int .i64 0), .sc (.int .i64 0), .sc (.bool true)]) rfl bt35 rfl ?_
  refine stB (cs' := [.sc (.int .i64 0), .sc (.int .i64 0), .sc (.bool true)]) rfl rfl rfl rfl ti35 rfl rfl rfl rfl rfl ?_
  refine RunC.fin ?_
  refine AWP.ret ?_
  have hR := Option.some.inj hR; subst hR
  exact hQ _ _ (LS.mk [(0, .ptr 0 0 0)] (lblks 0 [boxB (α := Bound) true (Bound.mk 0 0 true)]) 1) (aggV (α := Bound) true (Bound.mk 0 0 true)) [] (.inr rfl) (Weak.turnL [(0, 0)] [] rfl rfl (tc (trP' rfl rfl rfl rfl) tn) (mc rfl (.box rfl (.cons (.sc _) (.cons (.sc _) (.cons (.sc _) (.nil)))) rfl) mn)) (ro1 (rvC (v := aggV (α := Bound) true (Bound.mk 0 0 true)) rfl rfl ti35 rfl)) rfl rfl ldA pn
theorem ok20 (b : Bound) (r : Bound) (hR : bound_Norm b = some r) : FnP Try.prog 20 [aggV false b] (aggV (α := Bound) true r) := by
  refine fnP_of (FnX.walk Try.func20 rfl 8 0 (by simp [Try.ntmps20]) rfl fun W S F Q hQ => ?_)
  unfold bound_Norm at hR
  refine AWP.sq ?_
  refine AWP.rgC 8 rfl rfl ?_
  refine bx (cs := _) 0 rfl rfl rfl ?_
  refine al (cs := [.sc (.int .i64 0), .sc (.int .i64 0), .sc (.bool false)]) 4 rfl rfl ti35 rfl rfl ?_
  refine RunC.fin ?_
  refine AWP.sq ?_
  refine AWP.sq ?_
  refine AWP.rgC 20 rfl rfl ?_
  refine ldB (v := .agg _) rfl rfl rfl rfl ti35 rfl rfl ?_
  obtain ⟨r1, hr1, hR⟩ := bindE hR
  refine cls [] rfl rfl cb24 (ok24 b _ hr1) (.cons (.agg (.cons (.sc _) (.cons (.sc _) (.cons (.sc _) (.nil)))) rfl) (.nil)) (.inr rfl) rfl ?_
  refine pu (v := .sc _) rfl rfl (fun _ => rfl) ?_
  refine RunC.fin ?_
  refine AWP.cd hR rfl (fun h2 hR => ?_) fun h2 hR => ?_
  · refine AWP.sq ?_
    refine AWP.rgC 28 rfl rfl ?_
    obtain ⟨r3, hr3, hR⟩ := bindE hR
    refine cls [] rfl rfl cb13 (ok13 _ hr3) (.nil) (.inr rfl) rfl ?_
    refine stB (cs' := [.sc (.int .i64 r3.Lo), .sc (.int .i64 r3.Hi), .sc (.bool r3.Unknown)]) rfl rfl rfl rfl ti35 rfl rfl rfl rfl rfl ?_
    refine RunC.fin ?_
    refine AWP.ret ?_
    refine rtT ?_
    have hR := Option.some.inj hR; subst hR
    exact hQ _ _ (LS.mk [(2, .ptr 0 0 0)] (lblks 0 [boxB (α := Bound) true r3]) 1) (aggV (α := Bound) true r3) [] (.inr rfl) (Weak.turnL [(4, 0)] [] rfl rfl (tc (trP' rfl rfl rfl rfl) tn) (mc rfl (.box rfl (.cons (.sc _) (.cons (.sc _) (.cons (.sc _) (.nil)))) rfl) mn)) (ro1 (rvC (v := aggV (α := Bound) true r3) rfl rfl ti35 rfl)) rfl rfl ldA pn
  · refine AWP.skip ?_
    refine skT ?_
    refine AWP.sq ?_
    refine AWP.rgC 28 rfl rfl ?_
    refine ldB (v := .agg _) rfl rfl rfl rfl ti35 rfl rfl ?_
    refine stB (cs' := [.sc (.int .i64 b.Lo), .sc (.int .i64 b.Hi), .sc (.bool b.Unknown)]) rfl rfl rfl rfl ti35 rfl rfl rfl rfl rfl ?_
    refine RunC.fin ?_
    refine AWP.ret ?_
    have hR := Option.some.inj hR; subst hR
    exact hQ _ _ (LS.mk [(2, .ptr 0 0 0)] (lblks 0 [boxB (α := Bound) true b]) 1) (aggV (α := Bound) true b) [] (.inr rfl) (Weak.turnL [(4, 0)] [] rfl rfl (tc (trP' rfl rfl rfl rfl) tn) (mc rfl (.box rfl (.cons (.sc _) (.cons (.sc _) (.cons (.sc _) (.nil)))) rfl) mn)) (ro1 (rvC (v := aggV (α := Bound) true b) rfl rfl ti35 rfl)) rfl rfl ldA pn
theorem ok29 (a : Bound) (b : Bound) (r : Bool) (hR : bound_vague a b = some r) : FnP Try.prog 29 [aggV false a, aggV false b] (.sc (.bool r)) := by
  refine fnP_of (FnX.walk Try.func29 rfl 13 0 (by simp [Try.ntmps29]) rfl fun W S F Q hQ => ?_)
  unfold bound_vague at hR
  refine AWP.sq ?_
  refine AWP.rgC 12 rfl rfl ?_
  refine bx (cs := _) 0 rfl rfl rfl ?_
  refine bx (cs := _) 4 rfl rfl rfl ?_
  refine pu (v := .sc _) rfl rfl (fun _ => rfl) ?_
  refine RunC.fin ?_
  refine AWP.joinX (fun z1 : Bool => LS.mk [(4, .sc (.bool z1))] (lblks 0 []) 0) hR (fun o1 hR => ?_) fun z1 hR => ?_
  · refine AWP.rgC 48 rfl rfl ?_
    refine ldB (v := .agg _) rfl rfl rfl rfl ti35 rfl rfl ?_
    obtain ⟨r2, hr2, hR⟩ := bindE hR
    refine cls [] rfl rfl cb20 (ok20 a _ hr2) (.cons (.agg (.cons (.sc _) (.cons (.sc _) (.cons (.sc _) (.nil)))) rfl) (.nil)) (.inr rfl) rfl ?_
    refine fi (v := .sc _) rfl rfl ti35 rfl rfl ti4 rfl ?_
    refine pu (v := .sc _) rfl rfl (fun _ => rfl) ?_
    refine brR hR (fun h3 hR => ?_) fun h3 hR => ?_
    · refine sk (skW rfl rfl rfl h3) ?_
      refine sk (skW rfl rfl rfl h3) ?_
      refine sk (skW rfl rfl rfl h3) ?_
      refine pkT (v := .sc (.bool true)) rfl rfl h3 rfl ?_
      refine pu (v := .sc _) rfl rfl (fun _ => rfl) ?_
      refine RunC.fin ?_
      have hR := Option.some.inj hR; subst hR
      exact Weak.turnL [] [] rfl rfl (tc (.sc _) tn) mn
    · refine ldB (v := .agg _) (wtG rfl rfl rfl h3) rfl rfl rfl ti35 rfl rfl ?_
      obtain ⟨r4, hr4, hR⟩ := bindE hR
      refine cls [] (wtG rfl rfl rfl h3) rfl cb20 (ok20 b _ hr4) (.cons (.agg (.cons (.sc _) (.cons (.sc _) (.cons (.sc _) (.nil)))) rfl) (.nil)) (.inr rfl) rfl ?_
      refine fi (v := .sc _) (wtG rfl rfl rfl h3) rfl ti35 rfl rfl ti4 rfl ?_
      refine pkF (v := .sc (.bool r4.Unknown)) rfl rfl h3 rfl ?_
      refine pu (v := .sc _) rfl rfl (fun _ => rfl) ?_
      refine RunC.fin ?_
      have hR := Option.some.inj hR; subst hR
      exact Weak.turnL [] [] rfl rfl (tc (.sc _) tn) mn
  · refine AWP.ret ?_
    have hR := Option.some.inj hR; subst hR
    exact hQ _ _ (LS.mk [(4, .sc (.bool z1))] (lblks 0 []) 0) (.sc (.bool z1)) [] (.inr rfl) (Weak.turnL [] [] rfl rfl (tc (.sc _) tn) mn) (ro1 (rvT (v := .sc (.bool z1)) rfl)) rfl rfl (.sc _) pn
theorem ok28 (s : List Int) (v : Int) (r : Bool) (hR : slices_Contains s v = some r) : FnP Try.prog 28 [rowV false s, .sc (.int .i64 v)] (.sc (.bool r)) := by
  refine fnP_of (FnX.walk Try.func28 rfl 9 0 (by simp [Try.ntmps28]) rfl fun W S F Q hQ => ?_)
  unfold slices_Contains at hR
  refine AWP.sq ?_
  refine AWP.rgC 4 rfl rfl ?_
  refine pu (v := .sc _) rfl rfl (fun _ => rfl) ?_
  refine RunC.fin ?_
  refine AWP.sq ?_
  refine AWP.rgC 24 rfl rfl ?_
  refine pu (v := rowV _ s) rfl rfl (fun _ => rfl) ?_
  refine pu (v := .sc _) rfl rfl (fun _ => rfl) ?_
  obtain ⟨r1, hr1, hR⟩ := bindE hR
  refine cls [] rfl rfl cb30 (ok30 s v _ hr1) (.cons ldR' (.cons (.sc _) (.nil))) (.inr rfl) rfl ?_
  refine pu (v := .sc _) rfl rfl (fun _ => rfl) ?_
  refine pu (v := .sc _) rfl rfl (fun _ => rfl) ?_
  refine RunC.fin ?_
  refine AWP.ret ?_
  have hR := Option.some.inj hR; subst hR
  exact hQ _ _ (LS.mk [(4, .sc (.bool (decide (r1 ≥ 0))))] (lblks 0 []) 0) (.sc (.bool (decide (r1 ≥ 0)))) [] (.inr rfl) (Weak.turnL [] [] rfl rfl (tc (.sc _) tn) mn) (ro1 (rvT (v := .sc (.bool (decide (r1 ≥ 0)))) rfl)) rfl rfl (.sc _) pn
theorem ok27 (b : Bound) (v : Int) (r : Bool) (hR : bound_Has b v = some r) : FnP Try.prog 27 [aggV false b, .sc (.int .i64 v)] (.sc (.bool r)) := by
  refine fnP_of (FnX.walk Try.func27 rfl 20 0 (by simp [Try.ntmps27]) rfl fun W S F Q hQ => ?_)
  unfold bound_Has at hR
  refine AWP.sq ?_
  refine AWP.rgC 8 rfl rfl ?_
  refine bx (cs := _) 0 rfl rfl rfl ?_
  refine pu (v := .sc _) rfl rfl (fun _ => rfl) ?_
  refine RunC.fin ?_
  refine AWP.joinX (fun z1 : Bool => LS.mk [(4, .sc (.bool z1))] (lblks 0 []) 0) hR (fun o1 hR => ?_) fun z1 hR => ?_
  · refine AWP.rgC 72 rfl rfl ?_
    refine ldB (v := .agg _) rfl rfl rfl rfl ti35 rfl rfl ?_
    refine ldB (v := .agg _) rfl rfl rfl rfl ti35 rfl rfl ?_
    obtain ⟨r2, hr2, hR⟩ := bindE hR
    refine cls [] rfl rfl cb29 (ok29 b b _ hr2) (.cons (.agg (.cons (.sc _) (.cons (.sc _) (.cons (.sc _) (.nil)))) rfl) (.cons (.agg (.cons (.sc _) (.cons (.sc _) (.cons (.sc _) (.nil)))) rfl) (.nil))) (.inr rfl) rfl ?_
    refine pu (v := .sc _) rfl rfl (fun _ => rfl) ?_
    refine brR hR (fun h3 hR => ?_) fun h3 hR => ?_
    · refine sk (skW rfl rfl rfl h3) ?_
      refine sk (skW rfl rfl rfl h3) ?_
      refine sk (skW rfl rfl rfl h3) ?_
      refine sk (skW rfl rfl rfl h3) ?_
      refine sk (skW rfl rfl rfl h3) ?_
      refine sk (skW2 rfl rfl rfl) ?_
      refine sk (skW2 rfl rfl rfl) ?_
      refine sk (skW2 rfl rfl rfl) ?_
      refine sk (skW2 rfl rfl rfl) ?_
      refine sk (skW rfl rfl rfl h3) ?_
      refine pkT (v := .sc (.bool true)) rfl rfl h3 rfl ?_
      refine pu (v := .sc _) rfl rfl (fun _ => rfl) ?_
      refine RunC.fin ?_
      have hR := Option.some.inj hR; subst hR
      exact Weak.turnL [] [] rfl rfl (tc (.sc _) tn) mn
    · refine fa (wtG rfl rfl rfl h3) rfl ti35 rfl rfl ti33 rfl ?_
      refine ldB (v := .sc _) (wtG rfl rfl rfl h3) rfl rfl rfl ti33 rfl rfl ?_
      refine pu (v := .sc _) (wtG rfl rfl rfl h3) rfl (fun _ => rfl) ?_
      refine pu (v := .sc _) (wtG rfl rfl rfl h3) rfl (fun _ => rfl) ?_
      refine pu (v := .sc _) (wtG rfl rfl rfl h3) rfl (fun _ => rfl) ?_
      refine brR hR (fun h4 hR => ?_) fun h4 hR => ?_
      · refine pu (v := .sc _) (wtG rfl rfl rfl h4) rfl (fun _ => rfl) ?_
        refine fa (wtG rfl rfl rfl h4) rfl ti35 rfl rfl ti33 rfl ?_
        refine ldB (v := .sc _) (wtG rfl rfl rfl h4) rfl rfl rfl ti33 rfl rfl ?_
        refine pu (v := .sc _) (wtG rfl rfl rfl h4) rfl (fun _ => rfl) ?_
        refine pkT (v := .sc (.bool (decide (v ≤ b.Hi)))) (wtG rfl rfl rfl h3) rfl h4 rfl ?_
        refine pkF (v := .sc (.bool (decide (v ≤ b.Hi)))) rfl rfl h3 rfl ?_
        refine pu (v := .sc _) rfl rfl (fun _ => rfl) ?_
        refine RunC.fin ?_
        have hR := Option.some.inj hR; subst hR
        exact Weak.turnL [] [] rfl rfl (tc (.sc _) tn) mn
      · refine sk (skW rfl rfl rfl h4) ?_
        refine sk (skW rfl rfl rfl h4) ?_
        refine sk (skW rfl rfl rfl h4) ?_
        refine sk (skW rfl rfl rfl h4) ?_
        refine pkF (v := .sc (.bool false)) (wtG rfl rfl rfl h3) rfl h4 rfl ?_
        refine pkF (v := .sc (.bool false)) rfl rfl h3 rfl ?_
        refine pu (v := .sc _) rfl rfl (fun _ => rfl) ?_
        refine RunC.fin ?_
        have hR := Option.some.inj hR; subst hR
        exact Weak.turnL [] [] rfl rfl (tc (.sc _) tn) mn
  · refine AWP.ret ?_
    have hR := Option.some.inj hR; subst hR
    exact hQ _ _ (LS.mk [(4, .sc (.bool z1))] (lblks 0 []) 0) (.sc (.bool z1)) [] (.inr rfl) (Weak.turnL [] [] rfl rfl (tc (.sc _) tn) mn) (ro1 (rvT (v := .sc (.bool z1)) rfl)) rfl rfl (.sc _) pn
theorem ok21 (lo : Int) (hi : Int) (r : Bound) (hR : bound_Of lo hi = some r) : FnP Try.prog 21 [.sc (.int .i64 lo), .sc (.int .i64 hi)] (aggV (α := Bound) true r) := by
  refine fnP_of (FnX.walk Try.func21 rfl 9 0 (by simp [Try.ntmps21]) rfl fun W S F Q hQ => ?_)
  unfold bound_Of at hR
  refine AWP.sq ?_
  refine AWP.rgC 4 rfl rfl ?_
  refine al (cs := [.sc (.int .i64 0), .sc (.int .i64 0), .sc (.bool false)]) 0 rfl rfl ti35 rfl rfl ?_
  refine RunC.fin ?_
  refine AWP.sq ?_
  refine AWP.rgC 24 rfl rfl ?_
  refine pu (v := .sc _) rfl rfl (fun _ => rfl) ?_
  refine pu (v := .sc _) rfl rfl (fun _ => rfl) ?_
  refine bu (cs := [.sc (.int .i64 lo), .sc (.int .i64 hi), .sc (.bool false)]) rfl bt35 rfl ?_
  obtain ⟨r1, hr1, hR⟩ := bindE hR
  refine cls [] rfl rfl cb20 (ok20 (Bound.mk lo hi false) _ hr1) (.cons (.agg (.cons (.sc _) (.cons (.sc _) (.cons (.sc _) (.nil)))) rfl) (.nil)) (.inr rfl) rfl ?_
  refine stB (cs' := [.sc (.int .i64 r1.Lo), .sc (.int .i64 r1.Hi), .sc (.bool r1.Unknown)]) rfl rfl rfl rfl ti35 rfl rfl rfl rfl rfl ?_
  refine RunC.fin ?_
  refine AWP.ret ?_
  have hR := Option.some.inj hR; subst hR
  exact hQ _ _ (LS.mk [(4, .ptr 0 0 0)] (lblks 0 [boxB (α := Bound) true r1]) 1) (aggV (α := Bound) true r1) [] (.inr rfl) (Weak.turnL [(0, 0)] [] rfl rfl (tc (trP' rfl rfl rfl rfl) tn) (mc rfl (.box rfl (.cons (.sc _) (.cons (.sc _) (.cons (.sc _) (.nil)))) rfl) mn)) (ro1 (rvC (v := aggV (α := Bound) true r1) rfl rfl ti35 rfl)) rfl rfl ldA pn
theorem ok25 (a : Bound) (b : Bound) (r : Bound) (hR : bound_Add a b = some r) : FnP Try.prog 25 [aggV false a, aggV false b] (aggV (α := Bound) true r) := by
  refine fnP_of (FnX.walk Try.func25 rfl 20 0 (by simp [Try.ntmps25]) rfl fun W S F Q hQ => ?_)
  unfold bound_Add at hR
  refine AWP.sq ?_
  refine AWP.rgC 12 rfl rfl ?_
  refine bx (cs := _) 0 rfl rfl rfl ?_
  refine bx (cs := _) 4 rfl rfl rfl ?_
  refine al (cs := [.sc (.int .i64 0), .sc (.int .i64 0), .sc (.bool false)]) 8 rfl rfl ti35 rfl rfl ?_
  refine RunC.fin ?_
  refine AWP.sq ?_
  refine AWP.sq ?_
  refine AWP.rgC 24 rfl rfl ?_
  refine ldB (v := .agg _) rfl rfl rfl rfl ti35 rfl rfl ?_
  refine ldB (v := .agg _) rfl rfl rfl rfl ti35 rfl rfl ?_
  obtain ⟨r1, hr1, hR⟩ := bindE hR
  refine cls [] rfl rfl cb29 (ok29 a b _ hr1) (.cons (.agg (.cons (.sc _) (.cons (.sc _) (.cons (.sc _) (.nil)))) rfl) (.cons (.agg (.cons (.sc _) (.cons (.sc _) (.cons (.sc _) (.nil)))) rfl) (.nil))) (.inr rfl) rfl ?_
  refine RunC.fin ?_
  refine AWP.cd hR rfl (fun h2 hR => ?_) fun h2 hR => ?_
  · refine AWP.sq ?_
    refine AWP.rgC 32 rfl rfl ?_
    obtain ⟨r3, hr3, hR⟩ := bindE hR
    refine cls [] rfl rfl cb13 (ok13 _ hr3) (.nil) (.inr rfl) rfl ?_
    refine stB (cs' := [.sc (.int .i64 r3.Lo), .sc (.int .i64 r3.Hi), .sc (.bool r3.Unknown)]) rfl rfl rfl rfl ti35 rfl rfl rfl rfl rfl ?_
    refine RunC.fin ?_
    refine AWP.ret ?_
    refine rtT ?_
    have hR := Option.some.inj hR; subst hR
    exact hQ _ _ (LS.mk [(4, .ptr 0 0 0)] (lblks 0 [boxB (α := Bound) true r3]) 1) (aggV (α := Bound) true r3) [] (.inr rfl) (Weak.turnL [(8, 0)] [] rfl rfl (tc (trP' rfl rfl rfl rfl) tn) (mc rfl (.box rfl (.cons (.sc _) (.cons (.sc _) (.cons (.sc _) (.nil)))) rfl) mn)) (ro1 (rvC (v := aggV (α := Bound) true r3) rfl rfl ti35 rfl)) rfl rfl ldA pn
  · refine AWP.skip ?_
    refine skT ?_
    refine AWP.sq ?_
    refine AWP.rgC 72 rfl rfl ?_
    refine fa rfl rfl ti35 rfl rfl ti33 rfl ?_
    refine ldB (v := .sc _) rfl rfl rfl rfl ti33 rfl rfl ?_
    refine fa rfl rfl ti35 rfl rfl ti33 rfl ?_
    refine ldB (v := .sc _) rfl rfl rfl rfl ti33 rfl rfl ?_
    refine pu (v := .sc _) rfl rfl (fun _ => rfl) ?_
    refine fa rfl rfl ti35 rfl rfl ti33 rfl ?_
    refine ldB (v := .sc _) rfl rfl rfl rfl ti33 rfl rfl ?_
    refine fa rfl rfl ti35 rfl rfl ti33 rfl ?_
    refine ldB (v := .sc _) rfl rfl rfl rfl ti33 rfl rfl ?_
    refine pu (v := .sc _) rfl rfl (fun _ => rfl) ?_
    obtain ⟨r4, hr4, hR⟩ := bindE hR
    refine cls [] rfl rfl cb21 (ok21 (w6 (a.Lo + b.Lo)) (w6 (a.Hi + b.Hi)) _ hr4) (.cons (.sc _) (.cons (.sc _) (.nil))) (.inr rfl) rfl ?_
    refine stB (cs' := [.sc (.int .i64 r4.Lo), .sc (.int .i64 r4.Hi), .sc (.bool r4.Unknown)]) rfl rfl rfl rfl ti35 rfl rfl rfl rfl rfl ?_
    refine RunC.fin ?_
    refine AWP.ret ?_
    have hR := Option.some.inj hR; subst hR
    exact hQ _ _ (LS.mk [(4, .ptr 0 0 0)] (lblks 0 [boxB (α := Bound) true r4]) 1) (aggV (α := Bound) true r4) [] (.inr rfl) (Weak.turnL [(8, 0)] [] rfl rfl (tc (trP' rfl rfl rfl rfl) tn) (mc rfl (.box rfl (.cons (.sc _) (.cons (.sc _) (.cons (.sc _) (.nil)))) rfl) mn)) (ro1 (rvC (v := aggV (α := Bound) true r4) rfl rfl ti35 rfl)) rfl rfl ldA pn
theorem ok26 (b : Bound) (r : Bound) (hR : bound_Neg b = some r) : FnP Try.prog 26 [aggV false b] (aggV (α := Bound) true r) := by
  refine fnP_of (FnX.walk Try.func26 rfl 14 0 (by simp [Try.ntmps26]) rfl fun W S F Q hQ => ?_)
  unfold bound_Neg at hR
  refine AWP.sq ?_
  refine AWP.rgC 8 rfl rfl ?_
  refine bx (cs := _) 0 rfl rfl rfl ?_
  refine al (cs := [.sc (.int .i64 0), .sc (.int .i64 0), .sc (.bool false)]) 4 rfl rfl ti35 rfl rfl ?_
  refine RunC.fin ?_
  refine AWP.sq ?_
  refine AWP.rgC 20 rfl rfl ?_
  refine ldB (v := .agg _) rfl rfl rfl rfl ti35 rfl rfl ?_
  obtain ⟨r1, hr1, hR⟩ := bindE hR
  refine cls [] rfl rfl cb20 (ok20 b _ hr1) (.cons (.agg (.cons (.sc _) (.cons (.sc _) (.cons (.sc _) (.nil)))) rfl) (.nil)) (.inr rfl) rfl ?_
  refine stB (cs' := [.sc (.int .i64 r1.Lo), .sc (.int .i64 r1.Hi), .sc (.bool r1.Unknown)]) rfl rfl rfl rfl ti35 rfl rfl rfl rfl rfl ?_
  refine RunC.fin ?_
  refine AWP.sq ?_
  refine AWP.rgC 60 rfl rfl ?_
  refine fa rfl rfl ti35 rfl rfl ti33 rfl ?_
  refine ldB (v := .sc _) rfl rfl rfl rfl ti33 rfl rfl ?_
  refine pu (v := .sc _) rfl rfl (fun _ => rfl) ?_
  refine fa rfl rfl ti35 rfl rfl ti33 rfl ?_
  refine ldB (v := .sc _) rfl rfl rfl rfl ti33 rfl rfl ?_
  refine pu (v := .sc _) rfl rfl (fun _ => rfl) ?_
  refine fa rfl rfl ti35 rfl rfl ti33 rfl ?_
  refine stB (cs' := [.sc (.int .i64 (w6 (0 - r1.Hi))), .sc (.int .i64 r1.Hi), .sc (.bool r1.Unknown)]) rfl rfl rfl rfl ti33 rfl rfl rfl rfl rfl ?_
  refine fa rfl rfl ti35 rfl rfl ti33 rfl ?_
  refine stB (cs' := [.sc (.int .i64 (w6 (0 - r1.Hi))), .sc (.int .i64 (w6 (0 - r1.Lo))), .sc (.bool r1.Unknown)]) rfl rfl rfl rfl ti33 rfl rfl rfl rfl rfl ?_
  refine RunC.fin ?_
  refine AWP.sq ?_
  refine AWP.rgC 68 rfl rfl ?_
  refine ldB (v := .agg _) rfl rfl rfl rfl ti35 rfl rfl ?_
  refine stB (cs' := [.sc (.int .i64 (w6 (0 - r1.Hi))), .sc (.int .i64 (w6 (0 - r1.Lo))), .sc (.bool r1.Unknown)]) rfl rfl rfl rfl ti35 rfl rfl rfl rfl rfl ?_
  refine RunC.fin ?_
  refine AWP.ret ?_
  have hR := Option.some.inj hR; subst hR
  exact hQ _ _ (LS.mk [(2, .ptr 0 0 0)] (lblks 0 [boxB (α := Bound) true (Bound.mk (w6 (0 - r1.Hi)) (w6 (0 - r1.Lo)) r1.Unknown)]) 1) (aggV (α := Bound) true (Bound.mk (w6 (0 - r1.Hi)) (w6 (0 - r1.Lo)) r1.Unknown)) [] (.inr rfl) (Weak.turnL [(4, 0)] [] rfl rfl (tc (trP' rfl rfl rfl rfl) tn) (mc rfl (.box rfl (.cons (.sc _) (.cons (.sc _) (.cons (.sc _) (.nil)))) rfl) mn)) (ro1 (rvC (v := aggV (α := Bound) true (Bound.mk (w6 (0 - r1.Hi)) (w6 (0 - r1.Lo)) r1.Unknown)) rfl rfl ti35 rfl)) rfl rfl ldA pn
theorem ok23 (l : List align_Pair) (r : Int) (hR : align_worth l = some r) : FnP Try.prog 23 [rowV false l] (.sc (.int .i64 r)) := by
  refine fnP_of (FnX.walk Try.func23 rfl 39 0 (by simp [Try.ntmps23]) rfl fun W S F Q hQ => ?_)
  unfold align_worth at hR
  refine AWP.sq ?_
  refine AWP.rgC 4 rfl rfl ?_
  refine pu (v := .sc _) rfl rfl (fun _ => rfl) ?_
  refine RunC.fin ?_
  refine AWP.sq ?_
  refine AWP.rgC 12 rfl rfl ?_
  refine pu (v := .sc _) rfl rfl (fun _ => rfl) ?_
  refine pu (v := .sc _) rfl rfl (fun _ => rfl) ?_
  refine RunC.fin ?_
  refine AWP.sq ?_
  refine AWP.sq ?_
  refine AWP.rgC 24 rfl rfl ?_
  refine pu (v := rowV _ l) rfl rfl (fun _ => rfl) ?_
  refine lenL (α := align_Pair) rfl rfl ti28 rfl ?_
  refine pu (v := .sc _) rfl rfl (fun _ => rfl) ?_
  refine RunC.fin ?_
  refine AWP.nilT Int 3 3 rfl ?_
  refine AWP.nilT Int 4 3 rfl ?_
  refine AWP.loopJ (fun s1 : (List Int) × (List Int) × Int => LS.mk [(3, slV Int 0 0 0 s1.1.length), (4, slV Int 1 0 0 s1.2.1.length), (7, rowV (α := align_Pair) false l), (8, .sc (.int .i64 (l.length : Int))), (9, .sc (.int .i64 s1.2.2))] (lblks 0 [arrB (α := Int) 3 0 true s1.1, arrB (α := Int) 3 0 true s1.2.1]) 2) (fun z2 : (List Int) × (List Int) => LS.mk [(3, slV Int 0 0 0 z2.1.length), (4, slV Int 1 0 0 z2.2.length)] (lblks 0 [arrB (α := Int) 3 0 true z2.1, arrB (α := Int) 3 0 true z2.2]) 2) (align_worth.l1 l) hR (s0 := (([] : List Int), ([] : List Int), 0)) (Weak.turnL [(24, 0), (25, 0)] [] rfl rfl (tc (trS' rfl rfl rfl rfl rfl) (tc (trS' rfl rfl rfl rfl rfl) (tc trR1 (tc (.sc _) (tc (.sc _) tn))))) (mc rfl (btrA' rfl) (mc rfl (btrA' rfl) mn))) (fun s1 o1 hR => ?_) fun z2 hR => ?_
  · unfold align_worth.l1 at hR
    refine AWP.sq ?_
    refine AWP.rgC 6 rfl rfl ?_
    refine pu (v := .sc _) rfl rfl (fun _ => rfl) ?_
    refine RunC.fin ?_
    refine AWP.sq ?_
    refine AWP.cd hR rfl (fun h3 hR => ?_) fun h3 hR => ?_
    · refine AWP.skip ?_
      refine skT ?_
      refine AWP.joinX (fun z4 : (List Int) × (List Int) => LS.mk [(3, slV Int 0 0 0 z4.1.length), (4, slV Int 1 0 0 z4.2.length), (7, rowV (α := align_Pair) false l), (8, .sc (.int .i64 (l.length : Int))), (9, .sc (.int .i64 s1.2.2))] (lblks 0 [arrB (α := Int) 3 0 true z4.1, arrB (α := Int) 3 0 true z4.2]) 2) hR (fun o4 hR => ?_) fun z4 hR => ?_
      · refine AWP.block ?_
        refine AWP.sq ?_
        refine AWP.rgC 22 rfl rfl ?_
        obtain ⟨h5, hR⟩ := chkE hR
        refine ixL (α := align_Pair) rfl rfl rfl ti28 rfl ti32 rfl h5 ?_
        refine ldR (v := .agg _) rfl rfl ti32 rfl ?_
        refine al (cs := [.sc (.int .i64 0), .sc (.int .i64 0)]) 14 rfl rfl ti32 rfl rfl ?_
        refine stB (cs' := [.sc (.int .i64 (gt l s1.2.2).A), .sc (.int .i64 (gt l s1.2.2).B)]) rfl rfl rfl rfl ti32 rfl rfl rfl rfl rfl ?_
        refine RunC.fin ?_
        refine AWP.sq ?_
        refine AWP.sq ?_
        refine AWP.rgC 42 rfl rfl ?_
        refine pu (v := slV Int _ _ _ _) rfl rfl (fun _ => rfl) ?_
        refine fa rfl rfl ti32 rfl rfl ti3 rfl ?_
        refine ldB (v := .sc _) rfl rfl rfl rfl ti3 rfl rfl ?_
        obtain ⟨r6, hr6, hR⟩ := bindE hR
        refine cls [0] rfl rfl cb28 (ok28 s1.1 (gt l s1.2.2).A _ hr6) (.cons (ldS' rfl rfl rfl rfl) (.cons (.sc _) (.nil))) (.inl (by first | rfl | exact freshR | exact freshA | (simp only [V.fresh, V.freshs, freshR, freshA, Bool.and_self]))) rfl ?_
        refine pu (v := .sc _) rfl rfl (fun _ => rfl) ?_
        refine RunC.fin ?_
        refine AWP.cd hR rfl (fun h7 hR => ?_) fun h7 hR => ?_
        · refine AWP.rgC 66 rfl rfl ?_
          refine pu (v := slV Int _ _ _ _) rfl rfl (fun _ => rfl) ?_
          refine fa rfl rfl ti32 rfl rfl ti3 rfl ?_
          refine ldB (v := .sc _) rfl rfl rfl rfl ti3 rfl rfl ?_
          refine bs (α := Int) 54 true ([(gt l s1.2.2).A] : List Int) rfl rfl ti22 rfl ti3 rfl rfl rfl rfl rfl ?_
          obtain ⟨h8, hR⟩ := chkE hR
          refine ap' (α := Int) (nw := true) (xs := s1.1) (ys := ([(gt l s1.2.2).A] : List Int)) rfl rfl rfl rfl (srcS' rfl rfl rfl) ti22 rfl ti3 rfl h8 rfl ?_
          refine pu (v := slV Int _ _ _ _) rfl rfl (fun _ => rfl) ?_
          refine RunC.fin ?_
          refine AWP.sq ?_
          refine AWP.rgC 86 rfl rfl ?_
          refine pu (v := slV Int _ _ _ _) rfl rfl (fun _ => rfl) ?_
          refine fa rfl rfl ti32 rfl rfl ti3 rfl ?_
          refine ldB (v := .sc _) rfl rfl rfl rfl ti3 rfl rfl ?_
          obtain ⟨r9, hr9, hR⟩ := bindE hR
          refine cls [1] rfl rfl cb28 (ok28 s1.2.1 (gt l s1.2.2).B _ hr9) (.cons (ldS' rfl rfl rfl rfl) (.cons (.sc _) (.nil))) (.inl (by first | rfl | exact freshR | exact freshA | (simp only [V.fresh, V.freshs, freshR, freshA, Bool.and_self]))) rfl ?_
          refine pu (v := .sc _) rfl rfl (fun _ => rfl) ?_
          refine RunC.fin ?_
          refine AWP.cd hR rfl (fun h10 hR => ?_) fun h10 hR => ?_
          · refine AWP.rgC 110 rfl rfl ?_
            refine pu (v := slV Int _ _ _ _) rfl rfl (fun _ => rfl) ?_
            refine fa rfl rfl ti32 rfl rfl ti3 rfl ?_
            refine ldB (v := .sc _) rfl rfl rfl rfl ti3 rfl rfl ?_
            refine bs (α := Int) 98 true ([(gt l s1.2.2).B] : List Int) rfl rfl ti22 rfl ti3 rfl rfl rfl rfl rfl ?_
            obtain ⟨h11, hR⟩ := chkE hR
            refine ap' (α := Int) (nw := true) (xs := s1.2.1) (ys := ([(gt l s1.2.2).B] : List Int)) rfl rfl rfl rfl (srcS' rfl rfl rfl) ti22 rfl ti3 rfl h11 rfl ?_
            refine pu (v := slV Int _ _ _ _) rfl rfl (fun _ => rfl) ?_
            refine RunC.blk ?_
            refine RunC.fin ?_
            have hR := Option.some.inj hR; subst hR
            exact Weak.turnL [(0, 0), (1, 0)] [] rfl rfl (tc (trS' rfl rfl rfl rfl rfl) (tc (trS' rfl rfl rfl rfl rfl) (tc trR1 (tc (.sc _) (tc (.sc _) tn))))) (mc rfl (btrA' rfl) (mc rfl (btrA' rfl) mn))
          · refine AWP.skip ?_
            refine skB ?_
            refine skT ?_
            have hR := Option.some.inj hR; subst hR
            exact Weak.turnL [(0, 0), (1, 0)] [] rfl rfl (tc (trS' rfl rfl rfl rfl rfl) (tc (trS' rfl rfl rfl rfl rfl) (tc trR1 (tc (.sc _) (tc (.sc _) tn))))) (mc rfl (btrA' rfl) (mc rfl (btrA' rfl) mn))
        · refine AWP.skip ?_
          refine skT ?_
          refine AWP.sq ?_
          refine AWP.rgC 62 rfl rfl ?_
          refine pu (v := slV Int _ _ _ _) rfl rfl (fun _ => rfl) ?_
          refine fa rfl rfl ti32 rfl rfl ti3 rfl ?_
          refine ldB (v := .sc _) rfl rfl rfl rfl ti3 rfl rfl ?_
          obtain ⟨r12, hr12, hR⟩ := bindE hR
          refine cls [1] rfl rfl cb28 (ok28 s1.2.1 (gt l s1.2.2).B _ hr12) (.cons (ldS' rfl rfl rfl rfl) (.cons (.sc _) (.nil))) (.inl (by first | rfl | exact freshR | exact freshA | (simp only [V.fresh, V.freshs, freshR, freshA, Bool.and_self]))) rfl ?_
          refine pu (v := .sc _) rfl rfl (fun _ => rfl) ?_
          refine RunC.fin ?_
          refine AWP.cd hR rfl (fun h13 hR => ?_) fun h13 hR => ?_
          · refine AWP.rgC 86 rfl rfl ?_
            refine pu (v := slV Int _ _ _ _) rfl rfl (fun _ => rfl) ?_
            refine fa rfl rfl ti32 rfl rfl ti3 rfl ?_
            refine ldB (v := .sc _) rfl rfl rfl rfl ti3 rfl rfl ?_
            refine bs (α := Int) 74 true ([(gt l s1.2.2).B] : List Int) rfl rfl ti22 rfl ti3 rfl rfl rfl rfl rfl ?_
            obtain ⟨h14, hR⟩ := chkE hR
            refine ap' (α := Int) (nw := true) (xs := s1.2.1) (ys := ([(gt l s1.2.2).B] : List Int)) rfl rfl rfl rfl (srcS' rfl rfl rfl) ti22 rfl ti3 rfl h14 rfl ?_
            refine pu (v := slV Int _ _ _ _) rfl rfl (fun _ => rfl) ?_
            refine RunC.blk ?_
            refine RunC.fin ?_
            have hR := Option.some.inj hR; subst hR
            exact Weak.turnL [(0, 0), (1, 0)] [] rfl rfl (tc (trS' rfl rfl rfl rfl rfl) (tc (trS' rfl rfl rfl rfl rfl) (tc trR1 (tc (.sc _) (tc (.sc _) tn))))) (mc rfl (btrA' rfl) (mc rfl (btrA' rfl) mn))
          · refine AWP.skip ?_
            refine skB ?_
            refine skT ?_
            have hR := Option.some.inj hR; subst hR
            exact Weak.turnL [(0, 0), (1, 0)] [] rfl rfl (tc (trS' rfl rfl rfl rfl rfl) (tc (trS' rfl rfl rfl rfl rfl) (tc trR1 (tc (.sc _) (tc (.sc _) tn))))) (mc rfl (btrA' rfl) (mc rfl (btrA' rfl) mn))
      · refine AWP.rgC 10 rfl rfl ?_
        refine pu (v := .sc _) rfl rfl (fun _ => rfl) ?_
        refine pu (v := .sc _) rfl rfl (fun _ => rfl) ?_
        refine RunC.fin ?_
        refine ⟨(z4.1, z4.2, w6 (s1.2.2 + 1)), (Option.some.inj hR).symm, ?_⟩
        exact Weak.turnL [(0, 0), (1, 0)] [] rfl rfl (tc (trS' rfl rfl rfl rfl rfl) (tc (trS' rfl rfl rfl rfl rfl) (tc trR1 (tc (.sc _) (tc (.sc _) tn))))) (mc rfl (btrA' rfl) (mc rfl (btrA' rfl) mn))
    · refine AWP.exit ?_
      refine exT ?_
      refine exT ?_
      refine exH (skT ?_)
      refine ⟨(s1.1, s1.2.1), (Option.some.inj hR).symm, ?_⟩
      exact Weak.turnL [(0, 0), (1, 0)] [] rfl rfl (tc (trS' rfl rfl rfl rfl rfl) (tc (trS' rfl rfl rfl rfl rfl) tn)) (mc rfl (btrA' rfl) (mc rfl (btrA' rfl) mn))
  · refine skT ?_
    refine AWP.sq ?_
    refine AWP.rgC 26 rfl rfl ?_
    refine pu (v := slV Int _ _ _ _) rfl rfl (fun _ => rfl) ?_
    refine lenS (α := Int) rfl rfl ti22 rfl ?_
    refine pu (v := slV Int _ _ _ _) rfl rfl (fun _ => rfl) ?_
    refine lenS (α := Int) rfl rfl ti22 rfl ?_
    refine pu (v := .sc _) rfl rfl (fun _ => rfl) ?_
    refine pu (v := .sc _) rfl rfl (fun _ => rfl) ?_
    refine RunC.fin ?_
    refine AWP.ret ?_
    have hR := Option.some.inj hR; subst hR
    exact hQ _ _ (LS.mk [(2, .sc (.int .i64 (mn2 (z2.1.length : Int) (z2.2.length : Int))))] (lblks 0 []) 0) (.sc (.int .i64 (mn2 (z2.1.length : Int) (z2.2.length : Int)))) [] (.inr rfl) (Weak.turnL [] [] rfl rfl (tc (.sc _) tn) mn) (ro1 (rvT (v := .sc (.int .i64 (mn2 (z2.1.length : Int) (z2.2.length : Int)))) rfl)) rfl rfl (.sc _) pn
theorem ok19 (a : Bound) (b : Bound) (r : Bound) (hR : bound_Sub a b = some r) : FnP Try.prog 19 [aggV false a, aggV false b] (aggV (α := Bound) true r) := by
  refine fnP_of (FnX.walk Try.func19 rfl 9 0 (by simp [Try.ntmps19]) rfl fun W S F Q hQ => ?_)
  unfold bound_Sub at hR
  refine AWP.sq ?_
  refine AWP.rgC 12 rfl rfl ?_
  refine bx (cs := _) 0 rfl rfl rfl ?_
  refine bx (cs := _) 4 rfl rfl rfl ?_
  refine al (cs := [.sc (.int .i64 0), .sc (.int .i64 0), .sc (.bool false)]) 8 rfl rfl ti35 rfl rfl ?_
  refine RunC.fin ?_
  refine AWP.sq ?_
  refine AWP.rgD 32 [0, 0, 2, 7, 15] ⟨[], [some [0], some [4], none, none, some [8]]⟩ hmix (by kernel_rfl) rfl rfl ?_
  refine ldB (v := .agg _) rfl rfl rfl rfl ti35 rfl rfl ?_
  refine ldB (v := .agg _) rfl rfl rfl rfl ti35 rfl rfl ?_
  obtain ⟨r1, hr1, hR⟩ := bindE hR
  refine cls [] rfl rfl cb26 (ok26 b _ hr1) (.cons (.agg (.cons (.sc _) (.cons (.sc _) (.cons (.sc _) (.nil)))) rfl) (.nil)) (.inr rfl) rfl ?_
  obtain ⟨r2, hr2, hR⟩ := bindE hR
  refine cls [] rfl rfl cb25 (ok25 a r1 _ hr2) (.cons (.agg (.cons (.sc _) (.cons (.sc _) (.cons (.sc _) (.nil)))) rfl) (.cons (.agg (.cons (.sc _) (.cons (.sc _) (.cons (.sc _) (.nil)))) rfl) (.nil))) (.inr rfl) rfl ?_
  refine stB (cs' := [.sc (.int .i64 r2.Lo), .sc (.int .i64 r2.Hi), .sc (.bool r2.Unknown)]) rfl rfl rfl rfl ti35 rfl rfl rfl rfl rfl ?_
  refine RunC.fin ?_
  refine AWP.ret ?_
  have hR := Option.some.inj hR; subst hR
  exact hQ _ _ (LS.mk [(4, .ptr 0 0 0)] (lblks 0 [boxB (α := Bound) true r2]) 1) (aggV (α := Bound) true r2) [] (.inr rfl) (Weak.turnL [(8, 0)] [] rfl rfl (tc (trP' rfl rfl rfl rfl) tn) (mc rfl (.box rfl (.cons (.sc _) (.cons (.sc _) (.cons (.sc _) (.nil)))) rfl) mn)) (ro1 (rvC (v := aggV (α := Bound) true r2) rfl rfl ti35 rfl)) rfl rfl ldA pn
theorem ok14 (m : Measured) (n : Measured) (r : Bound × Bound × Bool) (hR : align_between m n = some r) : FnP Try.prog 14 [aggV false m, aggV false n] (.tup [aggV (α := Bound) true r.1, aggV (α := Bound) true r.2.1, .sc (.bool r.2.2)]) := by
  refine fnP_of (FnX.walk Try.func14 rfl 27 0 (by simp [Try.ntmps14]) rfl fun W S F Q hQ => ?_)
  unfold align_between at hR
  refine AWP.sq ?_
  refine AWP.rgC 20 rfl rfl ?_
  refine bx (cs := _) 0 rfl rfl rfl ?_
  refine bx (cs := _) 4 rfl rfl rfl ?_
  refine al (cs := [.sc (.int .i64 0), .sc (.int .i64 0), .sc (.bool false)]) 8 rfl rfl ti35 rfl rfl ?_
  refine al (cs := [.sc (.int .i64 0), .sc (.int .i64 0), .sc (.bool false)]) 12 rfl rfl ti35 rfl rfl ?_
  refine pu (v := .sc _) rfl rfl (fun _ => rfl) ?_
  refine RunC.fin ?_
  refine AWP.sq ?_
  refine AWP.rgD 68 [0, 1, 0, 4, 15, 0, 32, 0, 128, 511, 1023, 2047] ⟨[], [none, some [4], none, some [0], none, none, some [4], none, some [0], none, some [8], some [12]]⟩ hmix (by kernel_rfl) rfl rfl ?_
  refine fa rfl rfl ti47 rfl rfl ti35 rfl ?_
  refine ldB (v := .agg _) rfl rfl rfl rfl ti35 rfl rfl ?_
  refine fa rfl rfl ti47 rfl rfl ti35 rfl ?_
  refine ldB (v := .agg _) rfl rfl rfl rfl ti35 rfl rfl ?_
  obtain ⟨r1, hr1, hR⟩ := bindE hR
  refine cls [] rfl rfl cb19 (ok19 n.X m.X _ hr1) (.cons (.agg (.cons (.sc _) (.cons (.sc _) (.cons (.sc _) (.nil)))) rfl) (.cons (.agg (.cons (.sc _) (.cons (.sc _) (.cons (.sc _) (.nil)))) rfl) (.nil))) (.inr rfl) rfl ?_
  refine fa rfl rfl ti47 rfl rfl ti35 rfl ?_
  refine ldB (v := .agg _) rfl rfl rfl rfl ti35 rfl rfl ?_
  refine fa rfl rfl ti47 rfl rfl ti35 rfl ?_
  refine ldB (v := .agg _) rfl rfl rfl rfl ti35 rfl rfl ?_
  obtain ⟨r2, hr2, hR⟩ := bindE hR
  refine cls [] rfl rfl cb19 (ok19 n.Y m.Y _ hr2) (.cons (.agg (.cons (.sc _) (.cons (.sc _) (.cons (.sc _) (.nil)))) rfl) (.cons (.agg (.cons (.sc _) (.cons (.sc _) (.cons (.sc _) (.nil)))) rfl) (.nil))) (.inr rfl) rfl ?_
  refine stB (cs' := [.sc (.int .i64 r1.Lo), .sc (.int .i64 r1.Hi), .sc (.bool r1.Unknown)]) rfl rfl rfl rfl ti35 rfl rfl rfl rfl rfl ?_
  refine stB (cs' := [.sc (.int .i64 r2.Lo), .sc (.int .i64 r2.Hi), .sc (.bool r2.Unknown)]) rfl rfl rfl rfl ti35 rfl rfl rfl rfl rfl ?_
  refine RunC.fin ?_
  refine AWP.joinX (fun z3 : Bool => LS.mk [(4, .ptr 0 0 0), (5, .ptr 1 0 0), (6, .sc (.bool z3))] (lblks 0 [boxB (α := Bound) true r1, boxB (α := Bound) true r2]) 2) hR (fun o3 hR => ?_) fun z3 hR => ?_
  · refine AWP.rgD 120 [0, 0, 0, 4, 12, 28, 60, 124, 252, 508, 253, 1279, 4095] ⟨[], [some [8], some [12], none, some [8], none, none, none, some [12], none, none, some [8], some [12], none]⟩ hmix (by kernel_rfl) rfl rfl ?_
    refine ldB (v := .agg _) rfl rfl rfl rfl ti35 rfl rfl ?_
    refine ldB (v := .agg _) rfl rfl rfl rfl ti35 rfl rfl ?_
    refine fa rfl rfl ti35 rfl rfl ti4 rfl ?_
    refine ldB (v := .sc _) rfl rfl rfl rfl ti4 rfl rfl ?_
    refine pu (v := .sc _) rfl rfl (fun _ => rfl) ?_
    refine pu (v := .sc _) rfl rfl (fun _ => rfl) ?_
    refine brR hR (fun h4 hR => ?_) fun h4 hR => ?_
    · refine fa (wtG rfl rfl rfl h4) rfl ti35 rfl rfl ti4 rfl ?_
      refine ldB (v := .sc _) (wtG rfl rfl rfl h4) rfl rfl rfl ti4 rfl rfl ?_
      refine pu (v := .sc _) (wtG rfl rfl rfl h4) rfl (fun _ => rfl) ?_
      refine pkT (v := .sc (.bool (!r2.Unknown))) rfl rfl h4 rfl ?_
      refine stB (cs' := [.sc (.int .i64 r1.Lo), .sc (.int .i64 r1.Hi), .sc (.bool r1.Unknown)]) rfl rfl rfl rfl ti35 rfl rfl rfl rfl rfl ?_
      refine stB (cs' := [.sc (.int .i64 r2.Lo), .sc (.int .i64 r2.Hi), .sc (.bool r2.Unknown)]) rfl rfl rfl rfl ti35 rfl rfl rfl rfl rfl ?_
      refine pu (v := .sc _) rfl rfl (fun _ => rfl) ?_
      refine RunC.fin ?_
      have hR := Option.some.inj hR; subst hR
      exact Weak.turnL [(8, 0), (12, 0)] [] rfl rfl (tc (trP' rfl rfl rfl rfl) (tc (trP' rfl rfl rfl rfl) (tc (.sc _) tn))) (mc rfl (.box rfl (.cons (.sc _) (.cons (.sc _) (.cons (.sc _) (.nil)))) rfl) (mc rfl (.box rfl (.cons (.sc _) (.cons (.sc _) (.cons (.sc _) (.nil)))) rfl) mn))
    · refine sk (skW rfl rfl rfl h4) ?_
      refine sk (skW rfl rfl rfl h4) ?_
      refine sk (skW rfl rfl rfl h4) ?_
      refine pkF (v := .sc (.bool false)) rfl rfl h4 rfl ?_
      refine stB (cs' := [.sc (.int .i64 r1.Lo), .sc (.int .i64 r1.Hi), .sc (.bool r1.Unknown)]) rfl rfl rfl rfl ti35 rfl rfl rfl rfl rfl ?_
      refine stB (cs' := [.sc (.int .i64 r2.Lo), .sc (.int .i64 r2.Hi), .sc (.bool r2.Unknown)]) rfl rfl rfl rfl ti35 rfl rfl rfl rfl rfl ?_
      refine pu (v := .sc _) rfl rfl (fun _ => rfl) ?_
      refine RunC.fin ?_
      have hR := Option.some.inj hR; subst hR
      exact Weak.turnL [(8, 0), (12, 0)] [] rfl rfl (tc (trP' rfl rfl rfl rfl) (tc (trP' rfl rfl rfl rfl) (tc (.sc _) tn))) (mc rfl (.box rfl (.cons (.sc _) (.cons (.sc _) (.cons (.sc _) (.nil)))) rfl) (mc rfl (.box rfl (.cons (.sc _) (.cons (.sc _) (.cons (.sc _) (.nil)))) rfl) mn))
  · refine AWP.ret ?_
    have hR := Option.some.inj hR; subst hR
    exact hQ _ _ (LS.mk [(4, .ptr 0 0 0), (5, .ptr 1 0 0), (6, .sc (.bool z3))] (lblks 0 [boxB (α := Bound) true r1, boxB (α := Bound) true r2]) 2) (.tup [aggV (α := Bound) true r1, aggV (α := Bound) true r2, .sc (.bool z3)]) [] (.inr rfl) (Weak.turnL [(0, 0), (1, 0)] [] rfl rfl (tc (trP' rfl rfl rfl rfl) (tc (trP' rfl rfl rfl rfl) (tc (.sc _) tn))) (mc rfl (.box rfl (.cons (.sc _) (.cons (.sc _) (.cons (.sc _) (.nil)))) rfl) (mc rfl (.box rfl (.cons (.sc _) (.cons (.sc _) (.cons (.sc _) (.nil)))) rfl) mn))) (ro3 (rvC (v := aggV (α := Bound) true r1) rfl rfl ti35 rfl) (rvC (v := aggV (α := Bound) true r2) rfl rfl ti35 rfl) (rvT (v := .sc (.bool z3)) rfl)) rfl rfl (.tup (.cons ldA (.cons ldA (.cons (.sc _) .nil)))) pn
theorem ok22 (a : List Measured) (b : List Measured) (x : Int) (y : Int) (r : (List align_Pair)) (hR : align_joined a b x y = some r) : FnP Try.prog 22 [rowV false a, rowV false b, .sc (.int .i64 x), .sc (.int .i64 y)] (rowV (α := align_Pair) true r) := by
  refine fnP_of (FnX.walk Try.func22 rfl 58 0 (by simp [Try.ntmps22]) rfl fun W S F Q hQ => ?_)
  unfold align_joined at hR
  refine AWP.sq ?_
  refine AWP.rgC 4 rfl rfl ?_
  refine pu (v := .sc _) rfl rfl (fun _ => rfl) ?_
  refine RunC.fin ?_
  refine AWP.sq ?_
  refine AWP.rgC 8 rfl rfl ?_
  refine pu (v := .sc _) rfl rfl (fun _ => rfl) ?_
  refine RunC.fin ?_
  refine AWP.sq ?_
  refine AWP.sq ?_
  refine AWP.rgC 20 rfl rfl ?_
  refine pu (v := rowV _ a) rfl rfl (fun _ => rfl) ?_
  refine lenL (α := Measured) rfl rfl ti26 rfl ?_
  refine pu (v := .sc _) rfl rfl (fun _ => rfl) ?_
  refine RunC.fin ?_
  refine AWP.nilT align_Pair 9 32 rfl ?_
  refine AWP.loopJ (fun s1 : (List align_Pair) × Int => LS.mk [(1, rowV (α := Measured) false b), (2, .sc (.int .i64 x)), (3, .sc (.int .i64 y)), (9, slV align_Pair 0 0 0 s1.1.length), (17, rowV (α := Measured) false a), (18, .sc (.int .i64 (a.length : Int))), (19, .sc (.int .i64 s1.2))] (lblks 0 [arrB (α := align_Pair) 32 0 true s1.1]) 1) (fun z2 : (List align_Pair) => LS.mk [(9, slV align_Pair 0 0 0 z2.length)] (lblks 0 [arrB (α := align_Pair) 32 0 true z2]) 1) (align_joined.l1 a b x y) hR (s0 := (([] : List align_Pair), 0)) (Weak.turnL [(20, 0)] [] rfl rfl (tc trR1 (tc (.sc _) (tc (.sc _) (tc (trS' rfl rfl rfl rfl rfl) (tc trR1 (tc (.sc _) (tc (.sc _) tn))))))) (mc rfl (btrA' rfl) mn)) (fun s1 o1 hR => ?_) fun z2 hR => ?_
  · unfold align_joined.l1 at hR
    refine AWP.sq ?_
    refine AWP.rgC 5 rfl rfl ?_
    refine pu (v := .sc _) rfl rfl (fun _ => rfl) ?_
    refine RunC.fin ?_
    refine AWP.sq ?_
    refine AWP.cd hR rfl (fun h3 hR => ?_) fun h3 hR => ?_
    · refine AWP.skip ?_
      refine skT ?_
      refine AWP.sq ?_
      refine AWP.block ?_
      refine AWP.sq ?_
      refine AWP.rgC 29 rfl rfl ?_
      refine pu (v := .sc _) rfl rfl (fun _ => rfl) ?_
      obtain ⟨h4, hR⟩ := chkE hR
      refine ixL (α := Measured) rfl rfl rfl ti26 rfl ti47 rfl h4 ?_
      refine ldR (v := .agg _) rfl rfl ti47 rfl ?_
      refine al (cs := [.sc (.int .i64 0), .sc (.int .i64 0), .sc (.bool false), .sc (.int .i64 0), .sc (.int .i64 0), .sc (.bool false), .sc (.int .i64 0), .sc (.int .i64 0), .sc (.bool false)]) 17 rfl rfl ti47 rfl rfl ?_
      refine pu (v := .sc _) rfl rfl (fun _ => rfl) ?_
      refine stB (cs' := [.sc (.int .i64 (gt a s1.2).X.Lo), .sc (.int .i64 (gt a s1.2).X.Hi), .sc (.bool (gt a s1.2).X.Unknown), .sc (.int .i64 (gt a s1.2).Y.Lo), .sc (.int .i64 (gt a s1.2).Y.Hi), .sc (.bool (gt a s1.2).Y.Unknown), .sc (.int .i64 (gt a s1.2).Flux.Lo), .sc (.int .i64 (gt a s1.2).Flux.Hi), .sc (.bool (gt a s1.2).Flux.Unknown)]) rfl rfl rfl rfl ti47 rfl rfl rfl rfl rfl ?_
      refine RunC.fin ?_
      refine AWP.sq ?_
      refine AWP.rgC 41 rfl rfl ?_
      refine pu (v := rowV _ b) rfl rfl (fun _ => rfl) ?_
      refine lenL (α := Measured) rfl rfl ti26 rfl ?_
      refine pu (v := .sc _) rfl rfl (fun _ => rfl) ?_
      refine RunC.fin ?_
      refine AWP.loopJ (fun s5 : (List align_Pair) × Int => LS.mk [(1, rowV (α := Measured) false b), (2, .sc (.int .i64 x)), (3, .sc (.int .i64 y)), (9, slV align_Pair 0 0 0 s5.1.length), (10, .sc (.int .i64 s1.2)), (11, .ptr 1 0 0), (17, rowV (α := Measured) false a), (18, .sc (.int .i64 (a.length : Int))), (19, .sc (.int .i64 s1.2)), (24, rowV (α := Measured) false b), (25, .sc (.int .i64 (b.length : Int))), (26, .sc (.int .i64 s5.2))] (lblks 0 [arrB (α := align_Pair) 32 0 true s5.1, boxB (α := Measured) true (gt a s1.2)]) 2) (fun z6 : (List align_Pair) => LS.mk [(1, rowV (α := Measured) false b), (2, .sc (.int .i64 x)), (3, .sc (.int .i64 y)), (9, slV align_Pair 0 0 0 z6.length), (17, rowV (α := Measured) false a), (18, .sc (.int .i64 (a.length : Int))), (19, .sc (.int .i64 s1.2))] (lblks 0 [arrB (α := align_Pair) 32 0 true z6]) 1) (align_joined.l2 a b x y s1) hR (s0 := (s1.1, 0)) (Weak.turnL [(0, 0), (17, 0)] [] rfl rfl (tc trR1 (tc (.sc _) (tc (.sc _) (tc (trS' rfl rfl rfl rfl rfl) (tc (.sc _) (tc (trP' rfl rfl rfl rfl) (tc trR1 (tc (.sc _) (tc (.sc _) (tc trR1 (tc (.sc _) (tc (.sc _) tn)))))))))))) (mc rfl (btrA' rfl) (mc rfl (.box rfl (.cons (.sc _) (.cons (.sc _) (.cons (.sc _) (.cons (.sc _) (.cons (.sc _) (.cons (.sc _) (.cons (.sc _) (.cons (.sc _) (.cons (.sc _) (.nil)))))))))) rfl) mn))) (fun s5 o5 hR => ?_) fun z6 hR => ?_
      · unfold align_joined.l2 at hR
        refine AWP.sq ?_
        refine AWP.rgC 6 rfl rfl ?_
        refine pu (v := .sc _) rfl rfl (fun _ => rfl) ?_
        refine RunC.fin ?_
        refine AWP.sq ?_
        refine AWP.cd hR rfl (fun h7 hR => ?_) fun h7 hR => ?_
        · refine AWP.skip ?_
          refine skT ?_
          refine AWP.joinX (fun z8 : (List align_Pair) => LS.mk [(1, rowV (α := Measured) false b), (2, .sc (.int .i64 x)), (3, .sc (.int .i64 y)), (9, slV align_Pair 0 0 0 z8.length), (10, .sc (.int .i64 s1.2)), (11, .ptr 1 0 0), (17, rowV (α := Measured) false a), (18, .sc (.int .i64 (a.length : Int))), (19, .sc (.int .i64 s1.2)), (24, rowV (α := Measured) false b), (25, .sc (.int .i64 (b.length : Int))), (26, .sc (.int .i64 s5.2))] (lblks 0 [arrB (α := align_Pair) 32 0 true z8, boxB (α := Measured) true (gt a s1.2)]) 2) hR (fun o8 hR => ?_) fun z8 hR => ?_
          · refine AWP.block ?_
            refine AWP.sq ?_
            refine AWP.rgC 30 rfl rfl ?_
            refine pu (v := .sc _) rfl rfl (fun _ => rfl) ?_
            obtain ⟨h9, hR⟩ := chkE hR
            refine ixL (α := Measured) rfl rfl rfl ti26 rfl ti47 rfl h9 ?_
            refine ldR (v := .agg _) rfl rfl ti47 rfl ?_
            refine al (cs := [.sc (.int .i64 0), .sc (.int .i64 0), .sc (.bool false), .sc (.int .i64 0), .sc (.int .i64 0), .sc (.bool false), .sc (.int .i64 0), .sc (.int .i64 0), .sc (.bool false)]) 18 rfl rfl ti47 rfl rfl ?_
            refine pu (v := .sc _) rfl rfl (fun _ => rfl) ?_
            refine stB (cs' := [.sc (.int .i64 (gt b s5.2).X.Lo), .sc (.int .i64 (gt b s5.2).X.Hi), .sc (.bool (gt b s5.2).X.Unknown), .sc (.int .i64 (gt b s5.2).Y.Lo), .sc (.int .i64 (gt b s5.2).Y.Hi), .sc (.bool (gt b s5.2).Y.Unknown), .sc (.int .i64 (gt b s5.2).Flux.Lo), .sc (.int .i64 (gt b s5.2).Flux.Hi), .sc (.bool (gt b s5.2).Flux.Unknown)]) rfl rfl rfl rfl ti47 rfl rfl rfl rfl rfl ?_
            refine RunC.fin ?_
            refine AWP.sq ?_
            refine AWP.rgC 78 rfl rfl ?_
            refine ldB (v := .agg _) rfl rfl rfl rfl ti47 rfl rfl ?_
            refine ldB (v := .agg _) rfl rfl rfl rfl ti47 rfl rfl ?_
            obtain ⟨r10, hr10, hR⟩ := bindE hR
            refine cls [] rfl rfl cb14 (ok14 (gt a s1.2) (gt b s5.2) _ hr10) (.cons (.agg (.cons (.sc _) (.cons (.sc _) (.cons (.sc _) (.cons (.sc _) (.cons (.sc _) (.cons (.sc _) (.cons (.sc _) (.cons (.sc _) (.cons (.sc _) (.nil)))))))))) rfl) (.cons (.agg (.cons (.sc _) (.cons (.sc _) (.cons (.sc _) (.cons (.sc _) (.cons (.sc _) (.cons (.sc _) (.cons (.sc _) (.cons (.sc _) (.cons (.sc _) (.nil)))))))))) rfl) (.nil))) (.inr rfl) rfl ?_
            refine pu (v := .tup _) rfl rfl (fun _ => rfl) ?_
            refine pu (v := .agg _) rfl rfl (fun _ => rfl) ?_
            refine pu (v := .agg _) rfl rfl (fun _ => rfl) ?_
            refine pu (v := .sc _) rfl rfl (fun _ => rfl) ?_
            refine al (cs := [.sc (.int .i64 0), .sc (.int .i64 0), .sc (.bool false)]) 58 rfl rfl ti35 rfl rfl ?_
            refine al (cs := [.sc (.int .i64 0), .sc (.int .i64 0), .sc (.bool false)]) 62 rfl rfl ti35 rfl rfl ?_
            refine stB (cs' := [.sc (.int .i64 r10.1.Lo), .sc (.int .i64 r10.1.Hi), .sc (.bool r10.1.Unknown)]) rfl rfl rfl rfl ti35 rfl rfl rfl rfl rfl ?_
            refine stB (cs' := [.sc (.int .i64 r10.2.1.Lo), .sc (.int .i64 r10.2.1.Hi), .sc (.bool r10.2.1.Unknown)]) rfl rfl rfl rfl ti35 rfl rfl rfl rfl rfl ?_
            refine pu (v := .sc _) rfl rfl (fun _ => rfl) ?_
            refine RunC.fin ?_
            refine AWP.joinX (fun z11 : Bool => LS.mk [(1, rowV (α := Measured) false b), (2, .sc (.int .i64 x)), (3, .sc (.int .i64 y)), (9, slV align_Pair 0 0 0 s5.1.length), (10, .sc (.int .i64 s1.2)), (11, .ptr 1 0 0), (12, .sc (.int .i64 s5.2)), (17, rowV (α := Measured) false a), (18, .sc (.int .i64 (a.length : Int))), (19, .sc (.int .i64 s1.2)), (24, rowV (α := Measured) false b), (25, .sc (.int .i64 (b.length : Int))), (26, .sc (.int .i64 s5.2)), (48, .sc (.bool z11))] (lblks 0 [arrB (α := align_Pair) 32 0 true s5.1, boxB (α := Measured) true (gt a s1.2)]) 2) hR (fun o11 hR => ?_) fun z11 hR => ?_
            · refine AWP.rgC 122 rfl rfl ?_
              refine pu (v := .sc _) rfl rfl (fun _ => rfl) ?_
              refine pu (v := .sc _) rfl rfl (fun _ => rfl) ?_
              refine brR hR (fun h12 hR => ?_) fun h12 hR => ?_
              · refine ldB (v := .agg _) (wtG rfl rfl rfl h12) rfl rfl rfl ti35 rfl rfl ?_
                refine pu (v := .sc _) (wtG rfl rfl rfl h12) rfl (fun _ => rfl) ?_
                obtain ⟨r13, hr13, hR⟩ := bindE hR
                refine cls [] (wtG rfl rfl rfl h12) rfl cb27 (ok27 r10.1 x _ hr13) (.cons (.agg (.cons (.sc _) (.cons (.sc _) (.cons (.sc _) (.nil)))) rfl) (.cons (.sc _) (.nil))) (.inr rfl) rfl ?_
                refine pkT (v := .sc (.bool r13)) rfl rfl h12 rfl ?_
                refine pu (v := .sc _) rfl rfl (fun _ => rfl) ?_
                refine brR hR (fun h14 hR => ?_) fun h14 hR => ?_
                · refine ldB (v := .agg _) (wtG rfl rfl rfl h14) rfl rfl rfl ti35 rfl rfl ?_
                  refine pu (v := .sc _) (wtG rfl rfl rfl h14) rfl (fun _ => rfl) ?_
                  obtain ⟨r15, hr15, hR⟩ := bindE hR
                  refine cls [] (wtG rfl rfl rfl h14) rfl cb27 (ok27 r10.2.1 y _ hr15) (.cons (.agg (.cons (.sc _) (.cons (.sc _) (.cons (.sc _) (.nil)))) rfl) (.cons (.sc _) (.nil))) (.inr rfl) rfl ?_
                  refine pkT (v := .sc (.bool r15)) rfl rfl h14 rfl ?_
                  refine RunC.fin ?_
                  have hR := Option.some.inj hR; subst hR
                  exact Weak.turnL [(0, 0), (1, 0)] [] rfl rfl (tc trR1 (tc (.sc _) (tc (.sc _) (tc (trS' rfl rfl rfl rfl rfl) (tc (.sc _) (tc (trP' rfl rfl rfl rfl) (tc (.sc _) (tc trR1 (tc (.sc _) (tc (.sc _) (tc trR1 (tc (.sc _) (tc (.sc _) (tc (.sc _) tn)))))))))))))) (mc rfl (btrA' rfl) (mc rfl (.box rfl (.cons (.sc _) (.cons (.sc _) (.cons (.sc _) (.cons (.sc _) (.cons (.sc _) (.cons (.sc _) (.cons (.sc _) (.cons (.sc _) (.cons (.sc _) (.nil)))))))))) rfl) mn))
                · refine sk (skW rfl rfl rfl h14) ?_
                  refine sk (skW rfl rfl rfl h14) ?_
                  refine sk (skW rfl rfl rfl h14) ?_
                  refine pkF (v := .sc (.bool false)) rfl rfl h14 rfl ?_
                  refine RunC.fin ?_
                  have hR := Option.some.inj hR; subst hR
                  exact Weak.turnL [(0, 0), (1, 0)] [] rfl rfl (tc trR1 (tc (.sc _) (tc (.sc _) (tc (trS' rfl rfl rfl rfl rfl) (tc (.sc _) (tc (trP' rfl rfl rfl rfl) (tc (.sc _) (tc trR1 (tc (.sc _) (tc (.sc _) (tc trR1 (tc (.sc _) (tc (.sc _) (tc (.sc _) tn)))))))))))))) (mc rfl (btrA' rfl) (mc rfl (.box rfl (.cons (.sc _) (.cons (.sc _) (.cons (.sc _) (.cons (.sc _) (.cons (.sc _) (.cons (.sc _) (.cons (.sc _) (.cons (.sc _) (.cons (.sc _) (.nil)))))))))) rfl) mn))
              · refine sk (skW rfl rfl rfl h12) ?_
                refine sk (skW rfl rfl rfl h12) ?_
                refine sk (skW rfl rfl rfl h12) ?_
                refine pkF (v := .sc (.bool false)) rfl rfl h12 rfl ?_
                refine pu (v := .sc _) rfl rfl (fun _ => rfl) ?_
                refine sk (skW rfl rfl rfl rfl) ?_
                refine sk (skW rfl rfl rfl rfl) ?_
                refine sk (skW rfl rfl rfl rfl) ?_
                refine pkF (v := .sc (.bool false)) rfl rfl rfl rfl ?_
                refine RunC.fin ?_
                have hR := Option.some.inj hR; subst hR
                exact Weak.turnL [(0, 0), (1, 0)] [] rfl rfl (tc trR1 (tc (.sc _) (tc (.sc _) (tc (trS' rfl rfl rfl rfl rfl) (tc (.sc _) (tc (trP' rfl rfl rfl rfl) (tc (.sc _) (tc trR1 (tc (.sc _) (tc (.sc _) (tc trR1 (tc (.sc _) (tc (.sc _) (tc (.sc _) tn)))))))))))))) (mc rfl (btrA' rfl) (mc rfl (.box rfl (.cons (.sc _) (.cons (.sc _) (.cons (.sc _) (.cons (.sc _) (.cons (.sc _) (.cons (.sc _) (.cons (.sc _) (.cons (.sc _) (.cons (.sc _) (.nil)))))))))) rfl) mn))
            · refine AWP.cd hR rfl (fun h16 hR => ?_) fun h16 hR => ?_
              · refine AWP.rgC 30 rfl rfl ?_
                refine pu (v := slV align_Pair _ _ _ _) rfl rfl (fun _ => rfl) ?_
                refine pu (v := .sc _) rfl rfl (fun _ => rfl) ?_
                refine pu (v := .sc _) rfl rfl (fun _ => rfl) ?_
                refine bu (cs := [.sc (.int .i64 s1.2), .sc (.int .i64 s5.2)]) rfl bt32 rfl ?_
                refine bs (α := align_Pair) 18 true ([align_Pair.mk s1.2 s5.2] : List align_Pair) rfl rfl ti28 rfl ti32 rfl rfl rfl rfl rfl ?_
                obtain ⟨h17, hR⟩ := chkE hR
                refine ap' (α := align_Pair) (nw := true) (xs := s5.1) (ys := ([align_Pair.mk s1.2 s5.2] : List align_Pair)) rfl rfl rfl rfl (srcS' rfl rfl rfl) ti28 rfl ti32 rfl h17 rfl ?_
                refine pu (v := slV align_Pair _ _ _ _) rfl rfl (fun _ => rfl) ?_
                refine RunC.blk ?_
                refine RunC.fin ?_
                have hR := Option.some.inj hR; subst hR
                exact Weak.turnL [(0, 0), (1, 0)] [] rfl rfl (tc trR1 (tc (.sc _) (tc (.sc _) (tc (trS' rfl rfl rfl rfl rfl) (tc (.sc _) (tc (trP' rfl rfl rfl rfl) (tc trR1 (tc (.sc _) (tc (.sc _) (tc trR1 (tc (.sc _) (tc (.sc _) tn)))))))))))) (mc rfl (btrA' rfl) (mc rfl (.box rfl (.cons (.sc _) (.cons (.sc _) (.cons (.sc _) (.cons (.sc _) (.cons (.sc _) (.cons (.sc _) (.cons (.sc _) (.cons (.sc _) (.cons (.sc _) (.nil)))))))))) rfl) mn))
              · refine AWP.skip ?_
                refine skB ?_
                refine skT ?_
                have hR := Option.some.inj hR; subst hR
                exact Weak.turnL [(0, 0), (1, 0)] [] rfl rfl (tc trR1 (tc (.sc _) (tc (.sc _) (tc (trS' rfl rfl rfl rfl rfl) (tc (.sc _) (tc (trP' rfl rfl rfl rfl) (tc trR1 (tc (.sc _) (tc (.sc _) (tc trR1 (tc (.sc _) (tc (.sc _) tn)))))))))))) (mc rfl (btrA' rfl) (mc rfl (.box rfl (.cons (.sc _) (.cons (.sc _) (.cons (.sc _) (.cons (.sc _) (.cons (.sc _) (.cons (.sc _) (.cons (.sc _) (.cons (.sc _) (.cons (.sc _) (.nil)))))))))) rfl) mn))
          · refine AWP.rgC 10 rfl rfl ?_
            refine pu (v := .sc _) rfl rfl (fun _ => rfl) ?_
            refine pu (v := .sc _) rfl rfl (fun _ => rfl) ?_
            refine RunC.fin ?_
            refine ⟨(z8, w6 (s5.2 + 1)), (Option.some.inj hR).symm, ?_⟩
            exact Weak.turnL [(0, 0), (1, 0)] [] rfl rfl (tc trR1 (tc (.sc _) (tc (.sc _) (tc (trS' rfl rfl rfl rfl rfl) (tc (.sc _) (tc (trP' rfl rfl rfl rfl) (tc trR1 (tc (.sc _) (tc (.sc _) (tc trR1 (tc (.sc _) (tc (.sc _) tn)))))))))))) (mc rfl (btrA' rfl) (mc rfl (.box rfl (.cons (.sc _) (.cons (.sc _) (.cons (.sc _) (.cons (.sc _) (.cons (.sc _) (.cons (.sc _) (.cons (.sc _) (.cons (.sc _) (.cons (.sc _) (.nil)))))))))) rfl) mn))
        · refine AWP.exit ?_
          refine exT ?_
          refine exT ?_
          refine exH (skT ?_)
          refine ⟨s5.1, (Option.some.inj hR).symm, ?_⟩
          exact Weak.turnL [(0, 0)] [] rfl rfl (tc trR1 (tc (.sc _) (tc (.sc _) (tc (trS' rfl rfl rfl rfl rfl) (tc trR1 (tc (.sc _) (tc (.sc _) tn))))))) (mc rfl (btrA' rfl) mn)
      · refine skB ?_
        refine skT ?_
        refine AWP.rgC 9 rfl rfl ?_
        refine pu (v := .sc _) rfl rfl (fun _ => rfl) ?_
        refine pu (v := .sc _) rfl rfl (fun _ => rfl) ?_
        refine RunC.fin ?_
        refine ⟨(z6, w6 (s1.2 + 1)), (Option.some.inj hR).symm, ?_⟩
        exact Weak.turnL [(0, 0)] [] rfl rfl (tc trR1 (tc (.sc _) (tc (.sc _) (tc (trS' rfl rfl rfl rfl rfl) (tc trR1 (tc (.sc _) (tc (.sc _) tn))))))) (mc rfl (btrA' rfl) mn)
    · refine AWP.exit ?_
      refine exT ?_
      refine exT ?_
      refine exH (skT ?_)
      refine ⟨s1.1, (Option.some.inj hR).symm, ?_⟩
      exact Weak.turnL [(0, 0)] [] rfl rfl (tc (trS' rfl rfl rfl rfl rfl) tn) (mc rfl (btrA' rfl) mn)
  · refine skT ?_
    refine AWP.sq ?_
    refine AWP.rgC 9 rfl rfl ?_
    refine pu (v := slV align_Pair _ _ _ _) rfl rfl (fun _ => rfl) ?_
    refine pu (v := slV align_Pair _ _ _ _) rfl rfl (fun _ => rfl) ?_
    refine RunC.fin ?_
    refine AWP.ret ?_
    have hR := Option.some.inj hR; subst hR
    exact hQ _ _ (LS.mk [(8, rowV (α := align_Pair) true z2)] (lblks 0 []) 0) (rowV (α := align_Pair) true z2) [] (.inr rfl) (Weak.turnL [] [0] rfl rfl (tc (trF' rfl rfl id rfl) tn) mn) (ro1 (rvT (v := rowV (α := align_Pair) true z2) rfl)) rfl rfl ldR' pn
theorem ok18 (l : List Measured) (most : Int) (r : Int) (hR : align_check l most = some r) : FnP Try.prog 18 [rowV false l, .sc (.int .i64 most)] (.sc (.int .i64 r)) := by
  refine fnP_of (FnX.walk Try.func18 rfl 32 0 (by simp [Try.ntmps18]) rfl fun W S F Q hQ => ?_)
  unfold align_check at hR
  refine AWP.sq ?_
  refine AWP.rgC 4 rfl rfl ?_
  refine pu (v := .sc _) rfl rfl (fun _ => rfl) ?_
  refine RunC.fin ?_
  refine AWP.sq ?_
  refine AWP.sq ?_
  refine AWP.rgC 20 rfl rfl ?_
  refine pu (v := rowV _ l) rfl rfl (fun _ => rfl) ?_
  refine lenL (α := Measured) rfl rfl ti26 rfl ?_
  refine pu (v := .sc _) rfl rfl (fun _ => rfl) ?_
  refine pu (v := .sc _) rfl rfl (fun _ => rfl) ?_
  refine RunC.fin ?_
  refine AWP.cd hR rfl (fun h1 hR => ?_) fun h1 hR => ?_
  · refine AWP.sq ?_
    refine AWP.rgC 24 rfl rfl ?_
    refine pu (v := .sc _) rfl rfl (fun _ => rfl) ?_
    refine RunC.fin ?_
    refine AWP.ret ?_
    refine rtT ?_
    have hR := Option.some.inj hR; subst hR
    exact hQ _ _ (LS.mk [(4, .sc (.int .i64 2))] (lblks 0 []) 0) (.sc (.int .i64 2)) [] (.inr rfl) (Weak.turnL [] [] rfl rfl (tc (.sc _) tn) mn) (ro1 (rvT (v := .sc (.int .i64 2)) rfl)) rfl rfl (.sc _) pn
  · refine AWP.skip ?_
    refine skT ?_
    refine AWP.sq ?_
    refine AWP.sq ?_
    refine AWP.rgC 32 rfl rfl ?_
    refine pu (v := rowV _ l) rfl rfl (fun _ => rfl) ?_
    refine lenL (α := Measured) rfl rfl ti26 rfl ?_
    refine pu (v := .sc _) rfl rfl (fun _ => rfl) ?_
    refine RunC.fin ?_
    refine AWP.loopK' (fun s2 : Int => LS.mk [(13, rowV (α := Measured) false l), (14, .sc (.int .i64 (l.length : Int))), (15, .sc (.int .i64 s2))] (lblks 0 []) 0) (fun z3 : Unit => LS.mk [] (lblks 0 []) 0) (align_check.l1 l) hR (s0 := 0) (Weak.turnL [] [] rfl rfl (tc trR1 (tc (.sc _) (tc (.sc _) tn))) mn) (fun s2 o2 hR hE2 => ?_) fun z3 hR => ?_
    · unfold align_check.l1 at hR
      refine AWP.sq ?_
      refine AWP.rgC 4 rfl rfl ?_
      refine pu (v := .sc _) rfl rfl (fun _ => rfl) ?_
      refine RunC.fin ?_
      refine AWP.sq ?_
      refine AWP.cd hR rfl (fun h4 hR => ?_) fun h4 hR => ?_
      · refine AWP.skip ?_
        refine skT ?_
        refine AWP.sq ?_
        refine AWP.block ?_
        refine AWP.sq ?_
        refine AWP.rgC 20 rfl rfl ?_
        obtain ⟨h5, hR⟩ := chkE hR
        refine ixL (α := Measured) rfl rfl rfl ti26 rfl ti47 rfl h5 ?_
        refine ldR (v := .agg _) rfl rfl ti47 rfl ?_
        refine al (cs := [.sc (.int .i64 0), .sc (.int .i64 0), .sc (.bool false), .sc (.int .i64 0), .sc (.int .i64 0), .sc (.bool false), .sc (.int .i64 0), .sc (.int .i64 0), .sc (.bool false)]) 12 rfl rfl ti47 rfl rfl ?_
        refine stB (cs' := [.sc (.int .i64 (gt l s2).X.Lo), .sc (.int .i64 (gt l s2).X.Hi), .sc (.bool (gt l s2).X.Unknown), .sc (.int .i64 (gt l s2).Y.Lo), .sc (.int .i64 (gt l s2).Y.Hi), .sc (.bool (gt l s2).Y.Unknown), .sc (.int .i64 (gt l s2).Flux.Lo), .sc (.int .i64 (gt l s2).Flux.Hi), .sc (.bool (gt l s2).Flux.Unknown)]) rfl rfl rfl rfl ti47 rfl rfl rfl rfl rfl ?_
        refine RunC.fin ?_
        refine AWP.sq ?_
        refine AWP.sq ?_
        refine AWP.rgC 36 rfl rfl ?_
        refine fa rfl rfl ti47 rfl rfl ti35 rfl ?_
        refine ldB (v := .agg _) rfl rfl rfl rfl ti35 rfl rfl ?_
        obtain ⟨r6, hr6, hR⟩ := bindE hR
        refine cls [] rfl rfl cb24 (ok24 (gt l s2).X _ hr6) (.cons (.agg (.cons (.sc _) (.cons (.sc _) (.cons (.sc _) (.nil)))) rfl) (.nil)) (.inr rfl) rfl ?_
        refine pu (v := .sc _) rfl rfl (fun _ => rfl) ?_
        refine RunC.fin ?_
        refine AWP.sq ?_
        refine AWP.rgC 44 rfl rfl ?_
        refine pu (v := .sc _) rfl rfl (fun _ => rfl) ?_
        refine pu (v := .sc _) rfl rfl (fun _ => rfl) ?_
        refine RunC.fin ?_
        refine AWP.cd hR rfl (fun h7 hR => ?_) fun h7 hR => ?_
        · refine AWP.sq ?_
          refine AWP.rgC 52 rfl rfl ?_
          refine pu (v := .sc _) rfl rfl (fun _ => rfl) ?_
          refine pu (v := .sc _) rfl rfl (fun _ => rfl) ?_
          refine RunC.fin ?_
          refine AWP.ret ?_
          refine rtT ?_
          refine rtB ?_
          refine rtT ?_
          refine rtT ?_
          refine rtB (rtT ?_)
          replace hR := escL hR hE2
          refine rtT ?_
          have hR := Option.some.inj hR; subst hR
          exact hQ _ _ (LS.mk [(4, .sc (.int .i64 r6))] (lblks 0 []) 0) (.sc (.int .i64 r6)) [] (.inr rfl) (Weak.turnL [] [] rfl rfl (tc (.sc _) tn) mn) (ro1 (rvT (v := .sc (.int .i64 r6)) rfl)) rfl rfl (.sc _) pn
        · refine AWP.skip ?_
          refine skT ?_
          refine AWP.sq ?_
          refine AWP.rgC 60 rfl rfl ?_
          refine fa rfl rfl ti47 rfl rfl ti35 rfl ?_
          refine ldB (v := .agg _) rfl rfl rfl rfl ti35 rfl rfl ?_
          obtain ⟨r8, hr8, hR⟩ := bindE hR
          refine cls [] rfl rfl cb24 (ok24 (gt l s2).Y _ hr8) (.cons (.agg (.cons (.sc _) (.cons (.sc _) (.cons (.sc _) (.nil)))) rfl) (.nil)) (.inr rfl) rfl ?_
          refine pu (v := .sc _) rfl rfl (fun _ => rfl) ?_
          refine RunC.fin ?_
          refine AWP.sq ?_
          refine AWP.rgC 68 rfl rfl ?_
          refine pu (v := .sc _) rfl rfl (fun _ => rfl) ?_
          refine pu (v := .sc _) rfl rfl (fun _ => rfl) ?_
          refine RunC.fin ?_
          refine AWP.cd hR rfl (fun h9 hR => ?_) fun h9 hR => ?_
          · refine AWP.sq ?_
            refine AWP.rgC 76 rfl rfl ?_
            refine pu (v := .sc _) rfl rfl (fun _ => rfl) ?_
            refine pu (v := .sc _) rfl rfl (fun _ => rfl) ?_
            refine RunC.fin ?_
            refine AWP.ret ?_
            refine rtB ?_
            refine rtT ?_
            refine rtT ?_
            refine rtB (rtT ?_)
            replace hR := escL hR hE2
            refine rtT ?_
            have hR := Option.some.inj hR; subst hR
            exact hQ _ _ (LS.mk [(4, .sc (.int .i64 r8))] (lblks 0 []) 0) (.sc (.int .i64 r8)) [] (.inr rfl) (Weak.turnL [] [] rfl rfl (tc (.sc _) tn) mn) (ro1 (rvT (v := .sc (.int .i64 r8)) rfl)) rfl rfl (.sc _) pn
          · refine AWP.skip ?_
            refine skB ?_
            refine skT ?_
            refine AWP.rgC 76 rfl rfl ?_
            refine pu (v := .sc _) rfl rfl (fun _ => rfl) ?_
            refine pu (v := .sc _) rfl rfl (fun _ => rfl) ?_
            refine RunC.fin ?_
            refine ⟨(w6 (s2 + 1)), (Option.some.inj hR).symm, ?_⟩
            exact Weak.turnL [] [] rfl rfl (tc trR1 (tc (.sc _) (tc (.sc _) tn))) mn
      · refine AWP.exit ?_
        refine exT ?_
        refine exT ?_
        refine exH (skT ?_)
        refine ⟨(), (Option.some.inj hR).symm, ?_⟩
        exact Weak.turnL [] [] rfl rfl tn mn
    · refine skT ?_
      refine AWP.sq ?_
      refine AWP.rgC 4 rfl rfl ?_
      refine pu (v := .sc _) rfl rfl (fun _ => rfl) ?_
      refine RunC.fin ?_
      refine AWP.ret ?_
      have hR := Option.some.inj hR; subst hR
      exact hQ _ _ (LS.mk [(4, .sc (.int .i64 0))] (lblks 0 []) 0) (.sc (.int .i64 0)) [] (.inr rfl) (Weak.turnL [] [] rfl rfl (tc (.sc _) tn) mn) (ro1 (rvT (v := .sc (.int .i64 0)) rfl)) rfl rfl (.sc _) pn
theorem ok12 (a : List Measured) (b : List Measured) (most : Int) (least : Int) (r : Int) (hR : align_checks a b most least = some r) : FnP Try.prog 12 [rowV false a, rowV false b, .sc (.int .i64 most), .sc (.int .i64 least)] (.sc (.int .i64 r)) := by
  refine fnP_of (FnX.walk Try.func12 rfl 25 0 (by simp [Try.ntmps12]) rfl fun W S F Q hQ => ?_)
  unfold align_checks at hR
  refine AWP.sq ?_
  refine AWP.rgC 4 rfl rfl ?_
  refine pu (v := .sc _) rfl rfl (fun _ => rfl) ?_
  refine RunC.fin ?_
  refine AWP.sq ?_
  refine AWP.sq ?_
  refine AWP.rgC 20 rfl rfl ?_
  refine pu (v := rowV _ a) rfl rfl (fun _ => rfl) ?_
  refine pu (v := .sc _) rfl rfl (fun _ => rfl) ?_
  obtain ⟨r1, hr1, hR⟩ := bindE hR
  refine cls [] rfl rfl cb18 (ok18 a most _ hr1) (.cons ldR' (.cons (.sc _) (.nil))) (.inr rfl) rfl ?_
  refine pu (v := .sc _) rfl rfl (fun _ => rfl) ?_
  refine RunC.fin ?_
  refine AWP.sq ?_
  refine AWP.rgC 28 rfl rfl ?_
  refine pu (v := .sc _) rfl rfl (fun _ => rfl) ?_
  refine pu (v := .sc _) rfl rfl (fun _ => rfl) ?_
  refine RunC.fin ?_
  refine AWP.cd hR rfl (fun h2 hR => ?_) fun h2 hR => ?_
  · refine AWP.sq ?_
    refine AWP.rgC 36 rfl rfl ?_
    refine pu (v := .sc _) rfl rfl (fun _ => rfl) ?_
    refine pu (v := .sc _) rfl rfl (fun _ => rfl) ?_
    refine RunC.fin ?_
    refine AWP.ret ?_
    refine rtT ?_
    have hR := Option.some.inj hR; subst hR
    exact hQ _ _ (LS.mk [(8, .sc (.int .i64 r1))] (lblks 0 []) 0) (.sc (.int .i64 r1)) [] (.inr rfl) (Weak.turnL [] [] rfl rfl (tc (.sc _) tn) mn) (ro1 (rvT (v := .sc (.int .i64 r1)) rfl)) rfl rfl (.sc _) pn
  · refine AWP.skip ?_
    refine skT ?_
    refine AWP.sq ?_
    refine AWP.sq ?_
    refine AWP.rgC 44 rfl rfl ?_
    refine pu (v := rowV _ b) rfl rfl (fun _ => rfl) ?_
    refine pu (v := .sc _) rfl rfl (fun _ => rfl) ?_
    obtain ⟨r3, hr3, hR⟩ := bindE hR
    refine cls [] rfl rfl cb18 (ok18 b most _ hr3) (.cons ldR' (.cons (.sc _) (.nil))) (.inr rfl) rfl ?_
    refine pu (v := .sc _) rfl rfl (fun _ => rfl) ?_
    refine RunC.fin ?_
    refine AWP.sq ?_
    refine AWP.rgC 52 rfl rfl ?_
    refine pu (v := .sc _) rfl rfl (fun _ => rfl) ?_
    refine pu (v := .sc _) rfl rfl (fun _ => rfl) ?_
    refine RunC.fin ?_
    refine AWP.cd hR rfl (fun h4 hR => ?_) fun h4 hR => ?_
    · refine AWP.sq ?_
      refine AWP.rgC 60 rfl rfl ?_
      refine pu (v := .sc _) rfl rfl (fun _ => rfl) ?_
      refine pu (v := .sc _) rfl rfl (fun _ => rfl) ?_
      refine RunC.fin ?_
      refine AWP.ret ?_
      refine rtT ?_
      have hR := Option.some.inj hR; subst hR
      exact hQ _ _ (LS.mk [(8, .sc (.int .i64 r3))] (lblks 0 []) 0) (.sc (.int .i64 r3)) [] (.inr rfl) (Weak.turnL [] [] rfl rfl (tc (.sc _) tn) mn) (ro1 (rvT (v := .sc (.int .i64 r3)) rfl)) rfl rfl (.sc _) pn
    · refine AWP.skip ?_
      refine skT ?_
      refine AWP.sq ?_
      refine AWP.sq ?_
      refine AWP.rgC 60 rfl rfl ?_
      refine pu (v := .sc _) rfl rfl (fun _ => rfl) ?_
      refine pu (v := .sc _) rfl rfl (fun _ => rfl) ?_
      refine RunC.fin ?_
      refine AWP.cd hR rfl (fun h5 hR => ?_) fun h5 hR => ?_
      · refine AWP.sq ?_
        refine AWP.rgC 64 rfl rfl ?_
        refine pu (v := .sc _) rfl rfl (fun _ => rfl) ?_
        refine RunC.fin ?_
        refine AWP.ret ?_
        refine rtT ?_
        have hR := Option.some.inj hR; subst hR
        exact hQ _ _ (LS.mk [(8, .sc (.int .i64 1))] (lblks 0 []) 0) (.sc (.int .i64 1)) [] (.inr rfl) (Weak.turnL [] [] rfl rfl (tc (.sc _) tn) mn) (ro1 (rvT (v := .sc (.int .i64 1)) rfl)) rfl rfl (.sc _) pn
      · refine AWP.skip ?_
        refine skT ?_
        refine AWP.sq ?_
        refine AWP.rgC 64 rfl rfl ?_
        refine pu (v := .sc _) rfl rfl (fun _ => rfl) ?_
        refine RunC.fin ?_
        refine AWP.ret ?_
        have hR := Option.some.inj hR; subst hR
        exact hQ _ _ (LS.mk [(8, .sc (.int .i64 0))] (lblks 0 []) 0) (.sc (.int .i64 0)) [] (.inr rfl) (Weak.turnL [] [] rfl rfl (tc (.sc _) tn) mn) (ro1 (rvT (v := .sc (.int .i64 0)) rfl)) rfl rfl (.sc _) pn
theorem ok16 (a : List Measured) (b : List Measured) (least : Int) (r : (List align_Shift) × Int) (hR : align_Whole a b least = some r) : FnP Try.prog 16 [rowV false a, rowV false b, .sc (.int .i64 least)] (.tup [rowV (α := align_Shift) true r.1, .sc (.int .i64 r.2)]) := by
  refine fnP_of (FnX.walk Try.func16 rfl 47 0 (by simp [Try.ntmps16]) rfl fun W S F Q hQ => ?_)
  unfold align_Whole at hR
  refine AWP.sq ?_
  refine AWP.rgC 8 rfl rfl ?_
  refine pu (v := .sc _) rfl rfl (fun _ => rfl) ?_
  refine pu (v := .sc _) rfl rfl (fun _ => rfl) ?_
  refine RunC.fin ?_
  refine AWP.sq ?_
  refine AWP.sq ?_
  refine AWP.rgC 28 rfl rfl ?_
  refine pu (v := rowV _ a) rfl rfl (fun _ => rfl) ?_
  refine pu (v := rowV _ b) rfl rfl (fun _ => rfl) ?_
  refine pu (v := .sc _) rfl rfl (fun _ => rfl) ?_
  obtain ⟨r1, hr1, hR⟩ := bindE hR
  refine cls [] rfl rfl cb12 (ok12 a b 24 least _ hr1) (.cons ldR' (.cons ldR' (.cons (.sc _) (.cons (.sc _) (.nil))))) (.inr rfl) rfl ?_
  refine pu (v := .sc _) rfl rfl (fun _ => rfl) ?_
  refine RunC.fin ?_
  refine AWP.sq ?_
  refine AWP.rgC 36 rfl rfl ?_
  refine pu (v := .sc _) rfl rfl (fun _ => rfl) ?_
  refine pu (v := .sc _) rfl rfl (fun _ => rfl) ?_
  refine RunC.fin ?_
  refine AWP.cd hR rfl (fun h2 hR => ?_) fun h2 hR => ?_
  · refine AWP.sq ?_
    refine AWP.rgC 48 rfl rfl ?_
    refine pu (v := .sc _) rfl rfl (fun _ => rfl) ?_
    refine pu (v := .sc _) rfl rfl (fun _ => rfl) ?_
    refine pu (v := .sc _) rfl rfl (fun _ => rfl) ?_
    refine RunC.fin ?_
    refine AWP.ret ?_
    refine rtT ?_
    have hR := Option.some.inj hR; subst hR
    exact hQ _ _ (LS.mk [(6, rowV (α := align_Shift) true []), (7, .sc (.int .i64 r1))] (lblks 0 []) 0) (.tup [rowV (α := align_Shift) true [], .sc (.int .i64 r1)]) [] (.inr rfl) (Weak.turnL [] [] rfl rfl (tc trN (tc (.sc _) tn)) mn) (ro2 (rvT (v := rowV (α := align_Shift) true []) rfl) (rvT (v := .sc (.int .i64 r1)) rfl)) rfl rfl (.tup (.cons ldR' (.cons (.sc _) .nil))) pn
  · refine AWP.skip ?_
    refine skT ?_
    refine AWP.sq ?_
    refine AWP.rgC 40 rfl rfl ?_
    refine pu (v := .sc _) rfl rfl (fun _ => rfl) ?_
    refine RunC.fin ?_
    refine AWP.sq ?_
    refine AWP.sq ?_
    refine AWP.rgC 44 rfl rfl ?_
    refine pu (v := .sc _) rfl rfl (fun _ => rfl) ?_
    refine RunC.fin ?_
    refine AWP.nilT align_Shift 9 59 rfl ?_
    refine AWP.loopJ (fun s3 : (List align_Shift) × Int => LS.mk [(0, rowV (α := Measured) false a), (1, rowV (α := Measured) false b), (2, .sc (.int .i64 least)), (9, slV align_Shift 0 0 0 s3.1.length), (10, .sc (.int .i64 s3.2))] (lblks 0 [arrB (α := align_Shift) 59 0 true s3.1]) 1) (fun z4 : (List align_Shift) => LS.mk [(9, slV align_Shift 0 0 0 z4.length)] (lblks 0 [arrB (α := align_Shift) 59 0 true z4]) 1) (align_Whole.l1 a b least) hR (s0 := (([] : List align_Shift), (-31))) (Weak.turnL [(44, 0)] [] rfl rfl (tc trR1 (tc trR1 (tc (.sc _) (tc (trS' rfl rfl rfl rfl rfl) (tc (.sc _) tn))))) (mc rfl (btrA' rfl) mn)) (fun s3 o3 hR => ?_) fun z4 hR => ?_
    · unfold align_Whole.l1 at hR
      refine AWP.sq ?_
      refine AWP.sq ?_
      refine AWP.rgC 9 rfl rfl ?_
      refine pu (v := .sc _) rfl rfl (fun _ => rfl) ?_
      refine pu (v := .sc _) rfl rfl (fun _ => rfl) ?_
      refine RunC.fin ?_
      refine AWP.cd hR rfl (fun h5 hR => ?_) fun h5 hR => ?_
      · refine AWP.skip ?_
        refine skT ?_
        refine AWP.sq ?_
        refine AWP.block ?_
        refine AWP.sq ?_
        refine AWP.rgC 13 rfl rfl ?_
        refine pu (v := .sc _) rfl rfl (fun _ => rfl) ?_
        refine RunC.fin ?_
        refine AWP.loopJ (fun s6 : (List align_Shift) × Int => LS.mk [(0, rowV (α := Measured) false a), (1, rowV (α := Measured) false b), (2, .sc (.int .i64 least)), (9, slV align_Shift 0 0 0 s6.1.length), (10, .sc (.int .i64 s3.2)), (11, .sc (.int .i64 s6.2))] (lblks 0 [arrB (α := align_Shift) 59 0 true s6.1]) 1) (fun z7 : (List align_Shift) => LS.mk [(0, rowV (α := Measured) false a), (1, rowV (α := Measured) false b), (2, .sc (.int .i64 least)), (9, slV align_Shift 0 0 0 z7.length), (10, .sc (.int .i64 s3.2))] (lblks 0 [arrB (α := align_Shift) 59 0 true z7]) 1) (align_Whole.l2 a b least s3) hR (s0 := (s3.1, (-31))) (Weak.turnL [(0, 0)] [] rfl rfl (tc trR1 (tc trR1 (tc (.sc _) (tc (trS' rfl rfl rfl rfl rfl) (tc (.sc _) (tc (.sc _) tn)))))) (mc rfl (btrA' rfl) mn)) (fun s6 o6 hR => ?_) fun z7 hR => ?_
        · unfold align_Whole.l2 at hR
          refine AWP.sq ?_
          refine AWP.sq ?_
          refine AWP.rgC 9 rfl rfl ?_
          refine pu (v := .sc _) rfl rfl (fun _ => rfl) ?_
          refine pu (v := .sc _) rfl rfl (fun _ => rfl) ?_
          refine RunC.fin ?_
          refine AWP.cd hR rfl (fun h8 hR => ?_) fun h8 hR => ?_
          · refine AWP.skip ?_
            refine skT ?_
            refine AWP.joinX (fun z9 : (List align_Shift) => LS.mk [(0, rowV (α := Measured) false a), (1, rowV (α := Measured) false b), (2, .sc (.int .i64 least)), (9, slV align_Shift 0 0 0 z9.length), (10, .sc (.int .i64 s3.2)), (11, .sc (.int .i64 s6.2))] (lblks 0 [arrB (α := align_Shift) 59 0 true z9]) 1) hR (fun o9 hR => ?_) fun z9 hR => ?_
            · refine AWP.block ?_
              refine AWP.sq ?_
              refine AWP.rgC 41 rfl rfl ?_
              refine pu (v := rowV _ a) rfl rfl (fun _ => rfl) ?_
              refine pu (v := rowV _ b) rfl rfl (fun _ => rfl) ?_
              refine pu (v := .sc _) rfl rfl (fun _ => rfl) ?_
              refine pu (v := .sc _) rfl rfl (fun _ => rfl) ?_
              refine pu (v := .sc _) rfl rfl (fun _ => rfl) ?_
              refine pu (v := .sc _) rfl rfl (fun _ => rfl) ?_
              obtain ⟨r10, hr10, hR⟩ := bindE hR
              refine cls [] rfl rfl cb22 (ok22 a b (w6 (s6.2 * 256)) (w6 (s3.2 * 256)) _ hr10) (.cons ldR' (.cons ldR' (.cons (.sc _) (.cons (.sc _) (.nil))))) (.inr rfl) rfl ?_
              refine pu (v := rowV _ r10) rfl rfl (fun _ => rfl) ?_
              refine RunC.fin ?_
              refine AWP.sq ?_
              refine AWP.rgC 57 rfl rfl ?_
              refine pu (v := rowV _ r10) rfl rfl (fun _ => rfl) ?_
              obtain ⟨r11, hr11, hR⟩ := bindE hR
              refine cls [] rfl rfl cb23 (ok23 r10 _ hr11) (.cons ldR' (.nil)) (.inr rfl) rfl ?_
              refine pu (v := .sc _) rfl rfl (fun _ => rfl) ?_
              refine pu (v := .sc _) rfl rfl (fun _ => rfl) ?_
              refine RunC.fin ?_
              refine AWP.cd hR rfl (fun h12 hR => ?_) fun h12 hR => ?_
              · refine AWP.rgC 89 rfl rfl ?_
                refine pu (v := slV align_Shift _ _ _ _) rfl rfl (fun _ => rfl) ?_
                refine pu (v := .sc _) rfl rfl (fun _ => rfl) ?_
                refine pu (v := .sc _) rfl rfl (fun _ => rfl) ?_
                refine pu (v := rowV _ r10) rfl rfl (fun _ => rfl) ?_
                refine bu (cs := [.sc (.int .i64 s6.2), .sc (.int .i64 s3.2), rowV (α := align_Pair) true r10]) rfl bt59 rfl ?_
                refine bs (α := align_Shift) 77 true ([align_Shift.mk s6.2 s3.2 r10] : List align_Shift) rfl rfl ti54 rfl ti59 rfl rfl rfl rfl rfl ?_
                obtain ⟨h13, hR⟩ := chkE hR
                refine ap' (α := align_Shift) (nw := true) (xs := s6.1) (ys := ([align_Shift.mk s6.2 s3.2 r10] : List align_Shift)) rfl rfl rfl rfl (srcS' rfl rfl rfl) ti54 rfl ti59 rfl h13 rfl ?_
                refine pu (v := slV align_Shift _ _ _ _) rfl rfl (fun _ => rfl) ?_
                refine RunC.blk ?_
                refine RunC.fin ?_
                have hR := Option.some.inj hR; subst hR
                exact Weak.turnL [(0, 0)] [] rfl rfl (tc trR1 (tc trR1 (tc (.sc _) (tc (trS' rfl rfl rfl rfl rfl) (tc (.sc _) (tc (.sc _) tn)))))) (mc rfl (btrA' rfl) mn)
              · refine AWP.skip ?_
                refine skB ?_
                refine skT ?_
                have hR := Option.some.inj hR; subst hR
                exact Weak.turnL [(0, 0)] [] rfl rfl (tc trR1 (tc trR1 (tc (.sc _) (tc (trS' rfl rfl rfl rfl rfl) (tc (.sc _) (tc (.sc _) tn)))))) (mc rfl (btrA' rfl) mn)
            · refine AWP.rgC 13 rfl rfl ?_
              refine pu (v := .sc _) rfl rfl (fun _ => rfl) ?_
              refine pu (v := .sc _) rfl rfl (fun _ => rfl) ?_
              refine pu (v := .sc _) rfl rfl (fun _ => rfl) ?_
              refine RunC.fin ?_
              refine ⟨(z9, w6 (s6.2 + 1)), (Option.some.inj hR).symm, ?_⟩
              exact Weak.turnL [(0, 0)] [] rfl rfl (tc trR1 (tc trR1 (tc (.sc _) (tc (trS' rfl rfl rfl rfl rfl) (tc (.sc _) (tc (.sc _) tn)))))) (mc rfl (btrA' rfl) mn)
          · refine AWP.exit ?_
            refine exT ?_
            refine exT ?_
            refine exH (skT ?_)
            refine ⟨s6.1, (Option.some.inj hR).symm, ?_⟩
            exact Weak.turnL [(0, 0)] [] rfl rfl (tc trR1 (tc trR1 (tc (.sc _) (tc (trS' rfl rfl rfl rfl rfl) (tc (.sc _) tn))))) (mc rfl (btrA' rfl) mn)
        · refine skB ?_
          refine skT ?_
          refine AWP.rgC 13 rfl rfl ?_
          refine pu (v := .sc _) rfl rfl (fun _ => rfl) ?_
          refine pu (v := .sc _) rfl rfl (fun _ => rfl) ?_
          refine pu (v := .sc _) rfl rfl (fun _ => rfl) ?_
          refine RunC.fin ?_
          refine ⟨(z7, w6 (s3.2 + 1)), (Option.some.inj hR).symm, ?_⟩
          exact Weak.turnL [(0, 0)] [] rfl rfl (tc trR1 (tc trR1 (tc (.sc _) (tc (trS' rfl rfl rfl rfl rfl) (tc (.sc _) tn))))) (mc rfl (btrA' rfl) mn)
      · refine AWP.exit ?_
        refine exT ?_
        refine exT ?_
        refine exH (skT ?_)
        refine ⟨s3.1, (Option.some.inj hR).symm, ?_⟩
        exact Weak.turnL [(0, 0)] [] rfl rfl (tc (trS' rfl rfl rfl rfl rfl) tn) (mc rfl (btrA' rfl) mn)
    · refine skT ?_
      refine AWP.sq ?_
      refine AWP.rgC 13 rfl rfl ?_
      refine pu (v := slV align_Shift _ _ _ _) rfl rfl (fun _ => rfl) ?_
      refine pu (v := slV align_Shift _ _ _ _) rfl rfl (fun _ => rfl) ?_
      refine pu (v := .sc _) rfl rfl (fun _ => rfl) ?_
      refine RunC.fin ?_
      refine AWP.ret ?_
      have hR := Option.some.inj hR; subst hR
      exact hQ _ _ (LS.mk [(6, rowV (α := align_Shift) true z4), (7, .sc (.int .i64 0))] (lblks 0 []) 0) (.tup [rowV (α := align_Shift) true z4, .sc (.int .i64 0)]) [] (.inr rfl) (Weak.turnL [] [0] rfl rfl (tc (trF' rfl rfl id rfl) (tc (.sc _) tn)) mn) (ro2 (rvT (v := rowV (α := align_Shift) true z4) rfl) (rvT (v := .sc (.int .i64 0)) rfl)) rfl rfl (.tup (.cons ldR' (.cons (.sc _) .nil))) pn
theorem ok17 (x : Int) (r : Bound) (hR : spykeep4_at x = some r) : FnP Try.prog 17 [.sc (.int .i64 x)] (aggV (α := Bound) true r) := by
  refine fnP_of (FnX.walk Try.func17 rfl 6 0 (by simp [Try.ntmps17]) rfl fun W S F Q hQ => ?_)
  unfold spykeep4_at at hR
  refine AWP.sq ?_
  refine AWP.rgC 4 rfl rfl ?_
  refine al (cs := [.sc (.int .i64 0), .sc (.int .i64 0), .sc (.bool false)]) 0 rfl rfl ti35 rfl rfl ?_
  refine RunC.fin ?_
  refine AWP.sq ?_
  refine AWP.rgC 20 rfl rfl ?_
  refine pu (v := .sc _) rfl rfl (fun _ => rfl) ?_
  refine pu (v := .sc _) rfl rfl (fun _ => rfl) ?_
  refine bu (cs := [.sc (.int .i64 x), .sc (.int .i64 x), .sc (.bool false)]) rfl bt35 rfl ?_
  refine stB (cs' := [.sc (.int .i64 x), .sc (.int .i64 x), .sc (.bool false)]) rfl rfl rfl rfl ti35 rfl rfl rfl rfl rfl ?_
  refine RunC.fin ?_
  refine AWP.ret ?_
  have hR := Option.some.inj hR; subst hR
  exact hQ _ _ (LS.mk [(2, .ptr 0 0 0)] (lblks 0 [boxB (α := Bound) true (Bound.mk x x false)]) 1) (aggV (α := Bound) true (Bound.mk x x false)) [] (.inr rfl) (Weak.turnL [(0, 0)] [] rfl rfl (tc (trP' rfl rfl rfl rfl) tn) (mc rfl (.box rfl (.cons (.sc _) (.cons (.sc _) (.cons (.sc _) (.nil)))) rfl) mn)) (ro1 (rvC (v := aggV (α := Bound) true (Bound.mk x x false)) rfl rfl ti35 rfl)) rfl rfl ldA pn
theorem ok15 (a : Bound) (b : Bound) (r : Bound × Bool) (hR : bound_Meet a b = some r) : FnP Try.prog 15 [aggV false a, aggV false b] (.tup [aggV (α := Bound) true r.1, .sc (.bool r.2)]) := by
  refine fnP_of (FnX.walk Try.func15 rfl 42 0 (by simp [Try.ntmps15]) rfl fun W S F Q hQ => ?_)
  unfold bound_Meet at hR
  refine AWP.sq ?_
  refine AWP.rgC 16 rfl rfl ?_
  refine bx (cs := _) 0 rfl rfl rfl ?_
  refine bx (cs := _) 4 rfl rfl rfl ?_
  refine al (cs := [.sc (.int .i64 0), .sc (.int .i64 0), .sc (.bool false)]) 8 rfl rfl ti35 rfl rfl ?_
  refine pu (v := .sc _) rfl rfl (fun _ => rfl) ?_
  refine RunC.fin ?_
  refine AWP.sq ?_
  refine AWP.rgD 40 [0, 1, 0, 7, 15, 31] ⟨[], [some [0], none, some [4], none, some [0], some [4]]⟩ hmix (by kernel_rfl) rfl rfl ?_
  refine ldB (v := .agg _) rfl rfl rfl rfl ti35 rfl rfl ?_
  obtain ⟨r1, hr1, hR⟩ := bindE hR
  refine cls [] rfl rfl cb20 (ok20 a _ hr1) (.cons (.agg (.cons (.sc _) (.cons (.sc _) (.cons (.sc _) (.nil)))) rfl) (.nil)) (.inr rfl) rfl ?_
  refine ldB (v := .agg _) rfl rfl rfl rfl ti35 rfl rfl ?_
  obtain ⟨r2, hr2, hR⟩ := bindE hR
  refine cls [] rfl rfl cb20 (ok20 b _ hr2) (.cons (.agg (.cons (.sc _) (.cons (.sc _) (.cons (.sc _) (.nil)))) rfl) (.nil)) (.inr rfl) rfl ?_
  refine stB (cs' := [.sc (.int .i64 r1.Lo), .sc (.int .i64 r1.Hi), .sc (.bool r1.Unknown)]) rfl rfl rfl rfl ti35 rfl rfl rfl rfl rfl ?_
  refine stB (cs' := [.sc (.int .i64 r2.Lo), .sc (.int .i64 r2.Hi), .sc (.bool r2.Unknown)]) rfl rfl rfl rfl ti35 rfl rfl rfl rfl rfl ?_
  refine RunC.fin ?_
  refine AWP.sq ?_
  refine AWP.block ?_
  refine AWP.sq ?_
  refine AWP.rgC 52 rfl rfl ?_
  refine fa rfl rfl ti35 rfl rfl ti4 rfl ?_
  refine ldB (v := .sc _) rfl rfl rfl rfl ti4 rfl rfl ?_
  refine pu (v := .sc _) rfl rfl (fun _ => rfl) ?_
  refine RunC.fin ?_
  refine AWP.cd hR rfl (fun h3 hR => ?_) fun h3 hR => ?_
  · refine AWP.sq ?_
    refine AWP.rgC 64 rfl rfl ?_
    refine ldB (v := .agg _) rfl rfl rfl rfl ti35 rfl rfl ?_
    refine stB (cs' := [.sc (.int .i64 r2.Lo), .sc (.int .i64 r2.Hi), .sc (.bool r2.Unknown)]) rfl rfl rfl rfl ti35 rfl rfl rfl rfl rfl ?_
    refine pu (v := .sc _) rfl rfl (fun _ => rfl) ?_
    refine RunC.fin ?_
    refine AWP.ret ?_
    refine rtB ?_
    refine rtT ?_
    have hR := Option.some.inj hR; subst hR
    exact hQ _ _ (LS.mk [(4, .ptr 0 0 0), (5, .sc (.bool true))] (lblks 0 [boxB (α := Bound) true r2]) 1) (.tup [aggV (α := Bound) true r2, .sc (.bool true)]) [] (.inr rfl) (Weak.turnL [(8, 0)] [] rfl rfl (tc (trP' rfl rfl rfl rfl) (tc (.sc _) tn)) (mc rfl (.box rfl (.cons (.sc _) (.cons (.sc _) (.cons (.sc _) (.nil)))) rfl) mn)) (ro2 (rvC (v := aggV (α := Bound) true r2) rfl rfl ti35 rfl) (rvT (v := .sc (.bool true)) rfl)) rfl rfl (.tup (.cons ldA (.cons (.sc _) .nil))) pn
  · refine AWP.sq ?_
    refine AWP.rgC 64 rfl rfl ?_
    refine fa rfl rfl ti35 rfl rfl ti4 rfl ?_
    refine ldB (v := .sc _) rfl rfl rfl rfl ti4 rfl rfl ?_
    refine pu (v := .sc _) rfl rfl (fun _ => rfl) ?_
    refine RunC.fin ?_
    refine AWP.cd hR rfl (fun h4 hR => ?_) fun h4 hR => ?_
    · refine AWP.sq ?_
      refine AWP.rgC 76 rfl rfl ?_
      refine ldB (v := .agg _) rfl rfl rfl rfl ti35 rfl rfl ?_
      refine stB (cs' := [.sc (.int .i64 r1.Lo), .sc (.int .i64 r1.Hi), .sc (.bool r1.Unknown)]) rfl rfl rfl rfl ti35 rfl rfl rfl rfl rfl ?_
      refine pu (v := .sc _) rfl rfl (fun _ => rfl) ?_
      refine RunC.fin ?_
      refine AWP.ret ?_
      refine rtB ?_
      refine rtT ?_
      have hR := Option.some.inj hR; subst hR
      exact hQ _ _ (LS.mk [(4, .ptr 0 0 0), (5, .sc (.bool true))] (lblks 0 [boxB (α := Bound) true r1]) 1) (.tup [aggV (α := Bound) true r1, .sc (.bool true)]) [] (.inr rfl) (Weak.turnL [(8, 0)] [] rfl rfl (tc (trP' rfl rfl rfl rfl) (tc (.sc _) tn)) (mc rfl (.box rfl (.cons (.sc _) (.cons (.sc _) (.cons (.sc _) (.nil)))) rfl) mn)) (ro2 (rvC (v := aggV (α := Bound) true r1) rfl rfl ti35 rfl) (rvT (v := .sc (.bool true)) rfl)) rfl rfl (.tup (.cons ldA (.cons (.sc _) .nil))) pn
    · refine AWP.sq ?_
      refine AWP.rgC 112 rfl rfl ?_
      refine fa rfl rfl ti35 rfl rfl ti33 rfl ?_
      refine ldB (v := .sc _) rfl rfl rfl rfl ti33 rfl rfl ?_
      refine fa rfl rfl ti35 rfl rfl ti33 rfl ?_
      refine ldB (v := .sc _) rfl rfl rfl rfl ti33 rfl rfl ?_
      refine pu (v := .sc _) rfl rfl (fun _ => rfl) ?_
      refine fa rfl rfl ti35 rfl rfl ti33 rfl ?_
      refine ldB (v := .sc _) rfl rfl rfl rfl ti33 rfl rfl ?_
      refine fa rfl rfl ti35 rfl rfl ti33 rfl ?_
      refine ldB (v := .sc _) rfl rfl rfl rfl ti33 rfl rfl ?_
      refine pu (v := .sc _) rfl rfl (fun _ => rfl) ?_
      refine pu (v := .sc _) rfl rfl (fun _ => rfl) ?_
      refine pu (v := .sc _) rfl rfl (fun _ => rfl) ?_
      refine RunC.fin ?_
      refine AWP.cd hR rfl (fun h5 hR => ?_) fun h5 hR => ?_
      · refine AWP.sq ?_
        refine AWP.rgC 124 rfl rfl ?_
        refine bu (cs := [.sc (.int .i64 0), .sc (.int .i64 0), .sc (.bool false)]) rfl bt35 rfl ?_
        refine stB (cs' := [.sc (.int .i64 0), .sc (.int .i64 0), .sc (.bool false)]) rfl rfl rfl rfl ti35 rfl rfl rfl rfl rfl ?_
        refine pu (v := .sc _) rfl rfl (fun _ => rfl) ?_
        refine RunC.fin ?_
        refine AWP.ret ?_
        refine rtB ?_
        refine rtT ?_
        have hR := Option.some.inj hR; subst hR
        exact hQ _ _ (LS.mk [(4, .ptr 0 0 0), (5, .sc (.bool false))] (lblks 0 [boxB (α := Bound) true (Bound.mk 0 0 false)]) 1) (.tup [aggV (α := Bound) true (Bound.mk 0 0 false), .sc (.bool false)]) [] (.inr rfl) (Weak.turnL [(8, 0)] [] rfl rfl (tc (trP' rfl rfl rfl rfl) (tc (.sc _) tn)) (mc rfl (.box rfl (.cons (.sc _) (.cons (.sc _) (.cons (.sc _) (.nil)))) rfl) mn)) (ro2 (rvC (v := aggV (α := Bound) true (Bound.mk 0 0 false)) rfl rfl ti35 rfl) (rvT (v := .sc (.bool false)) rfl)) rfl rfl (.tup (.cons ldA (.cons (.sc _) .nil))) pn
      · refine AWP.skip ?_
        refine skB ?_
        refine skT ?_
        refine AWP.sq ?_
        refine AWP.rgC 164 rfl rfl ?_
        refine fa rfl rfl ti35 rfl rfl ti33 rfl ?_
        refine ldB (v := .sc _) rfl rfl rfl rfl ti33 rfl rfl ?_
        refine fa rfl rfl ti35 rfl rfl ti33 rfl ?_
        refine ldB (v := .sc _) rfl rfl rfl rfl ti33 rfl rfl ?_
        refine pu (v := .sc _) rfl rfl (fun _ => rfl) ?_
        refine fa rfl rfl ti35 rfl rfl ti33 rfl ?_
        refine ldB (v := .sc _) rfl rfl rfl rfl ti33 rfl rfl ?_
        refine fa rfl rfl ti35 rfl rfl ti33 rfl ?_
        refine ldB (v := .sc _) rfl rfl rfl rfl ti33 rfl rfl ?_
        refine pu (v := .sc _) rfl rfl (fun _ => rfl) ?_
        obtain ⟨r6, hr6, hR⟩ := bindE hR
        refine cls [] rfl rfl cb21 (ok21 (mx2 r1.Lo r2.Lo) (mn2 r1.Hi r2.Hi) _ hr6) (.cons (.sc _) (.cons (.sc _) (.nil))) (.inr rfl) rfl ?_
        refine stB (cs' := [.sc (.int .i64 r6.Lo), .sc (.int .i64 r6.Hi), .sc (.bool r6.Unknown)]) rfl rfl rfl rfl ti35 rfl rfl rfl rfl rfl ?_
        refine pu (v := .sc _) rfl rfl (fun _ => rfl) ?_
        refine RunC.fin ?_
        refine AWP.ret ?_
        have hR := Option.some.inj hR; subst hR
        exact hQ _ _ (LS.mk [(4, .ptr 0 0 0), (5, .sc (.bool true))] (lblks 0 [boxB (α := Bound) true r6]) 1) (.tup [aggV (α := Bound) true r6, .sc (.bool true)]) [] (.inr rfl) (Weak.turnL [(8, 0)] [] rfl rfl (tc (trP' rfl rfl rfl rfl) (tc (.sc _) tn)) (mc rfl (.box rfl (.cons (.sc _) (.cons (.sc _) (.cons (.sc _) (.nil)))) rfl) mn)) (ro2 (rvC (v := aggV (α := Bound) true r6) rfl rfl ti35 rfl) (rvT (v := .sc (.bool true)) rfl)) rfl rfl (.tup (.cons ldA (.cons (.sc _) .nil))) pn
theorem ok11 (x : Int) (n : Int) (r : Int) (hR : spymake_Below x n = some r) : FnP Try.prog 11 [.sc (.int .i64 x), .sc (.int .i64 n)] (.sc (.int .i64 r)) := by
  refine fnP_of (FnX.walk Try.func11 rfl 16 0 (by simp [Try.ntmps11]) rfl fun W S F Q hQ => ?_)
  unfold spymake_Below at hR
  refine AWP.sq ?_
  refine AWP.rgC 4 rfl rfl ?_
  refine pu (v := .sc _) rfl rfl (fun _ => rfl) ?_
  refine RunC.fin ?_
  refine AWP.sq ?_
  refine AWP.sq ?_
  refine AWP.rgC 12 rfl rfl ?_
  refine pu (v := .sc _) rfl rfl (fun _ => rfl) ?_
  refine pu (v := .sc _) rfl rfl (fun _ => rfl) ?_
  refine RunC.fin ?_
  refine AWP.cd hR rfl (fun h1 hR => ?_) fun h1 hR => ?_
  · refine AWP.sq ?_
    refine AWP.rgC 16 rfl rfl ?_
    refine pu (v := .sc _) rfl rfl (fun _ => rfl) ?_
    refine RunC.fin ?_
    refine AWP.ret ?_
    refine rtT ?_
    have hR := Option.some.inj hR; subst hR
    exact hQ _ _ (LS.mk [(4, .sc (.int .i64 0))] (lblks 0 []) 0) (.sc (.int .i64 0)) [] (.inr rfl) (Weak.turnL [] [] rfl rfl (tc (.sc _) tn) mn) (ro1 (rvT (v := .sc (.int .i64 0)) rfl)) rfl rfl (.sc _) pn
  · refine AWP.skip ?_
    refine skT ?_
    refine AWP.sq ?_
    refine AWP.rgC 28 rfl rfl ?_
    refine pu (v := .sc _) rfl rfl (fun _ => rfl) ?_
    refine pu (v := .sc _) rfl rfl (fun _ => rfl) ?_
    obtain ⟨h2, hR⟩ := chkE hR
    refine rm rfl rfl rfl h2 rfl ?_
    refine pu (v := .sc _) rfl rfl (fun _ => rfl) ?_
    refine RunC.fin ?_
    refine AWP.sq ?_
    refine AWP.sq ?_
    refine AWP.rgC 36 rfl rfl ?_
    refine pu (v := .sc _) rfl rfl (fun _ => rfl) ?_
    refine pu (v := .sc _) rfl rfl (fun _ => rfl) ?_
    refine RunC.fin ?_
    refine AWP.cd hR rfl (fun h3 hR => ?_) fun h3 hR => ?_
    · refine AWP.rgC 52 rfl rfl ?_
      refine pu (v := .sc _) rfl rfl (fun _ => rfl) ?_
      refine pu (v := .sc _) rfl rfl (fun _ => rfl) ?_
      refine pu (v := .sc _) rfl rfl (fun _ => rfl) ?_
      refine pu (v := .sc _) rfl rfl (fun _ => rfl) ?_
      refine RunC.fin ?_
      refine AWP.sq ?_
      refine AWP.rgC 60 rfl rfl ?_
      refine pu (v := .sc _) rfl rfl (fun _ => rfl) ?_
      refine pu (v := .sc _) rfl rfl (fun _ => rfl) ?_
      refine RunC.fin ?_
      refine AWP.ret ?_
      have hR := Option.some.inj hR; subst hR
      exact hQ _ _ (LS.mk [(4, .sc (.int .i64 (w6 ((Int.tmod x n) + n))))] (lblks 0 []) 0) (.sc (.int .i64 (w6 ((Int.tmod x n) + n)))) [] (.inr rfl) (Weak.turnL [] [] rfl rfl (tc (.sc _) tn) mn) (ro1 (rvT (v := .sc (.int .i64 (w6 ((Int.tmod x n) + n)))) rfl)) rfl rfl (.sc _) pn
    · refine AWP.skip ?_
      refine skT ?_
      refine AWP.sq ?_
      refine AWP.rgC 44 rfl rfl ?_
      refine pu (v := .sc _) rfl rfl (fun _ => rfl) ?_
      refine pu (v := .sc _) rfl rfl (fun _ => rfl) ?_
      refine RunC.fin ?_
      refine AWP.ret ?_
      have hR := Option.some.inj hR; subst hR
      exact hQ _ _ (LS.mk [(4, .sc (.int .i64 (Int.tmod x n)))] (lblks 0 []) 0) (.sc (.int .i64 (Int.tmod x n))) [] (.inr rfl) (Weak.turnL [] [] rfl rfl (tc (.sc _) tn) mn) (ro1 (rvT (v := .sc (.int .i64 (Int.tmod x n))) rfl)) rfl rfl (.sc _) pn
theorem ok6 (s : spymake_Stream) (n : Int) (r : Int × spymake_Stream) (hR : Stream_Next s n = some r) : FnD Try.prog 6 [boxB false s] [.ptr 0 0 0, .sc (.int .i64 n)] (.sc (.int .i64 r.1)) [boxB false r.2] := by
  refine FnX.walk Try.func6 rfl 64 1 (by simp [Try.ntmps6]) rfl fun W S F Q hQ => ?_
  unfold Stream_Next at hR
  refine AWP.sq ?_
  refine AWP.rgC 5 rfl rfl ?_
  refine pu (v := .sc _) rfl rfl (fun _ => rfl) ?_
  refine RunC.fin ?_
  refine AWP.sq ?_
  refine AWP.rgC 37 rfl rfl ?_
  refine pu (v := .ptr _ _ _) rfl rfl (fun _ => rfl) ?_
  refine pu (v := .ptr _ _ _) rfl rfl (fun _ => rfl) ?_
  refine fa rfl rfl ti25 rfl rfl ti3 rfl ?_
  refine ldB (v := .sc _) rfl rfl rfl rfl ti3 rfl rfl ?_
  refine pu (v := .sc _) rfl rfl (fun _ => rfl) ?_
  refine pu (v := .ptr _ _ _) rfl rfl (fun _ => rfl) ?_
  refine fa rfl rfl ti25 rfl rfl ti3 rfl ?_
  refine stB (cs' := [rowV (α := Int) false s.L, .sc (.int .i64 (w6 (s.at_ + 1)))]) rfl rfl rfl rfl ti3 rfl rfl rfl rfl rfl ?_
  refine RunC.fin ?_
  refine AWP.sq ?_
  refine AWP.sq ?_
  refine AWP.rgC 61 rfl rfl ?_
  refine pu (v := .ptr _ _ _) rfl rfl (fun _ => rfl) ?_
  refine pu (v := .ptr _ _ _) rfl rfl (fun _ => rfl) ?_
  refine fa rfl rfl ti25 rfl rfl ti22 rfl ?_
  refine ldB (v := rowV _ s.L) rfl rfl rfl rfl ti22 rfl rfl ?_
  refine lenL (α := Int) rfl rfl ti22 rfl ?_
  refine pu (v := .sc _) rfl rfl (fun _ => rfl) ?_
  refine RunC.fin ?_
  refine AWP.cd hR rfl (fun h1 hR => ?_) fun h1 hR => ?_
  · refine AWP.sq ?_
    refine AWP.rgC 93 rfl rfl ?_
    refine pu (v := .ptr _ _ _) rfl rfl (fun _ => rfl) ?_
    refine pu (v := .ptr _ _ _) rfl rfl (fun _ => rfl) ?_
    refine fa rfl rfl ti25 rfl rfl ti3 rfl ?_
    refine ldB (v := .sc _) rfl rfl rfl rfl ti3 rfl rfl ?_
    refine pu (v := .sc _) rfl rfl (fun _ => rfl) ?_
    refine pu (v := .sc _) rfl rfl (fun _ => rfl) ?_
    obtain ⟨r2, hr2, hR⟩ := bindE hR
    refine cls [] rfl rfl cb11 (ok11 (w6 ((w6 (s.at_ + 1)) * 7919)) n _ hr2) (.cons (.sc _) (.cons (.sc _) (.nil))) (.inr rfl) rfl ?_
    refine pu (v := .sc _) rfl rfl (fun _ => rfl) ?_
    refine RunC.fin ?_
    refine AWP.ret ?_
    refine rtT ?_
    have hR := Option.some.inj hR; subst hR
    exact hQ _ _ (LS.mk [(4, .sc (.int .i64 r2))] (lblks 0 [boxB (α := spymake_Stream) false (spymake_Stream.mk s.L (w6 (s.at_ + 1)))]) 1) (.sc (.int .i64 r2)) [] (.inr rfl) (Weak.turnL [(0, 0)] [] rfl rfl (tc (.sc _) tn) (mc rfl (.box rfl (.cons trR1 (.cons (.sc _) (.nil))) rfl) mn)) (ro1 (rvT (v := .sc (.int .i64 r2)) rfl)) rfl rfl (.sc _) (pc rfl bldB pn)
  · refine AWP.skip ?_
    refine skT ?_
    refine AWP.sq ?_
    refine AWP.rgD 109 [0, 1, 3, 7, 15, 0, 32, 96, 224, 480, 1023, 2047] ⟨[], [none, none, none, some [0], none, none, none, none, some [0], none, none, none]⟩ hmix (by kernel_rfl) rfl rfl ?_
    refine pu (v := .ptr _ _ _) rfl rfl (fun _ => rfl) ?_
    refine pu (v := .ptr _ _ _) rfl rfl (fun _ => rfl) ?_
    refine fa rfl rfl ti25 rfl rfl ti3 rfl ?_
    refine ldB (v := .sc _) rfl rfl rfl rfl ti3 rfl rfl ?_
    refine pu (v := .sc _) rfl rfl (fun _ => rfl) ?_
    refine pu (v := .ptr _ _ _) rfl rfl (fun _ => rfl) ?_
    refine pu (v := .ptr _ _ _) rfl rfl (fun _ => rfl) ?_
    refine fa rfl rfl ti25 rfl rfl ti22 rfl ?_
    refine ldB (v := rowV _ s.L) rfl rfl rfl rfl ti22 rfl rfl ?_
    refine lenL (α := Int) rfl rfl ti22 rfl ?_
    obtain ⟨h3, hR⟩ := chkE hR
    refine rm rfl rfl rfl h3 rfl ?_
    refine pu (v := .sc _) rfl rfl (fun _ => rfl) ?_
    refine RunC.fin ?_
    refine AWP.sq ?_
    refine AWP.rgD 157 [0, 1, 3, 7, 15, 0, 32, 96, 224, 480, 1023, 2047] ⟨[], [none, none, none, some [0], none, none, none, none, some [0], none, none, none]⟩ hmix (by kernel_rfl) rfl rfl ?_
    refine pu (v := .ptr _ _ _) rfl rfl (fun _ => rfl) ?_
    refine pu (v := .ptr _ _ _) rfl rfl (fun _ => rfl) ?_
    refine fa rfl rfl ti25 rfl rfl ti3 rfl ?_
    refine ldB (v := .sc _) rfl rfl rfl rfl ti3 rfl rfl ?_
    refine pu (v := .sc _) rfl rfl (fun _ => rfl) ?_
    refine pu (v := .ptr _ _ _) rfl rfl (fun _ => rfl) ?_
    refine pu (v := .ptr _ _ _) rfl rfl (fun _ => rfl) ?_
    refine fa rfl rfl ti25 rfl rfl ti22 rfl ?_
    refine ldB (v := rowV _ s.L) rfl rfl rfl rfl ti22 rfl rfl ?_
    refine lenL (α := Int) rfl rfl ti22 rfl ?_
    refine qu rfl rfl rfl h3 rfl ?_
    refine pu (v := .sc _) rfl rfl (fun _ => rfl) ?_
    refine RunC.fin ?_
    refine AWP.sq ?_
    refine AWP.rgC 221 rfl rfl ?_
    refine pu (v := .ptr _ _ _) rfl rfl (fun _ => rfl) ?_
    refine pu (v := .ptr _ _ _) rfl rfl (fun _ => rfl) ?_
    refine fa rfl rfl ti25 rfl rfl ti22 rfl ?_
    refine ldB (v := rowV _ s.L) rfl rfl rfl rfl ti22 rfl rfl ?_
    refine pu (v := .sc _) rfl rfl (fun _ => rfl) ?_
    obtain ⟨h4, hR⟩ := chkE hR
    refine ixL (α := Int) rfl rfl rfl ti22 rfl ti3 rfl h4 ?_
    refine ldR (v := .sc _) rfl rfl ti3 rfl ?_
    obtain ⟨r5, hr5, hR⟩ := bindE hR
    refine cls [] rfl rfl cb11 (ok11 (gt s.L (Int.tmod (w6 ((w6 (s.at_ + 1)) - 1)) (s.L.length : Int))) 1073741824 _ hr5) (.cons (.sc _) (.cons (.sc _) (.nil))) (.inr rfl) rfl ?_
    refine pu (v := .sc _) rfl rfl (fun _ => rfl) ?_
    refine pu (v := .sc _) rfl rfl (fun _ => rfl) ?_
    obtain ⟨v6, ev6, hR⟩ := letE hR
    refine pu (v := .sc _) rfl rfl (fun _ => puI ev6) ?_
    obtain ⟨v7, ev7, hR⟩ := letE hR
    refine pu (v := .sc _) rfl rfl (fun _ => puI ev7) ?_
    refine pu (v := .sc _) rfl rfl (fun _ => rfl) ?_
    refine pu (v := .sc _) rfl rfl (fun _ => rfl) ?_
    obtain ⟨r8, hr8, hR⟩ := bindE hR
    refine cls [] rfl rfl cb11 (ok11 (w6 (r5 + v7)) n _ hr8) (.cons (.sc _) (.cons (.sc _) (.nil))) (.inr rfl) rfl ?_
    refine pu (v := .sc _) rfl rfl (fun _ => rfl) ?_
    refine RunC.fin ?_
    refine AWP.ret ?_
    have hR := Option.some.inj hR; subst hR
    exact hQ _ _ (LS.mk [(4, .sc (.int .i64 r8))] (lblks 0 [boxB (α := spymake_Stream) false (spymake_Stream.mk s.L (w6 (s.at_ + 1)))]) 1) (.sc (.int .i64 r8)) [] (.inr rfl) (Weak.turnL [(0, 0)] [] rfl rfl (tc (.sc _) tn) (mc rfl (.box rfl (.cons trR1 (.cons (.sc _) (.nil))) rfl) mn)) (ro1 (rvT (v := .sc (.int .i64 r8)) rfl)) rfl rfl (.sc _) (pc rfl bldB pn)
theorem ok5 (s : spymake_Stream) (low : Int) (high : Int) (r : Int × spymake_Stream) (hR : Stream_Range s low high = some r) : FnD Try.prog 5 [boxB false s] [.ptr 0 0 0, .sc (.int .i64 low), .sc (.int .i64 high)] (.sc (.int .i64 r.1)) [boxB false r.2] := by
  refine FnX.walk Try.func5 rfl 19 1 (by simp [Try.ntmps5]) rfl fun W S F Q hQ => ?_
  unfold Stream_Range at hR
  refine AWP.sq ?_
  refine AWP.rgC 5 rfl rfl ?_
  refine pu (v := .sc _) rfl rfl (fun _ => rfl) ?_
  refine RunC.fin ?_
  refine AWP.sq ?_
  refine AWP.sq ?_
  refine AWP.rgC 17 rfl rfl ?_
  refine pu (v := .sc _) rfl rfl (fun _ => rfl) ?_
  refine pu (v := .sc _) rfl rfl (fun _ => rfl) ?_
  refine pu (v := .sc _) rfl rfl (fun _ => rfl) ?_
  refine RunC.fin ?_
  refine AWP.cd hR rfl (fun h1 hR => ?_) fun h1 hR => ?_
  · refine AWP.sq ?_
    refine AWP.rgC 25 rfl rfl ?_
    refine pu (v := .sc _) rfl rfl (fun _ => rfl) ?_
    refine pu (v := .sc _) rfl rfl (fun _ => rfl) ?_
    refine RunC.fin ?_
    refine AWP.ret ?_
    refine rtT ?_
    have hR := Option.some.inj hR; subst hR
    exact hQ _ _ (LS.mk [(6, .sc (.int .i64 low))] (lblks 0 [boxB (α := spymake_Stream) false s]) 1) (.sc (.int .i64 low)) [] (.inr rfl) (Weak.turnL [(0, 0)] [] rfl rfl (tc (.sc _) tn) (mc rfl (.box rfl (.cons trR1 (.cons (.sc _) (.nil))) rfl) mn)) (ro1 (rvT (v := .sc (.int .i64 low)) rfl)) rfl rfl (.sc _) (pc rfl bldB pn)
  · refine AWP.skip ?_
    refine skT ?_
    refine AWP.sq ?_
    refine AWP.rgC 53 rfl rfl ?_
    refine pu (v := .sc _) rfl rfl (fun _ => rfl) ?_
    refine pu (v := .ptr _ _ _) rfl rfl (fun _ => rfl) ?_
    refine pu (v := .sc _) rfl rfl (fun _ => rfl) ?_
    refine pu (v := .sc _) rfl rfl (fun _ => rfl) ?_
    refine pu (v := .sc _) rfl rfl (fun _ => rfl) ?_
    refine pu (v := .sc _) rfl rfl (fun _ => rfl) ?_
    obtain ⟨r2, hr2, hR⟩ := bindE hR
    refine cps (res' := .sc (.int .i64 r2.1)) (ups := [(0, boxB (α := spymake_Stream) false r2.2)]) [0] 41 rfl rfl rfl cb6 (ok6 s (w6 ((w6 (high - low)) + 1)) _ hr2) (.cons (ldP rfl rfl) (.cons (.sc _) (.nil))) (pc rfl (.box (.cons ldR' (.cons (.sc _) (.nil))) rfl) pn) rfl rfl rfl rfl rfl (by first | rfl | exact renR | exact renA | exact renS | simp only [V.ren, V.rens, renR, renA, renS] | (simp only [V.ren, V.rens, renR, renA, renS]; rfl)) (by simp only [passUps, renBox, renArr]; rfl) ?_
    refine pu (v := .sc _) rfl rfl (fun _ => rfl) ?_
    refine pu (v := .sc _) rfl rfl (fun _ => rfl) ?_
    refine RunC.fin ?_
    refine AWP.ret ?_
    have hR := Option.some.inj hR; subst hR
    exact hQ _ _ (LS.mk [(6, .sc (.int .i64 (w6 (low + r2.1))))] (lblks 0 [boxB (α := spymake_Stream) false r2.2]) 1) (.sc (.int .i64 (w6 (low + r2.1)))) [] (.inr rfl) (Weak.turnL [(0, 0)] [] rfl rfl (tc (.sc _) tn) (mc rfl (.box rfl (.cons trR1 (.cons (.sc _) (.nil))) rfl) mn)) (ro1 (rvT (v := .sc (.int .i64 (w6 (low + r2.1)))) rfl)) rfl rfl (.sc _) (pc rfl bldB pn)
theorem ok10 (s : spymake_Stream) (most : Int) (r : Bound × spymake_Stream) (hR : spymake_Bound s most = some r) : FnD Try.prog 10 [boxB false s] [.ptr 0 0 0, .sc (.int .i64 most)] (aggV (α := Bound) true r.1) [boxB false r.2] := by
  refine FnX.walk Try.func10 rfl 40 1 (by simp [Try.ntmps10]) rfl fun W S F Q hQ => ?_
  unfold spymake_Bound at hR
  refine AWP.sq ?_
  refine AWP.rgC 5 rfl rfl ?_
  refine al (cs := [.sc (.int .i64 0), .sc (.int .i64 0), .sc (.bool false)]) 1 rfl rfl ti44 rfl rfl ?_
  refine RunC.fin ?_
  refine AWP.sq ?_
  refine AWP.sq ?_
  refine AWP.rgC 13 rfl rfl ?_
  refine pu (v := .ptr _ _ _) rfl rfl (fun _ => rfl) ?_
  obtain ⟨r1, hr1, hR⟩ := bindE hR
  refine cps (res' := .sc (.int .i64 r1.1)) (ups := [(0, boxB (α := spymake_Stream) false r1.2)]) [0] 9 rfl rfl rfl cb6 (ok6 s 8 _ hr1) (.cons (ldP rfl rfl) (.cons (.sc _) (.nil))) (pc rfl (.box (.cons ldR' (.cons (.sc _) (.nil))) rfl) pn) rfl rfl rfl rfl rfl (by first | rfl | exact renR | exact renA | exact renS | simp only [V.ren, V.rens, renR, renA, renS] | (simp only [V.ren, V.rens, renR, renA, renS]; rfl)) (by simp only [passUps, renBox, renArr]; rfl) ?_
  refine RunC.fin ?_
  refine AWP.block ?_
  refine AWP.sq ?_
  refine AWP.rgC 21 rfl rfl ?_
  refine pu (v := .sc _) rfl rfl (fun _ => rfl) ?_
  refine pu (v := .sc _) rfl rfl (fun _ => rfl) ?_
  refine RunC.fin ?_
  refine AWP.cd hR rfl (fun h2 hR => ?_) fun h2 hR => ?_
  · refine AWP.sq ?_
    refine AWP.rgC 29 rfl rfl ?_
    refine bu (cs := [.sc (.int .i64 0), .sc (.int .i64 0), .sc (.bool true)]) rfl bt44 rfl ?_
    refine stB (cs' := [.sc (.int .i64 0), .sc (.int .i64 0), .sc (.bool true)]) rfl rfl rfl rfl ti44 rfl rfl rfl rfl rfl ?_
    refine RunC.fin ?_
    refine AWP.ret ?_
    refine rtB ?_
    refine rtT ?_
    have hR := Option.some.inj hR; subst hR
    exact hQ _ _ (LS.mk [(4, .ptr 1 0 0)] (lblks 0 [boxB (α := spymake_Stream) false r1.2, boxB (α := Bound) true (Bound.mk 0 0 true)]) 2) (aggV (α := Bound) true (Bound.mk 0 0 true)) [] (.inr rfl) (Weak.turnL [(0, 0), (1, 0)] [] rfl rfl (tc (trP' rfl rfl rfl rfl) tn) (mc rfl (.box rfl (.cons trR1 (.cons (.sc _) (.nil))) rfl) (mc rfl (.box rfl (.cons (.sc _) (.cons (.sc _) (.cons (.sc _) (.nil)))) rfl) mn))) (ro1 (rvC (v := aggV (α := Bound) true (Bound.mk 0 0 true)) rfl rfl ti44 rfl)) rfl rfl ldA (pc rfl bldB pn)
  · refine AWP.sq ?_
    refine AWP.rgC 29 rfl rfl ?_
    refine pu (v := .sc _) rfl rfl (fun _ => rfl) ?_
    refine pu (v := .sc _) rfl rfl (fun _ => rfl) ?_
    refine RunC.fin ?_
    refine AWP.cd hR rfl (fun h3 hR => ?_) fun h3 hR => ?_
    · refine AWP.sq ?_
      refine AWP.rgC 53 rfl rfl ?_
      refine pu (v := .ptr _ _ _) rfl rfl (fun _ => rfl) ?_
      refine pu (v := .sc _) rfl rfl (fun _ => rfl) ?_
      refine pu (v := .sc _) rfl rfl (fun _ => rfl) ?_
      refine pu (v := .sc _) rfl rfl (fun _ => rfl) ?_
      obtain ⟨r4, hr4, hR⟩ := bindE hR
      refine cps (res' := .sc (.int .i64 r4.1)) (ups := [(0, boxB (α := spymake_Stream) false r4.2)]) [0] 45 rfl rfl rfl cb5 (ok5 r1.2 (w6 (0 - most)) most _ hr4) (.cons (ldP rfl rfl) (.cons (.sc _) (.cons (.sc _) (.nil)))) (pc rfl (.box (.cons ldR' (.cons (.sc _) (.nil))) rfl) pn) rfl rfl rfl rfl rfl (by first | rfl | exact renR | exact renA | exact renS | simp only [V.ren, V.rens, renR, renA, renS] | (simp only [V.ren, V.rens, renR, renA, renS]; rfl)) (by simp only [passUps, renBox, renArr]; rfl) ?_
      refine pu (v := .sc _) rfl rfl (fun _ => rfl) ?_
      refine RunC.fin ?_
      refine AWP.sq ?_
      refine AWP.rgC 69 rfl rfl ?_
      refine pu (v := .sc _) rfl rfl (fun _ => rfl) ?_
      refine pu (v := .sc _) rfl rfl (fun _ => rfl) ?_
      refine bu (cs := [.sc (.int .i64 r4.1), .sc (.int .i64 r4.1), .sc (.bool false)]) rfl bt44 rfl ?_
      refine stB (cs' := [.sc (.int .i64 r4.1), .sc (.int .i64 r4.1), .sc (.bool false)]) rfl rfl rfl rfl ti44 rfl rfl rfl rfl rfl ?_
      refine RunC.fin ?_
      refine AWP.ret ?_
      refine rtB ?_
      refine rtT ?_
      have hR := Option.some.inj hR; subst hR
      exact hQ _ _ (LS.mk [(4, .ptr 1 0 0)] (lblks 0 [boxB (α := spymake_Stream) false r4.2, boxB (α := Bound) true (Bound.mk r4.1 r4.1 false)]) 2) (aggV (α := Bound) true (Bound.mk r4.1 r4.1 false)) [] (.inr rfl) (Weak.turnL [(0, 0), (1, 0)] [] rfl rfl (tc (trP' rfl rfl rfl rfl) tn) (mc rfl (.box rfl (.cons trR1 (.cons (.sc _) (.nil))) rfl) (mc rfl (.box rfl (.cons (.sc _) (.cons (.sc _) (.cons (.sc _) (.nil)))) rfl) mn))) (ro1 (rvC (v := aggV (α := Bound) true (Bound.mk r4.1 r4.1 false)) rfl rfl ti44 rfl)) rfl rfl ldA (pc rfl bldB pn)
    · refine AWP.skip ?_
      refine skB ?_
      refine skT ?_
      refine AWP.sq ?_
      refine AWP.rgC 77 rfl rfl ?_
      refine pu (v := .ptr _ _ _) rfl rfl (fun _ => rfl) ?_
      refine pu (v := .sc _) rfl rfl (fun _ => rfl) ?_
      refine pu (v := .sc _) rfl rfl (fun _ => rfl) ?_
      refine pu (v := .sc _) rfl rfl (fun _ => rfl) ?_
      obtain ⟨r5, hr5, hR⟩ := bindE hR
      refine cps (res' := .sc (.int .i64 r5.1)) (ups := [(0, boxB (α := spymake_Stream) false r5.2)]) [0] 45 rfl rfl rfl cb5 (ok5 r1.2 (w6 (0 - most)) most _ hr5) (.cons (ldP rfl rfl) (.cons (.sc _) (.cons (.sc _) (.nil)))) (pc rfl (.box (.cons ldR' (.cons (.sc _) (.nil))) rfl) pn) rfl rfl rfl rfl rfl (by first | rfl | exact renR | exact renA | exact renS | simp only [V.ren, V.rens, renR, renA, renS] | (simp only [V.ren, V.rens, renR, renA, renS]; rfl)) (by simp only [passUps, renBox, renArr]; rfl) ?_
      refine pu (v := .ptr _ _ _) rfl rfl (fun _ => rfl) ?_
      refine pu (v := .sc _) rfl rfl (fun _ => rfl) ?_
      refine pu (v := .sc _) rfl rfl (fun _ => rfl) ?_
      refine pu (v := .sc _) rfl rfl (fun _ => rfl) ?_
      obtain ⟨r6, hr6, hR⟩ := bindE hR
      refine cps (res' := .sc (.int .i64 r6.1)) (ups := [(0, boxB (α := spymake_Stream) false r6.2)]) [0] 65 rfl rfl rfl cb5 (ok5 r5.2 (w6 (0 - most)) most _ hr6) (.cons (ldP rfl rfl) (.cons (.sc _) (.cons (.sc _) (.nil)))) (pc rfl (.box (.cons ldR' (.cons (.sc _) (.nil))) rfl) pn) rfl rfl rfl rfl rfl (by first | rfl | exact renR | exact renA | exact renS | simp only [V.ren, V.rens, renR, renA, renS] | (simp only [V.ren, V.rens, renR, renA, renS]; rfl)) (by simp only [passUps, renBox, renArr]; rfl) ?_
      refine pu (v := .sc _) rfl rfl (fun _ => rfl) ?_
      refine pu (v := .sc _) rfl rfl (fun _ => rfl) ?_
      refine RunC.fin ?_
      refine AWP.sq ?_
      refine AWP.rgC 109 rfl rfl ?_
      refine pu (v := .sc _) rfl rfl (fun _ => rfl) ?_
      refine pu (v := .sc _) rfl rfl (fun _ => rfl) ?_
      refine pu (v := .sc _) rfl rfl (fun _ => rfl) ?_
      refine pu (v := .sc _) rfl rfl (fun _ => rfl) ?_
      refine pu (v := .sc _) rfl rfl (fun _ => rfl) ?_
      refine pu (v := .sc _) rfl rfl (fun _ => rfl) ?_
      refine bu (cs := [.sc (.int .i64 (mn2 r5.1 r6.1)), .sc (.int .i64 (mx2 r5.1 r6.1)), .sc (.bool false)]) rfl bt44 rfl ?_
      refine stB (cs' := [.sc (.int .i64 (mn2 r5.1 r6.1)), .sc (.int .i64 (mx2 r5.1 r6.1)), .sc (.bool false)]) rfl rfl rfl rfl ti44 rfl rfl rfl rfl rfl ?_
      refine RunC.fin ?_
      refine AWP.ret ?_
      have hR := Option.some.inj hR; subst hR
      exact hQ _ _ (LS.mk [(4, .ptr 1 0 0)] (lblks 0 [boxB (α := spymake_Stream) false r6.2, boxB (α := Bound) true (Bound.mk (mn2 r5.1 r6.1) (mx2 r5.1 r6.1) false)]) 2) (aggV (α := Bound) true (Bound.mk (mn2 r5.1 r6.1) (mx2 r5.1 r6.1) false)) [] (.inr rfl) (Weak.turnL [(0, 0), (1, 0)] [] rfl rfl (tc (trP' rfl rfl rfl rfl) tn) (mc rfl (.box rfl (.cons trR1 (.cons (.sc _) (.nil))) rfl) (mc rfl (.box rfl (.cons (.sc _) (.cons (.sc _) (.cons (.sc _) (.nil)))) rfl) mn))) (ro1 (rvC (v := aggV (α := Bound) true (Bound.mk (mn2 r5.1 r6.1) (mx2 r5.1 r6.1) false)) rfl rfl ti44 rfl)) rfl rfl ldA (pc rfl bldB pn)
theorem ok9 (s : spymake_Stream) (x : Int) (most : Int) (r : Bound × spymake_Stream) (hR : Stream_Around s x most = some r) : FnD Try.prog 9 [boxB false s] [.ptr 0 0 0, .sc (.int .i64 x), .sc (.int .i64 most)] (aggV (α := Bound) true r.1) [boxB false r.2] := by
  refine FnX.walk Try.func9 rfl 20 1 (by simp [Try.ntmps9]) rfl fun W S F Q hQ => ?_
  unfold Stream_Around at hR
  refine AWP.sq ?_
  refine AWP.rgC 5 rfl rfl ?_
  refine al (cs := [.sc (.int .i64 0), .sc (.int .i64 0), .sc (.bool false)]) 1 rfl rfl ti35 rfl rfl ?_
  refine RunC.fin ?_
  refine AWP.sq ?_
  refine AWP.rgC 61 rfl rfl ?_
  refine pu (v := .sc _) rfl rfl (fun _ => rfl) ?_
  refine pu (v := .ptr _ _ _) rfl rfl (fun _ => rfl) ?_
  refine pu (v := .sc _) rfl rfl (fun _ => rfl) ?_
  refine pu (v := .sc _) rfl rfl (fun _ => rfl) ?_
  obtain ⟨r1, hr1, hR⟩ := bindE hR
  refine cps (res' := .sc (.int .i64 r1.1)) (ups := [(0, boxB (α := spymake_Stream) false r1.2)]) [0] 21 rfl rfl rfl cb6 (ok6 s (w6 (most + 1)) _ hr1) (.cons (ldP rfl rfl) (.cons (.sc _) (.nil))) (pc rfl (.box (.cons ldR' (.cons (.sc _) (.nil))) rfl) pn) rfl rfl rfl rfl rfl (by first | rfl | exact renR | exact renA | exact renS | simp only [V.ren, V.rens, renR, renA, renS] | (simp only [V.ren, V.rens, renR, renA, renS]; rfl)) (by simp only [passUps, renBox, renArr]; rfl) ?_
  refine pu (v := .sc _) rfl rfl (fun _ => rfl) ?_
  refine pu (v := .sc _) rfl rfl (fun _ => rfl) ?_
  refine pu (v := .ptr _ _ _) rfl rfl (fun _ => rfl) ?_
  refine pu (v := .sc _) rfl rfl (fun _ => rfl) ?_
  refine pu (v := .sc _) rfl rfl (fun _ => rfl) ?_
  obtain ⟨r2, hr2, hR⟩ := bindE hR
  refine cps (res' := .sc (.int .i64 r2.1)) (ups := [(0, boxB (α := spymake_Stream) false r2.2)]) [0] 45 rfl rfl rfl cb6 (ok6 r1.2 (w6 (most + 1)) _ hr2) (.cons (ldP rfl rfl) (.cons (.sc _) (.nil))) (pc rfl (.box (.cons ldR' (.cons (.sc _) (.nil))) rfl) pn) rfl rfl rfl rfl rfl (by first | rfl | exact renR | exact renA | exact renS | simp only [V.ren, V.rens, renR, renA, renS] | (simp only [V.ren, V.rens, renR, renA, renS]; rfl)) (by simp only [passUps, renBox, renArr]; rfl) ?_
  refine pu (v := .sc _) rfl rfl (fun _ => rfl) ?_
  refine bu (cs := [.sc (.int .i64 (w6 (x - r1.1))), .sc (.int .i64 (w6 (x + r2.1))), .sc (.bool false)]) rfl bt35 rfl ?_
  refine stB (cs' := [.sc (.int .i64 (w6 (x - r1.1))), .sc (.int .i64 (w6 (x + r2.1))), .sc (.bool false)]) rfl rfl rfl rfl ti35 rfl rfl rfl rfl rfl ?_
  refine RunC.fin ?_
  refine AWP.ret ?_
  have hR := Option.some.inj hR; subst hR
  exact hQ _ _ (LS.mk [(6, .ptr 1 0 0)] (lblks 0 [boxB (α := spymake_Stream) false r2.2, boxB (α := Bound) true (Bound.mk (w6 (x - r1.1)) (w6 (x + r2.1)) false)]) 2) (aggV (α := Bound) true (Bound.mk (w6 (x - r1.1)) (w6 (x + r2.1)) false)) [] (.inr rfl) (Weak.turnL [(0, 0), (1, 0)] [] rfl rfl (tc (trP' rfl rfl rfl rfl) tn) (mc rfl (.box rfl (.cons trR1 (.cons (.sc _) (.nil))) rfl) (mc rfl (.box rfl (.cons (.sc _) (.cons (.sc _) (.cons (.sc _) (.nil)))) rfl) mn))) (ro1 (rvC (v := aggV (α := Bound) true (Bound.mk (w6 (x - r1.1)) (w6 (x + r2.1)) false)) rfl rfl ti35 rfl)) rfl rfl ldA (pc rfl bldB pn)
theorem ok8 (r : Bool) (hR : spykeep4_laid = some r) : FnP Try.prog 8 [] (.sc (.bool r)) := by
  refine fnP_of (FnX.walk Try.func8 rfl 44 0 (by simp [Try.ntmps8]) rfl fun W S F Q hQ => ?_)
  unfold spykeep4_laid at hR
  refine AWP.sq ?_
  refine AWP.rgC 4 rfl rfl ?_
  refine pu (v := .sc _) rfl rfl (fun _ => rfl) ?_
  refine RunC.fin ?_
  refine AWP.sq ?_
  refine AWP.rgC 60 rfl rfl ?_
  obtain ⟨r1, hr1, hR⟩ := bindE hR
  refine cls [] rfl rfl cb17 (ok17 100 _ hr1) (.cons (.sc _) (.nil)) (.inr rfl) rfl ?_
  obtain ⟨r2, hr2, hR⟩ := bindE hR
  refine cls [] rfl rfl cb17 (ok17 7 _ hr2) (.cons (.sc _) (.nil)) (.inr rfl) rfl ?_
  refine bu (cs := [.sc (.int .i64 r1.Lo), .sc (.int .i64 r1.Hi), .sc (.bool r1.Unknown), .sc (.int .i64 r2.Lo), .sc (.int .i64 r2.Hi), .sc (.bool r2.Unknown), .sc (.int .i64 0), .sc (.int .i64 0), .sc (.bool false)]) rfl bt47 rfl ?_
  refine bs (α := Measured) 16 true ([Measured.mk r1 r2 (Bound.mk 0 0 false)] : List Measured) rfl rfl ti26 rfl ti47 rfl rfl rfl rfl rfl ?_
  obtain ⟨r3, hr3, hR⟩ := bindE hR
  refine cls [] rfl rfl cb17 (ok17 100 _ hr3) (.cons (.sc _) (.nil)) (.inr rfl) rfl ?_
  obtain ⟨r4, hr4, hR⟩ := bindE hR
  refine cls [] rfl rfl cb17 (ok17 263 _ hr4) (.cons (.sc _) (.nil)) (.inr rfl) rfl ?_
  refine bu (cs := [.sc (.int .i64 r3.Lo), .sc (.int .i64 r3.Hi), .sc (.bool r3.Unknown), .sc (.int .i64 r4.Lo), .sc (.int .i64 r4.Hi), .sc (.bool r4.Unknown), .sc (.int .i64 0), .sc (.int .i64 0), .sc (.bool false)]) rfl bt47 rfl ?_
  refine bs (α := Measured) 32 true ([Measured.mk r3 r4 (Bound.mk 0 0 false)] : List Measured) rfl rfl ti26 rfl ti47 rfl rfl rfl rfl rfl ?_
  obtain ⟨r5, hr5, hR⟩ := bindE hR
  refine cls [16, 32] rfl rfl cb16 (ok16 ([Measured.mk r1 r2 (Bound.mk 0 0 false)] : List Measured) ([Measured.mk r3 r4 (Bound.mk 0 0 false)] : List Measured) 1 _ hr5) (.cons (ldS' rfl rfl rfl rfl) (.cons (ldS' rfl rfl rfl rfl) (.cons (.sc _) (.nil)))) (.inl (by first | rfl | exact freshR | exact freshA | (simp only [V.fresh, V.freshs, freshR, freshA, Bool.and_self]))) rfl ?_
  refine pu (v := .tup _) rfl rfl (fun _ => rfl) ?_
  refine pu (v := rowV _ r5.1) rfl rfl (fun _ => rfl) ?_
  refine pu (v := .sc _) rfl rfl (fun _ => rfl) ?_
  refine pu (v := rowV _ r5.1) rfl rfl (fun _ => rfl) ?_
  refine pu (v := .sc _) rfl rfl (fun _ => rfl) ?_
  refine RunC.fin ?_
  refine AWP.joinX (fun z6 : Bool => LS.mk [(0, .sc (.bool z6))] (lblks 0 []) 0) hR (fun o6 hR => ?_) fun z6 hR => ?_
  · refine AWP.rgC 180 rfl rfl ?_
    refine pu (v := .sc _) rfl rfl (fun _ => rfl) ?_
    refine pu (v := .sc _) rfl rfl (fun _ => rfl) ?_
    refine pu (v := .sc _) rfl rfl (fun _ => rfl) ?_
    refine brR hR (fun h7 hR => ?_) fun h7 hR => ?_
    · refine pu (v := rowV _ r5.1) (wtG rfl rfl rfl h7) rfl (fun _ => rfl) ?_
      refine lenL (α := align_Shift) (wtG rfl rfl rfl h7) rfl ti54 rfl ?_
      refine pu (v := .sc _) (wtG rfl rfl rfl h7) rfl (fun _ => rfl) ?_
      refine pkT (v := .sc (.bool ((r5.1.length : Int) == 1))) rfl rfl h7 rfl ?_
      refine pu (v := .sc _) rfl rfl (fun _ => rfl) ?_
      refine brR hR (fun h8 hR => ?_) fun h8 hR => ?_
      · refine pu (v := rowV _ r5.1) (wtG rfl rfl rfl h8) rfl (fun _ => rfl) ?_
        obtain ⟨h9, hR⟩ := chkE hR
        refine ixL (α := align_Shift) (wtG rfl rfl rfl h8) rfl rfl ti54 rfl ti59 rfl h9 ?_
        refine fr (wtG rfl rfl rfl h8) rfl ti59 rfl rfl ti3 rfl ?_
        refine ldR (v := .sc _) (wtG rfl rfl rfl h8) rfl ti3 rfl ?_
        refine pu (v := .sc _) (wtG rfl rfl rfl h8) rfl (fun _ => rfl) ?_
        refine pkT (v := .sc (.bool ((gt r5.1 0).DX == 0))) rfl rfl h8 rfl ?_
        refine pu (v := .sc _) rfl rfl (fun _ => rfl) ?_
        refine brR hR (fun h10 hR => ?_) fun h10 hR => ?_
        · refine pu (v := rowV _ r5.1) (wtG rfl rfl rfl h10) rfl (fun _ => rfl) ?_
          refine ixL (α := align_Shift) (wtG rfl rfl rfl h10) rfl rfl ti54 rfl ti59 rfl h9 ?_
          refine fr (wtG rfl rfl rfl h10) rfl ti59 rfl rfl ti3 rfl ?_
          refine ldR (v := .sc _) (wtG rfl rfl rfl h10) rfl ti3 rfl ?_
          refine pu (v := .sc _) (wtG rfl rfl rfl h10) rfl (fun _ => rfl) ?_
          refine pkT (v := .sc (.bool ((gt r5.1 0).DY == 1))) rfl rfl h10 rfl ?_
          refine pu (v := .sc _) rfl rfl (fun _ => rfl) ?_
          refine brR hR (fun h11 hR => ?_) fun h11 hR => ?_
          · refine pu (v := rowV _ r5.1) (wtG rfl rfl rfl h11) rfl (fun _ => rfl) ?_
            refine ixL (α := align_Shift) (wtG rfl rfl rfl h11) rfl rfl ti54 rfl ti59 rfl h9 ?_
            refine fr (wtG rfl rfl rfl h11) rfl ti59 rfl rfl ti28 rfl ?_
            refine ldR (v := rowV _ (gt r5.1 0).Pairs) (wtG rfl rfl rfl h11) rfl ti28 rfl ?_
            refine lenL (α := align_Pair) (wtG rfl rfl rfl h11) rfl ti28 rfl ?_
            refine pu (v := .sc _) (wtG rfl rfl rfl h11) rfl (fun _ => rfl) ?_
            refine pkT (v := .sc (.bool (((gt r5.1 0).Pairs.length : Int) == 1))) rfl rfl h11 rfl ?_
            refine pu (v := .sc _) rfl rfl (fun _ => rfl) ?_
            refine RunC.fin ?_
            have hR := Option.some.inj hR; subst hR
            exact Weak.turnL [] [] rfl rfl (tc (.sc _) tn) mn
          · refine sk (skW rfl rfl rfl h11) ?_
            refine sk (skW rfl rfl rfl h11) ?_
            refine sk (skW rfl rfl rfl h11) ?_
            refine sk (skW rfl rfl rfl h11) ?_
            refine sk (skW rfl rfl rfl h11) ?_
            refine sk (skW rfl rfl rfl h11) ?_
            refine pkF (v := .sc (.bool false)) rfl rfl h11 rfl ?_
            refine pu (v := .sc _) rfl rfl (fun _ => rfl) ?_
            refine RunC.fin ?_
            have hR := Option.some.inj hR; subst hR
            exact Weak.turnL [] [] rfl rfl (tc (.sc _) tn) mn
        · refine sk (skW rfl rfl rfl h10) ?_
          refine sk (skW rfl rfl rfl h10) ?_
          refine sk (skW rfl rfl rfl h10) ?_
          refine sk (skW rfl rfl rfl h10) ?_
          refine sk (skW rfl rfl rfl h10) ?_
          refine pkF (v := .sc (.bool false)) rfl rfl h10 rfl ?_
          refine pu (v := .sc _) rfl rfl (fun _ => rfl) ?_
          refine sk (skW rfl rfl rfl rfl) ?_
          refine sk (skW rfl rfl rfl rfl) ?_
          refine sk (skW rfl rfl rfl rfl) ?_
          refine sk (skW rfl rfl rfl rfl) ?_
          refine sk (skW rfl rfl rfl rfl) ?_
          refine sk (skW rfl rfl rfl rfl) ?_
          refine pkF (v := .sc (.bool false)) rfl rfl rfl rfl ?_
          refine pu (v := .sc _) rfl rfl (fun _ => rfl) ?_
          refine RunC.fin ?_
          have hR := Option.some.inj hR; subst hR
          exact Weak.turnL [] [] rfl rfl (tc (.sc _) tn) mn
      · refine sk (skW rfl rfl rfl h8) ?_
        refine sk (skW rfl rfl rfl h8) ?_
        refine sk (skW rfl rfl rfl h8) ?_
        refine sk (skW rfl rfl rfl h8) ?_
        refine sk (skW rfl rfl rfl h8) ?_
        refine pkF (v := .sc (.bool false)) rfl rfl h8 rfl ?_
        refine pu (v := .sc _) rfl rfl (fun _ => rfl) ?_
        refine sk (skW rfl rfl rfl rfl) ?_
        refine sk (skW rfl rfl rfl rfl) ?_
        refine sk (skW rfl rfl rfl rfl) ?_
        refine sk (skW rfl rfl rfl rfl) ?_
        refine sk (skW rfl rfl rfl rfl) ?_
        refine pkF (v := .sc (.bool false)) rfl rfl rfl rfl ?_
        refine pu (v := .sc _) rfl rfl (fun _ => rfl) ?_
        refine sk (skW rfl rfl rfl rfl) ?_
        refine sk (skW rfl rfl rfl rfl) ?_
        refine sk (skW rfl rfl rfl rfl) ?_
        refine sk (skW rfl rfl rfl rfl) ?_
        refine sk (skW rfl rfl rfl rfl) ?_
        refine sk (skW rfl rfl rfl rfl) ?_
        refine pkF (v := .sc (.bool false)) rfl rfl rfl rfl ?_
        refine pu (v := .sc _) rfl rfl (fun _ => rfl) ?_
        refine RunC.fin ?_
        have hR := Option.some.inj hR; subst hR
        exact Weak.turnL [] [] rfl rfl (tc (.sc _) tn) mn
    · refine sk (skW rfl rfl rfl h7) ?_
      refine sk (skW rfl rfl rfl h7) ?_
      refine sk (skW rfl rfl rfl h7) ?_
      refine pkF (v := .sc (.bool false)) rfl rfl h7 rfl ?_
      refine pu (v := .sc _) rfl rfl (fun _ => rfl) ?_
      refine sk (skW rfl rfl rfl rfl) ?_
      refine sk (skW rfl rfl rfl rfl) ?_
      refine sk (skW rfl rfl rfl rfl) ?_
      refine sk (skW rfl rfl rfl rfl) ?_
      refine sk (skW rfl rfl rfl rfl) ?_
      refine pkF (v := .sc (.bool false)) rfl rfl rfl rfl ?_
      refine pu (v := .sc _) rfl rfl (fun _ => rfl) ?_
      refine sk (skW rfl rfl rfl rfl) ?_
      refine sk (skW rfl rfl rfl rfl) ?_
      refine sk (skW rfl rfl rfl rfl) ?_
      refine sk (skW rfl rfl rfl rfl) ?_
      refine sk (skW rfl rfl rfl rfl) ?_
      refine pkF (v := .sc (.bool false)) rfl rfl rfl rfl ?_
      refine pu (v := .sc _) rfl rfl (fun _ => rfl) ?_
      refine sk (skW rfl rfl rfl rfl) ?_
      refine sk (skW rfl rfl rfl rfl) ?_
      refine sk (skW rfl rfl rfl rfl) ?_
      refine sk (skW rfl rfl rfl rfl) ?_
      refine sk (skW rfl rfl rfl rfl) ?_
      refine sk (skW rfl rfl rfl rfl) ?_
      refine pkF (v := .sc (.bool false)) rfl rfl rfl rfl ?_
      refine pu (v := .sc _) rfl rfl (fun _ => rfl) ?_
      refine RunC.fin ?_
      have hR := Option.some.inj hR; subst hR
      exact Weak.turnL [] [] rfl rfl (tc (.sc _) tn) mn
  · refine AWP.ret ?_
    have hR := Option.some.inj hR; subst hR
    exact hQ _ _ (LS.mk [(0, .sc (.bool z6))] (lblks 0 []) 0) (.sc (.bool z6)) [] (.inr rfl) (Weak.turnL [] [] rfl rfl (tc (.sc _) tn) mn) (ro1 (rvT (v := .sc (.bool z6)) rfl)) rfl rfl (.sc _) pn
theorem ok7 (a : List Measured) (b : List Measured) (l : List align_Pair) (r : Bound × Bound × Int) (hR : align_Common a b l = some r) : FnP Try.prog 7 [rowV false a, rowV false b, rowV false l] (.tup [aggV (α := Bound) true r.1, aggV (α := Bound) true r.2.1, .sc (.int .i64 r.2.2)]) := by
  refine fnP_of (FnX.walk Try.func7 rfl 110 0 (by simp [Try.ntmps7]) rfl fun W S F Q hQ => ?_)
  unfold align_Common at hR
  refine AWP.sq ?_
  refine AWP.rgC 12 rfl rfl ?_
  refine al (cs := [.sc (.int .i64 0), .sc (.int .i64 0), .sc (.bool false)]) 0 rfl rfl ti35 rfl rfl ?_
  refine al (cs := [.sc (.int .i64 0), .sc (.int .i64 0), .sc (.bool false)]) 4 rfl rfl ti35 rfl rfl ?_
  refine pu (v := .sc _) rfl rfl (fun _ => rfl) ?_
  refine RunC.fin ?_
  refine AWP.sq ?_
  refine AWP.sq ?_
  refine AWP.rgC 28 rfl rfl ?_
  refine pu (v := rowV _ a) rfl rfl (fun _ => rfl) ?_
  refine pu (v := rowV _ b) rfl rfl (fun _ => rfl) ?_
  obtain ⟨r1, hr1, hR⟩ := bindE hR
  refine cls [] rfl rfl cb12 (ok12 a b 24 1 _ hr1) (.cons ldR' (.cons ldR' (.cons (.sc _) (.cons (.sc _) (.nil))))) (.inr rfl) rfl ?_
  refine pu (v := .sc _) rfl rfl (fun _ => rfl) ?_
  refine RunC.fin ?_
  refine AWP.sq ?_
  refine AWP.rgC 36 rfl rfl ?_
  refine pu (v := .sc _) rfl rfl (fun _ => rfl) ?_
  refine pu (v := .sc _) rfl rfl (fun _ => rfl) ?_
  refine RunC.fin ?_
  refine AWP.cd hR rfl (fun h2 hR => ?_) fun h2 hR => ?_
  · refine AWP.sq ?_
    refine AWP.rgD 60 [0, 0, 0, 1, 11, 31] ⟨[], [some [0], some [4], none, some [0], some [4], none]⟩ hmix (by kernel_rfl) rfl rfl ?_
    refine ldB (v := .agg _) rfl rfl rfl rfl ti35 rfl rfl ?_
    refine ldB (v := .agg _) rfl rfl rfl rfl ti35 rfl rfl ?_
    refine pu (v := .sc _) rfl rfl (fun _ => rfl) ?_
    refine stB (cs' := [.sc (.int .i64 0), .sc (.int .i64 0), .sc (.bool false)]) rfl rfl rfl rfl ti35 rfl rfl rfl rfl rfl ?_
    refine stB (cs' := [.sc (.int .i64 0), .sc (.int .i64 0), .sc (.bool false)]) rfl rfl rfl rfl ti35 rfl rfl rfl rfl rfl ?_
    refine pu (v := .sc _) rfl rfl (fun _ => rfl) ?_
    refine RunC.fin ?_
    refine AWP.ret ?_
    refine rtT ?_
    have hR := Option.some.inj hR; subst hR
    exact hQ _ _ (LS.mk [(6, .ptr 0 0 0), (7, .ptr 1 0 0), (8, .sc (.int .i64 r1))] (lblks 0 [boxB (α := Bound) true (Bound.mk 0 0 false), boxB (α := Bound) true (Bound.mk 0 0 false)]) 2) (.tup [aggV (α := Bound) true (Bound.mk 0 0 false), aggV (α := Bound) true (Bound.mk 0 0 false), .sc (.int .i64 r1)]) [] (.inr rfl) (Weak.turnL [(0, 0), (4, 0)] [] rfl rfl (tc (trP' rfl rfl rfl rfl) (tc (trP' rfl rfl rfl rfl) (tc (.sc _) tn))) (mc rfl (.box rfl (.cons (.sc _) (.cons (.sc _) (.cons (.sc _) (.nil)))) rfl) (mc rfl (.box rfl (.cons (.sc _) (.cons (.sc _) (.cons (.sc _) (.nil)))) rfl) mn))) (ro3 (rvC (v := aggV (α := Bound) true (Bound.mk 0 0 false)) rfl rfl ti35 rfl) (rvC (v := aggV (α := Bound) true (Bound.mk 0 0 false)) rfl rfl ti35 rfl) (rvT (v := .sc (.int .i64 r1)) rfl)) rfl rfl (.tup (.cons ldA (.cons ldA (.cons (.sc _) .nil)))) pn
  · refine AWP.skip ?_
    refine skT ?_
    refine AWP.sq ?_
    refine AWP.rgC 60 rfl rfl ?_
    obtain ⟨r3, hr3, hR⟩ := bindE hR
    refine cls [] rfl rfl cb13 (ok13 _ hr3) (.nil) (.inr rfl) rfl ?_
    obtain ⟨r4, hr4, hR⟩ := bindE hR
    refine cls [] rfl rfl cb13 (ok13 _ hr4) (.nil) (.inr rfl) rfl ?_
    refine al (cs := [.sc (.int .i64 0), .sc (.int .i64 0), .sc (.bool false)]) 44 rfl rfl ti35 rfl rfl ?_
    refine al (cs := [.sc (.int .i64 0), .sc (.int .i64 0), .sc (.bool false)]) 48 rfl rfl ti35 rfl rfl ?_
    refine stB (cs' := [.sc (.int .i64 r3.Lo), .sc (.int .i64 r3.Hi), .sc (.bool r3.Unknown)]) rfl rfl rfl rfl ti35 rfl rfl rfl rfl rfl ?_
    refine stB (cs' := [.sc (.int .i64 r4.Lo), .sc (.int .i64 r4.Hi), .sc (.bool r4.Unknown)]) rfl rfl rfl rfl ti35 rfl rfl rfl rfl rfl ?_
    refine RunC.fin ?_
    refine AWP.sq ?_
    refine AWP.sq ?_
    refine AWP.rgC 72 rfl rfl ?_
    refine pu (v := rowV _ l) rfl rfl (fun _ => rfl) ?_
    refine lenL (α := align_Pair) rfl rfl ti28 rfl ?_
    refine pu (v := .sc _) rfl rfl (fun _ => rfl) ?_
    refine RunC.fin ?_
    refine AWP.loopK' (fun s5 : Int => LS.mk [(0, rowV (α := Measured) false a), (1, rowV (α := Measured) false b), (2, rowV (α := align_Pair) false l), (6, .ptr 0 0 0), (7, .ptr 1 0 0), (10, .ptr 2 0 0), (11, .ptr 3 0 0), (31, rowV (α := align_Pair) false l), (32, .sc (.int .i64 (l.length : Int))), (33, .sc (.int .i64 s5))] (lblks 0 [boxB (α := Bound) true (Bound.mk 0 0 false), boxB (α := Bound) true (Bound.mk 0 0 false), boxB (α := Bound) true r3, boxB (α := Bound) true r4]) 4) (fun z6 : Unit => LS.mk [(0, rowV (α := Measured) false a), (1, rowV (α := Measured) false b), (2, rowV (α := align_Pair) false l), (6, .ptr 0 0 0), (7, .ptr 1 0 0), (10, .ptr 2 0 0), (11, .ptr 3 0 0)] (lblks 0 [boxB (α := Bound) true (Bound.mk 0 0 false), boxB (α := Bound) true (Bound.mk 0 0 false), boxB (α := Bound) true r3, boxB (α := Bound) true r4]) 4) (align_Common.l1 a b l) hR (s0 := 0) (Weak.turnL [(0, 0), (4, 0), (44, 0), (48, 0)] [] rfl rfl (tc trR1 (tc trR1 (tc trR1 (tc (trP' rfl rfl rfl rfl) (tc (trP' rfl rfl rfl rfl) (tc (trP' rfl rfl rfl rfl) (tc (trP' rfl rfl rfl rfl) (tc trR1 (tc (.sc _) (tc (.sc _) tn)))))))))) (mc rfl (.box rfl (.cons (.sc _) (.cons (.sc _) (.cons (.sc _) (.nil)))) rfl) (mc rfl (.box rfl (.cons (.sc _) (.cons (.sc _) (.cons (.sc _) (.nil)))) rfl) (mc rfl (.box rfl (.cons (.sc _) (.cons (.sc _) (.cons (.sc _) (.nil)))) rfl) (mc rfl (.box rfl (.cons (.sc _) (.cons (.sc _) (.cons (.sc _) (.nil)))) rfl) mn))))) (fun s5 o5 hR hE5 => ?_) fun z6 hR => ?_
    · unfold align_Common.l1 at hR
      refine AWP.sq ?_
      refine AWP.rgC 8 rfl rfl ?_
      refine pu (v := .sc _) rfl rfl (fun _ => rfl) ?_
      refine RunC.fin ?_
      refine AWP.sq ?_
      refine AWP.cd hR rfl (fun h7 hR => ?_) fun h7 hR => ?_
      · refine AWP.skip ?_
        refine skT ?_
        refine AWP.sq ?_
        refine AWP.block ?_
        refine AWP.sq ?_
        refine AWP.rgC 24 rfl rfl ?_
        obtain ⟨h8, hR⟩ := chkE hR
        refine ixL (α := align_Pair) rfl rfl rfl ti28 rfl ti32 rfl h8 ?_
        refine ldR (v := .agg _) rfl rfl ti32 rfl ?_
        refine al (cs := [.sc (.int .i64 0), .sc (.int .i64 0)]) 16 rfl rfl ti32 rfl rfl ?_
        refine stB (cs' := [.sc (.int .i64 (gt l s5).A), .sc (.int .i64 (gt l s5).B)]) rfl rfl rfl rfl ti32 rfl rfl rfl rfl rfl ?_
        refine RunC.fin ?_
        refine AWP.joinX (fun z9 : Bool => LS.mk [(0, rowV (α := Measured) false a), (1, rowV (α := Measured) false b), (2, rowV (α := align_Pair) false l), (6, .ptr 0 0 0), (7, .ptr 1 0 0), (10, .ptr 2 0 0), (11, .ptr 3 0 0), (31, rowV (α := align_Pair) false l), (32, .sc (.int .i64 (l.length : Int))), (33, .sc (.int .i64 s5)), (58, .sc (.bool z9))] (lblks 0 [boxB (α := Bound) true (Bound.mk 0 0 false), boxB (α := Bound) true (Bound.mk 0 0 false), boxB (α := Bound) true r3, boxB (α := Bound) true r4]) 4) hR (fun o9 hR => ?_) fun z9 hR => ?_
        · refine AWP.rgC 112 rfl rfl ?_
          refine fa rfl rfl ti32 rfl rfl ti3 rfl ?_
          refine ldB (v := .sc _) rfl rfl rfl rfl ti3 rfl rfl ?_
          refine pu (v := .sc _) rfl rfl (fun _ => rfl) ?_
          refine pu (v := .sc _) rfl rfl (fun _ => rfl) ?_
          refine brR hR (fun h10 hR => ?_) fun h10 hR => ?_
          · refine sk (skW rfl rfl rfl h10) ?_
            refine sk (skW rfl rfl rfl h10) ?_
            refine sk (skW rfl rfl rfl h10) ?_
            refine sk (skW rfl rfl rfl h10) ?_
            refine sk (skW rfl rfl rfl h10) ?_
            refine pkT (v := .sc (.bool true)) rfl rfl h10 rfl ?_
            refine pu (v := .sc _) rfl rfl (fun _ => rfl) ?_
            refine sk (skW rfl rfl rfl rfl) ?_
            refine sk (skW rfl rfl rfl rfl) ?_
            refine sk (skW rfl rfl rfl rfl) ?_
            refine pkT (v := .sc (.bool true)) rfl rfl rfl rfl ?_
            refine pu (v := .sc _) rfl rfl (fun _ => rfl) ?_
            refine sk (skW rfl rfl rfl rfl) ?_
            refine sk (skW rfl rfl rfl rfl) ?_
            refine sk (skW rfl rfl rfl rfl) ?_
            refine sk (skW rfl rfl rfl rfl) ?_
            refine sk (skW rfl rfl rfl rfl) ?_
            refine pkT (v := .sc (.bool true)) rfl rfl rfl rfl ?_
            refine RunC.fin ?_
            have hR := Option.some.inj hR; subst hR
            exact Weak.turnL [(0, 0), (1, 0), (2, 0), (3, 0)] [] rfl rfl (tc trR1 (tc trR1 (tc trR1 (tc (trP' rfl rfl rfl rfl) (tc (trP' rfl rfl rfl rfl) (tc (trP' rfl rfl rfl rfl) (tc (trP' rfl rfl rfl rfl) (tc trR1 (tc (.sc _) (tc (.sc _) (tc (.sc _) tn))))))))))) (mc rfl (.box rfl (.cons (.sc _) (.cons (.sc _) (.cons (.sc _) (.nil)))) rfl) (mc rfl (.box rfl (.cons (.sc _) (.cons (.sc _) (.cons (.sc _) (.nil)))) rfl) (mc rfl (.box rfl (.cons (.sc _) (.cons (.sc _) (.cons (.sc _) (.nil)))) rfl) (mc rfl (.box rfl (.cons (.sc _) (.cons (.sc _) (.cons (.sc _) (.nil)))) rfl) mn))))
          · refine fa (wtG rfl rfl rfl h10) rfl ti32 rfl rfl ti3 rfl ?_
            refine ldB (v := .sc _) (wtG rfl rfl rfl h10) rfl rfl rfl ti3 rfl rfl ?_
            refine pu (v := rowV _ a) (wtG rfl rfl rfl h10) rfl (fun _ => rfl) ?_
            refine lenL (α := Measured) (wtG rfl rfl rfl h10) rfl ti26 rfl ?_
            refine pu (v := .sc _) (wtG rfl rfl rfl h10) rfl (fun _ => rfl) ?_
            refine pkF (v := .sc (.bool (decide ((gt l s5).A ≥ (a.length : Int))))) rfl rfl h10 rfl ?_
            refine pu (v := .sc _) rfl rfl (fun _ => rfl) ?_
            refine brR hR (fun h11 hR => ?_) fun h11 hR => ?_
            · refine sk (skW rfl rfl rfl h11) ?_
              refine sk (skW rfl rfl rfl h11) ?_
              refine sk (skW rfl rfl rfl h11) ?_
              refine pkT (v := .sc (.bool true)) rfl rfl h11 rfl ?_
              refine pu (v := .sc _) rfl rfl (fun _ => rfl) ?_
              refine sk (skW rfl rfl rfl rfl) ?_
              refine sk (skW rfl rfl rfl rfl) ?_
              refine sk (skW rfl rfl rfl rfl) ?_
              refine sk (skW rfl rfl rfl rfl) ?_
              refine sk (skW rfl rfl rfl rfl) ?_
              refine pkT (v := .sc (.bool true)) rfl rfl rfl rfl ?_
              refine RunC.fin ?_
              have hR := Option.some.inj hR; subst hR
              exact Weak.turnL [(0, 0), (1, 0), (2, 0), (3, 0)] [] rfl rfl (tc trR1 (tc trR1 (tc trR1 (tc (trP' rfl rfl rfl rfl) (tc (trP' rfl rfl rfl rfl) (tc (trP' rfl rfl rfl rfl) (tc (trP' rfl rfl rfl rfl) (tc trR1 (tc (.sc _) (tc (.sc _) (tc (.sc _) tn))))))))))) (mc rfl (.box rfl (.cons (.sc _) (.cons (.sc _) (.cons (.sc _) (.nil)))) rfl) (mc rfl (.box rfl (.cons (.sc _) (.cons (.sc _) (.cons (.sc _) (.nil)))) rfl) (mc rfl (.box rfl (.cons (.sc _) (.cons (.sc _) (.cons (.sc _) (.nil)))) rfl) (mc rfl (.box rfl (.cons (.sc _) (.cons (.sc _) (.cons (.sc _) (.nil)))) rfl) mn))))
            · refine fa (wtG rfl rfl rfl h11) rfl ti32 rfl rfl ti3 rfl ?_
              refine ldB (v := .sc _) (wtG rfl rfl rfl h11) rfl rfl rfl ti3 rfl rfl ?_
              refine pu (v := .sc _) (wtG rfl rfl rfl h11) rfl (fun _ => rfl) ?_
              refine pkF (v := .sc (.bool (decide ((gt l s5).B < 0)))) rfl rfl h11 rfl ?_
              refine pu (v := .sc _) rfl rfl (fun _ => rfl) ?_
              refine brR hR (fun h12 hR => ?_) fun h12 hR => ?_
              · refine sk (skW rfl rfl rfl h12) ?_
                refine sk (skW rfl rfl rfl h12) ?_
                refine sk (skW rfl rfl rfl h12) ?_
                refine sk (skW rfl rfl rfl h12) ?_
                refine sk (skW rfl rfl rfl h12) ?_
                refine pkT (v := .sc (.bool true)) rfl rfl h12 rfl ?_
                refine RunC.fin ?_
                have hR := Option.some.inj hR; subst hR
                exact Weak.turnL [(0, 0), (1, 0), (2, 0), (3, 0)] [] rfl rfl (tc trR1 (tc trR1 (tc trR1 (tc (trP' rfl rfl rfl rfl) (tc (trP' rfl rfl rfl rfl) (tc (trP' rfl rfl rfl rfl) (tc (trP' rfl rfl rfl rfl) (tc trR1 (tc (.sc _) (tc (.sc _) (tc (.sc _) tn))))))))))) (mc rfl (.box rfl (.cons (.sc _) (.cons (.sc _) (.cons (.sc _) (.nil)))) rfl) (mc rfl (.box rfl (.cons (.sc _) (.cons (.sc _) (.cons (.sc _) (.nil)))) rfl) (mc rfl (.box rfl (.cons (.sc _) (.cons (.sc _) (.cons (.sc _) (.nil)))) rfl) (mc rfl (.box rfl (.cons (.sc _) (.cons (.sc _) (.cons (.sc _) (.nil)))) rfl) mn))))
              · refine fa (wtG rfl rfl rfl h12) rfl ti32 rfl rfl ti3 rfl ?_
                refine ldB (v := .sc _) (wtG rfl rfl rfl h12) rfl rfl rfl ti3 rfl rfl ?_
                refine pu (v := rowV _ b) (wtG rfl rfl rfl h12) rfl (fun _ => rfl) ?_
                refine lenL (α := Measured) (wtG rfl rfl rfl h12) rfl ti26 rfl ?_
                refine pu (v := .sc _) (wtG rfl rfl rfl h12) rfl (fun _ => rfl) ?_
                refine pkF (v := .sc (.bool (decide ((gt l s5).B ≥ (b.length : Int))))) rfl rfl h12 rfl ?_
                refine RunC.fin ?_
                have hR := Option.some.inj hR; subst hR
                exact Weak.turnL [(0, 0), (1, 0), (2, 0), (3, 0)] [] rfl rfl (tc trR1 (tc trR1 (tc trR1 (tc (trP' rfl rfl rfl rfl) (tc (trP' rfl rfl rfl rfl) (tc (trP' rfl rfl rfl rfl) (tc (trP' rfl rfl rfl rfl) (tc trR1 (tc (.sc _) (tc (.sc _) (tc (.sc _) tn))))))))))) (mc rfl (.box rfl (.cons (.sc _) (.cons (.sc _) (.cons (.sc _) (.nil)))) rfl) (mc rfl (.box rfl (.cons (.sc _) (.cons (.sc _) (.cons (.sc _) (.nil)))) rfl) (mc rfl (.box rfl (.cons (.sc _) (.cons (.sc _) (.cons (.sc _) (.nil)))) rfl) (mc rfl (.box rfl (.cons (.sc _) (.cons (.sc _) (.cons (.sc _) (.nil)))) rfl) mn))))
        · refine AWP.cd hR rfl (fun h13 hR => ?_) fun h13 hR => ?_
          · refine AWP.sq ?_
            refine AWP.rgD 24 [0, 0, 1, 7, 15] ⟨[], [some [0], some [1], some [0], some [1], none]⟩ hmix (by kernel_rfl) rfl rfl ?_
            refine ldB (v := .agg _) rfl rfl rfl rfl ti35 rfl rfl ?_
            refine ldB (v := .agg _) rfl rfl rfl rfl ti35 rfl rfl ?_
            refine stB (cs' := [.sc (.int .i64 0), .sc (.int .i64 0), .sc (.bool false)]) rfl rfl rfl rfl ti35 rfl rfl rfl rfl rfl ?_
            refine stB (cs' := [.sc (.int .i64 0), .sc (.int .i64 0), .sc (.bool false)]) rfl rfl rfl rfl ti35 rfl rfl rfl rfl rfl ?_
            refine pu (v := .sc _) rfl rfl (fun _ => rfl) ?_
            refine RunC.fin ?_
            refine AWP.ret ?_
            refine rtB ?_
            refine rtT ?_
            refine rtT ?_
            refine rtB (rtT ?_)
            replace hR := escL hR hE5
            refine rtT ?_
            have hR := Option.some.inj hR; subst hR
            exact hQ _ _ (LS.mk [(6, .ptr 0 0 0), (7, .ptr 1 0 0), (8, .sc (.int .i64 4))] (lblks 0 [boxB (α := Bound) true (Bound.mk 0 0 false), boxB (α := Bound) true (Bound.mk 0 0 false)]) 2) (.tup [aggV (α := Bound) true (Bound.mk 0 0 false), aggV (α := Bound) true (Bound.mk 0 0 false), .sc (.int .i64 4)]) [] (.inr rfl) (Weak.turnL [(0, 0), (1, 0)] [] rfl rfl (tc (trP' rfl rfl rfl rfl) (tc (trP' rfl rfl rfl rfl) (tc (.sc _) tn))) (mc rfl (.box rfl (.cons (.sc _) (.cons (.sc _) (.cons (.sc _) (.nil)))) rfl) (mc rfl (.box rfl (.cons (.sc _) (.cons (.sc _) (.cons (.sc _) (.nil)))) rfl) mn))) (ro3 (rvC (v := aggV (α := Bound) true (Bound.mk 0 0 false)) rfl rfl ti35 rfl) (rvC (v := aggV (α := Bound) true (Bound.mk 0 0 false)) rfl rfl ti35 rfl) (rvT (v := .sc (.int .i64 4)) rfl)) rfl rfl (.tup (.cons ldA (.cons ldA (.cons (.sc _) .nil)))) pn
          · refine AWP.skip ?_
            refine skB ?_
            refine skT ?_
            refine AWP.rgC 12 rfl rfl ?_
            refine pu (v := .sc _) rfl rfl (fun _ => rfl) ?_
            refine pu (v := .sc _) rfl rfl (fun _ => rfl) ?_
            refine RunC.fin ?_
            refine ⟨(w6 (s5 + 1)), (Option.some.inj hR).symm, ?_⟩
            exact Weak.turnL [(0, 0), (1, 0), (2, 0), (3, 0)] [] rfl rfl (tc trR1 (tc trR1 (tc trR1 (tc (trP' rfl rfl rfl rfl) (tc (trP' rfl rfl rfl rfl) (tc (trP' rfl rfl rfl rfl) (tc (trP' rfl rfl rfl rfl) (tc trR1 (tc (.sc _) (tc (.sc _) tn)))))))))) (mc rfl (.box rfl (.cons (.sc _) (.cons (.sc _) (.cons (.sc _) (.nil)))) rfl) (mc rfl (.box rfl (.cons (.sc _) (.cons (.sc _) (.cons (.sc _) (.nil)))) rfl) (mc rfl (.box rfl (.cons (.sc _) (.cons (.sc _) (.cons (.sc _) (.nil)))) rfl) (mc rfl (.box rfl (.cons (.sc _) (.cons (.sc _) (.cons (.sc _) (.nil)))) rfl) mn))))
      · refine AWP.exit ?_
        refine exT ?_
        refine exT ?_
        refine exH (skT ?_)
        refine ⟨(), (Option.some.inj hR).symm, ?_⟩
        exact Weak.turnL [(0, 0), (1, 0), (2, 0), (3, 0)] [] rfl rfl (tc trR1 (tc trR1 (tc trR1 (tc (trP' rfl rfl rfl rfl) (tc (trP' rfl rfl rfl rfl) (tc (trP' rfl rfl rfl rfl) (tc (trP' rfl rfl rfl rfl) tn))))))) (mc rfl (.box rfl (.cons (.sc _) (.cons (.sc _) (.cons (.sc _) (.nil)))) rfl) (mc rfl (.box rfl (.cons (.sc _) (.cons (.sc _) (.cons (.sc _) (.nil)))) rfl) (mc rfl (.box rfl (.cons (.sc _) (.cons (.sc _) (.cons (.sc _) (.nil)))) rfl) (mc rfl (.box rfl (.cons (.sc _) (.cons (.sc _) (.cons (.sc _) (.nil)))) rfl) mn))))
    · refine skT ?_
      refine AWP.sq ?_
      refine AWP.sq ?_
      refine AWP.rgC 16 rfl rfl ?_
      refine pu (v := rowV _ l) rfl rfl (fun _ => rfl) ?_
      refine lenL (α := align_Pair) rfl rfl ti28 rfl ?_
      refine pu (v := .sc _) rfl rfl (fun _ => rfl) ?_
      refine RunC.fin ?_
      refine AWP.loopK' (fun s14 : Bound × Bound × Int => LS.mk [(0, rowV (α := Measured) false a), (1, rowV (α := Measured) false b), (6, .ptr 0 0 0), (7, .ptr 1 0 0), (10, .ptr 2 0 0), (11, .ptr 3 0 0), (62, rowV (α := align_Pair) false l), (63, .sc (.int .i64 (l.length : Int))), (64, .sc (.int .i64 s14.2.2))] (lblks 0 [boxB (α := Bound) true (Bound.mk 0 0 false), boxB (α := Bound) true (Bound.mk 0 0 false), boxB (α := Bound) true s14.1, boxB (α := Bound) true s14.2.1]) 4) (fun z15 : Bound × Bound => LS.mk [(6, .ptr 0 0 0), (7, .ptr 1 0 0), (10, .ptr 2 0 0), (11, .ptr 3 0 0)] (lblks 0 [boxB (α := Bound) true (Bound.mk 0 0 false), boxB (α := Bound) true (Bound.mk 0 0 false), boxB (α := Bound) true z15.1, boxB (α := Bound) true z15.2]) 4) (align_Common.l2 a b l) hR (s0 := (r3, r4, 0)) (Weak.turnL [(0, 0), (1, 0), (2, 0), (3, 0)] [] rfl rfl (tc trR1 (tc trR1 (tc (trP' rfl rfl rfl rfl) (tc (trP' rfl rfl rfl rfl) (tc (trP' rfl rfl rfl rfl) (tc (trP' rfl rfl rfl rfl) (tc trR1 (tc (.sc _) (tc (.sc _) tn))))))))) (mc rfl (.box rfl (.cons (.sc _) (.cons (.sc _) (.cons (.sc _) (.nil)))) rfl) (mc rfl (.box rfl (.cons (.sc _) (.cons (.sc _) (.cons (.sc _) (.nil)))) rfl) (mc rfl (.box rfl (.cons (.sc _) (.cons (.sc _) (.cons (.sc _) (.nil)))) rfl) (mc rfl (.box rfl (.cons (.sc _) (.cons (.sc _) (.cons (.sc _) (.nil)))) rfl) mn))))) (fun s14 o14 hR hE14 => ?_) fun z15 hR => ?_
      · unfold align_Common.l2 at hR
        refine AWP.sq ?_
        refine AWP.rgC 8 rfl rfl ?_
        refine pu (v := .sc _) rfl rfl (fun _ => rfl) ?_
        refine RunC.fin ?_
        refine AWP.sq ?_
        refine AWP.cd hR rfl (fun h16 hR => ?_) fun h16 hR => ?_
        · refine AWP.skip ?_
          refine skT ?_
          refine AWP.sq ?_
          refine AWP.block ?_
          refine AWP.sq ?_
          refine AWP.rgC 24 rfl rfl ?_
          obtain ⟨h17, hR⟩ := chkE hR
          refine ixL (α := align_Pair) rfl rfl rfl ti28 rfl ti32 rfl h17 ?_
          refine ldR (v := .agg _) rfl rfl ti32 rfl ?_
          refine al (cs := [.sc (.int .i64 0), .sc (.int .i64 0)]) 16 rfl rfl ti32 rfl rfl ?_
          refine stB (cs' := [.sc (.int .i64 (gt l s14.2.2).A), .sc (.int .i64 (gt l s14.2.2).B)]) rfl rfl rfl rfl ti32 rfl rfl rfl rfl rfl ?_
          refine RunC.fin ?_
          refine AWP.sq ?_
          refine AWP.rgD 104 [0, 0, 2, 7, 15, 0, 0, 64, 224, 480, 1023, 2047, 4095, 4095, 4095, 0, 0, 106495, 245759, 524287] ⟨[], [none, none, some [16], none, some [], none, none, some [16], none, some [], none, none, none, none, none, none, none, some [84], some [88], none]⟩ hmix (by kernel_rfl) rfl rfl ?_
          refine pu (v := rowV _ a) rfl rfl (fun _ => rfl) ?_
          refine fa rfl rfl ti32 rfl rfl ti3 rfl ?_
          refine ldB (v := .sc _) rfl rfl rfl rfl ti3 rfl rfl ?_
          obtain ⟨h18, hR⟩ := chkE hR
          refine ixL (α := Measured) rfl rfl rfl ti26 rfl ti47 rfl h18 ?_
          refine ldR (v := .agg _) rfl rfl ti47 rfl ?_
          refine pu (v := rowV _ b) rfl rfl (fun _ => rfl) ?_
          refine fa rfl rfl ti32 rfl rfl ti3 rfl ?_
          refine ldB (v := .sc _) rfl rfl rfl rfl ti3 rfl rfl ?_
          obtain ⟨h19, hR⟩ := chkE hR
          refine ixL (α := Measured) rfl rfl rfl ti26 rfl ti47 rfl h19 ?_
          refine ldR (v := .agg _) rfl rfl ti47 rfl ?_
          obtain ⟨r20, hr20, hR⟩ := bindE hR
          refine cls [] rfl rfl cb14 (ok14 (gt a (gt l s14.2.2).A) (gt b (gt l s14.2.2).B) _ hr20) (.cons (.agg (.cons (.sc _) (.cons (.sc _) (.cons (.sc _) (.cons (.sc _) (.cons (.sc _) (.cons (.sc _) (.cons (.sc _) (.cons (.sc _) (.cons (.sc _) (.nil)))))))))) rfl) (.cons (.agg (.cons (.sc _) (.cons (.sc _) (.cons (.sc _) (.cons (.sc _) (.cons (.sc _) (.cons (.sc _) (.cons (.sc _) (.cons (.sc _) (.cons (.sc _) (.nil)))))))))) rfl) (.nil))) (.inr rfl) rfl ?_
          refine pu (v := .tup _) rfl rfl (fun _ => rfl) ?_
          refine pu (v := .agg _) rfl rfl (fun _ => rfl) ?_
          refine pu (v := .agg _) rfl rfl (fun _ => rfl) ?_
          refine pu (v := .sc _) rfl rfl (fun _ => rfl) ?_
          refine al (cs := [.sc (.int .i64 0), .sc (.int .i64 0), .sc (.bool false)]) 84 rfl rfl ti35 rfl rfl ?_
          refine al (cs := [.sc (.int .i64 0), .sc (.int .i64 0), .sc (.bool false)]) 88 rfl rfl ti35 rfl rfl ?_
          refine stB (cs' := [.sc (.int .i64 r20.1.Lo), .sc (.int .i64 r20.1.Hi), .sc (.bool r20.1.Unknown)]) rfl rfl rfl rfl ti35 rfl rfl rfl rfl rfl ?_
          refine stB (cs' := [.sc (.int .i64 r20.2.1.Lo), .sc (.int .i64 r20.2.1.Hi), .sc (.bool r20.2.1.Unknown)]) rfl rfl rfl rfl ti35 rfl rfl rfl rfl rfl ?_
          refine pu (v := .sc _) rfl rfl (fun _ => rfl) ?_
          refine RunC.fin ?_
          refine AWP.sq ?_
          refine AWP.sq ?_
          refine AWP.rgC 112 rfl rfl ?_
          refine pu (v := .sc _) rfl rfl (fun _ => rfl) ?_
          refine pu (v := .sc _) rfl rfl (fun _ => rfl) ?_
          refine RunC.fin ?_
          refine AWP.cd hR rfl (fun h21 hR => ?_) fun h21 hR => ?_
          · refine AWP.sq ?_
            refine AWP.rgD 132 [0, 0, 1, 7, 15] ⟨[], [some [0], some [1], some [0], some [1], none]⟩ hmix (by kernel_rfl) rfl rfl ?_
            refine ldB (v := .agg _) rfl rfl rfl rfl ti35 rfl rfl ?_
            refine ldB (v := .agg _) rfl rfl rfl rfl ti35 rfl rfl ?_
            refine stB (cs' := [.sc (.int .i64 0), .sc (.int .i64 0), .sc (.bool false)]) rfl rfl rfl rfl ti35 rfl rfl rfl rfl rfl ?_
            refine stB (cs' := [.sc (.int .i64 0), .sc (.int .i64 0), .sc (.bool false)]) rfl rfl rfl rfl ti35 rfl rfl rfl rfl rfl ?_
            refine pu (v := .sc _) rfl rfl (fun _ => rfl) ?_
            refine RunC.fin ?_
            refine AWP.ret ?_
            refine rtT ?_
            refine rtB ?_
            refine rtT ?_
            refine rtT ?_
            refine rtB (rtT ?_)
            replace hR := escL hR hE14
            refine rtT ?_
            have hR := Option.some.inj hR; subst hR
            exact hQ _ _ (LS.mk [(6, .ptr 0 0 0), (7, .ptr 1 0 0), (8, .sc (.int .i64 10))] (lblks 0 [boxB (α := Bound) true (Bound.mk 0 0 false), boxB (α := Bound) true (Bound.mk 0 0 false)]) 2) (.tup [aggV (α := Bound) true (Bound.mk 0 0 false), aggV (α := Bound) true (Bound.mk 0 0 false), .sc (.int .i64 10)]) [] (.inr rfl) (Weak.turnL [(0, 0), (1, 0)] [] rfl rfl (tc (trP' rfl rfl rfl rfl) (tc (trP' rfl rfl rfl rfl) (tc (.sc _) tn))) (mc rfl (.box rfl (.cons (.sc _) (.cons (.sc _) (.cons (.sc _) (.nil)))) rfl) (mc rfl (.box rfl (.cons (.sc _) (.cons (.sc _) (.cons (.sc _) (.nil)))) rfl) mn))) (ro3 (rvC (v := aggV (α := Bound) true (Bound.mk 0 0 false)) rfl rfl ti35 rfl) (rvC (v := aggV (α := Bound) true (Bound.mk 0 0 false)) rfl rfl ti35 rfl) (rvT (v := .sc (.int .i64 10)) rfl)) rfl rfl (.tup (.cons ldA (.cons ldA (.cons (.sc _) .nil)))) pn
          · refine AWP.skip ?_
            refine skT ?_
            refine AWP.sq ?_
            refine AWP.rgC 120 rfl rfl ?_
            refine pu (v := .sc _) rfl rfl (fun _ => rfl) ?_
            refine pu (v := .sc _) rfl rfl (fun _ => rfl) ?_
            refine RunC.fin ?_
            refine AWP.sq ?_
            refine AWP.rgC 152 rfl rfl ?_
            refine ldB (v := .agg _) rfl rfl rfl rfl ti35 rfl rfl ?_
            refine ldB (v := .agg _) rfl rfl rfl rfl ti35 rfl rfl ?_
            obtain ⟨r22, hr22, hR⟩ := bindE hR
            refine cls [] rfl rfl cb15 (ok15 s14.1 r20.1 _ hr22) (.cons (.agg (.cons (.sc _) (.cons (.sc _) (.cons (.sc _) (.nil)))) rfl) (.cons (.agg (.cons (.sc _) (.cons (.sc _) (.cons (.sc _) (.nil)))) rfl) (.nil))) (.inr rfl) rfl ?_
            refine pu (v := .tup _) rfl rfl (fun _ => rfl) ?_
            refine pu (v := .agg _) rfl rfl (fun _ => rfl) ?_
            refine pu (v := .sc _) rfl rfl (fun _ => rfl) ?_
            refine stB (cs' := [.sc (.int .i64 r22.1.Lo), .sc (.int .i64 r22.1.Hi), .sc (.bool r22.1.Unknown)]) rfl rfl rfl rfl ti35 rfl rfl rfl rfl rfl ?_
            refine pu (v := .sc _) rfl rfl (fun _ => rfl) ?_
            refine RunC.fin ?_
            refine AWP.sq ?_
            refine AWP.rgC 184 rfl rfl ?_
            refine ldB (v := .agg _) rfl rfl rfl rfl ti35 rfl rfl ?_
            refine ldB (v := .agg _) rfl rfl rfl rfl ti35 rfl rfl ?_
            obtain ⟨r23, hr23, hR⟩ := bindE hR
            refine cls [] rfl rfl cb15 (ok15 s14.2.1 r20.2.1 _ hr23) (.cons (.agg (.cons (.sc _) (.cons (.sc _) (.cons (.sc _) (.nil)))) rfl) (.cons (.agg (.cons (.sc _) (.cons (.sc _) (.cons (.sc _) (.nil)))) rfl) (.nil))) (.inr rfl) rfl ?_
            refine pu (v := .tup _) rfl rfl (fun _ => rfl) ?_
            refine pu (v := .agg _) rfl rfl (fun _ => rfl) ?_
            refine pu (v := .sc _) rfl rfl (fun _ => rfl) ?_
            refine stB (cs' := [.sc (.int .i64 r23.1.Lo), .sc (.int .i64 r23.1.Hi), .sc (.bool r23.1.Unknown)]) rfl rfl rfl rfl ti35 rfl rfl rfl rfl rfl ?_
            refine pu (v := .sc _) rfl rfl (fun _ => rfl) ?_
            refine RunC.fin ?_
            refine AWP.joinX (fun z24 : Bool => LS.mk [(0, rowV (α := Measured) false a), (1, rowV (α := Measured) false b), (6, .ptr 0 0 0), (7, .ptr 1 0 0), (10, .ptr 2 0 0), (11, .ptr 3 0 0), (62, rowV (α := align_Pair) false l), (63, .sc (.int .i64 (l.length : Int))), (64, .sc (.int .i64 s14.2.2)), (104, .sc (.bool z24))] (lblks 0 [boxB (α := Bound) true (Bound.mk 0 0 false), boxB (α := Bound) true (Bound.mk 0 0 false), boxB (α := Bound) true r22.1, boxB (α := Bound) true r23.1]) 4) hR (fun o24 hR => ?_) fun z24 hR => ?_
            · refine AWP.rgC 208 rfl rfl ?_
              refine pu (v := .sc _) rfl rfl (fun _ => rfl) ?_
              refine pu (v := .sc _) rfl rfl (fun _ => rfl) ?_
              refine pu (v := .sc _) rfl rfl (fun _ => rfl) ?_
              refine brR hR (fun h25 hR => ?_) fun h25 hR => ?_
              · refine sk (skW rfl rfl rfl h25) ?_
                refine sk (skW rfl rfl rfl h25) ?_
                refine pkT (v := .sc (.bool true)) rfl rfl h25 rfl ?_
                refine RunC.fin ?_
                have hR := Option.some.inj hR; subst hR
                exact Weak.turnL [(0, 0), (1, 0), (2, 0), (3, 0)] [] rfl rfl (tc trR1 (tc trR1 (tc (trP' rfl rfl rfl rfl) (tc (trP' rfl rfl rfl rfl) (tc (trP' rfl rfl rfl rfl) (tc (trP' rfl rfl rfl rfl) (tc trR1 (tc (.sc _) (tc (.sc _) (tc (.sc _) tn)))))))))) (mc rfl (.box rfl (.cons (.sc _) (.cons (.sc _) (.cons (.sc _) (.nil)))) rfl) (mc rfl (.box rfl (.cons (.sc _) (.cons (.sc _) (.cons (.sc _) (.nil)))) rfl) (mc rfl (.box rfl (.cons (.sc _) (.cons (.sc _) (.cons (.sc _) (.nil)))) rfl) (mc rfl (.box rfl (.cons (.sc _) (.cons (.sc _) (.cons (.sc _) (.nil)))) rfl) mn))))
              · refine pu (v := .sc _) (wtG rfl rfl rfl h25) rfl (fun _ => rfl) ?_
                refine pu (v := .sc _) (wtG rfl rfl rfl h25) rfl (fun _ => rfl) ?_
                refine pkF (v := .sc (.bool (!r23.2))) rfl rfl h25 rfl ?_
                refine RunC.fin ?_
                have hR := Option.some.inj hR; subst hR
                exact Weak.turnL [(0, 0), (1, 0), (2, 0), (3, 0)] [] rfl rfl (tc trR1 (tc trR1 (tc (trP' rfl rfl rfl rfl) (tc (trP' rfl rfl rfl rfl) (tc (trP' rfl rfl rfl rfl) (tc (trP' rfl rfl rfl rfl) (tc trR1 (tc (.sc _) (tc (.sc _) (tc (.sc _) tn)))))))))) (mc rfl (.box rfl (.cons (.sc _) (.cons (.sc _) (.cons (.sc _) (.nil)))) rfl) (mc rfl (.box rfl (.cons (.sc _) (.cons (.sc _) (.cons (.sc _) (.nil)))) rfl) (mc rfl (.box rfl (.cons (.sc _) (.cons (.sc _) (.cons (.sc _) (.nil)))) rfl) (mc rfl (.box rfl (.cons (.sc _) (.cons (.sc _) (.cons (.sc _) (.nil)))) rfl) mn))))
            · refine AWP.cd hR rfl (fun h26 hR => ?_) fun h26 hR => ?_
              · refine AWP.sq ?_
                refine AWP.rgD 24 [0, 0, 1, 7, 15] ⟨[], [some [0], some [1], some [0], some [1], none]⟩ hmix (by kernel_rfl) rfl rfl ?_
                refine ldB (v := .agg _) rfl rfl rfl rfl ti35 rfl rfl ?_
                refine ldB (v := .agg _) rfl rfl rfl rfl ti35 rfl rfl ?_
                refine stB (cs' := [.sc (.int .i64 0), .sc (.int .i64 0), .sc (.bool false)]) rfl rfl rfl rfl ti35 rfl rfl rfl rfl rfl ?_
                refine stB (cs' := [.sc (.int .i64 0), .sc (.int .i64 0), .sc (.bool false)]) rfl rfl rfl rfl ti35 rfl rfl rfl rfl rfl ?_
                refine pu (v := .sc _) rfl rfl (fun _ => rfl) ?_
                refine RunC.fin ?_
                refine AWP.ret ?_
                refine rtB ?_
                refine rtT ?_
                refine rtT ?_
                refine rtB (rtT ?_)
                replace hR := escL hR hE14
                refine rtT ?_
                have hR := Option.some.inj hR; subst hR
                exact hQ _ _ (LS.mk [(6, .ptr 0 0 0), (7, .ptr 1 0 0), (8, .sc (.int .i64 15))] (lblks 0 [boxB (α := Bound) true (Bound.mk 0 0 false), boxB (α := Bound) true (Bound.mk 0 0 false)]) 2) (.tup [aggV (α := Bound) true (Bound.mk 0 0 false), aggV (α := Bound) true (Bound.mk 0 0 false), .sc (.int .i64 15)]) [] (.inr rfl) (Weak.turnL [(0, 0), (1, 0)] [] rfl rfl (tc (trP' rfl rfl rfl rfl) (tc (trP' rfl rfl rfl rfl) (tc (.sc _) tn))) (mc rfl (.box rfl (.cons (.sc _) (.cons (.sc _) (.cons (.sc _) (.nil)))) rfl) (mc rfl (.box rfl (.cons (.sc _) (.cons (.sc _) (.cons (.sc _) (.nil)))) rfl) mn))) (ro3 (rvC (v := aggV (α := Bound) true (Bound.mk 0 0 false)) rfl rfl ti35 rfl) (rvC (v := aggV (α := Bound) true (Bound.mk 0 0 false)) rfl rfl ti35 rfl) (rvT (v := .sc (.int .i64 15)) rfl)) rfl rfl (.tup (.cons ldA (.cons ldA (.cons (.sc _) .nil)))) pn
              · refine AWP.skip ?_
                refine skB ?_
                refine skT ?_
                refine AWP.rgC 12 rfl rfl ?_
                refine pu (v := .sc _) rfl rfl (fun _ => rfl) ?_
                refine pu (v := .sc _) rfl rfl (fun _ => rfl) ?_
                refine RunC.fin ?_
                refine ⟨(r22.1, r23.1, w6 (s14.2.2 + 1)), (Option.some.inj hR).symm, ?_⟩
                exact Weak.turnL [(0, 0), (1, 0), (2, 0), (3, 0)] [] rfl rfl (tc trR1 (tc trR1 (tc (trP' rfl rfl rfl rfl) (tc (trP' rfl rfl rfl rfl) (tc (trP' rfl rfl rfl rfl) (tc (trP' rfl rfl rfl rfl) (tc trR1 (tc (.sc _) (tc (.sc _) tn))))))))) (mc rfl (.box rfl (.cons (.sc _) (.cons (.sc _) (.cons (.sc _) (.nil)))) rfl) (mc rfl (.box rfl (.cons (.sc _) (.cons (.sc _) (.cons (.sc _) (.nil)))) rfl) (mc rfl (.box rfl (.cons (.sc _) (.cons (.sc _) (.cons (.sc _) (.nil)))) rfl) (mc rfl (.box rfl (.cons (.sc _) (.cons (.sc _) (.cons (.sc _) (.nil)))) rfl) mn))))
        · refine AWP.exit ?_
          refine exT ?_
          refine exT ?_
          refine exH (skT ?_)
          refine ⟨(s14.1, s14.2.1), (Option.some.inj hR).symm, ?_⟩
          exact Weak.turnL [(0, 0), (1, 0), (2, 0), (3, 0)] [] rfl rfl (tc (trP' rfl rfl rfl rfl) (tc (trP' rfl rfl rfl rfl) (tc (trP' rfl rfl rfl rfl) (tc (trP' rfl rfl rfl rfl) tn)))) (mc rfl (.box rfl (.cons (.sc _) (.cons (.sc _) (.cons (.sc _) (.nil)))) rfl) (mc rfl (.box rfl (.cons (.sc _) (.cons (.sc _) (.cons (.sc _) (.nil)))) rfl) (mc rfl (.box rfl (.cons (.sc _) (.cons (.sc _) (.cons (.sc _) (.nil)))) rfl) (mc rfl (.box rfl (.cons (.sc _) (.cons (.sc _) (.cons (.sc _) (.nil)))) rfl) mn))))
      · refine skT ?_
        refine AWP.sq ?_
        refine AWP.rgD 24 [0, 0, 1, 7, 15] ⟨[], [some [2], some [3], some [0], some [1], none]⟩ hmix (by kernel_rfl) rfl rfl ?_
        refine ldB (v := .agg _) rfl rfl rfl rfl ti35 rfl rfl ?_
        refine ldB (v := .agg _) rfl rfl rfl rfl ti35 rfl rfl ?_
        refine stB (cs' := [.sc (.int .i64 z15.1.Lo), .sc (.int .i64 z15.1.Hi), .sc (.bool z15.1.Unknown)]) rfl rfl rfl rfl ti35 rfl rfl rfl rfl rfl ?_
        refine stB (cs' := [.sc (.int .i64 z15.2.Lo), .sc (.int .i64 z15.2.Hi), .sc (.bool z15.2.Unknown)]) rfl rfl rfl rfl ti35 rfl rfl rfl rfl rfl ?_
        refine pu (v := .sc _) rfl rfl (fun _ => rfl) ?_
        refine RunC.fin ?_
        refine AWP.ret ?_
        have hR := Option.some.inj hR; subst hR
        exact hQ _ _ (LS.mk [(6, .ptr 0 0 0), (7, .ptr 1 0 0), (8, .sc (.int .i64 0))] (lblks 0 [boxB (α := Bound) true z15.1, boxB (α := Bound) true z15.2]) 2) (.tup [aggV (α := Bound) true z15.1, aggV (α := Bound) true z15.2, .sc (.int .i64 0)]) [] (.inr rfl) (Weak.turnL [(0, 0), (1, 0)] [] rfl rfl (tc (trP' rfl rfl rfl rfl) (tc (trP' rfl rfl rfl rfl) (tc (.sc _) tn))) (mc rfl (.box rfl (.cons (.sc _) (.cons (.sc _) (.cons (.sc _) (.nil)))) rfl) (mc rfl (.box rfl (.cons (.sc _) (.cons (.sc _) (.cons (.sc _) (.nil)))) rfl) mn))) (ro3 (rvC (v := aggV (α := Bound) true z15.1) rfl rfl ti35 rfl) (rvC (v := aggV (α := Bound) true z15.2) rfl rfl ti35 rfl) (rvT (v := .sc (.int .i64 0)) rfl)) rfl rfl (.tup (.cons ldA (.cons ldA (.cons (.sc _) .nil)))) pn
theorem ok4 (s : spymake_Stream) (most : Int) (r : (List Measured) × spymake_Stream) (hR : Stream_Spots s most = some r) : FnD Try.prog 4 [boxB false s] [.ptr 0 0 0, .sc (.int .i64 most)] (rowV (α := Measured) true r.1) [boxB false r.2] := by
  refine FnX.walk Try.func4 rfl 50 1 (by simp [Try.ntmps4]) rfl fun W S F Q hQ => ?_
  unfold Stream_Spots at hR
  refine AWP.sq ?_
  refine AWP.rgC 5 rfl rfl ?_
  refine pu (v := .sc _) rfl rfl (fun _ => rfl) ?_
  refine RunC.fin ?_
  refine AWP.sq ?_
  refine AWP.rgC 9 rfl rfl ?_
  refine pu (v := .sc _) rfl rfl (fun _ => rfl) ?_
  refine RunC.fin ?_
  refine AWP.sq ?_
  refine AWP.rgC 33 rfl rfl ?_
  refine bs (α := Int) 9 true ([0, 8, 300] : List Int) rfl rfl ti22 rfl ti3 rfl rfl rfl rfl rfl ?_
  refine pu (v := .ptr _ _ _) rfl rfl (fun _ => rfl) ?_
  obtain ⟨r1, hr1, hR⟩ := bindE hR
  refine cps (res' := .sc (.int .i64 r1.1)) (ups := [(0, boxB (α := spymake_Stream) false r1.2)]) [0] 17 rfl rfl rfl cb6 (ok6 s 3 _ hr1) (.cons (ldP rfl rfl) (.cons (.sc _) (.nil))) (pc rfl (.box (.cons ldR' (.cons (.sc _) (.nil))) rfl) pn) rfl rfl rfl rfl rfl (by first | rfl | exact renR | exact renA | exact renS | simp only [V.ren, V.rens, renR, renA, renS] | (simp only [V.ren, V.rens, renR, renA, renS]; rfl)) (by simp only [passUps, renBox, renArr]; rfl) ?_
  obtain ⟨h2, hR⟩ := chkE hR
  refine ixS0 (α := Int) rfl rfl rfl ti22 rfl ti3 rfl h2 ?_
  refine ldE (α := Int) (v := .sc _) rfl rfl rfl (ixlt h2) ti3 rfl rfl rfl rfl ?_
  refine pu (v := .sc _) rfl rfl (fun _ => rfl) ?_
  refine RunC.fin ?_
  refine AWP.sq ?_
  refine AWP.sq ?_
  refine AWP.rgC 53 rfl rfl ?_
  refine pu (v := .ptr _ _ _) rfl rfl (fun _ => rfl) ?_
  refine pu (v := .sc _) rfl rfl (fun _ => rfl) ?_
  refine pu (v := .sc _) rfl rfl (fun _ => rfl) ?_
  obtain ⟨r3, hr3, hR⟩ := bindE hR
  refine cps (res' := .sc (.int .i64 r3.1)) (ups := [(0, boxB (α := spymake_Stream) false r3.2)]) [0] 45 rfl rfl rfl cb6 (ok6 r1.2 (w6 (most + 1)) _ hr3) (.cons (ldP rfl rfl) (.cons (.sc _) (.nil))) (pc rfl (.box (.cons ldR' (.cons (.sc _) (.nil))) rfl) pn) rfl rfl rfl rfl rfl (by first | rfl | exact renR | exact renA | exact renS | simp only [V.ren, V.rens, renR, renA, renS] | (simp only [V.ren, V.rens, renR, renA, renS]; rfl)) (by simp only [passUps, renBox, renArr]; rfl) ?_
  refine pu (v := .sc _) rfl rfl (fun _ => rfl) ?_
  refine RunC.fin ?_
  refine AWP.nilT Measured 5 47 rfl ?_
  refine AWP.loopJ (fun s4 : spymake_Stream × (List Measured) × Int => LS.mk [(0, .ptr 0 0 0), (5, slV Measured 1 0 0 s4.2.1.length), (6, .sc (.int .i64 (gt ([0, 8, 300] : List Int) r1.1))), (17, .sc (.int .i64 r3.1)), (18, .sc (.int .i64 s4.2.2))] (lblks 0 [boxB (α := spymake_Stream) false s4.1, arrB (α := Measured) 47 0 true s4.2.1]) 2) (fun z5 : spymake_Stream × (List Measured) => LS.mk [(5, slV Measured 1 0 0 z5.2.length)] (lblks 0 [boxB (α := spymake_Stream) false z5.1, arrB (α := Measured) 47 0 true z5.2]) 2) (Stream_Spots.l1 r1 r3) hR (s0 := (r3.2, ([] : List Measured), 0)) (Weak.turnL [(0, 0), (53, 0)] [] rfl rfl (tc (trP' rfl rfl rfl rfl) (tc (trS' rfl rfl rfl rfl rfl) (tc (.sc _) (tc (.sc _) (tc (.sc _) tn))))) (mc rfl (.box rfl (.cons trR1 (.cons (.sc _) (.nil))) rfl) (mc rfl (btrA' rfl) mn))) (fun s4 o4 hR => ?_) fun z5 hR => ?_
  · unfold Stream_Spots.l1 at hR
    refine AWP.sq ?_
    refine AWP.rgC 6 rfl rfl ?_
    refine pu (v := .sc _) rfl rfl (fun _ => rfl) ?_
    refine RunC.fin ?_
    refine AWP.sq ?_
    refine AWP.cd hR rfl (fun h6 hR => ?_) fun h6 hR => ?_
    · refine AWP.skip ?_
      refine skT ?_
      refine AWP.sq ?_
      refine AWP.block ?_
      refine AWP.sq ?_
      refine AWP.rgC 70 rfl rfl ?_
      refine pu (v := .ptr _ _ _) rfl rfl (fun _ => rfl) ?_
      obtain ⟨r7, hr7, hR⟩ := bindE hR
      refine cps (res' := .sc (.int .i64 r7.1)) (ups := [(0, boxB (α := spymake_Stream) false r7.2)]) [0] 10 rfl rfl rfl cb5 (ok5 s4.1 0 31 _ hr7) (.cons (ldP rfl rfl) (.cons (.sc _) (.cons (.sc _) (.nil)))) (pc rfl (.box (.cons ldR' (.cons (.sc _) (.nil))) rfl) pn) rfl rfl rfl rfl rfl (by first | rfl | exact renR | exact renA | exact renS | simp only [V.ren, V.rens, renR, renA, renS] | (simp only [V.ren, V.rens, renR, renA, renS]; rfl)) (by simp only [passUps, renBox, renArr]; rfl) ?_
      refine pu (v := .sc _) rfl rfl (fun _ => rfl) ?_
      refine pu (v := .ptr _ _ _) rfl rfl (fun _ => rfl) ?_
      obtain ⟨r8, hr8, hR⟩ := bindE hR
      refine cps (res' := .sc (.int .i64 r8.1)) (ups := [(0, boxB (α := spymake_Stream) false r8.2)]) [0] 22 rfl rfl rfl cb6 (ok6 r7.2 3 _ hr8) (.cons (ldP rfl rfl) (.cons (.sc _) (.nil))) (pc rfl (.box (.cons ldR' (.cons (.sc _) (.nil))) rfl) pn) rfl rfl rfl rfl rfl (by first | rfl | exact renR | exact renA | exact renS | simp only [V.ren, V.rens, renR, renA, renS] | (simp only [V.ren, V.rens, renR, renA, renS]; rfl)) (by simp only [passUps, renBox, renArr]; rfl) ?_
      refine pu (v := .sc _) rfl rfl (fun _ => rfl) ?_
      refine pu (v := .sc _) rfl rfl (fun _ => rfl) ?_
      refine pu (v := .ptr _ _ _) rfl rfl (fun _ => rfl) ?_
      obtain ⟨r9, hr9, hR⟩ := bindE hR
      refine cps (res' := .sc (.int .i64 r9.1)) (ups := [(0, boxB (α := spymake_Stream) false r9.2)]) [0] 38 rfl rfl rfl cb5 (ok5 r8.2 0 31 _ hr9) (.cons (ldP rfl rfl) (.cons (.sc _) (.cons (.sc _) (.nil)))) (pc rfl (.box (.cons ldR' (.cons (.sc _) (.nil))) rfl) pn) rfl rfl rfl rfl rfl (by first | rfl | exact renR | exact renA | exact renS | simp only [V.ren, V.rens, renR, renA, renS] | (simp only [V.ren, V.rens, renR, renA, renS]; rfl)) (by simp only [passUps, renBox, renArr]; rfl) ?_
      refine pu (v := .sc _) rfl rfl (fun _ => rfl) ?_
      refine pu (v := .ptr _ _ _) rfl rfl (fun _ => rfl) ?_
      obtain ⟨r10, hr10, hR⟩ := bindE hR
      refine cps (res' := .sc (.int .i64 r10.1)) (ups := [(0, boxB (α := spymake_Stream) false r10.2)]) [0] 50 rfl rfl rfl cb6 (ok6 r9.2 3 _ hr10) (.cons (ldP rfl rfl) (.cons (.sc _) (.nil))) (pc rfl (.box (.cons ldR' (.cons (.sc _) (.nil))) rfl) pn) rfl rfl rfl rfl rfl (by first | rfl | exact renR | exact renA | exact renS | simp only [V.ren, V.rens, renR, renA, renS] | (simp only [V.ren, V.rens, renR, renA, renS]; rfl)) (by simp only [passUps, renBox, renArr]; rfl) ?_
      refine pu (v := .sc _) rfl rfl (fun _ => rfl) ?_
      refine pu (v := .sc _) rfl rfl (fun _ => rfl) ?_
      refine pu (v := .sc _) rfl rfl (fun _ => rfl) ?_
      refine pu (v := .sc _) rfl rfl (fun _ => rfl) ?_
      refine RunC.fin ?_
      refine AWP.rgC 130 rfl rfl ?_
      refine pu (v := slV Measured _ _ _ _) rfl rfl (fun _ => rfl) ?_
      refine pu (v := .ptr _ _ _) rfl rfl (fun _ => rfl) ?_
      refine pu (v := .sc _) rfl rfl (fun _ => rfl) ?_
      refine pu (v := .sc _) rfl rfl (fun _ => rfl) ?_
      obtain ⟨r11, hr11, hR⟩ := bindE hR
      refine cps (res' := aggV (α := Bound) true r11.1) (ups := [(0, boxB (α := spymake_Stream) false r11.2)]) [0] 86 rfl rfl rfl cb9 (ok9 r10.2 (w6 ((w6 (r7.1 * 256)) + (w6 (r8.1 * 128)))) (gt ([0, 8, 300] : List Int) r1.1) _ hr11) (.cons (ldP rfl rfl) (.cons (.sc _) (.cons (.sc _) (.nil)))) (pc rfl (.box (.cons ldR' (.cons (.sc _) (.nil))) rfl) pn) rfl rfl rfl rfl rfl (by first | rfl | exact renR | exact renA | exact renS | simp only [V.ren, V.rens, renR, renA, renS] | (simp only [V.ren, V.rens, renR, renA, renS]; rfl)) (by simp only [passUps, renBox, renArr]; rfl) ?_
      refine pu (v := .ptr _ _ _) rfl rfl (fun _ => rfl) ?_
      refine pu (v := .sc _) rfl rfl (fun _ => rfl) ?_
      refine pu (v := .sc _) rfl rfl (fun _ => rfl) ?_
      obtain ⟨r12, hr12, hR⟩ := bindE hR
      refine cps (res' := aggV (α := Bound) true r12.1) (ups := [(0, boxB (α := spymake_Stream) false r12.2)]) [0] 102 rfl rfl rfl cb9 (ok9 r11.2 (w6 ((w6 (r9.1 * 256)) + (w6 (r10.1 * 128)))) (gt ([0, 8, 300] : List Int) r1.1) _ hr12) (.cons (ldP rfl rfl) (.cons (.sc _) (.cons (.sc _) (.nil)))) (pc rfl (.box (.cons ldR' (.cons (.sc _) (.nil))) rfl) pn) rfl rfl rfl rfl rfl (by first | rfl | exact renR | exact renA | exact renS | simp only [V.ren, V.rens, renR, renA, renS] | (simp only [V.ren, V.rens, renR, renA, renS]; rfl)) (by simp only [passUps, renBox, renArr]; rfl) ?_
      refine pu (v := .ptr _ _ _) rfl rfl (fun _ => rfl) ?_
      obtain ⟨r13, hr13, hR⟩ := bindE hR
      refine cps (res' := aggV (α := Bound) true r13.1) (ups := [(0, boxB (α := spymake_Stream) false r13.2)]) [0] 110 rfl rfl rfl cb10 (ok10 r12.2 1000 _ hr13) (.cons (ldP rfl rfl) (.cons (.sc _) (.nil))) (pc rfl (.box (.cons ldR' (.cons (.sc _) (.nil))) rfl) pn) rfl rfl rfl rfl rfl (by first | rfl | exact renR | exact renA | exact renS | simp only [V.ren, V.rens, renR, renA, renS] | (simp only [V.ren, V.rens, renR, renA, renS]; rfl)) (by simp only [passUps, renBox, renArr]; rfl) ?_
      refine bu (cs := [.sc (.int .i64 r11.1.Lo), .sc (.int .i64 r11.1.Hi), .sc (.bool r11.1.Unknown), .sc (.int .i64 r12.1.Lo), .sc (.int .i64 r12.1.Hi), .sc (.bool r12.1.Unknown), .sc (.int .i64 r13.1.Lo), .sc (.int .i64 r13.1.Hi), .sc (.bool r13.1.Unknown)]) rfl bt47 rfl ?_
      refine bs (α := Measured) 118 true ([Measured.mk r11.1 r12.1 r13.1] : List Measured) rfl rfl ti26 rfl ti47 rfl rfl rfl rfl rfl ?_
      obtain ⟨h14, hR⟩ := chkE hR
      refine ap' (α := Measured) (nw := true) (xs := s4.2.1) (ys := ([Measured.mk r11.1 r12.1 r13.1] : List Measured)) rfl rfl rfl rfl (srcS' rfl rfl rfl) ti26 rfl ti47 rfl h14 rfl ?_
      refine pu (v := slV Measured _ _ _ _) rfl rfl (fun _ => rfl) ?_
      refine RunC.blk ?_
      refine RunC.fin ?_
      refine AWP.rgC 138 rfl rfl ?_
      refine pu (v := .sc _) rfl rfl (fun _ => rfl) ?_
      refine pu (v := .sc _) rfl rfl (fun _ => rfl) ?_
      refine RunC.fin ?_
      refine ⟨(r13.2, s4.2.1 ++ ([Measured.mk r11.1 r12.1 r13.1] : List Measured), w6 (s4.2.2 + 1)), (Option.some.inj hR).symm, ?_⟩
      exact Weak.turnL [(0, 0), (1, 0)] [] rfl rfl (tc (trP' rfl rfl rfl rfl) (tc (trS' rfl rfl rfl rfl rfl) (tc (.sc _) (tc (.sc _) (tc (.sc _) tn))))) (mc rfl (.box rfl (.cons trR1 (.cons (.sc _) (.nil))) rfl) (mc rfl (btrA' rfl) mn))
    · refine AWP.exit ?_
      refine exT ?_
      refine exT ?_
      refine exH (skT ?_)
      refine ⟨(s4.1, s4.2.1), (Option.some.inj hR).symm, ?_⟩
      exact Weak.turnL [(0, 0), (1, 0)] [] rfl rfl (tc (trS' rfl rfl rfl rfl rfl) tn) (mc rfl (.box rfl (.cons trR1 (.cons (.sc _) (.nil))) rfl) (mc rfl (btrA' rfl) mn))
  · refine skT ?_
    refine AWP.sq ?_
    refine AWP.rgC 10 rfl rfl ?_
    refine pu (v := slV Measured _ _ _ _) rfl rfl (fun _ => rfl) ?_
    refine pu (v := slV Measured _ _ _ _) rfl rfl (fun _ => rfl) ?_
    refine RunC.fin ?_
    refine AWP.ret ?_
    have hR := Option.some.inj hR; subst hR
    exact hQ _ _ (LS.mk [(4, rowV (α := Measured) true z5.2)] (lblks 0 [boxB (α := spymake_Stream) false z5.1]) 1) (rowV (α := Measured) true z5.2) [] (.inr rfl) (Weak.turnL [(0, 0)] [1] rfl rfl (tc (trF' rfl rfl id rfl) tn) (mc rfl (.box rfl (.cons trR1 (.cons (.sc _) (.nil))) rfl) mn)) (ro1 (rvT (v := rowV (α := Measured) true z5.2) rfl)) rfl rfl ldR' (pc rfl bldB pn)
theorem ok3 (l : List Int) (r : Bool) (hR : spykeep4_AlignHelly l = some r) : FnP Try.prog 3 [rowV false l] (.sc (.bool r)) := by
  refine fnP_of (FnX.walk Try.func3 rfl 159 0 (by simp [Try.ntmps3]) rfl fun W S F Q hQ => ?_)
  unfold spykeep4_AlignHelly at hR
  refine AWP.sq ?_
  refine AWP.rgC 4 rfl rfl ?_
  refine pu (v := .sc _) rfl rfl (fun _ => rfl) ?_
  refine RunC.fin ?_
  refine AWP.sq ?_
  refine AWP.rgC 20 rfl rfl ?_
  refine pu (v := rowV _ l) rfl rfl (fun _ => rfl) ?_
  refine bu (cs := [rowV (α := Int) false l, .sc (.int .i64 0)]) rfl bt25 rfl ?_
  refine bx (cs := _) 12 rfl rfl rfl ?_
  refine pu (v := .ptr _ _ _) rfl rfl (fun _ => rfl) ?_
  refine RunC.fin ?_
  refine AWP.sq ?_
  refine AWP.rgC 44 rfl rfl ?_
  refine pu (v := .ptr _ _ _) rfl rfl (fun _ => rfl) ?_
  obtain ⟨r1, hr1, hR⟩ := bindE hR
  refine cps (res' := rowV (α := Measured) true r1.1) (ups := [(12, boxB (α := spymake_Stream) false r1.2)]) [12] 24 rfl rfl rfl cb4 (ok4 (spymake_Stream.mk l 0) 5 _ hr1) (.cons (ldP rfl rfl) (.cons (.sc _) (.nil))) (pc rfl (.box (.cons ldR' (.cons (.sc _) (.nil))) rfl) pn) rfl rfl rfl rfl rfl (by first | rfl | exact renR | exact renA | exact renS | simp only [V.ren, V.rens, renR, renA, renS] | (simp only [V.ren, V.rens, renR, renA, renS]; rfl)) (by simp only [passUps, renBox, renArr]; rfl) ?_
  refine pu (v := .ptr _ _ _) rfl rfl (fun _ => rfl) ?_
  obtain ⟨r2, hr2, hR⟩ := bindE hR
  refine cps (res' := rowV (α := Measured) true r2.1) (ups := [(12, boxB (α := spymake_Stream) false r2.2)]) [12] 32 rfl rfl rfl cb4 (ok4 r1.2 5 _ hr2) (.cons (ldP rfl rfl) (.cons (.sc _) (.nil))) (pc rfl (.box (.cons ldR' (.cons (.sc _) (.nil))) rfl) pn) rfl rfl rfl rfl rfl (by first | rfl | exact renR | exact renA | exact renS | simp only [V.ren, V.rens, renR, renA, renS] | (simp only [V.ren, V.rens, renR, renA, renS]; rfl)) (by simp only [passUps, renBox, renArr]; rfl) ?_
  refine pu (v := rowV _ r1.1) rfl rfl (fun _ => rfl) ?_
  refine pu (v := rowV _ r2.1) rfl rfl (fun _ => rfl) ?_
  refine RunC.fin ?_
  refine AWP.sq ?_
  refine AWP.rgC 48 rfl rfl ?_
  refine pu (v := .sc _) rfl rfl (fun _ => rfl) ?_
  refine RunC.fin ?_
  refine AWP.sq ?_
  refine AWP.sq ?_
  refine AWP.rgC 60 rfl rfl ?_
  refine pu (v := .ptr _ _ _) rfl rfl (fun _ => rfl) ?_
  obtain ⟨r3, hr3, hR⟩ := bindE hR
  refine cps (res' := .sc (.int .i64 r3.1)) (ups := [(12, boxB (α := spymake_Stream) false r3.2)]) [12] 52 rfl rfl rfl cb5 (ok5 r2.2 0 5 _ hr3) (.cons (ldP rfl rfl) (.cons (.sc _) (.cons (.sc _) (.nil)))) (pc rfl (.box (.cons ldR' (.cons (.sc _) (.nil))) rfl) pn) rfl rfl rfl rfl rfl (by first | rfl | exact renR | exact renA | exact renS | simp only [V.ren, V.rens, renR, renA, renS] | (simp only [V.ren, V.rens, renR, renA, renS]; rfl)) (by simp only [passUps, renBox, renArr]; rfl) ?_
  refine pu (v := .sc _) rfl rfl (fun _ => rfl) ?_
  refine RunC.fin ?_
  refine AWP.nilT align_Pair 6 32 rfl ?_
  refine AWP.loopJ (fun s4 : spymake_Stream × (List align_Pair) × Int => LS.mk [(3, .ptr 0 0 0), (4, rowV (α := Measured) true r1.1), (5, rowV (α := Measured) true r2.1), (6, slV align_Pair 1 0 0 s4.2.1.length), (31, .sc (.int .i64 r3.1)), (32, .sc (.int .i64 s4.2.2))] (lblks 0 [boxB (α := spymake_Stream) false s4.1, arrB (α := align_Pair) 32 0 true s4.2.1]) 2) (fun z5 : (List align_Pair) => LS.mk [(4, rowV (α := Measured) true r1.1), (5, rowV (α := Measured) true r2.1), (6, slV align_Pair 0 0 0 z5.length)] (lblks 0 [arrB (α := align_Pair) 32 0 true z5]) 1) (spykeep4_AlignHelly.l1 r1 r2 r3) hR (s0 := (r3.2, ([] : List align_Pair), 0)) (Weak.turnL [(12, 0), (60, 0)] [] rfl rfl (tc (trP' rfl rfl rfl rfl) (tc trR1 (tc trR1 (tc (trS' rfl rfl rfl rfl rfl) (tc (.sc _) (tc (.sc _) tn)))))) (mc rfl (.box rfl (.cons trR1 (.cons (.sc _) (.nil))) rfl) (mc rfl (btrA' rfl) mn))) (fun s4 o4 hR => ?_) fun z5 hR => ?_
  · unfold spykeep4_AlignHelly.l1 at hR
    refine AWP.sq ?_
    refine AWP.rgC 6 rfl rfl ?_
    refine pu (v := .sc _) rfl rfl (fun _ => rfl) ?_
    refine RunC.fin ?_
    refine AWP.sq ?_
    refine AWP.cd hR rfl (fun h6 hR => ?_) fun h6 hR => ?_
    · refine AWP.skip ?_
      refine skT ?_
      refine AWP.joinX (fun z7 : spymake_Stream × (List align_Pair) => LS.mk [(3, .ptr 0 0 0), (4, rowV (α := Measured) true r1.1), (5, rowV (α := Measured) true r2.1), (6, slV align_Pair 1 0 0 z7.2.length), (31, .sc (.int .i64 r3.1)), (32, .sc (.int .i64 s4.2.2))] (lblks 0 [boxB (α := spymake_Stream) false z7.1, arrB (α := align_Pair) 32 0 true z7.2]) 2) hR (fun o7 hR => ?_) fun z7 hR => ?_
      · refine AWP.block ?_
        refine AWP.joinX (fun z8 : Bool => LS.mk [(3, .ptr 0 0 0), (4, rowV (α := Measured) true r1.1), (5, rowV (α := Measured) true r2.1), (6, slV align_Pair 1 0 0 s4.2.1.length), (31, .sc (.int .i64 r3.1)), (32, .sc (.int .i64 s4.2.2)), (41, .sc (.bool z8))] (lblks 0 [boxB (α := spymake_Stream) false s4.1, arrB (α := align_Pair) 32 0 true s4.2.1]) 2) hR (fun o8 hR => ?_) fun z8 hR => ?_
        · refine AWP.rgC 38 rfl rfl ?_
          refine pu (v := rowV _ r1.1) rfl rfl (fun _ => rfl) ?_
          refine lenL (α := Measured) rfl rfl ti26 rfl ?_
          refine pu (v := .sc _) rfl rfl (fun _ => rfl) ?_
          refine pu (v := .sc _) rfl rfl (fun _ => rfl) ?_
          refine brR hR (fun h9 hR => ?_) fun h9 hR => ?_
          · refine pu (v := rowV _ r2.1) (wtG rfl rfl rfl h9) rfl (fun _ => rfl) ?_
            refine lenL (α := Measured) (wtG rfl rfl rfl h9) rfl ti26 rfl ?_
            refine pu (v := .sc _) (wtG rfl rfl rfl h9) rfl (fun _ => rfl) ?_
            refine pkT (v := .sc (.bool (decide ((r2.1.length : Int) > 0)))) rfl rfl h9 rfl ?_
            refine RunC.fin ?_
            have hR := Option.some.inj hR; subst hR
            exact Weak.turnL [(0, 0), (1, 0)] [] rfl rfl (tc (trP' rfl rfl rfl rfl) (tc trR1 (tc trR1 (tc (trS' rfl rfl rfl rfl rfl) (tc (.sc _) (tc (.sc _) (tc (.sc _) tn))))))) (mc rfl (.box rfl (.cons trR1 (.cons (.sc _) (.nil))) rfl) (mc rfl (btrA' rfl) mn))
          · refine sk (skW rfl rfl rfl h9) ?_
            refine sk (skW rfl rfl rfl h9) ?_
            refine sk (skW rfl rfl rfl h9) ?_
            refine pkF (v := .sc (.bool false)) rfl rfl h9 rfl ?_
            refine RunC.fin ?_
            have hR := Option.some.inj hR; subst hR
            exact Weak.turnL [(0, 0), (1, 0)] [] rfl rfl (tc (trP' rfl rfl rfl rfl) (tc trR1 (tc trR1 (tc (trS' rfl rfl rfl rfl rfl) (tc (.sc _) (tc (.sc _) (tc (.sc _) tn))))))) (mc rfl (.box rfl (.cons trR1 (.cons (.sc _) (.nil))) rfl) (mc rfl (btrA' rfl) mn))
        · refine AWP.cd hR rfl (fun h10 hR => ?_) fun h10 hR => ?_
          · refine AWP.rgC 54 rfl rfl ?_
            refine pu (v := slV align_Pair _ _ _ _) rfl rfl (fun _ => rfl) ?_
            refine pu (v := .ptr _ _ _) rfl rfl (fun _ => rfl) ?_
            refine pu (v := rowV _ r1.1) rfl rfl (fun _ => rfl) ?_
            refine lenL (α := Measured) rfl rfl ti26 rfl ?_
            obtain ⟨r11, hr11, hR⟩ := bindE hR
            refine cps (res' := .sc (.int .i64 r11.1)) (ups := [(0, boxB (α := spymake_Stream) false r11.2)]) [0] 18 rfl rfl rfl cb6 (ok6 s4.1 (r1.1.length : Int) _ hr11) (.cons (ldP rfl rfl) (.cons (.sc _) (.nil))) (pc rfl (.box (.cons ldR' (.cons (.sc _) (.nil))) rfl) pn) rfl rfl rfl rfl rfl (by first | rfl | exact renR | exact renA | exact renS | simp only [V.ren, V.rens, renR, renA, renS] | (simp only [V.ren, V.rens, renR, renA, renS]; rfl)) (by simp only [passUps, renBox, renArr]; rfl) ?_
            refine pu (v := .ptr _ _ _) rfl rfl (fun _ => rfl) ?_
            refine pu (v := rowV _ r2.1) rfl rfl (fun _ => rfl) ?_
            refine lenL (α := Measured) rfl rfl ti26 rfl ?_
            obtain ⟨r12, hr12, hR⟩ := bindE hR
            refine cps (res' := .sc (.int .i64 r12.1)) (ups := [(0, boxB (α := spymake_Stream) false r12.2)]) [0] 34 rfl rfl rfl cb6 (ok6 r11.2 (r2.1.length : Int) _ hr12) (.cons (ldP rfl rfl) (.cons (.sc _) (.nil))) (pc rfl (.box (.cons ldR' (.cons (.sc _) (.nil))) rfl) pn) rfl rfl rfl rfl rfl (by first | rfl | exact renR | exact renA | exact renS | simp only [V.ren, V.rens, renR, renA, renS] | (simp only [V.ren, V.rens, renR, renA, renS]; rfl)) (by simp only [passUps, renBox, renArr]; rfl) ?_
            refine bu (cs := [.sc (.int .i64 r11.1), .sc (.int .i64 r12.1)]) rfl bt32 rfl ?_
            refine bs (α := align_Pair) 42 true ([align_Pair.mk r11.1 r12.1] : List align_Pair) rfl rfl ti28 rfl ti32 rfl rfl rfl rfl rfl ?_
            obtain ⟨h13, hR⟩ := chkE hR
            refine ap' (α := align_Pair) (nw := true) (xs := s4.2.1) (ys := ([align_Pair.mk r11.1 r12.1] : List align_Pair)) rfl rfl rfl rfl (srcS' rfl rfl rfl) ti28 rfl ti32 rfl h13 rfl ?_
            refine pu (v := slV align_Pair _ _ _ _) rfl rfl (fun _ => rfl) ?_
            refine RunC.blk ?_
            refine RunC.fin ?_
            have hR := Option.some.inj hR; subst hR
            exact Weak.turnL [(0, 0), (1, 0)] [] rfl rfl (tc (trP' rfl rfl rfl rfl) (tc trR1 (tc trR1 (tc (trS' rfl rfl rfl rfl rfl) (tc (.sc _) (tc (.sc _) tn)))))) (mc rfl (.box rfl (.cons trR1 (.cons (.sc _) (.nil))) rfl) (mc rfl (btrA' rfl) mn))
          · refine AWP.skip ?_
            refine skB ?_
            refine skT ?_
            have hR := Option.some.inj hR; subst hR
            exact Weak.turnL [(0, 0), (1, 0)] [] rfl rfl (tc (trP' rfl rfl rfl rfl) (tc trR1 (tc trR1 (tc (trS' rfl rfl rfl rfl rfl) (tc (.sc _) (tc (.sc _) tn)))))) (mc rfl (.box rfl (.cons trR1 (.cons (.sc _) (.nil))) rfl) (mc rfl (btrA' rfl) mn))
      · refine AWP.rgC 10 rfl rfl ?_
        refine pu (v := .sc _) rfl rfl (fun _ => rfl) ?_
        refine pu (v := .sc _) rfl rfl (fun _ => rfl) ?_
        refine RunC.fin ?_
        refine ⟨(z7.1, z7.2, w6 (s4.2.2 + 1)), (Option.some.inj hR).symm, ?_⟩
        exact Weak.turnL [(0, 0), (1, 0)] [] rfl rfl (tc (trP' rfl rfl rfl rfl) (tc trR1 (tc trR1 (tc (trS' rfl rfl rfl rfl rfl) (tc (.sc _) (tc (.sc _) tn)))))) (mc rfl (.box rfl (.cons trR1 (.cons (.sc _) (.nil))) rfl) (mc rfl (btrA' rfl) mn))
    · refine AWP.exit ?_
      refine exT ?_
      refine exT ?_
      refine exH (skT ?_)
      refine ⟨s4.2.1, (Option.some.inj hR).symm, ?_⟩
      exact Weak.turnL [(1, 0)] [] rfl rfl (tc trR1 (tc trR1 (tc (trS' rfl rfl rfl rfl rfl) tn))) (mc rfl (btrA' rfl) mn)
  · refine skT ?_
    refine AWP.sq ?_
    refine AWP.rgC 53 rfl rfl ?_
    refine pu (v := rowV _ r1.1) rfl rfl (fun _ => rfl) ?_
    refine pu (v := rowV _ r2.1) rfl rfl (fun _ => rfl) ?_
    refine pu (v := slV align_Pair _ _ _ _) rfl rfl (fun _ => rfl) ?_
    obtain ⟨r14, hr14, hR⟩ := bindE hR
    refine cls [0] rfl rfl cb7 (ok7 r1.1 r2.1 z5 _ hr14) (.cons ldR' (.cons ldR' (.cons (ldS' rfl rfl rfl rfl) (.nil)))) (.inl (by first | rfl | exact freshR | exact freshA | (simp only [V.fresh, V.freshs, freshR, freshA, Bool.and_self]))) rfl ?_
    refine pu (v := .tup _) rfl rfl (fun _ => rfl) ?_
    refine pu (v := .agg _) rfl rfl (fun _ => rfl) ?_
    refine pu (v := .agg _) rfl rfl (fun _ => rfl) ?_
    refine pu (v := .sc _) rfl rfl (fun _ => rfl) ?_
    refine al (cs := [.sc (.int .i64 0), .sc (.int .i64 0), .sc (.bool false)]) 33 rfl rfl ti35 rfl rfl ?_
    refine al (cs := [.sc (.int .i64 0), .sc (.int .i64 0), .sc (.bool false)]) 37 rfl rfl ti35 rfl rfl ?_
    refine stB (cs' := [.sc (.int .i64 r14.1.Lo), .sc (.int .i64 r14.1.Hi), .sc (.bool r14.1.Unknown)]) rfl rfl rfl rfl ti35 rfl rfl rfl rfl rfl ?_
    refine stB (cs' := [.sc (.int .i64 r14.2.1.Lo), .sc (.int .i64 r14.2.1.Hi), .sc (.bool r14.2.1.Unknown)]) rfl rfl rfl rfl ti35 rfl rfl rfl rfl rfl ?_
    refine pu (v := .sc _) rfl rfl (fun _ => rfl) ?_
    refine RunC.fin ?_
    refine AWP.sq ?_
    refine AWP.sq ?_
    refine AWP.rgC 61 rfl rfl ?_
    obtain ⟨r15, hr15, hR⟩ := bindE hR
    refine cls [] rfl rfl cb8 (ok8 _ hr15) (.nil) (.inr rfl) rfl ?_
    refine pu (v := .sc _) rfl rfl (fun _ => rfl) ?_
    refine RunC.fin ?_
    refine AWP.cd hR rfl (fun h16 hR => ?_) fun h16 hR => ?_
    · refine AWP.sq ?_
      refine AWP.rgC 65 rfl rfl ?_
      refine pu (v := .sc _) rfl rfl (fun _ => rfl) ?_
      refine RunC.fin ?_
      refine AWP.ret ?_
      refine rtT ?_
      have hR := Option.some.inj hR; subst hR
      exact hQ _ _ (LS.mk [(2, .sc (.bool false))] (lblks 0 []) 0) (.sc (.bool false)) [] (.inr rfl) (Weak.turnL [] [] rfl rfl (tc (.sc _) tn) mn) (ro1 (rvT (v := .sc (.bool false)) rfl)) rfl rfl (.sc _) pn
    · refine AWP.skip ?_
      refine skT ?_
      refine AWP.sq ?_
      refine AWP.rgC 65 rfl rfl ?_
      refine pu (v := .sc _) rfl rfl (fun _ => rfl) ?_
      refine RunC.fin ?_
      refine AWP.sq ?_
      refine AWP.sq ?_
      refine AWP.rgC 77 rfl rfl ?_
      refine pu (v := slV align_Pair _ _ _ _) rfl rfl (fun _ => rfl) ?_
      refine lenS (α := align_Pair) rfl rfl ti28 rfl ?_
      refine pu (v := .sc _) rfl rfl (fun _ => rfl) ?_
      refine RunC.fin ?_
      refine AWP.loopJ (fun s17 : Bool × Int => LS.mk [(4, rowV (α := Measured) true r1.1), (5, rowV (α := Measured) true r2.1), (6, rowV (α := align_Pair) true z5), (7, .ptr 0 0 0), (8, .ptr 1 0 0), (9, .sc (.int .i64 r14.2.2)), (10, .sc (.bool s17.1)), (65, rowV (α := align_Pair) true z5), (66, .sc (.int .i64 (z5.length : Int))), (67, .sc (.int .i64 s17.2))] (lblks 0 [boxB (α := Bound) true r14.1, boxB (α := Bound) true r14.2.1]) 2) (fun z18 : Bool => LS.mk [(4, rowV (α := Measured) true r1.1), (5, rowV (α := Measured) true r2.1), (6, rowV (α := align_Pair) true z5), (7, .ptr 0 0 0), (8, .ptr 1 0 0), (9, .sc (.int .i64 r14.2.2)), (10, .sc (.bool z18))] (lblks 0 [boxB (α := Bound) true r14.1, boxB (α := Bound) true r14.2.1]) 2) (spykeep4_AlignHelly.l2 r1 r2 z5) hR (s0 := (true, 0)) (Weak.turnL [(33, 0), (37, 0)] [0] rfl rfl (tc trR1 (tc trR1 (tc (trF' rfl rfl id rfl) (tc (trP' rfl rfl rfl rfl) (tc (trP' rfl rfl rfl rfl) (tc (.sc _) (tc (.sc _) (tc (trF' rfl rfl id rfl) (tc (.sc _) (tc (.sc _) tn)))))))))) (mc rfl (.box rfl (.cons (.sc _) (.cons (.sc _) (.cons (.sc _) (.nil)))) rfl) (mc rfl (.box rfl (.cons (.sc _) (.cons (.sc _) (.cons (.sc _) (.nil)))) rfl) mn))) (fun s17 o17 hR => ?_) fun z18 hR => ?_
      · unfold spykeep4_AlignHelly.l2 at hR
        refine AWP.sq ?_
        refine AWP.rgC 6 rfl rfl ?_
        refine pu (v := .sc _) rfl rfl (fun _ => rfl) ?_
        refine RunC.fin ?_
        refine AWP.sq ?_
        refine AWP.cd hR rfl (fun h19 hR => ?_) fun h19 hR => ?_
        · refine AWP.skip ?_
          refine skT ?_
          refine AWP.sq ?_
          refine AWP.block ?_
          refine AWP.sq ?_
          refine AWP.rgC 30 rfl rfl ?_
          refine pu (v := .sc _) rfl rfl (fun _ => rfl) ?_
          obtain ⟨h20, hR⟩ := chkE hR
          refine ixL (α := align_Pair) rfl rfl rfl ti28 rfl ti32 rfl h20 ?_
          refine ldR (v := .agg _) rfl rfl ti32 rfl ?_
          refine al (cs := [.sc (.int .i64 0), .sc (.int .i64 0)]) 18 rfl rfl ti32 rfl rfl ?_
          refine pu (v := .sc _) rfl rfl (fun _ => rfl) ?_
          refine stB (cs' := [.sc (.int .i64 (gt z5 s17.2).A), .sc (.int .i64 (gt z5 s17.2).B)]) rfl rfl rfl rfl ti32 rfl rfl rfl rfl rfl ?_
          refine RunC.fin ?_
          refine AWP.sq ?_
          refine AWP.rgC 50 rfl rfl ?_
          refine pu (v := rowV _ z5) rfl rfl (fun _ => rfl) ?_
          refine pu (v := .sc _) rfl rfl (fun _ => rfl) ?_
          obtain ⟨h21, hR⟩ := chkE hR
          obtain ⟨h22, hR⟩ := chkE hR
          refine slL (α := align_Pair) 0 s17.2.toNat rfl rfl ti28 rfl ti32 rfl rfl (bd_int h21) h22 ?_
          refine lenL (α := align_Pair) rfl rfl ti28 rfl ?_
          refine pu (v := .sc _) rfl rfl (fun _ => rfl) ?_
          refine RunC.fin ?_
          refine AWP.loopJ (fun s23 : Bool × Int => LS.mk [(4, rowV (α := Measured) true r1.1), (5, rowV (α := Measured) true r2.1), (6, rowV (α := align_Pair) true z5), (7, .ptr 0 0 0), (8, .ptr 1 0 0), (9, .sc (.int .i64 r14.2.2)), (10, .sc (.bool s23.1)), (12, .ptr 2 0 0), (65, rowV (α := align_Pair) true z5), (66, .sc (.int .i64 (z5.length : Int))), (67, .sc (.int .i64 s17.2)), (74, rowV (α := align_Pair) true ((List.drop 0 z5).take (s17.2.toNat - 0))), (75, .sc (.int .i64 (((List.drop 0 z5).take (s17.2.toNat - 0)).length : Int))), (76, .sc (.int .i64 s23.2))] (lblks 0 [boxB (α := Bound) true r14.1, boxB (α := Bound) true r14.2.1, boxB (α := align_Pair) true (gt z5 s17.2)]) 3) (fun z24 : Bool => LS.mk [(4, rowV (α := Measured) true r1.1), (5, rowV (α := Measured) true r2.1), (6, rowV (α := align_Pair) true z5), (7, .ptr 0 0 0), (8, .ptr 1 0 0), (9, .sc (.int .i64 r14.2.2)), (10, .sc (.bool z24)), (65, rowV (α := align_Pair) true z5), (66, .sc (.int .i64 (z5.length : Int))), (67, .sc (.int .i64 s17.2))] (lblks 0 [boxB (α := Bound) true r14.1, boxB (α := Bound) true r14.2.1]) 2) (spykeep4_AlignHelly.l3 r1 r2 z5 s17) hR (s0 := (s17.1, 0)) (Weak.turnL [(0, 0), (1, 0), (18, 0)] [] rfl rfl (tc trR1 (tc trR1 (tc trR1 (tc (trP' rfl rfl rfl rfl) (tc (trP' rfl rfl rfl rfl) (tc (.sc _) (tc (.sc _) (tc (trP' rfl rfl rfl rfl) (tc trR1 (tc (.sc _) (tc (.sc _) (tc trR1 (tc (.sc _) (tc (.sc _) tn)))))))))))))) (mc rfl (.box rfl (.cons (.sc _) (.cons (.sc _) (.cons (.sc _) (.nil)))) rfl) (mc rfl (.box rfl (.cons (.sc _) (.cons (.sc _) (.cons (.sc _) (.nil)))) rfl) (mc rfl (.box rfl (.cons (.sc _) (.cons (.sc _) (.nil))) rfl) mn)))) (fun s23 o23 hR => ?_) fun z24 hR => ?_
          · unfold spykeep4_AlignHelly.l3 at hR
            refine AWP.sq ?_
            refine AWP.rgC 7 rfl rfl ?_
            obtain ⟨v25, ev25, hR⟩ := letE hR
            refine pu (v := .sc _) rfl rfl (fun _ => puB ev25) ?_
            refine RunC.fin ?_
            refine AWP.sq ?_
            refine AWP.cd hR rfl (fun h26 hR => ?_) fun h26 hR => ?_
            · refine AWP.skip ?_
              refine skT ?_
              refine AWP.sq ?_
              refine AWP.block ?_
              refine AWP.sq ?_
              refine AWP.rgC 23 rfl rfl ?_
              obtain ⟨h27, hR⟩ := chkE hR
              refine ixL (α := align_Pair) rfl rfl rfl ti28 rfl ti32 rfl h27 ?_
              refine ldR (v := .agg _) rfl rfl ti32 rfl ?_
              refine al (cs := [.sc (.int .i64 0), .sc (.int .i64 0)]) 15 rfl rfl ti32 rfl rfl ?_
              refine stB (cs' := [.sc (.int .i64 (gt ((List.drop 0 z5).take (s17.2.toNat - 0)) s23.2).A), .sc (.int .i64 (gt ((List.drop 0 z5).take (s17.2.toNat - 0)) s23.2).B)]) rfl rfl rfl rfl ti32 rfl rfl rfl rfl rfl ?_
              refine RunC.fin ?_
              refine AWP.sq ?_
              refine AWP.rgC 83 rfl rfl ?_
              refine pu (v := rowV _ r1.1) rfl rfl (fun _ => rfl) ?_
              refine pu (v := rowV _ r2.1) rfl rfl (fun _ => rfl) ?_
              refine ldB (v := .agg _) rfl rfl rfl rfl ti32 rfl rfl ?_
              refine ldB (v := .agg _) rfl rfl rfl rfl ti32 rfl rfl ?_
              refine bs (α := align_Pair) 39 true ([(gt z5 s17.2), (gt ((List.drop 0 z5).take (s17.2.toNat - 0)) s23.2)] : List align_Pair) rfl rfl ti28 rfl ti32 rfl rfl rfl rfl rfl ?_
              obtain ⟨r28, hr28, hR⟩ := bindE hR
              refine cls [39] rfl rfl cb7 (ok7 r1.1 r2.1 ([(gt z5 s17.2), (gt ((List.drop 0 z5).take (s17.2.toNat - 0)) s23.2)] : List align_Pair) _ hr28) (.cons ldR' (.cons ldR' (.cons (ldS' rfl rfl rfl rfl) (.nil)))) (.inl (by first | rfl | exact freshR | exact freshA | (simp only [V.fresh, V.freshs, freshR, freshA, Bool.and_self]))) rfl ?_
              refine pu (v := .tup _) rfl rfl (fun _ => rfl) ?_
              refine pu (v := .agg _) rfl rfl (fun _ => rfl) ?_
              refine pu (v := .agg _) rfl rfl (fun _ => rfl) ?_
              refine pu (v := .sc _) rfl rfl (fun _ => rfl) ?_
              refine al (cs := [.sc (.int .i64 0), .sc (.int .i64 0), .sc (.bool false)]) 63 rfl rfl ti35 rfl rfl ?_
              refine al (cs := [.sc (.int .i64 0), .sc (.int .i64 0), .sc (.bool false)]) 67 rfl rfl ti35 rfl rfl ?_
              refine stB (cs' := [.sc (.int .i64 r28.1.Lo), .sc (.int .i64 r28.1.Hi), .sc (.bool r28.1.Unknown)]) rfl rfl rfl rfl ti35 rfl rfl rfl rfl rfl ?_
              refine stB (cs' := [.sc (.int .i64 r28.2.1.Lo), .sc (.int .i64 r28.2.1.Hi), .sc (.bool r28.2.1.Unknown)]) rfl rfl rfl rfl ti35 rfl rfl rfl rfl rfl ?_
              refine pu (v := .sc _) rfl rfl (fun _ => rfl) ?_
              refine RunC.fin ?_
              refine AWP.rgC 107 rfl rfl ?_
              refine pu (v := .sc _) rfl rfl (fun _ => rfl) ?_
              refine pu (v := .sc _) rfl rfl (fun _ => rfl) ?_
              refine brR hR (fun h29 hR => ?_) fun h29 hR => ?_
              · refine pu (v := .sc _) (wtG rfl rfl rfl h29) rfl (fun _ => rfl) ?_
                refine pu (v := .sc _) (wtG rfl rfl rfl h29) rfl (fun _ => rfl) ?_
                refine pkT (v := .sc (.bool (r28.2.2 == 0))) rfl rfl h29 rfl ?_
                refine pu (v := .sc _) rfl rfl (fun _ => rfl) ?_
                refine RunC.blk ?_
                refine RunC.fin ?_
                refine AWP.rgC 115 rfl rfl ?_
                refine pu (v := .sc _) rfl rfl (fun _ => rfl) ?_
                refine pu (v := .sc _) rfl rfl (fun _ => rfl) ?_
                refine RunC.fin ?_
                refine ⟨(r28.2.2 == 0, w6 (s23.2 + 1)), (Option.some.inj hR).symm, ?_⟩
                exact Weak.turnL [(0, 0), (1, 0), (2, 0)] [] rfl rfl (tc trR1 (tc trR1 (tc trR1 (tc (trP' rfl rfl rfl rfl) (tc (trP' rfl rfl rfl rfl) (tc (.sc _) (tc (.sc _) (tc (trP' rfl rfl rfl rfl) (tc trR1 (tc (.sc _) (tc (.sc _) (tc trR1 (tc (.sc _) (tc (.sc _) tn)))))))))))))) (mc rfl (.box rfl (.cons (.sc _) (.cons (.sc _) (.cons (.sc _) (.nil)))) rfl) (mc rfl (.box rfl (.cons (.sc _) (.cons (.sc _) (.cons (.sc _) (.nil)))) rfl) (mc rfl (.box rfl (.cons (.sc _) (.cons (.sc _) (.nil))) rfl) mn)))
              · refine sk (skW rfl rfl rfl h29) ?_
                refine sk (skW rfl rfl rfl h29) ?_
                refine pkF (v := .sc (.bool false)) rfl rfl h29 rfl ?_
                refine pu (v := .sc _) rfl rfl (fun _ => rfl) ?_
                refine RunC.blk ?_
                refine RunC.fin ?_
                refine AWP.rgC 115 rfl rfl ?_
                refine pu (v := .sc _) rfl rfl (fun _ => rfl) ?_
                refine pu (v := .sc _) rfl rfl (fun _ => rfl) ?_
                refine RunC.fin ?_
                refine ⟨(false, w6 (s23.2 + 1)), (Option.some.inj hR).symm, ?_⟩
                exact Weak.turnL [(0, 0), (1, 0), (2, 0)] [] rfl rfl (tc trR1 (tc trR1 (tc trR1 (tc (trP' rfl rfl rfl rfl) (tc (trP' rfl rfl rfl rfl) (tc (.sc _) (tc (.sc _) (tc (trP' rfl rfl rfl rfl) (tc trR1 (tc (.sc _) (tc (.sc _) (tc trR1 (tc (.sc _) (tc (.sc _) tn)))))))))))))) (mc rfl (.box rfl (.cons (.sc _) (.cons (.sc _) (.cons (.sc _) (.nil)))) rfl) (mc rfl (.box rfl (.cons (.sc _) (.cons (.sc _) (.cons (.sc _) (.nil)))) rfl) (mc rfl (.box rfl (.cons (.sc _) (.cons (.sc _) (.nil))) rfl) mn)))
            · refine AWP.exit ?_
              refine exT ?_
              refine exT ?_
              refine exH (skT ?_)
              refine ⟨s23.1, (Option.some.inj hR).symm, ?_⟩
              exact Weak.turnL [(0, 0), (1, 0)] [] rfl rfl (tc trR1 (tc trR1 (tc trR1 (tc (trP' rfl rfl rfl rfl) (tc (trP' rfl rfl rfl rfl) (tc (.sc _) (tc (.sc _) (tc trR1 (tc (.sc _) (tc (.sc _) tn)))))))))) (mc rfl (.box rfl (.cons (.sc _) (.cons (.sc _) (.cons (.sc _) (.nil)))) rfl) (mc rfl (.box rfl (.cons (.sc _) (.cons (.sc _) (.cons (.sc _) (.nil)))) rfl) mn))
          · refine skB ?_
            refine skT ?_
            refine AWP.rgC 10 rfl rfl ?_
            refine pu (v := .sc _) rfl rfl (fun _ => rfl) ?_
            refine pu (v := .sc _) rfl rfl (fun _ => rfl) ?_
            refine RunC.fin ?_
            refine ⟨(z24, w6 (s17.2 + 1)), (Option.some.inj hR).symm, ?_⟩
            exact Weak.turnL [(0, 0), (1, 0)] [] rfl rfl (tc trR1 (tc trR1 (tc trR1 (tc (trP' rfl rfl rfl rfl) (tc (trP' rfl rfl rfl rfl) (tc (.sc _) (tc (.sc _) (tc trR1 (tc (.sc _) (tc (.sc _) tn)))))))))) (mc rfl (.box rfl (.cons (.sc _) (.cons (.sc _) (.cons (.sc _) (.nil)))) rfl) (mc rfl (.box rfl (.cons (.sc _) (.cons (.sc _) (.cons (.sc _) (.nil)))) rfl) mn))
        · refine AWP.exit ?_
          refine exT ?_
          refine exT ?_
          refine exH (skT ?_)
          refine ⟨s17.1, (Option.some.inj hR).symm, ?_⟩
          exact Weak.turnL [(0, 0), (1, 0)] [] rfl rfl (tc trR1 (tc trR1 (tc trR1 (tc (trP' rfl rfl rfl rfl) (tc (trP' rfl rfl rfl rfl) (tc (.sc _) (tc (.sc _) tn))))))) (mc rfl (.box rfl (.cons (.sc _) (.cons (.sc _) (.cons (.sc _) (.nil)))) rfl) (mc rfl (.box rfl (.cons (.sc _) (.cons (.sc _) (.cons (.sc _) (.nil)))) rfl) mn))
      · refine skT ?_
        refine AWP.sq ?_
        refine AWP.sq ?_
        refine AWP.rgC 18 rfl rfl ?_
        refine pu (v := .sc _) rfl rfl (fun _ => rfl) ?_
        refine pu (v := .sc _) rfl rfl (fun _ => rfl) ?_
        refine pu (v := .sc _) rfl rfl (fun _ => rfl) ?_
        refine nb rfl rfl rfl ti4 rfl rfl ?_
        refine RunC.fin ?_
        refine AWP.cd hR rfl (fun h30 hR => ?_) fun h30 hR => ?_
        · refine AWP.sq ?_
          refine AWP.rgC 22 rfl rfl ?_
          refine pu (v := .sc _) rfl rfl (fun _ => rfl) ?_
          refine RunC.fin ?_
          refine AWP.ret ?_
          refine rtT ?_
          have hR := Option.some.inj hR; subst hR
          exact hQ _ _ (LS.mk [(2, .sc (.bool false))] (lblks 0 []) 0) (.sc (.bool false)) [] (.inr rfl) (Weak.turnL [] [] rfl rfl (tc (.sc _) tn) mn) (ro1 (rvT (v := .sc (.bool false)) rfl)) rfl rfl (.sc _) pn
        · refine AWP.skip ?_
          refine skT ?_
          refine AWP.sq ?_
          refine AWP.sq ?_
          refine AWP.rgC 30 rfl rfl ?_
          refine pu (v := rowV _ z5) rfl rfl (fun _ => rfl) ?_
          refine lenL (α := align_Pair) rfl rfl ti28 rfl ?_
          refine pu (v := .sc _) rfl rfl (fun _ => rfl) ?_
          refine RunC.fin ?_
          refine AWP.loopK' (fun s31 : Int => LS.mk [(4, rowV (α := Measured) true r1.1), (5, rowV (α := Measured) true r2.1), (7, .ptr 0 0 0), (8, .ptr 1 0 0), (9, .sc (.int .i64 r14.2.2)), (101, rowV (α := align_Pair) true z5), (102, .sc (.int .i64 (z5.length : Int))), (103, .sc (.int .i64 s31))] (lblks 0 [boxB (α := Bound) true r14.1, boxB (α := Bound) true r14.2.1]) 2) (fun z32 : Unit => LS.mk [] (lblks 0 []) 0) (spykeep4_AlignHelly.l4 r1 r2 z5 r14) hR (s0 := 0) (Weak.turnL [(0, 0), (1, 0)] [] rfl rfl (tc trR1 (tc trR1 (tc (trP' rfl rfl rfl rfl) (tc (trP' rfl rfl rfl rfl) (tc (.sc _) (tc trR1 (tc (.sc _) (tc (.sc _) tn)))))))) (mc rfl (.box rfl (.cons (.sc _) (.cons (.sc _) (.cons (.sc _) (.nil)))) rfl) (mc rfl (.box rfl (.cons (.sc _) (.cons (.sc _) (.cons (.sc _) (.nil)))) rfl) mn))) (fun s31 o31 hR hE31 => ?_) fun z32 hR => ?_
          · unfold spykeep4_AlignHelly.l4 at hR
            refine AWP.sq ?_
            refine AWP.rgC 6 rfl rfl ?_
            refine pu (v := .sc _) rfl rfl (fun _ => rfl) ?_
            refine RunC.fin ?_
            refine AWP.sq ?_
            refine AWP.cd hR rfl (fun h33 hR => ?_) fun h33 hR => ?_
            · refine AWP.skip ?_
              refine skT ?_
              refine AWP.sq ?_
              refine AWP.block ?_
              refine AWP.sq ?_
              refine AWP.rgC 22 rfl rfl ?_
              obtain ⟨h34, hR⟩ := chkE hR
              refine ixL (α := align_Pair) rfl rfl rfl ti28 rfl ti32 rfl h34 ?_
              refine ldR (v := .agg _) rfl rfl ti32 rfl ?_
              refine al (cs := [.sc (.int .i64 0), .sc (.int .i64 0)]) 14 rfl rfl ti32 rfl rfl ?_
              refine stB (cs' := [.sc (.int .i64 (gt z5 s31).A), .sc (.int .i64 (gt z5 s31).B)]) rfl rfl rfl rfl ti32 rfl rfl rfl rfl rfl ?_
              refine RunC.fin ?_
              refine AWP.sq ?_
              refine AWP.rgC 78 rfl rfl ?_
              refine pu (v := rowV _ r1.1) rfl rfl (fun _ => rfl) ?_
              refine pu (v := rowV _ r2.1) rfl rfl (fun _ => rfl) ?_
              refine ldB (v := .agg _) rfl rfl rfl rfl ti32 rfl rfl ?_
              refine bs (α := align_Pair) 34 true ([(gt z5 s31)] : List align_Pair) rfl rfl ti28 rfl ti32 rfl rfl rfl rfl rfl ?_
              obtain ⟨r35, hr35, hR⟩ := bindE hR
              refine cls [34] rfl rfl cb7 (ok7 r1.1 r2.1 ([(gt z5 s31)] : List align_Pair) _ hr35) (.cons ldR' (.cons ldR' (.cons (ldS' rfl rfl rfl rfl) (.nil)))) (.inl (by first | rfl | exact freshR | exact freshA | (simp only [V.fresh, V.freshs, freshR, freshA, Bool.and_self]))) rfl ?_
              refine pu (v := .tup _) rfl rfl (fun _ => rfl) ?_
              refine pu (v := .agg _) rfl rfl (fun _ => rfl) ?_
              refine pu (v := .agg _) rfl rfl (fun _ => rfl) ?_
              refine pu (v := .sc _) rfl rfl (fun _ => rfl) ?_
              refine al (cs := [.sc (.int .i64 0), .sc (.int .i64 0), .sc (.bool false)]) 58 rfl rfl ti35 rfl rfl ?_
              refine al (cs := [.sc (.int .i64 0), .sc (.int .i64 0), .sc (.bool false)]) 62 rfl rfl ti35 rfl rfl ?_
              refine stB (cs' := [.sc (.int .i64 r35.1.Lo), .sc (.int .i64 r35.1.Hi), .sc (.bool r35.1.Unknown)]) rfl rfl rfl rfl ti35 rfl rfl rfl rfl rfl ?_
              refine stB (cs' := [.sc (.int .i64 r35.2.1.Lo), .sc (.int .i64 r35.2.1.Hi), .sc (.bool r35.2.1.Unknown)]) rfl rfl rfl rfl ti35 rfl rfl rfl rfl rfl ?_
              refine pu (v := .sc _) rfl rfl (fun _ => rfl) ?_
              refine RunC.fin ?_
              refine AWP.joinX (fun z36 : Bool => LS.mk [(4, rowV (α := Measured) true r1.1), (5, rowV (α := Measured) true r2.1), (7, .ptr 0 0 0), (8, .ptr 1 0 0), (9, .sc (.int .i64 r14.2.2)), (101, rowV (α := align_Pair) true z5), (102, .sc (.int .i64 (z5.length : Int))), (103, .sc (.int .i64 s31)), (157, .sc (.bool z36))] (lblks 0 [boxB (α := Bound) true r14.1, boxB (α := Bound) true r14.2.1]) 2) hR (fun o36 hR => ?_) fun z36 hR => ?_
              · refine AWP.rgC 246 rfl rfl ?_
                refine pu (v := .sc _) rfl rfl (fun _ => rfl) ?_
                refine pu (v := .sc _) rfl rfl (fun _ => rfl) ?_
                refine pu (v := .sc _) rfl rfl (fun _ => rfl) ?_
                refine brR hR (fun h37 hR => ?_) fun h37 hR => ?_
                · refine sk (skW rfl rfl rfl h37) ?_
                  refine sk (skW rfl rfl rfl h37) ?_
                  refine sk (skW rfl rfl rfl h37) ?_
                  refine sk (skW2 rfl rfl rfl) ?_
                  refine sk (skW2 rfl rfl rfl) ?_
                  refine sk (skW2 rfl rfl rfl) ?_
                  refine sk (skW2 rfl rfl rfl) ?_
                  refine sk (skW2 rfl rfl rfl) ?_
                  refine sk (skW2 rfl rfl rfl) ?_
                  refine sk (skW2 rfl rfl rfl) ?_
                  refine sk (skW2 rfl rfl rfl) ?_
                  refine sk (skW2 rfl rfl rfl) ?_
                  refine sk (skW2 rfl rfl rfl) ?_
                  refine sk (skW2 rfl rfl rfl) ?_
                  refine sk (skW2 rfl rfl rfl) ?_
                  refine sk (skW2 rfl rfl rfl) ?_
                  refine sk (skW2 rfl rfl rfl) ?_
                  refine sk (skW2 rfl rfl rfl) ?_
                  refine sk (skW2 rfl rfl rfl) ?_
                  refine sk (skW2 rfl rfl rfl) ?_
                  refine sk (skW2 rfl rfl rfl) ?_
                  refine sk (skW2 rfl rfl rfl) ?_
                  refine sk (skW2 rfl rfl rfl) ?_
                  refine sk (skW2 rfl rfl rfl) ?_
                  refine sk (skW2 rfl rfl rfl) ?_
                  refine sk (skW2 rfl rfl rfl) ?_
                  refine sk (skW2 rfl rfl rfl) ?_
                  refine sk (skW2 rfl rfl rfl) ?_
                  refine sk (skW2 rfl rfl rfl) ?_
                  refine sk (skW2 rfl rfl rfl) ?_
                  refine sk (skW2 rfl rfl rfl) ?_
                  refine sk (skW2 rfl rfl rfl) ?_
                  refine sk (skW2 rfl rfl rfl) ?_
                  refine sk (skW2 rfl rfl rfl) ?_
                  refine sk (skW2 rfl rfl rfl) ?_
                  refine sk (skW2 rfl rfl rfl) ?_
                  refine sk (skW2 rfl rfl rfl) ?_
                  refine sk (skW rfl rfl rfl h37) ?_
                  refine pkT (v := .sc (.bool true)) rfl rfl h37 rfl ?_
                  refine RunC.fin ?_
                  have hR := Option.some.inj hR; subst hR
                  exact Weak.turnL [(0, 0), (1, 0)] [] rfl rfl (tc trR1 (tc trR1 (tc (trP' rfl rfl rfl rfl) (tc (trP' rfl rfl rfl rfl) (tc (.sc _) (tc trR1 (tc (.sc _) (tc (.sc _) (tc (.sc _) tn))))))))) (mc rfl (.box rfl (.cons (.sc _) (.cons (.sc _) (.cons (.sc _) (.nil)))) rfl) (mc rfl (.box rfl (.cons (.sc _) (.cons (.sc _) (.cons (.sc _) (.nil)))) rfl) mn))
                · refine pu (v := .sc _) (wtG rfl rfl rfl h37) rfl (fun _ => rfl) ?_
                  refine pu (v := .sc _) (wtG rfl rfl rfl h37) rfl (fun _ => rfl) ?_
                  refine pu (v := .sc _) (wtG rfl rfl rfl h37) rfl (fun _ => rfl) ?_
                  refine brR hR (fun h38 hR => ?_) fun h38 hR => ?_
                  · refine fa (wtG rfl rfl rfl h38) rfl ti35 rfl rfl ti4 rfl ?_
                    refine ldB (v := .sc _) (wtG rfl rfl rfl h38) rfl rfl rfl ti4 rfl rfl ?_
                    refine pu (v := .sc _) (wtG rfl rfl rfl h38) rfl (fun _ => rfl) ?_
                    refine brR hR (fun h39 hR => ?_) fun h39 hR => ?_
                    · refine sk (skW rfl rfl rfl h39) ?_
                      refine sk (skW rfl rfl rfl h39) ?_
                      refine pkT (v := .sc (.bool true)) (wtG rfl rfl rfl h38) rfl h39 rfl ?_
                      refine pu (v := .sc _) (wtG rfl rfl rfl h38) rfl (fun _ => rfl) ?_
                      refine sk (skW rfl rfl rfl rfl) ?_
                      refine sk (skW rfl rfl rfl rfl) ?_
                      refine sk (skW rfl rfl rfl rfl) ?_
                      refine sk (skW rfl rfl rfl rfl) ?_
                      refine sk (skW rfl rfl rfl rfl) ?_
                      refine pkT (v := .sc (.bool true)) (wtG rfl rfl rfl h38) rfl rfl rfl ?_
                      refine pu (v := .sc _) (wtG rfl rfl rfl h38) rfl (fun _ => rfl) ?_
                      refine sk (skW rfl rfl rfl rfl) ?_
                      refine sk (skW rfl rfl rfl rfl) ?_
                      refine sk (skW rfl rfl rfl rfl) ?_
                      refine sk (skW rfl rfl rfl rfl) ?_
                      refine sk (skW rfl rfl rfl rfl) ?_
                      refine pkT (v := .sc (.bool true)) (wtG rfl rfl rfl h38) rfl rfl rfl ?_
                      refine pu (v := .sc _) (wtG rfl rfl rfl h38) rfl (fun _ => rfl) ?_
                      refine sk (skW rfl rfl rfl rfl) ?_
                      refine sk (skW rfl rfl rfl rfl) ?_
                      refine sk (skW rfl rfl rfl rfl) ?_
                      refine sk (skW rfl rfl rfl rfl) ?_
                      refine sk (skW rfl rfl rfl rfl) ?_
                      refine pkT (v := .sc (.bool true)) (wtG rfl rfl rfl h38) rfl rfl rfl ?_
                      refine pu (v := .sc _) (wtG rfl rfl rfl h38) rfl (fun _ => rfl) ?_
                      refine sk (skW rfl rfl rfl rfl) ?_
                      refine sk (skW rfl rfl rfl rfl) ?_
                      refine sk (skW rfl rfl rfl rfl) ?_
                      refine sk (skW rfl rfl rfl rfl) ?_
                      refine sk (skW rfl rfl rfl rfl) ?_
                      refine pkT (v := .sc (.bool true)) (wtG rfl rfl rfl h38) rfl rfl rfl ?_
                      refine pkT (v := .sc (.bool true)) (wtG rfl rfl rfl h37) rfl h38 rfl ?_
                      refine pkF (v := .sc (.bool true)) rfl rfl h37 rfl ?_
                      refine RunC.fin ?_
                      have hR := Option.some.inj hR; subst hR
                      exact Weak.turnL [(0, 0), (1, 0)] [] rfl rfl (tc trR1 (tc trR1 (tc (trP' rfl rfl rfl rfl) (tc (trP' rfl rfl rfl rfl) (tc (.sc _) (tc trR1 (tc (.sc _) (tc (.sc _) (tc (.sc _) tn))))))))) (mc rfl (.box rfl (.cons (.sc _) (.cons (.sc _) (.cons (.sc _) (.nil)))) rfl) (mc rfl (.box rfl (.cons (.sc _) (.cons (.sc _) (.cons (.sc _) (.nil)))) rfl) mn))
                    · refine fa (wtG rfl rfl rfl h39) rfl ti35 rfl rfl ti4 rfl ?_
                      refine ldB (v := .sc _) (wtG rfl rfl rfl h39) rfl rfl rfl ti4 rfl rfl ?_
                      refine pkF (v := .sc (.bool r14.2.1.Unknown)) (wtG rfl rfl rfl h38) rfl h39 rfl ?_
                      refine pu (v := .sc _) (wtG rfl rfl rfl h38) rfl (fun _ => rfl) ?_
                      refine brR hR (fun h40 hR => ?_) fun h40 hR => ?_
                      · refine sk (skW rfl rfl rfl h40) ?_
                        refine sk (skW rfl rfl rfl h40) ?_
                        refine sk (skW rfl rfl rfl h40) ?_
                        refine sk (skW rfl rfl rfl h40) ?_
                        refine sk (skW rfl rfl rfl h40) ?_
                        refine pkT (v := .sc (.bool true)) (wtG rfl rfl rfl h38) rfl h40 rfl ?_
                        refine pu (v := .sc _) (wtG rfl rfl rfl h38) rfl (fun _ => rfl) ?_
                        refine sk (skW rfl rfl rfl rfl) ?_
                        refine sk (skW rfl rfl rfl rfl) ?_
                        refine sk (skW rfl rfl rfl rfl) ?_
                        refine sk (skW rfl rfl rfl rfl) ?_
                        refine sk (skW rfl rfl rfl rfl) ?_
                        refine pkT (v := .sc (.bool true)) (wtG rfl rfl rfl h38) rfl rfl rfl ?_
                        refine pu (v := .sc _) (wtG rfl rfl rfl h38) rfl (fun _ => rfl) ?_
                        refine sk (skW rfl rfl rfl rfl) ?_
                        refine sk (skW rfl rfl rfl rfl) ?_
                        refine sk (skW rfl rfl rfl rfl) ?_
                        refine sk (skW rfl rfl rfl rfl) ?_
                        refine sk (skW rfl rfl rfl rfl) ?_
                        refine pkT (v := .sc (.bool true)) (wtG rfl rfl rfl h38) rfl rfl rfl ?_
                        refine pu (v := .sc _) (wtG rfl rfl rfl h38) rfl (fun _ => rfl) ?_
                        refine sk (skW rfl rfl rfl rfl) ?_
                        refine sk (skW rfl rfl rfl rfl) ?_
                        refine sk (skW rfl rfl rfl rfl) ?_
                        refine sk (skW rfl rfl rfl rfl) ?_
                        refine sk (skW rfl rfl rfl rfl) ?_
                        refine pkT (v := .sc (.bool true)) (wtG rfl rfl rfl h38) rfl rfl rfl ?_
                        refine pkT (v := .sc (.bool true)) (wtG rfl rfl rfl h37) rfl h38 rfl ?_
                        refine pkF (v := .sc (.bool true)) rfl rfl h37 rfl ?_
                        refine RunC.fin ?_
                        have hR := Option.some.inj hR; subst hR
                        exact Weak.turnL [(0, 0), (1, 0)] [] rfl rfl (tc trR1 (tc trR1 (tc (trP' rfl rfl rfl rfl) (tc (trP' rfl rfl rfl rfl) (tc (.sc _) (tc trR1 (tc (.sc _) (tc (.sc _) (tc (.sc _) tn))))))))) (mc rfl (.box rfl (.cons (.sc _) (.cons (.sc _) (.cons (.sc _) (.nil)))) rfl) (mc rfl (.box rfl (.cons (.sc _) (.cons (.sc _) (.cons (.sc _) (.nil)))) rfl) mn))
                      · refine fa (wtG rfl rfl rfl h40) rfl ti35 rfl rfl ti33 rfl ?_
                        refine ldB (v := .sc _) (wtG rfl rfl rfl h40) rfl rfl rfl ti33 rfl rfl ?_
                        refine fa (wtG rfl rfl rfl h40) rfl ti35 rfl rfl ti33 rfl ?_
                        refine ldB (v := .sc _) (wtG rfl rfl rfl h40) rfl rfl rfl ti33 rfl rfl ?_
                        refine pu (v := .sc _) (wtG rfl rfl rfl h40) rfl (fun _ => rfl) ?_
                        refine pkF (v := .sc (.bool (decide (r14.1.Lo < r35.1.Lo)))) (wtG rfl rfl rfl h38) rfl h40 rfl ?_
                        refine pu (v := .sc _) (wtG rfl rfl rfl h38) rfl (fun _ => rfl) ?_
                        refine brR hR (fun h41 hR => ?_) fun h41 hR => ?_
                        · refine sk (skW rfl rfl rfl h41) ?_
                          refine sk (skW rfl rfl rfl h41) ?_
                          refine sk (skW rfl rfl rfl h41) ?_
                          refine sk (skW rfl rfl rfl h41) ?_
                          refine sk (skW rfl rfl rfl h41) ?_
                          refine pkT (v := .sc (.bool true)) (wtG rfl rfl rfl h38) rfl h41 rfl ?_
                          refine pu (v := .sc _) (wtG rfl rfl rfl h38) rfl (fun _ => rfl) ?_
                          refine sk (skW rfl rfl rfl rfl) ?_
                          refine sk (skW rfl rfl rfl rfl) ?_
                          refine sk (skW rfl rfl rfl rfl) ?_
                          refine sk (skW rfl rfl rfl rfl) ?_
                          refine sk (skW rfl rfl rfl rfl) ?_
                          refine pkT (v := .sc (.bool true)) (wtG rfl rfl rfl h38) rfl rfl rfl ?_
                          refine pu (v := .sc _) (wtG rfl rfl rfl h38) rfl (fun _ => rfl) ?_
                          refine sk (skW rfl rfl rfl rfl) ?_
                          refine sk (skW rfl rfl rfl rfl) ?_
                          refine sk (skW rfl rfl rfl rfl) ?_
                          refine sk (skW rfl rfl rfl rfl) ?_
                          refine sk (skW rfl rfl rfl rfl) ?_
                          refine pkT (v := .sc (.bool true)) (wtG rfl rfl rfl h38) rfl rfl rfl ?_
                          refine pkT (v := .sc (.bool true)) (wtG rfl rfl rfl h37) rfl h38 rfl ?_
                          refine pkF (v := .sc (.bool true)) rfl rfl h37 rfl ?_
                          refine RunC.fin ?_
                          have hR := Option.some.inj hR; subst hR
                          exact Weak.turnL [(0, 0), (1, 0)] [] rfl rfl (tc trR1 (tc trR1 (tc (trP' rfl rfl rfl rfl) (tc (trP' rfl rfl rfl rfl) (tc (.sc _) (tc trR1 (tc (.sc _) (tc (.sc _) (tc (.sc _) tn))))))))) (mc rfl (.box rfl (.cons (.sc _) (.cons (.sc _) (.cons (.sc _) (.nil)))) rfl) (mc rfl (.box rfl (.cons (.sc _) (.cons (.sc _) (.cons (.sc _) (.nil)))) rfl) mn))
                        · refine fa (wtG rfl rfl rfl h41) rfl ti35 rfl rfl ti33 rfl ?_
                          refine ldB (v := .sc _) (wtG rfl rfl rfl h41) rfl rfl rfl ti33 rfl rfl ?_
                          refine fa (wtG rfl rfl rfl h41) rfl ti35 rfl rfl ti33 rfl ?_
                          refine ldB (v := .sc _) (wtG rfl rfl rfl h41) rfl rfl rfl ti33 rfl rfl ?_
                          refine pu (v := .sc _) (wtG rfl rfl rfl h41) rfl (fun _ => rfl) ?_
                          refine pkF (v := .sc (.bool (decide (r14.1.Hi > r35.1.Hi)))) (wtG rfl rfl rfl h38) rfl h41 rfl ?_
                          refine pu (v := .sc _) (wtG rfl rfl rfl h38) rfl (fun _ => rfl) ?_
                          refine brR hR (fun h42 hR => ?_) fun h42 hR => ?_
                          · refine sk (skW rfl rfl rfl h42) ?_
                            refine sk (skW rfl rfl rfl h42) ?_
                            refine sk (skW rfl rfl rfl h42) ?_
                            refine sk (skW rfl rfl rfl h42) ?_
                            refine sk (skW rfl rfl rfl h42) ?_
                            refine pkT (v := .sc (.bool true)) (wtG rfl rfl rfl h38) rfl h42 rfl ?_
                            refine pu (v := .sc _) (wtG rfl rfl rfl h38) rfl (fun _ => rfl) ?_
                            refine sk (skW rfl rfl rfl rfl) ?_
                            refine sk (skW rfl rfl rfl rfl) ?_
                            refine sk (skW rfl rfl rfl rfl) ?_
                            refine sk (skW rfl rfl rfl rfl) ?_
                            refine sk (skW rfl rfl rfl rfl) ?_
                            refine pkT (v := .sc (.bool true)) (wtG rfl rfl rfl h38) rfl rfl rfl ?_
                            refine pkT (v := .sc (.bool true)) (wtG rfl rfl rfl h37) rfl h38 rfl ?_
                            refine pkF (v := .sc (.bool true)) rfl rfl h37 rfl ?_
                            refine RunC.fin ?_
                            have hR := Option.some.inj hR; subst hR
                            exact Weak.turnL [(0, 0), (1, 0)] [] rfl rfl (tc trR1 (tc trR1 (tc (trP' rfl rfl rfl rfl) (tc (trP' rfl rfl rfl rfl) (tc (.sc _) (tc trR1 (tc (.sc _) (tc (.sc _) (tc (.sc _) tn))))))))) (mc rfl (.box rfl (.cons (.sc _) (.cons (.sc _) (.cons (.sc _) (.nil)))) rfl) (mc rfl (.box rfl (.cons (.sc _) (.cons (.sc _) (.cons (.sc _) (.nil)))) rfl) mn))
                          · refine fa (wtG rfl rfl rfl h42) rfl ti35 rfl rfl ti33 rfl ?_
                            refine ldB (v := .sc _) (wtG rfl rfl rfl h42) rfl rfl rfl ti33 rfl rfl ?_
                            refine fa (wtG rfl rfl rfl h42) rfl ti35 rfl rfl ti33 rfl ?_
                            refine ldB (v := .sc _) (wtG rfl rfl rfl h42) rfl rfl rfl ti33 rfl rfl ?_
                            refine pu (v := .sc _) (wtG rfl rfl rfl h42) rfl (fun _ => rfl) ?_
                            refine pkF (v := .sc (.bool (decide (r14.2.1.Lo < r35.2.1.Lo)))) (wtG rfl rfl rfl h38) rfl h42 rfl ?_
                            refine pu (v := .sc _) (wtG rfl rfl rfl h38) rfl (fun _ => rfl) ?_
                            refine brR hR (fun h43 hR => ?_) fun h43 hR => ?_
                            · refine sk (skW rfl rfl rfl h43) ?_
                              refine sk (skW rfl rfl rfl h43) ?_
                              refine sk (skW rfl rfl rfl h43) ?_
                              refine sk (skW rfl rfl rfl h43) ?_
                              refine sk (skW rfl rfl rfl h43) ?_
                              refine pkT (v := .sc (.bool true)) (wtG rfl rfl rfl h38) rfl h43 rfl ?_
                              refine pkT (v := .sc (.bool true)) (wtG rfl rfl rfl h37) rfl h38 rfl ?_
                              refine pkF (v := .sc (.bool true)) rfl rfl h37 rfl ?_
                              refine RunC.fin ?_
                              have hR := Option.some.inj hR; subst hR
                              exact Weak.turnL [(0, 0), (1, 0)] [] rfl rfl (tc trR1 (tc trR1 (tc (trP' rfl rfl rfl rfl) (tc (trP' rfl rfl rfl rfl) (tc (.sc _) (tc trR1 (tc (.sc _) (tc (.sc _) (tc (.sc _) tn))))))))) (mc rfl (.box rfl (.cons (.sc _) (.cons (.sc _) (.cons (.sc _) (.nil)))) rfl) (mc rfl (.box rfl (.cons (.sc _) (.cons (.sc _) (.cons (.sc _) (.nil)))) rfl) mn))
                            · refine fa (wtG rfl rfl rfl h43) rfl ti35 rfl rfl ti33 rfl ?_
                              refine ldB (v := .sc _) (wtG rfl rfl rfl h43) rfl rfl rfl ti33 rfl rfl ?_
                              refine fa (wtG rfl rfl rfl h43) rfl ti35 rfl rfl ti33 rfl ?_
                              refine ldB (v := .sc _) (wtG rfl rfl rfl h43) rfl rfl rfl ti33 rfl rfl ?_
                              refine pu (v := .sc _) (wtG rfl rfl rfl h43) rfl (fun _ => rfl) ?_
                              refine pkF (v := .sc (.bool (decide (r14.2.1.Hi > r35.2.1.Hi)))) (wtG rfl rfl rfl h38) rfl h43 rfl ?_
                              refine pkT (v := .sc (.bool (decide (r14.2.1.Hi > r35.2.1.Hi)))) (wtG rfl rfl rfl h37) rfl h38 rfl ?_
                              refine pkF (v := .sc (.bool (decide (r14.2.1.Hi > r35.2.1.Hi)))) rfl rfl h37 rfl ?_
                              refine RunC.fin ?_
                              have hR := Option.some.inj hR; subst hR
                              exact Weak.turnL [(0, 0), (1, 0)] [] rfl rfl (tc trR1 (tc trR1 (tc (trP' rfl rfl rfl rfl) (tc (trP' rfl rfl rfl rfl) (tc (.sc _) (tc trR1 (tc (.sc _) (tc (.sc _) (tc (.sc _) tn))))))))) (mc rfl (.box rfl (.cons (.sc _) (.cons (.sc _) (.cons (.sc _) (.nil)))) rfl) (mc rfl (.box rfl (.cons (.sc _) (.cons (.sc _) (.cons (.sc _) (.nil)))) rfl) mn))
                  · refine sk (skW rfl rfl rfl h38) ?_
                    refine sk (skW rfl rfl rfl h38) ?_
                    refine sk (skW rfl rfl rfl h38) ?_
                    refine sk (skW2 rfl rfl rfl) ?_
                    refine sk (skW2 rfl rfl rfl) ?_
                    refine sk (skW rfl rfl rfl h38) ?_
                    refine sk (skW rfl rfl rfl h38) ?_
                    refine sk (skW2 rfl rfl rfl) ?_
                    refine sk (skW2 rfl rfl rfl) ?_
                    refine sk (skW2 rfl rfl rfl) ?_
                    refine sk (skW2 rfl rfl rfl) ?_
                    refine sk (skW2 rfl rfl rfl) ?_
                    refine sk (skW rfl rfl rfl h38) ?_
                    refine sk (skW rfl rfl rfl h38) ?_
                    refine sk (skW2 rfl rfl rfl) ?_
                    refine sk (skW2 rfl rfl rfl) ?_
                    refine sk (skW2 rfl rfl rfl) ?_
                    refine sk (skW2 rfl rfl rfl) ?_
                    refine sk (skW2 rfl rfl rfl) ?_
                    refine sk (skW rfl rfl rfl h38) ?_
                    refine sk (skW rfl rfl rfl h38) ?_
                    refine sk (skW2 rfl rfl rfl) ?_
                    refine sk (skW2 rfl rfl rfl) ?_
                    refine sk (skW2 rfl rfl rfl) ?_
                    refine sk (skW2 rfl rfl rfl) ?_
                    refine sk (skW2 rfl rfl rfl) ?_
                    refine sk (skW rfl rfl rfl h38) ?_
                    refine sk (skW rfl rfl rfl h38) ?_
                    refine sk (skW2 rfl rfl rfl) ?_
                    refine sk (skW2 rfl rfl rfl) ?_
                    refine sk (skW2 rfl rfl rfl) ?_
                    refine sk (skW2 rfl rfl rfl) ?_
                    refine sk (skW2 rfl rfl rfl) ?_
                    refine sk (skW rfl rfl rfl h38) ?_
                    refine pkF (v := .sc (.bool false)) (wtG rfl rfl rfl h37) rfl h38 rfl ?_
                    refine pkF (v := .sc (.bool false)) rfl rfl h37 rfl ?_
                    refine RunC.fin ?_
                    have hR := Option.some.inj hR; subst hR
                    exact Weak.turnL [(0, 0), (1, 0)] [] rfl rfl (tc trR1 (tc trR1 (tc (trP' rfl rfl rfl rfl) (tc (trP' rfl rfl rfl rfl) (tc (.sc _) (tc trR1 (tc (.sc _) (tc (.sc _) (tc (.sc _) tn))))))))) (mc rfl (.box rfl (.cons (.sc _) (.cons (.sc _) (.cons (.sc _) (.nil)))) rfl) (mc rfl (.box rfl (.cons (.sc _) (.cons (.sc _) (.cons (.sc _) (.nil)))) rfl) mn))
              · refine AWP.cd hR rfl (fun h44 hR => ?_) fun h44 hR => ?_
                · refine AWP.sq ?_
                  refine AWP.rgC 6 rfl rfl ?_
                  refine pu (v := .sc _) rfl rfl (fun _ => rfl) ?_
                  refine RunC.fin ?_
                  refine AWP.ret ?_
                  refine rtB ?_
                  refine rtT ?_
                  refine rtT ?_
                  refine rtB (rtT ?_)
                  replace hR := escL hR hE31
                  refine rtT ?_
                  have hR := Option.some.inj hR; subst hR
                  exact hQ _ _ (LS.mk [(2, .sc (.bool false))] (lblks 0 []) 0) (.sc (.bool false)) [] (.inr rfl) (Weak.turnL [] [] rfl rfl (tc (.sc _) tn) mn) (ro1 (rvT (v := .sc (.bool false)) rfl)) rfl rfl (.sc _) pn
                · refine AWP.skip ?_
                  refine skB ?_
                  refine skT ?_
                  refine AWP.rgC 10 rfl rfl ?_
                  refine pu (v := .sc _) rfl rfl (fun _ => rfl) ?_
                  refine pu (v := .sc _) rfl rfl (fun _ => rfl) ?_
                  refine RunC.fin ?_
                  refine ⟨(w6 (s31 + 1)), (Option.some.inj hR).symm, ?_⟩
                  exact Weak.turnL [(0, 0), (1, 0)] [] rfl rfl (tc trR1 (tc trR1 (tc (trP' rfl rfl rfl rfl) (tc (trP' rfl rfl rfl rfl) (tc (.sc _) (tc trR1 (tc (.sc _) (tc (.sc _) tn)))))))) (mc rfl (.box rfl (.cons (.sc _) (.cons (.sc _) (.cons (.sc _) (.nil)))) rfl) (mc rfl (.box rfl (.cons (.sc _) (.cons (.sc _) (.cons (.sc _) (.nil)))) rfl) mn))
            · refine AWP.exit ?_
              refine exT ?_
              refine exT ?_
              refine exH (skT ?_)
              refine ⟨(), (Option.some.inj hR).symm, ?_⟩
              exact Weak.turnL [] [] rfl rfl tn mn
          · refine skT ?_
            refine AWP.sq ?_
            refine AWP.rgC 4 rfl rfl ?_
            refine pu (v := .sc _) rfl rfl (fun _ => rfl) ?_
            refine RunC.fin ?_
            refine AWP.ret ?_
            have hR := Option.some.inj hR; subst hR
            exact hQ _ _ (LS.mk [(2, .sc (.bool true))] (lblks 0 []) 0) (.sc (.bool true)) [] (.inr rfl) (Weak.turnL [] [] rfl rfl (tc (.sc _) tn) mn) (ro1 (rvT (v := .sc (.bool true)) rfl)) rfl rfl (.sc _) pn
end Go.Proofs.Ahl
