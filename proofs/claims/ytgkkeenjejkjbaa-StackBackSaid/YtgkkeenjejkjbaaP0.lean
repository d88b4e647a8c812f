/- Each function of the program computes its plain function. Conditions: as each theorem states them. -/
import Derived.Test.YtgkkeenjejkjbaaA4
import Derived.Shelf.RegionOpenPlain
import Derived.WalkKit
import Derived.Deep.LoopGhost
import Derived.Deep.MidRow
import Derived.Lib.SlicesDelete
import Derived.Sort.WalkB12
import Derived.Lib.Walk
import Derived.Test.YtgkkeenjejkjbaaT
namespace Go.Proofs.Stb
open Go Go.Abs Lf
set_option linter.unusedVariables false
set_option linter.unusedSimpArgs false
set_option maxRecDepth 100000
set_option maxHeartbeats 1000000
theorem ok26 (b : Bound) (r : Int) (hR : bound_Check b = some r) : FnP Try.prog 26 [aggV false b] (.sc (.int .i64 r)) := by
  refine fnP_of (FnX.walk Try.func26 rfl 37 0 (by simp [Try.ntmps26]) rfl fun W S F Q hQ => ?_)
  unfold bound_Check at hR
  refine AWP.sq ?_
  refine AWP.rgC 8 rfl rfl ?_
  refine bx (cs := _) 0 rfl rfl rfl ?_
  refine pu (v := .sc _) rfl rfl (fun _ => rfl) ?_
  refine RunC.fin ?_
  refine AWP.sq ?_
  refine AWP.block ?_
  refine AWP.joinX (fun z1 : Bool => LS.mk [(1, .ptr 0 0 0), (3, .sc (.bool z1))] (lblks 0 [boxB (α := Bound) true b]) 1) hR (fun o1 hR => ?_) fun z1 hR => ?_
  · refine AWP.rgC 60 rfl rfl ?_
    refine fa rfl rfl ti45 rfl rfl ti4 rfl ?_
    refine ldB (v := .sc _) rfl rfl rfl rfl ti4 rfl rfl ?_
    refine pu (v := .sc _) rfl rfl (fun _ => rfl) ?_
    refine brR hR (fun h2 hR => ?_) fun h2 hR => ?_
    · refine fa (wtG rfl rfl rfl h2) rfl ti45 rfl rfl ti43 rfl ?_
      refine ldB (v := .sc _) (wtG rfl rfl rfl h2) rfl rfl rfl ti43 rfl rfl ?_
      refine pu (v := .sc _) (wtG rfl rfl rfl h2) rfl (fun _ => rfl) ?_
      refine pu (v := .sc _) (wtG rfl rfl rfl h2) rfl (fun _ => rfl) ?_
      refine brR hR (fun h3 hR => ?_) fun h3 hR => ?_
      · refine sk (skW rfl rfl rfl h3) ?_
        refine sk (skW rfl rfl rfl h3) ?_
        refine sk (skW rfl rfl rfl h3) ?_
        refine pkT (v := .sc (.bool true)) (wtG rfl rfl rfl h2) rfl h3 rfl ?_
        refine pkT (v := .sc (.bool true)) rfl rfl h2 rfl ?_
        refine pu (v := .sc _) rfl rfl (fun _ => rfl) ?_
        refine RunC.fin ?_
        have hR := Option.some.inj hR; subst hR
        exact Weak.turnL [(0, 0)] [] rfl rfl (tc (trP' rfl rfl rfl rfl) (tc (.sc _) tn)) (mc rfl (.box rfl (.cons (.sc _) (.cons (.sc _) (.cons (.sc _) (.nil)))) rfl) mn)
      · refine fa (wtG rfl rfl rfl h3) rfl ti45 rfl rfl ti43 rfl ?_
        refine ldB (v := .sc _) (wtG rfl rfl rfl h3) rfl rfl rfl ti43 rfl rfl ?_
        refine pu (v := .sc _) (wtG rfl rfl rfl h3) rfl (fun _ => rfl) ?_
        refine pkF (v := .sc (.bool (b.Hi != 0))) (wtG rfl rfl rfl h2) rfl h3 rfl ?_
        refine pkT (v := .sc (.bool (b.Hi != 0))) rfl rfl h2 rfl ?_
        refine pu (v := .sc _) rfl rfl (fun _ => rfl) ?_
        refine RunC.fin ?_
        have hR := Option.some.inj hR; subst hR
        exact Weak.turnL [(0, 0)] [] rfl rfl (tc (trP' rfl rfl rfl rfl) (tc (.sc _) tn)) (mc rfl (.box rfl (.cons (.sc _) (.cons (.sc _) (.cons (.sc _) (.nil)))) rfl) mn)
    · refine sk (skW rfl rfl rfl h2) ?_
      refine sk (skW rfl rfl rfl h2) ?_
      refine sk (skW rfl rfl rfl h2) ?_
      refine sk (skW rfl rfl rfl h2) ?_
      refine sk (skW2 rfl rfl rfl) ?_
      refine sk (skW2 rfl rfl rfl) ?_
      refine sk (skW2 rfl rfl rfl) ?_
      refine sk (skW rfl rfl rfl h2) ?_
      refine pkF (v := .sc (.bool false)) rfl rfl h2 rfl ?_
      refine pu (v := .sc _) rfl rfl (fun _ => rfl) ?_
      refine RunC.fin ?_
      have hR := Option.some.inj hR; subst hR
      exact Weak.turnL [(0, 0)] [] rfl rfl (tc (trP' rfl rfl rfl rfl) (tc (.sc _) tn)) (mc rfl (.box rfl (.cons (.sc _) (.cons (.sc _) (.cons (.sc _) (.nil)))) rfl) mn)
  · refine AWP.cd hR rfl (fun h4 hR => ?_) fun h4 hR => ?_
    · refine AWP.sq ?_
      refine AWP.rgC 5 rfl rfl ?_
      refine pu (v := .sc _) rfl rfl (fun _ => rfl) ?_
      refine RunC.fin ?_
      refine AWP.ret ?_
      refine rtB ?_
      refine rtT ?_
      have hR := Option.some.inj hR; subst hR
      exact hQ _ _ (LS.mk [(2, .sc (.int .i64 3))] (lblks 0 []) 0) (.sc (.int .i64 3)) [] (.inr rfl) (Weak.turnL [] [] rfl rfl (tc (.sc _) tn) mn) (ro1 (rvT (v := .sc (.int .i64 3)) rfl)) rfl rfl (.sc _) pn
    · refine AWP.joinX (fun z5 : Bool => LS.mk [(1, .ptr 0 0 0), (16, .sc (.bool z5))] (lblks 0 [boxB (α := Bound) true b]) 1) hR (fun o5 hR => ?_) fun z5 hR => ?_
      · refine AWP.rgC 61 rfl rfl ?_
        refine fa rfl rfl ti45 rfl rfl ti43 rfl ?_
        refine ldB (v := .sc _) rfl rfl rfl rfl ti43 rfl rfl ?_
        refine fa rfl rfl ti45 rfl rfl ti43 rfl ?_
        refine ldB (v := .sc _) rfl rfl rfl rfl ti43 rfl rfl ?_
        refine pu (v := .sc _) rfl rfl (fun _ => rfl) ?_
        refine pu (v := .sc _) rfl rfl (fun _ => rfl) ?_
        refine pu (v := .sc _) rfl rfl (fun _ => rfl) ?_
        refine brR hR (fun h6 hR => ?_) fun h6 hR => ?_
        · refine sk (skW rfl rfl rfl h6) ?_
          refine sk (skW rfl rfl rfl h6) ?_
          refine sk (skW rfl rfl rfl h6) ?_
          refine sk (skW rfl rfl rfl h6) ?_
          refine sk (skW rfl rfl rfl h6) ?_
          refine sk (skW rfl rfl rfl h6) ?_
          refine pkT (v := .sc (.bool true)) rfl rfl h6 rfl ?_
          refine pu (v := .sc _) rfl rfl (fun _ => rfl) ?_
          refine RunC.fin ?_
          have hR := Option.some.inj hR; subst hR
          exact Weak.turnL [(0, 0)] [] rfl rfl (tc (trP' rfl rfl rfl rfl) (tc (.sc _) tn)) (mc rfl (.box rfl (.cons (.sc _) (.cons (.sc _) (.cons (.sc _) (.nil)))) rfl) mn)
        · refine fa (wtG rfl rfl rfl h6) rfl ti45 rfl rfl ti43 rfl ?_
          refine ldB (v := .sc _) (wtG rfl rfl rfl h6) rfl rfl rfl ti43 rfl rfl ?_
          refine fa (wtG rfl rfl rfl h6) rfl ti45 rfl rfl ti43 rfl ?_
          refine ldB (v := .sc _) (wtG rfl rfl rfl h6) rfl rfl rfl ti43 rfl rfl ?_
          refine pu (v := .sc _) (wtG rfl rfl rfl h6) rfl (fun _ => rfl) ?_
          refine pu (v := .sc _) (wtG rfl rfl rfl h6) rfl (fun _ => rfl) ?_
          refine pkF (v := .sc (.bool (decide ((mx2 b.Lo b.Hi) > 1152921504606846976)))) rfl rfl h6 rfl ?_
          refine pu (v := .sc _) rfl rfl (fun _ => rfl) ?_
          refine RunC.fin ?_
          have hR := Option.some.inj hR; subst hR
          exact Weak.turnL [(0, 0)] [] rfl rfl (tc (trP' rfl rfl rfl rfl) (tc (.sc _) tn)) (mc rfl (.box rfl (.cons (.sc _) (.cons (.sc _) (.cons (.sc _) (.nil)))) rfl) mn)
      · refine AWP.cd hR rfl (fun h7 hR => ?_) fun h7 hR => ?_
        · refine AWP.sq ?_
          refine AWP.rgC 5 rfl rfl ?_
          refine pu (v := .sc _) rfl rfl (fun _ => rfl) ?_
          refine RunC.fin ?_
          refine AWP.ret ?_
          refine rtB ?_
          refine rtT ?_
          have hR := Option.some.inj hR; subst hR
          exact hQ _ _ (LS.mk [(2, .sc (.int .i64 4))] (lblks 0 []) 0) (.sc (.int .i64 4)) [] (.inr rfl) (Weak.turnL [] [] rfl rfl (tc (.sc _) tn) mn) (ro1 (rvT (v := .sc (.int .i64 4)) rfl)) rfl rfl (.sc _) pn
        · refine AWP.sq ?_
          refine AWP.rgC 25 rfl rfl ?_
          refine fa rfl rfl ti45 rfl rfl ti43 rfl ?_
          refine ldB (v := .sc _) rfl rfl rfl rfl ti43 rfl rfl ?_
          refine fa rfl rfl ti45 rfl rfl ti43 rfl ?_
          refine ldB (v := .sc _) rfl rfl rfl rfl ti43 rfl rfl ?_
          refine pu (v := .sc _) rfl rfl (fun _ => rfl) ?_
          refine pu (v := .sc _) rfl rfl (fun _ => rfl) ?_
          refine RunC.fin ?_
          refine AWP.cd hR rfl (fun h8 hR => ?_) fun h8 hR => ?_
          · refine AWP.sq ?_
            refine AWP.rgC 29 rfl rfl ?_
            refine pu (v := .sc _) rfl rfl (fun _ => rfl) ?_
            refine RunC.fin ?_
            refine AWP.ret ?_
            refine rtB ?_
            refine rtT ?_
            have hR := Option.some.inj hR; subst hR
            exact hQ _ _ (LS.mk [(2, .sc (.int .i64 11))] (lblks 0 []) 0) (.sc (.int .i64 11)) [] (.inr rfl) (Weak.turnL [] [] rfl rfl (tc (.sc _) tn) mn) (ro1 (rvT (v := .sc (.int .i64 11)) rfl)) rfl rfl (.sc _) pn
          · refine AWP.skip ?_
            refine skB ?_
            refine skT ?_
            refine AWP.sq ?_
            refine AWP.rgC 29 rfl rfl ?_
            refine pu (v := .sc _) rfl rfl (fun _ => rfl) ?_
            refine RunC.fin ?_
            refine AWP.ret ?_
            have hR := Option.some.inj hR; subst hR
            exact hQ _ _ (LS.mk [(2, .sc (.int .i64 0))] (lblks 0 []) 0) (.sc (.int .i64 0)) [] (.inr rfl) (Weak.turnL [] [] rfl rfl (tc (.sc _) tn) mn) (ro1 (rvT (v := .sc (.int .i64 0)) rfl)) rfl rfl (.sc _) pn
theorem ok29 (r : Bound) (hR : bound_None = some r) : FnP Try.prog 29 [] (aggV (α := Bound) true r) := by
  refine fnP_of (FnX.walk Try.func29 rfl 2 0 (by simp [Try.ntmps29]) rfl fun W S F Q hQ => ?_)
  unfold bound_None at hR
  refine AWP.sq ?_
  refine AWP.rgC 4 rfl rfl ?_
  refine al (cs := [.sc (.int .i64 0), .sc (.int .i64 0), .sc (.bool false)]) 0 rfl rfl ti45 rfl rfl ?_
  refine RunC.fin ?_
  refine AWP.sq ?_
  refine AWP.rgC 12 rfl rfl ?_
  refine bu (cs := [.sc (.int .i64 0), .sc (.int .i64 0), .sc (.bool true)]) rfl bt45 rfl ?_
  refine stB (cs' := [.sc (.int .i64 0), .sc (.int .i64 0), .sc (.bool true)]) rfl rfl rfl rfl ti45 rfl rfl rfl rfl rfl ?_
  refine RunC.fin ?_
  refine AWP.ret ?_
  have hR := Option.some.inj hR; subst hR
  exact hQ _ _ (LS.mk [(0, .ptr 0 0 0)] (lblks 0 [boxB (α := Bound) true (Bound.mk 0 0 true)]) 1) (aggV (α := Bound) true (Bound.mk 0 0 true)) [] (.inr rfl) (Weak.turnL [(0, 0)] [] rfl rfl (tc (trP' rfl rfl rfl rfl) tn) (mc rfl (.box rfl (.cons (.sc _) (.cons (.sc _) (.cons (.sc _) (.nil)))) rfl) mn)) (ro1 (rvC (v := aggV (α := Bound) true (Bound.mk 0 0 true)) rfl rfl ti45 rfl)) rfl rfl ldA pn
theorem ok33 (b : Bound) (r : Bound) (hR : bound_Norm b = some r) : FnP Try.prog 33 [aggV false b] (aggV (α := Bound) true r) := by
  refine fnP_of (FnX.walk Try.func33 rfl 8 0 (by simp [Try.ntmps33]) rfl fun W S F Q hQ => ?_)
  unfold bound_Norm at hR
  refine AWP.sq ?_
  refine AWP.rgC 8 rfl rfl ?_
  refine bx (cs := _) 0 rfl rfl rfl ?_
  refine al (cs := [.sc (.int .i64 0), .sc (.int .i64 0), .sc (.bool false)]) 4 rfl rfl ti45 rfl rfl ?_
  refine RunC.fin ?_
  refine AWP.sq ?_
  refine AWP.sq ?_
  refine AWP.rgC 20 rfl rfl ?_
  refine ldB (v := .agg _) rfl rfl rfl rfl ti45 rfl rfl ?_
  obtain ⟨r1, hr1, hR⟩ := bindE hR
  refine cls [] rfl rfl cb26 (ok26 b _ hr1) (.cons (.agg (.cons (.sc _) (.cons (.sc _) (.cons (.sc _) (.nil)))) rfl) (.nil)) (.inr rfl) rfl ?_
  refine pu (v := .sc _) rfl rfl (fun _ => rfl) ?_
  refine RunC.fin ?_
  refine AWP.cd hR rfl (fun h2 hR => ?_) fun h2 hR => ?_
  · refine AWP.sq ?_
    refine AWP.rgC 28 rfl rfl ?_
    obtain ⟨r3, hr3, hR⟩ := bindE hR
    refine cls [] rfl rfl cb29 (ok29 _ hr3) (.nil) (.inr rfl) rfl ?_
    refine stB (cs' := [.sc (.int .i64 r3.Lo), .sc (.int .i64 r3.Hi), .sc (.bool r3.Unknown)]) rfl rfl rfl rfl ti45 rfl rfl rfl rfl rfl ?_
    refine RunC.fin ?_
    refine AWP.ret ?_
    refine rtT ?_
    have hR := Option.some.inj hR; subst hR
    exact hQ _ _ (LS.mk [(2, .ptr 0 0 0)] (lblks 0 [boxB (α := Bound) true r3]) 1) (aggV (α := Bound) true r3) [] (.inr rfl) (Weak.turnL [(4, 0)] [] rfl rfl (tc (trP' rfl rfl rfl rfl) tn) (mc rfl (.box rfl (.cons (.sc _) (.cons (.sc _) (.cons (.sc _) (.nil)))) rfl) mn)) (ro1 (rvC (v := aggV (α := Bound) true r3) rfl rfl ti45 rfl)) rfl rfl ldA pn
  · refine AWP.skip ?_
    refine skT ?_
    refine AWP.sq ?_
    refine AWP.rgC 28 rfl rfl ?_
    refine ldB (v := .agg _) rfl rfl rfl rfl ti45 rfl rfl ?_
    refine stB (cs' := [.sc (.int .i64 b.Lo), .sc (.int .i64 b.Hi), .sc (.bool b.Unknown)]) rfl rfl rfl rfl ti45 rfl rfl rfl rfl rfl ?_
    refine RunC.fin ?_
    refine AWP.ret ?_
    have hR := Option.some.inj hR; subst hR
    exact hQ _ _ (LS.mk [(2, .ptr 0 0 0)] (lblks 0 [boxB (α := Bound) true b]) 1) (aggV (α := Bound) true b) [] (.inr rfl) (Weak.turnL [(4, 0)] [] rfl rfl (tc (trP' rfl rfl rfl rfl) tn) (mc rfl (.box rfl (.cons (.sc _) (.cons (.sc _) (.cons (.sc _) (.nil)))) rfl) mn)) (ro1 (rvC (v := aggV (α := Bound) true b) rfl rfl ti45 rfl)) rfl rfl ldA pn
theorem ok30 (lo : Int) (hi : Int) (r : Bound) (hR : bound_Of lo hi = some r) : FnP Try.prog 30 [.sc (.int .i64 lo), .sc (.int .i64 hi)] (aggV (α := Bound) true r) := by
  refine fnP_of (FnX.walk Try.func30 rfl 9 0 (by simp [Try.ntmps30]) rfl fun W S F Q hQ => ?_)
  unfold bound_Of at hR
  refine AWP.sq ?_
  refine AWP.rgC 4 rfl rfl ?_
  refine al (cs := [.sc (.int .i64 0), .sc (.int .i64 0), .sc (.bool false)]) 0 rfl rfl ti45 rfl rfl ?_
  refine RunC.fin ?_
  refine AWP.sq ?_
  refine AWP.rgC 24 rfl rfl ?_
  refine pu (v := .sc _) rfl rfl (fun _ => rfl) ?_
  refine pu (v := .sc _) rfl rfl (fun _ => rfl) ?_
  refine bu (cs := [.sc (.int .i64 lo), .sc (.int .i64 hi), .sc (.bool false)]) rfl bt45 rfl ?_
  obtain ⟨r1, hr1, hR⟩ := bindE hR
  refine cls [] rfl rfl cb33 (ok33 (Bound.mk lo hi false) _ hr1) (.cons (.agg (.cons (.sc _) (.cons (.sc _) (.cons (.sc _) (.nil)))) rfl) (.nil)) (.inr rfl) rfl ?_
  refine stB (cs' := [.sc (.int .i64 r1.Lo), .sc (.int .i64 r1.Hi), .sc (.bool r1.Unknown)]) rfl rfl rfl rfl ti45 rfl rfl rfl rfl rfl ?_
  refine RunC.fin ?_
  refine AWP.ret ?_
  have hR := Option.some.inj hR; subst hR
  exact hQ _ _ (LS.mk [(4, .ptr 0 0 0)] (lblks 0 [boxB (α := Bound) true r1]) 1) (aggV (α := Bound) true r1) [] (.inr rfl) (Weak.turnL [(0, 0)] [] rfl rfl (tc (trP' rfl rfl rfl rfl) tn) (mc rfl (.box rfl (.cons (.sc _) (.cons (.sc _) (.cons (.sc _) (.nil)))) rfl) mn)) (ro1 (rvC (v := aggV (α := Bound) true r1) rfl rfl ti45 rfl)) rfl rfl ldA pn
theorem ok28 (a : Bound) (b : Bound) (r : Bool) (hR : bound_vague a b = some r) : FnP Try.prog 28 [aggV false a, aggV false b] (.sc (.bool r)) := by
  refine fnP_of (FnX.walk Try.func28 rfl 13 0 (by simp [Try.ntmps28]) rfl fun W S F Q hQ => ?_)
  unfold bound_vague at hR
  refine AWP.sq ?_
  refine AWP.rgC 12 rfl rfl ?_
  refine bx (cs := _) 0 rfl rfl rfl ?_
  refine bx (cs := _) 4 rfl rfl rfl ?_
  refine pu (v := .sc _) rfl rfl (fun _ => rfl) ?_
  refine RunC.fin ?_
  refine AWP.joinX (fun z1 : Bool => LS.mk [(4, .sc (.bool z1))] (lblks 0 []) 0) hR (fun o1 hR => ?_) fun z1 hR => ?_
  · refine AWP.rgC 48 rfl rfl ?_
    refine ldB (v := .agg _) rfl rfl rfl rfl ti45 rfl rfl ?_
    obtain ⟨r2, hr2, hR⟩ := bindE hR
    refine cls [] rfl rfl cb33 (ok33 a _ hr2) (.cons (.agg (.cons (.sc _) (.cons (.sc _) (.cons (.sc _) (.nil)))) rfl) (.nil)) (.inr rfl) rfl ?_
    refine fi (v := .sc _) rfl rfl ti45 rfl rfl ti4 rfl ?_
    refine pu (v := .sc _) rfl rfl (fun _ => rfl) ?_
    refine brR hR (fun h3 hR => ?_) fun h3 hR => ?_
    · refine sk (skW rfl rfl rfl h3) ?_
      refine sk (skW rfl rfl rfl h3) ?_
      refine sk (skW rfl rfl rfl h3) ?_
      refine pkT (v := .sc (.bool true)) rfl rfl h3 rfl ?_
      refine pu (v := .sc _) rfl rfl (fun _ => rfl) ?_
      refine RunC.fin ?_
      have hR := Option.some.inj hR; subst hR
      exact Weak.turnL [] [] rfl rfl (tc (.sc _) tn) mn
    · refine ldB (v := .agg _) (wtG rfl rfl rfl h3) rfl rfl rfl ti45 rfl rfl ?_
      obtain ⟨r4, hr4, hR⟩ := bindE hR
      refine cls [] (wtG rfl rfl rfl h3) rfl cb33 (ok33 b _ hr4) (.cons (.agg (.cons (.sc _) (.cons (.sc _) (.cons (.sc _) (.nil)))) rfl) (.nil)) (.inr rfl) rfl ?_
      refine fi (v := .sc _) (wtG rfl rfl rfl h3) rfl ti45 rfl rfl ti4 rfl ?_
      refine pkF (v := .sc (.bool r4.Unknown)) rfl rfl h3 rfl ?_
      refine pu (v := .sc _) rfl rfl (fun _ => rfl) ?_
      refine RunC.fin ?_
      have hR := Option.some.inj hR; subst hR
      exact Weak.turnL [] [] rfl rfl (tc (.sc _) tn) mn
  · refine AWP.ret ?_
    have hR := Option.some.inj hR; subst hR
    exact hQ _ _ (LS.mk [(4, .sc (.bool z1))] (lblks 0 []) 0) (.sc (.bool z1)) [] (.inr rfl) (Weak.turnL [] [] rfl rfl (tc (.sc _) tn) mn) (ro1 (rvT (v := .sc (.bool z1)) rfl)) rfl rfl (.sc _) pn
theorem ok19 (s : stack_Stack) (r : Int) (hR : stack_Check s = some r) : FnP Try.prog 19 [aggV false s] (.sc (.int .i64 r)) := by
  refine fnP_of (FnX.walk Try.func19 rfl 103 0 (by simp [Try.ntmps19]) rfl fun W S F Q hQ => ?_)
  unfold stack_Check at hR
  refine AWP.sq ?_
  refine AWP.rgC 8 rfl rfl ?_
  refine bx (cs := _) 0 rfl rfl rfl ?_
  refine pu (v := .sc _) rfl rfl (fun _ => rfl) ?_
  refine RunC.fin ?_
  refine AWP.sq ?_
  refine AWP.rgC 32 rfl rfl ?_
  refine fa rfl rfl ti33 rfl rfl ti3 rfl ?_
  refine ldB (v := .sc _) rfl rfl rfl rfl ti3 rfl rfl ?_
  refine fa rfl rfl ti33 rfl rfl ti3 rfl ?_
  refine ldB (v := .sc _) rfl rfl rfl rfl ti3 rfl rfl ?_
  refine pu (v := .sc _) rfl rfl (fun _ => rfl) ?_
  refine pu (v := .sc _) rfl rfl (fun _ => rfl) ?_
  refine RunC.fin ?_
  refine AWP.sq ?_
  refine AWP.joinX (fun z1 : Bool => LS.mk [(1, .ptr 0 0 0), (45, .sc (.bool z1))] (lblks 0 [boxB (α := stack_Stack) false s]) 1) hR (fun o1 hR => ?_) fun z1 hR => ?_
  · refine AWP.rgC 160 rfl rfl ?_
    refine fa rfl rfl ti33 rfl rfl ti3 rfl ?_
    refine ldB (v := .sc _) rfl rfl rfl rfl ti3 rfl rfl ?_
    refine pu (v := .sc _) rfl rfl (fun _ => rfl) ?_
    refine pu (v := .sc _) rfl rfl (fun _ => rfl) ?_
    refine brR hR (fun h2 hR => ?_) fun h2 hR => ?_
    · refine sk (skW rfl rfl rfl h2) ?_
      refine sk (skW rfl rfl rfl h2) ?_
      refine sk (skW rfl rfl rfl h2) ?_
      refine pkT (v := .sc (.bool true)) rfl rfl h2 rfl ?_
      refine pu (v := .sc _) rfl rfl (fun _ => rfl) ?_
      refine sk (skW rfl rfl rfl rfl) ?_
      refine sk (skW rfl rfl rfl rfl) ?_
      refine sk (skW rfl rfl rfl rfl) ?_
      refine pkT (v := .sc (.bool true)) rfl rfl rfl rfl ?_
      refine pu (v := .sc _) rfl rfl (fun _ => rfl) ?_
      refine sk (skW rfl rfl rfl rfl) ?_
      refine sk (skW rfl rfl rfl rfl) ?_
      refine sk (skW rfl rfl rfl rfl) ?_
      refine pkT (v := .sc (.bool true)) rfl rfl rfl rfl ?_
      refine pu (v := .sc _) rfl rfl (fun _ => rfl) ?_
      refine sk (skW rfl rfl rfl rfl) ?_
      refine sk (skW rfl rfl rfl rfl) ?_
      refine sk (skW rfl rfl rfl rfl) ?_
      refine sk (skW rfl rfl rfl rfl) ?_
      refine sk (skW rfl rfl rfl rfl) ?_
      refine pkT (v := .sc (.bool true)) rfl rfl rfl rfl ?_
      refine pu (v := .sc _) rfl rfl (fun _ => rfl) ?_
      refine sk (skW rfl rfl rfl rfl) ?_
      refine sk (skW rfl rfl rfl rfl) ?_
      refine sk (skW rfl rfl rfl rfl) ?_
      refine sk (skW rfl rfl rfl rfl) ?_
      refine sk (skW rfl rfl rfl rfl) ?_
      refine pkT (v := .sc (.bool true)) rfl rfl rfl rfl ?_
      refine RunC.fin ?_
      have hR := Option.some.inj hR; subst hR
      exact Weak.turnL [(0, 0)] [] rfl rfl (tc (trP' rfl rfl rfl rfl) (tc (.sc _) tn)) (mc rfl (.box rfl (.cons (.sc _) (.cons (.sc _) (.cons (.sc _) (.cons trR1 (.cons trR1 (.nil)))))) rfl) mn)
    · refine fa (wtG rfl rfl rfl h2) rfl ti33 rfl rfl ti3 rfl ?_
      refine ldB (v := .sc _) (wtG rfl rfl rfl h2) rfl rfl rfl ti3 rfl rfl ?_
      refine pu (v := .sc _) (wtG rfl rfl rfl h2) rfl (fun _ => rfl) ?_
      refine pkF (v := .sc (.bool (decide (s.W > 32)))) rfl rfl h2 rfl ?_
      refine pu (v := .sc _) rfl rfl (fun _ => rfl) ?_
      refine brR hR (fun h3 hR => ?_) fun h3 hR => ?_
      · refine sk (skW rfl rfl rfl h3) ?_
        refine sk (skW rfl rfl rfl h3) ?_
        refine sk (skW rfl rfl rfl h3) ?_
        refine pkT (v := .sc (.bool true)) rfl rfl h3 rfl ?_
        refine pu (v := .sc _) rfl rfl (fun _ => rfl) ?_
        refine sk (skW rfl rfl rfl rfl) ?_
        refine sk (skW rfl rfl rfl rfl) ?_
        refine sk (skW rfl rfl rfl rfl) ?_
        refine pkT (v := .sc (.bool true)) rfl rfl rfl rfl ?_
        refine pu (v := .sc _) rfl rfl (fun _ => rfl) ?_
        refine sk (skW rfl rfl rfl rfl) ?_
        refine sk (skW rfl rfl rfl rfl) ?_
        refine sk (skW rfl rfl rfl rfl) ?_
        refine sk (skW rfl rfl rfl rfl) ?_
        refine sk (skW rfl rfl rfl rfl) ?_
        refine pkT (v := .sc (.bool true)) rfl rfl rfl rfl ?_
        refine pu (v := .sc _) rfl rfl (fun _ => rfl) ?_
        refine sk (skW rfl rfl rfl rfl) ?_
        refine sk (skW rfl rfl rfl rfl) ?_
        refine sk (skW rfl rfl rfl rfl) ?_
        refine sk (skW rfl rfl rfl rfl) ?_
        refine sk (skW rfl rfl rfl rfl) ?_
        refine pkT (v := .sc (.bool true)) rfl rfl rfl rfl ?_
        refine RunC.fin ?_
        have hR := Option.some.inj hR; subst hR
        exact Weak.turnL [(0, 0)] [] rfl rfl (tc (trP' rfl rfl rfl rfl) (tc (.sc _) tn)) (mc rfl (.box rfl (.cons (.sc _) (.cons (.sc _) (.cons (.sc _) (.cons trR1 (.cons trR1 (.nil)))))) rfl) mn)
      · refine fa (wtG rfl rfl rfl h3) rfl ti33 rfl rfl ti3 rfl ?_
        refine ldB (v := .sc _) (wtG rfl rfl rfl h3) rfl rfl rfl ti3 rfl rfl ?_
        refine pu (v := .sc _) (wtG rfl rfl rfl h3) rfl (fun _ => rfl) ?_
        refine pkF (v := .sc (.bool (decide (s.H < 1)))) rfl rfl h3 rfl ?_
        refine pu (v := .sc _) rfl rfl (fun _ => rfl) ?_
        refine brR hR (fun h4 hR => ?_) fun h4 hR => ?_
        · refine sk (skW rfl rfl rfl h4) ?_
          refine sk (skW rfl rfl rfl h4) ?_
          refine sk (skW rfl rfl rfl h4) ?_
          refine pkT (v := .sc (.bool true)) rfl rfl h4 rfl ?_
          refine pu (v := .sc _) rfl rfl (fun _ => rfl) ?_
          refine sk (skW rfl rfl rfl rfl) ?_
          refine sk (skW rfl rfl rfl rfl) ?_
          refine sk (skW rfl rfl rfl rfl) ?_
          refine sk (skW rfl rfl rfl rfl) ?_
          refine sk (skW rfl rfl rfl rfl) ?_
          refine pkT (v := .sc (.bool true)) rfl rfl rfl rfl ?_
          refine pu (v := .sc _) rfl rfl (fun _ => rfl) ?_
          refine sk (skW rfl rfl rfl rfl) ?_
          refine sk (skW rfl rfl rfl rfl) ?_
          refine sk (skW rfl rfl rfl rfl) ?_
          refine sk (skW rfl rfl rfl rfl) ?_
          refine sk (skW rfl rfl rfl rfl) ?_
          refine pkT (v := .sc (.bool true)) rfl rfl rfl rfl ?_
          refine RunC.fin ?_
          have hR := Option.some.inj hR; subst hR
          exact Weak.turnL [(0, 0)] [] rfl rfl (tc (trP' rfl rfl rfl rfl) (tc (.sc _) tn)) (mc rfl (.box rfl (.cons (.sc _) (.cons (.sc _) (.cons (.sc _) (.cons trR1 (.cons trR1 (.nil)))))) rfl) mn)
        · refine fa (wtG rfl rfl rfl h4) rfl ti33 rfl rfl ti3 rfl ?_
          refine ldB (v := .sc _) (wtG rfl rfl rfl h4) rfl rfl rfl ti3 rfl rfl ?_
          refine pu (v := .sc _) (wtG rfl rfl rfl h4) rfl (fun _ => rfl) ?_
          refine pkF (v := .sc (.bool (decide (s.H > 32)))) rfl rfl h4 rfl ?_
          refine pu (v := .sc _) rfl rfl (fun _ => rfl) ?_
          refine brR hR (fun h5 hR => ?_) fun h5 hR => ?_
          · refine sk (skW rfl rfl rfl h5) ?_
            refine sk (skW rfl rfl rfl h5) ?_
            refine sk (skW rfl rfl rfl h5) ?_
            refine sk (skW rfl rfl rfl h5) ?_
            refine sk (skW rfl rfl rfl h5) ?_
            refine pkT (v := .sc (.bool true)) rfl rfl h5 rfl ?_
            refine pu (v := .sc _) rfl rfl (fun _ => rfl) ?_
            refine sk (skW rfl rfl rfl rfl) ?_
            refine sk (skW rfl rfl rfl rfl) ?_
            refine sk (skW rfl rfl rfl rfl) ?_
            refine sk (skW rfl rfl rfl rfl) ?_
            refine sk (skW rfl rfl rfl rfl) ?_
            refine pkT (v := .sc (.bool true)) rfl rfl rfl rfl ?_
            refine RunC.fin ?_
            have hR := Option.some.inj hR; subst hR
            exact Weak.turnL [(0, 0)] [] rfl rfl (tc (trP' rfl rfl rfl rfl) (tc (.sc _) tn)) (mc rfl (.box rfl (.cons (.sc _) (.cons (.sc _) (.cons (.sc _) (.cons trR1 (.cons trR1 (.nil)))))) rfl) mn)
          · refine fa (wtG rfl rfl rfl h5) rfl ti33 rfl rfl ti28 rfl ?_
            refine ldB (v := rowV _ s.At) (wtG rfl rfl rfl h5) rfl rfl rfl ti28 rfl rfl ?_
            refine lenL (α := Bound) (wtG rfl rfl rfl h5) rfl ti28 rfl ?_
            refine pu (v := .sc _) (wtG rfl rfl rfl h5) rfl (fun _ => rfl) ?_
            refine pu (v := .sc _) (wtG rfl rfl rfl h5) rfl (fun _ => rfl) ?_
            refine pkF (v := .sc (.bool ((s.At.length : Int) != (w6 (s.W * s.H))))) rfl rfl h5 rfl ?_
            refine pu (v := .sc _) rfl rfl (fun _ => rfl) ?_
            refine brR hR (fun h6 hR => ?_) fun h6 hR => ?_
            · refine sk (skW rfl rfl rfl h6) ?_
              refine sk (skW rfl rfl rfl h6) ?_
              refine sk (skW rfl rfl rfl h6) ?_
              refine sk (skW rfl rfl rfl h6) ?_
              refine sk (skW rfl rfl rfl h6) ?_
              refine pkT (v := .sc (.bool true)) rfl rfl h6 rfl ?_
              refine RunC.fin ?_
              have hR := Option.some.inj hR; subst hR
              exact Weak.turnL [(0, 0)] [] rfl rfl (tc (trP' rfl rfl rfl rfl) (tc (.sc _) tn)) (mc rfl (.box rfl (.cons (.sc _) (.cons (.sc _) (.cons (.sc _) (.cons trR1 (.cons trR1 (.nil)))))) rfl) mn)
            · refine fa (wtG rfl rfl rfl h6) rfl ti33 rfl rfl ti22 rfl ?_
              refine ldB (v := rowV _ s.Holes) (wtG rfl rfl rfl h6) rfl rfl rfl ti22 rfl rfl ?_
              refine lenL (α := Int) (wtG rfl rfl rfl h6) rfl ti22 rfl ?_
              refine pu (v := .sc _) (wtG rfl rfl rfl h6) rfl (fun _ => rfl) ?_
              refine pu (v := .sc _) (wtG rfl rfl rfl h6) rfl (fun _ => rfl) ?_
              refine pkF (v := .sc (.bool ((s.Holes.length : Int) != (w6 (s.W * s.H))))) rfl rfl h6 rfl ?_
              refine RunC.fin ?_
              have hR := Option.some.inj hR; subst hR
              exact Weak.turnL [(0, 0)] [] rfl rfl (tc (trP' rfl rfl rfl rfl) (tc (.sc _) tn)) (mc rfl (.box rfl (.cons (.sc _) (.cons (.sc _) (.cons (.sc _) (.cons trR1 (.cons trR1 (.nil)))))) rfl) mn)
  · refine AWP.cd hR rfl (fun h7 hR => ?_) fun h7 hR => ?_
    · refine AWP.sq ?_
      refine AWP.rgC 5 rfl rfl ?_
      refine pu (v := .sc _) rfl rfl (fun _ => rfl) ?_
      refine RunC.fin ?_
      refine AWP.ret ?_
      refine rtT ?_
      have hR := Option.some.inj hR; subst hR
      exact hQ _ _ (LS.mk [(2, .sc (.int .i64 3))] (lblks 0 []) 0) (.sc (.int .i64 3)) [] (.inr rfl) (Weak.turnL [] [] rfl rfl (tc (.sc _) tn) mn) (ro1 (rvT (v := .sc (.int .i64 3)) rfl)) rfl rfl (.sc _) pn
    · refine AWP.skip ?_
      refine skT ?_
      refine AWP.sq ?_
      refine AWP.joinX (fun z8 : Bool => LS.mk [(1, .ptr 0 0 0), (53, .sc (.bool z8))] (lblks 0 [boxB (α := stack_Stack) false s]) 1) hR (fun o8 hR => ?_) fun z8 hR => ?_
      · refine AWP.rgC 33 rfl rfl ?_
        refine fa rfl rfl ti33 rfl rfl ti3 rfl ?_
        refine ldB (v := .sc _) rfl rfl rfl rfl ti3 rfl rfl ?_
        refine pu (v := .sc _) rfl rfl (fun _ => rfl) ?_
        refine pu (v := .sc _) rfl rfl (fun _ => rfl) ?_
        refine brR hR (fun h9 hR => ?_) fun h9 hR => ?_
        · refine sk (skW rfl rfl rfl h9) ?_
          refine sk (skW rfl rfl rfl h9) ?_
          refine sk (skW rfl rfl rfl h9) ?_
          refine pkT (v := .sc (.bool true)) rfl rfl h9 rfl ?_
          refine RunC.fin ?_
          have hR := Option.some.inj hR; subst hR
          exact Weak.turnL [(0, 0)] [] rfl rfl (tc (trP' rfl rfl rfl rfl) (tc (.sc _) tn)) (mc rfl (.box rfl (.cons (.sc _) (.cons (.sc _) (.cons (.sc _) (.cons trR1 (.cons trR1 (.nil)))))) rfl) mn)
        · refine fa (wtG rfl rfl rfl h9) rfl ti33 rfl rfl ti3 rfl ?_
          refine ldB (v := .sc _) (wtG rfl rfl rfl h9) rfl rfl rfl ti3 rfl rfl ?_
          refine pu (v := .sc _) (wtG rfl rfl rfl h9) rfl (fun _ => rfl) ?_
          refine pkF (v := .sc (.bool (decide (s.N > 8)))) rfl rfl h9 rfl ?_
          refine RunC.fin ?_
          have hR := Option.some.inj hR; subst hR
          exact Weak.turnL [(0, 0)] [] rfl rfl (tc (trP' rfl rfl rfl rfl) (tc (.sc _) tn)) (mc rfl (.box rfl (.cons (.sc _) (.cons (.sc _) (.cons (.sc _) (.cons trR1 (.cons trR1 (.nil)))))) rfl) mn)
      · refine AWP.cd hR rfl (fun h10 hR => ?_) fun h10 hR => ?_
        · refine AWP.sq ?_
          refine AWP.rgC 5 rfl rfl ?_
          refine pu (v := .sc _) rfl rfl (fun _ => rfl) ?_
          refine RunC.fin ?_
          refine AWP.ret ?_
          refine rtT ?_
          have hR := Option.some.inj hR; subst hR
          exact hQ _ _ (LS.mk [(2, .sc (.int .i64 4))] (lblks 0 []) 0) (.sc (.int .i64 4)) [] (.inr rfl) (Weak.turnL [] [] rfl rfl (tc (.sc _) tn) mn) (ro1 (rvT (v := .sc (.int .i64 4)) rfl)) rfl rfl (.sc _) pn
        · refine AWP.skip ?_
          refine skT ?_
          refine AWP.sq ?_
          refine AWP.sq ?_
          refine AWP.rgC 17 rfl rfl ?_
          refine fa rfl rfl ti33 rfl rfl ti28 rfl ?_
          refine ldB (v := rowV _ s.At) rfl rfl rfl rfl ti28 rfl rfl ?_
          refine lenL (α := Bound) rfl rfl ti28 rfl ?_
          refine pu (v := .sc _) rfl rfl (fun _ => rfl) ?_
          refine RunC.fin ?_
          refine AWP.loopK' (fun s11 : Int => LS.mk [(1, .ptr 0 0 0), (55, rowV (α := Bound) false s.At), (56, .sc (.int .i64 (s.At.length : Int))), (57, .sc (.int .i64 s11))] (lblks 0 [boxB (α := stack_Stack) false s]) 1) (fun z12 : Unit => LS.mk [] (lblks 0 []) 0) (stack_Check.l1 s) hR (s0 := 0) (Weak.turnL [(0, 0)] [] rfl rfl (tc (trP' rfl rfl rfl rfl) (tc trR1 (tc (.sc _) (tc (.sc _) tn)))) (mc rfl (.box rfl (.cons (.sc _) (.cons (.sc _) (.cons (.sc _) (.cons trR1 (.cons trR1 (.nil)))))) rfl) mn)) (fun s11 o11 hR hE11 => ?_) fun z12 hR => ?_
          · unfold stack_Check.l1 at hR
            refine AWP.sq ?_
            refine AWP.rgC 5 rfl rfl ?_
            refine pu (v := .sc _) rfl rfl (fun _ => rfl) ?_
            refine RunC.fin ?_
            refine AWP.sq ?_
            refine AWP.cd hR rfl (fun h13 hR => ?_) fun h13 hR => ?_
            · refine AWP.skip ?_
              refine skT ?_
              refine AWP.sq ?_
              refine AWP.block ?_
              refine AWP.sq ?_
              refine AWP.rgC 29 rfl rfl ?_
              refine pu (v := .sc _) rfl rfl (fun _ => rfl) ?_
              obtain ⟨h14, hR⟩ := chkE hR
              refine ixL (α := Bound) rfl rfl rfl ti28 rfl ti45 rfl h14 ?_
              refine ldR (v := .agg _) rfl rfl ti45 rfl ?_
              refine al (cs := [.sc (.int .i64 0), .sc (.int .i64 0), .sc (.bool false)]) 17 rfl rfl ti45 rfl rfl ?_
              refine pu (v := .sc _) rfl rfl (fun _ => rfl) ?_
              refine stB (cs' := [.sc (.int .i64 (gt s.At s11).Lo), .sc (.int .i64 (gt s.At s11).Hi), .sc (.bool (gt s.At s11).Unknown)]) rfl rfl rfl rfl ti45 rfl rfl rfl rfl rfl ?_
              refine RunC.fin ?_
              refine AWP.sq ?_
              refine AWP.sq ?_
              refine AWP.rgC 41 rfl rfl ?_
              refine ldB (v := .agg _) rfl rfl rfl rfl ti45 rfl rfl ?_
              obtain ⟨r15, hr15, hR⟩ := bindE hR
              refine cls [] rfl rfl cb26 (ok26 (gt s.At s11) _ hr15) (.cons (.agg (.cons (.sc _) (.cons (.sc _) (.cons (.sc _) (.nil)))) rfl) (.nil)) (.inr rfl) rfl ?_
              refine pu (v := .sc _) rfl rfl (fun _ => rfl) ?_
              refine RunC.fin ?_
              refine AWP.sq ?_
              refine AWP.rgC 49 rfl rfl ?_
              refine pu (v := .sc _) rfl rfl (fun _ => rfl) ?_
              refine pu (v := .sc _) rfl rfl (fun _ => rfl) ?_
              refine RunC.fin ?_
              refine AWP.cd hR rfl (fun h16 hR => ?_) fun h16 hR => ?_
              · refine AWP.sq ?_
                refine AWP.rgC 57 rfl rfl ?_
                refine pu (v := .sc _) rfl rfl (fun _ => rfl) ?_
                refine pu (v := .sc _) rfl rfl (fun _ => rfl) ?_
                refine RunC.fin ?_
                refine AWP.ret ?_
                refine rtT ?_
                refine rtB ?_
                refine rtT ?_
                refine rtT ?_
                refine rtB (rtT ?_)
                replace hR := escL hR hE11
                refine rtT ?_
                have hR := Option.some.inj hR; subst hR
                exact hQ _ _ (LS.mk [(2, .sc (.int .i64 r15))] (lblks 0 []) 0) (.sc (.int .i64 r15)) [] (.inr rfl) (Weak.turnL [] [] rfl rfl (tc (.sc _) tn) mn) (ro1 (rvT (v := .sc (.int .i64 r15)) rfl)) rfl rfl (.sc _) pn
              · refine AWP.skip ?_
                refine skT ?_
                refine AWP.sq ?_
                refine AWP.rgD 85 [0, 1, 0, 4, 0, 28, 60, 127, 255] ⟨[], [none, some [0], none, some [0], none, none, some [], none, none]⟩ hmix (by kernel_rfl) rfl rfl ?_
                refine fa rfl rfl ti33 rfl rfl ti3 rfl ?_
                refine ldB (v := .sc _) rfl rfl rfl rfl ti3 rfl rfl ?_
                refine fa rfl rfl ti33 rfl rfl ti22 rfl ?_
                refine ldB (v := rowV _ s.Holes) rfl rfl rfl rfl ti22 rfl rfl ?_
                refine pu (v := .sc _) rfl rfl (fun _ => rfl) ?_
                obtain ⟨h17, hR⟩ := chkE hR
                refine ixL (α := Int) rfl rfl rfl ti22 rfl ti3 rfl h17 ?_
                refine ldR (v := .sc _) rfl rfl ti3 rfl ?_
                refine pu (v := .sc _) rfl rfl (fun _ => rfl) ?_
                refine pu (v := .sc _) rfl rfl (fun _ => rfl) ?_
                refine RunC.fin ?_
                refine AWP.sq ?_
                refine AWP.rgC 97 rfl rfl ?_
                refine pu (v := .sc _) rfl rfl (fun _ => rfl) ?_
                refine pu (v := .sc _) rfl rfl (fun _ => rfl) ?_
                refine pu (v := .sc _) rfl rfl (fun _ => rfl) ?_
                refine RunC.fin ?_
                refine AWP.block ?_
                refine AWP.sq ?_
                refine AWP.rgC 109 rfl rfl ?_
                refine fa rfl rfl ti45 rfl rfl ti4 rfl ?_
                refine ldB (v := .sc _) rfl rfl rfl rfl ti4 rfl rfl ?_
                refine pu (v := .sc _) rfl rfl (fun _ => rfl) ?_
                refine RunC.fin ?_
                refine AWP.cd hR rfl (fun h18 hR => ?_) fun h18 hR => ?_
                · refine AWP.sq ?_
                  refine AWP.rgC 113 rfl rfl ?_
                  refine pu (v := .sc _) rfl rfl (fun _ => rfl) ?_
                  refine RunC.fin ?_
                  refine AWP.ret ?_
                  refine rtB ?_
                  refine rtB ?_
                  refine rtT ?_
                  refine rtT ?_
                  refine rtB (rtT ?_)
                  replace hR := escL hR hE11
                  refine rtT ?_
                  have hR := Option.some.inj hR; subst hR
                  exact hQ _ _ (LS.mk [(2, .sc (.int .i64 3))] (lblks 0 []) 0) (.sc (.int .i64 3)) [] (.inr rfl) (Weak.turnL [] [] rfl rfl (tc (.sc _) tn) mn) (ro1 (rvT (v := .sc (.int .i64 3)) rfl)) rfl rfl (.sc _) pn
                · refine AWP.joinX (fun z19 : Bool => LS.mk [(1, .ptr 0 0 0), (55, rowV (α := Bound) false s.At), (56, .sc (.int .i64 (s.At.length : Int))), (57, .sc (.int .i64 s11)), (80, .sc (.bool z19))] (lblks 0 [boxB (α := stack_Stack) false s]) 1) hR (fun o19 hR => ?_) fun z19 hR => ?_
                  · refine AWP.rgC 197 rfl rfl ?_
                    refine pu (v := .sc _) rfl rfl (fun _ => rfl) ?_
                    refine pu (v := .sc _) rfl rfl (fun _ => rfl) ?_
                    refine pu (v := .sc _) rfl rfl (fun _ => rfl) ?_
                    refine brR hR (fun h20 hR => ?_) fun h20 hR => ?_
                    · refine sk (skW rfl rfl rfl h20) ?_
                      refine sk (skW rfl rfl rfl h20) ?_
                      refine sk (skW rfl rfl rfl h20) ?_
                      refine sk (skW rfl rfl rfl h20) ?_
                      refine pkT (v := .sc (.bool true)) rfl rfl h20 rfl ?_
                      refine pu (v := .sc _) rfl rfl (fun _ => rfl) ?_
                      refine sk (skW rfl rfl rfl rfl) ?_
                      refine sk (skW rfl rfl rfl rfl) ?_
                      refine sk (skW rfl rfl rfl rfl) ?_
                      refine sk (skW rfl rfl rfl rfl) ?_
                      refine sk (skW rfl rfl rfl rfl) ?_
                      refine pkT (v := .sc (.bool true)) rfl rfl rfl rfl ?_
                      refine pu (v := .sc _) rfl rfl (fun _ => rfl) ?_
                      refine sk (skW rfl rfl rfl rfl) ?_
                      refine sk (skW rfl rfl rfl rfl) ?_
                      refine sk (skW rfl rfl rfl rfl) ?_
                      refine sk (skW rfl rfl rfl rfl) ?_
                      refine pkT (v := .sc (.bool true)) rfl rfl rfl rfl ?_
                      refine pu (v := .sc _) rfl rfl (fun _ => rfl) ?_
                      refine RunC.fin ?_
                      have hR := Option.some.inj hR; subst hR
                      exact Weak.turnL [(0, 0)] [] rfl rfl (tc (trP' rfl rfl rfl rfl) (tc trR1 (tc (.sc _) (tc (.sc _) (tc (.sc _) tn))))) (mc rfl (.box rfl (.cons (.sc _) (.cons (.sc _) (.cons (.sc _) (.cons trR1 (.cons trR1 (.nil)))))) rfl) mn)
                    · refine pu (v := .sc _) (wtG rfl rfl rfl h20) rfl (fun _ => rfl) ?_
                      refine fa (wtG rfl rfl rfl h20) rfl ti33 rfl rfl ti3 rfl ?_
                      refine ldB (v := .sc _) (wtG rfl rfl rfl h20) rfl rfl rfl ti3 rfl rfl ?_
                      refine pu (v := .sc _) (wtG rfl rfl rfl h20) rfl (fun _ => rfl) ?_
                      refine pkF (v := .sc (.bool (decide ((w6 (s.N - (gt s.Holes s11))) > s.N)))) rfl rfl h20 rfl ?_
                      refine pu (v := .sc _) rfl rfl (fun _ => rfl) ?_
                      refine brR hR (fun h21 hR => ?_) fun h21 hR => ?_
                      · refine sk (skW rfl rfl rfl h21) ?_
                        refine sk (skW rfl rfl rfl h21) ?_
                        refine sk (skW rfl rfl rfl h21) ?_
                        refine sk (skW rfl rfl rfl h21) ?_
                        refine sk (skW rfl rfl rfl h21) ?_
                        refine pkT (v := .sc (.bool true)) rfl rfl h21 rfl ?_
                        refine pu (v := .sc _) rfl rfl (fun _ => rfl) ?_
                        refine sk (skW rfl rfl rfl rfl) ?_
                        refine sk (skW rfl rfl rfl rfl) ?_
                        refine sk (skW rfl rfl rfl rfl) ?_
                        refine sk (skW rfl rfl rfl rfl) ?_
                        refine pkT (v := .sc (.bool true)) rfl rfl rfl rfl ?_
                        refine pu (v := .sc _) rfl rfl (fun _ => rfl) ?_
                        refine RunC.fin ?_
                        have hR := Option.some.inj hR; subst hR
                        exact Weak.turnL [(0, 0)] [] rfl rfl (tc (trP' rfl rfl rfl rfl) (tc trR1 (tc (.sc _) (tc (.sc _) (tc (.sc _) tn))))) (mc rfl (.box rfl (.cons (.sc _) (.cons (.sc _) (.cons (.sc _) (.cons trR1 (.cons trR1 (.nil)))))) rfl) mn)
                      · refine fa (wtG rfl rfl rfl h21) rfl ti45 rfl rfl ti43 rfl ?_
                        refine ldB (v := .sc _) (wtG rfl rfl rfl h21) rfl rfl rfl ti43 rfl rfl ?_
                        refine pu (v := .sc _) (wtG rfl rfl rfl h21) rfl (fun _ => rfl) ?_
                        obtain ⟨v22, ev22, hR⟩ := letE hR
                        refine pu (v := .sc _) (wtG rfl rfl rfl h21) rfl (fun _ => puI ev22) ?_
                        refine pu (v := .sc _) (wtG rfl rfl rfl h21) rfl (fun _ => rfl) ?_
                        refine pkF (v := .sc (.bool (decide ((gt s.At s11).Lo < v22)))) rfl rfl h21 rfl ?_
                        refine pu (v := .sc _) rfl rfl (fun _ => rfl) ?_
                        refine brR hR (fun h23 hR => ?_) fun h23 hR => ?_
                        · refine sk (skW rfl rfl rfl h23) ?_
                          refine sk (skW rfl rfl rfl h23) ?_
                          refine sk (skW rfl rfl rfl h23) ?_
                          refine sk (skW rfl rfl rfl h23) ?_
                          refine pkT (v := .sc (.bool true)) rfl rfl h23 rfl ?_
                          refine pu (v := .sc _) rfl rfl (fun _ => rfl) ?_
                          refine RunC.fin ?_
                          have hR := Option.some.inj hR; subst hR
                          exact Weak.turnL [(0, 0)] [] rfl rfl (tc (trP' rfl rfl rfl rfl) (tc trR1 (tc (.sc _) (tc (.sc _) (tc (.sc _) tn))))) (mc rfl (.box rfl (.cons (.sc _) (.cons (.sc _) (.cons (.sc _) (.cons trR1 (.cons trR1 (.nil)))))) rfl) mn)
                        · refine fa (wtG rfl rfl rfl h23) rfl ti45 rfl rfl ti43 rfl ?_
                          refine ldB (v := .sc _) (wtG rfl rfl rfl h23) rfl rfl rfl ti43 rfl rfl ?_
                          refine pu (v := .sc _) (wtG rfl rfl rfl h23) rfl (fun _ => rfl) ?_
                          obtain ⟨v24, ev24, hR⟩ := letE hR
                          refine pu (v := .sc _) (wtG rfl rfl rfl h23) rfl (fun _ => puB ev24) ?_
                          refine pkF (v := .sc (.bool v24)) rfl rfl h23 rfl ?_
                          refine pu (v := .sc _) rfl rfl (fun _ => rfl) ?_
                          refine RunC.fin ?_
                          have hR := Option.some.inj hR; subst hR
                          exact Weak.turnL [(0, 0)] [] rfl rfl (tc (trP' rfl rfl rfl rfl) (tc trR1 (tc (.sc _) (tc (.sc _) (tc (.sc _) tn))))) (mc rfl (.box rfl (.cons (.sc _) (.cons (.sc _) (.cons (.sc _) (.cons trR1 (.cons trR1 (.nil)))))) rfl) mn)
                  · refine AWP.cd hR rfl (fun h25 hR => ?_) fun h25 hR => ?_
                    · refine AWP.sq ?_
                      refine AWP.rgC 5 rfl rfl ?_
                      refine pu (v := .sc _) rfl rfl (fun _ => rfl) ?_
                      refine RunC.fin ?_
                      refine AWP.ret ?_
                      refine rtB ?_
                      refine rtB ?_
                      refine rtT ?_
                      refine rtT ?_
                      refine rtB (rtT ?_)
                      replace hR := escL hR hE11
                      refine rtT ?_
                      have hR := Option.some.inj hR; subst hR
                      exact hQ _ _ (LS.mk [(2, .sc (.int .i64 4))] (lblks 0 []) 0) (.sc (.int .i64 4)) [] (.inr rfl) (Weak.turnL [] [] rfl rfl (tc (.sc _) tn) mn) (ro1 (rvT (v := .sc (.int .i64 4)) rfl)) rfl rfl (.sc _) pn
                    · refine AWP.skip ?_
                      refine skB ?_
                      refine skB ?_
                      refine skT ?_
                      refine AWP.rgC 9 rfl rfl ?_
                      refine pu (v := .sc _) rfl rfl (fun _ => rfl) ?_
                      refine pu (v := .sc _) rfl rfl (fun _ => rfl) ?_
                      refine RunC.fin ?_
                      refine ⟨(w6 (s11 + 1)), (Option.some.inj hR).symm, ?_⟩
                      exact Weak.turnL [(0, 0)] [] rfl rfl (tc (trP' rfl rfl rfl rfl) (tc trR1 (tc (.sc _) (tc (.sc _) tn)))) (mc rfl (.box rfl (.cons (.sc _) (.cons (.sc _) (.cons (.sc _) (.cons trR1 (.cons trR1 (.nil)))))) rfl) mn)
            · refine AWP.exit ?_
              refine exT ?_
              refine exT ?_
              refine exH (skT ?_)
              refine ⟨(), (Option.some.inj hR).symm, ?_⟩
              exact Weak.turnL [] [] rfl rfl tn mn
          · refine skT ?_
            refine AWP.sq ?_
            refine AWP.rgC 4 rfl rfl ?_
            refine pu (v := .sc _) rfl rfl (fun _ => rfl) ?_
            refine RunC.fin ?_
            refine AWP.ret ?_
            have hR := Option.some.inj hR; subst hR
            exact hQ _ _ (LS.mk [(2, .sc (.int .i64 0))] (lblks 0 []) 0) (.sc (.int .i64 0)) [] (.inr rfl) (Weak.turnL [] [] rfl rfl (tc (.sc _) tn) mn) (ro1 (rvT (v := .sc (.int .i64 0)) rfl)) rfl rfl (.sc _) pn
theorem ok32 (i : Int) (p1 : stack_Stack) (r : Bound) (hR : stack_Total_1 i p1 = some r) : FnP Try.prog 32 [.sc (.int .i64 i), .rp (Cl.c false p1)] (aggV (α := Bound) true r) := by
  refine fnP_of (FnX.walk Try.func32 rfl 16 0 (by simp [Try.ntmps32]) rfl fun W S F Q hQ => ?_)
  unfold stack_Total_1 at hR
  refine AWP.sq ?_
  refine AWP.rgC 4 rfl rfl ?_
  refine al (cs := [.sc (.int .i64 0), .sc (.int .i64 0), .sc (.bool false)]) 0 rfl rfl ti45 rfl rfl ?_
  refine RunC.fin ?_
  refine AWP.sq ?_
  refine AWP.sq ?_
  refine AWP.rgC 28 rfl rfl ?_
  refine fr rfl rfl ti33 rfl rfl ti22 rfl ?_
  refine ldR (v := rowV _ p1.Holes) rfl rfl ti22 rfl ?_
  refine pu (v := .sc _) rfl rfl (fun _ => rfl) ?_
  obtain ⟨h1, hR⟩ := chkE hR
  refine ixL (α := Int) rfl rfl rfl ti22 rfl ti3 rfl h1 ?_
  refine ldR (v := .sc _) rfl rfl ti3 rfl ?_
  refine pu (v := .sc _) rfl rfl (fun _ => rfl) ?_
  refine RunC.fin ?_
  refine AWP.cd hR rfl (fun h2 hR => ?_) fun h2 hR => ?_
  · refine AWP.sq ?_
    refine AWP.rgC 36 rfl rfl ?_
    obtain ⟨r3, hr3, hR⟩ := bindE hR
    refine cls [] rfl rfl cb29 (ok29 _ hr3) (.nil) (.inr rfl) rfl ?_
    refine stB (cs' := [.sc (.int .i64 r3.Lo), .sc (.int .i64 r3.Hi), .sc (.bool r3.Unknown)]) rfl rfl rfl rfl ti45 rfl rfl rfl rfl rfl ?_
    refine RunC.fin ?_
    refine AWP.ret ?_
    refine rtT ?_
    have hR := Option.some.inj hR; subst hR
    exact hQ _ _ (LS.mk [(3, .ptr 0 0 0)] (lblks 0 [boxB (α := Bound) true r3]) 1) (aggV (α := Bound) true r3) [] (.inr rfl) (Weak.turnL [(0, 0)] [] rfl rfl (tc (trP' rfl rfl rfl rfl) tn) (mc rfl (.box rfl (.cons (.sc _) (.cons (.sc _) (.cons (.sc _) (.nil)))) rfl) mn)) (ro1 (rvC (v := aggV (α := Bound) true r3) rfl rfl ti45 rfl)) rfl rfl ldA pn
  · refine AWP.skip ?_
    refine skT ?_
    refine AWP.sq ?_
    refine AWP.rgC 52 rfl rfl ?_
    refine fr rfl rfl ti33 rfl rfl ti28 rfl ?_
    refine ldR (v := rowV _ p1.At) rfl rfl ti28 rfl ?_
    refine pu (v := .sc _) rfl rfl (fun _ => rfl) ?_
    obtain ⟨h4, hR⟩ := chkE hR
    refine ixL (α := Bound) rfl rfl rfl ti28 rfl ti45 rfl h4 ?_
    refine ldR (v := .agg _) rfl rfl ti45 rfl ?_
    refine stB (cs' := [.sc (.int .i64 (gt p1.At i).Lo), .sc (.int .i64 (gt p1.At i).Hi), .sc (.bool (gt p1.At i).Unknown)]) rfl rfl rfl rfl ti45 rfl rfl rfl rfl rfl ?_
    refine RunC.fin ?_
    refine AWP.ret ?_
    have hR := Option.some.inj hR; subst hR
    exact hQ _ _ (LS.mk [(3, .ptr 0 0 0)] (lblks 0 [boxB (α := Bound) true (gt p1.At i)]) 1) (aggV (α := Bound) true (gt p1.At i)) [] (.inr rfl) (Weak.turnL [(0, 0)] [] rfl rfl (tc (trP' rfl rfl rfl rfl) tn) (mc rfl (.box rfl (.cons (.sc _) (.cons (.sc _) (.cons (.sc _) (.nil)))) rfl) mn)) (ro1 (rvC (v := aggV (α := Bound) true (gt p1.At i)) rfl rfl ti45 rfl)) rfl rfl ldA pn
theorem ok31 (s : stack_Stack) (fc0 : stack_Stack) (r : Cells × Int) (hR : stack_each_stack_Total_1 s fc0 = some r) : FnP Try.prog 31 [aggV false s, .fn (.func 32) [.rp (Cl.c false fc0)]] (.tup [aggV (α := Cells) true r.1, .sc (.int .i64 r.2)]) := by
  refine fnP_of (FnX.walk Try.func31 rfl 36 0 (by simp [Try.ntmps31]) rfl fun W S F Q hQ => ?_)
  unfold stack_each_stack_Total_1 at hR
  refine AWP.sq ?_
  refine AWP.rgC 12 rfl rfl ?_
  refine bx (cs := _) 0 rfl rfl rfl ?_
  refine al (cs := [.sc (.int .i64 0), .sc (.int .i64 0), .sc (.slice none 0 0)]) 4 rfl rfl ti30 rfl rfl ?_
  refine pu (v := .sc _) rfl rfl (fun _ => rfl) ?_
  refine RunC.fin ?_
  refine AWP.sq ?_
  refine AWP.sq ?_
  refine AWP.rgC 24 rfl rfl ?_
  refine ldB (v := .agg _) rfl rfl rfl rfl ti33 rfl rfl ?_
  obtain ⟨r1, hr1, hR⟩ := bindE hR
  refine cls [] rfl rfl cb19 (ok19 s _ hr1) (.cons (.agg (.cons (.sc _) (.cons (.sc _) (.cons (.sc _) (.cons ldR' (.cons ldR' (.nil)))))) rfl) (.nil)) (.inr rfl) rfl ?_
  refine pu (v := .sc _) rfl rfl (fun _ => rfl) ?_
  refine RunC.fin ?_
  refine AWP.sq ?_
  refine AWP.rgC 32 rfl rfl ?_
  refine pu (v := .sc _) rfl rfl (fun _ => rfl) ?_
  refine pu (v := .sc _) rfl rfl (fun _ => rfl) ?_
  refine RunC.fin ?_
  refine AWP.cd hR rfl (fun h2 hR => ?_) fun h2 hR => ?_
  · refine AWP.sq ?_
    refine AWP.rgC 48 rfl rfl ?_
    refine bu (cs := [.sc (.int .i64 0), .sc (.int .i64 0), .sc (.slice none 0 0)]) rfl bt30 rfl ?_
    refine pu (v := .sc _) rfl rfl (fun _ => rfl) ?_
    refine stB (cs' := [.sc (.int .i64 0), .sc (.int .i64 0), .sc (.slice none 0 0)]) rfl rfl rfl rfl ti30 rfl rfl rfl rfl rfl ?_
    refine pu (v := .sc _) rfl rfl (fun _ => rfl) ?_
    refine RunC.fin ?_
    refine AWP.ret ?_
    refine rtT ?_
    have hR := Option.some.inj hR; subst hR
    exact hQ _ _ (LS.mk [(4, .ptr 0 0 0), (5, .sc (.int .i64 r1))] (lblks 0 [boxB (α := Cells) true (Cells.mk 0 0 [])]) 1) (.tup [aggV (α := Cells) true (Cells.mk 0 0 []), .sc (.int .i64 r1)]) [] (.inr rfl) (Weak.turnL [(4, 0)] [] rfl rfl (tc (trP' rfl rfl rfl rfl) (tc (.sc _) tn)) (mc rfl (.box rfl (.cons (.sc _) (.cons (.sc _) (.cons trN (.nil)))) rfl) mn)) (ro2 (rvC (v := aggV (α := Cells) true (Cells.mk 0 0 [])) rfl rfl ti30 rfl) (rvT (v := .sc (.int .i64 r1)) rfl)) rfl rfl (.tup (.cons ldA (.cons (.sc _) .nil))) pn
  · refine AWP.skip ?_
    refine skT ?_
    refine AWP.sq ?_
    refine AWP.rgC 60 rfl rfl ?_
    refine fa rfl rfl ti33 rfl rfl ti3 rfl ?_
    refine ldB (v := .sc _) rfl rfl rfl rfl ti3 rfl rfl ?_
    refine fa rfl rfl ti33 rfl rfl ti3 rfl ?_
    refine ldB (v := .sc _) rfl rfl rfl rfl ti3 rfl rfl ?_
    refine bu (cs := [.sc (.int .i64 s.W), .sc (.int .i64 s.H), .sc (.slice none 0 0)]) rfl bt30 rfl ?_
    refine al (cs := [.sc (.int .i64 0), .sc (.int .i64 0), .sc (.slice none 0 0)]) 52 rfl rfl ti30 rfl rfl ?_
    refine stB (cs' := [.sc (.int .i64 s.W), .sc (.int .i64 s.H), .sc (.slice none 0 0)]) rfl rfl rfl rfl ti30 rfl rfl rfl rfl rfl ?_
    refine RunC.fin ?_
    refine AWP.sq ?_
    refine AWP.sq ?_
    refine AWP.rgC 76 rfl rfl ?_
    refine fa rfl rfl ti33 rfl rfl ti28 rfl ?_
    refine ldB (v := rowV _ s.At) rfl rfl rfl rfl ti28 rfl rfl ?_
    refine lenL (α := Bound) rfl rfl ti28 rfl ?_
    refine pu (v := .sc _) rfl rfl (fun _ => rfl) ?_
    refine RunC.fin ?_
    refine AWP.nilB Bound 52 2 45 rfl rfl (cs' := [.sc (.int .i64 s.W), .sc (.int .i64 s.H), slV Bound 76 0 0 0]) rfl ?_
    refine AWP.loopJ (fun s3 : (List Bound) × Int => LS.mk [(1, .fn (.func 32) [.rp (Cl.c false (fc0 : stack_Stack))]), (4, .ptr 0 0 0), (7, .ptr 1 0 0), (22, .sc (.int .i64 (s.At.length : Int))), (23, .sc (.int .i64 s3.2))] (lblks 0 [.box [.sc (.int .i64 0), .sc (.int .i64 0), .sc (.slice none 0 0)], .box [.sc (.int .i64 s.W), .sc (.int .i64 s.H), slV Bound 2 0 0 s3.1.length], arrB (α := Bound) 45 0 true s3.1]) 3) (fun z4 : (List Bound) => LS.mk [(4, .ptr 0 0 0), (7, .ptr 1 0 0)] (lblks 0 [.box [.sc (.int .i64 0), .sc (.int .i64 0), .sc (.slice none 0 0)], .box [.sc (.int .i64 s.W), .sc (.int .i64 s.H), slV Bound 2 0 0 z4.length], arrB (α := Bound) 45 0 true z4]) 3) (stack_each_stack_Total_1.l1 s fc0) hR (s0 := (([] : List Bound), 0)) (Weak.turnL [(4, 0), (52, 0), (76, 0)] [] rfl rfl (tc (.fn (.cons (.rp (Cl.tr _ _ _ _ id) (Cl.leaf _ _)) (.nil))) (tc (trP' rfl rfl rfl rfl) (tc (trP' rfl rfl rfl rfl) (tc (.sc _) (tc (.sc _) tn))))) (mc rfl (.box rfl (.cons (.sc _) (.cons (.sc _) (.cons (.sc _) (.nil)))) rfl) (mc rfl (.box rfl (.cons (.sc _) (.cons (.sc _) (.cons (trS' rfl rfl rfl rfl rfl) (.nil)))) rfl) (mc rfl (btrA' rfl) mn)))) (fun s3 o3 hR => ?_) fun z4 hR => ?_
    · unfold stack_each_stack_Total_1.l1 at hR
      refine AWP.sq ?_
      refine AWP.rgC 7 rfl rfl ?_
      refine pu (v := .sc _) rfl rfl (fun _ => rfl) ?_
      refine RunC.fin ?_
      refine AWP.sq ?_
      refine AWP.cd hR rfl (fun h5 hR => ?_) fun h5 hR => ?_
      · refine AWP.skip ?_
        refine skT ?_
        refine AWP.sq ?_
        refine AWP.block ?_
        refine AWP.sq ?_
        refine AWP.rgC 15 rfl rfl ?_
        refine pu (v := .sc _) rfl rfl (fun _ => rfl) ?_
        refine pu (v := .sc _) rfl rfl (fun _ => rfl) ?_
        refine RunC.fin ?_
        refine AWP.rgD 51 [0, 1, 0, 0, 12, 28, 63, 127, 255] ⟨[], [none, some [1], none, none, none, none, some [2, 35], none, some [1]]⟩ hmix (by kernel_rfl) rfl rfl ?_
        refine fa rfl rfl ti30 rfl rfl ti28 rfl ?_
        refine ldB (v := slV Bound _ _ _ _) rfl rfl rfl rfl ti28 rfl rfl ?_
        refine pu (v := .fn _ _) rfl rfl (fun _ => rfl) ?_
        refine pu (v := .sc _) rfl rfl (fun _ => rfl) ?_
        obtain ⟨r6, hr6, hR⟩ := bindE hR
        refine cls [] rfl rfl cb32 (ok32 s3.2 fc0 _ hr6) (.cons (.sc _) (.cons (.rp (Cl.ld _ _ _) (Cl.leaf _ _)) (.nil))) (.inr rfl) rfl ?_
        refine bs (α := Bound) 35 true ([r6] : List Bound) rfl rfl ti28 rfl ti45 rfl rfl rfl rfl rfl ?_
        obtain ⟨h7, hR⟩ := chkE hR
        refine ap' (α := Bound) (nw := true) (xs := s3.1) (ys := ([r6] : List Bound)) rfl rfl rfl rfl (srcS' rfl rfl rfl) ti28 rfl ti45 rfl h7 rfl ?_
        refine fa rfl rfl ti30 rfl rfl ti28 rfl ?_
        refine stB (cs' := [.sc (.int .i64 s.W), .sc (.int .i64 s.H), slV Bound 2 1 0 (s3.1 ++ ([r6] : List Bound)).length]) rfl rfl rfl rfl ti28 rfl rfl rfl rfl rfl ?_
        refine RunC.blk ?_
        refine RunC.fin ?_
        refine AWP.rgC 59 rfl rfl ?_
        refine pu (v := .sc _) rfl rfl (fun _ => rfl) ?_
        refine pu (v := .sc _) rfl rfl (fun _ => rfl) ?_
        refine RunC.fin ?_
        refine ⟨(s3.1 ++ ([r6] : List Bound), w6 (s3.2 + 1)), (Option.some.inj hR).symm, ?_⟩
        exact Weak.turnL [(0, 0), (1, 0), (2, 0)] [] rfl rfl (tc (.fn (.cons (.rp (Cl.tr _ _ _ _ id) (Cl.leaf _ _)) (.nil))) (tc (trP' rfl rfl rfl rfl) (tc (trP' rfl rfl rfl rfl) (tc (.sc _) (tc (.sc _) tn))))) (mc rfl (.box rfl (.cons (.sc _) (.cons (.sc _) (.cons (.sc _) (.nil)))) rfl) (mc rfl (.box rfl (.cons (.sc _) (.cons (.sc _) (.cons (trS' rfl rfl rfl rfl rfl) (.nil)))) rfl) (mc rfl (btrA' rfl) mn)))
      · refine AWP.exit ?_
        refine exT ?_
        refine exT ?_
        refine exH (skT ?_)
        refine ⟨s3.1, (Option.some.inj hR).symm, ?_⟩
        exact Weak.turnL [(0, 0), (1, 0), (2, 0)] [] rfl rfl (tc (trP' rfl rfl rfl rfl) (tc (trP' rfl rfl rfl rfl) tn)) (mc rfl (.box rfl (.cons (.sc _) (.cons (.sc _) (.cons (.sc _) (.nil)))) rfl) (mc rfl (.box rfl (.cons (.sc _) (.cons (.sc _) (.cons (trS' rfl rfl rfl rfl rfl) (.nil)))) rfl) (mc rfl (btrA' rfl) mn)))
    · refine skT ?_
      refine AWP.sq ?_
      refine AWP.rgC 15 rfl rfl ?_
      refine ldB (v := .agg _) rfl rfl rfl rfl ti30 rfl rfl ?_
      refine stB (cs' := [.sc (.int .i64 s.W), .sc (.int .i64 s.H), slV Bound 2 0 0 z4.length]) rfl rfl rfl rfl ti30 rfl rfl rfl rfl rfl ?_
      refine pu (v := .sc _) rfl rfl (fun _ => rfl) ?_
      refine RunC.fin ?_
      refine AWP.ret ?_
      have hR := Option.some.inj hR; subst hR
      exact hQ _ _ (LS.mk [(4, .ptr 0 0 0), (5, .sc (.int .i64 0))] (lblks 0 [boxB (α := Cells) true (Cells.mk s.W s.H z4)]) 1) (.tup [aggV (α := Cells) true (Cells.mk s.W s.H z4), .sc (.int .i64 0)]) [] (.inr rfl) (Weak.turnL [(0, 0)] [2] rfl rfl (tc (trP' rfl rfl rfl rfl) (tc (.sc _) tn)) (mc rfl (.box rfl (.cons (.sc _) (.cons (.sc _) (.cons (trF' rfl rfl id rfl) (.nil)))) rfl) mn)) (ro2 (rvC (v := aggV (α := Cells) true (Cells.mk s.W s.H z4)) rfl rfl ti30 rfl) (rvT (v := .sc (.int .i64 0)) rfl)) rfl rfl (.tup (.cons ldA (.cons (.sc _) .nil))) pn
theorem ok27 (s : stack_Stack) (r : Cells × Int) (hR : stack_Total s = some r) : FnP Try.prog 27 [aggV false s] (.tup [aggV (α := Cells) true r.1, .sc (.int .i64 r.2)]) := by
  refine fnP_of (FnX.walk Try.func27 rfl 9 0 (by simp [Try.ntmps27]) rfl fun W S F Q hQ => ?_)
  unfold stack_Total at hR
  refine AWP.sq ?_
  refine AWP.rgC 12 rfl rfl ?_
  refine bx (cs := _) 0 rfl rfl rfl ?_
  refine al (cs := [.sc (.int .i64 0), .sc (.int .i64 0), .sc (.slice none 0 0)]) 4 rfl rfl ti30 rfl rfl ?_
  refine pu (v := .sc _) rfl rfl (fun _ => rfl) ?_
  refine RunC.fin ?_
  refine AWP.sq ?_
  refine AWP.rgC 40 rfl rfl ?_
  refine ldB (v := .agg _) rfl rfl rfl rfl ti33 rfl rfl ?_
  refine pu (v := .fn _ _) rfl rfl (fun _ => rfl) ?_
  obtain ⟨r1, hr1, hR⟩ := bindE hR
  refine cls [0] rfl rfl cb31 (ok31 s s _ hr1) (.cons (.agg (.cons (.sc _) (.cons (.sc _) (.cons (.sc _) (.cons ldR' (.cons ldR' (.nil)))))) rfl) (.cons (.fn (.cons (ldX rfl rfl (.cons (.sc _) (.cons (.sc _) (.cons (.sc _) (.cons ldR' (.cons ldR' (.nil)))))) rfl) (.nil))) (.nil))) (.inl (by first | rfl | exact freshR | exact freshA | (simp only [V.fresh, V.freshs, freshR, freshA, Bool.and_self]))) rfl ?_
  refine pu (v := .agg _) rfl rfl (fun _ => rfl) ?_
  refine pu (v := .sc _) rfl rfl (fun _ => rfl) ?_
  refine stB (cs' := [.sc (.int .i64 r1.1.W), .sc (.int .i64 r1.1.H), rowV (α := Bound) true r1.1.At]) rfl rfl rfl rfl ti30 rfl rfl rfl rfl rfl ?_
  refine pu (v := .sc _) rfl rfl (fun _ => rfl) ?_
  refine RunC.fin ?_
  refine AWP.ret ?_
  have hR := Option.some.inj hR; subst hR
  exact hQ _ _ (LS.mk [(2, .ptr 0 0 0), (3, .sc (.int .i64 r1.2))] (lblks 0 [boxB (α := Cells) true r1.1]) 1) (.tup [aggV (α := Cells) true r1.1, .sc (.int .i64 r1.2)]) [] (.inr rfl) (Weak.turnL [(4, 0)] [] rfl rfl (tc (trP' rfl rfl rfl rfl) (tc (.sc _) tn)) (mc rfl (.box rfl (.cons (.sc _) (.cons (.sc _) (.cons trR1 (.nil)))) rfl) mn)) (ro2 (rvC (v := aggV (α := Cells) true r1.1) rfl rfl ti30 rfl) (rvT (v := .sc (.int .i64 r1.2)) rfl)) rfl rfl (.tup (.cons ldA (.cons (.sc _) .nil))) pn
theorem ok25 (s : List Bound) (r : (List Bound)) (hR : slices_Clone_Bound s = some r) : FnP Try.prog 25 [rowV false s] (rowV (α := Bound) true r) := by
  refine fnP_of (FnX.walk Try.func25 rfl 8 0 (by simp [Try.ntmps25]) rfl fun W S F Q hQ => ?_)
  unfold slices_Clone_Bound at hR
  refine AWP.sq ?_
  refine AWP.rgC 4 rfl rfl ?_
  refine pu (v := .sc _) rfl rfl (fun _ => rfl) ?_
  refine RunC.fin ?_
  refine AWP.sq ?_
  refine AWP.joinX (fun z1 : Bool => LS.mk [(0, rowV (α := Bound) false s), (4, .sc (.bool z1))] (lblks 0 []) 0) hR (fun o1 hR => ?_) fun z1 hR => ?_
  · refine AWP.rgC 12 rfl rfl ?_
    refine pu (v := rowV _ s) rfl rfl (fun _ => rfl) ?_
    refine nilE hR rfl rfl rfl (by rw [ti28]; rfl) (fun hR h2 => ?_) fun hR => ?_
    · refine RunC.fin ?_
      have hR := Option.some.inj hR; subst hR
      exact Weak.turnL [] [] rfl rfl (tc trR1 (tc (.sc _) tn)) mn
    · refine RunC.fin ?_
      have hR := Option.some.inj hR; subst hR
      exact Weak.turnL [] [] rfl rfl (tc trR1 (tc (.sc _) tn)) mn
  · refine AWP.cd hR rfl (fun h3 hR => ?_) fun h3 hR => ?_
    · refine AWP.sq ?_
      refine AWP.rgC 4 rfl rfl ?_
      refine pu (v := .sc _) rfl rfl (fun _ => rfl) ?_
      refine RunC.fin ?_
      refine AWP.ret ?_
      refine rtT ?_
      have hR := Option.some.inj hR; subst hR
      exact hQ _ _ (LS.mk [(2, rowV (α := Bound) true [])] (lblks 0 []) 0) (rowV (α := Bound) true []) [] (.inr rfl) (Weak.turnL [] [] rfl rfl (tc trN tn) mn) (ro1 (rvT (v := rowV (α := Bound) true []) rfl)) rfl rfl ldR' pn
    · refine AWP.skip ?_
      refine skT ?_
      refine AWP.sq ?_
      refine AWP.rgC 16 rfl rfl ?_
      refine bs (α := Bound) 0 true ([] : List Bound) rfl rfl ti28 rfl ti45 rfl rfl rfl rfl rfl ?_
      refine pu (v := rowV _ s) rfl rfl (fun _ => rfl) ?_
      obtain ⟨h4, hR⟩ := chkE hR
      refine ap' (α := Bound) (nw := true) (xs := ([] : List Bound)) (ys := s) rfl rfl rfl rfl (srcR2 rfl (fun _ => rfl)) ti28 rfl ti45 rfl h4 rfl ?_
      refine pu (v := slV Bound _ _ _ _) rfl rfl (fun _ => rfl) ?_
      refine RunC.fin ?_
      refine AWP.ret ?_
      have hR := Option.some.inj hR; subst hR
      exact hQ _ _ (LS.mk [(2, rowV (α := Bound) true (([] : List Bound) ++ s))] (lblks 0 []) 0) (rowV (α := Bound) true (([] : List Bound) ++ s)) [] (.inr rfl) (Weak.turnL [] [0] rfl rfl (tc (trF' rfl rfl id rfl) tn) mn) (ro1 (rvT (v := rowV (α := Bound) true (([] : List Bound) ++ s)) rfl)) rfl rfl ldR' pn
theorem ok24 (s : List Int) (r : (List Int)) (hR : slices_Clone_Int s = some r) : FnP Try.prog 24 [rowV false s] (rowV (α := Int) true r) := by
  refine fnP_of (FnX.walk Try.func24 rfl 8 0 (by simp [Try.ntmps24]) rfl fun W S F Q hQ => ?_)
  unfold slices_Clone_Int at hR
  refine AWP.sq ?_
  refine AWP.rgC 4 rfl rfl ?_
  refine pu (v := .sc _) rfl rfl (fun _ => rfl) ?_
  refine RunC.fin ?_
  refine AWP.sq ?_
  refine AWP.joinX (fun z1 : Bool => LS.mk [(0, rowV (α := Int) false s), (4, .sc (.bool z1))] (lblks 0 []) 0) hR (fun o1 hR => ?_) fun z1 hR => ?_
  · refine AWP.rgC 12 rfl rfl ?_
    refine pu (v := rowV _ s) rfl rfl (fun _ => rfl) ?_
    refine nilE hR rfl rfl rfl (by rw [ti22]; rfl) (fun hR h2 => ?_) fun hR => ?_
    · refine RunC.fin ?_
      have hR := Option.some.inj hR; subst hR
      exact Weak.turnL [] [] rfl rfl (tc trR1 (tc (.sc _) tn)) mn
    · refine RunC.fin ?_
      have hR := Option.some.inj hR; subst hR
      exact Weak.turnL [] [] rfl rfl (tc trR1 (tc (.sc _) tn)) mn
  · refine AWP.cd hR rfl (fun h3 hR => ?_) fun h3 hR => ?_
    · refine AWP.sq ?_
      refine AWP.rgC 4 rfl rfl ?_
      refine pu (v := .sc _) rfl rfl (fun _ => rfl) ?_
      refine RunC.fin ?_
      refine AWP.ret ?_
      refine rtT ?_
      have hR := Option.some.inj hR; subst hR
      exact hQ _ _ (LS.mk [(2, rowV (α := Int) true [])] (lblks 0 []) 0) (rowV (α := Int) true []) [] (.inr rfl) (Weak.turnL [] [] rfl rfl (tc trN tn) mn) (ro1 (rvT (v := rowV (α := Int) true []) rfl)) rfl rfl ldR' pn
    · refine AWP.skip ?_
      refine skT ?_
      refine AWP.sq ?_
      refine AWP.rgC 16 rfl rfl ?_
      refine bs (α := Int) 0 true ([] : List Int) rfl rfl ti22 rfl ti3 rfl rfl rfl rfl rfl ?_
      refine pu (v := rowV _ s) rfl rfl (fun _ => rfl) ?_
      obtain ⟨h4, hR⟩ := chkE hR
      refine ap' (α := Int) (nw := true) (xs := ([] : List Int)) (ys := s) rfl rfl rfl rfl (srcR2 rfl (fun _ => rfl)) ti22 rfl ti3 rfl h4 rfl ?_
      refine pu (v := slV Int _ _ _ _) rfl rfl (fun _ => rfl) ?_
      refine RunC.fin ?_
      refine AWP.ret ?_
      have hR := Option.some.inj hR; subst hR
      exact hQ _ _ (LS.mk [(2, rowV (α := Int) true (([] : List Int) ++ s))] (lblks 0 []) 0) (rowV (α := Int) true (([] : List Int) ++ s)) [] (.inr rfl) (Weak.turnL [] [0] rfl rfl (tc (trF' rfl rfl id rfl) tn) mn) (ro1 (rvT (v := rowV (α := Int) true (([] : List Int) ++ s)) rfl)) rfl rfl ldR' pn
theorem ok23 (c : Cells) (r : Int) (hR : find_Check c = some r) : FnP Try.prog 23 [aggV false c] (.sc (.int .i64 r)) := by
  refine fnP_of (FnX.walk Try.func23 rfl 56 0 (by simp [Try.ntmps23]) rfl fun W S F Q hQ => ?_)
  unfold find_Check at hR
  refine AWP.sq ?_
  refine AWP.rgC 8 rfl rfl ?_
  refine bx (cs := _) 0 rfl rfl rfl ?_
  refine pu (v := .sc _) rfl rfl (fun _ => rfl) ?_
  refine RunC.fin ?_
  refine AWP.sq ?_
  refine AWP.joinX (fun z1 : Bool => LS.mk [(1, .ptr 0 0 0), (34, .sc (.bool z1))] (lblks 0 [boxB (α := Cells) false c]) 1) hR (fun o1 hR => ?_) fun z1 hR => ?_
  · refine AWP.rgC 124 rfl rfl ?_
    refine fa rfl rfl ti30 rfl rfl ti3 rfl ?_
    refine ldB (v := .sc _) rfl rfl rfl rfl ti3 rfl rfl ?_
    refine pu (v := .sc _) rfl rfl (fun _ => rfl) ?_
    refine pu (v := .sc _) rfl rfl (fun _ => rfl) ?_
    refine brR hR (fun h2 hR => ?_) fun h2 hR => ?_
    · refine sk (skW rfl rfl rfl h2) ?_
      refine sk (skW rfl rfl rfl h2) ?_
      refine sk (skW rfl rfl rfl h2) ?_
      refine pkT (v := .sc (.bool true)) rfl rfl h2 rfl ?_
      refine pu (v := .sc _) rfl rfl (fun _ => rfl) ?_
      refine sk (skW rfl rfl rfl rfl) ?_
      refine sk (skW rfl rfl rfl rfl) ?_
      refine sk (skW rfl rfl rfl rfl) ?_
      refine pkT (v := .sc (.bool true)) rfl rfl rfl rfl ?_
      refine pu (v := .sc _) rfl rfl (fun _ => rfl) ?_
      refine sk (skW rfl rfl rfl rfl) ?_
      refine sk (skW rfl rfl rfl rfl) ?_
      refine sk (skW rfl rfl rfl rfl) ?_
      refine pkT (v := .sc (.bool true)) rfl rfl rfl rfl ?_
      refine pu (v := .sc _) rfl rfl (fun _ => rfl) ?_
      refine sk (skW rfl rfl rfl rfl) ?_
      refine sk (skW rfl rfl rfl rfl) ?_
      refine sk (skW rfl rfl rfl rfl) ?_
      refine sk (skW rfl rfl rfl rfl) ?_
      refine sk (skW rfl rfl rfl rfl) ?_
      refine sk (skW rfl rfl rfl rfl) ?_
      refine sk (skW rfl rfl rfl rfl) ?_
      refine sk (skW rfl rfl rfl rfl) ?_
      refine sk (skW rfl rfl rfl rfl) ?_
      refine pkT (v := .sc (.bool true)) rfl rfl rfl rfl ?_
      refine RunC.fin ?_
      have hR := Option.some.inj hR; subst hR
      exact Weak.turnL [(0, 0)] [] rfl rfl (tc (trP' rfl rfl rfl rfl) (tc (.sc _) tn)) (mc rfl (.box rfl (.cons (.sc _) (.cons (.sc _) (.cons trR1 (.nil)))) rfl) mn)
    · refine fa (wtG rfl rfl rfl h2) rfl ti30 rfl rfl ti3 rfl ?_
      refine ldB (v := .sc _) (wtG rfl rfl rfl h2) rfl rfl rfl ti3 rfl rfl ?_
      refine pu (v := .sc _) (wtG rfl rfl rfl h2) rfl (fun _ => rfl) ?_
      refine pkF (v := .sc (.bool (decide (c.W > 32)))) rfl rfl h2 rfl ?_
      refine pu (v := .sc _) rfl rfl (fun _ => rfl) ?_
      refine brR hR (fun h3 hR => ?_) fun h3 hR => ?_
      · refine sk (skW rfl rfl rfl h3) ?_
        refine sk (skW rfl rfl rfl h3) ?_
        refine sk (skW rfl rfl rfl h3) ?_
        refine pkT (v := .sc (.bool true)) rfl rfl h3 rfl ?_
        refine pu (v := .sc _) rfl rfl (fun _ => rfl) ?_
        refine sk (skW rfl rfl rfl rfl) ?_
        refine sk (skW rfl rfl rfl rfl) ?_
        refine sk (skW rfl rfl rfl rfl) ?_
        refine pkT (v := .sc (.bool true)) rfl rfl rfl rfl ?_
        refine pu (v := .sc _) rfl rfl (fun _ => rfl) ?_
        refine sk (skW rfl rfl rfl rfl) ?_
        refine sk (skW rfl rfl rfl rfl) ?_
        refine sk (skW rfl rfl rfl rfl) ?_
        refine sk (skW rfl rfl rfl rfl) ?_
        refine sk (skW rfl rfl rfl rfl) ?_
        refine sk (skW rfl rfl rfl rfl) ?_
        refine sk (skW rfl rfl rfl rfl) ?_
        refine sk (skW rfl rfl rfl rfl) ?_
        refine sk (skW rfl rfl rfl rfl) ?_
        refine pkT (v := .sc (.bool true)) rfl rfl rfl rfl ?_
        refine RunC.fin ?_
        have hR := Option.some.inj hR; subst hR
        exact Weak.turnL [(0, 0)] [] rfl rfl (tc (trP' rfl rfl rfl rfl) (tc (.sc _) tn)) (mc rfl (.box rfl (.cons (.sc _) (.cons (.sc _) (.cons trR1 (.nil)))) rfl) mn)
      · refine fa (wtG rfl rfl rfl h3) rfl ti30 rfl rfl ti3 rfl ?_
        refine ldB (v := .sc _) (wtG rfl rfl rfl h3) rfl rfl rfl ti3 rfl rfl ?_
        refine pu (v := .sc _) (wtG rfl rfl rfl h3) rfl (fun _ => rfl) ?_
        refine pkF (v := .sc (.bool (decide (c.H < 1)))) rfl rfl h3 rfl ?_
        refine pu (v := .sc _) rfl rfl (fun _ => rfl) ?_
        refine brR hR (fun h4 hR => ?_) fun h4 hR => ?_
        · refine sk (skW rfl rfl rfl h4) ?_
          refine sk (skW rfl rfl rfl h4) ?_
          refine sk (skW rfl rfl rfl h4) ?_
          refine pkT (v := .sc (.bool true)) rfl rfl h4 rfl ?_
          refine pu (v := .sc _) rfl rfl (fun _ => rfl) ?_
          refine sk (skW rfl rfl rfl rfl) ?_
          refine sk (skW rfl rfl rfl rfl) ?_
          refine sk (skW rfl rfl rfl rfl) ?_
          refine sk (skW rfl rfl rfl rfl) ?_
          refine sk (skW rfl rfl rfl rfl) ?_
          refine sk (skW rfl rfl rfl rfl) ?_
          refine sk (skW rfl rfl rfl rfl) ?_
          refine sk (skW rfl rfl rfl rfl) ?_
          refine sk (skW rfl rfl rfl rfl) ?_
          refine pkT (v := .sc (.bool true)) rfl rfl rfl rfl ?_
          refine RunC.fin ?_
          have hR := Option.some.inj hR; subst hR
          exact Weak.turnL [(0, 0)] [] rfl rfl (tc (trP' rfl rfl rfl rfl) (tc (.sc _) tn)) (mc rfl (.box rfl (.cons (.sc _) (.cons (.sc _) (.cons trR1 (.nil)))) rfl) mn)
        · refine fa (wtG rfl rfl rfl h4) rfl ti30 rfl rfl ti3 rfl ?_
          refine ldB (v := .sc _) (wtG rfl rfl rfl h4) rfl rfl rfl ti3 rfl rfl ?_
          refine pu (v := .sc _) (wtG rfl rfl rfl h4) rfl (fun _ => rfl) ?_
          refine pkF (v := .sc (.bool (decide (c.H > 32)))) rfl rfl h4 rfl ?_
          refine pu (v := .sc _) rfl rfl (fun _ => rfl) ?_
          refine brR hR (fun h5 hR => ?_) fun h5 hR => ?_
          · refine sk (skW rfl rfl rfl h5) ?_
            refine sk (skW rfl rfl rfl h5) ?_
            refine sk (skW rfl rfl rfl h5) ?_
            refine sk (skW rfl rfl rfl h5) ?_
            refine sk (skW rfl rfl rfl h5) ?_
            refine sk (skW rfl rfl rfl h5) ?_
            refine sk (skW rfl rfl rfl h5) ?_
            refine sk (skW rfl rfl rfl h5) ?_
            refine sk (skW rfl rfl rfl h5) ?_
            refine pkT (v := .sc (.bool true)) rfl rfl h5 rfl ?_
            refine RunC.fin ?_
            have hR := Option.some.inj hR; subst hR
            exact Weak.turnL [(0, 0)] [] rfl rfl (tc (trP' rfl rfl rfl rfl) (tc (.sc _) tn)) (mc rfl (.box rfl (.cons (.sc _) (.cons (.sc _) (.cons trR1 (.nil)))) rfl) mn)
          · refine fa (wtG rfl rfl rfl h5) rfl ti30 rfl rfl ti28 rfl ?_
            refine ldB (v := rowV _ c.At) (wtG rfl rfl rfl h5) rfl rfl rfl ti28 rfl rfl ?_
            refine lenL (α := Bound) (wtG rfl rfl rfl h5) rfl ti28 rfl ?_
            refine fa (wtG rfl rfl rfl h5) rfl ti30 rfl rfl ti3 rfl ?_
            refine ldB (v := .sc _) (wtG rfl rfl rfl h5) rfl rfl rfl ti3 rfl rfl ?_
            refine fa (wtG rfl rfl rfl h5) rfl ti30 rfl rfl ti3 rfl ?_
            refine ldB (v := .sc _) (wtG rfl rfl rfl h5) rfl rfl rfl ti3 rfl rfl ?_
            refine pu (v := .sc _) (wtG rfl rfl rfl h5) rfl (fun _ => rfl) ?_
            refine pu (v := .sc _) (wtG rfl rfl rfl h5) rfl (fun _ => rfl) ?_
            refine pkF (v := .sc (.bool ((c.At.length : Int) != (w6 (c.W * c.H))))) rfl rfl h5 rfl ?_
            refine RunC.fin ?_
            have hR := Option.some.inj hR; subst hR
            exact Weak.turnL [(0, 0)] [] rfl rfl (tc (trP' rfl rfl rfl rfl) (tc (.sc _) tn)) (mc rfl (.box rfl (.cons (.sc _) (.cons (.sc _) (.cons trR1 (.nil)))) rfl) mn)
  · refine AWP.cd hR rfl (fun h6 hR => ?_) fun h6 hR => ?_
    · refine AWP.sq ?_
      refine AWP.rgC 5 rfl rfl ?_
      refine pu (v := .sc _) rfl rfl (fun _ => rfl) ?_
      refine RunC.fin ?_
      refine AWP.ret ?_
      refine rtT ?_
      have hR := Option.some.inj hR; subst hR
      exact hQ _ _ (LS.mk [(2, .sc (.int .i64 3))] (lblks 0 []) 0) (.sc (.int .i64 3)) [] (.inr rfl) (Weak.turnL [] [] rfl rfl (tc (.sc _) tn) mn) (ro1 (rvT (v := .sc (.int .i64 3)) rfl)) rfl rfl (.sc _) pn
    · refine AWP.skip ?_
      refine skT ?_
      refine AWP.sq ?_
      refine AWP.sq ?_
      refine AWP.rgC 17 rfl rfl ?_
      refine fa rfl rfl ti30 rfl rfl ti28 rfl ?_
      refine ldB (v := rowV _ c.At) rfl rfl rfl rfl ti28 rfl rfl ?_
      refine lenL (α := Bound) rfl rfl ti28 rfl ?_
      refine pu (v := .sc _) rfl rfl (fun _ => rfl) ?_
      refine RunC.fin ?_
      refine AWP.loopK' (fun s7 : Int => LS.mk [(36, rowV (α := Bound) false c.At), (37, .sc (.int .i64 (c.At.length : Int))), (38, .sc (.int .i64 s7))] (lblks 0 []) 0) (fun z8 : Unit => LS.mk [] (lblks 0 []) 0) (find_Check.l1 c) hR (s0 := 0) (Weak.turnL [] [] rfl rfl (tc trR1 (tc (.sc _) (tc (.sc _) tn))) mn) (fun s7 o7 hR hE7 => ?_) fun z8 hR => ?_
      · unfold find_Check.l1 at hR
        refine AWP.sq ?_
        refine AWP.rgC 4 rfl rfl ?_
        refine pu (v := .sc _) rfl rfl (fun _ => rfl) ?_
        refine RunC.fin ?_
        refine AWP.sq ?_
        refine AWP.cd hR rfl (fun h9 hR => ?_) fun h9 hR => ?_
        · refine AWP.skip ?_
          refine skT ?_
          refine AWP.sq ?_
          refine AWP.block ?_
          refine AWP.sq ?_
          refine AWP.rgC 20 rfl rfl ?_
          obtain ⟨h10, hR⟩ := chkE hR
          refine ixL (α := Bound) rfl rfl rfl ti28 rfl ti45 rfl h10 ?_
          refine ldR (v := .agg _) rfl rfl ti45 rfl ?_
          refine al (cs := [.sc (.int .i64 0), .sc (.int .i64 0), .sc (.bool false)]) 12 rfl rfl ti45 rfl rfl ?_
          refine stB (cs' := [.sc (.int .i64 (gt c.At s7).Lo), .sc (.int .i64 (gt c.At s7).Hi), .sc (.bool (gt c.At s7).Unknown)]) rfl rfl rfl rfl ti45 rfl rfl rfl rfl rfl ?_
          refine RunC.fin ?_
          refine AWP.sq ?_
          refine AWP.sq ?_
          refine AWP.rgC 32 rfl rfl ?_
          refine ldB (v := .agg _) rfl rfl rfl rfl ti45 rfl rfl ?_
          obtain ⟨r11, hr11, hR⟩ := bindE hR
          refine cls [] rfl rfl cb26 (ok26 (gt c.At s7) _ hr11) (.cons (.agg (.cons (.sc _) (.cons (.sc _) (.cons (.sc _) (.nil)))) rfl) (.nil)) (.inr rfl) rfl ?_
          refine pu (v := .sc _) rfl rfl (fun _ => rfl) ?_
          refine RunC.fin ?_
          refine AWP.sq ?_
          refine AWP.rgC 40 rfl rfl ?_
          refine pu (v := .sc _) rfl rfl (fun _ => rfl) ?_
          refine pu (v := .sc _) rfl rfl (fun _ => rfl) ?_
          refine RunC.fin ?_
          refine AWP.cd hR rfl (fun h12 hR => ?_) fun h12 hR => ?_
          · refine AWP.sq ?_
            refine AWP.rgC 48 rfl rfl ?_
            refine pu (v := .sc _) rfl rfl (fun _ => rfl) ?_
            refine pu (v := .sc _) rfl rfl (fun _ => rfl) ?_
            refine RunC.fin ?_
            refine AWP.ret ?_
            refine rtT ?_
            refine rtB ?_
            refine rtT ?_
            refine rtT ?_
            refine rtB (rtT ?_)
            replace hR := escL hR hE7
            refine rtT ?_
            have hR := Option.some.inj hR; subst hR
            exact hQ _ _ (LS.mk [(2, .sc (.int .i64 r11))] (lblks 0 []) 0) (.sc (.int .i64 r11)) [] (.inr rfl) (Weak.turnL [] [] rfl rfl (tc (.sc _) tn) mn) (ro1 (rvT (v := .sc (.int .i64 r11)) rfl)) rfl rfl (.sc _) pn
          · refine AWP.skip ?_
            refine skT ?_
            refine AWP.joinX (fun z13 : Bool => LS.mk [(36, rowV (α := Bound) false c.At), (37, .sc (.int .i64 (c.At.length : Int))), (38, .sc (.int .i64 s7)), (54, .sc (.bool z13))] (lblks 0 []) 0) hR (fun o13 hR => ?_) fun z13 hR => ?_
            · refine AWP.rgC 72 rfl rfl ?_
              refine fa rfl rfl ti45 rfl rfl ti43 rfl ?_
              refine ldB (v := .sc _) rfl rfl rfl rfl ti43 rfl rfl ?_
              refine pu (v := .sc _) rfl rfl (fun _ => rfl) ?_
              refine pu (v := .sc _) rfl rfl (fun _ => rfl) ?_
              refine brR hR (fun h14 hR => ?_) fun h14 hR => ?_
              · refine sk (skW rfl rfl rfl h14) ?_
                refine sk (skW rfl rfl rfl h14) ?_
                refine sk (skW rfl rfl rfl h14) ?_
                refine pkT (v := .sc (.bool true)) rfl rfl h14 rfl ?_
                refine RunC.fin ?_
                have hR := Option.some.inj hR; subst hR
                exact Weak.turnL [] [] rfl rfl (tc trR1 (tc (.sc _) (tc (.sc _) (tc (.sc _) tn)))) mn
              · refine fa (wtG rfl rfl rfl h14) rfl ti45 rfl rfl ti43 rfl ?_
                refine ldB (v := .sc _) (wtG rfl rfl rfl h14) rfl rfl rfl ti43 rfl rfl ?_
                refine pu (v := .sc _) (wtG rfl rfl rfl h14) rfl (fun _ => rfl) ?_
                refine pkF (v := .sc (.bool (decide ((gt c.At s7).Hi > 1099511627776)))) rfl rfl h14 rfl ?_
                refine RunC.fin ?_
                have hR := Option.some.inj hR; subst hR
                exact Weak.turnL [] [] rfl rfl (tc trR1 (tc (.sc _) (tc (.sc _) (tc (.sc _) tn)))) mn
            · refine AWP.cd hR rfl (fun h15 hR => ?_) fun h15 hR => ?_
              · refine AWP.sq ?_
                refine AWP.rgC 4 rfl rfl ?_
                refine pu (v := .sc _) rfl rfl (fun _ => rfl) ?_
                refine RunC.fin ?_
                refine AWP.ret ?_
                refine rtB ?_
                refine rtT ?_
                refine rtT ?_
                refine rtB (rtT ?_)
                replace hR := escL hR hE7
                refine rtT ?_
                have hR := Option.some.inj hR; subst hR
                exact hQ _ _ (LS.mk [(2, .sc (.int .i64 4))] (lblks 0 []) 0) (.sc (.int .i64 4)) [] (.inr rfl) (Weak.turnL [] [] rfl rfl (tc (.sc _) tn) mn) (ro1 (rvT (v := .sc (.int .i64 4)) rfl)) rfl rfl (.sc _) pn
              · refine AWP.skip ?_
                refine skB ?_
                refine skT ?_
                refine AWP.rgC 8 rfl rfl ?_
                refine pu (v := .sc _) rfl rfl (fun _ => rfl) ?_
                refine pu (v := .sc _) rfl rfl (fun _ => rfl) ?_
                refine RunC.fin ?_
                refine ⟨(w6 (s7 + 1)), (Option.some.inj hR).symm, ?_⟩
                exact Weak.turnL [] [] rfl rfl (tc trR1 (tc (.sc _) (tc (.sc _) tn))) mn
        · refine AWP.exit ?_
          refine exT ?_
          refine exT ?_
          refine exH (skT ?_)
          refine ⟨(), (Option.some.inj hR).symm, ?_⟩
          exact Weak.turnL [] [] rfl rfl tn mn
      · refine skT ?_
        refine AWP.sq ?_
        refine AWP.rgC 4 rfl rfl ?_
        refine pu (v := .sc _) rfl rfl (fun _ => rfl) ?_
        refine RunC.fin ?_
        refine AWP.ret ?_
        have hR := Option.some.inj hR; subst hR
        exact hQ _ _ (LS.mk [(2, .sc (.int .i64 0))] (lblks 0 []) 0) (.sc (.int .i64 0)) [] (.inr rfl) (Weak.turnL [] [] rfl rfl (tc (.sc _) tn) mn) (ro1 (rvT (v := .sc (.int .i64 0)) rfl)) rfl rfl (.sc _) pn
theorem ok22 (a : Bound) (b : Bound) (r : Bound) (hR : bound_Add a b = some r) : FnP Try.prog 22 [aggV false a, aggV false b] (aggV (α := Bound) true r) := by
  refine fnP_of (FnX.walk Try.func22 rfl 20 0 (by simp [Try.ntmps22]) rfl fun W S F Q hQ => ?_)
  unfold bound_Add at hR
  refine AWP.sq ?_
  refine AWP.rgC 12 rfl rfl ?_
  refine bx (cs := _) 0 rfl rfl rfl ?_
  refine bx (cs := _) 4 rfl rfl rfl ?_
  refine al (cs := [.sc (.int .i64 0), .sc (.int .i64 0), .sc (.bool false)]) 8 rfl rfl ti45 rfl rfl ?_
  refine RunC.fin ?_
  refine AWP.sq ?_
  refine AWP.sq ?_
  refine AWP.rgC 24 rfl rfl ?_
  refine ldB (v := .agg _) rfl rfl rfl rfl ti45 rfl rfl ?_
  refine ldB (v := .agg _) rfl rfl rfl rfl ti45 rfl rfl ?_
  obtain ⟨r1, hr1, hR⟩ := bindE hR
  refine cls [] rfl rfl cb28 (ok28 a b _ hr1) (.cons (.agg (.cons (.sc _) (.cons (.sc _) (.cons (.sc _) (.nil)))) rfl) (.cons (.agg (.cons (.sc _) (.cons (.sc _) (.cons (.sc _) (.nil)))) rfl) (.nil))) (.inr rfl) rfl ?_
  refine RunC.fin ?_
  refine AWP.cd hR rfl (fun h2 hR => ?_) fun h2 hR => ?_
  · refine AWP.sq ?_
    refine AWP.rgC 32 rfl rfl ?_
    obtain ⟨r3, hr3, hR⟩ := bindE hR
    refine cls [] rfl rfl cb29 (ok29 _ hr3) (.nil) (.inr rfl) rfl ?_
    refine stB (cs' := [.sc (.int .i64 r3.Lo), .sc (.int .i64 r3.Hi), .sc (.bool r3.Unknown)]) rfl rfl rfl rfl ti45 rfl rfl rfl rfl rfl ?_
    refine RunC.fin ?_
    refine AWP.ret ?_
    refine rtT ?_
    have hR := Option.some.inj hR; subst hR
    exact hQ _ _ (LS.mk [(4, .ptr 0 0 0)] (lblks 0 [boxB (α := Bound) true r3]) 1) (aggV (α := Bound) true r3) [] (.inr rfl) (Weak.turnL [(8, 0)] [] rfl rfl (tc (trP' rfl rfl rfl rfl) tn) (mc rfl (.box rfl (.cons (.sc _) (.cons (.sc _) (.cons (.sc _) (.nil)))) rfl) mn)) (ro1 (rvC (v := aggV (α := Bound) true r3) rfl rfl ti45 rfl)) rfl rfl ldA pn
  · refine AWP.skip ?_
    refine skT ?_
    refine AWP.sq ?_
    refine AWP.rgC 72 rfl rfl ?_
    refine fa rfl rfl ti45 rfl rfl ti43 rfl ?_
    refine ldB (v := .sc _) rfl rfl rfl rfl ti43 rfl rfl ?_
    refine fa rfl rfl ti45 rfl rfl ti43 rfl ?_
    refine ldB (v := .sc _) rfl rfl rfl rfl ti43 rfl rfl ?_
    refine pu (v := .sc _) rfl rfl (fun _ => rfl) ?_
    refine fa rfl rfl ti45 rfl rfl ti43 rfl ?_
    refine ldB (v := .sc _) rfl rfl rfl rfl ti43 rfl rfl ?_
    refine fa rfl rfl ti45 rfl rfl ti43 rfl ?_
    refine ldB (v := .sc _) rfl rfl rfl rfl ti43 rfl rfl ?_
    refine pu (v := .sc _) rfl rfl (fun _ => rfl) ?_
    obtain ⟨r4, hr4, hR⟩ := bindE hR
    refine cls [] rfl rfl cb30 (ok30 (w6 (a.Lo + b.Lo)) (w6 (a.Hi + b.Hi)) _ hr4) (.cons (.sc _) (.cons (.sc _) (.nil))) (.inr rfl) rfl ?_
    refine stB (cs' := [.sc (.int .i64 r4.Lo), .sc (.int .i64 r4.Hi), .sc (.bool r4.Unknown)]) rfl rfl rfl rfl ti45 rfl rfl rfl rfl rfl ?_
    refine RunC.fin ?_
    refine AWP.ret ?_
    have hR := Option.some.inj hR; subst hR
    exact hQ _ _ (LS.mk [(4, .ptr 0 0 0)] (lblks 0 [boxB (α := Bound) true r4]) 1) (aggV (α := Bound) true r4) [] (.inr rfl) (Weak.turnL [(8, 0)] [] rfl rfl (tc (trP' rfl rfl rfl rfl) tn) (mc rfl (.box rfl (.cons (.sc _) (.cons (.sc _) (.cons (.sc _) (.nil)))) rfl) mn)) (ro1 (rvC (v := aggV (α := Bound) true r4) rfl rfl ti45 rfl)) rfl rfl ldA pn
theorem ok15 (w : Int) (h : Int) (r : stack_Stack × Int) (hR : stack_New w h = some r) : FnP Try.prog 15 [.sc (.int .i64 w), .sc (.int .i64 h)] (.tup [aggV (α := stack_Stack) true r.1, .sc (.int .i64 r.2)]) := by
  refine fnP_of (FnX.walk Try.func15 rfl 32 0 (by simp [Try.ntmps15]) rfl fun W S F Q hQ => ?_)
  unfold stack_New at hR
  refine AWP.sq ?_
  refine AWP.rgC 8 rfl rfl ?_
  refine al (cs := [.sc (.int .i64 0), .sc (.int .i64 0), .sc (.int .i64 0), .sc (.slice none 0 0), .sc (.slice none 0 0)]) 0 rfl rfl ti33 rfl rfl ?_
  refine pu (v := .sc _) rfl rfl (fun _ => rfl) ?_
  refine RunC.fin ?_
  refine AWP.sq ?_
  refine AWP.joinX (fun z1 : Bool => LS.mk [(0, .sc (.int .i64 w)), (1, .sc (.int .i64 h)), (4, .ptr 0 0 0), (19, .sc (.bool z1))] (lblks 0 [.box [.sc (.int .i64 0), .sc (.int .i64 0), .sc (.int .i64 0), .sc (.slice none 0 0), .sc (.slice none 0 0)]]) 1) hR (fun o1 hR => ?_) fun z1 hR => ?_
  · refine AWP.rgC 64 rfl rfl ?_
    refine pu (v := .sc _) rfl rfl (fun _ => rfl) ?_
    refine pu (v := .sc _) rfl rfl (fun _ => rfl) ?_
    refine pu (v := .sc _) rfl rfl (fun _ => rfl) ?_
    refine brR hR (fun h2 hR => ?_) fun h2 hR => ?_
    · refine sk (skW rfl rfl rfl h2) ?_
      refine sk (skW rfl rfl rfl h2) ?_
      refine pkT (v := .sc (.bool true)) rfl rfl h2 rfl ?_
      refine pu (v := .sc _) rfl rfl (fun _ => rfl) ?_
      refine sk (skW rfl rfl rfl rfl) ?_
      refine sk (skW rfl rfl rfl rfl) ?_
      refine pkT (v := .sc (.bool true)) rfl rfl rfl rfl ?_
      refine pu (v := .sc _) rfl rfl (fun _ => rfl) ?_
      refine sk (skW rfl rfl rfl rfl) ?_
      refine sk (skW rfl rfl rfl rfl) ?_
      refine pkT (v := .sc (.bool true)) rfl rfl rfl rfl ?_
      refine RunC.fin ?_
      have hR := Option.some.inj hR; subst hR
      exact Weak.turnL [(0, 0)] [] rfl rfl (tc (.sc _) (tc (.sc _) (tc (trP' rfl rfl rfl rfl) (tc (.sc _) tn)))) (mc rfl (.box rfl (.cons (.sc _) (.cons (.sc _) (.cons (.sc _) (.cons (.sc _) (.cons (.sc _) (.nil)))))) rfl) mn)
    · refine pu (v := .sc _) (wtG rfl rfl rfl h2) rfl (fun _ => rfl) ?_
      refine pu (v := .sc _) (wtG rfl rfl rfl h2) rfl (fun _ => rfl) ?_
      refine pkF (v := .sc (.bool (decide (w > 32)))) rfl rfl h2 rfl ?_
      refine pu (v := .sc _) rfl rfl (fun _ => rfl) ?_
      refine brR hR (fun h3 hR => ?_) fun h3 hR => ?_
      · refine sk (skW rfl rfl rfl h3) ?_
        refine sk (skW rfl rfl rfl h3) ?_
        refine pkT (v := .sc (.bool true)) rfl rfl h3 rfl ?_
        refine pu (v := .sc _) rfl rfl (fun _ => rfl) ?_
        refine sk (skW rfl rfl rfl rfl) ?_
        refine sk (skW rfl rfl rfl rfl) ?_
        refine pkT (v := .sc (.bool true)) rfl rfl rfl rfl ?_
        refine RunC.fin ?_
        have hR := Option.some.inj hR; subst hR
        exact Weak.turnL [(0, 0)] [] rfl rfl (tc (.sc _) (tc (.sc _) (tc (trP' rfl rfl rfl rfl) (tc (.sc _) tn)))) (mc rfl (.box rfl (.cons (.sc _) (.cons (.sc _) (.cons (.sc _) (.cons (.sc _) (.cons (.sc _) (.nil)))))) rfl) mn)
      · refine pu (v := .sc _) (wtG rfl rfl rfl h3) rfl (fun _ => rfl) ?_
        refine pu (v := .sc _) (wtG rfl rfl rfl h3) rfl (fun _ => rfl) ?_
        refine pkF (v := .sc (.bool (decide (h < 1)))) rfl rfl h3 rfl ?_
        refine pu (v := .sc _) rfl rfl (fun _ => rfl) ?_
        refine brR hR (fun h4 hR => ?_) fun h4 hR => ?_
        · refine sk (skW rfl rfl rfl h4) ?_
          refine sk (skW rfl rfl rfl h4) ?_
          refine pkT (v := .sc (.bool true)) rfl rfl h4 rfl ?_
          refine RunC.fin ?_
          have hR := Option.some.inj hR; subst hR
          exact Weak.turnL [(0, 0)] [] rfl rfl (tc (.sc _) (tc (.sc _) (tc (trP' rfl rfl rfl rfl) (tc (.sc _) tn)))) (mc rfl (.box rfl (.cons (.sc _) (.cons (.sc _) (.cons (.sc _) (.cons (.sc _) (.cons (.sc _) (.nil)))))) rfl) mn)
        · refine pu (v := .sc _) (wtG rfl rfl rfl h4) rfl (fun _ => rfl) ?_
          refine pu (v := .sc _) (wtG rfl rfl rfl h4) rfl (fun _ => rfl) ?_
          refine pkF (v := .sc (.bool (decide (h > 32)))) rfl rfl h4 rfl ?_
          refine RunC.fin ?_
          have hR := Option.some.inj hR; subst hR
          exact Weak.turnL [(0, 0)] [] rfl rfl (tc (.sc _) (tc (.sc _) (tc (trP' rfl rfl rfl rfl) (tc (.sc _) tn)))) (mc rfl (.box rfl (.cons (.sc _) (.cons (.sc _) (.cons (.sc _) (.cons (.sc _) (.cons (.sc _) (.nil)))))) rfl) mn)
  · refine AWP.cd hR rfl (fun h5 hR => ?_) fun h5 hR => ?_
    · refine AWP.sq ?_
      refine AWP.rgC 13 rfl rfl ?_
      refine bu (cs := [.sc (.int .i64 0), .sc (.int .i64 0), .sc (.int .i64 0), .sc (.slice none 0 0), .sc (.slice none 0 0)]) rfl bt33 rfl ?_
      refine stB (cs' := [.sc (.int .i64 0), .sc (.int .i64 0), .sc (.int .i64 0), .sc (.slice none 0 0), .sc (.slice none 0 0)]) rfl rfl rfl rfl ti33 rfl rfl rfl rfl rfl ?_
      refine pu (v := .sc _) rfl rfl (fun _ => rfl) ?_
      refine RunC.fin ?_
      refine AWP.ret ?_
      refine rtT ?_
      have hR := Option.some.inj hR; subst hR
      exact hQ _ _ (LS.mk [(4, .ptr 0 0 0), (5, .sc (.int .i64 3))] (lblks 0 [boxB (α := stack_Stack) true (stack_Stack.mk 0 0 0 [] [])]) 1) (.tup [aggV (α := stack_Stack) true (stack_Stack.mk 0 0 0 [] []), .sc (.int .i64 3)]) [] (.inr rfl) (Weak.turnL [(0, 0)] [] rfl rfl (tc (trP' rfl rfl rfl rfl) (tc (.sc _) tn)) (mc rfl (.box rfl (.cons (.sc _) (.cons (.sc _) (.cons (.sc _) (.cons trN (.cons trN (.nil)))))) rfl) mn)) (ro2 (rvC (v := aggV (α := stack_Stack) true (stack_Stack.mk 0 0 0 [] [])) rfl rfl ti33 rfl) (rvT (v := .sc (.int .i64 3)) rfl)) rfl rfl (.tup (.cons ldA (.cons (.sc _) .nil))) pn
    · refine AWP.skip ?_
      refine skT ?_
      refine AWP.sq ?_
      refine AWP.rgD 53 [0, 0, 0, 0, 12, 28, 0, 0, 192, 448, 1023, 2047, 4095] ⟨[], [none, none, none, none, none, none, none, none, none, none, none, some [0], none]⟩ hmix (by kernel_rfl) rfl rfl ?_
      refine pu (v := .sc _) rfl rfl (fun _ => rfl) ?_
      refine pu (v := .sc _) rfl rfl (fun _ => rfl) ?_
      refine pu (v := .sc _) rfl rfl (fun _ => rfl) ?_
      refine pu (v := .sc _) rfl rfl (fun _ => rfl) ?_
      refine pu (v := .sc _) rfl rfl (fun _ => rfl) ?_
      obtain ⟨h6, hR⟩ := chkE hR
      refine mk (α := Int) 21 true 0 rfl rfl rfl rfl ti22 rfl ti3 rfl rfl h6 ?_
      refine pu (v := .sc _) rfl rfl (fun _ => rfl) ?_
      refine pu (v := .sc _) rfl rfl (fun _ => rfl) ?_
      refine pu (v := .sc _) rfl rfl (fun _ => rfl) ?_
      obtain ⟨h7, hR⟩ := chkE hR
      refine mk (α := Bound) 37 true (Bound.mk 0 0 false) rfl rfl rfl rfl ti28 rfl ti45 rfl rfl h7 ?_
      refine bu (cs := [.sc (.int .i64 w), .sc (.int .i64 h), .sc (.int .i64 0), slV Int 21 0 0 (List.replicate (w6 (w * h)).toNat (0 : Int)).length, slV Bound 37 0 0 (List.replicate (w6 (w * h)).toNat (Bound.mk 0 0 false : Bound)).length]) rfl bt33 rfl ?_
      refine stB (cs' := [.sc (.int .i64 w), .sc (.int .i64 h), .sc (.int .i64 0), slV Int 21 0 0 (List.replicate (w6 (w * h)).toNat (0 : Int)).length, slV Bound 37 0 0 (List.replicate (w6 (w * h)).toNat (Bound.mk 0 0 false : Bound)).length]) rfl rfl rfl rfl ti33 rfl rfl rfl rfl rfl ?_
      refine pu (v := .sc _) rfl rfl (fun _ => rfl) ?_
      refine RunC.fin ?_
      refine AWP.ret ?_
      have hR := Option.some.inj hR; subst hR
      exact hQ _ _ (LS.mk [(4, .ptr 0 0 0), (5, .sc (.int .i64 0))] (lblks 0 [boxB (α := stack_Stack) true (stack_Stack.mk w h 0 (List.replicate (w6 (w * h)).toNat (0 : Int)) (List.replicate (w6 (w * h)).toNat (Bound.mk 0 0 false : Bound)))]) 1) (.tup [aggV (α := stack_Stack) true (stack_Stack.mk w h 0 (List.replicate (w6 (w * h)).toNat (0 : Int)) (List.replicate (w6 (w * h)).toNat (Bound.mk 0 0 false : Bound))), .sc (.int .i64 0)]) [] (.inr rfl) (Weak.turnL [(0, 0)] [21, 37] rfl rfl (tc (trP' rfl rfl rfl rfl) (tc (.sc _) tn)) (mc rfl (.box rfl (.cons (.sc _) (.cons (.sc _) (.cons (.sc _) (.cons (trF' rfl rfl id rfl) (.cons (trF' rfl rfl id rfl) (.nil)))))) rfl) mn)) (ro2 (rvC (v := aggV (α := stack_Stack) true (stack_Stack.mk w h 0 (List.replicate (w6 (w * h)).toNat (0 : Int)) (List.replicate (w6 (w * h)).toNat (Bound.mk 0 0 false : Bound)))) rfl rfl ti33 rfl) (rvT (v := .sc (.int .i64 0)) rfl)) rfl rfl (.tup (.cons ldA (.cons (.sc _) .nil))) pn
theorem ok17 (s : stack_Stack) (c : Cells) (r : Int) (hR : stack_fit s c = some r) : FnP Try.prog 17 [aggV false s, aggV false c] (.sc (.int .i64 r)) := by
  refine fnP_of (FnX.walk Try.func17 rfl 29 0 (by simp [Try.ntmps17]) rfl fun W S F Q hQ => ?_)
  unfold stack_fit at hR
  refine AWP.sq ?_
  refine AWP.rgC 12 rfl rfl ?_
  refine bx (cs := _) 0 rfl rfl rfl ?_
  refine bx (cs := _) 4 rfl rfl rfl ?_
  refine pu (v := .sc _) rfl rfl (fun _ => rfl) ?_
  refine RunC.fin ?_
  refine AWP.sq ?_
  refine AWP.sq ?_
  refine AWP.rgC 24 rfl rfl ?_
  refine ldB (v := .agg _) rfl rfl rfl rfl ti33 rfl rfl ?_
  obtain ⟨r1, hr1, hR⟩ := bindE hR
  refine cls [] rfl rfl cb19 (ok19 s _ hr1) (.cons (.agg (.cons (.sc _) (.cons (.sc _) (.cons (.sc _) (.cons ldR' (.cons ldR' (.nil)))))) rfl) (.nil)) (.inr rfl) rfl ?_
  refine pu (v := .sc _) rfl rfl (fun _ => rfl) ?_
  refine RunC.fin ?_
  refine AWP.sq ?_
  refine AWP.rgC 32 rfl rfl ?_
  refine pu (v := .sc _) rfl rfl (fun _ => rfl) ?_
  refine pu (v := .sc _) rfl rfl (fun _ => rfl) ?_
  refine RunC.fin ?_
  refine AWP.cd hR rfl (fun h2 hR => ?_) fun h2 hR => ?_
  · refine AWP.sq ?_
    refine AWP.rgC 40 rfl rfl ?_
    refine pu (v := .sc _) rfl rfl (fun _ => rfl) ?_
    refine pu (v := .sc _) rfl rfl (fun _ => rfl) ?_
    refine RunC.fin ?_
    refine AWP.ret ?_
    refine rtT ?_
    have hR := Option.some.inj hR; subst hR
    exact hQ _ _ (LS.mk [(4, .sc (.int .i64 r1))] (lblks 0 []) 0) (.sc (.int .i64 r1)) [] (.inr rfl) (Weak.turnL [] [] rfl rfl (tc (.sc _) tn) mn) (ro1 (rvT (v := .sc (.int .i64 r1)) rfl)) rfl rfl (.sc _) pn
  · refine AWP.skip ?_
    refine skT ?_
    refine AWP.sq ?_
    refine AWP.sq ?_
    refine AWP.rgC 44 rfl rfl ?_
    refine ldB (v := .agg _) rfl rfl rfl rfl ti30 rfl rfl ?_
    obtain ⟨r3, hr3, hR⟩ := bindE hR
    refine cls [] rfl rfl cb23 (ok23 c _ hr3) (.cons (.agg (.cons (.sc _) (.cons (.sc _) (.cons ldR' (.nil)))) rfl) (.nil)) (.inr rfl) rfl ?_
    refine pu (v := .sc _) rfl rfl (fun _ => rfl) ?_
    refine RunC.fin ?_
    refine AWP.sq ?_
    refine AWP.rgC 52 rfl rfl ?_
    refine pu (v := .sc _) rfl rfl (fun _ => rfl) ?_
    refine pu (v := .sc _) rfl rfl (fun _ => rfl) ?_
    refine RunC.fin ?_
    refine AWP.cd hR rfl (fun h4 hR => ?_) fun h4 hR => ?_
    · refine AWP.sq ?_
      refine AWP.rgC 60 rfl rfl ?_
      refine pu (v := .sc _) rfl rfl (fun _ => rfl) ?_
      refine pu (v := .sc _) rfl rfl (fun _ => rfl) ?_
      refine RunC.fin ?_
      refine AWP.ret ?_
      refine rtT ?_
      have hR := Option.some.inj hR; subst hR
      exact hQ _ _ (LS.mk [(4, .sc (.int .i64 r3))] (lblks 0 []) 0) (.sc (.int .i64 r3)) [] (.inr rfl) (Weak.turnL [] [] rfl rfl (tc (.sc _) tn) mn) (ro1 (rvT (v := .sc (.int .i64 r3)) rfl)) rfl rfl (.sc _) pn
    · refine AWP.skip ?_
      refine skT ?_
      refine AWP.sq ?_
      refine AWP.joinX (fun z5 : Bool => LS.mk [(28, .sc (.bool z5))] (lblks 0 []) 0) hR (fun o5 hR => ?_) fun z5 hR => ?_
      · refine AWP.rgC 100 rfl rfl ?_
        refine fa rfl rfl ti33 rfl rfl ti3 rfl ?_
        refine ldB (v := .sc _) rfl rfl rfl rfl ti3 rfl rfl ?_
        refine fa rfl rfl ti30 rfl rfl ti3 rfl ?_
        refine ldB (v := .sc _) rfl rfl rfl rfl ti3 rfl rfl ?_
        refine pu (v := .sc _) rfl rfl (fun _ => rfl) ?_
        refine pu (v := .sc _) rfl rfl (fun _ => rfl) ?_
        refine brR hR (fun h6 hR => ?_) fun h6 hR => ?_
        · refine sk (skW rfl rfl rfl h6) ?_
          refine sk (skW rfl rfl rfl h6) ?_
          refine sk (skW rfl rfl rfl h6) ?_
          refine sk (skW rfl rfl rfl h6) ?_
          refine sk (skW rfl rfl rfl h6) ?_
          refine pkT (v := .sc (.bool true)) rfl rfl h6 rfl ?_
          refine RunC.fin ?_
          have hR := Option.some.inj hR; subst hR
          exact Weak.turnL [] [] rfl rfl (tc (.sc _) tn) mn
        · refine fa (wtG rfl rfl rfl h6) rfl ti33 rfl rfl ti3 rfl ?_
          refine ldB (v := .sc _) (wtG rfl rfl rfl h6) rfl rfl rfl ti3 rfl rfl ?_
          refine fa (wtG rfl rfl rfl h6) rfl ti30 rfl rfl ti3 rfl ?_
          refine ldB (v := .sc _) (wtG rfl rfl rfl h6) rfl rfl rfl ti3 rfl rfl ?_
          refine pu (v := .sc _) (wtG rfl rfl rfl h6) rfl (fun _ => rfl) ?_
          refine pkF (v := .sc (.bool (s.H != c.H))) rfl rfl h6 rfl ?_
          refine RunC.fin ?_
          have hR := Option.some.inj hR; subst hR
          exact Weak.turnL [] [] rfl rfl (tc (.sc _) tn) mn
      · refine AWP.cd hR rfl (fun h7 hR => ?_) fun h7 hR => ?_
        · refine AWP.sq ?_
          refine AWP.rgC 4 rfl rfl ?_
          refine pu (v := .sc _) rfl rfl (fun _ => rfl) ?_
          refine RunC.fin ?_
          refine AWP.ret ?_
          refine rtT ?_
          have hR := Option.some.inj hR; subst hR
          exact hQ _ _ (LS.mk [(4, .sc (.int .i64 12))] (lblks 0 []) 0) (.sc (.int .i64 12)) [] (.inr rfl) (Weak.turnL [] [] rfl rfl (tc (.sc _) tn) mn) (ro1 (rvT (v := .sc (.int .i64 12)) rfl)) rfl rfl (.sc _) pn
        · refine AWP.skip ?_
          refine skT ?_
          refine AWP.sq ?_
          refine AWP.rgC 4 rfl rfl ?_
          refine pu (v := .sc _) rfl rfl (fun _ => rfl) ?_
          refine RunC.fin ?_
          refine AWP.ret ?_
          have hR := Option.some.inj hR; subst hR
          exact hQ _ _ (LS.mk [(4, .sc (.int .i64 0))] (lblks 0 []) 0) (.sc (.int .i64 0)) [] (.inr rfl) (Weak.turnL [] [] rfl rfl (tc (.sc _) tn) mn) (ro1 (rvT (v := .sc (.int .i64 0)) rfl)) rfl rfl (.sc _) pn
theorem ok18 (s : stack_Stack) (r : stack_Stack) (hR : stack_copied s = some r) : FnP Try.prog 18 [aggV false s] (aggV (α := stack_Stack) true r) := by
  refine fnP_of (FnX.walk Try.func18 rfl 12 0 (by simp [Try.ntmps18]) rfl fun W S F Q hQ => ?_)
  unfold stack_copied at hR
  refine AWP.sq ?_
  refine AWP.rgC 8 rfl rfl ?_
  refine bx (cs := _) 0 rfl rfl rfl ?_
  refine al (cs := [.sc (.int .i64 0), .sc (.int .i64 0), .sc (.int .i64 0), .sc (.slice none 0 0), .sc (.slice none 0 0)]) 4 rfl rfl ti33 rfl rfl ?_
  refine RunC.fin ?_
  refine AWP.sq ?_
  refine AWP.rgD 48 [0, 1, 3, 0, 8, 31, 31, 127, 255, 511] ⟨[], [none, some [0], none, none, some [0], none, none, some [0], none, some [0]]⟩ hmix (by kernel_rfl) rfl rfl ?_
  refine fa rfl rfl ti33 rfl rfl ti22 rfl ?_
  refine ldB (v := rowV _ s.Holes) rfl rfl rfl rfl ti22 rfl rfl ?_
  obtain ⟨r1, hr1, hR⟩ := bindE hR
  refine cls [] rfl rfl cb24 (ok24 s.Holes _ hr1) (.cons ldR' (.nil)) (.inr rfl) rfl ?_
  refine fa rfl rfl ti33 rfl rfl ti28 rfl ?_
  refine ldB (v := rowV _ s.At) rfl rfl rfl rfl ti28 rfl rfl ?_
  obtain ⟨r2, hr2, hR⟩ := bindE hR
  refine cls [] rfl rfl cb25 (ok25 s.At _ hr2) (.cons ldR' (.nil)) (.inr rfl) rfl ?_
  refine fa rfl rfl ti33 rfl rfl ti22 rfl ?_
  refine stB (cs' := [.sc (.int .i64 s.W), .sc (.int .i64 s.H), .sc (.int .i64 s.N), rowV (α := Int) true r1, rowV (α := Bound) false s.At]) rfl rfl rfl rfl ti22 rfl rfl rfl rfl rfl ?_
  refine fa rfl rfl ti33 rfl rfl ti28 rfl ?_
  refine stB (cs' := [.sc (.int .i64 s.W), .sc (.int .i64 s.H), .sc (.int .i64 s.N), rowV (α := Int) true r1, rowV (α := Bound) true r2]) rfl rfl rfl rfl ti28 rfl rfl rfl rfl rfl ?_
  refine RunC.fin ?_
  refine AWP.sq ?_
  refine AWP.rgC 56 rfl rfl ?_
  refine ldB (v := .agg _) rfl rfl rfl rfl ti33 rfl rfl ?_
  refine stB (cs' := [.sc (.int .i64 s.W), .sc (.int .i64 s.H), .sc (.int .i64 s.N), rowV (α := Int) true r1, rowV (α := Bound) true r2]) rfl rfl rfl rfl ti33 rfl rfl rfl rfl rfl ?_
  refine RunC.fin ?_
  refine AWP.ret ?_
  have hR := Option.some.inj hR; subst hR
  exact hQ _ _ (LS.mk [(2, .ptr 0 0 0)] (lblks 0 [boxB (α := stack_Stack) true (stack_Stack.mk s.W s.H s.N r1 r2)]) 1) (aggV (α := stack_Stack) true (stack_Stack.mk s.W s.H s.N r1 r2)) [] (.inr rfl) (Weak.turnL [(4, 0)] [] rfl rfl (tc (trP' rfl rfl rfl rfl) tn) (mc rfl (.box rfl (.cons (.sc _) (.cons (.sc _) (.cons (.sc _) (.cons trR1 (.cons trR1 (.nil)))))) rfl) mn)) (ro1 (rvC (v := aggV (α := stack_Stack) true (stack_Stack.mk s.W s.H s.N r1 r2)) rfl rfl ti33 rfl)) rfl rfl ldA pn
theorem ok24_16 (s : List Int) (r : (List Int)) (hR : slices_Clone_Int s = some r) : FnD Try.prog 24 [] [rowV false s] (slV Int 0 0 0 r.length) [arrB (α := Int) 3 0 true r] := by
  refine FnX.walk Try.func24 rfl 8 0 (by simp [Try.ntmps24]) rfl fun W S F Q hQ => ?_
  unfold slices_Clone_Int at hR
  refine AWP.sq ?_
  refine AWP.rgC 4 rfl rfl ?_
  refine pu (v := .sc _) rfl rfl (fun _ => rfl) ?_
  refine RunC.fin ?_
  refine AWP.sq ?_
  refine AWP.joinX (fun z1 : Bool => LS.mk [(0, rowV (α := Int) false s), (4, .sc (.bool z1))] (lblks 0 []) 0) hR (fun o1 hR => ?_) fun z1 hR => ?_
  · refine AWP.rgC 12 rfl rfl ?_
    refine pu (v := rowV _ s) rfl rfl (fun _ => rfl) ?_
    refine nilE hR rfl rfl rfl (by rw [ti22]; rfl) (fun hR h2 => ?_) fun hR => ?_
    · refine RunC.fin ?_
      have hR := Option.some.inj hR; subst hR
      exact Weak.turnL [] [] rfl rfl (tc trR1 (tc (.sc _) tn)) mn
    · refine RunC.fin ?_
      have hR := Option.some.inj hR; subst hR
      exact Weak.turnL [] [] rfl rfl (tc trR1 (tc (.sc _) tn)) mn
  · refine AWP.cd hR rfl (fun h3 hR => ?_) fun h3 hR => ?_
    · refine AWP.sq ?_
      refine AWP.rgC 4 rfl rfl ?_
      refine pu (v := .sc _) rfl rfl (fun _ => rfl) ?_
      refine RunC.fin ?_
      refine AWP.nilT Int 2 3 rfl ?_
      refine AWP.ret ?_
      refine rtT ?_
      have hR := Option.some.inj hR; subst hR
      exact hQ _ _ (LS.mk [(2, slV Int 0 0 0 [].length)] (lblks 0 [arrB (α := Int) 3 0 true []]) 1) (slV Int 0 0 0 [].length) [0] (.inr rfl) (Weak.turnL [(4, 0)] [] rfl rfl (tc (trS' rfl rfl rfl rfl rfl) tn) (mc rfl (btrA' rfl) mn)) (ro1 (rvT (v := slV Int 0 0 0 [].length) rfl)) rfl rfl (ldM rfl rfl) (pc rfl bldA pn)
    · refine AWP.skip ?_
      refine skT ?_
      refine AWP.sq ?_
      refine AWP.rgC 16 rfl rfl ?_
      refine bs (α := Int) 0 true ([] : List Int) rfl rfl ti22 rfl ti3 rfl rfl rfl rfl rfl ?_
      refine pu (v := rowV _ s) rfl rfl (fun _ => rfl) ?_
      obtain ⟨h4, hR⟩ := chkE hR
      refine ap' (α := Int) (nw := true) (xs := ([] : List Int)) (ys := s) rfl rfl rfl rfl (srcR2 rfl (fun _ => rfl)) ti22 rfl ti3 rfl h4 rfl ?_
      refine pu (v := slV Int _ _ _ _) rfl rfl (fun _ => rfl) ?_
      refine RunC.fin ?_
      refine AWP.ret ?_
      have hR := Option.some.inj hR; subst hR
      exact hQ _ _ (LS.mk [(2, slV Int 0 0 0 (([] : List Int) ++ s).length)] (lblks 0 [arrB (α := Int) 3 0 true (([] : List Int) ++ s)]) 1) (slV Int 0 0 0 (([] : List Int) ++ s).length) [0] (.inr rfl) (Weak.turnL [(0, 0)] [] rfl rfl (tc (trS' rfl rfl rfl rfl rfl) tn) (mc rfl (btrA' rfl) mn)) (ro1 (rvT (v := slV Int 0 0 0 (([] : List Int) ++ s).length) rfl)) rfl rfl (ldM rfl rfl) (pc rfl bldA pn)
theorem ok25_17 (s : List Bound) (r : (List Bound)) (hR : slices_Clone_Bound s = some r) : FnD Try.prog 25 [] [rowV false s] (slV Bound 0 0 0 r.length) [arrB (α := Bound) 45 0 true r] := by
  refine FnX.walk Try.func25 rfl 8 0 (by simp [Try.ntmps25]) rfl fun W S F Q hQ => ?_
  unfold slices_Clone_Bound at hR
  refine AWP.sq ?_
  refine AWP.rgC 4 rfl rfl ?_
  refine pu (v := .sc _) rfl rfl (fun _ => rfl) ?_
  refine RunC.fin ?_
  refine AWP.sq ?_
  refine AWP.joinX (fun z1 : Bool => LS.mk [(0, rowV (α := Bound) false s), (4, .sc (.bool z1))] (lblks 0 []) 0) hR (fun o1 hR => ?_) fun z1 hR => ?_
  · refine AWP.rgC 12 rfl rfl ?_
    refine pu (v := rowV _ s) rfl rfl (fun _ => rfl) ?_
    refine nilE hR rfl rfl rfl (by rw [ti28]; rfl) (fun hR h2 => ?_) fun hR => ?_
    · refine RunC.fin ?_
      have hR := Option.some.inj hR; subst hR
      exact Weak.turnL [] [] rfl rfl (tc trR1 (tc (.sc _) tn)) mn
    · refine RunC.fin ?_
      have hR := Option.some.inj hR; subst hR
      exact Weak.turnL [] [] rfl rfl (tc trR1 (tc (.sc _) tn)) mn
  · refine AWP.cd hR rfl (fun h3 hR => ?_) fun h3 hR => ?_
    · refine AWP.sq ?_
      refine AWP.rgC 4 rfl rfl ?_
      refine pu (v := .sc _) rfl rfl (fun _ => rfl) ?_
      refine RunC.fin ?_
      refine AWP.nilT Bound 2 45 rfl ?_
      refine AWP.ret ?_
      refine rtT ?_
      have hR := Option.some.inj hR; subst hR
      exact hQ _ _ (LS.mk [(2, slV Bound 0 0 0 [].length)] (lblks 0 [arrB (α := Bound) 45 0 true []]) 1) (slV Bound 0 0 0 [].length) [0] (.inr rfl) (Weak.turnL [(4, 0)] [] rfl rfl (tc (trS' rfl rfl rfl rfl rfl) tn) (mc rfl (btrA' rfl) mn)) (ro1 (rvT (v := slV Bound 0 0 0 [].length) rfl)) rfl rfl (ldM rfl rfl) (pc rfl bldA pn)
    · refine AWP.skip ?_
      refine skT ?_
      refine AWP.sq ?_
      refine AWP.rgC 16 rfl rfl ?_
      refine bs (α := Bound) 0 true ([] : List Bound) rfl rfl ti28 rfl ti45 rfl rfl rfl rfl rfl ?_
      refine pu (v := rowV _ s) rfl rfl (fun _ => rfl) ?_
      obtain ⟨h4, hR⟩ := chkE hR
      refine ap' (α := Bound) (nw := true) (xs := ([] : List Bound)) (ys := s) rfl rfl rfl rfl (srcR2 rfl (fun _ => rfl)) ti28 rfl ti45 rfl h4 rfl ?_
      refine pu (v := slV Bound _ _ _ _) rfl rfl (fun _ => rfl) ?_
      refine RunC.fin ?_
      refine AWP.ret ?_
      have hR := Option.some.inj hR; subst hR
      exact hQ _ _ (LS.mk [(2, slV Bound 0 0 0 (([] : List Bound) ++ s).length)] (lblks 0 [arrB (α := Bound) 45 0 true (([] : List Bound) ++ s)]) 1) (slV Bound 0 0 0 (([] : List Bound) ++ s).length) [0] (.inr rfl) (Weak.turnL [(0, 0)] [] rfl rfl (tc (trS' rfl rfl rfl rfl rfl) tn) (mc rfl (btrA' rfl) mn)) (ro1 (rvT (v := slV Bound 0 0 0 (([] : List Bound) ++ s).length) rfl)) rfl rfl (ldM rfl rfl) (pc rfl bldA pn)
theorem ok18_18 (s : stack_Stack) (r : stack_Stack) (hR : stack_copied s = some r) : FnD Try.prog 18 [] [aggV false s] (.agg [.sc (.int .i64 r.W), .sc (.int .i64 r.H), .sc (.int .i64 r.N), slV Int 0 0 0 r.Holes.length, slV Bound 1 0 0 r.At.length]) [arrB (α := Int) 3 0 true r.Holes, arrB (α := Bound) 45 0 true r.At] := by
  refine FnX.walk Try.func18 rfl 12 0 (by simp [Try.ntmps18]) rfl fun W S F Q hQ => ?_
  unfold stack_copied at hR
  refine AWP.sq ?_
  refine AWP.rgC 8 rfl rfl ?_
  refine bx (cs := _) 0 rfl rfl rfl ?_
  refine al (cs := [.sc (.int .i64 0), .sc (.int .i64 0), .sc (.int .i64 0), .sc (.slice none 0 0), .sc (.slice none 0 0)]) 4 rfl rfl ti33 rfl rfl ?_
  refine RunC.fin ?_
  refine AWP.sq ?_
  refine AWP.rgD 48 [0, 1, 3, 0, 8, 31, 31, 127, 255, 511] ⟨[2, 5], [none, some [0], some [], none, some [0], some [], none, some [0], none, some [0]]⟩ hmix (by kernel_rfl) rfl rfl ?_
  refine fa rfl rfl ti33 rfl rfl ti22 rfl ?_
  refine ldB (v := rowV _ s.Holes) rfl rfl rfl rfl ti22 rfl rfl ?_
  obtain ⟨r1, hr1, hR⟩ := bindE hR
  refine cps (res' := slV Int 16 0 0 r1.length) (ups := [(16, arrB (α := Int) 3 0 true r1)]) [] 16 rfl rfl rfl cb24 (ok24_16 s.Holes _ hr1) (.cons ldR' (.nil)) pn rfl rfl rfl rfl rfl (by first | rfl | exact renR | exact renA | exact renS | simp only [V.ren, V.rens, renR, renA, renS] | (simp only [V.ren, V.rens, renR, renA, renS]; rfl)) (by simp only [passUps, renBox, renArr]; rfl) ?_
  refine fa rfl rfl ti33 rfl rfl ti28 rfl ?_
  refine ldB (v := rowV _ s.At) rfl rfl rfl rfl ti28 rfl rfl ?_
  obtain ⟨r2, hr2, hR⟩ := bindE hR
  refine cps (res' := slV Bound 28 0 0 r2.length) (ups := [(28, arrB (α := Bound) 45 0 true r2)]) [] 28 rfl rfl rfl cb25 (ok25_17 s.At _ hr2) (.cons ldR' (.nil)) pn rfl rfl rfl rfl rfl (by first | rfl | exact renR | exact renA | exact renS | simp only [V.ren, V.rens, renR, renA, renS] | (simp only [V.ren, V.rens, renR, renA, renS]; rfl)) (by simp only [passUps, renBox, renArr]; rfl) ?_
  refine fa rfl rfl ti33 rfl rfl ti22 rfl ?_
  refine stB (cs' := [.sc (.int .i64 s.W), .sc (.int .i64 s.H), .sc (.int .i64 s.N), slV Int 16 0 0 r1.length, rowV (α := Bound) false s.At]) rfl rfl rfl rfl ti22 rfl rfl rfl rfl rfl ?_
  refine fa rfl rfl ti33 rfl rfl ti28 rfl ?_
  refine stB (cs' := [.sc (.int .i64 s.W), .sc (.int .i64 s.H), .sc (.int .i64 s.N), slV Int 16 0 0 r1.length, slV Bound 28 0 0 r2.length]) rfl rfl rfl rfl ti28 rfl rfl rfl rfl rfl ?_
  refine RunC.fin ?_
  refine AWP.sq ?_
  refine AWP.rgC 56 rfl rfl ?_
  refine ldB (v := .agg _) rfl rfl rfl rfl ti33 rfl rfl ?_
  refine stB (cs' := [.sc (.int .i64 s.W), .sc (.int .i64 s.H), .sc (.int .i64 s.N), slV Int 16 0 0 r1.length, slV Bound 28 0 0 r2.length]) rfl rfl rfl rfl ti33 rfl rfl rfl rfl rfl ?_
  refine RunC.fin ?_
  refine AWP.ret ?_
  have hR := Option.some.inj hR; subst hR
  exact hQ _ _ (LS.mk [(2, .ptr 2 0 0)] (lblks 0 [arrB (α := Int) 3 0 true r1, arrB (α := Bound) 45 0 true r2, .box [.sc (.int .i64 s.W), .sc (.int .i64 s.H), .sc (.int .i64 s.N), slV Int 0 0 0 r1.length, slV Bound 1 0 0 r2.length]]) 3) (.agg [.sc (.int .i64 s.W), .sc (.int .i64 s.H), .sc (.int .i64 s.N), slV Int 0 0 0 r1.length, slV Bound 1 0 0 r2.length]) [0, 1] (.inr rfl) (Weak.turnL [(16, 0), (28, 0), (4, 0)] [] rfl rfl (tc (trP' rfl rfl rfl rfl) tn) (mc rfl (btrA' rfl) (mc rfl (btrA' rfl) (mc rfl (.box rfl (.cons (.sc _) (.cons (.sc _) (.cons (.sc _) (.cons (trS' rfl rfl rfl rfl rfl) (.cons (trS' rfl rfl rfl rfl rfl) (.nil)))))) rfl) mn)))) (ro1 (rvC (v := .agg [.sc (.int .i64 s.W), .sc (.int .i64 s.H), .sc (.int .i64 s.N), slV Int 0 0 0 r1.length, slV Bound 1 0 0 r2.length]) rfl rfl ti33 rfl)) rfl rfl (.agg (.cons (.sc _) (.cons (.sc _) (.cons (.sc _) (.cons (ldM rfl rfl) (.cons (ldM rfl rfl) (.nil)))))) rfl) (pc rfl bldA (pc rfl bldA pn))
theorem ok16 (s : stack_Stack) (c : Cells) (r : stack_Stack × Int) (hR : stack_Add s c = some r) : FnP Try.prog 16 [aggV false s, aggV false c] (.tup [aggV (α := stack_Stack) true r.1, .sc (.int .i64 r.2)]) := by
  refine fnP_of (FnX.walk Try.func16 rfl 56 0 (by simp [Try.ntmps16]) rfl fun W S F Q hQ => ?_)
  unfold stack_Add at hR
  refine AWP.sq ?_
  refine AWP.rgC 16 rfl rfl ?_
  refine bx (cs := _) 0 rfl rfl rfl ?_
  refine bx (cs := _) 4 rfl rfl rfl ?_
  refine al (cs := [.sc (.int .i64 0), .sc (.int .i64 0), .sc (.int .i64 0), .sc (.slice none 0 0), .sc (.slice none 0 0)]) 8 rfl rfl ti33 rfl rfl ?_
  refine pu (v := .sc _) rfl rfl (fun _ => rfl) ?_
  refine RunC.fin ?_
  refine AWP.sq ?_
  refine AWP.sq ?_
  refine AWP.rgC 32 rfl rfl ?_
  refine ldB (v := .agg _) rfl rfl rfl rfl ti33 rfl rfl ?_
  refine ldB (v := .agg _) rfl rfl rfl rfl ti30 rfl rfl ?_
  obtain ⟨r1, hr1, hR⟩ := bindE hR
  refine cls [] rfl rfl cb17 (ok17 s c _ hr1) (.cons (.agg (.cons (.sc _) (.cons (.sc _) (.cons (.sc _) (.cons ldR' (.cons ldR' (.nil)))))) rfl) (.cons (.agg (.cons (.sc _) (.cons (.sc _) (.cons ldR' (.nil)))) rfl) (.nil))) (.inr rfl) rfl ?_
  refine pu (v := .sc _) rfl rfl (fun _ => rfl) ?_
  refine RunC.fin ?_
  refine AWP.sq ?_
  refine AWP.rgC 40 rfl rfl ?_
  refine pu (v := .sc _) rfl rfl (fun _ => rfl) ?_
  refine pu (v := .sc _) rfl rfl (fun _ => rfl) ?_
  refine RunC.fin ?_
  refine AWP.cd hR rfl (fun h2 hR => ?_) fun h2 hR => ?_
  · refine AWP.sq ?_
    refine AWP.rgC 56 rfl rfl ?_
    refine bu (cs := [.sc (.int .i64 0), .sc (.int .i64 0), .sc (.int .i64 0), .sc (.slice none 0 0), .sc (.slice none 0 0)]) rfl bt33 rfl ?_
    refine pu (v := .sc _) rfl rfl (fun _ => rfl) ?_
    refine stB (cs' := [.sc (.int .i64 0), .sc (.int .i64 0), .sc (.int .i64 0), .sc (.slice none 0 0), .sc (.slice none 0 0)]) rfl rfl rfl rfl ti33 rfl rfl rfl rfl rfl ?_
    refine pu (v := .sc _) rfl rfl (fun _ => rfl) ?_
    refine RunC.fin ?_
    refine AWP.ret ?_
    refine rtT ?_
    have hR := Option.some.inj hR; subst hR
    exact hQ _ _ (LS.mk [(4, .ptr 0 0 0), (5, .sc (.int .i64 r1))] (lblks 0 [boxB (α := stack_Stack) true (stack_Stack.mk 0 0 0 [] [])]) 1) (.tup [aggV (α := stack_Stack) true (stack_Stack.mk 0 0 0 [] []), .sc (.int .i64 r1)]) [] (.inr rfl) (Weak.turnL [(8, 0)] [] rfl rfl (tc (trP' rfl rfl rfl rfl) (tc (.sc _) tn)) (mc rfl (.box rfl (.cons (.sc _) (.cons (.sc _) (.cons (.sc _) (.cons trN (.cons trN (.nil)))))) rfl) mn)) (ro2 (rvC (v := aggV (α := stack_Stack) true (stack_Stack.mk 0 0 0 [] [])) rfl rfl ti33 rfl) (rvT (v := .sc (.int .i64 r1)) rfl)) rfl rfl (.tup (.cons ldA (.cons (.sc _) .nil))) pn
  · refine AWP.skip ?_
    refine skT ?_
    refine AWP.sq ?_
    refine AWP.sq ?_
    refine AWP.rgC 52 rfl rfl ?_
    refine fa rfl rfl ti33 rfl rfl ti3 rfl ?_
    refine ldB (v := .sc _) rfl rfl rfl rfl ti3 rfl rfl ?_
    refine pu (v := .sc _) rfl rfl (fun _ => rfl) ?_
    refine RunC.fin ?_
    refine AWP.cd hR rfl (fun h3 hR => ?_) fun h3 hR => ?_
    · refine AWP.sq ?_
      refine AWP.rgC 64 rfl rfl ?_
      refine bu (cs := [.sc (.int .i64 0), .sc (.int .i64 0), .sc (.int .i64 0), .sc (.slice none 0 0), .sc (.slice none 0 0)]) rfl bt33 rfl ?_
      refine stB (cs' := [.sc (.int .i64 0), .sc (.int .i64 0), .sc (.int .i64 0), .sc (.slice none 0 0), .sc (.slice none 0 0)]) rfl rfl rfl rfl ti33 rfl rfl rfl rfl rfl ?_
      refine pu (v := .sc _) rfl rfl (fun _ => rfl) ?_
      refine RunC.fin ?_
      refine AWP.ret ?_
      refine rtT ?_
      have hR := Option.some.inj hR; subst hR
      exact hQ _ _ (LS.mk [(4, .ptr 0 0 0), (5, .sc (.int .i64 9))] (lblks 0 [boxB (α := stack_Stack) true (stack_Stack.mk 0 0 0 [] [])]) 1) (.tup [aggV (α := stack_Stack) true (stack_Stack.mk 0 0 0 [] []), .sc (.int .i64 9)]) [] (.inr rfl) (Weak.turnL [(8, 0)] [] rfl rfl (tc (trP' rfl rfl rfl rfl) (tc (.sc _) tn)) (mc rfl (.box rfl (.cons (.sc _) (.cons (.sc _) (.cons (.sc _) (.cons trN (.cons trN (.nil)))))) rfl) mn)) (ro2 (rvC (v := aggV (α := stack_Stack) true (stack_Stack.mk 0 0 0 [] [])) rfl rfl ti33 rfl) (rvT (v := .sc (.int .i64 9)) rfl)) rfl rfl (.tup (.cons ldA (.cons (.sc _) .nil))) pn
    · refine AWP.skip ?_
      refine skT ?_
      refine AWP.sq ?_
      refine AWP.rgC 64 rfl rfl ?_
      refine ldB (v := .agg _) rfl rfl rfl rfl ti33 rfl rfl ?_
      obtain ⟨r4, hr4, hR⟩ := bindE hR
      refine cpx (res' := .agg [.sc (.int .i64 r4.W), .sc (.int .i64 r4.H), .sc (.int .i64 r4.N), slV Int 56 0 0 r4.Holes.length, slV Bound 57 0 0 r4.At.length]) (ups := [(56, arrB (α := Int) 3 0 true r4.Holes), (57, arrB (α := Bound) 45 0 true r4.At)]) [] 56 rfl rfl rfl cb18 (ok18_18 s _ hr4) (.cons (.agg (.cons (.sc _) (.cons (.sc _) (.cons (.sc _) (.cons ldR' (.cons ldR' (.nil)))))) rfl) (.nil)) pn rfl rfl rfl (by simp only [V.ren, V.rens, renS, renR, renA]; rfl) (by simp only [passUps, renBox, renArr]; rfl) ?_
      refine stB (cs' := [.sc (.int .i64 r4.W), .sc (.int .i64 r4.H), .sc (.int .i64 r4.N), slV Int 56 0 0 r4.Holes.length, slV Bound 57 0 0 r4.At.length]) rfl rfl rfl rfl ti33 rfl rfl rfl rfl rfl ?_
      refine RunC.fin ?_
      refine AWP.sq ?_
      refine AWP.rgC 84 rfl rfl ?_
      refine fa rfl rfl ti33 rfl rfl ti3 rfl ?_
      refine ldB (v := .sc _) rfl rfl rfl rfl ti3 rfl rfl ?_
      refine pu (v := .sc _) rfl rfl (fun _ => rfl) ?_
      refine fa rfl rfl ti33 rfl rfl ti3 rfl ?_
      refine stB (cs' := [.sc (.int .i64 r4.W), .sc (.int .i64 r4.H), .sc (.int .i64 (w6 (r4.N + 1))), slV Int 56 0 0 r4.Holes.length, slV Bound 57 0 0 r4.At.length]) rfl rfl rfl rfl ti3 rfl rfl rfl rfl rfl ?_
      refine RunC.fin ?_
      refine AWP.sq ?_
      refine AWP.sq ?_
      refine AWP.rgC 100 rfl rfl ?_
      refine fa rfl rfl ti30 rfl rfl ti28 rfl ?_
      refine ldB (v := rowV _ c.At) rfl rfl rfl rfl ti28 rfl rfl ?_
      refine lenL (α := Bound) rfl rfl ti28 rfl ?_
      refine pu (v := .sc _) rfl rfl (fun _ => rfl) ?_
      refine RunC.fin ?_
      refine AWP.loopJ (fun s5 : (List Int) × (List Bound) × Int => LS.mk [(2, .ptr 0 0 0), (4, .ptr 3 0 0), (27, rowV (α := Bound) false c.At), (28, .sc (.int .i64 (c.At.length : Int))), (29, .sc (.int .i64 s5.2.2))] (lblks 0 [.box [.sc (.int .i64 r4.W), .sc (.int .i64 r4.H), .sc (.int .i64 (w6 (r4.N + 1))), slV Int 1 0 0 s5.1.length, slV Bound 2 0 0 s5.2.1.length], arrB (α := Int) 3 0 true s5.1, arrB (α := Bound) 45 0 true s5.2.1, .box [.sc (.int .i64 0), .sc (.int .i64 0), .sc (.int .i64 0), .sc (.slice none 0 0), .sc (.slice none 0 0)]]) 4) (fun z6 : (List Int) × (List Bound) => LS.mk [(2, .ptr 0 0 0), (4, .ptr 3 0 0)] (lblks 0 [.box [.sc (.int .i64 r4.W), .sc (.int .i64 r4.H), .sc (.int .i64 (w6 (r4.N + 1))), slV Int 1 0 0 z6.1.length, slV Bound 2 0 0 z6.2.length], arrB (α := Int) 3 0 true z6.1, arrB (α := Bound) 45 0 true z6.2, .box [.sc (.int .i64 0), .sc (.int .i64 0), .sc (.int .i64 0), .sc (.slice none 0 0), .sc (.slice none 0 0)]]) 4) (stack_Add.l1 c) hR (s0 := (r4.Holes, r4.At, 0)) (Weak.turnL [(0, 0), (56, 0), (57, 0), (8, 0)] [] rfl rfl (tc (trP' rfl rfl rfl rfl) (tc (trP' rfl rfl rfl rfl) (tc trR1 (tc (.sc _) (tc (.sc _) tn))))) (mc rfl (.box rfl (.cons (.sc _) (.cons (.sc _) (.cons (.sc _) (.cons (trS' rfl rfl rfl rfl rfl) (.cons (trS' rfl rfl rfl rfl rfl) (.nil)))))) rfl) (mc rfl (btrA' rfl) (mc rfl (btrA' rfl) (mc rfl (.box rfl (.cons (.sc _) (.cons (.sc _) (.cons (.sc _) (.cons (.sc _) (.cons (.sc _) (.nil)))))) rfl) mn))))) (fun s5 o5 hR => ?_) fun z6 hR => ?_
      · unfold stack_Add.l1 at hR
        refine AWP.sq ?_
        refine AWP.rgC 8 rfl rfl ?_
        refine pu (v := .sc _) rfl rfl (fun _ => rfl) ?_
        refine RunC.fin ?_
        refine AWP.sq ?_
        refine AWP.cd hR rfl (fun h7 hR => ?_) fun h7 hR => ?_
        · refine AWP.skip ?_
          refine skT ?_
          refine AWP.joinX (fun z8 : (List Int) × (List Bound) => LS.mk [(2, .ptr 0 0 0), (4, .ptr 3 0 0), (27, rowV (α := Bound) false c.At), (28, .sc (.int .i64 (c.At.length : Int))), (29, .sc (.int .i64 s5.2.2))] (lblks 0 [.box [.sc (.int .i64 r4.W), .sc (.int .i64 r4.H), .sc (.int .i64 (w6 (r4.N + 1))), slV Int 1 0 0 z8.1.length, slV Bound 2 0 0 z8.2.length], arrB (α := Int) 3 0 true z8.1, arrB (α := Bound) 45 0 true z8.2, .box [.sc (.int .i64 0), .sc (.int .i64 0), .sc (.int .i64 0), .sc (.slice none 0 0), .sc (.slice none 0 0)]]) 4) hR (fun o8 hR => ?_) fun z8 hR => ?_
          · refine AWP.block ?_
            refine AWP.sq ?_
            refine AWP.rgC 32 rfl rfl ?_
            refine pu (v := .sc _) rfl rfl (fun _ => rfl) ?_
            obtain ⟨h9, hR⟩ := chkE hR
            refine ixL (α := Bound) rfl rfl rfl ti28 rfl ti45 rfl h9 ?_
            refine ldR (v := .agg _) rfl rfl ti45 rfl ?_
            refine al (cs := [.sc (.int .i64 0), .sc (.int .i64 0), .sc (.bool false)]) 20 rfl rfl ti45 rfl rfl ?_
            refine pu (v := .sc _) rfl rfl (fun _ => rfl) ?_
            refine stB (cs' := [.sc (.int .i64 (gt c.At s5.2.2).Lo), .sc (.int .i64 (gt c.At s5.2.2).Hi), .sc (.bool (gt c.At s5.2.2).Unknown)]) rfl rfl rfl rfl ti45 rfl rfl rfl rfl rfl ?_
            refine RunC.fin ?_
            refine AWP.sq ?_
            refine AWP.rgC 40 rfl rfl ?_
            refine fa rfl rfl ti45 rfl rfl ti4 rfl ?_
            refine ldB (v := .sc _) rfl rfl rfl rfl ti4 rfl rfl ?_
            refine RunC.fin ?_
            refine AWP.cd hR rfl (fun h10 hR => ?_) fun h10 hR => ?_
            · refine AWP.rgC 72 rfl rfl ?_
              refine fa rfl rfl ti33 rfl rfl ti22 rfl ?_
              refine ldB (v := slV Int _ _ _ _) rfl rfl rfl rfl ti22 rfl rfl ?_
              refine pu (v := .sc _) rfl rfl (fun _ => rfl) ?_
              obtain ⟨h11, hR⟩ := chkE hR
              refine ixS0 (α := Int) rfl rfl rfl ti22 rfl ti3 rfl h11 ?_
              refine ldE (α := Int) (v := .sc _) rfl rfl rfl (ixlt h11) ti3 rfl rfl rfl rfl ?_
              refine pu (v := .sc _) rfl rfl (fun _ => rfl) ?_
              refine ixS0 (α := Int) rfl rfl rfl ti22 rfl ti3 rfl h11 ?_
              refine stE (α := Int) (y := w6 ((gt s5.1 s5.2.2) + 1)) rfl rfl rfl (ixlt h11) ti3 rfl rfl rfl rfl rfl ?_
              refine RunC.blk ?_
              refine RunC.fin ?_
              have hR := Option.some.inj hR; subst hR
              exact Weak.turnL [(0, 0), (1, 0), (2, 0), (3, 0)] [] rfl rfl (tc (trP' rfl rfl rfl rfl) (tc (trP' rfl rfl rfl rfl) (tc trR1 (tc (.sc _) (tc (.sc _) tn))))) (mc rfl (.box rfl (.cons (.sc _) (.cons (.sc _) (.cons (.sc _) (.cons (trS' rfl rfl rfl rfl (by simp only [List.length_set])) (.cons (trS' rfl rfl rfl rfl rfl) (.nil)))))) rfl) (mc rfl (btrA' rfl) (mc rfl (btrA' rfl) (mc rfl (.box rfl (.cons (.sc _) (.cons (.sc _) (.cons (.sc _) (.cons (.sc _) (.cons (.sc _) (.nil)))))) rfl) mn))))
            · refine AWP.rgD 88 [0, 1, 0, 0, 8, 0, 56, 120, 0, 504, 1023, 2047] ⟨[], [none, some [0], none, none, some [0], none, none, some [2], some [20], none, none, some [2]]⟩ hmix (by kernel_rfl) rfl rfl ?_
              refine fa rfl rfl ti33 rfl rfl ti28 rfl ?_
              refine ldB (v := slV Bound _ _ _ _) rfl rfl rfl rfl ti28 rfl rfl ?_
              refine pu (v := .sc _) rfl rfl (fun _ => rfl) ?_
              refine fa rfl rfl ti33 rfl rfl ti28 rfl ?_
              refine ldB (v := slV Bound _ _ _ _) rfl rfl rfl rfl ti28 rfl rfl ?_
              refine pu (v := .sc _) rfl rfl (fun _ => rfl) ?_
              obtain ⟨h12, hR⟩ := chkE hR
              refine ixS0 (α := Bound) rfl rfl rfl ti28 rfl ti45 rfl h12 ?_
              refine ldE (α := Bound) (v := .agg _) rfl rfl rfl (ixlt h12) ti45 rfl rfl rfl rfl ?_
              refine ldB (v := .agg _) rfl rfl rfl rfl ti45 rfl rfl ?_
              obtain ⟨r13, hr13, hR⟩ := bindE hR
              refine cls [] rfl rfl cb22 (ok22 (gt s5.2.1 s5.2.2) (gt c.At s5.2.2) _ hr13) (.cons (.agg (.cons (.sc _) (.cons (.sc _) (.cons (.sc _) (.nil)))) rfl) (.cons (.agg (.cons (.sc _) (.cons (.sc _) (.cons (.sc _) (.nil)))) rfl) (.nil))) (.inr rfl) rfl ?_
              refine ixS0 (α := Bound) rfl rfl rfl ti28 rfl ti45 rfl h12 ?_
              refine stE (α := Bound) (y := r13) rfl rfl rfl (ixlt h12) ti45 rfl rfl rfl rfl rfl ?_
              refine RunC.blk ?_
              refine RunC.fin ?_
              have hR := Option.some.inj hR; subst hR
              exact Weak.turnL [(0, 0), (1, 0), (2, 0), (3, 0)] [] rfl rfl (tc (trP' rfl rfl rfl rfl) (tc (trP' rfl rfl rfl rfl) (tc trR1 (tc (.sc _) (tc (.sc _) tn))))) (mc rfl (.box rfl (.cons (.sc _) (.cons (.sc _) (.cons (.sc _) (.cons (trS' rfl rfl rfl rfl rfl) (.cons (trS' rfl rfl rfl rfl (by simp only [List.length_set])) (.nil)))))) rfl) (mc rfl (btrA' rfl) (mc rfl (btrA' rfl) (mc rfl (.box rfl (.cons (.sc _) (.cons (.sc _) (.cons (.sc _) (.cons (.sc _) (.cons (.sc _) (.nil)))))) rfl) mn))))
          · refine AWP.rgC 12 rfl rfl ?_
            refine pu (v := .sc _) rfl rfl (fun _ => rfl) ?_
            refine pu (v := .sc _) rfl rfl (fun _ => rfl) ?_
            refine RunC.fin ?_
            refine ⟨(z8.1, z8.2, w6 (s5.2.2 + 1)), (Option.some.inj hR).symm, ?_⟩
            exact Weak.turnL [(0, 0), (1, 0), (2, 0), (3, 0)] [] rfl rfl (tc (trP' rfl rfl rfl rfl) (tc (trP' rfl rfl rfl rfl) (tc trR1 (tc (.sc _) (tc (.sc _) tn))))) (mc rfl (.box rfl (.cons (.sc _) (.cons (.sc _) (.cons (.sc _) (.cons (trS' rfl rfl rfl rfl rfl) (.cons (trS' rfl rfl rfl rfl rfl) (.nil)))))) rfl) (mc rfl (btrA' rfl) (mc rfl (btrA' rfl) (mc rfl (.box rfl (.cons (.sc _) (.cons (.sc _) (.cons (.sc _) (.cons (.sc _) (.cons (.sc _) (.nil)))))) rfl) mn))))
        · refine AWP.exit ?_
          refine exT ?_
          refine exT ?_
          refine exH (skT ?_)
          refine ⟨(s5.1, s5.2.1), (Option.some.inj hR).symm, ?_⟩
          exact Weak.turnL [(0, 0), (1, 0), (2, 0), (3, 0)] [] rfl rfl (tc (trP' rfl rfl rfl rfl) (tc (trP' rfl rfl rfl rfl) tn)) (mc rfl (.box rfl (.cons (.sc _) (.cons (.sc _) (.cons (.sc _) (.cons (trS' rfl rfl rfl rfl rfl) (.cons (trS' rfl rfl rfl rfl rfl) (.nil)))))) rfl) (mc rfl (btrA' rfl) (mc rfl (btrA' rfl) (mc rfl (.box rfl (.cons (.sc _) (.cons (.sc _) (.cons (.sc _) (.cons (.sc _) (.cons (.sc _) (.nil)))))) rfl) mn))))
      · refine skT ?_
        refine AWP.sq ?_
        refine AWP.rgC 16 rfl rfl ?_
        refine ldB (v := .agg _) rfl rfl rfl rfl ti33 rfl rfl ?_
        refine stB (cs' := [.sc (.int .i64 r4.W), .sc (.int .i64 r4.H), .sc (.int .i64 (w6 (r4.N + 1))), slV Int 1 0 0 z6.1.length, slV Bound 2 0 0 z6.2.length]) rfl rfl rfl rfl ti33 rfl rfl rfl rfl rfl ?_
        refine pu (v := .sc _) rfl rfl (fun _ => rfl) ?_
        refine RunC.fin ?_
        refine AWP.ret ?_
        have hR := Option.some.inj hR; subst hR
        exact hQ _ _ (LS.mk [(4, .ptr 0 0 0), (5, .sc (.int .i64 0))] (lblks 0 [boxB (α := stack_Stack) true (stack_Stack.mk r4.W r4.H (w6 (r4.N + 1)) z6.1 z6.2)]) 1) (.tup [aggV (α := stack_Stack) true (stack_Stack.mk r4.W r4.H (w6 (r4.N + 1)) z6.1 z6.2), .sc (.int .i64 0)]) [] (.inr rfl) (Weak.turnL [(3, 0)] [1, 2] rfl rfl (tc (trP' rfl rfl rfl rfl) (tc (.sc _) tn)) (mc rfl (.box rfl (.cons (.sc _) (.cons (.sc _) (.cons (.sc _) (.cons (trF' rfl rfl id rfl) (.cons (trF' rfl rfl id rfl) (.nil)))))) rfl) mn)) (ro2 (rvC (v := aggV (α := stack_Stack) true (stack_Stack.mk r4.W r4.H (w6 (r4.N + 1)) z6.1 z6.2)) rfl rfl ti33 rfl) (rvT (v := .sc (.int .i64 0)) rfl)) rfl rfl (.tup (.cons ldA (.cons (.sc _) .nil))) pn
theorem ok21 (l : List Cells) (r : Cells × Int) (hR : stack_All l = some r) : FnP Try.prog 21 [rowV false l] (.tup [aggV (α := Cells) true r.1, .sc (.int .i64 r.2)]) := by
  refine fnP_of (FnX.walk Try.func21 rfl 53 0 (by simp [Try.ntmps21]) rfl fun W S F Q hQ => ?_)
  unfold stack_All at hR
  refine AWP.sq ?_
  refine AWP.rgC 8 rfl rfl ?_
  refine al (cs := [.sc (.int .i64 0), .sc (.int .i64 0), .sc (.slice none 0 0)]) 0 rfl rfl ti30 rfl rfl ?_
  refine pu (v := .sc _) rfl rfl (fun _ => rfl) ?_
  refine RunC.fin ?_
  refine AWP.sq ?_
  refine AWP.sq ?_
  refine AWP.rgC 20 rfl rfl ?_
  refine pu (v := rowV _ l) rfl rfl (fun _ => rfl) ?_
  refine lenL (α := Cells) rfl rfl ti27 rfl ?_
  refine pu (v := .sc _) rfl rfl (fun _ => rfl) ?_
  refine RunC.fin ?_
  refine AWP.cd hR rfl (fun h1 hR => ?_) fun h1 hR => ?_
  · refine AWP.sq ?_
    refine AWP.rgC 32 rfl rfl ?_
    refine bu (cs := [.sc (.int .i64 0), .sc (.int .i64 0), .sc (.slice none 0 0)]) rfl bt30 rfl ?_
    refine stB (cs' := [.sc (.int .i64 0), .sc (.int .i64 0), .sc (.slice none 0 0)]) rfl rfl rfl rfl ti30 rfl rfl rfl rfl rfl ?_
    refine pu (v := .sc _) rfl rfl (fun _ => rfl) ?_
    refine RunC.fin ?_
    refine AWP.ret ?_
    refine rtT ?_
    have hR := Option.some.inj hR; subst hR
    exact hQ _ _ (LS.mk [(2, .ptr 0 0 0), (3, .sc (.int .i64 8))] (lblks 0 [boxB (α := Cells) true (Cells.mk 0 0 [])]) 1) (.tup [aggV (α := Cells) true (Cells.mk 0 0 []), .sc (.int .i64 8)]) [] (.inr rfl) (Weak.turnL [(0, 0)] [] rfl rfl (tc (trP' rfl rfl rfl rfl) (tc (.sc _) tn)) (mc rfl (.box rfl (.cons (.sc _) (.cons (.sc _) (.cons trN (.nil)))) rfl) mn)) (ro2 (rvC (v := aggV (α := Cells) true (Cells.mk 0 0 [])) rfl rfl ti30 rfl) (rvT (v := .sc (.int .i64 8)) rfl)) rfl rfl (.tup (.cons ldA (.cons (.sc _) .nil))) pn
  · refine AWP.skip ?_
    refine skT ?_
    refine AWP.sq ?_
    refine AWP.sq ?_
    refine AWP.rgC 32 rfl rfl ?_
    refine pu (v := rowV _ l) rfl rfl (fun _ => rfl) ?_
    refine lenL (α := Cells) rfl rfl ti27 rfl ?_
    refine pu (v := .sc _) rfl rfl (fun _ => rfl) ?_
    refine RunC.fin ?_
    refine AWP.cd hR rfl (fun h2 hR => ?_) fun h2 hR => ?_
    · refine AWP.sq ?_
      refine AWP.rgC 44 rfl rfl ?_
      refine bu (cs := [.sc (.int .i64 0), .sc (.int .i64 0), .sc (.slice none 0 0)]) rfl bt30 rfl ?_
      refine stB (cs' := [.sc (.int .i64 0), .sc (.int .i64 0), .sc (.slice none 0 0)]) rfl rfl rfl rfl ti30 rfl rfl rfl rfl rfl ?_
      refine pu (v := .sc _) rfl rfl (fun _ => rfl) ?_
      refine RunC.fin ?_
      refine AWP.ret ?_
      refine rtT ?_
      have hR := Option.some.inj hR; subst hR
      exact hQ _ _ (LS.mk [(2, .ptr 0 0 0), (3, .sc (.int .i64 2))] (lblks 0 [boxB (α := Cells) true (Cells.mk 0 0 [])]) 1) (.tup [aggV (α := Cells) true (Cells.mk 0 0 []), .sc (.int .i64 2)]) [] (.inr rfl) (Weak.turnL [(0, 0)] [] rfl rfl (tc (trP' rfl rfl rfl rfl) (tc (.sc _) tn)) (mc rfl (.box rfl (.cons (.sc _) (.cons (.sc _) (.cons trN (.nil)))) rfl) mn)) (ro2 (rvC (v := aggV (α := Cells) true (Cells.mk 0 0 [])) rfl rfl ti30 rfl) (rvT (v := .sc (.int .i64 2)) rfl)) rfl rfl (.tup (.cons ldA (.cons (.sc _) .nil))) pn
    · refine AWP.skip ?_
      refine skT ?_
      refine AWP.sq ?_
      refine AWP.rgD 92 [0, 1, 3, 7, 0, 16, 48, 112, 255, 511, 1023, 1023, 0, 6143, 16383] ⟨[], [none, none, none, some [], none, none, none, some [], none, none, none, none, none, some [80], none]⟩ hmix (by kernel_rfl) rfl rfl ?_
      refine pu (v := rowV _ l) rfl rfl (fun _ => rfl) ?_
      obtain ⟨h3, hR⟩ := chkE hR
      refine ixL (α := Cells) rfl rfl rfl ti27 rfl ti30 rfl h3 ?_
      refine fr rfl rfl ti30 rfl rfl ti3 rfl ?_
      refine ldR (v := .sc _) rfl rfl ti3 rfl ?_
      refine pu (v := rowV _ l) rfl rfl (fun _ => rfl) ?_
      refine ixL (α := Cells) rfl rfl rfl ti27 rfl ti30 rfl h3 ?_
      refine fr rfl rfl ti30 rfl rfl ti3 rfl ?_
      refine ldR (v := .sc _) rfl rfl ti3 rfl ?_
      obtain ⟨r4, hr4, hR⟩ := bindE hR
      refine cls [] rfl rfl cb15 (ok15 (gt l 0).W (gt l 0).H _ hr4) (.cons (.sc _) (.cons (.sc _) (.nil))) (.inr rfl) rfl ?_
      refine pu (v := .tup _) rfl rfl (fun _ => rfl) ?_
      refine pu (v := .agg _) rfl rfl (fun _ => rfl) ?_
      refine pu (v := .sc _) rfl rfl (fun _ => rfl) ?_
      refine al (cs := [.sc (.int .i64 0), .sc (.int .i64 0), .sc (.int .i64 0), .sc (.slice none 0 0), .sc (.slice none 0 0)]) 80 rfl rfl ti33 rfl rfl ?_
      refine stB (cs' := [.sc (.int .i64 r4.1.W), .sc (.int .i64 r4.1.H), .sc (.int .i64 r4.1.N), rowV (α := Int) true r4.1.Holes, rowV (α := Bound) true r4.1.At]) rfl rfl rfl rfl ti33 rfl rfl rfl rfl rfl ?_
      refine pu (v := .sc _) rfl rfl (fun _ => rfl) ?_
      refine RunC.fin ?_
      refine AWP.sq ?_
      refine AWP.sq ?_
      refine AWP.rgC 104 rfl rfl ?_
      refine pu (v := rowV _ l) rfl rfl (fun _ => rfl) ?_
      refine lenL (α := Cells) rfl rfl ti27 rfl ?_
      refine pu (v := .sc _) rfl rfl (fun _ => rfl) ?_
      refine RunC.fin ?_
      refine AWP.loopK' (fun s5 : stack_Stack × Int × Int => LS.mk [(2, .ptr 0 0 0), (4, .ptr 1 0 0), (5, .sc (.int .i64 s5.2.1)), (28, rowV (α := Cells) false l), (29, .sc (.int .i64 (l.length : Int))), (30, .sc (.int .i64 s5.2.2))] (lblks 0 [.box [.sc (.int .i64 0), .sc (.int .i64 0), .sc (.slice none 0 0)], boxB (α := stack_Stack) true s5.1]) 2) (fun z6 : stack_Stack × Int => LS.mk [(2, .ptr 0 0 0), (4, .ptr 1 0 0), (5, .sc (.int .i64 z6.2))] (lblks 0 [.box [.sc (.int .i64 0), .sc (.int .i64 0), .sc (.slice none 0 0)], boxB (α := stack_Stack) true z6.1]) 2) (stack_All.l1 l) hR (s0 := (r4.1, r4.2, 0)) (Weak.turnL [(0, 0), (80, 0)] [] rfl rfl (tc (trP' rfl rfl rfl rfl) (tc (trP' rfl rfl rfl rfl) (tc (.sc _) (tc trR1 (tc (.sc _) (tc (.sc _) tn)))))) (mc rfl (.box rfl (.cons (.sc _) (.cons (.sc _) (.cons (.sc _) (.nil)))) rfl) (mc rfl (.box rfl (.cons (.sc _) (.cons (.sc _) (.cons (.sc _) (.cons trR1 (.cons trR1 (.nil)))))) rfl) mn))) (fun s5 o5 hR hE5 => ?_) fun z6 hR => ?_
      · unfold stack_All.l1 at hR
        refine AWP.sq ?_
        refine AWP.rgC 6 rfl rfl ?_
        refine pu (v := .sc _) rfl rfl (fun _ => rfl) ?_
        refine RunC.fin ?_
        refine AWP.sq ?_
        refine AWP.cd hR rfl (fun h7 hR => ?_) fun h7 hR => ?_
        · refine AWP.skip ?_
          refine skT ?_
          refine AWP.sq ?_
          refine AWP.block ?_
          refine AWP.sq ?_
          refine AWP.rgC 22 rfl rfl ?_
          obtain ⟨h8, hR⟩ := chkE hR
          refine ixL (α := Cells) rfl rfl rfl ti27 rfl ti30 rfl h8 ?_
          refine ldR (v := .agg _) rfl rfl ti30 rfl ?_
          refine al (cs := [.sc (.int .i64 0), .sc (.int .i64 0), .sc (.slice none 0 0)]) 14 rfl rfl ti30 rfl rfl ?_
          refine stB (cs' := [.sc (.int .i64 (gt l s5.2.2).W), .sc (.int .i64 (gt l s5.2.2).H), rowV (α := Bound) false (gt l s5.2.2).At]) rfl rfl rfl rfl ti30 rfl rfl rfl rfl rfl ?_
          refine RunC.fin ?_
          refine AWP.sq ?_
          refine AWP.sq ?_
          refine AWP.rgC 30 rfl rfl ?_
          refine pu (v := .sc _) rfl rfl (fun _ => rfl) ?_
          refine pu (v := .sc _) rfl rfl (fun _ => rfl) ?_
          refine RunC.fin ?_
          refine AWP.cd hR rfl (fun h9 hR => ?_) fun h9 hR => ?_
          · refine AWP.sq ?_
            refine AWP.rgC 46 rfl rfl ?_
            refine bu (cs := [.sc (.int .i64 0), .sc (.int .i64 0), .sc (.slice none 0 0)]) rfl bt30 rfl ?_
            refine pu (v := .sc _) rfl rfl (fun _ => rfl) ?_
            refine stB (cs' := [.sc (.int .i64 0), .sc (.int .i64 0), .sc (.slice none 0 0)]) rfl rfl rfl rfl ti30 rfl rfl rfl rfl rfl ?_
            refine pu (v := .sc _) rfl rfl (fun _ => rfl) ?_
            refine RunC.fin ?_
            refine AWP.ret ?_
            refine rtT ?_
            refine rtB ?_
            refine rtT ?_
            refine rtT ?_
            refine rtB (rtT ?_)
            replace hR := escL hR hE5
            refine rtT ?_
            have hR := Option.some.inj hR; subst hR
            exact hQ _ _ (LS.mk [(2, .ptr 0 0 0), (3, .sc (.int .i64 s5.2.1))] (lblks 0 [boxB (α := Cells) true (Cells.mk 0 0 [])]) 1) (.tup [aggV (α := Cells) true (Cells.mk 0 0 []), .sc (.int .i64 s5.2.1)]) [] (.inr rfl) (Weak.turnL [(0, 0)] [] rfl rfl (tc (trP' rfl rfl rfl rfl) (tc (.sc _) tn)) (mc rfl (.box rfl (.cons (.sc _) (.cons (.sc _) (.cons trN (.nil)))) rfl) mn)) (ro2 (rvC (v := aggV (α := Cells) true (Cells.mk 0 0 [])) rfl rfl ti30 rfl) (rvT (v := .sc (.int .i64 s5.2.1)) rfl)) rfl rfl (.tup (.cons ldA (.cons (.sc _) .nil))) pn
          · refine AWP.skip ?_
            refine skT ?_
            refine AWP.rgC 62 rfl rfl ?_
            refine ldB (v := .agg _) rfl rfl rfl rfl ti33 rfl rfl ?_
            refine ldB (v := .agg _) rfl rfl rfl rfl ti30 rfl rfl ?_
            obtain ⟨r10, hr10, hR⟩ := bindE hR
            refine cls [] rfl rfl cb16 (ok16 s5.1 (gt l s5.2.2) _ hr10) (.cons (.agg (.cons (.sc _) (.cons (.sc _) (.cons (.sc _) (.cons ldR' (.cons ldR' (.nil)))))) rfl) (.cons (.agg (.cons (.sc _) (.cons (.sc _) (.cons ldR' (.nil)))) rfl) (.nil))) (.inr rfl) rfl ?_
            refine pu (v := .tup _) rfl rfl (fun _ => rfl) ?_
            refine pu (v := .agg _) rfl rfl (fun _ => rfl) ?_
            refine pu (v := .sc _) rfl rfl (fun _ => rfl) ?_
            refine stB (cs' := [.sc (.int .i64 r10.1.W), .sc (.int .i64 r10.1.H), .sc (.int .i64 r10.1.N), rowV (α := Int) true r10.1.Holes, rowV (α := Bound) true r10.1.At]) rfl rfl rfl rfl ti33 rfl rfl rfl rfl rfl ?_
            refine pu (v := .sc _) rfl rfl (fun _ => rfl) ?_
            refine RunC.blk ?_
            refine RunC.fin ?_
            refine AWP.rgC 70 rfl rfl ?_
            refine pu (v := .sc _) rfl rfl (fun _ => rfl) ?_
            refine pu (v := .sc _) rfl rfl (fun _ => rfl) ?_
            refine RunC.fin ?_
            refine ⟨(r10.1, r10.2, w6 (s5.2.2 + 1)), (Option.some.inj hR).symm, ?_⟩
            exact Weak.turnL [(0, 0), (1, 0)] [] rfl rfl (tc (trP' rfl rfl rfl rfl) (tc (trP' rfl rfl rfl rfl) (tc (.sc _) (tc trR1 (tc (.sc _) (tc (.sc _) tn)))))) (mc rfl (.box rfl (.cons (.sc _) (.cons (.sc _) (.cons (.sc _) (.nil)))) rfl) (mc rfl (.box rfl (.cons (.sc _) (.cons (.sc _) (.cons (.sc _) (.cons trR1 (.cons trR1 (.nil)))))) rfl) mn))
        · refine AWP.exit ?_
          refine exT ?_
          refine exT ?_
          refine exH (skT ?_)
          refine ⟨(s5.1, s5.2.1), (Option.some.inj hR).symm, ?_⟩
          exact Weak.turnL [(0, 0), (1, 0)] [] rfl rfl (tc (trP' rfl rfl rfl rfl) (tc (trP' rfl rfl rfl rfl) (tc (.sc _) tn))) (mc rfl (.box rfl (.cons (.sc _) (.cons (.sc _) (.cons (.sc _) (.nil)))) rfl) (mc rfl (.box rfl (.cons (.sc _) (.cons (.sc _) (.cons (.sc _) (.cons trR1 (.cons trR1 (.nil)))))) rfl) mn))
      · refine skT ?_
        refine AWP.sq ?_
        refine AWP.sq ?_
        refine AWP.rgC 10 rfl rfl ?_
        refine pu (v := .sc _) rfl rfl (fun _ => rfl) ?_
        refine pu (v := .sc _) rfl rfl (fun _ => rfl) ?_
        refine RunC.fin ?_
        refine AWP.cd hR rfl (fun h11 hR => ?_) fun h11 hR => ?_
        · refine AWP.sq ?_
          refine AWP.rgC 26 rfl rfl ?_
          refine bu (cs := [.sc (.int .i64 0), .sc (.int .i64 0), .sc (.slice none 0 0)]) rfl bt30 rfl ?_
          refine pu (v := .sc _) rfl rfl (fun _ => rfl) ?_
          refine stB (cs' := [.sc (.int .i64 0), .sc (.int .i64 0), .sc (.slice none 0 0)]) rfl rfl rfl rfl ti30 rfl rfl rfl rfl rfl ?_
          refine pu (v := .sc _) rfl rfl (fun _ => rfl) ?_
          refine RunC.fin ?_
          refine AWP.ret ?_
          refine rtT ?_
          have hR := Option.some.inj hR; subst hR
          exact hQ _ _ (LS.mk [(2, .ptr 0 0 0), (3, .sc (.int .i64 z6.2))] (lblks 0 [boxB (α := Cells) true (Cells.mk 0 0 [])]) 1) (.tup [aggV (α := Cells) true (Cells.mk 0 0 []), .sc (.int .i64 z6.2)]) [] (.inr rfl) (Weak.turnL [(0, 0)] [] rfl rfl (tc (trP' rfl rfl rfl rfl) (tc (.sc _) tn)) (mc rfl (.box rfl (.cons (.sc _) (.cons (.sc _) (.cons trN (.nil)))) rfl) mn)) (ro2 (rvC (v := aggV (α := Cells) true (Cells.mk 0 0 [])) rfl rfl ti30 rfl) (rvT (v := .sc (.int .i64 z6.2)) rfl)) rfl rfl (.tup (.cons ldA (.cons (.sc _) .nil))) pn
        · refine AWP.skip ?_
          refine skT ?_
          refine AWP.sq ?_
          refine AWP.rgC 34 rfl rfl ?_
          refine ldB (v := .agg _) rfl rfl rfl rfl ti33 rfl rfl ?_
          obtain ⟨r12, hr12, hR⟩ := bindE hR
          refine cls [] rfl rfl cb27 (ok27 z6.1 _ hr12) (.cons (.agg (.cons (.sc _) (.cons (.sc _) (.cons (.sc _) (.cons ldR' (.cons ldR' (.nil)))))) rfl) (.nil)) (.inr rfl) rfl ?_
          refine pu (v := .agg _) rfl rfl (fun _ => rfl) ?_
          refine pu (v := .sc _) rfl rfl (fun _ => rfl) ?_
          refine stB (cs' := [.sc (.int .i64 r12.1.W), .sc (.int .i64 r12.1.H), rowV (α := Bound) true r12.1.At]) rfl rfl rfl rfl ti30 rfl rfl rfl rfl rfl ?_
          refine pu (v := .sc _) rfl rfl (fun _ => rfl) ?_
          refine RunC.fin ?_
          refine AWP.ret ?_
          have hR := Option.some.inj hR; subst hR
          exact hQ _ _ (LS.mk [(2, .ptr 0 0 0), (3, .sc (.int .i64 r12.2))] (lblks 0 [boxB (α := Cells) true r12.1]) 1) (.tup [aggV (α := Cells) true r12.1, .sc (.int .i64 r12.2)]) [] (.inr rfl) (Weak.turnL [(0, 0)] [] rfl rfl (tc (trP' rfl rfl rfl rfl) (tc (.sc _) tn)) (mc rfl (.box rfl (.cons (.sc _) (.cons (.sc _) (.cons trR1 (.nil)))) rfl) mn)) (ro2 (rvC (v := aggV (α := Cells) true r12.1) rfl rfl ti30 rfl) (rvT (v := .sc (.int .i64 r12.2)) rfl)) rfl rfl (.tup (.cons ldA (.cons (.sc _) .nil))) pn
theorem ok20 (lo : Int) (hi : Int) (r : (List Bound)) (hR : spykeep4_piled_1 lo hi = some r) : FnP Try.prog 20 [.sc (.int .i64 lo), .sc (.int .i64 hi)] (rowV (α := Bound) true r) := by
  refine fnP_of (FnX.walk Try.func20 rfl 9 0 (by simp [Try.ntmps20]) rfl fun W S F Q hQ => ?_)
  unfold spykeep4_piled_1 at hR
  refine AWP.sq ?_
  refine AWP.rgC 4 rfl rfl ?_
  refine pu (v := .sc _) rfl rfl (fun _ => rfl) ?_
  refine RunC.fin ?_
  refine AWP.sq ?_
  refine AWP.rgC 24 rfl rfl ?_
  refine pu (v := .sc _) rfl rfl (fun _ => rfl) ?_
  refine pu (v := .sc _) rfl rfl (fun _ => rfl) ?_
  refine bu (cs := [.sc (.int .i64 lo), .sc (.int .i64 hi), .sc (.bool false)]) rfl bt45 rfl ?_
  refine bs (α := Bound) 16 true ([Bound.mk lo hi false] : List Bound) rfl rfl ti28 rfl ti45 rfl rfl rfl rfl rfl ?_
  refine pu (v := slV Bound _ _ _ _) rfl rfl (fun _ => rfl) ?_
  refine RunC.fin ?_
  refine AWP.ret ?_
  have hR := Option.some.inj hR; subst hR
  exact hQ _ _ (LS.mk [(4, rowV (α := Bound) true ([Bound.mk lo hi false] : List Bound))] (lblks 0 []) 0) (rowV (α := Bound) true ([Bound.mk lo hi false] : List Bound)) [] (.inr rfl) (Weak.turnL [] [16] rfl rfl (tc (trF' rfl rfl id rfl) tn) mn) (ro1 (rvT (v := rowV (α := Bound) true ([Bound.mk lo hi false] : List Bound)) rfl)) rfl rfl ldR' pn
theorem ok6 (x : Int) (n : Int) (r : Int) (hR : spymake_Below x n = some r) : FnP Try.prog 6 [.sc (.int .i64 x), .sc (.int .i64 n)] (.sc (.int .i64 r)) := by
  refine fnP_of (FnX.walk Try.func6 rfl 16 0 (by simp [Try.ntmps6]) rfl fun W S F Q hQ => ?_)
  unfold spymake_Below at hR
  refine AWP.sq ?_
  refine AWP.rgC 4 rfl rfl ?_
  refine pu (v := .sc _) rfl rfl (fun _ => rfl) ?_
  refine RunC.fin ?_
  refine AWP.sq ?_
  refine AWP.sq ?_
  refine AWP.rgC 12 rfl rfl ?_
  refine pu (v := .sc _) rfl rfl (fun _ => rfl) ?_
  refine pu (v := .sc _) rfl rfl (fun _ => rfl) ?_
  refine RunC.fin ?_
  refine AWP.cd hR rfl (fun h1 hR => ?_) fun h1 hR => ?_
  · refine AWP.sq ?_
    refine AWP.rgC 16 rfl rfl ?_
    refine pu (v := .sc _) rfl rfl (fun _ => rfl) ?_
    refine RunC.fin ?_
    refine AWP.ret ?_
    refine rtT ?_
    have hR := Option.some.inj hR; subst hR
    exact hQ _ _ (LS.mk [(4, .sc (.int .i64 0))] (lblks 0 []) 0) (.sc (.int .i64 0)) [] (.inr rfl) (Weak.turnL [] [] rfl rfl (tc (.sc _) tn) mn) (ro1 (rvT (v := .sc (.int .i64 0)) rfl)) rfl rfl (.sc _) pn
  · refine AWP.skip ?_
    refine skT ?_
    refine AWP.sq ?_
    refine AWP.rgC 28 rfl rfl ?_
    refine pu (v := .sc _) rfl rfl (fun _ => rfl) ?_
    refine pu (v := .sc _) rfl rfl (fun _ => rfl) ?_
    obtain ⟨h2, hR⟩ := chkE hR
    refine rm rfl rfl rfl h2 rfl ?_
    refine pu (v := .sc _) rfl rfl (fun _ => rfl) ?_
    refine RunC.fin ?_
    refine AWP.sq ?_
    refine AWP.sq ?_
    refine AWP.rgC 36 rfl rfl ?_
    refine pu (v := .sc _) rfl rfl (fun _ => rfl) ?_
    refine pu (v := .sc _) rfl rfl (fun _ => rfl) ?_
    refine RunC.fin ?_
    refine AWP.cd hR rfl (fun h3 hR => ?_) fun h3 hR => ?_
    · refine AWP.rgC 52 rfl rfl ?_
      refine pu (v := .sc _) rfl rfl (fun _ => rfl) ?_
      refine pu (v := .sc _) rfl rfl (fun _ => rfl) ?_
      refine pu (v := .sc _) rfl rfl (fun _ => rfl) ?_
      refine pu (v := .sc _) rfl rfl (fun _ => rfl) ?_
      refine RunC.fin ?_
      refine AWP.sq ?_
      refine AWP.rgC 60 rfl rfl ?_
      refine pu (v := .sc _) rfl rfl (fun _ => rfl) ?_
      refine pu (v := .sc _) rfl rfl (fun _ => rfl) ?_
      refine RunC.fin ?_
      refine AWP.ret ?_
      have hR := Option.some.inj hR; subst hR
      exact hQ _ _ (LS.mk [(4, .sc (.int .i64 (w6 ((Int.tmod x n) + n))))] (lblks 0 []) 0) (.sc (.int .i64 (w6 ((Int.tmod x n) + n)))) [] (.inr rfl) (Weak.turnL [] [] rfl rfl (tc (.sc _) tn) mn) (ro1 (rvT (v := .sc (.int .i64 (w6 ((Int.tmod x n) + n)))) rfl)) rfl rfl (.sc _) pn
    · refine AWP.skip ?_
      refine skT ?_
      refine AWP.sq ?_
      refine AWP.rgC 44 rfl rfl ?_
      refine pu (v := .sc _) rfl rfl (fun _ => rfl) ?_
      refine pu (v := .sc _) rfl rfl (fun _ => rfl) ?_
      refine RunC.fin ?_
      refine AWP.ret ?_
      have hR := Option.some.inj hR; subst hR
      exact hQ _ _ (LS.mk [(4, .sc (.int .i64 (Int.tmod x n)))] (lblks 0 []) 0) (.sc (.int .i64 (Int.tmod x n))) [] (.inr rfl) (Weak.turnL [] [] rfl rfl (tc (.sc _) tn) mn) (ro1 (rvT (v := .sc (.int .i64 (Int.tmod x n))) rfl)) rfl rfl (.sc _) pn
theorem ok14 (s : spymake_Stream) (n : Int) (r : Int × spymake_Stream) (hR : Stream_Next s n = some r) : FnD Try.prog 14 [boxB false s] [.ptr 0 0 0, .sc (.int .i64 n)] (.sc (.int .i64 r.1)) [boxB false r.2] := by
  refine FnX.walk Try.func14 rfl 64 1 (by simp [Try.ntmps14]) rfl fun W S F Q hQ => ?_
  unfold Stream_Next at hR
  refine AWP.sq ?_
  refine AWP.rgC 5 rfl rfl ?_
  refine pu (v := .sc _) rfl rfl (fun _ => rfl) ?_
  refine RunC.fin ?_
  refine AWP.sq ?_
  refine AWP.rgC 37 rfl rfl ?_
  refine pu (v := .ptr _ _ _) rfl rfl (fun _ => rfl) ?_
  refine pu (v := .ptr _ _ _) rfl rfl (fun _ => rfl) ?_
  refine fa rfl rfl ti25 rfl rfl ti3 rfl ?_
  refine ldB (v := .sc _) rfl rfl rfl rfl ti3 rfl rfl ?_
  refine pu (v := .sc _) rfl rfl (fun _ => rfl) ?_
  refine pu (v := .ptr _ _ _) rfl rfl (fun _ => rfl) ?_
  refine fa rfl rfl ti25 rfl rfl ti3 rfl ?_
  refine stB (cs' := [rowV (α := Int) false s.L, .sc (.int .i64 (w6 (s.at_ + 1)))]) rfl rfl rfl rfl ti3 rfl rfl rfl rfl rfl ?_
  refine RunC.fin ?_
  refine AWP.sq ?_
  refine AWP.sq ?_
  refine AWP.rgC 61 rfl rfl ?_
  refine pu (v := .ptr _ _ _) rfl rfl (fun _ => rfl) ?_
  refine pu (v := .ptr _ _ _) rfl rfl (fun _ => rfl) ?_
  refine fa rfl rfl ti25 rfl rfl ti22 rfl ?_
  refine ldB (v := rowV _ s.L) rfl rfl rfl rfl ti22 rfl rfl ?_
  refine lenL (α := Int) rfl rfl ti22 rfl ?_
  refine pu (v := .sc _) rfl rfl (fun _ => rfl) ?_
  refine RunC.fin ?_
  refine AWP.cd hR rfl (fun h1 hR => ?_) fun h1 hR => ?_
  · refine AWP.sq ?_
    refine AWP.rgC 93 rfl rfl ?_
    refine pu (v := .ptr _ _ _) rfl rfl (fun _ => rfl) ?_
    refine pu (v := .ptr _ _ _) rfl rfl (fun _ => rfl) ?_
    refine fa rfl rfl ti25 rfl rfl ti3 rfl ?_
    refine ldB (v := .sc _) rfl rfl rfl rfl ti3 rfl rfl ?_
    refine pu (v := .sc _) rfl rfl (fun _ => rfl) ?_
    refine pu (v := .sc _) rfl rfl (fun _ => rfl) ?_
    obtain ⟨r2, hr2, hR⟩ := bindE hR
    refine cls [] rfl rfl cb6 (ok6 (w6 ((w6 (s.at_ + 1)) * 7919)) n _ hr2) (.cons (.sc _) (.cons (.sc _) (.nil))) (.inr rfl) rfl ?_
    refine pu (v := .sc _) rfl rfl (fun _ => rfl) ?_
    refine RunC.fin ?_
    refine AWP.ret ?_
    refine rtT ?_
    have hR := Option.some.inj hR; subst hR
    exact hQ _ _ (LS.mk [(4, .sc (.int .i64 r2))] (lblks 0 [boxB (α := spymake_Stream) false (spymake_Stream.mk s.L (w6 (s.at_ + 1)))]) 1) (.sc (.int .i64 r2)) [] (.inr rfl) (Weak.turnL [(0, 0)] [] rfl rfl (tc (.sc _) tn) (mc rfl (.box rfl (.cons trR1 (.cons (.sc _) (.nil))) rfl) mn)) (ro1 (rvT (v := .sc (.int .i64 r2)) rfl)) rfl rfl (.sc _) (pc rfl bldB pn)
  · refine AWP.skip ?_
    refine skT ?_
    refine AWP.sq ?_
    refine AWP.rgD 109 [0, 1, 3, 7, 15, 0, 32, 96, 224, 480, 1023, 2047] ⟨[], [none, none, none, some [0], none, none, none, none, some [0], none, none, none]⟩ hmix (by kernel_rfl) rfl rfl ?_
    refine pu (v := .ptr _ _ _) rfl rfl (fun _ => rfl) ?_
    refine pu (v := .ptr _ _ _) rfl rfl (fun _ => rfl) ?_
    refine fa rfl rfl ti25 rfl rfl ti3 rfl ?_
    refine ldB (v := .sc _) rfl rfl rfl rfl ti3 rfl rfl ?_
    refine pu (v := .sc _) rfl rfl (fun _ => rfl) ?_
    refine pu (v := .ptr _ _ _) rfl rfl (fun _ => rfl) ?_
    refine pu (v := .ptr _ _ _) rfl rfl (fun _ => rfl) ?_
    refine fa rfl rfl ti25 rfl rfl ti22 rfl ?_
    refine ldB (v := rowV _ s.L) rfl rfl rfl rfl ti22 rfl rfl ?_
    refine lenL (α := Int) rfl rfl ti22 rfl ?_
    obtain ⟨h3, hR⟩ := chkE hR
    refine rm rfl rfl rfl h3 rfl ?_
    refine pu (v := .sc _) rfl rfl (fun _ => rfl) ?_
    refine RunC.fin ?_
    refine AWP.sq ?_
    refine AWP.rgD 157 [0, 1, 3, 7, 15, 0, 32, 96, 224, 480, 1023, 2047] ⟨[], [none, none, none, some [0], none, none, none, none, some [0], none, none, none]⟩ hmix (by kernel_rfl) rfl rfl ?_
    refine pu (v := .ptr _ _ _) rfl rfl (fun _ => rfl) ?_
    refine pu (v := .ptr _ _ _) rfl rfl (fun _ => rfl) ?_
    refine fa rfl rfl ti25 rfl rfl ti3 rfl ?_
    refine ldB (v := .sc _) rfl rfl rfl rfl ti3 rfl rfl ?_
    refine pu (v := .sc _) rfl rfl (fun _ => rfl) ?_
    refine pu (v := .ptr _ _ _) rfl rfl (fun _ => rfl) ?_
    refine pu (v := .ptr _ _ _) rfl rfl (fun _ => rfl) ?_
    refine fa rfl rfl ti25 rfl rfl ti22 rfl ?_
    refine ldB (v := rowV _ s.L) rfl rfl rfl rfl ti22 rfl rfl ?_
    refine lenL (α := Int) rfl rfl ti22 rfl ?_
    refine qu rfl rfl rfl h3 rfl ?_
    refine pu (v := .sc _) rfl rfl (fun _ => rfl) ?_
    refine RunC.fin ?_
    refine AWP.sq ?_
    refine AWP.rgC 221 rfl rfl ?_
    refine pu (v := .ptr _ _ _) rfl rfl (fun _ => rfl) ?_
    refine pu (v := .ptr _ _ _) rfl rfl (fun _ => rfl) ?_
    refine fa rfl rfl ti25 rfl rfl ti22 rfl ?_
    refine ldB (v := rowV _ s.L) rfl rfl rfl rfl ti22 rfl rfl ?_
    refine pu (v := .sc _) rfl rfl (fun _ => rfl) ?_
    obtain ⟨h4, hR⟩ := chkE hR
    refine ixL (α := Int) rfl rfl rfl ti22 rfl ti3 rfl h4 ?_
    refine ldR (v := .sc _) rfl rfl ti3 rfl ?_
    obtain ⟨r5, hr5, hR⟩ := bindE hR
    refine cls [] rfl rfl cb6 (ok6 (gt s.L (Int.tmod (w6 ((w6 (s.at_ + 1)) - 1)) (s.L.length : Int))) 1073741824 _ hr5) (.cons (.sc _) (.cons (.sc _) (.nil))) (.inr rfl) rfl ?_
    refine pu (v := .sc _) rfl rfl (fun _ => rfl) ?_
    refine pu (v := .sc _) rfl rfl (fun _ => rfl) ?_
    obtain ⟨v6, ev6, hR⟩ := letE hR
    refine pu (v := .sc _) rfl rfl (fun _ => puI ev6) ?_
    obtain ⟨v7, ev7, hR⟩ := letE hR
    refine pu (v := .sc _) rfl rfl (fun _ => puI ev7) ?_
    refine pu (v := .sc _) rfl rfl (fun _ => rfl) ?_
    refine pu (v := .sc _) rfl rfl (fun _ => rfl) ?_
    obtain ⟨r8, hr8, hR⟩ := bindE hR
    refine cls [] rfl rfl cb6 (ok6 (w6 (r5 + v7)) n _ hr8) (.cons (.sc _) (.cons (.sc _) (.nil))) (.inr rfl) rfl ?_
    refine pu (v := .sc _) rfl rfl (fun _ => rfl) ?_
    refine RunC.fin ?_
    refine AWP.ret ?_
    have hR := Option.some.inj hR; subst hR
    exact hQ _ _ (LS.mk [(4, .sc (.int .i64 r8))] (lblks 0 [boxB (α := spymake_Stream) false (spymake_Stream.mk s.L (w6 (s.at_ + 1)))]) 1) (.sc (.int .i64 r8)) [] (.inr rfl) (Weak.turnL [(0, 0)] [] rfl rfl (tc (.sc _) tn) (mc rfl (.box rfl (.cons trR1 (.cons (.sc _) (.nil))) rfl) mn)) (ro1 (rvT (v := .sc (.int .i64 r8)) rfl)) rfl rfl (.sc _) (pc rfl bldB pn)
theorem ok13 (s1_ : List Bound) (s2_ : List Bound) (r : Bool) (hR : slices_Equal_Bound s1_ s2_ = some r) : FnP Try.prog 13 [rowV false s1_, rowV false s2_] (.sc (.bool r)) := by
  refine fnP_of (FnX.walk Try.func13 rfl 26 0 (by simp [Try.ntmps13]) rfl fun W S F Q hQ => ?_)
  unfold slices_Equal_Bound at hR
  refine AWP.sq ?_
  refine AWP.rgC 4 rfl rfl ?_
  refine pu (v := .sc _) rfl rfl (fun _ => rfl) ?_
  refine RunC.fin ?_
  refine AWP.sq ?_
  refine AWP.sq ?_
  refine AWP.rgC 24 rfl rfl ?_
  refine pu (v := rowV _ s1_) rfl rfl (fun _ => rfl) ?_
  refine lenL (α := Bound) rfl rfl ti28 rfl ?_
  refine pu (v := rowV _ s2_) rfl rfl (fun _ => rfl) ?_
  refine lenL (α := Bound) rfl rfl ti28 rfl ?_
  refine pu (v := .sc _) rfl rfl (fun _ => rfl) ?_
  refine RunC.fin ?_
  refine AWP.cd hR rfl (fun h1 hR => ?_) fun h1 hR => ?_
  · refine AWP.sq ?_
    refine AWP.rgC 28 rfl rfl ?_
    refine pu (v := .sc _) rfl rfl (fun _ => rfl) ?_
    refine RunC.fin ?_
    refine AWP.ret ?_
    refine rtT ?_
    have hR := Option.some.inj hR; subst hR
    exact hQ _ _ (LS.mk [(4, .sc (.bool false))] (lblks 0 []) 0) (.sc (.bool false)) [] (.inr rfl) (Weak.turnL [] [] rfl rfl (tc (.sc _) tn) mn) (ro1 (rvT (v := .sc (.bool false)) rfl)) rfl rfl (.sc _) pn
  · refine AWP.skip ?_
    refine skT ?_
    refine AWP.sq ?_
    refine AWP.sq ?_
    refine AWP.rgC 36 rfl rfl ?_
    refine pu (v := rowV _ s1_) rfl rfl (fun _ => rfl) ?_
    refine lenL (α := Bound) rfl rfl ti28 rfl ?_
    refine pu (v := .sc _) rfl rfl (fun _ => rfl) ?_
    refine RunC.fin ?_
    refine AWP.loopK' (fun s2 : Int => LS.mk [(0, rowV (α := Bound) false s1_), (1, rowV (α := Bound) false s2_), (12, .sc (.int .i64 (s1_.length : Int))), (13, .sc (.int .i64 s2))] (lblks 0 []) 0) (fun z3 : Unit => LS.mk [] (lblks 0 []) 0) (slices_Equal_Bound.l1 s1_ s2_) hR (s0 := 0) (Weak.turnL [] [] rfl rfl (tc trR1 (tc trR1 (tc (.sc _) (tc (.sc _) tn)))) mn) (fun s2 o2 hR hE2 => ?_) fun z3 hR => ?_
    · unfold slices_Equal_Bound.l1 at hR
      refine AWP.sq ?_
      refine AWP.rgC 4 rfl rfl ?_
      refine pu (v := .sc _) rfl rfl (fun _ => rfl) ?_
      refine RunC.fin ?_
      refine AWP.sq ?_
      refine AWP.cd hR rfl (fun h4 hR => ?_) fun h4 hR => ?_
      · refine AWP.skip ?_
        refine skT ?_
        refine AWP.sq ?_
        refine AWP.block ?_
        refine AWP.sq ?_
        refine AWP.rgC 12 rfl rfl ?_
        refine pu (v := .sc _) rfl rfl (fun _ => rfl) ?_
        refine pu (v := .sc _) rfl rfl (fun _ => rfl) ?_
        refine RunC.fin ?_
        refine AWP.sq ?_
        refine AWP.rgD 48 [0, 0, 3, 7, 0, 0, 48, 112, 255] ⟨[], [none, none, none, some [], none, none, none, some [], none]⟩ hmix (by kernel_rfl) rfl rfl ?_
        refine pu (v := rowV _ s1_) rfl rfl (fun _ => rfl) ?_
        refine pu (v := .sc _) rfl rfl (fun _ => rfl) ?_
        obtain ⟨h5, hR⟩ := chkE hR
        refine ixL (α := Bound) rfl rfl rfl ti28 rfl ti45 rfl h5 ?_
        refine ldR (v := .agg _) rfl rfl ti45 rfl ?_
        refine pu (v := rowV _ s2_) rfl rfl (fun _ => rfl) ?_
        refine pu (v := .sc _) rfl rfl (fun _ => rfl) ?_
        obtain ⟨h6, hR⟩ := chkE hR
        refine ixL (α := Bound) rfl rfl rfl ti28 rfl ti45 rfl h6 ?_
        refine ldR (v := .agg _) rfl rfl ti45 rfl ?_
        refine ns (cs := [.sc (.int .i64 (gt s1_ s2).Lo), .sc (.int .i64 (gt s1_ s2).Hi), .sc (.bool (gt s1_ s2).Unknown)]) (ds := [.sc (.int .i64 (gt s2_ s2).Lo), .sc (.int .i64 (gt s2_ s2).Hi), .sc (.bool (gt s2_ s2).Unknown)]) rfl rfl rfl qa45 qg45 (qe45 _ _ _ _ _ _) ?_
        refine RunC.fin ?_
        refine AWP.cd hR rfl (fun h7 hR => ?_) fun h7 hR => ?_
        · refine AWP.sq ?_
          refine AWP.rgC 52 rfl rfl ?_
          refine pu (v := .sc _) rfl rfl (fun _ => rfl) ?_
          refine RunC.fin ?_
          refine AWP.ret ?_
          refine rtB ?_
          refine rtT ?_
          refine rtT ?_
          refine rtB (rtT ?_)
          replace hR := escL hR hE2
          refine rtT ?_
          have hR := Option.some.inj hR; subst hR
          exact hQ _ _ (LS.mk [(4, .sc (.bool false))] (lblks 0 []) 0) (.sc (.bool false)) [] (.inr rfl) (Weak.turnL [] [] rfl rfl (tc (.sc _) tn) mn) (ro1 (rvT (v := .sc (.bool false)) rfl)) rfl rfl (.sc _) pn
        · refine AWP.skip ?_
          refine skB ?_
          refine skT ?_
          refine AWP.rgC 56 rfl rfl ?_
          refine pu (v := .sc _) rfl rfl (fun _ => rfl) ?_
          refine pu (v := .sc _) rfl rfl (fun _ => rfl) ?_
          refine RunC.fin ?_
          refine ⟨(w6 (s2 + 1)), (Option.some.inj hR).symm, ?_⟩
          exact Weak.turnL [] [] rfl rfl (tc trR1 (tc trR1 (tc (.sc _) (tc (.sc _) tn)))) mn
      · refine AWP.exit ?_
        refine exT ?_
        refine exT ?_
        refine exH (skT ?_)
        refine ⟨(), (Option.some.inj hR).symm, ?_⟩
        exact Weak.turnL [] [] rfl rfl tn mn
    · refine skT ?_
      refine AWP.sq ?_
      refine AWP.rgC 4 rfl rfl ?_
      refine pu (v := .sc _) rfl rfl (fun _ => rfl) ?_
      refine RunC.fin ?_
      refine AWP.ret ?_
      have hR := Option.some.inj hR; subst hR
      exact hQ _ _ (LS.mk [(4, .sc (.bool true))] (lblks 0 []) 0) (.sc (.bool true)) [] (.inr rfl) (Weak.turnL [] [] rfl rfl (tc (.sc _) tn) mn) (ro1 (rvT (v := .sc (.bool true)) rfl)) rfl rfl (.sc _) pn
theorem ok12 (s1_ : List Int) (s2_ : List Int) (r : Bool) (hR : slices_Equal_Int s1_ s2_ = some r) : FnP Try.prog 12 [rowV false s1_, rowV false s2_] (.sc (.bool r)) := by
  refine fnP_of (FnX.walk Try.func12 rfl 26 0 (by simp [Try.ntmps12]) rfl fun W S F Q hQ => ?_)
  unfold slices_Equal_Int at hR
  refine AWP.sq ?_
  refine AWP.rgC 4 rfl rfl ?_
  refine pu (v := .sc _) rfl rfl (fun _ => rfl) ?_
  refine RunC.fin ?_
  refine AWP.sq ?_
  refine AWP.sq ?_
  refine AWP.rgC 24 rfl rfl ?_
  refine pu (v := rowV _ s1_) rfl rfl (fun _ => rfl) ?_
  refine lenL (α := Int) rfl rfl ti22 rfl ?_
  refine pu (v := rowV _ s2_) rfl rfl (fun _ => rfl) ?_
  refine lenL (α := Int) rfl rfl ti22 rfl ?_
  refine pu (v := .sc _) rfl rfl (fun _ => rfl) ?_
  refine RunC.fin ?_
  refine AWP.cd hR rfl (fun h1 hR => ?_) fun h1 hR => ?_
  · refine AWP.sq ?_
    refine AWP.rgC 28 rfl rfl ?_
    refine pu (v := .sc _) rfl rfl (fun _ => rfl) ?_
    refine RunC.fin ?_
    refine AWP.ret ?_
    refine rtT ?_
    have hR := Option.some.inj hR; subst hR
    exact hQ _ _ (LS.mk [(4, .sc (.bool false))] (lblks 0 []) 0) (.sc (.bool false)) [] (.inr rfl) (Weak.turnL [] [] rfl rfl (tc (.sc _) tn) mn) (ro1 (rvT (v := .sc (.bool false)) rfl)) rfl rfl (.sc _) pn
  · refine AWP.skip ?_
    refine skT ?_
    refine AWP.sq ?_
    refine AWP.sq ?_
    refine AWP.rgC 36 rfl rfl ?_
    refine pu (v := rowV _ s1_) rfl rfl (fun _ => rfl) ?_
    refine lenL (α := Int) rfl rfl ti22 rfl ?_
    refine pu (v := .sc _) rfl rfl (fun _ => rfl) ?_
    refine RunC.fin ?_
    refine AWP.loopK' (fun s2 : Int => LS.mk [(0, rowV (α := Int) false s1_), (1, rowV (α := Int) false s2_), (12, .sc (.int .i64 (s1_.length : Int))), (13, .sc (.int .i64 s2))] (lblks 0 []) 0) (fun z3 : Unit => LS.mk [] (lblks 0 []) 0) (slices_Equal_Int.l1 s1_ s2_) hR (s0 := 0) (Weak.turnL [] [] rfl rfl (tc trR1 (tc trR1 (tc (.sc _) (tc (.sc _) tn)))) mn) (fun s2 o2 hR hE2 => ?_) fun z3 hR => ?_
    · unfold slices_Equal_Int.l1 at hR
      refine AWP.sq ?_
      refine AWP.rgC 4 rfl rfl ?_
      refine pu (v := .sc _) rfl rfl (fun _ => rfl) ?_
      refine RunC.fin ?_
      refine AWP.sq ?_
      refine AWP.cd hR rfl (fun h4 hR => ?_) fun h4 hR => ?_
      · refine AWP.skip ?_
        refine skT ?_
        refine AWP.sq ?_
        refine AWP.block ?_
        refine AWP.sq ?_
        refine AWP.rgC 12 rfl rfl ?_
        refine pu (v := .sc _) rfl rfl (fun _ => rfl) ?_
        refine pu (v := .sc _) rfl rfl (fun _ => rfl) ?_
        refine RunC.fin ?_
        refine AWP.sq ?_
        refine AWP.rgD 48 [0, 0, 3, 7, 0, 0, 48, 112, 255] ⟨[], [none, none, none, some [], none, none, none, some [], none]⟩ hmix (by kernel_rfl) rfl rfl ?_
        refine pu (v := rowV _ s1_) rfl rfl (fun _ => rfl) ?_
        refine pu (v := .sc _) rfl rfl (fun _ => rfl) ?_
        obtain ⟨h5, hR⟩ := chkE hR
        refine ixL (α := Int) rfl rfl rfl ti22 rfl ti3 rfl h5 ?_
        refine ldR (v := .sc _) rfl rfl ti3 rfl ?_
        refine pu (v := rowV _ s2_) rfl rfl (fun _ => rfl) ?_
        refine pu (v := .sc _) rfl rfl (fun _ => rfl) ?_
        obtain ⟨h6, hR⟩ := chkE hR
        refine ixL (α := Int) rfl rfl rfl ti22 rfl ti3 rfl h6 ?_
        refine ldR (v := .sc _) rfl rfl ti3 rfl ?_
        refine pu (v := .sc _) rfl rfl (fun _ => rfl) ?_
        refine RunC.fin ?_
        refine AWP.cd hR rfl (fun h7 hR => ?_) fun h7 hR => ?_
        · refine AWP.sq ?_
          refine AWP.rgC 52 rfl rfl ?_
          refine pu (v := .sc _) rfl rfl (fun _ => rfl) ?_
          refine RunC.fin ?_
          refine AWP.ret ?_
          refine rtB ?_
          refine rtT ?_
          refine rtT ?_
          refine rtB (rtT ?_)
          replace hR := escL hR hE2
          refine rtT ?_
          have hR := Option.some.inj hR; subst hR
          exact hQ _ _ (LS.mk [(4, .sc (.bool false))] (lblks 0 []) 0) (.sc (.bool false)) [] (.inr rfl) (Weak.turnL [] [] rfl rfl (tc (.sc _) tn) mn) (ro1 (rvT (v := .sc (.bool false)) rfl)) rfl rfl (.sc _) pn
        · refine AWP.skip ?_
          refine skB ?_
          refine skT ?_
          refine AWP.rgC 56 rfl rfl ?_
          refine pu (v := .sc _) rfl rfl (fun _ => rfl) ?_
          refine pu (v := .sc _) rfl rfl (fun _ => rfl) ?_
          refine RunC.fin ?_
          refine ⟨(w6 (s2 + 1)), (Option.some.inj hR).symm, ?_⟩
          exact Weak.turnL [] [] rfl rfl (tc trR1 (tc trR1 (tc (.sc _) (tc (.sc _) tn)))) mn
      · refine AWP.exit ?_
        refine exT ?_
        refine exT ?_
        refine exH (skT ?_)
        refine ⟨(), (Option.some.inj hR).symm, ?_⟩
        exact Weak.turnL [] [] rfl rfl tn mn
    · refine skT ?_
      refine AWP.sq ?_
      refine AWP.rgC 4 rfl rfl ?_
      refine pu (v := .sc _) rfl rfl (fun _ => rfl) ?_
      refine RunC.fin ?_
      refine AWP.ret ?_
      have hR := Option.some.inj hR; subst hR
      exact hQ _ _ (LS.mk [(4, .sc (.bool true))] (lblks 0 []) 0) (.sc (.bool true)) [] (.inr rfl) (Weak.turnL [] [] rfl rfl (tc (.sc _) tn) mn) (ro1 (rvT (v := .sc (.bool true)) rfl)) rfl rfl (.sc _) pn
theorem ok11 (r : Bool) (hR : spykeep4_piled = some r) : FnP Try.prog 11 [] (.sc (.bool r)) := by
  refine fnP_of (FnX.walk Try.func11 rfl 29 0 (by simp [Try.ntmps11]) rfl fun W S F Q hQ => ?_)
  unfold spykeep4_piled at hR
  refine AWP.sq ?_
  refine AWP.rgC 4 rfl rfl ?_
  refine pu (v := .sc _) rfl rfl (fun _ => rfl) ?_
  refine RunC.fin ?_
  refine AWP.sq ?_
  refine AWP.rgC 8 rfl rfl ?_
  refine pu (v := .fn _ _) rfl rfl (fun _ => rfl) ?_
  refine RunC.fin ?_
  refine AWP.sq ?_
  refine AWP.rgC 64 rfl rfl ?_
  refine pu (v := .fn _ _) rfl rfl (fun _ => rfl) ?_
  obtain ⟨r1, hr1, hR⟩ := bindE hR
  refine cls [] rfl rfl cb20 (ok20 1 2 _ hr1) (.cons (.sc _) (.cons (.sc _) (.nil))) (.inr rfl) rfl ?_
  refine bu (cs := [.sc (.int .i64 1), .sc (.int .i64 1), rowV (α := Bound) true r1]) rfl bt30 rfl ?_
  refine pu (v := .fn _ _) rfl rfl (fun _ => rfl) ?_
  obtain ⟨r2, hr2, hR⟩ := bindE hR
  refine cls [] rfl rfl cb20 (ok20 10 30 _ hr2) (.cons (.sc _) (.cons (.sc _) (.nil))) (.inr rfl) rfl ?_
  refine bu (cs := [.sc (.int .i64 1), .sc (.int .i64 1), rowV (α := Bound) true r2]) rfl bt30 rfl ?_
  refine bs (α := Cells) 32 true ([Cells.mk 1 1 r1, Cells.mk 1 1 r2] : List Cells) rfl rfl ti27 rfl ti30 rfl rfl rfl rfl rfl ?_
  obtain ⟨r3, hr3, hR⟩ := bindE hR
  refine cls [32] rfl rfl cb21 (ok21 ([Cells.mk 1 1 r1, Cells.mk 1 1 r2] : List Cells) _ hr3) (.cons (ldS' rfl rfl rfl rfl) (.nil)) (.inl (by first | rfl | exact freshR | exact freshA | (simp only [V.fresh, V.freshs, freshR, freshA, Bool.and_self]))) rfl ?_
  refine pu (v := .tup _) rfl rfl (fun _ => rfl) ?_
  refine pu (v := .agg _) rfl rfl (fun _ => rfl) ?_
  refine pu (v := .sc _) rfl rfl (fun _ => rfl) ?_
  refine al (cs := [.sc (.int .i64 0), .sc (.int .i64 0), .sc (.slice none 0 0)]) 52 rfl rfl ti30 rfl rfl ?_
  refine stB (cs' := [.sc (.int .i64 r3.1.W), .sc (.int .i64 r3.1.H), rowV (α := Bound) true r3.1.At]) rfl rfl rfl rfl ti30 rfl rfl rfl rfl rfl ?_
  refine pu (v := .sc _) rfl rfl (fun _ => rfl) ?_
  refine RunC.fin ?_
  refine AWP.joinX (fun z4 : Bool => LS.mk [(0, .sc (.bool z4))] (lblks 0 []) 0) hR (fun o4 hR => ?_) fun z4 hR => ?_
  · refine AWP.rgD 124 [0, 1, 3, 7, 15, 31, 63, 127, 255, 511, 255, 1279, 4095, 8191, 16383] ⟨[], [none, none, none, none, some [52], none, none, none, none, some [52], none, none, none, none, none]⟩ hmix (by kernel_rfl) rfl rfl ?_
    refine pu (v := .sc _) rfl rfl (fun _ => rfl) ?_
    refine pu (v := .sc _) rfl rfl (fun _ => rfl) ?_
    refine pu (v := .sc _) rfl rfl (fun _ => rfl) ?_
    refine brR hR (fun h5 hR => ?_) fun h5 hR => ?_
    · refine fa (wtG rfl rfl rfl h5) rfl ti30 rfl rfl ti3 rfl ?_
      refine ldB (v := .sc _) (wtG rfl rfl rfl h5) rfl rfl rfl ti3 rfl rfl ?_
      refine pu (v := .sc _) (wtG rfl rfl rfl h5) rfl (fun _ => rfl) ?_
      refine pkT (v := .sc (.bool (r3.1.W == 1))) rfl rfl h5 rfl ?_
      refine pu (v := .sc _) rfl rfl (fun _ => rfl) ?_
      refine brR hR (fun h6 hR => ?_) fun h6 hR => ?_
      · refine fa (wtG rfl rfl rfl h6) rfl ti30 rfl rfl ti28 rfl ?_
        refine ldB (v := rowV _ r3.1.At) (wtG rfl rfl rfl h6) rfl rfl rfl ti28 rfl rfl ?_
        refine pu (v := .fn _ _) (wtG rfl rfl rfl h6) rfl (fun _ => rfl) ?_
        obtain ⟨r7, hr7, hR⟩ := bindE hR
        refine cls [] (wtG rfl rfl rfl h6) rfl cb20 (ok20 11 32 _ hr7) (.cons (.sc _) (.cons (.sc _) (.nil))) (.inr rfl) rfl ?_
        obtain ⟨r8, hr8, hR⟩ := bindE hR
        refine cls [] (wtG rfl rfl rfl h6) rfl cb13 (ok13 r3.1.At r7 _ hr8) (.cons ldR' (.cons ldR' (.nil))) (.inr rfl) rfl ?_
        refine pkT (v := .sc (.bool r8)) rfl rfl h6 rfl ?_
        refine pu (v := .sc _) rfl rfl (fun _ => rfl) ?_
        refine RunC.fin ?_
        have hR := Option.some.inj hR; subst hR
        exact Weak.turnL [] [] rfl rfl (tc (.sc _) tn) mn
      · refine sk (skW rfl rfl rfl h6) ?_
        refine sk (skW rfl rfl rfl h6) ?_
        refine sk (skW rfl rfl rfl h6) ?_
        refine sk (skW rfl rfl rfl h6) ?_
        refine sk (skW rfl rfl rfl h6) ?_
        refine pkF (v := .sc (.bool false)) rfl rfl h6 rfl ?_
        refine pu (v := .sc _) rfl rfl (fun _ => rfl) ?_
        refine RunC.fin ?_
        have hR := Option.some.inj hR; subst hR
        exact Weak.turnL [] [] rfl rfl (tc (.sc _) tn) mn
    · refine sk (skW rfl rfl rfl h5) ?_
      refine sk (skW rfl rfl rfl h5) ?_
      refine sk (skW rfl rfl rfl h5) ?_
      refine pkF (v := .sc (.bool false)) rfl rfl h5 rfl ?_
      refine pu (v := .sc _) rfl rfl (fun _ => rfl) ?_
      refine sk (skW rfl rfl rfl rfl) ?_
      refine sk (skW rfl rfl rfl rfl) ?_
      refine sk (skW rfl rfl rfl rfl) ?_
      refine sk (skW rfl rfl rfl rfl) ?_
      refine sk (skW rfl rfl rfl rfl) ?_
      refine pkF (v := .sc (.bool false)) rfl rfl rfl rfl ?_
      refine pu (v := .sc _) rfl rfl (fun _ => rfl) ?_
      refine RunC.fin ?_
      have hR := Option.some.inj hR; subst hR
      exact Weak.turnL [] [] rfl rfl (tc (.sc _) tn) mn
  · refine AWP.ret ?_
    have hR := Option.some.inj hR; subst hR
    exact hQ _ _ (LS.mk [(0, .sc (.bool z4))] (lblks 0 []) 0) (.sc (.bool z4)) [] (.inr rfl) (Weak.turnL [] [] rfl rfl (tc (.sc _) tn) mn) (ro1 (rvT (v := .sc (.bool z4)) rfl)) rfl rfl (.sc _) pn
section
open Go.RowKit Go.Shelf Go.Lib Go.Sort
theorem del_ux9 : Try.prog.underlying 27 = some (.slice 30) := by kernel_rfl
theorem del_mx9 : (Try.prog.info? 30).map (·.size) = some 3 := by kernel_rfl
theorem del_ix9 : ∃ i0, Try.prog.info? 30 = some i0 ∧ i0.size = 3 := by
  have h := del_mx9
  cases e : Try.prog.info? 30 with
  | none => rw [e] at h; cases h
  | some i0 => rw [e] at h; exact ⟨i0, rfl, Option.some.inj h⟩
theorem del0x9 (w : World) (a : Option Addr) (n cap i : Nat) (h1 : i ≤ n) (h2 : n ≤ cap) (h3 : cap ≤ maxLen) : Calls Try.prog 9 #[.slice a n cap, .int .i64 i, .int .i64 i] w fun e w' => e = .returned (.slice a n cap) ∧ w' = w := by
  unfold maxLen at h3
  go_enter Try.func9, Try.ntmps9
  go_wp2
  all_goals (go_ret; exact ⟨rfl, rfl⟩)
theorem del1x9 (w : World) (B n cap i j : Nat) (cells : List Value) (hl : cells.length = n * 3) (h1 : ∀ u ∈ cells, u.oneCell' = true) (hH : ∀ (t : Nat) u, cells[t]? = some u → w.cell? ⟨B, t, none⟩ = some u ∧ w.frozen? ⟨B, t, none⟩ = false) (hcap : n ≤ cap) (hm : cap ≤ maxLen) (hlt : i < j) (hj : j ≤ n) :
    Calls Try.prog 9 #[.slice (some ⟨B, 0, none⟩) n cap, .int .i64 i, .int .i64 j] w fun e w' => e = .returned (.slice (some ⟨B, 0, none⟩) (n - (j - i)) cap) ∧
      w' = (w.drew.setCells B (i * 3) (cells.drop (j * 3))).setCells B ((n - (j - i)) * 3) ((List.replicate (j - i) [Value.int .i64 0, Value.int .i64 0, Value.slice none 0 0]).flatten) := by
  unfold maxLen at hm
  obtain ⟨i0, hi0, hz1⟩ := del_ix9
  obtain ⟨news, hnews⟩ : ∃ news, news = cells.drop (j * 3) := ⟨_, rfl⟩
  have hlen : news.length = (n - j) * 3 := by rw [hnews, List.length_drop, hl]; omega
  have hget : ∀ t u, news[t]? = some u → w.cell? ⟨B, j * 3 + t, none⟩ = some u := fun t u hu => by
    rw [hnews, List.getElem?_drop] at hu
    exact (hH _ u hu).1
  obtain ⟨A, hA, hsrc⟩ : ∃ A : Addr, (if cap = j then some (⟨B, 0, none⟩ : Addr) else some ⟨B, j * 3, none⟩) = some A ∧ Hid (∀ t u, news[t]? = some u → w.drew.cell? (A.add t) = some u) := by
    by_cases h : cap = j
    · refine ⟨⟨B, 0, none⟩, by simp [h], fun t u hu => ?_⟩
      have h0 : news.length = 0 := by rw [hlen]; omega
      rw [List.length_eq_zero_iff.1 h0] at hu
      simp at hu
    · refine ⟨⟨B, j * 3, none⟩, by simp [h], fun t u hu => ?_⟩
      rw [Addr.add_lit]
      exact hget t u hu
  have s1 : Hid (news.length = (n - j) * 3) := hlen
  have s2 : Hid (∀ u ∈ news, u.oneCell' = true) := fun u hu => h1 u (List.mem_of_mem_drop (hnews ▸ hu))
  have s3 : Hid (∀ t, t < news.length → (w.drew.cell? ⟨B, 0 + i * 3 + t, none⟩).isSome = true ∧ w.drew.frozen? ⟨B, 0 + i * 3 + t, none⟩ = false) := by
    intro t ht
    rw [hlen] at ht
    have hx : 0 + i * 3 + t < cells.length := by rw [hl]; omega
    have := hH (0 + i * 3 + t) cells[0 + i * 3 + t] (List.getElem?_eq_getElem hx)
    exact ⟨by show (w.cell? _).isSome = true; rw [this.1]; rfl, this.2⟩
  obtain ⟨W1, hW1⟩ : ∃ W1, W1 = w.drew.setCells B (0 + i * 3) news := ⟨_, rfl⟩
  have hcl : ∀ ty, (Builtin.clear_ #[27] ty #[.slice (some ⟨B, (i + (n - j)) * 3, none⟩) (n - (i + (n - j))) (cap - (i + (n - j)))]).run Try.prog W1 = .ok (.tuple #[]) (W1.setCells B ((i + (n - j)) * 3) (List.replicate (n - (i + (n - j))) [Value.int .i64 0, Value.int .i64 0, Value.slice none 0 0]).flatten) :=
    fun ty => run_clear_many del_ux9 ti30 rfl ty W1 B ((i + (n - j)) * 3) _ _ (by omega) (fun t ht => by
      have ht : t < (n - (i + (n - j))) * 3 := ht
      have hx : (i + (n - j)) * 3 + t < cells.length := by rw [hl]; omega
      have := hH ((i + (n - j)) * 3 + t) cells[(i + (n - j)) * 3 + t] (List.getElem?_eq_getElem hx)
      rw [hW1]
      exact World.isSome_setCells B _ _ _ _ (by show (w.cell? _).isSome = true; rw [this.1]; rfl)) (fun t ht => by
      have ht : t < (n - (i + (n - j))) * 3 := ht
      have hx : (i + (n - j)) * 3 + t < cells.length := by rw [hl]; omega
      have := hH ((i + (n - j)) * 3 + t) cells[(i + (n - j)) * 3 + t] (List.getElem?_eq_getElem hx)
      rw [hW1, World.frozen?_setCells]
      exact this.2)
  have hW : Hid (W1 = w.drew.setCells B (0 + i * 3) news) := hW1
  have hN : Hid (news = cells.drop (j * 3)) := hnews
  have hic : i ≤ cap := by omega
  have hjc : j ≤ cap := by omega
  clear hW1 hH hget hnews hlen
  have mixed := hmix
  go_enter Try.func9, Try.ntmps9
  go_wp2_with fail
  go_region_law_o (refine step_append_room rfl (.tmp 22) (.tmp 25) 27 rfl 30 i0 3 del_ux9 hi0 hz1 B 0 i cap (by simp [Act.eval, Act.put]) A (n - j) (cap - j) news (by simp [Act.eval, Act.put]) s1.out hsrc.out s2.out (by omega) s3.out ?_; rw [← hW.out])
  go_wp2
  go_ret
  refine ⟨by rw [show n - (j - i) = i + (n - j) by omega]; rfl, ?_⟩
  rw [hW.out, hN.out, Nat.zero_add, show n - (j - i) = i + (n - j) by omega, show n - (i + (n - j)) = j - i by omega]
theorem ok9 (l : List Cells) (i j : Int) (r : List Cells) (hR : slices_Delete_Cells l i j = some r) : FnD Try.prog 9 [arrB 30 0 false l] [slV Cells 0 0 0 l.length, .sc (.int .i64 i), .sc (.int .i64 j)] (slV Cells 0 0 0 r.length) [arrB 30 0 false r] := by
  unfold slices_Delete_Cells at hR
  split at hR
  · rename_i h
    cases hR
    exact fnD_del [Value.int .i64 0, Value.int .i64 0, Value.slice none 0 0] rfl (fun w a n cap i h1 h2 h3 => del0x9 w a n cap i h1 h2 h3) (fun w B n cap i j cells h1 h2 h3 h4 h5 h6 h7 => del1x9 w B n cap i j cells h1 h2 h3 h4 h5 h6 h7) false l i j h.1 h.2.1 h.2.2
  · cases hR
end

theorem ok10 (s : List Cells) (r : (List Cells)) (hR : slices_Clone_Cells s = some r) : FnP Try.prog 10 [rowV false s] (rowV (α := Cells) false r) := by
  refine fnP_of (FnX.walk Try.func10 rfl 8 0 (by simp [Try.ntmps10]) rfl fun W S F Q hQ => ?_)
  unfold slices_Clone_Cells at hR
  refine AWP.sq ?_
  refine AWP.rgC 4 rfl rfl ?_
  refine pu (v := .sc _) rfl rfl (fun _ => rfl) ?_
  refine RunC.fin ?_
  refine AWP.sq ?_
  refine AWP.joinX (fun z1 : Bool => LS.mk [(0, rowV (α := Cells) false s), (4, .sc (.bool z1))] (lblks 0 []) 0) hR (fun o1 hR => ?_) fun z1 hR => ?_
  · refine AWP.rgC 12 rfl rfl ?_
    refine pu (v := rowV _ s) rfl rfl (fun _ => rfl) ?_
    refine nilE hR rfl rfl rfl (by rw [ti27]; rfl) (fun hR h2 => ?_) fun hR => ?_
    · refine RunC.fin ?_
      have hR := Option.some.inj hR; subst hR
      exact Weak.turnL [] [] rfl rfl (tc trR1 (tc (.sc _) tn)) mn
    · refine RunC.fin ?_
      have hR := Option.some.inj hR; subst hR
      exact Weak.turnL [] [] rfl rfl (tc trR1 (tc (.sc _) tn)) mn
  · refine AWP.cd hR rfl (fun h3 hR => ?_) fun h3 hR => ?_
    · refine AWP.sq ?_
      refine AWP.rgC 4 rfl rfl ?_
      refine pu (v := .sc _) rfl rfl (fun _ => rfl) ?_
      refine RunC.fin ?_
      refine AWP.ret ?_
      refine rtT ?_
      have hR := Option.some.inj hR; subst hR
      exact hQ _ _ (LS.mk [(2, rowV (α := Cells) false [])] (lblks 0 []) 0) (rowV (α := Cells) false []) [] (.inr rfl) (Weak.turnL [] [] rfl rfl (tc trN tn) mn) (ro1 (rvT (v := rowV (α := Cells) false []) rfl)) rfl rfl ldR' pn
    · refine AWP.skip ?_
      refine skT ?_
      refine AWP.sq ?_
      refine AWP.rgC 16 rfl rfl ?_
      refine bs (α := Cells) 0 true ([] : List Cells) rfl rfl ti27 rfl ti30 rfl rfl rfl rfl rfl ?_
      refine pu (v := rowV _ s) rfl rfl (fun _ => rfl) ?_
      obtain ⟨h4, hR⟩ := chkE hR
      refine ap' (α := Cells) (nw := false) (xs := ([] : List Cells)) (ys := s) rfl rfl rfl rfl (srcR' rfl) ti27 rfl ti30 rfl h4 rfl ?_
      refine pu (v := slV Cells _ _ _ _) rfl rfl (fun _ => rfl) ?_
      refine RunC.fin ?_
      refine AWP.ret ?_
      have hR := Option.some.inj hR; subst hR
      exact hQ _ _ (LS.mk [(2, rowV (α := Cells) false (([] : List Cells) ++ s))] (lblks 0 []) 0) (rowV (α := Cells) false (([] : List Cells) ++ s)) [] (.inr rfl) (Weak.turnL [] [0] rfl rfl (tc (trF' rfl rfl id rfl) tn) mn) (ro1 (rvT (v := rowV (α := Cells) false (([] : List Cells) ++ s)) rfl)) rfl rfl ldR' pn
theorem ok8 (s : stack_Stack) (c : Cells) (r : stack_Stack × Int) (hR : stack_Remove s c = some r) : FnP Try.prog 8 [aggV false s, aggV false c] (.tup [aggV (α := stack_Stack) true r.1, .sc (.int .i64 r.2)]) := by
  refine fnP_of (FnX.walk Try.func8 rfl 72 0 (by simp [Try.ntmps8]) rfl fun W S F Q hQ => ?_)
  unfold stack_Remove at hR
  refine AWP.sq ?_
  refine AWP.rgC 16 rfl rfl ?_
  refine bx (cs := _) 0 rfl rfl rfl ?_
  refine bx (cs := _) 4 rfl rfl rfl ?_
  refine al (cs := [.sc (.int .i64 0), .sc (.int .i64 0), .sc (.int .i64 0), .sc (.slice none 0 0), .sc (.slice none 0 0)]) 8 rfl rfl ti33 rfl rfl ?_
  refine pu (v := .sc _) rfl rfl (fun _ => rfl) ?_
  refine RunC.fin ?_
  refine AWP.sq ?_
  refine AWP.sq ?_
  refine AWP.rgC 32 rfl rfl ?_
  refine ldB (v := .agg _) rfl rfl rfl rfl ti33 rfl rfl ?_
  refine ldB (v := .agg _) rfl rfl rfl rfl ti30 rfl rfl ?_
  obtain ⟨r1, hr1, hR⟩ := bindE hR
  refine cls [] rfl rfl cb17 (ok17 s c _ hr1) (.cons (.agg (.cons (.sc _) (.cons (.sc _) (.cons (.sc _) (.cons ldR' (.cons ldR' (.nil)))))) rfl) (.cons (.agg (.cons (.sc _) (.cons (.sc _) (.cons ldR' (.nil)))) rfl) (.nil))) (.inr rfl) rfl ?_
  refine pu (v := .sc _) rfl rfl (fun _ => rfl) ?_
  refine RunC.fin ?_
  refine AWP.sq ?_
  refine AWP.rgC 40 rfl rfl ?_
  refine pu (v := .sc _) rfl rfl (fun _ => rfl) ?_
  refine pu (v := .sc _) rfl rfl (fun _ => rfl) ?_
  refine RunC.fin ?_
  refine AWP.cd hR rfl (fun h2 hR => ?_) fun h2 hR => ?_
  · refine AWP.sq ?_
    refine AWP.rgC 56 rfl rfl ?_
    refine bu (cs := [.sc (.int .i64 0), .sc (.int .i64 0), .sc (.int .i64 0), .sc (.slice none 0 0), .sc (.slice none 0 0)]) rfl bt33 rfl ?_
    refine pu (v := .sc _) rfl rfl (fun _ => rfl) ?_
    refine stB (cs' := [.sc (.int .i64 0), .sc (.int .i64 0), .sc (.int .i64 0), .sc (.slice none 0 0), .sc (.slice none 0 0)]) rfl rfl rfl rfl ti33 rfl rfl rfl rfl rfl ?_
    refine pu (v := .sc _) rfl rfl (fun _ => rfl) ?_
    refine RunC.fin ?_
    refine AWP.ret ?_
    refine rtT ?_
    have hR := Option.some.inj hR; subst hR
    exact hQ _ _ (LS.mk [(4, .ptr 0 0 0), (5, .sc (.int .i64 r1))] (lblks 0 [boxB (α := stack_Stack) true (stack_Stack.mk 0 0 0 [] [])]) 1) (.tup [aggV (α := stack_Stack) true (stack_Stack.mk 0 0 0 [] []), .sc (.int .i64 r1)]) [] (.inr rfl) (Weak.turnL [(8, 0)] [] rfl rfl (tc (trP' rfl rfl rfl rfl) (tc (.sc _) tn)) (mc rfl (.box rfl (.cons (.sc _) (.cons (.sc _) (.cons (.sc _) (.cons trN (.cons trN (.nil)))))) rfl) mn)) (ro2 (rvC (v := aggV (α := stack_Stack) true (stack_Stack.mk 0 0 0 [] [])) rfl rfl ti33 rfl) (rvT (v := .sc (.int .i64 r1)) rfl)) rfl rfl (.tup (.cons ldA (.cons (.sc _) .nil))) pn
  · refine AWP.skip ?_
    refine skT ?_
    refine AWP.sq ?_
    refine AWP.sq ?_
    refine AWP.rgC 52 rfl rfl ?_
    refine fa rfl rfl ti33 rfl rfl ti3 rfl ?_
    refine ldB (v := .sc _) rfl rfl rfl rfl ti3 rfl rfl ?_
    refine pu (v := .sc _) rfl rfl (fun _ => rfl) ?_
    refine RunC.fin ?_
    refine AWP.cd hR rfl (fun h3 hR => ?_) fun h3 hR => ?_
    · refine AWP.sq ?_
      refine AWP.rgC 64 rfl rfl ?_
      refine bu (cs := [.sc (.int .i64 0), .sc (.int .i64 0), .sc (.int .i64 0), .sc (.slice none 0 0), .sc (.slice none 0 0)]) rfl bt33 rfl ?_
      refine stB (cs' := [.sc (.int .i64 0), .sc (.int .i64 0), .sc (.int .i64 0), .sc (.slice none 0 0), .sc (.slice none 0 0)]) rfl rfl rfl rfl ti33 rfl rfl rfl rfl rfl ?_
      refine pu (v := .sc _) rfl rfl (fun _ => rfl) ?_
      refine RunC.fin ?_
      refine AWP.ret ?_
      refine rtT ?_
      have hR := Option.some.inj hR; subst hR
      exact hQ _ _ (LS.mk [(4, .ptr 0 0 0), (5, .sc (.int .i64 8))] (lblks 0 [boxB (α := stack_Stack) true (stack_Stack.mk 0 0 0 [] [])]) 1) (.tup [aggV (α := stack_Stack) true (stack_Stack.mk 0 0 0 [] []), .sc (.int .i64 8)]) [] (.inr rfl) (Weak.turnL [(8, 0)] [] rfl rfl (tc (trP' rfl rfl rfl rfl) (tc (.sc _) tn)) (mc rfl (.box rfl (.cons (.sc _) (.cons (.sc _) (.cons (.sc _) (.cons trN (.cons trN (.nil)))))) rfl) mn)) (ro2 (rvC (v := aggV (α := stack_Stack) true (stack_Stack.mk 0 0 0 [] [])) rfl rfl ti33 rfl) (rvT (v := .sc (.int .i64 8)) rfl)) rfl rfl (.tup (.cons ldA (.cons (.sc _) .nil))) pn
    · refine AWP.skip ?_
      refine skT ?_
      refine AWP.sq ?_
      refine AWP.rgC 64 rfl rfl ?_
      refine ldB (v := .agg _) rfl rfl rfl rfl ti33 rfl rfl ?_
      obtain ⟨r4, hr4, hR⟩ := bindE hR
      refine cpx (res' := .agg [.sc (.int .i64 r4.W), .sc (.int .i64 r4.H), .sc (.int .i64 r4.N), slV Int 56 0 0 r4.Holes.length, slV Bound 57 0 0 r4.At.length]) (ups := [(56, arrB (α := Int) 3 0 true r4.Holes), (57, arrB (α := Bound) 45 0 true r4.At)]) [] 56 rfl rfl rfl cb18 (ok18_18 s _ hr4) (.cons (.agg (.cons (.sc _) (.cons (.sc _) (.cons (.sc _) (.cons ldR' (.cons ldR' (.nil)))))) rfl) (.nil)) pn rfl rfl rfl (by simp only [V.ren, V.rens, renS, renR, renA]; rfl) (by simp only [passUps, renBox, renArr]; rfl) ?_
      refine stB (cs' := [.sc (.int .i64 r4.W), .sc (.int .i64 r4.H), .sc (.int .i64 r4.N), slV Int 56 0 0 r4.Holes.length, slV Bound 57 0 0 r4.At.length]) rfl rfl rfl rfl ti33 rfl rfl rfl rfl rfl ?_
      refine RunC.fin ?_
      refine AWP.sq ?_
      refine AWP.rgC 84 rfl rfl ?_
      refine fa rfl rfl ti33 rfl rfl ti3 rfl ?_
      refine ldB (v := .sc _) rfl rfl rfl rfl ti3 rfl rfl ?_
      refine pu (v := .sc _) rfl rfl (fun _ => rfl) ?_
      refine fa rfl rfl ti33 rfl rfl ti3 rfl ?_
      refine stB (cs' := [.sc (.int .i64 r4.W), .sc (.int .i64 r4.H), .sc (.int .i64 (w6 (r4.N - 1))), slV Int 56 0 0 r4.Holes.length, slV Bound 57 0 0 r4.At.length]) rfl rfl rfl rfl ti3 rfl rfl rfl rfl rfl ?_
      refine RunC.fin ?_
      refine AWP.sq ?_
      refine AWP.sq ?_
      refine AWP.rgC 100 rfl rfl ?_
      refine fa rfl rfl ti30 rfl rfl ti28 rfl ?_
      refine ldB (v := rowV _ c.At) rfl rfl rfl rfl ti28 rfl rfl ?_
      refine lenL (α := Bound) rfl rfl ti28 rfl ?_
      refine pu (v := .sc _) rfl rfl (fun _ => rfl) ?_
      refine RunC.fin ?_
      refine AWP.loopJ (fun s5 : (List Int) × (List Bound) × Int => LS.mk [(2, .ptr 0 0 0), (4, .ptr 3 0 0), (27, rowV (α := Bound) false c.At), (28, .sc (.int .i64 (c.At.length : Int))), (29, .sc (.int .i64 s5.2.2))] (lblks 0 [.box [.sc (.int .i64 r4.W), .sc (.int .i64 r4.H), .sc (.int .i64 (w6 (r4.N - 1))), slV Int 1 0 0 s5.1.length, slV Bound 2 0 0 s5.2.1.length], arrB (α := Int) 3 0 true s5.1, arrB (α := Bound) 45 0 true s5.2.1, .box [.sc (.int .i64 0), .sc (.int .i64 0), .sc (.int .i64 0), .sc (.slice none 0 0), .sc (.slice none 0 0)]]) 4) (fun z6 : (List Int) × (List Bound) => LS.mk [(2, .ptr 0 0 0), (4, .ptr 3 0 0)] (lblks 0 [.box [.sc (.int .i64 r4.W), .sc (.int .i64 r4.H), .sc (.int .i64 (w6 (r4.N - 1))), slV Int 1 0 0 z6.1.length, slV Bound 2 0 0 z6.2.length], arrB (α := Int) 3 0 true z6.1, arrB (α := Bound) 45 0 true z6.2, .box [.sc (.int .i64 0), .sc (.int .i64 0), .sc (.int .i64 0), .sc (.slice none 0 0), .sc (.slice none 0 0)]]) 4) (stack_Remove.l1 c) hR (s0 := (r4.Holes, r4.At, 0)) (Weak.turnL [(0, 0), (56, 0), (57, 0), (8, 0)] [] rfl rfl (tc (trP' rfl rfl rfl rfl) (tc (trP' rfl rfl rfl rfl) (tc trR1 (tc (.sc _) (tc (.sc _) tn))))) (mc rfl (.box rfl (.cons (.sc _) (.cons (.sc _) (.cons (.sc _) (.cons (trS' rfl rfl rfl rfl rfl) (.cons (trS' rfl rfl rfl rfl rfl) (.nil)))))) rfl) (mc rfl (btrA' rfl) (mc rfl (btrA' rfl) (mc rfl (.box rfl (.cons (.sc _) (.cons (.sc _) (.cons (.sc _) (.cons (.sc _) (.cons (.sc _) (.nil)))))) rfl) mn))))) (fun s5 o5 hR => ?_) fun z6 hR => ?_
      · unfold stack_Remove.l1 at hR
        refine AWP.sq ?_
        refine AWP.rgC 8 rfl rfl ?_
        refine pu (v := .sc _) rfl rfl (fun _ => rfl) ?_
        refine RunC.fin ?_
        refine AWP.sq ?_
        refine AWP.cd hR rfl (fun h7 hR => ?_) fun h7 hR => ?_
        · refine AWP.skip ?_
          refine skT ?_
          refine AWP.joinX (fun z8 : (List Int) × (List Bound) => LS.mk [(2, .ptr 0 0 0), (4, .ptr 3 0 0), (27, rowV (α := Bound) false c.At), (28, .sc (.int .i64 (c.At.length : Int))), (29, .sc (.int .i64 s5.2.2))] (lblks 0 [.box [.sc (.int .i64 r4.W), .sc (.int .i64 r4.H), .sc (.int .i64 (w6 (r4.N - 1))), slV Int 1 0 0 z8.1.length, slV Bound 2 0 0 z8.2.length], arrB (α := Int) 3 0 true z8.1, arrB (α := Bound) 45 0 true z8.2, .box [.sc (.int .i64 0), .sc (.int .i64 0), .sc (.int .i64 0), .sc (.slice none 0 0), .sc (.slice none 0 0)]]) 4) hR (fun o8 hR => ?_) fun z8 hR => ?_
          · refine AWP.block ?_
            refine AWP.sq ?_
            refine AWP.rgC 32 rfl rfl ?_
            refine pu (v := .sc _) rfl rfl (fun _ => rfl) ?_
            obtain ⟨h9, hR⟩ := chkE hR
            refine ixL (α := Bound) rfl rfl rfl ti28 rfl ti45 rfl h9 ?_
            refine ldR (v := .agg _) rfl rfl ti45 rfl ?_
            refine al (cs := [.sc (.int .i64 0), .sc (.int .i64 0), .sc (.bool false)]) 20 rfl rfl ti45 rfl rfl ?_
            refine pu (v := .sc _) rfl rfl (fun _ => rfl) ?_
            refine stB (cs' := [.sc (.int .i64 (gt c.At s5.2.2).Lo), .sc (.int .i64 (gt c.At s5.2.2).Hi), .sc (.bool (gt c.At s5.2.2).Unknown)]) rfl rfl rfl rfl ti45 rfl rfl rfl rfl rfl ?_
            refine RunC.fin ?_
            refine AWP.sq ?_
            refine AWP.rgC 40 rfl rfl ?_
            refine fa rfl rfl ti45 rfl rfl ti4 rfl ?_
            refine ldB (v := .sc _) rfl rfl rfl rfl ti4 rfl rfl ?_
            refine RunC.fin ?_
            refine AWP.cd hR rfl (fun h10 hR => ?_) fun h10 hR => ?_
            · refine AWP.rgC 72 rfl rfl ?_
              refine fa rfl rfl ti33 rfl rfl ti22 rfl ?_
              refine ldB (v := slV Int _ _ _ _) rfl rfl rfl rfl ti22 rfl rfl ?_
              refine pu (v := .sc _) rfl rfl (fun _ => rfl) ?_
              obtain ⟨h11, hR⟩ := chkE hR
              refine ixS0 (α := Int) rfl rfl rfl ti22 rfl ti3 rfl h11 ?_
              refine ldE (α := Int) (v := .sc _) rfl rfl rfl (ixlt h11) ti3 rfl rfl rfl rfl ?_
              refine pu (v := .sc _) rfl rfl (fun _ => rfl) ?_
              refine ixS0 (α := Int) rfl rfl rfl ti22 rfl ti3 rfl h11 ?_
              refine stE (α := Int) (y := w6 ((gt s5.1 s5.2.2) - 1)) rfl rfl rfl (ixlt h11) ti3 rfl rfl rfl rfl rfl ?_
              refine RunC.blk ?_
              refine RunC.fin ?_
              have hR := Option.some.inj hR; subst hR
              exact Weak.turnL [(0, 0), (1, 0), (2, 0), (3, 0)] [] rfl rfl (tc (trP' rfl rfl rfl rfl) (tc (trP' rfl rfl rfl rfl) (tc trR1 (tc (.sc _) (tc (.sc _) tn))))) (mc rfl (.box rfl (.cons (.sc _) (.cons (.sc _) (.cons (.sc _) (.cons (trS' rfl rfl rfl rfl (by simp only [List.length_set])) (.cons (trS' rfl rfl rfl rfl rfl) (.nil)))))) rfl) (mc rfl (btrA' rfl) (mc rfl (btrA' rfl) (mc rfl (.box rfl (.cons (.sc _) (.cons (.sc _) (.cons (.sc _) (.cons (.sc _) (.cons (.sc _) (.nil)))))) rfl) mn))))
            · refine AWP.rgD 136 [0, 1, 0, 0, 8, 0, 56, 120, 248, 0, 512, 2040, 0, 4096, 0, 28672, 61440, 126976, 0, 262144, 1044480, 2097144, 4194303, 8388607] ⟨[], [none, some [0], none, none, some [0], none, none, none, some [2], none, some [20], none, none, some [0], none, none, none, some [2], none, some [20], none, none, none, some [2]]⟩ hmix (by kernel_rfl) rfl rfl ?_
              refine fa rfl rfl ti33 rfl rfl ti28 rfl ?_
              refine ldB (v := slV Bound _ _ _ _) rfl rfl rfl rfl ti28 rfl rfl ?_
              refine pu (v := .sc _) rfl rfl (fun _ => rfl) ?_
              refine fa rfl rfl ti33 rfl rfl ti28 rfl ?_
              refine ldB (v := slV Bound _ _ _ _) rfl rfl rfl rfl ti28 rfl rfl ?_
              refine pu (v := .sc _) rfl rfl (fun _ => rfl) ?_
              obtain ⟨h12, hR⟩ := chkE hR
              refine ixS0 (α := Bound) rfl rfl rfl ti28 rfl ti45 rfl h12 ?_
              refine fa rfl rfl ti45 rfl rfl ti43 rfl ?_
              refine ldE (α := Bound) (v := .sc _) rfl rfl rfl (ixlt h12) ti43 rfl rfl rfl rfl ?_
              refine fa rfl rfl ti45 rfl rfl ti43 rfl ?_
              refine ldB (v := .sc _) rfl rfl rfl rfl ti43 rfl rfl ?_
              refine pu (v := .sc _) rfl rfl (fun _ => rfl) ?_
              refine fa rfl rfl ti33 rfl rfl ti28 rfl ?_
              refine ldB (v := slV Bound _ _ _ _) rfl rfl rfl rfl ti28 rfl rfl ?_
              refine pu (v := .sc _) rfl rfl (fun _ => rfl) ?_
              refine ixS0 (α := Bound) rfl rfl rfl ti28 rfl ti45 rfl h12 ?_
              refine fa rfl rfl ti45 rfl rfl ti43 rfl ?_
              refine ldE (α := Bound) (v := .sc _) rfl rfl rfl (ixlt h12) ti43 rfl rfl rfl rfl ?_
              refine fa rfl rfl ti45 rfl rfl ti43 rfl ?_
              refine ldB (v := .sc _) rfl rfl rfl rfl ti43 rfl rfl ?_
              refine pu (v := .sc _) rfl rfl (fun _ => rfl) ?_
              refine bu (cs := [.sc (.int .i64 (w6 ((gt s5.2.1 s5.2.2).Lo - (gt c.At s5.2.2).Lo))), .sc (.int .i64 (w6 ((gt s5.2.1 s5.2.2).Hi - (gt c.At s5.2.2).Hi))), .sc (.bool false)]) rfl bt45 rfl ?_
              refine ixS0 (α := Bound) rfl rfl rfl ti28 rfl ti45 rfl h12 ?_
              obtain ⟨v13, ev13, hR⟩ := letE hR
              refine stE (α := Bound) (y := Bound.mk (w6 ((gt s5.2.1 s5.2.2).Lo - (gt c.At s5.2.2).Lo)) (w6 ((gt s5.2.1 s5.2.2).Hi - (gt c.At s5.2.2).Hi)) false) rfl rfl rfl (ixlt h12) ti45 rfl rfl rfl rfl rfl ?_
              rw [ev13]
              refine RunC.blk ?_
              refine RunC.fin ?_
              have hR := Option.some.inj hR; subst hR
              exact Weak.turnL [(0, 0), (1, 0), (2, 0), (3, 0)] [] rfl rfl (tc (trP' rfl rfl rfl rfl) (tc (trP' rfl rfl rfl rfl) (tc trR1 (tc (.sc _) (tc (.sc _) tn))))) (mc rfl (.box rfl (.cons (.sc _) (.cons (.sc _) (.cons (.sc _) (.cons (trS' rfl rfl rfl rfl rfl) (.cons (trS' rfl rfl rfl rfl (by subst ev13; simp only [List.length_set])) (.nil)))))) rfl) (mc rfl (btrA' rfl) (mc rfl (btrA' rfl) (mc rfl (.box rfl (.cons (.sc _) (.cons (.sc _) (.cons (.sc _) (.cons (.sc _) (.cons (.sc _) (.nil)))))) rfl) mn))))
          · refine AWP.rgC 12 rfl rfl ?_
            refine pu (v := .sc _) rfl rfl (fun _ => rfl) ?_
            refine pu (v := .sc _) rfl rfl (fun _ => rfl) ?_
            refine RunC.fin ?_
            refine ⟨(z8.1, z8.2, w6 (s5.2.2 + 1)), (Option.some.inj hR).symm, ?_⟩
            exact Weak.turnL [(0, 0), (1, 0), (2, 0), (3, 0)] [] rfl rfl (tc (trP' rfl rfl rfl rfl) (tc (trP' rfl rfl rfl rfl) (tc trR1 (tc (.sc _) (tc (.sc _) tn))))) (mc rfl (.box rfl (.cons (.sc _) (.cons (.sc _) (.cons (.sc _) (.cons (trS' rfl rfl rfl rfl rfl) (.cons (trS' rfl rfl rfl rfl rfl) (.nil)))))) rfl) (mc rfl (btrA' rfl) (mc rfl (btrA' rfl) (mc rfl (.box rfl (.cons (.sc _) (.cons (.sc _) (.cons (.sc _) (.cons (.sc _) (.cons (.sc _) (.nil)))))) rfl) mn))))
        · refine AWP.exit ?_
          refine exT ?_
          refine exT ?_
          refine exH (skT ?_)
          refine ⟨(s5.1, s5.2.1), (Option.some.inj hR).symm, ?_⟩
          exact Weak.turnL [(0, 0), (1, 0), (2, 0), (3, 0)] [] rfl rfl (tc (trP' rfl rfl rfl rfl) (tc (trP' rfl rfl rfl rfl) tn)) (mc rfl (.box rfl (.cons (.sc _) (.cons (.sc _) (.cons (.sc _) (.cons (trS' rfl rfl rfl rfl rfl) (.cons (trS' rfl rfl rfl rfl rfl) (.nil)))))) rfl) (mc rfl (btrA' rfl) (mc rfl (btrA' rfl) (mc rfl (.box rfl (.cons (.sc _) (.cons (.sc _) (.cons (.sc _) (.cons (.sc _) (.cons (.sc _) (.nil)))))) rfl) mn))))
      · refine skT ?_
        refine AWP.sq ?_
        refine AWP.sq ?_
        refine AWP.rgC 16 rfl rfl ?_
        refine ldB (v := .agg _) rfl rfl rfl rfl ti33 rfl rfl ?_
        obtain ⟨r14, hr14, hR⟩ := bindE hR
        refine cls [1, 2] rfl rfl cb19 (ok19 (stack_Stack.mk r4.W r4.H (w6 (r4.N - 1)) z6.1 z6.2) _ hr14) (.cons (.agg (.cons (.sc _) (.cons (.sc _) (.cons (.sc _) (.cons (ldS' rfl rfl rfl rfl) (.cons (ldS' rfl rfl rfl rfl) (.nil)))))) rfl) (.nil)) (.inl (by first | rfl | exact freshR | exact freshA | (simp only [V.fresh, V.freshs, freshR, freshA, Bool.and_self]))) rfl ?_
        refine pu (v := .sc _) rfl rfl (fun _ => rfl) ?_
        refine RunC.fin ?_
        refine AWP.cd hR rfl (fun h15 hR => ?_) fun h15 hR => ?_
        · refine AWP.sq ?_
          refine AWP.rgC 28 rfl rfl ?_
          refine bu (cs := [.sc (.int .i64 0), .sc (.int .i64 0), .sc (.int .i64 0), .sc (.slice none 0 0), .sc (.slice none 0 0)]) rfl bt33 rfl ?_
          refine stB (cs' := [.sc (.int .i64 0), .sc (.int .i64 0), .sc (.int .i64 0), .sc (.slice none 0 0), .sc (.slice none 0 0)]) rfl rfl rfl rfl ti33 rfl rfl rfl rfl rfl ?_
          refine pu (v := .sc _) rfl rfl (fun _ => rfl) ?_
          refine RunC.fin ?_
          refine AWP.ret ?_
          refine rtT ?_
          have hR := Option.some.inj hR; subst hR
          exact hQ _ _ (LS.mk [(4, .ptr 0 0 0), (5, .sc (.int .i64 15))] (lblks 0 [boxB (α := stack_Stack) true (stack_Stack.mk 0 0 0 [] [])]) 1) (.tup [aggV (α := stack_Stack) true (stack_Stack.mk 0 0 0 [] []), .sc (.int .i64 15)]) [] (.inr rfl) (Weak.turnL [(3, 0)] [] rfl rfl (tc (trP' rfl rfl rfl rfl) (tc (.sc _) tn)) (mc rfl (.box rfl (.cons (.sc _) (.cons (.sc _) (.cons (.sc _) (.cons trN (.cons trN (.nil)))))) rfl) mn)) (ro2 (rvC (v := aggV (α := stack_Stack) true (stack_Stack.mk 0 0 0 [] [])) rfl rfl ti33 rfl) (rvT (v := .sc (.int .i64 15)) rfl)) rfl rfl (.tup (.cons ldA (.cons (.sc _) .nil))) pn
        · refine AWP.skip ?_
          refine skT ?_
          refine AWP.sq ?_
          refine AWP.rgC 28 rfl rfl ?_
          refine ldB (v := .agg _) rfl rfl rfl rfl ti33 rfl rfl ?_
          refine stB (cs' := [.sc (.int .i64 r4.W), .sc (.int .i64 r4.H), .sc (.int .i64 (w6 (r4.N - 1))), slV Int 1 0 0 z6.1.length, slV Bound 2 0 0 z6.2.length]) rfl rfl rfl rfl ti33 rfl rfl rfl rfl rfl ?_
          refine pu (v := .sc _) rfl rfl (fun _ => rfl) ?_
          refine RunC.fin ?_
          refine AWP.ret ?_
          have hR := Option.some.inj hR; subst hR
          exact hQ _ _ (LS.mk [(4, .ptr 0 0 0), (5, .sc (.int .i64 0))] (lblks 0 [boxB (α := stack_Stack) true (stack_Stack.mk r4.W r4.H (w6 (r4.N - 1)) z6.1 z6.2)]) 1) (.tup [aggV (α := stack_Stack) true (stack_Stack.mk r4.W r4.H (w6 (r4.N - 1)) z6.1 z6.2), .sc (.int .i64 0)]) [] (.inr rfl) (Weak.turnL [(3, 0)] [1, 2] rfl rfl (tc (trP' rfl rfl rfl rfl) (tc (.sc _) tn)) (mc rfl (.box rfl (.cons (.sc _) (.cons (.sc _) (.cons (.sc _) (.cons (trF' rfl rfl id rfl) (.cons (trF' rfl rfl id rfl) (.nil)))))) rfl) mn)) (ro2 (rvC (v := aggV (α := stack_Stack) true (stack_Stack.mk r4.W r4.H (w6 (r4.N - 1)) z6.1 z6.2)) rfl rfl ti33 rfl) (rvT (v := .sc (.int .i64 0)) rfl)) rfl rfl (.tup (.cons ldA (.cons (.sc _) .nil))) pn
theorem ok7 (w : Int) (h : Int) (l : List Cells) (r : stack_Stack × Int) (hR : spykeep4_added w h l = some r) : FnP Try.prog 7 [.sc (.int .i64 w), .sc (.int .i64 h), rowV false l] (.tup [aggV (α := stack_Stack) true r.1, .sc (.int .i64 r.2)]) := by
  refine fnP_of (FnX.walk Try.func7 rfl 35 0 (by simp [Try.ntmps7]) rfl fun W S F Q hQ => ?_)
  unfold spykeep4_added at hR
  refine AWP.sq ?_
  refine AWP.rgC 8 rfl rfl ?_
  refine al (cs := [.sc (.int .i64 0), .sc (.int .i64 0), .sc (.int .i64 0), .sc (.slice none 0 0), .sc (.slice none 0 0)]) 0 rfl rfl ti33 rfl rfl ?_
  refine pu (v := .sc _) rfl rfl (fun _ => rfl) ?_
  refine RunC.fin ?_
  refine AWP.sq ?_
  refine AWP.rgC 44 rfl rfl ?_
  refine pu (v := .sc _) rfl rfl (fun _ => rfl) ?_
  refine pu (v := .sc _) rfl rfl (fun _ => rfl) ?_
  obtain ⟨r1, hr1, hR⟩ := bindE hR
  refine cls [] rfl rfl cb15 (ok15 w h _ hr1) (.cons (.sc _) (.cons (.sc _) (.nil))) (.inr rfl) rfl ?_
  refine pu (v := .tup _) rfl rfl (fun _ => rfl) ?_
  refine pu (v := .agg _) rfl rfl (fun _ => rfl) ?_
  refine pu (v := .sc _) rfl rfl (fun _ => rfl) ?_
  refine al (cs := [.sc (.int .i64 0), .sc (.int .i64 0), .sc (.int .i64 0), .sc (.slice none 0 0), .sc (.slice none 0 0)]) 32 rfl rfl ti33 rfl rfl ?_
  refine stB (cs' := [.sc (.int .i64 r1.1.W), .sc (.int .i64 r1.1.H), .sc (.int .i64 r1.1.N), rowV (α := Int) true r1.1.Holes, rowV (α := Bound) true r1.1.At]) rfl rfl rfl rfl ti33 rfl rfl rfl rfl rfl ?_
  refine pu (v := .sc _) rfl rfl (fun _ => rfl) ?_
  refine RunC.fin ?_
  refine AWP.sq ?_
  refine AWP.sq ?_
  refine AWP.rgC 56 rfl rfl ?_
  refine pu (v := rowV _ l) rfl rfl (fun _ => rfl) ?_
  refine lenL (α := Cells) rfl rfl ti27 rfl ?_
  refine pu (v := .sc _) rfl rfl (fun _ => rfl) ?_
  refine RunC.fin ?_
  refine AWP.loopJ (fun s2 : stack_Stack × Int × Int => LS.mk [(6, .ptr 0 0 0), (8, .ptr 1 0 0), (9, .sc (.int .i64 s2.2.1)), (18, rowV (α := Cells) false l), (19, .sc (.int .i64 (l.length : Int))), (20, .sc (.int .i64 s2.2.2))] (lblks 0 [.box [.sc (.int .i64 0), .sc (.int .i64 0), .sc (.int .i64 0), .sc (.slice none 0 0), .sc (.slice none 0 0)], boxB (α := stack_Stack) true s2.1]) 2) (fun z3 : stack_Stack × Int => LS.mk [(6, .ptr 0 0 0), (8, .ptr 1 0 0), (9, .sc (.int .i64 z3.2))] (lblks 0 [.box [.sc (.int .i64 0), .sc (.int .i64 0), .sc (.int .i64 0), .sc (.slice none 0 0), .sc (.slice none 0 0)], boxB (α := stack_Stack) true z3.1]) 2) (spykeep4_added.l1 l) hR (s0 := (r1.1, r1.2, 0)) (Weak.turnL [(0, 0), (32, 0)] [] rfl rfl (tc (trP' rfl rfl rfl rfl) (tc (trP' rfl rfl rfl rfl) (tc (.sc _) (tc trR1 (tc (.sc _) (tc (.sc _) tn)))))) (mc rfl (.box rfl (.cons (.sc _) (.cons (.sc _) (.cons (.sc _) (.cons (.sc _) (.cons (.sc _) (.nil)))))) rfl) (mc rfl (.box rfl (.cons (.sc _) (.cons (.sc _) (.cons (.sc _) (.cons trR1 (.cons trR1 (.nil)))))) rfl) mn))) (fun s2 o2 hR => ?_) fun z3 hR => ?_
  · unfold spykeep4_added.l1 at hR
    refine AWP.sq ?_
    refine AWP.rgC 6 rfl rfl ?_
    refine pu (v := .sc _) rfl rfl (fun _ => rfl) ?_
    refine RunC.fin ?_
    refine AWP.sq ?_
    refine AWP.cd hR rfl (fun h4 hR => ?_) fun h4 hR => ?_
    · refine AWP.skip ?_
      refine skT ?_
      refine AWP.joinX (fun z5 : stack_Stack × Int => LS.mk [(6, .ptr 0 0 0), (8, .ptr 1 0 0), (9, .sc (.int .i64 z5.2)), (18, rowV (α := Cells) false l), (19, .sc (.int .i64 (l.length : Int))), (20, .sc (.int .i64 s2.2.2))] (lblks 0 [.box [.sc (.int .i64 0), .sc (.int .i64 0), .sc (.int .i64 0), .sc (.slice none 0 0), .sc (.slice none 0 0)], boxB (α := stack_Stack) true z5.1]) 2) hR (fun o5 hR => ?_) fun z5 hR => ?_
      · refine AWP.block ?_
        refine AWP.sq ?_
        refine AWP.rgC 22 rfl rfl ?_
        obtain ⟨h6, hR⟩ := chkE hR
        refine ixL (α := Cells) rfl rfl rfl ti27 rfl ti30 rfl h6 ?_
        refine ldR (v := .agg _) rfl rfl ti30 rfl ?_
        refine al (cs := [.sc (.int .i64 0), .sc (.int .i64 0), .sc (.slice none 0 0)]) 14 rfl rfl ti30 rfl rfl ?_
        refine stB (cs' := [.sc (.int .i64 (gt l s2.2.2).W), .sc (.int .i64 (gt l s2.2.2).H), rowV (α := Bound) false (gt l s2.2.2).At]) rfl rfl rfl rfl ti30 rfl rfl rfl rfl rfl ?_
        refine RunC.fin ?_
        refine AWP.sq ?_
        refine AWP.rgC 30 rfl rfl ?_
        refine pu (v := .sc _) rfl rfl (fun _ => rfl) ?_
        refine pu (v := .sc _) rfl rfl (fun _ => rfl) ?_
        refine RunC.fin ?_
        refine AWP.cd hR rfl (fun h7 hR => ?_) fun h7 hR => ?_
        · refine AWP.rgC 62 rfl rfl ?_
          refine ldB (v := .agg _) rfl rfl rfl rfl ti33 rfl rfl ?_
          refine ldB (v := .agg _) rfl rfl rfl rfl ti30 rfl rfl ?_
          obtain ⟨r8, hr8, hR⟩ := bindE hR
          refine cls [] rfl rfl cb16 (ok16 s2.1 (gt l s2.2.2) _ hr8) (.cons (.agg (.cons (.sc _) (.cons (.sc _) (.cons (.sc _) (.cons ldR' (.cons ldR' (.nil)))))) rfl) (.cons (.agg (.cons (.sc _) (.cons (.sc _) (.cons ldR' (.nil)))) rfl) (.nil))) (.inr rfl) rfl ?_
          refine pu (v := .tup _) rfl rfl (fun _ => rfl) ?_
          refine pu (v := .agg _) rfl rfl (fun _ => rfl) ?_
          refine pu (v := .sc _) rfl rfl (fun _ => rfl) ?_
          refine stB (cs' := [.sc (.int .i64 r8.1.W), .sc (.int .i64 r8.1.H), .sc (.int .i64 r8.1.N), rowV (α := Int) true r8.1.Holes, rowV (α := Bound) true r8.1.At]) rfl rfl rfl rfl ti33 rfl rfl rfl rfl rfl ?_
          refine pu (v := .sc _) rfl rfl (fun _ => rfl) ?_
          refine RunC.blk ?_
          refine RunC.fin ?_
          have hR := Option.some.inj hR; subst hR
          exact Weak.turnL [(0, 0), (1, 0)] [] rfl rfl (tc (trP' rfl rfl rfl rfl) (tc (trP' rfl rfl rfl rfl) (tc (.sc _) (tc trR1 (tc (.sc _) (tc (.sc _) tn)))))) (mc rfl (.box rfl (.cons (.sc _) (.cons (.sc _) (.cons (.sc _) (.cons (.sc _) (.cons (.sc _) (.nil)))))) rfl) (mc rfl (.box rfl (.cons (.sc _) (.cons (.sc _) (.cons (.sc _) (.cons trR1 (.cons trR1 (.nil)))))) rfl) mn))
        · refine AWP.skip ?_
          refine skB ?_
          refine skT ?_
          have hR := Option.some.inj hR; subst hR
          exact Weak.turnL [(0, 0), (1, 0)] [] rfl rfl (tc (trP' rfl rfl rfl rfl) (tc (trP' rfl rfl rfl rfl) (tc (.sc _) (tc trR1 (tc (.sc _) (tc (.sc _) tn)))))) (mc rfl (.box rfl (.cons (.sc _) (.cons (.sc _) (.cons (.sc _) (.cons (.sc _) (.cons (.sc _) (.nil)))))) rfl) (mc rfl (.box rfl (.cons (.sc _) (.cons (.sc _) (.cons (.sc _) (.cons trR1 (.cons trR1 (.nil)))))) rfl) mn))
      · refine AWP.rgC 10 rfl rfl ?_
        refine pu (v := .sc _) rfl rfl (fun _ => rfl) ?_
        refine pu (v := .sc _) rfl rfl (fun _ => rfl) ?_
        refine RunC.fin ?_
        refine ⟨(z5.1, z5.2, w6 (s2.2.2 + 1)), (Option.some.inj hR).symm, ?_⟩
        exact Weak.turnL [(0, 0), (1, 0)] [] rfl rfl (tc (trP' rfl rfl rfl rfl) (tc (trP' rfl rfl rfl rfl) (tc (.sc _) (tc trR1 (tc (.sc _) (tc (.sc _) tn)))))) (mc rfl (.box rfl (.cons (.sc _) (.cons (.sc _) (.cons (.sc _) (.cons (.sc _) (.cons (.sc _) (.nil)))))) rfl) (mc rfl (.box rfl (.cons (.sc _) (.cons (.sc _) (.cons (.sc _) (.cons trR1 (.cons trR1 (.nil)))))) rfl) mn))
    · refine AWP.exit ?_
      refine exT ?_
      refine exT ?_
      refine exH (skT ?_)
      refine ⟨(s2.1, s2.2.1), (Option.some.inj hR).symm, ?_⟩
      exact Weak.turnL [(0, 0), (1, 0)] [] rfl rfl (tc (trP' rfl rfl rfl rfl) (tc (trP' rfl rfl rfl rfl) (tc (.sc _) tn))) (mc rfl (.box rfl (.cons (.sc _) (.cons (.sc _) (.cons (.sc _) (.cons (.sc _) (.cons (.sc _) (.nil)))))) rfl) (mc rfl (.box rfl (.cons (.sc _) (.cons (.sc _) (.cons (.sc _) (.cons trR1 (.cons trR1 (.nil)))))) rfl) mn))
  · refine skT ?_
    refine AWP.sq ?_
    refine AWP.rgC 18 rfl rfl ?_
    refine ldB (v := .agg _) rfl rfl rfl rfl ti33 rfl rfl ?_
    refine pu (v := .sc _) rfl rfl (fun _ => rfl) ?_
    refine stB (cs' := [.sc (.int .i64 z3.1.W), .sc (.int .i64 z3.1.H), .sc (.int .i64 z3.1.N), rowV (α := Int) true z3.1.Holes, rowV (α := Bound) true z3.1.At]) rfl rfl rfl rfl ti33 rfl rfl rfl rfl rfl ?_
    refine pu (v := .sc _) rfl rfl (fun _ => rfl) ?_
    refine RunC.fin ?_
    refine AWP.ret ?_
    have hR := Option.some.inj hR; subst hR
    exact hQ _ _ (LS.mk [(6, .ptr 0 0 0), (7, .sc (.int .i64 z3.2))] (lblks 0 [boxB (α := stack_Stack) true z3.1]) 1) (.tup [aggV (α := stack_Stack) true z3.1, .sc (.int .i64 z3.2)]) [] (.inr rfl) (Weak.turnL [(0, 0)] [] rfl rfl (tc (trP' rfl rfl rfl rfl) (tc (.sc _) tn)) (mc rfl (.box rfl (.cons (.sc _) (.cons (.sc _) (.cons (.sc _) (.cons trR1 (.cons trR1 (.nil)))))) rfl) mn)) (ro2 (rvC (v := aggV (α := stack_Stack) true z3.1) rfl rfl ti33 rfl) (rvT (v := .sc (.int .i64 z3.2)) rfl)) rfl rfl (.tup (.cons ldA (.cons (.sc _) .nil))) pn
theorem ok4 (s : spymake_Stream) (low : Int) (high : Int) (r : Int × spymake_Stream) (hR : Stream_Range s low high = some r) : FnD Try.prog 4 [boxB false s] [.ptr 0 0 0, .sc (.int .i64 low), .sc (.int .i64 high)] (.sc (.int .i64 r.1)) [boxB false r.2] := by
  refine FnX.walk Try.func4 rfl 19 1 (by simp [Try.ntmps4]) rfl fun W S F Q hQ => ?_
  unfold Stream_Range at hR
  refine AWP.sq ?_
  refine AWP.rgC 5 rfl rfl ?_
  refine pu (v := .sc _) rfl rfl (fun _ => rfl) ?_
  refine RunC.fin ?_
  refine AWP.sq ?_
  refine AWP.sq ?_
  refine AWP.rgC 17 rfl rfl ?_
  refine pu (v := .sc _) rfl rfl (fun _ => rfl) ?_
  refine pu (v := .sc _) rfl rfl (fun _ => rfl) ?_
  refine pu (v := .sc _) rfl rfl (fun _ => rfl) ?_
  refine RunC.fin ?_
  refine AWP.cd hR rfl (fun h1 hR => ?_) fun h1 hR => ?_
  · refine AWP.sq ?_
    refine AWP.rgC 25 rfl rfl ?_
    refine pu (v := .sc _) rfl rfl (fun _ => rfl) ?_
    refine pu (v := .sc _) rfl rfl (fun _ => rfl) ?_
    refine RunC.fin ?_
    refine AWP.ret ?_
    refine rtT ?_
    have hR := Option.some.inj hR; subst hR
    exact hQ _ _ (LS.mk [(6, .sc (.int .i64 low))] (lblks 0 [boxB (α := spymake_Stream) false s]) 1) (.sc (.int .i64 low)) [] (.inr rfl) (Weak.turnL [(0, 0)] [] rfl rfl (tc (.sc _) tn) (mc rfl (.box rfl (.cons trR1 (.cons (.sc _) (.nil))) rfl) mn)) (ro1 (rvT (v := .sc (.int .i64 low)) rfl)) rfl rfl (.sc _) (pc rfl bldB pn)
  · refine AWP.skip ?_
    refine skT ?_
    refine AWP.sq ?_
    refine AWP.rgC 53 rfl rfl ?_
    refine pu (v := .sc _) rfl rfl (fun _ => rfl) ?_
    refine pu (v := .ptr _ _ _) rfl rfl (fun _ => rfl) ?_
    refine pu (v := .sc _) rfl rfl (fun _ => rfl) ?_
    refine pu (v := .sc _) rfl rfl (fun _ => rfl) ?_
    refine pu (v := .sc _) rfl rfl (fun _ => rfl) ?_
    refine pu (v := .sc _) rfl rfl (fun _ => rfl) ?_
    obtain ⟨r2, hr2, hR⟩ := bindE hR
    refine cps (res' := .sc (.int .i64 r2.1)) (ups := [(0, boxB (α := spymake_Stream) false r2.2)]) [0] 41 rfl rfl rfl cb14 (ok14 s (w6 ((w6 (high - low)) + 1)) _ hr2) (.cons (ldP rfl rfl) (.cons (.sc _) (.nil))) (pc rfl (.box (.cons ldR' (.cons (.sc _) (.nil))) rfl) pn) rfl rfl rfl rfl rfl (by first | rfl | exact renR | exact renA | exact renS | simp only [V.ren, V.rens, renR, renA, renS] | (simp only [V.ren, V.rens, renR, renA, renS]; rfl)) (by simp only [passUps, renBox, renArr]; rfl) ?_
    refine pu (v := .sc _) rfl rfl (fun _ => rfl) ?_
    refine pu (v := .sc _) rfl rfl (fun _ => rfl) ?_
    refine RunC.fin ?_
    refine AWP.ret ?_
    have hR := Option.some.inj hR; subst hR
    exact hQ _ _ (LS.mk [(6, .sc (.int .i64 (w6 (low + r2.1))))] (lblks 0 [boxB (α := spymake_Stream) false r2.2]) 1) (.sc (.int .i64 (w6 (low + r2.1)))) [] (.inr rfl) (Weak.turnL [(0, 0)] [] rfl rfl (tc (.sc _) tn) (mc rfl (.box rfl (.cons trR1 (.cons (.sc _) (.nil))) rfl) mn)) (ro1 (rvT (v := .sc (.int .i64 (w6 (low + r2.1)))) rfl)) rfl rfl (.sc _) (pc rfl bldB pn)
end Go.Proofs.Stb
