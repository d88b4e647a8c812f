/- Each function of the program computes its plain function. Conditions: as each theorem states them. -/
import Derived.Test.YtojlcejbgkjhmaaA4
import Derived.Shelf.SlSortCmp.WholeK
import Derived.WalkKit
import Derived.Maps.Own
import Derived.Test.YtojlcejbgkjhmaaT
namespace Go.Proofs.Pet
open Go Go.Abs Lf
set_option linter.unusedVariables false
set_option linter.unusedSimpArgs false
set_option maxRecDepth 100000
set_option maxHeartbeats 1000000
theorem ok64 (v : Vec) (most : Int) (r : Bool) (hR : sky_within v most = some r) : FnP Try.prog 64 [aggV false v, .sc (.int .i64 most)] (.sc (.bool r)) := by
  refine fnP_of (FnX.walk Try.func64 rfl 27 0 (by simp [Try.ntmps64]) rfl fun W S F Q hQ => ?_)
  unfold sky_within at hR
  refine AWP.sq ?_
  refine AWP.rgC 8 rfl rfl ?_
  refine bx (cs := _) 0 rfl rfl rfl ?_
  refine pu (v := .sc _) rfl rfl (fun _ => rfl) ?_
  refine RunC.fin ?_
  refine AWP.sq ?_
  refine AWP.sq ?_
  refine AWP.rgC 40 rfl rfl ?_
  refine fa rfl rfl ti27 rfl rfl ti2 rfl ?_
  refine ldB (v := .sc _) rfl rfl rfl rfl ti2 rfl rfl ?_
  refine fa rfl rfl ti27 rfl rfl ti2 rfl ?_
  refine ldB (v := .sc _) rfl rfl rfl rfl ti2 rfl rfl ?_
  refine fa rfl rfl ti27 rfl rfl ti2 rfl ?_
  refine ldB (v := .sc _) rfl rfl rfl rfl ti2 rfl rfl ?_
  refine buA (cs := [.sc (.int .i64 v.X), .sc (.int .i64 v.Y), .sc (.int .i64 v.Z)]) rfl ti131 rfl ti2 rfl rfl ?_
  refine pu (v := .sc _) rfl rfl (fun _ => rfl) ?_
  refine RunC.fin ?_
  refine AWP.loopK' (fun s1 : Int => LS.mk [(1, .sc (.int .i64 most)), (13, aggV (α := Int × Int × Int) true (v.X, v.Y, v.Z)), (14, .sc (.int .i64 s1))] (lblks 0 []) 0) (fun z2 : Unit => LS.mk [] (lblks 0 []) 0) (sky_within.l1 v most) hR (s0 := 0) (Weak.turnL [] [] rfl rfl (tc (.sc _) (tc (.agg (.cons (.sc _) (.cons (.sc _) (.cons (.sc _) (.nil)))) rfl) (tc (.sc _) tn))) mn) (fun s1 o1 hR hE1 => ?_) fun z2 hR => ?_
  · unfold sky_within.l1 at hR
    refine AWP.sq ?_
    refine AWP.rgC 4 rfl rfl ?_
    refine pu (v := .sc _) rfl rfl (fun _ => rfl) ?_
    refine RunC.fin ?_
    refine AWP.sq ?_
    refine AWP.cd hR rfl (fun h3 hR => ?_) fun h3 hR => ?_
    · refine AWP.skip ?_
      refine skT ?_
      refine AWP.sq ?_
      refine AWP.block ?_
      refine AWP.sq ?_
      refine AWP.rgC 12 rfl rfl ?_
      obtain ⟨h4, hR⟩ := chkE hR
      refine ixD (α := Int) (nw := true) (xs := ([v.X, v.Y, v.Z] : List Int)) (v := .sc _) rfl rfl rfl rfl ti131 rfl ti2 h4 rfl rfl rfl ?_
      refine pu (v := .sc _) rfl rfl (fun _ => rfl) ?_
      refine RunC.fin ?_
      refine AWP.joinX (fun z5 : Bool => LS.mk [(1, .sc (.int .i64 most)), (13, aggV (α := Int × Int × Int) true (v.X, v.Y, v.Z)), (14, .sc (.int .i64 s1)), (25, .sc (.bool z5))] (lblks 0 []) 0) hR (fun o5 hR => ?_) fun z5 hR => ?_
      · refine AWP.rgC 48 rfl rfl ?_
        refine pu (v := .sc _) rfl rfl (fun _ => rfl) ?_
        refine pu (v := .sc _) rfl rfl (fun _ => rfl) ?_
        refine pu (v := .sc _) rfl rfl (fun _ => rfl) ?_
        obtain ⟨v6, ev6, hR⟩ := letE hR
        refine pu (v := .sc _) rfl rfl (fun _ => puB ev6) ?_
        refine pu (v := .sc _) rfl rfl (fun _ => rfl) ?_
        refine brR hR (fun h7 hR => ?_) fun h7 hR => ?_
        · refine sk (skW rfl rfl rfl h7) ?_
          refine sk (skW rfl rfl rfl h7) ?_
          refine sk (skW rfl rfl rfl h7) ?_
          refine pkT (v := .sc (.bool true)) rfl rfl h7 rfl ?_
          refine RunC.fin ?_
          have hR := Option.some.inj hR; subst hR
          exact Weak.turnL [] [] rfl rfl (tc (.sc _) (tc (.agg (.cons (.sc _) (.cons (.sc _) (.cons (.sc _) (.nil)))) rfl) (tc (.sc _) (tc (.sc _) tn)))) mn
        · refine pu (v := .sc _) (wtG rfl rfl rfl h7) rfl (fun _ => rfl) ?_
          refine pu (v := .sc _) (wtG rfl rfl rfl h7) rfl (fun _ => rfl) ?_
          refine pu (v := .sc _) (wtG rfl rfl rfl h7) rfl (fun _ => rfl) ?_
          refine pkF (v := .sc (.bool (decide ((gt ([v.X, v.Y, v.Z] : List Int) s1) > most)))) rfl rfl h7 rfl ?_
          refine RunC.fin ?_
          have hR := Option.some.inj hR; subst hR
          exact Weak.turnL [] [] rfl rfl (tc (.sc _) (tc (.agg (.cons (.sc _) (.cons (.sc _) (.cons (.sc _) (.nil)))) rfl) (tc (.sc _) (tc (.sc _) tn)))) mn
      · refine AWP.cd hR rfl (fun h8 hR => ?_) fun h8 hR => ?_
        · refine AWP.sq ?_
          refine AWP.rgC 4 rfl rfl ?_
          refine pu (v := .sc _) rfl rfl (fun _ => rfl) ?_
          refine RunC.fin ?_
          refine AWP.ret ?_
          refine rtB ?_
          refine rtT ?_
          refine rtT ?_
          refine rtB (rtT ?_)
          replace hR := escL hR hE1
          refine rtT ?_
          have hR := Option.some.inj hR; subst hR
          exact hQ _ _ (LS.mk [(4, .sc (.bool false))] (lblks 0 []) 0) (.sc (.bool false)) [] (.inr rfl) (Weak.turnL [] [] rfl rfl (tc (.sc _) tn) mn) (ro1 (rvT (v := .sc (.bool false)) rfl)) rfl rfl (.sc _) pn
        · refine AWP.skip ?_
          refine skB ?_
          refine skT ?_
          refine AWP.rgC 8 rfl rfl ?_
          refine pu (v := .sc _) rfl rfl (fun _ => rfl) ?_
          refine pu (v := .sc _) rfl rfl (fun _ => rfl) ?_
          refine RunC.fin ?_
          refine ⟨(w6 (s1 + 1)), (Option.some.inj hR).symm, ?_⟩
          exact Weak.turnL [] [] rfl rfl (tc (.sc _) (tc (.agg (.cons (.sc _) (.cons (.sc _) (.cons (.sc _) (.nil)))) rfl) (tc (.sc _) tn))) mn
    · refine AWP.exit ?_
      refine exT ?_
      refine exT ?_
      refine exH (skT ?_)
      refine ⟨(), (Option.some.inj hR).symm, ?_⟩
      exact Weak.turnL [] [] rfl rfl tn mn
  · refine skT ?_
    refine AWP.sq ?_
    refine AWP.rgC 4 rfl rfl ?_
    refine pu (v := .sc _) rfl rfl (fun _ => rfl) ?_
    refine RunC.fin ?_
    refine AWP.ret ?_
    have hR := Option.some.inj hR; subst hR
    exact hQ _ _ (LS.mk [(4, .sc (.bool true))] (lblks 0 []) 0) (.sc (.bool true)) [] (.inr rfl) (Weak.turnL [] [] rfl rfl (tc (.sc _) tn) mn) (ro1 (rvT (v := .sc (.bool true)) rfl)) rfl rfl (.sc _) pn
theorem ok61 (v : Vec) (r : Int) (hR : sphere_Check v = some r) : FnP Try.prog 61 [aggV false v] (.sc (.int .i64 r)) := by
  refine fnP_of (FnX.walk Try.func61 rfl 26 0 (by simp [Try.ntmps61]) rfl fun W S F Q hQ => ?_)
  unfold sphere_Check at hR
  refine AWP.sq ?_
  refine AWP.rgC 8 rfl rfl ?_
  refine bx (cs := _) 0 rfl rfl rfl ?_
  refine pu (v := .sc _) rfl rfl (fun _ => rfl) ?_
  refine RunC.fin ?_
  refine AWP.sq ?_
  refine AWP.block ?_
  refine AWP.joinX (fun z1 : Bool => LS.mk [(1, .ptr 0 0 0), (3, .sc (.bool z1))] (lblks 0 [boxB (α := Vec) true v]) 1) hR (fun o1 hR => ?_) fun z1 hR => ?_
  · refine AWP.rgC 84 rfl rfl ?_
    refine fa rfl rfl ti27 rfl rfl ti2 rfl ?_
    refine ldB (v := .sc _) rfl rfl rfl rfl ti2 rfl rfl ?_
    refine fa rfl rfl ti27 rfl rfl ti2 rfl ?_
    refine ldB (v := .sc _) rfl rfl rfl rfl ti2 rfl rfl ?_
    refine fa rfl rfl ti27 rfl rfl ti2 rfl ?_
    refine ldB (v := .sc _) rfl rfl rfl rfl ti2 rfl rfl ?_
    refine pu (v := .sc _) rfl rfl (fun _ => rfl) ?_
    refine pu (v := .sc _) rfl rfl (fun _ => rfl) ?_
    refine pu (v := .sc _) rfl rfl (fun _ => rfl) ?_
    refine brR hR (fun h2 hR => ?_) fun h2 hR => ?_
    · refine sk (skW rfl rfl rfl h2) ?_
      refine sk (skW rfl rfl rfl h2) ?_
      refine sk (skW rfl rfl rfl h2) ?_
      refine sk (skW rfl rfl rfl h2) ?_
      refine sk (skW rfl rfl rfl h2) ?_
      refine sk (skW rfl rfl rfl h2) ?_
      refine sk (skW rfl rfl rfl h2) ?_
      refine sk (skW rfl rfl rfl h2) ?_
      refine pkT (v := .sc (.bool true)) rfl rfl h2 rfl ?_
      refine pu (v := .sc _) rfl rfl (fun _ => rfl) ?_
      refine RunC.fin ?_
      have hR := Option.some.inj hR; subst hR
      exact Weak.turnL [(0, 0)] [] rfl rfl (tc (trP' rfl rfl rfl rfl) (tc (.sc _) tn)) (mc rfl (.box rfl (.cons (.sc _) (.cons (.sc _) (.cons (.sc _) (.nil)))) rfl) mn)
    · refine fa (wtG rfl rfl rfl h2) rfl ti27 rfl rfl ti2 rfl ?_
      refine ldB (v := .sc _) (wtG rfl rfl rfl h2) rfl rfl rfl ti2 rfl rfl ?_
      refine fa (wtG rfl rfl rfl h2) rfl ti27 rfl rfl ti2 rfl ?_
      refine ldB (v := .sc _) (wtG rfl rfl rfl h2) rfl rfl rfl ti2 rfl rfl ?_
      refine fa (wtG rfl rfl rfl h2) rfl ti27 rfl rfl ti2 rfl ?_
      refine ldB (v := .sc _) (wtG rfl rfl rfl h2) rfl rfl rfl ti2 rfl rfl ?_
      refine pu (v := .sc _) (wtG rfl rfl rfl h2) rfl (fun _ => rfl) ?_
      refine pu (v := .sc _) (wtG rfl rfl rfl h2) rfl (fun _ => rfl) ?_
      refine pkF (v := .sc (.bool (decide ((mn2 (mn2 v.X v.Y) v.Z) < (-1048576))))) rfl rfl h2 rfl ?_
      refine pu (v := .sc _) rfl rfl (fun _ => rfl) ?_
      refine RunC.fin ?_
      have hR := Option.some.inj hR; subst hR
      exact Weak.turnL [(0, 0)] [] rfl rfl (tc (trP' rfl rfl rfl rfl) (tc (.sc _) tn)) (mc rfl (.box rfl (.cons (.sc _) (.cons (.sc _) (.cons (.sc _) (.nil)))) rfl) mn)
  · refine AWP.cd hR rfl (fun h3 hR => ?_) fun h3 hR => ?_
    · refine AWP.sq ?_
      refine AWP.rgC 5 rfl rfl ?_
      refine pu (v := .sc _) rfl rfl (fun _ => rfl) ?_
      refine RunC.fin ?_
      refine AWP.ret ?_
      refine rtB ?_
      refine rtT ?_
      have hR := Option.some.inj hR; subst hR
      exact hQ _ _ (LS.mk [(2, .sc (.int .i64 4))] (lblks 0 []) 0) (.sc (.int .i64 4)) [] (.inr rfl) (Weak.turnL [] [] rfl rfl (tc (.sc _) tn) mn) (ro1 (rvT (v := .sc (.int .i64 4)) rfl)) rfl rfl (.sc _) pn
    · refine AWP.sq ?_
      refine AWP.rgC 17 rfl rfl ?_
      refine ldB (v := .agg _) rfl rfl rfl rfl ti27 rfl rfl ?_
      refine bu (cs := [.sc (.int .i64 0), .sc (.int .i64 0), .sc (.int .i64 0)]) rfl bt27 rfl ?_
      refine es (cs := [.sc (.int .i64 v.X), .sc (.int .i64 v.Y), .sc (.int .i64 v.Z)]) (ds := [.sc (.int .i64 0), .sc (.int .i64 0), .sc (.int .i64 0)]) rfl rfl rfl qa27 qg27 (qe27 _ _ _ _ _ _) ?_
      refine pu (v := .sc _) rfl rfl (fun _ => rfl) ?_
      refine RunC.fin ?_
      refine AWP.cd hR rfl (fun h4 hR => ?_) fun h4 hR => ?_
      · refine AWP.sq ?_
        refine AWP.rgC 21 rfl rfl ?_
        refine pu (v := .sc _) rfl rfl (fun _ => rfl) ?_
        refine RunC.fin ?_
        refine AWP.ret ?_
        refine rtB ?_
        refine rtT ?_
        have hR := Option.some.inj hR; subst hR
        exact hQ _ _ (LS.mk [(2, .sc (.int .i64 8))] (lblks 0 []) 0) (.sc (.int .i64 8)) [] (.inr rfl) (Weak.turnL [] [] rfl rfl (tc (.sc _) tn) mn) (ro1 (rvT (v := .sc (.int .i64 8)) rfl)) rfl rfl (.sc _) pn
      · refine AWP.skip ?_
        refine skB ?_
        refine skT ?_
        refine AWP.sq ?_
        refine AWP.rgC 21 rfl rfl ?_
        refine pu (v := .sc _) rfl rfl (fun _ => rfl) ?_
        refine RunC.fin ?_
        refine AWP.ret ?_
        have hR := Option.some.inj hR; subst hR
        exact hQ _ _ (LS.mk [(2, .sc (.int .i64 0))] (lblks 0 []) 0) (.sc (.int .i64 0)) [] (.inr rfl) (Weak.turnL [] [] rfl rfl (tc (.sc _) tn) mn) (ro1 (rvT (v := .sc (.int .i64 0)) rfl)) rfl rfl (.sc _) pn
theorem ok60 (a : Int) (b : Int) (r : Int) (hR : num_Mod a b = some r) : FnP Try.prog 60 [.sc (.int .i64 a), .sc (.int .i64 b)] (.sc (.int .i64 r)) := by
  refine fnP_of (FnX.walk Try.func60 rfl 17 0 (by simp [Try.ntmps60]) rfl fun W S F Q hQ => ?_)
  unfold num_Mod at hR
  refine AWP.sq ?_
  refine AWP.rgC 4 rfl rfl ?_
  refine pu (v := .sc _) rfl rfl (fun _ => rfl) ?_
  refine RunC.fin ?_
  refine AWP.sq ?_
  refine AWP.sq ?_
  refine AWP.rgC 12 rfl rfl ?_
  refine pu (v := .sc _) rfl rfl (fun _ => rfl) ?_
  refine pu (v := .sc _) rfl rfl (fun _ => rfl) ?_
  refine RunC.fin ?_
  refine AWP.cd hR rfl (fun h1 hR => ?_) fun h1 hR => ?_
  · refine AWP.sq ?_
    refine AWP.rgC 16 rfl rfl ?_
    refine pu (v := .sc _) rfl rfl (fun _ => rfl) ?_
    refine RunC.fin ?_
    refine AWP.ret ?_
    refine rtT ?_
    have hR := Option.some.inj hR; subst hR
    exact hQ _ _ (LS.mk [(4, .sc (.int .i64 0))] (lblks 0 []) 0) (.sc (.int .i64 0)) [] (.inr rfl) (Weak.turnL [] [] rfl rfl (tc (.sc _) tn) mn) (ro1 (rvT (v := .sc (.int .i64 0)) rfl)) rfl rfl (.sc _) pn
  · refine AWP.skip ?_
    refine skT ?_
    refine AWP.sq ?_
    refine AWP.rgC 28 rfl rfl ?_
    refine pu (v := .sc _) rfl rfl (fun _ => rfl) ?_
    refine pu (v := .sc _) rfl rfl (fun _ => rfl) ?_
    obtain ⟨h2, hR⟩ := chkE hR
    refine rm rfl rfl rfl h2 rfl ?_
    refine pu (v := .sc _) rfl rfl (fun _ => rfl) ?_
    refine RunC.fin ?_
    refine AWP.sq ?_
    refine AWP.sq ?_
    refine AWP.rgC 36 rfl rfl ?_
    refine pu (v := .sc _) rfl rfl (fun _ => rfl) ?_
    refine pu (v := .sc _) rfl rfl (fun _ => rfl) ?_
    refine RunC.fin ?_
    refine AWP.cd hR rfl (fun h3 hR => ?_) fun h3 hR => ?_
    · refine AWP.rgC 52 rfl rfl ?_
      refine pu (v := .sc _) rfl rfl (fun _ => rfl) ?_
      refine pu (v := .sc _) rfl rfl (fun _ => rfl) ?_
      refine pu (v := .sc _) rfl rfl (fun _ => rfl) ?_
      refine pu (v := .sc _) rfl rfl (fun _ => rfl) ?_
      refine RunC.fin ?_
      refine AWP.sq ?_
      refine AWP.rgC 60 rfl rfl ?_
      refine pu (v := .sc _) rfl rfl (fun _ => rfl) ?_
      refine pu (v := .sc _) rfl rfl (fun _ => rfl) ?_
      refine RunC.fin ?_
      refine AWP.ret ?_
      have hR := Option.some.inj hR; subst hR
      exact hQ _ _ (LS.mk [(4, .sc (.int .i64 (w6 ((Int.tmod a b) + b))))] (lblks 0 []) 0) (.sc (.int .i64 (w6 ((Int.tmod a b) + b)))) [] (.inr rfl) (Weak.turnL [] [] rfl rfl (tc (.sc _) tn) mn) (ro1 (rvT (v := .sc (.int .i64 (w6 ((Int.tmod a b) + b)))) rfl)) rfl rfl (.sc _) pn
    · refine AWP.skip ?_
      refine skT ?_
      refine AWP.sq ?_
      refine AWP.rgC 44 rfl rfl ?_
      refine pu (v := .sc _) rfl rfl (fun _ => rfl) ?_
      refine pu (v := .sc _) rfl rfl (fun _ => rfl) ?_
      refine RunC.fin ?_
      refine AWP.ret ?_
      have hR := Option.some.inj hR; subst hR
      exact hQ _ _ (LS.mk [(4, .sc (.int .i64 (Int.tmod a b)))] (lblks 0 []) 0) (.sc (.int .i64 (Int.tmod a b))) [] (.inr rfl) (Weak.turnL [] [] rfl rfl (tc (.sc _) tn) mn) (ro1 (rvT (v := .sc (.int .i64 (Int.tmod a b))) rfl)) rfl rfl (.sc _) pn
theorem ok59 (a : Int) (b : Int) (r : Int) (hR : num_FloorDiv a b = some r) : FnP Try.prog 59 [.sc (.int .i64 a), .sc (.int .i64 b)] (.sc (.int .i64 r)) := by
  refine fnP_of (FnX.walk Try.func59 rfl 18 0 (by simp [Try.ntmps59]) rfl fun W S F Q hQ => ?_)
  unfold num_FloorDiv at hR
  refine AWP.sq ?_
  refine AWP.rgC 4 rfl rfl ?_
  refine pu (v := .sc _) rfl rfl (fun _ => rfl) ?_
  refine RunC.fin ?_
  refine AWP.sq ?_
  refine AWP.sq ?_
  refine AWP.rgC 12 rfl rfl ?_
  refine pu (v := .sc _) rfl rfl (fun _ => rfl) ?_
  refine pu (v := .sc _) rfl rfl (fun _ => rfl) ?_
  refine RunC.fin ?_
  refine AWP.cd hR rfl (fun h1 hR => ?_) fun h1 hR => ?_
  · refine AWP.sq ?_
    refine AWP.rgC 16 rfl rfl ?_
    refine pu (v := .sc _) rfl rfl (fun _ => rfl) ?_
    refine RunC.fin ?_
    refine AWP.ret ?_
    refine rtT ?_
    have hR := Option.some.inj hR; subst hR
    exact hQ _ _ (LS.mk [(4, .sc (.int .i64 0))] (lblks 0 []) 0) (.sc (.int .i64 0)) [] (.inr rfl) (Weak.turnL [] [] rfl rfl (tc (.sc _) tn) mn) (ro1 (rvT (v := .sc (.int .i64 0)) rfl)) rfl rfl (.sc _) pn
  · refine AWP.skip ?_
    refine skT ?_
    refine AWP.sq ?_
    refine AWP.rgC 28 rfl rfl ?_
    refine pu (v := .sc _) rfl rfl (fun _ => rfl) ?_
    refine pu (v := .sc _) rfl rfl (fun _ => rfl) ?_
    obtain ⟨h2, hR⟩ := chkE hR
    refine qu rfl rfl rfl h2 rfl ?_
    refine pu (v := .sc _) rfl rfl (fun _ => rfl) ?_
    refine RunC.fin ?_
    refine AWP.sq ?_
    refine AWP.sq ?_
    refine AWP.rgC 44 rfl rfl ?_
    refine pu (v := .sc _) rfl rfl (fun _ => rfl) ?_
    refine pu (v := .sc _) rfl rfl (fun _ => rfl) ?_
    refine rm rfl rfl rfl h2 rfl ?_
    refine pu (v := .sc _) rfl rfl (fun _ => rfl) ?_
    refine RunC.fin ?_
    refine AWP.cd hR rfl (fun h3 hR => ?_) fun h3 hR => ?_
    · refine AWP.rgC 56 rfl rfl ?_
      refine pu (v := .sc _) rfl rfl (fun _ => rfl) ?_
      refine pu (v := .sc _) rfl rfl (fun _ => rfl) ?_
      refine pu (v := .sc _) rfl rfl (fun _ => rfl) ?_
      refine RunC.fin ?_
      refine AWP.sq ?_
      refine AWP.rgC 64 rfl rfl ?_
      refine pu (v := .sc _) rfl rfl (fun _ => rfl) ?_
      refine pu (v := .sc _) rfl rfl (fun _ => rfl) ?_
      refine RunC.fin ?_
      refine AWP.ret ?_
      have hR := Option.some.inj hR; subst hR
      exact hQ _ _ (LS.mk [(4, .sc (.int .i64 (w6 ((w6 (Int.tdiv a b)) - 1))))] (lblks 0 []) 0) (.sc (.int .i64 (w6 ((w6 (Int.tdiv a b)) - 1)))) [] (.inr rfl) (Weak.turnL [] [] rfl rfl (tc (.sc _) tn) mn) (ro1 (rvT (v := .sc (.int .i64 (w6 ((w6 (Int.tdiv a b)) - 1)))) rfl)) rfl rfl (.sc _) pn
    · refine AWP.skip ?_
      refine skT ?_
      refine AWP.sq ?_
      refine AWP.rgC 52 rfl rfl ?_
      refine pu (v := .sc _) rfl rfl (fun _ => rfl) ?_
      refine pu (v := .sc _) rfl rfl (fun _ => rfl) ?_
      refine RunC.fin ?_
      refine AWP.ret ?_
      have hR := Option.some.inj hR; subst hR
      exact hQ _ _ (LS.mk [(4, .sc (.int .i64 (w6 (Int.tdiv a b))))] (lblks 0 []) 0) (.sc (.int .i64 (w6 (Int.tdiv a b)))) [] (.inr rfl) (Weak.turnL [] [] rfl rfl (tc (.sc _) tn) mn) (ro1 (rvT (v := .sc (.int .i64 (w6 (Int.tdiv a b)))) rfl)) rfl rfl (.sc _) pn
theorem ok58 (x : Int) (r : Bool) (hR : cmp_isNaN x = some r) : FnP Try.prog 58 [.sc (.int .i64 x)] (.sc (.bool r)) := by
  refine fnP_of (FnX.walk Try.func58 rfl 6 0 (by simp [Try.ntmps58]) rfl fun W S F Q hQ => ?_)
  unfold cmp_isNaN at hR
  refine AWP.sq ?_
  refine AWP.rgC 4 rfl rfl ?_
  refine pu (v := .sc _) rfl rfl (fun _ => rfl) ?_
  refine RunC.fin ?_
  refine AWP.sq ?_
  refine AWP.rgC 20 rfl rfl ?_
  refine pu (v := .sc _) rfl rfl (fun _ => rfl) ?_
  refine pu (v := .sc _) rfl rfl (fun _ => rfl) ?_
  refine pu (v := .sc _) rfl rfl (fun _ => rfl) ?_
  refine pu (v := .sc _) rfl rfl (fun _ => rfl) ?_
  refine RunC.fin ?_
  refine AWP.ret ?_
  have hR := Option.some.inj hR; subst hR
  exact hQ _ _ (LS.mk [(2, .sc (.bool (x != x)))] (lblks 0 []) 0) (.sc (.bool (x != x))) [] (.inr rfl) (Weak.turnL [] [] rfl rfl (tc (.sc _) tn) mn) (ro1 (rvT (v := .sc (.bool (x != x))) rfl)) rfl rfl (.sc _) pn
theorem ok55 (r_ : NU64) (r : NU64 × NU64) (hR : xorshift_Next r_ = some r) : FnD Try.prog 55 [boxB false r_] [.ptr 0 0 0] (.sc (.int .u64 r.1.n)) [boxB false r.2] := by
  refine FnX.walk Try.func55 rfl 33 1 (by simp [Try.ntmps55]) rfl fun W S F Q hQ => ?_
  unfold xorshift_Next at hR
  refine AWP.sq ?_
  refine AWP.rgC 5 rfl rfl ?_
  refine pu (v := .sc _) rfl rfl (fun _ => rfl) ?_
  refine RunC.fin ?_
  refine AWP.sq ?_
  refine AWP.rgD 45 [0, 1, 3, 0, 8, 24, 56, 127, 255, 511] ⟨[], [none, none, some [0], none, none, some [0], none, none, none, some [0]]⟩ hmix (by kernel_rfl) rfl rfl ?_
  refine pu (v := .ptr _ _ _) rfl rfl (fun _ => rfl) ?_
  refine pu (v := .ptr _ _ _) rfl rfl (fun _ => rfl) ?_
  refine ldB (v := .sc _) rfl rfl rfl rfl ti114 rfl rfl ?_
  refine pu (v := .ptr _ _ _) rfl rfl (fun _ => rfl) ?_
  refine pu (v := .ptr _ _ _) rfl rfl (fun _ => rfl) ?_
  refine ldB (v := .sc _) rfl rfl rfl rfl ti114 rfl rfl ?_
  refine pu (v := .sc _) rfl rfl (fun _ => rfl) ?_
  obtain ⟨v1, ev1, hR⟩ := letE hR
  refine pu (v := .sc _) rfl rfl (fun _ => puI ev1) ?_
  refine pu (v := .ptr _ _ _) rfl rfl (fun _ => rfl) ?_
  refine stB (cs' := [.sc (.int .u64 v1)]) rfl rfl rfl rfl ti114 rfl rfl rfl rfl rfl ?_
  refine RunC.fin ?_
  refine AWP.sq ?_
  refine AWP.rgD 85 [0, 1, 3, 0, 8, 24, 56, 127, 255, 511] ⟨[], [none, none, some [0], none, none, some [0], none, none, none, some [0]]⟩ hmix (by kernel_rfl) rfl rfl ?_
  refine pu (v := .ptr _ _ _) rfl rfl (fun _ => rfl) ?_
  refine pu (v := .ptr _ _ _) rfl rfl (fun _ => rfl) ?_
  refine ldB (v := .sc _) rfl rfl rfl rfl ti114 rfl rfl ?_
  refine pu (v := .ptr _ _ _) rfl rfl (fun _ => rfl) ?_
  refine pu (v := .ptr _ _ _) rfl rfl (fun _ => rfl) ?_
  refine ldB (v := .sc _) rfl rfl rfl rfl ti114 rfl rfl ?_
  refine pu (v := .sc _) rfl rfl (fun _ => rfl) ?_
  obtain ⟨v2, ev2, hR⟩ := letE hR
  refine pu (v := .sc _) rfl rfl (fun _ => puI ev2) ?_
  refine pu (v := .ptr _ _ _) rfl rfl (fun _ => rfl) ?_
  refine stB (cs' := [.sc (.int .u64 v2)]) rfl rfl rfl rfl ti114 rfl rfl rfl rfl rfl ?_
  refine RunC.fin ?_
  refine AWP.sq ?_
  refine AWP.rgD 125 [0, 1, 3, 0, 8, 24, 56, 127, 255, 511] ⟨[], [none, none, some [0], none, none, some [0], none, none, none, some [0]]⟩ hmix (by kernel_rfl) rfl rfl ?_
  refine pu (v := .ptr _ _ _) rfl rfl (fun _ => rfl) ?_
  refine pu (v := .ptr _ _ _) rfl rfl (fun _ => rfl) ?_
  refine ldB (v := .sc _) rfl rfl rfl rfl ti114 rfl rfl ?_
  refine pu (v := .ptr _ _ _) rfl rfl (fun _ => rfl) ?_
  refine pu (v := .ptr _ _ _) rfl rfl (fun _ => rfl) ?_
  refine ldB (v := .sc _) rfl rfl rfl rfl ti114 rfl rfl ?_
  refine pu (v := .sc _) rfl rfl (fun _ => rfl) ?_
  obtain ⟨v3, ev3, hR⟩ := letE hR
  refine pu (v := .sc _) rfl rfl (fun _ => puI ev3) ?_
  refine pu (v := .ptr _ _ _) rfl rfl (fun _ => rfl) ?_
  refine stB (cs' := [.sc (.int .u64 v3)]) rfl rfl rfl rfl ti114 rfl rfl rfl rfl rfl ?_
  refine RunC.fin ?_
  refine AWP.sq ?_
  refine AWP.rgC 141 rfl rfl ?_
  refine pu (v := .ptr _ _ _) rfl rfl (fun _ => rfl) ?_
  refine pu (v := .ptr _ _ _) rfl rfl (fun _ => rfl) ?_
  refine ldB (v := .sc _) rfl rfl rfl rfl ti114 rfl rfl ?_
  refine pu (v := .sc _) rfl rfl (fun _ => rfl) ?_
  refine RunC.fin ?_
  refine AWP.ret ?_
  have hR := Option.some.inj hR; subst hR
  exact hQ _ _ (LS.mk [(2, .sc (.int .u64 v3))] (lblks 0 [boxB (α := NU64) true (NU64.mk v3)]) 1) (.sc (.int .u64 v3)) [] (.inr rfl) (Weak.turnL [(0, 0)] [] rfl rfl (tc (.sc _) tn) (mc rfl (.box rfl (.cons (.sc _) (.nil)) rfl) mn)) (ro1 (rvT (v := .sc (.int .u64 v3)) rfl)) rfl rfl (.sc _) (pc rfl bldB pn)
theorem ok43 (x : Int) (r : Int) (hR : bits_Len64 x = some r) : FnP Try.prog 43 [.sc (.int .u64 x)] (.sc (.int .i64 r)) := by
  refine fnP_of (FnX.walk Try.func43 rfl 25 0 (by simp [Try.ntmps43]) rfl fun W S F Q hQ => ?_)
  unfold bits_Len64 at hR
  refine AWP.sq ?_
  refine AWP.rgC 4 rfl rfl ?_
  refine pu (v := .sc _) rfl rfl (fun _ => rfl) ?_
  refine RunC.fin ?_
  refine AWP.sq ?_
  refine AWP.sq ?_
  refine AWP.rgC 12 rfl rfl ?_
  refine pu (v := .sc _) rfl rfl (fun _ => rfl) ?_
  refine pu (v := .sc _) rfl rfl (fun _ => rfl) ?_
  refine RunC.fin ?_
  refine AWP.cd hR rfl (fun h1 hR => ?_) fun h1 hR => ?_
  · refine AWP.sq ?_
    refine AWP.rgC 24 rfl rfl ?_
    refine pu (v := .sc _) rfl rfl (fun _ => rfl) ?_
    refine pu (v := .sc _) rfl rfl (fun _ => rfl) ?_
    refine pu (v := .sc _) rfl rfl (fun _ => rfl) ?_
    refine RunC.fin ?_
    refine AWP.rgC 28 rfl rfl ?_
    refine pu (v := .sc _) rfl rfl (fun _ => rfl) ?_
    refine RunC.fin ?_
    refine AWP.sq ?_
    refine AWP.sq ?_
    refine AWP.rgC 36 rfl rfl ?_
    refine pu (v := .sc _) rfl rfl (fun _ => rfl) ?_
    refine pu (v := .sc _) rfl rfl (fun _ => rfl) ?_
    refine RunC.fin ?_
    refine AWP.cd hR rfl (fun h2 hR => ?_) fun h2 hR => ?_
    · refine AWP.sq ?_
      refine AWP.rgC 48 rfl rfl ?_
      refine pu (v := .sc _) rfl rfl (fun _ => rfl) ?_
      refine pu (v := .sc _) rfl rfl (fun _ => rfl) ?_
      refine pu (v := .sc _) rfl rfl (fun _ => rfl) ?_
      refine RunC.fin ?_
      refine AWP.rgC 60 rfl rfl ?_
      refine pu (v := .sc _) rfl rfl (fun _ => rfl) ?_
      refine pu (v := .sc _) rfl rfl (fun _ => rfl) ?_
      refine pu (v := .sc _) rfl rfl (fun _ => rfl) ?_
      refine RunC.fin ?_
      refine AWP.sq ?_
      refine AWP.sq ?_
      refine AWP.rgC 68 rfl rfl ?_
      refine pu (v := .sc _) rfl rfl (fun _ => rfl) ?_
      refine pu (v := .sc _) rfl rfl (fun _ => rfl) ?_
      refine RunC.fin ?_
      refine AWP.cd hR rfl (fun h3 hR => ?_) fun h3 hR => ?_
      · refine AWP.sq ?_
        refine AWP.rgC 80 rfl rfl ?_
        refine pu (v := .sc _) rfl rfl (fun _ => rfl) ?_
        refine pu (v := .sc _) rfl rfl (fun _ => rfl) ?_
        refine pu (v := .sc _) rfl rfl (fun _ => rfl) ?_
        refine RunC.fin ?_
        refine AWP.rgC 92 rfl rfl ?_
        refine pu (v := .sc _) rfl rfl (fun _ => rfl) ?_
        refine pu (v := .sc _) rfl rfl (fun _ => rfl) ?_
        refine pu (v := .sc _) rfl rfl (fun _ => rfl) ?_
        refine RunC.fin ?_
        refine AWP.sq ?_
        refine AWP.rgC 120 rfl rfl ?_
        refine pu (v := .sc _) rfl rfl (fun _ => rfl) ?_
        refine pu (v := .sc _) rfl rfl (fun _ => rfl) ?_
        refine cn rfl rfl ti103 rfl ti5 rfl rfl ?_
        obtain ⟨h4, hR⟩ := chkE hR
        refine ixT (s := tab1) rfl rfl rfl ti9 rfl h4 ?_
        refine cn rfl rfl ti5 rfl ti3 rfl rfl ?_
        obtain ⟨v5, ev5, hR⟩ := letE hR
        refine pu (v := .sc _) rfl rfl (fun _ => puI ev5) ?_
        refine pu (v := .sc _) rfl rfl (fun _ => rfl) ?_
        refine RunC.fin ?_
        refine AWP.ret ?_
        have hR := Option.some.inj hR; subst hR
        exact hQ _ _ (LS.mk [(2, .sc (.int .i64 v5))] (lblks 0 []) 0) (.sc (.int .i64 v5)) [] (.inr rfl) (Weak.turnL [] [] rfl rfl (tc (.sc _) tn) mn) (ro1 (rvT (v := .sc (.int .i64 v5)) rfl)) rfl rfl (.sc _) pn
      · refine AWP.skip ?_
        refine skT ?_
        refine AWP.sq ?_
        refine AWP.rgC 96 rfl rfl ?_
        refine pu (v := .sc _) rfl rfl (fun _ => rfl) ?_
        refine pu (v := .sc _) rfl rfl (fun _ => rfl) ?_
        refine cn rfl rfl ti103 rfl ti5 rfl rfl ?_
        obtain ⟨h6, hR⟩ := chkE hR
        refine ixT (s := tab1) rfl rfl rfl ti9 rfl h6 ?_
        refine cn rfl rfl ti5 rfl ti3 rfl rfl ?_
        obtain ⟨v7, ev7, hR⟩ := letE hR
        refine pu (v := .sc _) rfl rfl (fun _ => puI ev7) ?_
        refine pu (v := .sc _) rfl rfl (fun _ => rfl) ?_
        refine RunC.fin ?_
        refine AWP.ret ?_
        have hR := Option.some.inj hR; subst hR
        exact hQ _ _ (LS.mk [(2, .sc (.int .i64 v7))] (lblks 0 []) 0) (.sc (.int .i64 v7)) [] (.inr rfl) (Weak.turnL [] [] rfl rfl (tc (.sc _) tn) mn) (ro1 (rvT (v := .sc (.int .i64 v7)) rfl)) rfl rfl (.sc _) pn
    · refine AWP.skip ?_
      refine skT ?_
      refine AWP.sq ?_
      refine AWP.sq ?_
      refine AWP.rgC 44 rfl rfl ?_
      refine pu (v := .sc _) rfl rfl (fun _ => rfl) ?_
      refine pu (v := .sc _) rfl rfl (fun _ => rfl) ?_
      refine RunC.fin ?_
      refine AWP.cd hR rfl (fun h8 hR => ?_) fun h8 hR => ?_
      · refine AWP.sq ?_
        refine AWP.rgC 56 rfl rfl ?_
        refine pu (v := .sc _) rfl rfl (fun _ => rfl) ?_
        refine pu (v := .sc _) rfl rfl (fun _ => rfl) ?_
        refine pu (v := .sc _) rfl rfl (fun _ => rfl) ?_
        refine RunC.fin ?_
        refine AWP.rgC 68 rfl rfl ?_
        refine pu (v := .sc _) rfl rfl (fun _ => rfl) ?_
        refine pu (v := .sc _) rfl rfl (fun _ => rfl) ?_
        refine pu (v := .sc _) rfl rfl (fun _ => rfl) ?_
        refine RunC.fin ?_
        refine AWP.sq ?_
        refine AWP.rgC 96 rfl rfl ?_
        refine pu (v := .sc _) rfl rfl (fun _ => rfl) ?_
        refine pu (v := .sc _) rfl rfl (fun _ => rfl) ?_
        refine cn rfl rfl ti103 rfl ti5 rfl rfl ?_
        obtain ⟨h9, hR⟩ := chkE hR
        refine ixT (s := tab1) rfl rfl rfl ti9 rfl h9 ?_
        refine cn rfl rfl ti5 rfl ti3 rfl rfl ?_
        obtain ⟨v10, ev10, hR⟩ := letE hR
        refine pu (v := .sc _) rfl rfl (fun _ => puI ev10) ?_
        refine pu (v := .sc _) rfl rfl (fun _ => rfl) ?_
        refine RunC.fin ?_
        refine AWP.ret ?_
        have hR := Option.some.inj hR; subst hR
        exact hQ _ _ (LS.mk [(2, .sc (.int .i64 v10))] (lblks 0 []) 0) (.sc (.int .i64 v10)) [] (.inr rfl) (Weak.turnL [] [] rfl rfl (tc (.sc _) tn) mn) (ro1 (rvT (v := .sc (.int .i64 v10)) rfl)) rfl rfl (.sc _) pn
      · refine AWP.skip ?_
        refine skT ?_
        refine AWP.sq ?_
        refine AWP.rgC 72 rfl rfl ?_
        refine pu (v := .sc _) rfl rfl (fun _ => rfl) ?_
        refine pu (v := .sc _) rfl rfl (fun _ => rfl) ?_
        refine cn rfl rfl ti103 rfl ti5 rfl rfl ?_
        obtain ⟨h11, hR⟩ := chkE hR
        refine ixT (s := tab1) rfl rfl rfl ti9 rfl h11 ?_
        refine cn rfl rfl ti5 rfl ti3 rfl rfl ?_
        obtain ⟨v12, ev12, hR⟩ := letE hR
        refine pu (v := .sc _) rfl rfl (fun _ => puI ev12) ?_
        refine pu (v := .sc _) rfl rfl (fun _ => rfl) ?_
        refine RunC.fin ?_
        refine AWP.ret ?_
        have hR := Option.some.inj hR; subst hR
        exact hQ _ _ (LS.mk [(2, .sc (.int .i64 v12))] (lblks 0 []) 0) (.sc (.int .i64 v12)) [] (.inr rfl) (Weak.turnL [] [] rfl rfl (tc (.sc _) tn) mn) (ro1 (rvT (v := .sc (.int .i64 v12)) rfl)) rfl rfl (.sc _) pn
  · refine AWP.skip ?_
    refine skT ?_
    refine AWP.sq ?_
    refine AWP.sq ?_
    refine AWP.rgC 20 rfl rfl ?_
    refine pu (v := .sc _) rfl rfl (fun _ => rfl) ?_
    refine pu (v := .sc _) rfl rfl (fun _ => rfl) ?_
    refine RunC.fin ?_
    refine AWP.cd hR rfl (fun h13 hR => ?_) fun h13 hR => ?_
    · refine AWP.sq ?_
      refine AWP.rgC 32 rfl rfl ?_
      refine pu (v := .sc _) rfl rfl (fun _ => rfl) ?_
      refine pu (v := .sc _) rfl rfl (fun _ => rfl) ?_
      refine pu (v := .sc _) rfl rfl (fun _ => rfl) ?_
      refine RunC.fin ?_
      refine AWP.rgC 44 rfl rfl ?_
      refine pu (v := .sc _) rfl rfl (fun _ => rfl) ?_
      refine pu (v := .sc _) rfl rfl (fun _ => rfl) ?_
      refine pu (v := .sc _) rfl rfl (fun _ => rfl) ?_
      refine RunC.fin ?_
      refine AWP.sq ?_
      refine AWP.sq ?_
      refine AWP.rgC 52 rfl rfl ?_
      refine pu (v := .sc _) rfl rfl (fun _ => rfl) ?_
      refine pu (v := .sc _) rfl rfl (fun _ => rfl) ?_
      refine RunC.fin ?_
      refine AWP.cd hR rfl (fun h14 hR => ?_) fun h14 hR => ?_
      · refine AWP.sq ?_
        refine AWP.rgC 64 rfl rfl ?_
        refine pu (v := .sc _) rfl rfl (fun _ => rfl) ?_
        refine pu (v := .sc _) rfl rfl (fun _ => rfl) ?_
        refine pu (v := .sc _) rfl rfl (fun _ => rfl) ?_
        refine RunC.fin ?_
        refine AWP.rgC 76 rfl rfl ?_
        refine pu (v := .sc _) rfl rfl (fun _ => rfl) ?_
        refine pu (v := .sc _) rfl rfl (fun _ => rfl) ?_
        refine pu (v := .sc _) rfl rfl (fun _ => rfl) ?_
        refine RunC.fin ?_
        refine AWP.sq ?_
        refine AWP.rgC 104 rfl rfl ?_
        refine pu (v := .sc _) rfl rfl (fun _ => rfl) ?_
        refine pu (v := .sc _) rfl rfl (fun _ => rfl) ?_
        refine cn rfl rfl ti103 rfl ti5 rfl rfl ?_
        obtain ⟨h15, hR⟩ := chkE hR
        refine ixT (s := tab1) rfl rfl rfl ti9 rfl h15 ?_
        refine cn rfl rfl ti5 rfl ti3 rfl rfl ?_
        obtain ⟨v16, ev16, hR⟩ := letE hR
        refine pu (v := .sc _) rfl rfl (fun _ => puI ev16) ?_
        refine pu (v := .sc _) rfl rfl (fun _ => rfl) ?_
        refine RunC.fin ?_
        refine AWP.ret ?_
        have hR := Option.some.inj hR; subst hR
        exact hQ _ _ (LS.mk [(2, .sc (.int .i64 v16))] (lblks 0 []) 0) (.sc (.int .i64 v16)) [] (.inr rfl) (Weak.turnL [] [] rfl rfl (tc (.sc _) tn) mn) (ro1 (rvT (v := .sc (.int .i64 v16)) rfl)) rfl rfl (.sc _) pn
      · refine AWP.skip ?_
        refine skT ?_
        refine AWP.sq ?_
        refine AWP.rgC 80 rfl rfl ?_
        refine pu (v := .sc _) rfl rfl (fun _ => rfl) ?_
        refine pu (v := .sc _) rfl rfl (fun _ => rfl) ?_
        refine cn rfl rfl ti103 rfl ti5 rfl rfl ?_
        obtain ⟨h17, hR⟩ := chkE hR
        refine ixT (s := tab1) rfl rfl rfl ti9 rfl h17 ?_
        refine cn rfl rfl ti5 rfl ti3 rfl rfl ?_
        obtain ⟨v18, ev18, hR⟩ := letE hR
        refine pu (v := .sc _) rfl rfl (fun _ => puI ev18) ?_
        refine pu (v := .sc _) rfl rfl (fun _ => rfl) ?_
        refine RunC.fin ?_
        refine AWP.ret ?_
        have hR := Option.some.inj hR; subst hR
        exact hQ _ _ (LS.mk [(2, .sc (.int .i64 v18))] (lblks 0 []) 0) (.sc (.int .i64 v18)) [] (.inr rfl) (Weak.turnL [] [] rfl rfl (tc (.sc _) tn) mn) (ro1 (rvT (v := .sc (.int .i64 v18)) rfl)) rfl rfl (.sc _) pn
    · refine AWP.skip ?_
      refine skT ?_
      refine AWP.sq ?_
      refine AWP.sq ?_
      refine AWP.rgC 28 rfl rfl ?_
      refine pu (v := .sc _) rfl rfl (fun _ => rfl) ?_
      refine pu (v := .sc _) rfl rfl (fun _ => rfl) ?_
      refine RunC.fin ?_
      refine AWP.cd hR rfl (fun h19 hR => ?_) fun h19 hR => ?_
      · refine AWP.sq ?_
        refine AWP.rgC 40 rfl rfl ?_
        refine pu (v := .sc _) rfl rfl (fun _ => rfl) ?_
        refine pu (v := .sc _) rfl rfl (fun _ => rfl) ?_
        refine pu (v := .sc _) rfl rfl (fun _ => rfl) ?_
        refine RunC.fin ?_
        refine AWP.rgC 52 rfl rfl ?_
        refine pu (v := .sc _) rfl rfl (fun _ => rfl) ?_
        refine pu (v := .sc _) rfl rfl (fun _ => rfl) ?_
        refine pu (v := .sc _) rfl rfl (fun _ => rfl) ?_
        refine RunC.fin ?_
        refine AWP.sq ?_
        refine AWP.rgC 80 rfl rfl ?_
        refine pu (v := .sc _) rfl rfl (fun _ => rfl) ?_
        refine pu (v := .sc _) rfl rfl (fun _ => rfl) ?_
        refine cn rfl rfl ti103 rfl ti5 rfl rfl ?_
        obtain ⟨h20, hR⟩ := chkE hR
        refine ixT (s := tab1) rfl rfl rfl ti9 rfl h20 ?_
        refine cn rfl rfl ti5 rfl ti3 rfl rfl ?_
        obtain ⟨v21, ev21, hR⟩ := letE hR
        refine pu (v := .sc _) rfl rfl (fun _ => puI ev21) ?_
        refine pu (v := .sc _) rfl rfl (fun _ => rfl) ?_
        refine RunC.fin ?_
        refine AWP.ret ?_
        have hR := Option.some.inj hR; subst hR
        exact hQ _ _ (LS.mk [(2, .sc (.int .i64 v21))] (lblks 0 []) 0) (.sc (.int .i64 v21)) [] (.inr rfl) (Weak.turnL [] [] rfl rfl (tc (.sc _) tn) mn) (ro1 (rvT (v := .sc (.int .i64 v21)) rfl)) rfl rfl (.sc _) pn
      · refine AWP.skip ?_
        refine skT ?_
        refine AWP.sq ?_
        refine AWP.rgC 56 rfl rfl ?_
        refine pu (v := .sc _) rfl rfl (fun _ => rfl) ?_
        refine pu (v := .sc _) rfl rfl (fun _ => rfl) ?_
        refine cn rfl rfl ti103 rfl ti5 rfl rfl ?_
        obtain ⟨h22, hR⟩ := chkE hR
        refine ixT (s := tab1) rfl rfl rfl ti9 rfl h22 ?_
        refine cn rfl rfl ti5 rfl ti3 rfl rfl ?_
        refine pu (v := .sc _) rfl rfl (fun _ => rfl) ?_
        refine pu (v := .sc _) rfl rfl (fun _ => rfl) ?_
        refine RunC.fin ?_
        refine AWP.ret ?_
        have hR := Option.some.inj hR; subst hR
        exact hQ _ _ (LS.mk [(2, .sc (.int .i64 (w6 (0 + (w6 (tabAt tab1 (IntKind.wrap .u8 x)))))))] (lblks 0 []) 0) (.sc (.int .i64 (w6 (0 + (w6 (tabAt tab1 (IntKind.wrap .u8 x))))))) [] (.inr rfl) (Weak.turnL [] [] rfl rfl (tc (.sc _) tn) mn) (ro1 (rvT (v := .sc (.int .i64 (w6 (0 + (w6 (tabAt tab1 (IntKind.wrap .u8 x))))))) rfl)) rfl rfl (.sc _) pn
theorem ok26 (x : Int) (r : Int) (hR : bits_Len x = some r) : FnP Try.prog 26 [.sc (.int .u64 x)] (.sc (.int .i64 r)) := by
  refine fnP_of (FnX.walk Try.func26 rfl 8 0 (by simp [Try.ntmps26]) rfl fun W S F Q hQ => ?_)
  unfold bits_Len at hR
  refine AWP.sq ?_
  refine AWP.rgC 4 rfl rfl ?_
  refine pu (v := .sc _) rfl rfl (fun _ => rfl) ?_
  refine RunC.fin ?_
  refine AWP.sq ?_
  refine AWP.cdF rfl ?_
  refine AWP.skip ?_
  refine skT ?_
  refine AWP.sq ?_
  refine AWP.rgC 16 rfl rfl ?_
  refine pu (v := .sc _) rfl rfl (fun _ => rfl) ?_
  obtain ⟨r1, hr1, hR⟩ := bindE hR
  refine cls [] rfl rfl cb43 (ok43 x _ hr1) (.cons (.sc _) (.nil)) (.inr rfl) rfl ?_
  refine pu (v := .sc _) rfl rfl (fun _ => rfl) ?_
  refine RunC.fin ?_
  refine AWP.ret ?_
  have hR := Option.some.inj hR; subst hR
  exact hQ _ _ (LS.mk [(2, .sc (.int .i64 r1))] (lblks 0 []) 0) (.sc (.int .i64 r1)) [] (.inr rfl) (Weak.turnL [] [] rfl rfl (tc (.sc _) tn) mn) (ro1 (rvT (v := .sc (.int .i64 r1)) rfl)) rfl rfl (.sc _) pn
theorem ok54 (length : Int) (r : NU64) (hR : slices_nextPowerOfTwo length = some r) : FnP Try.prog 54 [.sc (.int .i64 length)] (.sc (.int .u64 r.n)) := by
  refine fnP_of (FnX.walk Try.func54 rfl 7 0 (by simp [Try.ntmps54]) rfl fun W S F Q hQ => ?_)
  unfold slices_nextPowerOfTwo at hR
  refine AWP.sq ?_
  refine AWP.rgC 4 rfl rfl ?_
  refine pu (v := .sc _) rfl rfl (fun _ => rfl) ?_
  refine RunC.fin ?_
  refine AWP.sq ?_
  refine AWP.rgC 24 rfl rfl ?_
  refine pu (v := .sc _) rfl rfl (fun _ => rfl) ?_
  refine cn rfl rfl ti3 rfl ti81 rfl rfl ?_
  obtain ⟨r1, hr1, hR⟩ := bindE hR
  refine cls [] rfl rfl cb26 (ok26 (IntKind.wrap .u64 length) _ hr1) (.cons (.sc _) (.nil)) (.inr rfl) rfl ?_
  obtain ⟨h2, hR⟩ := chkE hR
  obtain ⟨v3, ev3, hR⟩ := letE hR
  refine shL rfl rfl rfl h2 ev3 ?_
  refine pu (v := .sc _) rfl rfl (fun _ => rfl) ?_
  refine RunC.fin ?_
  refine AWP.ret ?_
  have hR := Option.some.inj hR; subst hR
  exact hQ _ _ (LS.mk [(2, .sc (.int .u64 v3))] (lblks 0 []) 0) (.sc (.int .u64 v3)) [] (.inr rfl) (Weak.turnL [] [] rfl rfl (tc (.sc _) tn) mn) (ro1 (rvT (v := .sc (.int .u64 v3)) rfl)) rfl rfl (.sc _) pn
theorem ok52 (b : Body) (r : Bool) (hR : sky_moves b = some r) : FnP Try.prog 52 [aggV false b] (.sc (.bool r)) := by
  refine fnP_of (FnX.walk Try.func52 rfl 11 0 (by simp [Try.ntmps52]) rfl fun W S F Q hQ => ?_)
  unfold sky_moves at hR
  refine AWP.sq ?_
  refine AWP.rgC 8 rfl rfl ?_
  refine bx (cs := _) 0 rfl rfl rfl ?_
  refine pu (v := .sc _) rfl rfl (fun _ => rfl) ?_
  refine RunC.fin ?_
  refine AWP.joinX (fun z1 : Bool => LS.mk [(2, .sc (.bool z1))] (lblks 0 []) 0) hR (fun o1 hR => ?_) fun z1 hR => ?_
  · refine AWP.rgC 44 rfl rfl ?_
    refine fa rfl rfl ti53 rfl rfl ti27 rfl ?_
    refine ldB (v := .agg _) rfl rfl rfl rfl ti27 rfl rfl ?_
    obtain ⟨r2, hr2, hR⟩ := bindE hR
    refine cls [] rfl rfl cb64 (ok64 b.Was 4194304 _ hr2) (.cons (.agg (.cons (.sc _) (.cons (.sc _) (.cons (.sc _) (.nil)))) rfl) (.cons (.sc _) (.nil))) (.inr rfl) rfl ?_
    refine pu (v := .sc _) rfl rfl (fun _ => rfl) ?_
    refine brR hR (fun h3 hR => ?_) fun h3 hR => ?_
    · refine fa (wtG rfl rfl rfl h3) rfl ti53 rfl rfl ti27 rfl ?_
      refine ldB (v := .agg _) (wtG rfl rfl rfl h3) rfl rfl rfl ti27 rfl rfl ?_
      obtain ⟨r4, hr4, hR⟩ := bindE hR
      refine cls [] (wtG rfl rfl rfl h3) rfl cb64 (ok64 b.Here 4194304 _ hr4) (.cons (.agg (.cons (.sc _) (.cons (.sc _) (.cons (.sc _) (.nil)))) rfl) (.cons (.sc _) (.nil))) (.inr rfl) rfl ?_
      refine pkT (v := .sc (.bool r4)) rfl rfl h3 rfl ?_
      refine pu (v := .sc _) rfl rfl (fun _ => rfl) ?_
      refine RunC.fin ?_
      have hR := Option.some.inj hR; subst hR
      exact Weak.turnL [] [] rfl rfl (tc (.sc _) tn) mn
    · refine sk (skW rfl rfl rfl h3) ?_
      refine sk (skW rfl rfl rfl h3) ?_
      refine sk (skW rfl rfl rfl h3) ?_
      refine pkF (v := .sc (.bool false)) rfl rfl h3 rfl ?_
      refine pu (v := .sc _) rfl rfl (fun _ => rfl) ?_
      refine RunC.fin ?_
      have hR := Option.some.inj hR; subst hR
      exact Weak.turnL [] [] rfl rfl (tc (.sc _) tn) mn
  · refine AWP.ret ?_
    have hR := Option.some.inj hR; subst hR
    exact hQ _ _ (LS.mk [(2, .sc (.bool z1))] (lblks 0 []) 0) (.sc (.bool z1)) [] (.inr rfl) (Weak.turnL [] [] rfl rfl (tc (.sc _) tn) mn) (ro1 (rvT (v := .sc (.bool z1)) rfl)) rfl rfl (.sc _) pn
theorem ok51 (g : Galaxy) (r : Int) (hR : sky_galaxy g = some r) : FnP Try.prog 51 [aggV false g] (.sc (.int .i64 r)) := by
  refine fnP_of (FnX.walk Try.func51 rfl 31 0 (by simp [Try.ntmps51]) rfl fun W S F Q hQ => ?_)
  unfold sky_galaxy at hR
  refine AWP.sq ?_
  refine AWP.rgC 8 rfl rfl ?_
  refine bx (cs := _) 0 rfl rfl rfl ?_
  refine pu (v := .sc _) rfl rfl (fun _ => rfl) ?_
  refine RunC.fin ?_
  refine AWP.sq ?_
  refine AWP.sq ?_
  refine AWP.rgC 24 rfl rfl ?_
  refine fa rfl rfl ti78 rfl rfl ti27 rfl ?_
  refine ldB (v := .agg _) rfl rfl rfl rfl ti27 rfl rfl ?_
  obtain ⟨r1, hr1, hR⟩ := bindE hR
  refine cls [] rfl rfl cb61 (ok61 g.At _ hr1) (.cons (.agg (.cons (.sc _) (.cons (.sc _) (.cons (.sc _) (.nil)))) rfl) (.nil)) (.inr rfl) rfl ?_
  refine pu (v := .sc _) rfl rfl (fun _ => rfl) ?_
  refine RunC.fin ?_
  refine AWP.sq ?_
  refine AWP.rgC 32 rfl rfl ?_
  refine pu (v := .sc _) rfl rfl (fun _ => rfl) ?_
  refine pu (v := .sc _) rfl rfl (fun _ => rfl) ?_
  refine RunC.fin ?_
  refine AWP.cd hR rfl (fun h2 hR => ?_) fun h2 hR => ?_
  · refine AWP.sq ?_
    refine AWP.rgC 40 rfl rfl ?_
    refine pu (v := .sc _) rfl rfl (fun _ => rfl) ?_
    refine pu (v := .sc _) rfl rfl (fun _ => rfl) ?_
    refine RunC.fin ?_
    refine AWP.ret ?_
    refine rtT ?_
    have hR := Option.some.inj hR; subst hR
    exact hQ _ _ (LS.mk [(2, .sc (.int .i64 r1))] (lblks 0 []) 0) (.sc (.int .i64 r1)) [] (.inr rfl) (Weak.turnL [] [] rfl rfl (tc (.sc _) tn) mn) (ro1 (rvT (v := .sc (.int .i64 r1)) rfl)) rfl rfl (.sc _) pn
  · refine AWP.skip ?_
    refine skT ?_
    refine AWP.sq ?_
    refine AWP.sq ?_
    refine AWP.rgC 56 rfl rfl ?_
    refine fa rfl rfl ti78 rfl rfl ti3 rfl ?_
    refine ldB (v := .sc _) rfl rfl rfl rfl ti3 rfl rfl ?_
    refine fa rfl rfl ti78 rfl rfl ti3 rfl ?_
    refine ldB (v := .sc _) rfl rfl rfl rfl ti3 rfl rfl ?_
    refine buA (cs := [.sc (.int .i64 g.Wide), .sc (.int .i64 g.High)]) rfl ti125 rfl ti3 rfl rfl ?_
    refine pu (v := .sc _) rfl rfl (fun _ => rfl) ?_
    refine RunC.fin ?_
    refine AWP.loopK' (fun s3 : Int => LS.mk [(16, aggV (α := Int × Int) true (g.Wide, g.High)), (17, .sc (.int .i64 s3))] (lblks 0 []) 0) (fun z4 : Unit => LS.mk [] (lblks 0 []) 0) (sky_galaxy.l1 g) hR (s0 := 0) (Weak.turnL [] [] rfl rfl (tc (.agg (.cons (.sc _) (.cons (.sc _) (.nil))) rfl) (tc (.sc _) tn)) mn) (fun s3 o3 hR hE3 => ?_) fun z4 hR => ?_
    · unfold sky_galaxy.l1 at hR
      refine AWP.sq ?_
      refine AWP.rgC 4 rfl rfl ?_
      refine pu (v := .sc _) rfl rfl (fun _ => rfl) ?_
      refine RunC.fin ?_
      refine AWP.sq ?_
      refine AWP.cd hR rfl (fun h5 hR => ?_) fun h5 hR => ?_
      · refine AWP.skip ?_
        refine skT ?_
        refine AWP.sq ?_
        refine AWP.block ?_
        refine AWP.sq ?_
        refine AWP.rgC 12 rfl rfl ?_
        obtain ⟨h6, hR⟩ := chkE hR
        refine ixD (α := Int) (nw := true) (xs := ([g.Wide, g.High] : List Int)) (v := .sc _) rfl rfl rfl rfl ti125 rfl ti3 h6 rfl rfl rfl ?_
        refine pu (v := .sc _) rfl rfl (fun _ => rfl) ?_
        refine RunC.fin ?_
        refine AWP.joinX (fun z7 : Bool => LS.mk [(16, aggV (α := Int × Int) true (g.Wide, g.High)), (17, .sc (.int .i64 s3)), (29, .sc (.bool z7))] (lblks 0 []) 0) hR (fun o7 hR => ?_) fun z7 hR => ?_
        · refine AWP.rgC 52 rfl rfl ?_
          refine pu (v := .sc _) rfl rfl (fun _ => rfl) ?_
          refine pu (v := .sc _) rfl rfl (fun _ => rfl) ?_
          refine pu (v := .sc _) rfl rfl (fun _ => rfl) ?_
          refine brR hR (fun h8 hR => ?_) fun h8 hR => ?_
          · refine pu (v := .sc _) (wtG rfl rfl rfl h8) rfl (fun _ => rfl) ?_
            refine pu (v := .sc _) (wtG rfl rfl rfl h8) rfl (fun _ => rfl) ?_
            refine pkT (v := .sc (.bool ((gt ([g.Wide, g.High] : List Int) s3) != 2))) rfl rfl h8 rfl ?_
            refine pu (v := .sc _) rfl rfl (fun _ => rfl) ?_
            refine brR hR (fun h9 hR => ?_) fun h9 hR => ?_
            · refine pu (v := .sc _) (wtG rfl rfl rfl h9) rfl (fun _ => rfl) ?_
              refine pu (v := .sc _) (wtG rfl rfl rfl h9) rfl (fun _ => rfl) ?_
              refine pkT (v := .sc (.bool ((gt ([g.Wide, g.High] : List Int) s3) != 4))) rfl rfl h9 rfl ?_
              refine RunC.fin ?_
              have hR := Option.some.inj hR; subst hR
              exact Weak.turnL [] [] rfl rfl (tc (.agg (.cons (.sc _) (.cons (.sc _) (.nil))) rfl) (tc (.sc _) (tc (.sc _) tn))) mn
            · refine sk (skW rfl rfl rfl h9) ?_
              refine sk (skW rfl rfl rfl h9) ?_
              refine pkF (v := .sc (.bool false)) rfl rfl h9 rfl ?_
              refine RunC.fin ?_
              have hR := Option.some.inj hR; subst hR
              exact Weak.turnL [] [] rfl rfl (tc (.agg (.cons (.sc _) (.cons (.sc _) (.nil))) rfl) (tc (.sc _) (tc (.sc _) tn))) mn
          · refine sk (skW rfl rfl rfl h8) ?_
            refine sk (skW rfl rfl rfl h8) ?_
            refine pkF (v := .sc (.bool false)) rfl rfl h8 rfl ?_
            refine pu (v := .sc _) rfl rfl (fun _ => rfl) ?_
            refine sk (skW rfl rfl rfl rfl) ?_
            refine sk (skW rfl rfl rfl rfl) ?_
            refine pkF (v := .sc (.bool false)) rfl rfl rfl rfl ?_
            refine RunC.fin ?_
            have hR := Option.some.inj hR; subst hR
            exact Weak.turnL [] [] rfl rfl (tc (.agg (.cons (.sc _) (.cons (.sc _) (.nil))) rfl) (tc (.sc _) (tc (.sc _) tn))) mn
        · refine AWP.cd hR rfl (fun h10 hR => ?_) fun h10 hR => ?_
          · refine AWP.sq ?_
            refine AWP.rgC 4 rfl rfl ?_
            refine pu (v := .sc _) rfl rfl (fun _ => rfl) ?_
            refine RunC.fin ?_
            refine AWP.ret ?_
            refine rtB ?_
            refine rtT ?_
            refine rtT ?_
            refine rtB (rtT ?_)
            replace hR := escL hR hE3
            refine rtT ?_
            have hR := Option.some.inj hR; subst hR
            exact hQ _ _ (LS.mk [(2, .sc (.int .i64 4))] (lblks 0 []) 0) (.sc (.int .i64 4)) [] (.inr rfl) (Weak.turnL [] [] rfl rfl (tc (.sc _) tn) mn) (ro1 (rvT (v := .sc (.int .i64 4)) rfl)) rfl rfl (.sc _) pn
          · refine AWP.skip ?_
            refine skB ?_
            refine skT ?_
            refine AWP.rgC 8 rfl rfl ?_
            refine pu (v := .sc _) rfl rfl (fun _ => rfl) ?_
            refine pu (v := .sc _) rfl rfl (fun _ => rfl) ?_
            refine RunC.fin ?_
            refine ⟨(w6 (s3 + 1)), (Option.some.inj hR).symm, ?_⟩
            exact Weak.turnL [] [] rfl rfl (tc (.agg (.cons (.sc _) (.cons (.sc _) (.nil))) rfl) (tc (.sc _) tn)) mn
      · refine AWP.exit ?_
        refine exT ?_
        refine exT ?_
        refine exH (skT ?_)
        refine ⟨(), (Option.some.inj hR).symm, ?_⟩
        exact Weak.turnL [] [] rfl rfl tn mn
    · refine skT ?_
      refine AWP.sq ?_
      refine AWP.rgC 4 rfl rfl ?_
      refine pu (v := .sc _) rfl rfl (fun _ => rfl) ?_
      refine RunC.fin ?_
      refine AWP.ret ?_
      have hR := Option.some.inj hR; subst hR
      exact hQ _ _ (LS.mk [(2, .sc (.int .i64 0))] (lblks 0 []) 0) (.sc (.int .i64 0)) [] (.inr rfl) (Weak.turnL [] [] rfl rfl (tc (.sc _) tn) mn) (ro1 (rvT (v := .sc (.int .i64 0)) rfl)) rfl rfl (.sc _) pn
theorem ok63 (q : Int) (p1 : Star) (r : Bool) (hR : sky_star_1 q p1 = some r) : FnP Try.prog 63 [.sc (.int .i64 q), .rp (Cl.c false p1)] (.sc (.bool r)) := by
  refine fnP_of (FnX.walk Try.func63 rfl 13 0 (by simp [Try.ntmps63]) rfl fun W S F Q hQ => ?_)
  unfold sky_star_1 at hR
  refine AWP.sq ?_
  refine AWP.rgC 4 rfl rfl ?_
  refine pu (v := .sc _) rfl rfl (fun _ => rfl) ?_
  refine RunC.fin ?_
  refine AWP.joinX (fun z1 : Bool => LS.mk [(3, .sc (.bool z1))] (lblks 0 []) 0) hR (fun o1 hR => ?_) fun z1 hR => ?_
  · refine AWP.rgC 44 rfl rfl ?_
    refine pu (v := .sc _) rfl rfl (fun _ => rfl) ?_
    refine pu (v := .sc _) rfl rfl (fun _ => rfl) ?_
    refine pu (v := .sc _) rfl rfl (fun _ => rfl) ?_
    refine brR hR (fun h2 hR => ?_) fun h2 hR => ?_
    · refine sk (skW rfl rfl rfl h2) ?_
      refine sk (skW rfl rfl rfl h2) ?_
      refine sk (skW rfl rfl rfl h2) ?_
      refine sk (skW rfl rfl rfl h2) ?_
      refine sk (skW rfl rfl rfl h2) ?_
      refine pkT (v := .sc (.bool true)) rfl rfl h2 rfl ?_
      refine pu (v := .sc _) rfl rfl (fun _ => rfl) ?_
      refine RunC.fin ?_
      have hR := Option.some.inj hR; subst hR
      exact Weak.turnL [] [] rfl rfl (tc (.sc _) tn) mn
    · refine pu (v := .sc _) (wtG rfl rfl rfl h2) rfl (fun _ => rfl) ?_
      refine fr (wtG rfl rfl rfl h2) rfl ti32 rfl rfl ti28 rfl ?_
      refine ldR (v := .sc _) (wtG rfl rfl rfl h2) rfl ti28 rfl ?_
      refine pu (v := .sc _) (wtG rfl rfl rfl h2) rfl (fun _ => rfl) ?_
      refine pu (v := .sc _) (wtG rfl rfl rfl h2) rfl (fun _ => rfl) ?_
      refine pkF (v := .sc (.bool (decide (q > (w6 (1048576 - p1.Rate)))))) rfl rfl h2 rfl ?_
      refine pu (v := .sc _) rfl rfl (fun _ => rfl) ?_
      refine RunC.fin ?_
      have hR := Option.some.inj hR; subst hR
      exact Weak.turnL [] [] rfl rfl (tc (.sc _) tn) mn
  · refine AWP.ret ?_
    have hR := Option.some.inj hR; subst hR
    exact hQ _ _ (LS.mk [(3, .sc (.bool z1))] (lblks 0 []) 0) (.sc (.bool z1)) [] (.inr rfl) (Weak.turnL [] [] rfl rfl (tc (.sc _) tn) mn) (ro1 (rvT (v := .sc (.bool z1)) rfl)) rfl rfl (.sc _) pn
theorem ok66 (s : List Int) (fc0 : Star) (r : Int) (hR : slices_IndexFunc_Int_sky_star_1 s fc0 = some r) : FnP Try.prog 66 [rowV false s, .fn (.func 63) [.rp (Cl.c false fc0)]] (.sc (.int .i64 r)) := by
  refine fnP_of (FnX.walk Try.func66 rfl 19 0 (by simp [Try.ntmps66]) rfl fun W S F Q hQ => ?_)
  unfold slices_IndexFunc_Int_sky_star_1 at hR
  refine AWP.sq ?_
  refine AWP.rgC 4 rfl rfl ?_
  refine pu (v := .sc _) rfl rfl (fun _ => rfl) ?_
  refine RunC.fin ?_
  refine AWP.sq ?_
  refine AWP.sq ?_
  refine AWP.rgC 16 rfl rfl ?_
  refine pu (v := rowV _ s) rfl rfl (fun _ => rfl) ?_
  refine lenL (α := Int) rfl rfl ti29 rfl ?_
  refine pu (v := .sc _) rfl rfl (fun _ => rfl) ?_
  refine RunC.fin ?_
  refine AWP.loopK' (fun s1 : Int => LS.mk [(0, rowV (α := Int) false s), (1, .fn (.func 63) [.rp (Cl.c false (fc0 : Star))]), (7, .sc (.int .i64 (s.length : Int))), (8, .sc (.int .i64 s1))] (lblks 0 []) 0) (fun z2 : Unit => LS.mk [] (lblks 0 []) 0) (slices_IndexFunc_Int_sky_star_1.l1 s fc0) hR (s0 := 0) (Weak.turnL [] [] rfl rfl (tc trR1 (tc (.fn (.cons (.rp (Cl.tr _ _ _ _ id) (Cl.leaf _ _)) (.nil))) (tc (.sc _) (tc (.sc _) tn)))) mn) (fun s1 o1 hR hE1 => ?_) fun z2 hR => ?_
  · unfold slices_IndexFunc_Int_sky_star_1.l1 at hR
    refine AWP.sq ?_
    refine AWP.rgC 4 rfl rfl ?_
    refine pu (v := .sc _) rfl rfl (fun _ => rfl) ?_
    refine RunC.fin ?_
    refine AWP.sq ?_
    refine AWP.cd hR rfl (fun h3 hR => ?_) fun h3 hR => ?_
    · refine AWP.skip ?_
      refine skT ?_
      refine AWP.sq ?_
      refine AWP.block ?_
      refine AWP.sq ?_
      refine AWP.rgC 12 rfl rfl ?_
      refine pu (v := .sc _) rfl rfl (fun _ => rfl) ?_
      refine pu (v := .sc _) rfl rfl (fun _ => rfl) ?_
      refine RunC.fin ?_
      refine AWP.sq ?_
      refine AWP.rgC 36 rfl rfl ?_
      refine pu (v := .fn _ _) rfl rfl (fun _ => rfl) ?_
      refine pu (v := rowV _ s) rfl rfl (fun _ => rfl) ?_
      refine pu (v := .sc _) rfl rfl (fun _ => rfl) ?_
      obtain ⟨h4, hR⟩ := chkE hR
      refine ixL (α := Int) rfl rfl rfl ti29 rfl ti28 rfl h4 ?_
      refine ldR (v := .sc _) rfl rfl ti28 rfl ?_
      obtain ⟨r5, hr5, hR⟩ := bindE hR
      refine cls [] rfl rfl cb63 (ok63 (gt s s1) fc0 _ hr5) (.cons (.sc _) (.cons (.rp (Cl.ld _ _ _) (Cl.leaf _ _)) (.nil))) (.inr rfl) rfl ?_
      refine RunC.fin ?_
      refine AWP.cd hR rfl (fun h6 hR => ?_) fun h6 hR => ?_
      · refine AWP.sq ?_
        refine AWP.rgC 44 rfl rfl ?_
        refine pu (v := .sc _) rfl rfl (fun _ => rfl) ?_
        refine pu (v := .sc _) rfl rfl (fun _ => rfl) ?_
        refine RunC.fin ?_
        refine AWP.ret ?_
        refine rtB ?_
        refine rtT ?_
        refine rtT ?_
        refine rtB (rtT ?_)
        replace hR := escL hR hE1
        refine rtT ?_
        have hR := Option.some.inj hR; subst hR
        exact hQ _ _ (LS.mk [(4, .sc (.int .i64 s1))] (lblks 0 []) 0) (.sc (.int .i64 s1)) [] (.inr rfl) (Weak.turnL [] [] rfl rfl (tc (.sc _) tn) mn) (ro1 (rvT (v := .sc (.int .i64 s1)) rfl)) rfl rfl (.sc _) pn
      · refine AWP.skip ?_
        refine skB ?_
        refine skT ?_
        refine AWP.rgC 44 rfl rfl ?_
        refine pu (v := .sc _) rfl rfl (fun _ => rfl) ?_
        refine pu (v := .sc _) rfl rfl (fun _ => rfl) ?_
        refine RunC.fin ?_
        refine ⟨(w6 (s1 + 1)), (Option.some.inj hR).symm, ?_⟩
        exact Weak.turnL [] [] rfl rfl (tc trR1 (tc (.fn (.cons (.rp (Cl.tr _ _ _ _ id) (Cl.leaf _ _)) (.nil))) (tc (.sc _) (tc (.sc _) tn)))) mn
    · refine AWP.exit ?_
      refine exT ?_
      refine exT ?_
      refine exH (skT ?_)
      refine ⟨(), (Option.some.inj hR).symm, ?_⟩
      exact Weak.turnL [] [] rfl rfl tn mn
  · refine skT ?_
    refine AWP.sq ?_
    refine AWP.rgC 4 rfl rfl ?_
    refine pu (v := .sc _) rfl rfl (fun _ => rfl) ?_
    refine RunC.fin ?_
    refine AWP.ret ?_
    have hR := Option.some.inj hR; subst hR
    exact hQ _ _ (LS.mk [(4, .sc (.int .i64 (-1)))] (lblks 0 []) 0) (.sc (.int .i64 (-1))) [] (.inr rfl) (Weak.turnL [] [] rfl rfl (tc (.sc _) tn) mn) (ro1 (rvT (v := .sc (.int .i64 (-1))) rfl)) rfl rfl (.sc _) pn
theorem ok62 (s : List Int) (fc0 : Star) (r : Bool) (hR : slices_ContainsFunc_Int_sky_star_1 s fc0 = some r) : FnP Try.prog 62 [rowV false s, .fn (.func 63) [.rp (Cl.c false fc0)]] (.sc (.bool r)) := by
  refine fnP_of (FnX.walk Try.func62 rfl 9 0 (by simp [Try.ntmps62]) rfl fun W S F Q hQ => ?_)
  unfold slices_ContainsFunc_Int_sky_star_1 at hR
  refine AWP.sq ?_
  refine AWP.rgC 4 rfl rfl ?_
  refine pu (v := .sc _) rfl rfl (fun _ => rfl) ?_
  refine RunC.fin ?_
  refine AWP.sq ?_
  refine AWP.rgC 24 rfl rfl ?_
  refine pu (v := rowV _ s) rfl rfl (fun _ => rfl) ?_
  refine pu (v := .fn _ _) rfl rfl (fun _ => rfl) ?_
  obtain ⟨r1, hr1, hR⟩ := bindE hR
  refine cls [] rfl rfl cb66 (ok66 s fc0 _ hr1) (.cons ldR' (.cons (.fn (.cons (.rp (Cl.ld _ _ _) (Cl.leaf _ _)) (.nil))) (.nil))) (.inr rfl) rfl ?_
  refine pu (v := .sc _) rfl rfl (fun _ => rfl) ?_
  refine pu (v := .sc _) rfl rfl (fun _ => rfl) ?_
  refine RunC.fin ?_
  refine AWP.ret ?_
  have hR := Option.some.inj hR; subst hR
  exact hQ _ _ (LS.mk [(4, .sc (.bool (decide (r1 ≥ 0))))] (lblks 0 []) 0) (.sc (.bool (decide (r1 ≥ 0)))) [] (.inr rfl) (Weak.turnL [] [] rfl rfl (tc (.sc _) tn) mn) (ro1 (rvT (v := .sc (.bool (decide (r1 ≥ 0)))) rfl)) rfl rfl (.sc _) pn
theorem ok50 (s : Star) (r : Int) (hR : sky_star s = some r) : FnP Try.prog 50 [aggV false s] (.sc (.int .i64 r)) := by
  refine fnP_of (FnX.walk Try.func50 rfl 71 0 (by simp [Try.ntmps50]) rfl fun W S F Q hQ => ?_)
  unfold sky_star at hR
  refine AWP.sq ?_
  refine AWP.rgC 8 rfl rfl ?_
  refine bx (cs := _) 0 rfl rfl rfl ?_
  refine pu (v := .sc _) rfl rfl (fun _ => rfl) ?_
  refine RunC.fin ?_
  refine AWP.sq ?_
  refine AWP.sq ?_
  refine AWP.rgC 24 rfl rfl ?_
  refine fa rfl rfl ti32 rfl rfl ti27 rfl ?_
  refine ldB (v := .agg _) rfl rfl rfl rfl ti27 rfl rfl ?_
  obtain ⟨r1, hr1, hR⟩ := bindE hR
  refine cls [] rfl rfl cb61 (ok61 s.At _ hr1) (.cons (.agg (.cons (.sc _) (.cons (.sc _) (.cons (.sc _) (.nil)))) rfl) (.nil)) (.inr rfl) rfl ?_
  refine pu (v := .sc _) rfl rfl (fun _ => rfl) ?_
  refine RunC.fin ?_
  refine AWP.sq ?_
  refine AWP.rgC 32 rfl rfl ?_
  refine pu (v := .sc _) rfl rfl (fun _ => rfl) ?_
  refine pu (v := .sc _) rfl rfl (fun _ => rfl) ?_
  refine RunC.fin ?_
  refine AWP.cd hR rfl (fun h2 hR => ?_) fun h2 hR => ?_
  · refine AWP.sq ?_
    refine AWP.rgC 40 rfl rfl ?_
    refine pu (v := .sc _) rfl rfl (fun _ => rfl) ?_
    refine pu (v := .sc _) rfl rfl (fun _ => rfl) ?_
    refine RunC.fin ?_
    refine AWP.ret ?_
    refine rtT ?_
    have hR := Option.some.inj hR; subst hR
    exact hQ _ _ (LS.mk [(2, .sc (.int .i64 r1))] (lblks 0 []) 0) (.sc (.int .i64 r1)) [] (.inr rfl) (Weak.turnL [] [] rfl rfl (tc (.sc _) tn) mn) (ro1 (rvT (v := .sc (.int .i64 r1)) rfl)) rfl rfl (.sc _) pn
  · refine AWP.skip ?_
    refine skT ?_
    refine AWP.sq ?_
    refine AWP.rgC 48 rfl rfl ?_
    refine fa rfl rfl ti32 rfl rfl ti29 rfl ?_
    refine ldB (v := rowV _ s.Wave) rfl rfl rfl rfl ti29 rfl rfl ?_
    refine lenL (α := Int) rfl rfl ti29 rfl ?_
    refine pu (v := .sc _) rfl rfl (fun _ => rfl) ?_
    refine RunC.fin ?_
    refine AWP.sq ?_
    refine AWP.block ?_
    refine AWP.sq ?_
    refine AWP.rgC 60 rfl rfl ?_
    refine pu (v := .sc _) rfl rfl (fun _ => rfl) ?_
    refine pu (v := .sc _) rfl rfl (fun _ => rfl) ?_
    refine pu (v := .sc _) rfl rfl (fun _ => rfl) ?_
    refine RunC.fin ?_
    refine AWP.cd hR rfl (fun h3 hR => ?_) fun h3 hR => ?_
    · refine AWP.sq ?_
      refine AWP.rgC 64 rfl rfl ?_
      refine pu (v := .sc _) rfl rfl (fun _ => rfl) ?_
      refine RunC.fin ?_
      refine AWP.ret ?_
      refine rtB ?_
      refine rtT ?_
      have hR := Option.some.inj hR; subst hR
      exact hQ _ _ (LS.mk [(2, .sc (.int .i64 2))] (lblks 0 []) 0) (.sc (.int .i64 2)) [] (.inr rfl) (Weak.turnL [] [] rfl rfl (tc (.sc _) tn) mn) (ro1 (rvT (v := .sc (.int .i64 2)) rfl)) rfl rfl (.sc _) pn
    · refine AWP.joinX (fun z4 : Bool => LS.mk [(1, .ptr 0 0 0), (4, .sc (.int .i64 (s.Wave.length : Int))), (17, .sc (.bool z4))] (lblks 0 [boxB (α := Star) false s]) 1) hR (fun o4 hR => ?_) fun z4 hR => ?_
      · refine AWP.rgC 92 rfl rfl ?_
        refine pu (v := .sc _) rfl rfl (fun _ => rfl) ?_
        refine pu (v := .sc _) rfl rfl (fun _ => rfl) ?_
        refine pu (v := .sc _) rfl rfl (fun _ => rfl) ?_
        refine brR hR (fun h5 hR => ?_) fun h5 hR => ?_
        · refine fa (wtG rfl rfl rfl h5) rfl ti32 rfl rfl ti30 rfl ?_
          refine ldB (v := .sc _) (wtG rfl rfl rfl h5) rfl rfl rfl ti30 rfl rfl ?_
          refine pu (v := .sc _) (wtG rfl rfl rfl h5) rfl (fun _ => rfl) ?_
          refine pkT (v := .sc (.bool (s.Period != 0))) rfl rfl h5 rfl ?_
          refine pu (v := .sc _) rfl rfl (fun _ => rfl) ?_
          refine RunC.fin ?_
          have hR := Option.some.inj hR; subst hR
          exact Weak.turnL [(0, 0)] [] rfl rfl (tc (trP' rfl rfl rfl rfl) (tc (.sc _) (tc (.sc _) tn))) (mc rfl (.box rfl (.cons (.sc _) (.cons (.sc _) (.cons (.sc _) (.cons (.sc _) (.cons (.sc _) (.cons trR1 (.cons (.sc _) (.cons (.sc _) (.cons (.sc _) (.nil)))))))))) rfl) mn)
        · refine sk (skW rfl rfl rfl h5) ?_
          refine sk (skW rfl rfl rfl h5) ?_
          refine sk (skW rfl rfl rfl h5) ?_
          refine pkF (v := .sc (.bool false)) rfl rfl h5 rfl ?_
          refine pu (v := .sc _) rfl rfl (fun _ => rfl) ?_
          refine RunC.fin ?_
          have hR := Option.some.inj hR; subst hR
          exact Weak.turnL [(0, 0)] [] rfl rfl (tc (trP' rfl rfl rfl rfl) (tc (.sc _) (tc (.sc _) tn))) (mc rfl (.box rfl (.cons (.sc _) (.cons (.sc _) (.cons (.sc _) (.cons (.sc _) (.cons (.sc _) (.cons trR1 (.cons (.sc _) (.cons (.sc _) (.cons (.sc _) (.nil)))))))))) rfl) mn)
      · refine AWP.cd hR rfl (fun h6 hR => ?_) fun h6 hR => ?_
        · refine AWP.sq ?_
          refine AWP.rgC 5 rfl rfl ?_
          refine pu (v := .sc _) rfl rfl (fun _ => rfl) ?_
          refine RunC.fin ?_
          refine AWP.ret ?_
          refine rtB ?_
          refine rtT ?_
          have hR := Option.some.inj hR; subst hR
          exact hQ _ _ (LS.mk [(2, .sc (.int .i64 3))] (lblks 0 []) 0) (.sc (.int .i64 3)) [] (.inr rfl) (Weak.turnL [] [] rfl rfl (tc (.sc _) tn) mn) (ro1 (rvT (v := .sc (.int .i64 3)) rfl)) rfl rfl (.sc _) pn
        · refine AWP.joinX (fun z7 : Bool => LS.mk [(1, .ptr 0 0 0), (25, .sc (.bool z7))] (lblks 0 [boxB (α := Star) false s]) 1) hR (fun o7 hR => ?_) fun z7 hR => ?_
          · refine AWP.rgC 81 rfl rfl ?_
            refine pu (v := .sc _) rfl rfl (fun _ => rfl) ?_
            refine pu (v := .sc _) rfl rfl (fun _ => rfl) ?_
            refine pu (v := .sc _) rfl rfl (fun _ => rfl) ?_
            refine brR hR (fun h8 hR => ?_) fun h8 hR => ?_
            · refine fa (wtG rfl rfl rfl h8) rfl ti32 rfl rfl ti30 rfl ?_
              refine ldB (v := .sc _) (wtG rfl rfl rfl h8) rfl rfl rfl ti30 rfl rfl ?_
              refine pu (v := .sc _) (wtG rfl rfl rfl h8) rfl (fun _ => rfl) ?_
              refine pu (v := .sc _) (wtG rfl rfl rfl h8) rfl (fun _ => rfl) ?_
              refine brR hR (fun h9 hR => ?_) fun h9 hR => ?_
              · refine sk (skW rfl rfl rfl h9) ?_
                refine sk (skW rfl rfl rfl h9) ?_
                refine sk (skW rfl rfl rfl h9) ?_
                refine pkT (v := .sc (.bool true)) (wtG rfl rfl rfl h8) rfl h9 rfl ?_
                refine pu (v := .sc _) (wtG rfl rfl rfl h8) rfl (fun _ => rfl) ?_
                refine sk (skW rfl rfl rfl rfl) ?_
                refine sk (skW rfl rfl rfl rfl) ?_
                refine sk (skW rfl rfl rfl rfl) ?_
                refine sk (skW rfl rfl rfl rfl) ?_
                refine sk (skW rfl rfl rfl rfl) ?_
                refine pkT (v := .sc (.bool true)) (wtG rfl rfl rfl h8) rfl rfl rfl ?_
                refine pkT (v := .sc (.bool true)) rfl rfl h8 rfl ?_
                refine pu (v := .sc _) rfl rfl (fun _ => rfl) ?_
                refine RunC.fin ?_
                have hR := Option.some.inj hR; subst hR
                exact Weak.turnL [(0, 0)] [] rfl rfl (tc (trP' rfl rfl rfl rfl) (tc (.sc _) tn)) (mc rfl (.box rfl (.cons (.sc _) (.cons (.sc _) (.cons (.sc _) (.cons (.sc _) (.cons (.sc _) (.cons trR1 (.cons (.sc _) (.cons (.sc _) (.cons (.sc _) (.nil)))))))))) rfl) mn)
              · refine fa (wtG rfl rfl rfl h9) rfl ti32 rfl rfl ti30 rfl ?_
                refine ldB (v := .sc _) (wtG rfl rfl rfl h9) rfl rfl rfl ti30 rfl rfl ?_
                refine pu (v := .sc _) (wtG rfl rfl rfl h9) rfl (fun _ => rfl) ?_
                refine pkF (v := .sc (.bool (decide (s.Period > 17592186044416)))) (wtG rfl rfl rfl h8) rfl h9 rfl ?_
                refine pu (v := .sc _) (wtG rfl rfl rfl h8) rfl (fun _ => rfl) ?_
                refine brR hR (fun h10 hR => ?_) fun h10 hR => ?_
                · refine sk (skW rfl rfl rfl h10) ?_
                  refine sk (skW rfl rfl rfl h10) ?_
                  refine sk (skW rfl rfl rfl h10) ?_
                  refine sk (skW rfl rfl rfl h10) ?_
                  refine sk (skW rfl rfl rfl h10) ?_
                  refine pkT (v := .sc (.bool true)) (wtG rfl rfl rfl h8) rfl h10 rfl ?_
                  refine pkT (v := .sc (.bool true)) rfl rfl h8 rfl ?_
                  refine pu (v := .sc _) rfl rfl (fun _ => rfl) ?_
                  refine RunC.fin ?_
                  have hR := Option.some.inj hR; subst hR
                  exact Weak.turnL [(0, 0)] [] rfl rfl (tc (trP' rfl rfl rfl rfl) (tc (.sc _) tn)) (mc rfl (.box rfl (.cons (.sc _) (.cons (.sc _) (.cons (.sc _) (.cons (.sc _) (.cons (.sc _) (.cons trR1 (.cons (.sc _) (.cons (.sc _) (.cons (.sc _) (.nil)))))))))) rfl) mn)
                · refine fa (wtG rfl rfl rfl h10) rfl ti32 rfl rfl ti30 rfl ?_
                  refine ldB (v := .sc _) (wtG rfl rfl rfl h10) rfl rfl rfl ti30 rfl rfl ?_
                  refine pu (v := .sc _) (wtG rfl rfl rfl h10) rfl (fun _ => rfl) ?_
                  obtain ⟨h11, hR⟩ := chkE hR
                  refine rm (wtG rfl rfl rfl h10) rfl rfl h11 rfl ?_
                  refine pu (v := .sc _) (wtG rfl rfl rfl h10) rfl (fun _ => rfl) ?_
                  refine pkF (v := .sc (.bool ((Int.tmod s.Period (s.Wave.length : Int)) != 0))) (wtG rfl rfl rfl h8) rfl h10 rfl ?_
                  refine pkT (v := .sc (.bool ((Int.tmod s.Period (s.Wave.length : Int)) != 0))) rfl rfl h8 rfl ?_
                  refine pu (v := .sc _) rfl rfl (fun _ => rfl) ?_
                  refine RunC.fin ?_
                  have hR := Option.some.inj hR; subst hR
                  exact Weak.turnL [(0, 0)] [] rfl rfl (tc (trP' rfl rfl rfl rfl) (tc (.sc _) tn)) (mc rfl (.box rfl (.cons (.sc _) (.cons (.sc _) (.cons (.sc _) (.cons (.sc _) (.cons (.sc _) (.cons trR1 (.cons (.sc _) (.cons (.sc _) (.cons (.sc _) (.nil)))))))))) rfl) mn)
            · refine sk (skW rfl rfl rfl h8) ?_
              refine sk (skW rfl rfl rfl h8) ?_
              refine sk (skW rfl rfl rfl h8) ?_
              refine sk (skW rfl rfl rfl h8) ?_
              refine sk (skW2 rfl rfl rfl) ?_
              refine sk (skW2 rfl rfl rfl) ?_
              refine sk (skW2 rfl rfl rfl) ?_
              refine sk (skW rfl rfl rfl h8) ?_
              refine sk (skW rfl rfl rfl h8) ?_
              refine sk (skW2 rfl rfl rfl) ?_
              refine sk (skW2 rfl rfl rfl) ?_
              refine sk (skW2 rfl rfl rfl) ?_
              refine sk (skW2 rfl rfl rfl) ?_
              refine sk (skW2 rfl rfl rfl) ?_
              refine sk (skW rfl rfl rfl h8) ?_
              refine pkF (v := .sc (.bool false)) rfl rfl h8 rfl ?_
              refine pu (v := .sc _) rfl rfl (fun _ => rfl) ?_
              refine RunC.fin ?_
              have hR := Option.some.inj hR; subst hR
              exact Weak.turnL [(0, 0)] [] rfl rfl (tc (trP' rfl rfl rfl rfl) (tc (.sc _) tn)) (mc rfl (.box rfl (.cons (.sc _) (.cons (.sc _) (.cons (.sc _) (.cons (.sc _) (.cons (.sc _) (.cons trR1 (.cons (.sc _) (.cons (.sc _) (.cons (.sc _) (.nil)))))))))) rfl) mn)
          · refine AWP.cd hR rfl (fun h12 hR => ?_) fun h12 hR => ?_
            · refine AWP.sq ?_
              refine AWP.rgC 5 rfl rfl ?_
              refine pu (v := .sc _) rfl rfl (fun _ => rfl) ?_
              refine RunC.fin ?_
              refine AWP.ret ?_
              refine rtB ?_
              refine rtT ?_
              have hR := Option.some.inj hR; subst hR
              exact hQ _ _ (LS.mk [(2, .sc (.int .i64 4))] (lblks 0 []) 0) (.sc (.int .i64 4)) [] (.inr rfl) (Weak.turnL [] [] rfl rfl (tc (.sc _) tn) mn) (ro1 (rvT (v := .sc (.int .i64 4)) rfl)) rfl rfl (.sc _) pn
            · refine AWP.sq ?_
              refine AWP.rgC 21 rfl rfl ?_
              refine fa rfl rfl ti32 rfl rfl ti29 rfl ?_
              refine ldB (v := rowV _ s.Wave) rfl rfl rfl rfl ti29 rfl rfl ?_
              refine pu (v := .fn _ _) rfl rfl (fun _ => rfl) ?_
              obtain ⟨r13, hr13, hR⟩ := bindE hR
              refine cls [0] rfl rfl cb62 (ok62 s.Wave s _ hr13) (.cons ldR' (.cons (.fn (.cons (ldX rfl rfl (.cons (.sc _) (.cons (.sc _) (.cons (.sc _) (.cons (.sc _) (.cons (.sc _) (.cons ldR' (.cons (.sc _) (.cons (.sc _) (.cons (.sc _) (.nil)))))))))) rfl) (.nil))) (.nil))) (.inl (by first | rfl | exact freshR | exact freshA | (simp only [V.fresh, V.freshs, freshR, freshA, Bool.and_self]))) rfl ?_
              refine pu (v := .sc _) rfl rfl (fun _ => rfl) ?_
              refine RunC.fin ?_
              refine AWP.cd hR rfl (fun h14 hR => ?_) fun h14 hR => ?_
              · refine AWP.sq ?_
                refine AWP.rgC 25 rfl rfl ?_
                refine pu (v := .sc _) rfl rfl (fun _ => rfl) ?_
                refine RunC.fin ?_
                refine AWP.ret ?_
                refine rtB ?_
                refine rtT ?_
                have hR := Option.some.inj hR; subst hR
                exact hQ _ _ (LS.mk [(2, .sc (.int .i64 4))] (lblks 0 []) 0) (.sc (.int .i64 4)) [] (.inr rfl) (Weak.turnL [] [] rfl rfl (tc (.sc _) tn) mn) (ro1 (rvT (v := .sc (.int .i64 4)) rfl)) rfl rfl (.sc _) pn
              · refine AWP.joinX (fun z15 : Bool => LS.mk [(1, .ptr 0 0 0), (50, .sc (.bool z15))] (lblks 0 [boxB (α := Star) false s]) 1) hR (fun o15 hR => ?_) fun z15 hR => ?_
                · refine AWP.rgC 81 rfl rfl ?_
                  refine fa rfl rfl ti32 rfl rfl ti30 rfl ?_
                  refine ldB (v := .sc _) rfl rfl rfl rfl ti30 rfl rfl ?_
                  refine fa rfl rfl ti32 rfl rfl ti30 rfl ?_
                  refine ldB (v := .sc _) rfl rfl rfl rfl ti30 rfl rfl ?_
                  refine pu (v := .sc _) rfl rfl (fun _ => rfl) ?_
                  refine pu (v := .sc _) rfl rfl (fun _ => rfl) ?_
                  refine pu (v := .sc _) rfl rfl (fun _ => rfl) ?_
                  refine brR hR (fun h16 hR => ?_) fun h16 hR => ?_
                  · refine sk (skW rfl rfl rfl h16) ?_
                    refine sk (skW rfl rfl rfl h16) ?_
                    refine sk (skW rfl rfl rfl h16) ?_
                    refine sk (skW rfl rfl rfl h16) ?_
                    refine sk (skW rfl rfl rfl h16) ?_
                    refine sk (skW rfl rfl rfl h16) ?_
                    refine pkT (v := .sc (.bool true)) rfl rfl h16 rfl ?_
                    refine pu (v := .sc _) rfl rfl (fun _ => rfl) ?_
                    refine RunC.fin ?_
                    have hR := Option.some.inj hR; subst hR
                    exact Weak.turnL [(0, 0)] [] rfl rfl (tc (trP' rfl rfl rfl rfl) (tc (.sc _) tn)) (mc rfl (.box rfl (.cons (.sc _) (.cons (.sc _) (.cons (.sc _) (.cons (.sc _) (.cons (.sc _) (.cons trR1 (.cons (.sc _) (.cons (.sc _) (.cons (.sc _) (.nil)))))))))) rfl) mn)
                  · refine fa (wtG rfl rfl rfl h16) rfl ti32 rfl rfl ti30 rfl ?_
                    refine ldB (v := .sc _) (wtG rfl rfl rfl h16) rfl rfl rfl ti30 rfl rfl ?_
                    refine fa (wtG rfl rfl rfl h16) rfl ti32 rfl rfl ti30 rfl ?_
                    refine ldB (v := .sc _) (wtG rfl rfl rfl h16) rfl rfl rfl ti30 rfl rfl ?_
                    refine pu (v := .sc _) (wtG rfl rfl rfl h16) rfl (fun _ => rfl) ?_
                    refine pu (v := .sc _) (wtG rfl rfl rfl h16) rfl (fun _ => rfl) ?_
                    refine pkF (v := .sc (.bool (decide ((mx2 s.From s.To) > 17592186044416)))) rfl rfl h16 rfl ?_
                    refine pu (v := .sc _) rfl rfl (fun _ => rfl) ?_
                    refine RunC.fin ?_
                    have hR := Option.some.inj hR; subst hR
                    exact Weak.turnL [(0, 0)] [] rfl rfl (tc (trP' rfl rfl rfl rfl) (tc (.sc _) tn)) (mc rfl (.box rfl (.cons (.sc _) (.cons (.sc _) (.cons (.sc _) (.cons (.sc _) (.cons (.sc _) (.cons trR1 (.cons (.sc _) (.cons (.sc _) (.cons (.sc _) (.nil)))))))))) rfl) mn)
                · refine AWP.cd hR rfl (fun h17 hR => ?_) fun h17 hR => ?_
                  · refine AWP.sq ?_
                    refine AWP.rgC 5 rfl rfl ?_
                    refine pu (v := .sc _) rfl rfl (fun _ => rfl) ?_
                    refine RunC.fin ?_
                    refine AWP.ret ?_
                    refine rtB ?_
                    refine rtT ?_
                    have hR := Option.some.inj hR; subst hR
                    exact hQ _ _ (LS.mk [(2, .sc (.int .i64 4))] (lblks 0 []) 0) (.sc (.int .i64 4)) [] (.inr rfl) (Weak.turnL [] [] rfl rfl (tc (.sc _) tn) mn) (ro1 (rvT (v := .sc (.int .i64 4)) rfl)) rfl rfl (.sc _) pn
                  · refine AWP.sq ?_
                    refine AWP.rgC 25 rfl rfl ?_
                    refine fa rfl rfl ti32 rfl rfl ti30 rfl ?_
                    refine ldB (v := .sc _) rfl rfl rfl rfl ti30 rfl rfl ?_
                    refine fa rfl rfl ti32 rfl rfl ti30 rfl ?_
                    refine ldB (v := .sc _) rfl rfl rfl rfl ti30 rfl rfl ?_
                    refine pu (v := .sc _) rfl rfl (fun _ => rfl) ?_
                    refine pu (v := .sc _) rfl rfl (fun _ => rfl) ?_
                    refine RunC.fin ?_
                    refine AWP.cd hR rfl (fun h18 hR => ?_) fun h18 hR => ?_
                    · refine AWP.sq ?_
                      refine AWP.rgC 29 rfl rfl ?_
                      refine pu (v := .sc _) rfl rfl (fun _ => rfl) ?_
                      refine RunC.fin ?_
                      refine AWP.ret ?_
                      refine rtB ?_
                      refine rtT ?_
                      have hR := Option.some.inj hR; subst hR
                      exact hQ _ _ (LS.mk [(2, .sc (.int .i64 11))] (lblks 0 []) 0) (.sc (.int .i64 11)) [] (.inr rfl) (Weak.turnL [] [] rfl rfl (tc (.sc _) tn) mn) (ro1 (rvT (v := .sc (.int .i64 11)) rfl)) rfl rfl (.sc _) pn
                    · refine AWP.skip ?_
                      refine skB ?_
                      refine skT ?_
                      refine AWP.sq ?_
                      refine AWP.rgC 29 rfl rfl ?_
                      refine pu (v := .sc _) rfl rfl (fun _ => rfl) ?_
                      refine RunC.fin ?_
                      refine AWP.ret ?_
                      have hR := Option.some.inj hR; subst hR
                      exact hQ _ _ (LS.mk [(2, .sc (.int .i64 0))] (lblks 0 []) 0) (.sc (.int .i64 0)) [] (.inr rfl) (Weak.turnL [] [] rfl rfl (tc (.sc _) tn) mn) (ro1 (rvT (v := .sc (.int .i64 0)) rfl)) rfl rfl (.sc _) pn
theorem ok28 (b : Bound) (r : Int) (hR : bound_Check b = some r) : FnP Try.prog 28 [aggV false b] (.sc (.int .i64 r)) := by
  refine fnP_of (FnX.walk Try.func28 rfl 37 0 (by simp [Try.ntmps28]) rfl fun W S F Q hQ => ?_)
  unfold bound_Check at hR
  refine AWP.sq ?_
  refine AWP.rgC 8 rfl rfl ?_
  refine bx (cs := _) 0 rfl rfl rfl ?_
  refine pu (v := .sc _) rfl rfl (fun _ => rfl) ?_
  refine RunC.fin ?_
  refine AWP.sq ?_
  refine AWP.block ?_
  refine AWP.joinX (fun z1 : Bool => LS.mk [(1, .ptr 0 0 0), (3, .sc (.bool z1))] (lblks 0 [boxB (α := Bound) true b]) 1) hR (fun o1 hR => ?_) fun z1 hR => ?_
  · refine AWP.rgC 60 rfl rfl ?_
    refine fa rfl rfl ti59 rfl rfl ti4 rfl ?_
    refine ldB (v := .sc _) rfl rfl rfl rfl ti4 rfl rfl ?_
    refine pu (v := .sc _) rfl rfl (fun _ => rfl) ?_
    refine brR hR (fun h2 hR => ?_) fun h2 hR => ?_
    · refine fa (wtG rfl rfl rfl h2) rfl ti59 rfl rfl ti28 rfl ?_
      refine ldB (v := .sc _) (wtG rfl rfl rfl h2) rfl rfl rfl ti28 rfl rfl ?_
      refine pu (v := .sc _) (wtG rfl rfl rfl h2) rfl (fun _ => rfl) ?_
      refine pu (v := .sc _) (wtG rfl rfl rfl h2) rfl (fun _ => rfl) ?_
      refine brR hR (fun h3 hR => ?_) fun h3 hR => ?_
      · refine sk (skW rfl rfl rfl h3) ?_
        refine sk (skW rfl rfl rfl h3) ?_
        refine sk (skW rfl rfl rfl h3) ?_
        refine pkT (v := .sc (.bool true)) (wtG rfl rfl rfl h2) rfl h3 rfl ?_
        refine pkT (v := .sc (.bool true)) rfl rfl h2 rfl ?_
        refine pu (v := .sc _) rfl rfl (fun _ => rfl) ?_
        refine RunC.fin ?_
        have hR := Option.some.inj hR; subst hR
        exact Weak.turnL [(0, 0)] [] rfl rfl (tc (trP' rfl rfl rfl rfl) (tc (.sc _) tn)) (mc rfl (.box rfl (.cons (.sc _) (.cons (.sc _) (.cons (.sc _) (.nil)))) rfl) mn)
      · refine fa (wtG rfl rfl rfl h3) rfl ti59 rfl rfl ti28 rfl ?_
        refine ldB (v := .sc _) (wtG rfl rfl rfl h3) rfl rfl rfl ti28 rfl rfl ?_
        refine pu (v := .sc _) (wtG rfl rfl rfl h3) rfl (fun _ => rfl) ?_
        refine pkF (v := .sc (.bool (b.Hi != 0))) (wtG rfl rfl rfl h2) rfl h3 rfl ?_
        refine pkT (v := .sc (.bool (b.Hi != 0))) rfl rfl h2 rfl ?_
        refine pu (v := .sc _) rfl rfl (fun _ => rfl) ?_
        refine RunC.fin ?_
        have hR := Option.some.inj hR; subst hR
        exact Weak.turnL [(0, 0)] [] rfl rfl (tc (trP' rfl rfl rfl rfl) (tc (.sc _) tn)) (mc rfl (.box rfl (.cons (.sc _) (.cons (.sc _) (.cons (.sc _) (.nil)))) rfl) mn)
    · refine sk (skW rfl rfl rfl h2) ?_
      refine sk (skW rfl rfl rfl h2) ?_
      refine sk (skW rfl rfl rfl h2) ?_
      refine sk (skW rfl rfl rfl h2) ?_
      refine sk (skW2 rfl rfl rfl) ?_
      refine sk (skW2 rfl rfl rfl) ?_
      refine sk (skW2 rfl rfl rfl) ?_
      refine sk (skW rfl rfl rfl h2) ?_
      refine pkF (v := .sc (.bool false)) rfl rfl h2 rfl ?_
      refine pu (v := .sc _) rfl rfl (fun _ => rfl) ?_
      refine RunC.fin ?_
      have hR := Option.some.inj hR; subst hR
      exact Weak.turnL [(0, 0)] [] rfl rfl (tc (trP' rfl rfl rfl rfl) (tc (.sc _) tn)) (mc rfl (.box rfl (.cons (.sc _) (.cons (.sc _) (.cons (.sc _) (.nil)))) rfl) mn)
  · refine AWP.cd hR rfl (fun h4 hR => ?_) fun h4 hR => ?_
    · refine AWP.sq ?_
      refine AWP.rgC 5 rfl rfl ?_
      refine pu (v := .sc _) rfl rfl (fun _ => rfl) ?_
      refine RunC.fin ?_
      refine AWP.ret ?_
      refine rtB ?_
      refine rtT ?_
      have hR := Option.some.inj hR; subst hR
      exact hQ _ _ (LS.mk [(2, .sc (.int .i64 3))] (lblks 0 []) 0) (.sc (.int .i64 3)) [] (.inr rfl) (Weak.turnL [] [] rfl rfl (tc (.sc _) tn) mn) (ro1 (rvT (v := .sc (.int .i64 3)) rfl)) rfl rfl (.sc _) pn
    · refine AWP.joinX (fun z5 : Bool => LS.mk [(1, .ptr 0 0 0), (16, .sc (.bool z5))] (lblks 0 [boxB (α := Bound) true b]) 1) hR (fun o5 hR => ?_) fun z5 hR => ?_
      · refine AWP.rgC 61 rfl rfl ?_
        refine fa rfl rfl ti59 rfl rfl ti28 rfl ?_
        refine ldB (v := .sc _) rfl rfl rfl rfl ti28 rfl rfl ?_
        refine fa rfl rfl ti59 rfl rfl ti28 rfl ?_
        refine ldB (v := .sc _) rfl rfl rfl rfl ti28 rfl rfl ?_
        refine pu (v := .sc _) rfl rfl (fun _ => rfl) ?_
        refine pu (v := .sc _) rfl rfl (fun _ => rfl) ?_
        refine pu (v := .sc _) rfl rfl (fun _ => rfl) ?_
        refine brR hR (fun h6 hR => ?_) fun h6 hR => ?_
        · refine sk (skW rfl rfl rfl h6) ?_
          refine sk (skW rfl rfl rfl h6) ?_
          refine sk (skW rfl rfl rfl h6) ?_
          refine sk (skW rfl rfl rfl h6) ?_
          refine sk (skW rfl rfl rfl h6) ?_
          refine sk (skW rfl rfl rfl h6) ?_
          refine pkT (v := .sc (.bool true)) rfl rfl h6 rfl ?_
          refine pu (v := .sc _) rfl rfl (fun _ => rfl) ?_
          refine RunC.fin ?_
          have hR := Option.some.inj hR; subst hR
          exact Weak.turnL [(0, 0)] [] rfl rfl (tc (trP' rfl rfl rfl rfl) (tc (.sc _) tn)) (mc rfl (.box rfl (.cons (.sc _) (.cons (.sc _) (.cons (.sc _) (.nil)))) rfl) mn)
        · refine fa (wtG rfl rfl rfl h6) rfl ti59 rfl rfl ti28 rfl ?_
          refine ldB (v := .sc _) (wtG rfl rfl rfl h6) rfl rfl rfl ti28 rfl rfl ?_
          refine fa (wtG rfl rfl rfl h6) rfl ti59 rfl rfl ti28 rfl ?_
          refine ldB (v := .sc _) (wtG rfl rfl rfl h6) rfl rfl rfl ti28 rfl rfl ?_
          refine pu (v := .sc _) (wtG rfl rfl rfl h6) rfl (fun _ => rfl) ?_
          refine pu (v := .sc _) (wtG rfl rfl rfl h6) rfl (fun _ => rfl) ?_
          refine pkF (v := .sc (.bool (decide ((mx2 b.Lo b.Hi) > 1152921504606846976)))) rfl rfl h6 rfl ?_
          refine pu (v := .sc _) rfl rfl (fun _ => rfl) ?_
          refine RunC.fin ?_
          have hR := Option.some.inj hR; subst hR
          exact Weak.turnL [(0, 0)] [] rfl rfl (tc (trP' rfl rfl rfl rfl) (tc (.sc _) tn)) (mc rfl (.box rfl (.cons (.sc _) (.cons (.sc _) (.cons (.sc _) (.nil)))) rfl) mn)
      · refine AWP.cd hR rfl (fun h7 hR => ?_) fun h7 hR => ?_
        · refine AWP.sq ?_
          refine AWP.rgC 5 rfl rfl ?_
          refine pu (v := .sc _) rfl rfl (fun _ => rfl) ?_
          refine RunC.fin ?_
          refine AWP.ret ?_
          refine rtB ?_
          refine rtT ?_
          have hR := Option.some.inj hR; subst hR
          exact hQ _ _ (LS.mk [(2, .sc (.int .i64 4))] (lblks 0 []) 0) (.sc (.int .i64 4)) [] (.inr rfl) (Weak.turnL [] [] rfl rfl (tc (.sc _) tn) mn) (ro1 (rvT (v := .sc (.int .i64 4)) rfl)) rfl rfl (.sc _) pn
        · refine AWP.sq ?_
          refine AWP.rgC 25 rfl rfl ?_
          refine fa rfl rfl ti59 rfl rfl ti28 rfl ?_
          refine ldB (v := .sc _) rfl rfl rfl rfl ti28 rfl rfl ?_
          refine fa rfl rfl ti59 rfl rfl ti28 rfl ?_
          refine ldB (v := .sc _) rfl rfl rfl rfl ti28 rfl rfl ?_
          refine pu (v := .sc _) rfl rfl (fun _ => rfl) ?_
          refine pu (v := .sc _) rfl rfl (fun _ => rfl) ?_
          refine RunC.fin ?_
          refine AWP.cd hR rfl (fun h8 hR => ?_) fun h8 hR => ?_
          · refine AWP.sq ?_
            refine AWP.rgC 29 rfl rfl ?_
            refine pu (v := .sc _) rfl rfl (fun _ => rfl) ?_
            refine RunC.fin ?_
            refine AWP.ret ?_
            refine rtB ?_
            refine rtT ?_
            have hR := Option.some.inj hR; subst hR
            exact hQ _ _ (LS.mk [(2, .sc (.int .i64 11))] (lblks 0 []) 0) (.sc (.int .i64 11)) [] (.inr rfl) (Weak.turnL [] [] rfl rfl (tc (.sc _) tn) mn) (ro1 (rvT (v := .sc (.int .i64 11)) rfl)) rfl rfl (.sc _) pn
          · refine AWP.skip ?_
            refine skB ?_
            refine skT ?_
            refine AWP.sq ?_
            refine AWP.rgC 29 rfl rfl ?_
            refine pu (v := .sc _) rfl rfl (fun _ => rfl) ?_
            refine RunC.fin ?_
            refine AWP.ret ?_
            have hR := Option.some.inj hR; subst hR
            exact hQ _ _ (LS.mk [(2, .sc (.int .i64 0))] (lblks 0 []) 0) (.sc (.int .i64 0)) [] (.inr rfl) (Weak.turnL [] [] rfl rfl (tc (.sc _) tn) mn) (ro1 (rvT (v := .sc (.int .i64 0)) rfl)) rfl rfl (.sc _) pn
theorem ok31 (r : Bound) (hR : bound_None = some r) : FnP Try.prog 31 [] (aggV (α := Bound) true r) := by
  refine fnP_of (FnX.walk Try.func31 rfl 2 0 (by simp [Try.ntmps31]) rfl fun W S F Q hQ => ?_)
  unfold bound_None at hR
  refine AWP.sq ?_
  refine AWP.rgC 4 rfl rfl ?_
  refine al (cs := [.sc (.int .i64 0), .sc (.int .i64 0), .sc (.bool false)]) 0 rfl rfl ti59 rfl rfl ?_
  refine RunC.fin ?_
  refine AWP.sq ?_
  refine AWP.rgC 12 rfl rfl ?_
  refine bu (cs := [.sc (.int .i64 0), .sc (.int .i64 0), .sc (.bool true)]) rfl bt59 rfl ?_
  refine stB (cs' := [.sc (.int .i64 0), .sc (.int .i64 0), .sc (.bool true)]) rfl rfl rfl rfl ti59 rfl rfl rfl rfl rfl ?_
  refine RunC.fin ?_
  refine AWP.ret ?_
  have hR := Option.some.inj hR; subst hR
  exact hQ _ _ (LS.mk [(0, .ptr 0 0 0)] (lblks 0 [boxB (α := Bound) true (Bound.mk 0 0 true)]) 1) (aggV (α := Bound) true (Bound.mk 0 0 true)) [] (.inr rfl) (Weak.turnL [(0, 0)] [] rfl rfl (tc (trP' rfl rfl rfl rfl) tn) (mc rfl (.box rfl (.cons (.sc _) (.cons (.sc _) (.cons (.sc _) (.nil)))) rfl) mn)) (ro1 (rvC (v := aggV (α := Bound) true (Bound.mk 0 0 true)) rfl rfl ti59 rfl)) rfl rfl ldA pn
theorem ok47 (b : Bound) (r : Bound) (hR : bound_Norm b = some r) : FnP Try.prog 47 [aggV false b] (aggV (α := Bound) true r) := by
  refine fnP_of (FnX.walk Try.func47 rfl 8 0 (by simp [Try.ntmps47]) rfl fun W S F Q hQ => ?_)
  unfold bound_Norm at hR
  refine AWP.sq ?_
  refine AWP.rgC 8 rfl rfl ?_
  refine bx (cs := _) 0 rfl rfl rfl ?_
  refine al (cs := [.sc (.int .i64 0), .sc (.int .i64 0), .sc (.bool false)]) 4 rfl rfl ti59 rfl rfl ?_
  refine RunC.fin ?_
  refine AWP.sq ?_
  refine AWP.sq ?_
  refine AWP.rgC 20 rfl rfl ?_
  refine ldB (v := .agg _) rfl rfl rfl rfl ti59 rfl rfl ?_
  obtain ⟨r1, hr1, hR⟩ := bindE hR
  refine cls [] rfl rfl cb28 (ok28 b _ hr1) (.cons (.agg (.cons (.sc _) (.cons (.sc _) (.cons (.sc _) (.nil)))) rfl) (.nil)) (.inr rfl) rfl ?_
  refine pu (v := .sc _) rfl rfl (fun _ => rfl) ?_
  refine RunC.fin ?_
  refine AWP.cd hR rfl (fun h2 hR => ?_) fun h2 hR => ?_
  · refine AWP.sq ?_
    refine AWP.rgC 28 rfl rfl ?_
    obtain ⟨r3, hr3, hR⟩ := bindE hR
    refine cls [] rfl rfl cb31 (ok31 _ hr3) (.nil) (.inr rfl) rfl ?_
    refine stB (cs' := [.sc (.int .i64 r3.Lo), .sc (.int .i64 r3.Hi), .sc (.bool r3.Unknown)]) rfl rfl rfl rfl ti59 rfl rfl rfl rfl rfl ?_
    refine RunC.fin ?_
    refine AWP.ret ?_
    refine rtT ?_
    have hR := Option.some.inj hR; subst hR
    exact hQ _ _ (LS.mk [(2, .ptr 0 0 0)] (lblks 0 [boxB (α := Bound) true r3]) 1) (aggV (α := Bound) true r3) [] (.inr rfl) (Weak.turnL [(4, 0)] [] rfl rfl (tc (trP' rfl rfl rfl rfl) tn) (mc rfl (.box rfl (.cons (.sc _) (.cons (.sc _) (.cons (.sc _) (.nil)))) rfl) mn)) (ro1 (rvC (v := aggV (α := Bound) true r3) rfl rfl ti59 rfl)) rfl rfl ldA pn
  · refine AWP.skip ?_
    refine skT ?_
    refine AWP.sq ?_
    refine AWP.rgC 28 rfl rfl ?_
    refine ldB (v := .agg _) rfl rfl rfl rfl ti59 rfl rfl ?_
    refine stB (cs' := [.sc (.int .i64 b.Lo), .sc (.int .i64 b.Hi), .sc (.bool b.Unknown)]) rfl rfl rfl rfl ti59 rfl rfl rfl rfl rfl ?_
    refine RunC.fin ?_
    refine AWP.ret ?_
    have hR := Option.some.inj hR; subst hR
    exact hQ _ _ (LS.mk [(2, .ptr 0 0 0)] (lblks 0 [boxB (α := Bound) true b]) 1) (aggV (α := Bound) true b) [] (.inr rfl) (Weak.turnL [(4, 0)] [] rfl rfl (tc (trP' rfl rfl rfl rfl) tn) (mc rfl (.box rfl (.cons (.sc _) (.cons (.sc _) (.cons (.sc _) (.nil)))) rfl) mn)) (ro1 (rvC (v := aggV (α := Bound) true b) rfl rfl ti59 rfl)) rfl rfl ldA pn
theorem ok48 (lo : Int) (hi : Int) (r : Bound) (hR : bound_Of lo hi = some r) : FnP Try.prog 48 [.sc (.int .i64 lo), .sc (.int .i64 hi)] (aggV (α := Bound) true r) := by
  refine fnP_of (FnX.walk Try.func48 rfl 9 0 (by simp [Try.ntmps48]) rfl fun W S F Q hQ => ?_)
  unfold bound_Of at hR
  refine AWP.sq ?_
  refine AWP.rgC 4 rfl rfl ?_
  refine al (cs := [.sc (.int .i64 0), .sc (.int .i64 0), .sc (.bool false)]) 0 rfl rfl ti59 rfl rfl ?_
  refine RunC.fin ?_
  refine AWP.sq ?_
  refine AWP.rgC 24 rfl rfl ?_
  refine pu (v := .sc _) rfl rfl (fun _ => rfl) ?_
  refine pu (v := .sc _) rfl rfl (fun _ => rfl) ?_
  refine bu (cs := [.sc (.int .i64 lo), .sc (.int .i64 hi), .sc (.bool false)]) rfl bt59 rfl ?_
  obtain ⟨r1, hr1, hR⟩ := bindE hR
  refine cls [] rfl rfl cb47 (ok47 (Bound.mk lo hi false) _ hr1) (.cons (.agg (.cons (.sc _) (.cons (.sc _) (.cons (.sc _) (.nil)))) rfl) (.nil)) (.inr rfl) rfl ?_
  refine stB (cs' := [.sc (.int .i64 r1.Lo), .sc (.int .i64 r1.Hi), .sc (.bool r1.Unknown)]) rfl rfl rfl rfl ti59 rfl rfl rfl rfl rfl ?_
  refine RunC.fin ?_
  refine AWP.ret ?_
  have hR := Option.some.inj hR; subst hR
  exact hQ _ _ (LS.mk [(4, .ptr 0 0 0)] (lblks 0 [boxB (α := Bound) true r1]) 1) (aggV (α := Bound) true r1) [] (.inr rfl) (Weak.turnL [(0, 0)] [] rfl rfl (tc (trP' rfl rfl rfl rfl) tn) (mc rfl (.box rfl (.cons (.sc _) (.cons (.sc _) (.cons (.sc _) (.nil)))) rfl) mn)) (ro1 (rvC (v := aggV (α := Bound) true r1) rfl rfl ti59 rfl)) rfl rfl ldA pn
theorem ok27 (b : Bound) (r : Int) (hR : bound_Check b = some r) : FnP Try.prog 27 [aggV false b] (.sc (.int .i64 r)) := by
  refine fnP_of (FnX.walk Try.func27 rfl 37 0 (by simp [Try.ntmps27]) rfl fun W S F Q hQ => ?_)
  unfold bound_Check at hR
  refine AWP.sq ?_
  refine AWP.rgC 8 rfl rfl ?_
  refine bx (cs := _) 0 rfl rfl rfl ?_
  refine pu (v := .sc _) rfl rfl (fun _ => rfl) ?_
  refine RunC.fin ?_
  refine AWP.sq ?_
  refine AWP.block ?_
  refine AWP.joinX (fun z1 : Bool => LS.mk [(1, .ptr 0 0 0), (3, .sc (.bool z1))] (lblks 0 [boxB (α := Bound) true b]) 1) hR (fun o1 hR => ?_) fun z1 hR => ?_
  · refine AWP.rgC 60 rfl rfl ?_
    refine fa rfl rfl ti61 rfl rfl ti4 rfl ?_
    refine ldB (v := .sc _) rfl rfl rfl rfl ti4 rfl rfl ?_
    refine pu (v := .sc _) rfl rfl (fun _ => rfl) ?_
    refine brR hR (fun h2 hR => ?_) fun h2 hR => ?_
    · refine fa (wtG rfl rfl rfl h2) rfl ti61 rfl rfl ti30 rfl ?_
      refine ldB (v := .sc _) (wtG rfl rfl rfl h2) rfl rfl rfl ti30 rfl rfl ?_
      refine pu (v := .sc _) (wtG rfl rfl rfl h2) rfl (fun _ => rfl) ?_
      refine pu (v := .sc _) (wtG rfl rfl rfl h2) rfl (fun _ => rfl) ?_
      refine brR hR (fun h3 hR => ?_) fun h3 hR => ?_
      · refine sk (skW rfl rfl rfl h3) ?_
        refine sk (skW rfl rfl rfl h3) ?_
        refine sk (skW rfl rfl rfl h3) ?_
        refine pkT (v := .sc (.bool true)) (wtG rfl rfl rfl h2) rfl h3 rfl ?_
        refine pkT (v := .sc (.bool true)) rfl rfl h2 rfl ?_
        refine pu (v := .sc _) rfl rfl (fun _ => rfl) ?_
        refine RunC.fin ?_
        have hR := Option.some.inj hR; subst hR
        exact Weak.turnL [(0, 0)] [] rfl rfl (tc (trP' rfl rfl rfl rfl) (tc (.sc _) tn)) (mc rfl (.box rfl (.cons (.sc _) (.cons (.sc _) (.cons (.sc _) (.nil)))) rfl) mn)
      · refine fa (wtG rfl rfl rfl h3) rfl ti61 rfl rfl ti30 rfl ?_
        refine ldB (v := .sc _) (wtG rfl rfl rfl h3) rfl rfl rfl ti30 rfl rfl ?_
        refine pu (v := .sc _) (wtG rfl rfl rfl h3) rfl (fun _ => rfl) ?_
        refine pkF (v := .sc (.bool (b.Hi != 0))) (wtG rfl rfl rfl h2) rfl h3 rfl ?_
        refine pkT (v := .sc (.bool (b.Hi != 0))) rfl rfl h2 rfl ?_
        refine pu (v := .sc _) rfl rfl (fun _ => rfl) ?_
        refine RunC.fin ?_
        have hR := Option.some.inj hR; subst hR
        exact Weak.turnL [(0, 0)] [] rfl rfl (tc (trP' rfl rfl rfl rfl) (tc (.sc _) tn)) (mc rfl (.box rfl (.cons (.sc _) (.cons (.sc _) (.cons (.sc _) (.nil)))) rfl) mn)
    · refine sk (skW rfl rfl rfl h2) ?_
      refine sk (skW rfl rfl rfl h2) ?_
      refine sk (skW rfl rfl rfl h2) ?_
      refine sk (skW rfl rfl rfl h2) ?_
      refine sk (skW2 rfl rfl rfl) ?_
      refine sk (skW2 rfl rfl rfl) ?_
      refine sk (skW2 rfl rfl rfl) ?_
      refine sk (skW rfl rfl rfl h2) ?_
      refine pkF (v := .sc (.bool false)) rfl rfl h2 rfl ?_
      refine pu (v := .sc _) rfl rfl (fun _ => rfl) ?_
      refine RunC.fin ?_
      have hR := Option.some.inj hR; subst hR
      exact Weak.turnL [(0, 0)] [] rfl rfl (tc (trP' rfl rfl rfl rfl) (tc (.sc _) tn)) (mc rfl (.box rfl (.cons (.sc _) (.cons (.sc _) (.cons (.sc _) (.nil)))) rfl) mn)
  · refine AWP.cd hR rfl (fun h4 hR => ?_) fun h4 hR => ?_
    · refine AWP.sq ?_
      refine AWP.rgC 5 rfl rfl ?_
      refine pu (v := .sc _) rfl rfl (fun _ => rfl) ?_
      refine RunC.fin ?_
      refine AWP.ret ?_
      refine rtB ?_
      refine rtT ?_
      have hR := Option.some.inj hR; subst hR
      exact hQ _ _ (LS.mk [(2, .sc (.int .i64 3))] (lblks 0 []) 0) (.sc (.int .i64 3)) [] (.inr rfl) (Weak.turnL [] [] rfl rfl (tc (.sc _) tn) mn) (ro1 (rvT (v := .sc (.int .i64 3)) rfl)) rfl rfl (.sc _) pn
    · refine AWP.joinX (fun z5 : Bool => LS.mk [(1, .ptr 0 0 0), (16, .sc (.bool z5))] (lblks 0 [boxB (α := Bound) true b]) 1) hR (fun o5 hR => ?_) fun z5 hR => ?_
      · refine AWP.rgC 61 rfl rfl ?_
        refine fa rfl rfl ti61 rfl rfl ti30 rfl ?_
        refine ldB (v := .sc _) rfl rfl rfl rfl ti30 rfl rfl ?_
        refine fa rfl rfl ti61 rfl rfl ti30 rfl ?_
        refine ldB (v := .sc _) rfl rfl rfl rfl ti30 rfl rfl ?_
        refine pu (v := .sc _) rfl rfl (fun _ => rfl) ?_
        refine pu (v := .sc _) rfl rfl (fun _ => rfl) ?_
        refine pu (v := .sc _) rfl rfl (fun _ => rfl) ?_
        refine brR hR (fun h6 hR => ?_) fun h6 hR => ?_
        · refine sk (skW rfl rfl rfl h6) ?_
          refine sk (skW rfl rfl rfl h6) ?_
          refine sk (skW rfl rfl rfl h6) ?_
          refine sk (skW rfl rfl rfl h6) ?_
          refine sk (skW rfl rfl rfl h6) ?_
          refine sk (skW rfl rfl rfl h6) ?_
          refine pkT (v := .sc (.bool true)) rfl rfl h6 rfl ?_
          refine pu (v := .sc _) rfl rfl (fun _ => rfl) ?_
          refine RunC.fin ?_
          have hR := Option.some.inj hR; subst hR
          exact Weak.turnL [(0, 0)] [] rfl rfl (tc (trP' rfl rfl rfl rfl) (tc (.sc _) tn)) (mc rfl (.box rfl (.cons (.sc _) (.cons (.sc _) (.cons (.sc _) (.nil)))) rfl) mn)
        · refine fa (wtG rfl rfl rfl h6) rfl ti61 rfl rfl ti30 rfl ?_
          refine ldB (v := .sc _) (wtG rfl rfl rfl h6) rfl rfl rfl ti30 rfl rfl ?_
          refine fa (wtG rfl rfl rfl h6) rfl ti61 rfl rfl ti30 rfl ?_
          refine ldB (v := .sc _) (wtG rfl rfl rfl h6) rfl rfl rfl ti30 rfl rfl ?_
          refine pu (v := .sc _) (wtG rfl rfl rfl h6) rfl (fun _ => rfl) ?_
          refine pu (v := .sc _) (wtG rfl rfl rfl h6) rfl (fun _ => rfl) ?_
          refine pkF (v := .sc (.bool (decide ((mx2 b.Lo b.Hi) > 1152921504606846976)))) rfl rfl h6 rfl ?_
          refine pu (v := .sc _) rfl rfl (fun _ => rfl) ?_
          refine RunC.fin ?_
          have hR := Option.some.inj hR; subst hR
          exact Weak.turnL [(0, 0)] [] rfl rfl (tc (trP' rfl rfl rfl rfl) (tc (.sc _) tn)) (mc rfl (.box rfl (.cons (.sc _) (.cons (.sc _) (.cons (.sc _) (.nil)))) rfl) mn)
      · refine AWP.cd hR rfl (fun h7 hR => ?_) fun h7 hR => ?_
        · refine AWP.sq ?_
          refine AWP.rgC 5 rfl rfl ?_
          refine pu (v := .sc _) rfl rfl (fun _ => rfl) ?_
          refine RunC.fin ?_
          refine AWP.ret ?_
          refine rtB ?_
          refine rtT ?_
          have hR := Option.some.inj hR; subst hR
          exact hQ _ _ (LS.mk [(2, .sc (.int .i64 4))] (lblks 0 []) 0) (.sc (.int .i64 4)) [] (.inr rfl) (Weak.turnL [] [] rfl rfl (tc (.sc _) tn) mn) (ro1 (rvT (v := .sc (.int .i64 4)) rfl)) rfl rfl (.sc _) pn
        · refine AWP.sq ?_
          refine AWP.rgC 25 rfl rfl ?_
          refine fa rfl rfl ti61 rfl rfl ti30 rfl ?_
          refine ldB (v := .sc _) rfl rfl rfl rfl ti30 rfl rfl ?_
          refine fa rfl rfl ti61 rfl rfl ti30 rfl ?_
          refine ldB (v := .sc _) rfl rfl rfl rfl ti30 rfl rfl ?_
          refine pu (v := .sc _) rfl rfl (fun _ => rfl) ?_
          refine pu (v := .sc _) rfl rfl (fun _ => rfl) ?_
          refine RunC.fin ?_
          refine AWP.cd hR rfl (fun h8 hR => ?_) fun h8 hR => ?_
          · refine AWP.sq ?_
            refine AWP.rgC 29 rfl rfl ?_
            refine pu (v := .sc _) rfl rfl (fun _ => rfl) ?_
            refine RunC.fin ?_
            refine AWP.ret ?_
            refine rtB ?_
            refine rtT ?_
            have hR := Option.some.inj hR; subst hR
            exact hQ _ _ (LS.mk [(2, .sc (.int .i64 11))] (lblks 0 []) 0) (.sc (.int .i64 11)) [] (.inr rfl) (Weak.turnL [] [] rfl rfl (tc (.sc _) tn) mn) (ro1 (rvT (v := .sc (.int .i64 11)) rfl)) rfl rfl (.sc _) pn
          · refine AWP.skip ?_
            refine skB ?_
            refine skT ?_
            refine AWP.sq ?_
            refine AWP.rgC 29 rfl rfl ?_
            refine pu (v := .sc _) rfl rfl (fun _ => rfl) ?_
            refine RunC.fin ?_
            refine AWP.ret ?_
            have hR := Option.some.inj hR; subst hR
            exact hQ _ _ (LS.mk [(2, .sc (.int .i64 0))] (lblks 0 []) 0) (.sc (.int .i64 0)) [] (.inr rfl) (Weak.turnL [] [] rfl rfl (tc (.sc _) tn) mn) (ro1 (rvT (v := .sc (.int .i64 0)) rfl)) rfl rfl (.sc _) pn
theorem ok46 (t : Bound) (period : Int) (phases : Int) (r : Int × Bool) (hR : curve_Phase t period phases = some r) : FnP Try.prog 46 [aggV false t, .sc (.int .i64 period), .sc (.int .i64 phases)] (.tup [.sc (.int .i64 r.1), .sc (.bool r.2)]) := by
  refine fnP_of (FnX.walk Try.func46 rfl 57 0 (by simp [Try.ntmps46]) rfl fun W S F Q hQ => ?_)
  unfold curve_Phase at hR
  refine AWP.sq ?_
  refine AWP.rgC 12 rfl rfl ?_
  refine bx (cs := _) 0 rfl rfl rfl ?_
  refine pu (v := .sc _) rfl rfl (fun _ => rfl) ?_
  refine pu (v := .sc _) rfl rfl (fun _ => rfl) ?_
  refine RunC.fin ?_
  refine AWP.sq ?_
  refine AWP.joinX (fun z1 : Bool => LS.mk [(1, .sc (.int .i64 period)), (2, .sc (.int .i64 phases)), (3, .ptr 0 0 0), (35, .sc (.bool z1))] (lblks 0 [boxB (α := Bound) true t]) 1) hR (fun o1 hR => ?_) fun z1 hR => ?_
  · refine AWP.rgC 112 rfl rfl ?_
    refine ldB (v := .agg _) rfl rfl rfl rfl ti61 rfl rfl ?_
    obtain ⟨r2, hr2, hR⟩ := bindE hR
    refine cls [] rfl rfl cb27 (ok27 t _ hr2) (.cons (.agg (.cons (.sc _) (.cons (.sc _) (.cons (.sc _) (.nil)))) rfl) (.nil)) (.inr rfl) rfl ?_
    refine pu (v := .sc _) rfl rfl (fun _ => rfl) ?_
    refine pu (v := .sc _) rfl rfl (fun _ => rfl) ?_
    refine brR hR (fun h3 hR => ?_) fun h3 hR => ?_
    · refine sk (skW rfl rfl rfl h3) ?_
      refine sk (skW rfl rfl rfl h3) ?_
      refine pkT (v := .sc (.bool true)) rfl rfl h3 rfl ?_
      refine pu (v := .sc _) rfl rfl (fun _ => rfl) ?_
      refine sk (skW rfl rfl rfl rfl) ?_
      refine sk (skW rfl rfl rfl rfl) ?_
      refine pkT (v := .sc (.bool true)) rfl rfl rfl rfl ?_
      refine pu (v := .sc _) rfl rfl (fun _ => rfl) ?_
      refine sk (skW rfl rfl rfl rfl) ?_
      refine sk (skW rfl rfl rfl rfl) ?_
      refine pkT (v := .sc (.bool true)) rfl rfl rfl rfl ?_
      refine pu (v := .sc _) rfl rfl (fun _ => rfl) ?_
      refine sk (skW rfl rfl rfl rfl) ?_
      refine sk (skW rfl rfl rfl rfl) ?_
      refine pkT (v := .sc (.bool true)) rfl rfl rfl rfl ?_
      refine pu (v := .sc _) rfl rfl (fun _ => rfl) ?_
      refine sk (skW rfl rfl rfl rfl) ?_
      refine sk (skW rfl rfl rfl rfl) ?_
      refine sk (skW rfl rfl rfl rfl) ?_
      refine sk (skW rfl rfl rfl rfl) ?_
      refine pkT (v := .sc (.bool true)) rfl rfl rfl rfl ?_
      refine RunC.fin ?_
      have hR := Option.some.inj hR; subst hR
      exact Weak.turnL [(0, 0)] [] rfl rfl (tc (.sc _) (tc (.sc _) (tc (trP' rfl rfl rfl rfl) (tc (.sc _) tn)))) (mc rfl (.box rfl (.cons (.sc _) (.cons (.sc _) (.cons (.sc _) (.nil)))) rfl) mn)
    · refine fa (wtG rfl rfl rfl h3) rfl ti61 rfl rfl ti4 rfl ?_
      refine ldB (v := .sc _) (wtG rfl rfl rfl h3) rfl rfl rfl ti4 rfl rfl ?_
      refine pkF (v := .sc (.bool t.Unknown)) rfl rfl h3 rfl ?_
      refine pu (v := .sc _) rfl rfl (fun _ => rfl) ?_
      refine brR hR (fun h4 hR => ?_) fun h4 hR => ?_
      · refine sk (skW rfl rfl rfl h4) ?_
        refine sk (skW rfl rfl rfl h4) ?_
        refine pkT (v := .sc (.bool true)) rfl rfl h4 rfl ?_
        refine pu (v := .sc _) rfl rfl (fun _ => rfl) ?_
        refine sk (skW rfl rfl rfl rfl) ?_
        refine sk (skW rfl rfl rfl rfl) ?_
        refine pkT (v := .sc (.bool true)) rfl rfl rfl rfl ?_
        refine pu (v := .sc _) rfl rfl (fun _ => rfl) ?_
        refine sk (skW rfl rfl rfl rfl) ?_
        refine sk (skW rfl rfl rfl rfl) ?_
        refine pkT (v := .sc (.bool true)) rfl rfl rfl rfl ?_
        refine pu (v := .sc _) rfl rfl (fun _ => rfl) ?_
        refine sk (skW rfl rfl rfl rfl) ?_
        refine sk (skW rfl rfl rfl rfl) ?_
        refine sk (skW rfl rfl rfl rfl) ?_
        refine sk (skW rfl rfl rfl rfl) ?_
        refine pkT (v := .sc (.bool true)) rfl rfl rfl rfl ?_
        refine RunC.fin ?_
        have hR := Option.some.inj hR; subst hR
        exact Weak.turnL [(0, 0)] [] rfl rfl (tc (.sc _) (tc (.sc _) (tc (trP' rfl rfl rfl rfl) (tc (.sc _) tn)))) (mc rfl (.box rfl (.cons (.sc _) (.cons (.sc _) (.cons (.sc _) (.nil)))) rfl) mn)
      · refine pu (v := .sc _) (wtG rfl rfl rfl h4) rfl (fun _ => rfl) ?_
        refine pu (v := .sc _) (wtG rfl rfl rfl h4) rfl (fun _ => rfl) ?_
        refine pkF (v := .sc (.bool (decide (phases < 1)))) rfl rfl h4 rfl ?_
        refine pu (v := .sc _) rfl rfl (fun _ => rfl) ?_
        refine brR hR (fun h5 hR => ?_) fun h5 hR => ?_
        · refine sk (skW rfl rfl rfl h5) ?_
          refine sk (skW rfl rfl rfl h5) ?_
          refine pkT (v := .sc (.bool true)) rfl rfl h5 rfl ?_
          refine pu (v := .sc _) rfl rfl (fun _ => rfl) ?_
          refine sk (skW rfl rfl rfl rfl) ?_
          refine sk (skW rfl rfl rfl rfl) ?_
          refine pkT (v := .sc (.bool true)) rfl rfl rfl rfl ?_
          refine pu (v := .sc _) rfl rfl (fun _ => rfl) ?_
          refine sk (skW rfl rfl rfl rfl) ?_
          refine sk (skW rfl rfl rfl rfl) ?_
          refine sk (skW rfl rfl rfl rfl) ?_
          refine sk (skW rfl rfl rfl rfl) ?_
          refine pkT (v := .sc (.bool true)) rfl rfl rfl rfl ?_
          refine RunC.fin ?_
          have hR := Option.some.inj hR; subst hR
          exact Weak.turnL [(0, 0)] [] rfl rfl (tc (.sc _) (tc (.sc _) (tc (trP' rfl rfl rfl rfl) (tc (.sc _) tn)))) (mc rfl (.box rfl (.cons (.sc _) (.cons (.sc _) (.cons (.sc _) (.nil)))) rfl) mn)
        · refine pu (v := .sc _) (wtG rfl rfl rfl h5) rfl (fun _ => rfl) ?_
          refine pu (v := .sc _) (wtG rfl rfl rfl h5) rfl (fun _ => rfl) ?_
          refine pkF (v := .sc (.bool (decide (phases > 16)))) rfl rfl h5 rfl ?_
          refine pu (v := .sc _) rfl rfl (fun _ => rfl) ?_
          refine brR hR (fun h6 hR => ?_) fun h6 hR => ?_
          · refine sk (skW rfl rfl rfl h6) ?_
            refine sk (skW rfl rfl rfl h6) ?_
            refine pkT (v := .sc (.bool true)) rfl rfl h6 rfl ?_
            refine pu (v := .sc _) rfl rfl (fun _ => rfl) ?_
            refine sk (skW rfl rfl rfl rfl) ?_
            refine sk (skW rfl rfl rfl rfl) ?_
            refine sk (skW rfl rfl rfl rfl) ?_
            refine sk (skW rfl rfl rfl rfl) ?_
            refine pkT (v := .sc (.bool true)) rfl rfl rfl rfl ?_
            refine RunC.fin ?_
            have hR := Option.some.inj hR; subst hR
            exact Weak.turnL [(0, 0)] [] rfl rfl (tc (.sc _) (tc (.sc _) (tc (trP' rfl rfl rfl rfl) (tc (.sc _) tn)))) (mc rfl (.box rfl (.cons (.sc _) (.cons (.sc _) (.cons (.sc _) (.nil)))) rfl) mn)
          · refine pu (v := .sc _) (wtG rfl rfl rfl h6) rfl (fun _ => rfl) ?_
            refine pu (v := .sc _) (wtG rfl rfl rfl h6) rfl (fun _ => rfl) ?_
            refine pkF (v := .sc (.bool (decide (period < 1)))) rfl rfl h6 rfl ?_
            refine pu (v := .sc _) rfl rfl (fun _ => rfl) ?_
            refine brR hR (fun h7 hR => ?_) fun h7 hR => ?_
            · refine sk (skW rfl rfl rfl h7) ?_
              refine sk (skW rfl rfl rfl h7) ?_
              refine sk (skW rfl rfl rfl h7) ?_
              refine sk (skW rfl rfl rfl h7) ?_
              refine pkT (v := .sc (.bool true)) rfl rfl h7 rfl ?_
              refine RunC.fin ?_
              have hR := Option.some.inj hR; subst hR
              exact Weak.turnL [(0, 0)] [] rfl rfl (tc (.sc _) (tc (.sc _) (tc (trP' rfl rfl rfl rfl) (tc (.sc _) tn)))) (mc rfl (.box rfl (.cons (.sc _) (.cons (.sc _) (.cons (.sc _) (.nil)))) rfl) mn)
            · refine pu (v := .sc _) (wtG rfl rfl rfl h7) rfl (fun _ => rfl) ?_
              refine pu (v := .sc _) (wtG rfl rfl rfl h7) rfl (fun _ => rfl) ?_
              obtain ⟨h8, hR⟩ := chkE hR
              refine rm (wtG rfl rfl rfl h7) rfl rfl h8 rfl ?_
              refine pu (v := .sc _) (wtG rfl rfl rfl h7) rfl (fun _ => rfl) ?_
              refine pkF (v := .sc (.bool ((Int.tmod period phases) != 0))) rfl rfl h7 rfl ?_
              refine RunC.fin ?_
              have hR := Option.some.inj hR; subst hR
              exact Weak.turnL [(0, 0)] [] rfl rfl (tc (.sc _) (tc (.sc _) (tc (trP' rfl rfl rfl rfl) (tc (.sc _) tn)))) (mc rfl (.box rfl (.cons (.sc _) (.cons (.sc _) (.cons (.sc _) (.nil)))) rfl) mn)
  · refine AWP.cd hR rfl (fun h9 hR => ?_) fun h9 hR => ?_
    · refine AWP.sq ?_
      refine AWP.rgC 9 rfl rfl ?_
      refine pu (v := .sc _) rfl rfl (fun _ => rfl) ?_
      refine pu (v := .sc _) rfl rfl (fun _ => rfl) ?_
      refine RunC.fin ?_
      refine AWP.ret ?_
      refine rtT ?_
      have hR := Option.some.inj hR; subst hR
      exact hQ _ _ (LS.mk [(6, .sc (.int .i64 0)), (7, .sc (.bool false))] (lblks 0 []) 0) (.tup [.sc (.int .i64 0), .sc (.bool false)]) [] (.inr rfl) (Weak.turnL [] [] rfl rfl (tc (.sc _) (tc (.sc _) tn)) mn) (ro2 (rvT (v := .sc (.int .i64 0)) rfl) (rvT (v := .sc (.bool false)) rfl)) rfl rfl (.tup (.cons (.sc _) (.cons (.sc _) .nil))) pn
    · refine AWP.skip ?_
      refine skT ?_
      refine AWP.sq ?_
      refine AWP.rgC 17 rfl rfl ?_
      refine pu (v := .sc _) rfl rfl (fun _ => rfl) ?_
      refine pu (v := .sc _) rfl rfl (fun _ => rfl) ?_
      obtain ⟨h10, hR⟩ := chkE hR
      refine qu rfl rfl rfl h10 rfl ?_
      refine pu (v := .sc _) rfl rfl (fun _ => rfl) ?_
      refine RunC.fin ?_
      refine AWP.sq ?_
      refine AWP.rgD 57 [0, 1, 0, 7, 0, 16, 0, 127, 255, 511] ⟨[], [none, some [0], none, none, none, some [0], none, none, none, none]⟩ hmix (by kernel_rfl) rfl rfl ?_
      refine fa rfl rfl ti61 rfl rfl ti30 rfl ?_
      refine ldB (v := .sc _) rfl rfl rfl rfl ti30 rfl rfl ?_
      refine pu (v := .sc _) rfl rfl (fun _ => rfl) ?_
      obtain ⟨r11, hr11, hR⟩ := bindE hR
      refine cls [] rfl rfl cb59 (ok59 t.Lo (w6 (Int.tdiv period phases)) _ hr11) (.cons (.sc _) (.cons (.sc _) (.nil))) (.inr rfl) rfl ?_
      refine fa rfl rfl ti61 rfl rfl ti30 rfl ?_
      refine ldB (v := .sc _) rfl rfl rfl rfl ti30 rfl rfl ?_
      refine pu (v := .sc _) rfl rfl (fun _ => rfl) ?_
      obtain ⟨r12, hr12, hR⟩ := bindE hR
      refine cls [] rfl rfl cb59 (ok59 t.Hi (w6 (Int.tdiv period phases)) _ hr12) (.cons (.sc _) (.cons (.sc _) (.nil))) (.inr rfl) rfl ?_
      refine pu (v := .sc _) rfl rfl (fun _ => rfl) ?_
      refine pu (v := .sc _) rfl rfl (fun _ => rfl) ?_
      refine RunC.fin ?_
      refine AWP.sq ?_
      refine AWP.joinX (fun z13 : Bool => LS.mk [(2, .sc (.int .i64 phases)), (9, .sc (.int .i64 r11)), (53, .sc (.bool z13))] (lblks 0 []) 0) hR (fun o13 hR => ?_) fun z13 hR => ?_
      · refine AWP.rgC 85 rfl rfl ?_
        refine pu (v := .sc _) rfl rfl (fun _ => rfl) ?_
        refine pu (v := .sc _) rfl rfl (fun _ => rfl) ?_
        refine pu (v := .sc _) rfl rfl (fun _ => rfl) ?_
        refine pu (v := .sc _) rfl rfl (fun _ => rfl) ?_
        refine brR hR (fun h14 hR => ?_) fun h14 hR => ?_
        · refine pu (v := .sc _) (wtG rfl rfl rfl h14) rfl (fun _ => rfl) ?_
          refine pu (v := .sc _) (wtG rfl rfl rfl h14) rfl (fun _ => rfl) ?_
          refine pkT (v := .sc (.bool (decide (phases > 1)))) rfl rfl h14 rfl ?_
          refine RunC.fin ?_
          have hR := Option.some.inj hR; subst hR
          exact Weak.turnL [] [] rfl rfl (tc (.sc _) (tc (.sc _) (tc (.sc _) tn))) mn
        · refine sk (skW rfl rfl rfl h14) ?_
          refine sk (skW rfl rfl rfl h14) ?_
          refine pkF (v := .sc (.bool false)) rfl rfl h14 rfl ?_
          refine RunC.fin ?_
          have hR := Option.some.inj hR; subst hR
          exact Weak.turnL [] [] rfl rfl (tc (.sc _) (tc (.sc _) (tc (.sc _) tn))) mn
      · refine AWP.cd hR rfl (fun h15 hR => ?_) fun h15 hR => ?_
        · refine AWP.sq ?_
          refine AWP.rgC 8 rfl rfl ?_
          refine pu (v := .sc _) rfl rfl (fun _ => rfl) ?_
          refine pu (v := .sc _) rfl rfl (fun _ => rfl) ?_
          refine RunC.fin ?_
          refine AWP.ret ?_
          refine rtT ?_
          have hR := Option.some.inj hR; subst hR
          exact hQ _ _ (LS.mk [(6, .sc (.int .i64 0)), (7, .sc (.bool false))] (lblks 0 []) 0) (.tup [.sc (.int .i64 0), .sc (.bool false)]) [] (.inr rfl) (Weak.turnL [] [] rfl rfl (tc (.sc _) (tc (.sc _) tn)) mn) (ro2 (rvT (v := .sc (.int .i64 0)) rfl) (rvT (v := .sc (.bool false)) rfl)) rfl rfl (.tup (.cons (.sc _) (.cons (.sc _) .nil))) pn
        · refine AWP.skip ?_
          refine skT ?_
          refine AWP.sq ?_
          refine AWP.rgC 20 rfl rfl ?_
          refine pu (v := .sc _) rfl rfl (fun _ => rfl) ?_
          refine pu (v := .sc _) rfl rfl (fun _ => rfl) ?_
          obtain ⟨r16, hr16, hR⟩ := bindE hR
          refine cls [] rfl rfl cb60 (ok60 r11 phases _ hr16) (.cons (.sc _) (.cons (.sc _) (.nil))) (.inr rfl) rfl ?_
          refine pu (v := .sc _) rfl rfl (fun _ => rfl) ?_
          refine pu (v := .sc _) rfl rfl (fun _ => rfl) ?_
          refine RunC.fin ?_
          refine AWP.ret ?_
          have hR := Option.some.inj hR; subst hR
          exact hQ _ _ (LS.mk [(6, .sc (.int .i64 r16)), (7, .sc (.bool true))] (lblks 0 []) 0) (.tup [.sc (.int .i64 r16), .sc (.bool true)]) [] (.inr rfl) (Weak.turnL [] [] rfl rfl (tc (.sc _) (tc (.sc _) tn)) mn) (ro2 (rvT (v := .sc (.int .i64 r16)) rfl) (rvT (v := .sc (.bool true)) rfl)) rfl rfl (.tup (.cons (.sc _) (.cons (.sc _) .nil))) pn
theorem ok44 (vals : List Int) (r : Int) (hR : cmp_Or vals = some r) : FnP Try.prog 44 [rowV false vals] (.sc (.int .i64 r)) := by
  refine fnP_of (FnX.walk Try.func44 rfl 18 0 (by simp [Try.ntmps44]) rfl fun W S F Q hQ => ?_)
  unfold cmp_Or at hR
  refine AWP.sq ?_
  refine AWP.rgC 4 rfl rfl ?_
  refine pu (v := .sc _) rfl rfl (fun _ => rfl) ?_
  refine RunC.fin ?_
  refine AWP.sq ?_
  refine AWP.rgC 8 rfl rfl ?_
  refine pu (v := .sc _) rfl rfl (fun _ => rfl) ?_
  refine RunC.fin ?_
  refine AWP.sq ?_
  refine AWP.sq ?_
  refine AWP.rgC 20 rfl rfl ?_
  refine pu (v := rowV _ vals) rfl rfl (fun _ => rfl) ?_
  refine lenL (α := Int) rfl rfl ti22 rfl ?_
  refine pu (v := .sc _) rfl rfl (fun _ => rfl) ?_
  refine RunC.fin ?_
  refine AWP.loopK' (fun s1 : Int => LS.mk [(3, .sc (.int .i64 0)), (6, rowV (α := Int) false vals), (7, .sc (.int .i64 (vals.length : Int))), (8, .sc (.int .i64 s1))] (lblks 0 []) 0) (fun z2 : Unit => LS.mk [(3, .sc (.int .i64 0))] (lblks 0 []) 0) (cmp_Or.l1 vals) hR (s0 := 0) (Weak.turnL [] [] rfl rfl (tc (.sc _) (tc trR1 (tc (.sc _) (tc (.sc _) tn)))) mn) (fun s1 o1 hR hE1 => ?_) fun z2 hR => ?_
  · unfold cmp_Or.l1 at hR
    refine AWP.sq ?_
    refine AWP.rgC 4 rfl rfl ?_
    refine pu (v := .sc _) rfl rfl (fun _ => rfl) ?_
    refine RunC.fin ?_
    refine AWP.sq ?_
    refine AWP.cd hR rfl (fun h3 hR => ?_) fun h3 hR => ?_
    · refine AWP.skip ?_
      refine skT ?_
      refine AWP.sq ?_
      refine AWP.block ?_
      refine AWP.sq ?_
      refine AWP.rgC 16 rfl rfl ?_
      obtain ⟨h4, hR⟩ := chkE hR
      refine ixL (α := Int) rfl rfl rfl ti22 rfl ti3 rfl h4 ?_
      refine ldR (v := .sc _) rfl rfl ti3 rfl ?_
      refine pu (v := .sc _) rfl rfl (fun _ => rfl) ?_
      refine RunC.fin ?_
      refine AWP.sq ?_
      refine AWP.rgC 28 rfl rfl ?_
      refine pu (v := .sc _) rfl rfl (fun _ => rfl) ?_
      refine pu (v := .sc _) rfl rfl (fun _ => rfl) ?_
      refine pu (v := .sc _) rfl rfl (fun _ => rfl) ?_
      refine RunC.fin ?_
      refine AWP.cd hR rfl (fun h5 hR => ?_) fun h5 hR => ?_
      · refine AWP.sq ?_
        refine AWP.rgC 36 rfl rfl ?_
        refine pu (v := .sc _) rfl rfl (fun _ => rfl) ?_
        refine pu (v := .sc _) rfl rfl (fun _ => rfl) ?_
        refine RunC.fin ?_
        refine AWP.ret ?_
        refine rtB ?_
        refine rtT ?_
        refine rtT ?_
        refine rtB (rtT ?_)
        replace hR := escL hR hE1
        refine rtT ?_
        have hR := Option.some.inj hR; subst hR
        exact hQ _ _ (LS.mk [(2, .sc (.int .i64 (gt vals s1)))] (lblks 0 []) 0) (.sc (.int .i64 (gt vals s1))) [] (.inr rfl) (Weak.turnL [] [] rfl rfl (tc (.sc _) tn) mn) (ro1 (rvT (v := .sc (.int .i64 (gt vals s1))) rfl)) rfl rfl (.sc _) pn
      · refine AWP.skip ?_
        refine skB ?_
        refine skT ?_
        refine AWP.rgC 36 rfl rfl ?_
        refine pu (v := .sc _) rfl rfl (fun _ => rfl) ?_
        refine pu (v := .sc _) rfl rfl (fun _ => rfl) ?_
        refine RunC.fin ?_
        refine ⟨(w6 (s1 + 1)), (Option.some.inj hR).symm, ?_⟩
        exact Weak.turnL [] [] rfl rfl (tc (.sc _) (tc trR1 (tc (.sc _) (tc (.sc _) tn)))) mn
    · refine AWP.exit ?_
      refine exT ?_
      refine exT ?_
      refine exH (skT ?_)
      refine ⟨(), (Option.some.inj hR).symm, ?_⟩
      exact Weak.turnL [] [] rfl rfl (tc (.sc _) tn) mn
  · refine skT ?_
    refine AWP.sq ?_
    refine AWP.rgC 8 rfl rfl ?_
    refine pu (v := .sc _) rfl rfl (fun _ => rfl) ?_
    refine pu (v := .sc _) rfl rfl (fun _ => rfl) ?_
    refine RunC.fin ?_
    refine AWP.ret ?_
    have hR := Option.some.inj hR; subst hR
    exact hQ _ _ (LS.mk [(2, .sc (.int .i64 0))] (lblks 0 []) 0) (.sc (.int .i64 0)) [] (.inr rfl) (Weak.turnL [] [] rfl rfl (tc (.sc _) tn) mn) (ro1 (rvT (v := .sc (.int .i64 0)) rfl)) rfl rfl (.sc _) pn
theorem ok45 (x : Int) (y : Int) (r : Int) (hR : cmp_Compare x y = some r) : FnP Try.prog 45 [.sc (.int .i64 x), .sc (.int .i64 y)] (.sc (.int .i64 r)) := by
  refine fnP_of (FnX.walk Try.func45 rfl 20 0 (by simp [Try.ntmps45]) rfl fun W S F Q hQ => ?_)
  unfold cmp_Compare at hR
  refine AWP.sq ?_
  refine AWP.rgC 4 rfl rfl ?_
  refine pu (v := .sc _) rfl rfl (fun _ => rfl) ?_
  refine RunC.fin ?_
  refine AWP.sq ?_
  refine AWP.rgC 16 rfl rfl ?_
  refine pu (v := .sc _) rfl rfl (fun _ => rfl) ?_
  obtain ⟨r1, hr1, hR⟩ := bindE hR
  refine cls [] rfl rfl cb58 (ok58 x _ hr1) (.cons (.sc _) (.nil)) (.inr rfl) rfl ?_
  refine pu (v := .sc _) rfl rfl (fun _ => rfl) ?_
  refine RunC.fin ?_
  refine AWP.sq ?_
  refine AWP.rgC 28 rfl rfl ?_
  refine pu (v := .sc _) rfl rfl (fun _ => rfl) ?_
  obtain ⟨r2, hr2, hR⟩ := bindE hR
  refine cls [] rfl rfl cb58 (ok58 y _ hr2) (.cons (.sc _) (.nil)) (.inr rfl) rfl ?_
  refine pu (v := .sc _) rfl rfl (fun _ => rfl) ?_
  refine RunC.fin ?_
  refine AWP.sq ?_
  refine AWP.sq ?_
  refine AWP.rgC 32 rfl rfl ?_
  refine pu (v := .sc _) rfl rfl (fun _ => rfl) ?_
  refine RunC.fin ?_
  refine AWP.cd hR rfl (fun h3 hR => ?_) fun h3 hR => ?_
  · refine AWP.sq ?_
    refine AWP.sq ?_
    refine AWP.rgC 36 rfl rfl ?_
    refine pu (v := .sc _) rfl rfl (fun _ => rfl) ?_
    refine RunC.fin ?_
    refine AWP.cd hR rfl (fun h4 hR => ?_) fun h4 hR => ?_
    · refine AWP.sq ?_
      refine AWP.rgC 40 rfl rfl ?_
      refine pu (v := .sc _) rfl rfl (fun _ => rfl) ?_
      refine RunC.fin ?_
      refine AWP.ret ?_
      refine rtT ?_
      refine rtT ?_
      have hR := Option.some.inj hR; subst hR
      exact hQ _ _ (LS.mk [(4, .sc (.int .i64 0))] (lblks 0 []) 0) (.sc (.int .i64 0)) [] (.inr rfl) (Weak.turnL [] [] rfl rfl (tc (.sc _) tn) mn) (ro1 (rvT (v := .sc (.int .i64 0)) rfl)) rfl rfl (.sc _) pn
    · refine AWP.skip ?_
      refine skT ?_
      refine AWP.sq ?_
      refine AWP.rgC 40 rfl rfl ?_
      refine pu (v := .sc _) rfl rfl (fun _ => rfl) ?_
      refine RunC.fin ?_
      refine AWP.ret ?_
      refine rtT ?_
      have hR := Option.some.inj hR; subst hR
      exact hQ _ _ (LS.mk [(4, .sc (.int .i64 (-1)))] (lblks 0 []) 0) (.sc (.int .i64 (-1))) [] (.inr rfl) (Weak.turnL [] [] rfl rfl (tc (.sc _) tn) mn) (ro1 (rvT (v := .sc (.int .i64 (-1))) rfl)) rfl rfl (.sc _) pn
  · refine AWP.skip ?_
    refine skT ?_
    refine AWP.sq ?_
    refine AWP.sq ?_
    refine AWP.rgC 36 rfl rfl ?_
    refine pu (v := .sc _) rfl rfl (fun _ => rfl) ?_
    refine RunC.fin ?_
    refine AWP.cd hR rfl (fun h5 hR => ?_) fun h5 hR => ?_
    · refine AWP.sq ?_
      refine AWP.rgC 40 rfl rfl ?_
      refine pu (v := .sc _) rfl rfl (fun _ => rfl) ?_
      refine RunC.fin ?_
      refine AWP.ret ?_
      refine rtT ?_
      have hR := Option.some.inj hR; subst hR
      exact hQ _ _ (LS.mk [(4, .sc (.int .i64 1))] (lblks 0 []) 0) (.sc (.int .i64 1)) [] (.inr rfl) (Weak.turnL [] [] rfl rfl (tc (.sc _) tn) mn) (ro1 (rvT (v := .sc (.int .i64 1)) rfl)) rfl rfl (.sc _) pn
    · refine AWP.skip ?_
      refine skT ?_
      refine AWP.sq ?_
      refine AWP.sq ?_
      refine AWP.rgC 48 rfl rfl ?_
      refine pu (v := .sc _) rfl rfl (fun _ => rfl) ?_
      refine pu (v := .sc _) rfl rfl (fun _ => rfl) ?_
      refine pu (v := .sc _) rfl rfl (fun _ => rfl) ?_
      refine RunC.fin ?_
      refine AWP.cd hR rfl (fun h6 hR => ?_) fun h6 hR => ?_
      · refine AWP.sq ?_
        refine AWP.rgC 52 rfl rfl ?_
        refine pu (v := .sc _) rfl rfl (fun _ => rfl) ?_
        refine RunC.fin ?_
        refine AWP.ret ?_
        refine rtT ?_
        have hR := Option.some.inj hR; subst hR
        exact hQ _ _ (LS.mk [(4, .sc (.int .i64 (-1)))] (lblks 0 []) 0) (.sc (.int .i64 (-1))) [] (.inr rfl) (Weak.turnL [] [] rfl rfl (tc (.sc _) tn) mn) (ro1 (rvT (v := .sc (.int .i64 (-1))) rfl)) rfl rfl (.sc _) pn
      · refine AWP.skip ?_
        refine skT ?_
        refine AWP.sq ?_
        refine AWP.sq ?_
        refine AWP.rgC 60 rfl rfl ?_
        refine pu (v := .sc _) rfl rfl (fun _ => rfl) ?_
        refine pu (v := .sc _) rfl rfl (fun _ => rfl) ?_
        refine pu (v := .sc _) rfl rfl (fun _ => rfl) ?_
        refine RunC.fin ?_
        refine AWP.cd hR rfl (fun h7 hR => ?_) fun h7 hR => ?_
        · refine AWP.sq ?_
          refine AWP.rgC 64 rfl rfl ?_
          refine pu (v := .sc _) rfl rfl (fun _ => rfl) ?_
          refine RunC.fin ?_
          refine AWP.ret ?_
          refine rtT ?_
          have hR := Option.some.inj hR; subst hR
          exact hQ _ _ (LS.mk [(4, .sc (.int .i64 1))] (lblks 0 []) 0) (.sc (.int .i64 1)) [] (.inr rfl) (Weak.turnL [] [] rfl rfl (tc (.sc _) tn) mn) (ro1 (rvT (v := .sc (.int .i64 1)) rfl)) rfl rfl (.sc _) pn
        · refine AWP.skip ?_
          refine skT ?_
          refine AWP.sq ?_
          refine AWP.rgC 64 rfl rfl ?_
          refine pu (v := .sc _) rfl rfl (fun _ => rfl) ?_
          refine RunC.fin ?_
          refine AWP.ret ?_
          have hR := Option.some.inj hR; subst hR
          exact hQ _ _ (LS.mk [(4, .sc (.int .i64 0))] (lblks 0 []) 0) (.sc (.int .i64 0)) [] (.inr rfl) (Weak.turnL [] [] rfl rfl (tc (.sc _) tn) mn) (ro1 (rvT (v := .sc (.int .i64 0)) rfl)) rfl rfl (.sc _) pn
theorem ok42 (x : Int) (r : Int) (hR : bits_Len32 x = some r) : FnP Try.prog 42 [.sc (.int .u32 x)] (.sc (.int .i64 r)) := by
  refine fnP_of (FnX.walk Try.func42 rfl 19 0 (by simp [Try.ntmps42]) rfl fun W S F Q hQ => ?_)
  unfold bits_Len32 at hR
  refine AWP.sq ?_
  refine AWP.rgC 4 rfl rfl ?_
  refine pu (v := .sc _) rfl rfl (fun _ => rfl) ?_
  refine RunC.fin ?_
  refine AWP.sq ?_
  refine AWP.sq ?_
  refine AWP.rgC 12 rfl rfl ?_
  refine pu (v := .sc _) rfl rfl (fun _ => rfl) ?_
  refine pu (v := .sc _) rfl rfl (fun _ => rfl) ?_
  refine RunC.fin ?_
  refine AWP.cd hR rfl (fun h1 hR => ?_) fun h1 hR => ?_
  · refine AWP.sq ?_
    refine AWP.rgC 24 rfl rfl ?_
    refine pu (v := .sc _) rfl rfl (fun _ => rfl) ?_
    refine pu (v := .sc _) rfl rfl (fun _ => rfl) ?_
    refine pu (v := .sc _) rfl rfl (fun _ => rfl) ?_
    refine RunC.fin ?_
    refine AWP.rgC 28 rfl rfl ?_
    refine pu (v := .sc _) rfl rfl (fun _ => rfl) ?_
    refine RunC.fin ?_
    refine AWP.sq ?_
    refine AWP.sq ?_
    refine AWP.rgC 36 rfl rfl ?_
    refine pu (v := .sc _) rfl rfl (fun _ => rfl) ?_
    refine pu (v := .sc _) rfl rfl (fun _ => rfl) ?_
    refine RunC.fin ?_
    refine AWP.cd hR rfl (fun h2 hR => ?_) fun h2 hR => ?_
    · refine AWP.sq ?_
      refine AWP.rgC 48 rfl rfl ?_
      refine pu (v := .sc _) rfl rfl (fun _ => rfl) ?_
      refine pu (v := .sc _) rfl rfl (fun _ => rfl) ?_
      refine pu (v := .sc _) rfl rfl (fun _ => rfl) ?_
      refine RunC.fin ?_
      refine AWP.rgC 60 rfl rfl ?_
      refine pu (v := .sc _) rfl rfl (fun _ => rfl) ?_
      refine pu (v := .sc _) rfl rfl (fun _ => rfl) ?_
      refine pu (v := .sc _) rfl rfl (fun _ => rfl) ?_
      refine RunC.fin ?_
      refine AWP.sq ?_
      refine AWP.rgC 88 rfl rfl ?_
      refine pu (v := .sc _) rfl rfl (fun _ => rfl) ?_
      refine pu (v := .sc _) rfl rfl (fun _ => rfl) ?_
      refine cn rfl rfl ti101 rfl ti5 rfl rfl ?_
      obtain ⟨h3, hR⟩ := chkE hR
      refine ixT (s := tab1) rfl rfl rfl ti9 rfl h3 ?_
      refine cn rfl rfl ti5 rfl ti3 rfl rfl ?_
      obtain ⟨v4, ev4, hR⟩ := letE hR
      refine pu (v := .sc _) rfl rfl (fun _ => puI ev4) ?_
      refine pu (v := .sc _) rfl rfl (fun _ => rfl) ?_
      refine RunC.fin ?_
      refine AWP.ret ?_
      have hR := Option.some.inj hR; subst hR
      exact hQ _ _ (LS.mk [(2, .sc (.int .i64 v4))] (lblks 0 []) 0) (.sc (.int .i64 v4)) [] (.inr rfl) (Weak.turnL [] [] rfl rfl (tc (.sc _) tn) mn) (ro1 (rvT (v := .sc (.int .i64 v4)) rfl)) rfl rfl (.sc _) pn
    · refine AWP.skip ?_
      refine skT ?_
      refine AWP.sq ?_
      refine AWP.rgC 64 rfl rfl ?_
      refine pu (v := .sc _) rfl rfl (fun _ => rfl) ?_
      refine pu (v := .sc _) rfl rfl (fun _ => rfl) ?_
      refine cn rfl rfl ti101 rfl ti5 rfl rfl ?_
      obtain ⟨h5, hR⟩ := chkE hR
      refine ixT (s := tab1) rfl rfl rfl ti9 rfl h5 ?_
      refine cn rfl rfl ti5 rfl ti3 rfl rfl ?_
      obtain ⟨v6, ev6, hR⟩ := letE hR
      refine pu (v := .sc _) rfl rfl (fun _ => puI ev6) ?_
      refine pu (v := .sc _) rfl rfl (fun _ => rfl) ?_
      refine RunC.fin ?_
      refine AWP.ret ?_
      have hR := Option.some.inj hR; subst hR
      exact hQ _ _ (LS.mk [(2, .sc (.int .i64 v6))] (lblks 0 []) 0) (.sc (.int .i64 v6)) [] (.inr rfl) (Weak.turnL [] [] rfl rfl (tc (.sc _) tn) mn) (ro1 (rvT (v := .sc (.int .i64 v6)) rfl)) rfl rfl (.sc _) pn
  · refine AWP.skip ?_
    refine skT ?_
    refine AWP.sq ?_
    refine AWP.sq ?_
    refine AWP.rgC 20 rfl rfl ?_
    refine pu (v := .sc _) rfl rfl (fun _ => rfl) ?_
    refine pu (v := .sc _) rfl rfl (fun _ => rfl) ?_
    refine RunC.fin ?_
    refine AWP.cd hR rfl (fun h7 hR => ?_) fun h7 hR => ?_
    · refine AWP.sq ?_
      refine AWP.rgC 32 rfl rfl ?_
      refine pu (v := .sc _) rfl rfl (fun _ => rfl) ?_
      refine pu (v := .sc _) rfl rfl (fun _ => rfl) ?_
      refine pu (v := .sc _) rfl rfl (fun _ => rfl) ?_
      refine RunC.fin ?_
      refine AWP.rgC 44 rfl rfl ?_
      refine pu (v := .sc _) rfl rfl (fun _ => rfl) ?_
      refine pu (v := .sc _) rfl rfl (fun _ => rfl) ?_
      refine pu (v := .sc _) rfl rfl (fun _ => rfl) ?_
      refine RunC.fin ?_
      refine AWP.sq ?_
      refine AWP.rgC 72 rfl rfl ?_
      refine pu (v := .sc _) rfl rfl (fun _ => rfl) ?_
      refine pu (v := .sc _) rfl rfl (fun _ => rfl) ?_
      refine cn rfl rfl ti101 rfl ti5 rfl rfl ?_
      obtain ⟨h8, hR⟩ := chkE hR
      refine ixT (s := tab1) rfl rfl rfl ti9 rfl h8 ?_
      refine cn rfl rfl ti5 rfl ti3 rfl rfl ?_
      obtain ⟨v9, ev9, hR⟩ := letE hR
      refine pu (v := .sc _) rfl rfl (fun _ => puI ev9) ?_
      refine pu (v := .sc _) rfl rfl (fun _ => rfl) ?_
      refine RunC.fin ?_
      refine AWP.ret ?_
      have hR := Option.some.inj hR; subst hR
      exact hQ _ _ (LS.mk [(2, .sc (.int .i64 v9))] (lblks 0 []) 0) (.sc (.int .i64 v9)) [] (.inr rfl) (Weak.turnL [] [] rfl rfl (tc (.sc _) tn) mn) (ro1 (rvT (v := .sc (.int .i64 v9)) rfl)) rfl rfl (.sc _) pn
    · refine AWP.skip ?_
      refine skT ?_
      refine AWP.sq ?_
      refine AWP.rgC 48 rfl rfl ?_
      refine pu (v := .sc _) rfl rfl (fun _ => rfl) ?_
      refine pu (v := .sc _) rfl rfl (fun _ => rfl) ?_
      refine cn rfl rfl ti101 rfl ti5 rfl rfl ?_
      obtain ⟨h10, hR⟩ := chkE hR
      refine ixT (s := tab1) rfl rfl rfl ti9 rfl h10 ?_
      refine cn rfl rfl ti5 rfl ti3 rfl rfl ?_
      refine pu (v := .sc _) rfl rfl (fun _ => rfl) ?_
      refine pu (v := .sc _) rfl rfl (fun _ => rfl) ?_
      refine RunC.fin ?_
      refine AWP.ret ?_
      have hR := Option.some.inj hR; subst hR
      exact hQ _ _ (LS.mk [(2, .sc (.int .i64 (w6 (0 + (w6 (tabAt tab1 (IntKind.wrap .u8 x)))))))] (lblks 0 []) 0) (.sc (.int .i64 (w6 (0 + (w6 (tabAt tab1 (IntKind.wrap .u8 x))))))) [] (.inr rfl) (Weak.turnL [] [] rfl rfl (tc (.sc _) tn) mn) (ro1 (rvT (v := .sc (.int .i64 (w6 (0 + (w6 (tabAt tab1 (IntKind.wrap .u8 x))))))) rfl)) rfl rfl (.sc _) pn
section
open Go.RowKit Go.Maps
theorem su3y33 : Try.prog.underlying 3 = some (.int .i64) := by kernel_rfl
theorem su4y33 : Try.prog.underlying 4 = some .bool := by kernel_rfl
theorem su97y33 : Try.prog.underlying 109 = some (.map 3 4) := by kernel_rfl
theorem zero4y33 (w : World) : (zeroValue 4).run Try.prog w = .ok (.bool false) w := by kernel_rfl
theorem lawy33 : Keyed Try.prog 3 := int_keyed su3y33
theorem cel12y33 {w : World} {B : Nat} {t : TypeId} {a b c d e f g h i j k l : Value} (hh : w.heap[B]? = some (.cells #[a, b, c, d, e, f, g, h, i, j, k, l] t (0, 0))) : w.cell? ⟨B, 0, none⟩ = some a ∧ w.cell? ⟨B, 2, none⟩ = some c ∧ w.cell? ⟨B, 3, none⟩ = some d ∧ w.cell? ⟨B, 4, none⟩ = some e ∧ w.cell? ⟨B, 5, none⟩ = some f ∧ w.cell? ⟨B, 6, none⟩ = some g ∧ w.cell? ⟨B, 7, none⟩ = some h ∧ w.cell? ⟨B, 8, none⟩ = some i ∧ w.cell? ⟨B, 9, none⟩ = some j ∧ w.cell? ⟨B, 10, none⟩ = some k ∧ w.cell? ⟨B, 11, none⟩ = some l :=
  ⟨(cel_get hh 0 rfl).1, (cel_get hh 2 rfl).1, (cel_get hh 3 rfl).1, (cel_get hh 4 rfl).1, (cel_get hh 5 rfl).1, (cel_get hh 6 rfl).1, (cel_get hh 7 rfl).1, (cel_get hh 8 rfl).1, (cel_get hh 9 rfl).1, (cel_get hh 10 rfl).1, (cel_get hh 11 rfl).1⟩
theorem cel9y33 {w : World} {B : Nat} {t : TypeId} {a b c d e f g h i : Value} (hh : w.heap[B]? = some (.cells #[a, b, c, d, e, f, g, h, i] t (0, 0))) : w.cell? ⟨B, 0, none⟩ = some a ∧ w.cell? ⟨B, 1, none⟩ = some b ∧ w.cell? ⟨B, 2, none⟩ = some c ∧ w.cell? ⟨B, 3, none⟩ = some d ∧ w.cell? ⟨B, 4, none⟩ = some e ∧ w.cell? ⟨B, 5, none⟩ = some f ∧ w.cell? ⟨B, 6, none⟩ = some g ∧ w.cell? ⟨B, 7, none⟩ = some h ∧ w.cell? ⟨B, 8, none⟩ = some i :=
  ⟨(cel_get hh 0 rfl).1, (cel_get hh 1 rfl).1, (cel_get hh 2 rfl).1, (cel_get hh 3 rfl).1, (cel_get hh 4 rfl).1, (cel_get hh 5 rfl).1, (cel_get hh 6 rfl).1, (cel_get hh 7 rfl).1, (cel_get hh 8 rfl).1⟩
theorem elem4y33 {v : Value} {ps : List MemPlace} (h : plainElem (H := Unit) Try.prog 4 v = some (.lit (.bool false), ps)) : v = .bool false := by
  unfold plainElem at h
  rw [su4y33] at h
  cases v <;> simp at h
  rw [h.1]
theorem heady33 (w : World) (B : Nat) (id rate : Int) (hown : w.ownsMap Try.prog 3 (plainElem (H := Unit) Try.prog 4) B 0 (.map [])) (h1 : 1 ≤ id) (h2 : id ≤ 1073741824) (h3 : 0 ≤ rate) (h4 : rate ≤ 1048576) :
    Calls Try.prog 49 #[.int .i64 id, .int .i64 rate, .map (some B)] w fun e w' => e = .returned (.int .i64 0) ∧ w.grownBy w' (some B) := by
  have hkey : keyOf Try.prog 3 (.int .i64 id) = some (.int .i64 id) := keyOf_int_mk su3y33 (WalkArith.wf_i64 (by omega))
  obtain ⟨v, ps, hrun, hv⟩ := hown.lookup lawy33 su97y33 (zero4y33 w) (plainElem_bool su4y33 false) hkey
  obtain rfl : v = .bool false := elem4y33 hv
  have n1 : ¬ id < 1 := by omega
  have n2 : ¬ 1073741824 < id := by omega
  have n3 : ¬ rate < 0 := by omega
  have n4 : ¬ 1048576 < rate := by omega
  go_enter Try.func49, Try.ntmps49
  go_wp2_with (first | (at_mapUpdate; refine wpList_mapUpdate_own _ rfl _ _ _ 109 rfl 3 4 lawy33 su97y33 _ B 0 _ rfl hown (by unfold maxLen; omega) _ _ _ rfl rfl hkey _ [] (plainElem_bool su4y33 true) ?_; intro w1 hown1 hgrow1) | go_in)
  go_ret
  exact ⟨rfl, hgrow1⟩
theorem rowBelowy33 {w w' : World} {a : Option Addr} {len cap : Nat} {zs : List Int} (h : IntRow w a len cap zs) (hb : Below w.heap.size w w') : IntRow w' a len cap zs := by
  obtain ⟨h1, h2, h3⟩ := h
  refine ⟨h1, h2, h3.imp id fun ⟨B, o, e, k⟩ => ⟨B, o, e, fun i hi => ?_⟩⟩
  have := k i hi
  exact (hb.cell (p := ⟨B, o + i, none⟩) (World.block_lt_of_cell? w ⟨B, o + i, none⟩ this)).trans this
theorem starRLy33 (x : Star) {w : World} {wa : Option Addr} {wn wc : Nat} (hw : IntRow w wa wn wc x.Wave) : RLs (topE w) [aggV false x] [.agg #[.int .i64 x.ID, .int .i64 x.At.X, .int .i64 x.At.Y, .int .i64 x.At.Z, .int .i64 x.Rate, .slice wa wn wc, .int .i64 x.Period, .int .i64 x.From, .int .i64 x.To]] := by
  refine rls_cons ?_ rls_nil
  unfold aggV
  simp only [RL]
  exact ⟨[.int .i64 x.ID, .int .i64 x.At.X, .int .i64 x.At.Y, .int .i64 x.At.Z, .int .i64 x.Rate, .slice wa wn wc, .int .i64 x.Period, .int .i64 x.From, .int .i64 x.To], rfl, rls_cons rl_sc (rls_cons rl_sc (rls_cons rl_sc (rls_cons rl_sc (rls_cons rl_sc (rls_cons hw.rl (rls_cons rl_sc (rls_cons rl_sc (rls_cons rl_sc rls_nil)))))))), Cl.leaf false x⟩
theorem stary33 (x : Star) (r : Int) (hr : sky_star x = some r) {w : World} {wa : Option Addr} {wn wc : Nat} (hw : IntRow w wa wn wc x.Wave) :
    Calls Try.prog 50 #[.agg #[.int .i64 x.ID, .int .i64 x.At.X, .int .i64 x.At.Y, .int .i64 x.At.Z, .int .i64 x.Rate, .slice wa wn wc, .int .i64 x.Period, .int .i64 x.From, .int .i64 x.To]] w fun e w' => e = .returned (.int .i64 r) ∧ Below w.heap.size w w' := by
  refine (fnP_out (ok50 x r hr) (starRLy33 x hw)).mono ?_
  rintro e w' ⟨c, E', rfl, h1, h2⟩
  simp only [RL] at h1
  subst h1
  exact ⟨rfl, h2⟩
theorem movesy33 (w : World) : Calls Try.prog 52 #[.agg #[.int .i64 0, .int .i64 0, .int .i64 0, .int .i64 0, .int .i64 0, .int .i64 0, .int .i64 0, .int .i64 0]] w fun e w' => e = .returned (.bool true) ∧ Below w.heap.size w w' := by
  refine (fnP_out (ok52 ⟨0, ⟨0, 0, 0⟩, ⟨0, 0, 0⟩, 0⟩ true (by kernel_rfl)) (cargs := [.agg #[.int .i64 0, .int .i64 0, .int .i64 0, .int .i64 0, .int .i64 0, .int .i64 0, .int .i64 0, .int .i64 0]]) (rls_cons ?_ rls_nil)).mono ?_
  · unfold aggV
    simp only [RL]
    exact ⟨[.int .i64 0, .int .i64 0, .int .i64 0, .int .i64 0, .int .i64 0, .int .i64 0, .int .i64 0, .int .i64 0], rfl, rls_cons rl_sc (rls_cons rl_sc (rls_cons rl_sc (rls_cons rl_sc (rls_cons rl_sc (rls_cons rl_sc (rls_cons rl_sc (rls_cons rl_sc rls_nil))))))), Cl.leaf false _⟩
  · rintro e w' ⟨c, E', rfl, h1, h2⟩
    simp only [RL] at h1
    subst h1
    exact ⟨rfl, h2⟩
theorem cellsy33 (x : Star) (r : Int) (hr : sky_star x = some r) (w : World) (Bs o cap : Nat) (wa : Option Addr) (wn wc : Nat) (hcap : 1 ≤ cap) (hw : IntRow w wa wn wc x.Wave)
    (c0 : w.cell? ⟨Bs, o, none⟩ = some (.int .i64 x.ID)) (c1 : w.cell? ⟨Bs, o + 1, none⟩ = some (.int .i64 x.At.X)) (c2 : w.cell? ⟨Bs, o + 2, none⟩ = some (.int .i64 x.At.Y)) (c3 : w.cell? ⟨Bs, o + 3, none⟩ = some (.int .i64 x.At.Z)) (c4 : w.cell? ⟨Bs, o + 4, none⟩ = some (.int .i64 x.Rate))
    (c5 : w.cell? ⟨Bs, o + 5, none⟩ = some (.slice wa wn wc)) (c6 : w.cell? ⟨Bs, o + 6, none⟩ = some (.int .i64 x.Period)) (c7 : w.cell? ⟨Bs, o + 7, none⟩ = some (.int .i64 x.From)) (c8 : w.cell? ⟨Bs, o + 8, none⟩ = some (.int .i64 x.To))
    (ga ba : Option Addr) (gc bc : Nat) (h1 : 1 ≤ x.ID) (h2 : x.ID ≤ 1073741824) (h3 : 0 ≤ x.Rate) (h4 : x.Rate ≤ 1048576) :
    Calls Try.prog 33 #[.agg #[.int .i64 0, .slice (some ⟨Bs, o, none⟩) 1 cap, .slice ga 0 gc, .slice ba 0 bc, .int .i64 0, .int .i64 0, .int .i64 0, .int .i64 0, .int .i64 0, .int .i64 0, .int .i64 0, .int .i64 0]] w fun e w' => e = .returned (.int .i64 r) ∧ Below w.heap.size w w' := by
  have hmm := @run_makeMap Try.prog
  have hlt : Bs < w.heap.size := World.block_lt_of_cell? w ⟨Bs, o, none⟩ c0
  obtain ⟨w1, hw1⟩ : ∃ w1, w1 = w.alloc (.cells #[.int .i64 0, .slice (some ⟨Bs, o, none⟩) 1 cap, .slice ga 0 gc, .slice ba 0 bc, .int .i64 0, .int .i64 0, .int .i64 0, .int .i64 0, .int .i64 0, .int .i64 0, .int .i64 0, .int .i64 0] 55) := ⟨_, rfl⟩
  have sz1 : w1.heap.size = w.heap.size + 1 := by rw [hw1]; simp
  have hown := World.ownsMap_made w1 Try.prog 3 (plainElem (H := Unit) Try.prog 4)
  have bl1 : w1.heap[w.heap.size]? = some (.cells #[.int .i64 0, .slice (some ⟨Bs, o, none⟩) 1 cap, .slice ga 0 gc, .slice ba 0 bc, .int .i64 0, .int .i64 0, .int .i64 0, .int .i64 0, .int .i64 0, .int .i64 0, .int .i64 0, .int .i64 0] 55 (0, 0)) := by rw [hw1]; exact World.alloc_heap_new w _
  have be1 : Below w.heap.size w w1 := by rw [hw1]; exact (Below.refl _ w).alloc (Nat.le_refl _) _
  obtain ⟨w2, hw2⟩ : ∃ w2, w2 = w1.alloc (.map #[] 0) := ⟨_, rfl⟩
  have sz2 : w2.heap.size = w.heap.size + 2 := by rw [hw2]; simp [sz1]
  rw [← hw2, sz1] at hown
  have bl2 : w2.heap[w.heap.size]? = some (.cells #[.int .i64 0, .slice (some ⟨Bs, o, none⟩) 1 cap, .slice ga 0 gc, .slice ba 0 bc, .int .i64 0, .int .i64 0, .int .i64 0, .int .i64 0, .int .i64 0, .int .i64 0, .int .i64 0, .int .i64 0] 55 (0, 0)) := by rw [hw2]; exact blk_alloc bl1 _
  have be2 : Below w.heap.size w w2 := by rw [hw2]; exact be1.alloc (by omega) _
  have HW1 := Lib.hid hw1
  have HW2 := Lib.hid hw2
  have HO := Lib.hid hown
  have HB1 := Lib.hid bl1
  have HB2 := Lib.hid bl2
  have HE2 := Lib.hid be2
  clear hw1 hw2 hown bl1 be1 bl2 be2
  go_enter Try.func33, Try.ntmps33
  go_wp2
  rw [← HW1.out, ← HW2.out]
  go_loopw [35] (fun i wr => ∃ k : Nat, k ≤ 1 ∧ i = .int .i64 k ∧ (k = 0 → wr = w2) ∧ (k = 1 → r = 0) ∧ Below w.heap.size w wr ∧ wr.heap[w.heap.size]? = some (.cells #[.int .i64 0, .slice (some ⟨Bs, o, none⟩) 1 cap, .slice ga 0 gc, .slice ba 0 bc, .int .i64 0, .int .i64 0, .int .i64 0, .int .i64 0, .int .i64 0, .int .i64 0, .int .i64 0, .int .i64 0] 55 (0, 0))) (fun i _ => 1 - (intOf i).toNat)
  case atStart => exact ⟨0, by omega, rfl, fun _ => rfl, fun e => absurd e (by decide), HE2.out, HB2.out⟩
  case round =>
    obtain ⟨k, hk, rfl, hz, ho, hb, hc⟩ := hrel
    by_cases hk0 : k = 0
    · subst hk0
      obtain rfl := hz rfl
      clear hz ho hb hc hk
      replace c0 := (HE2.out.cell (p := ⟨Bs, o, none⟩) hlt).trans c0
      replace c1 := (HE2.out.cell (p := ⟨Bs, o + 1, none⟩) hlt).trans c1
      replace c2 := (HE2.out.cell (p := ⟨Bs, o + 2, none⟩) hlt).trans c2
      replace c3 := (HE2.out.cell (p := ⟨Bs, o + 3, none⟩) hlt).trans c3
      replace c4 := (HE2.out.cell (p := ⟨Bs, o + 4, none⟩) hlt).trans c4
      replace c5 := (HE2.out.cell (p := ⟨Bs, o + 5, none⟩) hlt).trans c5
      replace c6 := (HE2.out.cell (p := ⟨Bs, o + 6, none⟩) hlt).trans c6
      replace c7 := (HE2.out.cell (p := ⟨Bs, o + 7, none⟩) hlt).trans c7
      replace c8 := (HE2.out.cell (p := ⟨Bs, o + 8, none⟩) hlt).trans c8
      obtain ⟨w3, hw3⟩ : ∃ w3, w3 = wr.alloc (.cells #[.int .i64 x.ID, .int .i64 x.At.X, .int .i64 x.At.Y, .int .i64 x.At.Z, .int .i64 x.Rate, .slice wa wn wc, .int .i64 x.Period, .int .i64 x.From, .int .i64 x.To] 32) := ⟨_, rfl⟩
      have sz3 : w3.heap.size = w.heap.size + 3 := by rw [hw3]; simp [sz2]
      have HH := heady33 w3 (w.heap.size + 1) x.ID x.Rate (by rw [hw3]; exact HO.out.alloc _) h1 h2 h3 h4
      have b3 : w3.heap[w.heap.size + 2]? = some (.cells #[.int .i64 x.ID, .int .i64 x.At.X, .int .i64 x.At.Y, .int .i64 x.At.Z, .int .i64 x.Rate, .slice wa wn wc, .int .i64 x.Period, .int .i64 x.From, .int .i64 x.To] 32 (0, 0)) := by
        have := World.alloc_heap_new wr (.cells #[.int .i64 x.ID, .int .i64 x.At.X, .int .i64 x.At.Y, .int .i64 x.At.Z, .int .i64 x.Rate, .slice wa wn wc, .int .i64 x.Period, .int .i64 x.From, .int .i64 x.To] 32)
        rw [← hw3, sz2] at this; exact this
      have s3 : w3.heap[w.heap.size]? = some (.cells #[.int .i64 0, .slice (some ⟨Bs, o, none⟩) 1 cap, .slice ga 0 gc, .slice ba 0 bc, .int .i64 0, .int .i64 0, .int .i64 0, .int .i64 0, .int .i64 0, .int .i64 0, .int .i64 0, .int .i64 0] 55 (0, 0)) := by rw [hw3]; exact blk_alloc HB2.out _
      have e3 : Below w.heap.size w w3 := by rw [hw3]; exact HE2.out.alloc (by omega) _
      have HW3 := Lib.hid hw3
      have HT3 := Lib.hid b3
      have HS3 := Lib.hid s3
      have HE3 := Lib.hid e3
      have HR := Lib.hid hw
      clear hw3 b3 s3 e3 hw
      by_cases hr0 : r = 0
      · subst hr0
        go_wp2_with (first | (go_at_call 49; rw [← HW3.out]; refine HH.mono ?_; rintro e w4 ⟨rfl, hg⟩; obtain ⟨d0, d1, d2, d3, d4, d5, d6, d7, d8⟩ := cel9y33 ((hg.block _ (by omega) (by simp)).trans HT3.out); have HG := Lib.hid hg; clear hg) | (go_at_call 50; refine (stary33 x 0 hr (wa := wa) (wn := wn) (wc := wc) (rowBelowy33 HR.out (HE3.out.grown HG.out HE3.out.size (fun j hj => by cases hj; omega)))).mono ?_; rintro e w5 ⟨rfl, hb5⟩; have HB5 := Lib.hid hb5; clear hb5))
        have be4 := HE3.out.grown HG.out HE3.out.size (fun j hj => by cases hj; omega)
        exact ⟨⟨1, by omega, rfl, fun e => absurd e (by decide), fun _ => trivial, be4.trans (HB5.out.mono be4.size), blk_below ((HG.out.block _ (by omega) (by simp)).trans HS3.out) HB5.out⟩, by simp [intOf]⟩
      · go_wp2_with (first | (go_at_call 49; rw [← HW3.out]; refine HH.mono ?_; rintro e w4 ⟨rfl, hg⟩; obtain ⟨d0, d1, d2, d3, d4, d5, d6, d7, d8⟩ := cel9y33 ((hg.block _ (by omega) (by simp)).trans HT3.out); have HG := Lib.hid hg; clear hg) | (go_at_call 50; refine (stary33 x r hr (wa := wa) (wn := wn) (wc := wc) (rowBelowy33 HR.out (HE3.out.grown HG.out HE3.out.size (fun j hj => by cases hj; omega)))).mono ?_; rintro e w5 ⟨rfl, hb5⟩; have HB5 := Lib.hid hb5; clear hb5))
        go_ret
        have be4 := HE3.out.grown HG.out HE3.out.size (fun j hj => by cases hj; omega)
        exact ⟨rfl, be4.trans (HB5.out.mono be4.size)⟩
    · obtain rfl : k = 1 := by omega
      have hr0 := ho rfl
      subst hr0
      obtain ⟨d0, d2, d3, d4, d5, d6, d7, d8, d9, d10, d11⟩ := cel12y33 hc
      have HC := Lib.hid hc
      have HBB := Lib.hid hb
      clear hz ho hc hb hk
      go_wp2
      go_loopw [56] (fun i wr' => i = .int .i64 0 ∧ wr' = wr) (fun _ _ => 0)
      case atStart => exact ⟨rfl, rfl⟩
      case round =>
        obtain ⟨rfl, rfl⟩ := hrel
        go_wp2
        go_loopw [77] (fun i wr' => i = .int .i64 0 ∧ wr' = wr) (fun _ _ => 0)
        case atStart => exact ⟨rfl, rfl⟩
        case round =>
          obtain ⟨rfl, rfl⟩ := hrel
          go_wp2_with (go_at_call 52; refine (movesy33 _).mono ?_; rintro e w5 ⟨rfl, hb5⟩)
          go_ret
          exact ⟨rfl, HBB.out.trans (hb5.mono HBB.out.size)⟩
theorem rfcelly33 {E : Env} {W : World} (hf : ∀ B o d, E.F B o = some d → W.cell? ⟨B, o, none⟩ = some d) {B o : Nat} {v : Value} {vs : List V} (h : RF E B o (.sc v :: vs)) : W.cell? ⟨B, o, none⟩ = some v ∧ RF E B (o + 1) vs := by
  simp only [RF] at h
  obtain ⟨⟨d, h1, h2⟩, h3⟩ := h
  simp only [RL] at h2
  subst h2
  exact ⟨hf _ _ _ h1, h3⟩
theorem rfrowy33 {E : Env} {W : World} (hf : ∀ B o d, E.F B o = some d → W.cell? ⟨B, o, none⟩ = some d) {B : Nat} : ∀ {o : Nat} {zs : List Int}, RF E B o (zs.flatMap (Cl.c false)) → ∀ i, i < zs.length → W.cell? ⟨B, o + i, none⟩ = some (.int .i64 (zs.getD i 0))
  | o, [], h, i, hi => absurd hi (by simp)
  | o, z :: zs, h, i, hi => by
    have h : RF E B o (V.sc (.int .i64 z) :: zs.flatMap (Cl.c false)) := h
    obtain ⟨h1, h2⟩ := rfcelly33 hf h
    cases i with
    | zero => exact h1
    | succ i =>
      have := rfrowy33 hf h2 i (by simpa using hi)
      rw [show o + (i + 1) = o + 1 + i by omega]
      simpa using this
theorem ok33 (s : Sky) (r : Int) (hR : sky_Check s = some r) : FnP Try.prog 33 [aggV false s] (.sc (.int .i64 r)) := by
  unfold sky_Check at hR
  split at hR
  · rename_i back x home
    split at hR
    · rename_i h
      obtain ⟨rfl, rfl, h1, h2, h3, h4⟩ := h
      refine fnP_in fun E W cargs hf ha => ?_
      have ec : aggV false (Sky.mk 0 [x] [] [] (Body.mk 0 (Vec.mk 0 0 0) (Vec.mk 0 0 0) 0)) = .agg [.sc (.int .i64 0), .lst false 9 1 [.sc (.int .i64 x.ID), .sc (.int .i64 x.At.X), .sc (.int .i64 x.At.Y), .sc (.int .i64 x.At.Z), .sc (.int .i64 x.Rate), .lst false 1 x.Wave.length (x.Wave.flatMap (Cl.c false)), .sc (.int .i64 x.Period), .sc (.int .i64 x.From), .sc (.int .i64 x.To)], .lst false 7 0 [], .lst false 8 0 [], .sc (.int .i64 0), .sc (.int .i64 0), .sc (.int .i64 0), .sc (.int .i64 0), .sc (.int .i64 0), .sc (.int .i64 0), .sc (.int .i64 0), .sc (.int .i64 0)] := rfl
      rw [ec] at ha
      simp only [RLs, RL] at ha
      obtain ⟨_, _, rfl, ⟨_, rfl, ⟨_, _, rfl, rfl, _, _, rfl, ⟨a, cap, rfl, q1, _, _, q2⟩, _, _, rfl, ⟨ga, gc, rfl, _⟩, _, _, rfl, ⟨ba, bc, rfl, _⟩, _, _, rfl, rfl, _, _, rfl, rfl, _, _, rfl, rfl, _, _, rfl, rfl, _, _, rfl, rfl, _, _, rfl, rfl, _, _, rfl, rfl, _, _, rfl, rfl, rfl⟩, _⟩, rfl⟩ := ha
      rcases q2 with q2 | ⟨Bs, o, rfl, _, q2⟩
      · cases q2
      obtain ⟨c0, q2⟩ := rfcelly33 hf q2
      obtain ⟨c1, q2⟩ := rfcelly33 hf q2
      obtain ⟨c2, q2⟩ := rfcelly33 hf q2
      obtain ⟨c3, q2⟩ := rfcelly33 hf q2
      obtain ⟨c4, q2⟩ := rfcelly33 hf q2
      simp only [RF] at q2
      obtain ⟨⟨d, d1, d2⟩, q2⟩ := q2
      simp only [RL] at d2
      obtain ⟨wa, wc, rfl, w1, w2, _, w3⟩ := d2
      have c5 := hf _ _ _ d1
      obtain ⟨⟨e6, f6, g6⟩, ⟨e7, f7, g7⟩, ⟨e8, f8, g8⟩, _⟩ := q2
      subst g6 g7 g8
      have hw : IntRow W wa x.Wave.length wc x.Wave := ⟨w1, rfl, w3.imp id fun ⟨B, o, e, _, k⟩ => ⟨B, o, e, rfrowy33 hf k⟩⟩
      refine (cellsy33 x r hR W Bs o cap wa x.Wave.length wc q1 hw c0 c1 c2 c3 c4 c5 (hf _ _ _ f6) (hf _ _ _ f7) (hf _ _ _ f8) ga ba gc bc h1 h2 h3 h4).mono ?_
      rintro e w' ⟨rfl, h⟩
      exact ⟨_, rfl, by simp only [RL], h⟩
    · cases hR
  · cases hR
end

theorem ok32 (a : Bound) (b : Bound) (r : Bound × Bool) (hR : bound_Meet a b = some r) : FnP Try.prog 32 [aggV false a, aggV false b] (.tup [aggV (α := Bound) true r.1, .sc (.bool r.2)]) := by
  refine fnP_of (FnX.walk Try.func32 rfl 42 0 (by simp [Try.ntmps32]) rfl fun W S F Q hQ => ?_)
  unfold bound_Meet at hR
  refine AWP.sq ?_
  refine AWP.rgC 16 rfl rfl ?_
  refine bx (cs := _) 0 rfl rfl rfl ?_
  refine bx (cs := _) 4 rfl rfl rfl ?_
  refine al (cs := [.sc (.int .i64 0), .sc (.int .i64 0), .sc (.bool false)]) 8 rfl rfl ti59 rfl rfl ?_
  refine pu (v := .sc _) rfl rfl (fun _ => rfl) ?_
  refine RunC.fin ?_
  refine AWP.sq ?_
  refine AWP.rgD 40 [0, 1, 0, 7, 15, 31] ⟨[], [some [0], none, some [4], none, some [0], some [4]]⟩ hmix (by kernel_rfl) rfl rfl ?_
  refine ldB (v := .agg _) rfl rfl rfl rfl ti59 rfl rfl ?_
  obtain ⟨r1, hr1, hR⟩ := bindE hR
  refine cls [] rfl rfl cb47 (ok47 a _ hr1) (.cons (.agg (.cons (.sc _) (.cons (.sc _) (.cons (.sc _) (.nil)))) rfl) (.nil)) (.inr rfl) rfl ?_
  refine ldB (v := .agg _) rfl rfl rfl rfl ti59 rfl rfl ?_
  obtain ⟨r2, hr2, hR⟩ := bindE hR
  refine cls [] rfl rfl cb47 (ok47 b _ hr2) (.cons (.agg (.cons (.sc _) (.cons (.sc _) (.cons (.sc _) (.nil)))) rfl) (.nil)) (.inr rfl) rfl ?_
  refine stB (cs' := [.sc (.int .i64 r1.Lo), .sc (.int .i64 r1.Hi), .sc (.bool r1.Unknown)]) rfl rfl rfl rfl ti59 rfl rfl rfl rfl rfl ?_
  refine stB (cs' := [.sc (.int .i64 r2.Lo), .sc (.int .i64 r2.Hi), .sc (.bool r2.Unknown)]) rfl rfl rfl rfl ti59 rfl rfl rfl rfl rfl ?_
  refine RunC.fin ?_
  refine AWP.sq ?_
  refine AWP.block ?_
  refine AWP.sq ?_
  refine AWP.rgC 52 rfl rfl ?_
  refine fa rfl rfl ti59 rfl rfl ti4 rfl ?_
  refine ldB (v := .sc _) rfl rfl rfl rfl ti4 rfl rfl ?_
  refine pu (v := .sc _) rfl rfl (fun _ => rfl) ?_
  refine RunC.fin ?_
  refine AWP.cd hR rfl (fun h3 hR => ?_) fun h3 hR => ?_
  · refine AWP.sq ?_
    refine AWP.rgC 64 rfl rfl ?_
    refine ldB (v := .agg _) rfl rfl rfl rfl ti59 rfl rfl ?_
    refine stB (cs' := [.sc (.int .i64 r2.Lo), .sc (.int .i64 r2.Hi), .sc (.bool r2.Unknown)]) rfl rfl rfl rfl ti59 rfl rfl rfl rfl rfl ?_
    refine pu (v := .sc _) rfl rfl (fun _ => rfl) ?_
    refine RunC.fin ?_
    refine AWP.ret ?_
    refine rtB ?_
    refine rtT ?_
    have hR := Option.some.inj hR; subst hR
    exact hQ _ _ (LS.mk [(4, .ptr 0 0 0), (5, .sc (.bool true))] (lblks 0 [boxB (α := Bound) true r2]) 1) (.tup [aggV (α := Bound) true r2, .sc (.bool true)]) [] (.inr rfl) (Weak.turnL [(8, 0)] [] rfl rfl (tc (trP' rfl rfl rfl rfl) (tc (.sc _) tn)) (mc rfl (.box rfl (.cons (.sc _) (.cons (.sc _) (.cons (.sc _) (.nil)))) rfl) mn)) (ro2 (rvC (v := aggV (α := Bound) true r2) rfl rfl ti59 rfl) (rvT (v := .sc (.bool true)) rfl)) rfl rfl (.tup (.cons ldA (.cons (.sc _) .nil))) pn
  · refine AWP.sq ?_
    refine AWP.rgC 64 rfl rfl ?_
    refine fa rfl rfl ti59 rfl rfl ti4 rfl ?_
    refine ldB (v := .sc _) rfl rfl rfl rfl ti4 rfl rfl ?_
    refine pu (v := .sc _) rfl rfl (fun _ => rfl) ?_
    refine RunC.fin ?_
    refine AWP.cd hR rfl (fun h4 hR => ?_) fun h4 hR => ?_
    · refine AWP.sq ?_
      refine AWP.rgC 76 rfl rfl ?_
      refine ldB (v := .agg _) rfl rfl rfl rfl ti59 rfl rfl ?_
      refine stB (cs' := [.sc (.int .i64 r1.Lo), .sc (.int .i64 r1.Hi), .sc (.bool r1.Unknown)]) rfl rfl rfl rfl ti59 rfl rfl rfl rfl rfl ?_
      refine pu (v := .sc _) rfl rfl (fun _ => rfl) ?_
      refine RunC.fin ?_
      refine AWP.ret ?_
      refine rtB ?_
      refine rtT ?_
      have hR := Option.some.inj hR; subst hR
      exact hQ _ _ (LS.mk [(4, .ptr 0 0 0), (5, .sc (.bool true))] (lblks 0 [boxB (α := Bound) true r1]) 1) (.tup [aggV (α := Bound) true r1, .sc (.bool true)]) [] (.inr rfl) (Weak.turnL [(8, 0)] [] rfl rfl (tc (trP' rfl rfl rfl rfl) (tc (.sc _) tn)) (mc rfl (.box rfl (.cons (.sc _) (.cons (.sc _) (.cons (.sc _) (.nil)))) rfl) mn)) (ro2 (rvC (v := aggV (α := Bound) true r1) rfl rfl ti59 rfl) (rvT (v := .sc (.bool true)) rfl)) rfl rfl (.tup (.cons ldA (.cons (.sc _) .nil))) pn
    · refine AWP.sq ?_
      refine AWP.rgC 112 rfl rfl ?_
      refine fa rfl rfl ti59 rfl rfl ti28 rfl ?_
      refine ldB (v := .sc _) rfl rfl rfl rfl ti28 rfl rfl ?_
      refine fa rfl rfl ti59 rfl rfl ti28 rfl ?_
      refine ldB (v := .sc _) rfl rfl rfl rfl ti28 rfl rfl ?_
      refine pu (v := .sc _) rfl rfl (fun _ => rfl) ?_
      refine fa rfl rfl ti59 rfl rfl ti28 rfl ?_
      refine ldB (v := .sc _) rfl rfl rfl rfl ti28 rfl rfl ?_
      refine fa rfl rfl ti59 rfl rfl ti28 rfl ?_
      refine ldB (v := .sc _) rfl rfl rfl rfl ti28 rfl rfl ?_
      refine pu (v := .sc _) rfl rfl (fun _ => rfl) ?_
      refine pu (v := .sc _) rfl rfl (fun _ => rfl) ?_
      refine pu (v := .sc _) rfl rfl (fun _ => rfl) ?_
      refine RunC.fin ?_
      refine AWP.cd hR rfl (fun h5 hR => ?_) fun h5 hR => ?_
      · refine AWP.sq ?_
        refine AWP.rgC 124 rfl rfl ?_
        refine bu (cs := [.sc (.int .i64 0), .sc (.int .i64 0), .sc (.bool false)]) rfl bt59 rfl ?_
        refine stB (cs' := [.sc (.int .i64 0), .sc (.int .i64 0), .sc (.bool false)]) rfl rfl rfl rfl ti59 rfl rfl rfl rfl rfl ?_
        refine pu (v := .sc _) rfl rfl (fun _ => rfl) ?_
        refine RunC.fin ?_
        refine AWP.ret ?_
        refine rtB ?_
        refine rtT ?_
        have hR := Option.some.inj hR; subst hR
        exact hQ _ _ (LS.mk [(4, .ptr 0 0 0), (5, .sc (.bool false))] (lblks 0 [boxB (α := Bound) true (Bound.mk 0 0 false)]) 1) (.tup [aggV (α := Bound) true (Bound.mk 0 0 false), .sc (.bool false)]) [] (.inr rfl) (Weak.turnL [(8, 0)] [] rfl rfl (tc (trP' rfl rfl rfl rfl) (tc (.sc _) tn)) (mc rfl (.box rfl (.cons (.sc _) (.cons (.sc _) (.cons (.sc _) (.nil)))) rfl) mn)) (ro2 (rvC (v := aggV (α := Bound) true (Bound.mk 0 0 false)) rfl rfl ti59 rfl) (rvT (v := .sc (.bool false)) rfl)) rfl rfl (.tup (.cons ldA (.cons (.sc _) .nil))) pn
      · refine AWP.skip ?_
        refine skB ?_
        refine skT ?_
        refine AWP.sq ?_
        refine AWP.rgC 164 rfl rfl ?_
        refine fa rfl rfl ti59 rfl rfl ti28 rfl ?_
        refine ldB (v := .sc _) rfl rfl rfl rfl ti28 rfl rfl ?_
        refine fa rfl rfl ti59 rfl rfl ti28 rfl ?_
        refine ldB (v := .sc _) rfl rfl rfl rfl ti28 rfl rfl ?_
        refine pu (v := .sc _) rfl rfl (fun _ => rfl) ?_
        refine fa rfl rfl ti59 rfl rfl ti28 rfl ?_
        refine ldB (v := .sc _) rfl rfl rfl rfl ti28 rfl rfl ?_
        refine fa rfl rfl ti59 rfl rfl ti28 rfl ?_
        refine ldB (v := .sc _) rfl rfl rfl rfl ti28 rfl rfl ?_
        refine pu (v := .sc _) rfl rfl (fun _ => rfl) ?_
        obtain ⟨r6, hr6, hR⟩ := bindE hR
        refine cls [] rfl rfl cb48 (ok48 (mx2 r1.Lo r2.Lo) (mn2 r1.Hi r2.Hi) _ hr6) (.cons (.sc _) (.cons (.sc _) (.nil))) (.inr rfl) rfl ?_
        refine stB (cs' := [.sc (.int .i64 r6.Lo), .sc (.int .i64 r6.Hi), .sc (.bool r6.Unknown)]) rfl rfl rfl rfl ti59 rfl rfl rfl rfl rfl ?_
        refine pu (v := .sc _) rfl rfl (fun _ => rfl) ?_
        refine RunC.fin ?_
        refine AWP.ret ?_
        have hR := Option.some.inj hR; subst hR
        exact hQ _ _ (LS.mk [(4, .ptr 0 0 0), (5, .sc (.bool true))] (lblks 0 [boxB (α := Bound) true r6]) 1) (.tup [aggV (α := Bound) true r6, .sc (.bool true)]) [] (.inr rfl) (Weak.turnL [(8, 0)] [] rfl rfl (tc (trP' rfl rfl rfl rfl) (tc (.sc _) tn)) (mc rfl (.box rfl (.cons (.sc _) (.cons (.sc _) (.cons (.sc _) (.nil)))) rfl) mn)) (ro2 (rvC (v := aggV (α := Bound) true r6) rfl rfl ti59 rfl) (rvT (v := .sc (.bool true)) rfl)) rfl rfl (.tup (.cons ldA (.cons (.sc _) .nil))) pn
theorem ok16 (vals : List Int) (r : Int) (hR : cmp_Or vals = some r) : FnP Try.prog 16 [rowV false vals] (.sc (.int .i64 r)) := by
  refine fnP_of (FnX.walk Try.func16 rfl 18 0 (by simp [Try.ntmps16]) rfl fun W S F Q hQ => ?_)
  unfold cmp_Or at hR
  refine AWP.sq ?_
  refine AWP.rgC 4 rfl rfl ?_
  refine pu (v := .sc _) rfl rfl (fun _ => rfl) ?_
  refine RunC.fin ?_
  refine AWP.sq ?_
  refine AWP.rgC 8 rfl rfl ?_
  refine pu (v := .sc _) rfl rfl (fun _ => rfl) ?_
  refine RunC.fin ?_
  refine AWP.sq ?_
  refine AWP.sq ?_
  refine AWP.rgC 20 rfl rfl ?_
  refine pu (v := rowV _ vals) rfl rfl (fun _ => rfl) ?_
  refine lenL (α := Int) rfl rfl ti82 rfl ?_
  refine pu (v := .sc _) rfl rfl (fun _ => rfl) ?_
  refine RunC.fin ?_
  refine AWP.loopK' (fun s1 : Int => LS.mk [(3, .sc (.int .i64 0)), (6, rowV (α := Int) false vals), (7, .sc (.int .i64 (vals.length : Int))), (8, .sc (.int .i64 s1))] (lblks 0 []) 0) (fun z2 : Unit => LS.mk [(3, .sc (.int .i64 0))] (lblks 0 []) 0) (cmp_Or.l1 vals) hR (s0 := 0) (Weak.turnL [] [] rfl rfl (tc (.sc _) (tc trR1 (tc (.sc _) (tc (.sc _) tn)))) mn) (fun s1 o1 hR hE1 => ?_) fun z2 hR => ?_
  · unfold cmp_Or.l1 at hR
    refine AWP.sq ?_
    refine AWP.rgC 4 rfl rfl ?_
    refine pu (v := .sc _) rfl rfl (fun _ => rfl) ?_
    refine RunC.fin ?_
    refine AWP.sq ?_
    refine AWP.cd hR rfl (fun h3 hR => ?_) fun h3 hR => ?_
    · refine AWP.skip ?_
      refine skT ?_
      refine AWP.sq ?_
      refine AWP.block ?_
      refine AWP.sq ?_
      refine AWP.rgC 16 rfl rfl ?_
      obtain ⟨h4, hR⟩ := chkE hR
      refine ixL (α := Int) rfl rfl rfl ti82 rfl ti42 rfl h4 ?_
      refine ldR (v := .sc _) rfl rfl ti42 rfl ?_
      refine pu (v := .sc _) rfl rfl (fun _ => rfl) ?_
      refine RunC.fin ?_
      refine AWP.sq ?_
      refine AWP.rgC 28 rfl rfl ?_
      refine pu (v := .sc _) rfl rfl (fun _ => rfl) ?_
      refine pu (v := .sc _) rfl rfl (fun _ => rfl) ?_
      refine pu (v := .sc _) rfl rfl (fun _ => rfl) ?_
      refine RunC.fin ?_
      refine AWP.cd hR rfl (fun h5 hR => ?_) fun h5 hR => ?_
      · refine AWP.sq ?_
        refine AWP.rgC 36 rfl rfl ?_
        refine pu (v := .sc _) rfl rfl (fun _ => rfl) ?_
        refine pu (v := .sc _) rfl rfl (fun _ => rfl) ?_
        refine RunC.fin ?_
        refine AWP.ret ?_
        refine rtB ?_
        refine rtT ?_
        refine rtT ?_
        refine rtB (rtT ?_)
        replace hR := escL hR hE1
        refine rtT ?_
        have hR := Option.some.inj hR; subst hR
        exact hQ _ _ (LS.mk [(2, .sc (.int .i64 (gt vals s1)))] (lblks 0 []) 0) (.sc (.int .i64 (gt vals s1))) [] (.inr rfl) (Weak.turnL [] [] rfl rfl (tc (.sc _) tn) mn) (ro1 (rvT (v := .sc (.int .i64 (gt vals s1))) rfl)) rfl rfl (.sc _) pn
      · refine AWP.skip ?_
        refine skB ?_
        refine skT ?_
        refine AWP.rgC 36 rfl rfl ?_
        refine pu (v := .sc _) rfl rfl (fun _ => rfl) ?_
        refine pu (v := .sc _) rfl rfl (fun _ => rfl) ?_
        refine RunC.fin ?_
        refine ⟨(w6 (s1 + 1)), (Option.some.inj hR).symm, ?_⟩
        exact Weak.turnL [] [] rfl rfl (tc (.sc _) (tc trR1 (tc (.sc _) (tc (.sc _) tn)))) mn
    · refine AWP.exit ?_
      refine exT ?_
      refine exT ?_
      refine exH (skT ?_)
      refine ⟨(), (Option.some.inj hR).symm, ?_⟩
      exact Weak.turnL [] [] rfl rfl (tc (.sc _) tn) mn
  · refine skT ?_
    refine AWP.sq ?_
    refine AWP.rgC 8 rfl rfl ?_
    refine pu (v := .sc _) rfl rfl (fun _ => rfl) ?_
    refine pu (v := .sc _) rfl rfl (fun _ => rfl) ?_
    refine RunC.fin ?_
    refine AWP.ret ?_
    have hR := Option.some.inj hR; subst hR
    exact hQ _ _ (LS.mk [(2, .sc (.int .i64 0))] (lblks 0 []) 0) (.sc (.int .i64 0)) [] (.inr rfl) (Weak.turnL [] [] rfl rfl (tc (.sc _) tn) mn) (ro1 (rvT (v := .sc (.int .i64 0)) rfl)) rfl rfl (.sc _) pn
theorem ok29 (s : curve_Sample) (t : curve_Sample) (r : Int) (hR : curve_order s t = some r) : FnP Try.prog 29 [aggV false s, aggV false t] (.sc (.int .i64 r)) := by
  refine fnP_of (FnX.walk Try.func29 rfl 21 0 (by simp [Try.ntmps29]) rfl fun W S F Q hQ => ?_)
  unfold curve_order at hR
  refine AWP.sq ?_
  refine AWP.rgC 12 rfl rfl ?_
  refine bx (cs := _) 0 rfl rfl rfl ?_
  refine bx (cs := _) 4 rfl rfl rfl ?_
  refine pu (v := .sc _) rfl rfl (fun _ => rfl) ?_
  refine RunC.fin ?_
  refine AWP.sq ?_
  refine AWP.rgD 80 [0, 1, 3, 0, 8, 24, 63, 0, 128, 384, 0, 1024, 3072, 8191, 16383, 32767, 65535] ⟨[], [none, none, some [0], none, none, some [4], none, none, none, some [0], none, none, some [4], none, none, none, none]⟩ hmix (by kernel_rfl) rfl rfl ?_
  refine fa rfl rfl ti63 rfl rfl ti61 rfl ?_
  refine fa rfl rfl ti61 rfl rfl ti30 rfl ?_
  refine ldB (v := .sc _) rfl rfl rfl rfl ti30 rfl rfl ?_
  refine fa rfl rfl ti63 rfl rfl ti61 rfl ?_
  refine fa rfl rfl ti61 rfl rfl ti30 rfl ?_
  refine ldB (v := .sc _) rfl rfl rfl rfl ti30 rfl rfl ?_
  obtain ⟨r1, hr1, hR⟩ := bindE hR
  refine cls [] rfl rfl cb45 (ok45 s.At.Lo t.At.Lo _ hr1) (.cons (.sc _) (.cons (.sc _) (.nil))) (.inr rfl) rfl ?_
  refine fa rfl rfl ti63 rfl rfl ti61 rfl ?_
  refine fa rfl rfl ti61 rfl rfl ti30 rfl ?_
  refine ldB (v := .sc _) rfl rfl rfl rfl ti30 rfl rfl ?_
  refine fa rfl rfl ti63 rfl rfl ti61 rfl ?_
  refine fa rfl rfl ti61 rfl rfl ti30 rfl ?_
  refine ldB (v := .sc _) rfl rfl rfl rfl ti30 rfl rfl ?_
  obtain ⟨r2, hr2, hR⟩ := bindE hR
  refine cls [] rfl rfl cb45 (ok45 s.At.Hi t.At.Hi _ hr2) (.cons (.sc _) (.cons (.sc _) (.nil))) (.inr rfl) rfl ?_
  refine bs (α := Int) 68 true ([r1, r2] : List Int) rfl rfl ti22 rfl ti3 rfl rfl rfl rfl rfl ?_
  obtain ⟨r3, hr3, hR⟩ := bindE hR
  refine cls [68] rfl rfl cb44 (ok44 ([r1, r2] : List Int) _ hr3) (.cons (ldS' rfl rfl rfl rfl) (.nil)) (.inl (by first | rfl | exact freshR | exact freshA | (simp only [V.fresh, V.freshs, freshR, freshA, Bool.and_self]))) rfl ?_
  refine pu (v := .sc _) rfl rfl (fun _ => rfl) ?_
  refine RunC.fin ?_
  refine AWP.ret ?_
  have hR := Option.some.inj hR; subst hR
  exact hQ _ _ (LS.mk [(4, .sc (.int .i64 r3))] (lblks 0 []) 0) (.sc (.int .i64 r3)) [] (.inr rfl) (Weak.turnL [] [] rfl rfl (tc (.sc _) tn) mn) (ro1 (rvT (v := .sc (.int .i64 r3)) rfl)) rfl rfl (.sc _) pn
theorem ok17 (l : List curve_Sample) (r : Int) (hR : curve_Check l = some r) : FnP Try.prog 17 [rowV false l] (.sc (.int .i64 r)) := by
  refine fnP_of (FnX.walk Try.func17 rfl 56 0 (by simp [Try.ntmps17]) rfl fun W S F Q hQ => ?_)
  unfold curve_Check at hR
  refine AWP.sq ?_
  refine AWP.rgC 4 rfl rfl ?_
  refine pu (v := .sc _) rfl rfl (fun _ => rfl) ?_
  refine RunC.fin ?_
  refine AWP.sq ?_
  refine AWP.sq ?_
  refine AWP.rgC 16 rfl rfl ?_
  refine pu (v := rowV _ l) rfl rfl (fun _ => rfl) ?_
  refine lenL (α := curve_Sample) rfl rfl ti35 rfl ?_
  refine pu (v := .sc _) rfl rfl (fun _ => rfl) ?_
  refine RunC.fin ?_
  refine AWP.cd hR rfl (fun h1 hR => ?_) fun h1 hR => ?_
  · refine AWP.sq ?_
    refine AWP.rgC 20 rfl rfl ?_
    refine pu (v := .sc _) rfl rfl (fun _ => rfl) ?_
    refine RunC.fin ?_
    refine AWP.ret ?_
    refine rtT ?_
    have hR := Option.some.inj hR; subst hR
    exact hQ _ _ (LS.mk [(2, .sc (.int .i64 2))] (lblks 0 []) 0) (.sc (.int .i64 2)) [] (.inr rfl) (Weak.turnL [] [] rfl rfl (tc (.sc _) tn) mn) (ro1 (rvT (v := .sc (.int .i64 2)) rfl)) rfl rfl (.sc _) pn
  · refine AWP.skip ?_
    refine skT ?_
    refine AWP.sq ?_
    refine AWP.sq ?_
    refine AWP.rgC 28 rfl rfl ?_
    refine pu (v := rowV _ l) rfl rfl (fun _ => rfl) ?_
    refine lenL (α := curve_Sample) rfl rfl ti35 rfl ?_
    refine pu (v := .sc _) rfl rfl (fun _ => rfl) ?_
    refine RunC.fin ?_
    refine AWP.loopK' (fun s2 : Int => LS.mk [(0, rowV (α := curve_Sample) false l), (9, rowV (α := curve_Sample) false l), (10, .sc (.int .i64 (l.length : Int))), (11, .sc (.int .i64 s2))] (lblks 0 []) 0) (fun z3 : Unit => LS.mk [] (lblks 0 []) 0) (curve_Check.l1 l) hR (s0 := 0) (Weak.turnL [] [] rfl rfl (tc trR1 (tc trR1 (tc (.sc _) (tc (.sc _) tn)))) mn) (fun s2 o2 hR hE2 => ?_) fun z3 hR => ?_
    · unfold curve_Check.l1 at hR
      refine AWP.sq ?_
      refine AWP.rgC 4 rfl rfl ?_
      refine pu (v := .sc _) rfl rfl (fun _ => rfl) ?_
      refine RunC.fin ?_
      refine AWP.sq ?_
      refine AWP.cd hR rfl (fun h4 hR => ?_) fun h4 hR => ?_
      · refine AWP.skip ?_
        refine skT ?_
        refine AWP.sq ?_
        refine AWP.block ?_
        refine AWP.sq ?_
        refine AWP.rgC 28 rfl rfl ?_
        refine pu (v := .sc _) rfl rfl (fun _ => rfl) ?_
        obtain ⟨h5, hR⟩ := chkE hR
        refine ixL (α := curve_Sample) rfl rfl rfl ti35 rfl ti63 rfl h5 ?_
        refine ldR (v := .agg _) rfl rfl ti63 rfl ?_
        refine al (cs := [.sc (.int .i64 0), .sc (.int .i64 0), .sc (.bool false), .sc (.int .i64 0), .sc (.int .i64 0), .sc (.bool false)]) 16 rfl rfl ti63 rfl rfl ?_
        refine pu (v := .sc _) rfl rfl (fun _ => rfl) ?_
        refine stB (cs' := [.sc (.int .i64 (gt l s2).At.Lo), .sc (.int .i64 (gt l s2).At.Hi), .sc (.bool (gt l s2).At.Unknown), .sc (.int .i64 (gt l s2).Light.Lo), .sc (.int .i64 (gt l s2).Light.Hi), .sc (.bool (gt l s2).Light.Unknown)]) rfl rfl rfl rfl ti63 rfl rfl rfl rfl rfl ?_
        refine RunC.fin ?_
        refine AWP.sq ?_
        refine AWP.sq ?_
        refine AWP.rgD 64 [0, 1, 3, 0, 8, 31, 63, 127, 255] ⟨[], [none, some [16], none, none, some [16], none, none, none, none]⟩ hmix (by kernel_rfl) rfl rfl ?_
        refine fa rfl rfl ti63 rfl rfl ti61 rfl ?_
        refine ldB (v := .agg _) rfl rfl rfl rfl ti61 rfl rfl ?_
        obtain ⟨r6, hr6, hR⟩ := bindE hR
        refine cls [] rfl rfl cb27 (ok27 (gt l s2).At _ hr6) (.cons (.agg (.cons (.sc _) (.cons (.sc _) (.cons (.sc _) (.nil)))) rfl) (.nil)) (.inr rfl) rfl ?_
        refine fa rfl rfl ti63 rfl rfl ti59 rfl ?_
        refine ldB (v := .agg _) rfl rfl rfl rfl ti59 rfl rfl ?_
        obtain ⟨r7, hr7, hR⟩ := bindE hR
        refine cls [] rfl rfl cb28 (ok28 (gt l s2).Light _ hr7) (.cons (.agg (.cons (.sc _) (.cons (.sc _) (.cons (.sc _) (.nil)))) rfl) (.nil)) (.inr rfl) rfl ?_
        refine bs (α := Int) 52 true ([r6, r7] : List Int) rfl rfl ti82 rfl ti42 rfl rfl rfl rfl rfl ?_
        obtain ⟨r8, hr8, hR⟩ := bindE hR
        refine cls [52] rfl rfl cb16 (ok16 ([r6, r7] : List Int) _ hr8) (.cons (ldS' rfl rfl rfl rfl) (.nil)) (.inl (by first | rfl | exact freshR | exact freshA | (simp only [V.fresh, V.freshs, freshR, freshA, Bool.and_self]))) rfl ?_
        refine pu (v := .sc _) rfl rfl (fun _ => rfl) ?_
        refine RunC.fin ?_
        refine AWP.sq ?_
        refine AWP.rgC 72 rfl rfl ?_
        refine pu (v := .sc _) rfl rfl (fun _ => rfl) ?_
        refine pu (v := .sc _) rfl rfl (fun _ => rfl) ?_
        refine RunC.fin ?_
        refine AWP.cd hR rfl (fun h9 hR => ?_) fun h9 hR => ?_
        · refine AWP.sq ?_
          refine AWP.rgC 80 rfl rfl ?_
          refine pu (v := .sc _) rfl rfl (fun _ => rfl) ?_
          refine pu (v := .sc _) rfl rfl (fun _ => rfl) ?_
          refine RunC.fin ?_
          refine AWP.ret ?_
          refine rtT ?_
          refine rtB ?_
          refine rtT ?_
          refine rtT ?_
          refine rtB (rtT ?_)
          replace hR := escL hR hE2
          refine rtT ?_
          have hR := Option.some.inj hR; subst hR
          exact hQ _ _ (LS.mk [(2, .sc (.int .i64 r8))] (lblks 0 []) 0) (.sc (.int .i64 r8)) [] (.inr rfl) (Weak.turnL [] [] rfl rfl (tc (.sc _) tn) mn) (ro1 (rvT (v := .sc (.int .i64 r8)) rfl)) rfl rfl (.sc _) pn
        · refine AWP.skip ?_
          refine skT ?_
          refine AWP.block ?_
          refine AWP.sq ?_
          refine AWP.rgC 88 rfl rfl ?_
          refine fa rfl rfl ti63 rfl rfl ti61 rfl ?_
          refine fa rfl rfl ti61 rfl rfl ti4 rfl ?_
          refine ldB (v := .sc _) rfl rfl rfl rfl ti4 rfl rfl ?_
          refine pu (v := .sc _) rfl rfl (fun _ => rfl) ?_
          refine RunC.fin ?_
          refine AWP.cd hR rfl (fun h10 hR => ?_) fun h10 hR => ?_
          · refine AWP.sq ?_
            refine AWP.rgC 92 rfl rfl ?_
            refine pu (v := .sc _) rfl rfl (fun _ => rfl) ?_
            refine RunC.fin ?_
            refine AWP.ret ?_
            refine rtB ?_
            refine rtB ?_
            refine rtT ?_
            refine rtT ?_
            refine rtB (rtT ?_)
            replace hR := escL hR hE2
            refine rtT ?_
            have hR := Option.some.inj hR; subst hR
            exact hQ _ _ (LS.mk [(2, .sc (.int .i64 1))] (lblks 0 []) 0) (.sc (.int .i64 1)) [] (.inr rfl) (Weak.turnL [] [] rfl rfl (tc (.sc _) tn) mn) (ro1 (rvT (v := .sc (.int .i64 1)) rfl)) rfl rfl (.sc _) pn
          · refine AWP.joinX (fun z11 : Bool => LS.mk [(0, rowV (α := curve_Sample) false l), (3, .sc (.int .i64 s2)), (4, .ptr 0 0 0), (9, rowV (α := curve_Sample) false l), (10, .sc (.int .i64 (l.length : Int))), (11, .sc (.int .i64 s2)), (31, .sc (.bool z11))] (lblks 0 [boxB (α := curve_Sample) true (gt l s2)]) 1) hR (fun o11 hR => ?_) fun z11 hR => ?_
            · refine AWP.rgC 132 rfl rfl ?_
              refine fa rfl rfl ti63 rfl rfl ti61 rfl ?_
              refine fa rfl rfl ti61 rfl rfl ti30 rfl ?_
              refine ldB (v := .sc _) rfl rfl rfl rfl ti30 rfl rfl ?_
              refine pu (v := .sc _) rfl rfl (fun _ => rfl) ?_
              refine pu (v := .sc _) rfl rfl (fun _ => rfl) ?_
              refine brR hR (fun h12 hR => ?_) fun h12 hR => ?_
              · refine sk (skW rfl rfl rfl h12) ?_
                refine sk (skW rfl rfl rfl h12) ?_
                refine sk (skW rfl rfl rfl h12) ?_
                refine sk (skW rfl rfl rfl h12) ?_
                refine pkT (v := .sc (.bool true)) rfl rfl h12 rfl ?_
                refine pu (v := .sc _) rfl rfl (fun _ => rfl) ?_
                refine RunC.fin ?_
                have hR := Option.some.inj hR; subst hR
                exact Weak.turnL [(16, 0)] [] rfl rfl (tc trR1 (tc (.sc _) (tc (trP' rfl rfl rfl rfl) (tc trR1 (tc (.sc _) (tc (.sc _) (tc (.sc _) tn))))))) (mc rfl (.box rfl (.cons (.sc _) (.cons (.sc _) (.cons (.sc _) (.cons (.sc _) (.cons (.sc _) (.cons (.sc _) (.nil))))))) rfl) mn)
              · refine fa (wtG rfl rfl rfl h12) rfl ti63 rfl rfl ti61 rfl ?_
                refine fa (wtG rfl rfl rfl h12) rfl ti61 rfl rfl ti30 rfl ?_
                refine ldB (v := .sc _) (wtG rfl rfl rfl h12) rfl rfl rfl ti30 rfl rfl ?_
                refine pu (v := .sc _) (wtG rfl rfl rfl h12) rfl (fun _ => rfl) ?_
                refine pkF (v := .sc (.bool (decide ((gt l s2).At.Hi > 17592186044416)))) rfl rfl h12 rfl ?_
                refine pu (v := .sc _) rfl rfl (fun _ => rfl) ?_
                refine RunC.fin ?_
                have hR := Option.some.inj hR; subst hR
                exact Weak.turnL [(16, 0)] [] rfl rfl (tc trR1 (tc (.sc _) (tc (trP' rfl rfl rfl rfl) (tc trR1 (tc (.sc _) (tc (.sc _) (tc (.sc _) tn))))))) (mc rfl (.box rfl (.cons (.sc _) (.cons (.sc _) (.cons (.sc _) (.cons (.sc _) (.cons (.sc _) (.cons (.sc _) (.nil))))))) rfl) mn)
            · refine AWP.cd hR rfl (fun h13 hR => ?_) fun h13 hR => ?_
              · refine AWP.sq ?_
                refine AWP.rgC 5 rfl rfl ?_
                refine pu (v := .sc _) rfl rfl (fun _ => rfl) ?_
                refine RunC.fin ?_
                refine AWP.ret ?_
                refine rtB ?_
                refine rtB ?_
                refine rtT ?_
                refine rtT ?_
                refine rtB (rtT ?_)
                replace hR := escL hR hE2
                refine rtT ?_
                have hR := Option.some.inj hR; subst hR
                exact hQ _ _ (LS.mk [(2, .sc (.int .i64 4))] (lblks 0 []) 0) (.sc (.int .i64 4)) [] (.inr rfl) (Weak.turnL [] [] rfl rfl (tc (.sc _) tn) mn) (ro1 (rvT (v := .sc (.int .i64 4)) rfl)) rfl rfl (.sc _) pn
              · refine AWP.joinX (fun z14 : Bool => LS.mk [(0, rowV (α := curve_Sample) false l), (9, rowV (α := curve_Sample) false l), (10, .sc (.int .i64 (l.length : Int))), (11, .sc (.int .i64 s2)), (42, .sc (.bool z14))] (lblks 0 []) 0) hR (fun o14 hR => ?_) fun z14 hR => ?_
                · refine AWP.rgD 53 [0, 1, 3, 7, 7, 23, 63, 127, 7, 511, 1023, 2047, 4095] ⟨[], [none, none, none, none, none, none, none, some [], some [0], none, none, none, none]⟩ hmix (by kernel_rfl) rfl rfl ?_
                  refine pu (v := .sc _) rfl rfl (fun _ => rfl) ?_
                  refine pu (v := .sc _) rfl rfl (fun _ => rfl) ?_
                  refine pu (v := .sc _) rfl rfl (fun _ => rfl) ?_
                  refine brR hR (fun h15 hR => ?_) fun h15 hR => ?_
                  · refine pu (v := rowV _ l) (wtG rfl rfl rfl h15) rfl (fun _ => rfl) ?_
                    refine pu (v := .sc _) (wtG rfl rfl rfl h15) rfl (fun _ => rfl) ?_
                    refine pu (v := .sc _) (wtG rfl rfl rfl h15) rfl (fun _ => rfl) ?_
                    obtain ⟨h16, hR⟩ := chkE hR
                    refine ixL (α := curve_Sample) (wtG rfl rfl rfl h15) rfl rfl ti35 rfl ti63 rfl h16 ?_
                    refine ldR (v := .agg _) (wtG rfl rfl rfl h15) rfl ti63 rfl ?_
                    refine ldB (v := .agg _) (wtG rfl rfl rfl h15) rfl rfl rfl ti63 rfl rfl ?_
                    obtain ⟨r17, hr17, hR⟩ := bindE hR
                    refine cls [] (wtG rfl rfl rfl h15) rfl cb29 (ok29 (gt l (w6 (s2 - 1))) (gt l s2) _ hr17) (.cons (.agg (.cons (.sc _) (.cons (.sc _) (.cons (.sc _) (.cons (.sc _) (.cons (.sc _) (.cons (.sc _) (.nil))))))) rfl) (.cons (.agg (.cons (.sc _) (.cons (.sc _) (.cons (.sc _) (.cons (.sc _) (.cons (.sc _) (.cons (.sc _) (.nil))))))) rfl) (.nil))) (.inr rfl) rfl ?_
                    refine pu (v := .sc _) (wtG rfl rfl rfl h15) rfl (fun _ => rfl) ?_
                    refine pkT (v := .sc (.bool (decide (r17 > 0)))) rfl rfl h15 rfl ?_
                    refine pu (v := .sc _) rfl rfl (fun _ => rfl) ?_
                    refine RunC.fin ?_
                    have hR := Option.some.inj hR; subst hR
                    exact Weak.turnL [] [] rfl rfl (tc trR1 (tc trR1 (tc (.sc _) (tc (.sc _) (tc (.sc _) tn))))) mn
                  · refine sk (skW rfl rfl rfl h15) ?_
                    refine sk (skW rfl rfl rfl h15) ?_
                    refine sk (skW rfl rfl rfl h15) ?_
                    refine sk (skW rfl rfl rfl h15) ?_
                    refine sk (skW rfl rfl rfl h15) ?_
                    refine sk (skW rfl rfl rfl h15) ?_
                    refine sk (skW rfl rfl rfl h15) ?_
                    refine sk (skW rfl rfl rfl h15) ?_
                    refine pkF (v := .sc (.bool false)) rfl rfl h15 rfl ?_
                    refine pu (v := .sc _) rfl rfl (fun _ => rfl) ?_
                    refine RunC.fin ?_
                    have hR := Option.some.inj hR; subst hR
                    exact Weak.turnL [] [] rfl rfl (tc trR1 (tc trR1 (tc (.sc _) (tc (.sc _) (tc (.sc _) tn))))) mn
                · refine AWP.cd hR rfl (fun h18 hR => ?_) fun h18 hR => ?_
                  · refine AWP.sq ?_
                    refine AWP.rgC 4 rfl rfl ?_
                    refine pu (v := .sc _) rfl rfl (fun _ => rfl) ?_
                    refine RunC.fin ?_
                    refine AWP.ret ?_
                    refine rtB ?_
                    refine rtB ?_
                    refine rtT ?_
                    refine rtT ?_
                    refine rtB (rtT ?_)
                    replace hR := escL hR hE2
                    refine rtT ?_
                    have hR := Option.some.inj hR; subst hR
                    exact hQ _ _ (LS.mk [(2, .sc (.int .i64 11))] (lblks 0 []) 0) (.sc (.int .i64 11)) [] (.inr rfl) (Weak.turnL [] [] rfl rfl (tc (.sc _) tn) mn) (ro1 (rvT (v := .sc (.int .i64 11)) rfl)) rfl rfl (.sc _) pn
                  · refine AWP.skip ?_
                    refine skB ?_
                    refine skB ?_
                    refine skT ?_
                    refine AWP.rgC 8 rfl rfl ?_
                    refine pu (v := .sc _) rfl rfl (fun _ => rfl) ?_
                    refine pu (v := .sc _) rfl rfl (fun _ => rfl) ?_
                    refine RunC.fin ?_
                    refine ⟨(w6 (s2 + 1)), (Option.some.inj hR).symm, ?_⟩
                    exact Weak.turnL [] [] rfl rfl (tc trR1 (tc trR1 (tc (.sc _) (tc (.sc _) tn)))) mn
      · refine AWP.exit ?_
        refine exT ?_
        refine exT ?_
        refine exH (skT ?_)
        refine ⟨(), (Option.some.inj hR).symm, ?_⟩
        exact Weak.turnL [] [] rfl rfl tn mn
    · refine skT ?_
      refine AWP.sq ?_
      refine AWP.rgC 4 rfl rfl ?_
      refine pu (v := .sc _) rfl rfl (fun _ => rfl) ?_
      refine RunC.fin ?_
      refine AWP.ret ?_
      have hR := Option.some.inj hR; subst hR
      exact hQ _ _ (LS.mk [(2, .sc (.int .i64 0))] (lblks 0 []) 0) (.sc (.int .i64 0)) [] (.inr rfl) (Weak.turnL [] [] rfl rfl (tc (.sc _) tn) mn) (ro1 (rvT (v := .sc (.int .i64 0)) rfl)) rfl rfl (.sc _) pn
section
open Go.RowKit
def sampVf30 (s : curve_Sample) : List Value := [.int .i64 s.At.Lo, .int .i64 s.At.Hi, .bool s.At.Unknown, .int .i64 s.Light.Lo, .int .i64 s.Light.Hi, .bool s.Light.Unknown]
def Sampf30 (w : World) (A : Option Addr) (l : List curve_Sample) : Prop := ∀ k (hk : k < l.length), ∃ B o, A = some ⟨B, o, none⟩ ∧ ∀ (j : Nat) v, (sampVf30 l[k])[j]? = some v → w.cell? ⟨B, o + k * 6 + j, none⟩ = some v
theorem Sampf30.below {w w' : World} {A : Option Addr} {l : List curve_Sample} (h : Sampf30 w A l) (hb : Below w.heap.size w w') : Sampf30 w' A l := fun k hk => by
  obtain ⟨B, o, e, h1⟩ := h k hk
  exact ⟨B, o, e, fun j v hv => (hb.cell (p := ⟨B, o + k * 6 + j, none⟩) (World.block_lt_of_cell? w ⟨B, o + k * 6 + j, none⟩ (h1 j v hv))).trans (h1 j v hv)⟩
theorem sampCf30 (nw : Bool) (s : curve_Sample) : Cl.c nw s = (sampVf30 s).map V.sc := rfl
theorem sampRLf30 {w : World} {A : Option Addr} {cap : Nat} {l : List curve_Sample} (h : Sampf30 w A l) (hc : l.length ≤ cap) : RL (topE w) (rowV false l) (.slice A l.length cap) := by
  unfold rowV
  simp only [RL]
  refine ⟨A, cap, rfl, hc, flat_len' false l, flat_leaf false l, ?_⟩
  by_cases e : l.length = 0
  · exact .inl e
  · right
    obtain ⟨B, o, rfl, _⟩ := h 0 (by omega)
    refine ⟨B, o, rfl, (fun q => nomatch q), RF.of_get _ _ fun i x hx => ?_⟩
    have hl : l.length * 6 = (l.flatMap (Cl.c false)).length := (flat_len' false l).symm
    have hi : i < l.length * 6 := by rw [hl]; exact (List.getElem?_eq_some_iff.1 hx).1
    have hk : i / 6 < l.length := by omega
    obtain ⟨B', o', e', h2⟩ := h (i / 6) hk
    cases e'
    have key : (l.flatMap (Cl.c false))[i]? = (Cl.c false l[i / 6])[i % 6]? := by
      have := elem_split (α := curve_Sample) false l (i / 6) hk
      have e6 : Cl.e curve_Sample = 6 := rfl
      rw [e6] at this
      have t2 := congrArg (fun z => z[i % 6]?) this
      simp only [List.getElem?_drop] at t2
      rw [show i / 6 * 6 + i % 6 = i by omega] at t2
      rw [t2, List.getElem?_append_left (by rw [Cl.len]; show i % 6 < 6; omega), List.getD_eq_getElem?_getD, List.getElem?_eq_getElem hk]
      rfl
    rw [key, sampCf30, List.getElem?_map] at hx
    cases hv : (sampVf30 l[i / 6])[i % 6]? with
    | none => rw [hv] at hx; cases hx
    | some v =>
      rw [hv] at hx; cases hx
      refine ⟨v, ?_, by simp only [RL]⟩
      have := h2 (i % 6) v hv
      rw [show o + i = o + i / 6 * 6 + i % 6 by omega]
      exact this
theorem ckCallsf30 (l : List curve_Sample) (r : Int) (hr : curve_Check l = some r) {w : World} {A : Option Addr} {cap : Nat} (h : Sampf30 w A l) (hc : l.length ≤ cap) :
    Calls Try.prog 17 #[.slice A l.length cap] w fun e w' => e = .returned (.int .i64 r) ∧ Below w.heap.size w w' := by
  refine (fnP_out (ok17 l r hr) (rls_cons (sampRLf30 h hc) rls_nil)).mono ?_
  rintro e w' ⟨c, E', rfl, h1, h2⟩
  simp only [RL] at h1
  subst h1
  exact ⟨rfl, h2⟩
theorem phCallsf30 (t : Bound) (period phases : Int) (r : Int × Bool) (hr : curve_Phase t period phases = some r) (w : World) :
    Calls Try.prog 46 #[.agg #[.int .i64 t.Lo, .int .i64 t.Hi, .bool t.Unknown], .int .i64 period, .int .i64 phases] w fun e w' => e = .returned (.tuple #[.int .i64 r.1, .bool r.2]) ∧ Below w.heap.size w w' := by
  refine (fnP_out (ok46 t period phases r hr) (cargs := [.agg #[.int .i64 t.Lo, .int .i64 t.Hi, .bool t.Unknown], .int .i64 period, .int .i64 phases]) (rls_cons ?_ (rls_cons rl_sc (rls_cons rl_sc rls_nil)))).mono ?_
  · unfold aggV
    simp only [RL]
    exact ⟨[.int .i64 t.Lo, .int .i64 t.Hi, .bool t.Unknown], rfl, rls_cons rl_sc (rls_cons rl_sc (rls_cons rl_sc rls_nil)), Cl.leaf false t⟩
  · rintro e w' ⟨c, E', rfl, h1, h2⟩
    simp only [RL, RLs] at h1
    obtain ⟨_, rfl, _, _, rfl, rfl, _, _, rfl, rfl, rfl⟩ := h1
    exact ⟨rfl, h2⟩
theorem rowsStartf30 (w : World) (n : Nat) : RowsOf (w.alloc (.cells (Array.replicate n (.slice none 0 0)) 22)) w.heap.size 22 3 (List.replicate n (.slice none 0 0)) (List.replicate n []) := by
  refine ⟨by simp, ?_, fun j v xs hv hx => ?_, fun j j' v v' ne hv hv' => ?_⟩
  · have := World.alloc_heap_new w (.cells (Array.replicate n (.slice none 0 0)) 22)
    rw [this]; simp
  · rw [List.getElem?_replicate] at hv hx
    by_cases h : j < n
    · rw [if_pos h] at hv hx
      cases hv; cases hx; exact ⟨by simp, .inl ⟨rfl, rfl⟩⟩
    · rw [if_neg h] at hv; cases hv
  · rw [List.getElem?_replicate] at hv
    split at hv
    · cases hv; exact .inl rfl
    · cases hv
theorem madef30 (v : Value) (n : Nat) (hv : v.cells = #[v]) : madeCells v.cells (n * 1) = Array.replicate n v := by
  rw [hv]
  unfold madeCells
  apply Array.ext
  · simp
  · intro i h1 h2
    simp [Nat.mod_one]
theorem mkf30 (w : World) (ph : Nat) (h : ph ≤ 16) : (Instr.makeSlice 85 (.int .i64 (ph : Int)) (.int .i64 (ph : Int))).run Try.prog w = .ok (.slice (some ⟨w.heap.size, 0, none⟩) ph ph) (w.alloc (.cells (Array.replicate ph (.slice none 0 0)) 22)) := by
  obtain ⟨i0, hi, hz0, hz1, hz2⟩ := info_parts (show (Try.prog.info? 22).map (fun i => (i.zero, i.size, i.bytes)) = some (some (.slice none 0 0), 1, 24) by kernel_rfl)
  have := run_make (P := Try.prog) w 85 22 i0 _ (by kernel_rfl) hi hz0 .i64 .i64 (ph : Int) (ph : Int) (by omega) (Int.le_refl _) (by rw [hz2]; omega) (by omega)
  simp only [Int.toNat_natCast, hz1] at this
  rw [madef30 _ _ rfl] at this
  exact this
theorem grownBf30 {w w' : World} (h : Below w.heap.size w w') : w.grownBy w' none := ⟨h.os, h.tape, h.output, h.size, fun i hi _ => h.block i hi⟩
theorem ownsSlicef30 {w : World} {base n size : Nat} {e : TypeId} {v : Value} {xs : List Value} (h : w.ownsRow base e size v n xs) : ∃ a m c, v = .slice a m c := by
  rcases h.2 with ⟨h, _⟩ | ⟨g, c, cur, h, _⟩
  · exact ⟨_, _, _, h⟩
  · exact ⟨_, _, _, h⟩
theorem foldf30 (l : List curve_Sample) (period : Int) (ph : Nat) (R : List (List Int)) (hC : curve_Check l = some 0) (hF : curve_FoldL period ph l 0 (List.replicate ph []) = some R) (h1 : 1 ≤ ph) (h2 : ph ≤ 16) (h3 : 1 ≤ period) (h4 : period ≤ 17592186044416) (h5 : Int.tmod period ph = 0)
    (w : World) (A : Option Addr) (cap : Nat) (hl : l.length ≤ 64) (hc : l.length ≤ cap) (hA : Sampf30 w A l) :
    Calls Try.prog 30 #[.slice A l.length cap, .int .i64 period, .int .i64 ph] w fun e w' => ∃ O vs, w.heap.size ≤ O ∧ e = .returned (.tuple #[.slice (some ⟨O, 0, none⟩) ph ph, .int .i64 0]) ∧ RowsOf w' O 22 3 vs R ∧ Below w.heap.size w w' := by
  have CK := ckCallsf30 l 0 hC hA hc
  have n1 : ¬ ((ph : Int) < 1) := by omega
  have n2 : ¬ (16 < (ph : Int)) := by omega
  have n3 : ¬ (period < 1) := by omega
  have n4 : ¬ (17592186044416 < period) := by omega
  have n5 : (ph : Int) ≠ 0 := by omega
  have hmk := fun w => mkf30 w ph h2
  go_enter Try.func30, Try.ntmps30
  go_wp2_with (go_at_call 17; refine CK.mono ?_; rintro e w1 ⟨rfl, hb1⟩)
  have hR0 := rowsStartf30 w1 ph
  have hbO : Below w.heap.size w (w1.alloc (.cells (Array.replicate ph (.slice none 0 0)) 22)) := hb1.alloc hb1.size _
  have hwO : w.heap.size ≤ w1.heap.size := hb1.size
  clear hmk
  go_loopw [43] (fun i wr => ∃ k : Nat, k ≤ l.length ∧ i = .int .i64 k ∧ ∃ rows vs, curve_FoldL period ph (l.drop k) k rows = some R ∧ rows.length = ph ∧ (∀ xs ∈ rows, xs.length ≤ k) ∧ RowsOf wr w1.heap.size 22 3 vs rows ∧ Below w.heap.size w wr) (fun i _ => l.length - (intOf i).toNat)
  case atStart => exact ⟨0, by omega, rfl, List.replicate ph [], _, by simpa using hF, by simp, by simp, hR0, hbO⟩
  case round =>
    obtain ⟨k, hk, rfl, rows, vs, hR, hn, hm, hRo, hb⟩ := hrel
    clear hR0 hbO hb1 hF hC
    by_cases hlt : k < l.length
    · rw [List.drop_eq_getElem_cons hlt, curve_FoldL] at hR
      obtain ⟨B, o, rfl, hcell⟩ := (hA.below hb) k hlt
      generalize l[k] = s at hR hcell
      obtain ⟨rr, hP, hR⟩ := Option.bind_eq_some_iff.1 hR
      have c0 : wr.cell? ⟨B, o + k * 6, none⟩ = some (.int .i64 s.At.Lo) := hcell 0 _ rfl
      have c1 : wr.cell? ⟨B, o + k * 6 + 1, none⟩ = some (.int .i64 s.At.Hi) := hcell 1 _ rfl
      have c2 : wr.cell? ⟨B, o + k * 6 + 2, none⟩ = some (.bool s.At.Unknown) := hcell 2 _ rfl
      have c3 : wr.cell? ⟨B, o + k * 6 + 3, none⟩ = some (.int .i64 s.Light.Lo) := hcell 3 _ rfl
      have c4 : wr.cell? ⟨B, o + k * 6 + 4, none⟩ = some (.int .i64 s.Light.Hi) := hcell 4 _ rfl
      have c5 : wr.cell? ⟨B, o + k * 6 + 5, none⟩ = some (.bool s.Light.Unknown) := hcell 5 _ rfl
      clear hcell
      have PH := phCallsf30 s.At period ph rr hP (wr.alloc (.cells #[.int .i64 s.At.Lo, .int .i64 s.At.Hi, .bool s.At.Unknown, .int .i64 s.Light.Lo, .int .i64 s.Light.Hi, .bool s.Light.Unknown] 63))
      obtain ⟨r1, r2⟩ := rr
      have HR := Lib.hid hR
      have HRo := Lib.hid hRo
      have HB := Lib.hid hb
      have HM := Lib.hid hm
      have HA := Lib.hid hA
      clear hR hRo hb hm hA hP CK
      cases r2 with
      | false =>
        go_wp2_with (go_at_call 46; refine PH.mono ?_; rintro e w3 ⟨rfl, hb3⟩)
        have g3 := (World.grownBy_alloc wr (.cells #[.int .i64 s.At.Lo, .int .i64 s.At.Hi, .bool s.At.Unknown, .int .i64 s.Light.Lo, .int .i64 s.Light.Hi, .bool s.Light.Unknown] 63) none).trans (grownBf30 hb3)
        exact ⟨⟨k + 1, by omega, by simp, rows, vs, by simpa using HR.out, hn, fun xs h => Nat.le_succ_of_le (HM.out xs h), HRo.out.kept g3, HB.out.grown g3 HB.out.size (fun j hj => by cases hj)⟩, by simp [intOf]; omega⟩
      | true =>
        have hR2 := HR.out
        simp only [if_true] at hR2
        split at hR2
        · rename_i hq
          obtain ⟨q, rfl⟩ : ∃ q : Nat, r1 = q := ⟨r1.toNat, by omega⟩
          have hq1 : q < rows.length := by omega
          have hq2 : q < vs.length := by rw [HRo.out.1]; exact hq1
          have ex : rows[q]? = some rows[q] := List.getElem?_eq_getElem hq1
          have ev : vs[q]? = some vs[q] := List.getElem?_eq_getElem hq2
          have hxl : rows[q].length ≤ k := HM.out _ (List.getElem_mem hq1)
          have eg : gt rows (q : Int) = rows[q] := by rw [gt_def rows (q : Int) ⟨by omega, by omega⟩]; simp
          rw [eg, Int.toNat_natCast] at hR2
          generalize rows[q] = xs at ex hxl hR2 eg
          generalize vs[q] = v at ev
          have HR2 := Lib.hid hR2
          obtain ⟨i0, hi, hz0, hz1, hz2⟩ := info_parts (show (Try.prog.info? 3).map (fun i => (i.zero, i.size, i.bytes)) = some (some (.int .i64 0), 1, 8) by kernel_rfl)
          clear hR2 HR eg hq
          obtain ⟨w2, hw2⟩ : ∃ w2, w2 = wr.alloc (.cells #[.int .i64 s.At.Lo, .int .i64 s.At.Hi, .bool s.At.Unknown, .int .i64 s.Light.Lo, .int .i64 s.Light.Hi, .bool s.Light.Unknown] 63) := ⟨_, rfl⟩
          have g2 : wr.grownBy w2 none := by rw [hw2]; exact World.grownBy_alloc _ _ _
          rw [← hw2] at PH
          have HW2 := Lib.hid hw2
          have HG2 := Lib.hid g2
          clear hw2 g2
          go_wp2_with (first | (go_at_call 46; rw [← HW2.out]; refine PH.mono ?_; rintro e w3 ⟨rfl, hb3⟩; have h3 := HRo.out.kept (HG2.out.trans (grownBf30 hb3)); have HG3 := Lib.hid (grownBf30 hb3); have co := (cel_get h3.2.1 q (by simpa using ev)).1; have H3 := Lib.hid h3; clear h3 hb3) | (at_builtin; refine wpList_append_own_at _ rfl _ _ 22 rfl (w1.heap.size + 1) 3 i0 (.int .i64 0) 1 8 (by kernel_rfl) hi hz0 hz1 hz2 rfl (by decide) _ _ _ rfl ((H3.out.2.2.1 q v xs ev ex).alloc _) ⟨w3.heap.size, 0, none⟩ 1 1 [.int .i64 (k : Int)] rfl rfl (cell_one_new _ _ _) (ints_oneCell .i64 [(k : Int)]) (by unfold maxLen; omega) (by omega) (by have := blk_lt H3.out.2.1; simp; omega) ?_; intro v' w5 hown' hgrow hnil hloc; obtain ⟨sa, sn, sc, rfl⟩ := ownsSlicef30 hown'; have h4 := H3.out.kept (World.grownBy_alloc w3 (.cells #[.int .i64 (k : Int)] 3) none); have b5 := (hgrow.block w1.heap.size (blk_lt h4.2.1) (fun e => by have := ((H3.out.2.2.1 q v xs ev ex).lt _ e.symm).1; omega)).trans h4.2.1; obtain ⟨cc, ff⟩ := cel_get b5 q (by simpa using ev); have HO5 := Lib.hid hown'; have HG5 := Lib.hid hgrow; have HL5 := Lib.hid hloc; have H4 := Lib.hid h4; clear hown' hgrow hloc hnil b5 h4))
          have st := H4.out.step ev ex HG5.out HO5.out HL5.out
          have B4 : Below w.heap.size w (w3.alloc (.cells #[.int .i64 (k : Int)] 3)) := ((HB.out.grown HG2.out HB.out.size (fun j hj => by cases hj)).grown HG3.out (Nat.le_trans HB.out.size HG2.out.size) (fun j hj => by cases hj)).alloc (Nat.le_trans HB.out.size (Nat.le_trans HG2.out.size HG3.out.size)) _
          have B5 := B4.grown HG5.out B4.size (fun j hj => by have := ((H3.out.2.2.1 q v xs ev ex).lt j hj).1; omega)
          have B6 := B5.setCell (p := ⟨w1.heap.size, q, none⟩) hwO (.slice sa sn sc)
          refine ⟨⟨k + 1, by omega, by simp, _, _, by simpa using HR2.out, by simp [hn], fun ys hy => ?_, st.1, B6⟩, by simp [intOf]; omega⟩
          rcases List.mem_or_eq_of_mem_set hy with h | h
          · exact Nat.le_succ_of_le (HM.out ys h)
          · rw [h]; simp; omega
        · cases hR2
    · obtain rfl : k = l.length := by omega
      rw [List.drop_length, curve_FoldL] at hR
      cases hR
      have HRo := Lib.hid hRo
      have HB := Lib.hid hb
      clear hRo hb
      go_wp2
      go_ret2
      exact ⟨w1.heap.size, vs, hwO, rfl, HRo.out, HB.out⟩
theorem rfSampf30 {E : Env} {W : World} (hf : ∀ B o d, E.F B o = some d → W.cell? ⟨B, o, none⟩ = some d) {A : Option Addr} {l : List curve_Sample}
    (h : l.length = 0 ∨ ∃ B o, A = some ⟨B, o, none⟩ ∧ (false = true → E.n0 ≤ B) ∧ RF E B o (l.flatMap (Cl.c false))) : Sampf30 W A l := fun k hk => by
  rcases h with h | ⟨B, o, rfl, _, h⟩
  · omega
  · refine ⟨B, o, rfl, fun j v hv => ?_⟩
    have hj : j < 6 := (List.getElem?_eq_some_iff.1 hv).1
    have key : (l.flatMap (Cl.c false))[k * 6 + j]? = some (.sc v) := by
      have := elem_split (α := curve_Sample) false l k hk
      have e6 : Cl.e curve_Sample = 6 := rfl
      rw [e6] at this
      have t2 := congrArg (fun z => z[j]?) this
      simp only [List.getElem?_drop] at t2
      rw [t2, List.getElem?_append_left (by rw [Cl.len]; exact hj), List.getD_eq_getElem?_getD, List.getElem?_eq_getElem hk]
      show (Cl.c false l[k])[j]? = _
      rw [sampCf30, List.getElem?_map, hv]
      rfl
    obtain ⟨d, h1, h2⟩ := RF.get _ _ h _ _ key
    simp only [RL] at h2
    subst h2
    rw [Nat.add_assoc]
    exact hf _ _ _ h1
theorem ok30 (l : List curve_Sample) (period phases : Int) (r : List (List Int) × Int) (hR : curve_Fold l period phases = some r) : FnP Try.prog 30 [rowV false l, .sc (.int .i64 period), .sc (.int .i64 phases)] (.tup [rowV true r.1, .sc (.int .i64 r.2)]) := by
  unfold curve_Fold at hR
  obtain ⟨e, hC, hR⟩ := Option.bind_eq_some_iff.1 hR
  split at hR
  · rename_i he
    subst he
    split at hR
    · rename_i h
      obtain ⟨h0, h1, h2, h3, h4, h5⟩ := h
      obtain ⟨R, hF, hR⟩ := Option.bind_eq_some_iff.1 hR
      cases hR
      obtain ⟨ph, rfl⟩ : ∃ ph : Nat, phases = ph := ⟨phases.toNat, by omega⟩
      rw [Int.toNat_natCast] at hF
      refine fnP_inF fun E W cargs hn hf ha => ?_
      unfold rowV at ha
      simp only [RLs, RL] at ha
      obtain ⟨_, _, rfl, ⟨A, cap, rfl, q1, _, _, q2⟩, _, _, rfl, rfl, _, _, rfl, rfl, rfl⟩ := ha
      refine (foldf30 l period ph R hC hF (by omega) (by omega) h3 h4 h5 W A cap h0 q1 (rfSampf30 hf q2)).mono ?_
      rintro e w' ⟨O, vs, hO, rfl, hRo, hB⟩
      refine ⟨_, rfl, ?_, hB⟩
      have hlen : R.length = ph := by
        have : ∀ (l : List curve_Sample) (i : Int) (rows R : List (List Int)), curve_FoldL period ph l i rows = some R → R.length = rows.length := by
          intro l
          induction l with
          | nil => intro i rows R h; rw [curve_FoldL] at h; cases h; rfl
          | cons s l ih =>
            intro i rows R h
            rw [curve_FoldL] at h
            obtain ⟨r, _, h⟩ := Option.bind_eq_some_iff.1 h
            split at h
            · split at h
              · rw [ih _ _ _ h]; simp
              · cases h
            · exact ih _ _ _ h
        rw [this _ _ _ _ hF]; simp
      have hrl := hRo.rl (E := E) (n0 := W.heap.size) hO hn (cap := ph) (by omega)
      rw [hlen] at hrl
      simp only [RL]
      exact ⟨[_, _], rfl, rls_cons hrl (rls_cons rl_sc rls_nil)⟩
    · cases hR
  · cases hR
end

theorem ok24 (s : Star) (t : Int) (r : Int) (hR : sky_shines s t = some r) : FnP Try.prog 24 [aggV false s, .sc (.int .i64 t)] (.sc (.int .i64 r)) := by
  refine fnP_of (FnX.walk Try.func24 rfl 47 0 (by simp [Try.ntmps24]) rfl fun W S F Q hQ => ?_)
  unfold sky_shines at hR
  refine AWP.sq ?_
  refine AWP.rgC 8 rfl rfl ?_
  refine bx (cs := _) 0 rfl rfl rfl ?_
  refine pu (v := .sc _) rfl rfl (fun _ => rfl) ?_
  refine RunC.fin ?_
  refine AWP.sq ?_
  refine AWP.joinX (fun z1 : Bool => LS.mk [(1, .sc (.int .i64 t)), (2, .ptr 0 0 0), (16, .sc (.bool z1))] (lblks 0 [boxB (α := Star) false s]) 1) hR (fun o1 hR => ?_) fun z1 hR => ?_
  · refine AWP.rgC 48 rfl rfl ?_
    refine pu (v := .sc _) rfl rfl (fun _ => rfl) ?_
    refine fa rfl rfl ti32 rfl rfl ti30 rfl ?_
    refine ldB (v := .sc _) rfl rfl rfl rfl ti30 rfl rfl ?_
    refine pu (v := .sc _) rfl rfl (fun _ => rfl) ?_
    refine pu (v := .sc _) rfl rfl (fun _ => rfl) ?_
    refine brR hR (fun h2 hR => ?_) fun h2 hR => ?_
    · refine sk (skW rfl rfl rfl h2) ?_
      refine sk (skW rfl rfl rfl h2) ?_
      refine sk (skW rfl rfl rfl h2) ?_
      refine sk (skW rfl rfl rfl h2) ?_
      refine pkT (v := .sc (.bool true)) rfl rfl h2 rfl ?_
      refine RunC.fin ?_
      have hR := Option.some.inj hR; subst hR
      exact Weak.turnL [(0, 0)] [] rfl rfl (tc (.sc _) (tc (trP' rfl rfl rfl rfl) (tc (.sc _) tn))) (mc rfl (.box rfl (.cons (.sc _) (.cons (.sc _) (.cons (.sc _) (.cons (.sc _) (.cons (.sc _) (.cons trR1 (.cons (.sc _) (.cons (.sc _) (.cons (.sc _) (.nil)))))))))) rfl) mn)
    · refine pu (v := .sc _) (wtG rfl rfl rfl h2) rfl (fun _ => rfl) ?_
      refine fa (wtG rfl rfl rfl h2) rfl ti32 rfl rfl ti30 rfl ?_
      refine ldB (v := .sc _) (wtG rfl rfl rfl h2) rfl rfl rfl ti30 rfl rfl ?_
      refine pu (v := .sc _) (wtG rfl rfl rfl h2) rfl (fun _ => rfl) ?_
      refine pkF (v := .sc (.bool (decide (t ≥ s.To)))) rfl rfl h2 rfl ?_
      refine RunC.fin ?_
      have hR := Option.some.inj hR; subst hR
      exact Weak.turnL [(0, 0)] [] rfl rfl (tc (.sc _) (tc (trP' rfl rfl rfl rfl) (tc (.sc _) tn))) (mc rfl (.box rfl (.cons (.sc _) (.cons (.sc _) (.cons (.sc _) (.cons (.sc _) (.cons (.sc _) (.cons trR1 (.cons (.sc _) (.cons (.sc _) (.cons (.sc _) (.nil)))))))))) rfl) mn)
  · refine AWP.cd hR rfl (fun h3 hR => ?_) fun h3 hR => ?_
    · refine AWP.sq ?_
      refine AWP.rgC 5 rfl rfl ?_
      refine pu (v := .sc _) rfl rfl (fun _ => rfl) ?_
      refine RunC.fin ?_
      refine AWP.ret ?_
      refine rtT ?_
      have hR := Option.some.inj hR; subst hR
      exact hQ _ _ (LS.mk [(4, .sc (.int .i64 0))] (lblks 0 []) 0) (.sc (.int .i64 0)) [] (.inr rfl) (Weak.turnL [] [] rfl rfl (tc (.sc _) tn) mn) (ro1 (rvT (v := .sc (.int .i64 0)) rfl)) rfl rfl (.sc _) pn
    · refine AWP.skip ?_
      refine skT ?_
      refine AWP.sq ?_
      refine AWP.rgC 17 rfl rfl ?_
      refine fa rfl rfl ti32 rfl rfl ti29 rfl ?_
      refine ldB (v := rowV _ s.Wave) rfl rfl rfl rfl ti29 rfl rfl ?_
      refine lenL (α := Int) rfl rfl ti29 rfl ?_
      refine pu (v := .sc _) rfl rfl (fun _ => rfl) ?_
      refine RunC.fin ?_
      refine AWP.sq ?_
      refine AWP.sq ?_
      refine AWP.rgC 25 rfl rfl ?_
      refine pu (v := .sc _) rfl rfl (fun _ => rfl) ?_
      refine pu (v := .sc _) rfl rfl (fun _ => rfl) ?_
      refine RunC.fin ?_
      refine AWP.cd hR rfl (fun h4 hR => ?_) fun h4 hR => ?_
      · refine AWP.sq ?_
        refine AWP.rgC 37 rfl rfl ?_
        refine fa rfl rfl ti32 rfl rfl ti28 rfl ?_
        refine ldB (v := .sc _) rfl rfl rfl rfl ti28 rfl rfl ?_
        refine pu (v := .sc _) rfl rfl (fun _ => rfl) ?_
        refine RunC.fin ?_
        refine AWP.ret ?_
        refine rtT ?_
        have hR := Option.some.inj hR; subst hR
        exact hQ _ _ (LS.mk [(4, .sc (.int .i64 s.Rate))] (lblks 0 []) 0) (.sc (.int .i64 s.Rate)) [] (.inr rfl) (Weak.turnL [] [] rfl rfl (tc (.sc _) tn) mn) (ro1 (rvT (v := .sc (.int .i64 s.Rate)) rfl)) rfl rfl (.sc _) pn
      · refine AWP.skip ?_
        refine skT ?_
        refine AWP.sq ?_
        refine AWP.rgC 45 rfl rfl ?_
        refine pu (v := .sc _) rfl rfl (fun _ => rfl) ?_
        refine fa rfl rfl ti32 rfl rfl ti30 rfl ?_
        refine ldB (v := .sc _) rfl rfl rfl rfl ti30 rfl rfl ?_
        obtain ⟨h5, hR⟩ := chkE hR
        refine rm rfl rfl rfl h5 rfl ?_
        refine pu (v := .sc _) rfl rfl (fun _ => rfl) ?_
        refine RunC.fin ?_
        refine AWP.sq ?_
        refine AWP.sq ?_
        refine AWP.rgC 53 rfl rfl ?_
        refine pu (v := .sc _) rfl rfl (fun _ => rfl) ?_
        refine pu (v := .sc _) rfl rfl (fun _ => rfl) ?_
        refine RunC.fin ?_
        refine AWP.cd hR rfl (fun h6 hR => ?_) fun h6 hR => ?_
        · refine AWP.rgC 73 rfl rfl ?_
          refine pu (v := .sc _) rfl rfl (fun _ => rfl) ?_
          refine fa rfl rfl ti32 rfl rfl ti30 rfl ?_
          refine ldB (v := .sc _) rfl rfl rfl rfl ti30 rfl rfl ?_
          refine pu (v := .sc _) rfl rfl (fun _ => rfl) ?_
          refine pu (v := .sc _) rfl rfl (fun _ => rfl) ?_
          refine RunC.fin ?_
          refine AWP.sq ?_
          refine AWP.rgD 129 [0, 1, 0, 4, 0, 0, 32, 0, 224, 496, 1020, 2044, 4095, 8191] ⟨[], [none, some [0], none, some [0], none, none, some [0], none, none, none, none, some [], none, none]⟩ hmix (by kernel_rfl) rfl rfl ?_
          refine fa rfl rfl ti32 rfl rfl ti28 rfl ?_
          refine ldB (v := .sc _) rfl rfl rfl rfl ti28 rfl rfl ?_
          refine fa rfl rfl ti32 rfl rfl ti29 rfl ?_
          refine ldB (v := rowV _ s.Wave) rfl rfl rfl rfl ti29 rfl rfl ?_
          refine pu (v := .sc _) rfl rfl (fun _ => rfl) ?_
          refine fa rfl rfl ti32 rfl rfl ti30 rfl ?_
          refine ldB (v := .sc _) rfl rfl rfl rfl ti30 rfl rfl ?_
          refine pu (v := .sc _) rfl rfl (fun _ => rfl) ?_
          obtain ⟨h7, hR⟩ := chkE hR
          refine qu rfl rfl rfl h7 rfl ?_
          obtain ⟨h8, hR⟩ := chkE hR
          obtain ⟨v9, ev9, hR⟩ := letE hR
          refine qu rfl rfl rfl h8 ev9 ?_
          obtain ⟨h10, hR⟩ := chkE hR
          refine ixL (α := Int) rfl rfl rfl ti29 rfl ti28 rfl h10 ?_
          refine ldR (v := .sc _) rfl rfl ti28 rfl ?_
          refine pu (v := .sc _) rfl rfl (fun _ => rfl) ?_
          refine pu (v := .sc _) rfl rfl (fun _ => rfl) ?_
          refine RunC.fin ?_
          refine AWP.ret ?_
          have hR := Option.some.inj hR; subst hR
          exact hQ _ _ (LS.mk [(4, .sc (.int .i64 (w6 (s.Rate + (gt s.Wave v9)))))] (lblks 0 []) 0) (.sc (.int .i64 (w6 (s.Rate + (gt s.Wave v9))))) [] (.inr rfl) (Weak.turnL [] [] rfl rfl (tc (.sc _) tn) mn) (ro1 (rvT (v := .sc (.int .i64 (w6 (s.Rate + (gt s.Wave v9))))) rfl)) rfl rfl (.sc _) pn
        · refine AWP.skip ?_
          refine skT ?_
          refine AWP.sq ?_
          refine AWP.rgD 109 [0, 1, 0, 4, 0, 0, 32, 0, 224, 496, 1020, 2044, 4095, 8191] ⟨[], [none, some [0], none, some [0], none, none, some [0], none, none, none, none, some [], none, none]⟩ hmix (by kernel_rfl) rfl rfl ?_
          refine fa rfl rfl ti32 rfl rfl ti28 rfl ?_
          refine ldB (v := .sc _) rfl rfl rfl rfl ti28 rfl rfl ?_
          refine fa rfl rfl ti32 rfl rfl ti29 rfl ?_
          refine ldB (v := rowV _ s.Wave) rfl rfl rfl rfl ti29 rfl rfl ?_
          refine pu (v := .sc _) rfl rfl (fun _ => rfl) ?_
          refine fa rfl rfl ti32 rfl rfl ti30 rfl ?_
          refine ldB (v := .sc _) rfl rfl rfl rfl ti30 rfl rfl ?_
          refine pu (v := .sc _) rfl rfl (fun _ => rfl) ?_
          obtain ⟨h11, hR⟩ := chkE hR
          refine qu rfl rfl rfl h11 rfl ?_
          obtain ⟨h12, hR⟩ := chkE hR
          obtain ⟨v13, ev13, hR⟩ := letE hR
          refine qu rfl rfl rfl h12 ev13 ?_
          obtain ⟨h14, hR⟩ := chkE hR
          refine ixL (α := Int) rfl rfl rfl ti29 rfl ti28 rfl h14 ?_
          refine ldR (v := .sc _) rfl rfl ti28 rfl ?_
          refine pu (v := .sc _) rfl rfl (fun _ => rfl) ?_
          refine pu (v := .sc _) rfl rfl (fun _ => rfl) ?_
          refine RunC.fin ?_
          refine AWP.ret ?_
          have hR := Option.some.inj hR; subst hR
          exact hQ _ _ (LS.mk [(4, .sc (.int .i64 (w6 (s.Rate + (gt s.Wave v13)))))] (lblks 0 []) 0) (.sc (.int .i64 (w6 (s.Rate + (gt s.Wave v13))))) [] (.inr rfl) (Weak.turnL [] [] rfl rfl (tc (.sc _) tn) mn) (ro1 (rvT (v := .sc (.int .i64 (w6 (s.Rate + (gt s.Wave v13))))) rfl)) rfl rfl (.sc _) pn
theorem ok23 (s : Sky) (t : Int) (r : Int) (hR : sky_timed s t = some r) : FnP Try.prog 23 [aggV false s, .sc (.int .i64 t)] (.sc (.int .i64 r)) := by
  refine fnP_of (FnX.walk Try.func23 rfl 17 0 (by simp [Try.ntmps23]) rfl fun W S F Q hQ => ?_)
  unfold sky_timed at hR
  refine AWP.sq ?_
  refine AWP.rgC 8 rfl rfl ?_
  refine bx (cs := _) 0 rfl rfl rfl ?_
  refine pu (v := .sc _) rfl rfl (fun _ => rfl) ?_
  refine RunC.fin ?_
  refine AWP.sq ?_
  refine AWP.sq ?_
  refine AWP.rgC 20 rfl rfl ?_
  refine ldB (v := .agg _) rfl rfl rfl rfl ti55 rfl rfl ?_
  obtain ⟨r1, hr1, hR⟩ := bindE hR
  refine cls [] rfl rfl cb33 (ok33 s _ hr1) (.cons (.agg (.cons (.sc _) (.cons ldR' (.cons ldR' (.cons ldR' (.cons (.sc _) (.cons (.sc _) (.cons (.sc _) (.cons (.sc _) (.cons (.sc _) (.cons (.sc _) (.cons (.sc _) (.cons (.sc _) (.nil))))))))))))) rfl) (.nil)) (.inr rfl) rfl ?_
  refine pu (v := .sc _) rfl rfl (fun _ => rfl) ?_
  refine RunC.fin ?_
  refine AWP.sq ?_
  refine AWP.rgC 28 rfl rfl ?_
  refine pu (v := .sc _) rfl rfl (fun _ => rfl) ?_
  refine pu (v := .sc _) rfl rfl (fun _ => rfl) ?_
  refine RunC.fin ?_
  refine AWP.cd hR rfl (fun h2 hR => ?_) fun h2 hR => ?_
  · refine AWP.sq ?_
    refine AWP.rgC 36 rfl rfl ?_
    refine pu (v := .sc _) rfl rfl (fun _ => rfl) ?_
    refine pu (v := .sc _) rfl rfl (fun _ => rfl) ?_
    refine RunC.fin ?_
    refine AWP.ret ?_
    refine rtT ?_
    have hR := Option.some.inj hR; subst hR
    exact hQ _ _ (LS.mk [(4, .sc (.int .i64 r1))] (lblks 0 []) 0) (.sc (.int .i64 r1)) [] (.inr rfl) (Weak.turnL [] [] rfl rfl (tc (.sc _) tn) mn) (ro1 (rvT (v := .sc (.int .i64 r1)) rfl)) rfl rfl (.sc _) pn
  · refine AWP.skip ?_
    refine skT ?_
    refine AWP.sq ?_
    refine AWP.joinX (fun z3 : Bool => LS.mk [(16, .sc (.bool z3))] (lblks 0 []) 0) hR (fun o3 hR => ?_) fun z3 hR => ?_
    · refine AWP.rgC 52 rfl rfl ?_
      refine pu (v := .sc _) rfl rfl (fun _ => rfl) ?_
      refine pu (v := .sc _) rfl rfl (fun _ => rfl) ?_
      refine pu (v := .sc _) rfl rfl (fun _ => rfl) ?_
      refine brR hR (fun h4 hR => ?_) fun h4 hR => ?_
      · refine sk (skW rfl rfl rfl h4) ?_
        refine sk (skW rfl rfl rfl h4) ?_
        refine pkT (v := .sc (.bool true)) rfl rfl h4 rfl ?_
        refine RunC.fin ?_
        have hR := Option.some.inj hR; subst hR
        exact Weak.turnL [] [] rfl rfl (tc (.sc _) tn) mn
      · refine pu (v := .sc _) (wtG rfl rfl rfl h4) rfl (fun _ => rfl) ?_
        refine pu (v := .sc _) (wtG rfl rfl rfl h4) rfl (fun _ => rfl) ?_
        refine pkF (v := .sc (.bool (decide (t > 17592186044416)))) rfl rfl h4 rfl ?_
        refine RunC.fin ?_
        have hR := Option.some.inj hR; subst hR
        exact Weak.turnL [] [] rfl rfl (tc (.sc _) tn) mn
    · refine AWP.cd hR rfl (fun h5 hR => ?_) fun h5 hR => ?_
      · refine AWP.sq ?_
        refine AWP.rgC 4 rfl rfl ?_
        refine pu (v := .sc _) rfl rfl (fun _ => rfl) ?_
        refine RunC.fin ?_
        refine AWP.ret ?_
        refine rtT ?_
        have hR := Option.some.inj hR; subst hR
        exact hQ _ _ (LS.mk [(4, .sc (.int .i64 4))] (lblks 0 []) 0) (.sc (.int .i64 4)) [] (.inr rfl) (Weak.turnL [] [] rfl rfl (tc (.sc _) tn) mn) (ro1 (rvT (v := .sc (.int .i64 4)) rfl)) rfl rfl (.sc _) pn
      · refine AWP.skip ?_
        refine skT ?_
        refine AWP.sq ?_
        refine AWP.rgC 4 rfl rfl ?_
        refine pu (v := .sc _) rfl rfl (fun _ => rfl) ?_
        refine RunC.fin ?_
        refine AWP.ret ?_
        have hR := Option.some.inj hR; subst hR
        exact hQ _ _ (LS.mk [(4, .sc (.int .i64 0))] (lblks 0 []) 0) (.sc (.int .i64 0)) [] (.inr rfl) (Weak.turnL [] [] rfl rfl (tc (.sc _) tn) mn) (ro1 (rvT (v := .sc (.int .i64 0)) rfl)) rfl rfl (.sc _) pn
theorem ok22 (s : List Int) (v : Int) (r : Int) (hR : slices_Index_Int s v = some r) : FnP Try.prog 22 [rowV false s, .sc (.int .i64 v)] (.sc (.int .i64 r)) := by
  refine fnP_of (FnX.walk Try.func22 rfl 19 0 (by simp [Try.ntmps22]) rfl fun W S F Q hQ => ?_)
  unfold slices_Index_Int at hR
  refine AWP.sq ?_
  refine AWP.rgC 4 rfl rfl ?_
  refine pu (v := .sc _) rfl rfl (fun _ => rfl) ?_
  refine RunC.fin ?_
  refine AWP.sq ?_
  refine AWP.sq ?_
  refine AWP.rgC 16 rfl rfl ?_
  refine pu (v := rowV _ s) rfl rfl (fun _ => rfl) ?_
  refine lenL (α := Int) rfl rfl ti41 rfl ?_
  refine pu (v := .sc _) rfl rfl (fun _ => rfl) ?_
  refine RunC.fin ?_
  refine AWP.loopK' (fun s1 : Int => LS.mk [(0, rowV (α := Int) false s), (1, .sc (.int .i64 v)), (7, .sc (.int .i64 (s.length : Int))), (8, .sc (.int .i64 s1))] (lblks 0 []) 0) (fun z2 : Unit => LS.mk [] (lblks 0 []) 0) (slices_Index_Int.l1 s v) hR (s0 := 0) (Weak.turnL [] [] rfl rfl (tc trR1 (tc (.sc _) (tc (.sc _) (tc (.sc _) tn)))) mn) (fun s1 o1 hR hE1 => ?_) fun z2 hR => ?_
  · unfold slices_Index_Int.l1 at hR
    refine AWP.sq ?_
    refine AWP.rgC 4 rfl rfl ?_
    refine pu (v := .sc _) rfl rfl (fun _ => rfl) ?_
    refine RunC.fin ?_
    refine AWP.sq ?_
    refine AWP.cd hR rfl (fun h3 hR => ?_) fun h3 hR => ?_
    · refine AWP.skip ?_
      refine skT ?_
      refine AWP.sq ?_
      refine AWP.block ?_
      refine AWP.sq ?_
      refine AWP.rgC 12 rfl rfl ?_
      refine pu (v := .sc _) rfl rfl (fun _ => rfl) ?_
      refine pu (v := .sc _) rfl rfl (fun _ => rfl) ?_
      refine RunC.fin ?_
      refine AWP.sq ?_
      refine AWP.rgC 36 rfl rfl ?_
      refine pu (v := .sc _) rfl rfl (fun _ => rfl) ?_
      refine pu (v := rowV _ s) rfl rfl (fun _ => rfl) ?_
      refine pu (v := .sc _) rfl rfl (fun _ => rfl) ?_
      obtain ⟨h4, hR⟩ := chkE hR
      refine ixL (α := Int) rfl rfl rfl ti41 rfl ti30 rfl h4 ?_
      refine ldR (v := .sc _) rfl rfl ti30 rfl ?_
      refine pu (v := .sc _) rfl rfl (fun _ => rfl) ?_
      refine RunC.fin ?_
      refine AWP.cd hR rfl (fun h5 hR => ?_) fun h5 hR => ?_
      · refine AWP.sq ?_
        refine AWP.rgC 44 rfl rfl ?_
        refine pu (v := .sc _) rfl rfl (fun _ => rfl) ?_
        refine pu (v := .sc _) rfl rfl (fun _ => rfl) ?_
        refine RunC.fin ?_
        refine AWP.ret ?_
        refine rtB ?_
        refine rtT ?_
        refine rtT ?_
        refine rtB (rtT ?_)
        replace hR := escL hR hE1
        refine rtT ?_
        have hR := Option.some.inj hR; subst hR
        exact hQ _ _ (LS.mk [(4, .sc (.int .i64 s1))] (lblks 0 []) 0) (.sc (.int .i64 s1)) [] (.inr rfl) (Weak.turnL [] [] rfl rfl (tc (.sc _) tn) mn) (ro1 (rvT (v := .sc (.int .i64 s1)) rfl)) rfl rfl (.sc _) pn
      · refine AWP.skip ?_
        refine skB ?_
        refine skT ?_
        refine AWP.rgC 44 rfl rfl ?_
        refine pu (v := .sc _) rfl rfl (fun _ => rfl) ?_
        refine pu (v := .sc _) rfl rfl (fun _ => rfl) ?_
        refine RunC.fin ?_
        refine ⟨(w6 (s1 + 1)), (Option.some.inj hR).symm, ?_⟩
        exact Weak.turnL [] [] rfl rfl (tc trR1 (tc (.sc _) (tc (.sc _) (tc (.sc _) tn)))) mn
    · refine AWP.exit ?_
      refine exT ?_
      refine exT ?_
      refine exH (skT ?_)
      refine ⟨(), (Option.some.inj hR).symm, ?_⟩
      exact Weak.turnL [] [] rfl rfl tn mn
  · refine skT ?_
    refine AWP.sq ?_
    refine AWP.rgC 4 rfl rfl ?_
    refine pu (v := .sc _) rfl rfl (fun _ => rfl) ?_
    refine RunC.fin ?_
    refine AWP.ret ?_
    have hR := Option.some.inj hR; subst hR
    exact hQ _ _ (LS.mk [(4, .sc (.int .i64 (-1)))] (lblks 0 []) 0) (.sc (.int .i64 (-1))) [] (.inr rfl) (Weak.turnL [] [] rfl rfl (tc (.sc _) tn) mn) (ro1 (rvT (v := .sc (.int .i64 (-1))) rfl)) rfl rfl (.sc _) pn
end Go.Proofs.Pet
