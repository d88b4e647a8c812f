/- Each function of the program computes its plain function. Conditions: as each theorem states them. -/
import Derived.Test.YtnohkpdmfibcgaaA4
import Derived.Shelf.SlSortCmp.WholeK
import Derived.Shelf.Spec.SlicesGrow
import Derived.Maps.Own
import Derived.WalkKit
import Derived.Test.YtnohkpdmfibcgaaT
import Derived.Test.YtnohkpdmfibcgaaP0
namespace Go.Proofs.Cum
open Go Go.Abs Lf
set_option linter.unusedVariables false
set_option linter.unusedSimpArgs false
set_option maxRecDepth 100000
set_option maxHeartbeats 1000000
theorem ok16 (s : Sky) (id_ : Int) (t : Int) (r : Int × Int) (hR : sky_Rate s id_ t = some r) : FnP Try.prog 16 [aggV false s, .sc (.int .i64 id_), .sc (.int .i64 t)] (.tup [.sc (.int .i64 r.1), .sc (.int .i64 r.2)]) := by
  refine fnP_of (FnX.walk Try.func16 rfl 64 0 (by simp [Try.ntmps16]) rfl fun W S F Q hQ => ?_)
  unfold sky_Rate at hR
  refine AWP.sq ?_
  refine AWP.rgC 12 rfl rfl ?_
  refine bx (cs := _) 0 rfl rfl rfl ?_
  refine pu (v := .sc _) rfl rfl (fun _ => rfl) ?_
  refine pu (v := .sc _) rfl rfl (fun _ => rfl) ?_
  refine RunC.fin ?_
  refine AWP.sq ?_
  refine AWP.sq ?_
  refine AWP.rgC 28 rfl rfl ?_
  refine ldB (v := .agg _) rfl rfl rfl rfl ti63 rfl rfl ?_
  refine pu (v := .sc _) rfl rfl (fun _ => rfl) ?_
  obtain ⟨r1, hr1, hR⟩ := bindE hR
  refine cls [] rfl rfl cb31 (ok31 s t _ hr1) (.cons (.agg (.cons (.sc _) (.cons ldR' (.cons ldR' (.cons ldR' (.cons (.sc _) (.cons (.sc _) (.cons (.sc _) (.cons (.sc _) (.cons (.sc _) (.cons (.sc _) (.cons (.sc _) (.cons (.sc _) (.nil))))))))))))) rfl) (.cons (.sc _) (.nil))) (.inr rfl) rfl ?_
  refine pu (v := .sc _) rfl rfl (fun _ => rfl) ?_
  refine RunC.fin ?_
  refine AWP.sq ?_
  refine AWP.rgC 36 rfl rfl ?_
  refine pu (v := .sc _) rfl rfl (fun _ => rfl) ?_
  refine pu (v := .sc _) rfl rfl (fun _ => rfl) ?_
  refine RunC.fin ?_
  refine AWP.cd hR rfl (fun h2 hR => ?_) fun h2 hR => ?_
  · refine AWP.sq ?_
    refine AWP.rgC 48 rfl rfl ?_
    refine pu (v := .sc _) rfl rfl (fun _ => rfl) ?_
    refine pu (v := .sc _) rfl rfl (fun _ => rfl) ?_
    refine pu (v := .sc _) rfl rfl (fun _ => rfl) ?_
    refine RunC.fin ?_
    refine AWP.ret ?_
    refine rtT ?_
    have hR := Option.some.inj hR; subst hR
    exact hQ _ _ (LS.mk [(6, .sc (.int .i64 0)), (7, .sc (.int .i64 r1))] (lblks 0 []) 0) (.tup [.sc (.int .i64 0), .sc (.int .i64 r1)]) [] (.inr rfl) (Weak.turnL [] [] rfl rfl (tc (.sc _) (tc (.sc _) tn)) mn) (ro2 (rvT (v := .sc (.int .i64 0)) rfl) (rvT (v := .sc (.int .i64 r1)) rfl)) rfl rfl (.tup (.cons (.sc _) (.cons (.sc _) .nil))) pn
  · refine AWP.skip ?_
    refine skT ?_
    refine AWP.sq ?_
    refine AWP.sq ?_
    refine AWP.rgC 52 rfl rfl ?_
    refine fa rfl rfl ti63 rfl rfl ti57 rfl ?_
    refine ldB (v := rowV _ s.Stars) rfl rfl rfl rfl ti57 rfl rfl ?_
    refine lenL (α := Star) rfl rfl ti57 rfl ?_
    refine pu (v := .sc _) rfl rfl (fun _ => rfl) ?_
    refine RunC.fin ?_
    refine AWP.loopK' (fun s3 : Int => LS.mk [(1, .sc (.int .i64 id_)), (2, .sc (.int .i64 t)), (3, .ptr 0 0 0), (22, rowV (α := Star) false s.Stars), (23, .sc (.int .i64 (s.Stars.length : Int))), (24, .sc (.int .i64 s3))] (lblks 0 [boxB (α := Sky) false s]) 1) (fun z4 : Unit => LS.mk [(1, .sc (.int .i64 id_)), (3, .ptr 0 0 0)] (lblks 0 [boxB (α := Sky) false s]) 1) (sky_Rate.l1 s id_ t) hR (s0 := 0) (Weak.turnL [(0, 0)] [] rfl rfl (tc (.sc _) (tc (.sc _) (tc (trP' rfl rfl rfl rfl) (tc trR1 (tc (.sc _) (tc (.sc _) tn)))))) (mc rfl (.box rfl (.cons (.sc _) (.cons trR1 (.cons trR1 (.cons trR1 (.cons (.sc _) (.cons (.sc _) (.cons (.sc _) (.cons (.sc _) (.cons (.sc _) (.cons (.sc _) (.cons (.sc _) (.cons (.sc _) (.nil))))))))))))) rfl) mn)) (fun s3 o3 hR hE3 => ?_) fun z4 hR => ?_
    · unfold sky_Rate.l1 at hR
      refine AWP.sq ?_
      refine AWP.rgC 5 rfl rfl ?_
      refine pu (v := .sc _) rfl rfl (fun _ => rfl) ?_
      refine RunC.fin ?_
      refine AWP.sq ?_
      refine AWP.cd hR rfl (fun h5 hR => ?_) fun h5 hR => ?_
      · refine AWP.skip ?_
        refine skT ?_
        refine AWP.sq ?_
        refine AWP.block ?_
        refine AWP.sq ?_
        refine AWP.rgC 21 rfl rfl ?_
        obtain ⟨h6, hR⟩ := chkE hR
        refine ixL (α := Star) rfl rfl rfl ti57 rfl ti34 rfl h6 ?_
        refine ldR (v := .agg _) rfl rfl ti34 rfl ?_
        refine al (cs := [.sc (.int .i64 0), .sc (.int .i64 0), .sc (.int .i64 0), .sc (.int .i64 0), .sc (.int .i64 0), .sc (.slice none 0 0), .sc (.int .i64 0), .sc (.int .i64 0), .sc (.int .i64 0)]) 13 rfl rfl ti34 rfl rfl ?_
        refine stB (cs' := [.sc (.int .i64 (gt s.Stars s3).ID), .sc (.int .i64 (gt s.Stars s3).At.X), .sc (.int .i64 (gt s.Stars s3).At.Y), .sc (.int .i64 (gt s.Stars s3).At.Z), .sc (.int .i64 (gt s.Stars s3).Rate), rowV (α := Int) false (gt s.Stars s3).Wave, .sc (.int .i64 (gt s.Stars s3).Period), .sc (.int .i64 (gt s.Stars s3).From), .sc (.int .i64 (gt s.Stars s3).To)]) rfl rfl rfl rfl ti34 rfl rfl rfl rfl rfl ?_
        refine RunC.fin ?_
        refine AWP.sq ?_
        refine AWP.rgC 37 rfl rfl ?_
        refine fa rfl rfl ti34 rfl rfl ti3 rfl ?_
        refine ldB (v := .sc _) rfl rfl rfl rfl ti3 rfl rfl ?_
        refine pu (v := .sc _) rfl rfl (fun _ => rfl) ?_
        refine pu (v := .sc _) rfl rfl (fun _ => rfl) ?_
        refine RunC.fin ?_
        refine AWP.cd hR rfl (fun h7 hR => ?_) fun h7 hR => ?_
        · refine AWP.sq ?_
          refine AWP.rgC 57 rfl rfl ?_
          refine ldB (v := .agg _) rfl rfl rfl rfl ti34 rfl rfl ?_
          refine pu (v := .sc _) rfl rfl (fun _ => rfl) ?_
          obtain ⟨r8, hr8, hR⟩ := bindE hR
          refine cls [] rfl rfl cb32 (ok32 (gt s.Stars s3) t _ hr8) (.cons (.agg (.cons (.sc _) (.cons (.sc _) (.cons (.sc _) (.cons (.sc _) (.cons (.sc _) (.cons ldR' (.cons (.sc _) (.cons (.sc _) (.cons (.sc _) (.nil)))))))))) rfl) (.cons (.sc _) (.nil))) (.inr rfl) rfl ?_
          refine pu (v := .sc _) rfl rfl (fun _ => rfl) ?_
          refine pu (v := .sc _) rfl rfl (fun _ => rfl) ?_
          refine RunC.fin ?_
          refine AWP.ret ?_
          refine rtB ?_
          refine rtT ?_
          refine rtT ?_
          refine rtB (rtT ?_)
          replace hR := escL hR hE3
          refine rtT ?_
          have hR := Option.some.inj hR; subst hR
          exact hQ _ _ (LS.mk [(6, .sc (.int .i64 r8)), (7, .sc (.int .i64 0))] (lblks 0 []) 0) (.tup [.sc (.int .i64 r8), .sc (.int .i64 0)]) [] (.inr rfl) (Weak.turnL [] [] rfl rfl (tc (.sc _) (tc (.sc _) tn)) mn) (ro2 (rvT (v := .sc (.int .i64 r8)) rfl) (rvT (v := .sc (.int .i64 0)) rfl)) rfl rfl (.tup (.cons (.sc _) (.cons (.sc _) .nil))) pn
        · refine AWP.skip ?_
          refine skB ?_
          refine skT ?_
          refine AWP.rgC 45 rfl rfl ?_
          refine pu (v := .sc _) rfl rfl (fun _ => rfl) ?_
          refine pu (v := .sc _) rfl rfl (fun _ => rfl) ?_
          refine RunC.fin ?_
          refine ⟨(w6 (s3 + 1)), (Option.some.inj hR).symm, ?_⟩
          exact Weak.turnL [(0, 0)] [] rfl rfl (tc (.sc _) (tc (.sc _) (tc (trP' rfl rfl rfl rfl) (tc trR1 (tc (.sc _) (tc (.sc _) tn)))))) (mc rfl (.box rfl (.cons (.sc _) (.cons trR1 (.cons trR1 (.cons trR1 (.cons (.sc _) (.cons (.sc _) (.cons (.sc _) (.cons (.sc _) (.cons (.sc _) (.cons (.sc _) (.cons (.sc _) (.cons (.sc _) (.nil))))))))))))) rfl) mn)
      · refine AWP.exit ?_
        refine exT ?_
        refine exT ?_
        refine exH (skT ?_)
        refine ⟨(), (Option.some.inj hR).symm, ?_⟩
        exact Weak.turnL [(0, 0)] [] rfl rfl (tc (.sc _) (tc (trP' rfl rfl rfl rfl) tn)) (mc rfl (.box rfl (.cons (.sc _) (.cons trR1 (.cons trR1 (.cons trR1 (.cons (.sc _) (.cons (.sc _) (.cons (.sc _) (.cons (.sc _) (.cons (.sc _) (.cons (.sc _) (.cons (.sc _) (.cons (.sc _) (.nil))))))))))))) rfl) mn)
    · refine skT ?_
      refine AWP.sq ?_
      refine AWP.sq ?_
      refine AWP.rgC 17 rfl rfl ?_
      refine fa rfl rfl ti63 rfl rfl ti58 rfl ?_
      refine ldB (v := rowV _ s.Galaxies) rfl rfl rfl rfl ti58 rfl rfl ?_
      refine lenL (α := Galaxy) rfl rfl ti58 rfl ?_
      refine pu (v := .sc _) rfl rfl (fun _ => rfl) ?_
      refine RunC.fin ?_
      refine AWP.loopK' (fun s9 : Int => LS.mk [(1, .sc (.int .i64 id_)), (3, .ptr 0 0 0), (37, rowV (α := Galaxy) false s.Galaxies), (38, .sc (.int .i64 (s.Galaxies.length : Int))), (39, .sc (.int .i64 s9))] (lblks 0 [boxB (α := Sky) false s]) 1) (fun z10 : Unit => LS.mk [(1, .sc (.int .i64 id_)), (3, .ptr 0 0 0)] (lblks 0 [boxB (α := Sky) false s]) 1) (sky_Rate.l2 s id_) hR (s0 := 0) (Weak.turnL [(0, 0)] [] rfl rfl (tc (.sc _) (tc (trP' rfl rfl rfl rfl) (tc trR1 (tc (.sc _) (tc (.sc _) tn))))) (mc rfl (.box rfl (.cons (.sc _) (.cons trR1 (.cons trR1 (.cons trR1 (.cons (.sc _) (.cons (.sc _) (.cons (.sc _) (.cons (.sc _) (.cons (.sc _) (.cons (.sc _) (.cons (.sc _) (.cons (.sc _) (.nil))))))))))))) rfl) mn)) (fun s9 o9 hR hE9 => ?_) fun z10 hR => ?_
      · unfold sky_Rate.l2 at hR
        refine AWP.sq ?_
        refine AWP.rgC 5 rfl rfl ?_
        refine pu (v := .sc _) rfl rfl (fun _ => rfl) ?_
        refine RunC.fin ?_
        refine AWP.sq ?_
        refine AWP.cd hR rfl (fun h11 hR => ?_) fun h11 hR => ?_
        · refine AWP.skip ?_
          refine skT ?_
          refine AWP.sq ?_
          refine AWP.block ?_
          refine AWP.sq ?_
          refine AWP.rgC 21 rfl rfl ?_
          obtain ⟨h12, hR⟩ := chkE hR
          refine ixL (α := Galaxy) rfl rfl rfl ti58 rfl ti81 rfl h12 ?_
          refine ldR (v := .agg _) rfl rfl ti81 rfl ?_
          refine al (cs := [.sc (.int .i64 0), .sc (.int .i64 0), .sc (.int .i64 0), .sc (.int .i64 0), .sc (.int .i64 0), .sc (.int .i64 0), .sc (.int .i64 0)]) 13 rfl rfl ti81 rfl rfl ?_
          refine stB (cs' := [.sc (.int .i64 (gt s.Galaxies s9).ID), .sc (.int .i64 (gt s.Galaxies s9).At.X), .sc (.int .i64 (gt s.Galaxies s9).At.Y), .sc (.int .i64 (gt s.Galaxies s9).At.Z), .sc (.int .i64 (gt s.Galaxies s9).Rate), .sc (.int .i64 (gt s.Galaxies s9).Wide), .sc (.int .i64 (gt s.Galaxies s9).High)]) rfl rfl rfl rfl ti81 rfl rfl rfl rfl rfl ?_
          refine RunC.fin ?_
          refine AWP.sq ?_
          refine AWP.rgC 37 rfl rfl ?_
          refine fa rfl rfl ti81 rfl rfl ti3 rfl ?_
          refine ldB (v := .sc _) rfl rfl rfl rfl ti3 rfl rfl ?_
          refine pu (v := .sc _) rfl rfl (fun _ => rfl) ?_
          refine pu (v := .sc _) rfl rfl (fun _ => rfl) ?_
          refine RunC.fin ?_
          refine AWP.cd hR rfl (fun h13 hR => ?_) fun h13 hR => ?_
          · refine AWP.sq ?_
            refine AWP.rgC 53 rfl rfl ?_
            refine fa rfl rfl ti81 rfl rfl ti29 rfl ?_
            refine ldB (v := .sc _) rfl rfl rfl rfl ti29 rfl rfl ?_
            refine pu (v := .sc _) rfl rfl (fun _ => rfl) ?_
            refine pu (v := .sc _) rfl rfl (fun _ => rfl) ?_
            refine RunC.fin ?_
            refine AWP.ret ?_
            refine rtB ?_
            refine rtT ?_
            refine rtT ?_
            refine rtB (rtT ?_)
            replace hR := escL hR hE9
            refine rtT ?_
            have hR := Option.some.inj hR; subst hR
            exact hQ _ _ (LS.mk [(6, .sc (.int .i64 (gt s.Galaxies s9).Rate)), (7, .sc (.int .i64 0))] (lblks 0 []) 0) (.tup [.sc (.int .i64 (gt s.Galaxies s9).Rate), .sc (.int .i64 0)]) [] (.inr rfl) (Weak.turnL [] [] rfl rfl (tc (.sc _) (tc (.sc _) tn)) mn) (ro2 (rvT (v := .sc (.int .i64 (gt s.Galaxies s9).Rate)) rfl) (rvT (v := .sc (.int .i64 0)) rfl)) rfl rfl (.tup (.cons (.sc _) (.cons (.sc _) .nil))) pn
          · refine AWP.skip ?_
            refine skB ?_
            refine skT ?_
            refine AWP.rgC 45 rfl rfl ?_
            refine pu (v := .sc _) rfl rfl (fun _ => rfl) ?_
            refine pu (v := .sc _) rfl rfl (fun _ => rfl) ?_
            refine RunC.fin ?_
            refine ⟨(w6 (s9 + 1)), (Option.some.inj hR).symm, ?_⟩
            exact Weak.turnL [(0, 0)] [] rfl rfl (tc (.sc _) (tc (trP' rfl rfl rfl rfl) (tc trR1 (tc (.sc _) (tc (.sc _) tn))))) (mc rfl (.box rfl (.cons (.sc _) (.cons trR1 (.cons trR1 (.cons trR1 (.cons (.sc _) (.cons (.sc _) (.cons (.sc _) (.cons (.sc _) (.cons (.sc _) (.cons (.sc _) (.cons (.sc _) (.cons (.sc _) (.nil))))))))))))) rfl) mn)
        · refine AWP.exit ?_
          refine exT ?_
          refine exT ?_
          refine exH (skT ?_)
          refine ⟨(), (Option.some.inj hR).symm, ?_⟩
          exact Weak.turnL [(0, 0)] [] rfl rfl (tc (.sc _) (tc (trP' rfl rfl rfl rfl) tn)) (mc rfl (.box rfl (.cons (.sc _) (.cons trR1 (.cons trR1 (.cons trR1 (.cons (.sc _) (.cons (.sc _) (.cons (.sc _) (.cons (.sc _) (.cons (.sc _) (.cons (.sc _) (.cons (.sc _) (.cons (.sc _) (.nil))))))))))))) rfl) mn)
      · refine skT ?_
        refine AWP.sq ?_
        refine AWP.sq ?_
        refine AWP.rgC 17 rfl rfl ?_
        refine fa rfl rfl ti63 rfl rfl ti59 rfl ?_
        refine ldB (v := rowV _ s.Bodies) rfl rfl rfl rfl ti59 rfl rfl ?_
        refine lenL (α := Body) rfl rfl ti59 rfl ?_
        refine pu (v := .sc _) rfl rfl (fun _ => rfl) ?_
        refine RunC.fin ?_
        refine AWP.loopK' (fun s14 : Int => LS.mk [(1, .sc (.int .i64 id_)), (51, rowV (α := Body) false s.Bodies), (52, .sc (.int .i64 (s.Bodies.length : Int))), (53, .sc (.int .i64 s14))] (lblks 0 []) 0) (fun z15 : Unit => LS.mk [] (lblks 0 []) 0) (sky_Rate.l3 s id_) hR (s0 := 0) (Weak.turnL [] [] rfl rfl (tc (.sc _) (tc trR1 (tc (.sc _) (tc (.sc _) tn)))) mn) (fun s14 o14 hR hE14 => ?_) fun z15 hR => ?_
        · unfold sky_Rate.l3 at hR
          refine AWP.sq ?_
          refine AWP.rgC 4 rfl rfl ?_
          refine pu (v := .sc _) rfl rfl (fun _ => rfl) ?_
          refine RunC.fin ?_
          refine AWP.sq ?_
          refine AWP.cd hR rfl (fun h16 hR => ?_) fun h16 hR => ?_
          · refine AWP.skip ?_
            refine skT ?_
            refine AWP.sq ?_
            refine AWP.block ?_
            refine AWP.sq ?_
            refine AWP.rgC 20 rfl rfl ?_
            obtain ⟨h17, hR⟩ := chkE hR
            refine ixL (α := Body) rfl rfl rfl ti59 rfl ti61 rfl h17 ?_
            refine ldR (v := .agg _) rfl rfl ti61 rfl ?_
            refine al (cs := [.sc (.int .i64 0), .sc (.int .i64 0), .sc (.int .i64 0), .sc (.int .i64 0), .sc (.int .i64 0), .sc (.int .i64 0), .sc (.int .i64 0), .sc (.int .i64 0)]) 12 rfl rfl ti61 rfl rfl ?_
            refine stB (cs' := [.sc (.int .i64 (gt s.Bodies s14).ID), .sc (.int .i64 (gt s.Bodies s14).Was.X), .sc (.int .i64 (gt s.Bodies s14).Was.Y), .sc (.int .i64 (gt s.Bodies s14).Was.Z), .sc (.int .i64 (gt s.Bodies s14).Here.X), .sc (.int .i64 (gt s.Bodies s14).Here.Y), .sc (.int .i64 (gt s.Bodies s14).Here.Z), .sc (.int .i64 (gt s.Bodies s14).Rate)]) rfl rfl rfl rfl ti61 rfl rfl rfl rfl rfl ?_
            refine RunC.fin ?_
            refine AWP.sq ?_
            refine AWP.rgC 36 rfl rfl ?_
            refine fa rfl rfl ti61 rfl rfl ti3 rfl ?_
            refine ldB (v := .sc _) rfl rfl rfl rfl ti3 rfl rfl ?_
            refine pu (v := .sc _) rfl rfl (fun _ => rfl) ?_
            refine pu (v := .sc _) rfl rfl (fun _ => rfl) ?_
            refine RunC.fin ?_
            refine AWP.cd hR rfl (fun h18 hR => ?_) fun h18 hR => ?_
            · refine AWP.sq ?_
              refine AWP.rgC 52 rfl rfl ?_
              refine fa rfl rfl ti61 rfl rfl ti29 rfl ?_
              refine ldB (v := .sc _) rfl rfl rfl rfl ti29 rfl rfl ?_
              refine pu (v := .sc _) rfl rfl (fun _ => rfl) ?_
              refine pu (v := .sc _) rfl rfl (fun _ => rfl) ?_
              refine RunC.fin ?_
              refine AWP.ret ?_
              refine rtB ?_
              refine rtT ?_
              refine rtT ?_
              refine rtB (rtT ?_)
              replace hR := escL hR hE14
              refine rtT ?_
              have hR := Option.some.inj hR; subst hR
              exact hQ _ _ (LS.mk [(6, .sc (.int .i64 (gt s.Bodies s14).Rate)), (7, .sc (.int .i64 0))] (lblks 0 []) 0) (.tup [.sc (.int .i64 (gt s.Bodies s14).Rate), .sc (.int .i64 0)]) [] (.inr rfl) (Weak.turnL [] [] rfl rfl (tc (.sc _) (tc (.sc _) tn)) mn) (ro2 (rvT (v := .sc (.int .i64 (gt s.Bodies s14).Rate)) rfl) (rvT (v := .sc (.int .i64 0)) rfl)) rfl rfl (.tup (.cons (.sc _) (.cons (.sc _) .nil))) pn
            · refine AWP.skip ?_
              refine skB ?_
              refine skT ?_
              refine AWP.rgC 44 rfl rfl ?_
              refine pu (v := .sc _) rfl rfl (fun _ => rfl) ?_
              refine pu (v := .sc _) rfl rfl (fun _ => rfl) ?_
              refine RunC.fin ?_
              refine ⟨(w6 (s14 + 1)), (Option.some.inj hR).symm, ?_⟩
              exact Weak.turnL [] [] rfl rfl (tc (.sc _) (tc trR1 (tc (.sc _) (tc (.sc _) tn)))) mn
          · refine AWP.exit ?_
            refine exT ?_
            refine exT ?_
            refine exH (skT ?_)
            refine ⟨(), (Option.some.inj hR).symm, ?_⟩
            exact Weak.turnL [] [] rfl rfl tn mn
        · refine skT ?_
          refine AWP.sq ?_
          refine AWP.rgC 8 rfl rfl ?_
          refine pu (v := .sc _) rfl rfl (fun _ => rfl) ?_
          refine pu (v := .sc _) rfl rfl (fun _ => rfl) ?_
          refine RunC.fin ?_
          refine AWP.ret ?_
          have hR := Option.some.inj hR; subst hR
          exact hQ _ _ (LS.mk [(6, .sc (.int .i64 0)), (7, .sc (.int .i64 8))] (lblks 0 []) 0) (.tup [.sc (.int .i64 0), .sc (.int .i64 8)]) [] (.inr rfl) (Weak.turnL [] [] rfl rfl (tc (.sc _) (tc (.sc _) tn)) mn) (ro2 (rvT (v := .sc (.int .i64 0)) rfl) (rvT (v := .sc (.int .i64 8)) rfl)) rfl rfl (.tup (.cons (.sc _) (.cons (.sc _) .nil))) pn
theorem ok15 (x : Int) (n : Int) (r : Int) (hR : spymake_Below x n = some r) : FnP Try.prog 15 [.sc (.int .i64 x), .sc (.int .i64 n)] (.sc (.int .i64 r)) := by
  refine fnP_of (FnX.walk Try.func15 rfl 16 0 (by simp [Try.ntmps15]) rfl fun W S F Q hQ => ?_)
  unfold spymake_Below at hR
  refine AWP.sq ?_
  refine AWP.rgC 4 rfl rfl ?_
  refine pu (v := .sc _) rfl rfl (fun _ => rfl) ?_
  refine RunC.fin ?_
  refine AWP.sq ?_
  refine AWP.sq ?_
  refine AWP.rgC 12 rfl rfl ?_
  refine pu (v := .sc _) rfl rfl (fun _ => rfl) ?_
  refine pu (v := .sc _) rfl rfl (fun _ => rfl) ?_
  refine RunC.fin ?_
  refine AWP.cd hR rfl (fun h1 hR => ?_) fun h1 hR => ?_
  · refine AWP.sq ?_
    refine AWP.rgC 16 rfl rfl ?_
    refine pu (v := .sc _) rfl rfl (fun _ => rfl) ?_
    refine RunC.fin ?_
    refine AWP.ret ?_
    refine rtT ?_
    have hR := Option.some.inj hR; subst hR
    exact hQ _ _ (LS.mk [(4, .sc (.int .i64 0))] (lblks 0 []) 0) (.sc (.int .i64 0)) [] (.inr rfl) (Weak.turnL [] [] rfl rfl (tc (.sc _) tn) mn) (ro1 (rvT (v := .sc (.int .i64 0)) rfl)) rfl rfl (.sc _) pn
  · refine AWP.skip ?_
    refine skT ?_
    refine AWP.sq ?_
    refine AWP.rgC 28 rfl rfl ?_
    refine pu (v := .sc _) rfl rfl (fun _ => rfl) ?_
    refine pu (v := .sc _) rfl rfl (fun _ => rfl) ?_
    obtain ⟨h2, hR⟩ := chkE hR
    refine rm rfl rfl rfl h2 rfl ?_
    refine pu (v := .sc _) rfl rfl (fun _ => rfl) ?_
    refine RunC.fin ?_
    refine AWP.sq ?_
    refine AWP.sq ?_
    refine AWP.rgC 36 rfl rfl ?_
    refine pu (v := .sc _) rfl rfl (fun _ => rfl) ?_
    refine pu (v := .sc _) rfl rfl (fun _ => rfl) ?_
    refine RunC.fin ?_
    refine AWP.cd hR rfl (fun h3 hR => ?_) fun h3 hR => ?_
    · refine AWP.rgC 52 rfl rfl ?_
      refine pu (v := .sc _) rfl rfl (fun _ => rfl) ?_
      refine pu (v := .sc _) rfl rfl (fun _ => rfl) ?_
      refine pu (v := .sc _) rfl rfl (fun _ => rfl) ?_
      refine pu (v := .sc _) rfl rfl (fun _ => rfl) ?_
      refine RunC.fin ?_
      refine AWP.sq ?_
      refine AWP.rgC 60 rfl rfl ?_
      refine pu (v := .sc _) rfl rfl (fun _ => rfl) ?_
      refine pu (v := .sc _) rfl rfl (fun _ => rfl) ?_
      refine RunC.fin ?_
      refine AWP.ret ?_
      have hR := Option.some.inj hR; subst hR
      exact hQ _ _ (LS.mk [(4, .sc (.int .i64 (w6 ((Int.tmod x n) + n))))] (lblks 0 []) 0) (.sc (.int .i64 (w6 ((Int.tmod x n) + n)))) [] (.inr rfl) (Weak.turnL [] [] rfl rfl (tc (.sc _) tn) mn) (ro1 (rvT (v := .sc (.int .i64 (w6 ((Int.tmod x n) + n)))) rfl)) rfl rfl (.sc _) pn
    · refine AWP.skip ?_
      refine skT ?_
      refine AWP.sq ?_
      refine AWP.rgC 44 rfl rfl ?_
      refine pu (v := .sc _) rfl rfl (fun _ => rfl) ?_
      refine pu (v := .sc _) rfl rfl (fun _ => rfl) ?_
      refine RunC.fin ?_
      refine AWP.ret ?_
      have hR := Option.some.inj hR; subst hR
      exact hQ _ _ (LS.mk [(4, .sc (.int .i64 (Int.tmod x n)))] (lblks 0 []) 0) (.sc (.int .i64 (Int.tmod x n))) [] (.inr rfl) (Weak.turnL [] [] rfl rfl (tc (.sc _) tn) mn) (ro1 (rvT (v := .sc (.int .i64 (Int.tmod x n))) rfl)) rfl rfl (.sc _) pn
theorem ok5 (s : spymake_Stream) (n : Int) (r : Int × spymake_Stream) (hR : Stream_Next s n = some r) : FnD Try.prog 5 [boxB false s] [.ptr 0 0 0, .sc (.int .i64 n)] (.sc (.int .i64 r.1)) [boxB false r.2] := by
  refine FnX.walk Try.func5 rfl 64 1 (by simp [Try.ntmps5]) rfl fun W S F Q hQ => ?_
  unfold Stream_Next at hR
  refine AWP.sq ?_
  refine AWP.rgC 5 rfl rfl ?_
  refine pu (v := .sc _) rfl rfl (fun _ => rfl) ?_
  refine RunC.fin ?_
  refine AWP.sq ?_
  refine AWP.rgC 37 rfl rfl ?_
  refine pu (v := .ptr _ _ _) rfl rfl (fun _ => rfl) ?_
  refine pu (v := .ptr _ _ _) rfl rfl (fun _ => rfl) ?_
  refine fa rfl rfl ti25 rfl rfl ti3 rfl ?_
  refine ldB (v := .sc _) rfl rfl rfl rfl ti3 rfl rfl ?_
  refine pu (v := .sc _) rfl rfl (fun _ => rfl) ?_
  refine pu (v := .ptr _ _ _) rfl rfl (fun _ => rfl) ?_
  refine fa rfl rfl ti25 rfl rfl ti3 rfl ?_
  refine stB (cs' := [rowV (α := Int) false s.L, .sc (.int .i64 (w6 (s.at_ + 1)))]) rfl rfl rfl rfl ti3 rfl rfl rfl rfl rfl ?_
  refine RunC.fin ?_
  refine AWP.sq ?_
  refine AWP.sq ?_
  refine AWP.rgC 61 rfl rfl ?_
  refine pu (v := .ptr _ _ _) rfl rfl (fun _ => rfl) ?_
  refine pu (v := .ptr _ _ _) rfl rfl (fun _ => rfl) ?_
  refine fa rfl rfl ti25 rfl rfl ti22 rfl ?_
  refine ldB (v := rowV _ s.L) rfl rfl rfl rfl ti22 rfl rfl ?_
  refine lenL (α := Int) rfl rfl ti22 rfl ?_
  refine pu (v := .sc _) rfl rfl (fun _ => rfl) ?_
  refine RunC.fin ?_
  refine AWP.cd hR rfl (fun h1 hR => ?_) fun h1 hR => ?_
  · refine AWP.sq ?_
    refine AWP.rgC 93 rfl rfl ?_
    refine pu (v := .ptr _ _ _) rfl rfl (fun _ => rfl) ?_
    refine pu (v := .ptr _ _ _) rfl rfl (fun _ => rfl) ?_
    refine fa rfl rfl ti25 rfl rfl ti3 rfl ?_
    refine ldB (v := .sc _) rfl rfl rfl rfl ti3 rfl rfl ?_
    refine pu (v := .sc _) rfl rfl (fun _ => rfl) ?_
    refine pu (v := .sc _) rfl rfl (fun _ => rfl) ?_
    obtain ⟨r2, hr2, hR⟩ := bindE hR
    refine cls [] rfl rfl cb15 (ok15 (w6 ((w6 (s.at_ + 1)) * 7919)) n _ hr2) (.cons (.sc _) (.cons (.sc _) (.nil))) (.inr rfl) rfl ?_
    refine pu (v := .sc _) rfl rfl (fun _ => rfl) ?_
    refine RunC.fin ?_
    refine AWP.ret ?_
    refine rtT ?_
    have hR := Option.some.inj hR; subst hR
    exact hQ _ _ (LS.mk [(4, .sc (.int .i64 r2))] (lblks 0 [boxB (α := spymake_Stream) false (spymake_Stream.mk s.L (w6 (s.at_ + 1)))]) 1) (.sc (.int .i64 r2)) [] (.inr rfl) (Weak.turnL [(0, 0)] [] rfl rfl (tc (.sc _) tn) (mc rfl (.box rfl (.cons trR1 (.cons (.sc _) (.nil))) rfl) mn)) (ro1 (rvT (v := .sc (.int .i64 r2)) rfl)) rfl rfl (.sc _) (pc rfl bldB pn)
  · refine AWP.skip ?_
    refine skT ?_
    refine AWP.sq ?_
    refine AWP.rgD 109 [0, 1, 3, 7, 15, 0, 32, 96, 224, 480, 1023, 2047] ⟨[], [none, none, none, some [0], none, none, none, none, some [0], none, none, none]⟩ hmix (by kernel_rfl) rfl rfl ?_
    refine pu (v := .ptr _ _ _) rfl rfl (fun _ => rfl) ?_
    refine pu (v := .ptr _ _ _) rfl rfl (fun _ => rfl) ?_
    refine fa rfl rfl ti25 rfl rfl ti3 rfl ?_
    refine ldB (v := .sc _) rfl rfl rfl rfl ti3 rfl rfl ?_
    refine pu (v := .sc _) rfl rfl (fun _ => rfl) ?_
    refine pu (v := .ptr _ _ _) rfl rfl (fun _ => rfl) ?_
    refine pu (v := .ptr _ _ _) rfl rfl (fun _ => rfl) ?_
    refine fa rfl rfl ti25 rfl rfl ti22 rfl ?_
    refine ldB (v := rowV _ s.L) rfl rfl rfl rfl ti22 rfl rfl ?_
    refine lenL (α := Int) rfl rfl ti22 rfl ?_
    obtain ⟨h3, hR⟩ := chkE hR
    refine rm rfl rfl rfl h3 rfl ?_
    refine pu (v := .sc _) rfl rfl (fun _ => rfl) ?_
    refine RunC.fin ?_
    refine AWP.sq ?_
    refine AWP.rgD 157 [0, 1, 3, 7, 15, 0, 32, 96, 224, 480, 1023, 2047] ⟨[], [none, none, none, some [0], none, none, none, none, some [0], none, none, none]⟩ hmix (by kernel_rfl) rfl rfl ?_
    refine pu (v := .ptr _ _ _) rfl rfl (fun _ => rfl) ?_
    refine pu (v := .ptr _ _ _) rfl rfl (fun _ => rfl) ?_
    refine fa rfl rfl ti25 rfl rfl ti3 rfl ?_
    refine ldB (v := .sc _) rfl rfl rfl rfl ti3 rfl rfl ?_
    refine pu (v := .sc _) rfl rfl (fun _ => rfl) ?_
    refine pu (v := .ptr _ _ _) rfl rfl (fun _ => rfl) ?_
    refine pu (v := .ptr _ _ _) rfl rfl (fun _ => rfl) ?_
    refine fa rfl rfl ti25 rfl rfl ti22 rfl ?_
    refine ldB (v := rowV _ s.L) rfl rfl rfl rfl ti22 rfl rfl ?_
    refine lenL (α := Int) rfl rfl ti22 rfl ?_
    refine qu rfl rfl rfl h3 rfl ?_
    refine pu (v := .sc _) rfl rfl (fun _ => rfl) ?_
    refine RunC.fin ?_
    refine AWP.sq ?_
    refine AWP.rgC 221 rfl rfl ?_
    refine pu (v := .ptr _ _ _) rfl rfl (fun _ => rfl) ?_
    refine pu (v := .ptr _ _ _) rfl rfl (fun _ => rfl) ?_
    refine fa rfl rfl ti25 rfl rfl ti22 rfl ?_
    refine ldB (v := rowV _ s.L) rfl rfl rfl rfl ti22 rfl rfl ?_
    refine pu (v := .sc _) rfl rfl (fun _ => rfl) ?_
    obtain ⟨h4, hR⟩ := chkE hR
    refine ixL (α := Int) rfl rfl rfl ti22 rfl ti3 rfl h4 ?_
    refine ldR (v := .sc _) rfl rfl ti3 rfl ?_
    obtain ⟨r5, hr5, hR⟩ := bindE hR
    refine cls [] rfl rfl cb15 (ok15 (gt s.L (Int.tmod (w6 ((w6 (s.at_ + 1)) - 1)) (s.L.length : Int))) 1073741824 _ hr5) (.cons (.sc _) (.cons (.sc _) (.nil))) (.inr rfl) rfl ?_
    refine pu (v := .sc _) rfl rfl (fun _ => rfl) ?_
    refine pu (v := .sc _) rfl rfl (fun _ => rfl) ?_
    obtain ⟨v6, ev6, hR⟩ := letE hR
    refine pu (v := .sc _) rfl rfl (fun _ => puI ev6) ?_
    obtain ⟨v7, ev7, hR⟩ := letE hR
    refine pu (v := .sc _) rfl rfl (fun _ => puI ev7) ?_
    refine pu (v := .sc _) rfl rfl (fun _ => rfl) ?_
    refine pu (v := .sc _) rfl rfl (fun _ => rfl) ?_
    obtain ⟨r8, hr8, hR⟩ := bindE hR
    refine cls [] rfl rfl cb15 (ok15 (w6 (r5 + v7)) n _ hr8) (.cons (.sc _) (.cons (.sc _) (.nil))) (.inr rfl) rfl ?_
    refine pu (v := .sc _) rfl rfl (fun _ => rfl) ?_
    refine RunC.fin ?_
    refine AWP.ret ?_
    have hR := Option.some.inj hR; subst hR
    exact hQ _ _ (LS.mk [(4, .sc (.int .i64 r8))] (lblks 0 [boxB (α := spymake_Stream) false (spymake_Stream.mk s.L (w6 (s.at_ + 1)))]) 1) (.sc (.int .i64 r8)) [] (.inr rfl) (Weak.turnL [(0, 0)] [] rfl rfl (tc (.sc _) tn) (mc rfl (.box rfl (.cons trR1 (.cons (.sc _) (.nil))) rfl) mn)) (ro1 (rvT (v := .sc (.int .i64 r8)) rfl)) rfl rfl (.sc _) (pc rfl bldB pn)
theorem ok14 (s : spymake_Stream) (low : Int) (high : Int) (r : Int × spymake_Stream) (hR : Stream_Range s low high = some r) : FnD Try.prog 14 [boxB false s] [.ptr 0 0 0, .sc (.int .i64 low), .sc (.int .i64 high)] (.sc (.int .i64 r.1)) [boxB false r.2] := by
  refine FnX.walk Try.func14 rfl 19 1 (by simp [Try.ntmps14]) rfl fun W S F Q hQ => ?_
  unfold Stream_Range at hR
  refine AWP.sq ?_
  refine AWP.rgC 5 rfl rfl ?_
  refine pu (v := .sc _) rfl rfl (fun _ => rfl) ?_
  refine RunC.fin ?_
  refine AWP.sq ?_
  refine AWP.sq ?_
  refine AWP.rgC 17 rfl rfl ?_
  refine pu (v := .sc _) rfl rfl (fun _ => rfl) ?_
  refine pu (v := .sc _) rfl rfl (fun _ => rfl) ?_
  refine pu (v := .sc _) rfl rfl (fun _ => rfl) ?_
  refine RunC.fin ?_
  refine AWP.cd hR rfl (fun h1 hR => ?_) fun h1 hR => ?_
  · refine AWP.sq ?_
    refine AWP.rgC 25 rfl rfl ?_
    refine pu (v := .sc _) rfl rfl (fun _ => rfl) ?_
    refine pu (v := .sc _) rfl rfl (fun _ => rfl) ?_
    refine RunC.fin ?_
    refine AWP.ret ?_
    refine rtT ?_
    have hR := Option.some.inj hR; subst hR
    exact hQ _ _ (LS.mk [(6, .sc (.int .i64 low))] (lblks 0 [boxB (α := spymake_Stream) false s]) 1) (.sc (.int .i64 low)) [] (.inr rfl) (Weak.turnL [(0, 0)] [] rfl rfl (tc (.sc _) tn) (mc rfl (.box rfl (.cons trR1 (.cons (.sc _) (.nil))) rfl) mn)) (ro1 (rvT (v := .sc (.int .i64 low)) rfl)) rfl rfl (.sc _) (pc rfl bldB pn)
  · refine AWP.skip ?_
    refine skT ?_
    refine AWP.sq ?_
    refine AWP.rgC 53 rfl rfl ?_
    refine pu (v := .sc _) rfl rfl (fun _ => rfl) ?_
    refine pu (v := .ptr _ _ _) rfl rfl (fun _ => rfl) ?_
    refine pu (v := .sc _) rfl rfl (fun _ => rfl) ?_
    refine pu (v := .sc _) rfl rfl (fun _ => rfl) ?_
    refine pu (v := .sc _) rfl rfl (fun _ => rfl) ?_
    refine pu (v := .sc _) rfl rfl (fun _ => rfl) ?_
    obtain ⟨r2, hr2, hR⟩ := bindE hR
    refine cps (res' := .sc (.int .i64 r2.1)) (ups := [(0, boxB (α := spymake_Stream) false r2.2)]) [0] 41 rfl rfl rfl cb5 (ok5 s (w6 ((w6 (high - low)) + 1)) _ hr2) (.cons (ldP rfl rfl) (.cons (.sc _) (.nil))) (pc rfl (.box (.cons ldR' (.cons (.sc _) (.nil))) rfl) pn) rfl rfl rfl rfl rfl (by first | rfl | exact renR | exact renA | exact renS | simp only [V.ren, V.rens, renR, renA, renS] | (simp only [V.ren, V.rens, renR, renA, renS]; rfl)) (by simp only [passUps, renBox, renArr]; rfl) ?_
    refine pu (v := .sc _) rfl rfl (fun _ => rfl) ?_
    refine pu (v := .sc _) rfl rfl (fun _ => rfl) ?_
    refine RunC.fin ?_
    refine AWP.ret ?_
    have hR := Option.some.inj hR; subst hR
    exact hQ _ _ (LS.mk [(6, .sc (.int .i64 (w6 (low + r2.1))))] (lblks 0 [boxB (α := spymake_Stream) false r2.2]) 1) (.sc (.int .i64 (w6 (low + r2.1)))) [] (.inr rfl) (Weak.turnL [(0, 0)] [] rfl rfl (tc (.sc _) tn) (mc rfl (.box rfl (.cons trR1 (.cons (.sc _) (.nil))) rfl) mn)) (ro1 (rvT (v := .sc (.int .i64 (w6 (low + r2.1)))) rfl)) rfl rfl (.sc _) (pc rfl bldB pn)
theorem ok13 (p : curve_Sample) (q : curve_Sample) (r : Bool) (hR : spykeep4_CurveMerged_1 p q = some r) : FnP Try.prog 13 [aggV false p, aggV false q] (.sc (.bool r)) := by
  refine fnP_of (FnX.walk Try.func13 rfl 10 0 (by simp [Try.ntmps13]) rfl fun W S F Q hQ => ?_)
  unfold spykeep4_CurveMerged_1 at hR
  refine AWP.sq ?_
  refine AWP.rgC 12 rfl rfl ?_
  refine bx (cs := _) 0 rfl rfl rfl ?_
  refine bx (cs := _) 4 rfl rfl rfl ?_
  refine pu (v := .sc _) rfl rfl (fun _ => rfl) ?_
  refine RunC.fin ?_
  refine AWP.sq ?_
  refine AWP.rgC 36 rfl rfl ?_
  refine fa rfl rfl ti53 rfl rfl ti51 rfl ?_
  refine ldB (v := .agg _) rfl rfl rfl rfl ti51 rfl rfl ?_
  refine fa rfl rfl ti53 rfl rfl ti51 rfl ?_
  refine ldB (v := .agg _) rfl rfl rfl rfl ti51 rfl rfl ?_
  refine es (cs := [.sc (.int .i64 p.At.Lo), .sc (.int .i64 p.At.Hi), .sc (.bool p.At.Unknown)]) (ds := [.sc (.int .i64 q.At.Lo), .sc (.int .i64 q.At.Hi), .sc (.bool q.At.Unknown)]) rfl rfl rfl qa51 qg51 (qe51 _ _ _ _ _ _) ?_
  refine pu (v := .sc _) rfl rfl (fun _ => rfl) ?_
  refine RunC.fin ?_
  refine AWP.ret ?_
  have hR := Option.some.inj hR; subst hR
  exact hQ _ _ (LS.mk [(4, .sc (.bool ((p.At.Lo == q.At.Lo) && ((p.At.Hi == q.At.Hi) && ((p.At.Unknown == q.At.Unknown) && (true))))))] (lblks 0 []) 0) (.sc (.bool ((p.At.Lo == q.At.Lo) && ((p.At.Hi == q.At.Hi) && ((p.At.Unknown == q.At.Unknown) && (true)))))) [] (.inr rfl) (Weak.turnL [] [] rfl rfl (tc (.sc _) tn) mn) (ro1 (rvT (v := .sc (.bool ((p.At.Lo == q.At.Lo) && ((p.At.Hi == q.At.Hi) && ((p.At.Unknown == q.At.Unknown) && (true)))))) rfl)) rfl rfl (.sc _) pn
theorem ok9 (l : List curve_Sample) (r : Int) (hR : curve_Check l = some r) : FnP Try.prog 9 [rowV false l] (.sc (.int .i64 r)) := by
  refine fnP_of (FnX.walk Try.func9 rfl 56 0 (by simp [Try.ntmps9]) rfl fun W S F Q hQ => ?_)
  unfold curve_Check at hR
  refine AWP.sq ?_
  refine AWP.rgC 4 rfl rfl ?_
  refine pu (v := .sc _) rfl rfl (fun _ => rfl) ?_
  refine RunC.fin ?_
  refine AWP.sq ?_
  refine AWP.sq ?_
  refine AWP.rgC 16 rfl rfl ?_
  refine pu (v := rowV _ l) rfl rfl (fun _ => rfl) ?_
  refine lenL (α := curve_Sample) rfl rfl ti35 rfl ?_
  refine pu (v := .sc _) rfl rfl (fun _ => rfl) ?_
  refine RunC.fin ?_
  refine AWP.cd hR rfl (fun h1 hR => ?_) fun h1 hR => ?_
  · refine AWP.sq ?_
    refine AWP.rgC 20 rfl rfl ?_
    refine pu (v := .sc _) rfl rfl (fun _ => rfl) ?_
    refine RunC.fin ?_
    refine AWP.ret ?_
    refine rtT ?_
    have hR := Option.some.inj hR; subst hR
    exact hQ _ _ (LS.mk [(2, .sc (.int .i64 2))] (lblks 0 []) 0) (.sc (.int .i64 2)) [] (.inr rfl) (Weak.turnL [] [] rfl rfl (tc (.sc _) tn) mn) (ro1 (rvT (v := .sc (.int .i64 2)) rfl)) rfl rfl (.sc _) pn
  · refine AWP.skip ?_
    refine skT ?_
    refine AWP.sq ?_
    refine AWP.sq ?_
    refine AWP.rgC 28 rfl rfl ?_
    refine pu (v := rowV _ l) rfl rfl (fun _ => rfl) ?_
    refine lenL (α := curve_Sample) rfl rfl ti35 rfl ?_
    refine pu (v := .sc _) rfl rfl (fun _ => rfl) ?_
    refine RunC.fin ?_
    refine AWP.loopK' (fun s2 : Int => LS.mk [(0, rowV (α := curve_Sample) false l), (9, rowV (α := curve_Sample) false l), (10, .sc (.int .i64 (l.length : Int))), (11, .sc (.int .i64 s2))] (lblks 0 []) 0) (fun z3 : Unit => LS.mk [] (lblks 0 []) 0) (curve_Check.l1 l) hR (s0 := 0) (Weak.turnL [] [] rfl rfl (tc trR1 (tc trR1 (tc (.sc _) (tc (.sc _) tn)))) mn) (fun s2 o2 hR hE2 => ?_) fun z3 hR => ?_
    · unfold curve_Check.l1 at hR
      refine AWP.sq ?_
      refine AWP.rgC 4 rfl rfl ?_
      refine pu (v := .sc _) rfl rfl (fun _ => rfl) ?_
      refine RunC.fin ?_
      refine AWP.sq ?_
      refine AWP.cd hR rfl (fun h4 hR => ?_) fun h4 hR => ?_
      · refine AWP.skip ?_
        refine skT ?_
        refine AWP.sq ?_
        refine AWP.block ?_
        refine AWP.sq ?_
        refine AWP.rgC 28 rfl rfl ?_
        refine pu (v := .sc _) rfl rfl (fun _ => rfl) ?_
        obtain ⟨h5, hR⟩ := chkE hR
        refine ixL (α := curve_Sample) rfl rfl rfl ti35 rfl ti53 rfl h5 ?_
        refine ldR (v := .agg _) rfl rfl ti53 rfl ?_
        refine al (cs := [.sc (.int .i64 0), .sc (.int .i64 0), .sc (.bool false), .sc (.int .i64 0), .sc (.int .i64 0), .sc (.bool false)]) 16 rfl rfl ti53 rfl rfl ?_
        refine pu (v := .sc _) rfl rfl (fun _ => rfl) ?_
        refine stB (cs' := [.sc (.int .i64 (gt l s2).At.Lo), .sc (.int .i64 (gt l s2).At.Hi), .sc (.bool (gt l s2).At.Unknown), .sc (.int .i64 (gt l s2).Light.Lo), .sc (.int .i64 (gt l s2).Light.Hi), .sc (.bool (gt l s2).Light.Unknown)]) rfl rfl rfl rfl ti53 rfl rfl rfl rfl rfl ?_
        refine RunC.fin ?_
        refine AWP.sq ?_
        refine AWP.sq ?_
        refine AWP.rgD 64 [0, 1, 3, 0, 8, 31, 63, 127, 255] ⟨[], [none, some [16], none, none, some [16], none, none, none, none]⟩ hmix (by kernel_rfl) rfl rfl ?_
        refine fa rfl rfl ti53 rfl rfl ti51 rfl ?_
        refine ldB (v := .agg _) rfl rfl rfl rfl ti51 rfl rfl ?_
        obtain ⟨r6, hr6, hR⟩ := bindE hR
        refine cls [] rfl rfl cb24 (ok24 (gt l s2).At _ hr6) (.cons (.agg (.cons (.sc _) (.cons (.sc _) (.cons (.sc _) (.nil)))) rfl) (.nil)) (.inr rfl) rfl ?_
        refine fa rfl rfl ti53 rfl rfl ti44 rfl ?_
        refine ldB (v := .agg _) rfl rfl rfl rfl ti44 rfl rfl ?_
        obtain ⟨r7, hr7, hR⟩ := bindE hR
        refine cls [] rfl rfl cb25 (ok25 (gt l s2).Light _ hr7) (.cons (.agg (.cons (.sc _) (.cons (.sc _) (.cons (.sc _) (.nil)))) rfl) (.nil)) (.inr rfl) rfl ?_
        refine bs (α := Int) 52 true ([r6, r7] : List Int) rfl rfl ti85 rfl ti38 rfl rfl rfl rfl rfl ?_
        obtain ⟨r8, hr8, hR⟩ := bindE hR
        refine cls [52] rfl rfl cb19 (ok19 ([r6, r7] : List Int) _ hr8) (.cons (ldS' rfl rfl rfl rfl) (.nil)) (.inl (by first | rfl | exact freshR | exact freshA | (simp only [V.fresh, V.freshs, freshR, freshA, Bool.and_self]))) rfl ?_
        refine pu (v := .sc _) rfl rfl (fun _ => rfl) ?_
        refine RunC.fin ?_
        refine AWP.sq ?_
        refine AWP.rgC 72 rfl rfl ?_
        refine pu (v := .sc _) rfl rfl (fun _ => rfl) ?_
        refine pu (v := .sc _) rfl rfl (fun _ => rfl) ?_
        refine RunC.fin ?_
        refine AWP.cd hR rfl (fun h9 hR => ?_) fun h9 hR => ?_
        · refine AWP.sq ?_
          refine AWP.rgC 80 rfl rfl ?_
          refine pu (v := .sc _) rfl rfl (fun _ => rfl) ?_
          refine pu (v := .sc _) rfl rfl (fun _ => rfl) ?_
          refine RunC.fin ?_
          refine AWP.ret ?_
          refine rtT ?_
          refine rtB ?_
          refine rtT ?_
          refine rtT ?_
          refine rtB (rtT ?_)
          replace hR := escL hR hE2
          refine rtT ?_
          have hR := Option.some.inj hR; subst hR
          exact hQ _ _ (LS.mk [(2, .sc (.int .i64 r8))] (lblks 0 []) 0) (.sc (.int .i64 r8)) [] (.inr rfl) (Weak.turnL [] [] rfl rfl (tc (.sc _) tn) mn) (ro1 (rvT (v := .sc (.int .i64 r8)) rfl)) rfl rfl (.sc _) pn
        · refine AWP.skip ?_
          refine skT ?_
          refine AWP.block ?_
          refine AWP.sq ?_
          refine AWP.rgC 88 rfl rfl ?_
          refine fa rfl rfl ti53 rfl rfl ti51 rfl ?_
          refine fa rfl rfl ti51 rfl rfl ti4 rfl ?_
          refine ldB (v := .sc _) rfl rfl rfl rfl ti4 rfl rfl ?_
          refine pu (v := .sc _) rfl rfl (fun _ => rfl) ?_
          refine RunC.fin ?_
          refine AWP.cd hR rfl (fun h10 hR => ?_) fun h10 hR => ?_
          · refine AWP.sq ?_
            refine AWP.rgC 92 rfl rfl ?_
            refine pu (v := .sc _) rfl rfl (fun _ => rfl) ?_
            refine RunC.fin ?_
            refine AWP.ret ?_
            refine rtB ?_
            refine rtB ?_
            refine rtT ?_
            refine rtT ?_
            refine rtB (rtT ?_)
            replace hR := escL hR hE2
            refine rtT ?_
            have hR := Option.some.inj hR; subst hR
            exact hQ _ _ (LS.mk [(2, .sc (.int .i64 1))] (lblks 0 []) 0) (.sc (.int .i64 1)) [] (.inr rfl) (Weak.turnL [] [] rfl rfl (tc (.sc _) tn) mn) (ro1 (rvT (v := .sc (.int .i64 1)) rfl)) rfl rfl (.sc _) pn
          · refine AWP.joinX (fun z11 : Bool => LS.mk [(0, rowV (α := curve_Sample) false l), (3, .sc (.int .i64 s2)), (4, .ptr 0 0 0), (9, rowV (α := curve_Sample) false l), (10, .sc (.int .i64 (l.length : Int))), (11, .sc (.int .i64 s2)), (31, .sc (.bool z11))] (lblks 0 [boxB (α := curve_Sample) true (gt l s2)]) 1) hR (fun o11 hR => ?_) fun z11 hR => ?_
            · refine AWP.rgC 132 rfl rfl ?_
              refine fa rfl rfl ti53 rfl rfl ti51 rfl ?_
              refine fa rfl rfl ti51 rfl rfl ti31 rfl ?_
              refine ldB (v := .sc _) rfl rfl rfl rfl ti31 rfl rfl ?_
              refine pu (v := .sc _) rfl rfl (fun _ => rfl) ?_
              refine pu (v := .sc _) rfl rfl (fun _ => rfl) ?_
              refine brR hR (fun h12 hR => ?_) fun h12 hR => ?_
              · refine sk (skW rfl rfl rfl h12) ?_
                refine sk (skW rfl rfl rfl h12) ?_
                refine sk (skW rfl rfl rfl h12) ?_
                refine sk (skW rfl rfl rfl h12) ?_
                refine pkT (v := .sc (.bool true)) rfl rfl h12 rfl ?_
                refine pu (v := .sc _) rfl rfl (fun _ => rfl) ?_
                refine RunC.fin ?_
                have hR := Option.some.inj hR; subst hR
                exact Weak.turnL [(16, 0)] [] rfl rfl (tc trR1 (tc (.sc _) (tc (trP' rfl rfl rfl rfl) (tc trR1 (tc (.sc _) (tc (.sc _) (tc (.sc _) tn))))))) (mc rfl (.box rfl (.cons (.sc _) (.cons (.sc _) (.cons (.sc _) (.cons (.sc _) (.cons (.sc _) (.cons (.sc _) (.nil))))))) rfl) mn)
              · refine fa (wtG rfl rfl rfl h12) rfl ti53 rfl rfl ti51 rfl ?_
                refine fa (wtG rfl rfl rfl h12) rfl ti51 rfl rfl ti31 rfl ?_
                refine ldB (v := .sc _) (wtG rfl rfl rfl h12) rfl rfl rfl ti31 rfl rfl ?_
                refine pu (v := .sc _) (wtG rfl rfl rfl h12) rfl (fun _ => rfl) ?_
                refine pkF (v := .sc (.bool (decide ((gt l s2).At.Hi > 17592186044416)))) rfl rfl h12 rfl ?_
                refine pu (v := .sc _) rfl rfl (fun _ => rfl) ?_
                refine RunC.fin ?_
                have hR := Option.some.inj hR; subst hR
                exact Weak.turnL [(16, 0)] [] rfl rfl (tc trR1 (tc (.sc _) (tc (trP' rfl rfl rfl rfl) (tc trR1 (tc (.sc _) (tc (.sc _) (tc (.sc _) tn))))))) (mc rfl (.box rfl (.cons (.sc _) (.cons (.sc _) (.cons (.sc _) (.cons (.sc _) (.cons (.sc _) (.cons (.sc _) (.nil))))))) rfl) mn)
            · refine AWP.cd hR rfl (fun h13 hR => ?_) fun h13 hR => ?_
              · refine AWP.sq ?_
                refine AWP.rgC 5 rfl rfl ?_
                refine pu (v := .sc _) rfl rfl (fun _ => rfl) ?_
                refine RunC.fin ?_
                refine AWP.ret ?_
                refine rtB ?_
                refine rtB ?_
                refine rtT ?_
                refine rtT ?_
                refine rtB (rtT ?_)
                replace hR := escL hR hE2
                refine rtT ?_
                have hR := Option.some.inj hR; subst hR
                exact hQ _ _ (LS.mk [(2, .sc (.int .i64 4))] (lblks 0 []) 0) (.sc (.int .i64 4)) [] (.inr rfl) (Weak.turnL [] [] rfl rfl (tc (.sc _) tn) mn) (ro1 (rvT (v := .sc (.int .i64 4)) rfl)) rfl rfl (.sc _) pn
              · refine AWP.joinX (fun z14 : Bool => LS.mk [(0, rowV (α := curve_Sample) false l), (9, rowV (α := curve_Sample) false l), (10, .sc (.int .i64 (l.length : Int))), (11, .sc (.int .i64 s2)), (42, .sc (.bool z14))] (lblks 0 []) 0) hR (fun o14 hR => ?_) fun z14 hR => ?_
                · refine AWP.rgD 53 [0, 1, 3, 7, 7, 23, 63, 127, 7, 511, 1023, 2047, 4095] ⟨[], [none, none, none, none, none, none, none, some [], some [0], none, none, none, none]⟩ hmix (by kernel_rfl) rfl rfl ?_
                  refine pu (v := .sc _) rfl rfl (fun _ => rfl) ?_
                  refine pu (v := .sc _) rfl rfl (fun _ => rfl) ?_
                  refine pu (v := .sc _) rfl rfl (fun _ => rfl) ?_
                  refine brR hR (fun h15 hR => ?_) fun h15 hR => ?_
                  · refine pu (v := rowV _ l) (wtG rfl rfl rfl h15) rfl (fun _ => rfl) ?_
                    refine pu (v := .sc _) (wtG rfl rfl rfl h15) rfl (fun _ => rfl) ?_
                    refine pu (v := .sc _) (wtG rfl rfl rfl h15) rfl (fun _ => rfl) ?_
                    obtain ⟨h16, hR⟩ := chkE hR
                    refine ixL (α := curve_Sample) (wtG rfl rfl rfl h15) rfl rfl ti35 rfl ti53 rfl h16 ?_
                    refine ldR (v := .agg _) (wtG rfl rfl rfl h15) rfl ti53 rfl ?_
                    refine ldB (v := .agg _) (wtG rfl rfl rfl h15) rfl rfl rfl ti53 rfl rfl ?_
                    obtain ⟨r17, hr17, hR⟩ := bindE hR
                    refine cls [] (wtG rfl rfl rfl h15) rfl cb22 (ok22 (gt l (w6 (s2 - 1))) (gt l s2) _ hr17) (.cons (.agg (.cons (.sc _) (.cons (.sc _) (.cons (.sc _) (.cons (.sc _) (.cons (.sc _) (.cons (.sc _) (.nil))))))) rfl) (.cons (.agg (.cons (.sc _) (.cons (.sc _) (.cons (.sc _) (.cons (.sc _) (.cons (.sc _) (.cons (.sc _) (.nil))))))) rfl) (.nil))) (.inr rfl) rfl ?_
                    refine pu (v := .sc _) (wtG rfl rfl rfl h15) rfl (fun _ => rfl) ?_
                    refine pkT (v := .sc (.bool (decide (r17 > 0)))) rfl rfl h15 rfl ?_
                    refine pu (v := .sc _) rfl rfl (fun _ => rfl) ?_
                    refine RunC.fin ?_
                    have hR := Option.some.inj hR; subst hR
                    exact Weak.turnL [] [] rfl rfl (tc trR1 (tc trR1 (tc (.sc _) (tc (.sc _) (tc (.sc _) tn))))) mn
                  · refine sk (skW rfl rfl rfl h15) ?_
                    refine sk (skW rfl rfl rfl h15) ?_
                    refine sk (skW rfl rfl rfl h15) ?_
                    refine sk (skW rfl rfl rfl h15) ?_
                    refine sk (skW rfl rfl rfl h15) ?_
                    refine sk (skW rfl rfl rfl h15) ?_
                    refine sk (skW rfl rfl rfl h15) ?_
                    refine sk (skW rfl rfl rfl h15) ?_
                    refine pkF (v := .sc (.bool false)) rfl rfl h15 rfl ?_
                    refine pu (v := .sc _) rfl rfl (fun _ => rfl) ?_
                    refine RunC.fin ?_
                    have hR := Option.some.inj hR; subst hR
                    exact Weak.turnL [] [] rfl rfl (tc trR1 (tc trR1 (tc (.sc _) (tc (.sc _) (tc (.sc _) tn))))) mn
                · refine AWP.cd hR rfl (fun h18 hR => ?_) fun h18 hR => ?_
                  · refine AWP.sq ?_
                    refine AWP.rgC 4 rfl rfl ?_
                    refine pu (v := .sc _) rfl rfl (fun _ => rfl) ?_
                    refine RunC.fin ?_
                    refine AWP.ret ?_
                    refine rtB ?_
                    refine rtB ?_
                    refine rtT ?_
                    refine rtT ?_
                    refine rtB (rtT ?_)
                    replace hR := escL hR hE2
                    refine rtT ?_
                    have hR := Option.some.inj hR; subst hR
                    exact hQ _ _ (LS.mk [(2, .sc (.int .i64 11))] (lblks 0 []) 0) (.sc (.int .i64 11)) [] (.inr rfl) (Weak.turnL [] [] rfl rfl (tc (.sc _) tn) mn) (ro1 (rvT (v := .sc (.int .i64 11)) rfl)) rfl rfl (.sc _) pn
                  · refine AWP.skip ?_
                    refine skB ?_
                    refine skB ?_
                    refine skT ?_
                    refine AWP.rgC 8 rfl rfl ?_
                    refine pu (v := .sc _) rfl rfl (fun _ => rfl) ?_
                    refine pu (v := .sc _) rfl rfl (fun _ => rfl) ?_
                    refine RunC.fin ?_
                    refine ⟨(w6 (s2 + 1)), (Option.some.inj hR).symm, ?_⟩
                    exact Weak.turnL [] [] rfl rfl (tc trR1 (tc trR1 (tc (.sc _) (tc (.sc _) tn)))) mn
      · refine AWP.exit ?_
        refine exT ?_
        refine exT ?_
        refine exH (skT ?_)
        refine ⟨(), (Option.some.inj hR).symm, ?_⟩
        exact Weak.turnL [] [] rfl rfl tn mn
    · refine skT ?_
      refine AWP.sq ?_
      refine AWP.rgC 4 rfl rfl ?_
      refine pu (v := .sc _) rfl rfl (fun _ => rfl) ?_
      refine RunC.fin ?_
      refine AWP.ret ?_
      have hR := Option.some.inj hR; subst hR
      exact hQ _ _ (LS.mk [(2, .sc (.int .i64 0))] (lblks 0 []) 0) (.sc (.int .i64 0)) [] (.inr rfl) (Weak.turnL [] [] rfl rfl (tc (.sc _) tn) mn) (ro1 (rvT (v := .sc (.int .i64 0)) rfl)) rfl rfl (.sc _) pn
theorem ok11 (l : List curve_Sample) (r : Bound × Int) (hR : curve_Swing l = some r) : FnP Try.prog 11 [rowV false l] (.tup [aggV (α := Bound) true r.1, .sc (.int .i64 r.2)]) := by
  refine fnP_of (FnX.walk Try.func11 rfl 53 0 (by simp [Try.ntmps11]) rfl fun W S F Q hQ => ?_)
  unfold curve_Swing at hR
  refine AWP.sq ?_
  refine AWP.rgC 8 rfl rfl ?_
  refine al (cs := [.sc (.int .i64 0), .sc (.int .i64 0), .sc (.bool false)]) 0 rfl rfl ti44 rfl rfl ?_
  refine pu (v := .sc _) rfl rfl (fun _ => rfl) ?_
  refine RunC.fin ?_
  refine AWP.sq ?_
  refine AWP.sq ?_
  refine AWP.rgC 20 rfl rfl ?_
  refine pu (v := rowV _ l) rfl rfl (fun _ => rfl) ?_
  obtain ⟨r1, hr1, hR⟩ := bindE hR
  refine cls [] rfl rfl cb9 (ok9 l _ hr1) (.cons ldR' (.nil)) (.inr rfl) rfl ?_
  refine pu (v := .sc _) rfl rfl (fun _ => rfl) ?_
  refine RunC.fin ?_
  refine AWP.sq ?_
  refine AWP.rgC 28 rfl rfl ?_
  refine pu (v := .sc _) rfl rfl (fun _ => rfl) ?_
  refine pu (v := .sc _) rfl rfl (fun _ => rfl) ?_
  refine RunC.fin ?_
  refine AWP.cd hR rfl (fun h2 hR => ?_) fun h2 hR => ?_
  · refine AWP.sq ?_
    refine AWP.rgC 44 rfl rfl ?_
    refine bu (cs := [.sc (.int .i64 0), .sc (.int .i64 0), .sc (.bool false)]) rfl bt44 rfl ?_
    refine pu (v := .sc _) rfl rfl (fun _ => rfl) ?_
    refine stB (cs' := [.sc (.int .i64 0), .sc (.int .i64 0), .sc (.bool false)]) rfl rfl rfl rfl ti44 rfl rfl rfl rfl rfl ?_
    refine pu (v := .sc _) rfl rfl (fun _ => rfl) ?_
    refine RunC.fin ?_
    refine AWP.ret ?_
    refine rtT ?_
    have hR := Option.some.inj hR; subst hR
    exact hQ _ _ (LS.mk [(2, .ptr 0 0 0), (3, .sc (.int .i64 r1))] (lblks 0 [boxB (α := Bound) true (Bound.mk 0 0 false)]) 1) (.tup [aggV (α := Bound) true (Bound.mk 0 0 false), .sc (.int .i64 r1)]) [] (.inr rfl) (Weak.turnL [(0, 0)] [] rfl rfl (tc (trP' rfl rfl rfl rfl) (tc (.sc _) tn)) (mc rfl (.box rfl (.cons (.sc _) (.cons (.sc _) (.cons (.sc _) (.nil)))) rfl) mn)) (ro2 (rvC (v := aggV (α := Bound) true (Bound.mk 0 0 false)) rfl rfl ti44 rfl) (rvT (v := .sc (.int .i64 r1)) rfl)) rfl rfl (.tup (.cons ldA (.cons (.sc _) .nil))) pn
  · refine AWP.skip ?_
    refine skT ?_
    refine AWP.sq ?_
    refine AWP.sq ?_
    refine AWP.rgC 40 rfl rfl ?_
    refine pu (v := rowV _ l) rfl rfl (fun _ => rfl) ?_
    refine lenL (α := curve_Sample) rfl rfl ti35 rfl ?_
    refine pu (v := .sc _) rfl rfl (fun _ => rfl) ?_
    refine RunC.fin ?_
    refine AWP.cd hR rfl (fun h3 hR => ?_) fun h3 hR => ?_
    · refine AWP.sq ?_
      refine AWP.rgC 52 rfl rfl ?_
      refine bu (cs := [.sc (.int .i64 0), .sc (.int .i64 0), .sc (.bool false)]) rfl bt44 rfl ?_
      refine stB (cs' := [.sc (.int .i64 0), .sc (.int .i64 0), .sc (.bool false)]) rfl rfl rfl rfl ti44 rfl rfl rfl rfl rfl ?_
      refine pu (v := .sc _) rfl rfl (fun _ => rfl) ?_
      refine RunC.fin ?_
      refine AWP.ret ?_
      refine rtT ?_
      have hR := Option.some.inj hR; subst hR
      exact hQ _ _ (LS.mk [(2, .ptr 0 0 0), (3, .sc (.int .i64 8))] (lblks 0 [boxB (α := Bound) true (Bound.mk 0 0 false)]) 1) (.tup [aggV (α := Bound) true (Bound.mk 0 0 false), .sc (.int .i64 8)]) [] (.inr rfl) (Weak.turnL [(0, 0)] [] rfl rfl (tc (trP' rfl rfl rfl rfl) (tc (.sc _) tn)) (mc rfl (.box rfl (.cons (.sc _) (.cons (.sc _) (.cons (.sc _) (.nil)))) rfl) mn)) (ro2 (rvC (v := aggV (α := Bound) true (Bound.mk 0 0 false)) rfl rfl ti44 rfl) (rvT (v := .sc (.int .i64 8)) rfl)) rfl rfl (.tup (.cons ldA (.cons (.sc _) .nil))) pn
    · refine AWP.skip ?_
      refine skT ?_
      refine AWP.sq ?_
      refine AWP.rgD 88 [0, 1, 3, 7, 0, 16, 48, 112, 0, 0, 783, 2047] ⟨[], [none, none, none, some [], none, none, none, some [], none, none, some [72], some [76]]⟩ hmix (by kernel_rfl) rfl rfl ?_
      refine pu (v := rowV _ l) rfl rfl (fun _ => rfl) ?_
      obtain ⟨h4, hR⟩ := chkE hR
      refine ixL (α := curve_Sample) rfl rfl rfl ti35 rfl ti53 rfl h4 ?_
      refine fr rfl rfl ti53 rfl rfl ti44 rfl ?_
      refine ldR (v := .agg _) rfl rfl ti44 rfl ?_
      refine pu (v := rowV _ l) rfl rfl (fun _ => rfl) ?_
      refine ixL (α := curve_Sample) rfl rfl rfl ti35 rfl ti53 rfl h4 ?_
      refine fr rfl rfl ti53 rfl rfl ti44 rfl ?_
      refine ldR (v := .agg _) rfl rfl ti44 rfl ?_
      refine al (cs := [.sc (.int .i64 0), .sc (.int .i64 0), .sc (.bool false)]) 72 rfl rfl ti44 rfl rfl ?_
      refine al (cs := [.sc (.int .i64 0), .sc (.int .i64 0), .sc (.bool false)]) 76 rfl rfl ti44 rfl rfl ?_
      refine stB (cs' := [.sc (.int .i64 (gt l 0).Light.Lo), .sc (.int .i64 (gt l 0).Light.Hi), .sc (.bool (gt l 0).Light.Unknown)]) rfl rfl rfl rfl ti44 rfl rfl rfl rfl rfl ?_
      refine stB (cs' := [.sc (.int .i64 (gt l 0).Light.Lo), .sc (.int .i64 (gt l 0).Light.Hi), .sc (.bool (gt l 0).Light.Unknown)]) rfl rfl rfl rfl ti44 rfl rfl rfl rfl rfl ?_
      refine RunC.fin ?_
      refine AWP.sq ?_
      refine AWP.sq ?_
      refine AWP.rgC 104 rfl rfl ?_
      refine pu (v := rowV _ l) rfl rfl (fun _ => rfl) ?_
      obtain ⟨h5, hR⟩ := chkE hR
      refine slL (α := curve_Sample) 1 l.length rfl rfl ti35 rfl ti53 rfl rfl rfl h5 ?_
      refine lenL (α := curve_Sample) rfl rfl ti35 rfl ?_
      refine pu (v := .sc _) rfl rfl (fun _ => rfl) ?_
      refine RunC.fin ?_
      refine AWP.loopJ (fun s6 : Bound × Bound × Int => LS.mk [(2, .ptr 0 0 0), (5, .ptr 1 0 0), (6, .ptr 2 0 0), (29, rowV (α := curve_Sample) false ((List.drop 1 l).take (l.length - 1))), (30, .sc (.int .i64 (((List.drop 1 l).take (l.length - 1)).length : Int))), (31, .sc (.int .i64 s6.2.2))] (lblks 0 [boxB (α := Bound) true (Bound.mk 0 0 false), boxB (α := Bound) true s6.1, boxB (α := Bound) true s6.2.1]) 3) (fun z7 : Bound × Bound => LS.mk [(2, .ptr 0 0 0), (5, .ptr 1 0 0), (6, .ptr 2 0 0)] (lblks 0 [boxB (α := Bound) true (Bound.mk 0 0 false), boxB (α := Bound) true z7.1, boxB (α := Bound) true z7.2]) 3) (curve_Swing.l1 l) hR (s0 := ((gt l 0).Light, (gt l 0).Light, 0)) (Weak.turnL [(0, 0), (72, 0), (76, 0)] [] rfl rfl (tc (trP' rfl rfl rfl rfl) (tc (trP' rfl rfl rfl rfl) (tc (trP' rfl rfl rfl rfl) (tc trR1 (tc (.sc _) (tc (.sc _) tn)))))) (mc rfl (.box rfl (.cons (.sc _) (.cons (.sc _) (.cons (.sc _) (.nil)))) rfl) (mc rfl (.box rfl (.cons (.sc _) (.cons (.sc _) (.cons (.sc _) (.nil)))) rfl) (mc rfl (.box rfl (.cons (.sc _) (.cons (.sc _) (.cons (.sc _) (.nil)))) rfl) mn)))) (fun s6 o6 hR => ?_) fun z7 hR => ?_
      · unfold curve_Swing.l1 at hR
        refine AWP.sq ?_
        refine AWP.rgC 7 rfl rfl ?_
        obtain ⟨v8, ev8, hR⟩ := letE hR
        refine pu (v := .sc _) rfl rfl (fun _ => puB ev8) ?_
        refine RunC.fin ?_
        refine AWP.sq ?_
        refine AWP.cd hR rfl (fun h9 hR => ?_) fun h9 hR => ?_
        · refine AWP.skip ?_
          refine skT ?_
          refine AWP.sq ?_
          refine AWP.block ?_
          refine AWP.sq ?_
          refine AWP.rgC 23 rfl rfl ?_
          obtain ⟨h10, hR⟩ := chkE hR
          refine ixL (α := curve_Sample) rfl rfl rfl ti35 rfl ti53 rfl h10 ?_
          refine ldR (v := .agg _) rfl rfl ti53 rfl ?_
          refine al (cs := [.sc (.int .i64 0), .sc (.int .i64 0), .sc (.bool false), .sc (.int .i64 0), .sc (.int .i64 0), .sc (.bool false)]) 15 rfl rfl ti53 rfl rfl ?_
          refine stB (cs' := [.sc (.int .i64 (gt ((List.drop 1 l).take (l.length - 1)) s6.2.2).At.Lo), .sc (.int .i64 (gt ((List.drop 1 l).take (l.length - 1)) s6.2.2).At.Hi), .sc (.bool (gt ((List.drop 1 l).take (l.length - 1)) s6.2.2).At.Unknown), .sc (.int .i64 (gt ((List.drop 1 l).take (l.length - 1)) s6.2.2).Light.Lo), .sc (.int .i64 (gt ((List.drop 1 l).take (l.length - 1)) s6.2.2).Light.Hi), .sc (.bool (gt ((List.drop 1 l).take (l.length - 1)) s6.2.2).Light.Unknown)]) rfl rfl rfl rfl ti53 rfl rfl rfl rfl rfl ?_
          refine RunC.fin ?_
          refine AWP.rgD 63 [0, 0, 2, 7, 0, 0, 32, 127, 255, 511] ⟨[], [some [1], none, some [15], none, some [2], none, some [15], none, some [1], some [2]]⟩ hmix (by kernel_rfl) rfl rfl ?_
          refine ldB (v := .agg _) rfl rfl rfl rfl ti44 rfl rfl ?_
          refine fa rfl rfl ti53 rfl rfl ti44 rfl ?_
          refine ldB (v := .agg _) rfl rfl rfl rfl ti44 rfl rfl ?_
          obtain ⟨r11, hr11, hR⟩ := bindE hR
          refine cls [] rfl rfl cb28 (ok28 s6.1 (gt ((List.drop 1 l).take (l.length - 1)) s6.2.2).Light _ hr11) (.cons (.agg (.cons (.sc _) (.cons (.sc _) (.cons (.sc _) (.nil)))) rfl) (.cons (.agg (.cons (.sc _) (.cons (.sc _) (.cons (.sc _) (.nil)))) rfl) (.nil))) (.inr rfl) rfl ?_
          refine ldB (v := .agg _) rfl rfl rfl rfl ti44 rfl rfl ?_
          refine fa rfl rfl ti53 rfl rfl ti44 rfl ?_
          refine ldB (v := .agg _) rfl rfl rfl rfl ti44 rfl rfl ?_
          obtain ⟨r12, hr12, hR⟩ := bindE hR
          refine cls [] rfl rfl cb29 (ok29 s6.2.1 (gt ((List.drop 1 l).take (l.length - 1)) s6.2.2).Light _ hr12) (.cons (.agg (.cons (.sc _) (.cons (.sc _) (.cons (.sc _) (.nil)))) rfl) (.cons (.agg (.cons (.sc _) (.cons (.sc _) (.cons (.sc _) (.nil)))) rfl) (.nil))) (.inr rfl) rfl ?_
          refine stB (cs' := [.sc (.int .i64 r11.Lo), .sc (.int .i64 r11.Hi), .sc (.bool r11.Unknown)]) rfl rfl rfl rfl ti44 rfl rfl rfl rfl rfl ?_
          refine stB (cs' := [.sc (.int .i64 r12.Lo), .sc (.int .i64 r12.Hi), .sc (.bool r12.Unknown)]) rfl rfl rfl rfl ti44 rfl rfl rfl rfl rfl ?_
          refine RunC.blk ?_
          refine RunC.fin ?_
          refine AWP.rgC 71 rfl rfl ?_
          refine pu (v := .sc _) rfl rfl (fun _ => rfl) ?_
          refine pu (v := .sc _) rfl rfl (fun _ => rfl) ?_
          refine RunC.fin ?_
          refine ⟨(r11, r12, w6 (s6.2.2 + 1)), (Option.some.inj hR).symm, ?_⟩
          exact Weak.turnL [(0, 0), (1, 0), (2, 0)] [] rfl rfl (tc (trP' rfl rfl rfl rfl) (tc (trP' rfl rfl rfl rfl) (tc (trP' rfl rfl rfl rfl) (tc trR1 (tc (.sc _) (tc (.sc _) tn)))))) (mc rfl (.box rfl (.cons (.sc _) (.cons (.sc _) (.cons (.sc _) (.nil)))) rfl) (mc rfl (.box rfl (.cons (.sc _) (.cons (.sc _) (.cons (.sc _) (.nil)))) rfl) (mc rfl (.box rfl (.cons (.sc _) (.cons (.sc _) (.cons (.sc _) (.nil)))) rfl) mn)))
        · refine AWP.exit ?_
          refine exT ?_
          refine exT ?_
          refine exH (skT ?_)
          refine ⟨(s6.1, s6.2.1), (Option.some.inj hR).symm, ?_⟩
          exact Weak.turnL [(0, 0), (1, 0), (2, 0)] [] rfl rfl (tc (trP' rfl rfl rfl rfl) (tc (trP' rfl rfl rfl rfl) (tc (trP' rfl rfl rfl rfl) tn))) (mc rfl (.box rfl (.cons (.sc _) (.cons (.sc _) (.cons (.sc _) (.nil)))) rfl) (mc rfl (.box rfl (.cons (.sc _) (.cons (.sc _) (.cons (.sc _) (.nil)))) rfl) (mc rfl (.box rfl (.cons (.sc _) (.cons (.sc _) (.cons (.sc _) (.nil)))) rfl) mn)))
      · refine skT ?_
        refine AWP.sq ?_
        refine AWP.rgC 23 rfl rfl ?_
        refine ldB (v := .agg _) rfl rfl rfl rfl ti44 rfl rfl ?_
        refine ldB (v := .agg _) rfl rfl rfl rfl ti44 rfl rfl ?_
        obtain ⟨r13, hr13, hR⟩ := bindE hR
        refine cls [] rfl rfl cb30 (ok30 z7.2 z7.1 _ hr13) (.cons (.agg (.cons (.sc _) (.cons (.sc _) (.cons (.sc _) (.nil)))) rfl) (.cons (.agg (.cons (.sc _) (.cons (.sc _) (.cons (.sc _) (.nil)))) rfl) (.nil))) (.inr rfl) rfl ?_
        refine al (cs := [.sc (.int .i64 0), .sc (.int .i64 0), .sc (.bool false)]) 15 rfl rfl ti44 rfl rfl ?_
        refine stB (cs' := [.sc (.int .i64 r13.Lo), .sc (.int .i64 r13.Hi), .sc (.bool r13.Unknown)]) rfl rfl rfl rfl ti44 rfl rfl rfl rfl rfl ?_
        refine RunC.fin ?_
        refine AWP.sq ?_
        refine AWP.sq ?_
        refine AWP.rgC 31 rfl rfl ?_
        refine fa rfl rfl ti44 rfl rfl ti4 rfl ?_
        refine ldB (v := .sc _) rfl rfl rfl rfl ti4 rfl rfl ?_
        refine RunC.fin ?_
        refine AWP.cd hR rfl (fun h14 hR => ?_) fun h14 hR => ?_
        · refine AWP.sq ?_
          refine AWP.rgC 43 rfl rfl ?_
          refine ldB (v := .agg _) rfl rfl rfl rfl ti44 rfl rfl ?_
          refine stB (cs' := [.sc (.int .i64 r13.Lo), .sc (.int .i64 r13.Hi), .sc (.bool r13.Unknown)]) rfl rfl rfl rfl ti44 rfl rfl rfl rfl rfl ?_
          refine pu (v := .sc _) rfl rfl (fun _ => rfl) ?_
          refine RunC.fin ?_
          refine AWP.ret ?_
          refine rtT ?_
          have hR := Option.some.inj hR; subst hR
          exact hQ _ _ (LS.mk [(2, .ptr 0 0 0), (3, .sc (.int .i64 0))] (lblks 0 [boxB (α := Bound) true r13]) 1) (.tup [aggV (α := Bound) true r13, .sc (.int .i64 0)]) [] (.inr rfl) (Weak.turnL [(0, 0)] [] rfl rfl (tc (trP' rfl rfl rfl rfl) (tc (.sc _) tn)) (mc rfl (.box rfl (.cons (.sc _) (.cons (.sc _) (.cons (.sc _) (.nil)))) rfl) mn)) (ro2 (rvC (v := aggV (α := Bound) true r13) rfl rfl ti44 rfl) (rvT (v := .sc (.int .i64 0)) rfl)) rfl rfl (.tup (.cons ldA (.cons (.sc _) .nil))) pn
        · refine AWP.skip ?_
          refine skT ?_
          refine AWP.sq ?_
          refine AWP.rgC 51 rfl rfl ?_
          refine ldB (v := .agg _) rfl rfl rfl rfl ti44 rfl rfl ?_
          refine bu (cs := [.sc (.int .i64 0), .sc (.int .i64 0), .sc (.bool false)]) rfl bt44 rfl ?_
          obtain ⟨r15, hr15, hR⟩ := bindE hR
          refine cls [] rfl rfl cb29 (ok29 r13 (Bound.mk 0 0 false) _ hr15) (.cons (.agg (.cons (.sc _) (.cons (.sc _) (.cons (.sc _) (.nil)))) rfl) (.cons (.agg (.cons (.sc _) (.cons (.sc _) (.cons (.sc _) (.nil)))) rfl) (.nil))) (.inr rfl) rfl ?_
          refine stB (cs' := [.sc (.int .i64 r15.Lo), .sc (.int .i64 r15.Hi), .sc (.bool r15.Unknown)]) rfl rfl rfl rfl ti44 rfl rfl rfl rfl rfl ?_
          refine pu (v := .sc _) rfl rfl (fun _ => rfl) ?_
          refine RunC.fin ?_
          refine AWP.ret ?_
          have hR := Option.some.inj hR; subst hR
          exact hQ _ _ (LS.mk [(2, .ptr 0 0 0), (3, .sc (.int .i64 0))] (lblks 0 [boxB (α := Bound) true r15]) 1) (.tup [aggV (α := Bound) true r15, .sc (.int .i64 0)]) [] (.inr rfl) (Weak.turnL [(0, 0)] [] rfl rfl (tc (trP' rfl rfl rfl rfl) (tc (.sc _) tn)) (mc rfl (.box rfl (.cons (.sc _) (.cons (.sc _) (.cons (.sc _) (.nil)))) rfl) mn)) (ro2 (rvC (v := aggV (α := Bound) true r15) rfl rfl ti44 rfl) (rvT (v := .sc (.int .i64 0)) rfl)) rfl rfl (.tup (.cons ldA (.cons (.sc _) .nil))) pn
theorem ok10 (l : List curve_Sample) (r : Bound × Bool × Int) (hR : curve_Steady l = some r) : FnP Try.prog 10 [rowV false l] (.tup [aggV (α := Bound) true r.1, .sc (.bool r.2.1), .sc (.int .i64 r.2.2)]) := by
  refine fnP_of (FnX.walk Try.func10 rfl 35 0 (by simp [Try.ntmps10]) rfl fun W S F Q hQ => ?_)
  unfold curve_Steady at hR
  refine AWP.sq ?_
  refine AWP.rgC 12 rfl rfl ?_
  refine al (cs := [.sc (.int .i64 0), .sc (.int .i64 0), .sc (.bool false)]) 0 rfl rfl ti44 rfl rfl ?_
  refine pu (v := .sc _) rfl rfl (fun _ => rfl) ?_
  refine pu (v := .sc _) rfl rfl (fun _ => rfl) ?_
  refine RunC.fin ?_
  refine AWP.sq ?_
  refine AWP.sq ?_
  refine AWP.rgC 24 rfl rfl ?_
  refine pu (v := rowV _ l) rfl rfl (fun _ => rfl) ?_
  obtain ⟨r1, hr1, hR⟩ := bindE hR
  refine cls [] rfl rfl cb9 (ok9 l _ hr1) (.cons ldR' (.nil)) (.inr rfl) rfl ?_
  refine pu (v := .sc _) rfl rfl (fun _ => rfl) ?_
  refine RunC.fin ?_
  refine AWP.sq ?_
  refine AWP.rgC 32 rfl rfl ?_
  refine pu (v := .sc _) rfl rfl (fun _ => rfl) ?_
  refine pu (v := .sc _) rfl rfl (fun _ => rfl) ?_
  refine RunC.fin ?_
  refine AWP.cd hR rfl (fun h2 hR => ?_) fun h2 hR => ?_
  · refine AWP.sq ?_
    refine AWP.rgC 52 rfl rfl ?_
    refine bu (cs := [.sc (.int .i64 0), .sc (.int .i64 0), .sc (.bool false)]) rfl bt44 rfl ?_
    refine pu (v := .sc _) rfl rfl (fun _ => rfl) ?_
    refine stB (cs' := [.sc (.int .i64 0), .sc (.int .i64 0), .sc (.bool false)]) rfl rfl rfl rfl ti44 rfl rfl rfl rfl rfl ?_
    refine pu (v := .sc _) rfl rfl (fun _ => rfl) ?_
    refine pu (v := .sc _) rfl rfl (fun _ => rfl) ?_
    refine RunC.fin ?_
    refine AWP.ret ?_
    refine rtT ?_
    have hR := Option.some.inj hR; subst hR
    exact hQ _ _ (LS.mk [(2, .ptr 0 0 0), (3, .sc (.bool false)), (4, .sc (.int .i64 r1))] (lblks 0 [boxB (α := Bound) true (Bound.mk 0 0 false)]) 1) (.tup [aggV (α := Bound) true (Bound.mk 0 0 false), .sc (.bool false), .sc (.int .i64 r1)]) [] (.inr rfl) (Weak.turnL [(0, 0)] [] rfl rfl (tc (trP' rfl rfl rfl rfl) (tc (.sc _) (tc (.sc _) tn))) (mc rfl (.box rfl (.cons (.sc _) (.cons (.sc _) (.cons (.sc _) (.nil)))) rfl) mn)) (ro3 (rvC (v := aggV (α := Bound) true (Bound.mk 0 0 false)) rfl rfl ti44 rfl) (rvT (v := .sc (.bool false)) rfl) (rvT (v := .sc (.int .i64 r1)) rfl)) rfl rfl (.tup (.cons ldA (.cons (.sc _) (.cons (.sc _) .nil)))) pn
  · refine AWP.skip ?_
    refine skT ?_
    refine AWP.sq ?_
    refine AWP.rgC 44 rfl rfl ?_
    obtain ⟨r3, hr3, hR⟩ := bindE hR
    refine cls [] rfl rfl cb26 (ok26 _ hr3) (.nil) (.inr rfl) rfl ?_
    refine al (cs := [.sc (.int .i64 0), .sc (.int .i64 0), .sc (.bool false)]) 36 rfl rfl ti44 rfl rfl ?_
    refine stB (cs' := [.sc (.int .i64 r3.Lo), .sc (.int .i64 r3.Hi), .sc (.bool r3.Unknown)]) rfl rfl rfl rfl ti44 rfl rfl rfl rfl rfl ?_
    refine RunC.fin ?_
    refine AWP.sq ?_
    refine AWP.sq ?_
    refine AWP.rgC 56 rfl rfl ?_
    refine pu (v := rowV _ l) rfl rfl (fun _ => rfl) ?_
    refine lenL (α := curve_Sample) rfl rfl ti35 rfl ?_
    refine pu (v := .sc _) rfl rfl (fun _ => rfl) ?_
    refine RunC.fin ?_
    refine AWP.loopK' (fun s4 : Bound × Int => LS.mk [(2, .ptr 0 0 0), (6, .ptr 1 0 0), (17, rowV (α := curve_Sample) false l), (18, .sc (.int .i64 (l.length : Int))), (19, .sc (.int .i64 s4.2))] (lblks 0 [boxB (α := Bound) true (Bound.mk 0 0 false), boxB (α := Bound) true s4.1]) 2) (fun z5 : Bound => LS.mk [(2, .ptr 0 0 0), (6, .ptr 1 0 0)] (lblks 0 [boxB (α := Bound) true (Bound.mk 0 0 false), boxB (α := Bound) true z5]) 2) (curve_Steady.l1 l) hR (s0 := (r3, 0)) (Weak.turnL [(0, 0), (36, 0)] [] rfl rfl (tc (trP' rfl rfl rfl rfl) (tc (trP' rfl rfl rfl rfl) (tc trR1 (tc (.sc _) (tc (.sc _) tn))))) (mc rfl (.box rfl (.cons (.sc _) (.cons (.sc _) (.cons (.sc _) (.nil)))) rfl) (mc rfl (.box rfl (.cons (.sc _) (.cons (.sc _) (.cons (.sc _) (.nil)))) rfl) mn))) (fun s4 o4 hR hE4 => ?_) fun z5 hR => ?_
    · unfold curve_Steady.l1 at hR
      refine AWP.sq ?_
      refine AWP.rgC 6 rfl rfl ?_
      refine pu (v := .sc _) rfl rfl (fun _ => rfl) ?_
      refine RunC.fin ?_
      refine AWP.sq ?_
      refine AWP.cd hR rfl (fun h6 hR => ?_) fun h6 hR => ?_
      · refine AWP.skip ?_
        refine skT ?_
        refine AWP.sq ?_
        refine AWP.block ?_
        refine AWP.sq ?_
        refine AWP.rgC 22 rfl rfl ?_
        obtain ⟨h7, hR⟩ := chkE hR
        refine ixL (α := curve_Sample) rfl rfl rfl ti35 rfl ti53 rfl h7 ?_
        refine ldR (v := .agg _) rfl rfl ti53 rfl ?_
        refine al (cs := [.sc (.int .i64 0), .sc (.int .i64 0), .sc (.bool false), .sc (.int .i64 0), .sc (.int .i64 0), .sc (.bool false)]) 14 rfl rfl ti53 rfl rfl ?_
        refine stB (cs' := [.sc (.int .i64 (gt l s4.2).At.Lo), .sc (.int .i64 (gt l s4.2).At.Hi), .sc (.bool (gt l s4.2).At.Unknown), .sc (.int .i64 (gt l s4.2).Light.Lo), .sc (.int .i64 (gt l s4.2).Light.Hi), .sc (.bool (gt l s4.2).Light.Unknown)]) rfl rfl rfl rfl ti53 rfl rfl rfl rfl rfl ?_
        refine RunC.fin ?_
        refine AWP.sq ?_
        refine AWP.rgC 26 rfl rfl ?_
        refine pu (v := .sc _) rfl rfl (fun _ => rfl) ?_
        refine RunC.fin ?_
        refine AWP.sq ?_
        refine AWP.rgC 62 rfl rfl ?_
        refine ldB (v := .agg _) rfl rfl rfl rfl ti44 rfl rfl ?_
        refine fa rfl rfl ti53 rfl rfl ti44 rfl ?_
        refine ldB (v := .agg _) rfl rfl rfl rfl ti44 rfl rfl ?_
        obtain ⟨r8, hr8, hR⟩ := bindE hR
        refine cls [] rfl rfl cb27 (ok27 s4.1 (gt l s4.2).Light _ hr8) (.cons (.agg (.cons (.sc _) (.cons (.sc _) (.cons (.sc _) (.nil)))) rfl) (.cons (.agg (.cons (.sc _) (.cons (.sc _) (.cons (.sc _) (.nil)))) rfl) (.nil))) (.inr rfl) rfl ?_
        refine pu (v := .tup _) rfl rfl (fun _ => rfl) ?_
        refine pu (v := .agg _) rfl rfl (fun _ => rfl) ?_
        refine pu (v := .sc _) rfl rfl (fun _ => rfl) ?_
        refine stB (cs' := [.sc (.int .i64 r8.1.Lo), .sc (.int .i64 r8.1.Hi), .sc (.bool r8.1.Unknown)]) rfl rfl rfl rfl ti44 rfl rfl rfl rfl rfl ?_
        refine pu (v := .sc _) rfl rfl (fun _ => rfl) ?_
        refine RunC.fin ?_
        refine AWP.sq ?_
        refine AWP.rgC 70 rfl rfl ?_
        refine pu (v := .sc _) rfl rfl (fun _ => rfl) ?_
        refine pu (v := .sc _) rfl rfl (fun _ => rfl) ?_
        refine RunC.fin ?_
        refine AWP.cd hR rfl (fun h9 hR => ?_) fun h9 hR => ?_
        · refine AWP.sq ?_
          refine AWP.rgC 86 rfl rfl ?_
          refine bu (cs := [.sc (.int .i64 0), .sc (.int .i64 0), .sc (.bool false)]) rfl bt44 rfl ?_
          refine stB (cs' := [.sc (.int .i64 0), .sc (.int .i64 0), .sc (.bool false)]) rfl rfl rfl rfl ti44 rfl rfl rfl rfl rfl ?_
          refine pu (v := .sc _) rfl rfl (fun _ => rfl) ?_
          refine pu (v := .sc _) rfl rfl (fun _ => rfl) ?_
          refine RunC.fin ?_
          refine AWP.ret ?_
          refine rtB ?_
          refine rtT ?_
          refine rtT ?_
          refine rtB (rtT ?_)
          replace hR := escL hR hE4
          refine rtT ?_
          have hR := Option.some.inj hR; subst hR
          exact hQ _ _ (LS.mk [(2, .ptr 0 0 0), (3, .sc (.bool false)), (4, .sc (.int .i64 0))] (lblks 0 [boxB (α := Bound) true (Bound.mk 0 0 false)]) 1) (.tup [aggV (α := Bound) true (Bound.mk 0 0 false), .sc (.bool false), .sc (.int .i64 0)]) [] (.inr rfl) (Weak.turnL [(0, 0)] [] rfl rfl (tc (trP' rfl rfl rfl rfl) (tc (.sc _) (tc (.sc _) tn))) (mc rfl (.box rfl (.cons (.sc _) (.cons (.sc _) (.cons (.sc _) (.nil)))) rfl) mn)) (ro3 (rvC (v := aggV (α := Bound) true (Bound.mk 0 0 false)) rfl rfl ti44 rfl) (rvT (v := .sc (.bool false)) rfl) (rvT (v := .sc (.int .i64 0)) rfl)) rfl rfl (.tup (.cons ldA (.cons (.sc _) (.cons (.sc _) .nil)))) pn
        · refine AWP.skip ?_
          refine skB ?_
          refine skT ?_
          refine AWP.rgC 78 rfl rfl ?_
          refine pu (v := .sc _) rfl rfl (fun _ => rfl) ?_
          refine pu (v := .sc _) rfl rfl (fun _ => rfl) ?_
          refine RunC.fin ?_
          refine ⟨(r8.1, w6 (s4.2 + 1)), (Option.some.inj hR).symm, ?_⟩
          exact Weak.turnL [(0, 0), (1, 0)] [] rfl rfl (tc (trP' rfl rfl rfl rfl) (tc (trP' rfl rfl rfl rfl) (tc trR1 (tc (.sc _) (tc (.sc _) tn))))) (mc rfl (.box rfl (.cons (.sc _) (.cons (.sc _) (.cons (.sc _) (.nil)))) rfl) (mc rfl (.box rfl (.cons (.sc _) (.cons (.sc _) (.cons (.sc _) (.nil)))) rfl) mn))
      · refine AWP.exit ?_
        refine exT ?_
        refine exT ?_
        refine exH (skT ?_)
        refine ⟨s4.1, (Option.some.inj hR).symm, ?_⟩
        exact Weak.turnL [(0, 0), (1, 0)] [] rfl rfl (tc (trP' rfl rfl rfl rfl) (tc (trP' rfl rfl rfl rfl) tn)) (mc rfl (.box rfl (.cons (.sc _) (.cons (.sc _) (.cons (.sc _) (.nil)))) rfl) (mc rfl (.box rfl (.cons (.sc _) (.cons (.sc _) (.cons (.sc _) (.nil)))) rfl) mn))
    · refine skT ?_
      refine AWP.sq ?_
      refine AWP.rgC 18 rfl rfl ?_
      refine ldB (v := .agg _) rfl rfl rfl rfl ti44 rfl rfl ?_
      refine stB (cs' := [.sc (.int .i64 z5.Lo), .sc (.int .i64 z5.Hi), .sc (.bool z5.Unknown)]) rfl rfl rfl rfl ti44 rfl rfl rfl rfl rfl ?_
      refine pu (v := .sc _) rfl rfl (fun _ => rfl) ?_
      refine pu (v := .sc _) rfl rfl (fun _ => rfl) ?_
      refine RunC.fin ?_
      refine AWP.ret ?_
      have hR := Option.some.inj hR; subst hR
      exact hQ _ _ (LS.mk [(2, .ptr 0 0 0), (3, .sc (.bool true)), (4, .sc (.int .i64 0))] (lblks 0 [boxB (α := Bound) true z5]) 1) (.tup [aggV (α := Bound) true z5, .sc (.bool true), .sc (.int .i64 0)]) [] (.inr rfl) (Weak.turnL [(0, 0)] [] rfl rfl (tc (trP' rfl rfl rfl rfl) (tc (.sc _) (tc (.sc _) tn))) (mc rfl (.box rfl (.cons (.sc _) (.cons (.sc _) (.cons (.sc _) (.nil)))) rfl) mn)) (ro3 (rvC (v := aggV (α := Bound) true z5) rfl rfl ti44 rfl) (rvT (v := .sc (.bool true)) rfl) (rvT (v := .sc (.int .i64 0)) rfl)) rfl rfl (.tup (.cons ldA (.cons (.sc _) (.cons (.sc _) .nil)))) pn
theorem ok8 (r : Bool) (hR : spykeep4_phased = some r) : FnP Try.prog 8 [] (.sc (.bool r)) := by
  refine fnP_of (FnX.walk Try.func8 rfl 27 0 (by simp [Try.ntmps8]) rfl fun W S F Q hQ => ?_)
  unfold spykeep4_phased at hR
  refine AWP.sq ?_
  refine AWP.rgC 4 rfl rfl ?_
  refine pu (v := .sc _) rfl rfl (fun _ => rfl) ?_
  refine RunC.fin ?_
  refine AWP.sq ?_
  refine AWP.rgC 32 rfl rfl ?_
  refine bu (cs := [.sc (.int .i64 (-1)), .sc (.int .i64 (-1)), .sc (.bool false)]) rfl bt51 rfl ?_
  obtain ⟨r1, hr1, hR⟩ := bindE hR
  refine cls [] rfl rfl cb23 (ok23 (Bound.mk (-1) (-1) false) 6 3 _ hr1) (.cons (.agg (.cons (.sc _) (.cons (.sc _) (.cons (.sc _) (.nil)))) rfl) (.cons (.sc _) (.cons (.sc _) (.nil)))) (.inr rfl) rfl ?_
  refine pu (v := .tup _) rfl rfl (fun _ => rfl) ?_
  refine pu (v := .sc _) rfl rfl (fun _ => rfl) ?_
  refine pu (v := .sc _) rfl rfl (fun _ => rfl) ?_
  refine pu (v := .sc _) rfl rfl (fun _ => rfl) ?_
  refine pu (v := .sc _) rfl rfl (fun _ => rfl) ?_
  refine RunC.fin ?_
  refine AWP.sq ?_
  refine AWP.rgC 60 rfl rfl ?_
  refine bu (cs := [.sc (.int .i64 8), .sc (.int .i64 9), .sc (.bool false)]) rfl bt51 rfl ?_
  obtain ⟨r2, hr2, hR⟩ := bindE hR
  refine cls [] rfl rfl cb23 (ok23 (Bound.mk 8 9 false) 6 3 _ hr2) (.cons (.agg (.cons (.sc _) (.cons (.sc _) (.cons (.sc _) (.nil)))) rfl) (.cons (.sc _) (.cons (.sc _) (.nil)))) (.inr rfl) rfl ?_
  refine pu (v := .tup _) rfl rfl (fun _ => rfl) ?_
  refine pu (v := .sc _) rfl rfl (fun _ => rfl) ?_
  refine pu (v := .sc _) rfl rfl (fun _ => rfl) ?_
  refine pu (v := .sc _) rfl rfl (fun _ => rfl) ?_
  refine pu (v := .sc _) rfl rfl (fun _ => rfl) ?_
  refine RunC.fin ?_
  refine AWP.joinX (fun z3 : Bool => LS.mk [(0, .sc (.bool z3))] (lblks 0 []) 0) hR (fun o3 hR => ?_) fun z3 hR => ?_
  · refine AWP.rgC 112 rfl rfl ?_
    refine pu (v := .sc _) rfl rfl (fun _ => rfl) ?_
    refine pu (v := .sc _) rfl rfl (fun _ => rfl) ?_
    refine brR hR (fun h4 hR => ?_) fun h4 hR => ?_
    · refine pu (v := .sc _) (wtG rfl rfl rfl h4) rfl (fun _ => rfl) ?_
      refine pkT (v := .sc (.bool r2.2)) rfl rfl h4 rfl ?_
      refine pu (v := .sc _) rfl rfl (fun _ => rfl) ?_
      refine brR hR (fun h5 hR => ?_) fun h5 hR => ?_
      · refine pu (v := .sc _) (wtG rfl rfl rfl h5) rfl (fun _ => rfl) ?_
        refine pu (v := .sc _) (wtG rfl rfl rfl h5) rfl (fun _ => rfl) ?_
        refine pkT (v := .sc (.bool (r1.1 == 2))) rfl rfl h5 rfl ?_
        refine pu (v := .sc _) rfl rfl (fun _ => rfl) ?_
        refine brR hR (fun h6 hR => ?_) fun h6 hR => ?_
        · refine pu (v := .sc _) (wtG rfl rfl rfl h6) rfl (fun _ => rfl) ?_
          refine pu (v := .sc _) (wtG rfl rfl rfl h6) rfl (fun _ => rfl) ?_
          refine pkT (v := .sc (.bool (r2.1 == 1))) rfl rfl h6 rfl ?_
          refine pu (v := .sc _) rfl rfl (fun _ => rfl) ?_
          refine RunC.fin ?_
          have hR := Option.some.inj hR; subst hR
          exact Weak.turnL [] [] rfl rfl (tc (.sc _) tn) mn
        · refine sk (skW rfl rfl rfl h6) ?_
          refine sk (skW rfl rfl rfl h6) ?_
          refine pkF (v := .sc (.bool false)) rfl rfl h6 rfl ?_
          refine pu (v := .sc _) rfl rfl (fun _ => rfl) ?_
          refine RunC.fin ?_
          have hR := Option.some.inj hR; subst hR
          exact Weak.turnL [] [] rfl rfl (tc (.sc _) tn) mn
      · refine sk (skW rfl rfl rfl h5) ?_
        refine sk (skW rfl rfl rfl h5) ?_
        refine pkF (v := .sc (.bool false)) rfl rfl h5 rfl ?_
        refine pu (v := .sc _) rfl rfl (fun _ => rfl) ?_
        refine sk (skW rfl rfl rfl rfl) ?_
        refine sk (skW rfl rfl rfl rfl) ?_
        refine pkF (v := .sc (.bool false)) rfl rfl rfl rfl ?_
        refine pu (v := .sc _) rfl rfl (fun _ => rfl) ?_
        refine RunC.fin ?_
        have hR := Option.some.inj hR; subst hR
        exact Weak.turnL [] [] rfl rfl (tc (.sc _) tn) mn
    · refine sk (skW rfl rfl rfl h4) ?_
      refine pkF (v := .sc (.bool false)) rfl rfl h4 rfl ?_
      refine pu (v := .sc _) rfl rfl (fun _ => rfl) ?_
      refine sk (skW rfl rfl rfl rfl) ?_
      refine sk (skW rfl rfl rfl rfl) ?_
      refine pkF (v := .sc (.bool false)) rfl rfl rfl rfl ?_
      refine pu (v := .sc _) rfl rfl (fun _ => rfl) ?_
      refine sk (skW rfl rfl rfl rfl) ?_
      refine sk (skW rfl rfl rfl rfl) ?_
      refine pkF (v := .sc (.bool false)) rfl rfl rfl rfl ?_
      refine pu (v := .sc _) rfl rfl (fun _ => rfl) ?_
      refine RunC.fin ?_
      have hR := Option.some.inj hR; subst hR
      exact Weak.turnL [] [] rfl rfl (tc (.sc _) tn) mn
  · refine AWP.ret ?_
    have hR := Option.some.inj hR; subst hR
    exact hQ _ _ (LS.mk [(0, .sc (.bool z3))] (lblks 0 []) 0) (.sc (.bool z3)) [] (.inr rfl) (Weak.turnL [] [] rfl rfl (tc (.sc _) tn) mn) (ro1 (rvT (v := .sc (.bool z3)) rfl)) rfl rfl (.sc _) pn
theorem ok47 (data : List curve_Sample) (a : Int) (b : Int) (r : (List curve_Sample)) (hR : slices_insertionSortCmpFunc_curve_Sample_curve_order data a b = some r) : FnD Try.prog 47 [arrB 53 0 false data] [slV curve_Sample 0 0 0 data.length, .sc (.int .i64 a), .sc (.int .i64 b), .fn (.func 22) []] (.tup []) [arrB 53 0 false r] := by
  refine FnX.walk Try.func47 rfl 53 1 (by simp [Try.ntmps47]) rfl fun W S F Q hQ => ?_
  unfold slices_insertionSortCmpFunc_curve_Sample_curve_order at hR
  refine AWP.sq ?_
  refine AWP.rgC 13 rfl rfl ?_
  refine pu (v := .sc _) rfl rfl (fun _ => rfl) ?_
  refine pu (v := .sc _) rfl rfl (fun _ => rfl) ?_
  refine pu (v := .sc _) rfl rfl (fun _ => rfl) ?_
  refine RunC.fin ?_
  refine AWP.loopJ (fun s1 : (List curve_Sample) × Int => LS.mk [(0, slV curve_Sample 0 0 0 s1.1.length), (1, .sc (.int .i64 a)), (2, .sc (.int .i64 b)), (3, .fn (.func 22) []), (8, .sc (.int .i64 s1.2))] (lblks 0 [arrB (α := curve_Sample) 53 0 false s1.1]) 1) (fun z2 : (List curve_Sample) => LS.mk [] (lblks 0 [arrB (α := curve_Sample) 53 0 false z2]) 1) (slices_insertionSortCmpFunc_curve_Sample_curve_order.l1 a b) hR (s0 := (data, w6 (a + 1))) (Weak.turnL [(0, 0)] [] rfl rfl (tc (trS' rfl rfl rfl rfl rfl) (tc (.sc _) (tc (.sc _) (tc (.fn (.nil)) (tc (.sc _) tn))))) (mc rfl (btrA' rfl) mn)) (fun s1 o1 hR => ?_) fun z2 hR => ?_
  · unfold slices_insertionSortCmpFunc_curve_Sample_curve_order.l1 at hR
    refine AWP.sq ?_
    refine AWP.sq ?_
    refine AWP.rgC 13 rfl rfl ?_
    refine pu (v := .sc _) rfl rfl (fun _ => rfl) ?_
    refine pu (v := .sc _) rfl rfl (fun _ => rfl) ?_
    refine pu (v := .sc _) rfl rfl (fun _ => rfl) ?_
    refine RunC.fin ?_
    refine AWP.cd hR rfl (fun h3 hR => ?_) fun h3 hR => ?_
    · refine AWP.skip ?_
      refine skT ?_
      refine AWP.sq ?_
      refine AWP.block ?_
      refine AWP.sq ?_
      refine AWP.rgC 21 rfl rfl ?_
      refine pu (v := .sc _) rfl rfl (fun _ => rfl) ?_
      refine pu (v := .sc _) rfl rfl (fun _ => rfl) ?_
      refine RunC.fin ?_
      refine AWP.loopJ (fun s4 : (List curve_Sample) × Int => LS.mk [(0, slV curve_Sample 0 0 0 s4.1.length), (1, .sc (.int .i64 a)), (2, .sc (.int .i64 b)), (3, .fn (.func 22) []), (8, .sc (.int .i64 s1.2)), (9, .sc (.int .i64 s4.2))] (lblks 0 [arrB (α := curve_Sample) 53 0 false s4.1]) 1) (fun z5 : (List curve_Sample) => LS.mk [(0, slV curve_Sample 0 0 0 z5.length), (1, .sc (.int .i64 a)), (2, .sc (.int .i64 b)), (3, .fn (.func 22) []), (8, .sc (.int .i64 s1.2))] (lblks 0 [arrB (α := curve_Sample) 53 0 false z5]) 1) (slices_insertionSortCmpFunc_curve_Sample_curve_order.l2 a) hR (s0 := (s1.1, s1.2)) (Weak.turnL [(0, 0)] [] rfl rfl (tc (trS' rfl rfl rfl rfl rfl) (tc (.sc _) (tc (.sc _) (tc (.fn (.nil)) (tc (.sc _) (tc (.sc _) tn)))))) (mc rfl (btrA' rfl) mn)) (fun s4 o4 hR => ?_) fun z5 hR => ?_
      · unfold slices_insertionSortCmpFunc_curve_Sample_curve_order.l2 at hR
        refine AWP.sq ?_
        refine AWP.joinX (fun z6 : Bool => LS.mk [(0, slV curve_Sample 0 0 0 s4.1.length), (1, .sc (.int .i64 a)), (2, .sc (.int .i64 b)), (3, .fn (.func 22) []), (8, .sc (.int .i64 s1.2)), (9, .sc (.int .i64 s4.2)), (34, .sc (.bool z6))] (lblks 0 [arrB (α := curve_Sample) 53 0 false s4.1]) 1) hR (fun o6 hR => ?_) fun z6 hR => ?_
        · refine AWP.rgD 69 [0, 0, 3, 7, 15, 15, 15, 111, 239, 15, 15, 1039, 3599, 7695, 16383, 32767, 65535] ⟨[], [none, none, none, none, none, none, none, none, some [0], none, none, none, none, some [0], none, none, none]⟩ hmix (by kernel_rfl) rfl rfl ?_
          refine pu (v := .sc _) rfl rfl (fun _ => rfl) ?_
          refine pu (v := .sc _) rfl rfl (fun _ => rfl) ?_
          refine pu (v := .sc _) rfl rfl (fun _ => rfl) ?_
          refine pu (v := .sc _) rfl rfl (fun _ => rfl) ?_
          refine brR hR (fun h7 hR => ?_) fun h7 hR => ?_
          · refine pu (v := .fn _ _) (wtG rfl rfl rfl h7) rfl (fun _ => rfl) ?_
            refine pu (v := slV curve_Sample _ _ _ _) (wtG rfl rfl rfl h7) rfl (fun _ => rfl) ?_
            refine pu (v := .sc _) (wtG rfl rfl rfl h7) rfl (fun _ => rfl) ?_
            obtain ⟨h8, hR⟩ := chkE hR
            refine ixS0 (α := curve_Sample) (wtG rfl rfl rfl h7) rfl rfl ti35 rfl ti53 rfl h8 ?_
            refine ldE (α := curve_Sample) (v := .agg _) (wtG rfl rfl rfl h7) rfl rfl (ixlt h8) ti53 rfl rfl rfl rfl ?_
            refine pu (v := slV curve_Sample _ _ _ _) (wtG rfl rfl rfl h7) rfl (fun _ => rfl) ?_
            refine pu (v := .sc _) (wtG rfl rfl rfl h7) rfl (fun _ => rfl) ?_
            refine pu (v := .sc _) (wtG rfl rfl rfl h7) rfl (fun _ => rfl) ?_
            obtain ⟨h9, hR⟩ := chkE hR
            refine ixS0 (α := curve_Sample) (wtG rfl rfl rfl h7) rfl rfl ti35 rfl ti53 rfl h9 ?_
            refine ldE (α := curve_Sample) (v := .agg _) (wtG rfl rfl rfl h7) rfl rfl (ixlt h9) ti53 rfl rfl rfl rfl ?_
            obtain ⟨r10, hr10, hR⟩ := bindE hR
            refine cls [] (wtG rfl rfl rfl h7) rfl cb22 (ok22 (gt s4.1 s4.2) (gt s4.1 (w6 (s4.2 - 1))) _ hr10) (.cons (.agg (.cons (.sc _) (.cons (.sc _) (.cons (.sc _) (.cons (.sc _) (.cons (.sc _) (.cons (.sc _) (.nil))))))) rfl) (.cons (.agg (.cons (.sc _) (.cons (.sc _) (.cons (.sc _) (.cons (.sc _) (.cons (.sc _) (.cons (.sc _) (.nil))))))) rfl) (.nil))) (.inr rfl) rfl ?_
            refine pu (v := .sc _) (wtG rfl rfl rfl h7) rfl (fun _ => rfl) ?_
            refine pkT (v := .sc (.bool (decide (r10 < 0)))) rfl rfl h7 rfl ?_
            refine RunC.fin ?_
            have hR := Option.some.inj hR; subst hR
            exact Weak.turnL [(0, 0)] [] rfl rfl (tc (trS' rfl rfl rfl rfl rfl) (tc (.sc _) (tc (.sc _) (tc (.fn (.nil)) (tc (.sc _) (tc (.sc _) (tc (.sc _) tn))))))) (mc rfl (btrA' rfl) mn)
          · refine sk (skW rfl rfl rfl h7) ?_
            refine sk (skW rfl rfl rfl h7) ?_
            refine sk (skW rfl rfl rfl h7) ?_
            refine sk (skW rfl rfl rfl h7) ?_
            refine sk (skW rfl rfl rfl h7) ?_
            refine sk (skW rfl rfl rfl h7) ?_
            refine sk (skW rfl rfl rfl h7) ?_
            refine sk (skW rfl rfl rfl h7) ?_
            refine sk (skW rfl rfl rfl h7) ?_
            refine sk (skW rfl rfl rfl h7) ?_
            refine sk (skW rfl rfl rfl h7) ?_
            refine sk (skW rfl rfl rfl h7) ?_
            refine pkF (v := .sc (.bool false)) rfl rfl h7 rfl ?_
            refine RunC.fin ?_
            have hR := Option.some.inj hR; subst hR
            exact Weak.turnL [(0, 0)] [] rfl rfl (tc (trS' rfl rfl rfl rfl rfl) (tc (.sc _) (tc (.sc _) (tc (.fn (.nil)) (tc (.sc _) (tc (.sc _) (tc (.sc _) tn))))))) (mc rfl (btrA' rfl) mn)
        · refine AWP.cd hR rfl (fun h11 hR => ?_) fun h11 hR => ?_
          · refine AWP.skip ?_
            refine skT ?_
            refine AWP.sq ?_
            refine AWP.block ?_
            refine AWP.rgD 73 [0, 0, 0, 0, 8, 0, 0, 64, 224, 480, 0, 0, 3072, 7168, 16355, 32739, 65535, 131071] ⟨[], [none, none, none, none, none, none, none, none, none, some [0], none, none, none, some [0], none, some [0], none, some [0]]⟩ hmix (by kernel_rfl) rfl rfl ?_
            refine pu (v := slV curve_Sample _ _ _ _) rfl rfl (fun _ => rfl) ?_
            refine pu (v := .sc _) rfl rfl (fun _ => rfl) ?_
            refine pu (v := slV curve_Sample _ _ _ _) rfl rfl (fun _ => rfl) ?_
            refine pu (v := .sc _) rfl rfl (fun _ => rfl) ?_
            refine pu (v := .sc _) rfl rfl (fun _ => rfl) ?_
            refine pu (v := slV curve_Sample _ _ _ _) rfl rfl (fun _ => rfl) ?_
            refine pu (v := .sc _) rfl rfl (fun _ => rfl) ?_
            refine pu (v := .sc _) rfl rfl (fun _ => rfl) ?_
            obtain ⟨h12, hR⟩ := chkE hR
            refine ixS0 (α := curve_Sample) rfl rfl rfl ti35 rfl ti53 rfl h12 ?_
            refine ldE (α := curve_Sample) (v := .agg _) rfl rfl rfl (ixlt h12) ti53 rfl rfl rfl rfl ?_
            refine pu (v := slV curve_Sample _ _ _ _) rfl rfl (fun _ => rfl) ?_
            refine pu (v := .sc _) rfl rfl (fun _ => rfl) ?_
            obtain ⟨h13, hR⟩ := chkE hR
            refine ixS0 (α := curve_Sample) rfl rfl rfl ti35 rfl ti53 rfl h13 ?_
            refine ldE (α := curve_Sample) (v := .agg _) rfl rfl rfl (ixlt h13) ti53 rfl rfl rfl rfl ?_
            refine ixS0 (α := curve_Sample) rfl rfl rfl ti35 rfl ti53 rfl h13 ?_
            refine stE (α := curve_Sample) (y := (gt s4.1 (w6 (s4.2 - 1)))) rfl rfl rfl (ixlt h13) ti53 rfl rfl rfl rfl rfl ?_
            refine ixS0 (α := curve_Sample) rfl rfl rfl ti35 rfl ti53 rfl h12 ?_
            obtain ⟨v14, ev14, hR⟩ := letE hR
            refine stE (α := curve_Sample) (y := (gt s4.1 s4.2)) rfl rfl rfl (by first | exact ixlt h12 | (simp only [List.length_set]; exact ixlt h12)) ti53 rfl rfl rfl rfl rfl ?_
            rw [ev14]
            refine RunC.blk ?_
            refine RunC.fin ?_
            refine AWP.rgC 85 rfl rfl ?_
            refine pu (v := .sc _) rfl rfl (fun _ => rfl) ?_
            refine pu (v := .sc _) rfl rfl (fun _ => rfl) ?_
            refine pu (v := .sc _) rfl rfl (fun _ => rfl) ?_
            refine RunC.fin ?_
            refine ⟨(v14, w6 (s4.2 - 1)), (Option.some.inj hR).symm, ?_⟩
            exact Weak.turnL [(0, 0)] [] rfl rfl (tc (trS' rfl rfl rfl rfl (by subst ev14; simp only [List.length_set])) (tc (.sc _) (tc (.sc _) (tc (.fn (.nil)) (tc (.sc _) (tc (.sc _) tn)))))) (mc rfl (btrA' rfl) mn)
          · refine AWP.exit ?_
            refine exT ?_
            refine exT ?_
            refine exH (skT ?_)
            refine ⟨s4.1, (Option.some.inj hR).symm, ?_⟩
            exact Weak.turnL [(0, 0)] [] rfl rfl (tc (trS' rfl rfl rfl rfl rfl) (tc (.sc _) (tc (.sc _) (tc (.fn (.nil)) (tc (.sc _) tn))))) (mc rfl (btrA' rfl) mn)
      · refine skB ?_
        refine skT ?_
        refine AWP.rgC 13 rfl rfl ?_
        refine pu (v := .sc _) rfl rfl (fun _ => rfl) ?_
        refine pu (v := .sc _) rfl rfl (fun _ => rfl) ?_
        refine pu (v := .sc _) rfl rfl (fun _ => rfl) ?_
        refine RunC.fin ?_
        refine ⟨(z5, w6 (s1.2 + 1)), (Option.some.inj hR).symm, ?_⟩
        exact Weak.turnL [(0, 0)] [] rfl rfl (tc (trS' rfl rfl rfl rfl rfl) (tc (.sc _) (tc (.sc _) (tc (.fn (.nil)) (tc (.sc _) tn))))) (mc rfl (btrA' rfl) mn)
    · refine AWP.exit ?_
      refine exT ?_
      refine exT ?_
      refine exH (skT ?_)
      refine ⟨s1.1, (Option.some.inj hR).symm, ?_⟩
      exact Weak.turnL [(0, 0)] [] rfl rfl tn (mc rfl (btrA' rfl) mn)
  · have hR := Option.some.inj hR; subst hR
    exact hQ _ _ (LS.mk [] (lblks 0 [arrB (α := curve_Sample) 53 0 false z2]) 1) (.tup []) [] (.inl rfl) (Weak.turnL [(0, 0)] [] rfl rfl tn (mc rfl (btrA' rfl) mn)) (ro0 ) rfl rfl (.tup .nil) (pc rfl bldA pn)
theorem ok74 (data : List curve_Sample) (a : Int) (b : Int) (n : Int) (r : (List curve_Sample)) (hR : slices_swapRangeCmpFunc_curve_Sample_curve_order data a b n = some r) : FnD Try.prog 74 [arrB 53 0 false data] [slV curve_Sample 0 0 0 data.length, .sc (.int .i64 a), .sc (.int .i64 b), .sc (.int .i64 n), .fn (.func 22) []] (.tup []) [arrB 53 0 false r] := by
  refine FnX.walk Try.func74 rfl 38 1 (by simp [Try.ntmps74]) rfl fun W S F Q hQ => ?_
  unfold slices_swapRangeCmpFunc_curve_Sample_curve_order at hR
  refine AWP.sq ?_
  refine AWP.rgC 5 rfl rfl ?_
  refine pu (v := .sc _) rfl rfl (fun _ => rfl) ?_
  refine RunC.fin ?_
  refine AWP.loopJ (fun s1 : (List curve_Sample) × Int => LS.mk [(0, slV curve_Sample 0 0 0 s1.1.length), (1, .sc (.int .i64 a)), (2, .sc (.int .i64 b)), (3, .sc (.int .i64 n)), (10, .sc (.int .i64 s1.2))] (lblks 0 [arrB (α := curve_Sample) 53 0 false s1.1]) 1) (fun z2 : (List curve_Sample) => LS.mk [] (lblks 0 [arrB (α := curve_Sample) 53 0 false z2]) 1) (slices_swapRangeCmpFunc_curve_Sample_curve_order.l1 a b n) hR (s0 := (data, 0)) (Weak.turnL [(0, 0)] [] rfl rfl (tc (trS' rfl rfl rfl rfl rfl) (tc (.sc _) (tc (.sc _) (tc (.sc _) (tc (.sc _) tn))))) (mc rfl (btrA' rfl) mn)) (fun s1 o1 hR => ?_) fun z2 hR => ?_
  · unfold slices_swapRangeCmpFunc_curve_Sample_curve_order.l1 at hR
    refine AWP.sq ?_
    refine AWP.sq ?_
    refine AWP.rgC 13 rfl rfl ?_
    refine pu (v := .sc _) rfl rfl (fun _ => rfl) ?_
    refine pu (v := .sc _) rfl rfl (fun _ => rfl) ?_
    refine pu (v := .sc _) rfl rfl (fun _ => rfl) ?_
    refine RunC.fin ?_
    refine AWP.cd hR rfl (fun h3 hR => ?_) fun h3 hR => ?_
    · refine AWP.skip ?_
      refine skT ?_
      refine AWP.sq ?_
      refine AWP.block ?_
      refine AWP.rgD 109 [0, 0, 0, 6, 0, 0, 0, 96, 0, 0, 0, 1536, 3840, 7936, 0, 0, 0, 98304, 245760, 507904, 1048335, 2096911, 4194303, 8388607] ⟨[], [none, none, none, none, none, none, none, none, none, none, none, none, none, some [0], none, none, none, none, none, some [0], none, some [0], none, some [0]]⟩ hmix (by kernel_rfl) rfl rfl ?_
      refine pu (v := slV curve_Sample _ _ _ _) rfl rfl (fun _ => rfl) ?_
      refine pu (v := .sc _) rfl rfl (fun _ => rfl) ?_
      refine pu (v := .sc _) rfl rfl (fun _ => rfl) ?_
      refine pu (v := .sc _) rfl rfl (fun _ => rfl) ?_
      refine pu (v := slV curve_Sample _ _ _ _) rfl rfl (fun _ => rfl) ?_
      refine pu (v := .sc _) rfl rfl (fun _ => rfl) ?_
      refine pu (v := .sc _) rfl rfl (fun _ => rfl) ?_
      refine pu (v := .sc _) rfl rfl (fun _ => rfl) ?_
      refine pu (v := slV curve_Sample _ _ _ _) rfl rfl (fun _ => rfl) ?_
      refine pu (v := .sc _) rfl rfl (fun _ => rfl) ?_
      refine pu (v := .sc _) rfl rfl (fun _ => rfl) ?_
      refine pu (v := .sc _) rfl rfl (fun _ => rfl) ?_
      obtain ⟨h4, hR⟩ := chkE hR
      refine ixS0 (α := curve_Sample) rfl rfl rfl ti35 rfl ti53 rfl h4 ?_
      refine ldE (α := curve_Sample) (v := .agg _) rfl rfl rfl (ixlt h4) ti53 rfl rfl rfl rfl ?_
      refine pu (v := slV curve_Sample _ _ _ _) rfl rfl (fun _ => rfl) ?_
      refine pu (v := .sc _) rfl rfl (fun _ => rfl) ?_
      refine pu (v := .sc _) rfl rfl (fun _ => rfl) ?_
      refine pu (v := .sc _) rfl rfl (fun _ => rfl) ?_
      obtain ⟨h5, hR⟩ := chkE hR
      refine ixS0 (α := curve_Sample) rfl rfl rfl ti35 rfl ti53 rfl h5 ?_
      refine ldE (α := curve_Sample) (v := .agg _) rfl rfl rfl (ixlt h5) ti53 rfl rfl rfl rfl ?_
      refine ixS0 (α := curve_Sample) rfl rfl rfl ti35 rfl ti53 rfl h5 ?_
      obtain ⟨v6, ev6, hR⟩ := letE hR
      refine stE (α := curve_Sample) (y := (gt s1.1 (w6 (b + s1.2)))) rfl rfl rfl (ixlt h5) ti53 rfl rfl rfl rfl rfl ?_
      rw [ev6]
      refine ixS0 (α := curve_Sample) rfl rfl rfl ti35 rfl ti53 rfl h4 ?_
      refine stE (α := curve_Sample) (y := (gt s1.1 (w6 (a + s1.2)))) rfl rfl rfl (by first | exact ixlt h4 | (subst ev6; simp only [List.length_set]; exact ixlt h4)) ti53 rfl rfl rfl rfl rfl ?_
      refine RunC.blk ?_
      refine RunC.fin ?_
      refine AWP.rgC 121 rfl rfl ?_
      refine pu (v := .sc _) rfl rfl (fun _ => rfl) ?_
      refine pu (v := .sc _) rfl rfl (fun _ => rfl) ?_
      refine pu (v := .sc _) rfl rfl (fun _ => rfl) ?_
      refine RunC.fin ?_
      refine ⟨(List.set v6 (w6 (b + s1.2)).toNat (gt s1.1 (w6 (a + s1.2))), w6 (s1.2 + 1)), (Option.some.inj hR).symm, ?_⟩
      exact Weak.turnL [(0, 0)] [] rfl rfl (tc (trS' rfl rfl rfl rfl (by subst ev6; simp only [List.length_set])) (tc (.sc _) (tc (.sc _) (tc (.sc _) (tc (.sc _) tn))))) (mc rfl (btrA' rfl) mn)
    · refine AWP.exit ?_
      refine exT ?_
      refine exT ?_
      refine exH (skT ?_)
      refine ⟨s1.1, (Option.some.inj hR).symm, ?_⟩
      exact Weak.turnL [(0, 0)] [] rfl rfl tn (mc rfl (btrA' rfl) mn)
  · have hR := Option.some.inj hR; subst hR
    exact hQ _ _ (LS.mk [] (lblks 0 [arrB (α := curve_Sample) 53 0 false z2]) 1) (.tup []) [] (.inl rfl) (Weak.turnL [(0, 0)] [] rfl rfl tn (mc rfl (btrA' rfl) mn)) (ro0 ) rfl rfl (.tup .nil) (pc rfl bldA pn)
theorem ok68 (data : List curve_Sample) (a : Int) (m : Int) (b : Int) (r : (List curve_Sample)) (hR : slices_rotateCmpFunc_curve_Sample_curve_order data a m b = some r) : FnD Try.prog 68 [arrB 53 0 false data] [slV curve_Sample 0 0 0 data.length, .sc (.int .i64 a), .sc (.int .i64 m), .sc (.int .i64 b), .fn (.func 22) []] (.tup []) [arrB 53 0 false r] := by
  refine FnX.walk Try.func68 rfl 58 1 (by simp [Try.ntmps68]) rfl fun W S F Q hQ => ?_
  unfold slices_rotateCmpFunc_curve_Sample_curve_order at hR
  refine AWP.sq ?_
  refine AWP.rgC 17 rfl rfl ?_
  refine pu (v := .sc _) rfl rfl (fun _ => rfl) ?_
  refine pu (v := .sc _) rfl rfl (fun _ => rfl) ?_
  refine pu (v := .sc _) rfl rfl (fun _ => rfl) ?_
  refine pu (v := .sc _) rfl rfl (fun _ => rfl) ?_
  refine RunC.fin ?_
  refine AWP.sq ?_
  refine AWP.rgC 33 rfl rfl ?_
  refine pu (v := .sc _) rfl rfl (fun _ => rfl) ?_
  refine pu (v := .sc _) rfl rfl (fun _ => rfl) ?_
  refine pu (v := .sc _) rfl rfl (fun _ => rfl) ?_
  refine pu (v := .sc _) rfl rfl (fun _ => rfl) ?_
  refine RunC.fin ?_
  refine AWP.sq ?_
  refine AWP.loopJ (fun s1 : (List curve_Sample) × Int × Int => LS.mk [(0, slV curve_Sample 0 0 0 s1.1.length), (2, .sc (.int .i64 m)), (4, .fn (.func 22) []), (10, .sc (.int .i64 s1.2.1)), (11, .sc (.int .i64 s1.2.2))] (lblks 0 [arrB (α := curve_Sample) 53 0 false s1.1]) 1) (fun z2 : (List curve_Sample) × Int => LS.mk [(0, slV curve_Sample 0 0 0 z2.1.length), (2, .sc (.int .i64 m)), (4, .fn (.func 22) []), (10, .sc (.int .i64 z2.2))] (lblks 0 [arrB (α := curve_Sample) 53 0 false z2.1]) 1) (slices_rotateCmpFunc_curve_Sample_curve_order.l1 m) hR (s0 := (data, w6 (m - a), w6 (b - m))) (Weak.turnL [(0, 0)] [] rfl rfl (tc (trS' rfl rfl rfl rfl rfl) (tc (.sc _) (tc (.fn (.nil)) (tc (.sc _) (tc (.sc _) tn))))) (mc rfl (btrA' rfl) mn)) (fun s1 o1 hR => ?_) fun z2 hR => ?_
  · unfold slices_rotateCmpFunc_curve_Sample_curve_order.l1 at hR
    refine AWP.sq ?_
    refine AWP.sq ?_
    refine AWP.rgC 13 rfl rfl ?_
    refine pu (v := .sc _) rfl rfl (fun _ => rfl) ?_
    refine pu (v := .sc _) rfl rfl (fun _ => rfl) ?_
    refine pu (v := .sc _) rfl rfl (fun _ => rfl) ?_
    refine RunC.fin ?_
    refine AWP.cd hR rfl (fun h3 hR => ?_) fun h3 hR => ?_
    · refine AWP.skip ?_
      refine skT ?_
      refine AWP.block ?_
      refine AWP.sq ?_
      refine AWP.rgC 25 rfl rfl ?_
      refine pu (v := .sc _) rfl rfl (fun _ => rfl) ?_
      refine pu (v := .sc _) rfl rfl (fun _ => rfl) ?_
      refine pu (v := .sc _) rfl rfl (fun _ => rfl) ?_
      refine RunC.fin ?_
      refine AWP.cd hR rfl (fun h4 hR => ?_) fun h4 hR => ?_
      · refine AWP.sq ?_
        refine AWP.rgC 57 rfl rfl ?_
        refine pu (v := slV curve_Sample _ _ _ _) rfl rfl (fun _ => rfl) ?_
        refine pu (v := .sc _) rfl rfl (fun _ => rfl) ?_
        refine pu (v := .sc _) rfl rfl (fun _ => rfl) ?_
        refine pu (v := .sc _) rfl rfl (fun _ => rfl) ?_
        refine pu (v := .sc _) rfl rfl (fun _ => rfl) ?_
        refine pu (v := .sc _) rfl rfl (fun _ => rfl) ?_
        refine pu (v := .fn _ _) rfl rfl (fun _ => rfl) ?_
        obtain ⟨r5, hr5, hR⟩ := bindE hR
        obtain ⟨h6, hR⟩ := chkE hR
        refine cps (res' := .tup []) (ups := [(0, arrB (α := curve_Sample) 53 0 false r5)]) [0] 53 rfl rfl rfl cb74 (ok74 s1.1 (w6 (m - s1.2.1)) m s1.2.2 _ hr5) (.cons (ldM rfl rfl) (.cons (.sc _) (.cons (.sc _) (.cons (.sc _) (.cons (.fn (.nil)) (.nil)))))) (pc rfl bldA pn) rfl rfl rfl rfl rfl (by first | rfl | exact renR | exact renA | exact renS | simp only [V.ren, V.rens, renR, renA, renS] | (simp only [V.ren, V.rens, renR, renA, renS]; rfl)) (by simp only [passUps, renBox, renArr]; rfl) ?_
        refine RunC.fin ?_
        refine AWP.rgC 73 rfl rfl ?_
        refine pu (v := .sc _) rfl rfl (fun _ => rfl) ?_
        refine pu (v := .sc _) rfl rfl (fun _ => rfl) ?_
        refine pu (v := .sc _) rfl rfl (fun _ => rfl) ?_
        refine pu (v := .sc _) rfl rfl (fun _ => rfl) ?_
        refine RunC.blk ?_
        refine RunC.fin ?_
        refine ⟨(r5, w6 (s1.2.1 - s1.2.2), s1.2.2), (Option.some.inj hR).symm, ?_⟩
        exact Weak.turnL [(0, 0)] [] rfl rfl (tc (trS' rfl rfl rfl rfl h6) (tc (.sc _) (tc (.fn (.nil)) (tc (.sc _) (tc (.sc _) tn))))) (mc rfl (btrA' rfl) mn)
      · refine AWP.sq ?_
        refine AWP.rgC 73 rfl rfl ?_
        refine pu (v := slV curve_Sample _ _ _ _) rfl rfl (fun _ => rfl) ?_
        refine pu (v := .sc _) rfl rfl (fun _ => rfl) ?_
        refine pu (v := .sc _) rfl rfl (fun _ => rfl) ?_
        refine pu (v := .sc _) rfl rfl (fun _ => rfl) ?_
        refine pu (v := .sc _) rfl rfl (fun _ => rfl) ?_
        refine pu (v := .sc _) rfl rfl (fun _ => rfl) ?_
        refine pu (v := .sc _) rfl rfl (fun _ => rfl) ?_
        refine pu (v := .sc _) rfl rfl (fun _ => rfl) ?_
        refine pu (v := .sc _) rfl rfl (fun _ => rfl) ?_
        refine pu (v := .sc _) rfl rfl (fun _ => rfl) ?_
        refine pu (v := .fn _ _) rfl rfl (fun _ => rfl) ?_
        obtain ⟨r7, hr7, hR⟩ := bindE hR
        obtain ⟨h8, hR⟩ := chkE hR
        refine cps (res' := .tup []) (ups := [(0, arrB (α := curve_Sample) 53 0 false r7)]) [0] 69 rfl rfl rfl cb74 (ok74 s1.1 (w6 (m - s1.2.1)) (w6 ((w6 (m + s1.2.2)) - s1.2.1)) s1.2.1 _ hr7) (.cons (ldM rfl rfl) (.cons (.sc _) (.cons (.sc _) (.cons (.sc _) (.cons (.fn (.nil)) (.nil)))))) (pc rfl bldA pn) rfl rfl rfl rfl rfl (by first | rfl | exact renR | exact renA | exact renS | simp only [V.ren, V.rens, renR, renA, renS] | (simp only [V.ren, V.rens, renR, renA, renS]; rfl)) (by simp only [passUps, renBox, renArr]; rfl) ?_
        refine RunC.fin ?_
        refine AWP.rgC 89 rfl rfl ?_
        refine pu (v := .sc _) rfl rfl (fun _ => rfl) ?_
        refine pu (v := .sc _) rfl rfl (fun _ => rfl) ?_
        refine pu (v := .sc _) rfl rfl (fun _ => rfl) ?_
        refine pu (v := .sc _) rfl rfl (fun _ => rfl) ?_
        refine RunC.blk ?_
        refine RunC.fin ?_
        refine ⟨(r7, s1.2.1, w6 (s1.2.2 - s1.2.1)), (Option.some.inj hR).symm, ?_⟩
        exact Weak.turnL [(0, 0)] [] rfl rfl (tc (trS' rfl rfl rfl rfl h8) (tc (.sc _) (tc (.fn (.nil)) (tc (.sc _) (tc (.sc _) tn))))) (mc rfl (btrA' rfl) mn)
    · refine AWP.exit ?_
      refine exT ?_
      refine exT ?_
      refine exH (skT ?_)
      refine ⟨(s1.1, s1.2.1), (Option.some.inj hR).symm, ?_⟩
      exact Weak.turnL [(0, 0)] [] rfl rfl (tc (trS' rfl rfl rfl rfl rfl) (tc (.sc _) (tc (.fn (.nil)) (tc (.sc _) tn)))) (mc rfl (btrA' rfl) mn)
  · refine skT ?_
    refine AWP.rgC 33 rfl rfl ?_
    refine pu (v := slV curve_Sample _ _ _ _) rfl rfl (fun _ => rfl) ?_
    refine pu (v := .sc _) rfl rfl (fun _ => rfl) ?_
    refine pu (v := .sc _) rfl rfl (fun _ => rfl) ?_
    refine pu (v := .sc _) rfl rfl (fun _ => rfl) ?_
    refine pu (v := .sc _) rfl rfl (fun _ => rfl) ?_
    refine pu (v := .sc _) rfl rfl (fun _ => rfl) ?_
    refine pu (v := .fn _ _) rfl rfl (fun _ => rfl) ?_
    obtain ⟨r9, hr9, hR⟩ := bindE hR
    obtain ⟨h10, hR⟩ := chkE hR
    refine cps (res' := .tup []) (ups := [(0, arrB (α := curve_Sample) 53 0 false r9)]) [0] 29 rfl rfl rfl cb74 (ok74 z2.1 (w6 (m - z2.2)) m z2.2 _ hr9) (.cons (ldM rfl rfl) (.cons (.sc _) (.cons (.sc _) (.cons (.sc _) (.cons (.fn (.nil)) (.nil)))))) (pc rfl bldA pn) rfl rfl rfl rfl rfl (by first | rfl | exact renR | exact renA | exact renS | simp only [V.ren, V.rens, renR, renA, renS] | (simp only [V.ren, V.rens, renR, renA, renS]; rfl)) (by simp only [passUps, renBox, renArr]; rfl) ?_
    refine RunC.nil ?_
    have hR := Option.some.inj hR; subst hR
    exact hQ _ _ (LS.mk [] (lblks 0 [arrB (α := curve_Sample) 53 0 false r9]) 1) (.tup []) [] (.inl rfl) (Weak.turnL [(0, 0)] [] rfl rfl tn (mc rfl (btrA' rfl) mn)) (ro0 ) rfl rfl (.tup .nil) (pc rfl bldA pn)
theorem ok57 : ∀ (fuel : Nat) (data : List curve_Sample) (a : Int) (m : Int) (b : Int) (r : (List curve_Sample)) (hR : slices_symMergeCmpFunc_curve_Sample_curve_order fuel data a m b = some r), FnD Try.prog 57 [arrB 53 0 false data] [slV curve_Sample 0 0 0 data.length, .sc (.int .i64 a), .sc (.int .i64 m), .sc (.int .i64 b), .fn (.func 22) []] (.tup []) [arrB 53 0 false r] := by
  intro fuel
  induction fuel with
  | zero => intro data a m b r hR; exact nomatch (show none = some r from hR)
  | succ fuel ih =>
    intro data a m b r hR
    refine FnX.walk Try.func57 rfl 220 1 (by simp [Try.ntmps57]) rfl fun W S F Q hQ => ?_
    unfold slices_symMergeCmpFunc_curve_Sample_curve_order at hR
    refine AWP.sq ?_
    refine AWP.sq ?_
    refine AWP.rgC 17 rfl rfl ?_
    refine pu (v := .sc _) rfl rfl (fun _ => rfl) ?_
    refine pu (v := .sc _) rfl rfl (fun _ => rfl) ?_
    refine pu (v := .sc _) rfl rfl (fun _ => rfl) ?_
    refine pu (v := .sc _) rfl rfl (fun _ => rfl) ?_
    refine RunC.fin ?_
    refine AWP.cd hR rfl (fun h1 hR => ?_) fun h1 hR => ?_
    · refine AWP.sq ?_
      refine AWP.rgC 25 rfl rfl ?_
      refine pu (v := .sc _) rfl rfl (fun _ => rfl) ?_
      refine pu (v := .sc _) rfl rfl (fun _ => rfl) ?_
      refine RunC.fin ?_
      refine AWP.sq ?_
      refine AWP.rgC 33 rfl rfl ?_
      refine pu (v := .sc _) rfl rfl (fun _ => rfl) ?_
      refine pu (v := .sc _) rfl rfl (fun _ => rfl) ?_
      refine RunC.fin ?_
      refine AWP.sq ?_
      refine AWP.loopJ (fun s2 : Int × Int => LS.mk [(0, slV curve_Sample 0 0 0 data.length), (1, .sc (.int .i64 a)), (4, .fn (.func 22) []), (10, .sc (.int .i64 s2.1)), (11, .sc (.int .i64 s2.2))] (lblks 0 [arrB (α := curve_Sample) 53 0 false data]) 1) (fun z3 : Int => LS.mk [(0, slV curve_Sample 0 0 0 data.length), (1, .sc (.int .i64 a)), (10, .sc (.int .i64 z3))] (lblks 0 [arrB (α := curve_Sample) 53 0 false data]) 1) (slices_symMergeCmpFunc_curve_Sample_curve_order.l1 data a) hR (s0 := (m, b)) (Weak.turnL [(0, 0)] [] rfl rfl (tc (trS' rfl rfl rfl rfl rfl) (tc (.sc _) (tc (.fn (.nil)) (tc (.sc _) (tc (.sc _) tn))))) (mc rfl (btrA' rfl) mn)) (fun s2 o2 hR => ?_) fun z3 hR => ?_
      · unfold slices_symMergeCmpFunc_curve_Sample_curve_order.l1 at hR
        refine AWP.sq ?_
        refine AWP.sq ?_
        refine AWP.rgC 13 rfl rfl ?_
        refine pu (v := .sc _) rfl rfl (fun _ => rfl) ?_
        refine pu (v := .sc _) rfl rfl (fun _ => rfl) ?_
        refine pu (v := .sc _) rfl rfl (fun _ => rfl) ?_
        refine RunC.fin ?_
        refine AWP.cd hR rfl (fun h4 hR => ?_) fun h4 hR => ?_
        · refine AWP.skip ?_
          refine skT ?_
          refine AWP.block ?_
          refine AWP.sq ?_
          refine AWP.rgC 41 rfl rfl ?_
          refine pu (v := .sc _) rfl rfl (fun _ => rfl) ?_
          refine pu (v := .sc _) rfl rfl (fun _ => rfl) ?_
          refine pu (v := .sc _) rfl rfl (fun _ => rfl) ?_
          refine cn rfl rfl ti3 rfl ti84 rfl rfl ?_
          refine pu (v := .sc _) rfl rfl (fun _ => rfl) ?_
          refine cn rfl rfl ti84 rfl ti3 rfl rfl ?_
          refine pu (v := .sc _) rfl rfl (fun _ => rfl) ?_
          refine RunC.fin ?_
          refine AWP.sq ?_
          refine AWP.rgD 85 [0, 0, 0, 6, 14, 0, 0, 96, 224, 511, 1023] ⟨[], [none, none, none, none, some [0], none, none, none, some [0], none, none]⟩ hmix (by kernel_rfl) rfl rfl ?_
          refine pu (v := .fn _ _) rfl rfl (fun _ => rfl) ?_
          refine pu (v := slV curve_Sample _ _ _ _) rfl rfl (fun _ => rfl) ?_
          refine pu (v := .sc _) rfl rfl (fun _ => rfl) ?_
          obtain ⟨h5, hR⟩ := chkE hR
          refine ixS0 (α := curve_Sample) rfl rfl rfl ti35 rfl ti53 rfl h5 ?_
          refine ldE (α := curve_Sample) (v := .agg _) rfl rfl rfl (ixlt h5) ti53 rfl rfl rfl rfl ?_
          refine pu (v := slV curve_Sample _ _ _ _) rfl rfl (fun _ => rfl) ?_
          refine pu (v := .sc _) rfl rfl (fun _ => rfl) ?_
          obtain ⟨h6, hR⟩ := chkE hR
          refine ixS0 (α := curve_Sample) rfl rfl rfl ti35 rfl ti53 rfl h6 ?_
          refine ldE (α := curve_Sample) (v := .agg _) rfl rfl rfl (ixlt h6) ti53 rfl rfl rfl rfl ?_
          obtain ⟨r7, hr7, hR⟩ := bindE hR
          refine cls [] rfl rfl cb22 (ok22 (gt data (w6 (Int.fdiv (IntKind.wrap .u64 (w6 (s2.1 + s2.2))) (2 ^ 1)))) (gt data a) _ hr7) (.cons (.agg (.cons (.sc _) (.cons (.sc _) (.cons (.sc _) (.cons (.sc _) (.cons (.sc _) (.cons (.sc _) (.nil))))))) rfl) (.cons (.agg (.cons (.sc _) (.cons (.sc _) (.cons (.sc _) (.cons (.sc _) (.cons (.sc _) (.cons (.sc _) (.nil))))))) rfl) (.nil))) (.inr rfl) rfl ?_
          refine pu (v := .sc _) rfl rfl (fun _ => rfl) ?_
          refine RunC.fin ?_
          refine AWP.cd hR rfl (fun h8 hR => ?_) fun h8 hR => ?_
          · refine AWP.rgC 97 rfl rfl ?_
            refine pu (v := .sc _) rfl rfl (fun _ => rfl) ?_
            obtain ⟨v9, ev9, hR⟩ := letE hR
            refine pu (v := .sc _) rfl rfl (fun _ => puI ev9) ?_
            refine pu (v := .sc _) rfl rfl (fun _ => rfl) ?_
            refine RunC.blk ?_
            refine RunC.fin ?_
            refine ⟨(v9, s2.2), (Option.some.inj hR).symm, ?_⟩
            exact Weak.turnL [(0, 0)] [] rfl rfl (tc (trS' rfl rfl rfl rfl rfl) (tc (.sc _) (tc (.fn (.nil)) (tc (.sc _) (tc (.sc _) tn))))) (mc rfl (btrA' rfl) mn)
          · refine AWP.rgC 93 rfl rfl ?_
            refine pu (v := .sc _) rfl rfl (fun _ => rfl) ?_
            refine pu (v := .sc _) rfl rfl (fun _ => rfl) ?_
            refine RunC.blk ?_
            refine RunC.fin ?_
            refine ⟨(s2.1, w6 (Int.fdiv (IntKind.wrap .u64 (w6 (s2.1 + s2.2))) (2 ^ 1))), (Option.some.inj hR).symm, ?_⟩
            exact Weak.turnL [(0, 0)] [] rfl rfl (tc (trS' rfl rfl rfl rfl rfl) (tc (.sc _) (tc (.fn (.nil)) (tc (.sc _) (tc (.sc _) tn))))) (mc rfl (btrA' rfl) mn)
        · refine AWP.exit ?_
          refine exT ?_
          refine exT ?_
          refine exH (skT ?_)
          refine ⟨s2.1, (Option.some.inj hR).symm, ?_⟩
          exact Weak.turnL [(0, 0)] [] rfl rfl (tc (trS' rfl rfl rfl rfl rfl) (tc (.sc _) (tc (.sc _) tn))) (mc rfl (btrA' rfl) mn)
      · refine skT ?_
        refine AWP.sq ?_
        refine AWP.sq ?_
        refine AWP.rgC 9 rfl rfl ?_
        refine pu (v := .sc _) rfl rfl (fun _ => rfl) ?_
        refine pu (v := .sc _) rfl rfl (fun _ => rfl) ?_
        refine RunC.fin ?_
        refine AWP.loopJ (fun s10 : (List curve_Sample) × Int => LS.mk [(0, slV curve_Sample 0 0 0 s10.1.length), (10, .sc (.int .i64 z3)), (13, .sc (.int .i64 s10.2))] (lblks 0 [arrB (α := curve_Sample) 53 0 false s10.1]) 1) (fun z11 : (List curve_Sample) => LS.mk [] (lblks 0 [arrB (α := curve_Sample) 53 0 false z11]) 1) (slices_symMergeCmpFunc_curve_Sample_curve_order.l2 z3) hR (s0 := (data, a)) (Weak.turnL [(0, 0)] [] rfl rfl (tc (trS' rfl rfl rfl rfl rfl) (tc (.sc _) (tc (.sc _) tn))) (mc rfl (btrA' rfl) mn)) (fun s10 o10 hR => ?_) fun z11 hR => ?_
        · unfold slices_symMergeCmpFunc_curve_Sample_curve_order.l2 at hR
          refine AWP.sq ?_
          refine AWP.sq ?_
          refine AWP.rgC 17 rfl rfl ?_
          refine pu (v := .sc _) rfl rfl (fun _ => rfl) ?_
          refine pu (v := .sc _) rfl rfl (fun _ => rfl) ?_
          refine pu (v := .sc _) rfl rfl (fun _ => rfl) ?_
          refine pu (v := .sc _) rfl rfl (fun _ => rfl) ?_
          refine RunC.fin ?_
          refine AWP.cd hR rfl (fun h12 hR => ?_) fun h12 hR => ?_
          · refine AWP.skip ?_
            refine skT ?_
            refine AWP.sq ?_
            refine AWP.block ?_
            refine AWP.rgD 89 [0, 0, 0, 0, 8, 0, 0, 64, 224, 480, 0, 0, 3072, 7168, 16355, 32739, 65535, 131071] ⟨[], [none, none, none, none, none, none, none, none, none, some [0], none, none, none, some [0], none, some [0], none, some [0]]⟩ hmix (by kernel_rfl) rfl rfl ?_
            refine pu (v := slV curve_Sample _ _ _ _) rfl rfl (fun _ => rfl) ?_
            refine pu (v := .sc _) rfl rfl (fun _ => rfl) ?_
            refine pu (v := slV curve_Sample _ _ _ _) rfl rfl (fun _ => rfl) ?_
            refine pu (v := .sc _) rfl rfl (fun _ => rfl) ?_
            refine pu (v := .sc _) rfl rfl (fun _ => rfl) ?_
            refine pu (v := slV curve_Sample _ _ _ _) rfl rfl (fun _ => rfl) ?_
            refine pu (v := .sc _) rfl rfl (fun _ => rfl) ?_
            refine pu (v := .sc _) rfl rfl (fun _ => rfl) ?_
            obtain ⟨h13, hR⟩ := chkE hR
            refine ixS0 (α := curve_Sample) rfl rfl rfl ti35 rfl ti53 rfl h13 ?_
            refine ldE (α := curve_Sample) (v := .agg _) rfl rfl rfl (ixlt h13) ti53 rfl rfl rfl rfl ?_
            refine pu (v := slV curve_Sample _ _ _ _) rfl rfl (fun _ => rfl) ?_
            refine pu (v := .sc _) rfl rfl (fun _ => rfl) ?_
            obtain ⟨h14, hR⟩ := chkE hR
            refine ixS0 (α := curve_Sample) rfl rfl rfl ti35 rfl ti53 rfl h14 ?_
            refine ldE (α := curve_Sample) (v := .agg _) rfl rfl rfl (ixlt h14) ti53 rfl rfl rfl rfl ?_
            refine ixS0 (α := curve_Sample) rfl rfl rfl ti35 rfl ti53 rfl h14 ?_
            refine stE (α := curve_Sample) (y := (gt s10.1 (w6 (s10.2 + 1)))) rfl rfl rfl (ixlt h14) ti53 rfl rfl rfl rfl rfl ?_
            refine ixS0 (α := curve_Sample) rfl rfl rfl ti35 rfl ti53 rfl h13 ?_
            obtain ⟨v15, ev15, hR⟩ := letE hR
            refine stE (α := curve_Sample) (y := (gt s10.1 s10.2)) rfl rfl rfl (by first | exact ixlt h13 | (simp only [List.length_set]; exact ixlt h13)) ti53 rfl rfl rfl rfl rfl ?_
            rw [ev15]
            refine RunC.blk ?_
            refine RunC.fin ?_
            refine AWP.rgC 101 rfl rfl ?_
            refine pu (v := .sc _) rfl rfl (fun _ => rfl) ?_
            refine pu (v := .sc _) rfl rfl (fun _ => rfl) ?_
            refine pu (v := .sc _) rfl rfl (fun _ => rfl) ?_
            refine RunC.fin ?_
            refine ⟨(v15, w6 (s10.2 + 1)), (Option.some.inj hR).symm, ?_⟩
            exact Weak.turnL [(0, 0)] [] rfl rfl (tc (trS' rfl rfl rfl rfl (by subst ev15; simp only [List.length_set])) (tc (.sc _) (tc (.sc _) tn))) (mc rfl (btrA' rfl) mn)
          · refine AWP.exit ?_
            refine exT ?_
            refine exT ?_
            refine exH (skT ?_)
            refine ⟨s10.1, (Option.some.inj hR).symm, ?_⟩
            exact Weak.turnL [(0, 0)] [] rfl rfl tn (mc rfl (btrA' rfl) mn)
        · refine skT ?_
          refine AWP.ret ?_
          refine rtT ?_
          have hR := Option.some.inj hR; subst hR
          exact hQ _ _ (LS.mk [] (lblks 0 [arrB (α := curve_Sample) 53 0 false z11]) 1) (.tup []) [] (.inr rfl) (Weak.turnL [(0, 0)] [] rfl rfl tn (mc rfl (btrA' rfl) mn)) (ro0 ) rfl rfl (.tup .nil) (pc rfl bldA pn)
    · refine AWP.skip ?_
      refine skT ?_
      refine AWP.sq ?_
      refine AWP.sq ?_
      refine AWP.rgC 33 rfl rfl ?_
      refine pu (v := .sc _) rfl rfl (fun _ => rfl) ?_
      refine pu (v := .sc _) rfl rfl (fun _ => rfl) ?_
      refine pu (v := .sc _) rfl rfl (fun _ => rfl) ?_
      refine pu (v := .sc _) rfl rfl (fun _ => rfl) ?_
      refine RunC.fin ?_
      refine AWP.cd hR rfl (fun h16 hR => ?_) fun h16 hR => ?_
      · refine AWP.sq ?_
        refine AWP.rgC 41 rfl rfl ?_
        refine pu (v := .sc _) rfl rfl (fun _ => rfl) ?_
        refine pu (v := .sc _) rfl rfl (fun _ => rfl) ?_
        refine RunC.fin ?_
        refine AWP.sq ?_
        refine AWP.rgC 49 rfl rfl ?_
        refine pu (v := .sc _) rfl rfl (fun _ => rfl) ?_
        refine pu (v := .sc _) rfl rfl (fun _ => rfl) ?_
        refine RunC.fin ?_
        refine AWP.sq ?_
        refine AWP.loopJ (fun s17 : Int × Int => LS.mk [(0, slV curve_Sample 0 0 0 data.length), (2, .sc (.int .i64 m)), (4, .fn (.func 22) []), (14, .sc (.int .i64 s17.1)), (15, .sc (.int .i64 s17.2))] (lblks 0 [arrB (α := curve_Sample) 53 0 false data]) 1) (fun z18 : Int => LS.mk [(0, slV curve_Sample 0 0 0 data.length), (2, .sc (.int .i64 m)), (14, .sc (.int .i64 z18))] (lblks 0 [arrB (α := curve_Sample) 53 0 false data]) 1) (slices_symMergeCmpFunc_curve_Sample_curve_order.l3 data m) hR (s0 := (a, m)) (Weak.turnL [(0, 0)] [] rfl rfl (tc (trS' rfl rfl rfl rfl rfl) (tc (.sc _) (tc (.fn (.nil)) (tc (.sc _) (tc (.sc _) tn))))) (mc rfl (btrA' rfl) mn)) (fun s17 o17 hR => ?_) fun z18 hR => ?_
        · unfold slices_symMergeCmpFunc_curve_Sample_curve_order.l3 at hR
          refine AWP.sq ?_
          refine AWP.sq ?_
          refine AWP.rgC 13 rfl rfl ?_
          refine pu (v := .sc _) rfl rfl (fun _ => rfl) ?_
          refine pu (v := .sc _) rfl rfl (fun _ => rfl) ?_
          refine pu (v := .sc _) rfl rfl (fun _ => rfl) ?_
          refine RunC.fin ?_
          refine AWP.cd hR rfl (fun h19 hR => ?_) fun h19 hR => ?_
          · refine AWP.skip ?_
            refine skT ?_
            refine AWP.block ?_
            refine AWP.sq ?_
            refine AWP.rgC 41 rfl rfl ?_
            refine pu (v := .sc _) rfl rfl (fun _ => rfl) ?_
            refine pu (v := .sc _) rfl rfl (fun _ => rfl) ?_
            refine pu (v := .sc _) rfl rfl (fun _ => rfl) ?_
            refine cn rfl rfl ti3 rfl ti84 rfl rfl ?_
            refine pu (v := .sc _) rfl rfl (fun _ => rfl) ?_
            refine cn rfl rfl ti84 rfl ti3 rfl rfl ?_
            refine pu (v := .sc _) rfl rfl (fun _ => rfl) ?_
            refine RunC.fin ?_
            refine AWP.sq ?_
            refine AWP.rgD 89 [0, 0, 0, 6, 14, 0, 0, 96, 224, 511, 1023, 2047] ⟨[], [none, none, none, none, some [0], none, none, none, some [0], none, none, none]⟩ hmix (by kernel_rfl) rfl rfl ?_
            refine pu (v := .fn _ _) rfl rfl (fun _ => rfl) ?_
            refine pu (v := slV curve_Sample _ _ _ _) rfl rfl (fun _ => rfl) ?_
            refine pu (v := .sc _) rfl rfl (fun _ => rfl) ?_
            obtain ⟨h20, hR⟩ := chkE hR
            refine ixS0 (α := curve_Sample) rfl rfl rfl ti35 rfl ti53 rfl h20 ?_
            refine ldE (α := curve_Sample) (v := .agg _) rfl rfl rfl (ixlt h20) ti53 rfl rfl rfl rfl ?_
            refine pu (v := slV curve_Sample _ _ _ _) rfl rfl (fun _ => rfl) ?_
            refine pu (v := .sc _) rfl rfl (fun _ => rfl) ?_
            obtain ⟨h21, hR⟩ := chkE hR
            refine ixS0 (α := curve_Sample) rfl rfl rfl ti35 rfl ti53 rfl h21 ?_
            refine ldE (α := curve_Sample) (v := .agg _) rfl rfl rfl (ixlt h21) ti53 rfl rfl rfl rfl ?_
            obtain ⟨r22, hr22, hR⟩ := bindE hR
            refine cls [] rfl rfl cb22 (ok22 (gt data m) (gt data (w6 (Int.fdiv (IntKind.wrap .u64 (w6 (s17.1 + s17.2))) (2 ^ 1)))) _ hr22) (.cons (.agg (.cons (.sc _) (.cons (.sc _) (.cons (.sc _) (.cons (.sc _) (.cons (.sc _) (.cons (.sc _) (.nil))))))) rfl) (.cons (.agg (.cons (.sc _) (.cons (.sc _) (.cons (.sc _) (.cons (.sc _) (.cons (.sc _) (.cons (.sc _) (.nil))))))) rfl) (.nil))) (.inr rfl) rfl ?_
            refine pu (v := .sc _) rfl rfl (fun _ => rfl) ?_
            refine pu (v := .sc _) rfl rfl (fun _ => rfl) ?_
            refine RunC.fin ?_
            refine AWP.cd hR rfl (fun h23 hR => ?_) fun h23 hR => ?_
            · refine AWP.rgC 101 rfl rfl ?_
              refine pu (v := .sc _) rfl rfl (fun _ => rfl) ?_
              obtain ⟨v24, ev24, hR⟩ := letE hR
              refine pu (v := .sc _) rfl rfl (fun _ => puI ev24) ?_
              refine pu (v := .sc _) rfl rfl (fun _ => rfl) ?_
              refine RunC.blk ?_
              refine RunC.fin ?_
              refine ⟨(v24, s17.2), (Option.some.inj hR).symm, ?_⟩
              exact Weak.turnL [(0, 0)] [] rfl rfl (tc (trS' rfl rfl rfl rfl rfl) (tc (.sc _) (tc (.fn (.nil)) (tc (.sc _) (tc (.sc _) tn))))) (mc rfl (btrA' rfl) mn)
            · refine AWP.rgC 97 rfl rfl ?_
              refine pu (v := .sc _) rfl rfl (fun _ => rfl) ?_
              refine pu (v := .sc _) rfl rfl (fun _ => rfl) ?_
              refine RunC.blk ?_
              refine RunC.fin ?_
              refine ⟨(s17.1, w6 (Int.fdiv (IntKind.wrap .u64 (w6 (s17.1 + s17.2))) (2 ^ 1))), (Option.some.inj hR).symm, ?_⟩
              exact Weak.turnL [(0, 0)] [] rfl rfl (tc (trS' rfl rfl rfl rfl rfl) (tc (.sc _) (tc (.fn (.nil)) (tc (.sc _) (tc (.sc _) tn))))) (mc rfl (btrA' rfl) mn)
          · refine AWP.exit ?_
            refine exT ?_
            refine exT ?_
            refine exH (skT ?_)
            refine ⟨s17.1, (Option.some.inj hR).symm, ?_⟩
            exact Weak.turnL [(0, 0)] [] rfl rfl (tc (trS' rfl rfl rfl rfl rfl) (tc (.sc _) (tc (.sc _) tn))) (mc rfl (btrA' rfl) mn)
        · refine skT ?_
          refine AWP.sq ?_
          refine AWP.sq ?_
          refine AWP.rgC 9 rfl rfl ?_
          refine pu (v := .sc _) rfl rfl (fun _ => rfl) ?_
          refine pu (v := .sc _) rfl rfl (fun _ => rfl) ?_
          refine RunC.fin ?_
          refine AWP.loopJ (fun s25 : (List curve_Sample) × Int => LS.mk [(0, slV curve_Sample 0 0 0 s25.1.length), (14, .sc (.int .i64 z18)), (17, .sc (.int .i64 s25.2))] (lblks 0 [arrB (α := curve_Sample) 53 0 false s25.1]) 1) (fun z26 : (List curve_Sample) => LS.mk [] (lblks 0 [arrB (α := curve_Sample) 53 0 false z26]) 1) (slices_symMergeCmpFunc_curve_Sample_curve_order.l4 z18) hR (s0 := (data, m)) (Weak.turnL [(0, 0)] [] rfl rfl (tc (trS' rfl rfl rfl rfl rfl) (tc (.sc _) (tc (.sc _) tn))) (mc rfl (btrA' rfl) mn)) (fun s25 o25 hR => ?_) fun z26 hR => ?_
          · unfold slices_symMergeCmpFunc_curve_Sample_curve_order.l4 at hR
            refine AWP.sq ?_
            refine AWP.sq ?_
            refine AWP.rgC 13 rfl rfl ?_
            refine pu (v := .sc _) rfl rfl (fun _ => rfl) ?_
            refine pu (v := .sc _) rfl rfl (fun _ => rfl) ?_
            refine pu (v := .sc _) rfl rfl (fun _ => rfl) ?_
            refine RunC.fin ?_
            refine AWP.cd hR rfl (fun h27 hR => ?_) fun h27 hR => ?_
            · refine AWP.skip ?_
              refine skT ?_
              refine AWP.sq ?_
              refine AWP.block ?_
              refine AWP.rgD 85 [0, 0, 0, 0, 8, 0, 0, 64, 224, 480, 0, 0, 3072, 7168, 16355, 32739, 65535, 131071] ⟨[], [none, none, none, none, none, none, none, none, none, some [0], none, none, none, some [0], none, some [0], none, some [0]]⟩ hmix (by kernel_rfl) rfl rfl ?_
              refine pu (v := slV curve_Sample _ _ _ _) rfl rfl (fun _ => rfl) ?_
              refine pu (v := .sc _) rfl rfl (fun _ => rfl) ?_
              refine pu (v := slV curve_Sample _ _ _ _) rfl rfl (fun _ => rfl) ?_
              refine pu (v := .sc _) rfl rfl (fun _ => rfl) ?_
              refine pu (v := .sc _) rfl rfl (fun _ => rfl) ?_
              refine pu (v := slV curve_Sample _ _ _ _) rfl rfl (fun _ => rfl) ?_
              refine pu (v := .sc _) rfl rfl (fun _ => rfl) ?_
              refine pu (v := .sc _) rfl rfl (fun _ => rfl) ?_
              obtain ⟨h28, hR⟩ := chkE hR
              refine ixS0 (α := curve_Sample) rfl rfl rfl ti35 rfl ti53 rfl h28 ?_
              refine ldE (α := curve_Sample) (v := .agg _) rfl rfl rfl (ixlt h28) ti53 rfl rfl rfl rfl ?_
              refine pu (v := slV curve_Sample _ _ _ _) rfl rfl (fun _ => rfl) ?_
              refine pu (v := .sc _) rfl rfl (fun _ => rfl) ?_
              obtain ⟨h29, hR⟩ := chkE hR
              refine ixS0 (α := curve_Sample) rfl rfl rfl ti35 rfl ti53 rfl h29 ?_
              refine ldE (α := curve_Sample) (v := .agg _) rfl rfl rfl (ixlt h29) ti53 rfl rfl rfl rfl ?_
              refine ixS0 (α := curve_Sample) rfl rfl rfl ti35 rfl ti53 rfl h29 ?_
              refine stE (α := curve_Sample) (y := (gt s25.1 (w6 (s25.2 - 1)))) rfl rfl rfl (ixlt h29) ti53 rfl rfl rfl rfl rfl ?_
              refine ixS0 (α := curve_Sample) rfl rfl rfl ti35 rfl ti53 rfl h28 ?_
              obtain ⟨v30, ev30, hR⟩ := letE hR
              refine stE (α := curve_Sample) (y := (gt s25.1 s25.2)) rfl rfl rfl (by first | exact ixlt h28 | (simp only [List.length_set]; exact ixlt h28)) ti53 rfl rfl rfl rfl rfl ?_
              rw [ev30]
              refine RunC.blk ?_
              refine RunC.fin ?_
              refine AWP.rgC 97 rfl rfl ?_
              refine pu (v := .sc _) rfl rfl (fun _ => rfl) ?_
              refine pu (v := .sc _) rfl rfl (fun _ => rfl) ?_
              refine pu (v := .sc _) rfl rfl (fun _ => rfl) ?_
              refine RunC.fin ?_
              refine ⟨(v30, w6 (s25.2 - 1)), (Option.some.inj hR).symm, ?_⟩
              exact Weak.turnL [(0, 0)] [] rfl rfl (tc (trS' rfl rfl rfl rfl (by subst ev30; simp only [List.length_set])) (tc (.sc _) (tc (.sc _) tn))) (mc rfl (btrA' rfl) mn)
            · refine AWP.exit ?_
              refine exT ?_
              refine exT ?_
              refine exH (skT ?_)
              refine ⟨s25.1, (Option.some.inj hR).symm, ?_⟩
              exact Weak.turnL [(0, 0)] [] rfl rfl tn (mc rfl (btrA' rfl) mn)
          · refine skT ?_
            refine AWP.ret ?_
            refine rtT ?_
            have hR := Option.some.inj hR; subst hR
            exact hQ _ _ (LS.mk [] (lblks 0 [arrB (α := curve_Sample) 53 0 false z26]) 1) (.tup []) [] (.inr rfl) (Weak.turnL [(0, 0)] [] rfl rfl tn (mc rfl (btrA' rfl) mn)) (ro0 ) rfl rfl (.tup .nil) (pc rfl bldA pn)
      · refine AWP.skip ?_
        refine skT ?_
        refine AWP.sq ?_
        refine AWP.rgC 61 rfl rfl ?_
        refine pu (v := .sc _) rfl rfl (fun _ => rfl) ?_
        refine pu (v := .sc _) rfl rfl (fun _ => rfl) ?_
        refine pu (v := .sc _) rfl rfl (fun _ => rfl) ?_
        refine cn rfl rfl ti3 rfl ti84 rfl rfl ?_
        refine pu (v := .sc _) rfl rfl (fun _ => rfl) ?_
        refine cn rfl rfl ti84 rfl ti3 rfl rfl ?_
        refine pu (v := .sc _) rfl rfl (fun _ => rfl) ?_
        refine RunC.fin ?_
        refine AWP.sq ?_
        refine AWP.rgC 77 rfl rfl ?_
        refine pu (v := .sc _) rfl rfl (fun _ => rfl) ?_
        refine pu (v := .sc _) rfl rfl (fun _ => rfl) ?_
        obtain ⟨v31, ev31, hR⟩ := letE hR
        refine pu (v := .sc _) rfl rfl (fun _ => puI ev31) ?_
        refine pu (v := .sc _) rfl rfl (fun _ => rfl) ?_
        refine RunC.fin ?_
        refine AWP.sq ?_
        refine AWP.rgC 85 rfl rfl ?_
        refine pu (v := .sc _) rfl rfl (fun _ => rfl) ?_
        refine pu (v := .sc _) rfl rfl (fun _ => rfl) ?_
        refine RunC.fin ?_
        refine AWP.sq ?_
        refine AWP.sq ?_
        refine AWP.rgC 97 rfl rfl ?_
        refine pu (v := .sc _) rfl rfl (fun _ => rfl) ?_
        refine pu (v := .sc _) rfl rfl (fun _ => rfl) ?_
        obtain ⟨v32, ev32, hR⟩ := letE hR
        refine pu (v := .sc _) rfl rfl (fun _ => puB ev32) ?_
        refine RunC.fin ?_
        refine AWP.cd hR rfl (fun h33 hR => ?_) fun h33 hR => ?_
        · refine AWP.sq ?_
          refine AWP.rgC 113 rfl rfl ?_
          refine pu (v := .sc _) rfl rfl (fun _ => rfl) ?_
          refine pu (v := .sc _) rfl rfl (fun _ => rfl) ?_
          refine pu (v := .sc _) rfl rfl (fun _ => rfl) ?_
          refine pu (v := .sc _) rfl rfl (fun _ => rfl) ?_
          refine RunC.fin ?_
          refine AWP.rgC 121 rfl rfl ?_
          refine pu (v := .sc _) rfl rfl (fun _ => rfl) ?_
          refine pu (v := .sc _) rfl rfl (fun _ => rfl) ?_
          refine RunC.fin ?_
          refine AWP.sq ?_
          refine AWP.rgC 133 rfl rfl ?_
          refine pu (v := .sc _) rfl rfl (fun _ => rfl) ?_
          refine pu (v := .sc _) rfl rfl (fun _ => rfl) ?_
          refine pu (v := .sc _) rfl rfl (fun _ => rfl) ?_
          refine RunC.fin ?_
          refine AWP.sq ?_
          refine AWP.loopJ (fun s34 : Int × Int => LS.mk [(0, slV curve_Sample 0 0 0 data.length), (1, .sc (.int .i64 a)), (2, .sc (.int .i64 m)), (3, .sc (.int .i64 b)), (4, .fn (.func 22) []), (18, .sc (.int .i64 (w6 (Int.fdiv (IntKind.wrap .u64 (w6 (a + b))) (2 ^ 1))))), (19, .sc (.int .i64 v31)), (20, .sc (.int .i64 s34.1)), (21, .sc (.int .i64 s34.2)), (22, .sc (.int .i64 (w6 (v31 - 1))))] (lblks 0 [arrB (α := curve_Sample) 53 0 false data]) 1) (fun z35 : Int => LS.mk [(0, slV curve_Sample 0 0 0 data.length), (1, .sc (.int .i64 a)), (2, .sc (.int .i64 m)), (3, .sc (.int .i64 b)), (4, .fn (.func 22) []), (18, .sc (.int .i64 (w6 (Int.fdiv (IntKind.wrap .u64 (w6 (a + b))) (2 ^ 1))))), (19, .sc (.int .i64 v31)), (20, .sc (.int .i64 z35))] (lblks 0 [arrB (α := curve_Sample) 53 0 false data]) 1) (slices_symMergeCmpFunc_curve_Sample_curve_order.l5 data v31) hR (s0 := (w6 (v31 - b), w6 (Int.fdiv (IntKind.wrap .u64 (w6 (a + b))) (2 ^ 1)))) (Weak.turnL [(0, 0)] [] rfl rfl (tc (trS' rfl rfl rfl rfl rfl) (tc (.sc _) (tc (.sc _) (tc (.sc _) (tc (.fn (.nil)) (tc (.sc _) (tc (.sc _) (tc (.sc _) (tc (.sc _) (tc (.sc _) tn)))))))))) (mc rfl (btrA' rfl) mn)) (fun s34 o34 hR => ?_) fun z35 hR => ?_
          · unfold slices_symMergeCmpFunc_curve_Sample_curve_order.l5 at hR
            refine AWP.sq ?_
            refine AWP.sq ?_
            refine AWP.rgC 13 rfl rfl ?_
            refine pu (v := .sc _) rfl rfl (fun _ => rfl) ?_
            refine pu (v := .sc _) rfl rfl (fun _ => rfl) ?_
            refine pu (v := .sc _) rfl rfl (fun _ => rfl) ?_
            refine RunC.fin ?_
            refine AWP.cd hR rfl (fun h36 hR => ?_) fun h36 hR => ?_
            · refine AWP.skip ?_
              refine skT ?_
              refine AWP.block ?_
              refine AWP.sq ?_
              refine AWP.rgC 41 rfl rfl ?_
              refine pu (v := .sc _) rfl rfl (fun _ => rfl) ?_
              refine pu (v := .sc _) rfl rfl (fun _ => rfl) ?_
              refine pu (v := .sc _) rfl rfl (fun _ => rfl) ?_
              refine cn rfl rfl ti3 rfl ti84 rfl rfl ?_
              refine pu (v := .sc _) rfl rfl (fun _ => rfl) ?_
              refine cn rfl rfl ti84 rfl ti3 rfl rfl ?_
              refine pu (v := .sc _) rfl rfl (fun _ => rfl) ?_
              refine RunC.fin ?_
              refine AWP.sq ?_
              refine AWP.rgD 97 [0, 0, 0, 0, 12, 30, 62, 0, 0, 384, 896, 2047, 4095, 8191] ⟨[], [none, none, none, none, none, none, some [0], none, none, none, some [0], none, none, none]⟩ hmix (by kernel_rfl) rfl rfl ?_
              refine pu (v := .fn _ _) rfl rfl (fun _ => rfl) ?_
              refine pu (v := slV curve_Sample _ _ _ _) rfl rfl (fun _ => rfl) ?_
              refine pu (v := .sc _) rfl rfl (fun _ => rfl) ?_
              refine pu (v := .sc _) rfl rfl (fun _ => rfl) ?_
              obtain ⟨v37, ev37, hR⟩ := letE hR
              refine pu (v := .sc _) rfl rfl (fun _ => puI ev37) ?_
              obtain ⟨h38, hR⟩ := chkE hR
              refine ixS0 (α := curve_Sample) rfl rfl rfl ti35 rfl ti53 rfl h38 ?_
              refine ldE (α := curve_Sample) (v := .agg _) rfl rfl rfl (ixlt h38) ti53 rfl rfl rfl rfl ?_
              refine pu (v := slV curve_Sample _ _ _ _) rfl rfl (fun _ => rfl) ?_
              refine pu (v := .sc _) rfl rfl (fun _ => rfl) ?_
              obtain ⟨h39, hR⟩ := chkE hR
              refine ixS0 (α := curve_Sample) rfl rfl rfl ti35 rfl ti53 rfl h39 ?_
              refine ldE (α := curve_Sample) (v := .agg _) rfl rfl rfl (ixlt h39) ti53 rfl rfl rfl rfl ?_
              obtain ⟨r40, hr40, hR⟩ := bindE hR
              refine cls [] rfl rfl cb22 (ok22 (gt data v37) (gt data (w6 (Int.fdiv (IntKind.wrap .u64 (w6 (s34.1 + s34.2))) (2 ^ 1)))) _ hr40) (.cons (.agg (.cons (.sc _) (.cons (.sc _) (.cons (.sc _) (.cons (.sc _) (.cons (.sc _) (.cons (.sc _) (.nil))))))) rfl) (.cons (.agg (.cons (.sc _) (.cons (.sc _) (.cons (.sc _) (.cons (.sc _) (.cons (.sc _) (.cons (.sc _) (.nil))))))) rfl) (.nil))) (.inr rfl) rfl ?_
              refine pu (v := .sc _) rfl rfl (fun _ => rfl) ?_
              refine pu (v := .sc _) rfl rfl (fun _ => rfl) ?_
              refine RunC.fin ?_
              refine AWP.cd hR rfl (fun h41 hR => ?_) fun h41 hR => ?_
              · refine AWP.rgC 109 rfl rfl ?_
                refine pu (v := .sc _) rfl rfl (fun _ => rfl) ?_
                obtain ⟨v42, ev42, hR⟩ := letE hR
                refine pu (v := .sc _) rfl rfl (fun _ => puI ev42) ?_
                refine pu (v := .sc _) rfl rfl (fun _ => rfl) ?_
                refine RunC.blk ?_
                refine RunC.fin ?_
                refine ⟨(v42, s34.2), (Option.some.inj hR).symm, ?_⟩
                exact Weak.turnL [(0, 0)] [] rfl rfl (tc (trS' rfl rfl rfl rfl rfl) (tc (.sc _) (tc (.sc _) (tc (.sc _) (tc (.fn (.nil)) (tc (.sc _) (tc (.sc _) (tc (.sc _) (tc (.sc _) (tc (.sc _) tn)))))))))) (mc rfl (btrA' rfl) mn)
              · refine AWP.rgC 105 rfl rfl ?_
                refine pu (v := .sc _) rfl rfl (fun _ => rfl) ?_
                refine pu (v := .sc _) rfl rfl (fun _ => rfl) ?_
                refine RunC.blk ?_
                refine RunC.fin ?_
                refine ⟨(s34.1, w6 (Int.fdiv (IntKind.wrap .u64 (w6 (s34.1 + s34.2))) (2 ^ 1))), (Option.some.inj hR).symm, ?_⟩
                exact Weak.turnL [(0, 0)] [] rfl rfl (tc (trS' rfl rfl rfl rfl rfl) (tc (.sc _) (tc (.sc _) (tc (.sc _) (tc (.fn (.nil)) (tc (.sc _) (tc (.sc _) (tc (.sc _) (tc (.sc _) (tc (.sc _) tn)))))))))) (mc rfl (btrA' rfl) mn)
            · refine AWP.exit ?_
              refine exT ?_
              refine exT ?_
              refine exH (skT ?_)
              refine ⟨s34.1, (Option.some.inj hR).symm, ?_⟩
              exact Weak.turnL [(0, 0)] [] rfl rfl (tc (trS' rfl rfl rfl rfl rfl) (tc (.sc _) (tc (.sc _) (tc (.sc _) (tc (.fn (.nil)) (tc (.sc _) (tc (.sc _) (tc (.sc _) tn)))))))) (mc rfl (btrA' rfl) mn)
          · refine skT ?_
            refine AWP.sq ?_
            refine AWP.rgC 17 rfl rfl ?_
            refine pu (v := .sc _) rfl rfl (fun _ => rfl) ?_
            refine pu (v := .sc _) rfl rfl (fun _ => rfl) ?_
            refine pu (v := .sc _) rfl rfl (fun _ => rfl) ?_
            refine pu (v := .sc _) rfl rfl (fun _ => rfl) ?_
            refine RunC.fin ?_
            refine AWP.sq ?_
            refine AWP.joinX (fun z43 : Bool => LS.mk [(0, slV curve_Sample 0 0 0 data.length), (1, .sc (.int .i64 a)), (2, .sc (.int .i64 m)), (3, .sc (.int .i64 b)), (4, .fn (.func 22) []), (18, .sc (.int .i64 (w6 (Int.fdiv (IntKind.wrap .u64 (w6 (a + b))) (2 ^ 1))))), (20, .sc (.int .i64 z35)), (24, .sc (.int .i64 (w6 (v31 - z35)))), (185, .sc (.bool z43))] (lblks 0 [arrB (α := curve_Sample) 53 0 false data]) 1) hR (fun o43 hR => ?_) fun z43 hR => ?_
            · refine AWP.rgC 49 rfl rfl ?_
              refine pu (v := .sc _) rfl rfl (fun _ => rfl) ?_
              refine pu (v := .sc _) rfl rfl (fun _ => rfl) ?_
              refine pu (v := .sc _) rfl rfl (fun _ => rfl) ?_
              refine pu (v := .sc _) rfl rfl (fun _ => rfl) ?_
              refine brR hR (fun h44 hR => ?_) fun h44 hR => ?_
              · refine pu (v := .sc _) (wtG rfl rfl rfl h44) rfl (fun _ => rfl) ?_
                refine pu (v := .sc _) (wtG rfl rfl rfl h44) rfl (fun _ => rfl) ?_
                refine pu (v := .sc _) (wtG rfl rfl rfl h44) rfl (fun _ => rfl) ?_
                refine pkT (v := .sc (.bool (decide (m < (w6 (v31 - z35)))))) rfl rfl h44 rfl ?_
                refine RunC.fin ?_
                have hR := Option.some.inj hR; subst hR
                exact Weak.turnL [(0, 0)] [] rfl rfl (tc (trS' rfl rfl rfl rfl rfl) (tc (.sc _) (tc (.sc _) (tc (.sc _) (tc (.fn (.nil)) (tc (.sc _) (tc (.sc _) (tc (.sc _) (tc (.sc _) tn))))))))) (mc rfl (btrA' rfl) mn)
              · refine sk (skW rfl rfl rfl h44) ?_
                refine sk (skW rfl rfl rfl h44) ?_
                refine sk (skW rfl rfl rfl h44) ?_
                refine pkF (v := .sc (.bool false)) rfl rfl h44 rfl ?_
                refine RunC.fin ?_
                have hR := Option.some.inj hR; subst hR
                exact Weak.turnL [(0, 0)] [] rfl rfl (tc (trS' rfl rfl rfl rfl rfl) (tc (.sc _) (tc (.sc _) (tc (.sc _) (tc (.fn (.nil)) (tc (.sc _) (tc (.sc _) (tc (.sc _) (tc (.sc _) tn))))))))) (mc rfl (btrA' rfl) mn)
            · refine AWP.cd hR rfl (fun h45 hR => ?_) fun h45 hR => ?_
              · refine AWP.rgC 25 rfl rfl ?_
                refine pu (v := slV curve_Sample _ _ _ _) rfl rfl (fun _ => rfl) ?_
                refine pu (v := .sc _) rfl rfl (fun _ => rfl) ?_
                refine pu (v := .sc _) rfl rfl (fun _ => rfl) ?_
                refine pu (v := .sc _) rfl rfl (fun _ => rfl) ?_
                refine pu (v := .fn _ _) rfl rfl (fun _ => rfl) ?_
                obtain ⟨r46, hr46, hR⟩ := bindE hR
                obtain ⟨h47, hR⟩ := chkE hR
                refine cps (res' := .tup []) (ups := [(0, arrB (α := curve_Sample) 53 0 false r46)]) [0] 21 rfl rfl rfl cb68 (ok68 data z35 m (w6 (v31 - z35)) _ hr46) (.cons (ldM rfl rfl) (.cons (.sc _) (.cons (.sc _) (.cons (.sc _) (.cons (.fn (.nil)) (.nil)))))) (pc rfl bldA pn) rfl rfl rfl rfl rfl (by first | rfl | exact renR | exact renA | exact renS | simp only [V.ren, V.rens, renR, renA, renS] | (simp only [V.ren, V.rens, renR, renA, renS]; rfl)) (by simp only [passUps, renBox, renArr]; rfl) ?_
                refine RunC.fin ?_
                refine AWP.sq ?_
                refine AWP.joinX (fun z48 : Bool => LS.mk [(0, slV curve_Sample 0 0 0 data.length), (1, .sc (.int .i64 a)), (3, .sc (.int .i64 b)), (4, .fn (.func 22) []), (18, .sc (.int .i64 (w6 (Int.fdiv (IntKind.wrap .u64 (w6 (a + b))) (2 ^ 1))))), (20, .sc (.int .i64 z35)), (24, .sc (.int .i64 (w6 (v31 - z35)))), (199, .sc (.bool z48))] (lblks 0 [arrB (α := curve_Sample) 53 0 false r46]) 1) hR (fun o48 hR => ?_) fun z48 hR => ?_
                · refine AWP.rgC 57 rfl rfl ?_
                  refine pu (v := .sc _) rfl rfl (fun _ => rfl) ?_
                  refine pu (v := .sc _) rfl rfl (fun _ => rfl) ?_
                  refine pu (v := .sc _) rfl rfl (fun _ => rfl) ?_
                  refine pu (v := .sc _) rfl rfl (fun _ => rfl) ?_
                  refine brR hR (fun h49 hR => ?_) fun h49 hR => ?_
                  · refine pu (v := .sc _) (wtG rfl rfl rfl h49) rfl (fun _ => rfl) ?_
                    refine pu (v := .sc _) (wtG rfl rfl rfl h49) rfl (fun _ => rfl) ?_
                    obtain ⟨v50, ev50, hR⟩ := letE hR
                    refine pu (v := .sc _) (wtG rfl rfl rfl h49) rfl (fun _ => puB ev50) ?_
                    refine pkT (v := .sc (.bool v50)) rfl rfl h49 rfl ?_
                    refine RunC.fin ?_
                    have hR := Option.some.inj hR; subst hR
                    exact Weak.turnL [(0, 0)] [] rfl rfl (tc (trS' rfl rfl rfl rfl rfl) (tc (.sc _) (tc (.sc _) (tc (.fn (.nil)) (tc (.sc _) (tc (.sc _) (tc (.sc _) (tc (.sc _) tn)))))))) (mc rfl (btrA' rfl) mn)
                  · refine sk (skW rfl rfl rfl h49) ?_
                    refine sk (skW rfl rfl rfl h49) ?_
                    refine sk (skW rfl rfl rfl h49) ?_
                    refine pkF (v := .sc (.bool false)) rfl rfl h49 rfl ?_
                    refine RunC.fin ?_
                    have hR := Option.some.inj hR; subst hR
                    exact Weak.turnL [(0, 0)] [] rfl rfl (tc (trS' rfl rfl rfl rfl rfl) (tc (.sc _) (tc (.sc _) (tc (.fn (.nil)) (tc (.sc _) (tc (.sc _) (tc (.sc _) (tc (.sc _) tn)))))))) (mc rfl (btrA' rfl) mn)
                · refine AWP.cd hR rfl (fun h51 hR => ?_) fun h51 hR => ?_
                  · refine AWP.rgC 25 rfl rfl ?_
                    refine pu (v := slV curve_Sample _ _ _ _) rfl rfl (fun _ => rfl) ?_
                    refine pu (v := .sc _) rfl rfl (fun _ => rfl) ?_
                    refine pu (v := .sc _) rfl rfl (fun _ => rfl) ?_
                    refine pu (v := .sc _) rfl rfl (fun _ => rfl) ?_
                    refine pu (v := .fn _ _) rfl rfl (fun _ => rfl) ?_
                    obtain ⟨r52, hr52, hR⟩ := bindE hR
                    obtain ⟨h53, hR⟩ := chkE hR
                    refine cps (res' := .tup []) (ups := [(0, arrB (α := curve_Sample) 53 0 false r52)]) [0] 21 rfl rfl rfl cb57 (ih r46 a z35 (w6 (Int.fdiv (IntKind.wrap .u64 (w6 (a + b))) (2 ^ 1))) _ hr52) (.cons (ldM2 rfl rfl (by first | assumption | omega)) (.cons (.sc _) (.cons (.sc _) (.cons (.sc _) (.cons (.fn (.nil)) (.nil)))))) (pc rfl bldA pn) rfl rfl rfl rfl rfl (by first | rfl | exact renR | exact renA | exact renS | simp only [V.ren, V.rens, renR, renA, renS] | (simp only [V.ren, V.rens, renR, renA, renS]; rfl)) (by simp only [passUps, renBox, renArr]; rfl) ?_
                    refine RunC.fin ?_
                    refine AWP.joinX (fun z54 : Bool => LS.mk [(0, slV curve_Sample 0 0 0 data.length), (3, .sc (.int .i64 b)), (4, .fn (.func 22) []), (18, .sc (.int .i64 (w6 (Int.fdiv (IntKind.wrap .u64 (w6 (a + b))) (2 ^ 1))))), (24, .sc (.int .i64 (w6 (v31 - z35)))), (213, .sc (.bool z54))] (lblks 0 [arrB (α := curve_Sample) 53 0 false r52]) 1) hR (fun o54 hR => ?_) fun z54 hR => ?_
                    · refine AWP.rgC 57 rfl rfl ?_
                      refine pu (v := .sc _) rfl rfl (fun _ => rfl) ?_
                      refine pu (v := .sc _) rfl rfl (fun _ => rfl) ?_
                      obtain ⟨v55, ev55, hR⟩ := letE hR
                      refine pu (v := .sc _) rfl rfl (fun _ => puB ev55) ?_
                      refine pu (v := .sc _) rfl rfl (fun _ => rfl) ?_
                      refine brR hR (fun h56 hR => ?_) fun h56 hR => ?_
                      · refine pu (v := .sc _) (wtG rfl rfl rfl h56) rfl (fun _ => rfl) ?_
                        refine pu (v := .sc _) (wtG rfl rfl rfl h56) rfl (fun _ => rfl) ?_
                        refine pu (v := .sc _) (wtG rfl rfl rfl h56) rfl (fun _ => rfl) ?_
                        refine pkT (v := .sc (.bool (decide ((w6 (v31 - z35)) < b)))) rfl rfl h56 rfl ?_
                        refine RunC.fin ?_
                        have hR := Option.some.inj hR; subst hR
                        exact Weak.turnL [(0, 0)] [] rfl rfl (tc (trS' rfl rfl rfl rfl rfl) (tc (.sc _) (tc (.fn (.nil)) (tc (.sc _) (tc (.sc _) (tc (.sc _) tn)))))) (mc rfl (btrA' rfl) mn)
                      · refine sk (skW rfl rfl rfl h56) ?_
                        refine sk (skW rfl rfl rfl h56) ?_
                        refine sk (skW rfl rfl rfl h56) ?_
                        refine pkF (v := .sc (.bool false)) rfl rfl h56 rfl ?_
                        refine RunC.fin ?_
                        have hR := Option.some.inj hR; subst hR
                        exact Weak.turnL [(0, 0)] [] rfl rfl (tc (trS' rfl rfl rfl rfl rfl) (tc (.sc _) (tc (.fn (.nil)) (tc (.sc _) (tc (.sc _) (tc (.sc _) tn)))))) (mc rfl (btrA' rfl) mn)
                    · refine AWP.cd hR rfl (fun h57 hR => ?_) fun h57 hR => ?_
                      · refine AWP.rgC 25 rfl rfl ?_
                        refine pu (v := slV curve_Sample _ _ _ _) rfl rfl (fun _ => rfl) ?_
                        refine pu (v := .sc _) rfl rfl (fun _ => rfl) ?_
                        refine pu (v := .sc _) rfl rfl (fun _ => rfl) ?_
                        refine pu (v := .sc _) rfl rfl (fun _ => rfl) ?_
                        refine pu (v := .fn _ _) rfl rfl (fun _ => rfl) ?_
                        obtain ⟨r58, hr58, hR⟩ := bindE hR
                        obtain ⟨h59, hR⟩ := chkE hR
                        refine cps (res' := .tup []) (ups := [(0, arrB (α := curve_Sample) 53 0 false r58)]) [0] 21 rfl rfl rfl cb57 (ih r52 (w6 (Int.fdiv (IntKind.wrap .u64 (w6 (a + b))) (2 ^ 1))) (w6 (v31 - z35)) b _ hr58) (.cons (ldM2 rfl rfl (by first | assumption | omega)) (.cons (.sc _) (.cons (.sc _) (.cons (.sc _) (.cons (.fn (.nil)) (.nil)))))) (pc rfl bldA pn) rfl rfl rfl rfl rfl (by first | rfl | exact renR | exact renA | exact renS | simp only [V.ren, V.rens, renR, renA, renS] | (simp only [V.ren, V.rens, renR, renA, renS]; rfl)) (by simp only [passUps, renBox, renArr]; rfl) ?_
                        refine RunC.nil ?_
                        have hR := Option.some.inj hR; subst hR
                        exact hQ _ _ (LS.mk [] (lblks 0 [arrB (α := curve_Sample) 53 0 false r58]) 1) (.tup []) [] (.inl rfl) (Weak.turnL [(0, 0)] [] rfl rfl tn (mc rfl (btrA' rfl) mn)) (ro0 ) rfl rfl (.tup .nil) (pc rfl bldA pn)
                      · refine AWP.skip ?_
                        have hR := Option.some.inj hR; subst hR
                        exact hQ _ _ (LS.mk [] (lblks 0 [arrB (α := curve_Sample) 53 0 false r52]) 1) (.tup []) [] (.inl rfl) (Weak.turnL [(0, 0)] [] rfl rfl tn (mc rfl (btrA' rfl) mn)) (ro0 ) rfl rfl (.tup .nil) (pc rfl bldA pn)
                  · refine AWP.skip ?_
                    refine skT ?_
                    refine AWP.joinX (fun z60 : Bool => LS.mk [(0, slV curve_Sample 0 0 0 data.length), (3, .sc (.int .i64 b)), (4, .fn (.func 22) []), (18, .sc (.int .i64 (w6 (Int.fdiv (IntKind.wrap .u64 (w6 (a + b))) (2 ^ 1))))), (24, .sc (.int .i64 (w6 (v31 - z35)))), (213, .sc (.bool z60))] (lblks 0 [arrB (α := curve_Sample) 53 0 false r46]) 1) hR (fun o60 hR => ?_) fun z60 hR => ?_
                    · refine AWP.rgC 33 rfl rfl ?_
                      refine pu (v := .sc _) rfl rfl (fun _ => rfl) ?_
                      refine pu (v := .sc _) rfl rfl (fun _ => rfl) ?_
                      obtain ⟨v61, ev61, hR⟩ := letE hR
                      refine pu (v := .sc _) rfl rfl (fun _ => puB ev61) ?_
                      refine pu (v := .sc _) rfl rfl (fun _ => rfl) ?_
                      refine brR hR (fun h62 hR => ?_) fun h62 hR => ?_
                      · refine pu (v := .sc _) (wtG rfl rfl rfl h62) rfl (fun _ => rfl) ?_
                        refine pu (v := .sc _) (wtG rfl rfl rfl h62) rfl (fun _ => rfl) ?_
                        refine pu (v := .sc _) (wtG rfl rfl rfl h62) rfl (fun _ => rfl) ?_
                        refine pkT (v := .sc (.bool (decide ((w6 (v31 - z35)) < b)))) rfl rfl h62 rfl ?_
                        refine RunC.fin ?_
                        have hR := Option.some.inj hR; subst hR
                        exact Weak.turnL [(0, 0)] [] rfl rfl (tc (trS' rfl rfl rfl rfl rfl) (tc (.sc _) (tc (.fn (.nil)) (tc (.sc _) (tc (.sc _) (tc (.sc _) tn)))))) (mc rfl (btrA' rfl) mn)
                      · refine sk (skW rfl rfl rfl h62) ?_
                        refine sk (skW rfl rfl rfl h62) ?_
                        refine sk (skW rfl rfl rfl h62) ?_
                        refine pkF (v := .sc (.bool false)) rfl rfl h62 rfl ?_
                        refine RunC.fin ?_
                        have hR := Option.some.inj hR; subst hR
                        exact Weak.turnL [(0, 0)] [] rfl rfl (tc (trS' rfl rfl rfl rfl rfl) (tc (.sc _) (tc (.fn (.nil)) (tc (.sc _) (tc (.sc _) (tc (.sc _) tn)))))) (mc rfl (btrA' rfl) mn)
                    · refine AWP.cd hR rfl (fun h63 hR => ?_) fun h63 hR => ?_
                      · refine AWP.rgC 25 rfl rfl ?_
                        refine pu (v := slV curve_Sample _ _ _ _) rfl rfl (fun _ => rfl) ?_
                        refine pu (v := .sc _) rfl rfl (fun _ => rfl) ?_
                        refine pu (v := .sc _) rfl rfl (fun _ => rfl) ?_
                        refine pu (v := .sc _) rfl rfl (fun _ => rfl) ?_
                        refine pu (v := .fn _ _) rfl rfl (fun _ => rfl) ?_
                        obtain ⟨r64, hr64, hR⟩ := bindE hR
                        obtain ⟨h65, hR⟩ := chkE hR
                        refine cps (res' := .tup []) (ups := [(0, arrB (α := curve_Sample) 53 0 false r64)]) [0] 21 rfl rfl rfl cb57 (ih r46 (w6 (Int.fdiv (IntKind.wrap .u64 (w6 (a + b))) (2 ^ 1))) (w6 (v31 - z35)) b _ hr64) (.cons (ldM2 rfl rfl (by first | assumption | omega)) (.cons (.sc _) (.cons (.sc _) (.cons (.sc _) (.cons (.fn (.nil)) (.nil)))))) (pc rfl bldA pn) rfl rfl rfl rfl rfl (by first | rfl | exact renR | exact renA | exact renS | simp only [V.ren, V.rens, renR, renA, renS] | (simp only [V.ren, V.rens, renR, renA, renS]; rfl)) (by simp only [passUps, renBox, renArr]; rfl) ?_
                        refine RunC.nil ?_
                        have hR := Option.some.inj hR; subst hR
                        exact hQ _ _ (LS.mk [] (lblks 0 [arrB (α := curve_Sample) 53 0 false r64]) 1) (.tup []) [] (.inl rfl) (Weak.turnL [(0, 0)] [] rfl rfl tn (mc rfl (btrA' rfl) mn)) (ro0 ) rfl rfl (.tup .nil) (pc rfl bldA pn)
                      · refine AWP.skip ?_
                        have hR := Option.some.inj hR; subst hR
                        exact hQ _ _ (LS.mk [] (lblks 0 [arrB (α := curve_Sample) 53 0 false r46]) 1) (.tup []) [] (.inl rfl) (Weak.turnL [(0, 0)] [] rfl rfl tn (mc rfl (btrA' rfl) mn)) (ro0 ) rfl rfl (.tup .nil) (pc rfl bldA pn)
              · refine AWP.skip ?_
                refine skT ?_
                refine AWP.sq ?_
                refine AWP.joinX (fun z66 : Bool => LS.mk [(0, slV curve_Sample 0 0 0 data.length), (1, .sc (.int .i64 a)), (3, .sc (.int .i64 b)), (4, .fn (.func 22) []), (18, .sc (.int .i64 (w6 (Int.fdiv (IntKind.wrap .u64 (w6 (a + b))) (2 ^ 1))))), (20, .sc (.int .i64 z35)), (24, .sc (.int .i64 (w6 (v31 - z35)))), (199, .sc (.bool z66))] (lblks 0 [arrB (α := curve_Sample) 53 0 false data]) 1) hR (fun o66 hR => ?_) fun z66 hR => ?_
                · refine AWP.rgC 33 rfl rfl ?_
                  refine pu (v := .sc _) rfl rfl (fun _ => rfl) ?_
                  refine pu (v := .sc _) rfl rfl (fun _ => rfl) ?_
                  refine pu (v := .sc _) rfl rfl (fun _ => rfl) ?_
                  refine pu (v := .sc _) rfl rfl (fun _ => rfl) ?_
                  refine brR hR (fun h67 hR => ?_) fun h67 hR => ?_
                  · refine pu (v := .sc _) (wtG rfl rfl rfl h67) rfl (fun _ => rfl) ?_
                    refine pu (v := .sc _) (wtG rfl rfl rfl h67) rfl (fun _ => rfl) ?_
                    obtain ⟨v68, ev68, hR⟩ := letE hR
                    refine pu (v := .sc _) (wtG rfl rfl rfl h67) rfl (fun _ => puB ev68) ?_
                    refine pkT (v := .sc (.bool v68)) rfl rfl h67 rfl ?_
                    refine RunC.fin ?_
                    have hR := Option.some.inj hR; subst hR
                    exact Weak.turnL [(0, 0)] [] rfl rfl (tc (trS' rfl rfl rfl rfl rfl) (tc (.sc _) (tc (.sc _) (tc (.fn (.nil)) (tc (.sc _) (tc (.sc _) (tc (.sc _) (tc (.sc _) tn)))))))) (mc rfl (btrA' rfl) mn)
                  · refine sk (skW rfl rfl rfl h67) ?_
                    refine sk (skW rfl rfl rfl h67) ?_
                    refine sk (skW rfl rfl rfl h67) ?_
                    refine pkF (v := .sc (.bool false)) rfl rfl h67 rfl ?_
                    refine RunC.fin ?_
                    have hR := Option.some.inj hR; subst hR
                    exact Weak.turnL [(0, 0)] [] rfl rfl (tc (trS' rfl rfl rfl rfl rfl) (tc (.sc _) (tc (.sc _) (tc (.fn (.nil)) (tc (.sc _) (tc (.sc _) (tc (.sc _) (tc (.sc _) tn)))))))) (mc rfl (btrA' rfl) mn)
                · refine AWP.cd hR rfl (fun h69 hR => ?_) fun h69 hR => ?_
                  · refine AWP.rgC 25 rfl rfl ?_
                    refine pu (v := slV curve_Sample _ _ _ _) rfl rfl (fun _ => rfl) ?_
                    refine pu (v := .sc _) rfl rfl (fun _ => rfl) ?_
                    refine pu (v := .sc _) rfl rfl (fun _ => rfl) ?_
                    refine pu (v := .sc _) rfl rfl (fun _ => rfl) ?_
                    refine pu (v := .fn _ _) rfl rfl (fun _ => rfl) ?_
                    obtain ⟨r70, hr70, hR⟩ := bindE hR
                    obtain ⟨h71, hR⟩ := chkE hR
                    refine cps (res' := .tup []) (ups := [(0, arrB (α := curve_Sample) 53 0 false r70)]) [0] 21 rfl rfl rfl cb57 (ih data a z35 (w6 (Int.fdiv (IntKind.wrap .u64 (w6 (a + b))) (2 ^ 1))) _ hr70) (.cons (ldM rfl rfl) (.cons (.sc _) (.cons (.sc _) (.cons (.sc _) (.cons (.fn (.nil)) (.nil)))))) (pc rfl bldA pn) rfl rfl rfl rfl rfl (by first | rfl | exact renR | exact renA | exact renS | simp only [V.ren, V.rens, renR, renA, renS] | (simp only [V.ren, V.rens, renR, renA, renS]; rfl)) (by simp only [passUps, renBox, renArr]; rfl) ?_
                    refine RunC.fin ?_
                    refine AWP.joinX (fun z72 : Bool => LS.mk [(0, slV curve_Sample 0 0 0 data.length), (3, .sc (.int .i64 b)), (4, .fn (.func 22) []), (18, .sc (.int .i64 (w6 (Int.fdiv (IntKind.wrap .u64 (w6 (a + b))) (2 ^ 1))))), (24, .sc (.int .i64 (w6 (v31 - z35)))), (213, .sc (.bool z72))] (lblks 0 [arrB (α := curve_Sample) 53 0 false r70]) 1) hR (fun o72 hR => ?_) fun z72 hR => ?_
                    · refine AWP.rgC 57 rfl rfl ?_
                      refine pu (v := .sc _) rfl rfl (fun _ => rfl) ?_
                      refine pu (v := .sc _) rfl rfl (fun _ => rfl) ?_
                      obtain ⟨v73, ev73, hR⟩ := letE hR
                      refine pu (v := .sc _) rfl rfl (fun _ => puB ev73) ?_
                      refine pu (v := .sc _) rfl rfl (fun _ => rfl) ?_
                      refine brR hR (fun h74 hR => ?_) fun h74 hR => ?_
                      · refine pu (v := .sc _) (wtG rfl rfl rfl h74) rfl (fun _ => rfl) ?_
                        refine pu (v := .sc _) (wtG rfl rfl rfl h74) rfl (fun _ => rfl) ?_
                        refine pu (v := .sc _) (wtG rfl rfl rfl h74) rfl (fun _ => rfl) ?_
                        refine pkT (v := .sc (.bool (decide ((w6 (v31 - z35)) < b)))) rfl rfl h74 rfl ?_
                        refine RunC.fin ?_
                        have hR := Option.some.inj hR; subst hR
                        exact Weak.turnL [(0, 0)] [] rfl rfl (tc (trS' rfl rfl rfl rfl rfl) (tc (.sc _) (tc (.fn (.nil)) (tc (.sc _) (tc (.sc _) (tc (.sc _) tn)))))) (mc rfl (btrA' rfl) mn)
                      · refine sk (skW rfl rfl rfl h74) ?_
                        refine sk (skW rfl rfl rfl h74) ?_
                        refine sk (skW rfl rfl rfl h74) ?_
                        refine pkF (v := .sc (.bool false)) rfl rfl h74 rfl ?_
                        refine RunC.fin ?_
                        have hR := Option.some.inj hR; subst hR
                        exact Weak.turnL [(0, 0)] [] rfl rfl (tc (trS' rfl rfl rfl rfl rfl) (tc (.sc _) (tc (.fn (.nil)) (tc (.sc _) (tc (.sc _) (tc (.sc _) tn)))))) (mc rfl (btrA' rfl) mn)
                    · refine AWP.cd hR rfl (fun h75 hR => ?_) fun h75 hR => ?_
                      · refine AWP.rgC 25 rfl rfl ?_
                        refine pu (v := slV curve_Sample _ _ _ _) rfl rfl (fun _ => rfl) ?_
                        refine pu (v := .sc _) rfl rfl (fun _ => rfl) ?_
                        refine pu (v := .sc _) rfl rfl (fun _ => rfl) ?_
                        refine pu (v := .sc _) rfl rfl (fun _ => rfl) ?_
                        refine pu (v := .fn _ _) rfl rfl (fun _ => rfl) ?_
                        obtain ⟨r76, hr76, hR⟩ := bindE hR
                        obtain ⟨h77, hR⟩ := chkE hR
                        refine cps (res' := .tup []) (ups := [(0, arrB (α := curve_Sample) 53 0 false r76)]) [0] 21 rfl rfl rfl cb57 (ih r70 (w6 (Int.fdiv (IntKind.wrap .u64 (w6 (a + b))) (2 ^ 1))) (w6 (v31 - z35)) b _ hr76) (.cons (ldM2 rfl rfl (by first | assumption | omega)) (.cons (.sc _) (.cons (.sc _) (.cons (.sc _) (.cons (.fn (.nil)) (.nil)))))) (pc rfl bldA pn) rfl rfl rfl rfl rfl (by first | rfl | exact renR | exact renA | exact renS | simp only [V.ren, V.rens, renR, renA, renS] | (simp only [V.ren, V.rens, renR, renA, renS]; rfl)) (by simp only [passUps, renBox, renArr]; rfl) ?_
                        refine RunC.nil ?_
                        have hR := Option.some.inj hR; subst hR
                        exact hQ _ _ (LS.mk [] (lblks 0 [arrB (α := curve_Sample) 53 0 false r76]) 1) (.tup []) [] (.inl rfl) (Weak.turnL [(0, 0)] [] rfl rfl tn (mc rfl (btrA' rfl) mn)) (ro0 ) rfl rfl (.tup .nil) (pc rfl bldA pn)
                      · refine AWP.skip ?_
                        have hR := Option.some.inj hR; subst hR
                        exact hQ _ _ (LS.mk [] (lblks 0 [arrB (α := curve_Sample) 53 0 false r70]) 1) (.tup []) [] (.inl rfl) (Weak.turnL [(0, 0)] [] rfl rfl tn (mc rfl (btrA' rfl) mn)) (ro0 ) rfl rfl (.tup .nil) (pc rfl bldA pn)
                  · refine AWP.skip ?_
                    refine skT ?_
                    refine AWP.joinX (fun z78 : Bool => LS.mk [(0, slV curve_Sample 0 0 0 data.length), (3, .sc (.int .i64 b)), (4, .fn (.func 22) []), (18, .sc (.int .i64 (w6 (Int.fdiv (IntKind.wrap .u64 (w6 (a + b))) (2 ^ 1))))), (24, .sc (.int .i64 (w6 (v31 - z35)))), (213, .sc (.bool z78))] (lblks 0 [arrB (α := curve_Sample) 53 0 false data]) 1) hR (fun o78 hR => ?_) fun z78 hR => ?_
                    · refine AWP.rgC 33 rfl rfl ?_
                      refine pu (v := .sc _) rfl rfl (fun _ => rfl) ?_
                      refine pu (v := .sc _) rfl rfl (fun _ => rfl) ?_
                      obtain ⟨v79, ev79, hR⟩ := letE hR
                      refine pu (v := .sc _) rfl rfl (fun _ => puB ev79) ?_
                      refine pu (v := .sc _) rfl rfl (fun _ => rfl) ?_
                      refine brR hR (fun h80 hR => ?_) fun h80 hR => ?_
                      · refine pu (v := .sc _) (wtG rfl rfl rfl h80) rfl (fun _ => rfl) ?_
                        refine pu (v := .sc _) (wtG rfl rfl rfl h80) rfl (fun _ => rfl) ?_
                        refine pu (v := .sc _) (wtG rfl rfl rfl h80) rfl (fun _ => rfl) ?_
                        refine pkT (v := .sc (.bool (decide ((w6 (v31 - z35)) < b)))) rfl rfl h80 rfl ?_
                        refine RunC.fin ?_
                        have hR := Option.some.inj hR; subst hR
                        exact Weak.turnL [(0, 0)] [] rfl rfl (tc (trS' rfl rfl rfl rfl rfl) (tc (.sc _) (tc (.fn (.nil)) (tc (.sc _) (tc (.sc _) (tc (.sc _) tn)))))) (mc rfl (btrA' rfl) mn)
                      · refine sk (skW rfl rfl rfl h80) ?_
                        refine sk (skW rfl rfl rfl h80) ?_
                        refine sk (skW rfl rfl rfl h80) ?_
                        refine pkF (v := .sc (.bool false)) rfl rfl h80 rfl ?_
                        refine RunC.fin ?_
                        have hR := Option.some.inj hR; subst hR
                        exact Weak.turnL [(0, 0)] [] rfl rfl (tc (trS' rfl rfl rfl rfl rfl) (tc (.sc _) (tc (.fn (.nil)) (tc (.sc _) (tc (.sc _) (tc (.sc _) tn)))))) (mc rfl (btrA' rfl) mn)
                    · refine AWP.cd hR rfl (fun h81 hR => ?_) fun h81 hR => ?_
                      · refine AWP.rgC 25 rfl rfl ?_
                        refine pu (v := slV curve_Sample _ _ _ _) rfl rfl (fun _ => rfl) ?_
                        refine pu (v := .sc _) rfl rfl (fun _ => rfl) ?_
                        refine pu (v := .sc _) rfl rfl (fun _ => rfl) ?_
                        refine pu (v := .sc _) rfl rfl (fun _ => rfl) ?_
                        refine pu (v := .fn _ _) rfl rfl (fun _ => rfl) ?_
                        obtain ⟨r82, hr82, hR⟩ := bindE hR
                        obtain ⟨h83, hR⟩ := chkE hR
                        refine cps (res' := .tup []) (ups := [(0, arrB (α := curve_Sample) 53 0 false r82)]) [0] 21 rfl rfl rfl cb57 (ih data (w6 (Int.fdiv (IntKind.wrap .u64 (w6 (a + b))) (2 ^ 1))) (w6 (v31 - z35)) b _ hr82) (.cons (ldM rfl rfl) (.cons (.sc _) (.cons (.sc _) (.cons (.sc _) (.cons (.fn (.nil)) (.nil)))))) (pc rfl bldA pn) rfl rfl rfl rfl rfl (by first | rfl | exact renR | exact renA | exact renS | simp only [V.ren, V.rens, renR, renA, renS] | (simp only [V.ren, V.rens, renR, renA, renS]; rfl)) (by simp only [passUps, renBox, renArr]; rfl) ?_
                        refine RunC.nil ?_
                        have hR := Option.some.inj hR; subst hR
                        exact hQ _ _ (LS.mk [] (lblks 0 [arrB (α := curve_Sample) 53 0 false r82]) 1) (.tup []) [] (.inl rfl) (Weak.turnL [(0, 0)] [] rfl rfl tn (mc rfl (btrA' rfl) mn)) (ro0 ) rfl rfl (.tup .nil) (pc rfl bldA pn)
                      · refine AWP.skip ?_
                        have hR := Option.some.inj hR; subst hR
                        exact hQ _ _ (LS.mk [] (lblks 0 [arrB (α := curve_Sample) 53 0 false data]) 1) (.tup []) [] (.inl rfl) (Weak.turnL [(0, 0)] [] rfl rfl tn (mc rfl (btrA' rfl) mn)) (ro0 ) rfl rfl (.tup .nil) (pc rfl bldA pn)
        · refine AWP.sq ?_
          refine AWP.rgC 105 rfl rfl ?_
          refine pu (v := .sc _) rfl rfl (fun _ => rfl) ?_
          refine pu (v := .sc _) rfl rfl (fun _ => rfl) ?_
          refine RunC.fin ?_
          refine AWP.rgC 113 rfl rfl ?_
          refine pu (v := .sc _) rfl rfl (fun _ => rfl) ?_
          refine pu (v := .sc _) rfl rfl (fun _ => rfl) ?_
          refine RunC.fin ?_
          refine AWP.sq ?_
          refine AWP.rgC 125 rfl rfl ?_
          refine pu (v := .sc _) rfl rfl (fun _ => rfl) ?_
          refine pu (v := .sc _) rfl rfl (fun _ => rfl) ?_
          refine pu (v := .sc _) rfl rfl (fun _ => rfl) ?_
          refine RunC.fin ?_
          refine AWP.sq ?_
          refine AWP.loopJ (fun s84 : Int × Int => LS.mk [(0, slV curve_Sample 0 0 0 data.length), (1, .sc (.int .i64 a)), (2, .sc (.int .i64 m)), (3, .sc (.int .i64 b)), (4, .fn (.func 22) []), (18, .sc (.int .i64 (w6 (Int.fdiv (IntKind.wrap .u64 (w6 (a + b))) (2 ^ 1))))), (19, .sc (.int .i64 v31)), (20, .sc (.int .i64 s84.1)), (21, .sc (.int .i64 s84.2)), (22, .sc (.int .i64 (w6 (v31 - 1))))] (lblks 0 [arrB (α := curve_Sample) 53 0 false data]) 1) (fun z85 : Int => LS.mk [(0, slV curve_Sample 0 0 0 data.length), (1, .sc (.int .i64 a)), (2, .sc (.int .i64 m)), (3, .sc (.int .i64 b)), (4, .fn (.func 22) []), (18, .sc (.int .i64 (w6 (Int.fdiv (IntKind.wrap .u64 (w6 (a + b))) (2 ^ 1))))), (19, .sc (.int .i64 v31)), (20, .sc (.int .i64 z85))] (lblks 0 [arrB (α := curve_Sample) 53 0 false data]) 1) (slices_symMergeCmpFunc_curve_Sample_curve_order.l6 data v31) hR (s0 := (a, m)) (Weak.turnL [(0, 0)] [] rfl rfl (tc (trS' rfl rfl rfl rfl rfl) (tc (.sc _) (tc (.sc _) (tc (.sc _) (tc (.fn (.nil)) (tc (.sc _) (tc (.sc _) (tc (.sc _) (tc (.sc _) (tc (.sc _) tn)))))))))) (mc rfl (btrA' rfl) mn)) (fun s84 o84 hR => ?_) fun z85 hR => ?_
          · unfold slices_symMergeCmpFunc_curve_Sample_curve_order.l6 at hR
            refine AWP.sq ?_
            refine AWP.sq ?_
            refine AWP.rgC 13 rfl rfl ?_
            refine pu (v := .sc _) rfl rfl (fun _ => rfl) ?_
            refine pu (v := .sc _) rfl rfl (fun _ => rfl) ?_
            refine pu (v := .sc _) rfl rfl (fun _ => rfl) ?_
            refine RunC.fin ?_
            refine AWP.cd hR rfl (fun h86 hR => ?_) fun h86 hR => ?_
            · refine AWP.skip ?_
              refine skT ?_
              refine AWP.block ?_
              refine AWP.sq ?_
              refine AWP.rgC 41 rfl rfl ?_
              refine pu (v := .sc _) rfl rfl (fun _ => rfl) ?_
              refine pu (v := .sc _) rfl rfl (fun _ => rfl) ?_
              refine pu (v := .sc _) rfl rfl (fun _ => rfl) ?_
              refine cn rfl rfl ti3 rfl ti84 rfl rfl ?_
              refine pu (v := .sc _) rfl rfl (fun _ => rfl) ?_
              refine cn rfl rfl ti84 rfl ti3 rfl rfl ?_
              refine pu (v := .sc _) rfl rfl (fun _ => rfl) ?_
              refine RunC.fin ?_
              refine AWP.sq ?_
              refine AWP.rgD 97 [0, 0, 0, 0, 12, 30, 62, 0, 0, 384, 896, 2047, 4095, 8191] ⟨[], [none, none, none, none, none, none, some [0], none, none, none, some [0], none, none, none]⟩ hmix (by kernel_rfl) rfl rfl ?_
              refine pu (v := .fn _ _) rfl rfl (fun _ => rfl) ?_
              refine pu (v := slV curve_Sample _ _ _ _) rfl rfl (fun _ => rfl) ?_
              refine pu (v := .sc _) rfl rfl (fun _ => rfl) ?_
              refine pu (v := .sc _) rfl rfl (fun _ => rfl) ?_
              obtain ⟨v87, ev87, hR⟩ := letE hR
              refine pu (v := .sc _) rfl rfl (fun _ => puI ev87) ?_
              obtain ⟨h88, hR⟩ := chkE hR
              refine ixS0 (α := curve_Sample) rfl rfl rfl ti35 rfl ti53 rfl h88 ?_
              refine ldE (α := curve_Sample) (v := .agg _) rfl rfl rfl (ixlt h88) ti53 rfl rfl rfl rfl ?_
              refine pu (v := slV curve_Sample _ _ _ _) rfl rfl (fun _ => rfl) ?_
              refine pu (v := .sc _) rfl rfl (fun _ => rfl) ?_
              obtain ⟨h89, hR⟩ := chkE hR
              refine ixS0 (α := curve_Sample) rfl rfl rfl ti35 rfl ti53 rfl h89 ?_
              refine ldE (α := curve_Sample) (v := .agg _) rfl rfl rfl (ixlt h89) ti53 rfl rfl rfl rfl ?_
              obtain ⟨r90, hr90, hR⟩ := bindE hR
              refine cls [] rfl rfl cb22 (ok22 (gt data v87) (gt data (w6 (Int.fdiv (IntKind.wrap .u64 (w6 (s84.1 + s84.2))) (2 ^ 1)))) _ hr90) (.cons (.agg (.cons (.sc _) (.cons (.sc _) (.cons (.sc _) (.cons (.sc _) (.cons (.sc _) (.cons (.sc _) (.nil))))))) rfl) (.cons (.agg (.cons (.sc _) (.cons (.sc _) (.cons (.sc _) (.cons (.sc _) (.cons (.sc _) (.cons (.sc _) (.nil))))))) rfl) (.nil))) (.inr rfl) rfl ?_
              refine pu (v := .sc _) rfl rfl (fun _ => rfl) ?_
              refine pu (v := .sc _) rfl rfl (fun _ => rfl) ?_
              refine RunC.fin ?_
              refine AWP.cd hR rfl (fun h91 hR => ?_) fun h91 hR => ?_
              · refine AWP.rgC 109 rfl rfl ?_
                refine pu (v := .sc _) rfl rfl (fun _ => rfl) ?_
                obtain ⟨v92, ev92, hR⟩ := letE hR
                refine pu (v := .sc _) rfl rfl (fun _ => puI ev92) ?_
                refine pu (v := .sc _) rfl rfl (fun _ => rfl) ?_
                refine RunC.blk ?_
                refine RunC.fin ?_
                refine ⟨(v92, s84.2), (Option.some.inj hR).symm, ?_⟩
                exact Weak.turnL [(0, 0)] [] rfl rfl (tc (trS' rfl rfl rfl rfl rfl) (tc (.sc _) (tc (.sc _) (tc (.sc _) (tc (.fn (.nil)) (tc (.sc _) (tc (.sc _) (tc (.sc _) (tc (.sc _) (tc (.sc _) tn)))))))))) (mc rfl (btrA' rfl) mn)
              · refine AWP.rgC 105 rfl rfl ?_
                refine pu (v := .sc _) rfl rfl (fun _ => rfl) ?_
                refine pu (v := .sc _) rfl rfl (fun _ => rfl) ?_
                refine RunC.blk ?_
                refine RunC.fin ?_
                refine ⟨(s84.1, w6 (Int.fdiv (IntKind.wrap .u64 (w6 (s84.1 + s84.2))) (2 ^ 1))), (Option.some.inj hR).symm, ?_⟩
                exact Weak.turnL [(0, 0)] [] rfl rfl (tc (trS' rfl rfl rfl rfl rfl) (tc (.sc _) (tc (.sc _) (tc (.sc _) (tc (.fn (.nil)) (tc (.sc _) (tc (.sc _) (tc (.sc _) (tc (.sc _) (tc (.sc _) tn)))))))))) (mc rfl (btrA' rfl) mn)
            · refine AWP.exit ?_
              refine exT ?_
              refine exT ?_
              refine exH (skT ?_)
              refine ⟨s84.1, (Option.some.inj hR).symm, ?_⟩
              exact Weak.turnL [(0, 0)] [] rfl rfl (tc (trS' rfl rfl rfl rfl rfl) (tc (.sc _) (tc (.sc _) (tc (.sc _) (tc (.fn (.nil)) (tc (.sc _) (tc (.sc _) (tc (.sc _) tn)))))))) (mc rfl (btrA' rfl) mn)
          · refine skT ?_
            refine AWP.sq ?_
            refine AWP.rgC 17 rfl rfl ?_
            refine pu (v := .sc _) rfl rfl (fun _ => rfl) ?_
            refine pu (v := .sc _) rfl rfl (fun _ => rfl) ?_
            refine pu (v := .sc _) rfl rfl (fun _ => rfl) ?_
            refine pu (v := .sc _) rfl rfl (fun _ => rfl) ?_
            refine RunC.fin ?_
            refine AWP.sq ?_
            refine AWP.joinX (fun z93 : Bool => LS.mk [(0, slV curve_Sample 0 0 0 data.length), (1, .sc (.int .i64 a)), (2, .sc (.int .i64 m)), (3, .sc (.int .i64 b)), (4, .fn (.func 22) []), (18, .sc (.int .i64 (w6 (Int.fdiv (IntKind.wrap .u64 (w6 (a + b))) (2 ^ 1))))), (20, .sc (.int .i64 z85)), (24, .sc (.int .i64 (w6 (v31 - z85)))), (185, .sc (.bool z93))] (lblks 0 [arrB (α := curve_Sample) 53 0 false data]) 1) hR (fun o93 hR => ?_) fun z93 hR => ?_
            · refine AWP.rgC 49 rfl rfl ?_
              refine pu (v := .sc _) rfl rfl (fun _ => rfl) ?_
              refine pu (v := .sc _) rfl rfl (fun _ => rfl) ?_
              refine pu (v := .sc _) rfl rfl (fun _ => rfl) ?_
              refine pu (v := .sc _) rfl rfl (fun _ => rfl) ?_
              refine brR hR (fun h94 hR => ?_) fun h94 hR => ?_
              · refine pu (v := .sc _) (wtG rfl rfl rfl h94) rfl (fun _ => rfl) ?_
                refine pu (v := .sc _) (wtG rfl rfl rfl h94) rfl (fun _ => rfl) ?_
                refine pu (v := .sc _) (wtG rfl rfl rfl h94) rfl (fun _ => rfl) ?_
                refine pkT (v := .sc (.bool (decide (m < (w6 (v31 - z85)))))) rfl rfl h94 rfl ?_
                refine RunC.fin ?_
                have hR := Option.some.inj hR; subst hR
                exact Weak.turnL [(0, 0)] [] rfl rfl (tc (trS' rfl rfl rfl rfl rfl) (tc (.sc _) (tc (.sc _) (tc (.sc _) (tc (.fn (.nil)) (tc (.sc _) (tc (.sc _) (tc (.sc _) (tc (.sc _) tn))))))))) (mc rfl (btrA' rfl) mn)
              · refine sk (skW rfl rfl rfl h94) ?_
                refine sk (skW rfl rfl rfl h94) ?_
                refine sk (skW rfl rfl rfl h94) ?_
                refine pkF (v := .sc (.bool false)) rfl rfl h94 rfl ?_
                refine RunC.fin ?_
                have hR := Option.some.inj hR; subst hR
                exact Weak.turnL [(0, 0)] [] rfl rfl (tc (trS' rfl rfl rfl rfl rfl) (tc (.sc _) (tc (.sc _) (tc (.sc _) (tc (.fn (.nil)) (tc (.sc _) (tc (.sc _) (tc (.sc _) (tc (.sc _) tn))))))))) (mc rfl (btrA' rfl) mn)
            · refine AWP.cd hR rfl (fun h95 hR => ?_) fun h95 hR => ?_
              · refine AWP.rgC 25 rfl rfl ?_
                refine pu (v := slV curve_Sample _ _ _ _) rfl rfl (fun _ => rfl) ?_
                refine pu (v := .sc _) rfl rfl (fun _ => rfl) ?_
                refine pu (v := .sc _) rfl rfl (fun _ => rfl) ?_
                refine pu (v := .sc _) rfl rfl (fun _ => rfl) ?_
                refine pu (v := .fn _ _) rfl rfl (fun _ => rfl) ?_
                obtain ⟨r96, hr96, hR⟩ := bindE hR
                obtain ⟨h97, hR⟩ := chkE hR
                refine cps (res' := .tup []) (ups := [(0, arrB (α := curve_Sample) 53 0 false r96)]) [0] 21 rfl rfl rfl cb68 (ok68 data z85 m (w6 (v31 - z85)) _ hr96) (.cons (ldM rfl rfl) (.cons (.sc _) (.cons (.sc _) (.cons (.sc _) (.cons (.fn (.nil)) (.nil)))))) (pc rfl bldA pn) rfl rfl rfl rfl rfl (by first | rfl | exact renR | exact renA | exact renS | simp only [V.ren, V.rens, renR, renA, renS] | (simp only [V.ren, V.rens, renR, renA, renS]; rfl)) (by simp only [passUps, renBox, renArr]; rfl) ?_
                refine RunC.fin ?_
                refine AWP.sq ?_
                refine AWP.joinX (fun z98 : Bool => LS.mk [(0, slV curve_Sample 0 0 0 data.length), (1, .sc (.int .i64 a)), (3, .sc (.int .i64 b)), (4, .fn (.func 22) []), (18, .sc (.int .i64 (w6 (Int.fdiv (IntKind.wrap .u64 (w6 (a + b))) (2 ^ 1))))), (20, .sc (.int .i64 z85)), (24, .sc (.int .i64 (w6 (v31 - z85)))), (199, .sc (.bool z98))] (lblks 0 [arrB (α := curve_Sample) 53 0 false r96]) 1) hR (fun o98 hR => ?_) fun z98 hR => ?_
                · refine AWP.rgC 57 rfl rfl ?_
                  refine pu (v := .sc _) rfl rfl (fun _ => rfl) ?_
                  refine pu (v := .sc _) rfl rfl (fun _ => rfl) ?_
                  refine pu (v := .sc _) rfl rfl (fun _ => rfl) ?_
                  refine pu (v := .sc _) rfl rfl (fun _ => rfl) ?_
                  refine brR hR (fun h99 hR => ?_) fun h99 hR => ?_
                  · refine pu (v := .sc _) (wtG rfl rfl rfl h99) rfl (fun _ => rfl) ?_
                    refine pu (v := .sc _) (wtG rfl rfl rfl h99) rfl (fun _ => rfl) ?_
                    obtain ⟨v100, ev100, hR⟩ := letE hR
                    refine pu (v := .sc _) (wtG rfl rfl rfl h99) rfl (fun _ => puB ev100) ?_
                    refine pkT (v := .sc (.bool v100)) rfl rfl h99 rfl ?_
                    refine RunC.fin ?_
                    have hR := Option.some.inj hR; subst hR
                    exact Weak.turnL [(0, 0)] [] rfl rfl (tc (trS' rfl rfl rfl rfl rfl) (tc (.sc _) (tc (.sc _) (tc (.fn (.nil)) (tc (.sc _) (tc (.sc _) (tc (.sc _) (tc (.sc _) tn)))))))) (mc rfl (btrA' rfl) mn)
                  · refine sk (skW rfl rfl rfl h99) ?_
                    refine sk (skW rfl rfl rfl h99) ?_
                    refine sk (skW rfl rfl rfl h99) ?_
                    refine pkF (v := .sc (.bool false)) rfl rfl h99 rfl ?_
                    refine RunC.fin ?_
                    have hR := Option.some.inj hR; subst hR
                    exact Weak.turnL [(0, 0)] [] rfl rfl (tc (trS' rfl rfl rfl rfl rfl) (tc (.sc _) (tc (.sc _) (tc (.fn (.nil)) (tc (.sc _) (tc (.sc _) (tc (.sc _) (tc (.sc _) tn)))))))) (mc rfl (btrA' rfl) mn)
                · refine AWP.cd hR rfl (fun h101 hR => ?_) fun h101 hR => ?_
                  · refine AWP.rgC 25 rfl rfl ?_
                    refine pu (v := slV curve_Sample _ _ _ _) rfl rfl (fun _ => rfl) ?_
                    refine pu (v := .sc _) rfl rfl (fun _ => rfl) ?_
                    refine pu (v := .sc _) rfl rfl (fun _ => rfl) ?_
                    refine pu (v := .sc _) rfl rfl (fun _ => rfl) ?_
                    refine pu (v := .fn _ _) rfl rfl (fun _ => rfl) ?_
                    obtain ⟨r102, hr102, hR⟩ := bindE hR
                    obtain ⟨h103, hR⟩ := chkE hR
                    refine cps (res' := .tup []) (ups := [(0, arrB (α := curve_Sample) 53 0 false r102)]) [0] 21 rfl rfl rfl cb57 (ih r96 a z85 (w6 (Int.fdiv (IntKind.wrap .u64 (w6 (a + b))) (2 ^ 1))) _ hr102) (.cons (ldM2 rfl rfl (by first | assumption | omega)) (.cons (.sc _) (.cons (.sc _) (.cons (.sc _) (.cons (.fn (.nil)) (.nil)))))) (pc rfl bldA pn) rfl rfl rfl rfl rfl (by first | rfl | exact renR | exact renA | exact renS | simp only [V.ren, V.rens, renR, renA, renS] | (simp only [V.ren, V.rens, renR, renA, renS]; rfl)) (by simp only [passUps, renBox, renArr]; rfl) ?_
                    refine RunC.fin ?_
                    refine AWP.joinX (fun z104 : Bool => LS.mk [(0, slV curve_Sample 0 0 0 data.length), (3, .sc (.int .i64 b)), (4, .fn (.func 22) []), (18, .sc (.int .i64 (w6 (Int.fdiv (IntKind.wrap .u64 (w6 (a + b))) (2 ^ 1))))), (24, .sc (.int .i64 (w6 (v31 - z85)))), (213, .sc (.bool z104))] (lblks 0 [arrB (α := curve_Sample) 53 0 false r102]) 1) hR (fun o104 hR => ?_) fun z104 hR => ?_
                    · refine AWP.rgC 57 rfl rfl ?_
                      refine pu (v := .sc _) rfl rfl (fun _ => rfl) ?_
                      refine pu (v := .sc _) rfl rfl (fun _ => rfl) ?_
                      obtain ⟨v105, ev105, hR⟩ := letE hR
                      refine pu (v := .sc _) rfl rfl (fun _ => puB ev105) ?_
                      refine pu (v := .sc _) rfl rfl (fun _ => rfl) ?_
                      refine brR hR (fun h106 hR => ?_) fun h106 hR => ?_
                      · refine pu (v := .sc _) (wtG rfl rfl rfl h106) rfl (fun _ => rfl) ?_
                        refine pu (v := .sc _) (wtG rfl rfl rfl h106) rfl (fun _ => rfl) ?_
                        refine pu (v := .sc _) (wtG rfl rfl rfl h106) rfl (fun _ => rfl) ?_
                        refine pkT (v := .sc (.bool (decide ((w6 (v31 - z85)) < b)))) rfl rfl h106 rfl ?_
                        refine RunC.fin ?_
                        have hR := Option.some.inj hR; subst hR
                        exact Weak.turnL [(0, 0)] [] rfl rfl (tc (trS' rfl rfl rfl rfl rfl) (tc (.sc _) (tc (.fn (.nil)) (tc (.sc _) (tc (.sc _) (tc (.sc _) tn)))))) (mc rfl (btrA' rfl) mn)
                      · refine sk (skW rfl rfl rfl h106) ?_
                        refine sk (skW rfl rfl rfl h106) ?_
                        refine sk (skW rfl rfl rfl h106) ?_
                        refine pkF (v := .sc (.bool false)) rfl rfl h106 rfl ?_
                        refine RunC.fin ?_
                        have hR := Option.some.inj hR; subst hR
                        exact Weak.turnL [(0, 0)] [] rfl rfl (tc (trS' rfl rfl rfl rfl rfl) (tc (.sc _) (tc (.fn (.nil)) (tc (.sc _) (tc (.sc _) (tc (.sc _) tn)))))) (mc rfl (btrA' rfl) mn)
                    · refine AWP.cd hR rfl (fun h107 hR => ?_) fun h107 hR => ?_
                      · refine AWP.rgC 25 rfl rfl ?_
                        refine pu (v := slV curve_Sample _ _ _ _) rfl rfl (fun _ => rfl) ?_
                        refine pu (v := .sc _) rfl rfl (fun _ => rfl) ?_
                        refine pu (v := .sc _) rfl rfl (fun _ => rfl) ?_
                        refine pu (v := .sc _) rfl rfl (fun _ => rfl) ?_
                        refine pu (v := .fn _ _) rfl rfl (fun _ => rfl) ?_
                        obtain ⟨r108, hr108, hR⟩ := bindE hR
                        obtain ⟨h109, hR⟩ := chkE hR
                        refine cps (res' := .tup []) (ups := [(0, arrB (α := curve_Sample) 53 0 false r108)]) [0] 21 rfl rfl rfl cb57 (ih r102 (w6 (Int.fdiv (IntKind.wrap .u64 (w6 (a + b))) (2 ^ 1))) (w6 (v31 - z85)) b _ hr108) (.cons (ldM2 rfl rfl (by first | assumption | omega)) (.cons (.sc _) (.cons (.sc _) (.cons (.sc _) (.cons (.fn (.nil)) (.nil)))))) (pc rfl bldA pn) rfl rfl rfl rfl rfl (by first | rfl | exact renR | exact renA | exact renS | simp only [V.ren, V.rens, renR, renA, renS] | (simp only [V.ren, V.rens, renR, renA, renS]; rfl)) (by simp only [passUps, renBox, renArr]; rfl) ?_
                        refine RunC.nil ?_
                        have hR := Option.some.inj hR; subst hR
                        exact hQ _ _ (LS.mk [] (lblks 0 [arrB (α := curve_Sample) 53 0 false r108]) 1) (.tup []) [] (.inl rfl) (Weak.turnL [(0, 0)] [] rfl rfl tn (mc rfl (btrA' rfl) mn)) (ro0 ) rfl rfl (.tup .nil) (pc rfl bldA pn)
                      · refine AWP.skip ?_
                        have hR := Option.some.inj hR; subst hR
                        exact hQ _ _ (LS.mk [] (lblks 0 [arrB (α := curve_Sample) 53 0 false r102]) 1) (.tup []) [] (.inl rfl) (Weak.turnL [(0, 0)] [] rfl rfl tn (mc rfl (btrA' rfl) mn)) (ro0 ) rfl rfl (.tup .nil) (pc rfl bldA pn)
                  · refine AWP.skip ?_
                    refine skT ?_
                    refine AWP.joinX (fun z110 : Bool => LS.mk [(0, slV curve_Sample 0 0 0 data.length), (3, .sc (.int .i64 b)), (4, .fn (.func 22) []), (18, .sc (.int .i64 (w6 (Int.fdiv (IntKind.wrap .u64 (w6 (a + b))) (2 ^ 1))))), (24, .sc (.int .i64 (w6 (v31 - z85)))), (213, .sc (.bool z110))] (lblks 0 [arrB (α := curve_Sample) 53 0 false r96]) 1) hR (fun o110 hR => ?_) fun z110 hR => ?_
                    · refine AWP.rgC 33 rfl rfl ?_
                      refine pu (v := .sc _) rfl rfl (fun _ => rfl) ?_
                      refine pu (v := .sc _) rfl rfl (fun _ => rfl) ?_
                      obtain ⟨v111, ev111, hR⟩ := letE hR
                      refine pu (v := .sc _) rfl rfl (fun _ => puB ev111) ?_
                      refine pu (v := .sc _) rfl rfl (fun _ => rfl) ?_
                      refine brR hR (fun h112 hR => ?_) fun h112 hR => ?_
                      · refine pu (v := .sc _) (wtG rfl rfl rfl h112) rfl (fun _ => rfl) ?_
                        refine pu (v := .sc _) (wtG rfl rfl rfl h112) rfl (fun _ => rfl) ?_
                        refine pu (v := .sc _) (wtG rfl rfl rfl h112) rfl (fun _ => rfl) ?_
                        refine pkT (v := .sc (.bool (decide ((w6 (v31 - z85)) < b)))) rfl rfl h112 rfl ?_
                        refine RunC.fin ?_
                        have hR := Option.some.inj hR; subst hR
                        exact Weak.turnL [(0, 0)] [] rfl rfl (tc (trS' rfl rfl rfl rfl rfl) (tc (.sc _) (tc (.fn (.nil)) (tc (.sc _) (tc (.sc _) (tc (.sc _) tn)))))) (mc rfl (btrA' rfl) mn)
                      · refine sk (skW rfl rfl rfl h112) ?_
                        refine sk (skW rfl rfl rfl h112) ?_
                        refine sk (skW rfl rfl rfl h112) ?_
                        refine pkF (v := .sc (.bool false)) rfl rfl h112 rfl ?_
                        refine RunC.fin ?_
                        have hR := Option.some.inj hR; subst hR
                        exact Weak.turnL [(0, 0)] [] rfl rfl (tc (trS' rfl rfl rfl rfl rfl) (tc (.sc _) (tc (.fn (.nil)) (tc (.sc _) (tc (.sc _) (tc (.sc _) tn)))))) (mc rfl (btrA' rfl) mn)
                    · refine AWP.cd hR rfl (fun h113 hR => ?_) fun h113 hR => ?_
                      · refine AWP.rgC 25 rfl rfl ?_
                        refine pu (v := slV curve_Sample _ _ _ _) rfl rfl (fun _ => rfl) ?_
                        refine pu (v := .sc _) rfl rfl (fun _ => rfl) ?_
                        refine pu (v := .sc _) rfl rfl (fun _ => rfl) ?_
                        refine pu (v := .sc _) rfl rfl (fun _ => rfl) ?_
                        refine pu (v := .fn _ _) rfl rfl (fun _ => rfl) ?_
                        obtain ⟨r114, hr114, hR⟩ := bindE hR
                        obtain ⟨h115, hR⟩ := chkE hR
                        refine cps (res' := .tup []) (ups := [(0, arrB (α := curve_Sample) 53 0 false r114)]) [0] 21 rfl rfl rfl cb57 (ih r96 (w6 (Int.fdiv (IntKind.wrap .u64 (w6 (a + b))) (2 ^ 1))) (w6 (v31 - z85)) b _ hr114) (.cons (ldM2 rfl rfl (by first | assumption | omega)) (.cons (.sc _) (.cons (.sc _) (.cons (.sc _) (.cons (.fn (.nil)) (.nil)))))) (pc rfl bldA pn) rfl rfl rfl rfl rfl (by first | rfl | exact renR | exact renA | exact renS | simp only [V.ren, V.rens, renR, renA, renS] | (simp only [V.ren, V.rens, renR, renA, renS]; rfl)) (by simp only [passUps, renBox, renArr]; rfl) ?_
                        refine RunC.nil ?_
                        have hR := Option.some.inj hR; subst hR
                        exact hQ _ _ (LS.mk [] (lblks 0 [arrB (α := curve_Sample) 53 0 false r114]) 1) (.tup []) [] (.inl rfl) (Weak.turnL [(0, 0)] [] rfl rfl tn (mc rfl (btrA' rfl) mn)) (ro0 ) rfl rfl (.tup .nil) (pc rfl bldA pn)
                      · refine AWP.skip ?_
                        have hR := Option.some.inj hR; subst hR
                        exact hQ _ _ (LS.mk [] (lblks 0 [arrB (α := curve_Sample) 53 0 false r96]) 1) (.tup []) [] (.inl rfl) (Weak.turnL [(0, 0)] [] rfl rfl tn (mc rfl (btrA' rfl) mn)) (ro0 ) rfl rfl (.tup .nil) (pc rfl bldA pn)
              · refine AWP.skip ?_
                refine skT ?_
                refine AWP.sq ?_
                refine AWP.joinX (fun z116 : Bool => LS.mk [(0, slV curve_Sample 0 0 0 data.length), (1, .sc (.int .i64 a)), (3, .sc (.int .i64 b)), (4, .fn (.func 22) []), (18, .sc (.int .i64 (w6 (Int.fdiv (IntKind.wrap .u64 (w6 (a + b))) (2 ^ 1))))), (20, .sc (.int .i64 z85)), (24, .sc (.int .i64 (w6 (v31 - z85)))), (199, .sc (.bool z116))] (lblks 0 [arrB (α := curve_Sample) 53 0 false data]) 1) hR (fun o116 hR => ?_) fun z116 hR => ?_
                · refine AWP.rgC 33 rfl rfl ?_
                  refine pu (v := .sc _) rfl rfl (fun _ => rfl) ?_
                  refine pu (v := .sc _) rfl rfl (fun _ => rfl) ?_
                  refine pu (v := .sc _) rfl rfl (fun _ => rfl) ?_
                  refine pu (v := .sc _) rfl rfl (fun _ => rfl) ?_
                  refine brR hR (fun h117 hR => ?_) fun h117 hR => ?_
                  · refine pu (v := .sc _) (wtG rfl rfl rfl h117) rfl (fun _ => rfl) ?_
                    refine pu (v := .sc _) (wtG rfl rfl rfl h117) rfl (fun _ => rfl) ?_
                    obtain ⟨v118, ev118, hR⟩ := letE hR
                    refine pu (v := .sc _) (wtG rfl rfl rfl h117) rfl (fun _ => puB ev118) ?_
                    refine pkT (v := .sc (.bool v118)) rfl rfl h117 rfl ?_
                    refine RunC.fin ?_
                    have hR := Option.some.inj hR; subst hR
                    exact Weak.turnL [(0, 0)] [] rfl rfl (tc (trS' rfl rfl rfl rfl rfl) (tc (.sc _) (tc (.sc _) (tc (.fn (.nil)) (tc (.sc _) (tc (.sc _) (tc (.sc _) (tc (.sc _) tn)))))))) (mc rfl (btrA' rfl) mn)
                  · refine sk (skW rfl rfl rfl h117) ?_
                    refine sk (skW rfl rfl rfl h117) ?_
                    refine sk (skW rfl rfl rfl h117) ?_
                    refine pkF (v := .sc (.bool false)) rfl rfl h117 rfl ?_
                    refine RunC.fin ?_
                    have hR := Option.some.inj hR; subst hR
                    exact Weak.turnL [(0, 0)] [] rfl rfl (tc (trS' rfl rfl rfl rfl rfl) (tc (.sc _) (tc (.sc _) (tc (.fn (.nil)) (tc (.sc _) (tc (.sc _) (tc (.sc _) (tc (.sc _) tn)))))))) (mc rfl (btrA' rfl) mn)
                · refine AWP.cd hR rfl (fun h119 hR => ?_) fun h119 hR => ?_
                  · refine AWP.rgC 25 rfl rfl ?_
                    refine pu (v := slV curve_Sample _ _ _ _) rfl rfl (fun _ => rfl) ?_
                    refine pu (v := .sc _) rfl rfl (fun _ => rfl) ?_
                    refine pu (v := .sc _) rfl rfl (fun _ => rfl) ?_
                    refine pu (v := .sc _) rfl rfl (fun _ => rfl) ?_
                    refine pu (v := .fn _ _) rfl rfl (fun _ => rfl) ?_
                    obtain ⟨r120, hr120, hR⟩ := bindE hR
                    obtain ⟨h121, hR⟩ := chkE hR
                    refine cps (res' := .tup []) (ups := [(0, arrB (α := curve_Sample) 53 0 false r120)]) [0] 21 rfl rfl rfl cb57 (ih data a z85 (w6 (Int.fdiv (IntKind.wrap .u64 (w6 (a + b))) (2 ^ 1))) _ hr120) (.cons (ldM rfl rfl) (.cons (.sc _) (.cons (.sc _) (.cons (.sc _) (.cons (.fn (.nil)) (.nil)))))) (pc rfl bldA pn) rfl rfl rfl rfl rfl (by first | rfl | exact renR | exact renA | exact renS | simp only [V.ren, V.rens, renR, renA, renS] | (simp only [V.ren, V.rens, renR, renA, renS]; rfl)) (by simp only [passUps, renBox, renArr]; rfl) ?_
                    refine RunC.fin ?_
                    refine AWP.joinX (fun z122 : Bool => LS.mk [(0, slV curve_Sample 0 0 0 data.length), (3, .sc (.int .i64 b)), (4, .fn (.func 22) []), (18, .sc (.int .i64 (w6 (Int.fdiv (IntKind.wrap .u64 (w6 (a + b))) (2 ^ 1))))), (24, .sc (.int .i64 (w6 (v31 - z85)))), (213, .sc (.bool z122))] (lblks 0 [arrB (α := curve_Sample) 53 0 false r120]) 1) hR (fun o122 hR => ?_) fun z122 hR => ?_
                    · refine AWP.rgC 57 rfl rfl ?_
                      refine pu (v := .sc _) rfl rfl (fun _ => rfl) ?_
                      refine pu (v := .sc _) rfl rfl (fun _ => rfl) ?_
                      obtain ⟨v123, ev123, hR⟩ := letE hR
                      refine pu (v := .sc _) rfl rfl (fun _ => puB ev123) ?_
                      refine pu (v := .sc _) rfl rfl (fun _ => rfl) ?_
                      refine brR hR (fun h124 hR => ?_) fun h124 hR => ?_
                      · refine pu (v := .sc _) (wtG rfl rfl rfl h124) rfl (fun _ => rfl) ?_
                        refine pu (v := .sc _) (wtG rfl rfl rfl h124) rfl (fun _ => rfl) ?_
                        refine pu (v := .sc _) (wtG rfl rfl rfl h124) rfl (fun _ => rfl) ?_
                        refine pkT (v := .sc (.bool (decide ((w6 (v31 - z85)) < b)))) rfl rfl h124 rfl ?_
                        refine RunC.fin ?_
                        have hR := Option.some.inj hR; subst hR
                        exact Weak.turnL [(0, 0)] [] rfl rfl (tc (trS' rfl rfl rfl rfl rfl) (tc (.sc _) (tc (.fn (.nil)) (tc (.sc _) (tc (.sc _) (tc (.sc _) tn)))))) (mc rfl (btrA' rfl) mn)
                      · refine sk (skW rfl rfl rfl h124) ?_
                        refine sk (skW rfl rfl rfl h124) ?_
                        refine sk (skW rfl rfl rfl h124) ?_
                        refine pkF (v := .sc (.bool false)) rfl rfl h124 rfl ?_
                        refine RunC.fin ?_
                        have hR := Option.some.inj hR; subst hR
                        exact Weak.turnL [(0, 0)] [] rfl rfl (tc (trS' rfl rfl rfl rfl rfl) (tc (.sc _) (tc (.fn (.nil)) (tc (.sc _) (tc (.sc _) (tc (.sc _) tn)))))) (mc rfl (btrA' rfl) mn)
                    · refine AWP.cd hR rfl (fun h125 hR => ?_) fun h125 hR => ?_
                      · refine AWP.rgC 25 rfl rfl ?_
                        refine pu (v := slV curve_Sample _ _ _ _) rfl rfl (fun _ => rfl) ?_
                        refine pu (v := .sc _) rfl rfl (fun _ => rfl) ?_
                        refine pu (v := .sc _) rfl rfl (fun _ => rfl) ?_
                        refine pu (v := .sc _) rfl rfl (fun _ => rfl) ?_
                        refine pu (v := .fn _ _) rfl rfl (fun _ => rfl) ?_
                        obtain ⟨r126, hr126, hR⟩ := bindE hR
                        obtain ⟨h127, hR⟩ := chkE hR
                        refine cps (res' := .tup []) (ups := [(0, arrB (α := curve_Sample) 53 0 false r126)]) [0] 21 rfl rfl rfl cb57 (ih r120 (w6 (Int.fdiv (IntKind.wrap .u64 (w6 (a + b))) (2 ^ 1))) (w6 (v31 - z85)) b _ hr126) (.cons (ldM2 rfl rfl (by first | assumption | omega)) (.cons (.sc _) (.cons (.sc _) (.cons (.sc _) (.cons (.fn (.nil)) (.nil)))))) (pc rfl bldA pn) rfl rfl rfl rfl rfl (by first | rfl | exact renR | exact renA | exact renS | simp only [V.ren, V.rens, renR, renA, renS] | (simp only [V.ren, V.rens, renR, renA, renS]; rfl)) (by simp only [passUps, renBox, renArr]; rfl) ?_
                        refine RunC.nil ?_
                        have hR := Option.some.inj hR; subst hR
                        exact hQ _ _ (LS.mk [] (lblks 0 [arrB (α := curve_Sample) 53 0 false r126]) 1) (.tup []) [] (.inl rfl) (Weak.turnL [(0, 0)] [] rfl rfl tn (mc rfl (btrA' rfl) mn)) (ro0 ) rfl rfl (.tup .nil) (pc rfl bldA pn)
                      · refine AWP.skip ?_
                        have hR := Option.some.inj hR; subst hR
                        exact hQ _ _ (LS.mk [] (lblks 0 [arrB (α := curve_Sample) 53 0 false r120]) 1) (.tup []) [] (.inl rfl) (Weak.turnL [(0, 0)] [] rfl rfl tn (mc rfl (btrA' rfl) mn)) (ro0 ) rfl rfl (.tup .nil) (pc rfl bldA pn)
                  · refine AWP.skip ?_
                    refine skT ?_
                    refine AWP.joinX (fun z128 : Bool => LS.mk [(0, slV curve_Sample 0 0 0 data.length), (3, .sc (.int .i64 b)), (4, .fn (.func 22) []), (18, .sc (.int .i64 (w6 (Int.fdiv (IntKind.wrap .u64 (w6 (a + b))) (2 ^ 1))))), (24, .sc (.int .i64 (w6 (v31 - z85)))), (213, .sc (.bool z128))] (lblks 0 [arrB (α := curve_Sample) 53 0 false data]) 1) hR (fun o128 hR => ?_) fun z128 hR => ?_
                    · refine AWP.rgC 33 rfl rfl ?_
                      refine pu (v := .sc _) rfl rfl (fun _ => rfl) ?_
                      refine pu (v := .sc _) rfl rfl (fun _ => rfl) ?_
                      obtain ⟨v129, ev129, hR⟩ := letE hR
                      refine pu (v := .sc _) rfl rfl (fun _ => puB ev129) ?_
                      refine pu (v := .sc _) rfl rfl (fun _ => rfl) ?_
                      refine brR hR (fun h130 hR => ?_) fun h130 hR => ?_
                      · refine pu (v := .sc _) (wtG rfl rfl rfl h130) rfl (fun _ => rfl) ?_
                        refine pu (v := .sc _) (wtG rfl rfl rfl h130) rfl (fun _ => rfl) ?_
                        refine pu (v := .sc _) (wtG rfl rfl rfl h130) rfl (fun _ => rfl) ?_
                        refine pkT (v := .sc (.bool (decide ((w6 (v31 - z85)) < b)))) rfl rfl h130 rfl ?_
                        refine RunC.fin ?_
                        have hR := Option.some.inj hR; subst hR
                        exact Weak.turnL [(0, 0)] [] rfl rfl (tc (trS' rfl rfl rfl rfl rfl) (tc (.sc _) (tc (.fn (.nil)) (tc (.sc _) (tc (.sc _) (tc (.sc _) tn)))))) (mc rfl (btrA' rfl) mn)
                      · refine sk (skW rfl rfl rfl h130) ?_
                        refine sk (skW rfl rfl rfl h130) ?_
                        refine sk (skW rfl rfl rfl h130) ?_
                        refine pkF (v := .sc (.bool false)) rfl rfl h130 rfl ?_
                        refine RunC.fin ?_
                        have hR := Option.some.inj hR; subst hR
                        exact Weak.turnL [(0, 0)] [] rfl rfl (tc (trS' rfl rfl rfl rfl rfl) (tc (.sc _) (tc (.fn (.nil)) (tc (.sc _) (tc (.sc _) (tc (.sc _) tn)))))) (mc rfl (btrA' rfl) mn)
                    · refine AWP.cd hR rfl (fun h131 hR => ?_) fun h131 hR => ?_
                      · refine AWP.rgC 25 rfl rfl ?_
                        refine pu (v := slV curve_Sample _ _ _ _) rfl rfl (fun _ => rfl) ?_
                        refine pu (v := .sc _) rfl rfl (fun _ => rfl) ?_
                        refine pu (v := .sc _) rfl rfl (fun _ => rfl) ?_
                        refine pu (v := .sc _) rfl rfl (fun _ => rfl) ?_
                        refine pu (v := .fn _ _) rfl rfl (fun _ => rfl) ?_
                        obtain ⟨r132, hr132, hR⟩ := bindE hR
                        obtain ⟨h133, hR⟩ := chkE hR
                        refine cps (res' := .tup []) (ups := [(0, arrB (α := curve_Sample) 53 0 false r132)]) [0] 21 rfl rfl rfl cb57 (ih data (w6 (Int.fdiv (IntKind.wrap .u64 (w6 (a + b))) (2 ^ 1))) (w6 (v31 - z85)) b _ hr132) (.cons (ldM rfl rfl) (.cons (.sc _) (.cons (.sc _) (.cons (.sc _) (.cons (.fn (.nil)) (.nil)))))) (pc rfl bldA pn) rfl rfl rfl rfl rfl (by first | rfl | exact renR | exact renA | exact renS | simp only [V.ren, V.rens, renR, renA, renS] | (simp only [V.ren, V.rens, renR, renA, renS]; rfl)) (by simp only [passUps, renBox, renArr]; rfl) ?_
                        refine RunC.nil ?_
                        have hR := Option.some.inj hR; subst hR
                        exact hQ _ _ (LS.mk [] (lblks 0 [arrB (α := curve_Sample) 53 0 false r132]) 1) (.tup []) [] (.inl rfl) (Weak.turnL [(0, 0)] [] rfl rfl tn (mc rfl (btrA' rfl) mn)) (ro0 ) rfl rfl (.tup .nil) (pc rfl bldA pn)
                      · refine AWP.skip ?_
                        have hR := Option.some.inj hR; subst hR
                        exact hQ _ _ (LS.mk [] (lblks 0 [arrB (α := curve_Sample) 53 0 false data]) 1) (.tup []) [] (.inl rfl) (Weak.turnL [(0, 0)] [] rfl rfl tn (mc rfl (btrA' rfl) mn)) (ro0 ) rfl rfl (.tup .nil) (pc rfl bldA pn)
end Go.Proofs.Cum
