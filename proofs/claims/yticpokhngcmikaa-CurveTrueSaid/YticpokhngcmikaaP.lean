/- Each function of the program computes its plain function. Conditions: as each theorem states them. -/
import Derived.Test.YticpokhngcmikaaA4
import Derived.Shelf.SlSortCmp.WholeK
import Derived.WalkKit
import Derived.Maps.Own
import Derived.Test.YticpokhngcmikaaT
import Derived.Test.YticpokhngcmikaaP0
namespace Go.Proofs.Cut
open Go Go.Abs Lf
set_option linter.unusedVariables false
set_option linter.unusedSimpArgs false
set_option maxRecDepth 100000
set_option maxHeartbeats 1000000
theorem ok11 (s : Sky) (id_ : Int) (t : Int) (r : Int × Int) (hR : sky_Rate s id_ t = some r) : FnP Try.prog 11 [aggV false s, .sc (.int .i64 id_), .sc (.int .i64 t)] (.tup [.sc (.int .i64 r.1), .sc (.int .i64 r.2)]) := by
  refine fnP_of (FnX.walk Try.func11 rfl 64 0 (by simp [Try.ntmps11]) rfl fun W S F Q hQ => ?_)
  unfold sky_Rate at hR
  refine AWP.sq ?_
  refine AWP.rgC 12 rfl rfl ?_
  refine bx (cs := _) 0 rfl rfl rfl ?_
  refine pu (v := .sc _) rfl rfl (fun _ => rfl) ?_
  refine pu (v := .sc _) rfl rfl (fun _ => rfl) ?_
  refine RunC.fin ?_
  refine AWP.sq ?_
  refine AWP.sq ?_
  refine AWP.rgC 28 rfl rfl ?_
  refine ldB (v := .agg _) rfl rfl rfl rfl ti54 rfl rfl ?_
  refine pu (v := .sc _) rfl rfl (fun _ => rfl) ?_
  obtain ⟨r1, hr1, hR⟩ := bindE hR
  refine cls [] rfl rfl cb19 (ok19 s t _ hr1) (.cons (.agg (.cons (.sc _) (.cons ldR' (.cons ldR' (.cons ldR' (.cons (.sc _) (.cons (.sc _) (.cons (.sc _) (.cons (.sc _) (.cons (.sc _) (.cons (.sc _) (.cons (.sc _) (.cons (.sc _) (.nil))))))))))))) rfl) (.cons (.sc _) (.nil))) (.inr rfl) rfl ?_
  refine pu (v := .sc _) rfl rfl (fun _ => rfl) ?_
  refine RunC.fin ?_
  refine AWP.sq ?_
  refine AWP.rgC 36 rfl rfl ?_
  refine pu (v := .sc _) rfl rfl (fun _ => rfl) ?_
  refine pu (v := .sc _) rfl rfl (fun _ => rfl) ?_
  refine RunC.fin ?_
  refine AWP.cd hR rfl (fun h2 hR => ?_) fun h2 hR => ?_
  · refine AWP.sq ?_
    refine AWP.rgC 48 rfl rfl ?_
    refine pu (v := .sc _) rfl rfl (fun _ => rfl) ?_
    refine pu (v := .sc _) rfl rfl (fun _ => rfl) ?_
    refine pu (v := .sc _) rfl rfl (fun _ => rfl) ?_
    refine RunC.fin ?_
    refine AWP.ret ?_
    refine rtT ?_
    have hR := Option.some.inj hR; subst hR
    exact hQ _ _ (LS.mk [(6, .sc (.int .i64 0)), (7, .sc (.int .i64 r1))] (lblks 0 []) 0) (.tup [.sc (.int .i64 0), .sc (.int .i64 r1)]) [] (.inr rfl) (Weak.turnL [] [] rfl rfl (tc (.sc _) (tc (.sc _) tn)) mn) (ro2 (rvT (v := .sc (.int .i64 0)) rfl) (rvT (v := .sc (.int .i64 r1)) rfl)) rfl rfl (.tup (.cons (.sc _) (.cons (.sc _) .nil))) pn
  · refine AWP.skip ?_
    refine skT ?_
    refine AWP.sq ?_
    refine AWP.sq ?_
    refine AWP.rgC 52 rfl rfl ?_
    refine fa rfl rfl ti54 rfl rfl ti48 rfl ?_
    refine ldB (v := rowV _ s.Stars) rfl rfl rfl rfl ti48 rfl rfl ?_
    refine lenL (α := Star) rfl rfl ti48 rfl ?_
    refine pu (v := .sc _) rfl rfl (fun _ => rfl) ?_
    refine RunC.fin ?_
    refine AWP.loopK' (fun s3 : Int => LS.mk [(1, .sc (.int .i64 id_)), (2, .sc (.int .i64 t)), (3, .ptr 0 0 0), (22, rowV (α := Star) false s.Stars), (23, .sc (.int .i64 (s.Stars.length : Int))), (24, .sc (.int .i64 s3))] (lblks 0 [boxB (α := Sky) false s]) 1) (fun z4 : Unit => LS.mk [(1, .sc (.int .i64 id_)), (3, .ptr 0 0 0)] (lblks 0 [boxB (α := Sky) false s]) 1) (sky_Rate.l1 s id_ t) hR (s0 := 0) (Weak.turnL [(0, 0)] [] rfl rfl (tc (.sc _) (tc (.sc _) (tc (trP' rfl rfl rfl rfl) (tc trR1 (tc (.sc _) (tc (.sc _) tn)))))) (mc rfl (.box rfl (.cons (.sc _) (.cons trR1 (.cons trR1 (.cons trR1 (.cons (.sc _) (.cons (.sc _) (.cons (.sc _) (.cons (.sc _) (.cons (.sc _) (.cons (.sc _) (.cons (.sc _) (.cons (.sc _) (.nil))))))))))))) rfl) mn)) (fun s3 o3 hR hE3 => ?_) fun z4 hR => ?_
    · unfold sky_Rate.l1 at hR
      refine AWP.sq ?_
      refine AWP.rgC 5 rfl rfl ?_
      refine pu (v := .sc _) rfl rfl (fun _ => rfl) ?_
      refine RunC.fin ?_
      refine AWP.sq ?_
      refine AWP.cd hR rfl (fun h5 hR => ?_) fun h5 hR => ?_
      · refine AWP.skip ?_
        refine skT ?_
        refine AWP.sq ?_
        refine AWP.block ?_
        refine AWP.sq ?_
        refine AWP.rgC 21 rfl rfl ?_
        obtain ⟨h6, hR⟩ := chkE hR
        refine ixL (α := Star) rfl rfl rfl ti48 rfl ti32 rfl h6 ?_
        refine ldR (v := .agg _) rfl rfl ti32 rfl ?_
        refine al (cs := [.sc (.int .i64 0), .sc (.int .i64 0), .sc (.int .i64 0), .sc (.int .i64 0), .sc (.int .i64 0), .sc (.slice none 0 0), .sc (.int .i64 0), .sc (.int .i64 0), .sc (.int .i64 0)]) 13 rfl rfl ti32 rfl rfl ?_
        refine stB (cs' := [.sc (.int .i64 (gt s.Stars s3).ID), .sc (.int .i64 (gt s.Stars s3).At.X), .sc (.int .i64 (gt s.Stars s3).At.Y), .sc (.int .i64 (gt s.Stars s3).At.Z), .sc (.int .i64 (gt s.Stars s3).Rate), rowV (α := Int) false (gt s.Stars s3).Wave, .sc (.int .i64 (gt s.Stars s3).Period), .sc (.int .i64 (gt s.Stars s3).From), .sc (.int .i64 (gt s.Stars s3).To)]) rfl rfl rfl rfl ti32 rfl rfl rfl rfl rfl ?_
        refine RunC.fin ?_
        refine AWP.sq ?_
        refine AWP.rgC 37 rfl rfl ?_
        refine fa rfl rfl ti32 rfl rfl ti3 rfl ?_
        refine ldB (v := .sc _) rfl rfl rfl rfl ti3 rfl rfl ?_
        refine pu (v := .sc _) rfl rfl (fun _ => rfl) ?_
        refine pu (v := .sc _) rfl rfl (fun _ => rfl) ?_
        refine RunC.fin ?_
        refine AWP.cd hR rfl (fun h7 hR => ?_) fun h7 hR => ?_
        · refine AWP.sq ?_
          refine AWP.rgC 57 rfl rfl ?_
          refine ldB (v := .agg _) rfl rfl rfl rfl ti32 rfl rfl ?_
          refine pu (v := .sc _) rfl rfl (fun _ => rfl) ?_
          obtain ⟨r8, hr8, hR⟩ := bindE hR
          refine cls [] rfl rfl cb20 (ok20 (gt s.Stars s3) t _ hr8) (.cons (.agg (.cons (.sc _) (.cons (.sc _) (.cons (.sc _) (.cons (.sc _) (.cons (.sc _) (.cons ldR' (.cons (.sc _) (.cons (.sc _) (.cons (.sc _) (.nil)))))))))) rfl) (.cons (.sc _) (.nil))) (.inr rfl) rfl ?_
          refine pu (v := .sc _) rfl rfl (fun _ => rfl) ?_
          refine pu (v := .sc _) rfl rfl (fun _ => rfl) ?_
          refine RunC.fin ?_
          refine AWP.ret ?_
          refine rtB ?_
          refine rtT ?_
          refine rtT ?_
          refine rtB (rtT ?_)
          replace hR := escL hR hE3
          refine rtT ?_
          have hR := Option.some.inj hR; subst hR
          exact hQ _ _ (LS.mk [(6, .sc (.int .i64 r8)), (7, .sc (.int .i64 0))] (lblks 0 []) 0) (.tup [.sc (.int .i64 r8), .sc (.int .i64 0)]) [] (.inr rfl) (Weak.turnL [] [] rfl rfl (tc (.sc _) (tc (.sc _) tn)) mn) (ro2 (rvT (v := .sc (.int .i64 r8)) rfl) (rvT (v := .sc (.int .i64 0)) rfl)) rfl rfl (.tup (.cons (.sc _) (.cons (.sc _) .nil))) pn
        · refine AWP.skip ?_
          refine skB ?_
          refine skT ?_
          refine AWP.rgC 45 rfl rfl ?_
          refine pu (v := .sc _) rfl rfl (fun _ => rfl) ?_
          refine pu (v := .sc _) rfl rfl (fun _ => rfl) ?_
          refine RunC.fin ?_
          refine ⟨(w6 (s3 + 1)), (Option.some.inj hR).symm, ?_⟩
          exact Weak.turnL [(0, 0)] [] rfl rfl (tc (.sc _) (tc (.sc _) (tc (trP' rfl rfl rfl rfl) (tc trR1 (tc (.sc _) (tc (.sc _) tn)))))) (mc rfl (.box rfl (.cons (.sc _) (.cons trR1 (.cons trR1 (.cons trR1 (.cons (.sc _) (.cons (.sc _) (.cons (.sc _) (.cons (.sc _) (.cons (.sc _) (.cons (.sc _) (.cons (.sc _) (.cons (.sc _) (.nil))))))))))))) rfl) mn)
      · refine AWP.exit ?_
        refine exT ?_
        refine exT ?_
        refine exH (skT ?_)
        refine ⟨(), (Option.some.inj hR).symm, ?_⟩
        exact Weak.turnL [(0, 0)] [] rfl rfl (tc (.sc _) (tc (trP' rfl rfl rfl rfl) tn)) (mc rfl (.box rfl (.cons (.sc _) (.cons trR1 (.cons trR1 (.cons trR1 (.cons (.sc _) (.cons (.sc _) (.cons (.sc _) (.cons (.sc _) (.cons (.sc _) (.cons (.sc _) (.cons (.sc _) (.cons (.sc _) (.nil))))))))))))) rfl) mn)
    · refine skT ?_
      refine AWP.sq ?_
      refine AWP.sq ?_
      refine AWP.rgC 17 rfl rfl ?_
      refine fa rfl rfl ti54 rfl rfl ti49 rfl ?_
      refine ldB (v := rowV _ s.Galaxies) rfl rfl rfl rfl ti49 rfl rfl ?_
      refine lenL (α := Galaxy) rfl rfl ti49 rfl ?_
      refine pu (v := .sc _) rfl rfl (fun _ => rfl) ?_
      refine RunC.fin ?_
      refine AWP.loopK' (fun s9 : Int => LS.mk [(1, .sc (.int .i64 id_)), (3, .ptr 0 0 0), (37, rowV (α := Galaxy) false s.Galaxies), (38, .sc (.int .i64 (s.Galaxies.length : Int))), (39, .sc (.int .i64 s9))] (lblks 0 [boxB (α := Sky) false s]) 1) (fun z10 : Unit => LS.mk [(1, .sc (.int .i64 id_)), (3, .ptr 0 0 0)] (lblks 0 [boxB (α := Sky) false s]) 1) (sky_Rate.l2 s id_) hR (s0 := 0) (Weak.turnL [(0, 0)] [] rfl rfl (tc (.sc _) (tc (trP' rfl rfl rfl rfl) (tc trR1 (tc (.sc _) (tc (.sc _) tn))))) (mc rfl (.box rfl (.cons (.sc _) (.cons trR1 (.cons trR1 (.cons trR1 (.cons (.sc _) (.cons (.sc _) (.cons (.sc _) (.cons (.sc _) (.cons (.sc _) (.cons (.sc _) (.cons (.sc _) (.cons (.sc _) (.nil))))))))))))) rfl) mn)) (fun s9 o9 hR hE9 => ?_) fun z10 hR => ?_
      · unfold sky_Rate.l2 at hR
        refine AWP.sq ?_
        refine AWP.rgC 5 rfl rfl ?_
        refine pu (v := .sc _) rfl rfl (fun _ => rfl) ?_
        refine RunC.fin ?_
        refine AWP.sq ?_
        refine AWP.cd hR rfl (fun h11 hR => ?_) fun h11 hR => ?_
        · refine AWP.skip ?_
          refine skT ?_
          refine AWP.sq ?_
          refine AWP.block ?_
          refine AWP.sq ?_
          refine AWP.rgC 21 rfl rfl ?_
          obtain ⟨h12, hR⟩ := chkE hR
          refine ixL (α := Galaxy) rfl rfl rfl ti49 rfl ti74 rfl h12 ?_
          refine ldR (v := .agg _) rfl rfl ti74 rfl ?_
          refine al (cs := [.sc (.int .i64 0), .sc (.int .i64 0), .sc (.int .i64 0), .sc (.int .i64 0), .sc (.int .i64 0), .sc (.int .i64 0), .sc (.int .i64 0)]) 13 rfl rfl ti74 rfl rfl ?_
          refine stB (cs' := [.sc (.int .i64 (gt s.Galaxies s9).ID), .sc (.int .i64 (gt s.Galaxies s9).At.X), .sc (.int .i64 (gt s.Galaxies s9).At.Y), .sc (.int .i64 (gt s.Galaxies s9).At.Z), .sc (.int .i64 (gt s.Galaxies s9).Rate), .sc (.int .i64 (gt s.Galaxies s9).Wide), .sc (.int .i64 (gt s.Galaxies s9).High)]) rfl rfl rfl rfl ti74 rfl rfl rfl rfl rfl ?_
          refine RunC.fin ?_
          refine AWP.sq ?_
          refine AWP.rgC 37 rfl rfl ?_
          refine fa rfl rfl ti74 rfl rfl ti3 rfl ?_
          refine ldB (v := .sc _) rfl rfl rfl rfl ti3 rfl rfl ?_
          refine pu (v := .sc _) rfl rfl (fun _ => rfl) ?_
          refine pu (v := .sc _) rfl rfl (fun _ => rfl) ?_
          refine RunC.fin ?_
          refine AWP.cd hR rfl (fun h13 hR => ?_) fun h13 hR => ?_
          · refine AWP.sq ?_
            refine AWP.rgC 53 rfl rfl ?_
            refine fa rfl rfl ti74 rfl rfl ti28 rfl ?_
            refine ldB (v := .sc _) rfl rfl rfl rfl ti28 rfl rfl ?_
            refine pu (v := .sc _) rfl rfl (fun _ => rfl) ?_
            refine pu (v := .sc _) rfl rfl (fun _ => rfl) ?_
            refine RunC.fin ?_
            refine AWP.ret ?_
            refine rtB ?_
            refine rtT ?_
            refine rtT ?_
            refine rtB (rtT ?_)
            replace hR := escL hR hE9
            refine rtT ?_
            have hR := Option.some.inj hR; subst hR
            exact hQ _ _ (LS.mk [(6, .sc (.int .i64 (gt s.Galaxies s9).Rate)), (7, .sc (.int .i64 0))] (lblks 0 []) 0) (.tup [.sc (.int .i64 (gt s.Galaxies s9).Rate), .sc (.int .i64 0)]) [] (.inr rfl) (Weak.turnL [] [] rfl rfl (tc (.sc _) (tc (.sc _) tn)) mn) (ro2 (rvT (v := .sc (.int .i64 (gt s.Galaxies s9).Rate)) rfl) (rvT (v := .sc (.int .i64 0)) rfl)) rfl rfl (.tup (.cons (.sc _) (.cons (.sc _) .nil))) pn
          · refine AWP.skip ?_
            refine skB ?_
            refine skT ?_
            refine AWP.rgC 45 rfl rfl ?_
            refine pu (v := .sc _) rfl rfl (fun _ => rfl) ?_
            refine pu (v := .sc _) rfl rfl (fun _ => rfl) ?_
            refine RunC.fin ?_
            refine ⟨(w6 (s9 + 1)), (Option.some.inj hR).symm, ?_⟩
            exact Weak.turnL [(0, 0)] [] rfl rfl (tc (.sc _) (tc (trP' rfl rfl rfl rfl) (tc trR1 (tc (.sc _) (tc (.sc _) tn))))) (mc rfl (.box rfl (.cons (.sc _) (.cons trR1 (.cons trR1 (.cons trR1 (.cons (.sc _) (.cons (.sc _) (.cons (.sc _) (.cons (.sc _) (.cons (.sc _) (.cons (.sc _) (.cons (.sc _) (.cons (.sc _) (.nil))))))))))))) rfl) mn)
        · refine AWP.exit ?_
          refine exT ?_
          refine exT ?_
          refine exH (skT ?_)
          refine ⟨(), (Option.some.inj hR).symm, ?_⟩
          exact Weak.turnL [(0, 0)] [] rfl rfl (tc (.sc _) (tc (trP' rfl rfl rfl rfl) tn)) (mc rfl (.box rfl (.cons (.sc _) (.cons trR1 (.cons trR1 (.cons trR1 (.cons (.sc _) (.cons (.sc _) (.cons (.sc _) (.cons (.sc _) (.cons (.sc _) (.cons (.sc _) (.cons (.sc _) (.cons (.sc _) (.nil))))))))))))) rfl) mn)
      · refine skT ?_
        refine AWP.sq ?_
        refine AWP.sq ?_
        refine AWP.rgC 17 rfl rfl ?_
        refine fa rfl rfl ti54 rfl rfl ti50 rfl ?_
        refine ldB (v := rowV _ s.Bodies) rfl rfl rfl rfl ti50 rfl rfl ?_
        refine lenL (α := Body) rfl rfl ti50 rfl ?_
        refine pu (v := .sc _) rfl rfl (fun _ => rfl) ?_
        refine RunC.fin ?_
        refine AWP.loopK' (fun s14 : Int => LS.mk [(1, .sc (.int .i64 id_)), (51, rowV (α := Body) false s.Bodies), (52, .sc (.int .i64 (s.Bodies.length : Int))), (53, .sc (.int .i64 s14))] (lblks 0 []) 0) (fun z15 : Unit => LS.mk [] (lblks 0 []) 0) (sky_Rate.l3 s id_) hR (s0 := 0) (Weak.turnL [] [] rfl rfl (tc (.sc _) (tc trR1 (tc (.sc _) (tc (.sc _) tn)))) mn) (fun s14 o14 hR hE14 => ?_) fun z15 hR => ?_
        · unfold sky_Rate.l3 at hR
          refine AWP.sq ?_
          refine AWP.rgC 4 rfl rfl ?_
          refine pu (v := .sc _) rfl rfl (fun _ => rfl) ?_
          refine RunC.fin ?_
          refine AWP.sq ?_
          refine AWP.cd hR rfl (fun h16 hR => ?_) fun h16 hR => ?_
          · refine AWP.skip ?_
            refine skT ?_
            refine AWP.sq ?_
            refine AWP.block ?_
            refine AWP.sq ?_
            refine AWP.rgC 20 rfl rfl ?_
            obtain ⟨h17, hR⟩ := chkE hR
            refine ixL (α := Body) rfl rfl rfl ti50 rfl ti52 rfl h17 ?_
            refine ldR (v := .agg _) rfl rfl ti52 rfl ?_
            refine al (cs := [.sc (.int .i64 0), .sc (.int .i64 0), .sc (.int .i64 0), .sc (.int .i64 0), .sc (.int .i64 0), .sc (.int .i64 0), .sc (.int .i64 0), .sc (.int .i64 0)]) 12 rfl rfl ti52 rfl rfl ?_
            refine stB (cs' := [.sc (.int .i64 (gt s.Bodies s14).ID), .sc (.int .i64 (gt s.Bodies s14).Was.X), .sc (.int .i64 (gt s.Bodies s14).Was.Y), .sc (.int .i64 (gt s.Bodies s14).Was.Z), .sc (.int .i64 (gt s.Bodies s14).Here.X), .sc (.int .i64 (gt s.Bodies s14).Here.Y), .sc (.int .i64 (gt s.Bodies s14).Here.Z), .sc (.int .i64 (gt s.Bodies s14).Rate)]) rfl rfl rfl rfl ti52 rfl rfl rfl rfl rfl ?_
            refine RunC.fin ?_
            refine AWP.sq ?_
            refine AWP.rgC 36 rfl rfl ?_
            refine fa rfl rfl ti52 rfl rfl ti3 rfl ?_
            refine ldB (v := .sc _) rfl rfl rfl rfl ti3 rfl rfl ?_
            refine pu (v := .sc _) rfl rfl (fun _ => rfl) ?_
            refine pu (v := .sc _) rfl rfl (fun _ => rfl) ?_
            refine RunC.fin ?_
            refine AWP.cd hR rfl (fun h18 hR => ?_) fun h18 hR => ?_
            · refine AWP.sq ?_
              refine AWP.rgC 52 rfl rfl ?_
              refine fa rfl rfl ti52 rfl rfl ti28 rfl ?_
              refine ldB (v := .sc _) rfl rfl rfl rfl ti28 rfl rfl ?_
              refine pu (v := .sc _) rfl rfl (fun _ => rfl) ?_
              refine pu (v := .sc _) rfl rfl (fun _ => rfl) ?_
              refine RunC.fin ?_
              refine AWP.ret ?_
              refine rtB ?_
              refine rtT ?_
              refine rtT ?_
              refine rtB (rtT ?_)
              replace hR := escL hR hE14
              refine rtT ?_
              have hR := Option.some.inj hR; subst hR
              exact hQ _ _ (LS.mk [(6, .sc (.int .i64 (gt s.Bodies s14).Rate)), (7, .sc (.int .i64 0))] (lblks 0 []) 0) (.tup [.sc (.int .i64 (gt s.Bodies s14).Rate), .sc (.int .i64 0)]) [] (.inr rfl) (Weak.turnL [] [] rfl rfl (tc (.sc _) (tc (.sc _) tn)) mn) (ro2 (rvT (v := .sc (.int .i64 (gt s.Bodies s14).Rate)) rfl) (rvT (v := .sc (.int .i64 0)) rfl)) rfl rfl (.tup (.cons (.sc _) (.cons (.sc _) .nil))) pn
            · refine AWP.skip ?_
              refine skB ?_
              refine skT ?_
              refine AWP.rgC 44 rfl rfl ?_
              refine pu (v := .sc _) rfl rfl (fun _ => rfl) ?_
              refine pu (v := .sc _) rfl rfl (fun _ => rfl) ?_
              refine RunC.fin ?_
              refine ⟨(w6 (s14 + 1)), (Option.some.inj hR).symm, ?_⟩
              exact Weak.turnL [] [] rfl rfl (tc (.sc _) (tc trR1 (tc (.sc _) (tc (.sc _) tn)))) mn
          · refine AWP.exit ?_
            refine exT ?_
            refine exT ?_
            refine exH (skT ?_)
            refine ⟨(), (Option.some.inj hR).symm, ?_⟩
            exact Weak.turnL [] [] rfl rfl tn mn
        · refine skT ?_
          refine AWP.sq ?_
          refine AWP.rgC 8 rfl rfl ?_
          refine pu (v := .sc _) rfl rfl (fun _ => rfl) ?_
          refine pu (v := .sc _) rfl rfl (fun _ => rfl) ?_
          refine RunC.fin ?_
          refine AWP.ret ?_
          have hR := Option.some.inj hR; subst hR
          exact hQ _ _ (LS.mk [(6, .sc (.int .i64 0)), (7, .sc (.int .i64 8))] (lblks 0 []) 0) (.tup [.sc (.int .i64 0), .sc (.int .i64 8)]) [] (.inr rfl) (Weak.turnL [] [] rfl rfl (tc (.sc _) (tc (.sc _) tn)) mn) (ro2 (rvT (v := .sc (.int .i64 0)) rfl) (rvT (v := .sc (.int .i64 8)) rfl)) rfl rfl (.tup (.cons (.sc _) (.cons (.sc _) .nil))) pn
theorem ok9 (s : spymake_Stream) (n : Int) (r : Int × spymake_Stream) (hR : Stream_Next s n = some r) : FnD Try.prog 9 [boxB false s] [.ptr 0 0 0, .sc (.int .i64 n)] (.sc (.int .i64 r.1)) [boxB false r.2] := by
  refine FnX.walk Try.func9 rfl 64 1 (by simp [Try.ntmps9]) rfl fun W S F Q hQ => ?_
  unfold Stream_Next at hR
  refine AWP.sq ?_
  refine AWP.rgC 5 rfl rfl ?_
  refine pu (v := .sc _) rfl rfl (fun _ => rfl) ?_
  refine RunC.fin ?_
  refine AWP.sq ?_
  refine AWP.rgC 37 rfl rfl ?_
  refine pu (v := .ptr _ _ _) rfl rfl (fun _ => rfl) ?_
  refine pu (v := .ptr _ _ _) rfl rfl (fun _ => rfl) ?_
  refine fa rfl rfl ti25 rfl rfl ti3 rfl ?_
  refine ldB (v := .sc _) rfl rfl rfl rfl ti3 rfl rfl ?_
  refine pu (v := .sc _) rfl rfl (fun _ => rfl) ?_
  refine pu (v := .ptr _ _ _) rfl rfl (fun _ => rfl) ?_
  refine fa rfl rfl ti25 rfl rfl ti3 rfl ?_
  refine stB (cs' := [rowV (α := Int) false s.L, .sc (.int .i64 (w6 (s.at_ + 1)))]) rfl rfl rfl rfl ti3 rfl rfl rfl rfl rfl ?_
  refine RunC.fin ?_
  refine AWP.sq ?_
  refine AWP.sq ?_
  refine AWP.rgC 61 rfl rfl ?_
  refine pu (v := .ptr _ _ _) rfl rfl (fun _ => rfl) ?_
  refine pu (v := .ptr _ _ _) rfl rfl (fun _ => rfl) ?_
  refine fa rfl rfl ti25 rfl rfl ti22 rfl ?_
  refine ldB (v := rowV _ s.L) rfl rfl rfl rfl ti22 rfl rfl ?_
  refine lenL (α := Int) rfl rfl ti22 rfl ?_
  refine pu (v := .sc _) rfl rfl (fun _ => rfl) ?_
  refine RunC.fin ?_
  refine AWP.cd hR rfl (fun h1 hR => ?_) fun h1 hR => ?_
  · refine AWP.sq ?_
    refine AWP.rgC 93 rfl rfl ?_
    refine pu (v := .ptr _ _ _) rfl rfl (fun _ => rfl) ?_
    refine pu (v := .ptr _ _ _) rfl rfl (fun _ => rfl) ?_
    refine fa rfl rfl ti25 rfl rfl ti3 rfl ?_
    refine ldB (v := .sc _) rfl rfl rfl rfl ti3 rfl rfl ?_
    refine pu (v := .sc _) rfl rfl (fun _ => rfl) ?_
    refine pu (v := .sc _) rfl rfl (fun _ => rfl) ?_
    obtain ⟨r2, hr2, hR⟩ := bindE hR
    refine cls [] rfl rfl cb18 (ok18 (w6 ((w6 (s.at_ + 1)) * 7919)) n _ hr2) (.cons (.sc _) (.cons (.sc _) (.nil))) (.inr rfl) rfl ?_
    refine pu (v := .sc _) rfl rfl (fun _ => rfl) ?_
    refine RunC.fin ?_
    refine AWP.ret ?_
    refine rtT ?_
    have hR := Option.some.inj hR; subst hR
    exact hQ _ _ (LS.mk [(4, .sc (.int .i64 r2))] (lblks 0 [boxB (α := spymake_Stream) false (spymake_Stream.mk s.L (w6 (s.at_ + 1)))]) 1) (.sc (.int .i64 r2)) [] (.inr rfl) (Weak.turnL [(0, 0)] [] rfl rfl (tc (.sc _) tn) (mc rfl (.box rfl (.cons trR1 (.cons (.sc _) (.nil))) rfl) mn)) (ro1 (rvT (v := .sc (.int .i64 r2)) rfl)) rfl rfl (.sc _) (pc rfl bldB pn)
  · refine AWP.skip ?_
    refine skT ?_
    refine AWP.sq ?_
    refine AWP.rgD 109 [0, 1, 3, 7, 15, 0, 32, 96, 224, 480, 1023, 2047] ⟨[], [none, none, none, some [0], none, none, none, none, some [0], none, none, none]⟩ hmix (by kernel_rfl) rfl rfl ?_
    refine pu (v := .ptr _ _ _) rfl rfl (fun _ => rfl) ?_
    refine pu (v := .ptr _ _ _) rfl rfl (fun _ => rfl) ?_
    refine fa rfl rfl ti25 rfl rfl ti3 rfl ?_
    refine ldB (v := .sc _) rfl rfl rfl rfl ti3 rfl rfl ?_
    refine pu (v := .sc _) rfl rfl (fun _ => rfl) ?_
    refine pu (v := .ptr _ _ _) rfl rfl (fun _ => rfl) ?_
    refine pu (v := .ptr _ _ _) rfl rfl (fun _ => rfl) ?_
    refine fa rfl rfl ti25 rfl rfl ti22 rfl ?_
    refine ldB (v := rowV _ s.L) rfl rfl rfl rfl ti22 rfl rfl ?_
    refine lenL (α := Int) rfl rfl ti22 rfl ?_
    obtain ⟨h3, hR⟩ := chkE hR
    refine rm rfl rfl rfl h3 rfl ?_
    refine pu (v := .sc _) rfl rfl (fun _ => rfl) ?_
    refine RunC.fin ?_
    refine AWP.sq ?_
    refine AWP.rgD 157 [0, 1, 3, 7, 15, 0, 32, 96, 224, 480, 1023, 2047] ⟨[], [none, none, none, some [0], none, none, none, none, some [0], none, none, none]⟩ hmix (by kernel_rfl) rfl rfl ?_
    refine pu (v := .ptr _ _ _) rfl rfl (fun _ => rfl) ?_
    refine pu (v := .ptr _ _ _) rfl rfl (fun _ => rfl) ?_
    refine fa rfl rfl ti25 rfl rfl ti3 rfl ?_
    refine ldB (v := .sc _) rfl rfl rfl rfl ti3 rfl rfl ?_
    refine pu (v := .sc _) rfl rfl (fun _ => rfl) ?_
    refine pu (v := .ptr _ _ _) rfl rfl (fun _ => rfl) ?_
    refine pu (v := .ptr _ _ _) rfl rfl (fun _ => rfl) ?_
    refine fa rfl rfl ti25 rfl rfl ti22 rfl ?_
    refine ldB (v := rowV _ s.L) rfl rfl rfl rfl ti22 rfl rfl ?_
    refine lenL (α := Int) rfl rfl ti22 rfl ?_
    refine qu rfl rfl rfl h3 rfl ?_
    refine pu (v := .sc _) rfl rfl (fun _ => rfl) ?_
    refine RunC.fin ?_
    refine AWP.sq ?_
    refine AWP.rgC 221 rfl rfl ?_
    refine pu (v := .ptr _ _ _) rfl rfl (fun _ => rfl) ?_
    refine pu (v := .ptr _ _ _) rfl rfl (fun _ => rfl) ?_
    refine fa rfl rfl ti25 rfl rfl ti22 rfl ?_
    refine ldB (v := rowV _ s.L) rfl rfl rfl rfl ti22 rfl rfl ?_
    refine pu (v := .sc _) rfl rfl (fun _ => rfl) ?_
    obtain ⟨h4, hR⟩ := chkE hR
    refine ixL (α := Int) rfl rfl rfl ti22 rfl ti3 rfl h4 ?_
    refine ldR (v := .sc _) rfl rfl ti3 rfl ?_
    obtain ⟨r5, hr5, hR⟩ := bindE hR
    refine cls [] rfl rfl cb18 (ok18 (gt s.L (Int.tmod (w6 ((w6 (s.at_ + 1)) - 1)) (s.L.length : Int))) 1073741824 _ hr5) (.cons (.sc _) (.cons (.sc _) (.nil))) (.inr rfl) rfl ?_
    refine pu (v := .sc _) rfl rfl (fun _ => rfl) ?_
    refine pu (v := .sc _) rfl rfl (fun _ => rfl) ?_
    obtain ⟨v6, ev6, hR⟩ := letE hR
    refine pu (v := .sc _) rfl rfl (fun _ => puI ev6) ?_
    obtain ⟨v7, ev7, hR⟩ := letE hR
    refine pu (v := .sc _) rfl rfl (fun _ => puI ev7) ?_
    refine pu (v := .sc _) rfl rfl (fun _ => rfl) ?_
    refine pu (v := .sc _) rfl rfl (fun _ => rfl) ?_
    obtain ⟨r8, hr8, hR⟩ := bindE hR
    refine cls [] rfl rfl cb18 (ok18 (w6 (r5 + v7)) n _ hr8) (.cons (.sc _) (.cons (.sc _) (.nil))) (.inr rfl) rfl ?_
    refine pu (v := .sc _) rfl rfl (fun _ => rfl) ?_
    refine RunC.fin ?_
    refine AWP.ret ?_
    have hR := Option.some.inj hR; subst hR
    exact hQ _ _ (LS.mk [(4, .sc (.int .i64 r8))] (lblks 0 [boxB (α := spymake_Stream) false (spymake_Stream.mk s.L (w6 (s.at_ + 1)))]) 1) (.sc (.int .i64 r8)) [] (.inr rfl) (Weak.turnL [(0, 0)] [] rfl rfl (tc (.sc _) tn) (mc rfl (.box rfl (.cons trR1 (.cons (.sc _) (.nil))) rfl) mn)) (ro1 (rvT (v := .sc (.int .i64 r8)) rfl)) rfl rfl (.sc _) (pc rfl bldB pn)
theorem ok10 (s : spymake_Stream) (low : Int) (high : Int) (r : Int × spymake_Stream) (hR : Stream_Range s low high = some r) : FnD Try.prog 10 [boxB false s] [.ptr 0 0 0, .sc (.int .i64 low), .sc (.int .i64 high)] (.sc (.int .i64 r.1)) [boxB false r.2] := by
  refine FnX.walk Try.func10 rfl 19 1 (by simp [Try.ntmps10]) rfl fun W S F Q hQ => ?_
  unfold Stream_Range at hR
  refine AWP.sq ?_
  refine AWP.rgC 5 rfl rfl ?_
  refine pu (v := .sc _) rfl rfl (fun _ => rfl) ?_
  refine RunC.fin ?_
  refine AWP.sq ?_
  refine AWP.sq ?_
  refine AWP.rgC 17 rfl rfl ?_
  refine pu (v := .sc _) rfl rfl (fun _ => rfl) ?_
  refine pu (v := .sc _) rfl rfl (fun _ => rfl) ?_
  refine pu (v := .sc _) rfl rfl (fun _ => rfl) ?_
  refine RunC.fin ?_
  refine AWP.cd hR rfl (fun h1 hR => ?_) fun h1 hR => ?_
  · refine AWP.sq ?_
    refine AWP.rgC 25 rfl rfl ?_
    refine pu (v := .sc _) rfl rfl (fun _ => rfl) ?_
    refine pu (v := .sc _) rfl rfl (fun _ => rfl) ?_
    refine RunC.fin ?_
    refine AWP.ret ?_
    refine rtT ?_
    have hR := Option.some.inj hR; subst hR
    exact hQ _ _ (LS.mk [(6, .sc (.int .i64 low))] (lblks 0 [boxB (α := spymake_Stream) false s]) 1) (.sc (.int .i64 low)) [] (.inr rfl) (Weak.turnL [(0, 0)] [] rfl rfl (tc (.sc _) tn) (mc rfl (.box rfl (.cons trR1 (.cons (.sc _) (.nil))) rfl) mn)) (ro1 (rvT (v := .sc (.int .i64 low)) rfl)) rfl rfl (.sc _) (pc rfl bldB pn)
  · refine AWP.skip ?_
    refine skT ?_
    refine AWP.sq ?_
    refine AWP.rgC 53 rfl rfl ?_
    refine pu (v := .sc _) rfl rfl (fun _ => rfl) ?_
    refine pu (v := .ptr _ _ _) rfl rfl (fun _ => rfl) ?_
    refine pu (v := .sc _) rfl rfl (fun _ => rfl) ?_
    refine pu (v := .sc _) rfl rfl (fun _ => rfl) ?_
    refine pu (v := .sc _) rfl rfl (fun _ => rfl) ?_
    refine pu (v := .sc _) rfl rfl (fun _ => rfl) ?_
    obtain ⟨r2, hr2, hR⟩ := bindE hR
    refine cps (res' := .sc (.int .i64 r2.1)) (ups := [(0, boxB (α := spymake_Stream) false r2.2)]) [0] 41 rfl rfl rfl cb9 (ok9 s (w6 ((w6 (high - low)) + 1)) _ hr2) (.cons (ldP rfl rfl) (.cons (.sc _) (.nil))) (pc rfl (.box (.cons ldR' (.cons (.sc _) (.nil))) rfl) pn) rfl rfl rfl rfl rfl (by first | rfl | exact renR | exact renA | exact renS | simp only [V.ren, V.rens, renR, renA, renS] | (simp only [V.ren, V.rens, renR, renA, renS]; rfl)) (by simp only [passUps, renBox, renArr]; rfl) ?_
    refine pu (v := .sc _) rfl rfl (fun _ => rfl) ?_
    refine pu (v := .sc _) rfl rfl (fun _ => rfl) ?_
    refine RunC.fin ?_
    refine AWP.ret ?_
    have hR := Option.some.inj hR; subst hR
    exact hQ _ _ (LS.mk [(6, .sc (.int .i64 (w6 (low + r2.1))))] (lblks 0 [boxB (α := spymake_Stream) false r2.2]) 1) (.sc (.int .i64 (w6 (low + r2.1)))) [] (.inr rfl) (Weak.turnL [(0, 0)] [] rfl rfl (tc (.sc _) tn) (mc rfl (.box rfl (.cons trR1 (.cons (.sc _) (.nil))) rfl) mn)) (ro1 (rvT (v := .sc (.int .i64 (w6 (low + r2.1)))) rfl)) rfl rfl (.sc _) (pc rfl bldB pn)
theorem ok8 (r : Bool) (hR : spykeep4_phased = some r) : FnP Try.prog 8 [] (.sc (.bool r)) := by
  refine fnP_of (FnX.walk Try.func8 rfl 27 0 (by simp [Try.ntmps8]) rfl fun W S F Q hQ => ?_)
  unfold spykeep4_phased at hR
  refine AWP.sq ?_
  refine AWP.rgC 4 rfl rfl ?_
  refine pu (v := .sc _) rfl rfl (fun _ => rfl) ?_
  refine RunC.fin ?_
  refine AWP.sq ?_
  refine AWP.rgC 32 rfl rfl ?_
  refine bu (cs := [.sc (.int .i64 (-1)), .sc (.int .i64 (-1)), .sc (.bool false)]) rfl bt58 rfl ?_
  obtain ⟨r1, hr1, hR⟩ := bindE hR
  refine cls [] rfl rfl cb17 (ok17 (Bound.mk (-1) (-1) false) 6 3 _ hr1) (.cons (.agg (.cons (.sc _) (.cons (.sc _) (.cons (.sc _) (.nil)))) rfl) (.cons (.sc _) (.cons (.sc _) (.nil)))) (.inr rfl) rfl ?_
  refine pu (v := .tup _) rfl rfl (fun _ => rfl) ?_
  refine pu (v := .sc _) rfl rfl (fun _ => rfl) ?_
  refine pu (v := .sc _) rfl rfl (fun _ => rfl) ?_
  refine pu (v := .sc _) rfl rfl (fun _ => rfl) ?_
  refine pu (v := .sc _) rfl rfl (fun _ => rfl) ?_
  refine RunC.fin ?_
  refine AWP.sq ?_
  refine AWP.rgC 60 rfl rfl ?_
  refine bu (cs := [.sc (.int .i64 8), .sc (.int .i64 9), .sc (.bool false)]) rfl bt58 rfl ?_
  obtain ⟨r2, hr2, hR⟩ := bindE hR
  refine cls [] rfl rfl cb17 (ok17 (Bound.mk 8 9 false) 6 3 _ hr2) (.cons (.agg (.cons (.sc _) (.cons (.sc _) (.cons (.sc _) (.nil)))) rfl) (.cons (.sc _) (.cons (.sc _) (.nil)))) (.inr rfl) rfl ?_
  refine pu (v := .tup _) rfl rfl (fun _ => rfl) ?_
  refine pu (v := .sc _) rfl rfl (fun _ => rfl) ?_
  refine pu (v := .sc _) rfl rfl (fun _ => rfl) ?_
  refine pu (v := .sc _) rfl rfl (fun _ => rfl) ?_
  refine pu (v := .sc _) rfl rfl (fun _ => rfl) ?_
  refine RunC.fin ?_
  refine AWP.joinX (fun z3 : Bool => LS.mk [(0, .sc (.bool z3))] (lblks 0 []) 0) hR (fun o3 hR => ?_) fun z3 hR => ?_
  · refine AWP.rgC 112 rfl rfl ?_
    refine pu (v := .sc _) rfl rfl (fun _ => rfl) ?_
    refine pu (v := .sc _) rfl rfl (fun _ => rfl) ?_
    refine brR hR (fun h4 hR => ?_) fun h4 hR => ?_
    · refine pu (v := .sc _) (wtG rfl rfl rfl h4) rfl (fun _ => rfl) ?_
      refine pkT (v := .sc (.bool r2.2)) rfl rfl h4 rfl ?_
      refine pu (v := .sc _) rfl rfl (fun _ => rfl) ?_
      refine brR hR (fun h5 hR => ?_) fun h5 hR => ?_
      · refine pu (v := .sc _) (wtG rfl rfl rfl h5) rfl (fun _ => rfl) ?_
        refine pu (v := .sc _) (wtG rfl rfl rfl h5) rfl (fun _ => rfl) ?_
        refine pkT (v := .sc (.bool (r1.1 == 2))) rfl rfl h5 rfl ?_
        refine pu (v := .sc _) rfl rfl (fun _ => rfl) ?_
        refine brR hR (fun h6 hR => ?_) fun h6 hR => ?_
        · refine pu (v := .sc _) (wtG rfl rfl rfl h6) rfl (fun _ => rfl) ?_
          refine pu (v := .sc _) (wtG rfl rfl rfl h6) rfl (fun _ => rfl) ?_
          refine pkT (v := .sc (.bool (r2.1 == 1))) rfl rfl h6 rfl ?_
          refine pu (v := .sc _) rfl rfl (fun _ => rfl) ?_
          refine RunC.fin ?_
          have hR := Option.some.inj hR; subst hR
          exact Weak.turnL [] [] rfl rfl (tc (.sc _) tn) mn
        · refine sk (skW rfl rfl rfl h6) ?_
          refine sk (skW rfl rfl rfl h6) ?_
          refine pkF (v := .sc (.bool false)) rfl rfl h6 rfl ?_
          refine pu (v := .sc _) rfl rfl (fun _ => rfl) ?_
          refine RunC.fin ?_
          have hR := Option.some.inj hR; subst hR
          exact Weak.turnL [] [] rfl rfl (tc (.sc _) tn) mn
      · refine sk (skW rfl rfl rfl h5) ?_
        refine sk (skW rfl rfl rfl h5) ?_
        refine pkF (v := .sc (.bool false)) rfl rfl h5 rfl ?_
        refine pu (v := .sc _) rfl rfl (fun _ => rfl) ?_
        refine sk (skW rfl rfl rfl rfl) ?_
        refine sk (skW rfl rfl rfl rfl) ?_
        refine pkF (v := .sc (.bool false)) rfl rfl rfl rfl ?_
        refine pu (v := .sc _) rfl rfl (fun _ => rfl) ?_
        refine RunC.fin ?_
        have hR := Option.some.inj hR; subst hR
        exact Weak.turnL [] [] rfl rfl (tc (.sc _) tn) mn
    · refine sk (skW rfl rfl rfl h4) ?_
      refine pkF (v := .sc (.bool false)) rfl rfl h4 rfl ?_
      refine pu (v := .sc _) rfl rfl (fun _ => rfl) ?_
      refine sk (skW rfl rfl rfl rfl) ?_
      refine sk (skW rfl rfl rfl rfl) ?_
      refine pkF (v := .sc (.bool false)) rfl rfl rfl rfl ?_
      refine pu (v := .sc _) rfl rfl (fun _ => rfl) ?_
      refine sk (skW rfl rfl rfl rfl) ?_
      refine sk (skW rfl rfl rfl rfl) ?_
      refine pkF (v := .sc (.bool false)) rfl rfl rfl rfl ?_
      refine pu (v := .sc _) rfl rfl (fun _ => rfl) ?_
      refine RunC.fin ?_
      have hR := Option.some.inj hR; subst hR
      exact Weak.turnL [] [] rfl rfl (tc (.sc _) tn) mn
  · refine AWP.ret ?_
    have hR := Option.some.inj hR; subst hR
    exact hQ _ _ (LS.mk [(0, .sc (.bool z3))] (lblks 0 []) 0) (.sc (.bool z3)) [] (.inr rfl) (Weak.turnL [] [] rfl rfl (tc (.sc _) tn) mn) (ro1 (rvT (v := .sc (.bool z3)) rfl)) rfl rfl (.sc _) pn
theorem ok7 (l : List curve_Sample) (period : Int) (phases : Int) (r : (List Bound) × Int) (hR : curve_Table l period phases = some r) : FnP Try.prog 7 [rowV false l, .sc (.int .i64 period), .sc (.int .i64 phases)] (.tup [rowV (α := Bound) true r.1, .sc (.int .i64 r.2)]) := by
  refine fnP_of (FnX.walk Try.func7 rfl 59 0 (by simp [Try.ntmps7]) rfl fun W S F Q hQ => ?_)
  unfold curve_Table at hR
  refine AWP.sq ?_
  refine AWP.rgC 8 rfl rfl ?_
  refine pu (v := .sc _) rfl rfl (fun _ => rfl) ?_
  refine pu (v := .sc _) rfl rfl (fun _ => rfl) ?_
  refine RunC.fin ?_
  refine AWP.sq ?_
  refine AWP.rgC 44 rfl rfl ?_
  refine pu (v := rowV _ l) rfl rfl (fun _ => rfl) ?_
  refine pu (v := .sc _) rfl rfl (fun _ => rfl) ?_
  refine pu (v := .sc _) rfl rfl (fun _ => rfl) ?_
  obtain ⟨r1, hr1, hR⟩ := bindE hR
  refine cls [] rfl rfl cb14 (ok14 l period phases _ hr1) (.cons ldR' (.cons (.sc _) (.cons (.sc _) (.nil)))) (.inr rfl) rfl ?_
  refine pu (v := .tup _) rfl rfl (fun _ => rfl) ?_
  refine pu (v := rowV _ r1.1) rfl rfl (fun _ => rfl) ?_
  refine pu (v := .sc _) rfl rfl (fun _ => rfl) ?_
  refine pu (v := rowV _ r1.1) rfl rfl (fun _ => rfl) ?_
  refine pu (v := .sc _) rfl rfl (fun _ => rfl) ?_
  refine RunC.fin ?_
  refine AWP.sq ?_
  refine AWP.sq ?_
  refine AWP.rgC 52 rfl rfl ?_
  refine pu (v := .sc _) rfl rfl (fun _ => rfl) ?_
  refine pu (v := .sc _) rfl rfl (fun _ => rfl) ?_
  refine RunC.fin ?_
  refine AWP.cd hR rfl (fun h2 hR => ?_) fun h2 hR => ?_
  · refine AWP.sq ?_
    refine AWP.rgC 64 rfl rfl ?_
    refine pu (v := .sc _) rfl rfl (fun _ => rfl) ?_
    refine pu (v := .sc _) rfl rfl (fun _ => rfl) ?_
    refine pu (v := .sc _) rfl rfl (fun _ => rfl) ?_
    refine RunC.fin ?_
    refine AWP.ret ?_
    refine rtT ?_
    have hR := Option.some.inj hR; subst hR
    exact hQ _ _ (LS.mk [(6, rowV (α := Bound) true []), (7, .sc (.int .i64 r1.2))] (lblks 0 []) 0) (.tup [rowV (α := Bound) true [], .sc (.int .i64 r1.2)]) [] (.inr rfl) (Weak.turnL [] [] rfl rfl (tc trN (tc (.sc _) tn)) mn) (ro2 (rvT (v := rowV (α := Bound) true []) rfl) (rvT (v := .sc (.int .i64 r1.2)) rfl)) rfl rfl (.tup (.cons ldR' (.cons (.sc _) .nil))) pn
  · refine AWP.skip ?_
    refine skT ?_
    refine AWP.sq ?_
    refine AWP.rgC 56 rfl rfl ?_
    refine pu (v := .sc _) rfl rfl (fun _ => rfl) ?_
    refine RunC.fin ?_
    refine AWP.sq ?_
    refine AWP.sq ?_
    refine AWP.rgC 68 rfl rfl ?_
    refine pu (v := rowV _ r1.1) rfl rfl (fun _ => rfl) ?_
    refine lenL (α := List Int) rfl rfl ti63 rfl ?_
    refine pu (v := .sc _) rfl rfl (fun _ => rfl) ?_
    refine RunC.fin ?_
    refine AWP.nilT Bound 10 44 rfl ?_
    refine AWP.loopK' (fun s3 : (List Bound) × Int => LS.mk [(0, rowV (α := curve_Sample) false l), (10, slV Bound 0 0 0 s3.1.length), (27, rowV (α := List Int) true r1.1), (28, .sc (.int .i64 (r1.1.length : Int))), (29, .sc (.int .i64 s3.2))] (lblks 0 [arrB (α := Bound) 44 0 true s3.1]) 1) (fun z4 : (List Bound) => LS.mk [(10, slV Bound 0 0 0 z4.length)] (lblks 0 [arrB (α := Bound) 44 0 true z4]) 1) (curve_Table.l1 l r1) hR (s0 := (([] : List Bound), 0)) (Weak.turnL [(68, 0)] [] rfl rfl (tc trR1 (tc (trS' rfl rfl rfl rfl rfl) (tc trR1 (tc (.sc _) (tc (.sc _) tn))))) (mc rfl (btrA' rfl) mn)) (fun s3 o3 hR hE3 => ?_) fun z4 hR => ?_
    · unfold curve_Table.l1 at hR
      refine AWP.sq ?_
      refine AWP.rgC 5 rfl rfl ?_
      refine pu (v := .sc _) rfl rfl (fun _ => rfl) ?_
      refine RunC.fin ?_
      refine AWP.sq ?_
      refine AWP.cd hR rfl (fun h5 hR => ?_) fun h5 hR => ?_
      · refine AWP.skip ?_
        refine skT ?_
        refine AWP.sq ?_
        refine AWP.block ?_
        refine AWP.sq ?_
        refine AWP.rgC 17 rfl rfl ?_
        obtain ⟨h6, hR⟩ := chkE hR
        refine ixL (α := List Int) rfl rfl rfl ti63 rfl ti22 rfl h6 ?_
        refine ldR (v := rowV _ (gt r1.1 s3.2)) rfl rfl ti22 rfl ?_
        refine pu (v := rowV _ (gt r1.1 s3.2)) rfl rfl (fun _ => rfl) ?_
        refine RunC.fin ?_
        refine AWP.sq ?_
        refine AWP.rgC 29 rfl rfl ?_
        obtain ⟨r7, hr7, hR⟩ := bindE hR
        refine cls [] rfl rfl cb15 (ok15 _ hr7) (.nil) (.inr rfl) rfl ?_
        refine al (cs := [.sc (.int .i64 0), .sc (.int .i64 0), .sc (.bool false)]) 21 rfl rfl ti44 rfl rfl ?_
        refine stB (cs' := [.sc (.int .i64 r7.Lo), .sc (.int .i64 r7.Hi), .sc (.bool r7.Unknown)]) rfl rfl rfl rfl ti44 rfl rfl rfl rfl rfl ?_
        refine RunC.fin ?_
        refine AWP.sq ?_
        refine AWP.sq ?_
        refine AWP.rgC 41 rfl rfl ?_
        refine pu (v := rowV _ (gt r1.1 s3.2)) rfl rfl (fun _ => rfl) ?_
        refine lenL (α := Int) rfl rfl ti22 rfl ?_
        refine pu (v := .sc _) rfl rfl (fun _ => rfl) ?_
        refine RunC.fin ?_
        refine AWP.loopK' (fun s8 : Bound × Int => LS.mk [(0, rowV (α := curve_Sample) false l), (10, slV Bound 0 0 0 s3.1.length), (13, .ptr 1 0 0), (27, rowV (α := List Int) true r1.1), (28, .sc (.int .i64 (r1.1.length : Int))), (29, .sc (.int .i64 s3.2)), (34, rowV (α := Int) true (gt r1.1 s3.2)), (35, .sc (.int .i64 ((gt r1.1 s3.2).length : Int))), (36, .sc (.int .i64 s8.2))] (lblks 0 [arrB (α := Bound) 44 0 true s3.1, boxB (α := Bound) true s8.1]) 2) (fun z9 : Bound => LS.mk [(0, rowV (α := curve_Sample) false l), (10, slV Bound 0 0 0 s3.1.length), (13, .ptr 1 0 0), (27, rowV (α := List Int) true r1.1), (28, .sc (.int .i64 (r1.1.length : Int))), (29, .sc (.int .i64 s3.2))] (lblks 0 [arrB (α := Bound) 44 0 true s3.1, boxB (α := Bound) true z9]) 2) (curve_Table.l2 l r1 s3) hR (s0 := (r7, 0)) (Weak.turnL [(0, 0), (21, 0)] [] rfl rfl (tc trR1 (tc (trS' rfl rfl rfl rfl rfl) (tc (trP' rfl rfl rfl rfl) (tc trR1 (tc (.sc _) (tc (.sc _) (tc trR1 (tc (.sc _) (tc (.sc _) tn))))))))) (mc rfl (btrA' rfl) (mc rfl (.box rfl (.cons (.sc _) (.cons (.sc _) (.cons (.sc _) (.nil)))) rfl) mn))) (fun s8 o8 hR hE8 => ?_) fun z9 hR => ?_
        · unfold curve_Table.l2 at hR
          refine AWP.sq ?_
          refine AWP.rgC 6 rfl rfl ?_
          refine pu (v := .sc _) rfl rfl (fun _ => rfl) ?_
          refine RunC.fin ?_
          refine AWP.sq ?_
          refine AWP.cd hR rfl (fun h10 hR => ?_) fun h10 hR => ?_
          · refine AWP.skip ?_
            refine skT ?_
            refine AWP.sq ?_
            refine AWP.block ?_
            refine AWP.sq ?_
            refine AWP.rgC 18 rfl rfl ?_
            obtain ⟨h11, hR⟩ := chkE hR
            refine ixL (α := Int) rfl rfl rfl ti22 rfl ti3 rfl h11 ?_
            refine ldR (v := .sc _) rfl rfl ti3 rfl ?_
            refine pu (v := .sc _) rfl rfl (fun _ => rfl) ?_
            refine RunC.fin ?_
            refine AWP.sq ?_
            refine AWP.rgC 22 rfl rfl ?_
            refine pu (v := .sc _) rfl rfl (fun _ => rfl) ?_
            refine RunC.fin ?_
            refine AWP.sq ?_
            refine AWP.rgD 70 [0, 0, 0, 6, 14, 30, 63, 127, 255, 255, 511, 2047] ⟨[], [some [1], none, none, none, none, some [], none, none, none, none, some [1], none]⟩ hmix (by kernel_rfl) rfl rfl ?_
            refine ldB (v := .agg _) rfl rfl rfl rfl ti44 rfl rfl ?_
            refine pu (v := rowV _ l) rfl rfl (fun _ => rfl) ?_
            refine pu (v := .sc _) rfl rfl (fun _ => rfl) ?_
            obtain ⟨h12, hR⟩ := chkE hR
            refine ixL (α := curve_Sample) rfl rfl rfl ti35 rfl ti60 rfl h12 ?_
            refine fr rfl rfl ti60 rfl rfl ti44 rfl ?_
            refine ldR (v := .agg _) rfl rfl ti44 rfl ?_
            obtain ⟨r13, hr13, hR⟩ := bindE hR
            refine cls [] rfl rfl cb16 (ok16 s8.1 (gt l (gt (gt r1.1 s3.2) s8.2)).Light _ hr13) (.cons (.agg (.cons (.sc _) (.cons (.sc _) (.cons (.sc _) (.nil)))) rfl) (.cons (.agg (.cons (.sc _) (.cons (.sc _) (.cons (.sc _) (.nil)))) rfl) (.nil))) (.inr rfl) rfl ?_
            refine pu (v := .tup _) rfl rfl (fun _ => rfl) ?_
            refine pu (v := .agg _) rfl rfl (fun _ => rfl) ?_
            refine pu (v := .sc _) rfl rfl (fun _ => rfl) ?_
            refine stB (cs' := [.sc (.int .i64 r13.1.Lo), .sc (.int .i64 r13.1.Hi), .sc (.bool r13.1.Unknown)]) rfl rfl rfl rfl ti44 rfl rfl rfl rfl rfl ?_
            refine pu (v := .sc _) rfl rfl (fun _ => rfl) ?_
            refine RunC.fin ?_
            refine AWP.sq ?_
            refine AWP.rgC 78 rfl rfl ?_
            refine pu (v := .sc _) rfl rfl (fun _ => rfl) ?_
            refine pu (v := .sc _) rfl rfl (fun _ => rfl) ?_
            refine RunC.fin ?_
            refine AWP.cd hR rfl (fun h14 hR => ?_) fun h14 hR => ?_
            · refine AWP.sq ?_
              refine AWP.rgC 86 rfl rfl ?_
              refine pu (v := .sc _) rfl rfl (fun _ => rfl) ?_
              refine pu (v := .sc _) rfl rfl (fun _ => rfl) ?_
              refine RunC.fin ?_
              refine AWP.ret ?_
              refine rtB ?_
              refine rtT ?_
              refine rtT ?_
              refine rtB (rtT ?_)
              replace hR := escL hR hE8
              refine rtT ?_
              refine rtB ?_
              refine rtT ?_
              refine rtT ?_
              refine rtB (rtT ?_)
              replace hR := escL hR hE3
              refine rtT ?_
              have hR := Option.some.inj hR; subst hR
              exact hQ _ _ (LS.mk [(6, rowV (α := Bound) true []), (7, .sc (.int .i64 15))] (lblks 0 []) 0) (.tup [rowV (α := Bound) true [], .sc (.int .i64 15)]) [] (.inr rfl) (Weak.turnL [] [] rfl rfl (tc trN (tc (.sc _) tn)) mn) (ro2 (rvT (v := rowV (α := Bound) true []) rfl) (rvT (v := .sc (.int .i64 15)) rfl)) rfl rfl (.tup (.cons ldR' (.cons (.sc _) .nil))) pn
            · refine AWP.skip ?_
              refine skB ?_
              refine skT ?_
              refine AWP.rgC 86 rfl rfl ?_
              refine pu (v := .sc _) rfl rfl (fun _ => rfl) ?_
              refine pu (v := .sc _) rfl rfl (fun _ => rfl) ?_
              refine RunC.fin ?_
              refine ⟨(r13.1, w6 (s8.2 + 1)), (Option.some.inj hR).symm, ?_⟩
              exact Weak.turnL [(0, 0), (1, 0)] [] rfl rfl (tc trR1 (tc (trS' rfl rfl rfl rfl rfl) (tc (trP' rfl rfl rfl rfl) (tc trR1 (tc (.sc _) (tc (.sc _) (tc trR1 (tc (.sc _) (tc (.sc _) tn))))))))) (mc rfl (btrA' rfl) (mc rfl (.box rfl (.cons (.sc _) (.cons (.sc _) (.cons (.sc _) (.nil)))) rfl) mn))
          · refine AWP.exit ?_
            refine exT ?_
            refine exT ?_
            refine exH (skT ?_)
            refine ⟨s8.1, (Option.some.inj hR).symm, ?_⟩
            exact Weak.turnL [(0, 0), (1, 0)] [] rfl rfl (tc trR1 (tc (trS' rfl rfl rfl rfl rfl) (tc (trP' rfl rfl rfl rfl) (tc trR1 (tc (.sc _) (tc (.sc _) tn)))))) (mc rfl (btrA' rfl) (mc rfl (.box rfl (.cons (.sc _) (.cons (.sc _) (.cons (.sc _) (.nil)))) rfl) mn))
        · refine skT ?_
          refine AWP.rgC 22 rfl rfl ?_
          refine pu (v := slV Bound _ _ _ _) rfl rfl (fun _ => rfl) ?_
          refine ldB (v := .agg _) rfl rfl rfl rfl ti44 rfl rfl ?_
          refine bs (α := Bound) 10 true ([z9] : List Bound) rfl rfl ti38 rfl ti44 rfl rfl rfl rfl rfl ?_
          obtain ⟨h15, hR⟩ := chkE hR
          refine ap' (α := Bound) (nw := true) (xs := s3.1) (ys := ([z9] : List Bound)) rfl rfl rfl rfl (srcS' rfl rfl rfl) ti38 rfl ti44 rfl h15 rfl ?_
          refine pu (v := slV Bound _ _ _ _) rfl rfl (fun _ => rfl) ?_
          refine RunC.blk ?_
          refine RunC.fin ?_
          refine AWP.rgC 30 rfl rfl ?_
          refine pu (v := .sc _) rfl rfl (fun _ => rfl) ?_
          refine pu (v := .sc _) rfl rfl (fun _ => rfl) ?_
          refine RunC.fin ?_
          refine ⟨(s3.1 ++ ([z9] : List Bound), w6 (s3.2 + 1)), (Option.some.inj hR).symm, ?_⟩
          exact Weak.turnL [(0, 0)] [] rfl rfl (tc trR1 (tc (trS' rfl rfl rfl rfl rfl) (tc trR1 (tc (.sc _) (tc (.sc _) tn))))) (mc rfl (btrA' rfl) mn)
      · refine AWP.exit ?_
        refine exT ?_
        refine exT ?_
        refine exH (skT ?_)
        refine ⟨s3.1, (Option.some.inj hR).symm, ?_⟩
        exact Weak.turnL [(0, 0)] [] rfl rfl (tc (trS' rfl rfl rfl rfl rfl) tn) (mc rfl (btrA' rfl) mn)
    · refine skT ?_
      refine AWP.sq ?_
      refine AWP.rgC 13 rfl rfl ?_
      refine pu (v := slV Bound _ _ _ _) rfl rfl (fun _ => rfl) ?_
      refine pu (v := slV Bound _ _ _ _) rfl rfl (fun _ => rfl) ?_
      refine pu (v := .sc _) rfl rfl (fun _ => rfl) ?_
      refine RunC.fin ?_
      refine AWP.ret ?_
      have hR := Option.some.inj hR; subst hR
      exact hQ _ _ (LS.mk [(6, rowV (α := Bound) true z4), (7, .sc (.int .i64 0))] (lblks 0 []) 0) (.tup [rowV (α := Bound) true z4, .sc (.int .i64 0)]) [] (.inr rfl) (Weak.turnL [] [0] rfl rfl (tc (trF' rfl rfl id rfl) (tc (.sc _) tn)) mn) (ro2 (rvT (v := rowV (α := Bound) true z4) rfl) (rvT (v := .sc (.int .i64 0)) rfl)) rfl rfl (.tup (.cons ldR' (.cons (.sc _) .nil))) pn
theorem ok30 (data : List curve_Sample) (a : Int) (b : Int) (r : (List curve_Sample)) (hR : slices_insertionSortCmpFunc_curve_Sample_spykeep4_samples_1 data a b = some r) : FnD Try.prog 30 [arrB 60 0 false data] [slV curve_Sample 0 0 0 data.length, .sc (.int .i64 a), .sc (.int .i64 b), .fn (.func 13) []] (.tup []) [arrB 60 0 false r] := by
  refine FnX.walk Try.func30 rfl 53 1 (by simp [Try.ntmps30]) rfl fun W S F Q hQ => ?_
  unfold slices_insertionSortCmpFunc_curve_Sample_spykeep4_samples_1 at hR
  refine AWP.sq ?_
  refine AWP.rgC 13 rfl rfl ?_
  refine pu (v := .sc _) rfl rfl (fun _ => rfl) ?_
  refine pu (v := .sc _) rfl rfl (fun _ => rfl) ?_
  refine pu (v := .sc _) rfl rfl (fun _ => rfl) ?_
  refine RunC.fin ?_
  refine AWP.loopJ (fun s1 : (List curve_Sample) × Int => LS.mk [(0, slV curve_Sample 0 0 0 s1.1.length), (1, .sc (.int .i64 a)), (2, .sc (.int .i64 b)), (3, .fn (.func 13) []), (8, .sc (.int .i64 s1.2))] (lblks 0 [arrB (α := curve_Sample) 60 0 false s1.1]) 1) (fun z2 : (List curve_Sample) => LS.mk [] (lblks 0 [arrB (α := curve_Sample) 60 0 false z2]) 1) (slices_insertionSortCmpFunc_curve_Sample_spykeep4_samples_1.l1 a b) hR (s0 := (data, w6 (a + 1))) (Weak.turnL [(0, 0)] [] rfl rfl (tc (trS' rfl rfl rfl rfl rfl) (tc (.sc _) (tc (.sc _) (tc (.fn (.nil)) (tc (.sc _) tn))))) (mc rfl (btrA' rfl) mn)) (fun s1 o1 hR => ?_) fun z2 hR => ?_
  · unfold slices_insertionSortCmpFunc_curve_Sample_spykeep4_samples_1.l1 at hR
    refine AWP.sq ?_
    refine AWP.sq ?_
    refine AWP.rgC 13 rfl rfl ?_
    refine pu (v := .sc _) rfl rfl (fun _ => rfl) ?_
    refine pu (v := .sc _) rfl rfl (fun _ => rfl) ?_
    refine pu (v := .sc _) rfl rfl (fun _ => rfl) ?_
    refine RunC.fin ?_
    refine AWP.cd hR rfl (fun h3 hR => ?_) fun h3 hR => ?_
    · refine AWP.skip ?_
      refine skT ?_
      refine AWP.sq ?_
      refine AWP.block ?_
      refine AWP.sq ?_
      refine AWP.rgC 21 rfl rfl ?_
      refine pu (v := .sc _) rfl rfl (fun _ => rfl) ?_
      refine pu (v := .sc _) rfl rfl (fun _ => rfl) ?_
      refine RunC.fin ?_
      refine AWP.loopJ (fun s4 : (List curve_Sample) × Int => LS.mk [(0, slV curve_Sample 0 0 0 s4.1.length), (1, .sc (.int .i64 a)), (2, .sc (.int .i64 b)), (3, .fn (.func 13) []), (8, .sc (.int .i64 s1.2)), (9, .sc (.int .i64 s4.2))] (lblks 0 [arrB (α := curve_Sample) 60 0 false s4.1]) 1) (fun z5 : (List curve_Sample) => LS.mk [(0, slV curve_Sample 0 0 0 z5.length), (1, .sc (.int .i64 a)), (2, .sc (.int .i64 b)), (3, .fn (.func 13) []), (8, .sc (.int .i64 s1.2))] (lblks 0 [arrB (α := curve_Sample) 60 0 false z5]) 1) (slices_insertionSortCmpFunc_curve_Sample_spykeep4_samples_1.l2 a) hR (s0 := (s1.1, s1.2)) (Weak.turnL [(0, 0)] [] rfl rfl (tc (trS' rfl rfl rfl rfl rfl) (tc (.sc _) (tc (.sc _) (tc (.fn (.nil)) (tc (.sc _) (tc (.sc _) tn)))))) (mc rfl (btrA' rfl) mn)) (fun s4 o4 hR => ?_) fun z5 hR => ?_
      · unfold slices_insertionSortCmpFunc_curve_Sample_spykeep4_samples_1.l2 at hR
        refine AWP.sq ?_
        refine AWP.joinX (fun z6 : Bool => LS.mk [(0, slV curve_Sample 0 0 0 s4.1.length), (1, .sc (.int .i64 a)), (2, .sc (.int .i64 b)), (3, .fn (.func 13) []), (8, .sc (.int .i64 s1.2)), (9, .sc (.int .i64 s4.2)), (34, .sc (.bool z6))] (lblks 0 [arrB (α := curve_Sample) 60 0 false s4.1]) 1) hR (fun o6 hR => ?_) fun z6 hR => ?_
        · refine AWP.rgD 69 [0, 0, 3, 7, 15, 15, 15, 111, 239, 15, 15, 1039, 3599, 7695, 16383, 32767, 65535] ⟨[], [none, none, none, none, none, none, none, none, some [0], none, none, none, none, some [0], none, none, none]⟩ hmix (by kernel_rfl) rfl rfl ?_
          refine pu (v := .sc _) rfl rfl (fun _ => rfl) ?_
          refine pu (v := .sc _) rfl rfl (fun _ => rfl) ?_
          refine pu (v := .sc _) rfl rfl (fun _ => rfl) ?_
          refine pu (v := .sc _) rfl rfl (fun _ => rfl) ?_
          refine brR hR (fun h7 hR => ?_) fun h7 hR => ?_
          · refine pu (v := .fn _ _) (wtG rfl rfl rfl h7) rfl (fun _ => rfl) ?_
            refine pu (v := slV curve_Sample _ _ _ _) (wtG rfl rfl rfl h7) rfl (fun _ => rfl) ?_
            refine pu (v := .sc _) (wtG rfl rfl rfl h7) rfl (fun _ => rfl) ?_
            obtain ⟨h8, hR⟩ := chkE hR
            refine ixS0 (α := curve_Sample) (wtG rfl rfl rfl h7) rfl rfl ti35 rfl ti60 rfl h8 ?_
            refine ldE (α := curve_Sample) (v := .agg _) (wtG rfl rfl rfl h7) rfl rfl (ixlt h8) ti60 rfl rfl rfl rfl ?_
            refine pu (v := slV curve_Sample _ _ _ _) (wtG rfl rfl rfl h7) rfl (fun _ => rfl) ?_
            refine pu (v := .sc _) (wtG rfl rfl rfl h7) rfl (fun _ => rfl) ?_
            refine pu (v := .sc _) (wtG rfl rfl rfl h7) rfl (fun _ => rfl) ?_
            obtain ⟨h9, hR⟩ := chkE hR
            refine ixS0 (α := curve_Sample) (wtG rfl rfl rfl h7) rfl rfl ti35 rfl ti60 rfl h9 ?_
            refine ldE (α := curve_Sample) (v := .agg _) (wtG rfl rfl rfl h7) rfl rfl (ixlt h9) ti60 rfl rfl rfl rfl ?_
            obtain ⟨r10, hr10, hR⟩ := bindE hR
            refine cls [] (wtG rfl rfl rfl h7) rfl cb13 (ok13 (gt s4.1 s4.2) (gt s4.1 (w6 (s4.2 - 1))) _ hr10) (.cons (.agg (.cons (.sc _) (.cons (.sc _) (.cons (.sc _) (.cons (.sc _) (.cons (.sc _) (.cons (.sc _) (.nil))))))) rfl) (.cons (.agg (.cons (.sc _) (.cons (.sc _) (.cons (.sc _) (.cons (.sc _) (.cons (.sc _) (.cons (.sc _) (.nil))))))) rfl) (.nil))) (.inr rfl) rfl ?_
            refine pu (v := .sc _) (wtG rfl rfl rfl h7) rfl (fun _ => rfl) ?_
            refine pkT (v := .sc (.bool (decide (r10 < 0)))) rfl rfl h7 rfl ?_
            refine RunC.fin ?_
            have hR := Option.some.inj hR; subst hR
            exact Weak.turnL [(0, 0)] [] rfl rfl (tc (trS' rfl rfl rfl rfl rfl) (tc (.sc _) (tc (.sc _) (tc (.fn (.nil)) (tc (.sc _) (tc (.sc _) (tc (.sc _) tn))))))) (mc rfl (btrA' rfl) mn)
          · refine sk (skW rfl rfl rfl h7) ?_
            refine sk (skW rfl rfl rfl h7) ?_
            refine sk (skW rfl rfl rfl h7) ?_
            refine sk (skW rfl rfl rfl h7) ?_
            refine sk (skW rfl rfl rfl h7) ?_
            refine sk (skW rfl rfl rfl h7) ?_
            refine sk (skW rfl rfl rfl h7) ?_
            refine sk (skW rfl rfl rfl h7) ?_
            refine sk (skW rfl rfl rfl h7) ?_
            refine sk (skW rfl rfl rfl h7) ?_
            refine sk (skW rfl rfl rfl h7) ?_
            refine sk (skW rfl rfl rfl h7) ?_
            refine pkF (v := .sc (.bool false)) rfl rfl h7 rfl ?_
            refine RunC.fin ?_
            have hR := Option.some.inj hR; subst hR
            exact Weak.turnL [(0, 0)] [] rfl rfl (tc (trS' rfl rfl rfl rfl rfl) (tc (.sc _) (tc (.sc _) (tc (.fn (.nil)) (tc (.sc _) (tc (.sc _) (tc (.sc _) tn))))))) (mc rfl (btrA' rfl) mn)
        · refine AWP.cd hR rfl (fun h11 hR => ?_) fun h11 hR => ?_
          · refine AWP.skip ?_
            refine skT ?_
            refine AWP.sq ?_
            refine AWP.block ?_
            refine AWP.rgD 73 [0, 0, 0, 0, 8, 0, 0, 64, 224, 480, 0, 0, 3072, 7168, 16355, 32739, 65535, 131071] ⟨[], [none, none, none, none, none, none, none, none, none, some [0], none, none, none, some [0], none, some [0], none, some [0]]⟩ hmix (by kernel_rfl) rfl rfl ?_
            refine pu (v := slV curve_Sample _ _ _ _) rfl rfl (fun _ => rfl) ?_
            refine pu (v := .sc _) rfl rfl (fun _ => rfl) ?_
            refine pu (v := slV curve_Sample _ _ _ _) rfl rfl (fun _ => rfl) ?_
            refine pu (v := .sc _) rfl rfl (fun _ => rfl) ?_
            refine pu (v := .sc _) rfl rfl (fun _ => rfl) ?_
            refine pu (v := slV curve_Sample _ _ _ _) rfl rfl (fun _ => rfl) ?_
            refine pu (v := .sc _) rfl rfl (fun _ => rfl) ?_
            refine pu (v := .sc _) rfl rfl (fun _ => rfl) ?_
            obtain ⟨h12, hR⟩ := chkE hR
            refine ixS0 (α := curve_Sample) rfl rfl rfl ti35 rfl ti60 rfl h12 ?_
            refine ldE (α := curve_Sample) (v := .agg _) rfl rfl rfl (ixlt h12) ti60 rfl rfl rfl rfl ?_
            refine pu (v := slV curve_Sample _ _ _ _) rfl rfl (fun _ => rfl) ?_
            refine pu (v := .sc _) rfl rfl (fun _ => rfl) ?_
            obtain ⟨h13, hR⟩ := chkE hR
            refine ixS0 (α := curve_Sample) rfl rfl rfl ti35 rfl ti60 rfl h13 ?_
            refine ldE (α := curve_Sample) (v := .agg _) rfl rfl rfl (ixlt h13) ti60 rfl rfl rfl rfl ?_
            refine ixS0 (α := curve_Sample) rfl rfl rfl ti35 rfl ti60 rfl h13 ?_
            refine stE (α := curve_Sample) (y := (gt s4.1 (w6 (s4.2 - 1)))) rfl rfl rfl (ixlt h13) ti60 rfl rfl rfl rfl rfl ?_
            refine ixS0 (α := curve_Sample) rfl rfl rfl ti35 rfl ti60 rfl h12 ?_
            obtain ⟨v14, ev14, hR⟩ := letE hR
            refine stE (α := curve_Sample) (y := (gt s4.1 s4.2)) rfl rfl rfl (by first | exact ixlt h12 | (simp only [List.length_set]; exact ixlt h12)) ti60 rfl rfl rfl rfl rfl ?_
            rw [ev14]
            refine RunC.blk ?_
            refine RunC.fin ?_
            refine AWP.rgC 85 rfl rfl ?_
            refine pu (v := .sc _) rfl rfl (fun _ => rfl) ?_
            refine pu (v := .sc _) rfl rfl (fun _ => rfl) ?_
            refine pu (v := .sc _) rfl rfl (fun _ => rfl) ?_
            refine RunC.fin ?_
            refine ⟨(v14, w6 (s4.2 - 1)), (Option.some.inj hR).symm, ?_⟩
            exact Weak.turnL [(0, 0)] [] rfl rfl (tc (trS' rfl rfl rfl rfl (by subst ev14; simp only [List.length_set])) (tc (.sc _) (tc (.sc _) (tc (.fn (.nil)) (tc (.sc _) (tc (.sc _) tn)))))) (mc rfl (btrA' rfl) mn)
          · refine AWP.exit ?_
            refine exT ?_
            refine exT ?_
            refine exH (skT ?_)
            refine ⟨s4.1, (Option.some.inj hR).symm, ?_⟩
            exact Weak.turnL [(0, 0)] [] rfl rfl (tc (trS' rfl rfl rfl rfl rfl) (tc (.sc _) (tc (.sc _) (tc (.fn (.nil)) (tc (.sc _) tn))))) (mc rfl (btrA' rfl) mn)
      · refine skB ?_
        refine skT ?_
        refine AWP.rgC 13 rfl rfl ?_
        refine pu (v := .sc _) rfl rfl (fun _ => rfl) ?_
        refine pu (v := .sc _) rfl rfl (fun _ => rfl) ?_
        refine pu (v := .sc _) rfl rfl (fun _ => rfl) ?_
        refine RunC.fin ?_
        refine ⟨(z5, w6 (s1.2 + 1)), (Option.some.inj hR).symm, ?_⟩
        exact Weak.turnL [(0, 0)] [] rfl rfl (tc (trS' rfl rfl rfl rfl rfl) (tc (.sc _) (tc (.sc _) (tc (.fn (.nil)) (tc (.sc _) tn))))) (mc rfl (btrA' rfl) mn)
    · refine AWP.exit ?_
      refine exT ?_
      refine exT ?_
      refine exH (skT ?_)
      refine ⟨s1.1, (Option.some.inj hR).symm, ?_⟩
      exact Weak.turnL [(0, 0)] [] rfl rfl tn (mc rfl (btrA' rfl) mn)
  · have hR := Option.some.inj hR; subst hR
    exact hQ _ _ (LS.mk [] (lblks 0 [arrB (α := curve_Sample) 60 0 false z2]) 1) (.tup []) [] (.inl rfl) (Weak.turnL [(0, 0)] [] rfl rfl tn (mc rfl (btrA' rfl) mn)) (ro0 ) rfl rfl (.tup .nil) (pc rfl bldA pn)
theorem ok21 (data : List curve_Sample) (a : Int) (b : Int) (limit : Int) (r : (List curve_Sample)) (hR : slices_pdqsortCmpFunc_curve_Sample_spykeep4_samples_1 data a b limit = some r) : FnD Try.prog 21 [arrB 60 0 false data] [slV curve_Sample 0 0 0 data.length, .sc (.int .i64 a), .sc (.int .i64 b), .sc (.int .i64 limit), .fn (.func 13) []] (.tup []) [arrB 60 0 false r] := by
  refine FnX.walk Try.func21 rfl 148 1 (by simp [Try.ntmps21]) rfl fun W S F Q hQ => ?_
  unfold slices_pdqsortCmpFunc_curve_Sample_spykeep4_samples_1 at hR
  refine AWP.sq ?_
  refine AWP.rgC 5 rfl rfl ?_
  refine pu (v := .sc _) rfl rfl (fun _ => rfl) ?_
  refine RunC.fin ?_
  refine AWP.sq ?_
  refine AWP.rgC 9 rfl rfl ?_
  refine pu (v := .sc _) rfl rfl (fun _ => rfl) ?_
  refine RunC.fin ?_
  refine AWP.loopK' (fun s1 : Unit => LS.mk [(0, slV curve_Sample 0 0 0 data.length), (1, .sc (.int .i64 a)), (2, .sc (.int .i64 b)), (3, .sc (.int .i64 limit)), (4, .fn (.func 13) []), (10, .sc (.bool true)), (11, .sc (.bool true))] (lblks 0 [arrB (α := curve_Sample) 60 0 false data]) 1) (fun z2 : Unit => LS.mk [] (lblks 0 []) 0) (slices_pdqsortCmpFunc_curve_Sample_spykeep4_samples_1.l1 data a b) hR (s0 := ()) (Weak.turnL [(0, 0)] [] rfl rfl (tc (trS' rfl rfl rfl rfl rfl) (tc (.sc _) (tc (.sc _) (tc (.sc _) (tc (.fn (.nil)) (tc (.sc _) (tc (.sc _) tn))))))) (mc rfl (btrA' rfl) mn)) (fun s1 o1 hR hE1 => ?_) fun z2 hR => ?_
  · unfold slices_pdqsortCmpFunc_curve_Sample_spykeep4_samples_1.l1 at hR
    refine AWP.block ?_
    refine AWP.sq ?_
    refine AWP.rgC 17 rfl rfl ?_
    refine pu (v := .sc _) rfl rfl (fun _ => rfl) ?_
    refine pu (v := .sc _) rfl rfl (fun _ => rfl) ?_
    refine pu (v := .sc _) rfl rfl (fun _ => rfl) ?_
    refine pu (v := .sc _) rfl rfl (fun _ => rfl) ?_
    refine RunC.fin ?_
    refine AWP.sq ?_
    refine AWP.sq ?_
    refine AWP.rgC 25 rfl rfl ?_
    refine pu (v := .sc _) rfl rfl (fun _ => rfl) ?_
    refine pu (v := .sc _) rfl rfl (fun _ => rfl) ?_
    refine RunC.fin ?_
    refine AWP.cd hR rfl (fun h3 hR => ?_) fun h3 hR => ?_
    · refine AWP.sq ?_
      refine AWP.rgC 45 rfl rfl ?_
      refine pu (v := slV curve_Sample _ _ _ _) rfl rfl (fun _ => rfl) ?_
      refine pu (v := .sc _) rfl rfl (fun _ => rfl) ?_
      refine pu (v := .sc _) rfl rfl (fun _ => rfl) ?_
      refine pu (v := .fn _ _) rfl rfl (fun _ => rfl) ?_
      obtain ⟨r4, hr4, hR⟩ := bindE hR
      obtain ⟨h5, hR⟩ := chkE hR
      refine cps (res' := .tup []) (ups := [(0, arrB (α := curve_Sample) 60 0 false r4)]) [0] 41 rfl rfl rfl cb30 (ok30 data a b _ hr4) (.cons (ldM rfl rfl) (.cons (.sc _) (.cons (.sc _) (.cons (.fn (.nil)) (.nil))))) (pc rfl bldA pn) rfl rfl rfl rfl rfl (by first | rfl | exact renR | exact renA | exact renS | simp only [V.ren, V.rens, renR, renA, renS] | (simp only [V.ren, V.rens, renR, renA, renS]; rfl)) (by simp only [passUps, renBox, renArr]; rfl) ?_
      refine RunC.fin ?_
      refine AWP.ret ?_
      refine rtT ?_
      refine rtB ?_
      refine rtT ?_
      refine rtB (rtT ?_)
      replace hR := escL hR hE1
      have hR := Option.some.inj hR; subst hR
      exact hQ _ _ (LS.mk [] (lblks 0 [arrB (α := curve_Sample) 60 0 false r4]) 1) (.tup []) [] (.inr rfl) (Weak.turnL [(0, 0)] [] rfl rfl tn (mc rfl (btrA' rfl) mn)) (ro0 ) rfl rfl (.tup .nil) (pc rfl bldA pn)
    · cases hR
  · cases hR
theorem ok12 (x : List curve_Sample) (r : (List curve_Sample)) (hR : slices_SortFunc_curve_Sample_spykeep4_samples_1_short x = some r) : FnD Try.prog 12 [arrB 60 0 false x] [slV curve_Sample 0 0 0 x.length, .fn (.func 13) []] (.tup []) [arrB 60 0 false r] := by
  refine FnX.walk Try.func12 rfl 14 1 (by simp [Try.ntmps12]) rfl fun W S F Q hQ => ?_
  unfold slices_SortFunc_curve_Sample_spykeep4_samples_1_short at hR
  refine AWP.sq ?_
  refine AWP.rgC 13 rfl rfl ?_
  refine pu (v := slV curve_Sample _ _ _ _) rfl rfl (fun _ => rfl) ?_
  refine lenS (α := curve_Sample) rfl rfl ti35 rfl ?_
  refine pu (v := .sc _) rfl rfl (fun _ => rfl) ?_
  refine RunC.fin ?_
  refine AWP.rgC 41 rfl rfl ?_
  refine pu (v := slV curve_Sample _ _ _ _) rfl rfl (fun _ => rfl) ?_
  refine pu (v := .sc _) rfl rfl (fun _ => rfl) ?_
  refine pu (v := .sc _) rfl rfl (fun _ => rfl) ?_
  refine cn rfl rfl ti3 rfl ti77 rfl rfl ?_
  obtain ⟨r1, hr1, hR⟩ := bindE hR
  refine cls [] rfl rfl cb22 (ok22 (IntKind.wrap .u64 (x.length : Int)) _ hr1) (.cons (.sc _) (.nil)) (.inr rfl) rfl ?_
  refine pu (v := .fn _ _) rfl rfl (fun _ => rfl) ?_
  obtain ⟨r2, hr2, hR⟩ := bindE hR
  obtain ⟨h3, hR⟩ := chkE hR
  refine cps (res' := .tup []) (ups := [(0, arrB (α := curve_Sample) 60 0 false r2)]) [0] 37 rfl rfl rfl cb21 (ok21 x 0 (x.length : Int) r1 _ hr2) (.cons (ldM rfl rfl) (.cons (.sc _) (.cons (.sc _) (.cons (.sc _) (.cons (.fn (.nil)) (.nil)))))) (pc rfl bldA pn) rfl rfl rfl rfl rfl (by first | rfl | exact renR | exact renA | exact renS | simp only [V.ren, V.rens, renR, renA, renS] | (simp only [V.ren, V.rens, renR, renA, renS]; rfl)) (by simp only [passUps, renBox, renArr]; rfl) ?_
  refine RunC.nil ?_
  have hR := Option.some.inj hR; subst hR
  exact hQ _ _ (LS.mk [] (lblks 0 [arrB (α := curve_Sample) 60 0 false r2]) 1) (.tup []) [] (.inl rfl) (Weak.turnL [(0, 0)] [] rfl rfl tn (mc rfl (btrA' rfl) mn)) (ro0 ) rfl rfl (.tup .nil) (pc rfl bldA pn)
section
open Go.RowKit Go.Shelf Go.Lib Go.Sort Go.Proofs
def sampWs12 (s : curve_Sample) : List Value := [.int .i64 s.At.Lo, .int .i64 s.At.Hi, .bool s.At.Unknown, .int .i64 s.Light.Lo, .int .i64 s.Light.Hi, .bool s.Light.Unknown]
theorem cmps12 (a b : curve_Sample) (h1 : -4611686018427387904 ≤ a.At.Lo ∧ a.At.Lo ≤ 4611686018427387903) (h2 : -4611686018427387904 ≤ b.At.Lo ∧ b.At.Lo ≤ 4611686018427387903) (h3 : -4611686018427387904 ≤ a.At.Hi ∧ a.At.Hi ≤ 4611686018427387903) (h4 : -4611686018427387904 ≤ b.At.Hi ∧ b.At.Hi ≤ 4611686018427387903) (W : World) :
    Calls Try.prog 13 #[.agg (sampWs12 a).toArray, .agg (sampWs12 b).toArray] W fun e w' => e = .returned (.int .i64 (cmpS a b)) ∧ ∃ q os', w' = grow (W.drewN q) os' := by
  obtain ⟨⟨al, ah, au⟩, ⟨al2, ah2, au2⟩⟩ := a
  obtain ⟨⟨bl, bh, bu⟩, ⟨bl2, bh2, bu2⟩⟩ := b
  simp only [] at h1 h2 h3 h4
  unfold sampWs12 cmpS
  simp only []
  by_cases h : al = bl
  · rw [if_neg (fun q => q h)]
    go_enter Try.func13, Try.ntmps13
    go_wp2
    go_ret
    exact ⟨rfl, 0, _, by rw [alloc_eq_grow, alloc_eq_grow, grow_grow]; rfl⟩
  · rw [if_pos h]
    go_enter Try.func13, Try.ntmps13
    go_wp2
    go_ret
    exact ⟨rfl, 0, _, by rw [alloc_eq_grow, alloc_eq_grow, grow_grow]; rfl⟩
def sortLs12_ren : Go.Shelf.Ren := ⟨fun | 6 => 12 | 15 => 22 | 14 => 21 | 28 => 38 | 29 => 39 | 20 => 30 | 21 => 31 | 22 => 32 | 23 => 33 | 24 => 34 | 25 => 35 | 26 => 36 | 27 => 37 | 46 => 47 | 47 => 48 | 48 => 49 | 49 => 50 | 50 => 51 | 57 => 58 | n => n, fun | 22 => 35 | 24 => 60 | 25 => 62 | 3 => 3 | 39 => 77 | 0 => 0 | 53 => 92 | 55 => 94 | 4 => 4 | 46 => 86 | 45 => 85 | 50 => 69 | 5 => 5 | 9 => 9 | 66 => 102 | 70 => 106 | 76 => 116 | 77 => 117 | n => n, fun | n => n⟩
theorem sortLs12 : Go.Proofs.SlLaysF0.n6 Try.prog sortLs12_ren := {
  mixed := by kernel_rfl,
  f6 := ⟨Try.f12.name, by decide, Try.func12.trans (congrArg some (by kernel_rfl))⟩,
  f14 := ⟨Try.f21.name, by decide, Try.func21.trans (congrArg some (by kernel_rfl))⟩,
  f15 := Try.func22.trans (congrArg some (by kernel_rfl)),
  f20 := ⟨Try.f30.name, by decide, Try.func30.trans (congrArg some (by kernel_rfl))⟩,
  f21 := ⟨Try.f31.name, by decide, Try.func31.trans (congrArg some (by kernel_rfl))⟩,
  f22 := ⟨Try.f32.name, by decide, Try.func32.trans (congrArg some (by kernel_rfl))⟩,
  f23 := ⟨Try.f33.name, by decide, Try.func33.trans (congrArg some (by kernel_rfl))⟩,
  f24 := ⟨Try.f34.name, by decide, Try.func34.trans (congrArg some (by kernel_rfl))⟩,
  f25 := ⟨Try.f35.name, by decide, Try.func35.trans (congrArg some (by kernel_rfl))⟩,
  f26 := ⟨Try.f36.name, by decide, Try.func36.trans (congrArg some (by kernel_rfl))⟩,
  f27 := ⟨Try.f37.name, by decide, Try.func37.trans (congrArg some (by kernel_rfl))⟩,
  f28 := Try.func38.trans (congrArg some (by kernel_rfl)),
  f29 := Try.func39.trans (congrArg some (by kernel_rfl)),
  f46 := ⟨Try.f47.name, by decide, Try.func47.trans (congrArg some (by kernel_rfl))⟩,
  f47 := Try.func48.trans (congrArg some (by kernel_rfl)),
  f48 := Try.func49.trans (congrArg some (by kernel_rfl)),
  f49 := ⟨Try.f50.name, by decide, Try.func50.trans (congrArg some (by kernel_rfl))⟩,
  f50 := ⟨Try.f51.name, by decide, Try.func51.trans (congrArg some (by kernel_rfl))⟩,
  f57 := ⟨Try.f58.name, by decide, Try.func58.trans (congrArg some (by kernel_rfl))⟩,
  t0 := Try.underlying0,
  a0 := Try.isAgg0,
  z0 := Try.sizeOf0,
  v0 := Try.zeroValue0,
  t3 := Try.underlying3,
  a3 := Try.isAgg3,
  z3 := Try.sizeOf3,
  v3 := Try.zeroValue3,
  t4 := Try.underlying4,
  a4 := Try.isAgg4,
  z4 := Try.sizeOf4,
  v4 := Try.zeroValue4,
  t5 := Try.underlying5,
  a5 := Try.isAgg5,
  z5 := Try.sizeOf5,
  v5 := Try.zeroValue5,
  t9 := Try.underlying9,
  a9 := Try.isAgg9,
  z9 := Try.sizeOf9,
  v9 := Try.zeroValue9,
  t22 := Try.underlying35,
  a22 := Try.isAgg35,
  z22 := Try.sizeOf35,
  v22 := Try.zeroValue35,
  t25 := Try.underlying62,
  a25 := Try.isAgg62,
  z25 := Try.sizeOf62,
  v25 := Try.zeroValue62,
  t39 := Try.underlying77,
  a39 := Try.isAgg77,
  z39 := Try.sizeOf77,
  v39 := Try.zeroValue77,
  t45 := Try.underlying85,
  a45 := Try.isAgg85,
  z45 := Try.sizeOf85,
  v45 := Try.zeroValue85,
  t46 := Try.underlying86,
  a46 := Try.isAgg86,
  z46 := Try.sizeOf86,
  v46 := Try.zeroValue86,
  t50 := Try.underlying69,
  a50 := Try.isAgg69,
  z50 := Try.sizeOf69,
  v50 := Try.zeroValue69,
  t53 := Try.underlying92,
  a53 := Try.isAgg92,
  z53 := Try.sizeOf92,
  v53 := Try.zeroValue92,
  t55 := Try.underlying94,
  a55 := Try.isAgg94,
  z55 := Try.sizeOf94,
  v55 := Try.zeroValue94,
  t66 := Try.underlying102,
  a66 := Try.isAgg102,
  z66 := Try.sizeOf102,
  v66 := Try.zeroValue102,
  t70 := Try.underlying106,
  a70 := Try.isAgg106,
  z70 := Try.sizeOf106,
  v70 := Try.zeroValue106,
  t76 := Try.underlying116,
  a76 := Try.isAgg116,
  z76 := Try.sizeOf116,
  v76 := Try.zeroValue116,
  t77 := Try.underlying117,
  a77 := Try.isAgg117,
  z77 := Try.sizeOf117,
  v77 := Try.zeroValue117 }
theorem isAggs12 (w : World) : (isAgg 60).run Try.prog w = .ok true w := Go.Abs.run_isAgg ti60
theorem sizeOfs12 (w : World) : (Go.sizeOf 60).run Try.prog w = .ok 6 w := Go.Abs.run_sizeOf ti60
theorem swos12 : SWO (ltOf cmpB) where
  irrefl a := by unfold ltOf cmpB cmpS; simp
  trans a b c h1 h2 := by
    unfold ltOf cmpB cmpS at *
    simp only [decide_eq_true_eq] at *
    split at h1 <;> split at h2 <;> split <;> omega
  ntrans a b c h1 h2 := by
    unfold ltOf cmpB cmpS at *
    simp only [decide_eq_false_iff_not] at *
    split at h1 <;> split at h2 <;> split <;> omega
theorem toBmaps12 : ∀ (l : List curve_Sample), (∀ s ∈ l, bndS s) → (toB l).map (·.1) = l
  | [], _ => rfl
  | s :: l, h => by
    have hs := h s List.mem_cons_self
    unfold toB
    rw [List.filterMap_cons, dif_pos hs]
    show s :: (toB l).map (·.1) = s :: l
    rw [toBmaps12 l fun a ha => h a (List.mem_cons_of_mem _ ha)]
theorem okAny12 (x : List curve_Sample) (r : List curve_Sample) (hR : slices_SortFunc_curve_Sample_spykeep4_samples_1 x = some r) : FnD Try.prog 12 [arrB 60 0 false x] [slV curve_Sample 0 0 0 x.length, .fn (.func 13) []] (.tup []) [arrB 60 0 false r] := by
  unfold slices_SortFunc_curve_Sample_spykeep4_samples_1 at hR
  split at hR
  · exact ok12 x r hR
  · rename_i hlen
    split at hR
    · rename_i h
      obtain ⟨hb, hn⟩ := h
      cases hR
      have hm := toBmaps12 x hb
      have hsz : (toB x).toArray.size = x.length := by
        have := congrArg List.length hm
        simpa using this
      have eg : ∀ args w, (callFunc 13 args).run Try.prog w = .ok (.enter 13 args) w := enters_of Try.func13 (by kernel_rfl) rfl
      have hp := pdq_sorts (ltOf cmpB) swos12 (toB x).toArray 0 (toB x).toArray.size (Lib.bitLen (toB x).toArray.size) true true (Nat.zero_le _) (Nat.le_refl _) (Or.inl rfl)
      refine fnD_order (α := SmB) (·.1) sampWs12 (fun nw s => rfl) (fun s v hv => by unfold sampWs12 at hv; simp at hv; rcases hv with rfl | rfl | rfl | rfl | rfl | rfl <;> rfl) (toB x).toArray (pdq (ltOf cmpB) (toB x).toArray 0 (toB x).toArray.size (Lib.bitLen (toB x).toArray.size) true true) hp.1.1 (by omega) (fun B cap w hH hB => ?_) false x (by simp [hm])
      have hcon := AnyQ.slices_SortFunc_eq sortLs12 6 isAggs12 sizeOfs12 (fun s : SmB => sampWs12 s.1) (fun _ => rfl) (fun s v hv => by unfold sampWs12 at hv; simp at hv; rcases hv with rfl | rfl | rfl | rfl | rfl | rfl <;> rfl) cmpB swos12 13 #[] B 0 cap (toB x).toArray w eg (fun m os dk hs a b => cmps12 a.1 b.1 a.2.1 b.2.1 a.2.2 b.2.2 _) hH hB (by omega)
      exact hcon
    · cases hR
end

theorem ok6 (s : spymake_Stream) (x : Star) (n : Int) (r : (List curve_Sample) × Bool × spymake_Stream) (hR : spykeep4_samples s x n = some r) : FnD Try.prog 6 [boxB false s] [.ptr 0 0 0, aggV false x, .sc (.int .i64 n)] (.tup [rowV (α := curve_Sample) false r.1, .sc (.bool r.2.1)]) [boxB false r.2.2] := by
  refine FnX.walk Try.func6 rfl 75 1 (by simp [Try.ntmps6]) rfl fun W S F Q hQ => ?_
  unfold spykeep4_samples at hR
  refine AWP.sq ?_
  refine AWP.rgC 13 rfl rfl ?_
  refine bx (cs := _) 1 rfl rfl rfl ?_
  refine pu (v := .sc _) rfl rfl (fun _ => rfl) ?_
  refine pu (v := .sc _) rfl rfl (fun _ => rfl) ?_
  refine RunC.fin ?_
  refine AWP.sq ?_
  refine AWP.rgC 33 rfl rfl ?_
  refine ldB (v := .agg _) rfl rfl rfl rfl ti32 rfl rfl ?_
  refine bs (α := Star) 17 false ([x] : List Star) rfl rfl ti48 rfl ti32 rfl rfl rfl rfl rfl ?_
  refine bu (cs := [.sc (.int .i64 0), slV Star 17 0 0 ([x] : List Star).length, .sc (.slice none 0 0), .sc (.slice none 0 0), .sc (.int .i64 0), .sc (.int .i64 0), .sc (.int .i64 0), .sc (.int .i64 0), .sc (.int .i64 0), .sc (.int .i64 0), .sc (.int .i64 0), .sc (.int .i64 0)]) rfl bt54 rfl ?_
  refine al (cs := [.sc (.int .i64 0), .sc (.slice none 0 0), .sc (.slice none 0 0), .sc (.slice none 0 0), .sc (.int .i64 0), .sc (.int .i64 0), .sc (.int .i64 0), .sc (.int .i64 0), .sc (.int .i64 0), .sc (.int .i64 0), .sc (.int .i64 0), .sc (.int .i64 0)]) 25 rfl rfl ti54 rfl rfl ?_
  refine stB (cs' := [.sc (.int .i64 0), slV Star 17 0 0 ([x] : List Star).length, .sc (.slice none 0 0), .sc (.slice none 0 0), .sc (.int .i64 0), .sc (.int .i64 0), .sc (.int .i64 0), .sc (.int .i64 0), .sc (.int .i64 0), .sc (.int .i64 0), .sc (.int .i64 0), .sc (.int .i64 0)]) rfl rfl rfl rfl ti54 rfl rfl rfl rfl rfl ?_
  refine RunC.fin ?_
  refine AWP.sq ?_
  refine AWP.rgC 37 rfl rfl ?_
  refine pu (v := .sc _) rfl rfl (fun _ => rfl) ?_
  refine RunC.fin ?_
  refine AWP.sq ?_
  refine AWP.rgC 49 rfl rfl ?_
  refine pu (v := .ptr _ _ _) rfl rfl (fun _ => rfl) ?_
  obtain ⟨r1, hr1, hR⟩ := bindE hR
  refine cps (res' := .sc (.int .i64 r1.1)) (ups := [(0, boxB (α := spymake_Stream) false r1.2)]) [0] 41 rfl rfl rfl cb10 (ok10 s (-5000) 5000 _ hr1) (.cons (ldP rfl rfl) (.cons (.sc _) (.cons (.sc _) (.nil)))) (pc rfl (.box (.cons ldR' (.cons (.sc _) (.nil))) rfl) pn) rfl rfl rfl rfl rfl (by first | rfl | exact renR | exact renA | exact renS | simp only [V.ren, V.rens, renR, renA, renS] | (simp only [V.ren, V.rens, renR, renA, renS]; rfl)) (by simp only [passUps, renBox, renArr]; rfl) ?_
  refine pu (v := .sc _) rfl rfl (fun _ => rfl) ?_
  refine RunC.fin ?_
  refine AWP.sq ?_
  refine AWP.sq ?_
  refine AWP.rgC 69 rfl rfl ?_
  refine pu (v := .ptr _ _ _) rfl rfl (fun _ => rfl) ?_
  refine pu (v := .sc _) rfl rfl (fun _ => rfl) ?_
  refine pu (v := .sc _) rfl rfl (fun _ => rfl) ?_
  obtain ⟨r2, hr2, hR⟩ := bindE hR
  refine cps (res' := .sc (.int .i64 r2.1)) (ups := [(0, boxB (α := spymake_Stream) false r2.2)]) [0] 61 rfl rfl rfl cb9 (ok9 r1.2 (w6 (n + 1)) _ hr2) (.cons (ldP rfl rfl) (.cons (.sc _) (.nil))) (pc rfl (.box (.cons ldR' (.cons (.sc _) (.nil))) rfl) pn) rfl rfl rfl rfl rfl (by first | rfl | exact renR | exact renA | exact renS | simp only [V.ren, V.rens, renR, renA, renS] | (simp only [V.ren, V.rens, renR, renA, renS]; rfl)) (by simp only [passUps, renBox, renArr]; rfl) ?_
  refine pu (v := .sc _) rfl rfl (fun _ => rfl) ?_
  refine RunC.fin ?_
  refine AWP.nilT curve_Sample 9 60 rfl ?_
  refine AWP.loopK' (fun s3 : spymake_Stream × (List curve_Sample) × Int × Int => LS.mk [(0, .ptr 0 0 0), (4, .ptr 1 0 0), (8, .ptr 2 0 0), (9, slV curve_Sample 4 0 0 s3.2.1.length), (10, .sc (.int .i64 s3.2.2.1)), (23, .sc (.int .i64 r2.1)), (24, .sc (.int .i64 s3.2.2.2))] (lblks 0 [boxB (α := spymake_Stream) false s3.1, boxB (α := Star) false x, .box [.sc (.int .i64 0), slV Star 3 0 0 ([x] : List Star).length, .sc (.slice none 0 0), .sc (.slice none 0 0), .sc (.int .i64 0), .sc (.int .i64 0), .sc (.int .i64 0), .sc (.int .i64 0), .sc (.int .i64 0), .sc (.int .i64 0), .sc (.int .i64 0), .sc (.int .i64 0)], arrB (α := Star) 32 0 false ([x] : List Star), arrB (α := curve_Sample) 60 0 true s3.2.1]) 5) (fun z4 : spymake_Stream × (List curve_Sample) => LS.mk [(9, slV curve_Sample 1 0 0 z4.2.length)] (lblks 0 [boxB (α := spymake_Stream) false z4.1, arrB (α := curve_Sample) 60 0 true z4.2]) 2) (spykeep4_samples.l1 x r2) hR (s0 := (r2.2, ([] : List curve_Sample), r1.1, 0)) (Weak.turnL [(0, 0), (1, 0), (25, 0), (17, 0), (69, 0)] [] rfl rfl (tc (trP' rfl rfl rfl rfl) (tc (trP' rfl rfl rfl rfl) (tc (trP' rfl rfl rfl rfl) (tc (trS' rfl rfl rfl rfl rfl) (tc (.sc _) (tc (.sc _) (tc (.sc _) tn))))))) (mc rfl (.box rfl (.cons trR1 (.cons (.sc _) (.nil))) rfl) (mc rfl (.box rfl (.cons (.sc _) (.cons (.sc _) (.cons (.sc _) (.cons (.sc _) (.cons (.sc _) (.cons trR1 (.cons (.sc _) (.cons (.sc _) (.cons (.sc _) (.nil)))))))))) rfl) (mc rfl (.box rfl (.cons (.sc _) (.cons (trS' rfl rfl rfl rfl rfl) (.cons (.sc _) (.cons (.sc _) (.cons (.sc _) (.cons (.sc _) (.cons (.sc _) (.cons (.sc _) (.cons (.sc _) (.cons (.sc _) (.cons (.sc _) (.cons (.sc _) (.nil))))))))))))) rfl) (mc rfl (btrA' rfl) (mc rfl (btrA' rfl) mn)))))) (fun s3 o3 hR hE3 => ?_) fun z4 hR => ?_
  · unfold spykeep4_samples.l1 at hR
    refine AWP.sq ?_
    refine AWP.rgC 9 rfl rfl ?_
    refine pu (v := .sc _) rfl rfl (fun _ => rfl) ?_
    refine RunC.fin ?_
    refine AWP.sq ?_
    refine AWP.cd hR rfl (fun h5 hR => ?_) fun h5 hR => ?_
    · refine AWP.skip ?_
      refine skT ?_
      refine AWP.sq ?_
      refine AWP.block ?_
      refine AWP.sq ?_
      refine AWP.rgC 29 rfl rfl ?_
      refine pu (v := .sc _) rfl rfl (fun _ => rfl) ?_
      refine pu (v := .ptr _ _ _) rfl rfl (fun _ => rfl) ?_
      obtain ⟨r6, hr6, hR⟩ := bindE hR
      refine cps (res' := .sc (.int .i64 r6.1)) (ups := [(0, boxB (α := spymake_Stream) false r6.2)]) [0] 17 rfl rfl rfl cb9 (ok9 s3.1 900 _ hr6) (.cons (ldP rfl rfl) (.cons (.sc _) (.nil))) (pc rfl (.box (.cons ldR' (.cons (.sc _) (.nil))) rfl) pn) rfl rfl rfl rfl rfl (by first | rfl | exact renR | exact renA | exact renS | simp only [V.ren, V.rens, renR, renA, renS] | (simp only [V.ren, V.rens, renR, renA, renS]; rfl)) (by simp only [passUps, renBox, renArr]; rfl) ?_
      refine pu (v := .sc _) rfl rfl (fun _ => rfl) ?_
      refine pu (v := .sc _) rfl rfl (fun _ => rfl) ?_
      refine RunC.fin ?_
      refine AWP.sq ?_
      refine AWP.rgC 69 rfl rfl ?_
      refine ldB (v := .agg _) rfl rfl rfl rfl ti54 rfl rfl ?_
      refine fa rfl rfl ti32 rfl rfl ti3 rfl ?_
      refine ldB (v := .sc _) rfl rfl rfl rfl ti3 rfl rfl ?_
      refine pu (v := .sc _) rfl rfl (fun _ => rfl) ?_
      obtain ⟨r7, hr7, hR⟩ := bindE hR
      refine cls [3] rfl rfl cb11 (ok11 (Sky.mk 0 ([x] : List Star) [] [] (Body.mk 0 (Vec.mk 0 0 0) (Vec.mk 0 0 0) 0)) x.ID (w6 (s3.2.2.1 + r6.1)) _ hr7) (.cons (.agg (.cons (.sc _) (.cons (ldS' rfl rfl rfl rfl) (.cons .nil (.cons .nil (.cons (.sc _) (.cons (.sc _) (.cons (.sc _) (.cons (.sc _) (.cons (.sc _) (.cons (.sc _) (.cons (.sc _) (.cons (.sc _) (.nil))))))))))))) rfl) (.cons (.sc _) (.cons (.sc _) (.nil)))) (.inl (by first | rfl | exact freshR | exact freshA | (simp only [V.fresh, V.freshs, freshR, freshA, Bool.and_self]))) rfl ?_
      refine pu (v := .tup _) rfl rfl (fun _ => rfl) ?_
      refine pu (v := .sc _) rfl rfl (fun _ => rfl) ?_
      refine pu (v := .sc _) rfl rfl (fun _ => rfl) ?_
      refine pu (v := .sc _) rfl rfl (fun _ => rfl) ?_
      refine pu (v := .sc _) rfl rfl (fun _ => rfl) ?_
      refine RunC.fin ?_
      refine AWP.sq ?_
      refine AWP.sq ?_
      refine AWP.rgC 77 rfl rfl ?_
      refine pu (v := .sc _) rfl rfl (fun _ => rfl) ?_
      refine pu (v := .sc _) rfl rfl (fun _ => rfl) ?_
      refine RunC.fin ?_
      refine AWP.cd hR rfl (fun h8 hR => ?_) fun h8 hR => ?_
      · refine AWP.sq ?_
        refine AWP.rgC 85 rfl rfl ?_
        refine pu (v := .sc _) rfl rfl (fun _ => rfl) ?_
        refine pu (v := .sc _) rfl rfl (fun _ => rfl) ?_
        refine RunC.fin ?_
        refine AWP.ret ?_
        refine rtT ?_
        refine rtB ?_
        refine rtT ?_
        refine rtT ?_
        refine rtB (rtT ?_)
        replace hR := escL hR hE3
        refine rtT ?_
        have hR := Option.some.inj hR; subst hR
        exact hQ _ _ (LS.mk [(6, rowV (α := curve_Sample) false []), (7, .sc (.bool false))] (lblks 0 [boxB (α := spymake_Stream) false r6.2]) 1) (.tup [rowV (α := curve_Sample) false [], .sc (.bool false)]) [] (.inr rfl) (Weak.turnL [(0, 0)] [] rfl rfl (tc trN (tc (.sc _) tn)) (mc rfl (.box rfl (.cons trR1 (.cons (.sc _) (.nil))) rfl) mn)) (ro2 (rvT (v := rowV (α := curve_Sample) false []) rfl) (rvT (v := .sc (.bool false)) rfl)) rfl rfl (.tup (.cons ldR' (.cons (.sc _) .nil))) (pc rfl bldB pn)
      · refine AWP.skip ?_
        refine skT ?_
        refine AWP.sq ?_
        refine AWP.rgC 101 rfl rfl ?_
        refine pu (v := .ptr _ _ _) rfl rfl (fun _ => rfl) ?_
        obtain ⟨r9, hr9, hR⟩ := bindE hR
        refine cps (res' := .sc (.int .i64 r9.1)) (ups := [(0, boxB (α := spymake_Stream) false r9.2)]) [0] 81 rfl rfl rfl cb9 (ok9 r6.2 2 _ hr9) (.cons (ldP rfl rfl) (.cons (.sc _) (.nil))) (pc rfl (.box (.cons ldR' (.cons (.sc _) (.nil))) rfl) pn) rfl rfl rfl rfl rfl (by first | rfl | exact renR | exact renA | exact renS | simp only [V.ren, V.rens, renR, renA, renS] | (simp only [V.ren, V.rens, renR, renA, renS]; rfl)) (by simp only [passUps, renBox, renArr]; rfl) ?_
        refine pu (v := .ptr _ _ _) rfl rfl (fun _ => rfl) ?_
        obtain ⟨r10, hr10, hR⟩ := bindE hR
        refine cps (res' := .sc (.int .i64 r10.1)) (ups := [(0, boxB (α := spymake_Stream) false r10.2)]) [0] 89 rfl rfl rfl cb9 (ok9 r9.2 40 _ hr10) (.cons (ldP rfl rfl) (.cons (.sc _) (.nil))) (pc rfl (.box (.cons ldR' (.cons (.sc _) (.nil))) rfl) pn) rfl rfl rfl rfl rfl (by first | rfl | exact renR | exact renA | exact renS | simp only [V.ren, V.rens, renR, renA, renS] | (simp only [V.ren, V.rens, renR, renA, renS]; rfl)) (by simp only [passUps, renBox, renArr]; rfl) ?_
        refine pu (v := .sc _) rfl rfl (fun _ => rfl) ?_
        refine pu (v := .sc _) rfl rfl (fun _ => rfl) ?_
        refine RunC.fin ?_
        refine AWP.sq ?_
        refine AWP.rgC 145 rfl rfl ?_
        refine pu (v := .sc _) rfl rfl (fun _ => rfl) ?_
        refine pu (v := .ptr _ _ _) rfl rfl (fun _ => rfl) ?_
        obtain ⟨r11, hr11, hR⟩ := bindE hR
        refine cps (res' := .sc (.int .i64 r11.1)) (ups := [(0, boxB (α := spymake_Stream) false r11.2)]) [0] 109 rfl rfl rfl cb9 (ok9 r10.2 30 _ hr11) (.cons (ldP rfl rfl) (.cons (.sc _) (.nil))) (pc rfl (.box (.cons ldR' (.cons (.sc _) (.nil))) rfl) pn) rfl rfl rfl rfl rfl (by first | rfl | exact renR | exact renA | exact renS | simp only [V.ren, V.rens, renR, renA, renS] | (simp only [V.ren, V.rens, renR, renA, renS]; rfl)) (by simp only [passUps, renBox, renArr]; rfl) ?_
        refine pu (v := .sc _) rfl rfl (fun _ => rfl) ?_
        refine pu (v := .sc _) rfl rfl (fun _ => rfl) ?_
        refine pu (v := .ptr _ _ _) rfl rfl (fun _ => rfl) ?_
        obtain ⟨r12, hr12, hR⟩ := bindE hR
        refine cps (res' := .sc (.int .i64 r12.1)) (ups := [(0, boxB (α := spymake_Stream) false r12.2)]) [0] 125 rfl rfl rfl cb9 (ok9 r11.2 30 _ hr12) (.cons (ldP rfl rfl) (.cons (.sc _) (.nil))) (pc rfl (.box (.cons ldR' (.cons (.sc _) (.nil))) rfl) pn) rfl rfl rfl rfl rfl (by first | rfl | exact renR | exact renA | exact renS | simp only [V.ren, V.rens, renR, renA, renS] | (simp only [V.ren, V.rens, renR, renA, renS]; rfl)) (by simp only [passUps, renBox, renArr]; rfl) ?_
        refine pu (v := .sc _) rfl rfl (fun _ => rfl) ?_
        refine bu (cs := [.sc (.int .i64 (w6 (r7.1 - r11.1))), .sc (.int .i64 (w6 (r7.1 + r12.1))), .sc (.bool false)]) rfl bt44 rfl ?_
        refine al (cs := [.sc (.int .i64 0), .sc (.int .i64 0), .sc (.bool false)]) 137 rfl rfl ti44 rfl rfl ?_
        refine stB (cs' := [.sc (.int .i64 (w6 (r7.1 - r11.1))), .sc (.int .i64 (w6 (r7.1 + r12.1))), .sc (.bool false)]) rfl rfl rfl rfl ti44 rfl rfl rfl rfl rfl ?_
        refine RunC.fin ?_
        refine AWP.sq ?_
        refine AWP.sq ?_
        refine AWP.rgC 157 rfl rfl ?_
        refine pu (v := .ptr _ _ _) rfl rfl (fun _ => rfl) ?_
        obtain ⟨r13, hr13, hR⟩ := bindE hR
        refine cps (res' := .sc (.int .i64 r13.1)) (ups := [(0, boxB (α := spymake_Stream) false r13.2)]) [0] 149 rfl rfl rfl cb9 (ok9 r12.2 12 _ hr13) (.cons (ldP rfl rfl) (.cons (.sc _) (.nil))) (pc rfl (.box (.cons ldR' (.cons (.sc _) (.nil))) rfl) pn) rfl rfl rfl rfl rfl (by first | rfl | exact renR | exact renA | exact renS | simp only [V.ren, V.rens, renR, renA, renS] | (simp only [V.ren, V.rens, renR, renA, renS]; rfl)) (by simp only [passUps, renBox, renArr]; rfl) ?_
        refine pu (v := .sc _) rfl rfl (fun _ => rfl) ?_
        refine RunC.fin ?_
        refine AWP.cd hR rfl (fun h14 hR => ?_) fun h14 hR => ?_
        · refine AWP.rgC 165 rfl rfl ?_
          refine bu (cs := [.sc (.int .i64 0), .sc (.int .i64 0), .sc (.bool true)]) rfl bt44 rfl ?_
          refine stB (cs' := [.sc (.int .i64 0), .sc (.int .i64 0), .sc (.bool true)]) rfl rfl rfl rfl ti44 rfl rfl rfl rfl rfl ?_
          refine RunC.fin ?_
          refine AWP.rgC 221 rfl rfl ?_
          refine pu (v := slV curve_Sample _ _ _ _) rfl rfl (fun _ => rfl) ?_
          refine pu (v := .sc _) rfl rfl (fun _ => rfl) ?_
          refine pu (v := .sc _) rfl rfl (fun _ => rfl) ?_
          refine pu (v := .sc _) rfl rfl (fun _ => rfl) ?_
          refine pu (v := .sc _) rfl rfl (fun _ => rfl) ?_
          refine pu (v := .sc _) rfl rfl (fun _ => rfl) ?_
          refine qu rfl rfl rfl (by decide) rfl ?_
          obtain ⟨v15, ev15, hR⟩ := letE hR
          refine pu (v := .sc _) rfl rfl (fun _ => puI ev15) ?_
          refine bu (cs := [.sc (.int .i64 (w6 ((w6 (s3.2.2.1 + r6.1)) - (w6 (r9.1 * r10.1))))), .sc (.int .i64 v15), .sc (.bool false)]) rfl bt58 rfl ?_
          refine ldB (v := .agg _) rfl rfl rfl rfl ti44 rfl rfl ?_
          refine bu (cs := [.sc (.int .i64 (w6 ((w6 (s3.2.2.1 + r6.1)) - (w6 (r9.1 * r10.1))))), .sc (.int .i64 v15), .sc (.bool false), .sc (.int .i64 0), .sc (.int .i64 0), .sc (.bool true)]) rfl bt60 rfl ?_
          refine bs (α := curve_Sample) 209 true ([curve_Sample.mk (Bound.mk (w6 ((w6 (s3.2.2.1 + r6.1)) - (w6 (r9.1 * r10.1)))) v15 false) (Bound.mk 0 0 true)] : List curve_Sample) rfl rfl ti35 rfl ti60 rfl rfl rfl rfl rfl ?_
          obtain ⟨h16, hR⟩ := chkE hR
          refine ap' (α := curve_Sample) (nw := true) (xs := s3.2.1) (ys := ([curve_Sample.mk (Bound.mk (w6 ((w6 (s3.2.2.1 + r6.1)) - (w6 (r9.1 * r10.1)))) v15 false) (Bound.mk 0 0 true)] : List curve_Sample)) rfl rfl rfl rfl (srcS' rfl rfl rfl) ti35 rfl ti60 rfl h16 rfl ?_
          refine pu (v := slV curve_Sample _ _ _ _) rfl rfl (fun _ => rfl) ?_
          refine RunC.blk ?_
          refine RunC.fin ?_
          refine AWP.rgC 229 rfl rfl ?_
          refine pu (v := .sc _) rfl rfl (fun _ => rfl) ?_
          refine pu (v := .sc _) rfl rfl (fun _ => rfl) ?_
          refine RunC.fin ?_
          refine ⟨(r13.2, s3.2.1 ++ ([curve_Sample.mk (Bound.mk (w6 ((w6 (s3.2.2.1 + r6.1)) - (w6 (r9.1 * r10.1)))) v15 false) (Bound.mk 0 0 true)] : List curve_Sample), w6 (s3.2.2.1 + r6.1), w6 (s3.2.2.2 + 1)), (Option.some.inj hR).symm, ?_⟩
          exact Weak.turnL [(0, 0), (1, 0), (2, 0), (3, 0), (4, 0)] [] rfl rfl (tc (trP' rfl rfl rfl rfl) (tc (trP' rfl rfl rfl rfl) (tc (trP' rfl rfl rfl rfl) (tc (trS' rfl rfl rfl rfl rfl) (tc (.sc _) (tc (.sc _) (tc (.sc _) tn))))))) (mc rfl (.box rfl (.cons trR1 (.cons (.sc _) (.nil))) rfl) (mc rfl (.box rfl (.cons (.sc _) (.cons (.sc _) (.cons (.sc _) (.cons (.sc _) (.cons (.sc _) (.cons trR1 (.cons (.sc _) (.cons (.sc _) (.cons (.sc _) (.nil)))))))))) rfl) (mc rfl (.box rfl (.cons (.sc _) (.cons (trS' rfl rfl rfl rfl rfl) (.cons (.sc _) (.cons (.sc _) (.cons (.sc _) (.cons (.sc _) (.cons (.sc _) (.cons (.sc _) (.cons (.sc _) (.cons (.sc _) (.cons (.sc _) (.cons (.sc _) (.nil))))))))))))) rfl) (mc rfl (btrA' rfl) (mc rfl (btrA' rfl) mn)))))
        · refine AWP.skip ?_
          refine skT ?_
          refine AWP.rgC 213 rfl rfl ?_
          refine pu (v := slV curve_Sample _ _ _ _) rfl rfl (fun _ => rfl) ?_
          refine pu (v := .sc _) rfl rfl (fun _ => rfl) ?_
          refine pu (v := .sc _) rfl rfl (fun _ => rfl) ?_
          refine pu (v := .sc _) rfl rfl (fun _ => rfl) ?_
          refine pu (v := .sc _) rfl rfl (fun _ => rfl) ?_
          refine pu (v := .sc _) rfl rfl (fun _ => rfl) ?_
          refine qu rfl rfl rfl (by decide) rfl ?_
          obtain ⟨v17, ev17, hR⟩ := letE hR
          refine pu (v := .sc _) rfl rfl (fun _ => puI ev17) ?_
          refine bu (cs := [.sc (.int .i64 (w6 ((w6 (s3.2.2.1 + r6.1)) - (w6 (r9.1 * r10.1))))), .sc (.int .i64 v17), .sc (.bool false)]) rfl bt58 rfl ?_
          refine ldB (v := .agg _) rfl rfl rfl rfl ti44 rfl rfl ?_
          refine bu (cs := [.sc (.int .i64 (w6 ((w6 (s3.2.2.1 + r6.1)) - (w6 (r9.1 * r10.1))))), .sc (.int .i64 v17), .sc (.bool false), .sc (.int .i64 (w6 (r7.1 - r11.1))), .sc (.int .i64 (w6 (r7.1 + r12.1))), .sc (.bool false)]) rfl bt60 rfl ?_
          refine bs (α := curve_Sample) 201 true ([curve_Sample.mk (Bound.mk (w6 ((w6 (s3.2.2.1 + r6.1)) - (w6 (r9.1 * r10.1)))) v17 false) (Bound.mk (w6 (r7.1 - r11.1)) (w6 (r7.1 + r12.1)) false)] : List curve_Sample) rfl rfl ti35 rfl ti60 rfl rfl rfl rfl rfl ?_
          obtain ⟨h18, hR⟩ := chkE hR
          refine ap' (α := curve_Sample) (nw := true) (xs := s3.2.1) (ys := ([curve_Sample.mk (Bound.mk (w6 ((w6 (s3.2.2.1 + r6.1)) - (w6 (r9.1 * r10.1)))) v17 false) (Bound.mk (w6 (r7.1 - r11.1)) (w6 (r7.1 + r12.1)) false)] : List curve_Sample)) rfl rfl rfl rfl (srcS' rfl rfl rfl) ti35 rfl ti60 rfl h18 rfl ?_
          refine pu (v := slV curve_Sample _ _ _ _) rfl rfl (fun _ => rfl) ?_
          refine RunC.blk ?_
          refine RunC.fin ?_
          refine AWP.rgC 221 rfl rfl ?_
          refine pu (v := .sc _) rfl rfl (fun _ => rfl) ?_
          refine pu (v := .sc _) rfl rfl (fun _ => rfl) ?_
          refine RunC.fin ?_
          refine ⟨(r13.2, s3.2.1 ++ ([curve_Sample.mk (Bound.mk (w6 ((w6 (s3.2.2.1 + r6.1)) - (w6 (r9.1 * r10.1)))) v17 false) (Bound.mk (w6 (r7.1 - r11.1)) (w6 (r7.1 + r12.1)) false)] : List curve_Sample), w6 (s3.2.2.1 + r6.1), w6 (s3.2.2.2 + 1)), (Option.some.inj hR).symm, ?_⟩
          exact Weak.turnL [(0, 0), (1, 0), (2, 0), (3, 0), (4, 0)] [] rfl rfl (tc (trP' rfl rfl rfl rfl) (tc (trP' rfl rfl rfl rfl) (tc (trP' rfl rfl rfl rfl) (tc (trS' rfl rfl rfl rfl rfl) (tc (.sc _) (tc (.sc _) (tc (.sc _) tn))))))) (mc rfl (.box rfl (.cons trR1 (.cons (.sc _) (.nil))) rfl) (mc rfl (.box rfl (.cons (.sc _) (.cons (.sc _) (.cons (.sc _) (.cons (.sc _) (.cons (.sc _) (.cons trR1 (.cons (.sc _) (.cons (.sc _) (.cons (.sc _) (.nil)))))))))) rfl) (mc rfl (.box rfl (.cons (.sc _) (.cons (trS' rfl rfl rfl rfl rfl) (.cons (.sc _) (.cons (.sc _) (.cons (.sc _) (.cons (.sc _) (.cons (.sc _) (.cons (.sc _) (.cons (.sc _) (.cons (.sc _) (.cons (.sc _) (.cons (.sc _) (.nil))))))))))))) rfl) (mc rfl (btrA' rfl) (mc rfl (btrA' rfl) mn)))))
    · refine AWP.exit ?_
      refine exT ?_
      refine exT ?_
      refine exH (skT ?_)
      refine ⟨(s3.1, s3.2.1), (Option.some.inj hR).symm, ?_⟩
      exact Weak.turnL [(0, 0), (4, 0)] [] rfl rfl (tc (trS' rfl rfl rfl rfl rfl) tn) (mc rfl (.box rfl (.cons trR1 (.cons (.sc _) (.nil))) rfl) (mc rfl (btrA' rfl) mn))
  · refine skT ?_
    refine AWP.sq ?_
    refine AWP.rgC 10 rfl rfl ?_
    refine pu (v := slV curve_Sample _ _ _ _) rfl rfl (fun _ => rfl) ?_
    obtain ⟨r19, hr19, hR⟩ := bindE hR
    obtain ⟨h20, hR⟩ := chkE hR
    refine cps (res' := .tup []) (ups := [(1, arrB (α := curve_Sample) 60 0 false r19)]) [1] 6 rfl rfl rfl cb12 (okAny12 z4.2 _ hr19) (.cons (ldM rfl rfl) (.cons (.fn (.nil)) (.nil))) (pc rfl bldA pn) rfl rfl rfl rfl rfl (by first | rfl | exact renR | exact renA | exact renS | simp only [V.ren, V.rens, renR, renA, renS] | (simp only [V.ren, V.rens, renR, renA, renS]; rfl)) (by simp only [passUps, renBox, renArr]; rfl) ?_
    refine RunC.fin ?_
    refine AWP.sq ?_
    refine AWP.rgC 22 rfl rfl ?_
    refine pu (v := slV curve_Sample _ _ _ _) rfl rfl (fun _ => rfl) ?_
    refine pu (v := slV curve_Sample _ _ _ _) rfl rfl (fun _ => rfl) ?_
    refine pu (v := .sc _) rfl rfl (fun _ => rfl) ?_
    refine RunC.fin ?_
    refine AWP.ret ?_
    have hR := Option.some.inj hR; subst hR
    exact hQ _ _ (LS.mk [(6, rowV (α := curve_Sample) false r19), (7, .sc (.bool true))] (lblks 0 [boxB (α := spymake_Stream) false z4.1]) 1) (.tup [rowV (α := curve_Sample) false r19, .sc (.bool true)]) [] (.inr rfl) (Weak.turnL [(0, 0)] [1] rfl rfl (tc (trF' rfl rfl id h20) (tc (.sc _) tn)) (mc rfl (.box rfl (.cons trR1 (.cons (.sc _) (.nil))) rfl) mn)) (ro2 (rvT (v := rowV (α := curve_Sample) false r19) rfl) (rvT (v := .sc (.bool true)) rfl)) rfl rfl (.tup (.cons ldR' (.cons (.sc _) .nil))) (pc rfl bldB pn)
theorem ok4 (s : spymake_Stream) (id_ : Int) (at_ : Vec) (r : Star × spymake_Stream) (hR : Stream_Wave s id_ at_ = some r) : FnD Try.prog 4 [boxB false s] [.ptr 0 0 0, .sc (.int .i64 id_), aggV false at_] (aggV (α := Star) true r.1) [boxB false r.2] := by
  refine FnX.walk Try.func4 rfl 36 1 (by simp [Try.ntmps4]) rfl fun W S F Q hQ => ?_
  unfold Stream_Wave at hR
  refine AWP.sq ?_
  refine AWP.rgC 9 rfl rfl ?_
  refine bx (cs := _) 1 rfl rfl rfl ?_
  refine al (cs := [.sc (.int .i64 0), .sc (.int .i64 0), .sc (.int .i64 0), .sc (.int .i64 0), .sc (.int .i64 0), .sc (.slice none 0 0), .sc (.int .i64 0), .sc (.int .i64 0), .sc (.int .i64 0)]) 5 rfl rfl ti32 rfl rfl ?_
  refine RunC.fin ?_
  refine AWP.sq ?_
  refine AWP.rgD 37 [0, 0, 0, 4, 15, 0, 63] ⟨[3], [none, some [1], none, some [0], none, none, some [29]]⟩ hmix (by kernel_rfl) rfl rfl ?_
  refine pu (v := .sc _) rfl rfl (fun _ => rfl) ?_
  refine ldB (v := .agg _) rfl rfl rfl rfl ti27 rfl rfl ?_
  refine pu (v := .ptr _ _ _) rfl rfl (fun _ => rfl) ?_
  obtain ⟨r1, hr1, hR⟩ := bindE hR
  refine cps (res' := .sc (.int .i64 r1.1)) (ups := [(0, boxB (α := spymake_Stream) false r1.2)]) [0] 21 rfl rfl rfl cb9 (ok9 s 500 _ hr1) (.cons (ldP rfl rfl) (.cons (.sc _) (.nil))) (pc rfl (.box (.cons ldR' (.cons (.sc _) (.nil))) rfl) pn) rfl rfl rfl rfl rfl (by first | rfl | exact renR | exact renA | exact renS | simp only [V.ren, V.rens, renR, renA, renS] | (simp only [V.ren, V.rens, renR, renA, renS]; rfl)) (by simp only [passUps, renBox, renArr]; rfl) ?_
  refine bu (cs := [.sc (.int .i64 id_), .sc (.int .i64 at_.X), .sc (.int .i64 at_.Y), .sc (.int .i64 at_.Z), .sc (.int .i64 r1.1), .sc (.slice none 0 0), .sc (.int .i64 0), .sc (.int .i64 (-17592186044416)), .sc (.int .i64 17592186044416)]) rfl bt32 rfl ?_
  refine al (cs := [.sc (.int .i64 0), .sc (.int .i64 0), .sc (.int .i64 0), .sc (.int .i64 0), .sc (.int .i64 0), .sc (.slice none 0 0), .sc (.int .i64 0), .sc (.int .i64 0), .sc (.int .i64 0)]) 29 rfl rfl ti32 rfl rfl ?_
  refine stB (cs' := [.sc (.int .i64 id_), .sc (.int .i64 at_.X), .sc (.int .i64 at_.Y), .sc (.int .i64 at_.Z), .sc (.int .i64 r1.1), .sc (.slice none 0 0), .sc (.int .i64 0), .sc (.int .i64 (-17592186044416)), .sc (.int .i64 17592186044416)]) rfl rfl rfl rfl ti32 rfl rfl rfl rfl rfl ?_
  refine RunC.fin ?_
  refine AWP.sq ?_
  refine AWP.sq ?_
  refine AWP.rgC 49 rfl rfl ?_
  refine pu (v := .ptr _ _ _) rfl rfl (fun _ => rfl) ?_
  obtain ⟨r2, hr2, hR⟩ := bindE hR
  refine cps (res' := .sc (.int .i64 r2.1)) (ups := [(0, boxB (α := spymake_Stream) false r2.2)]) [0] 41 rfl rfl rfl cb10 (ok10 r1.2 1 6 _ hr2) (.cons (ldP rfl rfl) (.cons (.sc _) (.cons (.sc _) (.nil)))) (pc rfl (.box (.cons ldR' (.cons (.sc _) (.nil))) rfl) pn) rfl rfl rfl rfl rfl (by first | rfl | exact renR | exact renA | exact renS | simp only [V.ren, V.rens, renR, renA, renS] | (simp only [V.ren, V.rens, renR, renA, renS]; rfl)) (by simp only [passUps, renBox, renArr]; rfl) ?_
  refine pu (v := .sc _) rfl rfl (fun _ => rfl) ?_
  refine RunC.fin ?_
  refine AWP.nilB Int 29 5 28 rfl rfl (cs' := [.sc (.int .i64 id_), .sc (.int .i64 at_.X), .sc (.int .i64 at_.Y), .sc (.int .i64 at_.Z), .sc (.int .i64 r1.1), slV Int 49 0 0 0, .sc (.int .i64 0), .sc (.int .i64 (-17592186044416)), .sc (.int .i64 17592186044416)]) rfl ?_
  refine AWP.loopJ (fun s3 : spymake_Stream × (List Int) × Int => LS.mk [(0, .ptr 0 0 0), (6, .ptr 1 0 0), (7, .ptr 2 0 0), (14, .sc (.int .i64 r2.1)), (15, .sc (.int .i64 s3.2.2))] (lblks 0 [boxB (α := spymake_Stream) false s3.1, .box [.sc (.int .i64 0), .sc (.int .i64 0), .sc (.int .i64 0), .sc (.int .i64 0), .sc (.int .i64 0), .sc (.slice none 0 0), .sc (.int .i64 0), .sc (.int .i64 0), .sc (.int .i64 0)], .box [.sc (.int .i64 id_), .sc (.int .i64 at_.X), .sc (.int .i64 at_.Y), .sc (.int .i64 at_.Z), .sc (.int .i64 r1.1), slV Int 3 0 0 s3.2.1.length, .sc (.int .i64 0), .sc (.int .i64 (-17592186044416)), .sc (.int .i64 17592186044416)], arrB (α := Int) 28 0 true s3.2.1]) 4) (fun z4 : spymake_Stream × (List Int) => LS.mk [(0, .ptr 0 0 0), (6, .ptr 1 0 0), (7, .ptr 2 0 0)] (lblks 0 [boxB (α := spymake_Stream) false z4.1, .box [.sc (.int .i64 0), .sc (.int .i64 0), .sc (.int .i64 0), .sc (.int .i64 0), .sc (.int .i64 0), .sc (.slice none 0 0), .sc (.int .i64 0), .sc (.int .i64 0), .sc (.int .i64 0)], .box [.sc (.int .i64 id_), .sc (.int .i64 at_.X), .sc (.int .i64 at_.Y), .sc (.int .i64 at_.Z), .sc (.int .i64 r1.1), slV Int 3 0 0 z4.2.length, .sc (.int .i64 0), .sc (.int .i64 (-17592186044416)), .sc (.int .i64 17592186044416)], arrB (α := Int) 28 0 true z4.2]) 4) (Stream_Wave.l1 r2) hR (s0 := (r2.2, ([] : List Int), 0)) (Weak.turnL [(0, 0), (5, 0), (29, 0), (49, 0)] [] rfl rfl (tc (trP' rfl rfl rfl rfl) (tc (trP' rfl rfl rfl rfl) (tc (trP' rfl rfl rfl rfl) (tc (.sc _) (tc (.sc _) tn))))) (mc rfl (.box rfl (.cons trR1 (.cons (.sc _) (.nil))) rfl) (mc rfl (.box rfl (.cons (.sc _) (.cons (.sc _) (.cons (.sc _) (.cons (.sc _) (.cons (.sc _) (.cons (.sc _) (.cons (.sc _) (.cons (.sc _) (.cons (.sc _) (.nil)))))))))) rfl) (mc rfl (.box rfl (.cons (.sc _) (.cons (.sc _) (.cons (.sc _) (.cons (.sc _) (.cons (.sc _) (.cons (trS' rfl rfl rfl rfl rfl) (.cons (.sc _) (.cons (.sc _) (.cons (.sc _) (.nil)))))))))) rfl) (mc rfl (btrA' rfl) mn))))) (fun s3 o3 hR => ?_) fun z4 hR => ?_
  · unfold Stream_Wave.l1 at hR
    refine AWP.sq ?_
    refine AWP.rgC 8 rfl rfl ?_
    refine pu (v := .sc _) rfl rfl (fun _ => rfl) ?_
    refine RunC.fin ?_
    refine AWP.sq ?_
    refine AWP.cd hR rfl (fun h5 hR => ?_) fun h5 hR => ?_
    · refine AWP.skip ?_
      refine skT ?_
      refine AWP.sq ?_
      refine AWP.block ?_
      refine AWP.rgD 52 [0, 1, 0, 4, 0, 28, 60, 124, 255, 511, 1023] ⟨[3, 5], [none, some [2], none, some [0], none, some [0], none, none, some [3, 36], none, some [2]]⟩ hmix (by kernel_rfl) rfl rfl ?_
      refine fa rfl rfl ti32 rfl rfl ti29 rfl ?_
      refine ldB (v := slV Int _ _ _ _) rfl rfl rfl rfl ti29 rfl rfl ?_
      refine pu (v := .ptr _ _ _) rfl rfl (fun _ => rfl) ?_
      obtain ⟨r6, hr6, hR⟩ := bindE hR
      refine cps (res' := .sc (.int .i64 r6.1)) (ups := [(0, boxB (α := spymake_Stream) false r6.2)]) [0] 20 rfl rfl rfl cb9 (ok9 s3.1 4 _ hr6) (.cons (ldP rfl rfl) (.cons (.sc _) (.nil))) (pc rfl (.box (.cons ldR' (.cons (.sc _) (.nil))) rfl) pn) rfl rfl rfl rfl rfl (by first | rfl | exact renR | exact renA | exact renS | simp only [V.ren, V.rens, renR, renA, renS] | (simp only [V.ren, V.rens, renR, renA, renS]; rfl)) (by simp only [passUps, renBox, renArr]; rfl) ?_
      refine pu (v := .ptr _ _ _) rfl rfl (fun _ => rfl) ?_
      obtain ⟨r7, hr7, hR⟩ := bindE hR
      refine cps (res' := .sc (.int .i64 r7.1)) (ups := [(0, boxB (α := spymake_Stream) false r7.2)]) [0] 28 rfl rfl rfl cb9 (ok9 r6.2 300 _ hr7) (.cons (ldP rfl rfl) (.cons (.sc _) (.nil))) (pc rfl (.box (.cons ldR' (.cons (.sc _) (.nil))) rfl) pn) rfl rfl rfl rfl rfl (by first | rfl | exact renR | exact renA | exact renS | simp only [V.ren, V.rens, renR, renA, renS] | (simp only [V.ren, V.rens, renR, renA, renS]; rfl)) (by simp only [passUps, renBox, renArr]; rfl) ?_
      refine pu (v := .sc _) rfl rfl (fun _ => rfl) ?_
      refine bs (α := Int) 36 true ([w6 (r6.1 * r7.1)] : List Int) rfl rfl ti29 rfl ti28 rfl rfl rfl rfl rfl ?_
      obtain ⟨h8, hR⟩ := chkE hR
      refine ap' (α := Int) (nw := true) (xs := s3.2.1) (ys := ([w6 (r6.1 * r7.1)] : List Int)) rfl rfl rfl rfl (srcS' rfl rfl rfl) ti29 rfl ti28 rfl h8 rfl ?_
      refine fa rfl rfl ti32 rfl rfl ti29 rfl ?_
      refine stB (cs' := [.sc (.int .i64 id_), .sc (.int .i64 at_.X), .sc (.int .i64 at_.Y), .sc (.int .i64 at_.Z), .sc (.int .i64 r1.1), slV Int 3 1 0 (s3.2.1 ++ ([w6 (r6.1 * r7.1)] : List Int)).length, .sc (.int .i64 0), .sc (.int .i64 (-17592186044416)), .sc (.int .i64 17592186044416)]) rfl rfl rfl rfl ti29 rfl rfl rfl rfl rfl ?_
      refine RunC.blk ?_
      refine RunC.fin ?_
      refine AWP.rgC 60 rfl rfl ?_
      refine pu (v := .sc _) rfl rfl (fun _ => rfl) ?_
      refine pu (v := .sc _) rfl rfl (fun _ => rfl) ?_
      refine RunC.fin ?_
      refine ⟨(r7.2, s3.2.1 ++ ([w6 (r6.1 * r7.1)] : List Int), w6 (s3.2.2 + 1)), (Option.some.inj hR).symm, ?_⟩
      exact Weak.turnL [(0, 0), (1, 0), (2, 0), (3, 0)] [] rfl rfl (tc (trP' rfl rfl rfl rfl) (tc (trP' rfl rfl rfl rfl) (tc (trP' rfl rfl rfl rfl) (tc (.sc _) (tc (.sc _) tn))))) (mc rfl (.box rfl (.cons trR1 (.cons (.sc _) (.nil))) rfl) (mc rfl (.box rfl (.cons (.sc _) (.cons (.sc _) (.cons (.sc _) (.cons (.sc _) (.cons (.sc _) (.cons (.sc _) (.cons (.sc _) (.cons (.sc _) (.cons (.sc _) (.nil)))))))))) rfl) (mc rfl (.box rfl (.cons (.sc _) (.cons (.sc _) (.cons (.sc _) (.cons (.sc _) (.cons (.sc _) (.cons (trS' rfl rfl rfl rfl rfl) (.cons (.sc _) (.cons (.sc _) (.cons (.sc _) (.nil)))))))))) rfl) (mc rfl (btrA' rfl) mn))))
    · refine AWP.exit ?_
      refine exT ?_
      refine exT ?_
      refine exH (skT ?_)
      refine ⟨(s3.1, s3.2.1), (Option.some.inj hR).symm, ?_⟩
      exact Weak.turnL [(0, 0), (1, 0), (2, 0), (3, 0)] [] rfl rfl (tc (trP' rfl rfl rfl rfl) (tc (trP' rfl rfl rfl rfl) (tc (trP' rfl rfl rfl rfl) tn))) (mc rfl (.box rfl (.cons trR1 (.cons (.sc _) (.nil))) rfl) (mc rfl (.box rfl (.cons (.sc _) (.cons (.sc _) (.cons (.sc _) (.cons (.sc _) (.cons (.sc _) (.cons (.sc _) (.cons (.sc _) (.cons (.sc _) (.cons (.sc _) (.nil)))))))))) rfl) (mc rfl (.box rfl (.cons (.sc _) (.cons (.sc _) (.cons (.sc _) (.cons (.sc _) (.cons (.sc _) (.cons (trS' rfl rfl rfl rfl rfl) (.cons (.sc _) (.cons (.sc _) (.cons (.sc _) (.nil)))))))))) rfl) (mc rfl (btrA' rfl) mn))))
  · refine skT ?_
    refine AWP.sq ?_
    refine AWP.rgD 36 [0, 1, 3, 0, 8, 31, 63, 127] ⟨[4], [none, some [2], none, none, some [0], none, none, some [2]]⟩ hmix (by kernel_rfl) rfl rfl ?_
    refine fa rfl rfl ti32 rfl rfl ti29 rfl ?_
    refine ldB (v := slV Int _ _ _ _) rfl rfl rfl rfl ti29 rfl rfl ?_
    refine lenS (α := Int) rfl rfl ti29 rfl ?_
    refine pu (v := .ptr _ _ _) rfl rfl (fun _ => rfl) ?_
    obtain ⟨r9, hr9, hR⟩ := bindE hR
    refine cps (res' := .sc (.int .i64 r9.1)) (ups := [(0, boxB (α := spymake_Stream) false r9.2)]) [0] 20 rfl rfl rfl cb10 (ok10 z4.1 1 400 _ hr9) (.cons (ldP rfl rfl) (.cons (.sc _) (.cons (.sc _) (.nil)))) (pc rfl (.box (.cons ldR' (.cons (.sc _) (.nil))) rfl) pn) rfl rfl rfl rfl rfl (by first | rfl | exact renR | exact renA | exact renS | simp only [V.ren, V.rens, renR, renA, renS] | (simp only [V.ren, V.rens, renR, renA, renS]; rfl)) (by simp only [passUps, renBox, renArr]; rfl) ?_
    refine pu (v := .sc _) rfl rfl (fun _ => rfl) ?_
    refine fa rfl rfl ti32 rfl rfl ti30 rfl ?_
    refine stB (cs' := [.sc (.int .i64 id_), .sc (.int .i64 at_.X), .sc (.int .i64 at_.Y), .sc (.int .i64 at_.Z), .sc (.int .i64 r1.1), slV Int 3 0 0 z4.2.length, .sc (.int .i64 (w6 ((z4.2.length : Int) * r9.1))), .sc (.int .i64 (-17592186044416)), .sc (.int .i64 17592186044416)]) rfl rfl rfl rfl ti30 rfl rfl rfl rfl rfl ?_
    refine RunC.fin ?_
    refine AWP.sq ?_
    refine AWP.rgC 44 rfl rfl ?_
    refine ldB (v := .agg _) rfl rfl rfl rfl ti32 rfl rfl ?_
    refine stB (cs' := [.sc (.int .i64 id_), .sc (.int .i64 at_.X), .sc (.int .i64 at_.Y), .sc (.int .i64 at_.Z), .sc (.int .i64 r1.1), slV Int 3 0 0 z4.2.length, .sc (.int .i64 (w6 ((z4.2.length : Int) * r9.1))), .sc (.int .i64 (-17592186044416)), .sc (.int .i64 17592186044416)]) rfl rfl rfl rfl ti32 rfl rfl rfl rfl rfl ?_
    refine RunC.fin ?_
    refine AWP.ret ?_
    have hR := Option.some.inj hR; subst hR
    exact hQ _ _ (LS.mk [(6, .ptr 1 0 0)] (lblks 0 [boxB (α := spymake_Stream) false r9.2, boxB (α := Star) true (Star.mk id_ at_ r1.1 z4.2 (w6 ((z4.2.length : Int) * r9.1)) (-17592186044416) 17592186044416)]) 2) (aggV (α := Star) true (Star.mk id_ at_ r1.1 z4.2 (w6 ((z4.2.length : Int) * r9.1)) (-17592186044416) 17592186044416)) [] (.inr rfl) (Weak.turnL [(0, 0), (1, 0)] [3] rfl rfl (tc (trP' rfl rfl rfl rfl) tn) (mc rfl (.box rfl (.cons trR1 (.cons (.sc _) (.nil))) rfl) (mc rfl (.box rfl (.cons (.sc _) (.cons (.sc _) (.cons (.sc _) (.cons (.sc _) (.cons (.sc _) (.cons (trF' rfl rfl id rfl) (.cons (.sc _) (.cons (.sc _) (.cons (.sc _) (.nil)))))))))) rfl) mn))) (ro1 (rvC (v := aggV (α := Star) true (Star.mk id_ at_ r1.1 z4.2 (w6 ((z4.2.length : Int) * r9.1)) (-17592186044416) 17592186044416)) rfl rfl ti32 rfl)) rfl rfl ldA (pc rfl bldB pn)
theorem ok5 (s : spymake_Stream) (r : Vec × spymake_Stream) (hR : Stream_Vec s = some r) : FnD Try.prog 5 [boxB false s] [.ptr 0 0 0] (aggV (α := Vec) true r.1) [boxB false r.2] := by
  refine FnX.walk Try.func5 rfl 31 1 (by simp [Try.ntmps5]) rfl fun W S F Q hQ => ?_
  unfold Stream_Vec at hR
  refine AWP.sq ?_
  refine AWP.rgC 5 rfl rfl ?_
  refine al (cs := [.sc (.int .i64 0), .sc (.int .i64 0), .sc (.int .i64 0)]) 1 rfl rfl ti27 rfl rfl ?_
  refine RunC.fin ?_
  refine AWP.sq ?_
  refine AWP.rgC 29 rfl rfl ?_
  refine bs (α := Int) 5 true ([3, 100, 5000, 1048576] : List Int) rfl rfl ti22 rfl ti3 rfl rfl rfl rfl rfl ?_
  refine pu (v := .ptr _ _ _) rfl rfl (fun _ => rfl) ?_
  obtain ⟨r1, hr1, hR⟩ := bindE hR
  refine cps (res' := .sc (.int .i64 r1.1)) (ups := [(0, boxB (α := spymake_Stream) false r1.2)]) [0] 13 rfl rfl rfl cb9 (ok9 s 4 _ hr1) (.cons (ldP rfl rfl) (.cons (.sc _) (.nil))) (pc rfl (.box (.cons ldR' (.cons (.sc _) (.nil))) rfl) pn) rfl rfl rfl rfl rfl (by first | rfl | exact renR | exact renA | exact renS | simp only [V.ren, V.rens, renR, renA, renS] | (simp only [V.ren, V.rens, renR, renA, renS]; rfl)) (by simp only [passUps, renBox, renArr]; rfl) ?_
  obtain ⟨h2, hR⟩ := chkE hR
  refine ixS0 (α := Int) rfl rfl rfl ti22 rfl ti3 rfl h2 ?_
  refine ldE (α := Int) (v := .sc _) rfl rfl rfl (ixlt h2) ti3 rfl rfl rfl rfl ?_
  refine pu (v := .sc _) rfl rfl (fun _ => rfl) ?_
  refine RunC.fin ?_
  refine AWP.sq ?_
  refine AWP.rgC 101 rfl rfl ?_
  refine pu (v := .ptr _ _ _) rfl rfl (fun _ => rfl) ?_
  refine pu (v := .sc _) rfl rfl (fun _ => rfl) ?_
  refine pu (v := .sc _) rfl rfl (fun _ => rfl) ?_
  refine pu (v := .sc _) rfl rfl (fun _ => rfl) ?_
  obtain ⟨r3, hr3, hR⟩ := bindE hR
  refine cps (res' := .sc (.int .i64 r3.1)) (ups := [(0, boxB (α := spymake_Stream) false r3.2)]) [0] 45 rfl rfl rfl cb10 (ok10 r1.2 (w6 (0 - (gt ([3, 100, 5000, 1048576] : List Int) r1.1))) (gt ([3, 100, 5000, 1048576] : List Int) r1.1) _ hr3) (.cons (ldP rfl rfl) (.cons (.sc _) (.cons (.sc _) (.nil)))) (pc rfl (.box (.cons ldR' (.cons (.sc _) (.nil))) rfl) pn) rfl rfl rfl rfl rfl (by first | rfl | exact renR | exact renA | exact renS | simp only [V.ren, V.rens, renR, renA, renS] | (simp only [V.ren, V.rens, renR, renA, renS]; rfl)) (by simp only [passUps, renBox, renArr]; rfl) ?_
  refine pu (v := .ptr _ _ _) rfl rfl (fun _ => rfl) ?_
  refine pu (v := .sc _) rfl rfl (fun _ => rfl) ?_
  refine pu (v := .sc _) rfl rfl (fun _ => rfl) ?_
  refine pu (v := .sc _) rfl rfl (fun _ => rfl) ?_
  obtain ⟨r4, hr4, hR⟩ := bindE hR
  refine cps (res' := .sc (.int .i64 r4.1)) (ups := [(0, boxB (α := spymake_Stream) false r4.2)]) [0] 65 rfl rfl rfl cb10 (ok10 r3.2 (w6 (0 - (gt ([3, 100, 5000, 1048576] : List Int) r1.1))) (gt ([3, 100, 5000, 1048576] : List Int) r1.1) _ hr4) (.cons (ldP rfl rfl) (.cons (.sc _) (.cons (.sc _) (.nil)))) (pc rfl (.box (.cons ldR' (.cons (.sc _) (.nil))) rfl) pn) rfl rfl rfl rfl rfl (by first | rfl | exact renR | exact renA | exact renS | simp only [V.ren, V.rens, renR, renA, renS] | (simp only [V.ren, V.rens, renR, renA, renS]; rfl)) (by simp only [passUps, renBox, renArr]; rfl) ?_
  refine pu (v := .ptr _ _ _) rfl rfl (fun _ => rfl) ?_
  refine pu (v := .sc _) rfl rfl (fun _ => rfl) ?_
  refine pu (v := .sc _) rfl rfl (fun _ => rfl) ?_
  refine pu (v := .sc _) rfl rfl (fun _ => rfl) ?_
  obtain ⟨r5, hr5, hR⟩ := bindE hR
  refine cps (res' := .sc (.int .i64 r5.1)) (ups := [(0, boxB (α := spymake_Stream) false r5.2)]) [0] 85 rfl rfl rfl cb10 (ok10 r4.2 (w6 (0 - (gt ([3, 100, 5000, 1048576] : List Int) r1.1))) (gt ([3, 100, 5000, 1048576] : List Int) r1.1) _ hr5) (.cons (ldP rfl rfl) (.cons (.sc _) (.cons (.sc _) (.nil)))) (pc rfl (.box (.cons ldR' (.cons (.sc _) (.nil))) rfl) pn) rfl rfl rfl rfl rfl (by first | rfl | exact renR | exact renA | exact renS | simp only [V.ren, V.rens, renR, renA, renS] | (simp only [V.ren, V.rens, renR, renA, renS]; rfl)) (by simp only [passUps, renBox, renArr]; rfl) ?_
  refine bu (cs := [.sc (.int .i64 r3.1), .sc (.int .i64 r4.1), .sc (.int .i64 r5.1)]) rfl bt27 rfl ?_
  refine al (cs := [.sc (.int .i64 0), .sc (.int .i64 0), .sc (.int .i64 0)]) 93 rfl rfl ti27 rfl rfl ?_
  refine stB (cs' := [.sc (.int .i64 r3.1), .sc (.int .i64 r4.1), .sc (.int .i64 r5.1)]) rfl rfl rfl rfl ti27 rfl rfl rfl rfl rfl ?_
  refine RunC.fin ?_
  refine AWP.sq ?_
  refine AWP.sq ?_
  refine AWP.rgC 113 rfl rfl ?_
  refine ldB (v := .agg _) rfl rfl rfl rfl ti27 rfl rfl ?_
  refine bu (cs := [.sc (.int .i64 0), .sc (.int .i64 0), .sc (.int .i64 0)]) rfl bt27 rfl ?_
  refine es (cs := [.sc (.int .i64 r3.1), .sc (.int .i64 r4.1), .sc (.int .i64 r5.1)]) (ds := [.sc (.int .i64 0), .sc (.int .i64 0), .sc (.int .i64 0)]) rfl rfl rfl qa27 qg27 (qe27 _ _ _ _ _ _) ?_
  refine RunC.fin ?_
  refine AWP.cd hR rfl (fun h6 hR => ?_) fun h6 hR => ?_
  · refine AWP.rgC 121 rfl rfl ?_
    refine fa rfl rfl ti27 rfl rfl ti2 rfl ?_
    refine stB (cs' := [.sc (.int .i64 1), .sc (.int .i64 r4.1), .sc (.int .i64 r5.1)]) rfl rfl rfl rfl ti2 rfl rfl rfl rfl rfl ?_
    refine RunC.fin ?_
    refine AWP.sq ?_
    refine AWP.rgC 129 rfl rfl ?_
    refine ldB (v := .agg _) rfl rfl rfl rfl ti27 rfl rfl ?_
    refine stB (cs' := [.sc (.int .i64 1), .sc (.int .i64 r4.1), .sc (.int .i64 r5.1)]) rfl rfl rfl rfl ti27 rfl rfl rfl rfl rfl ?_
    refine RunC.fin ?_
    refine AWP.ret ?_
    have hR := Option.some.inj hR; subst hR
    exact hQ _ _ (LS.mk [(2, .ptr 1 0 0)] (lblks 0 [boxB (α := spymake_Stream) false r5.2, boxB (α := Vec) true (Vec.mk 1 r4.1 r5.1)]) 2) (aggV (α := Vec) true (Vec.mk 1 r4.1 r5.1)) [] (.inr rfl) (Weak.turnL [(0, 0), (1, 0)] [] rfl rfl (tc (trP' rfl rfl rfl rfl) tn) (mc rfl (.box rfl (.cons trR1 (.cons (.sc _) (.nil))) rfl) (mc rfl (.box rfl (.cons (.sc _) (.cons (.sc _) (.cons (.sc _) (.nil)))) rfl) mn))) (ro1 (rvC (v := aggV (α := Vec) true (Vec.mk 1 r4.1 r5.1)) rfl rfl ti27 rfl)) rfl rfl ldA (pc rfl bldB pn)
  · refine AWP.skip ?_
    refine skT ?_
    refine AWP.sq ?_
    refine AWP.rgC 121 rfl rfl ?_
    refine ldB (v := .agg _) rfl rfl rfl rfl ti27 rfl rfl ?_
    refine stB (cs' := [.sc (.int .i64 r3.1), .sc (.int .i64 r4.1), .sc (.int .i64 r5.1)]) rfl rfl rfl rfl ti27 rfl rfl rfl rfl rfl ?_
    refine RunC.fin ?_
    refine AWP.ret ?_
    have hR := Option.some.inj hR; subst hR
    exact hQ _ _ (LS.mk [(2, .ptr 1 0 0)] (lblks 0 [boxB (α := spymake_Stream) false r5.2, boxB (α := Vec) true (Vec.mk r3.1 r4.1 r5.1)]) 2) (aggV (α := Vec) true (Vec.mk r3.1 r4.1 r5.1)) [] (.inr rfl) (Weak.turnL [(0, 0), (1, 0)] [] rfl rfl (tc (trP' rfl rfl rfl rfl) tn) (mc rfl (.box rfl (.cons trR1 (.cons (.sc _) (.nil))) rfl) (mc rfl (.box rfl (.cons (.sc _) (.cons (.sc _) (.cons (.sc _) (.nil)))) rfl) mn))) (ro1 (rvC (v := aggV (α := Vec) true (Vec.mk r3.1 r4.1 r5.1)) rfl rfl ti27 rfl)) rfl rfl ldA (pc rfl bldB pn)
theorem ok3 (l : List Int) (r : Bool) (hR : spykeep4_CurveTrue l = some r) : FnP Try.prog 3 [rowV false l] (.sc (.bool r)) := by
  refine fnP_of (FnX.walk Try.func3 rfl 84 0 (by simp [Try.ntmps3]) rfl fun W S F Q hQ => ?_)
  unfold spykeep4_CurveTrue at hR
  refine AWP.sq ?_
  refine AWP.rgC 4 rfl rfl ?_
  refine pu (v := .sc _) rfl rfl (fun _ => rfl) ?_
  refine RunC.fin ?_
  refine AWP.sq ?_
  refine AWP.rgC 20 rfl rfl ?_
  refine pu (v := rowV _ l) rfl rfl (fun _ => rfl) ?_
  refine bu (cs := [rowV (α := Int) false l, .sc (.int .i64 0)]) rfl bt25 rfl ?_
  refine bx (cs := _) 12 rfl rfl rfl ?_
  refine pu (v := .ptr _ _ _) rfl rfl (fun _ => rfl) ?_
  refine RunC.fin ?_
  refine AWP.sq ?_
  refine AWP.rgC 44 rfl rfl ?_
  refine pu (v := .ptr _ _ _) rfl rfl (fun _ => rfl) ?_
  refine pu (v := .ptr _ _ _) rfl rfl (fun _ => rfl) ?_
  obtain ⟨r1, hr1, hR⟩ := bindE hR
  refine cps (res' := aggV (α := Vec) true r1.1) (ups := [(12, boxB (α := spymake_Stream) false r1.2)]) [12] 28 rfl rfl rfl cb5 (ok5 (spymake_Stream.mk l 0) _ hr1) (.cons (ldP rfl rfl) (.nil)) (pc rfl (.box (.cons ldR' (.cons (.sc _) (.nil))) rfl) pn) rfl rfl rfl rfl rfl (by first | rfl | exact renR | exact renA | exact renS | simp only [V.ren, V.rens, renR, renA, renS] | (simp only [V.ren, V.rens, renR, renA, renS]; rfl)) (by simp only [passUps, renBox, renArr]; rfl) ?_
  obtain ⟨r2, hr2, hR⟩ := bindE hR
  refine cps (res' := aggV (α := Star) true r2.1) (ups := [(12, boxB (α := spymake_Stream) false r2.2)]) [12] 32 rfl rfl rfl cb4 (ok4 r1.2 1 r1.1 _ hr2) (.cons (ldP rfl rfl) (.cons (.sc _) (.cons (.agg (.cons (.sc _) (.cons (.sc _) (.cons (.sc _) (.nil)))) rfl) (.nil)))) (pc rfl (.box (.cons ldR' (.cons (.sc _) (.nil))) rfl) pn) rfl rfl rfl rfl rfl (by first | rfl | exact renR | exact renA | exact renS | simp only [V.ren, V.rens, renR, renA, renS] | (simp only [V.ren, V.rens, renR, renA, renS]; rfl)) (by simp only [passUps, renBox, renArr]; rfl) ?_
  refine al (cs := [.sc (.int .i64 0), .sc (.int .i64 0), .sc (.int .i64 0), .sc (.int .i64 0), .sc (.int .i64 0), .sc (.slice none 0 0), .sc (.int .i64 0), .sc (.int .i64 0), .sc (.int .i64 0)]) 36 rfl rfl ti32 rfl rfl ?_
  refine stB (cs' := [.sc (.int .i64 r2.1.ID), .sc (.int .i64 r2.1.At.X), .sc (.int .i64 r2.1.At.Y), .sc (.int .i64 r2.1.At.Z), .sc (.int .i64 r2.1.Rate), rowV (α := Int) true r2.1.Wave, .sc (.int .i64 r2.1.Period), .sc (.int .i64 r2.1.From), .sc (.int .i64 r2.1.To)]) rfl rfl rfl rfl ti32 rfl rfl rfl rfl rfl ?_
  refine RunC.fin ?_
  refine AWP.sq ?_
  refine AWP.rgC 76 rfl rfl ?_
  refine pu (v := .ptr _ _ _) rfl rfl (fun _ => rfl) ?_
  refine ldB (v := .agg _) rfl rfl rfl rfl ti32 rfl rfl ?_
  obtain ⟨r3, hr3, hR⟩ := bindE hR
  refine cps (res' := .tup [rowV (α := curve_Sample) false r3.1, .sc (.bool r3.2.1)]) (ups := [(12, boxB (α := spymake_Stream) false r3.2.2)]) [12] 52 rfl rfl rfl cb6 (ok6 r2.2 r2.1 20 _ hr3) (.cons (ldP rfl rfl) (.cons (.agg (.cons (.sc _) (.cons (.sc _) (.cons (.sc _) (.cons (.sc _) (.cons (.sc _) (.cons ldR' (.cons (.sc _) (.cons (.sc _) (.cons (.sc _) (.nil)))))))))) rfl) (.cons (.sc _) (.nil)))) (pc rfl (.box (.cons ldR' (.cons (.sc _) (.nil))) rfl) pn) rfl rfl rfl rfl rfl (by first | rfl | exact renR | exact renA | exact renS | simp only [V.ren, V.rens, renR, renA, renS] | (simp only [V.ren, V.rens, renR, renA, renS]; rfl)) (by simp only [passUps, renBox, renArr]; rfl) ?_
  refine pu (v := .tup _) rfl rfl (fun _ => rfl) ?_
  refine pu (v := rowV _ r3.1) rfl rfl (fun _ => rfl) ?_
  refine pu (v := .sc _) rfl rfl (fun _ => rfl) ?_
  refine pu (v := rowV _ r3.1) rfl rfl (fun _ => rfl) ?_
  refine pu (v := .sc _) rfl rfl (fun _ => rfl) ?_
  refine RunC.fin ?_
  refine AWP.sq ?_
  refine AWP.rgC 124 rfl rfl ?_
  refine pu (v := rowV _ r3.1) rfl rfl (fun _ => rfl) ?_
  refine fa rfl rfl ti32 rfl rfl ti30 rfl ?_
  refine ldB (v := .sc _) rfl rfl rfl rfl ti30 rfl rfl ?_
  refine fa rfl rfl ti32 rfl rfl ti29 rfl ?_
  refine ldB (v := rowV _ r2.1.Wave) rfl rfl rfl rfl ti29 rfl rfl ?_
  refine lenL (α := Int) rfl rfl ti29 rfl ?_
  obtain ⟨r4, hr4, hR⟩ := bindE hR
  refine cls [] rfl rfl cb7 (ok7 r3.1 r2.1.Period (r2.1.Wave.length : Int) _ hr4) (.cons ldR' (.cons (.sc _) (.cons (.sc _) (.nil)))) (.inr rfl) rfl ?_
  refine pu (v := .tup _) rfl rfl (fun _ => rfl) ?_
  refine pu (v := rowV _ r4.1) rfl rfl (fun _ => rfl) ?_
  refine pu (v := .sc _) rfl rfl (fun _ => rfl) ?_
  refine pu (v := rowV _ r4.1) rfl rfl (fun _ => rfl) ?_
  refine pu (v := .sc _) rfl rfl (fun _ => rfl) ?_
  refine RunC.fin ?_
  refine AWP.sq ?_
  refine AWP.joinX (fun z5 : Bool => LS.mk [(4, .ptr 0 0 0), (7, rowV (α := Bound) true r4.1), (52, .sc (.bool z5))] (lblks 0 [boxB (α := Star) true r2.1]) 1) hR (fun o5 hR => ?_) fun z5 hR => ?_
  · refine AWP.rgC 196 rfl rfl ?_
    obtain ⟨r6, hr6, hR⟩ := bindE hR
    refine cls [] rfl rfl cb8 (ok8 _ hr6) (.nil) (.inr rfl) rfl ?_
    refine pu (v := .sc _) rfl rfl (fun _ => rfl) ?_
    refine pu (v := .sc _) rfl rfl (fun _ => rfl) ?_
    refine brR hR (fun h7 hR => ?_) fun h7 hR => ?_
    · refine sk (skW rfl rfl rfl h7) ?_
      refine sk (skW rfl rfl rfl h7) ?_
      refine pkT (v := .sc (.bool true)) rfl rfl h7 rfl ?_
      refine pu (v := .sc _) rfl rfl (fun _ => rfl) ?_
      refine sk (skW rfl rfl rfl rfl) ?_
      refine sk (skW rfl rfl rfl rfl) ?_
      refine pkT (v := .sc (.bool true)) rfl rfl rfl rfl ?_
      refine pu (v := .sc _) rfl rfl (fun _ => rfl) ?_
      refine sk (skW rfl rfl rfl rfl) ?_
      refine sk (skW rfl rfl rfl rfl) ?_
      refine sk (skW rfl rfl rfl rfl) ?_
      refine sk (skW rfl rfl rfl rfl) ?_
      refine sk (skW rfl rfl rfl rfl) ?_
      refine sk (skW rfl rfl rfl rfl) ?_
      refine pkT (v := .sc (.bool true)) rfl rfl rfl rfl ?_
      refine RunC.fin ?_
      have hR := Option.some.inj hR; subst hR
      exact Weak.turnL [(36, 0)] [] rfl rfl (tc (trP' rfl rfl rfl rfl) (tc trR1 (tc (.sc _) tn))) (mc rfl (.box rfl (.cons (.sc _) (.cons (.sc _) (.cons (.sc _) (.cons (.sc _) (.cons (.sc _) (.cons trR1 (.cons (.sc _) (.cons (.sc _) (.cons (.sc _) (.nil)))))))))) rfl) mn)
    · refine pu (v := .sc _) (wtG rfl rfl rfl h7) rfl (fun _ => rfl) ?_
      refine pu (v := .sc _) (wtG rfl rfl rfl h7) rfl (fun _ => rfl) ?_
      refine pkF (v := .sc (.bool (!r3.2.1))) rfl rfl h7 rfl ?_
      refine pu (v := .sc _) rfl rfl (fun _ => rfl) ?_
      refine brR hR (fun h8 hR => ?_) fun h8 hR => ?_
      · refine sk (skW rfl rfl rfl h8) ?_
        refine sk (skW rfl rfl rfl h8) ?_
        refine pkT (v := .sc (.bool true)) rfl rfl h8 rfl ?_
        refine pu (v := .sc _) rfl rfl (fun _ => rfl) ?_
        refine sk (skW rfl rfl rfl rfl) ?_
        refine sk (skW rfl rfl rfl rfl) ?_
        refine sk (skW rfl rfl rfl rfl) ?_
        refine sk (skW rfl rfl rfl rfl) ?_
        refine sk (skW rfl rfl rfl rfl) ?_
        refine sk (skW rfl rfl rfl rfl) ?_
        refine pkT (v := .sc (.bool true)) rfl rfl rfl rfl ?_
        refine RunC.fin ?_
        have hR := Option.some.inj hR; subst hR
        exact Weak.turnL [(36, 0)] [] rfl rfl (tc (trP' rfl rfl rfl rfl) (tc trR1 (tc (.sc _) tn))) (mc rfl (.box rfl (.cons (.sc _) (.cons (.sc _) (.cons (.sc _) (.cons (.sc _) (.cons (.sc _) (.cons trR1 (.cons (.sc _) (.cons (.sc _) (.cons (.sc _) (.nil)))))))))) rfl) mn)
      · refine pu (v := .sc _) (wtG rfl rfl rfl h8) rfl (fun _ => rfl) ?_
        refine pu (v := .sc _) (wtG rfl rfl rfl h8) rfl (fun _ => rfl) ?_
        refine pkF (v := .sc (.bool (r4.2 != 0))) rfl rfl h8 rfl ?_
        refine pu (v := .sc _) rfl rfl (fun _ => rfl) ?_
        refine brR hR (fun h9 hR => ?_) fun h9 hR => ?_
        · refine sk (skW rfl rfl rfl h9) ?_
          refine sk (skW rfl rfl rfl h9) ?_
          refine sk (skW rfl rfl rfl h9) ?_
          refine sk (skW rfl rfl rfl h9) ?_
          refine sk (skW rfl rfl rfl h9) ?_
          refine sk (skW rfl rfl rfl h9) ?_
          refine pkT (v := .sc (.bool true)) rfl rfl h9 rfl ?_
          refine RunC.fin ?_
          have hR := Option.some.inj hR; subst hR
          exact Weak.turnL [(36, 0)] [] rfl rfl (tc (trP' rfl rfl rfl rfl) (tc trR1 (tc (.sc _) tn))) (mc rfl (.box rfl (.cons (.sc _) (.cons (.sc _) (.cons (.sc _) (.cons (.sc _) (.cons (.sc _) (.cons trR1 (.cons (.sc _) (.cons (.sc _) (.cons (.sc _) (.nil)))))))))) rfl) mn)
        · refine pu (v := rowV _ r4.1) (wtG rfl rfl rfl h9) rfl (fun _ => rfl) ?_
          refine lenL (α := Bound) (wtG rfl rfl rfl h9) rfl ti38 rfl ?_
          refine fa (wtG rfl rfl rfl h9) rfl ti32 rfl rfl ti29 rfl ?_
          refine ldB (v := rowV _ r2.1.Wave) (wtG rfl rfl rfl h9) rfl rfl rfl ti29 rfl rfl ?_
          refine lenL (α := Int) (wtG rfl rfl rfl h9) rfl ti29 rfl ?_
          refine pu (v := .sc _) (wtG rfl rfl rfl h9) rfl (fun _ => rfl) ?_
          refine pkF (v := .sc (.bool ((r4.1.length : Int) != (r2.1.Wave.length : Int)))) rfl rfl h9 rfl ?_
          refine RunC.fin ?_
          have hR := Option.some.inj hR; subst hR
          exact Weak.turnL [(36, 0)] [] rfl rfl (tc (trP' rfl rfl rfl rfl) (tc trR1 (tc (.sc _) tn))) (mc rfl (.box rfl (.cons (.sc _) (.cons (.sc _) (.cons (.sc _) (.cons (.sc _) (.cons (.sc _) (.cons trR1 (.cons (.sc _) (.cons (.sc _) (.cons (.sc _) (.nil)))))))))) rfl) mn)
  · refine AWP.cd hR rfl (fun h10 hR => ?_) fun h10 hR => ?_
    · refine AWP.sq ?_
      refine AWP.rgC 5 rfl rfl ?_
      refine pu (v := .sc _) rfl rfl (fun _ => rfl) ?_
      refine RunC.fin ?_
      refine AWP.ret ?_
      refine rtT ?_
      have hR := Option.some.inj hR; subst hR
      exact hQ _ _ (LS.mk [(2, .sc (.bool false))] (lblks 0 []) 0) (.sc (.bool false)) [] (.inr rfl) (Weak.turnL [] [] rfl rfl (tc (.sc _) tn) mn) (ro1 (rvT (v := .sc (.bool false)) rfl)) rfl rfl (.sc _) pn
    · refine AWP.skip ?_
      refine skT ?_
      refine AWP.sq ?_
      refine AWP.sq ?_
      refine AWP.rgC 13 rfl rfl ?_
      refine pu (v := rowV _ r4.1) rfl rfl (fun _ => rfl) ?_
      refine lenL (α := Bound) rfl rfl ti38 rfl ?_
      refine pu (v := .sc _) rfl rfl (fun _ => rfl) ?_
      refine RunC.fin ?_
      refine AWP.loopK' (fun s11 : Int => LS.mk [(4, .ptr 0 0 0), (53, rowV (α := Bound) true r4.1), (54, .sc (.int .i64 (r4.1.length : Int))), (55, .sc (.int .i64 s11))] (lblks 0 [boxB (α := Star) true r2.1]) 1) (fun z12 : Unit => LS.mk [] (lblks 0 []) 0) (spykeep4_CurveTrue.l1 r2 r4) hR (s0 := 0) (Weak.turnL [(0, 0)] [] rfl rfl (tc (trP' rfl rfl rfl rfl) (tc trR1 (tc (.sc _) (tc (.sc _) tn)))) (mc rfl (.box rfl (.cons (.sc _) (.cons (.sc _) (.cons (.sc _) (.cons (.sc _) (.cons (.sc _) (.cons trR1 (.cons (.sc _) (.cons (.sc _) (.cons (.sc _) (.nil)))))))))) rfl) mn)) (fun s11 o11 hR hE11 => ?_) fun z12 hR => ?_
      · unfold spykeep4_CurveTrue.l1 at hR
        refine AWP.sq ?_
        refine AWP.rgC 5 rfl rfl ?_
        refine pu (v := .sc _) rfl rfl (fun _ => rfl) ?_
        refine RunC.fin ?_
        refine AWP.sq ?_
        refine AWP.cd hR rfl (fun h13 hR => ?_) fun h13 hR => ?_
        · refine AWP.skip ?_
          refine skT ?_
          refine AWP.sq ?_
          refine AWP.block ?_
          refine AWP.sq ?_
          refine AWP.rgC 29 rfl rfl ?_
          refine pu (v := .sc _) rfl rfl (fun _ => rfl) ?_
          obtain ⟨h14, hR⟩ := chkE hR
          refine ixL (α := Bound) rfl rfl rfl ti38 rfl ti44 rfl h14 ?_
          refine ldR (v := .agg _) rfl rfl ti44 rfl ?_
          refine al (cs := [.sc (.int .i64 0), .sc (.int .i64 0), .sc (.bool false)]) 17 rfl rfl ti44 rfl rfl ?_
          refine pu (v := .sc _) rfl rfl (fun _ => rfl) ?_
          refine stB (cs' := [.sc (.int .i64 (gt r4.1 s11).Lo), .sc (.int .i64 (gt r4.1 s11).Hi), .sc (.bool (gt r4.1 s11).Unknown)]) rfl rfl rfl rfl ti44 rfl rfl rfl rfl rfl ?_
          refine RunC.fin ?_
          refine AWP.sq ?_
          refine AWP.rgD 65 [0, 1, 0, 4, 0, 28, 60, 127, 255] ⟨[], [none, some [0], none, some [0], none, none, some [], none, none]⟩ hmix (by kernel_rfl) rfl rfl ?_
          refine fa rfl rfl ti32 rfl rfl ti28 rfl ?_
          refine ldB (v := .sc _) rfl rfl rfl rfl ti28 rfl rfl ?_
          refine fa rfl rfl ti32 rfl rfl ti29 rfl ?_
          refine ldB (v := rowV _ r2.1.Wave) rfl rfl rfl rfl ti29 rfl rfl ?_
          refine pu (v := .sc _) rfl rfl (fun _ => rfl) ?_
          obtain ⟨h15, hR⟩ := chkE hR
          refine ixL (α := Int) rfl rfl rfl ti29 rfl ti28 rfl h15 ?_
          refine ldR (v := .sc _) rfl rfl ti28 rfl ?_
          refine pu (v := .sc _) rfl rfl (fun _ => rfl) ?_
          refine pu (v := .sc _) rfl rfl (fun _ => rfl) ?_
          refine RunC.fin ?_
          refine AWP.joinX (fun z16 : Bool => LS.mk [(4, .ptr 0 0 0), (53, rowV (α := Bound) true r4.1), (54, .sc (.int .i64 (r4.1.length : Int))), (55, .sc (.int .i64 s11)), (82, .sc (.bool z16))] (lblks 0 [boxB (α := Star) true r2.1]) 1) hR (fun o16 hR => ?_) fun z16 hR => ?_
          · refine AWP.rgC 125 rfl rfl ?_
            refine fa rfl rfl ti44 rfl rfl ti4 rfl ?_
            refine ldB (v := .sc _) rfl rfl rfl rfl ti4 rfl rfl ?_
            refine pu (v := .sc _) rfl rfl (fun _ => rfl) ?_
            refine pu (v := .sc _) rfl rfl (fun _ => rfl) ?_
            refine brR hR (fun h17 hR => ?_) fun h17 hR => ?_
            · refine pu (v := .sc _) (wtG rfl rfl rfl h17) rfl (fun _ => rfl) ?_
              refine fa (wtG rfl rfl rfl h17) rfl ti44 rfl rfl ti28 rfl ?_
              refine ldB (v := .sc _) (wtG rfl rfl rfl h17) rfl rfl rfl ti28 rfl rfl ?_
              obtain ⟨v18, ev18, hR⟩ := letE hR
              refine pu (v := .sc _) (wtG rfl rfl rfl h17) rfl (fun _ => puB ev18) ?_
              refine pu (v := .sc _) (wtG rfl rfl rfl h17) rfl (fun _ => rfl) ?_
              refine brR hR (fun h19 hR => ?_) fun h19 hR => ?_
              · refine sk (skW rfl rfl rfl h19) ?_
                refine sk (skW rfl rfl rfl h19) ?_
                refine sk (skW rfl rfl rfl h19) ?_
                refine sk (skW rfl rfl rfl h19) ?_
                refine pkT (v := .sc (.bool true)) (wtG rfl rfl rfl h17) rfl h19 rfl ?_
                refine pkT (v := .sc (.bool true)) rfl rfl h17 rfl ?_
                refine RunC.fin ?_
                have hR := Option.some.inj hR; subst hR
                exact Weak.turnL [(0, 0)] [] rfl rfl (tc (trP' rfl rfl rfl rfl) (tc trR1 (tc (.sc _) (tc (.sc _) (tc (.sc _) tn))))) (mc rfl (.box rfl (.cons (.sc _) (.cons (.sc _) (.cons (.sc _) (.cons (.sc _) (.cons (.sc _) (.cons trR1 (.cons (.sc _) (.cons (.sc _) (.cons (.sc _) (.nil)))))))))) rfl) mn)
              · refine pu (v := .sc _) (wtG rfl rfl rfl h19) rfl (fun _ => rfl) ?_
                refine fa (wtG rfl rfl rfl h19) rfl ti44 rfl rfl ti28 rfl ?_
                refine ldB (v := .sc _) (wtG rfl rfl rfl h19) rfl rfl rfl ti28 rfl rfl ?_
                obtain ⟨v20, ev20, hR⟩ := letE hR
                refine pu (v := .sc _) (wtG rfl rfl rfl h19) rfl (fun _ => puB ev20) ?_
                refine pkF (v := .sc (.bool v20)) (wtG rfl rfl rfl h17) rfl h19 rfl ?_
                refine pkT (v := .sc (.bool v20)) rfl rfl h17 rfl ?_
                refine RunC.fin ?_
                have hR := Option.some.inj hR; subst hR
                exact Weak.turnL [(0, 0)] [] rfl rfl (tc (trP' rfl rfl rfl rfl) (tc trR1 (tc (.sc _) (tc (.sc _) (tc (.sc _) tn))))) (mc rfl (.box rfl (.cons (.sc _) (.cons (.sc _) (.cons (.sc _) (.cons (.sc _) (.cons (.sc _) (.cons trR1 (.cons (.sc _) (.cons (.sc _) (.cons (.sc _) (.nil)))))))))) rfl) mn)
            · refine sk (skW rfl rfl rfl h17) ?_
              refine sk (skW rfl rfl rfl h17) ?_
              refine sk (skW rfl rfl rfl h17) ?_
              refine sk (skW rfl rfl rfl h17) ?_
              refine sk (skW rfl rfl rfl h17) ?_
              refine sk (skW2 rfl rfl rfl) ?_
              refine sk (skW2 rfl rfl rfl) ?_
              refine sk (skW2 rfl rfl rfl) ?_
              refine sk (skW2 rfl rfl rfl) ?_
              refine sk (skW rfl rfl rfl h17) ?_
              refine pkF (v := .sc (.bool false)) rfl rfl h17 rfl ?_
              refine RunC.fin ?_
              have hR := Option.some.inj hR; subst hR
              exact Weak.turnL [(0, 0)] [] rfl rfl (tc (trP' rfl rfl rfl rfl) (tc trR1 (tc (.sc _) (tc (.sc _) (tc (.sc _) tn))))) (mc rfl (.box rfl (.cons (.sc _) (.cons (.sc _) (.cons (.sc _) (.cons (.sc _) (.cons (.sc _) (.cons trR1 (.cons (.sc _) (.cons (.sc _) (.cons (.sc _) (.nil)))))))))) rfl) mn)
          · refine AWP.cd hR rfl (fun h21 hR => ?_) fun h21 hR => ?_
            · refine AWP.sq ?_
              refine AWP.rgC 5 rfl rfl ?_
              refine pu (v := .sc _) rfl rfl (fun _ => rfl) ?_
              refine RunC.fin ?_
              refine AWP.ret ?_
              refine rtB ?_
              refine rtT ?_
              refine rtT ?_
              refine rtB (rtT ?_)
              replace hR := escL hR hE11
              refine rtT ?_
              have hR := Option.some.inj hR; subst hR
              exact hQ _ _ (LS.mk [(2, .sc (.bool false))] (lblks 0 []) 0) (.sc (.bool false)) [] (.inr rfl) (Weak.turnL [] [] rfl rfl (tc (.sc _) tn) mn) (ro1 (rvT (v := .sc (.bool false)) rfl)) rfl rfl (.sc _) pn
            · refine AWP.skip ?_
              refine skB ?_
              refine skT ?_
              refine AWP.rgC 9 rfl rfl ?_
              refine pu (v := .sc _) rfl rfl (fun _ => rfl) ?_
              refine pu (v := .sc _) rfl rfl (fun _ => rfl) ?_
              refine RunC.fin ?_
              refine ⟨(w6 (s11 + 1)), (Option.some.inj hR).symm, ?_⟩
              exact Weak.turnL [(0, 0)] [] rfl rfl (tc (trP' rfl rfl rfl rfl) (tc trR1 (tc (.sc _) (tc (.sc _) tn)))) (mc rfl (.box rfl (.cons (.sc _) (.cons (.sc _) (.cons (.sc _) (.cons (.sc _) (.cons (.sc _) (.cons trR1 (.cons (.sc _) (.cons (.sc _) (.cons (.sc _) (.nil)))))))))) rfl) mn)
        · refine AWP.exit ?_
          refine exT ?_
          refine exT ?_
          refine exH (skT ?_)
          refine ⟨(), (Option.some.inj hR).symm, ?_⟩
          exact Weak.turnL [] [] rfl rfl tn mn
      · refine skT ?_
        refine AWP.sq ?_
        refine AWP.rgC 4 rfl rfl ?_
        refine pu (v := .sc _) rfl rfl (fun _ => rfl) ?_
        refine RunC.fin ?_
        refine AWP.ret ?_
        have hR := Option.some.inj hR; subst hR
        exact hQ _ _ (LS.mk [(2, .sc (.bool true))] (lblks 0 []) 0) (.sc (.bool true)) [] (.inr rfl) (Weak.turnL [] [] rfl rfl (tc (.sc _) tn) mn) (ro1 (rvT (v := .sc (.bool true)) rfl)) rfl rfl (.sc _) pn
end Go.Proofs.Cut
