/- Each function of the program computes its plain function. Conditions: as each theorem states them. -/
import Derived.Test.YtbldfhcnkbahaaaGreatA3
import Derived.Test.YtbldfhcnkbahaaaGreatA4
import Derived.Test.YtbldfhcnkbahaaaGreatT
import Derived.Test.YtbldfhcnkbahaaaGreatP3
namespace Go.Proofs.Ids
open Go Go.Abs Lf
set_option linter.unusedVariables false
set_option linter.unusedSimpArgs false
set_option maxRecDepth 100000
set_option maxHeartbeats 1000000
theorem ok83 (p : Bound × Bound × Bound) (r : (Bound × Bound × Bound)) (hR : predict_Pull p = some r) : FnP Tryz.prog 83 [aggV false p] (aggV (α := Bound × Bound × Bound) true r) := by
 refine fnP_of (FnX.walk Tryz.func83 rfl 69 0 (by simp [Tryz.ntmps83]) rfl fun W S F Q hQ => ?_)
 unfold predict_Pull at hR
 refine AWP.sq (AWP.rgC 8 rfl rfl (bx (cs := _) 0 rfl rfl rfl (al (cs := [iV 0, iV 0, bV false, iV 0, iV 0, bV false, iV 0, iV 0, bV false]) 4 rfl rfl ti84 rfl rfl (RunC.fin (AWP.sq (AWP.rgC 44 rfl rfl (ldB (v := .agg _) rfl rfl rfl rfl ti84 rfl rfl ?_)))))))
 obtain ⟨r1, hr1, hR⟩ := bindE hR
 refine cls [] rfl rfl cb98 (ok98 p _ hr1) (.cons (.agg .z9 rfl) (.nil)) (.inr rfl) rfl (pu (v := .tup _) rfl rfl (fun _ => rfl) (pS rfl (pS rfl (pS rfl (pS rfl (pS rfl (pS rfl (RunC.fin (AWP.sq (AWP.rgC 48 rfl rfl (al (cs := [iV 0, iV 0, bV false, iV 0, iV 0, bV false, iV 0, iV 0, bV false]) 44 rfl rfl ti84 rfl rfl (RunC.fin (AWP.sq (AWP.sq (AWP.rgC 56 rfl rfl (ldB (v := .agg _) rfl rfl rfl rfl ti84 rfl rfl ?_))))))))))))))))
 refine pS rfl (RunC.fin (AWP.loopJ (fun s2 : (Bound × Bound × Bound) × Int => LS.mk [(2, .ptr 0 0 0), (3, iV r1.1), (4, iV r1.2.1), (5, bV r1.2.2), (6, .ptr 1 0 0), (18, aggV (α := Bound × Bound × Bound) true p), (19, iV s2.2)] (lblks 0 [boxB (α := Bound × Bound × Bound) true (Bound.mk 0 0 false, Bound.mk 0 0 false, Bound.mk 0 0 false), boxB (α := Bound × Bound × Bound) true s2.1]) 2) (fun z3 : (Bound × Bound × Bound) => LS.mk [(2, .ptr 0 0 0), (6, .ptr 1 0 0)] (lblks 0 [boxB (α := Bound × Bound × Bound) true (Bound.mk 0 0 false, Bound.mk 0 0 false, Bound.mk 0 0 false), boxB (α := Bound × Bound × Bound) true z3]) 2) (predict_Pull.l1 p r1) hR (s0 := ((Bound.mk 0 0 false, Bound.mk 0 0 false, Bound.mk 0 0 false), 0)) (Weak.turnL [(4, 0), (44, 0)] [] rfl rfl (tc (trP' rfl rfl rfl rfl) (tc (.sc _) (tc (.sc _) (tc (.sc _) (tc (trP' rfl rfl rfl rfl) (tc (.agg .z9 rfl) (tc (.sc _) tn))))))) (mc rfl (.box rfl .z9 rfl) (mc rfl (.box rfl .z9 rfl) mn))) (fun s2 o2 hR => ?_) fun z3 hR => ?_))
 ·unfold predict_Pull.l1 at hR
  refine AWP.sq (AWP.rgC 6 rfl rfl (pS rfl (RunC.fin (AWP.sq (AWP.cd hR rfl (fun h4 hR => ?_) fun h4 hR => ?_)))))
  ·refine AWP.skip (skT (AWP.joinX (fun z5 : (Bound × Bound × Bound) => LS.mk [(2, .ptr 0 0 0), (3, iV r1.1), (4, iV r1.2.1), (5, bV r1.2.2), (6, .ptr 1 0 0), (18, aggV (α := Bound × Bound × Bound) true p), (19, iV s2.2)] (lblks 0 [boxB (α := Bound × Bound × Bound) true (Bound.mk 0 0 false, Bound.mk 0 0 false, Bound.mk 0 0 false), boxB (α := Bound × Bound × Bound) true z5]) 2) hR (fun o5 hR => ?_) fun z5 hR => ?_))
   ·refine AWP.block (AWP.sq (AWP.rgC 26 rfl rfl (pS rfl ?_)))
    obtain ⟨h6, hR⟩ := chkE hR
    refine ixD (α := Bound) (nw := true) (xs := ([p.1, p.2.1, p.2.2] : List Bound)) (v := .agg _) rfl rfl rfl rfl ti84 rfl ti33 h6 rfl rfl rfl ?_
    refine al (cs := [iV 0, iV 0, bV false]) 14 rfl rfl ti33 rfl rfl (pS rfl (stB (cs' := [iV (gt ([p.1, p.2.1, p.2.2] : List Bound) s2.2).Lo, iV (gt ([p.1, p.2.1, p.2.2] : List Bound) s2.2).Hi, bV (gt ([p.1, p.2.1, p.2.2] : List Bound) s2.2).Unknown]) rfl rfl rfl rfl ti33 rfl rfl rfl rfl rfl (RunC.fin (AWP.sq (AWP.block (AWP.sq (AWP.rgC 38 rfl rfl (pS rfl (pS rfl (pS rfl (RunC.fin (AWP.cd hR rfl (fun h7 hR => ?_) fun h7 hR => ?_))))))))))))
    ·refine AWP.sq (AWP.rgC 54 rfl rfl (pS rfl ?_))
     obtain ⟨r8, hr8, hR⟩ := bindE hR
     refine cls [] rfl rfl cb45 (ok45 _ hr8) (.nil) (.inr rfl) rfl ?_
     obtain ⟨h9, hR⟩ := chkE hR
     refine iaP (o' := 0 + s2.2.toNat * Cl.e Bound + 0) rfl rfl rfl ti84 rfl ti33 h9 rfl ?_
     obtain ⟨v10, ev10, hR⟩ := letE hR
     refine stD (α := Bound) (nw := true) (pre := []) (post := []) (xs := ([s2.1.1, s2.1.2.1, s2.1.2.2] : List Bound)) (m := s2.2.toNat) (off := 0) (ys := [gt v10 0, gt v10 1, gt v10 2]) (y := r8) (cs' := [iV (gt v10 0).Lo, iV (gt v10 0).Hi, bV (gt v10 0).Unknown, iV (gt v10 1).Lo, iV (gt v10 1).Hi, bV (gt v10 1).Unknown, iV (gt v10 2).Lo, iV (gt v10 2).Hi, bV (gt v10 2).Unknown]) rfl rfl rfl rfl rfl rfl (ixlt h9) ti33 rfl rfl rfl rfl (etaS ev10 rfl rfl) rfl rfl (RunC.fin (AWP.exit (exB rfl ?_)))
     refine exT (exH (skT ?_))
     have hR := Option.some.inj hR; subst hR
     exact Weak.turnL [(0, 0), (1, 0)] [] rfl rfl (tc (trP' rfl rfl rfl rfl) (tc (.sc _) (tc (.sc _) (tc (.sc _) (tc (trP' rfl rfl rfl rfl) (tc (.agg .z9 rfl) (tc (.sc _) tn))))))) (mc rfl (.box rfl .z9 rfl) (mc rfl (.box rfl .z9 rfl) mn))
    ·refine AWP.sq (AWP.rgC 50 rfl rfl (pS rfl (pS rfl (pS rfl (RunC.fin (AWP.cd hR rfl (fun h11 hR => ?_) fun h11 hR => ?_))))))
     ·refine AWP.exit (exB rfl ?_)
      refine exT (exH (skT ?_))
      have hR := Option.some.inj hR; subst hR
      exact Weak.turnL [(0, 0), (1, 0)] [] rfl rfl (tc (trP' rfl rfl rfl rfl) (tc (.sc _) (tc (.sc _) (tc (.sc _) (tc (trP' rfl rfl rfl rfl) (tc (.agg .z9 rfl) (tc (.sc _) tn))))))) (mc rfl (.box rfl .z9 rfl) (mc rfl (.box rfl .z9 rfl) mn))
     ·refine AWP.skip (skB ?_)
      refine skT (AWP.sq (AWP.rgC 62 rfl rfl (pS rfl (pS rfl (pS rfl (RunC.fin (AWP.sq (AWP.rgD 102 [0, 1, 0, 7, 0, 16, 0, 127, 255, 511] ⟨[], [none, some [14], none, none, none, some [14], none, none, none, none]⟩ hmix (by kernel_rfl) rfl rfl ?_))))))))
      refine fa rfl rfl ti33 rfl rfl ti31 rfl (ldB (v := .sc _) rfl rfl rfl rfl ti31 rfl rfl (pS rfl ?_))
      obtain ⟨r12, hr12, hR⟩ := bindE hR
      refine cls [] rfl rfl cb99 (ok99 (gt ([p.1, p.2.1, p.2.2] : List Bound) s2.2).Hi r1.2.1 _ hr12) .z2 (.inr rfl) rfl (fa rfl rfl ti33 rfl rfl ti31 rfl (ldB (v := .sc _) rfl rfl rfl rfl ti31 rfl rfl (pS rfl ?_)))
      obtain ⟨r13, hr13, hR⟩ := bindE hR
      refine cls [] rfl rfl cb99 (ok99 (gt ([p.1, p.2.1, p.2.2] : List Bound) s2.2).Lo r1.2.1 _ hr13) .z2 (.inr rfl) rfl (pS rfl (pS rfl (RunC.fin (AWP.sq (AWP.sq (AWP.rgC 114 rfl rfl (fa rfl rfl ti33 rfl rfl ti31 rfl (ldB (v := .sc _) rfl rfl rfl rfl ti31 rfl rfl (pS rfl (RunC.fin (AWP.cd hR rfl (fun h14 hR => ?_) fun h14 hR => ?_)))))))))))
      ·refine AWP.rgC 134 rfl rfl (fa rfl rfl ti33 rfl rfl ti31 rfl (ldB (v := .sc _) rfl rfl rfl rfl ti31 rfl rfl (pS rfl ?_)))
       obtain ⟨r15, hr15, hR⟩ := bindE hR
       refine cls [] rfl rfl cb99 (ok99 (gt ([p.1, p.2.1, p.2.2] : List Bound) s2.2).Hi (mx2 r1.1 65536) _ hr15) .z2 (.inr rfl) rfl (pS rfl (RunC.fin (AWP.sq (AWP.sq (AWP.rgC 146 rfl rfl (fa rfl rfl ti33 rfl rfl ti31 rfl (ldB (v := .sc _) rfl rfl rfl rfl ti31 rfl rfl (pS rfl (RunC.fin (AWP.cd hR rfl (fun h16 hR => ?_) fun h16 hR => ?_))))))))))
       ·refine AWP.rgC 166 rfl rfl (fa rfl rfl ti33 rfl rfl ti31 rfl (ldB (v := .sc _) rfl rfl rfl rfl ti31 rfl rfl (pS rfl ?_)))
        obtain ⟨r17, hr17, hR⟩ := bindE hR
        refine cls [] rfl rfl cb99 (ok99 (gt ([p.1, p.2.1, p.2.2] : List Bound) s2.2).Lo (mx2 r1.1 65536) _ hr17) .z2 (.inr rfl) rfl (pS rfl (RunC.fin (AWP.sq (AWP.sq (AWP.rgC 174 rfl rfl (pS rfl (pS rfl (RunC.fin (AWP.cd hR rfl (fun h18 hR => ?_) fun h18 hR => ?_)))))))))
        ·refine AWP.rgC 198 rfl rfl (pS rfl (pS rfl (pS rfl (pS rfl (pS rfl (pS rfl (RunC.fin (AWP.rgC 222 rfl rfl (pS rfl (pS rfl (pS rfl ?_)))))))))))
         obtain ⟨r19, hr19, hR⟩ := bindE hR
         refine cls [] rfl rfl cb68 (ok68 (mn2 r15 0) (mx2 r17 0) _ hr19) .z2 (.inr rfl) rfl ?_
         obtain ⟨h20, hR⟩ := chkE hR
         refine iaP (o' := 0 + s2.2.toNat * Cl.e Bound + 0) rfl rfl rfl ti84 rfl ti33 h20 rfl ?_
         obtain ⟨v21, ev21, hR⟩ := letE hR
         refine stD (α := Bound) (nw := true) (pre := []) (post := []) (xs := ([s2.1.1, s2.1.2.1, s2.1.2.2] : List Bound)) (m := s2.2.toNat) (off := 0) (ys := [gt v21 0, gt v21 1, gt v21 2]) (y := r19) (cs' := [iV (gt v21 0).Lo, iV (gt v21 0).Hi, bV (gt v21 0).Unknown, iV (gt v21 1).Lo, iV (gt v21 1).Hi, bV (gt v21 1).Unknown, iV (gt v21 2).Lo, iV (gt v21 2).Hi, bV (gt v21 2).Unknown]) rfl rfl rfl rfl rfl rfl (ixlt h20) ti33 rfl rfl rfl rfl (etaS ev21 rfl rfl) rfl rfl (RunC.blk (RunC.fin ?_))
         have hR := Option.some.inj hR; subst hR
         exact Weak.turnL [(0, 0), (1, 0)] [] rfl rfl (tc (trP' rfl rfl rfl rfl) (tc (.sc _) (tc (.sc _) (tc (.sc _) (tc (trP' rfl rfl rfl rfl) (tc (.agg .z9 rfl) (tc (.sc _) tn))))))) (mc rfl (.box rfl .z9 rfl) (mc rfl (.box rfl .z9 rfl) mn))
        ·refine AWP.skip (skT (AWP.rgC 198 rfl rfl (pS rfl (pS rfl (pS rfl ?_)))))
         obtain ⟨r22, hr22, hR⟩ := bindE hR
         refine cls [] rfl rfl cb68 (ok68 r15 r17 _ hr22) .z2 (.inr rfl) rfl ?_
         obtain ⟨h23, hR⟩ := chkE hR
         refine iaP (o' := 0 + s2.2.toNat * Cl.e Bound + 0) rfl rfl rfl ti84 rfl ti33 h23 rfl ?_
         obtain ⟨v24, ev24, hR⟩ := letE hR
         refine stD (α := Bound) (nw := true) (pre := []) (post := []) (xs := ([s2.1.1, s2.1.2.1, s2.1.2.2] : List Bound)) (m := s2.2.toNat) (off := 0) (ys := [gt v24 0, gt v24 1, gt v24 2]) (y := r22) (cs' := [iV (gt v24 0).Lo, iV (gt v24 0).Hi, bV (gt v24 0).Unknown, iV (gt v24 1).Lo, iV (gt v24 1).Hi, bV (gt v24 1).Unknown, iV (gt v24 2).Lo, iV (gt v24 2).Hi, bV (gt v24 2).Unknown]) rfl rfl rfl rfl rfl rfl (ixlt h23) ti33 rfl rfl rfl rfl (etaS ev24 rfl rfl) rfl rfl (RunC.blk (RunC.fin ?_))
         have hR := Option.some.inj hR; subst hR
         exact Weak.turnL [(0, 0), (1, 0)] [] rfl rfl (tc (trP' rfl rfl rfl rfl) (tc (.sc _) (tc (.sc _) (tc (.sc _) (tc (trP' rfl rfl rfl rfl) (tc (.agg .z9 rfl) (tc (.sc _) tn))))))) (mc rfl (.box rfl .z9 rfl) (mc rfl (.box rfl .z9 rfl) mn))
       ·refine AWP.skip (skT (AWP.sq (AWP.sq (AWP.rgC 154 rfl rfl (pS rfl (pS rfl (RunC.fin (AWP.cd hR rfl (fun h25 hR => ?_) fun h25 hR => ?_))))))))
        ·refine AWP.rgC 178 rfl rfl (pS rfl (pS rfl (pS rfl (pS rfl (pS rfl (pS rfl (RunC.fin (AWP.rgC 202 rfl rfl (pS rfl (pS rfl (pS rfl ?_)))))))))))
         obtain ⟨r26, hr26, hR⟩ := bindE hR
         refine cls [] rfl rfl cb68 (ok68 (mn2 r15 0) (mx2 r13 0) _ hr26) .z2 (.inr rfl) rfl ?_
         obtain ⟨h27, hR⟩ := chkE hR
         refine iaP (o' := 0 + s2.2.toNat * Cl.e Bound + 0) rfl rfl rfl ti84 rfl ti33 h27 rfl ?_
         obtain ⟨v28, ev28, hR⟩ := letE hR
         refine stD (α := Bound) (nw := true) (pre := []) (post := []) (xs := ([s2.1.1, s2.1.2.1, s2.1.2.2] : List Bound)) (m := s2.2.toNat) (off := 0) (ys := [gt v28 0, gt v28 1, gt v28 2]) (y := r26) (cs' := [iV (gt v28 0).Lo, iV (gt v28 0).Hi, bV (gt v28 0).Unknown, iV (gt v28 1).Lo, iV (gt v28 1).Hi, bV (gt v28 1).Unknown, iV (gt v28 2).Lo, iV (gt v28 2).Hi, bV (gt v28 2).Unknown]) rfl rfl rfl rfl rfl rfl (ixlt h27) ti33 rfl rfl rfl rfl (etaS ev28 rfl rfl) rfl rfl (RunC.blk (RunC.fin ?_))
         have hR := Option.some.inj hR; subst hR
         exact Weak.turnL [(0, 0), (1, 0)] [] rfl rfl (tc (trP' rfl rfl rfl rfl) (tc (.sc _) (tc (.sc _) (tc (.sc _) (tc (trP' rfl rfl rfl rfl) (tc (.agg .z9 rfl) (tc (.sc _) tn))))))) (mc rfl (.box rfl .z9 rfl) (mc rfl (.box rfl .z9 rfl) mn))
        ·refine AWP.skip (skT (AWP.rgC 178 rfl rfl (pS rfl (pS rfl (pS rfl ?_)))))
         obtain ⟨r29, hr29, hR⟩ := bindE hR
         refine cls [] rfl rfl cb68 (ok68 r15 r13 _ hr29) .z2 (.inr rfl) rfl ?_
         obtain ⟨h30, hR⟩ := chkE hR
         refine iaP (o' := 0 + s2.2.toNat * Cl.e Bound + 0) rfl rfl rfl ti84 rfl ti33 h30 rfl ?_
         obtain ⟨v31, ev31, hR⟩ := letE hR
         refine stD (α := Bound) (nw := true) (pre := []) (post := []) (xs := ([s2.1.1, s2.1.2.1, s2.1.2.2] : List Bound)) (m := s2.2.toNat) (off := 0) (ys := [gt v31 0, gt v31 1, gt v31 2]) (y := r29) (cs' := [iV (gt v31 0).Lo, iV (gt v31 0).Hi, bV (gt v31 0).Unknown, iV (gt v31 1).Lo, iV (gt v31 1).Hi, bV (gt v31 1).Unknown, iV (gt v31 2).Lo, iV (gt v31 2).Hi, bV (gt v31 2).Unknown]) rfl rfl rfl rfl rfl rfl (ixlt h30) ti33 rfl rfl rfl rfl (etaS ev31 rfl rfl) rfl rfl (RunC.blk (RunC.fin ?_))
         have hR := Option.some.inj hR; subst hR
         exact Weak.turnL [(0, 0), (1, 0)] [] rfl rfl (tc (trP' rfl rfl rfl rfl) (tc (.sc _) (tc (.sc _) (tc (.sc _) (tc (trP' rfl rfl rfl rfl) (tc (.agg .z9 rfl) (tc (.sc _) tn))))))) (mc rfl (.box rfl .z9 rfl) (mc rfl (.box rfl .z9 rfl) mn))
      ·refine AWP.skip (skT (AWP.sq (AWP.sq (AWP.rgC 126 rfl rfl (fa rfl rfl ti33 rfl rfl ti31 rfl (ldB (v := .sc _) rfl rfl rfl rfl ti31 rfl rfl (pS rfl (RunC.fin (AWP.cd hR rfl (fun h32 hR => ?_) fun h32 hR => ?_)))))))))
       ·refine AWP.rgC 146 rfl rfl (fa rfl rfl ti33 rfl rfl ti31 rfl (ldB (v := .sc _) rfl rfl rfl rfl ti31 rfl rfl (pS rfl ?_)))
        obtain ⟨r33, hr33, hR⟩ := bindE hR
        refine cls [] rfl rfl cb99 (ok99 (gt ([p.1, p.2.1, p.2.2] : List Bound) s2.2).Lo (mx2 r1.1 65536) _ hr33) .z2 (.inr rfl) rfl (pS rfl (RunC.fin (AWP.sq (AWP.sq (AWP.rgC 154 rfl rfl (pS rfl (pS rfl (RunC.fin (AWP.cd hR rfl (fun h34 hR => ?_) fun h34 hR => ?_)))))))))
        ·refine AWP.rgC 178 rfl rfl (pS rfl (pS rfl (pS rfl (pS rfl (pS rfl (pS rfl (RunC.fin (AWP.rgC 202 rfl rfl (pS rfl (pS rfl (pS rfl ?_)))))))))))
         obtain ⟨r35, hr35, hR⟩ := bindE hR
         refine cls [] rfl rfl cb68 (ok68 (mn2 r12 0) (mx2 r33 0) _ hr35) .z2 (.inr rfl) rfl ?_
         obtain ⟨h36, hR⟩ := chkE hR
         refine iaP (o' := 0 + s2.2.toNat * Cl.e Bound + 0) rfl rfl rfl ti84 rfl ti33 h36 rfl ?_
         obtain ⟨v37, ev37, hR⟩ := letE hR
         refine stD (α := Bound) (nw := true) (pre := []) (post := []) (xs := ([s2.1.1, s2.1.2.1, s2.1.2.2] : List Bound)) (m := s2.2.toNat) (off := 0) (ys := [gt v37 0, gt v37 1, gt v37 2]) (y := r35) (cs' := [iV (gt v37 0).Lo, iV (gt v37 0).Hi, bV (gt v37 0).Unknown, iV (gt v37 1).Lo, iV (gt v37 1).Hi, bV (gt v37 1).Unknown, iV (gt v37 2).Lo, iV (gt v37 2).Hi, bV (gt v37 2).Unknown]) rfl rfl rfl rfl rfl rfl (ixlt h36) ti33 rfl rfl rfl rfl (etaS ev37 rfl rfl) rfl rfl (RunC.blk (RunC.fin ?_))
         have hR := Option.some.inj hR; subst hR
         exact Weak.turnL [(0, 0), (1, 0)] [] rfl rfl (tc (trP' rfl rfl rfl rfl) (tc (.sc _) (tc (.sc _) (tc (.sc _) (tc (trP' rfl rfl rfl rfl) (tc (.agg .z9 rfl) (tc (.sc _) tn))))))) (mc rfl (.box rfl .z9 rfl) (mc rfl (.box rfl .z9 rfl) mn))
        ·refine AWP.skip (skT (AWP.rgC 178 rfl rfl (pS rfl (pS rfl (pS rfl ?_)))))
         obtain ⟨r38, hr38, hR⟩ := bindE hR
         refine cls [] rfl rfl cb68 (ok68 r12 r33 _ hr38) .z2 (.inr rfl) rfl ?_
         obtain ⟨h39, hR⟩ := chkE hR
         refine iaP (o' := 0 + s2.2.toNat * Cl.e Bound + 0) rfl rfl rfl ti84 rfl ti33 h39 rfl ?_
         obtain ⟨v40, ev40, hR⟩ := letE hR
         refine stD (α := Bound) (nw := true) (pre := []) (post := []) (xs := ([s2.1.1, s2.1.2.1, s2.1.2.2] : List Bound)) (m := s2.2.toNat) (off := 0) (ys := [gt v40 0, gt v40 1, gt v40 2]) (y := r38) (cs' := [iV (gt v40 0).Lo, iV (gt v40 0).Hi, bV (gt v40 0).Unknown, iV (gt v40 1).Lo, iV (gt v40 1).Hi, bV (gt v40 1).Unknown, iV (gt v40 2).Lo, iV (gt v40 2).Hi, bV (gt v40 2).Unknown]) rfl rfl rfl rfl rfl rfl (ixlt h39) ti33 rfl rfl rfl rfl (etaS ev40 rfl rfl) rfl rfl (RunC.blk (RunC.fin ?_))
         have hR := Option.some.inj hR; subst hR
         exact Weak.turnL [(0, 0), (1, 0)] [] rfl rfl (tc (trP' rfl rfl rfl rfl) (tc (.sc _) (tc (.sc _) (tc (.sc _) (tc (trP' rfl rfl rfl rfl) (tc (.agg .z9 rfl) (tc (.sc _) tn))))))) (mc rfl (.box rfl .z9 rfl) (mc rfl (.box rfl .z9 rfl) mn))
       ·refine AWP.skip (skT (AWP.sq (AWP.sq (AWP.rgC 134 rfl rfl (pS rfl (pS rfl (RunC.fin (AWP.cd hR rfl (fun h41 hR => ?_) fun h41 hR => ?_))))))))
        ·refine AWP.rgC 158 rfl rfl (pS rfl (pS rfl (pS rfl (pS rfl (pS rfl (pS rfl (RunC.fin (AWP.rgC 182 rfl rfl (pS rfl (pS rfl (pS rfl ?_)))))))))))
         obtain ⟨r42, hr42, hR⟩ := bindE hR
         refine cls [] rfl rfl cb68 (ok68 (mn2 r12 0) (mx2 r13 0) _ hr42) .z2 (.inr rfl) rfl ?_
         obtain ⟨h43, hR⟩ := chkE hR
         refine iaP (o' := 0 + s2.2.toNat * Cl.e Bound + 0) rfl rfl rfl ti84 rfl ti33 h43 rfl ?_
         obtain ⟨v44, ev44, hR⟩ := letE hR
         refine stD (α := Bound) (nw := true) (pre := []) (post := []) (xs := ([s2.1.1, s2.1.2.1, s2.1.2.2] : List Bound)) (m := s2.2.toNat) (off := 0) (ys := [gt v44 0, gt v44 1, gt v44 2]) (y := r42) (cs' := [iV (gt v44 0).Lo, iV (gt v44 0).Hi, bV (gt v44 0).Unknown, iV (gt v44 1).Lo, iV (gt v44 1).Hi, bV (gt v44 1).Unknown, iV (gt v44 2).Lo, iV (gt v44 2).Hi, bV (gt v44 2).Unknown]) rfl rfl rfl rfl rfl rfl (ixlt h43) ti33 rfl rfl rfl rfl (etaS ev44 rfl rfl) rfl rfl (RunC.blk (RunC.fin ?_))
         have hR := Option.some.inj hR; subst hR
         exact Weak.turnL [(0, 0), (1, 0)] [] rfl rfl (tc (trP' rfl rfl rfl rfl) (tc (.sc _) (tc (.sc _) (tc (.sc _) (tc (trP' rfl rfl rfl rfl) (tc (.agg .z9 rfl) (tc (.sc _) tn))))))) (mc rfl (.box rfl .z9 rfl) (mc rfl (.box rfl .z9 rfl) mn))
        ·refine AWP.skip (skT (AWP.rgC 158 rfl rfl (pS rfl (pS rfl (pS rfl ?_)))))
         obtain ⟨r45, hr45, hR⟩ := bindE hR
         refine cls [] rfl rfl cb68 (ok68 r12 r13 _ hr45) .z2 (.inr rfl) rfl ?_
         obtain ⟨h46, hR⟩ := chkE hR
         refine iaP (o' := 0 + s2.2.toNat * Cl.e Bound + 0) rfl rfl rfl ti84 rfl ti33 h46 rfl ?_
         obtain ⟨v47, ev47, hR⟩ := letE hR
         refine stD (α := Bound) (nw := true) (pre := []) (post := []) (xs := ([s2.1.1, s2.1.2.1, s2.1.2.2] : List Bound)) (m := s2.2.toNat) (off := 0) (ys := [gt v47 0, gt v47 1, gt v47 2]) (y := r45) (cs' := [iV (gt v47 0).Lo, iV (gt v47 0).Hi, bV (gt v47 0).Unknown, iV (gt v47 1).Lo, iV (gt v47 1).Hi, bV (gt v47 1).Unknown, iV (gt v47 2).Lo, iV (gt v47 2).Hi, bV (gt v47 2).Unknown]) rfl rfl rfl rfl rfl rfl (ixlt h46) ti33 rfl rfl rfl rfl (etaS ev47 rfl rfl) rfl rfl (RunC.blk (RunC.fin ?_))
         have hR := Option.some.inj hR; subst hR
         exact Weak.turnL [(0, 0), (1, 0)] [] rfl rfl (tc (trP' rfl rfl rfl rfl) (tc (.sc _) (tc (.sc _) (tc (.sc _) (tc (trP' rfl rfl rfl rfl) (tc (.agg .z9 rfl) (tc (.sc _) tn))))))) (mc rfl (.box rfl .z9 rfl) (mc rfl (.box rfl .z9 rfl) mn))
   ·refine AWP.rgC 10 rfl rfl (pS rfl (pS rfl (RunC.fin (⟨(z5, w6 (s2.2 + 1)), (Option.some.inj hR).symm, ?_⟩))))
    exact Weak.turnL [(0, 0), (1, 0)] [] rfl rfl (tc (trP' rfl rfl rfl rfl) (tc (.sc _) (tc (.sc _) (tc (.sc _) (tc (trP' rfl rfl rfl rfl) (tc (.agg .z9 rfl) (tc (.sc _) tn))))))) (mc rfl (.box rfl .z9 rfl) (mc rfl (.box rfl .z9 rfl) mn))
  ·refine AWP.exit (exT (exT (exH (skT (⟨s2.1, (Option.some.inj hR).symm, ?_⟩)))))
   exact Weak.turnL [(0, 0), (1, 0)] [] rfl rfl (tc (trP' rfl rfl rfl rfl) (tc (trP' rfl rfl rfl rfl) tn)) (mc rfl (.box rfl .z9 rfl) (mc rfl (.box rfl .z9 rfl) mn))
 ·refine skT (AWP.sq (AWP.rgC 10 rfl rfl (ldB (v := .agg _) rfl rfl rfl rfl ti84 rfl rfl (stB (cs' := [iV z3.1.Lo, iV z3.1.Hi, bV z3.1.Unknown, iV z3.2.1.Lo, iV z3.2.1.Hi, bV z3.2.1.Unknown, iV z3.2.2.Lo, iV z3.2.2.Hi, bV z3.2.2.Unknown]) rfl rfl rfl rfl ti84 rfl rfl rfl rfl rfl (RunC.fin (AWP.ret ?_))))))
  have hR := Option.some.inj hR; subst hR
  exact hQ _ _ (LS.mk [(2, .ptr 0 0 0)] (lblks 0 [boxB (α := Bound × Bound × Bound) true z3]) 1) (aggV (α := Bound × Bound × Bound) true z3) [] (.inr rfl) (Weak.turnL [(0, 0)] [] rfl rfl (tc (trP' rfl rfl rfl rfl) tn) (mc rfl (.box rfl .z9 rfl) mn)) (ro1 (rvC (v := aggV (α := Bound × Bound × Bound) true z3) rfl rfl ti84 rfl)) rfl rfl ldA pn
theorem ok47 (a : Bound) (n : Int) (d : Int) (r : Bound) (hR : bound_Scale a n d = some r) : FnP Tryz.prog 47 [aggV false a, .sc (.int .i64 n), .sc (.int .i64 d)] (aggV (α := Bound) true r) := by
 refine fnP_of (FnX.walk Tryz.func47 rfl 12 0 (by simp [Tryz.ntmps47]) rfl fun W S F Q hQ => ?_)
 unfold bound_Scale at hR
 refine AWP.sq (AWP.rgC 8 rfl rfl (bx (cs := _) 0 rfl rfl rfl (al (cs := [iV 0, iV 0, bV false]) 4 rfl rfl ti33 rfl rfl (RunC.fin (AWP.sq (AWP.rgD 32 [0, 0, 2, 0, 15, 31] ⟨[], [some [0], none, none, none, none, some [4]]⟩ hmix (by kernel_rfl) rfl rfl ?_))))))
 refine ldB (v := .agg _) rfl rfl rfl rfl ti33 rfl rfl (pS rfl ?_)
 obtain ⟨r1, hr1, hR⟩ := bindE hR
 refine cls [] rfl rfl cb60 (ok60 n _ hr1) (.cons (.sc _) .nil) (.inr rfl) rfl (pS rfl ?_)
 obtain ⟨r2, hr2, hR⟩ := bindE hR
 refine cls [] rfl rfl cb58 (ok58 a r1 d _ hr2) (.cons (.agg .z3 rfl) (.cons (.agg .z3 rfl) (.cons (.sc _) .nil))) (.inr rfl) rfl (stB (cs' := [iV r2.Lo, iV r2.Hi, bV r2.Unknown]) rfl rfl rfl rfl ti33 rfl rfl rfl rfl rfl (RunC.fin (AWP.ret ?_)))
 have hR := Option.some.inj hR; subst hR
 exact hQ _ _ (LS.mk [(6, .ptr 0 0 0)] (lblks 0 [boxB (α := Bound) true r2]) 1) (aggV (α := Bound) true r2) [] (.inr rfl) (Weak.turnL [(4, 0)] [] rfl rfl (tc (trP' rfl rfl rfl rfl) tn) (mc rfl (.box rfl .z3 rfl) mn)) (ro1 (rvC (v := aggV (α := Bound) true r2) rfl rfl ti33 rfl)) rfl rfl ldA pn
theorem ok85 (a : Bound × Bound × Bound) (b : Bound × Bound × Bound) (r : (Bound × Bound × Bound)) (hR : predict_minus a b = some r) : FnP Tryz.prog 85 [aggV false a, aggV false b] (aggV (α := Bound × Bound × Bound) true r) := by
 refine fnP_of (FnX.walk Tryz.func85 rfl 21 0 (by simp [Tryz.ntmps85]) rfl fun W S F Q hQ => ?_)
 unfold predict_minus at hR
 refine AWP.sq (AWP.rgC 12 rfl rfl (bx (cs := _) 0 rfl rfl rfl (bx (cs := _) 4 rfl rfl rfl (al (cs := [iV 0, iV 0, bV false, iV 0, iV 0, bV false, iV 0, iV 0, bV false]) 8 rfl rfl ti84 rfl rfl (RunC.fin (AWP.sq (AWP.rgD 80 [0, 1, 0, 4, 15, 0, 32, 0, 128, 511, 0, 1024, 0, 4096, 16383, 32767, 65535] ⟨[], [none, some [0], none, some [4], none, none, some [0], none, some [4], none, none, some [0], none, some [4], none, none, some [8]]⟩ hmix (by kernel_rfl) rfl rfl ?_)))))))
 refine iaP (o' := 0) rfl rfl rfl ti84 rfl ti33 (by decide) rfl (ldB (v := .agg _) rfl rfl rfl rfl ti33 rfl rfl (iaP (o' := 0) rfl rfl rfl ti84 rfl ti33 (by decide) rfl (ldB (v := .agg _) rfl rfl rfl rfl ti33 rfl rfl ?_)))
 obtain ⟨r1, hr1, hR⟩ := bindE hR
 refine cls [] rfl rfl cb43 (ok43 a.1 b.1 _ hr1) (.cons (.agg .z3 rfl) (.cons (.agg .z3 rfl) (.nil))) (.inr rfl) rfl (iaP (o' := 3) rfl rfl rfl ti84 rfl ti33 (by decide) rfl (ldB (v := .agg _) rfl rfl rfl rfl ti33 rfl rfl (iaP (o' := 3) rfl rfl rfl ti84 rfl ti33 (by decide) rfl (ldB (v := .agg _) rfl rfl rfl rfl ti33 rfl rfl ?_))))
 obtain ⟨r2, hr2, hR⟩ := bindE hR
 refine cls [] rfl rfl cb43 (ok43 a.2.1 b.2.1 _ hr2) (.cons (.agg .z3 rfl) (.cons (.agg .z3 rfl) (.nil))) (.inr rfl) rfl (iaP (o' := 6) rfl rfl rfl ti84 rfl ti33 (by decide) rfl (ldB (v := .agg _) rfl rfl rfl rfl ti33 rfl rfl (iaP (o' := 6) rfl rfl rfl ti84 rfl ti33 (by decide) rfl (ldB (v := .agg _) rfl rfl rfl rfl ti33 rfl rfl ?_))))
 obtain ⟨r3, hr3, hR⟩ := bindE hR
 refine cls [] rfl rfl cb43 (ok43 a.2.2 b.2.2 _ hr3) (.cons (.agg .z3 rfl) (.cons (.agg .z3 rfl) (.nil))) (.inr rfl) rfl (buA (cs := [iV r1.Lo, iV r1.Hi, bV r1.Unknown, iV r2.Lo, iV r2.Hi, bV r2.Unknown, iV r3.Lo, iV r3.Hi, bV r3.Unknown]) rfl ti84 rfl ti33 rfl rfl ?_)
 refine stB (cs' := [iV r1.Lo, iV r1.Hi, bV r1.Unknown, iV r2.Lo, iV r2.Hi, bV r2.Unknown, iV r3.Lo, iV r3.Hi, bV r3.Unknown]) rfl rfl rfl rfl ti84 rfl rfl rfl rfl rfl (RunC.fin (AWP.ret ?_))
 have hR := Option.some.inj hR; subst hR
 exact hQ _ _ (LS.mk [(4, .ptr 0 0 0)] (lblks 0 [boxB (α := Bound × Bound × Bound) true (r1, r2, r3)]) 1) (aggV (α := Bound × Bound × Bound) true (r1, r2, r3)) [] (.inr rfl) (Weak.turnL [(8, 0)] [] rfl rfl (tc (trP' rfl rfl rfl rfl) tn) (mc rfl (.box rfl .z9 rfl) mn)) (ro1 (rvC (v := aggV (α := Bound × Bound × Bound) true (r1, r2, r3)) rfl rfl ti84 rfl)) rfl rfl ldA pn
theorem ok100 (i : Int) (j : Int) (p2 : Bound × Bound × Bound) (p3 : Bound × Bound × Bound) (r : Bound) (hR : predict_cross_1 i j p2 p3 = some r) : FnP Tryz.prog 100 [.sc (.int .i64 i), .sc (.int .i64 j), .rp (Cl.c false p2), .rp (Cl.c false p3)] (aggV (α := Bound) true r) := by
 refine fnP_of (FnX.walk Tryz.func100 rfl 22 0 (by simp [Tryz.ntmps100]) rfl fun W S F Q hQ => ?_)
 unfold predict_cross_1 at hR
 refine AWP.sq (AWP.rgC 4 rfl rfl (al (cs := [iV 0, iV 0, bV false]) 0 rfl rfl ti33 rfl rfl (RunC.fin (AWP.sq (AWP.rgD 68 [0, 1, 3, 0, 8, 24, 63, 0, 128, 384, 0, 1024, 3072, 8191, 16383, 32767] ⟨[], [none, none, some [], none, none, some [], none, none, none, some [], none, none, some [], none, none, some [0]]⟩ hmix (by kernel_rfl) rfl rfl ?_)))))
 refine pS rfl ?_
 obtain ⟨h1, hR⟩ := chkE hR
 refine iaRd (α := Bound) (nw := false) (xs := ([p2.1, p2.2.1, p2.2.2] : List Bound)) rfl rfl rfl rfl ti84 rfl ti33 h1 rfl rfl ?_
 refine ldRt (α := Bound) (nw := false) (y := (gt ([p2.1, p2.2.1, p2.2.2] : List Bound) i)) (off := 0) (v := .agg _) rfl rfl ti33 rfl rfl rfl ?_
 refine pS rfl ?_
 obtain ⟨h2, hR⟩ := chkE hR
 refine iaRd (α := Bound) (nw := false) (xs := ([p3.1, p3.2.1, p3.2.2] : List Bound)) rfl rfl rfl rfl ti84 rfl ti33 h2 rfl rfl ?_
 refine ldRt (α := Bound) (nw := false) (y := (gt ([p3.1, p3.2.1, p3.2.2] : List Bound) j)) (off := 0) (v := .agg _) rfl rfl ti33 rfl rfl rfl ?_
 obtain ⟨r3, hr3, hR⟩ := bindE hR
 refine cls [] rfl rfl cb58 (ok58 (gt ([p2.1, p2.2.1, p2.2.2] : List Bound) i) (gt ([p3.1, p3.2.1, p3.2.2] : List Bound) j) 1073741824 _ hr3) (.cons (.agg .z3 rfl) (.cons (.agg .z3 rfl) (.cons (.sc _) .nil))) (.inr rfl) rfl (pS rfl ?_)
 obtain ⟨h4, hR⟩ := chkE hR
 refine iaRd (α := Bound) (nw := false) (xs := ([p2.1, p2.2.1, p2.2.2] : List Bound)) rfl rfl rfl rfl ti84 rfl ti33 h4 rfl rfl ?_
 refine ldRt (α := Bound) (nw := false) (y := (gt ([p2.1, p2.2.1, p2.2.2] : List Bound) j)) (off := 0) (v := .agg _) rfl rfl ti33 rfl rfl rfl ?_
 refine pS rfl ?_
 obtain ⟨h5, hR⟩ := chkE hR
 refine iaRd (α := Bound) (nw := false) (xs := ([p3.1, p3.2.1, p3.2.2] : List Bound)) rfl rfl rfl rfl ti84 rfl ti33 h5 rfl rfl ?_
 refine ldRt (α := Bound) (nw := false) (y := (gt ([p3.1, p3.2.1, p3.2.2] : List Bound) i)) (off := 0) (v := .agg _) rfl rfl ti33 rfl rfl rfl ?_
 obtain ⟨r6, hr6, hR⟩ := bindE hR
 refine cls [] rfl rfl cb58 (ok58 (gt ([p2.1, p2.2.1, p2.2.2] : List Bound) j) (gt ([p3.1, p3.2.1, p3.2.2] : List Bound) i) 1073741824 _ hr6) (.cons (.agg .z3 rfl) (.cons (.agg .z3 rfl) (.cons (.sc _) .nil))) (.inr rfl) rfl ?_
 obtain ⟨r7, hr7, hR⟩ := bindE hR
 refine cls [] rfl rfl cb43 (ok43 r3 r6 _ hr7) (.cons (.agg .z3 rfl) (.cons (.agg .z3 rfl) (.nil))) (.inr rfl) rfl (stB (cs' := [iV r7.Lo, iV r7.Hi, bV r7.Unknown]) rfl rfl rfl rfl ti33 rfl rfl rfl rfl rfl (RunC.fin (AWP.ret ?_)))
 have hR := Option.some.inj hR; subst hR
 exact hQ _ _ (LS.mk [(6, .ptr 0 0 0)] (lblks 0 [boxB (α := Bound) true r7]) 1) (aggV (α := Bound) true r7) [] (.inr rfl) (Weak.turnL [(0, 0)] [] rfl rfl (tc (trP' rfl rfl rfl rfl) tn) (mc rfl (.box rfl .z3 rfl) mn)) (ro1 (rvC (v := aggV (α := Bound) true r7) rfl rfl ti33 rfl)) rfl rfl ldA pn
theorem ok84 (a : Bound × Bound × Bound) (b : Bound × Bound × Bound) (r : (Bound × Bound × Bound)) (hR : predict_cross a b = some r) : FnP Tryz.prog 84 [aggV false a, aggV false b] (aggV (α := Bound × Bound × Bound) true r) := by
 refine fnP_of (FnX.walk Tryz.func84 rfl 14 0 (by simp [Tryz.ntmps84]) rfl fun W S F Q hQ => ?_)
 unfold predict_cross at hR
 refine AWP.sq (AWP.rgC 12 rfl rfl (bx (cs := _) 0 rfl rfl rfl (bx (cs := _) 4 rfl rfl rfl (al (cs := [iV 0, iV 0, bV false, iV 0, iV 0, bV false, iV 0, iV 0, bV false]) 8 rfl rfl ti84 rfl rfl (RunC.fin (AWP.sq (AWP.rgC 20 rfl rfl (pu (v := .fn _ _) rfl rfl (fun _ => rfl) (pu (v := .fn _ _) rfl rfl (fun _ => rfl) (RunC.fin (AWP.sq (AWP.rgC 52 rfl rfl (pu (v := .fn _ _) rfl rfl (fun _ => rfl) ?_)))))))))))))
 obtain ⟨r1, hr1, hR⟩ := bindE hR
 refine cls [0, 4] rfl rfl cb100 (ok100 1 2 a b _ hr1) (.c2 (.cons (ldX rfl rfl .z9 rfl) (.cons (ldX rfl rfl .z9 rfl) (.nil)))) (.inl (by first | rfl | exact freshR | exact freshA | (simp only [V.fresh, V.freshs, freshR, freshA, Bool.and_self]))) rfl (pu (v := .fn _ _) rfl rfl (fun _ => rfl) ?_)
 obtain ⟨r2, hr2, hR⟩ := bindE hR
 refine cls [0, 4] rfl rfl cb100 (ok100 2 0 a b _ hr2) (.c2 (.cons (ldX rfl rfl .z9 rfl) (.cons (ldX rfl rfl .z9 rfl) (.nil)))) (.inl (by first | rfl | exact freshR | exact freshA | (simp only [V.fresh, V.freshs, freshR, freshA, Bool.and_self]))) rfl (pu (v := .fn _ _) rfl rfl (fun _ => rfl) ?_)
 obtain ⟨r3, hr3, hR⟩ := bindE hR
 refine cls [0, 4] rfl rfl cb100 (ok100 0 1 a b _ hr3) (.c2 (.cons (ldX rfl rfl .z9 rfl) (.cons (ldX rfl rfl .z9 rfl) (.nil)))) (.inl (by first | rfl | exact freshR | exact freshA | (simp only [V.fresh, V.freshs, freshR, freshA, Bool.and_self]))) rfl (buA (cs := [iV r1.Lo, iV r1.Hi, bV r1.Unknown, iV r2.Lo, iV r2.Hi, bV r2.Unknown, iV r3.Lo, iV r3.Hi, bV r3.Unknown]) rfl ti84 rfl ti33 rfl rfl ?_)
 refine stB (cs' := [iV r1.Lo, iV r1.Hi, bV r1.Unknown, iV r2.Lo, iV r2.Hi, bV r2.Unknown, iV r3.Lo, iV r3.Hi, bV r3.Unknown]) rfl rfl rfl rfl ti84 rfl rfl rfl rfl rfl (RunC.fin (AWP.ret ?_))
 have hR := Option.some.inj hR; subst hR
 exact hQ _ _ (LS.mk [(4, .ptr 0 0 0)] (lblks 0 [boxB (α := Bound × Bound × Bound) true (r1, r2, r3)]) 1) (aggV (α := Bound × Bound × Bound) true (r1, r2, r3)) [] (.inr rfl) (Weak.turnL [(8, 0)] [] rfl rfl (tc (trP' rfl rfl rfl rfl) tn) (mc rfl (.box rfl .z9 rfl) mn)) (ro1 (rvC (v := aggV (α := Bound × Bound × Bound) true (r1, r2, r3)) rfl rfl ti84 rfl)) rfl rfl ldA pn
theorem ok59 (s : Seen × Seen × Seen) (here : Bound × Bound × Bound) (r : (Bound × Bound × Bound) × Bool) (hR : predict_first s here = some r) : FnP Tryz.prog 59 [aggV false s, aggV false here] (.tup [aggV (α := Bound × Bound × Bound) true r.1, .sc (.bool r.2)]) := by
 refine fnP_of (FnX.walk Tryz.func59 rfl 141 0 (by simp [Tryz.ntmps59]) rfl fun W S F Q hQ => ?_)
 unfold predict_first at hR
 refine AWP.sq (AWP.rgC 16 rfl rfl (bx (cs := _) 0 rfl rfl rfl (bx (cs := _) 4 rfl rfl rfl (al (cs := [iV 0, iV 0, bV false, iV 0, iV 0, bV false, iV 0, iV 0, bV false]) 8 rfl rfl ti84 rfl rfl (pS rfl (RunC.fin (AWP.sq (AWP.rgC 56 rfl rfl (iaP (o' := 0) rfl rfl rfl ti41 rfl ti40 (by decide) rfl (fa rfl rfl ti40 rfl rfl ti35 rfl (ldB (v := .agg _) rfl rfl rfl rfl ti35 rfl rfl ?_)))))))))))
 obtain ⟨r1, hr1, hR⟩ := bindE hR
 refine cls [] rfl rfl cb44 (ok44 s.1.Box _ hr1) (.cons (.agg .z9 rfl) (.nil)) (.inr rfl) rfl (pu (v := .tup _) rfl rfl (fun _ => rfl) (pu (v := .agg _) rfl rfl (fun _ => rfl) (pS rfl (al (cs := [iV 0, iV 0, bV false, iV 0, iV 0, bV false, iV 0, iV 0, bV false]) 44 rfl rfl ti83 rfl rfl (stB (cs' := [iV r1.1.1.Lo, iV r1.1.1.Hi, bV r1.1.1.Unknown, iV r1.1.2.1.Lo, iV r1.1.2.1.Hi, bV r1.1.2.1.Unknown, iV r1.1.2.2.Lo, iV r1.1.2.2.Hi, bV r1.1.2.2.Unknown]) rfl rfl rfl rfl ti83 rfl rfl rfl rfl rfl (pS rfl (RunC.fin (AWP.sq (AWP.rgC 96 rfl rfl (iaP (o' := 36) rfl rfl rfl ti41 rfl ti40 (by decide) rfl (fa rfl rfl ti40 rfl rfl ti35 rfl (ldB (v := .agg _) rfl rfl rfl rfl ti35 rfl rfl ?_))))))))))))
 obtain ⟨r2, hr2, hR⟩ := bindE hR
 refine cls [] rfl rfl cb44 (ok44 s.2.2.Box _ hr2) (.cons (.agg .z9 rfl) (.nil)) (.inr rfl) rfl (pu (v := .tup _) rfl rfl (fun _ => rfl) (pu (v := .agg _) rfl rfl (fun _ => rfl) (pS rfl (al (cs := [iV 0, iV 0, bV false, iV 0, iV 0, bV false, iV 0, iV 0, bV false]) 84 rfl rfl ti83 rfl rfl (stB (cs' := [iV r2.1.1.Lo, iV r2.1.1.Hi, bV r2.1.1.Unknown, iV r2.1.2.1.Lo, iV r2.1.2.1.Hi, bV r2.1.2.1.Unknown, iV r2.1.2.2.Lo, iV r2.1.2.2.Hi, bV r2.1.2.2.Unknown]) rfl rfl rfl rfl ti83 rfl rfl rfl rfl rfl (pS rfl (RunC.fin (AWP.sq (AWP.rgD 140 [0, 1, 3, 7, 0, 16, 48, 127, 255, 0, 1023] ⟨[], [none, none, some [0], none, none, none, some [0], none, none, none, some [132]]⟩ hmix (by kernel_rfl) rfl rfl ?_)))))))))
 refine iaP (o' := 0) rfl rfl rfl ti41 rfl ti40 (by decide) rfl (fa rfl rfl ti40 rfl rfl ti30 rfl (ldB (v := .agg _) rfl rfl rfl rfl ti30 rfl rfl ?_))
 obtain ⟨r3, hr3, hR⟩ := bindE hR
 refine cls [] rfl rfl cb41 (ok41 s.1.From _ hr3) (.cons (.agg .z3 rfl) (.nil)) (.inr rfl) rfl (iaP (o' := 36) rfl rfl rfl ti41 rfl ti40 (by decide) rfl (fa rfl rfl ti40 rfl rfl ti30 rfl (ldB (v := .agg _) rfl rfl rfl rfl ti30 rfl rfl ?_)))
 obtain ⟨r4, hr4, hR⟩ := bindE hR
 refine cls [] rfl rfl cb41 (ok41 s.2.2.From _ hr4) (.cons (.agg .z3 rfl) (.nil)) (.inr rfl) rfl (buA (cs := [iV r3.1.Lo, iV r3.1.Hi, bV r3.1.Unknown, iV r3.2.1.Lo, iV r3.2.1.Hi, bV r3.2.1.Unknown, iV r3.2.2.Lo, iV r3.2.2.Hi, bV r3.2.2.Unknown, iV r4.1.Lo, iV r4.1.Hi, bV r4.1.Unknown, iV r4.2.1.Lo, iV r4.2.1.Hi, bV r4.2.1.Unknown, iV r4.2.2.Lo, iV r4.2.2.Hi, bV r4.2.2.Unknown]) rfl ti97 rfl ti84 rfl rfl ?_)
 refine al (cs := [iV 0, iV 0, bV false, iV 0, iV 0, bV false, iV 0, iV 0, bV false, iV 0, iV 0, bV false, iV 0, iV 0, bV false, iV 0, iV 0, bV false]) 132 rfl rfl ti97 rfl rfl (stB (cs' := [iV r3.1.Lo, iV r3.1.Hi, bV r3.1.Unknown, iV r3.2.1.Lo, iV r3.2.1.Hi, bV r3.2.1.Unknown, iV r3.2.2.Lo, iV r3.2.2.Hi, bV r3.2.2.Unknown, iV r4.1.Lo, iV r4.1.Hi, bV r4.1.Unknown, iV r4.2.1.Lo, iV r4.2.1.Hi, bV r4.2.1.Unknown, iV r4.2.2.Lo, iV r4.2.2.Hi, bV r4.2.2.Unknown]) rfl rfl rfl rfl ti97 rfl rfl rfl rfl rfl (RunC.fin (AWP.sq (AWP.rgC 156 rfl rfl (ldB (v := .agg _) rfl rfl rfl rfl ti84 rfl rfl ?_)))))
 obtain ⟨r5, hr5, hR⟩ := bindE hR
 refine cls [] rfl rfl cb83 (ok83 here _ hr5) (.cons (.agg .z9 rfl) (.nil)) (.inr rfl) rfl (al (cs := [iV 0, iV 0, bV false, iV 0, iV 0, bV false, iV 0, iV 0, bV false]) 148 rfl rfl ti84 rfl rfl (stB (cs' := [iV r5.1.Lo, iV r5.1.Hi, bV r5.1.Unknown, iV r5.2.1.Lo, iV r5.2.1.Hi, bV r5.2.1.Unknown, iV r5.2.2.Lo, iV r5.2.2.Hi, bV r5.2.2.Unknown]) rfl rfl rfl rfl ti84 rfl rfl rfl rfl rfl (RunC.fin (AWP.sq (AWP.rgC 160 rfl rfl (al (cs := [iV 0, iV 0, bV false, iV 0, iV 0, bV false, iV 0, iV 0, bV false]) 156 rfl rfl ti84 rfl rfl (RunC.fin (AWP.sq (AWP.sq (AWP.rgC 164 rfl rfl (pS rfl (RunC.fin (AWP.loopJ (fun s6 : (Bound × Bound × Bound) × Int => LS.mk [(3, .ptr 0 0 0), (4, .ptr 1 0 0), (6, .ptr 2 0 0), (8, .ptr 3 0 0), (10, .ptr 4 0 0), (11, .ptr 5 0 0), (12, .ptr 6 0 0), (50, iV s6.2)] (lblks 0 [boxB (α := Bound × Bound × Bound) true here, boxB (α := Bound × Bound × Bound) true (Bound.mk 0 0 false, Bound.mk 0 0 false, Bound.mk 0 0 false), boxB (α := Bound × Bound × Bound) true r1.1, boxB (α := Bound × Bound × Bound) true r2.1, boxB (α := (Bound × Bound × Bound) × (Bound × Bound × Bound)) true (r3, r4), boxB (α := Bound × Bound × Bound) true r5, boxB (α := Bound × Bound × Bound) true s6.1]) 7) (fun z7 : (Bound × Bound × Bound) => LS.mk [(4, .ptr 0 0 0), (6, .ptr 1 0 0), (8, .ptr 2 0 0), (10, .ptr 3 0 0), (12, .ptr 4 0 0)] (lblks 0 [boxB (α := Bound × Bound × Bound) true (Bound.mk 0 0 false, Bound.mk 0 0 false, Bound.mk 0 0 false), boxB (α := Bound × Bound × Bound) true r1.1, boxB (α := Bound × Bound × Bound) true r2.1, boxB (α := (Bound × Bound × Bound) × (Bound × Bound × Bound)) true (r3, r4), boxB (α := Bound × Bound × Bound) true z7]) 5) (predict_first.l1 here r3 r4 r5) hR (s0 := ((Bound.mk 0 0 false, Bound.mk 0 0 false, Bound.mk 0 0 false), 0)) (Weak.turnL [(4, 0), (8, 0), (44, 0), (84, 0), (132, 0), (148, 0), (156, 0)] [] rfl rfl (tc (trP' rfl rfl rfl rfl) (tc (trP' rfl rfl rfl rfl) (tc (trP' rfl rfl rfl rfl) (tc (trP' rfl rfl rfl rfl) (tc (trP' rfl rfl rfl rfl) (tc (trP' rfl rfl rfl rfl) (tc (trP' rfl rfl rfl rfl) (tc (.sc _) tn)))))))) (mc rfl (.box rfl .z9 rfl) (mc rfl (.box rfl .z9 rfl) (mc rfl (.box rfl .z9 rfl) (mc rfl (.box rfl .z9 rfl) (mc rfl (.box rfl (.c9 .z9) rfl) (mc rfl (.box rfl .z9 rfl) (mc rfl (.box rfl .z9 rfl) mn)))))))) (fun s6 o6 hR => ?_) fun z7 hR => ?_)))))))))))))
 ·unfold predict_first.l1 at hR
  refine AWP.sq (AWP.rgC 11 rfl rfl (pS rfl (RunC.fin (AWP.sq (AWP.cd hR rfl (fun h8 hR => ?_) fun h8 hR => ?_)))))
  ·refine AWP.skip (skT (AWP.sq (AWP.block (AWP.sq (AWP.rgC 19 rfl rfl (pS rfl (pS rfl (RunC.fin (AWP.rgD 103 [0, 0, 2, 6, 14, 0, 32, 96, 254, 0, 0, 1536, 3584, 8190, 0, 0, 49152, 114688, 262142, 524287, 1048575] ⟨[], [none, none, none, some [0], none, none, none, some [5], none, none, none, none, some [4], none, none, none, none, some [4], none, none, some [6]]⟩ hmix (by kernel_rfl) rfl rfl ?_)))))))))
   refine pS rfl (pS rfl ?_)
   obtain ⟨h9, hR⟩ := chkE hR
   refine iaP (o' := 0 + s6.2.toNat * Cl.e Bound + 0) rfl rfl rfl ti84 rfl ti33 h9 rfl (ldD (α := Bound) (nw := true) (pre := []) (post := []) (xs := ([here.1, here.2.1, here.2.2] : List Bound)) (m := s6.2.toNat) (off := 0) (v := .agg _) rfl rfl rfl rfl rfl rfl (ixlt h9) ti33 rfl rfl rfl rfl ?_)
   obtain ⟨r10, hr10, hR⟩ := bindE hR
   refine cls [] rfl rfl cb47 (ok47 (gt ([here.1, here.2.1, here.2.2] : List Bound) s6.2) 2 1 _ hr10) (.cons (.agg .z3 rfl) .z2) (.inr rfl) rfl (pS rfl ?_)
   obtain ⟨h11, hR⟩ := chkE hR
   refine iaP (o' := 0 + s6.2.toNat * Cl.e Bound + 0) rfl rfl rfl ti84 rfl ti33 h11 rfl (ldD (α := Bound) (nw := true) (pre := []) (post := []) (xs := ([r5.1, r5.2.1, r5.2.2] : List Bound)) (m := s6.2.toNat) (off := 0) (v := .agg _) rfl rfl rfl rfl rfl rfl (ixlt h11) ti33 rfl rfl rfl rfl ?_)
   obtain ⟨r12, hr12, hR⟩ := bindE hR
   refine cls [] rfl rfl cb57 (ok57 r10 (gt ([r5.1, r5.2.1, r5.2.2] : List Bound) s6.2) _ hr12) (.cons (.agg .z3 rfl) (.cons (.agg .z3 rfl) (.nil))) (.inr rfl) rfl (pS rfl (iaP (o' := 0) rfl rfl rfl ti97 rfl ti84 (by decide) rfl ?_))
   obtain ⟨h13, hR⟩ := chkE hR
   refine iaP (o' := 0 + s6.2.toNat * Cl.e Bound + 0) rfl rfl rfl ti84 rfl ti33 h13 rfl (ldD (α := Bound) (nw := true) (pre := []) (post := [iV r4.1.Lo, iV r4.1.Hi, bV r4.1.Unknown, iV r4.2.1.Lo, iV r4.2.1.Hi, bV r4.2.1.Unknown, iV r4.2.2.Lo, iV r4.2.2.Hi, bV r4.2.2.Unknown]) (xs := ([r3.1, r3.2.1, r3.2.2] : List Bound)) (m := s6.2.toNat) (off := 0) (v := .agg _) rfl rfl rfl rfl rfl rfl (ixlt h13) ti33 rfl rfl rfl rfl ?_)
   obtain ⟨r14, hr14, hR⟩ := bindE hR
   refine cls [] rfl rfl cb43 (ok43 r12 (gt ([r3.1, r3.2.1, r3.2.2] : List Bound) s6.2) _ hr14) (.cons (.agg .z3 rfl) (.cons (.agg .z3 rfl) (.nil))) (.inr rfl) rfl (pS rfl (iaP (o' := 9) rfl rfl rfl ti97 rfl ti84 (by decide) rfl ?_))
   obtain ⟨h15, hR⟩ := chkE hR
   refine iaP (o' := 9 + s6.2.toNat * Cl.e Bound + 0) rfl rfl rfl ti84 rfl ti33 h15 rfl (ldD (α := Bound) (nw := true) (pre := [iV r3.1.Lo, iV r3.1.Hi, bV r3.1.Unknown, iV r3.2.1.Lo, iV r3.2.1.Hi, bV r3.2.1.Unknown, iV r3.2.2.Lo, iV r3.2.2.Hi, bV r3.2.2.Unknown]) (post := []) (xs := ([r4.1, r4.2.1, r4.2.2] : List Bound)) (m := s6.2.toNat) (off := 0) (v := .agg _) rfl rfl rfl rfl rfl rfl (ixlt h15) ti33 rfl rfl rfl rfl ?_)
   obtain ⟨r16, hr16, hR⟩ := bindE hR
   refine cls [] rfl rfl cb43 (ok43 r14 (gt ([r4.1, r4.2.1, r4.2.2] : List Bound) s6.2) _ hr16) (.cons (.agg .z3 rfl) (.cons (.agg .z3 rfl) (.nil))) (.inr rfl) rfl ?_
   obtain ⟨h17, hR⟩ := chkE hR
   refine iaP (o' := 0 + s6.2.toNat * Cl.e Bound + 0) rfl rfl rfl ti84 rfl ti33 h17 rfl ?_
   obtain ⟨v18, ev18, hR⟩ := letE hR
   refine stD (α := Bound) (nw := true) (pre := []) (post := []) (xs := ([s6.1.1, s6.1.2.1, s6.1.2.2] : List Bound)) (m := s6.2.toNat) (off := 0) (ys := [gt v18 0, gt v18 1, gt v18 2]) (y := r16) (cs' := [iV (gt v18 0).Lo, iV (gt v18 0).Hi, bV (gt v18 0).Unknown, iV (gt v18 1).Lo, iV (gt v18 1).Hi, bV (gt v18 1).Unknown, iV (gt v18 2).Lo, iV (gt v18 2).Hi, bV (gt v18 2).Unknown]) rfl rfl rfl rfl rfl rfl (ixlt h17) ti33 rfl rfl rfl rfl (etaS ev18 rfl rfl) rfl rfl (RunC.blk (RunC.fin (AWP.rgC 111 rfl rfl (pS rfl (pS rfl (RunC.fin (⟨((gt v18 0, gt v18 1, gt v18 2), w6 (s6.2 + 1)), (Option.some.inj hR).symm, ?_⟩)))))))
   exact Weak.turnL [(0, 0), (1, 0), (2, 0), (3, 0), (4, 0), (5, 0), (6, 0)] [] rfl rfl (tc (trP' rfl rfl rfl rfl) (tc (trP' rfl rfl rfl rfl) (tc (trP' rfl rfl rfl rfl) (tc (trP' rfl rfl rfl rfl) (tc (trP' rfl rfl rfl rfl) (tc (trP' rfl rfl rfl rfl) (tc (trP' rfl rfl rfl rfl) (tc (.sc _) tn)))))))) (mc rfl (.box rfl .z9 rfl) (mc rfl (.box rfl .z9 rfl) (mc rfl (.box rfl .z9 rfl) (mc rfl (.box rfl .z9 rfl) (mc rfl (.box rfl (.c9 .z9) rfl) (mc rfl (.box rfl .z9 rfl) (mc rfl (.box rfl .z9 rfl) mn)))))))
  ·refine AWP.exit (exT (exT (exH (skT (⟨s6.1, (Option.some.inj hR).symm, ?_⟩)))))
   exact Weak.turnL [(1, 0), (2, 0), (3, 0), (4, 0), (6, 0)] [] rfl rfl (tc (trP' rfl rfl rfl rfl) (tc (trP' rfl rfl rfl rfl) (tc (trP' rfl rfl rfl rfl) (tc (trP' rfl rfl rfl rfl) (tc (trP' rfl rfl rfl rfl) tn))))) (mc rfl (.box rfl .z9 rfl) (mc rfl (.box rfl .z9 rfl) (mc rfl (.box rfl .z9 rfl) (mc rfl (.box rfl (.c9 .z9) rfl) (mc rfl (.box rfl .z9 rfl) mn)))))
 ·refine skT (AWP.sq (AWP.rgD 53 [0, 0, 0, 6, 15, 0, 0, 127, 0, 0, 1023, 2047] ⟨[], [some [1], some [2], some [1], none, none, some [4], some [2], none, none, none, some [37], some [41]]⟩ hmix (by kernel_rfl) rfl rfl ?_))
  refine ldB (v := .agg _) rfl rfl rfl rfl ti83 rfl rfl (ldB (v := .agg _) rfl rfl rfl rfl ti83 rfl rfl (ldB (v := .agg _) rfl rfl rfl rfl ti83 rfl rfl ?_))
  obtain ⟨r19, hr19, hR⟩ := bindE hR
  refine cls [] rfl rfl cb85 (ok85 r2.1 r1.1 _ hr19) (.cons (.agg .z9 rfl) (.cons (.agg .z9 rfl) (.nil))) (.inr rfl) rfl ?_
  obtain ⟨r20, hr20, hR⟩ := bindE hR
  refine cls [] rfl rfl cb84 (ok84 r1.1 r19 _ hr20) (.cons (.agg .z9 rfl) (.cons (.agg .z9 rfl) (.nil))) (.inr rfl) rfl (ldB (v := .agg _) rfl rfl rfl rfl ti84 rfl rfl (ldB (v := .agg _) rfl rfl rfl rfl ti83 rfl rfl ?_))
  obtain ⟨r21, hr21, hR⟩ := bindE hR
  refine cls [] rfl rfl cb84 (ok84 z7 r2.1 _ hr21) (.cons (.agg .z9 rfl) (.cons (.agg .z9 rfl) (.nil))) (.inr rfl) rfl (al (cs := [iV 0, iV 0, bV false, iV 0, iV 0, bV false, iV 0, iV 0, bV false]) 37 rfl rfl ti84 rfl rfl (al (cs := [iV 0, iV 0, bV false, iV 0, iV 0, bV false, iV 0, iV 0, bV false]) 41 rfl rfl ti84 rfl rfl (stB (cs' := [iV r20.1.Lo, iV r20.1.Hi, bV r20.1.Unknown, iV r20.2.1.Lo, iV r20.2.1.Hi, bV r20.2.1.Unknown, iV r20.2.2.Lo, iV r20.2.2.Hi, bV r20.2.2.Unknown]) rfl rfl rfl rfl ti84 rfl rfl rfl rfl rfl (stB (cs' := [iV r21.1.Lo, iV r21.1.Hi, bV r21.1.Unknown, iV r21.2.1.Lo, iV r21.2.1.Hi, bV r21.2.1.Unknown, iV r21.2.2.Lo, iV r21.2.2.Hi, bV r21.2.2.Unknown]) rfl rfl rfl rfl ti84 rfl rfl rfl rfl rfl (RunC.fin (AWP.sq (AWP.rgC 61 rfl rfl (pS rfl (pS rfl (RunC.fin (AWP.sq (AWP.sq (AWP.rgC 69 rfl rfl (ldB (v := .agg _) rfl rfl rfl rfl ti84 rfl rfl (pS rfl (RunC.fin ?_))))))))))))))))
  refine AWP.loopJ (fun s22 : Int × Int × Int => LS.mk [(4, .ptr 0 0 0), (6, .ptr 1 0 0), (10, .ptr 2 0 0), (14, .ptr 3 0 0), (15, .ptr 4 0 0), (16, iV s22.1), (17, iV s22.2.1), (82, aggV (α := Bound × Bound × Bound) true r20), (83, iV s22.2.2)] (lblks 0 [boxB (α := Bound × Bound × Bound) true (Bound.mk 0 0 false, Bound.mk 0 0 false, Bound.mk 0 0 false), boxB (α := Bound × Bound × Bound) true r1.1, boxB (α := (Bound × Bound × Bound) × (Bound × Bound × Bound)) true (r3, r4), boxB (α := Bound × Bound × Bound) true r20, boxB (α := Bound × Bound × Bound) true r21]) 5) (fun z23 : Int => LS.mk [(4, .ptr 0 0 0), (6, .ptr 1 0 0), (10, .ptr 2 0 0), (14, .ptr 3 0 0), (15, .ptr 4 0 0), (16, iV z23)] (lblks 0 [boxB (α := Bound × Bound × Bound) true (Bound.mk 0 0 false, Bound.mk 0 0 false, Bound.mk 0 0 false), boxB (α := Bound × Bound × Bound) true r1.1, boxB (α := (Bound × Bound × Bound) × (Bound × Bound × Bound)) true (r3, r4), boxB (α := Bound × Bound × Bound) true r20, boxB (α := Bound × Bound × Bound) true r21]) 5) (predict_first.l2 r20) hR (s0 := ((-1), 0, 0)) (Weak.turnL [(0, 0), (1, 0), (3, 0), (37, 0), (41, 0)] [] rfl rfl (tc (trP' rfl rfl rfl rfl) (tc (trP' rfl rfl rfl rfl) (tc (trP' rfl rfl rfl rfl) (tc (trP' rfl rfl rfl rfl) (tc (trP' rfl rfl rfl rfl) (tc (.sc _) (tc (.sc _) (tc (.agg .z9 rfl) (tc (.sc _) tn))))))))) (mc rfl (.box rfl .z9 rfl) (mc rfl (.box rfl .z9 rfl) (mc rfl (.box rfl (.c9 .z9) rfl) (mc rfl (.box rfl .z9 rfl) (mc rfl (.box rfl .z9 rfl) mn)))))) (fun s22 o22 hR => ?_) fun z23 hR => ?_
  ·unfold predict_first.l2 at hR
   refine AWP.sq (AWP.rgC 9 rfl rfl (pS rfl (RunC.fin (AWP.sq (AWP.cd hR rfl (fun h24 hR => ?_) fun h24 hR => ?_)))))
   ·refine AWP.skip (skT (AWP.joinX (fun z25 : Int × Int => LS.mk [(4, .ptr 0 0 0), (6, .ptr 1 0 0), (10, .ptr 2 0 0), (14, .ptr 3 0 0), (15, .ptr 4 0 0), (16, iV z25.1), (17, iV z25.2), (82, aggV (α := Bound × Bound × Bound) true r20), (83, iV s22.2.2)] (lblks 0 [boxB (α := Bound × Bound × Bound) true (Bound.mk 0 0 false, Bound.mk 0 0 false, Bound.mk 0 0 false), boxB (α := Bound × Bound × Bound) true r1.1, boxB (α := (Bound × Bound × Bound) × (Bound × Bound × Bound)) true (r3, r4), boxB (α := Bound × Bound × Bound) true r20, boxB (α := Bound × Bound × Bound) true r21]) 5) hR (fun o25 hR => ?_) fun z25 hR => ?_))
    ·refine AWP.block (AWP.sq (AWP.rgC 29 rfl rfl (pS rfl ?_)))
     obtain ⟨h26, hR⟩ := chkE hR
     refine ixD (α := Bound) (nw := true) (xs := ([r20.1, r20.2.1, r20.2.2] : List Bound)) (v := .agg _) rfl rfl rfl rfl ti84 rfl ti33 h26 rfl rfl rfl ?_
     refine al (cs := [iV 0, iV 0, bV false]) 17 rfl rfl ti33 rfl rfl (pS rfl (stB (cs' := [iV (gt ([r20.1, r20.2.1, r20.2.2] : List Bound) s22.2.2).Lo, iV (gt ([r20.1, r20.2.1, r20.2.2] : List Bound) s22.2.2).Hi, bV (gt ([r20.1, r20.2.1, r20.2.2] : List Bound) s22.2.2).Unknown]) rfl rfl rfl rfl ti33 rfl rfl rfl rfl rfl (RunC.fin (AWP.sq (AWP.rgC 57 rfl rfl (fa rfl rfl ti33 rfl rfl ti31 rfl (ldB (v := .sc _) rfl rfl rfl rfl ti31 rfl rfl (fa rfl rfl ti33 rfl rfl ti31 rfl (ldB (v := .sc _) rfl rfl rfl rfl ti31 rfl rfl ?_)))))))))
     obtain ⟨v27, ev27, hR⟩ := letE hR
     refine pu (v := .sc _) rfl rfl (fun _ => puI ev27) ?_
     obtain ⟨v28, ev28, hR⟩ := letE hR
     refine pu (v := .sc _) rfl rfl (fun _ => puI ev28) (pS rfl (RunC.fin (AWP.joinX (fun z29 : Bool => LS.mk [(4, .ptr 0 0 0), (6, .ptr 1 0 0), (10, .ptr 2 0 0), (14, .ptr 3 0 0), (15, .ptr 4 0 0), (16, iV s22.1), (17, iV s22.2.1), (18, iV s22.2.2), (20, iV v28), (82, aggV (α := Bound × Bound × Bound) true r20), (83, iV s22.2.2), (100, bV z29)] (lblks 0 [boxB (α := Bound × Bound × Bound) true (Bound.mk 0 0 false, Bound.mk 0 0 false, Bound.mk 0 0 false), boxB (α := Bound × Bound × Bound) true r1.1, boxB (α := (Bound × Bound × Bound) × (Bound × Bound × Bound)) true (r3, r4), boxB (α := Bound × Bound × Bound) true r20, boxB (α := Bound × Bound × Bound) true r21]) 5) hR (fun o29 hR => ?_) fun z29 hR => ?_)))
     ·refine AWP.rgC 89 rfl rfl (fa rfl rfl ti33 rfl rfl ti4 rfl (ldB (v := .sc _) rfl rfl rfl rfl ti4 rfl rfl ?_))
      obtain ⟨v30, ev30, hR⟩ := letE hR
      refine pu (v := .sc _) rfl rfl (fun _ => puB ev30) (pS rfl (brR hR (fun h31 hR => ?_) fun h31 hR => ?_))
      ·refine pu (v := .sc _) (wtG rfl rfl rfl h31) rfl (fun _ => rfl) (pu (v := .sc _) (wtG rfl rfl rfl h31) rfl (fun _ => rfl) (pu (v := .sc _) (wtG rfl rfl rfl h31) rfl (fun _ => rfl) (pkT (v := bV (decide (v28 > s22.2.1))) rfl rfl h31 rfl (RunC.fin ?_))))
       have hR := Option.some.inj hR; subst hR
       exact Weak.turnL [(0, 0), (1, 0), (2, 0), (3, 0), (4, 0)] [] rfl rfl (tc (trP' rfl rfl rfl rfl) (tc (trP' rfl rfl rfl rfl) (tc (trP' rfl rfl rfl rfl) (tc (trP' rfl rfl rfl rfl) (tc (trP' rfl rfl rfl rfl) (tc (.sc _) (tc (.sc _) (tc (.sc _) (tc (.sc _) (tc (.agg .z9 rfl) (tc (.sc _) (tc (.sc _) tn)))))))))))) (mc rfl (.box rfl .z9 rfl) (mc rfl (.box rfl .z9 rfl) (mc rfl (.box rfl (.c9 .z9) rfl) (mc rfl (.box rfl .z9 rfl) (mc rfl (.box rfl .z9 rfl) mn)))))
      ·refine sk (skW rfl rfl rfl h31) (sk (skW rfl rfl rfl h31) (sk (skW rfl rfl rfl h31) (pkF (v := bV false) rfl rfl h31 rfl (RunC.fin ?_))))
       have hR := Option.some.inj hR; subst hR
       exact Weak.turnL [(0, 0), (1, 0), (2, 0), (3, 0), (4, 0)] [] rfl rfl (tc (trP' rfl rfl rfl rfl) (tc (trP' rfl rfl rfl rfl) (tc (trP' rfl rfl rfl rfl) (tc (trP' rfl rfl rfl rfl) (tc (trP' rfl rfl rfl rfl) (tc (.sc _) (tc (.sc _) (tc (.sc _) (tc (.sc _) (tc (.agg .z9 rfl) (tc (.sc _) (tc (.sc _) tn)))))))))))) (mc rfl (.box rfl .z9 rfl) (mc rfl (.box rfl .z9 rfl) (mc rfl (.box rfl (.c9 .z9) rfl) (mc rfl (.box rfl .z9 rfl) (mc rfl (.box rfl .z9 rfl) mn)))))
     ·refine AWP.cd hR rfl (fun h32 hR => ?_) fun h32 hR => ?_
      ·refine AWP.rgC 21 rfl rfl (pS rfl (pS rfl (pS rfl (pS rfl (RunC.blk (RunC.fin ?_))))))
       have hR := Option.some.inj hR; subst hR
       exact Weak.turnL [(0, 0), (1, 0), (2, 0), (3, 0), (4, 0)] [] rfl rfl (tc (trP' rfl rfl rfl rfl) (tc (trP' rfl rfl rfl rfl) (tc (trP' rfl rfl rfl rfl) (tc (trP' rfl rfl rfl rfl) (tc (trP' rfl rfl rfl rfl) (tc (.sc _) (tc (.sc _) (tc (.agg .z9 rfl) (tc (.sc _) tn))))))))) (mc rfl (.box rfl .z9 rfl) (mc rfl (.box rfl .z9 rfl) (mc rfl (.box rfl (.c9 .z9) rfl) (mc rfl (.box rfl .z9 rfl) (mc rfl (.box rfl .z9 rfl) mn)))))
      ·refine AWP.skip (skB ?_)
       refine skT ?_
       have hR := Option.some.inj hR; subst hR
       exact Weak.turnL [(0, 0), (1, 0), (2, 0), (3, 0), (4, 0)] [] rfl rfl (tc (trP' rfl rfl rfl rfl) (tc (trP' rfl rfl rfl rfl) (tc (trP' rfl rfl rfl rfl) (tc (trP' rfl rfl rfl rfl) (tc (trP' rfl rfl rfl rfl) (tc (.sc _) (tc (.sc _) (tc (.agg .z9 rfl) (tc (.sc _) tn))))))))) (mc rfl (.box rfl .z9 rfl) (mc rfl (.box rfl .z9 rfl) (mc rfl (.box rfl (.c9 .z9) rfl) (mc rfl (.box rfl .z9 rfl) (mc rfl (.box rfl .z9 rfl) mn)))))
    ·refine AWP.rgC 13 rfl rfl (pS rfl (pS rfl (RunC.fin (⟨(z25.1, z25.2, w6 (s22.2.2 + 1)), (Option.some.inj hR).symm, ?_⟩))))
     exact Weak.turnL [(0, 0), (1, 0), (2, 0), (3, 0), (4, 0)] [] rfl rfl (tc (trP' rfl rfl rfl rfl) (tc (trP' rfl rfl rfl rfl) (tc (trP' rfl rfl rfl rfl) (tc (trP' rfl rfl rfl rfl) (tc (trP' rfl rfl rfl rfl) (tc (.sc _) (tc (.sc _) (tc (.agg .z9 rfl) (tc (.sc _) tn))))))))) (mc rfl (.box rfl .z9 rfl) (mc rfl (.box rfl .z9 rfl) (mc rfl (.box rfl (.c9 .z9) rfl) (mc rfl (.box rfl .z9 rfl) (mc rfl (.box rfl .z9 rfl) mn)))))
   ·refine AWP.exit (exT (exT (exH (skT (⟨s22.1, (Option.some.inj hR).symm, ?_⟩)))))
    exact Weak.turnL [(0, 0), (1, 0), (2, 0), (3, 0), (4, 0)] [] rfl rfl (tc (trP' rfl rfl rfl rfl) (tc (trP' rfl rfl rfl rfl) (tc (trP' rfl rfl rfl rfl) (tc (trP' rfl rfl rfl rfl) (tc (trP' rfl rfl rfl rfl) (tc (.sc _) tn)))))) (mc rfl (.box rfl .z9 rfl) (mc rfl (.box rfl .z9 rfl) (mc rfl (.box rfl (.c9 .z9) rfl) (mc rfl (.box rfl .z9 rfl) (mc rfl (.box rfl .z9 rfl) mn)))))
  ·refine skT (AWP.sq (AWP.rgC 29 rfl rfl ?_))
   obtain ⟨r33, hr33, hR⟩ := bindE hR
   refine cls [] rfl rfl cb45 (ok45 _ hr33) (.nil) (.inr rfl) rfl ?_
   obtain ⟨r34, hr34, hR⟩ := bindE hR
   refine cls [] rfl rfl cb45 (ok45 _ hr34) (.nil) (.inr rfl) rfl ?_
   obtain ⟨r35, hr35, hR⟩ := bindE hR
   refine cls [] rfl rfl cb45 (ok45 _ hr35) (.nil) (.inr rfl) rfl (buA (cs := [iV r33.Lo, iV r33.Hi, bV r33.Unknown, iV r34.Lo, iV r34.Hi, bV r34.Unknown, iV r35.Lo, iV r35.Hi, bV r35.Unknown]) rfl ti84 rfl ti33 rfl rfl ?_)
   refine al (cs := [iV 0, iV 0, bV false, iV 0, iV 0, bV false, iV 0, iV 0, bV false]) 21 rfl rfl ti84 rfl rfl (stB (cs' := [iV r33.Lo, iV r33.Hi, bV r33.Unknown, iV r34.Lo, iV r34.Hi, bV r34.Unknown, iV r35.Lo, iV r35.Hi, bV r35.Unknown]) rfl rfl rfl rfl ti84 rfl rfl rfl rfl rfl (RunC.fin (AWP.sq (AWP.sq (AWP.rgC 37 rfl rfl (pS rfl (pS rfl (RunC.fin (AWP.cd hR rfl (fun h36 hR => ?_) fun h36 hR => ?_)))))))))
   ·refine AWP.sq (AWP.rgC 49 rfl rfl (ldB (v := .agg _) rfl rfl rfl rfl ti84 rfl rfl (stB (cs' := [iV r33.Lo, iV r33.Hi, bV r33.Unknown, iV r34.Lo, iV r34.Hi, bV r34.Unknown, iV r35.Lo, iV r35.Hi, bV r35.Unknown]) rfl rfl rfl rfl ti84 rfl rfl rfl rfl rfl (pS rfl (RunC.fin (AWP.ret (rtT ?_)))))))
    have hR := Option.some.inj hR; subst hR
    exact hQ _ _ (LS.mk [(4, .ptr 0 0 0), (5, bV true)] (lblks 0 [boxB (α := Bound × Bound × Bound) true (r33, r34, r35)]) 1) (.tup [aggV (α := Bound × Bound × Bound) true (r33, r34, r35), bV true]) [] (.inr rfl) (Weak.turnL [(0, 0)] [] rfl rfl (tc (trP' rfl rfl rfl rfl) (tc (.sc _) tn)) (mc rfl (.box rfl .z9 rfl) mn)) (ro2 (rvC (v := aggV (α := Bound × Bound × Bound) true (r33, r34, r35)) rfl rfl ti84 rfl) (rvT (v := bV true) rfl)) rfl rfl (.tup (.cons ldA (.cons (.sc _) .nil))) pn
   ·refine AWP.skip (skT (AWP.sq (AWP.rgD 97 [0, 1, 3, 0, 8, 24, 63, 0, 255, 511, 1023, 1023, 0, 6143, 16383] ⟨[], [none, none, some [4], none, none, some [3], none, none, none, none, none, none, none, some [85], none]⟩ hmix (by kernel_rfl) rfl rfl ?_)))
    refine pS rfl ?_
    obtain ⟨h37, hR⟩ := chkE hR
    refine iaP (o' := 0 + z23.toNat * Cl.e Bound + 0) rfl rfl rfl ti84 rfl ti33 h37 rfl (ldD (α := Bound) (nw := true) (pre := []) (post := []) (xs := ([r21.1, r21.2.1, r21.2.2] : List Bound)) (m := z23.toNat) (off := 0) (v := .agg _) rfl rfl rfl rfl rfl rfl (ixlt h37) ti33 rfl rfl rfl rfl (pS rfl ?_))
    obtain ⟨h38, hR⟩ := chkE hR
    refine iaP (o' := 0 + z23.toNat * Cl.e Bound + 0) rfl rfl rfl ti84 rfl ti33 h38 rfl (ldD (α := Bound) (nw := true) (pre := []) (post := []) (xs := ([r20.1, r20.2.1, r20.2.2] : List Bound)) (m := z23.toNat) (off := 0) (v := .agg _) rfl rfl rfl rfl rfl rfl (ixlt h38) ti33 rfl rfl rfl rfl ?_)
    obtain ⟨r39, hr39, hR⟩ := bindE hR
    refine cls [] rfl rfl cb65 (ok65 (gt ([r21.1, r21.2.1, r21.2.2] : List Bound) z23) (gt ([r20.1, r20.2.1, r20.2.2] : List Bound) z23) 1073741824 _ hr39) (.cons (.agg .z3 rfl) (.cons (.agg .z3 rfl) (.cons (.sc _) .nil))) (.inr rfl) rfl (bu (cs := [iV 0, iV 16777216, bV false]) rfl bt33 rfl ?_)
    obtain ⟨r40, hr40, hR⟩ := bindE hR
    refine cls [] rfl rfl cb66 (ok66 r39 (Bound.mk 0 16777216 false) _ hr40) (.cons (.agg .z3 rfl) (.cons (.agg .z3 rfl) (.nil))) (.inr rfl) rfl (pu (v := .tup _) rfl rfl (fun _ => rfl) (pu (v := .agg _) rfl rfl (fun _ => rfl) (pS rfl (al (cs := [iV 0, iV 0, bV false]) 85 rfl rfl ti33 rfl rfl (stB (cs' := [iV r40.1.Lo, iV r40.1.Hi, bV r40.1.Unknown]) rfl rfl rfl rfl ti33 rfl rfl rfl rfl rfl (pS rfl (RunC.fin (AWP.sq (AWP.sq (AWP.rgC 101 rfl rfl (pS rfl (RunC.fin (AWP.loopJ (fun s41 : (Bound × Bound × Bound) × Int => LS.mk [(4, .ptr 0 0 0), (6, .ptr 1 0 0), (10, .ptr 2 0 0), (21, .ptr 3 0 0), (22, .ptr 4 0 0), (23, bV r40.2), (123, iV s41.2)] (lblks 0 [boxB (α := Bound × Bound × Bound) true (Bound.mk 0 0 false, Bound.mk 0 0 false, Bound.mk 0 0 false), boxB (α := Bound × Bound × Bound) true r1.1, boxB (α := (Bound × Bound × Bound) × (Bound × Bound × Bound)) true (r3, r4), boxB (α := Bound × Bound × Bound) true s41.1, boxB (α := Bound) true r40.1]) 5) (fun z42 : (Bound × Bound × Bound) => LS.mk [(4, .ptr 0 0 0), (21, .ptr 1 0 0), (23, bV r40.2)] (lblks 0 [boxB (α := Bound × Bound × Bound) true (Bound.mk 0 0 false, Bound.mk 0 0 false, Bound.mk 0 0 false), boxB (α := Bound × Bound × Bound) true z42]) 2) (predict_first.l3 r1 r3 r40) hR (s0 := ((r33, r34, r35), 0)) (Weak.turnL [(0, 0), (1, 0), (2, 0), (21, 0), (85, 0)] [] rfl rfl (tc (trP' rfl rfl rfl rfl) (tc (trP' rfl rfl rfl rfl) (tc (trP' rfl rfl rfl rfl) (tc (trP' rfl rfl rfl rfl) (tc (trP' rfl rfl rfl rfl) (tc (.sc _) (tc (.sc _) tn))))))) (mc rfl (.box rfl .z9 rfl) (mc rfl (.box rfl .z9 rfl) (mc rfl (.box rfl (.c9 .z9) rfl) (mc rfl (.box rfl .z9 rfl) (mc rfl (.box rfl .z3 rfl) mn)))))) (fun s41 o41 hR => ?_) fun z42 hR => ?_)))))))))))))
    ·unfold predict_first.l3 at hR
     refine AWP.sq (AWP.rgC 9 rfl rfl (pS rfl (RunC.fin (AWP.sq (AWP.cd hR rfl (fun h43 hR => ?_) fun h43 hR => ?_)))))
     ·refine AWP.skip (skT (AWP.sq (AWP.block (AWP.sq (AWP.rgC 17 rfl rfl (pS rfl (pS rfl (RunC.fin (AWP.rgD 69 [0, 0, 0, 6, 14, 0, 32, 96, 0, 480, 1022, 2047, 4095] ⟨[], [none, none, none, none, some [2], none, none, some [1], some [4], none, none, none, some [3]]⟩ hmix (by kernel_rfl) rfl rfl ?_)))))))))
      refine pS rfl (pS rfl (iaP (o' := 0) rfl rfl rfl ti97 rfl ti84 (by decide) rfl ?_))
      obtain ⟨h44, hR⟩ := chkE hR
      refine iaP (o' := 0 + s41.2.toNat * Cl.e Bound + 0) rfl rfl rfl ti84 rfl ti33 h44 rfl (ldD (α := Bound) (nw := true) (pre := []) (post := [iV r4.1.Lo, iV r4.1.Hi, bV r4.1.Unknown, iV r4.2.1.Lo, iV r4.2.1.Hi, bV r4.2.1.Unknown, iV r4.2.2.Lo, iV r4.2.2.Hi, bV r4.2.2.Unknown]) (xs := ([r3.1, r3.2.1, r3.2.2] : List Bound)) (m := s41.2.toNat) (off := 0) (v := .agg _) rfl rfl rfl rfl rfl rfl (ixlt h44) ti33 rfl rfl rfl rfl (pS rfl ?_))
      obtain ⟨h45, hR⟩ := chkE hR
      refine iaP (o' := 0 + s41.2.toNat * Cl.e Bound + 0) rfl rfl rfl ti83 rfl ti33 h45 rfl (ldD (α := Bound) (nw := true) (pre := []) (post := []) (xs := ([r1.1.1, r1.1.2.1, r1.1.2.2] : List Bound)) (m := s41.2.toNat) (off := 0) (v := .agg _) rfl rfl rfl rfl rfl rfl (ixlt h45) ti33 rfl rfl rfl rfl (ldB (v := .agg _) rfl rfl rfl rfl ti33 rfl rfl ?_))
      obtain ⟨r46, hr46, hR⟩ := bindE hR
      refine cls [] rfl rfl cb58 (ok58 (gt ([r1.1.1, r1.1.2.1, r1.1.2.2] : List Bound) s41.2) r40.1 1073741824 _ hr46) (.cons (.agg .z3 rfl) (.cons (.agg .z3 rfl) (.cons (.sc _) .nil))) (.inr rfl) rfl ?_
      obtain ⟨r47, hr47, hR⟩ := bindE hR
      refine cls [] rfl rfl cb57 (ok57 (gt ([r3.1, r3.2.1, r3.2.2] : List Bound) s41.2) r46 _ hr47) (.cons (.agg .z3 rfl) (.cons (.agg .z3 rfl) (.nil))) (.inr rfl) rfl ?_
      obtain ⟨h48, hR⟩ := chkE hR
      refine iaP (o' := 0 + s41.2.toNat * Cl.e Bound + 0) rfl rfl rfl ti84 rfl ti33 h48 rfl ?_
      obtain ⟨v49, ev49, hR⟩ := letE hR
      refine stD (α := Bound) (nw := true) (pre := []) (post := []) (xs := ([s41.1.1, s41.1.2.1, s41.1.2.2] : List Bound)) (m := s41.2.toNat) (off := 0) (ys := [gt v49 0, gt v49 1, gt v49 2]) (y := r47) (cs' := [iV (gt v49 0).Lo, iV (gt v49 0).Hi, bV (gt v49 0).Unknown, iV (gt v49 1).Lo, iV (gt v49 1).Hi, bV (gt v49 1).Unknown, iV (gt v49 2).Lo, iV (gt v49 2).Hi, bV (gt v49 2).Unknown]) rfl rfl rfl rfl rfl rfl (ixlt h48) ti33 rfl rfl rfl rfl (etaS ev49 rfl rfl) rfl rfl (RunC.blk (RunC.fin (AWP.rgC 77 rfl rfl (pS rfl (pS rfl (RunC.fin (⟨((gt v49 0, gt v49 1, gt v49 2), w6 (s41.2 + 1)), (Option.some.inj hR).symm, ?_⟩)))))))
      exact Weak.turnL [(0, 0), (1, 0), (2, 0), (3, 0), (4, 0)] [] rfl rfl (tc (trP' rfl rfl rfl rfl) (tc (trP' rfl rfl rfl rfl) (tc (trP' rfl rfl rfl rfl) (tc (trP' rfl rfl rfl rfl) (tc (trP' rfl rfl rfl rfl) (tc (.sc _) (tc (.sc _) tn))))))) (mc rfl (.box rfl .z9 rfl) (mc rfl (.box rfl .z9 rfl) (mc rfl (.box rfl (.c9 .z9) rfl) (mc rfl (.box rfl .z9 rfl) (mc rfl (.box rfl .z3 rfl) mn)))))
     ·refine AWP.exit (exT (exT (exH (skT (⟨s41.1, (Option.some.inj hR).symm, ?_⟩)))))
      exact Weak.turnL [(0, 0), (3, 0)] [] rfl rfl (tc (trP' rfl rfl rfl rfl) (tc (trP' rfl rfl rfl rfl) (tc (.sc _) tn))) (mc rfl (.box rfl .z9 rfl) (mc rfl (.box rfl .z9 rfl) mn))
    ·refine skT (AWP.sq (AWP.rgC 18 rfl rfl (ldB (v := .agg _) rfl rfl rfl rfl ti84 rfl rfl (pS rfl (stB (cs' := [iV z42.1.Lo, iV z42.1.Hi, bV z42.1.Unknown, iV z42.2.1.Lo, iV z42.2.1.Hi, bV z42.2.1.Unknown, iV z42.2.2.Lo, iV z42.2.2.Hi, bV z42.2.2.Unknown]) rfl rfl rfl rfl ti84 rfl rfl rfl rfl rfl (pS rfl (RunC.fin (AWP.ret ?_))))))))
     have hR := Option.some.inj hR; subst hR
     exact hQ _ _ (LS.mk [(4, .ptr 0 0 0), (5, bV r40.2)] (lblks 0 [boxB (α := Bound × Bound × Bound) true z42]) 1) (.tup [aggV (α := Bound × Bound × Bound) true z42, bV r40.2]) [] (.inr rfl) (Weak.turnL [(0, 0)] [] rfl rfl (tc (trP' rfl rfl rfl rfl) (tc (.sc _) tn)) (mc rfl (.box rfl .z9 rfl) mn)) (ro2 (rvC (v := aggV (α := Bound × Bound × Bound) true z42) rfl rfl ti84 rfl) (rvT (v := bV r40.2) rfl)) rfl rfl (.tup (.cons ldA (.cons (.sc _) .nil))) pn
theorem ok40 (o : arc_Orbit) (r : (List ((Bound × Bound × Bound) × (Bound × Bound × Bound))) × Int) (hR : predict_Starts o = some r) : FnP Tryz.prog 40 [aggV false o] (.tup [rowV (α := (Bound × Bound × Bound) × (Bound × Bound × Bound)) true r.1, .sc (.int .i64 r.2)]) := by
 refine fnP_of (FnX.walk Tryz.func40 rfl 73 0 (by simp [Tryz.ntmps40]) rfl fun W S F Q hQ => ?_)
 unfold predict_Starts at hR
 refine AWP.sq (AWP.rgC 12 rfl rfl (bx (cs := _) 0 rfl rfl rfl (pS rfl (pS rfl (RunC.fin (AWP.sq (AWP.sq (AWP.rgC 24 rfl rfl (ldB (v := .agg _) rfl rfl rfl rfl ti55 rfl rfl ?_)))))))))
 obtain ⟨r1, hr1, hR⟩ := bindE hR
 refine cls [] rfl rfl cb22 (ok22 o _ hr1) (.cons (.agg (.c9 (.c9 (.c9 (.c9 (.c9 (.c9 .z2)))))) rfl) (.nil)) (.inr rfl) rfl (pS rfl (RunC.fin (AWP.sq (AWP.rgC 32 rfl rfl (pS rfl (pS rfl (RunC.fin (AWP.cd hR rfl (fun h2 hR => ?_) fun h2 hR => ?_))))))))
 ·refine AWP.sq (AWP.rgC 44 rfl rfl (pS rfl (pS rfl (pS rfl (RunC.fin (AWP.ret (rtT ?_)))))))
  have hR := Option.some.inj hR; subst hR
  exact hQ _ _ (LS.mk [(2, rowV (α := (Bound × Bound × Bound) × (Bound × Bound × Bound)) true []), (3, iV r1)] (lblks 0 []) 0) (.tup [rowV (α := (Bound × Bound × Bound) × (Bound × Bound × Bound)) true [], iV r1]) [] (.inr rfl) (Weak.turnL [] [] rfl rfl (tc trN (tc (.sc _) tn)) mn) (ro2 (rvT (v := rowV (α := (Bound × Bound × Bound) × (Bound × Bound × Bound)) true []) rfl) (rvT (v := iV r1) rfl)) rfl rfl (.tup (.cons ldR' (.cons (.sc _) .nil))) pn
 ·refine AWP.skip (skT (AWP.sq (AWP.rgC 76 rfl rfl (fa rfl rfl ti55 rfl rfl ti41 rfl (iaP (o' := 18) rfl rfl rfl ti41 rfl ti40 (by decide) rfl (fa rfl rfl ti40 rfl rfl ti35 rfl (ldB (v := .agg _) rfl rfl rfl rfl ti35 rfl rfl ?_)))))))
  obtain ⟨r3, hr3, hR⟩ := bindE hR
  refine cls [] rfl rfl cb44 (ok44 o.Seen.2.1.Box _ hr3) (.cons (.agg .z9 rfl) (.nil)) (.inr rfl) rfl (pu (v := .tup _) rfl rfl (fun _ => rfl) (pu (v := .agg _) rfl rfl (fun _ => rfl) (pS rfl (al (cs := [iV 0, iV 0, bV false, iV 0, iV 0, bV false, iV 0, iV 0, bV false]) 64 rfl rfl ti83 rfl rfl (stB (cs' := [iV r3.1.1.Lo, iV r3.1.1.Hi, bV r3.1.1.Unknown, iV r3.1.2.1.Lo, iV r3.1.2.1.Hi, bV r3.1.2.1.Unknown, iV r3.1.2.2.Lo, iV r3.1.2.2.Hi, bV r3.1.2.2.Unknown]) rfl rfl rfl rfl ti83 rfl rfl rfl rfl rfl (pS rfl (RunC.fin (AWP.sq (AWP.rgC 104 rfl rfl (fa rfl rfl ti55 rfl rfl ti41 rfl (iaP (o' := 18) rfl rfl rfl ti41 rfl ti40 (by decide) rfl (fa rfl rfl ti40 rfl rfl ti30 rfl (ldB (v := .agg _) rfl rfl rfl rfl ti30 rfl rfl ?_)))))))))))))
  obtain ⟨r4, hr4, hR⟩ := bindE hR
  refine cls [] rfl rfl cb41 (ok41 o.Seen.2.1.From _ hr4) (.cons (.agg .z3 rfl) (.nil)) (.inr rfl) rfl (al (cs := [iV 0, iV 0, bV false, iV 0, iV 0, bV false, iV 0, iV 0, bV false]) 96 rfl rfl ti84 rfl rfl (stB (cs' := [iV r4.1.Lo, iV r4.1.Hi, bV r4.1.Unknown, iV r4.2.1.Lo, iV r4.2.1.Hi, bV r4.2.1.Unknown, iV r4.2.2.Lo, iV r4.2.2.Hi, bV r4.2.2.Unknown]) rfl rfl rfl rfl ti84 rfl rfl rfl rfl rfl (RunC.fin (AWP.sq (AWP.rgC 108 rfl rfl (pS rfl (RunC.fin (AWP.sq (AWP.sq (AWP.rgC 120 rfl rfl (fa rfl rfl ti55 rfl rfl ti2 rfl (ldB (v := .sc _) rfl rfl rfl rfl ti2 rfl rfl (pS rfl (RunC.fin (AWP.nilT ((Bound × Bound × Bound) × (Bound × Bound × Bound)) 8 97 rfl ?_)))))))))))))))
  refine AWP.loopJ (fun s5 : (List ((Bound × Bound × Bound) × (Bound × Bound × Bound))) × Int => LS.mk [(1, .ptr 0 0 0), (5, .ptr 1 0 0), (7, .ptr 2 0 0), (8, slV ((Bound × Bound × Bound) × (Bound × Bound × Bound)) 3 0 0 s5.1.length), (9, iV s5.2)] (lblks 0 [boxB (α := arc_Orbit) true o, boxB (α := Bound × Bound × Bound) true r3.1, boxB (α := Bound × Bound × Bound) true r4, arrB (α := (Bound × Bound × Bound) × (Bound × Bound × Bound)) 97 0 true s5.1]) 4) (fun z6 : (List ((Bound × Bound × Bound) × (Bound × Bound × Bound))) => LS.mk [(8, slV ((Bound × Bound × Bound) × (Bound × Bound × Bound)) 0 0 0 z6.length)] (lblks 0 [arrB (α := (Bound × Bound × Bound) × (Bound × Bound × Bound)) 97 0 true z6]) 1) (predict_Starts.l1 o r3 r4) hR (s0 := (([] : List ((Bound × Bound × Bound) × (Bound × Bound × Bound))), o.Near)) (Weak.turnL [(0, 0), (64, 0), (96, 0), (120, 0)] [] rfl rfl (tc (trP' rfl rfl rfl rfl) (tc (trP' rfl rfl rfl rfl) (tc (trP' rfl rfl rfl rfl) (tc (trS' rfl rfl rfl rfl rfl) (tc (.sc _) tn))))) (mc rfl (.box rfl (.c9 (.c9 (.c9 (.c9 (.c9 (.c9 .z2)))))) rfl) (mc rfl (.box rfl .z9 rfl) (mc rfl (.box rfl .z9 rfl) (mc rfl (btrA' rfl) mn))))) (fun s5 o5 hR => ?_) fun z6 hR => ?_
  ·unfold predict_Starts.l1 at hR
   refine AWP.sq (AWP.sq (AWP.rgC 20 rfl rfl (pS rfl (fa rfl rfl ti55 rfl rfl ti2 rfl (ldB (v := .sc _) rfl rfl rfl rfl ti2 rfl rfl (pS rfl (RunC.fin (AWP.cd hR rfl (fun h7 hR => ?_) fun h7 hR => ?_))))))))
   ·refine AWP.skip (skT (AWP.joinX (fun z8 : (List ((Bound × Bound × Bound) × (Bound × Bound × Bound))) => LS.mk [(1, .ptr 0 0 0), (5, .ptr 1 0 0), (7, .ptr 2 0 0), (8, slV ((Bound × Bound × Bound) × (Bound × Bound × Bound)) 3 0 0 z8.length), (9, iV s5.2)] (lblks 0 [boxB (α := arc_Orbit) true o, boxB (α := Bound × Bound × Bound) true r3.1, boxB (α := Bound × Bound × Bound) true r4, arrB (α := (Bound × Bound × Bound) × (Bound × Bound × Bound)) 97 0 true z8]) 4) hR (fun o8 hR => ?_) fun z8 hR => ?_))
    ·refine AWP.block (AWP.sq (AWP.rgC 24 rfl rfl (al (cs := [iV 0, iV 0, bV false, iV 0, iV 0, bV false, iV 0, iV 0, bV false]) 20 rfl rfl ti84 rfl rfl (RunC.fin (AWP.sq (AWP.sq (AWP.rgC 28 rfl rfl (pS rfl (RunC.fin (AWP.loopJ (fun s9 : (Bound × Bound × Bound) × Int => LS.mk [(1, .ptr 0 0 0), (5, .ptr 1 0 0), (7, .ptr 2 0 0), (8, slV ((Bound × Bound × Bound) × (Bound × Bound × Bound)) 3 0 0 s5.1.length), (9, iV s5.2), (10, .ptr 4 0 0), (40, iV s9.2)] (lblks 0 [boxB (α := arc_Orbit) true o, boxB (α := Bound × Bound × Bound) true r3.1, boxB (α := Bound × Bound × Bound) true r4, arrB (α := (Bound × Bound × Bound) × (Bound × Bound × Bound)) 97 0 true s5.1, boxB (α := Bound × Bound × Bound) true s9.1]) 5) (fun z10 : (Bound × Bound × Bound) => LS.mk [(1, .ptr 0 0 0), (5, .ptr 1 0 0), (7, .ptr 2 0 0), (8, slV ((Bound × Bound × Bound) × (Bound × Bound × Bound)) 3 0 0 s5.1.length), (9, iV s5.2), (10, .ptr 4 0 0)] (lblks 0 [boxB (α := arc_Orbit) true o, boxB (α := Bound × Bound × Bound) true r3.1, boxB (α := Bound × Bound × Bound) true r4, arrB (α := (Bound × Bound × Bound) × (Bound × Bound × Bound)) 97 0 true s5.1, boxB (α := Bound × Bound × Bound) true z10]) 5) (predict_Starts.l2 r3 r4 s5) hR (s0 := ((Bound.mk 0 0 false, Bound.mk 0 0 false, Bound.mk 0 0 false), 0)) (Weak.turnL [(0, 0), (1, 0), (2, 0), (3, 0), (20, 0)] [] rfl rfl (tc (trP' rfl rfl rfl rfl) (tc (trP' rfl rfl rfl rfl) (tc (trP' rfl rfl rfl rfl) (tc (trS' rfl rfl rfl rfl rfl) (tc (.sc _) (tc (trP' rfl rfl rfl rfl) (tc (.sc _) tn))))))) (mc rfl (.box rfl (.c9 (.c9 (.c9 (.c9 (.c9 (.c9 .z2)))))) rfl) (mc rfl (.box rfl .z9 rfl) (mc rfl (.box rfl .z9 rfl) (mc rfl (btrA' rfl) (mc rfl (.box rfl .z9 rfl) mn)))))) (fun s9 o9 hR => ?_) fun z10 hR => ?_))))))))))
     ·unfold predict_Starts.l2 at hR
      refine AWP.sq (AWP.rgC 9 rfl rfl (pS rfl (RunC.fin (AWP.sq (AWP.cd hR rfl (fun h11 hR => ?_) fun h11 hR => ?_)))))
      ·refine AWP.skip (skT (AWP.sq (AWP.block (AWP.sq (AWP.rgC 17 rfl rfl (pS rfl (pS rfl (RunC.fin (AWP.rgD 77 [0, 0, 2, 6, 0, 16, 48, 0, 0, 256, 896, 2032, 4094, 8191, 16383] ⟨[], [none, none, none, some [2], none, none, some [1], none, none, none, none, none, none, none, some [4]]⟩ hmix (by kernel_rfl) rfl rfl ?_)))))))))
       refine pS rfl (pS rfl ?_)
       obtain ⟨h12, hR⟩ := chkE hR
       refine iaP (o' := 0 + s9.2.toNat * Cl.e Bound + 0) rfl rfl rfl ti84 rfl ti33 h12 rfl (ldD (α := Bound) (nw := true) (pre := []) (post := []) (xs := ([r4.1, r4.2.1, r4.2.2] : List Bound)) (m := s9.2.toNat) (off := 0) (v := .agg _) rfl rfl rfl rfl rfl rfl (ixlt h12) ti33 rfl rfl rfl rfl (pS rfl ?_))
       obtain ⟨h13, hR⟩ := chkE hR
       refine iaP (o' := 0 + s9.2.toNat * Cl.e Bound + 0) rfl rfl rfl ti83 rfl ti33 h13 rfl (ldD (α := Bound) (nw := true) (pre := []) (post := []) (xs := ([r3.1.1, r3.1.2.1, r3.1.2.2] : List Bound)) (m := s9.2.toNat) (off := 0) (v := .agg _) rfl rfl rfl rfl rfl rfl (ixlt h13) ti33 rfl rfl rfl rfl (pS rfl (pS rfl (pS rfl (bu (cs := [iV s5.2, iV (w6 (s5.2 + 4096)), bV false]) rfl bt33 rfl ?_)))))
       obtain ⟨r14, hr14, hR⟩ := bindE hR
       refine cls [] rfl rfl cb58 (ok58 (gt ([r3.1.1, r3.1.2.1, r3.1.2.2] : List Bound) s9.2) (Bound.mk s5.2 (w6 (s5.2 + 4096)) false) 1073741824 _ hr14) (.cons (.agg .z3 rfl) (.cons (.agg .z3 rfl) (.cons (.sc _) .nil))) (.inr rfl) rfl ?_
       obtain ⟨r15, hr15, hR⟩ := bindE hR
       refine cls [] rfl rfl cb57 (ok57 (gt ([r4.1, r4.2.1, r4.2.2] : List Bound) s9.2) r14 _ hr15) (.cons (.agg .z3 rfl) (.cons (.agg .z3 rfl) (.nil))) (.inr rfl) rfl ?_
       obtain ⟨h16, hR⟩ := chkE hR
       refine iaP (o' := 0 + s9.2.toNat * Cl.e Bound + 0) rfl rfl rfl ti84 rfl ti33 h16 rfl ?_
       obtain ⟨v17, ev17, hR⟩ := letE hR
       refine stD (α := Bound) (nw := true) (pre := []) (post := []) (xs := ([s9.1.1, s9.1.2.1, s9.1.2.2] : List Bound)) (m := s9.2.toNat) (off := 0) (ys := [gt v17 0, gt v17 1, gt v17 2]) (y := r15) (cs' := [iV (gt v17 0).Lo, iV (gt v17 0).Hi, bV (gt v17 0).Unknown, iV (gt v17 1).Lo, iV (gt v17 1).Hi, bV (gt v17 1).Unknown, iV (gt v17 2).Lo, iV (gt v17 2).Hi, bV (gt v17 2).Unknown]) rfl rfl rfl rfl rfl rfl (ixlt h16) ti33 rfl rfl rfl rfl (etaS ev17 rfl rfl) rfl rfl (RunC.blk (RunC.fin (AWP.rgC 85 rfl rfl (pS rfl (pS rfl (RunC.fin (⟨((gt v17 0, gt v17 1, gt v17 2), w6 (s9.2 + 1)), (Option.some.inj hR).symm, ?_⟩)))))))
       exact Weak.turnL [(0, 0), (1, 0), (2, 0), (3, 0), (4, 0)] [] rfl rfl (tc (trP' rfl rfl rfl rfl) (tc (trP' rfl rfl rfl rfl) (tc (trP' rfl rfl rfl rfl) (tc (trS' rfl rfl rfl rfl rfl) (tc (.sc _) (tc (trP' rfl rfl rfl rfl) (tc (.sc _) tn))))))) (mc rfl (.box rfl (.c9 (.c9 (.c9 (.c9 (.c9 (.c9 .z2)))))) rfl) (mc rfl (.box rfl .z9 rfl) (mc rfl (.box rfl .z9 rfl) (mc rfl (btrA' rfl) (mc rfl (.box rfl .z9 rfl) mn)))))
      ·refine AWP.exit (exT (exT (exH (skT (⟨s9.1, (Option.some.inj hR).symm, ?_⟩)))))
       exact Weak.turnL [(0, 0), (1, 0), (2, 0), (3, 0), (4, 0)] [] rfl rfl (tc (trP' rfl rfl rfl rfl) (tc (trP' rfl rfl rfl rfl) (tc (trP' rfl rfl rfl rfl) (tc (trS' rfl rfl rfl rfl rfl) (tc (.sc _) (tc (trP' rfl rfl rfl rfl) tn)))))) (mc rfl (.box rfl (.c9 (.c9 (.c9 (.c9 (.c9 (.c9 .z2)))))) rfl) (mc rfl (.box rfl .z9 rfl) (mc rfl (.box rfl .z9 rfl) (mc rfl (btrA' rfl) (mc rfl (.box rfl .z9 rfl) mn)))))
     ·refine skT (AWP.sq (AWP.rgC 45 rfl rfl (fa rfl rfl ti55 rfl rfl ti41 rfl (ldB (v := .agg _) rfl rfl rfl rfl ti41 rfl rfl (ldB (v := .agg _) rfl rfl rfl rfl ti84 rfl rfl ?_)))))
      obtain ⟨r18, hr18, hR⟩ := bindE hR
      refine cls [] rfl rfl cb59 (ok59 o.Seen z10 _ hr18) (.cons (.agg (.c9 (.c9 (.c9 (.c9 (.c9 .z9))))) rfl) (.cons (.agg .z9 rfl) (.nil))) (.inr rfl) rfl (pu (v := .tup _) rfl rfl (fun _ => rfl) (pu (v := .agg _) rfl rfl (fun _ => rfl) (pS rfl (al (cs := [iV 0, iV 0, bV false, iV 0, iV 0, bV false, iV 0, iV 0, bV false]) 33 rfl rfl ti84 rfl rfl (stB (cs' := [iV r18.1.1.Lo, iV r18.1.1.Hi, bV r18.1.1.Unknown, iV r18.1.2.1.Lo, iV r18.1.2.1.Hi, bV r18.1.2.1.Unknown, iV r18.1.2.2.Lo, iV r18.1.2.2.Hi, bV r18.1.2.2.Unknown]) rfl rfl rfl rfl ti84 rfl rfl rfl rfl rfl (pS rfl (RunC.fin (AWP.sq (AWP.rgC 49 rfl rfl (pS rfl (RunC.fin (AWP.cd hR rfl (fun h19 hR => ?_) fun h19 hR => ?_))))))))))))
      ·refine AWP.rgC 77 rfl rfl (pu (v := slV ((Bound × Bound × Bound) × (Bound × Bound × Bound)) _ _ _ _) rfl rfl (fun _ => rfl) (ldB (v := .agg _) rfl rfl rfl rfl ti84 rfl rfl (ldB (v := .agg _) rfl rfl rfl rfl ti84 rfl rfl (buA (cs := [iV r18.1.1.Lo, iV r18.1.1.Hi, bV r18.1.1.Unknown, iV r18.1.2.1.Lo, iV r18.1.2.1.Hi, bV r18.1.2.1.Unknown, iV r18.1.2.2.Lo, iV r18.1.2.2.Hi, bV r18.1.2.2.Unknown, iV z10.1.Lo, iV z10.1.Hi, bV z10.1.Unknown, iV z10.2.1.Lo, iV z10.2.1.Hi, bV z10.2.1.Unknown, iV z10.2.2.Lo, iV z10.2.2.Hi, bV z10.2.2.Unknown]) rfl ti97 rfl ti84 rfl rfl ?_))))
       refine bs (α := (Bound × Bound × Bound) × (Bound × Bound × Bound)) 65 true ([(r18.1, z10)] : List ((Bound × Bound × Bound) × (Bound × Bound × Bound))) rfl rfl ti93 rfl ti97 rfl rfl rfl rfl rfl ?_
       obtain ⟨h20, hR⟩ := chkE hR
       refine ap' (α := (Bound × Bound × Bound) × (Bound × Bound × Bound)) (nw := true) (xs := s5.1) (ys := ([(r18.1, z10)] : List ((Bound × Bound × Bound) × (Bound × Bound × Bound)))) rfl rfl rfl rfl (srcS' rfl rfl rfl) ti93 rfl ti97 rfl h20 rfl ?_
       refine pu (v := slV ((Bound × Bound × Bound) × (Bound × Bound × Bound)) _ _ _ _) rfl rfl (fun _ => rfl) (RunC.blk (RunC.fin ?_))
       have hR := Option.some.inj hR; subst hR
       exact Weak.turnL [(0, 0), (1, 0), (2, 0), (3, 0)] [] rfl rfl (tc (trP' rfl rfl rfl rfl) (tc (trP' rfl rfl rfl rfl) (tc (trP' rfl rfl rfl rfl) (tc (trS' rfl rfl rfl rfl rfl) (tc (.sc _) tn))))) (mc rfl (.box rfl (.c9 (.c9 (.c9 (.c9 (.c9 (.c9 .z2)))))) rfl) (mc rfl (.box rfl .z9 rfl) (mc rfl (.box rfl .z9 rfl) (mc rfl (btrA' rfl) mn))))
      ·refine AWP.skip (skB ?_)
       refine skT ?_
       have hR := Option.some.inj hR; subst hR
       exact Weak.turnL [(0, 0), (1, 0), (2, 0), (3, 0)] [] rfl rfl (tc (trP' rfl rfl rfl rfl) (tc (trP' rfl rfl rfl rfl) (tc (trP' rfl rfl rfl rfl) (tc (trS' rfl rfl rfl rfl rfl) (tc (.sc _) tn))))) (mc rfl (.box rfl (.c9 (.c9 (.c9 (.c9 (.c9 (.c9 .z2)))))) rfl) (mc rfl (.box rfl .z9 rfl) (mc rfl (.box rfl .z9 rfl) (mc rfl (btrA' rfl) mn))))
    ·refine AWP.rgC 16 rfl rfl (pS rfl (pS rfl (pS rfl (RunC.fin (⟨(z8, w6 (s5.2 + 4096)), (Option.some.inj hR).symm, ?_⟩)))))
     exact Weak.turnL [(0, 0), (1, 0), (2, 0), (3, 0)] [] rfl rfl (tc (trP' rfl rfl rfl rfl) (tc (trP' rfl rfl rfl rfl) (tc (trP' rfl rfl rfl rfl) (tc (trS' rfl rfl rfl rfl rfl) (tc (.sc _) tn))))) (mc rfl (.box rfl (.c9 (.c9 (.c9 (.c9 (.c9 (.c9 .z2)))))) rfl) (mc rfl (.box rfl .z9 rfl) (mc rfl (.box rfl .z9 rfl) (mc rfl (btrA' rfl) mn))))
   ·refine AWP.exit (exT (exT (exH (skT (⟨s5.1, (Option.some.inj hR).symm, ?_⟩)))))
    exact Weak.turnL [(3, 0)] [] rfl rfl (tc (trS' rfl rfl rfl rfl rfl) tn) (mc rfl (btrA' rfl) mn)
  ·refine skT (AWP.sq (AWP.rgC 13 rfl rfl (pu (v := slV ((Bound × Bound × Bound) × (Bound × Bound × Bound)) _ _ _ _) rfl rfl (fun _ => rfl) (pu (v := slV ((Bound × Bound × Bound) × (Bound × Bound × Bound)) _ _ _ _) rfl rfl (fun _ => rfl) (pS rfl (RunC.fin (AWP.ret ?_)))))))
   have hR := Option.some.inj hR; subst hR
   exact hQ _ _ (LS.mk [(2, rowV (α := (Bound × Bound × Bound) × (Bound × Bound × Bound)) true z6), (3, iV 0)] (lblks 0 []) 0) (.tup [rowV (α := (Bound × Bound × Bound) × (Bound × Bound × Bound)) true z6, iV 0]) [] (.inr rfl) (Weak.turnL [] [0] rfl rfl (tc (trF' rfl rfl id rfl) (tc (.sc _) tn)) mn) (ro2 (rvT (v := rowV (α := (Bound × Bound × Bound) × (Bound × Bound × Bound)) true z6) rfl) (rvT (v := iV 0) rfl)) rfl rfl (.tup (.cons ldR' (.cons (.sc _) .nil))) pn
theorem ok61 (was : Bound × Bound × Bound) (here : Bound × Bound × Bound) (r : (Bound × Bound × Bound)) (hR : predict_Step was here = some r) : FnP Tryz.prog 61 [aggV false was, aggV false here] (aggV (α := Bound × Bound × Bound) true r) := by
 refine fnP_of (FnX.walk Tryz.func61 rfl 29 0 (by simp [Tryz.ntmps61]) rfl fun W S F Q hQ => ?_)
 unfold predict_Step at hR
 refine AWP.sq (AWP.rgC 12 rfl rfl (bx (cs := _) 0 rfl rfl rfl (bx (cs := _) 4 rfl rfl rfl (al (cs := [iV 0, iV 0, bV false, iV 0, iV 0, bV false, iV 0, iV 0, bV false]) 8 rfl rfl ti84 rfl rfl (RunC.fin (AWP.sq (AWP.rgC 28 rfl rfl (ldB (v := .agg _) rfl rfl rfl rfl ti84 rfl rfl ?_))))))))
 obtain ⟨r1, hr1, hR⟩ := bindE hR
 refine cls [] rfl rfl cb83 (ok83 here _ hr1) (.cons (.agg .z9 rfl) (.nil)) (.inr rfl) rfl (al (cs := [iV 0, iV 0, bV false, iV 0, iV 0, bV false, iV 0, iV 0, bV false]) 20 rfl rfl ti84 rfl rfl (stB (cs' := [iV r1.1.Lo, iV r1.1.Hi, bV r1.1.Unknown, iV r1.2.1.Lo, iV r1.2.1.Hi, bV r1.2.1.Unknown, iV r1.2.2.Lo, iV r1.2.2.Hi, bV r1.2.2.Unknown]) rfl rfl rfl rfl ti84 rfl rfl rfl rfl rfl (RunC.fin (AWP.sq (AWP.rgC 32 rfl rfl (al (cs := [iV 0, iV 0, bV false, iV 0, iV 0, bV false, iV 0, iV 0, bV false]) 28 rfl rfl ti84 rfl rfl (RunC.fin (AWP.sq (AWP.sq (AWP.rgC 36 rfl rfl (pS rfl (RunC.fin (AWP.loopJ (fun s2 : (Bound × Bound × Bound) × Int => LS.mk [(2, .ptr 0 0 0), (3, .ptr 1 0 0), (4, .ptr 2 0 0), (5, .ptr 3 0 0), (6, .ptr 4 0 0), (10, iV s2.2)] (lblks 0 [boxB (α := Bound × Bound × Bound) true was, boxB (α := Bound × Bound × Bound) true here, boxB (α := Bound × Bound × Bound) true (Bound.mk 0 0 false, Bound.mk 0 0 false, Bound.mk 0 0 false), boxB (α := Bound × Bound × Bound) true r1, boxB (α := Bound × Bound × Bound) true s2.1]) 5) (fun z3 : (Bound × Bound × Bound) => LS.mk [(4, .ptr 0 0 0), (6, .ptr 1 0 0)] (lblks 0 [boxB (α := Bound × Bound × Bound) true (Bound.mk 0 0 false, Bound.mk 0 0 false, Bound.mk 0 0 false), boxB (α := Bound × Bound × Bound) true z3]) 2) (predict_Step.l1 was here r1) hR (s0 := ((Bound.mk 0 0 false, Bound.mk 0 0 false, Bound.mk 0 0 false), 0)) (Weak.turnL [(0, 0), (4, 0), (8, 0), (20, 0), (28, 0)] [] rfl rfl (tc (trP' rfl rfl rfl rfl) (tc (trP' rfl rfl rfl rfl) (tc (trP' rfl rfl rfl rfl) (tc (trP' rfl rfl rfl rfl) (tc (trP' rfl rfl rfl rfl) (tc (.sc _) tn)))))) (mc rfl (.box rfl .z9 rfl) (mc rfl (.box rfl .z9 rfl) (mc rfl (.box rfl .z9 rfl) (mc rfl (.box rfl .z9 rfl) (mc rfl (.box rfl .z9 rfl) mn)))))) (fun s2 o2 hR => ?_) fun z3 hR => ?_)))))))))))))
 ·unfold predict_Step.l1 at hR
  refine AWP.sq (AWP.rgC 9 rfl rfl (pS rfl (RunC.fin (AWP.sq (AWP.cd hR rfl (fun h4 hR => ?_) fun h4 hR => ?_)))))
  ·refine AWP.skip (skT (AWP.sq (AWP.block (AWP.sq (AWP.rgC 17 rfl rfl (pS rfl (pS rfl (RunC.fin (AWP.rgD 77 [0, 0, 2, 6, 14, 0, 32, 96, 254, 0, 512, 1536, 4094, 8191, 16383] ⟨[], [none, none, none, some [1], none, none, none, some [0], none, none, none, some [3], none, none, some [4]]⟩ hmix (by kernel_rfl) rfl rfl ?_)))))))))
   refine pS rfl (pS rfl ?_)
   obtain ⟨h5, hR⟩ := chkE hR
   refine iaP (o' := 0 + s2.2.toNat * Cl.e Bound + 0) rfl rfl rfl ti84 rfl ti33 h5 rfl (ldD (α := Bound) (nw := true) (pre := []) (post := []) (xs := ([here.1, here.2.1, here.2.2] : List Bound)) (m := s2.2.toNat) (off := 0) (v := .agg _) rfl rfl rfl rfl rfl rfl (ixlt h5) ti33 rfl rfl rfl rfl ?_)
   obtain ⟨r6, hr6, hR⟩ := bindE hR
   refine cls [] rfl rfl cb47 (ok47 (gt ([here.1, here.2.1, here.2.2] : List Bound) s2.2) 2 1 _ hr6) (.cons (.agg .z3 rfl) .z2) (.inr rfl) rfl (pS rfl ?_)
   obtain ⟨h7, hR⟩ := chkE hR
   refine iaP (o' := 0 + s2.2.toNat * Cl.e Bound + 0) rfl rfl rfl ti84 rfl ti33 h7 rfl (ldD (α := Bound) (nw := true) (pre := []) (post := []) (xs := ([was.1, was.2.1, was.2.2] : List Bound)) (m := s2.2.toNat) (off := 0) (v := .agg _) rfl rfl rfl rfl rfl rfl (ixlt h7) ti33 rfl rfl rfl rfl ?_)
   obtain ⟨r8, hr8, hR⟩ := bindE hR
   refine cls [] rfl rfl cb43 (ok43 r6 (gt ([was.1, was.2.1, was.2.2] : List Bound) s2.2) _ hr8) (.cons (.agg .z3 rfl) (.cons (.agg .z3 rfl) (.nil))) (.inr rfl) rfl (pS rfl ?_)
   obtain ⟨h9, hR⟩ := chkE hR
   refine iaP (o' := 0 + s2.2.toNat * Cl.e Bound + 0) rfl rfl rfl ti84 rfl ti33 h9 rfl (ldD (α := Bound) (nw := true) (pre := []) (post := []) (xs := ([r1.1, r1.2.1, r1.2.2] : List Bound)) (m := s2.2.toNat) (off := 0) (v := .agg _) rfl rfl rfl rfl rfl rfl (ixlt h9) ti33 rfl rfl rfl rfl ?_)
   obtain ⟨r10, hr10, hR⟩ := bindE hR
   refine cls [] rfl rfl cb57 (ok57 r8 (gt ([r1.1, r1.2.1, r1.2.2] : List Bound) s2.2) _ hr10) (.cons (.agg .z3 rfl) (.cons (.agg .z3 rfl) (.nil))) (.inr rfl) rfl ?_
   obtain ⟨h11, hR⟩ := chkE hR
   refine iaP (o' := 0 + s2.2.toNat * Cl.e Bound + 0) rfl rfl rfl ti84 rfl ti33 h11 rfl ?_
   obtain ⟨v12, ev12, hR⟩ := letE hR
   refine stD (α := Bound) (nw := true) (pre := []) (post := []) (xs := ([s2.1.1, s2.1.2.1, s2.1.2.2] : List Bound)) (m := s2.2.toNat) (off := 0) (ys := [gt v12 0, gt v12 1, gt v12 2]) (y := r10) (cs' := [iV (gt v12 0).Lo, iV (gt v12 0).Hi, bV (gt v12 0).Unknown, iV (gt v12 1).Lo, iV (gt v12 1).Hi, bV (gt v12 1).Unknown, iV (gt v12 2).Lo, iV (gt v12 2).Hi, bV (gt v12 2).Unknown]) rfl rfl rfl rfl rfl rfl (ixlt h11) ti33 rfl rfl rfl rfl (etaS ev12 rfl rfl) rfl rfl (RunC.blk (RunC.fin (AWP.rgC 85 rfl rfl (pS rfl (pS rfl (RunC.fin (⟨((gt v12 0, gt v12 1, gt v12 2), w6 (s2.2 + 1)), (Option.some.inj hR).symm, ?_⟩)))))))
   exact Weak.turnL [(0, 0), (1, 0), (2, 0), (3, 0), (4, 0)] [] rfl rfl (tc (trP' rfl rfl rfl rfl) (tc (trP' rfl rfl rfl rfl) (tc (trP' rfl rfl rfl rfl) (tc (trP' rfl rfl rfl rfl) (tc (trP' rfl rfl rfl rfl) (tc (.sc _) tn)))))) (mc rfl (.box rfl .z9 rfl) (mc rfl (.box rfl .z9 rfl) (mc rfl (.box rfl .z9 rfl) (mc rfl (.box rfl .z9 rfl) (mc rfl (.box rfl .z9 rfl) mn)))))
  ·refine AWP.exit (exT (exT (exH (skT (⟨s2.1, (Option.some.inj hR).symm, ?_⟩)))))
   exact Weak.turnL [(2, 0), (4, 0)] [] rfl rfl (tc (trP' rfl rfl rfl rfl) (tc (trP' rfl rfl rfl rfl) tn)) (mc rfl (.box rfl .z9 rfl) (mc rfl (.box rfl .z9 rfl) mn))
 ·refine skT (AWP.sq (AWP.rgC 10 rfl rfl (ldB (v := .agg _) rfl rfl rfl rfl ti84 rfl rfl (stB (cs' := [iV z3.1.Lo, iV z3.1.Hi, bV z3.1.Unknown, iV z3.2.1.Lo, iV z3.2.1.Hi, bV z3.2.1.Unknown, iV z3.2.2.Lo, iV z3.2.2.Hi, bV z3.2.2.Unknown]) rfl rfl rfl rfl ti84 rfl rfl rfl rfl rfl (RunC.fin (AWP.ret ?_))))))
  have hR := Option.some.inj hR; subst hR
  exact hQ _ _ (LS.mk [(4, .ptr 0 0 0)] (lblks 0 [boxB (α := Bound × Bound × Bound) true z3]) 1) (aggV (α := Bound × Bound × Bound) true z3) [] (.inr rfl) (Weak.turnL [(0, 0)] [] rfl rfl (tc (trP' rfl rfl rfl rfl) tn) (mc rfl (.box rfl .z9 rfl) mn)) (ro1 (rvC (v := aggV (α := Bound × Bound × Bound) true z3) rfl rfl ti84 rfl)) rfl rfl ldA pn
theorem ok42 (was : Bound × Bound × Bound) (here : Bound × Bound × Bound) (days : Int) (r : (Bound × Bound × Bound) × Int) (hR : predict_Ahead was here days = some r) : FnP Tryz.prog 42 [aggV false was, aggV false here, .sc (.int .i64 days)] (.tup [aggV (α := Bound × Bound × Bound) true r.1, .sc (.int .i64 r.2)]) := by
 refine fnP_of (FnX.walk Tryz.func42 rfl 31 0 (by simp [Tryz.ntmps42]) rfl fun W S F Q hQ => ?_)
 unfold predict_Ahead at hR
 refine AWP.sq (AWP.rgC 16 rfl rfl (bx (cs := _) 0 rfl rfl rfl (bx (cs := _) 4 rfl rfl rfl (al (cs := [iV 0, iV 0, bV false, iV 0, iV 0, bV false, iV 0, iV 0, bV false]) 8 rfl rfl ti84 rfl rfl (pS rfl (RunC.fin (AWP.sq (AWP.joinX (fun z1 : Bool => LS.mk [(2, iV days), (3, .ptr 0 0 0), (4, .ptr 1 0 0), (6, .ptr 2 0 0), (13, bV z1)] (lblks 0 [boxB (α := Bound × Bound × Bound) true was, boxB (α := Bound × Bound × Bound) true here, boxB (α := Bound × Bound × Bound) true (Bound.mk 0 0 false, Bound.mk 0 0 false, Bound.mk 0 0 false)]) 3) hR (fun o1 hR => ?_) fun z1 hR => ?_))))))))
 ·refine AWP.rgC 40 rfl rfl (pS rfl (pS rfl (pS rfl (brR hR (fun h2 hR => ?_) fun h2 hR => ?_))))
  ·refine sk (skW rfl rfl rfl h2) (sk (skW rfl rfl rfl h2) (pkT (v := bV true) rfl rfl h2 rfl (RunC.fin ?_)))
   have hR := Option.some.inj hR; subst hR
   exact Weak.turnL [(0, 0), (4, 0), (8, 0)] [] rfl rfl (tc (.sc _) (tc (trP' rfl rfl rfl rfl) (tc (trP' rfl rfl rfl rfl) (tc (trP' rfl rfl rfl rfl) (tc (.sc _) tn))))) (mc rfl (.box rfl .z9 rfl) (mc rfl (.box rfl .z9 rfl) (mc rfl (.box rfl .z9 rfl) mn)))
  ·refine pu (v := .sc _) (wtG rfl rfl rfl h2) rfl (fun _ => rfl) (pu (v := .sc _) (wtG rfl rfl rfl h2) rfl (fun _ => rfl) (pkF (v := bV (decide (days > 32))) rfl rfl h2 rfl (RunC.fin ?_)))
   have hR := Option.some.inj hR; subst hR
   exact Weak.turnL [(0, 0), (4, 0), (8, 0)] [] rfl rfl (tc (.sc _) (tc (trP' rfl rfl rfl rfl) (tc (trP' rfl rfl rfl rfl) (tc (trP' rfl rfl rfl rfl) (tc (.sc _) tn))))) (mc rfl (.box rfl .z9 rfl) (mc rfl (.box rfl .z9 rfl) (mc rfl (.box rfl .z9 rfl) mn)))
 ·refine AWP.cd hR rfl (fun h3 hR => ?_) fun h3 hR => ?_
  ·refine AWP.sq (AWP.rgC 15 rfl rfl (buA (cs := [iV 0, iV 0, bV false, iV 0, iV 0, bV false, iV 0, iV 0, bV false]) rfl ti84 rfl ti33 rfl rfl ?_))
   refine stB (cs' := [iV 0, iV 0, bV false, iV 0, iV 0, bV false, iV 0, iV 0, bV false]) rfl rfl rfl rfl ti84 rfl rfl rfl rfl rfl (pS rfl (RunC.fin (AWP.ret (rtT ?_))))
   have hR := Option.some.inj hR; subst hR
   exact hQ _ _ (LS.mk [(6, .ptr 0 0 0), (7, iV 4)] (lblks 0 [boxB (α := Bound × Bound × Bound) true (Bound.mk 0 0 false, Bound.mk 0 0 false, Bound.mk 0 0 false)]) 1) (.tup [aggV (α := Bound × Bound × Bound) true (Bound.mk 0 0 false, Bound.mk 0 0 false, Bound.mk 0 0 false), iV 4]) [] (.inr rfl) (Weak.turnL [(2, 0)] [] rfl rfl (tc (trP' rfl rfl rfl rfl) (tc (.sc _) tn)) (mc rfl (.box rfl .z9 rfl) mn)) (ro2 (rvC (v := aggV (α := Bound × Bound × Bound) true (Bound.mk 0 0 false, Bound.mk 0 0 false, Bound.mk 0 0 false)) rfl rfl ti84 rfl) (rvT (v := iV 4) rfl)) rfl rfl (.tup (.cons ldA (.cons (.sc _) .nil))) pn
  ·refine AWP.skip (skT (AWP.sq (AWP.sq (AWP.rgC 11 rfl rfl (pS rfl (pS rfl (RunC.fin (AWP.cd hR rfl (fun h4 hR => ?_) fun h4 hR => ?_))))))))
   ·refine AWP.rgC 43 rfl rfl (ldB (v := .agg _) rfl rfl rfl rfl ti84 rfl rfl (ldB (v := .agg _) rfl rfl rfl rfl ti84 rfl rfl (pS rfl (pS rfl (pS rfl (stB (cs' := [iV here.1.Lo, iV here.1.Hi, bV here.1.Unknown, iV here.2.1.Lo, iV here.2.1.Hi, bV here.2.1.Unknown, iV here.2.2.Lo, iV here.2.2.Hi, bV here.2.2.Unknown]) rfl rfl rfl rfl ti84 rfl rfl rfl rfl rfl (stB (cs' := [iV was.1.Lo, iV was.1.Hi, bV was.1.Unknown, iV was.2.1.Lo, iV was.2.1.Hi, bV was.2.1.Unknown, iV was.2.2.Lo, iV was.2.2.Hi, bV was.2.2.Unknown]) rfl rfl rfl rfl ti84 rfl rfl rfl rfl rfl (pS rfl (RunC.fin (AWP.sq (AWP.sq (AWP.rgC 51 rfl rfl (pS rfl (pS rfl (RunC.fin (AWP.loopJ (fun s5 : (Bound × Bound × Bound) × (Bound × Bound × Bound) × Int => LS.mk [(3, .ptr 0 0 0), (4, .ptr 1 0 0), (6, .ptr 2 0 0), (22, iV (w6 ((w6 (0 - days)) - 1))), (23, iV s5.2.2)] (lblks 0 [boxB (α := Bound × Bound × Bound) true s5.1, boxB (α := Bound × Bound × Bound) true s5.2.1, boxB (α := Bound × Bound × Bound) true (Bound.mk 0 0 false, Bound.mk 0 0 false, Bound.mk 0 0 false)]) 3) (fun z6 : (Bound × Bound × Bound) => LS.mk [(4, .ptr 0 0 0), (6, .ptr 1 0 0)] (lblks 0 [boxB (α := Bound × Bound × Bound) true z6, boxB (α := Bound × Bound × Bound) true (Bound.mk 0 0 false, Bound.mk 0 0 false, Bound.mk 0 0 false)]) 2) (predict_Ahead.l1 days) hR (s0 := (here, was, 0)) (Weak.turnL [(0, 0), (1, 0), (2, 0)] [] rfl rfl (tc (trP' rfl rfl rfl rfl) (tc (trP' rfl rfl rfl rfl) (tc (trP' rfl rfl rfl rfl) (tc (.sc _) (tc (.sc _) tn))))) (mc rfl (.box rfl .z9 rfl) (mc rfl (.box rfl .z9 rfl) (mc rfl (.box rfl .z9 rfl) mn)))) (fun s5 o5 hR => ?_) fun z6 hR => ?_))))))))))))))))
    ·unfold predict_Ahead.l1 at hR
     refine AWP.sq (AWP.rgC 7 rfl rfl (pS rfl (RunC.fin (AWP.sq (AWP.cd hR rfl (fun h7 hR => ?_) fun h7 hR => ?_)))))
     ·refine AWP.skip (skT (AWP.sq (AWP.block (AWP.rgD 31 [0, 0, 0, 6, 15, 31] ⟨[], [some [1], some [0], some [1], none, some [0], some [1]]⟩ hmix (by kernel_rfl) rfl rfl ?_))))
      refine ldB (v := .agg _) rfl rfl rfl rfl ti84 rfl rfl (ldB (v := .agg _) rfl rfl rfl rfl ti84 rfl rfl (ldB (v := .agg _) rfl rfl rfl rfl ti84 rfl rfl ?_))
      obtain ⟨r8, hr8, hR⟩ := bindE hR
      refine cls [] rfl rfl cb61 (ok61 s5.1 s5.2.1 _ hr8) (.cons (.agg .z9 rfl) (.cons (.agg .z9 rfl) (.nil))) (.inr rfl) rfl (stB (cs' := [iV s5.2.1.1.Lo, iV s5.2.1.1.Hi, bV s5.2.1.1.Unknown, iV s5.2.1.2.1.Lo, iV s5.2.1.2.1.Hi, bV s5.2.1.2.1.Unknown, iV s5.2.1.2.2.Lo, iV s5.2.1.2.2.Hi, bV s5.2.1.2.2.Unknown]) rfl rfl rfl rfl ti84 rfl rfl rfl rfl rfl (stB (cs' := [iV r8.1.Lo, iV r8.1.Hi, bV r8.1.Unknown, iV r8.2.1.Lo, iV r8.2.1.Hi, bV r8.2.1.Unknown, iV r8.2.2.Lo, iV r8.2.2.Hi, bV r8.2.2.Unknown]) rfl rfl rfl rfl ti84 rfl rfl rfl rfl rfl (RunC.blk (RunC.fin (AWP.rgC 39 rfl rfl (pS rfl (pS rfl (RunC.fin (⟨(s5.2.1, r8, w6 (s5.2.2 + 1)), (Option.some.inj hR).symm, ?_⟩)))))))))
      exact Weak.turnL [(0, 0), (1, 0), (2, 0)] [] rfl rfl (tc (trP' rfl rfl rfl rfl) (tc (trP' rfl rfl rfl rfl) (tc (trP' rfl rfl rfl rfl) (tc (.sc _) (tc (.sc _) tn))))) (mc rfl (.box rfl .z9 rfl) (mc rfl (.box rfl .z9 rfl) (mc rfl (.box rfl .z9 rfl) mn)))
     ·refine AWP.exit (exT (exT (exH (skT (⟨s5.2.1, (Option.some.inj hR).symm, ?_⟩)))))
      exact Weak.turnL [(1, 0), (2, 0)] [] rfl rfl (tc (trP' rfl rfl rfl rfl) (tc (trP' rfl rfl rfl rfl) tn)) (mc rfl (.box rfl .z9 rfl) (mc rfl (.box rfl .z9 rfl) mn))
    ·refine skT (AWP.sq (AWP.rgC 14 rfl rfl (ldB (v := .agg _) rfl rfl rfl rfl ti84 rfl rfl (stB (cs' := [iV z6.1.Lo, iV z6.1.Hi, bV z6.1.Unknown, iV z6.2.1.Lo, iV z6.2.1.Hi, bV z6.2.1.Unknown, iV z6.2.2.Lo, iV z6.2.2.Hi, bV z6.2.2.Unknown]) rfl rfl rfl rfl ti84 rfl rfl rfl rfl rfl (pS rfl (RunC.fin (AWP.ret ?_)))))))
     have hR := Option.some.inj hR; subst hR
     exact hQ _ _ (LS.mk [(6, .ptr 0 0 0), (7, iV 0)] (lblks 0 [boxB (α := Bound × Bound × Bound) true z6]) 1) (.tup [aggV (α := Bound × Bound × Bound) true z6, iV 0]) [] (.inr rfl) (Weak.turnL [(1, 0)] [] rfl rfl (tc (trP' rfl rfl rfl rfl) (tc (.sc _) tn)) (mc rfl (.box rfl .z9 rfl) mn)) (ro2 (rvC (v := aggV (α := Bound × Bound × Bound) true z6) rfl rfl ti84 rfl) (rvT (v := iV 0) rfl)) rfl rfl (.tup (.cons ldA (.cons (.sc _) .nil))) pn
   ·refine AWP.skip (skT (AWP.sq (AWP.sq (AWP.rgC 19 rfl rfl (pS rfl (pS rfl (RunC.fin (AWP.loopJ (fun s9 : (Bound × Bound × Bound) × (Bound × Bound × Bound) × Int => LS.mk [(3, .ptr 0 0 0), (4, .ptr 1 0 0), (6, .ptr 2 0 0), (22, iV days), (23, iV s9.2.2)] (lblks 0 [boxB (α := Bound × Bound × Bound) true s9.1, boxB (α := Bound × Bound × Bound) true s9.2.1, boxB (α := Bound × Bound × Bound) true (Bound.mk 0 0 false, Bound.mk 0 0 false, Bound.mk 0 0 false)]) 3) (fun z10 : (Bound × Bound × Bound) => LS.mk [(4, .ptr 0 0 0), (6, .ptr 1 0 0)] (lblks 0 [boxB (α := Bound × Bound × Bound) true z10, boxB (α := Bound × Bound × Bound) true (Bound.mk 0 0 false, Bound.mk 0 0 false, Bound.mk 0 0 false)]) 2) (predict_Ahead.l2 days) hR (s0 := (was, here, 0)) (Weak.turnL [(0, 0), (1, 0), (2, 0)] [] rfl rfl (tc (trP' rfl rfl rfl rfl) (tc (trP' rfl rfl rfl rfl) (tc (trP' rfl rfl rfl rfl) (tc (.sc _) (tc (.sc _) tn))))) (mc rfl (.box rfl .z9 rfl) (mc rfl (.box rfl .z9 rfl) (mc rfl (.box rfl .z9 rfl) mn)))) (fun s9 o9 hR => ?_) fun z10 hR => ?_))))))))
    ·unfold predict_Ahead.l2 at hR
     refine AWP.sq (AWP.rgC 7 rfl rfl (pS rfl (RunC.fin (AWP.sq (AWP.cd hR rfl (fun h11 hR => ?_) fun h11 hR => ?_)))))
     ·refine AWP.skip (skT (AWP.sq (AWP.block (AWP.rgD 31 [0, 0, 0, 6, 15, 31] ⟨[], [some [1], some [0], some [1], none, some [0], some [1]]⟩ hmix (by kernel_rfl) rfl rfl ?_))))
      refine ldB (v := .agg _) rfl rfl rfl rfl ti84 rfl rfl (ldB (v := .agg _) rfl rfl rfl rfl ti84 rfl rfl (ldB (v := .agg _) rfl rfl rfl rfl ti84 rfl rfl ?_))
      obtain ⟨r12, hr12, hR⟩ := bindE hR
      refine cls [] rfl rfl cb61 (ok61 s9.1 s9.2.1 _ hr12) (.cons (.agg .z9 rfl) (.cons (.agg .z9 rfl) (.nil))) (.inr rfl) rfl (stB (cs' := [iV s9.2.1.1.Lo, iV s9.2.1.1.Hi, bV s9.2.1.1.Unknown, iV s9.2.1.2.1.Lo, iV s9.2.1.2.1.Hi, bV s9.2.1.2.1.Unknown, iV s9.2.1.2.2.Lo, iV s9.2.1.2.2.Hi, bV s9.2.1.2.2.Unknown]) rfl rfl rfl rfl ti84 rfl rfl rfl rfl rfl (stB (cs' := [iV r12.1.Lo, iV r12.1.Hi, bV r12.1.Unknown, iV r12.2.1.Lo, iV r12.2.1.Hi, bV r12.2.1.Unknown, iV r12.2.2.Lo, iV r12.2.2.Hi, bV r12.2.2.Unknown]) rfl rfl rfl rfl ti84 rfl rfl rfl rfl rfl (RunC.blk (RunC.fin (AWP.rgC 39 rfl rfl (pS rfl (pS rfl (RunC.fin (⟨(s9.2.1, r12, w6 (s9.2.2 + 1)), (Option.some.inj hR).symm, ?_⟩)))))))))
      exact Weak.turnL [(0, 0), (1, 0), (2, 0)] [] rfl rfl (tc (trP' rfl rfl rfl rfl) (tc (trP' rfl rfl rfl rfl) (tc (trP' rfl rfl rfl rfl) (tc (.sc _) (tc (.sc _) tn))))) (mc rfl (.box rfl .z9 rfl) (mc rfl (.box rfl .z9 rfl) (mc rfl (.box rfl .z9 rfl) mn)))
     ·refine AWP.exit (exT (exT (exH (skT (⟨s9.2.1, (Option.some.inj hR).symm, ?_⟩)))))
      exact Weak.turnL [(1, 0), (2, 0)] [] rfl rfl (tc (trP' rfl rfl rfl rfl) (tc (trP' rfl rfl rfl rfl) tn)) (mc rfl (.box rfl .z9 rfl) (mc rfl (.box rfl .z9 rfl) mn))
    ·refine skT (AWP.sq (AWP.rgC 14 rfl rfl (ldB (v := .agg _) rfl rfl rfl rfl ti84 rfl rfl (stB (cs' := [iV z10.1.Lo, iV z10.1.Hi, bV z10.1.Unknown, iV z10.2.1.Lo, iV z10.2.1.Hi, bV z10.2.1.Unknown, iV z10.2.2.Lo, iV z10.2.2.Hi, bV z10.2.2.Unknown]) rfl rfl rfl rfl ti84 rfl rfl rfl rfl rfl (pS rfl (RunC.fin (AWP.ret ?_)))))))
     have hR := Option.some.inj hR; subst hR
     exact hQ _ _ (LS.mk [(6, .ptr 0 0 0), (7, iV 0)] (lblks 0 [boxB (α := Bound × Bound × Bound) true z10]) 1) (.tup [aggV (α := Bound × Bound × Bound) true z10, iV 0]) [] (.inr rfl) (Weak.turnL [(1, 0)] [] rfl rfl (tc (trP' rfl rfl rfl rfl) (tc (.sc _) tn)) (mc rfl (.box rfl .z9 rfl) mn)) (ro2 (rvC (v := aggV (α := Bound × Bound × Bound) true z10) rfl rfl ti84 rfl) (rvT (v := iV 0) rfl)) rfl rfl (.tup (.cons ldA (.cons (.sc _) .nil))) pn
end Go.Proofs.Ids
