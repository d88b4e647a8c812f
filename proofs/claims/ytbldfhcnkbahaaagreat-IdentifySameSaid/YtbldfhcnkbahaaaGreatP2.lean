/- Each function of the program computes its plain function. Conditions: as each theorem states them. -/
import Derived.Test.YtbldfhcnkbahaaaGreatA3
import Derived.Test.YtbldfhcnkbahaaaGreatA4
import Derived.Test.YtbldfhcnkbahaaaGreatT
import Derived.Test.YtbldfhcnkbahaaaGreatP1
namespace Go.Proofs.Ids
open Go Go.Abs Lf
set_option linter.unusedVariables false
set_option linter.unusedSimpArgs false
set_option maxRecDepth 100000
set_option maxHeartbeats 1000000
theorem ok56 (b : Body) (t : Int) (r : Vec × Int) (hR : sky_Place b t = some r) : FnP Tryz.prog 56 [aggV false b, .sc (.int .i64 t)] (.tup [aggV (α := Vec) true r.1, .sc (.int .i64 r.2)]) := by
 refine fnP_of (FnX.walk Tryz.func56 rfl 67 0 (by simp [Tryz.ntmps56]) rfl fun W S F Q hQ => ?_)
 unfold sky_Place at hR
 refine AWP.sq (AWP.rgC 12 rfl rfl (bx (cs := _) 0 rfl rfl rfl (al (cs := [iV 0, iV 0, iV 0]) 4 rfl rfl ti30 rfl rfl (pS rfl (RunC.fin (AWP.sq (AWP.rgC 24 rfl rfl (pS rfl ?_))))))))
 obtain ⟨r1, hr1, hR⟩ := bindE hR
 refine cls [] rfl rfl cb77 (ok77 t 86400000 _ hr1) .z2 (.inr rfl) rfl (pS rfl (RunC.fin (AWP.sq (AWP.joinX (fun z2 : Bool => LS.mk [(1, iV t), (2, .ptr 0 0 0), (4, .ptr 1 0 0), (6, iV r1), (20, bV z2)] (lblks 0 [boxB (α := Body) true b, boxB (α := Vec) true (Vec.mk 0 0 0)]) 2) hR (fun o2 hR => ?_) fun z2 hR => ?_))))
 ·refine AWP.rgC 48 rfl rfl (pS rfl (pS rfl (pS rfl (brR hR (fun h3 hR => ?_) fun h3 hR => ?_))))
  ·refine sk (skW rfl rfl rfl h3) (sk (skW rfl rfl rfl h3) (pkT (v := bV true) rfl rfl h3 rfl (RunC.fin ?_)))
   have hR := Option.some.inj hR; subst hR
   exact Weak.turnL [(0, 0), (4, 0)] [] rfl rfl (tc (.sc _) (tc (trP' rfl rfl rfl rfl) (tc (trP' rfl rfl rfl rfl) (tc (.sc _) (tc (.sc _) tn))))) (mc rfl (.box rfl (.c3 (.c3 .z2)) rfl) (mc rfl (.box rfl .z3 rfl) mn))
  ·refine pu (v := .sc _) (wtG rfl rfl rfl h3) rfl (fun _ => rfl) (pu (v := .sc _) (wtG rfl rfl rfl h3) rfl (fun _ => rfl) (pkF (v := bV (decide (r1 ≥ 400))) rfl rfl h3 rfl (RunC.fin ?_)))
   have hR := Option.some.inj hR; subst hR
   exact Weak.turnL [(0, 0), (4, 0)] [] rfl rfl (tc (.sc _) (tc (trP' rfl rfl rfl rfl) (tc (trP' rfl rfl rfl rfl) (tc (.sc _) (tc (.sc _) tn))))) (mc rfl (.box rfl (.c3 (.c3 .z2)) rfl) (mc rfl (.box rfl .z3 rfl) mn))
 ·refine AWP.cd hR rfl (fun h4 hR => ?_) fun h4 hR => ?_
  ·refine AWP.sq (AWP.rgC 14 rfl rfl (bu (cs := [iV 0, iV 0, iV 0]) rfl bt30 rfl (stB (cs' := [iV 0, iV 0, iV 0]) rfl rfl rfl rfl ti30 rfl rfl rfl rfl rfl (pS rfl (RunC.fin (AWP.ret (rtT ?_)))))))
   have hR := Option.some.inj hR; subst hR
   exact hQ _ _ (LS.mk [(4, .ptr 0 0 0), (5, iV 4)] (lblks 0 [boxB (α := Vec) true (Vec.mk 0 0 0)]) 1) (.tup [aggV (α := Vec) true (Vec.mk 0 0 0), iV 4]) [] (.inr rfl) (Weak.turnL [(1, 0)] [] rfl rfl (tc (trP' rfl rfl rfl rfl) (tc (.sc _) tn)) (mc rfl (.box rfl .z3 rfl) mn)) (ro2 (rvC (v := aggV (α := Vec) true (Vec.mk 0 0 0)) rfl rfl ti30 rfl) (rvT (v := iV 4) rfl)) rfl rfl (.tup (.cons ldA (.cons (.sc _) .nil))) pn
  ·refine AWP.skip (skT (AWP.sq (AWP.rgC 50 rfl rfl (ldB (v := .agg _) rfl rfl rfl rfl ti53 rfl rfl (pS rfl ?_)))))
   obtain ⟨r5, hr5, hR⟩ := bindE hR
   refine cls [] rfl rfl cb9 (ok9 b r1 _ hr5) (.cons (.agg (.c3 (.c3 .z2)) rfl) (.cons (.sc _) .nil)) (.inr rfl) rfl (pu (v := .tup _) rfl rfl (fun _ => rfl) (pu (v := .agg _) rfl rfl (fun _ => rfl) (pu (v := .agg _) rfl rfl (fun _ => rfl) (pS rfl (al (cs := [iV 0, iV 0, iV 0]) 30 rfl rfl ti30 rfl rfl (al (cs := [iV 0, iV 0, iV 0]) 34 rfl rfl ti30 rfl rfl (stB (cs' := [iV r5.1.X, iV r5.1.Y, iV r5.1.Z]) rfl rfl rfl rfl ti30 rfl rfl rfl rfl rfl (stB (cs' := [iV r5.2.1.X, iV r5.2.1.Y, iV r5.2.1.Z]) rfl rfl rfl rfl ti30 rfl rfl rfl rfl rfl (pS rfl (RunC.fin (AWP.sq (AWP.sq (AWP.rgC 58 rfl rfl (pS rfl (pS rfl (RunC.fin ?_))))))))))))))))
   refine AWP.cd hR rfl (fun h6 hR => ?_) fun h6 hR => ?_
   ·refine AWP.sq (AWP.rgC 74 rfl rfl (bu (cs := [iV 0, iV 0, iV 0]) rfl bt30 rfl (pS rfl (stB (cs' := [iV 0, iV 0, iV 0]) rfl rfl rfl rfl ti30 rfl rfl rfl rfl rfl (pS rfl (RunC.fin (AWP.ret (rtT ?_))))))))
    have hR := Option.some.inj hR; subst hR
    exact hQ _ _ (LS.mk [(4, .ptr 0 0 0), (5, iV r5.2.2)] (lblks 0 [boxB (α := Vec) true (Vec.mk 0 0 0)]) 1) (.tup [aggV (α := Vec) true (Vec.mk 0 0 0), iV r5.2.2]) [] (.inr rfl) (Weak.turnL [(1, 0)] [] rfl rfl (tc (trP' rfl rfl rfl rfl) (tc (.sc _) tn)) (mc rfl (.box rfl .z3 rfl) mn)) (ro2 (rvC (v := aggV (α := Vec) true (Vec.mk 0 0 0)) rfl rfl ti30 rfl) (rvT (v := iV r5.2.2) rfl)) rfl rfl (.tup (.cons ldA (.cons (.sc _) .nil))) pn
   ·refine AWP.skip (skT (AWP.sq (AWP.rgC 94 rfl rfl (ldB (v := .agg _) rfl rfl rfl rfl ti30 rfl rfl (ldB (v := .agg _) rfl rfl rfl rfl ti30 rfl rfl ?_)))))
    obtain ⟨r7, hr7, hR⟩ := bindE hR
    refine cls [] rfl rfl cb15 (ok15 r5.1 r5.2.1 _ hr7) (.cons (.agg .z3 rfl) (.cons (.agg .z3 rfl) (.nil))) (.inr rfl) rfl (pu (v := .tup _) rfl rfl (fun _ => rfl) (pu (v := .agg _) rfl rfl (fun _ => rfl) (pS rfl (al (cs := [iV 0, iV 0, iV 0]) 82 rfl rfl ti30 rfl rfl (stB (cs' := [iV r7.1.X, iV r7.1.Y, iV r7.1.Z]) rfl rfl rfl rfl ti30 rfl rfl rfl rfl rfl (pS rfl (RunC.fin (AWP.sq (AWP.sq (AWP.rgC 102 rfl rfl (pS rfl (pS rfl (RunC.fin (AWP.cd hR rfl (fun h8 hR => ?_) fun h8 hR => ?_))))))))))))))
    ·refine AWP.sq (AWP.rgC 118 rfl rfl (bu (cs := [iV 0, iV 0, iV 0]) rfl bt30 rfl (pS rfl (stB (cs' := [iV 0, iV 0, iV 0]) rfl rfl rfl rfl ti30 rfl rfl rfl rfl rfl (pS rfl (RunC.fin (AWP.ret (rtT ?_))))))))
     have hR := Option.some.inj hR; subst hR
     exact hQ _ _ (LS.mk [(4, .ptr 0 0 0), (5, iV r7.2)] (lblks 0 [boxB (α := Vec) true (Vec.mk 0 0 0)]) 1) (.tup [aggV (α := Vec) true (Vec.mk 0 0 0), iV r7.2]) [] (.inr rfl) (Weak.turnL [(1, 0)] [] rfl rfl (tc (trP' rfl rfl rfl rfl) (tc (.sc _) tn)) (mc rfl (.box rfl .z3 rfl) mn)) (ro2 (rvC (v := aggV (α := Vec) true (Vec.mk 0 0 0)) rfl rfl ti30 rfl) (rvT (v := iV r7.2) rfl)) rfl rfl (.tup (.cons ldA (.cons (.sc _) .nil))) pn
    ·refine AWP.skip (skT (AWP.sq (AWP.rgC 126 rfl rfl (pS rfl (pS rfl (pS rfl (pS rfl (al (cs := [iV 0]) 118 rfl rfl ti2 rfl rfl (stB (cs' := [iV (w6 (t - (w6 (r1 * 86400000))))]) rfl rfl rfl rfl ti2 rfl rfl rfl rfl rfl (RunC.fin (AWP.sq (AWP.rgC 134 rfl rfl (pu (v := .fn _ _) rfl rfl (fun _ => rfl) (pu (v := .fn _ _) rfl rfl (fun _ => rfl) (RunC.fin (AWP.sq ?_))))))))))))))))
     refine AWP.rgD 218 [0, 0, 2, 0, 8, 31, 0, 0, 128, 0, 512, 2047, 0, 0, 8192, 0, 32768, 131071, 262143, 524287, 1048575] ⟨[], [none, none, some [34], none, some [82], none, none, none, some [34], none, some [82], none, none, none, some [34], none, some [82], none, none, some [1], none]⟩ hmix (by kernel_rfl) rfl rfl ?_
     refine pu (v := .fn _ _) rfl rfl (fun _ => rfl) (fa rfl rfl ti30 rfl rfl ti2 rfl (ldB (v := .sc _) rfl rfl rfl rfl ti2 rfl rfl (fa rfl rfl ti30 rfl rfl ti2 rfl (ldB (v := .sc _) rfl rfl rfl rfl ti2 rfl rfl ?_))))
     obtain ⟨r9, hr9, hR⟩ := bindE hR
     refine cls [118] rfl rfl cb78 (ok78 r5.2.1.X r7.1.X (w6 (t - (w6 (r1 * 86400000)))) _ hr9) (.c2 (.cons (ldX rfl rfl (.cons (.sc _) .nil) rfl) (.nil))) (.inl (by first | rfl | exact freshR | exact freshA | (simp only [V.fresh, V.freshs, freshR, freshA, Bool.and_self]))) rfl (pu (v := .fn _ _) rfl rfl (fun _ => rfl) (fa rfl rfl ti30 rfl rfl ti2 rfl (ldB (v := .sc _) rfl rfl rfl rfl ti2 rfl rfl (fa rfl rfl ti30 rfl rfl ti2 rfl (ldB (v := .sc _) rfl rfl rfl rfl ti2 rfl rfl ?_)))))
     obtain ⟨r10, hr10, hR⟩ := bindE hR
     refine cls [118] rfl rfl cb78 (ok78 r5.2.1.Y r7.1.Y (w6 (t - (w6 (r1 * 86400000)))) _ hr10) (.c2 (.cons (ldX rfl rfl (.cons (.sc _) .nil) rfl) (.nil))) (.inl (by first | rfl | exact freshR | exact freshA | (simp only [V.fresh, V.freshs, freshR, freshA, Bool.and_self]))) rfl (pu (v := .fn _ _) rfl rfl (fun _ => rfl) (fa rfl rfl ti30 rfl rfl ti2 rfl (ldB (v := .sc _) rfl rfl rfl rfl ti2 rfl rfl (fa rfl rfl ti30 rfl rfl ti2 rfl (ldB (v := .sc _) rfl rfl rfl rfl ti2 rfl rfl ?_)))))
     obtain ⟨r11, hr11, hR⟩ := bindE hR
     refine cls [118] rfl rfl cb78 (ok78 r5.2.1.Z r7.1.Z (w6 (t - (w6 (r1 * 86400000)))) _ hr11) (.c2 (.cons (ldX rfl rfl (.cons (.sc _) .nil) rfl) (.nil))) (.inl (by first | rfl | exact freshR | exact freshA | (simp only [V.fresh, V.freshs, freshR, freshA, Bool.and_self]))) rfl (bu (cs := [iV r9, iV r10, iV r11]) rfl bt30 rfl (stB (cs' := [iV r9, iV r10, iV r11]) rfl rfl rfl rfl ti30 rfl rfl rfl rfl rfl (pS rfl (RunC.fin (AWP.ret ?_)))))
     have hR := Option.some.inj hR; subst hR
     exact hQ _ _ (LS.mk [(4, .ptr 0 0 0), (5, iV 0)] (lblks 0 [boxB (α := Vec) true (Vec.mk r9 r10 r11)]) 1) (.tup [aggV (α := Vec) true (Vec.mk r9 r10 r11), iV 0]) [] (.inr rfl) (Weak.turnL [(1, 0)] [] rfl rfl (tc (trP' rfl rfl rfl rfl) (tc (.sc _) tn)) (mc rfl (.box rfl .z3 rfl) mn)) (ro2 (rvC (v := aggV (α := Vec) true (Vec.mk r9 r10 r11)) rfl rfl ti30 rfl) (rvT (v := iV 0) rfl)) rfl rfl (.tup (.cons ldA (.cons (.sc _) .nil))) pn
theorem ok45 (r : Bound) (hR : bound_None = some r) : FnP Tryz.prog 45 [] (aggV (α := Bound) true r) := by
 refine fnP_of (FnX.walk Tryz.func45 rfl 2 0 (by simp [Tryz.ntmps45]) rfl fun W S F Q hQ => ?_)
 unfold bound_None at hR
 refine AWP.sq (AWP.rgC 4 rfl rfl (al (cs := [iV 0, iV 0, bV false]) 0 rfl rfl ti33 rfl rfl (RunC.fin (AWP.sq (AWP.rgC 12 rfl rfl (bu (cs := [iV 0, iV 0, bV true]) rfl bt33 rfl (stB (cs' := [iV 0, iV 0, bV true]) rfl rfl rfl rfl ti33 rfl rfl rfl rfl rfl (RunC.fin (AWP.ret ?_)))))))))
 have hR := Option.some.inj hR; subst hR
 exact hQ _ _ (LS.mk [(0, .ptr 0 0 0)] (lblks 0 [boxB (α := Bound) true (Bound.mk 0 0 true)]) 1) (aggV (α := Bound) true (Bound.mk 0 0 true)) [] (.inr rfl) (Weak.turnL [(0, 0)] [] rfl rfl (tc (trP' rfl rfl rfl rfl) tn) (mc rfl (.box rfl .z3 rfl) mn)) (ro1 (rvC (v := aggV (α := Bound) true (Bound.mk 0 0 true)) rfl rfl ti33 rfl)) rfl rfl ldA pn
theorem ok86 (b : Bound) (r : Bound) (hR : bound_Norm b = some r) : FnP Tryz.prog 86 [aggV false b] (aggV (α := Bound) true r) := by
 refine fnP_of (FnX.walk Tryz.func86 rfl 8 0 (by simp [Tryz.ntmps86]) rfl fun W S F Q hQ => ?_)
 unfold bound_Norm at hR
 refine AWP.sq (AWP.rgC 8 rfl rfl (bx (cs := _) 0 rfl rfl rfl (al (cs := [iV 0, iV 0, bV false]) 4 rfl rfl ti33 rfl rfl (RunC.fin (AWP.sq (AWP.sq (AWP.rgC 20 rfl rfl (ldB (v := .agg _) rfl rfl rfl rfl ti33 rfl rfl ?_))))))))
 obtain ⟨r1, hr1, hR⟩ := bindE hR
 refine cls [] rfl rfl cb38 (ok38 b _ hr1) (.cons (.agg .z3 rfl) (.nil)) (.inr rfl) rfl (pS rfl (RunC.fin (AWP.cd hR rfl (fun h2 hR => ?_) fun h2 hR => ?_)))
 ·refine AWP.sq (AWP.rgC 28 rfl rfl ?_)
  obtain ⟨r3, hr3, hR⟩ := bindE hR
  refine cls [] rfl rfl cb45 (ok45 _ hr3) (.nil) (.inr rfl) rfl (stB (cs' := [iV r3.Lo, iV r3.Hi, bV r3.Unknown]) rfl rfl rfl rfl ti33 rfl rfl rfl rfl rfl (RunC.fin (AWP.ret (rtT ?_))))
  have hR := Option.some.inj hR; subst hR
  exact hQ _ _ (LS.mk [(2, .ptr 0 0 0)] (lblks 0 [boxB (α := Bound) true r3]) 1) (aggV (α := Bound) true r3) [] (.inr rfl) (Weak.turnL [(4, 0)] [] rfl rfl (tc (trP' rfl rfl rfl rfl) tn) (mc rfl (.box rfl .z3 rfl) mn)) (ro1 (rvC (v := aggV (α := Bound) true r3) rfl rfl ti33 rfl)) rfl rfl ldA pn
 ·refine AWP.skip (skT (AWP.sq (AWP.rgC 28 rfl rfl (ldB (v := .agg _) rfl rfl rfl rfl ti33 rfl rfl (stB (cs' := [iV b.Lo, iV b.Hi, bV b.Unknown]) rfl rfl rfl rfl ti33 rfl rfl rfl rfl rfl (RunC.fin (AWP.ret ?_)))))))
  have hR := Option.some.inj hR; subst hR
  exact hQ _ _ (LS.mk [(2, .ptr 0 0 0)] (lblks 0 [boxB (α := Bound) true b]) 1) (aggV (α := Bound) true b) [] (.inr rfl) (Weak.turnL [(4, 0)] [] rfl rfl (tc (trP' rfl rfl rfl rfl) tn) (mc rfl (.box rfl .z3 rfl) mn)) (ro1 (rvC (v := aggV (α := Bound) true b) rfl rfl ti33 rfl)) rfl rfl ldA pn
theorem ok68 (lo : Int) (hi : Int) (r : Bound) (hR : bound_Of lo hi = some r) : FnP Tryz.prog 68 [.sc (.int .i64 lo), .sc (.int .i64 hi)] (aggV (α := Bound) true r) := by
 refine fnP_of (FnX.walk Tryz.func68 rfl 9 0 (by simp [Tryz.ntmps68]) rfl fun W S F Q hQ => ?_)
 unfold bound_Of at hR
 refine AWP.sq (AWP.rgC 4 rfl rfl (al (cs := [iV 0, iV 0, bV false]) 0 rfl rfl ti33 rfl rfl (RunC.fin (AWP.sq (AWP.rgC 24 rfl rfl (pS rfl (pS rfl (bu (cs := [iV lo, iV hi, bV false]) rfl bt33 rfl ?_))))))))
 obtain ⟨r1, hr1, hR⟩ := bindE hR
 refine cls [] rfl rfl cb86 (ok86 (Bound.mk lo hi false) _ hr1) (.cons (.agg .z3 rfl) (.nil)) (.inr rfl) rfl (stB (cs' := [iV r1.Lo, iV r1.Hi, bV r1.Unknown]) rfl rfl rfl rfl ti33 rfl rfl rfl rfl rfl (RunC.fin (AWP.ret ?_)))
 have hR := Option.some.inj hR; subst hR
 exact hQ _ _ (LS.mk [(4, .ptr 0 0 0)] (lblks 0 [boxB (α := Bound) true r1]) 1) (aggV (α := Bound) true r1) [] (.inr rfl) (Weak.turnL [(0, 0)] [] rfl rfl (tc (trP' rfl rfl rfl rfl) tn) (mc rfl (.box rfl .z3 rfl) mn)) (ro1 (rvC (v := aggV (α := Bound) true r1) rfl rfl ti33 rfl)) rfl rfl ldA pn
theorem ok60 (v : Int) (r : Bound) (hR : bound_Exact v = some r) : FnP Tryz.prog 60 [.sc (.int .i64 v)] (aggV (α := Bound) true r) := by
 refine fnP_of (FnX.walk Tryz.func60 rfl 6 0 (by simp [Tryz.ntmps60]) rfl fun W S F Q hQ => ?_)
 unfold bound_Exact at hR
 refine AWP.sq (AWP.rgC 4 rfl rfl (al (cs := [iV 0, iV 0, bV false]) 0 rfl rfl ti33 rfl rfl (RunC.fin (AWP.sq (AWP.rgC 20 rfl rfl (pS rfl (pS rfl ?_)))))))
 obtain ⟨r1, hr1, hR⟩ := bindE hR
 refine cls [] rfl rfl cb68 (ok68 v v _ hr1) .z2 (.inr rfl) rfl (stB (cs' := [iV r1.Lo, iV r1.Hi, bV r1.Unknown]) rfl rfl rfl rfl ti33 rfl rfl rfl rfl rfl (RunC.fin (AWP.ret ?_)))
 have hR := Option.some.inj hR; subst hR
 exact hQ _ _ (LS.mk [(2, .ptr 0 0 0)] (lblks 0 [boxB (α := Bound) true r1]) 1) (aggV (α := Bound) true r1) [] (.inr rfl) (Weak.turnL [(0, 0)] [] rfl rfl (tc (trP' rfl rfl rfl rfl) tn) (mc rfl (.box rfl .z3 rfl) mn)) (ro1 (rvC (v := aggV (α := Bound) true r1) rfl rfl ti33 rfl)) rfl rfl ldA pn
theorem ok41 (v : Vec) (r : (Bound × Bound × Bound)) (hR : predict_Exact v = some r) : FnP Tryz.prog 41 [aggV false v] (aggV (α := Bound × Bound × Bound) true r) := by
 refine fnP_of (FnX.walk Tryz.func41 rfl 13 0 (by simp [Tryz.ntmps41]) rfl fun W S F Q hQ => ?_)
 unfold predict_Exact at hR
 refine AWP.sq (AWP.rgC 8 rfl rfl (bx (cs := _) 0 rfl rfl rfl (al (cs := [iV 0, iV 0, bV false, iV 0, iV 0, bV false, iV 0, iV 0, bV false]) 4 rfl rfl ti84 rfl rfl (RunC.fin (AWP.sq (AWP.rgD 52 [0, 1, 3, 0, 8, 31, 0, 64, 255, 511, 1023] ⟨[], [none, some [0], none, none, some [0], none, none, some [0], none, none, some [4]]⟩ hmix (by kernel_rfl) rfl rfl ?_))))))
 refine fa rfl rfl ti30 rfl rfl ti2 rfl (ldB (v := .sc _) rfl rfl rfl rfl ti2 rfl rfl ?_)
 obtain ⟨r1, hr1, hR⟩ := bindE hR
 refine cls [] rfl rfl cb60 (ok60 v.X _ hr1) (.cons (.sc _) .nil) (.inr rfl) rfl (fa rfl rfl ti30 rfl rfl ti2 rfl (ldB (v := .sc _) rfl rfl rfl rfl ti2 rfl rfl ?_))
 obtain ⟨r2, hr2, hR⟩ := bindE hR
 refine cls [] rfl rfl cb60 (ok60 v.Y _ hr2) (.cons (.sc _) .nil) (.inr rfl) rfl (fa rfl rfl ti30 rfl rfl ti2 rfl (ldB (v := .sc _) rfl rfl rfl rfl ti2 rfl rfl ?_))
 obtain ⟨r3, hr3, hR⟩ := bindE hR
 refine cls [] rfl rfl cb60 (ok60 v.Z _ hr3) (.cons (.sc _) .nil) (.inr rfl) rfl (buA (cs := [iV r1.Lo, iV r1.Hi, bV r1.Unknown, iV r2.Lo, iV r2.Hi, bV r2.Unknown, iV r3.Lo, iV r3.Hi, bV r3.Unknown]) rfl ti84 rfl ti33 rfl rfl ?_)
 refine stB (cs' := [iV r1.Lo, iV r1.Hi, bV r1.Unknown, iV r2.Lo, iV r2.Hi, bV r2.Unknown, iV r3.Lo, iV r3.Hi, bV r3.Unknown]) rfl rfl rfl rfl ti84 rfl rfl rfl rfl rfl (RunC.fin (AWP.ret ?_))
 have hR := Option.some.inj hR; subst hR
 exact hQ _ _ (LS.mk [(2, .ptr 0 0 0)] (lblks 0 [boxB (α := Bound × Bound × Bound) true (r1, r2, r3)]) 1) (aggV (α := Bound × Bound × Bound) true (r1, r2, r3)) [] (.inr rfl) (Weak.turnL [(4, 0)] [] rfl rfl (tc (trP' rfl rfl rfl rfl) tn) (mc rfl (.box rfl .z9 rfl) mn)) (ro1 (rvC (v := aggV (α := Bound × Bound × Bound) true (r1, r2, r3)) rfl rfl ti84 rfl)) rfl rfl ldA pn
theorem ok67 (a : Bound) (b : Bound) (r : Bool) (hR : bound_vague a b = some r) : FnP Tryz.prog 67 [aggV false a, aggV false b] (.sc (.bool r)) := by
 refine fnP_of (FnX.walk Tryz.func67 rfl 13 0 (by simp [Tryz.ntmps67]) rfl fun W S F Q hQ => ?_)
 unfold bound_vague at hR
 refine AWP.sq (AWP.rgC 12 rfl rfl (bx (cs := _) 0 rfl rfl rfl (bx (cs := _) 4 rfl rfl rfl (pS rfl (RunC.fin (AWP.joinX (fun z1 : Bool => LS.mk [(4, bV z1)] (lblks 0 []) 0) hR (fun o1 hR => ?_) fun z1 hR => ?_))))))
 ·refine AWP.rgC 48 rfl rfl (ldB (v := .agg _) rfl rfl rfl rfl ti33 rfl rfl ?_)
  obtain ⟨r2, hr2, hR⟩ := bindE hR
  refine cls [] rfl rfl cb86 (ok86 a _ hr2) (.cons (.agg .z3 rfl) (.nil)) (.inr rfl) rfl (fi (v := .sc _) rfl rfl ti33 rfl rfl ti4 rfl ?_)
  refine pS rfl (brR hR (fun h3 hR => ?_) fun h3 hR => ?_)
  ·refine sk (skW rfl rfl rfl h3) (sk (skW rfl rfl rfl h3) (sk (skW rfl rfl rfl h3) (pkT (v := bV true) rfl rfl h3 rfl (pS rfl (RunC.fin ?_)))))
   have hR := Option.some.inj hR; subst hR
   exact Weak.turnL [] [] rfl rfl (tc (.sc _) tn) mn
  ·refine ldB (v := .agg _) (wtG rfl rfl rfl h3) rfl rfl rfl ti33 rfl rfl ?_
   obtain ⟨r4, hr4, hR⟩ := bindE hR
   refine cls [] (wtG rfl rfl rfl h3) rfl cb86 (ok86 b _ hr4) (.cons (.agg .z3 rfl) (.nil)) (.inr rfl) rfl (fi (v := .sc _) (wtG rfl rfl rfl h3) rfl ti33 rfl rfl ti4 rfl ?_)
   refine pkF (v := bV r4.Unknown) rfl rfl h3 rfl (pS rfl (RunC.fin ?_))
   have hR := Option.some.inj hR; subst hR
   exact Weak.turnL [] [] rfl rfl (tc (.sc _) tn) mn
 ·refine AWP.ret ?_
  have hR := Option.some.inj hR; subst hR
  exact hQ _ _ (LS.mk [(4, bV z1)] (lblks 0 []) 0) (bV z1) [] (.inr rfl) (Weak.turnL [] [] rfl rfl (tc (.sc _) tn) mn) (ro1 (rvT (v := bV z1) rfl)) rfl rfl (.sc _) pn
theorem ok46 (a : Bound) (b : Bound) (r : Bound) (hR : bound_Hull a b = some r) : FnP Tryz.prog 46 [aggV false a, aggV false b] (aggV (α := Bound) true r) := by
 refine fnP_of (FnX.walk Tryz.func46 rfl 20 0 (by simp [Tryz.ntmps46]) rfl fun W S F Q hQ => ?_)
 unfold bound_Hull at hR
 refine AWP.sq (AWP.rgC 12 rfl rfl (bx (cs := _) 0 rfl rfl rfl (bx (cs := _) 4 rfl rfl rfl (al (cs := [iV 0, iV 0, bV false]) 8 rfl rfl ti33 rfl rfl (RunC.fin (AWP.sq (AWP.sq (AWP.rgC 24 rfl rfl (ldB (v := .agg _) rfl rfl rfl rfl ti33 rfl rfl (ldB (v := .agg _) rfl rfl rfl rfl ti33 rfl rfl ?_))))))))))
 obtain ⟨r1, hr1, hR⟩ := bindE hR
 refine cls [] rfl rfl cb67 (ok67 a b _ hr1) (.cons (.agg .z3 rfl) (.cons (.agg .z3 rfl) (.nil))) (.inr rfl) rfl (RunC.fin (AWP.cd hR rfl (fun h2 hR => ?_) fun h2 hR => ?_))
 ·refine AWP.sq (AWP.rgC 32 rfl rfl ?_)
  obtain ⟨r3, hr3, hR⟩ := bindE hR
  refine cls [] rfl rfl cb45 (ok45 _ hr3) (.nil) (.inr rfl) rfl (stB (cs' := [iV r3.Lo, iV r3.Hi, bV r3.Unknown]) rfl rfl rfl rfl ti33 rfl rfl rfl rfl rfl (RunC.fin (AWP.ret (rtT ?_))))
  have hR := Option.some.inj hR; subst hR
  exact hQ _ _ (LS.mk [(4, .ptr 0 0 0)] (lblks 0 [boxB (α := Bound) true r3]) 1) (aggV (α := Bound) true r3) [] (.inr rfl) (Weak.turnL [(8, 0)] [] rfl rfl (tc (trP' rfl rfl rfl rfl) tn) (mc rfl (.box rfl .z3 rfl) mn)) (ro1 (rvC (v := aggV (α := Bound) true r3) rfl rfl ti33 rfl)) rfl rfl ldA pn
 ·refine AWP.skip (skT (AWP.sq (AWP.rgC 72 rfl rfl (fa rfl rfl ti33 rfl rfl ti31 rfl (ldB (v := .sc _) rfl rfl rfl rfl ti31 rfl rfl (fa rfl rfl ti33 rfl rfl ti31 rfl (ldB (v := .sc _) rfl rfl rfl rfl ti31 rfl rfl (pS rfl (fa rfl rfl ti33 rfl rfl ti31 rfl (ldB (v := .sc _) rfl rfl rfl rfl ti31 rfl rfl (fa rfl rfl ti33 rfl rfl ti31 rfl (ldB (v := .sc _) rfl rfl rfl rfl ti31 rfl rfl (pS rfl ?_)))))))))))))
  obtain ⟨r4, hr4, hR⟩ := bindE hR
  refine cls [] rfl rfl cb68 (ok68 (mn2 a.Lo b.Lo) (mx2 a.Hi b.Hi) _ hr4) .z2 (.inr rfl) rfl (stB (cs' := [iV r4.Lo, iV r4.Hi, bV r4.Unknown]) rfl rfl rfl rfl ti33 rfl rfl rfl rfl rfl (RunC.fin (AWP.ret ?_)))
  have hR := Option.some.inj hR; subst hR
  exact hQ _ _ (LS.mk [(4, .ptr 0 0 0)] (lblks 0 [boxB (α := Bound) true r4]) 1) (aggV (α := Bound) true r4) [] (.inr rfl) (Weak.turnL [(8, 0)] [] rfl rfl (tc (trP' rfl rfl rfl rfl) tn) (mc rfl (.box rfl .z3 rfl) mn)) (ro1 (rvC (v := aggV (α := Bound) true r4) rfl rfl ti33 rfl)) rfl rfl ldA pn
theorem ok34 (b : Body) (t : Bound) (r : (Bound × Bound × Bound) × Bool) (hR : identify_Path b t = some r) : FnP Tryz.prog 34 [aggV false b, aggV false t] (.tup [aggV (α := Bound × Bound × Bound) true r.1, .sc (.bool r.2)]) := by
 refine fnP_of (FnX.walk Tryz.func34 rfl 85 0 (by simp [Tryz.ntmps34]) rfl fun W S F Q hQ => ?_)
 unfold identify_Path at hR
 refine AWP.sq (AWP.rgC 16 rfl rfl (bx (cs := _) 0 rfl rfl rfl (bx (cs := _) 4 rfl rfl rfl (al (cs := [iV 0, iV 0, bV false, iV 0, iV 0, bV false, iV 0, iV 0, bV false]) 8 rfl rfl ti84 rfl rfl (pS rfl (RunC.fin (AWP.sq (AWP.joinX (fun z1 : Bool => LS.mk [(2, .ptr 0 0 0), (3, .ptr 1 0 0), (4, .ptr 2 0 0), (29, bV z1)] (lblks 0 [boxB (α := Body) true b, boxB (α := Bound) true t, boxB (α := Bound × Bound × Bound) true (Bound.mk 0 0 false, Bound.mk 0 0 false, Bound.mk 0 0 false)]) 3) hR (fun o1 hR => ?_) fun z1 hR => ?_))))))))
 ·refine AWP.rgC 76 rfl rfl (ldB (v := .agg _) rfl rfl rfl rfl ti28 rfl rfl ?_)
  obtain ⟨r2, hr2, hR⟩ := bindE hR
  refine cls [] rfl rfl cb37 (ok37 t _ hr2) (.cons (.agg .z3 rfl) (.nil)) (.inr rfl) rfl (pS rfl (pS rfl (brR hR (fun h3 hR => ?_) fun h3 hR => ?_)))
  ·refine sk (skW rfl rfl rfl h3) (sk (skW rfl rfl rfl h3) (pkT (v := bV true) rfl rfl h3 rfl (pS rfl (sk (skW rfl rfl rfl rfl) (sk (skW rfl rfl rfl rfl) (sk (skW rfl rfl rfl rfl) (sk (skW rfl rfl rfl rfl) (sk (skW rfl rfl rfl rfl) (sk (skW rfl rfl rfl rfl) (pkT (v := bV true) rfl rfl rfl rfl (RunC.fin ?_)))))))))))
   have hR := Option.some.inj hR; subst hR
   exact Weak.turnL [(0, 0), (4, 0), (8, 0)] [] rfl rfl (tc (trP' rfl rfl rfl rfl) (tc (trP' rfl rfl rfl rfl) (tc (trP' rfl rfl rfl rfl) (tc (.sc _) tn)))) (mc rfl (.box rfl (.c3 (.c3 .z2)) rfl) (mc rfl (.box rfl .z3 rfl) (mc rfl (.box rfl .z9 rfl) mn)))
  ·refine fa (wtG rfl rfl rfl h3) rfl ti28 rfl rfl ti4 rfl (ldB (v := .sc _) (wtG rfl rfl rfl h3) rfl rfl rfl ti4 rfl rfl (pkF (v := bV t.Unknown) rfl rfl h3 rfl (pS rfl (brR hR (fun h4 hR => ?_) fun h4 hR => ?_))))
   ·refine sk (skW rfl rfl rfl h4) (sk (skW rfl rfl rfl h4) (sk (skW rfl rfl rfl h4) (sk (skW rfl rfl rfl h4) (sk (skW rfl rfl rfl h4) (sk (skW rfl rfl rfl h4) (pkT (v := bV true) rfl rfl h4 rfl (RunC.fin ?_)))))))
    have hR := Option.some.inj hR; subst hR
    exact Weak.turnL [(0, 0), (4, 0), (8, 0)] [] rfl rfl (tc (trP' rfl rfl rfl rfl) (tc (trP' rfl rfl rfl rfl) (tc (trP' rfl rfl rfl rfl) (tc (.sc _) tn)))) (mc rfl (.box rfl (.c3 (.c3 .z2)) rfl) (mc rfl (.box rfl .z3 rfl) (mc rfl (.box rfl .z9 rfl) mn)))
   ·refine fa (wtG rfl rfl rfl h4) rfl ti28 rfl rfl ti26 rfl (ldB (v := .sc _) (wtG rfl rfl rfl h4) rfl rfl rfl ti26 rfl rfl (fa (wtG rfl rfl rfl h4) rfl ti28 rfl rfl ti26 rfl (ldB (v := .sc _) (wtG rfl rfl rfl h4) rfl rfl rfl ti26 rfl rfl (pu (v := .sc _) (wtG rfl rfl rfl h4) rfl (fun _ => rfl) (pu (v := .sc _) (wtG rfl rfl rfl h4) rfl (fun _ => rfl) (pkF (v := bV (decide ((w6 (t.Hi - t.Lo)) > 86400000))) rfl rfl h4 rfl (RunC.fin ?_)))))))
    have hR := Option.some.inj hR; subst hR
    exact Weak.turnL [(0, 0), (4, 0), (8, 0)] [] rfl rfl (tc (trP' rfl rfl rfl rfl) (tc (trP' rfl rfl rfl rfl) (tc (trP' rfl rfl rfl rfl) (tc (.sc _) tn)))) (mc rfl (.box rfl (.c3 (.c3 .z2)) rfl) (mc rfl (.box rfl .z3 rfl) (mc rfl (.box rfl .z9 rfl) mn)))
 ·refine AWP.cd hR rfl (fun h5 hR => ?_) fun h5 hR => ?_
  ·refine AWP.sq (AWP.rgC 15 rfl rfl (buA (cs := [iV 0, iV 0, bV false, iV 0, iV 0, bV false, iV 0, iV 0, bV false]) rfl ti84 rfl ti33 rfl rfl ?_))
   refine stB (cs' := [iV 0, iV 0, bV false, iV 0, iV 0, bV false, iV 0, iV 0, bV false]) rfl rfl rfl rfl ti84 rfl rfl rfl rfl rfl (pS rfl (RunC.fin (AWP.ret (rtT ?_))))
   have hR := Option.some.inj hR; subst hR
   exact hQ _ _ (LS.mk [(4, .ptr 0 0 0), (5, bV false)] (lblks 0 [boxB (α := Bound × Bound × Bound) true (Bound.mk 0 0 false, Bound.mk 0 0 false, Bound.mk 0 0 false)]) 1) (.tup [aggV (α := Bound × Bound × Bound) true (Bound.mk 0 0 false, Bound.mk 0 0 false, Bound.mk 0 0 false), bV false]) [] (.inr rfl) (Weak.turnL [(2, 0)] [] rfl rfl (tc (trP' rfl rfl rfl rfl) (tc (.sc _) tn)) (mc rfl (.box rfl .z9 rfl) mn)) (ro2 (rvC (v := aggV (α := Bound × Bound × Bound) true (Bound.mk 0 0 false, Bound.mk 0 0 false, Bound.mk 0 0 false)) rfl rfl ti84 rfl) (rvT (v := bV false) rfl)) rfl rfl (.tup (.cons ldA (.cons (.sc _) .nil))) pn
  ·refine AWP.skip (skT (AWP.sq (AWP.rgC 27 rfl rfl (fa rfl rfl ti28 rfl rfl ti26 rfl (ldB (v := .sc _) rfl rfl rfl rfl ti26 rfl rfl (fa rfl rfl ti28 rfl rfl ti26 rfl (ldB (v := .sc _) rfl rfl rfl rfl ti26 rfl rfl (bs (α := Int) 19 true ([t.Lo, t.Hi] : List Int) rfl rfl ti119 rfl ti26 rfl rfl rfl rfl rfl ?_))))))))
   refine pu (v := slV Int _ _ _ _) rfl rfl (fun _ => rfl) (RunC.fin (AWP.sq (AWP.sq (AWP.rgC 47 rfl rfl (fa rfl rfl ti28 rfl rfl ti26 rfl (ldB (v := .sc _) rfl rfl rfl rfl ti26 rfl rfl ?_))))))
   obtain ⟨r6, hr6, hR⟩ := bindE hR
   refine cls [] rfl rfl cb55 (ok55 t.Lo 86400000 _ hr6) .z2 (.inr rfl) rfl (pS rfl (pS rfl (RunC.fin (AWP.sq (AWP.rgC 63 rfl rfl (pS rfl (fa rfl rfl ti28 rfl rfl ti26 rfl (ldB (v := .sc _) rfl rfl rfl rfl ti26 rfl rfl (pS rfl (RunC.fin (AWP.cd hR rfl (fun h7 hR => ?_) fun h7 hR => ?_)))))))))))
   ·refine AWP.rgC 83 rfl rfl (pu (v := slV Int _ _ _ _) rfl rfl (fun _ => rfl) (pS rfl (bs (α := Int) 71 true ([w6 (r6 * 86400000)] : List Int) rfl rfl ti119 rfl ti26 rfl rfl rfl rfl rfl ?_)))
    obtain ⟨h8, hR⟩ := chkE hR
    refine ap' (α := Int) (nw := true) (xs := ([t.Lo, t.Hi] : List Int)) (ys := ([w6 (r6 * 86400000)] : List Int)) rfl rfl rfl rfl (srcS' rfl rfl rfl) ti119 rfl ti26 rfl h8 rfl ?_
    refine pu (v := slV Int _ _ _ _) rfl rfl (fun _ => rfl) (RunC.fin (AWP.sq (AWP.rgC 87 rfl rfl (al (cs := [iV 0, iV 0, bV false, iV 0, iV 0, bV false, iV 0, iV 0, bV false]) 83 rfl rfl ti84 rfl rfl (RunC.fin (AWP.sq (AWP.sq (AWP.rgC 99 rfl rfl (pu (v := slV Int _ _ _ _) rfl rfl (fun _ => rfl) (lenS (α := Int) rfl rfl ti119 rfl ?_))))))))))
    refine pS rfl (RunC.fin (AWP.loopK' (fun s9 : (Bound × Bound × Bound) × Int => LS.mk [(2, .ptr 0 0 0), (4, .ptr 1 0 0), (8, .ptr 2 0 0), (48, slV Int 3 0 0 (([t.Lo, t.Hi] : List Int) ++ ([w6 (r6 * 86400000)] : List Int)).length), (49, iV ((([t.Lo, t.Hi] : List Int) ++ ([w6 (r6 * 86400000)] : List Int)).length : Int)), (50, iV s9.2)] (lblks 0 [boxB (α := Body) true b, boxB (α := Bound × Bound × Bound) true (Bound.mk 0 0 false, Bound.mk 0 0 false, Bound.mk 0 0 false), boxB (α := Bound × Bound × Bound) true s9.1, arrB (α := Int) 26 0 true (([t.Lo, t.Hi] : List Int) ++ ([w6 (r6 * 86400000)] : List Int))]) 4) (fun z10 : (Bound × Bound × Bound) => LS.mk [(4, .ptr 0 0 0), (8, .ptr 1 0 0)] (lblks 0 [boxB (α := Bound × Bound × Bound) true (Bound.mk 0 0 false, Bound.mk 0 0 false, Bound.mk 0 0 false), boxB (α := Bound × Bound × Bound) true z10]) 2) (identify_Path.l1 b t r6) hR (s0 := ((Bound.mk 0 0 false, Bound.mk 0 0 false, Bound.mk 0 0 false), 0)) (Weak.turnL [(0, 0), (2, 0), (83, 0), (19, 0)] [] rfl rfl (tc (trP' rfl rfl rfl rfl) (tc (trP' rfl rfl rfl rfl) (tc (trP' rfl rfl rfl rfl) (tc (trS' rfl rfl rfl rfl rfl) (tc (.sc _) (tc (.sc _) tn)))))) (mc rfl (.box rfl (.c3 (.c3 .z2)) rfl) (mc rfl (.box rfl .z9 rfl) (mc rfl (.box rfl .z9 rfl) (mc rfl (btrA' rfl) mn))))) (fun s9 o9 hR hE9 => ?_) fun z10 hR => ?_))
    ·unfold identify_Path.l1 at hR
     refine AWP.sq (AWP.rgC 8 rfl rfl ?_)
     obtain ⟨v11, ev11, hR⟩ := letE hR
     refine pu (v := .sc _) rfl rfl (fun _ => puB ev11) (RunC.fin (AWP.sq (AWP.cd hR rfl (fun h12 hR => ?_) fun h12 hR => ?_)))
     ·refine AWP.skip (skT (AWP.sq (AWP.block (AWP.sq (AWP.rgC 28 rfl rfl (pS rfl ?_))))))
      obtain ⟨h13, hR⟩ := chkE hR
      refine ixS0 (α := Int) rfl rfl rfl ti119 rfl ti26 rfl h13 ?_
      refine ldE (α := Int) (v := .sc _) rfl rfl rfl (ixlt h13) ti26 rfl rfl rfl rfl ?_
      refine pS rfl (pS rfl (RunC.fin (AWP.sq (AWP.rgC 64 rfl rfl (ldB (v := .agg _) rfl rfl rfl rfl ti53 rfl rfl (pS rfl ?_))))))
      obtain ⟨r14, hr14, hR⟩ := bindE hR
      refine cls [] rfl rfl cb56 (ok56 b (gt (([t.Lo, t.Hi] : List Int) ++ ([w6 (r6 * 86400000)] : List Int)) s9.2) _ hr14) (.cons (.agg (.c3 (.c3 .z2)) rfl) (.cons (.sc _) .nil)) (.inr rfl) rfl (pu (v := .tup _) rfl rfl (fun _ => rfl) (pu (v := .agg _) rfl rfl (fun _ => rfl) (pS rfl (al (cs := [iV 0, iV 0, iV 0]) 52 rfl rfl ti30 rfl rfl (stB (cs' := [iV r14.1.X, iV r14.1.Y, iV r14.1.Z]) rfl rfl rfl rfl ti30 rfl rfl rfl rfl rfl (pS rfl (RunC.fin (AWP.sq (AWP.sq (AWP.rgC 72 rfl rfl (pS rfl (pS rfl (RunC.fin (AWP.cd hR rfl (fun h15 hR => ?_) fun h15 hR => ?_))))))))))))))
      ·refine AWP.sq (AWP.rgC 84 rfl rfl (buA (cs := [iV 0, iV 0, bV false, iV 0, iV 0, bV false, iV 0, iV 0, bV false]) rfl ti84 rfl ti33 rfl rfl ?_))
       refine stB (cs' := [iV 0, iV 0, bV false, iV 0, iV 0, bV false, iV 0, iV 0, bV false]) rfl rfl rfl rfl ti84 rfl rfl rfl rfl rfl (pS rfl (RunC.fin (AWP.ret (rtT (rtB (rtT (rtT (rtB (rtT ?_)))))))))
       replace hR := escL hR hE9
       refine rtT ?_
       have hR := Option.some.inj hR; subst hR
       exact hQ _ _ (LS.mk [(4, .ptr 0 0 0), (5, bV false)] (lblks 0 [boxB (α := Bound × Bound × Bound) true (Bound.mk 0 0 false, Bound.mk 0 0 false, Bound.mk 0 0 false)]) 1) (.tup [aggV (α := Bound × Bound × Bound) true (Bound.mk 0 0 false, Bound.mk 0 0 false, Bound.mk 0 0 false), bV false]) [] (.inr rfl) (Weak.turnL [(1, 0)] [] rfl rfl (tc (trP' rfl rfl rfl rfl) (tc (.sc _) tn)) (mc rfl (.box rfl .z9 rfl) mn)) (ro2 (rvC (v := aggV (α := Bound × Bound × Bound) true (Bound.mk 0 0 false, Bound.mk 0 0 false, Bound.mk 0 0 false)) rfl rfl ti84 rfl) (rvT (v := bV false) rfl)) rfl rfl (.tup (.cons ldA (.cons (.sc _) .nil))) pn
      ·refine AWP.skip (skT (AWP.sq (AWP.rgC 84 rfl rfl (ldB (v := .agg _) rfl rfl rfl rfl ti30 rfl rfl ?_))))
       obtain ⟨r16, hr16, hR⟩ := bindE hR
       refine cls [] rfl rfl cb41 (ok41 r14.1 _ hr16) (.cons (.agg .z3 rfl) (.nil)) (.inr rfl) rfl (pS rfl (RunC.fin (AWP.loopJ (fun s17 : (Bound × Bound × Bound) × Int => LS.mk [(2, .ptr 0 0 0), (4, .ptr 1 0 0), (8, .ptr 2 0 0), (9, iV s9.2), (48, slV Int 3 0 0 (([t.Lo, t.Hi] : List Int) ++ ([w6 (r6 * 86400000)] : List Int)).length), (49, iV ((([t.Lo, t.Hi] : List Int) ++ ([w6 (r6 * 86400000)] : List Int)).length : Int)), (50, iV s9.2), (65, aggV (α := Bound × Bound × Bound) true r16), (66, iV s17.2)] (lblks 0 [boxB (α := Body) true b, boxB (α := Bound × Bound × Bound) true (Bound.mk 0 0 false, Bound.mk 0 0 false, Bound.mk 0 0 false), boxB (α := Bound × Bound × Bound) true s17.1, arrB (α := Int) 26 0 true (([t.Lo, t.Hi] : List Int) ++ ([w6 (r6 * 86400000)] : List Int))]) 4) (fun z18 : (Bound × Bound × Bound) => LS.mk [(2, .ptr 0 0 0), (4, .ptr 1 0 0), (8, .ptr 2 0 0), (48, slV Int 3 0 0 (([t.Lo, t.Hi] : List Int) ++ ([w6 (r6 * 86400000)] : List Int)).length), (49, iV ((([t.Lo, t.Hi] : List Int) ++ ([w6 (r6 * 86400000)] : List Int)).length : Int)), (50, iV s9.2)] (lblks 0 [boxB (α := Body) true b, boxB (α := Bound × Bound × Bound) true (Bound.mk 0 0 false, Bound.mk 0 0 false, Bound.mk 0 0 false), boxB (α := Bound × Bound × Bound) true z18, arrB (α := Int) 26 0 true (([t.Lo, t.Hi] : List Int) ++ ([w6 (r6 * 86400000)] : List Int))]) 4) (identify_Path.l2 s9 r16) hR (s0 := (s9.1, 0)) (Weak.turnL [(0, 0), (1, 0), (2, 0), (3, 0)] [] rfl rfl (tc (trP' rfl rfl rfl rfl) (tc (trP' rfl rfl rfl rfl) (tc (trP' rfl rfl rfl rfl) (tc (.sc _) (tc (trS' rfl rfl rfl rfl rfl) (tc (.sc _) (tc (.sc _) (tc (.agg .z9 rfl) (tc (.sc _) tn))))))))) (mc rfl (.box rfl (.c3 (.c3 .z2)) rfl) (mc rfl (.box rfl .z9 rfl) (mc rfl (.box rfl .z9 rfl) (mc rfl (btrA' rfl) mn))))) (fun s17 o17 hR => ?_) fun z18 hR => ?_)))
       ·unfold identify_Path.l2 at hR
        refine AWP.sq (AWP.rgC 8 rfl rfl (pS rfl (RunC.fin (AWP.sq (AWP.cd hR rfl (fun h19 hR => ?_) fun h19 hR => ?_)))))
        ·refine AWP.skip (skT (AWP.sq (AWP.block (AWP.sq (AWP.rgC 28 rfl rfl (pS rfl ?_))))))
         obtain ⟨h20, hR⟩ := chkE hR
         refine ixD (α := Bound) (nw := true) (xs := ([r16.1, r16.2.1, r16.2.2] : List Bound)) (v := .agg _) rfl rfl rfl rfl ti84 rfl ti33 h20 rfl rfl rfl ?_
         refine al (cs := [iV 0, iV 0, bV false]) 16 rfl rfl ti33 rfl rfl (pS rfl (stB (cs' := [iV (gt ([r16.1, r16.2.1, r16.2.2] : List Bound) s17.2).Lo, iV (gt ([r16.1, r16.2.1, r16.2.2] : List Bound) s17.2).Hi, bV (gt ([r16.1, r16.2.1, r16.2.2] : List Bound) s17.2).Unknown]) rfl rfl rfl rfl ti33 rfl rfl rfl rfl rfl (RunC.fin (AWP.sq (AWP.sq (AWP.rgC 36 rfl rfl (pS rfl (pS rfl (RunC.fin (AWP.cd hR rfl (fun h21 hR => ?_) fun h21 hR => ?_))))))))))
         ·refine AWP.rgC 52 rfl rfl (pS rfl (ldB (v := .agg _) rfl rfl rfl rfl ti33 rfl rfl ?_))
          obtain ⟨h22, hR⟩ := chkE hR
          refine iaP (o' := 0 + s17.2.toNat * Cl.e Bound + 0) rfl rfl rfl ti84 rfl ti33 h22 rfl ?_
          obtain ⟨v23, ev23, hR⟩ := letE hR
          refine stD (α := Bound) (nw := true) (pre := []) (post := []) (xs := ([s17.1.1, s17.1.2.1, s17.1.2.2] : List Bound)) (m := s17.2.toNat) (off := 0) (ys := [gt v23 0, gt v23 1, gt v23 2]) (y := (gt ([r16.1, r16.2.1, r16.2.2] : List Bound) s17.2)) (cs' := [iV (gt v23 0).Lo, iV (gt v23 0).Hi, bV (gt v23 0).Unknown, iV (gt v23 1).Lo, iV (gt v23 1).Hi, bV (gt v23 1).Unknown, iV (gt v23 2).Lo, iV (gt v23 2).Hi, bV (gt v23 2).Unknown]) rfl rfl rfl rfl rfl rfl (ixlt h22) ti33 rfl rfl rfl rfl (etaS ev23 rfl rfl) rfl rfl (RunC.fin (AWP.rgD 84 [0, 0, 2, 6, 0, 30, 63, 127] ⟨[], [none, none, none, some [2], some [16], none, none, some [2]]⟩ hmix (by kernel_rfl) rfl rfl ?_))
          refine pS rfl (pS rfl ?_)
          obtain ⟨h24, hR⟩ := chkE hR
          refine iaP (o' := 0 + s17.2.toNat * Cl.e Bound + 0) rfl rfl rfl ti84 rfl ti33 h24 rfl (ldD (α := Bound) (nw := true) (pre := []) (post := []) (xs := ([(gt v23 0), (gt v23 1), (gt v23 2)] : List Bound)) (m := s17.2.toNat) (off := 0) (v := .agg _) rfl rfl rfl rfl rfl rfl (ixlt h24) ti33 rfl rfl rfl rfl (ldB (v := .agg _) rfl rfl rfl rfl ti33 rfl rfl ?_))
          obtain ⟨r25, hr25, hR⟩ := bindE hR
          refine cls [] rfl rfl cb46 (ok46 (gt ([(gt v23 0), (gt v23 1), (gt v23 2)] : List Bound) s17.2) (gt ([r16.1, r16.2.1, r16.2.2] : List Bound) s17.2) _ hr25) (.cons (.agg .z3 rfl) (.cons (.agg .z3 rfl) (.nil))) (.inr rfl) rfl (iaP (o' := 0 + s17.2.toNat * Cl.e Bound + 0) rfl rfl rfl ti84 rfl ti33 h24 rfl ?_)
          obtain ⟨v26, ev26, hR⟩ := letE hR
          refine stD (α := Bound) (nw := true) (pre := []) (post := []) (xs := ([(gt v23 0), (gt v23 1), (gt v23 2)] : List Bound)) (m := s17.2.toNat) (off := 0) (ys := [gt v26 0, gt v26 1, gt v26 2]) (y := r25) (cs' := [iV (gt v26 0).Lo, iV (gt v26 0).Hi, bV (gt v26 0).Unknown, iV (gt v26 1).Lo, iV (gt v26 1).Hi, bV (gt v26 1).Unknown, iV (gt v26 2).Lo, iV (gt v26 2).Hi, bV (gt v26 2).Unknown]) rfl rfl rfl rfl rfl rfl (ixlt h24) ti33 rfl rfl rfl rfl (etaS ev26 rfl rfl) rfl rfl (RunC.blk (RunC.fin (AWP.rgC 92 rfl rfl (pS rfl (pS rfl (RunC.fin (⟨((gt v26 0, gt v26 1, gt v26 2), w6 (s17.2 + 1)), (Option.some.inj hR).symm, ?_⟩)))))))
          exact Weak.turnL [(0, 0), (1, 0), (2, 0), (3, 0)] [] rfl rfl (tc (trP' rfl rfl rfl rfl) (tc (trP' rfl rfl rfl rfl) (tc (trP' rfl rfl rfl rfl) (tc (.sc _) (tc (trS' rfl rfl rfl rfl rfl) (tc (.sc _) (tc (.sc _) (tc (.agg .z9 rfl) (tc (.sc _) tn))))))))) (mc rfl (.box rfl (.c3 (.c3 .z2)) rfl) (mc rfl (.box rfl .z9 rfl) (mc rfl (.box rfl .z9 rfl) (mc rfl (btrA' rfl) mn))))
         ·refine AWP.skip (skT (AWP.rgD 68 [0, 0, 2, 6, 0, 30, 63, 127] ⟨[], [none, none, none, some [2], some [16], none, none, some [2]]⟩ hmix (by kernel_rfl) rfl rfl ?_))
          refine pS rfl (pS rfl ?_)
          obtain ⟨h27, hR⟩ := chkE hR
          refine iaP (o' := 0 + s17.2.toNat * Cl.e Bound + 0) rfl rfl rfl ti84 rfl ti33 h27 rfl (ldD (α := Bound) (nw := true) (pre := []) (post := []) (xs := ([s17.1.1, s17.1.2.1, s17.1.2.2] : List Bound)) (m := s17.2.toNat) (off := 0) (v := .agg _) rfl rfl rfl rfl rfl rfl (ixlt h27) ti33 rfl rfl rfl rfl (ldB (v := .agg _) rfl rfl rfl rfl ti33 rfl rfl ?_))
          obtain ⟨r28, hr28, hR⟩ := bindE hR
          refine cls [] rfl rfl cb46 (ok46 (gt ([s17.1.1, s17.1.2.1, s17.1.2.2] : List Bound) s17.2) (gt ([r16.1, r16.2.1, r16.2.2] : List Bound) s17.2) _ hr28) (.cons (.agg .z3 rfl) (.cons (.agg .z3 rfl) (.nil))) (.inr rfl) rfl (iaP (o' := 0 + s17.2.toNat * Cl.e Bound + 0) rfl rfl rfl ti84 rfl ti33 h27 rfl ?_)
          obtain ⟨v29, ev29, hR⟩ := letE hR
          refine stD (α := Bound) (nw := true) (pre := []) (post := []) (xs := ([s17.1.1, s17.1.2.1, s17.1.2.2] : List Bound)) (m := s17.2.toNat) (off := 0) (ys := [gt v29 0, gt v29 1, gt v29 2]) (y := r28) (cs' := [iV (gt v29 0).Lo, iV (gt v29 0).Hi, bV (gt v29 0).Unknown, iV (gt v29 1).Lo, iV (gt v29 1).Hi, bV (gt v29 1).Unknown, iV (gt v29 2).Lo, iV (gt v29 2).Hi, bV (gt v29 2).Unknown]) rfl rfl rfl rfl rfl rfl (ixlt h27) ti33 rfl rfl rfl rfl (etaS ev29 rfl rfl) rfl rfl (RunC.blk (RunC.fin (AWP.rgC 76 rfl rfl (pS rfl (pS rfl (RunC.fin (⟨((gt v29 0, gt v29 1, gt v29 2), w6 (s17.2 + 1)), (Option.some.inj hR).symm, ?_⟩)))))))
          exact Weak.turnL [(0, 0), (1, 0), (2, 0), (3, 0)] [] rfl rfl (tc (trP' rfl rfl rfl rfl) (tc (trP' rfl rfl rfl rfl) (tc (trP' rfl rfl rfl rfl) (tc (.sc _) (tc (trS' rfl rfl rfl rfl rfl) (tc (.sc _) (tc (.sc _) (tc (.agg .z9 rfl) (tc (.sc _) tn))))))))) (mc rfl (.box rfl (.c3 (.c3 .z2)) rfl) (mc rfl (.box rfl .z9 rfl) (mc rfl (.box rfl .z9 rfl) (mc rfl (btrA' rfl) mn))))
        ·refine AWP.exit (exT (exT (exH (skT (⟨s17.1, (Option.some.inj hR).symm, ?_⟩)))))
         exact Weak.turnL [(0, 0), (1, 0), (2, 0), (3, 0)] [] rfl rfl (tc (trP' rfl rfl rfl rfl) (tc (trP' rfl rfl rfl rfl) (tc (trP' rfl rfl rfl rfl) (tc (trS' rfl rfl rfl rfl rfl) (tc (.sc _) (tc (.sc _) tn)))))) (mc rfl (.box rfl (.c3 (.c3 .z2)) rfl) (mc rfl (.box rfl .z9 rfl) (mc rfl (.box rfl .z9 rfl) (mc rfl (btrA' rfl) mn))))
       ·refine skB ?_
        refine skT (AWP.rgC 12 rfl rfl (pS rfl (pS rfl (RunC.fin (⟨(z18, w6 (s9.2 + 1)), (Option.some.inj hR).symm, ?_⟩)))))
        exact Weak.turnL [(0, 0), (1, 0), (2, 0), (3, 0)] [] rfl rfl (tc (trP' rfl rfl rfl rfl) (tc (trP' rfl rfl rfl rfl) (tc (trP' rfl rfl rfl rfl) (tc (trS' rfl rfl rfl rfl rfl) (tc (.sc _) (tc (.sc _) tn)))))) (mc rfl (.box rfl (.c3 (.c3 .z2)) rfl) (mc rfl (.box rfl .z9 rfl) (mc rfl (.box rfl .z9 rfl) (mc rfl (btrA' rfl) mn))))
     ·refine AWP.exit (exT (exT (exH (skT (⟨s9.1, (Option.some.inj hR).symm, ?_⟩)))))
      exact Weak.turnL [(1, 0), (2, 0)] [] rfl rfl (tc (trP' rfl rfl rfl rfl) (tc (trP' rfl rfl rfl rfl) tn)) (mc rfl (.box rfl .z9 rfl) (mc rfl (.box rfl .z9 rfl) mn))
    ·refine skT (AWP.sq (AWP.rgC 14 rfl rfl (ldB (v := .agg _) rfl rfl rfl rfl ti84 rfl rfl (stB (cs' := [iV z10.1.Lo, iV z10.1.Hi, bV z10.1.Unknown, iV z10.2.1.Lo, iV z10.2.1.Hi, bV z10.2.1.Unknown, iV z10.2.2.Lo, iV z10.2.2.Hi, bV z10.2.2.Unknown]) rfl rfl rfl rfl ti84 rfl rfl rfl rfl rfl (pS rfl (RunC.fin (AWP.ret ?_)))))))
     have hR := Option.some.inj hR; subst hR
     exact hQ _ _ (LS.mk [(4, .ptr 0 0 0), (5, bV true)] (lblks 0 [boxB (α := Bound × Bound × Bound) true z10]) 1) (.tup [aggV (α := Bound × Bound × Bound) true z10, bV true]) [] (.inr rfl) (Weak.turnL [(0, 0)] [] rfl rfl (tc (trP' rfl rfl rfl rfl) (tc (.sc _) tn)) (mc rfl (.box rfl .z9 rfl) mn)) (ro2 (rvC (v := aggV (α := Bound × Bound × Bound) true z10) rfl rfl ti84 rfl) (rvT (v := bV true) rfl)) rfl rfl (.tup (.cons ldA (.cons (.sc _) .nil))) pn
   ·refine AWP.skip (skT (AWP.sq (AWP.rgC 67 rfl rfl (al (cs := [iV 0, iV 0, bV false, iV 0, iV 0, bV false, iV 0, iV 0, bV false]) 63 rfl rfl ti84 rfl rfl (RunC.fin (AWP.sq (AWP.sq (AWP.rgC 79 rfl rfl (pu (v := slV Int _ _ _ _) rfl rfl (fun _ => rfl) (lenS (α := Int) rfl rfl ti119 rfl ?_))))))))))
    refine pS rfl (RunC.fin (AWP.loopK' (fun s30 : (Bound × Bound × Bound) × Int => LS.mk [(2, .ptr 0 0 0), (4, .ptr 1 0 0), (8, .ptr 2 0 0), (48, slV Int 3 0 0 ([t.Lo, t.Hi] : List Int).length), (49, iV (([t.Lo, t.Hi] : List Int).length : Int)), (50, iV s30.2)] (lblks 0 [boxB (α := Body) true b, boxB (α := Bound × Bound × Bound) true (Bound.mk 0 0 false, Bound.mk 0 0 false, Bound.mk 0 0 false), boxB (α := Bound × Bound × Bound) true s30.1, arrB (α := Int) 26 0 true ([t.Lo, t.Hi] : List Int)]) 4) (fun z31 : (Bound × Bound × Bound) => LS.mk [(4, .ptr 0 0 0), (8, .ptr 1 0 0)] (lblks 0 [boxB (α := Bound × Bound × Bound) true (Bound.mk 0 0 false, Bound.mk 0 0 false, Bound.mk 0 0 false), boxB (α := Bound × Bound × Bound) true z31]) 2) (identify_Path.l3 b t) hR (s0 := ((Bound.mk 0 0 false, Bound.mk 0 0 false, Bound.mk 0 0 false), 0)) (Weak.turnL [(0, 0), (2, 0), (63, 0), (19, 0)] [] rfl rfl (tc (trP' rfl rfl rfl rfl) (tc (trP' rfl rfl rfl rfl) (tc (trP' rfl rfl rfl rfl) (tc (trS' rfl rfl rfl rfl rfl) (tc (.sc _) (tc (.sc _) tn)))))) (mc rfl (.box rfl (.c3 (.c3 .z2)) rfl) (mc rfl (.box rfl .z9 rfl) (mc rfl (.box rfl .z9 rfl) (mc rfl (btrA' rfl) mn))))) (fun s30 o30 hR hE30 => ?_) fun z31 hR => ?_))
    ·unfold identify_Path.l3 at hR
     refine AWP.sq (AWP.rgC 8 rfl rfl (pS rfl (RunC.fin (AWP.sq (AWP.cd hR rfl (fun h32 hR => ?_) fun h32 hR => ?_)))))
     ·refine AWP.skip (skT (AWP.sq (AWP.block (AWP.sq (AWP.rgC 28 rfl rfl (pS rfl ?_))))))
      obtain ⟨h33, hR⟩ := chkE hR
      refine ixS0 (α := Int) rfl rfl rfl ti119 rfl ti26 rfl h33 ?_
      refine ldE (α := Int) (v := .sc _) rfl rfl rfl (ixlt h33) ti26 rfl rfl rfl rfl ?_
      refine pS rfl (pS rfl (RunC.fin (AWP.sq (AWP.rgC 64 rfl rfl (ldB (v := .agg _) rfl rfl rfl rfl ti53 rfl rfl (pS rfl ?_))))))
      obtain ⟨r34, hr34, hR⟩ := bindE hR
      refine cls [] rfl rfl cb56 (ok56 b (gt ([t.Lo, t.Hi] : List Int) s30.2) _ hr34) (.cons (.agg (.c3 (.c3 .z2)) rfl) (.cons (.sc _) .nil)) (.inr rfl) rfl (pu (v := .tup _) rfl rfl (fun _ => rfl) (pu (v := .agg _) rfl rfl (fun _ => rfl) (pS rfl (al (cs := [iV 0, iV 0, iV 0]) 52 rfl rfl ti30 rfl rfl (stB (cs' := [iV r34.1.X, iV r34.1.Y, iV r34.1.Z]) rfl rfl rfl rfl ti30 rfl rfl rfl rfl rfl (pS rfl (RunC.fin (AWP.sq (AWP.sq (AWP.rgC 72 rfl rfl (pS rfl (pS rfl (RunC.fin (AWP.cd hR rfl (fun h35 hR => ?_) fun h35 hR => ?_))))))))))))))
      ·refine AWP.sq (AWP.rgC 84 rfl rfl (buA (cs := [iV 0, iV 0, bV false, iV 0, iV 0, bV false, iV 0, iV 0, bV false]) rfl ti84 rfl ti33 rfl rfl ?_))
       refine stB (cs' := [iV 0, iV 0, bV false, iV 0, iV 0, bV false, iV 0, iV 0, bV false]) rfl rfl rfl rfl ti84 rfl rfl rfl rfl rfl (pS rfl (RunC.fin (AWP.ret (rtT (rtB (rtT (rtT (rtB (rtT ?_)))))))))
       replace hR := escL hR hE30
       refine rtT ?_
       have hR := Option.some.inj hR; subst hR
       exact hQ _ _ (LS.mk [(4, .ptr 0 0 0), (5, bV false)] (lblks 0 [boxB (α := Bound × Bound × Bound) true (Bound.mk 0 0 false, Bound.mk 0 0 false, Bound.mk 0 0 false)]) 1) (.tup [aggV (α := Bound × Bound × Bound) true (Bound.mk 0 0 false, Bound.mk 0 0 false, Bound.mk 0 0 false), bV false]) [] (.inr rfl) (Weak.turnL [(1, 0)] [] rfl rfl (tc (trP' rfl rfl rfl rfl) (tc (.sc _) tn)) (mc rfl (.box rfl .z9 rfl) mn)) (ro2 (rvC (v := aggV (α := Bound × Bound × Bound) true (Bound.mk 0 0 false, Bound.mk 0 0 false, Bound.mk 0 0 false)) rfl rfl ti84 rfl) (rvT (v := bV false) rfl)) rfl rfl (.tup (.cons ldA (.cons (.sc _) .nil))) pn
      ·refine AWP.skip (skT (AWP.sq (AWP.rgC 84 rfl rfl (ldB (v := .agg _) rfl rfl rfl rfl ti30 rfl rfl ?_))))
       obtain ⟨r36, hr36, hR⟩ := bindE hR
       refine cls [] rfl rfl cb41 (ok41 r34.1 _ hr36) (.cons (.agg .z3 rfl) (.nil)) (.inr rfl) rfl (pS rfl (RunC.fin (AWP.loopJ (fun s37 : (Bound × Bound × Bound) × Int => LS.mk [(2, .ptr 0 0 0), (4, .ptr 1 0 0), (8, .ptr 2 0 0), (9, iV s30.2), (48, slV Int 3 0 0 ([t.Lo, t.Hi] : List Int).length), (49, iV (([t.Lo, t.Hi] : List Int).length : Int)), (50, iV s30.2), (65, aggV (α := Bound × Bound × Bound) true r36), (66, iV s37.2)] (lblks 0 [boxB (α := Body) true b, boxB (α := Bound × Bound × Bound) true (Bound.mk 0 0 false, Bound.mk 0 0 false, Bound.mk 0 0 false), boxB (α := Bound × Bound × Bound) true s37.1, arrB (α := Int) 26 0 true ([t.Lo, t.Hi] : List Int)]) 4) (fun z38 : (Bound × Bound × Bound) => LS.mk [(2, .ptr 0 0 0), (4, .ptr 1 0 0), (8, .ptr 2 0 0), (48, slV Int 3 0 0 ([t.Lo, t.Hi] : List Int).length), (49, iV (([t.Lo, t.Hi] : List Int).length : Int)), (50, iV s30.2)] (lblks 0 [boxB (α := Body) true b, boxB (α := Bound × Bound × Bound) true (Bound.mk 0 0 false, Bound.mk 0 0 false, Bound.mk 0 0 false), boxB (α := Bound × Bound × Bound) true z38, arrB (α := Int) 26 0 true ([t.Lo, t.Hi] : List Int)]) 4) (identify_Path.l4 s30 r36) hR (s0 := (s30.1, 0)) (Weak.turnL [(0, 0), (1, 0), (2, 0), (3, 0)] [] rfl rfl (tc (trP' rfl rfl rfl rfl) (tc (trP' rfl rfl rfl rfl) (tc (trP' rfl rfl rfl rfl) (tc (.sc _) (tc (trS' rfl rfl rfl rfl rfl) (tc (.sc _) (tc (.sc _) (tc (.agg .z9 rfl) (tc (.sc _) tn))))))))) (mc rfl (.box rfl (.c3 (.c3 .z2)) rfl) (mc rfl (.box rfl .z9 rfl) (mc rfl (.box rfl .z9 rfl) (mc rfl (btrA' rfl) mn))))) (fun s37 o37 hR => ?_) fun z38 hR => ?_)))
       ·unfold identify_Path.l4 at hR
        refine AWP.sq (AWP.rgC 8 rfl rfl (pS rfl (RunC.fin (AWP.sq (AWP.cd hR rfl (fun h39 hR => ?_) fun h39 hR => ?_)))))
        ·refine AWP.skip (skT (AWP.sq (AWP.block (AWP.sq (AWP.rgC 28 rfl rfl (pS rfl ?_))))))
         obtain ⟨h40, hR⟩ := chkE hR
         refine ixD (α := Bound) (nw := true) (xs := ([r36.1, r36.2.1, r36.2.2] : List Bound)) (v := .agg _) rfl rfl rfl rfl ti84 rfl ti33 h40 rfl rfl rfl ?_
         refine al (cs := [iV 0, iV 0, bV false]) 16 rfl rfl ti33 rfl rfl (pS rfl (stB (cs' := [iV (gt ([r36.1, r36.2.1, r36.2.2] : List Bound) s37.2).Lo, iV (gt ([r36.1, r36.2.1, r36.2.2] : List Bound) s37.2).Hi, bV (gt ([r36.1, r36.2.1, r36.2.2] : List Bound) s37.2).Unknown]) rfl rfl rfl rfl ti33 rfl rfl rfl rfl rfl (RunC.fin (AWP.sq (AWP.sq (AWP.rgC 36 rfl rfl (pS rfl (pS rfl (RunC.fin (AWP.cd hR rfl (fun h41 hR => ?_) fun h41 hR => ?_))))))))))
         ·refine AWP.rgC 52 rfl rfl (pS rfl (ldB (v := .agg _) rfl rfl rfl rfl ti33 rfl rfl ?_))
          obtain ⟨h42, hR⟩ := chkE hR
          refine iaP (o' := 0 + s37.2.toNat * Cl.e Bound + 0) rfl rfl rfl ti84 rfl ti33 h42 rfl ?_
          obtain ⟨v43, ev43, hR⟩ := letE hR
          refine stD (α := Bound) (nw := true) (pre := []) (post := []) (xs := ([s37.1.1, s37.1.2.1, s37.1.2.2] : List Bound)) (m := s37.2.toNat) (off := 0) (ys := [gt v43 0, gt v43 1, gt v43 2]) (y := (gt ([r36.1, r36.2.1, r36.2.2] : List Bound) s37.2)) (cs' := [iV (gt v43 0).Lo, iV (gt v43 0).Hi, bV (gt v43 0).Unknown, iV (gt v43 1).Lo, iV (gt v43 1).Hi, bV (gt v43 1).Unknown, iV (gt v43 2).Lo, iV (gt v43 2).Hi, bV (gt v43 2).Unknown]) rfl rfl rfl rfl rfl rfl (ixlt h42) ti33 rfl rfl rfl rfl (etaS ev43 rfl rfl) rfl rfl (RunC.fin (AWP.rgD 84 [0, 0, 2, 6, 0, 30, 63, 127] ⟨[], [none, none, none, some [2], some [16], none, none, some [2]]⟩ hmix (by kernel_rfl) rfl rfl ?_))
          refine pS rfl (pS rfl ?_)
          obtain ⟨h44, hR⟩ := chkE hR
          refine iaP (o' := 0 + s37.2.toNat * Cl.e Bound + 0) rfl rfl rfl ti84 rfl ti33 h44 rfl (ldD (α := Bound) (nw := true) (pre := []) (post := []) (xs := ([(gt v43 0), (gt v43 1), (gt v43 2)] : List Bound)) (m := s37.2.toNat) (off := 0) (v := .agg _) rfl rfl rfl rfl rfl rfl (ixlt h44) ti33 rfl rfl rfl rfl (ldB (v := .agg _) rfl rfl rfl rfl ti33 rfl rfl ?_))
          obtain ⟨r45, hr45, hR⟩ := bindE hR
          refine cls [] rfl rfl cb46 (ok46 (gt ([(gt v43 0), (gt v43 1), (gt v43 2)] : List Bound) s37.2) (gt ([r36.1, r36.2.1, r36.2.2] : List Bound) s37.2) _ hr45) (.cons (.agg .z3 rfl) (.cons (.agg .z3 rfl) (.nil))) (.inr rfl) rfl (iaP (o' := 0 + s37.2.toNat * Cl.e Bound + 0) rfl rfl rfl ti84 rfl ti33 h44 rfl ?_)
          obtain ⟨v46, ev46, hR⟩ := letE hR
          refine stD (α := Bound) (nw := true) (pre := []) (post := []) (xs := ([(gt v43 0), (gt v43 1), (gt v43 2)] : List Bound)) (m := s37.2.toNat) (off := 0) (ys := [gt v46 0, gt v46 1, gt v46 2]) (y := r45) (cs' := [iV (gt v46 0).Lo, iV (gt v46 0).Hi, bV (gt v46 0).Unknown, iV (gt v46 1).Lo, iV (gt v46 1).Hi, bV (gt v46 1).Unknown, iV (gt v46 2).Lo, iV (gt v46 2).Hi, bV (gt v46 2).Unknown]) rfl rfl rfl rfl rfl rfl (ixlt h44) ti33 rfl rfl rfl rfl (etaS ev46 rfl rfl) rfl rfl (RunC.blk (RunC.fin (AWP.rgC 92 rfl rfl (pS rfl (pS rfl (RunC.fin (⟨((gt v46 0, gt v46 1, gt v46 2), w6 (s37.2 + 1)), (Option.some.inj hR).symm, ?_⟩)))))))
          exact Weak.turnL [(0, 0), (1, 0), (2, 0), (3, 0)] [] rfl rfl (tc (trP' rfl rfl rfl rfl) (tc (trP' rfl rfl rfl rfl) (tc (trP' rfl rfl rfl rfl) (tc (.sc _) (tc (trS' rfl rfl rfl rfl rfl) (tc (.sc _) (tc (.sc _) (tc (.agg .z9 rfl) (tc (.sc _) tn))))))))) (mc rfl (.box rfl (.c3 (.c3 .z2)) rfl) (mc rfl (.box rfl .z9 rfl) (mc rfl (.box rfl .z9 rfl) (mc rfl (btrA' rfl) mn))))
         ·refine AWP.skip (skT (AWP.rgD 68 [0, 0, 2, 6, 0, 30, 63, 127] ⟨[], [none, none, none, some [2], some [16], none, none, some [2]]⟩ hmix (by kernel_rfl) rfl rfl ?_))
          refine pS rfl (pS rfl ?_)
          obtain ⟨h47, hR⟩ := chkE hR
          refine iaP (o' := 0 + s37.2.toNat * Cl.e Bound + 0) rfl rfl rfl ti84 rfl ti33 h47 rfl (ldD (α := Bound) (nw := true) (pre := []) (post := []) (xs := ([s37.1.1, s37.1.2.1, s37.1.2.2] : List Bound)) (m := s37.2.toNat) (off := 0) (v := .agg _) rfl rfl rfl rfl rfl rfl (ixlt h47) ti33 rfl rfl rfl rfl (ldB (v := .agg _) rfl rfl rfl rfl ti33 rfl rfl ?_))
          obtain ⟨r48, hr48, hR⟩ := bindE hR
          refine cls [] rfl rfl cb46 (ok46 (gt ([s37.1.1, s37.1.2.1, s37.1.2.2] : List Bound) s37.2) (gt ([r36.1, r36.2.1, r36.2.2] : List Bound) s37.2) _ hr48) (.cons (.agg .z3 rfl) (.cons (.agg .z3 rfl) (.nil))) (.inr rfl) rfl (iaP (o' := 0 + s37.2.toNat * Cl.e Bound + 0) rfl rfl rfl ti84 rfl ti33 h47 rfl ?_)
          obtain ⟨v49, ev49, hR⟩ := letE hR
          refine stD (α := Bound) (nw := true) (pre := []) (post := []) (xs := ([s37.1.1, s37.1.2.1, s37.1.2.2] : List Bound)) (m := s37.2.toNat) (off := 0) (ys := [gt v49 0, gt v49 1, gt v49 2]) (y := r48) (cs' := [iV (gt v49 0).Lo, iV (gt v49 0).Hi, bV (gt v49 0).Unknown, iV (gt v49 1).Lo, iV (gt v49 1).Hi, bV (gt v49 1).Unknown, iV (gt v49 2).Lo, iV (gt v49 2).Hi, bV (gt v49 2).Unknown]) rfl rfl rfl rfl rfl rfl (ixlt h47) ti33 rfl rfl rfl rfl (etaS ev49 rfl rfl) rfl rfl (RunC.blk (RunC.fin (AWP.rgC 76 rfl rfl (pS rfl (pS rfl (RunC.fin (⟨((gt v49 0, gt v49 1, gt v49 2), w6 (s37.2 + 1)), (Option.some.inj hR).symm, ?_⟩)))))))
          exact Weak.turnL [(0, 0), (1, 0), (2, 0), (3, 0)] [] rfl rfl (tc (trP' rfl rfl rfl rfl) (tc (trP' rfl rfl rfl rfl) (tc (trP' rfl rfl rfl rfl) (tc (.sc _) (tc (trS' rfl rfl rfl rfl rfl) (tc (.sc _) (tc (.sc _) (tc (.agg .z9 rfl) (tc (.sc _) tn))))))))) (mc rfl (.box rfl (.c3 (.c3 .z2)) rfl) (mc rfl (.box rfl .z9 rfl) (mc rfl (.box rfl .z9 rfl) (mc rfl (btrA' rfl) mn))))
        ·refine AWP.exit (exT (exT (exH (skT (⟨s37.1, (Option.some.inj hR).symm, ?_⟩)))))
         exact Weak.turnL [(0, 0), (1, 0), (2, 0), (3, 0)] [] rfl rfl (tc (trP' rfl rfl rfl rfl) (tc (trP' rfl rfl rfl rfl) (tc (trP' rfl rfl rfl rfl) (tc (trS' rfl rfl rfl rfl rfl) (tc (.sc _) (tc (.sc _) tn)))))) (mc rfl (.box rfl (.c3 (.c3 .z2)) rfl) (mc rfl (.box rfl .z9 rfl) (mc rfl (.box rfl .z9 rfl) (mc rfl (btrA' rfl) mn))))
       ·refine skB ?_
        refine skT (AWP.rgC 12 rfl rfl (pS rfl (pS rfl (RunC.fin (⟨(z38, w6 (s30.2 + 1)), (Option.some.inj hR).symm, ?_⟩)))))
        exact Weak.turnL [(0, 0), (1, 0), (2, 0), (3, 0)] [] rfl rfl (tc (trP' rfl rfl rfl rfl) (tc (trP' rfl rfl rfl rfl) (tc (trP' rfl rfl rfl rfl) (tc (trS' rfl rfl rfl rfl rfl) (tc (.sc _) (tc (.sc _) tn)))))) (mc rfl (.box rfl (.c3 (.c3 .z2)) rfl) (mc rfl (.box rfl .z9 rfl) (mc rfl (.box rfl .z9 rfl) (mc rfl (btrA' rfl) mn))))
     ·refine AWP.exit (exT (exT (exH (skT (⟨s30.1, (Option.some.inj hR).symm, ?_⟩)))))
      exact Weak.turnL [(1, 0), (2, 0)] [] rfl rfl (tc (trP' rfl rfl rfl rfl) (tc (trP' rfl rfl rfl rfl) tn)) (mc rfl (.box rfl .z9 rfl) (mc rfl (.box rfl .z9 rfl) mn))
    ·refine skT (AWP.sq (AWP.rgC 14 rfl rfl (ldB (v := .agg _) rfl rfl rfl rfl ti84 rfl rfl (stB (cs' := [iV z31.1.Lo, iV z31.1.Hi, bV z31.1.Unknown, iV z31.2.1.Lo, iV z31.2.1.Hi, bV z31.2.1.Unknown, iV z31.2.2.Lo, iV z31.2.2.Hi, bV z31.2.2.Unknown]) rfl rfl rfl rfl ti84 rfl rfl rfl rfl rfl (pS rfl (RunC.fin (AWP.ret ?_)))))))
     have hR := Option.some.inj hR; subst hR
     exact hQ _ _ (LS.mk [(4, .ptr 0 0 0), (5, bV true)] (lblks 0 [boxB (α := Bound × Bound × Bound) true z31]) 1) (.tup [aggV (α := Bound × Bound × Bound) true z31, bV true]) [] (.inr rfl) (Weak.turnL [(0, 0)] [] rfl rfl (tc (trP' rfl rfl rfl rfl) (tc (.sc _) tn)) (mc rfl (.box rfl .z9 rfl) mn)) (ro2 (rvC (v := aggV (α := Bound × Bound × Bound) true z31) rfl rfl ti84 rfl) (rvT (v := bV true) rfl)) rfl rfl (.tup (.cons ldA (.cons (.sc _) .nil))) pn
theorem ok62 (b : Bound) (r : Bound) (hR : bound_Neg b = some r) : FnP Tryz.prog 62 [aggV false b] (aggV (α := Bound) true r) := by
 refine fnP_of (FnX.walk Tryz.func62 rfl 14 0 (by simp [Tryz.ntmps62]) rfl fun W S F Q hQ => ?_)
 unfold bound_Neg at hR
 refine AWP.sq (AWP.rgC 8 rfl rfl (bx (cs := _) 0 rfl rfl rfl (al (cs := [iV 0, iV 0, bV false]) 4 rfl rfl ti33 rfl rfl (RunC.fin (AWP.sq (AWP.rgC 20 rfl rfl (ldB (v := .agg _) rfl rfl rfl rfl ti33 rfl rfl ?_)))))))
 obtain ⟨r1, hr1, hR⟩ := bindE hR
 refine cls [] rfl rfl cb86 (ok86 b _ hr1) (.cons (.agg .z3 rfl) (.nil)) (.inr rfl) rfl (stB (cs' := [iV r1.Lo, iV r1.Hi, bV r1.Unknown]) rfl rfl rfl rfl ti33 rfl rfl rfl rfl rfl (RunC.fin (AWP.sq (AWP.rgC 60 rfl rfl (fa rfl rfl ti33 rfl rfl ti31 rfl (ldB (v := .sc _) rfl rfl rfl rfl ti31 rfl rfl (pS rfl (fa rfl rfl ti33 rfl rfl ti31 rfl (ldB (v := .sc _) rfl rfl rfl rfl ti31 rfl rfl (pS rfl (fa rfl rfl ti33 rfl rfl ti31 rfl (stB (cs' := [iV (w6 (0 - r1.Hi)), iV r1.Hi, bV r1.Unknown]) rfl rfl rfl rfl ti31 rfl rfl rfl rfl rfl (fa rfl rfl ti33 rfl rfl ti31 rfl (stB (cs' := [iV (w6 (0 - r1.Hi)), iV (w6 (0 - r1.Lo)), bV r1.Unknown]) rfl rfl rfl rfl ti31 rfl rfl rfl rfl rfl (RunC.fin (AWP.sq ?_))))))))))))))))
 refine AWP.rgC 68 rfl rfl (ldB (v := .agg _) rfl rfl rfl rfl ti33 rfl rfl (stB (cs' := [iV (w6 (0 - r1.Hi)), iV (w6 (0 - r1.Lo)), bV r1.Unknown]) rfl rfl rfl rfl ti33 rfl rfl rfl rfl rfl (RunC.fin (AWP.ret ?_))))
 have hR := Option.some.inj hR; subst hR
 exact hQ _ _ (LS.mk [(2, .ptr 0 0 0)] (lblks 0 [boxB (α := Bound) true (Bound.mk (w6 (0 - r1.Hi)) (w6 (0 - r1.Lo)) r1.Unknown)]) 1) (aggV (α := Bound) true (Bound.mk (w6 (0 - r1.Hi)) (w6 (0 - r1.Lo)) r1.Unknown)) [] (.inr rfl) (Weak.turnL [(4, 0)] [] rfl rfl (tc (trP' rfl rfl rfl rfl) tn) (mc rfl (.box rfl .z3 rfl) mn)) (ro1 (rvC (v := aggV (α := Bound) true (Bound.mk (w6 (0 - r1.Hi)) (w6 (0 - r1.Lo)) r1.Unknown)) rfl rfl ti33 rfl)) rfl rfl ldA pn
theorem ok57 (a : Bound) (b : Bound) (r : Bound) (hR : bound_Add a b = some r) : FnP Tryz.prog 57 [aggV false a, aggV false b] (aggV (α := Bound) true r) := by
 refine fnP_of (FnX.walk Tryz.func57 rfl 20 0 (by simp [Tryz.ntmps57]) rfl fun W S F Q hQ => ?_)
 unfold bound_Add at hR
 refine AWP.sq (AWP.rgC 12 rfl rfl (bx (cs := _) 0 rfl rfl rfl (bx (cs := _) 4 rfl rfl rfl (al (cs := [iV 0, iV 0, bV false]) 8 rfl rfl ti33 rfl rfl (RunC.fin (AWP.sq (AWP.sq (AWP.rgC 24 rfl rfl (ldB (v := .agg _) rfl rfl rfl rfl ti33 rfl rfl (ldB (v := .agg _) rfl rfl rfl rfl ti33 rfl rfl ?_))))))))))
 obtain ⟨r1, hr1, hR⟩ := bindE hR
 refine cls [] rfl rfl cb67 (ok67 a b _ hr1) (.cons (.agg .z3 rfl) (.cons (.agg .z3 rfl) (.nil))) (.inr rfl) rfl (RunC.fin (AWP.cd hR rfl (fun h2 hR => ?_) fun h2 hR => ?_))
 ·refine AWP.sq (AWP.rgC 32 rfl rfl ?_)
  obtain ⟨r3, hr3, hR⟩ := bindE hR
  refine cls [] rfl rfl cb45 (ok45 _ hr3) (.nil) (.inr rfl) rfl (stB (cs' := [iV r3.Lo, iV r3.Hi, bV r3.Unknown]) rfl rfl rfl rfl ti33 rfl rfl rfl rfl rfl (RunC.fin (AWP.ret (rtT ?_))))
  have hR := Option.some.inj hR; subst hR
  exact hQ _ _ (LS.mk [(4, .ptr 0 0 0)] (lblks 0 [boxB (α := Bound) true r3]) 1) (aggV (α := Bound) true r3) [] (.inr rfl) (Weak.turnL [(8, 0)] [] rfl rfl (tc (trP' rfl rfl rfl rfl) tn) (mc rfl (.box rfl .z3 rfl) mn)) (ro1 (rvC (v := aggV (α := Bound) true r3) rfl rfl ti33 rfl)) rfl rfl ldA pn
 ·refine AWP.skip (skT (AWP.sq (AWP.rgC 72 rfl rfl (fa rfl rfl ti33 rfl rfl ti31 rfl (ldB (v := .sc _) rfl rfl rfl rfl ti31 rfl rfl (fa rfl rfl ti33 rfl rfl ti31 rfl (ldB (v := .sc _) rfl rfl rfl rfl ti31 rfl rfl (pS rfl (fa rfl rfl ti33 rfl rfl ti31 rfl (ldB (v := .sc _) rfl rfl rfl rfl ti31 rfl rfl (fa rfl rfl ti33 rfl rfl ti31 rfl (ldB (v := .sc _) rfl rfl rfl rfl ti31 rfl rfl (pS rfl ?_)))))))))))))
  obtain ⟨r4, hr4, hR⟩ := bindE hR
  refine cls [] rfl rfl cb68 (ok68 (w6 (a.Lo + b.Lo)) (w6 (a.Hi + b.Hi)) _ hr4) .z2 (.inr rfl) rfl (stB (cs' := [iV r4.Lo, iV r4.Hi, bV r4.Unknown]) rfl rfl rfl rfl ti33 rfl rfl rfl rfl rfl (RunC.fin (AWP.ret ?_)))
  have hR := Option.some.inj hR; subst hR
  exact hQ _ _ (LS.mk [(4, .ptr 0 0 0)] (lblks 0 [boxB (α := Bound) true r4]) 1) (aggV (α := Bound) true r4) [] (.inr rfl) (Weak.turnL [(8, 0)] [] rfl rfl (tc (trP' rfl rfl rfl rfl) tn) (mc rfl (.box rfl .z3 rfl) mn)) (ro1 (rvC (v := aggV (α := Bound) true r4) rfl rfl ti33 rfl)) rfl rfl ldA pn
theorem ok43 (a : Bound) (b : Bound) (r : Bound) (hR : bound_Sub a b = some r) : FnP Tryz.prog 43 [aggV false a, aggV false b] (aggV (α := Bound) true r) := by
 refine fnP_of (FnX.walk Tryz.func43 rfl 9 0 (by simp [Tryz.ntmps43]) rfl fun W S F Q hQ => ?_)
 unfold bound_Sub at hR
 refine AWP.sq (AWP.rgC 12 rfl rfl (bx (cs := _) 0 rfl rfl rfl (bx (cs := _) 4 rfl rfl rfl (al (cs := [iV 0, iV 0, bV false]) 8 rfl rfl ti33 rfl rfl (RunC.fin (AWP.sq (AWP.rgD 32 [0, 0, 2, 7, 15] ⟨[], [some [0], some [4], none, none, some [8]]⟩ hmix (by kernel_rfl) rfl rfl ?_)))))))
 refine ldB (v := .agg _) rfl rfl rfl rfl ti33 rfl rfl (ldB (v := .agg _) rfl rfl rfl rfl ti33 rfl rfl ?_)
 obtain ⟨r1, hr1, hR⟩ := bindE hR
 refine cls [] rfl rfl cb62 (ok62 b _ hr1) (.cons (.agg .z3 rfl) (.nil)) (.inr rfl) rfl ?_
 obtain ⟨r2, hr2, hR⟩ := bindE hR
 refine cls [] rfl rfl cb57 (ok57 a r1 _ hr2) (.cons (.agg .z3 rfl) (.cons (.agg .z3 rfl) (.nil))) (.inr rfl) rfl (stB (cs' := [iV r2.Lo, iV r2.Hi, bV r2.Unknown]) rfl rfl rfl rfl ti33 rfl rfl rfl rfl rfl (RunC.fin (AWP.ret ?_)))
 have hR := Option.some.inj hR; subst hR
 exact hQ _ _ (LS.mk [(4, .ptr 0 0 0)] (lblks 0 [boxB (α := Bound) true r2]) 1) (aggV (α := Bound) true r2) [] (.inr rfl) (Weak.turnL [(8, 0)] [] rfl rfl (tc (trP' rfl rfl rfl rfl) tn) (mc rfl (.box rfl .z3 rfl) mn)) (ro1 (rvC (v := aggV (α := Bound) true r2) rfl rfl ti33 rfl)) rfl rfl ldA pn
theorem ok35 (from_ : Vec) (p : Bound × Bound × Bound) (r : Box) (hR : identify_box from_ p = some r) : FnP Tryz.prog 35 [aggV false from_, aggV false p] (aggV (α := Box) true r) := by
 refine fnP_of (FnX.walk Tryz.func35 rfl 24 0 (by simp [Tryz.ntmps35]) rfl fun W S F Q hQ => ?_)
 unfold identify_box at hR
 refine AWP.sq (AWP.rgC 12 rfl rfl (bx (cs := _) 0 rfl rfl rfl (bx (cs := _) 4 rfl rfl rfl (al (cs := [iV 0, iV 0, bV false, iV 0, iV 0, bV false, iV 0, iV 0, bV false]) 8 rfl rfl ti35 rfl rfl (RunC.fin (AWP.sq (AWP.rgC 28 rfl rfl (ldB (v := .agg _) rfl rfl rfl rfl ti30 rfl rfl ?_))))))))
 obtain ⟨r1, hr1, hR⟩ := bindE hR
 refine cls [] rfl rfl cb41 (ok41 from_ _ hr1) (.cons (.agg .z3 rfl) (.nil)) (.inr rfl) rfl (al (cs := [iV 0, iV 0, bV false, iV 0, iV 0, bV false, iV 0, iV 0, bV false]) 20 rfl rfl ti84 rfl rfl (stB (cs' := [iV r1.1.Lo, iV r1.1.Hi, bV r1.1.Unknown, iV r1.2.1.Lo, iV r1.2.1.Hi, bV r1.2.1.Unknown, iV r1.2.2.Lo, iV r1.2.2.Hi, bV r1.2.2.Unknown]) rfl rfl rfl rfl ti84 rfl rfl rfl rfl rfl (RunC.fin (AWP.sq (AWP.rgD 96 [0, 1, 0, 4, 15, 0, 32, 0, 128, 511, 0, 1024, 0, 4096, 16383, 32767, 65535] ⟨[], [none, some [4], none, some [20], none, none, some [4], none, some [20], none, none, some [4], none, some [20], none, none, some [8]]⟩ hmix (by kernel_rfl) rfl rfl ?_)))))
 refine iaP (o' := 0) rfl rfl rfl ti84 rfl ti33 (by decide) rfl (ldB (v := .agg _) rfl rfl rfl rfl ti33 rfl rfl (iaP (o' := 0) rfl rfl rfl ti84 rfl ti33 (by decide) rfl (ldB (v := .agg _) rfl rfl rfl rfl ti33 rfl rfl ?_)))
 obtain ⟨r2, hr2, hR⟩ := bindE hR
 refine cls [] rfl rfl cb43 (ok43 p.1 r1.1 _ hr2) (.cons (.agg .z3 rfl) (.cons (.agg .z3 rfl) (.nil))) (.inr rfl) rfl (iaP (o' := 3) rfl rfl rfl ti84 rfl ti33 (by decide) rfl (ldB (v := .agg _) rfl rfl rfl rfl ti33 rfl rfl (iaP (o' := 3) rfl rfl rfl ti84 rfl ti33 (by decide) rfl (ldB (v := .agg _) rfl rfl rfl rfl ti33 rfl rfl ?_))))
 obtain ⟨r3, hr3, hR⟩ := bindE hR
 refine cls [] rfl rfl cb43 (ok43 p.2.1 r1.2.1 _ hr3) (.cons (.agg .z3 rfl) (.cons (.agg .z3 rfl) (.nil))) (.inr rfl) rfl (iaP (o' := 6) rfl rfl rfl ti84 rfl ti33 (by decide) rfl (ldB (v := .agg _) rfl rfl rfl rfl ti33 rfl rfl (iaP (o' := 6) rfl rfl rfl ti84 rfl ti33 (by decide) rfl (ldB (v := .agg _) rfl rfl rfl rfl ti33 rfl rfl ?_))))
 obtain ⟨r4, hr4, hR⟩ := bindE hR
 refine cls [] rfl rfl cb43 (ok43 p.2.2 r1.2.2 _ hr4) (.cons (.agg .z3 rfl) (.cons (.agg .z3 rfl) (.nil))) (.inr rfl) rfl (bu (cs := [iV r2.Lo, iV r2.Hi, bV r2.Unknown, iV r3.Lo, iV r3.Hi, bV r3.Unknown, iV r4.Lo, iV r4.Hi, bV r4.Unknown]) rfl bt35 rfl (stB (cs' := [iV r2.Lo, iV r2.Hi, bV r2.Unknown, iV r3.Lo, iV r3.Hi, bV r3.Unknown, iV r4.Lo, iV r4.Hi, bV r4.Unknown]) rfl rfl rfl rfl ti35 rfl rfl rfl rfl rfl (RunC.fin (AWP.ret ?_))))
 have hR := Option.some.inj hR; subst hR
 exact hQ _ _ (LS.mk [(4, .ptr 0 0 0)] (lblks 0 [boxB (α := Box) true (Box.mk r2 r3 r4)]) 1) (aggV (α := Box) true (Box.mk r2 r3 r4)) [] (.inr rfl) (Weak.turnL [(8, 0)] [] rfl rfl (tc (trP' rfl rfl rfl rfl) tn) (mc rfl (.box rfl .z9 rfl) mn)) (ro1 (rvC (v := aggV (α := Box) true (Box.mk r2 r3 r4)) rfl rfl ti35 rfl)) rfl rfl ldA pn
theorem ok92 (x : Int) (r : Bool) (hR : cmp_isNaN x = some r) : FnP Tryz.prog 92 [.sc (.int .i64 x)] (.sc (.bool r)) := by
 refine fnP_of (FnX.walk Tryz.func92 rfl 6 0 (by simp [Tryz.ntmps92]) rfl fun W S F Q hQ => ?_)
 unfold cmp_isNaN at hR
 refine AWP.sq (AWP.rgC 4 rfl rfl (pS rfl (RunC.fin (AWP.sq (AWP.rgC 20 rfl rfl (pS rfl (pS rfl (pS rfl (pS rfl (RunC.fin (AWP.ret ?_)))))))))))
 have hR := Option.some.inj hR; subst hR
 exact hQ _ _ (LS.mk [(2, bV (x != x))] (lblks 0 []) 0) (bV (x != x)) [] (.inr rfl) (Weak.turnL [] [] rfl rfl (tc (.sc _) tn) mn) (ro1 (rvT (v := bV (x != x)) rfl)) rfl rfl (.sc _) pn
theorem ok73 (x : Int) (y : Int) (r : Int) (hR : cmp_Compare x y = some r) : FnP Tryz.prog 73 [.sc (.int .i64 x), .sc (.int .i64 y)] (.sc (.int .i64 r)) := by
 refine fnP_of (FnX.walk Tryz.func73 rfl 20 0 (by simp [Tryz.ntmps73]) rfl fun W S F Q hQ => ?_)
 unfold cmp_Compare at hR
 refine AWP.sq (AWP.rgC 4 rfl rfl (pS rfl (RunC.fin (AWP.sq (AWP.rgC 16 rfl rfl (pS rfl ?_))))))
 obtain ⟨r1, hr1, hR⟩ := bindE hR
 refine cls [] rfl rfl cb92 (ok92 x _ hr1) (.cons (.sc _) .nil) (.inr rfl) rfl (pS rfl (RunC.fin (AWP.sq (AWP.rgC 28 rfl rfl (pS rfl ?_)))))
 obtain ⟨r2, hr2, hR⟩ := bindE hR
 refine cls [] rfl rfl cb92 (ok92 y _ hr2) (.cons (.sc _) .nil) (.inr rfl) rfl (pS rfl (RunC.fin (AWP.sq (AWP.sq (AWP.rgC 32 rfl rfl (pS rfl (RunC.fin (AWP.cd hR rfl (fun h3 hR => ?_) fun h3 hR => ?_))))))))
 ·refine AWP.sq (AWP.sq (AWP.rgC 36 rfl rfl (pS rfl (RunC.fin (AWP.cd hR rfl (fun h4 hR => ?_) fun h4 hR => ?_)))))
  ·refine AWP.sq (AWP.rgC 40 rfl rfl (pS rfl (RunC.fin (AWP.ret (rtT (rtT ?_))))))
   have hR := Option.some.inj hR; subst hR
   exact hQ _ _ (LS.mk [(4, iV 0)] (lblks 0 []) 0) (iV 0) [] (.inr rfl) (Weak.turnL [] [] rfl rfl (tc (.sc _) tn) mn) (ro1 (rvT (v := iV 0) rfl)) rfl rfl (.sc _) pn
  ·refine AWP.skip (skT (AWP.sq (AWP.rgC 40 rfl rfl (pS rfl (RunC.fin (AWP.ret (rtT ?_)))))))
   have hR := Option.some.inj hR; subst hR
   exact hQ _ _ (LS.mk [(4, iV (-1))] (lblks 0 []) 0) (iV (-1)) [] (.inr rfl) (Weak.turnL [] [] rfl rfl (tc (.sc _) tn) mn) (ro1 (rvT (v := iV (-1)) rfl)) rfl rfl (.sc _) pn
 ·refine AWP.skip (skT (AWP.sq (AWP.sq (AWP.rgC 36 rfl rfl (pS rfl (RunC.fin (AWP.cd hR rfl (fun h5 hR => ?_) fun h5 hR => ?_)))))))
  ·refine AWP.sq (AWP.rgC 40 rfl rfl (pS rfl (RunC.fin (AWP.ret (rtT ?_)))))
   have hR := Option.some.inj hR; subst hR
   exact hQ _ _ (LS.mk [(4, iV 1)] (lblks 0 []) 0) (iV 1) [] (.inr rfl) (Weak.turnL [] [] rfl rfl (tc (.sc _) tn) mn) (ro1 (rvT (v := iV 1) rfl)) rfl rfl (.sc _) pn
  ·refine AWP.skip (skT (AWP.sq (AWP.sq (AWP.rgC 48 rfl rfl (pS rfl (pS rfl (pS rfl (RunC.fin (AWP.cd hR rfl (fun h6 hR => ?_) fun h6 hR => ?_)))))))))
   ·refine AWP.sq (AWP.rgC 52 rfl rfl (pS rfl (RunC.fin (AWP.ret (rtT ?_)))))
    have hR := Option.some.inj hR; subst hR
    exact hQ _ _ (LS.mk [(4, iV (-1))] (lblks 0 []) 0) (iV (-1)) [] (.inr rfl) (Weak.turnL [] [] rfl rfl (tc (.sc _) tn) mn) (ro1 (rvT (v := iV (-1)) rfl)) rfl rfl (.sc _) pn
   ·refine AWP.skip (skT (AWP.sq (AWP.sq (AWP.rgC 60 rfl rfl (pS rfl (pS rfl (pS rfl (RunC.fin (AWP.cd hR rfl (fun h7 hR => ?_) fun h7 hR => ?_)))))))))
    ·refine AWP.sq (AWP.rgC 64 rfl rfl (pS rfl (RunC.fin (AWP.ret (rtT ?_)))))
     have hR := Option.some.inj hR; subst hR
     exact hQ _ _ (LS.mk [(4, iV 1)] (lblks 0 []) 0) (iV 1) [] (.inr rfl) (Weak.turnL [] [] rfl rfl (tc (.sc _) tn) mn) (ro1 (rvT (v := iV 1) rfl)) rfl rfl (.sc _) pn
    ·refine AWP.skip (skT (AWP.sq (AWP.rgC 64 rfl rfl (pS rfl (RunC.fin (AWP.ret ?_))))))
     have hR := Option.some.inj hR; subst hR
     exact hQ _ _ (LS.mk [(4, iV 0)] (lblks 0 []) 0) (iV 0) [] (.inr rfl) (Weak.turnL [] [] rfl rfl (tc (.sc _) tn) mn) (ro1 (rvT (v := iV 0) rfl)) rfl rfl (.sc _) pn
theorem ok93 (x : Int) (r : Bool) (hR : cmp_isNaN x = some r) : FnP Tryz.prog 93 [.sc (.int .u64 x)] (.sc (.bool r)) := by
 refine fnP_of (FnX.walk Tryz.func93 rfl 6 0 (by simp [Tryz.ntmps93]) rfl fun W S F Q hQ => ?_)
 unfold cmp_isNaN at hR
 refine AWP.sq (AWP.rgC 4 rfl rfl (pS rfl (RunC.fin (AWP.sq (AWP.rgC 20 rfl rfl (pS rfl (pS rfl (pS rfl (pS rfl (RunC.fin (AWP.ret ?_)))))))))))
 have hR := Option.some.inj hR; subst hR
 exact hQ _ _ (LS.mk [(2, bV (x != x))] (lblks 0 []) 0) (bV (x != x)) [] (.inr rfl) (Weak.turnL [] [] rfl rfl (tc (.sc _) tn) mn) (ro1 (rvT (v := bV (x != x)) rfl)) rfl rfl (.sc _) pn
theorem ok74 (x : Int) (y : Int) (r : Int) (hR : cmp_Compare x y = some r) : FnP Tryz.prog 74 [.sc (.int .u64 x), .sc (.int .u64 y)] (.sc (.int .i64 r)) := by
 refine fnP_of (FnX.walk Tryz.func74 rfl 20 0 (by simp [Tryz.ntmps74]) rfl fun W S F Q hQ => ?_)
 unfold cmp_Compare at hR
 refine AWP.sq (AWP.rgC 4 rfl rfl (pS rfl (RunC.fin (AWP.sq (AWP.rgC 16 rfl rfl (pS rfl ?_))))))
 obtain ⟨r1, hr1, hR⟩ := bindE hR
 refine cls [] rfl rfl cb93 (ok93 x _ hr1) (.cons (.sc _) .nil) (.inr rfl) rfl (pS rfl (RunC.fin (AWP.sq (AWP.rgC 28 rfl rfl (pS rfl ?_)))))
 obtain ⟨r2, hr2, hR⟩ := bindE hR
 refine cls [] rfl rfl cb93 (ok93 y _ hr2) (.cons (.sc _) .nil) (.inr rfl) rfl (pS rfl (RunC.fin (AWP.sq (AWP.sq (AWP.rgC 32 rfl rfl (pS rfl (RunC.fin (AWP.cd hR rfl (fun h3 hR => ?_) fun h3 hR => ?_))))))))
 ·refine AWP.sq (AWP.sq (AWP.rgC 36 rfl rfl (pS rfl (RunC.fin (AWP.cd hR rfl (fun h4 hR => ?_) fun h4 hR => ?_)))))
  ·refine AWP.sq (AWP.rgC 40 rfl rfl (pS rfl (RunC.fin (AWP.ret (rtT (rtT ?_))))))
   have hR := Option.some.inj hR; subst hR
   exact hQ _ _ (LS.mk [(4, iV 0)] (lblks 0 []) 0) (iV 0) [] (.inr rfl) (Weak.turnL [] [] rfl rfl (tc (.sc _) tn) mn) (ro1 (rvT (v := iV 0) rfl)) rfl rfl (.sc _) pn
  ·refine AWP.skip (skT (AWP.sq (AWP.rgC 40 rfl rfl (pS rfl (RunC.fin (AWP.ret (rtT ?_)))))))
   have hR := Option.some.inj hR; subst hR
   exact hQ _ _ (LS.mk [(4, iV (-1))] (lblks 0 []) 0) (iV (-1)) [] (.inr rfl) (Weak.turnL [] [] rfl rfl (tc (.sc _) tn) mn) (ro1 (rvT (v := iV (-1)) rfl)) rfl rfl (.sc _) pn
 ·refine AWP.skip (skT (AWP.sq (AWP.sq (AWP.rgC 36 rfl rfl (pS rfl (RunC.fin (AWP.cd hR rfl (fun h5 hR => ?_) fun h5 hR => ?_)))))))
  ·refine AWP.sq (AWP.rgC 40 rfl rfl (pS rfl (RunC.fin (AWP.ret (rtT ?_)))))
   have hR := Option.some.inj hR; subst hR
   exact hQ _ _ (LS.mk [(4, iV 1)] (lblks 0 []) 0) (iV 1) [] (.inr rfl) (Weak.turnL [] [] rfl rfl (tc (.sc _) tn) mn) (ro1 (rvT (v := iV 1) rfl)) rfl rfl (.sc _) pn
  ·refine AWP.skip (skT (AWP.sq (AWP.sq (AWP.rgC 48 rfl rfl (pS rfl (pS rfl (pS rfl (RunC.fin (AWP.cd hR rfl (fun h6 hR => ?_) fun h6 hR => ?_)))))))))
   ·refine AWP.sq (AWP.rgC 52 rfl rfl (pS rfl (RunC.fin (AWP.ret (rtT ?_)))))
    have hR := Option.some.inj hR; subst hR
    exact hQ _ _ (LS.mk [(4, iV (-1))] (lblks 0 []) 0) (iV (-1)) [] (.inr rfl) (Weak.turnL [] [] rfl rfl (tc (.sc _) tn) mn) (ro1 (rvT (v := iV (-1)) rfl)) rfl rfl (.sc _) pn
   ·refine AWP.skip (skT (AWP.sq (AWP.sq (AWP.rgC 60 rfl rfl (pS rfl (pS rfl (pS rfl (RunC.fin (AWP.cd hR rfl (fun h7 hR => ?_) fun h7 hR => ?_)))))))))
    ·refine AWP.sq (AWP.rgC 64 rfl rfl (pS rfl (RunC.fin (AWP.ret (rtT ?_)))))
     have hR := Option.some.inj hR; subst hR
     exact hQ _ _ (LS.mk [(4, iV 1)] (lblks 0 []) 0) (iV 1) [] (.inr rfl) (Weak.turnL [] [] rfl rfl (tc (.sc _) tn) mn) (ro1 (rvT (v := iV 1) rfl)) rfl rfl (.sc _) pn
    ·refine AWP.skip (skT (AWP.sq (AWP.rgC 64 rfl rfl (pS rfl (RunC.fin (AWP.ret ?_))))))
     have hR := Option.some.inj hR; subst hR
     exact hQ _ _ (LS.mk [(4, iV 0)] (lblks 0 []) 0) (iV 0) [] (.inr rfl) (Weak.turnL [] [] rfl rfl (tc (.sc _) tn) mn) (ro1 (rvT (v := iV 0) rfl)) rfl rfl (.sc _) pn
theorem ok72 (vals : List Int) (r : Int) (hR : cmp_Or vals = some r) : FnP Tryz.prog 72 [rowV false vals] (.sc (.int .i64 r)) := by
 refine fnP_of (FnX.walk Tryz.func72 rfl 18 0 (by simp [Tryz.ntmps72]) rfl fun W S F Q hQ => ?_)
 unfold cmp_Or at hR
 refine AWP.sq (AWP.rgC 4 rfl rfl (pS rfl (RunC.fin (AWP.sq (AWP.rgC 8 rfl rfl (pS rfl (RunC.fin (AWP.sq (AWP.sq (AWP.rgC 20 rfl rfl (pu (v := rowV _ vals) rfl rfl (fun _ => rfl) (lenL (α := Int) rfl rfl ti22 rfl ?_))))))))))))
 refine pS rfl (RunC.fin (AWP.loopK' (fun s1 : Int => LS.mk [(3, iV 0), (6, rowV (α := Int) false vals), (7, iV (vals.length : Int)), (8, iV s1)] (lblks 0 []) 0) (fun z2 : Unit => LS.mk [(3, iV 0)] (lblks 0 []) 0) (cmp_Or.l1 vals) hR (s0 := 0) (Weak.turnL [] [] rfl rfl (tc (.sc _) (tc trR1 (tc (.sc _) (tc (.sc _) tn)))) mn) (fun s1 o1 hR hE1 => ?_) fun z2 hR => ?_))
 ·unfold cmp_Or.l1 at hR
  refine AWP.sq (AWP.rgC 4 rfl rfl (pS rfl (RunC.fin (AWP.sq (AWP.cd hR rfl (fun h3 hR => ?_) fun h3 hR => ?_)))))
  ·refine AWP.skip (skT (AWP.sq (AWP.block (AWP.sq (AWP.rgC 16 rfl rfl ?_)))))
   obtain ⟨h4, hR⟩ := chkE hR
   refine ixL (α := Int) rfl rfl rfl ti22 rfl ti3 rfl h4 ?_
   refine ldR (v := .sc _) rfl rfl ti3 rfl ?_
   refine pS rfl (RunC.fin (AWP.sq (AWP.rgC 28 rfl rfl (pS rfl (pS rfl (pS rfl (RunC.fin (AWP.cd hR rfl (fun h5 hR => ?_) fun h5 hR => ?_))))))))
   ·refine AWP.sq (AWP.rgC 36 rfl rfl (pS rfl (pS rfl (RunC.fin (AWP.ret (rtB (rtT (rtT (rtB (rtT ?_))))))))))
    replace hR := escL hR hE1
    refine rtT ?_
    have hR := Option.some.inj hR; subst hR
    exact hQ _ _ (LS.mk [(2, iV (gt vals s1))] (lblks 0 []) 0) (iV (gt vals s1)) [] (.inr rfl) (Weak.turnL [] [] rfl rfl (tc (.sc _) tn) mn) (ro1 (rvT (v := iV (gt vals s1)) rfl)) rfl rfl (.sc _) pn
   ·refine AWP.skip (skB ?_)
    refine skT (AWP.rgC 36 rfl rfl (pS rfl (pS rfl (RunC.fin (⟨(w6 (s1 + 1)), (Option.some.inj hR).symm, ?_⟩)))))
    exact Weak.turnL [] [] rfl rfl (tc (.sc _) (tc trR1 (tc (.sc _) (tc (.sc _) tn)))) mn
  ·refine AWP.exit (exT (exT (exH (skT (⟨(), (Option.some.inj hR).symm, ?_⟩)))))
   exact Weak.turnL [] [] rfl rfl (tc (.sc _) tn) mn
 ·refine skT (AWP.sq (AWP.rgC 8 rfl rfl (pS rfl (pS rfl (RunC.fin (AWP.ret ?_))))))
  have hR := Option.some.inj hR; subst hR
  exact hQ _ _ (LS.mk [(2, iV 0)] (lblks 0 []) 0) (iV 0) [] (.inr rfl) (Weak.turnL [] [] rfl rfl (tc (.sc _) tn) mn) (ro1 (rvT (v := iV 0) rfl)) rfl rfl (.sc _) pn
theorem ok50 (w : num_Wide) (v : num_Wide) (r : Int) (hR : Wide_Cmp w v = some r) : FnP Tryz.prog 50 [aggV false w, aggV false v] (.sc (.int .i64 r)) := by
 refine fnP_of (FnX.walk Tryz.func50 rfl 17 0 (by simp [Tryz.ntmps50]) rfl fun W S F Q hQ => ?_)
 unfold Wide_Cmp at hR
 refine AWP.sq (AWP.rgC 12 rfl rfl (bx (cs := _) 0 rfl rfl rfl (bx (cs := _) 4 rfl rfl rfl (pS rfl (RunC.fin (AWP.sq (AWP.rgD 64 [0, 1, 0, 4, 15, 0, 32, 0, 128, 511, 1023, 2047, 4095] ⟨[], [none, some [0], none, some [4], none, none, some [0], none, some [4], none, none, none, none]⟩ hmix (by kernel_rfl) rfl rfl ?_)))))))
 refine fa rfl rfl ti111 rfl rfl ti2 rfl (ldB (v := .sc _) rfl rfl rfl rfl ti2 rfl rfl (fa rfl rfl ti111 rfl rfl ti2 rfl (ldB (v := .sc _) rfl rfl rfl rfl ti2 rfl rfl ?_)))
 obtain ⟨r1, hr1, hR⟩ := bindE hR
 refine cls [] rfl rfl cb73 (ok73 w.Hi v.Hi _ hr1) .z2 (.inr rfl) rfl (fa rfl rfl ti111 rfl rfl ti109 rfl (ldB (v := .sc _) rfl rfl rfl rfl ti109 rfl rfl (fa rfl rfl ti111 rfl rfl ti109 rfl (ldB (v := .sc _) rfl rfl rfl rfl ti109 rfl rfl ?_))))
 obtain ⟨r2, hr2, hR⟩ := bindE hR
 refine cls [] rfl rfl cb74 (ok74 w.Lo.n v.Lo.n _ hr2) .z2 (.inr rfl) rfl (bs (α := Int) 52 true ([r1, r2] : List Int) rfl rfl ti22 rfl ti3 rfl rfl rfl rfl rfl ?_)
 obtain ⟨r3, hr3, hR⟩ := bindE hR
 refine cls [52] rfl rfl cb72 (ok72 ([r1, r2] : List Int) _ hr3) (.cons (ldS' rfl rfl rfl rfl) (.nil)) (.inl (by first | rfl | exact freshR | exact freshA | (simp only [V.fresh, V.freshs, freshR, freshA, Bool.and_self]))) rfl (pS rfl (RunC.fin (AWP.ret ?_)))
 have hR := Option.some.inj hR; subst hR
 exact hQ _ _ (LS.mk [(4, iV r3)] (lblks 0 []) 0) (iV r3) [] (.inr rfl) (Weak.turnL [] [] rfl rfl (tc (.sc _) tn) mn) (ro1 (rvT (v := iV r3) rfl)) rfl rfl (.sc _) pn
theorem ok48 (r_ : change_ratios) (a : Int) (b : Int) (r : Bool × change_ratios) (hR : ratios_atMost r_ a b = some r) : FnD Tryz.prog 48 [boxB false r_] [.ptr 0 0 0, .sc (.int .i64 a), .sc (.int .i64 b)] (.sc (.bool r.1)) [boxB false r.2] := by
 refine FnX.walk Tryz.func48 rfl 64 1 (by simp [Tryz.ntmps48]) rfl fun W S F Q hQ => ?_
 unfold ratios_atMost at hR
 refine AWP.sq (AWP.rgC 5 rfl rfl (pS rfl (RunC.fin (AWP.joinS (fun z1 : change_ratios => LS.mk [] (lblks 0 [boxB (α := change_ratios) true z1]) 1) hR (fun o1 hR hE1 => ?_) fun z1 hR => ?_))))
 ·refine AWP.block (AWP.sq (AWP.rgC 17 rfl rfl (pS rfl (pS rfl (pS rfl (RunC.fin (AWP.cd hR rfl (fun h2 hR => ?_) fun h2 hR => ?_)))))))
  ·refine AWP.sq (AWP.rgC 29 rfl rfl (pS rfl (pS rfl (pS rfl (RunC.fin (AWP.ret (rtB (rtT ?_))))))))
   replace hR := escJ hR hE1
   have hR := Option.some.inj hR; subst hR
   exact hQ _ _ (LS.mk [(6, bV (decide (b ≥ 0)))] (lblks 0 [boxB (α := change_ratios) true r_]) 1) (bV (decide (b ≥ 0))) [] (.inr rfl) (Weak.turnL [(0, 0)] [] rfl rfl (tc (.sc _) tn) (mc rfl (.box rfl (.c3 (.cons (.sc _) .nil)) rfl) mn)) (ro1 (rvT (v := bV (decide (b ≥ 0))) rfl)) rfl rfl (.sc _) (pc rfl bldB pn)
  ·refine AWP.sq (AWP.rgC 29 rfl rfl (pS rfl (pS rfl (pS rfl (RunC.fin (AWP.cd hR rfl (fun h3 hR => ?_) fun h3 hR => ?_))))))
   ·refine AWP.sq (AWP.rgD 85 [0, 0, 2, 6, 14, 31, 0, 64, 192, 448, 0, 2047, 4095, 8191] ⟨[], [none, none, none, none, some [0], none, none, none, none, some [0], none, none, none, none]⟩ hmix (by kernel_rfl) rfl rfl ?_)
    refine pS rfl (pu (v := .ptr _ _ _) rfl rfl (fun _ => rfl) (pu (v := .ptr _ _ _) rfl rfl (fun _ => rfl) (fa rfl rfl ti107 rfl rfl ti2 rfl (ldB (v := .sc _) rfl rfl rfl rfl ti2 rfl rfl ?_))))
    obtain ⟨r4, hr4, hR⟩ := bindE hR
    refine cls [] rfl rfl cb49 (ok49 b r_.above _ hr4) .z2 (.inr rfl) rfl (pu (v := .ptr _ _ _) rfl rfl (fun _ => rfl) (pu (v := .ptr _ _ _) rfl rfl (fun _ => rfl) (fa rfl rfl ti107 rfl rfl ti2 rfl (ldB (v := .sc _) rfl rfl rfl rfl ti2 rfl rfl (pS rfl ?_)))))
    obtain ⟨r5, hr5, hR⟩ := bindE hR
    refine cls [] rfl rfl cb49 (ok49 r_.hi a _ hr5) .z2 (.inr rfl) rfl ?_
    obtain ⟨r6, hr6, hR⟩ := bindE hR
    refine cls [] rfl rfl cb50 (ok50 r4 r5 _ hr6) (.cons (.agg .z2 rfl) (.cons (.agg .z2 rfl) (.nil))) (.inr rfl) rfl (pS rfl (RunC.fin (AWP.cd hR rfl (fun h7 hR => ?_) fun h7 hR => ?_)))
    ·refine AWP.rgC 125 rfl rfl (pu (v := .ptr _ _ _) rfl rfl (fun _ => rfl) (pu (v := .ptr _ _ _) rfl rfl (fun _ => rfl) (pS rfl (pS rfl (pu (v := .ptr _ _ _) rfl rfl (fun _ => rfl) (fa rfl rfl ti107 rfl rfl ti2 rfl (stB (cs' := [iV r_.lo, iV b, iV r_.under, iV r_.above]) rfl rfl rfl rfl ti2 rfl rfl rfl rfl rfl (pu (v := .ptr _ _ _) rfl rfl (fun _ => rfl) (fa rfl rfl ti107 rfl rfl ti2 rfl (stB (cs' := [iV r_.lo, iV b, iV r_.under, iV a]) rfl rfl rfl rfl ti2 rfl rfl rfl rfl rfl (RunC.blk (RunC.fin (⟨(change_ratios.mk r_.lo b r_.under a), (Option.some.inj hR).symm, ?_⟩)))))))))))))
     exact Weak.turnL [(0, 0)] [] rfl rfl tn (mc rfl (.box rfl (.c3 (.cons (.sc _) .nil)) rfl) mn)
    ·refine AWP.skip (skB ?_)
     refine skT (⟨r_, (Option.some.inj hR).symm, ?_⟩)
     exact Weak.turnL [(0, 0)] [] rfl rfl tn (mc rfl (.box rfl (.c3 (.cons (.sc _) .nil)) rfl) mn)
   ·refine AWP.sq (AWP.rgD 97 [0, 1, 0, 4, 12, 28, 63, 0, 128, 384, 896, 0, 2048, 8191, 16383, 32767, 65535] ⟨[], [none, none, none, none, none, some [0], none, none, none, none, some [0], none, none, none, none, none, none]⟩ hmix (by kernel_rfl) rfl rfl ?_)
    refine pS rfl (pS rfl (pu (v := .ptr _ _ _) rfl rfl (fun _ => rfl) (pu (v := .ptr _ _ _) rfl rfl (fun _ => rfl) (fa rfl rfl ti107 rfl rfl ti2 rfl (ldB (v := .sc _) rfl rfl rfl rfl ti2 rfl rfl ?_)))))
    obtain ⟨r8, hr8, hR⟩ := bindE hR
    refine cls [] rfl rfl cb49 (ok49 (w6 (0 - b)) r_.under _ hr8) .z2 (.inr rfl) rfl (pu (v := .ptr _ _ _) rfl rfl (fun _ => rfl) (pu (v := .ptr _ _ _) rfl rfl (fun _ => rfl) (fa rfl rfl ti107 rfl rfl ti2 rfl (ldB (v := .sc _) rfl rfl rfl rfl ti2 rfl rfl (pS rfl (pS rfl ?_))))))
    obtain ⟨r9, hr9, hR⟩ := bindE hR
    refine cls [] rfl rfl cb49 (ok49 r_.lo (w6 (0 - a)) _ hr9) .z2 (.inr rfl) rfl ?_
    obtain ⟨r10, hr10, hR⟩ := bindE hR
    refine cls [] rfl rfl cb50 (ok50 r8 r9 _ hr10) (.cons (.agg .z2 rfl) (.cons (.agg .z2 rfl) (.nil))) (.inr rfl) rfl (pS rfl (pS rfl (RunC.fin (AWP.cd hR rfl (fun h11 hR => ?_) fun h11 hR => ?_))))
    ·refine AWP.rgC 145 rfl rfl (pu (v := .ptr _ _ _) rfl rfl (fun _ => rfl) (pu (v := .ptr _ _ _) rfl rfl (fun _ => rfl) (pS rfl (pS rfl (pS rfl (pS rfl (pu (v := .ptr _ _ _) rfl rfl (fun _ => rfl) (fa rfl rfl ti107 rfl rfl ti2 rfl (stB (cs' := [iV (w6 (0 - b)), iV r_.hi, iV r_.under, iV r_.above]) rfl rfl rfl rfl ti2 rfl rfl rfl rfl rfl (pu (v := .ptr _ _ _) rfl rfl (fun _ => rfl) (fa rfl rfl ti107 rfl rfl ti2 rfl (stB (cs' := [iV (w6 (0 - b)), iV r_.hi, iV (w6 (0 - a)), iV r_.above]) rfl rfl rfl rfl ti2 rfl rfl rfl rfl rfl (RunC.blk (RunC.fin (⟨(change_ratios.mk (w6 (0 - b)) r_.hi (w6 (0 - a)) r_.above), (Option.some.inj hR).symm, ?_⟩)))))))))))))))
     exact Weak.turnL [(0, 0)] [] rfl rfl tn (mc rfl (.box rfl (.c3 (.cons (.sc _) .nil)) rfl) mn)
    ·refine AWP.skip (skB ?_)
     refine skT (⟨r_, (Option.some.inj hR).symm, ?_⟩)
     exact Weak.turnL [(0, 0)] [] rfl rfl tn (mc rfl (.box rfl (.c3 (.cons (.sc _) .nil)) rfl) mn)
 ·refine AWP.sq (AWP.rgC 5 rfl rfl (pS rfl (RunC.fin (AWP.ret ?_))))
  have hR := Option.some.inj hR; subst hR
  exact hQ _ _ (LS.mk [(6, bV true)] (lblks 0 [boxB (α := change_ratios) true z1]) 1) (bV true) [] (.inr rfl) (Weak.turnL [(0, 0)] [] rfl rfl (tc (.sc _) tn) (mc rfl (.box rfl (.c3 (.cons (.sc _) .nil)) rfl) mn)) (ro1 (rvT (v := bV true) rfl)) rfl rfl (.sc _) (pc rfl bldB pn)
theorem ok25 (a : Box) (b : Box) (r : Bool) (hR : change_Share a b = some r) : FnP Tryz.prog 25 [aggV false a, aggV false b] (.sc (.bool r)) := by
 refine fnP_of (FnX.walk Tryz.func25 rfl 98 0 (by simp [Tryz.ntmps25]) rfl fun W S F Q hQ => ?_)
 unfold change_Share at hR
 refine AWP.sq (AWP.rgC 12 rfl rfl (bx (cs := _) 0 rfl rfl rfl (bx (cs := _) 4 rfl rfl rfl (pS rfl (RunC.fin (AWP.sq (AWP.rgC 24 rfl rfl (bu (cs := [iV 0, iV 9223372036854775807, iV 1, iV 1]) rfl bt107 rfl (bx (cs := _) 16 rfl rfl rfl (pu (v := .ptr _ _ _) rfl rfl (fun _ => rfl) (RunC.fin (AWP.sq (AWP.rgD 96 [0, 1, 0, 4, 0, 16, 63, 0, 128, 0, 512, 0, 2048, 8064, 0, 0, 49279, 131071] ⟨[], [none, some [0], none, some [0], none, some [0], none, none, some [4], none, some [4], none, some [4], none, none, none, some [80], some [84]]⟩ hmix (by kernel_rfl) rfl rfl ?_)))))))))))))
 refine fa rfl rfl ti35 rfl rfl ti33 rfl (ldB (v := .agg _) rfl rfl rfl rfl ti33 rfl rfl (fa rfl rfl ti35 rfl rfl ti33 rfl (ldB (v := .agg _) rfl rfl rfl rfl ti33 rfl rfl (fa rfl rfl ti35 rfl rfl ti33 rfl (ldB (v := .agg _) rfl rfl rfl rfl ti33 rfl rfl (buA (cs := [iV a.X.Lo, iV a.X.Hi, bV a.X.Unknown, iV a.Y.Lo, iV a.Y.Hi, bV a.Y.Unknown, iV a.Z.Lo, iV a.Z.Hi, bV a.Z.Unknown]) rfl ti83 rfl ti33 rfl rfl ?_))))))
 refine fa rfl rfl ti35 rfl rfl ti33 rfl (ldB (v := .agg _) rfl rfl rfl rfl ti33 rfl rfl (fa rfl rfl ti35 rfl rfl ti33 rfl (ldB (v := .agg _) rfl rfl rfl rfl ti33 rfl rfl (fa rfl rfl ti35 rfl rfl ti33 rfl (ldB (v := .agg _) rfl rfl rfl rfl ti33 rfl rfl (buA (cs := [iV b.X.Lo, iV b.X.Hi, bV b.X.Unknown, iV b.Y.Lo, iV b.Y.Hi, bV b.Y.Unknown, iV b.Z.Lo, iV b.Z.Hi, bV b.Z.Unknown]) rfl ti83 rfl ti33 rfl rfl ?_))))))
 refine al (cs := [iV 0, iV 0, bV false, iV 0, iV 0, bV false, iV 0, iV 0, bV false]) 80 rfl rfl ti83 rfl rfl (al (cs := [iV 0, iV 0, bV false, iV 0, iV 0, bV false, iV 0, iV 0, bV false]) 84 rfl rfl ti83 rfl rfl (stB (cs' := [iV a.X.Lo, iV a.X.Hi, bV a.X.Unknown, iV a.Y.Lo, iV a.Y.Hi, bV a.Y.Unknown, iV a.Z.Lo, iV a.Z.Hi, bV a.Z.Unknown]) rfl rfl rfl rfl ti83 rfl rfl rfl rfl rfl (stB (cs' := [iV b.X.Lo, iV b.X.Hi, bV b.X.Unknown, iV b.Y.Lo, iV b.Y.Hi, bV b.Y.Unknown, iV b.Z.Lo, iV b.Z.Hi, bV b.Z.Unknown]) rfl rfl rfl rfl ti83 rfl rfl rfl rfl rfl (RunC.fin (AWP.sq (AWP.sq (AWP.rgC 100 rfl rfl (pS rfl (RunC.fin (AWP.loopK' (fun s1 : change_ratios × Int => LS.mk [(5, .ptr 0 0 0), (6, .ptr 1 0 0), (7, .ptr 2 0 0), (27, iV s1.2)] (lblks 0 [boxB (α := change_ratios) true s1.1, boxB (α := Bound × Bound × Bound) true (a.X, a.Y, a.Z), boxB (α := Bound × Bound × Bound) true (b.X, b.Y, b.Z)]) 3) (fun z2 : change_ratios => LS.mk [(5, .ptr 0 0 0)] (lblks 0 [boxB (α := change_ratios) true z2]) 1) (change_Share.l1 a b) hR (s0 := (change_ratios.mk 0 9223372036854775807 1 1, 0)) (Weak.turnL [(16, 0), (80, 0), (84, 0)] [] rfl rfl (tc (trP' rfl rfl rfl rfl) (tc (trP' rfl rfl rfl rfl) (tc (trP' rfl rfl rfl rfl) (tc (.sc _) tn)))) (mc rfl (.box rfl (.c3 (.cons (.sc _) .nil)) rfl) (mc rfl (.box rfl .z9 rfl) (mc rfl (.box rfl .z9 rfl) mn)))) (fun s1 o1 hR hE1 => ?_) fun z2 hR => ?_))))))))))
 ·unfold change_Share.l1 at hR
  refine AWP.sq (AWP.rgC 7 rfl rfl (pS rfl (RunC.fin (AWP.sq (AWP.cd hR rfl (fun h3 hR => ?_) fun h3 hR => ?_)))))
  ·refine AWP.skip (skT (AWP.joinS (fun z4 : change_ratios => LS.mk [(5, .ptr 0 0 0), (6, .ptr 1 0 0), (7, .ptr 2 0 0), (27, iV s1.2)] (lblks 0 [boxB (α := change_ratios) true z4, boxB (α := Bound × Bound × Bound) true (a.X, a.Y, a.Z), boxB (α := Bound × Bound × Bound) true (b.X, b.Y, b.Z)]) 3) hR (fun o4 hR hE4 => ?_) fun z4 hR => ?_))
   ·refine AWP.block (AWP.sq (AWP.rgC 15 rfl rfl (pS rfl (pS rfl (RunC.fin (AWP.sq (AWP.rgD 55 [0, 1, 3, 0, 8, 24, 0, 0, 199, 511] ⟨[], [none, none, some [1], none, none, some [2], none, none, some [39], some [43]]⟩ hmix (by kernel_rfl) rfl rfl ?_)))))))
    refine pS rfl ?_
    obtain ⟨h5, hR⟩ := chkE hR
    refine iaP (o' := 0 + s1.2.toNat * Cl.e Bound + 0) rfl rfl rfl ti83 rfl ti33 h5 rfl (ldD (α := Bound) (nw := true) (pre := []) (post := []) (xs := ([a.X, a.Y, a.Z] : List Bound)) (m := s1.2.toNat) (off := 0) (v := .agg _) rfl rfl rfl rfl rfl rfl (ixlt h5) ti33 rfl rfl rfl rfl (pS rfl ?_))
    obtain ⟨h6, hR⟩ := chkE hR
    refine iaP (o' := 0 + s1.2.toNat * Cl.e Bound + 0) rfl rfl rfl ti83 rfl ti33 h6 rfl (ldD (α := Bound) (nw := true) (pre := []) (post := []) (xs := ([b.X, b.Y, b.Z] : List Bound)) (m := s1.2.toNat) (off := 0) (v := .agg _) rfl rfl rfl rfl rfl rfl (ixlt h6) ti33 rfl rfl rfl rfl (al (cs := [iV 0, iV 0, bV false]) 39 rfl rfl ti33 rfl rfl (al (cs := [iV 0, iV 0, bV false]) 43 rfl rfl ti33 rfl rfl (stB (cs' := [iV (gt ([a.X, a.Y, a.Z] : List Bound) s1.2).Lo, iV (gt ([a.X, a.Y, a.Z] : List Bound) s1.2).Hi, bV (gt ([a.X, a.Y, a.Z] : List Bound) s1.2).Unknown]) rfl rfl rfl rfl ti33 rfl rfl rfl rfl rfl (stB (cs' := [iV (gt ([b.X, b.Y, b.Z] : List Bound) s1.2).Lo, iV (gt ([b.X, b.Y, b.Z] : List Bound) s1.2).Hi, bV (gt ([b.X, b.Y, b.Z] : List Bound) s1.2).Unknown]) rfl rfl rfl rfl ti33 rfl rfl rfl rfl rfl (RunC.fin (AWP.sq (AWP.joinX (fun z7 : Bool => LS.mk [(5, .ptr 0 0 0), (6, .ptr 1 0 0), (7, .ptr 2 0 0), (9, .ptr 3 0 0), (10, .ptr 4 0 0), (27, iV s1.2), (51, bV z7)] (lblks 0 [boxB (α := change_ratios) true s1.1, boxB (α := Bound × Bound × Bound) true (a.X, a.Y, a.Z), boxB (α := Bound × Bound × Bound) true (b.X, b.Y, b.Z), boxB (α := Bound) true (gt ([a.X, a.Y, a.Z] : List Bound) s1.2), boxB (α := Bound) true (gt ([b.X, b.Y, b.Z] : List Bound) s1.2)]) 5) hR (fun o7 hR => ?_) fun z7 hR => ?_))))))))
    ·refine AWP.rgC 119 rfl rfl (ldB (v := .agg _) rfl rfl rfl rfl ti33 rfl rfl ?_)
     obtain ⟨r8, hr8, hR⟩ := bindE hR
     refine cls [] rfl rfl cb38 (ok38 (gt ([a.X, a.Y, a.Z] : List Bound) s1.2) _ hr8) (.cons (.agg .z3 rfl) (.nil)) (.inr rfl) rfl (pS rfl (pS rfl (brR hR (fun h9 hR => ?_) fun h9 hR => ?_)))
     ·refine sk (skW rfl rfl rfl h9) (sk (skW rfl rfl rfl h9) (sk (skW rfl rfl rfl h9) (pkT (v := bV true) rfl rfl h9 rfl (pS rfl (sk (skW rfl rfl rfl rfl) (sk (skW rfl rfl rfl rfl) (pkT (v := bV true) rfl rfl rfl rfl (pS rfl (sk (skW rfl rfl rfl rfl) (sk (skW rfl rfl rfl rfl) (pkT (v := bV true) rfl rfl rfl rfl (RunC.fin ?_))))))))))))
      have hR := Option.some.inj hR; subst hR
      exact Weak.turnL [(0, 0), (1, 0), (2, 0), (39, 0), (43, 0)] [] rfl rfl (tc (trP' rfl rfl rfl rfl) (tc (trP' rfl rfl rfl rfl) (tc (trP' rfl rfl rfl rfl) (tc (trP' rfl rfl rfl rfl) (tc (trP' rfl rfl rfl rfl) (tc (.sc _) (tc (.sc _) tn))))))) (mc rfl (.box rfl (.c3 (.cons (.sc _) .nil)) rfl) (mc rfl (.box rfl .z9 rfl) (mc rfl (.box rfl .z9 rfl) (mc rfl (.box rfl .z3 rfl) (mc rfl (.box rfl .z3 rfl) mn)))))
     ·refine ldB (v := .agg _) (wtG rfl rfl rfl h9) rfl rfl rfl ti33 rfl rfl ?_
      obtain ⟨r10, hr10, hR⟩ := bindE hR
      refine cls [] (wtG rfl rfl rfl h9) rfl cb38 (ok38 (gt ([b.X, b.Y, b.Z] : List Bound) s1.2) _ hr10) (.cons (.agg .z3 rfl) (.nil)) (.inr rfl) rfl (pu (v := .sc _) (wtG rfl rfl rfl h9) rfl (fun _ => rfl) (pkF (v := bV (r10 != 0)) rfl rfl h9 rfl (pS rfl (brR hR (fun h11 hR => ?_) fun h11 hR => ?_))))
      ·refine sk (skW rfl rfl rfl h11) (sk (skW rfl rfl rfl h11) (pkT (v := bV true) rfl rfl h11 rfl (pS rfl (sk (skW rfl rfl rfl rfl) (sk (skW rfl rfl rfl rfl) (pkT (v := bV true) rfl rfl rfl rfl (RunC.fin ?_)))))))
       have hR := Option.some.inj hR; subst hR
       exact Weak.turnL [(0, 0), (1, 0), (2, 0), (39, 0), (43, 0)] [] rfl rfl (tc (trP' rfl rfl rfl rfl) (tc (trP' rfl rfl rfl rfl) (tc (trP' rfl rfl rfl rfl) (tc (trP' rfl rfl rfl rfl) (tc (trP' rfl rfl rfl rfl) (tc (.sc _) (tc (.sc _) tn))))))) (mc rfl (.box rfl (.c3 (.cons (.sc _) .nil)) rfl) (mc rfl (.box rfl .z9 rfl) (mc rfl (.box rfl .z9 rfl) (mc rfl (.box rfl .z3 rfl) (mc rfl (.box rfl .z3 rfl) mn)))))
      ·refine fa (wtG rfl rfl rfl h11) rfl ti33 rfl rfl ti4 rfl (ldB (v := .sc _) (wtG rfl rfl rfl h11) rfl rfl rfl ti4 rfl rfl (pkF (v := bV (gt ([a.X, a.Y, a.Z] : List Bound) s1.2).Unknown) rfl rfl h11 rfl (pS rfl (brR hR (fun h12 hR => ?_) fun h12 hR => ?_))))
       ·refine sk (skW rfl rfl rfl h12) (sk (skW rfl rfl rfl h12) (pkT (v := bV true) rfl rfl h12 rfl (RunC.fin ?_)))
        have hR := Option.some.inj hR; subst hR
        exact Weak.turnL [(0, 0), (1, 0), (2, 0), (39, 0), (43, 0)] [] rfl rfl (tc (trP' rfl rfl rfl rfl) (tc (trP' rfl rfl rfl rfl) (tc (trP' rfl rfl rfl rfl) (tc (trP' rfl rfl rfl rfl) (tc (trP' rfl rfl rfl rfl) (tc (.sc _) (tc (.sc _) tn))))))) (mc rfl (.box rfl (.c3 (.cons (.sc _) .nil)) rfl) (mc rfl (.box rfl .z9 rfl) (mc rfl (.box rfl .z9 rfl) (mc rfl (.box rfl .z3 rfl) (mc rfl (.box rfl .z3 rfl) mn)))))
       ·refine fa (wtG rfl rfl rfl h12) rfl ti33 rfl rfl ti4 rfl (ldB (v := .sc _) (wtG rfl rfl rfl h12) rfl rfl rfl ti4 rfl rfl (pkF (v := bV (gt ([b.X, b.Y, b.Z] : List Bound) s1.2).Unknown) rfl rfl h12 rfl (RunC.fin ?_)))
        have hR := Option.some.inj hR; subst hR
        exact Weak.turnL [(0, 0), (1, 0), (2, 0), (39, 0), (43, 0)] [] rfl rfl (tc (trP' rfl rfl rfl rfl) (tc (trP' rfl rfl rfl rfl) (tc (trP' rfl rfl rfl rfl) (tc (trP' rfl rfl rfl rfl) (tc (trP' rfl rfl rfl rfl) (tc (.sc _) (tc (.sc _) tn))))))) (mc rfl (.box rfl (.c3 (.cons (.sc _) .nil)) rfl) (mc rfl (.box rfl .z9 rfl) (mc rfl (.box rfl .z9 rfl) (mc rfl (.box rfl .z3 rfl) (mc rfl (.box rfl .z3 rfl) mn)))))
    ·refine AWP.cd hR rfl (fun h13 hR => ?_) fun h13 hR => ?_
     ·refine AWP.exit (exT (exH (skT (⟨s1.1, (Option.some.inj hR).symm, ?_⟩))))
      exact Weak.turnL [(0, 0), (1, 0), (2, 0)] [] rfl rfl (tc (trP' rfl rfl rfl rfl) (tc (trP' rfl rfl rfl rfl) (tc (trP' rfl rfl rfl rfl) (tc (.sc _) tn)))) (mc rfl (.box rfl (.c3 (.cons (.sc _) .nil)) rfl) (mc rfl (.box rfl .z9 rfl) (mc rfl (.box rfl .z9 rfl) mn)))
     ·refine AWP.skip (skT (AWP.joinX (fun z14 : change_ratios × Bool => LS.mk [(5, .ptr 0 0 0), (6, .ptr 1 0 0), (7, .ptr 2 0 0), (27, iV s1.2), (69, bV z14.2)] (lblks 0 [boxB (α := change_ratios) true z14.1, boxB (α := Bound × Bound × Bound) true (a.X, a.Y, a.Z), boxB (α := Bound × Bound × Bound) true (b.X, b.Y, b.Z)]) 3) hR (fun o14 hR => ?_) fun z14 hR => ?_))
      ·refine AWP.rgC 77 rfl rfl (pu (v := .ptr _ _ _) rfl rfl (fun _ => rfl) (fa rfl rfl ti33 rfl rfl ti31 rfl (ldB (v := .sc _) rfl rfl rfl rfl ti31 rfl rfl (fa rfl rfl ti33 rfl rfl ti31 rfl (ldB (v := .sc _) rfl rfl rfl rfl ti31 rfl rfl ?_)))))
       obtain ⟨r15, hr15, hR⟩ := bindE hR
       refine cps (res' := bV r15.1) (ups := [(0, boxB (α := change_ratios) true r15.2)]) [0] 25 rfl rfl rfl cb48 (ok48 s1.1 (gt ([a.X, a.Y, a.Z] : List Bound) s1.2).Lo (gt ([b.X, b.Y, b.Z] : List Bound) s1.2).Hi _ hr15) (.cons (ldP rfl rfl) .z2) (pc rfl (.box (.c3 (.cons (.sc _) .nil)) rfl) pn) rfl rfl rfl rfl rfl (by first | rfl | exact renR | exact renA | exact renS | simp only [V.ren, V.rens, renR, renA, renS] | (simp only [V.ren, V.rens, renR, renA, renS]; rfl)) (by simp only [passUps, renBox, renArr]; rfl) (pS rfl (pS rfl (brR hR (fun h16 hR => ?_) fun h16 hR => ?_)))
       ·refine sk (skW rfl rfl rfl h16) (sk (skW rfl rfl rfl h16) (sk (skW rfl rfl rfl h16) (sk (skW rfl rfl rfl h16) (sk (skW rfl rfl rfl h16) (sk (skW rfl rfl rfl h16) (sk (skW rfl rfl rfl h16) (sk (skW rfl rfl rfl h16) (sk (skW rfl rfl rfl h16) (pkT (v := bV true) rfl rfl h16 rfl (RunC.fin ?_))))))))))
        have hR := Option.some.inj hR; subst hR
        exact Weak.turnL [(0, 0), (1, 0), (2, 0)] [] rfl rfl (tc (trP' rfl rfl rfl rfl) (tc (trP' rfl rfl rfl rfl) (tc (trP' rfl rfl rfl rfl) (tc (.sc _) (tc (.sc _) tn))))) (mc rfl (.box rfl (.c3 (.cons (.sc _) .nil)) rfl) (mc rfl (.box rfl .z9 rfl) (mc rfl (.box rfl .z9 rfl) mn)))
       ·refine pu (v := .ptr _ _ _) (wtG rfl rfl rfl h16) rfl (fun _ => rfl) (fa (wtG rfl rfl rfl h16) rfl ti33 rfl rfl ti31 rfl (ldB (v := .sc _) (wtG rfl rfl rfl h16) rfl rfl rfl ti31 rfl rfl (pu (v := .sc _) (wtG rfl rfl rfl h16) rfl (fun _ => rfl) (fa (wtG rfl rfl rfl h16) rfl ti33 rfl rfl ti31 rfl (ldB (v := .sc _) (wtG rfl rfl rfl h16) rfl rfl rfl ti31 rfl rfl (pu (v := .sc _) (wtG rfl rfl rfl h16) rfl (fun _ => rfl) ?_))))))
        obtain ⟨r17, hr17, hR⟩ := bindE hR
        refine cps (res' := bV r17.1) (ups := [(0, boxB (α := change_ratios) true r17.2)]) [0] 65 (wtG rfl rfl rfl h16) rfl rfl cb48 (ok48 r15.2 (w6 (0 - (gt ([a.X, a.Y, a.Z] : List Bound) s1.2).Hi)) (w6 (0 - (gt ([b.X, b.Y, b.Z] : List Bound) s1.2).Lo)) _ hr17) (.cons (ldP rfl rfl) .z2) (pc rfl (.box (.c3 (.cons (.sc _) .nil)) rfl) pn) rfl rfl rfl rfl rfl (by first | rfl | exact renR | exact renA | exact renS | simp only [V.ren, V.rens, renR, renA, renS] | (simp only [V.ren, V.rens, renR, renA, renS]; rfl)) (by simp only [passUps, renBox, renArr]; rfl) (pu (v := .sc _) (wtG rfl rfl rfl h16) rfl (fun _ => rfl) (pkF (v := bV (!r17.1)) rfl rfl h16 rfl (RunC.fin ?_)))
        have hR := Option.some.inj hR; subst hR
        exact Weak.turnL [(0, 0), (1, 0), (2, 0)] [] rfl rfl (tc (trP' rfl rfl rfl rfl) (tc (trP' rfl rfl rfl rfl) (tc (trP' rfl rfl rfl rfl) (tc (.sc _) (tc (.sc _) tn))))) (mc rfl (.box rfl (.c3 (.cons (.sc _) .nil)) rfl) (mc rfl (.box rfl .z9 rfl) (mc rfl (.box rfl .z9 rfl) mn)))
      ·refine AWP.cd hR rfl (fun h18 hR => ?_) fun h18 hR => ?_
       ·refine AWP.sq (AWP.rgC 7 rfl rfl (pS rfl (RunC.fin (AWP.ret (rtB (rtT ?_))))))
        replace hR := escJ hR hE4
        refine rtT (rtB (rtT ?_))
        replace hR := escL hR hE1
        refine rtT ?_
        have hR := Option.some.inj hR; subst hR
        exact hQ _ _ (LS.mk [(4, bV false)] (lblks 0 []) 0) (bV false) [] (.inr rfl) (Weak.turnL [] [] rfl rfl (tc (.sc _) tn) mn) (ro1 (rvT (v := bV false) rfl)) rfl rfl (.sc _) pn
       ·refine AWP.skip (skB ?_)
        refine skT (⟨z14.1, (Option.some.inj hR).symm, ?_⟩)
        exact Weak.turnL [(0, 0), (1, 0), (2, 0)] [] rfl rfl (tc (trP' rfl rfl rfl rfl) (tc (trP' rfl rfl rfl rfl) (tc (trP' rfl rfl rfl rfl) (tc (.sc _) tn)))) (mc rfl (.box rfl (.c3 (.cons (.sc _) .nil)) rfl) (mc rfl (.box rfl .z9 rfl) (mc rfl (.box rfl .z9 rfl) mn)))
   ·refine AWP.rgC 11 rfl rfl (pS rfl (pS rfl (RunC.fin (⟨(z4, w6 (s1.2 + 1)), (Option.some.inj hR).symm, ?_⟩))))
    exact Weak.turnL [(0, 0), (1, 0), (2, 0)] [] rfl rfl (tc (trP' rfl rfl rfl rfl) (tc (trP' rfl rfl rfl rfl) (tc (trP' rfl rfl rfl rfl) (tc (.sc _) tn)))) (mc rfl (.box rfl (.c3 (.cons (.sc _) .nil)) rfl) (mc rfl (.box rfl .z9 rfl) (mc rfl (.box rfl .z9 rfl) mn)))
  ·refine AWP.exit (exT (exT (exH (skT (⟨s1.1, (Option.some.inj hR).symm, ?_⟩)))))
   exact Weak.turnL [(0, 0)] [] rfl rfl (tc (trP' rfl rfl rfl rfl) tn) (mc rfl (.box rfl (.c3 (.cons (.sc _) .nil)) rfl) mn)
 ·refine skT (AWP.joinX (fun z19 : Bool => LS.mk [(4, bV z19)] (lblks 0 []) 0) hR (fun o19 hR => ?_) fun z19 hR => ?_)
  ·refine AWP.rgD 113 [0, 1, 3, 7, 15, 31, 63, 127, 255, 511, 63, 1087, 3135, 7231, 16383, 63, 32831, 98367, 229439, 63, 524351, 1572927, 3670079, 8388607, 16777215, 33554431, 67108863, 134217727] ⟨[], [none, none, none, some [0], none, none, none, none, none, some [0], none, none, none, some [0], none, none, none, none, some [0], none, none, none, some [0], none, none, none, none, none]⟩ hmix (by kernel_rfl) rfl rfl ?_
   refine pu (v := .ptr _ _ _) rfl rfl (fun _ => rfl) (pu (v := .ptr _ _ _) rfl rfl (fun _ => rfl) (fa rfl rfl ti107 rfl rfl ti2 rfl (ldB (v := .sc _) rfl rfl rfl rfl ti2 rfl rfl (pS rfl (pS rfl (brR hR (fun h20 hR => ?_) fun h20 hR => ?_))))))
   ·refine pu (v := .ptr _ _ _) (wtG rfl rfl rfl h20) rfl (fun _ => rfl) (pu (v := .ptr _ _ _) (wtG rfl rfl rfl h20) rfl (fun _ => rfl) (fa (wtG rfl rfl rfl h20) rfl ti107 rfl rfl ti2 rfl (ldB (v := .sc _) (wtG rfl rfl rfl h20) rfl rfl rfl ti2 rfl rfl (pu (v := .ptr _ _ _) (wtG rfl rfl rfl h20) rfl (fun _ => rfl) (pu (v := .ptr _ _ _) (wtG rfl rfl rfl h20) rfl (fun _ => rfl) (fa (wtG rfl rfl rfl h20) rfl ti107 rfl rfl ti2 rfl (ldB (v := .sc _) (wtG rfl rfl rfl h20) rfl rfl rfl ti2 rfl rfl ?_)))))))
    obtain ⟨r21, hr21, hR⟩ := bindE hR
    refine cls [] (wtG rfl rfl rfl h20) rfl cb49 (ok49 z2.lo z2.above _ hr21) .z2 (.inr rfl) rfl (pu (v := .ptr _ _ _) (wtG rfl rfl rfl h20) rfl (fun _ => rfl) (pu (v := .ptr _ _ _) (wtG rfl rfl rfl h20) rfl (fun _ => rfl) (fa (wtG rfl rfl rfl h20) rfl ti107 rfl rfl ti2 rfl (ldB (v := .sc _) (wtG rfl rfl rfl h20) rfl rfl rfl ti2 rfl rfl (pu (v := .ptr _ _ _) (wtG rfl rfl rfl h20) rfl (fun _ => rfl) (pu (v := .ptr _ _ _) (wtG rfl rfl rfl h20) rfl (fun _ => rfl) (fa (wtG rfl rfl rfl h20) rfl ti107 rfl rfl ti2 rfl (ldB (v := .sc _) (wtG rfl rfl rfl h20) rfl rfl rfl ti2 rfl rfl ?_))))))))
    obtain ⟨r22, hr22, hR⟩ := bindE hR
    refine cls [] (wtG rfl rfl rfl h20) rfl cb49 (ok49 z2.hi z2.under _ hr22) .z2 (.inr rfl) rfl ?_
    obtain ⟨r23, hr23, hR⟩ := bindE hR
    refine cls [] (wtG rfl rfl rfl h20) rfl cb50 (ok50 r21 r22 _ hr23) (.cons (.agg .z2 rfl) (.cons (.agg .z2 rfl) (.nil))) (.inr rfl) rfl (pu (v := .sc _) (wtG rfl rfl rfl h20) rfl (fun _ => rfl) (pkT (v := bV (decide (r23 ≤ 0))) rfl rfl h20 rfl (pS rfl (RunC.fin ?_))))
    have hR := Option.some.inj hR; subst hR
    exact Weak.turnL [] [] rfl rfl (tc (.sc _) tn) mn
   ·refine sk (skW rfl rfl rfl h20) (sk (skW rfl rfl rfl h20) (sk (skW rfl rfl rfl h20) (sk (skW rfl rfl rfl h20) (sk (skW rfl rfl rfl h20) (sk (skW rfl rfl rfl h20) (sk (skW rfl rfl rfl h20) (sk (skW rfl rfl rfl h20) (sk (skW rfl rfl rfl h20) (sk (skW rfl rfl rfl h20) (sk (skW rfl rfl rfl h20) (sk (skW rfl rfl rfl h20) (sk (skW rfl rfl rfl h20) (sk (skW rfl rfl rfl h20) (sk (skW rfl rfl rfl h20) (sk (skW rfl rfl rfl h20) (sk (skW rfl rfl rfl h20) ?_))))))))))))))))
    refine sk (skW rfl rfl rfl h20) (sk (skW rfl rfl rfl h20) (sk (skW rfl rfl rfl h20) (pkF (v := bV false) rfl rfl h20 rfl (pS rfl (RunC.fin ?_)))))
    have hR := Option.some.inj hR; subst hR
    exact Weak.turnL [] [] rfl rfl (tc (.sc _) tn) mn
  ·refine AWP.ret ?_
   have hR := Option.some.inj hR; subst hR
   exact hQ _ _ (LS.mk [(4, bV z19)] (lblks 0 []) 0) (bV z19) [] (.inr rfl) (Weak.turnL [] [] rfl rfl (tc (.sc _) tn) mn) (ro1 (rvT (v := bV z19) rfl)) rfl rfl (.sc _) pn
theorem ok19 (s : Seen) (l : List Body) (r : (List Int) × Int) (hR : identify_Known s l = some r) : FnP Tryz.prog 19 [aggV false s, rowV false l] (.tup [rowV (α := Int) true r.1, .sc (.int .i64 r.2)]) := by
 refine fnP_of (FnX.walk Tryz.func19 rfl 48 0 (by simp [Tryz.ntmps19]) rfl fun W S F Q hQ => ?_)
 unfold identify_Known at hR
 refine AWP.sq (AWP.rgC 12 rfl rfl (bx (cs := _) 0 rfl rfl rfl (pS rfl (pS rfl (RunC.fin (AWP.sq (AWP.sq (AWP.rgC 28 rfl rfl (ldB (v := .agg _) rfl rfl rfl rfl ti40 rfl rfl (pu (v := rowV _ l) rfl rfl (fun _ => rfl) ?_))))))))))
 obtain ⟨r1, hr1, hR⟩ := bindE hR
 refine cls [] rfl rfl cb33 (ok33 s l _ hr1) (.cons (.agg (.c9 .z9) rfl) (.cons ldR' (.nil))) (.inr rfl) rfl (pS rfl (RunC.fin (AWP.sq (AWP.rgC 36 rfl rfl (pS rfl (pS rfl (RunC.fin (AWP.cd hR rfl (fun h2 hR => ?_) fun h2 hR => ?_))))))))
 ·refine AWP.sq (AWP.rgC 48 rfl rfl (pS rfl (pS rfl (pS rfl (RunC.fin (AWP.ret (rtT ?_)))))))
  have hR := Option.some.inj hR; subst hR
  exact hQ _ _ (LS.mk [(4, rowV (α := Int) true []), (5, iV r1)] (lblks 0 []) 0) (.tup [rowV (α := Int) true [], iV r1]) [] (.inr rfl) (Weak.turnL [] [] rfl rfl (tc trN (tc (.sc _) tn)) mn) (ro2 (rvT (v := rowV (α := Int) true []) rfl) (rvT (v := iV r1) rfl)) rfl rfl (.tup (.cons ldR' (.cons (.sc _) .nil))) pn
 ·refine AWP.skip (skT (AWP.sq (AWP.rgC 40 rfl rfl (pS rfl (RunC.fin (AWP.sq (AWP.sq (AWP.rgC 52 rfl rfl (pu (v := rowV _ l) rfl rfl (fun _ => rfl) (lenL (α := Body) rfl rfl ti69 rfl ?_))))))))))
  refine pS rfl (RunC.fin (AWP.nilT Int 7 3 rfl ?_))
  refine AWP.loopJ (fun s3 : (List Int) × Int => LS.mk [(2, .ptr 0 0 0), (7, slV Int 1 0 0 s3.1.length), (18, rowV (α := Body) false l), (19, iV (l.length : Int)), (20, iV s3.2)] (lblks 0 [boxB (α := Seen) true s, arrB (α := Int) 3 0 true s3.1]) 2) (fun z4 : (List Int) => LS.mk [(7, slV Int 0 0 0 z4.length)] (lblks 0 [arrB (α := Int) 3 0 true z4]) 1) (identify_Known.l1 s l) hR (s0 := (([] : List Int), 0)) (Weak.turnL [(0, 0), (52, 0)] [] rfl rfl (tc (trP' rfl rfl rfl rfl) (tc (trS' rfl rfl rfl rfl rfl) (tc trR1 (tc (.sc _) (tc (.sc _) tn))))) (mc rfl (.box rfl (.c9 .z9) rfl) (mc rfl (btrA' rfl) mn))) (fun s3 o3 hR => ?_) fun z4 hR => ?_
  ·unfold identify_Known.l1 at hR
   refine AWP.sq (AWP.rgC 6 rfl rfl (pS rfl (RunC.fin (AWP.sq (AWP.cd hR rfl (fun h5 hR => ?_) fun h5 hR => ?_)))))
   ·refine AWP.skip (skT (AWP.joinX (fun z6 : (List Int) => LS.mk [(2, .ptr 0 0 0), (7, slV Int 1 0 0 z6.length), (18, rowV (α := Body) false l), (19, iV (l.length : Int)), (20, iV s3.2)] (lblks 0 [boxB (α := Seen) true s, arrB (α := Int) 3 0 true z6]) 2) hR (fun o6 hR => ?_) fun z6 hR => ?_))
    ·refine AWP.block (AWP.sq (AWP.rgC 30 rfl rfl (pS rfl ?_)))
     obtain ⟨h7, hR⟩ := chkE hR
     refine ixL (α := Body) rfl rfl rfl ti69 rfl ti53 rfl h7 ?_
     refine ldR (v := .agg _) rfl rfl ti53 rfl ?_
     refine al (cs := [iV 0, iV 0, iV 0, iV 0, iV 0, iV 0, iV 0, iV 0]) 18 rfl rfl ti53 rfl rfl (pS rfl (stB (cs' := [iV (gt l s3.2).ID, iV (gt l s3.2).Was.X, iV (gt l s3.2).Was.Y, iV (gt l s3.2).Was.Z, iV (gt l s3.2).Here.X, iV (gt l s3.2).Here.Y, iV (gt l s3.2).Here.Z, iV (gt l s3.2).Rate]) rfl rfl rfl rfl ti53 rfl rfl rfl rfl rfl (RunC.fin (AWP.sq (AWP.rgC 70 rfl rfl (ldB (v := .agg _) rfl rfl rfl rfl ti53 rfl rfl (fa rfl rfl ti40 rfl rfl ti28 rfl (ldB (v := .agg _) rfl rfl rfl rfl ti28 rfl rfl ?_))))))))
     obtain ⟨r8, hr8, hR⟩ := bindE hR
     refine cls [] rfl rfl cb34 (ok34 (gt l s3.2) s.At _ hr8) (.cons (.agg (.c3 (.c3 .z2)) rfl) (.cons (.agg .z3 rfl) (.nil))) (.inr rfl) rfl (pu (v := .tup _) rfl rfl (fun _ => rfl) (pu (v := .agg _) rfl rfl (fun _ => rfl) (pS rfl (al (cs := [iV 0, iV 0, bV false, iV 0, iV 0, bV false, iV 0, iV 0, bV false]) 58 rfl rfl ti84 rfl rfl (stB (cs' := [iV r8.1.1.Lo, iV r8.1.1.Hi, bV r8.1.1.Unknown, iV r8.1.2.1.Lo, iV r8.1.2.1.Hi, bV r8.1.2.1.Unknown, iV r8.1.2.2.Lo, iV r8.1.2.2.Hi, bV r8.1.2.2.Unknown]) rfl rfl rfl rfl ti84 rfl rfl rfl rfl rfl (pS rfl (RunC.fin (AWP.joinX (fun z9 : Bool => LS.mk [(2, .ptr 0 0 0), (7, slV Int 1 0 0 s3.1.length), (8, iV s3.2), (18, rowV (α := Body) false l), (19, iV (l.length : Int)), (20, iV s3.2), (41, bV z9)] (lblks 0 [boxB (α := Seen) true s, arrB (α := Int) 3 0 true s3.1]) 2) hR (fun o9 hR => ?_) fun z9 hR => ?_))))))))
     ·refine AWP.rgD 110 [0, 1, 3, 7, 3, 31, 3, 67, 255, 511] ⟨[], [none, none, none, some [0], some [58], none, none, some [0], none, none]⟩ hmix (by kernel_rfl) rfl rfl ?_
      refine pS rfl (pS rfl (brR hR (fun h10 hR => ?_) fun h10 hR => ?_))
      ·refine fa (wtG rfl rfl rfl h10) rfl ti40 rfl rfl ti30 rfl (ldB (v := .agg _) (wtG rfl rfl rfl h10) rfl rfl rfl ti30 rfl rfl (ldB (v := .agg _) (wtG rfl rfl rfl h10) rfl rfl rfl ti84 rfl rfl ?_))
       obtain ⟨r11, hr11, hR⟩ := bindE hR
       refine cls [] (wtG rfl rfl rfl h10) rfl cb35 (ok35 s.From r8.1 _ hr11) (.cons (.agg .z3 rfl) (.cons (.agg .z9 rfl) (.nil))) (.inr rfl) rfl (fa (wtG rfl rfl rfl h10) rfl ti40 rfl rfl ti35 rfl (ldB (v := .agg _) (wtG rfl rfl rfl h10) rfl rfl rfl ti35 rfl rfl ?_))
       obtain ⟨r12, hr12, hR⟩ := bindE hR
       refine cls [] (wtG rfl rfl rfl h10) rfl cb25 (ok25 r11 s.Box _ hr12) (.cons (.agg .z9 rfl) (.cons (.agg .z9 rfl) (.nil))) (.inr rfl) rfl (pkT (v := bV r12) rfl rfl h10 rfl (RunC.fin ?_))
       have hR := Option.some.inj hR; subst hR
       exact Weak.turnL [(0, 0), (1, 0)] [] rfl rfl (tc (trP' rfl rfl rfl rfl) (tc (trS' rfl rfl rfl rfl rfl) (tc (.sc _) (tc trR1 (tc (.sc _) (tc (.sc _) (tc (.sc _) tn))))))) (mc rfl (.box rfl (.c9 .z9) rfl) (mc rfl (btrA' rfl) mn))
      ·refine sk (skW rfl rfl rfl h10) (sk (skW rfl rfl rfl h10) (sk (skW rfl rfl rfl h10) (sk (skW rfl rfl rfl h10) (sk (skW rfl rfl rfl h10) (sk (skW rfl rfl rfl h10) (sk (skW rfl rfl rfl h10) (pkF (v := bV false) rfl rfl h10 rfl (RunC.fin ?_))))))))
       have hR := Option.some.inj hR; subst hR
       exact Weak.turnL [(0, 0), (1, 0)] [] rfl rfl (tc (trP' rfl rfl rfl rfl) (tc (trS' rfl rfl rfl rfl rfl) (tc (.sc _) (tc trR1 (tc (.sc _) (tc (.sc _) (tc (.sc _) tn))))))) (mc rfl (.box rfl (.c9 .z9) rfl) (mc rfl (btrA' rfl) mn))
     ·refine AWP.cd hR rfl (fun h13 hR => ?_) fun h13 hR => ?_
      ·refine AWP.rgC 22 rfl rfl (pu (v := slV Int _ _ _ _) rfl rfl (fun _ => rfl) (pS rfl (bs (α := Int) 10 true ([s3.2] : List Int) rfl rfl ti22 rfl ti3 rfl rfl rfl rfl rfl ?_)))
       obtain ⟨h14, hR⟩ := chkE hR
       refine ap' (α := Int) (nw := true) (xs := s3.1) (ys := ([s3.2] : List Int)) rfl rfl rfl rfl (srcS' rfl rfl rfl) ti22 rfl ti3 rfl h14 rfl ?_
       refine pu (v := slV Int _ _ _ _) rfl rfl (fun _ => rfl) (RunC.blk (RunC.fin ?_))
       have hR := Option.some.inj hR; subst hR
       exact Weak.turnL [(0, 0), (1, 0)] [] rfl rfl (tc (trP' rfl rfl rfl rfl) (tc (trS' rfl rfl rfl rfl rfl) (tc trR1 (tc (.sc _) (tc (.sc _) tn))))) (mc rfl (.box rfl (.c9 .z9) rfl) (mc rfl (btrA' rfl) mn))
      ·refine AWP.skip (skB ?_)
       refine skT ?_
       have hR := Option.some.inj hR; subst hR
       exact Weak.turnL [(0, 0), (1, 0)] [] rfl rfl (tc (trP' rfl rfl rfl rfl) (tc (trS' rfl rfl rfl rfl rfl) (tc trR1 (tc (.sc _) (tc (.sc _) tn))))) (mc rfl (.box rfl (.c9 .z9) rfl) (mc rfl (btrA' rfl) mn))
    ·refine AWP.rgC 10 rfl rfl (pS rfl (pS rfl (RunC.fin (⟨(z6, w6 (s3.2 + 1)), (Option.some.inj hR).symm, ?_⟩))))
     exact Weak.turnL [(0, 0), (1, 0)] [] rfl rfl (tc (trP' rfl rfl rfl rfl) (tc (trS' rfl rfl rfl rfl rfl) (tc trR1 (tc (.sc _) (tc (.sc _) tn))))) (mc rfl (.box rfl (.c9 .z9) rfl) (mc rfl (btrA' rfl) mn))
   ·refine AWP.exit (exT (exT (exH (skT (⟨s3.1, (Option.some.inj hR).symm, ?_⟩)))))
    exact Weak.turnL [(1, 0)] [] rfl rfl (tc (trS' rfl rfl rfl rfl rfl) tn) (mc rfl (btrA' rfl) mn)
  ·refine skT (AWP.sq (AWP.rgC 13 rfl rfl (pu (v := slV Int _ _ _ _) rfl rfl (fun _ => rfl) (pu (v := slV Int _ _ _ _) rfl rfl (fun _ => rfl) (pS rfl (RunC.fin (AWP.ret ?_)))))))
   have hR := Option.some.inj hR; subst hR
   exact hQ _ _ (LS.mk [(4, rowV (α := Int) true z4), (5, iV 0)] (lblks 0 []) 0) (.tup [rowV (α := Int) true z4, iV 0]) [] (.inr rfl) (Weak.turnL [] [0] rfl rfl (tc (trF' rfl rfl id rfl) (tc (.sc _) tn)) mn) (ro2 (rvT (v := rowV (α := Int) true z4) rfl) (rvT (v := iV 0) rfl)) rfl rfl (.tup (.cons ldR' (.cons (.sc _) .nil))) pn
theorem ok20 (s1_ : List Int) (s2_ : List Int) (r : Bool) (hR : slices_Equal_Int s1_ s2_ = some r) : FnP Tryz.prog 20 [rowV false s1_, rowV false s2_] (.sc (.bool r)) := by
 refine fnP_of (FnX.walk Tryz.func20 rfl 26 0 (by simp [Tryz.ntmps20]) rfl fun W S F Q hQ => ?_)
 unfold slices_Equal_Int at hR
 refine AWP.sq (AWP.rgC 4 rfl rfl (pS rfl (RunC.fin (AWP.sq (AWP.sq (AWP.rgC 24 rfl rfl (pu (v := rowV _ s1_) rfl rfl (fun _ => rfl) (lenL (α := Int) rfl rfl ti22 rfl ?_))))))))
 refine pu (v := rowV _ s2_) rfl rfl (fun _ => rfl) (lenL (α := Int) rfl rfl ti22 rfl ?_)
 refine pS rfl (RunC.fin (AWP.cd hR rfl (fun h1 hR => ?_) fun h1 hR => ?_))
 ·refine AWP.sq (AWP.rgC 28 rfl rfl (pS rfl (RunC.fin (AWP.ret (rtT ?_)))))
  have hR := Option.some.inj hR; subst hR
  exact hQ _ _ (LS.mk [(4, bV false)] (lblks 0 []) 0) (bV false) [] (.inr rfl) (Weak.turnL [] [] rfl rfl (tc (.sc _) tn) mn) (ro1 (rvT (v := bV false) rfl)) rfl rfl (.sc _) pn
 ·refine AWP.skip (skT (AWP.sq (AWP.sq (AWP.rgC 36 rfl rfl (pu (v := rowV _ s1_) rfl rfl (fun _ => rfl) (lenL (α := Int) rfl rfl ti22 rfl ?_))))))
  refine pS rfl (RunC.fin (AWP.loopK' (fun s2 : Int => LS.mk [(0, rowV (α := Int) false s1_), (1, rowV (α := Int) false s2_), (12, iV (s1_.length : Int)), (13, iV s2)] (lblks 0 []) 0) (fun z3 : Unit => LS.mk [] (lblks 0 []) 0) (slices_Equal_Int.l1 s1_ s2_) hR (s0 := 0) (Weak.turnL [] [] rfl rfl (tc trR1 (tc trR1 (tc (.sc _) (tc (.sc _) tn)))) mn) (fun s2 o2 hR hE2 => ?_) fun z3 hR => ?_))
  ·unfold slices_Equal_Int.l1 at hR
   refine AWP.sq (AWP.rgC 4 rfl rfl (pS rfl (RunC.fin (AWP.sq (AWP.cd hR rfl (fun h4 hR => ?_) fun h4 hR => ?_)))))
   ·refine AWP.skip (skT (AWP.sq (AWP.block (AWP.sq (AWP.rgC 12 rfl rfl (pS rfl (pS rfl (RunC.fin (AWP.sq (AWP.rgD 48 [0, 0, 3, 7, 0, 0, 48, 112, 255] ⟨[], [none, none, none, some [], none, none, none, some [], none]⟩ hmix (by kernel_rfl) rfl rfl ?_))))))))))
    refine pu (v := rowV _ s1_) rfl rfl (fun _ => rfl) (pS rfl ?_)
    obtain ⟨h5, hR⟩ := chkE hR
    refine ixL (α := Int) rfl rfl rfl ti22 rfl ti3 rfl h5 ?_
    refine ldR (v := .sc _) rfl rfl ti3 rfl ?_
    refine pu (v := rowV _ s2_) rfl rfl (fun _ => rfl) (pS rfl ?_)
    obtain ⟨h6, hR⟩ := chkE hR
    refine ixL (α := Int) rfl rfl rfl ti22 rfl ti3 rfl h6 ?_
    refine ldR (v := .sc _) rfl rfl ti3 rfl ?_
    refine pS rfl (RunC.fin (AWP.cd hR rfl (fun h7 hR => ?_) fun h7 hR => ?_))
    ·refine AWP.sq (AWP.rgC 52 rfl rfl (pS rfl (RunC.fin (AWP.ret (rtB (rtT (rtT (rtB (rtT ?_)))))))))
     replace hR := escL hR hE2
     refine rtT ?_
     have hR := Option.some.inj hR; subst hR
     exact hQ _ _ (LS.mk [(4, bV false)] (lblks 0 []) 0) (bV false) [] (.inr rfl) (Weak.turnL [] [] rfl rfl (tc (.sc _) tn) mn) (ro1 (rvT (v := bV false) rfl)) rfl rfl (.sc _) pn
    ·refine AWP.skip (skB ?_)
     refine skT (AWP.rgC 56 rfl rfl (pS rfl (pS rfl (RunC.fin (⟨(w6 (s2 + 1)), (Option.some.inj hR).symm, ?_⟩)))))
     exact Weak.turnL [] [] rfl rfl (tc trR1 (tc trR1 (tc (.sc _) (tc (.sc _) tn)))) mn
   ·refine AWP.exit (exT (exT (exH (skT (⟨(), (Option.some.inj hR).symm, ?_⟩)))))
    exact Weak.turnL [] [] rfl rfl tn mn
  ·refine skT (AWP.sq (AWP.rgC 4 rfl rfl (pS rfl (RunC.fin (AWP.ret ?_)))))
   have hR := Option.some.inj hR; subst hR
   exact hQ _ _ (LS.mk [(4, bV true)] (lblks 0 []) 0) (bV true) [] (.inr rfl) (Weak.turnL [] [] rfl rfl (tc (.sc _) tn) mn) (ro1 (rvT (v := bV true) rfl)) rfl rfl (.sc _) pn
theorem ok7 (r : Bool) (hR : spykeep4_named = some r) : FnP Tryz.prog 7 [] (.sc (.bool r)) := by
 refine fnP_of (FnX.walk Tryz.func7 rfl 26 0 (by simp [Tryz.ntmps7]) rfl fun W S F Q hQ => ?_)
 unfold spykeep4_named at hR
 refine AWP.sq (AWP.rgC 4 rfl rfl (pS rfl (RunC.fin (AWP.sq (AWP.rgC 32 rfl rfl (bu (cs := [iV 0, iV 5, bV false]) rfl bt28 rfl (bu (cs := [iV (-500), iV 0, iV 0]) rfl bt30 rfl (bu (cs := [iV 3, iV 0, iV 0]) rfl bt30 rfl ?_))))))))
 obtain ⟨r1, hr1, hR⟩ := bindE hR
 refine cls [] rfl rfl cb18 (ok18 (Vec.mk 3 0 0) _ hr1) (.cons (.agg .z3 rfl) (.nil)) (.inr rfl) rfl (bu (cs := [iV 0, iV 5, bV false, iV (-500), iV 0, iV 0, iV r1.X.Lo, iV r1.X.Hi, bV r1.X.Unknown, iV r1.Y.Lo, iV r1.Y.Hi, bV r1.Y.Unknown, iV r1.Z.Lo, iV r1.Z.Hi, bV r1.Z.Unknown, iV 0, iV 0, bV false]) rfl bt40 rfl (al (cs := [iV 0, iV 0, bV false, iV 0, iV 0, iV 0, iV 0, iV 0, bV false, iV 0, iV 0, bV false, iV 0, iV 0, bV false, iV 0, iV 0, bV false]) 24 rfl rfl ti40 rfl rfl (stB (cs' := [iV 0, iV 5, bV false, iV (-500), iV 0, iV 0, iV r1.X.Lo, iV r1.X.Hi, bV r1.X.Unknown, iV r1.Y.Lo, iV r1.Y.Hi, bV r1.Y.Unknown, iV r1.Z.Lo, iV r1.Z.Hi, bV r1.Z.Unknown, iV 0, iV 0, bV false]) rfl rfl rfl rfl ti40 rfl rfl rfl rfl rfl (RunC.fin (AWP.sq (AWP.rgC 80 rfl rfl (ldB (v := .agg _) rfl rfl rfl rfl ti40 rfl rfl (bu (cs := [iV 1, iV 0, iV 0, iV 0, iV 0, iV 0, iV 0, iV 0]) rfl bt53 rfl (bu (cs := [iV 0, iV 900, iV 0]) rfl bt30 rfl (bu (cs := [iV 0, iV 900, iV 0]) rfl bt30 rfl (bu (cs := [iV 2, iV 0, iV 900, iV 0, iV 0, iV 900, iV 0, iV 0]) rfl bt53 rfl (bs (α := Body) 52 true ([Body.mk 1 (Vec.mk 0 0 0) (Vec.mk 0 0 0) 0, Body.mk 2 (Vec.mk 0 900 0) (Vec.mk 0 900 0) 0] : List Body) rfl rfl ti69 rfl ti53 rfl rfl rfl rfl rfl ?_))))))))))))
 obtain ⟨r2, hr2, hR⟩ := bindE hR
 refine cls [52] rfl rfl cb19 (ok19 (Seen.mk (Bound.mk 0 5 false) (Vec.mk (-500) 0 0) r1 (Bound.mk 0 0 false)) ([Body.mk 1 (Vec.mk 0 0 0) (Vec.mk 0 0 0) 0, Body.mk 2 (Vec.mk 0 900 0) (Vec.mk 0 900 0) 0] : List Body) _ hr2) (.cons (.agg (.c9 .z9) rfl) (.cons (ldS' rfl rfl rfl rfl) (.nil))) (.inl (by first | rfl | exact freshR | exact freshA | (simp only [V.fresh, V.freshs, freshR, freshA, Bool.and_self]))) rfl (pu (v := .tup _) rfl rfl (fun _ => rfl) (pu (v := rowV _ r2.1) rfl rfl (fun _ => rfl) (pS rfl (pu (v := rowV _ r2.1) rfl rfl (fun _ => rfl) (pS rfl (RunC.fin (AWP.joinX (fun z3 : Bool => LS.mk [(0, bV z3)] (lblks 0 []) 0) hR (fun o3 hR => ?_) fun z3 hR => ?_)))))))
 ·refine AWP.rgC 112 rfl rfl (pS rfl (pS rfl (pS rfl (brR hR (fun h4 hR => ?_) fun h4 hR => ?_))))
  ·refine pu (v := rowV _ r2.1) (wtG rfl rfl rfl h4) rfl (fun _ => rfl) (bs (α := Int) 96 true ([0] : List Int) (wtG rfl rfl rfl h4) rfl ti22 rfl ti3 rfl rfl rfl rfl rfl ?_)
   obtain ⟨r5, hr5, hR⟩ := bindE hR
   refine cls [96] (wtG rfl rfl rfl h4) rfl cb20 (ok20 r2.1 ([0] : List Int) _ hr5) (.cons ldR' (.cons (ldS' rfl rfl rfl rfl) (.nil))) (.inl (by first | rfl | exact freshR | exact freshA | (simp only [V.fresh, V.freshs, freshR, freshA, Bool.and_self]))) rfl (pkT (v := bV r5) rfl rfl h4 rfl (pS rfl (RunC.fin ?_)))
   have hR := Option.some.inj hR; subst hR
   exact Weak.turnL [] [] rfl rfl (tc (.sc _) tn) mn
  ·refine sk (skW rfl rfl rfl h4) (sk (skW rfl rfl rfl h4) (sk (skW rfl rfl rfl h4) (pkF (v := bV false) rfl rfl h4 rfl (pS rfl (RunC.fin ?_)))))
   have hR := Option.some.inj hR; subst hR
   exact Weak.turnL [] [] rfl rfl (tc (.sc _) tn) mn
 ·refine AWP.ret ?_
  have hR := Option.some.inj hR; subst hR
  exact hQ _ _ (LS.mk [(0, bV z3)] (lblks 0 []) 0) (bV z3) [] (.inr rfl) (Weak.turnL [] [] rfl rfl (tc (.sc _) tn) mn) (ro1 (rvT (v := bV z3) rfl)) rfl rfl (.sc _) pn
theorem ok10 (v : Vec) (r : Int) (hR : spykeep4_square v = some r) : FnP Tryz.prog 10 [aggV false v] (.sc (.int .i64 r)) := by
 refine fnP_of (FnX.walk Tryz.func10 rfl 20 0 (by simp [Tryz.ntmps10]) rfl fun W S F Q hQ => ?_)
 unfold spykeep4_square at hR
 refine AWP.sq (AWP.rgC 8 rfl rfl (bx (cs := _) 0 rfl rfl rfl (pS rfl (RunC.fin (AWP.sq (AWP.rgC 80 rfl rfl (fa rfl rfl ti30 rfl rfl ti2 rfl (ldB (v := .sc _) rfl rfl rfl rfl ti2 rfl rfl (fa rfl rfl ti30 rfl rfl ti2 rfl (ldB (v := .sc _) rfl rfl rfl rfl ti2 rfl rfl (pS rfl (fa rfl rfl ti30 rfl rfl ti2 rfl (ldB (v := .sc _) rfl rfl rfl rfl ti2 rfl rfl (fa rfl rfl ti30 rfl rfl ti2 rfl (ldB (v := .sc _) rfl rfl rfl rfl ti2 rfl rfl (pS rfl ?_))))))))))))))))
 refine pS rfl (fa rfl rfl ti30 rfl rfl ti2 rfl (ldB (v := .sc _) rfl rfl rfl rfl ti2 rfl rfl (fa rfl rfl ti30 rfl rfl ti2 rfl (ldB (v := .sc _) rfl rfl rfl rfl ti2 rfl rfl (pS rfl ?_)))))
 obtain ⟨v1, ev1, hR⟩ := letE hR
 refine pu (v := .sc _) rfl rfl (fun _ => puI ev1) (pS rfl (RunC.fin (AWP.ret ?_)))
 have hR := Option.some.inj hR; subst hR
 exact hQ _ _ (LS.mk [(2, iV v1)] (lblks 0 []) 0) (iV v1) [] (.inr rfl) (Weak.turnL [] [] rfl rfl (tc (.sc _) tn) mn) (ro1 (rvT (v := iV v1) rfl)) rfl rfl (.sc _) pn
theorem ok108 (a : Bound) (b : Bound) (r : Bound) (hR : bound_Min a b = some r) : FnP Tryz.prog 108 [aggV false a, aggV false b] (aggV (α := Bound) true r) := by
 refine fnP_of (FnX.walk Tryz.func108 rfl 20 0 (by simp [Tryz.ntmps108]) rfl fun W S F Q hQ => ?_)
 unfold bound_Min at hR
 refine AWP.sq (AWP.rgC 12 rfl rfl (bx (cs := _) 0 rfl rfl rfl (bx (cs := _) 4 rfl rfl rfl (al (cs := [iV 0, iV 0, bV false]) 8 rfl rfl ti33 rfl rfl (RunC.fin (AWP.sq (AWP.sq (AWP.rgC 24 rfl rfl (ldB (v := .agg _) rfl rfl rfl rfl ti33 rfl rfl (ldB (v := .agg _) rfl rfl rfl rfl ti33 rfl rfl ?_))))))))))
 obtain ⟨r1, hr1, hR⟩ := bindE hR
 refine cls [] rfl rfl cb67 (ok67 a b _ hr1) (.cons (.agg .z3 rfl) (.cons (.agg .z3 rfl) (.nil))) (.inr rfl) rfl (RunC.fin (AWP.cd hR rfl (fun h2 hR => ?_) fun h2 hR => ?_))
 ·refine AWP.sq (AWP.rgC 32 rfl rfl ?_)
  obtain ⟨r3, hr3, hR⟩ := bindE hR
  refine cls [] rfl rfl cb45 (ok45 _ hr3) (.nil) (.inr rfl) rfl (stB (cs' := [iV r3.Lo, iV r3.Hi, bV r3.Unknown]) rfl rfl rfl rfl ti33 rfl rfl rfl rfl rfl (RunC.fin (AWP.ret (rtT ?_))))
  have hR := Option.some.inj hR; subst hR
  exact hQ _ _ (LS.mk [(4, .ptr 0 0 0)] (lblks 0 [boxB (α := Bound) true r3]) 1) (aggV (α := Bound) true r3) [] (.inr rfl) (Weak.turnL [(8, 0)] [] rfl rfl (tc (trP' rfl rfl rfl rfl) tn) (mc rfl (.box rfl .z3 rfl) mn)) (ro1 (rvC (v := aggV (α := Bound) true r3) rfl rfl ti33 rfl)) rfl rfl ldA pn
 ·refine AWP.skip (skT (AWP.sq (AWP.rgC 72 rfl rfl (fa rfl rfl ti33 rfl rfl ti31 rfl (ldB (v := .sc _) rfl rfl rfl rfl ti31 rfl rfl (fa rfl rfl ti33 rfl rfl ti31 rfl (ldB (v := .sc _) rfl rfl rfl rfl ti31 rfl rfl (pS rfl (fa rfl rfl ti33 rfl rfl ti31 rfl (ldB (v := .sc _) rfl rfl rfl rfl ti31 rfl rfl (fa rfl rfl ti33 rfl rfl ti31 rfl (ldB (v := .sc _) rfl rfl rfl rfl ti31 rfl rfl (pS rfl ?_)))))))))))))
  obtain ⟨r4, hr4, hR⟩ := bindE hR
  refine cls [] rfl rfl cb68 (ok68 (mn2 a.Lo b.Lo) (mn2 a.Hi b.Hi) _ hr4) .z2 (.inr rfl) rfl (stB (cs' := [iV r4.Lo, iV r4.Hi, bV r4.Unknown]) rfl rfl rfl rfl ti33 rfl rfl rfl rfl rfl (RunC.fin (AWP.ret ?_)))
  have hR := Option.some.inj hR; subst hR
  exact hQ _ _ (LS.mk [(4, .ptr 0 0 0)] (lblks 0 [boxB (α := Bound) true r4]) 1) (aggV (α := Bound) true r4) [] (.inr rfl) (Weak.turnL [(8, 0)] [] rfl rfl (tc (trP' rfl rfl rfl rfl) tn) (mc rfl (.box rfl .z3 rfl) mn)) (ro1 (rvC (v := aggV (α := Bound) true r4) rfl rfl ti33 rfl)) rfl rfl ldA pn
theorem ok106 (a : Bound) (b : Bound) (r : Bound) (hR : bound_Max a b = some r) : FnP Tryz.prog 106 [aggV false a, aggV false b] (aggV (α := Bound) true r) := by
 refine fnP_of (FnX.walk Tryz.func106 rfl 11 0 (by simp [Tryz.ntmps106]) rfl fun W S F Q hQ => ?_)
 unfold bound_Max at hR
 refine AWP.sq (AWP.rgC 12 rfl rfl (bx (cs := _) 0 rfl rfl rfl (bx (cs := _) 4 rfl rfl rfl (al (cs := [iV 0, iV 0, bV false]) 8 rfl rfl ti33 rfl rfl (RunC.fin (AWP.sq (AWP.rgD 40 [0, 1, 0, 7, 15, 31, 63] ⟨[], [some [0], none, some [4], none, none, none, some [8]]⟩ hmix (by kernel_rfl) rfl rfl ?_)))))))
 refine ldB (v := .agg _) rfl rfl rfl rfl ti33 rfl rfl ?_
 obtain ⟨r1, hr1, hR⟩ := bindE hR
 refine cls [] rfl rfl cb62 (ok62 a _ hr1) (.cons (.agg .z3 rfl) (.nil)) (.inr rfl) rfl (ldB (v := .agg _) rfl rfl rfl rfl ti33 rfl rfl ?_)
 obtain ⟨r2, hr2, hR⟩ := bindE hR
 refine cls [] rfl rfl cb62 (ok62 b _ hr2) (.cons (.agg .z3 rfl) (.nil)) (.inr rfl) rfl ?_
 obtain ⟨r3, hr3, hR⟩ := bindE hR
 refine cls [] rfl rfl cb108 (ok108 r1 r2 _ hr3) (.cons (.agg .z3 rfl) (.cons (.agg .z3 rfl) (.nil))) (.inr rfl) rfl ?_
 obtain ⟨r4, hr4, hR⟩ := bindE hR
 refine cls [] rfl rfl cb62 (ok62 r3 _ hr4) (.cons (.agg .z3 rfl) (.nil)) (.inr rfl) rfl (stB (cs' := [iV r4.Lo, iV r4.Hi, bV r4.Unknown]) rfl rfl rfl rfl ti33 rfl rfl rfl rfl rfl (RunC.fin (AWP.ret ?_)))
 have hR := Option.some.inj hR; subst hR
 exact hQ _ _ (LS.mk [(4, .ptr 0 0 0)] (lblks 0 [boxB (α := Bound) true r4]) 1) (aggV (α := Bound) true r4) [] (.inr rfl) (Weak.turnL [(8, 0)] [] rfl rfl (tc (trP' rfl rfl rfl rfl) tn) (mc rfl (.box rfl .z3 rfl) mn)) (ro1 (rvC (v := aggV (α := Bound) true r4) rfl rfl ti33 rfl)) rfl rfl ldA pn
theorem ok103 (b : Bound) (r : Bound) (hR : bound_Abs b = some r) : FnP Tryz.prog 103 [aggV false b] (aggV (α := Bound) true r) := by
 refine fnP_of (FnX.walk Tryz.func103 rfl 28 0 (by simp [Tryz.ntmps103]) rfl fun W S F Q hQ => ?_)
 unfold bound_Abs at hR
 refine AWP.sq (AWP.rgC 8 rfl rfl (bx (cs := _) 0 rfl rfl rfl (al (cs := [iV 0, iV 0, bV false]) 4 rfl rfl ti33 rfl rfl (RunC.fin (AWP.sq (AWP.block (AWP.sq (AWP.rgC 24 rfl rfl (ldB (v := .agg _) rfl rfl rfl rfl ti33 rfl rfl (ldB (v := .agg _) rfl rfl rfl rfl ti33 rfl rfl ?_))))))))))
 obtain ⟨r1, hr1, hR⟩ := bindE hR
 refine cls [] rfl rfl cb67 (ok67 b b _ hr1) (.cons (.agg .z3 rfl) (.cons (.agg .z3 rfl) (.nil))) (.inr rfl) rfl (pS rfl (RunC.fin (AWP.cd hR rfl (fun h2 hR => ?_) fun h2 hR => ?_)))
 ·refine AWP.sq (AWP.rgC 32 rfl rfl ?_)
  obtain ⟨r3, hr3, hR⟩ := bindE hR
  refine cls [] rfl rfl cb45 (ok45 _ hr3) (.nil) (.inr rfl) rfl (stB (cs' := [iV r3.Lo, iV r3.Hi, bV r3.Unknown]) rfl rfl rfl rfl ti33 rfl rfl rfl rfl rfl (RunC.fin (AWP.ret (rtB (rtT ?_)))))
  have hR := Option.some.inj hR; subst hR
  exact hQ _ _ (LS.mk [(2, .ptr 0 0 0)] (lblks 0 [boxB (α := Bound) true r3]) 1) (aggV (α := Bound) true r3) [] (.inr rfl) (Weak.turnL [(4, 0)] [] rfl rfl (tc (trP' rfl rfl rfl rfl) tn) (mc rfl (.box rfl .z3 rfl) mn)) (ro1 (rvC (v := aggV (α := Bound) true r3) rfl rfl ti33 rfl)) rfl rfl ldA pn
 ·refine AWP.joinX (fun z4 : Bool => LS.mk [(1, .ptr 0 0 0), (2, .ptr 1 0 0), (8, bV z4)] (lblks 0 [boxB (α := Bound) true b, boxB (α := Bound) true (Bound.mk 0 0 false)]) 2) hR (fun o4 hR => ?_) fun z4 hR => ?_
  ·refine AWP.rgC 60 rfl rfl (fa rfl rfl ti33 rfl rfl ti31 rfl (ldB (v := .sc _) rfl rfl rfl rfl ti31 rfl rfl (pS rfl (pS rfl (brR hR (fun h5 hR => ?_) fun h5 hR => ?_)))))
   ·refine fa (wtG rfl rfl rfl h5) rfl ti33 rfl rfl ti31 rfl (ldB (v := .sc _) (wtG rfl rfl rfl h5) rfl rfl rfl ti31 rfl rfl (pu (v := .sc _) (wtG rfl rfl rfl h5) rfl (fun _ => rfl) (pkT (v := bV (decide (b.Hi > 0))) rfl rfl h5 rfl (pS rfl (RunC.fin ?_)))))
    have hR := Option.some.inj hR; subst hR
    exact Weak.turnL [(0, 0), (4, 0)] [] rfl rfl (tc (trP' rfl rfl rfl rfl) (tc (trP' rfl rfl rfl rfl) (tc (.sc _) tn))) (mc rfl (.box rfl .z3 rfl) (mc rfl (.box rfl .z3 rfl) mn))
   ·refine sk (skW rfl rfl rfl h5) (sk (skW rfl rfl rfl h5) (sk (skW rfl rfl rfl h5) (pkF (v := bV false) rfl rfl h5 rfl (pS rfl (RunC.fin ?_)))))
    have hR := Option.some.inj hR; subst hR
    exact Weak.turnL [(0, 0), (4, 0)] [] rfl rfl (tc (trP' rfl rfl rfl rfl) (tc (trP' rfl rfl rfl rfl) (tc (.sc _) tn))) (mc rfl (.box rfl .z3 rfl) (mc rfl (.box rfl .z3 rfl) mn))
  ·refine AWP.cd hR rfl (fun h6 hR => ?_) fun h6 hR => ?_
   ·refine AWP.sq (AWP.rgC 34 rfl rfl (fa rfl rfl ti33 rfl rfl ti31 rfl (ldB (v := .sc _) rfl rfl rfl rfl ti31 rfl rfl (pS rfl (fa rfl rfl ti33 rfl rfl ti31 rfl (ldB (v := .sc _) rfl rfl rfl rfl ti31 rfl rfl (pS rfl ?_)))))))
    obtain ⟨r7, hr7, hR⟩ := bindE hR
    refine cls [] rfl rfl cb68 (ok68 0 (mx2 (w6 (0 - b.Lo)) b.Hi) _ hr7) .z2 (.inr rfl) rfl (stB (cs' := [iV r7.Lo, iV r7.Hi, bV r7.Unknown]) rfl rfl rfl rfl ti33 rfl rfl rfl rfl rfl (RunC.fin (AWP.ret (rtB (rtT ?_)))))
    have hR := Option.some.inj hR; subst hR
    exact hQ _ _ (LS.mk [(2, .ptr 0 0 0)] (lblks 0 [boxB (α := Bound) true r7]) 1) (aggV (α := Bound) true r7) [] (.inr rfl) (Weak.turnL [(1, 0)] [] rfl rfl (tc (trP' rfl rfl rfl rfl) tn) (mc rfl (.box rfl .z3 rfl) mn)) (ro1 (rvC (v := aggV (α := Bound) true r7) rfl rfl ti33 rfl)) rfl rfl ldA pn
   ·refine AWP.skip (skB ?_)
    refine skT (AWP.sq (AWP.rgD 22 [0, 0, 2, 7, 15] ⟨[], [some [0], some [0], none, none, some [1]]⟩ hmix (by kernel_rfl) rfl rfl ?_))
    refine ldB (v := .agg _) rfl rfl rfl rfl ti33 rfl rfl (ldB (v := .agg _) rfl rfl rfl rfl ti33 rfl rfl ?_)
    obtain ⟨r8, hr8, hR⟩ := bindE hR
    refine cls [] rfl rfl cb62 (ok62 b _ hr8) (.cons (.agg .z3 rfl) (.nil)) (.inr rfl) rfl ?_
    obtain ⟨r9, hr9, hR⟩ := bindE hR
    refine cls [] rfl rfl cb106 (ok106 b r8 _ hr9) (.cons (.agg .z3 rfl) (.cons (.agg .z3 rfl) (.nil))) (.inr rfl) rfl (stB (cs' := [iV r9.Lo, iV r9.Hi, bV r9.Unknown]) rfl rfl rfl rfl ti33 rfl rfl rfl rfl rfl (RunC.fin (AWP.ret ?_)))
    have hR := Option.some.inj hR; subst hR
    exact hQ _ _ (LS.mk [(2, .ptr 0 0 0)] (lblks 0 [boxB (α := Bound) true r9]) 1) (aggV (α := Bound) true r9) [] (.inr rfl) (Weak.turnL [(1, 0)] [] rfl rfl (tc (trP' rfl rfl rfl rfl) tn) (mc rfl (.box rfl .z3 rfl) mn)) (ro1 (rvC (v := aggV (α := Bound) true r9) rfl rfl ti33 rfl)) rfl rfl ldA pn
theorem ok80 (x : Int) (y : Int) (p2 : Int) (r : Int × Int) (hR : bound_Mul_1 x y p2 = some r) : FnP Tryz.prog 80 [.sc (.int .i64 x), .sc (.int .i64 y), .rp (Cl.c false p2)] (.tup [.sc (.int .i64 r.1), .sc (.int .i64 r.2)]) := by
 refine fnP_of (FnX.walk Tryz.func80 rfl 13 0 (by simp [Tryz.ntmps80]) rfl fun W S F Q hQ => ?_)
 unfold bound_Mul_1 at hR
 refine AWP.sq (AWP.rgC 8 rfl rfl (pS rfl (pS rfl (RunC.fin (AWP.sq (AWP.rgC 40 rfl rfl (pS rfl (pS rfl (ldR (v := .sc _) rfl rfl ti2 rfl ?_)))))))))
 obtain ⟨r1, hr1, hR⟩ := bindE hR
 refine cls [] rfl rfl cb54 (ok54 x y p2 _ hr1) .z3 (.inr rfl) rfl (pS rfl (pS rfl (pS rfl (pS rfl (RunC.fin (AWP.ret ?_))))))
 have hR := Option.some.inj hR; subst hR
 exact hQ _ _ (LS.mk [(5, iV r1.1), (6, iV r1.2)] (lblks 0 []) 0) (.tup [iV r1.1, iV r1.2]) [] (.inr rfl) (Weak.turnL [] [] rfl rfl (tc (.sc _) (tc (.sc _) tn)) mn) (ro2 (rvT (v := iV r1.1) rfl) (rvT (v := iV r1.2) rfl)) rfl rfl (.tup .z2) pn
theorem ok97 (w : num_Wide) (d : Int) (r : Int) (hR : Wide_Mod w d = some r) : FnP Tryz.prog 97 [aggV false w, .sc (.int .i64 d)] (.sc (.int .i64 r)) := by
 refine fnP_of (FnX.walk Tryz.func97 rfl 43 0 (by simp [Tryz.ntmps97]) rfl fun W S F Q hQ => ?_)
 unfold Wide_Mod at hR
 refine AWP.sq (AWP.rgC 8 rfl rfl (bx (cs := _) 0 rfl rfl rfl (pS rfl (RunC.fin (AWP.sq (AWP.sq (AWP.rgC 16 rfl rfl (pS rfl (pS rfl (RunC.fin (AWP.cd hR rfl (fun h1 hR => ?_) fun h1 hR => ?_)))))))))))
 ·refine AWP.sq (AWP.rgC 20 rfl rfl (pS rfl (RunC.fin (AWP.ret (rtT ?_)))))
  have hR := Option.some.inj hR; subst hR
  exact hQ _ _ (LS.mk [(4, iV 0)] (lblks 0 []) 0) (iV 0) [] (.inr rfl) (Weak.turnL [] [] rfl rfl (tc (.sc _) tn) mn) (ro1 (rvT (v := iV 0) rfl)) rfl rfl (.sc _) pn
 ·refine AWP.skip (skT (AWP.sq (AWP.rgC 28 rfl rfl (ldB (v := .agg _) rfl rfl rfl rfl ti111 rfl rfl (al (cs := [iV 0, .sc (.int .u64 0)]) 20 rfl rfl ti111 rfl rfl (stB (cs' := [iV w.Hi, .sc (.int .u64 w.Lo.n)]) rfl rfl rfl rfl ti111 rfl rfl rfl rfl rfl (RunC.fin (AWP.sq (AWP.sq (AWP.rgC 40 rfl rfl (fa rfl rfl ti111 rfl rfl ti2 rfl (ldB (v := .sc _) rfl rfl rfl rfl ti2 rfl rfl (pS rfl (RunC.fin (AWP.cd hR rfl (fun h2 hR => ?_) fun h2 hR => ?_)))))))))))))))
  ·refine AWP.rgC 52 rfl rfl (ldB (v := .agg _) rfl rfl rfl rfl ti111 rfl rfl ?_)
   obtain ⟨r3, hr3, hR⟩ := bindE hR
   refine cls [] rfl rfl cb71 (ok71 w _ hr3) (.cons (.agg .z2 rfl) (.nil)) (.inr rfl) rfl (stB (cs' := [iV r3.Hi, .sc (.int .u64 r3.Lo.n)]) rfl rfl rfl rfl ti111 rfl rfl rfl rfl rfl (RunC.fin (AWP.sq (AWP.rgD 116 [0, 1, 3, 0, 8, 31, 0, 64, 0, 256, 1023, 2047, 4095, 4095, 8191, 32767] ⟨[], [none, some [20], none, none, none, none, none, some [20], none, none, none, none, none, none, none, none]⟩ hmix (by kernel_rfl) rfl rfl ?_))))
   refine fa rfl rfl ti111 rfl rfl ti2 rfl (ldB (v := .sc _) rfl rfl rfl rfl ti2 rfl rfl (cn rfl rfl ti2 rfl ti109 rfl rfl (pS rfl (cn rfl rfl ti2 rfl ti109 rfl rfl ?_))))
   obtain ⟨h4, hR⟩ := chkE hR
   refine rm rfl rfl rfl h4 rfl ?_
   refine fa rfl rfl ti111 rfl rfl ti109 rfl (ldB (v := .sc _) rfl rfl rfl rfl ti109 rfl rfl (pS rfl (cn rfl rfl ti2 rfl ti109 rfl rfl ?_)))
   obtain ⟨r5, hr5, hR⟩ := bindE hR
   refine cls [] rfl rfl cb94 (ok94 (Int.tmod (IntKind.wrap .u64 r3.Hi) (IntKind.wrap .u64 d)) r3.Lo.n (IntKind.wrap .u64 d) _ hr5) .z3 (.inr rfl) rfl (pu (v := .tup _) rfl rfl (fun _ => rfl) (pS rfl (pS rfl (pS rfl (pS rfl (RunC.fin (AWP.sq (AWP.joinX (fun z6 : Unit => LS.mk [(1, iV d), (7, .sc (.int .u64 r5.2.n)), (36, bV (decide (r5.2.n > 0)))] (lblks 0 []) 0) hR (fun o6 hR => ?_) fun z6 hR => ?_))))))))
   ·refine AWP.rgC 144 rfl rfl (fa rfl rfl ti111 rfl rfl ti2 rfl (ldB (v := .sc _) rfl rfl rfl rfl ti2 rfl rfl (pS rfl (pS rfl (pu (v := .sc _) (wtG rfl rfl rfl h2) rfl (fun _ => rfl) (pu (v := .sc _) (wtG rfl rfl rfl h2) rfl (fun _ => rfl) (pkT (v := bV (decide (r5.2.n > 0))) rfl rfl h2 rfl (RunC.fin ?_))))))))
    have hR := Option.some.inj hR; subst hR
    exact Weak.turnL [] [] rfl rfl (tc (.sc _) (tc (.sc _) (tc (.sc _) tn))) mn
   ·refine AWP.cd hR rfl (fun h7 hR => ?_) fun h7 hR => ?_
    ·refine AWP.rgC 20 rfl rfl (pS rfl (cn rfl rfl ti2 rfl ti109 rfl rfl (pS rfl (pS rfl (pS rfl (RunC.fin (AWP.sq (AWP.rgC 32 rfl rfl (pS rfl (cn rfl rfl ti109 rfl ti2 rfl rfl (pS rfl (RunC.fin (AWP.ret ?_)))))))))))))
     have hR := Option.some.inj hR; subst hR
     exact hQ _ _ (LS.mk [(4, iV (w6 (IntKind.wrap .u64 ((IntKind.wrap .u64 d) - r5.2.n))))] (lblks 0 []) 0) (iV (w6 (IntKind.wrap .u64 ((IntKind.wrap .u64 d) - r5.2.n)))) [] (.inr rfl) (Weak.turnL [] [] rfl rfl (tc (.sc _) tn) mn) (ro1 (rvT (v := iV (w6 (IntKind.wrap .u64 ((IntKind.wrap .u64 d) - r5.2.n)))) rfl)) rfl rfl (.sc _) pn
    ·refine AWP.skip (skT (AWP.sq (AWP.rgC 12 rfl rfl (pS rfl (cn rfl rfl ti109 rfl ti2 rfl rfl (pS rfl (RunC.fin (AWP.ret ?_))))))))
     have hR := Option.some.inj hR; subst hR
     exact hQ _ _ (LS.mk [(4, iV (w6 r5.2.n))] (lblks 0 []) 0) (iV (w6 r5.2.n)) [] (.inr rfl) (Weak.turnL [] [] rfl rfl (tc (.sc _) tn) mn) (ro1 (rvT (v := iV (w6 r5.2.n)) rfl)) rfl rfl (.sc _) pn
  ·refine AWP.skip (skT (AWP.sq (AWP.rgD 104 [0, 1, 3, 0, 8, 31, 0, 64, 0, 256, 1023, 2047, 4095, 4095, 8191, 32767] ⟨[], [none, some [20], none, none, none, none, none, some [20], none, none, none, none, none, none, none, none]⟩ hmix (by kernel_rfl) rfl rfl ?_)))
   refine fa rfl rfl ti111 rfl rfl ti2 rfl (ldB (v := .sc _) rfl rfl rfl rfl ti2 rfl rfl (cn rfl rfl ti2 rfl ti109 rfl rfl (pS rfl (cn rfl rfl ti2 rfl ti109 rfl rfl ?_))))
   obtain ⟨h8, hR⟩ := chkE hR
   refine rm rfl rfl rfl h8 rfl ?_
   refine fa rfl rfl ti111 rfl rfl ti109 rfl (ldB (v := .sc _) rfl rfl rfl rfl ti109 rfl rfl (pS rfl (cn rfl rfl ti2 rfl ti109 rfl rfl ?_)))
   obtain ⟨r9, hr9, hR⟩ := bindE hR
   refine cls [] rfl rfl cb94 (ok94 (Int.tmod (IntKind.wrap .u64 w.Hi) (IntKind.wrap .u64 d)) w.Lo.n (IntKind.wrap .u64 d) _ hr9) .z3 (.inr rfl) rfl (pu (v := .tup _) rfl rfl (fun _ => rfl) (pS rfl (pS rfl (pS rfl (pS rfl (RunC.fin (AWP.sq (AWP.joinX (fun z10 : Unit => LS.mk [(1, iV d), (7, .sc (.int .u64 r9.2.n)), (36, bV false)] (lblks 0 []) 0) hR (fun o10 hR => ?_) fun z10 hR => ?_))))))))
   ·refine AWP.rgC 132 rfl rfl (fa rfl rfl ti111 rfl rfl ti2 rfl (ldB (v := .sc _) rfl rfl rfl rfl ti2 rfl rfl (pS rfl (pS rfl (sk (skW rfl rfl rfl h2) (sk (skW rfl rfl rfl h2) (pkF (v := bV false) rfl rfl h2 rfl (RunC.fin ?_))))))))
    have hR := Option.some.inj hR; subst hR
    exact Weak.turnL [] [] rfl rfl (tc (.sc _) (tc (.sc _) (tc (.sc _) tn))) mn
   ·refine AWP.cdF rfl ?_
    refine AWP.skip (skT (AWP.sq (AWP.rgC 12 rfl rfl (pS rfl (cn rfl rfl ti109 rfl ti2 rfl rfl (pS rfl (RunC.fin (AWP.ret ?_))))))))
    have hR := Option.some.inj hR; subst hR
    exact hQ _ _ (LS.mk [(4, iV (w6 r9.2.n))] (lblks 0 []) 0) (iV (w6 r9.2.n)) [] (.inr rfl) (Weak.turnL [] [] rfl rfl (tc (.sc _) tn) mn) (ro1 (rvT (v := iV (w6 r9.2.n)) rfl)) rfl rfl (.sc _) pn
end Go.Proofs.Ids
