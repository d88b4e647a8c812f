/- Each function of the program computes its plain function. Conditions: as each theorem states them. -/
import Derived.Test.YthgccmnmalhmcaaA3
import Derived.Test.YthgccmnmalhmcaaA4
import Derived.Test.YthgccmnmalhmcaaT
import Derived.Test.YthgccmnmalhmcaaP2
namespace Go.Proofs.Arw
open Go Go.Abs Lf
set_option linter.unusedVariables false
set_option linter.unusedSimpArgs false
set_option maxRecDepth 100000
set_option maxHeartbeats 1000000
theorem ok36 (a : Bound × Bound × Bound) (b : Bound × Bound × Bound) (r : (Bound × Bound × Bound)) (hR : arc_cross a b = some r) : FnP Try.prog 36 [aggV false a, aggV false b] (aggV (α := Bound × Bound × Bound) true r) := by
 refine fnP_of (FnX.walk Try.func36 rfl 14 0 (by simp [Try.ntmps36]) rfl fun W S F Q hQ => ?_)
 unfold arc_cross at hR
 refine AWP.sq (AWP.rgC 12 rfl rfl (bx (cs := _) 0 rfl rfl rfl (bx (cs := _) 4 rfl rfl rfl (al (cs := [iV 0, iV 0, bV false, iV 0, iV 0, bV false, iV 0, iV 0, bV false]) 8 rfl rfl ti68 rfl rfl (RunC.fin (AWP.sq (AWP.rgC 20 rfl rfl (pu (v := .fn _ _) rfl rfl (fun _ => rfl) (pu (v := .fn _ _) rfl rfl (fun _ => rfl) (RunC.fin (AWP.sq (AWP.rgC 52 rfl rfl (pu (v := .fn _ _) rfl rfl (fun _ => rfl) ?_)))))))))))))
 obtain ⟨r1, hr1, hR⟩ := bindE hR
 refine cls [0, 4] rfl rfl cb65 (ok65 1 2 a b _ hr1) (.c2 (.cons (ldX rfl rfl .z9 rfl) (.cons (ldX rfl rfl .z9 rfl) (.nil)))) (.inl (by first | rfl | exact freshR | exact freshA | (simp only [V.fresh, V.freshs, freshR, freshA, Bool.and_self]))) rfl (pu (v := .fn _ _) rfl rfl (fun _ => rfl) ?_)
 obtain ⟨r2, hr2, hR⟩ := bindE hR
 refine cls [0, 4] rfl rfl cb65 (ok65 2 0 a b _ hr2) (.c2 (.cons (ldX rfl rfl .z9 rfl) (.cons (ldX rfl rfl .z9 rfl) (.nil)))) (.inl (by first | rfl | exact freshR | exact freshA | (simp only [V.fresh, V.freshs, freshR, freshA, Bool.and_self]))) rfl (pu (v := .fn _ _) rfl rfl (fun _ => rfl) ?_)
 obtain ⟨r3, hr3, hR⟩ := bindE hR
 refine cls [0, 4] rfl rfl cb65 (ok65 0 1 a b _ hr3) (.c2 (.cons (ldX rfl rfl .z9 rfl) (.cons (ldX rfl rfl .z9 rfl) (.nil)))) (.inl (by first | rfl | exact freshR | exact freshA | (simp only [V.fresh, V.freshs, freshR, freshA, Bool.and_self]))) rfl (buA (cs := [iV r1.Lo, iV r1.Hi, bV r1.Unknown, iV r2.Lo, iV r2.Hi, bV r2.Unknown, iV r3.Lo, iV r3.Hi, bV r3.Unknown]) rfl ti68 rfl ti33 rfl rfl ?_)
 refine stB (cs' := [iV r1.Lo, iV r1.Hi, bV r1.Unknown, iV r2.Lo, iV r2.Hi, bV r2.Unknown, iV r3.Lo, iV r3.Hi, bV r3.Unknown]) rfl rfl rfl rfl ti68 rfl rfl rfl rfl rfl (RunC.fin (AWP.ret ?_))
 have hR := Option.some.inj hR; subst hR
 exact hQ _ _ (LS.mk [(4, .ptr 0 0 0)] (lblks 0 [boxB (α := Bound × Bound × Bound) true (r1, r2, r3)]) 1) (aggV (α := Bound × Bound × Bound) true (r1, r2, r3)) [] (.inr rfl) (Weak.turnL [(8, 0)] [] rfl rfl (tc (trP' rfl rfl rfl rfl) tn) (mc rfl (.box rfl .z9 rfl) mn)) (ro1 (rvC (v := aggV (α := Bound × Bound × Bound) true (r1, r2, r3)) rfl rfl ti68 rfl)) rfl rfl ldA pn
theorem ok68 (v : Int) (r : Bound) (hR : bound_Exact v = some r) : FnP Try.prog 68 [.sc (.int .i64 v)] (aggV (α := Bound) true r) := by
 refine fnP_of (FnX.walk Try.func68 rfl 6 0 (by simp [Try.ntmps68]) rfl fun W S F Q hQ => ?_)
 unfold bound_Exact at hR
 refine AWP.sq (AWP.rgC 4 rfl rfl (al (cs := [iV 0, iV 0, bV false]) 0 rfl rfl ti33 rfl rfl (RunC.fin (AWP.sq (AWP.rgC 20 rfl rfl (pS rfl (pS rfl ?_)))))))
 obtain ⟨r1, hr1, hR⟩ := bindE hR
 refine cls [] rfl rfl cb54 (ok54 v v _ hr1) .z2 (.inr rfl) rfl (stB (cs' := [iV r1.Lo, iV r1.Hi, bV r1.Unknown]) rfl rfl rfl rfl ti33 rfl rfl rfl rfl rfl (RunC.fin (AWP.ret ?_)))
 have hR := Option.some.inj hR; subst hR
 exact hQ _ _ (LS.mk [(2, .ptr 0 0 0)] (lblks 0 [boxB (α := Bound) true r1]) 1) (aggV (α := Bound) true r1) [] (.inr rfl) (Weak.turnL [(0, 0)] [] rfl rfl (tc (trP' rfl rfl rfl rfl) tn) (mc rfl (.box rfl .z3 rfl) mn)) (ro1 (rvC (v := aggV (α := Bound) true r1) rfl rfl ti33 rfl)) rfl rfl ldA pn
theorem ok38 (v : Vec) (r : (Bound × Bound × Bound)) (hR : arc_exact v = some r) : FnP Try.prog 38 [aggV false v] (aggV (α := Bound × Bound × Bound) true r) := by
 refine fnP_of (FnX.walk Try.func38 rfl 13 0 (by simp [Try.ntmps38]) rfl fun W S F Q hQ => ?_)
 unfold arc_exact at hR
 refine AWP.sq (AWP.rgC 8 rfl rfl (bx (cs := _) 0 rfl rfl rfl (al (cs := [iV 0, iV 0, bV false, iV 0, iV 0, bV false, iV 0, iV 0, bV false]) 4 rfl rfl ti68 rfl rfl (RunC.fin (AWP.sq (AWP.rgD 52 [0, 1, 3, 0, 8, 31, 0, 64, 255, 511, 1023] ⟨[], [none, some [0], none, none, some [0], none, none, some [0], none, none, some [4]]⟩ hmix (by kernel_rfl) rfl rfl ?_))))))
 refine fa rfl rfl ti30 rfl rfl ti2 rfl (ldB (v := .sc _) rfl rfl rfl rfl ti2 rfl rfl ?_)
 obtain ⟨r1, hr1, hR⟩ := bindE hR
 refine cls [] rfl rfl cb68 (ok68 v.X _ hr1) (.cons (.sc _) .nil) (.inr rfl) rfl (fa rfl rfl ti30 rfl rfl ti2 rfl (ldB (v := .sc _) rfl rfl rfl rfl ti2 rfl rfl ?_))
 obtain ⟨r2, hr2, hR⟩ := bindE hR
 refine cls [] rfl rfl cb68 (ok68 v.Y _ hr2) (.cons (.sc _) .nil) (.inr rfl) rfl (fa rfl rfl ti30 rfl rfl ti2 rfl (ldB (v := .sc _) rfl rfl rfl rfl ti2 rfl rfl ?_))
 obtain ⟨r3, hr3, hR⟩ := bindE hR
 refine cls [] rfl rfl cb68 (ok68 v.Z _ hr3) (.cons (.sc _) .nil) (.inr rfl) rfl (buA (cs := [iV r1.Lo, iV r1.Hi, bV r1.Unknown, iV r2.Lo, iV r2.Hi, bV r2.Unknown, iV r3.Lo, iV r3.Hi, bV r3.Unknown]) rfl ti68 rfl ti33 rfl rfl ?_)
 refine stB (cs' := [iV r1.Lo, iV r1.Hi, bV r1.Unknown, iV r2.Lo, iV r2.Hi, bV r2.Unknown, iV r3.Lo, iV r3.Hi, bV r3.Unknown]) rfl rfl rfl rfl ti68 rfl rfl rfl rfl rfl (RunC.fin (AWP.ret ?_))
 have hR := Option.some.inj hR; subst hR
 exact hQ _ _ (LS.mk [(2, .ptr 0 0 0)] (lblks 0 [boxB (α := Bound × Bound × Bound) true (r1, r2, r3)]) 1) (aggV (α := Bound × Bound × Bound) true (r1, r2, r3)) [] (.inr rfl) (Weak.turnL [(4, 0)] [] rfl rfl (tc (trP' rfl rfl rfl rfl) tn) (mc rfl (.box rfl .z9 rfl) mn)) (ro1 (rvC (v := aggV (α := Bound × Bound × Bound) true (r1, r2, r3)) rfl rfl ti68 rfl)) rfl rfl ldA pn
theorem ok39 (a : Bound × Bound × Bound) (b : Bound × Bound × Bound) (unit : Int) (r : Bound) (hR : arc_dot a b unit = some r) : FnP Try.prog 39 [aggV false a, aggV false b, .sc (.int .i64 unit)] (aggV (α := Bound) true r) := by
 refine fnP_of (FnX.walk Try.func39 rfl 27 0 (by simp [Try.ntmps39]) rfl fun W S F Q hQ => ?_)
 unfold arc_dot at hR
 refine AWP.sq (AWP.rgC 12 rfl rfl (bx (cs := _) 0 rfl rfl rfl (bx (cs := _) 4 rfl rfl rfl (al (cs := [iV 0, iV 0, bV false]) 8 rfl rfl ti33 rfl rfl (RunC.fin (AWP.sq (AWP.rgD 96 [0, 1, 0, 4, 0, 31, 0, 64, 0, 256, 0, 2047, 0, 4096, 0, 16384, 0, 131071, 262143, 524287, 1048575] ⟨[], [none, some [0], none, some [4], none, none, none, some [0], none, some [4], none, none, none, some [0], none, some [4], none, none, none, none, some [8]]⟩ hmix (by kernel_rfl) rfl rfl ?_)))))))
 refine iaP (o' := 0) rfl rfl rfl ti68 rfl ti33 (by decide) rfl (ldB (v := .agg _) rfl rfl rfl rfl ti33 rfl rfl (iaP (o' := 0) rfl rfl rfl ti68 rfl ti33 (by decide) rfl (ldB (v := .agg _) rfl rfl rfl rfl ti33 rfl rfl (pS rfl ?_))))
 obtain ⟨r1, hr1, hR⟩ := bindE hR
 refine cls [] rfl rfl cb67 (ok67 a.1 b.1 unit _ hr1) (.cons (.agg .z3 rfl) (.cons (.agg .z3 rfl) (.cons (.sc _) .nil))) (.inr rfl) rfl (iaP (o' := 3) rfl rfl rfl ti68 rfl ti33 (by decide) rfl (ldB (v := .agg _) rfl rfl rfl rfl ti33 rfl rfl (iaP (o' := 3) rfl rfl rfl ti68 rfl ti33 (by decide) rfl (ldB (v := .agg _) rfl rfl rfl rfl ti33 rfl rfl (pS rfl ?_)))))
 obtain ⟨r2, hr2, hR⟩ := bindE hR
 refine cls [] rfl rfl cb67 (ok67 a.2.1 b.2.1 unit _ hr2) (.cons (.agg .z3 rfl) (.cons (.agg .z3 rfl) (.cons (.sc _) .nil))) (.inr rfl) rfl (iaP (o' := 6) rfl rfl rfl ti68 rfl ti33 (by decide) rfl (ldB (v := .agg _) rfl rfl rfl rfl ti33 rfl rfl (iaP (o' := 6) rfl rfl rfl ti68 rfl ti33 (by decide) rfl (ldB (v := .agg _) rfl rfl rfl rfl ti33 rfl rfl (pS rfl ?_)))))
 obtain ⟨r3, hr3, hR⟩ := bindE hR
 refine cls [] rfl rfl cb67 (ok67 a.2.2 b.2.2 unit _ hr3) (.cons (.agg .z3 rfl) (.cons (.agg .z3 rfl) (.cons (.sc _) .nil))) (.inr rfl) rfl (bs (α := Bound) 84 true ([r1, r2, r3] : List Bound) rfl rfl ti97 rfl ti33 rfl rfl rfl rfl rfl ?_)
 obtain ⟨r4, hr4, hR⟩ := bindE hR
 refine cls [84] rfl rfl cb40 (ok40 ([r1, r2, r3] : List Bound) _ hr4) (.cons (ldS' rfl rfl rfl rfl) (.nil)) (.inl (by first | rfl | exact freshR | exact freshA | (simp only [V.fresh, V.freshs, freshR, freshA, Bool.and_self]))) rfl (stB (cs' := [iV r4.Lo, iV r4.Hi, bV r4.Unknown]) rfl rfl rfl rfl ti33 rfl rfl rfl rfl rfl (RunC.fin (AWP.ret ?_)))
 have hR := Option.some.inj hR; subst hR
 exact hQ _ _ (LS.mk [(6, .ptr 0 0 0)] (lblks 0 [boxB (α := Bound) true r4]) 1) (aggV (α := Bound) true r4) [] (.inr rfl) (Weak.turnL [(8, 0)] [] rfl rfl (tc (trP' rfl rfl rfl rfl) tn) (mc rfl (.box rfl .z3 rfl) mn)) (ro1 (rvC (v := aggV (α := Bound) true r4) rfl rfl ti33 rfl)) rfl rfl ldA pn
theorem ok20 (s : Seen × Seen × Seen) (r : arc_plane) (hR : arc_begin s = some r) : FnP Try.prog 20 [aggV false s] (aggV (α := arc_plane) true r) := by
 refine fnP_of (FnX.walk Try.func20 rfl 90 0 (by simp [Try.ntmps20]) rfl fun W S F Q hQ => ?_)
 unfold arc_begin at hR
 refine AWP.sq (AWP.rgC 8 rfl rfl (bx (cs := _) 0 rfl rfl rfl (al (cs := [iV 0, iV 0, bV false, iV 0, iV 0, bV false, iV 0, iV 0, bV false, iV 0, iV 0, bV false, iV 0, iV 0, bV false, iV 0, iV 0, bV false, iV 0, iV 0, bV false, iV 0, iV 0, bV false, iV 0, iV 0, bV false, iV 0, iV 0, bV false, iV 0, iV 0, bV false, iV 0, iV 0, bV false, iV 0, iV 0, bV false]) 4 rfl rfl ti74 rfl rfl (RunC.fin (AWP.sq (AWP.rgC 48 rfl rfl (iaP (o' := 0) rfl rfl rfl ti41 rfl ti40 (by decide) rfl (fa rfl rfl ti40 rfl rfl ti35 rfl (ldB (v := .agg _) rfl rfl rfl rfl ti35 rfl rfl ?_)))))))))
 obtain ⟨r1, hr1, hR⟩ := bindE hR
 refine cls [] rfl rfl cb17 (ok17 s.1.Box _ hr1) (.cons (.agg .z9 rfl) (.nil)) (.inr rfl) rfl (pu (v := .tup _) rfl rfl (fun _ => rfl) (pu (v := .agg _) rfl rfl (fun _ => rfl) (pS rfl (al (cs := [iV 0, iV 0, bV false, iV 0, iV 0, bV false, iV 0, iV 0, bV false]) 36 rfl rfl ti68 rfl rfl (stB (cs' := [iV r1.1.1.Lo, iV r1.1.1.Hi, bV r1.1.1.Unknown, iV r1.1.2.1.Lo, iV r1.1.2.1.Hi, bV r1.1.2.1.Unknown, iV r1.1.2.2.Lo, iV r1.1.2.2.Hi, bV r1.1.2.2.Unknown]) rfl rfl rfl rfl ti68 rfl rfl rfl rfl rfl (pS rfl (RunC.fin (AWP.sq (AWP.rgC 88 rfl rfl (iaP (o' := 18) rfl rfl rfl ti41 rfl ti40 (by decide) rfl (fa rfl rfl ti40 rfl rfl ti35 rfl (ldB (v := .agg _) rfl rfl rfl rfl ti35 rfl rfl ?_))))))))))))
 obtain ⟨r2, hr2, hR⟩ := bindE hR
 refine cls [] rfl rfl cb17 (ok17 s.2.1.Box _ hr2) (.cons (.agg .z9 rfl) (.nil)) (.inr rfl) rfl (pu (v := .tup _) rfl rfl (fun _ => rfl) (pu (v := .agg _) rfl rfl (fun _ => rfl) (pS rfl (al (cs := [iV 0, iV 0, bV false, iV 0, iV 0, bV false, iV 0, iV 0, bV false]) 76 rfl rfl ti68 rfl rfl (stB (cs' := [iV r2.1.1.Lo, iV r2.1.1.Hi, bV r2.1.1.Unknown, iV r2.1.2.1.Lo, iV r2.1.2.1.Hi, bV r2.1.2.1.Unknown, iV r2.1.2.2.Lo, iV r2.1.2.2.Hi, bV r2.1.2.2.Unknown]) rfl rfl rfl rfl ti68 rfl rfl rfl rfl rfl (pS rfl (RunC.fin (AWP.sq (AWP.rgC 128 rfl rfl (iaP (o' := 36) rfl rfl rfl ti41 rfl ti40 (by decide) rfl (fa rfl rfl ti40 rfl rfl ti35 rfl (ldB (v := .agg _) rfl rfl rfl rfl ti35 rfl rfl ?_))))))))))))
 obtain ⟨r3, hr3, hR⟩ := bindE hR
 refine cls [] rfl rfl cb17 (ok17 s.2.2.Box _ hr3) (.cons (.agg .z9 rfl) (.nil)) (.inr rfl) rfl (pu (v := .tup _) rfl rfl (fun _ => rfl) (pu (v := .agg _) rfl rfl (fun _ => rfl) (pS rfl (al (cs := [iV 0, iV 0, bV false, iV 0, iV 0, bV false, iV 0, iV 0, bV false]) 116 rfl rfl ti68 rfl rfl (stB (cs' := [iV r3.1.1.Lo, iV r3.1.1.Hi, bV r3.1.1.Unknown, iV r3.1.2.1.Lo, iV r3.1.2.1.Hi, bV r3.1.2.1.Unknown, iV r3.1.2.2.Lo, iV r3.1.2.2.Hi, bV r3.1.2.2.Unknown]) rfl rfl rfl rfl ti68 rfl rfl rfl rfl rfl (pS rfl (RunC.fin (AWP.sq (AWP.rgD 156 [0, 0, 0, 6, 15, 0, 63] ⟨[], [some [36], some [116], some [36], none, none, none, some [148]]⟩ hmix (by kernel_rfl) rfl rfl ?_)))))))))
 refine ldB (v := .agg _) rfl rfl rfl rfl ti68 rfl rfl (ldB (v := .agg _) rfl rfl rfl rfl ti68 rfl rfl (ldB (v := .agg _) rfl rfl rfl rfl ti68 rfl rfl ?_))
 obtain ⟨r4, hr4, hR⟩ := bindE hR
 refine cls [] rfl rfl cb37 (ok37 r3.1 r1.1 _ hr4) (.cons (.agg .z9 rfl) (.cons (.agg .z9 rfl) (.nil))) (.inr rfl) rfl ?_
 obtain ⟨r5, hr5, hR⟩ := bindE hR
 refine cls [] rfl rfl cb36 (ok36 r1.1 r4 _ hr5) (.cons (.agg .z9 rfl) (.cons (.agg .z9 rfl) (.nil))) (.inr rfl) rfl (al (cs := [iV 0, iV 0, bV false, iV 0, iV 0, bV false, iV 0, iV 0, bV false]) 148 rfl rfl ti68 rfl rfl (stB (cs' := [iV r5.1.Lo, iV r5.1.Hi, bV r5.1.Unknown, iV r5.2.1.Lo, iV r5.2.1.Hi, bV r5.2.1.Unknown, iV r5.2.2.Lo, iV r5.2.2.Hi, bV r5.2.2.Unknown]) rfl rfl rfl rfl ti68 rfl rfl rfl rfl rfl (RunC.fin (AWP.sq (AWP.rgD 216 [0, 1, 3, 7, 0, 16, 48, 127, 0, 256, 768, 2047, 4095, 0, 16383] ⟨[], [none, none, some [0], none, none, none, some [0], none, none, none, some [0], none, none, none, some [208]]⟩ hmix (by kernel_rfl) rfl rfl ?_)))))
 refine iaP (o' := 0) rfl rfl rfl ti41 rfl ti40 (by decide) rfl (fa rfl rfl ti40 rfl rfl ti30 rfl (ldB (v := .agg _) rfl rfl rfl rfl ti30 rfl rfl ?_))
 obtain ⟨r6, hr6, hR⟩ := bindE hR
 refine cls [] rfl rfl cb38 (ok38 s.1.From _ hr6) (.cons (.agg .z3 rfl) (.nil)) (.inr rfl) rfl (iaP (o' := 18) rfl rfl rfl ti41 rfl ti40 (by decide) rfl (fa rfl rfl ti40 rfl rfl ti30 rfl (ldB (v := .agg _) rfl rfl rfl rfl ti30 rfl rfl ?_)))
 obtain ⟨r7, hr7, hR⟩ := bindE hR
 refine cls [] rfl rfl cb38 (ok38 s.2.1.From _ hr7) (.cons (.agg .z3 rfl) (.nil)) (.inr rfl) rfl (iaP (o' := 36) rfl rfl rfl ti41 rfl ti40 (by decide) rfl (fa rfl rfl ti40 rfl rfl ti30 rfl (ldB (v := .agg _) rfl rfl rfl rfl ti30 rfl rfl ?_)))
 obtain ⟨r8, hr8, hR⟩ := bindE hR
 refine cls [] rfl rfl cb38 (ok38 s.2.2.From _ hr8) (.cons (.agg .z3 rfl) (.nil)) (.inr rfl) rfl (buA (cs := [iV r6.1.Lo, iV r6.1.Hi, bV r6.1.Unknown, iV r6.2.1.Lo, iV r6.2.1.Hi, bV r6.2.1.Unknown, iV r6.2.2.Lo, iV r6.2.2.Hi, bV r6.2.2.Unknown, iV r7.1.Lo, iV r7.1.Hi, bV r7.1.Unknown, iV r7.2.1.Lo, iV r7.2.1.Hi, bV r7.2.1.Unknown, iV r7.2.2.Lo, iV r7.2.2.Hi, bV r7.2.2.Unknown, iV r8.1.Lo, iV r8.1.Hi, bV r8.1.Unknown, iV r8.2.1.Lo, iV r8.2.1.Hi, bV r8.2.1.Unknown, iV r8.2.2.Lo, iV r8.2.2.Hi, bV r8.2.2.Unknown]) rfl ti93 rfl ti68 rfl rfl ?_)
 refine al (cs := [iV 0, iV 0, bV false, iV 0, iV 0, bV false, iV 0, iV 0, bV false, iV 0, iV 0, bV false, iV 0, iV 0, bV false, iV 0, iV 0, bV false, iV 0, iV 0, bV false, iV 0, iV 0, bV false, iV 0, iV 0, bV false]) 208 rfl rfl ti93 rfl rfl (stB (cs' := [iV r6.1.Lo, iV r6.1.Hi, bV r6.1.Unknown, iV r6.2.1.Lo, iV r6.2.1.Hi, bV r6.2.1.Unknown, iV r6.2.2.Lo, iV r6.2.2.Hi, bV r6.2.2.Unknown, iV r7.1.Lo, iV r7.1.Hi, bV r7.1.Unknown, iV r7.2.1.Lo, iV r7.2.1.Hi, bV r7.2.1.Unknown, iV r7.2.2.Lo, iV r7.2.2.Hi, bV r7.2.2.Unknown, iV r8.1.Lo, iV r8.1.Hi, bV r8.1.Unknown, iV r8.2.1.Lo, iV r8.2.1.Hi, bV r8.2.1.Unknown, iV r8.2.2.Lo, iV r8.2.2.Hi, bV r8.2.2.Unknown]) rfl rfl rfl rfl ti93 rfl rfl rfl rfl rfl (RunC.fin (AWP.sq (AWP.rgD 268 [0, 1, 0, 4, 15, 0, 32, 0, 128, 511, 1023, 0, 4095] ⟨[], [none, some [208], none, some [208], none, none, some [208], none, some [208], none, none, none, some [260]]⟩ hmix (by kernel_rfl) rfl rfl ?_))))
 refine iaP (o' := 18) rfl rfl rfl ti93 rfl ti68 (by decide) rfl (ldB (v := .agg _) rfl rfl rfl rfl ti68 rfl rfl (iaP (o' := 9) rfl rfl rfl ti93 rfl ti68 (by decide) rfl (ldB (v := .agg _) rfl rfl rfl rfl ti68 rfl rfl ?_)))
 obtain ⟨r9, hr9, hR⟩ := bindE hR
 refine cls [] rfl rfl cb37 (ok37 r8 r7 _ hr9) (.cons (.agg .z9 rfl) (.cons (.agg .z9 rfl) (.nil))) (.inr rfl) rfl (iaP (o' := 9) rfl rfl rfl ti93 rfl ti68 (by decide) rfl (ldB (v := .agg _) rfl rfl rfl rfl ti68 rfl rfl (iaP (o' := 0) rfl rfl rfl ti93 rfl ti68 (by decide) rfl (ldB (v := .agg _) rfl rfl rfl rfl ti68 rfl rfl ?_))))
 obtain ⟨r10, hr10, hR⟩ := bindE hR
 refine cls [] rfl rfl cb37 (ok37 r7 r6 _ hr10) (.cons (.agg .z9 rfl) (.cons (.agg .z9 rfl) (.nil))) (.inr rfl) rfl ?_
 obtain ⟨r11, hr11, hR⟩ := bindE hR
 refine cls [] rfl rfl cb37 (ok37 r9 r10 _ hr11) (.cons (.agg .z9 rfl) (.cons (.agg .z9 rfl) (.nil))) (.inr rfl) rfl (al (cs := [iV 0, iV 0, bV false, iV 0, iV 0, bV false, iV 0, iV 0, bV false]) 260 rfl rfl ti68 rfl rfl (stB (cs' := [iV r11.1.Lo, iV r11.1.Hi, bV r11.1.Unknown, iV r11.2.1.Lo, iV r11.2.1.Hi, bV r11.2.1.Unknown, iV r11.2.2.Lo, iV r11.2.2.Hi, bV r11.2.2.Unknown]) rfl rfl rfl rfl ti68 rfl rfl rfl rfl rfl (RunC.fin (AWP.sq (AWP.rgD 384 [0, 0, 2, 0, 0, 0, 48, 0, 0, 496, 0, 2032, 0, 0, 8192, 32752, 0, 65536, 262128, 0, 524288, 2097136, 0, 4194304, 16777200, 33554416, 67108848, 134217727, 268435455] ⟨[], [some [76], none, some [208], some [148], some [148], some [260], none, some [76], some [36], none, some [148], none, some [148], none, some [208], none, none, some [148], none, none, some [148], none, none, some [148], none, none, none, none, some [4]]⟩ hmix (by kernel_rfl) rfl rfl ?_)))))
 refine ldB (v := .agg _) rfl rfl rfl rfl ti68 rfl rfl (iaP (o' := 9) rfl rfl rfl ti93 rfl ti68 (by decide) rfl (ldB (v := .agg _) rfl rfl rfl rfl ti68 rfl rfl (ldB (v := .agg _) rfl rfl rfl rfl ti68 rfl rfl (ldB (v := .agg _) rfl rfl rfl rfl ti68 rfl rfl (ldB (v := .agg _) rfl rfl rfl rfl ti68 rfl rfl ?_)))))
 obtain ⟨r12, hr12, hR⟩ := bindE hR
 refine cls [] rfl rfl cb39 (ok39 r5 r11 1 _ hr12) (.cons (.agg .z9 rfl) (.cons (.agg .z9 rfl) (.cons (.sc _) .nil))) (.inr rfl) rfl (ldB (v := .agg _) rfl rfl rfl rfl ti68 rfl rfl (ldB (v := .agg _) rfl rfl rfl rfl ti68 rfl rfl ?_))
 obtain ⟨r13, hr13, hR⟩ := bindE hR
 refine cls [] rfl rfl cb37 (ok37 r2.1 r1.1 _ hr13) (.cons (.agg .z9 rfl) (.cons (.agg .z9 rfl) (.nil))) (.inr rfl) rfl (ldB (v := .agg _) rfl rfl rfl rfl ti68 rfl rfl ?_)
 obtain ⟨r14, hr14, hR⟩ := bindE hR
 refine cls [] rfl rfl cb39 (ok39 r13 r5 1073741824 _ hr14) (.cons (.agg .z9 rfl) (.cons (.agg .z9 rfl) (.cons (.sc _) .nil))) (.inr rfl) rfl (ldB (v := .agg _) rfl rfl rfl rfl ti68 rfl rfl (iaP (o' := 9) rfl rfl rfl ti93 rfl ti68 (by decide) rfl (ldB (v := .agg _) rfl rfl rfl rfl ti68 rfl rfl ?_)))
 obtain ⟨r15, hr15, hR⟩ := bindE hR
 refine cls [] rfl rfl cb39 (ok39 r5 r7 1 _ hr15) (.cons (.agg .z9 rfl) (.cons (.agg .z9 rfl) (.cons (.sc _) .nil))) (.inr rfl) rfl (iaP (o' := 0) rfl rfl rfl ti68 rfl ti33 (by decide) rfl (ldB (v := .agg _) rfl rfl rfl rfl ti33 rfl rfl ?_))
 obtain ⟨r16, hr16, hR⟩ := bindE hR
 refine cls [] rfl rfl cb41 (ok41 r5.1 _ hr16) (.cons (.agg .z3 rfl) (.nil)) (.inr rfl) rfl (iaP (o' := 3) rfl rfl rfl ti68 rfl ti33 (by decide) rfl (ldB (v := .agg _) rfl rfl rfl rfl ti33 rfl rfl ?_))
 obtain ⟨r17, hr17, hR⟩ := bindE hR
 refine cls [] rfl rfl cb41 (ok41 r5.2.1 _ hr17) (.cons (.agg .z3 rfl) (.nil)) (.inr rfl) rfl (iaP (o' := 6) rfl rfl rfl ti68 rfl ti33 (by decide) rfl (ldB (v := .agg _) rfl rfl rfl rfl ti33 rfl rfl ?_))
 obtain ⟨r18, hr18, hR⟩ := bindE hR
 refine cls [] rfl rfl cb41 (ok41 r5.2.2 _ hr18) (.cons (.agg .z3 rfl) (.nil)) (.inr rfl) rfl (bs (α := Bound) 368 true ([r16, r17, r18] : List Bound) rfl rfl ti97 rfl ti33 rfl rfl rfl rfl rfl ?_)
 obtain ⟨r19, hr19, hR⟩ := bindE hR
 refine cls [368] rfl rfl cb40 (ok40 ([r16, r17, r18] : List Bound) _ hr19) (.cons (ldS' rfl rfl rfl rfl) (.nil)) (.inl (by first | rfl | exact freshR | exact freshA | (simp only [V.fresh, V.freshs, freshR, freshA, Bool.and_self]))) rfl (bu (cs := [iV r2.1.1.Lo, iV r2.1.1.Hi, bV r2.1.1.Unknown, iV r2.1.2.1.Lo, iV r2.1.2.1.Hi, bV r2.1.2.1.Unknown, iV r2.1.2.2.Lo, iV r2.1.2.2.Hi, bV r2.1.2.2.Unknown, iV r7.1.Lo, iV r7.1.Hi, bV r7.1.Unknown, iV r7.2.1.Lo, iV r7.2.1.Hi, bV r7.2.1.Unknown, iV r7.2.2.Lo, iV r7.2.2.Hi, bV r7.2.2.Unknown, iV r5.1.Lo, iV r5.1.Hi, bV r5.1.Unknown, iV r5.2.1.Lo, iV r5.2.1.Hi, bV r5.2.1.Unknown, iV r5.2.2.Lo, iV r5.2.2.Hi, bV r5.2.2.Unknown, iV r12.Lo, iV r12.Hi, bV r12.Unknown, iV r14.Lo, iV r14.Hi, bV r14.Unknown, iV r15.Lo, iV r15.Hi, bV r15.Unknown, iV r19.Lo, iV r19.Hi, bV r19.Unknown]) rfl bt74 rfl (stB (cs' := [iV r2.1.1.Lo, iV r2.1.1.Hi, bV r2.1.1.Unknown, iV r2.1.2.1.Lo, iV r2.1.2.1.Hi, bV r2.1.2.1.Unknown, iV r2.1.2.2.Lo, iV r2.1.2.2.Hi, bV r2.1.2.2.Unknown, iV r7.1.Lo, iV r7.1.Hi, bV r7.1.Unknown, iV r7.2.1.Lo, iV r7.2.1.Hi, bV r7.2.1.Unknown, iV r7.2.2.Lo, iV r7.2.2.Hi, bV r7.2.2.Unknown, iV r5.1.Lo, iV r5.1.Hi, bV r5.1.Unknown, iV r5.2.1.Lo, iV r5.2.1.Hi, bV r5.2.1.Unknown, iV r5.2.2.Lo, iV r5.2.2.Hi, bV r5.2.2.Unknown, iV r12.Lo, iV r12.Hi, bV r12.Unknown, iV r14.Lo, iV r14.Hi, bV r14.Unknown, iV r15.Lo, iV r15.Hi, bV r15.Unknown, iV r19.Lo, iV r19.Hi, bV r19.Unknown]) rfl rfl rfl rfl ti74 rfl rfl rfl rfl rfl (RunC.fin (AWP.ret ?_))))
 have hR := Option.some.inj hR; subst hR
 exact hQ _ _ (LS.mk [(2, .ptr 0 0 0)] (lblks 0 [boxB (α := arc_plane) true (arc_plane.mk r2.1 r7 r5 r12 r14 r15 r19)]) 1) (aggV (α := arc_plane) true (arc_plane.mk r2.1 r7 r5 r12 r14 r15 r19)) [] (.inr rfl) (Weak.turnL [(4, 0)] [] rfl rfl (tc (trP' rfl rfl rfl rfl) tn) (mc rfl (.box rfl (.c9 (.c9 (.c9 (.c9 .z3)))) rfl) mn)) (ro1 (rvC (v := aggV (α := arc_plane) true (arc_plane.mk r2.1 r7 r5 r12 r14 r15 r19)) rfl rfl ti74 rfl)) rfl rfl ldA pn
theorem ok43 (m : Int) (n : Int) (r : Bound) (hR : arc_steps m n = some r) : FnP Try.prog 43 [.sc (.int .i64 m), .sc (.int .i64 n)] (aggV (α := Bound) true r) := by
 refine fnP_of (FnX.walk Try.func43 rfl 10 0 (by simp [Try.ntmps43]) rfl fun W S F Q hQ => ?_)
 unfold arc_steps at hR
 refine AWP.sq (AWP.rgC 4 rfl rfl (al (cs := [iV 0, iV 0, bV false]) 0 rfl rfl ti33 rfl rfl (RunC.fin (AWP.sq (AWP.rgC 28 rfl rfl (pS rfl (pS rfl (pS rfl (pS rfl (bu (cs := [iV (w6 (m * 4096)), iV (w6 (n * 4096)), bV false]) rfl bt33 rfl (stB (cs' := [iV (w6 (m * 4096)), iV (w6 (n * 4096)), bV false]) rfl rfl rfl rfl ti33 rfl rfl rfl rfl rfl (RunC.fin (AWP.ret ?_)))))))))))))
 have hR := Option.some.inj hR; subst hR
 exact hQ _ _ (LS.mk [(4, .ptr 0 0 0)] (lblks 0 [boxB (α := Bound) true (Bound.mk (w6 (m * 4096)) (w6 (n * 4096)) false)]) 1) (aggV (α := Bound) true (Bound.mk (w6 (m * 4096)) (w6 (n * 4096)) false)) [] (.inr rfl) (Weak.turnL [(0, 0)] [] rfl rfl (tc (trP' rfl rfl rfl rfl) tn) (mc rfl (.box rfl .z3 rfl) mn)) (ro1 (rvC (v := aggV (α := Bound) true (Bound.mk (w6 (m * 4096)) (w6 (n * 4096)) false)) rfl rfl ti33 rfl)) rfl rfl ldA pn
theorem ok72 (from_ : Bound × Bound × Bound) (ray : Bound × Bound × Bound) (far : Bound) (r : (Bound × Bound × Bound)) (hR : arc_along from_ ray far = some r) : FnP Try.prog 72 [aggV false from_, aggV false ray, aggV false far] (aggV (α := Bound × Bound × Bound) true r) := by
 refine fnP_of (FnX.walk Try.func72 rfl 25 0 (by simp [Try.ntmps72]) rfl fun W S F Q hQ => ?_)
 unfold arc_along at hR
 refine AWP.sq (AWP.rgC 16 rfl rfl (bx (cs := _) 0 rfl rfl rfl (bx (cs := _) 4 rfl rfl rfl (bx (cs := _) 8 rfl rfl rfl (al (cs := [iV 0, iV 0, bV false, iV 0, iV 0, bV false, iV 0, iV 0, bV false]) 12 rfl rfl ti68 rfl rfl (RunC.fin (AWP.sq (AWP.rgC 20 rfl rfl (al (cs := [iV 0, iV 0, bV false, iV 0, iV 0, bV false, iV 0, iV 0, bV false]) 16 rfl rfl ti68 rfl rfl (RunC.fin (AWP.sq (AWP.sq (AWP.rgC 24 rfl rfl (pS rfl (RunC.fin (AWP.loopJ (fun s1 : (Bound × Bound × Bound) × Int => LS.mk [(3, .ptr 0 0 0), (4, .ptr 1 0 0), (5, .ptr 2 0 0), (6, .ptr 3 0 0), (7, .ptr 4 0 0), (9, iV s1.2)] (lblks 0 [boxB (α := Bound × Bound × Bound) true from_, boxB (α := Bound × Bound × Bound) true ray, boxB (α := Bound) true far, boxB (α := Bound × Bound × Bound) true (Bound.mk 0 0 false, Bound.mk 0 0 false, Bound.mk 0 0 false), boxB (α := Bound × Bound × Bound) true s1.1]) 5) (fun z2 : (Bound × Bound × Bound) => LS.mk [(6, .ptr 0 0 0), (7, .ptr 1 0 0)] (lblks 0 [boxB (α := Bound × Bound × Bound) true (Bound.mk 0 0 false, Bound.mk 0 0 false, Bound.mk 0 0 false), boxB (α := Bound × Bound × Bound) true z2]) 2) (arc_along.l1 from_ ray far) hR (s0 := ((Bound.mk 0 0 false, Bound.mk 0 0 false, Bound.mk 0 0 false), 0)) (Weak.turnL [(0, 0), (4, 0), (8, 0), (12, 0), (16, 0)] [] rfl rfl (tc (trP' rfl rfl rfl rfl) (tc (trP' rfl rfl rfl rfl) (tc (trP' rfl rfl rfl rfl) (tc (trP' rfl rfl rfl rfl) (tc (trP' rfl rfl rfl rfl) (tc (.sc _) tn)))))) (mc rfl (.box rfl .z9 rfl) (mc rfl (.box rfl .z9 rfl) (mc rfl (.box rfl .z3 rfl) (mc rfl (.box rfl .z9 rfl) (mc rfl (.box rfl .z9 rfl) mn)))))) (fun s1 o1 hR => ?_) fun z2 hR => ?_))))))))))))))))
 ·unfold arc_along.l1 at hR
  refine AWP.sq (AWP.rgC 9 rfl rfl (pS rfl (RunC.fin (AWP.sq (AWP.cd hR rfl (fun h3 hR => ?_) fun h3 hR => ?_)))))
  ·refine AWP.skip (skT (AWP.sq (AWP.block (AWP.sq (AWP.rgC 17 rfl rfl (pS rfl (pS rfl (RunC.fin (AWP.rgD 65 [0, 0, 2, 6, 0, 16, 48, 0, 240, 510, 1023, 2047] ⟨[], [none, none, none, some [0], none, none, some [1], some [2], none, none, none, some [4]]⟩ hmix (by kernel_rfl) rfl rfl ?_)))))))))
   refine pS rfl (pS rfl ?_)
   obtain ⟨h4, hR⟩ := chkE hR
   refine iaP (o' := 0 + s1.2.toNat * Cl.e Bound + 0) rfl rfl rfl ti68 rfl ti33 h4 rfl (ldD (α := Bound) (nw := true) (pre := []) (post := []) (xs := ([from_.1, from_.2.1, from_.2.2] : List Bound)) (m := s1.2.toNat) (off := 0) (v := .agg _) rfl rfl rfl rfl rfl rfl (ixlt h4) ti33 rfl rfl rfl rfl (pS rfl ?_))
   obtain ⟨h5, hR⟩ := chkE hR
   refine iaP (o' := 0 + s1.2.toNat * Cl.e Bound + 0) rfl rfl rfl ti68 rfl ti33 h5 rfl (ldD (α := Bound) (nw := true) (pre := []) (post := []) (xs := ([ray.1, ray.2.1, ray.2.2] : List Bound)) (m := s1.2.toNat) (off := 0) (v := .agg _) rfl rfl rfl rfl rfl rfl (ixlt h5) ti33 rfl rfl rfl rfl (ldB (v := .agg _) rfl rfl rfl rfl ti33 rfl rfl ?_))
   obtain ⟨r6, hr6, hR⟩ := bindE hR
   refine cls [] rfl rfl cb67 (ok67 (gt ([ray.1, ray.2.1, ray.2.2] : List Bound) s1.2) far 1073741824 _ hr6) (.cons (.agg .z3 rfl) (.cons (.agg .z3 rfl) (.cons (.sc _) .nil))) (.inr rfl) rfl ?_
   obtain ⟨r7, hr7, hR⟩ := bindE hR
   refine cls [] rfl rfl cb74 (ok74 (gt ([from_.1, from_.2.1, from_.2.2] : List Bound) s1.2) r6 _ hr7) (.cons (.agg .z3 rfl) (.cons (.agg .z3 rfl) (.nil))) (.inr rfl) rfl ?_
   obtain ⟨h8, hR⟩ := chkE hR
   refine iaP (o' := 0 + s1.2.toNat * Cl.e Bound + 0) rfl rfl rfl ti68 rfl ti33 h8 rfl ?_
   obtain ⟨v9, ev9, hR⟩ := letE hR
   refine stD (α := Bound) (nw := true) (pre := []) (post := []) (xs := ([s1.1.1, s1.1.2.1, s1.1.2.2] : List Bound)) (m := s1.2.toNat) (off := 0) (ys := [gt v9 0, gt v9 1, gt v9 2]) (y := r7) (cs' := [iV (gt v9 0).Lo, iV (gt v9 0).Hi, bV (gt v9 0).Unknown, iV (gt v9 1).Lo, iV (gt v9 1).Hi, bV (gt v9 1).Unknown, iV (gt v9 2).Lo, iV (gt v9 2).Hi, bV (gt v9 2).Unknown]) rfl rfl rfl rfl rfl rfl (ixlt h8) ti33 rfl rfl rfl rfl (etaS ev9 rfl rfl) rfl rfl (RunC.blk (RunC.fin (AWP.rgC 73 rfl rfl (pS rfl (pS rfl (RunC.fin (⟨((gt v9 0, gt v9 1, gt v9 2), w6 (s1.2 + 1)), (Option.some.inj hR).symm, ?_⟩)))))))
   exact Weak.turnL [(0, 0), (1, 0), (2, 0), (3, 0), (4, 0)] [] rfl rfl (tc (trP' rfl rfl rfl rfl) (tc (trP' rfl rfl rfl rfl) (tc (trP' rfl rfl rfl rfl) (tc (trP' rfl rfl rfl rfl) (tc (trP' rfl rfl rfl rfl) (tc (.sc _) tn)))))) (mc rfl (.box rfl .z9 rfl) (mc rfl (.box rfl .z9 rfl) (mc rfl (.box rfl .z3 rfl) (mc rfl (.box rfl .z9 rfl) (mc rfl (.box rfl .z9 rfl) mn)))))
  ·refine AWP.exit (exT (exT (exH (skT (⟨s1.1, (Option.some.inj hR).symm, ?_⟩)))))
   exact Weak.turnL [(3, 0), (4, 0)] [] rfl rfl (tc (trP' rfl rfl rfl rfl) (tc (trP' rfl rfl rfl rfl) tn)) (mc rfl (.box rfl .z9 rfl) (mc rfl (.box rfl .z9 rfl) mn))
 ·refine skT (AWP.sq (AWP.rgC 10 rfl rfl (ldB (v := .agg _) rfl rfl rfl rfl ti68 rfl rfl (stB (cs' := [iV z2.1.Lo, iV z2.1.Hi, bV z2.1.Unknown, iV z2.2.1.Lo, iV z2.2.1.Hi, bV z2.2.1.Unknown, iV z2.2.2.Lo, iV z2.2.2.Hi, bV z2.2.2.Unknown]) rfl rfl rfl rfl ti68 rfl rfl rfl rfl rfl (RunC.fin (AWP.ret ?_))))))
  have hR := Option.some.inj hR; subst hR
  exact hQ _ _ (LS.mk [(6, .ptr 0 0 0)] (lblks 0 [boxB (α := Bound × Bound × Bound) true z2]) 1) (aggV (α := Bound × Bound × Bound) true z2) [] (.inr rfl) (Weak.turnL [(0, 0)] [] rfl rfl (tc (trP' rfl rfl rfl rfl) tn) (mc rfl (.box rfl .z9 rfl) mn)) (ro1 (rvC (v := aggV (α := Bound × Bound × Bound) true z2) rfl rfl ti68 rfl)) rfl rfl ldA pn
theorem ok73 (a : Bound) (n : Int) (d : Int) (r : Bound) (hR : bound_Scale a n d = some r) : FnP Try.prog 73 [aggV false a, .sc (.int .i64 n), .sc (.int .i64 d)] (aggV (α := Bound) true r) := by
 refine fnP_of (FnX.walk Try.func73 rfl 12 0 (by simp [Try.ntmps73]) rfl fun W S F Q hQ => ?_)
 unfold bound_Scale at hR
 refine AWP.sq (AWP.rgC 8 rfl rfl (bx (cs := _) 0 rfl rfl rfl (al (cs := [iV 0, iV 0, bV false]) 4 rfl rfl ti33 rfl rfl (RunC.fin (AWP.sq (AWP.rgD 32 [0, 0, 2, 0, 15, 31] ⟨[], [some [0], none, none, none, none, some [4]]⟩ hmix (by kernel_rfl) rfl rfl ?_))))))
 refine ldB (v := .agg _) rfl rfl rfl rfl ti33 rfl rfl (pS rfl ?_)
 obtain ⟨r1, hr1, hR⟩ := bindE hR
 refine cls [] rfl rfl cb68 (ok68 n _ hr1) (.cons (.sc _) .nil) (.inr rfl) rfl (pS rfl ?_)
 obtain ⟨r2, hr2, hR⟩ := bindE hR
 refine cls [] rfl rfl cb67 (ok67 a r1 d _ hr2) (.cons (.agg .z3 rfl) (.cons (.agg .z3 rfl) (.cons (.sc _) .nil))) (.inr rfl) rfl (stB (cs' := [iV r2.Lo, iV r2.Hi, bV r2.Unknown]) rfl rfl rfl rfl ti33 rfl rfl rfl rfl rfl (RunC.fin (AWP.ret ?_)))
 have hR := Option.some.inj hR; subst hR
 exact hQ _ _ (LS.mk [(6, .ptr 0 0 0)] (lblks 0 [boxB (α := Bound) true r2]) 1) (aggV (α := Bound) true r2) [] (.inr rfl) (Weak.turnL [(4, 0)] [] rfl rfl (tc (trP' rfl rfl rfl rfl) tn) (mc rfl (.box rfl .z3 rfl) mn)) (ro1 (rvC (v := aggV (α := Bound) true r2) rfl rfl ti33 rfl)) rfl rfl ldA pn
theorem ok92 (a : Int) (b : Int) (r : Int) (hR : num_FloorDiv a b = some r) : FnP Try.prog 92 [.sc (.int .i64 a), .sc (.int .i64 b)] (.sc (.int .i64 r)) := by
 refine fnP_of (FnX.walk Try.func92 rfl 18 0 (by simp [Try.ntmps92]) rfl fun W S F Q hQ => ?_)
 unfold num_FloorDiv at hR
 refine AWP.sq (AWP.rgC 4 rfl rfl (pS rfl (RunC.fin (AWP.sq (AWP.sq (AWP.rgC 12 rfl rfl (pS rfl (pS rfl (RunC.fin (AWP.cd hR rfl (fun h1 hR => ?_) fun h1 hR => ?_))))))))))
 ·refine AWP.sq (AWP.rgC 16 rfl rfl (pS rfl (RunC.fin (AWP.ret (rtT ?_)))))
  have hR := Option.some.inj hR; subst hR
  exact hQ _ _ (LS.mk [(4, iV 0)] (lblks 0 []) 0) (iV 0) [] (.inr rfl) (Weak.turnL [] [] rfl rfl (tc (.sc _) tn) mn) (ro1 (rvT (v := iV 0) rfl)) rfl rfl (.sc _) pn
 ·refine AWP.skip (skT (AWP.sq (AWP.rgC 28 rfl rfl (pS rfl (pS rfl ?_)))))
  obtain ⟨h2, hR⟩ := chkE hR
  refine qu rfl rfl rfl h2 rfl ?_
  refine pS rfl (RunC.fin (AWP.sq (AWP.sq (AWP.rgC 44 rfl rfl (pS rfl (pS rfl (rm rfl rfl rfl h2 rfl ?_)))))))
  refine pS rfl (RunC.fin (AWP.cd hR rfl (fun h3 hR => ?_) fun h3 hR => ?_))
  ·refine AWP.rgC 56 rfl rfl (pS rfl (pS rfl (pS rfl (RunC.fin (AWP.sq (AWP.rgC 64 rfl rfl (pS rfl (pS rfl (RunC.fin (AWP.ret ?_))))))))))
   have hR := Option.some.inj hR; subst hR
   exact hQ _ _ (LS.mk [(4, iV (w6 ((w6 (Int.tdiv a b)) - 1)))] (lblks 0 []) 0) (iV (w6 ((w6 (Int.tdiv a b)) - 1))) [] (.inr rfl) (Weak.turnL [] [] rfl rfl (tc (.sc _) tn) mn) (ro1 (rvT (v := iV (w6 ((w6 (Int.tdiv a b)) - 1))) rfl)) rfl rfl (.sc _) pn
  ·refine AWP.skip (skT (AWP.sq (AWP.rgC 52 rfl rfl (pS rfl (pS rfl (RunC.fin (AWP.ret ?_)))))))
   have hR := Option.some.inj hR; subst hR
   exact hQ _ _ (LS.mk [(4, iV (w6 (Int.tdiv a b)))] (lblks 0 []) 0) (iV (w6 (Int.tdiv a b))) [] (.inr rfl) (Weak.turnL [] [] rfl rfl (tc (.sc _) tn) mn) (ro1 (rvT (v := iV (w6 (Int.tdiv a b))) rfl)) rfl rfl (.sc _) pn
theorem ok93 (a : Int) (b : Int) (r : Int) (hR : num_CeilDiv a b = some r) : FnP Try.prog 93 [.sc (.int .i64 a), .sc (.int .i64 b)] (.sc (.int .i64 r)) := by
 refine fnP_of (FnX.walk Try.func93 rfl 18 0 (by simp [Try.ntmps93]) rfl fun W S F Q hQ => ?_)
 unfold num_CeilDiv at hR
 refine AWP.sq (AWP.rgC 4 rfl rfl (pS rfl (RunC.fin (AWP.sq (AWP.sq (AWP.rgC 12 rfl rfl (pS rfl (pS rfl (RunC.fin (AWP.cd hR rfl (fun h1 hR => ?_) fun h1 hR => ?_))))))))))
 ·refine AWP.sq (AWP.rgC 16 rfl rfl (pS rfl (RunC.fin (AWP.ret (rtT ?_)))))
  have hR := Option.some.inj hR; subst hR
  exact hQ _ _ (LS.mk [(4, iV 0)] (lblks 0 []) 0) (iV 0) [] (.inr rfl) (Weak.turnL [] [] rfl rfl (tc (.sc _) tn) mn) (ro1 (rvT (v := iV 0) rfl)) rfl rfl (.sc _) pn
 ·refine AWP.skip (skT (AWP.sq (AWP.rgC 28 rfl rfl (pS rfl (pS rfl ?_)))))
  obtain ⟨h2, hR⟩ := chkE hR
  refine qu rfl rfl rfl h2 rfl ?_
  refine pS rfl (RunC.fin (AWP.sq (AWP.sq (AWP.rgC 44 rfl rfl (pS rfl (pS rfl (rm rfl rfl rfl h2 rfl ?_)))))))
  refine pS rfl (RunC.fin (AWP.cd hR rfl (fun h3 hR => ?_) fun h3 hR => ?_))
  ·refine AWP.rgC 56 rfl rfl (pS rfl (pS rfl (pS rfl (RunC.fin (AWP.sq (AWP.rgC 64 rfl rfl (pS rfl (pS rfl (RunC.fin (AWP.ret ?_))))))))))
   have hR := Option.some.inj hR; subst hR
   exact hQ _ _ (LS.mk [(4, iV (w6 ((w6 (Int.tdiv a b)) + 1)))] (lblks 0 []) 0) (iV (w6 ((w6 (Int.tdiv a b)) + 1))) [] (.inr rfl) (Weak.turnL [] [] rfl rfl (tc (.sc _) tn) mn) (ro1 (rvT (v := iV (w6 ((w6 (Int.tdiv a b)) + 1))) rfl)) rfl rfl (.sc _) pn
  ·refine AWP.skip (skT (AWP.sq (AWP.rgC 52 rfl rfl (pS rfl (pS rfl (RunC.fin (AWP.ret ?_)))))))
   have hR := Option.some.inj hR; subst hR
   exact hQ _ _ (LS.mk [(4, iV (w6 (Int.tdiv a b)))] (lblks 0 []) 0) (iV (w6 (Int.tdiv a b))) [] (.inr rfl) (Weak.turnL [] [] rfl rfl (tc (.sc _) tn) mn) (ro1 (rvT (v := iV (w6 (Int.tdiv a b))) rfl)) rfl rfl (.sc _) pn
theorem ok75 (r_ : Bound) (r : Bound) (hR : arc_Strength r_ = some r) : FnP Try.prog 75 [aggV false r_] (aggV (α := Bound) true r) := by
 refine fnP_of (FnX.walk Try.func75 rfl 62 0 (by simp [Try.ntmps75]) rfl fun W S F Q hQ => ?_)
 unfold arc_Strength at hR
 refine AWP.sq (AWP.rgC 8 rfl rfl (bx (cs := _) 0 rfl rfl rfl (al (cs := [iV 0, iV 0, bV false]) 4 rfl rfl ti33 rfl rfl (RunC.fin (AWP.sq (AWP.joinX (fun z1 : Bool => LS.mk [(1, .ptr 0 0 0), (2, .ptr 1 0 0), (25, bV z1)] (lblks 0 [boxB (α := Bound) true r_, boxB (α := Bound) true (Bound.mk 0 0 false)]) 2) hR (fun o1 hR => ?_) fun z1 hR => ?_))))))
 ·refine AWP.rgC 76 rfl rfl (ldB (v := .agg _) rfl rfl rfl rfl ti33 rfl rfl ?_)
  obtain ⟨r2, hr2, hR⟩ := bindE hR
  refine cls [] rfl rfl cb63 (ok63 r_ _ hr2) (.cons (.agg .z3 rfl) (.nil)) (.inr rfl) rfl (pS rfl (pS rfl (brR hR (fun h3 hR => ?_) fun h3 hR => ?_)))
  ·refine sk (skW rfl rfl rfl h3) (sk (skW rfl rfl rfl h3) (pkT (v := bV true) rfl rfl h3 rfl (pS rfl (sk (skW rfl rfl rfl rfl) (sk (skW rfl rfl rfl rfl) (sk (skW rfl rfl rfl rfl) (pkT (v := bV true) rfl rfl rfl rfl (pS rfl (sk (skW rfl rfl rfl rfl) (sk (skW rfl rfl rfl rfl) (sk (skW rfl rfl rfl rfl) (pkT (v := bV true) rfl rfl rfl rfl (RunC.fin ?_)))))))))))))
   have hR := Option.some.inj hR; subst hR
   exact Weak.turnL [(0, 0), (4, 0)] [] rfl rfl (tc (trP' rfl rfl rfl rfl) (tc (trP' rfl rfl rfl rfl) (tc (.sc _) tn))) (mc rfl (.box rfl .z3 rfl) (mc rfl (.box rfl .z3 rfl) mn))
  ·refine fa (wtG rfl rfl rfl h3) rfl ti33 rfl rfl ti4 rfl (ldB (v := .sc _) (wtG rfl rfl rfl h3) rfl rfl rfl ti4 rfl rfl (pkF (v := bV r_.Unknown) rfl rfl h3 rfl (pS rfl (brR hR (fun h4 hR => ?_) fun h4 hR => ?_))))
   ·refine sk (skW rfl rfl rfl h4) (sk (skW rfl rfl rfl h4) (sk (skW rfl rfl rfl h4) (pkT (v := bV true) rfl rfl h4 rfl (pS rfl (sk (skW rfl rfl rfl rfl) (sk (skW rfl rfl rfl rfl) (sk (skW rfl rfl rfl rfl) (pkT (v := bV true) rfl rfl rfl rfl (RunC.fin ?_)))))))))
    have hR := Option.some.inj hR; subst hR
    exact Weak.turnL [(0, 0), (4, 0)] [] rfl rfl (tc (trP' rfl rfl rfl rfl) (tc (trP' rfl rfl rfl rfl) (tc (.sc _) tn))) (mc rfl (.box rfl .z3 rfl) (mc rfl (.box rfl .z3 rfl) mn))
   ·refine fa (wtG rfl rfl rfl h4) rfl ti33 rfl rfl ti31 rfl (ldB (v := .sc _) (wtG rfl rfl rfl h4) rfl rfl rfl ti31 rfl rfl (pu (v := .sc _) (wtG rfl rfl rfl h4) rfl (fun _ => rfl) (pkF (v := bV (decide (r_.Lo < 0))) rfl rfl h4 rfl (pS rfl (brR hR (fun h5 hR => ?_) fun h5 hR => ?_)))))
    ·refine sk (skW rfl rfl rfl h5) (sk (skW rfl rfl rfl h5) (sk (skW rfl rfl rfl h5) (pkT (v := bV true) rfl rfl h5 rfl (RunC.fin ?_))))
     have hR := Option.some.inj hR; subst hR
     exact Weak.turnL [(0, 0), (4, 0)] [] rfl rfl (tc (trP' rfl rfl rfl rfl) (tc (trP' rfl rfl rfl rfl) (tc (.sc _) tn))) (mc rfl (.box rfl .z3 rfl) (mc rfl (.box rfl .z3 rfl) mn))
    ·refine fa (wtG rfl rfl rfl h5) rfl ti33 rfl rfl ti31 rfl (ldB (v := .sc _) (wtG rfl rfl rfl h5) rfl rfl rfl ti31 rfl rfl (pu (v := .sc _) (wtG rfl rfl rfl h5) rfl (fun _ => rfl) (pkF (v := bV (decide (r_.Hi ≥ 67108864))) rfl rfl h5 rfl (RunC.fin ?_))))
     have hR := Option.some.inj hR; subst hR
     exact Weak.turnL [(0, 0), (4, 0)] [] rfl rfl (tc (trP' rfl rfl rfl rfl) (tc (trP' rfl rfl rfl rfl) (tc (.sc _) tn))) (mc rfl (.box rfl .z3 rfl) (mc rfl (.box rfl .z3 rfl) mn))
 ·refine AWP.cd hR rfl (fun h6 hR => ?_) fun h6 hR => ?_
  ·refine AWP.sq (AWP.rgC 10 rfl rfl ?_)
   obtain ⟨r7, hr7, hR⟩ := bindE hR
   refine cls [] rfl rfl cb50 (ok50 _ hr7) (.nil) (.inr rfl) rfl (stB (cs' := [iV r7.Lo, iV r7.Hi, bV r7.Unknown]) rfl rfl rfl rfl ti33 rfl rfl rfl rfl rfl (RunC.fin (AWP.ret (rtT ?_))))
   have hR := Option.some.inj hR; subst hR
   exact hQ _ _ (LS.mk [(2, .ptr 0 0 0)] (lblks 0 [boxB (α := Bound) true r7]) 1) (aggV (α := Bound) true r7) [] (.inr rfl) (Weak.turnL [(1, 0)] [] rfl rfl (tc (trP' rfl rfl rfl rfl) tn) (mc rfl (.box rfl .z3 rfl) mn)) (ro1 (rvC (v := aggV (α := Bound) true r7) rfl rfl ti33 rfl)) rfl rfl ldA pn
  ·refine AWP.skip (skT (AWP.sq (AWP.sq (AWP.rgC 14 rfl rfl (fa rfl rfl ti33 rfl rfl ti31 rfl (ldB (v := .sc _) rfl rfl rfl rfl ti31 rfl rfl (pS rfl (RunC.fin (AWP.cd hR rfl (fun h8 hR => ?_) fun h8 hR => ?_)))))))))
   ·refine AWP.sq (AWP.rgC 22 rfl rfl (bu (cs := [iV 0, iV 0, bV false]) rfl bt33 rfl (stB (cs' := [iV 0, iV 0, bV false]) rfl rfl rfl rfl ti33 rfl rfl rfl rfl rfl (RunC.fin (AWP.ret (rtT ?_))))))
    have hR := Option.some.inj hR; subst hR
    exact hQ _ _ (LS.mk [(2, .ptr 0 0 0)] (lblks 0 [boxB (α := Bound) true (Bound.mk 0 0 false)]) 1) (aggV (α := Bound) true (Bound.mk 0 0 false)) [] (.inr rfl) (Weak.turnL [(1, 0)] [] rfl rfl (tc (trP' rfl rfl rfl rfl) tn) (mc rfl (.box rfl .z3 rfl) mn)) (ro1 (rvC (v := aggV (α := Bound) true (Bound.mk 0 0 false)) rfl rfl ti33 rfl)) rfl rfl ldA pn
   ·refine AWP.skip (skT (AWP.sq (AWP.rgD 42 [0, 1, 0, 4, 12, 3, 63] ⟨[], [none, some [0], none, some [0], none, none, none]⟩ hmix (by kernel_rfl) rfl rfl ?_)))
    refine fa rfl rfl ti33 rfl rfl ti31 rfl (ldB (v := .sc _) rfl rfl rfl rfl ti31 rfl rfl (fa rfl rfl ti33 rfl rfl ti31 rfl (ldB (v := .sc _) rfl rfl rfl rfl ti31 rfl rfl (pS rfl (pS rfl (pS rfl (RunC.fin (AWP.sq (AWP.rgC 78 rfl rfl (pS rfl (pS rfl (pS rfl ?_))))))))))))
    obtain ⟨r9, hr9, hR⟩ := bindE hR
    refine cls [] rfl rfl cb47 (ok47 9007199254740992 68719476736 (w6 (r_.Hi * r_.Hi)) _ hr9) .z3 (.inr rfl) rfl (pu (v := .tup _) rfl rfl (fun _ => rfl) (pS rfl (pS rfl (pS rfl (pS rfl (RunC.fin (AWP.sq (AWP.rgC 114 rfl rfl (pS rfl (pS rfl (pS rfl ?_)))))))))))
    obtain ⟨r10, hr10, hR⟩ := bindE hR
    refine cls [] rfl rfl cb60 (ok60 9007199254740992 68719476736 (w6 ((mx2 r_.Lo 65536) * (mx2 r_.Lo 65536))) _ hr10) .z3 (.inr rfl) rfl (pu (v := .tup _) rfl rfl (fun _ => rfl) (pS rfl (pS rfl (pS rfl (pS rfl (RunC.fin (AWP.sq (AWP.rgC 146 rfl rfl (pS rfl (pS rfl ?_))))))))))
    obtain ⟨r11, hr11, hR⟩ := bindE hR
    refine cls [] rfl rfl cb92 (ok92 r9.1 r_.Hi _ hr11) .z2 (.inr rfl) rfl (pS rfl (pS rfl ?_))
    obtain ⟨r12, hr12, hR⟩ := bindE hR
    refine cls [] rfl rfl cb93 (ok93 r10.1 (mx2 r_.Lo 65536) _ hr12) .z2 (.inr rfl) rfl (pS rfl (pS rfl (RunC.fin (AWP.sq (AWP.sq (AWP.rgC 158 rfl rfl (fa rfl rfl ti33 rfl rfl ti31 rfl (ldB (v := .sc _) rfl rfl rfl rfl ti31 rfl rfl (pS rfl (RunC.fin (AWP.cd hR rfl (fun h13 hR => ?_) fun h13 hR => ?_)))))))))))
    ·refine AWP.rgC 162 rfl rfl (pS rfl (RunC.fin (AWP.sq (AWP.rgC 178 rfl rfl (pS rfl (pS rfl (bu (cs := [iV 0, iV r12, bV false]) rfl bt33 rfl (stB (cs' := [iV 0, iV r12, bV false]) rfl rfl rfl rfl ti33 rfl rfl rfl rfl rfl (RunC.fin (AWP.ret ?_))))))))))
     have hR := Option.some.inj hR; subst hR
     exact hQ _ _ (LS.mk [(2, .ptr 0 0 0)] (lblks 0 [boxB (α := Bound) true (Bound.mk 0 r12 false)]) 1) (aggV (α := Bound) true (Bound.mk 0 r12 false)) [] (.inr rfl) (Weak.turnL [(1, 0)] [] rfl rfl (tc (trP' rfl rfl rfl rfl) tn) (mc rfl (.box rfl .z3 rfl) mn)) (ro1 (rvC (v := aggV (α := Bound) true (Bound.mk 0 r12 false)) rfl rfl ti33 rfl)) rfl rfl ldA pn
    ·refine AWP.skip (skT (AWP.sq (AWP.rgC 174 rfl rfl (pS rfl (pS rfl (bu (cs := [iV r11, iV r12, bV false]) rfl bt33 rfl (stB (cs' := [iV r11, iV r12, bV false]) rfl rfl rfl rfl ti33 rfl rfl rfl rfl rfl (RunC.fin (AWP.ret ?_)))))))))
     have hR := Option.some.inj hR; subst hR
     exact hQ _ _ (LS.mk [(2, .ptr 0 0 0)] (lblks 0 [boxB (α := Bound) true (Bound.mk r11 r12 false)]) 1) (aggV (α := Bound) true (Bound.mk r11 r12 false)) [] (.inr rfl) (Weak.turnL [(1, 0)] [] rfl rfl (tc (trP' rfl rfl rfl rfl) tn) (mc rfl (.box rfl .z3 rfl) mn)) (ro1 (rvC (v := aggV (α := Bound) true (Bound.mk r11 r12 false)) rfl rfl ti33 rfl)) rfl rfl ldA pn
theorem ok77 (a : Bound) (b : Bound) (r : Bound) (hR : bound_Hull a b = some r) : FnP Try.prog 77 [aggV false a, aggV false b] (aggV (α := Bound) true r) := by
 refine fnP_of (FnX.walk Try.func77 rfl 20 0 (by simp [Try.ntmps77]) rfl fun W S F Q hQ => ?_)
 unfold bound_Hull at hR
 refine AWP.sq (AWP.rgC 12 rfl rfl (bx (cs := _) 0 rfl rfl rfl (bx (cs := _) 4 rfl rfl rfl (al (cs := [iV 0, iV 0, bV false]) 8 rfl rfl ti33 rfl rfl (RunC.fin (AWP.sq (AWP.sq (AWP.rgC 24 rfl rfl (ldB (v := .agg _) rfl rfl rfl rfl ti33 rfl rfl (ldB (v := .agg _) rfl rfl rfl rfl ti33 rfl rfl ?_))))))))))
 obtain ⟨r1, hr1, hR⟩ := bindE hR
 refine cls [] rfl rfl cb49 (ok49 a b _ hr1) (.cons (.agg .z3 rfl) (.cons (.agg .z3 rfl) (.nil))) (.inr rfl) rfl (RunC.fin (AWP.cd hR rfl (fun h2 hR => ?_) fun h2 hR => ?_))
 ·refine AWP.sq (AWP.rgC 32 rfl rfl ?_)
  obtain ⟨r3, hr3, hR⟩ := bindE hR
  refine cls [] rfl rfl cb50 (ok50 _ hr3) (.nil) (.inr rfl) rfl (stB (cs' := [iV r3.Lo, iV r3.Hi, bV r3.Unknown]) rfl rfl rfl rfl ti33 rfl rfl rfl rfl rfl (RunC.fin (AWP.ret (rtT ?_))))
  have hR := Option.some.inj hR; subst hR
  exact hQ _ _ (LS.mk [(4, .ptr 0 0 0)] (lblks 0 [boxB (α := Bound) true r3]) 1) (aggV (α := Bound) true r3) [] (.inr rfl) (Weak.turnL [(8, 0)] [] rfl rfl (tc (trP' rfl rfl rfl rfl) tn) (mc rfl (.box rfl .z3 rfl) mn)) (ro1 (rvC (v := aggV (α := Bound) true r3) rfl rfl ti33 rfl)) rfl rfl ldA pn
 ·refine AWP.skip (skT (AWP.sq (AWP.rgC 72 rfl rfl (fa rfl rfl ti33 rfl rfl ti31 rfl (ldB (v := .sc _) rfl rfl rfl rfl ti31 rfl rfl (fa rfl rfl ti33 rfl rfl ti31 rfl (ldB (v := .sc _) rfl rfl rfl rfl ti31 rfl rfl (pS rfl (fa rfl rfl ti33 rfl rfl ti31 rfl (ldB (v := .sc _) rfl rfl rfl rfl ti31 rfl rfl (fa rfl rfl ti33 rfl rfl ti31 rfl (ldB (v := .sc _) rfl rfl rfl rfl ti31 rfl rfl (pS rfl ?_)))))))))))))
  obtain ⟨r4, hr4, hR⟩ := bindE hR
  refine cls [] rfl rfl cb54 (ok54 (mn2 a.Lo b.Lo) (mx2 a.Hi b.Hi) _ hr4) .z2 (.inr rfl) rfl (stB (cs' := [iV r4.Lo, iV r4.Hi, bV r4.Unknown]) rfl rfl rfl rfl ti33 rfl rfl rfl rfl rfl (RunC.fin (AWP.ret ?_)))
  have hR := Option.some.inj hR; subst hR
  exact hQ _ _ (LS.mk [(4, .ptr 0 0 0)] (lblks 0 [boxB (α := Bound) true r4]) 1) (aggV (α := Bound) true r4) [] (.inr rfl) (Weak.turnL [(8, 0)] [] rfl rfl (tc (trP' rfl rfl rfl rfl) tn) (mc rfl (.box rfl .z3 rfl) mn)) (ro1 (rvC (v := aggV (α := Bound) true r4) rfl rfl ti33 rfl)) rfl rfl ldA pn
theorem ok76 (b : Bound) (v : Int) (r : Bool) (hR : bound_Has b v = some r) : FnP Try.prog 76 [aggV false b, .sc (.int .i64 v)] (.sc (.bool r)) := by
 refine fnP_of (FnX.walk Try.func76 rfl 20 0 (by simp [Try.ntmps76]) rfl fun W S F Q hQ => ?_)
 unfold bound_Has at hR
 refine AWP.sq (AWP.rgC 8 rfl rfl (bx (cs := _) 0 rfl rfl rfl (pS rfl (RunC.fin (AWP.joinX (fun z1 : Bool => LS.mk [(4, bV z1)] (lblks 0 []) 0) hR (fun o1 hR => ?_) fun z1 hR => ?_)))))
 ·refine AWP.rgC 72 rfl rfl (ldB (v := .agg _) rfl rfl rfl rfl ti33 rfl rfl (ldB (v := .agg _) rfl rfl rfl rfl ti33 rfl rfl ?_))
  obtain ⟨r2, hr2, hR⟩ := bindE hR
  refine cls [] rfl rfl cb49 (ok49 b b _ hr2) (.cons (.agg .z3 rfl) (.cons (.agg .z3 rfl) (.nil))) (.inr rfl) rfl (pS rfl (brR hR (fun h3 hR => ?_) fun h3 hR => ?_))
  ·refine sk (skW rfl rfl rfl h3) (sk (skW rfl rfl rfl h3) (sk (skW rfl rfl rfl h3) (sk (skW rfl rfl rfl h3) (sk (skW rfl rfl rfl h3) (sk (skW2 rfl rfl rfl) (sk (skW2 rfl rfl rfl) (sk (skW2 rfl rfl rfl) (sk (skW2 rfl rfl rfl) (sk (skW rfl rfl rfl h3) (pkT (v := bV true) rfl rfl h3 rfl (pS rfl (RunC.fin ?_))))))))))))
   have hR := Option.some.inj hR; subst hR
   exact Weak.turnL [] [] rfl rfl (tc (.sc _) tn) mn
  ·refine fa (wtG rfl rfl rfl h3) rfl ti33 rfl rfl ti31 rfl (ldB (v := .sc _) (wtG rfl rfl rfl h3) rfl rfl rfl ti31 rfl rfl (pu (v := .sc _) (wtG rfl rfl rfl h3) rfl (fun _ => rfl) (pu (v := .sc _) (wtG rfl rfl rfl h3) rfl (fun _ => rfl) (pu (v := .sc _) (wtG rfl rfl rfl h3) rfl (fun _ => rfl) (brR hR (fun h4 hR => ?_) fun h4 hR => ?_)))))
   ·refine pu (v := .sc _) (wtG rfl rfl rfl h4) rfl (fun _ => rfl) (fa (wtG rfl rfl rfl h4) rfl ti33 rfl rfl ti31 rfl (ldB (v := .sc _) (wtG rfl rfl rfl h4) rfl rfl rfl ti31 rfl rfl (pu (v := .sc _) (wtG rfl rfl rfl h4) rfl (fun _ => rfl) (pkT (v := bV (decide (v ≤ b.Hi))) (wtG rfl rfl rfl h3) rfl h4 rfl (pkF (v := bV (decide (v ≤ b.Hi))) rfl rfl h3 rfl (pS rfl (RunC.fin ?_)))))))
    have hR := Option.some.inj hR; subst hR
    exact Weak.turnL [] [] rfl rfl (tc (.sc _) tn) mn
   ·refine sk (skW rfl rfl rfl h4) (sk (skW rfl rfl rfl h4) (sk (skW rfl rfl rfl h4) (sk (skW rfl rfl rfl h4) (pkF (v := bV false) (wtG rfl rfl rfl h3) rfl h4 rfl (pkF (v := bV false) rfl rfl h3 rfl (pS rfl (RunC.fin ?_)))))))
    have hR := Option.some.inj hR; subst hR
    exact Weak.turnL [] [] rfl rfl (tc (.sc _) tn) mn
 ·refine AWP.ret ?_
  have hR := Option.some.inj hR; subst hR
  exact hQ _ _ (LS.mk [(4, bV z1)] (lblks 0 []) 0) (bV z1) [] (.inr rfl) (Weak.turnL [] [] rfl rfl (tc (.sc _) tn) mn) (ro1 (rvT (v := bV z1) rfl)) rfl rfl (.sc _) pn
theorem ok42 (p : arc_plane) (far : Bound) (r : Bool) (hR : plane_can p far = some r) : FnP Try.prog 42 [aggV false p, aggV false far] (.sc (.bool r)) := by
 refine fnP_of (FnX.walk Try.func42 rfl 54 0 (by simp [Try.ntmps42]) rfl fun W S F Q hQ => ?_)
 unfold plane_can at hR
 refine AWP.sq (AWP.rgC 12 rfl rfl (bx (cs := _) 0 rfl rfl rfl (bx (cs := _) 4 rfl rfl rfl (pS rfl (RunC.fin (AWP.sq (AWP.rgC 52 rfl rfl (fa rfl rfl ti74 rfl rfl ti68 rfl (ldB (v := .agg _) rfl rfl rfl rfl ti68 rfl rfl (fa rfl rfl ti74 rfl rfl ti68 rfl (ldB (v := .agg _) rfl rfl rfl rfl ti68 rfl rfl (ldB (v := .agg _) rfl rfl rfl rfl ti33 rfl rfl ?_))))))))))))
 obtain ⟨r1, hr1, hR⟩ := bindE hR
 refine cls [] rfl rfl cb72 (ok72 p.from_ p.ray far _ hr1) (.cons (.agg .z9 rfl) (.cons (.agg .z9 rfl) (.cons (.agg .z3 rfl) (.nil)))) (.inr rfl) rfl ?_
 obtain ⟨r2, hr2, hR⟩ := bindE hR
 refine cls [] rfl rfl cb31 (ok31 r1 _ hr2) (.cons (.agg .z9 rfl) (.nil)) (.inr rfl) rfl ?_
 obtain ⟨r3, hr3, hR⟩ := bindE hR
 refine cls [] rfl rfl cb30 (ok30 r2 1 _ hr3) (.cons (.agg .z3 rfl) (.cons (.sc _) .nil)) (.inr rfl) rfl (al (cs := [iV 0, iV 0, bV false]) 44 rfl rfl ti33 rfl rfl (stB (cs' := [iV r3.Lo, iV r3.Hi, bV r3.Unknown]) rfl rfl rfl rfl ti33 rfl rfl rfl rfl rfl (RunC.fin (AWP.sq (AWP.rgC 76 rfl rfl (ldB (v := .agg _) rfl rfl rfl rfl ti33 rfl rfl (fa rfl rfl ti74 rfl rfl ti33 rfl (ldB (v := .agg _) rfl rfl rfl rfl ti33 rfl rfl ?_))))))))
 obtain ⟨r4, hr4, hR⟩ := bindE hR
 refine cls [] rfl rfl cb67 (ok67 far p.slope 1 _ hr4) (.cons (.agg .z3 rfl) (.cons (.agg .z3 rfl) (.cons (.sc _) .nil))) (.inr rfl) rfl (al (cs := [iV 0, iV 0, bV false]) 68 rfl rfl ti33 rfl rfl (stB (cs' := [iV r4.Lo, iV r4.Hi, bV r4.Unknown]) rfl rfl rfl rfl ti33 rfl rfl rfl rfl rfl (RunC.fin (AWP.sq (AWP.rgD 104 [0, 1, 0, 4, 15, 0, 63] ⟨[], [none, some [0], some [68], none, none, none, some [96]]⟩ hmix (by kernel_rfl) rfl rfl ?_)))))
 refine fa rfl rfl ti74 rfl rfl ti33 rfl (ldB (v := .agg _) rfl rfl rfl rfl ti33 rfl rfl (ldB (v := .agg _) rfl rfl rfl rfl ti33 rfl rfl ?_))
 obtain ⟨r5, hr5, hR⟩ := bindE hR
 refine cls [] rfl rfl cb73 (ok73 r4 2 1 _ hr5) (.cons (.agg .z3 rfl) .z2) (.inr rfl) rfl ?_
 obtain ⟨r6, hr6, hR⟩ := bindE hR
 refine cls [] rfl rfl cb66 (ok66 p.turn r5 _ hr6) (.cons (.agg .z3 rfl) (.cons (.agg .z3 rfl) (.nil))) (.inr rfl) rfl (al (cs := [iV 0, iV 0, bV false]) 96 rfl rfl ti33 rfl rfl (stB (cs' := [iV r6.Lo, iV r6.Hi, bV r6.Unknown]) rfl rfl rfl rfl ti33 rfl rfl rfl rfl rfl (RunC.fin (AWP.sq (AWP.rgD 144 [0, 0, 2, 0, 8, 0, 62, 126, 255, 511] ⟨[], [some [96], some [44], none, none, some [0], some [68], none, none, none, some [96]]⟩ hmix (by kernel_rfl) rfl rfl ?_)))))
 refine ldB (v := .agg _) rfl rfl rfl rfl ti33 rfl rfl (ldB (v := .agg _) rfl rfl rfl rfl ti33 rfl rfl ?_)
 obtain ⟨r7, hr7, hR⟩ := bindE hR
 refine cls [] rfl rfl cb75 (ok75 r3 _ hr7) (.cons (.agg .z3 rfl) (.nil)) (.inr rfl) rfl (fa rfl rfl ti74 rfl rfl ti33 rfl (ldB (v := .agg _) rfl rfl rfl rfl ti33 rfl rfl (ldB (v := .agg _) rfl rfl rfl rfl ti33 rfl rfl ?_)))
 obtain ⟨r8, hr8, hR⟩ := bindE hR
 refine cls [] rfl rfl cb74 (ok74 p.offset r4 _ hr8) (.cons (.agg .z3 rfl) (.cons (.agg .z3 rfl) (.nil))) (.inr rfl) rfl ?_
 obtain ⟨r9, hr9, hR⟩ := bindE hR
 refine cls [] rfl rfl cb67 (ok67 r7 r8 68719476736 _ hr9) (.cons (.agg .z3 rfl) (.cons (.agg .z3 rfl) (.cons (.sc _) .nil))) (.inr rfl) rfl ?_
 obtain ⟨r10, hr10, hR⟩ := bindE hR
 refine cls [] rfl rfl cb74 (ok74 r6 r9 _ hr10) (.cons (.agg .z3 rfl) (.cons (.agg .z3 rfl) (.nil))) (.inr rfl) rfl (stB (cs' := [iV r10.Lo, iV r10.Hi, bV r10.Unknown]) rfl rfl rfl rfl ti33 rfl rfl rfl rfl rfl (RunC.fin (AWP.sq (AWP.rgC 148 rfl rfl (pS rfl (RunC.fin (AWP.sq (AWP.joinX (fun z11 : Bool => LS.mk [(2, .ptr 0 0 0), (7, .ptr 1 0 0), (8, iV 2), (42, bV z11)] (lblks 0 [boxB (α := arc_plane) true p, boxB (α := Bound) true r10]) 2) hR (fun o11 hR => ?_) fun z11 hR => ?_))))))))
 ·refine AWP.rgC 176 rfl rfl (fa rfl rfl ti33 rfl rfl ti4 rfl (ldB (v := .sc _) rfl rfl rfl rfl ti4 rfl rfl (pS rfl (brR hR (fun h12 hR => ?_) fun h12 hR => ?_))))
  ·refine sk (skW rfl rfl rfl h12) (sk (skW rfl rfl rfl h12) (sk (skW rfl rfl rfl h12) (pkT (v := bV true) rfl rfl h12 rfl (RunC.fin ?_))))
   have hR := Option.some.inj hR; subst hR
   exact Weak.turnL [(0, 0), (96, 0)] [] rfl rfl (tc (trP' rfl rfl rfl rfl) (tc (trP' rfl rfl rfl rfl) (tc (.sc _) (tc (.sc _) tn)))) (mc rfl (.box rfl (.c9 (.c9 (.c9 (.c9 .z3)))) rfl) (mc rfl (.box rfl .z3 rfl) mn))
  ·refine fa (wtG rfl rfl rfl h12) rfl ti33 rfl rfl ti31 rfl (ldB (v := .sc _) (wtG rfl rfl rfl h12) rfl rfl rfl ti31 rfl rfl (pu (v := .sc _) (wtG rfl rfl rfl h12) rfl (fun _ => rfl) (pkF (v := bV (decide (r3.Lo < 524288))) rfl rfl h12 rfl (RunC.fin ?_))))
   have hR := Option.some.inj hR; subst hR
   exact Weak.turnL [(0, 0), (96, 0)] [] rfl rfl (tc (trP' rfl rfl rfl rfl) (tc (trP' rfl rfl rfl rfl) (tc (.sc _) (tc (.sc _) tn)))) (mc rfl (.box rfl (.c9 (.c9 (.c9 (.c9 .z3)))) rfl) (mc rfl (.box rfl .z3 rfl) mn))
 ·refine AWP.cd hR rfl (fun h13 hR => ?_) fun h13 hR => ?_
  ·refine AWP.rgC 6 rfl rfl (pS rfl (RunC.fin (AWP.sq (AWP.rgC 30 rfl rfl (fa rfl rfl ti74 rfl rfl ti33 rfl (ldB (v := .agg _) rfl rfl rfl rfl ti33 rfl rfl (pS rfl ?_)))))))
   obtain ⟨r14, hr14, hR⟩ := bindE hR
   refine cls [] rfl rfl cb73 (ok73 p.blurred 98 1 _ hr14) (.cons (.agg .z3 rfl) .z2) (.inr rfl) rfl (al (cs := [iV 0, iV 0, bV false]) 22 rfl rfl ti33 rfl rfl (stB (cs' := [iV r14.Lo, iV r14.Hi, bV r14.Unknown]) rfl rfl rfl rfl ti33 rfl rfl rfl rfl rfl (RunC.fin (AWP.sq (AWP.rgD 62 [0, 0, 0, 4, 14, 31, 63, 127] ⟨[], [some [1], some [22], some [22], none, none, none, none, none]⟩ hmix (by kernel_rfl) rfl rfl ?_)))))
   refine ldB (v := .agg _) rfl rfl rfl rfl ti33 rfl rfl (ldB (v := .agg _) rfl rfl rfl rfl ti33 rfl rfl (ldB (v := .agg _) rfl rfl rfl rfl ti33 rfl rfl ?_))
   obtain ⟨r15, hr15, hR⟩ := bindE hR
   refine cls [] rfl rfl cb56 (ok56 r14 _ hr15) (.cons (.agg .z3 rfl) (.nil)) (.inr rfl) rfl ?_
   obtain ⟨r16, hr16, hR⟩ := bindE hR
   refine cls [] rfl rfl cb77 (ok77 r14 r15 _ hr16) (.cons (.agg .z3 rfl) (.cons (.agg .z3 rfl) (.nil))) (.inr rfl) rfl ?_
   obtain ⟨r17, hr17, hR⟩ := bindE hR
   refine cls [] rfl rfl cb74 (ok74 r10 r16 _ hr17) (.cons (.agg .z3 rfl) (.cons (.agg .z3 rfl) (.nil))) (.inr rfl) rfl ?_
   obtain ⟨r18, hr18, hR⟩ := bindE hR
   refine cls [] rfl rfl cb76 (ok76 r17 0 _ hr18) (.cons (.agg .z3 rfl) (.cons (.sc _) .nil)) (.inr rfl) rfl (pS rfl (RunC.fin (AWP.ret ?_)))
   have hR := Option.some.inj hR; subst hR
   exact hQ _ _ (LS.mk [(4, bV r18)] (lblks 0 []) 0) (bV r18) [] (.inr rfl) (Weak.turnL [] [] rfl rfl (tc (.sc _) tn) mn) (ro1 (rvT (v := bV r18) rfl)) rfl rfl (.sc _) pn
  ·refine AWP.skip (skT (AWP.sq (AWP.rgC 26 rfl rfl (fa rfl rfl ti74 rfl rfl ti33 rfl (ldB (v := .agg _) rfl rfl rfl rfl ti33 rfl rfl (pS rfl ?_))))))
   obtain ⟨r19, hr19, hR⟩ := bindE hR
   refine cls [] rfl rfl cb73 (ok73 p.blurred 2 1 _ hr19) (.cons (.agg .z3 rfl) .z2) (.inr rfl) rfl (al (cs := [iV 0, iV 0, bV false]) 18 rfl rfl ti33 rfl rfl (stB (cs' := [iV r19.Lo, iV r19.Hi, bV r19.Unknown]) rfl rfl rfl rfl ti33 rfl rfl rfl rfl rfl (RunC.fin (AWP.sq (AWP.rgD 58 [0, 0, 0, 4, 14, 31, 63, 127] ⟨[], [some [1], some [18], some [18], none, none, none, none, none]⟩ hmix (by kernel_rfl) rfl rfl ?_)))))
   refine ldB (v := .agg _) rfl rfl rfl rfl ti33 rfl rfl (ldB (v := .agg _) rfl rfl rfl rfl ti33 rfl rfl (ldB (v := .agg _) rfl rfl rfl rfl ti33 rfl rfl ?_))
   obtain ⟨r20, hr20, hR⟩ := bindE hR
   refine cls [] rfl rfl cb56 (ok56 r19 _ hr20) (.cons (.agg .z3 rfl) (.nil)) (.inr rfl) rfl ?_
   obtain ⟨r21, hr21, hR⟩ := bindE hR
   refine cls [] rfl rfl cb77 (ok77 r19 r20 _ hr21) (.cons (.agg .z3 rfl) (.cons (.agg .z3 rfl) (.nil))) (.inr rfl) rfl ?_
   obtain ⟨r22, hr22, hR⟩ := bindE hR
   refine cls [] rfl rfl cb74 (ok74 r10 r21 _ hr22) (.cons (.agg .z3 rfl) (.cons (.agg .z3 rfl) (.nil))) (.inr rfl) rfl ?_
   obtain ⟨r23, hr23, hR⟩ := bindE hR
   refine cls [] rfl rfl cb76 (ok76 r22 0 _ hr23) (.cons (.agg .z3 rfl) (.cons (.sc _) .nil)) (.inr rfl) rfl (pS rfl (RunC.fin (AWP.ret ?_)))
   have hR := Option.some.inj hR; subst hR
   exact hQ _ _ (LS.mk [(4, bV r23)] (lblks 0 []) 0) (bV r23) [] (.inr rfl) (Weak.turnL [] [] rfl rfl (tc (.sc _) tn) mn) (ro1 (rvT (v := bV r23) rfl)) rfl rfl (.sc _) pn
theorem ok22 (m : Int) (p1 : List arc_Orbit) (p1V : Nat) (p2 : Seen × Seen × Seen) (r : Nat × (List arc_Orbit)) (hR : arc_Solve_1 m p1 p1V p2 = some r) : FnD Try.prog 22 [.box [slV arc_Orbit 1 p1V 0 p1.length], arrB (α := arc_Orbit) 55 p1V false p1] [.sc (.int .i64 m), .ptr 0 0 0, .rp (Cl.c false p2)] (.tup []) [.box [slV arc_Orbit 1 r.1 0 r.2.length], arrB (α := arc_Orbit) 55 r.1 false r.2] := by
 refine FnX.walk Try.func22 rfl 38 2 (by simp [Try.ntmps22]) rfl fun W S F Q hQ => ?_
 unfold arc_Solve_1 at hR
 refine AWP.sq (AWP.sq (AWP.rgC 18 rfl rfl (ldB (v := slV arc_Orbit _ _ _ _) rfl rfl rfl rfl ti50 rfl rfl (lenS (α := arc_Orbit) rfl rfl ti50 rfl ?_))))
 refine pS rfl (pS rfl (RunC.fin (AWP.joinX (fun z1 : Bool => LS.mk [(0, iV m), (1, .ptr 0 0 0), (2, .rp (Cl.c false (p2 : Seen × Seen × Seen))), (4, iV (w6 ((p1.length : Int) - 1))), (19, bV z1)] (lblks 0 [.box [slV arc_Orbit 1 p1V 0 p1.length], arrB (α := arc_Orbit) 55 p1V false p1]) 2) hR (fun o1 hR => ?_) fun z1 hR => ?_)))
 ·refine AWP.rgC 66 rfl rfl (pS rfl (pS rfl (pS rfl (brR hR (fun h2 hR => ?_) fun h2 hR => ?_))))
  ·refine ldB (v := slV arc_Orbit _ _ _ _) (wtG rfl rfl rfl h2) rfl rfl rfl ti50 rfl rfl (pu (v := .sc _) (wtG rfl rfl rfl h2) rfl (fun _ => rfl) ?_)
   obtain ⟨h3, hR⟩ := chkE hR
   refine ixS0 (α := arc_Orbit) (wtG rfl rfl rfl h2) rfl rfl ti50 rfl ti55 rfl h3 ?_
   refine fa (wtG rfl rfl rfl h2) rfl ti55 rfl rfl ti2 rfl (ldE (α := arc_Orbit) (off := 55) (v := .sc _) (wtG rfl rfl rfl h2) rfl rfl (ixlt h3) ti2 rfl rfl rfl rfl ?_)
   refine pu (v := .sc _) (wtG rfl rfl rfl h2) rfl (fun _ => rfl) (pu (v := .sc _) (wtG rfl rfl rfl h2) rfl (fun _ => rfl) (pu (v := .sc _) (wtG rfl rfl rfl h2) rfl (fun _ => rfl) (pkT (v := bV ((gt p1 (w6 ((p1.length : Int) - 1))).Far == (w6 (m * 4096)))) rfl rfl h2 rfl (RunC.fin ?_))))
   have hR := Option.some.inj hR; subst hR
   exact Weak.turnL [(0, 0), (1, p1V)] [] (by simp [kpOK, nodupB, lget, lblks, pushes, Blk.hasVer, arrB, boxB, slV, List.range, List.range.loop]) rfl (tc (.sc _) (tc (trP' rfl rfl rfl rfl) (tc (.rp (Cl.tr _ _ _ _ id) (Cl.leaf _ _)) (tc (.sc _) (tc (.sc _) tn))))) (mc rfl (.box rfl (.cons (trS' rfl rfl rfl rfl rfl) (.nil)) rfl) (mc rfl (btrA' rfl) mn))
  ·refine sk (skW rfl rfl rfl h2) (sk (skW rfl rfl rfl h2) (sk (skW rfl rfl rfl h2) (sk (skW rfl rfl rfl h2) (sk (skW rfl rfl rfl h2) (sk (skW rfl rfl rfl h2) (sk (skW rfl rfl rfl h2) (sk (skW rfl rfl rfl h2) (pkF (v := bV false) rfl rfl h2 rfl (RunC.fin ?_)))))))))
   have hR := Option.some.inj hR; subst hR
   exact Weak.turnL [(0, 0), (1, p1V)] [] (by simp [kpOK, nodupB, lget, lblks, pushes, Blk.hasVer, arrB, boxB, slV, List.range, List.range.loop]) rfl (tc (.sc _) (tc (trP' rfl rfl rfl rfl) (tc (.rp (Cl.tr _ _ _ _ id) (Cl.leaf _ _)) (tc (.sc _) (tc (.sc _) tn))))) (mc rfl (.box rfl (.cons (trS' rfl rfl rfl rfl rfl) (.nil)) rfl) (mc rfl (btrA' rfl) mn))
 ·refine AWP.cd hR rfl (fun h4 hR => ?_) fun h4 hR => ?_
  ·refine AWP.sq (AWP.rgC 38 rfl rfl (ldB (v := slV arc_Orbit _ _ _ _) rfl rfl rfl rfl ti50 rfl rfl (pS rfl ?_)))
   obtain ⟨h5, hR⟩ := chkE hR
   refine ixS0 (α := arc_Orbit) rfl rfl rfl ti50 rfl ti55 rfl h5 ?_
   refine fa rfl rfl ti55 rfl rfl ti2 rfl (ldE (α := arc_Orbit) (off := 55) (v := .sc _) rfl rfl rfl (ixlt h5) ti2 rfl rfl rfl rfl ?_)
   refine pS rfl (ixS0 (α := arc_Orbit) rfl rfl rfl ti50 rfl ti55 rfl h5 ?_)
   refine fa rfl rfl ti55 rfl rfl ti2 rfl ?_
   obtain ⟨v6, ev6, hR⟩ := letE hR
   refine stE (α := arc_Orbit) (off := 55) (y := arc_Orbit.mk (gt p1 (w6 ((p1.length : Int) - 1))).Seen (gt p1 (w6 ((p1.length : Int) - 1))).Near (w6 ((gt p1 (w6 ((p1.length : Int) - 1))).Far + 4096))) rfl rfl rfl (ixlt h5) ti2 rfl rfl rfl (by kernel_rfl) rfl ?_
   rw [ev6]
   refine RunC.fin (AWP.ret (rtT ?_))
   have hR := Option.some.inj hR; subst hR
   exact hQ _ _ (LS.mk [] (lblks 0 [.box [slV arc_Orbit 1 p1V 0 v6.length], arrB (α := arc_Orbit) 55 p1V false v6]) 2) (.tup []) [] (.inr rfl) (Weak.turnL [(0, 0), (1, p1V)] [] (by simp [kpOK, nodupB, lget, lblks, pushes, Blk.hasVer, arrB, boxB, slV, List.range, List.range.loop]) rfl tn (mc rfl (.box rfl (.cons (trS' rfl rfl rfl rfl (by subst ev6; simp only [List.length_set])) (.nil)) rfl) (mc rfl (btrA' rfl) mn))) (ro0 ) rfl rfl (.tup .nil) (pc rfl (.box (.cons (ldM rfl rfl) .nil) rfl) (pc rfl bldA pn))
  ·refine AWP.skip (skT (AWP.rgC 46 rfl rfl (ldB (v := slV arc_Orbit _ _ _ _) rfl rfl rfl rfl ti50 rfl rfl (ldR (v := .agg _) rfl rfl ti41 rfl ?_))))
   refine pS rfl (pS rfl (pS rfl (pS rfl (pS rfl (bu (cs := [iV p2.1.At.Lo, iV p2.1.At.Hi, bV p2.1.At.Unknown, iV p2.1.From.X, iV p2.1.From.Y, iV p2.1.From.Z, iV p2.1.Box.X.Lo, iV p2.1.Box.X.Hi, bV p2.1.Box.X.Unknown, iV p2.1.Box.Y.Lo, iV p2.1.Box.Y.Hi, bV p2.1.Box.Y.Unknown, iV p2.1.Box.Z.Lo, iV p2.1.Box.Z.Hi, bV p2.1.Box.Z.Unknown, iV p2.1.Flux.Lo, iV p2.1.Flux.Hi, bV p2.1.Flux.Unknown, iV p2.2.1.At.Lo, iV p2.2.1.At.Hi, bV p2.2.1.At.Unknown, iV p2.2.1.From.X, iV p2.2.1.From.Y, iV p2.2.1.From.Z, iV p2.2.1.Box.X.Lo, iV p2.2.1.Box.X.Hi, bV p2.2.1.Box.X.Unknown, iV p2.2.1.Box.Y.Lo, iV p2.2.1.Box.Y.Hi, bV p2.2.1.Box.Y.Unknown, iV p2.2.1.Box.Z.Lo, iV p2.2.1.Box.Z.Hi, bV p2.2.1.Box.Z.Unknown, iV p2.2.1.Flux.Lo, iV p2.2.1.Flux.Hi, bV p2.2.1.Flux.Unknown, iV p2.2.2.At.Lo, iV p2.2.2.At.Hi, bV p2.2.2.At.Unknown, iV p2.2.2.From.X, iV p2.2.2.From.Y, iV p2.2.2.From.Z, iV p2.2.2.Box.X.Lo, iV p2.2.2.Box.X.Hi, bV p2.2.2.Box.X.Unknown, iV p2.2.2.Box.Y.Lo, iV p2.2.2.Box.Y.Hi, bV p2.2.2.Box.Y.Unknown, iV p2.2.2.Box.Z.Lo, iV p2.2.2.Box.Z.Hi, bV p2.2.2.Box.Z.Unknown, iV p2.2.2.Flux.Lo, iV p2.2.2.Flux.Hi, bV p2.2.2.Flux.Unknown, iV (w6 (m * 4096)), iV (w6 ((w6 (m + 1)) * 4096))]) rfl bt55 rfl (bs (α := arc_Orbit) 34 true ([arc_Orbit.mk p2 (w6 (m * 4096)) (w6 ((w6 (m + 1)) * 4096))] : List arc_Orbit) rfl rfl ti50 rfl ti55 rfl rfl rfl rfl rfl ?_))))))
   obtain ⟨h7, hR⟩ := chkE hR
   refine ap' (α := arc_Orbit) (nw := false) (xs := p1) (ys := ([arc_Orbit.mk p2 (w6 (m * 4096)) (w6 ((w6 (m + 1)) * 4096))] : List arc_Orbit)) rfl rfl rfl rfl (srcS2 rfl rfl rfl (fun _ => rfl)) ti50 rfl ti55 rfl h7 rfl ?_
   refine stB (cs' := [slV arc_Orbit 1 (p1V + 1) 0 (p1 ++ ([arc_Orbit.mk p2 (w6 (m * 4096)) (w6 ((w6 (m + 1)) * 4096))] : List arc_Orbit)).length]) rfl rfl rfl rfl ti50 rfl rfl rfl rfl rfl (RunC.nil ?_)
   have hR := Option.some.inj hR; subst hR
   exact hQ _ _ (LS.mk [] (lblks 0 [.box [slV arc_Orbit 1 (p1V + 1) 0 (p1 ++ ([arc_Orbit.mk p2 (w6 (m * 4096)) (w6 ((w6 (m + 1)) * 4096))] : List arc_Orbit)).length], arrB (α := arc_Orbit) 55 (p1V + 1) false (p1 ++ ([arc_Orbit.mk p2 (w6 (m * 4096)) (w6 ((w6 (m + 1)) * 4096))] : List arc_Orbit))]) 2) (.tup []) [] (.inl rfl) (Weak.turnL [(0, 0), (1, (p1V + 1))] [] (by simp [kpOK, nodupB, lget, lblks, pushes, Blk.hasVer, arrB, boxB, slV, List.range, List.range.loop]) rfl tn (mc rfl (.box rfl (.cons (trS' rfl rfl rfl rfl rfl) (.nil)) rfl) (mc rfl (btrA' rfl) mn))) (ro0 ) rfl rfl (.tup .nil) (pc rfl (.box (.cons (ldM rfl rfl) .nil) rfl) (pc rfl bldA pn))
theorem ok21 : ∀ (fuel : Nat) (p : arc_plane) (m : Int) (n : Int) (fc0 : List arc_Orbit) (fc0V : Nat) (fc1 : Seen × Seen × Seen) (r : Nat × (List arc_Orbit)) (hR : plane_search_arc_Solve_1 fuel p m n fc0 fc0V fc1 = some r), FnD Try.prog 21 [.box [slV arc_Orbit 1 fc0V 0 fc0.length], arrB (α := arc_Orbit) 55 fc0V false fc0] [aggV false p, .sc (.int .i64 m), .sc (.int .i64 n), .fn (.func 22) [.ptr 0 0 0, .rp (Cl.c false fc1)]] (.tup []) [.box [slV arc_Orbit 1 r.1 0 r.2.length], arrB (α := arc_Orbit) 55 r.1 false r.2] := by
 intro fuel
 induction fuel with
 | zero => intro p m n fc0 fc0V fc1 r hR; exact nomatch (show none = some r from hR)
 | succ fuel ih =>
  intro p m n fc0 fc0V fc1 r hR
  refine FnX.walk Try.func21 rfl 39 2 (by simp [Try.ntmps21]) rfl fun W S F Q hQ => ?_
  unfold plane_search_arc_Solve_1 at hR
  refine AWP.sq (AWP.rgC 6 rfl rfl (bx (cs := _) 2 rfl rfl rfl (RunC.fin (AWP.block (AWP.sq (AWP.rgD 34 [0, 0, 0, 6, 15, 31, 63] ⟨[], [some [2], none, none, none, none, none, none]⟩ hmix (by kernel_rfl) rfl rfl ?_))))))
  refine ldB (v := .agg _) rfl rfl rfl rfl ti74 rfl rfl (pS rfl (pS rfl ?_))
  obtain ⟨r1, hr1, hR⟩ := bindE hR
  refine cls [] rfl rfl cb43 (ok43 m n _ hr1) .z2 (.inr rfl) rfl ?_
  obtain ⟨r2, hr2, hR⟩ := bindE hR
  refine cls [] rfl rfl cb42 (ok42 p r1 _ hr2) (.cons (.agg (.c9 (.c9 (.c9 (.c9 .z3)))) rfl) (.cons (.agg .z3 rfl) (.nil))) (.inr rfl) rfl (pS rfl (pS rfl (RunC.fin (AWP.cd hR rfl (fun h3 hR => ?_) fun h3 hR => ?_))))
  ·refine AWP.skip (skB ?_)
   have hR := Option.some.inj hR; subst hR
   exact hQ _ _ (LS.mk [] (lblks 0 [.box [slV arc_Orbit 1 fc0V 0 fc0.length], arrB (α := arc_Orbit) 55 fc0V false fc0]) 2) (.tup []) [] (.inl rfl) (Weak.turnL [(0, 0), (1, fc0V)] [] (by simp [kpOK, nodupB, lget, lblks, pushes, Blk.hasVer, arrB, boxB, slV, List.range, List.range.loop]) rfl tn (mc rfl (.box rfl (.cons (trS' rfl rfl rfl rfl rfl) (.nil)) rfl) (mc rfl (btrA' rfl) mn))) (ro0 ) rfl rfl (.tup .nil) (pc rfl (.box (.cons (ldM rfl rfl) .nil) rfl) (pc rfl bldA pn))
  ·refine AWP.sq (AWP.rgC 54 rfl rfl (pS rfl (pS rfl (pS rfl (pS rfl (pS rfl (RunC.fin (AWP.cd hR rfl (fun h4 hR => ?_) fun h4 hR => ?_))))))))
   ·refine AWP.rgC 66 rfl rfl (pu (v := .fn _ _) rfl rfl (fun _ => rfl) (pS rfl ?_))
    obtain ⟨r5, hr5, hR⟩ := bindE hR
    refine cps (res' := .tup []) (ups := [(0, .box [slV arc_Orbit 1 r5.1 0 r5.2.length]), (1, arrB (α := arc_Orbit) 55 r5.1 false r5.2)]) [0, 1] 62 rfl rfl rfl cb22 (ok22 m fc0 fc0V fc1 _ hr5) (.cons (.sc _) (.cons (ldP rfl rfl) (.cons (.rp (Cl.ld _ _ _) (Cl.leaf _ _)) (.nil)))) (pc rfl (.box (.cons (ldM rfl rfl) .nil) rfl) (pc rfl bldA pn)) rfl rfl rfl rfl rfl (by first | rfl | exact renR | exact renA | exact renS | simp only [V.ren, V.rens, renR, renA, renS] | (simp only [V.ren, V.rens, renR, renA, renS]; rfl)) (by simp only [passUps, renBox, renArr]; rfl) (RunC.blk (RunC.nil ?_))
    have hR := Option.some.inj hR; subst hR
    exact hQ _ _ (LS.mk [] (lblks 0 [.box [slV arc_Orbit 1 r5.1 0 r5.2.length], arrB (α := arc_Orbit) 55 r5.1 false r5.2]) 2) (.tup []) [] (.inl rfl) (Weak.turnL [(0, 0), (1, r5.1)] [] (by simp [kpOK, nodupB, lget, lblks, pushes, Blk.hasVer, arrB, boxB, slV, List.range, List.range.loop]) rfl tn (mc rfl (.box rfl (.cons (trS' rfl rfl rfl rfl rfl) (.nil)) rfl) (mc rfl (btrA' rfl) mn))) (ro0 ) rfl rfl (.tup .nil) (pc rfl (.box (.cons (ldM rfl rfl) .nil) rfl) (pc rfl bldA pn))
   ·refine AWP.sq (AWP.rgC 86 rfl rfl (ldB (v := .agg _) rfl rfl rfl rfl ti74 rfl rfl (pS rfl (pS rfl (pS rfl (pS rfl (qu rfl rfl rfl (by decide) rfl ?_)))))))
    refine pu (v := .fn _ _) rfl rfl (fun _ => rfl) ?_
    obtain ⟨r6, hr6, hR⟩ := bindE hR
    refine cps (res' := .tup []) (ups := [(0, .box [slV arc_Orbit 1 r6.1 0 r6.2.length]), (1, arrB (α := arc_Orbit) 55 r6.1 false r6.2)]) [0, 1] 82 rfl rfl rfl cb21 (ih p m (w6 (Int.tdiv (w6 (m + n)) 2)) fc0 fc0V fc1 _ hr6) (.cons (.agg (.c9 (.c9 (.c9 (.c9 .z3)))) rfl) (.c2 (.cons (.fn (.cons (ldP rfl rfl) (.cons (.rp (Cl.ld _ _ _) (Cl.leaf _ _)) (.nil)))) (.nil)))) (pc rfl (.box (.cons (ldM rfl rfl) .nil) rfl) (pc rfl bldA pn)) rfl rfl rfl rfl rfl (by first | rfl | exact renR | exact renA | exact renS | simp only [V.ren, V.rens, renR, renA, renS] | (simp only [V.ren, V.rens, renR, renA, renS]; rfl)) (by simp only [passUps, renBox, renArr]; rfl) (RunC.fin (AWP.rgC 118 rfl rfl (ldB (v := .agg _) rfl rfl rfl rfl ti74 rfl rfl (pS rfl (pS rfl (pS rfl (qu rfl rfl rfl (by decide) rfl ?_)))))))
    refine pS rfl (pu (v := .fn _ _) rfl rfl (fun _ => rfl) ?_)
    obtain ⟨r7, hr7, hR⟩ := bindE hR
    refine cps (res' := .tup []) (ups := [(0, .box [slV arc_Orbit 1 r7.1 0 r7.2.length]), (1, arrB (α := arc_Orbit) 55 r7.1 false r7.2)]) [0, 1] 114 rfl rfl rfl cb21 (ih p (w6 (Int.tdiv (w6 (m + n)) 2)) n r6.2 r6.1 fc1 _ hr7) (.cons (.agg (.c9 (.c9 (.c9 (.c9 .z3)))) rfl) (.c2 (.cons (.fn (.cons (ldP rfl rfl) (.cons (.rp (Cl.ld _ _ _) (Cl.leaf _ _)) (.nil)))) (.nil)))) (pc rfl (.box (.cons (ldM rfl rfl) .nil) rfl) (pc rfl bldA pn)) rfl rfl rfl rfl rfl (by first | rfl | exact renR | exact renA | exact renS | simp only [V.ren, V.rens, renR, renA, renS] | (simp only [V.ren, V.rens, renR, renA, renS]; rfl)) (by simp only [passUps, renBox, renArr]; rfl) (RunC.blk (RunC.nil ?_))
    have hR := Option.some.inj hR; subst hR
    exact hQ _ _ (LS.mk [] (lblks 0 [.box [slV arc_Orbit 1 r7.1 0 r7.2.length], arrB (α := arc_Orbit) 55 r7.1 false r7.2]) 2) (.tup []) [] (.inl rfl) (Weak.turnL [(0, 0), (1, r7.1)] [] (by simp [kpOK, nodupB, lget, lblks, pushes, Blk.hasVer, arrB, boxB, slV, List.range, List.range.loop]) rfl tn (mc rfl (.box rfl (.cons (trS' rfl rfl rfl rfl rfl) (.nil)) rfl) (mc rfl (btrA' rfl) mn))) (ro0 ) rfl rfl (.tup .nil) (pc rfl (.box (.cons (ldM rfl rfl) .nil) rfl) (pc rfl bldA pn))
theorem ok22_90 (m : Int) (p1 : List arc_Orbit) (p1V : Nat) (p2 : Seen × Seen × Seen) (r : Nat × (List arc_Orbit)) (hR : arc_Solve_1 m p1 p1V p2 = some r) : FnD Try.prog 22 [.box [slV arc_Orbit 1 p1V 0 p1.length], arrB (α := arc_Orbit) 55 p1V false p1, boxB false p2] [.sc (.int .i64 m), .ptr 0 0 0, .ptr 2 0 0] (.tup []) [.box [slV arc_Orbit 1 r.1 0 r.2.length], arrB (α := arc_Orbit) 55 r.1 false r.2, boxB false p2] := by
 refine FnX.walk Try.func22 rfl 38 3 (by simp [Try.ntmps22]) rfl fun W S F Q hQ => ?_
 unfold arc_Solve_1 at hR
 refine AWP.sq (AWP.sq (AWP.rgC 19 rfl rfl (ldB (v := slV arc_Orbit _ _ _ _) rfl rfl rfl rfl ti50 rfl rfl (lenS (α := arc_Orbit) rfl rfl ti50 rfl ?_))))
 refine pS rfl (pS rfl (RunC.fin (AWP.joinX (fun z1 : Bool => LS.mk [(0, iV m), (1, .ptr 0 0 0), (2, .ptr 2 0 0), (4, iV (w6 ((p1.length : Int) - 1))), (19, bV z1)] (lblks 0 [.box [slV arc_Orbit 1 p1V 0 p1.length], arrB (α := arc_Orbit) 55 p1V false p1, boxB (α := Seen × Seen × Seen) true p2]) 3) hR (fun o1 hR => ?_) fun z1 hR => ?_)))
 ·refine AWP.rgC 67 rfl rfl (pS rfl (pS rfl (pS rfl (brR hR (fun h2 hR => ?_) fun h2 hR => ?_))))
  ·refine ldB (v := slV arc_Orbit _ _ _ _) (wtG rfl rfl rfl h2) rfl rfl rfl ti50 rfl rfl (pu (v := .sc _) (wtG rfl rfl rfl h2) rfl (fun _ => rfl) ?_)
   obtain ⟨h3, hR⟩ := chkE hR
   refine ixS0 (α := arc_Orbit) (wtG rfl rfl rfl h2) rfl rfl ti50 rfl ti55 rfl h3 ?_
   refine fa (wtG rfl rfl rfl h2) rfl ti55 rfl rfl ti2 rfl (ldE (α := arc_Orbit) (off := 55) (v := .sc _) (wtG rfl rfl rfl h2) rfl rfl (ixlt h3) ti2 rfl rfl rfl rfl ?_)
   refine pu (v := .sc _) (wtG rfl rfl rfl h2) rfl (fun _ => rfl) (pu (v := .sc _) (wtG rfl rfl rfl h2) rfl (fun _ => rfl) (pu (v := .sc _) (wtG rfl rfl rfl h2) rfl (fun _ => rfl) (pkT (v := bV ((gt p1 (w6 ((p1.length : Int) - 1))).Far == (w6 (m * 4096)))) rfl rfl h2 rfl (RunC.fin ?_))))
   have hR := Option.some.inj hR; subst hR
   exact Weak.turnL [(0, 0), (1, p1V), (2, 0)] [] (by simp [kpOK, nodupB, lget, lblks, pushes, Blk.hasVer, arrB, boxB, slV, List.range, List.range.loop]) rfl (tc (.sc _) (tc (trP' rfl rfl rfl rfl) (tc (trP' rfl rfl rfl rfl) (tc (.sc _) (tc (.sc _) tn))))) (mc rfl (.box rfl (.cons (trS' rfl rfl rfl rfl rfl) (.nil)) rfl) (mc rfl (btrA' rfl) (mc rfl (.box rfl (.c9 (.c9 (.c9 (.c9 (.c9 .z9))))) rfl) mn)))
  ·refine sk (skW rfl rfl rfl h2) (sk (skW rfl rfl rfl h2) (sk (skW rfl rfl rfl h2) (sk (skW rfl rfl rfl h2) (sk (skW rfl rfl rfl h2) (sk (skW rfl rfl rfl h2) (sk (skW rfl rfl rfl h2) (sk (skW rfl rfl rfl h2) (pkF (v := bV false) rfl rfl h2 rfl (RunC.fin ?_)))))))))
   have hR := Option.some.inj hR; subst hR
   exact Weak.turnL [(0, 0), (1, p1V), (2, 0)] [] (by simp [kpOK, nodupB, lget, lblks, pushes, Blk.hasVer, arrB, boxB, slV, List.range, List.range.loop]) rfl (tc (.sc _) (tc (trP' rfl rfl rfl rfl) (tc (trP' rfl rfl rfl rfl) (tc (.sc _) (tc (.sc _) tn))))) (mc rfl (.box rfl (.cons (trS' rfl rfl rfl rfl rfl) (.nil)) rfl) (mc rfl (btrA' rfl) (mc rfl (.box rfl (.c9 (.c9 (.c9 (.c9 (.c9 .z9))))) rfl) mn)))
 ·refine AWP.cd hR rfl (fun h4 hR => ?_) fun h4 hR => ?_
  ·refine AWP.sq (AWP.rgC 39 rfl rfl (ldB (v := slV arc_Orbit _ _ _ _) rfl rfl rfl rfl ti50 rfl rfl (pS rfl ?_)))
   obtain ⟨h5, hR⟩ := chkE hR
   refine ixS0 (α := arc_Orbit) rfl rfl rfl ti50 rfl ti55 rfl h5 ?_
   refine fa rfl rfl ti55 rfl rfl ti2 rfl (ldE (α := arc_Orbit) (off := 55) (v := .sc _) rfl rfl rfl (ixlt h5) ti2 rfl rfl rfl rfl ?_)
   refine pS rfl (ixS0 (α := arc_Orbit) rfl rfl rfl ti50 rfl ti55 rfl h5 ?_)
   refine fa rfl rfl ti55 rfl rfl ti2 rfl ?_
   obtain ⟨v6, ev6, hR⟩ := letE hR
   refine stE (α := arc_Orbit) (off := 55) (y := arc_Orbit.mk (gt p1 (w6 ((p1.length : Int) - 1))).Seen (gt p1 (w6 ((p1.length : Int) - 1))).Near (w6 ((gt p1 (w6 ((p1.length : Int) - 1))).Far + 4096))) rfl rfl rfl (ixlt h5) ti2 rfl rfl rfl (by kernel_rfl) rfl ?_
   rw [ev6]
   refine RunC.fin (AWP.ret (rtT ?_))
   have hR := Option.some.inj hR; subst hR
   exact hQ _ _ (LS.mk [] (lblks 0 [.box [slV arc_Orbit 1 p1V 0 v6.length], arrB (α := arc_Orbit) 55 p1V false v6, boxB (α := Seen × Seen × Seen) true p2]) 3) (.tup []) [] (.inr rfl) (Weak.turnL [(0, 0), (1, p1V), (2, 0)] [] (by simp [kpOK, nodupB, lget, lblks, pushes, Blk.hasVer, arrB, boxB, slV, List.range, List.range.loop]) rfl tn (mc rfl (.box rfl (.cons (trS' rfl rfl rfl rfl (by subst ev6; simp only [List.length_set])) (.nil)) rfl) (mc rfl (btrA' rfl) (mc rfl (.box rfl (.c9 (.c9 (.c9 (.c9 (.c9 .z9))))) rfl) mn)))) (ro0 ) rfl rfl (.tup .nil) (pc rfl (.box (.cons (ldM rfl rfl) .nil) rfl) (pc rfl bldA (pc rfl bldB pn)))
  ·refine AWP.skip (skT (AWP.rgC 47 rfl rfl (ldB (v := slV arc_Orbit _ _ _ _) rfl rfl rfl rfl ti50 rfl rfl (ldB (v := .agg _) rfl rfl rfl rfl ti41 rfl rfl (pS rfl (pS rfl (pS rfl (pS rfl (pS rfl (bu (cs := [iV p2.1.At.Lo, iV p2.1.At.Hi, bV p2.1.At.Unknown, iV p2.1.From.X, iV p2.1.From.Y, iV p2.1.From.Z, iV p2.1.Box.X.Lo, iV p2.1.Box.X.Hi, bV p2.1.Box.X.Unknown, iV p2.1.Box.Y.Lo, iV p2.1.Box.Y.Hi, bV p2.1.Box.Y.Unknown, iV p2.1.Box.Z.Lo, iV p2.1.Box.Z.Hi, bV p2.1.Box.Z.Unknown, iV p2.1.Flux.Lo, iV p2.1.Flux.Hi, bV p2.1.Flux.Unknown, iV p2.2.1.At.Lo, iV p2.2.1.At.Hi, bV p2.2.1.At.Unknown, iV p2.2.1.From.X, iV p2.2.1.From.Y, iV p2.2.1.From.Z, iV p2.2.1.Box.X.Lo, iV p2.2.1.Box.X.Hi, bV p2.2.1.Box.X.Unknown, iV p2.2.1.Box.Y.Lo, iV p2.2.1.Box.Y.Hi, bV p2.2.1.Box.Y.Unknown, iV p2.2.1.Box.Z.Lo, iV p2.2.1.Box.Z.Hi, bV p2.2.1.Box.Z.Unknown, iV p2.2.1.Flux.Lo, iV p2.2.1.Flux.Hi, bV p2.2.1.Flux.Unknown, iV p2.2.2.At.Lo, iV p2.2.2.At.Hi, bV p2.2.2.At.Unknown, iV p2.2.2.From.X, iV p2.2.2.From.Y, iV p2.2.2.From.Z, iV p2.2.2.Box.X.Lo, iV p2.2.2.Box.X.Hi, bV p2.2.2.Box.X.Unknown, iV p2.2.2.Box.Y.Lo, iV p2.2.2.Box.Y.Hi, bV p2.2.2.Box.Y.Unknown, iV p2.2.2.Box.Z.Lo, iV p2.2.2.Box.Z.Hi, bV p2.2.2.Box.Z.Unknown, iV p2.2.2.Flux.Lo, iV p2.2.2.Flux.Hi, bV p2.2.2.Flux.Unknown, iV (w6 (m * 4096)), iV (w6 ((w6 (m + 1)) * 4096))]) rfl bt55 rfl (bs (α := arc_Orbit) 35 true ([arc_Orbit.mk p2 (w6 (m * 4096)) (w6 ((w6 (m + 1)) * 4096))] : List arc_Orbit) rfl rfl ti50 rfl ti55 rfl rfl rfl rfl rfl ?_)))))))))))
   obtain ⟨h7, hR⟩ := chkE hR
   refine ap' (α := arc_Orbit) (nw := false) (xs := p1) (ys := ([arc_Orbit.mk p2 (w6 (m * 4096)) (w6 ((w6 (m + 1)) * 4096))] : List arc_Orbit)) rfl rfl rfl rfl (srcS2 rfl rfl rfl (fun _ => rfl)) ti50 rfl ti55 rfl h7 rfl ?_
   refine stB (cs' := [slV arc_Orbit 1 (p1V + 1) 0 (p1 ++ ([arc_Orbit.mk p2 (w6 (m * 4096)) (w6 ((w6 (m + 1)) * 4096))] : List arc_Orbit)).length]) rfl rfl rfl rfl ti50 rfl rfl rfl rfl rfl (RunC.nil ?_)
   have hR := Option.some.inj hR; subst hR
   exact hQ _ _ (LS.mk [] (lblks 0 [.box [slV arc_Orbit 1 (p1V + 1) 0 (p1 ++ ([arc_Orbit.mk p2 (w6 (m * 4096)) (w6 ((w6 (m + 1)) * 4096))] : List arc_Orbit)).length], arrB (α := arc_Orbit) 55 (p1V + 1) false (p1 ++ ([arc_Orbit.mk p2 (w6 (m * 4096)) (w6 ((w6 (m + 1)) * 4096))] : List arc_Orbit)), boxB (α := Seen × Seen × Seen) true p2]) 3) (.tup []) [] (.inl rfl) (Weak.turnL [(0, 0), (1, (p1V + 1)), (2, 0)] [] (by simp [kpOK, nodupB, lget, lblks, pushes, Blk.hasVer, arrB, boxB, slV, List.range, List.range.loop]) rfl tn (mc rfl (.box rfl (.cons (trS' rfl rfl rfl rfl rfl) (.nil)) rfl) (mc rfl (btrA' rfl) (mc rfl (.box rfl (.c9 (.c9 (.c9 (.c9 (.c9 .z9))))) rfl) mn)))) (ro0 ) rfl rfl (.tup .nil) (pc rfl (.box (.cons (ldM rfl rfl) .nil) rfl) (pc rfl bldA (pc rfl bldB pn)))
theorem ok21_91 : ∀ (fuel : Nat) (p : arc_plane) (m : Int) (n : Int) (fc0 : List arc_Orbit) (fc0V : Nat) (fc1 : Seen × Seen × Seen) (r : Nat × (List arc_Orbit) × (Seen × Seen × Seen)) (hR : plane_search_arc_Solve_1_2 fuel p m n fc0 fc0V fc1 = some r), FnD Try.prog 21 [.box [slV arc_Orbit 1 fc0V 0 fc0.length], arrB (α := arc_Orbit) 55 fc0V false fc0, boxB false fc1] [aggV false p, .sc (.int .i64 m), .sc (.int .i64 n), .fn (.func 22) [.ptr 0 0 0, .ptr 2 0 0]] (.tup []) [.box [slV arc_Orbit 1 r.1 0 r.2.1.length], arrB (α := arc_Orbit) 55 r.1 false r.2.1, boxB false r.2.2] := by
 intro fuel
 induction fuel with
 | zero => intro p m n fc0 fc0V fc1 r hR; exact nomatch (show none = some r from hR)
 | succ fuel ih =>
  intro p m n fc0 fc0V fc1 r hR
  refine FnX.walk Try.func21 rfl 39 3 (by simp [Try.ntmps21]) rfl fun W S F Q hQ => ?_
  unfold plane_search_arc_Solve_1_2 at hR
  refine AWP.sq (AWP.rgC 7 rfl rfl (bx (cs := _) 3 rfl rfl rfl (RunC.fin (AWP.block (AWP.sq (AWP.rgD 35 [0, 0, 0, 6, 15, 31, 63] ⟨[], [some [3], none, none, none, none, none, none]⟩ hmix (by kernel_rfl) rfl rfl ?_))))))
  refine ldB (v := .agg _) rfl rfl rfl rfl ti74 rfl rfl (pS rfl (pS rfl ?_))
  obtain ⟨r1, hr1, hR⟩ := bindE hR
  refine cls [] rfl rfl cb43 (ok43 m n _ hr1) .z2 (.inr rfl) rfl ?_
  obtain ⟨r2, hr2, hR⟩ := bindE hR
  refine cls [] rfl rfl cb42 (ok42 p r1 _ hr2) (.cons (.agg (.c9 (.c9 (.c9 (.c9 .z3)))) rfl) (.cons (.agg .z3 rfl) (.nil))) (.inr rfl) rfl (pS rfl (pS rfl (RunC.fin (AWP.cd hR rfl (fun h3 hR => ?_) fun h3 hR => ?_))))
  ·refine AWP.skip (skB ?_)
   have hR := Option.some.inj hR; subst hR
   exact hQ _ _ (LS.mk [] (lblks 0 [.box [slV arc_Orbit 1 fc0V 0 fc0.length], arrB (α := arc_Orbit) 55 fc0V false fc0, boxB (α := Seen × Seen × Seen) true fc1]) 3) (.tup []) [] (.inl rfl) (Weak.turnL [(0, 0), (1, fc0V), (2, 0)] [] (by simp [kpOK, nodupB, lget, lblks, pushes, Blk.hasVer, arrB, boxB, slV, List.range, List.range.loop]) rfl tn (mc rfl (.box rfl (.cons (trS' rfl rfl rfl rfl rfl) (.nil)) rfl) (mc rfl (btrA' rfl) (mc rfl (.box rfl (.c9 (.c9 (.c9 (.c9 (.c9 .z9))))) rfl) mn)))) (ro0 ) rfl rfl (.tup .nil) (pc rfl (.box (.cons (ldM rfl rfl) .nil) rfl) (pc rfl bldA (pc rfl bldB pn)))
  ·refine AWP.sq (AWP.rgC 55 rfl rfl (pS rfl (pS rfl (pS rfl (pS rfl (pS rfl (RunC.fin (AWP.cd hR rfl (fun h4 hR => ?_) fun h4 hR => ?_))))))))
   ·refine AWP.rgC 67 rfl rfl (pu (v := .fn _ _) rfl rfl (fun _ => rfl) (pS rfl ?_))
    obtain ⟨r5, hr5, hR⟩ := bindE hR
    refine cps (res' := .tup []) (ups := [(0, .box [slV arc_Orbit 1 r5.1 0 r5.2.length]), (1, arrB (α := arc_Orbit) 55 r5.1 false r5.2), (2, boxB (α := Seen × Seen × Seen) true fc1)]) [0, 1, 2] 63 rfl rfl rfl cb22 (ok22_90 m fc0 fc0V fc1 _ hr5) (.cons (.sc _) (.cons (ldP rfl rfl) (.cons (ldP rfl rfl) (.nil)))) (pc rfl (.box (.cons (ldM rfl rfl) .nil) rfl) (pc rfl bldA (pc rfl (.box (.c9 (.c9 (.c9 (.c9 (.c9 .z9))))) rfl) pn))) rfl rfl rfl rfl rfl (by first | rfl | exact renR | exact renA | exact renS | simp only [V.ren, V.rens, renR, renA, renS] | (simp only [V.ren, V.rens, renR, renA, renS]; rfl)) (by simp only [passUps, renBox, renArr]; rfl) (RunC.blk (RunC.nil ?_))
    have hR := Option.some.inj hR; subst hR
    exact hQ _ _ (LS.mk [] (lblks 0 [.box [slV arc_Orbit 1 r5.1 0 r5.2.length], arrB (α := arc_Orbit) 55 r5.1 false r5.2, boxB (α := Seen × Seen × Seen) true fc1]) 3) (.tup []) [] (.inl rfl) (Weak.turnL [(0, 0), (1, r5.1), (2, 0)] [] (by simp [kpOK, nodupB, lget, lblks, pushes, Blk.hasVer, arrB, boxB, slV, List.range, List.range.loop]) rfl tn (mc rfl (.box rfl (.cons (trS' rfl rfl rfl rfl rfl) (.nil)) rfl) (mc rfl (btrA' rfl) (mc rfl (.box rfl (.c9 (.c9 (.c9 (.c9 (.c9 .z9))))) rfl) mn)))) (ro0 ) rfl rfl (.tup .nil) (pc rfl (.box (.cons (ldM rfl rfl) .nil) rfl) (pc rfl bldA (pc rfl bldB pn)))
   ·refine AWP.sq (AWP.rgC 87 rfl rfl (ldB (v := .agg _) rfl rfl rfl rfl ti74 rfl rfl (pS rfl (pS rfl (pS rfl (pS rfl (qu rfl rfl rfl (by decide) rfl ?_)))))))
    refine pu (v := .fn _ _) rfl rfl (fun _ => rfl) ?_
    obtain ⟨r6, hr6, hR⟩ := bindE hR
    refine cps (res' := .tup []) (ups := [(0, .box [slV arc_Orbit 1 r6.1 0 r6.2.1.length]), (1, arrB (α := arc_Orbit) 55 r6.1 false r6.2.1), (2, boxB (α := Seen × Seen × Seen) true r6.2.2)]) [0, 1, 2] 83 rfl rfl rfl cb21 (ih p m (w6 (Int.tdiv (w6 (m + n)) 2)) fc0 fc0V fc1 _ hr6) (.cons (.agg (.c9 (.c9 (.c9 (.c9 .z3)))) rfl) (.c2 (.cons (.fn (.cons (ldP rfl rfl) (.cons (ldP rfl rfl) (.nil)))) (.nil)))) (pc rfl (.box (.cons (ldM rfl rfl) .nil) rfl) (pc rfl bldA (pc rfl (.box (.c9 (.c9 (.c9 (.c9 (.c9 .z9))))) rfl) pn))) rfl rfl rfl rfl rfl (by first | rfl | exact renR | exact renA | exact renS | simp only [V.ren, V.rens, renR, renA, renS] | (simp only [V.ren, V.rens, renR, renA, renS]; rfl)) (by simp only [passUps, renBox, renArr]; rfl) (RunC.fin (AWP.rgC 119 rfl rfl (ldB (v := .agg _) rfl rfl rfl rfl ti74 rfl rfl (pS rfl (pS rfl (pS rfl (qu rfl rfl rfl (by decide) rfl ?_)))))))
    refine pS rfl (pu (v := .fn _ _) rfl rfl (fun _ => rfl) ?_)
    obtain ⟨r7, hr7, hR⟩ := bindE hR
    refine cps (res' := .tup []) (ups := [(0, .box [slV arc_Orbit 1 r7.1 0 r7.2.1.length]), (1, arrB (α := arc_Orbit) 55 r7.1 false r7.2.1), (2, boxB (α := Seen × Seen × Seen) true r7.2.2)]) [0, 1, 2] 115 rfl rfl rfl cb21 (ih p (w6 (Int.tdiv (w6 (m + n)) 2)) n r6.2.1 r6.1 r6.2.2 _ hr7) (.cons (.agg (.c9 (.c9 (.c9 (.c9 .z3)))) rfl) (.c2 (.cons (.fn (.cons (ldP rfl rfl) (.cons (ldP rfl rfl) (.nil)))) (.nil)))) (pc rfl (.box (.cons (ldM rfl rfl) .nil) rfl) (pc rfl bldA (pc rfl (.box (.c9 (.c9 (.c9 (.c9 (.c9 .z9))))) rfl) pn))) rfl rfl rfl rfl rfl (by first | rfl | exact renR | exact renA | exact renS | simp only [V.ren, V.rens, renR, renA, renS] | (simp only [V.ren, V.rens, renR, renA, renS]; rfl)) (by simp only [passUps, renBox, renArr]; rfl) (RunC.blk (RunC.nil ?_))
    have hR := Option.some.inj hR; subst hR
    exact hQ _ _ (LS.mk [] (lblks 0 [.box [slV arc_Orbit 1 r7.1 0 r7.2.1.length], arrB (α := arc_Orbit) 55 r7.1 false r7.2.1, boxB (α := Seen × Seen × Seen) true r7.2.2]) 3) (.tup []) [] (.inl rfl) (Weak.turnL [(0, 0), (1, r7.1), (2, 0)] [] (by simp [kpOK, nodupB, lget, lblks, pushes, Blk.hasVer, arrB, boxB, slV, List.range, List.range.loop]) rfl tn (mc rfl (.box rfl (.cons (trS' rfl rfl rfl rfl rfl) (.nil)) rfl) (mc rfl (btrA' rfl) (mc rfl (.box rfl (.c9 (.c9 (.c9 (.c9 (.c9 .z9))))) rfl) mn)))) (ro0 ) rfl rfl (.tup .nil) (pc rfl (.box (.cons (ldM rfl rfl) .nil) rfl) (pc rfl bldA (pc rfl bldB pn)))
theorem ok7 (s : Seen × Seen × Seen) (r : (List arc_Orbit) × Int) (hR : arc_Solve s = some r) : FnP Try.prog 7 [aggV false s] (.tup [rowV (α := arc_Orbit) false r.1, .sc (.int .i64 r.2)]) := by
 refine fnP_of (FnX.walk Try.func7 rfl 16 0 (by simp [Try.ntmps7]) rfl fun W S F Q hQ => ?_)
 unfold arc_Solve at hR
 refine AWP.sq (AWP.rgC 12 rfl rfl (bx (cs := _) 0 rfl rfl rfl (pS rfl (pS rfl (RunC.fin (AWP.sq (AWP.sq (AWP.rgC 24 rfl rfl (ldB (v := .agg _) rfl rfl rfl rfl ti41 rfl rfl ?_)))))))))
 obtain ⟨r1, hr1, hR⟩ := bindE hR
 refine cls [] rfl rfl cb19 (ok19 s _ hr1) (.cons (.agg (.c9 (.c9 (.c9 (.c9 (.c9 .z9))))) rfl) (.nil)) (.inr rfl) rfl (pS rfl (RunC.fin (AWP.sq (AWP.rgC 32 rfl rfl (pS rfl (pS rfl (RunC.fin (AWP.cd hR rfl (fun h2 hR => ?_) fun h2 hR => ?_))))))))
 ·refine AWP.sq (AWP.rgC 44 rfl rfl (pS rfl (pS rfl (pS rfl (RunC.fin (AWP.ret (rtT ?_)))))))
  have hR := Option.some.inj hR; subst hR
  exact hQ _ _ (LS.mk [(2, rowV (α := arc_Orbit) false []), (3, iV r1)] (lblks 0 []) 0) (.tup [rowV (α := arc_Orbit) false [], iV r1]) [] (.inr rfl) (Weak.turnL [] [] rfl rfl (tc trN (tc (.sc _) tn)) mn) (ro2 (rvT (v := rowV (α := arc_Orbit) false []) rfl) (rvT (v := iV r1) rfl)) rfl rfl (.tup (.cons ldR' (.cons (.sc _) .nil))) pn
 ·refine AWP.skip (skT (AWP.sq (AWP.rgC 36 rfl rfl (al (cs := [.sc (.slice none 0 0)]) 32 rfl rfl ti50 rfl rfl (RunC.fin (AWP.sq (AWP.nilB arc_Orbit 32 0 55 rfl rfl (cs' := [slV arc_Orbit 36 0 0 0]) rfl ?_)))))))
  refine AWP.rgC 53 rfl rfl (ldB (v := .agg _) rfl rfl rfl rfl ti41 rfl rfl ?_)
  obtain ⟨r3, hr3, hR⟩ := bindE hR
  refine cls [] rfl rfl cb20 (ok20 s _ hr3) (.cons (.agg (.c9 (.c9 (.c9 (.c9 (.c9 .z9))))) rfl) (.nil)) (.inr rfl) rfl (pu (v := .fn _ _) rfl rfl (fun _ => rfl) ?_)
  obtain ⟨r4, hr4, hR⟩ := bindE hR
  refine cps (res' := .tup []) (ups := [(32, .box [slV arc_Orbit 36 r4.1 0 r4.2.1.length]), (36, arrB (α := arc_Orbit) 55 r4.1 false r4.2.1), (0, boxB (α := Seen × Seen × Seen) true r4.2.2)]) [32, 36, 0] 49 rfl rfl rfl cb21 (ok21_91 64 r3 0 4096 ([] : List arc_Orbit) 0 s _ hr4) (.cons (.agg (.c9 (.c9 (.c9 (.c9 .z3)))) rfl) (.c2 (.cons (.fn (.cons (ldP rfl rfl) (.cons (ldP rfl rfl) (.nil)))) (.nil)))) (pc rfl (.box (.cons (ldM rfl rfl) .nil) rfl) (pc rfl bldA (pc rfl (.box (.c9 (.c9 (.c9 (.c9 (.c9 .z9))))) rfl) pn))) rfl rfl rfl rfl rfl (by first | rfl | exact renR | exact renA | exact renS | simp only [V.ren, V.rens, renR, renA, renS] | (simp only [V.ren, V.rens, renR, renA, renS]; rfl)) (by simp only [passUps, renBox, renArr]; rfl) (RunC.fin (AWP.sq (AWP.rgC 65 rfl rfl (ldB (v := slV arc_Orbit _ _ _ _) rfl rfl rfl rfl ti50 rfl rfl (pu (v := slV arc_Orbit _ _ _ _) rfl rfl (fun _ => rfl) (pS rfl (RunC.fin (AWP.ret ?_))))))))
  have hR := Option.some.inj hR; subst hR
  exact hQ _ _ (LS.mk [(2, rowV (α := arc_Orbit) false r4.2.1), (3, iV 0)] (lblks 0 []) 0) (.tup [rowV (α := arc_Orbit) false r4.2.1, iV 0]) [] (.inr rfl) (Weak.turnL [] [36] rfl rfl (tc (trF' rfl rfl id rfl) (tc (.sc _) tn)) mn) (ro2 (rvT (v := rowV (α := arc_Orbit) false r4.2.1) rfl) (rvT (v := iV 0) rfl)) rfl rfl (.tup (.cons ldR' (.cons (.sc _) .nil))) pn
theorem ok9 (p : arc_Orbit) (p1 : arc_Orbit) (r : Bool) (hR : spykeep4_ArcWider_1 p p1 = some r) : FnP Try.prog 9 [aggV false p, .rp (Cl.c false p1)] (.sc (.bool r)) := by
 refine fnP_of (FnX.walk Try.func9 rfl 16 0 (by simp [Try.ntmps9]) rfl fun W S F Q hQ => ?_)
 unfold spykeep4_ArcWider_1 at hR
 refine AWP.sq (AWP.rgC 8 rfl rfl (bx (cs := _) 0 rfl rfl rfl (pS rfl (RunC.fin (AWP.joinX (fun z1 : Bool => LS.mk [(3, bV z1)] (lblks 0 []) 0) hR (fun o1 hR => ?_) fun z1 hR => ?_)))))
 ·refine AWP.rgC 60 rfl rfl (fa rfl rfl ti55 rfl rfl ti2 rfl (ldB (v := .sc _) rfl rfl rfl rfl ti2 rfl rfl (fr rfl rfl ti55 rfl rfl ti2 rfl ?_)))
  refine ldR (v := .sc _) rfl rfl ti2 rfl ?_
  refine pS rfl (pS rfl (brR hR (fun h2 hR => ?_) fun h2 hR => ?_))
  ·refine fr (wtG rfl rfl rfl h2) rfl ti55 rfl rfl ti2 rfl ?_
   refine ldR (v := .sc _) (wtG rfl rfl rfl h2) rfl ti2 rfl ?_
   refine fa (wtG rfl rfl rfl h2) rfl ti55 rfl rfl ti2 rfl (ldB (v := .sc _) (wtG rfl rfl rfl h2) rfl rfl rfl ti2 rfl rfl (pu (v := .sc _) (wtG rfl rfl rfl h2) rfl (fun _ => rfl) (pkT (v := bV (decide (p1.Far ≤ p.Far))) rfl rfl h2 rfl (pS rfl (RunC.fin ?_)))))
   have hR := Option.some.inj hR; subst hR
   exact Weak.turnL [] [] rfl rfl (tc (.sc _) tn) mn
  ·refine sk (skW rfl rfl rfl h2) (sk (skW rfl rfl rfl h2) (sk (skW rfl rfl rfl h2) (sk (skW rfl rfl rfl h2) (sk (skW rfl rfl rfl h2) (pkF (v := bV false) rfl rfl h2 rfl (pS rfl (RunC.fin ?_)))))))
   have hR := Option.some.inj hR; subst hR
   exact Weak.turnL [] [] rfl rfl (tc (.sc _) tn) mn
 ·refine AWP.ret ?_
  have hR := Option.some.inj hR; subst hR
  exact hQ _ _ (LS.mk [(3, bV z1)] (lblks 0 []) 0) (bV z1) [] (.inr rfl) (Weak.turnL [] [] rfl rfl (tc (.sc _) tn) mn) (ro1 (rvT (v := bV z1) rfl)) rfl rfl (.sc _) pn
theorem ok23 (s : List arc_Orbit) (fc0 : arc_Orbit) (r : Int) (hR : slices_IndexFunc_arc_Orbit_spykeep4_ArcWider_1 s fc0 = some r) : FnP Try.prog 23 [rowV false s, .fn (.func 9) [.rp (Cl.c false fc0)]] (.sc (.int .i64 r)) := by
 refine fnP_of (FnX.walk Try.func23 rfl 19 0 (by simp [Try.ntmps23]) rfl fun W S F Q hQ => ?_)
 unfold slices_IndexFunc_arc_Orbit_spykeep4_ArcWider_1 at hR
 refine AWP.sq (AWP.rgC 4 rfl rfl (pS rfl (RunC.fin (AWP.sq (AWP.sq (AWP.rgC 16 rfl rfl (pu (v := rowV _ s) rfl rfl (fun _ => rfl) (lenL (α := arc_Orbit) rfl rfl ti50 rfl ?_))))))))
 refine pS rfl (RunC.fin (AWP.loopK' (fun s1 : Int => LS.mk [(0, rowV (α := arc_Orbit) false s), (1, .fn (.func 9) [.rp (Cl.c false (fc0 : arc_Orbit))]), (7, iV (s.length : Int)), (8, iV s1)] (lblks 0 []) 0) (fun z2 : Unit => LS.mk [] (lblks 0 []) 0) (slices_IndexFunc_arc_Orbit_spykeep4_ArcWider_1.l1 s fc0) hR (s0 := 0) (Weak.turnL [] [] rfl rfl (tc trR1 (tc (.fn (.cons (.rp (Cl.tr _ _ _ _ id) (Cl.leaf _ _)) (.nil))) (tc (.sc _) (tc (.sc _) tn)))) mn) (fun s1 o1 hR hE1 => ?_) fun z2 hR => ?_))
 ·unfold slices_IndexFunc_arc_Orbit_spykeep4_ArcWider_1.l1 at hR
  refine AWP.sq (AWP.rgC 4 rfl rfl (pS rfl (RunC.fin (AWP.sq (AWP.cd hR rfl (fun h3 hR => ?_) fun h3 hR => ?_)))))
  ·refine AWP.skip (skT (AWP.sq (AWP.block (AWP.sq (AWP.rgC 12 rfl rfl (pS rfl (pS rfl (RunC.fin (AWP.sq (AWP.rgC 36 rfl rfl (pu (v := .fn _ _) rfl rfl (fun _ => rfl) (pu (v := rowV _ s) rfl rfl (fun _ => rfl) (pS rfl ?_)))))))))))))
   obtain ⟨h4, hR⟩ := chkE hR
   refine ixL (α := arc_Orbit) rfl rfl rfl ti50 rfl ti55 rfl h4 ?_
   refine ldR (v := .agg _) rfl rfl ti55 rfl ?_
   obtain ⟨r5, hr5, hR⟩ := bindE hR
   refine cls [] rfl rfl cb9 (ok9 (gt s s1) fc0 _ hr5) (.cons (.agg (.c9 (.c9 (.c9 (.c9 (.c9 (.c9 .z2)))))) rfl) (.cons (.rp (Cl.ld _ _ _) (Cl.leaf _ _)) (.nil))) (.inr rfl) rfl (RunC.fin (AWP.cd hR rfl (fun h6 hR => ?_) fun h6 hR => ?_))
   ·refine AWP.sq (AWP.rgC 44 rfl rfl (pS rfl (pS rfl (RunC.fin (AWP.ret (rtB (rtT (rtT (rtB (rtT ?_))))))))))
    replace hR := escL hR hE1
    refine rtT ?_
    have hR := Option.some.inj hR; subst hR
    exact hQ _ _ (LS.mk [(4, iV s1)] (lblks 0 []) 0) (iV s1) [] (.inr rfl) (Weak.turnL [] [] rfl rfl (tc (.sc _) tn) mn) (ro1 (rvT (v := iV s1) rfl)) rfl rfl (.sc _) pn
   ·refine AWP.skip (skB ?_)
    refine skT (AWP.rgC 44 rfl rfl (pS rfl (pS rfl (RunC.fin (⟨(w6 (s1 + 1)), (Option.some.inj hR).symm, ?_⟩)))))
    exact Weak.turnL [] [] rfl rfl (tc trR1 (tc (.fn (.cons (.rp (Cl.tr _ _ _ _ id) (Cl.leaf _ _)) (.nil))) (tc (.sc _) (tc (.sc _) tn)))) mn
  ·refine AWP.exit (exT (exT (exH (skT (⟨(), (Option.some.inj hR).symm, ?_⟩)))))
   exact Weak.turnL [] [] rfl rfl tn mn
 ·refine skT (AWP.sq (AWP.rgC 4 rfl rfl (pS rfl (RunC.fin (AWP.ret ?_)))))
  have hR := Option.some.inj hR; subst hR
  exact hQ _ _ (LS.mk [(4, iV (-1))] (lblks 0 []) 0) (iV (-1)) [] (.inr rfl) (Weak.turnL [] [] rfl rfl (tc (.sc _) tn) mn) (ro1 (rvT (v := iV (-1)) rfl)) rfl rfl (.sc _) pn
theorem ok8 (s : List arc_Orbit) (fc0 : arc_Orbit) (r : Bool) (hR : slices_ContainsFunc_arc_Orbit_spykeep4_ArcWider_1 s fc0 = some r) : FnP Try.prog 8 [rowV false s, .fn (.func 9) [.rp (Cl.c false fc0)]] (.sc (.bool r)) := by
 refine fnP_of (FnX.walk Try.func8 rfl 9 0 (by simp [Try.ntmps8]) rfl fun W S F Q hQ => ?_)
 unfold slices_ContainsFunc_arc_Orbit_spykeep4_ArcWider_1 at hR
 refine AWP.sq (AWP.rgC 4 rfl rfl (pS rfl (RunC.fin (AWP.sq (AWP.rgC 24 rfl rfl (pu (v := rowV _ s) rfl rfl (fun _ => rfl) (pu (v := .fn _ _) rfl rfl (fun _ => rfl) ?_)))))))
 obtain ⟨r1, hr1, hR⟩ := bindE hR
 refine cls [] rfl rfl cb23 (ok23 s fc0 _ hr1) (.cons ldR' (.cons (.fn (.cons (.rp (Cl.ld _ _ _) (Cl.leaf _ _)) (.nil))) (.nil))) (.inr rfl) rfl (pS rfl (pS rfl (RunC.fin (AWP.ret ?_))))
 have hR := Option.some.inj hR; subst hR
 exact hQ _ _ (LS.mk [(4, bV (decide (r1 ≥ 0)))] (lblks 0 []) 0) (bV (decide (r1 ≥ 0))) [] (.inr rfl) (Weak.turnL [] [] rfl rfl (tc (.sc _) tn) mn) (ro1 (rvT (v := bV (decide (r1 ≥ 0))) rfl)) rfl rfl (.sc _) pn
end Go.Proofs.Arw
