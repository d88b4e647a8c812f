/- Each function of the program computes its plain function. Conditions: as each theorem states them. -/
import Derived.Test.YtbldfhcnkbahaaaGreatA3
import Derived.Test.YtbldfhcnkbahaaaGreatA4
import Derived.Test.YtbldfhcnkbahaaaGreatT
import Derived.Test.YtbldfhcnkbahaaaGreatP2
namespace Go.Proofs.Ids
open Go Go.Abs Lf
set_option linter.unusedVariables false
set_option linter.unusedSimpArgs false
set_option maxRecDepth 100000
set_option maxHeartbeats 1000000
theorem ok82 (a : Int) (b : Int) (c : Int) (r : Int × Int) (hR : num_MulDivUp a b c = some r) : FnP Tryz.prog 82 [.sc (.int .i64 a), .sc (.int .i64 b), .sc (.int .i64 c)] (.tup [.sc (.int .i64 r.1), .sc (.int .i64 r.2)]) := by
 refine fnP_of (FnX.walk Tryz.func82 rfl 34 0 (by simp [Tryz.ntmps82]) rfl fun W S F Q hQ => ?_)
 unfold num_MulDivUp at hR
 refine AWP.sq (AWP.rgC 8 rfl rfl (pS rfl (pS rfl (RunC.fin (AWP.sq (AWP.rgC 28 rfl rfl (pS rfl (pS rfl ?_))))))))
 obtain ⟨r1, hr1, hR⟩ := bindE hR
 refine cls [] rfl rfl cb49 (ok49 a b _ hr1) .z2 (.inr rfl) rfl (al (cs := [iV 0, .sc (.int .u64 0)]) 20 rfl rfl ti111 rfl rfl (stB (cs' := [iV r1.Hi, .sc (.int .u64 r1.Lo.n)]) rfl rfl rfl rfl ti111 rfl rfl rfl rfl rfl (RunC.fin (AWP.sq (AWP.rgC 60 rfl rfl (ldB (v := .agg _) rfl rfl rfl rfl ti111 rfl rfl (pS rfl ?_)))))))
 obtain ⟨r2, hr2, hR⟩ := bindE hR
 refine cls [] rfl rfl cb76 (ok76 r1 c _ hr2) (.cons (.agg .z2 rfl) (.cons (.sc _) .nil)) (.inr rfl) rfl (pu (v := .tup _) rfl rfl (fun _ => rfl) (pS rfl (pS rfl (pS rfl (pS rfl (RunC.fin (AWP.sq (AWP.joinX (fun z3 : Bool => LS.mk [(9, iV r2.1), (10, iV r2.2), (27, bV z3)] (lblks 0 []) 0) hR (fun o3 hR => ?_) fun z3 hR => ?_))))))))
 ·refine AWP.rgC 92 rfl rfl (pS rfl (pS rfl (pS rfl (brR hR (fun h4 hR => ?_) fun h4 hR => ?_))))
  ·refine sk (skW rfl rfl rfl h4) (sk (skW rfl rfl rfl h4) (sk (skW rfl rfl rfl h4) (sk (skW rfl rfl rfl h4) (pkT (v := bV true) rfl rfl h4 rfl (RunC.fin ?_)))))
   have hR := Option.some.inj hR; subst hR
   exact Weak.turnL [] [] rfl rfl (tc (.sc _) (tc (.sc _) (tc (.sc _) tn))) mn
  ·refine ldB (v := .agg _) (wtG rfl rfl rfl h4) rfl rfl rfl ti111 rfl rfl (pu (v := .sc _) (wtG rfl rfl rfl h4) rfl (fun _ => rfl) ?_)
   obtain ⟨r5, hr5, hR⟩ := bindE hR
   refine cls [] (wtG rfl rfl rfl h4) rfl cb97 (ok97 r1 c _ hr5) (.cons (.agg .z2 rfl) (.cons (.sc _) .nil)) (.inr rfl) rfl (pu (v := .sc _) (wtG rfl rfl rfl h4) rfl (fun _ => rfl) (pkF (v := bV (r5 == 0)) rfl rfl h4 rfl (RunC.fin ?_)))
   have hR := Option.some.inj hR; subst hR
   exact Weak.turnL [] [] rfl rfl (tc (.sc _) (tc (.sc _) (tc (.sc _) tn))) mn
 ·refine AWP.cd hR rfl (fun h6 hR => ?_) fun h6 hR => ?_
  ·refine AWP.sq (AWP.rgC 16 rfl rfl (pS rfl (pS rfl (pS rfl (pS rfl (RunC.fin (AWP.ret (rtT ?_))))))))
   have hR := Option.some.inj hR; subst hR
   exact hQ _ _ (LS.mk [(6, iV r2.1), (7, iV r2.2)] (lblks 0 []) 0) (.tup [iV r2.1, iV r2.2]) [] (.inr rfl) (Weak.turnL [] [] rfl rfl (tc (.sc _) (tc (.sc _) tn)) mn) (ro2 (rvT (v := iV r2.1) rfl) (rvT (v := iV r2.2) rfl)) rfl rfl (.tup .z2) pn
  ·refine AWP.skip (skT (AWP.sq (AWP.sq (AWP.rgC 8 rfl rfl (pS rfl (pS rfl (RunC.fin (AWP.cd hR rfl (fun h7 hR => ?_) fun h7 hR => ?_))))))))
   ·refine AWP.sq (AWP.rgC 16 rfl rfl (pS rfl (pS rfl (RunC.fin (AWP.ret (rtT ?_))))))
    have hR := Option.some.inj hR; subst hR
    exact hQ _ _ (LS.mk [(6, iV 0), (7, iV 2)] (lblks 0 []) 0) (.tup [iV 0, iV 2]) [] (.inr rfl) (Weak.turnL [] [] rfl rfl (tc (.sc _) (tc (.sc _) tn)) mn) (ro2 (rvT (v := iV 0) rfl) (rvT (v := iV 2) rfl)) rfl rfl (.tup .z2) pn
   ·refine AWP.skip (skT (AWP.sq (AWP.rgC 24 rfl rfl (pS rfl (pS rfl (pS rfl (pS rfl (RunC.fin (AWP.ret ?_)))))))))
    have hR := Option.some.inj hR; subst hR
    exact hQ _ _ (LS.mk [(6, iV (w6 (r2.1 + 1))), (7, iV 0)] (lblks 0 []) 0) (.tup [iV (w6 (r2.1 + 1)), iV 0]) [] (.inr rfl) (Weak.turnL [] [] rfl rfl (tc (.sc _) (tc (.sc _) tn)) mn) (ro2 (rvT (v := iV (w6 (r2.1 + 1))) rfl) (rvT (v := iV 0) rfl)) rfl rfl (.tup .z2) pn
theorem ok81 (x : Int) (y : Int) (p2 : Int) (r : Int × Int) (hR : bound_Mul_2 x y p2 = some r) : FnP Tryz.prog 81 [.sc (.int .i64 x), .sc (.int .i64 y), .rp (Cl.c false p2)] (.tup [.sc (.int .i64 r.1), .sc (.int .i64 r.2)]) := by
 refine fnP_of (FnX.walk Tryz.func81 rfl 13 0 (by simp [Tryz.ntmps81]) rfl fun W S F Q hQ => ?_)
 unfold bound_Mul_2 at hR
 refine AWP.sq (AWP.rgC 8 rfl rfl (pS rfl (pS rfl (RunC.fin (AWP.sq (AWP.rgC 40 rfl rfl (pS rfl (pS rfl (ldR (v := .sc _) rfl rfl ti2 rfl ?_)))))))))
 obtain ⟨r1, hr1, hR⟩ := bindE hR
 refine cls [] rfl rfl cb82 (ok82 x y p2 _ hr1) .z3 (.inr rfl) rfl (pS rfl (pS rfl (pS rfl (pS rfl (RunC.fin (AWP.ret ?_))))))
 have hR := Option.some.inj hR; subst hR
 exact hQ _ _ (LS.mk [(5, iV r1.1), (6, iV r1.2)] (lblks 0 []) 0) (.tup [iV r1.1, iV r1.2]) [] (.inr rfl) (Weak.turnL [] [] rfl rfl (tc (.sc _) (tc (.sc _) tn)) mn) (ro2 (rvT (v := iV r1.1) rfl) (rvT (v := iV r1.2) rfl)) rfl rfl (.tup .z2) pn
theorem ok95 (x : List Int) (r : Int) (hR : slices_Min_Int x = some r) : FnP Tryz.prog 95 [rowV false x] (.sc (.int .i64 r)) := by
 refine fnP_of (FnX.walk Tryz.func95 rfl 25 0 (by simp [Tryz.ntmps95]) rfl fun W S F Q hQ => ?_)
 unfold slices_Min_Int at hR
 refine AWP.sq (AWP.rgC 4 rfl rfl (pS rfl (RunC.fin (AWP.sq (AWP.sq (AWP.rgC 16 rfl rfl (pu (v := rowV _ x) rfl rfl (fun _ => rfl) (lenL (α := Int) rfl rfl ti149 rfl ?_))))))))
 refine pS rfl (RunC.fin (AWP.cd hR rfl (fun h1 hR => ?_) fun h1 hR => ?_))
 ·cases hR
 ·refine AWP.skip (skT (AWP.sq (AWP.rgC 32 rfl rfl (pu (v := rowV _ x) rfl rfl (fun _ => rfl) ?_))))
  obtain ⟨h2, hR⟩ := chkE hR
  refine ixL (α := Int) rfl rfl rfl ti149 rfl ti31 rfl h2 ?_
  refine ldR (v := .sc _) rfl rfl ti31 rfl ?_
  refine pS rfl (RunC.fin (AWP.sq (AWP.sq (AWP.rgC 36 rfl rfl (pS rfl (RunC.fin (AWP.loopJ (fun s3 : Int × Int => LS.mk [(0, rowV (α := Int) false x), (3, iV s3.1), (4, iV s3.2)] (lblks 0 []) 0) (fun z4 : Int => LS.mk [(3, iV z4)] (lblks 0 []) 0) (slices_Min_Int.l1 x) hR (s0 := (gt x 0, 1)) (Weak.turnL [] [] rfl rfl (tc trR1 (tc (.sc _) (tc (.sc _) tn))) mn) (fun s3 o3 hR => ?_) fun z4 hR => ?_)))))))
  ·unfold slices_Min_Int.l1 at hR
   refine AWP.sq (AWP.sq (AWP.rgC 16 rfl rfl (pS rfl (pu (v := rowV _ x) rfl rfl (fun _ => rfl) (lenL (α := Int) rfl rfl ti149 rfl ?_)))))
   refine pS rfl (RunC.fin (AWP.cd hR rfl (fun h5 hR => ?_) fun h5 hR => ?_))
   ·refine AWP.skip (skT (AWP.sq (AWP.block (AWP.rgC 44 rfl rfl (pS rfl (pu (v := rowV _ x) rfl rfl (fun _ => rfl) (pS rfl ?_)))))))
    obtain ⟨h6, hR⟩ := chkE hR
    refine ixL (α := Int) rfl rfl rfl ti149 rfl ti31 rfl h6 ?_
    refine ldR (v := .sc _) rfl rfl ti31 rfl ?_
    refine pS rfl (pS rfl (RunC.blk (RunC.fin (AWP.rgC 56 rfl rfl (pS rfl (pS rfl (pS rfl (RunC.fin (⟨(mn2 s3.1 (gt x s3.2), w6 (s3.2 + 1)), (Option.some.inj hR).symm, ?_⟩)))))))))
    exact Weak.turnL [] [] rfl rfl (tc trR1 (tc (.sc _) (tc (.sc _) tn))) mn
   ·refine AWP.exit (exT (exT (exH (skT (⟨s3.1, (Option.some.inj hR).symm, ?_⟩)))))
    exact Weak.turnL [] [] rfl rfl (tc (.sc _) tn) mn
  ·refine skT (AWP.sq (AWP.rgC 8 rfl rfl (pS rfl (pS rfl (RunC.fin (AWP.ret ?_))))))
   have hR := Option.some.inj hR; subst hR
   exact hQ _ _ (LS.mk [(2, iV z4)] (lblks 0 []) 0) (iV z4) [] (.inr rfl) (Weak.turnL [] [] rfl rfl (tc (.sc _) tn) mn) (ro1 (rvT (v := iV z4) rfl)) rfl rfl (.sc _) pn
theorem ok96 (x : List Int) (r : Int) (hR : slices_Max_Int x = some r) : FnP Tryz.prog 96 [rowV false x] (.sc (.int .i64 r)) := by
 refine fnP_of (FnX.walk Tryz.func96 rfl 25 0 (by simp [Tryz.ntmps96]) rfl fun W S F Q hQ => ?_)
 unfold slices_Max_Int at hR
 refine AWP.sq (AWP.rgC 4 rfl rfl (pS rfl (RunC.fin (AWP.sq (AWP.sq (AWP.rgC 16 rfl rfl (pu (v := rowV _ x) rfl rfl (fun _ => rfl) (lenL (α := Int) rfl rfl ti149 rfl ?_))))))))
 refine pS rfl (RunC.fin (AWP.cd hR rfl (fun h1 hR => ?_) fun h1 hR => ?_))
 ·cases hR
 ·refine AWP.skip (skT (AWP.sq (AWP.rgC 32 rfl rfl (pu (v := rowV _ x) rfl rfl (fun _ => rfl) ?_))))
  obtain ⟨h2, hR⟩ := chkE hR
  refine ixL (α := Int) rfl rfl rfl ti149 rfl ti31 rfl h2 ?_
  refine ldR (v := .sc _) rfl rfl ti31 rfl ?_
  refine pS rfl (RunC.fin (AWP.sq (AWP.sq (AWP.rgC 36 rfl rfl (pS rfl (RunC.fin (AWP.loopJ (fun s3 : Int × Int => LS.mk [(0, rowV (α := Int) false x), (3, iV s3.1), (4, iV s3.2)] (lblks 0 []) 0) (fun z4 : Int => LS.mk [(3, iV z4)] (lblks 0 []) 0) (slices_Max_Int.l1 x) hR (s0 := (gt x 0, 1)) (Weak.turnL [] [] rfl rfl (tc trR1 (tc (.sc _) (tc (.sc _) tn))) mn) (fun s3 o3 hR => ?_) fun z4 hR => ?_)))))))
  ·unfold slices_Max_Int.l1 at hR
   refine AWP.sq (AWP.sq (AWP.rgC 16 rfl rfl (pS rfl (pu (v := rowV _ x) rfl rfl (fun _ => rfl) (lenL (α := Int) rfl rfl ti149 rfl ?_)))))
   refine pS rfl (RunC.fin (AWP.cd hR rfl (fun h5 hR => ?_) fun h5 hR => ?_))
   ·refine AWP.skip (skT (AWP.sq (AWP.block (AWP.rgC 44 rfl rfl (pS rfl (pu (v := rowV _ x) rfl rfl (fun _ => rfl) (pS rfl ?_)))))))
    obtain ⟨h6, hR⟩ := chkE hR
    refine ixL (α := Int) rfl rfl rfl ti149 rfl ti31 rfl h6 ?_
    refine ldR (v := .sc _) rfl rfl ti31 rfl ?_
    refine pS rfl (pS rfl (RunC.blk (RunC.fin (AWP.rgC 56 rfl rfl (pS rfl (pS rfl (pS rfl (RunC.fin (⟨(mx2 s3.1 (gt x s3.2), w6 (s3.2 + 1)), (Option.some.inj hR).symm, ?_⟩)))))))))
    exact Weak.turnL [] [] rfl rfl (tc trR1 (tc (.sc _) (tc (.sc _) tn))) mn
   ·refine AWP.exit (exT (exT (exH (skT (⟨s3.1, (Option.some.inj hR).symm, ?_⟩)))))
    exact Weak.turnL [] [] rfl rfl (tc (.sc _) tn) mn
  ·refine skT (AWP.sq (AWP.rgC 8 rfl rfl (pS rfl (pS rfl (RunC.fin (AWP.ret ?_))))))
   have hR := Option.some.inj hR; subst hR
   exact hQ _ _ (LS.mk [(2, iV z4)] (lblks 0 []) 0) (iV z4) [] (.inr rfl) (Weak.turnL [] [] rfl rfl (tc (.sc _) tn) mn) (ro1 (rvT (v := iV z4) rfl)) rfl rfl (.sc _) pn
theorem ok79 (a : Bound) (b : Bound) (down_c0 : Int) (up_c0 : Int) (r : Bound) (hR : bound_corners_bound_Mul_1 a b down_c0 up_c0 = some r) : FnP Tryz.prog 79 [aggV false a, aggV false b, .fn (.func 80) [.rp (Cl.c false down_c0)], .fn (.func 81) [.rp (Cl.c false up_c0)]] (aggV (α := Bound) true r) := by
 refine fnP_of (FnX.walk Tryz.func79 rfl 71 0 (by simp [Tryz.ntmps79]) rfl fun W S F Q hQ => ?_)
 unfold bound_corners_bound_Mul_1 at hR
 refine AWP.sq (AWP.rgC 12 rfl rfl (bx (cs := _) 0 rfl rfl rfl (bx (cs := _) 4 rfl rfl rfl (al (cs := [iV 0, iV 0, bV false]) 8 rfl rfl ti33 rfl rfl (RunC.fin (AWP.sq (AWP.rgC 16 rfl rfl (pS rfl (RunC.fin (AWP.sq (AWP.sq (AWP.rgC 44 rfl rfl (fa rfl rfl ti33 rfl rfl ti31 rfl (ldB (v := .sc _) rfl rfl rfl rfl ti31 rfl rfl (fa rfl rfl ti33 rfl rfl ti31 rfl (ldB (v := .sc _) rfl rfl rfl rfl ti31 rfl rfl ?_))))))))))))))))
 refine bs (α := Int) 32 true ([a.Lo, a.Hi] : List Int) rfl rfl ti149 rfl ti31 rfl rfl rfl rfl rfl ?_
 refine lenS (α := Int) rfl rfl ti149 rfl ?_
 refine pS rfl (RunC.fin (AWP.nilT Int 9 31 rfl ?_))
 refine AWP.loopK' (fun s1 : (List Int) × Int => LS.mk [(2, .fn (.func 80) [.rp (Cl.c false (down_c0 : Int))]), (3, .fn (.func 81) [.rp (Cl.c false (up_c0 : Int))]), (5, .ptr 0 0 0), (8, .ptr 1 0 0), (9, slV Int 2 0 0 s1.1.length), (22, slV Int 3 0 0 ([a.Lo, a.Hi] : List Int).length), (23, iV (([a.Lo, a.Hi] : List Int).length : Int)), (24, iV s1.2)] (lblks 0 [boxB (α := Bound) true b, boxB (α := Bound) true (Bound.mk 0 0 false), arrB (α := Int) 31 0 true s1.1, arrB (α := Int) 31 0 true ([a.Lo, a.Hi] : List Int)]) 4) (fun z2 : (List Int) => LS.mk [(8, .ptr 0 0 0), (9, slV Int 1 0 0 z2.length)] (lblks 0 [boxB (α := Bound) true (Bound.mk 0 0 false), arrB (α := Int) 31 0 true z2]) 2) (bound_corners_bound_Mul_1.l1 a b down_c0 up_c0) hR (s0 := (([] : List Int), 0)) (Weak.turnL [(4, 0), (8, 0), (44, 0), (32, 0)] [] rfl rfl (tc (.fn (.cons (.rp (Cl.tr _ _ _ _ id) (Cl.leaf _ _)) (.nil))) (tc (.fn (.cons (.rp (Cl.tr _ _ _ _ id) (Cl.leaf _ _)) (.nil))) (tc (trP' rfl rfl rfl rfl) (tc (trP' rfl rfl rfl rfl) (tc (trS' rfl rfl rfl rfl rfl) (tc (trS' rfl rfl rfl rfl rfl) (tc (.sc _) (tc (.sc _) tn)))))))) (mc rfl (.box rfl .z3 rfl) (mc rfl (.box rfl .z3 rfl) (mc rfl (btrA' rfl) (mc rfl (btrA' rfl) mn))))) (fun s1 o1 hR hE1 => ?_) fun z2 hR => ?_
 ·unfold bound_corners_bound_Mul_1.l1 at hR
  refine AWP.sq (AWP.rgC 8 rfl rfl (pS rfl (RunC.fin (AWP.sq (AWP.cd hR rfl (fun h3 hR => ?_) fun h3 hR => ?_)))))
  ·refine AWP.skip (skT (AWP.sq (AWP.block (AWP.sq (AWP.rgC 20 rfl rfl ?_)))))
   obtain ⟨h4, hR⟩ := chkE hR
   refine ixS0 (α := Int) rfl rfl rfl ti149 rfl ti31 rfl h4 ?_
   refine ldE (α := Int) (v := .sc _) rfl rfl rfl (ixlt h4) ti31 rfl rfl rfl rfl ?_
   refine pS rfl (RunC.fin (AWP.sq (AWP.rgC 48 rfl rfl (fa rfl rfl ti33 rfl rfl ti31 rfl (ldB (v := .sc _) rfl rfl rfl rfl ti31 rfl rfl (fa rfl rfl ti33 rfl rfl ti31 rfl (ldB (v := .sc _) rfl rfl rfl rfl ti31 rfl rfl (bs (α := Int) 36 true ([b.Lo, b.Hi] : List Int) rfl rfl ti149 rfl ti31 rfl rfl rfl rfl rfl ?_))))))))
   refine lenS (α := Int) rfl rfl ti149 rfl ?_
   refine pS rfl (RunC.fin (AWP.loopK' (fun s5 : (List Int) × Int => LS.mk [(2, .fn (.func 80) [.rp (Cl.c false (down_c0 : Int))]), (3, .fn (.func 81) [.rp (Cl.c false (up_c0 : Int))]), (5, .ptr 0 0 0), (8, .ptr 1 0 0), (9, slV Int 2 0 0 s5.1.length), (11, iV (gt ([a.Lo, a.Hi] : List Int) s1.2)), (22, slV Int 3 0 0 ([a.Lo, a.Hi] : List Int).length), (23, iV (([a.Lo, a.Hi] : List Int).length : Int)), (24, iV s1.2), (32, slV Int 4 0 0 ([b.Lo, b.Hi] : List Int).length), (33, iV (([b.Lo, b.Hi] : List Int).length : Int)), (34, iV s5.2)] (lblks 0 [boxB (α := Bound) true b, boxB (α := Bound) true (Bound.mk 0 0 false), arrB (α := Int) 31 0 true s5.1, arrB (α := Int) 31 0 true ([a.Lo, a.Hi] : List Int), arrB (α := Int) 31 0 true ([b.Lo, b.Hi] : List Int)]) 5) (fun z6 : (List Int) => LS.mk [(2, .fn (.func 80) [.rp (Cl.c false (down_c0 : Int))]), (3, .fn (.func 81) [.rp (Cl.c false (up_c0 : Int))]), (5, .ptr 0 0 0), (8, .ptr 1 0 0), (9, slV Int 2 0 0 z6.length), (22, slV Int 3 0 0 ([a.Lo, a.Hi] : List Int).length), (23, iV (([a.Lo, a.Hi] : List Int).length : Int)), (24, iV s1.2)] (lblks 0 [boxB (α := Bound) true b, boxB (α := Bound) true (Bound.mk 0 0 false), arrB (α := Int) 31 0 true z6, arrB (α := Int) 31 0 true ([a.Lo, a.Hi] : List Int)]) 4) (bound_corners_bound_Mul_1.l2 a b down_c0 up_c0 s1) hR (s0 := (s1.1, 0)) (Weak.turnL [(0, 0), (1, 0), (2, 0), (3, 0), (36, 0)] [] rfl rfl (tc (.fn (.cons (.rp (Cl.tr _ _ _ _ id) (Cl.leaf _ _)) (.nil))) (tc (.fn (.cons (.rp (Cl.tr _ _ _ _ id) (Cl.leaf _ _)) (.nil))) (tc (trP' rfl rfl rfl rfl) (tc (trP' rfl rfl rfl rfl) (tc (trS' rfl rfl rfl rfl rfl) (tc (.sc _) (tc (trS' rfl rfl rfl rfl rfl) (tc (.sc _) (tc (.sc _) (tc (trS' rfl rfl rfl rfl rfl) (tc (.sc _) (tc (.sc _) tn)))))))))))) (mc rfl (.box rfl .z3 rfl) (mc rfl (.box rfl .z3 rfl) (mc rfl (btrA' rfl) (mc rfl (btrA' rfl) (mc rfl (btrA' rfl) mn)))))) (fun s5 o5 hR hE5 => ?_) fun z6 hR => ?_))
   ·unfold bound_corners_bound_Mul_1.l2 at hR
    refine AWP.sq (AWP.rgC 9 rfl rfl (pS rfl (RunC.fin (AWP.sq (AWP.cd hR rfl (fun h7 hR => ?_) fun h7 hR => ?_)))))
    ·refine AWP.skip (skT (AWP.sq (AWP.block (AWP.sq (AWP.rgC 21 rfl rfl ?_)))))
     obtain ⟨h8, hR⟩ := chkE hR
     refine ixS0 (α := Int) rfl rfl rfl ti149 rfl ti31 rfl h8 ?_
     refine ldE (α := Int) (v := .sc _) rfl rfl rfl (ixlt h8) ti31 rfl rfl rfl rfl ?_
     refine pS rfl (RunC.fin (AWP.sq (AWP.rgC 57 rfl rfl (pu (v := .fn _ _) rfl rfl (fun _ => rfl) (pS rfl (pS rfl ?_))))))
     obtain ⟨r9, hr9, hR⟩ := bindE hR
     refine cls [] rfl rfl cb80 (ok80 (gt ([a.Lo, a.Hi] : List Int) s1.2) (gt ([b.Lo, b.Hi] : List Int) s5.2) down_c0 _ hr9) (.c2 (.cons (.rp (Cl.ld _ _ _) (Cl.leaf _ _)) (.nil))) (.inr rfl) rfl (pu (v := .tup _) rfl rfl (fun _ => rfl) (pS rfl (pS rfl (pS rfl (pS rfl (RunC.fin (AWP.sq (AWP.rgC 93 rfl rfl (pu (v := .fn _ _) rfl rfl (fun _ => rfl) (pS rfl (pS rfl ?_)))))))))))
     obtain ⟨r10, hr10, hR⟩ := bindE hR
     refine cls [] rfl rfl cb81 (ok81 (gt ([a.Lo, a.Hi] : List Int) s1.2) (gt ([b.Lo, b.Hi] : List Int) s5.2) up_c0 _ hr10) (.c2 (.cons (.rp (Cl.ld _ _ _) (Cl.leaf _ _)) (.nil))) (.inr rfl) rfl (pu (v := .tup _) rfl rfl (fun _ => rfl) (pS rfl (pS rfl (pS rfl (pS rfl (RunC.fin (AWP.sq (AWP.joinX (fun z11 : Bool => LS.mk [(2, .fn (.func 80) [.rp (Cl.c false (down_c0 : Int))]), (3, .fn (.func 81) [.rp (Cl.c false (up_c0 : Int))]), (5, .ptr 0 0 0), (8, .ptr 1 0 0), (9, slV Int 2 0 0 s5.1.length), (11, iV (gt ([a.Lo, a.Hi] : List Int) s1.2)), (14, iV r9.1), (16, iV r10.1), (22, slV Int 3 0 0 ([a.Lo, a.Hi] : List Int).length), (23, iV (([a.Lo, a.Hi] : List Int).length : Int)), (24, iV s1.2), (32, slV Int 4 0 0 ([b.Lo, b.Hi] : List Int).length), (33, iV (([b.Lo, b.Hi] : List Int).length : Int)), (34, iV s5.2), (57, bV z11)] (lblks 0 [boxB (α := Bound) true b, boxB (α := Bound) true (Bound.mk 0 0 false), arrB (α := Int) 31 0 true s5.1, arrB (α := Int) 31 0 true ([a.Lo, a.Hi] : List Int), arrB (α := Int) 31 0 true ([b.Lo, b.Hi] : List Int)]) 5) hR (fun o11 hR => ?_) fun z11 hR => ?_))))))))
     ·refine AWP.rgC 117 rfl rfl (pS rfl (pS rfl (pS rfl (brR hR (fun h12 hR => ?_) fun h12 hR => ?_))))
      ·refine sk (skW rfl rfl rfl h12) (sk (skW rfl rfl rfl h12) (pkT (v := bV true) rfl rfl h12 rfl (RunC.fin ?_)))
       have hR := Option.some.inj hR; subst hR
       exact Weak.turnL [(0, 0), (1, 0), (2, 0), (3, 0), (4, 0)] [] rfl rfl (tc (.fn (.cons (.rp (Cl.tr _ _ _ _ id) (Cl.leaf _ _)) (.nil))) (tc (.fn (.cons (.rp (Cl.tr _ _ _ _ id) (Cl.leaf _ _)) (.nil))) (tc (trP' rfl rfl rfl rfl) (tc (trP' rfl rfl rfl rfl) (tc (trS' rfl rfl rfl rfl rfl) (tc (.sc _) (tc (.sc _) (tc (.sc _) (tc (trS' rfl rfl rfl rfl rfl) (tc (.sc _) (tc (.sc _) (tc (trS' rfl rfl rfl rfl rfl) (tc (.sc _) (tc (.sc _) (tc (.sc _) tn))))))))))))))) (mc rfl (.box rfl .z3 rfl) (mc rfl (.box rfl .z3 rfl) (mc rfl (btrA' rfl) (mc rfl (btrA' rfl) (mc rfl (btrA' rfl) mn)))))
      ·refine pu (v := .sc _) (wtG rfl rfl rfl h12) rfl (fun _ => rfl) (pu (v := .sc _) (wtG rfl rfl rfl h12) rfl (fun _ => rfl) (pkF (v := bV (r10.2 != 0)) rfl rfl h12 rfl (RunC.fin ?_)))
       have hR := Option.some.inj hR; subst hR
       exact Weak.turnL [(0, 0), (1, 0), (2, 0), (3, 0), (4, 0)] [] rfl rfl (tc (.fn (.cons (.rp (Cl.tr _ _ _ _ id) (Cl.leaf _ _)) (.nil))) (tc (.fn (.cons (.rp (Cl.tr _ _ _ _ id) (Cl.leaf _ _)) (.nil))) (tc (trP' rfl rfl rfl rfl) (tc (trP' rfl rfl rfl rfl) (tc (trS' rfl rfl rfl rfl rfl) (tc (.sc _) (tc (.sc _) (tc (.sc _) (tc (trS' rfl rfl rfl rfl rfl) (tc (.sc _) (tc (.sc _) (tc (trS' rfl rfl rfl rfl rfl) (tc (.sc _) (tc (.sc _) (tc (.sc _) tn))))))))))))))) (mc rfl (.box rfl .z3 rfl) (mc rfl (.box rfl .z3 rfl) (mc rfl (btrA' rfl) (mc rfl (btrA' rfl) (mc rfl (btrA' rfl) mn)))))
     ·refine AWP.cd hR rfl (fun h13 hR => ?_) fun h13 hR => ?_
      ·refine AWP.sq (AWP.rgC 13 rfl rfl ?_)
       obtain ⟨r14, hr14, hR⟩ := bindE hR
       refine cls [] rfl rfl cb45 (ok45 _ hr14) (.nil) (.inr rfl) rfl (stB (cs' := [iV r14.Lo, iV r14.Hi, bV r14.Unknown]) rfl rfl rfl rfl ti33 rfl rfl rfl rfl rfl (RunC.fin (AWP.ret (rtT (rtB (rtT (rtT (rtB (rtT ?_)))))))))
       replace hR := escL hR hE5
       refine rtB (rtT (rtT (rtB (rtT ?_))))
       replace hR := escL hR hE1
       refine rtT ?_
       have hR := Option.some.inj hR; subst hR
       exact hQ _ _ (LS.mk [(8, .ptr 0 0 0)] (lblks 0 [boxB (α := Bound) true r14]) 1) (aggV (α := Bound) true r14) [] (.inr rfl) (Weak.turnL [(1, 0)] [] rfl rfl (tc (trP' rfl rfl rfl rfl) tn) (mc rfl (.box rfl .z3 rfl) mn)) (ro1 (rvC (v := aggV (α := Bound) true r14) rfl rfl ti33 rfl)) rfl rfl ldA pn
      ·refine AWP.skip (skT (AWP.rgC 29 rfl rfl (pu (v := slV Int _ _ _ _) rfl rfl (fun _ => rfl) (pS rfl (pS rfl (bs (α := Int) 17 true ([r9.1, r10.1] : List Int) rfl rfl ti149 rfl ti31 rfl rfl rfl rfl rfl ?_))))))
       obtain ⟨h15, hR⟩ := chkE hR
       refine ap' (α := Int) (nw := true) (xs := s5.1) (ys := ([r9.1, r10.1] : List Int)) rfl rfl rfl rfl (srcS' rfl rfl rfl) ti149 rfl ti31 rfl h15 rfl ?_
       refine pu (v := slV Int _ _ _ _) rfl rfl (fun _ => rfl) (RunC.blk (RunC.fin (AWP.rgC 37 rfl rfl (pS rfl (pS rfl (RunC.fin (⟨(s5.1 ++ ([r9.1, r10.1] : List Int), w6 (s5.2 + 1)), (Option.some.inj hR).symm, ?_⟩)))))))
       exact Weak.turnL [(0, 0), (1, 0), (2, 0), (3, 0), (4, 0)] [] rfl rfl (tc (.fn (.cons (.rp (Cl.tr _ _ _ _ id) (Cl.leaf _ _)) (.nil))) (tc (.fn (.cons (.rp (Cl.tr _ _ _ _ id) (Cl.leaf _ _)) (.nil))) (tc (trP' rfl rfl rfl rfl) (tc (trP' rfl rfl rfl rfl) (tc (trS' rfl rfl rfl rfl rfl) (tc (.sc _) (tc (trS' rfl rfl rfl rfl rfl) (tc (.sc _) (tc (.sc _) (tc (trS' rfl rfl rfl rfl rfl) (tc (.sc _) (tc (.sc _) tn)))))))))))) (mc rfl (.box rfl .z3 rfl) (mc rfl (.box rfl .z3 rfl) (mc rfl (btrA' rfl) (mc rfl (btrA' rfl) (mc rfl (btrA' rfl) mn)))))
    ·refine AWP.exit (exT (exT (exH (skT (⟨s5.1, (Option.some.inj hR).symm, ?_⟩)))))
     exact Weak.turnL [(0, 0), (1, 0), (2, 0), (3, 0)] [] rfl rfl (tc (.fn (.cons (.rp (Cl.tr _ _ _ _ id) (Cl.leaf _ _)) (.nil))) (tc (.fn (.cons (.rp (Cl.tr _ _ _ _ id) (Cl.leaf _ _)) (.nil))) (tc (trP' rfl rfl rfl rfl) (tc (trP' rfl rfl rfl rfl) (tc (trS' rfl rfl rfl rfl rfl) (tc (trS' rfl rfl rfl rfl rfl) (tc (.sc _) (tc (.sc _) tn)))))))) (mc rfl (.box rfl .z3 rfl) (mc rfl (.box rfl .z3 rfl) (mc rfl (btrA' rfl) (mc rfl (btrA' rfl) mn))))
   ·refine skB ?_
    refine skT (AWP.rgC 12 rfl rfl (pS rfl (pS rfl (RunC.fin (⟨(z6, w6 (s1.2 + 1)), (Option.some.inj hR).symm, ?_⟩)))))
    exact Weak.turnL [(0, 0), (1, 0), (2, 0), (3, 0)] [] rfl rfl (tc (.fn (.cons (.rp (Cl.tr _ _ _ _ id) (Cl.leaf _ _)) (.nil))) (tc (.fn (.cons (.rp (Cl.tr _ _ _ _ id) (Cl.leaf _ _)) (.nil))) (tc (trP' rfl rfl rfl rfl) (tc (trP' rfl rfl rfl rfl) (tc (trS' rfl rfl rfl rfl rfl) (tc (trS' rfl rfl rfl rfl rfl) (tc (.sc _) (tc (.sc _) tn)))))))) (mc rfl (.box rfl .z3 rfl) (mc rfl (.box rfl .z3 rfl) (mc rfl (btrA' rfl) (mc rfl (btrA' rfl) mn))))
  ·refine AWP.exit (exT (exT (exH (skT (⟨s1.1, (Option.some.inj hR).symm, ?_⟩)))))
   exact Weak.turnL [(1, 0), (2, 0)] [] rfl rfl (tc (trP' rfl rfl rfl rfl) (tc (trS' rfl rfl rfl rfl rfl) tn)) (mc rfl (.box rfl .z3 rfl) (mc rfl (btrA' rfl) mn))
 ·refine skT (AWP.sq (AWP.rgC 26 rfl rfl (pu (v := slV Int _ _ _ _) rfl rfl (fun _ => rfl) ?_)))
  obtain ⟨r16, hr16, hR⟩ := bindE hR
  refine cls [1] rfl rfl cb95 (ok95 z2 _ hr16) (.cons (ldS' rfl rfl rfl rfl) (.nil)) (.inl (by first | rfl | exact freshR | exact freshA | (simp only [V.fresh, V.freshs, freshR, freshA, Bool.and_self]))) rfl (pu (v := slV Int _ _ _ _) rfl rfl (fun _ => rfl) ?_)
  obtain ⟨r17, hr17, hR⟩ := bindE hR
  refine cls [1] rfl rfl cb96 (ok96 z2 _ hr17) (.cons (ldS' rfl rfl rfl rfl) (.nil)) (.inl (by first | rfl | exact freshR | exact freshA | (simp only [V.fresh, V.freshs, freshR, freshA, Bool.and_self]))) rfl ?_
  obtain ⟨r18, hr18, hR⟩ := bindE hR
  refine cls [] rfl rfl cb68 (ok68 r16 r17 _ hr18) .z2 (.inr rfl) rfl (stB (cs' := [iV r18.Lo, iV r18.Hi, bV r18.Unknown]) rfl rfl rfl rfl ti33 rfl rfl rfl rfl rfl (RunC.fin (AWP.ret ?_)))
  have hR := Option.some.inj hR; subst hR
  exact hQ _ _ (LS.mk [(8, .ptr 0 0 0)] (lblks 0 [boxB (α := Bound) true r18]) 1) (aggV (α := Bound) true r18) [] (.inr rfl) (Weak.turnL [(0, 0)] [] rfl rfl (tc (trP' rfl rfl rfl rfl) tn) (mc rfl (.box rfl .z3 rfl) mn)) (ro1 (rvC (v := aggV (α := Bound) true r18) rfl rfl ti33 rfl)) rfl rfl ldA pn
theorem ok58 (a : Bound) (b : Bound) (unit : Int) (r : Bound) (hR : bound_Mul a b unit = some r) : FnP Tryz.prog 58 [aggV false a, aggV false b, .sc (.int .i64 unit)] (aggV (α := Bound) true r) := by
 refine fnP_of (FnX.walk Tryz.func58 rfl 20 0 (by simp [Tryz.ntmps58]) rfl fun W S F Q hQ => ?_)
 unfold bound_Mul at hR
 refine AWP.sq (AWP.rgC 16 rfl rfl (bx (cs := _) 0 rfl rfl rfl (bx (cs := _) 4 rfl rfl rfl (bx (cs := [iV unit]) 8 rfl rfl rfl (al (cs := [iV 0, iV 0, bV false]) 12 rfl rfl ti33 rfl rfl (RunC.fin (AWP.sq (AWP.joinX (fun z1 : Bool => LS.mk [(3, .ptr 0 0 0), (4, .ptr 1 0 0), (5, .ptr 2 0 0), (6, .ptr 3 0 0), (13, bV z1)] (lblks 0 [boxB (α := Bound) true a, boxB (α := Bound) true b, boxB (α := Int) true unit, boxB (α := Bound) true (Bound.mk 0 0 false)]) 4) hR (fun o1 hR => ?_) fun z1 hR => ?_))))))))
 ·refine AWP.rgC 44 rfl rfl (ldB (v := .agg _) rfl rfl rfl rfl ti33 rfl rfl (ldB (v := .agg _) rfl rfl rfl rfl ti33 rfl rfl ?_))
  obtain ⟨r2, hr2, hR⟩ := bindE hR
  refine cls [] rfl rfl cb67 (ok67 a b _ hr2) (.cons (.agg .z3 rfl) (.cons (.agg .z3 rfl) (.nil))) (.inr rfl) rfl (pS rfl (brR hR (fun h3 hR => ?_) fun h3 hR => ?_))
  ·refine sk (skW rfl rfl rfl h3) (sk (skW rfl rfl rfl h3) (pkT (v := bV true) rfl rfl h3 rfl (RunC.fin ?_)))
   have hR := Option.some.inj hR; subst hR
   exact Weak.turnL [(0, 0), (4, 0), (8, 0), (12, 0)] [] rfl rfl (tc (trP' rfl rfl rfl rfl) (tc (trP' rfl rfl rfl rfl) (tc (trP' rfl rfl rfl rfl) (tc (trP' rfl rfl rfl rfl) (tc (.sc _) tn))))) (mc rfl (.box rfl .z3 rfl) (mc rfl (.box rfl .z3 rfl) (mc rfl (.box rfl (.cons (.sc _) .nil) rfl) (mc rfl (.box rfl .z3 rfl) mn))))
  ·refine ldB (v := .sc _) (wtG rfl rfl rfl h3) rfl rfl rfl ti2 rfl rfl (pu (v := .sc _) (wtG rfl rfl rfl h3) rfl (fun _ => rfl) (pkF (v := bV (decide (unit < 1))) rfl rfl h3 rfl (RunC.fin ?_)))
   have hR := Option.some.inj hR; subst hR
   exact Weak.turnL [(0, 0), (4, 0), (8, 0), (12, 0)] [] rfl rfl (tc (trP' rfl rfl rfl rfl) (tc (trP' rfl rfl rfl rfl) (tc (trP' rfl rfl rfl rfl) (tc (trP' rfl rfl rfl rfl) (tc (.sc _) tn))))) (mc rfl (.box rfl .z3 rfl) (mc rfl (.box rfl .z3 rfl) (mc rfl (.box rfl (.cons (.sc _) .nil) rfl) (mc rfl (.box rfl .z3 rfl) mn))))
 ·refine AWP.cd hR rfl (fun h4 hR => ?_) fun h4 hR => ?_
  ·refine AWP.sq (AWP.rgC 12 rfl rfl ?_)
   obtain ⟨r5, hr5, hR⟩ := bindE hR
   refine cls [] rfl rfl cb45 (ok45 _ hr5) (.nil) (.inr rfl) rfl (stB (cs' := [iV r5.Lo, iV r5.Hi, bV r5.Unknown]) rfl rfl rfl rfl ti33 rfl rfl rfl rfl rfl (RunC.fin (AWP.ret (rtT ?_))))
   have hR := Option.some.inj hR; subst hR
   exact hQ _ _ (LS.mk [(6, .ptr 0 0 0)] (lblks 0 [boxB (α := Bound) true r5]) 1) (aggV (α := Bound) true r5) [] (.inr rfl) (Weak.turnL [(3, 0)] [] rfl rfl (tc (trP' rfl rfl rfl rfl) tn) (mc rfl (.box rfl .z3 rfl) mn)) (ro1 (rvC (v := aggV (α := Bound) true r5) rfl rfl ti33 rfl)) rfl rfl ldA pn
  ·refine AWP.skip (skT (AWP.sq (AWP.rgC 28 rfl rfl (ldB (v := .agg _) rfl rfl rfl rfl ti33 rfl rfl (ldB (v := .agg _) rfl rfl rfl rfl ti33 rfl rfl (pu (v := .fn _ _) rfl rfl (fun _ => rfl) (pu (v := .fn _ _) rfl rfl (fun _ => rfl) ?_)))))))
   obtain ⟨r6, hr6, hR⟩ := bindE hR
   refine cls [2] rfl rfl cb79 (ok79 a b unit unit _ hr6) (.cons (.agg .z3 rfl) (.cons (.agg .z3 rfl) (.cons (.fn (.cons (ldX rfl rfl (.cons (.sc _) .nil) rfl) (.nil))) (.cons (.fn (.cons (ldX rfl rfl (.cons (.sc _) .nil) rfl) (.nil))) (.nil))))) (.inl (by first | rfl | exact freshR | exact freshA | (simp only [V.fresh, V.freshs, freshR, freshA, Bool.and_self]))) rfl (stB (cs' := [iV r6.Lo, iV r6.Hi, bV r6.Unknown]) rfl rfl rfl rfl ti33 rfl rfl rfl rfl rfl (RunC.fin (AWP.ret ?_)))
   have hR := Option.some.inj hR; subst hR
   exact hQ _ _ (LS.mk [(6, .ptr 0 0 0)] (lblks 0 [boxB (α := Bound) true r6]) 1) (aggV (α := Bound) true r6) [] (.inr rfl) (Weak.turnL [(3, 0)] [] rfl rfl (tc (trP' rfl rfl rfl rfl) tn) (mc rfl (.box rfl .z3 rfl) mn)) (ro1 (rvC (v := aggV (α := Bound) true r6) rfl rfl ti33 rfl)) rfl rfl ldA pn
theorem ok88 (b : Bound) (r : Bound) (hR : arc_Square b = some r) : FnP Tryz.prog 88 [aggV false b] (aggV (α := Bound) true r) := by
 refine fnP_of (FnX.walk Tryz.func88 rfl 8 0 (by simp [Tryz.ntmps88]) rfl fun W S F Q hQ => ?_)
 unfold arc_Square at hR
 refine AWP.sq (AWP.rgC 8 rfl rfl (bx (cs := _) 0 rfl rfl rfl (al (cs := [iV 0, iV 0, bV false]) 4 rfl rfl ti33 rfl rfl (RunC.fin (AWP.sq (AWP.rgC 20 rfl rfl (ldB (v := .agg _) rfl rfl rfl rfl ti33 rfl rfl ?_)))))))
 obtain ⟨r1, hr1, hR⟩ := bindE hR
 refine cls [] rfl rfl cb103 (ok103 b _ hr1) (.cons (.agg .z3 rfl) (.nil)) (.inr rfl) rfl (stB (cs' := [iV r1.Lo, iV r1.Hi, bV r1.Unknown]) rfl rfl rfl rfl ti33 rfl rfl rfl rfl rfl (RunC.fin (AWP.sq (AWP.rgC 36 rfl rfl (ldB (v := .agg _) rfl rfl rfl rfl ti33 rfl rfl (ldB (v := .agg _) rfl rfl rfl rfl ti33 rfl rfl ?_))))))
 obtain ⟨r2, hr2, hR⟩ := bindE hR
 refine cls [] rfl rfl cb58 (ok58 r1 r1 1 _ hr2) (.cons (.agg .z3 rfl) (.cons (.agg .z3 rfl) (.cons (.sc _) .nil))) (.inr rfl) rfl (stB (cs' := [iV r2.Lo, iV r2.Hi, bV r2.Unknown]) rfl rfl rfl rfl ti33 rfl rfl rfl rfl rfl (RunC.fin (AWP.ret ?_)))
 have hR := Option.some.inj hR; subst hR
 exact hQ _ _ (LS.mk [(2, .ptr 0 0 0)] (lblks 0 [boxB (α := Bound) true r2]) 1) (aggV (α := Bound) true r2) [] (.inr rfl) (Weak.turnL [(4, 0)] [] rfl rfl (tc (trP' rfl rfl rfl rfl) tn) (mc rfl (.box rfl .z3 rfl) mn)) (ro1 (rvC (v := aggV (α := Bound) true r2) rfl rfl ti33 rfl)) rfl rfl ldA pn
section
open Go.RowKit Go.Shelf
attribute [local go_sem] Oper.semAt_some
theorem tot_bindx87 {α β : Type} {x : Option α} {f : α → Option β} (h : ∃ r, x = some r) (k : ∀ r, ∃ q, f r = some q) : ∃ q, x.bind f = some q := by
 obtain ⟨r, rfl⟩ := h; exact k r
theorem tot_itex87 {α : Type} {c : Prop} [Decidable c] {x y : Option α} (h : ∃ r, x = some r) (k : ∃ r, y = some r) : ∃ r, (if c then x else y) = some r := by
 split
 ·exact h
 ·exact k
theorem check_totx87 (b : Bound) : ∃ r, bound_Check b = some r := by
 unfold bound_Check
 refine tot_bindx87 (tot_itex87 (tot_itex87 ⟨_, rfl⟩ ⟨_, rfl⟩) ⟨_, rfl⟩) fun z => tot_itex87 ⟨_, rfl⟩ (tot_bindx87 (tot_itex87 ⟨_, rfl⟩ ⟨_, rfl⟩) fun y => tot_itex87 ⟨_, rfl⟩ (tot_itex87 ⟨_, rfl⟩ ⟨_, rfl⟩))
theorem norm_totx87 (b : Bound) : ∃ r, bound_Norm b = some r := by
 unfold bound_Norm bound_None
 exact tot_bindx87 (check_totx87 b) fun r => tot_itex87 ⟨_, rfl⟩ ⟨_, rfl⟩
theorem add_totx87 (a b : Bound) : ∃ r, bound_Add a b = some r := by
 unfold bound_Add bound_vague bound_Of bound_None
 refine tot_bindx87 (tot_bindx87 (tot_bindx87 (norm_totx87 a) fun r => tot_itex87 ⟨_, rfl⟩ (tot_bindx87 (norm_totx87 b) fun r => ⟨_, rfl⟩)) fun r => ⟨_, rfl⟩) fun r => tot_itex87 ⟨_, rfl⟩ (tot_bindx87 (tot_bindx87 (norm_totx87 _) fun r => ⟨_, rfl⟩) fun r => ⟨_, rfl⟩)
def addTx87 (s x : Bound) : Bound := (bound_Add s x).getD s
theorem addT_specx87 (s x : Bound) : bound_Add s x = some (addTx87 s x) := by
 obtain ⟨r, h⟩ := add_totx87 s x
 unfold addTx87; rw [h]; rfl
theorem add_callsx87 (s x : Bound) (w : World) : Calls Tryz.prog 57 #[.agg #[.int .i64 s.Lo, .int .i64 s.Hi, .bool s.Unknown], .agg #[.int .i64 x.Lo, .int .i64 x.Hi, .bool x.Unknown]] w fun e w' => e = .returned (.agg #[.int .i64 (addTx87 s x).Lo, .int .i64 (addTx87 s x).Hi, .bool (addTx87 s x).Unknown]) ∧ Below w.heap.size w w' := by
 have ag : ∀ (E : Env) (b : Bound), RL E (aggV false b) (.agg #[.int .i64 b.Lo, .int .i64 b.Hi, .bool b.Unknown]) := fun E b => by
  unfold aggV
  simp only [RL]
  exact ⟨[.int .i64 b.Lo, .int .i64 b.Hi, .bool b.Unknown], rfl, rls_cons rl_sc (rls_cons rl_sc (rls_cons rl_sc rls_nil)), Cl.leaf false b⟩
 refine (fnP_out (ok57 s x _ (addT_specx87 s x)) (cargs := [.agg #[.int .i64 s.Lo, .int .i64 s.Hi, .bool s.Unknown], .agg #[.int .i64 x.Lo, .int .i64 x.Hi, .bool x.Unknown]]) (rls_cons (ag _ s) (rls_cons (ag _ x) rls_nil))).mono ?_
 rintro e w' ⟨c, E', rfl, h1, h2⟩
 unfold aggV at h1
 simp only [RL] at h1
 obtain ⟨ds, rfl, h3, _⟩ := h1
 have h3 : RLs E' [iV (addTx87 s x).Lo, iV (addTx87 s x).Hi, bV (addTx87 s x).Unknown] ds := h3
 simp only [RLs, RL] at h3
 obtain ⟨_, _, rfl, rfl, _, _, rfl, rfl, _, _, rfl, rfl, rfl⟩ := h3
 exact ⟨rfl, h2⟩
def encBx87 (x : Bound) : Array Value := #[.agg #[.int .i64 x.Lo, .int .i64 x.Hi, .bool x.Unknown]]
abbrev RowBx87 := Row3 (fun x : Bound => .int .i64 x.Lo) (fun x : Bound => .int .i64 x.Hi) (fun x : Bound => .bool x.Unknown)
theorem values_Bx87 (a : Option Addr) (len cap : Nat) (w : World) :
  Calls Tryz.prog 102 #[.slice a len cap] w fun e w' => e = .returned (.func (.func 105) #[] #[.pointer (some ⟨w.heap.size, 0, none⟩)]) ∧ w' = w.alloc (.cells #[.slice a len cap] 90) := by
 go_enter Tryz.func102, Tryz.ntmps102
 go_wp2
 go_ret
 exact ⟨rfl, rfl⟩
set_option maxHeartbeats 2000000 in
theorem values1_Bx87 (F : Fence) (n : Nat) (h7 : F.fn 105) (hro : F.round = none) (hn : 1 ≤ n) (l Bs n₀ : Nat) (A : Option Addr) (cap : Nat) (zs : List Bound) (hreach : zs.length * 24 ≤ 140737488351232) (hb0 : ∀ ad, A = some ad → 0 < zs.length → ad.block < n₀) (J Jx : List Bound → World → Prop)
  (hY : ∀ pre x W, J pre W → pre.length < zs.length → YieldAt F (n - 1) Tryz.prog l (encBx87 x) W fun e W' =>
   (e = .returned (.bool true) ∧ J (pre ++ [x]) W' ∧ Below n₀ W W') ∨ (e = .returned (.bool false) ∧ Jx (pre ++ [x]) W'))
  (W : World) (hJ : AbidesFrom W.heap.size J) (hBs : W.cell? ⟨Bs, 0, none⟩ = some (.slice A zs.length cap)) (hn0 : n₀ ≤ W.heap.size) (hc : RowBx87 W A zs) (h0 : J [] W) :
  CallsIn F n Tryz.prog 105 #[.func (.yield l) #[] #[], .pointer (some ⟨Bs, 0, none⟩)] W fun e W' => (∃ v, e = .returned v) ∧
   ((∃ ys, ys = zs ∧ J ys W') ∨ (∃ pre, (∃ k, k ≤ zs.length ∧ pre = zs.take k) ∧ Jx pre W')) := by
 refine callsIn_of_wp Tryz.func105 rfl h7 ?_ hro
 simp only [Tryz.ntmps105, List.size_toArray, List.length_cons, List.length_nil, Nat.reduceAdd, Nat.reduceSub, Array.replicate_succ, Array.replicate_zero, List.push_toArray, List.append_toArray, List.nil_append, List.cons_append]
 gi_wp2
 gi_loopw [7] (fun i wr => ∃ k : Nat, k ≤ zs.length ∧ i = .int .i64 k ∧ J (zs.take k) wr ∧ Below n₀ W wr ∧ W.heap.size ≤ wr.heap.size)
  (fun i _ => zs.length - (intOf i).toNat)
 case atStart => exact ⟨0, Nat.zero_le _, rfl, by simpa using h0, Below.refl _ _, Nat.le_refl _⟩
 case round =>
  obtain ⟨k, hk, rfl, hJs, hnx, hsz⟩ := hrel
  by_cases hlt : k < zs.length
  ·obtain ⟨ad, rfl, _, hx0, hx1, hx2⟩ := hc k hlt
   have hb := hb0 ad rfl (by omega)
   have ht : zs.take (k + 1) = zs.take k ++ [zs[k]] := by rw [List.take_succ_eq_append_getElem hlt]
   generalize zs[k] = x at hx0 hx1 hx2 ht
   replace hx0 := (hnx.cell (p := ad.add (k * 3)) (by rw [add_blk]; exact hb)).trans hx0
   replace hx1 := (hnx.cell (p := ⟨(ad.add (k * 3)).block, (ad.add (k * 3)).off + 1, none⟩) (by show (ad.add (k * 3)).block < n₀; rw [add_blk]; exact hb)).trans hx1
   replace hx2 := (hnx.cell (p := ⟨(ad.add (k * 3)).block, (ad.add (k * 3)).off + 2, none⟩) (by show (ad.add (k * 3)).block < n₀; rw [add_blk]; exact hb)).trans hx2
   have hJ1 := hJ (zs.take k) wr (wr.alloc (.cells #[.int .i64 x.Lo, .int .i64 x.Hi, .bool x.Unknown] 33)) none hJs (World.grownBy_alloc wr _ none) (fun r e => by cases e)
   have hb1 : Below n₀ wr (wr.alloc (.cells #[.int .i64 x.Lo, .int .i64 x.Hi, .bool x.Unknown] 33)) := (Below.refl n₀ wr).alloc (by omega) _
   have hs1 : wr.heap.size ≤ (wr.alloc (.cells #[.int .i64 x.Lo, .int .i64 x.Hi, .bool x.Unknown] 33)).heap.size := by simp
   obtain ⟨fn, tmps, assign, body, hy, hR⟩ := hY (zs.take k) x _ hJ1 (by simp; omega)
   simp only [encBx87] at hy
   have HT := Lib.hid ht
   clear ht
   gi_wp2
   refine hR.mono ?_
   rintro e W3 (⟨rfl, hJ3, hk3⟩ | ⟨rfl, hJx3⟩)
   ·gi_wp2
    go_roundw
    case rel => exact ⟨k + 1, by omega, by simp, by rw [HT.out]; exact hJ3, (hnx.trans hb1).trans hk3, Nat.le_trans hsz (Nat.le_trans hs1 hk3.size)⟩
    case measure => simp [intOf]; omega
   ·gi_wp2
    refine bodyPost_ret (results_none rfl _ _ _) rfl ?_
    exact ⟨⟨_, rfl⟩, .inr ⟨_, ⟨k + 1, by omega, HT.out.symm⟩, hJx3⟩⟩
  ·obtain rfl : k = zs.length := by omega
   gi_wp2
   go_end0
   exact ⟨⟨_, rfl⟩, .inl ⟨_, rfl, by simpa using hJs⟩⟩
theorem values_stops_Bx87 (F : Fence) (n : Nat) (h7 : F.fn 105) (hro : F.round = none) (hn : 1 ≤ n) (Bs n₀ : Nat) (A : Option Addr) (cap : Nat) (zs : List Bound) (hreach : zs.length * 24 ≤ 140737488351232) (w : World) (hBs : Bs < w.heap.size) (hn₀ : n₀ ≤ w.heap.size)
  (hc : w.cell? ⟨Bs, 0, none⟩ = some (.slice A zs.length cap)) (hC : RowBx87 w A zs) (hb0 : ∀ ad, A = some ad → 0 < zs.length → ad.block < n₀) :
  SeqStopsK F n Tryz.prog 105 #[.pointer (some ⟨Bs, 0, none⟩)] encBx87 (Below n₀) (fun ys => ys = zs) (fun pre => pre <+: zs) zs.length w := fun l J Jx W hW hJ _ hY h0 => by
 have hc' := (hW.cell (p := ⟨Bs, 0, none⟩) hBs).trans hc
 refine (values1_Bx87 F n h7 hro hn l Bs n₀ A cap zs hreach hb0 J Jx hY W hJ hc' (Nat.le_trans hn₀ hW.size) (hC.below hW) h0).mono ?_
 rintro e W' ⟨he, ⟨ys, rfl, hj⟩ | ⟨pre, ⟨k, hk, rfl⟩, hj⟩⟩
 ·exact ⟨he, .inl ⟨_, rfl, hj⟩⟩
 ·exact ⟨he, .inr ⟨_, List.take_prefix _ _, hj⟩⟩
set_option maxHeartbeats 2000000 in
theorem total_Bx87 (A : Option Addr) (cap : Nat) (zs : List Bound) (hreach : zs.length * 24 ≤ 140737488351232) (w : World) (Bs : Nat) (hBs : Bs < w.heap.size) (hc : w.cell? ⟨Bs, 0, none⟩ = some (.slice A zs.length cap)) (hC : RowBx87 w A zs) (hb0 : ∀ ad, A = some ad → 0 < zs.length → ad.block < w.heap.size) :
  Calls Tryz.prog 101 #[.func (.func 105) #[] #[.pointer (some ⟨Bs, 0, none⟩)]] w fun e w' => e = .returned (.agg #[.int .i64 (bound_SumF zs ⟨0, 0, false⟩).Lo, .int .i64 (bound_SumF zs ⟨0, 0, false⟩).Hi, .bool (bound_SumF zs ⟨0, 0, false⟩).Unknown]) ∧ Below w.heap.size w w' := by
 refine (callsIn_wide (n := 6)).1 ?_
 refine callsIn_of_wp_marks Tryz.func101 rfl trivial ?_ rfl
 simp only [Tryz.ntmps101, List.size_toArray, List.length_cons, List.length_nil, Nat.reduceAdd, Nat.reduceSub, Array.replicate_succ, Array.replicate_zero, List.push_toArray, List.append_toArray, List.nil_append, List.cons_append]
 gi_wp2
 have hz : ((w.alloc (.cells #[.int .i64 0, .int .i64 0, .bool false] 33)).alloc (.cells #[.int .i64 0, .int .i64 0, .bool false] 33)).heap.size = w.heap.size + 2 := by simp
 have hr2 : ((w.alloc (.cells #[.int .i64 0, .int .i64 0, .bool false] 33)).alloc (.cells #[.int .i64 0, .int .i64 0, .bool false] 33)).heap[w.heap.size]? = some (.cells #[.int .i64 0, .int .i64 0, .bool false] 33 (0, 0)) := blk_alloc (World.alloc_heap_new w _) _
 have hs2 : ((w.alloc (.cells #[.int .i64 0, .int .i64 0, .bool false] 33)).alloc (.cells #[.int .i64 0, .int .i64 0, .bool false] 33)).heap[w.heap.size + 1]? = some (.cells #[.int .i64 0, .int .i64 0, .bool false] 33 (0, 0)) := by
  have := World.alloc_heap_new (w.alloc (.cells #[.int .i64 0, .int .i64 0, .bool false] 33)) (.cells #[.int .i64 0, .int .i64 0, .bool false] 33)
  rwa [World.size_alloc] at this
 have hb2 : Below w.heap.size w ((w.alloc (.cells #[.int .i64 0, .int .i64 0, .bool false] 33)).alloc (.cells #[.int .i64 0, .int .i64 0, .bool false] 33)) := ((Below.refl _ w).alloc (Nat.le_refl _) _).alloc (by simp) _
 obtain ⟨w2, hw2⟩ : ∃ w2, (w.alloc (.cells #[.int .i64 0, .int .i64 0, .bool false] 33)).alloc (.cells #[.int .i64 0, .int .i64 0, .bool false] 33) = w2 := ⟨_, rfl⟩
 rw [hw2] at hz hr2 hs2 hb2 ⊢
 refine wpIn_rangeFunc_ownH (α := Bound) rfl (by omega) (gf := 105) (lb := #[.pointer (some ⟨Bs, 0, none⟩)]) rfl trivial (enters_of Tryz.func105 (by kernel_rfl) rfl)
  (values_stops_Bx87 Fence.wide 5 trivial rfl (by omega) Bs w.heap.size A cap zs hreach w2 (by omega) (by omega) ((hb2.cell (p := ⟨Bs, 0, none⟩) hBs).trans hc) (hC.below hb2) hb0) belowK_t (belowK_b (by omega)) (Below.refl _ _) (fun _ => rfl)
  (fun pre W => (∃ s : Bound, W.heap[w.heap.size + 1]? = some (.cells #[.int .i64 s.Lo, .int .i64 s.Hi, .bool s.Unknown] 33 (0, 0)) ∧ s.Unknown = false ∧ ∀ rest, bound_SumF (pre ++ rest) ⟨0, 0, false⟩ = bound_SumF rest s) ∧ W.heap[w.heap.size]? = some (.cells #[.int .i64 0, .int .i64 0, .bool false] 33 (0, 0)) ∧ Below w.heap.size w W)
  (fun c pre W => c = .exit 0 ∧ (∃ s : Bound, W.heap[w.heap.size + 1]? = some (.cells #[.int .i64 s.Lo, .int .i64 s.Hi, .bool s.Unknown] 33 (0, 0)) ∧ ∀ rest, bound_SumF (pre ++ rest) ⟨0, 0, false⟩ = s) ∧ W.heap[w.heap.size]? = some (.cells #[.int .i64 0, .int .i64 0, .bool false] 33 (0, 0)) ∧ Below w.heap.size w W)
  (fun s A B row hs hg hr => ⟨by obtain ⟨⟨u, h1, h2⟩, _⟩ := hs; exact ⟨u, own3 (β := Unit) _ _ _ _ () A B row h1 hg hr, h2⟩, own3 (β := Unit) _ _ _ _ () A B row hs.2.1 hg hr, ownFrom_below (β := Unit) (Nat.le_refl _) (by omega) () A B row hs.2.2 hg hr⟩)
  (fun c s A B row hs hg hr => ⟨hs.1, by obtain ⟨_, ⟨u, h1, h2⟩, _⟩ := hs; exact ⟨u, own3 (β := Unit) _ _ _ _ () A B row h1 hg hr, h2⟩, own3 (β := Unit) _ _ _ _ () A B row hs.2.2.1 hg hr, ownFrom_below (β := Unit) (Nat.le_refl _) (by omega) () A B row hs.2.2.2 hg hr⟩)
  ⟨⟨⟨0, 0, false⟩, hs2, rfl, fun rest => rfl⟩, hr2, hb2⟩
  (fun x a' W => ∃ Bx, w.heap.size + 1 < Bx ∧ W.heap[Bx]? = some (.cells #[.int .i64 x.Lo, .int .i64 x.Hi, .bool x.Unknown] 33 (0, 0)) ∧ a' = { tmps := #[.func (.func 105) #[] #[.pointer (some ⟨Bs, 0, none⟩)], undef, .pointer (some ⟨w.heap.size, 0, none⟩), .pointer (some ⟨w.heap.size + 1, 0, none⟩), .pointer (some ⟨Bx, 0, none⟩), .func (.func 105) #[] #[.pointer (some ⟨Bs, 0, none⟩)], .agg #[.int .i64 x.Lo, .int .i64 x.Hi, .bool x.Unknown], undef, undef, undef, undef, undef, undef], defers := [] })
  (fun x a' _ A B row hs hg hr => by obtain ⟨Bx, h1, h2, h3⟩ := hs; exact ⟨Bx, h1, own3 (β := Unit) _ _ _ _ () A B row h2 hg hr, h3⟩) ?assign ?body ?done ?stop
 case assign =>
  rintro l pre x W K ⟨⟨s, h1, h2⟩, h3, h4⟩ hK
  simp only [encBx87]
  gi_wp2
  exact hK _ _ ((KeepsOthers.alloc _ _).from _) ((Below.refl _ W).alloc h4.size _) ⟨⟨s, blk_alloc h1 _, h2⟩, blk_alloc h3 _, h4.alloc h4.size _⟩ ⟨W.heap.size, blk_lt h1, World.alloc_heap_new W _, rfl⟩
 case body =>
  rintro l pre x a' W hl hr ⟨⟨s, h1, h2, h3⟩, h4, h5⟩ ⟨Bx, hBx, bX, rfl⟩ hlt
  have hl1 := blk_lt h1
  obtain ⟨hc0, hc1, hc2, hf0, hf1, hf2⟩ := cel3 h1
  obtain ⟨hd0, hd1, hd2, _, _, _⟩ := cel3 bX
  have H1 := Lib.hid h1
  have H3 := Lib.hid h3
  have H4 := Lib.hid h4
  have HX := Lib.hid bX
  clear h1 h3 h4 bX h2 hr
  by_cases hu : (addTx87 s x).Unknown = true
  ·gi_wp2_with (refine ⟨trivial, ?_⟩; gi_at_call 57; refine (CallsIn.inRound l (callsIn_wide.2 (add_callsx87 s x _))).mono ?_; rintro e w5 ⟨rfl, hb5⟩; have hs5 := blk_below H1.out hb5; obtain ⟨hg0, hg1, hg2, hk0, hk1, hk2⟩ := cel3 hs5; have HS5 := Lib.hid hs5; clear hs5; have HB5 := Lib.hid hb5; clear hb5)
   have g := round3 (w2 := w2) (by omega) h5 HB5.out (Nat.le_succ w.heap.size) (.int .i64 (addTx87 s x).Lo) (.int .i64 (addTx87 s x).Hi) (.bool true)
   refine ⟨g.1, rfl, ⟨addTx87 s x, by rw [hu]; exact put3 _ _ _ HS5.out, fun rest => ?_⟩, far3 (blk_below H4.out HB5.out) (by omega) _ _ _, h5.trans g.2⟩
   rw [List.append_assoc, H3.out]
   exact if_pos hu
  ·have hu' : (addTx87 s x).Unknown = false := by simpa using hu
   gi_wp2_with (refine ⟨trivial, ?_⟩; gi_at_call 57; refine (CallsIn.inRound l (callsIn_wide.2 (add_callsx87 s x _))).mono ?_; rintro e w5 ⟨rfl, hb5⟩; have hs5 := blk_below H1.out hb5; obtain ⟨hg0, hg1, hg2, hk0, hk1, hk2⟩ := cel3 hs5; have HS5 := Lib.hid hs5; clear hs5; have HB5 := Lib.hid hb5; clear hb5)
   have g := round3 (w2 := w2) (by omega) h5 HB5.out (Nat.le_succ w.heap.size) (.int .i64 (addTx87 s x).Lo) (.int .i64 (addTx87 s x).Hi) (.bool false)
   refine ⟨g.1, g.2, ⟨addTx87 s x, by rw [hu']; exact put3 _ _ _ HS5.out, hu', fun rest => ?_⟩, far3 (blk_below H4.out HB5.out) (by omega) _ _ _, h5.trans g.2⟩
   rw [List.append_assoc, H3.out]
   exact if_neg hu
 case done =>
  rintro D ys W hD rfl ⟨⟨s, h1, h2, h3⟩, h4, h5⟩ hK
  obtain ⟨hc0, hc1, hc2, hf0, hf1, hf2⟩ := cel3 h1
  obtain ⟨hd0, hd1, hd2, he0, he1, he2⟩ := cel3 h4
  gi_wp2
  have hS : bound_SumF ys ⟨0, 0, false⟩ = s := by have := h3 []; rwa [List.append_nil] at this
  have hK3 := ((KeepsOthers.setCell W ⟨w.heap.size, 0, none⟩ (.int .i64 s.Lo)).trans ((KeepsOthers.setCell _ ⟨w.heap.size, 1, none⟩ (.int .i64 s.Hi)).trans (KeepsOthers.setCell _ ⟨w.heap.size, 2, none⟩ (.bool false)))).same D _ hK rfl
  have hR := put3 (.int .i64 s.Lo) (.int .i64 s.Hi) (.bool false) h4
  have hB3 := (((Below.refl w.heap.size W).setCell (p := ⟨w.heap.size, 0, none⟩) (Nat.le_refl _) (.int .i64 s.Lo)).setCell (p := ⟨w.heap.size, 1, none⟩) (Nat.le_refl _) (.int .i64 s.Hi)).setCell (p := ⟨w.heap.size, 2, none⟩) (Nat.le_refl _) (.bool false)
  have hB4 := belowK_b (w := w) (n₀ := w.heap.size) (Nat.le_refl _) _ D _ (.deferred none) (by omega) hK3 rfl rfl
  have hR4 := ((grownBy_putObj' _ D (.deferred none)).block w.heap.size (blk_lt hR) (fun e => by cases e; omega)).trans hR
  refine ⟨by simp, .inl ⟨_, _, rfl, run_takeDeferred hK3, ?_⟩⟩
  refine ⟨_, results_cell_row rfl _ _ w.heap.size 33 _ (0, 0) _ rfl hR4 Tryz.underlying33 rfl (by kernel_rfl), ?_, (h5.trans hB3).trans hB4⟩
  rw [hS, h2]
 case stop =>
  rintro D c pre W hD hpre ⟨rfl, ⟨s, h1, h2⟩, h4, h5⟩ hK
  obtain ⟨rest, rfl⟩ := hpre
  have hS := h2 rest
  clear h2
  obtain ⟨hc0, hc1, hc2, hf0, hf1, hf2⟩ := cel3 h1
  obtain ⟨hd0, hd1, hd2, he0, he1, he2⟩ := cel3 h4
  have HS := Lib.hid hS
  clear hS
  gi_wp2
  have hK3 := ((KeepsOthers.setCell W ⟨w.heap.size, 0, none⟩ (.int .i64 s.Lo)).trans ((KeepsOthers.setCell _ ⟨w.heap.size, 1, none⟩ (.int .i64 s.Hi)).trans (KeepsOthers.setCell _ ⟨w.heap.size, 2, none⟩ (.bool s.Unknown)))).same D _ hK rfl
  have hR := put3 (.int .i64 s.Lo) (.int .i64 s.Hi) (.bool s.Unknown) h4
  have hB3 := (((Below.refl w.heap.size W).setCell (p := ⟨w.heap.size, 0, none⟩) (Nat.le_refl _) (.int .i64 s.Lo)).setCell (p := ⟨w.heap.size, 1, none⟩) (Nat.le_refl _) (.int .i64 s.Hi)).setCell (p := ⟨w.heap.size, 2, none⟩) (Nat.le_refl _) (.bool s.Unknown)
  have hB4 := belowK_b (w := w) (n₀ := w.heap.size) (Nat.le_refl _) _ D _ (.deferred none) (by omega) hK3 rfl rfl
  have hR4 := ((grownBy_putObj' _ D (.deferred none)).block w.heap.size (blk_lt hR) (fun e => by cases e; omega)).trans hR
  refine ⟨by simp, .inl ⟨_, _, rfl, run_takeDeferred hK3, ?_⟩⟩
  refine ⟨_, results_cell_row rfl _ _ w.heap.size 33 _ (0, 0) _ rfl hR4 Tryz.underlying33 rfl (by kernel_rfl), ?_, (h5.trans hB3).trans hB4⟩
  rw [HS.out]
theorem sum_callsx87 (A0 : Option Addr) (c0 : Nat) (l0 : List Bound) (hreach : l0.length * 24 ≤ 140737488351232) (w : World) (hr0 : RowBx87 w A0 l0) (hc0 : l0.length ≤ c0) :
  Calls Tryz.prog 87 #[.slice A0 l0.length c0] w fun e w' => e = .returned (.agg #[.int .i64 (bound_SumF l0 ⟨0, 0, false⟩).Lo, .int .i64 (bound_SumF l0 ⟨0, 0, false⟩).Hi, .bool (bound_SumF l0 ⟨0, 0, false⟩).Unknown]) ∧ Below w.heap.size w w' := by
 have hB : Below w.heap.size w ((w.alloc (.cells #[.int .i64 0, .int .i64 0, .bool false] 33)).alloc (.cells #[.slice A0 l0.length c0] 90)) := ((Below.refl _ w).alloc (Nat.le_refl _) _).alloc (by simp) _
 have h1 : ((w.alloc (.cells #[.int .i64 0, .int .i64 0, .bool false] 33)).alloc (.cells #[.slice A0 l0.length c0] 90)).heap[w.heap.size]? = some (.cells #[.int .i64 0, .int .i64 0, .bool false] 33 (0, 0)) := blk_alloc (World.alloc_heap_new w _) _
 have h2 : ((w.alloc (.cells #[.int .i64 0, .int .i64 0, .bool false] 33)).alloc (.cells #[.slice A0 l0.length c0] 90)).heap[w.heap.size + 1]? = some (.cells #[.slice A0 l0.length c0] 90 (0, 0)) := by
  have := World.alloc_heap_new (w.alloc (.cells #[.int .i64 0, .int .i64 0, .bool false] 33)) (.cells #[.slice A0 l0.length c0] 90)
  rwa [World.size_alloc] at this
 have hb0 : ∀ ad, A0 = some ad → 0 < l0.length → ad.block < w.heap.size := by
  intro ad e hp
  obtain ⟨ad', e', hx, _⟩ := hr0 0 hp
  rw [e] at e'; cases e'
  exact hx
 have T := total_Bx87 A0 c0 l0 hreach _ (w.heap.size + 1) (by simp) ((cel1 h2).1) (hr0.below hB) (fun ad e hp => Nat.lt_of_lt_of_le (hb0 ad e hp) hB.size)
 have H1 := Lib.hid h1
 have HB := Lib.hid hB
 clear h1 h2 hB hb0
 go_enter Tryz.func87, Tryz.ntmps87
 go_wp2_with (first | (go_at_call 102; refine (values_Bx87 _ _ _ _).mono ?_; rintro e w1 ⟨rfl, rfl⟩) | (go_at_call 101; refine T.mono ?_; rintro e w1 ⟨rfl, hb1⟩; have h3 := blk_below H1.out hb1; obtain ⟨hc0_, hc1_, hc2_, hf0, hf1, hf2⟩ := cel3 h3; have H3 := Lib.hid h3; have HB1 := Lib.hid hb1; clear h3 hb1))
 have hR := put3 (.int .i64 (bound_SumF l0 ⟨0, 0, false⟩).Lo) (.int .i64 (bound_SumF l0 ⟨0, 0, false⟩).Hi) (.bool (bound_SumF l0 ⟨0, 0, false⟩).Unknown) H3.out
 refine bodyPost_ret (results_cell_row rfl _ _ w.heap.size 33 _ (0, 0) _ rfl hR Tryz.underlying33 rfl (by kernel_rfl)) rfl ?_
 exact ⟨rfl, (((HB.out.trans (HB1.out.mono HB.out.size)).setCell (p := ⟨w.heap.size, 0, none⟩) (Nat.le_refl _) _).setCell (p := ⟨w.heap.size, 1, none⟩) (Nat.le_refl _) _).setCell (p := ⟨w.heap.size, 2, none⟩) (Nat.le_refl _) _⟩
theorem row_cellsx87 (l : List Bound) (k : Nat) (hk : k < l.length) : (l.flatMap (Cl.c false))[k * 3]? = some (.sc (.int .i64 l[k].Lo)) ∧ (l.flatMap (Cl.c false))[k * 3 + 1]? = some (.sc (.int .i64 l[k].Hi)) ∧ (l.flatMap (Cl.c false))[k * 3 + 2]? = some (.sc (.bool l[k].Unknown)) := by
 have h := flat_at false l k hk
 have e : l.getD k Cl.d = l[k] := by rw [List.getD_eq_getElem?_getD, List.getElem?_eq_getElem hk]; rfl
 rw [e] at h
 have h : ((l.flatMap (Cl.c false)).drop (k * 3)).take 3 = [iV l[k].Lo, iV l[k].Hi, bV l[k].Unknown] := h
 have g : ∀ i : Nat, i < 3 → (l.flatMap (Cl.c false))[k * 3 + i]? = ([iV l[k].Lo, iV l[k].Hi, bV l[k].Unknown] : List V)[i]? := fun i hi => by
  rw [← h, List.getElem?_take, if_pos hi, List.getElem?_drop]
 exact ⟨g 0 (by decide), g 1 (by decide), g 2 (by decide)⟩
theorem ok87 (l : List Bound) (r : Bound) (hR : bound_Sum l = some r) : FnP Tryz.prog 87 [rowV false l] (aggV (α := Bound) true r) := by
 unfold bound_Sum at hR
 split at hR
 ·rename_i hreach
  have hR := Option.some.inj hR
  subst hR
  refine fnP_in fun E W cargs hF ha => ?_
  simp only [RLs] at ha
  obtain ⟨c, ds, rfl, h1, rfl⟩ := ha
  unfold rowV at h1
  simp only [RL] at h1
  obtain ⟨a, cap, rfl, h2, h3, h4, h5⟩ := h1
  refine (sum_callsx87 a cap l hreach W (fun k hk => ?_) h2).mono ?_
  ·rcases h5 with h5 | ⟨B, o, rfl, _, h6⟩
   ·omega
   ·obtain ⟨g0, g1, g2⟩ := row_cellsx87 l k hk
    obtain ⟨d0, e0, f0⟩ := RF.get _ _ h6 _ _ g0
    obtain ⟨d1, e1, f1⟩ := RF.get _ _ h6 _ _ g1
    obtain ⟨d2, e2, f2⟩ := RF.get _ _ h6 _ _ g2
    simp only [RL] at f0 f1 f2
    subst f0; subst f1; subst f2
    have c0 := hF _ _ _ e0
    have c1 := hF _ _ _ e1
    have c2 := hF _ _ _ e2
    refine ⟨⟨B, o, none⟩, rfl, World.block_lt_of_cell? W ⟨B, o + k * 3, none⟩ c0, ?_, ?_, ?_⟩
    ·rw [addr_add]; exact c0
    ·rw [addr_add]; exact c1
    ·rw [addr_add]; exact c2
  ·rintro e w' ⟨rfl, hb⟩
   refine ⟨_, rfl, ?_, hb⟩
   unfold aggV
   simp only [RL]
   exact ⟨[.int .i64 (bound_SumF l ⟨0, 0, false⟩).Lo, .int .i64 (bound_SumF l ⟨0, 0, false⟩).Hi, .bool (bound_SumF l ⟨0, 0, false⟩).Unknown], rfl, rls_cons rl_sc (rls_cons rl_sc (rls_cons rl_sc rls_nil)), Cl.leaf true _⟩
 ·cases hR
end

theorem ok64 (v : Bound × Bound × Bound) (r : Bound) (hR : arc_Norm v = some r) : FnP Tryz.prog 64 [aggV false v] (aggV (α := Bound) true r) := by
 refine fnP_of (FnX.walk Tryz.func64 rfl 14 0 (by simp [Tryz.ntmps64]) rfl fun W S F Q hQ => ?_)
 unfold arc_Norm at hR
 refine AWP.sq (AWP.rgC 8 rfl rfl (bx (cs := _) 0 rfl rfl rfl (al (cs := [iV 0, iV 0, bV false]) 4 rfl rfl ti33 rfl rfl (RunC.fin (AWP.sq (AWP.rgD 56 [0, 1, 3, 0, 8, 31, 0, 64, 255, 511, 1023, 2047] ⟨[], [none, some [0], none, none, some [0], none, none, some [0], none, none, none, some [4]]⟩ hmix (by kernel_rfl) rfl rfl ?_))))))
 refine iaP (o' := 0) rfl rfl rfl ti83 rfl ti33 (by decide) rfl (ldB (v := .agg _) rfl rfl rfl rfl ti33 rfl rfl ?_)
 obtain ⟨r1, hr1, hR⟩ := bindE hR
 refine cls [] rfl rfl cb88 (ok88 v.1 _ hr1) (.cons (.agg .z3 rfl) (.nil)) (.inr rfl) rfl (iaP (o' := 3) rfl rfl rfl ti83 rfl ti33 (by decide) rfl (ldB (v := .agg _) rfl rfl rfl rfl ti33 rfl rfl ?_))
 obtain ⟨r2, hr2, hR⟩ := bindE hR
 refine cls [] rfl rfl cb88 (ok88 v.2.1 _ hr2) (.cons (.agg .z3 rfl) (.nil)) (.inr rfl) rfl (iaP (o' := 6) rfl rfl rfl ti83 rfl ti33 (by decide) rfl (ldB (v := .agg _) rfl rfl rfl rfl ti33 rfl rfl ?_))
 obtain ⟨r3, hr3, hR⟩ := bindE hR
 refine cls [] rfl rfl cb88 (ok88 v.2.2 _ hr3) (.cons (.agg .z3 rfl) (.nil)) (.inr rfl) rfl (bs (α := Bound) 44 true ([r1, r2, r3] : List Bound) rfl rfl ti90 rfl ti33 rfl rfl rfl rfl rfl ?_)
 obtain ⟨r4, hr4, hR⟩ := bindE hR
 refine cls [44] rfl rfl cb87 (ok87 ([r1, r2, r3] : List Bound) _ hr4) (.cons (ldS' rfl rfl rfl rfl) (.nil)) (.inl (by first | rfl | exact freshR | exact freshA | (simp only [V.fresh, V.freshs, freshR, freshA, Bool.and_self]))) rfl (stB (cs' := [iV r4.Lo, iV r4.Hi, bV r4.Unknown]) rfl rfl rfl rfl ti33 rfl rfl rfl rfl rfl (RunC.fin (AWP.ret ?_)))
 have hR := Option.some.inj hR; subst hR
 exact hQ _ _ (LS.mk [(2, .ptr 0 0 0)] (lblks 0 [boxB (α := Bound) true r4]) 1) (aggV (α := Bound) true r4) [] (.inr rfl) (Weak.turnL [(4, 0)] [] rfl rfl (tc (trP' rfl rfl rfl rfl) tn) (mc rfl (.box rfl .z3 rfl) mn)) (ro1 (rvC (v := aggV (α := Bound) true r4) rfl rfl ti33 rfl)) rfl rfl ldA pn
theorem ok63 (a : Bound) (unit : Int) (r : Bound) (hR : bound_Root a unit = some r) : FnP Tryz.prog 63 [aggV false a, .sc (.int .i64 unit)] (aggV (α := Bound) true r) := by
 refine fnP_of (FnX.walk Tryz.func63 rfl 43 0 (by simp [Tryz.ntmps63]) rfl fun W S F Q hQ => ?_)
 unfold bound_Root at hR
 refine AWP.sq (AWP.rgC 8 rfl rfl (bx (cs := _) 0 rfl rfl rfl (al (cs := [iV 0, iV 0, bV false]) 4 rfl rfl ti33 rfl rfl (RunC.fin (AWP.sq (AWP.joinX (fun z1 : Bool => LS.mk [(1, iV unit), (2, .ptr 0 0 0), (4, .ptr 1 0 0), (18, bV z1)] (lblks 0 [boxB (α := Bound) true a, boxB (α := Bound) true (Bound.mk 0 0 false)]) 2) hR (fun o1 hR => ?_) fun z1 hR => ?_))))))
 ·refine AWP.rgC 56 rfl rfl (ldB (v := .agg _) rfl rfl rfl rfl ti33 rfl rfl (ldB (v := .agg _) rfl rfl rfl rfl ti33 rfl rfl ?_))
  obtain ⟨r2, hr2, hR⟩ := bindE hR
  refine cls [] rfl rfl cb67 (ok67 a a _ hr2) (.cons (.agg .z3 rfl) (.cons (.agg .z3 rfl) (.nil))) (.inr rfl) rfl (pS rfl (brR hR (fun h3 hR => ?_) fun h3 hR => ?_))
  ·refine sk (skW rfl rfl rfl h3) (sk (skW rfl rfl rfl h3) (pkT (v := bV true) rfl rfl h3 rfl (pS rfl (sk (skW rfl rfl rfl rfl) (sk (skW rfl rfl rfl rfl) (sk (skW rfl rfl rfl rfl) (pkT (v := bV true) rfl rfl rfl rfl (RunC.fin ?_))))))))
   have hR := Option.some.inj hR; subst hR
   exact Weak.turnL [(0, 0), (4, 0)] [] rfl rfl (tc (.sc _) (tc (trP' rfl rfl rfl rfl) (tc (trP' rfl rfl rfl rfl) (tc (.sc _) tn)))) (mc rfl (.box rfl .z3 rfl) (mc rfl (.box rfl .z3 rfl) mn))
  ·refine pu (v := .sc _) (wtG rfl rfl rfl h3) rfl (fun _ => rfl) (pu (v := .sc _) (wtG rfl rfl rfl h3) rfl (fun _ => rfl) (pkF (v := bV (decide (unit < 1))) rfl rfl h3 rfl (pS rfl (brR hR (fun h4 hR => ?_) fun h4 hR => ?_))))
   ·refine sk (skW rfl rfl rfl h4) (sk (skW rfl rfl rfl h4) (sk (skW rfl rfl rfl h4) (pkT (v := bV true) rfl rfl h4 rfl (RunC.fin ?_))))
    have hR := Option.some.inj hR; subst hR
    exact Weak.turnL [(0, 0), (4, 0)] [] rfl rfl (tc (.sc _) (tc (trP' rfl rfl rfl rfl) (tc (trP' rfl rfl rfl rfl) (tc (.sc _) tn)))) (mc rfl (.box rfl .z3 rfl) (mc rfl (.box rfl .z3 rfl) mn))
   ·refine fa (wtG rfl rfl rfl h4) rfl ti33 rfl rfl ti31 rfl (ldB (v := .sc _) (wtG rfl rfl rfl h4) rfl rfl rfl ti31 rfl rfl (pu (v := .sc _) (wtG rfl rfl rfl h4) rfl (fun _ => rfl) (pkF (v := bV (decide (a.Hi < 0))) rfl rfl h4 rfl (RunC.fin ?_))))
    have hR := Option.some.inj hR; subst hR
    exact Weak.turnL [(0, 0), (4, 0)] [] rfl rfl (tc (.sc _) (tc (trP' rfl rfl rfl rfl) (tc (trP' rfl rfl rfl rfl) (tc (.sc _) tn)))) (mc rfl (.box rfl .z3 rfl) (mc rfl (.box rfl .z3 rfl) mn))
 ·refine AWP.cd hR rfl (fun h5 hR => ?_) fun h5 hR => ?_
  ·refine AWP.sq (AWP.rgC 10 rfl rfl ?_)
   obtain ⟨r6, hr6, hR⟩ := bindE hR
   refine cls [] rfl rfl cb45 (ok45 _ hr6) (.nil) (.inr rfl) rfl (stB (cs' := [iV r6.Lo, iV r6.Hi, bV r6.Unknown]) rfl rfl rfl rfl ti33 rfl rfl rfl rfl rfl (RunC.fin (AWP.ret (rtT ?_))))
   have hR := Option.some.inj hR; subst hR
   exact hQ _ _ (LS.mk [(4, .ptr 0 0 0)] (lblks 0 [boxB (α := Bound) true r6]) 1) (aggV (α := Bound) true r6) [] (.inr rfl) (Weak.turnL [(1, 0)] [] rfl rfl (tc (trP' rfl rfl rfl rfl) tn) (mc rfl (.box rfl .z3 rfl) mn)) (ro1 (rvC (v := aggV (α := Bound) true r6) rfl rfl ti33 rfl)) rfl rfl ldA pn
  ·refine AWP.skip (skT (AWP.sq (AWP.rgD 46 [0, 1, 3, 0, 15, 0, 32, 0, 255, 511, 1023] ⟨[], [none, some [0], none, none, none, none, some [0], none, none, none, none]⟩ hmix (by kernel_rfl) rfl rfl ?_)))
   refine fa rfl rfl ti33 rfl rfl ti31 rfl (ldB (v := .sc _) rfl rfl rfl rfl ti31 rfl rfl (pS rfl (pS rfl ?_)))
   obtain ⟨r7, hr7, hR⟩ := bindE hR
   refine cls [] rfl rfl cb75 (ok75 (mx2 a.Lo 0) unit _ hr7) .z2 (.inr rfl) rfl (fa rfl rfl ti33 rfl rfl ti31 rfl (ldB (v := .sc _) rfl rfl rfl rfl ti31 rfl rfl (pS rfl ?_)))
   obtain ⟨r8, hr8, hR⟩ := bindE hR
   refine cls [] rfl rfl cb75 (ok75 a.Hi unit _ hr8) .z2 (.inr rfl) rfl (pS rfl (pS rfl (RunC.fin (AWP.sq (AWP.sq (AWP.rgD 82 [0, 0, 3, 0, 8, 0, 63, 127, 255] ⟨[], [none, none, none, none, some [0], none, none, none, none]⟩ hmix (by kernel_rfl) rfl rfl ?_))))))
   refine pS rfl (pS rfl ?_)
   obtain ⟨r9, hr9, hR⟩ := bindE hR
   refine cls [] rfl rfl cb49 (ok49 r8 r8 _ hr9) .z2 (.inr rfl) rfl (fa rfl rfl ti33 rfl rfl ti31 rfl (ldB (v := .sc _) rfl rfl rfl rfl ti31 rfl rfl (pS rfl ?_)))
   obtain ⟨r10, hr10, hR⟩ := bindE hR
   refine cls [] rfl rfl cb49 (ok49 a.Hi unit _ hr10) .z2 (.inr rfl) rfl ?_
   obtain ⟨r11, hr11, hR⟩ := bindE hR
   refine cls [] rfl rfl cb50 (ok50 r9 r10 _ hr11) (.cons (.agg .z2 rfl) (.cons (.agg .z2 rfl) (.nil))) (.inr rfl) rfl (pS rfl (RunC.fin (AWP.cd hR rfl (fun h12 hR => ?_) fun h12 hR => ?_)))
   ·refine AWP.rgC 94 rfl rfl (pS rfl (pS rfl (pS rfl (RunC.fin (AWP.sq (AWP.rgC 110 rfl rfl (pS rfl (pS rfl ?_))))))))
    obtain ⟨r13, hr13, hR⟩ := bindE hR
    refine cls [] rfl rfl cb68 (ok68 r7 (w6 (r8 + 1)) _ hr13) .z2 (.inr rfl) rfl (stB (cs' := [iV r13.Lo, iV r13.Hi, bV r13.Unknown]) rfl rfl rfl rfl ti33 rfl rfl rfl rfl rfl (RunC.fin (AWP.ret ?_)))
    have hR := Option.some.inj hR; subst hR
    exact hQ _ _ (LS.mk [(4, .ptr 0 0 0)] (lblks 0 [boxB (α := Bound) true r13]) 1) (aggV (α := Bound) true r13) [] (.inr rfl) (Weak.turnL [(1, 0)] [] rfl rfl (tc (trP' rfl rfl rfl rfl) tn) (mc rfl (.box rfl .z3 rfl) mn)) (ro1 (rvC (v := aggV (α := Bound) true r13) rfl rfl ti33 rfl)) rfl rfl ldA pn
   ·refine AWP.skip (skT (AWP.sq (AWP.rgC 98 rfl rfl (pS rfl (pS rfl ?_)))))
    obtain ⟨r14, hr14, hR⟩ := bindE hR
    refine cls [] rfl rfl cb68 (ok68 r7 r8 _ hr14) .z2 (.inr rfl) rfl (stB (cs' := [iV r14.Lo, iV r14.Hi, bV r14.Unknown]) rfl rfl rfl rfl ti33 rfl rfl rfl rfl rfl (RunC.fin (AWP.ret ?_)))
    have hR := Option.some.inj hR; subst hR
    exact hQ _ _ (LS.mk [(4, .ptr 0 0 0)] (lblks 0 [boxB (α := Bound) true r14]) 1) (aggV (α := Bound) true r14) [] (.inr rfl) (Weak.turnL [(1, 0)] [] rfl rfl (tc (trP' rfl rfl rfl rfl) tn) (mc rfl (.box rfl .z3 rfl) mn)) (ro1 (rvC (v := aggV (α := Bound) true r14) rfl rfl ti33 rfl)) rfl rfl ldA pn
theorem ok89 (x : Int) (y : Int) (p2 : Int) (r : Int × Int) (hR : bound_Div_1 x y p2 = some r) : FnP Tryz.prog 89 [.sc (.int .i64 x), .sc (.int .i64 y), .rp (Cl.c false p2)] (.tup [.sc (.int .i64 r.1), .sc (.int .i64 r.2)]) := by
 refine fnP_of (FnX.walk Tryz.func89 rfl 13 0 (by simp [Tryz.ntmps89]) rfl fun W S F Q hQ => ?_)
 unfold bound_Div_1 at hR
 refine AWP.sq (AWP.rgC 8 rfl rfl (pS rfl (pS rfl (RunC.fin (AWP.sq (AWP.rgC 40 rfl rfl (pS rfl (ldR (v := .sc _) rfl rfl ti2 rfl ?_))))))))
 refine pS rfl ?_
 obtain ⟨r1, hr1, hR⟩ := bindE hR
 refine cls [] rfl rfl cb54 (ok54 x p2 y _ hr1) .z3 (.inr rfl) rfl (pS rfl (pS rfl (pS rfl (pS rfl (RunC.fin (AWP.ret ?_))))))
 have hR := Option.some.inj hR; subst hR
 exact hQ _ _ (LS.mk [(5, iV r1.1), (6, iV r1.2)] (lblks 0 []) 0) (.tup [iV r1.1, iV r1.2]) [] (.inr rfl) (Weak.turnL [] [] rfl rfl (tc (.sc _) (tc (.sc _) tn)) mn) (ro2 (rvT (v := iV r1.1) rfl) (rvT (v := iV r1.2) rfl)) rfl rfl (.tup .z2) pn
theorem ok90 (x : Int) (y : Int) (p2 : Int) (r : Int × Int) (hR : bound_Div_2 x y p2 = some r) : FnP Tryz.prog 90 [.sc (.int .i64 x), .sc (.int .i64 y), .rp (Cl.c false p2)] (.tup [.sc (.int .i64 r.1), .sc (.int .i64 r.2)]) := by
 refine fnP_of (FnX.walk Tryz.func90 rfl 13 0 (by simp [Tryz.ntmps90]) rfl fun W S F Q hQ => ?_)
 unfold bound_Div_2 at hR
 refine AWP.sq (AWP.rgC 8 rfl rfl (pS rfl (pS rfl (RunC.fin (AWP.sq (AWP.rgC 40 rfl rfl (pS rfl (ldR (v := .sc _) rfl rfl ti2 rfl ?_))))))))
 refine pS rfl ?_
 obtain ⟨r1, hr1, hR⟩ := bindE hR
 refine cls [] rfl rfl cb82 (ok82 x p2 y _ hr1) .z3 (.inr rfl) rfl (pS rfl (pS rfl (pS rfl (pS rfl (RunC.fin (AWP.ret ?_))))))
 have hR := Option.some.inj hR; subst hR
 exact hQ _ _ (LS.mk [(5, iV r1.1), (6, iV r1.2)] (lblks 0 []) 0) (.tup [iV r1.1, iV r1.2]) [] (.inr rfl) (Weak.turnL [] [] rfl rfl (tc (.sc _) (tc (.sc _) tn)) mn) (ro2 (rvT (v := iV r1.1) rfl) (rvT (v := iV r1.2) rfl)) rfl rfl (.tup .z2) pn
theorem ok79_84 (a : Bound) (b : Bound) (down_c0 : Int) (up_c0 : Int) (r : Bound) (hR : bound_corners_bound_Div_1 a b down_c0 up_c0 = some r) : FnP Tryz.prog 79 [aggV false a, aggV false b, .fn (.func 89) [.rp (Cl.c false down_c0)], .fn (.func 90) [.rp (Cl.c false up_c0)]] (aggV (α := Bound) true r) := by
 refine fnP_of (FnX.walk Tryz.func79 rfl 71 0 (by simp [Tryz.ntmps79]) rfl fun W S F Q hQ => ?_)
 unfold bound_corners_bound_Div_1 at hR
 refine AWP.sq (AWP.rgC 12 rfl rfl (bx (cs := _) 0 rfl rfl rfl (bx (cs := _) 4 rfl rfl rfl (al (cs := [iV 0, iV 0, bV false]) 8 rfl rfl ti33 rfl rfl (RunC.fin (AWP.sq (AWP.rgC 16 rfl rfl (pS rfl (RunC.fin (AWP.sq (AWP.sq (AWP.rgC 44 rfl rfl (fa rfl rfl ti33 rfl rfl ti31 rfl (ldB (v := .sc _) rfl rfl rfl rfl ti31 rfl rfl (fa rfl rfl ti33 rfl rfl ti31 rfl (ldB (v := .sc _) rfl rfl rfl rfl ti31 rfl rfl ?_))))))))))))))))
 refine bs (α := Int) 32 true ([a.Lo, a.Hi] : List Int) rfl rfl ti149 rfl ti31 rfl rfl rfl rfl rfl ?_
 refine lenS (α := Int) rfl rfl ti149 rfl ?_
 refine pS rfl (RunC.fin (AWP.nilT Int 9 31 rfl ?_))
 refine AWP.loopK' (fun s1 : (List Int) × Int => LS.mk [(2, .fn (.func 89) [.rp (Cl.c false (down_c0 : Int))]), (3, .fn (.func 90) [.rp (Cl.c false (up_c0 : Int))]), (5, .ptr 0 0 0), (8, .ptr 1 0 0), (9, slV Int 2 0 0 s1.1.length), (22, slV Int 3 0 0 ([a.Lo, a.Hi] : List Int).length), (23, iV (([a.Lo, a.Hi] : List Int).length : Int)), (24, iV s1.2)] (lblks 0 [boxB (α := Bound) true b, boxB (α := Bound) true (Bound.mk 0 0 false), arrB (α := Int) 31 0 true s1.1, arrB (α := Int) 31 0 true ([a.Lo, a.Hi] : List Int)]) 4) (fun z2 : (List Int) => LS.mk [(8, .ptr 0 0 0), (9, slV Int 1 0 0 z2.length)] (lblks 0 [boxB (α := Bound) true (Bound.mk 0 0 false), arrB (α := Int) 31 0 true z2]) 2) (bound_corners_bound_Div_1.l1 a b down_c0 up_c0) hR (s0 := (([] : List Int), 0)) (Weak.turnL [(4, 0), (8, 0), (44, 0), (32, 0)] [] rfl rfl (tc (.fn (.cons (.rp (Cl.tr _ _ _ _ id) (Cl.leaf _ _)) (.nil))) (tc (.fn (.cons (.rp (Cl.tr _ _ _ _ id) (Cl.leaf _ _)) (.nil))) (tc (trP' rfl rfl rfl rfl) (tc (trP' rfl rfl rfl rfl) (tc (trS' rfl rfl rfl rfl rfl) (tc (trS' rfl rfl rfl rfl rfl) (tc (.sc _) (tc (.sc _) tn)))))))) (mc rfl (.box rfl .z3 rfl) (mc rfl (.box rfl .z3 rfl) (mc rfl (btrA' rfl) (mc rfl (btrA' rfl) mn))))) (fun s1 o1 hR hE1 => ?_) fun z2 hR => ?_
 ·unfold bound_corners_bound_Div_1.l1 at hR
  refine AWP.sq (AWP.rgC 8 rfl rfl (pS rfl (RunC.fin (AWP.sq (AWP.cd hR rfl (fun h3 hR => ?_) fun h3 hR => ?_)))))
  ·refine AWP.skip (skT (AWP.sq (AWP.block (AWP.sq (AWP.rgC 20 rfl rfl ?_)))))
   obtain ⟨h4, hR⟩ := chkE hR
   refine ixS0 (α := Int) rfl rfl rfl ti149 rfl ti31 rfl h4 ?_
   refine ldE (α := Int) (v := .sc _) rfl rfl rfl (ixlt h4) ti31 rfl rfl rfl rfl ?_
   refine pS rfl (RunC.fin (AWP.sq (AWP.rgC 48 rfl rfl (fa rfl rfl ti33 rfl rfl ti31 rfl (ldB (v := .sc _) rfl rfl rfl rfl ti31 rfl rfl (fa rfl rfl ti33 rfl rfl ti31 rfl (ldB (v := .sc _) rfl rfl rfl rfl ti31 rfl rfl (bs (α := Int) 36 true ([b.Lo, b.Hi] : List Int) rfl rfl ti149 rfl ti31 rfl rfl rfl rfl rfl ?_))))))))
   refine lenS (α := Int) rfl rfl ti149 rfl ?_
   refine pS rfl (RunC.fin (AWP.loopK' (fun s5 : (List Int) × Int => LS.mk [(2, .fn (.func 89) [.rp (Cl.c false (down_c0 : Int))]), (3, .fn (.func 90) [.rp (Cl.c false (up_c0 : Int))]), (5, .ptr 0 0 0), (8, .ptr 1 0 0), (9, slV Int 2 0 0 s5.1.length), (11, iV (gt ([a.Lo, a.Hi] : List Int) s1.2)), (22, slV Int 3 0 0 ([a.Lo, a.Hi] : List Int).length), (23, iV (([a.Lo, a.Hi] : List Int).length : Int)), (24, iV s1.2), (32, slV Int 4 0 0 ([b.Lo, b.Hi] : List Int).length), (33, iV (([b.Lo, b.Hi] : List Int).length : Int)), (34, iV s5.2)] (lblks 0 [boxB (α := Bound) true b, boxB (α := Bound) true (Bound.mk 0 0 false), arrB (α := Int) 31 0 true s5.1, arrB (α := Int) 31 0 true ([a.Lo, a.Hi] : List Int), arrB (α := Int) 31 0 true ([b.Lo, b.Hi] : List Int)]) 5) (fun z6 : (List Int) => LS.mk [(2, .fn (.func 89) [.rp (Cl.c false (down_c0 : Int))]), (3, .fn (.func 90) [.rp (Cl.c false (up_c0 : Int))]), (5, .ptr 0 0 0), (8, .ptr 1 0 0), (9, slV Int 2 0 0 z6.length), (22, slV Int 3 0 0 ([a.Lo, a.Hi] : List Int).length), (23, iV (([a.Lo, a.Hi] : List Int).length : Int)), (24, iV s1.2)] (lblks 0 [boxB (α := Bound) true b, boxB (α := Bound) true (Bound.mk 0 0 false), arrB (α := Int) 31 0 true z6, arrB (α := Int) 31 0 true ([a.Lo, a.Hi] : List Int)]) 4) (bound_corners_bound_Div_1.l2 a b down_c0 up_c0 s1) hR (s0 := (s1.1, 0)) (Weak.turnL [(0, 0), (1, 0), (2, 0), (3, 0), (36, 0)] [] rfl rfl (tc (.fn (.cons (.rp (Cl.tr _ _ _ _ id) (Cl.leaf _ _)) (.nil))) (tc (.fn (.cons (.rp (Cl.tr _ _ _ _ id) (Cl.leaf _ _)) (.nil))) (tc (trP' rfl rfl rfl rfl) (tc (trP' rfl rfl rfl rfl) (tc (trS' rfl rfl rfl rfl rfl) (tc (.sc _) (tc (trS' rfl rfl rfl rfl rfl) (tc (.sc _) (tc (.sc _) (tc (trS' rfl rfl rfl rfl rfl) (tc (.sc _) (tc (.sc _) tn)))))))))))) (mc rfl (.box rfl .z3 rfl) (mc rfl (.box rfl .z3 rfl) (mc rfl (btrA' rfl) (mc rfl (btrA' rfl) (mc rfl (btrA' rfl) mn)))))) (fun s5 o5 hR hE5 => ?_) fun z6 hR => ?_))
   ·unfold bound_corners_bound_Div_1.l2 at hR
    refine AWP.sq (AWP.rgC 9 rfl rfl (pS rfl (RunC.fin (AWP.sq (AWP.cd hR rfl (fun h7 hR => ?_) fun h7 hR => ?_)))))
    ·refine AWP.skip (skT (AWP.sq (AWP.block (AWP.sq (AWP.rgC 21 rfl rfl ?_)))))
     obtain ⟨h8, hR⟩ := chkE hR
     refine ixS0 (α := Int) rfl rfl rfl ti149 rfl ti31 rfl h8 ?_
     refine ldE (α := Int) (v := .sc _) rfl rfl rfl (ixlt h8) ti31 rfl rfl rfl rfl ?_
     refine pS rfl (RunC.fin (AWP.sq (AWP.rgC 57 rfl rfl (pu (v := .fn _ _) rfl rfl (fun _ => rfl) (pS rfl (pS rfl ?_))))))
     obtain ⟨r9, hr9, hR⟩ := bindE hR
     refine cls [] rfl rfl cb89 (ok89 (gt ([a.Lo, a.Hi] : List Int) s1.2) (gt ([b.Lo, b.Hi] : List Int) s5.2) down_c0 _ hr9) (.c2 (.cons (.rp (Cl.ld _ _ _) (Cl.leaf _ _)) (.nil))) (.inr rfl) rfl (pu (v := .tup _) rfl rfl (fun _ => rfl) (pS rfl (pS rfl (pS rfl (pS rfl (RunC.fin (AWP.sq (AWP.rgC 93 rfl rfl (pu (v := .fn _ _) rfl rfl (fun _ => rfl) (pS rfl (pS rfl ?_)))))))))))
     obtain ⟨r10, hr10, hR⟩ := bindE hR
     refine cls [] rfl rfl cb90 (ok90 (gt ([a.Lo, a.Hi] : List Int) s1.2) (gt ([b.Lo, b.Hi] : List Int) s5.2) up_c0 _ hr10) (.c2 (.cons (.rp (Cl.ld _ _ _) (Cl.leaf _ _)) (.nil))) (.inr rfl) rfl (pu (v := .tup _) rfl rfl (fun _ => rfl) (pS rfl (pS rfl (pS rfl (pS rfl (RunC.fin (AWP.sq (AWP.joinX (fun z11 : Bool => LS.mk [(2, .fn (.func 89) [.rp (Cl.c false (down_c0 : Int))]), (3, .fn (.func 90) [.rp (Cl.c false (up_c0 : Int))]), (5, .ptr 0 0 0), (8, .ptr 1 0 0), (9, slV Int 2 0 0 s5.1.length), (11, iV (gt ([a.Lo, a.Hi] : List Int) s1.2)), (14, iV r9.1), (16, iV r10.1), (22, slV Int 3 0 0 ([a.Lo, a.Hi] : List Int).length), (23, iV (([a.Lo, a.Hi] : List Int).length : Int)), (24, iV s1.2), (32, slV Int 4 0 0 ([b.Lo, b.Hi] : List Int).length), (33, iV (([b.Lo, b.Hi] : List Int).length : Int)), (34, iV s5.2), (57, bV z11)] (lblks 0 [boxB (α := Bound) true b, boxB (α := Bound) true (Bound.mk 0 0 false), arrB (α := Int) 31 0 true s5.1, arrB (α := Int) 31 0 true ([a.Lo, a.Hi] : List Int), arrB (α := Int) 31 0 true ([b.Lo, b.Hi] : List Int)]) 5) hR (fun o11 hR => ?_) fun z11 hR => ?_))))))))
     ·refine AWP.rgC 117 rfl rfl (pS rfl (pS rfl (pS rfl (brR hR (fun h12 hR => ?_) fun h12 hR => ?_))))
      ·refine sk (skW rfl rfl rfl h12) (sk (skW rfl rfl rfl h12) (pkT (v := bV true) rfl rfl h12 rfl (RunC.fin ?_)))
       have hR := Option.some.inj hR; subst hR
       exact Weak.turnL [(0, 0), (1, 0), (2, 0), (3, 0), (4, 0)] [] rfl rfl (tc (.fn (.cons (.rp (Cl.tr _ _ _ _ id) (Cl.leaf _ _)) (.nil))) (tc (.fn (.cons (.rp (Cl.tr _ _ _ _ id) (Cl.leaf _ _)) (.nil))) (tc (trP' rfl rfl rfl rfl) (tc (trP' rfl rfl rfl rfl) (tc (trS' rfl rfl rfl rfl rfl) (tc (.sc _) (tc (.sc _) (tc (.sc _) (tc (trS' rfl rfl rfl rfl rfl) (tc (.sc _) (tc (.sc _) (tc (trS' rfl rfl rfl rfl rfl) (tc (.sc _) (tc (.sc _) (tc (.sc _) tn))))))))))))))) (mc rfl (.box rfl .z3 rfl) (mc rfl (.box rfl .z3 rfl) (mc rfl (btrA' rfl) (mc rfl (btrA' rfl) (mc rfl (btrA' rfl) mn)))))
      ·refine pu (v := .sc _) (wtG rfl rfl rfl h12) rfl (fun _ => rfl) (pu (v := .sc _) (wtG rfl rfl rfl h12) rfl (fun _ => rfl) (pkF (v := bV (r10.2 != 0)) rfl rfl h12 rfl (RunC.fin ?_)))
       have hR := Option.some.inj hR; subst hR
       exact Weak.turnL [(0, 0), (1, 0), (2, 0), (3, 0), (4, 0)] [] rfl rfl (tc (.fn (.cons (.rp (Cl.tr _ _ _ _ id) (Cl.leaf _ _)) (.nil))) (tc (.fn (.cons (.rp (Cl.tr _ _ _ _ id) (Cl.leaf _ _)) (.nil))) (tc (trP' rfl rfl rfl rfl) (tc (trP' rfl rfl rfl rfl) (tc (trS' rfl rfl rfl rfl rfl) (tc (.sc _) (tc (.sc _) (tc (.sc _) (tc (trS' rfl rfl rfl rfl rfl) (tc (.sc _) (tc (.sc _) (tc (trS' rfl rfl rfl rfl rfl) (tc (.sc _) (tc (.sc _) (tc (.sc _) tn))))))))))))))) (mc rfl (.box rfl .z3 rfl) (mc rfl (.box rfl .z3 rfl) (mc rfl (btrA' rfl) (mc rfl (btrA' rfl) (mc rfl (btrA' rfl) mn)))))
     ·refine AWP.cd hR rfl (fun h13 hR => ?_) fun h13 hR => ?_
      ·refine AWP.sq (AWP.rgC 13 rfl rfl ?_)
       obtain ⟨r14, hr14, hR⟩ := bindE hR
       refine cls [] rfl rfl cb45 (ok45 _ hr14) (.nil) (.inr rfl) rfl (stB (cs' := [iV r14.Lo, iV r14.Hi, bV r14.Unknown]) rfl rfl rfl rfl ti33 rfl rfl rfl rfl rfl (RunC.fin (AWP.ret (rtT (rtB (rtT (rtT (rtB (rtT ?_)))))))))
       replace hR := escL hR hE5
       refine rtB (rtT (rtT (rtB (rtT ?_))))
       replace hR := escL hR hE1
       refine rtT ?_
       have hR := Option.some.inj hR; subst hR
       exact hQ _ _ (LS.mk [(8, .ptr 0 0 0)] (lblks 0 [boxB (α := Bound) true r14]) 1) (aggV (α := Bound) true r14) [] (.inr rfl) (Weak.turnL [(1, 0)] [] rfl rfl (tc (trP' rfl rfl rfl rfl) tn) (mc rfl (.box rfl .z3 rfl) mn)) (ro1 (rvC (v := aggV (α := Bound) true r14) rfl rfl ti33 rfl)) rfl rfl ldA pn
      ·refine AWP.skip (skT (AWP.rgC 29 rfl rfl (pu (v := slV Int _ _ _ _) rfl rfl (fun _ => rfl) (pS rfl (pS rfl (bs (α := Int) 17 true ([r9.1, r10.1] : List Int) rfl rfl ti149 rfl ti31 rfl rfl rfl rfl rfl ?_))))))
       obtain ⟨h15, hR⟩ := chkE hR
       refine ap' (α := Int) (nw := true) (xs := s5.1) (ys := ([r9.1, r10.1] : List Int)) rfl rfl rfl rfl (srcS' rfl rfl rfl) ti149 rfl ti31 rfl h15 rfl ?_
       refine pu (v := slV Int _ _ _ _) rfl rfl (fun _ => rfl) (RunC.blk (RunC.fin (AWP.rgC 37 rfl rfl (pS rfl (pS rfl (RunC.fin (⟨(s5.1 ++ ([r9.1, r10.1] : List Int), w6 (s5.2 + 1)), (Option.some.inj hR).symm, ?_⟩)))))))
       exact Weak.turnL [(0, 0), (1, 0), (2, 0), (3, 0), (4, 0)] [] rfl rfl (tc (.fn (.cons (.rp (Cl.tr _ _ _ _ id) (Cl.leaf _ _)) (.nil))) (tc (.fn (.cons (.rp (Cl.tr _ _ _ _ id) (Cl.leaf _ _)) (.nil))) (tc (trP' rfl rfl rfl rfl) (tc (trP' rfl rfl rfl rfl) (tc (trS' rfl rfl rfl rfl rfl) (tc (.sc _) (tc (trS' rfl rfl rfl rfl rfl) (tc (.sc _) (tc (.sc _) (tc (trS' rfl rfl rfl rfl rfl) (tc (.sc _) (tc (.sc _) tn)))))))))))) (mc rfl (.box rfl .z3 rfl) (mc rfl (.box rfl .z3 rfl) (mc rfl (btrA' rfl) (mc rfl (btrA' rfl) (mc rfl (btrA' rfl) mn)))))
    ·refine AWP.exit (exT (exT (exH (skT (⟨s5.1, (Option.some.inj hR).symm, ?_⟩)))))
     exact Weak.turnL [(0, 0), (1, 0), (2, 0), (3, 0)] [] rfl rfl (tc (.fn (.cons (.rp (Cl.tr _ _ _ _ id) (Cl.leaf _ _)) (.nil))) (tc (.fn (.cons (.rp (Cl.tr _ _ _ _ id) (Cl.leaf _ _)) (.nil))) (tc (trP' rfl rfl rfl rfl) (tc (trP' rfl rfl rfl rfl) (tc (trS' rfl rfl rfl rfl rfl) (tc (trS' rfl rfl rfl rfl rfl) (tc (.sc _) (tc (.sc _) tn)))))))) (mc rfl (.box rfl .z3 rfl) (mc rfl (.box rfl .z3 rfl) (mc rfl (btrA' rfl) (mc rfl (btrA' rfl) mn))))
   ·refine skB ?_
    refine skT (AWP.rgC 12 rfl rfl (pS rfl (pS rfl (RunC.fin (⟨(z6, w6 (s1.2 + 1)), (Option.some.inj hR).symm, ?_⟩)))))
    exact Weak.turnL [(0, 0), (1, 0), (2, 0), (3, 0)] [] rfl rfl (tc (.fn (.cons (.rp (Cl.tr _ _ _ _ id) (Cl.leaf _ _)) (.nil))) (tc (.fn (.cons (.rp (Cl.tr _ _ _ _ id) (Cl.leaf _ _)) (.nil))) (tc (trP' rfl rfl rfl rfl) (tc (trP' rfl rfl rfl rfl) (tc (trS' rfl rfl rfl rfl rfl) (tc (trS' rfl rfl rfl rfl rfl) (tc (.sc _) (tc (.sc _) tn)))))))) (mc rfl (.box rfl .z3 rfl) (mc rfl (.box rfl .z3 rfl) (mc rfl (btrA' rfl) (mc rfl (btrA' rfl) mn))))
  ·refine AWP.exit (exT (exT (exH (skT (⟨s1.1, (Option.some.inj hR).symm, ?_⟩)))))
   exact Weak.turnL [(1, 0), (2, 0)] [] rfl rfl (tc (trP' rfl rfl rfl rfl) (tc (trS' rfl rfl rfl rfl rfl) tn)) (mc rfl (.box rfl .z3 rfl) (mc rfl (btrA' rfl) mn))
 ·refine skT (AWP.sq (AWP.rgC 26 rfl rfl (pu (v := slV Int _ _ _ _) rfl rfl (fun _ => rfl) ?_)))
  obtain ⟨r16, hr16, hR⟩ := bindE hR
  refine cls [1] rfl rfl cb95 (ok95 z2 _ hr16) (.cons (ldS' rfl rfl rfl rfl) (.nil)) (.inl (by first | rfl | exact freshR | exact freshA | (simp only [V.fresh, V.freshs, freshR, freshA, Bool.and_self]))) rfl (pu (v := slV Int _ _ _ _) rfl rfl (fun _ => rfl) ?_)
  obtain ⟨r17, hr17, hR⟩ := bindE hR
  refine cls [1] rfl rfl cb96 (ok96 z2 _ hr17) (.cons (ldS' rfl rfl rfl rfl) (.nil)) (.inl (by first | rfl | exact freshR | exact freshA | (simp only [V.fresh, V.freshs, freshR, freshA, Bool.and_self]))) rfl ?_
  obtain ⟨r18, hr18, hR⟩ := bindE hR
  refine cls [] rfl rfl cb68 (ok68 r16 r17 _ hr18) .z2 (.inr rfl) rfl (stB (cs' := [iV r18.Lo, iV r18.Hi, bV r18.Unknown]) rfl rfl rfl rfl ti33 rfl rfl rfl rfl rfl (RunC.fin (AWP.ret ?_)))
  have hR := Option.some.inj hR; subst hR
  exact hQ _ _ (LS.mk [(8, .ptr 0 0 0)] (lblks 0 [boxB (α := Bound) true r18]) 1) (aggV (α := Bound) true r18) [] (.inr rfl) (Weak.turnL [(0, 0)] [] rfl rfl (tc (trP' rfl rfl rfl rfl) tn) (mc rfl (.box rfl .z3 rfl) mn)) (ro1 (rvC (v := aggV (α := Bound) true r18) rfl rfl ti33 rfl)) rfl rfl ldA pn
theorem ok65 (a : Bound) (b : Bound) (unit : Int) (r : Bound) (hR : bound_Div a b unit = some r) : FnP Tryz.prog 65 [aggV false a, aggV false b, .sc (.int .i64 unit)] (aggV (α := Bound) true r) := by
 refine fnP_of (FnX.walk Tryz.func65 rfl 37 0 (by simp [Tryz.ntmps65]) rfl fun W S F Q hQ => ?_)
 unfold bound_Div at hR
 refine AWP.sq (AWP.rgC 16 rfl rfl (bx (cs := _) 0 rfl rfl rfl (bx (cs := _) 4 rfl rfl rfl (bx (cs := [iV unit]) 8 rfl rfl rfl (al (cs := [iV 0, iV 0, bV false]) 12 rfl rfl ti33 rfl rfl (RunC.fin (AWP.sq (AWP.joinX (fun z1 : Bool => LS.mk [(3, .ptr 0 0 0), (4, .ptr 1 0 0), (5, .ptr 2 0 0), (6, .ptr 3 0 0), (23, bV z1)] (lblks 0 [boxB (α := Bound) true a, boxB (α := Bound) true b, boxB (α := Int) true unit, boxB (α := Bound) true (Bound.mk 0 0 false)]) 4) hR (fun o1 hR => ?_) fun z1 hR => ?_))))))))
 ·refine AWP.rgC 84 rfl rfl (ldB (v := .agg _) rfl rfl rfl rfl ti33 rfl rfl (ldB (v := .agg _) rfl rfl rfl rfl ti33 rfl rfl ?_))
  obtain ⟨r2, hr2, hR⟩ := bindE hR
  refine cls [] rfl rfl cb67 (ok67 a b _ hr2) (.cons (.agg .z3 rfl) (.cons (.agg .z3 rfl) (.nil))) (.inr rfl) rfl (pS rfl (brR hR (fun h3 hR => ?_) fun h3 hR => ?_))
  ·refine sk (skW rfl rfl rfl h3) (sk (skW rfl rfl rfl h3) (pkT (v := bV true) rfl rfl h3 rfl (pS rfl (sk (skW rfl rfl rfl rfl) (sk (skW rfl rfl rfl rfl) (sk (skW rfl rfl rfl rfl) (sk (skW rfl rfl rfl rfl) (sk (skW2 rfl rfl rfl) (sk (skW2 rfl rfl rfl) (sk (skW2 rfl rfl rfl) (sk (skW rfl rfl rfl rfl) (pkT (v := bV true) rfl rfl rfl rfl (RunC.fin ?_)))))))))))))
   have hR := Option.some.inj hR; subst hR
   exact Weak.turnL [(0, 0), (4, 0), (8, 0), (12, 0)] [] rfl rfl (tc (trP' rfl rfl rfl rfl) (tc (trP' rfl rfl rfl rfl) (tc (trP' rfl rfl rfl rfl) (tc (trP' rfl rfl rfl rfl) (tc (.sc _) tn))))) (mc rfl (.box rfl .z3 rfl) (mc rfl (.box rfl .z3 rfl) (mc rfl (.box rfl (.cons (.sc _) .nil) rfl) (mc rfl (.box rfl .z3 rfl) mn))))
  ·refine ldB (v := .sc _) (wtG rfl rfl rfl h3) rfl rfl rfl ti2 rfl rfl (pu (v := .sc _) (wtG rfl rfl rfl h3) rfl (fun _ => rfl) (pkF (v := bV (decide (unit < 1))) rfl rfl h3 rfl (pS rfl (brR hR (fun h4 hR => ?_) fun h4 hR => ?_))))
   ·refine sk (skW rfl rfl rfl h4) (sk (skW rfl rfl rfl h4) (sk (skW rfl rfl rfl h4) (sk (skW rfl rfl rfl h4) (sk (skW2 rfl rfl rfl) (sk (skW2 rfl rfl rfl) (sk (skW2 rfl rfl rfl) (sk (skW rfl rfl rfl h4) (pkT (v := bV true) rfl rfl h4 rfl (RunC.fin ?_)))))))))
    have hR := Option.some.inj hR; subst hR
    exact Weak.turnL [(0, 0), (4, 0), (8, 0), (12, 0)] [] rfl rfl (tc (trP' rfl rfl rfl rfl) (tc (trP' rfl rfl rfl rfl) (tc (trP' rfl rfl rfl rfl) (tc (trP' rfl rfl rfl rfl) (tc (.sc _) tn))))) (mc rfl (.box rfl .z3 rfl) (mc rfl (.box rfl .z3 rfl) (mc rfl (.box rfl (.cons (.sc _) .nil) rfl) (mc rfl (.box rfl .z3 rfl) mn))))
   ·refine fa (wtG rfl rfl rfl h4) rfl ti33 rfl rfl ti31 rfl (ldB (v := .sc _) (wtG rfl rfl rfl h4) rfl rfl rfl ti31 rfl rfl (pu (v := .sc _) (wtG rfl rfl rfl h4) rfl (fun _ => rfl) (pu (v := .sc _) (wtG rfl rfl rfl h4) rfl (fun _ => rfl) (brR hR (fun h5 hR => ?_) fun h5 hR => ?_))))
    ·refine fa (wtG rfl rfl rfl h5) rfl ti33 rfl rfl ti31 rfl (ldB (v := .sc _) (wtG rfl rfl rfl h5) rfl rfl rfl ti31 rfl rfl (pu (v := .sc _) (wtG rfl rfl rfl h5) rfl (fun _ => rfl) (pkT (v := bV (decide (b.Hi ≥ 0))) (wtG rfl rfl rfl h4) rfl h5 rfl (pkF (v := bV (decide (b.Hi ≥ 0))) rfl rfl h4 rfl (RunC.fin ?_)))))
     have hR := Option.some.inj hR; subst hR
     exact Weak.turnL [(0, 0), (4, 0), (8, 0), (12, 0)] [] rfl rfl (tc (trP' rfl rfl rfl rfl) (tc (trP' rfl rfl rfl rfl) (tc (trP' rfl rfl rfl rfl) (tc (trP' rfl rfl rfl rfl) (tc (.sc _) tn))))) (mc rfl (.box rfl .z3 rfl) (mc rfl (.box rfl .z3 rfl) (mc rfl (.box rfl (.cons (.sc _) .nil) rfl) (mc rfl (.box rfl .z3 rfl) mn))))
    ·refine sk (skW rfl rfl rfl h5) (sk (skW rfl rfl rfl h5) (sk (skW rfl rfl rfl h5) (pkF (v := bV false) (wtG rfl rfl rfl h4) rfl h5 rfl (pkF (v := bV false) rfl rfl h4 rfl (RunC.fin ?_)))))
     have hR := Option.some.inj hR; subst hR
     exact Weak.turnL [(0, 0), (4, 0), (8, 0), (12, 0)] [] rfl rfl (tc (trP' rfl rfl rfl rfl) (tc (trP' rfl rfl rfl rfl) (tc (trP' rfl rfl rfl rfl) (tc (trP' rfl rfl rfl rfl) (tc (.sc _) tn))))) (mc rfl (.box rfl .z3 rfl) (mc rfl (.box rfl .z3 rfl) (mc rfl (.box rfl (.cons (.sc _) .nil) rfl) (mc rfl (.box rfl .z3 rfl) mn))))
 ·refine AWP.cd hR rfl (fun h6 hR => ?_) fun h6 hR => ?_
  ·refine AWP.sq (AWP.rgC 12 rfl rfl ?_)
   obtain ⟨r7, hr7, hR⟩ := bindE hR
   refine cls [] rfl rfl cb45 (ok45 _ hr7) (.nil) (.inr rfl) rfl (stB (cs' := [iV r7.Lo, iV r7.Hi, bV r7.Unknown]) rfl rfl rfl rfl ti33 rfl rfl rfl rfl rfl (RunC.fin (AWP.ret (rtT ?_))))
   have hR := Option.some.inj hR; subst hR
   exact hQ _ _ (LS.mk [(6, .ptr 0 0 0)] (lblks 0 [boxB (α := Bound) true r7]) 1) (aggV (α := Bound) true r7) [] (.inr rfl) (Weak.turnL [(3, 0)] [] rfl rfl (tc (trP' rfl rfl rfl rfl) tn) (mc rfl (.box rfl .z3 rfl) mn)) (ro1 (rvC (v := aggV (α := Bound) true r7) rfl rfl ti33 rfl)) rfl rfl ldA pn
  ·refine AWP.skip (skT (AWP.sq (AWP.sq (AWP.rgC 16 rfl rfl (fa rfl rfl ti33 rfl rfl ti31 rfl (ldB (v := .sc _) rfl rfl rfl rfl ti31 rfl rfl (pS rfl (RunC.fin (AWP.cd hR rfl (fun h8 hR => ?_) fun h8 hR => ?_)))))))))
   ·refine AWP.rgD 40 [0, 1, 0, 7, 15, 31] ⟨[], [some [0], none, some [1], none, some [0], some [1]]⟩ hmix (by kernel_rfl) rfl rfl ?_
    refine ldB (v := .agg _) rfl rfl rfl rfl ti33 rfl rfl ?_
    obtain ⟨r9, hr9, hR⟩ := bindE hR
    refine cls [] rfl rfl cb62 (ok62 a _ hr9) (.cons (.agg .z3 rfl) (.nil)) (.inr rfl) rfl (ldB (v := .agg _) rfl rfl rfl rfl ti33 rfl rfl ?_)
    obtain ⟨r10, hr10, hR⟩ := bindE hR
    refine cls [] rfl rfl cb62 (ok62 b _ hr10) (.cons (.agg .z3 rfl) (.nil)) (.inr rfl) rfl (stB (cs' := [iV r9.Lo, iV r9.Hi, bV r9.Unknown]) rfl rfl rfl rfl ti33 rfl rfl rfl rfl rfl (stB (cs' := [iV r10.Lo, iV r10.Hi, bV r10.Unknown]) rfl rfl rfl rfl ti33 rfl rfl rfl rfl rfl (RunC.fin (AWP.sq (AWP.rgC 64 rfl rfl (ldB (v := .agg _) rfl rfl rfl rfl ti33 rfl rfl (ldB (v := .agg _) rfl rfl rfl rfl ti33 rfl rfl (pu (v := .fn _ _) rfl rfl (fun _ => rfl) (pu (v := .fn _ _) rfl rfl (fun _ => rfl) ?_)))))))))
    obtain ⟨r11, hr11, hR⟩ := bindE hR
    refine cls [2] rfl rfl cb79 (ok79_84 r9 r10 unit unit _ hr11) (.cons (.agg .z3 rfl) (.cons (.agg .z3 rfl) (.cons (.fn (.cons (ldX rfl rfl (.cons (.sc _) .nil) rfl) (.nil))) (.cons (.fn (.cons (ldX rfl rfl (.cons (.sc _) .nil) rfl) (.nil))) (.nil))))) (.inl (by first | rfl | exact freshR | exact freshA | (simp only [V.fresh, V.freshs, freshR, freshA, Bool.and_self]))) rfl (stB (cs' := [iV r11.Lo, iV r11.Hi, bV r11.Unknown]) rfl rfl rfl rfl ti33 rfl rfl rfl rfl rfl (RunC.fin (AWP.ret ?_)))
    have hR := Option.some.inj hR; subst hR
    exact hQ _ _ (LS.mk [(6, .ptr 0 0 0)] (lblks 0 [boxB (α := Bound) true r11]) 1) (aggV (α := Bound) true r11) [] (.inr rfl) (Weak.turnL [(3, 0)] [] rfl rfl (tc (trP' rfl rfl rfl rfl) tn) (mc rfl (.box rfl .z3 rfl) mn)) (ro1 (rvC (v := aggV (α := Bound) true r11) rfl rfl ti33 rfl)) rfl rfl ldA pn
   ·refine AWP.skip (skT (AWP.sq (AWP.rgC 40 rfl rfl (ldB (v := .agg _) rfl rfl rfl rfl ti33 rfl rfl (ldB (v := .agg _) rfl rfl rfl rfl ti33 rfl rfl (pu (v := .fn _ _) rfl rfl (fun _ => rfl) (pu (v := .fn _ _) rfl rfl (fun _ => rfl) ?_)))))))
    obtain ⟨r12, hr12, hR⟩ := bindE hR
    refine cls [2] rfl rfl cb79 (ok79_84 a b unit unit _ hr12) (.cons (.agg .z3 rfl) (.cons (.agg .z3 rfl) (.cons (.fn (.cons (ldX rfl rfl (.cons (.sc _) .nil) rfl) (.nil))) (.cons (.fn (.cons (ldX rfl rfl (.cons (.sc _) .nil) rfl) (.nil))) (.nil))))) (.inl (by first | rfl | exact freshR | exact freshA | (simp only [V.fresh, V.freshs, freshR, freshA, Bool.and_self]))) rfl (stB (cs' := [iV r12.Lo, iV r12.Hi, bV r12.Unknown]) rfl rfl rfl rfl ti33 rfl rfl rfl rfl rfl (RunC.fin (AWP.ret ?_)))
    have hR := Option.some.inj hR; subst hR
    exact hQ _ _ (LS.mk [(6, .ptr 0 0 0)] (lblks 0 [boxB (α := Bound) true r12]) 1) (aggV (α := Bound) true r12) [] (.inr rfl) (Weak.turnL [(3, 0)] [] rfl rfl (tc (trP' rfl rfl rfl rfl) tn) (mc rfl (.box rfl .z3 rfl) mn)) (ro1 (rvC (v := aggV (α := Bound) true r12) rfl rfl ti33 rfl)) rfl rfl ldA pn
theorem ok66 (a : Bound) (b : Bound) (r : Bound × Bool) (hR : bound_Meet a b = some r) : FnP Tryz.prog 66 [aggV false a, aggV false b] (.tup [aggV (α := Bound) true r.1, .sc (.bool r.2)]) := by
 refine fnP_of (FnX.walk Tryz.func66 rfl 42 0 (by simp [Tryz.ntmps66]) rfl fun W S F Q hQ => ?_)
 unfold bound_Meet at hR
 refine AWP.sq (AWP.rgC 16 rfl rfl (bx (cs := _) 0 rfl rfl rfl (bx (cs := _) 4 rfl rfl rfl (al (cs := [iV 0, iV 0, bV false]) 8 rfl rfl ti33 rfl rfl (pS rfl (RunC.fin (AWP.sq (AWP.rgD 40 [0, 1, 0, 7, 15, 31] ⟨[], [some [0], none, some [4], none, some [0], some [4]]⟩ hmix (by kernel_rfl) rfl rfl ?_))))))))
 refine ldB (v := .agg _) rfl rfl rfl rfl ti33 rfl rfl ?_
 obtain ⟨r1, hr1, hR⟩ := bindE hR
 refine cls [] rfl rfl cb86 (ok86 a _ hr1) (.cons (.agg .z3 rfl) (.nil)) (.inr rfl) rfl (ldB (v := .agg _) rfl rfl rfl rfl ti33 rfl rfl ?_)
 obtain ⟨r2, hr2, hR⟩ := bindE hR
 refine cls [] rfl rfl cb86 (ok86 b _ hr2) (.cons (.agg .z3 rfl) (.nil)) (.inr rfl) rfl (stB (cs' := [iV r1.Lo, iV r1.Hi, bV r1.Unknown]) rfl rfl rfl rfl ti33 rfl rfl rfl rfl rfl (stB (cs' := [iV r2.Lo, iV r2.Hi, bV r2.Unknown]) rfl rfl rfl rfl ti33 rfl rfl rfl rfl rfl (RunC.fin (AWP.sq (AWP.block (AWP.sq (AWP.rgC 52 rfl rfl (fa rfl rfl ti33 rfl rfl ti4 rfl (ldB (v := .sc _) rfl rfl rfl rfl ti4 rfl rfl (pS rfl (RunC.fin (AWP.cd hR rfl (fun h3 hR => ?_) fun h3 hR => ?_))))))))))))
 ·refine AWP.sq (AWP.rgC 64 rfl rfl (ldB (v := .agg _) rfl rfl rfl rfl ti33 rfl rfl (stB (cs' := [iV r2.Lo, iV r2.Hi, bV r2.Unknown]) rfl rfl rfl rfl ti33 rfl rfl rfl rfl rfl (pS rfl (RunC.fin (AWP.ret (rtB (rtT ?_))))))))
  have hR := Option.some.inj hR; subst hR
  exact hQ _ _ (LS.mk [(4, .ptr 0 0 0), (5, bV true)] (lblks 0 [boxB (α := Bound) true r2]) 1) (.tup [aggV (α := Bound) true r2, bV true]) [] (.inr rfl) (Weak.turnL [(8, 0)] [] rfl rfl (tc (trP' rfl rfl rfl rfl) (tc (.sc _) tn)) (mc rfl (.box rfl .z3 rfl) mn)) (ro2 (rvC (v := aggV (α := Bound) true r2) rfl rfl ti33 rfl) (rvT (v := bV true) rfl)) rfl rfl (.tup (.cons ldA (.cons (.sc _) .nil))) pn
 ·refine AWP.sq (AWP.rgC 64 rfl rfl (fa rfl rfl ti33 rfl rfl ti4 rfl (ldB (v := .sc _) rfl rfl rfl rfl ti4 rfl rfl (pS rfl (RunC.fin (AWP.cd hR rfl (fun h4 hR => ?_) fun h4 hR => ?_))))))
  ·refine AWP.sq (AWP.rgC 76 rfl rfl (ldB (v := .agg _) rfl rfl rfl rfl ti33 rfl rfl (stB (cs' := [iV r1.Lo, iV r1.Hi, bV r1.Unknown]) rfl rfl rfl rfl ti33 rfl rfl rfl rfl rfl (pS rfl (RunC.fin (AWP.ret (rtB (rtT ?_))))))))
   have hR := Option.some.inj hR; subst hR
   exact hQ _ _ (LS.mk [(4, .ptr 0 0 0), (5, bV true)] (lblks 0 [boxB (α := Bound) true r1]) 1) (.tup [aggV (α := Bound) true r1, bV true]) [] (.inr rfl) (Weak.turnL [(8, 0)] [] rfl rfl (tc (trP' rfl rfl rfl rfl) (tc (.sc _) tn)) (mc rfl (.box rfl .z3 rfl) mn)) (ro2 (rvC (v := aggV (α := Bound) true r1) rfl rfl ti33 rfl) (rvT (v := bV true) rfl)) rfl rfl (.tup (.cons ldA (.cons (.sc _) .nil))) pn
  ·refine AWP.sq (AWP.rgC 112 rfl rfl (fa rfl rfl ti33 rfl rfl ti31 rfl (ldB (v := .sc _) rfl rfl rfl rfl ti31 rfl rfl (fa rfl rfl ti33 rfl rfl ti31 rfl (ldB (v := .sc _) rfl rfl rfl rfl ti31 rfl rfl (pS rfl (fa rfl rfl ti33 rfl rfl ti31 rfl (ldB (v := .sc _) rfl rfl rfl rfl ti31 rfl rfl (fa rfl rfl ti33 rfl rfl ti31 rfl (ldB (v := .sc _) rfl rfl rfl rfl ti31 rfl rfl (pS rfl (pS rfl (pS rfl (RunC.fin (AWP.cd hR rfl (fun h5 hR => ?_) fun h5 hR => ?_)))))))))))))))
   ·refine AWP.sq (AWP.rgC 124 rfl rfl (bu (cs := [iV 0, iV 0, bV false]) rfl bt33 rfl (stB (cs' := [iV 0, iV 0, bV false]) rfl rfl rfl rfl ti33 rfl rfl rfl rfl rfl (pS rfl (RunC.fin (AWP.ret (rtB (rtT ?_))))))))
    have hR := Option.some.inj hR; subst hR
    exact hQ _ _ (LS.mk [(4, .ptr 0 0 0), (5, bV false)] (lblks 0 [boxB (α := Bound) true (Bound.mk 0 0 false)]) 1) (.tup [aggV (α := Bound) true (Bound.mk 0 0 false), bV false]) [] (.inr rfl) (Weak.turnL [(8, 0)] [] rfl rfl (tc (trP' rfl rfl rfl rfl) (tc (.sc _) tn)) (mc rfl (.box rfl .z3 rfl) mn)) (ro2 (rvC (v := aggV (α := Bound) true (Bound.mk 0 0 false)) rfl rfl ti33 rfl) (rvT (v := bV false) rfl)) rfl rfl (.tup (.cons ldA (.cons (.sc _) .nil))) pn
   ·refine AWP.skip (skB ?_)
    refine skT (AWP.sq (AWP.rgC 164 rfl rfl (fa rfl rfl ti33 rfl rfl ti31 rfl (ldB (v := .sc _) rfl rfl rfl rfl ti31 rfl rfl (fa rfl rfl ti33 rfl rfl ti31 rfl (ldB (v := .sc _) rfl rfl rfl rfl ti31 rfl rfl (pS rfl (fa rfl rfl ti33 rfl rfl ti31 rfl (ldB (v := .sc _) rfl rfl rfl rfl ti31 rfl rfl (fa rfl rfl ti33 rfl rfl ti31 rfl (ldB (v := .sc _) rfl rfl rfl rfl ti31 rfl rfl (pS rfl ?_))))))))))))
    obtain ⟨r6, hr6, hR⟩ := bindE hR
    refine cls [] rfl rfl cb68 (ok68 (mx2 r1.Lo r2.Lo) (mn2 r1.Hi r2.Hi) _ hr6) .z2 (.inr rfl) rfl (stB (cs' := [iV r6.Lo, iV r6.Hi, bV r6.Unknown]) rfl rfl rfl rfl ti33 rfl rfl rfl rfl rfl (pS rfl (RunC.fin (AWP.ret ?_))))
    have hR := Option.some.inj hR; subst hR
    exact hQ _ _ (LS.mk [(4, .ptr 0 0 0), (5, bV true)] (lblks 0 [boxB (α := Bound) true r6]) 1) (.tup [aggV (α := Bound) true r6, bV true]) [] (.inr rfl) (Weak.turnL [(8, 0)] [] rfl rfl (tc (trP' rfl rfl rfl rfl) (tc (.sc _) tn)) (mc rfl (.box rfl .z3 rfl) mn)) (ro2 (rvC (v := aggV (α := Bound) true r6) rfl rfl ti33 rfl) (rvT (v := bV true) rfl)) rfl rfl (.tup (.cons ldA (.cons (.sc _) .nil))) pn
theorem ok44 (b : Box) (r : (Bound × Bound × Bound) × Bool) (hR : arc_Ray b = some r) : FnP Tryz.prog 44 [aggV false b] (.tup [aggV (α := Bound × Bound × Bound) true r.1, .sc (.bool r.2)]) := by
 refine fnP_of (FnX.walk Tryz.func44 rfl 44 0 (by simp [Tryz.ntmps44]) rfl fun W S F Q hQ => ?_)
 unfold arc_Ray at hR
 refine AWP.sq (AWP.rgC 12 rfl rfl (bx (cs := _) 0 rfl rfl rfl (al (cs := [iV 0, iV 0, bV false, iV 0, iV 0, bV false, iV 0, iV 0, bV false]) 4 rfl rfl ti83 rfl rfl (pS rfl (RunC.fin (AWP.sq (AWP.rgC 48 rfl rfl (fa rfl rfl ti35 rfl rfl ti33 rfl (ldB (v := .agg _) rfl rfl rfl rfl ti33 rfl rfl (fa rfl rfl ti35 rfl rfl ti33 rfl (ldB (v := .agg _) rfl rfl rfl rfl ti33 rfl rfl (fa rfl rfl ti35 rfl rfl ti33 rfl (ldB (v := .agg _) rfl rfl rfl rfl ti33 rfl rfl (buA (cs := [iV b.X.Lo, iV b.X.Hi, bV b.X.Unknown, iV b.Y.Lo, iV b.Y.Hi, bV b.Y.Unknown, iV b.Z.Lo, iV b.Z.Hi, bV b.Z.Unknown]) rfl ti83 rfl ti33 rfl rfl ?_))))))))))))))
 refine al (cs := [iV 0, iV 0, bV false, iV 0, iV 0, bV false, iV 0, iV 0, bV false]) 40 rfl rfl ti83 rfl rfl (stB (cs' := [iV b.X.Lo, iV b.X.Hi, bV b.X.Unknown, iV b.Y.Lo, iV b.Y.Hi, bV b.Y.Unknown, iV b.Z.Lo, iV b.Z.Hi, bV b.Z.Unknown]) rfl rfl rfl rfl ti83 rfl rfl rfl rfl rfl (RunC.fin (AWP.sq (AWP.rgC 68 rfl rfl (ldB (v := .agg _) rfl rfl rfl rfl ti83 rfl rfl ?_)))))
 obtain ⟨r1, hr1, hR⟩ := bindE hR
 refine cls [] rfl rfl cb64 (ok64 (b.X, b.Y, b.Z) _ hr1) (.cons (.agg .z9 rfl) (.nil)) (.inr rfl) rfl ?_
 obtain ⟨r2, hr2, hR⟩ := bindE hR
 refine cls [] rfl rfl cb63 (ok63 r1 1099511627776 _ hr2) (.cons (.agg .z3 rfl) (.cons (.sc _) .nil)) (.inr rfl) rfl (al (cs := [iV 0, iV 0, bV false]) 60 rfl rfl ti33 rfl rfl (stB (cs' := [iV r2.Lo, iV r2.Hi, bV r2.Unknown]) rfl rfl rfl rfl ti33 rfl rfl rfl rfl rfl (RunC.fin (AWP.sq (AWP.joinX (fun z3 : Bool => LS.mk [(2, .ptr 0 0 0), (4, .ptr 1 0 0), (5, .ptr 2 0 0), (24, bV z3)] (lblks 0 [boxB (α := Bound × Bound × Bound) true (Bound.mk 0 0 false, Bound.mk 0 0 false, Bound.mk 0 0 false), boxB (α := Bound × Bound × Bound) true (b.X, b.Y, b.Z), boxB (α := Bound) true r2]) 3) hR (fun o3 hR => ?_) fun z3 hR => ?_)))))
 ·refine AWP.rgC 96 rfl rfl (fa rfl rfl ti33 rfl rfl ti4 rfl (ldB (v := .sc _) rfl rfl rfl rfl ti4 rfl rfl (pS rfl (brR hR (fun h4 hR => ?_) fun h4 hR => ?_))))
  ·refine sk (skW rfl rfl rfl h4) (sk (skW rfl rfl rfl h4) (sk (skW rfl rfl rfl h4) (pkT (v := bV true) rfl rfl h4 rfl (RunC.fin ?_))))
   have hR := Option.some.inj hR; subst hR
   exact Weak.turnL [(4, 0), (40, 0), (60, 0)] [] rfl rfl (tc (trP' rfl rfl rfl rfl) (tc (trP' rfl rfl rfl rfl) (tc (trP' rfl rfl rfl rfl) (tc (.sc _) tn)))) (mc rfl (.box rfl .z9 rfl) (mc rfl (.box rfl .z9 rfl) (mc rfl (.box rfl .z3 rfl) mn)))
  ·refine fa (wtG rfl rfl rfl h4) rfl ti33 rfl rfl ti31 rfl (ldB (v := .sc _) (wtG rfl rfl rfl h4) rfl rfl rfl ti31 rfl rfl (pu (v := .sc _) (wtG rfl rfl rfl h4) rfl (fun _ => rfl) (pkF (v := bV (r2.Lo == 0)) rfl rfl h4 rfl (RunC.fin ?_))))
   have hR := Option.some.inj hR; subst hR
   exact Weak.turnL [(4, 0), (40, 0), (60, 0)] [] rfl rfl (tc (trP' rfl rfl rfl rfl) (tc (trP' rfl rfl rfl rfl) (tc (trP' rfl rfl rfl rfl) (tc (.sc _) tn)))) (mc rfl (.box rfl .z9 rfl) (mc rfl (.box rfl .z9 rfl) (mc rfl (.box rfl .z3 rfl) mn)))
 ·refine AWP.cd hR rfl (fun h5 hR => ?_) fun h5 hR => ?_
  ·refine AWP.sq (AWP.rgC 15 rfl rfl (buA (cs := [iV 0, iV 0, bV false, iV 0, iV 0, bV false, iV 0, iV 0, bV false]) rfl ti83 rfl ti33 rfl rfl ?_))
   refine stB (cs' := [iV 0, iV 0, bV false, iV 0, iV 0, bV false, iV 0, iV 0, bV false]) rfl rfl rfl rfl ti83 rfl rfl rfl rfl rfl (pS rfl (RunC.fin (AWP.ret (rtT ?_))))
   have hR := Option.some.inj hR; subst hR
   exact hQ _ _ (LS.mk [(2, .ptr 0 0 0), (3, bV false)] (lblks 0 [boxB (α := Bound × Bound × Bound) true (Bound.mk 0 0 false, Bound.mk 0 0 false, Bound.mk 0 0 false)]) 1) (.tup [aggV (α := Bound × Bound × Bound) true (Bound.mk 0 0 false, Bound.mk 0 0 false, Bound.mk 0 0 false), bV false]) [] (.inr rfl) (Weak.turnL [(0, 0)] [] rfl rfl (tc (trP' rfl rfl rfl rfl) (tc (.sc _) tn)) (mc rfl (.box rfl .z9 rfl) mn)) (ro2 (rvC (v := aggV (α := Bound × Bound × Bound) true (Bound.mk 0 0 false, Bound.mk 0 0 false, Bound.mk 0 0 false)) rfl rfl ti83 rfl) (rvT (v := bV false) rfl)) rfl rfl (.tup (.cons ldA (.cons (.sc _) .nil))) pn
  ·refine AWP.skip (skT (AWP.sq (AWP.sq (AWP.rgC 7 rfl rfl (pS rfl (RunC.fin (AWP.loopJ (fun s6 : (Bound × Bound × Bound) × Int => LS.mk [(2, .ptr 0 0 0), (4, .ptr 1 0 0), (5, .ptr 2 0 0), (26, iV s6.2)] (lblks 0 [boxB (α := Bound × Bound × Bound) true (Bound.mk 0 0 false, Bound.mk 0 0 false, Bound.mk 0 0 false), boxB (α := Bound × Bound × Bound) true s6.1, boxB (α := Bound) true r2]) 3) (fun z7 : (Bound × Bound × Bound) => LS.mk [(2, .ptr 0 0 0), (4, .ptr 1 0 0)] (lblks 0 [boxB (α := Bound × Bound × Bound) true (Bound.mk 0 0 false, Bound.mk 0 0 false, Bound.mk 0 0 false), boxB (α := Bound × Bound × Bound) true z7]) 2) (arc_Ray.l1 r2) hR (s0 := ((b.X, b.Y, b.Z), 0)) (Weak.turnL [(0, 0), (1, 0), (2, 0)] [] rfl rfl (tc (trP' rfl rfl rfl rfl) (tc (trP' rfl rfl rfl rfl) (tc (trP' rfl rfl rfl rfl) (tc (.sc _) tn)))) (mc rfl (.box rfl .z9 rfl) (mc rfl (.box rfl .z9 rfl) (mc rfl (.box rfl .z3 rfl) mn)))) (fun s6 o6 hR => ?_) fun z7 hR => ?_)))))))
   ·unfold arc_Ray.l1 at hR
    refine AWP.sq (AWP.rgC 7 rfl rfl (pS rfl (RunC.fin (AWP.sq (AWP.cd hR rfl (fun h8 hR => ?_) fun h8 hR => ?_)))))
    ·refine AWP.skip (skT (AWP.sq (AWP.block (AWP.sq (AWP.rgC 15 rfl rfl (pS rfl (pS rfl (RunC.fin (AWP.sq (AWP.rgD 43 [0, 1, 3, 0, 15, 0, 63] ⟨[], [none, none, some [1], some [2], none, none, some [35]]⟩ hmix (by kernel_rfl) rfl rfl ?_))))))))))
     refine pS rfl ?_
     obtain ⟨h9, hR⟩ := chkE hR
     refine iaP (o' := 0 + s6.2.toNat * Cl.e Bound + 0) rfl rfl rfl ti83 rfl ti33 h9 rfl (ldD (α := Bound) (nw := true) (pre := []) (post := []) (xs := ([s6.1.1, s6.1.2.1, s6.1.2.2] : List Bound)) (m := s6.2.toNat) (off := 0) (v := .agg _) rfl rfl rfl rfl rfl rfl (ixlt h9) ti33 rfl rfl rfl rfl (ldB (v := .agg _) rfl rfl rfl rfl ti33 rfl rfl ?_))
     obtain ⟨r10, hr10, hR⟩ := bindE hR
     refine cls [] rfl rfl cb65 (ok65 (gt ([s6.1.1, s6.1.2.1, s6.1.2.2] : List Bound) s6.2) r2 1125899906842624 _ hr10) (.cons (.agg .z3 rfl) (.cons (.agg .z3 rfl) (.cons (.sc _) .nil))) (.inr rfl) rfl (al (cs := [iV 0, iV 0, bV false]) 35 rfl rfl ti33 rfl rfl (stB (cs' := [iV r10.Lo, iV r10.Hi, bV r10.Unknown]) rfl rfl rfl rfl ti33 rfl rfl rfl rfl rfl (RunC.fin (AWP.rgC 79 rfl rfl (pS rfl (ldB (v := .agg _) rfl rfl rfl rfl ti33 rfl rfl (bu (cs := [iV (-1073741824), iV 1073741824, bV false]) rfl bt33 rfl ?_)))))))
     obtain ⟨r11, hr11, hR⟩ := bindE hR
     refine cls [] rfl rfl cb66 (ok66 r10 (Bound.mk (-1073741824) 1073741824 false) _ hr11) (.cons (.agg .z3 rfl) (.cons (.agg .z3 rfl) (.nil))) (.inr rfl) rfl (pu (v := .tup _) rfl rfl (fun _ => rfl) (pu (v := .agg _) rfl rfl (fun _ => rfl) (pS rfl (iaP (o' := 0 + s6.2.toNat * Cl.e Bound + 0) rfl rfl rfl ti83 rfl ti33 h9 rfl ?_))))
     obtain ⟨v12, ev12, hR⟩ := letE hR
     refine stD (α := Bound) (nw := true) (pre := []) (post := []) (xs := ([s6.1.1, s6.1.2.1, s6.1.2.2] : List Bound)) (m := s6.2.toNat) (off := 0) (ys := [gt v12 0, gt v12 1, gt v12 2]) (y := r11.1) (cs' := [iV (gt v12 0).Lo, iV (gt v12 0).Hi, bV (gt v12 0).Unknown, iV (gt v12 1).Lo, iV (gt v12 1).Hi, bV (gt v12 1).Unknown, iV (gt v12 2).Lo, iV (gt v12 2).Hi, bV (gt v12 2).Unknown]) rfl rfl rfl rfl rfl rfl (ixlt h9) ti33 rfl rfl rfl rfl (etaS ev12 rfl rfl) rfl rfl (RunC.blk (RunC.fin (AWP.rgC 87 rfl rfl (pS rfl (pS rfl (RunC.fin (⟨((gt v12 0, gt v12 1, gt v12 2), w6 (s6.2 + 1)), (Option.some.inj hR).symm, ?_⟩)))))))
     exact Weak.turnL [(0, 0), (1, 0), (2, 0)] [] rfl rfl (tc (trP' rfl rfl rfl rfl) (tc (trP' rfl rfl rfl rfl) (tc (trP' rfl rfl rfl rfl) (tc (.sc _) tn)))) (mc rfl (.box rfl .z9 rfl) (mc rfl (.box rfl .z9 rfl) (mc rfl (.box rfl .z3 rfl) mn)))
    ·refine AWP.exit (exT (exT (exH (skT (⟨s6.1, (Option.some.inj hR).symm, ?_⟩)))))
     exact Weak.turnL [(0, 0), (1, 0)] [] rfl rfl (tc (trP' rfl rfl rfl rfl) (tc (trP' rfl rfl rfl rfl) tn)) (mc rfl (.box rfl .z9 rfl) (mc rfl (.box rfl .z9 rfl) mn))
   ·refine skT (AWP.sq (AWP.rgC 14 rfl rfl (ldB (v := .agg _) rfl rfl rfl rfl ti83 rfl rfl (stB (cs' := [iV z7.1.Lo, iV z7.1.Hi, bV z7.1.Unknown, iV z7.2.1.Lo, iV z7.2.1.Hi, bV z7.2.1.Unknown, iV z7.2.2.Lo, iV z7.2.2.Hi, bV z7.2.2.Unknown]) rfl rfl rfl rfl ti83 rfl rfl rfl rfl rfl (pS rfl (RunC.fin (AWP.ret ?_)))))))
    have hR := Option.some.inj hR; subst hR
    exact hQ _ _ (LS.mk [(2, .ptr 0 0 0), (3, bV true)] (lblks 0 [boxB (α := Bound × Bound × Bound) true z7]) 1) (.tup [aggV (α := Bound × Bound × Bound) true z7, bV true]) [] (.inr rfl) (Weak.turnL [(0, 0)] [] rfl rfl (tc (trP' rfl rfl rfl rfl) (tc (.sc _) tn)) (mc rfl (.box rfl .z9 rfl) mn)) (ro2 (rvC (v := aggV (α := Bound × Bound × Bound) true z7) rfl rfl ti83 rfl) (rvT (v := bV true) rfl)) rfl rfl (.tup (.cons ldA (.cons (.sc _) .nil))) pn
theorem ok36 (s : Seen × Seen × Seen) (r : Int) (hR : arc_Check s = some r) : FnP Tryz.prog 36 [aggV false s] (.sc (.int .i64 r)) := by
 refine fnP_of (FnX.walk Tryz.func36 rfl 87 0 (by simp [Tryz.ntmps36]) rfl fun W S F Q hQ => ?_)
 unfold arc_Check at hR
 refine AWP.sq (AWP.rgC 8 rfl rfl (bx (cs := _) 0 rfl rfl rfl (pS rfl (RunC.fin (AWP.sq (AWP.sq (AWP.rgC 16 rfl rfl (ldB (v := .agg _) rfl rfl rfl rfl ti41 rfl rfl (pS rfl (RunC.fin (AWP.loopK' (fun s1 : Int => LS.mk [(1, .ptr 0 0 0), (10, aggV (α := Seen × Seen × Seen) true s), (11, iV s1)] (lblks 0 [boxB (α := Seen × Seen × Seen) true s]) 1) (fun z2 : Unit => LS.mk [(1, .ptr 0 0 0)] (lblks 0 [boxB (α := Seen × Seen × Seen) true s]) 1) (arc_Check.l1 s) hR (s0 := 0) (Weak.turnL [(0, 0)] [] rfl rfl (tc (trP' rfl rfl rfl rfl) (tc (.agg (.c9 (.c9 (.c9 (.c9 (.c9 .z9))))) rfl) (tc (.sc _) tn))) (mc rfl (.box rfl (.c9 (.c9 (.c9 (.c9 (.c9 .z9))))) rfl) mn)) (fun s1 o1 hR hE1 => ?_) fun z2 hR => ?_)))))))))))
 ·unfold arc_Check.l1 at hR
  refine AWP.sq (AWP.rgC 5 rfl rfl (pS rfl (RunC.fin (AWP.sq (AWP.cd hR rfl (fun h3 hR => ?_) fun h3 hR => ?_)))))
  ·refine AWP.skip (skT (AWP.sq (AWP.block (AWP.sq (AWP.rgC 17 rfl rfl ?_)))))
   obtain ⟨h4, hR⟩ := chkE hR
   refine ixD (α := Seen) (nw := true) (xs := ([s.1, s.2.1, s.2.2] : List Seen)) (v := .agg _) rfl rfl rfl rfl ti41 rfl ti40 h4 rfl rfl rfl ?_
   refine al (cs := [iV 0, iV 0, bV false, iV 0, iV 0, iV 0, iV 0, iV 0, bV false, iV 0, iV 0, bV false, iV 0, iV 0, bV false, iV 0, iV 0, bV false]) 9 rfl rfl ti40 rfl rfl (stB (cs' := [iV (gt ([s.1, s.2.1, s.2.2] : List Seen) s1).At.Lo, iV (gt ([s.1, s.2.1, s.2.2] : List Seen) s1).At.Hi, bV (gt ([s.1, s.2.1, s.2.2] : List Seen) s1).At.Unknown, iV (gt ([s.1, s.2.1, s.2.2] : List Seen) s1).From.X, iV (gt ([s.1, s.2.1, s.2.2] : List Seen) s1).From.Y, iV (gt ([s.1, s.2.1, s.2.2] : List Seen) s1).From.Z, iV (gt ([s.1, s.2.1, s.2.2] : List Seen) s1).Box.X.Lo, iV (gt ([s.1, s.2.1, s.2.2] : List Seen) s1).Box.X.Hi, bV (gt ([s.1, s.2.1, s.2.2] : List Seen) s1).Box.X.Unknown, iV (gt ([s.1, s.2.1, s.2.2] : List Seen) s1).Box.Y.Lo, iV (gt ([s.1, s.2.1, s.2.2] : List Seen) s1).Box.Y.Hi, bV (gt ([s.1, s.2.1, s.2.2] : List Seen) s1).Box.Y.Unknown, iV (gt ([s.1, s.2.1, s.2.2] : List Seen) s1).Box.Z.Lo, iV (gt ([s.1, s.2.1, s.2.2] : List Seen) s1).Box.Z.Hi, bV (gt ([s.1, s.2.1, s.2.2] : List Seen) s1).Box.Z.Unknown, iV (gt ([s.1, s.2.1, s.2.2] : List Seen) s1).Flux.Lo, iV (gt ([s.1, s.2.1, s.2.2] : List Seen) s1).Flux.Hi, bV (gt ([s.1, s.2.1, s.2.2] : List Seen) s1).Flux.Unknown]) rfl rfl rfl rfl ti40 rfl rfl rfl rfl rfl (RunC.fin (AWP.sq (AWP.sq (AWP.rgC 29 rfl rfl (ldB (v := .agg _) rfl rfl rfl rfl ti40 rfl rfl ?_))))))
   obtain ⟨r5, hr5, hR⟩ := bindE hR
   refine cls [] rfl rfl cb23 (ok23 (gt ([s.1, s.2.1, s.2.2] : List Seen) s1) _ hr5) (.cons (.agg (.c9 .z9) rfl) (.nil)) (.inr rfl) rfl (pS rfl (RunC.fin (AWP.sq (AWP.rgC 37 rfl rfl (pS rfl (pS rfl (RunC.fin (AWP.cd hR rfl (fun h6 hR => ?_) fun h6 hR => ?_))))))))
   ·refine AWP.sq (AWP.rgC 45 rfl rfl (pS rfl (pS rfl (RunC.fin (AWP.ret (rtT (rtB (rtT (rtT (rtB (rtT ?_)))))))))))
    replace hR := escL hR hE1
    refine rtT ?_
    have hR := Option.some.inj hR; subst hR
    exact hQ _ _ (LS.mk [(2, iV r5)] (lblks 0 []) 0) (iV r5) [] (.inr rfl) (Weak.turnL [] [] rfl rfl (tc (.sc _) tn) mn) (ro1 (rvT (v := iV r5) rfl)) rfl rfl (.sc _) pn
   ·refine AWP.skip (skT (AWP.block (AWP.joinX (fun z7 : Bool => LS.mk [(1, .ptr 0 0 0), (4, .ptr 1 0 0), (10, aggV (α := Seen × Seen × Seen) true s), (11, iV s1), (19, bV z7)] (lblks 0 [boxB (α := Seen × Seen × Seen) true s, boxB (α := Seen) true (gt ([s.1, s.2.1, s.2.2] : List Seen) s1)]) 2) hR (fun o7 hR => ?_) fun z7 hR => ?_)))
    ·refine AWP.rgC 97 rfl rfl (fa rfl rfl ti40 rfl rfl ti28 rfl (fa rfl rfl ti28 rfl rfl ti26 rfl (ldB (v := .sc _) rfl rfl rfl rfl ti26 rfl rfl (fa rfl rfl ti40 rfl rfl ti28 rfl (fa rfl rfl ti28 rfl rfl ti26 rfl (ldB (v := .sc _) rfl rfl rfl rfl ti26 rfl rfl ?_))))))
     obtain ⟨v8, ev8, hR⟩ := letE hR
     refine pu (v := .sc _) rfl rfl (fun _ => puB ev8) (pS rfl (brR hR (fun h9 hR => ?_) fun h9 hR => ?_))
     ·refine sk (skW rfl rfl rfl h9) (sk (skW rfl rfl rfl h9) (sk (skW rfl rfl rfl h9) (sk (skW rfl rfl rfl h9) (sk (skW rfl rfl rfl h9) (pkT (v := bV true) rfl rfl h9 rfl (pS rfl (RunC.fin ?_)))))))
      have hR := Option.some.inj hR; subst hR
      exact Weak.turnL [(0, 0), (9, 0)] [] rfl rfl (tc (trP' rfl rfl rfl rfl) (tc (trP' rfl rfl rfl rfl) (tc (.agg (.c9 (.c9 (.c9 (.c9 (.c9 .z9))))) rfl) (tc (.sc _) (tc (.sc _) tn))))) (mc rfl (.box rfl (.c9 (.c9 (.c9 (.c9 (.c9 .z9))))) rfl) (mc rfl (.box rfl (.c9 .z9) rfl) mn))
     ·refine fa (wtG rfl rfl rfl h9) rfl ti40 rfl rfl ti28 rfl (fa (wtG rfl rfl rfl h9) rfl ti28 rfl rfl ti26 rfl (ldB (v := .sc _) (wtG rfl rfl rfl h9) rfl rfl rfl ti26 rfl rfl ?_))
      obtain ⟨v10, ev10, hR⟩ := letE hR
      refine rm (wtG rfl rfl rfl h9) rfl rfl (by decide) ev10 ?_
      refine pu (v := .sc _) (wtG rfl rfl rfl h9) rfl (fun _ => rfl) (pkF (v := bV (v10 != 0)) rfl rfl h9 rfl (pS rfl (RunC.fin ?_)))
      have hR := Option.some.inj hR; subst hR
      exact Weak.turnL [(0, 0), (9, 0)] [] rfl rfl (tc (trP' rfl rfl rfl rfl) (tc (trP' rfl rfl rfl rfl) (tc (.agg (.c9 (.c9 (.c9 (.c9 (.c9 .z9))))) rfl) (tc (.sc _) (tc (.sc _) tn))))) (mc rfl (.box rfl (.c9 (.c9 (.c9 (.c9 (.c9 .z9))))) rfl) (mc rfl (.box rfl (.c9 .z9) rfl) mn))
    ·refine AWP.cd hR rfl (fun h11 hR => ?_) fun h11 hR => ?_
     ·refine AWP.sq (AWP.rgC 6 rfl rfl (pS rfl (RunC.fin (AWP.ret (rtB (rtB (rtT (rtT (rtB (rtT ?_))))))))))
      replace hR := escL hR hE1
      refine rtT ?_
      have hR := Option.some.inj hR; subst hR
      exact hQ _ _ (LS.mk [(2, iV 1)] (lblks 0 []) 0) (iV 1) [] (.inr rfl) (Weak.turnL [] [] rfl rfl (tc (.sc _) tn) mn) (ro1 (rvT (v := iV 1) rfl)) rfl rfl (.sc _) pn
     ·refine AWP.joinX (fun z12 : Bool => LS.mk [(1, .ptr 0 0 0), (10, aggV (α := Seen × Seen × Seen) true s), (11, iV s1), (34, bV z12)] (lblks 0 [boxB (α := Seen × Seen × Seen) true s]) 1) hR (fun o12 hR => ?_) fun z12 hR => ?_
      ·refine AWP.rgC 70 rfl rfl (fa rfl rfl ti40 rfl rfl ti35 rfl (fa rfl rfl ti35 rfl rfl ti33 rfl (fa rfl rfl ti33 rfl rfl ti4 rfl (ldB (v := .sc _) rfl rfl rfl rfl ti4 rfl rfl (pS rfl (brR hR (fun h13 hR => ?_) fun h13 hR => ?_))))))
       ·refine sk (skW rfl rfl rfl h13) (sk (skW rfl rfl rfl h13) (sk (skW rfl rfl rfl h13) (sk (skW rfl rfl rfl h13) (pkT (v := bV true) rfl rfl h13 rfl (pS rfl (sk (skW rfl rfl rfl rfl) (sk (skW rfl rfl rfl rfl) (sk (skW rfl rfl rfl rfl) (sk (skW rfl rfl rfl rfl) (pkT (v := bV true) rfl rfl rfl rfl (pS rfl (RunC.fin ?_))))))))))))
        have hR := Option.some.inj hR; subst hR
        exact Weak.turnL [(0, 0)] [] rfl rfl (tc (trP' rfl rfl rfl rfl) (tc (.agg (.c9 (.c9 (.c9 (.c9 (.c9 .z9))))) rfl) (tc (.sc _) (tc (.sc _) tn)))) (mc rfl (.box rfl (.c9 (.c9 (.c9 (.c9 (.c9 .z9))))) rfl) mn)
       ·refine fa (wtG rfl rfl rfl h13) rfl ti40 rfl rfl ti35 rfl (fa (wtG rfl rfl rfl h13) rfl ti35 rfl rfl ti33 rfl (fa (wtG rfl rfl rfl h13) rfl ti33 rfl rfl ti4 rfl (ldB (v := .sc _) (wtG rfl rfl rfl h13) rfl rfl rfl ti4 rfl rfl (pkF (v := bV (gt ([s.1, s.2.1, s.2.2] : List Seen) s1).Box.Y.Unknown) rfl rfl h13 rfl (pS rfl (brR hR (fun h14 hR => ?_) fun h14 hR => ?_))))))
        ·refine sk (skW rfl rfl rfl h14) (sk (skW rfl rfl rfl h14) (sk (skW rfl rfl rfl h14) (sk (skW rfl rfl rfl h14) (pkT (v := bV true) rfl rfl h14 rfl (pS rfl (RunC.fin ?_))))))
         have hR := Option.some.inj hR; subst hR
         exact Weak.turnL [(0, 0)] [] rfl rfl (tc (trP' rfl rfl rfl rfl) (tc (.agg (.c9 (.c9 (.c9 (.c9 (.c9 .z9))))) rfl) (tc (.sc _) (tc (.sc _) tn)))) (mc rfl (.box rfl (.c9 (.c9 (.c9 (.c9 (.c9 .z9))))) rfl) mn)
        ·refine fa (wtG rfl rfl rfl h14) rfl ti40 rfl rfl ti35 rfl (fa (wtG rfl rfl rfl h14) rfl ti35 rfl rfl ti33 rfl (fa (wtG rfl rfl rfl h14) rfl ti33 rfl rfl ti4 rfl (ldB (v := .sc _) (wtG rfl rfl rfl h14) rfl rfl rfl ti4 rfl rfl (pkF (v := bV (gt ([s.1, s.2.1, s.2.2] : List Seen) s1).Box.Z.Unknown) rfl rfl h14 rfl (pS rfl (RunC.fin ?_))))))
         have hR := Option.some.inj hR; subst hR
         exact Weak.turnL [(0, 0)] [] rfl rfl (tc (trP' rfl rfl rfl rfl) (tc (.agg (.c9 (.c9 (.c9 (.c9 (.c9 .z9))))) rfl) (tc (.sc _) (tc (.sc _) tn)))) (mc rfl (.box rfl (.c9 (.c9 (.c9 (.c9 (.c9 .z9))))) rfl) mn)
      ·refine AWP.cd hR rfl (fun h15 hR => ?_) fun h15 hR => ?_
       ·refine AWP.sq (AWP.rgC 5 rfl rfl (pS rfl (RunC.fin (AWP.ret (rtB (rtB (rtT (rtT (rtB (rtT ?_))))))))))
        replace hR := escL hR hE1
        refine rtT ?_
        have hR := Option.some.inj hR; subst hR
        exact hQ _ _ (LS.mk [(2, iV 10)] (lblks 0 []) 0) (iV 10) [] (.inr rfl) (Weak.turnL [] [] rfl rfl (tc (.sc _) tn) mn) (ro1 (rvT (v := iV 10) rfl)) rfl rfl (.sc _) pn
       ·refine AWP.skip (skB ?_)
        refine skB ?_
        refine skT (AWP.rgC 9 rfl rfl (pS rfl (pS rfl (RunC.fin (⟨(w6 (s1 + 1)), (Option.some.inj hR).symm, ?_⟩)))))
        exact Weak.turnL [(0, 0)] [] rfl rfl (tc (trP' rfl rfl rfl rfl) (tc (.agg (.c9 (.c9 (.c9 (.c9 (.c9 .z9))))) rfl) (tc (.sc _) tn))) (mc rfl (.box rfl (.c9 (.c9 (.c9 (.c9 (.c9 .z9))))) rfl) mn)
  ·refine AWP.exit (exT (exT (exH (skT (⟨(), (Option.some.inj hR).symm, ?_⟩)))))
   exact Weak.turnL [(0, 0)] [] rfl rfl (tc (trP' rfl rfl rfl rfl) tn) (mc rfl (.box rfl (.c9 (.c9 (.c9 (.c9 (.c9 .z9))))) rfl) mn)
 ·refine skT (AWP.sq (AWP.joinX (fun z16 : Bool => LS.mk [(1, .ptr 0 0 0), (73, bV z16)] (lblks 0 [boxB (α := Seen × Seen × Seen) true s]) 1) hR (fun o16 hR => ?_) fun z16 hR => ?_))
  ·refine AWP.rgC 89 rfl rfl (iaP (o' := 18) rfl rfl rfl ti41 rfl ti40 (by decide) rfl (fa rfl rfl ti40 rfl rfl ti28 rfl (fa rfl rfl ti28 rfl rfl ti26 rfl (ldB (v := .sc _) rfl rfl rfl rfl ti26 rfl rfl (iaP (o' := 0) rfl rfl rfl ti41 rfl ti40 (by decide) rfl (fa rfl rfl ti40 rfl rfl ti28 rfl (fa rfl rfl ti28 rfl rfl ti26 rfl (ldB (v := .sc _) rfl rfl rfl rfl ti26 rfl rfl (pS rfl (pS rfl (pS rfl (brR hR (fun h17 hR => ?_) fun h17 hR => ?_))))))))))))
   ·refine sk (skW rfl rfl rfl h17) (sk (skW rfl rfl rfl h17) (sk (skW rfl rfl rfl h17) (sk (skW rfl rfl rfl h17) (sk (skW rfl rfl rfl h17) (sk (skW rfl rfl rfl h17) (sk (skW rfl rfl rfl h17) (sk (skW rfl rfl rfl h17) (sk (skW rfl rfl rfl h17) (sk (skW rfl rfl rfl h17) (pkT (v := bV true) rfl rfl h17 rfl (RunC.fin ?_)))))))))))
    have hR := Option.some.inj hR; subst hR
    exact Weak.turnL [(0, 0)] [] rfl rfl (tc (trP' rfl rfl rfl rfl) (tc (.sc _) tn)) (mc rfl (.box rfl (.c9 (.c9 (.c9 (.c9 (.c9 .z9))))) rfl) mn)
   ·refine iaP (o' := 36) (wtG rfl rfl rfl h17) rfl rfl ti41 rfl ti40 (by decide) rfl (fa (wtG rfl rfl rfl h17) rfl ti40 rfl rfl ti28 rfl (fa (wtG rfl rfl rfl h17) rfl ti28 rfl rfl ti26 rfl (ldB (v := .sc _) (wtG rfl rfl rfl h17) rfl rfl rfl ti26 rfl rfl (iaP (o' := 18) (wtG rfl rfl rfl h17) rfl rfl ti41 rfl ti40 (by decide) rfl (fa (wtG rfl rfl rfl h17) rfl ti40 rfl rfl ti28 rfl (fa (wtG rfl rfl rfl h17) rfl ti28 rfl rfl ti26 rfl (ldB (v := .sc _) (wtG rfl rfl rfl h17) rfl rfl rfl ti26 rfl rfl (pu (v := .sc _) (wtG rfl rfl rfl h17) rfl (fun _ => rfl) (pu (v := .sc _) (wtG rfl rfl rfl h17) rfl (fun _ => rfl) (pkF (v := bV ((w6 (s.2.2.At.Lo - s.2.1.At.Lo)) != 86400000)) rfl rfl h17 rfl (RunC.fin ?_)))))))))))
    have hR := Option.some.inj hR; subst hR
    exact Weak.turnL [(0, 0)] [] rfl rfl (tc (trP' rfl rfl rfl rfl) (tc (.sc _) tn)) (mc rfl (.box rfl (.c9 (.c9 (.c9 (.c9 (.c9 .z9))))) rfl) mn)
  ·refine AWP.cd hR rfl (fun h18 hR => ?_) fun h18 hR => ?_
   ·refine AWP.sq (AWP.rgC 5 rfl rfl (pS rfl (RunC.fin (AWP.ret (rtT ?_)))))
    have hR := Option.some.inj hR; subst hR
    exact hQ _ _ (LS.mk [(2, iV 11)] (lblks 0 []) 0) (iV 11) [] (.inr rfl) (Weak.turnL [] [] rfl rfl (tc (.sc _) tn) mn) (ro1 (rvT (v := iV 11) rfl)) rfl rfl (.sc _) pn
   ·refine AWP.skip (skT (AWP.sq (AWP.sq (AWP.rgC 9 rfl rfl (ldB (v := .agg _) rfl rfl rfl rfl ti41 rfl rfl (pS rfl (RunC.fin (AWP.loopK' (fun s19 : Int => LS.mk [(74, aggV (α := Seen × Seen × Seen) true s), (75, iV s19)] (lblks 0 []) 0) (fun z20 : Unit => LS.mk [] (lblks 0 []) 0) (arc_Check.l2 s) hR (s0 := 0) (Weak.turnL [] [] rfl rfl (tc (.agg (.c9 (.c9 (.c9 (.c9 (.c9 .z9))))) rfl) (tc (.sc _) tn)) mn) (fun s19 o19 hR hE19 => ?_) fun z20 hR => ?_))))))))
    ·unfold arc_Check.l2 at hR
     refine AWP.sq (AWP.rgC 4 rfl rfl (pS rfl (RunC.fin (AWP.sq (AWP.cd hR rfl (fun h21 hR => ?_) fun h21 hR => ?_)))))
     ·refine AWP.skip (skT (AWP.sq (AWP.block (AWP.sq (AWP.rgC 16 rfl rfl ?_)))))
      obtain ⟨h22, hR⟩ := chkE hR
      refine ixD (α := Seen) (nw := true) (xs := ([s.1, s.2.1, s.2.2] : List Seen)) (v := .agg _) rfl rfl rfl rfl ti41 rfl ti40 h22 rfl rfl rfl ?_
      refine al (cs := [iV 0, iV 0, bV false, iV 0, iV 0, iV 0, iV 0, iV 0, bV false, iV 0, iV 0, bV false, iV 0, iV 0, bV false, iV 0, iV 0, bV false]) 8 rfl rfl ti40 rfl rfl (stB (cs' := [iV (gt ([s.1, s.2.1, s.2.2] : List Seen) s19).At.Lo, iV (gt ([s.1, s.2.1, s.2.2] : List Seen) s19).At.Hi, bV (gt ([s.1, s.2.1, s.2.2] : List Seen) s19).At.Unknown, iV (gt ([s.1, s.2.1, s.2.2] : List Seen) s19).From.X, iV (gt ([s.1, s.2.1, s.2.2] : List Seen) s19).From.Y, iV (gt ([s.1, s.2.1, s.2.2] : List Seen) s19).From.Z, iV (gt ([s.1, s.2.1, s.2.2] : List Seen) s19).Box.X.Lo, iV (gt ([s.1, s.2.1, s.2.2] : List Seen) s19).Box.X.Hi, bV (gt ([s.1, s.2.1, s.2.2] : List Seen) s19).Box.X.Unknown, iV (gt ([s.1, s.2.1, s.2.2] : List Seen) s19).Box.Y.Lo, iV (gt ([s.1, s.2.1, s.2.2] : List Seen) s19).Box.Y.Hi, bV (gt ([s.1, s.2.1, s.2.2] : List Seen) s19).Box.Y.Unknown, iV (gt ([s.1, s.2.1, s.2.2] : List Seen) s19).Box.Z.Lo, iV (gt ([s.1, s.2.1, s.2.2] : List Seen) s19).Box.Z.Hi, bV (gt ([s.1, s.2.1, s.2.2] : List Seen) s19).Box.Z.Unknown, iV (gt ([s.1, s.2.1, s.2.2] : List Seen) s19).Flux.Lo, iV (gt ([s.1, s.2.1, s.2.2] : List Seen) s19).Flux.Hi, bV (gt ([s.1, s.2.1, s.2.2] : List Seen) s19).Flux.Unknown]) rfl rfl rfl rfl ti40 rfl rfl rfl rfl rfl (RunC.fin (AWP.sq (AWP.rgC 52 rfl rfl (fa rfl rfl ti40 rfl rfl ti35 rfl (ldB (v := .agg _) rfl rfl rfl rfl ti35 rfl rfl ?_))))))
      obtain ⟨r23, hr23, hR⟩ := bindE hR
      refine cls [] rfl rfl cb44 (ok44 (gt ([s.1, s.2.1, s.2.2] : List Seen) s19).Box _ hr23) (.cons (.agg .z9 rfl) (.nil)) (.inr rfl) rfl (pu (v := .tup _) rfl rfl (fun _ => rfl) (pu (v := .agg _) rfl rfl (fun _ => rfl) (pS rfl (al (cs := [iV 0, iV 0, bV false, iV 0, iV 0, bV false, iV 0, iV 0, bV false]) 40 rfl rfl ti83 rfl rfl (stB (cs' := [iV r23.1.1.Lo, iV r23.1.1.Hi, bV r23.1.1.Unknown, iV r23.1.2.1.Lo, iV r23.1.2.1.Hi, bV r23.1.2.1.Unknown, iV r23.1.2.2.Lo, iV r23.1.2.2.Hi, bV r23.1.2.2.Unknown]) rfl rfl rfl rfl ti83 rfl rfl rfl rfl rfl (pS rfl (RunC.fin (AWP.sq (AWP.rgC 60 rfl rfl (pS rfl (pS rfl (RunC.fin (AWP.cd hR rfl (fun h24 hR => ?_) fun h24 hR => ?_)))))))))))))
      ·refine AWP.sq (AWP.rgC 64 rfl rfl (pS rfl (RunC.fin (AWP.ret (rtB (rtT (rtT (rtB (rtT ?_)))))))))
       replace hR := escL hR hE19
       refine rtT ?_
       have hR := Option.some.inj hR; subst hR
       exact hQ _ _ (LS.mk [(2, iV 3)] (lblks 0 []) 0) (iV 3) [] (.inr rfl) (Weak.turnL [] [] rfl rfl (tc (.sc _) tn) mn) (ro1 (rvT (v := iV 3) rfl)) rfl rfl (.sc _) pn
      ·refine AWP.skip (skB ?_)
       refine skT (AWP.rgC 68 rfl rfl (pS rfl (pS rfl (RunC.fin (⟨(w6 (s19 + 1)), (Option.some.inj hR).symm, ?_⟩)))))
       exact Weak.turnL [] [] rfl rfl (tc (.agg (.c9 (.c9 (.c9 (.c9 (.c9 .z9))))) rfl) (tc (.sc _) tn)) mn
     ·refine AWP.exit (exT (exT (exH (skT (⟨(), (Option.some.inj hR).symm, ?_⟩)))))
      exact Weak.turnL [] [] rfl rfl tn mn
    ·refine skT (AWP.sq (AWP.rgC 4 rfl rfl (pS rfl (RunC.fin (AWP.ret ?_)))))
     have hR := Option.some.inj hR; subst hR
     exact hQ _ _ (LS.mk [(2, iV 0)] (lblks 0 []) 0) (iV 0) [] (.inr rfl) (Weak.turnL [] [] rfl rfl (tc (.sc _) tn) mn) (ro1 (rvT (v := iV 0) rfl)) rfl rfl (.sc _) pn
theorem ok22 (o : arc_Orbit) (r : Int) (hR : predict_Check o = some r) : FnP Tryz.prog 22 [aggV false o] (.sc (.int .i64 r)) := by
 refine fnP_of (FnX.walk Tryz.func22 rfl 37 0 (by simp [Tryz.ntmps22]) rfl fun W S F Q hQ => ?_)
 unfold predict_Check at hR
 refine AWP.sq (AWP.rgC 8 rfl rfl (bx (cs := _) 0 rfl rfl rfl (pS rfl (RunC.fin (AWP.sq (AWP.sq (AWP.rgC 24 rfl rfl (fa rfl rfl ti55 rfl rfl ti41 rfl (ldB (v := .agg _) rfl rfl rfl rfl ti41 rfl rfl ?_)))))))))
 obtain ⟨r1, hr1, hR⟩ := bindE hR
 refine cls [] rfl rfl cb36 (ok36 o.Seen _ hr1) (.cons (.agg (.c9 (.c9 (.c9 (.c9 (.c9 .z9))))) rfl) (.nil)) (.inr rfl) rfl (pS rfl (RunC.fin (AWP.sq (AWP.rgC 32 rfl rfl (pS rfl (pS rfl (RunC.fin (AWP.cd hR rfl (fun h2 hR => ?_) fun h2 hR => ?_))))))))
 ·refine AWP.sq (AWP.rgC 40 rfl rfl (pS rfl (pS rfl (RunC.fin (AWP.ret (rtT ?_))))))
  have hR := Option.some.inj hR; subst hR
  exact hQ _ _ (LS.mk [(2, iV r1)] (lblks 0 []) 0) (iV r1) [] (.inr rfl) (Weak.turnL [] [] rfl rfl (tc (.sc _) tn) mn) (ro1 (rvT (v := iV r1) rfl)) rfl rfl (.sc _) pn
 ·refine AWP.skip (skT (AWP.sq (AWP.block (AWP.joinX (fun z3 : Bool => LS.mk [(1, .ptr 0 0 0), (10, bV z3)] (lblks 0 [boxB (α := arc_Orbit) true o]) 1) hR (fun o3 hR => ?_) fun z3 hR => ?_))))
  ·refine AWP.rgC 116 rfl rfl (fa rfl rfl ti55 rfl rfl ti2 rfl (ldB (v := .sc _) rfl rfl rfl rfl ti2 rfl rfl (pS rfl (pS rfl (brR hR (fun h4 hR => ?_) fun h4 hR => ?_)))))
   ·refine sk (skW rfl rfl rfl h4) (sk (skW rfl rfl rfl h4) (sk (skW rfl rfl rfl h4) (sk (skW rfl rfl rfl h4) (pkT (v := bV true) rfl rfl h4 rfl (pS rfl (sk (skW rfl rfl rfl rfl) (sk (skW rfl rfl rfl rfl) (sk (skW rfl rfl rfl rfl) (pkT (v := bV true) rfl rfl rfl rfl (pS rfl (sk (skW rfl rfl rfl rfl) (sk (skW rfl rfl rfl rfl) (sk (skW rfl rfl rfl rfl) (sk (skW rfl rfl rfl rfl) (pkT (v := bV true) rfl rfl rfl rfl (pS rfl ?_))))))))))))))))
    refine RunC.fin ?_
    have hR := Option.some.inj hR; subst hR
    exact Weak.turnL [(0, 0)] [] rfl rfl (tc (trP' rfl rfl rfl rfl) (tc (.sc _) tn)) (mc rfl (.box rfl (.c9 (.c9 (.c9 (.c9 (.c9 (.c9 .z2)))))) rfl) mn)
   ·refine fa (wtG rfl rfl rfl h4) rfl ti55 rfl rfl ti2 rfl (ldB (v := .sc _) (wtG rfl rfl rfl h4) rfl rfl rfl ti2 rfl rfl (rm (wtG rfl rfl rfl h4) rfl rfl (by decide) rfl ?_))
    refine pu (v := .sc _) (wtG rfl rfl rfl h4) rfl (fun _ => rfl) (pkF (v := bV ((Int.tmod o.Near 4096) != 0)) rfl rfl h4 rfl (pS rfl (brR hR (fun h5 hR => ?_) fun h5 hR => ?_)))
    ·refine sk (skW rfl rfl rfl h5) (sk (skW rfl rfl rfl h5) (sk (skW rfl rfl rfl h5) (pkT (v := bV true) rfl rfl h5 rfl (pS rfl (sk (skW rfl rfl rfl rfl) (sk (skW rfl rfl rfl rfl) (sk (skW rfl rfl rfl rfl) (sk (skW rfl rfl rfl rfl) (pkT (v := bV true) rfl rfl rfl rfl (pS rfl (RunC.fin ?_)))))))))))
     have hR := Option.some.inj hR; subst hR
     exact Weak.turnL [(0, 0)] [] rfl rfl (tc (trP' rfl rfl rfl rfl) (tc (.sc _) tn)) (mc rfl (.box rfl (.c9 (.c9 (.c9 (.c9 (.c9 (.c9 .z2)))))) rfl) mn)
    ·refine fa (wtG rfl rfl rfl h5) rfl ti55 rfl rfl ti2 rfl (ldB (v := .sc _) (wtG rfl rfl rfl h5) rfl rfl rfl ti2 rfl rfl (pu (v := .sc _) (wtG rfl rfl rfl h5) rfl (fun _ => rfl) (pkF (v := bV (decide (o.Far > 16777216))) rfl rfl h5 rfl (pS rfl (brR hR (fun h6 hR => ?_) fun h6 hR => ?_)))))
     ·refine sk (skW rfl rfl rfl h6) (sk (skW rfl rfl rfl h6) (sk (skW rfl rfl rfl h6) (sk (skW rfl rfl rfl h6) (pkT (v := bV true) rfl rfl h6 rfl (pS rfl (RunC.fin ?_))))))
      have hR := Option.some.inj hR; subst hR
      exact Weak.turnL [(0, 0)] [] rfl rfl (tc (trP' rfl rfl rfl rfl) (tc (.sc _) tn)) (mc rfl (.box rfl (.c9 (.c9 (.c9 (.c9 (.c9 (.c9 .z2)))))) rfl) mn)
     ·refine fa (wtG rfl rfl rfl h6) rfl ti55 rfl rfl ti2 rfl (ldB (v := .sc _) (wtG rfl rfl rfl h6) rfl rfl rfl ti2 rfl rfl (rm (wtG rfl rfl rfl h6) rfl rfl (by decide) rfl ?_))
      refine pu (v := .sc _) (wtG rfl rfl rfl h6) rfl (fun _ => rfl) (pkF (v := bV ((Int.tmod o.Far 4096) != 0)) rfl rfl h6 rfl (pS rfl (RunC.fin ?_)))
      have hR := Option.some.inj hR; subst hR
      exact Weak.turnL [(0, 0)] [] rfl rfl (tc (trP' rfl rfl rfl rfl) (tc (.sc _) tn)) (mc rfl (.box rfl (.c9 (.c9 (.c9 (.c9 (.c9 (.c9 .z2)))))) rfl) mn)
  ·refine AWP.cd hR rfl (fun h7 hR => ?_) fun h7 hR => ?_
   ·refine AWP.sq (AWP.rgC 5 rfl rfl (pS rfl (RunC.fin (AWP.ret (rtB (rtT ?_))))))
    have hR := Option.some.inj hR; subst hR
    exact hQ _ _ (LS.mk [(2, iV 4)] (lblks 0 []) 0) (iV 4) [] (.inr rfl) (Weak.turnL [] [] rfl rfl (tc (.sc _) tn) mn) (ro1 (rvT (v := iV 4) rfl)) rfl rfl (.sc _) pn
   ·refine AWP.sq (AWP.rgC 25 rfl rfl (fa rfl rfl ti55 rfl rfl ti2 rfl (ldB (v := .sc _) rfl rfl rfl rfl ti2 rfl rfl (fa rfl rfl ti55 rfl rfl ti2 rfl (ldB (v := .sc _) rfl rfl rfl rfl ti2 rfl rfl (pS rfl (pS rfl (RunC.fin (AWP.cd hR rfl (fun h8 hR => ?_) fun h8 hR => ?_)))))))))
    ·refine AWP.sq (AWP.rgC 29 rfl rfl (pS rfl (RunC.fin (AWP.ret (rtB (rtT ?_))))))
     have hR := Option.some.inj hR; subst hR
     exact hQ _ _ (LS.mk [(2, iV 11)] (lblks 0 []) 0) (iV 11) [] (.inr rfl) (Weak.turnL [] [] rfl rfl (tc (.sc _) tn) mn) (ro1 (rvT (v := iV 11) rfl)) rfl rfl (.sc _) pn
    ·refine AWP.skip (skB ?_)
     refine skT (AWP.sq (AWP.rgC 29 rfl rfl (pS rfl (RunC.fin (AWP.ret ?_)))))
     have hR := Option.some.inj hR; subst hR
     exact hQ _ _ (LS.mk [(2, iV 0)] (lblks 0 []) 0) (iV 0) [] (.inr rfl) (Weak.turnL [] [] rfl rfl (tc (.sc _) tn) mn) (ro1 (rvT (v := iV 0) rfl)) rfl rfl (.sc _) pn
theorem ok98 (p : Bound × Bound × Bound) (r : Int × Int × Bool) (hR : predict_far p = some r) : FnP Tryz.prog 98 [aggV false p] (.tup [.sc (.int .i64 r.1), .sc (.int .i64 r.2.1), .sc (.bool r.2.2)]) := by
 refine fnP_of (FnX.walk Tryz.func98 rfl 44 0 (by simp [Tryz.ntmps98]) rfl fun W S F Q hQ => ?_)
 unfold predict_far at hR
 refine AWP.sq (AWP.rgC 16 rfl rfl (bx (cs := _) 0 rfl rfl rfl (pS rfl (pS rfl (pS rfl (RunC.fin (AWP.sq (AWP.sq (AWP.rgC 24 rfl rfl (ldB (v := .agg _) rfl rfl rfl rfl ti84 rfl rfl (pS rfl (RunC.fin (AWP.loopK' (fun s1 : Int × Int × Int => LS.mk [(2, iV s1.1), (3, iV s1.2.1), (8, aggV (α := Bound × Bound × Bound) true p), (9, iV s1.2.2)] (lblks 0 []) 0) (fun z2 : Int × Int => LS.mk [(2, iV z2.1), (3, iV z2.2)] (lblks 0 []) 0) (predict_far.l1 p) hR (s0 := (0, 0, 0)) (Weak.turnL [] [] rfl rfl (tc (.sc _) (tc (.sc _) (tc (.agg .z9 rfl) (tc (.sc _) tn)))) mn) (fun s1 o1 hR hE1 => ?_) fun z2 hR => ?_)))))))))))))
 ·unfold predict_far.l1 at hR
  refine AWP.sq (AWP.rgC 4 rfl rfl (pS rfl (RunC.fin (AWP.sq (AWP.cd hR rfl (fun h3 hR => ?_) fun h3 hR => ?_)))))
  ·refine AWP.skip (skT (AWP.sq (AWP.block (AWP.sq (AWP.rgC 16 rfl rfl ?_)))))
   obtain ⟨h4, hR⟩ := chkE hR
   refine ixD (α := Bound) (nw := true) (xs := ([p.1, p.2.1, p.2.2] : List Bound)) (v := .agg _) rfl rfl rfl rfl ti84 rfl ti33 h4 rfl rfl rfl ?_
   refine al (cs := [iV 0, iV 0, bV false]) 8 rfl rfl ti33 rfl rfl (stB (cs' := [iV (gt ([p.1, p.2.1, p.2.2] : List Bound) s1.2.2).Lo, iV (gt ([p.1, p.2.1, p.2.2] : List Bound) s1.2.2).Hi, bV (gt ([p.1, p.2.1, p.2.2] : List Bound) s1.2.2).Unknown]) rfl rfl rfl rfl ti33 rfl rfl rfl rfl rfl (RunC.fin (AWP.sq (AWP.joinX (fun z5 : Bool => LS.mk [(2, iV s1.1), (3, iV s1.2.1), (6, .ptr 0 0 0), (8, aggV (α := Bound × Bound × Bound) true p), (9, iV s1.2.2), (28, bV z5)] (lblks 0 [boxB (α := Bound) true (gt ([p.1, p.2.1, p.2.2] : List Bound) s1.2.2)]) 1) hR (fun o5 hR => ?_) fun z5 hR => ?_))))
   ·refine AWP.rgC 84 rfl rfl (ldB (v := .agg _) rfl rfl rfl rfl ti33 rfl rfl ?_)
    obtain ⟨r6, hr6, hR⟩ := bindE hR
    refine cls [] rfl rfl cb38 (ok38 (gt ([p.1, p.2.1, p.2.2] : List Bound) s1.2.2) _ hr6) (.cons (.agg .z3 rfl) (.nil)) (.inr rfl) rfl (pS rfl (pS rfl (brR hR (fun h7 hR => ?_) fun h7 hR => ?_)))
    ·refine sk (skW rfl rfl rfl h7) (sk (skW rfl rfl rfl h7) (pkT (v := bV true) rfl rfl h7 rfl (pS rfl (sk (skW rfl rfl rfl rfl) (sk (skW rfl rfl rfl rfl) (sk (skW rfl rfl rfl rfl) (pkT (v := bV true) rfl rfl rfl rfl (pS rfl (sk (skW rfl rfl rfl rfl) (sk (skW rfl rfl rfl rfl) (sk (skW rfl rfl rfl rfl) (pkT (v := bV true) rfl rfl rfl rfl (RunC.fin ?_)))))))))))))
     have hR := Option.some.inj hR; subst hR
     exact Weak.turnL [(8, 0)] [] rfl rfl (tc (.sc _) (tc (.sc _) (tc (trP' rfl rfl rfl rfl) (tc (.agg .z9 rfl) (tc (.sc _) (tc (.sc _) tn)))))) (mc rfl (.box rfl .z3 rfl) mn)
    ·refine fa (wtG rfl rfl rfl h7) rfl ti33 rfl rfl ti4 rfl (ldB (v := .sc _) (wtG rfl rfl rfl h7) rfl rfl rfl ti4 rfl rfl (pkF (v := bV (gt ([p.1, p.2.1, p.2.2] : List Bound) s1.2.2).Unknown) rfl rfl h7 rfl (pS rfl (brR hR (fun h8 hR => ?_) fun h8 hR => ?_))))
     ·refine sk (skW rfl rfl rfl h8) (sk (skW rfl rfl rfl h8) (sk (skW rfl rfl rfl h8) (pkT (v := bV true) rfl rfl h8 rfl (pS rfl (sk (skW rfl rfl rfl rfl) (sk (skW rfl rfl rfl rfl) (sk (skW rfl rfl rfl rfl) (pkT (v := bV true) rfl rfl rfl rfl (RunC.fin ?_)))))))))
      have hR := Option.some.inj hR; subst hR
      exact Weak.turnL [(8, 0)] [] rfl rfl (tc (.sc _) (tc (.sc _) (tc (trP' rfl rfl rfl rfl) (tc (.agg .z9 rfl) (tc (.sc _) (tc (.sc _) tn)))))) (mc rfl (.box rfl .z3 rfl) mn)
     ·refine fa (wtG rfl rfl rfl h8) rfl ti33 rfl rfl ti31 rfl (ldB (v := .sc _) (wtG rfl rfl rfl h8) rfl rfl rfl ti31 rfl rfl ?_)
      obtain ⟨v9, ev9, hR⟩ := letE hR
      refine pu (v := .sc _) (wtG rfl rfl rfl h8) rfl (fun _ => puB ev9) (pkF (v := bV v9) rfl rfl h8 rfl (pS rfl (brR hR (fun h10 hR => ?_) fun h10 hR => ?_)))
      ·refine sk (skW rfl rfl rfl h10) (sk (skW rfl rfl rfl h10) (sk (skW rfl rfl rfl h10) (pkT (v := bV true) rfl rfl h10 rfl (RunC.fin ?_))))
       have hR := Option.some.inj hR; subst hR
       exact Weak.turnL [(8, 0)] [] rfl rfl (tc (.sc _) (tc (.sc _) (tc (trP' rfl rfl rfl rfl) (tc (.agg .z9 rfl) (tc (.sc _) (tc (.sc _) tn)))))) (mc rfl (.box rfl .z3 rfl) mn)
      ·refine fa (wtG rfl rfl rfl h10) rfl ti33 rfl rfl ti31 rfl (ldB (v := .sc _) (wtG rfl rfl rfl h10) rfl rfl rfl ti31 rfl rfl ?_)
       obtain ⟨v11, ev11, hR⟩ := letE hR
       refine pu (v := .sc _) (wtG rfl rfl rfl h10) rfl (fun _ => puB ev11) (pkF (v := bV v11) rfl rfl h10 rfl (RunC.fin ?_))
       have hR := Option.some.inj hR; subst hR
       exact Weak.turnL [(8, 0)] [] rfl rfl (tc (.sc _) (tc (.sc _) (tc (trP' rfl rfl rfl rfl) (tc (.agg .z9 rfl) (tc (.sc _) (tc (.sc _) tn)))))) (mc rfl (.box rfl .z3 rfl) mn)
   ·refine AWP.cd hR rfl (fun h12 hR => ?_) fun h12 hR => ?_
    ·refine AWP.sq (AWP.rgC 13 rfl rfl (pS rfl (pS rfl (pS rfl (RunC.fin (AWP.ret (rtT (rtB (rtT (rtT (rtB (rtT ?_))))))))))))
     replace hR := escL hR hE1
     refine rtT ?_
     have hR := Option.some.inj hR; subst hR
     exact hQ _ _ (LS.mk [(2, iV 0), (3, iV 0), (4, bV false)] (lblks 0 []) 0) (.tup [iV 0, iV 0, bV false]) [] (.inr rfl) (Weak.turnL [] [] rfl rfl (tc (.sc _) (tc (.sc _) (tc (.sc _) tn))) mn) (ro3 (rvT (v := iV 0) rfl) (rvT (v := iV 0) rfl) (rvT (v := bV false) rfl)) rfl rfl (.tup .z3) pn
    ·refine AWP.skip (skT (AWP.sq (AWP.rgC 17 rfl rfl (ldB (v := .agg _) rfl rfl rfl rfl ti33 rfl rfl ?_))))
     obtain ⟨r13, hr13, hR⟩ := bindE hR
     refine cls [] rfl rfl cb88 (ok88 (gt ([p.1, p.2.1, p.2.2] : List Bound) s1.2.2) _ hr13) (.cons (.agg .z3 rfl) (.nil)) (.inr rfl) rfl (al (cs := [iV 0, iV 0, bV false]) 9 rfl rfl ti33 rfl rfl (stB (cs' := [iV r13.Lo, iV r13.Hi, bV r13.Unknown]) rfl rfl rfl rfl ti33 rfl rfl rfl rfl rfl (RunC.fin (AWP.rgD 57 [0, 0, 2, 7, 0, 0, 32, 112, 15, 511] ⟨[], [none, none, some [9], none, none, none, some [9], none, none, none]⟩ hmix (by kernel_rfl) rfl rfl ?_))))
     refine pS rfl (fa rfl rfl ti33 rfl rfl ti31 rfl (ldB (v := .sc _) rfl rfl rfl rfl ti31 rfl rfl (pS rfl (pS rfl (fa rfl rfl ti33 rfl rfl ti31 rfl (ldB (v := .sc _) rfl rfl rfl rfl ti31 rfl rfl (pS rfl (pS rfl (pS rfl (RunC.blk (RunC.fin (AWP.rgC 65 rfl rfl (pS rfl (pS rfl (RunC.fin (⟨(w6 (s1.1 + r13.Lo), w6 (s1.2.1 + r13.Hi), w6 (s1.2.2 + 1)), (Option.some.inj hR).symm, ?_⟩))))))))))))))))
     exact Weak.turnL [] [] rfl rfl (tc (.sc _) (tc (.sc _) (tc (.agg .z9 rfl) (tc (.sc _) tn)))) mn
  ·refine AWP.exit (exT (exT (exH (skT (⟨(s1.1, s1.2.1), (Option.some.inj hR).symm, ?_⟩)))))
   exact Weak.turnL [] [] rfl rfl (tc (.sc _) (tc (.sc _) tn)) mn
 ·refine skT (AWP.sq (AWP.rgC 28 rfl rfl (pS rfl ?_)))
  obtain ⟨r14, hr14, hR⟩ := bindE hR
  refine cls [] rfl rfl cb52 (ok52 z2.1 _ hr14) (.cons (.sc _) .nil) (.inr rfl) rfl (pS rfl ?_)
  obtain ⟨r15, hr15, hR⟩ := bindE hR
  refine cls [] rfl rfl cb52 (ok52 z2.2 _ hr15) (.cons (.sc _) .nil) (.inr rfl) rfl (pS rfl (pS rfl (pS rfl (RunC.fin (AWP.ret ?_)))))
  have hR := Option.some.inj hR; subst hR
  exact hQ _ _ (LS.mk [(2, iV r14), (3, iV r15), (4, bV true)] (lblks 0 []) 0) (.tup [iV r14, iV r15, bV true]) [] (.inr rfl) (Weak.turnL [] [] rfl rfl (tc (.sc _) (tc (.sc _) (tc (.sc _) tn))) mn) (ro3 (rvT (v := iV r14) rfl) (rvT (v := iV r15) rfl) (rvT (v := bV true) rfl)) rfl rfl (.tup .z3) pn
theorem ok99 (x : Int) (r_ : Int) (r : Int) (hR : predict_part x r_ = some r) : FnP Tryz.prog 99 [.sc (.int .i64 x), .sc (.int .i64 r_)] (.sc (.int .i64 r)) := by
 refine fnP_of (FnX.walk Tryz.func99 rfl 26 0 (by simp [Tryz.ntmps99]) rfl fun W S F Q hQ => ?_)
 unfold predict_part at hR
 refine AWP.sq (AWP.rgC 4 rfl rfl (pS rfl (RunC.fin (AWP.sq (AWP.rgC 48 rfl rfl (pS rfl (pS rfl (pS rfl (pS rfl (pS rfl ?_))))))))))
 obtain ⟨r1, hr1, hR⟩ := bindE hR
 refine cls [] rfl rfl cb54 (ok54 9007199254740992 (mx2 x (w6 (0 - x))) r_ _ hr1) .z3 (.inr rfl) rfl (pu (v := .tup _) rfl rfl (fun _ => rfl) (pS rfl (pS rfl (pS rfl (pS rfl (RunC.fin (AWP.sq (AWP.rgC 72 rfl rfl (pS rfl (pS rfl (pS rfl (pS rfl ?_))))))))))))
 obtain ⟨h2, hR⟩ := chkE hR
 refine qu rfl rfl rfl h2 rfl ?_
 refine pS rfl (RunC.fin (AWP.sq (AWP.sq (AWP.rgC 80 rfl rfl (pS rfl (pS rfl (RunC.fin (AWP.cd hR rfl (fun h3 hR => ?_) fun h3 hR => ?_))))))))
 ·refine AWP.sq (AWP.rgC 92 rfl rfl (pS rfl (pS rfl (pS rfl (RunC.fin (AWP.ret (rtT ?_)))))))
  have hR := Option.some.inj hR; subst hR
  exact hQ _ _ (LS.mk [(4, iV (w6 (0 - (w6 (Int.tdiv r1.1 (w6 (r_ * r_)))))))] (lblks 0 []) 0) (iV (w6 (0 - (w6 (Int.tdiv r1.1 (w6 (r_ * r_))))))) [] (.inr rfl) (Weak.turnL [] [] rfl rfl (tc (.sc _) tn) mn) (ro1 (rvT (v := iV (w6 (0 - (w6 (Int.tdiv r1.1 (w6 (r_ * r_))))))) rfl)) rfl rfl (.sc _) pn
 ·refine AWP.skip (skT (AWP.sq (AWP.rgC 88 rfl rfl (pS rfl (pS rfl (RunC.fin (AWP.ret ?_)))))))
  have hR := Option.some.inj hR; subst hR
  exact hQ _ _ (LS.mk [(4, iV (w6 (Int.tdiv r1.1 (w6 (r_ * r_)))))] (lblks 0 []) 0) (iV (w6 (Int.tdiv r1.1 (w6 (r_ * r_))))) [] (.inr rfl) (Weak.turnL [] [] rfl rfl (tc (.sc _) tn) mn) (ro1 (rvT (v := iV (w6 (Int.tdiv r1.1 (w6 (r_ * r_))))) rfl)) rfl rfl (.sc _) pn
end Go.Proofs.Ids
