/- Each function of the program computes its plain function. Conditions: as each theorem states them. -/
import Derived.Test.YtojlcejbgkjhmaaA4
import Derived.Shelf.SlSortCmp.WholeK
import Derived.WalkKit
import Derived.Maps.Own
import Derived.Test.YtojlcejbgkjhmaaT
import Derived.Test.YtojlcejbgkjhmaaP0
namespace Go.Proofs.Pet
open Go Go.Abs Lf
set_option linter.unusedVariables false
set_option linter.unusedSimpArgs false
set_option maxRecDepth 100000
set_option maxHeartbeats 1000000
theorem ok21 (s1_ : List Int) (s2_ : List Int) (r : Bool) (hR : slices_Equal_Int s1_ s2_ = some r) : FnP Try.prog 21 [rowV false s1_, rowV false s2_] (.sc (.bool r)) := by
  refine fnP_of (FnX.walk Try.func21 rfl 26 0 (by simp [Try.ntmps21]) rfl fun W S F Q hQ => ?_)
  unfold slices_Equal_Int at hR
  refine AWP.sq ?_
  refine AWP.rgC 4 rfl rfl ?_
  refine pu (v := .sc _) rfl rfl (fun _ => rfl) ?_
  refine RunC.fin ?_
  refine AWP.sq ?_
  refine AWP.sq ?_
  refine AWP.rgC 24 rfl rfl ?_
  refine pu (v := rowV _ s1_) rfl rfl (fun _ => rfl) ?_
  refine lenL (α := Int) rfl rfl ti41 rfl ?_
  refine pu (v := rowV _ s2_) rfl rfl (fun _ => rfl) ?_
  refine lenL (α := Int) rfl rfl ti41 rfl ?_
  refine pu (v := .sc _) rfl rfl (fun _ => rfl) ?_
  refine RunC.fin ?_
  refine AWP.cd hR rfl (fun h1 hR => ?_) fun h1 hR => ?_
  · refine AWP.sq ?_
    refine AWP.rgC 28 rfl rfl ?_
    refine pu (v := .sc _) rfl rfl (fun _ => rfl) ?_
    refine RunC.fin ?_
    refine AWP.ret ?_
    refine rtT ?_
    have hR := Option.some.inj hR; subst hR
    exact hQ _ _ (LS.mk [(4, .sc (.bool false))] (lblks 0 []) 0) (.sc (.bool false)) [] (.inr rfl) (Weak.turnL [] [] rfl rfl (tc (.sc _) tn) mn) (ro1 (rvT (v := .sc (.bool false)) rfl)) rfl rfl (.sc _) pn
  · refine AWP.skip ?_
    refine skT ?_
    refine AWP.sq ?_
    refine AWP.sq ?_
    refine AWP.rgC 36 rfl rfl ?_
    refine pu (v := rowV _ s1_) rfl rfl (fun _ => rfl) ?_
    refine lenL (α := Int) rfl rfl ti41 rfl ?_
    refine pu (v := .sc _) rfl rfl (fun _ => rfl) ?_
    refine RunC.fin ?_
    refine AWP.loopK' (fun s2 : Int => LS.mk [(0, rowV (α := Int) false s1_), (1, rowV (α := Int) false s2_), (12, .sc (.int .i64 (s1_.length : Int))), (13, .sc (.int .i64 s2))] (lblks 0 []) 0) (fun z3 : Unit => LS.mk [] (lblks 0 []) 0) (slices_Equal_Int.l1 s1_ s2_) hR (s0 := 0) (Weak.turnL [] [] rfl rfl (tc trR1 (tc trR1 (tc (.sc _) (tc (.sc _) tn)))) mn) (fun s2 o2 hR hE2 => ?_) fun z3 hR => ?_
    · unfold slices_Equal_Int.l1 at hR
      refine AWP.sq ?_
      refine AWP.rgC 4 rfl rfl ?_
      refine pu (v := .sc _) rfl rfl (fun _ => rfl) ?_
      refine RunC.fin ?_
      refine AWP.sq ?_
      refine AWP.cd hR rfl (fun h4 hR => ?_) fun h4 hR => ?_
      · refine AWP.skip ?_
        refine skT ?_
        refine AWP.sq ?_
        refine AWP.block ?_
        refine AWP.sq ?_
        refine AWP.rgC 12 rfl rfl ?_
        refine pu (v := .sc _) rfl rfl (fun _ => rfl) ?_
        refine pu (v := .sc _) rfl rfl (fun _ => rfl) ?_
        refine RunC.fin ?_
        refine AWP.sq ?_
        refine AWP.rgD 48 [0, 0, 3, 7, 0, 0, 48, 112, 255] ⟨[], [none, none, none, some [], none, none, none, some [], none]⟩ hmix (by kernel_rfl) rfl rfl ?_
        refine pu (v := rowV _ s1_) rfl rfl (fun _ => rfl) ?_
        refine pu (v := .sc _) rfl rfl (fun _ => rfl) ?_
        obtain ⟨h5, hR⟩ := chkE hR
        refine ixL (α := Int) rfl rfl rfl ti41 rfl ti30 rfl h5 ?_
        refine ldR (v := .sc _) rfl rfl ti30 rfl ?_
        refine pu (v := rowV _ s2_) rfl rfl (fun _ => rfl) ?_
        refine pu (v := .sc _) rfl rfl (fun _ => rfl) ?_
        obtain ⟨h6, hR⟩ := chkE hR
        refine ixL (α := Int) rfl rfl rfl ti41 rfl ti30 rfl h6 ?_
        refine ldR (v := .sc _) rfl rfl ti30 rfl ?_
        refine pu (v := .sc _) rfl rfl (fun _ => rfl) ?_
        refine RunC.fin ?_
        refine AWP.cd hR rfl (fun h7 hR => ?_) fun h7 hR => ?_
        · refine AWP.sq ?_
          refine AWP.rgC 52 rfl rfl ?_
          refine pu (v := .sc _) rfl rfl (fun _ => rfl) ?_
          refine RunC.fin ?_
          refine AWP.ret ?_
          refine rtB ?_
          refine rtT ?_
          refine rtT ?_
          refine rtB (rtT ?_)
          replace hR := escL hR hE2
          refine rtT ?_
          have hR := Option.some.inj hR; subst hR
          exact hQ _ _ (LS.mk [(4, .sc (.bool false))] (lblks 0 []) 0) (.sc (.bool false)) [] (.inr rfl) (Weak.turnL [] [] rfl rfl (tc (.sc _) tn) mn) (ro1 (rvT (v := .sc (.bool false)) rfl)) rfl rfl (.sc _) pn
        · refine AWP.skip ?_
          refine skB ?_
          refine skT ?_
          refine AWP.rgC 56 rfl rfl ?_
          refine pu (v := .sc _) rfl rfl (fun _ => rfl) ?_
          refine pu (v := .sc _) rfl rfl (fun _ => rfl) ?_
          refine RunC.fin ?_
          refine ⟨(w6 (s2 + 1)), (Option.some.inj hR).symm, ?_⟩
          exact Weak.turnL [] [] rfl rfl (tc trR1 (tc trR1 (tc (.sc _) (tc (.sc _) tn)))) mn
      · refine AWP.exit ?_
        refine exT ?_
        refine exT ?_
        refine exH (skT ?_)
        refine ⟨(), (Option.some.inj hR).symm, ?_⟩
        exact Weak.turnL [] [] rfl rfl tn mn
    · refine skT ?_
      refine AWP.sq ?_
      refine AWP.rgC 4 rfl rfl ?_
      refine pu (v := .sc _) rfl rfl (fun _ => rfl) ?_
      refine RunC.fin ?_
      refine AWP.ret ?_
      have hR := Option.some.inj hR; subst hR
      exact hQ _ _ (LS.mk [(4, .sc (.bool true))] (lblks 0 []) 0) (.sc (.bool true)) [] (.inr rfl) (Weak.turnL [] [] rfl rfl (tc (.sc _) tn) mn) (ro1 (rvT (v := .sc (.bool true)) rfl)) rfl rfl (.sc _) pn
theorem ok20 (t : Int) (q : Int) (r : curve_Sample) (hR : spykeep4_fitted_1 t q = some r) : FnP Try.prog 20 [.sc (.int .i64 t), .sc (.int .i64 q)] (aggV (α := curve_Sample) true r) := by
  refine fnP_of (FnX.walk Try.func20 rfl 12 0 (by simp [Try.ntmps20]) rfl fun W S F Q hQ => ?_)
  unfold spykeep4_fitted_1 at hR
  refine AWP.sq ?_
  refine AWP.rgC 4 rfl rfl ?_
  refine al (cs := [.sc (.int .i64 0), .sc (.int .i64 0), .sc (.bool false), .sc (.int .i64 0), .sc (.int .i64 0), .sc (.bool false)]) 0 rfl rfl ti63 rfl rfl ?_
  refine RunC.fin ?_
  refine AWP.sq ?_
  refine AWP.rgC 36 rfl rfl ?_
  refine pu (v := .sc _) rfl rfl (fun _ => rfl) ?_
  refine pu (v := .sc _) rfl rfl (fun _ => rfl) ?_
  refine bu (cs := [.sc (.int .i64 t), .sc (.int .i64 t), .sc (.bool false)]) rfl bt61 rfl ?_
  refine pu (v := .sc _) rfl rfl (fun _ => rfl) ?_
  refine pu (v := .sc _) rfl rfl (fun _ => rfl) ?_
  refine bu (cs := [.sc (.int .i64 q), .sc (.int .i64 q), .sc (.bool false)]) rfl bt59 rfl ?_
  refine bu (cs := [.sc (.int .i64 t), .sc (.int .i64 t), .sc (.bool false), .sc (.int .i64 q), .sc (.int .i64 q), .sc (.bool false)]) rfl bt63 rfl ?_
  refine stB (cs' := [.sc (.int .i64 t), .sc (.int .i64 t), .sc (.bool false), .sc (.int .i64 q), .sc (.int .i64 q), .sc (.bool false)]) rfl rfl rfl rfl ti63 rfl rfl rfl rfl rfl ?_
  refine RunC.fin ?_
  refine AWP.ret ?_
  have hR := Option.some.inj hR; subst hR
  exact hQ _ _ (LS.mk [(4, .ptr 0 0 0)] (lblks 0 [boxB (α := curve_Sample) true (curve_Sample.mk (Bound.mk t t false) (Bound.mk q q false))]) 1) (aggV (α := curve_Sample) true (curve_Sample.mk (Bound.mk t t false) (Bound.mk q q false))) [] (.inr rfl) (Weak.turnL [(0, 0)] [] rfl rfl (tc (trP' rfl rfl rfl rfl) tn) (mc rfl (.box rfl (.cons (.sc _) (.cons (.sc _) (.cons (.sc _) (.cons (.sc _) (.cons (.sc _) (.cons (.sc _) (.nil))))))) rfl) mn)) (ro1 (rvC (v := aggV (α := curve_Sample) true (curve_Sample.mk (Bound.mk t t false) (Bound.mk q q false))) rfl rfl ti63 rfl)) rfl rfl ldA pn
theorem ok19 (l : List curve_Sample) (period : Int) (phases : Int) (r : (List Bound) × Int) (hR : curve_Table l period phases = some r) : FnP Try.prog 19 [rowV false l, .sc (.int .i64 period), .sc (.int .i64 phases)] (.tup [rowV (α := Bound) true r.1, .sc (.int .i64 r.2)]) := by
  refine fnP_of (FnX.walk Try.func19 rfl 59 0 (by simp [Try.ntmps19]) rfl fun W S F Q hQ => ?_)
  unfold curve_Table at hR
  refine AWP.sq ?_
  refine AWP.rgC 8 rfl rfl ?_
  refine pu (v := .sc _) rfl rfl (fun _ => rfl) ?_
  refine pu (v := .sc _) rfl rfl (fun _ => rfl) ?_
  refine RunC.fin ?_
  refine AWP.sq ?_
  refine AWP.rgC 44 rfl rfl ?_
  refine pu (v := rowV _ l) rfl rfl (fun _ => rfl) ?_
  refine pu (v := .sc _) rfl rfl (fun _ => rfl) ?_
  refine pu (v := .sc _) rfl rfl (fun _ => rfl) ?_
  obtain ⟨r1, hr1, hR⟩ := bindE hR
  refine cls [] rfl rfl cb30 (ok30 l period phases _ hr1) (.cons ldR' (.cons (.sc _) (.cons (.sc _) (.nil)))) (.inr rfl) rfl ?_
  refine pu (v := .tup _) rfl rfl (fun _ => rfl) ?_
  refine pu (v := rowV _ r1.1) rfl rfl (fun _ => rfl) ?_
  refine pu (v := .sc _) rfl rfl (fun _ => rfl) ?_
  refine pu (v := rowV _ r1.1) rfl rfl (fun _ => rfl) ?_
  refine pu (v := .sc _) rfl rfl (fun _ => rfl) ?_
  refine RunC.fin ?_
  refine AWP.sq ?_
  refine AWP.sq ?_
  refine AWP.rgC 52 rfl rfl ?_
  refine pu (v := .sc _) rfl rfl (fun _ => rfl) ?_
  refine pu (v := .sc _) rfl rfl (fun _ => rfl) ?_
  refine RunC.fin ?_
  refine AWP.cd hR rfl (fun h2 hR => ?_) fun h2 hR => ?_
  · refine AWP.sq ?_
    refine AWP.rgC 64 rfl rfl ?_
    refine pu (v := .sc _) rfl rfl (fun _ => rfl) ?_
    refine pu (v := .sc _) rfl rfl (fun _ => rfl) ?_
    refine pu (v := .sc _) rfl rfl (fun _ => rfl) ?_
    refine RunC.fin ?_
    refine AWP.ret ?_
    refine rtT ?_
    have hR := Option.some.inj hR; subst hR
    exact hQ _ _ (LS.mk [(6, rowV (α := Bound) true []), (7, .sc (.int .i64 r1.2))] (lblks 0 []) 0) (.tup [rowV (α := Bound) true [], .sc (.int .i64 r1.2)]) [] (.inr rfl) (Weak.turnL [] [] rfl rfl (tc trN (tc (.sc _) tn)) mn) (ro2 (rvT (v := rowV (α := Bound) true []) rfl) (rvT (v := .sc (.int .i64 r1.2)) rfl)) rfl rfl (.tup (.cons ldR' (.cons (.sc _) .nil))) pn
  · refine AWP.skip ?_
    refine skT ?_
    refine AWP.sq ?_
    refine AWP.rgC 56 rfl rfl ?_
    refine pu (v := .sc _) rfl rfl (fun _ => rfl) ?_
    refine RunC.fin ?_
    refine AWP.sq ?_
    refine AWP.sq ?_
    refine AWP.rgC 68 rfl rfl ?_
    refine pu (v := rowV _ r1.1) rfl rfl (fun _ => rfl) ?_
    refine lenL (α := List Int) rfl rfl ti85 rfl ?_
    refine pu (v := .sc _) rfl rfl (fun _ => rfl) ?_
    refine RunC.fin ?_
    refine AWP.nilT Bound 10 59 rfl ?_
    refine AWP.loopK' (fun s3 : (List Bound) × Int => LS.mk [(0, rowV (α := curve_Sample) false l), (10, slV Bound 0 0 0 s3.1.length), (27, rowV (α := List Int) true r1.1), (28, .sc (.int .i64 (r1.1.length : Int))), (29, .sc (.int .i64 s3.2))] (lblks 0 [arrB (α := Bound) 59 0 true s3.1]) 1) (fun z4 : (List Bound) => LS.mk [(10, slV Bound 0 0 0 z4.length)] (lblks 0 [arrB (α := Bound) 59 0 true z4]) 1) (curve_Table.l1 l r1) hR (s0 := (([] : List Bound), 0)) (Weak.turnL [(68, 0)] [] rfl rfl (tc trR1 (tc (trS' rfl rfl rfl rfl rfl) (tc trR1 (tc (.sc _) (tc (.sc _) tn))))) (mc rfl (btrA' rfl) mn)) (fun s3 o3 hR hE3 => ?_) fun z4 hR => ?_
    · unfold curve_Table.l1 at hR
      refine AWP.sq ?_
      refine AWP.rgC 5 rfl rfl ?_
      refine pu (v := .sc _) rfl rfl (fun _ => rfl) ?_
      refine RunC.fin ?_
      refine AWP.sq ?_
      refine AWP.cd hR rfl (fun h5 hR => ?_) fun h5 hR => ?_
      · refine AWP.skip ?_
        refine skT ?_
        refine AWP.sq ?_
        refine AWP.block ?_
        refine AWP.sq ?_
        refine AWP.rgC 17 rfl rfl ?_
        obtain ⟨h6, hR⟩ := chkE hR
        refine ixL (α := List Int) rfl rfl rfl ti85 rfl ti22 rfl h6 ?_
        refine ldR (v := rowV _ (gt r1.1 s3.2)) rfl rfl ti22 rfl ?_
        refine pu (v := rowV _ (gt r1.1 s3.2)) rfl rfl (fun _ => rfl) ?_
        refine RunC.fin ?_
        refine AWP.sq ?_
        refine AWP.rgC 29 rfl rfl ?_
        obtain ⟨r7, hr7, hR⟩ := bindE hR
        refine cls [] rfl rfl cb31 (ok31 _ hr7) (.nil) (.inr rfl) rfl ?_
        refine al (cs := [.sc (.int .i64 0), .sc (.int .i64 0), .sc (.bool false)]) 21 rfl rfl ti59 rfl rfl ?_
        refine stB (cs' := [.sc (.int .i64 r7.Lo), .sc (.int .i64 r7.Hi), .sc (.bool r7.Unknown)]) rfl rfl rfl rfl ti59 rfl rfl rfl rfl rfl ?_
        refine RunC.fin ?_
        refine AWP.sq ?_
        refine AWP.sq ?_
        refine AWP.rgC 41 rfl rfl ?_
        refine pu (v := rowV _ (gt r1.1 s3.2)) rfl rfl (fun _ => rfl) ?_
        refine lenL (α := Int) rfl rfl ti22 rfl ?_
        refine pu (v := .sc _) rfl rfl (fun _ => rfl) ?_
        refine RunC.fin ?_
        refine AWP.loopK' (fun s8 : Bound × Int => LS.mk [(0, rowV (α := curve_Sample) false l), (10, slV Bound 0 0 0 s3.1.length), (13, .ptr 1 0 0), (27, rowV (α := List Int) true r1.1), (28, .sc (.int .i64 (r1.1.length : Int))), (29, .sc (.int .i64 s3.2)), (34, rowV (α := Int) true (gt r1.1 s3.2)), (35, .sc (.int .i64 ((gt r1.1 s3.2).length : Int))), (36, .sc (.int .i64 s8.2))] (lblks 0 [arrB (α := Bound) 59 0 true s3.1, boxB (α := Bound) true s8.1]) 2) (fun z9 : Bound => LS.mk [(0, rowV (α := curve_Sample) false l), (10, slV Bound 0 0 0 s3.1.length), (13, .ptr 1 0 0), (27, rowV (α := List Int) true r1.1), (28, .sc (.int .i64 (r1.1.length : Int))), (29, .sc (.int .i64 s3.2))] (lblks 0 [arrB (α := Bound) 59 0 true s3.1, boxB (α := Bound) true z9]) 2) (curve_Table.l2 l r1 s3) hR (s0 := (r7, 0)) (Weak.turnL [(0, 0), (21, 0)] [] rfl rfl (tc trR1 (tc (trS' rfl rfl rfl rfl rfl) (tc (trP' rfl rfl rfl rfl) (tc trR1 (tc (.sc _) (tc (.sc _) (tc trR1 (tc (.sc _) (tc (.sc _) tn))))))))) (mc rfl (btrA' rfl) (mc rfl (.box rfl (.cons (.sc _) (.cons (.sc _) (.cons (.sc _) (.nil)))) rfl) mn))) (fun s8 o8 hR hE8 => ?_) fun z9 hR => ?_
        · unfold curve_Table.l2 at hR
          refine AWP.sq ?_
          refine AWP.rgC 6 rfl rfl ?_
          refine pu (v := .sc _) rfl rfl (fun _ => rfl) ?_
          refine RunC.fin ?_
          refine AWP.sq ?_
          refine AWP.cd hR rfl (fun h10 hR => ?_) fun h10 hR => ?_
          · refine AWP.skip ?_
            refine skT ?_
            refine AWP.sq ?_
            refine AWP.block ?_
            refine AWP.sq ?_
            refine AWP.rgC 18 rfl rfl ?_
            obtain ⟨h11, hR⟩ := chkE hR
            refine ixL (α := Int) rfl rfl rfl ti22 rfl ti3 rfl h11 ?_
            refine ldR (v := .sc _) rfl rfl ti3 rfl ?_
            refine pu (v := .sc _) rfl rfl (fun _ => rfl) ?_
            refine RunC.fin ?_
            refine AWP.sq ?_
            refine AWP.rgC 22 rfl rfl ?_
            refine pu (v := .sc _) rfl rfl (fun _ => rfl) ?_
            refine RunC.fin ?_
            refine AWP.sq ?_
            refine AWP.rgD 70 [0, 0, 0, 6, 14, 30, 63, 127, 255, 255, 511, 2047] ⟨[], [some [1], none, none, none, none, some [], none, none, none, none, some [1], none]⟩ hmix (by kernel_rfl) rfl rfl ?_
            refine ldB (v := .agg _) rfl rfl rfl rfl ti59 rfl rfl ?_
            refine pu (v := rowV _ l) rfl rfl (fun _ => rfl) ?_
            refine pu (v := .sc _) rfl rfl (fun _ => rfl) ?_
            obtain ⟨h12, hR⟩ := chkE hR
            refine ixL (α := curve_Sample) rfl rfl rfl ti35 rfl ti63 rfl h12 ?_
            refine fr rfl rfl ti63 rfl rfl ti59 rfl ?_
            refine ldR (v := .agg _) rfl rfl ti59 rfl ?_
            obtain ⟨r13, hr13, hR⟩ := bindE hR
            refine cls [] rfl rfl cb32 (ok32 s8.1 (gt l (gt (gt r1.1 s3.2) s8.2)).Light _ hr13) (.cons (.agg (.cons (.sc _) (.cons (.sc _) (.cons (.sc _) (.nil)))) rfl) (.cons (.agg (.cons (.sc _) (.cons (.sc _) (.cons (.sc _) (.nil)))) rfl) (.nil))) (.inr rfl) rfl ?_
            refine pu (v := .tup _) rfl rfl (fun _ => rfl) ?_
            refine pu (v := .agg _) rfl rfl (fun _ => rfl) ?_
            refine pu (v := .sc _) rfl rfl (fun _ => rfl) ?_
            refine stB (cs' := [.sc (.int .i64 r13.1.Lo), .sc (.int .i64 r13.1.Hi), .sc (.bool r13.1.Unknown)]) rfl rfl rfl rfl ti59 rfl rfl rfl rfl rfl ?_
            refine pu (v := .sc _) rfl rfl (fun _ => rfl) ?_
            refine RunC.fin ?_
            refine AWP.sq ?_
            refine AWP.rgC 78 rfl rfl ?_
            refine pu (v := .sc _) rfl rfl (fun _ => rfl) ?_
            refine pu (v := .sc _) rfl rfl (fun _ => rfl) ?_
            refine RunC.fin ?_
            refine AWP.cd hR rfl (fun h14 hR => ?_) fun h14 hR => ?_
            · refine AWP.sq ?_
              refine AWP.rgC 86 rfl rfl ?_
              refine pu (v := .sc _) rfl rfl (fun _ => rfl) ?_
              refine pu (v := .sc _) rfl rfl (fun _ => rfl) ?_
              refine RunC.fin ?_
              refine AWP.ret ?_
              refine rtB ?_
              refine rtT ?_
              refine rtT ?_
              refine rtB (rtT ?_)
              replace hR := escL hR hE8
              refine rtT ?_
              refine rtB ?_
              refine rtT ?_
              refine rtT ?_
              refine rtB (rtT ?_)
              replace hR := escL hR hE3
              refine rtT ?_
              have hR := Option.some.inj hR; subst hR
              exact hQ _ _ (LS.mk [(6, rowV (α := Bound) true []), (7, .sc (.int .i64 15))] (lblks 0 []) 0) (.tup [rowV (α := Bound) true [], .sc (.int .i64 15)]) [] (.inr rfl) (Weak.turnL [] [] rfl rfl (tc trN (tc (.sc _) tn)) mn) (ro2 (rvT (v := rowV (α := Bound) true []) rfl) (rvT (v := .sc (.int .i64 15)) rfl)) rfl rfl (.tup (.cons ldR' (.cons (.sc _) .nil))) pn
            · refine AWP.skip ?_
              refine skB ?_
              refine skT ?_
              refine AWP.rgC 86 rfl rfl ?_
              refine pu (v := .sc _) rfl rfl (fun _ => rfl) ?_
              refine pu (v := .sc _) rfl rfl (fun _ => rfl) ?_
              refine RunC.fin ?_
              refine ⟨(r13.1, w6 (s8.2 + 1)), (Option.some.inj hR).symm, ?_⟩
              exact Weak.turnL [(0, 0), (1, 0)] [] rfl rfl (tc trR1 (tc (trS' rfl rfl rfl rfl rfl) (tc (trP' rfl rfl rfl rfl) (tc trR1 (tc (.sc _) (tc (.sc _) (tc trR1 (tc (.sc _) (tc (.sc _) tn))))))))) (mc rfl (btrA' rfl) (mc rfl (.box rfl (.cons (.sc _) (.cons (.sc _) (.cons (.sc _) (.nil)))) rfl) mn))
          · refine AWP.exit ?_
            refine exT ?_
            refine exT ?_
            refine exH (skT ?_)
            refine ⟨s8.1, (Option.some.inj hR).symm, ?_⟩
            exact Weak.turnL [(0, 0), (1, 0)] [] rfl rfl (tc trR1 (tc (trS' rfl rfl rfl rfl rfl) (tc (trP' rfl rfl rfl rfl) (tc trR1 (tc (.sc _) (tc (.sc _) tn)))))) (mc rfl (btrA' rfl) (mc rfl (.box rfl (.cons (.sc _) (.cons (.sc _) (.cons (.sc _) (.nil)))) rfl) mn))
        · refine skT ?_
          refine AWP.rgC 22 rfl rfl ?_
          refine pu (v := slV Bound _ _ _ _) rfl rfl (fun _ => rfl) ?_
          refine ldB (v := .agg _) rfl rfl rfl rfl ti59 rfl rfl ?_
          refine bs (α := Bound) 10 true ([z9] : List Bound) rfl rfl ti69 rfl ti59 rfl rfl rfl rfl rfl ?_
          obtain ⟨h15, hR⟩ := chkE hR
          refine ap' (α := Bound) (nw := true) (xs := s3.1) (ys := ([z9] : List Bound)) rfl rfl rfl rfl (srcS' rfl rfl rfl) ti69 rfl ti59 rfl h15 rfl ?_
          refine pu (v := slV Bound _ _ _ _) rfl rfl (fun _ => rfl) ?_
          refine RunC.blk ?_
          refine RunC.fin ?_
          refine AWP.rgC 30 rfl rfl ?_
          refine pu (v := .sc _) rfl rfl (fun _ => rfl) ?_
          refine pu (v := .sc _) rfl rfl (fun _ => rfl) ?_
          refine RunC.fin ?_
          refine ⟨(s3.1 ++ ([z9] : List Bound), w6 (s3.2 + 1)), (Option.some.inj hR).symm, ?_⟩
          exact Weak.turnL [(0, 0)] [] rfl rfl (tc trR1 (tc (trS' rfl rfl rfl rfl rfl) (tc trR1 (tc (.sc _) (tc (.sc _) tn))))) (mc rfl (btrA' rfl) mn)
      · refine AWP.exit ?_
        refine exT ?_
        refine exT ?_
        refine exH (skT ?_)
        refine ⟨s3.1, (Option.some.inj hR).symm, ?_⟩
        exact Weak.turnL [(0, 0)] [] rfl rfl (tc (trS' rfl rfl rfl rfl rfl) tn) (mc rfl (btrA' rfl) mn)
    · refine skT ?_
      refine AWP.sq ?_
      refine AWP.rgC 13 rfl rfl ?_
      refine pu (v := slV Bound _ _ _ _) rfl rfl (fun _ => rfl) ?_
      refine pu (v := slV Bound _ _ _ _) rfl rfl (fun _ => rfl) ?_
      refine pu (v := .sc _) rfl rfl (fun _ => rfl) ?_
      refine RunC.fin ?_
      refine AWP.ret ?_
      have hR := Option.some.inj hR; subst hR
      exact hQ _ _ (LS.mk [(6, rowV (α := Bound) true z4), (7, .sc (.int .i64 0))] (lblks 0 []) 0) (.tup [rowV (α := Bound) true z4, .sc (.int .i64 0)]) [] (.inr rfl) (Weak.turnL [] [0] rfl rfl (tc (trF' rfl rfl id rfl) (tc (.sc _) tn)) mn) (ro2 (rvT (v := rowV (α := Bound) true z4) rfl) (rvT (v := .sc (.int .i64 0)) rfl)) rfl rfl (.tup (.cons ldR' (.cons (.sc _) .nil))) pn
theorem ok18 (a : period_Ask) (r : Int) (hR : period_Check a = some r) : FnP Try.prog 18 [aggV false a] (.sc (.int .i64 r)) := by
  refine fnP_of (FnX.walk Try.func18 rfl 63 0 (by simp [Try.ntmps18]) rfl fun W S F Q hQ => ?_)
  unfold period_Check at hR
  refine AWP.sq ?_
  refine AWP.rgC 8 rfl rfl ?_
  refine bx (cs := _) 0 rfl rfl rfl ?_
  refine pu (v := .sc _) rfl rfl (fun _ => rfl) ?_
  refine RunC.fin ?_
  refine AWP.sq ?_
  refine AWP.rgC 20 rfl rfl ?_
  refine fa rfl rfl ti40 rfl rfl ti3 rfl ?_
  refine ldB (v := .sc _) rfl rfl rfl rfl ti3 rfl rfl ?_
  refine pu (v := .sc _) rfl rfl (fun _ => rfl) ?_
  refine RunC.fin ?_
  refine AWP.sq ?_
  refine AWP.block ?_
  refine AWP.joinX (fun z1 : Bool => LS.mk [(1, .ptr 0 0 0), (3, .sc (.int .i64 a.Phases)), (6, .sc (.bool z1))] (lblks 0 [boxB (α := period_Ask) true a]) 1) hR (fun o1 hR => ?_) fun z1 hR => ?_
  · refine AWP.rgC 56 rfl rfl ?_
    refine fa rfl rfl ti40 rfl rfl ti3 rfl ?_
    refine ldB (v := .sc _) rfl rfl rfl rfl ti3 rfl rfl ?_
    refine pu (v := .sc _) rfl rfl (fun _ => rfl) ?_
    refine pu (v := .sc _) rfl rfl (fun _ => rfl) ?_
    refine brR hR (fun h2 hR => ?_) fun h2 hR => ?_
    · refine sk (skW rfl rfl rfl h2) ?_
      refine sk (skW rfl rfl rfl h2) ?_
      refine sk (skW rfl rfl rfl h2) ?_
      refine pkT (v := .sc (.bool true)) rfl rfl h2 rfl ?_
      refine pu (v := .sc _) rfl rfl (fun _ => rfl) ?_
      refine RunC.fin ?_
      have hR := Option.some.inj hR; subst hR
      exact Weak.turnL [(0, 0)] [] rfl rfl (tc (trP' rfl rfl rfl rfl) (tc (.sc _) (tc (.sc _) tn))) (mc rfl (.box rfl (.cons (.sc _) (.cons (.sc _) (.cons (.sc _) (.cons (.sc _) (.nil))))) rfl) mn)
    · refine fa (wtG rfl rfl rfl h2) rfl ti40 rfl rfl ti3 rfl ?_
      refine ldB (v := .sc _) (wtG rfl rfl rfl h2) rfl rfl rfl ti3 rfl rfl ?_
      refine pu (v := .sc _) (wtG rfl rfl rfl h2) rfl (fun _ => rfl) ?_
      refine pkF (v := .sc (.bool (decide (a.Phases > 16)))) rfl rfl h2 rfl ?_
      refine pu (v := .sc _) rfl rfl (fun _ => rfl) ?_
      refine RunC.fin ?_
      have hR := Option.some.inj hR; subst hR
      exact Weak.turnL [(0, 0)] [] rfl rfl (tc (trP' rfl rfl rfl rfl) (tc (.sc _) (tc (.sc _) tn))) (mc rfl (.box rfl (.cons (.sc _) (.cons (.sc _) (.cons (.sc _) (.cons (.sc _) (.nil))))) rfl) mn)
  · refine AWP.cd hR rfl (fun h3 hR => ?_) fun h3 hR => ?_
    · refine AWP.sq ?_
      refine AWP.rgC 5 rfl rfl ?_
      refine pu (v := .sc _) rfl rfl (fun _ => rfl) ?_
      refine RunC.fin ?_
      refine AWP.ret ?_
      refine rtB ?_
      refine rtT ?_
      have hR := Option.some.inj hR; subst hR
      exact hQ _ _ (LS.mk [(2, .sc (.int .i64 1))] (lblks 0 []) 0) (.sc (.int .i64 1)) [] (.inr rfl) (Weak.turnL [] [] rfl rfl (tc (.sc _) tn) mn) (ro1 (rvT (v := .sc (.int .i64 1)) rfl)) rfl rfl (.sc _) pn
    · refine AWP.joinX (fun z4 : Bool => LS.mk [(1, .ptr 0 0 0), (3, .sc (.int .i64 a.Phases)), (15, .sc (.bool z4))] (lblks 0 [boxB (α := period_Ask) true a]) 1) hR (fun o4 hR => ?_) fun z4 hR => ?_
      · refine AWP.rgC 77 rfl rfl ?_
        refine fa rfl rfl ti40 rfl rfl ti30 rfl ?_
        refine ldB (v := .sc _) rfl rfl rfl rfl ti30 rfl rfl ?_
        refine pu (v := .sc _) rfl rfl (fun _ => rfl) ?_
        refine pu (v := .sc _) rfl rfl (fun _ => rfl) ?_
        refine brR hR (fun h5 hR => ?_) fun h5 hR => ?_
        · refine sk (skW rfl rfl rfl h5) ?_
          refine sk (skW rfl rfl rfl h5) ?_
          refine sk (skW rfl rfl rfl h5) ?_
          refine pkT (v := .sc (.bool true)) rfl rfl h5 rfl ?_
          refine pu (v := .sc _) rfl rfl (fun _ => rfl) ?_
          refine sk (skW rfl rfl rfl rfl) ?_
          refine sk (skW rfl rfl rfl rfl) ?_
          refine sk (skW rfl rfl rfl rfl) ?_
          refine pkT (v := .sc (.bool true)) rfl rfl rfl rfl ?_
          refine pu (v := .sc _) rfl rfl (fun _ => rfl) ?_
          refine sk (skW rfl rfl rfl rfl) ?_
          refine sk (skW rfl rfl rfl rfl) ?_
          refine sk (skW rfl rfl rfl rfl) ?_
          refine pkT (v := .sc (.bool true)) rfl rfl rfl rfl ?_
          refine pu (v := .sc _) rfl rfl (fun _ => rfl) ?_
          refine RunC.fin ?_
          have hR := Option.some.inj hR; subst hR
          exact Weak.turnL [(0, 0)] [] rfl rfl (tc (trP' rfl rfl rfl rfl) (tc (.sc _) (tc (.sc _) tn))) (mc rfl (.box rfl (.cons (.sc _) (.cons (.sc _) (.cons (.sc _) (.cons (.sc _) (.nil))))) rfl) mn)
        · refine fa (wtG rfl rfl rfl h5) rfl ti40 rfl rfl ti30 rfl ?_
          refine ldB (v := .sc _) (wtG rfl rfl rfl h5) rfl rfl rfl ti30 rfl rfl ?_
          refine pu (v := .sc _) (wtG rfl rfl rfl h5) rfl (fun _ => rfl) ?_
          refine pkF (v := .sc (.bool (decide (a.Most > 17592186044416)))) rfl rfl h5 rfl ?_
          refine pu (v := .sc _) rfl rfl (fun _ => rfl) ?_
          refine brR hR (fun h6 hR => ?_) fun h6 hR => ?_
          · refine sk (skW rfl rfl rfl h6) ?_
            refine sk (skW rfl rfl rfl h6) ?_
            refine sk (skW rfl rfl rfl h6) ?_
            refine pkT (v := .sc (.bool true)) rfl rfl h6 rfl ?_
            refine pu (v := .sc _) rfl rfl (fun _ => rfl) ?_
            refine sk (skW rfl rfl rfl rfl) ?_
            refine sk (skW rfl rfl rfl rfl) ?_
            refine sk (skW rfl rfl rfl rfl) ?_
            refine pkT (v := .sc (.bool true)) rfl rfl rfl rfl ?_
            refine pu (v := .sc _) rfl rfl (fun _ => rfl) ?_
            refine RunC.fin ?_
            have hR := Option.some.inj hR; subst hR
            exact Weak.turnL [(0, 0)] [] rfl rfl (tc (trP' rfl rfl rfl rfl) (tc (.sc _) (tc (.sc _) tn))) (mc rfl (.box rfl (.cons (.sc _) (.cons (.sc _) (.cons (.sc _) (.cons (.sc _) (.nil))))) rfl) mn)
          · refine fa (wtG rfl rfl rfl h6) rfl ti40 rfl rfl ti30 rfl ?_
            refine ldB (v := .sc _) (wtG rfl rfl rfl h6) rfl rfl rfl ti30 rfl rfl ?_
            refine pu (v := .sc _) (wtG rfl rfl rfl h6) rfl (fun _ => rfl) ?_
            refine pkF (v := .sc (.bool (decide (a.Step < 1)))) rfl rfl h6 rfl ?_
            refine pu (v := .sc _) rfl rfl (fun _ => rfl) ?_
            refine brR hR (fun h7 hR => ?_) fun h7 hR => ?_
            · refine sk (skW rfl rfl rfl h7) ?_
              refine sk (skW rfl rfl rfl h7) ?_
              refine sk (skW rfl rfl rfl h7) ?_
              refine pkT (v := .sc (.bool true)) rfl rfl h7 rfl ?_
              refine pu (v := .sc _) rfl rfl (fun _ => rfl) ?_
              refine RunC.fin ?_
              have hR := Option.some.inj hR; subst hR
              exact Weak.turnL [(0, 0)] [] rfl rfl (tc (trP' rfl rfl rfl rfl) (tc (.sc _) (tc (.sc _) tn))) (mc rfl (.box rfl (.cons (.sc _) (.cons (.sc _) (.cons (.sc _) (.cons (.sc _) (.nil))))) rfl) mn)
            · refine fa (wtG rfl rfl rfl h7) rfl ti40 rfl rfl ti30 rfl ?_
              refine ldB (v := .sc _) (wtG rfl rfl rfl h7) rfl rfl rfl ti30 rfl rfl ?_
              refine pu (v := .sc _) (wtG rfl rfl rfl h7) rfl (fun _ => rfl) ?_
              refine pkF (v := .sc (.bool (decide (a.Step > 17592186044416)))) rfl rfl h7 rfl ?_
              refine pu (v := .sc _) rfl rfl (fun _ => rfl) ?_
              refine RunC.fin ?_
              have hR := Option.some.inj hR; subst hR
              exact Weak.turnL [(0, 0)] [] rfl rfl (tc (trP' rfl rfl rfl rfl) (tc (.sc _) (tc (.sc _) tn))) (mc rfl (.box rfl (.cons (.sc _) (.cons (.sc _) (.cons (.sc _) (.cons (.sc _) (.nil))))) rfl) mn)
      · refine AWP.cd hR rfl (fun h8 hR => ?_) fun h8 hR => ?_
        · refine AWP.sq ?_
          refine AWP.rgC 5 rfl rfl ?_
          refine pu (v := .sc _) rfl rfl (fun _ => rfl) ?_
          refine RunC.fin ?_
          refine AWP.ret ?_
          refine rtB ?_
          refine rtT ?_
          have hR := Option.some.inj hR; subst hR
          exact hQ _ _ (LS.mk [(2, .sc (.int .i64 4))] (lblks 0 []) 0) (.sc (.int .i64 4)) [] (.inr rfl) (Weak.turnL [] [] rfl rfl (tc (.sc _) tn) mn) (ro1 (rvT (v := .sc (.int .i64 4)) rfl)) rfl rfl (.sc _) pn
        · refine AWP.sq ?_
          refine AWP.rgC 25 rfl rfl ?_
          refine fa rfl rfl ti40 rfl rfl ti30 rfl ?_
          refine ldB (v := .sc _) rfl rfl rfl rfl ti30 rfl rfl ?_
          refine fa rfl rfl ti40 rfl rfl ti30 rfl ?_
          refine ldB (v := .sc _) rfl rfl rfl rfl ti30 rfl rfl ?_
          refine pu (v := .sc _) rfl rfl (fun _ => rfl) ?_
          refine pu (v := .sc _) rfl rfl (fun _ => rfl) ?_
          refine RunC.fin ?_
          refine AWP.cd hR rfl (fun h9 hR => ?_) fun h9 hR => ?_
          · refine AWP.sq ?_
            refine AWP.rgC 29 rfl rfl ?_
            refine pu (v := .sc _) rfl rfl (fun _ => rfl) ?_
            refine RunC.fin ?_
            refine AWP.ret ?_
            refine rtB ?_
            refine rtT ?_
            have hR := Option.some.inj hR; subst hR
            exact hQ _ _ (LS.mk [(2, .sc (.int .i64 11))] (lblks 0 []) 0) (.sc (.int .i64 11)) [] (.inr rfl) (Weak.turnL [] [] rfl rfl (tc (.sc _) tn) mn) (ro1 (rvT (v := .sc (.int .i64 11)) rfl)) rfl rfl (.sc _) pn
          · refine AWP.joinX (fun z10 : Bool => LS.mk [(1, .ptr 0 0 0), (40, .sc (.bool z10))] (lblks 0 [boxB (α := period_Ask) true a]) 1) hR (fun o10 hR => ?_) fun z10 hR => ?_
            · refine AWP.rgC 77 rfl rfl ?_
              refine fa rfl rfl ti40 rfl rfl ti30 rfl ?_
              refine ldB (v := .sc _) rfl rfl rfl rfl ti30 rfl rfl ?_
              refine pu (v := .sc _) rfl rfl (fun _ => rfl) ?_
              obtain ⟨h11, hR⟩ := chkE hR
              refine rm rfl rfl rfl h11 rfl ?_
              refine pu (v := .sc _) rfl rfl (fun _ => rfl) ?_
              refine pu (v := .sc _) rfl rfl (fun _ => rfl) ?_
              refine brR hR (fun h12 hR => ?_) fun h12 hR => ?_
              · refine sk (skW rfl rfl rfl h12) ?_
                refine sk (skW rfl rfl rfl h12) ?_
                refine sk (skW rfl rfl rfl h12) ?_
                refine sk (skW rfl rfl rfl h12) ?_
                refine sk (skW rfl rfl rfl h12) ?_
                refine pkT (v := .sc (.bool true)) rfl rfl h12 rfl ?_
                refine pu (v := .sc _) rfl rfl (fun _ => rfl) ?_
                refine RunC.fin ?_
                have hR := Option.some.inj hR; subst hR
                exact Weak.turnL [(0, 0)] [] rfl rfl (tc (trP' rfl rfl rfl rfl) (tc (.sc _) tn)) (mc rfl (.box rfl (.cons (.sc _) (.cons (.sc _) (.cons (.sc _) (.cons (.sc _) (.nil))))) rfl) mn)
              · refine fa (wtG rfl rfl rfl h12) rfl ti40 rfl rfl ti30 rfl ?_
                refine ldB (v := .sc _) (wtG rfl rfl rfl h12) rfl rfl rfl ti30 rfl rfl ?_
                refine pu (v := .sc _) (wtG rfl rfl rfl h12) rfl (fun _ => rfl) ?_
                refine rm (wtG rfl rfl rfl h12) rfl rfl h11 rfl ?_
                refine pu (v := .sc _) (wtG rfl rfl rfl h12) rfl (fun _ => rfl) ?_
                refine pkF (v := .sc (.bool ((Int.tmod a.Step a.Phases) != 0))) rfl rfl h12 rfl ?_
                refine pu (v := .sc _) rfl rfl (fun _ => rfl) ?_
                refine RunC.fin ?_
                have hR := Option.some.inj hR; subst hR
                exact Weak.turnL [(0, 0)] [] rfl rfl (tc (trP' rfl rfl rfl rfl) (tc (.sc _) tn)) (mc rfl (.box rfl (.cons (.sc _) (.cons (.sc _) (.cons (.sc _) (.cons (.sc _) (.nil))))) rfl) mn)
            · refine AWP.cd hR rfl (fun h13 hR => ?_) fun h13 hR => ?_
              · refine AWP.sq ?_
                refine AWP.rgC 5 rfl rfl ?_
                refine pu (v := .sc _) rfl rfl (fun _ => rfl) ?_
                refine RunC.fin ?_
                refine AWP.ret ?_
                refine rtB ?_
                refine rtT ?_
                have hR := Option.some.inj hR; subst hR
                exact hQ _ _ (LS.mk [(2, .sc (.int .i64 3))] (lblks 0 []) 0) (.sc (.int .i64 3)) [] (.inr rfl) (Weak.turnL [] [] rfl rfl (tc (.sc _) tn) mn) (ro1 (rvT (v := .sc (.int .i64 3)) rfl)) rfl rfl (.sc _) pn
              · refine AWP.sq ?_
                refine AWP.rgC 41 rfl rfl ?_
                refine fa rfl rfl ti40 rfl rfl ti30 rfl ?_
                refine ldB (v := .sc _) rfl rfl rfl rfl ti30 rfl rfl ?_
                refine fa rfl rfl ti40 rfl rfl ti30 rfl ?_
                refine ldB (v := .sc _) rfl rfl rfl rfl ti30 rfl rfl ?_
                refine pu (v := .sc _) rfl rfl (fun _ => rfl) ?_
                refine fa rfl rfl ti40 rfl rfl ti30 rfl ?_
                refine ldB (v := .sc _) rfl rfl rfl rfl ti30 rfl rfl ?_
                obtain ⟨h14, hR⟩ := chkE hR
                refine qu rfl rfl rfl h14 rfl ?_
                obtain ⟨v15, ev15, hR⟩ := letE hR
                refine pu (v := .sc _) rfl rfl (fun _ => puB ev15) ?_
                refine pu (v := .sc _) rfl rfl (fun _ => rfl) ?_
                refine RunC.fin ?_
                refine AWP.cd hR rfl (fun h16 hR => ?_) fun h16 hR => ?_
                · refine AWP.sq ?_
                  refine AWP.rgC 45 rfl rfl ?_
                  refine pu (v := .sc _) rfl rfl (fun _ => rfl) ?_
                  refine RunC.fin ?_
                  refine AWP.ret ?_
                  refine rtB ?_
                  refine rtT ?_
                  have hR := Option.some.inj hR; subst hR
                  exact hQ _ _ (LS.mk [(2, .sc (.int .i64 2))] (lblks 0 []) 0) (.sc (.int .i64 2)) [] (.inr rfl) (Weak.turnL [] [] rfl rfl (tc (.sc _) tn) mn) (ro1 (rvT (v := .sc (.int .i64 2)) rfl)) rfl rfl (.sc _) pn
                · refine AWP.skip ?_
                  refine skB ?_
                  refine skT ?_
                  refine AWP.sq ?_
                  refine AWP.rgC 45 rfl rfl ?_
                  refine pu (v := .sc _) rfl rfl (fun _ => rfl) ?_
                  refine RunC.fin ?_
                  refine AWP.ret ?_
                  have hR := Option.some.inj hR; subst hR
                  exact hQ _ _ (LS.mk [(2, .sc (.int .i64 0))] (lblks 0 []) 0) (.sc (.int .i64 0)) [] (.inr rfl) (Weak.turnL [] [] rfl rfl (tc (.sc _) tn) mn) (ro1 (rvT (v := .sc (.int .i64 0)) rfl)) rfl rfl (.sc _) pn
theorem ok15 (a : curve_Sample) (b : curve_Sample) (r : Int) (hR : spykeep4_samples_1 a b = some r) : FnP Try.prog 15 [aggV false a, aggV false b] (.sc (.int .i64 r)) := by
  refine fnP_of (FnX.walk Try.func15 rfl 26 0 (by simp [Try.ntmps15]) rfl fun W S F Q hQ => ?_)
  unfold spykeep4_samples_1 at hR
  refine AWP.sq ?_
  refine AWP.rgC 12 rfl rfl ?_
  refine bx (cs := _) 0 rfl rfl rfl ?_
  refine bx (cs := _) 4 rfl rfl rfl ?_
  refine pu (v := .sc _) rfl rfl (fun _ => rfl) ?_
  refine RunC.fin ?_
  refine AWP.sq ?_
  refine AWP.sq ?_
  refine AWP.rgC 40 rfl rfl ?_
  refine fa rfl rfl ti63 rfl rfl ti61 rfl ?_
  refine fa rfl rfl ti61 rfl rfl ti30 rfl ?_
  refine ldB (v := .sc _) rfl rfl rfl rfl ti30 rfl rfl ?_
  refine fa rfl rfl ti63 rfl rfl ti61 rfl ?_
  refine fa rfl rfl ti61 rfl rfl ti30 rfl ?_
  refine ldB (v := .sc _) rfl rfl rfl rfl ti30 rfl rfl ?_
  refine pu (v := .sc _) rfl rfl (fun _ => rfl) ?_
  refine RunC.fin ?_
  refine AWP.cd hR rfl (fun h1 hR => ?_) fun h1 hR => ?_
  · refine AWP.sq ?_
    refine AWP.rgC 72 rfl rfl ?_
    refine fa rfl rfl ti63 rfl rfl ti61 rfl ?_
    refine fa rfl rfl ti61 rfl rfl ti30 rfl ?_
    refine ldB (v := .sc _) rfl rfl rfl rfl ti30 rfl rfl ?_
    refine fa rfl rfl ti63 rfl rfl ti61 rfl ?_
    refine fa rfl rfl ti61 rfl rfl ti30 rfl ?_
    refine ldB (v := .sc _) rfl rfl rfl rfl ti30 rfl rfl ?_
    refine pu (v := .sc _) rfl rfl (fun _ => rfl) ?_
    refine pu (v := .sc _) rfl rfl (fun _ => rfl) ?_
    refine RunC.fin ?_
    refine AWP.ret ?_
    refine rtT ?_
    have hR := Option.some.inj hR; subst hR
    exact hQ _ _ (LS.mk [(4, .sc (.int .i64 (w6 (a.At.Lo - b.At.Lo))))] (lblks 0 []) 0) (.sc (.int .i64 (w6 (a.At.Lo - b.At.Lo)))) [] (.inr rfl) (Weak.turnL [] [] rfl rfl (tc (.sc _) tn) mn) (ro1 (rvT (v := .sc (.int .i64 (w6 (a.At.Lo - b.At.Lo)))) rfl)) rfl rfl (.sc _) pn
  · refine AWP.skip ?_
    refine skT ?_
    refine AWP.sq ?_
    refine AWP.rgC 72 rfl rfl ?_
    refine fa rfl rfl ti63 rfl rfl ti61 rfl ?_
    refine fa rfl rfl ti61 rfl rfl ti30 rfl ?_
    refine ldB (v := .sc _) rfl rfl rfl rfl ti30 rfl rfl ?_
    refine fa rfl rfl ti63 rfl rfl ti61 rfl ?_
    refine fa rfl rfl ti61 rfl rfl ti30 rfl ?_
    refine ldB (v := .sc _) rfl rfl rfl rfl ti30 rfl rfl ?_
    refine pu (v := .sc _) rfl rfl (fun _ => rfl) ?_
    refine pu (v := .sc _) rfl rfl (fun _ => rfl) ?_
    refine RunC.fin ?_
    refine AWP.ret ?_
    have hR := Option.some.inj hR; subst hR
    exact hQ _ _ (LS.mk [(4, .sc (.int .i64 (w6 (a.At.Hi - b.At.Hi))))] (lblks 0 []) 0) (.sc (.int .i64 (w6 (a.At.Hi - b.At.Hi)))) [] (.inr rfl) (Weak.turnL [] [] rfl rfl (tc (.sc _) tn) mn) (ro1 (rvT (v := .sc (.int .i64 (w6 (a.At.Hi - b.At.Hi)))) rfl)) rfl rfl (.sc _) pn
theorem ok13 (s : Sky) (id_ : Int) (t : Int) (r : Int × Int) (hR : sky_Rate s id_ t = some r) : FnP Try.prog 13 [aggV false s, .sc (.int .i64 id_), .sc (.int .i64 t)] (.tup [.sc (.int .i64 r.1), .sc (.int .i64 r.2)]) := by
  refine fnP_of (FnX.walk Try.func13 rfl 64 0 (by simp [Try.ntmps13]) rfl fun W S F Q hQ => ?_)
  unfold sky_Rate at hR
  refine AWP.sq ?_
  refine AWP.rgC 12 rfl rfl ?_
  refine bx (cs := _) 0 rfl rfl rfl ?_
  refine pu (v := .sc _) rfl rfl (fun _ => rfl) ?_
  refine pu (v := .sc _) rfl rfl (fun _ => rfl) ?_
  refine RunC.fin ?_
  refine AWP.sq ?_
  refine AWP.sq ?_
  refine AWP.rgC 28 rfl rfl ?_
  refine ldB (v := .agg _) rfl rfl rfl rfl ti55 rfl rfl ?_
  refine pu (v := .sc _) rfl rfl (fun _ => rfl) ?_
  obtain ⟨r1, hr1, hR⟩ := bindE hR
  refine cls [] rfl rfl cb23 (ok23 s t _ hr1) (.cons (.agg (.cons (.sc _) (.cons ldR' (.cons ldR' (.cons ldR' (.cons (.sc _) (.cons (.sc _) (.cons (.sc _) (.cons (.sc _) (.cons (.sc _) (.cons (.sc _) (.cons (.sc _) (.cons (.sc _) (.nil))))))))))))) rfl) (.cons (.sc _) (.nil))) (.inr rfl) rfl ?_
  refine pu (v := .sc _) rfl rfl (fun _ => rfl) ?_
  refine RunC.fin ?_
  refine AWP.sq ?_
  refine AWP.rgC 36 rfl rfl ?_
  refine pu (v := .sc _) rfl rfl (fun _ => rfl) ?_
  refine pu (v := .sc _) rfl rfl (fun _ => rfl) ?_
  refine RunC.fin ?_
  refine AWP.cd hR rfl (fun h2 hR => ?_) fun h2 hR => ?_
  · refine AWP.sq ?_
    refine AWP.rgC 48 rfl rfl ?_
    refine pu (v := .sc _) rfl rfl (fun _ => rfl) ?_
    refine pu (v := .sc _) rfl rfl (fun _ => rfl) ?_
    refine pu (v := .sc _) rfl rfl (fun _ => rfl) ?_
    refine RunC.fin ?_
    refine AWP.ret ?_
    refine rtT ?_
    have hR := Option.some.inj hR; subst hR
    exact hQ _ _ (LS.mk [(6, .sc (.int .i64 0)), (7, .sc (.int .i64 r1))] (lblks 0 []) 0) (.tup [.sc (.int .i64 0), .sc (.int .i64 r1)]) [] (.inr rfl) (Weak.turnL [] [] rfl rfl (tc (.sc _) (tc (.sc _) tn)) mn) (ro2 (rvT (v := .sc (.int .i64 0)) rfl) (rvT (v := .sc (.int .i64 r1)) rfl)) rfl rfl (.tup (.cons (.sc _) (.cons (.sc _) .nil))) pn
  · refine AWP.skip ?_
    refine skT ?_
    refine AWP.sq ?_
    refine AWP.sq ?_
    refine AWP.rgC 52 rfl rfl ?_
    refine fa rfl rfl ti55 rfl rfl ti49 rfl ?_
    refine ldB (v := rowV _ s.Stars) rfl rfl rfl rfl ti49 rfl rfl ?_
    refine lenL (α := Star) rfl rfl ti49 rfl ?_
    refine pu (v := .sc _) rfl rfl (fun _ => rfl) ?_
    refine RunC.fin ?_
    refine AWP.loopK' (fun s3 : Int => LS.mk [(1, .sc (.int .i64 id_)), (2, .sc (.int .i64 t)), (3, .ptr 0 0 0), (22, rowV (α := Star) false s.Stars), (23, .sc (.int .i64 (s.Stars.length : Int))), (24, .sc (.int .i64 s3))] (lblks 0 [boxB (α := Sky) false s]) 1) (fun z4 : Unit => LS.mk [(1, .sc (.int .i64 id_)), (3, .ptr 0 0 0)] (lblks 0 [boxB (α := Sky) false s]) 1) (sky_Rate.l1 s id_ t) hR (s0 := 0) (Weak.turnL [(0, 0)] [] rfl rfl (tc (.sc _) (tc (.sc _) (tc (trP' rfl rfl rfl rfl) (tc trR1 (tc (.sc _) (tc (.sc _) tn)))))) (mc rfl (.box rfl (.cons (.sc _) (.cons trR1 (.cons trR1 (.cons trR1 (.cons (.sc _) (.cons (.sc _) (.cons (.sc _) (.cons (.sc _) (.cons (.sc _) (.cons (.sc _) (.cons (.sc _) (.cons (.sc _) (.nil))))))))))))) rfl) mn)) (fun s3 o3 hR hE3 => ?_) fun z4 hR => ?_
    · unfold sky_Rate.l1 at hR
      refine AWP.sq ?_
      refine AWP.rgC 5 rfl rfl ?_
      refine pu (v := .sc _) rfl rfl (fun _ => rfl) ?_
      refine RunC.fin ?_
      refine AWP.sq ?_
      refine AWP.cd hR rfl (fun h5 hR => ?_) fun h5 hR => ?_
      · refine AWP.skip ?_
        refine skT ?_
        refine AWP.sq ?_
        refine AWP.block ?_
        refine AWP.sq ?_
        refine AWP.rgC 21 rfl rfl ?_
        obtain ⟨h6, hR⟩ := chkE hR
        refine ixL (α := Star) rfl rfl rfl ti49 rfl ti32 rfl h6 ?_
        refine ldR (v := .agg _) rfl rfl ti32 rfl ?_
        refine al (cs := [.sc (.int .i64 0), .sc (.int .i64 0), .sc (.int .i64 0), .sc (.int .i64 0), .sc (.int .i64 0), .sc (.slice none 0 0), .sc (.int .i64 0), .sc (.int .i64 0), .sc (.int .i64 0)]) 13 rfl rfl ti32 rfl rfl ?_
        refine stB (cs' := [.sc (.int .i64 (gt s.Stars s3).ID), .sc (.int .i64 (gt s.Stars s3).At.X), .sc (.int .i64 (gt s.Stars s3).At.Y), .sc (.int .i64 (gt s.Stars s3).At.Z), .sc (.int .i64 (gt s.Stars s3).Rate), rowV (α := Int) false (gt s.Stars s3).Wave, .sc (.int .i64 (gt s.Stars s3).Period), .sc (.int .i64 (gt s.Stars s3).From), .sc (.int .i64 (gt s.Stars s3).To)]) rfl rfl rfl rfl ti32 rfl rfl rfl rfl rfl ?_
        refine RunC.fin ?_
        refine AWP.sq ?_
        refine AWP.rgC 37 rfl rfl ?_
        refine fa rfl rfl ti32 rfl rfl ti3 rfl ?_
        refine ldB (v := .sc _) rfl rfl rfl rfl ti3 rfl rfl ?_
        refine pu (v := .sc _) rfl rfl (fun _ => rfl) ?_
        refine pu (v := .sc _) rfl rfl (fun _ => rfl) ?_
        refine RunC.fin ?_
        refine AWP.cd hR rfl (fun h7 hR => ?_) fun h7 hR => ?_
        · refine AWP.sq ?_
          refine AWP.rgC 57 rfl rfl ?_
          refine ldB (v := .agg _) rfl rfl rfl rfl ti32 rfl rfl ?_
          refine pu (v := .sc _) rfl rfl (fun _ => rfl) ?_
          obtain ⟨r8, hr8, hR⟩ := bindE hR
          refine cls [] rfl rfl cb24 (ok24 (gt s.Stars s3) t _ hr8) (.cons (.agg (.cons (.sc _) (.cons (.sc _) (.cons (.sc _) (.cons (.sc _) (.cons (.sc _) (.cons ldR' (.cons (.sc _) (.cons (.sc _) (.cons (.sc _) (.nil)))))))))) rfl) (.cons (.sc _) (.nil))) (.inr rfl) rfl ?_
          refine pu (v := .sc _) rfl rfl (fun _ => rfl) ?_
          refine pu (v := .sc _) rfl rfl (fun _ => rfl) ?_
          refine RunC.fin ?_
          refine AWP.ret ?_
          refine rtB ?_
          refine rtT ?_
          refine rtT ?_
          refine rtB (rtT ?_)
          replace hR := escL hR hE3
          refine rtT ?_
          have hR := Option.some.inj hR; subst hR
          exact hQ _ _ (LS.mk [(6, .sc (.int .i64 r8)), (7, .sc (.int .i64 0))] (lblks 0 []) 0) (.tup [.sc (.int .i64 r8), .sc (.int .i64 0)]) [] (.inr rfl) (Weak.turnL [] [] rfl rfl (tc (.sc _) (tc (.sc _) tn)) mn) (ro2 (rvT (v := .sc (.int .i64 r8)) rfl) (rvT (v := .sc (.int .i64 0)) rfl)) rfl rfl (.tup (.cons (.sc _) (.cons (.sc _) .nil))) pn
        · refine AWP.skip ?_
          refine skB ?_
          refine skT ?_
          refine AWP.rgC 45 rfl rfl ?_
          refine pu (v := .sc _) rfl rfl (fun _ => rfl) ?_
          refine pu (v := .sc _) rfl rfl (fun _ => rfl) ?_
          refine RunC.fin ?_
          refine ⟨(w6 (s3 + 1)), (Option.some.inj hR).symm, ?_⟩
          exact Weak.turnL [(0, 0)] [] rfl rfl (tc (.sc _) (tc (.sc _) (tc (trP' rfl rfl rfl rfl) (tc trR1 (tc (.sc _) (tc (.sc _) tn)))))) (mc rfl (.box rfl (.cons (.sc _) (.cons trR1 (.cons trR1 (.cons trR1 (.cons (.sc _) (.cons (.sc _) (.cons (.sc _) (.cons (.sc _) (.cons (.sc _) (.cons (.sc _) (.cons (.sc _) (.cons (.sc _) (.nil))))))))))))) rfl) mn)
      · refine AWP.exit ?_
        refine exT ?_
        refine exT ?_
        refine exH (skT ?_)
        refine ⟨(), (Option.some.inj hR).symm, ?_⟩
        exact Weak.turnL [(0, 0)] [] rfl rfl (tc (.sc _) (tc (trP' rfl rfl rfl rfl) tn)) (mc rfl (.box rfl (.cons (.sc _) (.cons trR1 (.cons trR1 (.cons trR1 (.cons (.sc _) (.cons (.sc _) (.cons (.sc _) (.cons (.sc _) (.cons (.sc _) (.cons (.sc _) (.cons (.sc _) (.cons (.sc _) (.nil))))))))))))) rfl) mn)
    · refine skT ?_
      refine AWP.sq ?_
      refine AWP.sq ?_
      refine AWP.rgC 17 rfl rfl ?_
      refine fa rfl rfl ti55 rfl rfl ti50 rfl ?_
      refine ldB (v := rowV _ s.Galaxies) rfl rfl rfl rfl ti50 rfl rfl ?_
      refine lenL (α := Galaxy) rfl rfl ti50 rfl ?_
      refine pu (v := .sc _) rfl rfl (fun _ => rfl) ?_
      refine RunC.fin ?_
      refine AWP.loopK' (fun s9 : Int => LS.mk [(1, .sc (.int .i64 id_)), (3, .ptr 0 0 0), (37, rowV (α := Galaxy) false s.Galaxies), (38, .sc (.int .i64 (s.Galaxies.length : Int))), (39, .sc (.int .i64 s9))] (lblks 0 [boxB (α := Sky) false s]) 1) (fun z10 : Unit => LS.mk [(1, .sc (.int .i64 id_)), (3, .ptr 0 0 0)] (lblks 0 [boxB (α := Sky) false s]) 1) (sky_Rate.l2 s id_) hR (s0 := 0) (Weak.turnL [(0, 0)] [] rfl rfl (tc (.sc _) (tc (trP' rfl rfl rfl rfl) (tc trR1 (tc (.sc _) (tc (.sc _) tn))))) (mc rfl (.box rfl (.cons (.sc _) (.cons trR1 (.cons trR1 (.cons trR1 (.cons (.sc _) (.cons (.sc _) (.cons (.sc _) (.cons (.sc _) (.cons (.sc _) (.cons (.sc _) (.cons (.sc _) (.cons (.sc _) (.nil))))))))))))) rfl) mn)) (fun s9 o9 hR hE9 => ?_) fun z10 hR => ?_
      · unfold sky_Rate.l2 at hR
        refine AWP.sq ?_
        refine AWP.rgC 5 rfl rfl ?_
        refine pu (v := .sc _) rfl rfl (fun _ => rfl) ?_
        refine RunC.fin ?_
        refine AWP.sq ?_
        refine AWP.cd hR rfl (fun h11 hR => ?_) fun h11 hR => ?_
        · refine AWP.skip ?_
          refine skT ?_
          refine AWP.sq ?_
          refine AWP.block ?_
          refine AWP.sq ?_
          refine AWP.rgC 21 rfl rfl ?_
          obtain ⟨h12, hR⟩ := chkE hR
          refine ixL (α := Galaxy) rfl rfl rfl ti50 rfl ti78 rfl h12 ?_
          refine ldR (v := .agg _) rfl rfl ti78 rfl ?_
          refine al (cs := [.sc (.int .i64 0), .sc (.int .i64 0), .sc (.int .i64 0), .sc (.int .i64 0), .sc (.int .i64 0), .sc (.int .i64 0), .sc (.int .i64 0)]) 13 rfl rfl ti78 rfl rfl ?_
          refine stB (cs' := [.sc (.int .i64 (gt s.Galaxies s9).ID), .sc (.int .i64 (gt s.Galaxies s9).At.X), .sc (.int .i64 (gt s.Galaxies s9).At.Y), .sc (.int .i64 (gt s.Galaxies s9).At.Z), .sc (.int .i64 (gt s.Galaxies s9).Rate), .sc (.int .i64 (gt s.Galaxies s9).Wide), .sc (.int .i64 (gt s.Galaxies s9).High)]) rfl rfl rfl rfl ti78 rfl rfl rfl rfl rfl ?_
          refine RunC.fin ?_
          refine AWP.sq ?_
          refine AWP.rgC 37 rfl rfl ?_
          refine fa rfl rfl ti78 rfl rfl ti3 rfl ?_
          refine ldB (v := .sc _) rfl rfl rfl rfl ti3 rfl rfl ?_
          refine pu (v := .sc _) rfl rfl (fun _ => rfl) ?_
          refine pu (v := .sc _) rfl rfl (fun _ => rfl) ?_
          refine RunC.fin ?_
          refine AWP.cd hR rfl (fun h13 hR => ?_) fun h13 hR => ?_
          · refine AWP.sq ?_
            refine AWP.rgC 53 rfl rfl ?_
            refine fa rfl rfl ti78 rfl rfl ti28 rfl ?_
            refine ldB (v := .sc _) rfl rfl rfl rfl ti28 rfl rfl ?_
            refine pu (v := .sc _) rfl rfl (fun _ => rfl) ?_
            refine pu (v := .sc _) rfl rfl (fun _ => rfl) ?_
            refine RunC.fin ?_
            refine AWP.ret ?_
            refine rtB ?_
            refine rtT ?_
            refine rtT ?_
            refine rtB (rtT ?_)
            replace hR := escL hR hE9
            refine rtT ?_
            have hR := Option.some.inj hR; subst hR
            exact hQ _ _ (LS.mk [(6, .sc (.int .i64 (gt s.Galaxies s9).Rate)), (7, .sc (.int .i64 0))] (lblks 0 []) 0) (.tup [.sc (.int .i64 (gt s.Galaxies s9).Rate), .sc (.int .i64 0)]) [] (.inr rfl) (Weak.turnL [] [] rfl rfl (tc (.sc _) (tc (.sc _) tn)) mn) (ro2 (rvT (v := .sc (.int .i64 (gt s.Galaxies s9).Rate)) rfl) (rvT (v := .sc (.int .i64 0)) rfl)) rfl rfl (.tup (.cons (.sc _) (.cons (.sc _) .nil))) pn
          · refine AWP.skip ?_
            refine skB ?_
            refine skT ?_
            refine AWP.rgC 45 rfl rfl ?_
            refine pu (v := .sc _) rfl rfl (fun _ => rfl) ?_
            refine pu (v := .sc _) rfl rfl (fun _ => rfl) ?_
            refine RunC.fin ?_
            refine ⟨(w6 (s9 + 1)), (Option.some.inj hR).symm, ?_⟩
            exact Weak.turnL [(0, 0)] [] rfl rfl (tc (.sc _) (tc (trP' rfl rfl rfl rfl) (tc trR1 (tc (.sc _) (tc (.sc _) tn))))) (mc rfl (.box rfl (.cons (.sc _) (.cons trR1 (.cons trR1 (.cons trR1 (.cons (.sc _) (.cons (.sc _) (.cons (.sc _) (.cons (.sc _) (.cons (.sc _) (.cons (.sc _) (.cons (.sc _) (.cons (.sc _) (.nil))))))))))))) rfl) mn)
        · refine AWP.exit ?_
          refine exT ?_
          refine exT ?_
          refine exH (skT ?_)
          refine ⟨(), (Option.some.inj hR).symm, ?_⟩
          exact Weak.turnL [(0, 0)] [] rfl rfl (tc (.sc _) (tc (trP' rfl rfl rfl rfl) tn)) (mc rfl (.box rfl (.cons (.sc _) (.cons trR1 (.cons trR1 (.cons trR1 (.cons (.sc _) (.cons (.sc _) (.cons (.sc _) (.cons (.sc _) (.cons (.sc _) (.cons (.sc _) (.cons (.sc _) (.cons (.sc _) (.nil))))))))))))) rfl) mn)
      · refine skT ?_
        refine AWP.sq ?_
        refine AWP.sq ?_
        refine AWP.rgC 17 rfl rfl ?_
        refine fa rfl rfl ti55 rfl rfl ti51 rfl ?_
        refine ldB (v := rowV _ s.Bodies) rfl rfl rfl rfl ti51 rfl rfl ?_
        refine lenL (α := Body) rfl rfl ti51 rfl ?_
        refine pu (v := .sc _) rfl rfl (fun _ => rfl) ?_
        refine RunC.fin ?_
        refine AWP.loopK' (fun s14 : Int => LS.mk [(1, .sc (.int .i64 id_)), (51, rowV (α := Body) false s.Bodies), (52, .sc (.int .i64 (s.Bodies.length : Int))), (53, .sc (.int .i64 s14))] (lblks 0 []) 0) (fun z15 : Unit => LS.mk [] (lblks 0 []) 0) (sky_Rate.l3 s id_) hR (s0 := 0) (Weak.turnL [] [] rfl rfl (tc (.sc _) (tc trR1 (tc (.sc _) (tc (.sc _) tn)))) mn) (fun s14 o14 hR hE14 => ?_) fun z15 hR => ?_
        · unfold sky_Rate.l3 at hR
          refine AWP.sq ?_
          refine AWP.rgC 4 rfl rfl ?_
          refine pu (v := .sc _) rfl rfl (fun _ => rfl) ?_
          refine RunC.fin ?_
          refine AWP.sq ?_
          refine AWP.cd hR rfl (fun h16 hR => ?_) fun h16 hR => ?_
          · refine AWP.skip ?_
            refine skT ?_
            refine AWP.sq ?_
            refine AWP.block ?_
            refine AWP.sq ?_
            refine AWP.rgC 20 rfl rfl ?_
            obtain ⟨h17, hR⟩ := chkE hR
            refine ixL (α := Body) rfl rfl rfl ti51 rfl ti53 rfl h17 ?_
            refine ldR (v := .agg _) rfl rfl ti53 rfl ?_
            refine al (cs := [.sc (.int .i64 0), .sc (.int .i64 0), .sc (.int .i64 0), .sc (.int .i64 0), .sc (.int .i64 0), .sc (.int .i64 0), .sc (.int .i64 0), .sc (.int .i64 0)]) 12 rfl rfl ti53 rfl rfl ?_
            refine stB (cs' := [.sc (.int .i64 (gt s.Bodies s14).ID), .sc (.int .i64 (gt s.Bodies s14).Was.X), .sc (.int .i64 (gt s.Bodies s14).Was.Y), .sc (.int .i64 (gt s.Bodies s14).Was.Z), .sc (.int .i64 (gt s.Bodies s14).Here.X), .sc (.int .i64 (gt s.Bodies s14).Here.Y), .sc (.int .i64 (gt s.Bodies s14).Here.Z), .sc (.int .i64 (gt s.Bodies s14).Rate)]) rfl rfl rfl rfl ti53 rfl rfl rfl rfl rfl ?_
            refine RunC.fin ?_
            refine AWP.sq ?_
            refine AWP.rgC 36 rfl rfl ?_
            refine fa rfl rfl ti53 rfl rfl ti3 rfl ?_
            refine ldB (v := .sc _) rfl rfl rfl rfl ti3 rfl rfl ?_
            refine pu (v := .sc _) rfl rfl (fun _ => rfl) ?_
            refine pu (v := .sc _) rfl rfl (fun _ => rfl) ?_
            refine RunC.fin ?_
            refine AWP.cd hR rfl (fun h18 hR => ?_) fun h18 hR => ?_
            · refine AWP.sq ?_
              refine AWP.rgC 52 rfl rfl ?_
              refine fa rfl rfl ti53 rfl rfl ti28 rfl ?_
              refine ldB (v := .sc _) rfl rfl rfl rfl ti28 rfl rfl ?_
              refine pu (v := .sc _) rfl rfl (fun _ => rfl) ?_
              refine pu (v := .sc _) rfl rfl (fun _ => rfl) ?_
              refine RunC.fin ?_
              refine AWP.ret ?_
              refine rtB ?_
              refine rtT ?_
              refine rtT ?_
              refine rtB (rtT ?_)
              replace hR := escL hR hE14
              refine rtT ?_
              have hR := Option.some.inj hR; subst hR
              exact hQ _ _ (LS.mk [(6, .sc (.int .i64 (gt s.Bodies s14).Rate)), (7, .sc (.int .i64 0))] (lblks 0 []) 0) (.tup [.sc (.int .i64 (gt s.Bodies s14).Rate), .sc (.int .i64 0)]) [] (.inr rfl) (Weak.turnL [] [] rfl rfl (tc (.sc _) (tc (.sc _) tn)) mn) (ro2 (rvT (v := .sc (.int .i64 (gt s.Bodies s14).Rate)) rfl) (rvT (v := .sc (.int .i64 0)) rfl)) rfl rfl (.tup (.cons (.sc _) (.cons (.sc _) .nil))) pn
            · refine AWP.skip ?_
              refine skB ?_
              refine skT ?_
              refine AWP.rgC 44 rfl rfl ?_
              refine pu (v := .sc _) rfl rfl (fun _ => rfl) ?_
              refine pu (v := .sc _) rfl rfl (fun _ => rfl) ?_
              refine RunC.fin ?_
              refine ⟨(w6 (s14 + 1)), (Option.some.inj hR).symm, ?_⟩
              exact Weak.turnL [] [] rfl rfl (tc (.sc _) (tc trR1 (tc (.sc _) (tc (.sc _) tn)))) mn
          · refine AWP.exit ?_
            refine exT ?_
            refine exT ?_
            refine exH (skT ?_)
            refine ⟨(), (Option.some.inj hR).symm, ?_⟩
            exact Weak.turnL [] [] rfl rfl tn mn
        · refine skT ?_
          refine AWP.sq ?_
          refine AWP.rgC 8 rfl rfl ?_
          refine pu (v := .sc _) rfl rfl (fun _ => rfl) ?_
          refine pu (v := .sc _) rfl rfl (fun _ => rfl) ?_
          refine RunC.fin ?_
          refine AWP.ret ?_
          have hR := Option.some.inj hR; subst hR
          exact hQ _ _ (LS.mk [(6, .sc (.int .i64 0)), (7, .sc (.int .i64 8))] (lblks 0 []) 0) (.tup [.sc (.int .i64 0), .sc (.int .i64 8)]) [] (.inr rfl) (Weak.turnL [] [] rfl rfl (tc (.sc _) (tc (.sc _) tn)) mn) (ro2 (rvT (v := .sc (.int .i64 0)) rfl) (rvT (v := .sc (.int .i64 8)) rfl)) rfl rfl (.tup (.cons (.sc _) (.cons (.sc _) .nil))) pn
theorem ok7 (x : Int) (n : Int) (r : Int) (hR : spymake_Below x n = some r) : FnP Try.prog 7 [.sc (.int .i64 x), .sc (.int .i64 n)] (.sc (.int .i64 r)) := by
  refine fnP_of (FnX.walk Try.func7 rfl 16 0 (by simp [Try.ntmps7]) rfl fun W S F Q hQ => ?_)
  unfold spymake_Below at hR
  refine AWP.sq ?_
  refine AWP.rgC 4 rfl rfl ?_
  refine pu (v := .sc _) rfl rfl (fun _ => rfl) ?_
  refine RunC.fin ?_
  refine AWP.sq ?_
  refine AWP.sq ?_
  refine AWP.rgC 12 rfl rfl ?_
  refine pu (v := .sc _) rfl rfl (fun _ => rfl) ?_
  refine pu (v := .sc _) rfl rfl (fun _ => rfl) ?_
  refine RunC.fin ?_
  refine AWP.cd hR rfl (fun h1 hR => ?_) fun h1 hR => ?_
  · refine AWP.sq ?_
    refine AWP.rgC 16 rfl rfl ?_
    refine pu (v := .sc _) rfl rfl (fun _ => rfl) ?_
    refine RunC.fin ?_
    refine AWP.ret ?_
    refine rtT ?_
    have hR := Option.some.inj hR; subst hR
    exact hQ _ _ (LS.mk [(4, .sc (.int .i64 0))] (lblks 0 []) 0) (.sc (.int .i64 0)) [] (.inr rfl) (Weak.turnL [] [] rfl rfl (tc (.sc _) tn) mn) (ro1 (rvT (v := .sc (.int .i64 0)) rfl)) rfl rfl (.sc _) pn
  · refine AWP.skip ?_
    refine skT ?_
    refine AWP.sq ?_
    refine AWP.rgC 28 rfl rfl ?_
    refine pu (v := .sc _) rfl rfl (fun _ => rfl) ?_
    refine pu (v := .sc _) rfl rfl (fun _ => rfl) ?_
    obtain ⟨h2, hR⟩ := chkE hR
    refine rm rfl rfl rfl h2 rfl ?_
    refine pu (v := .sc _) rfl rfl (fun _ => rfl) ?_
    refine RunC.fin ?_
    refine AWP.sq ?_
    refine AWP.sq ?_
    refine AWP.rgC 36 rfl rfl ?_
    refine pu (v := .sc _) rfl rfl (fun _ => rfl) ?_
    refine pu (v := .sc _) rfl rfl (fun _ => rfl) ?_
    refine RunC.fin ?_
    refine AWP.cd hR rfl (fun h3 hR => ?_) fun h3 hR => ?_
    · refine AWP.rgC 52 rfl rfl ?_
      refine pu (v := .sc _) rfl rfl (fun _ => rfl) ?_
      refine pu (v := .sc _) rfl rfl (fun _ => rfl) ?_
      refine pu (v := .sc _) rfl rfl (fun _ => rfl) ?_
      refine pu (v := .sc _) rfl rfl (fun _ => rfl) ?_
      refine RunC.fin ?_
      refine AWP.sq ?_
      refine AWP.rgC 60 rfl rfl ?_
      refine pu (v := .sc _) rfl rfl (fun _ => rfl) ?_
      refine pu (v := .sc _) rfl rfl (fun _ => rfl) ?_
      refine RunC.fin ?_
      refine AWP.ret ?_
      have hR := Option.some.inj hR; subst hR
      exact hQ _ _ (LS.mk [(4, .sc (.int .i64 (w6 ((Int.tmod x n) + n))))] (lblks 0 []) 0) (.sc (.int .i64 (w6 ((Int.tmod x n) + n)))) [] (.inr rfl) (Weak.turnL [] [] rfl rfl (tc (.sc _) tn) mn) (ro1 (rvT (v := .sc (.int .i64 (w6 ((Int.tmod x n) + n)))) rfl)) rfl rfl (.sc _) pn
    · refine AWP.skip ?_
      refine skT ?_
      refine AWP.sq ?_
      refine AWP.rgC 44 rfl rfl ?_
      refine pu (v := .sc _) rfl rfl (fun _ => rfl) ?_
      refine pu (v := .sc _) rfl rfl (fun _ => rfl) ?_
      refine RunC.fin ?_
      refine AWP.ret ?_
      have hR := Option.some.inj hR; subst hR
      exact hQ _ _ (LS.mk [(4, .sc (.int .i64 (Int.tmod x n)))] (lblks 0 []) 0) (.sc (.int .i64 (Int.tmod x n))) [] (.inr rfl) (Weak.turnL [] [] rfl rfl (tc (.sc _) tn) mn) (ro1 (rvT (v := .sc (.int .i64 (Int.tmod x n))) rfl)) rfl rfl (.sc _) pn
theorem ok11 (s : spymake_Stream) (n : Int) (r : Int × spymake_Stream) (hR : Stream_Next s n = some r) : FnD Try.prog 11 [boxB false s] [.ptr 0 0 0, .sc (.int .i64 n)] (.sc (.int .i64 r.1)) [boxB false r.2] := by
  refine FnX.walk Try.func11 rfl 64 1 (by simp [Try.ntmps11]) rfl fun W S F Q hQ => ?_
  unfold Stream_Next at hR
  refine AWP.sq ?_
  refine AWP.rgC 5 rfl rfl ?_
  refine pu (v := .sc _) rfl rfl (fun _ => rfl) ?_
  refine RunC.fin ?_
  refine AWP.sq ?_
  refine AWP.rgC 37 rfl rfl ?_
  refine pu (v := .ptr _ _ _) rfl rfl (fun _ => rfl) ?_
  refine pu (v := .ptr _ _ _) rfl rfl (fun _ => rfl) ?_
  refine fa rfl rfl ti25 rfl rfl ti3 rfl ?_
  refine ldB (v := .sc _) rfl rfl rfl rfl ti3 rfl rfl ?_
  refine pu (v := .sc _) rfl rfl (fun _ => rfl) ?_
  refine pu (v := .ptr _ _ _) rfl rfl (fun _ => rfl) ?_
  refine fa rfl rfl ti25 rfl rfl ti3 rfl ?_
  refine stB (cs' := [rowV (α := Int) false s.L, .sc (.int .i64 (w6 (s.at_ + 1)))]) rfl rfl rfl rfl ti3 rfl rfl rfl rfl rfl ?_
  refine RunC.fin ?_
  refine AWP.sq ?_
  refine AWP.sq ?_
  refine AWP.rgC 61 rfl rfl ?_
  refine pu (v := .ptr _ _ _) rfl rfl (fun _ => rfl) ?_
  refine pu (v := .ptr _ _ _) rfl rfl (fun _ => rfl) ?_
  refine fa rfl rfl ti25 rfl rfl ti22 rfl ?_
  refine ldB (v := rowV _ s.L) rfl rfl rfl rfl ti22 rfl rfl ?_
  refine lenL (α := Int) rfl rfl ti22 rfl ?_
  refine pu (v := .sc _) rfl rfl (fun _ => rfl) ?_
  refine RunC.fin ?_
  refine AWP.cd hR rfl (fun h1 hR => ?_) fun h1 hR => ?_
  · refine AWP.sq ?_
    refine AWP.rgC 93 rfl rfl ?_
    refine pu (v := .ptr _ _ _) rfl rfl (fun _ => rfl) ?_
    refine pu (v := .ptr _ _ _) rfl rfl (fun _ => rfl) ?_
    refine fa rfl rfl ti25 rfl rfl ti3 rfl ?_
    refine ldB (v := .sc _) rfl rfl rfl rfl ti3 rfl rfl ?_
    refine pu (v := .sc _) rfl rfl (fun _ => rfl) ?_
    refine pu (v := .sc _) rfl rfl (fun _ => rfl) ?_
    obtain ⟨r2, hr2, hR⟩ := bindE hR
    refine cls [] rfl rfl cb7 (ok7 (w6 ((w6 (s.at_ + 1)) * 7919)) n _ hr2) (.cons (.sc _) (.cons (.sc _) (.nil))) (.inr rfl) rfl ?_
    refine pu (v := .sc _) rfl rfl (fun _ => rfl) ?_
    refine RunC.fin ?_
    refine AWP.ret ?_
    refine rtT ?_
    have hR := Option.some.inj hR; subst hR
    exact hQ _ _ (LS.mk [(4, .sc (.int .i64 r2))] (lblks 0 [boxB (α := spymake_Stream) false (spymake_Stream.mk s.L (w6 (s.at_ + 1)))]) 1) (.sc (.int .i64 r2)) [] (.inr rfl) (Weak.turnL [(0, 0)] [] rfl rfl (tc (.sc _) tn) (mc rfl (.box rfl (.cons trR1 (.cons (.sc _) (.nil))) rfl) mn)) (ro1 (rvT (v := .sc (.int .i64 r2)) rfl)) rfl rfl (.sc _) (pc rfl bldB pn)
  · refine AWP.skip ?_
    refine skT ?_
    refine AWP.sq ?_
    refine AWP.rgD 109 [0, 1, 3, 7, 15, 0, 32, 96, 224, 480, 1023, 2047] ⟨[], [none, none, none, some [0], none, none, none, none, some [0], none, none, none]⟩ hmix (by kernel_rfl) rfl rfl ?_
    refine pu (v := .ptr _ _ _) rfl rfl (fun _ => rfl) ?_
    refine pu (v := .ptr _ _ _) rfl rfl (fun _ => rfl) ?_
    refine fa rfl rfl ti25 rfl rfl ti3 rfl ?_
    refine ldB (v := .sc _) rfl rfl rfl rfl ti3 rfl rfl ?_
    refine pu (v := .sc _) rfl rfl (fun _ => rfl) ?_
    refine pu (v := .ptr _ _ _) rfl rfl (fun _ => rfl) ?_
    refine pu (v := .ptr _ _ _) rfl rfl (fun _ => rfl) ?_
    refine fa rfl rfl ti25 rfl rfl ti22 rfl ?_
    refine ldB (v := rowV _ s.L) rfl rfl rfl rfl ti22 rfl rfl ?_
    refine lenL (α := Int) rfl rfl ti22 rfl ?_
    obtain ⟨h3, hR⟩ := chkE hR
    refine rm rfl rfl rfl h3 rfl ?_
    refine pu (v := .sc _) rfl rfl (fun _ => rfl) ?_
    refine RunC.fin ?_
    refine AWP.sq ?_
    refine AWP.rgD 157 [0, 1, 3, 7, 15, 0, 32, 96, 224, 480, 1023, 2047] ⟨[], [none, none, none, some [0], none, none, none, none, some [0], none, none, none]⟩ hmix (by kernel_rfl) rfl rfl ?_
    refine pu (v := .ptr _ _ _) rfl rfl (fun _ => rfl) ?_
    refine pu (v := .ptr _ _ _) rfl rfl (fun _ => rfl) ?_
    refine fa rfl rfl ti25 rfl rfl ti3 rfl ?_
    refine ldB (v := .sc _) rfl rfl rfl rfl ti3 rfl rfl ?_
    refine pu (v := .sc _) rfl rfl (fun _ => rfl) ?_
    refine pu (v := .ptr _ _ _) rfl rfl (fun _ => rfl) ?_
    refine pu (v := .ptr _ _ _) rfl rfl (fun _ => rfl) ?_
    refine fa rfl rfl ti25 rfl rfl ti22 rfl ?_
    refine ldB (v := rowV _ s.L) rfl rfl rfl rfl ti22 rfl rfl ?_
    refine lenL (α := Int) rfl rfl ti22 rfl ?_
    refine qu rfl rfl rfl h3 rfl ?_
    refine pu (v := .sc _) rfl rfl (fun _ => rfl) ?_
    refine RunC.fin ?_
    refine AWP.sq ?_
    refine AWP.rgC 221 rfl rfl ?_
    refine pu (v := .ptr _ _ _) rfl rfl (fun _ => rfl) ?_
    refine pu (v := .ptr _ _ _) rfl rfl (fun _ => rfl) ?_
    refine fa rfl rfl ti25 rfl rfl ti22 rfl ?_
    refine ldB (v := rowV _ s.L) rfl rfl rfl rfl ti22 rfl rfl ?_
    refine pu (v := .sc _) rfl rfl (fun _ => rfl) ?_
    obtain ⟨h4, hR⟩ := chkE hR
    refine ixL (α := Int) rfl rfl rfl ti22 rfl ti3 rfl h4 ?_
    refine ldR (v := .sc _) rfl rfl ti3 rfl ?_
    obtain ⟨r5, hr5, hR⟩ := bindE hR
    refine cls [] rfl rfl cb7 (ok7 (gt s.L (Int.tmod (w6 ((w6 (s.at_ + 1)) - 1)) (s.L.length : Int))) 1073741824 _ hr5) (.cons (.sc _) (.cons (.sc _) (.nil))) (.inr rfl) rfl ?_
    refine pu (v := .sc _) rfl rfl (fun _ => rfl) ?_
    refine pu (v := .sc _) rfl rfl (fun _ => rfl) ?_
    obtain ⟨v6, ev6, hR⟩ := letE hR
    refine pu (v := .sc _) rfl rfl (fun _ => puI ev6) ?_
    obtain ⟨v7, ev7, hR⟩ := letE hR
    refine pu (v := .sc _) rfl rfl (fun _ => puI ev7) ?_
    refine pu (v := .sc _) rfl rfl (fun _ => rfl) ?_
    refine pu (v := .sc _) rfl rfl (fun _ => rfl) ?_
    obtain ⟨r8, hr8, hR⟩ := bindE hR
    refine cls [] rfl rfl cb7 (ok7 (w6 (r5 + v7)) n _ hr8) (.cons (.sc _) (.cons (.sc _) (.nil))) (.inr rfl) rfl ?_
    refine pu (v := .sc _) rfl rfl (fun _ => rfl) ?_
    refine RunC.fin ?_
    refine AWP.ret ?_
    have hR := Option.some.inj hR; subst hR
    exact hQ _ _ (LS.mk [(4, .sc (.int .i64 r8))] (lblks 0 [boxB (α := spymake_Stream) false (spymake_Stream.mk s.L (w6 (s.at_ + 1)))]) 1) (.sc (.int .i64 r8)) [] (.inr rfl) (Weak.turnL [(0, 0)] [] rfl rfl (tc (.sc _) tn) (mc rfl (.box rfl (.cons trR1 (.cons (.sc _) (.nil))) rfl) mn)) (ro1 (rvT (v := .sc (.int .i64 r8)) rfl)) rfl rfl (.sc _) (pc rfl bldB pn)
theorem ok12 (s : spymake_Stream) (low : Int) (high : Int) (r : Int × spymake_Stream) (hR : Stream_Range s low high = some r) : FnD Try.prog 12 [boxB false s] [.ptr 0 0 0, .sc (.int .i64 low), .sc (.int .i64 high)] (.sc (.int .i64 r.1)) [boxB false r.2] := by
  refine FnX.walk Try.func12 rfl 19 1 (by simp [Try.ntmps12]) rfl fun W S F Q hQ => ?_
  unfold Stream_Range at hR
  refine AWP.sq ?_
  refine AWP.rgC 5 rfl rfl ?_
  refine pu (v := .sc _) rfl rfl (fun _ => rfl) ?_
  refine RunC.fin ?_
  refine AWP.sq ?_
  refine AWP.sq ?_
  refine AWP.rgC 17 rfl rfl ?_
  refine pu (v := .sc _) rfl rfl (fun _ => rfl) ?_
  refine pu (v := .sc _) rfl rfl (fun _ => rfl) ?_
  refine pu (v := .sc _) rfl rfl (fun _ => rfl) ?_
  refine RunC.fin ?_
  refine AWP.cd hR rfl (fun h1 hR => ?_) fun h1 hR => ?_
  · refine AWP.sq ?_
    refine AWP.rgC 25 rfl rfl ?_
    refine pu (v := .sc _) rfl rfl (fun _ => rfl) ?_
    refine pu (v := .sc _) rfl rfl (fun _ => rfl) ?_
    refine RunC.fin ?_
    refine AWP.ret ?_
    refine rtT ?_
    have hR := Option.some.inj hR; subst hR
    exact hQ _ _ (LS.mk [(6, .sc (.int .i64 low))] (lblks 0 [boxB (α := spymake_Stream) false s]) 1) (.sc (.int .i64 low)) [] (.inr rfl) (Weak.turnL [(0, 0)] [] rfl rfl (tc (.sc _) tn) (mc rfl (.box rfl (.cons trR1 (.cons (.sc _) (.nil))) rfl) mn)) (ro1 (rvT (v := .sc (.int .i64 low)) rfl)) rfl rfl (.sc _) (pc rfl bldB pn)
  · refine AWP.skip ?_
    refine skT ?_
    refine AWP.sq ?_
    refine AWP.rgC 53 rfl rfl ?_
    refine pu (v := .sc _) rfl rfl (fun _ => rfl) ?_
    refine pu (v := .ptr _ _ _) rfl rfl (fun _ => rfl) ?_
    refine pu (v := .sc _) rfl rfl (fun _ => rfl) ?_
    refine pu (v := .sc _) rfl rfl (fun _ => rfl) ?_
    refine pu (v := .sc _) rfl rfl (fun _ => rfl) ?_
    refine pu (v := .sc _) rfl rfl (fun _ => rfl) ?_
    obtain ⟨r2, hr2, hR⟩ := bindE hR
    refine cps (res' := .sc (.int .i64 r2.1)) (ups := [(0, boxB (α := spymake_Stream) false r2.2)]) [0] 41 rfl rfl rfl cb11 (ok11 s (w6 ((w6 (high - low)) + 1)) _ hr2) (.cons (ldP rfl rfl) (.cons (.sc _) (.nil))) (pc rfl (.box (.cons ldR' (.cons (.sc _) (.nil))) rfl) pn) rfl rfl rfl rfl rfl (by first | rfl | exact renR | exact renA | exact renS | simp only [V.ren, V.rens, renR, renA, renS] | (simp only [V.ren, V.rens, renR, renA, renS]; rfl)) (by simp only [passUps, renBox, renArr]; rfl) ?_
    refine pu (v := .sc _) rfl rfl (fun _ => rfl) ?_
    refine pu (v := .sc _) rfl rfl (fun _ => rfl) ?_
    refine RunC.fin ?_
    refine AWP.ret ?_
    have hR := Option.some.inj hR; subst hR
    exact hQ _ _ (LS.mk [(6, .sc (.int .i64 (w6 (low + r2.1))))] (lblks 0 [boxB (α := spymake_Stream) false r2.2]) 1) (.sc (.int .i64 (w6 (low + r2.1)))) [] (.inr rfl) (Weak.turnL [(0, 0)] [] rfl rfl (tc (.sc _) tn) (mc rfl (.box rfl (.cons trR1 (.cons (.sc _) (.nil))) rfl) mn)) (ro1 (rvT (v := .sc (.int .i64 (w6 (low + r2.1)))) rfl)) rfl rfl (.sc _) (pc rfl bldB pn)
theorem ok10 (s : List Int) (v : Int) (r : Bool) (hR : slices_Contains_Int s v = some r) : FnP Try.prog 10 [rowV false s, .sc (.int .i64 v)] (.sc (.bool r)) := by
  refine fnP_of (FnX.walk Try.func10 rfl 9 0 (by simp [Try.ntmps10]) rfl fun W S F Q hQ => ?_)
  unfold slices_Contains_Int at hR
  refine AWP.sq ?_
  refine AWP.rgC 4 rfl rfl ?_
  refine pu (v := .sc _) rfl rfl (fun _ => rfl) ?_
  refine RunC.fin ?_
  refine AWP.sq ?_
  refine AWP.rgC 24 rfl rfl ?_
  refine pu (v := rowV _ s) rfl rfl (fun _ => rfl) ?_
  refine pu (v := .sc _) rfl rfl (fun _ => rfl) ?_
  obtain ⟨r1, hr1, hR⟩ := bindE hR
  refine cls [] rfl rfl cb22 (ok22 s v _ hr1) (.cons ldR' (.cons (.sc _) (.nil))) (.inr rfl) rfl ?_
  refine pu (v := .sc _) rfl rfl (fun _ => rfl) ?_
  refine pu (v := .sc _) rfl rfl (fun _ => rfl) ?_
  refine RunC.fin ?_
  refine AWP.ret ?_
  have hR := Option.some.inj hR; subst hR
  exact hQ _ _ (LS.mk [(4, .sc (.bool (decide (r1 ≥ 0))))] (lblks 0 []) 0) (.sc (.bool (decide (r1 ≥ 0)))) [] (.inr rfl) (Weak.turnL [] [] rfl rfl (tc (.sc _) tn) mn) (ro1 (rvT (v := .sc (.bool (decide (r1 ≥ 0)))) rfl)) rfl rfl (.sc _) pn
theorem ok8 (l : List curve_Sample) (a : period_Ask) (r : (List Int) × Int) (hR : period_Fit l a = some r) : FnP Try.prog 8 [rowV false l, aggV false a] (.tup [rowV (α := Int) true r.1, .sc (.int .i64 r.2)]) := by
  refine fnP_of (FnX.walk Try.func8 rfl 45 0 (by simp [Try.ntmps8]) rfl fun W S F Q hQ => ?_)
  unfold period_Fit at hR
  refine AWP.sq ?_
  refine AWP.rgC 12 rfl rfl ?_
  refine bx (cs := _) 0 rfl rfl rfl ?_
  refine pu (v := .sc _) rfl rfl (fun _ => rfl) ?_
  refine pu (v := .sc _) rfl rfl (fun _ => rfl) ?_
  refine RunC.fin ?_
  refine AWP.sq ?_
  refine AWP.sq ?_
  refine AWP.rgD 40 [0, 1, 0, 7, 15, 31, 63] ⟨[], [none, none, some [0], none, none, none, none]⟩ hmix (by kernel_rfl) rfl rfl ?_
  refine pu (v := rowV _ l) rfl rfl (fun _ => rfl) ?_
  obtain ⟨r1, hr1, hR⟩ := bindE hR
  refine cls [] rfl rfl cb17 (ok17 l _ hr1) (.cons ldR' (.nil)) (.inr rfl) rfl ?_
  refine ldB (v := .agg _) rfl rfl rfl rfl ti40 rfl rfl ?_
  obtain ⟨r2, hr2, hR⟩ := bindE hR
  refine cls [] rfl rfl cb18 (ok18 a _ hr2) (.cons (.agg (.cons (.sc _) (.cons (.sc _) (.cons (.sc _) (.cons (.sc _) (.nil))))) rfl) (.nil)) (.inr rfl) rfl ?_
  refine bs (α := Int) 28 true ([r1, r2] : List Int) rfl rfl ti82 rfl ti42 rfl rfl rfl rfl rfl ?_
  obtain ⟨r3, hr3, hR⟩ := bindE hR
  refine cls [28] rfl rfl cb16 (ok16 ([r1, r2] : List Int) _ hr3) (.cons (ldS' rfl rfl rfl rfl) (.nil)) (.inl (by first | rfl | exact freshR | exact freshA | (simp only [V.fresh, V.freshs, freshR, freshA, Bool.and_self]))) rfl ?_
  refine pu (v := .sc _) rfl rfl (fun _ => rfl) ?_
  refine RunC.fin ?_
  refine AWP.sq ?_
  refine AWP.rgC 48 rfl rfl ?_
  refine pu (v := .sc _) rfl rfl (fun _ => rfl) ?_
  refine pu (v := .sc _) rfl rfl (fun _ => rfl) ?_
  refine RunC.fin ?_
  refine AWP.cd hR rfl (fun h4 hR => ?_) fun h4 hR => ?_
  · refine AWP.sq ?_
    refine AWP.rgC 60 rfl rfl ?_
    refine pu (v := .sc _) rfl rfl (fun _ => rfl) ?_
    refine pu (v := .sc _) rfl rfl (fun _ => rfl) ?_
    refine pu (v := .sc _) rfl rfl (fun _ => rfl) ?_
    refine RunC.fin ?_
    refine AWP.ret ?_
    refine rtT ?_
    have hR := Option.some.inj hR; subst hR
    exact hQ _ _ (LS.mk [(4, rowV (α := Int) true []), (5, .sc (.int .i64 r3))] (lblks 0 []) 0) (.tup [rowV (α := Int) true [], .sc (.int .i64 r3)]) [] (.inr rfl) (Weak.turnL [] [] rfl rfl (tc trN (tc (.sc _) tn)) mn) (ro2 (rvT (v := rowV (α := Int) true []) rfl) (rvT (v := .sc (.int .i64 r3)) rfl)) rfl rfl (.tup (.cons ldR' (.cons (.sc _) .nil))) pn
  · refine AWP.skip ?_
    refine skT ?_
    refine AWP.sq ?_
    refine AWP.rgC 52 rfl rfl ?_
    refine pu (v := .sc _) rfl rfl (fun _ => rfl) ?_
    refine RunC.fin ?_
    refine AWP.sq ?_
    refine AWP.sq ?_
    refine AWP.rgC 64 rfl rfl ?_
    refine fa rfl rfl ti40 rfl rfl ti30 rfl ?_
    refine ldB (v := .sc _) rfl rfl rfl rfl ti30 rfl rfl ?_
    refine pu (v := .sc _) rfl rfl (fun _ => rfl) ?_
    refine RunC.fin ?_
    refine AWP.nilT Int 7 30 rfl ?_
    refine AWP.loopJ (fun s5 : (List Int) × Int => LS.mk [(0, rowV (α := curve_Sample) false l), (3, .ptr 0 0 0), (7, slV Int 1 0 0 s5.1.length), (8, .sc (.int .i64 s5.2))] (lblks 0 [boxB (α := period_Ask) true a, arrB (α := Int) 30 0 true s5.1]) 2) (fun z6 : (List Int) => LS.mk [(7, slV Int 0 0 0 z6.length)] (lblks 0 [arrB (α := Int) 30 0 true z6]) 1) (period_Fit.l1 l a) hR (s0 := (([] : List Int), a.Least)) (Weak.turnL [(0, 0), (64, 0)] [] rfl rfl (tc trR1 (tc (trP' rfl rfl rfl rfl) (tc (trS' rfl rfl rfl rfl rfl) (tc (.sc _) tn)))) (mc rfl (.box rfl (.cons (.sc _) (.cons (.sc _) (.cons (.sc _) (.cons (.sc _) (.nil))))) rfl) (mc rfl (btrA' rfl) mn))) (fun s5 o5 hR => ?_) fun z6 hR => ?_
    · unfold period_Fit.l1 at hR
      refine AWP.sq ?_
      refine AWP.sq ?_
      refine AWP.rgC 18 rfl rfl ?_
      refine pu (v := .sc _) rfl rfl (fun _ => rfl) ?_
      refine fa rfl rfl ti40 rfl rfl ti30 rfl ?_
      refine ldB (v := .sc _) rfl rfl rfl rfl ti30 rfl rfl ?_
      refine pu (v := .sc _) rfl rfl (fun _ => rfl) ?_
      refine RunC.fin ?_
      refine AWP.cd hR rfl (fun h7 hR => ?_) fun h7 hR => ?_
      · refine AWP.skip ?_
        refine skT ?_
        refine AWP.joinX (fun z8 : (List Int) => LS.mk [(0, rowV (α := curve_Sample) false l), (3, .ptr 0 0 0), (7, slV Int 1 0 0 z8.length), (8, .sc (.int .i64 s5.2))] (lblks 0 [boxB (α := period_Ask) true a, arrB (α := Int) 30 0 true z8]) 2) hR (fun o8 hR => ?_) fun z8 hR => ?_
        · refine AWP.block ?_
          refine AWP.sq ?_
          refine AWP.rgC 58 rfl rfl ?_
          refine pu (v := rowV _ l) rfl rfl (fun _ => rfl) ?_
          refine pu (v := .sc _) rfl rfl (fun _ => rfl) ?_
          refine fa rfl rfl ti40 rfl rfl ti3 rfl ?_
          refine ldB (v := .sc _) rfl rfl rfl rfl ti3 rfl rfl ?_
          obtain ⟨r9, hr9, hR⟩ := bindE hR
          refine cls [] rfl rfl cb19 (ok19 l s5.2 a.Phases _ hr9) (.cons ldR' (.cons (.sc _) (.cons (.sc _) (.nil)))) (.inr rfl) rfl ?_
          refine pu (v := .tup _) rfl rfl (fun _ => rfl) ?_
          refine pu (v := rowV _ r9.1) rfl rfl (fun _ => rfl) ?_
          refine pu (v := .sc _) rfl rfl (fun _ => rfl) ?_
          refine pu (v := rowV _ r9.1) rfl rfl (fun _ => rfl) ?_
          refine pu (v := .sc _) rfl rfl (fun _ => rfl) ?_
          refine RunC.fin ?_
          refine AWP.sq ?_
          refine AWP.rgC 66 rfl rfl ?_
          refine pu (v := .sc _) rfl rfl (fun _ => rfl) ?_
          refine pu (v := .sc _) rfl rfl (fun _ => rfl) ?_
          refine RunC.fin ?_
          refine AWP.cd hR rfl (fun h10 hR => ?_) fun h10 hR => ?_
          · refine AWP.rgC 86 rfl rfl ?_
            refine pu (v := slV Int _ _ _ _) rfl rfl (fun _ => rfl) ?_
            refine pu (v := .sc _) rfl rfl (fun _ => rfl) ?_
            refine bs (α := Int) 74 true ([s5.2] : List Int) rfl rfl ti41 rfl ti30 rfl rfl rfl rfl rfl ?_
            obtain ⟨h11, hR⟩ := chkE hR
            refine ap' (α := Int) (nw := true) (xs := s5.1) (ys := ([s5.2] : List Int)) rfl rfl rfl rfl (srcS' rfl rfl rfl) ti41 rfl ti30 rfl h11 rfl ?_
            refine pu (v := slV Int _ _ _ _) rfl rfl (fun _ => rfl) ?_
            refine RunC.blk ?_
            refine RunC.fin ?_
            have hR := Option.some.inj hR; subst hR
            exact Weak.turnL [(0, 0), (1, 0)] [] rfl rfl (tc trR1 (tc (trP' rfl rfl rfl rfl) (tc (trS' rfl rfl rfl rfl rfl) (tc (.sc _) tn)))) (mc rfl (.box rfl (.cons (.sc _) (.cons (.sc _) (.cons (.sc _) (.cons (.sc _) (.nil))))) rfl) (mc rfl (btrA' rfl) mn))
          · refine AWP.skip ?_
            refine skB ?_
            refine skT ?_
            have hR := Option.some.inj hR; subst hR
            exact Weak.turnL [(0, 0), (1, 0)] [] rfl rfl (tc trR1 (tc (trP' rfl rfl rfl rfl) (tc (trS' rfl rfl rfl rfl rfl) (tc (.sc _) tn)))) (mc rfl (.box rfl (.cons (.sc _) (.cons (.sc _) (.cons (.sc _) (.cons (.sc _) (.nil))))) rfl) (mc rfl (btrA' rfl) mn))
        · refine AWP.rgC 22 rfl rfl ?_
          refine pu (v := .sc _) rfl rfl (fun _ => rfl) ?_
          refine fa rfl rfl ti40 rfl rfl ti30 rfl ?_
          refine ldB (v := .sc _) rfl rfl rfl rfl ti30 rfl rfl ?_
          refine pu (v := .sc _) rfl rfl (fun _ => rfl) ?_
          refine pu (v := .sc _) rfl rfl (fun _ => rfl) ?_
          refine RunC.fin ?_
          refine ⟨(z8, w6 (s5.2 + a.Step)), (Option.some.inj hR).symm, ?_⟩
          exact Weak.turnL [(0, 0), (1, 0)] [] rfl rfl (tc trR1 (tc (trP' rfl rfl rfl rfl) (tc (trS' rfl rfl rfl rfl rfl) (tc (.sc _) tn)))) (mc rfl (.box rfl (.cons (.sc _) (.cons (.sc _) (.cons (.sc _) (.cons (.sc _) (.nil))))) rfl) (mc rfl (btrA' rfl) mn))
      · refine AWP.exit ?_
        refine exT ?_
        refine exT ?_
        refine exH (skT ?_)
        refine ⟨s5.1, (Option.some.inj hR).symm, ?_⟩
        exact Weak.turnL [(1, 0)] [] rfl rfl (tc (trS' rfl rfl rfl rfl rfl) tn) (mc rfl (btrA' rfl) mn)
    · refine skT ?_
      refine AWP.sq ?_
      refine AWP.rgC 13 rfl rfl ?_
      refine pu (v := slV Int _ _ _ _) rfl rfl (fun _ => rfl) ?_
      refine pu (v := slV Int _ _ _ _) rfl rfl (fun _ => rfl) ?_
      refine pu (v := .sc _) rfl rfl (fun _ => rfl) ?_
      refine RunC.fin ?_
      refine AWP.ret ?_
      have hR := Option.some.inj hR; subst hR
      exact hQ _ _ (LS.mk [(4, rowV (α := Int) true z6), (5, .sc (.int .i64 0))] (lblks 0 []) 0) (.tup [rowV (α := Int) true z6, .sc (.int .i64 0)]) [] (.inr rfl) (Weak.turnL [] [0] rfl rfl (tc (trF' rfl rfl id rfl) (tc (.sc _) tn)) mn) (ro2 (rvT (v := rowV (α := Int) true z6) rfl) (rvT (v := .sc (.int .i64 0)) rfl)) rfl rfl (.tup (.cons ldR' (.cons (.sc _) .nil))) pn
theorem ok9 (r : Bool) (hR : spykeep4_fitted = some r) : FnP Try.prog 9 [] (.sc (.bool r)) := by
  refine fnP_of (FnX.walk Try.func9 rfl 23 0 (by simp [Try.ntmps9]) rfl fun W S F Q hQ => ?_)
  unfold spykeep4_fitted at hR
  refine AWP.sq ?_
  refine AWP.rgC 4 rfl rfl ?_
  refine pu (v := .sc _) rfl rfl (fun _ => rfl) ?_
  refine RunC.fin ?_
  refine AWP.sq ?_
  refine AWP.rgC 8 rfl rfl ?_
  refine pu (v := .fn _ _) rfl rfl (fun _ => rfl) ?_
  refine RunC.fin ?_
  refine AWP.sq ?_
  refine AWP.rgC 64 rfl rfl ?_
  refine pu (v := .fn _ _) rfl rfl (fun _ => rfl) ?_
  obtain ⟨r1, hr1, hR⟩ := bindE hR
  refine cls [] rfl rfl cb20 (ok20 0 5 _ hr1) (.cons (.sc _) (.cons (.sc _) (.nil))) (.inr rfl) rfl ?_
  refine pu (v := .fn _ _) rfl rfl (fun _ => rfl) ?_
  obtain ⟨r2, hr2, hR⟩ := bindE hR
  refine cls [] rfl rfl cb20 (ok20 3 7 _ hr2) (.cons (.sc _) (.cons (.sc _) (.nil))) (.inr rfl) rfl ?_
  refine pu (v := .fn _ _) rfl rfl (fun _ => rfl) ?_
  obtain ⟨r3, hr3, hR⟩ := bindE hR
  refine cls [] rfl rfl cb20 (ok20 4 5 _ hr3) (.cons (.sc _) (.cons (.sc _) (.nil))) (.inr rfl) rfl ?_
  refine bs (α := curve_Sample) 32 true ([r1, r2, r3] : List curve_Sample) rfl rfl ti35 rfl ti63 rfl rfl rfl rfl rfl ?_
  refine bu (cs := [.sc (.int .i64 2), .sc (.int .i64 2), .sc (.int .i64 8), .sc (.int .i64 2)]) rfl bt40 rfl ?_
  obtain ⟨r4, hr4, hR⟩ := bindE hR
  refine cls [32] rfl rfl cb8 (ok8 ([r1, r2, r3] : List curve_Sample) (period_Ask.mk 2 2 8 2) _ hr4) (.cons (ldS' rfl rfl rfl rfl) (.cons (.agg (.cons (.sc _) (.cons (.sc _) (.cons (.sc _) (.cons (.sc _) (.nil))))) rfl) (.nil))) (.inl (by first | rfl | exact freshR | exact freshA | (simp only [V.fresh, V.freshs, freshR, freshA, Bool.and_self]))) rfl ?_
  refine pu (v := .tup _) rfl rfl (fun _ => rfl) ?_
  refine pu (v := rowV _ r4.1) rfl rfl (fun _ => rfl) ?_
  refine pu (v := .sc _) rfl rfl (fun _ => rfl) ?_
  refine pu (v := rowV _ r4.1) rfl rfl (fun _ => rfl) ?_
  refine pu (v := .sc _) rfl rfl (fun _ => rfl) ?_
  refine RunC.fin ?_
  refine AWP.joinX (fun z5 : Bool => LS.mk [(0, .sc (.bool z5))] (lblks 0 []) 0) hR (fun o5 hR => ?_) fun z5 hR => ?_
  · refine AWP.rgC 96 rfl rfl ?_
    refine pu (v := .sc _) rfl rfl (fun _ => rfl) ?_
    refine pu (v := .sc _) rfl rfl (fun _ => rfl) ?_
    refine pu (v := .sc _) rfl rfl (fun _ => rfl) ?_
    refine brR hR (fun h6 hR => ?_) fun h6 hR => ?_
    · refine pu (v := rowV _ r4.1) (wtG rfl rfl rfl h6) rfl (fun _ => rfl) ?_
      refine bs (α := Int) 80 true ([2, 4] : List Int) (wtG rfl rfl rfl h6) rfl ti41 rfl ti30 rfl rfl rfl rfl rfl ?_
      obtain ⟨r7, hr7, hR⟩ := bindE hR
      refine cls [80] (wtG rfl rfl rfl h6) rfl cb21 (ok21 r4.1 ([2, 4] : List Int) _ hr7) (.cons ldR' (.cons (ldS' rfl rfl rfl rfl) (.nil))) (.inl (by first | rfl | exact freshR | exact freshA | (simp only [V.fresh, V.freshs, freshR, freshA, Bool.and_self]))) rfl ?_
      refine pkT (v := .sc (.bool r7)) rfl rfl h6 rfl ?_
      refine pu (v := .sc _) rfl rfl (fun _ => rfl) ?_
      refine RunC.fin ?_
      have hR := Option.some.inj hR; subst hR
      exact Weak.turnL [] [] rfl rfl (tc (.sc _) tn) mn
    · refine sk (skW rfl rfl rfl h6) ?_
      refine sk (skW rfl rfl rfl h6) ?_
      refine sk (skW rfl rfl rfl h6) ?_
      refine pkF (v := .sc (.bool false)) rfl rfl h6 rfl ?_
      refine pu (v := .sc _) rfl rfl (fun _ => rfl) ?_
      refine RunC.fin ?_
      have hR := Option.some.inj hR; subst hR
      exact Weak.turnL [] [] rfl rfl (tc (.sc _) tn) mn
  · refine AWP.ret ?_
    have hR := Option.some.inj hR; subst hR
    exact hQ _ _ (LS.mk [(0, .sc (.bool z5))] (lblks 0 []) 0) (.sc (.bool z5)) [] (.inr rfl) (Weak.turnL [] [] rfl rfl (tc (.sc _) tn) mn) (ro1 (rvT (v := .sc (.bool z5)) rfl)) rfl rfl (.sc _) pn
theorem ok34 (data : List curve_Sample) (a : Int) (b : Int) (r : (List curve_Sample)) (hR : slices_insertionSortCmpFunc_curve_Sample_spykeep4_samples_1 data a b = some r) : FnD Try.prog 34 [arrB 63 0 false data] [slV curve_Sample 0 0 0 data.length, .sc (.int .i64 a), .sc (.int .i64 b), .fn (.func 15) []] (.tup []) [arrB 63 0 false r] := by
  refine FnX.walk Try.func34 rfl 53 1 (by simp [Try.ntmps34]) rfl fun W S F Q hQ => ?_
  unfold slices_insertionSortCmpFunc_curve_Sample_spykeep4_samples_1 at hR
  refine AWP.sq ?_
  refine AWP.rgC 13 rfl rfl ?_
  refine pu (v := .sc _) rfl rfl (fun _ => rfl) ?_
  refine pu (v := .sc _) rfl rfl (fun _ => rfl) ?_
  refine pu (v := .sc _) rfl rfl (fun _ => rfl) ?_
  refine RunC.fin ?_
  refine AWP.loopJ (fun s1 : (List curve_Sample) × Int => LS.mk [(0, slV curve_Sample 0 0 0 s1.1.length), (1, .sc (.int .i64 a)), (2, .sc (.int .i64 b)), (3, .fn (.func 15) []), (8, .sc (.int .i64 s1.2))] (lblks 0 [arrB (α := curve_Sample) 63 0 false s1.1]) 1) (fun z2 : (List curve_Sample) => LS.mk [] (lblks 0 [arrB (α := curve_Sample) 63 0 false z2]) 1) (slices_insertionSortCmpFunc_curve_Sample_spykeep4_samples_1.l1 a b) hR (s0 := (data, w6 (a + 1))) (Weak.turnL [(0, 0)] [] rfl rfl (tc (trS' rfl rfl rfl rfl rfl) (tc (.sc _) (tc (.sc _) (tc (.fn (.nil)) (tc (.sc _) tn))))) (mc rfl (btrA' rfl) mn)) (fun s1 o1 hR => ?_) fun z2 hR => ?_
  · unfold slices_insertionSortCmpFunc_curve_Sample_spykeep4_samples_1.l1 at hR
    refine AWP.sq ?_
    refine AWP.sq ?_
    refine AWP.rgC 13 rfl rfl ?_
    refine pu (v := .sc _) rfl rfl (fun _ => rfl) ?_
    refine pu (v := .sc _) rfl rfl (fun _ => rfl) ?_
    refine pu (v := .sc _) rfl rfl (fun _ => rfl) ?_
    refine RunC.fin ?_
    refine AWP.cd hR rfl (fun h3 hR => ?_) fun h3 hR => ?_
    · refine AWP.skip ?_
      refine skT ?_
      refine AWP.sq ?_
      refine AWP.block ?_
      refine AWP.sq ?_
      refine AWP.rgC 21 rfl rfl ?_
      refine pu (v := .sc _) rfl rfl (fun _ => rfl) ?_
      refine pu (v := .sc _) rfl rfl (fun _ => rfl) ?_
      refine RunC.fin ?_
      refine AWP.loopJ (fun s4 : (List curve_Sample) × Int => LS.mk [(0, slV curve_Sample 0 0 0 s4.1.length), (1, .sc (.int .i64 a)), (2, .sc (.int .i64 b)), (3, .fn (.func 15) []), (8, .sc (.int .i64 s1.2)), (9, .sc (.int .i64 s4.2))] (lblks 0 [arrB (α := curve_Sample) 63 0 false s4.1]) 1) (fun z5 : (List curve_Sample) => LS.mk [(0, slV curve_Sample 0 0 0 z5.length), (1, .sc (.int .i64 a)), (2, .sc (.int .i64 b)), (3, .fn (.func 15) []), (8, .sc (.int .i64 s1.2))] (lblks 0 [arrB (α := curve_Sample) 63 0 false z5]) 1) (slices_insertionSortCmpFunc_curve_Sample_spykeep4_samples_1.l2 a) hR (s0 := (s1.1, s1.2)) (Weak.turnL [(0, 0)] [] rfl rfl (tc (trS' rfl rfl rfl rfl rfl) (tc (.sc _) (tc (.sc _) (tc (.fn (.nil)) (tc (.sc _) (tc (.sc _) tn)))))) (mc rfl (btrA' rfl) mn)) (fun s4 o4 hR => ?_) fun z5 hR => ?_
      · unfold slices_insertionSortCmpFunc_curve_Sample_spykeep4_samples_1.l2 at hR
        refine AWP.sq ?_
        refine AWP.joinX (fun z6 : Bool => LS.mk [(0, slV curve_Sample 0 0 0 s4.1.length), (1, .sc (.int .i64 a)), (2, .sc (.int .i64 b)), (3, .fn (.func 15) []), (8, .sc (.int .i64 s1.2)), (9, .sc (.int .i64 s4.2)), (34, .sc (.bool z6))] (lblks 0 [arrB (α := curve_Sample) 63 0 false s4.1]) 1) hR (fun o6 hR => ?_) fun z6 hR => ?_
        · refine AWP.rgD 69 [0, 0, 3, 7, 15, 15, 15, 111, 239, 15, 15, 1039, 3599, 7695, 16383, 32767, 65535] ⟨[], [none, none, none, none, none, none, none, none, some [0], none, none, none, none, some [0], none, none, none]⟩ hmix (by kernel_rfl) rfl rfl ?_
          refine pu (v := .sc _) rfl rfl (fun _ => rfl) ?_
          refine pu (v := .sc _) rfl rfl (fun _ => rfl) ?_
          refine pu (v := .sc _) rfl rfl (fun _ => rfl) ?_
          refine pu (v := .sc _) rfl rfl (fun _ => rfl) ?_
          refine brR hR (fun h7 hR => ?_) fun h7 hR => ?_
          · refine pu (v := .fn _ _) (wtG rfl rfl rfl h7) rfl (fun _ => rfl) ?_
            refine pu (v := slV curve_Sample _ _ _ _) (wtG rfl rfl rfl h7) rfl (fun _ => rfl) ?_
            refine pu (v := .sc _) (wtG rfl rfl rfl h7) rfl (fun _ => rfl) ?_
            obtain ⟨h8, hR⟩ := chkE hR
            refine ixS0 (α := curve_Sample) (wtG rfl rfl rfl h7) rfl rfl ti35 rfl ti63 rfl h8 ?_
            refine ldE (α := curve_Sample) (v := .agg _) (wtG rfl rfl rfl h7) rfl rfl (ixlt h8) ti63 rfl rfl rfl rfl ?_
            refine pu (v := slV curve_Sample _ _ _ _) (wtG rfl rfl rfl h7) rfl (fun _ => rfl) ?_
            refine pu (v := .sc _) (wtG rfl rfl rfl h7) rfl (fun _ => rfl) ?_
            refine pu (v := .sc _) (wtG rfl rfl rfl h7) rfl (fun _ => rfl) ?_
            obtain ⟨h9, hR⟩ := chkE hR
            refine ixS0 (α := curve_Sample) (wtG rfl rfl rfl h7) rfl rfl ti35 rfl ti63 rfl h9 ?_
            refine ldE (α := curve_Sample) (v := .agg _) (wtG rfl rfl rfl h7) rfl rfl (ixlt h9) ti63 rfl rfl rfl rfl ?_
            obtain ⟨r10, hr10, hR⟩ := bindE hR
            refine cls [] (wtG rfl rfl rfl h7) rfl cb15 (ok15 (gt s4.1 s4.2) (gt s4.1 (w6 (s4.2 - 1))) _ hr10) (.cons (.agg (.cons (.sc _) (.cons (.sc _) (.cons (.sc _) (.cons (.sc _) (.cons (.sc _) (.cons (.sc _) (.nil))))))) rfl) (.cons (.agg (.cons (.sc _) (.cons (.sc _) (.cons (.sc _) (.cons (.sc _) (.cons (.sc _) (.cons (.sc _) (.nil))))))) rfl) (.nil))) (.inr rfl) rfl ?_
            refine pu (v := .sc _) (wtG rfl rfl rfl h7) rfl (fun _ => rfl) ?_
            refine pkT (v := .sc (.bool (decide (r10 < 0)))) rfl rfl h7 rfl ?_
            refine RunC.fin ?_
            have hR := Option.some.inj hR; subst hR
            exact Weak.turnL [(0, 0)] [] rfl rfl (tc (trS' rfl rfl rfl rfl rfl) (tc (.sc _) (tc (.sc _) (tc (.fn (.nil)) (tc (.sc _) (tc (.sc _) (tc (.sc _) tn))))))) (mc rfl (btrA' rfl) mn)
          · refine sk (skW rfl rfl rfl h7) ?_
            refine sk (skW rfl rfl rfl h7) ?_
            refine sk (skW rfl rfl rfl h7) ?_
            refine sk (skW rfl rfl rfl h7) ?_
            refine sk (skW rfl rfl rfl h7) ?_
            refine sk (skW rfl rfl rfl h7) ?_
            refine sk (skW rfl rfl rfl h7) ?_
            refine sk (skW rfl rfl rfl h7) ?_
            refine sk (skW rfl rfl rfl h7) ?_
            refine sk (skW rfl rfl rfl h7) ?_
            refine sk (skW rfl rfl rfl h7) ?_
            refine sk (skW rfl rfl rfl h7) ?_
            refine pkF (v := .sc (.bool false)) rfl rfl h7 rfl ?_
            refine RunC.fin ?_
            have hR := Option.some.inj hR; subst hR
            exact Weak.turnL [(0, 0)] [] rfl rfl (tc (trS' rfl rfl rfl rfl rfl) (tc (.sc _) (tc (.sc _) (tc (.fn (.nil)) (tc (.sc _) (tc (.sc _) (tc (.sc _) tn))))))) (mc rfl (btrA' rfl) mn)
        · refine AWP.cd hR rfl (fun h11 hR => ?_) fun h11 hR => ?_
          · refine AWP.skip ?_
            refine skT ?_
            refine AWP.sq ?_
            refine AWP.block ?_
            refine AWP.rgD 73 [0, 0, 0, 0, 8, 0, 0, 64, 224, 480, 0, 0, 3072, 7168, 16355, 32739, 65535, 131071] ⟨[], [none, none, none, none, none, none, none, none, none, some [0], none, none, none, some [0], none, some [0], none, some [0]]⟩ hmix (by kernel_rfl) rfl rfl ?_
            refine pu (v := slV curve_Sample _ _ _ _) rfl rfl (fun _ => rfl) ?_
            refine pu (v := .sc _) rfl rfl (fun _ => rfl) ?_
            refine pu (v := slV curve_Sample _ _ _ _) rfl rfl (fun _ => rfl) ?_
            refine pu (v := .sc _) rfl rfl (fun _ => rfl) ?_
            refine pu (v := .sc _) rfl rfl (fun _ => rfl) ?_
            refine pu (v := slV curve_Sample _ _ _ _) rfl rfl (fun _ => rfl) ?_
            refine pu (v := .sc _) rfl rfl (fun _ => rfl) ?_
            refine pu (v := .sc _) rfl rfl (fun _ => rfl) ?_
            obtain ⟨h12, hR⟩ := chkE hR
            refine ixS0 (α := curve_Sample) rfl rfl rfl ti35 rfl ti63 rfl h12 ?_
            refine ldE (α := curve_Sample) (v := .agg _) rfl rfl rfl (ixlt h12) ti63 rfl rfl rfl rfl ?_
            refine pu (v := slV curve_Sample _ _ _ _) rfl rfl (fun _ => rfl) ?_
            refine pu (v := .sc _) rfl rfl (fun _ => rfl) ?_
            obtain ⟨h13, hR⟩ := chkE hR
            refine ixS0 (α := curve_Sample) rfl rfl rfl ti35 rfl ti63 rfl h13 ?_
            refine ldE (α := curve_Sample) (v := .agg _) rfl rfl rfl (ixlt h13) ti63 rfl rfl rfl rfl ?_
            refine ixS0 (α := curve_Sample) rfl rfl rfl ti35 rfl ti63 rfl h13 ?_
            refine stE (α := curve_Sample) (y := (gt s4.1 (w6 (s4.2 - 1)))) rfl rfl rfl (ixlt h13) ti63 rfl rfl rfl rfl rfl ?_
            refine ixS0 (α := curve_Sample) rfl rfl rfl ti35 rfl ti63 rfl h12 ?_
            obtain ⟨v14, ev14, hR⟩ := letE hR
            refine stE (α := curve_Sample) (y := (gt s4.1 s4.2)) rfl rfl rfl (by first | exact ixlt h12 | (simp only [List.length_set]; exact ixlt h12)) ti63 rfl rfl rfl rfl rfl ?_
            rw [ev14]
            refine RunC.blk ?_
            refine RunC.fin ?_
            refine AWP.rgC 85 rfl rfl ?_
            refine pu (v := .sc _) rfl rfl (fun _ => rfl) ?_
            refine pu (v := .sc _) rfl rfl (fun _ => rfl) ?_
            refine pu (v := .sc _) rfl rfl (fun _ => rfl) ?_
            refine RunC.fin ?_
            refine ⟨(v14, w6 (s4.2 - 1)), (Option.some.inj hR).symm, ?_⟩
            exact Weak.turnL [(0, 0)] [] rfl rfl (tc (trS' rfl rfl rfl rfl (by subst ev14; simp only [List.length_set])) (tc (.sc _) (tc (.sc _) (tc (.fn (.nil)) (tc (.sc _) (tc (.sc _) tn)))))) (mc rfl (btrA' rfl) mn)
          · refine AWP.exit ?_
            refine exT ?_
            refine exT ?_
            refine exH (skT ?_)
            refine ⟨s4.1, (Option.some.inj hR).symm, ?_⟩
            exact Weak.turnL [(0, 0)] [] rfl rfl (tc (trS' rfl rfl rfl rfl rfl) (tc (.sc _) (tc (.sc _) (tc (.fn (.nil)) (tc (.sc _) tn))))) (mc rfl (btrA' rfl) mn)
      · refine skB ?_
        refine skT ?_
        refine AWP.rgC 13 rfl rfl ?_
        refine pu (v := .sc _) rfl rfl (fun _ => rfl) ?_
        refine pu (v := .sc _) rfl rfl (fun _ => rfl) ?_
        refine pu (v := .sc _) rfl rfl (fun _ => rfl) ?_
        refine RunC.fin ?_
        refine ⟨(z5, w6 (s1.2 + 1)), (Option.some.inj hR).symm, ?_⟩
        exact Weak.turnL [(0, 0)] [] rfl rfl (tc (trS' rfl rfl rfl rfl rfl) (tc (.sc _) (tc (.sc _) (tc (.fn (.nil)) (tc (.sc _) tn))))) (mc rfl (btrA' rfl) mn)
    · refine AWP.exit ?_
      refine exT ?_
      refine exT ?_
      refine exH (skT ?_)
      refine ⟨s1.1, (Option.some.inj hR).symm, ?_⟩
      exact Weak.turnL [(0, 0)] [] rfl rfl tn (mc rfl (btrA' rfl) mn)
  · have hR := Option.some.inj hR; subst hR
    exact hQ _ _ (LS.mk [] (lblks 0 [arrB (α := curve_Sample) 63 0 false z2]) 1) (.tup []) [] (.inl rfl) (Weak.turnL [(0, 0)] [] rfl rfl tn (mc rfl (btrA' rfl) mn)) (ro0 ) rfl rfl (.tup .nil) (pc rfl bldA pn)
theorem ok25 (data : List curve_Sample) (a : Int) (b : Int) (limit : Int) (r : (List curve_Sample)) (hR : slices_pdqsortCmpFunc_curve_Sample_spykeep4_samples_1 data a b limit = some r) : FnD Try.prog 25 [arrB 63 0 false data] [slV curve_Sample 0 0 0 data.length, .sc (.int .i64 a), .sc (.int .i64 b), .sc (.int .i64 limit), .fn (.func 15) []] (.tup []) [arrB 63 0 false r] := by
  refine FnX.walk Try.func25 rfl 148 1 (by simp [Try.ntmps25]) rfl fun W S F Q hQ => ?_
  unfold slices_pdqsortCmpFunc_curve_Sample_spykeep4_samples_1 at hR
  refine AWP.sq ?_
  refine AWP.rgC 5 rfl rfl ?_
  refine pu (v := .sc _) rfl rfl (fun _ => rfl) ?_
  refine RunC.fin ?_
  refine AWP.sq ?_
  refine AWP.rgC 9 rfl rfl ?_
  refine pu (v := .sc _) rfl rfl (fun _ => rfl) ?_
  refine RunC.fin ?_
  refine AWP.loopK' (fun s1 : Unit => LS.mk [(0, slV curve_Sample 0 0 0 data.length), (1, .sc (.int .i64 a)), (2, .sc (.int .i64 b)), (3, .sc (.int .i64 limit)), (4, .fn (.func 15) []), (10, .sc (.bool true)), (11, .sc (.bool true))] (lblks 0 [arrB (α := curve_Sample) 63 0 false data]) 1) (fun z2 : Unit => LS.mk [] (lblks 0 []) 0) (slices_pdqsortCmpFunc_curve_Sample_spykeep4_samples_1.l1 data a b) hR (s0 := ()) (Weak.turnL [(0, 0)] [] rfl rfl (tc (trS' rfl rfl rfl rfl rfl) (tc (.sc _) (tc (.sc _) (tc (.sc _) (tc (.fn (.nil)) (tc (.sc _) (tc (.sc _) tn))))))) (mc rfl (btrA' rfl) mn)) (fun s1 o1 hR hE1 => ?_) fun z2 hR => ?_
  · unfold slices_pdqsortCmpFunc_curve_Sample_spykeep4_samples_1.l1 at hR
    refine AWP.block ?_
    refine AWP.sq ?_
    refine AWP.rgC 17 rfl rfl ?_
    refine pu (v := .sc _) rfl rfl (fun _ => rfl) ?_
    refine pu (v := .sc _) rfl rfl (fun _ => rfl) ?_
    refine pu (v := .sc _) rfl rfl (fun _ => rfl) ?_
    refine pu (v := .sc _) rfl rfl (fun _ => rfl) ?_
    refine RunC.fin ?_
    refine AWP.sq ?_
    refine AWP.sq ?_
    refine AWP.rgC 25 rfl rfl ?_
    refine pu (v := .sc _) rfl rfl (fun _ => rfl) ?_
    refine pu (v := .sc _) rfl rfl (fun _ => rfl) ?_
    refine RunC.fin ?_
    refine AWP.cd hR rfl (fun h3 hR => ?_) fun h3 hR => ?_
    · refine AWP.sq ?_
      refine AWP.rgC 45 rfl rfl ?_
      refine pu (v := slV curve_Sample _ _ _ _) rfl rfl (fun _ => rfl) ?_
      refine pu (v := .sc _) rfl rfl (fun _ => rfl) ?_
      refine pu (v := .sc _) rfl rfl (fun _ => rfl) ?_
      refine pu (v := .fn _ _) rfl rfl (fun _ => rfl) ?_
      obtain ⟨r4, hr4, hR⟩ := bindE hR
      obtain ⟨h5, hR⟩ := chkE hR
      refine cps (res' := .tup []) (ups := [(0, arrB (α := curve_Sample) 63 0 false r4)]) [0] 41 rfl rfl rfl cb34 (ok34 data a b _ hr4) (.cons (ldM rfl rfl) (.cons (.sc _) (.cons (.sc _) (.cons (.fn (.nil)) (.nil))))) (pc rfl bldA pn) rfl rfl rfl rfl rfl (by first | rfl | exact renR | exact renA | exact renS | simp only [V.ren, V.rens, renR, renA, renS] | (simp only [V.ren, V.rens, renR, renA, renS]; rfl)) (by simp only [passUps, renBox, renArr]; rfl) ?_
      refine RunC.fin ?_
      refine AWP.ret ?_
      refine rtT ?_
      refine rtB ?_
      refine rtT ?_
      refine rtB (rtT ?_)
      replace hR := escL hR hE1
      have hR := Option.some.inj hR; subst hR
      exact hQ _ _ (LS.mk [] (lblks 0 [arrB (α := curve_Sample) 63 0 false r4]) 1) (.tup []) [] (.inr rfl) (Weak.turnL [(0, 0)] [] rfl rfl tn (mc rfl (btrA' rfl) mn)) (ro0 ) rfl rfl (.tup .nil) (pc rfl bldA pn)
    · cases hR
  · cases hR
theorem ok14 (x : List curve_Sample) (r : (List curve_Sample)) (hR : slices_SortFunc_curve_Sample_spykeep4_samples_1_short x = some r) : FnD Try.prog 14 [arrB 63 0 false x] [slV curve_Sample 0 0 0 x.length, .fn (.func 15) []] (.tup []) [arrB 63 0 false r] := by
  refine FnX.walk Try.func14 rfl 14 1 (by simp [Try.ntmps14]) rfl fun W S F Q hQ => ?_
  unfold slices_SortFunc_curve_Sample_spykeep4_samples_1_short at hR
  refine AWP.sq ?_
  refine AWP.rgC 13 rfl rfl ?_
  refine pu (v := slV curve_Sample _ _ _ _) rfl rfl (fun _ => rfl) ?_
  refine lenS (α := curve_Sample) rfl rfl ti35 rfl ?_
  refine pu (v := .sc _) rfl rfl (fun _ => rfl) ?_
  refine RunC.fin ?_
  refine AWP.rgC 41 rfl rfl ?_
  refine pu (v := slV curve_Sample _ _ _ _) rfl rfl (fun _ => rfl) ?_
  refine pu (v := .sc _) rfl rfl (fun _ => rfl) ?_
  refine pu (v := .sc _) rfl rfl (fun _ => rfl) ?_
  refine cn rfl rfl ti3 rfl ti81 rfl rfl ?_
  obtain ⟨r1, hr1, hR⟩ := bindE hR
  refine cls [] rfl rfl cb26 (ok26 (IntKind.wrap .u64 (x.length : Int)) _ hr1) (.cons (.sc _) (.nil)) (.inr rfl) rfl ?_
  refine pu (v := .fn _ _) rfl rfl (fun _ => rfl) ?_
  obtain ⟨r2, hr2, hR⟩ := bindE hR
  obtain ⟨h3, hR⟩ := chkE hR
  refine cps (res' := .tup []) (ups := [(0, arrB (α := curve_Sample) 63 0 false r2)]) [0] 37 rfl rfl rfl cb25 (ok25 x 0 (x.length : Int) r1 _ hr2) (.cons (ldM rfl rfl) (.cons (.sc _) (.cons (.sc _) (.cons (.sc _) (.cons (.fn (.nil)) (.nil)))))) (pc rfl bldA pn) rfl rfl rfl rfl rfl (by first | rfl | exact renR | exact renA | exact renS | simp only [V.ren, V.rens, renR, renA, renS] | (simp only [V.ren, V.rens, renR, renA, renS]; rfl)) (by simp only [passUps, renBox, renArr]; rfl) ?_
  refine RunC.nil ?_
  have hR := Option.some.inj hR; subst hR
  exact hQ _ _ (LS.mk [] (lblks 0 [arrB (α := curve_Sample) 63 0 false r2]) 1) (.tup []) [] (.inl rfl) (Weak.turnL [(0, 0)] [] rfl rfl tn (mc rfl (btrA' rfl) mn)) (ro0 ) rfl rfl (.tup .nil) (pc rfl bldA pn)
section
open Go.RowKit Go.Shelf Go.Lib Go.Sort Go.Proofs
def sampWs14 (s : curve_Sample) : List Value := [.int .i64 s.At.Lo, .int .i64 s.At.Hi, .bool s.At.Unknown, .int .i64 s.Light.Lo, .int .i64 s.Light.Hi, .bool s.Light.Unknown]
theorem cmps14 (a b : curve_Sample) (h1 : -4611686018427387904 ≤ a.At.Lo ∧ a.At.Lo ≤ 4611686018427387903) (h2 : -4611686018427387904 ≤ b.At.Lo ∧ b.At.Lo ≤ 4611686018427387903) (h3 : -4611686018427387904 ≤ a.At.Hi ∧ a.At.Hi ≤ 4611686018427387903) (h4 : -4611686018427387904 ≤ b.At.Hi ∧ b.At.Hi ≤ 4611686018427387903) (W : World) :
    Calls Try.prog 15 #[.agg (sampWs14 a).toArray, .agg (sampWs14 b).toArray] W fun e w' => e = .returned (.int .i64 (cmpS a b)) ∧ ∃ q os', w' = grow (W.drewN q) os' := by
  obtain ⟨⟨al, ah, au⟩, ⟨al2, ah2, au2⟩⟩ := a
  obtain ⟨⟨bl, bh, bu⟩, ⟨bl2, bh2, bu2⟩⟩ := b
  simp only [] at h1 h2 h3 h4
  unfold sampWs14 cmpS
  simp only []
  by_cases h : al = bl
  · rw [if_neg (fun q => q h)]
    go_enter Try.func15, Try.ntmps15
    go_wp2
    go_ret
    exact ⟨rfl, 0, _, by rw [alloc_eq_grow, alloc_eq_grow, grow_grow]; rfl⟩
  · rw [if_pos h]
    go_enter Try.func15, Try.ntmps15
    go_wp2
    go_ret
    exact ⟨rfl, 0, _, by rw [alloc_eq_grow, alloc_eq_grow, grow_grow]; rfl⟩
def sortLs14_ren : Go.Shelf.Ren := ⟨fun | 6 => 14 | 15 => 26 | 14 => 25 | 28 => 42 | 29 => 43 | 20 => 34 | 21 => 35 | 22 => 36 | 23 => 37 | 24 => 38 | 25 => 39 | 26 => 40 | 27 => 41 | 46 => 53 | 47 => 54 | 48 => 55 | 49 => 56 | 50 => 57 | 57 => 65 | n => n, fun | 22 => 35 | 24 => 63 | 25 => 65 | 3 => 3 | 39 => 81 | 0 => 0 | 53 => 101 | 55 => 103 | 4 => 4 | 46 => 94 | 45 => 93 | 50 => 98 | 5 => 5 | 9 => 9 | 66 => 114 | 70 => 118 | 76 => 127 | 77 => 128 | n => n, fun | n => n⟩
theorem sortLs14 : Go.Proofs.SlLaysF0.n6 Try.prog sortLs14_ren := {
  mixed := by kernel_rfl,
  f6 := ⟨Try.f14.name, by decide, Try.func14.trans (congrArg some (by kernel_rfl))⟩,
  f14 := ⟨Try.f25.name, by decide, Try.func25.trans (congrArg some (by kernel_rfl))⟩,
  f15 := Try.func26.trans (congrArg some (by kernel_rfl)),
  f20 := ⟨Try.f34.name, by decide, Try.func34.trans (congrArg some (by kernel_rfl))⟩,
  f21 := ⟨Try.f35.name, by decide, Try.func35.trans (congrArg some (by kernel_rfl))⟩,
  f22 := ⟨Try.f36.name, by decide, Try.func36.trans (congrArg some (by kernel_rfl))⟩,
  f23 := ⟨Try.f37.name, by decide, Try.func37.trans (congrArg some (by kernel_rfl))⟩,
  f24 := ⟨Try.f38.name, by decide, Try.func38.trans (congrArg some (by kernel_rfl))⟩,
  f25 := ⟨Try.f39.name, by decide, Try.func39.trans (congrArg some (by kernel_rfl))⟩,
  f26 := ⟨Try.f40.name, by decide, Try.func40.trans (congrArg some (by kernel_rfl))⟩,
  f27 := ⟨Try.f41.name, by decide, Try.func41.trans (congrArg some (by kernel_rfl))⟩,
  f28 := Try.func42.trans (congrArg some (by kernel_rfl)),
  f29 := Try.func43.trans (congrArg some (by kernel_rfl)),
  f46 := ⟨Try.f53.name, by decide, Try.func53.trans (congrArg some (by kernel_rfl))⟩,
  f47 := Try.func54.trans (congrArg some (by kernel_rfl)),
  f48 := Try.func55.trans (congrArg some (by kernel_rfl)),
  f49 := ⟨Try.f56.name, by decide, Try.func56.trans (congrArg some (by kernel_rfl))⟩,
  f50 := ⟨Try.f57.name, by decide, Try.func57.trans (congrArg some (by kernel_rfl))⟩,
  f57 := ⟨Try.f65.name, by decide, Try.func65.trans (congrArg some (by kernel_rfl))⟩,
  t0 := Try.underlying0,
  a0 := Try.isAgg0,
  z0 := Try.sizeOf0,
  v0 := Try.zeroValue0,
  t3 := Try.underlying3,
  a3 := Try.isAgg3,
  z3 := Try.sizeOf3,
  v3 := Try.zeroValue3,
  t4 := Try.underlying4,
  a4 := Try.isAgg4,
  z4 := Try.sizeOf4,
  v4 := Try.zeroValue4,
  t5 := Try.underlying5,
  a5 := Try.isAgg5,
  z5 := Try.sizeOf5,
  v5 := Try.zeroValue5,
  t9 := Try.underlying9,
  a9 := Try.isAgg9,
  z9 := Try.sizeOf9,
  v9 := Try.zeroValue9,
  t22 := Try.underlying35,
  a22 := Try.isAgg35,
  z22 := Try.sizeOf35,
  v22 := Try.zeroValue35,
  t25 := Try.underlying65,
  a25 := Try.isAgg65,
  z25 := Try.sizeOf65,
  v25 := Try.zeroValue65,
  t39 := Try.underlying81,
  a39 := Try.isAgg81,
  z39 := Try.sizeOf81,
  v39 := Try.zeroValue81,
  t45 := Try.underlying93,
  a45 := Try.isAgg93,
  z45 := Try.sizeOf93,
  v45 := Try.zeroValue93,
  t46 := Try.underlying94,
  a46 := Try.isAgg94,
  z46 := Try.sizeOf94,
  v46 := Try.zeroValue94,
  t50 := Try.underlying98,
  a50 := Try.isAgg98,
  z50 := Try.sizeOf98,
  v50 := Try.zeroValue98,
  t53 := Try.underlying101,
  a53 := Try.isAgg101,
  z53 := Try.sizeOf101,
  v53 := Try.zeroValue101,
  t55 := Try.underlying103,
  a55 := Try.isAgg103,
  z55 := Try.sizeOf103,
  v55 := Try.zeroValue103,
  t66 := Try.underlying114,
  a66 := Try.isAgg114,
  z66 := Try.sizeOf114,
  v66 := Try.zeroValue114,
  t70 := Try.underlying118,
  a70 := Try.isAgg118,
  z70 := Try.sizeOf118,
  v70 := Try.zeroValue118,
  t76 := Try.underlying127,
  a76 := Try.isAgg127,
  z76 := Try.sizeOf127,
  v76 := Try.zeroValue127,
  t77 := Try.underlying128,
  a77 := Try.isAgg128,
  z77 := Try.sizeOf128,
  v77 := Try.zeroValue128 }
theorem isAggs14 (w : World) : (isAgg 63).run Try.prog w = .ok true w := Go.Abs.run_isAgg ti63
theorem sizeOfs14 (w : World) : (Go.sizeOf 63).run Try.prog w = .ok 6 w := Go.Abs.run_sizeOf ti63
theorem swos14 : SWO (ltOf cmpB) where
  irrefl a := by unfold ltOf cmpB cmpS; simp
  trans a b c h1 h2 := by
    unfold ltOf cmpB cmpS at *
    simp only [decide_eq_true_eq] at *
    split at h1 <;> split at h2 <;> split <;> omega
  ntrans a b c h1 h2 := by
    unfold ltOf cmpB cmpS at *
    simp only [decide_eq_false_iff_not] at *
    split at h1 <;> split at h2 <;> split <;> omega
theorem toBmaps14 : ∀ (l : List curve_Sample), (∀ s ∈ l, bndS s) → (toB l).map (·.1) = l
  | [], _ => rfl
  | s :: l, h => by
    have hs := h s List.mem_cons_self
    unfold toB
    rw [List.filterMap_cons, dif_pos hs]
    show s :: (toB l).map (·.1) = s :: l
    rw [toBmaps14 l fun a ha => h a (List.mem_cons_of_mem _ ha)]
theorem okAny14 (x : List curve_Sample) (r : List curve_Sample) (hR : slices_SortFunc_curve_Sample_spykeep4_samples_1 x = some r) : FnD Try.prog 14 [arrB 63 0 false x] [slV curve_Sample 0 0 0 x.length, .fn (.func 15) []] (.tup []) [arrB 63 0 false r] := by
  unfold slices_SortFunc_curve_Sample_spykeep4_samples_1 at hR
  split at hR
  · exact ok14 x r hR
  · rename_i hlen
    split at hR
    · rename_i h
      obtain ⟨hb, hn⟩ := h
      cases hR
      have hm := toBmaps14 x hb
      have hsz : (toB x).toArray.size = x.length := by
        have := congrArg List.length hm
        simpa using this
      have eg : ∀ args w, (callFunc 15 args).run Try.prog w = .ok (.enter 15 args) w := enters_of Try.func15 (by kernel_rfl) rfl
      have hp := pdq_sorts (ltOf cmpB) swos14 (toB x).toArray 0 (toB x).toArray.size (Lib.bitLen (toB x).toArray.size) true true (Nat.zero_le _) (Nat.le_refl _) (Or.inl rfl)
      refine fnD_order (α := SmB) (·.1) sampWs14 (fun nw s => rfl) (fun s v hv => by unfold sampWs14 at hv; simp at hv; rcases hv with rfl | rfl | rfl | rfl | rfl | rfl <;> rfl) (toB x).toArray (pdq (ltOf cmpB) (toB x).toArray 0 (toB x).toArray.size (Lib.bitLen (toB x).toArray.size) true true) hp.1.1 (by omega) (fun B cap w hH hB => ?_) false x (by simp [hm])
      have hcon := AnyQ.slices_SortFunc_eq sortLs14 6 isAggs14 sizeOfs14 (fun s : SmB => sampWs14 s.1) (fun _ => rfl) (fun s v hv => by unfold sampWs14 at hv; simp at hv; rcases hv with rfl | rfl | rfl | rfl | rfl | rfl <;> rfl) cmpB swos14 15 #[] B 0 cap (toB x).toArray w eg (fun m os dk hs a b => cmps14 a.1 b.1 a.2.1 b.2.1 a.2.2 b.2.2 _) hH hB (by omega)
      exact hcon
    · cases hR
end

theorem ok6 (s : spymake_Stream) (x : Star) (n : Int) (r : (List curve_Sample) × Bool × spymake_Stream) (hR : spykeep4_samples s x n = some r) : FnD Try.prog 6 [boxB false s] [.ptr 0 0 0, aggV false x, .sc (.int .i64 n)] (.tup [rowV (α := curve_Sample) false r.1, .sc (.bool r.2.1)]) [boxB false r.2.2] := by
  refine FnX.walk Try.func6 rfl 75 1 (by simp [Try.ntmps6]) rfl fun W S F Q hQ => ?_
  unfold spykeep4_samples at hR
  refine AWP.sq ?_
  refine AWP.rgC 13 rfl rfl ?_
  refine bx (cs := _) 1 rfl rfl rfl ?_
  refine pu (v := .sc _) rfl rfl (fun _ => rfl) ?_
  refine pu (v := .sc _) rfl rfl (fun _ => rfl) ?_
  refine RunC.fin ?_
  refine AWP.sq ?_
  refine AWP.rgC 33 rfl rfl ?_
  refine ldB (v := .agg _) rfl rfl rfl rfl ti32 rfl rfl ?_
  refine bs (α := Star) 17 false ([x] : List Star) rfl rfl ti49 rfl ti32 rfl rfl rfl rfl rfl ?_
  refine bu (cs := [.sc (.int .i64 0), slV Star 17 0 0 ([x] : List Star).length, .sc (.slice none 0 0), .sc (.slice none 0 0), .sc (.int .i64 0), .sc (.int .i64 0), .sc (.int .i64 0), .sc (.int .i64 0), .sc (.int .i64 0), .sc (.int .i64 0), .sc (.int .i64 0), .sc (.int .i64 0)]) rfl bt55 rfl ?_
  refine al (cs := [.sc (.int .i64 0), .sc (.slice none 0 0), .sc (.slice none 0 0), .sc (.slice none 0 0), .sc (.int .i64 0), .sc (.int .i64 0), .sc (.int .i64 0), .sc (.int .i64 0), .sc (.int .i64 0), .sc (.int .i64 0), .sc (.int .i64 0), .sc (.int .i64 0)]) 25 rfl rfl ti55 rfl rfl ?_
  refine stB (cs' := [.sc (.int .i64 0), slV Star 17 0 0 ([x] : List Star).length, .sc (.slice none 0 0), .sc (.slice none 0 0), .sc (.int .i64 0), .sc (.int .i64 0), .sc (.int .i64 0), .sc (.int .i64 0), .sc (.int .i64 0), .sc (.int .i64 0), .sc (.int .i64 0), .sc (.int .i64 0)]) rfl rfl rfl rfl ti55 rfl rfl rfl rfl rfl ?_
  refine RunC.fin ?_
  refine AWP.sq ?_
  refine AWP.rgC 37 rfl rfl ?_
  refine pu (v := .sc _) rfl rfl (fun _ => rfl) ?_
  refine RunC.fin ?_
  refine AWP.sq ?_
  refine AWP.rgC 49 rfl rfl ?_
  refine pu (v := .ptr _ _ _) rfl rfl (fun _ => rfl) ?_
  obtain ⟨r1, hr1, hR⟩ := bindE hR
  refine cps (res' := .sc (.int .i64 r1.1)) (ups := [(0, boxB (α := spymake_Stream) false r1.2)]) [0] 41 rfl rfl rfl cb12 (ok12 s (-5000) 5000 _ hr1) (.cons (ldP rfl rfl) (.cons (.sc _) (.cons (.sc _) (.nil)))) (pc rfl (.box (.cons ldR' (.cons (.sc _) (.nil))) rfl) pn) rfl rfl rfl rfl rfl (by first | rfl | exact renR | exact renA | exact renS | simp only [V.ren, V.rens, renR, renA, renS] | (simp only [V.ren, V.rens, renR, renA, renS]; rfl)) (by simp only [passUps, renBox, renArr]; rfl) ?_
  refine pu (v := .sc _) rfl rfl (fun _ => rfl) ?_
  refine RunC.fin ?_
  refine AWP.sq ?_
  refine AWP.sq ?_
  refine AWP.rgC 69 rfl rfl ?_
  refine pu (v := .ptr _ _ _) rfl rfl (fun _ => rfl) ?_
  refine pu (v := .sc _) rfl rfl (fun _ => rfl) ?_
  refine pu (v := .sc _) rfl rfl (fun _ => rfl) ?_
  obtain ⟨r2, hr2, hR⟩ := bindE hR
  refine cps (res' := .sc (.int .i64 r2.1)) (ups := [(0, boxB (α := spymake_Stream) false r2.2)]) [0] 61 rfl rfl rfl cb11 (ok11 r1.2 (w6 (n + 1)) _ hr2) (.cons (ldP rfl rfl) (.cons (.sc _) (.nil))) (pc rfl (.box (.cons ldR' (.cons (.sc _) (.nil))) rfl) pn) rfl rfl rfl rfl rfl (by first | rfl | exact renR | exact renA | exact renS | simp only [V.ren, V.rens, renR, renA, renS] | (simp only [V.ren, V.rens, renR, renA, renS]; rfl)) (by simp only [passUps, renBox, renArr]; rfl) ?_
  refine pu (v := .sc _) rfl rfl (fun _ => rfl) ?_
  refine RunC.fin ?_
  refine AWP.nilT curve_Sample 9 63 rfl ?_
  refine AWP.loopK' (fun s3 : spymake_Stream × (List curve_Sample) × Int × Int => LS.mk [(0, .ptr 0 0 0), (4, .ptr 1 0 0), (8, .ptr 2 0 0), (9, slV curve_Sample 4 0 0 s3.2.1.length), (10, .sc (.int .i64 s3.2.2.1)), (23, .sc (.int .i64 r2.1)), (24, .sc (.int .i64 s3.2.2.2))] (lblks 0 [boxB (α := spymake_Stream) false s3.1, boxB (α := Star) false x, .box [.sc (.int .i64 0), slV Star 3 0 0 ([x] : List Star).length, .sc (.slice none 0 0), .sc (.slice none 0 0), .sc (.int .i64 0), .sc (.int .i64 0), .sc (.int .i64 0), .sc (.int .i64 0), .sc (.int .i64 0), .sc (.int .i64 0), .sc (.int .i64 0), .sc (.int .i64 0)], arrB (α := Star) 32 0 false ([x] : List Star), arrB (α := curve_Sample) 63 0 true s3.2.1]) 5) (fun z4 : spymake_Stream × (List curve_Sample) => LS.mk [(9, slV curve_Sample 1 0 0 z4.2.length)] (lblks 0 [boxB (α := spymake_Stream) false z4.1, arrB (α := curve_Sample) 63 0 true z4.2]) 2) (spykeep4_samples.l1 x r2) hR (s0 := (r2.2, ([] : List curve_Sample), r1.1, 0)) (Weak.turnL [(0, 0), (1, 0), (25, 0), (17, 0), (69, 0)] [] rfl rfl (tc (trP' rfl rfl rfl rfl) (tc (trP' rfl rfl rfl rfl) (tc (trP' rfl rfl rfl rfl) (tc (trS' rfl rfl rfl rfl rfl) (tc (.sc _) (tc (.sc _) (tc (.sc _) tn))))))) (mc rfl (.box rfl (.cons trR1 (.cons (.sc _) (.nil))) rfl) (mc rfl (.box rfl (.cons (.sc _) (.cons (.sc _) (.cons (.sc _) (.cons (.sc _) (.cons (.sc _) (.cons trR1 (.cons (.sc _) (.cons (.sc _) (.cons (.sc _) (.nil)))))))))) rfl) (mc rfl (.box rfl (.cons (.sc _) (.cons (trS' rfl rfl rfl rfl rfl) (.cons (.sc _) (.cons (.sc _) (.cons (.sc _) (.cons (.sc _) (.cons (.sc _) (.cons (.sc _) (.cons (.sc _) (.cons (.sc _) (.cons (.sc _) (.cons (.sc _) (.nil))))))))))))) rfl) (mc rfl (btrA' rfl) (mc rfl (btrA' rfl) mn)))))) (fun s3 o3 hR hE3 => ?_) fun z4 hR => ?_
  · unfold spykeep4_samples.l1 at hR
    refine AWP.sq ?_
    refine AWP.rgC 9 rfl rfl ?_
    refine pu (v := .sc _) rfl rfl (fun _ => rfl) ?_
    refine RunC.fin ?_
    refine AWP.sq ?_
    refine AWP.cd hR rfl (fun h5 hR => ?_) fun h5 hR => ?_
    · refine AWP.skip ?_
      refine skT ?_
      refine AWP.sq ?_
      refine AWP.block ?_
      refine AWP.sq ?_
      refine AWP.rgC 29 rfl rfl ?_
      refine pu (v := .sc _) rfl rfl (fun _ => rfl) ?_
      refine pu (v := .ptr _ _ _) rfl rfl (fun _ => rfl) ?_
      obtain ⟨r6, hr6, hR⟩ := bindE hR
      refine cps (res' := .sc (.int .i64 r6.1)) (ups := [(0, boxB (α := spymake_Stream) false r6.2)]) [0] 17 rfl rfl rfl cb11 (ok11 s3.1 900 _ hr6) (.cons (ldP rfl rfl) (.cons (.sc _) (.nil))) (pc rfl (.box (.cons ldR' (.cons (.sc _) (.nil))) rfl) pn) rfl rfl rfl rfl rfl (by first | rfl | exact renR | exact renA | exact renS | simp only [V.ren, V.rens, renR, renA, renS] | (simp only [V.ren, V.rens, renR, renA, renS]; rfl)) (by simp only [passUps, renBox, renArr]; rfl) ?_
      refine pu (v := .sc _) rfl rfl (fun _ => rfl) ?_
      refine pu (v := .sc _) rfl rfl (fun _ => rfl) ?_
      refine RunC.fin ?_
      refine AWP.sq ?_
      refine AWP.rgC 69 rfl rfl ?_
      refine ldB (v := .agg _) rfl rfl rfl rfl ti55 rfl rfl ?_
      refine fa rfl rfl ti32 rfl rfl ti3 rfl ?_
      refine ldB (v := .sc _) rfl rfl rfl rfl ti3 rfl rfl ?_
      refine pu (v := .sc _) rfl rfl (fun _ => rfl) ?_
      obtain ⟨r7, hr7, hR⟩ := bindE hR
      refine cls [3] rfl rfl cb13 (ok13 (Sky.mk 0 ([x] : List Star) [] [] (Body.mk 0 (Vec.mk 0 0 0) (Vec.mk 0 0 0) 0)) x.ID (w6 (s3.2.2.1 + r6.1)) _ hr7) (.cons (.agg (.cons (.sc _) (.cons (ldS' rfl rfl rfl rfl) (.cons .nil (.cons .nil (.cons (.sc _) (.cons (.sc _) (.cons (.sc _) (.cons (.sc _) (.cons (.sc _) (.cons (.sc _) (.cons (.sc _) (.cons (.sc _) (.nil))))))))))))) rfl) (.cons (.sc _) (.cons (.sc _) (.nil)))) (.inl (by first | rfl | exact freshR | exact freshA | (simp only [V.fresh, V.freshs, freshR, freshA, Bool.and_self]))) rfl ?_
      refine pu (v := .tup _) rfl rfl (fun _ => rfl) ?_
      refine pu (v := .sc _) rfl rfl (fun _ => rfl) ?_
      refine pu (v := .sc _) rfl rfl (fun _ => rfl) ?_
      refine pu (v := .sc _) rfl rfl (fun _ => rfl) ?_
      refine pu (v := .sc _) rfl rfl (fun _ => rfl) ?_
      refine RunC.fin ?_
      refine AWP.sq ?_
      refine AWP.sq ?_
      refine AWP.rgC 77 rfl rfl ?_
      refine pu (v := .sc _) rfl rfl (fun _ => rfl) ?_
      refine pu (v := .sc _) rfl rfl (fun _ => rfl) ?_
      refine RunC.fin ?_
      refine AWP.cd hR rfl (fun h8 hR => ?_) fun h8 hR => ?_
      · refine AWP.sq ?_
        refine AWP.rgC 85 rfl rfl ?_
        refine pu (v := .sc _) rfl rfl (fun _ => rfl) ?_
        refine pu (v := .sc _) rfl rfl (fun _ => rfl) ?_
        refine RunC.fin ?_
        refine AWP.ret ?_
        refine rtT ?_
        refine rtB ?_
        refine rtT ?_
        refine rtT ?_
        refine rtB (rtT ?_)
        replace hR := escL hR hE3
        refine rtT ?_
        have hR := Option.some.inj hR; subst hR
        exact hQ _ _ (LS.mk [(6, rowV (α := curve_Sample) false []), (7, .sc (.bool false))] (lblks 0 [boxB (α := spymake_Stream) false r6.2]) 1) (.tup [rowV (α := curve_Sample) false [], .sc (.bool false)]) [] (.inr rfl) (Weak.turnL [(0, 0)] [] rfl rfl (tc trN (tc (.sc _) tn)) (mc rfl (.box rfl (.cons trR1 (.cons (.sc _) (.nil))) rfl) mn)) (ro2 (rvT (v := rowV (α := curve_Sample) false []) rfl) (rvT (v := .sc (.bool false)) rfl)) rfl rfl (.tup (.cons ldR' (.cons (.sc _) .nil))) (pc rfl bldB pn)
      · refine AWP.skip ?_
        refine skT ?_
        refine AWP.sq ?_
        refine AWP.rgC 101 rfl rfl ?_
        refine pu (v := .ptr _ _ _) rfl rfl (fun _ => rfl) ?_
        obtain ⟨r9, hr9, hR⟩ := bindE hR
        refine cps (res' := .sc (.int .i64 r9.1)) (ups := [(0, boxB (α := spymake_Stream) false r9.2)]) [0] 81 rfl rfl rfl cb11 (ok11 r6.2 2 _ hr9) (.cons (ldP rfl rfl) (.cons (.sc _) (.nil))) (pc rfl (.box (.cons ldR' (.cons (.sc _) (.nil))) rfl) pn) rfl rfl rfl rfl rfl (by first | rfl | exact renR | exact renA | exact renS | simp only [V.ren, V.rens, renR, renA, renS] | (simp only [V.ren, V.rens, renR, renA, renS]; rfl)) (by simp only [passUps, renBox, renArr]; rfl) ?_
        refine pu (v := .ptr _ _ _) rfl rfl (fun _ => rfl) ?_
        obtain ⟨r10, hr10, hR⟩ := bindE hR
        refine cps (res' := .sc (.int .i64 r10.1)) (ups := [(0, boxB (α := spymake_Stream) false r10.2)]) [0] 89 rfl rfl rfl cb11 (ok11 r9.2 40 _ hr10) (.cons (ldP rfl rfl) (.cons (.sc _) (.nil))) (pc rfl (.box (.cons ldR' (.cons (.sc _) (.nil))) rfl) pn) rfl rfl rfl rfl rfl (by first | rfl | exact renR | exact renA | exact renS | simp only [V.ren, V.rens, renR, renA, renS] | (simp only [V.ren, V.rens, renR, renA, renS]; rfl)) (by simp only [passUps, renBox, renArr]; rfl) ?_
        refine pu (v := .sc _) rfl rfl (fun _ => rfl) ?_
        refine pu (v := .sc _) rfl rfl (fun _ => rfl) ?_
        refine RunC.fin ?_
        refine AWP.sq ?_
        refine AWP.rgC 145 rfl rfl ?_
        refine pu (v := .sc _) rfl rfl (fun _ => rfl) ?_
        refine pu (v := .ptr _ _ _) rfl rfl (fun _ => rfl) ?_
        obtain ⟨r11, hr11, hR⟩ := bindE hR
        refine cps (res' := .sc (.int .i64 r11.1)) (ups := [(0, boxB (α := spymake_Stream) false r11.2)]) [0] 109 rfl rfl rfl cb11 (ok11 r10.2 30 _ hr11) (.cons (ldP rfl rfl) (.cons (.sc _) (.nil))) (pc rfl (.box (.cons ldR' (.cons (.sc _) (.nil))) rfl) pn) rfl rfl rfl rfl rfl (by first | rfl | exact renR | exact renA | exact renS | simp only [V.ren, V.rens, renR, renA, renS] | (simp only [V.ren, V.rens, renR, renA, renS]; rfl)) (by simp only [passUps, renBox, renArr]; rfl) ?_
        refine pu (v := .sc _) rfl rfl (fun _ => rfl) ?_
        refine pu (v := .sc _) rfl rfl (fun _ => rfl) ?_
        refine pu (v := .ptr _ _ _) rfl rfl (fun _ => rfl) ?_
        obtain ⟨r12, hr12, hR⟩ := bindE hR
        refine cps (res' := .sc (.int .i64 r12.1)) (ups := [(0, boxB (α := spymake_Stream) false r12.2)]) [0] 125 rfl rfl rfl cb11 (ok11 r11.2 30 _ hr12) (.cons (ldP rfl rfl) (.cons (.sc _) (.nil))) (pc rfl (.box (.cons ldR' (.cons (.sc _) (.nil))) rfl) pn) rfl rfl rfl rfl rfl (by first | rfl | exact renR | exact renA | exact renS | simp only [V.ren, V.rens, renR, renA, renS] | (simp only [V.ren, V.rens, renR, renA, renS]; rfl)) (by simp only [passUps, renBox, renArr]; rfl) ?_
        refine pu (v := .sc _) rfl rfl (fun _ => rfl) ?_
        refine bu (cs := [.sc (.int .i64 (w6 (r7.1 - r11.1))), .sc (.int .i64 (w6 (r7.1 + r12.1))), .sc (.bool false)]) rfl bt59 rfl ?_
        refine al (cs := [.sc (.int .i64 0), .sc (.int .i64 0), .sc (.bool false)]) 137 rfl rfl ti59 rfl rfl ?_
        refine stB (cs' := [.sc (.int .i64 (w6 (r7.1 - r11.1))), .sc (.int .i64 (w6 (r7.1 + r12.1))), .sc (.bool false)]) rfl rfl rfl rfl ti59 rfl rfl rfl rfl rfl ?_
        refine RunC.fin ?_
        refine AWP.sq ?_
        refine AWP.sq ?_
        refine AWP.rgC 157 rfl rfl ?_
        refine pu (v := .ptr _ _ _) rfl rfl (fun _ => rfl) ?_
        obtain ⟨r13, hr13, hR⟩ := bindE hR
        refine cps (res' := .sc (.int .i64 r13.1)) (ups := [(0, boxB (α := spymake_Stream) false r13.2)]) [0] 149 rfl rfl rfl cb11 (ok11 r12.2 12 _ hr13) (.cons (ldP rfl rfl) (.cons (.sc _) (.nil))) (pc rfl (.box (.cons ldR' (.cons (.sc _) (.nil))) rfl) pn) rfl rfl rfl rfl rfl (by first | rfl | exact renR | exact renA | exact renS | simp only [V.ren, V.rens, renR, renA, renS] | (simp only [V.ren, V.rens, renR, renA, renS]; rfl)) (by simp only [passUps, renBox, renArr]; rfl) ?_
        refine pu (v := .sc _) rfl rfl (fun _ => rfl) ?_
        refine RunC.fin ?_
        refine AWP.cd hR rfl (fun h14 hR => ?_) fun h14 hR => ?_
        · refine AWP.rgC 165 rfl rfl ?_
          refine bu (cs := [.sc (.int .i64 0), .sc (.int .i64 0), .sc (.bool true)]) rfl bt59 rfl ?_
          refine stB (cs' := [.sc (.int .i64 0), .sc (.int .i64 0), .sc (.bool true)]) rfl rfl rfl rfl ti59 rfl rfl rfl rfl rfl ?_
          refine RunC.fin ?_
          refine AWP.rgC 221 rfl rfl ?_
          refine pu (v := slV curve_Sample _ _ _ _) rfl rfl (fun _ => rfl) ?_
          refine pu (v := .sc _) rfl rfl (fun _ => rfl) ?_
          refine pu (v := .sc _) rfl rfl (fun _ => rfl) ?_
          refine pu (v := .sc _) rfl rfl (fun _ => rfl) ?_
          refine pu (v := .sc _) rfl rfl (fun _ => rfl) ?_
          refine pu (v := .sc _) rfl rfl (fun _ => rfl) ?_
          refine qu rfl rfl rfl (by decide) rfl ?_
          obtain ⟨v15, ev15, hR⟩ := letE hR
          refine pu (v := .sc _) rfl rfl (fun _ => puI ev15) ?_
          refine bu (cs := [.sc (.int .i64 (w6 ((w6 (s3.2.2.1 + r6.1)) - (w6 (r9.1 * r10.1))))), .sc (.int .i64 v15), .sc (.bool false)]) rfl bt61 rfl ?_
          refine ldB (v := .agg _) rfl rfl rfl rfl ti59 rfl rfl ?_
          refine bu (cs := [.sc (.int .i64 (w6 ((w6 (s3.2.2.1 + r6.1)) - (w6 (r9.1 * r10.1))))), .sc (.int .i64 v15), .sc (.bool false), .sc (.int .i64 0), .sc (.int .i64 0), .sc (.bool true)]) rfl bt63 rfl ?_
          refine bs (α := curve_Sample) 209 true ([curve_Sample.mk (Bound.mk (w6 ((w6 (s3.2.2.1 + r6.1)) - (w6 (r9.1 * r10.1)))) v15 false) (Bound.mk 0 0 true)] : List curve_Sample) rfl rfl ti35 rfl ti63 rfl rfl rfl rfl rfl ?_
          obtain ⟨h16, hR⟩ := chkE hR
          refine ap' (α := curve_Sample) (nw := true) (xs := s3.2.1) (ys := ([curve_Sample.mk (Bound.mk (w6 ((w6 (s3.2.2.1 + r6.1)) - (w6 (r9.1 * r10.1)))) v15 false) (Bound.mk 0 0 true)] : List curve_Sample)) rfl rfl rfl rfl (srcS' rfl rfl rfl) ti35 rfl ti63 rfl h16 rfl ?_
          refine pu (v := slV curve_Sample _ _ _ _) rfl rfl (fun _ => rfl) ?_
          refine RunC.blk ?_
          refine RunC.fin ?_
          refine AWP.rgC 229 rfl rfl ?_
          refine pu (v := .sc _) rfl rfl (fun _ => rfl) ?_
          refine pu (v := .sc _) rfl rfl (fun _ => rfl) ?_
          refine RunC.fin ?_
          refine ⟨(r13.2, s3.2.1 ++ ([curve_Sample.mk (Bound.mk (w6 ((w6 (s3.2.2.1 + r6.1)) - (w6 (r9.1 * r10.1)))) v15 false) (Bound.mk 0 0 true)] : List curve_Sample), w6 (s3.2.2.1 + r6.1), w6 (s3.2.2.2 + 1)), (Option.some.inj hR).symm, ?_⟩
          exact Weak.turnL [(0, 0), (1, 0), (2, 0), (3, 0), (4, 0)] [] rfl rfl (tc (trP' rfl rfl rfl rfl) (tc (trP' rfl rfl rfl rfl) (tc (trP' rfl rfl rfl rfl) (tc (trS' rfl rfl rfl rfl rfl) (tc (.sc _) (tc (.sc _) (tc (.sc _) tn))))))) (mc rfl (.box rfl (.cons trR1 (.cons (.sc _) (.nil))) rfl) (mc rfl (.box rfl (.cons (.sc _) (.cons (.sc _) (.cons (.sc _) (.cons (.sc _) (.cons (.sc _) (.cons trR1 (.cons (.sc _) (.cons (.sc _) (.cons (.sc _) (.nil)))))))))) rfl) (mc rfl (.box rfl (.cons (.sc _) (.cons (trS' rfl rfl rfl rfl rfl) (.cons (.sc _) (.cons (.sc _) (.cons (.sc _) (.cons (.sc _) (.cons (.sc _) (.cons (.sc _) (.cons (.sc _) (.cons (.sc _) (.cons (.sc _) (.cons (.sc _) (.nil))))))))))))) rfl) (mc rfl (btrA' rfl) (mc rfl (btrA' rfl) mn)))))
        · refine AWP.skip ?_
          refine skT ?_
          refine AWP.rgC 213 rfl rfl ?_
          refine pu (v := slV curve_Sample _ _ _ _) rfl rfl (fun _ => rfl) ?_
          refine pu (v := .sc _) rfl rfl (fun _ => rfl) ?_
          refine pu (v := .sc _) rfl rfl (fun _ => rfl) ?_
          refine pu (v := .sc _) rfl rfl (fun _ => rfl) ?_
          refine pu (v := .sc _) rfl rfl (fun _ => rfl) ?_
          refine pu (v := .sc _) rfl rfl (fun _ => rfl) ?_
          refine qu rfl rfl rfl (by decide) rfl ?_
          obtain ⟨v17, ev17, hR⟩ := letE hR
          refine pu (v := .sc _) rfl rfl (fun _ => puI ev17) ?_
          refine bu (cs := [.sc (.int .i64 (w6 ((w6 (s3.2.2.1 + r6.1)) - (w6 (r9.1 * r10.1))))), .sc (.int .i64 v17), .sc (.bool false)]) rfl bt61 rfl ?_
          refine ldB (v := .agg _) rfl rfl rfl rfl ti59 rfl rfl ?_
          refine bu (cs := [.sc (.int .i64 (w6 ((w6 (s3.2.2.1 + r6.1)) - (w6 (r9.1 * r10.1))))), .sc (.int .i64 v17), .sc (.bool false), .sc (.int .i64 (w6 (r7.1 - r11.1))), .sc (.int .i64 (w6 (r7.1 + r12.1))), .sc (.bool false)]) rfl bt63 rfl ?_
          refine bs (α := curve_Sample) 201 true ([curve_Sample.mk (Bound.mk (w6 ((w6 (s3.2.2.1 + r6.1)) - (w6 (r9.1 * r10.1)))) v17 false) (Bound.mk (w6 (r7.1 - r11.1)) (w6 (r7.1 + r12.1)) false)] : List curve_Sample) rfl rfl ti35 rfl ti63 rfl rfl rfl rfl rfl ?_
          obtain ⟨h18, hR⟩ := chkE hR
          refine ap' (α := curve_Sample) (nw := true) (xs := s3.2.1) (ys := ([curve_Sample.mk (Bound.mk (w6 ((w6 (s3.2.2.1 + r6.1)) - (w6 (r9.1 * r10.1)))) v17 false) (Bound.mk (w6 (r7.1 - r11.1)) (w6 (r7.1 + r12.1)) false)] : List curve_Sample)) rfl rfl rfl rfl (srcS' rfl rfl rfl) ti35 rfl ti63 rfl h18 rfl ?_
          refine pu (v := slV curve_Sample _ _ _ _) rfl rfl (fun _ => rfl) ?_
          refine RunC.blk ?_
          refine RunC.fin ?_
          refine AWP.rgC 221 rfl rfl ?_
          refine pu (v := .sc _) rfl rfl (fun _ => rfl) ?_
          refine pu (v := .sc _) rfl rfl (fun _ => rfl) ?_
          refine RunC.fin ?_
          refine ⟨(r13.2, s3.2.1 ++ ([curve_Sample.mk (Bound.mk (w6 ((w6 (s3.2.2.1 + r6.1)) - (w6 (r9.1 * r10.1)))) v17 false) (Bound.mk (w6 (r7.1 - r11.1)) (w6 (r7.1 + r12.1)) false)] : List curve_Sample), w6 (s3.2.2.1 + r6.1), w6 (s3.2.2.2 + 1)), (Option.some.inj hR).symm, ?_⟩
          exact Weak.turnL [(0, 0), (1, 0), (2, 0), (3, 0), (4, 0)] [] rfl rfl (tc (trP' rfl rfl rfl rfl) (tc (trP' rfl rfl rfl rfl) (tc (trP' rfl rfl rfl rfl) (tc (trS' rfl rfl rfl rfl rfl) (tc (.sc _) (tc (.sc _) (tc (.sc _) tn))))))) (mc rfl (.box rfl (.cons trR1 (.cons (.sc _) (.nil))) rfl) (mc rfl (.box rfl (.cons (.sc _) (.cons (.sc _) (.cons (.sc _) (.cons (.sc _) (.cons (.sc _) (.cons trR1 (.cons (.sc _) (.cons (.sc _) (.cons (.sc _) (.nil)))))))))) rfl) (mc rfl (.box rfl (.cons (.sc _) (.cons (trS' rfl rfl rfl rfl rfl) (.cons (.sc _) (.cons (.sc _) (.cons (.sc _) (.cons (.sc _) (.cons (.sc _) (.cons (.sc _) (.cons (.sc _) (.cons (.sc _) (.cons (.sc _) (.cons (.sc _) (.nil))))))))))))) rfl) (mc rfl (btrA' rfl) (mc rfl (btrA' rfl) mn)))))
    · refine AWP.exit ?_
      refine exT ?_
      refine exT ?_
      refine exH (skT ?_)
      refine ⟨(s3.1, s3.2.1), (Option.some.inj hR).symm, ?_⟩
      exact Weak.turnL [(0, 0), (4, 0)] [] rfl rfl (tc (trS' rfl rfl rfl rfl rfl) tn) (mc rfl (.box rfl (.cons trR1 (.cons (.sc _) (.nil))) rfl) (mc rfl (btrA' rfl) mn))
  · refine skT ?_
    refine AWP.sq ?_
    refine AWP.rgC 10 rfl rfl ?_
    refine pu (v := slV curve_Sample _ _ _ _) rfl rfl (fun _ => rfl) ?_
    obtain ⟨r19, hr19, hR⟩ := bindE hR
    obtain ⟨h20, hR⟩ := chkE hR
    refine cps (res' := .tup []) (ups := [(1, arrB (α := curve_Sample) 63 0 false r19)]) [1] 6 rfl rfl rfl cb14 (okAny14 z4.2 _ hr19) (.cons (ldM rfl rfl) (.cons (.fn (.nil)) (.nil))) (pc rfl bldA pn) rfl rfl rfl rfl rfl (by first | rfl | exact renR | exact renA | exact renS | simp only [V.ren, V.rens, renR, renA, renS] | (simp only [V.ren, V.rens, renR, renA, renS]; rfl)) (by simp only [passUps, renBox, renArr]; rfl) ?_
    refine RunC.fin ?_
    refine AWP.sq ?_
    refine AWP.rgC 22 rfl rfl ?_
    refine pu (v := slV curve_Sample _ _ _ _) rfl rfl (fun _ => rfl) ?_
    refine pu (v := slV curve_Sample _ _ _ _) rfl rfl (fun _ => rfl) ?_
    refine pu (v := .sc _) rfl rfl (fun _ => rfl) ?_
    refine RunC.fin ?_
    refine AWP.ret ?_
    have hR := Option.some.inj hR; subst hR
    exact hQ _ _ (LS.mk [(6, rowV (α := curve_Sample) false r19), (7, .sc (.bool true))] (lblks 0 [boxB (α := spymake_Stream) false z4.1]) 1) (.tup [rowV (α := curve_Sample) false r19, .sc (.bool true)]) [] (.inr rfl) (Weak.turnL [(0, 0)] [1] rfl rfl (tc (trF' rfl rfl id h20) (tc (.sc _) tn)) (mc rfl (.box rfl (.cons trR1 (.cons (.sc _) (.nil))) rfl) mn)) (ro2 (rvT (v := rowV (α := curve_Sample) false r19) rfl) (rvT (v := .sc (.bool true)) rfl)) rfl rfl (.tup (.cons ldR' (.cons (.sc _) .nil))) (pc rfl bldB pn)
theorem ok4 (s : spymake_Stream) (id_ : Int) (at_ : Vec) (r : Star × spymake_Stream) (hR : Stream_Wave s id_ at_ = some r) : FnD Try.prog 4 [boxB false s] [.ptr 0 0 0, .sc (.int .i64 id_), aggV false at_] (aggV (α := Star) true r.1) [boxB false r.2] := by
  refine FnX.walk Try.func4 rfl 36 1 (by simp [Try.ntmps4]) rfl fun W S F Q hQ => ?_
  unfold Stream_Wave at hR
  refine AWP.sq ?_
  refine AWP.rgC 9 rfl rfl ?_
  refine bx (cs := _) 1 rfl rfl rfl ?_
  refine al (cs := [.sc (.int .i64 0), .sc (.int .i64 0), .sc (.int .i64 0), .sc (.int .i64 0), .sc (.int .i64 0), .sc (.slice none 0 0), .sc (.int .i64 0), .sc (.int .i64 0), .sc (.int .i64 0)]) 5 rfl rfl ti32 rfl rfl ?_
  refine RunC.fin ?_
  refine AWP.sq ?_
  refine AWP.rgD 37 [0, 0, 0, 4, 15, 0, 63] ⟨[3], [none, some [1], none, some [0], none, none, some [29]]⟩ hmix (by kernel_rfl) rfl rfl ?_
  refine pu (v := .sc _) rfl rfl (fun _ => rfl) ?_
  refine ldB (v := .agg _) rfl rfl rfl rfl ti27 rfl rfl ?_
  refine pu (v := .ptr _ _ _) rfl rfl (fun _ => rfl) ?_
  obtain ⟨r1, hr1, hR⟩ := bindE hR
  refine cps (res' := .sc (.int .i64 r1.1)) (ups := [(0, boxB (α := spymake_Stream) false r1.2)]) [0] 21 rfl rfl rfl cb11 (ok11 s 500 _ hr1) (.cons (ldP rfl rfl) (.cons (.sc _) (.nil))) (pc rfl (.box (.cons ldR' (.cons (.sc _) (.nil))) rfl) pn) rfl rfl rfl rfl rfl (by first | rfl | exact renR | exact renA | exact renS | simp only [V.ren, V.rens, renR, renA, renS] | (simp only [V.ren, V.rens, renR, renA, renS]; rfl)) (by simp only [passUps, renBox, renArr]; rfl) ?_
  refine bu (cs := [.sc (.int .i64 id_), .sc (.int .i64 at_.X), .sc (.int .i64 at_.Y), .sc (.int .i64 at_.Z), .sc (.int .i64 r1.1), .sc (.slice none 0 0), .sc (.int .i64 0), .sc (.int .i64 (-17592186044416)), .sc (.int .i64 17592186044416)]) rfl bt32 rfl ?_
  refine al (cs := [.sc (.int .i64 0), .sc (.int .i64 0), .sc (.int .i64 0), .sc (.int .i64 0), .sc (.int .i64 0), .sc (.slice none 0 0), .sc (.int .i64 0), .sc (.int .i64 0), .sc (.int .i64 0)]) 29 rfl rfl ti32 rfl rfl ?_
  refine stB (cs' := [.sc (.int .i64 id_), .sc (.int .i64 at_.X), .sc (.int .i64 at_.Y), .sc (.int .i64 at_.Z), .sc (.int .i64 r1.1), .sc (.slice none 0 0), .sc (.int .i64 0), .sc (.int .i64 (-17592186044416)), .sc (.int .i64 17592186044416)]) rfl rfl rfl rfl ti32 rfl rfl rfl rfl rfl ?_
  refine RunC.fin ?_
  refine AWP.sq ?_
  refine AWP.sq ?_
  refine AWP.rgC 49 rfl rfl ?_
  refine pu (v := .ptr _ _ _) rfl rfl (fun _ => rfl) ?_
  obtain ⟨r2, hr2, hR⟩ := bindE hR
  refine cps (res' := .sc (.int .i64 r2.1)) (ups := [(0, boxB (α := spymake_Stream) false r2.2)]) [0] 41 rfl rfl rfl cb12 (ok12 r1.2 1 6 _ hr2) (.cons (ldP rfl rfl) (.cons (.sc _) (.cons (.sc _) (.nil)))) (pc rfl (.box (.cons ldR' (.cons (.sc _) (.nil))) rfl) pn) rfl rfl rfl rfl rfl (by first | rfl | exact renR | exact renA | exact renS | simp only [V.ren, V.rens, renR, renA, renS] | (simp only [V.ren, V.rens, renR, renA, renS]; rfl)) (by simp only [passUps, renBox, renArr]; rfl) ?_
  refine pu (v := .sc _) rfl rfl (fun _ => rfl) ?_
  refine RunC.fin ?_
  refine AWP.nilB Int 29 5 28 rfl rfl (cs' := [.sc (.int .i64 id_), .sc (.int .i64 at_.X), .sc (.int .i64 at_.Y), .sc (.int .i64 at_.Z), .sc (.int .i64 r1.1), slV Int 49 0 0 0, .sc (.int .i64 0), .sc (.int .i64 (-17592186044416)), .sc (.int .i64 17592186044416)]) rfl ?_
  refine AWP.loopJ (fun s3 : spymake_Stream × (List Int) × Int => LS.mk [(0, .ptr 0 0 0), (6, .ptr 1 0 0), (7, .ptr 2 0 0), (14, .sc (.int .i64 r2.1)), (15, .sc (.int .i64 s3.2.2))] (lblks 0 [boxB (α := spymake_Stream) false s3.1, .box [.sc (.int .i64 0), .sc (.int .i64 0), .sc (.int .i64 0), .sc (.int .i64 0), .sc (.int .i64 0), .sc (.slice none 0 0), .sc (.int .i64 0), .sc (.int .i64 0), .sc (.int .i64 0)], .box [.sc (.int .i64 id_), .sc (.int .i64 at_.X), .sc (.int .i64 at_.Y), .sc (.int .i64 at_.Z), .sc (.int .i64 r1.1), slV Int 3 0 0 s3.2.1.length, .sc (.int .i64 0), .sc (.int .i64 (-17592186044416)), .sc (.int .i64 17592186044416)], arrB (α := Int) 28 0 true s3.2.1]) 4) (fun z4 : spymake_Stream × (List Int) => LS.mk [(0, .ptr 0 0 0), (6, .ptr 1 0 0), (7, .ptr 2 0 0)] (lblks 0 [boxB (α := spymake_Stream) false z4.1, .box [.sc (.int .i64 0), .sc (.int .i64 0), .sc (.int .i64 0), .sc (.int .i64 0), .sc (.int .i64 0), .sc (.slice none 0 0), .sc (.int .i64 0), .sc (.int .i64 0), .sc (.int .i64 0)], .box [.sc (.int .i64 id_), .sc (.int .i64 at_.X), .sc (.int .i64 at_.Y), .sc (.int .i64 at_.Z), .sc (.int .i64 r1.1), slV Int 3 0 0 z4.2.length, .sc (.int .i64 0), .sc (.int .i64 (-17592186044416)), .sc (.int .i64 17592186044416)], arrB (α := Int) 28 0 true z4.2]) 4) (Stream_Wave.l1 r2) hR (s0 := (r2.2, ([] : List Int), 0)) (Weak.turnL [(0, 0), (5, 0), (29, 0), (49, 0)] [] rfl rfl (tc (trP' rfl rfl rfl rfl) (tc (trP' rfl rfl rfl rfl) (tc (trP' rfl rfl rfl rfl) (tc (.sc _) (tc (.sc _) tn))))) (mc rfl (.box rfl (.cons trR1 (.cons (.sc _) (.nil))) rfl) (mc rfl (.box rfl (.cons (.sc _) (.cons (.sc _) (.cons (.sc _) (.cons (.sc _) (.cons (.sc _) (.cons (.sc _) (.cons (.sc _) (.cons (.sc _) (.cons (.sc _) (.nil)))))))))) rfl) (mc rfl (.box rfl (.cons (.sc _) (.cons (.sc _) (.cons (.sc _) (.cons (.sc _) (.cons (.sc _) (.cons (trS' rfl rfl rfl rfl rfl) (.cons (.sc _) (.cons (.sc _) (.cons (.sc _) (.nil)))))))))) rfl) (mc rfl (btrA' rfl) mn))))) (fun s3 o3 hR => ?_) fun z4 hR => ?_
  · unfold Stream_Wave.l1 at hR
    refine AWP.sq ?_
    refine AWP.rgC 8 rfl rfl ?_
    refine pu (v := .sc _) rfl rfl (fun _ => rfl) ?_
    refine RunC.fin ?_
    refine AWP.sq ?_
    refine AWP.cd hR rfl (fun h5 hR => ?_) fun h5 hR => ?_
    · refine AWP.skip ?_
      refine skT ?_
      refine AWP.sq ?_
      refine AWP.block ?_
      refine AWP.rgD 52 [0, 1, 0, 4, 0, 28, 60, 124, 255, 511, 1023] ⟨[3, 5], [none, some [2], none, some [0], none, some [0], none, none, some [3, 36], none, some [2]]⟩ hmix (by kernel_rfl) rfl rfl ?_
      refine fa rfl rfl ti32 rfl rfl ti29 rfl ?_
      refine ldB (v := slV Int _ _ _ _) rfl rfl rfl rfl ti29 rfl rfl ?_
      refine pu (v := .ptr _ _ _) rfl rfl (fun _ => rfl) ?_
      obtain ⟨r6, hr6, hR⟩ := bindE hR
      refine cps (res' := .sc (.int .i64 r6.1)) (ups := [(0, boxB (α := spymake_Stream) false r6.2)]) [0] 20 rfl rfl rfl cb11 (ok11 s3.1 4 _ hr6) (.cons (ldP rfl rfl) (.cons (.sc _) (.nil))) (pc rfl (.box (.cons ldR' (.cons (.sc _) (.nil))) rfl) pn) rfl rfl rfl rfl rfl (by first | rfl | exact renR | exact renA | exact renS | simp only [V.ren, V.rens, renR, renA, renS] | (simp only [V.ren, V.rens, renR, renA, renS]; rfl)) (by simp only [passUps, renBox, renArr]; rfl) ?_
      refine pu (v := .ptr _ _ _) rfl rfl (fun _ => rfl) ?_
      obtain ⟨r7, hr7, hR⟩ := bindE hR
      refine cps (res' := .sc (.int .i64 r7.1)) (ups := [(0, boxB (α := spymake_Stream) false r7.2)]) [0] 28 rfl rfl rfl cb11 (ok11 r6.2 300 _ hr7) (.cons (ldP rfl rfl) (.cons (.sc _) (.nil))) (pc rfl (.box (.cons ldR' (.cons (.sc _) (.nil))) rfl) pn) rfl rfl rfl rfl rfl (by first | rfl | exact renR | exact renA | exact renS | simp only [V.ren, V.rens, renR, renA, renS] | (simp only [V.ren, V.rens, renR, renA, renS]; rfl)) (by simp only [passUps, renBox, renArr]; rfl) ?_
      refine pu (v := .sc _) rfl rfl (fun _ => rfl) ?_
      refine bs (α := Int) 36 true ([w6 (r6.1 * r7.1)] : List Int) rfl rfl ti29 rfl ti28 rfl rfl rfl rfl rfl ?_
      obtain ⟨h8, hR⟩ := chkE hR
      refine ap' (α := Int) (nw := true) (xs := s3.2.1) (ys := ([w6 (r6.1 * r7.1)] : List Int)) rfl rfl rfl rfl (srcS' rfl rfl rfl) ti29 rfl ti28 rfl h8 rfl ?_
      refine fa rfl rfl ti32 rfl rfl ti29 rfl ?_
      refine stB (cs' := [.sc (.int .i64 id_), .sc (.int .i64 at_.X), .sc (.int .i64 at_.Y), .sc (.int .i64 at_.Z), .sc (.int .i64 r1.1), slV Int 3 1 0 (s3.2.1 ++ ([w6 (r6.1 * r7.1)] : List Int)).length, .sc (.int .i64 0), .sc (.int .i64 (-17592186044416)), .sc (.int .i64 17592186044416)]) rfl rfl rfl rfl ti29 rfl rfl rfl rfl rfl ?_
      refine RunC.blk ?_
      refine RunC.fin ?_
      refine AWP.rgC 60 rfl rfl ?_
      refine pu (v := .sc _) rfl rfl (fun _ => rfl) ?_
      refine pu (v := .sc _) rfl rfl (fun _ => rfl) ?_
      refine RunC.fin ?_
      refine ⟨(r7.2, s3.2.1 ++ ([w6 (r6.1 * r7.1)] : List Int), w6 (s3.2.2 + 1)), (Option.some.inj hR).symm, ?_⟩
      exact Weak.turnL [(0, 0), (1, 0), (2, 0), (3, 0)] [] rfl rfl (tc (trP' rfl rfl rfl rfl) (tc (trP' rfl rfl rfl rfl) (tc (trP' rfl rfl rfl rfl) (tc (.sc _) (tc (.sc _) tn))))) (mc rfl (.box rfl (.cons trR1 (.cons (.sc _) (.nil))) rfl) (mc rfl (.box rfl (.cons (.sc _) (.cons (.sc _) (.cons (.sc _) (.cons (.sc _) (.cons (.sc _) (.cons (.sc _) (.cons (.sc _) (.cons (.sc _) (.cons (.sc _) (.nil)))))))))) rfl) (mc rfl (.box rfl (.cons (.sc _) (.cons (.sc _) (.cons (.sc _) (.cons (.sc _) (.cons (.sc _) (.cons (trS' rfl rfl rfl rfl rfl) (.cons (.sc _) (.cons (.sc _) (.cons (.sc _) (.nil)))))))))) rfl) (mc rfl (btrA' rfl) mn))))
    · refine AWP.exit ?_
      refine exT ?_
      refine exT ?_
      refine exH (skT ?_)
      refine ⟨(s3.1, s3.2.1), (Option.some.inj hR).symm, ?_⟩
      exact Weak.turnL [(0, 0), (1, 0), (2, 0), (3, 0)] [] rfl rfl (tc (trP' rfl rfl rfl rfl) (tc (trP' rfl rfl rfl rfl) (tc (trP' rfl rfl rfl rfl) tn))) (mc rfl (.box rfl (.cons trR1 (.cons (.sc _) (.nil))) rfl) (mc rfl (.box rfl (.cons (.sc _) (.cons (.sc _) (.cons (.sc _) (.cons (.sc _) (.cons (.sc _) (.cons (.sc _) (.cons (.sc _) (.cons (.sc _) (.cons (.sc _) (.nil)))))))))) rfl) (mc rfl (.box rfl (.cons (.sc _) (.cons (.sc _) (.cons (.sc _) (.cons (.sc _) (.cons (.sc _) (.cons (trS' rfl rfl rfl rfl rfl) (.cons (.sc _) (.cons (.sc _) (.cons (.sc _) (.nil)))))))))) rfl) (mc rfl (btrA' rfl) mn))))
  · refine skT ?_
    refine AWP.sq ?_
    refine AWP.rgD 36 [0, 1, 3, 0, 8, 31, 63, 127] ⟨[4], [none, some [2], none, none, some [0], none, none, some [2]]⟩ hmix (by kernel_rfl) rfl rfl ?_
    refine fa rfl rfl ti32 rfl rfl ti29 rfl ?_
    refine ldB (v := slV Int _ _ _ _) rfl rfl rfl rfl ti29 rfl rfl ?_
    refine lenS (α := Int) rfl rfl ti29 rfl ?_
    refine pu (v := .ptr _ _ _) rfl rfl (fun _ => rfl) ?_
    obtain ⟨r9, hr9, hR⟩ := bindE hR
    refine cps (res' := .sc (.int .i64 r9.1)) (ups := [(0, boxB (α := spymake_Stream) false r9.2)]) [0] 20 rfl rfl rfl cb12 (ok12 z4.1 1 400 _ hr9) (.cons (ldP rfl rfl) (.cons (.sc _) (.cons (.sc _) (.nil)))) (pc rfl (.box (.cons ldR' (.cons (.sc _) (.nil))) rfl) pn) rfl rfl rfl rfl rfl (by first | rfl | exact renR | exact renA | exact renS | simp only [V.ren, V.rens, renR, renA, renS] | (simp only [V.ren, V.rens, renR, renA, renS]; rfl)) (by simp only [passUps, renBox, renArr]; rfl) ?_
    refine pu (v := .sc _) rfl rfl (fun _ => rfl) ?_
    refine fa rfl rfl ti32 rfl rfl ti30 rfl ?_
    refine stB (cs' := [.sc (.int .i64 id_), .sc (.int .i64 at_.X), .sc (.int .i64 at_.Y), .sc (.int .i64 at_.Z), .sc (.int .i64 r1.1), slV Int 3 0 0 z4.2.length, .sc (.int .i64 (w6 ((z4.2.length : Int) * r9.1))), .sc (.int .i64 (-17592186044416)), .sc (.int .i64 17592186044416)]) rfl rfl rfl rfl ti30 rfl rfl rfl rfl rfl ?_
    refine RunC.fin ?_
    refine AWP.sq ?_
    refine AWP.rgC 44 rfl rfl ?_
    refine ldB (v := .agg _) rfl rfl rfl rfl ti32 rfl rfl ?_
    refine stB (cs' := [.sc (.int .i64 id_), .sc (.int .i64 at_.X), .sc (.int .i64 at_.Y), .sc (.int .i64 at_.Z), .sc (.int .i64 r1.1), slV Int 3 0 0 z4.2.length, .sc (.int .i64 (w6 ((z4.2.length : Int) * r9.1))), .sc (.int .i64 (-17592186044416)), .sc (.int .i64 17592186044416)]) rfl rfl rfl rfl ti32 rfl rfl rfl rfl rfl ?_
    refine RunC.fin ?_
    refine AWP.ret ?_
    have hR := Option.some.inj hR; subst hR
    exact hQ _ _ (LS.mk [(6, .ptr 1 0 0)] (lblks 0 [boxB (α := spymake_Stream) false r9.2, boxB (α := Star) true (Star.mk id_ at_ r1.1 z4.2 (w6 ((z4.2.length : Int) * r9.1)) (-17592186044416) 17592186044416)]) 2) (aggV (α := Star) true (Star.mk id_ at_ r1.1 z4.2 (w6 ((z4.2.length : Int) * r9.1)) (-17592186044416) 17592186044416)) [] (.inr rfl) (Weak.turnL [(0, 0), (1, 0)] [3] rfl rfl (tc (trP' rfl rfl rfl rfl) tn) (mc rfl (.box rfl (.cons trR1 (.cons (.sc _) (.nil))) rfl) (mc rfl (.box rfl (.cons (.sc _) (.cons (.sc _) (.cons (.sc _) (.cons (.sc _) (.cons (.sc _) (.cons (trF' rfl rfl id rfl) (.cons (.sc _) (.cons (.sc _) (.cons (.sc _) (.nil)))))))))) rfl) mn))) (ro1 (rvC (v := aggV (α := Star) true (Star.mk id_ at_ r1.1 z4.2 (w6 ((z4.2.length : Int) * r9.1)) (-17592186044416) 17592186044416)) rfl rfl ti32 rfl)) rfl rfl ldA (pc rfl bldB pn)
theorem ok5 (s : spymake_Stream) (r : Vec × spymake_Stream) (hR : Stream_Vec s = some r) : FnD Try.prog 5 [boxB false s] [.ptr 0 0 0] (aggV (α := Vec) true r.1) [boxB false r.2] := by
  refine FnX.walk Try.func5 rfl 31 1 (by simp [Try.ntmps5]) rfl fun W S F Q hQ => ?_
  unfold Stream_Vec at hR
  refine AWP.sq ?_
  refine AWP.rgC 5 rfl rfl ?_
  refine al (cs := [.sc (.int .i64 0), .sc (.int .i64 0), .sc (.int .i64 0)]) 1 rfl rfl ti27 rfl rfl ?_
  refine RunC.fin ?_
  refine AWP.sq ?_
  refine AWP.rgC 29 rfl rfl ?_
  refine bs (α := Int) 5 true ([3, 100, 5000, 1048576] : List Int) rfl rfl ti22 rfl ti3 rfl rfl rfl rfl rfl ?_
  refine pu (v := .ptr _ _ _) rfl rfl (fun _ => rfl) ?_
  obtain ⟨r1, hr1, hR⟩ := bindE hR
  refine cps (res' := .sc (.int .i64 r1.1)) (ups := [(0, boxB (α := spymake_Stream) false r1.2)]) [0] 13 rfl rfl rfl cb11 (ok11 s 4 _ hr1) (.cons (ldP rfl rfl) (.cons (.sc _) (.nil))) (pc rfl (.box (.cons ldR' (.cons (.sc _) (.nil))) rfl) pn) rfl rfl rfl rfl rfl (by first | rfl | exact renR | exact renA | exact renS | simp only [V.ren, V.rens, renR, renA, renS] | (simp only [V.ren, V.rens, renR, renA, renS]; rfl)) (by simp only [passUps, renBox, renArr]; rfl) ?_
  obtain ⟨h2, hR⟩ := chkE hR
  refine ixS0 (α := Int) rfl rfl rfl ti22 rfl ti3 rfl h2 ?_
  refine ldE (α := Int) (v := .sc _) rfl rfl rfl (ixlt h2) ti3 rfl rfl rfl rfl ?_
  refine pu (v := .sc _) rfl rfl (fun _ => rfl) ?_
  refine RunC.fin ?_
  refine AWP.sq ?_
  refine AWP.rgC 101 rfl rfl ?_
  refine pu (v := .ptr _ _ _) rfl rfl (fun _ => rfl) ?_
  refine pu (v := .sc _) rfl rfl (fun _ => rfl) ?_
  refine pu (v := .sc _) rfl rfl (fun _ => rfl) ?_
  refine pu (v := .sc _) rfl rfl (fun _ => rfl) ?_
  obtain ⟨r3, hr3, hR⟩ := bindE hR
  refine cps (res' := .sc (.int .i64 r3.1)) (ups := [(0, boxB (α := spymake_Stream) false r3.2)]) [0] 45 rfl rfl rfl cb12 (ok12 r1.2 (w6 (0 - (gt ([3, 100, 5000, 1048576] : List Int) r1.1))) (gt ([3, 100, 5000, 1048576] : List Int) r1.1) _ hr3) (.cons (ldP rfl rfl) (.cons (.sc _) (.cons (.sc _) (.nil)))) (pc rfl (.box (.cons ldR' (.cons (.sc _) (.nil))) rfl) pn) rfl rfl rfl rfl rfl (by first | rfl | exact renR | exact renA | exact renS | simp only [V.ren, V.rens, renR, renA, renS] | (simp only [V.ren, V.rens, renR, renA, renS]; rfl)) (by simp only [passUps, renBox, renArr]; rfl) ?_
  refine pu (v := .ptr _ _ _) rfl rfl (fun _ => rfl) ?_
  refine pu (v := .sc _) rfl rfl (fun _ => rfl) ?_
  refine pu (v := .sc _) rfl rfl (fun _ => rfl) ?_
  refine pu (v := .sc _) rfl rfl (fun _ => rfl) ?_
  obtain ⟨r4, hr4, hR⟩ := bindE hR
  refine cps (res' := .sc (.int .i64 r4.1)) (ups := [(0, boxB (α := spymake_Stream) false r4.2)]) [0] 65 rfl rfl rfl cb12 (ok12 r3.2 (w6 (0 - (gt ([3, 100, 5000, 1048576] : List Int) r1.1))) (gt ([3, 100, 5000, 1048576] : List Int) r1.1) _ hr4) (.cons (ldP rfl rfl) (.cons (.sc _) (.cons (.sc _) (.nil)))) (pc rfl (.box (.cons ldR' (.cons (.sc _) (.nil))) rfl) pn) rfl rfl rfl rfl rfl (by first | rfl | exact renR | exact renA | exact renS | simp only [V.ren, V.rens, renR, renA, renS] | (simp only [V.ren, V.rens, renR, renA, renS]; rfl)) (by simp only [passUps, renBox, renArr]; rfl) ?_
  refine pu (v := .ptr _ _ _) rfl rfl (fun _ => rfl) ?_
  refine pu (v := .sc _) rfl rfl (fun _ => rfl) ?_
  refine pu (v := .sc _) rfl rfl (fun _ => rfl) ?_
  refine pu (v := .sc _) rfl rfl (fun _ => rfl) ?_
  obtain ⟨r5, hr5, hR⟩ := bindE hR
  refine cps (res' := .sc (.int .i64 r5.1)) (ups := [(0, boxB (α := spymake_Stream) false r5.2)]) [0] 85 rfl rfl rfl cb12 (ok12 r4.2 (w6 (0 - (gt ([3, 100, 5000, 1048576] : List Int) r1.1))) (gt ([3, 100, 5000, 1048576] : List Int) r1.1) _ hr5) (.cons (ldP rfl rfl) (.cons (.sc _) (.cons (.sc _) (.nil)))) (pc rfl (.box (.cons ldR' (.cons (.sc _) (.nil))) rfl) pn) rfl rfl rfl rfl rfl (by first | rfl | exact renR | exact renA | exact renS | simp only [V.ren, V.rens, renR, renA, renS] | (simp only [V.ren, V.rens, renR, renA, renS]; rfl)) (by simp only [passUps, renBox, renArr]; rfl) ?_
  refine bu (cs := [.sc (.int .i64 r3.1), .sc (.int .i64 r4.1), .sc (.int .i64 r5.1)]) rfl bt27 rfl ?_
  refine al (cs := [.sc (.int .i64 0), .sc (.int .i64 0), .sc (.int .i64 0)]) 93 rfl rfl ti27 rfl rfl ?_
  refine stB (cs' := [.sc (.int .i64 r3.1), .sc (.int .i64 r4.1), .sc (.int .i64 r5.1)]) rfl rfl rfl rfl ti27 rfl rfl rfl rfl rfl ?_
  refine RunC.fin ?_
  refine AWP.sq ?_
  refine AWP.sq ?_
  refine AWP.rgC 113 rfl rfl ?_
  refine ldB (v := .agg _) rfl rfl rfl rfl ti27 rfl rfl ?_
  refine bu (cs := [.sc (.int .i64 0), .sc (.int .i64 0), .sc (.int .i64 0)]) rfl bt27 rfl ?_
  refine es (cs := [.sc (.int .i64 r3.1), .sc (.int .i64 r4.1), .sc (.int .i64 r5.1)]) (ds := [.sc (.int .i64 0), .sc (.int .i64 0), .sc (.int .i64 0)]) rfl rfl rfl qa27 qg27 (qe27 _ _ _ _ _ _) ?_
  refine RunC.fin ?_
  refine AWP.cd hR rfl (fun h6 hR => ?_) fun h6 hR => ?_
  · refine AWP.rgC 121 rfl rfl ?_
    refine fa rfl rfl ti27 rfl rfl ti2 rfl ?_
    refine stB (cs' := [.sc (.int .i64 1), .sc (.int .i64 r4.1), .sc (.int .i64 r5.1)]) rfl rfl rfl rfl ti2 rfl rfl rfl rfl rfl ?_
    refine RunC.fin ?_
    refine AWP.sq ?_
    refine AWP.rgC 129 rfl rfl ?_
    refine ldB (v := .agg _) rfl rfl rfl rfl ti27 rfl rfl ?_
    refine stB (cs' := [.sc (.int .i64 1), .sc (.int .i64 r4.1), .sc (.int .i64 r5.1)]) rfl rfl rfl rfl ti27 rfl rfl rfl rfl rfl ?_
    refine RunC.fin ?_
    refine AWP.ret ?_
    have hR := Option.some.inj hR; subst hR
    exact hQ _ _ (LS.mk [(2, .ptr 1 0 0)] (lblks 0 [boxB (α := spymake_Stream) false r5.2, boxB (α := Vec) true (Vec.mk 1 r4.1 r5.1)]) 2) (aggV (α := Vec) true (Vec.mk 1 r4.1 r5.1)) [] (.inr rfl) (Weak.turnL [(0, 0), (1, 0)] [] rfl rfl (tc (trP' rfl rfl rfl rfl) tn) (mc rfl (.box rfl (.cons trR1 (.cons (.sc _) (.nil))) rfl) (mc rfl (.box rfl (.cons (.sc _) (.cons (.sc _) (.cons (.sc _) (.nil)))) rfl) mn))) (ro1 (rvC (v := aggV (α := Vec) true (Vec.mk 1 r4.1 r5.1)) rfl rfl ti27 rfl)) rfl rfl ldA (pc rfl bldB pn)
  · refine AWP.skip ?_
    refine skT ?_
    refine AWP.sq ?_
    refine AWP.rgC 121 rfl rfl ?_
    refine ldB (v := .agg _) rfl rfl rfl rfl ti27 rfl rfl ?_
    refine stB (cs' := [.sc (.int .i64 r3.1), .sc (.int .i64 r4.1), .sc (.int .i64 r5.1)]) rfl rfl rfl rfl ti27 rfl rfl rfl rfl rfl ?_
    refine RunC.fin ?_
    refine AWP.ret ?_
    have hR := Option.some.inj hR; subst hR
    exact hQ _ _ (LS.mk [(2, .ptr 1 0 0)] (lblks 0 [boxB (α := spymake_Stream) false r5.2, boxB (α := Vec) true (Vec.mk r3.1 r4.1 r5.1)]) 2) (aggV (α := Vec) true (Vec.mk r3.1 r4.1 r5.1)) [] (.inr rfl) (Weak.turnL [(0, 0), (1, 0)] [] rfl rfl (tc (trP' rfl rfl rfl rfl) tn) (mc rfl (.box rfl (.cons trR1 (.cons (.sc _) (.nil))) rfl) (mc rfl (.box rfl (.cons (.sc _) (.cons (.sc _) (.cons (.sc _) (.nil)))) rfl) mn))) (ro1 (rvC (v := aggV (α := Vec) true (Vec.mk r3.1 r4.1 r5.1)) rfl rfl ti27 rfl)) rfl rfl ldA (pc rfl bldB pn)
theorem ok3 (l : List Int) (below : Int) (above : Int) (step : Int) (r : Bool) (hR : spykeep4_PeriodTrue l below above step = some r) : FnP Try.prog 3 [rowV false l, .sc (.int .i64 below), .sc (.int .i64 above), .sc (.int .i64 step)] (.sc (.bool r)) := by
  refine fnP_of (FnX.walk Try.func3 rfl 86 0 (by simp [Try.ntmps3]) rfl fun W S F Q hQ => ?_)
  unfold spykeep4_PeriodTrue at hR
  refine AWP.sq ?_
  refine AWP.rgC 4 rfl rfl ?_
  refine pu (v := .sc _) rfl rfl (fun _ => rfl) ?_
  refine RunC.fin ?_
  refine AWP.sq ?_
  refine AWP.rgC 20 rfl rfl ?_
  refine pu (v := rowV _ l) rfl rfl (fun _ => rfl) ?_
  refine bu (cs := [rowV (α := Int) false l, .sc (.int .i64 0)]) rfl bt25 rfl ?_
  refine bx (cs := _) 12 rfl rfl rfl ?_
  refine pu (v := .ptr _ _ _) rfl rfl (fun _ => rfl) ?_
  refine RunC.fin ?_
  refine AWP.sq ?_
  refine AWP.rgC 44 rfl rfl ?_
  refine pu (v := .ptr _ _ _) rfl rfl (fun _ => rfl) ?_
  refine pu (v := .ptr _ _ _) rfl rfl (fun _ => rfl) ?_
  obtain ⟨r1, hr1, hR⟩ := bindE hR
  refine cps (res' := aggV (α := Vec) true r1.1) (ups := [(12, boxB (α := spymake_Stream) false r1.2)]) [12] 28 rfl rfl rfl cb5 (ok5 (spymake_Stream.mk l 0) _ hr1) (.cons (ldP rfl rfl) (.nil)) (pc rfl (.box (.cons ldR' (.cons (.sc _) (.nil))) rfl) pn) rfl rfl rfl rfl rfl (by first | rfl | exact renR | exact renA | exact renS | simp only [V.ren, V.rens, renR, renA, renS] | (simp only [V.ren, V.rens, renR, renA, renS]; rfl)) (by simp only [passUps, renBox, renArr]; rfl) ?_
  obtain ⟨r2, hr2, hR⟩ := bindE hR
  refine cps (res' := aggV (α := Star) true r2.1) (ups := [(12, boxB (α := spymake_Stream) false r2.2)]) [12] 32 rfl rfl rfl cb4 (ok4 r1.2 1 r1.1 _ hr2) (.cons (ldP rfl rfl) (.cons (.sc _) (.cons (.agg (.cons (.sc _) (.cons (.sc _) (.cons (.sc _) (.nil)))) rfl) (.nil)))) (pc rfl (.box (.cons ldR' (.cons (.sc _) (.nil))) rfl) pn) rfl rfl rfl rfl rfl (by first | rfl | exact renR | exact renA | exact renS | simp only [V.ren, V.rens, renR, renA, renS] | (simp only [V.ren, V.rens, renR, renA, renS]; rfl)) (by simp only [passUps, renBox, renArr]; rfl) ?_
  refine al (cs := [.sc (.int .i64 0), .sc (.int .i64 0), .sc (.int .i64 0), .sc (.int .i64 0), .sc (.int .i64 0), .sc (.slice none 0 0), .sc (.int .i64 0), .sc (.int .i64 0), .sc (.int .i64 0)]) 36 rfl rfl ti32 rfl rfl ?_
  refine stB (cs' := [.sc (.int .i64 r2.1.ID), .sc (.int .i64 r2.1.At.X), .sc (.int .i64 r2.1.At.Y), .sc (.int .i64 r2.1.At.Z), .sc (.int .i64 r2.1.Rate), rowV (α := Int) true r2.1.Wave, .sc (.int .i64 r2.1.Period), .sc (.int .i64 r2.1.From), .sc (.int .i64 r2.1.To)]) rfl rfl rfl rfl ti32 rfl rfl rfl rfl rfl ?_
  refine RunC.fin ?_
  refine AWP.sq ?_
  refine AWP.rgC 76 rfl rfl ?_
  refine pu (v := .ptr _ _ _) rfl rfl (fun _ => rfl) ?_
  refine ldB (v := .agg _) rfl rfl rfl rfl ti32 rfl rfl ?_
  obtain ⟨r3, hr3, hR⟩ := bindE hR
  refine cps (res' := .tup [rowV (α := curve_Sample) false r3.1, .sc (.bool r3.2.1)]) (ups := [(12, boxB (α := spymake_Stream) false r3.2.2)]) [12] 52 rfl rfl rfl cb6 (ok6 r2.2 r2.1 20 _ hr3) (.cons (ldP rfl rfl) (.cons (.agg (.cons (.sc _) (.cons (.sc _) (.cons (.sc _) (.cons (.sc _) (.cons (.sc _) (.cons ldR' (.cons (.sc _) (.cons (.sc _) (.cons (.sc _) (.nil)))))))))) rfl) (.cons (.sc _) (.nil)))) (pc rfl (.box (.cons ldR' (.cons (.sc _) (.nil))) rfl) pn) rfl rfl rfl rfl rfl (by first | rfl | exact renR | exact renA | exact renS | simp only [V.ren, V.rens, renR, renA, renS] | (simp only [V.ren, V.rens, renR, renA, renS]; rfl)) (by simp only [passUps, renBox, renArr]; rfl) ?_
  refine pu (v := .tup _) rfl rfl (fun _ => rfl) ?_
  refine pu (v := rowV _ r3.1) rfl rfl (fun _ => rfl) ?_
  refine pu (v := .sc _) rfl rfl (fun _ => rfl) ?_
  refine pu (v := rowV _ r3.1) rfl rfl (fun _ => rfl) ?_
  refine pu (v := .sc _) rfl rfl (fun _ => rfl) ?_
  refine RunC.fin ?_
  refine AWP.sq ?_
  refine AWP.rgC 92 rfl rfl ?_
  refine fa rfl rfl ti32 rfl rfl ti29 rfl ?_
  refine ldB (v := rowV _ r2.1.Wave) rfl rfl rfl rfl ti29 rfl rfl ?_
  refine lenL (α := Int) rfl rfl ti29 rfl ?_
  refine pu (v := .sc _) rfl rfl (fun _ => rfl) ?_
  refine RunC.fin ?_
  refine AWP.sq ?_
  refine AWP.rgC 116 rfl rfl ?_
  refine pu (v := .sc _) rfl rfl (fun _ => rfl) ?_
  refine pu (v := .sc _) rfl rfl (fun _ => rfl) ?_
  obtain ⟨r4, hr4, hR⟩ := bindE hR
  refine cls [] rfl rfl cb7 (ok7 step 3 _ hr4) (.cons (.sc _) (.cons (.sc _) (.nil))) (.inr rfl) rfl ?_
  refine pu (v := .sc _) rfl rfl (fun _ => rfl) ?_
  refine pu (v := .sc _) rfl rfl (fun _ => rfl) ?_
  refine pu (v := .sc _) rfl rfl (fun _ => rfl) ?_
  refine RunC.fin ?_
  refine AWP.sq ?_
  refine AWP.rgC 128 rfl rfl ?_
  refine fa rfl rfl ti32 rfl rfl ti30 rfl ?_
  refine ldB (v := .sc _) rfl rfl rfl rfl ti30 rfl rfl ?_
  refine pu (v := .sc _) rfl rfl (fun _ => rfl) ?_
  refine RunC.fin ?_
  refine AWP.sq ?_
  refine AWP.sq ?_
  refine AWP.rgC 140 rfl rfl ?_
  refine pu (v := .sc _) rfl rfl (fun _ => rfl) ?_
  obtain ⟨r5, hr5, hR⟩ := bindE hR
  refine cls [] rfl rfl cb7 (ok7 below 40 _ hr5) (.cons (.sc _) (.cons (.sc _) (.nil))) (.inr rfl) rfl ?_
  refine pu (v := .sc _) rfl rfl (fun _ => rfl) ?_
  refine RunC.fin ?_
  refine AWP.loopJ (fun s6 : Int × Int => LS.mk [(2, .sc (.int .i64 above)), (10, .ptr 0 0 0), (11, rowV (α := curve_Sample) false r3.1), (12, .sc (.bool r3.2.1)), (14, .sc (.int .i64 (w6 ((r2.1.Wave.length : Int) * (w6 (1 + r4)))))), (15, .sc (.int .i64 s6.1)), (43, .sc (.int .i64 r5)), (44, .sc (.int .i64 s6.2))] (lblks 0 [boxB (α := Star) true r2.1]) 1) (fun z7 : Int => LS.mk [(2, .sc (.int .i64 above)), (10, .ptr 0 0 0), (11, rowV (α := curve_Sample) false r3.1), (12, .sc (.bool r3.2.1)), (14, .sc (.int .i64 (w6 ((r2.1.Wave.length : Int) * (w6 (1 + r4)))))), (15, .sc (.int .i64 z7))] (lblks 0 [boxB (α := Star) true r2.1]) 1) (spykeep4_PeriodTrue.l1 r2 r4 r5) hR (s0 := (r2.1.Period, 0)) (Weak.turnL [(36, 0)] [] rfl rfl (tc (.sc _) (tc (trP' rfl rfl rfl rfl) (tc trR1 (tc (.sc _) (tc (.sc _) (tc (.sc _) (tc (.sc _) (tc (.sc _) tn)))))))) (mc rfl (.box rfl (.cons (.sc _) (.cons (.sc _) (.cons (.sc _) (.cons (.sc _) (.cons (.sc _) (.cons trR1 (.cons (.sc _) (.cons (.sc _) (.cons (.sc _) (.nil)))))))))) rfl) mn)) (fun s6 o6 hR => ?_) fun z7 hR => ?_
  · unfold spykeep4_PeriodTrue.l1 at hR
    refine AWP.sq ?_
    refine AWP.rgC 5 rfl rfl ?_
    refine pu (v := .sc _) rfl rfl (fun _ => rfl) ?_
    refine RunC.fin ?_
    refine AWP.sq ?_
    refine AWP.cd hR rfl (fun h8 hR => ?_) fun h8 hR => ?_
    · refine AWP.skip ?_
      refine skT ?_
      refine AWP.joinX (fun z9 : Int => LS.mk [(2, .sc (.int .i64 above)), (10, .ptr 0 0 0), (11, rowV (α := curve_Sample) false r3.1), (12, .sc (.bool r3.2.1)), (14, .sc (.int .i64 (w6 ((r2.1.Wave.length : Int) * (w6 (1 + r4)))))), (15, .sc (.int .i64 z9)), (43, .sc (.int .i64 r5)), (44, .sc (.int .i64 s6.2))] (lblks 0 [boxB (α := Star) true r2.1]) 1) hR (fun o9 hR => ?_) fun z9 hR => ?_
      · refine AWP.block ?_
        refine AWP.sq ?_
        refine AWP.rgC 17 rfl rfl ?_
        refine pu (v := .sc _) rfl rfl (fun _ => rfl) ?_
        refine pu (v := .sc _) rfl rfl (fun _ => rfl) ?_
        obtain ⟨v10, ev10, hR⟩ := letE hR
        refine pu (v := .sc _) rfl rfl (fun _ => puB ev10) ?_
        refine RunC.fin ?_
        refine AWP.cd hR rfl (fun h11 hR => ?_) fun h11 hR => ?_
        · refine AWP.rgC 33 rfl rfl ?_
          refine pu (v := .sc _) rfl rfl (fun _ => rfl) ?_
          refine pu (v := .sc _) rfl rfl (fun _ => rfl) ?_
          refine pu (v := .sc _) rfl rfl (fun _ => rfl) ?_
          refine pu (v := .sc _) rfl rfl (fun _ => rfl) ?_
          refine RunC.blk ?_
          refine RunC.fin ?_
          have hR := Option.some.inj hR; subst hR
          exact Weak.turnL [(0, 0)] [] rfl rfl (tc (.sc _) (tc (trP' rfl rfl rfl rfl) (tc trR1 (tc (.sc _) (tc (.sc _) (tc (.sc _) (tc (.sc _) (tc (.sc _) tn)))))))) (mc rfl (.box rfl (.cons (.sc _) (.cons (.sc _) (.cons (.sc _) (.cons (.sc _) (.cons (.sc _) (.cons trR1 (.cons (.sc _) (.cons (.sc _) (.cons (.sc _) (.nil)))))))))) rfl) mn)
        · refine AWP.skip ?_
          refine skB ?_
          refine skT ?_
          have hR := Option.some.inj hR; subst hR
          exact Weak.turnL [(0, 0)] [] rfl rfl (tc (.sc _) (tc (trP' rfl rfl rfl rfl) (tc trR1 (tc (.sc _) (tc (.sc _) (tc (.sc _) (tc (.sc _) (tc (.sc _) tn)))))))) (mc rfl (.box rfl (.cons (.sc _) (.cons (.sc _) (.cons (.sc _) (.cons (.sc _) (.cons (.sc _) (.cons trR1 (.cons (.sc _) (.cons (.sc _) (.cons (.sc _) (.nil)))))))))) rfl) mn)
      · refine AWP.rgC 9 rfl rfl ?_
        refine pu (v := .sc _) rfl rfl (fun _ => rfl) ?_
        refine pu (v := .sc _) rfl rfl (fun _ => rfl) ?_
        refine RunC.fin ?_
        refine ⟨(z9, w6 (s6.2 + 1)), (Option.some.inj hR).symm, ?_⟩
        exact Weak.turnL [(0, 0)] [] rfl rfl (tc (.sc _) (tc (trP' rfl rfl rfl rfl) (tc trR1 (tc (.sc _) (tc (.sc _) (tc (.sc _) (tc (.sc _) (tc (.sc _) tn)))))))) (mc rfl (.box rfl (.cons (.sc _) (.cons (.sc _) (.cons (.sc _) (.cons (.sc _) (.cons (.sc _) (.cons trR1 (.cons (.sc _) (.cons (.sc _) (.cons (.sc _) (.nil)))))))))) rfl) mn)
    · refine AWP.exit ?_
      refine exT ?_
      refine exT ?_
      refine exH (skT ?_)
      refine ⟨s6.1, (Option.some.inj hR).symm, ?_⟩
      exact Weak.turnL [(0, 0)] [] rfl rfl (tc (.sc _) (tc (trP' rfl rfl rfl rfl) (tc trR1 (tc (.sc _) (tc (.sc _) (tc (.sc _) tn)))))) (mc rfl (.box rfl (.cons (.sc _) (.cons (.sc _) (.cons (.sc _) (.cons (.sc _) (.cons (.sc _) (.cons trR1 (.cons (.sc _) (.cons (.sc _) (.cons (.sc _) (.nil)))))))))) rfl) mn)
  · refine skT ?_
    refine AWP.sq ?_
    refine AWP.rgD 61 [0, 1, 3, 0, 0, 16, 0, 0, 128, 448, 1008, 0, 4095, 0, 16383] ⟨[], [none, some [0], none, none, none, some [0], none, none, none, none, none, none, none, none, some [53]]⟩ hmix (by kernel_rfl) rfl rfl ?_
    refine fa rfl rfl ti32 rfl rfl ti29 rfl ?_
    refine ldB (v := rowV _ r2.1.Wave) rfl rfl rfl rfl ti29 rfl rfl ?_
    refine lenL (α := Int) rfl rfl ti29 rfl ?_
    refine pu (v := .sc _) rfl rfl (fun _ => rfl) ?_
    refine fa rfl rfl ti32 rfl rfl ti30 rfl ?_
    refine ldB (v := .sc _) rfl rfl rfl rfl ti30 rfl rfl ?_
    refine pu (v := .sc _) rfl rfl (fun _ => rfl) ?_
    refine pu (v := .sc _) rfl rfl (fun _ => rfl) ?_
    obtain ⟨r12, hr12, hR⟩ := bindE hR
    refine cls [] rfl rfl cb7 (ok7 above 40 _ hr12) (.cons (.sc _) (.cons (.sc _) (.nil))) (.inr rfl) rfl ?_
    refine pu (v := .sc _) rfl rfl (fun _ => rfl) ?_
    obtain ⟨v13, ev13, hR⟩ := letE hR
    refine pu (v := .sc _) rfl rfl (fun _ => puI ev13) ?_
    refine pu (v := .sc _) rfl rfl (fun _ => rfl) ?_
    refine bu (cs := [.sc (.int .i64 (r2.1.Wave.length : Int)), .sc (.int .i64 z7), .sc (.int .i64 v13), .sc (.int .i64 (w6 ((r2.1.Wave.length : Int) * (w6 (1 + r4)))))]) rfl bt40 rfl ?_
    refine al (cs := [.sc (.int .i64 0), .sc (.int .i64 0), .sc (.int .i64 0), .sc (.int .i64 0)]) 53 rfl rfl ti40 rfl rfl ?_
    refine stB (cs' := [.sc (.int .i64 (r2.1.Wave.length : Int)), .sc (.int .i64 z7), .sc (.int .i64 v13), .sc (.int .i64 (w6 ((r2.1.Wave.length : Int) * (w6 (1 + r4)))))]) rfl rfl rfl rfl ti40 rfl rfl rfl rfl rfl ?_
    refine RunC.fin ?_
    refine AWP.sq ?_
    refine AWP.rgC 93 rfl rfl ?_
    refine pu (v := rowV _ r3.1) rfl rfl (fun _ => rfl) ?_
    refine ldB (v := .agg _) rfl rfl rfl rfl ti40 rfl rfl ?_
    obtain ⟨r14, hr14, hR⟩ := bindE hR
    refine cls [] rfl rfl cb8 (ok8 r3.1 (period_Ask.mk (r2.1.Wave.length : Int) z7 v13 (w6 ((r2.1.Wave.length : Int) * (w6 (1 + r4))))) _ hr14) (.cons ldR' (.cons (.agg (.cons (.sc _) (.cons (.sc _) (.cons (.sc _) (.cons (.sc _) (.nil))))) rfl) (.nil))) (.inr rfl) rfl ?_
    refine pu (v := .tup _) rfl rfl (fun _ => rfl) ?_
    refine pu (v := rowV _ r14.1) rfl rfl (fun _ => rfl) ?_
    refine pu (v := .sc _) rfl rfl (fun _ => rfl) ?_
    refine pu (v := rowV _ r14.1) rfl rfl (fun _ => rfl) ?_
    refine pu (v := .sc _) rfl rfl (fun _ => rfl) ?_
    refine RunC.fin ?_
    refine AWP.joinX (fun z15 : Bool => LS.mk [(8, .sc (.bool z15))] (lblks 0 []) 0) hR (fun o15 hR => ?_) fun z15 hR => ?_
    · refine AWP.rgC 153 rfl rfl ?_
      obtain ⟨r16, hr16, hR⟩ := bindE hR
      refine cls [] rfl rfl cb9 (ok9 _ hr16) (.nil) (.inr rfl) rfl ?_
      refine pu (v := .sc _) rfl rfl (fun _ => rfl) ?_
      refine brR hR (fun h17 hR => ?_) fun h17 hR => ?_
      · refine pu (v := .sc _) (wtG rfl rfl rfl h17) rfl (fun _ => rfl) ?_
        refine pkT (v := .sc (.bool r3.2.1)) rfl rfl h17 rfl ?_
        refine pu (v := .sc _) rfl rfl (fun _ => rfl) ?_
        refine brR hR (fun h18 hR => ?_) fun h18 hR => ?_
        · refine pu (v := .sc _) (wtG rfl rfl rfl h18) rfl (fun _ => rfl) ?_
          refine pu (v := .sc _) (wtG rfl rfl rfl h18) rfl (fun _ => rfl) ?_
          refine pkT (v := .sc (.bool (r14.2 == 0))) rfl rfl h18 rfl ?_
          refine pu (v := .sc _) rfl rfl (fun _ => rfl) ?_
          refine brR hR (fun h19 hR => ?_) fun h19 hR => ?_
          · refine pu (v := rowV _ r14.1) (wtG rfl rfl rfl h19) rfl (fun _ => rfl) ?_
            refine fa (wtG rfl rfl rfl h19) rfl ti32 rfl rfl ti30 rfl ?_
            refine ldB (v := .sc _) (wtG rfl rfl rfl h19) rfl rfl rfl ti30 rfl rfl ?_
            obtain ⟨r20, hr20, hR⟩ := bindE hR
            refine cls [] (wtG rfl rfl rfl h19) rfl cb10 (ok10 r14.1 r2.1.Period _ hr20) (.cons ldR' (.cons (.sc _) (.nil))) (.inr rfl) rfl ?_
            refine pkT (v := .sc (.bool r20)) rfl rfl h19 rfl ?_
            refine pu (v := .sc _) rfl rfl (fun _ => rfl) ?_
            refine RunC.fin ?_
            have hR := Option.some.inj hR; subst hR
            exact Weak.turnL [] [] rfl rfl (tc (.sc _) tn) mn
          · refine sk (skW rfl rfl rfl h19) ?_
            refine sk (skW rfl rfl rfl h19) ?_
            refine sk (skW rfl rfl rfl h19) ?_
            refine sk (skW rfl rfl rfl h19) ?_
            refine pkF (v := .sc (.bool false)) rfl rfl h19 rfl ?_
            refine pu (v := .sc _) rfl rfl (fun _ => rfl) ?_
            refine RunC.fin ?_
            have hR := Option.some.inj hR; subst hR
            exact Weak.turnL [] [] rfl rfl (tc (.sc _) tn) mn
        · refine sk (skW rfl rfl rfl h18) ?_
          refine sk (skW rfl rfl rfl h18) ?_
          refine pkF (v := .sc (.bool false)) rfl rfl h18 rfl ?_
          refine pu (v := .sc _) rfl rfl (fun _ => rfl) ?_
          refine sk (skW rfl rfl rfl rfl) ?_
          refine sk (skW rfl rfl rfl rfl) ?_
          refine sk (skW rfl rfl rfl rfl) ?_
          refine sk (skW rfl rfl rfl rfl) ?_
          refine pkF (v := .sc (.bool false)) rfl rfl rfl rfl ?_
          refine pu (v := .sc _) rfl rfl (fun _ => rfl) ?_
          refine RunC.fin ?_
          have hR := Option.some.inj hR; subst hR
          exact Weak.turnL [] [] rfl rfl (tc (.sc _) tn) mn
      · refine sk (skW rfl rfl rfl h17) ?_
        refine pkF (v := .sc (.bool false)) rfl rfl h17 rfl ?_
        refine pu (v := .sc _) rfl rfl (fun _ => rfl) ?_
        refine sk (skW rfl rfl rfl rfl) ?_
        refine sk (skW rfl rfl rfl rfl) ?_
        refine pkF (v := .sc (.bool false)) rfl rfl rfl rfl ?_
        refine pu (v := .sc _) rfl rfl (fun _ => rfl) ?_
        refine sk (skW rfl rfl rfl rfl) ?_
        refine sk (skW rfl rfl rfl rfl) ?_
        refine sk (skW rfl rfl rfl rfl) ?_
        refine sk (skW rfl rfl rfl rfl) ?_
        refine pkF (v := .sc (.bool false)) rfl rfl rfl rfl ?_
        refine pu (v := .sc _) rfl rfl (fun _ => rfl) ?_
        refine RunC.fin ?_
        have hR := Option.some.inj hR; subst hR
        exact Weak.turnL [] [] rfl rfl (tc (.sc _) tn) mn
    · refine AWP.ret ?_
      have hR := Option.some.inj hR; subst hR
      exact hQ _ _ (LS.mk [(8, .sc (.bool z15))] (lblks 0 []) 0) (.sc (.bool z15)) [] (.inr rfl) (Weak.turnL [] [] rfl rfl (tc (.sc _) tn) mn) (ro1 (rvT (v := .sc (.bool z15)) rfl)) rfl rfl (.sc _) pn
end Go.Proofs.Pet
