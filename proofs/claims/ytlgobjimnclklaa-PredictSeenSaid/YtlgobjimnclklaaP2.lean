/- Each function of the program computes its plain function. Conditions: as each theorem states them. -/
import Derived.Test.YtlgobjimnclklaaA3
import Derived.Test.YtlgobjimnclklaaA4
import Derived.Test.YtlgobjimnclklaaT
import Derived.Test.YtlgobjimnclklaaP1
namespace Go.Proofs.Prs
open Go Go.Abs Lf
set_option linter.unusedVariables false
set_option linter.unusedSimpArgs false
set_option maxRecDepth 100000
set_option maxHeartbeats 1000000
theorem ok64 (p : Bound × Bound × Bound) (r : Int × Int × Bool) (hR : predict_far p = some r) : FnP Try.prog 64 [aggV false p] (.tup [.sc (.int .i64 r.1), .sc (.int .i64 r.2.1), .sc (.bool r.2.2)]) := by
 refine fnP_of (FnX.walk Try.func64 rfl 44 0 (by simp [Try.ntmps64]) rfl fun W S F Q hQ => ?_)
 unfold predict_far at hR
 refine AWP.sq (AWP.rgC 16 rfl rfl (bx (cs := _) 0 rfl rfl rfl (pS rfl rfl (fun _ => rfl) (pS rfl rfl (fun _ => rfl) (pS rfl rfl (fun _ => rfl) (RunC.fin (AWP.sq (AWP.sq (AWP.rgC 24 rfl rfl (ldB (v := .agg _) rfl rfl rfl rfl ti68 rfl rfl (pS rfl rfl (fun _ => rfl) (RunC.fin (AWP.loopK' (fun s1 : Int × Int × Int => LS.mk [(2, .sc (.int .i64 s1.1)), (3, .sc (.int .i64 s1.2.1)), (8, aggV (α := Bound × Bound × Bound) true p), (9, .sc (.int .i64 s1.2.2))] (lblks 0 []) 0) (fun z2 : Int × Int => LS.mk [(2, .sc (.int .i64 z2.1)), (3, .sc (.int .i64 z2.2))] (lblks 0 []) 0) (predict_far.l1 p) hR (s0 := (0, 0, 0)) (Weak.turnL [] [] rfl rfl (tc (.sc _) (tc (.sc _) (tc (.agg .z9 rfl) (tc (.sc _) tn)))) mn) (fun s1 o1 hR hE1 => ?_) fun z2 hR => ?_)))))))))))))
 ·unfold predict_far.l1 at hR
  refine AWP.sq (AWP.rgC 4 rfl rfl (pS rfl rfl (fun _ => rfl) (RunC.fin (AWP.sq (AWP.cd hR rfl (fun h3 hR => ?_) fun h3 hR => ?_)))))
  ·refine AWP.skip (skT (AWP.sq (AWP.block (AWP.sq (AWP.rgC 16 rfl rfl ?_)))))
   obtain ⟨h4, hR⟩ := chkE hR
   refine ixD (α := Bound) (nw := true) (xs := ([p.1, p.2.1, p.2.2] : List Bound)) (v := .agg _) rfl rfl rfl rfl ti68 rfl ti33 h4 rfl rfl rfl ?_
   refine al (cs := [.sc (.int .i64 0), .sc (.int .i64 0), .sc (.bool false)]) 8 rfl rfl ti33 rfl rfl (stB (cs' := [.sc (.int .i64 (gt ([p.1, p.2.1, p.2.2] : List Bound) s1.2.2).Lo), .sc (.int .i64 (gt ([p.1, p.2.1, p.2.2] : List Bound) s1.2.2).Hi), .sc (.bool (gt ([p.1, p.2.1, p.2.2] : List Bound) s1.2.2).Unknown)]) rfl rfl rfl rfl ti33 rfl rfl rfl rfl rfl (RunC.fin (AWP.sq (AWP.joinX (fun z5 : Bool => LS.mk [(2, .sc (.int .i64 s1.1)), (3, .sc (.int .i64 s1.2.1)), (6, .ptr 0 0 0), (8, aggV (α := Bound × Bound × Bound) true p), (9, .sc (.int .i64 s1.2.2)), (28, .sc (.bool z5))] (lblks 0 [boxB (α := Bound) true (gt ([p.1, p.2.1, p.2.2] : List Bound) s1.2.2)]) 1) hR (fun o5 hR => ?_) fun z5 hR => ?_))))
   ·refine AWP.rgC 84 rfl rfl (ldB (v := .agg _) rfl rfl rfl rfl ti33 rfl rfl ?_)
    obtain ⟨r6, hr6, hR⟩ := bindE hR
    refine cls [] rfl rfl cb29 (ok29 (gt ([p.1, p.2.1, p.2.2] : List Bound) s1.2.2) _ hr6) (.cons (.agg .z3 rfl) (.nil)) (.inr rfl) rfl (pS rfl rfl (fun _ => rfl) (pS rfl rfl (fun _ => rfl) (brR hR (fun h7 hR => ?_) fun h7 hR => ?_)))
    ·refine sk (skW rfl rfl rfl h7) (sk (skW rfl rfl rfl h7) (pkT (v := .sc (.bool true)) rfl rfl h7 rfl (pS rfl rfl (fun _ => rfl) (sk (skW rfl rfl rfl rfl) (sk (skW rfl rfl rfl rfl) (sk (skW rfl rfl rfl rfl) (pkT (v := .sc (.bool true)) rfl rfl rfl rfl (pS rfl rfl (fun _ => rfl) (sk (skW rfl rfl rfl rfl) (sk (skW rfl rfl rfl rfl) (sk (skW rfl rfl rfl rfl) (pkT (v := .sc (.bool true)) rfl rfl rfl rfl (RunC.fin ?_)))))))))))))
     have hR := Option.some.inj hR; subst hR
     exact Weak.turnL [(8, 0)] [] rfl rfl (tc (.sc _) (tc (.sc _) (tc (trP' rfl rfl rfl rfl) (tc (.agg .z9 rfl) (tc (.sc _) (tc (.sc _) tn)))))) (mc rfl (.box rfl .z3 rfl) mn)
    ·refine fa (wtG rfl rfl rfl h7) rfl ti33 rfl rfl ti4 rfl (ldB (v := .sc _) (wtG rfl rfl rfl h7) rfl rfl rfl ti4 rfl rfl (pkF (v := .sc (.bool (gt ([p.1, p.2.1, p.2.2] : List Bound) s1.2.2).Unknown)) rfl rfl h7 rfl (pS rfl rfl (fun _ => rfl) (brR hR (fun h8 hR => ?_) fun h8 hR => ?_))))
     ·refine sk (skW rfl rfl rfl h8) (sk (skW rfl rfl rfl h8) (sk (skW rfl rfl rfl h8) (pkT (v := .sc (.bool true)) rfl rfl h8 rfl (pS rfl rfl (fun _ => rfl) (sk (skW rfl rfl rfl rfl) (sk (skW rfl rfl rfl rfl) (sk (skW rfl rfl rfl rfl) (pkT (v := .sc (.bool true)) rfl rfl rfl rfl (RunC.fin ?_)))))))))
      have hR := Option.some.inj hR; subst hR
      exact Weak.turnL [(8, 0)] [] rfl rfl (tc (.sc _) (tc (.sc _) (tc (trP' rfl rfl rfl rfl) (tc (.agg .z9 rfl) (tc (.sc _) (tc (.sc _) tn)))))) (mc rfl (.box rfl .z3 rfl) mn)
     ·refine fa (wtG rfl rfl rfl h8) rfl ti33 rfl rfl ti31 rfl (ldB (v := .sc _) (wtG rfl rfl rfl h8) rfl rfl rfl ti31 rfl rfl ?_)
      obtain ⟨v9, ev9, hR⟩ := letE hR
      refine pu (v := .sc _) (wtG rfl rfl rfl h8) rfl (fun _ => puB ev9) (pkF (v := .sc (.bool v9)) rfl rfl h8 rfl (pS rfl rfl (fun _ => rfl) (brR hR (fun h10 hR => ?_) fun h10 hR => ?_)))
      ·refine sk (skW rfl rfl rfl h10) (sk (skW rfl rfl rfl h10) (sk (skW rfl rfl rfl h10) (pkT (v := .sc (.bool true)) rfl rfl h10 rfl (RunC.fin ?_))))
       have hR := Option.some.inj hR; subst hR
       exact Weak.turnL [(8, 0)] [] rfl rfl (tc (.sc _) (tc (.sc _) (tc (trP' rfl rfl rfl rfl) (tc (.agg .z9 rfl) (tc (.sc _) (tc (.sc _) tn)))))) (mc rfl (.box rfl .z3 rfl) mn)
      ·refine fa (wtG rfl rfl rfl h10) rfl ti33 rfl rfl ti31 rfl (ldB (v := .sc _) (wtG rfl rfl rfl h10) rfl rfl rfl ti31 rfl rfl ?_)
       obtain ⟨v11, ev11, hR⟩ := letE hR
       refine pu (v := .sc _) (wtG rfl rfl rfl h10) rfl (fun _ => puB ev11) (pkF (v := .sc (.bool v11)) rfl rfl h10 rfl (RunC.fin ?_))
       have hR := Option.some.inj hR; subst hR
       exact Weak.turnL [(8, 0)] [] rfl rfl (tc (.sc _) (tc (.sc _) (tc (trP' rfl rfl rfl rfl) (tc (.agg .z9 rfl) (tc (.sc _) (tc (.sc _) tn)))))) (mc rfl (.box rfl .z3 rfl) mn)
   ·refine AWP.cd hR rfl (fun h12 hR => ?_) fun h12 hR => ?_
    ·refine AWP.sq (AWP.rgC 13 rfl rfl (pS rfl rfl (fun _ => rfl) (pS rfl rfl (fun _ => rfl) (pS rfl rfl (fun _ => rfl) (RunC.fin (AWP.ret (rtT (rtB (rtT (rtT (rtB (rtT ?_))))))))))))
     replace hR := escL hR hE1
     refine rtT ?_
     have hR := Option.some.inj hR; subst hR
     exact hQ _ _ (LS.mk [(2, .sc (.int .i64 0)), (3, .sc (.int .i64 0)), (4, .sc (.bool false))] (lblks 0 []) 0) (.tup [.sc (.int .i64 0), .sc (.int .i64 0), .sc (.bool false)]) [] (.inr rfl) (Weak.turnL [] [] rfl rfl (tc (.sc _) (tc (.sc _) (tc (.sc _) tn))) mn) (ro3 (rvT (v := .sc (.int .i64 0)) rfl) (rvT (v := .sc (.int .i64 0)) rfl) (rvT (v := .sc (.bool false)) rfl)) rfl rfl (.tup .z3) pn
    ·refine AWP.skip (skT (AWP.sq (AWP.rgC 17 rfl rfl (ldB (v := .agg _) rfl rfl rfl rfl ti33 rfl rfl ?_))))
     obtain ⟨r13, hr13, hR⟩ := bindE hR
     refine cls [] rfl rfl cb76 (ok76 (gt ([p.1, p.2.1, p.2.2] : List Bound) s1.2.2) _ hr13) (.cons (.agg .z3 rfl) (.nil)) (.inr rfl) rfl (al (cs := [.sc (.int .i64 0), .sc (.int .i64 0), .sc (.bool false)]) 9 rfl rfl ti33 rfl rfl (stB (cs' := [.sc (.int .i64 r13.Lo), .sc (.int .i64 r13.Hi), .sc (.bool r13.Unknown)]) rfl rfl rfl rfl ti33 rfl rfl rfl rfl rfl (RunC.fin (AWP.rgD 57 [0, 0, 2, 7, 0, 0, 32, 112, 15, 511] ⟨[], [none, none, some [9], none, none, none, some [9], none, none, none]⟩ hmix (by kernel_rfl) rfl rfl ?_))))
     refine pS rfl rfl (fun _ => rfl) (fa rfl rfl ti33 rfl rfl ti31 rfl (ldB (v := .sc _) rfl rfl rfl rfl ti31 rfl rfl (pS rfl rfl (fun _ => rfl) (pS rfl rfl (fun _ => rfl) (fa rfl rfl ti33 rfl rfl ti31 rfl (ldB (v := .sc _) rfl rfl rfl rfl ti31 rfl rfl (pS rfl rfl (fun _ => rfl) (pS rfl rfl (fun _ => rfl) (pS rfl rfl (fun _ => rfl) (RunC.blk (RunC.fin (AWP.rgC 65 rfl rfl (pS rfl rfl (fun _ => rfl) (pS rfl rfl (fun _ => rfl) (RunC.fin (⟨(w6 (s1.1 + r13.Lo), w6 (s1.2.1 + r13.Hi), w6 (s1.2.2 + 1)), (Option.some.inj hR).symm, ?_⟩))))))))))))))))
     exact Weak.turnL [] [] rfl rfl (tc (.sc _) (tc (.sc _) (tc (.agg .z9 rfl) (tc (.sc _) tn)))) mn
  ·refine AWP.exit (exT (exT (exH (skT (⟨(s1.1, s1.2.1), (Option.some.inj hR).symm, ?_⟩)))))
   exact Weak.turnL [] [] rfl rfl (tc (.sc _) (tc (.sc _) tn)) mn
 ·refine skT (AWP.sq (AWP.rgC 28 rfl rfl (pS rfl rfl (fun _ => rfl) ?_)))
  obtain ⟨r14, hr14, hR⟩ := bindE hR
  refine cls [] rfl rfl cb60 (ok60 z2.1 _ hr14) (.cons (.sc _) .nil) (.inr rfl) rfl (pS rfl rfl (fun _ => rfl) ?_)
  obtain ⟨r15, hr15, hR⟩ := bindE hR
  refine cls [] rfl rfl cb60 (ok60 z2.2 _ hr15) (.cons (.sc _) .nil) (.inr rfl) rfl (pS rfl rfl (fun _ => rfl) (pS rfl rfl (fun _ => rfl) (pS rfl rfl (fun _ => rfl) (RunC.fin (AWP.ret ?_)))))
  have hR := Option.some.inj hR; subst hR
  exact hQ _ _ (LS.mk [(2, .sc (.int .i64 r14)), (3, .sc (.int .i64 r15)), (4, .sc (.bool true))] (lblks 0 []) 0) (.tup [.sc (.int .i64 r14), .sc (.int .i64 r15), .sc (.bool true)]) [] (.inr rfl) (Weak.turnL [] [] rfl rfl (tc (.sc _) (tc (.sc _) (tc (.sc _) tn))) mn) (ro3 (rvT (v := .sc (.int .i64 r14)) rfl) (rvT (v := .sc (.int .i64 r15)) rfl) (rvT (v := .sc (.bool true)) rfl)) rfl rfl (.tup .z3) pn
theorem ok65 (x : Int) (r_ : Int) (r : Int) (hR : predict_part x r_ = some r) : FnP Try.prog 65 [.sc (.int .i64 x), .sc (.int .i64 r_)] (.sc (.int .i64 r)) := by
 refine fnP_of (FnX.walk Try.func65 rfl 26 0 (by simp [Try.ntmps65]) rfl fun W S F Q hQ => ?_)
 unfold predict_part at hR
 refine AWP.sq (AWP.rgC 4 rfl rfl (pS rfl rfl (fun _ => rfl) (RunC.fin (AWP.sq (AWP.rgC 48 rfl rfl (pS rfl rfl (fun _ => rfl) (pS rfl rfl (fun _ => rfl) (pS rfl rfl (fun _ => rfl) (pS rfl rfl (fun _ => rfl) (pS rfl rfl (fun _ => rfl) ?_))))))))))
 obtain ⟨r1, hr1, hR⟩ := bindE hR
 refine cls [] rfl rfl cb62 (ok62 9007199254740992 (mx2 x (w6 (0 - x))) r_ _ hr1) .z3 (.inr rfl) rfl (pu (v := .tup _) rfl rfl (fun _ => rfl) (pS rfl rfl (fun _ => rfl) (pS rfl rfl (fun _ => rfl) (pS rfl rfl (fun _ => rfl) (pS rfl rfl (fun _ => rfl) (RunC.fin (AWP.sq (AWP.rgC 72 rfl rfl (pS rfl rfl (fun _ => rfl) (pS rfl rfl (fun _ => rfl) (pS rfl rfl (fun _ => rfl) (pS rfl rfl (fun _ => rfl) ?_))))))))))))
 obtain ⟨h2, hR⟩ := chkE hR
 refine qu rfl rfl rfl h2 rfl ?_
 refine pS rfl rfl (fun _ => rfl) (RunC.fin (AWP.sq (AWP.sq (AWP.rgC 80 rfl rfl (pS rfl rfl (fun _ => rfl) (pS rfl rfl (fun _ => rfl) (RunC.fin (AWP.cd hR rfl (fun h3 hR => ?_) fun h3 hR => ?_))))))))
 ·refine AWP.sq (AWP.rgC 92 rfl rfl (pS rfl rfl (fun _ => rfl) (pS rfl rfl (fun _ => rfl) (pS rfl rfl (fun _ => rfl) (RunC.fin (AWP.ret (rtT ?_)))))))
  have hR := Option.some.inj hR; subst hR
  exact hQ _ _ (LS.mk [(4, .sc (.int .i64 (w6 (0 - (w6 (Int.tdiv r1.1 (w6 (r_ * r_))))))))] (lblks 0 []) 0) (.sc (.int .i64 (w6 (0 - (w6 (Int.tdiv r1.1 (w6 (r_ * r_)))))))) [] (.inr rfl) (Weak.turnL [] [] rfl rfl (tc (.sc _) tn) mn) (ro1 (rvT (v := .sc (.int .i64 (w6 (0 - (w6 (Int.tdiv r1.1 (w6 (r_ * r_)))))))) rfl)) rfl rfl (.sc _) pn
 ·refine AWP.skip (skT (AWP.sq (AWP.rgC 88 rfl rfl (pS rfl rfl (fun _ => rfl) (pS rfl rfl (fun _ => rfl) (RunC.fin (AWP.ret ?_)))))))
  have hR := Option.some.inj hR; subst hR
  exact hQ _ _ (LS.mk [(4, .sc (.int .i64 (w6 (Int.tdiv r1.1 (w6 (r_ * r_))))))] (lblks 0 []) 0) (.sc (.int .i64 (w6 (Int.tdiv r1.1 (w6 (r_ * r_)))))) [] (.inr rfl) (Weak.turnL [] [] rfl rfl (tc (.sc _) tn) mn) (ro1 (rvT (v := .sc (.int .i64 (w6 (Int.tdiv r1.1 (w6 (r_ * r_)))))) rfl)) rfl rfl (.sc _) pn
theorem ok40 (p : Bound × Bound × Bound) (r : (Bound × Bound × Bound)) (hR : predict_Pull p = some r) : FnP Try.prog 40 [aggV false p] (aggV (α := Bound × Bound × Bound) true r) := by
 refine fnP_of (FnX.walk Try.func40 rfl 69 0 (by simp [Try.ntmps40]) rfl fun W S F Q hQ => ?_)
 unfold predict_Pull at hR
 refine AWP.sq (AWP.rgC 8 rfl rfl (bx (cs := _) 0 rfl rfl rfl (al (cs := [.sc (.int .i64 0), .sc (.int .i64 0), .sc (.bool false), .sc (.int .i64 0), .sc (.int .i64 0), .sc (.bool false), .sc (.int .i64 0), .sc (.int .i64 0), .sc (.bool false)]) 4 rfl rfl ti68 rfl rfl (RunC.fin (AWP.sq (AWP.rgC 44 rfl rfl (ldB (v := .agg _) rfl rfl rfl rfl ti68 rfl rfl ?_)))))))
 obtain ⟨r1, hr1, hR⟩ := bindE hR
 refine cls [] rfl rfl cb64 (ok64 p _ hr1) (.cons (.agg .z9 rfl) (.nil)) (.inr rfl) rfl (pu (v := .tup _) rfl rfl (fun _ => rfl) (pS rfl rfl (fun _ => rfl) (pS rfl rfl (fun _ => rfl) (pS rfl rfl (fun _ => rfl) (pS rfl rfl (fun _ => rfl) (pS rfl rfl (fun _ => rfl) (pS rfl rfl (fun _ => rfl) (RunC.fin (AWP.sq (AWP.rgC 48 rfl rfl (al (cs := [.sc (.int .i64 0), .sc (.int .i64 0), .sc (.bool false), .sc (.int .i64 0), .sc (.int .i64 0), .sc (.bool false), .sc (.int .i64 0), .sc (.int .i64 0), .sc (.bool false)]) 44 rfl rfl ti68 rfl rfl (RunC.fin (AWP.sq (AWP.sq (AWP.rgC 56 rfl rfl (ldB (v := .agg _) rfl rfl rfl rfl ti68 rfl rfl ?_))))))))))))))))
 refine pS rfl rfl (fun _ => rfl) (RunC.fin (AWP.loopJ (fun s2 : (Bound × Bound × Bound) × Int => LS.mk [(2, .ptr 0 0 0), (3, .sc (.int .i64 r1.1)), (4, .sc (.int .i64 r1.2.1)), (5, .sc (.bool r1.2.2)), (6, .ptr 1 0 0), (18, aggV (α := Bound × Bound × Bound) true p), (19, .sc (.int .i64 s2.2))] (lblks 0 [boxB (α := Bound × Bound × Bound) true (Bound.mk 0 0 false, Bound.mk 0 0 false, Bound.mk 0 0 false), boxB (α := Bound × Bound × Bound) true s2.1]) 2) (fun z3 : (Bound × Bound × Bound) => LS.mk [(2, .ptr 0 0 0), (6, .ptr 1 0 0)] (lblks 0 [boxB (α := Bound × Bound × Bound) true (Bound.mk 0 0 false, Bound.mk 0 0 false, Bound.mk 0 0 false), boxB (α := Bound × Bound × Bound) true z3]) 2) (predict_Pull.l1 p r1) hR (s0 := ((Bound.mk 0 0 false, Bound.mk 0 0 false, Bound.mk 0 0 false), 0)) (Weak.turnL [(4, 0), (44, 0)] [] rfl rfl (tc (trP' rfl rfl rfl rfl) (tc (.sc _) (tc (.sc _) (tc (.sc _) (tc (trP' rfl rfl rfl rfl) (tc (.agg .z9 rfl) (tc (.sc _) tn))))))) (mc rfl (.box rfl .z9 rfl) (mc rfl (.box rfl .z9 rfl) mn))) (fun s2 o2 hR => ?_) fun z3 hR => ?_))
 ·unfold predict_Pull.l1 at hR
  refine AWP.sq (AWP.rgC 6 rfl rfl (pS rfl rfl (fun _ => rfl) (RunC.fin (AWP.sq (AWP.cd hR rfl (fun h4 hR => ?_) fun h4 hR => ?_)))))
  ·refine AWP.skip (skT (AWP.joinX (fun z5 : (Bound × Bound × Bound) => LS.mk [(2, .ptr 0 0 0), (3, .sc (.int .i64 r1.1)), (4, .sc (.int .i64 r1.2.1)), (5, .sc (.bool r1.2.2)), (6, .ptr 1 0 0), (18, aggV (α := Bound × Bound × Bound) true p), (19, .sc (.int .i64 s2.2))] (lblks 0 [boxB (α := Bound × Bound × Bound) true (Bound.mk 0 0 false, Bound.mk 0 0 false, Bound.mk 0 0 false), boxB (α := Bound × Bound × Bound) true z5]) 2) hR (fun o5 hR => ?_) fun z5 hR => ?_))
   ·refine AWP.block (AWP.sq (AWP.rgC 26 rfl rfl (pS rfl rfl (fun _ => rfl) ?_)))
    obtain ⟨h6, hR⟩ := chkE hR
    refine ixD (α := Bound) (nw := true) (xs := ([p.1, p.2.1, p.2.2] : List Bound)) (v := .agg _) rfl rfl rfl rfl ti68 rfl ti33 h6 rfl rfl rfl ?_
    refine al (cs := [.sc (.int .i64 0), .sc (.int .i64 0), .sc (.bool false)]) 14 rfl rfl ti33 rfl rfl (pS rfl rfl (fun _ => rfl) (stB (cs' := [.sc (.int .i64 (gt ([p.1, p.2.1, p.2.2] : List Bound) s2.2).Lo), .sc (.int .i64 (gt ([p.1, p.2.1, p.2.2] : List Bound) s2.2).Hi), .sc (.bool (gt ([p.1, p.2.1, p.2.2] : List Bound) s2.2).Unknown)]) rfl rfl rfl rfl ti33 rfl rfl rfl rfl rfl (RunC.fin (AWP.sq (AWP.block (AWP.sq (AWP.rgC 38 rfl rfl (pS rfl rfl (fun _ => rfl) (pS rfl rfl (fun _ => rfl) (pS rfl rfl (fun _ => rfl) (RunC.fin (AWP.cd hR rfl (fun h7 hR => ?_) fun h7 hR => ?_))))))))))))
    ·refine AWP.sq (AWP.rgC 54 rfl rfl (pS rfl rfl (fun _ => rfl) ?_))
     obtain ⟨r8, hr8, hR⟩ := bindE hR
     refine cls [] rfl rfl cb26 (ok26 _ hr8) (.nil) (.inr rfl) rfl ?_
     obtain ⟨h9, hR⟩ := chkE hR
     refine iaP (o' := 0 + s2.2.toNat * Cl.e Bound + 0) rfl rfl rfl ti68 rfl ti33 h9 rfl ?_
     obtain ⟨v10, ev10, hR⟩ := letE hR
     refine stD (α := Bound) (nw := true) (pre := []) (post := []) (xs := ([s2.1.1, s2.1.2.1, s2.1.2.2] : List Bound)) (m := s2.2.toNat) (off := 0) (ys := [gt v10 0, gt v10 1, gt v10 2]) (y := r8) (cs' := [.sc (.int .i64 (gt v10 0).Lo), .sc (.int .i64 (gt v10 0).Hi), .sc (.bool (gt v10 0).Unknown), .sc (.int .i64 (gt v10 1).Lo), .sc (.int .i64 (gt v10 1).Hi), .sc (.bool (gt v10 1).Unknown), .sc (.int .i64 (gt v10 2).Lo), .sc (.int .i64 (gt v10 2).Hi), .sc (.bool (gt v10 2).Unknown)]) rfl rfl rfl rfl rfl rfl (ixlt h9) ti33 rfl rfl rfl rfl (etaS ev10 rfl rfl) rfl rfl (RunC.fin (AWP.exit (exB rfl ?_)))
     refine exT (exH (skT ?_))
     have hR := Option.some.inj hR; subst hR
     exact Weak.turnL [(0, 0), (1, 0)] [] rfl rfl (tc (trP' rfl rfl rfl rfl) (tc (.sc _) (tc (.sc _) (tc (.sc _) (tc (trP' rfl rfl rfl rfl) (tc (.agg .z9 rfl) (tc (.sc _) tn))))))) (mc rfl (.box rfl .z9 rfl) (mc rfl (.box rfl .z9 rfl) mn))
    ·refine AWP.sq (AWP.rgC 50 rfl rfl (pS rfl rfl (fun _ => rfl) (pS rfl rfl (fun _ => rfl) (pS rfl rfl (fun _ => rfl) (RunC.fin (AWP.cd hR rfl (fun h11 hR => ?_) fun h11 hR => ?_))))))
     ·refine AWP.exit (exB rfl ?_)
      refine exT (exH (skT ?_))
      have hR := Option.some.inj hR; subst hR
      exact Weak.turnL [(0, 0), (1, 0)] [] rfl rfl (tc (trP' rfl rfl rfl rfl) (tc (.sc _) (tc (.sc _) (tc (.sc _) (tc (trP' rfl rfl rfl rfl) (tc (.agg .z9 rfl) (tc (.sc _) tn))))))) (mc rfl (.box rfl .z9 rfl) (mc rfl (.box rfl .z9 rfl) mn))
     ·refine AWP.skip (skB ?_)
      refine skT (AWP.sq (AWP.rgC 62 rfl rfl (pS rfl rfl (fun _ => rfl) (pS rfl rfl (fun _ => rfl) (pS rfl rfl (fun _ => rfl) (RunC.fin (AWP.sq (AWP.rgD 102 [0, 1, 0, 7, 0, 16, 0, 127, 255, 511] ⟨[], [none, some [14], none, none, none, some [14], none, none, none, none]⟩ hmix (by kernel_rfl) rfl rfl ?_))))))))
      refine fa rfl rfl ti33 rfl rfl ti31 rfl (ldB (v := .sc _) rfl rfl rfl rfl ti31 rfl rfl (pS rfl rfl (fun _ => rfl) ?_))
      obtain ⟨r12, hr12, hR⟩ := bindE hR
      refine cls [] rfl rfl cb65 (ok65 (gt ([p.1, p.2.1, p.2.2] : List Bound) s2.2).Hi r1.2.1 _ hr12) .z2 (.inr rfl) rfl (fa rfl rfl ti33 rfl rfl ti31 rfl (ldB (v := .sc _) rfl rfl rfl rfl ti31 rfl rfl (pS rfl rfl (fun _ => rfl) ?_)))
      obtain ⟨r13, hr13, hR⟩ := bindE hR
      refine cls [] rfl rfl cb65 (ok65 (gt ([p.1, p.2.1, p.2.2] : List Bound) s2.2).Lo r1.2.1 _ hr13) .z2 (.inr rfl) rfl (pS rfl rfl (fun _ => rfl) (pS rfl rfl (fun _ => rfl) (RunC.fin (AWP.sq (AWP.sq (AWP.rgC 114 rfl rfl (fa rfl rfl ti33 rfl rfl ti31 rfl (ldB (v := .sc _) rfl rfl rfl rfl ti31 rfl rfl (pS rfl rfl (fun _ => rfl) (RunC.fin (AWP.cd hR rfl (fun h14 hR => ?_) fun h14 hR => ?_)))))))))))
      ·refine AWP.rgC 134 rfl rfl (fa rfl rfl ti33 rfl rfl ti31 rfl (ldB (v := .sc _) rfl rfl rfl rfl ti31 rfl rfl (pS rfl rfl (fun _ => rfl) ?_)))
       obtain ⟨r15, hr15, hR⟩ := bindE hR
       refine cls [] rfl rfl cb65 (ok65 (gt ([p.1, p.2.1, p.2.2] : List Bound) s2.2).Hi (mx2 r1.1 65536) _ hr15) .z2 (.inr rfl) rfl (pS rfl rfl (fun _ => rfl) (RunC.fin (AWP.sq (AWP.sq (AWP.rgC 146 rfl rfl (fa rfl rfl ti33 rfl rfl ti31 rfl (ldB (v := .sc _) rfl rfl rfl rfl ti31 rfl rfl (pS rfl rfl (fun _ => rfl) (RunC.fin (AWP.cd hR rfl (fun h16 hR => ?_) fun h16 hR => ?_))))))))))
       ·refine AWP.rgC 166 rfl rfl (fa rfl rfl ti33 rfl rfl ti31 rfl (ldB (v := .sc _) rfl rfl rfl rfl ti31 rfl rfl (pS rfl rfl (fun _ => rfl) ?_)))
        obtain ⟨r17, hr17, hR⟩ := bindE hR
        refine cls [] rfl rfl cb65 (ok65 (gt ([p.1, p.2.1, p.2.2] : List Bound) s2.2).Lo (mx2 r1.1 65536) _ hr17) .z2 (.inr rfl) rfl (pS rfl rfl (fun _ => rfl) (RunC.fin (AWP.sq (AWP.sq (AWP.rgC 174 rfl rfl (pS rfl rfl (fun _ => rfl) (pS rfl rfl (fun _ => rfl) (RunC.fin (AWP.cd hR rfl (fun h18 hR => ?_) fun h18 hR => ?_)))))))))
        ·refine AWP.rgC 198 rfl rfl (pS rfl rfl (fun _ => rfl) (pS rfl rfl (fun _ => rfl) (pS rfl rfl (fun _ => rfl) (pS rfl rfl (fun _ => rfl) (pS rfl rfl (fun _ => rfl) (pS rfl rfl (fun _ => rfl) (RunC.fin (AWP.rgC 222 rfl rfl (pS rfl rfl (fun _ => rfl) (pS rfl rfl (fun _ => rfl) (pS rfl rfl (fun _ => rfl) ?_)))))))))))
         obtain ⟨r19, hr19, hR⟩ := bindE hR
         refine cls [] rfl rfl cb52 (ok52 (mn2 r15 0) (mx2 r17 0) _ hr19) .z2 (.inr rfl) rfl ?_
         obtain ⟨h20, hR⟩ := chkE hR
         refine iaP (o' := 0 + s2.2.toNat * Cl.e Bound + 0) rfl rfl rfl ti68 rfl ti33 h20 rfl ?_
         obtain ⟨v21, ev21, hR⟩ := letE hR
         refine stD (α := Bound) (nw := true) (pre := []) (post := []) (xs := ([s2.1.1, s2.1.2.1, s2.1.2.2] : List Bound)) (m := s2.2.toNat) (off := 0) (ys := [gt v21 0, gt v21 1, gt v21 2]) (y := r19) (cs' := [.sc (.int .i64 (gt v21 0).Lo), .sc (.int .i64 (gt v21 0).Hi), .sc (.bool (gt v21 0).Unknown), .sc (.int .i64 (gt v21 1).Lo), .sc (.int .i64 (gt v21 1).Hi), .sc (.bool (gt v21 1).Unknown), .sc (.int .i64 (gt v21 2).Lo), .sc (.int .i64 (gt v21 2).Hi), .sc (.bool (gt v21 2).Unknown)]) rfl rfl rfl rfl rfl rfl (ixlt h20) ti33 rfl rfl rfl rfl (etaS ev21 rfl rfl) rfl rfl (RunC.blk (RunC.fin ?_))
         have hR := Option.some.inj hR; subst hR
         exact Weak.turnL [(0, 0), (1, 0)] [] rfl rfl (tc (trP' rfl rfl rfl rfl) (tc (.sc _) (tc (.sc _) (tc (.sc _) (tc (trP' rfl rfl rfl rfl) (tc (.agg .z9 rfl) (tc (.sc _) tn))))))) (mc rfl (.box rfl .z9 rfl) (mc rfl (.box rfl .z9 rfl) mn))
        ·refine AWP.skip (skT (AWP.rgC 198 rfl rfl (pS rfl rfl (fun _ => rfl) (pS rfl rfl (fun _ => rfl) (pS rfl rfl (fun _ => rfl) ?_)))))
         obtain ⟨r22, hr22, hR⟩ := bindE hR
         refine cls [] rfl rfl cb52 (ok52 r15 r17 _ hr22) .z2 (.inr rfl) rfl ?_
         obtain ⟨h23, hR⟩ := chkE hR
         refine iaP (o' := 0 + s2.2.toNat * Cl.e Bound + 0) rfl rfl rfl ti68 rfl ti33 h23 rfl ?_
         obtain ⟨v24, ev24, hR⟩ := letE hR
         refine stD (α := Bound) (nw := true) (pre := []) (post := []) (xs := ([s2.1.1, s2.1.2.1, s2.1.2.2] : List Bound)) (m := s2.2.toNat) (off := 0) (ys := [gt v24 0, gt v24 1, gt v24 2]) (y := r22) (cs' := [.sc (.int .i64 (gt v24 0).Lo), .sc (.int .i64 (gt v24 0).Hi), .sc (.bool (gt v24 0).Unknown), .sc (.int .i64 (gt v24 1).Lo), .sc (.int .i64 (gt v24 1).Hi), .sc (.bool (gt v24 1).Unknown), .sc (.int .i64 (gt v24 2).Lo), .sc (.int .i64 (gt v24 2).Hi), .sc (.bool (gt v24 2).Unknown)]) rfl rfl rfl rfl rfl rfl (ixlt h23) ti33 rfl rfl rfl rfl (etaS ev24 rfl rfl) rfl rfl (RunC.blk (RunC.fin ?_))
         have hR := Option.some.inj hR; subst hR
         exact Weak.turnL [(0, 0), (1, 0)] [] rfl rfl (tc (trP' rfl rfl rfl rfl) (tc (.sc _) (tc (.sc _) (tc (.sc _) (tc (trP' rfl rfl rfl rfl) (tc (.agg .z9 rfl) (tc (.sc _) tn))))))) (mc rfl (.box rfl .z9 rfl) (mc rfl (.box rfl .z9 rfl) mn))
       ·refine AWP.skip (skT (AWP.sq (AWP.sq (AWP.rgC 154 rfl rfl (pS rfl rfl (fun _ => rfl) (pS rfl rfl (fun _ => rfl) (RunC.fin (AWP.cd hR rfl (fun h25 hR => ?_) fun h25 hR => ?_))))))))
        ·refine AWP.rgC 178 rfl rfl (pS rfl rfl (fun _ => rfl) (pS rfl rfl (fun _ => rfl) (pS rfl rfl (fun _ => rfl) (pS rfl rfl (fun _ => rfl) (pS rfl rfl (fun _ => rfl) (pS rfl rfl (fun _ => rfl) (RunC.fin (AWP.rgC 202 rfl rfl (pS rfl rfl (fun _ => rfl) (pS rfl rfl (fun _ => rfl) (pS rfl rfl (fun _ => rfl) ?_)))))))))))
         obtain ⟨r26, hr26, hR⟩ := bindE hR
         refine cls [] rfl rfl cb52 (ok52 (mn2 r15 0) (mx2 r13 0) _ hr26) .z2 (.inr rfl) rfl ?_
         obtain ⟨h27, hR⟩ := chkE hR
         refine iaP (o' := 0 + s2.2.toNat * Cl.e Bound + 0) rfl rfl rfl ti68 rfl ti33 h27 rfl ?_
         obtain ⟨v28, ev28, hR⟩ := letE hR
         refine stD (α := Bound) (nw := true) (pre := []) (post := []) (xs := ([s2.1.1, s2.1.2.1, s2.1.2.2] : List Bound)) (m := s2.2.toNat) (off := 0) (ys := [gt v28 0, gt v28 1, gt v28 2]) (y := r26) (cs' := [.sc (.int .i64 (gt v28 0).Lo), .sc (.int .i64 (gt v28 0).Hi), .sc (.bool (gt v28 0).Unknown), .sc (.int .i64 (gt v28 1).Lo), .sc (.int .i64 (gt v28 1).Hi), .sc (.bool (gt v28 1).Unknown), .sc (.int .i64 (gt v28 2).Lo), .sc (.int .i64 (gt v28 2).Hi), .sc (.bool (gt v28 2).Unknown)]) rfl rfl rfl rfl rfl rfl (ixlt h27) ti33 rfl rfl rfl rfl (etaS ev28 rfl rfl) rfl rfl (RunC.blk (RunC.fin ?_))
         have hR := Option.some.inj hR; subst hR
         exact Weak.turnL [(0, 0), (1, 0)] [] rfl rfl (tc (trP' rfl rfl rfl rfl) (tc (.sc _) (tc (.sc _) (tc (.sc _) (tc (trP' rfl rfl rfl rfl) (tc (.agg .z9 rfl) (tc (.sc _) tn))))))) (mc rfl (.box rfl .z9 rfl) (mc rfl (.box rfl .z9 rfl) mn))
        ·refine AWP.skip (skT (AWP.rgC 178 rfl rfl (pS rfl rfl (fun _ => rfl) (pS rfl rfl (fun _ => rfl) (pS rfl rfl (fun _ => rfl) ?_)))))
         obtain ⟨r29, hr29, hR⟩ := bindE hR
         refine cls [] rfl rfl cb52 (ok52 r15 r13 _ hr29) .z2 (.inr rfl) rfl ?_
         obtain ⟨h30, hR⟩ := chkE hR
         refine iaP (o' := 0 + s2.2.toNat * Cl.e Bound + 0) rfl rfl rfl ti68 rfl ti33 h30 rfl ?_
         obtain ⟨v31, ev31, hR⟩ := letE hR
         refine stD (α := Bound) (nw := true) (pre := []) (post := []) (xs := ([s2.1.1, s2.1.2.1, s2.1.2.2] : List Bound)) (m := s2.2.toNat) (off := 0) (ys := [gt v31 0, gt v31 1, gt v31 2]) (y := r29) (cs' := [.sc (.int .i64 (gt v31 0).Lo), .sc (.int .i64 (gt v31 0).Hi), .sc (.bool (gt v31 0).Unknown), .sc (.int .i64 (gt v31 1).Lo), .sc (.int .i64 (gt v31 1).Hi), .sc (.bool (gt v31 1).Unknown), .sc (.int .i64 (gt v31 2).Lo), .sc (.int .i64 (gt v31 2).Hi), .sc (.bool (gt v31 2).Unknown)]) rfl rfl rfl rfl rfl rfl (ixlt h30) ti33 rfl rfl rfl rfl (etaS ev31 rfl rfl) rfl rfl (RunC.blk (RunC.fin ?_))
         have hR := Option.some.inj hR; subst hR
         exact Weak.turnL [(0, 0), (1, 0)] [] rfl rfl (tc (trP' rfl rfl rfl rfl) (tc (.sc _) (tc (.sc _) (tc (.sc _) (tc (trP' rfl rfl rfl rfl) (tc (.agg .z9 rfl) (tc (.sc _) tn))))))) (mc rfl (.box rfl .z9 rfl) (mc rfl (.box rfl .z9 rfl) mn))
      ·refine AWP.skip (skT (AWP.sq (AWP.sq (AWP.rgC 126 rfl rfl (fa rfl rfl ti33 rfl rfl ti31 rfl (ldB (v := .sc _) rfl rfl rfl rfl ti31 rfl rfl (pS rfl rfl (fun _ => rfl) (RunC.fin (AWP.cd hR rfl (fun h32 hR => ?_) fun h32 hR => ?_)))))))))
       ·refine AWP.rgC 146 rfl rfl (fa rfl rfl ti33 rfl rfl ti31 rfl (ldB (v := .sc _) rfl rfl rfl rfl ti31 rfl rfl (pS rfl rfl (fun _ => rfl) ?_)))
        obtain ⟨r33, hr33, hR⟩ := bindE hR
        refine cls [] rfl rfl cb65 (ok65 (gt ([p.1, p.2.1, p.2.2] : List Bound) s2.2).Lo (mx2 r1.1 65536) _ hr33) .z2 (.inr rfl) rfl (pS rfl rfl (fun _ => rfl) (RunC.fin (AWP.sq (AWP.sq (AWP.rgC 154 rfl rfl (pS rfl rfl (fun _ => rfl) (pS rfl rfl (fun _ => rfl) (RunC.fin (AWP.cd hR rfl (fun h34 hR => ?_) fun h34 hR => ?_)))))))))
        ·refine AWP.rgC 178 rfl rfl (pS rfl rfl (fun _ => rfl) (pS rfl rfl (fun _ => rfl) (pS rfl rfl (fun _ => rfl) (pS rfl rfl (fun _ => rfl) (pS rfl rfl (fun _ => rfl) (pS rfl rfl (fun _ => rfl) (RunC.fin (AWP.rgC 202 rfl rfl (pS rfl rfl (fun _ => rfl) (pS rfl rfl (fun _ => rfl) (pS rfl rfl (fun _ => rfl) ?_)))))))))))
         obtain ⟨r35, hr35, hR⟩ := bindE hR
         refine cls [] rfl rfl cb52 (ok52 (mn2 r12 0) (mx2 r33 0) _ hr35) .z2 (.inr rfl) rfl ?_
         obtain ⟨h36, hR⟩ := chkE hR
         refine iaP (o' := 0 + s2.2.toNat * Cl.e Bound + 0) rfl rfl rfl ti68 rfl ti33 h36 rfl ?_
         obtain ⟨v37, ev37, hR⟩ := letE hR
         refine stD (α := Bound) (nw := true) (pre := []) (post := []) (xs := ([s2.1.1, s2.1.2.1, s2.1.2.2] : List Bound)) (m := s2.2.toNat) (off := 0) (ys := [gt v37 0, gt v37 1, gt v37 2]) (y := r35) (cs' := [.sc (.int .i64 (gt v37 0).Lo), .sc (.int .i64 (gt v37 0).Hi), .sc (.bool (gt v37 0).Unknown), .sc (.int .i64 (gt v37 1).Lo), .sc (.int .i64 (gt v37 1).Hi), .sc (.bool (gt v37 1).Unknown), .sc (.int .i64 (gt v37 2).Lo), .sc (.int .i64 (gt v37 2).Hi), .sc (.bool (gt v37 2).Unknown)]) rfl rfl rfl rfl rfl rfl (ixlt h36) ti33 rfl rfl rfl rfl (etaS ev37 rfl rfl) rfl rfl (RunC.blk (RunC.fin ?_))
         have hR := Option.some.inj hR; subst hR
         exact Weak.turnL [(0, 0), (1, 0)] [] rfl rfl (tc (trP' rfl rfl rfl rfl) (tc (.sc _) (tc (.sc _) (tc (.sc _) (tc (trP' rfl rfl rfl rfl) (tc (.agg .z9 rfl) (tc (.sc _) tn))))))) (mc rfl (.box rfl .z9 rfl) (mc rfl (.box rfl .z9 rfl) mn))
        ·refine AWP.skip (skT (AWP.rgC 178 rfl rfl (pS rfl rfl (fun _ => rfl) (pS rfl rfl (fun _ => rfl) (pS rfl rfl (fun _ => rfl) ?_)))))
         obtain ⟨r38, hr38, hR⟩ := bindE hR
         refine cls [] rfl rfl cb52 (ok52 r12 r33 _ hr38) .z2 (.inr rfl) rfl ?_
         obtain ⟨h39, hR⟩ := chkE hR
         refine iaP (o' := 0 + s2.2.toNat * Cl.e Bound + 0) rfl rfl rfl ti68 rfl ti33 h39 rfl ?_
         obtain ⟨v40, ev40, hR⟩ := letE hR
         refine stD (α := Bound) (nw := true) (pre := []) (post := []) (xs := ([s2.1.1, s2.1.2.1, s2.1.2.2] : List Bound)) (m := s2.2.toNat) (off := 0) (ys := [gt v40 0, gt v40 1, gt v40 2]) (y := r38) (cs' := [.sc (.int .i64 (gt v40 0).Lo), .sc (.int .i64 (gt v40 0).Hi), .sc (.bool (gt v40 0).Unknown), .sc (.int .i64 (gt v40 1).Lo), .sc (.int .i64 (gt v40 1).Hi), .sc (.bool (gt v40 1).Unknown), .sc (.int .i64 (gt v40 2).Lo), .sc (.int .i64 (gt v40 2).Hi), .sc (.bool (gt v40 2).Unknown)]) rfl rfl rfl rfl rfl rfl (ixlt h39) ti33 rfl rfl rfl rfl (etaS ev40 rfl rfl) rfl rfl (RunC.blk (RunC.fin ?_))
         have hR := Option.some.inj hR; subst hR
         exact Weak.turnL [(0, 0), (1, 0)] [] rfl rfl (tc (trP' rfl rfl rfl rfl) (tc (.sc _) (tc (.sc _) (tc (.sc _) (tc (trP' rfl rfl rfl rfl) (tc (.agg .z9 rfl) (tc (.sc _) tn))))))) (mc rfl (.box rfl .z9 rfl) (mc rfl (.box rfl .z9 rfl) mn))
       ·refine AWP.skip (skT (AWP.sq (AWP.sq (AWP.rgC 134 rfl rfl (pS rfl rfl (fun _ => rfl) (pS rfl rfl (fun _ => rfl) (RunC.fin (AWP.cd hR rfl (fun h41 hR => ?_) fun h41 hR => ?_))))))))
        ·refine AWP.rgC 158 rfl rfl (pS rfl rfl (fun _ => rfl) (pS rfl rfl (fun _ => rfl) (pS rfl rfl (fun _ => rfl) (pS rfl rfl (fun _ => rfl) (pS rfl rfl (fun _ => rfl) (pS rfl rfl (fun _ => rfl) (RunC.fin (AWP.rgC 182 rfl rfl (pS rfl rfl (fun _ => rfl) (pS rfl rfl (fun _ => rfl) (pS rfl rfl (fun _ => rfl) ?_)))))))))))
         obtain ⟨r42, hr42, hR⟩ := bindE hR
         refine cls [] rfl rfl cb52 (ok52 (mn2 r12 0) (mx2 r13 0) _ hr42) .z2 (.inr rfl) rfl ?_
         obtain ⟨h43, hR⟩ := chkE hR
         refine iaP (o' := 0 + s2.2.toNat * Cl.e Bound + 0) rfl rfl rfl ti68 rfl ti33 h43 rfl ?_
         obtain ⟨v44, ev44, hR⟩ := letE hR
         refine stD (α := Bound) (nw := true) (pre := []) (post := []) (xs := ([s2.1.1, s2.1.2.1, s2.1.2.2] : List Bound)) (m := s2.2.toNat) (off := 0) (ys := [gt v44 0, gt v44 1, gt v44 2]) (y := r42) (cs' := [.sc (.int .i64 (gt v44 0).Lo), .sc (.int .i64 (gt v44 0).Hi), .sc (.bool (gt v44 0).Unknown), .sc (.int .i64 (gt v44 1).Lo), .sc (.int .i64 (gt v44 1).Hi), .sc (.bool (gt v44 1).Unknown), .sc (.int .i64 (gt v44 2).Lo), .sc (.int .i64 (gt v44 2).Hi), .sc (.bool (gt v44 2).Unknown)]) rfl rfl rfl rfl rfl rfl (ixlt h43) ti33 rfl rfl rfl rfl (etaS ev44 rfl rfl) rfl rfl (RunC.blk (RunC.fin ?_))
         have hR := Option.some.inj hR; subst hR
         exact Weak.turnL [(0, 0), (1, 0)] [] rfl rfl (tc (trP' rfl rfl rfl rfl) (tc (.sc _) (tc (.sc _) (tc (.sc _) (tc (trP' rfl rfl rfl rfl) (tc (.agg .z9 rfl) (tc (.sc _) tn))))))) (mc rfl (.box rfl .z9 rfl) (mc rfl (.box rfl .z9 rfl) mn))
        ·refine AWP.skip (skT (AWP.rgC 158 rfl rfl (pS rfl rfl (fun _ => rfl) (pS rfl rfl (fun _ => rfl) (pS rfl rfl (fun _ => rfl) ?_)))))
         obtain ⟨r45, hr45, hR⟩ := bindE hR
         refine cls [] rfl rfl cb52 (ok52 r12 r13 _ hr45) .z2 (.inr rfl) rfl ?_
         obtain ⟨h46, hR⟩ := chkE hR
         refine iaP (o' := 0 + s2.2.toNat * Cl.e Bound + 0) rfl rfl rfl ti68 rfl ti33 h46 rfl ?_
         obtain ⟨v47, ev47, hR⟩ := letE hR
         refine stD (α := Bound) (nw := true) (pre := []) (post := []) (xs := ([s2.1.1, s2.1.2.1, s2.1.2.2] : List Bound)) (m := s2.2.toNat) (off := 0) (ys := [gt v47 0, gt v47 1, gt v47 2]) (y := r45) (cs' := [.sc (.int .i64 (gt v47 0).Lo), .sc (.int .i64 (gt v47 0).Hi), .sc (.bool (gt v47 0).Unknown), .sc (.int .i64 (gt v47 1).Lo), .sc (.int .i64 (gt v47 1).Hi), .sc (.bool (gt v47 1).Unknown), .sc (.int .i64 (gt v47 2).Lo), .sc (.int .i64 (gt v47 2).Hi), .sc (.bool (gt v47 2).Unknown)]) rfl rfl rfl rfl rfl rfl (ixlt h46) ti33 rfl rfl rfl rfl (etaS ev47 rfl rfl) rfl rfl (RunC.blk (RunC.fin ?_))
         have hR := Option.some.inj hR; subst hR
         exact Weak.turnL [(0, 0), (1, 0)] [] rfl rfl (tc (trP' rfl rfl rfl rfl) (tc (.sc _) (tc (.sc _) (tc (.sc _) (tc (trP' rfl rfl rfl rfl) (tc (.agg .z9 rfl) (tc (.sc _) tn))))))) (mc rfl (.box rfl .z9 rfl) (mc rfl (.box rfl .z9 rfl) mn))
   ·refine AWP.rgC 10 rfl rfl (pS rfl rfl (fun _ => rfl) (pS rfl rfl (fun _ => rfl) (RunC.fin (⟨(z5, w6 (s2.2 + 1)), (Option.some.inj hR).symm, ?_⟩))))
    exact Weak.turnL [(0, 0), (1, 0)] [] rfl rfl (tc (trP' rfl rfl rfl rfl) (tc (.sc _) (tc (.sc _) (tc (.sc _) (tc (trP' rfl rfl rfl rfl) (tc (.agg .z9 rfl) (tc (.sc _) tn))))))) (mc rfl (.box rfl .z9 rfl) (mc rfl (.box rfl .z9 rfl) mn))
  ·refine AWP.exit (exT (exT (exH (skT (⟨s2.1, (Option.some.inj hR).symm, ?_⟩)))))
   exact Weak.turnL [(0, 0), (1, 0)] [] rfl rfl (tc (trP' rfl rfl rfl rfl) (tc (trP' rfl rfl rfl rfl) tn)) (mc rfl (.box rfl .z9 rfl) (mc rfl (.box rfl .z9 rfl) mn))
 ·refine skT (AWP.sq (AWP.rgC 10 rfl rfl (ldB (v := .agg _) rfl rfl rfl rfl ti68 rfl rfl (stB (cs' := [.sc (.int .i64 z3.1.Lo), .sc (.int .i64 z3.1.Hi), .sc (.bool z3.1.Unknown), .sc (.int .i64 z3.2.1.Lo), .sc (.int .i64 z3.2.1.Hi), .sc (.bool z3.2.1.Unknown), .sc (.int .i64 z3.2.2.Lo), .sc (.int .i64 z3.2.2.Hi), .sc (.bool z3.2.2.Unknown)]) rfl rfl rfl rfl ti68 rfl rfl rfl rfl rfl (RunC.fin (AWP.ret ?_))))))
  have hR := Option.some.inj hR; subst hR
  exact hQ _ _ (LS.mk [(2, .ptr 0 0 0)] (lblks 0 [boxB (α := Bound × Bound × Bound) true z3]) 1) (aggV (α := Bound × Bound × Bound) true z3) [] (.inr rfl) (Weak.turnL [(0, 0)] [] rfl rfl (tc (trP' rfl rfl rfl rfl) tn) (mc rfl (.box rfl .z9 rfl) mn)) (ro1 (rvC (v := aggV (α := Bound × Bound × Bound) true z3) rfl rfl ti68 rfl)) rfl rfl ldA pn
theorem ok28 (a : Bound) (n : Int) (d : Int) (r : Bound) (hR : bound_Scale a n d = some r) : FnP Try.prog 28 [aggV false a, .sc (.int .i64 n), .sc (.int .i64 d)] (aggV (α := Bound) true r) := by
 refine fnP_of (FnX.walk Try.func28 rfl 12 0 (by simp [Try.ntmps28]) rfl fun W S F Q hQ => ?_)
 unfold bound_Scale at hR
 refine AWP.sq (AWP.rgC 8 rfl rfl (bx (cs := _) 0 rfl rfl rfl (al (cs := [.sc (.int .i64 0), .sc (.int .i64 0), .sc (.bool false)]) 4 rfl rfl ti33 rfl rfl (RunC.fin (AWP.sq (AWP.rgD 32 [0, 0, 2, 0, 15, 31] ⟨[], [some [0], none, none, none, none, some [4]]⟩ hmix (by kernel_rfl) rfl rfl ?_))))))
 refine ldB (v := .agg _) rfl rfl rfl rfl ti33 rfl rfl (pS rfl rfl (fun _ => rfl) ?_)
 obtain ⟨r1, hr1, hR⟩ := bindE hR
 refine cls [] rfl rfl cb42 (ok42 n _ hr1) (.cons (.sc _) .nil) (.inr rfl) rfl (pS rfl rfl (fun _ => rfl) ?_)
 obtain ⟨r2, hr2, hR⟩ := bindE hR
 refine cls [] rfl rfl cb44 (ok44 a r1 d _ hr2) (.cons (.agg .z3 rfl) (.cons (.agg .z3 rfl) (.cons (.sc _) .nil))) (.inr rfl) rfl (stB (cs' := [.sc (.int .i64 r2.Lo), .sc (.int .i64 r2.Hi), .sc (.bool r2.Unknown)]) rfl rfl rfl rfl ti33 rfl rfl rfl rfl rfl (RunC.fin (AWP.ret ?_)))
 have hR := Option.some.inj hR; subst hR
 exact hQ _ _ (LS.mk [(6, .ptr 0 0 0)] (lblks 0 [boxB (α := Bound) true r2]) 1) (aggV (α := Bound) true r2) [] (.inr rfl) (Weak.turnL [(4, 0)] [] rfl rfl (tc (trP' rfl rfl rfl rfl) tn) (mc rfl (.box rfl .z3 rfl) mn)) (ro1 (rvC (v := aggV (α := Bound) true r2) rfl rfl ti33 rfl)) rfl rfl ldA pn
theorem ok41 (a : Bound) (b : Bound) (r : Bound) (hR : bound_Add a b = some r) : FnP Try.prog 41 [aggV false a, aggV false b] (aggV (α := Bound) true r) := by
 refine fnP_of (FnX.walk Try.func41 rfl 20 0 (by simp [Try.ntmps41]) rfl fun W S F Q hQ => ?_)
 unfold bound_Add at hR
 refine AWP.sq (AWP.rgC 12 rfl rfl (bx (cs := _) 0 rfl rfl rfl (bx (cs := _) 4 rfl rfl rfl (al (cs := [.sc (.int .i64 0), .sc (.int .i64 0), .sc (.bool false)]) 8 rfl rfl ti33 rfl rfl (RunC.fin (AWP.sq (AWP.sq (AWP.rgC 24 rfl rfl (ldB (v := .agg _) rfl rfl rfl rfl ti33 rfl rfl (ldB (v := .agg _) rfl rfl rfl rfl ti33 rfl rfl ?_))))))))))
 obtain ⟨r1, hr1, hR⟩ := bindE hR
 refine cls [] rfl rfl cb51 (ok51 a b _ hr1) (.cons (.agg .z3 rfl) (.cons (.agg .z3 rfl) (.nil))) (.inr rfl) rfl (RunC.fin (AWP.cd hR rfl (fun h2 hR => ?_) fun h2 hR => ?_))
 ·refine AWP.sq (AWP.rgC 32 rfl rfl ?_)
  obtain ⟨r3, hr3, hR⟩ := bindE hR
  refine cls [] rfl rfl cb26 (ok26 _ hr3) (.nil) (.inr rfl) rfl (stB (cs' := [.sc (.int .i64 r3.Lo), .sc (.int .i64 r3.Hi), .sc (.bool r3.Unknown)]) rfl rfl rfl rfl ti33 rfl rfl rfl rfl rfl (RunC.fin (AWP.ret (rtT ?_))))
  have hR := Option.some.inj hR; subst hR
  exact hQ _ _ (LS.mk [(4, .ptr 0 0 0)] (lblks 0 [boxB (α := Bound) true r3]) 1) (aggV (α := Bound) true r3) [] (.inr rfl) (Weak.turnL [(8, 0)] [] rfl rfl (tc (trP' rfl rfl rfl rfl) tn) (mc rfl (.box rfl .z3 rfl) mn)) (ro1 (rvC (v := aggV (α := Bound) true r3) rfl rfl ti33 rfl)) rfl rfl ldA pn
 ·refine AWP.skip (skT (AWP.sq (AWP.rgC 72 rfl rfl (fa rfl rfl ti33 rfl rfl ti31 rfl (ldB (v := .sc _) rfl rfl rfl rfl ti31 rfl rfl (fa rfl rfl ti33 rfl rfl ti31 rfl (ldB (v := .sc _) rfl rfl rfl rfl ti31 rfl rfl (pS rfl rfl (fun _ => rfl) (fa rfl rfl ti33 rfl rfl ti31 rfl (ldB (v := .sc _) rfl rfl rfl rfl ti31 rfl rfl (fa rfl rfl ti33 rfl rfl ti31 rfl (ldB (v := .sc _) rfl rfl rfl rfl ti31 rfl rfl (pS rfl rfl (fun _ => rfl) ?_)))))))))))))
  obtain ⟨r4, hr4, hR⟩ := bindE hR
  refine cls [] rfl rfl cb52 (ok52 (w6 (a.Lo + b.Lo)) (w6 (a.Hi + b.Hi)) _ hr4) .z2 (.inr rfl) rfl (stB (cs' := [.sc (.int .i64 r4.Lo), .sc (.int .i64 r4.Hi), .sc (.bool r4.Unknown)]) rfl rfl rfl rfl ti33 rfl rfl rfl rfl rfl (RunC.fin (AWP.ret ?_)))
  have hR := Option.some.inj hR; subst hR
  exact hQ _ _ (LS.mk [(4, .ptr 0 0 0)] (lblks 0 [boxB (α := Bound) true r4]) 1) (aggV (α := Bound) true r4) [] (.inr rfl) (Weak.turnL [(8, 0)] [] rfl rfl (tc (trP' rfl rfl rfl rfl) tn) (mc rfl (.box rfl .z3 rfl) mn)) (ro1 (rvC (v := aggV (α := Bound) true r4) rfl rfl ti33 rfl)) rfl rfl ldA pn
theorem ok24 (a : Bound) (b : Bound) (r : Bound) (hR : bound_Sub a b = some r) : FnP Try.prog 24 [aggV false a, aggV false b] (aggV (α := Bound) true r) := by
 refine fnP_of (FnX.walk Try.func24 rfl 9 0 (by simp [Try.ntmps24]) rfl fun W S F Q hQ => ?_)
 unfold bound_Sub at hR
 refine AWP.sq (AWP.rgC 12 rfl rfl (bx (cs := _) 0 rfl rfl rfl (bx (cs := _) 4 rfl rfl rfl (al (cs := [.sc (.int .i64 0), .sc (.int .i64 0), .sc (.bool false)]) 8 rfl rfl ti33 rfl rfl (RunC.fin (AWP.sq (AWP.rgD 32 [0, 0, 2, 7, 15] ⟨[], [some [0], some [4], none, none, some [8]]⟩ hmix (by kernel_rfl) rfl rfl ?_)))))))
 refine ldB (v := .agg _) rfl rfl rfl rfl ti33 rfl rfl (ldB (v := .agg _) rfl rfl rfl rfl ti33 rfl rfl ?_)
 obtain ⟨r1, hr1, hR⟩ := bindE hR
 refine cls [] rfl rfl cb46 (ok46 b _ hr1) (.cons (.agg .z3 rfl) (.nil)) (.inr rfl) rfl ?_
 obtain ⟨r2, hr2, hR⟩ := bindE hR
 refine cls [] rfl rfl cb41 (ok41 a r1 _ hr2) (.cons (.agg .z3 rfl) (.cons (.agg .z3 rfl) (.nil))) (.inr rfl) rfl (stB (cs' := [.sc (.int .i64 r2.Lo), .sc (.int .i64 r2.Hi), .sc (.bool r2.Unknown)]) rfl rfl rfl rfl ti33 rfl rfl rfl rfl rfl (RunC.fin (AWP.ret ?_)))
 have hR := Option.some.inj hR; subst hR
 exact hQ _ _ (LS.mk [(4, .ptr 0 0 0)] (lblks 0 [boxB (α := Bound) true r2]) 1) (aggV (α := Bound) true r2) [] (.inr rfl) (Weak.turnL [(8, 0)] [] rfl rfl (tc (trP' rfl rfl rfl rfl) tn) (mc rfl (.box rfl .z3 rfl) mn)) (ro1 (rvC (v := aggV (α := Bound) true r2) rfl rfl ti33 rfl)) rfl rfl ldA pn
theorem ok19 (was : Bound × Bound × Bound) (here : Bound × Bound × Bound) (r : (Bound × Bound × Bound)) (hR : predict_Step was here = some r) : FnP Try.prog 19 [aggV false was, aggV false here] (aggV (α := Bound × Bound × Bound) true r) := by
 refine fnP_of (FnX.walk Try.func19 rfl 29 0 (by simp [Try.ntmps19]) rfl fun W S F Q hQ => ?_)
 unfold predict_Step at hR
 refine AWP.sq (AWP.rgC 12 rfl rfl (bx (cs := _) 0 rfl rfl rfl (bx (cs := _) 4 rfl rfl rfl (al (cs := [.sc (.int .i64 0), .sc (.int .i64 0), .sc (.bool false), .sc (.int .i64 0), .sc (.int .i64 0), .sc (.bool false), .sc (.int .i64 0), .sc (.int .i64 0), .sc (.bool false)]) 8 rfl rfl ti68 rfl rfl (RunC.fin (AWP.sq (AWP.rgC 28 rfl rfl (ldB (v := .agg _) rfl rfl rfl rfl ti68 rfl rfl ?_))))))))
 obtain ⟨r1, hr1, hR⟩ := bindE hR
 refine cls [] rfl rfl cb40 (ok40 here _ hr1) (.cons (.agg .z9 rfl) (.nil)) (.inr rfl) rfl (al (cs := [.sc (.int .i64 0), .sc (.int .i64 0), .sc (.bool false), .sc (.int .i64 0), .sc (.int .i64 0), .sc (.bool false), .sc (.int .i64 0), .sc (.int .i64 0), .sc (.bool false)]) 20 rfl rfl ti68 rfl rfl (stB (cs' := [.sc (.int .i64 r1.1.Lo), .sc (.int .i64 r1.1.Hi), .sc (.bool r1.1.Unknown), .sc (.int .i64 r1.2.1.Lo), .sc (.int .i64 r1.2.1.Hi), .sc (.bool r1.2.1.Unknown), .sc (.int .i64 r1.2.2.Lo), .sc (.int .i64 r1.2.2.Hi), .sc (.bool r1.2.2.Unknown)]) rfl rfl rfl rfl ti68 rfl rfl rfl rfl rfl (RunC.fin (AWP.sq (AWP.rgC 32 rfl rfl (al (cs := [.sc (.int .i64 0), .sc (.int .i64 0), .sc (.bool false), .sc (.int .i64 0), .sc (.int .i64 0), .sc (.bool false), .sc (.int .i64 0), .sc (.int .i64 0), .sc (.bool false)]) 28 rfl rfl ti68 rfl rfl (RunC.fin (AWP.sq (AWP.sq (AWP.rgC 36 rfl rfl (pS rfl rfl (fun _ => rfl) (RunC.fin (AWP.loopJ (fun s2 : (Bound × Bound × Bound) × Int => LS.mk [(2, .ptr 0 0 0), (3, .ptr 1 0 0), (4, .ptr 2 0 0), (5, .ptr 3 0 0), (6, .ptr 4 0 0), (10, .sc (.int .i64 s2.2))] (lblks 0 [boxB (α := Bound × Bound × Bound) true was, boxB (α := Bound × Bound × Bound) true here, boxB (α := Bound × Bound × Bound) true (Bound.mk 0 0 false, Bound.mk 0 0 false, Bound.mk 0 0 false), boxB (α := Bound × Bound × Bound) true r1, boxB (α := Bound × Bound × Bound) true s2.1]) 5) (fun z3 : (Bound × Bound × Bound) => LS.mk [(4, .ptr 0 0 0), (6, .ptr 1 0 0)] (lblks 0 [boxB (α := Bound × Bound × Bound) true (Bound.mk 0 0 false, Bound.mk 0 0 false, Bound.mk 0 0 false), boxB (α := Bound × Bound × Bound) true z3]) 2) (predict_Step.l1 was here r1) hR (s0 := ((Bound.mk 0 0 false, Bound.mk 0 0 false, Bound.mk 0 0 false), 0)) (Weak.turnL [(0, 0), (4, 0), (8, 0), (20, 0), (28, 0)] [] rfl rfl (tc (trP' rfl rfl rfl rfl) (tc (trP' rfl rfl rfl rfl) (tc (trP' rfl rfl rfl rfl) (tc (trP' rfl rfl rfl rfl) (tc (trP' rfl rfl rfl rfl) (tc (.sc _) tn)))))) (mc rfl (.box rfl .z9 rfl) (mc rfl (.box rfl .z9 rfl) (mc rfl (.box rfl .z9 rfl) (mc rfl (.box rfl .z9 rfl) (mc rfl (.box rfl .z9 rfl) mn)))))) (fun s2 o2 hR => ?_) fun z3 hR => ?_)))))))))))))
 ·unfold predict_Step.l1 at hR
  refine AWP.sq (AWP.rgC 9 rfl rfl (pS rfl rfl (fun _ => rfl) (RunC.fin (AWP.sq (AWP.cd hR rfl (fun h4 hR => ?_) fun h4 hR => ?_)))))
  ·refine AWP.skip (skT (AWP.sq (AWP.block (AWP.sq (AWP.rgC 17 rfl rfl (pS rfl rfl (fun _ => rfl) (pS rfl rfl (fun _ => rfl) (RunC.fin (AWP.rgD 77 [0, 0, 2, 6, 14, 0, 32, 96, 254, 0, 512, 1536, 4094, 8191, 16383] ⟨[], [none, none, none, some [1], none, none, none, some [0], none, none, none, some [3], none, none, some [4]]⟩ hmix (by kernel_rfl) rfl rfl ?_)))))))))
   refine pS rfl rfl (fun _ => rfl) (pS rfl rfl (fun _ => rfl) ?_)
   obtain ⟨h5, hR⟩ := chkE hR
   refine iaP (o' := 0 + s2.2.toNat * Cl.e Bound + 0) rfl rfl rfl ti68 rfl ti33 h5 rfl (ldD (α := Bound) (nw := true) (pre := []) (post := []) (xs := ([here.1, here.2.1, here.2.2] : List Bound)) (m := s2.2.toNat) (off := 0) (v := .agg _) rfl rfl rfl rfl rfl rfl (ixlt h5) ti33 rfl rfl rfl rfl ?_)
   obtain ⟨r6, hr6, hR⟩ := bindE hR
   refine cls [] rfl rfl cb28 (ok28 (gt ([here.1, here.2.1, here.2.2] : List Bound) s2.2) 2 1 _ hr6) (.cons (.agg .z3 rfl) .z2) (.inr rfl) rfl (pS rfl rfl (fun _ => rfl) ?_)
   obtain ⟨h7, hR⟩ := chkE hR
   refine iaP (o' := 0 + s2.2.toNat * Cl.e Bound + 0) rfl rfl rfl ti68 rfl ti33 h7 rfl (ldD (α := Bound) (nw := true) (pre := []) (post := []) (xs := ([was.1, was.2.1, was.2.2] : List Bound)) (m := s2.2.toNat) (off := 0) (v := .agg _) rfl rfl rfl rfl rfl rfl (ixlt h7) ti33 rfl rfl rfl rfl ?_)
   obtain ⟨r8, hr8, hR⟩ := bindE hR
   refine cls [] rfl rfl cb24 (ok24 r6 (gt ([was.1, was.2.1, was.2.2] : List Bound) s2.2) _ hr8) (.cons (.agg .z3 rfl) (.cons (.agg .z3 rfl) (.nil))) (.inr rfl) rfl (pS rfl rfl (fun _ => rfl) ?_)
   obtain ⟨h9, hR⟩ := chkE hR
   refine iaP (o' := 0 + s2.2.toNat * Cl.e Bound + 0) rfl rfl rfl ti68 rfl ti33 h9 rfl (ldD (α := Bound) (nw := true) (pre := []) (post := []) (xs := ([r1.1, r1.2.1, r1.2.2] : List Bound)) (m := s2.2.toNat) (off := 0) (v := .agg _) rfl rfl rfl rfl rfl rfl (ixlt h9) ti33 rfl rfl rfl rfl ?_)
   obtain ⟨r10, hr10, hR⟩ := bindE hR
   refine cls [] rfl rfl cb41 (ok41 r8 (gt ([r1.1, r1.2.1, r1.2.2] : List Bound) s2.2) _ hr10) (.cons (.agg .z3 rfl) (.cons (.agg .z3 rfl) (.nil))) (.inr rfl) rfl ?_
   obtain ⟨h11, hR⟩ := chkE hR
   refine iaP (o' := 0 + s2.2.toNat * Cl.e Bound + 0) rfl rfl rfl ti68 rfl ti33 h11 rfl ?_
   obtain ⟨v12, ev12, hR⟩ := letE hR
   refine stD (α := Bound) (nw := true) (pre := []) (post := []) (xs := ([s2.1.1, s2.1.2.1, s2.1.2.2] : List Bound)) (m := s2.2.toNat) (off := 0) (ys := [gt v12 0, gt v12 1, gt v12 2]) (y := r10) (cs' := [.sc (.int .i64 (gt v12 0).Lo), .sc (.int .i64 (gt v12 0).Hi), .sc (.bool (gt v12 0).Unknown), .sc (.int .i64 (gt v12 1).Lo), .sc (.int .i64 (gt v12 1).Hi), .sc (.bool (gt v12 1).Unknown), .sc (.int .i64 (gt v12 2).Lo), .sc (.int .i64 (gt v12 2).Hi), .sc (.bool (gt v12 2).Unknown)]) rfl rfl rfl rfl rfl rfl (ixlt h11) ti33 rfl rfl rfl rfl (etaS ev12 rfl rfl) rfl rfl (RunC.blk (RunC.fin (AWP.rgC 85 rfl rfl (pS rfl rfl (fun _ => rfl) (pS rfl rfl (fun _ => rfl) (RunC.fin (⟨((gt v12 0, gt v12 1, gt v12 2), w6 (s2.2 + 1)), (Option.some.inj hR).symm, ?_⟩)))))))
   exact Weak.turnL [(0, 0), (1, 0), (2, 0), (3, 0), (4, 0)] [] rfl rfl (tc (trP' rfl rfl rfl rfl) (tc (trP' rfl rfl rfl rfl) (tc (trP' rfl rfl rfl rfl) (tc (trP' rfl rfl rfl rfl) (tc (trP' rfl rfl rfl rfl) (tc (.sc _) tn)))))) (mc rfl (.box rfl .z9 rfl) (mc rfl (.box rfl .z9 rfl) (mc rfl (.box rfl .z9 rfl) (mc rfl (.box rfl .z9 rfl) (mc rfl (.box rfl .z9 rfl) mn)))))
  ·refine AWP.exit (exT (exT (exH (skT (⟨s2.1, (Option.some.inj hR).symm, ?_⟩)))))
   exact Weak.turnL [(2, 0), (4, 0)] [] rfl rfl (tc (trP' rfl rfl rfl rfl) (tc (trP' rfl rfl rfl rfl) tn)) (mc rfl (.box rfl .z9 rfl) (mc rfl (.box rfl .z9 rfl) mn))
 ·refine skT (AWP.sq (AWP.rgC 10 rfl rfl (ldB (v := .agg _) rfl rfl rfl rfl ti68 rfl rfl (stB (cs' := [.sc (.int .i64 z3.1.Lo), .sc (.int .i64 z3.1.Hi), .sc (.bool z3.1.Unknown), .sc (.int .i64 z3.2.1.Lo), .sc (.int .i64 z3.2.1.Hi), .sc (.bool z3.2.1.Unknown), .sc (.int .i64 z3.2.2.Lo), .sc (.int .i64 z3.2.2.Hi), .sc (.bool z3.2.2.Unknown)]) rfl rfl rfl rfl ti68 rfl rfl rfl rfl rfl (RunC.fin (AWP.ret ?_))))))
  have hR := Option.some.inj hR; subst hR
  exact hQ _ _ (LS.mk [(4, .ptr 0 0 0)] (lblks 0 [boxB (α := Bound × Bound × Bound) true z3]) 1) (aggV (α := Bound × Bound × Bound) true z3) [] (.inr rfl) (Weak.turnL [(0, 0)] [] rfl rfl (tc (trP' rfl rfl rfl rfl) tn) (mc rfl (.box rfl .z9 rfl) mn)) (ro1 (rvC (v := aggV (α := Bound × Bound × Bound) true z3) rfl rfl ti68 rfl)) rfl rfl ldA pn
theorem ok7 (r : Bool) (hR : spykeep4_stepped = some r) : FnP Try.prog 7 [] (.sc (.bool r)) := by
 refine fnP_of (FnX.walk Try.func7 rfl 13 0 (by simp [Try.ntmps7]) rfl fun W S F Q hQ => ?_)
 unfold spykeep4_stepped at hR
 refine AWP.sq (AWP.rgC 4 rfl rfl (pS rfl rfl (fun _ => rfl) (RunC.fin (AWP.sq (AWP.rgC 32 rfl rfl (bu (cs := [.sc (.int .i64 1048576), .sc (.int .i64 0), .sc (.int .i64 0)]) rfl bt30 rfl ?_))))))
 obtain ⟨r1, hr1, hR⟩ := bindE hR
 refine cls [] rfl rfl cb20 (ok20 (Vec.mk 1048576 0 0) _ hr1) (.cons (.agg .z3 rfl) (.nil)) (.inr rfl) rfl (bu (cs := [.sc (.int .i64 1048576), .sc (.int .i64 92000), .sc (.int .i64 0)]) rfl bt30 rfl ?_)
 obtain ⟨r2, hr2, hR⟩ := bindE hR
 refine cls [] rfl rfl cb20 (ok20 (Vec.mk 1048576 92000 0) _ hr2) (.cons (.agg .z3 rfl) (.nil)) (.inr rfl) rfl ?_
 obtain ⟨r3, hr3, hR⟩ := bindE hR
 refine cls [] rfl rfl cb19 (ok19 r1 r2 _ hr3) (.cons (.agg .z9 rfl) (.cons (.agg .z9 rfl) (.nil))) (.inr rfl) rfl (al (cs := [.sc (.int .i64 0), .sc (.int .i64 0), .sc (.bool false), .sc (.int .i64 0), .sc (.int .i64 0), .sc (.bool false), .sc (.int .i64 0), .sc (.int .i64 0), .sc (.bool false)]) 24 rfl rfl ti68 rfl rfl (stB (cs' := [.sc (.int .i64 r3.1.Lo), .sc (.int .i64 r3.1.Hi), .sc (.bool r3.1.Unknown), .sc (.int .i64 r3.2.1.Lo), .sc (.int .i64 r3.2.1.Hi), .sc (.bool r3.2.1.Unknown), .sc (.int .i64 r3.2.2.Lo), .sc (.int .i64 r3.2.2.Hi), .sc (.bool r3.2.2.Unknown)]) rfl rfl rfl rfl ti68 rfl rfl rfl rfl rfl (RunC.fin (AWP.sq (AWP.rgC 60 rfl rfl (ldB (v := .agg _) rfl rfl rfl rfl ti68 rfl rfl (bu (cs := [.sc (.int .i64 1040478), .sc (.int .i64 1040478), .sc (.bool false)]) rfl bt33 rfl (bu (cs := [.sc (.int .i64 183290), .sc (.int .i64 183290), .sc (.bool false)]) rfl bt33 rfl (bu (cs := [.sc (.int .i64 0), .sc (.int .i64 0), .sc (.bool false)]) rfl bt33 rfl (buA (cs := [.sc (.int .i64 1040478), .sc (.int .i64 1040478), .sc (.bool false), .sc (.int .i64 183290), .sc (.int .i64 183290), .sc (.bool false), .sc (.int .i64 0), .sc (.int .i64 0), .sc (.bool false)]) rfl ti68 rfl ti33 rfl rfl ?_))))))))))
 refine es (cs := [.sc (.int .i64 r3.1.Lo), .sc (.int .i64 r3.1.Hi), .sc (.bool r3.1.Unknown), .sc (.int .i64 r3.2.1.Lo), .sc (.int .i64 r3.2.1.Hi), .sc (.bool r3.2.1.Unknown), .sc (.int .i64 r3.2.2.Lo), .sc (.int .i64 r3.2.2.Hi), .sc (.bool r3.2.2.Unknown)]) (ds := [.sc (.int .i64 1040478), .sc (.int .i64 1040478), .sc (.bool false), .sc (.int .i64 183290), .sc (.int .i64 183290), .sc (.bool false), .sc (.int .i64 0), .sc (.int .i64 0), .sc (.bool false)]) rfl rfl rfl qa68 qg68 (qe68 _ _ _ _ _ _ _ _ _ _ _ _ _ _ _ _ _ _) ?_
 refine pS rfl rfl (fun _ => rfl) (RunC.fin (AWP.ret ?_))
 have hR := Option.some.inj hR; subst hR
 exact hQ _ _ (LS.mk [(0, .sc (.bool (((r3.1.Lo == 1040478) && ((r3.1.Hi == 1040478) && ((r3.1.Unknown == false) && (true)))) && (((r3.2.1.Lo == 183290) && ((r3.2.1.Hi == 183290) && ((r3.2.1.Unknown == false) && (true)))) && (((r3.2.2.Lo == 0) && ((r3.2.2.Hi == 0) && ((r3.2.2.Unknown == false) && (true)))) && (true))))))] (lblks 0 []) 0) (.sc (.bool (((r3.1.Lo == 1040478) && ((r3.1.Hi == 1040478) && ((r3.1.Unknown == false) && (true)))) && (((r3.2.1.Lo == 183290) && ((r3.2.1.Hi == 183290) && ((r3.2.1.Unknown == false) && (true)))) && (((r3.2.2.Lo == 0) && ((r3.2.2.Hi == 0) && ((r3.2.2.Unknown == false) && (true)))) && (true)))))) [] (.inr rfl) (Weak.turnL [] [] rfl rfl (tc (.sc _) tn) mn) (ro1 (rvT (v := .sc (.bool (((r3.1.Lo == 1040478) && ((r3.1.Hi == 1040478) && ((r3.1.Unknown == false) && (true)))) && (((r3.2.1.Lo == 183290) && ((r3.2.1.Hi == 183290) && ((r3.2.1.Unknown == false) && (true)))) && (((r3.2.2.Lo == 0) && ((r3.2.2.Hi == 0) && ((r3.2.2.Unknown == false) && (true)))) && (true)))))) rfl)) rfl rfl (.sc _) pn
theorem ok21 (b : Body) (r : Bool) (hR : sky_moves b = some r) : FnP Try.prog 21 [aggV false b] (.sc (.bool r)) := by
 refine fnP_of (FnX.walk Try.func21 rfl 11 0 (by simp [Try.ntmps21]) rfl fun W S F Q hQ => ?_)
 unfold sky_moves at hR
 refine AWP.sq (AWP.rgC 8 rfl rfl (bx (cs := _) 0 rfl rfl rfl (pS rfl rfl (fun _ => rfl) (RunC.fin (AWP.joinX (fun z1 : Bool => LS.mk [(2, .sc (.bool z1))] (lblks 0 []) 0) hR (fun o1 hR => ?_) fun z1 hR => ?_)))))
 ·refine AWP.rgC 44 rfl rfl (fa rfl rfl ti49 rfl rfl ti30 rfl (ldB (v := .agg _) rfl rfl rfl rfl ti30 rfl rfl ?_))
  obtain ⟨r2, hr2, hR⟩ := bindE hR
  refine cls [] rfl rfl cb36 (ok36 b.Was 4194304 _ hr2) (.cons (.agg .z3 rfl) (.cons (.sc _) .nil)) (.inr rfl) rfl (pS rfl rfl (fun _ => rfl) (brR hR (fun h3 hR => ?_) fun h3 hR => ?_))
  ·refine fa (wtG rfl rfl rfl h3) rfl ti49 rfl rfl ti30 rfl (ldB (v := .agg _) (wtG rfl rfl rfl h3) rfl rfl rfl ti30 rfl rfl ?_)
   obtain ⟨r4, hr4, hR⟩ := bindE hR
   refine cls [] (wtG rfl rfl rfl h3) rfl cb36 (ok36 b.Here 4194304 _ hr4) (.cons (.agg .z3 rfl) (.cons (.sc _) .nil)) (.inr rfl) rfl (pkT (v := .sc (.bool r4)) rfl rfl h3 rfl (pS rfl rfl (fun _ => rfl) (RunC.fin ?_)))
   have hR := Option.some.inj hR; subst hR
   exact Weak.turnL [] [] rfl rfl (tc (.sc _) tn) mn
  ·refine sk (skW rfl rfl rfl h3) (sk (skW rfl rfl rfl h3) (sk (skW rfl rfl rfl h3) (pkF (v := .sc (.bool false)) rfl rfl h3 rfl (pS rfl rfl (fun _ => rfl) (RunC.fin ?_)))))
   have hR := Option.some.inj hR; subst hR
   exact Weak.turnL [] [] rfl rfl (tc (.sc _) tn) mn
 ·refine AWP.ret ?_
  have hR := Option.some.inj hR; subst hR
  exact hQ _ _ (LS.mk [(2, .sc (.bool z1))] (lblks 0 []) 0) (.sc (.bool z1)) [] (.inr rfl) (Weak.turnL [] [] rfl rfl (tc (.sc _) tn) mn) (ro1 (rvT (v := .sc (.bool z1)) rfl)) rfl rfl (.sc _) pn
theorem ok9 (b : Body) (day : Int) (r : Vec × Vec × Int) (hR : sky_Path b day = some r) : FnP Try.prog 9 [aggV false b, .sc (.int .i64 day)] (.tup [aggV (α := Vec) true r.1, aggV (α := Vec) true r.2.1, .sc (.int .i64 r.2.2)]) := by
 refine fnP_of (FnX.walk Try.func9 rfl 73 0 (by simp [Try.ntmps9]) rfl fun W S F Q hQ => ?_)
 unfold sky_Path at hR
 refine AWP.sq (AWP.rgC 16 rfl rfl (bx (cs := _) 0 rfl rfl rfl (al (cs := [.sc (.int .i64 0), .sc (.int .i64 0), .sc (.int .i64 0)]) 4 rfl rfl ti30 rfl rfl (al (cs := [.sc (.int .i64 0), .sc (.int .i64 0), .sc (.int .i64 0)]) 8 rfl rfl ti30 rfl rfl (pS rfl rfl (fun _ => rfl) (RunC.fin (AWP.sq (AWP.joinX (fun z1 : Bool => LS.mk [(1, .sc (.int .i64 day)), (2, .ptr 0 0 0), (4, .ptr 1 0 0), (5, .ptr 2 0 0), (6, .sc (.int .i64 0)), (23, .sc (.bool z1))] (lblks 0 [boxB (α := Body) true b, boxB (α := Vec) true (Vec.mk 0 0 0), boxB (α := Vec) true (Vec.mk 0 0 0)]) 3) hR (fun o1 hR => ?_) fun z1 hR => ?_))))))))
 ·refine AWP.rgC 60 rfl rfl (pS rfl rfl (fun _ => rfl) (pS rfl rfl (fun _ => rfl) (pS rfl rfl (fun _ => rfl) (brR hR (fun h2 hR => ?_) fun h2 hR => ?_))))
  ·refine sk (skW rfl rfl rfl h2) (sk (skW rfl rfl rfl h2) (pkT (v := .sc (.bool true)) rfl rfl h2 rfl (pS rfl rfl (fun _ => rfl) (sk (skW rfl rfl rfl rfl) (sk (skW rfl rfl rfl rfl) (sk (skW rfl rfl rfl rfl) (pkT (v := .sc (.bool true)) rfl rfl rfl rfl (RunC.fin ?_))))))))
   have hR := Option.some.inj hR; subst hR
   exact Weak.turnL [(0, 0), (4, 0), (8, 0)] [] rfl rfl (tc (.sc _) (tc (trP' rfl rfl rfl rfl) (tc (trP' rfl rfl rfl rfl) (tc (trP' rfl rfl rfl rfl) (tc (.sc _) (tc (.sc _) tn)))))) (mc rfl (.box rfl (.c3 (.c3 .z2)) rfl) (mc rfl (.box rfl .z3 rfl) (mc rfl (.box rfl .z3 rfl) mn)))
  ·refine pu (v := .sc _) (wtG rfl rfl rfl h2) rfl (fun _ => rfl) (pu (v := .sc _) (wtG rfl rfl rfl h2) rfl (fun _ => rfl) (pkF (v := .sc (.bool (decide (day > 400)))) rfl rfl h2 rfl (pS rfl rfl (fun _ => rfl) (brR hR (fun h3 hR => ?_) fun h3 hR => ?_))))
   ·refine sk (skW rfl rfl rfl h3) (sk (skW rfl rfl rfl h3) (sk (skW rfl rfl rfl h3) (pkT (v := .sc (.bool true)) rfl rfl h3 rfl (RunC.fin ?_))))
    have hR := Option.some.inj hR; subst hR
    exact Weak.turnL [(0, 0), (4, 0), (8, 0)] [] rfl rfl (tc (.sc _) (tc (trP' rfl rfl rfl rfl) (tc (trP' rfl rfl rfl rfl) (tc (trP' rfl rfl rfl rfl) (tc (.sc _) (tc (.sc _) tn)))))) (mc rfl (.box rfl (.c3 (.c3 .z2)) rfl) (mc rfl (.box rfl .z3 rfl) (mc rfl (.box rfl .z3 rfl) mn)))
   ·refine ldB (v := .agg _) (wtG rfl rfl rfl h3) rfl rfl rfl ti49 rfl rfl ?_
    obtain ⟨r4, hr4, hR⟩ := bindE hR
    refine cls [] (wtG rfl rfl rfl h3) rfl cb21 (ok21 b _ hr4) (.cons (.agg (.c3 (.c3 .z2)) rfl) (.nil)) (.inr rfl) rfl (pu (v := .sc _) (wtG rfl rfl rfl h3) rfl (fun _ => rfl) (pkF (v := .sc (.bool (!r4))) rfl rfl h3 rfl (RunC.fin ?_)))
    have hR := Option.some.inj hR; subst hR
    exact Weak.turnL [(0, 0), (4, 0), (8, 0)] [] rfl rfl (tc (.sc _) (tc (trP' rfl rfl rfl rfl) (tc (trP' rfl rfl rfl rfl) (tc (trP' rfl rfl rfl rfl) (tc (.sc _) (tc (.sc _) tn)))))) (mc rfl (.box rfl (.c3 (.c3 .z2)) rfl) (mc rfl (.box rfl .z3 rfl) (mc rfl (.box rfl .z3 rfl) mn)))
 ·refine AWP.cd hR rfl (fun h5 hR => ?_) fun h5 hR => ?_
  ·refine AWP.sq (AWP.rgC 23 rfl rfl (bu (cs := [.sc (.int .i64 0), .sc (.int .i64 0), .sc (.int .i64 0)]) rfl bt30 rfl (bu (cs := [.sc (.int .i64 0), .sc (.int .i64 0), .sc (.int .i64 0)]) rfl bt30 rfl (stB (cs' := [.sc (.int .i64 0), .sc (.int .i64 0), .sc (.int .i64 0)]) rfl rfl rfl rfl ti30 rfl rfl rfl rfl rfl (stB (cs' := [.sc (.int .i64 0), .sc (.int .i64 0), .sc (.int .i64 0)]) rfl rfl rfl rfl ti30 rfl rfl rfl rfl rfl (pS rfl rfl (fun _ => rfl) (RunC.fin (AWP.ret (rtT ?_)))))))))
   have hR := Option.some.inj hR; subst hR
   exact hQ _ _ (LS.mk [(4, .ptr 0 0 0), (5, .ptr 1 0 0), (6, .sc (.int .i64 4))] (lblks 0 [boxB (α := Vec) true (Vec.mk 0 0 0), boxB (α := Vec) true (Vec.mk 0 0 0)]) 2) (.tup [aggV (α := Vec) true (Vec.mk 0 0 0), aggV (α := Vec) true (Vec.mk 0 0 0), .sc (.int .i64 4)]) [] (.inr rfl) (Weak.turnL [(1, 0), (2, 0)] [] rfl rfl (tc (trP' rfl rfl rfl rfl) (tc (trP' rfl rfl rfl rfl) (tc (.sc _) tn))) (mc rfl (.box rfl .z3 rfl) (mc rfl (.box rfl .z3 rfl) mn))) (ro3 (rvC (v := aggV (α := Vec) true (Vec.mk 0 0 0)) rfl rfl ti30 rfl) (rvC (v := aggV (α := Vec) true (Vec.mk 0 0 0)) rfl rfl ti30 rfl) (rvT (v := .sc (.int .i64 4)) rfl)) rfl rfl (.tup (.cons ldA (.cons ldA (.cons (.sc _) .nil)))) pn
  ·refine AWP.skip (skT (AWP.sq (AWP.rgD 27 [0, 1, 0, 4, 3, 31] ⟨[], [none, some [0], none, some [0], some [1], some [2]]⟩ hmix (by kernel_rfl) rfl rfl ?_)))
   refine fa rfl rfl ti49 rfl rfl ti30 rfl (ldB (v := .agg _) rfl rfl rfl rfl ti30 rfl rfl (fa rfl rfl ti49 rfl rfl ti30 rfl (ldB (v := .agg _) rfl rfl rfl rfl ti30 rfl rfl (stB (cs' := [.sc (.int .i64 b.Was.X), .sc (.int .i64 b.Was.Y), .sc (.int .i64 b.Was.Z)]) rfl rfl rfl rfl ti30 rfl rfl rfl rfl rfl (stB (cs' := [.sc (.int .i64 b.Here.X), .sc (.int .i64 b.Here.Y), .sc (.int .i64 b.Here.Z)]) rfl rfl rfl rfl ti30 rfl rfl rfl rfl rfl (RunC.fin (AWP.sq (AWP.sq (AWP.rgC 35 rfl rfl (pS rfl rfl (fun _ => rfl) (pS rfl rfl (fun _ => rfl) (RunC.fin (AWP.loopJ (fun s6 : Vec × Vec × Int × Int => LS.mk [(1, .sc (.int .i64 day)), (4, .ptr 0 0 0), (5, .ptr 1 0 0), (6, .sc (.int .i64 s6.2.2.1)), (7, .sc (.int .i64 s6.2.2.2))] (lblks 0 [boxB (α := Vec) true s6.1, boxB (α := Vec) true s6.2.1]) 2) (fun z7 : Vec × Vec × Int => LS.mk [(1, .sc (.int .i64 day)), (4, .ptr 0 0 0), (5, .ptr 1 0 0), (6, .sc (.int .i64 z7.2.2))] (lblks 0 [boxB (α := Vec) true z7.1, boxB (α := Vec) true z7.2.1]) 2) sky_Path.l1 hR (s0 := (b.Was, b.Here, 0, day)) (Weak.turnL [(1, 0), (2, 0)] [] rfl rfl (tc (.sc _) (tc (trP' rfl rfl rfl rfl) (tc (trP' rfl rfl rfl rfl) (tc (.sc _) (tc (.sc _) tn))))) (mc rfl (.box rfl .z3 rfl) (mc rfl (.box rfl .z3 rfl) mn))) (fun s6 o6 hR => ?_) fun z7 hR => ?_)))))))))))))
   ·unfold sky_Path.l1 at hR
    refine AWP.sq (AWP.joinX (fun z8 : Bool => LS.mk [(1, .sc (.int .i64 day)), (4, .ptr 0 0 0), (5, .ptr 1 0 0), (6, .sc (.int .i64 s6.2.2.1)), (7, .sc (.int .i64 s6.2.2.2)), (36, .sc (.bool z8))] (lblks 0 [boxB (α := Vec) true s6.1, boxB (α := Vec) true s6.2.1]) 2) hR (fun o8 hR => ?_) fun z8 hR => ?_)
    ·refine AWP.rgC 26 rfl rfl (pS rfl rfl (fun _ => rfl) (pS rfl rfl (fun _ => rfl) (pS rfl rfl (fun _ => rfl) (brR hR (fun h9 hR => ?_) fun h9 hR => ?_))))
     ·refine pu (v := .sc _) (wtG rfl rfl rfl h9) rfl (fun _ => rfl) (pu (v := .sc _) (wtG rfl rfl rfl h9) rfl (fun _ => rfl) (pkT (v := .sc (.bool (s6.2.2.1 == 0))) rfl rfl h9 rfl (RunC.fin ?_)))
      have hR := Option.some.inj hR; subst hR
      exact Weak.turnL [(0, 0), (1, 0)] [] rfl rfl (tc (.sc _) (tc (trP' rfl rfl rfl rfl) (tc (trP' rfl rfl rfl rfl) (tc (.sc _) (tc (.sc _) (tc (.sc _) tn)))))) (mc rfl (.box rfl .z3 rfl) (mc rfl (.box rfl .z3 rfl) mn))
     ·refine sk (skW rfl rfl rfl h9) (sk (skW rfl rfl rfl h9) (pkF (v := .sc (.bool false)) rfl rfl h9 rfl (RunC.fin ?_)))
      have hR := Option.some.inj hR; subst hR
      exact Weak.turnL [(0, 0), (1, 0)] [] rfl rfl (tc (.sc _) (tc (trP' rfl rfl rfl rfl) (tc (trP' rfl rfl rfl rfl) (tc (.sc _) (tc (.sc _) (tc (.sc _) tn)))))) (mc rfl (.box rfl .z3 rfl) (mc rfl (.box rfl .z3 rfl) mn))
    ·refine AWP.cd hR rfl (fun h10 hR => ?_) fun h10 hR => ?_
     ·refine AWP.skip (skT (AWP.sq (AWP.block (AWP.sq (AWP.rgC 38 rfl rfl (ldB (v := .agg _) rfl rfl rfl rfl ti30 rfl rfl (ldB (v := .agg _) rfl rfl rfl rfl ti30 rfl rfl ?_)))))))
      obtain ⟨r11, hr11, hR⟩ := bindE hR
      refine cls [] rfl rfl cb16 (ok16 s6.1 s6.2.1 _ hr11) (.cons (.agg .z3 rfl) (.cons (.agg .z3 rfl) (.nil))) (.inr rfl) rfl (pu (v := .tup _) rfl rfl (fun _ => rfl) (pu (v := .agg _) rfl rfl (fun _ => rfl) (pS rfl rfl (fun _ => rfl) (al (cs := [.sc (.int .i64 0), .sc (.int .i64 0), .sc (.int .i64 0)]) 26 rfl rfl ti30 rfl rfl (stB (cs' := [.sc (.int .i64 r11.1.X), .sc (.int .i64 r11.1.Y), .sc (.int .i64 r11.1.Z)]) rfl rfl rfl rfl ti30 rfl rfl rfl rfl rfl (pS rfl rfl (fun _ => rfl) (RunC.fin (AWP.rgD 62 [0, 0, 0, 1, 11, 31] ⟨[], [some [1], some [26], none, some [0], some [1], none]⟩ hmix (by kernel_rfl) rfl rfl ?_))))))))
      refine ldB (v := .agg _) rfl rfl rfl rfl ti30 rfl rfl (ldB (v := .agg _) rfl rfl rfl rfl ti30 rfl rfl (pS rfl rfl (fun _ => rfl) (stB (cs' := [.sc (.int .i64 s6.2.1.X), .sc (.int .i64 s6.2.1.Y), .sc (.int .i64 s6.2.1.Z)]) rfl rfl rfl rfl ti30 rfl rfl rfl rfl rfl (stB (cs' := [.sc (.int .i64 r11.1.X), .sc (.int .i64 r11.1.Y), .sc (.int .i64 r11.1.Z)]) rfl rfl rfl rfl ti30 rfl rfl rfl rfl rfl (pS rfl rfl (fun _ => rfl) (RunC.blk (RunC.fin (AWP.rgC 74 rfl rfl (pS rfl rfl (fun _ => rfl) (pS rfl rfl (fun _ => rfl) (pS rfl rfl (fun _ => rfl) (RunC.fin (⟨(s6.2.1, r11.1, r11.2, w6 (s6.2.2.2 - 1)), (Option.some.inj hR).symm, ?_⟩)))))))))))))
      exact Weak.turnL [(0, 0), (1, 0)] [] rfl rfl (tc (.sc _) (tc (trP' rfl rfl rfl rfl) (tc (trP' rfl rfl rfl rfl) (tc (.sc _) (tc (.sc _) tn))))) (mc rfl (.box rfl .z3 rfl) (mc rfl (.box rfl .z3 rfl) mn))
     ·refine AWP.exit (exT (exT (exH (skT (⟨(s6.1, s6.2.1, s6.2.2.1), (Option.some.inj hR).symm, ?_⟩)))))
      exact Weak.turnL [(0, 0), (1, 0)] [] rfl rfl (tc (.sc _) (tc (trP' rfl rfl rfl rfl) (tc (trP' rfl rfl rfl rfl) (tc (.sc _) tn)))) (mc rfl (.box rfl .z3 rfl) (mc rfl (.box rfl .z3 rfl) mn))
   ·refine skT (AWP.sq (AWP.sq (AWP.rgC 10 rfl rfl (pS rfl rfl (fun _ => rfl) (pS rfl rfl (fun _ => rfl) (RunC.fin (AWP.loopJ (fun s12 : Vec × Vec × Int × Int => LS.mk [(4, .ptr 0 0 0), (5, .ptr 1 0 0), (6, .sc (.int .i64 s12.2.2.1)), (10, .sc (.int .i64 s12.2.2.2))] (lblks 0 [boxB (α := Vec) true s12.1, boxB (α := Vec) true s12.2.1]) 2) (fun z13 : Vec × Vec × Int => LS.mk [(4, .ptr 0 0 0), (5, .ptr 1 0 0), (6, .sc (.int .i64 z13.2.2))] (lblks 0 [boxB (α := Vec) true z13.1, boxB (α := Vec) true z13.2.1]) 2) sky_Path.l2 hR (s0 := (z7.1, z7.2.1, z7.2.2, day)) (Weak.turnL [(0, 0), (1, 0)] [] rfl rfl (tc (trP' rfl rfl rfl rfl) (tc (trP' rfl rfl rfl rfl) (tc (.sc _) (tc (.sc _) tn)))) (mc rfl (.box rfl .z3 rfl) (mc rfl (.box rfl .z3 rfl) mn))) (fun s12 o12 hR => ?_) fun z13 hR => ?_)))))))
    ·unfold sky_Path.l2 at hR
     refine AWP.sq (AWP.joinX (fun z14 : Bool => LS.mk [(4, .ptr 0 0 0), (5, .ptr 1 0 0), (6, .sc (.int .i64 s12.2.2.1)), (10, .sc (.int .i64 s12.2.2.2)), (54, .sc (.bool z14))] (lblks 0 [boxB (α := Vec) true s12.1, boxB (α := Vec) true s12.2.1]) 2) hR (fun o14 hR => ?_) fun z14 hR => ?_)
     ·refine AWP.rgC 26 rfl rfl (pS rfl rfl (fun _ => rfl) (pS rfl rfl (fun _ => rfl) (pS rfl rfl (fun _ => rfl) (brR hR (fun h15 hR => ?_) fun h15 hR => ?_))))
      ·refine pu (v := .sc _) (wtG rfl rfl rfl h15) rfl (fun _ => rfl) (pu (v := .sc _) (wtG rfl rfl rfl h15) rfl (fun _ => rfl) (pkT (v := .sc (.bool (s12.2.2.1 == 0))) rfl rfl h15 rfl (RunC.fin ?_)))
       have hR := Option.some.inj hR; subst hR
       exact Weak.turnL [(0, 0), (1, 0)] [] rfl rfl (tc (trP' rfl rfl rfl rfl) (tc (trP' rfl rfl rfl rfl) (tc (.sc _) (tc (.sc _) (tc (.sc _) tn))))) (mc rfl (.box rfl .z3 rfl) (mc rfl (.box rfl .z3 rfl) mn))
      ·refine sk (skW rfl rfl rfl h15) (sk (skW rfl rfl rfl h15) (pkF (v := .sc (.bool false)) rfl rfl h15 rfl (RunC.fin ?_)))
       have hR := Option.some.inj hR; subst hR
       exact Weak.turnL [(0, 0), (1, 0)] [] rfl rfl (tc (trP' rfl rfl rfl rfl) (tc (trP' rfl rfl rfl rfl) (tc (.sc _) (tc (.sc _) (tc (.sc _) tn))))) (mc rfl (.box rfl .z3 rfl) (mc rfl (.box rfl .z3 rfl) mn))
     ·refine AWP.cd hR rfl (fun h16 hR => ?_) fun h16 hR => ?_
      ·refine AWP.skip (skT (AWP.sq (AWP.block (AWP.sq (AWP.rgC 38 rfl rfl (ldB (v := .agg _) rfl rfl rfl rfl ti30 rfl rfl (ldB (v := .agg _) rfl rfl rfl rfl ti30 rfl rfl ?_)))))))
       obtain ⟨r17, hr17, hR⟩ := bindE hR
       refine cls [] rfl rfl cb16 (ok16 s12.2.1 s12.1 _ hr17) (.cons (.agg .z3 rfl) (.cons (.agg .z3 rfl) (.nil))) (.inr rfl) rfl (pu (v := .tup _) rfl rfl (fun _ => rfl) (pu (v := .agg _) rfl rfl (fun _ => rfl) (pS rfl rfl (fun _ => rfl) (al (cs := [.sc (.int .i64 0), .sc (.int .i64 0), .sc (.int .i64 0)]) 26 rfl rfl ti30 rfl rfl (stB (cs' := [.sc (.int .i64 r17.1.X), .sc (.int .i64 r17.1.Y), .sc (.int .i64 r17.1.Z)]) rfl rfl rfl rfl ti30 rfl rfl rfl rfl rfl (pS rfl rfl (fun _ => rfl) (RunC.fin (AWP.rgC 62 rfl rfl (ldB (v := .agg _) rfl rfl rfl rfl ti30 rfl rfl (ldB (v := .agg _) rfl rfl rfl rfl ti30 rfl rfl (pS rfl rfl (fun _ => rfl) (stB (cs' := [.sc (.int .i64 r17.1.X), .sc (.int .i64 r17.1.Y), .sc (.int .i64 r17.1.Z)]) rfl rfl rfl rfl ti30 rfl rfl rfl rfl rfl (stB (cs' := [.sc (.int .i64 s12.1.X), .sc (.int .i64 s12.1.Y), .sc (.int .i64 s12.1.Z)]) rfl rfl rfl rfl ti30 rfl rfl rfl rfl rfl (pS rfl rfl (fun _ => rfl) (RunC.blk (RunC.fin ?_))))))))))))))))
       refine AWP.rgC 74 rfl rfl (pS rfl rfl (fun _ => rfl) (pS rfl rfl (fun _ => rfl) (pS rfl rfl (fun _ => rfl) (RunC.fin (⟨(r17.1, s12.1, r17.2, w6 (s12.2.2.2 + 1)), (Option.some.inj hR).symm, ?_⟩)))))
       exact Weak.turnL [(0, 0), (1, 0)] [] rfl rfl (tc (trP' rfl rfl rfl rfl) (tc (trP' rfl rfl rfl rfl) (tc (.sc _) (tc (.sc _) tn)))) (mc rfl (.box rfl .z3 rfl) (mc rfl (.box rfl .z3 rfl) mn))
      ·refine AWP.exit (exT (exT (exH (skT (⟨(s12.1, s12.2.1, s12.2.2.1), (Option.some.inj hR).symm, ?_⟩)))))
       exact Weak.turnL [(0, 0), (1, 0)] [] rfl rfl (tc (trP' rfl rfl rfl rfl) (tc (trP' rfl rfl rfl rfl) (tc (.sc _) tn))) (mc rfl (.box rfl .z3 rfl) (mc rfl (.box rfl .z3 rfl) mn))
    ·refine skT (AWP.sq (AWP.sq (AWP.rgC 10 rfl rfl (pS rfl rfl (fun _ => rfl) (pS rfl rfl (fun _ => rfl) (RunC.fin (AWP.cd hR rfl (fun h18 hR => ?_) fun h18 hR => ?_)))))))
     ·refine AWP.sq (AWP.rgC 34 rfl rfl (bu (cs := [.sc (.int .i64 0), .sc (.int .i64 0), .sc (.int .i64 0)]) rfl bt30 rfl (bu (cs := [.sc (.int .i64 0), .sc (.int .i64 0), .sc (.int .i64 0)]) rfl bt30 rfl (pS rfl rfl (fun _ => rfl) (stB (cs' := [.sc (.int .i64 0), .sc (.int .i64 0), .sc (.int .i64 0)]) rfl rfl rfl rfl ti30 rfl rfl rfl rfl rfl (stB (cs' := [.sc (.int .i64 0), .sc (.int .i64 0), .sc (.int .i64 0)]) rfl rfl rfl rfl ti30 rfl rfl rfl rfl rfl (pS rfl rfl (fun _ => rfl) (RunC.fin (AWP.ret (rtT ?_))))))))))
      have hR := Option.some.inj hR; subst hR
      exact hQ _ _ (LS.mk [(4, .ptr 0 0 0), (5, .ptr 1 0 0), (6, .sc (.int .i64 z13.2.2))] (lblks 0 [boxB (α := Vec) true (Vec.mk 0 0 0), boxB (α := Vec) true (Vec.mk 0 0 0)]) 2) (.tup [aggV (α := Vec) true (Vec.mk 0 0 0), aggV (α := Vec) true (Vec.mk 0 0 0), .sc (.int .i64 z13.2.2)]) [] (.inr rfl) (Weak.turnL [(0, 0), (1, 0)] [] rfl rfl (tc (trP' rfl rfl rfl rfl) (tc (trP' rfl rfl rfl rfl) (tc (.sc _) tn))) (mc rfl (.box rfl .z3 rfl) (mc rfl (.box rfl .z3 rfl) mn))) (ro3 (rvC (v := aggV (α := Vec) true (Vec.mk 0 0 0)) rfl rfl ti30 rfl) (rvC (v := aggV (α := Vec) true (Vec.mk 0 0 0)) rfl rfl ti30 rfl) (rvT (v := .sc (.int .i64 z13.2.2)) rfl)) rfl rfl (.tup (.cons ldA (.cons ldA (.cons (.sc _) .nil)))) pn
     ·refine AWP.skip (skT (AWP.sq (AWP.rgD 30 [0, 0, 1, 7, 15] ⟨[], [some [0], some [1], some [0], some [1], none]⟩ hmix (by kernel_rfl) rfl rfl ?_)))
      refine ldB (v := .agg _) rfl rfl rfl rfl ti30 rfl rfl (ldB (v := .agg _) rfl rfl rfl rfl ti30 rfl rfl (stB (cs' := [.sc (.int .i64 z13.1.X), .sc (.int .i64 z13.1.Y), .sc (.int .i64 z13.1.Z)]) rfl rfl rfl rfl ti30 rfl rfl rfl rfl rfl (stB (cs' := [.sc (.int .i64 z13.2.1.X), .sc (.int .i64 z13.2.1.Y), .sc (.int .i64 z13.2.1.Z)]) rfl rfl rfl rfl ti30 rfl rfl rfl rfl rfl (pS rfl rfl (fun _ => rfl) (RunC.fin (AWP.ret ?_))))))
      have hR := Option.some.inj hR; subst hR
      exact hQ _ _ (LS.mk [(4, .ptr 0 0 0), (5, .ptr 1 0 0), (6, .sc (.int .i64 0))] (lblks 0 [boxB (α := Vec) true z13.1, boxB (α := Vec) true z13.2.1]) 2) (.tup [aggV (α := Vec) true z13.1, aggV (α := Vec) true z13.2.1, .sc (.int .i64 0)]) [] (.inr rfl) (Weak.turnL [(0, 0), (1, 0)] [] rfl rfl (tc (trP' rfl rfl rfl rfl) (tc (trP' rfl rfl rfl rfl) (tc (.sc _) tn))) (mc rfl (.box rfl .z3 rfl) (mc rfl (.box rfl .z3 rfl) mn))) (ro3 (rvC (v := aggV (α := Vec) true z13.1) rfl rfl ti30 rfl) (rvC (v := aggV (α := Vec) true z13.2.1) rfl rfl ti30 rfl) (rvT (v := .sc (.int .i64 0)) rfl)) rfl rfl (.tup (.cons ldA (.cons ldA (.cons (.sc _) .nil)))) pn
theorem ok10 (v : Vec) (r : Int) (hR : spykeep4_square v = some r) : FnP Try.prog 10 [aggV false v] (.sc (.int .i64 r)) := by
 refine fnP_of (FnX.walk Try.func10 rfl 20 0 (by simp [Try.ntmps10]) rfl fun W S F Q hQ => ?_)
 unfold spykeep4_square at hR
 refine AWP.sq (AWP.rgC 8 rfl rfl (bx (cs := _) 0 rfl rfl rfl (pS rfl rfl (fun _ => rfl) (RunC.fin (AWP.sq (AWP.rgC 80 rfl rfl (fa rfl rfl ti30 rfl rfl ti2 rfl (ldB (v := .sc _) rfl rfl rfl rfl ti2 rfl rfl (fa rfl rfl ti30 rfl rfl ti2 rfl (ldB (v := .sc _) rfl rfl rfl rfl ti2 rfl rfl (pS rfl rfl (fun _ => rfl) (fa rfl rfl ti30 rfl rfl ti2 rfl (ldB (v := .sc _) rfl rfl rfl rfl ti2 rfl rfl (fa rfl rfl ti30 rfl rfl ti2 rfl (ldB (v := .sc _) rfl rfl rfl rfl ti2 rfl rfl (pS rfl rfl (fun _ => rfl) ?_))))))))))))))))
 refine pS rfl rfl (fun _ => rfl) (fa rfl rfl ti30 rfl rfl ti2 rfl (ldB (v := .sc _) rfl rfl rfl rfl ti2 rfl rfl (fa rfl rfl ti30 rfl rfl ti2 rfl (ldB (v := .sc _) rfl rfl rfl rfl ti2 rfl rfl (pS rfl rfl (fun _ => rfl) ?_)))))
 obtain ⟨v1, ev1, hR⟩ := letE hR
 refine pS rfl rfl (fun _ => puI ev1) (pS rfl rfl (fun _ => rfl) (RunC.fin (AWP.ret ?_)))
 have hR := Option.some.inj hR; subst hR
 exact hQ _ _ (LS.mk [(2, .sc (.int .i64 v1))] (lblks 0 []) 0) (.sc (.int .i64 v1)) [] (.inr rfl) (Weak.turnL [] [] rfl rfl (tc (.sc _) tn) mn) (ro1 (rvT (v := .sc (.int .i64 v1)) rfl)) rfl rfl (.sc _) pn
theorem ok92 (b : Bound) (r : Int) (hR : bound_Check b = some r) : FnP Try.prog 92 [aggV false b] (.sc (.int .i64 r)) := by
 refine fnP_of (FnX.walk Try.func92 rfl 37 0 (by simp [Try.ntmps92]) rfl fun W S F Q hQ => ?_)
 unfold bound_Check at hR
 refine AWP.sq (AWP.rgC 8 rfl rfl (bx (cs := _) 0 rfl rfl rfl (pS rfl rfl (fun _ => rfl) (RunC.fin (AWP.sq (AWP.block (AWP.joinX (fun z1 : Bool => LS.mk [(1, .ptr 0 0 0), (3, .sc (.bool z1))] (lblks 0 [boxB (α := Bound) true b]) 1) hR (fun o1 hR => ?_) fun z1 hR => ?_)))))))
 ·refine AWP.rgC 60 rfl rfl (fa rfl rfl ti28 rfl rfl ti4 rfl (ldB (v := .sc _) rfl rfl rfl rfl ti4 rfl rfl (pS rfl rfl (fun _ => rfl) (brR hR (fun h2 hR => ?_) fun h2 hR => ?_))))
  ·refine fa (wtG rfl rfl rfl h2) rfl ti28 rfl rfl ti26 rfl (ldB (v := .sc _) (wtG rfl rfl rfl h2) rfl rfl rfl ti26 rfl rfl (pu (v := .sc _) (wtG rfl rfl rfl h2) rfl (fun _ => rfl) (pu (v := .sc _) (wtG rfl rfl rfl h2) rfl (fun _ => rfl) (brR hR (fun h3 hR => ?_) fun h3 hR => ?_))))
   ·refine sk (skW rfl rfl rfl h3) (sk (skW rfl rfl rfl h3) (sk (skW rfl rfl rfl h3) (pkT (v := .sc (.bool true)) (wtG rfl rfl rfl h2) rfl h3 rfl (pkT (v := .sc (.bool true)) rfl rfl h2 rfl (pS rfl rfl (fun _ => rfl) (RunC.fin ?_))))))
    have hR := Option.some.inj hR; subst hR
    exact Weak.turnL [(0, 0)] [] rfl rfl (tc (trP' rfl rfl rfl rfl) (tc (.sc _) tn)) (mc rfl (.box rfl .z3 rfl) mn)
   ·refine fa (wtG rfl rfl rfl h3) rfl ti28 rfl rfl ti26 rfl (ldB (v := .sc _) (wtG rfl rfl rfl h3) rfl rfl rfl ti26 rfl rfl (pu (v := .sc _) (wtG rfl rfl rfl h3) rfl (fun _ => rfl) (pkF (v := .sc (.bool (b.Hi != 0))) (wtG rfl rfl rfl h2) rfl h3 rfl (pkT (v := .sc (.bool (b.Hi != 0))) rfl rfl h2 rfl (pS rfl rfl (fun _ => rfl) (RunC.fin ?_))))))
    have hR := Option.some.inj hR; subst hR
    exact Weak.turnL [(0, 0)] [] rfl rfl (tc (trP' rfl rfl rfl rfl) (tc (.sc _) tn)) (mc rfl (.box rfl .z3 rfl) mn)
  ·refine sk (skW rfl rfl rfl h2) (sk (skW rfl rfl rfl h2) (sk (skW rfl rfl rfl h2) (sk (skW rfl rfl rfl h2) (sk (skW2 rfl rfl rfl) (sk (skW2 rfl rfl rfl) (sk (skW2 rfl rfl rfl) (sk (skW rfl rfl rfl h2) (pkF (v := .sc (.bool false)) rfl rfl h2 rfl (pS rfl rfl (fun _ => rfl) (RunC.fin ?_))))))))))
   have hR := Option.some.inj hR; subst hR
   exact Weak.turnL [(0, 0)] [] rfl rfl (tc (trP' rfl rfl rfl rfl) (tc (.sc _) tn)) (mc rfl (.box rfl .z3 rfl) mn)
 ·refine AWP.cd hR rfl (fun h4 hR => ?_) fun h4 hR => ?_
  ·refine AWP.sq (AWP.rgC 5 rfl rfl (pS rfl rfl (fun _ => rfl) (RunC.fin (AWP.ret (rtB (rtT ?_))))))
   have hR := Option.some.inj hR; subst hR
   exact hQ _ _ (LS.mk [(2, .sc (.int .i64 3))] (lblks 0 []) 0) (.sc (.int .i64 3)) [] (.inr rfl) (Weak.turnL [] [] rfl rfl (tc (.sc _) tn) mn) (ro1 (rvT (v := .sc (.int .i64 3)) rfl)) rfl rfl (.sc _) pn
  ·refine AWP.joinX (fun z5 : Bool => LS.mk [(1, .ptr 0 0 0), (16, .sc (.bool z5))] (lblks 0 [boxB (α := Bound) true b]) 1) hR (fun o5 hR => ?_) fun z5 hR => ?_
   ·refine AWP.rgC 61 rfl rfl (fa rfl rfl ti28 rfl rfl ti26 rfl (ldB (v := .sc _) rfl rfl rfl rfl ti26 rfl rfl (fa rfl rfl ti28 rfl rfl ti26 rfl (ldB (v := .sc _) rfl rfl rfl rfl ti26 rfl rfl (pS rfl rfl (fun _ => rfl) (pS rfl rfl (fun _ => rfl) (pS rfl rfl (fun _ => rfl) (brR hR (fun h6 hR => ?_) fun h6 hR => ?_))))))))
    ·refine sk (skW rfl rfl rfl h6) (sk (skW rfl rfl rfl h6) (sk (skW rfl rfl rfl h6) (sk (skW rfl rfl rfl h6) (sk (skW rfl rfl rfl h6) (sk (skW rfl rfl rfl h6) (pkT (v := .sc (.bool true)) rfl rfl h6 rfl (pS rfl rfl (fun _ => rfl) (RunC.fin ?_))))))))
     have hR := Option.some.inj hR; subst hR
     exact Weak.turnL [(0, 0)] [] rfl rfl (tc (trP' rfl rfl rfl rfl) (tc (.sc _) tn)) (mc rfl (.box rfl .z3 rfl) mn)
    ·refine fa (wtG rfl rfl rfl h6) rfl ti28 rfl rfl ti26 rfl (ldB (v := .sc _) (wtG rfl rfl rfl h6) rfl rfl rfl ti26 rfl rfl (fa (wtG rfl rfl rfl h6) rfl ti28 rfl rfl ti26 rfl (ldB (v := .sc _) (wtG rfl rfl rfl h6) rfl rfl rfl ti26 rfl rfl (pu (v := .sc _) (wtG rfl rfl rfl h6) rfl (fun _ => rfl) (pu (v := .sc _) (wtG rfl rfl rfl h6) rfl (fun _ => rfl) (pkF (v := .sc (.bool (decide ((mx2 b.Lo b.Hi) > 1152921504606846976)))) rfl rfl h6 rfl (pS rfl rfl (fun _ => rfl) (RunC.fin ?_))))))))
     have hR := Option.some.inj hR; subst hR
     exact Weak.turnL [(0, 0)] [] rfl rfl (tc (trP' rfl rfl rfl rfl) (tc (.sc _) tn)) (mc rfl (.box rfl .z3 rfl) mn)
   ·refine AWP.cd hR rfl (fun h7 hR => ?_) fun h7 hR => ?_
    ·refine AWP.sq (AWP.rgC 5 rfl rfl (pS rfl rfl (fun _ => rfl) (RunC.fin (AWP.ret (rtB (rtT ?_))))))
     have hR := Option.some.inj hR; subst hR
     exact hQ _ _ (LS.mk [(2, .sc (.int .i64 4))] (lblks 0 []) 0) (.sc (.int .i64 4)) [] (.inr rfl) (Weak.turnL [] [] rfl rfl (tc (.sc _) tn) mn) (ro1 (rvT (v := .sc (.int .i64 4)) rfl)) rfl rfl (.sc _) pn
    ·refine AWP.sq (AWP.rgC 25 rfl rfl (fa rfl rfl ti28 rfl rfl ti26 rfl (ldB (v := .sc _) rfl rfl rfl rfl ti26 rfl rfl (fa rfl rfl ti28 rfl rfl ti26 rfl (ldB (v := .sc _) rfl rfl rfl rfl ti26 rfl rfl (pS rfl rfl (fun _ => rfl) (pS rfl rfl (fun _ => rfl) (RunC.fin (AWP.cd hR rfl (fun h8 hR => ?_) fun h8 hR => ?_)))))))))
     ·refine AWP.sq (AWP.rgC 29 rfl rfl (pS rfl rfl (fun _ => rfl) (RunC.fin (AWP.ret (rtB (rtT ?_))))))
      have hR := Option.some.inj hR; subst hR
      exact hQ _ _ (LS.mk [(2, .sc (.int .i64 11))] (lblks 0 []) 0) (.sc (.int .i64 11)) [] (.inr rfl) (Weak.turnL [] [] rfl rfl (tc (.sc _) tn) mn) (ro1 (rvT (v := .sc (.int .i64 11)) rfl)) rfl rfl (.sc _) pn
     ·refine AWP.skip (skB ?_)
      refine skT (AWP.sq (AWP.rgC 29 rfl rfl (pS rfl rfl (fun _ => rfl) (RunC.fin (AWP.ret ?_)))))
      have hR := Option.some.inj hR; subst hR
      exact hQ _ _ (LS.mk [(2, .sc (.int .i64 0))] (lblks 0 []) 0) (.sc (.int .i64 0)) [] (.inr rfl) (Weak.turnL [] [] rfl rfl (tc (.sc _) tn) mn) (ro1 (rvT (v := .sc (.int .i64 0)) rfl)) rfl rfl (.sc _) pn
theorem ok93 (b : Bound) (r : Int) (hR : bound_Check b = some r) : FnP Try.prog 93 [aggV false b] (.sc (.int .i64 r)) := by
 refine fnP_of (FnX.walk Try.func93 rfl 37 0 (by simp [Try.ntmps93]) rfl fun W S F Q hQ => ?_)
 unfold bound_Check at hR
 refine AWP.sq (AWP.rgC 8 rfl rfl (bx (cs := _) 0 rfl rfl rfl (pS rfl rfl (fun _ => rfl) (RunC.fin (AWP.sq (AWP.block (AWP.joinX (fun z1 : Bool => LS.mk [(1, .ptr 0 0 0), (3, .sc (.bool z1))] (lblks 0 [boxB (α := Bound) true b]) 1) hR (fun o1 hR => ?_) fun z1 hR => ?_)))))))
 ·refine AWP.rgC 60 rfl rfl (fa rfl rfl ti38 rfl rfl ti4 rfl (ldB (v := .sc _) rfl rfl rfl rfl ti4 rfl rfl (pS rfl rfl (fun _ => rfl) (brR hR (fun h2 hR => ?_) fun h2 hR => ?_))))
  ·refine fa (wtG rfl rfl rfl h2) rfl ti38 rfl rfl ti36 rfl (ldB (v := .sc _) (wtG rfl rfl rfl h2) rfl rfl rfl ti36 rfl rfl (pu (v := .sc _) (wtG rfl rfl rfl h2) rfl (fun _ => rfl) (pu (v := .sc _) (wtG rfl rfl rfl h2) rfl (fun _ => rfl) (brR hR (fun h3 hR => ?_) fun h3 hR => ?_))))
   ·refine sk (skW rfl rfl rfl h3) (sk (skW rfl rfl rfl h3) (sk (skW rfl rfl rfl h3) (pkT (v := .sc (.bool true)) (wtG rfl rfl rfl h2) rfl h3 rfl (pkT (v := .sc (.bool true)) rfl rfl h2 rfl (pS rfl rfl (fun _ => rfl) (RunC.fin ?_))))))
    have hR := Option.some.inj hR; subst hR
    exact Weak.turnL [(0, 0)] [] rfl rfl (tc (trP' rfl rfl rfl rfl) (tc (.sc _) tn)) (mc rfl (.box rfl .z3 rfl) mn)
   ·refine fa (wtG rfl rfl rfl h3) rfl ti38 rfl rfl ti36 rfl (ldB (v := .sc _) (wtG rfl rfl rfl h3) rfl rfl rfl ti36 rfl rfl (pu (v := .sc _) (wtG rfl rfl rfl h3) rfl (fun _ => rfl) (pkF (v := .sc (.bool (b.Hi != 0))) (wtG rfl rfl rfl h2) rfl h3 rfl (pkT (v := .sc (.bool (b.Hi != 0))) rfl rfl h2 rfl (pS rfl rfl (fun _ => rfl) (RunC.fin ?_))))))
    have hR := Option.some.inj hR; subst hR
    exact Weak.turnL [(0, 0)] [] rfl rfl (tc (trP' rfl rfl rfl rfl) (tc (.sc _) tn)) (mc rfl (.box rfl .z3 rfl) mn)
  ·refine sk (skW rfl rfl rfl h2) (sk (skW rfl rfl rfl h2) (sk (skW rfl rfl rfl h2) (sk (skW rfl rfl rfl h2) (sk (skW2 rfl rfl rfl) (sk (skW2 rfl rfl rfl) (sk (skW2 rfl rfl rfl) (sk (skW rfl rfl rfl h2) (pkF (v := .sc (.bool false)) rfl rfl h2 rfl (pS rfl rfl (fun _ => rfl) (RunC.fin ?_))))))))))
   have hR := Option.some.inj hR; subst hR
   exact Weak.turnL [(0, 0)] [] rfl rfl (tc (trP' rfl rfl rfl rfl) (tc (.sc _) tn)) (mc rfl (.box rfl .z3 rfl) mn)
 ·refine AWP.cd hR rfl (fun h4 hR => ?_) fun h4 hR => ?_
  ·refine AWP.sq (AWP.rgC 5 rfl rfl (pS rfl rfl (fun _ => rfl) (RunC.fin (AWP.ret (rtB (rtT ?_))))))
   have hR := Option.some.inj hR; subst hR
   exact hQ _ _ (LS.mk [(2, .sc (.int .i64 3))] (lblks 0 []) 0) (.sc (.int .i64 3)) [] (.inr rfl) (Weak.turnL [] [] rfl rfl (tc (.sc _) tn) mn) (ro1 (rvT (v := .sc (.int .i64 3)) rfl)) rfl rfl (.sc _) pn
  ·refine AWP.joinX (fun z5 : Bool => LS.mk [(1, .ptr 0 0 0), (16, .sc (.bool z5))] (lblks 0 [boxB (α := Bound) true b]) 1) hR (fun o5 hR => ?_) fun z5 hR => ?_
   ·refine AWP.rgC 61 rfl rfl (fa rfl rfl ti38 rfl rfl ti36 rfl (ldB (v := .sc _) rfl rfl rfl rfl ti36 rfl rfl (fa rfl rfl ti38 rfl rfl ti36 rfl (ldB (v := .sc _) rfl rfl rfl rfl ti36 rfl rfl (pS rfl rfl (fun _ => rfl) (pS rfl rfl (fun _ => rfl) (pS rfl rfl (fun _ => rfl) (brR hR (fun h6 hR => ?_) fun h6 hR => ?_))))))))
    ·refine sk (skW rfl rfl rfl h6) (sk (skW rfl rfl rfl h6) (sk (skW rfl rfl rfl h6) (sk (skW rfl rfl rfl h6) (sk (skW rfl rfl rfl h6) (sk (skW rfl rfl rfl h6) (pkT (v := .sc (.bool true)) rfl rfl h6 rfl (pS rfl rfl (fun _ => rfl) (RunC.fin ?_))))))))
     have hR := Option.some.inj hR; subst hR
     exact Weak.turnL [(0, 0)] [] rfl rfl (tc (trP' rfl rfl rfl rfl) (tc (.sc _) tn)) (mc rfl (.box rfl .z3 rfl) mn)
    ·refine fa (wtG rfl rfl rfl h6) rfl ti38 rfl rfl ti36 rfl (ldB (v := .sc _) (wtG rfl rfl rfl h6) rfl rfl rfl ti36 rfl rfl (fa (wtG rfl rfl rfl h6) rfl ti38 rfl rfl ti36 rfl (ldB (v := .sc _) (wtG rfl rfl rfl h6) rfl rfl rfl ti36 rfl rfl (pu (v := .sc _) (wtG rfl rfl rfl h6) rfl (fun _ => rfl) (pu (v := .sc _) (wtG rfl rfl rfl h6) rfl (fun _ => rfl) (pkF (v := .sc (.bool (decide ((mx2 b.Lo b.Hi) > 1152921504606846976)))) rfl rfl h6 rfl (pS rfl rfl (fun _ => rfl) (RunC.fin ?_))))))))
     have hR := Option.some.inj hR; subst hR
     exact Weak.turnL [(0, 0)] [] rfl rfl (tc (trP' rfl rfl rfl rfl) (tc (.sc _) tn)) (mc rfl (.box rfl .z3 rfl) mn)
   ·refine AWP.cd hR rfl (fun h7 hR => ?_) fun h7 hR => ?_
    ·refine AWP.sq (AWP.rgC 5 rfl rfl (pS rfl rfl (fun _ => rfl) (RunC.fin (AWP.ret (rtB (rtT ?_))))))
     have hR := Option.some.inj hR; subst hR
     exact hQ _ _ (LS.mk [(2, .sc (.int .i64 4))] (lblks 0 []) 0) (.sc (.int .i64 4)) [] (.inr rfl) (Weak.turnL [] [] rfl rfl (tc (.sc _) tn) mn) (ro1 (rvT (v := .sc (.int .i64 4)) rfl)) rfl rfl (.sc _) pn
    ·refine AWP.sq (AWP.rgC 25 rfl rfl (fa rfl rfl ti38 rfl rfl ti36 rfl (ldB (v := .sc _) rfl rfl rfl rfl ti36 rfl rfl (fa rfl rfl ti38 rfl rfl ti36 rfl (ldB (v := .sc _) rfl rfl rfl rfl ti36 rfl rfl (pS rfl rfl (fun _ => rfl) (pS rfl rfl (fun _ => rfl) (RunC.fin (AWP.cd hR rfl (fun h8 hR => ?_) fun h8 hR => ?_)))))))))
     ·refine AWP.sq (AWP.rgC 29 rfl rfl (pS rfl rfl (fun _ => rfl) (RunC.fin (AWP.ret (rtB (rtT ?_))))))
      have hR := Option.some.inj hR; subst hR
      exact hQ _ _ (LS.mk [(2, .sc (.int .i64 11))] (lblks 0 []) 0) (.sc (.int .i64 11)) [] (.inr rfl) (Weak.turnL [] [] rfl rfl (tc (.sc _) tn) mn) (ro1 (rvT (v := .sc (.int .i64 11)) rfl)) rfl rfl (.sc _) pn
     ·refine AWP.skip (skB ?_)
      refine skT (AWP.sq (AWP.rgC 29 rfl rfl (pS rfl rfl (fun _ => rfl) (RunC.fin (AWP.ret ?_)))))
      have hR := Option.some.inj hR; subst hR
      exact hQ _ _ (LS.mk [(2, .sc (.int .i64 0))] (lblks 0 []) 0) (.sc (.int .i64 0)) [] (.inr rfl) (Weak.turnL [] [] rfl rfl (tc (.sc _) tn) mn) (ro1 (rvT (v := .sc (.int .i64 0)) rfl)) rfl rfl (.sc _) pn
theorem ok83 (s : Seen) (r : Int) (hR : tracklet_CheckSeen s = some r) : FnP Try.prog 83 [aggV false s] (.sc (.int .i64 r)) := by
 refine fnP_of (FnX.walk Try.func83 rfl 85 0 (by simp [Try.ntmps83]) rfl fun W S F Q hQ => ?_)
 unfold tracklet_CheckSeen at hR
 refine AWP.sq (AWP.rgC 8 rfl rfl (bx (cs := _) 0 rfl rfl rfl (pS rfl rfl (fun _ => rfl) (RunC.fin (AWP.sq (AWP.sq (AWP.rgC 24 rfl rfl (fa rfl rfl ti40 rfl rfl ti28 rfl (ldB (v := .agg _) rfl rfl rfl rfl ti28 rfl rfl ?_)))))))))
 obtain ⟨r1, hr1, hR⟩ := bindE hR
 refine cls [] rfl rfl cb92 (ok92 s.At _ hr1) (.cons (.agg .z3 rfl) (.nil)) (.inr rfl) rfl (pS rfl rfl (fun _ => rfl) (RunC.fin (AWP.sq (AWP.rgC 32 rfl rfl (pS rfl rfl (fun _ => rfl) (pS rfl rfl (fun _ => rfl) (RunC.fin (AWP.cd hR rfl (fun h2 hR => ?_) fun h2 hR => ?_))))))))
 ·refine AWP.sq (AWP.rgC 40 rfl rfl (pS rfl rfl (fun _ => rfl) (pS rfl rfl (fun _ => rfl) (RunC.fin (AWP.ret (rtT ?_))))))
  have hR := Option.some.inj hR; subst hR
  exact hQ _ _ (LS.mk [(2, .sc (.int .i64 r1))] (lblks 0 []) 0) (.sc (.int .i64 r1)) [] (.inr rfl) (Weak.turnL [] [] rfl rfl (tc (.sc _) tn) mn) (ro1 (rvT (v := .sc (.int .i64 r1)) rfl)) rfl rfl (.sc _) pn
 ·refine AWP.skip (skT (AWP.sq (AWP.block (AWP.sq (AWP.rgC 48 rfl rfl (fa rfl rfl ti40 rfl rfl ti28 rfl (fa rfl rfl ti28 rfl rfl ti4 rfl (ldB (v := .sc _) rfl rfl rfl rfl ti4 rfl rfl (pS rfl rfl (fun _ => rfl) (RunC.fin (AWP.cd hR rfl (fun h3 hR => ?_) fun h3 hR => ?_)))))))))))
  ·refine AWP.sq (AWP.rgC 52 rfl rfl (pS rfl rfl (fun _ => rfl) (RunC.fin (AWP.ret (rtB (rtT ?_))))))
   have hR := Option.some.inj hR; subst hR
   exact hQ _ _ (LS.mk [(2, .sc (.int .i64 1))] (lblks 0 []) 0) (.sc (.int .i64 1)) [] (.inr rfl) (Weak.turnL [] [] rfl rfl (tc (.sc _) tn) mn) (ro1 (rvT (v := .sc (.int .i64 1)) rfl)) rfl rfl (.sc _) pn
  ·refine AWP.joinX (fun z4 : Bool => LS.mk [(1, .ptr 0 0 0), (17, .sc (.bool z4))] (lblks 0 [boxB (α := Seen) true s]) 1) hR (fun o4 hR => ?_) fun z4 hR => ?_
   ·refine AWP.rgC 92 rfl rfl (fa rfl rfl ti40 rfl rfl ti28 rfl (fa rfl rfl ti28 rfl rfl ti26 rfl (ldB (v := .sc _) rfl rfl rfl rfl ti26 rfl rfl (pS rfl rfl (fun _ => rfl) (pS rfl rfl (fun _ => rfl) (brR hR (fun h5 hR => ?_) fun h5 hR => ?_))))))
    ·refine sk (skW rfl rfl rfl h5) (sk (skW rfl rfl rfl h5) (sk (skW rfl rfl rfl h5) (sk (skW rfl rfl rfl h5) (pkT (v := .sc (.bool true)) rfl rfl h5 rfl (pS rfl rfl (fun _ => rfl) (RunC.fin ?_))))))
     have hR := Option.some.inj hR; subst hR
     exact Weak.turnL [(0, 0)] [] rfl rfl (tc (trP' rfl rfl rfl rfl) (tc (.sc _) tn)) (mc rfl (.box rfl (.c9 .z9) rfl) mn)
    ·refine fa (wtG rfl rfl rfl h5) rfl ti40 rfl rfl ti28 rfl (fa (wtG rfl rfl rfl h5) rfl ti28 rfl rfl ti26 rfl (ldB (v := .sc _) (wtG rfl rfl rfl h5) rfl rfl rfl ti26 rfl rfl (pu (v := .sc _) (wtG rfl rfl rfl h5) rfl (fun _ => rfl) (pkF (v := .sc (.bool (decide (s.At.Hi > 17592186044416)))) rfl rfl h5 rfl (pS rfl rfl (fun _ => rfl) (RunC.fin ?_))))))
     have hR := Option.some.inj hR; subst hR
     exact Weak.turnL [(0, 0)] [] rfl rfl (tc (trP' rfl rfl rfl rfl) (tc (.sc _) tn)) (mc rfl (.box rfl (.c9 .z9) rfl) mn)
   ·refine AWP.cd hR rfl (fun h6 hR => ?_) fun h6 hR => ?_
    ·refine AWP.sq (AWP.rgC 5 rfl rfl (pS rfl rfl (fun _ => rfl) (RunC.fin (AWP.ret (rtB (rtT ?_))))))
     have hR := Option.some.inj hR; subst hR
     exact hQ _ _ (LS.mk [(2, .sc (.int .i64 4))] (lblks 0 []) 0) (.sc (.int .i64 4)) [] (.inr rfl) (Weak.turnL [] [] rfl rfl (tc (.sc _) tn) mn) (ro1 (rvT (v := .sc (.int .i64 4)) rfl)) rfl rfl (.sc _) pn
    ·refine AWP.joinX (fun z7 : Bool => LS.mk [(1, .ptr 0 0 0), (28, .sc (.bool z7))] (lblks 0 [boxB (α := Seen) true s]) 1) hR (fun o7 hR => ?_) fun z7 hR => ?_
     ·refine AWP.rgC 101 rfl rfl (fa rfl rfl ti40 rfl rfl ti30 rfl (fa rfl rfl ti30 rfl rfl ti2 rfl (ldB (v := .sc _) rfl rfl rfl rfl ti2 rfl rfl (fa rfl rfl ti40 rfl rfl ti30 rfl (fa rfl rfl ti30 rfl rfl ti2 rfl (ldB (v := .sc _) rfl rfl rfl rfl ti2 rfl rfl (fa rfl rfl ti40 rfl rfl ti30 rfl (fa rfl rfl ti30 rfl rfl ti2 rfl (ldB (v := .sc _) rfl rfl rfl rfl ti2 rfl rfl (pS rfl rfl (fun _ => rfl) (pS rfl rfl (fun _ => rfl) (pS rfl rfl (fun _ => rfl) (brR hR (fun h8 hR => ?_) fun h8 hR => ?_)))))))))))))
      ·refine sk (skW rfl rfl rfl h8) (sk (skW rfl rfl rfl h8) (sk (skW rfl rfl rfl h8) (sk (skW rfl rfl rfl h8) (sk (skW rfl rfl rfl h8) (sk (skW rfl rfl rfl h8) (sk (skW rfl rfl rfl h8) (sk (skW rfl rfl rfl h8) (sk (skW rfl rfl rfl h8) (sk (skW rfl rfl rfl h8) (sk (skW rfl rfl rfl h8) (pkT (v := .sc (.bool true)) rfl rfl h8 rfl (pS rfl rfl (fun _ => rfl) (RunC.fin ?_)))))))))))))
       have hR := Option.some.inj hR; subst hR
       exact Weak.turnL [(0, 0)] [] rfl rfl (tc (trP' rfl rfl rfl rfl) (tc (.sc _) tn)) (mc rfl (.box rfl (.c9 .z9) rfl) mn)
      ·refine fa (wtG rfl rfl rfl h8) rfl ti40 rfl rfl ti30 rfl (fa (wtG rfl rfl rfl h8) rfl ti30 rfl rfl ti2 rfl (ldB (v := .sc _) (wtG rfl rfl rfl h8) rfl rfl rfl ti2 rfl rfl (fa (wtG rfl rfl rfl h8) rfl ti40 rfl rfl ti30 rfl (fa (wtG rfl rfl rfl h8) rfl ti30 rfl rfl ti2 rfl (ldB (v := .sc _) (wtG rfl rfl rfl h8) rfl rfl rfl ti2 rfl rfl (fa (wtG rfl rfl rfl h8) rfl ti40 rfl rfl ti30 rfl (fa (wtG rfl rfl rfl h8) rfl ti30 rfl rfl ti2 rfl (ldB (v := .sc _) (wtG rfl rfl rfl h8) rfl rfl rfl ti2 rfl rfl (pu (v := .sc _) (wtG rfl rfl rfl h8) rfl (fun _ => rfl) (pu (v := .sc _) (wtG rfl rfl rfl h8) rfl (fun _ => rfl) (pkF (v := .sc (.bool (decide ((mn2 (mn2 s.From.X s.From.Y) s.From.Z) < (-4194304))))) rfl rfl h8 rfl (pS rfl rfl (fun _ => rfl) (RunC.fin ?_)))))))))))))
       have hR := Option.some.inj hR; subst hR
       exact Weak.turnL [(0, 0)] [] rfl rfl (tc (trP' rfl rfl rfl rfl) (tc (.sc _) tn)) (mc rfl (.box rfl (.c9 .z9) rfl) mn)
     ·refine AWP.cd hR rfl (fun h9 hR => ?_) fun h9 hR => ?_
      ·refine AWP.sq (AWP.rgC 5 rfl rfl (pS rfl rfl (fun _ => rfl) (RunC.fin (AWP.ret (rtB (rtT ?_))))))
       have hR := Option.some.inj hR; subst hR
       exact hQ _ _ (LS.mk [(2, .sc (.int .i64 4))] (lblks 0 []) 0) (.sc (.int .i64 4)) [] (.inr rfl) (Weak.turnL [] [] rfl rfl (tc (.sc _) tn) mn) (ro1 (rvT (v := .sc (.int .i64 4)) rfl)) rfl rfl (.sc _) pn
      ·refine AWP.skip (skB ?_)
       refine skT (AWP.sq (AWP.sq (AWP.rgC 49 rfl rfl (fa rfl rfl ti40 rfl rfl ti35 rfl (fa rfl rfl ti35 rfl rfl ti33 rfl (ldB (v := .agg _) rfl rfl rfl rfl ti33 rfl rfl (fa rfl rfl ti40 rfl rfl ti35 rfl (fa rfl rfl ti35 rfl rfl ti33 rfl (ldB (v := .agg _) rfl rfl rfl rfl ti33 rfl rfl (fa rfl rfl ti40 rfl rfl ti35 rfl (fa rfl rfl ti35 rfl rfl ti33 rfl (ldB (v := .agg _) rfl rfl rfl rfl ti33 rfl rfl (bs (α := Bound) 37 true ([s.Box.X, s.Box.Y, s.Box.Z] : List Bound) rfl rfl ti130 rfl ti33 rfl rfl rfl rfl rfl ?_)))))))))))))
       refine lenS (α := Bound) rfl rfl ti130 rfl ?_
       refine pS rfl rfl (fun _ => rfl) (RunC.fin (AWP.loopK' (fun s10 : Int => LS.mk [(1, .ptr 0 0 0), (62, slV Bound 1 0 0 ([s.Box.X, s.Box.Y, s.Box.Z] : List Bound).length), (63, .sc (.int .i64 (([s.Box.X, s.Box.Y, s.Box.Z] : List Bound).length : Int))), (64, .sc (.int .i64 s10))] (lblks 0 [boxB (α := Seen) true s, arrB (α := Bound) 33 0 true ([s.Box.X, s.Box.Y, s.Box.Z] : List Bound)]) 2) (fun z11 : Unit => LS.mk [(1, .ptr 0 0 0)] (lblks 0 [boxB (α := Seen) true s]) 1) (tracklet_CheckSeen.l1 s) hR (s0 := 0) (Weak.turnL [(0, 0), (37, 0)] [] rfl rfl (tc (trP' rfl rfl rfl rfl) (tc (trS' rfl rfl rfl rfl rfl) (tc (.sc _) (tc (.sc _) tn)))) (mc rfl (.box rfl (.c9 .z9) rfl) (mc rfl (btrA' rfl) mn))) (fun s10 o10 hR hE10 => ?_) fun z11 hR => ?_))
       ·unfold tracklet_CheckSeen.l1 at hR
        refine AWP.sq (AWP.rgC 6 rfl rfl ?_)
        obtain ⟨v12, ev12, hR⟩ := letE hR
        refine pS rfl rfl (fun _ => puB ev12) (RunC.fin (AWP.sq (AWP.cd hR rfl (fun h13 hR => ?_) fun h13 hR => ?_)))
        ·refine AWP.skip (skT (AWP.sq (AWP.block (AWP.sq (AWP.rgC 22 rfl rfl ?_)))))
         obtain ⟨h14, hR⟩ := chkE hR
         refine ixS0 (α := Bound) rfl rfl rfl ti130 rfl ti33 rfl h14 ?_
         refine ldE (α := Bound) (v := .agg _) rfl rfl rfl (ixlt h14) ti33 rfl rfl rfl rfl ?_
         refine al (cs := [.sc (.int .i64 0), .sc (.int .i64 0), .sc (.bool false)]) 14 rfl rfl ti33 rfl rfl (stB (cs' := [.sc (.int .i64 (gt ([s.Box.X, s.Box.Y, s.Box.Z] : List Bound) s10).Lo), .sc (.int .i64 (gt ([s.Box.X, s.Box.Y, s.Box.Z] : List Bound) s10).Hi), .sc (.bool (gt ([s.Box.X, s.Box.Y, s.Box.Z] : List Bound) s10).Unknown)]) rfl rfl rfl rfl ti33 rfl rfl rfl rfl rfl (RunC.fin (AWP.sq (AWP.sq (AWP.rgC 34 rfl rfl (ldB (v := .agg _) rfl rfl rfl rfl ti33 rfl rfl ?_))))))
         obtain ⟨r15, hr15, hR⟩ := bindE hR
         refine cls [] rfl rfl cb29 (ok29 (gt ([s.Box.X, s.Box.Y, s.Box.Z] : List Bound) s10) _ hr15) (.cons (.agg .z3 rfl) (.nil)) (.inr rfl) rfl (pS rfl rfl (fun _ => rfl) (RunC.fin (AWP.sq (AWP.rgC 42 rfl rfl (pS rfl rfl (fun _ => rfl) (pS rfl rfl (fun _ => rfl) (RunC.fin (AWP.cd hR rfl (fun h16 hR => ?_) fun h16 hR => ?_))))))))
         ·refine AWP.sq (AWP.rgC 50 rfl rfl (pS rfl rfl (fun _ => rfl) (pS rfl rfl (fun _ => rfl) (RunC.fin (AWP.ret (rtT (rtB (rtT (rtT (rtB (rtT ?_)))))))))))
          replace hR := escL hR hE10
          refine rtT ?_
          have hR := Option.some.inj hR; subst hR
          exact hQ _ _ (LS.mk [(2, .sc (.int .i64 r15))] (lblks 0 []) 0) (.sc (.int .i64 r15)) [] (.inr rfl) (Weak.turnL [] [] rfl rfl (tc (.sc _) tn) mn) (ro1 (rvT (v := .sc (.int .i64 r15)) rfl)) rfl rfl (.sc _) pn
         ·refine AWP.skip (skT (AWP.joinX (fun z17 : Bool => LS.mk [(1, .ptr 0 0 0), (62, slV Bound 1 0 0 ([s.Box.X, s.Box.Y, s.Box.Z] : List Bound).length), (63, .sc (.int .i64 (([s.Box.X, s.Box.Y, s.Box.Z] : List Bound).length : Int))), (64, .sc (.int .i64 s10)), (80, .sc (.bool z17))] (lblks 0 [boxB (α := Seen) true s, arrB (α := Bound) 33 0 true ([s.Box.X, s.Box.Y, s.Box.Z] : List Bound)]) 2) hR (fun o17 hR => ?_) fun z17 hR => ?_))
          ·refine AWP.rgC 74 rfl rfl (fa rfl rfl ti33 rfl rfl ti31 rfl (ldB (v := .sc _) rfl rfl rfl rfl ti31 rfl rfl ?_))
           obtain ⟨v18, ev18, hR⟩ := letE hR
           refine pS rfl rfl (fun _ => puB ev18) (pS rfl rfl (fun _ => rfl) (brR hR (fun h19 hR => ?_) fun h19 hR => ?_))
           ·refine sk (skW rfl rfl rfl h19) (sk (skW rfl rfl rfl h19) (sk (skW rfl rfl rfl h19) (pkT (v := .sc (.bool true)) rfl rfl h19 rfl (RunC.fin ?_))))
            have hR := Option.some.inj hR; subst hR
            exact Weak.turnL [(0, 0), (1, 0)] [] rfl rfl (tc (trP' rfl rfl rfl rfl) (tc (trS' rfl rfl rfl rfl rfl) (tc (.sc _) (tc (.sc _) (tc (.sc _) tn))))) (mc rfl (.box rfl (.c9 .z9) rfl) (mc rfl (btrA' rfl) mn))
           ·refine fa (wtG rfl rfl rfl h19) rfl ti33 rfl rfl ti31 rfl (ldB (v := .sc _) (wtG rfl rfl rfl h19) rfl rfl rfl ti31 rfl rfl ?_)
            obtain ⟨v20, ev20, hR⟩ := letE hR
            refine pu (v := .sc _) (wtG rfl rfl rfl h19) rfl (fun _ => puB ev20) (pkF (v := .sc (.bool v20)) rfl rfl h19 rfl (RunC.fin ?_))
            have hR := Option.some.inj hR; subst hR
            exact Weak.turnL [(0, 0), (1, 0)] [] rfl rfl (tc (trP' rfl rfl rfl rfl) (tc (trS' rfl rfl rfl rfl rfl) (tc (.sc _) (tc (.sc _) (tc (.sc _) tn))))) (mc rfl (.box rfl (.c9 .z9) rfl) (mc rfl (btrA' rfl) mn))
          ·refine AWP.cd hR rfl (fun h21 hR => ?_) fun h21 hR => ?_
           ·refine AWP.sq (AWP.rgC 6 rfl rfl (pS rfl rfl (fun _ => rfl) (RunC.fin (AWP.ret (rtB (rtT (rtT (rtB (rtT ?_)))))))))
            replace hR := escL hR hE10
            refine rtT ?_
            have hR := Option.some.inj hR; subst hR
            exact hQ _ _ (LS.mk [(2, .sc (.int .i64 4))] (lblks 0 []) 0) (.sc (.int .i64 4)) [] (.inr rfl) (Weak.turnL [] [] rfl rfl (tc (.sc _) tn) mn) (ro1 (rvT (v := .sc (.int .i64 4)) rfl)) rfl rfl (.sc _) pn
           ·refine AWP.skip (skB ?_)
            refine skT (AWP.rgC 10 rfl rfl (pS rfl rfl (fun _ => rfl) (pS rfl rfl (fun _ => rfl) (RunC.fin (⟨(w6 (s10 + 1)), (Option.some.inj hR).symm, ?_⟩)))))
            exact Weak.turnL [(0, 0), (1, 0)] [] rfl rfl (tc (trP' rfl rfl rfl rfl) (tc (trS' rfl rfl rfl rfl rfl) (tc (.sc _) (tc (.sc _) tn)))) (mc rfl (.box rfl (.c9 .z9) rfl) (mc rfl (btrA' rfl) mn))
        ·refine AWP.exit (exT (exT (exH (skT (⟨(), (Option.some.inj hR).symm, ?_⟩)))))
         exact Weak.turnL [(0, 0)] [] rfl rfl (tc (trP' rfl rfl rfl rfl) tn) (mc rfl (.box rfl (.c9 .z9) rfl) mn)
       ·refine skT (AWP.sq (AWP.rgC 17 rfl rfl (fa rfl rfl ti40 rfl rfl ti38 rfl (ldB (v := .agg _) rfl rfl rfl rfl ti38 rfl rfl ?_))))
        obtain ⟨r22, hr22, hR⟩ := bindE hR
        refine cls [] rfl rfl cb93 (ok93 s.Flux _ hr22) (.cons (.agg .z3 rfl) (.nil)) (.inr rfl) rfl (pS rfl rfl (fun _ => rfl) (RunC.fin (AWP.ret ?_)))
        have hR := Option.some.inj hR; subst hR
        exact hQ _ _ (LS.mk [(2, .sc (.int .i64 r22))] (lblks 0 []) 0) (.sc (.int .i64 r22)) [] (.inr rfl) (Weak.turnL [] [] rfl rfl (tc (.sc _) tn) mn) (ro1 (rvT (v := .sc (.int .i64 r22)) rfl)) rfl rfl (.sc _) pn
section
open Go.RowKit Go.Shelf
attribute [local go_sem] Oper.semAt_some
theorem tot_bindx75 {α β : Type} {x : Option α} {f : α → Option β} (h : ∃ r, x = some r) (k : ∀ r, ∃ q, f r = some q) : ∃ q, x.bind f = some q := by
 obtain ⟨r, rfl⟩ := h; exact k r
theorem tot_itex75 {α : Type} {c : Prop} [Decidable c] {x y : Option α} (h : ∃ r, x = some r) (k : ∃ r, y = some r) : ∃ r, (if c then x else y) = some r := by
 split
 ·exact h
 ·exact k
theorem check_totx75 (b : Bound) : ∃ r, bound_Check b = some r := by
 unfold bound_Check
 refine tot_bindx75 (tot_itex75 (tot_itex75 ⟨_, rfl⟩ ⟨_, rfl⟩) ⟨_, rfl⟩) fun z => tot_itex75 ⟨_, rfl⟩ (tot_bindx75 (tot_itex75 ⟨_, rfl⟩ ⟨_, rfl⟩) fun y => tot_itex75 ⟨_, rfl⟩ (tot_itex75 ⟨_, rfl⟩ ⟨_, rfl⟩))
theorem norm_totx75 (b : Bound) : ∃ r, bound_Norm b = some r := by
 unfold bound_Norm bound_None
 exact tot_bindx75 (check_totx75 b) fun r => tot_itex75 ⟨_, rfl⟩ ⟨_, rfl⟩
theorem add_totx75 (a b : Bound) : ∃ r, bound_Add a b = some r := by
 unfold bound_Add bound_vague bound_Of bound_None
 refine tot_bindx75 (tot_bindx75 (tot_bindx75 (norm_totx75 a) fun r => tot_itex75 ⟨_, rfl⟩ (tot_bindx75 (norm_totx75 b) fun r => ⟨_, rfl⟩)) fun r => ⟨_, rfl⟩) fun r => tot_itex75 ⟨_, rfl⟩ (tot_bindx75 (tot_bindx75 (norm_totx75 _) fun r => ⟨_, rfl⟩) fun r => ⟨_, rfl⟩)
def addTx75 (s x : Bound) : Bound := (bound_Add s x).getD s
theorem addT_specx75 (s x : Bound) : bound_Add s x = some (addTx75 s x) := by
 obtain ⟨r, h⟩ := add_totx75 s x
 unfold addTx75; rw [h]; rfl
theorem add_callsx75 (s x : Bound) (w : World) : Calls Try.prog 41 #[.agg #[.int .i64 s.Lo, .int .i64 s.Hi, .bool s.Unknown], .agg #[.int .i64 x.Lo, .int .i64 x.Hi, .bool x.Unknown]] w fun e w' => e = .returned (.agg #[.int .i64 (addTx75 s x).Lo, .int .i64 (addTx75 s x).Hi, .bool (addTx75 s x).Unknown]) ∧ Below w.heap.size w w' := by
 have ag : ∀ (E : Env) (b : Bound), RL E (aggV false b) (.agg #[.int .i64 b.Lo, .int .i64 b.Hi, .bool b.Unknown]) := fun E b => by
  unfold aggV
  simp only [RL]
  exact ⟨[.int .i64 b.Lo, .int .i64 b.Hi, .bool b.Unknown], rfl, rls_cons rl_sc (rls_cons rl_sc (rls_cons rl_sc rls_nil)), Cl.leaf false b⟩
 refine (fnP_out (ok41 s x _ (addT_specx75 s x)) (cargs := [.agg #[.int .i64 s.Lo, .int .i64 s.Hi, .bool s.Unknown], .agg #[.int .i64 x.Lo, .int .i64 x.Hi, .bool x.Unknown]]) (rls_cons (ag _ s) (rls_cons (ag _ x) rls_nil))).mono ?_
 rintro e w' ⟨c, E', rfl, h1, h2⟩
 unfold aggV at h1
 simp only [RL] at h1
 obtain ⟨ds, rfl, h3, _⟩ := h1
 have h3 : RLs E' [.sc (.int .i64 (addTx75 s x).Lo), .sc (.int .i64 (addTx75 s x).Hi), .sc (.bool (addTx75 s x).Unknown)] ds := h3
 simp only [RLs, RL] at h3
 obtain ⟨_, _, rfl, rfl, _, _, rfl, rfl, _, _, rfl, rfl, rfl⟩ := h3
 exact ⟨rfl, h2⟩
def encBx75 (x : Bound) : Array Value := #[.agg #[.int .i64 x.Lo, .int .i64 x.Hi, .bool x.Unknown]]
abbrev RowBx75 := Row3 (fun x : Bound => .int .i64 x.Lo) (fun x : Bound => .int .i64 x.Hi) (fun x : Bound => .bool x.Unknown)
theorem values_Bx75 (a : Option Addr) (len cap : Nat) (w : World) :
  Calls Try.prog 89 #[.slice a len cap] w fun e w' => e = .returned (.func (.func 94) #[] #[.pointer (some ⟨w.heap.size, 0, none⟩)]) ∧ w' = w.alloc (.cells #[.slice a len cap] 130) := by
 go_enter Try.func89, Try.ntmps89
 go_wp2
 go_ret
 exact ⟨rfl, rfl⟩
set_option maxHeartbeats 2000000 in
theorem values1_Bx75 (F : Fence) (n : Nat) (h7 : F.fn 94) (hro : F.round = none) (hn : 1 ≤ n) (l Bs n₀ : Nat) (A : Option Addr) (cap : Nat) (zs : List Bound) (hreach : zs.length * 24 ≤ 140737488351232) (hb0 : ∀ ad, A = some ad → 0 < zs.length → ad.block < n₀) (J Jx : List Bound → World → Prop)
  (hY : ∀ pre x W, J pre W → pre.length < zs.length → YieldAt F (n - 1) Try.prog l (encBx75 x) W fun e W' =>
   (e = .returned (.bool true) ∧ J (pre ++ [x]) W' ∧ Below n₀ W W') ∨ (e = .returned (.bool false) ∧ Jx (pre ++ [x]) W'))
  (W : World) (hJ : AbidesFrom W.heap.size J) (hBs : W.cell? ⟨Bs, 0, none⟩ = some (.slice A zs.length cap)) (hn0 : n₀ ≤ W.heap.size) (hc : RowBx75 W A zs) (h0 : J [] W) :
  CallsIn F n Try.prog 94 #[.func (.yield l) #[] #[], .pointer (some ⟨Bs, 0, none⟩)] W fun e W' => (∃ v, e = .returned v) ∧
   ((∃ ys, ys = zs ∧ J ys W') ∨ (∃ pre, (∃ k, k ≤ zs.length ∧ pre = zs.take k) ∧ Jx pre W')) := by
 refine callsIn_of_wp Try.func94 rfl h7 ?_ hro
 simp only [Try.ntmps94, List.size_toArray, List.length_cons, List.length_nil, Nat.reduceAdd, Nat.reduceSub, Array.replicate_succ, Array.replicate_zero, List.push_toArray, List.append_toArray, List.nil_append, List.cons_append]
 gi_wp2
 gi_loopw [7] (fun i wr => ∃ k : Nat, k ≤ zs.length ∧ i = .int .i64 k ∧ J (zs.take k) wr ∧ Below n₀ W wr ∧ W.heap.size ≤ wr.heap.size)
  (fun i _ => zs.length - (intOf i).toNat)
 case atStart => exact ⟨0, Nat.zero_le _, rfl, by simpa using h0, Below.refl _ _, Nat.le_refl _⟩
 case round =>
  obtain ⟨k, hk, rfl, hJs, hnx, hsz⟩ := hrel
  by_cases hlt : k < zs.length
  ·obtain ⟨ad, rfl, _, hx0, hx1, hx2⟩ := hc k hlt
   have hb := hb0 ad rfl (by omega)
   have ht : zs.take (k + 1) = zs.take k ++ [zs[k]] := by rw [List.take_succ_eq_append_getElem hlt]
   generalize zs[k] = x at hx0 hx1 hx2 ht
   replace hx0 := (hnx.cell (p := ad.add (k * 3)) (by rw [add_blk]; exact hb)).trans hx0
   replace hx1 := (hnx.cell (p := ⟨(ad.add (k * 3)).block, (ad.add (k * 3)).off + 1, none⟩) (by show (ad.add (k * 3)).block < n₀; rw [add_blk]; exact hb)).trans hx1
   replace hx2 := (hnx.cell (p := ⟨(ad.add (k * 3)).block, (ad.add (k * 3)).off + 2, none⟩) (by show (ad.add (k * 3)).block < n₀; rw [add_blk]; exact hb)).trans hx2
   have hJ1 := hJ (zs.take k) wr (wr.alloc (.cells #[.int .i64 x.Lo, .int .i64 x.Hi, .bool x.Unknown] 33)) none hJs (World.grownBy_alloc wr _ none) (fun r e => by cases e)
   have hb1 : Below n₀ wr (wr.alloc (.cells #[.int .i64 x.Lo, .int .i64 x.Hi, .bool x.Unknown] 33)) := (Below.refl n₀ wr).alloc (by omega) _
   have hs1 : wr.heap.size ≤ (wr.alloc (.cells #[.int .i64 x.Lo, .int .i64 x.Hi, .bool x.Unknown] 33)).heap.size := by simp
   obtain ⟨fn, tmps, assign, body, hy, hR⟩ := hY (zs.take k) x _ hJ1 (by simp; omega)
   simp only [encBx75] at hy
   have HT := Lib.hid ht
   clear ht
   gi_wp2
   refine hR.mono ?_
   rintro e W3 (⟨rfl, hJ3, hk3⟩ | ⟨rfl, hJx3⟩)
   ·gi_wp2
    go_roundw
    case rel => exact ⟨k + 1, by omega, by simp, by rw [HT.out]; exact hJ3, (hnx.trans hb1).trans hk3, Nat.le_trans hsz (Nat.le_trans hs1 hk3.size)⟩
    case measure => simp [intOf]; omega
   ·gi_wp2
    refine bodyPost_ret (results_none rfl _ _ _) rfl ?_
    exact ⟨⟨_, rfl⟩, .inr ⟨_, ⟨k + 1, by omega, HT.out.symm⟩, hJx3⟩⟩
  ·obtain rfl : k = zs.length := by omega
   gi_wp2
   go_end0
   exact ⟨⟨_, rfl⟩, .inl ⟨_, rfl, by simpa using hJs⟩⟩
theorem values_stops_Bx75 (F : Fence) (n : Nat) (h7 : F.fn 94) (hro : F.round = none) (hn : 1 ≤ n) (Bs n₀ : Nat) (A : Option Addr) (cap : Nat) (zs : List Bound) (hreach : zs.length * 24 ≤ 140737488351232) (w : World) (hBs : Bs < w.heap.size) (hn₀ : n₀ ≤ w.heap.size)
  (hc : w.cell? ⟨Bs, 0, none⟩ = some (.slice A zs.length cap)) (hC : RowBx75 w A zs) (hb0 : ∀ ad, A = some ad → 0 < zs.length → ad.block < n₀) :
  SeqStopsK F n Try.prog 94 #[.pointer (some ⟨Bs, 0, none⟩)] encBx75 (Below n₀) (fun ys => ys = zs) (fun pre => pre <+: zs) zs.length w := fun l J Jx W hW hJ _ hY h0 => by
 have hc' := (hW.cell (p := ⟨Bs, 0, none⟩) hBs).trans hc
 refine (values1_Bx75 F n h7 hro hn l Bs n₀ A cap zs hreach hb0 J Jx hY W hJ hc' (Nat.le_trans hn₀ hW.size) (hC.below hW) h0).mono ?_
 rintro e W' ⟨he, ⟨ys, rfl, hj⟩ | ⟨pre, ⟨k, hk, rfl⟩, hj⟩⟩
 ·exact ⟨he, .inl ⟨_, rfl, hj⟩⟩
 ·exact ⟨he, .inr ⟨_, List.take_prefix _ _, hj⟩⟩
set_option maxHeartbeats 2000000 in
theorem total_Bx75 (A : Option Addr) (cap : Nat) (zs : List Bound) (hreach : zs.length * 24 ≤ 140737488351232) (w : World) (Bs : Nat) (hBs : Bs < w.heap.size) (hc : w.cell? ⟨Bs, 0, none⟩ = some (.slice A zs.length cap)) (hC : RowBx75 w A zs) (hb0 : ∀ ad, A = some ad → 0 < zs.length → ad.block < w.heap.size) :
  Calls Try.prog 88 #[.func (.func 94) #[] #[.pointer (some ⟨Bs, 0, none⟩)]] w fun e w' => e = .returned (.agg #[.int .i64 (bound_SumF zs ⟨0, 0, false⟩).Lo, .int .i64 (bound_SumF zs ⟨0, 0, false⟩).Hi, .bool (bound_SumF zs ⟨0, 0, false⟩).Unknown]) ∧ Below w.heap.size w w' := by
 refine (callsIn_wide (n := 6)).1 ?_
 refine callsIn_of_wp_marks Try.func88 rfl trivial ?_ rfl
 simp only [Try.ntmps88, List.size_toArray, List.length_cons, List.length_nil, Nat.reduceAdd, Nat.reduceSub, Array.replicate_succ, Array.replicate_zero, List.push_toArray, List.append_toArray, List.nil_append, List.cons_append]
 gi_wp2
 have hz : ((w.alloc (.cells #[.int .i64 0, .int .i64 0, .bool false] 33)).alloc (.cells #[.int .i64 0, .int .i64 0, .bool false] 33)).heap.size = w.heap.size + 2 := by simp
 have hr2 : ((w.alloc (.cells #[.int .i64 0, .int .i64 0, .bool false] 33)).alloc (.cells #[.int .i64 0, .int .i64 0, .bool false] 33)).heap[w.heap.size]? = some (.cells #[.int .i64 0, .int .i64 0, .bool false] 33 (0, 0)) := blk_alloc (World.alloc_heap_new w _) _
 have hs2 : ((w.alloc (.cells #[.int .i64 0, .int .i64 0, .bool false] 33)).alloc (.cells #[.int .i64 0, .int .i64 0, .bool false] 33)).heap[w.heap.size + 1]? = some (.cells #[.int .i64 0, .int .i64 0, .bool false] 33 (0, 0)) := by
  have := World.alloc_heap_new (w.alloc (.cells #[.int .i64 0, .int .i64 0, .bool false] 33)) (.cells #[.int .i64 0, .int .i64 0, .bool false] 33)
  rwa [World.size_alloc] at this
 have hb2 : Below w.heap.size w ((w.alloc (.cells #[.int .i64 0, .int .i64 0, .bool false] 33)).alloc (.cells #[.int .i64 0, .int .i64 0, .bool false] 33)) := ((Below.refl _ w).alloc (Nat.le_refl _) _).alloc (by simp) _
 obtain ⟨w2, hw2⟩ : ∃ w2, (w.alloc (.cells #[.int .i64 0, .int .i64 0, .bool false] 33)).alloc (.cells #[.int .i64 0, .int .i64 0, .bool false] 33) = w2 := ⟨_, rfl⟩
 rw [hw2] at hz hr2 hs2 hb2 ⊢
 refine wpIn_rangeFunc_ownH (α := Bound) rfl (by omega) (gf := 94) (lb := #[.pointer (some ⟨Bs, 0, none⟩)]) rfl trivial (enters_of Try.func94 (by kernel_rfl) rfl)
  (values_stops_Bx75 Fence.wide 5 trivial rfl (by omega) Bs w.heap.size A cap zs hreach w2 (by omega) (by omega) ((hb2.cell (p := ⟨Bs, 0, none⟩) hBs).trans hc) (hC.below hb2) hb0) belowK_t (belowK_b (by omega)) (Below.refl _ _) (fun _ => rfl)
  (fun pre W => (∃ s : Bound, W.heap[w.heap.size + 1]? = some (.cells #[.int .i64 s.Lo, .int .i64 s.Hi, .bool s.Unknown] 33 (0, 0)) ∧ s.Unknown = false ∧ ∀ rest, bound_SumF (pre ++ rest) ⟨0, 0, false⟩ = bound_SumF rest s) ∧ W.heap[w.heap.size]? = some (.cells #[.int .i64 0, .int .i64 0, .bool false] 33 (0, 0)) ∧ Below w.heap.size w W)
  (fun c pre W => c = .exit 0 ∧ (∃ s : Bound, W.heap[w.heap.size + 1]? = some (.cells #[.int .i64 s.Lo, .int .i64 s.Hi, .bool s.Unknown] 33 (0, 0)) ∧ ∀ rest, bound_SumF (pre ++ rest) ⟨0, 0, false⟩ = s) ∧ W.heap[w.heap.size]? = some (.cells #[.int .i64 0, .int .i64 0, .bool false] 33 (0, 0)) ∧ Below w.heap.size w W)
  (fun s A B row hs hg hr => ⟨by obtain ⟨⟨u, h1, h2⟩, _⟩ := hs; exact ⟨u, own3 (β := Unit) _ _ _ _ () A B row h1 hg hr, h2⟩, own3 (β := Unit) _ _ _ _ () A B row hs.2.1 hg hr, ownFrom_below (β := Unit) (Nat.le_refl _) (by omega) () A B row hs.2.2 hg hr⟩)
  (fun c s A B row hs hg hr => ⟨hs.1, by obtain ⟨_, ⟨u, h1, h2⟩, _⟩ := hs; exact ⟨u, own3 (β := Unit) _ _ _ _ () A B row h1 hg hr, h2⟩, own3 (β := Unit) _ _ _ _ () A B row hs.2.2.1 hg hr, ownFrom_below (β := Unit) (Nat.le_refl _) (by omega) () A B row hs.2.2.2 hg hr⟩)
  ⟨⟨⟨0, 0, false⟩, hs2, rfl, fun rest => rfl⟩, hr2, hb2⟩
  (fun x a' W => ∃ Bx, w.heap.size + 1 < Bx ∧ W.heap[Bx]? = some (.cells #[.int .i64 x.Lo, .int .i64 x.Hi, .bool x.Unknown] 33 (0, 0)) ∧ a' = { tmps := #[.func (.func 94) #[] #[.pointer (some ⟨Bs, 0, none⟩)], undef, .pointer (some ⟨w.heap.size, 0, none⟩), .pointer (some ⟨w.heap.size + 1, 0, none⟩), .pointer (some ⟨Bx, 0, none⟩), .func (.func 94) #[] #[.pointer (some ⟨Bs, 0, none⟩)], .agg #[.int .i64 x.Lo, .int .i64 x.Hi, .bool x.Unknown], undef, undef, undef, undef, undef, undef], defers := [] })
  (fun x a' _ A B row hs hg hr => by obtain ⟨Bx, h1, h2, h3⟩ := hs; exact ⟨Bx, h1, own3 (β := Unit) _ _ _ _ () A B row h2 hg hr, h3⟩) ?assign ?body ?done ?stop
 case assign =>
  rintro l pre x W K ⟨⟨s, h1, h2⟩, h3, h4⟩ hK
  simp only [encBx75]
  gi_wp2
  exact hK _ _ ((KeepsOthers.alloc _ _).from _) ((Below.refl _ W).alloc h4.size _) ⟨⟨s, blk_alloc h1 _, h2⟩, blk_alloc h3 _, h4.alloc h4.size _⟩ ⟨W.heap.size, blk_lt h1, World.alloc_heap_new W _, rfl⟩
 case body =>
  rintro l pre x a' W hl hr ⟨⟨s, h1, h2, h3⟩, h4, h5⟩ ⟨Bx, hBx, bX, rfl⟩ hlt
  have hl1 := blk_lt h1
  obtain ⟨hc0, hc1, hc2, hf0, hf1, hf2⟩ := cel3 h1
  obtain ⟨hd0, hd1, hd2, _, _, _⟩ := cel3 bX
  have H1 := Lib.hid h1
  have H3 := Lib.hid h3
  have H4 := Lib.hid h4
  have HX := Lib.hid bX
  clear h1 h3 h4 bX h2 hr
  by_cases hu : (addTx75 s x).Unknown = true
  ·gi_wp2_with (refine ⟨trivial, ?_⟩; gi_at_call 41; refine (CallsIn.inRound l (callsIn_wide.2 (add_callsx75 s x _))).mono ?_; rintro e w5 ⟨rfl, hb5⟩; have hs5 := blk_below H1.out hb5; obtain ⟨hg0, hg1, hg2, hk0, hk1, hk2⟩ := cel3 hs5; have HS5 := Lib.hid hs5; clear hs5; have HB5 := Lib.hid hb5; clear hb5)
   have g := round3 (w2 := w2) (by omega) h5 HB5.out (Nat.le_succ w.heap.size) (.int .i64 (addTx75 s x).Lo) (.int .i64 (addTx75 s x).Hi) (.bool true)
   refine ⟨g.1, rfl, ⟨addTx75 s x, by rw [hu]; exact put3 _ _ _ HS5.out, fun rest => ?_⟩, far3 (blk_below H4.out HB5.out) (by omega) _ _ _, h5.trans g.2⟩
   rw [List.append_assoc, H3.out]
   exact if_pos hu
  ·have hu' : (addTx75 s x).Unknown = false := by simpa using hu
   gi_wp2_with (refine ⟨trivial, ?_⟩; gi_at_call 41; refine (CallsIn.inRound l (callsIn_wide.2 (add_callsx75 s x _))).mono ?_; rintro e w5 ⟨rfl, hb5⟩; have hs5 := blk_below H1.out hb5; obtain ⟨hg0, hg1, hg2, hk0, hk1, hk2⟩ := cel3 hs5; have HS5 := Lib.hid hs5; clear hs5; have HB5 := Lib.hid hb5; clear hb5)
   have g := round3 (w2 := w2) (by omega) h5 HB5.out (Nat.le_succ w.heap.size) (.int .i64 (addTx75 s x).Lo) (.int .i64 (addTx75 s x).Hi) (.bool false)
   refine ⟨g.1, g.2, ⟨addTx75 s x, by rw [hu']; exact put3 _ _ _ HS5.out, hu', fun rest => ?_⟩, far3 (blk_below H4.out HB5.out) (by omega) _ _ _, h5.trans g.2⟩
   rw [List.append_assoc, H3.out]
   exact if_neg hu
 case done =>
  rintro D ys W hD rfl ⟨⟨s, h1, h2, h3⟩, h4, h5⟩ hK
  obtain ⟨hc0, hc1, hc2, hf0, hf1, hf2⟩ := cel3 h1
  obtain ⟨hd0, hd1, hd2, he0, he1, he2⟩ := cel3 h4
  gi_wp2
  have hS : bound_SumF ys ⟨0, 0, false⟩ = s := by have := h3 []; rwa [List.append_nil] at this
  have hK3 := ((KeepsOthers.setCell W ⟨w.heap.size, 0, none⟩ (.int .i64 s.Lo)).trans ((KeepsOthers.setCell _ ⟨w.heap.size, 1, none⟩ (.int .i64 s.Hi)).trans (KeepsOthers.setCell _ ⟨w.heap.size, 2, none⟩ (.bool false)))).same D _ hK rfl
  have hR := put3 (.int .i64 s.Lo) (.int .i64 s.Hi) (.bool false) h4
  have hB3 := (((Below.refl w.heap.size W).setCell (p := ⟨w.heap.size, 0, none⟩) (Nat.le_refl _) (.int .i64 s.Lo)).setCell (p := ⟨w.heap.size, 1, none⟩) (Nat.le_refl _) (.int .i64 s.Hi)).setCell (p := ⟨w.heap.size, 2, none⟩) (Nat.le_refl _) (.bool false)
  have hB4 := belowK_b (w := w) (n₀ := w.heap.size) (Nat.le_refl _) _ D _ (.deferred none) (by omega) hK3 rfl rfl
  have hR4 := ((grownBy_putObj' _ D (.deferred none)).block w.heap.size (blk_lt hR) (fun e => by cases e; omega)).trans hR
  refine ⟨by simp, .inl ⟨_, _, rfl, run_takeDeferred hK3, ?_⟩⟩
  refine ⟨_, results_cell_row rfl _ _ w.heap.size 33 _ (0, 0) _ rfl hR4 Try.underlying33 rfl (by kernel_rfl), ?_, (h5.trans hB3).trans hB4⟩
  rw [hS, h2]
 case stop =>
  rintro D c pre W hD hpre ⟨rfl, ⟨s, h1, h2⟩, h4, h5⟩ hK
  obtain ⟨rest, rfl⟩ := hpre
  have hS := h2 rest
  clear h2
  obtain ⟨hc0, hc1, hc2, hf0, hf1, hf2⟩ := cel3 h1
  obtain ⟨hd0, hd1, hd2, he0, he1, he2⟩ := cel3 h4
  have HS := Lib.hid hS
  clear hS
  gi_wp2
  have hK3 := ((KeepsOthers.setCell W ⟨w.heap.size, 0, none⟩ (.int .i64 s.Lo)).trans ((KeepsOthers.setCell _ ⟨w.heap.size, 1, none⟩ (.int .i64 s.Hi)).trans (KeepsOthers.setCell _ ⟨w.heap.size, 2, none⟩ (.bool s.Unknown)))).same D _ hK rfl
  have hR := put3 (.int .i64 s.Lo) (.int .i64 s.Hi) (.bool s.Unknown) h4
  have hB3 := (((Below.refl w.heap.size W).setCell (p := ⟨w.heap.size, 0, none⟩) (Nat.le_refl _) (.int .i64 s.Lo)).setCell (p := ⟨w.heap.size, 1, none⟩) (Nat.le_refl _) (.int .i64 s.Hi)).setCell (p := ⟨w.heap.size, 2, none⟩) (Nat.le_refl _) (.bool s.Unknown)
  have hB4 := belowK_b (w := w) (n₀ := w.heap.size) (Nat.le_refl _) _ D _ (.deferred none) (by omega) hK3 rfl rfl
  have hR4 := ((grownBy_putObj' _ D (.deferred none)).block w.heap.size (blk_lt hR) (fun e => by cases e; omega)).trans hR
  refine ⟨by simp, .inl ⟨_, _, rfl, run_takeDeferred hK3, ?_⟩⟩
  refine ⟨_, results_cell_row rfl _ _ w.heap.size 33 _ (0, 0) _ rfl hR4 Try.underlying33 rfl (by kernel_rfl), ?_, (h5.trans hB3).trans hB4⟩
  rw [HS.out]
theorem sum_callsx75 (A0 : Option Addr) (c0 : Nat) (l0 : List Bound) (hreach : l0.length * 24 ≤ 140737488351232) (w : World) (hr0 : RowBx75 w A0 l0) (hc0 : l0.length ≤ c0) :
  Calls Try.prog 75 #[.slice A0 l0.length c0] w fun e w' => e = .returned (.agg #[.int .i64 (bound_SumF l0 ⟨0, 0, false⟩).Lo, .int .i64 (bound_SumF l0 ⟨0, 0, false⟩).Hi, .bool (bound_SumF l0 ⟨0, 0, false⟩).Unknown]) ∧ Below w.heap.size w w' := by
 have hB : Below w.heap.size w ((w.alloc (.cells #[.int .i64 0, .int .i64 0, .bool false] 33)).alloc (.cells #[.slice A0 l0.length c0] 130)) := ((Below.refl _ w).alloc (Nat.le_refl _) _).alloc (by simp) _
 have h1 : ((w.alloc (.cells #[.int .i64 0, .int .i64 0, .bool false] 33)).alloc (.cells #[.slice A0 l0.length c0] 130)).heap[w.heap.size]? = some (.cells #[.int .i64 0, .int .i64 0, .bool false] 33 (0, 0)) := blk_alloc (World.alloc_heap_new w _) _
 have h2 : ((w.alloc (.cells #[.int .i64 0, .int .i64 0, .bool false] 33)).alloc (.cells #[.slice A0 l0.length c0] 130)).heap[w.heap.size + 1]? = some (.cells #[.slice A0 l0.length c0] 130 (0, 0)) := by
  have := World.alloc_heap_new (w.alloc (.cells #[.int .i64 0, .int .i64 0, .bool false] 33)) (.cells #[.slice A0 l0.length c0] 130)
  rwa [World.size_alloc] at this
 have hb0 : ∀ ad, A0 = some ad → 0 < l0.length → ad.block < w.heap.size := by
  intro ad e hp
  obtain ⟨ad', e', hx, _⟩ := hr0 0 hp
  rw [e] at e'; cases e'
  exact hx
 have T := total_Bx75 A0 c0 l0 hreach _ (w.heap.size + 1) (by simp) ((cel1 h2).1) (hr0.below hB) (fun ad e hp => Nat.lt_of_lt_of_le (hb0 ad e hp) hB.size)
 have H1 := Lib.hid h1
 have HB := Lib.hid hB
 clear h1 h2 hB hb0
 go_enter Try.func75, Try.ntmps75
 go_wp2_with (first | (go_at_call 89; refine (values_Bx75 _ _ _ _).mono ?_; rintro e w1 ⟨rfl, rfl⟩) | (go_at_call 88; refine T.mono ?_; rintro e w1 ⟨rfl, hb1⟩; have h3 := blk_below H1.out hb1; obtain ⟨hc0_, hc1_, hc2_, hf0, hf1, hf2⟩ := cel3 h3; have H3 := Lib.hid h3; have HB1 := Lib.hid hb1; clear h3 hb1))
 have hR := put3 (.int .i64 (bound_SumF l0 ⟨0, 0, false⟩).Lo) (.int .i64 (bound_SumF l0 ⟨0, 0, false⟩).Hi) (.bool (bound_SumF l0 ⟨0, 0, false⟩).Unknown) H3.out
 refine bodyPost_ret (results_cell_row rfl _ _ w.heap.size 33 _ (0, 0) _ rfl hR Try.underlying33 rfl (by kernel_rfl)) rfl ?_
 exact ⟨rfl, (((HB.out.trans (HB1.out.mono HB.out.size)).setCell (p := ⟨w.heap.size, 0, none⟩) (Nat.le_refl _) _).setCell (p := ⟨w.heap.size, 1, none⟩) (Nat.le_refl _) _).setCell (p := ⟨w.heap.size, 2, none⟩) (Nat.le_refl _) _⟩
theorem row_cellsx75 (l : List Bound) (k : Nat) (hk : k < l.length) : (l.flatMap (Cl.c false))[k * 3]? = some (.sc (.int .i64 l[k].Lo)) ∧ (l.flatMap (Cl.c false))[k * 3 + 1]? = some (.sc (.int .i64 l[k].Hi)) ∧ (l.flatMap (Cl.c false))[k * 3 + 2]? = some (.sc (.bool l[k].Unknown)) := by
 have h := flat_at false l k hk
 have e : l.getD k Cl.d = l[k] := by rw [List.getD_eq_getElem?_getD, List.getElem?_eq_getElem hk]; rfl
 rw [e] at h
 have h : ((l.flatMap (Cl.c false)).drop (k * 3)).take 3 = [.sc (.int .i64 l[k].Lo), .sc (.int .i64 l[k].Hi), .sc (.bool l[k].Unknown)] := h
 have g : ∀ i : Nat, i < 3 → (l.flatMap (Cl.c false))[k * 3 + i]? = ([.sc (.int .i64 l[k].Lo), .sc (.int .i64 l[k].Hi), .sc (.bool l[k].Unknown)] : List V)[i]? := fun i hi => by
  rw [← h, List.getElem?_take, if_pos hi, List.getElem?_drop]
 exact ⟨g 0 (by decide), g 1 (by decide), g 2 (by decide)⟩
theorem ok75 (l : List Bound) (r : Bound) (hR : bound_Sum l = some r) : FnP Try.prog 75 [rowV false l] (aggV (α := Bound) true r) := by
 unfold bound_Sum at hR
 split at hR
 ·rename_i hreach
  have hR := Option.some.inj hR
  subst hR
  refine fnP_in fun E W cargs hF ha => ?_
  simp only [RLs] at ha
  obtain ⟨c, ds, rfl, h1, rfl⟩ := ha
  unfold rowV at h1
  simp only [RL] at h1
  obtain ⟨a, cap, rfl, h2, h3, h4, h5⟩ := h1
  refine (sum_callsx75 a cap l hreach W (fun k hk => ?_) h2).mono ?_
  ·rcases h5 with h5 | ⟨B, o, rfl, _, h6⟩
   ·omega
   ·obtain ⟨g0, g1, g2⟩ := row_cellsx75 l k hk
    obtain ⟨d0, e0, f0⟩ := RF.get _ _ h6 _ _ g0
    obtain ⟨d1, e1, f1⟩ := RF.get _ _ h6 _ _ g1
    obtain ⟨d2, e2, f2⟩ := RF.get _ _ h6 _ _ g2
    simp only [RL] at f0 f1 f2
    subst f0; subst f1; subst f2
    have c0 := hF _ _ _ e0
    have c1 := hF _ _ _ e1
    have c2 := hF _ _ _ e2
    refine ⟨⟨B, o, none⟩, rfl, World.block_lt_of_cell? W ⟨B, o + k * 3, none⟩ c0, ?_, ?_, ?_⟩
    ·rw [addr_add]; exact c0
    ·rw [addr_add]; exact c1
    ·rw [addr_add]; exact c2
  ·rintro e w' ⟨rfl, hb⟩
   refine ⟨_, rfl, ?_, hb⟩
   unfold aggV
   simp only [RL]
   exact ⟨[.int .i64 (bound_SumF l ⟨0, 0, false⟩).Lo, .int .i64 (bound_SumF l ⟨0, 0, false⟩).Hi, .bool (bound_SumF l ⟨0, 0, false⟩).Unknown], rfl, rls_cons rl_sc (rls_cons rl_sc (rls_cons rl_sc rls_nil)), Cl.leaf true _⟩
 ·cases hR
end

theorem ok48 (v : Bound × Bound × Bound) (r : Bound) (hR : arc_Norm v = some r) : FnP Try.prog 48 [aggV false v] (aggV (α := Bound) true r) := by
 refine fnP_of (FnX.walk Try.func48 rfl 14 0 (by simp [Try.ntmps48]) rfl fun W S F Q hQ => ?_)
 unfold arc_Norm at hR
 refine AWP.sq (AWP.rgC 8 rfl rfl (bx (cs := _) 0 rfl rfl rfl (al (cs := [.sc (.int .i64 0), .sc (.int .i64 0), .sc (.bool false)]) 4 rfl rfl ti33 rfl rfl (RunC.fin (AWP.sq (AWP.rgD 56 [0, 1, 3, 0, 8, 31, 0, 64, 255, 511, 1023, 2047] ⟨[], [none, some [0], none, none, some [0], none, none, some [0], none, none, none, some [4]]⟩ hmix (by kernel_rfl) rfl rfl ?_))))))
 refine iaP (o' := 0) rfl rfl rfl ti67 rfl ti33 (by decide) rfl (ldB (v := .agg _) rfl rfl rfl rfl ti33 rfl rfl ?_)
 obtain ⟨r1, hr1, hR⟩ := bindE hR
 refine cls [] rfl rfl cb76 (ok76 v.1 _ hr1) (.cons (.agg .z3 rfl) (.nil)) (.inr rfl) rfl (iaP (o' := 3) rfl rfl rfl ti67 rfl ti33 (by decide) rfl (ldB (v := .agg _) rfl rfl rfl rfl ti33 rfl rfl ?_))
 obtain ⟨r2, hr2, hR⟩ := bindE hR
 refine cls [] rfl rfl cb76 (ok76 v.2.1 _ hr2) (.cons (.agg .z3 rfl) (.nil)) (.inr rfl) rfl (iaP (o' := 6) rfl rfl rfl ti67 rfl ti33 (by decide) rfl (ldB (v := .agg _) rfl rfl rfl rfl ti33 rfl rfl ?_))
 obtain ⟨r3, hr3, hR⟩ := bindE hR
 refine cls [] rfl rfl cb76 (ok76 v.2.2 _ hr3) (.cons (.agg .z3 rfl) (.nil)) (.inr rfl) rfl (bs (α := Bound) 44 true ([r1, r2, r3] : List Bound) rfl rfl ti130 rfl ti33 rfl rfl rfl rfl rfl ?_)
 obtain ⟨r4, hr4, hR⟩ := bindE hR
 refine cls [44] rfl rfl cb75 (ok75 ([r1, r2, r3] : List Bound) _ hr4) (.cons (ldS' rfl rfl rfl rfl) (.nil)) (.inl (by first | rfl | exact freshR | exact freshA | (simp only [V.fresh, V.freshs, freshR, freshA, Bool.and_self]))) rfl (stB (cs' := [.sc (.int .i64 r4.Lo), .sc (.int .i64 r4.Hi), .sc (.bool r4.Unknown)]) rfl rfl rfl rfl ti33 rfl rfl rfl rfl rfl (RunC.fin (AWP.ret ?_)))
 have hR := Option.some.inj hR; subst hR
 exact hQ _ _ (LS.mk [(2, .ptr 0 0 0)] (lblks 0 [boxB (α := Bound) true r4]) 1) (aggV (α := Bound) true r4) [] (.inr rfl) (Weak.turnL [(4, 0)] [] rfl rfl (tc (trP' rfl rfl rfl rfl) tn) (mc rfl (.box rfl .z3 rfl) mn)) (ro1 (rvC (v := aggV (α := Bound) true r4) rfl rfl ti33 rfl)) rfl rfl ldA pn
theorem ok80 (x : Int) (r : Bool) (hR : cmp_isNaN x = some r) : FnP Try.prog 80 [.sc (.int .i64 x)] (.sc (.bool r)) := by
 refine fnP_of (FnX.walk Try.func80 rfl 6 0 (by simp [Try.ntmps80]) rfl fun W S F Q hQ => ?_)
 unfold cmp_isNaN at hR
 refine AWP.sq (AWP.rgC 4 rfl rfl (pS rfl rfl (fun _ => rfl) (RunC.fin (AWP.sq (AWP.rgC 20 rfl rfl (pS rfl rfl (fun _ => rfl) (pS rfl rfl (fun _ => rfl) (pS rfl rfl (fun _ => rfl) (pS rfl rfl (fun _ => rfl) (RunC.fin (AWP.ret ?_)))))))))))
 have hR := Option.some.inj hR; subst hR
 exact hQ _ _ (LS.mk [(2, .sc (.bool (x != x)))] (lblks 0 []) 0) (.sc (.bool (x != x))) [] (.inr rfl) (Weak.turnL [] [] rfl rfl (tc (.sc _) tn) mn) (ro1 (rvT (v := .sc (.bool (x != x))) rfl)) rfl rfl (.sc _) pn
theorem ok57 (x : Int) (y : Int) (r : Int) (hR : cmp_Compare x y = some r) : FnP Try.prog 57 [.sc (.int .i64 x), .sc (.int .i64 y)] (.sc (.int .i64 r)) := by
 refine fnP_of (FnX.walk Try.func57 rfl 20 0 (by simp [Try.ntmps57]) rfl fun W S F Q hQ => ?_)
 unfold cmp_Compare at hR
 refine AWP.sq (AWP.rgC 4 rfl rfl (pS rfl rfl (fun _ => rfl) (RunC.fin (AWP.sq (AWP.rgC 16 rfl rfl (pS rfl rfl (fun _ => rfl) ?_))))))
 obtain ⟨r1, hr1, hR⟩ := bindE hR
 refine cls [] rfl rfl cb80 (ok80 x _ hr1) (.cons (.sc _) .nil) (.inr rfl) rfl (pS rfl rfl (fun _ => rfl) (RunC.fin (AWP.sq (AWP.rgC 28 rfl rfl (pS rfl rfl (fun _ => rfl) ?_)))))
 obtain ⟨r2, hr2, hR⟩ := bindE hR
 refine cls [] rfl rfl cb80 (ok80 y _ hr2) (.cons (.sc _) .nil) (.inr rfl) rfl (pS rfl rfl (fun _ => rfl) (RunC.fin (AWP.sq (AWP.sq (AWP.rgC 32 rfl rfl (pS rfl rfl (fun _ => rfl) (RunC.fin (AWP.cd hR rfl (fun h3 hR => ?_) fun h3 hR => ?_))))))))
 ·refine AWP.sq (AWP.sq (AWP.rgC 36 rfl rfl (pS rfl rfl (fun _ => rfl) (RunC.fin (AWP.cd hR rfl (fun h4 hR => ?_) fun h4 hR => ?_)))))
  ·refine AWP.sq (AWP.rgC 40 rfl rfl (pS rfl rfl (fun _ => rfl) (RunC.fin (AWP.ret (rtT (rtT ?_))))))
   have hR := Option.some.inj hR; subst hR
   exact hQ _ _ (LS.mk [(4, .sc (.int .i64 0))] (lblks 0 []) 0) (.sc (.int .i64 0)) [] (.inr rfl) (Weak.turnL [] [] rfl rfl (tc (.sc _) tn) mn) (ro1 (rvT (v := .sc (.int .i64 0)) rfl)) rfl rfl (.sc _) pn
  ·refine AWP.skip (skT (AWP.sq (AWP.rgC 40 rfl rfl (pS rfl rfl (fun _ => rfl) (RunC.fin (AWP.ret (rtT ?_)))))))
   have hR := Option.some.inj hR; subst hR
   exact hQ _ _ (LS.mk [(4, .sc (.int .i64 (-1)))] (lblks 0 []) 0) (.sc (.int .i64 (-1))) [] (.inr rfl) (Weak.turnL [] [] rfl rfl (tc (.sc _) tn) mn) (ro1 (rvT (v := .sc (.int .i64 (-1))) rfl)) rfl rfl (.sc _) pn
 ·refine AWP.skip (skT (AWP.sq (AWP.sq (AWP.rgC 36 rfl rfl (pS rfl rfl (fun _ => rfl) (RunC.fin (AWP.cd hR rfl (fun h5 hR => ?_) fun h5 hR => ?_)))))))
  ·refine AWP.sq (AWP.rgC 40 rfl rfl (pS rfl rfl (fun _ => rfl) (RunC.fin (AWP.ret (rtT ?_)))))
   have hR := Option.some.inj hR; subst hR
   exact hQ _ _ (LS.mk [(4, .sc (.int .i64 1))] (lblks 0 []) 0) (.sc (.int .i64 1)) [] (.inr rfl) (Weak.turnL [] [] rfl rfl (tc (.sc _) tn) mn) (ro1 (rvT (v := .sc (.int .i64 1)) rfl)) rfl rfl (.sc _) pn
  ·refine AWP.skip (skT (AWP.sq (AWP.sq (AWP.rgC 48 rfl rfl (pS rfl rfl (fun _ => rfl) (pS rfl rfl (fun _ => rfl) (pS rfl rfl (fun _ => rfl) (RunC.fin (AWP.cd hR rfl (fun h6 hR => ?_) fun h6 hR => ?_)))))))))
   ·refine AWP.sq (AWP.rgC 52 rfl rfl (pS rfl rfl (fun _ => rfl) (RunC.fin (AWP.ret (rtT ?_)))))
    have hR := Option.some.inj hR; subst hR
    exact hQ _ _ (LS.mk [(4, .sc (.int .i64 (-1)))] (lblks 0 []) 0) (.sc (.int .i64 (-1))) [] (.inr rfl) (Weak.turnL [] [] rfl rfl (tc (.sc _) tn) mn) (ro1 (rvT (v := .sc (.int .i64 (-1))) rfl)) rfl rfl (.sc _) pn
   ·refine AWP.skip (skT (AWP.sq (AWP.sq (AWP.rgC 60 rfl rfl (pS rfl rfl (fun _ => rfl) (pS rfl rfl (fun _ => rfl) (pS rfl rfl (fun _ => rfl) (RunC.fin (AWP.cd hR rfl (fun h7 hR => ?_) fun h7 hR => ?_)))))))))
    ·refine AWP.sq (AWP.rgC 64 rfl rfl (pS rfl rfl (fun _ => rfl) (RunC.fin (AWP.ret (rtT ?_)))))
     have hR := Option.some.inj hR; subst hR
     exact hQ _ _ (LS.mk [(4, .sc (.int .i64 1))] (lblks 0 []) 0) (.sc (.int .i64 1)) [] (.inr rfl) (Weak.turnL [] [] rfl rfl (tc (.sc _) tn) mn) (ro1 (rvT (v := .sc (.int .i64 1)) rfl)) rfl rfl (.sc _) pn
    ·refine AWP.skip (skT (AWP.sq (AWP.rgC 64 rfl rfl (pS rfl rfl (fun _ => rfl) (RunC.fin (AWP.ret ?_))))))
     have hR := Option.some.inj hR; subst hR
     exact hQ _ _ (LS.mk [(4, .sc (.int .i64 0))] (lblks 0 []) 0) (.sc (.int .i64 0)) [] (.inr rfl) (Weak.turnL [] [] rfl rfl (tc (.sc _) tn) mn) (ro1 (rvT (v := .sc (.int .i64 0)) rfl)) rfl rfl (.sc _) pn
theorem ok81 (x : Int) (r : Bool) (hR : cmp_isNaN x = some r) : FnP Try.prog 81 [.sc (.int .u64 x)] (.sc (.bool r)) := by
 refine fnP_of (FnX.walk Try.func81 rfl 6 0 (by simp [Try.ntmps81]) rfl fun W S F Q hQ => ?_)
 unfold cmp_isNaN at hR
 refine AWP.sq (AWP.rgC 4 rfl rfl (pS rfl rfl (fun _ => rfl) (RunC.fin (AWP.sq (AWP.rgC 20 rfl rfl (pS rfl rfl (fun _ => rfl) (pS rfl rfl (fun _ => rfl) (pS rfl rfl (fun _ => rfl) (pS rfl rfl (fun _ => rfl) (RunC.fin (AWP.ret ?_)))))))))))
 have hR := Option.some.inj hR; subst hR
 exact hQ _ _ (LS.mk [(2, .sc (.bool (x != x)))] (lblks 0 []) 0) (.sc (.bool (x != x))) [] (.inr rfl) (Weak.turnL [] [] rfl rfl (tc (.sc _) tn) mn) (ro1 (rvT (v := .sc (.bool (x != x))) rfl)) rfl rfl (.sc _) pn
theorem ok58 (x : Int) (y : Int) (r : Int) (hR : cmp_Compare x y = some r) : FnP Try.prog 58 [.sc (.int .u64 x), .sc (.int .u64 y)] (.sc (.int .i64 r)) := by
 refine fnP_of (FnX.walk Try.func58 rfl 20 0 (by simp [Try.ntmps58]) rfl fun W S F Q hQ => ?_)
 unfold cmp_Compare at hR
 refine AWP.sq (AWP.rgC 4 rfl rfl (pS rfl rfl (fun _ => rfl) (RunC.fin (AWP.sq (AWP.rgC 16 rfl rfl (pS rfl rfl (fun _ => rfl) ?_))))))
 obtain ⟨r1, hr1, hR⟩ := bindE hR
 refine cls [] rfl rfl cb81 (ok81 x _ hr1) (.cons (.sc _) .nil) (.inr rfl) rfl (pS rfl rfl (fun _ => rfl) (RunC.fin (AWP.sq (AWP.rgC 28 rfl rfl (pS rfl rfl (fun _ => rfl) ?_)))))
 obtain ⟨r2, hr2, hR⟩ := bindE hR
 refine cls [] rfl rfl cb81 (ok81 y _ hr2) (.cons (.sc _) .nil) (.inr rfl) rfl (pS rfl rfl (fun _ => rfl) (RunC.fin (AWP.sq (AWP.sq (AWP.rgC 32 rfl rfl (pS rfl rfl (fun _ => rfl) (RunC.fin (AWP.cd hR rfl (fun h3 hR => ?_) fun h3 hR => ?_))))))))
 ·refine AWP.sq (AWP.sq (AWP.rgC 36 rfl rfl (pS rfl rfl (fun _ => rfl) (RunC.fin (AWP.cd hR rfl (fun h4 hR => ?_) fun h4 hR => ?_)))))
  ·refine AWP.sq (AWP.rgC 40 rfl rfl (pS rfl rfl (fun _ => rfl) (RunC.fin (AWP.ret (rtT (rtT ?_))))))
   have hR := Option.some.inj hR; subst hR
   exact hQ _ _ (LS.mk [(4, .sc (.int .i64 0))] (lblks 0 []) 0) (.sc (.int .i64 0)) [] (.inr rfl) (Weak.turnL [] [] rfl rfl (tc (.sc _) tn) mn) (ro1 (rvT (v := .sc (.int .i64 0)) rfl)) rfl rfl (.sc _) pn
  ·refine AWP.skip (skT (AWP.sq (AWP.rgC 40 rfl rfl (pS rfl rfl (fun _ => rfl) (RunC.fin (AWP.ret (rtT ?_)))))))
   have hR := Option.some.inj hR; subst hR
   exact hQ _ _ (LS.mk [(4, .sc (.int .i64 (-1)))] (lblks 0 []) 0) (.sc (.int .i64 (-1))) [] (.inr rfl) (Weak.turnL [] [] rfl rfl (tc (.sc _) tn) mn) (ro1 (rvT (v := .sc (.int .i64 (-1))) rfl)) rfl rfl (.sc _) pn
 ·refine AWP.skip (skT (AWP.sq (AWP.sq (AWP.rgC 36 rfl rfl (pS rfl rfl (fun _ => rfl) (RunC.fin (AWP.cd hR rfl (fun h5 hR => ?_) fun h5 hR => ?_)))))))
  ·refine AWP.sq (AWP.rgC 40 rfl rfl (pS rfl rfl (fun _ => rfl) (RunC.fin (AWP.ret (rtT ?_)))))
   have hR := Option.some.inj hR; subst hR
   exact hQ _ _ (LS.mk [(4, .sc (.int .i64 1))] (lblks 0 []) 0) (.sc (.int .i64 1)) [] (.inr rfl) (Weak.turnL [] [] rfl rfl (tc (.sc _) tn) mn) (ro1 (rvT (v := .sc (.int .i64 1)) rfl)) rfl rfl (.sc _) pn
  ·refine AWP.skip (skT (AWP.sq (AWP.sq (AWP.rgC 48 rfl rfl (pS rfl rfl (fun _ => rfl) (pS rfl rfl (fun _ => rfl) (pS rfl rfl (fun _ => rfl) (RunC.fin (AWP.cd hR rfl (fun h6 hR => ?_) fun h6 hR => ?_)))))))))
   ·refine AWP.sq (AWP.rgC 52 rfl rfl (pS rfl rfl (fun _ => rfl) (RunC.fin (AWP.ret (rtT ?_)))))
    have hR := Option.some.inj hR; subst hR
    exact hQ _ _ (LS.mk [(4, .sc (.int .i64 (-1)))] (lblks 0 []) 0) (.sc (.int .i64 (-1))) [] (.inr rfl) (Weak.turnL [] [] rfl rfl (tc (.sc _) tn) mn) (ro1 (rvT (v := .sc (.int .i64 (-1))) rfl)) rfl rfl (.sc _) pn
   ·refine AWP.skip (skT (AWP.sq (AWP.sq (AWP.rgC 60 rfl rfl (pS rfl rfl (fun _ => rfl) (pS rfl rfl (fun _ => rfl) (pS rfl rfl (fun _ => rfl) (RunC.fin (AWP.cd hR rfl (fun h7 hR => ?_) fun h7 hR => ?_)))))))))
    ·refine AWP.sq (AWP.rgC 64 rfl rfl (pS rfl rfl (fun _ => rfl) (RunC.fin (AWP.ret (rtT ?_)))))
     have hR := Option.some.inj hR; subst hR
     exact hQ _ _ (LS.mk [(4, .sc (.int .i64 1))] (lblks 0 []) 0) (.sc (.int .i64 1)) [] (.inr rfl) (Weak.turnL [] [] rfl rfl (tc (.sc _) tn) mn) (ro1 (rvT (v := .sc (.int .i64 1)) rfl)) rfl rfl (.sc _) pn
    ·refine AWP.skip (skT (AWP.sq (AWP.rgC 64 rfl rfl (pS rfl rfl (fun _ => rfl) (RunC.fin (AWP.ret ?_))))))
     have hR := Option.some.inj hR; subst hR
     exact hQ _ _ (LS.mk [(4, .sc (.int .i64 0))] (lblks 0 []) 0) (.sc (.int .i64 0)) [] (.inr rfl) (Weak.turnL [] [] rfl rfl (tc (.sc _) tn) mn) (ro1 (rvT (v := .sc (.int .i64 0)) rfl)) rfl rfl (.sc _) pn
theorem ok56 (vals : List Int) (r : Int) (hR : cmp_Or vals = some r) : FnP Try.prog 56 [rowV false vals] (.sc (.int .i64 r)) := by
 refine fnP_of (FnX.walk Try.func56 rfl 18 0 (by simp [Try.ntmps56]) rfl fun W S F Q hQ => ?_)
 unfold cmp_Or at hR
 refine AWP.sq (AWP.rgC 4 rfl rfl (pS rfl rfl (fun _ => rfl) (RunC.fin (AWP.sq (AWP.rgC 8 rfl rfl (pS rfl rfl (fun _ => rfl) (RunC.fin (AWP.sq (AWP.sq (AWP.rgC 20 rfl rfl (pu (v := rowV _ vals) rfl rfl (fun _ => rfl) (lenL (α := Int) rfl rfl ti22 rfl ?_))))))))))))
 refine pS rfl rfl (fun _ => rfl) (RunC.fin (AWP.loopK' (fun s1 : Int => LS.mk [(3, .sc (.int .i64 0)), (6, rowV (α := Int) false vals), (7, .sc (.int .i64 (vals.length : Int))), (8, .sc (.int .i64 s1))] (lblks 0 []) 0) (fun z2 : Unit => LS.mk [(3, .sc (.int .i64 0))] (lblks 0 []) 0) (cmp_Or.l1 vals) hR (s0 := 0) (Weak.turnL [] [] rfl rfl (tc (.sc _) (tc trR1 (tc (.sc _) (tc (.sc _) tn)))) mn) (fun s1 o1 hR hE1 => ?_) fun z2 hR => ?_))
 ·unfold cmp_Or.l1 at hR
  refine AWP.sq (AWP.rgC 4 rfl rfl (pS rfl rfl (fun _ => rfl) (RunC.fin (AWP.sq (AWP.cd hR rfl (fun h3 hR => ?_) fun h3 hR => ?_)))))
  ·refine AWP.skip (skT (AWP.sq (AWP.block (AWP.sq (AWP.rgC 16 rfl rfl ?_)))))
   obtain ⟨h4, hR⟩ := chkE hR
   refine ixL (α := Int) rfl rfl rfl ti22 rfl ti3 rfl h4 ?_
   refine ldR (v := .sc _) rfl rfl ti3 rfl ?_
   refine pS rfl rfl (fun _ => rfl) (RunC.fin (AWP.sq (AWP.rgC 28 rfl rfl (pS rfl rfl (fun _ => rfl) (pS rfl rfl (fun _ => rfl) (pS rfl rfl (fun _ => rfl) (RunC.fin (AWP.cd hR rfl (fun h5 hR => ?_) fun h5 hR => ?_))))))))
   ·refine AWP.sq (AWP.rgC 36 rfl rfl (pS rfl rfl (fun _ => rfl) (pS rfl rfl (fun _ => rfl) (RunC.fin (AWP.ret (rtB (rtT (rtT (rtB (rtT ?_))))))))))
    replace hR := escL hR hE1
    refine rtT ?_
    have hR := Option.some.inj hR; subst hR
    exact hQ _ _ (LS.mk [(2, .sc (.int .i64 (gt vals s1)))] (lblks 0 []) 0) (.sc (.int .i64 (gt vals s1))) [] (.inr rfl) (Weak.turnL [] [] rfl rfl (tc (.sc _) tn) mn) (ro1 (rvT (v := .sc (.int .i64 (gt vals s1))) rfl)) rfl rfl (.sc _) pn
   ·refine AWP.skip (skB ?_)
    refine skT (AWP.rgC 36 rfl rfl (pS rfl rfl (fun _ => rfl) (pS rfl rfl (fun _ => rfl) (RunC.fin (⟨(w6 (s1 + 1)), (Option.some.inj hR).symm, ?_⟩)))))
    exact Weak.turnL [] [] rfl rfl (tc (.sc _) (tc trR1 (tc (.sc _) (tc (.sc _) tn)))) mn
  ·refine AWP.exit (exT (exT (exH (skT (⟨(), (Option.some.inj hR).symm, ?_⟩)))))
   exact Weak.turnL [] [] rfl rfl (tc (.sc _) tn) mn
 ·refine skT (AWP.sq (AWP.rgC 8 rfl rfl (pS rfl rfl (fun _ => rfl) (pS rfl rfl (fun _ => rfl) (RunC.fin (AWP.ret ?_))))))
  have hR := Option.some.inj hR; subst hR
  exact hQ _ _ (LS.mk [(2, .sc (.int .i64 0))] (lblks 0 []) 0) (.sc (.int .i64 0)) [] (.inr rfl) (Weak.turnL [] [] rfl rfl (tc (.sc _) tn) mn) (ro1 (rvT (v := .sc (.int .i64 0)) rfl)) rfl rfl (.sc _) pn
theorem ok32 (w : num_Wide) (v : num_Wide) (r : Int) (hR : Wide_Cmp w v = some r) : FnP Try.prog 32 [aggV false w, aggV false v] (.sc (.int .i64 r)) := by
 refine fnP_of (FnX.walk Try.func32 rfl 17 0 (by simp [Try.ntmps32]) rfl fun W S F Q hQ => ?_)
 unfold Wide_Cmp at hR
 refine AWP.sq (AWP.rgC 12 rfl rfl (bx (cs := _) 0 rfl rfl rfl (bx (cs := _) 4 rfl rfl rfl (pS rfl rfl (fun _ => rfl) (RunC.fin (AWP.sq (AWP.rgD 64 [0, 1, 0, 4, 15, 0, 32, 0, 128, 511, 1023, 2047, 4095] ⟨[], [none, some [0], none, some [4], none, none, some [0], none, some [4], none, none, none, none]⟩ hmix (by kernel_rfl) rfl rfl ?_)))))))
 refine fa rfl rfl ti90 rfl rfl ti2 rfl (ldB (v := .sc _) rfl rfl rfl rfl ti2 rfl rfl (fa rfl rfl ti90 rfl rfl ti2 rfl (ldB (v := .sc _) rfl rfl rfl rfl ti2 rfl rfl ?_)))
 obtain ⟨r1, hr1, hR⟩ := bindE hR
 refine cls [] rfl rfl cb57 (ok57 w.Hi v.Hi _ hr1) .z2 (.inr rfl) rfl (fa rfl rfl ti90 rfl rfl ti88 rfl (ldB (v := .sc _) rfl rfl rfl rfl ti88 rfl rfl (fa rfl rfl ti90 rfl rfl ti88 rfl (ldB (v := .sc _) rfl rfl rfl rfl ti88 rfl rfl ?_))))
 obtain ⟨r2, hr2, hR⟩ := bindE hR
 refine cls [] rfl rfl cb58 (ok58 w.Lo.n v.Lo.n _ hr2) .z2 (.inr rfl) rfl (bs (α := Int) 52 true ([r1, r2] : List Int) rfl rfl ti22 rfl ti3 rfl rfl rfl rfl rfl ?_)
 obtain ⟨r3, hr3, hR⟩ := bindE hR
 refine cls [52] rfl rfl cb56 (ok56 ([r1, r2] : List Int) _ hr3) (.cons (ldS' rfl rfl rfl rfl) (.nil)) (.inl (by first | rfl | exact freshR | exact freshA | (simp only [V.fresh, V.freshs, freshR, freshA, Bool.and_self]))) rfl (pS rfl rfl (fun _ => rfl) (RunC.fin (AWP.ret ?_)))
 have hR := Option.some.inj hR; subst hR
 exact hQ _ _ (LS.mk [(4, .sc (.int .i64 r3))] (lblks 0 []) 0) (.sc (.int .i64 r3)) [] (.inr rfl) (Weak.turnL [] [] rfl rfl (tc (.sc _) tn) mn) (ro1 (rvT (v := .sc (.int .i64 r3)) rfl)) rfl rfl (.sc _) pn
theorem ok47 (a : Bound) (unit : Int) (r : Bound) (hR : bound_Root a unit = some r) : FnP Try.prog 47 [aggV false a, .sc (.int .i64 unit)] (aggV (α := Bound) true r) := by
 refine fnP_of (FnX.walk Try.func47 rfl 43 0 (by simp [Try.ntmps47]) rfl fun W S F Q hQ => ?_)
 unfold bound_Root at hR
 refine AWP.sq (AWP.rgC 8 rfl rfl (bx (cs := _) 0 rfl rfl rfl (al (cs := [.sc (.int .i64 0), .sc (.int .i64 0), .sc (.bool false)]) 4 rfl rfl ti33 rfl rfl (RunC.fin (AWP.sq (AWP.joinX (fun z1 : Bool => LS.mk [(1, .sc (.int .i64 unit)), (2, .ptr 0 0 0), (4, .ptr 1 0 0), (18, .sc (.bool z1))] (lblks 0 [boxB (α := Bound) true a, boxB (α := Bound) true (Bound.mk 0 0 false)]) 2) hR (fun o1 hR => ?_) fun z1 hR => ?_))))))
 ·refine AWP.rgC 56 rfl rfl (ldB (v := .agg _) rfl rfl rfl rfl ti33 rfl rfl (ldB (v := .agg _) rfl rfl rfl rfl ti33 rfl rfl ?_))
  obtain ⟨r2, hr2, hR⟩ := bindE hR
  refine cls [] rfl rfl cb51 (ok51 a a _ hr2) (.cons (.agg .z3 rfl) (.cons (.agg .z3 rfl) (.nil))) (.inr rfl) rfl (pS rfl rfl (fun _ => rfl) (brR hR (fun h3 hR => ?_) fun h3 hR => ?_))
  ·refine sk (skW rfl rfl rfl h3) (sk (skW rfl rfl rfl h3) (pkT (v := .sc (.bool true)) rfl rfl h3 rfl (pS rfl rfl (fun _ => rfl) (sk (skW rfl rfl rfl rfl) (sk (skW rfl rfl rfl rfl) (sk (skW rfl rfl rfl rfl) (pkT (v := .sc (.bool true)) rfl rfl rfl rfl (RunC.fin ?_))))))))
   have hR := Option.some.inj hR; subst hR
   exact Weak.turnL [(0, 0), (4, 0)] [] rfl rfl (tc (.sc _) (tc (trP' rfl rfl rfl rfl) (tc (trP' rfl rfl rfl rfl) (tc (.sc _) tn)))) (mc rfl (.box rfl .z3 rfl) (mc rfl (.box rfl .z3 rfl) mn))
  ·refine pu (v := .sc _) (wtG rfl rfl rfl h3) rfl (fun _ => rfl) (pu (v := .sc _) (wtG rfl rfl rfl h3) rfl (fun _ => rfl) (pkF (v := .sc (.bool (decide (unit < 1)))) rfl rfl h3 rfl (pS rfl rfl (fun _ => rfl) (brR hR (fun h4 hR => ?_) fun h4 hR => ?_))))
   ·refine sk (skW rfl rfl rfl h4) (sk (skW rfl rfl rfl h4) (sk (skW rfl rfl rfl h4) (pkT (v := .sc (.bool true)) rfl rfl h4 rfl (RunC.fin ?_))))
    have hR := Option.some.inj hR; subst hR
    exact Weak.turnL [(0, 0), (4, 0)] [] rfl rfl (tc (.sc _) (tc (trP' rfl rfl rfl rfl) (tc (trP' rfl rfl rfl rfl) (tc (.sc _) tn)))) (mc rfl (.box rfl .z3 rfl) (mc rfl (.box rfl .z3 rfl) mn))
   ·refine fa (wtG rfl rfl rfl h4) rfl ti33 rfl rfl ti31 rfl (ldB (v := .sc _) (wtG rfl rfl rfl h4) rfl rfl rfl ti31 rfl rfl (pu (v := .sc _) (wtG rfl rfl rfl h4) rfl (fun _ => rfl) (pkF (v := .sc (.bool (decide (a.Hi < 0)))) rfl rfl h4 rfl (RunC.fin ?_))))
    have hR := Option.some.inj hR; subst hR
    exact Weak.turnL [(0, 0), (4, 0)] [] rfl rfl (tc (.sc _) (tc (trP' rfl rfl rfl rfl) (tc (trP' rfl rfl rfl rfl) (tc (.sc _) tn)))) (mc rfl (.box rfl .z3 rfl) (mc rfl (.box rfl .z3 rfl) mn))
 ·refine AWP.cd hR rfl (fun h5 hR => ?_) fun h5 hR => ?_
  ·refine AWP.sq (AWP.rgC 10 rfl rfl ?_)
   obtain ⟨r6, hr6, hR⟩ := bindE hR
   refine cls [] rfl rfl cb26 (ok26 _ hr6) (.nil) (.inr rfl) rfl (stB (cs' := [.sc (.int .i64 r6.Lo), .sc (.int .i64 r6.Hi), .sc (.bool r6.Unknown)]) rfl rfl rfl rfl ti33 rfl rfl rfl rfl rfl (RunC.fin (AWP.ret (rtT ?_))))
   have hR := Option.some.inj hR; subst hR
   exact hQ _ _ (LS.mk [(4, .ptr 0 0 0)] (lblks 0 [boxB (α := Bound) true r6]) 1) (aggV (α := Bound) true r6) [] (.inr rfl) (Weak.turnL [(1, 0)] [] rfl rfl (tc (trP' rfl rfl rfl rfl) tn) (mc rfl (.box rfl .z3 rfl) mn)) (ro1 (rvC (v := aggV (α := Bound) true r6) rfl rfl ti33 rfl)) rfl rfl ldA pn
  ·refine AWP.skip (skT (AWP.sq (AWP.rgD 46 [0, 1, 3, 0, 15, 0, 32, 0, 255, 511, 1023] ⟨[], [none, some [0], none, none, none, none, some [0], none, none, none, none]⟩ hmix (by kernel_rfl) rfl rfl ?_)))
   refine fa rfl rfl ti33 rfl rfl ti31 rfl (ldB (v := .sc _) rfl rfl rfl rfl ti31 rfl rfl (pS rfl rfl (fun _ => rfl) (pS rfl rfl (fun _ => rfl) ?_)))
   obtain ⟨r7, hr7, hR⟩ := bindE hR
   refine cls [] rfl rfl cb74 (ok74 (mx2 a.Lo 0) unit _ hr7) .z2 (.inr rfl) rfl (fa rfl rfl ti33 rfl rfl ti31 rfl (ldB (v := .sc _) rfl rfl rfl rfl ti31 rfl rfl (pS rfl rfl (fun _ => rfl) ?_)))
   obtain ⟨r8, hr8, hR⟩ := bindE hR
   refine cls [] rfl rfl cb74 (ok74 a.Hi unit _ hr8) .z2 (.inr rfl) rfl (pS rfl rfl (fun _ => rfl) (pS rfl rfl (fun _ => rfl) (RunC.fin (AWP.sq (AWP.sq (AWP.rgD 82 [0, 0, 3, 0, 8, 0, 63, 127, 255] ⟨[], [none, none, none, none, some [0], none, none, none, none]⟩ hmix (by kernel_rfl) rfl rfl ?_))))))
   refine pS rfl rfl (fun _ => rfl) (pS rfl rfl (fun _ => rfl) ?_)
   obtain ⟨r9, hr9, hR⟩ := bindE hR
   refine cls [] rfl rfl cb31 (ok31 r8 r8 _ hr9) .z2 (.inr rfl) rfl (fa rfl rfl ti33 rfl rfl ti31 rfl (ldB (v := .sc _) rfl rfl rfl rfl ti31 rfl rfl (pS rfl rfl (fun _ => rfl) ?_)))
   obtain ⟨r10, hr10, hR⟩ := bindE hR
   refine cls [] rfl rfl cb31 (ok31 a.Hi unit _ hr10) .z2 (.inr rfl) rfl ?_
   obtain ⟨r11, hr11, hR⟩ := bindE hR
   refine cls [] rfl rfl cb32 (ok32 r9 r10 _ hr11) (.cons (.agg .z2 rfl) (.cons (.agg .z2 rfl) (.nil))) (.inr rfl) rfl (pS rfl rfl (fun _ => rfl) (RunC.fin (AWP.cd hR rfl (fun h12 hR => ?_) fun h12 hR => ?_)))
   ·refine AWP.rgC 94 rfl rfl (pS rfl rfl (fun _ => rfl) (pS rfl rfl (fun _ => rfl) (pS rfl rfl (fun _ => rfl) (RunC.fin (AWP.sq (AWP.rgC 110 rfl rfl (pS rfl rfl (fun _ => rfl) (pS rfl rfl (fun _ => rfl) ?_))))))))
    obtain ⟨r13, hr13, hR⟩ := bindE hR
    refine cls [] rfl rfl cb52 (ok52 r7 (w6 (r8 + 1)) _ hr13) .z2 (.inr rfl) rfl (stB (cs' := [.sc (.int .i64 r13.Lo), .sc (.int .i64 r13.Hi), .sc (.bool r13.Unknown)]) rfl rfl rfl rfl ti33 rfl rfl rfl rfl rfl (RunC.fin (AWP.ret ?_)))
    have hR := Option.some.inj hR; subst hR
    exact hQ _ _ (LS.mk [(4, .ptr 0 0 0)] (lblks 0 [boxB (α := Bound) true r13]) 1) (aggV (α := Bound) true r13) [] (.inr rfl) (Weak.turnL [(1, 0)] [] rfl rfl (tc (trP' rfl rfl rfl rfl) tn) (mc rfl (.box rfl .z3 rfl) mn)) (ro1 (rvC (v := aggV (α := Bound) true r13) rfl rfl ti33 rfl)) rfl rfl ldA pn
   ·refine AWP.skip (skT (AWP.sq (AWP.rgC 98 rfl rfl (pS rfl rfl (fun _ => rfl) (pS rfl rfl (fun _ => rfl) ?_)))))
    obtain ⟨r14, hr14, hR⟩ := bindE hR
    refine cls [] rfl rfl cb52 (ok52 r7 r8 _ hr14) .z2 (.inr rfl) rfl (stB (cs' := [.sc (.int .i64 r14.Lo), .sc (.int .i64 r14.Hi), .sc (.bool r14.Unknown)]) rfl rfl rfl rfl ti33 rfl rfl rfl rfl rfl (RunC.fin (AWP.ret ?_)))
    have hR := Option.some.inj hR; subst hR
    exact hQ _ _ (LS.mk [(4, .ptr 0 0 0)] (lblks 0 [boxB (α := Bound) true r14]) 1) (aggV (α := Bound) true r14) [] (.inr rfl) (Weak.turnL [(1, 0)] [] rfl rfl (tc (trP' rfl rfl rfl rfl) tn) (mc rfl (.box rfl .z3 rfl) mn)) (ro1 (rvC (v := aggV (α := Bound) true r14) rfl rfl ti33 rfl)) rfl rfl ldA pn
theorem ok77 (x : Int) (y : Int) (p2 : Int) (r : Int × Int) (hR : bound_Div_1 x y p2 = some r) : FnP Try.prog 77 [.sc (.int .i64 x), .sc (.int .i64 y), .rp (Cl.c false p2)] (.tup [.sc (.int .i64 r.1), .sc (.int .i64 r.2)]) := by
 refine fnP_of (FnX.walk Try.func77 rfl 13 0 (by simp [Try.ntmps77]) rfl fun W S F Q hQ => ?_)
 unfold bound_Div_1 at hR
 refine AWP.sq (AWP.rgC 8 rfl rfl (pS rfl rfl (fun _ => rfl) (pS rfl rfl (fun _ => rfl) (RunC.fin (AWP.sq (AWP.rgC 40 rfl rfl (pS rfl rfl (fun _ => rfl) (ldR (v := .sc _) rfl rfl ti2 rfl ?_))))))))
 refine pS rfl rfl (fun _ => rfl) ?_
 obtain ⟨r1, hr1, hR⟩ := bindE hR
 refine cls [] rfl rfl cb62 (ok62 x p2 y _ hr1) .z3 (.inr rfl) rfl (pS rfl rfl (fun _ => rfl) (pS rfl rfl (fun _ => rfl) (pS rfl rfl (fun _ => rfl) (pS rfl rfl (fun _ => rfl) (RunC.fin (AWP.ret ?_))))))
 have hR := Option.some.inj hR; subst hR
 exact hQ _ _ (LS.mk [(5, .sc (.int .i64 r1.1)), (6, .sc (.int .i64 r1.2))] (lblks 0 []) 0) (.tup [.sc (.int .i64 r1.1), .sc (.int .i64 r1.2)]) [] (.inr rfl) (Weak.turnL [] [] rfl rfl (tc (.sc _) (tc (.sc _) tn)) mn) (ro2 (rvT (v := .sc (.int .i64 r1.1)) rfl) (rvT (v := .sc (.int .i64 r1.2)) rfl)) rfl rfl (.tup .z2) pn
theorem ok78 (x : Int) (y : Int) (p2 : Int) (r : Int × Int) (hR : bound_Div_2 x y p2 = some r) : FnP Try.prog 78 [.sc (.int .i64 x), .sc (.int .i64 y), .rp (Cl.c false p2)] (.tup [.sc (.int .i64 r.1), .sc (.int .i64 r.2)]) := by
 refine fnP_of (FnX.walk Try.func78 rfl 13 0 (by simp [Try.ntmps78]) rfl fun W S F Q hQ => ?_)
 unfold bound_Div_2 at hR
 refine AWP.sq (AWP.rgC 8 rfl rfl (pS rfl rfl (fun _ => rfl) (pS rfl rfl (fun _ => rfl) (RunC.fin (AWP.sq (AWP.rgC 40 rfl rfl (pS rfl rfl (fun _ => rfl) (ldR (v := .sc _) rfl rfl ti2 rfl ?_))))))))
 refine pS rfl rfl (fun _ => rfl) ?_
 obtain ⟨r1, hr1, hR⟩ := bindE hR
 refine cls [] rfl rfl cb70 (ok70 x p2 y _ hr1) .z3 (.inr rfl) rfl (pS rfl rfl (fun _ => rfl) (pS rfl rfl (fun _ => rfl) (pS rfl rfl (fun _ => rfl) (pS rfl rfl (fun _ => rfl) (RunC.fin (AWP.ret ?_))))))
 have hR := Option.some.inj hR; subst hR
 exact hQ _ _ (LS.mk [(5, .sc (.int .i64 r1.1)), (6, .sc (.int .i64 r1.2))] (lblks 0 []) 0) (.tup [.sc (.int .i64 r1.1), .sc (.int .i64 r1.2)]) [] (.inr rfl) (Weak.turnL [] [] rfl rfl (tc (.sc _) (tc (.sc _) tn)) mn) (ro2 (rvT (v := .sc (.int .i64 r1.1)) rfl) (rvT (v := .sc (.int .i64 r1.2)) rfl)) rfl rfl (.tup .z2) pn
end Go.Proofs.Prs
