/- Each function of the program computes its plain function. Conditions: as each theorem states them. -/
import Derived.Test.YtijiomgafcolhaaA4
import Derived.Test.YtijiomgafcolhaaT
import Derived.Test.YtijiomgafcolhaaP0
namespace Go.Proofs.Met
open Go Go.Abs Lf
set_option linter.unusedVariables false
set_option linter.unusedSimpArgs false
set_option maxRecDepth 100000
set_option maxHeartbeats 1000000
theorem ok10 (r : Bool) (hR : spykeep4_weighed = some r) : FnP Try.prog 10 [] (.sc (.bool r)) := by
  refine fnP_of (FnX.walk Try.func10 rfl 18 0 (by simp [Try.ntmps10]) rfl fun W S F Q hQ => ?_)
  unfold spykeep4_weighed at hR
  refine AWP.sq ?_
  refine AWP.rgC 4 rfl rfl ?_
  refine pu (v := .sc _) rfl rfl (fun _ => rfl) ?_
  refine RunC.fin ?_
  refine AWP.sq ?_
  refine AWP.rgC 48 rfl rfl ?_
  refine bs (α := Int) 4 true ([0, 10] : List Int) rfl rfl ti58 rfl ti38 rfl rfl rfl rfl rfl ?_
  refine bu (cs := [.sc (.int .i64 1), .sc (.int .i64 1), .sc (.bool false)]) rfl bt36 rfl ?_
  refine bu (cs := [.sc (.int .i64 1), .sc (.int .i64 3), .sc (.bool false)]) rfl bt36 rfl ?_
  refine bs (α := Bound) 16 true ([Bound.mk 1 1 false, Bound.mk 1 3 false] : List Bound) rfl rfl ti31 rfl ti36 rfl rfl rfl rfl rfl ?_
  obtain ⟨r1, hr1, hR⟩ := bindE hR
  refine cls [4, 16] rfl rfl cb17 (ok17 ([0, 10] : List Int) ([Bound.mk 1 1 false, Bound.mk 1 3 false] : List Bound) _ hr1) (.cons (ldS' rfl rfl rfl rfl) (.cons (ldS' rfl rfl rfl rfl) (.nil))) (.inl (by first | rfl | exact freshR | exact freshA | (simp only [V.fresh, V.freshs, freshR, freshA, Bool.and_self]))) rfl ?_
  refine pu (v := .tup _) rfl rfl (fun _ => rfl) ?_
  refine pu (v := .agg _) rfl rfl (fun _ => rfl) ?_
  refine pu (v := .sc _) rfl rfl (fun _ => rfl) ?_
  refine al (cs := [.sc (.int .i64 0), .sc (.int .i64 0), .sc (.bool false)]) 36 rfl rfl ti40 rfl rfl ?_
  refine stB (cs' := [.sc (.int .i64 r1.1.Lo), .sc (.int .i64 r1.1.Hi), .sc (.bool r1.1.Unknown)]) rfl rfl rfl rfl ti40 rfl rfl rfl rfl rfl ?_
  refine pu (v := .sc _) rfl rfl (fun _ => rfl) ?_
  refine RunC.fin ?_
  refine AWP.joinX (fun z2 : Bool => LS.mk [(0, .sc (.bool z2))] (lblks 0 []) 0) hR (fun o2 hR => ?_) fun z2 hR => ?_
  · refine AWP.rgC 80 rfl rfl ?_
    refine pu (v := .sc _) rfl rfl (fun _ => rfl) ?_
    refine pu (v := .sc _) rfl rfl (fun _ => rfl) ?_
    refine pu (v := .sc _) rfl rfl (fun _ => rfl) ?_
    refine brR hR (fun h3 hR => ?_) fun h3 hR => ?_
    · refine ldB (v := .agg _) (wtG rfl rfl rfl h3) rfl rfl rfl ti40 rfl rfl ?_
      refine bu (cs := [.sc (.int .i64 5), .sc (.int .i64 8), .sc (.bool false)]) (wtG rfl rfl rfl h3) bt40 rfl ?_
      refine es (cs := [.sc (.int .i64 r1.1.Lo), .sc (.int .i64 r1.1.Hi), .sc (.bool r1.1.Unknown)]) (ds := [.sc (.int .i64 5), .sc (.int .i64 8), .sc (.bool false)]) (wtG rfl rfl rfl h3) rfl rfl qa40 qg40 (qe40 _ _ _ _ _ _) ?_
      refine pkT (v := .sc (.bool ((r1.1.Lo == 5) && ((r1.1.Hi == 8) && ((r1.1.Unknown == false) && (true)))))) rfl rfl h3 rfl ?_
      refine pu (v := .sc _) rfl rfl (fun _ => rfl) ?_
      refine RunC.fin ?_
      have hR := Option.some.inj hR; subst hR
      exact Weak.turnL [] [] rfl rfl (tc (.sc _) tn) mn
    · refine sk (skW rfl rfl rfl h3) ?_
      refine sk (skW rfl rfl rfl h3) ?_
      refine sk (skW rfl rfl rfl h3) ?_
      refine pkF (v := .sc (.bool false)) rfl rfl h3 rfl ?_
      refine pu (v := .sc _) rfl rfl (fun _ => rfl) ?_
      refine RunC.fin ?_
      have hR := Option.some.inj hR; subst hR
      exact Weak.turnL [] [] rfl rfl (tc (.sc _) tn) mn
  · refine AWP.ret ?_
    have hR := Option.some.inj hR; subst hR
    exact hQ _ _ (LS.mk [(0, .sc (.bool z2))] (lblks 0 []) 0) (.sc (.bool z2)) [] (.inr rfl) (Weak.turnL [] [] rfl rfl (tc (.sc _) tn) mn) (ro1 (rvT (v := .sc (.bool z2)) rfl)) rfl rfl (.sc _) pn
theorem ok8 (c : Cells) (level : Bound) (s : Source_) (reach : Int) (r : Measured × Int) (hR : measure_Measure c level s reach = some r) : FnP Try.prog 8 [aggV false c, aggV false level, aggV false s, .sc (.int .i64 reach)] (.tup [aggV (α := Measured) true r.1, .sc (.int .i64 r.2)]) := by
  refine fnP_of (FnX.walk Try.func8 rfl 89 0 (by simp [Try.ntmps8]) rfl fun W S F Q hQ => ?_)
  unfold measure_Measure at hR
  refine AWP.sq ?_
  refine AWP.rgC 20 rfl rfl ?_
  refine bx (cs := _) 0 rfl rfl rfl ?_
  refine bx (cs := _) 4 rfl rfl rfl ?_
  refine bx (cs := _) 8 rfl rfl rfl ?_
  refine al (cs := [.sc (.int .i64 0), .sc (.int .i64 0), .sc (.bool false), .sc (.int .i64 0), .sc (.int .i64 0), .sc (.bool false), .sc (.int .i64 0), .sc (.int .i64 0), .sc (.bool false)]) 12 rfl rfl ti42 rfl rfl ?_
  refine pu (v := .sc _) rfl rfl (fun _ => rfl) ?_
  refine RunC.fin ?_
  refine AWP.sq ?_
  refine AWP.rgC 68 rfl rfl ?_
  refine ldB (v := .agg _) rfl rfl rfl rfl ti33 rfl rfl ?_
  refine ldB (v := .agg _) rfl rfl rfl rfl ti36 rfl rfl ?_
  refine ldB (v := .agg _) rfl rfl rfl rfl ti47 rfl rfl ?_
  refine pu (v := .sc _) rfl rfl (fun _ => rfl) ?_
  obtain ⟨r1, hr1, hR⟩ := bindE hR
  refine cls [] rfl rfl cb13 (ok13 c level s reach _ hr1) (.cons (.agg (.cons (.sc _) (.cons (.sc _) (.cons ldR' (.nil)))) rfl) (.cons (.agg (.cons (.sc _) (.cons (.sc _) (.cons (.sc _) (.nil)))) rfl) (.cons (.agg (.cons (.sc _) (.cons ldR' (.nil))) rfl) (.cons (.sc _) (.nil))))) (.inr rfl) rfl ?_
  refine pu (v := .tup _) rfl rfl (fun _ => rfl) ?_
  refine pu (v := rowV _ r1.1) rfl rfl (fun _ => rfl) ?_
  refine pu (v := rowV _ r1.2.1) rfl rfl (fun _ => rfl) ?_
  refine pu (v := .sc _) rfl rfl (fun _ => rfl) ?_
  refine pu (v := rowV _ r1.1) rfl rfl (fun _ => rfl) ?_
  refine pu (v := rowV _ r1.2.1) rfl rfl (fun _ => rfl) ?_
  refine pu (v := .sc _) rfl rfl (fun _ => rfl) ?_
  refine RunC.fin ?_
  refine AWP.sq ?_
  refine AWP.sq ?_
  refine AWP.rgC 76 rfl rfl ?_
  refine pu (v := .sc _) rfl rfl (fun _ => rfl) ?_
  refine pu (v := .sc _) rfl rfl (fun _ => rfl) ?_
  refine RunC.fin ?_
  refine AWP.cd hR rfl (fun h2 hR => ?_) fun h2 hR => ?_
  · refine AWP.sq ?_
    refine AWP.rgC 92 rfl rfl ?_
    refine bu (cs := [.sc (.int .i64 0), .sc (.int .i64 0), .sc (.bool false), .sc (.int .i64 0), .sc (.int .i64 0), .sc (.bool false), .sc (.int .i64 0), .sc (.int .i64 0), .sc (.bool false)]) rfl bt42 rfl ?_
    refine pu (v := .sc _) rfl rfl (fun _ => rfl) ?_
    refine stB (cs' := [.sc (.int .i64 0), .sc (.int .i64 0), .sc (.bool false), .sc (.int .i64 0), .sc (.int .i64 0), .sc (.bool false), .sc (.int .i64 0), .sc (.int .i64 0), .sc (.bool false)]) rfl rfl rfl rfl ti42 rfl rfl rfl rfl rfl ?_
    refine pu (v := .sc _) rfl rfl (fun _ => rfl) ?_
    refine RunC.fin ?_
    refine AWP.ret ?_
    refine rtT ?_
    have hR := Option.some.inj hR; subst hR
    exact hQ _ _ (LS.mk [(8, .ptr 0 0 0), (9, .sc (.int .i64 r1.2.2))] (lblks 0 [boxB (α := Measured) true (Measured.mk (Bound.mk 0 0 false) (Bound.mk 0 0 false) (Bound.mk 0 0 false))]) 1) (.tup [aggV (α := Measured) true (Measured.mk (Bound.mk 0 0 false) (Bound.mk 0 0 false) (Bound.mk 0 0 false)), .sc (.int .i64 r1.2.2)]) [] (.inr rfl) (Weak.turnL [(12, 0)] [] rfl rfl (tc (trP' rfl rfl rfl rfl) (tc (.sc _) tn)) (mc rfl (.box rfl (.cons (.sc _) (.cons (.sc _) (.cons (.sc _) (.cons (.sc _) (.cons (.sc _) (.cons (.sc _) (.cons (.sc _) (.cons (.sc _) (.cons (.sc _) (.nil)))))))))) rfl) mn)) (ro2 (rvC (v := aggV (α := Measured) true (Measured.mk (Bound.mk 0 0 false) (Bound.mk 0 0 false) (Bound.mk 0 0 false))) rfl rfl ti42 rfl) (rvT (v := .sc (.int .i64 r1.2.2)) rfl)) rfl rfl (.tup (.cons ldA (.cons (.sc _) .nil))) pn
  · refine AWP.skip ?_
    refine skT ?_
    refine AWP.sq ?_
    refine AWP.rgC 92 rfl rfl ?_
    refine pu (v := rowV _ r1.2.1) rfl rfl (fun _ => rfl) ?_
    obtain ⟨r3, hr3, hR⟩ := bindE hR
    refine cls [] rfl rfl cb14 (ok14 r1.2.1 _ hr3) (.cons ldR' (.nil)) (.inr rfl) rfl ?_
    refine al (cs := [.sc (.int .i64 0), .sc (.int .i64 0), .sc (.bool false)]) 84 rfl rfl ti36 rfl rfl ?_
    refine stB (cs' := [.sc (.int .i64 r3.Lo), .sc (.int .i64 r3.Hi), .sc (.bool r3.Unknown)]) rfl rfl rfl rfl ti36 rfl rfl rfl rfl rfl ?_
    refine RunC.fin ?_
    refine AWP.sq ?_
    refine AWP.joinX (fun z4 : Bool => LS.mk [(4, .ptr 0 0 0), (8, .ptr 1 0 0), (10, rowV (α := Int) true r1.1), (11, rowV (α := Bound) true r1.2.1), (13, .ptr 2 0 0), (46, .sc (.bool z4))] (lblks 0 [boxB (α := Cells) false c, boxB (α := Measured) true (Measured.mk (Bound.mk 0 0 false) (Bound.mk 0 0 false) (Bound.mk 0 0 false)), boxB (α := Bound) true r3]) 3) hR (fun o4 hR => ?_) fun z4 hR => ?_
    · refine AWP.rgC 132 rfl rfl ?_
      refine fa rfl rfl ti36 rfl rfl ti4 rfl ?_
      refine ldB (v := .sc _) rfl rfl rfl rfl ti4 rfl rfl ?_
      refine pu (v := .sc _) rfl rfl (fun _ => rfl) ?_
      refine brR hR (fun h5 hR => ?_) fun h5 hR => ?_
      · refine sk (skW rfl rfl rfl h5) ?_
        refine sk (skW rfl rfl rfl h5) ?_
        refine sk (skW rfl rfl rfl h5) ?_
        refine sk (skW rfl rfl rfl h5) ?_
        refine sk (skW rfl rfl rfl h5) ?_
        refine sk (skW rfl rfl rfl h5) ?_
        refine pkT (v := .sc (.bool true)) rfl rfl h5 rfl ?_
        refine RunC.fin ?_
        have hR := Option.some.inj hR; subst hR
        exact Weak.turnL [(0, 0), (12, 0), (84, 0)] [] rfl rfl (tc (trP' rfl rfl rfl rfl) (tc (trP' rfl rfl rfl rfl) (tc trR1 (tc trR1 (tc (trP' rfl rfl rfl rfl) (tc (.sc _) tn)))))) (mc rfl (.box rfl (.cons (.sc _) (.cons (.sc _) (.cons trR1 (.nil)))) rfl) (mc rfl (.box rfl (.cons (.sc _) (.cons (.sc _) (.cons (.sc _) (.cons (.sc _) (.cons (.sc _) (.cons (.sc _) (.cons (.sc _) (.cons (.sc _) (.cons (.sc _) (.nil)))))))))) rfl) (mc rfl (.box rfl (.cons (.sc _) (.cons (.sc _) (.cons (.sc _) (.nil)))) rfl) mn)))
      · refine ldB (v := .agg _) (wtG rfl rfl rfl h5) rfl rfl rfl ti33 rfl rfl ?_
        refine fa (wtG rfl rfl rfl h5) rfl ti47 rfl rfl ti3 rfl ?_
        refine ldB (v := .sc _) (wtG rfl rfl rfl h5) rfl rfl rfl ti3 rfl rfl ?_
        refine pu (v := .sc _) (wtG rfl rfl rfl h5) rfl (fun _ => rfl) ?_
        obtain ⟨r6, hr6, hR⟩ := bindE hR
        refine cls [] (wtG rfl rfl rfl h5) rfl cb15 (ok15 c s.Peak reach _ hr6) (.cons (.agg (.cons (.sc _) (.cons (.sc _) (.cons ldR' (.nil)))) rfl) (.cons (.sc _) (.cons (.sc _) (.nil)))) (.inr rfl) rfl ?_
        refine pu (v := .sc _) (wtG rfl rfl rfl h5) rfl (fun _ => rfl) ?_
        refine pkF (v := .sc (.bool (!r6))) rfl rfl h5 rfl ?_
        refine RunC.fin ?_
        have hR := Option.some.inj hR; subst hR
        exact Weak.turnL [(0, 0), (12, 0), (84, 0)] [] rfl rfl (tc (trP' rfl rfl rfl rfl) (tc (trP' rfl rfl rfl rfl) (tc trR1 (tc trR1 (tc (trP' rfl rfl rfl rfl) (tc (.sc _) tn)))))) (mc rfl (.box rfl (.cons (.sc _) (.cons (.sc _) (.cons trR1 (.nil)))) rfl) (mc rfl (.box rfl (.cons (.sc _) (.cons (.sc _) (.cons (.sc _) (.cons (.sc _) (.cons (.sc _) (.cons (.sc _) (.cons (.sc _) (.cons (.sc _) (.cons (.sc _) (.nil)))))))))) rfl) (mc rfl (.box rfl (.cons (.sc _) (.cons (.sc _) (.cons (.sc _) (.nil)))) rfl) mn)))
    · refine AWP.cd hR rfl (fun h7 hR => ?_) fun h7 hR => ?_
      · refine AWP.sq ?_
        refine AWP.rgC 15 rfl rfl ?_
        obtain ⟨r8, hr8, hR⟩ := bindE hR
        refine cls [] rfl rfl cb16 (ok16 _ hr8) (.nil) (.inr rfl) rfl ?_
        refine stB (cs' := [.sc (.int .i64 r8.X.Lo), .sc (.int .i64 r8.X.Hi), .sc (.bool r8.X.Unknown), .sc (.int .i64 r8.Y.Lo), .sc (.int .i64 r8.Y.Hi), .sc (.bool r8.Y.Unknown), .sc (.int .i64 r8.Flux.Lo), .sc (.int .i64 r8.Flux.Hi), .sc (.bool r8.Flux.Unknown)]) rfl rfl rfl rfl ti42 rfl rfl rfl rfl rfl ?_
        refine pu (v := .sc _) rfl rfl (fun _ => rfl) ?_
        refine RunC.fin ?_
        refine AWP.ret ?_
        refine rtT ?_
        have hR := Option.some.inj hR; subst hR
        exact hQ _ _ (LS.mk [(8, .ptr 0 0 0), (9, .sc (.int .i64 0))] (lblks 0 [boxB (α := Measured) true r8]) 1) (.tup [aggV (α := Measured) true r8, .sc (.int .i64 0)]) [] (.inr rfl) (Weak.turnL [(1, 0)] [] rfl rfl (tc (trP' rfl rfl rfl rfl) (tc (.sc _) tn)) (mc rfl (.box rfl (.cons (.sc _) (.cons (.sc _) (.cons (.sc _) (.cons (.sc _) (.cons (.sc _) (.cons (.sc _) (.cons (.sc _) (.cons (.sc _) (.cons (.sc _) (.nil)))))))))) rfl) mn)) (ro2 (rvC (v := aggV (α := Measured) true r8) rfl rfl ti42 rfl) (rvT (v := .sc (.int .i64 0)) rfl)) rfl rfl (.tup (.cons ldA (.cons (.sc _) .nil))) pn
      · refine AWP.skip ?_
        refine skT ?_
        refine AWP.sq ?_
        refine AWP.rgC 11 rfl rfl ?_
        refine pu (v := .sc _) rfl rfl (fun _ => rfl) ?_
        refine pu (v := .sc _) rfl rfl (fun _ => rfl) ?_
        refine RunC.fin ?_
        refine AWP.sq ?_
        refine AWP.sq ?_
        refine AWP.rgC 23 rfl rfl ?_
        refine pu (v := rowV _ r1.1) rfl rfl (fun _ => rfl) ?_
        refine lenL (α := Int) rfl rfl ti22 rfl ?_
        refine pu (v := .sc _) rfl rfl (fun _ => rfl) ?_
        refine RunC.fin ?_
        refine AWP.nilT Int 14 38 rfl ?_
        refine AWP.nilT Int 15 38 rfl ?_
        refine AWP.loopJ (fun s9 : (List Int) × (List Int) × Int => LS.mk [(4, .ptr 0 0 0), (8, .ptr 1 0 0), (11, rowV (α := Bound) true r1.2.1), (13, .ptr 2 0 0), (14, slV Int 3 0 0 s9.1.length), (15, slV Int 4 0 0 s9.2.1.length), (48, rowV (α := Int) true r1.1), (49, .sc (.int .i64 (r1.1.length : Int))), (50, .sc (.int .i64 s9.2.2))] (lblks 0 [boxB (α := Cells) false c, boxB (α := Measured) true (Measured.mk (Bound.mk 0 0 false) (Bound.mk 0 0 false) (Bound.mk 0 0 false)), boxB (α := Bound) true r3, arrB (α := Int) 38 0 true s9.1, arrB (α := Int) 38 0 true s9.2.1]) 5) (fun z10 : (List Int) × (List Int) => LS.mk [(8, .ptr 0 0 0), (11, rowV (α := Bound) true r1.2.1), (13, .ptr 1 0 0), (14, slV Int 2 0 0 z10.1.length), (15, slV Int 3 0 0 z10.2.length)] (lblks 0 [boxB (α := Measured) true (Measured.mk (Bound.mk 0 0 false) (Bound.mk 0 0 false) (Bound.mk 0 0 false)), boxB (α := Bound) true r3, arrB (α := Int) 38 0 true z10.1, arrB (α := Int) 38 0 true z10.2]) 4) (measure_Measure.l1 c r1) hR (s0 := (([] : List Int), ([] : List Int), 0)) (Weak.turnL [(0, 0), (1, 0), (2, 0), (23, 0), (24, 0)] [] rfl rfl (tc (trP' rfl rfl rfl rfl) (tc (trP' rfl rfl rfl rfl) (tc trR1 (tc (trP' rfl rfl rfl rfl) (tc (trS' rfl rfl rfl rfl rfl) (tc (trS' rfl rfl rfl rfl rfl) (tc trR1 (tc (.sc _) (tc (.sc _) tn))))))))) (mc rfl (.box rfl (.cons (.sc _) (.cons (.sc _) (.cons trR1 (.nil)))) rfl) (mc rfl (.box rfl (.cons (.sc _) (.cons (.sc _) (.cons (.sc _) (.cons (.sc _) (.cons (.sc _) (.cons (.sc _) (.cons (.sc _) (.cons (.sc _) (.cons (.sc _) (.nil)))))))))) rfl) (mc rfl (.box rfl (.cons (.sc _) (.cons (.sc _) (.cons (.sc _) (.nil)))) rfl) (mc rfl (btrA' rfl) (mc rfl (btrA' rfl) mn)))))) (fun s9 o9 hR => ?_) fun z10 hR => ?_
        · unfold measure_Measure.l1 at hR
          refine AWP.sq ?_
          refine AWP.rgC 9 rfl rfl ?_
          refine pu (v := .sc _) rfl rfl (fun _ => rfl) ?_
          refine RunC.fin ?_
          refine AWP.sq ?_
          refine AWP.cd hR rfl (fun h11 hR => ?_) fun h11 hR => ?_
          · refine AWP.skip ?_
            refine skT ?_
            refine AWP.sq ?_
            refine AWP.block ?_
            refine AWP.sq ?_
            refine AWP.rgC 21 rfl rfl ?_
            obtain ⟨h12, hR⟩ := chkE hR
            refine ixL (α := Int) rfl rfl rfl ti22 rfl ti3 rfl h12 ?_
            refine ldR (v := .sc _) rfl rfl ti3 rfl ?_
            refine pu (v := .sc _) rfl rfl (fun _ => rfl) ?_
            refine RunC.fin ?_
            refine AWP.sq ?_
            refine AWP.rgC 61 rfl rfl ?_
            refine pu (v := slV Int _ _ _ _) rfl rfl (fun _ => rfl) ?_
            refine pu (v := .sc _) rfl rfl (fun _ => rfl) ?_
            refine fa rfl rfl ti33 rfl rfl ti3 rfl ?_
            refine ldB (v := .sc _) rfl rfl rfl rfl ti3 rfl rfl ?_
            obtain ⟨h13, hR⟩ := chkE hR
            refine rm rfl rfl rfl h13 rfl ?_
            refine pu (v := .sc _) rfl rfl (fun _ => rfl) ?_
            refine pu (v := .sc _) rfl rfl (fun _ => rfl) ?_
            refine bs (α := Int) 49 true ([w6 ((w6 ((Int.tmod (gt r1.1 s9.2.2) c.W) * 256)) + 128)] : List Int) rfl rfl ti58 rfl ti38 rfl rfl rfl rfl rfl ?_
            obtain ⟨h14, hR⟩ := chkE hR
            refine ap' (α := Int) (nw := true) (xs := s9.1) (ys := ([w6 ((w6 ((Int.tmod (gt r1.1 s9.2.2) c.W) * 256)) + 128)] : List Int)) rfl rfl rfl rfl (srcS' rfl rfl rfl) ti58 rfl ti38 rfl h14 rfl ?_
            refine pu (v := slV Int _ _ _ _) rfl rfl (fun _ => rfl) ?_
            refine RunC.fin ?_
            refine AWP.rgC 101 rfl rfl ?_
            refine pu (v := slV Int _ _ _ _) rfl rfl (fun _ => rfl) ?_
            refine pu (v := .sc _) rfl rfl (fun _ => rfl) ?_
            refine fa rfl rfl ti33 rfl rfl ti3 rfl ?_
            refine ldB (v := .sc _) rfl rfl rfl rfl ti3 rfl rfl ?_
            refine qu rfl rfl rfl h13 rfl ?_
            refine pu (v := .sc _) rfl rfl (fun _ => rfl) ?_
            refine pu (v := .sc _) rfl rfl (fun _ => rfl) ?_
            refine bs (α := Int) 89 true ([w6 ((w6 ((w6 (Int.tdiv (gt r1.1 s9.2.2) c.W)) * 256)) + 128)] : List Int) rfl rfl ti58 rfl ti38 rfl rfl rfl rfl rfl ?_
            obtain ⟨h15, hR⟩ := chkE hR
            refine ap' (α := Int) (nw := true) (xs := s9.2.1) (ys := ([w6 ((w6 ((w6 (Int.tdiv (gt r1.1 s9.2.2) c.W)) * 256)) + 128)] : List Int)) rfl rfl rfl rfl (srcS' rfl rfl rfl) ti58 rfl ti38 rfl h15 rfl ?_
            refine pu (v := slV Int _ _ _ _) rfl rfl (fun _ => rfl) ?_
            refine RunC.blk ?_
            refine RunC.fin ?_
            refine AWP.rgC 109 rfl rfl ?_
            refine pu (v := .sc _) rfl rfl (fun _ => rfl) ?_
            refine pu (v := .sc _) rfl rfl (fun _ => rfl) ?_
            refine RunC.fin ?_
            refine ⟨(s9.1 ++ ([w6 ((w6 ((Int.tmod (gt r1.1 s9.2.2) c.W) * 256)) + 128)] : List Int), s9.2.1 ++ ([w6 ((w6 ((w6 (Int.tdiv (gt r1.1 s9.2.2) c.W)) * 256)) + 128)] : List Int), w6 (s9.2.2 + 1)), (Option.some.inj hR).symm, ?_⟩
            exact Weak.turnL [(0, 0), (1, 0), (2, 0), (3, 0), (4, 0)] [] rfl rfl (tc (trP' rfl rfl rfl rfl) (tc (trP' rfl rfl rfl rfl) (tc trR1 (tc (trP' rfl rfl rfl rfl) (tc (trS' rfl rfl rfl rfl rfl) (tc (trS' rfl rfl rfl rfl rfl) (tc trR1 (tc (.sc _) (tc (.sc _) tn))))))))) (mc rfl (.box rfl (.cons (.sc _) (.cons (.sc _) (.cons trR1 (.nil)))) rfl) (mc rfl (.box rfl (.cons (.sc _) (.cons (.sc _) (.cons (.sc _) (.cons (.sc _) (.cons (.sc _) (.cons (.sc _) (.cons (.sc _) (.cons (.sc _) (.cons (.sc _) (.nil)))))))))) rfl) (mc rfl (.box rfl (.cons (.sc _) (.cons (.sc _) (.cons (.sc _) (.nil)))) rfl) (mc rfl (btrA' rfl) (mc rfl (btrA' rfl) mn)))))
          · refine AWP.exit ?_
            refine exT ?_
            refine exT ?_
            refine exH (skT ?_)
            refine ⟨(s9.1, s9.2.1), (Option.some.inj hR).symm, ?_⟩
            exact Weak.turnL [(1, 0), (2, 0), (3, 0), (4, 0)] [] rfl rfl (tc (trP' rfl rfl rfl rfl) (tc trR1 (tc (trP' rfl rfl rfl rfl) (tc (trS' rfl rfl rfl rfl rfl) (tc (trS' rfl rfl rfl rfl rfl) tn))))) (mc rfl (.box rfl (.cons (.sc _) (.cons (.sc _) (.cons (.sc _) (.cons (.sc _) (.cons (.sc _) (.cons (.sc _) (.cons (.sc _) (.cons (.sc _) (.cons (.sc _) (.nil)))))))))) rfl) (mc rfl (.box rfl (.cons (.sc _) (.cons (.sc _) (.cons (.sc _) (.nil)))) rfl) (mc rfl (btrA' rfl) (mc rfl (btrA' rfl) mn))))
        · refine skT ?_
          refine AWP.sq ?_
          refine AWP.rgC 40 rfl rfl ?_
          refine pu (v := slV Int _ _ _ _) rfl rfl (fun _ => rfl) ?_
          refine pu (v := rowV _ r1.2.1) rfl rfl (fun _ => rfl) ?_
          obtain ⟨r16, hr16, hR⟩ := bindE hR
          refine cls [2] rfl rfl cb17 (ok17 z10.1 r1.2.1 _ hr16) (.cons (ldS' rfl rfl rfl rfl) (.cons ldR' (.nil))) (.inl (by first | rfl | exact freshR | exact freshA | (simp only [V.fresh, V.freshs, freshR, freshA, Bool.and_self]))) rfl ?_
          refine pu (v := .tup _) rfl rfl (fun _ => rfl) ?_
          refine pu (v := .agg _) rfl rfl (fun _ => rfl) ?_
          refine pu (v := .sc _) rfl rfl (fun _ => rfl) ?_
          refine al (cs := [.sc (.int .i64 0), .sc (.int .i64 0), .sc (.bool false)]) 28 rfl rfl ti40 rfl rfl ?_
          refine stB (cs' := [.sc (.int .i64 r16.1.Lo), .sc (.int .i64 r16.1.Hi), .sc (.bool r16.1.Unknown)]) rfl rfl rfl rfl ti40 rfl rfl rfl rfl rfl ?_
          refine pu (v := .sc _) rfl rfl (fun _ => rfl) ?_
          refine RunC.fin ?_
          refine AWP.sq ?_
          refine AWP.rgC 76 rfl rfl ?_
          refine pu (v := slV Int _ _ _ _) rfl rfl (fun _ => rfl) ?_
          refine pu (v := rowV _ r1.2.1) rfl rfl (fun _ => rfl) ?_
          obtain ⟨r17, hr17, hR⟩ := bindE hR
          refine cls [3] rfl rfl cb17 (ok17 z10.2 r1.2.1 _ hr17) (.cons (ldS' rfl rfl rfl rfl) (.cons ldR' (.nil))) (.inl (by first | rfl | exact freshR | exact freshA | (simp only [V.fresh, V.freshs, freshR, freshA, Bool.and_self]))) rfl ?_
          refine pu (v := .tup _) rfl rfl (fun _ => rfl) ?_
          refine pu (v := .agg _) rfl rfl (fun _ => rfl) ?_
          refine pu (v := .sc _) rfl rfl (fun _ => rfl) ?_
          refine al (cs := [.sc (.int .i64 0), .sc (.int .i64 0), .sc (.bool false)]) 64 rfl rfl ti40 rfl rfl ?_
          refine stB (cs' := [.sc (.int .i64 r17.1.Lo), .sc (.int .i64 r17.1.Hi), .sc (.bool r17.1.Unknown)]) rfl rfl rfl rfl ti40 rfl rfl rfl rfl rfl ?_
          refine pu (v := .sc _) rfl rfl (fun _ => rfl) ?_
          refine RunC.fin ?_
          refine AWP.sq ?_
          refine AWP.rgC 100 rfl rfl ?_
          refine ldB (v := .agg _) rfl rfl rfl rfl ti40 rfl rfl ?_
          refine ldB (v := .agg _) rfl rfl rfl rfl ti40 rfl rfl ?_
          refine ldB (v := .agg _) rfl rfl rfl rfl ti36 rfl rfl ?_
          refine bu (cs := [.sc (.int .i64 r16.1.Lo), .sc (.int .i64 r16.1.Hi), .sc (.bool r16.1.Unknown), .sc (.int .i64 r17.1.Lo), .sc (.int .i64 r17.1.Hi), .sc (.bool r17.1.Unknown), .sc (.int .i64 r3.Lo), .sc (.int .i64 r3.Hi), .sc (.bool r3.Unknown)]) rfl bt42 rfl ?_
          refine stB (cs' := [.sc (.int .i64 r16.1.Lo), .sc (.int .i64 r16.1.Hi), .sc (.bool r16.1.Unknown), .sc (.int .i64 r17.1.Lo), .sc (.int .i64 r17.1.Hi), .sc (.bool r17.1.Unknown), .sc (.int .i64 r3.Lo), .sc (.int .i64 r3.Hi), .sc (.bool r3.Unknown)]) rfl rfl rfl rfl ti42 rfl rfl rfl rfl rfl ?_
          refine pu (v := .sc _) rfl rfl (fun _ => rfl) ?_
          refine RunC.fin ?_
          refine AWP.ret ?_
          have hR := Option.some.inj hR; subst hR
          exact hQ _ _ (LS.mk [(8, .ptr 0 0 0), (9, .sc (.int .i64 0))] (lblks 0 [boxB (α := Measured) true (Measured.mk r16.1 r17.1 r3)]) 1) (.tup [aggV (α := Measured) true (Measured.mk r16.1 r17.1 r3), .sc (.int .i64 0)]) [] (.inr rfl) (Weak.turnL [(0, 0)] [] rfl rfl (tc (trP' rfl rfl rfl rfl) (tc (.sc _) tn)) (mc rfl (.box rfl (.cons (.sc _) (.cons (.sc _) (.cons (.sc _) (.cons (.sc _) (.cons (.sc _) (.cons (.sc _) (.cons (.sc _) (.cons (.sc _) (.cons (.sc _) (.nil)))))))))) rfl) mn)) (ro2 (rvC (v := aggV (α := Measured) true (Measured.mk r16.1 r17.1 r3)) rfl rfl ti42 rfl) (rvT (v := .sc (.int .i64 0)) rfl)) rfl rfl (.tup (.cons ldA (.cons (.sc _) .nil))) pn
theorem ok7 (s : spymake_Stream) (back : Int) (r : Bound × spymake_Stream) (hR : Stream_Level s back = some r) : FnD Try.prog 7 [boxB false s] [.ptr 0 0 0, .sc (.int .i64 back)] (aggV (α := Bound) true r.1) [boxB false r.2] := by
  refine FnX.walk Try.func7 rfl 14 1 (by simp [Try.ntmps7]) rfl fun W S F Q hQ => ?_
  unfold Stream_Level at hR
  refine AWP.sq ?_
  refine AWP.rgC 5 rfl rfl ?_
  refine al (cs := [.sc (.int .i64 0), .sc (.int .i64 0), .sc (.bool false)]) 1 rfl rfl ti36 rfl rfl ?_
  refine RunC.fin ?_
  refine AWP.sq ?_
  refine AWP.rgC 45 rfl rfl ?_
  refine pu (v := .sc _) rfl rfl (fun _ => rfl) ?_
  refine pu (v := .ptr _ _ _) rfl rfl (fun _ => rfl) ?_
  obtain ⟨r1, hr1, hR⟩ := bindE hR
  refine cps (res' := .sc (.int .i64 r1.1)) (ups := [(0, boxB (α := spymake_Stream) false r1.2)]) [0] 13 rfl rfl rfl cb12 (ok12 s 6 _ hr1) (.cons (ldP rfl rfl) (.cons (.sc _) (.nil))) (pc rfl (.box (.cons ldR' (.cons (.sc _) (.nil))) rfl) pn) rfl rfl rfl rfl rfl (by first | rfl | exact renR | exact renA | exact renS | simp only [V.ren, V.rens, renR, renA, renS] | (simp only [V.ren, V.rens, renR, renA, renS]; rfl)) (by simp only [passUps, renBox, renArr]; rfl) ?_
  refine pu (v := .sc _) rfl rfl (fun _ => rfl) ?_
  refine pu (v := .sc _) rfl rfl (fun _ => rfl) ?_
  refine pu (v := .ptr _ _ _) rfl rfl (fun _ => rfl) ?_
  obtain ⟨r2, hr2, hR⟩ := bindE hR
  refine cps (res' := .sc (.int .i64 r2.1)) (ups := [(0, boxB (α := spymake_Stream) false r2.2)]) [0] 29 rfl rfl rfl cb12 (ok12 r1.2 6 _ hr2) (.cons (ldP rfl rfl) (.cons (.sc _) (.nil))) (pc rfl (.box (.cons ldR' (.cons (.sc _) (.nil))) rfl) pn) rfl rfl rfl rfl rfl (by first | rfl | exact renR | exact renA | exact renS | simp only [V.ren, V.rens, renR, renA, renS] | (simp only [V.ren, V.rens, renR, renA, renS]; rfl)) (by simp only [passUps, renBox, renArr]; rfl) ?_
  refine pu (v := .sc _) rfl rfl (fun _ => rfl) ?_
  refine bu (cs := [.sc (.int .i64 (w6 (back - r1.1))), .sc (.int .i64 (w6 (back + r2.1))), .sc (.bool false)]) rfl bt36 rfl ?_
  refine stB (cs' := [.sc (.int .i64 (w6 (back - r1.1))), .sc (.int .i64 (w6 (back + r2.1))), .sc (.bool false)]) rfl rfl rfl rfl ti36 rfl rfl rfl rfl rfl ?_
  refine RunC.fin ?_
  refine AWP.ret ?_
  have hR := Option.some.inj hR; subst hR
  exact hQ _ _ (LS.mk [(4, .ptr 1 0 0)] (lblks 0 [boxB (α := spymake_Stream) false r2.2, boxB (α := Bound) true (Bound.mk (w6 (back - r1.1)) (w6 (back + r2.1)) false)]) 2) (aggV (α := Bound) true (Bound.mk (w6 (back - r1.1)) (w6 (back + r2.1)) false)) [] (.inr rfl) (Weak.turnL [(0, 0), (1, 0)] [] rfl rfl (tc (trP' rfl rfl rfl rfl) tn) (mc rfl (.box rfl (.cons trR1 (.cons (.sc _) (.nil))) rfl) (mc rfl (.box rfl (.cons (.sc _) (.cons (.sc _) (.cons (.sc _) (.nil)))) rfl) mn))) (ro1 (rvC (v := aggV (α := Bound) true (Bound.mk (w6 (back - r1.1)) (w6 (back + r2.1)) false)) rfl rfl ti36 rfl)) rfl rfl ldA (pc rfl bldB pn)
theorem ok6 (s : spymake_Stream) (w : Int) (h : Int) (light : List Int) (holes : Bool) (r : Cells × spymake_Stream) (hR : Stream_Veil s w h light holes = some r) : FnD Try.prog 6 [boxB false s] [.ptr 0 0 0, .sc (.int .i64 w), .sc (.int .i64 h), rowV false light, .sc (.bool holes)] (aggV (α := Cells) true r.1) [boxB false r.2] := by
  refine FnX.walk Try.func6 rfl 58 1 (by simp [Try.ntmps6]) rfl fun W S F Q hQ => ?_
  unfold Stream_Veil at hR
  refine AWP.sq ?_
  refine AWP.rgC 5 rfl rfl ?_
  refine al (cs := [.sc (.int .i64 0), .sc (.int .i64 0), .sc (.slice none 0 0)]) 1 rfl rfl ti33 rfl rfl ?_
  refine RunC.fin ?_
  refine AWP.sq ?_
  refine AWP.rgC 25 rfl rfl ?_
  refine pu (v := .sc _) rfl rfl (fun _ => rfl) ?_
  refine pu (v := .sc _) rfl rfl (fun _ => rfl) ?_
  refine bu (cs := [.sc (.int .i64 w), .sc (.int .i64 h), .sc (.slice none 0 0)]) rfl bt33 rfl ?_
  refine al (cs := [.sc (.int .i64 0), .sc (.int .i64 0), .sc (.slice none 0 0)]) 17 rfl rfl ti33 rfl rfl ?_
  refine stB (cs' := [.sc (.int .i64 w), .sc (.int .i64 h), .sc (.slice none 0 0)]) rfl rfl rfl rfl ti33 rfl rfl rfl rfl rfl ?_
  refine RunC.fin ?_
  refine AWP.sq ?_
  refine AWP.rgC 49 rfl rfl ?_
  refine bs (α := Int) 25 true ([0, 3, 30, 200] : List Int) rfl rfl ti22 rfl ti3 rfl rfl rfl rfl rfl ?_
  refine pu (v := .ptr _ _ _) rfl rfl (fun _ => rfl) ?_
  obtain ⟨r1, hr1, hR⟩ := bindE hR
  refine cps (res' := .sc (.int .i64 r1.1)) (ups := [(0, boxB (α := spymake_Stream) false r1.2)]) [0] 33 rfl rfl rfl cb12 (ok12 s 4 _ hr1) (.cons (ldP rfl rfl) (.cons (.sc _) (.nil))) (pc rfl (.box (.cons ldR' (.cons (.sc _) (.nil))) rfl) pn) rfl rfl rfl rfl rfl (by first | rfl | exact renR | exact renA | exact renS | simp only [V.ren, V.rens, renR, renA, renS] | (simp only [V.ren, V.rens, renR, renA, renS]; rfl)) (by simp only [passUps, renBox, renArr]; rfl) ?_
  obtain ⟨h2, hR⟩ := chkE hR
  refine ixS0 (α := Int) rfl rfl rfl ti22 rfl ti3 rfl h2 ?_
  refine ldE (α := Int) (v := .sc _) rfl rfl rfl (ixlt h2) ti3 rfl rfl rfl rfl ?_
  refine pu (v := .sc _) rfl rfl (fun _ => rfl) ?_
  refine RunC.fin ?_
  refine AWP.sq ?_
  refine AWP.sq ?_
  refine AWP.rgC 61 rfl rfl ?_
  refine pu (v := rowV _ light) rfl rfl (fun _ => rfl) ?_
  refine lenL (α := Int) rfl rfl ti27 rfl ?_
  refine pu (v := .sc _) rfl rfl (fun _ => rfl) ?_
  refine RunC.fin ?_
  refine AWP.nilB Bound 17 2 36 rfl rfl (cs' := [.sc (.int .i64 w), .sc (.int .i64 h), slV Bound 61 0 0 0]) rfl ?_
  refine AWP.loopJ (fun s3 : spymake_Stream × (List Bound) × Int => LS.mk [(0, .ptr 0 0 0), (4, .sc (.bool holes)), (10, .ptr 1 0 0), (11, .ptr 2 0 0), (12, .sc (.int .i64 (gt ([0, 3, 30, 200] : List Int) r1.1))), (24, rowV (α := Int) false light), (25, .sc (.int .i64 (light.length : Int))), (26, .sc (.int .i64 s3.2.2))] (lblks 0 [boxB (α := spymake_Stream) false s3.1, .box [.sc (.int .i64 0), .sc (.int .i64 0), .sc (.slice none 0 0)], .box [.sc (.int .i64 w), .sc (.int .i64 h), slV Bound 3 0 0 s3.2.1.length], arrB (α := Bound) 36 0 true s3.2.1]) 4) (fun z4 : spymake_Stream × (List Bound) => LS.mk [(10, .ptr 1 0 0), (11, .ptr 2 0 0)] (lblks 0 [boxB (α := spymake_Stream) false z4.1, .box [.sc (.int .i64 0), .sc (.int .i64 0), .sc (.slice none 0 0)], .box [.sc (.int .i64 w), .sc (.int .i64 h), slV Bound 3 0 0 z4.2.length], arrB (α := Bound) 36 0 true z4.2]) 4) (Stream_Veil.l1 light holes r1) hR (s0 := (r1.2, ([] : List Bound), 0)) (Weak.turnL [(0, 0), (1, 0), (17, 0), (61, 0)] [] rfl rfl (tc (trP' rfl rfl rfl rfl) (tc (.sc _) (tc (trP' rfl rfl rfl rfl) (tc (trP' rfl rfl rfl rfl) (tc (.sc _) (tc trR1 (tc (.sc _) (tc (.sc _) tn)))))))) (mc rfl (.box rfl (.cons trR1 (.cons (.sc _) (.nil))) rfl) (mc rfl (.box rfl (.cons (.sc _) (.cons (.sc _) (.cons (.sc _) (.nil)))) rfl) (mc rfl (.box rfl (.cons (.sc _) (.cons (.sc _) (.cons (trS' rfl rfl rfl rfl rfl) (.nil)))) rfl) (mc rfl (btrA' rfl) mn))))) (fun s3 o3 hR => ?_) fun z4 hR => ?_
  · unfold Stream_Veil.l1 at hR
    refine AWP.sq ?_
    refine AWP.rgC 8 rfl rfl ?_
    refine pu (v := .sc _) rfl rfl (fun _ => rfl) ?_
    refine RunC.fin ?_
    refine AWP.sq ?_
    refine AWP.cd hR rfl (fun h5 hR => ?_) fun h5 hR => ?_
    · refine AWP.skip ?_
      refine skT ?_
      refine AWP.sq ?_
      refine AWP.block ?_
      refine AWP.sq ?_
      refine AWP.rgC 20 rfl rfl ?_
      obtain ⟨h6, hR⟩ := chkE hR
      refine ixL (α := Int) rfl rfl rfl ti27 rfl ti28 rfl h6 ?_
      refine ldR (v := .sc _) rfl rfl ti28 rfl ?_
      refine pu (v := .sc _) rfl rfl (fun _ => rfl) ?_
      refine RunC.fin ?_
      refine AWP.sq ?_
      refine AWP.rgC 80 rfl rfl ?_
      refine pu (v := .sc _) rfl rfl (fun _ => rfl) ?_
      refine pu (v := .ptr _ _ _) rfl rfl (fun _ => rfl) ?_
      refine pu (v := .sc _) rfl rfl (fun _ => rfl) ?_
      refine pu (v := .sc _) rfl rfl (fun _ => rfl) ?_
      obtain ⟨r7, hr7, hR⟩ := bindE hR
      refine cps (res' := .sc (.int .i64 r7.1)) (ups := [(0, boxB (α := spymake_Stream) false r7.2)]) [0] 36 rfl rfl rfl cb12 (ok12 s3.1 (w6 ((gt ([0, 3, 30, 200] : List Int) r1.1) + 1)) _ hr7) (.cons (ldP rfl rfl) (.cons (.sc _) (.nil))) (pc rfl (.box (.cons ldR' (.cons (.sc _) (.nil))) rfl) pn) rfl rfl rfl rfl rfl (by first | rfl | exact renR | exact renA | exact renS | simp only [V.ren, V.rens, renR, renA, renS] | (simp only [V.ren, V.rens, renR, renA, renS]; rfl)) (by simp only [passUps, renBox, renArr]; rfl) ?_
      refine pu (v := .sc _) rfl rfl (fun _ => rfl) ?_
      refine pu (v := .sc _) rfl rfl (fun _ => rfl) ?_
      refine pu (v := .ptr _ _ _) rfl rfl (fun _ => rfl) ?_
      refine pu (v := .sc _) rfl rfl (fun _ => rfl) ?_
      refine pu (v := .sc _) rfl rfl (fun _ => rfl) ?_
      obtain ⟨r8, hr8, hR⟩ := bindE hR
      refine cps (res' := .sc (.int .i64 r8.1)) (ups := [(0, boxB (α := spymake_Stream) false r8.2)]) [0] 60 rfl rfl rfl cb12 (ok12 r7.2 (w6 ((gt ([0, 3, 30, 200] : List Int) r1.1) + 1)) _ hr8) (.cons (ldP rfl rfl) (.cons (.sc _) (.nil))) (pc rfl (.box (.cons ldR' (.cons (.sc _) (.nil))) rfl) pn) rfl rfl rfl rfl rfl (by first | rfl | exact renR | exact renA | exact renS | simp only [V.ren, V.rens, renR, renA, renS] | (simp only [V.ren, V.rens, renR, renA, renS]; rfl)) (by simp only [passUps, renBox, renArr]; rfl) ?_
      refine pu (v := .sc _) rfl rfl (fun _ => rfl) ?_
      refine bu (cs := [.sc (.int .i64 (w6 ((gt light s3.2.2) - r7.1))), .sc (.int .i64 (w6 ((gt light s3.2.2) + r8.1))), .sc (.bool false)]) rfl bt36 rfl ?_
      refine al (cs := [.sc (.int .i64 0), .sc (.int .i64 0), .sc (.bool false)]) 72 rfl rfl ti36 rfl rfl ?_
      refine stB (cs' := [.sc (.int .i64 (w6 ((gt light s3.2.2) - r7.1))), .sc (.int .i64 (w6 ((gt light s3.2.2) + r8.1))), .sc (.bool false)]) rfl rfl rfl rfl ti36 rfl rfl rfl rfl rfl ?_
      refine RunC.fin ?_
      refine AWP.sq ?_
      refine AWP.joinX (fun z9 : spymake_Stream × Bool => LS.mk [(0, .ptr 0 0 0), (4, .sc (.bool holes)), (10, .ptr 1 0 0), (11, .ptr 2 0 0), (12, .sc (.int .i64 (gt ([0, 3, 30, 200] : List Int) r1.1))), (15, .ptr 4 0 0), (24, rowV (α := Int) false light), (25, .sc (.int .i64 (light.length : Int))), (26, .sc (.int .i64 s3.2.2)), (48, .sc (.bool z9.2))] (lblks 0 [boxB (α := spymake_Stream) false z9.1, .box [.sc (.int .i64 0), .sc (.int .i64 0), .sc (.slice none 0 0)], .box [.sc (.int .i64 w), .sc (.int .i64 h), slV Bound 3 0 0 s3.2.1.length], arrB (α := Bound) 36 0 true s3.2.1, boxB (α := Bound) true (Bound.mk (w6 ((gt light s3.2.2) - r7.1)) (w6 ((gt light s3.2.2) + r8.1)) false)]) 5) hR (fun o9 hR => ?_) fun z9 hR => ?_
      · refine AWP.rgC 104 rfl rfl ?_
        refine pu (v := .sc _) rfl rfl (fun _ => rfl) ?_
        refine pu (v := .sc _) rfl rfl (fun _ => rfl) ?_
        refine brR hR (fun h10 hR => ?_) fun h10 hR => ?_
        · refine pu (v := .ptr _ _ _) (wtG rfl rfl rfl h10) rfl (fun _ => rfl) ?_
          obtain ⟨r11, hr11, hR⟩ := bindE hR
          refine cps (res' := .sc (.int .i64 r11.1)) (ups := [(0, boxB (α := spymake_Stream) false r11.2)]) [0] 92 (wtG rfl rfl rfl h10) rfl rfl cb12 (ok12 r8.2 9 _ hr11) (.cons (ldP rfl rfl) (.cons (.sc _) (.nil))) (pc rfl (.box (.cons ldR' (.cons (.sc _) (.nil))) rfl) pn) rfl rfl rfl rfl rfl (by first | rfl | exact renR | exact renA | exact renS | simp only [V.ren, V.rens, renR, renA, renS] | (simp only [V.ren, V.rens, renR, renA, renS]; rfl)) (by simp only [passUps, renBox, renArr]; rfl) ?_
          refine pu (v := .sc _) (wtG rfl rfl rfl h10) rfl (fun _ => rfl) ?_
          refine pkT (v := .sc (.bool (r11.1 == 0))) rfl rfl h10 rfl ?_
          refine RunC.fin ?_
          have hR := Option.some.inj hR; subst hR
          exact Weak.turnL [(0, 0), (1, 0), (2, 0), (3, 0), (72, 0)] [] rfl rfl (tc (trP' rfl rfl rfl rfl) (tc (.sc _) (tc (trP' rfl rfl rfl rfl) (tc (trP' rfl rfl rfl rfl) (tc (.sc _) (tc (trP' rfl rfl rfl rfl) (tc trR1 (tc (.sc _) (tc (.sc _) (tc (.sc _) tn)))))))))) (mc rfl (.box rfl (.cons trR1 (.cons (.sc _) (.nil))) rfl) (mc rfl (.box rfl (.cons (.sc _) (.cons (.sc _) (.cons (.sc _) (.nil)))) rfl) (mc rfl (.box rfl (.cons (.sc _) (.cons (.sc _) (.cons (trS' rfl rfl rfl rfl rfl) (.nil)))) rfl) (mc rfl (btrA' rfl) (mc rfl (.box rfl (.cons (.sc _) (.cons (.sc _) (.cons (.sc _) (.nil)))) rfl) mn)))))
        · refine sk (skW rfl rfl rfl h10) ?_
          refine sk (skW rfl rfl rfl h10) ?_
          refine sk (skW rfl rfl rfl h10) ?_
          refine pkF (v := .sc (.bool false)) rfl rfl h10 rfl ?_
          refine RunC.fin ?_
          have hR := Option.some.inj hR; subst hR
          exact Weak.turnL [(0, 0), (1, 0), (2, 0), (3, 0), (72, 0)] [] rfl rfl (tc (trP' rfl rfl rfl rfl) (tc (.sc _) (tc (trP' rfl rfl rfl rfl) (tc (trP' rfl rfl rfl rfl) (tc (.sc _) (tc (trP' rfl rfl rfl rfl) (tc trR1 (tc (.sc _) (tc (.sc _) (tc (.sc _) tn)))))))))) (mc rfl (.box rfl (.cons trR1 (.cons (.sc _) (.nil))) rfl) (mc rfl (.box rfl (.cons (.sc _) (.cons (.sc _) (.cons (.sc _) (.nil)))) rfl) (mc rfl (.box rfl (.cons (.sc _) (.cons (.sc _) (.cons (trS' rfl rfl rfl rfl rfl) (.nil)))) rfl) (mc rfl (btrA' rfl) (mc rfl (.box rfl (.cons (.sc _) (.cons (.sc _) (.cons (.sc _) (.nil)))) rfl) mn)))))
      · refine AWP.cd hR rfl (fun h12 hR => ?_) fun h12 hR => ?_
        · refine AWP.rgC 13 rfl rfl ?_
          refine bu (cs := [.sc (.int .i64 0), .sc (.int .i64 0), .sc (.bool true)]) rfl bt36 rfl ?_
          refine stB (cs' := [.sc (.int .i64 0), .sc (.int .i64 0), .sc (.bool true)]) rfl rfl rfl rfl ti36 rfl rfl rfl rfl rfl ?_
          refine RunC.fin ?_
          refine AWP.rgC 41 rfl rfl ?_
          refine fa rfl rfl ti33 rfl rfl ti31 rfl ?_
          refine ldB (v := slV Bound _ _ _ _) rfl rfl rfl rfl ti31 rfl rfl ?_
          refine ldB (v := .agg _) rfl rfl rfl rfl ti36 rfl rfl ?_
          refine bs (α := Bound) 25 true ([Bound.mk 0 0 true] : List Bound) rfl rfl ti31 rfl ti36 rfl rfl rfl rfl rfl ?_
          obtain ⟨h13, hR⟩ := chkE hR
          refine ap' (α := Bound) (nw := true) (xs := s3.2.1) (ys := ([Bound.mk 0 0 true] : List Bound)) rfl rfl rfl rfl (srcS' rfl rfl rfl) ti31 rfl ti36 rfl h13 rfl ?_
          refine fa rfl rfl ti33 rfl rfl ti31 rfl ?_
          refine stB (cs' := [.sc (.int .i64 w), .sc (.int .i64 h), slV Bound 3 1 0 (s3.2.1 ++ ([Bound.mk 0 0 true] : List Bound)).length]) rfl rfl rfl rfl ti31 rfl rfl rfl rfl rfl ?_
          refine RunC.blk ?_
          refine RunC.fin ?_
          refine AWP.rgC 49 rfl rfl ?_
          refine pu (v := .sc _) rfl rfl (fun _ => rfl) ?_
          refine pu (v := .sc _) rfl rfl (fun _ => rfl) ?_
          refine RunC.fin ?_
          refine ⟨(z9.1, s3.2.1 ++ ([Bound.mk 0 0 true] : List Bound), w6 (s3.2.2 + 1)), (Option.some.inj hR).symm, ?_⟩
          exact Weak.turnL [(0, 0), (1, 0), (2, 0), (3, 0)] [] rfl rfl (tc (trP' rfl rfl rfl rfl) (tc (.sc _) (tc (trP' rfl rfl rfl rfl) (tc (trP' rfl rfl rfl rfl) (tc (.sc _) (tc trR1 (tc (.sc _) (tc (.sc _) tn)))))))) (mc rfl (.box rfl (.cons trR1 (.cons (.sc _) (.nil))) rfl) (mc rfl (.box rfl (.cons (.sc _) (.cons (.sc _) (.cons (.sc _) (.nil)))) rfl) (mc rfl (.box rfl (.cons (.sc _) (.cons (.sc _) (.cons (trS' rfl rfl rfl rfl rfl) (.nil)))) rfl) (mc rfl (btrA' rfl) mn))))
        · refine AWP.skip ?_
          refine skT ?_
          refine AWP.rgC 33 rfl rfl ?_
          refine fa rfl rfl ti33 rfl rfl ti31 rfl ?_
          refine ldB (v := slV Bound _ _ _ _) rfl rfl rfl rfl ti31 rfl rfl ?_
          refine ldB (v := .agg _) rfl rfl rfl rfl ti36 rfl rfl ?_
          refine bs (α := Bound) 17 true ([Bound.mk (w6 ((gt light s3.2.2) - r7.1)) (w6 ((gt light s3.2.2) + r8.1)) false] : List Bound) rfl rfl ti31 rfl ti36 rfl rfl rfl rfl rfl ?_
          obtain ⟨h14, hR⟩ := chkE hR
          refine ap' (α := Bound) (nw := true) (xs := s3.2.1) (ys := ([Bound.mk (w6 ((gt light s3.2.2) - r7.1)) (w6 ((gt light s3.2.2) + r8.1)) false] : List Bound)) rfl rfl rfl rfl (srcS' rfl rfl rfl) ti31 rfl ti36 rfl h14 rfl ?_
          refine fa rfl rfl ti33 rfl rfl ti31 rfl ?_
          refine stB (cs' := [.sc (.int .i64 w), .sc (.int .i64 h), slV Bound 3 1 0 (s3.2.1 ++ ([Bound.mk (w6 ((gt light s3.2.2) - r7.1)) (w6 ((gt light s3.2.2) + r8.1)) false] : List Bound)).length]) rfl rfl rfl rfl ti31 rfl rfl rfl rfl rfl ?_
          refine RunC.blk ?_
          refine RunC.fin ?_
          refine AWP.rgC 41 rfl rfl ?_
          refine pu (v := .sc _) rfl rfl (fun _ => rfl) ?_
          refine pu (v := .sc _) rfl rfl (fun _ => rfl) ?_
          refine RunC.fin ?_
          refine ⟨(z9.1, s3.2.1 ++ ([Bound.mk (w6 ((gt light s3.2.2) - r7.1)) (w6 ((gt light s3.2.2) + r8.1)) false] : List Bound), w6 (s3.2.2 + 1)), (Option.some.inj hR).symm, ?_⟩
          exact Weak.turnL [(0, 0), (1, 0), (2, 0), (3, 0)] [] rfl rfl (tc (trP' rfl rfl rfl rfl) (tc (.sc _) (tc (trP' rfl rfl rfl rfl) (tc (trP' rfl rfl rfl rfl) (tc (.sc _) (tc trR1 (tc (.sc _) (tc (.sc _) tn)))))))) (mc rfl (.box rfl (.cons trR1 (.cons (.sc _) (.nil))) rfl) (mc rfl (.box rfl (.cons (.sc _) (.cons (.sc _) (.cons (.sc _) (.nil)))) rfl) (mc rfl (.box rfl (.cons (.sc _) (.cons (.sc _) (.cons (trS' rfl rfl rfl rfl rfl) (.nil)))) rfl) (mc rfl (btrA' rfl) mn))))
    · refine AWP.exit ?_
      refine exT ?_
      refine exT ?_
      refine exH (skT ?_)
      refine ⟨(s3.1, s3.2.1), (Option.some.inj hR).symm, ?_⟩
      exact Weak.turnL [(0, 0), (1, 0), (2, 0), (3, 0)] [] rfl rfl (tc (trP' rfl rfl rfl rfl) (tc (trP' rfl rfl rfl rfl) tn)) (mc rfl (.box rfl (.cons trR1 (.cons (.sc _) (.nil))) rfl) (mc rfl (.box rfl (.cons (.sc _) (.cons (.sc _) (.cons (.sc _) (.nil)))) rfl) (mc rfl (.box rfl (.cons (.sc _) (.cons (.sc _) (.cons (trS' rfl rfl rfl rfl rfl) (.nil)))) rfl) (mc rfl (btrA' rfl) mn))))
  · refine skT ?_
    refine AWP.sq ?_
    refine AWP.rgC 12 rfl rfl ?_
    refine ldB (v := .agg _) rfl rfl rfl rfl ti33 rfl rfl ?_
    refine stB (cs' := [.sc (.int .i64 w), .sc (.int .i64 h), slV Bound 3 0 0 z4.2.length]) rfl rfl rfl rfl ti33 rfl rfl rfl rfl rfl ?_
    refine RunC.fin ?_
    refine AWP.ret ?_
    have hR := Option.some.inj hR; subst hR
    exact hQ _ _ (LS.mk [(10, .ptr 1 0 0)] (lblks 0 [boxB (α := spymake_Stream) false z4.1, boxB (α := Cells) true (Cells.mk w h z4.2)]) 2) (aggV (α := Cells) true (Cells.mk w h z4.2)) [] (.inr rfl) (Weak.turnL [(0, 0), (1, 0)] [3] rfl rfl (tc (trP' rfl rfl rfl rfl) tn) (mc rfl (.box rfl (.cons trR1 (.cons (.sc _) (.nil))) rfl) (mc rfl (.box rfl (.cons (.sc _) (.cons (.sc _) (.cons (trF' rfl rfl id rfl) (.nil)))) rfl) mn))) (ro1 (rvC (v := aggV (α := Cells) true (Cells.mk w h z4.2)) rfl rfl ti33 rfl)) rfl rfl ldA (pc rfl bldB pn)
theorem ok4 (s : spymake_Stream) (low : Int) (high : Int) (r : Int × spymake_Stream) (hR : Stream_Range s low high = some r) : FnD Try.prog 4 [boxB false s] [.ptr 0 0 0, .sc (.int .i64 low), .sc (.int .i64 high)] (.sc (.int .i64 r.1)) [boxB false r.2] := by
  refine FnX.walk Try.func4 rfl 19 1 (by simp [Try.ntmps4]) rfl fun W S F Q hQ => ?_
  unfold Stream_Range at hR
  refine AWP.sq ?_
  refine AWP.rgC 5 rfl rfl ?_
  refine pu (v := .sc _) rfl rfl (fun _ => rfl) ?_
  refine RunC.fin ?_
  refine AWP.sq ?_
  refine AWP.sq ?_
  refine AWP.rgC 17 rfl rfl ?_
  refine pu (v := .sc _) rfl rfl (fun _ => rfl) ?_
  refine pu (v := .sc _) rfl rfl (fun _ => rfl) ?_
  refine pu (v := .sc _) rfl rfl (fun _ => rfl) ?_
  refine RunC.fin ?_
  refine AWP.cd hR rfl (fun h1 hR => ?_) fun h1 hR => ?_
  · refine AWP.sq ?_
    refine AWP.rgC 25 rfl rfl ?_
    refine pu (v := .sc _) rfl rfl (fun _ => rfl) ?_
    refine pu (v := .sc _) rfl rfl (fun _ => rfl) ?_
    refine RunC.fin ?_
    refine AWP.ret ?_
    refine rtT ?_
    have hR := Option.some.inj hR; subst hR
    exact hQ _ _ (LS.mk [(6, .sc (.int .i64 low))] (lblks 0 [boxB (α := spymake_Stream) false s]) 1) (.sc (.int .i64 low)) [] (.inr rfl) (Weak.turnL [(0, 0)] [] rfl rfl (tc (.sc _) tn) (mc rfl (.box rfl (.cons trR1 (.cons (.sc _) (.nil))) rfl) mn)) (ro1 (rvT (v := .sc (.int .i64 low)) rfl)) rfl rfl (.sc _) (pc rfl bldB pn)
  · refine AWP.skip ?_
    refine skT ?_
    refine AWP.sq ?_
    refine AWP.rgC 53 rfl rfl ?_
    refine pu (v := .sc _) rfl rfl (fun _ => rfl) ?_
    refine pu (v := .ptr _ _ _) rfl rfl (fun _ => rfl) ?_
    refine pu (v := .sc _) rfl rfl (fun _ => rfl) ?_
    refine pu (v := .sc _) rfl rfl (fun _ => rfl) ?_
    refine pu (v := .sc _) rfl rfl (fun _ => rfl) ?_
    refine pu (v := .sc _) rfl rfl (fun _ => rfl) ?_
    obtain ⟨r2, hr2, hR⟩ := bindE hR
    refine cps (res' := .sc (.int .i64 r2.1)) (ups := [(0, boxB (α := spymake_Stream) false r2.2)]) [0] 41 rfl rfl rfl cb12 (ok12 s (w6 ((w6 (high - low)) + 1)) _ hr2) (.cons (ldP rfl rfl) (.cons (.sc _) (.nil))) (pc rfl (.box (.cons ldR' (.cons (.sc _) (.nil))) rfl) pn) rfl rfl rfl rfl rfl (by first | rfl | exact renR | exact renA | exact renS | simp only [V.ren, V.rens, renR, renA, renS] | (simp only [V.ren, V.rens, renR, renA, renS]; rfl)) (by simp only [passUps, renBox, renArr]; rfl) ?_
    refine pu (v := .sc _) rfl rfl (fun _ => rfl) ?_
    refine pu (v := .sc _) rfl rfl (fun _ => rfl) ?_
    refine RunC.fin ?_
    refine AWP.ret ?_
    have hR := Option.some.inj hR; subst hR
    exact hQ _ _ (LS.mk [(6, .sc (.int .i64 (w6 (low + r2.1))))] (lblks 0 [boxB (α := spymake_Stream) false r2.2]) 1) (.sc (.int .i64 (w6 (low + r2.1)))) [] (.inr rfl) (Weak.turnL [(0, 0)] [] rfl rfl (tc (.sc _) tn) (mc rfl (.box rfl (.cons trR1 (.cons (.sc _) (.nil))) rfl) mn)) (ro1 (rvT (v := .sc (.int .i64 (w6 (low + r2.1)))) rfl)) rfl rfl (.sc _) (pc rfl bldB pn)
theorem ok5 (s : spymake_Stream) (w : Int) (h : Int) (points : Int) (r : (List Int) × Int × spymake_Stream) (hR : Stream_Lights s w h points = some r) : FnD Try.prog 5 [boxB false s] [.ptr 0 0 0, .sc (.int .i64 w), .sc (.int .i64 h), .sc (.int .i64 points)] (.tup [rowV (α := Int) true r.1, .sc (.int .i64 r.2.1)]) [boxB false r.2.2] := by
  refine FnX.walk Try.func5 rfl 116 1 (by simp [Try.ntmps5]) rfl fun W S F Q hQ => ?_
  unfold Stream_Lights at hR
  refine AWP.sq ?_
  refine AWP.rgC 9 rfl rfl ?_
  refine pu (v := .sc _) rfl rfl (fun _ => rfl) ?_
  refine pu (v := .sc _) rfl rfl (fun _ => rfl) ?_
  refine RunC.fin ?_
  refine AWP.sq ?_
  refine AWP.rgC 21 rfl rfl ?_
  refine pu (v := .ptr _ _ _) rfl rfl (fun _ => rfl) ?_
  obtain ⟨r1, hr1, hR⟩ := bindE hR
  refine cps (res' := .sc (.int .i64 r1.1)) (ups := [(0, boxB (α := spymake_Stream) false r1.2)]) [0] 13 rfl rfl rfl cb12 (ok12 s 40 _ hr1) (.cons (ldP rfl rfl) (.cons (.sc _) (.nil))) (pc rfl (.box (.cons ldR' (.cons (.sc _) (.nil))) rfl) pn) rfl rfl rfl rfl rfl (by first | rfl | exact renR | exact renA | exact renS | simp only [V.ren, V.rens, renR, renA, renS] | (simp only [V.ren, V.rens, renR, renA, renS]; rfl)) (by simp only [passUps, renBox, renArr]; rfl) ?_
  refine pu (v := .sc _) rfl rfl (fun _ => rfl) ?_
  refine RunC.fin ?_
  refine AWP.sq ?_
  refine AWP.rgC 41 rfl rfl ?_
  refine pu (v := .sc _) rfl rfl (fun _ => rfl) ?_
  refine pu (v := .sc _) rfl rfl (fun _ => rfl) ?_
  refine pu (v := .sc _) rfl rfl (fun _ => rfl) ?_
  obtain ⟨h2, hR⟩ := chkE hR
  refine mk (α := Int) 33 true 0 rfl rfl rfl rfl ti27 rfl ti28 rfl rfl h2 ?_
  refine pu (v := slV Int _ _ _ _) rfl rfl (fun _ => rfl) ?_
  refine RunC.fin ?_
  refine AWP.sq ?_
  refine AWP.sq ?_
  refine AWP.rgC 53 rfl rfl ?_
  refine pu (v := slV Int _ _ _ _) rfl rfl (fun _ => rfl) ?_
  refine lenS (α := Int) rfl rfl ti27 rfl ?_
  refine pu (v := .sc _) rfl rfl (fun _ => rfl) ?_
  refine RunC.fin ?_
  refine AWP.loopJ (fun s3 : (List Int) × Int => LS.mk [(0, .ptr 0 0 0), (1, .sc (.int .i64 w)), (2, .sc (.int .i64 h)), (3, .sc (.int .i64 points)), (10, .sc (.int .i64 r1.1)), (11, slV Int 1 0 0 s3.1.length), (27, .sc (.int .i64 ((List.replicate (w6 (w * h)).toNat (0 : Int)).length : Int))), (28, .sc (.int .i64 s3.2))] (lblks 0 [boxB (α := spymake_Stream) false r1.2, arrB (α := Int) 28 0 true s3.1]) 2) (fun z4 : (List Int) => LS.mk [(0, .ptr 0 0 0), (1, .sc (.int .i64 w)), (2, .sc (.int .i64 h)), (3, .sc (.int .i64 points)), (10, .sc (.int .i64 r1.1)), (11, slV Int 1 0 0 z4.length)] (lblks 0 [boxB (α := spymake_Stream) false r1.2, arrB (α := Int) 28 0 true z4]) 2) (Stream_Lights.l1 w h r1) hR (s0 := (List.replicate (w6 (w * h)).toNat (0 : Int), 0)) (Weak.turnL [(0, 0), (33, 0)] [] rfl rfl (tc (trP' rfl rfl rfl rfl) (tc (.sc _) (tc (.sc _) (tc (.sc _) (tc (.sc _) (tc (trS' rfl rfl rfl rfl rfl) (tc (.sc _) (tc (.sc _) tn)))))))) (mc rfl (.box rfl (.cons trR1 (.cons (.sc _) (.nil))) rfl) (mc rfl (btrA' rfl) mn))) (fun s3 o3 hR => ?_) fun z4 hR => ?_
  · unfold Stream_Lights.l1 at hR
    refine AWP.sq ?_
    refine AWP.rgC 6 rfl rfl ?_
    obtain ⟨v5, ev5, hR⟩ := letE hR
    refine pu (v := .sc _) rfl rfl (fun _ => puB ev5) ?_
    refine RunC.fin ?_
    refine AWP.sq ?_
    refine AWP.cd hR rfl (fun h6 hR => ?_) fun h6 hR => ?_
    · refine AWP.skip ?_
      refine skT ?_
      refine AWP.sq ?_
      refine AWP.block ?_
      refine AWP.sq ?_
      refine AWP.rgC 14 rfl rfl ?_
      refine pu (v := .sc _) rfl rfl (fun _ => rfl) ?_
      refine pu (v := .sc _) rfl rfl (fun _ => rfl) ?_
      refine RunC.fin ?_
      refine AWP.rgC 34 rfl rfl ?_
      refine pu (v := slV Int _ _ _ _) rfl rfl (fun _ => rfl) ?_
      refine pu (v := .sc _) rfl rfl (fun _ => rfl) ?_
      refine pu (v := .sc _) rfl rfl (fun _ => rfl) ?_
      obtain ⟨h7, hR⟩ := chkE hR
      refine ixS0 (α := Int) rfl rfl rfl ti27 rfl ti28 rfl h7 ?_
      refine stE (α := Int) (y := r1.1) rfl rfl rfl (ixlt h7) ti28 rfl rfl rfl rfl rfl ?_
      refine RunC.blk ?_
      refine RunC.fin ?_
      refine AWP.rgC 42 rfl rfl ?_
      refine pu (v := .sc _) rfl rfl (fun _ => rfl) ?_
      refine pu (v := .sc _) rfl rfl (fun _ => rfl) ?_
      refine RunC.fin ?_
      refine ⟨(List.set s3.1 s3.2.toNat r1.1, w6 (s3.2 + 1)), (Option.some.inj hR).symm, ?_⟩
      exact Weak.turnL [(0, 0), (1, 0)] [] rfl rfl (tc (trP' rfl rfl rfl rfl) (tc (.sc _) (tc (.sc _) (tc (.sc _) (tc (.sc _) (tc (trS' rfl rfl rfl rfl (by simp only [List.length_set])) (tc (.sc _) (tc (.sc _) tn)))))))) (mc rfl (.box rfl (.cons trR1 (.cons (.sc _) (.nil))) rfl) (mc rfl (btrA' rfl) mn))
    · refine AWP.exit ?_
      refine exT ?_
      refine exT ?_
      refine exH (skT ?_)
      refine ⟨s3.1, (Option.some.inj hR).symm, ?_⟩
      exact Weak.turnL [(0, 0), (1, 0)] [] rfl rfl (tc (trP' rfl rfl rfl rfl) (tc (.sc _) (tc (.sc _) (tc (.sc _) (tc (.sc _) (tc (trS' rfl rfl rfl rfl rfl) tn)))))) (mc rfl (.box rfl (.cons trR1 (.cons (.sc _) (.nil))) rfl) (mc rfl (btrA' rfl) mn))
  · refine skT ?_
    refine AWP.sq ?_
    refine AWP.sq ?_
    refine AWP.rgC 10 rfl rfl ?_
    refine pu (v := .sc _) rfl rfl (fun _ => rfl) ?_
    refine pu (v := .sc _) rfl rfl (fun _ => rfl) ?_
    refine RunC.fin ?_
    refine AWP.loopJ (fun s8 : spymake_Stream × (List Int) × Int => LS.mk [(0, .ptr 0 0 0), (1, .sc (.int .i64 w)), (2, .sc (.int .i64 h)), (10, .sc (.int .i64 r1.1)), (11, slV Int 1 0 0 s8.2.1.length), (36, .sc (.int .i64 points)), (37, .sc (.int .i64 s8.2.2))] (lblks 0 [boxB (α := spymake_Stream) false s8.1, arrB (α := Int) 28 0 true s8.2.1]) 2) (fun z9 : spymake_Stream × (List Int) => LS.mk [(10, .sc (.int .i64 r1.1)), (11, slV Int 1 0 0 z9.2.length)] (lblks 0 [boxB (α := spymake_Stream) false z9.1, arrB (α := Int) 28 0 true z9.2]) 2) (Stream_Lights.l2 w h points) hR (s0 := (r1.2, z4, 0)) (Weak.turnL [(0, 0), (1, 0)] [] rfl rfl (tc (trP' rfl rfl rfl rfl) (tc (.sc _) (tc (.sc _) (tc (.sc _) (tc (trS' rfl rfl rfl rfl rfl) (tc (.sc _) (tc (.sc _) tn))))))) (mc rfl (.box rfl (.cons trR1 (.cons (.sc _) (.nil))) rfl) (mc rfl (btrA' rfl) mn))) (fun s8 o8 hR => ?_) fun z9 hR => ?_
    · unfold Stream_Lights.l2 at hR
      refine AWP.sq ?_
      refine AWP.rgC 6 rfl rfl ?_
      refine pu (v := .sc _) rfl rfl (fun _ => rfl) ?_
      refine RunC.fin ?_
      refine AWP.sq ?_
      refine AWP.cd hR rfl (fun h10 hR => ?_) fun h10 hR => ?_
      · refine AWP.skip ?_
        refine skT ?_
        refine AWP.sq ?_
        refine AWP.block ?_
        refine AWP.sq ?_
        refine AWP.rgC 50 rfl rfl ?_
        refine pu (v := .ptr _ _ _) rfl rfl (fun _ => rfl) ?_
        refine pu (v := .sc _) rfl rfl (fun _ => rfl) ?_
        obtain ⟨r11, hr11, hR⟩ := bindE hR
        refine cps (res' := .sc (.int .i64 r11.1)) (ups := [(0, boxB (α := spymake_Stream) false r11.2)]) [0] 14 rfl rfl rfl cb12 (ok12 s8.1 w _ hr11) (.cons (ldP rfl rfl) (.cons (.sc _) (.nil))) (pc rfl (.box (.cons ldR' (.cons (.sc _) (.nil))) rfl) pn) rfl rfl rfl rfl rfl (by first | rfl | exact renR | exact renA | exact renS | simp only [V.ren, V.rens, renR, renA, renS] | (simp only [V.ren, V.rens, renR, renA, renS]; rfl)) (by simp only [passUps, renBox, renArr]; rfl) ?_
        refine pu (v := .ptr _ _ _) rfl rfl (fun _ => rfl) ?_
        refine pu (v := .sc _) rfl rfl (fun _ => rfl) ?_
        obtain ⟨r12, hr12, hR⟩ := bindE hR
        refine cps (res' := .sc (.int .i64 r12.1)) (ups := [(0, boxB (α := spymake_Stream) false r12.2)]) [0] 26 rfl rfl rfl cb12 (ok12 r11.2 h _ hr12) (.cons (ldP rfl rfl) (.cons (.sc _) (.nil))) (pc rfl (.box (.cons ldR' (.cons (.sc _) (.nil))) rfl) pn) rfl rfl rfl rfl rfl (by first | rfl | exact renR | exact renA | exact renS | simp only [V.ren, V.rens, renR, renA, renS] | (simp only [V.ren, V.rens, renR, renA, renS]; rfl)) (by simp only [passUps, renBox, renArr]; rfl) ?_
        refine pu (v := .ptr _ _ _) rfl rfl (fun _ => rfl) ?_
        obtain ⟨r13, hr13, hR⟩ := bindE hR
        refine cps (res' := .sc (.int .i64 r13.1)) (ups := [(0, boxB (α := spymake_Stream) false r13.2)]) [0] 34 rfl rfl rfl cb4 (ok4 r12.2 1 3 _ hr13) (.cons (ldP rfl rfl) (.cons (.sc _) (.cons (.sc _) (.nil)))) (pc rfl (.box (.cons ldR' (.cons (.sc _) (.nil))) rfl) pn) rfl rfl rfl rfl rfl (by first | rfl | exact renR | exact renA | exact renS | simp only [V.ren, V.rens, renR, renA, renS] | (simp only [V.ren, V.rens, renR, renA, renS]; rfl)) (by simp only [passUps, renBox, renArr]; rfl) ?_
        refine pu (v := .sc _) rfl rfl (fun _ => rfl) ?_
        refine pu (v := .sc _) rfl rfl (fun _ => rfl) ?_
        refine pu (v := .sc _) rfl rfl (fun _ => rfl) ?_
        refine RunC.fin ?_
        refine AWP.sq ?_
        refine AWP.rgC 82 rfl rfl ?_
        refine pu (v := .ptr _ _ _) rfl rfl (fun _ => rfl) ?_
        refine bs (α := Int) 54 true ([30, 400, 5000] : List Int) rfl rfl ti22 rfl ti3 rfl rfl rfl rfl rfl ?_
        refine pu (v := .ptr _ _ _) rfl rfl (fun _ => rfl) ?_
        obtain ⟨r14, hr14, hR⟩ := bindE hR
        refine cps (res' := .sc (.int .i64 r14.1)) (ups := [(0, boxB (α := spymake_Stream) false r14.2)]) [0] 62 rfl rfl rfl cb12 (ok12 r13.2 3 _ hr14) (.cons (ldP rfl rfl) (.cons (.sc _) (.nil))) (pc rfl (.box (.cons ldR' (.cons (.sc _) (.nil))) rfl) pn) rfl rfl rfl rfl rfl (by first | rfl | exact renR | exact renA | exact renS | simp only [V.ren, V.rens, renR, renA, renS] | (simp only [V.ren, V.rens, renR, renA, renS]; rfl)) (by simp only [passUps, renBox, renArr]; rfl) ?_
        obtain ⟨h15, hR⟩ := chkE hR
        refine ixS0 (α := Int) rfl rfl rfl ti22 rfl ti3 rfl h15 ?_
        refine ldE (α := Int) (v := .sc _) rfl rfl rfl (ixlt h15) ti3 rfl rfl rfl rfl ?_
        obtain ⟨r16, hr16, hR⟩ := bindE hR
        refine cps (res' := .sc (.int .i64 r16.1)) (ups := [(0, boxB (α := spymake_Stream) false r16.2)]) [0] 74 rfl rfl rfl cb12 (ok12 r14.2 (gt ([30, 400, 5000] : List Int) r14.1) _ hr16) (.cons (ldP rfl rfl) (.cons (.sc _) (.nil))) (pc rfl (.box (.cons ldR' (.cons (.sc _) (.nil))) rfl) pn) rfl rfl rfl rfl rfl (by first | rfl | exact renR | exact renA | exact renS | simp only [V.ren, V.rens, renR, renA, renS] | (simp only [V.ren, V.rens, renR, renA, renS]; rfl)) (by simp only [passUps, renBox, renArr]; rfl) ?_
        refine pu (v := .sc _) rfl rfl (fun _ => rfl) ?_
        refine RunC.fin ?_
        refine AWP.sq ?_
        refine AWP.rgC 94 rfl rfl ?_
        refine pu (v := slV Int _ _ _ _) rfl rfl (fun _ => rfl) ?_
        refine lenS (α := Int) rfl rfl ti27 rfl ?_
        refine pu (v := .sc _) rfl rfl (fun _ => rfl) ?_
        refine RunC.fin ?_
        refine AWP.loopJ (fun s17 : (List Int) × Int => LS.mk [(0, .ptr 0 0 0), (1, .sc (.int .i64 w)), (2, .sc (.int .i64 h)), (10, .sc (.int .i64 r1.1)), (11, slV Int 1 0 0 s17.1.length), (13, .sc (.int .i64 r11.1)), (14, .sc (.int .i64 r12.1)), (15, .sc (.int .i64 r13.1)), (16, .sc (.int .i64 r16.1)), (36, .sc (.int .i64 points)), (37, .sc (.int .i64 s8.2.2)), (55, .sc (.int .i64 (s8.2.1.length : Int))), (56, .sc (.int .i64 s17.2))] (lblks 0 [boxB (α := spymake_Stream) false r16.2, arrB (α := Int) 28 0 true s17.1]) 2) (fun z18 : (List Int) => LS.mk [(0, .ptr 0 0 0), (1, .sc (.int .i64 w)), (2, .sc (.int .i64 h)), (10, .sc (.int .i64 r1.1)), (11, slV Int 1 0 0 z18.length), (36, .sc (.int .i64 points)), (37, .sc (.int .i64 s8.2.2))] (lblks 0 [boxB (α := spymake_Stream) false r16.2, arrB (α := Int) 28 0 true z18]) 2) (Stream_Lights.l3 w s8 r11 r12 r13 r16) hR (s0 := (s8.2.1, 0)) (Weak.turnL [(0, 0), (1, 0)] [] rfl rfl (tc (trP' rfl rfl rfl rfl) (tc (.sc _) (tc (.sc _) (tc (.sc _) (tc (trS' rfl rfl rfl rfl rfl) (tc (.sc _) (tc (.sc _) (tc (.sc _) (tc (.sc _) (tc (.sc _) (tc (.sc _) (tc (.sc _) (tc (.sc _) tn))))))))))))) (mc rfl (.box rfl (.cons trR1 (.cons (.sc _) (.nil))) rfl) (mc rfl (btrA' rfl) mn))) (fun s17 o17 hR => ?_) fun z18 hR => ?_
        · unfold Stream_Lights.l3 at hR
          refine AWP.sq ?_
          refine AWP.rgC 6 rfl rfl ?_
          refine pu (v := .sc _) rfl rfl (fun _ => rfl) ?_
          refine RunC.fin ?_
          refine AWP.sq ?_
          refine AWP.cd hR rfl (fun h19 hR => ?_) fun h19 hR => ?_
          · refine AWP.skip ?_
            refine skT ?_
            refine AWP.joinX (fun z20 : (List Int) => LS.mk [(0, .ptr 0 0 0), (1, .sc (.int .i64 w)), (2, .sc (.int .i64 h)), (10, .sc (.int .i64 r1.1)), (11, slV Int 1 0 0 z20.length), (13, .sc (.int .i64 r11.1)), (14, .sc (.int .i64 r12.1)), (15, .sc (.int .i64 r13.1)), (16, .sc (.int .i64 r16.1)), (36, .sc (.int .i64 points)), (37, .sc (.int .i64 s8.2.2)), (55, .sc (.int .i64 (s8.2.1.length : Int))), (56, .sc (.int .i64 s17.2))] (lblks 0 [boxB (α := spymake_Stream) false r16.2, arrB (α := Int) 28 0 true z20]) 2) hR (fun o20 hR => ?_) fun z20 hR => ?_
            · refine AWP.block ?_
              refine AWP.sq ?_
              refine AWP.rgC 14 rfl rfl ?_
              refine pu (v := .sc _) rfl rfl (fun _ => rfl) ?_
              refine pu (v := .sc _) rfl rfl (fun _ => rfl) ?_
              refine RunC.fin ?_
              refine AWP.sq ?_
              refine AWP.rgD 110 [0, 0, 3, 0, 15, 0, 0, 0, 192, 480, 1023, 0, 0, 6144, 0, 30720, 0, 0, 0, 393216, 983040, 2095104, 2047, 8388607] ⟨[], [none, none, none, none, none, none, none, none, none, none, none, none, none, none, none, none, none, none, none, none, none, none, none, none]⟩ hmix (by kernel_rfl) rfl rfl ?_
              refine pu (v := .sc _) rfl rfl (fun _ => rfl) ?_
              refine pu (v := .sc _) rfl rfl (fun _ => rfl) ?_
              obtain ⟨h21, hR⟩ := chkE hR
              refine rm rfl rfl rfl h21 rfl ?_
              refine pu (v := .sc _) rfl rfl (fun _ => rfl) ?_
              refine pu (v := .sc _) rfl rfl (fun _ => rfl) ?_
              refine pu (v := .sc _) rfl rfl (fun _ => rfl) ?_
              refine pu (v := .sc _) rfl rfl (fun _ => rfl) ?_
              refine pu (v := .sc _) rfl rfl (fun _ => rfl) ?_
              refine rm rfl rfl rfl h21 rfl ?_
              refine pu (v := .sc _) rfl rfl (fun _ => rfl) ?_
              obtain ⟨v22, ev22, hR⟩ := letE hR
              refine pu (v := .sc _) rfl rfl (fun _ => puI ev22) ?_
              refine pu (v := .sc _) rfl rfl (fun _ => rfl) ?_
              refine pu (v := .sc _) rfl rfl (fun _ => rfl) ?_
              refine qu rfl rfl rfl h21 rfl ?_
              refine pu (v := .sc _) rfl rfl (fun _ => rfl) ?_
              refine pu (v := .sc _) rfl rfl (fun _ => rfl) ?_
              refine pu (v := .sc _) rfl rfl (fun _ => rfl) ?_
              refine pu (v := .sc _) rfl rfl (fun _ => rfl) ?_
              refine pu (v := .sc _) rfl rfl (fun _ => rfl) ?_
              refine qu rfl rfl rfl h21 rfl ?_
              refine pu (v := .sc _) rfl rfl (fun _ => rfl) ?_
              obtain ⟨v23, ev23, hR⟩ := letE hR
              refine pu (v := .sc _) rfl rfl (fun _ => puI ev23) ?_
              refine pu (v := .sc _) rfl rfl (fun _ => rfl) ?_
              refine pu (v := .sc _) rfl rfl (fun _ => rfl) ?_
              refine RunC.fin ?_
              refine AWP.joinX (fun z24 : Bool => LS.mk [(0, .ptr 0 0 0), (1, .sc (.int .i64 w)), (2, .sc (.int .i64 h)), (10, .sc (.int .i64 r1.1)), (11, slV Int 1 0 0 s17.1.length), (13, .sc (.int .i64 r11.1)), (14, .sc (.int .i64 r12.1)), (15, .sc (.int .i64 r13.1)), (16, .sc (.int .i64 r16.1)), (17, .sc (.int .i64 s17.2)), (18, .sc (.int .i64 v22)), (19, .sc (.int .i64 v23)), (36, .sc (.int .i64 points)), (37, .sc (.int .i64 s8.2.2)), (55, .sc (.int .i64 (s8.2.1.length : Int))), (56, .sc (.int .i64 s17.2)), (88, .sc (.bool z24))] (lblks 0 [boxB (α := spymake_Stream) false r16.2, arrB (α := Int) 28 0 true s17.1]) 2) hR (fun o24 hR => ?_) fun z24 hR => ?_
              · refine AWP.rgC 142 rfl rfl ?_
                refine pu (v := .sc _) rfl rfl (fun _ => rfl) ?_
                refine pu (v := .sc _) rfl rfl (fun _ => rfl) ?_
                refine pu (v := .sc _) rfl rfl (fun _ => rfl) ?_
                refine pu (v := .sc _) rfl rfl (fun _ => rfl) ?_
                refine brR hR (fun h25 hR => ?_) fun h25 hR => ?_
                · refine pu (v := .sc _) (wtG rfl rfl rfl h25) rfl (fun _ => rfl) ?_
                  refine pu (v := .sc _) (wtG rfl rfl rfl h25) rfl (fun _ => rfl) ?_
                  refine pu (v := .sc _) (wtG rfl rfl rfl h25) rfl (fun _ => rfl) ?_
                  refine pkT (v := .sc (.bool (decide (v23 ≤ r13.1)))) rfl rfl h25 rfl ?_
                  refine RunC.fin ?_
                  have hR := Option.some.inj hR; subst hR
                  exact Weak.turnL [(0, 0), (1, 0)] [] rfl rfl (tc (trP' rfl rfl rfl rfl) (tc (.sc _) (tc (.sc _) (tc (.sc _) (tc (trS' rfl rfl rfl rfl rfl) (tc (.sc _) (tc (.sc _) (tc (.sc _) (tc (.sc _) (tc (.sc _) (tc (.sc _) (tc (.sc _) (tc (.sc _) (tc (.sc _) (tc (.sc _) (tc (.sc _) (tc (.sc _) tn))))))))))))))))) (mc rfl (.box rfl (.cons trR1 (.cons (.sc _) (.nil))) rfl) (mc rfl (btrA' rfl) mn))
                · refine sk (skW rfl rfl rfl h25) ?_
                  refine sk (skW rfl rfl rfl h25) ?_
                  refine sk (skW rfl rfl rfl h25) ?_
                  refine pkF (v := .sc (.bool false)) rfl rfl h25 rfl ?_
                  refine RunC.fin ?_
                  have hR := Option.some.inj hR; subst hR
                  exact Weak.turnL [(0, 0), (1, 0)] [] rfl rfl (tc (trP' rfl rfl rfl rfl) (tc (.sc _) (tc (.sc _) (tc (.sc _) (tc (trS' rfl rfl rfl rfl rfl) (tc (.sc _) (tc (.sc _) (tc (.sc _) (tc (.sc _) (tc (.sc _) (tc (.sc _) (tc (.sc _) (tc (.sc _) (tc (.sc _) (tc (.sc _) (tc (.sc _) (tc (.sc _) tn))))))))))))))))) (mc rfl (.box rfl (.cons trR1 (.cons (.sc _) (.nil))) rfl) (mc rfl (btrA' rfl) mn))
              · refine AWP.cd hR rfl (fun h26 hR => ?_) fun h26 hR => ?_
                · refine AWP.rgD 98 [0, 0, 3, 7, 0, 0, 32, 0, 224, 496, 0, 1024, 0, 7168, 16368, 0, 32768, 0, 131072, 491520, 1048560, 2097151, 4194303, 8388607] ⟨[], [none, none, none, some [1], none, none, none, none, none, none, none, none, none, none, none, none, none, none, none, none, none, none, none, some [1]]⟩ hmix (by kernel_rfl) rfl rfl ?_
                  refine pu (v := slV Int _ _ _ _) rfl rfl (fun _ => rfl) ?_
                  refine pu (v := .sc _) rfl rfl (fun _ => rfl) ?_
                  obtain ⟨h27, hR⟩ := chkE hR
                  refine ixS0 (α := Int) rfl rfl rfl ti27 rfl ti28 rfl h27 ?_
                  refine ldE (α := Int) (v := .sc _) rfl rfl rfl (ixlt h27) ti28 rfl rfl rfl rfl ?_
                  refine pu (v := .sc _) rfl rfl (fun _ => rfl) ?_
                  refine pu (v := .sc _) rfl rfl (fun _ => rfl) ?_
                  refine pu (v := .sc _) rfl rfl (fun _ => rfl) ?_
                  refine pu (v := .sc _) rfl rfl (fun _ => rfl) ?_
                  refine pu (v := .sc _) rfl rfl (fun _ => rfl) ?_
                  refine pu (v := .sc _) rfl rfl (fun _ => rfl) ?_
                  refine pu (v := .sc _) rfl rfl (fun _ => rfl) ?_
                  refine pu (v := .sc _) rfl rfl (fun _ => rfl) ?_
                  refine pu (v := .sc _) rfl rfl (fun _ => rfl) ?_
                  refine pu (v := .sc _) rfl rfl (fun _ => rfl) ?_
                  obtain ⟨v28, ev28, hR⟩ := letE hR
                  refine pu (v := .sc _) rfl rfl (fun _ => puI ev28) ?_
                  refine pu (v := .sc _) rfl rfl (fun _ => rfl) ?_
                  refine pu (v := .sc _) rfl rfl (fun _ => rfl) ?_
                  refine pu (v := .sc _) rfl rfl (fun _ => rfl) ?_
                  refine pu (v := .sc _) rfl rfl (fun _ => rfl) ?_
                  refine pu (v := .sc _) rfl rfl (fun _ => rfl) ?_
                  obtain ⟨h29, hR⟩ := chkE hR
                  refine qu rfl rfl rfl h29 rfl ?_
                  obtain ⟨v30, ev30, hR⟩ := letE hR
                  refine pu (v := .sc _) rfl rfl (fun _ => puI ev30) ?_
                  refine ixS0 (α := Int) rfl rfl rfl ti27 rfl ti28 rfl h27 ?_
                  refine stE (α := Int) (y := v30) rfl rfl rfl (ixlt h27) ti28 rfl rfl rfl rfl rfl ?_
                  refine RunC.blk ?_
                  refine RunC.fin ?_
                  have hR := Option.some.inj hR; subst hR
                  exact Weak.turnL [(0, 0), (1, 0)] [] rfl rfl (tc (trP' rfl rfl rfl rfl) (tc (.sc _) (tc (.sc _) (tc (.sc _) (tc (trS' rfl rfl rfl rfl (by simp only [List.length_set])) (tc (.sc _) (tc (.sc _) (tc (.sc _) (tc (.sc _) (tc (.sc _) (tc (.sc _) (tc (.sc _) (tc (.sc _) tn))))))))))))) (mc rfl (.box rfl (.cons trR1 (.cons (.sc _) (.nil))) rfl) (mc rfl (btrA' rfl) mn))
                · refine AWP.skip ?_
                  refine skB ?_
                  refine skT ?_
                  have hR := Option.some.inj hR; subst hR
                  exact Weak.turnL [(0, 0), (1, 0)] [] rfl rfl (tc (trP' rfl rfl rfl rfl) (tc (.sc _) (tc (.sc _) (tc (.sc _) (tc (trS' rfl rfl rfl rfl rfl) (tc (.sc _) (tc (.sc _) (tc (.sc _) (tc (.sc _) (tc (.sc _) (tc (.sc _) (tc (.sc _) (tc (.sc _) tn))))))))))))) (mc rfl (.box rfl (.cons trR1 (.cons (.sc _) (.nil))) rfl) (mc rfl (btrA' rfl) mn))
            · refine AWP.rgC 10 rfl rfl ?_
              refine pu (v := .sc _) rfl rfl (fun _ => rfl) ?_
              refine pu (v := .sc _) rfl rfl (fun _ => rfl) ?_
              refine RunC.fin ?_
              refine ⟨(z20, w6 (s17.2 + 1)), (Option.some.inj hR).symm, ?_⟩
              exact Weak.turnL [(0, 0), (1, 0)] [] rfl rfl (tc (trP' rfl rfl rfl rfl) (tc (.sc _) (tc (.sc _) (tc (.sc _) (tc (trS' rfl rfl rfl rfl rfl) (tc (.sc _) (tc (.sc _) (tc (.sc _) (tc (.sc _) (tc (.sc _) (tc (.sc _) (tc (.sc _) (tc (.sc _) tn))))))))))))) (mc rfl (.box rfl (.cons trR1 (.cons (.sc _) (.nil))) rfl) (mc rfl (btrA' rfl) mn))
          · refine AWP.exit ?_
            refine exT ?_
            refine exT ?_
            refine exH (skT ?_)
            refine ⟨s17.1, (Option.some.inj hR).symm, ?_⟩
            exact Weak.turnL [(0, 0), (1, 0)] [] rfl rfl (tc (trP' rfl rfl rfl rfl) (tc (.sc _) (tc (.sc _) (tc (.sc _) (tc (trS' rfl rfl rfl rfl rfl) (tc (.sc _) (tc (.sc _) tn))))))) (mc rfl (.box rfl (.cons trR1 (.cons (.sc _) (.nil))) rfl) (mc rfl (btrA' rfl) mn))
        · refine skB ?_
          refine skT ?_
          refine AWP.rgC 10 rfl rfl ?_
          refine pu (v := .sc _) rfl rfl (fun _ => rfl) ?_
          refine pu (v := .sc _) rfl rfl (fun _ => rfl) ?_
          refine RunC.fin ?_
          refine ⟨(r16.2, z18, w6 (s8.2.2 + 1)), (Option.some.inj hR).symm, ?_⟩
          exact Weak.turnL [(0, 0), (1, 0)] [] rfl rfl (tc (trP' rfl rfl rfl rfl) (tc (.sc _) (tc (.sc _) (tc (.sc _) (tc (trS' rfl rfl rfl rfl rfl) (tc (.sc _) (tc (.sc _) tn))))))) (mc rfl (.box rfl (.cons trR1 (.cons (.sc _) (.nil))) rfl) (mc rfl (btrA' rfl) mn))
      · refine AWP.exit ?_
        refine exT ?_
        refine exT ?_
        refine exH (skT ?_)
        refine ⟨(s8.1, s8.2.1), (Option.some.inj hR).symm, ?_⟩
        exact Weak.turnL [(0, 0), (1, 0)] [] rfl rfl (tc (.sc _) (tc (trS' rfl rfl rfl rfl rfl) tn)) (mc rfl (.box rfl (.cons trR1 (.cons (.sc _) (.nil))) rfl) (mc rfl (btrA' rfl) mn))
    · refine skT ?_
      refine AWP.sq ?_
      refine AWP.rgC 18 rfl rfl ?_
      refine pu (v := slV Int _ _ _ _) rfl rfl (fun _ => rfl) ?_
      refine pu (v := .sc _) rfl rfl (fun _ => rfl) ?_
      refine pu (v := slV Int _ _ _ _) rfl rfl (fun _ => rfl) ?_
      refine pu (v := .sc _) rfl rfl (fun _ => rfl) ?_
      refine RunC.fin ?_
      refine AWP.ret ?_
      have hR := Option.some.inj hR; subst hR
      exact hQ _ _ (LS.mk [(8, rowV (α := Int) true z9.2), (9, .sc (.int .i64 r1.1))] (lblks 0 [boxB (α := spymake_Stream) false z9.1]) 1) (.tup [rowV (α := Int) true z9.2, .sc (.int .i64 r1.1)]) [] (.inr rfl) (Weak.turnL [(0, 0)] [1] rfl rfl (tc (trF' rfl rfl id rfl) (tc (.sc _) tn)) (mc rfl (.box rfl (.cons trR1 (.cons (.sc _) (.nil))) rfl) mn)) (ro2 (rvT (v := rowV (α := Int) true z9.2) rfl) (rvT (v := .sc (.int .i64 r1.1)) rfl)) rfl rfl (.tup (.cons ldR' (.cons (.sc _) .nil))) (pc rfl bldB pn)
theorem ok11 (b : Bound) (at_ : Int) (p2 : Int) (r : Bool) (hR : spykeep4_MeasureTrue_1 b at_ p2 = some r) : FnP Try.prog 11 [aggV false b, .sc (.int .i64 at_), .rp (Cl.c false p2)] (.sc (.bool r)) := by
  refine fnP_of (FnX.walk Try.func11 rfl 24 0 (by simp [Try.ntmps11]) rfl fun W S F Q hQ => ?_)
  unfold spykeep4_MeasureTrue_1 at hR
  refine AWP.sq ?_
  refine AWP.rgC 8 rfl rfl ?_
  refine bx (cs := _) 0 rfl rfl rfl ?_
  refine pu (v := .sc _) rfl rfl (fun _ => rfl) ?_
  refine RunC.fin ?_
  refine AWP.joinX (fun z1 : Bool => LS.mk [(5, .sc (.bool z1))] (lblks 0 []) 0) hR (fun o1 hR => ?_) fun z1 hR => ?_
  · refine AWP.rgC 84 rfl rfl ?_
    refine fa rfl rfl ti40 rfl rfl ti4 rfl ?_
    refine ldB (v := .sc _) rfl rfl rfl rfl ti4 rfl rfl ?_
    refine pu (v := .sc _) rfl rfl (fun _ => rfl) ?_
    refine brR hR (fun h2 hR => ?_) fun h2 hR => ?_
    · refine sk (skW rfl rfl rfl h2) ?_
      refine sk (skW rfl rfl rfl h2) ?_
      refine sk (skW rfl rfl rfl h2) ?_
      refine sk (skW rfl rfl rfl h2) ?_
      refine sk (skW rfl rfl rfl h2) ?_
      refine sk (skW rfl rfl rfl h2) ?_
      refine sk (skW rfl rfl rfl h2) ?_
      refine sk (skW2 rfl rfl rfl) ?_
      refine sk (skW2 rfl rfl rfl) ?_
      refine sk (skW2 rfl rfl rfl) ?_
      refine sk (skW2 rfl rfl rfl) ?_
      refine sk (skW2 rfl rfl rfl) ?_
      refine sk (skW2 rfl rfl rfl) ?_
      refine sk (skW rfl rfl rfl h2) ?_
      refine pkT (v := .sc (.bool true)) rfl rfl h2 rfl ?_
      refine pu (v := .sc _) rfl rfl (fun _ => rfl) ?_
      refine RunC.fin ?_
      have hR := Option.some.inj hR; subst hR
      exact Weak.turnL [] [] rfl rfl (tc (.sc _) tn) mn
    · refine fa (wtG rfl rfl rfl h2) rfl ti40 rfl rfl ti38 rfl ?_
      refine ldB (v := .sc _) (wtG rfl rfl rfl h2) rfl rfl rfl ti38 rfl rfl ?_
      refine ldR (v := .sc _) (wtG rfl rfl rfl h2) rfl ti28 rfl ?_
      refine pu (v := .sc _) (wtG rfl rfl rfl h2) rfl (fun _ => rfl) ?_
      refine pu (v := .sc _) (wtG rfl rfl rfl h2) rfl (fun _ => rfl) ?_
      refine pu (v := .sc _) (wtG rfl rfl rfl h2) rfl (fun _ => rfl) ?_
      refine pu (v := .sc _) (wtG rfl rfl rfl h2) rfl (fun _ => rfl) ?_
      refine brR hR (fun h3 hR => ?_) fun h3 hR => ?_
      · refine pu (v := .sc _) (wtG rfl rfl rfl h3) rfl (fun _ => rfl) ?_
        refine fa (wtG rfl rfl rfl h3) rfl ti40 rfl rfl ti38 rfl ?_
        refine ldB (v := .sc _) (wtG rfl rfl rfl h3) rfl rfl rfl ti38 rfl rfl ?_
        refine ldR (v := .sc _) (wtG rfl rfl rfl h3) rfl ti28 rfl ?_
        refine pu (v := .sc _) (wtG rfl rfl rfl h3) rfl (fun _ => rfl) ?_
        refine pu (v := .sc _) (wtG rfl rfl rfl h3) rfl (fun _ => rfl) ?_
        refine pkT (v := .sc (.bool (decide (at_ ≤ (w6 (b.Hi * p2)))))) (wtG rfl rfl rfl h2) rfl h3 rfl ?_
        refine pkF (v := .sc (.bool (decide (at_ ≤ (w6 (b.Hi * p2)))))) rfl rfl h2 rfl ?_
        refine pu (v := .sc _) rfl rfl (fun _ => rfl) ?_
        refine RunC.fin ?_
        have hR := Option.some.inj hR; subst hR
        exact Weak.turnL [] [] rfl rfl (tc (.sc _) tn) mn
      · refine sk (skW rfl rfl rfl h3) ?_
        refine sk (skW rfl rfl rfl h3) ?_
        refine sk (skW rfl rfl rfl h3) ?_
        refine sk (skW rfl rfl rfl h3) ?_
        refine sk (skW rfl rfl rfl h3) ?_
        refine sk (skW rfl rfl rfl h3) ?_
        refine pkF (v := .sc (.bool false)) (wtG rfl rfl rfl h2) rfl h3 rfl ?_
        refine pkF (v := .sc (.bool false)) rfl rfl h2 rfl ?_
        refine pu (v := .sc _) rfl rfl (fun _ => rfl) ?_
        refine RunC.fin ?_
        have hR := Option.some.inj hR; subst hR
        exact Weak.turnL [] [] rfl rfl (tc (.sc _) tn) mn
  · refine AWP.ret ?_
    have hR := Option.some.inj hR; subst hR
    exact hQ _ _ (LS.mk [(5, .sc (.bool z1))] (lblks 0 []) 0) (.sc (.bool z1)) [] (.inr rfl) (Weak.turnL [] [] rfl rfl (tc (.sc _) tn) mn) (ro1 (rvT (v := .sc (.bool z1)) rfl)) rfl rfl (.sc _) pn
theorem ok3 (l : List Int) (r : Bool) (hR : spykeep4_MeasureTrue l = some r) : FnP Try.prog 3 [rowV false l] (.sc (.bool r)) := by
  refine fnP_of (FnX.walk Try.func3 rfl 189 0 (by simp [Try.ntmps3]) rfl fun W S F Q hQ => ?_)
  unfold spykeep4_MeasureTrue at hR
  refine AWP.sq ?_
  refine AWP.rgC 4 rfl rfl ?_
  refine pu (v := .sc _) rfl rfl (fun _ => rfl) ?_
  refine RunC.fin ?_
  refine AWP.sq ?_
  refine AWP.rgC 20 rfl rfl ?_
  refine pu (v := rowV _ l) rfl rfl (fun _ => rfl) ?_
  refine bu (cs := [rowV (α := Int) false l, .sc (.int .i64 0)]) rfl bt25 rfl ?_
  refine bx (cs := _) 12 rfl rfl rfl ?_
  refine pu (v := .ptr _ _ _) rfl rfl (fun _ => rfl) ?_
  refine RunC.fin ?_
  refine AWP.sq ?_
  refine AWP.rgC 32 rfl rfl ?_
  refine pu (v := .ptr _ _ _) rfl rfl (fun _ => rfl) ?_
  obtain ⟨r1, hr1, hR⟩ := bindE hR
  refine cps (res' := .sc (.int .i64 r1.1)) (ups := [(12, boxB (α := spymake_Stream) false r1.2)]) [12] 24 rfl rfl rfl cb4 (ok4 (spymake_Stream.mk l 0) 0 3 _ hr1) (.cons (ldP rfl rfl) (.cons (.sc _) (.cons (.sc _) (.nil)))) (pc rfl (.box (.cons ldR' (.cons (.sc _) (.nil))) rfl) pn) rfl rfl rfl rfl rfl (by first | rfl | exact renR | exact renA | exact renS | simp only [V.ren, V.rens, renR, renA, renS] | (simp only [V.ren, V.rens, renR, renA, renS]; rfl)) (by simp only [passUps, renBox, renArr]; rfl) ?_
  refine pu (v := .sc _) rfl rfl (fun _ => rfl) ?_
  refine RunC.fin ?_
  refine AWP.sq ?_
  refine AWP.rgC 80 rfl rfl ?_
  refine pu (v := .ptr _ _ _) rfl rfl (fun _ => rfl) ?_
  refine pu (v := .sc _) rfl rfl (fun _ => rfl) ?_
  refine pu (v := .sc _) rfl rfl (fun _ => rfl) ?_
  refine pu (v := .sc _) rfl rfl (fun _ => rfl) ?_
  obtain ⟨r2, hr2, hR⟩ := bindE hR
  refine cps (res' := .sc (.int .i64 r2.1)) (ups := [(12, boxB (α := spymake_Stream) false r2.2)]) [12] 48 rfl rfl rfl cb4 (ok4 r1.2 (w6 ((w6 (2 * r1.1)) + 1)) 9 _ hr2) (.cons (ldP rfl rfl) (.cons (.sc _) (.cons (.sc _) (.nil)))) (pc rfl (.box (.cons ldR' (.cons (.sc _) (.nil))) rfl) pn) rfl rfl rfl rfl rfl (by first | rfl | exact renR | exact renA | exact renS | simp only [V.ren, V.rens, renR, renA, renS] | (simp only [V.ren, V.rens, renR, renA, renS]; rfl)) (by simp only [passUps, renBox, renArr]; rfl) ?_
  refine pu (v := .ptr _ _ _) rfl rfl (fun _ => rfl) ?_
  refine pu (v := .sc _) rfl rfl (fun _ => rfl) ?_
  refine pu (v := .sc _) rfl rfl (fun _ => rfl) ?_
  refine pu (v := .sc _) rfl rfl (fun _ => rfl) ?_
  obtain ⟨r3, hr3, hR⟩ := bindE hR
  refine cps (res' := .sc (.int .i64 r3.1)) (ups := [(12, boxB (α := spymake_Stream) false r3.2)]) [12] 68 rfl rfl rfl cb4 (ok4 r2.2 (w6 ((w6 (2 * r1.1)) + 1)) 9 _ hr3) (.cons (ldP rfl rfl) (.cons (.sc _) (.cons (.sc _) (.nil)))) (pc rfl (.box (.cons ldR' (.cons (.sc _) (.nil))) rfl) pn) rfl rfl rfl rfl rfl (by first | rfl | exact renR | exact renA | exact renS | simp only [V.ren, V.rens, renR, renA, renS] | (simp only [V.ren, V.rens, renR, renA, renS]; rfl)) (by simp only [passUps, renBox, renArr]; rfl) ?_
  refine pu (v := .sc _) rfl rfl (fun _ => rfl) ?_
  refine pu (v := .sc _) rfl rfl (fun _ => rfl) ?_
  refine RunC.fin ?_
  refine AWP.sq ?_
  refine AWP.rgC 124 rfl rfl ?_
  refine pu (v := .ptr _ _ _) rfl rfl (fun _ => rfl) ?_
  refine pu (v := .sc _) rfl rfl (fun _ => rfl) ?_
  refine pu (v := .sc _) rfl rfl (fun _ => rfl) ?_
  refine pu (v := .ptr _ _ _) rfl rfl (fun _ => rfl) ?_
  obtain ⟨r4, hr4, hR⟩ := bindE hR
  refine cps (res' := .sc (.int .i64 r4.1)) (ups := [(12, boxB (α := spymake_Stream) false r4.2)]) [12] 96 rfl rfl rfl cb4 (ok4 r3.2 1 3 _ hr4) (.cons (ldP rfl rfl) (.cons (.sc _) (.cons (.sc _) (.nil)))) (pc rfl (.box (.cons ldR' (.cons (.sc _) (.nil))) rfl) pn) rfl rfl rfl rfl rfl (by first | rfl | exact renR | exact renA | exact renS | simp only [V.ren, V.rens, renR, renA, renS] | (simp only [V.ren, V.rens, renR, renA, renS]; rfl)) (by simp only [passUps, renBox, renArr]; rfl) ?_
  obtain ⟨r5, hr5, hR⟩ := bindE hR
  refine cps (res' := .tup [rowV (α := Int) true r5.1, .sc (.int .i64 r5.2.1)]) (ups := [(12, boxB (α := spymake_Stream) false r5.2.2)]) [12] 100 rfl rfl rfl cb5 (ok5 r4.2 r2.1 r3.1 r4.1 _ hr5) (.cons (ldP rfl rfl) (.cons (.sc _) (.cons (.sc _) (.cons (.sc _) (.nil))))) (pc rfl (.box (.cons ldR' (.cons (.sc _) (.nil))) rfl) pn) rfl rfl rfl rfl rfl (by first | rfl | exact renR | exact renA | exact renS | simp only [V.ren, V.rens, renR, renA, renS] | (simp only [V.ren, V.rens, renR, renA, renS]; rfl)) (by simp only [passUps, renBox, renArr]; rfl) ?_
  refine pu (v := .tup _) rfl rfl (fun _ => rfl) ?_
  refine pu (v := rowV _ r5.1) rfl rfl (fun _ => rfl) ?_
  refine pu (v := .sc _) rfl rfl (fun _ => rfl) ?_
  refine pu (v := rowV _ r5.1) rfl rfl (fun _ => rfl) ?_
  refine pu (v := .sc _) rfl rfl (fun _ => rfl) ?_
  refine RunC.fin ?_
  refine AWP.sq ?_
  refine AWP.rgC 172 rfl rfl ?_
  refine pu (v := .ptr _ _ _) rfl rfl (fun _ => rfl) ?_
  refine pu (v := .sc _) rfl rfl (fun _ => rfl) ?_
  refine pu (v := .sc _) rfl rfl (fun _ => rfl) ?_
  refine pu (v := rowV _ r5.1) rfl rfl (fun _ => rfl) ?_
  obtain ⟨r6, hr6, hR⟩ := bindE hR
  refine cps (res' := aggV (α := Cells) true r6.1) (ups := [(12, boxB (α := spymake_Stream) false r6.2)]) [12] 140 rfl rfl rfl cb6 (ok6 r5.2.2 r2.1 r3.1 r5.1 false _ hr6) (.cons (ldP rfl rfl) (.cons (.sc _) (.cons (.sc _) (.cons ldR' (.cons (.sc _) (.nil)))))) (pc rfl (.box (.cons ldR' (.cons (.sc _) (.nil))) rfl) pn) rfl rfl rfl rfl rfl (by first | rfl | exact renR | exact renA | exact renS | simp only [V.ren, V.rens, renR, renA, renS] | (simp only [V.ren, V.rens, renR, renA, renS]; rfl)) (by simp only [passUps, renBox, renArr]; rfl) ?_
  refine pu (v := .ptr _ _ _) rfl rfl (fun _ => rfl) ?_
  refine pu (v := .sc _) rfl rfl (fun _ => rfl) ?_
  obtain ⟨r7, hr7, hR⟩ := bindE hR
  refine cps (res' := aggV (α := Bound) true r7.1) (ups := [(12, boxB (α := spymake_Stream) false r7.2)]) [12] 152 rfl rfl rfl cb7 (ok7 r6.2 r5.2.1 _ hr7) (.cons (ldP rfl rfl) (.cons (.sc _) (.nil))) (pc rfl (.box (.cons ldR' (.cons (.sc _) (.nil))) rfl) pn) rfl rfl rfl rfl rfl (by first | rfl | exact renR | exact renA | exact renS | simp only [V.ren, V.rens, renR, renA, renS] | (simp only [V.ren, V.rens, renR, renA, renS]; rfl)) (by simp only [passUps, renBox, renArr]; rfl) ?_
  refine al (cs := [.sc (.int .i64 0), .sc (.int .i64 0), .sc (.slice none 0 0)]) 156 rfl rfl ti33 rfl rfl ?_
  refine al (cs := [.sc (.int .i64 0), .sc (.int .i64 0), .sc (.bool false)]) 160 rfl rfl ti36 rfl rfl ?_
  refine stB (cs' := [.sc (.int .i64 r6.1.W), .sc (.int .i64 r6.1.H), rowV (α := Bound) true r6.1.At]) rfl rfl rfl rfl ti33 rfl rfl rfl rfl rfl ?_
  refine stB (cs' := [.sc (.int .i64 r7.1.Lo), .sc (.int .i64 r7.1.Hi), .sc (.bool r7.1.Unknown)]) rfl rfl rfl rfl ti36 rfl rfl rfl rfl rfl ?_
  refine RunC.fin ?_
  refine AWP.sq ?_
  refine AWP.rgC 220 rfl rfl ?_
  refine fa rfl rfl ti36 rfl rfl ti28 rfl ?_
  refine ldB (v := .sc _) rfl rfl rfl rfl ti28 rfl rfl ?_
  refine pu (v := .sc _) rfl rfl (fun _ => rfl) ?_
  refine pu (v := .sc _) rfl rfl (fun _ => rfl) ?_
  refine fa rfl rfl ti36 rfl rfl ti28 rfl ?_
  refine ldB (v := .sc _) rfl rfl rfl rfl ti28 rfl rfl ?_
  refine pu (v := .sc _) rfl rfl (fun _ => rfl) ?_
  refine pu (v := .sc _) rfl rfl (fun _ => rfl) ?_
  refine fa rfl rfl ti36 rfl rfl ti28 rfl ?_
  refine stB (cs' := [.sc (.int .i64 (mn2 r7.1.Lo r5.2.1)), .sc (.int .i64 r7.1.Hi), .sc (.bool r7.1.Unknown)]) rfl rfl rfl rfl ti28 rfl rfl rfl rfl rfl ?_
  refine fa rfl rfl ti36 rfl rfl ti28 rfl ?_
  refine stB (cs' := [.sc (.int .i64 (mn2 r7.1.Lo r5.2.1)), .sc (.int .i64 (mx2 r7.1.Hi r5.2.1)), .sc (.bool r7.1.Unknown)]) rfl rfl rfl rfl ti28 rfl rfl rfl rfl rfl ?_
  refine RunC.fin ?_
  refine AWP.sq ?_
  refine AWP.rgC 292 rfl rfl ?_
  refine pu (v := .ptr _ _ _) rfl rfl (fun _ => rfl) ?_
  refine pu (v := .sc _) rfl rfl (fun _ => rfl) ?_
  refine pu (v := .sc _) rfl rfl (fun _ => rfl) ?_
  refine pu (v := .sc _) rfl rfl (fun _ => rfl) ?_
  refine pu (v := .sc _) rfl rfl (fun _ => rfl) ?_
  refine pu (v := .sc _) rfl rfl (fun _ => rfl) ?_
  obtain ⟨r8, hr8, hR⟩ := bindE hR
  refine cps (res' := .sc (.int .i64 r8.1)) (ups := [(12, boxB (α := spymake_Stream) false r8.2)]) [12] 244 rfl rfl rfl cb4 (ok4 r7.2 r1.1 (w6 ((w6 (r3.1 - 1)) - r1.1)) _ hr8) (.cons (ldP rfl rfl) (.cons (.sc _) (.cons (.sc _) (.nil)))) (pc rfl (.box (.cons ldR' (.cons (.sc _) (.nil))) rfl) pn) rfl rfl rfl rfl rfl (by first | rfl | exact renR | exact renA | exact renS | simp only [V.ren, V.rens, renR, renA, renS] | (simp only [V.ren, V.rens, renR, renA, renS]; rfl)) (by simp only [passUps, renBox, renArr]; rfl) ?_
  refine pu (v := .sc _) rfl rfl (fun _ => rfl) ?_
  refine pu (v := .sc _) rfl rfl (fun _ => rfl) ?_
  refine pu (v := .ptr _ _ _) rfl rfl (fun _ => rfl) ?_
  refine pu (v := .sc _) rfl rfl (fun _ => rfl) ?_
  refine pu (v := .sc _) rfl rfl (fun _ => rfl) ?_
  refine pu (v := .sc _) rfl rfl (fun _ => rfl) ?_
  refine pu (v := .sc _) rfl rfl (fun _ => rfl) ?_
  refine pu (v := .sc _) rfl rfl (fun _ => rfl) ?_
  obtain ⟨r9, hr9, hR⟩ := bindE hR
  refine cps (res' := .sc (.int .i64 r9.1)) (ups := [(12, boxB (α := spymake_Stream) false r9.2)]) [12] 280 rfl rfl rfl cb4 (ok4 r8.2 r1.1 (w6 ((w6 (r2.1 - 1)) - r1.1)) _ hr9) (.cons (ldP rfl rfl) (.cons (.sc _) (.cons (.sc _) (.nil)))) (pc rfl (.box (.cons ldR' (.cons (.sc _) (.nil))) rfl) pn) rfl rfl rfl rfl rfl (by first | rfl | exact renR | exact renA | exact renS | simp only [V.ren, V.rens, renR, renA, renS] | (simp only [V.ren, V.rens, renR, renA, renS]; rfl)) (by simp only [passUps, renBox, renArr]; rfl) ?_
  refine pu (v := .sc _) rfl rfl (fun _ => rfl) ?_
  refine pu (v := .sc _) rfl rfl (fun _ => rfl) ?_
  refine RunC.fin ?_
  refine AWP.sq ?_
  refine AWP.rgC 340 rfl rfl ?_
  refine ldB (v := .agg _) rfl rfl rfl rfl ti33 rfl rfl ?_
  refine ldB (v := .agg _) rfl rfl rfl rfl ti36 rfl rfl ?_
  refine pu (v := .sc _) rfl rfl (fun _ => rfl) ?_
  refine bu (cs := [.sc (.int .i64 (w6 ((w6 (r8.1 * r2.1)) + r9.1))), .sc (.slice none 0 0)]) rfl bt47 rfl ?_
  refine pu (v := .sc _) rfl rfl (fun _ => rfl) ?_
  obtain ⟨r10, hr10, hR⟩ := bindE hR
  refine cls [] rfl rfl cb8 (ok8 r6.1 (Bound.mk (mn2 r7.1.Lo r5.2.1) (mx2 r7.1.Hi r5.2.1) r7.1.Unknown) (Source_.mk (w6 ((w6 (r8.1 * r2.1)) + r9.1)) []) r1.1 _ hr10) (.cons (.agg (.cons (.sc _) (.cons (.sc _) (.cons ldR' (.nil)))) rfl) (.cons (.agg (.cons (.sc _) (.cons (.sc _) (.cons (.sc _) (.nil)))) rfl) (.cons (.agg (.cons (.sc _) (.cons .nil (.nil))) rfl) (.cons (.sc _) (.nil))))) (.inr rfl) rfl ?_
  refine pu (v := .tup _) rfl rfl (fun _ => rfl) ?_
  refine pu (v := .agg _) rfl rfl (fun _ => rfl) ?_
  refine pu (v := .sc _) rfl rfl (fun _ => rfl) ?_
  refine al (cs := [.sc (.int .i64 0), .sc (.int .i64 0), .sc (.bool false), .sc (.int .i64 0), .sc (.int .i64 0), .sc (.bool false), .sc (.int .i64 0), .sc (.int .i64 0), .sc (.bool false)]) 328 rfl rfl ti42 rfl rfl ?_
  refine stB (cs' := [.sc (.int .i64 r10.1.X.Lo), .sc (.int .i64 r10.1.X.Hi), .sc (.bool r10.1.X.Unknown), .sc (.int .i64 r10.1.Y.Lo), .sc (.int .i64 r10.1.Y.Hi), .sc (.bool r10.1.Y.Unknown), .sc (.int .i64 r10.1.Flux.Lo), .sc (.int .i64 r10.1.Flux.Hi), .sc (.bool r10.1.Flux.Unknown)]) rfl rfl rfl rfl ti42 rfl rfl rfl rfl rfl ?_
  refine pu (v := .sc _) rfl rfl (fun _ => rfl) ?_
  refine RunC.fin ?_
  refine AWP.sq ?_
  refine AWP.rgC 368 rfl rfl ?_
  refine pu (v := .sc _) rfl rfl (fun _ => rfl) ?_
  refine bu (cs := [.sc (.int .i64 (w6 ((w6 (r8.1 * r2.1)) + r9.1))), .sc (.slice none 0 0)]) rfl bt47 rfl ?_
  refine pu (v := .sc _) rfl rfl (fun _ => rfl) ?_
  refine pu (v := .sc _) rfl rfl (fun _ => rfl) ?_
  refine pu (v := .sc _) rfl rfl (fun _ => rfl) ?_
  obtain ⟨r11, hr11, hR⟩ := bindE hR
  refine cls [] rfl rfl cb9 (ok9 (Source_.mk (w6 ((w6 (r8.1 * r2.1)) + r9.1)) []) r2.1 r3.1 r1.1 _ hr11) (.cons (.agg (.cons (.sc _) (.cons .nil (.nil))) rfl) (.cons (.sc _) (.cons (.sc _) (.cons (.sc _) (.nil))))) (.inr rfl) rfl ?_
  refine pu (v := rowV _ r11) rfl rfl (fun _ => rfl) ?_
  refine RunC.fin ?_
  refine AWP.sq ?_
  refine AWP.joinX (fun z12 : Bool => LS.mk [(5, .sc (.int .i64 r2.1)), (7, rowV (α := Int) true r5.1), (8, .sc (.int .i64 r5.2.1)), (12, .ptr 0 0 0), (14, rowV (α := Int) true r11), (113, .sc (.bool z12))] (lblks 0 [boxB (α := Measured) true r10.1]) 1) hR (fun o12 hR => ?_) fun z12 hR => ?_
  · refine AWP.rgC 440 rfl rfl ?_
    obtain ⟨r13, hr13, hR⟩ := bindE hR
    refine cls [] rfl rfl cb10 (ok10 _ hr13) (.nil) (.inr rfl) rfl ?_
    refine pu (v := .sc _) rfl rfl (fun _ => rfl) ?_
    refine pu (v := .sc _) rfl rfl (fun _ => rfl) ?_
    refine brR hR (fun h14 hR => ?_) fun h14 hR => ?_
    · refine sk (skW rfl rfl rfl h14) ?_
      refine sk (skW rfl rfl rfl h14) ?_
      refine pkT (v := .sc (.bool true)) rfl rfl h14 rfl ?_
      refine pu (v := .sc _) rfl rfl (fun _ => rfl) ?_
      refine sk (skW rfl rfl rfl rfl) ?_
      refine sk (skW rfl rfl rfl rfl) ?_
      refine sk (skW rfl rfl rfl rfl) ?_
      refine sk (skW rfl rfl rfl rfl) ?_
      refine sk (skW rfl rfl rfl rfl) ?_
      refine sk (skW rfl rfl rfl rfl) ?_
      refine sk (skW rfl rfl rfl rfl) ?_
      refine sk (skW rfl rfl rfl rfl) ?_
      refine sk (skW rfl rfl rfl rfl) ?_
      refine sk (skW rfl rfl rfl rfl) ?_
      refine pkT (v := .sc (.bool true)) rfl rfl rfl rfl ?_
      refine RunC.fin ?_
      have hR := Option.some.inj hR; subst hR
      exact Weak.turnL [(328, 0)] [] rfl rfl (tc (.sc _) (tc trR1 (tc (.sc _) (tc (trP' rfl rfl rfl rfl) (tc trR1 (tc (.sc _) tn)))))) (mc rfl (.box rfl (.cons (.sc _) (.cons (.sc _) (.cons (.sc _) (.cons (.sc _) (.cons (.sc _) (.cons (.sc _) (.cons (.sc _) (.cons (.sc _) (.cons (.sc _) (.nil)))))))))) rfl) mn)
    · refine pu (v := .sc _) (wtG rfl rfl rfl h14) rfl (fun _ => rfl) ?_
      refine pu (v := .sc _) (wtG rfl rfl rfl h14) rfl (fun _ => rfl) ?_
      refine pkF (v := .sc (.bool (r10.2 != 0))) rfl rfl h14 rfl ?_
      refine pu (v := .sc _) rfl rfl (fun _ => rfl) ?_
      refine brR hR (fun h15 hR => ?_) fun h15 hR => ?_
      · refine sk (skW rfl rfl rfl h15) ?_
        refine sk (skW rfl rfl rfl h15) ?_
        refine sk (skW rfl rfl rfl h15) ?_
        refine sk (skW rfl rfl rfl h15) ?_
        refine sk (skW rfl rfl rfl h15) ?_
        refine sk (skW rfl rfl rfl h15) ?_
        refine sk (skW rfl rfl rfl h15) ?_
        refine sk (skW rfl rfl rfl h15) ?_
        refine sk (skW rfl rfl rfl h15) ?_
        refine sk (skW rfl rfl rfl h15) ?_
        refine pkT (v := .sc (.bool true)) rfl rfl h15 rfl ?_
        refine RunC.fin ?_
        have hR := Option.some.inj hR; subst hR
        exact Weak.turnL [(328, 0)] [] rfl rfl (tc (.sc _) (tc trR1 (tc (.sc _) (tc (trP' rfl rfl rfl rfl) (tc trR1 (tc (.sc _) tn)))))) (mc rfl (.box rfl (.cons (.sc _) (.cons (.sc _) (.cons (.sc _) (.cons (.sc _) (.cons (.sc _) (.cons (.sc _) (.cons (.sc _) (.cons (.sc _) (.cons (.sc _) (.nil)))))))))) rfl) mn)
      · refine pu (v := rowV _ r11) (wtG rfl rfl rfl h15) rfl (fun _ => rfl) ?_
        refine lenL (α := Int) (wtG rfl rfl rfl h15) rfl ti22 rfl ?_
        refine pu (v := .sc _) (wtG rfl rfl rfl h15) rfl (fun _ => rfl) ?_
        refine pu (v := .sc _) (wtG rfl rfl rfl h15) rfl (fun _ => rfl) ?_
        refine pu (v := .sc _) (wtG rfl rfl rfl h15) rfl (fun _ => rfl) ?_
        refine pu (v := .sc _) (wtG rfl rfl rfl h15) rfl (fun _ => rfl) ?_
        refine pu (v := .sc _) (wtG rfl rfl rfl h15) rfl (fun _ => rfl) ?_
        refine pu (v := .sc _) (wtG rfl rfl rfl h15) rfl (fun _ => rfl) ?_
        refine pu (v := .sc _) (wtG rfl rfl rfl h15) rfl (fun _ => rfl) ?_
        obtain ⟨v16, ev16, hR⟩ := letE hR
        refine pu (v := .sc _) (wtG rfl rfl rfl h15) rfl (fun _ => puB ev16) ?_
        refine pkF (v := .sc (.bool v16)) rfl rfl h15 rfl ?_
        refine RunC.fin ?_
        have hR := Option.some.inj hR; subst hR
        exact Weak.turnL [(328, 0)] [] rfl rfl (tc (.sc _) (tc trR1 (tc (.sc _) (tc (trP' rfl rfl rfl rfl) (tc trR1 (tc (.sc _) tn)))))) (mc rfl (.box rfl (.cons (.sc _) (.cons (.sc _) (.cons (.sc _) (.cons (.sc _) (.cons (.sc _) (.cons (.sc _) (.cons (.sc _) (.cons (.sc _) (.cons (.sc _) (.nil)))))))))) rfl) mn)
  · refine AWP.cd hR rfl (fun h17 hR => ?_) fun h17 hR => ?_
    · refine AWP.sq ?_
      refine AWP.rgC 5 rfl rfl ?_
      refine pu (v := .sc _) rfl rfl (fun _ => rfl) ?_
      refine RunC.fin ?_
      refine AWP.ret ?_
      refine rtT ?_
      have hR := Option.some.inj hR; subst hR
      exact hQ _ _ (LS.mk [(2, .sc (.bool false))] (lblks 0 []) 0) (.sc (.bool false)) [] (.inr rfl) (Weak.turnL [] [] rfl rfl (tc (.sc _) tn) mn) (ro1 (rvT (v := .sc (.bool false)) rfl)) rfl rfl (.sc _) pn
    · refine AWP.skip ?_
      refine skT ?_
      refine AWP.sq ?_
      refine AWP.rgC 13 rfl rfl ?_
      refine al (cs := [.sc (.int .i64 0)]) 1 rfl rfl ti28 rfl rfl ?_
      refine pu (v := .sc _) rfl rfl (fun _ => rfl) ?_
      refine pu (v := .sc _) rfl rfl (fun _ => rfl) ?_
      refine RunC.fin ?_
      refine AWP.sq ?_
      refine AWP.sq ?_
      refine AWP.rgC 25 rfl rfl ?_
      refine pu (v := rowV _ r11) rfl rfl (fun _ => rfl) ?_
      refine lenL (α := Int) rfl rfl ti22 rfl ?_
      refine pu (v := .sc _) rfl rfl (fun _ => rfl) ?_
      refine RunC.fin ?_
      refine AWP.loopK' (fun s18 : Int × Int × Int × Int => LS.mk [(5, .sc (.int .i64 r2.1)), (7, rowV (α := Int) true r5.1), (8, .sc (.int .i64 r5.2.1)), (12, .ptr 0 0 0), (15, .ptr 1 0 0), (16, .sc (.int .i64 s18.2.1)), (17, .sc (.int .i64 s18.2.2.1)), (114, rowV (α := Int) true r11), (115, .sc (.int .i64 (r11.length : Int))), (116, .sc (.int .i64 s18.2.2.2))] (lblks 0 [boxB (α := Measured) true r10.1, boxB (α := Int) true s18.1]) 2) (fun z19 : Int × Int × Int => LS.mk [(12, .ptr 0 0 0), (15, .ptr 1 0 0), (16, .sc (.int .i64 z19.2.1)), (17, .sc (.int .i64 z19.2.2))] (lblks 0 [boxB (α := Measured) true r10.1, boxB (α := Int) true z19.1]) 2) (spykeep4_MeasureTrue.l1 r2 r5 r11) hR (s0 := (0, 0, 0, 0)) (Weak.turnL [(0, 0), (1, 0)] [] rfl rfl (tc (.sc _) (tc trR1 (tc (.sc _) (tc (trP' rfl rfl rfl rfl) (tc (trP' rfl rfl rfl rfl) (tc (.sc _) (tc (.sc _) (tc trR1 (tc (.sc _) (tc (.sc _) tn)))))))))) (mc rfl (.box rfl (.cons (.sc _) (.cons (.sc _) (.cons (.sc _) (.cons (.sc _) (.cons (.sc _) (.cons (.sc _) (.cons (.sc _) (.cons (.sc _) (.cons (.sc _) (.nil)))))))))) rfl) (mc rfl (.box rfl (.cons (.sc _) (.nil)) rfl) mn))) (fun s18 o18 hR hE18 => ?_) fun z19 hR => ?_
      · unfold spykeep4_MeasureTrue.l1 at hR
        refine AWP.sq ?_
        refine AWP.rgC 6 rfl rfl ?_
        refine pu (v := .sc _) rfl rfl (fun _ => rfl) ?_
        refine RunC.fin ?_
        refine AWP.sq ?_
        refine AWP.cd hR rfl (fun h20 hR => ?_) fun h20 hR => ?_
        · refine AWP.skip ?_
          refine skT ?_
          refine AWP.sq ?_
          refine AWP.block ?_
          refine AWP.sq ?_
          refine AWP.rgC 18 rfl rfl ?_
          obtain ⟨h21, hR⟩ := chkE hR
          refine ixL (α := Int) rfl rfl rfl ti22 rfl ti3 rfl h21 ?_
          refine ldR (v := .sc _) rfl rfl ti3 rfl ?_
          refine pu (v := .sc _) rfl rfl (fun _ => rfl) ?_
          refine RunC.fin ?_
          refine AWP.sq ?_
          refine AWP.joinX (fun z22 : Bool => LS.mk [(5, .sc (.int .i64 r2.1)), (7, rowV (α := Int) true r5.1), (8, .sc (.int .i64 r5.2.1)), (12, .ptr 0 0 0), (15, .ptr 1 0 0), (16, .sc (.int .i64 s18.2.1)), (17, .sc (.int .i64 s18.2.2.1)), (19, .sc (.int .i64 (gt r11 s18.2.2.2))), (114, rowV (α := Int) true r11), (115, .sc (.int .i64 (r11.length : Int))), (116, .sc (.int .i64 s18.2.2.2)), (127, .sc (.bool z22))] (lblks 0 [boxB (α := Measured) true r10.1, boxB (α := Int) true s18.1]) 2) hR (fun o22 hR => ?_) fun z22 hR => ?_
          · refine AWP.rgC 50 rfl rfl ?_
            refine pu (v := .sc _) rfl rfl (fun _ => rfl) ?_
            refine pu (v := .sc _) rfl rfl (fun _ => rfl) ?_
            refine pu (v := .sc _) rfl rfl (fun _ => rfl) ?_
            refine brR hR (fun h23 hR => ?_) fun h23 hR => ?_
            · refine sk (skW rfl rfl rfl h23) ?_
              refine sk (skW rfl rfl rfl h23) ?_
              refine sk (skW rfl rfl rfl h23) ?_
              refine sk (skW rfl rfl rfl h23) ?_
              refine pkT (v := .sc (.bool true)) rfl rfl h23 rfl ?_
              refine RunC.fin ?_
              have hR := Option.some.inj hR; subst hR
              exact Weak.turnL [(0, 0), (1, 0)] [] rfl rfl (tc (.sc _) (tc trR1 (tc (.sc _) (tc (trP' rfl rfl rfl rfl) (tc (trP' rfl rfl rfl rfl) (tc (.sc _) (tc (.sc _) (tc (.sc _) (tc trR1 (tc (.sc _) (tc (.sc _) (tc (.sc _) tn)))))))))))) (mc rfl (.box rfl (.cons (.sc _) (.cons (.sc _) (.cons (.sc _) (.cons (.sc _) (.cons (.sc _) (.cons (.sc _) (.cons (.sc _) (.cons (.sc _) (.cons (.sc _) (.nil)))))))))) rfl) (mc rfl (.box rfl (.cons (.sc _) (.nil)) rfl) mn))
            · refine pu (v := .sc _) (wtG rfl rfl rfl h23) rfl (fun _ => rfl) ?_
              refine pu (v := rowV _ r5.1) (wtG rfl rfl rfl h23) rfl (fun _ => rfl) ?_
              refine lenL (α := Int) (wtG rfl rfl rfl h23) rfl ti27 rfl ?_
              refine pu (v := .sc _) (wtG rfl rfl rfl h23) rfl (fun _ => rfl) ?_
              refine pkF (v := .sc (.bool (decide ((gt r11 s18.2.2.2) ≥ (r5.1.length : Int))))) rfl rfl h23 rfl ?_
              refine RunC.fin ?_
              have hR := Option.some.inj hR; subst hR
              exact Weak.turnL [(0, 0), (1, 0)] [] rfl rfl (tc (.sc _) (tc trR1 (tc (.sc _) (tc (trP' rfl rfl rfl rfl) (tc (trP' rfl rfl rfl rfl) (tc (.sc _) (tc (.sc _) (tc (.sc _) (tc trR1 (tc (.sc _) (tc (.sc _) (tc (.sc _) tn)))))))))))) (mc rfl (.box rfl (.cons (.sc _) (.cons (.sc _) (.cons (.sc _) (.cons (.sc _) (.cons (.sc _) (.cons (.sc _) (.cons (.sc _) (.cons (.sc _) (.cons (.sc _) (.nil)))))))))) rfl) (mc rfl (.box rfl (.cons (.sc _) (.nil)) rfl) mn))
          · refine AWP.cd hR rfl (fun h24 hR => ?_) fun h24 hR => ?_
            · refine AWP.sq ?_
              refine AWP.rgC 6 rfl rfl ?_
              refine pu (v := .sc _) rfl rfl (fun _ => rfl) ?_
              refine RunC.fin ?_
              refine AWP.ret ?_
              refine rtT ?_
              refine rtB ?_
              refine rtT ?_
              refine rtT ?_
              refine rtB (rtT ?_)
              replace hR := escL hR hE18
              refine rtT ?_
              have hR := Option.some.inj hR; subst hR
              exact hQ _ _ (LS.mk [(2, .sc (.bool false))] (lblks 0 []) 0) (.sc (.bool false)) [] (.inr rfl) (Weak.turnL [] [] rfl rfl (tc (.sc _) tn) mn) (ro1 (rvT (v := .sc (.bool false)) rfl)) rfl rfl (.sc _) pn
            · refine AWP.skip ?_
              refine skT ?_
              refine AWP.sq ?_
              refine AWP.rgC 30 rfl rfl ?_
              refine pu (v := rowV _ r5.1) rfl rfl (fun _ => rfl) ?_
              refine pu (v := .sc _) rfl rfl (fun _ => rfl) ?_
              obtain ⟨h25, hR⟩ := chkE hR
              refine ixL (α := Int) rfl rfl rfl ti27 rfl ti28 rfl h25 ?_
              refine ldR (v := .sc _) rfl rfl ti28 rfl ?_
              refine pu (v := .sc _) rfl rfl (fun _ => rfl) ?_
              refine pu (v := .sc _) rfl rfl (fun _ => rfl) ?_
              refine pu (v := .sc _) rfl rfl (fun _ => rfl) ?_
              refine RunC.fin ?_
              refine AWP.rgD 126 [0, 0, 3, 0, 0, 0, 0, 96, 224, 480, 1008, 2040, 0, 0, 0, 0, 49152, 114688, 245760, 516096, 1044480, 7, 2101247, 8388607] ⟨[], [some [1], none, none, none, none, none, none, none, none, none, none, none, none, none, none, none, none, none, none, none, none, some [1], none, none]⟩ hmix (by kernel_rfl) rfl rfl ?_
              refine ldB (v := .sc _) rfl rfl rfl rfl ti28 rfl rfl ?_
              refine pu (v := .sc _) rfl rfl (fun _ => rfl) ?_
              refine pu (v := .sc _) rfl rfl (fun _ => rfl) ?_
              refine pu (v := .sc _) rfl rfl (fun _ => rfl) ?_
              refine pu (v := .sc _) rfl rfl (fun _ => rfl) ?_
              refine pu (v := .sc _) rfl rfl (fun _ => rfl) ?_
              refine pu (v := .sc _) rfl rfl (fun _ => rfl) ?_
              obtain ⟨h26, hR⟩ := chkE hR
              refine rm rfl rfl rfl h26 rfl ?_
              refine pu (v := .sc _) rfl rfl (fun _ => rfl) ?_
              refine pu (v := .sc _) rfl rfl (fun _ => rfl) ?_
              obtain ⟨v27, ev27, hR⟩ := letE hR
              refine pu (v := .sc _) rfl rfl (fun _ => puI ev27) ?_
              refine pu (v := .sc _) rfl rfl (fun _ => rfl) ?_
              refine pu (v := .sc _) rfl rfl (fun _ => rfl) ?_
              refine pu (v := .sc _) rfl rfl (fun _ => rfl) ?_
              refine pu (v := .sc _) rfl rfl (fun _ => rfl) ?_
              refine pu (v := .sc _) rfl rfl (fun _ => rfl) ?_
              refine qu rfl rfl rfl h26 rfl ?_
              refine pu (v := .sc _) rfl rfl (fun _ => rfl) ?_
              obtain ⟨v28, ev28, hR⟩ := letE hR
              refine pu (v := .sc _) rfl rfl (fun _ => puI ev28) ?_
              refine pu (v := .sc _) rfl rfl (fun _ => rfl) ?_
              obtain ⟨v29, ev29, hR⟩ := letE hR
              refine pu (v := .sc _) rfl rfl (fun _ => puI ev29) ?_
              refine stB (cs' := [.sc (.int .i64 (w6 (s18.1 + (w6 ((gt r5.1 (gt r11 s18.2.2.2)) - r5.2.1)))))]) rfl rfl rfl rfl ti28 rfl rfl rfl rfl rfl ?_
              refine pu (v := .sc _) rfl rfl (fun _ => rfl) ?_
              refine pu (v := .sc _) rfl rfl (fun _ => rfl) ?_
              refine RunC.blk ?_
              refine RunC.fin ?_
              refine AWP.rgC 134 rfl rfl ?_
              refine pu (v := .sc _) rfl rfl (fun _ => rfl) ?_
              refine pu (v := .sc _) rfl rfl (fun _ => rfl) ?_
              refine RunC.fin ?_
              refine ⟨(w6 (s18.1 + (w6 ((gt r5.1 (gt r11 s18.2.2.2)) - r5.2.1))), w6 (s18.2.1 + v27), v29, w6 (s18.2.2.2 + 1)), (Option.some.inj hR).symm, ?_⟩
              exact Weak.turnL [(0, 0), (1, 0)] [] rfl rfl (tc (.sc _) (tc trR1 (tc (.sc _) (tc (trP' rfl rfl rfl rfl) (tc (trP' rfl rfl rfl rfl) (tc (.sc _) (tc (.sc _) (tc trR1 (tc (.sc _) (tc (.sc _) tn)))))))))) (mc rfl (.box rfl (.cons (.sc _) (.cons (.sc _) (.cons (.sc _) (.cons (.sc _) (.cons (.sc _) (.cons (.sc _) (.cons (.sc _) (.cons (.sc _) (.cons (.sc _) (.nil)))))))))) rfl) (mc rfl (.box rfl (.cons (.sc _) (.nil)) rfl) mn))
        · refine AWP.exit ?_
          refine exT ?_
          refine exT ?_
          refine exH (skT ?_)
          refine ⟨(s18.1, s18.2.1, s18.2.2.1), (Option.some.inj hR).symm, ?_⟩
          exact Weak.turnL [(0, 0), (1, 0)] [] rfl rfl (tc (trP' rfl rfl rfl rfl) (tc (trP' rfl rfl rfl rfl) (tc (.sc _) (tc (.sc _) tn)))) (mc rfl (.box rfl (.cons (.sc _) (.cons (.sc _) (.cons (.sc _) (.cons (.sc _) (.cons (.sc _) (.cons (.sc _) (.cons (.sc _) (.cons (.sc _) (.cons (.sc _) (.nil)))))))))) rfl) (mc rfl (.box rfl (.cons (.sc _) (.nil)) rfl) mn))
      · refine skT ?_
        refine AWP.sq ?_
        refine AWP.rgC 10 rfl rfl ?_
        refine pu (v := .fn _ _) rfl rfl (fun _ => rfl) ?_
        refine pu (v := .fn _ _) rfl rfl (fun _ => rfl) ?_
        refine RunC.fin ?_
        refine AWP.joinX (fun z30 : Bool => LS.mk [(2, .sc (.bool z30))] (lblks 0 []) 0) hR (fun o30 hR => ?_) fun z30 hR => ?_
        · refine AWP.rgC 142 rfl rfl ?_
          refine fa rfl rfl ti42 rfl rfl ti36 rfl ?_
          refine fa rfl rfl ti36 rfl rfl ti4 rfl ?_
          refine ldB (v := .sc _) rfl rfl rfl rfl ti4 rfl rfl ?_
          refine pu (v := .sc _) rfl rfl (fun _ => rfl) ?_
          refine pu (v := .sc _) rfl rfl (fun _ => rfl) ?_
          refine brR hR (fun h31 hR => ?_) fun h31 hR => ?_
          · refine fa (wtG rfl rfl rfl h31) rfl ti42 rfl rfl ti36 rfl ?_
            refine fa (wtG rfl rfl rfl h31) rfl ti36 rfl rfl ti28 rfl ?_
            refine ldB (v := .sc _) (wtG rfl rfl rfl h31) rfl rfl rfl ti28 rfl rfl ?_
            refine ldB (v := .sc _) (wtG rfl rfl rfl h31) rfl rfl rfl ti28 rfl rfl ?_
            refine pu (v := .sc _) (wtG rfl rfl rfl h31) rfl (fun _ => rfl) ?_
            refine pkT (v := .sc (.bool (decide (r10.1.Flux.Lo ≤ z19.1)))) rfl rfl h31 rfl ?_
            refine pu (v := .sc _) rfl rfl (fun _ => rfl) ?_
            refine brR hR (fun h32 hR => ?_) fun h32 hR => ?_
            · refine ldB (v := .sc _) (wtG rfl rfl rfl h32) rfl rfl rfl ti28 rfl rfl ?_
              refine fa (wtG rfl rfl rfl h32) rfl ti42 rfl rfl ti36 rfl ?_
              refine fa (wtG rfl rfl rfl h32) rfl ti36 rfl rfl ti28 rfl ?_
              refine ldB (v := .sc _) (wtG rfl rfl rfl h32) rfl rfl rfl ti28 rfl rfl ?_
              refine pu (v := .sc _) (wtG rfl rfl rfl h32) rfl (fun _ => rfl) ?_
              refine pkT (v := .sc (.bool (decide (z19.1 ≤ r10.1.Flux.Hi)))) rfl rfl h32 rfl ?_
              refine pu (v := .sc _) rfl rfl (fun _ => rfl) ?_
              refine brR hR (fun h33 hR => ?_) fun h33 hR => ?_
              · refine pu (v := .fn _ _) (wtG rfl rfl rfl h33) rfl (fun _ => rfl) ?_
                refine fa (wtG rfl rfl rfl h33) rfl ti42 rfl rfl ti40 rfl ?_
                refine ldB (v := .agg _) (wtG rfl rfl rfl h33) rfl rfl rfl ti40 rfl rfl ?_
                refine pu (v := .sc _) (wtG rfl rfl rfl h33) rfl (fun _ => rfl) ?_
                obtain ⟨r34, hr34, hR⟩ := bindE hR
                refine cls [1] (wtG rfl rfl rfl h33) rfl cb11 (ok11 r10.1.X z19.2.1 z19.1 _ hr34) (.cons (.agg (.cons (.sc _) (.cons (.sc _) (.cons (.sc _) (.nil)))) rfl) (.cons (.sc _) (.cons (ldX rfl rfl (.cons (.sc _) (.nil)) rfl) (.nil)))) (.inl (by first | rfl | exact freshR | exact freshA | (simp only [V.fresh, V.freshs, freshR, freshA, Bool.and_self]))) rfl ?_
                refine pkT (v := .sc (.bool r34)) rfl rfl h33 rfl ?_
                refine pu (v := .sc _) rfl rfl (fun _ => rfl) ?_
                refine brR hR (fun h35 hR => ?_) fun h35 hR => ?_
                · refine pu (v := .fn _ _) (wtG rfl rfl rfl h35) rfl (fun _ => rfl) ?_
                  refine fa (wtG rfl rfl rfl h35) rfl ti42 rfl rfl ti40 rfl ?_
                  refine ldB (v := .agg _) (wtG rfl rfl rfl h35) rfl rfl rfl ti40 rfl rfl ?_
                  refine pu (v := .sc _) (wtG rfl rfl rfl h35) rfl (fun _ => rfl) ?_
                  obtain ⟨r36, hr36, hR⟩ := bindE hR
                  refine cls [1] (wtG rfl rfl rfl h35) rfl cb11 (ok11 r10.1.Y z19.2.2 z19.1 _ hr36) (.cons (.agg (.cons (.sc _) (.cons (.sc _) (.cons (.sc _) (.nil)))) rfl) (.cons (.sc _) (.cons (ldX rfl rfl (.cons (.sc _) (.nil)) rfl) (.nil)))) (.inl (by first | rfl | exact freshR | exact freshA | (simp only [V.fresh, V.freshs, freshR, freshA, Bool.and_self]))) rfl ?_
                  refine pkT (v := .sc (.bool r36)) rfl rfl h35 rfl ?_
                  refine pu (v := .sc _) rfl rfl (fun _ => rfl) ?_
                  refine RunC.fin ?_
                  have hR := Option.some.inj hR; subst hR
                  exact Weak.turnL [] [] rfl rfl (tc (.sc _) tn) mn
                · refine sk (skW rfl rfl rfl h35) ?_
                  refine sk (skW rfl rfl rfl h35) ?_
                  refine sk (skW rfl rfl rfl h35) ?_
                  refine sk (skW rfl rfl rfl h35) ?_
                  refine sk (skW rfl rfl rfl h35) ?_
                  refine pkF (v := .sc (.bool false)) rfl rfl h35 rfl ?_
                  refine pu (v := .sc _) rfl rfl (fun _ => rfl) ?_
                  refine RunC.fin ?_
                  have hR := Option.some.inj hR; subst hR
                  exact Weak.turnL [] [] rfl rfl (tc (.sc _) tn) mn
              · refine sk (skW rfl rfl rfl h33) ?_
                refine sk (skW rfl rfl rfl h33) ?_
                refine sk (skW rfl rfl rfl h33) ?_
                refine sk (skW rfl rfl rfl h33) ?_
                refine sk (skW rfl rfl rfl h33) ?_
                refine pkF (v := .sc (.bool false)) rfl rfl h33 rfl ?_
                refine pu (v := .sc _) rfl rfl (fun _ => rfl) ?_
                refine sk (skW rfl rfl rfl rfl) ?_
                refine sk (skW rfl rfl rfl rfl) ?_
                refine sk (skW rfl rfl rfl rfl) ?_
                refine sk (skW rfl rfl rfl rfl) ?_
                refine sk (skW rfl rfl rfl rfl) ?_
                refine pkF (v := .sc (.bool false)) rfl rfl rfl rfl ?_
                refine pu (v := .sc _) rfl rfl (fun _ => rfl) ?_
                refine RunC.fin ?_
                have hR := Option.some.inj hR; subst hR
                exact Weak.turnL [] [] rfl rfl (tc (.sc _) tn) mn
            · refine sk (skW rfl rfl rfl h32) ?_
              refine sk (skW rfl rfl rfl h32) ?_
              refine sk (skW rfl rfl rfl h32) ?_
              refine sk (skW rfl rfl rfl h32) ?_
              refine sk (skW rfl rfl rfl h32) ?_
              refine pkF (v := .sc (.bool false)) rfl rfl h32 rfl ?_
              refine pu (v := .sc _) rfl rfl (fun _ => rfl) ?_
              refine sk (skW rfl rfl rfl rfl) ?_
              refine sk (skW rfl rfl rfl rfl) ?_
              refine sk (skW rfl rfl rfl rfl) ?_
              refine sk (skW rfl rfl rfl rfl) ?_
              refine sk (skW rfl rfl rfl rfl) ?_
              refine pkF (v := .sc (.bool false)) rfl rfl rfl rfl ?_
              refine pu (v := .sc _) rfl rfl (fun _ => rfl) ?_
              refine sk (skW rfl rfl rfl rfl) ?_
              refine sk (skW rfl rfl rfl rfl) ?_
              refine sk (skW rfl rfl rfl rfl) ?_
              refine sk (skW rfl rfl rfl rfl) ?_
              refine sk (skW rfl rfl rfl rfl) ?_
              refine pkF (v := .sc (.bool false)) rfl rfl rfl rfl ?_
              refine pu (v := .sc _) rfl rfl (fun _ => rfl) ?_
              refine RunC.fin ?_
              have hR := Option.some.inj hR; subst hR
              exact Weak.turnL [] [] rfl rfl (tc (.sc _) tn) mn
          · refine sk (skW rfl rfl rfl h31) ?_
            refine sk (skW rfl rfl rfl h31) ?_
            refine sk (skW rfl rfl rfl h31) ?_
            refine sk (skW rfl rfl rfl h31) ?_
            refine sk (skW rfl rfl rfl h31) ?_
            refine pkF (v := .sc (.bool false)) rfl rfl h31 rfl ?_
            refine pu (v := .sc _) rfl rfl (fun _ => rfl) ?_
            refine sk (skW rfl rfl rfl rfl) ?_
            refine sk (skW rfl rfl rfl rfl) ?_
            refine sk (skW rfl rfl rfl rfl) ?_
            refine sk (skW rfl rfl rfl rfl) ?_
            refine sk (skW rfl rfl rfl rfl) ?_
            refine pkF (v := .sc (.bool false)) rfl rfl rfl rfl ?_
            refine pu (v := .sc _) rfl rfl (fun _ => rfl) ?_
            refine sk (skW rfl rfl rfl rfl) ?_
            refine sk (skW rfl rfl rfl rfl) ?_
            refine sk (skW rfl rfl rfl rfl) ?_
            refine sk (skW rfl rfl rfl rfl) ?_
            refine sk (skW rfl rfl rfl rfl) ?_
            refine pkF (v := .sc (.bool false)) rfl rfl rfl rfl ?_
            refine pu (v := .sc _) rfl rfl (fun _ => rfl) ?_
            refine sk (skW rfl rfl rfl rfl) ?_
            refine sk (skW rfl rfl rfl rfl) ?_
            refine sk (skW rfl rfl rfl rfl) ?_
            refine sk (skW rfl rfl rfl rfl) ?_
            refine sk (skW rfl rfl rfl rfl) ?_
            refine pkF (v := .sc (.bool false)) rfl rfl rfl rfl ?_
            refine pu (v := .sc _) rfl rfl (fun _ => rfl) ?_
            refine RunC.fin ?_
            have hR := Option.some.inj hR; subst hR
            exact Weak.turnL [] [] rfl rfl (tc (.sc _) tn) mn
        · refine AWP.ret ?_
          have hR := Option.some.inj hR; subst hR
          exact hQ _ _ (LS.mk [(2, .sc (.bool z30))] (lblks 0 []) 0) (.sc (.bool z30)) [] (.inr rfl) (Weak.turnL [] [] rfl rfl (tc (.sc _) tn) mn) (ro1 (rvT (v := .sc (.bool z30)) rfl)) rfl rfl (.sc _) pn
end Go.Proofs.Met
