/- Each function of the program computes its plain function. Conditions: as each theorem states them. -/
import Derived.Test.YtlbbhiedfjpheaaT
import Derived.Test.YtlbbhiedfjpheaaP1
namespace Go.Proofs.Dtw
open Go Go.Abs Lf
set_option linter.unusedVariables false
set_option linter.unusedSimpArgs false
set_option maxRecDepth 100000
set_option maxHeartbeats 1000000
theorem ok3 (l : List Int) (r : Bool) (hR : spykeep4_DifferTwice l = some r) : FnP Try.prog 3 [rowV false l] (.sc (.bool r)) := by
  refine fnP_of (FnX.walk Try.func3 rfl 142 0 (by simp [Try.ntmps3]) rfl fun W S F Q hQ => ?_)
  unfold spykeep4_DifferTwice at hR
  refine AWP.sq ?_
  refine AWP.rgC 4 rfl rfl ?_
  refine pu (v := .sc _) rfl rfl (fun _ => rfl) ?_
  refine RunC.fin ?_
  refine AWP.sq ?_
  refine AWP.rgC 20 rfl rfl ?_
  refine pu (v := rowV _ l) rfl rfl (fun _ => rfl) ?_
  refine bu (cs := [rowV (α := Int) false l, .sc (.int .i64 0)]) rfl bt25 rfl ?_
  refine bx (cs := _) 12 rfl rfl rfl ?_
  refine pu (v := .ptr _ _ _) rfl rfl (fun _ => rfl) ?_
  refine RunC.fin ?_
  refine AWP.sq ?_
  refine AWP.rgC 44 rfl rfl ?_
  refine pu (v := .ptr _ _ _) rfl rfl (fun _ => rfl) ?_
  obtain ⟨r1, hr1, hR⟩ := bindE hR
  refine cps (res' := .sc (.int .i64 r1.1)) (ups := [(12, boxB (α := spymake_Stream) false r1.2)]) [12] 24 rfl rfl rfl cb4 (ok4 (spymake_Stream.mk l 0) 1 9 _ hr1) (.cons (ldP rfl rfl) (.cons (.sc _) (.cons (.sc _) (.nil)))) (pc rfl (.box (.cons ldR' (.cons (.sc _) (.nil))) rfl) pn) rfl rfl rfl rfl rfl (by first | rfl | exact renR | exact renA | exact renS | simp only [V.ren, V.rens, renR, renA, renS] | (simp only [V.ren, V.rens, renR, renA, renS]; rfl)) (by simp only [passUps, renBox, renArr]; rfl) ?_
  refine pu (v := .ptr _ _ _) rfl rfl (fun _ => rfl) ?_
  obtain ⟨r2, hr2, hR⟩ := bindE hR
  refine cps (res' := .sc (.int .i64 r2.1)) (ups := [(12, boxB (α := spymake_Stream) false r2.2)]) [12] 32 rfl rfl rfl cb4 (ok4 r1.2 1 9 _ hr2) (.cons (ldP rfl rfl) (.cons (.sc _) (.cons (.sc _) (.nil)))) (pc rfl (.box (.cons ldR' (.cons (.sc _) (.nil))) rfl) pn) rfl rfl rfl rfl rfl (by first | rfl | exact renR | exact renA | exact renS | simp only [V.ren, V.rens, renR, renA, renS] | (simp only [V.ren, V.rens, renR, renA, renS]; rfl)) (by simp only [passUps, renBox, renArr]; rfl) ?_
  refine pu (v := .sc _) rfl rfl (fun _ => rfl) ?_
  refine pu (v := .sc _) rfl rfl (fun _ => rfl) ?_
  refine RunC.fin ?_
  refine AWP.sq ?_
  refine AWP.rgC 80 rfl rfl ?_
  refine pu (v := .ptr _ _ _) rfl rfl (fun _ => rfl) ?_
  refine pu (v := .sc _) rfl rfl (fun _ => rfl) ?_
  refine pu (v := .sc _) rfl rfl (fun _ => rfl) ?_
  obtain ⟨r3, hr3, hR⟩ := bindE hR
  refine cps (res' := .tup [rowV (α := Int) true r3.1, .sc (.int .i64 r3.2.1)]) (ups := [(12, boxB (α := spymake_Stream) false r3.2.2)]) [12] 56 rfl rfl rfl cb5 (ok5 r2.2 r1.1 r2.1 2 _ hr3) (.cons (ldP rfl rfl) (.cons (.sc _) (.cons (.sc _) (.cons (.sc _) (.nil))))) (pc rfl (.box (.cons ldR' (.cons (.sc _) (.nil))) rfl) pn) rfl rfl rfl rfl rfl (by first | rfl | exact renR | exact renA | exact renS | simp only [V.ren, V.rens, renR, renA, renS] | (simp only [V.ren, V.rens, renR, renA, renS]; rfl)) (by simp only [passUps, renBox, renArr]; rfl) ?_
  refine pu (v := .tup _) rfl rfl (fun _ => rfl) ?_
  refine pu (v := rowV _ r3.1) rfl rfl (fun _ => rfl) ?_
  refine pu (v := .sc _) rfl rfl (fun _ => rfl) ?_
  refine pu (v := rowV _ r3.1) rfl rfl (fun _ => rfl) ?_
  refine pu (v := .sc _) rfl rfl (fun _ => rfl) ?_
  refine RunC.fin ?_
  refine AWP.sq ?_
  refine AWP.rgC 108 rfl rfl ?_
  refine pu (v := .ptr _ _ _) rfl rfl (fun _ => rfl) ?_
  refine pu (v := .sc _) rfl rfl (fun _ => rfl) ?_
  refine pu (v := .sc _) rfl rfl (fun _ => rfl) ?_
  refine pu (v := rowV _ r3.1) rfl rfl (fun _ => rfl) ?_
  obtain ⟨r4, hr4, hR⟩ := bindE hR
  refine cps (res' := aggV (α := Cells) true r4.1) (ups := [(12, boxB (α := spymake_Stream) false r4.2)]) [12] 96 rfl rfl rfl cb6 (ok6 r3.2.2 r1.1 r2.1 r3.1 true _ hr4) (.cons (ldP rfl rfl) (.cons (.sc _) (.cons (.sc _) (.cons ldR' (.cons (.sc _) (.nil)))))) (pc rfl (.box (.cons ldR' (.cons (.sc _) (.nil))) rfl) pn) rfl rfl rfl rfl rfl (by first | rfl | exact renR | exact renA | exact renS | simp only [V.ren, V.rens, renR, renA, renS] | (simp only [V.ren, V.rens, renR, renA, renS]; rfl)) (by simp only [passUps, renBox, renArr]; rfl) ?_
  refine al (cs := [.sc (.int .i64 0), .sc (.int .i64 0), .sc (.slice none 0 0)]) 100 rfl rfl ti33 rfl rfl ?_
  refine stB (cs' := [.sc (.int .i64 r4.1.W), .sc (.int .i64 r4.1.H), rowV (α := Bound) true r4.1.At]) rfl rfl rfl rfl ti33 rfl rfl rfl rfl rfl ?_
  refine RunC.fin ?_
  refine AWP.sq ?_
  refine AWP.rgC 140 rfl rfl ?_
  refine pu (v := .ptr _ _ _) rfl rfl (fun _ => rfl) ?_
  obtain ⟨r5, hr5, hR⟩ := bindE hR
  refine cps (res' := aggV (α := differ_Kernel) true r5.1) (ups := [(12, boxB (α := spymake_Stream) false r5.2)]) [12] 112 rfl rfl rfl cb7 (ok7 r4.2 _ hr5) (.cons (ldP rfl rfl) (.nil)) (pc rfl (.box (.cons ldR' (.cons (.sc _) (.nil))) rfl) pn) rfl rfl rfl rfl rfl (by first | rfl | exact renR | exact renA | exact renS | simp only [V.ren, V.rens, renR, renA, renS] | (simp only [V.ren, V.rens, renR, renA, renS]; rfl)) (by simp only [passUps, renBox, renArr]; rfl) ?_
  refine pu (v := .ptr _ _ _) rfl rfl (fun _ => rfl) ?_
  obtain ⟨r6, hr6, hR⟩ := bindE hR
  refine cps (res' := aggV (α := differ_Kernel) true r6.1) (ups := [(12, boxB (α := spymake_Stream) false r6.2)]) [12] 120 rfl rfl rfl cb7 (ok7 r5.2 _ hr6) (.cons (ldP rfl rfl) (.nil)) (pc rfl (.box (.cons ldR' (.cons (.sc _) (.nil))) rfl) pn) rfl rfl rfl rfl rfl (by first | rfl | exact renR | exact renA | exact renS | simp only [V.ren, V.rens, renR, renA, renS] | (simp only [V.ren, V.rens, renR, renA, renS]; rfl)) (by simp only [passUps, renBox, renArr]; rfl) ?_
  refine al (cs := [.sc (.int .i64 0), .sc (.int .i64 0), .sc (.slice none 0 0)]) 124 rfl rfl ti36 rfl rfl ?_
  refine al (cs := [.sc (.int .i64 0), .sc (.int .i64 0), .sc (.slice none 0 0)]) 128 rfl rfl ti36 rfl rfl ?_
  refine stB (cs' := [.sc (.int .i64 r5.1.W), .sc (.int .i64 r5.1.H), rowV (α := Int) true r5.1.K]) rfl rfl rfl rfl ti36 rfl rfl rfl rfl rfl ?_
  refine stB (cs' := [.sc (.int .i64 r6.1.W), .sc (.int .i64 r6.1.H), rowV (α := Int) true r6.1.K]) rfl rfl rfl rfl ti36 rfl rfl rfl rfl rfl ?_
  refine RunC.fin ?_
  refine AWP.sq ?_
  refine AWP.rgC 176 rfl rfl ?_
  refine ldB (v := .agg _) rfl rfl rfl rfl ti36 rfl rfl ?_
  refine ldB (v := .agg _) rfl rfl rfl rfl ti36 rfl rfl ?_
  obtain ⟨r7, hr7, hR⟩ := bindE hR
  refine cls [] rfl rfl cb8 (ok8 r5.1 r6.1 _ hr7) (.cons (.agg (.cons (.sc _) (.cons (.sc _) (.cons ldR' (.nil)))) rfl) (.cons (.agg (.cons (.sc _) (.cons (.sc _) (.cons ldR' (.nil)))) rfl) (.nil))) (.inr rfl) rfl ?_
  refine pu (v := .tup _) rfl rfl (fun _ => rfl) ?_
  refine pu (v := .agg _) rfl rfl (fun _ => rfl) ?_
  refine pu (v := .sc _) rfl rfl (fun _ => rfl) ?_
  refine al (cs := [.sc (.int .i64 0), .sc (.int .i64 0), .sc (.slice none 0 0)]) 164 rfl rfl ti36 rfl rfl ?_
  refine stB (cs' := [.sc (.int .i64 r7.1.W), .sc (.int .i64 r7.1.H), rowV (α := Int) true r7.1.K]) rfl rfl rfl rfl ti36 rfl rfl rfl rfl rfl ?_
  refine pu (v := .sc _) rfl rfl (fun _ => rfl) ?_
  refine RunC.fin ?_
  refine AWP.sq ?_
  refine AWP.rgC 212 rfl rfl ?_
  refine ldB (v := .agg _) rfl rfl rfl rfl ti36 rfl rfl ?_
  refine ldB (v := .agg _) rfl rfl rfl rfl ti36 rfl rfl ?_
  obtain ⟨r8, hr8, hR⟩ := bindE hR
  refine cls [] rfl rfl cb8 (ok8 r6.1 r5.1 _ hr8) (.cons (.agg (.cons (.sc _) (.cons (.sc _) (.cons ldR' (.nil)))) rfl) (.cons (.agg (.cons (.sc _) (.cons (.sc _) (.cons ldR' (.nil)))) rfl) (.nil))) (.inr rfl) rfl ?_
  refine pu (v := .tup _) rfl rfl (fun _ => rfl) ?_
  refine pu (v := .agg _) rfl rfl (fun _ => rfl) ?_
  refine pu (v := .sc _) rfl rfl (fun _ => rfl) ?_
  refine al (cs := [.sc (.int .i64 0), .sc (.int .i64 0), .sc (.slice none 0 0)]) 200 rfl rfl ti36 rfl rfl ?_
  refine stB (cs' := [.sc (.int .i64 r8.1.W), .sc (.int .i64 r8.1.H), rowV (α := Int) true r8.1.K]) rfl rfl rfl rfl ti36 rfl rfl rfl rfl rfl ?_
  refine pu (v := .sc _) rfl rfl (fun _ => rfl) ?_
  refine RunC.fin ?_
  refine AWP.sq ?_
  refine AWP.rgC 248 rfl rfl ?_
  refine ldB (v := .agg _) rfl rfl rfl rfl ti36 rfl rfl ?_
  refine ldB (v := .agg _) rfl rfl rfl rfl ti36 rfl rfl ?_
  obtain ⟨r9, hr9, hR⟩ := bindE hR
  refine cls [] rfl rfl cb9 (ok9 r7.1 r6.1 _ hr9) (.cons (.agg (.cons (.sc _) (.cons (.sc _) (.cons ldR' (.nil)))) rfl) (.cons (.agg (.cons (.sc _) (.cons (.sc _) (.cons ldR' (.nil)))) rfl) (.nil))) (.inr rfl) rfl ?_
  refine pu (v := .tup _) rfl rfl (fun _ => rfl) ?_
  refine pu (v := .agg _) rfl rfl (fun _ => rfl) ?_
  refine pu (v := .sc _) rfl rfl (fun _ => rfl) ?_
  refine al (cs := [.sc (.int .i64 0), .sc (.int .i64 0), .sc (.slice none 0 0)]) 236 rfl rfl ti36 rfl rfl ?_
  refine stB (cs' := [.sc (.int .i64 r9.1.W), .sc (.int .i64 r9.1.H), rowV (α := Int) true r9.1.K]) rfl rfl rfl rfl ti36 rfl rfl rfl rfl rfl ?_
  refine pu (v := .sc _) rfl rfl (fun _ => rfl) ?_
  refine RunC.fin ?_
  refine AWP.sq ?_
  refine AWP.joinX (fun z10 : Bool => LS.mk [(8, .ptr 0 0 0), (9, .ptr 1 0 0), (10, .ptr 2 0 0), (11, .ptr 3 0 0), (13, .ptr 4 0 0), (15, .ptr 5 0 0), (74, .sc (.bool z10))] (lblks 0 [boxB (α := Cells) true r4.1, boxB (α := differ_Kernel) true r5.1, boxB (α := differ_Kernel) true r6.1, boxB (α := differ_Kernel) true r7.1, boxB (α := differ_Kernel) true r8.1, boxB (α := differ_Kernel) true r9.1]) 6) hR (fun o10 hR => ?_) fun z10 hR => ?_
  · refine AWP.rgC 304 rfl rfl ?_
    obtain ⟨r11, hr11, hR⟩ := bindE hR
    refine cls [] rfl rfl cb10 (ok10 _ hr11) (.nil) (.inr rfl) rfl ?_
    refine pu (v := .sc _) rfl rfl (fun _ => rfl) ?_
    refine pu (v := .sc _) rfl rfl (fun _ => rfl) ?_
    refine brR hR (fun h12 hR => ?_) fun h12 hR => ?_
    · refine sk (skW rfl rfl rfl h12) ?_
      refine sk (skW rfl rfl rfl h12) ?_
      refine pkT (v := .sc (.bool true)) rfl rfl h12 rfl ?_
      refine pu (v := .sc _) rfl rfl (fun _ => rfl) ?_
      refine sk (skW rfl rfl rfl rfl) ?_
      refine sk (skW rfl rfl rfl rfl) ?_
      refine pkT (v := .sc (.bool true)) rfl rfl rfl rfl ?_
      refine pu (v := .sc _) rfl rfl (fun _ => rfl) ?_
      refine sk (skW rfl rfl rfl rfl) ?_
      refine sk (skW rfl rfl rfl rfl) ?_
      refine pkT (v := .sc (.bool true)) rfl rfl rfl rfl ?_
      refine RunC.fin ?_
      have hR := Option.some.inj hR; subst hR
      exact Weak.turnL [(100, 0), (124, 0), (128, 0), (164, 0), (200, 0), (236, 0)] [] rfl rfl (tc (trP' rfl rfl rfl rfl) (tc (trP' rfl rfl rfl rfl) (tc (trP' rfl rfl rfl rfl) (tc (trP' rfl rfl rfl rfl) (tc (trP' rfl rfl rfl rfl) (tc (trP' rfl rfl rfl rfl) (tc (.sc _) tn))))))) (mc rfl (.box rfl (.cons (.sc _) (.cons (.sc _) (.cons trR1 (.nil)))) rfl) (mc rfl (.box rfl (.cons (.sc _) (.cons (.sc _) (.cons trR1 (.nil)))) rfl) (mc rfl (.box rfl (.cons (.sc _) (.cons (.sc _) (.cons trR1 (.nil)))) rfl) (mc rfl (.box rfl (.cons (.sc _) (.cons (.sc _) (.cons trR1 (.nil)))) rfl) (mc rfl (.box rfl (.cons (.sc _) (.cons (.sc _) (.cons trR1 (.nil)))) rfl) (mc rfl (.box rfl (.cons (.sc _) (.cons (.sc _) (.cons trR1 (.nil)))) rfl) mn))))))
    · refine pu (v := .sc _) (wtG rfl rfl rfl h12) rfl (fun _ => rfl) ?_
      refine pu (v := .sc _) (wtG rfl rfl rfl h12) rfl (fun _ => rfl) ?_
      refine pkF (v := .sc (.bool (r7.2 != 0))) rfl rfl h12 rfl ?_
      refine pu (v := .sc _) rfl rfl (fun _ => rfl) ?_
      refine brR hR (fun h13 hR => ?_) fun h13 hR => ?_
      · refine sk (skW rfl rfl rfl h13) ?_
        refine sk (skW rfl rfl rfl h13) ?_
        refine pkT (v := .sc (.bool true)) rfl rfl h13 rfl ?_
        refine pu (v := .sc _) rfl rfl (fun _ => rfl) ?_
        refine sk (skW rfl rfl rfl rfl) ?_
        refine sk (skW rfl rfl rfl rfl) ?_
        refine pkT (v := .sc (.bool true)) rfl rfl rfl rfl ?_
        refine RunC.fin ?_
        have hR := Option.some.inj hR; subst hR
        exact Weak.turnL [(100, 0), (124, 0), (128, 0), (164, 0), (200, 0), (236, 0)] [] rfl rfl (tc (trP' rfl rfl rfl rfl) (tc (trP' rfl rfl rfl rfl) (tc (trP' rfl rfl rfl rfl) (tc (trP' rfl rfl rfl rfl) (tc (trP' rfl rfl rfl rfl) (tc (trP' rfl rfl rfl rfl) (tc (.sc _) tn))))))) (mc rfl (.box rfl (.cons (.sc _) (.cons (.sc _) (.cons trR1 (.nil)))) rfl) (mc rfl (.box rfl (.cons (.sc _) (.cons (.sc _) (.cons trR1 (.nil)))) rfl) (mc rfl (.box rfl (.cons (.sc _) (.cons (.sc _) (.cons trR1 (.nil)))) rfl) (mc rfl (.box rfl (.cons (.sc _) (.cons (.sc _) (.cons trR1 (.nil)))) rfl) (mc rfl (.box rfl (.cons (.sc _) (.cons (.sc _) (.cons trR1 (.nil)))) rfl) (mc rfl (.box rfl (.cons (.sc _) (.cons (.sc _) (.cons trR1 (.nil)))) rfl) mn))))))
      · refine pu (v := .sc _) (wtG rfl rfl rfl h13) rfl (fun _ => rfl) ?_
        refine pu (v := .sc _) (wtG rfl rfl rfl h13) rfl (fun _ => rfl) ?_
        refine pkF (v := .sc (.bool (r8.2 != 0))) rfl rfl h13 rfl ?_
        refine pu (v := .sc _) rfl rfl (fun _ => rfl) ?_
        refine brR hR (fun h14 hR => ?_) fun h14 hR => ?_
        · refine sk (skW rfl rfl rfl h14) ?_
          refine sk (skW rfl rfl rfl h14) ?_
          refine pkT (v := .sc (.bool true)) rfl rfl h14 rfl ?_
          refine RunC.fin ?_
          have hR := Option.some.inj hR; subst hR
          exact Weak.turnL [(100, 0), (124, 0), (128, 0), (164, 0), (200, 0), (236, 0)] [] rfl rfl (tc (trP' rfl rfl rfl rfl) (tc (trP' rfl rfl rfl rfl) (tc (trP' rfl rfl rfl rfl) (tc (trP' rfl rfl rfl rfl) (tc (trP' rfl rfl rfl rfl) (tc (trP' rfl rfl rfl rfl) (tc (.sc _) tn))))))) (mc rfl (.box rfl (.cons (.sc _) (.cons (.sc _) (.cons trR1 (.nil)))) rfl) (mc rfl (.box rfl (.cons (.sc _) (.cons (.sc _) (.cons trR1 (.nil)))) rfl) (mc rfl (.box rfl (.cons (.sc _) (.cons (.sc _) (.cons trR1 (.nil)))) rfl) (mc rfl (.box rfl (.cons (.sc _) (.cons (.sc _) (.cons trR1 (.nil)))) rfl) (mc rfl (.box rfl (.cons (.sc _) (.cons (.sc _) (.cons trR1 (.nil)))) rfl) (mc rfl (.box rfl (.cons (.sc _) (.cons (.sc _) (.cons trR1 (.nil)))) rfl) mn))))))
        · refine pu (v := .sc _) (wtG rfl rfl rfl h14) rfl (fun _ => rfl) ?_
          refine pu (v := .sc _) (wtG rfl rfl rfl h14) rfl (fun _ => rfl) ?_
          refine pkF (v := .sc (.bool (r9.2 != 0))) rfl rfl h14 rfl ?_
          refine RunC.fin ?_
          have hR := Option.some.inj hR; subst hR
          exact Weak.turnL [(100, 0), (124, 0), (128, 0), (164, 0), (200, 0), (236, 0)] [] rfl rfl (tc (trP' rfl rfl rfl rfl) (tc (trP' rfl rfl rfl rfl) (tc (trP' rfl rfl rfl rfl) (tc (trP' rfl rfl rfl rfl) (tc (trP' rfl rfl rfl rfl) (tc (trP' rfl rfl rfl rfl) (tc (.sc _) tn))))))) (mc rfl (.box rfl (.cons (.sc _) (.cons (.sc _) (.cons trR1 (.nil)))) rfl) (mc rfl (.box rfl (.cons (.sc _) (.cons (.sc _) (.cons trR1 (.nil)))) rfl) (mc rfl (.box rfl (.cons (.sc _) (.cons (.sc _) (.cons trR1 (.nil)))) rfl) (mc rfl (.box rfl (.cons (.sc _) (.cons (.sc _) (.cons trR1 (.nil)))) rfl) (mc rfl (.box rfl (.cons (.sc _) (.cons (.sc _) (.cons trR1 (.nil)))) rfl) (mc rfl (.box rfl (.cons (.sc _) (.cons (.sc _) (.cons trR1 (.nil)))) rfl) mn))))))
  · refine AWP.cd hR rfl (fun h15 hR => ?_) fun h15 hR => ?_
    · refine AWP.sq ?_
      refine AWP.rgC 10 rfl rfl ?_
      refine pu (v := .sc _) rfl rfl (fun _ => rfl) ?_
      refine RunC.fin ?_
      refine AWP.ret ?_
      refine rtT ?_
      have hR := Option.some.inj hR; subst hR
      exact hQ _ _ (LS.mk [(2, .sc (.bool false))] (lblks 0 []) 0) (.sc (.bool false)) [] (.inr rfl) (Weak.turnL [] [] rfl rfl (tc (.sc _) tn) mn) (ro1 (rvT (v := .sc (.bool false)) rfl)) rfl rfl (.sc _) pn
    · refine AWP.skip ?_
      refine skT ?_
      refine AWP.sq ?_
      refine AWP.rgC 42 rfl rfl ?_
      refine ldB (v := .agg _) rfl rfl rfl rfl ti33 rfl rfl ?_
      refine ldB (v := .agg _) rfl rfl rfl rfl ti36 rfl rfl ?_
      obtain ⟨r16, hr16, hR⟩ := bindE hR
      refine cls [] rfl rfl cb11 (ok11 r4.1 r5.1 _ hr16) (.cons (.agg (.cons (.sc _) (.cons (.sc _) (.cons ldR' (.nil)))) rfl) (.cons (.agg (.cons (.sc _) (.cons (.sc _) (.cons ldR' (.nil)))) rfl) (.nil))) (.inr rfl) rfl ?_
      refine pu (v := .tup _) rfl rfl (fun _ => rfl) ?_
      refine pu (v := .agg _) rfl rfl (fun _ => rfl) ?_
      refine pu (v := .sc _) rfl rfl (fun _ => rfl) ?_
      refine al (cs := [.sc (.int .i64 0), .sc (.int .i64 0), .sc (.slice none 0 0)]) 30 rfl rfl ti33 rfl rfl ?_
      refine stB (cs' := [.sc (.int .i64 r16.1.W), .sc (.int .i64 r16.1.H), rowV (α := Bound) true r16.1.At]) rfl rfl rfl rfl ti33 rfl rfl rfl rfl rfl ?_
      refine pu (v := .sc _) rfl rfl (fun _ => rfl) ?_
      refine RunC.fin ?_
      refine AWP.sq ?_
      refine AWP.rgC 78 rfl rfl ?_
      refine ldB (v := .agg _) rfl rfl rfl rfl ti33 rfl rfl ?_
      refine ldB (v := .agg _) rfl rfl rfl rfl ti36 rfl rfl ?_
      obtain ⟨r17, hr17, hR⟩ := bindE hR
      refine cls [] rfl rfl cb11 (ok11 r16.1 r6.1 _ hr17) (.cons (.agg (.cons (.sc _) (.cons (.sc _) (.cons ldR' (.nil)))) rfl) (.cons (.agg (.cons (.sc _) (.cons (.sc _) (.cons ldR' (.nil)))) rfl) (.nil))) (.inr rfl) rfl ?_
      refine pu (v := .tup _) rfl rfl (fun _ => rfl) ?_
      refine pu (v := .agg _) rfl rfl (fun _ => rfl) ?_
      refine pu (v := .sc _) rfl rfl (fun _ => rfl) ?_
      refine al (cs := [.sc (.int .i64 0), .sc (.int .i64 0), .sc (.slice none 0 0)]) 66 rfl rfl ti33 rfl rfl ?_
      refine stB (cs' := [.sc (.int .i64 r17.1.W), .sc (.int .i64 r17.1.H), rowV (α := Bound) true r17.1.At]) rfl rfl rfl rfl ti33 rfl rfl rfl rfl rfl ?_
      refine pu (v := .sc _) rfl rfl (fun _ => rfl) ?_
      refine RunC.fin ?_
      refine AWP.sq ?_
      refine AWP.rgC 114 rfl rfl ?_
      refine ldB (v := .agg _) rfl rfl rfl rfl ti33 rfl rfl ?_
      refine ldB (v := .agg _) rfl rfl rfl rfl ti36 rfl rfl ?_
      obtain ⟨r18, hr18, hR⟩ := bindE hR
      refine cls [] rfl rfl cb11 (ok11 r4.1 r7.1 _ hr18) (.cons (.agg (.cons (.sc _) (.cons (.sc _) (.cons ldR' (.nil)))) rfl) (.cons (.agg (.cons (.sc _) (.cons (.sc _) (.cons ldR' (.nil)))) rfl) (.nil))) (.inr rfl) rfl ?_
      refine pu (v := .tup _) rfl rfl (fun _ => rfl) ?_
      refine pu (v := .agg _) rfl rfl (fun _ => rfl) ?_
      refine pu (v := .sc _) rfl rfl (fun _ => rfl) ?_
      refine al (cs := [.sc (.int .i64 0), .sc (.int .i64 0), .sc (.slice none 0 0)]) 102 rfl rfl ti33 rfl rfl ?_
      refine stB (cs' := [.sc (.int .i64 r18.1.W), .sc (.int .i64 r18.1.H), rowV (α := Bound) true r18.1.At]) rfl rfl rfl rfl ti33 rfl rfl rfl rfl rfl ?_
      refine pu (v := .sc _) rfl rfl (fun _ => rfl) ?_
      refine RunC.fin ?_
      refine AWP.sq ?_
      refine AWP.joinX (fun z19 : Bool => LS.mk [(9, .ptr 0 0 0), (11, .ptr 1 0 0), (13, .ptr 2 0 0), (15, .ptr 3 0 0), (108, .sc (.bool z19))] (lblks 0 [boxB (α := differ_Kernel) true r5.1, boxB (α := differ_Kernel) true r7.1, boxB (α := differ_Kernel) true r8.1, boxB (α := differ_Kernel) true r9.1]) 4) hR (fun o19 hR => ?_) fun z19 hR => ?_
      · refine AWP.rgC 178 rfl rfl ?_
        refine pu (v := .sc _) rfl rfl (fun _ => rfl) ?_
        refine pu (v := .sc _) rfl rfl (fun _ => rfl) ?_
        refine pu (v := .sc _) rfl rfl (fun _ => rfl) ?_
        refine brR hR (fun h20 hR => ?_) fun h20 hR => ?_
        · refine sk (skW rfl rfl rfl h20) ?_
          refine sk (skW rfl rfl rfl h20) ?_
          refine pkT (v := .sc (.bool true)) rfl rfl h20 rfl ?_
          refine pu (v := .sc _) rfl rfl (fun _ => rfl) ?_
          refine sk (skW rfl rfl rfl rfl) ?_
          refine sk (skW rfl rfl rfl rfl) ?_
          refine pkT (v := .sc (.bool true)) rfl rfl rfl rfl ?_
          refine pu (v := .sc _) rfl rfl (fun _ => rfl) ?_
          refine sk (skW rfl rfl rfl rfl) ?_
          refine sk (skW rfl rfl rfl rfl) ?_
          refine sk (skW rfl rfl rfl rfl) ?_
          refine sk (skW rfl rfl rfl rfl) ?_
          refine pkT (v := .sc (.bool true)) rfl rfl rfl rfl ?_
          refine RunC.fin ?_
          have hR := Option.some.inj hR; subst hR
          exact Weak.turnL [(1, 0), (3, 0), (4, 0), (5, 0)] [] rfl rfl (tc (trP' rfl rfl rfl rfl) (tc (trP' rfl rfl rfl rfl) (tc (trP' rfl rfl rfl rfl) (tc (trP' rfl rfl rfl rfl) (tc (.sc _) tn))))) (mc rfl (.box rfl (.cons (.sc _) (.cons (.sc _) (.cons trR1 (.nil)))) rfl) (mc rfl (.box rfl (.cons (.sc _) (.cons (.sc _) (.cons trR1 (.nil)))) rfl) (mc rfl (.box rfl (.cons (.sc _) (.cons (.sc _) (.cons trR1 (.nil)))) rfl) (mc rfl (.box rfl (.cons (.sc _) (.cons (.sc _) (.cons trR1 (.nil)))) rfl) mn))))
        · refine pu (v := .sc _) (wtG rfl rfl rfl h20) rfl (fun _ => rfl) ?_
          refine pu (v := .sc _) (wtG rfl rfl rfl h20) rfl (fun _ => rfl) ?_
          refine pkF (v := .sc (.bool (r17.2 != 0))) rfl rfl h20 rfl ?_
          refine pu (v := .sc _) rfl rfl (fun _ => rfl) ?_
          refine brR hR (fun h21 hR => ?_) fun h21 hR => ?_
          · refine sk (skW rfl rfl rfl h21) ?_
            refine sk (skW rfl rfl rfl h21) ?_
            refine pkT (v := .sc (.bool true)) rfl rfl h21 rfl ?_
            refine pu (v := .sc _) rfl rfl (fun _ => rfl) ?_
            refine sk (skW rfl rfl rfl rfl) ?_
            refine sk (skW rfl rfl rfl rfl) ?_
            refine sk (skW rfl rfl rfl rfl) ?_
            refine sk (skW rfl rfl rfl rfl) ?_
            refine pkT (v := .sc (.bool true)) rfl rfl rfl rfl ?_
            refine RunC.fin ?_
            have hR := Option.some.inj hR; subst hR
            exact Weak.turnL [(1, 0), (3, 0), (4, 0), (5, 0)] [] rfl rfl (tc (trP' rfl rfl rfl rfl) (tc (trP' rfl rfl rfl rfl) (tc (trP' rfl rfl rfl rfl) (tc (trP' rfl rfl rfl rfl) (tc (.sc _) tn))))) (mc rfl (.box rfl (.cons (.sc _) (.cons (.sc _) (.cons trR1 (.nil)))) rfl) (mc rfl (.box rfl (.cons (.sc _) (.cons (.sc _) (.cons trR1 (.nil)))) rfl) (mc rfl (.box rfl (.cons (.sc _) (.cons (.sc _) (.cons trR1 (.nil)))) rfl) (mc rfl (.box rfl (.cons (.sc _) (.cons (.sc _) (.cons trR1 (.nil)))) rfl) mn))))
          · refine pu (v := .sc _) (wtG rfl rfl rfl h21) rfl (fun _ => rfl) ?_
            refine pu (v := .sc _) (wtG rfl rfl rfl h21) rfl (fun _ => rfl) ?_
            refine pkF (v := .sc (.bool (r18.2 != 0))) rfl rfl h21 rfl ?_
            refine pu (v := .sc _) rfl rfl (fun _ => rfl) ?_
            refine brR hR (fun h22 hR => ?_) fun h22 hR => ?_
            · refine sk (skW rfl rfl rfl h22) ?_
              refine sk (skW rfl rfl rfl h22) ?_
              refine sk (skW rfl rfl rfl h22) ?_
              refine sk (skW rfl rfl rfl h22) ?_
              refine pkT (v := .sc (.bool true)) rfl rfl h22 rfl ?_
              refine RunC.fin ?_
              have hR := Option.some.inj hR; subst hR
              exact Weak.turnL [(1, 0), (3, 0), (4, 0), (5, 0)] [] rfl rfl (tc (trP' rfl rfl rfl rfl) (tc (trP' rfl rfl rfl rfl) (tc (trP' rfl rfl rfl rfl) (tc (trP' rfl rfl rfl rfl) (tc (.sc _) tn))))) (mc rfl (.box rfl (.cons (.sc _) (.cons (.sc _) (.cons trR1 (.nil)))) rfl) (mc rfl (.box rfl (.cons (.sc _) (.cons (.sc _) (.cons trR1 (.nil)))) rfl) (mc rfl (.box rfl (.cons (.sc _) (.cons (.sc _) (.cons trR1 (.nil)))) rfl) (mc rfl (.box rfl (.cons (.sc _) (.cons (.sc _) (.cons trR1 (.nil)))) rfl) mn))))
            · refine ldB (v := .agg _) (wtG rfl rfl rfl h22) rfl rfl rfl ti33 rfl rfl ?_
              refine ldB (v := .agg _) (wtG rfl rfl rfl h22) rfl rfl rfl ti33 rfl rfl ?_
              obtain ⟨r23, hr23, hR⟩ := bindE hR
              refine cls [] (wtG rfl rfl rfl h22) rfl cb12 (ok12 r17.1 r18.1 _ hr23) (.cons (.agg (.cons (.sc _) (.cons (.sc _) (.cons ldR' (.nil)))) rfl) (.cons (.agg (.cons (.sc _) (.cons (.sc _) (.cons ldR' (.nil)))) rfl) (.nil))) (.inr rfl) rfl ?_
              refine pu (v := .sc _) (wtG rfl rfl rfl h22) rfl (fun _ => rfl) ?_
              refine pkF (v := .sc (.bool (!r23))) rfl rfl h22 rfl ?_
              refine RunC.fin ?_
              have hR := Option.some.inj hR; subst hR
              exact Weak.turnL [(1, 0), (3, 0), (4, 0), (5, 0)] [] rfl rfl (tc (trP' rfl rfl rfl rfl) (tc (trP' rfl rfl rfl rfl) (tc (trP' rfl rfl rfl rfl) (tc (trP' rfl rfl rfl rfl) (tc (.sc _) tn))))) (mc rfl (.box rfl (.cons (.sc _) (.cons (.sc _) (.cons trR1 (.nil)))) rfl) (mc rfl (.box rfl (.cons (.sc _) (.cons (.sc _) (.cons trR1 (.nil)))) rfl) (mc rfl (.box rfl (.cons (.sc _) (.cons (.sc _) (.cons trR1 (.nil)))) rfl) (mc rfl (.box rfl (.cons (.sc _) (.cons (.sc _) (.cons trR1 (.nil)))) rfl) mn))))
      · refine AWP.cd hR rfl (fun h24 hR => ?_) fun h24 hR => ?_
        · refine AWP.sq ?_
          refine AWP.rgC 8 rfl rfl ?_
          refine pu (v := .sc _) rfl rfl (fun _ => rfl) ?_
          refine RunC.fin ?_
          refine AWP.ret ?_
          refine rtT ?_
          have hR := Option.some.inj hR; subst hR
          exact hQ _ _ (LS.mk [(2, .sc (.bool false))] (lblks 0 []) 0) (.sc (.bool false)) [] (.inr rfl) (Weak.turnL [] [] rfl rfl (tc (.sc _) tn) mn) (ro1 (rvT (v := .sc (.bool false)) rfl)) rfl rfl (.sc _) pn
        · refine AWP.skip ?_
          refine skT ?_
          refine AWP.joinX (fun z25 : Bool => LS.mk [(2, .sc (.bool z25))] (lblks 0 []) 0) hR (fun o25 hR => ?_) fun z25 hR => ?_
          · refine AWP.rgC 140 rfl rfl ?_
            refine fa rfl rfl ti36 rfl rfl ti22 rfl ?_
            refine ldB (v := rowV _ r7.1.K) rfl rfl rfl rfl ti22 rfl rfl ?_
            refine fa rfl rfl ti36 rfl rfl ti22 rfl ?_
            refine ldB (v := rowV _ r8.1.K) rfl rfl rfl rfl ti22 rfl rfl ?_
            obtain ⟨r26, hr26, hR⟩ := bindE hR
            refine cls [] rfl rfl cb13 (ok13 r7.1.K r8.1.K _ hr26) (.cons ldR' (.cons ldR' (.nil))) (.inr rfl) rfl ?_
            refine pu (v := .sc _) rfl rfl (fun _ => rfl) ?_
            refine brR hR (fun h27 hR => ?_) fun h27 hR => ?_
            · refine fa (wtG rfl rfl rfl h27) rfl ti36 rfl rfl ti3 rfl ?_
              refine ldB (v := .sc _) (wtG rfl rfl rfl h27) rfl rfl rfl ti3 rfl rfl ?_
              refine fa (wtG rfl rfl rfl h27) rfl ti36 rfl rfl ti3 rfl ?_
              refine ldB (v := .sc _) (wtG rfl rfl rfl h27) rfl rfl rfl ti3 rfl rfl ?_
              refine pu (v := .sc _) (wtG rfl rfl rfl h27) rfl (fun _ => rfl) ?_
              refine pkT (v := .sc (.bool (r7.1.W == r8.1.W))) rfl rfl h27 rfl ?_
              refine pu (v := .sc _) rfl rfl (fun _ => rfl) ?_
              refine brR hR (fun h28 hR => ?_) fun h28 hR => ?_
              · refine fa (wtG rfl rfl rfl h28) rfl ti36 rfl rfl ti3 rfl ?_
                refine ldB (v := .sc _) (wtG rfl rfl rfl h28) rfl rfl rfl ti3 rfl rfl ?_
                refine fa (wtG rfl rfl rfl h28) rfl ti36 rfl rfl ti3 rfl ?_
                refine ldB (v := .sc _) (wtG rfl rfl rfl h28) rfl rfl rfl ti3 rfl rfl ?_
                refine pu (v := .sc _) (wtG rfl rfl rfl h28) rfl (fun _ => rfl) ?_
                refine pkT (v := .sc (.bool (r9.1.W == r5.1.W))) rfl rfl h28 rfl ?_
                refine pu (v := .sc _) rfl rfl (fun _ => rfl) ?_
                refine brR hR (fun h29 hR => ?_) fun h29 hR => ?_
                · refine fa (wtG rfl rfl rfl h29) rfl ti36 rfl rfl ti3 rfl ?_
                  refine ldB (v := .sc _) (wtG rfl rfl rfl h29) rfl rfl rfl ti3 rfl rfl ?_
                  refine fa (wtG rfl rfl rfl h29) rfl ti36 rfl rfl ti3 rfl ?_
                  refine ldB (v := .sc _) (wtG rfl rfl rfl h29) rfl rfl rfl ti3 rfl rfl ?_
                  refine pu (v := .sc _) (wtG rfl rfl rfl h29) rfl (fun _ => rfl) ?_
                  refine pkT (v := .sc (.bool (r9.1.H == r5.1.H))) rfl rfl h29 rfl ?_
                  refine pu (v := .sc _) rfl rfl (fun _ => rfl) ?_
                  refine brR hR (fun h30 hR => ?_) fun h30 hR => ?_
                  · refine fa (wtG rfl rfl rfl h30) rfl ti36 rfl rfl ti22 rfl ?_
                    refine ldB (v := rowV _ r9.1.K) (wtG rfl rfl rfl h30) rfl rfl rfl ti22 rfl rfl ?_
                    refine fa (wtG rfl rfl rfl h30) rfl ti36 rfl rfl ti22 rfl ?_
                    refine ldB (v := rowV _ r5.1.K) (wtG rfl rfl rfl h30) rfl rfl rfl ti22 rfl rfl ?_
                    obtain ⟨r31, hr31, hR⟩ := bindE hR
                    refine cls [] (wtG rfl rfl rfl h30) rfl cb13 (ok13 r9.1.K r5.1.K _ hr31) (.cons ldR' (.cons ldR' (.nil))) (.inr rfl) rfl ?_
                    refine pkT (v := .sc (.bool r31)) rfl rfl h30 rfl ?_
                    refine pu (v := .sc _) rfl rfl (fun _ => rfl) ?_
                    refine RunC.fin ?_
                    have hR := Option.some.inj hR; subst hR
                    exact Weak.turnL [] [] rfl rfl (tc (.sc _) tn) mn
                  · refine sk (skW rfl rfl rfl h30) ?_
                    refine sk (skW rfl rfl rfl h30) ?_
                    refine sk (skW rfl rfl rfl h30) ?_
                    refine sk (skW rfl rfl rfl h30) ?_
                    refine sk (skW rfl rfl rfl h30) ?_
                    refine pkF (v := .sc (.bool false)) rfl rfl h30 rfl ?_
                    refine pu (v := .sc _) rfl rfl (fun _ => rfl) ?_
                    refine RunC.fin ?_
                    have hR := Option.some.inj hR; subst hR
                    exact Weak.turnL [] [] rfl rfl (tc (.sc _) tn) mn
                · refine sk (skW rfl rfl rfl h29) ?_
                  refine sk (skW rfl rfl rfl h29) ?_
                  refine sk (skW rfl rfl rfl h29) ?_
                  refine sk (skW rfl rfl rfl h29) ?_
                  refine sk (skW rfl rfl rfl h29) ?_
                  refine pkF (v := .sc (.bool false)) rfl rfl h29 rfl ?_
                  refine pu (v := .sc _) rfl rfl (fun _ => rfl) ?_
                  refine sk (skW rfl rfl rfl rfl) ?_
                  refine sk (skW rfl rfl rfl rfl) ?_
                  refine sk (skW rfl rfl rfl rfl) ?_
                  refine sk (skW rfl rfl rfl rfl) ?_
                  refine sk (skW rfl rfl rfl rfl) ?_
                  refine pkF (v := .sc (.bool false)) rfl rfl rfl rfl ?_
                  refine pu (v := .sc _) rfl rfl (fun _ => rfl) ?_
                  refine RunC.fin ?_
                  have hR := Option.some.inj hR; subst hR
                  exact Weak.turnL [] [] rfl rfl (tc (.sc _) tn) mn
              · refine sk (skW rfl rfl rfl h28) ?_
                refine sk (skW rfl rfl rfl h28) ?_
                refine sk (skW rfl rfl rfl h28) ?_
                refine sk (skW rfl rfl rfl h28) ?_
                refine sk (skW rfl rfl rfl h28) ?_
                refine pkF (v := .sc (.bool false)) rfl rfl h28 rfl ?_
                refine pu (v := .sc _) rfl rfl (fun _ => rfl) ?_
                refine sk (skW rfl rfl rfl rfl) ?_
                refine sk (skW rfl rfl rfl rfl) ?_
                refine sk (skW rfl rfl rfl rfl) ?_
                refine sk (skW rfl rfl rfl rfl) ?_
                refine sk (skW rfl rfl rfl rfl) ?_
                refine pkF (v := .sc (.bool false)) rfl rfl rfl rfl ?_
                refine pu (v := .sc _) rfl rfl (fun _ => rfl) ?_
                refine sk (skW rfl rfl rfl rfl) ?_
                refine sk (skW rfl rfl rfl rfl) ?_
                refine sk (skW rfl rfl rfl rfl) ?_
                refine sk (skW rfl rfl rfl rfl) ?_
                refine sk (skW rfl rfl rfl rfl) ?_
                refine pkF (v := .sc (.bool false)) rfl rfl rfl rfl ?_
                refine pu (v := .sc _) rfl rfl (fun _ => rfl) ?_
                refine RunC.fin ?_
                have hR := Option.some.inj hR; subst hR
                exact Weak.turnL [] [] rfl rfl (tc (.sc _) tn) mn
            · refine sk (skW rfl rfl rfl h27) ?_
              refine sk (skW rfl rfl rfl h27) ?_
              refine sk (skW rfl rfl rfl h27) ?_
              refine sk (skW rfl rfl rfl h27) ?_
              refine sk (skW rfl rfl rfl h27) ?_
              refine pkF (v := .sc (.bool false)) rfl rfl h27 rfl ?_
              refine pu (v := .sc _) rfl rfl (fun _ => rfl) ?_
              refine sk (skW rfl rfl rfl rfl) ?_
              refine sk (skW rfl rfl rfl rfl) ?_
              refine sk (skW rfl rfl rfl rfl) ?_
              refine sk (skW rfl rfl rfl rfl) ?_
              refine sk (skW rfl rfl rfl rfl) ?_
              refine pkF (v := .sc (.bool false)) rfl rfl rfl rfl ?_
              refine pu (v := .sc _) rfl rfl (fun _ => rfl) ?_
              refine sk (skW rfl rfl rfl rfl) ?_
              refine sk (skW rfl rfl rfl rfl) ?_
              refine sk (skW rfl rfl rfl rfl) ?_
              refine sk (skW rfl rfl rfl rfl) ?_
              refine sk (skW rfl rfl rfl rfl) ?_
              refine pkF (v := .sc (.bool false)) rfl rfl rfl rfl ?_
              refine pu (v := .sc _) rfl rfl (fun _ => rfl) ?_
              refine sk (skW rfl rfl rfl rfl) ?_
              refine sk (skW rfl rfl rfl rfl) ?_
              refine sk (skW rfl rfl rfl rfl) ?_
              refine sk (skW rfl rfl rfl rfl) ?_
              refine sk (skW rfl rfl rfl rfl) ?_
              refine pkF (v := .sc (.bool false)) rfl rfl rfl rfl ?_
              refine pu (v := .sc _) rfl rfl (fun _ => rfl) ?_
              refine RunC.fin ?_
              have hR := Option.some.inj hR; subst hR
              exact Weak.turnL [] [] rfl rfl (tc (.sc _) tn) mn
          · refine AWP.ret ?_
            have hR := Option.some.inj hR; subst hR
            exact hQ _ _ (LS.mk [(2, .sc (.bool z25))] (lblks 0 []) 0) (.sc (.bool z25)) [] (.inr rfl) (Weak.turnL [] [] rfl rfl (tc (.sc _) tn) mn) (ro1 (rvT (v := .sc (.bool z25)) rfl)) rfl rfl (.sc _) pn
end Go.Proofs.Dtw
