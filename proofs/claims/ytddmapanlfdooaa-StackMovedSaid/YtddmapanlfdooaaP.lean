/- Each function of the program computes its plain function. Conditions: as each theorem states them. -/
import Derived.Test.YtddmapanlfdooaaT
import Derived.Test.YtddmapanlfdooaaP1
namespace Go.Proofs.Stm
open Go Go.Abs Lf
set_option linter.unusedVariables false
set_option linter.unusedSimpArgs false
set_option maxRecDepth 100000
set_option maxHeartbeats 1000000
theorem ok3 (l : List Int) (dx : Int) (dy : Int) (ux : Int) (uy : Int) (r : Bool) (hR : spykeep4_StackMoved l dx dy ux uy = some r) : FnP Try.prog 3 [rowV false l, .sc (.int .i64 dx), .sc (.int .i64 dy), .sc (.int .i64 ux), .sc (.int .i64 uy)] (.sc (.bool r)) := by
  refine fnP_of (FnX.walk Try.func3 rfl 305 0 (by simp [Try.ntmps3]) rfl fun W S F Q hQ => ?_)
  unfold spykeep4_StackMoved at hR
  refine AWP.sq ?_
  refine AWP.rgC 4 rfl rfl ?_
  refine pu (v := .sc _) rfl rfl (fun _ => rfl) ?_
  refine RunC.fin ?_
  refine AWP.sq ?_
  refine AWP.rgC 20 rfl rfl ?_
  refine pu (v := rowV _ l) rfl rfl (fun _ => rfl) ?_
  refine bu (cs := [rowV (α := Int) false l, .sc (.int .i64 0)]) rfl bt25 rfl ?_
  refine bx (cs := _) 12 rfl rfl rfl ?_
  refine pu (v := .ptr _ _ _) rfl rfl (fun _ => rfl) ?_
  refine RunC.fin ?_
  refine AWP.sq ?_
  refine AWP.rgC 44 rfl rfl ?_
  refine pu (v := .ptr _ _ _) rfl rfl (fun _ => rfl) ?_
  obtain ⟨r1, hr1, hR⟩ := bindE hR
  refine cps (res' := .sc (.int .i64 r1.1)) (ups := [(12, boxB (α := spymake_Stream) false r1.2)]) [12] 24 rfl rfl rfl cb4 (ok4 (spymake_Stream.mk l 0) 1 7 _ hr1) (.cons (ldP rfl rfl) (.cons (.sc _) (.cons (.sc _) (.nil)))) (pc rfl (.box (.cons ldR' (.cons (.sc _) (.nil))) rfl) pn) rfl rfl rfl rfl rfl (by first | rfl | exact renR | exact renA | exact renS | simp only [V.ren, V.rens, renR, renA, renS] | (simp only [V.ren, V.rens, renR, renA, renS]; rfl)) (by simp only [passUps, renBox, renArr]; rfl) ?_
  refine pu (v := .ptr _ _ _) rfl rfl (fun _ => rfl) ?_
  obtain ⟨r2, hr2, hR⟩ := bindE hR
  refine cps (res' := .sc (.int .i64 r2.1)) (ups := [(12, boxB (α := spymake_Stream) false r2.2)]) [12] 32 rfl rfl rfl cb4 (ok4 r1.2 1 7 _ hr2) (.cons (ldP rfl rfl) (.cons (.sc _) (.cons (.sc _) (.nil)))) (pc rfl (.box (.cons ldR' (.cons (.sc _) (.nil))) rfl) pn) rfl rfl rfl rfl rfl (by first | rfl | exact renR | exact renA | exact renS | simp only [V.ren, V.rens, renR, renA, renS] | (simp only [V.ren, V.rens, renR, renA, renS]; rfl)) (by simp only [passUps, renBox, renArr]; rfl) ?_
  refine pu (v := .sc _) rfl rfl (fun _ => rfl) ?_
  refine pu (v := .sc _) rfl rfl (fun _ => rfl) ?_
  refine RunC.fin ?_
  refine AWP.sq ?_
  refine AWP.rgC 80 rfl rfl ?_
  refine pu (v := .ptr _ _ _) rfl rfl (fun _ => rfl) ?_
  refine pu (v := .sc _) rfl rfl (fun _ => rfl) ?_
  refine pu (v := .sc _) rfl rfl (fun _ => rfl) ?_
  obtain ⟨r3, hr3, hR⟩ := bindE hR
  refine cps (res' := .tup [rowV (α := Int) true r3.1, .sc (.int .i64 r3.2.1)]) (ups := [(12, boxB (α := spymake_Stream) false r3.2.2)]) [12] 56 rfl rfl rfl cb5 (ok5 r2.2 r1.1 r2.1 2 _ hr3) (.cons (ldP rfl rfl) (.cons (.sc _) (.cons (.sc _) (.cons (.sc _) (.nil))))) (pc rfl (.box (.cons ldR' (.cons (.sc _) (.nil))) rfl) pn) rfl rfl rfl rfl rfl (by first | rfl | exact renR | exact renA | exact renS | simp only [V.ren, V.rens, renR, renA, renS] | (simp only [V.ren, V.rens, renR, renA, renS]; rfl)) (by simp only [passUps, renBox, renArr]; rfl) ?_
  refine pu (v := .tup _) rfl rfl (fun _ => rfl) ?_
  refine pu (v := rowV _ r3.1) rfl rfl (fun _ => rfl) ?_
  refine pu (v := .sc _) rfl rfl (fun _ => rfl) ?_
  refine pu (v := rowV _ r3.1) rfl rfl (fun _ => rfl) ?_
  refine pu (v := .sc _) rfl rfl (fun _ => rfl) ?_
  refine RunC.fin ?_
  refine AWP.sq ?_
  refine AWP.rgC 108 rfl rfl ?_
  refine pu (v := .ptr _ _ _) rfl rfl (fun _ => rfl) ?_
  refine pu (v := .sc _) rfl rfl (fun _ => rfl) ?_
  refine pu (v := .sc _) rfl rfl (fun _ => rfl) ?_
  refine pu (v := rowV _ r3.1) rfl rfl (fun _ => rfl) ?_
  obtain ⟨r4, hr4, hR⟩ := bindE hR
  refine cps (res' := aggV (α := Cells) true r4.1) (ups := [(12, boxB (α := spymake_Stream) false r4.2)]) [12] 96 rfl rfl rfl cb6 (ok6 r3.2.2 r1.1 r2.1 r3.1 true _ hr4) (.cons (ldP rfl rfl) (.cons (.sc _) (.cons (.sc _) (.cons ldR' (.cons (.sc _) (.nil)))))) (pc rfl (.box (.cons ldR' (.cons (.sc _) (.nil))) rfl) pn) rfl rfl rfl rfl rfl (by first | rfl | exact renR | exact renA | exact renS | simp only [V.ren, V.rens, renR, renA, renS] | (simp only [V.ren, V.rens, renR, renA, renS]; rfl)) (by simp only [passUps, renBox, renArr]; rfl) ?_
  refine al (cs := [.sc (.int .i64 0), .sc (.int .i64 0), .sc (.slice none 0 0)]) 100 rfl rfl ti33 rfl rfl ?_
  refine stB (cs' := [.sc (.int .i64 r4.1.W), .sc (.int .i64 r4.1.H), rowV (α := Bound) true r4.1.At]) rfl rfl rfl rfl ti33 rfl rfl rfl rfl rfl ?_
  refine RunC.fin ?_
  refine AWP.sq ?_
  refine AWP.rgC 140 rfl rfl ?_
  refine pu (v := .sc _) rfl rfl (fun _ => rfl) ?_
  obtain ⟨r5, hr5, hR⟩ := bindE hR
  refine cls [] rfl rfl cb7 (ok7 dx 15 _ hr5) (.cons (.sc _) (.cons (.sc _) (.nil))) (.inr rfl) rfl ?_
  refine pu (v := .sc _) rfl rfl (fun _ => rfl) ?_
  refine pu (v := .sc _) rfl rfl (fun _ => rfl) ?_
  obtain ⟨r6, hr6, hR⟩ := bindE hR
  refine cls [] rfl rfl cb7 (ok7 dy 15 _ hr6) (.cons (.sc _) (.cons (.sc _) (.nil))) (.inr rfl) rfl ?_
  refine pu (v := .sc _) rfl rfl (fun _ => rfl) ?_
  refine pu (v := .sc _) rfl rfl (fun _ => rfl) ?_
  refine pu (v := .sc _) rfl rfl (fun _ => rfl) ?_
  refine RunC.fin ?_
  refine AWP.sq ?_
  refine AWP.rgC 180 rfl rfl ?_
  refine ldB (v := .agg _) rfl rfl rfl rfl ti33 rfl rfl ?_
  refine pu (v := .sc _) rfl rfl (fun _ => rfl) ?_
  refine pu (v := .sc _) rfl rfl (fun _ => rfl) ?_
  obtain ⟨r7, hr7, hR⟩ := bindE hR
  refine cls [] rfl rfl cb8 (ok8 r4.1 (w6 (r5 - 7)) (w6 (r6 - 7)) _ hr7) (.cons (.agg (.cons (.sc _) (.cons (.sc _) (.cons ldR' (.nil)))) rfl) (.cons (.sc _) (.cons (.sc _) (.nil)))) (.inr rfl) rfl ?_
  refine pu (v := .tup _) rfl rfl (fun _ => rfl) ?_
  refine pu (v := .agg _) rfl rfl (fun _ => rfl) ?_
  refine pu (v := .sc _) rfl rfl (fun _ => rfl) ?_
  refine al (cs := [.sc (.int .i64 0), .sc (.int .i64 0), .sc (.slice none 0 0)]) 168 rfl rfl ti33 rfl rfl ?_
  refine stB (cs' := [.sc (.int .i64 r7.1.W), .sc (.int .i64 r7.1.H), rowV (α := Bound) true r7.1.At]) rfl rfl rfl rfl ti33 rfl rfl rfl rfl rfl ?_
  refine pu (v := .sc _) rfl rfl (fun _ => rfl) ?_
  refine RunC.fin ?_
  refine AWP.sq ?_
  refine AWP.rgC 220 rfl rfl ?_
  refine ldB (v := .agg _) rfl rfl rfl rfl ti33 rfl rfl ?_
  refine pu (v := .sc _) rfl rfl (fun _ => rfl) ?_
  refine pu (v := .sc _) rfl rfl (fun _ => rfl) ?_
  obtain ⟨r8, hr8, hR⟩ := bindE hR
  refine cls [] rfl rfl cb8 (ok8 r7.1 (w6 (r5 - 7)) (w6 (r6 - 7)) _ hr8) (.cons (.agg (.cons (.sc _) (.cons (.sc _) (.cons ldR' (.nil)))) rfl) (.cons (.sc _) (.cons (.sc _) (.nil)))) (.inr rfl) rfl ?_
  refine pu (v := .tup _) rfl rfl (fun _ => rfl) ?_
  refine pu (v := .agg _) rfl rfl (fun _ => rfl) ?_
  refine pu (v := .sc _) rfl rfl (fun _ => rfl) ?_
  refine al (cs := [.sc (.int .i64 0), .sc (.int .i64 0), .sc (.slice none 0 0)]) 208 rfl rfl ti33 rfl rfl ?_
  refine stB (cs' := [.sc (.int .i64 r8.1.W), .sc (.int .i64 r8.1.H), rowV (α := Bound) true r8.1.At]) rfl rfl rfl rfl ti33 rfl rfl rfl rfl rfl ?_
  refine pu (v := .sc _) rfl rfl (fun _ => rfl) ?_
  refine RunC.fin ?_
  refine AWP.sq ?_
  refine AWP.rgC 268 rfl rfl ?_
  refine ldB (v := .agg _) rfl rfl rfl rfl ti33 rfl rfl ?_
  refine pu (v := .sc _) rfl rfl (fun _ => rfl) ?_
  refine pu (v := .sc _) rfl rfl (fun _ => rfl) ?_
  refine pu (v := .sc _) rfl rfl (fun _ => rfl) ?_
  refine pu (v := .sc _) rfl rfl (fun _ => rfl) ?_
  obtain ⟨r9, hr9, hR⟩ := bindE hR
  refine cls [] rfl rfl cb8 (ok8 r4.1 (w6 (2 * (w6 (r5 - 7)))) (w6 (2 * (w6 (r6 - 7)))) _ hr9) (.cons (.agg (.cons (.sc _) (.cons (.sc _) (.cons ldR' (.nil)))) rfl) (.cons (.sc _) (.cons (.sc _) (.nil)))) (.inr rfl) rfl ?_
  refine pu (v := .tup _) rfl rfl (fun _ => rfl) ?_
  refine pu (v := .agg _) rfl rfl (fun _ => rfl) ?_
  refine pu (v := .sc _) rfl rfl (fun _ => rfl) ?_
  refine al (cs := [.sc (.int .i64 0), .sc (.int .i64 0), .sc (.slice none 0 0)]) 256 rfl rfl ti33 rfl rfl ?_
  refine stB (cs' := [.sc (.int .i64 r9.1.W), .sc (.int .i64 r9.1.H), rowV (α := Bound) true r9.1.At]) rfl rfl rfl rfl ti33 rfl rfl rfl rfl rfl ?_
  refine pu (v := .sc _) rfl rfl (fun _ => rfl) ?_
  refine RunC.fin ?_
  refine AWP.sq ?_
  refine AWP.rgC 316 rfl rfl ?_
  refine ldB (v := .agg _) rfl rfl rfl rfl ti33 rfl rfl ?_
  refine pu (v := .sc _) rfl rfl (fun _ => rfl) ?_
  refine pu (v := .sc _) rfl rfl (fun _ => rfl) ?_
  refine pu (v := .sc _) rfl rfl (fun _ => rfl) ?_
  refine pu (v := .sc _) rfl rfl (fun _ => rfl) ?_
  obtain ⟨r10, hr10, hR⟩ := bindE hR
  refine cls [] rfl rfl cb8 (ok8 r7.1 (w6 (0 - (w6 (r5 - 7)))) (w6 (0 - (w6 (r6 - 7)))) _ hr10) (.cons (.agg (.cons (.sc _) (.cons (.sc _) (.cons ldR' (.nil)))) rfl) (.cons (.sc _) (.cons (.sc _) (.nil)))) (.inr rfl) rfl ?_
  refine pu (v := .tup _) rfl rfl (fun _ => rfl) ?_
  refine pu (v := .agg _) rfl rfl (fun _ => rfl) ?_
  refine pu (v := .sc _) rfl rfl (fun _ => rfl) ?_
  refine al (cs := [.sc (.int .i64 0), .sc (.int .i64 0), .sc (.slice none 0 0)]) 304 rfl rfl ti33 rfl rfl ?_
  refine stB (cs' := [.sc (.int .i64 r10.1.W), .sc (.int .i64 r10.1.H), rowV (α := Bound) true r10.1.At]) rfl rfl rfl rfl ti33 rfl rfl rfl rfl rfl ?_
  refine pu (v := .sc _) rfl rfl (fun _ => rfl) ?_
  refine RunC.fin ?_
  refine AWP.sq ?_
  refine AWP.rgC 340 rfl rfl ?_
  refine pu (v := .sc _) rfl rfl (fun _ => rfl) ?_
  obtain ⟨r11, hr11, hR⟩ := bindE hR
  refine cls [] rfl rfl cb7 (ok7 ux 256 _ hr11) (.cons (.sc _) (.cons (.sc _) (.nil))) (.inr rfl) rfl ?_
  refine pu (v := .sc _) rfl rfl (fun _ => rfl) ?_
  obtain ⟨r12, hr12, hR⟩ := bindE hR
  refine cls [] rfl rfl cb7 (ok7 uy 256 _ hr12) (.cons (.sc _) (.cons (.sc _) (.nil))) (.inr rfl) rfl ?_
  refine pu (v := .sc _) rfl rfl (fun _ => rfl) ?_
  refine pu (v := .sc _) rfl rfl (fun _ => rfl) ?_
  refine RunC.fin ?_
  refine AWP.sq ?_
  refine AWP.rgC 372 rfl rfl ?_
  refine ldB (v := .agg _) rfl rfl rfl rfl ti33 rfl rfl ?_
  obtain ⟨r13, hr13, hR⟩ := bindE hR
  refine cls [] rfl rfl cb9 (ok9 r4.1 0 0 _ hr13) (.cons (.agg (.cons (.sc _) (.cons (.sc _) (.cons ldR' (.nil)))) rfl) (.cons (.sc _) (.cons (.sc _) (.nil)))) (.inr rfl) rfl ?_
  refine pu (v := .tup _) rfl rfl (fun _ => rfl) ?_
  refine pu (v := .agg _) rfl rfl (fun _ => rfl) ?_
  refine pu (v := .sc _) rfl rfl (fun _ => rfl) ?_
  refine al (cs := [.sc (.int .i64 0), .sc (.int .i64 0), .sc (.slice none 0 0)]) 360 rfl rfl ti33 rfl rfl ?_
  refine stB (cs' := [.sc (.int .i64 r13.1.W), .sc (.int .i64 r13.1.H), rowV (α := Bound) true r13.1.At]) rfl rfl rfl rfl ti33 rfl rfl rfl rfl rfl ?_
  refine pu (v := .sc _) rfl rfl (fun _ => rfl) ?_
  refine RunC.fin ?_
  refine AWP.sq ?_
  refine AWP.rgC 412 rfl rfl ?_
  refine ldB (v := .agg _) rfl rfl rfl rfl ti33 rfl rfl ?_
  refine pu (v := .sc _) rfl rfl (fun _ => rfl) ?_
  refine pu (v := .sc _) rfl rfl (fun _ => rfl) ?_
  obtain ⟨r14, hr14, hR⟩ := bindE hR
  refine cls [] rfl rfl cb9 (ok9 r4.1 r11 r12 _ hr14) (.cons (.agg (.cons (.sc _) (.cons (.sc _) (.cons ldR' (.nil)))) rfl) (.cons (.sc _) (.cons (.sc _) (.nil)))) (.inr rfl) rfl ?_
  refine pu (v := .tup _) rfl rfl (fun _ => rfl) ?_
  refine pu (v := .agg _) rfl rfl (fun _ => rfl) ?_
  refine pu (v := .sc _) rfl rfl (fun _ => rfl) ?_
  refine al (cs := [.sc (.int .i64 0), .sc (.int .i64 0), .sc (.slice none 0 0)]) 400 rfl rfl ti33 rfl rfl ?_
  refine stB (cs' := [.sc (.int .i64 r14.1.W), .sc (.int .i64 r14.1.H), rowV (α := Bound) true r14.1.At]) rfl rfl rfl rfl ti33 rfl rfl rfl rfl rfl ?_
  refine pu (v := .sc _) rfl rfl (fun _ => rfl) ?_
  refine RunC.fin ?_
  refine AWP.sq ?_
  refine AWP.joinX (fun z15 : Bool => LS.mk [(1, .sc (.int .i64 (w6 (r5 - 7)))), (2, .sc (.int .i64 (w6 (r6 - 7)))), (12, .sc (.int .i64 r1.1)), (13, .sc (.int .i64 r2.1)), (14, rowV (α := Int) true r3.1), (16, .ptr 0 0 0), (23, .ptr 1 0 0), (25, .sc (.int .i64 r11)), (26, .sc (.int .i64 r12)), (29, .ptr 2 0 0), (153, .sc (.bool z15))] (lblks 0 [boxB (α := Cells) true r4.1, boxB (α := Cells) true r10.1, boxB (α := Cells) true r14.1]) 3) hR (fun o15 hR => ?_) fun z15 hR => ?_
  · refine AWP.rgC 564 rfl rfl ?_
    obtain ⟨r16, hr16, hR⟩ := bindE hR
    refine cls [] rfl rfl cb10 (ok10 _ hr16) (.nil) (.inr rfl) rfl ?_
    refine pu (v := .sc _) rfl rfl (fun _ => rfl) ?_
    refine pu (v := .sc _) rfl rfl (fun _ => rfl) ?_
    refine brR hR (fun h17 hR => ?_) fun h17 hR => ?_
    · refine sk (skW rfl rfl rfl h17) ?_
      refine sk (skW rfl rfl rfl h17) ?_
      refine pkT (v := .sc (.bool true)) rfl rfl h17 rfl ?_
      refine pu (v := .sc _) rfl rfl (fun _ => rfl) ?_
      refine sk (skW rfl rfl rfl rfl) ?_
      refine sk (skW rfl rfl rfl rfl) ?_
      refine pkT (v := .sc (.bool true)) rfl rfl rfl rfl ?_
      refine pu (v := .sc _) rfl rfl (fun _ => rfl) ?_
      refine sk (skW rfl rfl rfl rfl) ?_
      refine sk (skW rfl rfl rfl rfl) ?_
      refine pkT (v := .sc (.bool true)) rfl rfl rfl rfl ?_
      refine pu (v := .sc _) rfl rfl (fun _ => rfl) ?_
      refine sk (skW rfl rfl rfl rfl) ?_
      refine sk (skW rfl rfl rfl rfl) ?_
      refine pkT (v := .sc (.bool true)) rfl rfl rfl rfl ?_
      refine pu (v := .sc _) rfl rfl (fun _ => rfl) ?_
      refine sk (skW rfl rfl rfl rfl) ?_
      refine sk (skW rfl rfl rfl rfl) ?_
      refine pkT (v := .sc (.bool true)) rfl rfl rfl rfl ?_
      refine pu (v := .sc _) rfl rfl (fun _ => rfl) ?_
      refine sk (skW rfl rfl rfl rfl) ?_
      refine sk (skW rfl rfl rfl rfl) ?_
      refine pkT (v := .sc (.bool true)) rfl rfl rfl rfl ?_
      refine pu (v := .sc _) rfl rfl (fun _ => rfl) ?_
      refine sk (skW rfl rfl rfl rfl) ?_
      refine sk (skW rfl rfl rfl rfl) ?_
      refine sk (skW rfl rfl rfl rfl) ?_
      refine sk (skW rfl rfl rfl rfl) ?_
      refine pkT (v := .sc (.bool true)) rfl rfl rfl rfl ?_
      refine pu (v := .sc _) rfl rfl (fun _ => rfl) ?_
      refine sk (skW rfl rfl rfl rfl) ?_
      refine sk (skW rfl rfl rfl rfl) ?_
      refine sk (skW rfl rfl rfl rfl) ?_
      refine sk (skW rfl rfl rfl rfl) ?_
      refine pkT (v := .sc (.bool true)) rfl rfl rfl rfl ?_
      refine RunC.fin ?_
      have hR := Option.some.inj hR; subst hR
      exact Weak.turnL [(100, 0), (304, 0), (400, 0)] [] rfl rfl (tc (.sc _) (tc (.sc _) (tc (.sc _) (tc (.sc _) (tc trR1 (tc (trP' rfl rfl rfl rfl) (tc (trP' rfl rfl rfl rfl) (tc (.sc _) (tc (.sc _) (tc (trP' rfl rfl rfl rfl) (tc (.sc _) tn))))))))))) (mc rfl (.box rfl (.cons (.sc _) (.cons (.sc _) (.cons trR1 (.nil)))) rfl) (mc rfl (.box rfl (.cons (.sc _) (.cons (.sc _) (.cons trR1 (.nil)))) rfl) (mc rfl (.box rfl (.cons (.sc _) (.cons (.sc _) (.cons trR1 (.nil)))) rfl) mn)))
    · refine pu (v := .sc _) (wtG rfl rfl rfl h17) rfl (fun _ => rfl) ?_
      refine pu (v := .sc _) (wtG rfl rfl rfl h17) rfl (fun _ => rfl) ?_
      refine pkF (v := .sc (.bool (r7.2 != 0))) rfl rfl h17 rfl ?_
      refine pu (v := .sc _) rfl rfl (fun _ => rfl) ?_
      refine brR hR (fun h18 hR => ?_) fun h18 hR => ?_
      · refine sk (skW rfl rfl rfl h18) ?_
        refine sk (skW rfl rfl rfl h18) ?_
        refine pkT (v := .sc (.bool true)) rfl rfl h18 rfl ?_
        refine pu (v := .sc _) rfl rfl (fun _ => rfl) ?_
        refine sk (skW rfl rfl rfl rfl) ?_
        refine sk (skW rfl rfl rfl rfl) ?_
        refine pkT (v := .sc (.bool true)) rfl rfl rfl rfl ?_
        refine pu (v := .sc _) rfl rfl (fun _ => rfl) ?_
        refine sk (skW rfl rfl rfl rfl) ?_
        refine sk (skW rfl rfl rfl rfl) ?_
        refine pkT (v := .sc (.bool true)) rfl rfl rfl rfl ?_
        refine pu (v := .sc _) rfl rfl (fun _ => rfl) ?_
        refine sk (skW rfl rfl rfl rfl) ?_
        refine sk (skW rfl rfl rfl rfl) ?_
        refine pkT (v := .sc (.bool true)) rfl rfl rfl rfl ?_
        refine pu (v := .sc _) rfl rfl (fun _ => rfl) ?_
        refine sk (skW rfl rfl rfl rfl) ?_
        refine sk (skW rfl rfl rfl rfl) ?_
        refine pkT (v := .sc (.bool true)) rfl rfl rfl rfl ?_
        refine pu (v := .sc _) rfl rfl (fun _ => rfl) ?_
        refine sk (skW rfl rfl rfl rfl) ?_
        refine sk (skW rfl rfl rfl rfl) ?_
        refine sk (skW rfl rfl rfl rfl) ?_
        refine sk (skW rfl rfl rfl rfl) ?_
        refine pkT (v := .sc (.bool true)) rfl rfl rfl rfl ?_
        refine pu (v := .sc _) rfl rfl (fun _ => rfl) ?_
        refine sk (skW rfl rfl rfl rfl) ?_
        refine sk (skW rfl rfl rfl rfl) ?_
        refine sk (skW rfl rfl rfl rfl) ?_
        refine sk (skW rfl rfl rfl rfl) ?_
        refine pkT (v := .sc (.bool true)) rfl rfl rfl rfl ?_
        refine RunC.fin ?_
        have hR := Option.some.inj hR; subst hR
        exact Weak.turnL [(100, 0), (304, 0), (400, 0)] [] rfl rfl (tc (.sc _) (tc (.sc _) (tc (.sc _) (tc (.sc _) (tc trR1 (tc (trP' rfl rfl rfl rfl) (tc (trP' rfl rfl rfl rfl) (tc (.sc _) (tc (.sc _) (tc (trP' rfl rfl rfl rfl) (tc (.sc _) tn))))))))))) (mc rfl (.box rfl (.cons (.sc _) (.cons (.sc _) (.cons trR1 (.nil)))) rfl) (mc rfl (.box rfl (.cons (.sc _) (.cons (.sc _) (.cons trR1 (.nil)))) rfl) (mc rfl (.box rfl (.cons (.sc _) (.cons (.sc _) (.cons trR1 (.nil)))) rfl) mn)))
      · refine pu (v := .sc _) (wtG rfl rfl rfl h18) rfl (fun _ => rfl) ?_
        refine pu (v := .sc _) (wtG rfl rfl rfl h18) rfl (fun _ => rfl) ?_
        refine pkF (v := .sc (.bool (r8.2 != 0))) rfl rfl h18 rfl ?_
        refine pu (v := .sc _) rfl rfl (fun _ => rfl) ?_
        refine brR hR (fun h19 hR => ?_) fun h19 hR => ?_
        · refine sk (skW rfl rfl rfl h19) ?_
          refine sk (skW rfl rfl rfl h19) ?_
          refine pkT (v := .sc (.bool true)) rfl rfl h19 rfl ?_
          refine pu (v := .sc _) rfl rfl (fun _ => rfl) ?_
          refine sk (skW rfl rfl rfl rfl) ?_
          refine sk (skW rfl rfl rfl rfl) ?_
          refine pkT (v := .sc (.bool true)) rfl rfl rfl rfl ?_
          refine pu (v := .sc _) rfl rfl (fun _ => rfl) ?_
          refine sk (skW rfl rfl rfl rfl) ?_
          refine sk (skW rfl rfl rfl rfl) ?_
          refine pkT (v := .sc (.bool true)) rfl rfl rfl rfl ?_
          refine pu (v := .sc _) rfl rfl (fun _ => rfl) ?_
          refine sk (skW rfl rfl rfl rfl) ?_
          refine sk (skW rfl rfl rfl rfl) ?_
          refine pkT (v := .sc (.bool true)) rfl rfl rfl rfl ?_
          refine pu (v := .sc _) rfl rfl (fun _ => rfl) ?_
          refine sk (skW rfl rfl rfl rfl) ?_
          refine sk (skW rfl rfl rfl rfl) ?_
          refine sk (skW rfl rfl rfl rfl) ?_
          refine sk (skW rfl rfl rfl rfl) ?_
          refine pkT (v := .sc (.bool true)) rfl rfl rfl rfl ?_
          refine pu (v := .sc _) rfl rfl (fun _ => rfl) ?_
          refine sk (skW rfl rfl rfl rfl) ?_
          refine sk (skW rfl rfl rfl rfl) ?_
          refine sk (skW rfl rfl rfl rfl) ?_
          refine sk (skW rfl rfl rfl rfl) ?_
          refine pkT (v := .sc (.bool true)) rfl rfl rfl rfl ?_
          refine RunC.fin ?_
          have hR := Option.some.inj hR; subst hR
          exact Weak.turnL [(100, 0), (304, 0), (400, 0)] [] rfl rfl (tc (.sc _) (tc (.sc _) (tc (.sc _) (tc (.sc _) (tc trR1 (tc (trP' rfl rfl rfl rfl) (tc (trP' rfl rfl rfl rfl) (tc (.sc _) (tc (.sc _) (tc (trP' rfl rfl rfl rfl) (tc (.sc _) tn))))))))))) (mc rfl (.box rfl (.cons (.sc _) (.cons (.sc _) (.cons trR1 (.nil)))) rfl) (mc rfl (.box rfl (.cons (.sc _) (.cons (.sc _) (.cons trR1 (.nil)))) rfl) (mc rfl (.box rfl (.cons (.sc _) (.cons (.sc _) (.cons trR1 (.nil)))) rfl) mn)))
        · refine pu (v := .sc _) (wtG rfl rfl rfl h19) rfl (fun _ => rfl) ?_
          refine pu (v := .sc _) (wtG rfl rfl rfl h19) rfl (fun _ => rfl) ?_
          refine pkF (v := .sc (.bool (r9.2 != 0))) rfl rfl h19 rfl ?_
          refine pu (v := .sc _) rfl rfl (fun _ => rfl) ?_
          refine brR hR (fun h20 hR => ?_) fun h20 hR => ?_
          · refine sk (skW rfl rfl rfl h20) ?_
            refine sk (skW rfl rfl rfl h20) ?_
            refine pkT (v := .sc (.bool true)) rfl rfl h20 rfl ?_
            refine pu (v := .sc _) rfl rfl (fun _ => rfl) ?_
            refine sk (skW rfl rfl rfl rfl) ?_
            refine sk (skW rfl rfl rfl rfl) ?_
            refine pkT (v := .sc (.bool true)) rfl rfl rfl rfl ?_
            refine pu (v := .sc _) rfl rfl (fun _ => rfl) ?_
            refine sk (skW rfl rfl rfl rfl) ?_
            refine sk (skW rfl rfl rfl rfl) ?_
            refine pkT (v := .sc (.bool true)) rfl rfl rfl rfl ?_
            refine pu (v := .sc _) rfl rfl (fun _ => rfl) ?_
            refine sk (skW rfl rfl rfl rfl) ?_
            refine sk (skW rfl rfl rfl rfl) ?_
            refine sk (skW rfl rfl rfl rfl) ?_
            refine sk (skW rfl rfl rfl rfl) ?_
            refine pkT (v := .sc (.bool true)) rfl rfl rfl rfl ?_
            refine pu (v := .sc _) rfl rfl (fun _ => rfl) ?_
            refine sk (skW rfl rfl rfl rfl) ?_
            refine sk (skW rfl rfl rfl rfl) ?_
            refine sk (skW rfl rfl rfl rfl) ?_
            refine sk (skW rfl rfl rfl rfl) ?_
            refine pkT (v := .sc (.bool true)) rfl rfl rfl rfl ?_
            refine RunC.fin ?_
            have hR := Option.some.inj hR; subst hR
            exact Weak.turnL [(100, 0), (304, 0), (400, 0)] [] rfl rfl (tc (.sc _) (tc (.sc _) (tc (.sc _) (tc (.sc _) (tc trR1 (tc (trP' rfl rfl rfl rfl) (tc (trP' rfl rfl rfl rfl) (tc (.sc _) (tc (.sc _) (tc (trP' rfl rfl rfl rfl) (tc (.sc _) tn))))))))))) (mc rfl (.box rfl (.cons (.sc _) (.cons (.sc _) (.cons trR1 (.nil)))) rfl) (mc rfl (.box rfl (.cons (.sc _) (.cons (.sc _) (.cons trR1 (.nil)))) rfl) (mc rfl (.box rfl (.cons (.sc _) (.cons (.sc _) (.cons trR1 (.nil)))) rfl) mn)))
          · refine pu (v := .sc _) (wtG rfl rfl rfl h20) rfl (fun _ => rfl) ?_
            refine pu (v := .sc _) (wtG rfl rfl rfl h20) rfl (fun _ => rfl) ?_
            refine pkF (v := .sc (.bool (r10.2 != 0))) rfl rfl h20 rfl ?_
            refine pu (v := .sc _) rfl rfl (fun _ => rfl) ?_
            refine brR hR (fun h21 hR => ?_) fun h21 hR => ?_
            · refine sk (skW rfl rfl rfl h21) ?_
              refine sk (skW rfl rfl rfl h21) ?_
              refine pkT (v := .sc (.bool true)) rfl rfl h21 rfl ?_
              refine pu (v := .sc _) rfl rfl (fun _ => rfl) ?_
              refine sk (skW rfl rfl rfl rfl) ?_
              refine sk (skW rfl rfl rfl rfl) ?_
              refine pkT (v := .sc (.bool true)) rfl rfl rfl rfl ?_
              refine pu (v := .sc _) rfl rfl (fun _ => rfl) ?_
              refine sk (skW rfl rfl rfl rfl) ?_
              refine sk (skW rfl rfl rfl rfl) ?_
              refine sk (skW rfl rfl rfl rfl) ?_
              refine sk (skW rfl rfl rfl rfl) ?_
              refine pkT (v := .sc (.bool true)) rfl rfl rfl rfl ?_
              refine pu (v := .sc _) rfl rfl (fun _ => rfl) ?_
              refine sk (skW rfl rfl rfl rfl) ?_
              refine sk (skW rfl rfl rfl rfl) ?_
              refine sk (skW rfl rfl rfl rfl) ?_
              refine sk (skW rfl rfl rfl rfl) ?_
              refine pkT (v := .sc (.bool true)) rfl rfl rfl rfl ?_
              refine RunC.fin ?_
              have hR := Option.some.inj hR; subst hR
              exact Weak.turnL [(100, 0), (304, 0), (400, 0)] [] rfl rfl (tc (.sc _) (tc (.sc _) (tc (.sc _) (tc (.sc _) (tc trR1 (tc (trP' rfl rfl rfl rfl) (tc (trP' rfl rfl rfl rfl) (tc (.sc _) (tc (.sc _) (tc (trP' rfl rfl rfl rfl) (tc (.sc _) tn))))))))))) (mc rfl (.box rfl (.cons (.sc _) (.cons (.sc _) (.cons trR1 (.nil)))) rfl) (mc rfl (.box rfl (.cons (.sc _) (.cons (.sc _) (.cons trR1 (.nil)))) rfl) (mc rfl (.box rfl (.cons (.sc _) (.cons (.sc _) (.cons trR1 (.nil)))) rfl) mn)))
            · refine pu (v := .sc _) (wtG rfl rfl rfl h21) rfl (fun _ => rfl) ?_
              refine pu (v := .sc _) (wtG rfl rfl rfl h21) rfl (fun _ => rfl) ?_
              refine pkF (v := .sc (.bool (r13.2 != 0))) rfl rfl h21 rfl ?_
              refine pu (v := .sc _) rfl rfl (fun _ => rfl) ?_
              refine brR hR (fun h22 hR => ?_) fun h22 hR => ?_
              · refine sk (skW rfl rfl rfl h22) ?_
                refine sk (skW rfl rfl rfl h22) ?_
                refine pkT (v := .sc (.bool true)) rfl rfl h22 rfl ?_
                refine pu (v := .sc _) rfl rfl (fun _ => rfl) ?_
                refine sk (skW rfl rfl rfl rfl) ?_
                refine sk (skW rfl rfl rfl rfl) ?_
                refine sk (skW rfl rfl rfl rfl) ?_
                refine sk (skW rfl rfl rfl rfl) ?_
                refine pkT (v := .sc (.bool true)) rfl rfl rfl rfl ?_
                refine pu (v := .sc _) rfl rfl (fun _ => rfl) ?_
                refine sk (skW rfl rfl rfl rfl) ?_
                refine sk (skW rfl rfl rfl rfl) ?_
                refine sk (skW rfl rfl rfl rfl) ?_
                refine sk (skW rfl rfl rfl rfl) ?_
                refine pkT (v := .sc (.bool true)) rfl rfl rfl rfl ?_
                refine RunC.fin ?_
                have hR := Option.some.inj hR; subst hR
                exact Weak.turnL [(100, 0), (304, 0), (400, 0)] [] rfl rfl (tc (.sc _) (tc (.sc _) (tc (.sc _) (tc (.sc _) (tc trR1 (tc (trP' rfl rfl rfl rfl) (tc (trP' rfl rfl rfl rfl) (tc (.sc _) (tc (.sc _) (tc (trP' rfl rfl rfl rfl) (tc (.sc _) tn))))))))))) (mc rfl (.box rfl (.cons (.sc _) (.cons (.sc _) (.cons trR1 (.nil)))) rfl) (mc rfl (.box rfl (.cons (.sc _) (.cons (.sc _) (.cons trR1 (.nil)))) rfl) (mc rfl (.box rfl (.cons (.sc _) (.cons (.sc _) (.cons trR1 (.nil)))) rfl) mn)))
              · refine pu (v := .sc _) (wtG rfl rfl rfl h22) rfl (fun _ => rfl) ?_
                refine pu (v := .sc _) (wtG rfl rfl rfl h22) rfl (fun _ => rfl) ?_
                refine pkF (v := .sc (.bool (r14.2 != 0))) rfl rfl h22 rfl ?_
                refine pu (v := .sc _) rfl rfl (fun _ => rfl) ?_
                refine brR hR (fun h23 hR => ?_) fun h23 hR => ?_
                · refine sk (skW rfl rfl rfl h23) ?_
                  refine sk (skW rfl rfl rfl h23) ?_
                  refine sk (skW rfl rfl rfl h23) ?_
                  refine sk (skW rfl rfl rfl h23) ?_
                  refine pkT (v := .sc (.bool true)) rfl rfl h23 rfl ?_
                  refine pu (v := .sc _) rfl rfl (fun _ => rfl) ?_
                  refine sk (skW rfl rfl rfl rfl) ?_
                  refine sk (skW rfl rfl rfl rfl) ?_
                  refine sk (skW rfl rfl rfl rfl) ?_
                  refine sk (skW rfl rfl rfl rfl) ?_
                  refine pkT (v := .sc (.bool true)) rfl rfl rfl rfl ?_
                  refine RunC.fin ?_
                  have hR := Option.some.inj hR; subst hR
                  exact Weak.turnL [(100, 0), (304, 0), (400, 0)] [] rfl rfl (tc (.sc _) (tc (.sc _) (tc (.sc _) (tc (.sc _) (tc trR1 (tc (trP' rfl rfl rfl rfl) (tc (trP' rfl rfl rfl rfl) (tc (.sc _) (tc (.sc _) (tc (trP' rfl rfl rfl rfl) (tc (.sc _) tn))))))))))) (mc rfl (.box rfl (.cons (.sc _) (.cons (.sc _) (.cons trR1 (.nil)))) rfl) (mc rfl (.box rfl (.cons (.sc _) (.cons (.sc _) (.cons trR1 (.nil)))) rfl) (mc rfl (.box rfl (.cons (.sc _) (.cons (.sc _) (.cons trR1 (.nil)))) rfl) mn)))
                · refine ldB (v := .agg _) (wtG rfl rfl rfl h23) rfl rfl rfl ti33 rfl rfl ?_
                  refine ldB (v := .agg _) (wtG rfl rfl rfl h23) rfl rfl rfl ti33 rfl rfl ?_
                  obtain ⟨r24, hr24, hR⟩ := bindE hR
                  refine cls [] (wtG rfl rfl rfl h23) rfl cb11 (ok11 r8.1 r9.1 _ hr24) (.cons (.agg (.cons (.sc _) (.cons (.sc _) (.cons ldR' (.nil)))) rfl) (.cons (.agg (.cons (.sc _) (.cons (.sc _) (.cons ldR' (.nil)))) rfl) (.nil))) (.inr rfl) rfl ?_
                  refine pu (v := .sc _) (wtG rfl rfl rfl h23) rfl (fun _ => rfl) ?_
                  refine pkF (v := .sc (.bool (!r24))) rfl rfl h23 rfl ?_
                  refine pu (v := .sc _) rfl rfl (fun _ => rfl) ?_
                  refine brR hR (fun h25 hR => ?_) fun h25 hR => ?_
                  · refine sk (skW rfl rfl rfl h25) ?_
                    refine sk (skW rfl rfl rfl h25) ?_
                    refine sk (skW rfl rfl rfl h25) ?_
                    refine sk (skW rfl rfl rfl h25) ?_
                    refine pkT (v := .sc (.bool true)) rfl rfl h25 rfl ?_
                    refine RunC.fin ?_
                    have hR := Option.some.inj hR; subst hR
                    exact Weak.turnL [(100, 0), (304, 0), (400, 0)] [] rfl rfl (tc (.sc _) (tc (.sc _) (tc (.sc _) (tc (.sc _) (tc trR1 (tc (trP' rfl rfl rfl rfl) (tc (trP' rfl rfl rfl rfl) (tc (.sc _) (tc (.sc _) (tc (trP' rfl rfl rfl rfl) (tc (.sc _) tn))))))))))) (mc rfl (.box rfl (.cons (.sc _) (.cons (.sc _) (.cons trR1 (.nil)))) rfl) (mc rfl (.box rfl (.cons (.sc _) (.cons (.sc _) (.cons trR1 (.nil)))) rfl) (mc rfl (.box rfl (.cons (.sc _) (.cons (.sc _) (.cons trR1 (.nil)))) rfl) mn)))
                  · refine ldB (v := .agg _) (wtG rfl rfl rfl h25) rfl rfl rfl ti33 rfl rfl ?_
                    refine ldB (v := .agg _) (wtG rfl rfl rfl h25) rfl rfl rfl ti33 rfl rfl ?_
                    obtain ⟨r26, hr26, hR⟩ := bindE hR
                    refine cls [] (wtG rfl rfl rfl h25) rfl cb11 (ok11 r13.1 r4.1 _ hr26) (.cons (.agg (.cons (.sc _) (.cons (.sc _) (.cons ldR' (.nil)))) rfl) (.cons (.agg (.cons (.sc _) (.cons (.sc _) (.cons ldR' (.nil)))) rfl) (.nil))) (.inr rfl) rfl ?_
                    refine pu (v := .sc _) (wtG rfl rfl rfl h25) rfl (fun _ => rfl) ?_
                    refine pkF (v := .sc (.bool (!r26))) rfl rfl h25 rfl ?_
                    refine RunC.fin ?_
                    have hR := Option.some.inj hR; subst hR
                    exact Weak.turnL [(100, 0), (304, 0), (400, 0)] [] rfl rfl (tc (.sc _) (tc (.sc _) (tc (.sc _) (tc (.sc _) (tc trR1 (tc (trP' rfl rfl rfl rfl) (tc (trP' rfl rfl rfl rfl) (tc (.sc _) (tc (.sc _) (tc (trP' rfl rfl rfl rfl) (tc (.sc _) tn))))))))))) (mc rfl (.box rfl (.cons (.sc _) (.cons (.sc _) (.cons trR1 (.nil)))) rfl) (mc rfl (.box rfl (.cons (.sc _) (.cons (.sc _) (.cons trR1 (.nil)))) rfl) (mc rfl (.box rfl (.cons (.sc _) (.cons (.sc _) (.cons trR1 (.nil)))) rfl) mn)))
  · refine AWP.cd hR rfl (fun h27 hR => ?_) fun h27 hR => ?_
    · refine AWP.sq ?_
      refine AWP.rgC 7 rfl rfl ?_
      refine pu (v := .sc _) rfl rfl (fun _ => rfl) ?_
      refine RunC.fin ?_
      refine AWP.ret ?_
      refine rtT ?_
      have hR := Option.some.inj hR; subst hR
      exact hQ _ _ (LS.mk [(10, .sc (.bool false))] (lblks 0 []) 0) (.sc (.bool false)) [] (.inr rfl) (Weak.turnL [] [] rfl rfl (tc (.sc _) tn) mn) (ro1 (rvT (v := .sc (.bool false)) rfl)) rfl rfl (.sc _) pn
    · refine AWP.skip ?_
      refine skT ?_
      refine AWP.sq ?_
      refine AWP.joinX (fun z28 : Bool => LS.mk [(1, .sc (.int .i64 (w6 (r5 - 7)))), (2, .sc (.int .i64 (w6 (r6 - 7)))), (12, .sc (.int .i64 r1.1)), (13, .sc (.int .i64 r2.1)), (14, rowV (α := Int) true r3.1), (16, .ptr 0 0 0), (23, .ptr 1 0 0), (25, .sc (.int .i64 r11)), (26, .sc (.int .i64 r12)), (29, .ptr 2 0 0), (169, .sc (.bool z28))] (lblks 0 [boxB (α := Cells) true r4.1, boxB (α := Cells) true r10.1, boxB (α := Cells) true r14.1]) 3) hR (fun o28 hR => ?_) fun z28 hR => ?_
      · refine AWP.rgC 67 rfl rfl ?_
        refine fa rfl rfl ti33 rfl rfl ti31 rfl ?_
        refine ldB (v := rowV _ r10.1.At) rfl rfl rfl rfl ti31 rfl rfl ?_
        refine lenL (α := Bound) rfl rfl ti31 rfl ?_
        refine pu (v := .sc _) rfl rfl (fun _ => rfl) ?_
        refine pu (v := .sc _) rfl rfl (fun _ => rfl) ?_
        refine pu (v := .sc _) rfl rfl (fun _ => rfl) ?_
        refine pu (v := .sc _) rfl rfl (fun _ => rfl) ?_
        refine pu (v := .sc _) rfl rfl (fun _ => rfl) ?_
        refine brR hR (fun h29 hR => ?_) fun h29 hR => ?_
        · refine sk (skW rfl rfl rfl h29) ?_
          refine sk (skW rfl rfl rfl h29) ?_
          refine sk (skW rfl rfl rfl h29) ?_
          refine sk (skW rfl rfl rfl h29) ?_
          refine sk (skW rfl rfl rfl h29) ?_
          refine sk (skW rfl rfl rfl h29) ?_
          refine sk (skW rfl rfl rfl h29) ?_
          refine pkT (v := .sc (.bool true)) rfl rfl h29 rfl ?_
          refine RunC.fin ?_
          have hR := Option.some.inj hR; subst hR
          exact Weak.turnL [(0, 0), (1, 0), (2, 0)] [] rfl rfl (tc (.sc _) (tc (.sc _) (tc (.sc _) (tc (.sc _) (tc trR1 (tc (trP' rfl rfl rfl rfl) (tc (trP' rfl rfl rfl rfl) (tc (.sc _) (tc (.sc _) (tc (trP' rfl rfl rfl rfl) (tc (.sc _) tn))))))))))) (mc rfl (.box rfl (.cons (.sc _) (.cons (.sc _) (.cons trR1 (.nil)))) rfl) (mc rfl (.box rfl (.cons (.sc _) (.cons (.sc _) (.cons trR1 (.nil)))) rfl) (mc rfl (.box rfl (.cons (.sc _) (.cons (.sc _) (.cons trR1 (.nil)))) rfl) mn)))
        · refine fa (wtG rfl rfl rfl h29) rfl ti33 rfl rfl ti31 rfl ?_
          refine ldB (v := rowV _ r14.1.At) (wtG rfl rfl rfl h29) rfl rfl rfl ti31 rfl rfl ?_
          refine lenL (α := Bound) (wtG rfl rfl rfl h29) rfl ti31 rfl ?_
          refine pu (v := .sc _) (wtG rfl rfl rfl h29) rfl (fun _ => rfl) ?_
          refine pu (v := .sc _) (wtG rfl rfl rfl h29) rfl (fun _ => rfl) ?_
          refine pu (v := .sc _) (wtG rfl rfl rfl h29) rfl (fun _ => rfl) ?_
          refine pu (v := .sc _) (wtG rfl rfl rfl h29) rfl (fun _ => rfl) ?_
          refine pkF (v := .sc (.bool ((r14.1.At.length : Int) != (w6 (r1.1 * r2.1))))) rfl rfl h29 rfl ?_
          refine RunC.fin ?_
          have hR := Option.some.inj hR; subst hR
          exact Weak.turnL [(0, 0), (1, 0), (2, 0)] [] rfl rfl (tc (.sc _) (tc (.sc _) (tc (.sc _) (tc (.sc _) (tc trR1 (tc (trP' rfl rfl rfl rfl) (tc (trP' rfl rfl rfl rfl) (tc (.sc _) (tc (.sc _) (tc (trP' rfl rfl rfl rfl) (tc (.sc _) tn))))))))))) (mc rfl (.box rfl (.cons (.sc _) (.cons (.sc _) (.cons trR1 (.nil)))) rfl) (mc rfl (.box rfl (.cons (.sc _) (.cons (.sc _) (.cons trR1 (.nil)))) rfl) (mc rfl (.box rfl (.cons (.sc _) (.cons (.sc _) (.cons trR1 (.nil)))) rfl) mn)))
      · refine AWP.cd hR rfl (fun h30 hR => ?_) fun h30 hR => ?_
        · refine AWP.sq ?_
          refine AWP.rgC 7 rfl rfl ?_
          refine pu (v := .sc _) rfl rfl (fun _ => rfl) ?_
          refine RunC.fin ?_
          refine AWP.ret ?_
          refine rtT ?_
          have hR := Option.some.inj hR; subst hR
          exact hQ _ _ (LS.mk [(10, .sc (.bool false))] (lblks 0 []) 0) (.sc (.bool false)) [] (.inr rfl) (Weak.turnL [] [] rfl rfl (tc (.sc _) tn) mn) (ro1 (rvT (v := .sc (.bool false)) rfl)) rfl rfl (.sc _) pn
        · refine AWP.skip ?_
          refine skT ?_
          refine AWP.sq ?_
          refine AWP.sq ?_
          refine AWP.rgC 19 rfl rfl ?_
          refine fa rfl rfl ti33 rfl rfl ti31 rfl ?_
          refine ldB (v := rowV _ r10.1.At) rfl rfl rfl rfl ti31 rfl rfl ?_
          refine lenL (α := Bound) rfl rfl ti31 rfl ?_
          refine pu (v := .sc _) rfl rfl (fun _ => rfl) ?_
          refine RunC.fin ?_
          refine AWP.loopK' (fun s31 : Int => LS.mk [(1, .sc (.int .i64 (w6 (r5 - 7)))), (2, .sc (.int .i64 (w6 (r6 - 7)))), (12, .sc (.int .i64 r1.1)), (13, .sc (.int .i64 r2.1)), (14, rowV (α := Int) true r3.1), (16, .ptr 0 0 0), (25, .sc (.int .i64 r11)), (26, .sc (.int .i64 r12)), (29, .ptr 1 0 0), (171, rowV (α := Bound) true r10.1.At), (172, .sc (.int .i64 (r10.1.At.length : Int))), (173, .sc (.int .i64 s31))] (lblks 0 [boxB (α := Cells) true r4.1, boxB (α := Cells) true r14.1]) 2) (fun z32 : Unit => LS.mk [(12, .sc (.int .i64 r1.1)), (14, rowV (α := Int) true r3.1), (25, .sc (.int .i64 r11)), (26, .sc (.int .i64 r12)), (29, .ptr 0 0 0)] (lblks 0 [boxB (α := Cells) true r14.1]) 1) (spykeep4_StackMoved.l1 r1 r2 r4 r5 r6 r10) hR (s0 := 0) (Weak.turnL [(0, 0), (2, 0)] [] rfl rfl (tc (.sc _) (tc (.sc _) (tc (.sc _) (tc (.sc _) (tc trR1 (tc (trP' rfl rfl rfl rfl) (tc (.sc _) (tc (.sc _) (tc (trP' rfl rfl rfl rfl) (tc trR1 (tc (.sc _) (tc (.sc _) tn)))))))))))) (mc rfl (.box rfl (.cons (.sc _) (.cons (.sc _) (.cons trR1 (.nil)))) rfl) (mc rfl (.box rfl (.cons (.sc _) (.cons (.sc _) (.cons trR1 (.nil)))) rfl) mn))) (fun s31 o31 hR hE31 => ?_) fun z32 hR => ?_
          · unfold spykeep4_StackMoved.l1 at hR
            refine AWP.sq ?_
            refine AWP.rgC 6 rfl rfl ?_
            refine pu (v := .sc _) rfl rfl (fun _ => rfl) ?_
            refine RunC.fin ?_
            refine AWP.sq ?_
            refine AWP.cd hR rfl (fun h33 hR => ?_) fun h33 hR => ?_
            · refine AWP.skip ?_
              refine skT ?_
              refine AWP.sq ?_
              refine AWP.block ?_
              refine AWP.sq ?_
              refine AWP.rgC 30 rfl rfl ?_
              refine pu (v := .sc _) rfl rfl (fun _ => rfl) ?_
              obtain ⟨h34, hR⟩ := chkE hR
              refine ixL (α := Bound) rfl rfl rfl ti31 rfl ti43 rfl h34 ?_
              refine ldR (v := .agg _) rfl rfl ti43 rfl ?_
              refine al (cs := [.sc (.int .i64 0), .sc (.int .i64 0), .sc (.bool false)]) 18 rfl rfl ti43 rfl rfl ?_
              refine pu (v := .sc _) rfl rfl (fun _ => rfl) ?_
              refine stB (cs' := [.sc (.int .i64 (gt r10.1.At s31).Lo), .sc (.int .i64 (gt r10.1.At s31).Hi), .sc (.bool (gt r10.1.At s31).Unknown)]) rfl rfl rfl rfl ti43 rfl rfl rfl rfl rfl ?_
              refine RunC.fin ?_
              refine AWP.sq ?_
              refine AWP.rgD 78 [0, 0, 3, 0, 15, 0, 0, 96, 0, 480, 31, 2047] ⟨[], [none, none, none, none, none, none, none, none, none, none, none, none]⟩ hmix (by kernel_rfl) rfl rfl ?_
              refine pu (v := .sc _) rfl rfl (fun _ => rfl) ?_
              refine pu (v := .sc _) rfl rfl (fun _ => rfl) ?_
              obtain ⟨h35, hR⟩ := chkE hR
              refine rm rfl rfl rfl h35 rfl ?_
              refine pu (v := .sc _) rfl rfl (fun _ => rfl) ?_
              refine pu (v := .sc _) rfl rfl (fun _ => rfl) ?_
              refine pu (v := .sc _) rfl rfl (fun _ => rfl) ?_
              refine pu (v := .sc _) rfl rfl (fun _ => rfl) ?_
              refine qu rfl rfl rfl h35 rfl ?_
              refine pu (v := .sc _) rfl rfl (fun _ => rfl) ?_
              refine pu (v := .sc _) rfl rfl (fun _ => rfl) ?_
              refine pu (v := .sc _) rfl rfl (fun _ => rfl) ?_
              refine pu (v := .sc _) rfl rfl (fun _ => rfl) ?_
              refine RunC.fin ?_
              refine AWP.joinX (fun z36 : Bool => LS.mk [(1, .sc (.int .i64 (w6 (r5 - 7)))), (2, .sc (.int .i64 (w6 (r6 - 7)))), (12, .sc (.int .i64 r1.1)), (13, .sc (.int .i64 r2.1)), (14, rowV (α := Int) true r3.1), (16, .ptr 0 0 0), (25, .sc (.int .i64 r11)), (26, .sc (.int .i64 r12)), (29, .ptr 1 0 0), (31, .sc (.int .i64 s31)), (32, .ptr 2 0 0), (35, .sc (.bool z36)), (171, rowV (α := Bound) true r10.1.At), (172, .sc (.int .i64 (r10.1.At.length : Int))), (173, .sc (.int .i64 s31))] (lblks 0 [boxB (α := Cells) true r4.1, boxB (α := Cells) true r14.1, boxB (α := Bound) true (gt r10.1.At s31)]) 3) hR (fun o36 hR => ?_) fun z36 hR => ?_
              · refine AWP.rgC 146 rfl rfl ?_
                refine pu (v := .sc _) rfl rfl (fun _ => rfl) ?_
                refine pu (v := .sc _) rfl rfl (fun _ => rfl) ?_
                refine pu (v := .sc _) rfl rfl (fun _ => rfl) ?_
                refine brR hR (fun h37 hR => ?_) fun h37 hR => ?_
                · refine sk (skW rfl rfl rfl h37) ?_
                  refine sk (skW rfl rfl rfl h37) ?_
                  refine sk (skW rfl rfl rfl h37) ?_
                  refine pkT (v := .sc (.bool true)) rfl rfl h37 rfl ?_
                  refine pu (v := .sc _) rfl rfl (fun _ => rfl) ?_
                  refine sk (skW rfl rfl rfl rfl) ?_
                  refine sk (skW rfl rfl rfl rfl) ?_
                  refine pkT (v := .sc (.bool true)) rfl rfl rfl rfl ?_
                  refine pu (v := .sc _) rfl rfl (fun _ => rfl) ?_
                  refine sk (skW rfl rfl rfl rfl) ?_
                  refine sk (skW rfl rfl rfl rfl) ?_
                  refine sk (skW rfl rfl rfl rfl) ?_
                  refine pkT (v := .sc (.bool true)) rfl rfl rfl rfl ?_
                  refine pu (v := .sc _) rfl rfl (fun _ => rfl) ?_
                  refine RunC.fin ?_
                  have hR := Option.some.inj hR; subst hR
                  exact Weak.turnL [(0, 0), (1, 0), (18, 0)] [] rfl rfl (tc (.sc _) (tc (.sc _) (tc (.sc _) (tc (.sc _) (tc trR1 (tc (trP' rfl rfl rfl rfl) (tc (.sc _) (tc (.sc _) (tc (trP' rfl rfl rfl rfl) (tc (.sc _) (tc (trP' rfl rfl rfl rfl) (tc (.sc _) (tc trR1 (tc (.sc _) (tc (.sc _) tn))))))))))))))) (mc rfl (.box rfl (.cons (.sc _) (.cons (.sc _) (.cons trR1 (.nil)))) rfl) (mc rfl (.box rfl (.cons (.sc _) (.cons (.sc _) (.cons trR1 (.nil)))) rfl) (mc rfl (.box rfl (.cons (.sc _) (.cons (.sc _) (.cons (.sc _) (.nil)))) rfl) mn)))
                · refine pu (v := .sc _) (wtG rfl rfl rfl h37) rfl (fun _ => rfl) ?_
                  refine pu (v := .sc _) (wtG rfl rfl rfl h37) rfl (fun _ => rfl) ?_
                  refine pu (v := .sc _) (wtG rfl rfl rfl h37) rfl (fun _ => rfl) ?_
                  refine pkF (v := .sc (.bool (decide ((w6 ((Int.tmod s31 r1.1) + (w6 (r5 - 7)))) ≥ r1.1)))) rfl rfl h37 rfl ?_
                  refine pu (v := .sc _) rfl rfl (fun _ => rfl) ?_
                  refine brR hR (fun h38 hR => ?_) fun h38 hR => ?_
                  · refine sk (skW rfl rfl rfl h38) ?_
                    refine sk (skW rfl rfl rfl h38) ?_
                    refine pkT (v := .sc (.bool true)) rfl rfl h38 rfl ?_
                    refine pu (v := .sc _) rfl rfl (fun _ => rfl) ?_
                    refine sk (skW rfl rfl rfl rfl) ?_
                    refine sk (skW rfl rfl rfl rfl) ?_
                    refine sk (skW rfl rfl rfl rfl) ?_
                    refine pkT (v := .sc (.bool true)) rfl rfl rfl rfl ?_
                    refine pu (v := .sc _) rfl rfl (fun _ => rfl) ?_
                    refine RunC.fin ?_
                    have hR := Option.some.inj hR; subst hR
                    exact Weak.turnL [(0, 0), (1, 0), (18, 0)] [] rfl rfl (tc (.sc _) (tc (.sc _) (tc (.sc _) (tc (.sc _) (tc trR1 (tc (trP' rfl rfl rfl rfl) (tc (.sc _) (tc (.sc _) (tc (trP' rfl rfl rfl rfl) (tc (.sc _) (tc (trP' rfl rfl rfl rfl) (tc (.sc _) (tc trR1 (tc (.sc _) (tc (.sc _) tn))))))))))))))) (mc rfl (.box rfl (.cons (.sc _) (.cons (.sc _) (.cons trR1 (.nil)))) rfl) (mc rfl (.box rfl (.cons (.sc _) (.cons (.sc _) (.cons trR1 (.nil)))) rfl) (mc rfl (.box rfl (.cons (.sc _) (.cons (.sc _) (.cons (.sc _) (.nil)))) rfl) mn)))
                  · refine pu (v := .sc _) (wtG rfl rfl rfl h38) rfl (fun _ => rfl) ?_
                    refine pu (v := .sc _) (wtG rfl rfl rfl h38) rfl (fun _ => rfl) ?_
                    refine pkF (v := .sc (.bool (decide ((w6 ((w6 (Int.tdiv s31 r1.1)) + (w6 (r6 - 7)))) < 0)))) rfl rfl h38 rfl ?_
                    refine pu (v := .sc _) rfl rfl (fun _ => rfl) ?_
                    refine brR hR (fun h39 hR => ?_) fun h39 hR => ?_
                    · refine sk (skW rfl rfl rfl h39) ?_
                      refine sk (skW rfl rfl rfl h39) ?_
                      refine sk (skW rfl rfl rfl h39) ?_
                      refine pkT (v := .sc (.bool true)) rfl rfl h39 rfl ?_
                      refine pu (v := .sc _) rfl rfl (fun _ => rfl) ?_
                      refine RunC.fin ?_
                      have hR := Option.some.inj hR; subst hR
                      exact Weak.turnL [(0, 0), (1, 0), (18, 0)] [] rfl rfl (tc (.sc _) (tc (.sc _) (tc (.sc _) (tc (.sc _) (tc trR1 (tc (trP' rfl rfl rfl rfl) (tc (.sc _) (tc (.sc _) (tc (trP' rfl rfl rfl rfl) (tc (.sc _) (tc (trP' rfl rfl rfl rfl) (tc (.sc _) (tc trR1 (tc (.sc _) (tc (.sc _) tn))))))))))))))) (mc rfl (.box rfl (.cons (.sc _) (.cons (.sc _) (.cons trR1 (.nil)))) rfl) (mc rfl (.box rfl (.cons (.sc _) (.cons (.sc _) (.cons trR1 (.nil)))) rfl) (mc rfl (.box rfl (.cons (.sc _) (.cons (.sc _) (.cons (.sc _) (.nil)))) rfl) mn)))
                    · refine pu (v := .sc _) (wtG rfl rfl rfl h39) rfl (fun _ => rfl) ?_
                      refine pu (v := .sc _) (wtG rfl rfl rfl h39) rfl (fun _ => rfl) ?_
                      obtain ⟨v40, ev40, hR⟩ := letE hR
                      refine pu (v := .sc _) (wtG rfl rfl rfl h39) rfl (fun _ => puB ev40) ?_
                      refine pkF (v := .sc (.bool v40)) rfl rfl h39 rfl ?_
                      refine pu (v := .sc _) rfl rfl (fun _ => rfl) ?_
                      refine RunC.fin ?_
                      have hR := Option.some.inj hR; subst hR
                      exact Weak.turnL [(0, 0), (1, 0), (18, 0)] [] rfl rfl (tc (.sc _) (tc (.sc _) (tc (.sc _) (tc (.sc _) (tc trR1 (tc (trP' rfl rfl rfl rfl) (tc (.sc _) (tc (.sc _) (tc (trP' rfl rfl rfl rfl) (tc (.sc _) (tc (trP' rfl rfl rfl rfl) (tc (.sc _) (tc trR1 (tc (.sc _) (tc (.sc _) tn))))))))))))))) (mc rfl (.box rfl (.cons (.sc _) (.cons (.sc _) (.cons trR1 (.nil)))) rfl) (mc rfl (.box rfl (.cons (.sc _) (.cons (.sc _) (.cons trR1 (.nil)))) rfl) (mc rfl (.box rfl (.cons (.sc _) (.cons (.sc _) (.cons (.sc _) (.nil)))) rfl) mn)))
              · refine AWP.joinX (fun z41 : Bool => LS.mk [(1, .sc (.int .i64 (w6 (r5 - 7)))), (2, .sc (.int .i64 (w6 (r6 - 7)))), (12, .sc (.int .i64 r1.1)), (13, .sc (.int .i64 r2.1)), (14, rowV (α := Int) true r3.1), (16, .ptr 0 0 0), (25, .sc (.int .i64 r11)), (26, .sc (.int .i64 r12)), (29, .ptr 1 0 0), (171, rowV (α := Bound) true r10.1.At), (172, .sc (.int .i64 (r10.1.At.length : Int))), (173, .sc (.int .i64 s31)), (222, .sc (.bool z41))] (lblks 0 [boxB (α := Cells) true r4.1, boxB (α := Cells) true r14.1]) 2) hR (fun o41 hR => ?_) fun z41 hR => ?_
                · refine AWP.rgD 79 [0, 1, 3, 7, 15, 31, 63, 127, 255, 511, 1023, 1023, 3071, 1023, 15359, 31743, 65535, 131071, 262143] ⟨[], [none, none, none, some [2], none, none, none, none, none, none, some [2], none, some [0], none, none, some [], none, none, none]⟩ hmix (by kernel_rfl) rfl rfl ?_
                  refine pu (v := .sc _) rfl rfl (fun _ => rfl) ?_
                  refine pu (v := .sc _) rfl rfl (fun _ => rfl) ?_
                  refine brR hR (fun h42 hR => ?_) fun h42 hR => ?_
                  · refine fa (wtG rfl rfl rfl h42) rfl ti43 rfl rfl ti4 rfl ?_
                    refine ldB (v := .sc _) (wtG rfl rfl rfl h42) rfl rfl rfl ti4 rfl rfl ?_
                    refine pu (v := .sc _) (wtG rfl rfl rfl h42) rfl (fun _ => rfl) ?_
                    refine pkT (v := .sc (.bool (!(gt r10.1.At s31).Unknown))) rfl rfl h42 rfl ?_
                    refine pu (v := .sc _) rfl rfl (fun _ => rfl) ?_
                    refine brR hR (fun h43 hR => ?_) fun h43 hR => ?_
                    · refine sk (skW rfl rfl rfl h43) ?_
                      refine sk (skW rfl rfl rfl h43) ?_
                      refine sk (skW rfl rfl rfl h43) ?_
                      refine sk (skW2 rfl rfl rfl) ?_
                      refine sk (skW2 rfl rfl rfl) ?_
                      refine sk (skW2 rfl rfl rfl) ?_
                      refine sk (skW2 rfl rfl rfl) ?_
                      refine sk (skW2 rfl rfl rfl) ?_
                      refine sk (skW2 rfl rfl rfl) ?_
                      refine sk (skW2 rfl rfl rfl) ?_
                      refine sk (skW rfl rfl rfl h43) ?_
                      refine pkT (v := .sc (.bool true)) rfl rfl h43 rfl ?_
                      refine RunC.fin ?_
                      have hR := Option.some.inj hR; subst hR
                      exact Weak.turnL [(0, 0), (1, 0)] [] rfl rfl (tc (.sc _) (tc (.sc _) (tc (.sc _) (tc (.sc _) (tc trR1 (tc (trP' rfl rfl rfl rfl) (tc (.sc _) (tc (.sc _) (tc (trP' rfl rfl rfl rfl) (tc trR1 (tc (.sc _) (tc (.sc _) (tc (.sc _) tn))))))))))))) (mc rfl (.box rfl (.cons (.sc _) (.cons (.sc _) (.cons trR1 (.nil)))) rfl) (mc rfl (.box rfl (.cons (.sc _) (.cons (.sc _) (.cons trR1 (.nil)))) rfl) mn))
                    · refine pu (v := .sc _) (wtG rfl rfl rfl h43) rfl (fun _ => rfl) ?_
                      refine pu (v := .sc _) (wtG rfl rfl rfl h43) rfl (fun _ => rfl) ?_
                      refine pu (v := .sc _) (wtG rfl rfl rfl h43) rfl (fun _ => rfl) ?_
                      refine brR hR (fun h44 hR => ?_) fun h44 hR => ?_
                      · refine ldB (v := .agg _) (wtG rfl rfl rfl h44) rfl rfl rfl ti43 rfl rfl ?_
                        refine fa (wtG rfl rfl rfl h44) rfl ti33 rfl rfl ti31 rfl ?_
                        refine ldB (v := rowV _ r4.1.At) (wtG rfl rfl rfl h44) rfl rfl rfl ti31 rfl rfl ?_
                        refine pu (v := .sc _) (wtG rfl rfl rfl h44) rfl (fun _ => rfl) ?_
                        obtain ⟨h45, hR⟩ := chkE hR
                        refine ixL (α := Bound) (wtG rfl rfl rfl h44) rfl rfl ti31 rfl ti43 rfl h45 ?_
                        refine ldR (v := .agg _) (wtG rfl rfl rfl h44) rfl ti43 rfl ?_
                        refine ns (cs := [.sc (.int .i64 (gt r10.1.At s31).Lo), .sc (.int .i64 (gt r10.1.At s31).Hi), .sc (.bool (gt r10.1.At s31).Unknown)]) (ds := [.sc (.int .i64 (gt r4.1.At s31).Lo), .sc (.int .i64 (gt r4.1.At s31).Hi), .sc (.bool (gt r4.1.At s31).Unknown)]) (wtG rfl rfl rfl h44) rfl rfl qa43 qg43 (qe43 _ _ _ _ _ _) ?_
                        refine pkT (v := .sc (.bool (!(((gt r10.1.At s31).Lo == (gt r4.1.At s31).Lo) && (((gt r10.1.At s31).Hi == (gt r4.1.At s31).Hi) && (((gt r10.1.At s31).Unknown == (gt r4.1.At s31).Unknown) && (true))))))) (wtG rfl rfl rfl h43) rfl h44 rfl ?_
                        refine pkF (v := .sc (.bool (!(((gt r10.1.At s31).Lo == (gt r4.1.At s31).Lo) && (((gt r10.1.At s31).Hi == (gt r4.1.At s31).Hi) && (((gt r10.1.At s31).Unknown == (gt r4.1.At s31).Unknown) && (true))))))) rfl rfl h43 rfl ?_
                        refine RunC.fin ?_
                        have hR := Option.some.inj hR; subst hR
                        exact Weak.turnL [(0, 0), (1, 0)] [] rfl rfl (tc (.sc _) (tc (.sc _) (tc (.sc _) (tc (.sc _) (tc trR1 (tc (trP' rfl rfl rfl rfl) (tc (.sc _) (tc (.sc _) (tc (trP' rfl rfl rfl rfl) (tc trR1 (tc (.sc _) (tc (.sc _) (tc (.sc _) tn))))))))))))) (mc rfl (.box rfl (.cons (.sc _) (.cons (.sc _) (.cons trR1 (.nil)))) rfl) (mc rfl (.box rfl (.cons (.sc _) (.cons (.sc _) (.cons trR1 (.nil)))) rfl) mn))
                      · refine sk (skW rfl rfl rfl h44) ?_
                        refine sk (skW rfl rfl rfl h44) ?_
                        refine sk (skW rfl rfl rfl h44) ?_
                        refine sk (skW rfl rfl rfl h44) ?_
                        refine sk (skW rfl rfl rfl h44) ?_
                        refine sk (skW rfl rfl rfl h44) ?_
                        refine sk (skW rfl rfl rfl h44) ?_
                        refine pkF (v := .sc (.bool false)) (wtG rfl rfl rfl h43) rfl h44 rfl ?_
                        refine pkF (v := .sc (.bool false)) rfl rfl h43 rfl ?_
                        refine RunC.fin ?_
                        have hR := Option.some.inj hR; subst hR
                        exact Weak.turnL [(0, 0), (1, 0)] [] rfl rfl (tc (.sc _) (tc (.sc _) (tc (.sc _) (tc (.sc _) (tc trR1 (tc (trP' rfl rfl rfl rfl) (tc (.sc _) (tc (.sc _) (tc (trP' rfl rfl rfl rfl) (tc trR1 (tc (.sc _) (tc (.sc _) (tc (.sc _) tn))))))))))))) (mc rfl (.box rfl (.cons (.sc _) (.cons (.sc _) (.cons trR1 (.nil)))) rfl) (mc rfl (.box rfl (.cons (.sc _) (.cons (.sc _) (.cons trR1 (.nil)))) rfl) mn))
                  · refine sk (skW rfl rfl rfl h42) ?_
                    refine sk (skW rfl rfl rfl h42) ?_
                    refine sk (skW rfl rfl rfl h42) ?_
                    refine pkF (v := .sc (.bool false)) rfl rfl h42 rfl ?_
                    refine pu (v := .sc _) rfl rfl (fun _ => rfl) ?_
                    refine pu (v := .sc _) (wtG rfl rfl rfl rfl) rfl (fun _ => rfl) ?_
                    refine pu (v := .sc _) (wtG rfl rfl rfl rfl) rfl (fun _ => rfl) ?_
                    refine pu (v := .sc _) (wtG rfl rfl rfl rfl) rfl (fun _ => rfl) ?_
                    refine brR hR (fun h46 hR => ?_) fun h46 hR => ?_
                    · refine ldB (v := .agg _) (wtG rfl rfl rfl h46) rfl rfl rfl ti43 rfl rfl ?_
                      refine fa (wtG rfl rfl rfl h46) rfl ti33 rfl rfl ti31 rfl ?_
                      refine ldB (v := rowV _ r4.1.At) (wtG rfl rfl rfl h46) rfl rfl rfl ti31 rfl rfl ?_
                      refine pu (v := .sc _) (wtG rfl rfl rfl h46) rfl (fun _ => rfl) ?_
                      obtain ⟨h47, hR⟩ := chkE hR
                      refine ixL (α := Bound) (wtG rfl rfl rfl h46) rfl rfl ti31 rfl ti43 rfl h47 ?_
                      refine ldR (v := .agg _) (wtG rfl rfl rfl h46) rfl ti43 rfl ?_
                      refine ns (cs := [.sc (.int .i64 (gt r10.1.At s31).Lo), .sc (.int .i64 (gt r10.1.At s31).Hi), .sc (.bool (gt r10.1.At s31).Unknown)]) (ds := [.sc (.int .i64 (gt r4.1.At s31).Lo), .sc (.int .i64 (gt r4.1.At s31).Hi), .sc (.bool (gt r4.1.At s31).Unknown)]) (wtG rfl rfl rfl h46) rfl rfl qa43 qg43 (qe43 _ _ _ _ _ _) ?_
                      refine pkT (v := .sc (.bool (!(((gt r10.1.At s31).Lo == (gt r4.1.At s31).Lo) && (((gt r10.1.At s31).Hi == (gt r4.1.At s31).Hi) && (((gt r10.1.At s31).Unknown == (gt r4.1.At s31).Unknown) && (true))))))) (wtG rfl rfl rfl rfl) rfl h46 rfl ?_
                      refine pkF (v := .sc (.bool (!(((gt r10.1.At s31).Lo == (gt r4.1.At s31).Lo) && (((gt r10.1.At s31).Hi == (gt r4.1.At s31).Hi) && (((gt r10.1.At s31).Unknown == (gt r4.1.At s31).Unknown) && (true))))))) rfl rfl rfl rfl ?_
                      refine RunC.fin ?_
                      have hR := Option.some.inj hR; subst hR
                      exact Weak.turnL [(0, 0), (1, 0)] [] rfl rfl (tc (.sc _) (tc (.sc _) (tc (.sc _) (tc (.sc _) (tc trR1 (tc (trP' rfl rfl rfl rfl) (tc (.sc _) (tc (.sc _) (tc (trP' rfl rfl rfl rfl) (tc trR1 (tc (.sc _) (tc (.sc _) (tc (.sc _) tn))))))))))))) (mc rfl (.box rfl (.cons (.sc _) (.cons (.sc _) (.cons trR1 (.nil)))) rfl) (mc rfl (.box rfl (.cons (.sc _) (.cons (.sc _) (.cons trR1 (.nil)))) rfl) mn))
                    · refine sk (skW rfl rfl rfl h46) ?_
                      refine sk (skW rfl rfl rfl h46) ?_
                      refine sk (skW rfl rfl rfl h46) ?_
                      refine sk (skW rfl rfl rfl h46) ?_
                      refine sk (skW rfl rfl rfl h46) ?_
                      refine sk (skW rfl rfl rfl h46) ?_
                      refine sk (skW rfl rfl rfl h46) ?_
                      refine pkF (v := .sc (.bool false)) (wtG rfl rfl rfl rfl) rfl h46 rfl ?_
                      refine pkF (v := .sc (.bool false)) rfl rfl rfl rfl ?_
                      refine RunC.fin ?_
                      have hR := Option.some.inj hR; subst hR
                      exact Weak.turnL [(0, 0), (1, 0)] [] rfl rfl (tc (.sc _) (tc (.sc _) (tc (.sc _) (tc (.sc _) (tc trR1 (tc (trP' rfl rfl rfl rfl) (tc (.sc _) (tc (.sc _) (tc (trP' rfl rfl rfl rfl) (tc trR1 (tc (.sc _) (tc (.sc _) (tc (.sc _) tn))))))))))))) (mc rfl (.box rfl (.cons (.sc _) (.cons (.sc _) (.cons trR1 (.nil)))) rfl) (mc rfl (.box rfl (.cons (.sc _) (.cons (.sc _) (.cons trR1 (.nil)))) rfl) mn))
                · refine AWP.cd hR rfl (fun h48 hR => ?_) fun h48 hR => ?_
                  · refine AWP.sq ?_
                    refine AWP.rgC 6 rfl rfl ?_
                    refine pu (v := .sc _) rfl rfl (fun _ => rfl) ?_
                    refine RunC.fin ?_
                    refine AWP.ret ?_
                    refine rtB ?_
                    refine rtT ?_
                    refine rtT ?_
                    refine rtB (rtT ?_)
                    replace hR := escL hR hE31
                    refine rtT ?_
                    have hR := Option.some.inj hR; subst hR
                    exact hQ _ _ (LS.mk [(10, .sc (.bool false))] (lblks 0 []) 0) (.sc (.bool false)) [] (.inr rfl) (Weak.turnL [] [] rfl rfl (tc (.sc _) tn) mn) (ro1 (rvT (v := .sc (.bool false)) rfl)) rfl rfl (.sc _) pn
                  · refine AWP.skip ?_
                    refine skB ?_
                    refine skT ?_
                    refine AWP.rgC 10 rfl rfl ?_
                    refine pu (v := .sc _) rfl rfl (fun _ => rfl) ?_
                    refine pu (v := .sc _) rfl rfl (fun _ => rfl) ?_
                    refine RunC.fin ?_
                    refine ⟨(w6 (s31 + 1)), (Option.some.inj hR).symm, ?_⟩
                    exact Weak.turnL [(0, 0), (1, 0)] [] rfl rfl (tc (.sc _) (tc (.sc _) (tc (.sc _) (tc (.sc _) (tc trR1 (tc (trP' rfl rfl rfl rfl) (tc (.sc _) (tc (.sc _) (tc (trP' rfl rfl rfl rfl) (tc trR1 (tc (.sc _) (tc (.sc _) tn)))))))))))) (mc rfl (.box rfl (.cons (.sc _) (.cons (.sc _) (.cons trR1 (.nil)))) rfl) (mc rfl (.box rfl (.cons (.sc _) (.cons (.sc _) (.cons trR1 (.nil)))) rfl) mn))
            · refine AWP.exit ?_
              refine exT ?_
              refine exT ?_
              refine exH (skT ?_)
              refine ⟨(), (Option.some.inj hR).symm, ?_⟩
              exact Weak.turnL [(1, 0)] [] rfl rfl (tc (.sc _) (tc trR1 (tc (.sc _) (tc (.sc _) (tc (trP' rfl rfl rfl rfl) tn))))) (mc rfl (.box rfl (.cons (.sc _) (.cons (.sc _) (.cons trR1 (.nil)))) rfl) mn)
          · refine skT ?_
            refine AWP.sq ?_
            refine AWP.sq ?_
            refine AWP.rgC 17 rfl rfl ?_
            refine fa rfl rfl ti33 rfl rfl ti31 rfl ?_
            refine ldB (v := rowV _ r14.1.At) rfl rfl rfl rfl ti31 rfl rfl ?_
            refine lenL (α := Bound) rfl rfl ti31 rfl ?_
            refine pu (v := .sc _) rfl rfl (fun _ => rfl) ?_
            refine RunC.fin ?_
            refine AWP.loopK' (fun s49 : Int => LS.mk [(12, .sc (.int .i64 r1.1)), (14, rowV (α := Int) true r3.1), (25, .sc (.int .i64 r11)), (26, .sc (.int .i64 r12)), (225, rowV (α := Bound) true r14.1.At), (226, .sc (.int .i64 (r14.1.At.length : Int))), (227, .sc (.int .i64 s49))] (lblks 0 []) 0) (fun z50 : Unit => LS.mk [] (lblks 0 []) 0) (spykeep4_StackMoved.l2 r1 r3 r11 r12 r14) hR (s0 := 0) (Weak.turnL [] [] rfl rfl (tc (.sc _) (tc trR1 (tc (.sc _) (tc (.sc _) (tc trR1 (tc (.sc _) (tc (.sc _) tn))))))) mn) (fun s49 o49 hR hE49 => ?_) fun z50 hR => ?_
            · unfold spykeep4_StackMoved.l2 at hR
              refine AWP.sq ?_
              refine AWP.rgC 4 rfl rfl ?_
              refine pu (v := .sc _) rfl rfl (fun _ => rfl) ?_
              refine RunC.fin ?_
              refine AWP.sq ?_
              refine AWP.cd hR rfl (fun h51 hR => ?_) fun h51 hR => ?_
              · refine AWP.skip ?_
                refine skT ?_
                refine AWP.joinS (fun z52 : Unit => LS.mk [(12, .sc (.int .i64 r1.1)), (14, rowV (α := Int) true r3.1), (25, .sc (.int .i64 r11)), (26, .sc (.int .i64 r12)), (225, rowV (α := Bound) true r14.1.At), (226, .sc (.int .i64 (r14.1.At.length : Int))), (227, .sc (.int .i64 s49))] (lblks 0 []) 0) hR (fun o52 hR hE52 => ?_) fun z52 hR => ?_
                · refine AWP.block ?_
                  refine AWP.sq ?_
                  refine AWP.rgC 28 rfl rfl ?_
                  refine pu (v := .sc _) rfl rfl (fun _ => rfl) ?_
                  obtain ⟨h53, hR⟩ := chkE hR
                  refine ixL (α := Bound) rfl rfl rfl ti31 rfl ti43 rfl h53 ?_
                  refine ldR (v := .agg _) rfl rfl ti43 rfl ?_
                  refine al (cs := [.sc (.int .i64 0), .sc (.int .i64 0), .sc (.bool false)]) 16 rfl rfl ti43 rfl rfl ?_
                  refine pu (v := .sc _) rfl rfl (fun _ => rfl) ?_
                  refine stB (cs' := [.sc (.int .i64 (gt r14.1.At s49).Lo), .sc (.int .i64 (gt r14.1.At s49).Hi), .sc (.bool (gt r14.1.At s49).Unknown)]) rfl rfl rfl rfl ti43 rfl rfl rfl rfl rfl ?_
                  refine RunC.fin ?_
                  refine AWP.sq ?_
                  refine AWP.sq ?_
                  refine AWP.rgC 36 rfl rfl ?_
                  refine fa rfl rfl ti43 rfl rfl ti4 rfl ?_
                  refine ldB (v := .sc _) rfl rfl rfl rfl ti4 rfl rfl ?_
                  refine RunC.fin ?_
                  refine AWP.cd hR rfl (fun h54 hR => ?_) fun h54 hR => ?_
                  · refine AWP.exit ?_
                    refine exT ?_
                    refine exH ?_
                    refine skT ?_
                    refine ⟨(), (Option.some.inj hR).symm, ?_⟩
                    exact Weak.turnL [] [] rfl rfl (tc (.sc _) (tc trR1 (tc (.sc _) (tc (.sc _) (tc trR1 (tc (.sc _) (tc (.sc _) tn))))))) mn
                  · refine AWP.skip ?_
                    refine skT ?_
                    refine AWP.sq ?_
                    refine AWP.rgC 40 rfl rfl ?_
                    refine pu (v := .sc _) rfl rfl (fun _ => rfl) ?_
                    refine RunC.fin ?_
                    refine AWP.sq ?_
                    refine AWP.sq ?_
                    refine AWP.rgC 112 rfl rfl ?_
                    refine pu (v := .sc _) rfl rfl (fun _ => rfl) ?_
                    refine pu (v := .sc _) rfl rfl (fun _ => rfl) ?_
                    refine pu (v := .sc _) rfl rfl (fun _ => rfl) ?_
                    refine pu (v := .sc _) rfl rfl (fun _ => rfl) ?_
                    refine pu (v := .sc _) rfl rfl (fun _ => rfl) ?_
                    refine pu (v := .sc _) rfl rfl (fun _ => rfl) ?_
                    refine pu (v := .sc _) rfl rfl (fun _ => rfl) ?_
                    refine pu (v := .sc _) rfl rfl (fun _ => rfl) ?_
                    refine pu (v := .sc _) rfl rfl (fun _ => rfl) ?_
                    refine pu (v := .sc _) rfl rfl (fun _ => rfl) ?_
                    refine pu (v := .sc _) rfl rfl (fun _ => rfl) ?_
                    refine pu (v := .sc _) rfl rfl (fun _ => rfl) ?_
                    refine pu (v := .sc _) rfl rfl (fun _ => rfl) ?_
                    refine pu (v := .sc _) rfl rfl (fun _ => rfl) ?_
                    refine pu (v := .sc _) rfl rfl (fun _ => rfl) ?_
                    refine pu (v := .sc _) rfl rfl (fun _ => rfl) ?_
                    refine buA (cs := [.sc (.int .i64 (w6 ((w6 (256 - r11)) * (w6 (256 - r12))))), .sc (.int .i64 (w6 (r11 * (w6 (256 - r12))))), .sc (.int .i64 (w6 ((w6 (256 - r11)) * r12))), .sc (.int .i64 (w6 (r11 * r12)))]) rfl ti44 rfl ti3 rfl rfl ?_
                    refine pu (v := .sc _) rfl rfl (fun _ => rfl) ?_
                    refine RunC.fin ?_
                    refine AWP.loopK' (fun s55 : Int × Int => LS.mk [(12, .sc (.int .i64 r1.1)), (14, rowV (α := Int) true r3.1), (25, .sc (.int .i64 r11)), (26, .sc (.int .i64 r12)), (36, .sc (.int .i64 s49)), (37, .ptr 0 0 0), (38, .sc (.int .i64 s55.1)), (225, rowV (α := Bound) true r14.1.At), (226, .sc (.int .i64 (r14.1.At.length : Int))), (227, .sc (.int .i64 s49)), (250, aggV (α := Int × Int × Int × Int) true (w6 ((w6 (256 - r11)) * (w6 (256 - r12))), w6 (r11 * (w6 (256 - r12))), w6 ((w6 (256 - r11)) * r12), w6 (r11 * r12))), (251, .sc (.int .i64 s55.2))] (lblks 0 [boxB (α := Bound) true (gt r14.1.At s49)]) 1) (fun z56 : Int => LS.mk [(12, .sc (.int .i64 r1.1)), (14, rowV (α := Int) true r3.1), (25, .sc (.int .i64 r11)), (26, .sc (.int .i64 r12)), (37, .ptr 0 0 0), (38, .sc (.int .i64 z56)), (225, rowV (α := Bound) true r14.1.At), (226, .sc (.int .i64 (r14.1.At.length : Int))), (227, .sc (.int .i64 s49))] (lblks 0 [boxB (α := Bound) true (gt r14.1.At s49)]) 1) (spykeep4_StackMoved.l3 r1 r3 r11 r12 s49) hR (s0 := (0, 0)) (Weak.turnL [(16, 0)] [] rfl rfl (tc (.sc _) (tc trR1 (tc (.sc _) (tc (.sc _) (tc (.sc _) (tc (trP' rfl rfl rfl rfl) (tc (.sc _) (tc trR1 (tc (.sc _) (tc (.sc _) (tc (.agg (.cons (.sc _) (.cons (.sc _) (.cons (.sc _) (.cons (.sc _) (.nil))))) rfl) (tc (.sc _) tn)))))))))))) (mc rfl (.box rfl (.cons (.sc _) (.cons (.sc _) (.cons (.sc _) (.nil)))) rfl) mn)) (fun s55 o55 hR hE55 => ?_) fun z56 hR => ?_
                    · unfold spykeep4_StackMoved.l3 at hR
                      refine AWP.sq ?_
                      refine AWP.rgC 5 rfl rfl ?_
                      refine pu (v := .sc _) rfl rfl (fun _ => rfl) ?_
                      refine RunC.fin ?_
                      refine AWP.sq ?_
                      refine AWP.cd hR rfl (fun h57 hR => ?_) fun h57 hR => ?_
                      · refine AWP.skip ?_
                        refine skT ?_
                        refine AWP.joinS (fun z58 : Int => LS.mk [(12, .sc (.int .i64 r1.1)), (14, rowV (α := Int) true r3.1), (25, .sc (.int .i64 r11)), (26, .sc (.int .i64 r12)), (36, .sc (.int .i64 s49)), (37, .ptr 0 0 0), (38, .sc (.int .i64 z58)), (225, rowV (α := Bound) true r14.1.At), (226, .sc (.int .i64 (r14.1.At.length : Int))), (227, .sc (.int .i64 s49)), (250, aggV (α := Int × Int × Int × Int) true (w6 ((w6 (256 - r11)) * (w6 (256 - r12))), w6 (r11 * (w6 (256 - r12))), w6 ((w6 (256 - r11)) * r12), w6 (r11 * r12))), (251, .sc (.int .i64 s55.2))] (lblks 0 [boxB (α := Bound) true (gt r14.1.At s49)]) 1) hR (fun o58 hR hE58 => ?_) fun z58 hR => ?_
                        · refine AWP.block ?_
                          refine AWP.sq ?_
                          refine AWP.rgC 21 rfl rfl ?_
                          refine pu (v := .sc _) rfl rfl (fun _ => rfl) ?_
                          obtain ⟨h59, hR⟩ := chkE hR
                          refine ixD (α := Int) (nw := true) (xs := ([w6 ((w6 (256 - r11)) * (w6 (256 - r12))), w6 (r11 * (w6 (256 - r12))), w6 ((w6 (256 - r11)) * r12), w6 (r11 * r12)] : List Int)) (v := .sc _) rfl rfl rfl rfl ti44 rfl ti3 h59 rfl rfl rfl ?_
                          refine pu (v := .sc _) rfl rfl (fun _ => rfl) ?_
                          refine pu (v := .sc _) rfl rfl (fun _ => rfl) ?_
                          refine RunC.fin ?_
                          refine AWP.sq ?_
                          refine AWP.rgD 77 [0, 0, 3, 0, 8, 31, 0, 0, 192, 0, 512, 1984, 63, 8191] ⟨[], [none, none, none, none, none, none, none, none, none, none, none, none, none, none]⟩ hmix (by kernel_rfl) rfl rfl ?_
                          refine pu (v := .sc _) rfl rfl (fun _ => rfl) ?_
                          refine pu (v := .sc _) rfl rfl (fun _ => rfl) ?_
                          obtain ⟨h60, hR⟩ := chkE hR
                          refine rm rfl rfl rfl h60 rfl ?_
                          refine pu (v := .sc _) rfl rfl (fun _ => rfl) ?_
                          refine rm rfl rfl rfl (by decide) rfl ?_
                          refine pu (v := .sc _) rfl rfl (fun _ => rfl) ?_
                          refine pu (v := .sc _) rfl rfl (fun _ => rfl) ?_
                          refine pu (v := .sc _) rfl rfl (fun _ => rfl) ?_
                          refine qu rfl rfl rfl h60 rfl ?_
                          refine pu (v := .sc _) rfl rfl (fun _ => rfl) ?_
                          refine qu rfl rfl rfl (by decide) rfl ?_
                          refine pu (v := .sc _) rfl rfl (fun _ => rfl) ?_
                          refine pu (v := .sc _) rfl rfl (fun _ => rfl) ?_
                          refine pu (v := .sc _) rfl rfl (fun _ => rfl) ?_
                          refine RunC.fin ?_
                          refine AWP.sq ?_
                          refine AWP.joinX (fun z61 : Bool => LS.mk [(12, .sc (.int .i64 r1.1)), (14, rowV (α := Int) true r3.1), (25, .sc (.int .i64 r11)), (26, .sc (.int .i64 r12)), (36, .sc (.int .i64 s49)), (37, .ptr 0 0 0), (38, .sc (.int .i64 s55.1)), (40, .sc (.int .i64 (gt ([w6 ((w6 (256 - r11)) * (w6 (256 - r12))), w6 (r11 * (w6 (256 - r12))), w6 ((w6 (256 - r11)) * r12), w6 (r11 * r12)] : List Int) s55.2))), (41, .sc (.int .i64 (w6 ((Int.tmod s49 r1.1) - (Int.tmod s55.2 2))))), (42, .sc (.int .i64 (w6 ((w6 (Int.tdiv s49 r1.1)) - (w6 (Int.tdiv s55.2 2)))))), (225, rowV (α := Bound) true r14.1.At), (226, .sc (.int .i64 (r14.1.At.length : Int))), (227, .sc (.int .i64 s49)), (250, aggV (α := Int × Int × Int × Int) true (w6 ((w6 (256 - r11)) * (w6 (256 - r12))), w6 (r11 * (w6 (256 - r12))), w6 ((w6 (256 - r11)) * r12), w6 (r11 * r12))), (251, .sc (.int .i64 s55.2)), (276, .sc (.bool z61))] (lblks 0 [boxB (α := Bound) true (gt r14.1.At s49)]) 1) hR (fun o61 hR => ?_) fun z61 hR => ?_
                          · refine AWP.rgC 117 rfl rfl ?_
                            refine pu (v := .sc _) rfl rfl (fun _ => rfl) ?_
                            obtain ⟨v62, ev62, hR⟩ := letE hR
                            refine pu (v := .sc _) rfl rfl (fun _ => puB ev62) ?_
                            refine pu (v := .sc _) rfl rfl (fun _ => rfl) ?_
                            refine brR hR (fun h63 hR => ?_) fun h63 hR => ?_
                            · refine pu (v := .sc _) (wtG rfl rfl rfl h63) rfl (fun _ => rfl) ?_
                              refine pu (v := .sc _) (wtG rfl rfl rfl h63) rfl (fun _ => rfl) ?_
                              refine pu (v := .sc _) (wtG rfl rfl rfl h63) rfl (fun _ => rfl) ?_
                              refine brR hR (fun h64 hR => ?_) fun h64 hR => ?_
                              · refine sk (skW rfl rfl rfl h64) ?_
                                refine sk (skW rfl rfl rfl h64) ?_
                                refine pkT (v := .sc (.bool true)) (wtG rfl rfl rfl h63) rfl h64 rfl ?_
                                refine pkT (v := .sc (.bool true)) rfl rfl h63 rfl ?_
                                refine RunC.fin ?_
                                have hR := Option.some.inj hR; subst hR
                                exact Weak.turnL [(0, 0)] [] rfl rfl (tc (.sc _) (tc trR1 (tc (.sc _) (tc (.sc _) (tc (.sc _) (tc (trP' rfl rfl rfl rfl) (tc (.sc _) (tc (.sc _) (tc (.sc _) (tc (.sc _) (tc trR1 (tc (.sc _) (tc (.sc _) (tc (.agg (.cons (.sc _) (.cons (.sc _) (.cons (.sc _) (.cons (.sc _) (.nil))))) rfl) (tc (.sc _) (tc (.sc _) tn)))))))))))))))) (mc rfl (.box rfl (.cons (.sc _) (.cons (.sc _) (.cons (.sc _) (.nil)))) rfl) mn)
                              · refine pu (v := .sc _) (wtG rfl rfl rfl h64) rfl (fun _ => rfl) ?_
                                obtain ⟨v65, ev65, hR⟩ := letE hR
                                refine pu (v := .sc _) (wtG rfl rfl rfl h64) rfl (fun _ => puB ev65) ?_
                                refine pkF (v := .sc (.bool v65)) (wtG rfl rfl rfl h63) rfl h64 rfl ?_
                                refine pkT (v := .sc (.bool v65)) rfl rfl h63 rfl ?_
                                refine RunC.fin ?_
                                have hR := Option.some.inj hR; subst hR
                                exact Weak.turnL [(0, 0)] [] rfl rfl (tc (.sc _) (tc trR1 (tc (.sc _) (tc (.sc _) (tc (.sc _) (tc (trP' rfl rfl rfl rfl) (tc (.sc _) (tc (.sc _) (tc (.sc _) (tc (.sc _) (tc trR1 (tc (.sc _) (tc (.sc _) (tc (.agg (.cons (.sc _) (.cons (.sc _) (.cons (.sc _) (.cons (.sc _) (.nil))))) rfl) (tc (.sc _) (tc (.sc _) tn)))))))))))))))) (mc rfl (.box rfl (.cons (.sc _) (.cons (.sc _) (.cons (.sc _) (.nil)))) rfl) mn)
                            · refine sk (skW rfl rfl rfl h63) ?_
                              refine sk (skW rfl rfl rfl h63) ?_
                              refine sk (skW rfl rfl rfl h63) ?_
                              refine sk (skW2 rfl rfl rfl) ?_
                              refine sk (skW2 rfl rfl rfl) ?_
                              refine sk (skW rfl rfl rfl h63) ?_
                              refine pkF (v := .sc (.bool false)) rfl rfl h63 rfl ?_
                              refine RunC.fin ?_
                              have hR := Option.some.inj hR; subst hR
                              exact Weak.turnL [(0, 0)] [] rfl rfl (tc (.sc _) (tc trR1 (tc (.sc _) (tc (.sc _) (tc (.sc _) (tc (trP' rfl rfl rfl rfl) (tc (.sc _) (tc (.sc _) (tc (.sc _) (tc (.sc _) (tc trR1 (tc (.sc _) (tc (.sc _) (tc (.agg (.cons (.sc _) (.cons (.sc _) (.cons (.sc _) (.cons (.sc _) (.nil))))) rfl) (tc (.sc _) (tc (.sc _) tn)))))))))))))))) (mc rfl (.box rfl (.cons (.sc _) (.cons (.sc _) (.cons (.sc _) (.nil)))) rfl) mn)
                          · refine AWP.cd hR rfl (fun h66 hR => ?_) fun h66 hR => ?_
                            · refine AWP.sq ?_
                              refine AWP.rgC 5 rfl rfl ?_
                              refine pu (v := .sc _) rfl rfl (fun _ => rfl) ?_
                              refine RunC.fin ?_
                              refine AWP.ret ?_
                              refine rtT ?_
                              refine rtB ?_
                              refine rtT ?_
                              replace hR := escJ hR hE58
                              refine rtT ?_
                              refine rtB (rtT ?_)
                              replace hR := escL hR hE55
                              refine rtT ?_
                              refine rtB ?_
                              refine rtT ?_
                              replace hR := escJ hR hE52
                              refine rtT ?_
                              refine rtB (rtT ?_)
                              replace hR := escL hR hE49
                              refine rtT ?_
                              have hR := Option.some.inj hR; subst hR
                              exact hQ _ _ (LS.mk [(10, .sc (.bool false))] (lblks 0 []) 0) (.sc (.bool false)) [] (.inr rfl) (Weak.turnL [] [] rfl rfl (tc (.sc _) tn) mn) (ro1 (rvT (v := .sc (.bool false)) rfl)) rfl rfl (.sc _) pn
                            · refine AWP.skip ?_
                              refine skT ?_
                              refine AWP.sq ?_
                              refine AWP.rgC 9 rfl rfl ?_
                              refine pu (v := .sc _) rfl rfl (fun _ => rfl) ?_
                              obtain ⟨v67, ev67, hR⟩ := letE hR
                              refine pu (v := .sc _) rfl rfl (fun _ => puB ev67) ?_
                              refine RunC.fin ?_
                              refine AWP.cd hR rfl (fun h68 hR => ?_) fun h68 hR => ?_
                              · refine AWP.rgC 61 rfl rfl ?_
                                refine pu (v := .sc _) rfl rfl (fun _ => rfl) ?_
                                refine pu (v := .sc _) rfl rfl (fun _ => rfl) ?_
                                refine pu (v := rowV _ r3.1) rfl rfl (fun _ => rfl) ?_
                                refine pu (v := .sc _) rfl rfl (fun _ => rfl) ?_
                                refine pu (v := .sc _) rfl rfl (fun _ => rfl) ?_
                                obtain ⟨v69, ev69, hR⟩ := letE hR
                                refine pu (v := .sc _) rfl rfl (fun _ => puI ev69) ?_
                                refine pu (v := .sc _) rfl rfl (fun _ => rfl) ?_
                                refine pu (v := .sc _) rfl rfl (fun _ => rfl) ?_
                                obtain ⟨h70, hR⟩ := chkE hR
                                refine ixL (α := Int) rfl rfl rfl ti27 rfl ti28 rfl h70 ?_
                                refine ldR (v := .sc _) rfl rfl ti28 rfl ?_
                                obtain ⟨v71, ev71, hR⟩ := letE hR
                                refine pu (v := .sc _) rfl rfl (fun _ => puI ev71) ?_
                                refine pu (v := .sc _) rfl rfl (fun _ => rfl) ?_
                                refine pu (v := .sc _) rfl rfl (fun _ => rfl) ?_
                                refine RunC.blk ?_
                                refine RunC.fin ?_
                                refine ⟨(w6 (s55.1 + v71)), (Option.some.inj hR).symm, ?_⟩
                                exact Weak.turnL [(0, 0)] [] rfl rfl (tc (.sc _) (tc trR1 (tc (.sc _) (tc (.sc _) (tc (.sc _) (tc (trP' rfl rfl rfl rfl) (tc (.sc _) (tc trR1 (tc (.sc _) (tc (.sc _) (tc (.agg (.cons (.sc _) (.cons (.sc _) (.cons (.sc _) (.cons (.sc _) (.nil))))) rfl) (tc (.sc _) tn)))))))))))) (mc rfl (.box rfl (.cons (.sc _) (.cons (.sc _) (.cons (.sc _) (.nil)))) rfl) mn)
                              · refine AWP.skip ?_
                                refine skB ?_
                                refine skT ?_
                                refine ⟨s55.1, (Option.some.inj hR).symm, ?_⟩
                                exact Weak.turnL [(0, 0)] [] rfl rfl (tc (.sc _) (tc trR1 (tc (.sc _) (tc (.sc _) (tc (.sc _) (tc (trP' rfl rfl rfl rfl) (tc (.sc _) (tc trR1 (tc (.sc _) (tc (.sc _) (tc (.agg (.cons (.sc _) (.cons (.sc _) (.cons (.sc _) (.cons (.sc _) (.nil))))) rfl) (tc (.sc _) tn)))))))))))) (mc rfl (.box rfl (.cons (.sc _) (.cons (.sc _) (.cons (.sc _) (.nil)))) rfl) mn)
                        · refine AWP.rgC 9 rfl rfl ?_
                          refine pu (v := .sc _) rfl rfl (fun _ => rfl) ?_
                          refine pu (v := .sc _) rfl rfl (fun _ => rfl) ?_
                          refine RunC.fin ?_
                          refine ⟨(z58, w6 (s55.2 + 1)), (Option.some.inj hR).symm, ?_⟩
                          exact Weak.turnL [(0, 0)] [] rfl rfl (tc (.sc _) (tc trR1 (tc (.sc _) (tc (.sc _) (tc (.sc _) (tc (trP' rfl rfl rfl rfl) (tc (.sc _) (tc trR1 (tc (.sc _) (tc (.sc _) (tc (.agg (.cons (.sc _) (.cons (.sc _) (.cons (.sc _) (.cons (.sc _) (.nil))))) rfl) (tc (.sc _) tn)))))))))))) (mc rfl (.box rfl (.cons (.sc _) (.cons (.sc _) (.cons (.sc _) (.nil)))) rfl) mn)
                      · refine AWP.exit ?_
                        refine exT ?_
                        refine exT ?_
                        refine exH (skT ?_)
                        refine ⟨s55.1, (Option.some.inj hR).symm, ?_⟩
                        exact Weak.turnL [(0, 0)] [] rfl rfl (tc (.sc _) (tc trR1 (tc (.sc _) (tc (.sc _) (tc (trP' rfl rfl rfl rfl) (tc (.sc _) (tc trR1 (tc (.sc _) (tc (.sc _) tn))))))))) (mc rfl (.box rfl (.cons (.sc _) (.cons (.sc _) (.cons (.sc _) (.nil)))) rfl) mn)
                    · refine skT ?_
                      refine AWP.joinX (fun z72 : Bool => LS.mk [(12, .sc (.int .i64 r1.1)), (14, rowV (α := Int) true r3.1), (25, .sc (.int .i64 r11)), (26, .sc (.int .i64 r12)), (225, rowV (α := Bound) true r14.1.At), (226, .sc (.int .i64 (r14.1.At.length : Int))), (227, .sc (.int .i64 s49)), (303, .sc (.bool z72))] (lblks 0 []) 0) hR (fun o72 hR => ?_) fun z72 hR => ?_
                      · refine AWP.rgC 49 rfl rfl ?_
                        refine fa rfl rfl ti43 rfl rfl ti28 rfl ?_
                        refine ldB (v := .sc _) rfl rfl rfl rfl ti28 rfl rfl ?_
                        refine pu (v := .sc _) rfl rfl (fun _ => rfl) ?_
                        refine pu (v := .sc _) rfl rfl (fun _ => rfl) ?_
                        refine pu (v := .sc _) rfl rfl (fun _ => rfl) ?_
                        refine pu (v := .sc _) rfl rfl (fun _ => rfl) ?_
                        refine brR hR (fun h73 hR => ?_) fun h73 hR => ?_
                        · refine sk (skW rfl rfl rfl h73) ?_
                          refine sk (skW rfl rfl rfl h73) ?_
                          refine sk (skW rfl rfl rfl h73) ?_
                          refine sk (skW rfl rfl rfl h73) ?_
                          refine sk (skW rfl rfl rfl h73) ?_
                          refine pkT (v := .sc (.bool true)) rfl rfl h73 rfl ?_
                          refine RunC.fin ?_
                          have hR := Option.some.inj hR; subst hR
                          exact Weak.turnL [] [] rfl rfl (tc (.sc _) (tc trR1 (tc (.sc _) (tc (.sc _) (tc trR1 (tc (.sc _) (tc (.sc _) (tc (.sc _) tn)))))))) mn
                        · refine pu (v := .sc _) (wtG rfl rfl rfl h73) rfl (fun _ => rfl) ?_
                          refine fa (wtG rfl rfl rfl h73) rfl ti43 rfl rfl ti28 rfl ?_
                          refine ldB (v := .sc _) (wtG rfl rfl rfl h73) rfl rfl rfl ti28 rfl rfl ?_
                          refine pu (v := .sc _) (wtG rfl rfl rfl h73) rfl (fun _ => rfl) ?_
                          refine pu (v := .sc _) (wtG rfl rfl rfl h73) rfl (fun _ => rfl) ?_
                          refine pkF (v := .sc (.bool (decide (z56 > (w6 ((gt r14.1.At s49).Hi * 65536)))))) rfl rfl h73 rfl ?_
                          refine RunC.fin ?_
                          have hR := Option.some.inj hR; subst hR
                          exact Weak.turnL [] [] rfl rfl (tc (.sc _) (tc trR1 (tc (.sc _) (tc (.sc _) (tc trR1 (tc (.sc _) (tc (.sc _) (tc (.sc _) tn)))))))) mn
                      · refine AWP.cd hR rfl (fun h74 hR => ?_) fun h74 hR => ?_
                        · refine AWP.sq ?_
                          refine AWP.rgC 4 rfl rfl ?_
                          refine pu (v := .sc _) rfl rfl (fun _ => rfl) ?_
                          refine RunC.fin ?_
                          refine AWP.ret ?_
                          refine rtB ?_
                          refine rtT ?_
                          replace hR := escJ hR hE52
                          refine rtT ?_
                          refine rtB (rtT ?_)
                          replace hR := escL hR hE49
                          refine rtT ?_
                          have hR := Option.some.inj hR; subst hR
                          exact hQ _ _ (LS.mk [(10, .sc (.bool false))] (lblks 0 []) 0) (.sc (.bool false)) [] (.inr rfl) (Weak.turnL [] [] rfl rfl (tc (.sc _) tn) mn) (ro1 (rvT (v := .sc (.bool false)) rfl)) rfl rfl (.sc _) pn
                        · refine AWP.skip ?_
                          refine skB ?_
                          refine skT ?_
                          refine ⟨(), (Option.some.inj hR).symm, ?_⟩
                          exact Weak.turnL [] [] rfl rfl (tc (.sc _) (tc trR1 (tc (.sc _) (tc (.sc _) (tc trR1 (tc (.sc _) (tc (.sc _) tn))))))) mn
                · refine AWP.rgC 8 rfl rfl ?_
                  refine pu (v := .sc _) rfl rfl (fun _ => rfl) ?_
                  refine pu (v := .sc _) rfl rfl (fun _ => rfl) ?_
                  refine RunC.fin ?_
                  refine ⟨(w6 (s49 + 1)), (Option.some.inj hR).symm, ?_⟩
                  exact Weak.turnL [] [] rfl rfl (tc (.sc _) (tc trR1 (tc (.sc _) (tc (.sc _) (tc trR1 (tc (.sc _) (tc (.sc _) tn))))))) mn
              · refine AWP.exit ?_
                refine exT ?_
                refine exT ?_
                refine exH (skT ?_)
                refine ⟨(), (Option.some.inj hR).symm, ?_⟩
                exact Weak.turnL [] [] rfl rfl tn mn
            · refine skT ?_
              refine AWP.sq ?_
              refine AWP.rgC 4 rfl rfl ?_
              refine pu (v := .sc _) rfl rfl (fun _ => rfl) ?_
              refine RunC.fin ?_
              refine AWP.ret ?_
              have hR := Option.some.inj hR; subst hR
              exact hQ _ _ (LS.mk [(10, .sc (.bool true))] (lblks 0 []) 0) (.sc (.bool true)) [] (.inr rfl) (Weak.turnL [] [] rfl rfl (tc (.sc _) tn) mn) (ro1 (rvT (v := .sc (.bool true)) rfl)) rfl rfl (.sc _) pn
end Go.Proofs.Stm
