/- Each function of the program computes its plain function. Conditions: as each theorem states them. -/
import Derived.Test.YtadepbpacnhjaaaA4
import Derived.WalkKit
import Derived.Deep.WholeRow
import Derived.Test.YtadepbpacnhjaaaT
import Derived.Test.YtadepbpacnhjaaaH
import Derived.Test.YtadepbpacnhjaaaS
import Derived.Test.YtadepbpacnhjaaaF
namespace Go.Proofs.Crs
open Go Go.Abs Lf
set_option linter.unusedVariables false
set_option linter.unusedSimpArgs false
set_option maxRecDepth 100000
set_option maxHeartbeats 1000000
theorem ok13 (c : change_Change) (r : Bool) (hR : spykeep4_ChangeRowsSame_1 c = some r) : FnP Try.prog 13 [aggV false c] (.sc (.bool r)) := by
  refine fnP_of (FnX.walk Try.func13 rfl 11 0 (by simp [Try.ntmps13]) rfl fun W S F Q hQ => ?_)
  unfold spykeep4_ChangeRowsSame_1 at hR
  refine AWP.sq ?_
  refine AWP.rgC 8 rfl rfl ?_
  refine bx (cs := _) 0 rfl rfl rfl ?_
  refine pu (v := .sc _) rfl rfl (fun _ => rfl) ?_
  refine RunC.fin ?_
  refine AWP.joinX (fun z1 : Bool => LS.mk [(2, .sc (.bool z1))] (lblks 0 []) 0) hR (fun o1 hR => ?_) fun z1 hR => ?_
  · refine AWP.rgC 44 rfl rfl ?_
    refine fa rfl rfl ti55 rfl rfl ti3 rfl ?_
    refine ldB (v := .sc _) rfl rfl rfl rfl ti3 rfl rfl ?_
    refine pu (v := .sc _) rfl rfl (fun _ => rfl) ?_
    refine pu (v := .sc _) rfl rfl (fun _ => rfl) ?_
    refine brR hR (fun h2 hR => ?_) fun h2 hR => ?_
    · refine fa (wtG rfl rfl rfl h2) rfl ti55 rfl rfl ti3 rfl ?_
      refine ldB (v := .sc _) (wtG rfl rfl rfl h2) rfl rfl rfl ti3 rfl rfl ?_
      refine pu (v := .sc _) (wtG rfl rfl rfl h2) rfl (fun _ => rfl) ?_
      refine pkT (v := .sc (.bool (c.Kind != 8))) rfl rfl h2 rfl ?_
      refine pu (v := .sc _) rfl rfl (fun _ => rfl) ?_
      refine RunC.fin ?_
      have hR := Option.some.inj hR; subst hR
      exact Weak.turnL [] [] rfl rfl (tc (.sc _) tn) mn
    · refine sk (skW rfl rfl rfl h2) ?_
      refine sk (skW rfl rfl rfl h2) ?_
      refine sk (skW rfl rfl rfl h2) ?_
      refine pkF (v := .sc (.bool false)) rfl rfl h2 rfl ?_
      refine pu (v := .sc _) rfl rfl (fun _ => rfl) ?_
      refine RunC.fin ?_
      have hR := Option.some.inj hR; subst hR
      exact Weak.turnL [] [] rfl rfl (tc (.sc _) tn) mn
  · refine AWP.ret ?_
    have hR := Option.some.inj hR; subst hR
    exact hQ _ _ (LS.mk [(2, .sc (.bool z1))] (lblks 0 []) 0) (.sc (.bool z1)) [] (.inr rfl) (Weak.turnL [] [] rfl rfl (tc (.sc _) tn) mn) (ro1 (rvT (v := .sc (.bool z1)) rfl)) rfl rfl (.sc _) pn
theorem ok14 (x : Int) (n : Int) (r : Int) (hR : spymake_Below x n = some r) : FnP Try.prog 14 [.sc (.int .i64 x), .sc (.int .i64 n)] (.sc (.int .i64 r)) := by
  refine fnP_of (FnX.walk Try.func14 rfl 16 0 (by simp [Try.ntmps14]) rfl fun W S F Q hQ => ?_)
  unfold spymake_Below at hR
  refine AWP.sq ?_
  refine AWP.rgC 4 rfl rfl ?_
  refine pu (v := .sc _) rfl rfl (fun _ => rfl) ?_
  refine RunC.fin ?_
  refine AWP.sq ?_
  refine AWP.sq ?_
  refine AWP.rgC 12 rfl rfl ?_
  refine pu (v := .sc _) rfl rfl (fun _ => rfl) ?_
  refine pu (v := .sc _) rfl rfl (fun _ => rfl) ?_
  refine RunC.fin ?_
  refine AWP.cd hR rfl (fun h1 hR => ?_) fun h1 hR => ?_
  · refine AWP.sq ?_
    refine AWP.rgC 16 rfl rfl ?_
    refine pu (v := .sc _) rfl rfl (fun _ => rfl) ?_
    refine RunC.fin ?_
    refine AWP.ret ?_
    refine rtT ?_
    have hR := Option.some.inj hR; subst hR
    exact hQ _ _ (LS.mk [(4, .sc (.int .i64 0))] (lblks 0 []) 0) (.sc (.int .i64 0)) [] (.inr rfl) (Weak.turnL [] [] rfl rfl (tc (.sc _) tn) mn) (ro1 (rvT (v := .sc (.int .i64 0)) rfl)) rfl rfl (.sc _) pn
  · refine AWP.skip ?_
    refine skT ?_
    refine AWP.sq ?_
    refine AWP.rgC 28 rfl rfl ?_
    refine pu (v := .sc _) rfl rfl (fun _ => rfl) ?_
    refine pu (v := .sc _) rfl rfl (fun _ => rfl) ?_
    obtain ⟨h2, hR⟩ := chkE hR
    refine rm rfl rfl rfl h2 rfl ?_
    refine pu (v := .sc _) rfl rfl (fun _ => rfl) ?_
    refine RunC.fin ?_
    refine AWP.sq ?_
    refine AWP.sq ?_
    refine AWP.rgC 36 rfl rfl ?_
    refine pu (v := .sc _) rfl rfl (fun _ => rfl) ?_
    refine pu (v := .sc _) rfl rfl (fun _ => rfl) ?_
    refine RunC.fin ?_
    refine AWP.cd hR rfl (fun h3 hR => ?_) fun h3 hR => ?_
    · refine AWP.rgC 52 rfl rfl ?_
      refine pu (v := .sc _) rfl rfl (fun _ => rfl) ?_
      refine pu (v := .sc _) rfl rfl (fun _ => rfl) ?_
      refine pu (v := .sc _) rfl rfl (fun _ => rfl) ?_
      refine pu (v := .sc _) rfl rfl (fun _ => rfl) ?_
      refine RunC.fin ?_
      refine AWP.sq ?_
      refine AWP.rgC 60 rfl rfl ?_
      refine pu (v := .sc _) rfl rfl (fun _ => rfl) ?_
      refine pu (v := .sc _) rfl rfl (fun _ => rfl) ?_
      refine RunC.fin ?_
      refine AWP.ret ?_
      have hR := Option.some.inj hR; subst hR
      exact hQ _ _ (LS.mk [(4, .sc (.int .i64 (w6 ((Int.tmod x n) + n))))] (lblks 0 []) 0) (.sc (.int .i64 (w6 ((Int.tmod x n) + n)))) [] (.inr rfl) (Weak.turnL [] [] rfl rfl (tc (.sc _) tn) mn) (ro1 (rvT (v := .sc (.int .i64 (w6 ((Int.tmod x n) + n)))) rfl)) rfl rfl (.sc _) pn
    · refine AWP.skip ?_
      refine skT ?_
      refine AWP.sq ?_
      refine AWP.rgC 44 rfl rfl ?_
      refine pu (v := .sc _) rfl rfl (fun _ => rfl) ?_
      refine pu (v := .sc _) rfl rfl (fun _ => rfl) ?_
      refine RunC.fin ?_
      refine AWP.ret ?_
      have hR := Option.some.inj hR; subst hR
      exact hQ _ _ (LS.mk [(4, .sc (.int .i64 (Int.tmod x n)))] (lblks 0 []) 0) (.sc (.int .i64 (Int.tmod x n))) [] (.inr rfl) (Weak.turnL [] [] rfl rfl (tc (.sc _) tn) mn) (ro1 (rvT (v := .sc (.int .i64 (Int.tmod x n))) rfl)) rfl rfl (.sc _) pn
theorem ok5 (s : spymake_Stream) (n : Int) (r : Int × spymake_Stream) (hR : Stream_Next s n = some r) : FnD Try.prog 5 [boxB false s] [.ptr 0 0 0, .sc (.int .i64 n)] (.sc (.int .i64 r.1)) [boxB false r.2] := by
  refine FnX.walk Try.func5 rfl 64 1 (by simp [Try.ntmps5]) rfl fun W S F Q hQ => ?_
  unfold Stream_Next at hR
  refine AWP.sq ?_
  refine AWP.rgC 5 rfl rfl ?_
  refine pu (v := .sc _) rfl rfl (fun _ => rfl) ?_
  refine RunC.fin ?_
  refine AWP.sq ?_
  refine AWP.rgC 37 rfl rfl ?_
  refine pu (v := .ptr _ _ _) rfl rfl (fun _ => rfl) ?_
  refine pu (v := .ptr _ _ _) rfl rfl (fun _ => rfl) ?_
  refine fa rfl rfl ti25 rfl rfl ti3 rfl ?_
  refine ldB (v := .sc _) rfl rfl rfl rfl ti3 rfl rfl ?_
  refine pu (v := .sc _) rfl rfl (fun _ => rfl) ?_
  refine pu (v := .ptr _ _ _) rfl rfl (fun _ => rfl) ?_
  refine fa rfl rfl ti25 rfl rfl ti3 rfl ?_
  refine stB (cs' := [rowV (α := Int) false s.L, .sc (.int .i64 (w6 (s.at_ + 1)))]) rfl rfl rfl rfl ti3 rfl rfl rfl rfl rfl ?_
  refine RunC.fin ?_
  refine AWP.sq ?_
  refine AWP.sq ?_
  refine AWP.rgC 61 rfl rfl ?_
  refine pu (v := .ptr _ _ _) rfl rfl (fun _ => rfl) ?_
  refine pu (v := .ptr _ _ _) rfl rfl (fun _ => rfl) ?_
  refine fa rfl rfl ti25 rfl rfl ti22 rfl ?_
  refine ldB (v := rowV _ s.L) rfl rfl rfl rfl ti22 rfl rfl ?_
  refine lenL (α := Int) rfl rfl ti22 rfl ?_
  refine pu (v := .sc _) rfl rfl (fun _ => rfl) ?_
  refine RunC.fin ?_
  refine AWP.cd hR rfl (fun h1 hR => ?_) fun h1 hR => ?_
  · refine AWP.sq ?_
    refine AWP.rgC 93 rfl rfl ?_
    refine pu (v := .ptr _ _ _) rfl rfl (fun _ => rfl) ?_
    refine pu (v := .ptr _ _ _) rfl rfl (fun _ => rfl) ?_
    refine fa rfl rfl ti25 rfl rfl ti3 rfl ?_
    refine ldB (v := .sc _) rfl rfl rfl rfl ti3 rfl rfl ?_
    refine pu (v := .sc _) rfl rfl (fun _ => rfl) ?_
    refine pu (v := .sc _) rfl rfl (fun _ => rfl) ?_
    obtain ⟨r2, hr2, hR⟩ := bindE hR
    refine cls [] rfl rfl cb14 (ok14 (w6 ((w6 (s.at_ + 1)) * 7919)) n _ hr2) (.cons (.sc _) (.cons (.sc _) (.nil))) (.inr rfl) rfl ?_
    refine pu (v := .sc _) rfl rfl (fun _ => rfl) ?_
    refine RunC.fin ?_
    refine AWP.ret ?_
    refine rtT ?_
    have hR := Option.some.inj hR; subst hR
    exact hQ _ _ (LS.mk [(4, .sc (.int .i64 r2))] (lblks 0 [boxB (α := spymake_Stream) false (spymake_Stream.mk s.L (w6 (s.at_ + 1)))]) 1) (.sc (.int .i64 r2)) [] (.inr rfl) (Weak.turnL [(0, 0)] [] rfl rfl (tc (.sc _) tn) (mc rfl (.box rfl (.cons trR1 (.cons (.sc _) (.nil))) rfl) mn)) (ro1 (rvT (v := .sc (.int .i64 r2)) rfl)) rfl rfl (.sc _) (pc rfl bldB pn)
  · refine AWP.skip ?_
    refine skT ?_
    refine AWP.sq ?_
    refine AWP.rgD 109 [0, 1, 3, 7, 15, 0, 32, 96, 224, 480, 1023, 2047] ⟨[], [none, none, none, some [0], none, none, none, none, some [0], none, none, none]⟩ hmix (by kernel_rfl) rfl rfl ?_
    refine pu (v := .ptr _ _ _) rfl rfl (fun _ => rfl) ?_
    refine pu (v := .ptr _ _ _) rfl rfl (fun _ => rfl) ?_
    refine fa rfl rfl ti25 rfl rfl ti3 rfl ?_
    refine ldB (v := .sc _) rfl rfl rfl rfl ti3 rfl rfl ?_
    refine pu (v := .sc _) rfl rfl (fun _ => rfl) ?_
    refine pu (v := .ptr _ _ _) rfl rfl (fun _ => rfl) ?_
    refine pu (v := .ptr _ _ _) rfl rfl (fun _ => rfl) ?_
    refine fa rfl rfl ti25 rfl rfl ti22 rfl ?_
    refine ldB (v := rowV _ s.L) rfl rfl rfl rfl ti22 rfl rfl ?_
    refine lenL (α := Int) rfl rfl ti22 rfl ?_
    obtain ⟨h3, hR⟩ := chkE hR
    refine rm rfl rfl rfl h3 rfl ?_
    refine pu (v := .sc _) rfl rfl (fun _ => rfl) ?_
    refine RunC.fin ?_
    refine AWP.sq ?_
    refine AWP.rgD 157 [0, 1, 3, 7, 15, 0, 32, 96, 224, 480, 1023, 2047] ⟨[], [none, none, none, some [0], none, none, none, none, some [0], none, none, none]⟩ hmix (by kernel_rfl) rfl rfl ?_
    refine pu (v := .ptr _ _ _) rfl rfl (fun _ => rfl) ?_
    refine pu (v := .ptr _ _ _) rfl rfl (fun _ => rfl) ?_
    refine fa rfl rfl ti25 rfl rfl ti3 rfl ?_
    refine ldB (v := .sc _) rfl rfl rfl rfl ti3 rfl rfl ?_
    refine pu (v := .sc _) rfl rfl (fun _ => rfl) ?_
    refine pu (v := .ptr _ _ _) rfl rfl (fun _ => rfl) ?_
    refine pu (v := .ptr _ _ _) rfl rfl (fun _ => rfl) ?_
    refine fa rfl rfl ti25 rfl rfl ti22 rfl ?_
    refine ldB (v := rowV _ s.L) rfl rfl rfl rfl ti22 rfl rfl ?_
    refine lenL (α := Int) rfl rfl ti22 rfl ?_
    refine qu rfl rfl rfl h3 rfl ?_
    refine pu (v := .sc _) rfl rfl (fun _ => rfl) ?_
    refine RunC.fin ?_
    refine AWP.sq ?_
    refine AWP.rgC 221 rfl rfl ?_
    refine pu (v := .ptr _ _ _) rfl rfl (fun _ => rfl) ?_
    refine pu (v := .ptr _ _ _) rfl rfl (fun _ => rfl) ?_
    refine fa rfl rfl ti25 rfl rfl ti22 rfl ?_
    refine ldB (v := rowV _ s.L) rfl rfl rfl rfl ti22 rfl rfl ?_
    refine pu (v := .sc _) rfl rfl (fun _ => rfl) ?_
    obtain ⟨h4, hR⟩ := chkE hR
    refine ixL (α := Int) rfl rfl rfl ti22 rfl ti3 rfl h4 ?_
    refine ldR (v := .sc _) rfl rfl ti3 rfl ?_
    obtain ⟨r5, hr5, hR⟩ := bindE hR
    refine cls [] rfl rfl cb14 (ok14 (gt s.L (Int.tmod (w6 ((w6 (s.at_ + 1)) - 1)) (s.L.length : Int))) 1073741824 _ hr5) (.cons (.sc _) (.cons (.sc _) (.nil))) (.inr rfl) rfl ?_
    refine pu (v := .sc _) rfl rfl (fun _ => rfl) ?_
    refine pu (v := .sc _) rfl rfl (fun _ => rfl) ?_
    obtain ⟨v6, ev6, hR⟩ := letE hR
    refine pu (v := .sc _) rfl rfl (fun _ => puI ev6) ?_
    obtain ⟨v7, ev7, hR⟩ := letE hR
    refine pu (v := .sc _) rfl rfl (fun _ => puI ev7) ?_
    refine pu (v := .sc _) rfl rfl (fun _ => rfl) ?_
    refine pu (v := .sc _) rfl rfl (fun _ => rfl) ?_
    obtain ⟨r8, hr8, hR⟩ := bindE hR
    refine cls [] rfl rfl cb14 (ok14 (w6 (r5 + v7)) n _ hr8) (.cons (.sc _) (.cons (.sc _) (.nil))) (.inr rfl) rfl ?_
    refine pu (v := .sc _) rfl rfl (fun _ => rfl) ?_
    refine RunC.fin ?_
    refine AWP.ret ?_
    have hR := Option.some.inj hR; subst hR
    exact hQ _ _ (LS.mk [(4, .sc (.int .i64 r8))] (lblks 0 [boxB (α := spymake_Stream) false (spymake_Stream.mk s.L (w6 (s.at_ + 1)))]) 1) (.sc (.int .i64 r8)) [] (.inr rfl) (Weak.turnL [(0, 0)] [] rfl rfl (tc (.sc _) tn) (mc rfl (.box rfl (.cons trR1 (.cons (.sc _) (.nil))) rfl) mn)) (ro1 (rvT (v := .sc (.int .i64 r8)) rfl)) rfl rfl (.sc _) (pc rfl bldB pn)
theorem ok4 (s : spymake_Stream) (low : Int) (high : Int) (r : Int × spymake_Stream) (hR : Stream_Range s low high = some r) : FnD Try.prog 4 [boxB false s] [.ptr 0 0 0, .sc (.int .i64 low), .sc (.int .i64 high)] (.sc (.int .i64 r.1)) [boxB false r.2] := by
  refine FnX.walk Try.func4 rfl 19 1 (by simp [Try.ntmps4]) rfl fun W S F Q hQ => ?_
  unfold Stream_Range at hR
  refine AWP.sq ?_
  refine AWP.rgC 5 rfl rfl ?_
  refine pu (v := .sc _) rfl rfl (fun _ => rfl) ?_
  refine RunC.fin ?_
  refine AWP.sq ?_
  refine AWP.sq ?_
  refine AWP.rgC 17 rfl rfl ?_
  refine pu (v := .sc _) rfl rfl (fun _ => rfl) ?_
  refine pu (v := .sc _) rfl rfl (fun _ => rfl) ?_
  refine pu (v := .sc _) rfl rfl (fun _ => rfl) ?_
  refine RunC.fin ?_
  refine AWP.cd hR rfl (fun h1 hR => ?_) fun h1 hR => ?_
  · refine AWP.sq ?_
    refine AWP.rgC 25 rfl rfl ?_
    refine pu (v := .sc _) rfl rfl (fun _ => rfl) ?_
    refine pu (v := .sc _) rfl rfl (fun _ => rfl) ?_
    refine RunC.fin ?_
    refine AWP.ret ?_
    refine rtT ?_
    have hR := Option.some.inj hR; subst hR
    exact hQ _ _ (LS.mk [(6, .sc (.int .i64 low))] (lblks 0 [boxB (α := spymake_Stream) false s]) 1) (.sc (.int .i64 low)) [] (.inr rfl) (Weak.turnL [(0, 0)] [] rfl rfl (tc (.sc _) tn) (mc rfl (.box rfl (.cons trR1 (.cons (.sc _) (.nil))) rfl) mn)) (ro1 (rvT (v := .sc (.int .i64 low)) rfl)) rfl rfl (.sc _) (pc rfl bldB pn)
  · refine AWP.skip ?_
    refine skT ?_
    refine AWP.sq ?_
    refine AWP.rgC 53 rfl rfl ?_
    refine pu (v := .sc _) rfl rfl (fun _ => rfl) ?_
    refine pu (v := .ptr _ _ _) rfl rfl (fun _ => rfl) ?_
    refine pu (v := .sc _) rfl rfl (fun _ => rfl) ?_
    refine pu (v := .sc _) rfl rfl (fun _ => rfl) ?_
    refine pu (v := .sc _) rfl rfl (fun _ => rfl) ?_
    refine pu (v := .sc _) rfl rfl (fun _ => rfl) ?_
    obtain ⟨r2, hr2, hR⟩ := bindE hR
    refine cps (res' := .sc (.int .i64 r2.1)) (ups := [(0, boxB (α := spymake_Stream) false r2.2)]) [0] 41 rfl rfl rfl cb5 (ok5 s (w6 ((w6 (high - low)) + 1)) _ hr2) (.cons (ldP rfl rfl) (.cons (.sc _) (.nil))) (pc rfl (.box (.cons ldR' (.cons (.sc _) (.nil))) rfl) pn) rfl rfl rfl rfl rfl (by first | rfl | exact renR | exact renA | exact renS | simp only [V.ren, V.rens, renR, renA, renS] | (simp only [V.ren, V.rens, renR, renA, renS]; rfl)) (by simp only [passUps, renBox, renArr]; rfl) ?_
    refine pu (v := .sc _) rfl rfl (fun _ => rfl) ?_
    refine pu (v := .sc _) rfl rfl (fun _ => rfl) ?_
    refine RunC.fin ?_
    refine AWP.ret ?_
    have hR := Option.some.inj hR; subst hR
    exact hQ _ _ (LS.mk [(6, .sc (.int .i64 (w6 (low + r2.1))))] (lblks 0 [boxB (α := spymake_Stream) false r2.2]) 1) (.sc (.int .i64 (w6 (low + r2.1)))) [] (.inr rfl) (Weak.turnL [(0, 0)] [] rfl rfl (tc (.sc _) tn) (mc rfl (.box rfl (.cons trR1 (.cons (.sc _) (.nil))) rfl) mn)) (ro1 (rvT (v := .sc (.int .i64 (w6 (low + r2.1)))) rfl)) rfl rfl (.sc _) (pc rfl bldB pn)
theorem ok6 (s : spymake_Stream) (r : Vec × spymake_Stream) (hR : Stream_Vec s = some r) : FnD Try.prog 6 [boxB false s] [.ptr 0 0 0] (aggV (α := Vec) true r.1) [boxB false r.2] := by
  refine FnX.walk Try.func6 rfl 31 1 (by simp [Try.ntmps6]) rfl fun W S F Q hQ => ?_
  unfold Stream_Vec at hR
  refine AWP.sq ?_
  refine AWP.rgC 5 rfl rfl ?_
  refine al (cs := [.sc (.int .i64 0), .sc (.int .i64 0), .sc (.int .i64 0)]) 1 rfl rfl ti30 rfl rfl ?_
  refine RunC.fin ?_
  refine AWP.sq ?_
  refine AWP.rgC 29 rfl rfl ?_
  refine bs (α := Int) 5 true ([3, 100, 5000, 1048576] : List Int) rfl rfl ti22 rfl ti3 rfl rfl rfl rfl rfl ?_
  refine pu (v := .ptr _ _ _) rfl rfl (fun _ => rfl) ?_
  obtain ⟨r1, hr1, hR⟩ := bindE hR
  refine cps (res' := .sc (.int .i64 r1.1)) (ups := [(0, boxB (α := spymake_Stream) false r1.2)]) [0] 13 rfl rfl rfl cb5 (ok5 s 4 _ hr1) (.cons (ldP rfl rfl) (.cons (.sc _) (.nil))) (pc rfl (.box (.cons ldR' (.cons (.sc _) (.nil))) rfl) pn) rfl rfl rfl rfl rfl (by first | rfl | exact renR | exact renA | exact renS | simp only [V.ren, V.rens, renR, renA, renS] | (simp only [V.ren, V.rens, renR, renA, renS]; rfl)) (by simp only [passUps, renBox, renArr]; rfl) ?_
  obtain ⟨h2, hR⟩ := chkE hR
  refine ixS0 (α := Int) rfl rfl rfl ti22 rfl ti3 rfl h2 ?_
  refine ldE (α := Int) (v := .sc _) rfl rfl rfl (ixlt h2) ti3 rfl rfl rfl rfl ?_
  refine pu (v := .sc _) rfl rfl (fun _ => rfl) ?_
  refine RunC.fin ?_
  refine AWP.sq ?_
  refine AWP.rgC 101 rfl rfl ?_
  refine pu (v := .ptr _ _ _) rfl rfl (fun _ => rfl) ?_
  refine pu (v := .sc _) rfl rfl (fun _ => rfl) ?_
  refine pu (v := .sc _) rfl rfl (fun _ => rfl) ?_
  refine pu (v := .sc _) rfl rfl (fun _ => rfl) ?_
  obtain ⟨r3, hr3, hR⟩ := bindE hR
  refine cps (res' := .sc (.int .i64 r3.1)) (ups := [(0, boxB (α := spymake_Stream) false r3.2)]) [0] 45 rfl rfl rfl cb4 (ok4 r1.2 (w6 (0 - (gt ([3, 100, 5000, 1048576] : List Int) r1.1))) (gt ([3, 100, 5000, 1048576] : List Int) r1.1) _ hr3) (.cons (ldP rfl rfl) (.cons (.sc _) (.cons (.sc _) (.nil)))) (pc rfl (.box (.cons ldR' (.cons (.sc _) (.nil))) rfl) pn) rfl rfl rfl rfl rfl (by first | rfl | exact renR | exact renA | exact renS | simp only [V.ren, V.rens, renR, renA, renS] | (simp only [V.ren, V.rens, renR, renA, renS]; rfl)) (by simp only [passUps, renBox, renArr]; rfl) ?_
  refine pu (v := .ptr _ _ _) rfl rfl (fun _ => rfl) ?_
  refine pu (v := .sc _) rfl rfl (fun _ => rfl) ?_
  refine pu (v := .sc _) rfl rfl (fun _ => rfl) ?_
  refine pu (v := .sc _) rfl rfl (fun _ => rfl) ?_
  obtain ⟨r4, hr4, hR⟩ := bindE hR
  refine cps (res' := .sc (.int .i64 r4.1)) (ups := [(0, boxB (α := spymake_Stream) false r4.2)]) [0] 65 rfl rfl rfl cb4 (ok4 r3.2 (w6 (0 - (gt ([3, 100, 5000, 1048576] : List Int) r1.1))) (gt ([3, 100, 5000, 1048576] : List Int) r1.1) _ hr4) (.cons (ldP rfl rfl) (.cons (.sc _) (.cons (.sc _) (.nil)))) (pc rfl (.box (.cons ldR' (.cons (.sc _) (.nil))) rfl) pn) rfl rfl rfl rfl rfl (by first | rfl | exact renR | exact renA | exact renS | simp only [V.ren, V.rens, renR, renA, renS] | (simp only [V.ren, V.rens, renR, renA, renS]; rfl)) (by simp only [passUps, renBox, renArr]; rfl) ?_
  refine pu (v := .ptr _ _ _) rfl rfl (fun _ => rfl) ?_
  refine pu (v := .sc _) rfl rfl (fun _ => rfl) ?_
  refine pu (v := .sc _) rfl rfl (fun _ => rfl) ?_
  refine pu (v := .sc _) rfl rfl (fun _ => rfl) ?_
  obtain ⟨r5, hr5, hR⟩ := bindE hR
  refine cps (res' := .sc (.int .i64 r5.1)) (ups := [(0, boxB (α := spymake_Stream) false r5.2)]) [0] 85 rfl rfl rfl cb4 (ok4 r4.2 (w6 (0 - (gt ([3, 100, 5000, 1048576] : List Int) r1.1))) (gt ([3, 100, 5000, 1048576] : List Int) r1.1) _ hr5) (.cons (ldP rfl rfl) (.cons (.sc _) (.cons (.sc _) (.nil)))) (pc rfl (.box (.cons ldR' (.cons (.sc _) (.nil))) rfl) pn) rfl rfl rfl rfl rfl (by first | rfl | exact renR | exact renA | exact renS | simp only [V.ren, V.rens, renR, renA, renS] | (simp only [V.ren, V.rens, renR, renA, renS]; rfl)) (by simp only [passUps, renBox, renArr]; rfl) ?_
  refine bu (cs := [.sc (.int .i64 r3.1), .sc (.int .i64 r4.1), .sc (.int .i64 r5.1)]) rfl bt30 rfl ?_
  refine al (cs := [.sc (.int .i64 0), .sc (.int .i64 0), .sc (.int .i64 0)]) 93 rfl rfl ti30 rfl rfl ?_
  refine stB (cs' := [.sc (.int .i64 r3.1), .sc (.int .i64 r4.1), .sc (.int .i64 r5.1)]) rfl rfl rfl rfl ti30 rfl rfl rfl rfl rfl ?_
  refine RunC.fin ?_
  refine AWP.sq ?_
  refine AWP.sq ?_
  refine AWP.rgC 113 rfl rfl ?_
  refine ldB (v := .agg _) rfl rfl rfl rfl ti30 rfl rfl ?_
  refine bu (cs := [.sc (.int .i64 0), .sc (.int .i64 0), .sc (.int .i64 0)]) rfl bt30 rfl ?_
  refine es (cs := [.sc (.int .i64 r3.1), .sc (.int .i64 r4.1), .sc (.int .i64 r5.1)]) (ds := [.sc (.int .i64 0), .sc (.int .i64 0), .sc (.int .i64 0)]) rfl rfl rfl qa30 qg30 (qe30 _ _ _ _ _ _) ?_
  refine RunC.fin ?_
  refine AWP.cd hR rfl (fun h6 hR => ?_) fun h6 hR => ?_
  · refine AWP.rgC 121 rfl rfl ?_
    refine fa rfl rfl ti30 rfl rfl ti2 rfl ?_
    refine stB (cs' := [.sc (.int .i64 1), .sc (.int .i64 r4.1), .sc (.int .i64 r5.1)]) rfl rfl rfl rfl ti2 rfl rfl rfl rfl rfl ?_
    refine RunC.fin ?_
    refine AWP.sq ?_
    refine AWP.rgC 129 rfl rfl ?_
    refine ldB (v := .agg _) rfl rfl rfl rfl ti30 rfl rfl ?_
    refine stB (cs' := [.sc (.int .i64 1), .sc (.int .i64 r4.1), .sc (.int .i64 r5.1)]) rfl rfl rfl rfl ti30 rfl rfl rfl rfl rfl ?_
    refine RunC.fin ?_
    refine AWP.ret ?_
    have hR := Option.some.inj hR; subst hR
    exact hQ _ _ (LS.mk [(2, .ptr 1 0 0)] (lblks 0 [boxB (α := spymake_Stream) false r5.2, boxB (α := Vec) true (Vec.mk 1 r4.1 r5.1)]) 2) (aggV (α := Vec) true (Vec.mk 1 r4.1 r5.1)) [] (.inr rfl) (Weak.turnL [(0, 0), (1, 0)] [] rfl rfl (tc (trP' rfl rfl rfl rfl) tn) (mc rfl (.box rfl (.cons trR1 (.cons (.sc _) (.nil))) rfl) (mc rfl (.box rfl (.cons (.sc _) (.cons (.sc _) (.cons (.sc _) (.nil)))) rfl) mn))) (ro1 (rvC (v := aggV (α := Vec) true (Vec.mk 1 r4.1 r5.1)) rfl rfl ti30 rfl)) rfl rfl ldA (pc rfl bldB pn)
  · refine AWP.skip ?_
    refine skT ?_
    refine AWP.sq ?_
    refine AWP.rgC 121 rfl rfl ?_
    refine ldB (v := .agg _) rfl rfl rfl rfl ti30 rfl rfl ?_
    refine stB (cs' := [.sc (.int .i64 r3.1), .sc (.int .i64 r4.1), .sc (.int .i64 r5.1)]) rfl rfl rfl rfl ti30 rfl rfl rfl rfl rfl ?_
    refine RunC.fin ?_
    refine AWP.ret ?_
    have hR := Option.some.inj hR; subst hR
    exact hQ _ _ (LS.mk [(2, .ptr 1 0 0)] (lblks 0 [boxB (α := spymake_Stream) false r5.2, boxB (α := Vec) true (Vec.mk r3.1 r4.1 r5.1)]) 2) (aggV (α := Vec) true (Vec.mk r3.1 r4.1 r5.1)) [] (.inr rfl) (Weak.turnL [(0, 0), (1, 0)] [] rfl rfl (tc (trP' rfl rfl rfl rfl) tn) (mc rfl (.box rfl (.cons trR1 (.cons (.sc _) (.nil))) rfl) (mc rfl (.box rfl (.cons (.sc _) (.cons (.sc _) (.cons (.sc _) (.nil)))) rfl) mn))) (ro1 (rvC (v := aggV (α := Vec) true (Vec.mk r3.1 r4.1 r5.1)) rfl rfl ti30 rfl)) rfl rfl ldA (pc rfl bldB pn)
theorem ok15_7 (c : Int) (p1 : Int) (p2 : spymake_Stream) (p3 : Int) (r : Bound × spymake_Stream) (hR : Stream_Held_1 c p1 p2 p3 = some r) : FnD Try.prog 15 [boxB false p1, boxB false p2, .box [.ptr 1 0 0], boxB false p3] [.sc (.int .i64 c), .ptr 0 0 0, .ptr 2 0 0, .ptr 3 0 0] (aggV (α := Bound) true r.1) [boxB false p1, boxB false r.2, .box [.ptr 1 0 0], boxB false p3] := by
  refine FnX.walk Try.func15 rfl 23 4 (by simp [Try.ntmps15]) rfl fun W S F Q hQ => ?_
  unfold Stream_Held_1 at hR
  refine AWP.sq ?_
  refine AWP.rgC 8 rfl rfl ?_
  refine al (cs := [.sc (.int .i64 0), .sc (.int .i64 0), .sc (.bool false)]) 4 rfl rfl ti38 rfl rfl ?_
  refine RunC.fin ?_
  refine AWP.sq ?_
  refine AWP.rgD 80 [0, 0, 3, 0, 0, 16, 56, 127, 0, 0, 768, 0, 0, 4096, 14456, 32632, 65535, 131071] ⟨[6, 14], [some [0], none, none, some [2], some [3], none, some [1], none, some [0], none, none, some [2], some [3], none, some [1], none, none, some [4]]⟩ hmix (by kernel_rfl) rfl rfl ?_
  refine ldB (v := .sc _) rfl rfl rfl rfl ti2 rfl rfl ?_
  refine pu (v := .sc _) rfl rfl (fun _ => rfl) ?_
  refine pu (v := .sc _) rfl rfl (fun _ => rfl) ?_
  refine ldB (v := .ptr _ _ _) rfl rfl rfl rfl ti23 rfl rfl ?_
  refine ldB (v := .sc _) rfl rfl rfl rfl ti3 rfl rfl ?_
  refine pu (v := .sc _) rfl rfl (fun _ => rfl) ?_
  obtain ⟨r1, hr1, hR⟩ := bindE hR
  refine cps (res' := .sc (.int .i64 r1.1)) (ups := [(1, boxB (α := spymake_Stream) false r1.2)]) [1] 32 rfl rfl rfl cb5 (ok5 p2 (w6 (p3 + 1)) _ hr1) (.cons (ldP rfl rfl) (.cons (.sc _) (.nil))) (pc rfl (.box (.cons ldR' (.cons (.sc _) (.nil))) rfl) pn) rfl rfl rfl rfl rfl (by first | rfl | exact renR | exact renA | exact renS | simp only [V.ren, V.rens, renR, renA, renS] | (simp only [V.ren, V.rens, renR, renA, renS]; rfl)) (by simp only [passUps, renBox, renArr]; rfl) ?_
  refine pu (v := .sc _) rfl rfl (fun _ => rfl) ?_
  refine ldB (v := .sc _) rfl rfl rfl rfl ti2 rfl rfl ?_
  refine pu (v := .sc _) rfl rfl (fun _ => rfl) ?_
  refine pu (v := .sc _) rfl rfl (fun _ => rfl) ?_
  refine ldB (v := .ptr _ _ _) rfl rfl rfl rfl ti23 rfl rfl ?_
  refine ldB (v := .sc _) rfl rfl rfl rfl ti3 rfl rfl ?_
  refine pu (v := .sc _) rfl rfl (fun _ => rfl) ?_
  obtain ⟨r2, hr2, hR⟩ := bindE hR
  refine cps (res' := .sc (.int .i64 r2.1)) (ups := [(1, boxB (α := spymake_Stream) false r2.2)]) [1] 64 rfl rfl rfl cb5 (ok5 r1.2 (w6 (p3 + 1)) _ hr2) (.cons (ldP rfl rfl) (.cons (.sc _) (.nil))) (pc rfl (.box (.cons ldR' (.cons (.sc _) (.nil))) rfl) pn) rfl rfl rfl rfl rfl (by first | rfl | exact renR | exact renA | exact renS | simp only [V.ren, V.rens, renR, renA, renS] | (simp only [V.ren, V.rens, renR, renA, renS]; rfl)) (by simp only [passUps, renBox, renArr]; rfl) ?_
  refine pu (v := .sc _) rfl rfl (fun _ => rfl) ?_
  refine bu (cs := [.sc (.int .i64 (w6 ((w6 (p1 * c)) - r1.1))), .sc (.int .i64 (w6 ((w6 (p1 * c)) + r2.1))), .sc (.bool false)]) rfl bt38 rfl ?_
  refine stB (cs' := [.sc (.int .i64 (w6 ((w6 (p1 * c)) - r1.1))), .sc (.int .i64 (w6 ((w6 (p1 * c)) + r2.1))), .sc (.bool false)]) rfl rfl rfl rfl ti38 rfl rfl rfl rfl rfl ?_
  refine RunC.fin ?_
  refine AWP.ret ?_
  have hR := Option.some.inj hR; subst hR
  exact hQ _ _ (LS.mk [(5, .ptr 4 0 0)] (lblks 0 [boxB (α := Int) true p1, boxB (α := spymake_Stream) false r2.2, .box [.ptr 1 0 0], boxB (α := Int) true p3, boxB (α := Bound) true (Bound.mk (w6 ((w6 (p1 * c)) - r1.1)) (w6 ((w6 (p1 * c)) + r2.1)) false)]) 5) (aggV (α := Bound) true (Bound.mk (w6 ((w6 (p1 * c)) - r1.1)) (w6 ((w6 (p1 * c)) + r2.1)) false)) [] (.inr rfl) (Weak.turnL [(0, 0), (1, 0), (2, 0), (3, 0), (4, 0)] [] rfl rfl (tc (trP' rfl rfl rfl rfl) tn) (mc rfl (.box rfl (.cons (.sc _) (.nil)) rfl) (mc rfl (.box rfl (.cons trR1 (.cons (.sc _) (.nil))) rfl) (mc rfl (.box rfl (.cons (trP' rfl rfl rfl rfl) (.nil)) rfl) (mc rfl (.box rfl (.cons (.sc _) (.nil)) rfl) (mc rfl (.box rfl (.cons (.sc _) (.cons (.sc _) (.cons (.sc _) (.nil)))) rfl) mn)))))) (ro1 (rvC (v := aggV (α := Bound) true (Bound.mk (w6 ((w6 (p1 * c)) - r1.1)) (w6 ((w6 (p1 * c)) + r2.1)) false)) rfl rfl ti38 rfl)) rfl rfl ldA (pc rfl bldB (pc rfl bldB (pc rfl (.box (.cons (ldP rfl rfl) .nil) rfl) (pc rfl bldB pn))))
theorem ok8 (s : spymake_Stream) (v : Vec) (most : Int) (r : Box × spymake_Stream) (hR : Stream_Held s v most = some r) : FnD Try.prog 8 [boxB false s] [.ptr 0 0 0, aggV false v, .sc (.int .i64 most)] (aggV (α := Box) true r.1) [boxB false r.2] := by
  refine FnX.walk Try.func8 rfl 25 1 (by simp [Try.ntmps8]) rfl fun W S F Q hQ => ?_
  unfold Stream_Held at hR
  refine AWP.sq ?_
  refine AWP.rgC 17 rfl rfl ?_
  refine bx (cs := [.ptr 0 0 0]) 1 rfl rfl rfl ?_
  refine bx (cs := _) 5 rfl rfl rfl ?_
  refine bx (cs := [.sc (.int .i64 most)]) 9 rfl rfl rfl ?_
  refine al (cs := [.sc (.int .i64 0), .sc (.int .i64 0), .sc (.bool false), .sc (.int .i64 0), .sc (.int .i64 0), .sc (.bool false), .sc (.int .i64 0), .sc (.int .i64 0), .sc (.bool false)]) 13 rfl rfl ti40 rfl rfl ?_
  refine RunC.fin ?_
  refine AWP.sq ?_
  refine AWP.rgC 33 rfl rfl ?_
  refine ldB (v := .ptr _ _ _) rfl rfl rfl rfl ti23 rfl rfl ?_
  obtain ⟨r1, hr1, hR⟩ := bindE hR
  refine cps (res' := .sc (.int .i64 r1.1)) (ups := [(0, boxB (α := spymake_Stream) false r1.2)]) [0] 21 rfl rfl rfl cb4 (ok4 s 1 8 _ hr1) (.cons (ldP rfl rfl) (.cons (.sc _) (.cons (.sc _) (.nil)))) (pc rfl (.box (.cons ldR' (.cons (.sc _) (.nil))) rfl) pn) rfl rfl rfl rfl rfl (by first | rfl | exact renR | exact renA | exact renS | simp only [V.ren, V.rens, renR, renA, renS] | (simp only [V.ren, V.rens, renR, renA, renS]; rfl)) (by simp only [passUps, renBox, renArr]; rfl) ?_
  refine al (cs := [.sc (.int .i64 0)]) 25 rfl rfl ti2 rfl rfl ?_
  refine stB (cs' := [.sc (.int .i64 r1.1)]) rfl rfl rfl rfl ti2 rfl rfl rfl rfl rfl ?_
  refine RunC.fin ?_
  refine AWP.sq ?_
  refine AWP.rgC 41 rfl rfl ?_
  refine pu (v := .fn _ _) rfl rfl (fun _ => rfl) ?_
  refine pu (v := .fn _ _) rfl rfl (fun _ => rfl) ?_
  refine RunC.fin ?_
  refine AWP.sq ?_
  refine AWP.rgD 97 [0, 0, 2, 7, 0, 0, 32, 127, 0, 0, 512, 2047, 4095, 8191] ⟨[3, 7, 11], [none, none, some [5], some [0, 1, 9, 25], none, none, some [5], some [0, 1, 9, 25], none, none, some [5], some [0, 1, 9, 25], none, some [13]]⟩ hmix (by kernel_rfl) rfl rfl ?_
  refine pu (v := .fn _ _) rfl rfl (fun _ => rfl) ?_
  refine fa rfl rfl ti30 rfl rfl ti2 rfl ?_
  refine ldB (v := .sc _) rfl rfl rfl rfl ti2 rfl rfl ?_
  obtain ⟨r2, hr2, hR⟩ := bindE hR
  refine cps (res' := aggV (α := Bound) true r2.1) (ups := [(25, boxB (α := Int) true r1.1), (0, boxB (α := spymake_Stream) false r2.2), (1, .box [.ptr 0 0 0]), (9, boxB (α := Int) true most)]) [25, 0, 1, 9] 53 rfl rfl rfl cb15 (ok15_7 v.X r1.1 r1.2 most _ hr2) (.cons (.sc _) (.cons (ldP rfl rfl) (.cons (ldP rfl rfl) (.cons (ldP rfl rfl) (.nil))))) (pc rfl (.box (.cons (.sc _) (.nil)) rfl) (pc rfl (.box (.cons ldR' (.cons (.sc _) (.nil))) rfl) (pc rfl (.box (.cons (ldP rfl rfl) .nil) rfl) (pc rfl (.box (.cons (.sc _) (.nil)) rfl) pn)))) rfl rfl rfl rfl rfl (by first | rfl | exact renR | exact renA | exact renS | simp only [V.ren, V.rens, renR, renA, renS] | (simp only [V.ren, V.rens, renR, renA, renS]; rfl)) (by simp only [passUps, renBox, renArr]; rfl) ?_
  refine pu (v := .fn _ _) rfl rfl (fun _ => rfl) ?_
  refine fa rfl rfl ti30 rfl rfl ti2 rfl ?_
  refine ldB (v := .sc _) rfl rfl rfl rfl ti2 rfl rfl ?_
  obtain ⟨r3, hr3, hR⟩ := bindE hR
  refine cps (res' := aggV (α := Bound) true r3.1) (ups := [(25, boxB (α := Int) true r1.1), (0, boxB (α := spymake_Stream) false r3.2), (1, .box [.ptr 0 0 0]), (9, boxB (α := Int) true most)]) [25, 0, 1, 9] 69 rfl rfl rfl cb15 (ok15_7 v.Y r1.1 r2.2 most _ hr3) (.cons (.sc _) (.cons (ldP rfl rfl) (.cons (ldP rfl rfl) (.cons (ldP rfl rfl) (.nil))))) (pc rfl (.box (.cons (.sc _) (.nil)) rfl) (pc rfl (.box (.cons ldR' (.cons (.sc _) (.nil))) rfl) (pc rfl (.box (.cons (ldP rfl rfl) .nil) rfl) (pc rfl (.box (.cons (.sc _) (.nil)) rfl) pn)))) rfl rfl rfl rfl rfl (by first | rfl | exact renR | exact renA | exact renS | simp only [V.ren, V.rens, renR, renA, renS] | (simp only [V.ren, V.rens, renR, renA, renS]; rfl)) (by simp only [passUps, renBox, renArr]; rfl) ?_
  refine pu (v := .fn _ _) rfl rfl (fun _ => rfl) ?_
  refine fa rfl rfl ti30 rfl rfl ti2 rfl ?_
  refine ldB (v := .sc _) rfl rfl rfl rfl ti2 rfl rfl ?_
  obtain ⟨r4, hr4, hR⟩ := bindE hR
  refine cps (res' := aggV (α := Bound) true r4.1) (ups := [(25, boxB (α := Int) true r1.1), (0, boxB (α := spymake_Stream) false r4.2), (1, .box [.ptr 0 0 0]), (9, boxB (α := Int) true most)]) [25, 0, 1, 9] 85 rfl rfl rfl cb15 (ok15_7 v.Z r1.1 r3.2 most _ hr4) (.cons (.sc _) (.cons (ldP rfl rfl) (.cons (ldP rfl rfl) (.cons (ldP rfl rfl) (.nil))))) (pc rfl (.box (.cons (.sc _) (.nil)) rfl) (pc rfl (.box (.cons ldR' (.cons (.sc _) (.nil))) rfl) (pc rfl (.box (.cons (ldP rfl rfl) .nil) rfl) (pc rfl (.box (.cons (.sc _) (.nil)) rfl) pn)))) rfl rfl rfl rfl rfl (by first | rfl | exact renR | exact renA | exact renS | simp only [V.ren, V.rens, renR, renA, renS] | (simp only [V.ren, V.rens, renR, renA, renS]; rfl)) (by simp only [passUps, renBox, renArr]; rfl) ?_
  refine bu (cs := [.sc (.int .i64 r2.1.Lo), .sc (.int .i64 r2.1.Hi), .sc (.bool r2.1.Unknown), .sc (.int .i64 r3.1.Lo), .sc (.int .i64 r3.1.Hi), .sc (.bool r3.1.Unknown), .sc (.int .i64 r4.1.Lo), .sc (.int .i64 r4.1.Hi), .sc (.bool r4.1.Unknown)]) rfl bt40 rfl ?_
  refine stB (cs' := [.sc (.int .i64 r2.1.Lo), .sc (.int .i64 r2.1.Hi), .sc (.bool r2.1.Unknown), .sc (.int .i64 r3.1.Lo), .sc (.int .i64 r3.1.Hi), .sc (.bool r3.1.Unknown), .sc (.int .i64 r4.1.Lo), .sc (.int .i64 r4.1.Hi), .sc (.bool r4.1.Unknown)]) rfl rfl rfl rfl ti40 rfl rfl rfl rfl rfl ?_
  refine RunC.fin ?_
  refine AWP.ret ?_
  have hR := Option.some.inj hR; subst hR
  exact hQ _ _ (LS.mk [(6, .ptr 1 0 0)] (lblks 0 [boxB (α := spymake_Stream) false r4.2, boxB (α := Box) true (Box.mk r2.1 r3.1 r4.1)]) 2) (aggV (α := Box) true (Box.mk r2.1 r3.1 r4.1)) [] (.inr rfl) (Weak.turnL [(0, 0), (13, 0)] [] rfl rfl (tc (trP' rfl rfl rfl rfl) tn) (mc rfl (.box rfl (.cons trR1 (.cons (.sc _) (.nil))) rfl) (mc rfl (.box rfl (.cons (.sc _) (.cons (.sc _) (.cons (.sc _) (.cons (.sc _) (.cons (.sc _) (.cons (.sc _) (.cons (.sc _) (.cons (.sc _) (.cons (.sc _) (.nil)))))))))) rfl) mn))) (ro1 (rvC (v := aggV (α := Box) true (Box.mk r2.1 r3.1 r4.1)) rfl rfl ti40 rfl)) rfl rfl ldA (pc rfl bldB pn)
theorem ok7_9 (s : List Row) (r : (List Row)) (hR : slices_Clone_Row s = some r) : FnD Try.prog 7 [] [rowV false s] (slV Row 0 0 0 r.length) [arrB (α := Row) 45 0 true r] := by
  refine FnX.walk Try.func7 rfl 8 0 (by simp [Try.ntmps7]) rfl fun W S F Q hQ => ?_
  unfold slices_Clone_Row at hR
  refine AWP.sq ?_
  refine AWP.rgC 4 rfl rfl ?_
  refine pu (v := .sc _) rfl rfl (fun _ => rfl) ?_
  refine RunC.fin ?_
  refine AWP.sq ?_
  refine AWP.sq ?_
  refine AWP.rgC 12 rfl rfl ?_
  refine pu (v := rowV _ s) rfl rfl (fun _ => rfl) ?_
  refine nilE hR rfl rfl rfl (by rw [ti26]; rfl) (fun hR h1 => ?_) fun hR => ?_
  · refine RunC.fin ?_
    refine AWP.cdT rfl ?_
    refine AWP.sq ?_
    refine AWP.rgC 16 rfl rfl ?_
    refine pu (v := .sc _) rfl rfl (fun _ => rfl) ?_
    refine RunC.fin ?_
    refine AWP.nilT Row 2 45 rfl ?_
    refine AWP.ret ?_
    refine rtT ?_
    have hR := Option.some.inj hR; subst hR
    exact hQ _ _ (LS.mk [(2, slV Row 0 0 0 [].length)] (lblks 0 [arrB (α := Row) 45 0 true []]) 1) (slV Row 0 0 0 [].length) [0] (.inr rfl) (Weak.turnL [(16, 0)] [] rfl rfl (tc (trS' rfl rfl rfl rfl rfl) tn) (mc rfl (btrA' rfl) mn)) (ro1 (rvT (v := slV Row 0 0 0 [].length) rfl)) rfl rfl (ldM rfl rfl) (pc rfl bldA pn)
  · refine RunC.fin ?_
    refine AWP.cdF rfl ?_
    refine AWP.skip ?_
    refine skT ?_
    refine AWP.sq ?_
    refine AWP.rgC 28 rfl rfl ?_
    refine bs (α := Row) 12 true ([] : List Row) rfl rfl ti26 rfl ti45 rfl rfl rfl rfl rfl ?_
    refine pu (v := rowV _ s) rfl rfl (fun _ => rfl) ?_
    obtain ⟨h2, hR⟩ := chkE hR
    refine ap' (α := Row) (nw := true) (xs := ([] : List Row)) (ys := s) rfl rfl rfl rfl (srcR2 rfl (fun _ => rfl)) ti26 rfl ti45 rfl h2 rfl ?_
    refine pu (v := slV Row _ _ _ _) rfl rfl (fun _ => rfl) ?_
    refine RunC.fin ?_
    refine AWP.ret ?_
    have hR := Option.some.inj hR; subst hR
    exact hQ _ _ (LS.mk [(2, slV Row 0 0 0 (([] : List Row) ++ s).length)] (lblks 0 [arrB (α := Row) 45 0 true (([] : List Row) ++ s)]) 1) (slV Row 0 0 0 (([] : List Row) ++ s).length) [0] (.inr rfl) (Weak.turnL [(12, 0)] [] rfl rfl (tc (trS' rfl rfl rfl rfl rfl) tn) (mc rfl (btrA' rfl) mn)) (ro1 (rvT (v := slV Row 0 0 0 (([] : List Row) ++ s).length) rfl)) rfl rfl (ldM rfl rfl) (pc rfl bldA pn)
theorem ok16 (b : Bound) (r : Int) (hR : bound_Check b = some r) : FnP Try.prog 16 [aggV false b] (.sc (.int .i64 r)) := by
  refine fnP_of (FnX.walk Try.func16 rfl 37 0 (by simp [Try.ntmps16]) rfl fun W S F Q hQ => ?_)
  unfold bound_Check at hR
  refine AWP.sq ?_
  refine AWP.rgC 8 rfl rfl ?_
  refine bx (cs := _) 0 rfl rfl rfl ?_
  refine pu (v := .sc _) rfl rfl (fun _ => rfl) ?_
  refine RunC.fin ?_
  refine AWP.sq ?_
  refine AWP.block ?_
  refine AWP.joinX (fun z1 : Bool => LS.mk [(1, .ptr 0 0 0), (3, .sc (.bool z1))] (lblks 0 [boxB (α := Bound) true b]) 1) hR (fun o1 hR => ?_) fun z1 hR => ?_
  · refine AWP.rgC 60 rfl rfl ?_
    refine fa rfl rfl ti38 rfl rfl ti4 rfl ?_
    refine ldB (v := .sc _) rfl rfl rfl rfl ti4 rfl rfl ?_
    refine pu (v := .sc _) rfl rfl (fun _ => rfl) ?_
    refine brR hR (fun h2 hR => ?_) fun h2 hR => ?_
    · refine fa (wtG rfl rfl rfl h2) rfl ti38 rfl rfl ti36 rfl ?_
      refine ldB (v := .sc _) (wtG rfl rfl rfl h2) rfl rfl rfl ti36 rfl rfl ?_
      refine pu (v := .sc _) (wtG rfl rfl rfl h2) rfl (fun _ => rfl) ?_
      refine pu (v := .sc _) (wtG rfl rfl rfl h2) rfl (fun _ => rfl) ?_
      refine brR hR (fun h3 hR => ?_) fun h3 hR => ?_
      · refine sk (skW rfl rfl rfl h3) ?_
        refine sk (skW rfl rfl rfl h3) ?_
        refine sk (skW rfl rfl rfl h3) ?_
        refine pkT (v := .sc (.bool true)) (wtG rfl rfl rfl h2) rfl h3 rfl ?_
        refine pkT (v := .sc (.bool true)) rfl rfl h2 rfl ?_
        refine pu (v := .sc _) rfl rfl (fun _ => rfl) ?_
        refine RunC.fin ?_
        have hR := Option.some.inj hR; subst hR
        exact Weak.turnL [(0, 0)] [] rfl rfl (tc (trP' rfl rfl rfl rfl) (tc (.sc _) tn)) (mc rfl (.box rfl (.cons (.sc _) (.cons (.sc _) (.cons (.sc _) (.nil)))) rfl) mn)
      · refine fa (wtG rfl rfl rfl h3) rfl ti38 rfl rfl ti36 rfl ?_
        refine ldB (v := .sc _) (wtG rfl rfl rfl h3) rfl rfl rfl ti36 rfl rfl ?_
        refine pu (v := .sc _) (wtG rfl rfl rfl h3) rfl (fun _ => rfl) ?_
        refine pkF (v := .sc (.bool (b.Hi != 0))) (wtG rfl rfl rfl h2) rfl h3 rfl ?_
        refine pkT (v := .sc (.bool (b.Hi != 0))) rfl rfl h2 rfl ?_
        refine pu (v := .sc _) rfl rfl (fun _ => rfl) ?_
        refine RunC.fin ?_
        have hR := Option.some.inj hR; subst hR
        exact Weak.turnL [(0, 0)] [] rfl rfl (tc (trP' rfl rfl rfl rfl) (tc (.sc _) tn)) (mc rfl (.box rfl (.cons (.sc _) (.cons (.sc _) (.cons (.sc _) (.nil)))) rfl) mn)
    · refine sk (skW rfl rfl rfl h2) ?_
      refine sk (skW rfl rfl rfl h2) ?_
      refine sk (skW rfl rfl rfl h2) ?_
      refine sk (skW rfl rfl rfl h2) ?_
      refine sk (skW2 rfl rfl rfl) ?_
      refine sk (skW2 rfl rfl rfl) ?_
      refine sk (skW2 rfl rfl rfl) ?_
      refine sk (skW rfl rfl rfl h2) ?_
      refine pkF (v := .sc (.bool false)) rfl rfl h2 rfl ?_
      refine pu (v := .sc _) rfl rfl (fun _ => rfl) ?_
      refine RunC.fin ?_
      have hR := Option.some.inj hR; subst hR
      exact Weak.turnL [(0, 0)] [] rfl rfl (tc (trP' rfl rfl rfl rfl) (tc (.sc _) tn)) (mc rfl (.box rfl (.cons (.sc _) (.cons (.sc _) (.cons (.sc _) (.nil)))) rfl) mn)
  · refine AWP.cd hR rfl (fun h4 hR => ?_) fun h4 hR => ?_
    · refine AWP.sq ?_
      refine AWP.rgC 5 rfl rfl ?_
      refine pu (v := .sc _) rfl rfl (fun _ => rfl) ?_
      refine RunC.fin ?_
      refine AWP.ret ?_
      refine rtB ?_
      refine rtT ?_
      have hR := Option.some.inj hR; subst hR
      exact hQ _ _ (LS.mk [(2, .sc (.int .i64 3))] (lblks 0 []) 0) (.sc (.int .i64 3)) [] (.inr rfl) (Weak.turnL [] [] rfl rfl (tc (.sc _) tn) mn) (ro1 (rvT (v := .sc (.int .i64 3)) rfl)) rfl rfl (.sc _) pn
    · refine AWP.joinX (fun z5 : Bool => LS.mk [(1, .ptr 0 0 0), (16, .sc (.bool z5))] (lblks 0 [boxB (α := Bound) true b]) 1) hR (fun o5 hR => ?_) fun z5 hR => ?_
      · refine AWP.rgC 61 rfl rfl ?_
        refine fa rfl rfl ti38 rfl rfl ti36 rfl ?_
        refine ldB (v := .sc _) rfl rfl rfl rfl ti36 rfl rfl ?_
        refine fa rfl rfl ti38 rfl rfl ti36 rfl ?_
        refine ldB (v := .sc _) rfl rfl rfl rfl ti36 rfl rfl ?_
        refine pu (v := .sc _) rfl rfl (fun _ => rfl) ?_
        refine pu (v := .sc _) rfl rfl (fun _ => rfl) ?_
        refine pu (v := .sc _) rfl rfl (fun _ => rfl) ?_
        refine brR hR (fun h6 hR => ?_) fun h6 hR => ?_
        · refine sk (skW rfl rfl rfl h6) ?_
          refine sk (skW rfl rfl rfl h6) ?_
          refine sk (skW rfl rfl rfl h6) ?_
          refine sk (skW rfl rfl rfl h6) ?_
          refine sk (skW rfl rfl rfl h6) ?_
          refine sk (skW rfl rfl rfl h6) ?_
          refine pkT (v := .sc (.bool true)) rfl rfl h6 rfl ?_
          refine pu (v := .sc _) rfl rfl (fun _ => rfl) ?_
          refine RunC.fin ?_
          have hR := Option.some.inj hR; subst hR
          exact Weak.turnL [(0, 0)] [] rfl rfl (tc (trP' rfl rfl rfl rfl) (tc (.sc _) tn)) (mc rfl (.box rfl (.cons (.sc _) (.cons (.sc _) (.cons (.sc _) (.nil)))) rfl) mn)
        · refine fa (wtG rfl rfl rfl h6) rfl ti38 rfl rfl ti36 rfl ?_
          refine ldB (v := .sc _) (wtG rfl rfl rfl h6) rfl rfl rfl ti36 rfl rfl ?_
          refine fa (wtG rfl rfl rfl h6) rfl ti38 rfl rfl ti36 rfl ?_
          refine ldB (v := .sc _) (wtG rfl rfl rfl h6) rfl rfl rfl ti36 rfl rfl ?_
          refine pu (v := .sc _) (wtG rfl rfl rfl h6) rfl (fun _ => rfl) ?_
          refine pu (v := .sc _) (wtG rfl rfl rfl h6) rfl (fun _ => rfl) ?_
          refine pkF (v := .sc (.bool (decide ((mx2 b.Lo b.Hi) > 1152921504606846976)))) rfl rfl h6 rfl ?_
          refine pu (v := .sc _) rfl rfl (fun _ => rfl) ?_
          refine RunC.fin ?_
          have hR := Option.some.inj hR; subst hR
          exact Weak.turnL [(0, 0)] [] rfl rfl (tc (trP' rfl rfl rfl rfl) (tc (.sc _) tn)) (mc rfl (.box rfl (.cons (.sc _) (.cons (.sc _) (.cons (.sc _) (.nil)))) rfl) mn)
      · refine AWP.cd hR rfl (fun h7 hR => ?_) fun h7 hR => ?_
        · refine AWP.sq ?_
          refine AWP.rgC 5 rfl rfl ?_
          refine pu (v := .sc _) rfl rfl (fun _ => rfl) ?_
          refine RunC.fin ?_
          refine AWP.ret ?_
          refine rtB ?_
          refine rtT ?_
          have hR := Option.some.inj hR; subst hR
          exact hQ _ _ (LS.mk [(2, .sc (.int .i64 4))] (lblks 0 []) 0) (.sc (.int .i64 4)) [] (.inr rfl) (Weak.turnL [] [] rfl rfl (tc (.sc _) tn) mn) (ro1 (rvT (v := .sc (.int .i64 4)) rfl)) rfl rfl (.sc _) pn
        · refine AWP.sq ?_
          refine AWP.rgC 25 rfl rfl ?_
          refine fa rfl rfl ti38 rfl rfl ti36 rfl ?_
          refine ldB (v := .sc _) rfl rfl rfl rfl ti36 rfl rfl ?_
          refine fa rfl rfl ti38 rfl rfl ti36 rfl ?_
          refine ldB (v := .sc _) rfl rfl rfl rfl ti36 rfl rfl ?_
          refine pu (v := .sc _) rfl rfl (fun _ => rfl) ?_
          refine pu (v := .sc _) rfl rfl (fun _ => rfl) ?_
          refine RunC.fin ?_
          refine AWP.cd hR rfl (fun h8 hR => ?_) fun h8 hR => ?_
          · refine AWP.sq ?_
            refine AWP.rgC 29 rfl rfl ?_
            refine pu (v := .sc _) rfl rfl (fun _ => rfl) ?_
            refine RunC.fin ?_
            refine AWP.ret ?_
            refine rtB ?_
            refine rtT ?_
            have hR := Option.some.inj hR; subst hR
            exact hQ _ _ (LS.mk [(2, .sc (.int .i64 11))] (lblks 0 []) 0) (.sc (.int .i64 11)) [] (.inr rfl) (Weak.turnL [] [] rfl rfl (tc (.sc _) tn) mn) (ro1 (rvT (v := .sc (.int .i64 11)) rfl)) rfl rfl (.sc _) pn
          · refine AWP.skip ?_
            refine skB ?_
            refine skT ?_
            refine AWP.sq ?_
            refine AWP.rgC 29 rfl rfl ?_
            refine pu (v := .sc _) rfl rfl (fun _ => rfl) ?_
            refine RunC.fin ?_
            refine AWP.ret ?_
            have hR := Option.some.inj hR; subst hR
            exact hQ _ _ (LS.mk [(2, .sc (.int .i64 0))] (lblks 0 []) 0) (.sc (.int .i64 0)) [] (.inr rfl) (Weak.turnL [] [] rfl rfl (tc (.sc _) tn) mn) (ro1 (rvT (v := .sc (.int .i64 0)) rfl)) rfl rfl (.sc _) pn
theorem ok28 (a : Int) (r : NU64) (hR : num_size a = some r) : FnP Try.prog 28 [.sc (.int .i64 a)] (.sc (.int .u64 r.n)) := by
  refine fnP_of (FnX.walk Try.func28 rfl 10 0 (by simp [Try.ntmps28]) rfl fun W S F Q hQ => ?_)
  unfold num_size at hR
  refine AWP.sq ?_
  refine AWP.rgC 4 rfl rfl ?_
  refine pu (v := .sc _) rfl rfl (fun _ => rfl) ?_
  refine RunC.fin ?_
  refine AWP.sq ?_
  refine AWP.sq ?_
  refine AWP.rgC 12 rfl rfl ?_
  refine pu (v := .sc _) rfl rfl (fun _ => rfl) ?_
  refine pu (v := .sc _) rfl rfl (fun _ => rfl) ?_
  refine RunC.fin ?_
  refine AWP.cd hR rfl (fun h1 hR => ?_) fun h1 hR => ?_
  · refine AWP.sq ?_
    refine AWP.rgC 28 rfl rfl ?_
    refine pu (v := .sc _) rfl rfl (fun _ => rfl) ?_
    refine cn rfl rfl ti2 rfl ti65 rfl rfl ?_
    refine pu (v := .sc _) rfl rfl (fun _ => rfl) ?_
    refine pu (v := .sc _) rfl rfl (fun _ => rfl) ?_
    refine RunC.fin ?_
    refine AWP.ret ?_
    refine rtT ?_
    have hR := Option.some.inj hR; subst hR
    exact hQ _ _ (LS.mk [(2, .sc (.int .u64 (IntKind.wrap .u64 (0 - (IntKind.wrap .u64 a)))))] (lblks 0 []) 0) (.sc (.int .u64 (IntKind.wrap .u64 (0 - (IntKind.wrap .u64 a))))) [] (.inr rfl) (Weak.turnL [] [] rfl rfl (tc (.sc _) tn) mn) (ro1 (rvT (v := .sc (.int .u64 (IntKind.wrap .u64 (0 - (IntKind.wrap .u64 a))))) rfl)) rfl rfl (.sc _) pn
  · refine AWP.skip ?_
    refine skT ?_
    refine AWP.sq ?_
    refine AWP.rgC 24 rfl rfl ?_
    refine pu (v := .sc _) rfl rfl (fun _ => rfl) ?_
    refine cn rfl rfl ti2 rfl ti65 rfl rfl ?_
    refine pu (v := .sc _) rfl rfl (fun _ => rfl) ?_
    refine RunC.fin ?_
    refine AWP.ret ?_
    have hR := Option.some.inj hR; subst hR
    exact hQ _ _ (LS.mk [(2, .sc (.int .u64 (IntKind.wrap .u64 a)))] (lblks 0 []) 0) (.sc (.int .u64 (IntKind.wrap .u64 a))) [] (.inr rfl) (Weak.turnL [] [] rfl rfl (tc (.sc _) tn) mn) (ro1 (rvT (v := .sc (.int .u64 (IntKind.wrap .u64 a))) rfl)) rfl rfl (.sc _) pn
theorem ok27 (x : Int) (y : Int) (r : NU64 × NU64) (hR : bits_Mul64 x y = some r) : FnP Try.prog 27 [.sc (.int .u64 x), .sc (.int .u64 y)] (.tup [.sc (.int .u64 r.1.n), .sc (.int .u64 r.2.n)]) := by
  refine fnP_of (FnX.walk Try.func27 rfl 51 0 (by simp [Try.ntmps27]) rfl fun W S F Q hQ => ?_)
  unfold bits_Mul64 at hR
  refine AWP.sq ?_
  refine AWP.rgC 8 rfl rfl ?_
  refine pu (v := .sc _) rfl rfl (fun _ => rfl) ?_
  refine pu (v := .sc _) rfl rfl (fun _ => rfl) ?_
  refine RunC.fin ?_
  refine AWP.sq ?_
  refine AWP.rgC 20 rfl rfl ?_
  refine pu (v := .sc _) rfl rfl (fun _ => rfl) ?_
  obtain ⟨v1, ev1, hR⟩ := letE hR
  refine pu (v := .sc _) rfl rfl (fun _ => puI ev1) ?_
  refine pu (v := .sc _) rfl rfl (fun _ => rfl) ?_
  refine RunC.fin ?_
  refine AWP.sq ?_
  refine AWP.rgC 32 rfl rfl ?_
  refine pu (v := .sc _) rfl rfl (fun _ => rfl) ?_
  refine pu (v := .sc _) rfl rfl (fun _ => rfl) ?_
  refine pu (v := .sc _) rfl rfl (fun _ => rfl) ?_
  refine RunC.fin ?_
  refine AWP.sq ?_
  refine AWP.rgC 44 rfl rfl ?_
  refine pu (v := .sc _) rfl rfl (fun _ => rfl) ?_
  obtain ⟨v2, ev2, hR⟩ := letE hR
  refine pu (v := .sc _) rfl rfl (fun _ => puI ev2) ?_
  refine pu (v := .sc _) rfl rfl (fun _ => rfl) ?_
  refine RunC.fin ?_
  refine AWP.sq ?_
  refine AWP.rgC 56 rfl rfl ?_
  refine pu (v := .sc _) rfl rfl (fun _ => rfl) ?_
  refine pu (v := .sc _) rfl rfl (fun _ => rfl) ?_
  refine pu (v := .sc _) rfl rfl (fun _ => rfl) ?_
  refine RunC.fin ?_
  refine AWP.sq ?_
  refine AWP.rgC 72 rfl rfl ?_
  refine pu (v := .sc _) rfl rfl (fun _ => rfl) ?_
  refine pu (v := .sc _) rfl rfl (fun _ => rfl) ?_
  refine pu (v := .sc _) rfl rfl (fun _ => rfl) ?_
  refine pu (v := .sc _) rfl rfl (fun _ => rfl) ?_
  refine RunC.fin ?_
  refine AWP.sq ?_
  refine AWP.rgC 100 rfl rfl ?_
  refine pu (v := .sc _) rfl rfl (fun _ => rfl) ?_
  refine pu (v := .sc _) rfl rfl (fun _ => rfl) ?_
  refine pu (v := .sc _) rfl rfl (fun _ => rfl) ?_
  refine pu (v := .sc _) rfl rfl (fun _ => rfl) ?_
  refine pu (v := .sc _) rfl rfl (fun _ => rfl) ?_
  obtain ⟨v3, ev3, hR⟩ := letE hR
  refine pu (v := .sc _) rfl rfl (fun _ => puI ev3) ?_
  refine pu (v := .sc _) rfl rfl (fun _ => rfl) ?_
  refine RunC.fin ?_
  refine AWP.sq ?_
  refine AWP.rgC 112 rfl rfl ?_
  refine pu (v := .sc _) rfl rfl (fun _ => rfl) ?_
  obtain ⟨v4, ev4, hR⟩ := letE hR
  refine pu (v := .sc _) rfl rfl (fun _ => puI ev4) ?_
  refine pu (v := .sc _) rfl rfl (fun _ => rfl) ?_
  refine RunC.fin ?_
  refine AWP.sq ?_
  refine AWP.rgC 124 rfl rfl ?_
  refine pu (v := .sc _) rfl rfl (fun _ => rfl) ?_
  refine pu (v := .sc _) rfl rfl (fun _ => rfl) ?_
  refine pu (v := .sc _) rfl rfl (fun _ => rfl) ?_
  refine RunC.fin ?_
  refine AWP.sq ?_
  refine AWP.rgC 148 rfl rfl ?_
  refine pu (v := .sc _) rfl rfl (fun _ => rfl) ?_
  refine pu (v := .sc _) rfl rfl (fun _ => rfl) ?_
  refine pu (v := .sc _) rfl rfl (fun _ => rfl) ?_
  refine pu (v := .sc _) rfl rfl (fun _ => rfl) ?_
  obtain ⟨v5, ev5, hR⟩ := letE hR
  refine pu (v := .sc _) rfl rfl (fun _ => puI ev5) ?_
  refine pu (v := .sc _) rfl rfl (fun _ => rfl) ?_
  refine RunC.fin ?_
  refine AWP.sq ?_
  refine AWP.rgC 184 rfl rfl ?_
  refine pu (v := .sc _) rfl rfl (fun _ => rfl) ?_
  refine pu (v := .sc _) rfl rfl (fun _ => rfl) ?_
  obtain ⟨v6, ev6, hR⟩ := letE hR
  refine pu (v := .sc _) rfl rfl (fun _ => puI ev6) ?_
  refine pu (v := .sc _) rfl rfl (fun _ => rfl) ?_
  refine pu (v := .sc _) rfl rfl (fun _ => rfl) ?_
  refine pu (v := .sc _) rfl rfl (fun _ => rfl) ?_
  refine pu (v := .sc _) rfl rfl (fun _ => rfl) ?_
  obtain ⟨v7, ev7, hR⟩ := letE hR
  refine pu (v := .sc _) rfl rfl (fun _ => puI ev7) ?_
  refine pu (v := .sc _) rfl rfl (fun _ => rfl) ?_
  refine RunC.fin ?_
  refine AWP.sq ?_
  refine AWP.rgC 200 rfl rfl ?_
  refine pu (v := .sc _) rfl rfl (fun _ => rfl) ?_
  refine pu (v := .sc _) rfl rfl (fun _ => rfl) ?_
  refine pu (v := .sc _) rfl rfl (fun _ => rfl) ?_
  refine pu (v := .sc _) rfl rfl (fun _ => rfl) ?_
  refine RunC.fin ?_
  refine AWP.ret ?_
  have hR := Option.some.inj hR; subst hR
  exact hQ _ _ (LS.mk [(4, .sc (.int .u64 v7)), (5, .sc (.int .u64 (IntKind.wrap .u64 (x * y))))] (lblks 0 []) 0) (.tup [.sc (.int .u64 v7), .sc (.int .u64 (IntKind.wrap .u64 (x * y)))]) [] (.inr rfl) (Weak.turnL [] [] rfl rfl (tc (.sc _) (tc (.sc _) tn)) mn) (ro2 (rvT (v := .sc (.int .u64 v7)) rfl) (rvT (v := .sc (.int .u64 (IntKind.wrap .u64 (x * y)))) rfl)) rfl rfl (.tup (.cons (.sc _) (.cons (.sc _) .nil))) pn
theorem ok29 (w : num_Wide) (r : num_Wide) (hR : Wide_Neg w = some r) : FnP Try.prog 29 [aggV false w] (aggV (α := num_Wide) true r) := by
  refine fnP_of (FnX.walk Try.func29 rfl 27 0 (by simp [Try.ntmps29]) rfl fun W S F Q hQ => ?_)
  unfold Wide_Neg at hR
  refine AWP.sq ?_
  refine AWP.rgC 8 rfl rfl ?_
  refine bx (cs := _) 0 rfl rfl rfl ?_
  refine al (cs := [.sc (.int .i64 0), .sc (.int .u64 0)]) 4 rfl rfl ti67 rfl rfl ?_
  refine RunC.fin ?_
  refine AWP.sq ?_
  refine AWP.rgC 44 rfl rfl ?_
  refine fa rfl rfl ti67 rfl rfl ti65 rfl ?_
  refine ldB (v := .sc _) rfl rfl rfl rfl ti65 rfl rfl ?_
  obtain ⟨v1, ev1, hR⟩ := letE hR
  refine pu (v := .sc _) rfl rfl (fun _ => puI ev1) ?_
  obtain ⟨r2, hr2, hR⟩ := bindE hR
  refine xa rfl xf38 rfl rfl rfl hr2 ?_
  refine pu (v := .tup _) rfl rfl (fun _ => rfl) ?_
  refine pu (v := .sc _) rfl rfl (fun _ => rfl) ?_
  refine pu (v := .sc _) rfl rfl (fun _ => rfl) ?_
  refine pu (v := .sc _) rfl rfl (fun _ => rfl) ?_
  refine pu (v := .sc _) rfl rfl (fun _ => rfl) ?_
  refine RunC.fin ?_
  refine AWP.sq ?_
  refine AWP.rgC 88 rfl rfl ?_
  refine fa rfl rfl ti67 rfl rfl ti2 rfl ?_
  refine ldB (v := .sc _) rfl rfl rfl rfl ti2 rfl rfl ?_
  refine cn rfl rfl ti2 rfl ti65 rfl rfl ?_
  obtain ⟨v3, ev3, hR⟩ := letE hR
  refine pu (v := .sc _) rfl rfl (fun _ => puI ev3) ?_
  refine pu (v := .sc _) rfl rfl (fun _ => rfl) ?_
  obtain ⟨r4, hr4, hR⟩ := bindE hR
  refine xa rfl xf38 rfl rfl rfl hr4 ?_
  refine pu (v := .tup _) rfl rfl (fun _ => rfl) ?_
  refine pu (v := .sc _) rfl rfl (fun _ => rfl) ?_
  refine pu (v := .sc _) rfl rfl (fun _ => rfl) ?_
  refine pu (v := .sc _) rfl rfl (fun _ => rfl) ?_
  refine pu (v := .sc _) rfl rfl (fun _ => rfl) ?_
  refine RunC.fin ?_
  refine AWP.sq ?_
  refine AWP.rgC 108 rfl rfl ?_
  refine pu (v := .sc _) rfl rfl (fun _ => rfl) ?_
  refine cn rfl rfl ti65 rfl ti2 rfl rfl ?_
  refine pu (v := .sc _) rfl rfl (fun _ => rfl) ?_
  refine bu (cs := [.sc (.int .i64 (w6 r4.1)), .sc (.int .u64 r2.1)]) rfl bt67 rfl ?_
  refine stB (cs' := [.sc (.int .i64 (w6 r4.1)), .sc (.int .u64 r2.1)]) rfl rfl rfl rfl ti67 rfl rfl rfl rfl rfl ?_
  refine RunC.fin ?_
  refine AWP.ret ?_
  have hR := Option.some.inj hR; subst hR
  exact hQ _ _ (LS.mk [(2, .ptr 0 0 0)] (lblks 0 [boxB (α := num_Wide) true (num_Wide.mk (w6 r4.1) (NU64.mk r2.1))]) 1) (aggV (α := num_Wide) true (num_Wide.mk (w6 r4.1) (NU64.mk r2.1))) [] (.inr rfl) (Weak.turnL [(4, 0)] [] rfl rfl (tc (trP' rfl rfl rfl rfl) tn) (mc rfl (.box rfl (.cons (.sc _) (.cons (.sc _) (.nil))) rfl) mn)) (ro1 (rvC (v := aggV (α := num_Wide) true (num_Wide.mk (w6 r4.1) (NU64.mk r2.1))) rfl rfl ti67 rfl)) rfl rfl ldA pn
theorem ok18 (a : Int) (b : Int) (r : num_Wide) (hR : num_Product a b = some r) : FnP Try.prog 18 [.sc (.int .i64 a), .sc (.int .i64 b)] (aggV (α := num_Wide) true r) := by
  refine fnP_of (FnX.walk Try.func18 rfl 28 0 (by simp [Try.ntmps18]) rfl fun W S F Q hQ => ?_)
  unfold num_Product at hR
  refine AWP.sq ?_
  refine AWP.rgC 4 rfl rfl ?_
  refine al (cs := [.sc (.int .i64 0), .sc (.int .u64 0)]) 0 rfl rfl ti67 rfl rfl ?_
  refine RunC.fin ?_
  refine AWP.sq ?_
  refine AWP.rgC 44 rfl rfl ?_
  refine pu (v := .sc _) rfl rfl (fun _ => rfl) ?_
  obtain ⟨r1, hr1, hR⟩ := bindE hR
  refine cls [] rfl rfl cb28 (ok28 a _ hr1) (.cons (.sc _) (.nil)) (.inr rfl) rfl ?_
  refine pu (v := .sc _) rfl rfl (fun _ => rfl) ?_
  obtain ⟨r2, hr2, hR⟩ := bindE hR
  refine cls [] rfl rfl cb28 (ok28 b _ hr2) (.cons (.sc _) (.nil)) (.inr rfl) rfl ?_
  obtain ⟨r3, hr3, hR⟩ := bindE hR
  refine cls [] rfl rfl cb27 (ok27 r1.n r2.n _ hr3) (.cons (.sc _) (.cons (.sc _) (.nil))) (.inr rfl) rfl ?_
  refine pu (v := .tup _) rfl rfl (fun _ => rfl) ?_
  refine pu (v := .sc _) rfl rfl (fun _ => rfl) ?_
  refine pu (v := .sc _) rfl rfl (fun _ => rfl) ?_
  refine pu (v := .sc _) rfl rfl (fun _ => rfl) ?_
  refine pu (v := .sc _) rfl rfl (fun _ => rfl) ?_
  refine RunC.fin ?_
  refine AWP.sq ?_
  refine AWP.rgC 68 rfl rfl ?_
  refine pu (v := .sc _) rfl rfl (fun _ => rfl) ?_
  refine cn rfl rfl ti65 rfl ti2 rfl rfl ?_
  refine pu (v := .sc _) rfl rfl (fun _ => rfl) ?_
  refine bu (cs := [.sc (.int .i64 (w6 r3.1.n)), .sc (.int .u64 r3.2.n)]) rfl bt67 rfl ?_
  refine al (cs := [.sc (.int .i64 0), .sc (.int .u64 0)]) 60 rfl rfl ti67 rfl rfl ?_
  refine stB (cs' := [.sc (.int .i64 (w6 r3.1.n)), .sc (.int .u64 r3.2.n)]) rfl rfl rfl rfl ti67 rfl rfl rfl rfl rfl ?_
  refine RunC.fin ?_
  refine AWP.sq ?_
  refine AWP.sq ?_
  refine AWP.rgC 88 rfl rfl ?_
  refine pu (v := .sc _) rfl rfl (fun _ => rfl) ?_
  refine pu (v := .sc _) rfl rfl (fun _ => rfl) ?_
  refine pu (v := .sc _) rfl rfl (fun _ => rfl) ?_
  refine pu (v := .sc _) rfl rfl (fun _ => rfl) ?_
  refine nb rfl rfl rfl ti4 rfl rfl ?_
  refine RunC.fin ?_
  refine AWP.cd hR rfl (fun h4 hR => ?_) fun h4 hR => ?_
  · refine AWP.sq ?_
    refine AWP.rgC 100 rfl rfl ?_
    refine ldB (v := .agg _) rfl rfl rfl rfl ti67 rfl rfl ?_
    obtain ⟨r5, hr5, hR⟩ := bindE hR
    refine cls [] rfl rfl cb29 (ok29 (num_Wide.mk (w6 r3.1.n) r3.2) _ hr5) (.cons (.agg (.cons (.sc _) (.cons (.sc _) (.nil))) rfl) (.nil)) (.inr rfl) rfl ?_
    refine stB (cs' := [.sc (.int .i64 r5.Hi), .sc (.int .u64 r5.Lo.n)]) rfl rfl rfl rfl ti67 rfl rfl rfl rfl rfl ?_
    refine RunC.fin ?_
    refine AWP.ret ?_
    refine rtT ?_
    have hR := Option.some.inj hR; subst hR
    exact hQ _ _ (LS.mk [(4, .ptr 0 0 0)] (lblks 0 [boxB (α := num_Wide) true r5]) 1) (aggV (α := num_Wide) true r5) [] (.inr rfl) (Weak.turnL [(0, 0)] [] rfl rfl (tc (trP' rfl rfl rfl rfl) tn) (mc rfl (.box rfl (.cons (.sc _) (.cons (.sc _) (.nil))) rfl) mn)) (ro1 (rvC (v := aggV (α := num_Wide) true r5) rfl rfl ti67 rfl)) rfl rfl ldA pn
  · refine AWP.skip ?_
    refine skT ?_
    refine AWP.sq ?_
    refine AWP.rgC 96 rfl rfl ?_
    refine ldB (v := .agg _) rfl rfl rfl rfl ti67 rfl rfl ?_
    refine stB (cs' := [.sc (.int .i64 (w6 r3.1.n)), .sc (.int .u64 r3.2.n)]) rfl rfl rfl rfl ti67 rfl rfl rfl rfl rfl ?_
    refine RunC.fin ?_
    refine AWP.ret ?_
    have hR := Option.some.inj hR; subst hR
    exact hQ _ _ (LS.mk [(4, .ptr 0 0 0)] (lblks 0 [boxB (α := num_Wide) true (num_Wide.mk (w6 r3.1.n) r3.2)]) 1) (aggV (α := num_Wide) true (num_Wide.mk (w6 r3.1.n) r3.2)) [] (.inr rfl) (Weak.turnL [(0, 0)] [] rfl rfl (tc (trP' rfl rfl rfl rfl) tn) (mc rfl (.box rfl (.cons (.sc _) (.cons (.sc _) (.nil))) rfl) mn)) (ro1 (rvC (v := aggV (α := num_Wide) true (num_Wide.mk (w6 r3.1.n) r3.2)) rfl rfl ti67 rfl)) rfl rfl ldA pn
theorem ok39 (x : Int) (r : Bool) (hR : cmp_isNaN x = some r) : FnP Try.prog 39 [.sc (.int .i64 x)] (.sc (.bool r)) := by
  refine fnP_of (FnX.walk Try.func39 rfl 6 0 (by simp [Try.ntmps39]) rfl fun W S F Q hQ => ?_)
  unfold cmp_isNaN at hR
  refine AWP.sq ?_
  refine AWP.rgC 4 rfl rfl ?_
  refine pu (v := .sc _) rfl rfl (fun _ => rfl) ?_
  refine RunC.fin ?_
  refine AWP.sq ?_
  refine AWP.rgC 20 rfl rfl ?_
  refine pu (v := .sc _) rfl rfl (fun _ => rfl) ?_
  refine pu (v := .sc _) rfl rfl (fun _ => rfl) ?_
  refine pu (v := .sc _) rfl rfl (fun _ => rfl) ?_
  refine pu (v := .sc _) rfl rfl (fun _ => rfl) ?_
  refine RunC.fin ?_
  refine AWP.ret ?_
  have hR := Option.some.inj hR; subst hR
  exact hQ _ _ (LS.mk [(2, .sc (.bool (x != x)))] (lblks 0 []) 0) (.sc (.bool (x != x))) [] (.inr rfl) (Weak.turnL [] [] rfl rfl (tc (.sc _) tn) mn) (ro1 (rvT (v := .sc (.bool (x != x))) rfl)) rfl rfl (.sc _) pn
theorem ok31 (x : Int) (y : Int) (r : Int) (hR : cmp_Compare x y = some r) : FnP Try.prog 31 [.sc (.int .i64 x), .sc (.int .i64 y)] (.sc (.int .i64 r)) := by
  refine fnP_of (FnX.walk Try.func31 rfl 20 0 (by simp [Try.ntmps31]) rfl fun W S F Q hQ => ?_)
  unfold cmp_Compare at hR
  refine AWP.sq ?_
  refine AWP.rgC 4 rfl rfl ?_
  refine pu (v := .sc _) rfl rfl (fun _ => rfl) ?_
  refine RunC.fin ?_
  refine AWP.sq ?_
  refine AWP.rgC 16 rfl rfl ?_
  refine pu (v := .sc _) rfl rfl (fun _ => rfl) ?_
  obtain ⟨r1, hr1, hR⟩ := bindE hR
  refine cls [] rfl rfl cb39 (ok39 x _ hr1) (.cons (.sc _) (.nil)) (.inr rfl) rfl ?_
  refine pu (v := .sc _) rfl rfl (fun _ => rfl) ?_
  refine RunC.fin ?_
  refine AWP.sq ?_
  refine AWP.rgC 28 rfl rfl ?_
  refine pu (v := .sc _) rfl rfl (fun _ => rfl) ?_
  obtain ⟨r2, hr2, hR⟩ := bindE hR
  refine cls [] rfl rfl cb39 (ok39 y _ hr2) (.cons (.sc _) (.nil)) (.inr rfl) rfl ?_
  refine pu (v := .sc _) rfl rfl (fun _ => rfl) ?_
  refine RunC.fin ?_
  refine AWP.sq ?_
  refine AWP.sq ?_
  refine AWP.rgC 32 rfl rfl ?_
  refine pu (v := .sc _) rfl rfl (fun _ => rfl) ?_
  refine RunC.fin ?_
  refine AWP.cd hR rfl (fun h3 hR => ?_) fun h3 hR => ?_
  · refine AWP.sq ?_
    refine AWP.sq ?_
    refine AWP.rgC 36 rfl rfl ?_
    refine pu (v := .sc _) rfl rfl (fun _ => rfl) ?_
    refine RunC.fin ?_
    refine AWP.cd hR rfl (fun h4 hR => ?_) fun h4 hR => ?_
    · refine AWP.sq ?_
      refine AWP.rgC 40 rfl rfl ?_
      refine pu (v := .sc _) rfl rfl (fun _ => rfl) ?_
      refine RunC.fin ?_
      refine AWP.ret ?_
      refine rtT ?_
      refine rtT ?_
      have hR := Option.some.inj hR; subst hR
      exact hQ _ _ (LS.mk [(4, .sc (.int .i64 0))] (lblks 0 []) 0) (.sc (.int .i64 0)) [] (.inr rfl) (Weak.turnL [] [] rfl rfl (tc (.sc _) tn) mn) (ro1 (rvT (v := .sc (.int .i64 0)) rfl)) rfl rfl (.sc _) pn
    · refine AWP.skip ?_
      refine skT ?_
      refine AWP.sq ?_
      refine AWP.rgC 40 rfl rfl ?_
      refine pu (v := .sc _) rfl rfl (fun _ => rfl) ?_
      refine RunC.fin ?_
      refine AWP.ret ?_
      refine rtT ?_
      have hR := Option.some.inj hR; subst hR
      exact hQ _ _ (LS.mk [(4, .sc (.int .i64 (-1)))] (lblks 0 []) 0) (.sc (.int .i64 (-1))) [] (.inr rfl) (Weak.turnL [] [] rfl rfl (tc (.sc _) tn) mn) (ro1 (rvT (v := .sc (.int .i64 (-1))) rfl)) rfl rfl (.sc _) pn
  · refine AWP.skip ?_
    refine skT ?_
    refine AWP.sq ?_
    refine AWP.sq ?_
    refine AWP.rgC 36 rfl rfl ?_
    refine pu (v := .sc _) rfl rfl (fun _ => rfl) ?_
    refine RunC.fin ?_
    refine AWP.cd hR rfl (fun h5 hR => ?_) fun h5 hR => ?_
    · refine AWP.sq ?_
      refine AWP.rgC 40 rfl rfl ?_
      refine pu (v := .sc _) rfl rfl (fun _ => rfl) ?_
      refine RunC.fin ?_
      refine AWP.ret ?_
      refine rtT ?_
      have hR := Option.some.inj hR; subst hR
      exact hQ _ _ (LS.mk [(4, .sc (.int .i64 1))] (lblks 0 []) 0) (.sc (.int .i64 1)) [] (.inr rfl) (Weak.turnL [] [] rfl rfl (tc (.sc _) tn) mn) (ro1 (rvT (v := .sc (.int .i64 1)) rfl)) rfl rfl (.sc _) pn
    · refine AWP.skip ?_
      refine skT ?_
      refine AWP.sq ?_
      refine AWP.sq ?_
      refine AWP.rgC 48 rfl rfl ?_
      refine pu (v := .sc _) rfl rfl (fun _ => rfl) ?_
      refine pu (v := .sc _) rfl rfl (fun _ => rfl) ?_
      refine pu (v := .sc _) rfl rfl (fun _ => rfl) ?_
      refine RunC.fin ?_
      refine AWP.cd hR rfl (fun h6 hR => ?_) fun h6 hR => ?_
      · refine AWP.sq ?_
        refine AWP.rgC 52 rfl rfl ?_
        refine pu (v := .sc _) rfl rfl (fun _ => rfl) ?_
        refine RunC.fin ?_
        refine AWP.ret ?_
        refine rtT ?_
        have hR := Option.some.inj hR; subst hR
        exact hQ _ _ (LS.mk [(4, .sc (.int .i64 (-1)))] (lblks 0 []) 0) (.sc (.int .i64 (-1))) [] (.inr rfl) (Weak.turnL [] [] rfl rfl (tc (.sc _) tn) mn) (ro1 (rvT (v := .sc (.int .i64 (-1))) rfl)) rfl rfl (.sc _) pn
      · refine AWP.skip ?_
        refine skT ?_
        refine AWP.sq ?_
        refine AWP.sq ?_
        refine AWP.rgC 60 rfl rfl ?_
        refine pu (v := .sc _) rfl rfl (fun _ => rfl) ?_
        refine pu (v := .sc _) rfl rfl (fun _ => rfl) ?_
        refine pu (v := .sc _) rfl rfl (fun _ => rfl) ?_
        refine RunC.fin ?_
        refine AWP.cd hR rfl (fun h7 hR => ?_) fun h7 hR => ?_
        · refine AWP.sq ?_
          refine AWP.rgC 64 rfl rfl ?_
          refine pu (v := .sc _) rfl rfl (fun _ => rfl) ?_
          refine RunC.fin ?_
          refine AWP.ret ?_
          refine rtT ?_
          have hR := Option.some.inj hR; subst hR
          exact hQ _ _ (LS.mk [(4, .sc (.int .i64 1))] (lblks 0 []) 0) (.sc (.int .i64 1)) [] (.inr rfl) (Weak.turnL [] [] rfl rfl (tc (.sc _) tn) mn) (ro1 (rvT (v := .sc (.int .i64 1)) rfl)) rfl rfl (.sc _) pn
        · refine AWP.skip ?_
          refine skT ?_
          refine AWP.sq ?_
          refine AWP.rgC 64 rfl rfl ?_
          refine pu (v := .sc _) rfl rfl (fun _ => rfl) ?_
          refine RunC.fin ?_
          refine AWP.ret ?_
          have hR := Option.some.inj hR; subst hR
          exact hQ _ _ (LS.mk [(4, .sc (.int .i64 0))] (lblks 0 []) 0) (.sc (.int .i64 0)) [] (.inr rfl) (Weak.turnL [] [] rfl rfl (tc (.sc _) tn) mn) (ro1 (rvT (v := .sc (.int .i64 0)) rfl)) rfl rfl (.sc _) pn
theorem ok40 (x : Int) (r : Bool) (hR : cmp_isNaN x = some r) : FnP Try.prog 40 [.sc (.int .u64 x)] (.sc (.bool r)) := by
  refine fnP_of (FnX.walk Try.func40 rfl 6 0 (by simp [Try.ntmps40]) rfl fun W S F Q hQ => ?_)
  unfold cmp_isNaN at hR
  refine AWP.sq ?_
  refine AWP.rgC 4 rfl rfl ?_
  refine pu (v := .sc _) rfl rfl (fun _ => rfl) ?_
  refine RunC.fin ?_
  refine AWP.sq ?_
  refine AWP.rgC 20 rfl rfl ?_
  refine pu (v := .sc _) rfl rfl (fun _ => rfl) ?_
  refine pu (v := .sc _) rfl rfl (fun _ => rfl) ?_
  refine pu (v := .sc _) rfl rfl (fun _ => rfl) ?_
  refine pu (v := .sc _) rfl rfl (fun _ => rfl) ?_
  refine RunC.fin ?_
  refine AWP.ret ?_
  have hR := Option.some.inj hR; subst hR
  exact hQ _ _ (LS.mk [(2, .sc (.bool (x != x)))] (lblks 0 []) 0) (.sc (.bool (x != x))) [] (.inr rfl) (Weak.turnL [] [] rfl rfl (tc (.sc _) tn) mn) (ro1 (rvT (v := .sc (.bool (x != x))) rfl)) rfl rfl (.sc _) pn
theorem ok32 (x : Int) (y : Int) (r : Int) (hR : cmp_Compare x y = some r) : FnP Try.prog 32 [.sc (.int .u64 x), .sc (.int .u64 y)] (.sc (.int .i64 r)) := by
  refine fnP_of (FnX.walk Try.func32 rfl 20 0 (by simp [Try.ntmps32]) rfl fun W S F Q hQ => ?_)
  unfold cmp_Compare at hR
  refine AWP.sq ?_
  refine AWP.rgC 4 rfl rfl ?_
  refine pu (v := .sc _) rfl rfl (fun _ => rfl) ?_
  refine RunC.fin ?_
  refine AWP.sq ?_
  refine AWP.rgC 16 rfl rfl ?_
  refine pu (v := .sc _) rfl rfl (fun _ => rfl) ?_
  obtain ⟨r1, hr1, hR⟩ := bindE hR
  refine cls [] rfl rfl cb40 (ok40 x _ hr1) (.cons (.sc _) (.nil)) (.inr rfl) rfl ?_
  refine pu (v := .sc _) rfl rfl (fun _ => rfl) ?_
  refine RunC.fin ?_
  refine AWP.sq ?_
  refine AWP.rgC 28 rfl rfl ?_
  refine pu (v := .sc _) rfl rfl (fun _ => rfl) ?_
  obtain ⟨r2, hr2, hR⟩ := bindE hR
  refine cls [] rfl rfl cb40 (ok40 y _ hr2) (.cons (.sc _) (.nil)) (.inr rfl) rfl ?_
  refine pu (v := .sc _) rfl rfl (fun _ => rfl) ?_
  refine RunC.fin ?_
  refine AWP.sq ?_
  refine AWP.sq ?_
  refine AWP.rgC 32 rfl rfl ?_
  refine pu (v := .sc _) rfl rfl (fun _ => rfl) ?_
  refine RunC.fin ?_
  refine AWP.cd hR rfl (fun h3 hR => ?_) fun h3 hR => ?_
  · refine AWP.sq ?_
    refine AWP.sq ?_
    refine AWP.rgC 36 rfl rfl ?_
    refine pu (v := .sc _) rfl rfl (fun _ => rfl) ?_
    refine RunC.fin ?_
    refine AWP.cd hR rfl (fun h4 hR => ?_) fun h4 hR => ?_
    · refine AWP.sq ?_
      refine AWP.rgC 40 rfl rfl ?_
      refine pu (v := .sc _) rfl rfl (fun _ => rfl) ?_
      refine RunC.fin ?_
      refine AWP.ret ?_
      refine rtT ?_
      refine rtT ?_
      have hR := Option.some.inj hR; subst hR
      exact hQ _ _ (LS.mk [(4, .sc (.int .i64 0))] (lblks 0 []) 0) (.sc (.int .i64 0)) [] (.inr rfl) (Weak.turnL [] [] rfl rfl (tc (.sc _) tn) mn) (ro1 (rvT (v := .sc (.int .i64 0)) rfl)) rfl rfl (.sc _) pn
    · refine AWP.skip ?_
      refine skT ?_
      refine AWP.sq ?_
      refine AWP.rgC 40 rfl rfl ?_
      refine pu (v := .sc _) rfl rfl (fun _ => rfl) ?_
      refine RunC.fin ?_
      refine AWP.ret ?_
      refine rtT ?_
      have hR := Option.some.inj hR; subst hR
      exact hQ _ _ (LS.mk [(4, .sc (.int .i64 (-1)))] (lblks 0 []) 0) (.sc (.int .i64 (-1))) [] (.inr rfl) (Weak.turnL [] [] rfl rfl (tc (.sc _) tn) mn) (ro1 (rvT (v := .sc (.int .i64 (-1))) rfl)) rfl rfl (.sc _) pn
  · refine AWP.skip ?_
    refine skT ?_
    refine AWP.sq ?_
    refine AWP.sq ?_
    refine AWP.rgC 36 rfl rfl ?_
    refine pu (v := .sc _) rfl rfl (fun _ => rfl) ?_
    refine RunC.fin ?_
    refine AWP.cd hR rfl (fun h5 hR => ?_) fun h5 hR => ?_
    · refine AWP.sq ?_
      refine AWP.rgC 40 rfl rfl ?_
      refine pu (v := .sc _) rfl rfl (fun _ => rfl) ?_
      refine RunC.fin ?_
      refine AWP.ret ?_
      refine rtT ?_
      have hR := Option.some.inj hR; subst hR
      exact hQ _ _ (LS.mk [(4, .sc (.int .i64 1))] (lblks 0 []) 0) (.sc (.int .i64 1)) [] (.inr rfl) (Weak.turnL [] [] rfl rfl (tc (.sc _) tn) mn) (ro1 (rvT (v := .sc (.int .i64 1)) rfl)) rfl rfl (.sc _) pn
    · refine AWP.skip ?_
      refine skT ?_
      refine AWP.sq ?_
      refine AWP.sq ?_
      refine AWP.rgC 48 rfl rfl ?_
      refine pu (v := .sc _) rfl rfl (fun _ => rfl) ?_
      refine pu (v := .sc _) rfl rfl (fun _ => rfl) ?_
      refine pu (v := .sc _) rfl rfl (fun _ => rfl) ?_
      refine RunC.fin ?_
      refine AWP.cd hR rfl (fun h6 hR => ?_) fun h6 hR => ?_
      · refine AWP.sq ?_
        refine AWP.rgC 52 rfl rfl ?_
        refine pu (v := .sc _) rfl rfl (fun _ => rfl) ?_
        refine RunC.fin ?_
        refine AWP.ret ?_
        refine rtT ?_
        have hR := Option.some.inj hR; subst hR
        exact hQ _ _ (LS.mk [(4, .sc (.int .i64 (-1)))] (lblks 0 []) 0) (.sc (.int .i64 (-1))) [] (.inr rfl) (Weak.turnL [] [] rfl rfl (tc (.sc _) tn) mn) (ro1 (rvT (v := .sc (.int .i64 (-1))) rfl)) rfl rfl (.sc _) pn
      · refine AWP.skip ?_
        refine skT ?_
        refine AWP.sq ?_
        refine AWP.sq ?_
        refine AWP.rgC 60 rfl rfl ?_
        refine pu (v := .sc _) rfl rfl (fun _ => rfl) ?_
        refine pu (v := .sc _) rfl rfl (fun _ => rfl) ?_
        refine pu (v := .sc _) rfl rfl (fun _ => rfl) ?_
        refine RunC.fin ?_
        refine AWP.cd hR rfl (fun h7 hR => ?_) fun h7 hR => ?_
        · refine AWP.sq ?_
          refine AWP.rgC 64 rfl rfl ?_
          refine pu (v := .sc _) rfl rfl (fun _ => rfl) ?_
          refine RunC.fin ?_
          refine AWP.ret ?_
          refine rtT ?_
          have hR := Option.some.inj hR; subst hR
          exact hQ _ _ (LS.mk [(4, .sc (.int .i64 1))] (lblks 0 []) 0) (.sc (.int .i64 1)) [] (.inr rfl) (Weak.turnL [] [] rfl rfl (tc (.sc _) tn) mn) (ro1 (rvT (v := .sc (.int .i64 1)) rfl)) rfl rfl (.sc _) pn
        · refine AWP.skip ?_
          refine skT ?_
          refine AWP.sq ?_
          refine AWP.rgC 64 rfl rfl ?_
          refine pu (v := .sc _) rfl rfl (fun _ => rfl) ?_
          refine RunC.fin ?_
          refine AWP.ret ?_
          have hR := Option.some.inj hR; subst hR
          exact hQ _ _ (LS.mk [(4, .sc (.int .i64 0))] (lblks 0 []) 0) (.sc (.int .i64 0)) [] (.inr rfl) (Weak.turnL [] [] rfl rfl (tc (.sc _) tn) mn) (ro1 (rvT (v := .sc (.int .i64 0)) rfl)) rfl rfl (.sc _) pn
theorem ok30 (vals : List Int) (r : Int) (hR : cmp_Or vals = some r) : FnP Try.prog 30 [rowV false vals] (.sc (.int .i64 r)) := by
  refine fnP_of (FnX.walk Try.func30 rfl 18 0 (by simp [Try.ntmps30]) rfl fun W S F Q hQ => ?_)
  unfold cmp_Or at hR
  refine AWP.sq ?_
  refine AWP.rgC 4 rfl rfl ?_
  refine pu (v := .sc _) rfl rfl (fun _ => rfl) ?_
  refine RunC.fin ?_
  refine AWP.sq ?_
  refine AWP.rgC 8 rfl rfl ?_
  refine pu (v := .sc _) rfl rfl (fun _ => rfl) ?_
  refine RunC.fin ?_
  refine AWP.sq ?_
  refine AWP.sq ?_
  refine AWP.rgC 20 rfl rfl ?_
  refine pu (v := rowV _ vals) rfl rfl (fun _ => rfl) ?_
  refine lenL (α := Int) rfl rfl ti22 rfl ?_
  refine pu (v := .sc _) rfl rfl (fun _ => rfl) ?_
  refine RunC.fin ?_
  refine AWP.loopK' (fun s1 : Int => LS.mk [(3, .sc (.int .i64 0)), (6, rowV (α := Int) false vals), (7, .sc (.int .i64 (vals.length : Int))), (8, .sc (.int .i64 s1))] (lblks 0 []) 0) (fun z2 : Unit => LS.mk [(3, .sc (.int .i64 0))] (lblks 0 []) 0) (cmp_Or.l1 vals) hR (s0 := 0) (Weak.turnL [] [] rfl rfl (tc (.sc _) (tc trR1 (tc (.sc _) (tc (.sc _) tn)))) mn) (fun s1 o1 hR hE1 => ?_) fun z2 hR => ?_
  · unfold cmp_Or.l1 at hR
    refine AWP.sq ?_
    refine AWP.rgC 4 rfl rfl ?_
    refine pu (v := .sc _) rfl rfl (fun _ => rfl) ?_
    refine RunC.fin ?_
    refine AWP.sq ?_
    refine AWP.cd hR rfl (fun h3 hR => ?_) fun h3 hR => ?_
    · refine AWP.skip ?_
      refine skT ?_
      refine AWP.sq ?_
      refine AWP.block ?_
      refine AWP.sq ?_
      refine AWP.rgC 16 rfl rfl ?_
      obtain ⟨h4, hR⟩ := chkE hR
      refine ixL (α := Int) rfl rfl rfl ti22 rfl ti3 rfl h4 ?_
      refine ldR (v := .sc _) rfl rfl ti3 rfl ?_
      refine pu (v := .sc _) rfl rfl (fun _ => rfl) ?_
      refine RunC.fin ?_
      refine AWP.sq ?_
      refine AWP.rgC 28 rfl rfl ?_
      refine pu (v := .sc _) rfl rfl (fun _ => rfl) ?_
      refine pu (v := .sc _) rfl rfl (fun _ => rfl) ?_
      refine pu (v := .sc _) rfl rfl (fun _ => rfl) ?_
      refine RunC.fin ?_
      refine AWP.cd hR rfl (fun h5 hR => ?_) fun h5 hR => ?_
      · refine AWP.sq ?_
        refine AWP.rgC 36 rfl rfl ?_
        refine pu (v := .sc _) rfl rfl (fun _ => rfl) ?_
        refine pu (v := .sc _) rfl rfl (fun _ => rfl) ?_
        refine RunC.fin ?_
        refine AWP.ret ?_
        refine rtB ?_
        refine rtT ?_
        refine rtT ?_
        refine rtB (rtT ?_)
        replace hR := escL hR hE1
        refine rtT ?_
        have hR := Option.some.inj hR; subst hR
        exact hQ _ _ (LS.mk [(2, .sc (.int .i64 (gt vals s1)))] (lblks 0 []) 0) (.sc (.int .i64 (gt vals s1))) [] (.inr rfl) (Weak.turnL [] [] rfl rfl (tc (.sc _) tn) mn) (ro1 (rvT (v := .sc (.int .i64 (gt vals s1))) rfl)) rfl rfl (.sc _) pn
      · refine AWP.skip ?_
        refine skB ?_
        refine skT ?_
        refine AWP.rgC 36 rfl rfl ?_
        refine pu (v := .sc _) rfl rfl (fun _ => rfl) ?_
        refine pu (v := .sc _) rfl rfl (fun _ => rfl) ?_
        refine RunC.fin ?_
        refine ⟨(w6 (s1 + 1)), (Option.some.inj hR).symm, ?_⟩
        exact Weak.turnL [] [] rfl rfl (tc (.sc _) (tc trR1 (tc (.sc _) (tc (.sc _) tn)))) mn
    · refine AWP.exit ?_
      refine exT ?_
      refine exT ?_
      refine exH (skT ?_)
      refine ⟨(), (Option.some.inj hR).symm, ?_⟩
      exact Weak.turnL [] [] rfl rfl (tc (.sc _) tn) mn
  · refine skT ?_
    refine AWP.sq ?_
    refine AWP.rgC 8 rfl rfl ?_
    refine pu (v := .sc _) rfl rfl (fun _ => rfl) ?_
    refine pu (v := .sc _) rfl rfl (fun _ => rfl) ?_
    refine RunC.fin ?_
    refine AWP.ret ?_
    have hR := Option.some.inj hR; subst hR
    exact hQ _ _ (LS.mk [(2, .sc (.int .i64 0))] (lblks 0 []) 0) (.sc (.int .i64 0)) [] (.inr rfl) (Weak.turnL [] [] rfl rfl (tc (.sc _) tn) mn) (ro1 (rvT (v := .sc (.int .i64 0)) rfl)) rfl rfl (.sc _) pn
theorem ok19 (w : num_Wide) (v : num_Wide) (r : Int) (hR : Wide_Cmp w v = some r) : FnP Try.prog 19 [aggV false w, aggV false v] (.sc (.int .i64 r)) := by
  refine fnP_of (FnX.walk Try.func19 rfl 17 0 (by simp [Try.ntmps19]) rfl fun W S F Q hQ => ?_)
  unfold Wide_Cmp at hR
  refine AWP.sq ?_
  refine AWP.rgC 12 rfl rfl ?_
  refine bx (cs := _) 0 rfl rfl rfl ?_
  refine bx (cs := _) 4 rfl rfl rfl ?_
  refine pu (v := .sc _) rfl rfl (fun _ => rfl) ?_
  refine RunC.fin ?_
  refine AWP.sq ?_
  refine AWP.rgD 64 [0, 1, 0, 4, 15, 0, 32, 0, 128, 511, 1023, 2047, 4095] ⟨[], [none, some [0], none, some [4], none, none, some [0], none, some [4], none, none, none, none]⟩ hmix (by kernel_rfl) rfl rfl ?_
  refine fa rfl rfl ti67 rfl rfl ti2 rfl ?_
  refine ldB (v := .sc _) rfl rfl rfl rfl ti2 rfl rfl ?_
  refine fa rfl rfl ti67 rfl rfl ti2 rfl ?_
  refine ldB (v := .sc _) rfl rfl rfl rfl ti2 rfl rfl ?_
  obtain ⟨r1, hr1, hR⟩ := bindE hR
  refine cls [] rfl rfl cb31 (ok31 w.Hi v.Hi _ hr1) (.cons (.sc _) (.cons (.sc _) (.nil))) (.inr rfl) rfl ?_
  refine fa rfl rfl ti67 rfl rfl ti65 rfl ?_
  refine ldB (v := .sc _) rfl rfl rfl rfl ti65 rfl rfl ?_
  refine fa rfl rfl ti67 rfl rfl ti65 rfl ?_
  refine ldB (v := .sc _) rfl rfl rfl rfl ti65 rfl rfl ?_
  obtain ⟨r2, hr2, hR⟩ := bindE hR
  refine cls [] rfl rfl cb32 (ok32 w.Lo.n v.Lo.n _ hr2) (.cons (.sc _) (.cons (.sc _) (.nil))) (.inr rfl) rfl ?_
  refine bs (α := Int) 52 true ([r1, r2] : List Int) rfl rfl ti22 rfl ti3 rfl rfl rfl rfl rfl ?_
  obtain ⟨r3, hr3, hR⟩ := bindE hR
  refine cls [52] rfl rfl cb30 (ok30 ([r1, r2] : List Int) _ hr3) (.cons (ldS' rfl rfl rfl rfl) (.nil)) (.inl (by first | rfl | exact freshR | exact freshA | (simp only [V.fresh, V.freshs, freshR, freshA, Bool.and_self]))) rfl ?_
  refine pu (v := .sc _) rfl rfl (fun _ => rfl) ?_
  refine RunC.fin ?_
  refine AWP.ret ?_
  have hR := Option.some.inj hR; subst hR
  exact hQ _ _ (LS.mk [(4, .sc (.int .i64 r3))] (lblks 0 []) 0) (.sc (.int .i64 r3)) [] (.inr rfl) (Weak.turnL [] [] rfl rfl (tc (.sc _) tn) mn) (ro1 (rvT (v := .sc (.int .i64 r3)) rfl)) rfl rfl (.sc _) pn
theorem ok17 (r_ : change_ratios) (a : Int) (b : Int) (r : Bool × change_ratios) (hR : ratios_atMost r_ a b = some r) : FnD Try.prog 17 [boxB false r_] [.ptr 0 0 0, .sc (.int .i64 a), .sc (.int .i64 b)] (.sc (.bool r.1)) [boxB false r.2] := by
  refine FnX.walk Try.func17 rfl 64 1 (by simp [Try.ntmps17]) rfl fun W S F Q hQ => ?_
  unfold ratios_atMost at hR
  refine AWP.sq ?_
  refine AWP.rgC 5 rfl rfl ?_
  refine pu (v := .sc _) rfl rfl (fun _ => rfl) ?_
  refine RunC.fin ?_
  refine AWP.joinS (fun z1 : change_ratios => LS.mk [] (lblks 0 [boxB (α := change_ratios) true z1]) 1) hR (fun o1 hR hE1 => ?_) fun z1 hR => ?_
  · refine AWP.block ?_
    refine AWP.sq ?_
    refine AWP.rgC 17 rfl rfl ?_
    refine pu (v := .sc _) rfl rfl (fun _ => rfl) ?_
    refine pu (v := .sc _) rfl rfl (fun _ => rfl) ?_
    refine pu (v := .sc _) rfl rfl (fun _ => rfl) ?_
    refine RunC.fin ?_
    refine AWP.cd hR rfl (fun h2 hR => ?_) fun h2 hR => ?_
    · refine AWP.sq ?_
      refine AWP.rgC 29 rfl rfl ?_
      refine pu (v := .sc _) rfl rfl (fun _ => rfl) ?_
      refine pu (v := .sc _) rfl rfl (fun _ => rfl) ?_
      refine pu (v := .sc _) rfl rfl (fun _ => rfl) ?_
      refine RunC.fin ?_
      refine AWP.ret ?_
      refine rtB ?_
      refine rtT ?_
      replace hR := escJ hR hE1
      have hR := Option.some.inj hR; subst hR
      exact hQ _ _ (LS.mk [(6, .sc (.bool (decide (b ≥ 0))))] (lblks 0 [boxB (α := change_ratios) true r_]) 1) (.sc (.bool (decide (b ≥ 0)))) [] (.inr rfl) (Weak.turnL [(0, 0)] [] rfl rfl (tc (.sc _) tn) (mc rfl (.box rfl (.cons (.sc _) (.cons (.sc _) (.cons (.sc _) (.cons (.sc _) (.nil))))) rfl) mn)) (ro1 (rvT (v := .sc (.bool (decide (b ≥ 0)))) rfl)) rfl rfl (.sc _) (pc rfl bldB pn)
    · refine AWP.sq ?_
      refine AWP.rgC 29 rfl rfl ?_
      refine pu (v := .sc _) rfl rfl (fun _ => rfl) ?_
      refine pu (v := .sc _) rfl rfl (fun _ => rfl) ?_
      refine pu (v := .sc _) rfl rfl (fun _ => rfl) ?_
      refine RunC.fin ?_
      refine AWP.cd hR rfl (fun h3 hR => ?_) fun h3 hR => ?_
      · refine AWP.sq ?_
        refine AWP.rgD 85 [0, 0, 2, 6, 14, 31, 0, 64, 192, 448, 0, 2047, 4095, 8191] ⟨[], [none, none, none, none, some [0], none, none, none, none, some [0], none, none, none, none]⟩ hmix (by kernel_rfl) rfl rfl ?_
        refine pu (v := .sc _) rfl rfl (fun _ => rfl) ?_
        refine pu (v := .ptr _ _ _) rfl rfl (fun _ => rfl) ?_
        refine pu (v := .ptr _ _ _) rfl rfl (fun _ => rfl) ?_
        refine fa rfl rfl ti61 rfl rfl ti2 rfl ?_
        refine ldB (v := .sc _) rfl rfl rfl rfl ti2 rfl rfl ?_
        obtain ⟨r4, hr4, hR⟩ := bindE hR
        refine cls [] rfl rfl cb18 (ok18 b r_.above _ hr4) (.cons (.sc _) (.cons (.sc _) (.nil))) (.inr rfl) rfl ?_
        refine pu (v := .ptr _ _ _) rfl rfl (fun _ => rfl) ?_
        refine pu (v := .ptr _ _ _) rfl rfl (fun _ => rfl) ?_
        refine fa rfl rfl ti61 rfl rfl ti2 rfl ?_
        refine ldB (v := .sc _) rfl rfl rfl rfl ti2 rfl rfl ?_
        refine pu (v := .sc _) rfl rfl (fun _ => rfl) ?_
        obtain ⟨r5, hr5, hR⟩ := bindE hR
        refine cls [] rfl rfl cb18 (ok18 r_.hi a _ hr5) (.cons (.sc _) (.cons (.sc _) (.nil))) (.inr rfl) rfl ?_
        obtain ⟨r6, hr6, hR⟩ := bindE hR
        refine cls [] rfl rfl cb19 (ok19 r4 r5 _ hr6) (.cons (.agg (.cons (.sc _) (.cons (.sc _) (.nil))) rfl) (.cons (.agg (.cons (.sc _) (.cons (.sc _) (.nil))) rfl) (.nil))) (.inr rfl) rfl ?_
        refine pu (v := .sc _) rfl rfl (fun _ => rfl) ?_
        refine RunC.fin ?_
        refine AWP.cd hR rfl (fun h7 hR => ?_) fun h7 hR => ?_
        · refine AWP.rgC 125 rfl rfl ?_
          refine pu (v := .ptr _ _ _) rfl rfl (fun _ => rfl) ?_
          refine pu (v := .ptr _ _ _) rfl rfl (fun _ => rfl) ?_
          refine pu (v := .sc _) rfl rfl (fun _ => rfl) ?_
          refine pu (v := .sc _) rfl rfl (fun _ => rfl) ?_
          refine pu (v := .ptr _ _ _) rfl rfl (fun _ => rfl) ?_
          refine fa rfl rfl ti61 rfl rfl ti2 rfl ?_
          refine stB (cs' := [.sc (.int .i64 r_.lo), .sc (.int .i64 b), .sc (.int .i64 r_.under), .sc (.int .i64 r_.above)]) rfl rfl rfl rfl ti2 rfl rfl rfl rfl rfl ?_
          refine pu (v := .ptr _ _ _) rfl rfl (fun _ => rfl) ?_
          refine fa rfl rfl ti61 rfl rfl ti2 rfl ?_
          refine stB (cs' := [.sc (.int .i64 r_.lo), .sc (.int .i64 b), .sc (.int .i64 r_.under), .sc (.int .i64 a)]) rfl rfl rfl rfl ti2 rfl rfl rfl rfl rfl ?_
          refine RunC.blk ?_
          refine RunC.fin ?_
          refine ⟨(change_ratios.mk r_.lo b r_.under a), (Option.some.inj hR).symm, ?_⟩
          exact Weak.turnL [(0, 0)] [] rfl rfl tn (mc rfl (.box rfl (.cons (.sc _) (.cons (.sc _) (.cons (.sc _) (.cons (.sc _) (.nil))))) rfl) mn)
        · refine AWP.skip ?_
          refine skB ?_
          refine skT ?_
          refine ⟨r_, (Option.some.inj hR).symm, ?_⟩
          exact Weak.turnL [(0, 0)] [] rfl rfl tn (mc rfl (.box rfl (.cons (.sc _) (.cons (.sc _) (.cons (.sc _) (.cons (.sc _) (.nil))))) rfl) mn)
      · refine AWP.sq ?_
        refine AWP.rgD 97 [0, 1, 0, 4, 12, 28, 63, 0, 128, 384, 896, 0, 2048, 8191, 16383, 32767, 65535] ⟨[], [none, none, none, none, none, some [0], none, none, none, none, some [0], none, none, none, none, none, none]⟩ hmix (by kernel_rfl) rfl rfl ?_
        refine pu (v := .sc _) rfl rfl (fun _ => rfl) ?_
        refine pu (v := .sc _) rfl rfl (fun _ => rfl) ?_
        refine pu (v := .ptr _ _ _) rfl rfl (fun _ => rfl) ?_
        refine pu (v := .ptr _ _ _) rfl rfl (fun _ => rfl) ?_
        refine fa rfl rfl ti61 rfl rfl ti2 rfl ?_
        refine ldB (v := .sc _) rfl rfl rfl rfl ti2 rfl rfl ?_
        obtain ⟨r8, hr8, hR⟩ := bindE hR
        refine cls [] rfl rfl cb18 (ok18 (w6 (0 - b)) r_.under _ hr8) (.cons (.sc _) (.cons (.sc _) (.nil))) (.inr rfl) rfl ?_
        refine pu (v := .ptr _ _ _) rfl rfl (fun _ => rfl) ?_
        refine pu (v := .ptr _ _ _) rfl rfl (fun _ => rfl) ?_
        refine fa rfl rfl ti61 rfl rfl ti2 rfl ?_
        refine ldB (v := .sc _) rfl rfl rfl rfl ti2 rfl rfl ?_
        refine pu (v := .sc _) rfl rfl (fun _ => rfl) ?_
        refine pu (v := .sc _) rfl rfl (fun _ => rfl) ?_
        obtain ⟨r9, hr9, hR⟩ := bindE hR
        refine cls [] rfl rfl cb18 (ok18 r_.lo (w6 (0 - a)) _ hr9) (.cons (.sc _) (.cons (.sc _) (.nil))) (.inr rfl) rfl ?_
        obtain ⟨r10, hr10, hR⟩ := bindE hR
        refine cls [] rfl rfl cb19 (ok19 r8 r9 _ hr10) (.cons (.agg (.cons (.sc _) (.cons (.sc _) (.nil))) rfl) (.cons (.agg (.cons (.sc _) (.cons (.sc _) (.nil))) rfl) (.nil))) (.inr rfl) rfl ?_
        refine pu (v := .sc _) rfl rfl (fun _ => rfl) ?_
        refine pu (v := .sc _) rfl rfl (fun _ => rfl) ?_
        refine RunC.fin ?_
        refine AWP.cd hR rfl (fun h11 hR => ?_) fun h11 hR => ?_
        · refine AWP.rgC 145 rfl rfl ?_
          refine pu (v := .ptr _ _ _) rfl rfl (fun _ => rfl) ?_
          refine pu (v := .ptr _ _ _) rfl rfl (fun _ => rfl) ?_
          refine pu (v := .sc _) rfl rfl (fun _ => rfl) ?_
          refine pu (v := .sc _) rfl rfl (fun _ => rfl) ?_
          refine pu (v := .sc _) rfl rfl (fun _ => rfl) ?_
          refine pu (v := .sc _) rfl rfl (fun _ => rfl) ?_
          refine pu (v := .ptr _ _ _) rfl rfl (fun _ => rfl) ?_
          refine fa rfl rfl ti61 rfl rfl ti2 rfl ?_
          refine stB (cs' := [.sc (.int .i64 (w6 (0 - b))), .sc (.int .i64 r_.hi), .sc (.int .i64 r_.under), .sc (.int .i64 r_.above)]) rfl rfl rfl rfl ti2 rfl rfl rfl rfl rfl ?_
          refine pu (v := .ptr _ _ _) rfl rfl (fun _ => rfl) ?_
          refine fa rfl rfl ti61 rfl rfl ti2 rfl ?_
          refine stB (cs' := [.sc (.int .i64 (w6 (0 - b))), .sc (.int .i64 r_.hi), .sc (.int .i64 (w6 (0 - a))), .sc (.int .i64 r_.above)]) rfl rfl rfl rfl ti2 rfl rfl rfl rfl rfl ?_
          refine RunC.blk ?_
          refine RunC.fin ?_
          refine ⟨(change_ratios.mk (w6 (0 - b)) r_.hi (w6 (0 - a)) r_.above), (Option.some.inj hR).symm, ?_⟩
          exact Weak.turnL [(0, 0)] [] rfl rfl tn (mc rfl (.box rfl (.cons (.sc _) (.cons (.sc _) (.cons (.sc _) (.cons (.sc _) (.nil))))) rfl) mn)
        · refine AWP.skip ?_
          refine skB ?_
          refine skT ?_
          refine ⟨r_, (Option.some.inj hR).symm, ?_⟩
          exact Weak.turnL [(0, 0)] [] rfl rfl tn (mc rfl (.box rfl (.cons (.sc _) (.cons (.sc _) (.cons (.sc _) (.cons (.sc _) (.nil))))) rfl) mn)
  · refine AWP.sq ?_
    refine AWP.rgC 5 rfl rfl ?_
    refine pu (v := .sc _) rfl rfl (fun _ => rfl) ?_
    refine RunC.fin ?_
    refine AWP.ret ?_
    have hR := Option.some.inj hR; subst hR
    exact hQ _ _ (LS.mk [(6, .sc (.bool true))] (lblks 0 [boxB (α := change_ratios) true z1]) 1) (.sc (.bool true)) [] (.inr rfl) (Weak.turnL [(0, 0)] [] rfl rfl (tc (.sc _) tn) (mc rfl (.box rfl (.cons (.sc _) (.cons (.sc _) (.cons (.sc _) (.cons (.sc _) (.nil))))) rfl) mn)) (ro1 (rvT (v := .sc (.bool true)) rfl)) rfl rfl (.sc _) (pc rfl bldB pn)
theorem ok9 (a : Box) (b : Box) (r : Bool) (hR : change_Share a b = some r) : FnP Try.prog 9 [aggV false a, aggV false b] (.sc (.bool r)) := by
  refine fnP_of (FnX.walk Try.func9 rfl 98 0 (by simp [Try.ntmps9]) rfl fun W S F Q hQ => ?_)
  unfold change_Share at hR
  refine AWP.sq ?_
  refine AWP.rgC 12 rfl rfl ?_
  refine bx (cs := _) 0 rfl rfl rfl ?_
  refine bx (cs := _) 4 rfl rfl rfl ?_
  refine pu (v := .sc _) rfl rfl (fun _ => rfl) ?_
  refine RunC.fin ?_
  refine AWP.sq ?_
  refine AWP.rgC 24 rfl rfl ?_
  refine bu (cs := [.sc (.int .i64 0), .sc (.int .i64 9223372036854775807), .sc (.int .i64 1), .sc (.int .i64 1)]) rfl bt61 rfl ?_
  refine bx (cs := _) 16 rfl rfl rfl ?_
  refine pu (v := .ptr _ _ _) rfl rfl (fun _ => rfl) ?_
  refine RunC.fin ?_
  refine AWP.sq ?_
  refine AWP.rgD 96 [0, 1, 0, 4, 0, 16, 63, 0, 128, 0, 512, 0, 2048, 8064, 0, 0, 49279, 131071] ⟨[], [none, some [0], none, some [0], none, some [0], none, none, some [4], none, some [4], none, some [4], none, none, none, some [80], some [84]]⟩ hmix (by kernel_rfl) rfl rfl ?_
  refine fa rfl rfl ti40 rfl rfl ti38 rfl ?_
  refine ldB (v := .agg _) rfl rfl rfl rfl ti38 rfl rfl ?_
  refine fa rfl rfl ti40 rfl rfl ti38 rfl ?_
  refine ldB (v := .agg _) rfl rfl rfl rfl ti38 rfl rfl ?_
  refine fa rfl rfl ti40 rfl rfl ti38 rfl ?_
  refine ldB (v := .agg _) rfl rfl rfl rfl ti38 rfl rfl ?_
  refine buA (cs := [.sc (.int .i64 a.X.Lo), .sc (.int .i64 a.X.Hi), .sc (.bool a.X.Unknown), .sc (.int .i64 a.Y.Lo), .sc (.int .i64 a.Y.Hi), .sc (.bool a.Y.Unknown), .sc (.int .i64 a.Z.Lo), .sc (.int .i64 a.Z.Hi), .sc (.bool a.Z.Unknown)]) rfl ti62 rfl ti38 rfl rfl ?_
  refine fa rfl rfl ti40 rfl rfl ti38 rfl ?_
  refine ldB (v := .agg _) rfl rfl rfl rfl ti38 rfl rfl ?_
  refine fa rfl rfl ti40 rfl rfl ti38 rfl ?_
  refine ldB (v := .agg _) rfl rfl rfl rfl ti38 rfl rfl ?_
  refine fa rfl rfl ti40 rfl rfl ti38 rfl ?_
  refine ldB (v := .agg _) rfl rfl rfl rfl ti38 rfl rfl ?_
  refine buA (cs := [.sc (.int .i64 b.X.Lo), .sc (.int .i64 b.X.Hi), .sc (.bool b.X.Unknown), .sc (.int .i64 b.Y.Lo), .sc (.int .i64 b.Y.Hi), .sc (.bool b.Y.Unknown), .sc (.int .i64 b.Z.Lo), .sc (.int .i64 b.Z.Hi), .sc (.bool b.Z.Unknown)]) rfl ti62 rfl ti38 rfl rfl ?_
  refine al (cs := [.sc (.int .i64 0), .sc (.int .i64 0), .sc (.bool false), .sc (.int .i64 0), .sc (.int .i64 0), .sc (.bool false), .sc (.int .i64 0), .sc (.int .i64 0), .sc (.bool false)]) 80 rfl rfl ti62 rfl rfl ?_
  refine al (cs := [.sc (.int .i64 0), .sc (.int .i64 0), .sc (.bool false), .sc (.int .i64 0), .sc (.int .i64 0), .sc (.bool false), .sc (.int .i64 0), .sc (.int .i64 0), .sc (.bool false)]) 84 rfl rfl ti62 rfl rfl ?_
  refine stB (cs' := [.sc (.int .i64 a.X.Lo), .sc (.int .i64 a.X.Hi), .sc (.bool a.X.Unknown), .sc (.int .i64 a.Y.Lo), .sc (.int .i64 a.Y.Hi), .sc (.bool a.Y.Unknown), .sc (.int .i64 a.Z.Lo), .sc (.int .i64 a.Z.Hi), .sc (.bool a.Z.Unknown)]) rfl rfl rfl rfl ti62 rfl rfl rfl rfl rfl ?_
  refine stB (cs' := [.sc (.int .i64 b.X.Lo), .sc (.int .i64 b.X.Hi), .sc (.bool b.X.Unknown), .sc (.int .i64 b.Y.Lo), .sc (.int .i64 b.Y.Hi), .sc (.bool b.Y.Unknown), .sc (.int .i64 b.Z.Lo), .sc (.int .i64 b.Z.Hi), .sc (.bool b.Z.Unknown)]) rfl rfl rfl rfl ti62 rfl rfl rfl rfl rfl ?_
  refine RunC.fin ?_
  refine AWP.sq ?_
  refine AWP.sq ?_
  refine AWP.rgC 100 rfl rfl ?_
  refine pu (v := .sc _) rfl rfl (fun _ => rfl) ?_
  refine RunC.fin ?_
  refine AWP.loopK' (fun s1 : change_ratios × Int => LS.mk [(5, .ptr 0 0 0), (6, .ptr 1 0 0), (7, .ptr 2 0 0), (27, .sc (.int .i64 s1.2))] (lblks 0 [boxB (α := change_ratios) true s1.1, boxB (α := Bound × Bound × Bound) true (a.X, a.Y, a.Z), boxB (α := Bound × Bound × Bound) true (b.X, b.Y, b.Z)]) 3) (fun z2 : change_ratios => LS.mk [(5, .ptr 0 0 0)] (lblks 0 [boxB (α := change_ratios) true z2]) 1) (change_Share.l1 a b) hR (s0 := (change_ratios.mk 0 9223372036854775807 1 1, 0)) (Weak.turnL [(16, 0), (80, 0), (84, 0)] [] rfl rfl (tc (trP' rfl rfl rfl rfl) (tc (trP' rfl rfl rfl rfl) (tc (trP' rfl rfl rfl rfl) (tc (.sc _) tn)))) (mc rfl (.box rfl (.cons (.sc _) (.cons (.sc _) (.cons (.sc _) (.cons (.sc _) (.nil))))) rfl) (mc rfl (.box rfl (.cons (.sc _) (.cons (.sc _) (.cons (.sc _) (.cons (.sc _) (.cons (.sc _) (.cons (.sc _) (.cons (.sc _) (.cons (.sc _) (.cons (.sc _) (.nil)))))))))) rfl) (mc rfl (.box rfl (.cons (.sc _) (.cons (.sc _) (.cons (.sc _) (.cons (.sc _) (.cons (.sc _) (.cons (.sc _) (.cons (.sc _) (.cons (.sc _) (.cons (.sc _) (.nil)))))))))) rfl) mn)))) (fun s1 o1 hR hE1 => ?_) fun z2 hR => ?_
  · unfold change_Share.l1 at hR
    refine AWP.sq ?_
    refine AWP.rgC 7 rfl rfl ?_
    refine pu (v := .sc _) rfl rfl (fun _ => rfl) ?_
    refine RunC.fin ?_
    refine AWP.sq ?_
    refine AWP.cd hR rfl (fun h3 hR => ?_) fun h3 hR => ?_
    · refine AWP.skip ?_
      refine skT ?_
      refine AWP.joinS (fun z4 : change_ratios => LS.mk [(5, .ptr 0 0 0), (6, .ptr 1 0 0), (7, .ptr 2 0 0), (27, .sc (.int .i64 s1.2))] (lblks 0 [boxB (α := change_ratios) true z4, boxB (α := Bound × Bound × Bound) true (a.X, a.Y, a.Z), boxB (α := Bound × Bound × Bound) true (b.X, b.Y, b.Z)]) 3) hR (fun o4 hR hE4 => ?_) fun z4 hR => ?_
      · refine AWP.block ?_
        refine AWP.sq ?_
        refine AWP.rgC 15 rfl rfl ?_
        refine pu (v := .sc _) rfl rfl (fun _ => rfl) ?_
        refine pu (v := .sc _) rfl rfl (fun _ => rfl) ?_
        refine RunC.fin ?_
        refine AWP.sq ?_
        refine AWP.rgD 55 [0, 1, 3, 0, 8, 24, 0, 0, 199, 511] ⟨[], [none, none, some [1], none, none, some [2], none, none, some [39], some [43]]⟩ hmix (by kernel_rfl) rfl rfl ?_
        refine pu (v := .sc _) rfl rfl (fun _ => rfl) ?_
        obtain ⟨h5, hR⟩ := chkE hR
        refine iaP (o' := 0 + s1.2.toNat * Cl.e Bound + 0) rfl rfl rfl ti62 rfl ti38 h5 rfl ?_
        refine ldD (α := Bound) (nw := true) (pre := []) (post := []) (xs := ([a.X, a.Y, a.Z] : List Bound)) (m := s1.2.toNat) (off := 0) (v := .agg _) rfl rfl rfl rfl rfl rfl (ixlt h5) ti38 rfl rfl rfl rfl ?_
        refine pu (v := .sc _) rfl rfl (fun _ => rfl) ?_
        obtain ⟨h6, hR⟩ := chkE hR
        refine iaP (o' := 0 + s1.2.toNat * Cl.e Bound + 0) rfl rfl rfl ti62 rfl ti38 h6 rfl ?_
        refine ldD (α := Bound) (nw := true) (pre := []) (post := []) (xs := ([b.X, b.Y, b.Z] : List Bound)) (m := s1.2.toNat) (off := 0) (v := .agg _) rfl rfl rfl rfl rfl rfl (ixlt h6) ti38 rfl rfl rfl rfl ?_
        refine al (cs := [.sc (.int .i64 0), .sc (.int .i64 0), .sc (.bool false)]) 39 rfl rfl ti38 rfl rfl ?_
        refine al (cs := [.sc (.int .i64 0), .sc (.int .i64 0), .sc (.bool false)]) 43 rfl rfl ti38 rfl rfl ?_
        refine stB (cs' := [.sc (.int .i64 (gt ([a.X, a.Y, a.Z] : List Bound) s1.2).Lo), .sc (.int .i64 (gt ([a.X, a.Y, a.Z] : List Bound) s1.2).Hi), .sc (.bool (gt ([a.X, a.Y, a.Z] : List Bound) s1.2).Unknown)]) rfl rfl rfl rfl ti38 rfl rfl rfl rfl rfl ?_
        refine stB (cs' := [.sc (.int .i64 (gt ([b.X, b.Y, b.Z] : List Bound) s1.2).Lo), .sc (.int .i64 (gt ([b.X, b.Y, b.Z] : List Bound) s1.2).Hi), .sc (.bool (gt ([b.X, b.Y, b.Z] : List Bound) s1.2).Unknown)]) rfl rfl rfl rfl ti38 rfl rfl rfl rfl rfl ?_
        refine RunC.fin ?_
        refine AWP.sq ?_
        refine AWP.joinX (fun z7 : Bool => LS.mk [(5, .ptr 0 0 0), (6, .ptr 1 0 0), (7, .ptr 2 0 0), (9, .ptr 3 0 0), (10, .ptr 4 0 0), (27, .sc (.int .i64 s1.2)), (51, .sc (.bool z7))] (lblks 0 [boxB (α := change_ratios) true s1.1, boxB (α := Bound × Bound × Bound) true (a.X, a.Y, a.Z), boxB (α := Bound × Bound × Bound) true (b.X, b.Y, b.Z), boxB (α := Bound) true (gt ([a.X, a.Y, a.Z] : List Bound) s1.2), boxB (α := Bound) true (gt ([b.X, b.Y, b.Z] : List Bound) s1.2)]) 5) hR (fun o7 hR => ?_) fun z7 hR => ?_
        · refine AWP.rgC 119 rfl rfl ?_
          refine ldB (v := .agg _) rfl rfl rfl rfl ti38 rfl rfl ?_
          obtain ⟨r8, hr8, hR⟩ := bindE hR
          refine cls [] rfl rfl cb16 (ok16 (gt ([a.X, a.Y, a.Z] : List Bound) s1.2) _ hr8) (.cons (.agg (.cons (.sc _) (.cons (.sc _) (.cons (.sc _) (.nil)))) rfl) (.nil)) (.inr rfl) rfl ?_
          refine pu (v := .sc _) rfl rfl (fun _ => rfl) ?_
          refine pu (v := .sc _) rfl rfl (fun _ => rfl) ?_
          refine brR hR (fun h9 hR => ?_) fun h9 hR => ?_
          · refine sk (skW rfl rfl rfl h9) ?_
            refine sk (skW rfl rfl rfl h9) ?_
            refine sk (skW rfl rfl rfl h9) ?_
            refine pkT (v := .sc (.bool true)) rfl rfl h9 rfl ?_
            refine pu (v := .sc _) rfl rfl (fun _ => rfl) ?_
            refine sk (skW rfl rfl rfl rfl) ?_
            refine sk (skW rfl rfl rfl rfl) ?_
            refine pkT (v := .sc (.bool true)) rfl rfl rfl rfl ?_
            refine pu (v := .sc _) rfl rfl (fun _ => rfl) ?_
            refine sk (skW rfl rfl rfl rfl) ?_
            refine sk (skW rfl rfl rfl rfl) ?_
            refine pkT (v := .sc (.bool true)) rfl rfl rfl rfl ?_
            refine RunC.fin ?_
            have hR := Option.some.inj hR; subst hR
            exact Weak.turnL [(0, 0), (1, 0), (2, 0), (39, 0), (43, 0)] [] rfl rfl (tc (trP' rfl rfl rfl rfl) (tc (trP' rfl rfl rfl rfl) (tc (trP' rfl rfl rfl rfl) (tc (trP' rfl rfl rfl rfl) (tc (trP' rfl rfl rfl rfl) (tc (.sc _) (tc (.sc _) tn))))))) (mc rfl (.box rfl (.cons (.sc _) (.cons (.sc _) (.cons (.sc _) (.cons (.sc _) (.nil))))) rfl) (mc rfl (.box rfl (.cons (.sc _) (.cons (.sc _) (.cons (.sc _) (.cons (.sc _) (.cons (.sc _) (.cons (.sc _) (.cons (.sc _) (.cons (.sc _) (.cons (.sc _) (.nil)))))))))) rfl) (mc rfl (.box rfl (.cons (.sc _) (.cons (.sc _) (.cons (.sc _) (.cons (.sc _) (.cons (.sc _) (.cons (.sc _) (.cons (.sc _) (.cons (.sc _) (.cons (.sc _) (.nil)))))))))) rfl) (mc rfl (.box rfl (.cons (.sc _) (.cons (.sc _) (.cons (.sc _) (.nil)))) rfl) (mc rfl (.box rfl (.cons (.sc _) (.cons (.sc _) (.cons (.sc _) (.nil)))) rfl) mn)))))
          · refine ldB (v := .agg _) (wtG rfl rfl rfl h9) rfl rfl rfl ti38 rfl rfl ?_
            obtain ⟨r10, hr10, hR⟩ := bindE hR
            refine cls [] (wtG rfl rfl rfl h9) rfl cb16 (ok16 (gt ([b.X, b.Y, b.Z] : List Bound) s1.2) _ hr10) (.cons (.agg (.cons (.sc _) (.cons (.sc _) (.cons (.sc _) (.nil)))) rfl) (.nil)) (.inr rfl) rfl ?_
            refine pu (v := .sc _) (wtG rfl rfl rfl h9) rfl (fun _ => rfl) ?_
            refine pkF (v := .sc (.bool (r10 != 0))) rfl rfl h9 rfl ?_
            refine pu (v := .sc _) rfl rfl (fun _ => rfl) ?_
            refine brR hR (fun h11 hR => ?_) fun h11 hR => ?_
            · refine sk (skW rfl rfl rfl h11) ?_
              refine sk (skW rfl rfl rfl h11) ?_
              refine pkT (v := .sc (.bool true)) rfl rfl h11 rfl ?_
              refine pu (v := .sc _) rfl rfl (fun _ => rfl) ?_
              refine sk (skW rfl rfl rfl rfl) ?_
              refine sk (skW rfl rfl rfl rfl) ?_
              refine pkT (v := .sc (.bool true)) rfl rfl rfl rfl ?_
              refine RunC.fin ?_
              have hR := Option.some.inj hR; subst hR
              exact Weak.turnL [(0, 0), (1, 0), (2, 0), (39, 0), (43, 0)] [] rfl rfl (tc (trP' rfl rfl rfl rfl) (tc (trP' rfl rfl rfl rfl) (tc (trP' rfl rfl rfl rfl) (tc (trP' rfl rfl rfl rfl) (tc (trP' rfl rfl rfl rfl) (tc (.sc _) (tc (.sc _) tn))))))) (mc rfl (.box rfl (.cons (.sc _) (.cons (.sc _) (.cons (.sc _) (.cons (.sc _) (.nil))))) rfl) (mc rfl (.box rfl (.cons (.sc _) (.cons (.sc _) (.cons (.sc _) (.cons (.sc _) (.cons (.sc _) (.cons (.sc _) (.cons (.sc _) (.cons (.sc _) (.cons (.sc _) (.nil)))))))))) rfl) (mc rfl (.box rfl (.cons (.sc _) (.cons (.sc _) (.cons (.sc _) (.cons (.sc _) (.cons (.sc _) (.cons (.sc _) (.cons (.sc _) (.cons (.sc _) (.cons (.sc _) (.nil)))))))))) rfl) (mc rfl (.box rfl (.cons (.sc _) (.cons (.sc _) (.cons (.sc _) (.nil)))) rfl) (mc rfl (.box rfl (.cons (.sc _) (.cons (.sc _) (.cons (.sc _) (.nil)))) rfl) mn)))))
            · refine fa (wtG rfl rfl rfl h11) rfl ti38 rfl rfl ti4 rfl ?_
              refine ldB (v := .sc _) (wtG rfl rfl rfl h11) rfl rfl rfl ti4 rfl rfl ?_
              refine pkF (v := .sc (.bool (gt ([a.X, a.Y, a.Z] : List Bound) s1.2).Unknown)) rfl rfl h11 rfl ?_
              refine pu (v := .sc _) rfl rfl (fun _ => rfl) ?_
              refine brR hR (fun h12 hR => ?_) fun h12 hR => ?_
              · refine sk (skW rfl rfl rfl h12) ?_
                refine sk (skW rfl rfl rfl h12) ?_
                refine pkT (v := .sc (.bool true)) rfl rfl h12 rfl ?_
                refine RunC.fin ?_
                have hR := Option.some.inj hR; subst hR
                exact Weak.turnL [(0, 0), (1, 0), (2, 0), (39, 0), (43, 0)] [] rfl rfl (tc (trP' rfl rfl rfl rfl) (tc (trP' rfl rfl rfl rfl) (tc (trP' rfl rfl rfl rfl) (tc (trP' rfl rfl rfl rfl) (tc (trP' rfl rfl rfl rfl) (tc (.sc _) (tc (.sc _) tn))))))) (mc rfl (.box rfl (.cons (.sc _) (.cons (.sc _) (.cons (.sc _) (.cons (.sc _) (.nil))))) rfl) (mc rfl (.box rfl (.cons (.sc _) (.cons (.sc _) (.cons (.sc _) (.cons (.sc _) (.cons (.sc _) (.cons (.sc _) (.cons (.sc _) (.cons (.sc _) (.cons (.sc _) (.nil)))))))))) rfl) (mc rfl (.box rfl (.cons (.sc _) (.cons (.sc _) (.cons (.sc _) (.cons (.sc _) (.cons (.sc _) (.cons (.sc _) (.cons (.sc _) (.cons (.sc _) (.cons (.sc _) (.nil)))))))))) rfl) (mc rfl (.box rfl (.cons (.sc _) (.cons (.sc _) (.cons (.sc _) (.nil)))) rfl) (mc rfl (.box rfl (.cons (.sc _) (.cons (.sc _) (.cons (.sc _) (.nil)))) rfl) mn)))))
              · refine fa (wtG rfl rfl rfl h12) rfl ti38 rfl rfl ti4 rfl ?_
                refine ldB (v := .sc _) (wtG rfl rfl rfl h12) rfl rfl rfl ti4 rfl rfl ?_
                refine pkF (v := .sc (.bool (gt ([b.X, b.Y, b.Z] : List Bound) s1.2).Unknown)) rfl rfl h12 rfl ?_
                refine RunC.fin ?_
                have hR := Option.some.inj hR; subst hR
                exact Weak.turnL [(0, 0), (1, 0), (2, 0), (39, 0), (43, 0)] [] rfl rfl (tc (trP' rfl rfl rfl rfl) (tc (trP' rfl rfl rfl rfl) (tc (trP' rfl rfl rfl rfl) (tc (trP' rfl rfl rfl rfl) (tc (trP' rfl rfl rfl rfl) (tc (.sc _) (tc (.sc _) tn))))))) (mc rfl (.box rfl (.cons (.sc _) (.cons (.sc _) (.cons (.sc _) (.cons (.sc _) (.nil))))) rfl) (mc rfl (.box rfl (.cons (.sc _) (.cons (.sc _) (.cons (.sc _) (.cons (.sc _) (.cons (.sc _) (.cons (.sc _) (.cons (.sc _) (.cons (.sc _) (.cons (.sc _) (.nil)))))))))) rfl) (mc rfl (.box rfl (.cons (.sc _) (.cons (.sc _) (.cons (.sc _) (.cons (.sc _) (.cons (.sc _) (.cons (.sc _) (.cons (.sc _) (.cons (.sc _) (.cons (.sc _) (.nil)))))))))) rfl) (mc rfl (.box rfl (.cons (.sc _) (.cons (.sc _) (.cons (.sc _) (.nil)))) rfl) (mc rfl (.box rfl (.cons (.sc _) (.cons (.sc _) (.cons (.sc _) (.nil)))) rfl) mn)))))
        · refine AWP.cd hR rfl (fun h13 hR => ?_) fun h13 hR => ?_
          · refine AWP.exit ?_
            refine exT ?_
            refine exH ?_
            refine skT ?_
            refine ⟨s1.1, (Option.some.inj hR).symm, ?_⟩
            exact Weak.turnL [(0, 0), (1, 0), (2, 0)] [] rfl rfl (tc (trP' rfl rfl rfl rfl) (tc (trP' rfl rfl rfl rfl) (tc (trP' rfl rfl rfl rfl) (tc (.sc _) tn)))) (mc rfl (.box rfl (.cons (.sc _) (.cons (.sc _) (.cons (.sc _) (.cons (.sc _) (.nil))))) rfl) (mc rfl (.box rfl (.cons (.sc _) (.cons (.sc _) (.cons (.sc _) (.cons (.sc _) (.cons (.sc _) (.cons (.sc _) (.cons (.sc _) (.cons (.sc _) (.cons (.sc _) (.nil)))))))))) rfl) (mc rfl (.box rfl (.cons (.sc _) (.cons (.sc _) (.cons (.sc _) (.cons (.sc _) (.cons (.sc _) (.cons (.sc _) (.cons (.sc _) (.cons (.sc _) (.cons (.sc _) (.nil)))))))))) rfl) mn)))
          · refine AWP.skip ?_
            refine skT ?_
            refine AWP.joinX (fun z14 : change_ratios × Bool => LS.mk [(5, .ptr 0 0 0), (6, .ptr 1 0 0), (7, .ptr 2 0 0), (27, .sc (.int .i64 s1.2)), (69, .sc (.bool z14.2))] (lblks 0 [boxB (α := change_ratios) true z14.1, boxB (α := Bound × Bound × Bound) true (a.X, a.Y, a.Z), boxB (α := Bound × Bound × Bound) true (b.X, b.Y, b.Z)]) 3) hR (fun o14 hR => ?_) fun z14 hR => ?_
            · refine AWP.rgC 77 rfl rfl ?_
              refine pu (v := .ptr _ _ _) rfl rfl (fun _ => rfl) ?_
              refine fa rfl rfl ti38 rfl rfl ti36 rfl ?_
              refine ldB (v := .sc _) rfl rfl rfl rfl ti36 rfl rfl ?_
              refine fa rfl rfl ti38 rfl rfl ti36 rfl ?_
              refine ldB (v := .sc _) rfl rfl rfl rfl ti36 rfl rfl ?_
              obtain ⟨r15, hr15, hR⟩ := bindE hR
              refine cps (res' := .sc (.bool r15.1)) (ups := [(0, boxB (α := change_ratios) true r15.2)]) [0] 25 rfl rfl rfl cb17 (ok17 s1.1 (gt ([a.X, a.Y, a.Z] : List Bound) s1.2).Lo (gt ([b.X, b.Y, b.Z] : List Bound) s1.2).Hi _ hr15) (.cons (ldP rfl rfl) (.cons (.sc _) (.cons (.sc _) (.nil)))) (pc rfl (.box (.cons (.sc _) (.cons (.sc _) (.cons (.sc _) (.cons (.sc _) (.nil))))) rfl) pn) rfl rfl rfl rfl rfl (by first | rfl | exact renR | exact renA | exact renS | simp only [V.ren, V.rens, renR, renA, renS] | (simp only [V.ren, V.rens, renR, renA, renS]; rfl)) (by simp only [passUps, renBox, renArr]; rfl) ?_
              refine pu (v := .sc _) rfl rfl (fun _ => rfl) ?_
              refine pu (v := .sc _) rfl rfl (fun _ => rfl) ?_
              refine brR hR (fun h16 hR => ?_) fun h16 hR => ?_
              · refine sk (skW rfl rfl rfl h16) ?_
                refine sk (skW rfl rfl rfl h16) ?_
                refine sk (skW rfl rfl rfl h16) ?_
                refine sk (skW rfl rfl rfl h16) ?_
                refine sk (skW rfl rfl rfl h16) ?_
                refine sk (skW rfl rfl rfl h16) ?_
                refine sk (skW rfl rfl rfl h16) ?_
                refine sk (skW rfl rfl rfl h16) ?_
                refine sk (skW rfl rfl rfl h16) ?_
                refine pkT (v := .sc (.bool true)) rfl rfl h16 rfl ?_
                refine RunC.fin ?_
                have hR := Option.some.inj hR; subst hR
                exact Weak.turnL [(0, 0), (1, 0), (2, 0)] [] rfl rfl (tc (trP' rfl rfl rfl rfl) (tc (trP' rfl rfl rfl rfl) (tc (trP' rfl rfl rfl rfl) (tc (.sc _) (tc (.sc _) tn))))) (mc rfl (.box rfl (.cons (.sc _) (.cons (.sc _) (.cons (.sc _) (.cons (.sc _) (.nil))))) rfl) (mc rfl (.box rfl (.cons (.sc _) (.cons (.sc _) (.cons (.sc _) (.cons (.sc _) (.cons (.sc _) (.cons (.sc _) (.cons (.sc _) (.cons (.sc _) (.cons (.sc _) (.nil)))))))))) rfl) (mc rfl (.box rfl (.cons (.sc _) (.cons (.sc _) (.cons (.sc _) (.cons (.sc _) (.cons (.sc _) (.cons (.sc _) (.cons (.sc _) (.cons (.sc _) (.cons (.sc _) (.nil)))))))))) rfl) mn)))
              · refine pu (v := .ptr _ _ _) (wtG rfl rfl rfl h16) rfl (fun _ => rfl) ?_
                refine fa (wtG rfl rfl rfl h16) rfl ti38 rfl rfl ti36 rfl ?_
                refine ldB (v := .sc _) (wtG rfl rfl rfl h16) rfl rfl rfl ti36 rfl rfl ?_
                refine pu (v := .sc _) (wtG rfl rfl rfl h16) rfl (fun _ => rfl) ?_
                refine fa (wtG rfl rfl rfl h16) rfl ti38 rfl rfl ti36 rfl ?_
                refine ldB (v := .sc _) (wtG rfl rfl rfl h16) rfl rfl rfl ti36 rfl rfl ?_
                refine pu (v := .sc _) (wtG rfl rfl rfl h16) rfl (fun _ => rfl) ?_
                obtain ⟨r17, hr17, hR⟩ := bindE hR
                refine cps (res' := .sc (.bool r17.1)) (ups := [(0, boxB (α := change_ratios) true r17.2)]) [0] 65 (wtG rfl rfl rfl h16) rfl rfl cb17 (ok17 r15.2 (w6 (0 - (gt ([a.X, a.Y, a.Z] : List Bound) s1.2).Hi)) (w6 (0 - (gt ([b.X, b.Y, b.Z] : List Bound) s1.2).Lo)) _ hr17) (.cons (ldP rfl rfl) (.cons (.sc _) (.cons (.sc _) (.nil)))) (pc rfl (.box (.cons (.sc _) (.cons (.sc _) (.cons (.sc _) (.cons (.sc _) (.nil))))) rfl) pn) rfl rfl rfl rfl rfl (by first | rfl | exact renR | exact renA | exact renS | simp only [V.ren, V.rens, renR, renA, renS] | (simp only [V.ren, V.rens, renR, renA, renS]; rfl)) (by simp only [passUps, renBox, renArr]; rfl) ?_
                refine pu (v := .sc _) (wtG rfl rfl rfl h16) rfl (fun _ => rfl) ?_
                refine pkF (v := .sc (.bool (!r17.1))) rfl rfl h16 rfl ?_
                refine RunC.fin ?_
                have hR := Option.some.inj hR; subst hR
                exact Weak.turnL [(0, 0), (1, 0), (2, 0)] [] rfl rfl (tc (trP' rfl rfl rfl rfl) (tc (trP' rfl rfl rfl rfl) (tc (trP' rfl rfl rfl rfl) (tc (.sc _) (tc (.sc _) tn))))) (mc rfl (.box rfl (.cons (.sc _) (.cons (.sc _) (.cons (.sc _) (.cons (.sc _) (.nil))))) rfl) (mc rfl (.box rfl (.cons (.sc _) (.cons (.sc _) (.cons (.sc _) (.cons (.sc _) (.cons (.sc _) (.cons (.sc _) (.cons (.sc _) (.cons (.sc _) (.cons (.sc _) (.nil)))))))))) rfl) (mc rfl (.box rfl (.cons (.sc _) (.cons (.sc _) (.cons (.sc _) (.cons (.sc _) (.cons (.sc _) (.cons (.sc _) (.cons (.sc _) (.cons (.sc _) (.cons (.sc _) (.nil)))))))))) rfl) mn)))
            · refine AWP.cd hR rfl (fun h18 hR => ?_) fun h18 hR => ?_
              · refine AWP.sq ?_
                refine AWP.rgC 7 rfl rfl ?_
                refine pu (v := .sc _) rfl rfl (fun _ => rfl) ?_
                refine RunC.fin ?_
                refine AWP.ret ?_
                refine rtB ?_
                refine rtT ?_
                replace hR := escJ hR hE4
                refine rtT ?_
                refine rtB (rtT ?_)
                replace hR := escL hR hE1
                refine rtT ?_
                have hR := Option.some.inj hR; subst hR
                exact hQ _ _ (LS.mk [(4, .sc (.bool false))] (lblks 0 []) 0) (.sc (.bool false)) [] (.inr rfl) (Weak.turnL [] [] rfl rfl (tc (.sc _) tn) mn) (ro1 (rvT (v := .sc (.bool false)) rfl)) rfl rfl (.sc _) pn
              · refine AWP.skip ?_
                refine skB ?_
                refine skT ?_
                refine ⟨z14.1, (Option.some.inj hR).symm, ?_⟩
                exact Weak.turnL [(0, 0), (1, 0), (2, 0)] [] rfl rfl (tc (trP' rfl rfl rfl rfl) (tc (trP' rfl rfl rfl rfl) (tc (trP' rfl rfl rfl rfl) (tc (.sc _) tn)))) (mc rfl (.box rfl (.cons (.sc _) (.cons (.sc _) (.cons (.sc _) (.cons (.sc _) (.nil))))) rfl) (mc rfl (.box rfl (.cons (.sc _) (.cons (.sc _) (.cons (.sc _) (.cons (.sc _) (.cons (.sc _) (.cons (.sc _) (.cons (.sc _) (.cons (.sc _) (.cons (.sc _) (.nil)))))))))) rfl) (mc rfl (.box rfl (.cons (.sc _) (.cons (.sc _) (.cons (.sc _) (.cons (.sc _) (.cons (.sc _) (.cons (.sc _) (.cons (.sc _) (.cons (.sc _) (.cons (.sc _) (.nil)))))))))) rfl) mn)))
      · refine AWP.rgC 11 rfl rfl ?_
        refine pu (v := .sc _) rfl rfl (fun _ => rfl) ?_
        refine pu (v := .sc _) rfl rfl (fun _ => rfl) ?_
        refine RunC.fin ?_
        refine ⟨(z4, w6 (s1.2 + 1)), (Option.some.inj hR).symm, ?_⟩
        exact Weak.turnL [(0, 0), (1, 0), (2, 0)] [] rfl rfl (tc (trP' rfl rfl rfl rfl) (tc (trP' rfl rfl rfl rfl) (tc (trP' rfl rfl rfl rfl) (tc (.sc _) tn)))) (mc rfl (.box rfl (.cons (.sc _) (.cons (.sc _) (.cons (.sc _) (.cons (.sc _) (.nil))))) rfl) (mc rfl (.box rfl (.cons (.sc _) (.cons (.sc _) (.cons (.sc _) (.cons (.sc _) (.cons (.sc _) (.cons (.sc _) (.cons (.sc _) (.cons (.sc _) (.cons (.sc _) (.nil)))))))))) rfl) (mc rfl (.box rfl (.cons (.sc _) (.cons (.sc _) (.cons (.sc _) (.cons (.sc _) (.cons (.sc _) (.cons (.sc _) (.cons (.sc _) (.cons (.sc _) (.cons (.sc _) (.nil)))))))))) rfl) mn)))
    · refine AWP.exit ?_
      refine exT ?_
      refine exT ?_
      refine exH (skT ?_)
      refine ⟨s1.1, (Option.some.inj hR).symm, ?_⟩
      exact Weak.turnL [(0, 0)] [] rfl rfl (tc (trP' rfl rfl rfl rfl) tn) (mc rfl (.box rfl (.cons (.sc _) (.cons (.sc _) (.cons (.sc _) (.cons (.sc _) (.nil))))) rfl) mn)
  · refine skT ?_
    refine AWP.joinX (fun z19 : Bool => LS.mk [(4, .sc (.bool z19))] (lblks 0 []) 0) hR (fun o19 hR => ?_) fun z19 hR => ?_
    · refine AWP.rgD 113 [0, 1, 3, 7, 15, 31, 63, 127, 255, 511, 63, 1087, 3135, 7231, 16383, 63, 32831, 98367, 229439, 63, 524351, 1572927, 3670079, 8388607, 16777215, 33554431, 67108863, 134217727] ⟨[], [none, none, none, some [0], none, none, none, none, none, some [0], none, none, none, some [0], none, none, none, none, some [0], none, none, none, some [0], none, none, none, none, none]⟩ hmix (by kernel_rfl) rfl rfl ?_
      refine pu (v := .ptr _ _ _) rfl rfl (fun _ => rfl) ?_
      refine pu (v := .ptr _ _ _) rfl rfl (fun _ => rfl) ?_
      refine fa rfl rfl ti61 rfl rfl ti2 rfl ?_
      refine ldB (v := .sc _) rfl rfl rfl rfl ti2 rfl rfl ?_
      refine pu (v := .sc _) rfl rfl (fun _ => rfl) ?_
      refine pu (v := .sc _) rfl rfl (fun _ => rfl) ?_
      refine brR hR (fun h20 hR => ?_) fun h20 hR => ?_
      · refine pu (v := .ptr _ _ _) (wtG rfl rfl rfl h20) rfl (fun _ => rfl) ?_
        refine pu (v := .ptr _ _ _) (wtG rfl rfl rfl h20) rfl (fun _ => rfl) ?_
        refine fa (wtG rfl rfl rfl h20) rfl ti61 rfl rfl ti2 rfl ?_
        refine ldB (v := .sc _) (wtG rfl rfl rfl h20) rfl rfl rfl ti2 rfl rfl ?_
        refine pu (v := .ptr _ _ _) (wtG rfl rfl rfl h20) rfl (fun _ => rfl) ?_
        refine pu (v := .ptr _ _ _) (wtG rfl rfl rfl h20) rfl (fun _ => rfl) ?_
        refine fa (wtG rfl rfl rfl h20) rfl ti61 rfl rfl ti2 rfl ?_
        refine ldB (v := .sc _) (wtG rfl rfl rfl h20) rfl rfl rfl ti2 rfl rfl ?_
        obtain ⟨r21, hr21, hR⟩ := bindE hR
        refine cls [] (wtG rfl rfl rfl h20) rfl cb18 (ok18 z2.lo z2.above _ hr21) (.cons (.sc _) (.cons (.sc _) (.nil))) (.inr rfl) rfl ?_
        refine pu (v := .ptr _ _ _) (wtG rfl rfl rfl h20) rfl (fun _ => rfl) ?_
        refine pu (v := .ptr _ _ _) (wtG rfl rfl rfl h20) rfl (fun _ => rfl) ?_
        refine fa (wtG rfl rfl rfl h20) rfl ti61 rfl rfl ti2 rfl ?_
        refine ldB (v := .sc _) (wtG rfl rfl rfl h20) rfl rfl rfl ti2 rfl rfl ?_
        refine pu (v := .ptr _ _ _) (wtG rfl rfl rfl h20) rfl (fun _ => rfl) ?_
        refine pu (v := .ptr _ _ _) (wtG rfl rfl rfl h20) rfl (fun _ => rfl) ?_
        refine fa (wtG rfl rfl rfl h20) rfl ti61 rfl rfl ti2 rfl ?_
        refine ldB (v := .sc _) (wtG rfl rfl rfl h20) rfl rfl rfl ti2 rfl rfl ?_
        obtain ⟨r22, hr22, hR⟩ := bindE hR
        refine cls [] (wtG rfl rfl rfl h20) rfl cb18 (ok18 z2.hi z2.under _ hr22) (.cons (.sc _) (.cons (.sc _) (.nil))) (.inr rfl) rfl ?_
        obtain ⟨r23, hr23, hR⟩ := bindE hR
        refine cls [] (wtG rfl rfl rfl h20) rfl cb19 (ok19 r21 r22 _ hr23) (.cons (.agg (.cons (.sc _) (.cons (.sc _) (.nil))) rfl) (.cons (.agg (.cons (.sc _) (.cons (.sc _) (.nil))) rfl) (.nil))) (.inr rfl) rfl ?_
        refine pu (v := .sc _) (wtG rfl rfl rfl h20) rfl (fun _ => rfl) ?_
        refine pkT (v := .sc (.bool (decide (r23 ≤ 0)))) rfl rfl h20 rfl ?_
        refine pu (v := .sc _) rfl rfl (fun _ => rfl) ?_
        refine RunC.fin ?_
        have hR := Option.some.inj hR; subst hR
        exact Weak.turnL [] [] rfl rfl (tc (.sc _) tn) mn
      · refine sk (skW rfl rfl rfl h20) ?_
        refine sk (skW rfl rfl rfl h20) ?_
        refine sk (skW rfl rfl rfl h20) ?_
        refine sk (skW rfl rfl rfl h20) ?_
        refine sk (skW rfl rfl rfl h20) ?_
        refine sk (skW rfl rfl rfl h20) ?_
        refine sk (skW rfl rfl rfl h20) ?_
        refine sk (skW rfl rfl rfl h20) ?_
        refine sk (skW rfl rfl rfl h20) ?_
        refine sk (skW rfl rfl rfl h20) ?_
        refine sk (skW rfl rfl rfl h20) ?_
        refine sk (skW rfl rfl rfl h20) ?_
        refine sk (skW rfl rfl rfl h20) ?_
        refine sk (skW rfl rfl rfl h20) ?_
        refine sk (skW rfl rfl rfl h20) ?_
        refine sk (skW rfl rfl rfl h20) ?_
        refine sk (skW rfl rfl rfl h20) ?_
        refine sk (skW rfl rfl rfl h20) ?_
        refine sk (skW rfl rfl rfl h20) ?_
        refine sk (skW rfl rfl rfl h20) ?_
        refine pkF (v := .sc (.bool false)) rfl rfl h20 rfl ?_
        refine pu (v := .sc _) rfl rfl (fun _ => rfl) ?_
        refine RunC.fin ?_
        have hR := Option.some.inj hR; subst hR
        exact Weak.turnL [] [] rfl rfl (tc (.sc _) tn) mn
    · refine AWP.ret ?_
      have hR := Option.some.inj hR; subst hR
      exact hQ _ _ (LS.mk [(4, .sc (.bool z19))] (lblks 0 []) 0) (.sc (.bool z19)) [] (.inr rfl) (Weak.turnL [] [] rfl rfl (tc (.sc _) tn) mn) (ro1 (rvT (v := .sc (.bool z19)) rfl)) rfl rfl (.sc _) pn
theorem ok33 (b : Bound) (r : Int) (hR : bound_Check b = some r) : FnP Try.prog 33 [aggV false b] (.sc (.int .i64 r)) := by
  refine fnP_of (FnX.walk Try.func33 rfl 37 0 (by simp [Try.ntmps33]) rfl fun W S F Q hQ => ?_)
  unfold bound_Check at hR
  refine AWP.sq ?_
  refine AWP.rgC 8 rfl rfl ?_
  refine bx (cs := _) 0 rfl rfl rfl ?_
  refine pu (v := .sc _) rfl rfl (fun _ => rfl) ?_
  refine RunC.fin ?_
  refine AWP.sq ?_
  refine AWP.block ?_
  refine AWP.joinX (fun z1 : Bool => LS.mk [(1, .ptr 0 0 0), (3, .sc (.bool z1))] (lblks 0 [boxB (α := Bound) true b]) 1) hR (fun o1 hR => ?_) fun z1 hR => ?_
  · refine AWP.rgC 60 rfl rfl ?_
    refine fa rfl rfl ti34 rfl rfl ti4 rfl ?_
    refine ldB (v := .sc _) rfl rfl rfl rfl ti4 rfl rfl ?_
    refine pu (v := .sc _) rfl rfl (fun _ => rfl) ?_
    refine brR hR (fun h2 hR => ?_) fun h2 hR => ?_
    · refine fa (wtG rfl rfl rfl h2) rfl ti34 rfl rfl ti32 rfl ?_
      refine ldB (v := .sc _) (wtG rfl rfl rfl h2) rfl rfl rfl ti32 rfl rfl ?_
      refine pu (v := .sc _) (wtG rfl rfl rfl h2) rfl (fun _ => rfl) ?_
      refine pu (v := .sc _) (wtG rfl rfl rfl h2) rfl (fun _ => rfl) ?_
      refine brR hR (fun h3 hR => ?_) fun h3 hR => ?_
      · refine sk (skW rfl rfl rfl h3) ?_
        refine sk (skW rfl rfl rfl h3) ?_
        refine sk (skW rfl rfl rfl h3) ?_
        refine pkT (v := .sc (.bool true)) (wtG rfl rfl rfl h2) rfl h3 rfl ?_
        refine pkT (v := .sc (.bool true)) rfl rfl h2 rfl ?_
        refine pu (v := .sc _) rfl rfl (fun _ => rfl) ?_
        refine RunC.fin ?_
        have hR := Option.some.inj hR; subst hR
        exact Weak.turnL [(0, 0)] [] rfl rfl (tc (trP' rfl rfl rfl rfl) (tc (.sc _) tn)) (mc rfl (.box rfl (.cons (.sc _) (.cons (.sc _) (.cons (.sc _) (.nil)))) rfl) mn)
      · refine fa (wtG rfl rfl rfl h3) rfl ti34 rfl rfl ti32 rfl ?_
        refine ldB (v := .sc _) (wtG rfl rfl rfl h3) rfl rfl rfl ti32 rfl rfl ?_
        refine pu (v := .sc _) (wtG rfl rfl rfl h3) rfl (fun _ => rfl) ?_
        refine pkF (v := .sc (.bool (b.Hi != 0))) (wtG rfl rfl rfl h2) rfl h3 rfl ?_
        refine pkT (v := .sc (.bool (b.Hi != 0))) rfl rfl h2 rfl ?_
        refine pu (v := .sc _) rfl rfl (fun _ => rfl) ?_
        refine RunC.fin ?_
        have hR := Option.some.inj hR; subst hR
        exact Weak.turnL [(0, 0)] [] rfl rfl (tc (trP' rfl rfl rfl rfl) (tc (.sc _) tn)) (mc rfl (.box rfl (.cons (.sc _) (.cons (.sc _) (.cons (.sc _) (.nil)))) rfl) mn)
    · refine sk (skW rfl rfl rfl h2) ?_
      refine sk (skW rfl rfl rfl h2) ?_
      refine sk (skW rfl rfl rfl h2) ?_
      refine sk (skW rfl rfl rfl h2) ?_
      refine sk (skW2 rfl rfl rfl) ?_
      refine sk (skW2 rfl rfl rfl) ?_
      refine sk (skW2 rfl rfl rfl) ?_
      refine sk (skW rfl rfl rfl h2) ?_
      refine pkF (v := .sc (.bool false)) rfl rfl h2 rfl ?_
      refine pu (v := .sc _) rfl rfl (fun _ => rfl) ?_
      refine RunC.fin ?_
      have hR := Option.some.inj hR; subst hR
      exact Weak.turnL [(0, 0)] [] rfl rfl (tc (trP' rfl rfl rfl rfl) (tc (.sc _) tn)) (mc rfl (.box rfl (.cons (.sc _) (.cons (.sc _) (.cons (.sc _) (.nil)))) rfl) mn)
  · refine AWP.cd hR rfl (fun h4 hR => ?_) fun h4 hR => ?_
    · refine AWP.sq ?_
      refine AWP.rgC 5 rfl rfl ?_
      refine pu (v := .sc _) rfl rfl (fun _ => rfl) ?_
      refine RunC.fin ?_
      refine AWP.ret ?_
      refine rtB ?_
      refine rtT ?_
      have hR := Option.some.inj hR; subst hR
      exact hQ _ _ (LS.mk [(2, .sc (.int .i64 3))] (lblks 0 []) 0) (.sc (.int .i64 3)) [] (.inr rfl) (Weak.turnL [] [] rfl rfl (tc (.sc _) tn) mn) (ro1 (rvT (v := .sc (.int .i64 3)) rfl)) rfl rfl (.sc _) pn
    · refine AWP.joinX (fun z5 : Bool => LS.mk [(1, .ptr 0 0 0), (16, .sc (.bool z5))] (lblks 0 [boxB (α := Bound) true b]) 1) hR (fun o5 hR => ?_) fun z5 hR => ?_
      · refine AWP.rgC 61 rfl rfl ?_
        refine fa rfl rfl ti34 rfl rfl ti32 rfl ?_
        refine ldB (v := .sc _) rfl rfl rfl rfl ti32 rfl rfl ?_
        refine fa rfl rfl ti34 rfl rfl ti32 rfl ?_
        refine ldB (v := .sc _) rfl rfl rfl rfl ti32 rfl rfl ?_
        refine pu (v := .sc _) rfl rfl (fun _ => rfl) ?_
        refine pu (v := .sc _) rfl rfl (fun _ => rfl) ?_
        refine pu (v := .sc _) rfl rfl (fun _ => rfl) ?_
        refine brR hR (fun h6 hR => ?_) fun h6 hR => ?_
        · refine sk (skW rfl rfl rfl h6) ?_
          refine sk (skW rfl rfl rfl h6) ?_
          refine sk (skW rfl rfl rfl h6) ?_
          refine sk (skW rfl rfl rfl h6) ?_
          refine sk (skW rfl rfl rfl h6) ?_
          refine sk (skW rfl rfl rfl h6) ?_
          refine pkT (v := .sc (.bool true)) rfl rfl h6 rfl ?_
          refine pu (v := .sc _) rfl rfl (fun _ => rfl) ?_
          refine RunC.fin ?_
          have hR := Option.some.inj hR; subst hR
          exact Weak.turnL [(0, 0)] [] rfl rfl (tc (trP' rfl rfl rfl rfl) (tc (.sc _) tn)) (mc rfl (.box rfl (.cons (.sc _) (.cons (.sc _) (.cons (.sc _) (.nil)))) rfl) mn)
        · refine fa (wtG rfl rfl rfl h6) rfl ti34 rfl rfl ti32 rfl ?_
          refine ldB (v := .sc _) (wtG rfl rfl rfl h6) rfl rfl rfl ti32 rfl rfl ?_
          refine fa (wtG rfl rfl rfl h6) rfl ti34 rfl rfl ti32 rfl ?_
          refine ldB (v := .sc _) (wtG rfl rfl rfl h6) rfl rfl rfl ti32 rfl rfl ?_
          refine pu (v := .sc _) (wtG rfl rfl rfl h6) rfl (fun _ => rfl) ?_
          refine pu (v := .sc _) (wtG rfl rfl rfl h6) rfl (fun _ => rfl) ?_
          refine pkF (v := .sc (.bool (decide ((mx2 b.Lo b.Hi) > 1152921504606846976)))) rfl rfl h6 rfl ?_
          refine pu (v := .sc _) rfl rfl (fun _ => rfl) ?_
          refine RunC.fin ?_
          have hR := Option.some.inj hR; subst hR
          exact Weak.turnL [(0, 0)] [] rfl rfl (tc (trP' rfl rfl rfl rfl) (tc (.sc _) tn)) (mc rfl (.box rfl (.cons (.sc _) (.cons (.sc _) (.cons (.sc _) (.nil)))) rfl) mn)
      · refine AWP.cd hR rfl (fun h7 hR => ?_) fun h7 hR => ?_
        · refine AWP.sq ?_
          refine AWP.rgC 5 rfl rfl ?_
          refine pu (v := .sc _) rfl rfl (fun _ => rfl) ?_
          refine RunC.fin ?_
          refine AWP.ret ?_
          refine rtB ?_
          refine rtT ?_
          have hR := Option.some.inj hR; subst hR
          exact hQ _ _ (LS.mk [(2, .sc (.int .i64 4))] (lblks 0 []) 0) (.sc (.int .i64 4)) [] (.inr rfl) (Weak.turnL [] [] rfl rfl (tc (.sc _) tn) mn) (ro1 (rvT (v := .sc (.int .i64 4)) rfl)) rfl rfl (.sc _) pn
        · refine AWP.sq ?_
          refine AWP.rgC 25 rfl rfl ?_
          refine fa rfl rfl ti34 rfl rfl ti32 rfl ?_
          refine ldB (v := .sc _) rfl rfl rfl rfl ti32 rfl rfl ?_
          refine fa rfl rfl ti34 rfl rfl ti32 rfl ?_
          refine ldB (v := .sc _) rfl rfl rfl rfl ti32 rfl rfl ?_
          refine pu (v := .sc _) rfl rfl (fun _ => rfl) ?_
          refine pu (v := .sc _) rfl rfl (fun _ => rfl) ?_
          refine RunC.fin ?_
          refine AWP.cd hR rfl (fun h8 hR => ?_) fun h8 hR => ?_
          · refine AWP.sq ?_
            refine AWP.rgC 29 rfl rfl ?_
            refine pu (v := .sc _) rfl rfl (fun _ => rfl) ?_
            refine RunC.fin ?_
            refine AWP.ret ?_
            refine rtB ?_
            refine rtT ?_
            have hR := Option.some.inj hR; subst hR
            exact hQ _ _ (LS.mk [(2, .sc (.int .i64 11))] (lblks 0 []) 0) (.sc (.int .i64 11)) [] (.inr rfl) (Weak.turnL [] [] rfl rfl (tc (.sc _) tn) mn) (ro1 (rvT (v := .sc (.int .i64 11)) rfl)) rfl rfl (.sc _) pn
          · refine AWP.skip ?_
            refine skB ?_
            refine skT ?_
            refine AWP.sq ?_
            refine AWP.rgC 29 rfl rfl ?_
            refine pu (v := .sc _) rfl rfl (fun _ => rfl) ?_
            refine RunC.fin ?_
            refine AWP.ret ?_
            have hR := Option.some.inj hR; subst hR
            exact hQ _ _ (LS.mk [(2, .sc (.int .i64 0))] (lblks 0 []) 0) (.sc (.int .i64 0)) [] (.inr rfl) (Weak.turnL [] [] rfl rfl (tc (.sc _) tn) mn) (ro1 (rvT (v := .sc (.int .i64 0)) rfl)) rfl rfl (.sc _) pn
theorem ok20 (l : List Row) (r : Int) (hR : change_check l = some r) : FnP Try.prog 20 [rowV false l] (.sc (.int .i64 r)) := by
  refine fnP_of (FnX.walk Try.func20 rfl 46 0 (by simp [Try.ntmps20]) rfl fun W S F Q hQ => ?_)
  unfold change_check at hR
  refine AWP.sq ?_
  refine AWP.rgC 4 rfl rfl ?_
  refine pu (v := .sc _) rfl rfl (fun _ => rfl) ?_
  refine RunC.fin ?_
  refine AWP.sq ?_
  refine AWP.sq ?_
  refine AWP.rgC 16 rfl rfl ?_
  refine pu (v := rowV _ l) rfl rfl (fun _ => rfl) ?_
  refine lenL (α := Row) rfl rfl ti26 rfl ?_
  refine pu (v := .sc _) rfl rfl (fun _ => rfl) ?_
  refine RunC.fin ?_
  refine AWP.cd hR rfl (fun h1 hR => ?_) fun h1 hR => ?_
  · refine AWP.sq ?_
    refine AWP.rgC 20 rfl rfl ?_
    refine pu (v := .sc _) rfl rfl (fun _ => rfl) ?_
    refine RunC.fin ?_
    refine AWP.ret ?_
    refine rtT ?_
    have hR := Option.some.inj hR; subst hR
    exact hQ _ _ (LS.mk [(2, .sc (.int .i64 2))] (lblks 0 []) 0) (.sc (.int .i64 2)) [] (.inr rfl) (Weak.turnL [] [] rfl rfl (tc (.sc _) tn) mn) (ro1 (rvT (v := .sc (.int .i64 2)) rfl)) rfl rfl (.sc _) pn
  · refine AWP.skip ?_
    refine skT ?_
    refine AWP.sq ?_
    refine AWP.sq ?_
    refine AWP.rgC 28 rfl rfl ?_
    refine pu (v := rowV _ l) rfl rfl (fun _ => rfl) ?_
    refine lenL (α := Row) rfl rfl ti26 rfl ?_
    refine pu (v := .sc _) rfl rfl (fun _ => rfl) ?_
    refine RunC.fin ?_
    refine AWP.loopK' (fun s2 : Int => LS.mk [(12, rowV (α := Row) false l), (13, .sc (.int .i64 (l.length : Int))), (14, .sc (.int .i64 s2))] (lblks 0 []) 0) (fun z3 : Unit => LS.mk [] (lblks 0 []) 0) (change_check.l1 l) hR (s0 := 0) (Weak.turnL [] [] rfl rfl (tc trR1 (tc (.sc _) (tc (.sc _) tn))) mn) (fun s2 o2 hR hE2 => ?_) fun z3 hR => ?_
    · unfold change_check.l1 at hR
      refine AWP.sq ?_
      refine AWP.rgC 4 rfl rfl ?_
      refine pu (v := .sc _) rfl rfl (fun _ => rfl) ?_
      refine RunC.fin ?_
      refine AWP.sq ?_
      refine AWP.cd hR rfl (fun h4 hR => ?_) fun h4 hR => ?_
      · refine AWP.skip ?_
        refine skT ?_
        refine AWP.sq ?_
        refine AWP.block ?_
        refine AWP.sq ?_
        refine AWP.rgC 20 rfl rfl ?_
        obtain ⟨h5, hR⟩ := chkE hR
        refine ixL (α := Row) rfl rfl rfl ti26 rfl ti45 rfl h5 ?_
        refine ldR (v := .agg _) rfl rfl ti45 rfl ?_
        refine al (cs := [.sc (.int .i64 0), .sc (.int .i64 0), .sc (.int .i64 0), .sc (.bool false), .sc (.int .i64 0), .sc (.int .i64 0), .sc (.bool false), .sc (.int .i64 0), .sc (.int .i64 0), .sc (.bool false), .sc (.int .i64 0), .sc (.int .i64 0), .sc (.bool false), .sc (.int .i64 0), .sc (.int .i64 0), .sc (.bool false), .sc (.slice none 0 0), .sc (.int .i64 0)]) 12 rfl rfl ti45 rfl rfl ?_
        refine stB (cs' := [.sc (.int .i64 (gt l s2).ID), .sc (.int .i64 (gt l s2).Box.X.Lo), .sc (.int .i64 (gt l s2).Box.X.Hi), .sc (.bool (gt l s2).Box.X.Unknown), .sc (.int .i64 (gt l s2).Box.Y.Lo), .sc (.int .i64 (gt l s2).Box.Y.Hi), .sc (.bool (gt l s2).Box.Y.Unknown), .sc (.int .i64 (gt l s2).Box.Z.Lo), .sc (.int .i64 (gt l s2).Box.Z.Hi), .sc (.bool (gt l s2).Box.Z.Unknown), .sc (.int .i64 (gt l s2).Flux.Lo), .sc (.int .i64 (gt l s2).Flux.Hi), .sc (.bool (gt l s2).Flux.Unknown), .sc (.int .i64 (gt l s2).When.Lo), .sc (.int .i64 (gt l s2).When.Hi), .sc (.bool (gt l s2).When.Unknown), .sc (.slice none 0 0), .sc (.int .i64 (gt l s2).Marks)]) rfl rfl rfl rfl ti45 rfl rfl rfl rfl rfl ?_
        refine RunC.fin ?_
        refine AWP.sq ?_
        refine AWP.sq ?_
        refine AWP.rgC 68 rfl rfl ?_
        refine fa rfl rfl ti45 rfl rfl ti40 rfl ?_
        refine fa rfl rfl ti40 rfl rfl ti38 rfl ?_
        refine ldB (v := .agg _) rfl rfl rfl rfl ti38 rfl rfl ?_
        refine fa rfl rfl ti45 rfl rfl ti40 rfl ?_
        refine fa rfl rfl ti40 rfl rfl ti38 rfl ?_
        refine ldB (v := .agg _) rfl rfl rfl rfl ti38 rfl rfl ?_
        refine fa rfl rfl ti45 rfl rfl ti40 rfl ?_
        refine fa rfl rfl ti40 rfl rfl ti38 rfl ?_
        refine ldB (v := .agg _) rfl rfl rfl rfl ti38 rfl rfl ?_
        refine bs (α := Bound) 56 true ([(gt l s2).Box.X, (gt l s2).Box.Y, (gt l s2).Box.Z] : List Bound) rfl rfl ti94 rfl ti38 rfl rfl rfl rfl rfl ?_
        refine lenS (α := Bound) rfl rfl ti94 rfl ?_
        refine pu (v := .sc _) rfl rfl (fun _ => rfl) ?_
        refine RunC.fin ?_
        refine AWP.loopK' (fun s6 : Int => LS.mk [(4, .ptr 0 0 0), (12, rowV (α := Row) false l), (13, .sc (.int .i64 (l.length : Int))), (14, .sc (.int .i64 s2)), (27, slV Bound 1 0 0 ([(gt l s2).Box.X, (gt l s2).Box.Y, (gt l s2).Box.Z] : List Bound).length), (28, .sc (.int .i64 (([(gt l s2).Box.X, (gt l s2).Box.Y, (gt l s2).Box.Z] : List Bound).length : Int))), (29, .sc (.int .i64 s6))] (lblks 0 [.box [.sc (.int .i64 (gt l s2).ID), .sc (.int .i64 (gt l s2).Box.X.Lo), .sc (.int .i64 (gt l s2).Box.X.Hi), .sc (.bool (gt l s2).Box.X.Unknown), .sc (.int .i64 (gt l s2).Box.Y.Lo), .sc (.int .i64 (gt l s2).Box.Y.Hi), .sc (.bool (gt l s2).Box.Y.Unknown), .sc (.int .i64 (gt l s2).Box.Z.Lo), .sc (.int .i64 (gt l s2).Box.Z.Hi), .sc (.bool (gt l s2).Box.Z.Unknown), .sc (.int .i64 (gt l s2).Flux.Lo), .sc (.int .i64 (gt l s2).Flux.Hi), .sc (.bool (gt l s2).Flux.Unknown), .sc (.int .i64 (gt l s2).When.Lo), .sc (.int .i64 (gt l s2).When.Hi), .sc (.bool (gt l s2).When.Unknown), .sc (.slice none 0 0), .sc (.int .i64 (gt l s2).Marks)], arrB (α := Bound) 38 0 true ([(gt l s2).Box.X, (gt l s2).Box.Y, (gt l s2).Box.Z] : List Bound)]) 2) (fun z7 : Unit => LS.mk [(4, .ptr 0 0 0), (12, rowV (α := Row) false l), (13, .sc (.int .i64 (l.length : Int))), (14, .sc (.int .i64 s2))] (lblks 0 [.box [.sc (.int .i64 (gt l s2).ID), .sc (.int .i64 (gt l s2).Box.X.Lo), .sc (.int .i64 (gt l s2).Box.X.Hi), .sc (.bool (gt l s2).Box.X.Unknown), .sc (.int .i64 (gt l s2).Box.Y.Lo), .sc (.int .i64 (gt l s2).Box.Y.Hi), .sc (.bool (gt l s2).Box.Y.Unknown), .sc (.int .i64 (gt l s2).Box.Z.Lo), .sc (.int .i64 (gt l s2).Box.Z.Hi), .sc (.bool (gt l s2).Box.Z.Unknown), .sc (.int .i64 (gt l s2).Flux.Lo), .sc (.int .i64 (gt l s2).Flux.Hi), .sc (.bool (gt l s2).Flux.Unknown), .sc (.int .i64 (gt l s2).When.Lo), .sc (.int .i64 (gt l s2).When.Hi), .sc (.bool (gt l s2).When.Unknown), .sc (.slice none 0 0), .sc (.int .i64 (gt l s2).Marks)]]) 1) (change_check.l2 l s2) hR (s0 := 0) (Weak.turnL [(12, 0), (56, 0)] [] rfl rfl (tc (trP' rfl rfl rfl rfl) (tc trR1 (tc (.sc _) (tc (.sc _) (tc (trS' rfl rfl rfl rfl rfl) (tc (.sc _) (tc (.sc _) tn))))))) (mc rfl (.box rfl (.cons (.sc _) (.cons (.sc _) (.cons (.sc _) (.cons (.sc _) (.cons (.sc _) (.cons (.sc _) (.cons (.sc _) (.cons (.sc _) (.cons (.sc _) (.cons (.sc _) (.cons (.sc _) (.cons (.sc _) (.cons (.sc _) (.cons (.sc _) (.cons (.sc _) (.cons (.sc _) (.cons (.sc _) (.cons (.sc _) (.nil))))))))))))))))))) rfl) (mc rfl (btrA' rfl) mn))) (fun s6 o6 hR hE6 => ?_) fun z7 hR => ?_
        · unfold change_check.l2 at hR
          refine AWP.sq ?_
          refine AWP.rgC 6 rfl rfl ?_
          obtain ⟨v8, ev8, hR⟩ := letE hR
          refine pu (v := .sc _) rfl rfl (fun _ => puB ev8) ?_
          refine RunC.fin ?_
          refine AWP.sq ?_
          refine AWP.cd hR rfl (fun h9 hR => ?_) fun h9 hR => ?_
          · refine AWP.skip ?_
            refine skT ?_
            refine AWP.sq ?_
            refine AWP.block ?_
            refine AWP.sq ?_
            refine AWP.rgC 22 rfl rfl ?_
            obtain ⟨h10, hR⟩ := chkE hR
            refine ixS0 (α := Bound) rfl rfl rfl ti94 rfl ti38 rfl h10 ?_
            refine ldE (α := Bound) (v := .agg _) rfl rfl rfl (ixlt h10) ti38 rfl rfl rfl rfl ?_
            refine al (cs := [.sc (.int .i64 0), .sc (.int .i64 0), .sc (.bool false)]) 14 rfl rfl ti38 rfl rfl ?_
            refine stB (cs' := [.sc (.int .i64 (gt ([(gt l s2).Box.X, (gt l s2).Box.Y, (gt l s2).Box.Z] : List Bound) s6).Lo), .sc (.int .i64 (gt ([(gt l s2).Box.X, (gt l s2).Box.Y, (gt l s2).Box.Z] : List Bound) s6).Hi), .sc (.bool (gt ([(gt l s2).Box.X, (gt l s2).Box.Y, (gt l s2).Box.Z] : List Bound) s6).Unknown)]) rfl rfl rfl rfl ti38 rfl rfl rfl rfl rfl ?_
            refine RunC.fin ?_
            refine AWP.sq ?_
            refine AWP.rgC 34 rfl rfl ?_
            refine ldB (v := .agg _) rfl rfl rfl rfl ti38 rfl rfl ?_
            obtain ⟨r11, hr11, hR⟩ := bindE hR
            refine cls [] rfl rfl cb16 (ok16 (gt ([(gt l s2).Box.X, (gt l s2).Box.Y, (gt l s2).Box.Z] : List Bound) s6) _ hr11) (.cons (.agg (.cons (.sc _) (.cons (.sc _) (.cons (.sc _) (.nil)))) rfl) (.nil)) (.inr rfl) rfl ?_
            refine pu (v := .sc _) rfl rfl (fun _ => rfl) ?_
            refine RunC.fin ?_
            refine AWP.sq ?_
            refine AWP.rgC 42 rfl rfl ?_
            refine pu (v := .sc _) rfl rfl (fun _ => rfl) ?_
            refine pu (v := .sc _) rfl rfl (fun _ => rfl) ?_
            refine RunC.fin ?_
            refine AWP.cd hR rfl (fun h12 hR => ?_) fun h12 hR => ?_
            · refine AWP.sq ?_
              refine AWP.rgC 50 rfl rfl ?_
              refine pu (v := .sc _) rfl rfl (fun _ => rfl) ?_
              refine pu (v := .sc _) rfl rfl (fun _ => rfl) ?_
              refine RunC.fin ?_
              refine AWP.ret ?_
              refine rtB ?_
              refine rtT ?_
              refine rtT ?_
              refine rtB (rtT ?_)
              replace hR := escL hR hE6
              refine rtT ?_
              refine rtB ?_
              refine rtT ?_
              refine rtT ?_
              refine rtB (rtT ?_)
              replace hR := escL hR hE2
              refine rtT ?_
              have hR := Option.some.inj hR; subst hR
              exact hQ _ _ (LS.mk [(2, .sc (.int .i64 r11))] (lblks 0 []) 0) (.sc (.int .i64 r11)) [] (.inr rfl) (Weak.turnL [] [] rfl rfl (tc (.sc _) tn) mn) (ro1 (rvT (v := .sc (.int .i64 r11)) rfl)) rfl rfl (.sc _) pn
            · refine AWP.skip ?_
              refine skB ?_
              refine skT ?_
              refine AWP.rgC 50 rfl rfl ?_
              refine pu (v := .sc _) rfl rfl (fun _ => rfl) ?_
              refine pu (v := .sc _) rfl rfl (fun _ => rfl) ?_
              refine RunC.fin ?_
              refine ⟨(w6 (s6 + 1)), (Option.some.inj hR).symm, ?_⟩
              exact Weak.turnL [(0, 0), (1, 0)] [] rfl rfl (tc (trP' rfl rfl rfl rfl) (tc trR1 (tc (.sc _) (tc (.sc _) (tc (trS' rfl rfl rfl rfl rfl) (tc (.sc _) (tc (.sc _) tn))))))) (mc rfl (.box rfl (.cons (.sc _) (.cons (.sc _) (.cons (.sc _) (.cons (.sc _) (.cons (.sc _) (.cons (.sc _) (.cons (.sc _) (.cons (.sc _) (.cons (.sc _) (.cons (.sc _) (.cons (.sc _) (.cons (.sc _) (.cons (.sc _) (.cons (.sc _) (.cons (.sc _) (.cons (.sc _) (.cons (.sc _) (.cons (.sc _) (.nil))))))))))))))))))) rfl) (mc rfl (btrA' rfl) mn))
          · refine AWP.exit ?_
            refine exT ?_
            refine exT ?_
            refine exH (skT ?_)
            refine ⟨(), (Option.some.inj hR).symm, ?_⟩
            exact Weak.turnL [(0, 0)] [] rfl rfl (tc (trP' rfl rfl rfl rfl) (tc trR1 (tc (.sc _) (tc (.sc _) tn)))) (mc rfl (.box rfl (.cons (.sc _) (.cons (.sc _) (.cons (.sc _) (.cons (.sc _) (.cons (.sc _) (.cons (.sc _) (.cons (.sc _) (.cons (.sc _) (.cons (.sc _) (.cons (.sc _) (.cons (.sc _) (.cons (.sc _) (.cons (.sc _) (.cons (.sc _) (.cons (.sc _) (.cons (.sc _) (.cons (.sc _) (.cons (.sc _) (.nil))))))))))))))))))) rfl) mn)
        · refine skT ?_
          refine AWP.sq ?_
          refine AWP.rgC 17 rfl rfl ?_
          refine fa rfl rfl ti45 rfl rfl ti34 rfl ?_
          refine ldB (v := .agg _) rfl rfl rfl rfl ti34 rfl rfl ?_
          obtain ⟨r13, hr13, hR⟩ := bindE hR
          refine cls [] rfl rfl cb33 (ok33 (gt l s2).Flux _ hr13) (.cons (.agg (.cons (.sc _) (.cons (.sc _) (.cons (.sc _) (.nil)))) rfl) (.nil)) (.inr rfl) rfl ?_
          refine pu (v := .sc _) rfl rfl (fun _ => rfl) ?_
          refine RunC.fin ?_
          refine AWP.sq ?_
          refine AWP.rgC 25 rfl rfl ?_
          refine pu (v := .sc _) rfl rfl (fun _ => rfl) ?_
          refine pu (v := .sc _) rfl rfl (fun _ => rfl) ?_
          refine RunC.fin ?_
          refine AWP.cd hR rfl (fun h14 hR => ?_) fun h14 hR => ?_
          · refine AWP.sq ?_
            refine AWP.rgC 33 rfl rfl ?_
            refine pu (v := .sc _) rfl rfl (fun _ => rfl) ?_
            refine pu (v := .sc _) rfl rfl (fun _ => rfl) ?_
            refine RunC.fin ?_
            refine AWP.ret ?_
            refine rtB ?_
            refine rtT ?_
            refine rtT ?_
            refine rtB (rtT ?_)
            replace hR := escL hR hE2
            refine rtT ?_
            have hR := Option.some.inj hR; subst hR
            exact hQ _ _ (LS.mk [(2, .sc (.int .i64 r13))] (lblks 0 []) 0) (.sc (.int .i64 r13)) [] (.inr rfl) (Weak.turnL [] [] rfl rfl (tc (.sc _) tn) mn) (ro1 (rvT (v := .sc (.int .i64 r13)) rfl)) rfl rfl (.sc _) pn
          · refine AWP.skip ?_
            refine skB ?_
            refine skT ?_
            refine AWP.rgC 33 rfl rfl ?_
            refine pu (v := .sc _) rfl rfl (fun _ => rfl) ?_
            refine pu (v := .sc _) rfl rfl (fun _ => rfl) ?_
            refine RunC.fin ?_
            refine ⟨(w6 (s2 + 1)), (Option.some.inj hR).symm, ?_⟩
            exact Weak.turnL [] [] rfl rfl (tc trR1 (tc (.sc _) (tc (.sc _) tn))) mn
      · refine AWP.exit ?_
        refine exT ?_
        refine exT ?_
        refine exH (skT ?_)
        refine ⟨(), (Option.some.inj hR).symm, ?_⟩
        exact Weak.turnL [] [] rfl rfl tn mn
    · refine skT ?_
      refine AWP.sq ?_
      refine AWP.rgC 4 rfl rfl ?_
      refine pu (v := .sc _) rfl rfl (fun _ => rfl) ?_
      refine RunC.fin ?_
      refine AWP.ret ?_
      have hR := Option.some.inj hR; subst hR
      exact hQ _ _ (LS.mk [(2, .sc (.int .i64 0))] (lblks 0 []) 0) (.sc (.int .i64 0)) [] (.inr rfl) (Weak.turnL [] [] rfl rfl (tc (.sc _) tn) mn) (ro1 (rvT (v := .sc (.int .i64 0)) rfl)) rfl rfl (.sc _) pn
section
open Go.RowKit
def bxVn21 (b : Box) : List Value := [.int .i64 b.X.Lo, .int .i64 b.X.Hi, .bool b.X.Unknown, .int .i64 b.Y.Lo, .int .i64 b.Y.Hi, .bool b.Y.Unknown, .int .i64 b.Z.Lo, .int .i64 b.Z.Hi, .bool b.Z.Unknown]
def rwVn21 (s : Row) : List Value := [.int .i64 s.ID, .int .i64 s.Box.X.Lo, .int .i64 s.Box.X.Hi, .bool s.Box.X.Unknown, .int .i64 s.Box.Y.Lo, .int .i64 s.Box.Y.Hi, .bool s.Box.Y.Unknown, .int .i64 s.Box.Z.Lo, .int .i64 s.Box.Z.Hi, .bool s.Box.Z.Unknown, .int .i64 s.Flux.Lo, .int .i64 s.Flux.Hi, .bool s.Flux.Unknown, .int .i64 s.When.Lo, .int .i64 s.When.Hi, .bool s.When.Unknown, .slice none 0 0, .int .i64 s.Marks]
def Rwsn21 (w : World) (A : Option Addr) (l : List Row) : Prop := ∀ k (hk : k < l.length), ∃ B o, A = some ⟨B, o, none⟩ ∧ ∀ (j : Nat) v, (rwVn21 l[k])[j]? = some v → w.cell? ⟨B, o + k * 18 + j, none⟩ = some v
theorem Rwsn21.below {w w' : World} {A : Option Addr} {l : List Row} (h : Rwsn21 w A l) (hb : Below w.heap.size w w') : Rwsn21 w' A l := fun k hk => by
  obtain ⟨B, o, e, h1⟩ := h k hk
  exact ⟨B, o, e, fun j v hv => (hb.cell (p := ⟨B, o + k * 18 + j, none⟩) (World.block_lt_of_cell? w ⟨B, o + k * 18 + j, none⟩ (h1 j v hv))).trans (h1 j v hv)⟩
theorem shCallsn21 (a b : Box) (r : Bool) (hr : change_Share a b = some r) (w : World) :
    Calls Try.prog 9 #[.agg (bxVn21 a).toArray, .agg (bxVn21 b).toArray] w fun e w' => e = .returned (.bool r) ∧ Below w.heap.size w w' := by
  have ag : ∀ b : Box, RL (topE w) (aggV false b) (.agg (bxVn21 b).toArray) := fun b => by
    unfold aggV
    simp only [RL]
    exact ⟨bxVn21 b, rfl, rls_cons rl_sc (rls_cons rl_sc (rls_cons rl_sc (rls_cons rl_sc (rls_cons rl_sc (rls_cons rl_sc (rls_cons rl_sc (rls_cons rl_sc (rls_cons rl_sc rls_nil)))))))), Cl.leaf false b⟩
  refine (fnP_out (ok9 a b r hr) (cargs := [.agg (bxVn21 a).toArray, .agg (bxVn21 b).toArray]) (rls_cons (ag a) (rls_cons (ag b) rls_nil))).mono ?_
  rintro e w' ⟨c, E', rfl, h1, h2⟩
  simp only [RL] at h1
  subst h1
  exact ⟨rfl, h2⟩
theorem rowsStartn21 (w : World) (n : Nat) : RowsOf (w.alloc (.cells (Array.replicate n (.slice none 0 0)) 22)) w.heap.size 22 3 (List.replicate n (.slice none 0 0)) (List.replicate n []) := by
  refine ⟨by simp, ?_, fun j v xs hv hx => ?_, fun j j' v v' ne hv hv' => ?_⟩
  · have := World.alloc_heap_new w (.cells (Array.replicate n (.slice none 0 0)) 22)
    rw [this]; simp
  · rw [List.getElem?_replicate] at hv hx
    by_cases h : j < n
    · rw [if_pos h] at hv hx
      cases hv; cases hx; exact ⟨by simp, .inl ⟨rfl, rfl⟩⟩
    · rw [if_neg h] at hv; cases hv
  · rw [List.getElem?_replicate] at hv
    split at hv
    · cases hv; exact .inl rfl
    · cases hv
theorem maden21 (v : Value) (n : Nat) (hv : v.cells = #[v]) : madeCells v.cells (n * 1) = Array.replicate n v := by
  rw [hv]
  unfold madeCells
  apply Array.ext
  · simp
  · intro i h1 h2
    simp [Nat.mod_one]
theorem mkn21 (w : World) (ph : Nat) (h : ph ≤ 64) : (Instr.makeSlice 71 (.int .i64 (ph : Int)) (.int .i64 (ph : Int))).run Try.prog w = .ok (.slice (some ⟨w.heap.size, 0, none⟩) ph ph) (w.alloc (.cells (Array.replicate ph (.slice none 0 0)) 22)) := by
  obtain ⟨i0, hi, hz0, hz1, hz2⟩ := info_parts (show (Try.prog.info? 22).map (fun i => (i.zero, i.size, i.bytes)) = some (some (.slice none 0 0), 1, 24) by kernel_rfl)
  have := run_make (P := Try.prog) w 71 22 i0 _ (by kernel_rfl) hi hz0 .i64 .i64 (ph : Int) (ph : Int) (by omega) (Int.le_refl _) (by rw [hz2]; omega) (by omega)
  simp only [Int.toNat_natCast, hz1] at this
  rw [maden21 _ _ rfl] at this
  exact this
theorem grownBn21 {w w' : World} (h : Below w.heap.size w w') : w.grownBy w' none := ⟨h.os, h.tape, h.output, h.size, fun i hi _ => h.block i hi⟩
theorem ownsSlicen21 {w : World} {base n size : Nat} {e : TypeId} {v : Value} {xs : List Value} (h : w.ownsRow base e size v n xs) : ∃ a m c, v = .slice a m c := by
  rcases h.2 with ⟨h, _⟩ | ⟨g, c, cur, h, _⟩
  · exact ⟨_, _, _, h⟩
  · exact ⟨_, _, _, h⟩
theorem ownTypen21 {w : World} {base n size : Nat} {e : TypeId} {v : Value} {xs : List Value} (h : w.ownsRow base e size v n xs) {g : Nat} (hg : v.ownBlock = some g) : ∃ cur, w.heap[g]? = some (.cells cur e (0, 0)) := by
  rcases h.2 with ⟨h, _⟩ | ⟨g', c, cur, h, _, h2, _⟩
  · subst h; cases hg
  · subst h; cases hg; exact ⟨cur, h2⟩
theorem ldLn21 {ops : Array Oper} {rest : List Oper} {d : Option Tmp} {x : Operand} {t : TypeId} {ps : String} {af : Array _} {a : Act} {w : World} {Q : Exit → Act → World → Prop} (ty : TypeId) (p : Addr) (v : Value) (hl : (loadVar ty p).run Try.prog w = .ok v w) (hx : a.eval x = .pointer (some p)) (h : wpList Try.prog ops Q rest (a.put d v) w) :
    wpList Try.prog ops Q (⟨d, .load ty x, t, ps, af, none⟩ :: rest) a w := wpList_plain rfl fun _ hK => by
  unfold Oper.wp execOp
  simp only [hx, Instr.loadAt, Instr.sureAddr, Sem.run_bind, Sem.run_pure, Result.andThen_ok, hl]
  exact hK _ _ h
theorem stLn21 {ops : Array Oper} {rest : List Oper} {d : Option Tmp} {x y : Operand} {t : TypeId} {ps : String} {af : Array _} {a : Act} {w : World} {Q : Exit → Act → World → Prop} (r : Row) (c : Array Value) (hc : c.size = 18) (hx : a.eval x = .pointer (some ⟨w.heap.size, 0, none⟩)) (hy : a.eval y = .agg (rwVn21 r).toArray) (h : wpList Try.prog ops Q rest (a.put d undef) (w.alloc (.cells (rwVn21 r).toArray 45))) :
    wpList Try.prog ops Q (⟨d, .store 45 x y, t, ps, af, none⟩ :: rest) a (w.alloc (.cells c 45)) := wpList_plain rfl fun _ hK => by
  have hs := run_storeVar_new (P := Try.prog) w 45 c (rwVn21 r).toArray (by kernel_rfl) (by rw [hc]; rfl) (by simp [rwVn21, Value.oneCell'])
  unfold Oper.wp execOp
  simp only [hx, hy, Instr.storeAt, Instr.sureAddr, Sem.run_bind, Sem.run_pure, Result.andThen_ok, hs]
  exact hK _ _ h
theorem ldRown21 (w : World) (B o : Nat) (r : Row) (h : ∀ (j : Nat) v, (rwVn21 r)[j]? = some v → w.cell? ⟨B, o + j, none⟩ = some v) : (loadVar 45 ⟨B, o, none⟩).run Try.prog w = .ok (.agg (rwVn21 r).toArray) w := by
  have hl := run_loadCells_list (P := Try.prog) (w := w) ⟨B, o, none⟩ (rwVn21 r) (fun j v hv => by rw [Addr.add_lit]; exact h j v hv)
  have hn : (rwVn21 r).length = 18 := rfl
  rw [hn] at hl
  have hagg : (isAgg 45).run Try.prog w = .ok true w := Go.Abs.run_isAgg ti45
  have hsz : (Go.sizeOf 45).run Try.prog w = .ok 18 w := Go.Abs.run_sizeOf ti45
  unfold loadVar
  simp only [Sem.run_bind, hagg, Result.andThen_ok, if_true, hsz, hl, Sem.run_pure]
theorem ldBoxn21 (w : World) (n : Nat) (r : Row) (h : w.heap[n]? = some (.cells (rwVn21 r).toArray 45 (0, 0))) : (loadVar 40 ⟨n, 1, none⟩).run Try.prog w = .ok (.agg (bxVn21 r.Box).toArray) w := by
  have hl := run_loadCells_list (P := Try.prog) (w := w) ⟨n, 1, none⟩ (bxVn21 r.Box) (fun j v hv => by
    rw [Addr.add_lit, cell_of_row w n (1 + j) _ _ _ h]
    have hj : j < 9 := (List.getElem?_eq_some_iff.1 hv).1
    rw [← hv]
    match j, hj with
    | 0, _ | 1, _ | 2, _ | 3, _ | 4, _ | 5, _ | 6, _ | 7, _ | 8, _ => rfl)
  have hn : (bxVn21 r.Box).length = 9 := rfl
  rw [hn] at hl
  have hagg : (isAgg 40).run Try.prog w = .ok true w := Go.Abs.run_isAgg ti40
  have hsz : (Go.sizeOf 40).run Try.prog w = .ok 9 w := Go.Abs.run_sizeOf ti40
  unfold loadVar
  simp only [Sem.run_bind, hagg, Result.andThen_ok, if_true, hsz, hl, Sem.run_pure]
set_option maxHeartbeats 6000000 in
theorem nearn21 (l m : List Row) (R : List (List Int)) (hR : change_nearL m l = some R) (w : World) (A1 A2 : Option Addr) (c1 c2 : Nat) (hl : l.length ≤ 64) (hm : m.length ≤ 64) (hA : Rwsn21 w A1 l) (hB : Rwsn21 w A2 m) :
    Calls Try.prog 21 #[.slice A1 l.length c1, .slice A2 m.length c2] w fun e w' => ∃ O vs, w.heap.size ≤ O ∧ e = .returned (.slice (some ⟨O, 0, none⟩) l.length l.length) ∧ RowsOf w' O 22 3 vs R ∧ Below w.heap.size w w' := by
  have hmk := fun w => mkn21 w l.length hl
  have n0 : (0 : Int) ≤ l.length := by omega
  go_enter Try.func21, Try.ntmps21
  go_wp2
  have hR0 := rowsStartn21 w l.length
  have hbO : Below w.heap.size w (w.alloc (.cells (Array.replicate l.length (.slice none 0 0)) 22)) := (Below.refl _ w).alloc (Nat.le_refl _) _
  clear hmk
  go_loopw [15] (fun i wr => ∃ k : Nat, k ≤ l.length ∧ i = .int .i64 k ∧ ∃ rows vs Rk, change_nearL m (l.drop k) = some Rk ∧ R = rows.take k ++ Rk ∧ rows.length = l.length ∧ (∀ j, k ≤ j → j < l.length → rows[j]? = some []) ∧ RowsOf wr w.heap.size 22 3 vs rows ∧ Below w.heap.size w wr) (fun i _ => l.length - (intOf i).toNat)
  case atStart => exact ⟨0, by omega, rfl, List.replicate l.length [], _, R, by simpa using hR, by simp, by simp, fun j _ hj => by simp [List.getElem?_replicate, hj], hR0, hbO⟩
  case round =>
    obtain ⟨k, hk, rfl, rows, vs, Rk, hRk, hRR, hn, hz, hRo, hb⟩ := hrel
    clear hR0 hbO hR
    by_cases hlt : k < l.length
    · rw [List.drop_eq_getElem_cons hlt, change_nearL] at hRk
      obtain ⟨B, o, rfl, hcell⟩ := (hA.below hb) k hlt
      generalize l[k] = r at hRk hcell
      obtain ⟨XS, hI, hRk⟩ := Option.bind_eq_some_iff.1 hRk
      obtain ⟨RT, hRT, hRk⟩ := Option.bind_eq_some_iff.1 hRk
      have hRk := Option.some.inj hRk
      have hld := ldRown21 wr B (o + k * 18) r hcell
      clear hcell
      obtain ⟨W0, hW0⟩ : ∃ W0, W0 = wr.alloc (.cells (rwVn21 r).toArray 45) := ⟨_, rfl⟩
      have g0 : wr.grownBy W0 none := by rw [hW0]; exact World.grownBy_alloc _ _ _
      have r0 := hRo.kept g0
      have b0 := hb.grown g0 hb.size (fun j hj => by cases hj)
      have bl0 : W0.heap[wr.heap.size]? = some (.cells (rwVn21 r).toArray 45 (0, 0)) := by rw [hW0]; exact World.alloc_heap_new wr _
      have hO := blk_lt hRo.2.1
      have HLD := Lib.hid hld
      have HRR := Lib.hid hRR
      have HZ := Lib.hid hz
      have HRo := Lib.hid hRo
      have HB0 := Lib.hid hb
      have HA := Lib.hid hA
      have HBm := Lib.hid hB
      have HRT := Lib.hid hRT
      have HRK := Lib.hid hRk
      have HW0 := Lib.hid hW0
      have HI := Lib.hid hI
      have HR0 := Lib.hid r0
      have HBB := Lib.hid b0
      have HBL := Lib.hid bl0
      have HN := Lib.hid hn
      clear hRR hz hRo hb hA hB hRT hRk hW0 g0 hI r0 b0 bl0 hn hld
      go_wp2_with (first | (refine ldLn21 45 ⟨B, o + k * 18, none⟩ _ HLD.out rfl ?_) | (refine stLn21 r _ rfl rfl rfl ?_))
      go_loopw [22] (fun vj wi => ∃ q : Nat, q ≤ m.length ∧ vj = .int .i64 q ∧ ∃ xs vs', change_nearI r (m.drop q) q xs = some XS ∧ xs.length ≤ q ∧ RowsOf wi w.heap.size 22 3 vs' (rows.set k xs) ∧ Below w.heap.size w wi ∧ wi.heap[wr.heap.size]? = some (.cells (rwVn21 r).toArray 45 (0, 0))) (fun vj _ => m.length - (intOf vj).toNat)
      case atStart =>
        refine ⟨0, by omega, rfl, [], vs, by simpa using HI.out, by simp, ?_, ?_, ?_⟩
        · have e : rows.set k [] = rows := by
            apply List.ext_getElem?
            intro j
            rw [List.getElem?_set]
            by_cases h : k = j
            · subst h; rw [if_pos rfl, if_pos (by rw [HN.out]; exact hlt), HZ.out k (Nat.le_refl _) hlt]
            · rw [if_neg h]
          rw [e]
          have := HR0.out
          rw [HW0.out] at this; exact this
        · have := HBB.out; rw [HW0.out] at this; exact this
        · have := HBL.out; rw [HW0.out] at this; exact this
      case round =>
        rename World => wi
        obtain ⟨q, hq, rfl, xs, vs', hI, hx, hRo, hb, hbl⟩ := hrel
        by_cases hlt2 : q < m.length
        · rw [List.drop_eq_getElem_cons hlt2, change_nearI] at hI
          obtain ⟨B2, o2, rfl, hcell2⟩ := (HBm.out.below hb) q hlt2
          generalize m[q] = s at hI hcell2
          obtain ⟨bb, hS, hI⟩ := Option.bind_eq_some_iff.1 hI
          have hld2 := ldRown21 wi B2 (o2 + q * 18) s hcell2
          obtain ⟨w1, hw1⟩ : ∃ w1, w1 = wi.alloc (.cells (rwVn21 s).toArray 45) := ⟨_, rfl⟩
          have g1 : wi.grownBy w1 none := by rw [hw1]; exact World.grownBy_alloc _ _ _
          have blr : w1.heap[wr.heap.size]? = some (.cells (rwVn21 r).toArray 45 (0, 0)) := (g1.block _ (blk_lt hbl) (by simp)).trans hbl
          have bls : w1.heap[wi.heap.size]? = some (.cells (rwVn21 s).toArray 45 (0, 0)) := by rw [hw1]; exact World.alloc_heap_new wi _
          have hla := ldBoxn21 w1 _ r blr
          have hlb := ldBoxn21 w1 _ s bls
          have r1 := hRo.kept g1
          have b1 := hb.grown g1 hb.size (fun j hj => by cases hj)
          have SH := shCallsn21 r.Box s.Box bb hS w1
          have hkl : k < (rows.set k xs).length := by rw [List.length_set, HN.out]; exact hlt
          have ex : (rows.set k xs)[k]? = some xs := by rw [List.getElem?_set_self (by rw [HN.out]; exact hlt)]
          have hkv : k < vs'.length := by rw [hRo.1]; exact hkl
          have ev : vs'[k]? = some vs'[k] := List.getElem?_eq_getElem hkv
          generalize vs'[k] = v at ev
          rw [hw1] at hla hlb SH
          have LD2 := Lib.hid hld2
          have LA := Lib.hid hla
          have LB := Lib.hid hlb
          have HSH := Lib.hid SH
          have HR1 := Lib.hid r1
          have HB1 := Lib.hid b1
          have HBLR := Lib.hid blr
          have HI2 := Lib.hid hI
          have HW1 := Lib.hid hw1
          have HX := Lib.hid hx
          clear hld2 hla hlb SH r1 b1 blr hI hw1 hx bls g1 hS hcell2 hRo hb hbl hkl hkv
          cases bb with
          | false =>
            go_wp2_with (first | (refine ldLn21 45 ⟨B2, o2 + q * 18, none⟩ _ LD2.out rfl ?_) | (refine stLn21 s _ rfl rfl rfl ?_) | (refine ldLn21 40 ⟨wr.heap.size, 1, none⟩ _ LA.out rfl ?_) | (refine ldLn21 40 ⟨wi.heap.size, 1, none⟩ _ LB.out rfl ?_) | (go_at_call 9; refine HSH.out.mono ?_; rintro e w3 ⟨rfl, hb3⟩))
            have R1 := HR1.out
            have B1 := HB1.out
            have BL1 := HBLR.out
            rw [HW1.out] at R1 B1 BL1
            have hxl := HX.out
            exact ⟨⟨q + 1, by omega, by simp, xs, vs', by simpa using HI2.out, by omega, R1.kept (grownBn21 hb3), B1.grown (grownBn21 hb3) B1.size (fun j hj => by cases hj), (hb3.block _ (blk_lt BL1)).trans BL1⟩, by simp [intOf]; omega⟩
          | true =>
            have hxl := HX.out
            obtain ⟨i0, hi, hz0, hz1, hz2⟩ := info_parts (show (Try.prog.info? 3).map (fun i => (i.zero, i.size, i.bytes)) = some (some (.int .i64 0), 1, 8) by kernel_rfl)
            go_wp2_with (first | (refine ldLn21 45 ⟨B2, o2 + q * 18, none⟩ _ LD2.out rfl ?_) | (refine stLn21 s _ rfl rfl rfl ?_) | (refine ldLn21 40 ⟨wr.heap.size, 1, none⟩ _ LA.out rfl ?_) | (refine ldLn21 40 ⟨wi.heap.size, 1, none⟩ _ LB.out rfl ?_) | (go_at_call 9; refine HSH.out.mono ?_; rintro e w3 ⟨rfl, hb3⟩; have R1 := HR1.out; rw [HW1.out] at R1; have BL1 := HBLR.out; rw [HW1.out] at BL1; have h3 := R1.kept (grownBn21 hb3); have HG3 := Lib.hid (grownBn21 hb3); have BL3 := Lib.hid ((hb3.block _ (blk_lt BL1)).trans BL1); have co := (cel_get h3.2.1 k (by simpa using ev)).1; have H3 := Lib.hid h3; clear h3 hb3 R1 BL1) | (at_builtin; refine wpList_append_own_at _ rfl _ _ 22 rfl (w.heap.size + 1) 3 i0 (.int .i64 0) 1 8 (by kernel_rfl) hi hz0 hz1 hz2 rfl (by decide) _ _ _ rfl ((H3.out.2.2.1 k v xs ev ex).alloc _) ⟨w3.heap.size, 0, none⟩ 1 1 [.int .i64 (q : Int)] rfl rfl (cell_one_new _ _ _) (ints_oneCell .i64 [(q : Int)]) (by unfold maxLen; omega) (by omega) (by have := blk_lt H3.out.2.1; simp; omega) ?_; intro v' w5 hown' hgrow hnil hloc; obtain ⟨sa, sn, sc, rfl⟩ := ownsSlicen21 hown'; have h4 := H3.out.kept (World.grownBy_alloc w3 (.cells #[.int .i64 (q : Int)] 3) none); have b5 := (hgrow.block w.heap.size (blk_lt h4.2.1) (fun e => by have := ((H3.out.2.2.1 k v xs ev ex).lt _ e.symm).1; omega)).trans h4.2.1; obtain ⟨cc, ff⟩ := cel_get b5 k (by simpa using ev); have HO5 := Lib.hid hown'; have HG5 := Lib.hid hgrow; have HL5 := Lib.hid hloc; have H4 := Lib.hid h4; clear hown' hgrow hloc hnil b5 h4))
            have st := H4.out.step ev ex HG5.out HO5.out HL5.out
            have B1 := HB1.out
            rw [HW1.out] at B1
            have B3 := B1.grown HG3.out B1.size (fun j hj => by cases hj)
            have B4 := B3.alloc B3.size (.cells #[.int .i64 (q : Int)] 3)
            have B5 := B4.grown HG5.out B4.size (fun j hj => by have := ((H3.out.2.2.1 k v xs ev ex).lt j hj).1; omega)
            have B6 := B5.setCell (p := ⟨w.heap.size, k, none⟩) (Nat.le_refl _) (.slice sa sn sc)
            have BL4 : (w3.alloc (.cells #[.int .i64 (q : Int)] 3)).heap[wr.heap.size]? = _ := ((World.grownBy_alloc w3 (.cells #[.int .i64 (q : Int)] 3) none).block _ (blk_lt BL3.out) (by simp)).trans BL3.out
            have BL5 : w5.heap[wr.heap.size]? = _ := (HG5.out.block _ (blk_lt BL4) (fun e => by
              obtain ⟨cur, h9⟩ := ownTypen21 (H3.out.2.2.1 k v xs ev ex) e.symm
              rw [BL3.out] at h9
              injection h9 with h9
              injection h9 with _ h9
              exact absurd h9 (by decide))).trans BL4
            have BL6 : (w5.setCell ⟨w.heap.size, k, none⟩ (.slice sa sn sc)).heap[wr.heap.size]? = _ := (Below.heap_setCell w5 ⟨w.heap.size, k, none⟩ (.slice sa sn sc) wr.heap.size (fun e => by simp at e; omega)).trans BL5
            have st1 := st.1
            rw [List.set_set] at st1
            exact ⟨⟨q + 1, by omega, by simp, xs ++ [(q : Int)], _, by simpa using HI2.out, by simp; omega, st1, B6, BL6⟩, by simp [intOf]; omega⟩
        · obtain rfl : q = m.length := by omega
          rw [List.drop_length, change_nearI] at hI
          cases hI
          have HRi := Lib.hid hRo
          have HBi := Lib.hid hb
          clear hRo hb hbl hx
          go_wp2
          have e1 : (rows.set k XS).take (k + 1) = rows.take k ++ [XS] := by
            rw [List.take_add_one, List.take_set_of_le (Nat.le_refl k), List.getElem?_set_self (by rw [HN.out]; exact hlt)]
            rfl
          refine ⟨⟨k + 1, by omega, by simp, rows.set k XS, vs', RT, HRT.out, ?_, by rw [List.length_set]; exact HN.out, fun j h8 h9 => ?_, HRi.out, HBi.out⟩, by simp [intOf]; omega⟩
          · rw [e1, HRR.out, ← HRK.out]; simp
          · rw [List.getElem?_set_ne (by omega)]; exact HZ.out j (by omega) h9
    · obtain rfl : k = l.length := by omega
      rw [List.drop_length, change_nearL] at hRk
      cases hRk
      have e2 : R = rows := by rw [hRR, ← hn]; simp
      subst e2
      have HRo := Lib.hid hRo
      have HB := Lib.hid hb
      clear hRo hb
      go_wp2
      go_ret
      exact ⟨w.heap.size, vs, Nat.le_refl _, rfl, HRo.out, HB.out⟩
theorem rfRown21 {E : Env} {W : World} (hf : ∀ B o d, E.F B o = some d → W.cell? ⟨B, o, none⟩ = some d) {A : Option Addr} {l : List Row}
    (h : l.length = 0 ∨ ∃ B o, A = some ⟨B, o, none⟩ ∧ (false = true → E.n0 ≤ B) ∧ RF E B o (l.flatMap (Cl.c false))) : Rwsn21 W A l := fun k hk => by
  rcases h with h | ⟨B, o, rfl, _, h⟩
  · omega
  · refine ⟨B, o, rfl, fun j v hv => ?_⟩
    have hj : j < 18 := (List.getElem?_eq_some_iff.1 hv).1
    have key : (l.flatMap (Cl.c false))[k * 18 + j]? = some (.sc v) := by
      have := elem_split (α := Row) false l k hk
      have e6 : Cl.e Row = 18 := rfl
      rw [e6] at this
      have t2 := congrArg (fun z => z[j]?) this
      simp only [List.getElem?_drop] at t2
      rw [t2, List.getElem?_append_left (by rw [Cl.len]; exact hj), List.getD_eq_getElem?_getD, List.getElem?_eq_getElem hk]
      show (Cl.c false l[k])[j]? = _
      rw [show Cl.c false l[k] = (rwVn21 l[k]).map V.sc from rfl, List.getElem?_map, hv]
      rfl
    obtain ⟨d, h1, h2⟩ := RF.get _ _ h _ _ key
    simp only [RL] at h2
    subst h2
    rw [Nat.add_assoc]
    exact hf _ _ _ h1
theorem ok21 (l m : List Row) (r : List (List Int)) (hR : change_near l m = some r) : FnP Try.prog 21 [rowV false l, rowV false m] (rowV true r) := by
  unfold change_near at hR
  split at hR
  · rename_i h
    refine fnP_inF fun E W cargs hn hf ha => ?_
    unfold rowV at ha
    simp only [RLs, RL] at ha
    obtain ⟨_, _, rfl, ⟨A1, c1, rfl, q1, _, _, q2⟩, _, _, rfl, ⟨A2, c2, rfl, q3, _, _, q4⟩, rfl⟩ := ha
    refine (nearn21 l m r hR W A1 A2 c1 c2 h.1 h.2 (rfRown21 hf q2) (rfRown21 hf q4)).mono ?_
    rintro e w' ⟨O, vs, hO, rfl, hRo, hB⟩
    refine ⟨_, rfl, ?_, hB⟩
    have hlen : ∀ (l : List Row) (R : List (List Int)), change_nearL m l = some R → R.length = l.length := by
      intro l
      induction l with
      | nil => intro R h; rw [change_nearL] at h; cases h; rfl
      | cons s l ih =>
        intro R h
        rw [change_nearL] at h
        obtain ⟨x, _, h⟩ := Option.bind_eq_some_iff.1 h
        obtain ⟨y, hy, h⟩ := Option.bind_eq_some_iff.1 h
        cases h
        simp [ih _ hy]
    have hl := hlen l r hR
    have := hRo.rl (E := E) (n0 := W.heap.size) hO hn (cap := l.length) (by omega)
    rw [hl] at this
    exact this
  · cases hR
end

theorem ok53 (r : Bound) (hR : bound_None = some r) : FnP Try.prog 53 [] (aggV (α := Bound) true r) := by
  refine fnP_of (FnX.walk Try.func53 rfl 2 0 (by simp [Try.ntmps53]) rfl fun W S F Q hQ => ?_)
  unfold bound_None at hR
  refine AWP.sq ?_
  refine AWP.rgC 4 rfl rfl ?_
  refine al (cs := [.sc (.int .i64 0), .sc (.int .i64 0), .sc (.bool false)]) 0 rfl rfl ti34 rfl rfl ?_
  refine RunC.fin ?_
  refine AWP.sq ?_
  refine AWP.rgC 12 rfl rfl ?_
  refine bu (cs := [.sc (.int .i64 0), .sc (.int .i64 0), .sc (.bool true)]) rfl bt34 rfl ?_
  refine stB (cs' := [.sc (.int .i64 0), .sc (.int .i64 0), .sc (.bool true)]) rfl rfl rfl rfl ti34 rfl rfl rfl rfl rfl ?_
  refine RunC.fin ?_
  refine AWP.ret ?_
  have hR := Option.some.inj hR; subst hR
  exact hQ _ _ (LS.mk [(0, .ptr 0 0 0)] (lblks 0 [boxB (α := Bound) true (Bound.mk 0 0 true)]) 1) (aggV (α := Bound) true (Bound.mk 0 0 true)) [] (.inr rfl) (Weak.turnL [(0, 0)] [] rfl rfl (tc (trP' rfl rfl rfl rfl) tn) (mc rfl (.box rfl (.cons (.sc _) (.cons (.sc _) (.cons (.sc _) (.nil)))) rfl) mn)) (ro1 (rvC (v := aggV (α := Bound) true (Bound.mk 0 0 true)) rfl rfl ti34 rfl)) rfl rfl ldA pn
theorem ok52 (b : Bound) (r : Bound) (hR : bound_Norm b = some r) : FnP Try.prog 52 [aggV false b] (aggV (α := Bound) true r) := by
  refine fnP_of (FnX.walk Try.func52 rfl 8 0 (by simp [Try.ntmps52]) rfl fun W S F Q hQ => ?_)
  unfold bound_Norm at hR
  refine AWP.sq ?_
  refine AWP.rgC 8 rfl rfl ?_
  refine bx (cs := _) 0 rfl rfl rfl ?_
  refine al (cs := [.sc (.int .i64 0), .sc (.int .i64 0), .sc (.bool false)]) 4 rfl rfl ti34 rfl rfl ?_
  refine RunC.fin ?_
  refine AWP.sq ?_
  refine AWP.sq ?_
  refine AWP.rgC 20 rfl rfl ?_
  refine ldB (v := .agg _) rfl rfl rfl rfl ti34 rfl rfl ?_
  obtain ⟨r1, hr1, hR⟩ := bindE hR
  refine cls [] rfl rfl cb33 (ok33 b _ hr1) (.cons (.agg (.cons (.sc _) (.cons (.sc _) (.cons (.sc _) (.nil)))) rfl) (.nil)) (.inr rfl) rfl ?_
  refine pu (v := .sc _) rfl rfl (fun _ => rfl) ?_
  refine RunC.fin ?_
  refine AWP.cd hR rfl (fun h2 hR => ?_) fun h2 hR => ?_
  · refine AWP.sq ?_
    refine AWP.rgC 28 rfl rfl ?_
    obtain ⟨r3, hr3, hR⟩ := bindE hR
    refine cls [] rfl rfl cb53 (ok53 _ hr3) (.nil) (.inr rfl) rfl ?_
    refine stB (cs' := [.sc (.int .i64 r3.Lo), .sc (.int .i64 r3.Hi), .sc (.bool r3.Unknown)]) rfl rfl rfl rfl ti34 rfl rfl rfl rfl rfl ?_
    refine RunC.fin ?_
    refine AWP.ret ?_
    refine rtT ?_
    have hR := Option.some.inj hR; subst hR
    exact hQ _ _ (LS.mk [(2, .ptr 0 0 0)] (lblks 0 [boxB (α := Bound) true r3]) 1) (aggV (α := Bound) true r3) [] (.inr rfl) (Weak.turnL [(4, 0)] [] rfl rfl (tc (trP' rfl rfl rfl rfl) tn) (mc rfl (.box rfl (.cons (.sc _) (.cons (.sc _) (.cons (.sc _) (.nil)))) rfl) mn)) (ro1 (rvC (v := aggV (α := Bound) true r3) rfl rfl ti34 rfl)) rfl rfl ldA pn
  · refine AWP.skip ?_
    refine skT ?_
    refine AWP.sq ?_
    refine AWP.rgC 28 rfl rfl ?_
    refine ldB (v := .agg _) rfl rfl rfl rfl ti34 rfl rfl ?_
    refine stB (cs' := [.sc (.int .i64 b.Lo), .sc (.int .i64 b.Hi), .sc (.bool b.Unknown)]) rfl rfl rfl rfl ti34 rfl rfl rfl rfl rfl ?_
    refine RunC.fin ?_
    refine AWP.ret ?_
    have hR := Option.some.inj hR; subst hR
    exact hQ _ _ (LS.mk [(2, .ptr 0 0 0)] (lblks 0 [boxB (α := Bound) true b]) 1) (aggV (α := Bound) true b) [] (.inr rfl) (Weak.turnL [(4, 0)] [] rfl rfl (tc (trP' rfl rfl rfl rfl) tn) (mc rfl (.box rfl (.cons (.sc _) (.cons (.sc _) (.cons (.sc _) (.nil)))) rfl) mn)) (ro1 (rvC (v := aggV (α := Bound) true b) rfl rfl ti34 rfl)) rfl rfl ldA pn
theorem ok41 (a : Bound) (b : Bound) (r : Bool) (hR : bound_vague a b = some r) : FnP Try.prog 41 [aggV false a, aggV false b] (.sc (.bool r)) := by
  refine fnP_of (FnX.walk Try.func41 rfl 13 0 (by simp [Try.ntmps41]) rfl fun W S F Q hQ => ?_)
  unfold bound_vague at hR
  refine AWP.sq ?_
  refine AWP.rgC 12 rfl rfl ?_
  refine bx (cs := _) 0 rfl rfl rfl ?_
  refine bx (cs := _) 4 rfl rfl rfl ?_
  refine pu (v := .sc _) rfl rfl (fun _ => rfl) ?_
  refine RunC.fin ?_
  refine AWP.joinX (fun z1 : Bool => LS.mk [(4, .sc (.bool z1))] (lblks 0 []) 0) hR (fun o1 hR => ?_) fun z1 hR => ?_
  · refine AWP.rgC 48 rfl rfl ?_
    refine ldB (v := .agg _) rfl rfl rfl rfl ti34 rfl rfl ?_
    obtain ⟨r2, hr2, hR⟩ := bindE hR
    refine cls [] rfl rfl cb52 (ok52 a _ hr2) (.cons (.agg (.cons (.sc _) (.cons (.sc _) (.cons (.sc _) (.nil)))) rfl) (.nil)) (.inr rfl) rfl ?_
    refine fi (v := .sc _) rfl rfl ti34 rfl rfl ti4 rfl ?_
    refine pu (v := .sc _) rfl rfl (fun _ => rfl) ?_
    refine brR hR (fun h3 hR => ?_) fun h3 hR => ?_
    · refine sk (skW rfl rfl rfl h3) ?_
      refine sk (skW rfl rfl rfl h3) ?_
      refine sk (skW rfl rfl rfl h3) ?_
      refine pkT (v := .sc (.bool true)) rfl rfl h3 rfl ?_
      refine pu (v := .sc _) rfl rfl (fun _ => rfl) ?_
      refine RunC.fin ?_
      have hR := Option.some.inj hR; subst hR
      exact Weak.turnL [] [] rfl rfl (tc (.sc _) tn) mn
    · refine ldB (v := .agg _) (wtG rfl rfl rfl h3) rfl rfl rfl ti34 rfl rfl ?_
      obtain ⟨r4, hr4, hR⟩ := bindE hR
      refine cls [] (wtG rfl rfl rfl h3) rfl cb52 (ok52 b _ hr4) (.cons (.agg (.cons (.sc _) (.cons (.sc _) (.cons (.sc _) (.nil)))) rfl) (.nil)) (.inr rfl) rfl ?_
      refine fi (v := .sc _) (wtG rfl rfl rfl h3) rfl ti34 rfl rfl ti4 rfl ?_
      refine pkF (v := .sc (.bool r4.Unknown)) rfl rfl h3 rfl ?_
      refine pu (v := .sc _) rfl rfl (fun _ => rfl) ?_
      refine RunC.fin ?_
      have hR := Option.some.inj hR; subst hR
      exact Weak.turnL [] [] rfl rfl (tc (.sc _) tn) mn
  · refine AWP.ret ?_
    have hR := Option.some.inj hR; subst hR
    exact hQ _ _ (LS.mk [(4, .sc (.bool z1))] (lblks 0 []) 0) (.sc (.bool z1)) [] (.inr rfl) (Weak.turnL [] [] rfl rfl (tc (.sc _) tn) mn) (ro1 (rvT (v := .sc (.bool z1)) rfl)) rfl rfl (.sc _) pn
theorem ok34 (a : Bound) (b : Bound) (r : Int) (hR : bound_Cmp a b = some r) : FnP Try.prog 34 [aggV false a, aggV false b] (.sc (.int .i64 r)) := by
  refine fnP_of (FnX.walk Try.func34 rfl 21 0 (by simp [Try.ntmps34]) rfl fun W S F Q hQ => ?_)
  unfold bound_Cmp at hR
  refine AWP.sq ?_
  refine AWP.rgC 12 rfl rfl ?_
  refine bx (cs := _) 0 rfl rfl rfl ?_
  refine bx (cs := _) 4 rfl rfl rfl ?_
  refine pu (v := .sc _) rfl rfl (fun _ => rfl) ?_
  refine RunC.fin ?_
  refine AWP.joinS (fun z1 : Unit => LS.mk [] (lblks 0 []) 0) hR (fun o1 hR hE1 => ?_) fun z1 hR => ?_
  · refine AWP.block ?_
    refine AWP.sq ?_
    refine AWP.rgC 28 rfl rfl ?_
    refine ldB (v := .agg _) rfl rfl rfl rfl ti34 rfl rfl ?_
    refine ldB (v := .agg _) rfl rfl rfl rfl ti34 rfl rfl ?_
    obtain ⟨r2, hr2, hR⟩ := bindE hR
    refine cls [] rfl rfl cb41 (ok41 a b _ hr2) (.cons (.agg (.cons (.sc _) (.cons (.sc _) (.cons (.sc _) (.nil)))) rfl) (.cons (.agg (.cons (.sc _) (.cons (.sc _) (.cons (.sc _) (.nil)))) rfl) (.nil))) (.inr rfl) rfl ?_
    refine pu (v := .sc _) rfl rfl (fun _ => rfl) ?_
    refine RunC.fin ?_
    refine AWP.cd hR rfl (fun h3 hR => ?_) fun h3 hR => ?_
    · refine AWP.skip ?_
      refine skB ?_
      refine skT ?_
      refine ⟨(), (Option.some.inj hR).symm, ?_⟩
      exact Weak.turnL [] [] rfl rfl tn mn
    · refine AWP.sq ?_
      refine AWP.rgC 52 rfl rfl ?_
      refine fa rfl rfl ti34 rfl rfl ti32 rfl ?_
      refine ldB (v := .sc _) rfl rfl rfl rfl ti32 rfl rfl ?_
      refine fa rfl rfl ti34 rfl rfl ti32 rfl ?_
      refine ldB (v := .sc _) rfl rfl rfl rfl ti32 rfl rfl ?_
      refine pu (v := .sc _) rfl rfl (fun _ => rfl) ?_
      refine pu (v := .sc _) rfl rfl (fun _ => rfl) ?_
      refine RunC.fin ?_
      refine AWP.cd hR rfl (fun h4 hR => ?_) fun h4 hR => ?_
      · refine AWP.sq ?_
        refine AWP.rgC 56 rfl rfl ?_
        refine pu (v := .sc _) rfl rfl (fun _ => rfl) ?_
        refine RunC.fin ?_
        refine AWP.ret ?_
        refine rtB ?_
        refine rtT ?_
        replace hR := escJ hR hE1
        have hR := Option.some.inj hR; subst hR
        exact hQ _ _ (LS.mk [(4, .sc (.int .i64 (-1)))] (lblks 0 []) 0) (.sc (.int .i64 (-1))) [] (.inr rfl) (Weak.turnL [] [] rfl rfl (tc (.sc _) tn) mn) (ro1 (rvT (v := .sc (.int .i64 (-1))) rfl)) rfl rfl (.sc _) pn
      · refine AWP.sq ?_
        refine AWP.rgC 76 rfl rfl ?_
        refine fa rfl rfl ti34 rfl rfl ti32 rfl ?_
        refine ldB (v := .sc _) rfl rfl rfl rfl ti32 rfl rfl ?_
        refine fa rfl rfl ti34 rfl rfl ti32 rfl ?_
        refine ldB (v := .sc _) rfl rfl rfl rfl ti32 rfl rfl ?_
        refine pu (v := .sc _) rfl rfl (fun _ => rfl) ?_
        refine pu (v := .sc _) rfl rfl (fun _ => rfl) ?_
        refine RunC.fin ?_
        refine AWP.cd hR rfl (fun h5 hR => ?_) fun h5 hR => ?_
        · refine AWP.sq ?_
          refine AWP.rgC 80 rfl rfl ?_
          refine pu (v := .sc _) rfl rfl (fun _ => rfl) ?_
          refine RunC.fin ?_
          refine AWP.ret ?_
          refine rtB ?_
          refine rtT ?_
          replace hR := escJ hR hE1
          have hR := Option.some.inj hR; subst hR
          exact hQ _ _ (LS.mk [(4, .sc (.int .i64 1))] (lblks 0 []) 0) (.sc (.int .i64 1)) [] (.inr rfl) (Weak.turnL [] [] rfl rfl (tc (.sc _) tn) mn) (ro1 (rvT (v := .sc (.int .i64 1)) rfl)) rfl rfl (.sc _) pn
        · refine AWP.skip ?_
          refine skB ?_
          refine skT ?_
          refine ⟨(), (Option.some.inj hR).symm, ?_⟩
          exact Weak.turnL [] [] rfl rfl tn mn
  · refine AWP.sq ?_
    refine AWP.rgC 4 rfl rfl ?_
    refine pu (v := .sc _) rfl rfl (fun _ => rfl) ?_
    refine RunC.fin ?_
    refine AWP.ret ?_
    have hR := Option.some.inj hR; subst hR
    exact hQ _ _ (LS.mk [(4, .sc (.int .i64 0))] (lblks 0 []) 0) (.sc (.int .i64 0)) [] (.inr rfl) (Weak.turnL [] [] rfl rfl (tc (.sc _) tn) mn) (ro1 (rvT (v := .sc (.int .i64 0)) rfl)) rfl rfl (.sc _) pn
theorem ok22 (old : Row) (now : Row) (r : Int) (hR : change_kind old now = some r) : FnP Try.prog 22 [aggV false old, aggV false now] (.sc (.int .i64 r)) := by
  refine fnP_of (FnX.walk Try.func22 rfl 14 0 (by simp [Try.ntmps22]) rfl fun W S F Q hQ => ?_)
  unfold change_kind at hR
  refine AWP.sq ?_
  refine AWP.rgC 12 rfl rfl ?_
  refine bx (cs := _) 0 rfl rfl rfl ?_
  refine bx (cs := _) 4 rfl rfl rfl ?_
  refine pu (v := .sc _) rfl rfl (fun _ => rfl) ?_
  refine RunC.fin ?_
  refine AWP.sq ?_
  refine AWP.sq ?_
  refine AWP.rgC 32 rfl rfl ?_
  refine fa rfl rfl ti45 rfl rfl ti34 rfl ?_
  refine ldB (v := .agg _) rfl rfl rfl rfl ti34 rfl rfl ?_
  refine fa rfl rfl ti45 rfl rfl ti34 rfl ?_
  refine ldB (v := .agg _) rfl rfl rfl rfl ti34 rfl rfl ?_
  obtain ⟨r1, hr1, hR⟩ := bindE hR
  refine cls [] rfl rfl cb34 (ok34 now.Flux old.Flux _ hr1) (.cons (.agg (.cons (.sc _) (.cons (.sc _) (.cons (.sc _) (.nil)))) rfl) (.cons (.agg (.cons (.sc _) (.cons (.sc _) (.cons (.sc _) (.nil)))) rfl) (.nil))) (.inr rfl) rfl ?_
  refine RunC.fin ?_
  refine AWP.block ?_
  refine AWP.sq ?_
  refine AWP.rgC 40 rfl rfl ?_
  refine pu (v := .sc _) rfl rfl (fun _ => rfl) ?_
  refine pu (v := .sc _) rfl rfl (fun _ => rfl) ?_
  refine RunC.fin ?_
  refine AWP.cd hR rfl (fun h2 hR => ?_) fun h2 hR => ?_
  · refine AWP.sq ?_
    refine AWP.rgC 44 rfl rfl ?_
    refine pu (v := .sc _) rfl rfl (fun _ => rfl) ?_
    refine RunC.fin ?_
    refine AWP.ret ?_
    refine rtB ?_
    refine rtT ?_
    have hR := Option.some.inj hR; subst hR
    exact hQ _ _ (LS.mk [(4, .sc (.int .i64 2))] (lblks 0 []) 0) (.sc (.int .i64 2)) [] (.inr rfl) (Weak.turnL [] [] rfl rfl (tc (.sc _) tn) mn) (ro1 (rvT (v := .sc (.int .i64 2)) rfl)) rfl rfl (.sc _) pn
  · refine AWP.sq ?_
    refine AWP.rgC 48 rfl rfl ?_
    refine pu (v := .sc _) rfl rfl (fun _ => rfl) ?_
    refine pu (v := .sc _) rfl rfl (fun _ => rfl) ?_
    refine RunC.fin ?_
    refine AWP.cd hR rfl (fun h3 hR => ?_) fun h3 hR => ?_
    · refine AWP.sq ?_
      refine AWP.rgC 52 rfl rfl ?_
      refine pu (v := .sc _) rfl rfl (fun _ => rfl) ?_
      refine RunC.fin ?_
      refine AWP.ret ?_
      refine rtB ?_
      refine rtT ?_
      have hR := Option.some.inj hR; subst hR
      exact hQ _ _ (LS.mk [(4, .sc (.int .i64 3))] (lblks 0 []) 0) (.sc (.int .i64 3)) [] (.inr rfl) (Weak.turnL [] [] rfl rfl (tc (.sc _) tn) mn) (ro1 (rvT (v := .sc (.int .i64 3)) rfl)) rfl rfl (.sc _) pn
    · refine AWP.skip ?_
      refine skB ?_
      refine skT ?_
      refine AWP.sq ?_
      refine AWP.rgC 52 rfl rfl ?_
      refine pu (v := .sc _) rfl rfl (fun _ => rfl) ?_
      refine RunC.fin ?_
      refine AWP.ret ?_
      have hR := Option.some.inj hR; subst hR
      exact hQ _ _ (LS.mk [(4, .sc (.int .i64 7))] (lblks 0 []) 0) (.sc (.int .i64 7)) [] (.inr rfl) (Weak.turnL [] [] rfl rfl (tc (.sc _) tn) mn) (ro1 (rvT (v := .sc (.int .i64 7)) rfl)) rfl rfl (.sc _) pn
theorem ok10 (old : List Row) (now : List Row) (r : (List change_Change) × Int) (hR : change_Between old now = some r) : FnP Try.prog 10 [rowV false old, rowV false now] (.tup [rowV (α := change_Change) true r.1, .sc (.int .i64 r.2)]) := by
  refine fnP_of (FnX.walk Try.func10 rfl 103 0 (by simp [Try.ntmps10]) rfl fun W S F Q hQ => ?_)
  unfold change_Between at hR
  refine AWP.sq ?_
  refine AWP.rgC 8 rfl rfl ?_
  refine pu (v := .sc _) rfl rfl (fun _ => rfl) ?_
  refine pu (v := .sc _) rfl rfl (fun _ => rfl) ?_
  refine RunC.fin ?_
  refine AWP.sq ?_
  refine AWP.sq ?_
  refine AWP.rgC 20 rfl rfl ?_
  refine pu (v := rowV _ old) rfl rfl (fun _ => rfl) ?_
  obtain ⟨r1, hr1, hR⟩ := bindE hR
  refine cls [] rfl rfl cb20 (ok20 old _ hr1) (.cons ldR' (.nil)) (.inr rfl) rfl ?_
  refine pu (v := .sc _) rfl rfl (fun _ => rfl) ?_
  refine RunC.fin ?_
  refine AWP.sq ?_
  refine AWP.rgC 28 rfl rfl ?_
  refine pu (v := .sc _) rfl rfl (fun _ => rfl) ?_
  refine pu (v := .sc _) rfl rfl (fun _ => rfl) ?_
  refine RunC.fin ?_
  refine AWP.cd hR rfl (fun h2 hR => ?_) fun h2 hR => ?_
  · refine AWP.sq ?_
    refine AWP.rgC 40 rfl rfl ?_
    refine pu (v := .sc _) rfl rfl (fun _ => rfl) ?_
    refine pu (v := .sc _) rfl rfl (fun _ => rfl) ?_
    refine pu (v := .sc _) rfl rfl (fun _ => rfl) ?_
    refine RunC.fin ?_
    refine AWP.ret ?_
    refine rtT ?_
    have hR := Option.some.inj hR; subst hR
    exact hQ _ _ (LS.mk [(4, rowV (α := change_Change) true []), (5, .sc (.int .i64 r1))] (lblks 0 []) 0) (.tup [rowV (α := change_Change) true [], .sc (.int .i64 r1)]) [] (.inr rfl) (Weak.turnL [] [] rfl rfl (tc trN (tc (.sc _) tn)) mn) (ro2 (rvT (v := rowV (α := change_Change) true []) rfl) (rvT (v := .sc (.int .i64 r1)) rfl)) rfl rfl (.tup (.cons ldR' (.cons (.sc _) .nil))) pn
  · refine AWP.skip ?_
    refine skT ?_
    refine AWP.sq ?_
    refine AWP.sq ?_
    refine AWP.rgC 40 rfl rfl ?_
    refine pu (v := rowV _ now) rfl rfl (fun _ => rfl) ?_
    obtain ⟨r3, hr3, hR⟩ := bindE hR
    refine cls [] rfl rfl cb20 (ok20 now _ hr3) (.cons ldR' (.nil)) (.inr rfl) rfl ?_
    refine pu (v := .sc _) rfl rfl (fun _ => rfl) ?_
    refine RunC.fin ?_
    refine AWP.sq ?_
    refine AWP.rgC 48 rfl rfl ?_
    refine pu (v := .sc _) rfl rfl (fun _ => rfl) ?_
    refine pu (v := .sc _) rfl rfl (fun _ => rfl) ?_
    refine RunC.fin ?_
    refine AWP.cd hR rfl (fun h4 hR => ?_) fun h4 hR => ?_
    · refine AWP.sq ?_
      refine AWP.rgC 60 rfl rfl ?_
      refine pu (v := .sc _) rfl rfl (fun _ => rfl) ?_
      refine pu (v := .sc _) rfl rfl (fun _ => rfl) ?_
      refine pu (v := .sc _) rfl rfl (fun _ => rfl) ?_
      refine RunC.fin ?_
      refine AWP.ret ?_
      refine rtT ?_
      have hR := Option.some.inj hR; subst hR
      exact hQ _ _ (LS.mk [(4, rowV (α := change_Change) true []), (5, .sc (.int .i64 r3))] (lblks 0 []) 0) (.tup [rowV (α := change_Change) true [], .sc (.int .i64 r3)]) [] (.inr rfl) (Weak.turnL [] [] rfl rfl (tc trN (tc (.sc _) tn)) mn) (ro2 (rvT (v := rowV (α := change_Change) true []) rfl) (rvT (v := .sc (.int .i64 r3)) rfl)) rfl rfl (.tup (.cons ldR' (.cons (.sc _) .nil))) pn
    · refine AWP.skip ?_
      refine skT ?_
      refine AWP.sq ?_
      refine AWP.rgC 80 rfl rfl ?_
      refine pu (v := rowV _ now) rfl rfl (fun _ => rfl) ?_
      refine pu (v := rowV _ old) rfl rfl (fun _ => rfl) ?_
      obtain ⟨r5, hr5, hR⟩ := bindE hR
      refine cls [] rfl rfl cb21 (ok21 now old _ hr5) (.cons ldR' (.cons ldR' (.nil))) (.inr rfl) rfl ?_
      refine pu (v := rowV _ old) rfl rfl (fun _ => rfl) ?_
      refine pu (v := rowV _ now) rfl rfl (fun _ => rfl) ?_
      obtain ⟨r6, hr6, hR⟩ := bindE hR
      refine cls [] rfl rfl cb21 (ok21 old now _ hr6) (.cons ldR' (.cons ldR' (.nil))) (.inr rfl) rfl ?_
      refine pu (v := rowV _ r5) rfl rfl (fun _ => rfl) ?_
      refine pu (v := rowV _ r6) rfl rfl (fun _ => rfl) ?_
      refine RunC.fin ?_
      refine AWP.sq ?_
      refine AWP.rgC 84 rfl rfl ?_
      refine pu (v := .sc _) rfl rfl (fun _ => rfl) ?_
      refine RunC.fin ?_
      refine AWP.sq ?_
      refine AWP.sq ?_
      refine AWP.rgC 96 rfl rfl ?_
      refine pu (v := rowV _ r5) rfl rfl (fun _ => rfl) ?_
      refine lenL (α := List Int) rfl rfl ti71 rfl ?_
      refine pu (v := .sc _) rfl rfl (fun _ => rfl) ?_
      refine RunC.fin ?_
      refine AWP.nilT change_Change 10 55 rfl ?_
      refine AWP.loopJ (fun s7 : (List change_Change) × Int => LS.mk [(0, rowV (α := Row) false old), (1, rowV (α := Row) false now), (9, rowV (α := List Int) true r6), (10, slV change_Change 0 0 0 s7.1.length), (31, rowV (α := List Int) true r5), (32, .sc (.int .i64 (r5.length : Int))), (33, .sc (.int .i64 s7.2))] (lblks 0 [arrB (α := change_Change) 55 0 true s7.1]) 1) (fun z8 : (List change_Change) => LS.mk [(9, rowV (α := List Int) true r6), (10, slV change_Change 0 0 0 z8.length)] (lblks 0 [arrB (α := change_Change) 55 0 true z8]) 1) (change_Between.l1 old now r5 r6) hR (s0 := (([] : List change_Change), 0)) (Weak.turnL [(96, 0)] [] rfl rfl (tc trR1 (tc trR1 (tc trR1 (tc (trS' rfl rfl rfl rfl rfl) (tc trR1 (tc (.sc _) (tc (.sc _) tn))))))) (mc rfl (btrA' rfl) mn)) (fun s7 o7 hR => ?_) fun z8 hR => ?_
      · unfold change_Between.l1 at hR
        refine AWP.sq ?_
        refine AWP.rgC 5 rfl rfl ?_
        refine pu (v := .sc _) rfl rfl (fun _ => rfl) ?_
        refine RunC.fin ?_
        refine AWP.sq ?_
        refine AWP.cd hR rfl (fun h9 hR => ?_) fun h9 hR => ?_
        · refine AWP.skip ?_
          refine skT ?_
          refine AWP.joinX (fun z10 : (List change_Change) => LS.mk [(0, rowV (α := Row) false old), (1, rowV (α := Row) false now), (9, rowV (α := List Int) true r6), (10, slV change_Change 0 0 0 z10.length), (31, rowV (α := List Int) true r5), (32, .sc (.int .i64 (r5.length : Int))), (33, .sc (.int .i64 s7.2))] (lblks 0 [arrB (α := change_Change) 55 0 true z10]) 1) hR (fun o10 hR => ?_) fun z10 hR => ?_
          · refine AWP.block ?_
            refine AWP.sq ?_
            refine AWP.rgC 25 rfl rfl ?_
            refine pu (v := .sc _) rfl rfl (fun _ => rfl) ?_
            obtain ⟨h11, hR⟩ := chkE hR
            refine ixL (α := List Int) rfl rfl rfl ti71 rfl ti22 rfl h11 ?_
            refine ldR (v := rowV _ (gt r5 s7.2)) rfl rfl ti22 rfl ?_
            refine pu (v := .sc _) rfl rfl (fun _ => rfl) ?_
            refine pu (v := rowV _ (gt r5 s7.2)) rfl rfl (fun _ => rfl) ?_
            refine RunC.fin ?_
            refine AWP.block ?_
            refine AWP.sq ?_
            refine AWP.rgC 41 rfl rfl ?_
            refine pu (v := rowV _ (gt r5 s7.2)) rfl rfl (fun _ => rfl) ?_
            refine lenL (α := Int) rfl rfl ti22 rfl ?_
            refine pu (v := .sc _) rfl rfl (fun _ => rfl) ?_
            refine pu (v := .sc _) rfl rfl (fun _ => rfl) ?_
            refine RunC.fin ?_
            refine AWP.cd hR rfl (fun h12 hR => ?_) fun h12 hR => ?_
            · refine AWP.rgC 65 rfl rfl ?_
              refine pu (v := slV change_Change _ _ _ _) rfl rfl (fun _ => rfl) ?_
              refine pu (v := .sc _) rfl rfl (fun _ => rfl) ?_
              refine bu (cs := [.sc (.int .i64 1), .sc (.int .i64 (-1)), .sc (.int .i64 s7.2)]) rfl bt55 rfl ?_
              refine bs (α := change_Change) 53 true ([change_Change.mk 1 (-1) s7.2] : List change_Change) rfl rfl ti48 rfl ti55 rfl rfl rfl rfl rfl ?_
              obtain ⟨h13, hR⟩ := chkE hR
              refine ap' (α := change_Change) (nw := true) (xs := s7.1) (ys := ([change_Change.mk 1 (-1) s7.2] : List change_Change)) rfl rfl rfl rfl (srcS' rfl rfl rfl) ti48 rfl ti55 rfl h13 rfl ?_
              refine pu (v := slV change_Change _ _ _ _) rfl rfl (fun _ => rfl) ?_
              refine RunC.blk ?_
              refine RunC.blk ?_
              refine RunC.fin ?_
              have hR := Option.some.inj hR; subst hR
              exact Weak.turnL [(0, 0)] [] rfl rfl (tc trR1 (tc trR1 (tc trR1 (tc (trS' rfl rfl rfl rfl rfl) (tc trR1 (tc (.sc _) (tc (.sc _) tn))))))) (mc rfl (btrA' rfl) mn)
            · refine AWP.joinX (fun z14 : Bool => LS.mk [(0, rowV (α := Row) false old), (1, rowV (α := Row) false now), (9, rowV (α := List Int) true r6), (10, slV change_Change 0 0 0 s7.1.length), (11, .sc (.int .i64 s7.2)), (12, rowV (α := Int) true (gt r5 s7.2)), (31, rowV (α := List Int) true r5), (32, .sc (.int .i64 (r5.length : Int))), (33, .sc (.int .i64 s7.2)), (66, .sc (.bool z14))] (lblks 0 [arrB (α := change_Change) 55 0 true s7.1]) 1) hR (fun o14 hR => ?_) fun z14 hR => ?_
              · refine AWP.rgC 97 rfl rfl ?_
                refine pu (v := rowV _ (gt r5 s7.2)) rfl rfl (fun _ => rfl) ?_
                refine lenL (α := Int) rfl rfl ti22 rfl ?_
                refine pu (v := .sc _) rfl rfl (fun _ => rfl) ?_
                refine pu (v := .sc _) rfl rfl (fun _ => rfl) ?_
                refine brR hR (fun h15 hR => ?_) fun h15 hR => ?_
                · refine sk (skW rfl rfl rfl h15) ?_
                  refine sk (skW rfl rfl rfl h15) ?_
                  refine sk (skW rfl rfl rfl h15) ?_
                  refine sk (skW rfl rfl rfl h15) ?_
                  refine sk (skW rfl rfl rfl h15) ?_
                  refine sk (skW rfl rfl rfl h15) ?_
                  refine sk (skW rfl rfl rfl h15) ?_
                  refine sk (skW rfl rfl rfl h15) ?_
                  refine pkT (v := .sc (.bool true)) rfl rfl h15 rfl ?_
                  refine pu (v := .sc _) rfl rfl (fun _ => rfl) ?_
                  refine RunC.fin ?_
                  have hR := Option.some.inj hR; subst hR
                  exact Weak.turnL [(0, 0)] [] rfl rfl (tc trR1 (tc trR1 (tc trR1 (tc (trS' rfl rfl rfl rfl rfl) (tc (.sc _) (tc trR1 (tc trR1 (tc (.sc _) (tc (.sc _) (tc (.sc _) tn)))))))))) (mc rfl (btrA' rfl) mn)
                · refine pu (v := rowV _ r6) (wtG rfl rfl rfl h15) rfl (fun _ => rfl) ?_
                  refine pu (v := rowV _ (gt r5 s7.2)) (wtG rfl rfl rfl h15) rfl (fun _ => rfl) ?_
                  obtain ⟨h16, hR⟩ := chkE hR
                  refine ixL (α := Int) (wtG rfl rfl rfl h15) rfl rfl ti22 rfl ti3 rfl h16 ?_
                  refine ldR (v := .sc _) (wtG rfl rfl rfl h15) rfl ti3 rfl ?_
                  obtain ⟨h17, hR⟩ := chkE hR
                  refine ixL (α := List Int) (wtG rfl rfl rfl h15) rfl rfl ti71 rfl ti22 rfl h17 ?_
                  refine ldR (v := rowV _ (gt r6 (gt (gt r5 s7.2) 0))) (wtG rfl rfl rfl h15) rfl ti22 rfl ?_
                  refine lenL (α := Int) (wtG rfl rfl rfl h15) rfl ti22 rfl ?_
                  refine pu (v := .sc _) (wtG rfl rfl rfl h15) rfl (fun _ => rfl) ?_
                  refine pkF (v := .sc (.bool (decide (((gt r6 (gt (gt r5 s7.2) 0)).length : Int) > 1)))) rfl rfl h15 rfl ?_
                  refine pu (v := .sc _) rfl rfl (fun _ => rfl) ?_
                  refine RunC.fin ?_
                  have hR := Option.some.inj hR; subst hR
                  exact Weak.turnL [(0, 0)] [] rfl rfl (tc trR1 (tc trR1 (tc trR1 (tc (trS' rfl rfl rfl rfl rfl) (tc (.sc _) (tc trR1 (tc trR1 (tc (.sc _) (tc (.sc _) (tc (.sc _) tn)))))))))) (mc rfl (btrA' rfl) mn)
              · refine AWP.cd hR rfl (fun h18 hR => ?_) fun h18 hR => ?_
                · refine AWP.rgC 25 rfl rfl ?_
                  refine pu (v := slV change_Change _ _ _ _) rfl rfl (fun _ => rfl) ?_
                  refine pu (v := .sc _) rfl rfl (fun _ => rfl) ?_
                  refine bu (cs := [.sc (.int .i64 8), .sc (.int .i64 (-1)), .sc (.int .i64 s7.2)]) rfl bt55 rfl ?_
                  refine bs (α := change_Change) 13 true ([change_Change.mk 8 (-1) s7.2] : List change_Change) rfl rfl ti48 rfl ti55 rfl rfl rfl rfl rfl ?_
                  obtain ⟨h19, hR⟩ := chkE hR
                  refine ap' (α := change_Change) (nw := true) (xs := s7.1) (ys := ([change_Change.mk 8 (-1) s7.2] : List change_Change)) rfl rfl rfl rfl (srcS' rfl rfl rfl) ti48 rfl ti55 rfl h19 rfl ?_
                  refine pu (v := slV change_Change _ _ _ _) rfl rfl (fun _ => rfl) ?_
                  refine RunC.blk ?_
                  refine RunC.blk ?_
                  refine RunC.fin ?_
                  have hR := Option.some.inj hR; subst hR
                  exact Weak.turnL [(0, 0)] [] rfl rfl (tc trR1 (tc trR1 (tc trR1 (tc (trS' rfl rfl rfl rfl rfl) (tc trR1 (tc (.sc _) (tc (.sc _) tn))))))) (mc rfl (btrA' rfl) mn)
                · refine AWP.rgD 81 [0, 0, 0, 4, 12, 30, 62, 0, 0, 384, 896, 2046, 0, 4096, 12288, 0, 65534, 131070, 262143, 524287] ⟨[], [none, none, none, none, some [], none, some [], none, none, none, some [], none, none, none, some [], none, none, none, some [0, 69], none]⟩ hmix (by kernel_rfl) rfl rfl ?_
                  refine pu (v := slV change_Change _ _ _ _) rfl rfl (fun _ => rfl) ?_
                  refine pu (v := rowV _ old) rfl rfl (fun _ => rfl) ?_
                  refine pu (v := rowV _ (gt r5 s7.2)) rfl rfl (fun _ => rfl) ?_
                  obtain ⟨h20, hR⟩ := chkE hR
                  refine ixL (α := Int) rfl rfl rfl ti22 rfl ti3 rfl h20 ?_
                  refine ldR (v := .sc _) rfl rfl ti3 rfl ?_
                  obtain ⟨h21, hR⟩ := chkE hR
                  refine ixL (α := Row) rfl rfl rfl ti26 rfl ti45 rfl h21 ?_
                  refine ldR (v := .agg _) rfl rfl ti45 rfl ?_
                  refine pu (v := rowV _ now) rfl rfl (fun _ => rfl) ?_
                  refine pu (v := .sc _) rfl rfl (fun _ => rfl) ?_
                  obtain ⟨h22, hR⟩ := chkE hR
                  refine ixL (α := Row) rfl rfl rfl ti26 rfl ti45 rfl h22 ?_
                  refine ldR (v := .agg _) rfl rfl ti45 rfl ?_
                  obtain ⟨r23, hr23, hR⟩ := bindE hR
                  refine cls [] rfl rfl cb22 (ok22 (gt old (gt (gt r5 s7.2) 0)) (gt now s7.2) _ hr23) (.cons (.agg (.cons (.sc _) (.cons (.sc _) (.cons (.sc _) (.cons (.sc _) (.cons (.sc _) (.cons (.sc _) (.cons (.sc _) (.cons (.sc _) (.cons (.sc _) (.cons (.sc _) (.cons (.sc _) (.cons (.sc _) (.cons (.sc _) (.cons (.sc _) (.cons (.sc _) (.cons (.sc _) (.cons (.sc _) (.cons (.sc _) (.nil))))))))))))))))))) rfl) (.cons (.agg (.cons (.sc _) (.cons (.sc _) (.cons (.sc _) (.cons (.sc _) (.cons (.sc _) (.cons (.sc _) (.cons (.sc _) (.cons (.sc _) (.cons (.sc _) (.cons (.sc _) (.cons (.sc _) (.cons (.sc _) (.cons (.sc _) (.cons (.sc _) (.cons (.sc _) (.cons (.sc _) (.cons (.sc _) (.cons (.sc _) (.nil))))))))))))))))))) rfl) (.nil))) (.inr rfl) rfl ?_
                  refine pu (v := rowV _ (gt r5 s7.2)) rfl rfl (fun _ => rfl) ?_
                  refine ixL (α := Int) rfl rfl rfl ti22 rfl ti3 rfl h20 ?_
                  refine ldR (v := .sc _) rfl rfl ti3 rfl ?_
                  refine pu (v := .sc _) rfl rfl (fun _ => rfl) ?_
                  refine bu (cs := [.sc (.int .i64 r23), .sc (.int .i64 (gt (gt r5 s7.2) 0)), .sc (.int .i64 s7.2)]) rfl bt55 rfl ?_
                  refine bs (α := change_Change) 69 true ([change_Change.mk r23 (gt (gt r5 s7.2) 0) s7.2] : List change_Change) rfl rfl ti48 rfl ti55 rfl rfl rfl rfl rfl ?_
                  obtain ⟨h24, hR⟩ := chkE hR
                  refine ap' (α := change_Change) (nw := true) (xs := s7.1) (ys := ([change_Change.mk r23 (gt (gt r5 s7.2) 0) s7.2] : List change_Change)) rfl rfl rfl rfl (srcS' rfl rfl rfl) ti48 rfl ti55 rfl h24 rfl ?_
                  refine pu (v := slV change_Change _ _ _ _) rfl rfl (fun _ => rfl) ?_
                  refine RunC.blk ?_
                  refine RunC.blk ?_
                  refine RunC.fin ?_
                  have hR := Option.some.inj hR; subst hR
                  exact Weak.turnL [(0, 0)] [] rfl rfl (tc trR1 (tc trR1 (tc trR1 (tc (trS' rfl rfl rfl rfl rfl) (tc trR1 (tc (.sc _) (tc (.sc _) tn))))))) (mc rfl (btrA' rfl) mn)
          · refine AWP.rgC 9 rfl rfl ?_
            refine pu (v := .sc _) rfl rfl (fun _ => rfl) ?_
            refine pu (v := .sc _) rfl rfl (fun _ => rfl) ?_
            refine RunC.fin ?_
            refine ⟨(z10, w6 (s7.2 + 1)), (Option.some.inj hR).symm, ?_⟩
            exact Weak.turnL [(0, 0)] [] rfl rfl (tc trR1 (tc trR1 (tc trR1 (tc (trS' rfl rfl rfl rfl rfl) (tc trR1 (tc (.sc _) (tc (.sc _) tn))))))) (mc rfl (btrA' rfl) mn)
        · refine AWP.exit ?_
          refine exT ?_
          refine exT ?_
          refine exH (skT ?_)
          refine ⟨s7.1, (Option.some.inj hR).symm, ?_⟩
          exact Weak.turnL [(0, 0)] [] rfl rfl (tc trR1 (tc (trS' rfl rfl rfl rfl rfl) tn)) (mc rfl (btrA' rfl) mn)
      · refine skT ?_
        refine AWP.sq ?_
        refine AWP.sq ?_
        refine AWP.rgC 13 rfl rfl ?_
        refine pu (v := rowV _ r6) rfl rfl (fun _ => rfl) ?_
        refine lenL (α := List Int) rfl rfl ti71 rfl ?_
        refine pu (v := .sc _) rfl rfl (fun _ => rfl) ?_
        refine RunC.fin ?_
        refine AWP.loopJ (fun s25 : (List change_Change) × Int => LS.mk [(10, slV change_Change 0 0 0 s25.1.length), (86, rowV (α := List Int) true r6), (87, .sc (.int .i64 (r6.length : Int))), (88, .sc (.int .i64 s25.2))] (lblks 0 [arrB (α := change_Change) 55 0 true s25.1]) 1) (fun z26 : (List change_Change) => LS.mk [(10, slV change_Change 0 0 0 z26.length)] (lblks 0 [arrB (α := change_Change) 55 0 true z26]) 1) (change_Between.l2 r6) hR (s0 := (z8, 0)) (Weak.turnL [(0, 0)] [] rfl rfl (tc (trS' rfl rfl rfl rfl rfl) (tc trR1 (tc (.sc _) (tc (.sc _) tn)))) (mc rfl (btrA' rfl) mn)) (fun s25 o25 hR => ?_) fun z26 hR => ?_
        · unfold change_Between.l2 at hR
          refine AWP.sq ?_
          refine AWP.rgC 5 rfl rfl ?_
          refine pu (v := .sc _) rfl rfl (fun _ => rfl) ?_
          refine RunC.fin ?_
          refine AWP.sq ?_
          refine AWP.cd hR rfl (fun h27 hR => ?_) fun h27 hR => ?_
          · refine AWP.skip ?_
            refine skT ?_
            refine AWP.joinX (fun z28 : (List change_Change) => LS.mk [(10, slV change_Change 0 0 0 z28.length), (86, rowV (α := List Int) true r6), (87, .sc (.int .i64 (r6.length : Int))), (88, .sc (.int .i64 s25.2))] (lblks 0 [arrB (α := change_Change) 55 0 true z28]) 1) hR (fun o28 hR => ?_) fun z28 hR => ?_
            · refine AWP.block ?_
              refine AWP.sq ?_
              refine AWP.rgC 25 rfl rfl ?_
              refine pu (v := .sc _) rfl rfl (fun _ => rfl) ?_
              obtain ⟨h29, hR⟩ := chkE hR
              refine ixL (α := List Int) rfl rfl rfl ti71 rfl ti22 rfl h29 ?_
              refine ldR (v := rowV _ (gt r6 s25.2)) rfl rfl ti22 rfl ?_
              refine pu (v := .sc _) rfl rfl (fun _ => rfl) ?_
              refine pu (v := rowV _ (gt r6 s25.2)) rfl rfl (fun _ => rfl) ?_
              refine RunC.fin ?_
              refine AWP.sq ?_
              refine AWP.rgC 37 rfl rfl ?_
              refine pu (v := rowV _ (gt r6 s25.2)) rfl rfl (fun _ => rfl) ?_
              refine lenL (α := Int) rfl rfl ti22 rfl ?_
              refine pu (v := .sc _) rfl rfl (fun _ => rfl) ?_
              refine RunC.fin ?_
              refine AWP.cd hR rfl (fun h30 hR => ?_) fun h30 hR => ?_
              · refine AWP.rgC 61 rfl rfl ?_
                refine pu (v := slV change_Change _ _ _ _) rfl rfl (fun _ => rfl) ?_
                refine pu (v := .sc _) rfl rfl (fun _ => rfl) ?_
                refine bu (cs := [.sc (.int .i64 5), .sc (.int .i64 s25.2), .sc (.int .i64 (-1))]) rfl bt55 rfl ?_
                refine bs (α := change_Change) 49 true ([change_Change.mk 5 s25.2 (-1)] : List change_Change) rfl rfl ti48 rfl ti55 rfl rfl rfl rfl rfl ?_
                obtain ⟨h31, hR⟩ := chkE hR
                refine ap' (α := change_Change) (nw := true) (xs := s25.1) (ys := ([change_Change.mk 5 s25.2 (-1)] : List change_Change)) rfl rfl rfl rfl (srcS' rfl rfl rfl) ti48 rfl ti55 rfl h31 rfl ?_
                refine pu (v := slV change_Change _ _ _ _) rfl rfl (fun _ => rfl) ?_
                refine RunC.blk ?_
                refine RunC.fin ?_
                have hR := Option.some.inj hR; subst hR
                exact Weak.turnL [(0, 0)] [] rfl rfl (tc (trS' rfl rfl rfl rfl rfl) (tc trR1 (tc (.sc _) (tc (.sc _) tn)))) (mc rfl (btrA' rfl) mn)
              · refine AWP.skip ?_
                refine skB ?_
                refine skT ?_
                have hR := Option.some.inj hR; subst hR
                exact Weak.turnL [(0, 0)] [] rfl rfl (tc (trS' rfl rfl rfl rfl rfl) (tc trR1 (tc (.sc _) (tc (.sc _) tn)))) (mc rfl (btrA' rfl) mn)
            · refine AWP.rgC 9 rfl rfl ?_
              refine pu (v := .sc _) rfl rfl (fun _ => rfl) ?_
              refine pu (v := .sc _) rfl rfl (fun _ => rfl) ?_
              refine RunC.fin ?_
              refine ⟨(z28, w6 (s25.2 + 1)), (Option.some.inj hR).symm, ?_⟩
              exact Weak.turnL [(0, 0)] [] rfl rfl (tc (trS' rfl rfl rfl rfl rfl) (tc trR1 (tc (.sc _) (tc (.sc _) tn)))) (mc rfl (btrA' rfl) mn)
          · refine AWP.exit ?_
            refine exT ?_
            refine exT ?_
            refine exH (skT ?_)
            refine ⟨s25.1, (Option.some.inj hR).symm, ?_⟩
            exact Weak.turnL [(0, 0)] [] rfl rfl (tc (trS' rfl rfl rfl rfl rfl) tn) (mc rfl (btrA' rfl) mn)
        · refine skT ?_
          refine AWP.sq ?_
          refine AWP.rgC 13 rfl rfl ?_
          refine pu (v := slV change_Change _ _ _ _) rfl rfl (fun _ => rfl) ?_
          refine pu (v := slV change_Change _ _ _ _) rfl rfl (fun _ => rfl) ?_
          refine pu (v := .sc _) rfl rfl (fun _ => rfl) ?_
          refine RunC.fin ?_
          refine AWP.ret ?_
          have hR := Option.some.inj hR; subst hR
          exact hQ _ _ (LS.mk [(4, rowV (α := change_Change) true z26), (5, .sc (.int .i64 0))] (lblks 0 []) 0) (.tup [rowV (α := change_Change) true z26, .sc (.int .i64 0)]) [] (.inr rfl) (Weak.turnL [] [0] rfl rfl (tc (trF' rfl rfl id rfl) (tc (.sc _) tn)) mn) (ro2 (rvT (v := rowV (α := change_Change) true z26) rfl) (rvT (v := .sc (.int .i64 0)) rfl)) rfl rfl (.tup (.cons ldR' (.cons (.sc _) .nil))) pn
theorem ok23 (lo : Int) (hi : Int) (r : Bound) (hR : spykeep4_noticed_1 lo hi = some r) : FnP Try.prog 23 [.sc (.int .i64 lo), .sc (.int .i64 hi)] (aggV (α := Bound) true r) := by
  refine fnP_of (FnX.walk Try.func23 rfl 8 0 (by simp [Try.ntmps23]) rfl fun W S F Q hQ => ?_)
  unfold spykeep4_noticed_1 at hR
  refine AWP.sq ?_
  refine AWP.rgC 4 rfl rfl ?_
  refine al (cs := [.sc (.int .i64 0), .sc (.int .i64 0), .sc (.bool false)]) 0 rfl rfl ti34 rfl rfl ?_
  refine RunC.fin ?_
  refine AWP.sq ?_
  refine AWP.rgC 20 rfl rfl ?_
  refine pu (v := .sc _) rfl rfl (fun _ => rfl) ?_
  refine pu (v := .sc _) rfl rfl (fun _ => rfl) ?_
  refine bu (cs := [.sc (.int .i64 lo), .sc (.int .i64 hi), .sc (.bool false)]) rfl bt34 rfl ?_
  refine stB (cs' := [.sc (.int .i64 lo), .sc (.int .i64 hi), .sc (.bool false)]) rfl rfl rfl rfl ti34 rfl rfl rfl rfl rfl ?_
  refine RunC.fin ?_
  refine AWP.ret ?_
  have hR := Option.some.inj hR; subst hR
  exact hQ _ _ (LS.mk [(4, .ptr 0 0 0)] (lblks 0 [boxB (α := Bound) true (Bound.mk lo hi false)]) 1) (aggV (α := Bound) true (Bound.mk lo hi false)) [] (.inr rfl) (Weak.turnL [(0, 0)] [] rfl rfl (tc (trP' rfl rfl rfl rfl) tn) (mc rfl (.box rfl (.cons (.sc _) (.cons (.sc _) (.cons (.sc _) (.nil)))) rfl) mn)) (ro1 (rvC (v := aggV (α := Bound) true (Bound.mk lo hi false)) rfl rfl ti34 rfl)) rfl rfl ldA pn
end Go.Proofs.Crs
