/- Each function of the program computes its plain function. Conditions: as each theorem states them. -/
import Derived.Test.YthgccmnmalhmcaaA3
import Derived.Test.YthgccmnmalhmcaaA4
import Derived.Test.YthgccmnmalhmcaaT
namespace Go.Proofs.Arw
open Go Go.Abs Lf
set_option linter.unusedVariables false
set_option linter.unusedSimpArgs false
set_option maxRecDepth 100000
set_option maxHeartbeats 1000000
theorem ok5 (x : Int) (n : Int) (r : Int) (hR : spymake_Below x n = some r) : FnP Try.prog 5 [.sc (.int .i64 x), .sc (.int .i64 n)] (.sc (.int .i64 r)) := by
 refine fnP_of (FnX.walk Try.func5 rfl 16 0 (by simp [Try.ntmps5]) rfl fun W S F Q hQ => ?_)
 unfold spymake_Below at hR
 refine AWP.sq (AWP.rgC 4 rfl rfl (pS rfl (RunC.fin (AWP.sq (AWP.sq (AWP.rgC 12 rfl rfl (pS rfl (pS rfl (RunC.fin (AWP.cd hR rfl (fun h1 hR => ?_) fun h1 hR => ?_))))))))))
 ·refine AWP.sq (AWP.rgC 16 rfl rfl (pS rfl (RunC.fin (AWP.ret (rtT ?_)))))
  have hR := Option.some.inj hR; subst hR
  exact hQ _ _ (LS.mk [(4, iV 0)] (lblks 0 []) 0) (iV 0) [] (.inr rfl) (Weak.turnL [] [] rfl rfl (tc (.sc _) tn) mn) (ro1 (rvT (v := iV 0) rfl)) rfl rfl (.sc _) pn
 ·refine AWP.skip (skT (AWP.sq (AWP.rgC 28 rfl rfl (pS rfl (pS rfl ?_)))))
  obtain ⟨h2, hR⟩ := chkE hR
  refine rm rfl rfl rfl h2 rfl ?_
  refine pS rfl (RunC.fin (AWP.sq (AWP.sq (AWP.rgC 36 rfl rfl (pS rfl (pS rfl (RunC.fin (AWP.cd hR rfl (fun h3 hR => ?_) fun h3 hR => ?_))))))))
  ·refine AWP.rgC 52 rfl rfl (pS rfl (pS rfl (pS rfl (pS rfl (RunC.fin (AWP.sq (AWP.rgC 60 rfl rfl (pS rfl (pS rfl (RunC.fin (AWP.ret ?_)))))))))))
   have hR := Option.some.inj hR; subst hR
   exact hQ _ _ (LS.mk [(4, iV (w6 ((Int.tmod x n) + n)))] (lblks 0 []) 0) (iV (w6 ((Int.tmod x n) + n))) [] (.inr rfl) (Weak.turnL [] [] rfl rfl (tc (.sc _) tn) mn) (ro1 (rvT (v := iV (w6 ((Int.tmod x n) + n))) rfl)) rfl rfl (.sc _) pn
  ·refine AWP.skip (skT (AWP.sq (AWP.rgC 44 rfl rfl (pS rfl (pS rfl (RunC.fin (AWP.ret ?_)))))))
   have hR := Option.some.inj hR; subst hR
   exact hQ _ _ (LS.mk [(4, iV (Int.tmod x n))] (lblks 0 []) 0) (iV (Int.tmod x n)) [] (.inr rfl) (Weak.turnL [] [] rfl rfl (tc (.sc _) tn) mn) (ro1 (rvT (v := iV (Int.tmod x n)) rfl)) rfl rfl (.sc _) pn
theorem ok13 (s : spymake_Stream) (n : Int) (r : Int × spymake_Stream) (hR : Stream_Next s n = some r) : FnD Try.prog 13 [boxB false s] [.ptr 0 0 0, .sc (.int .i64 n)] (.sc (.int .i64 r.1)) [boxB false r.2] := by
 refine FnX.walk Try.func13 rfl 64 1 (by simp [Try.ntmps13]) rfl fun W S F Q hQ => ?_
 unfold Stream_Next at hR
 refine AWP.sq (AWP.rgC 5 rfl rfl (pS rfl (RunC.fin (AWP.sq (AWP.rgC 37 rfl rfl (pu (v := .ptr _ _ _) rfl rfl (fun _ => rfl) (pu (v := .ptr _ _ _) rfl rfl (fun _ => rfl) (fa rfl rfl ti25 rfl rfl ti3 rfl (ldB (v := .sc _) rfl rfl rfl rfl ti3 rfl rfl (pS rfl (pu (v := .ptr _ _ _) rfl rfl (fun _ => rfl) (fa rfl rfl ti25 rfl rfl ti3 rfl (stB (cs' := [rowV (α := Int) false s.L, iV (w6 (s.at_ + 1))]) rfl rfl rfl rfl ti3 rfl rfl rfl rfl rfl (RunC.fin (AWP.sq (AWP.sq ?_))))))))))))))))
 refine AWP.rgC 61 rfl rfl (pu (v := .ptr _ _ _) rfl rfl (fun _ => rfl) (pu (v := .ptr _ _ _) rfl rfl (fun _ => rfl) (fa rfl rfl ti25 rfl rfl ti22 rfl (ldB (v := rowV _ s.L) rfl rfl rfl rfl ti22 rfl rfl (lenL (α := Int) rfl rfl ti22 rfl ?_)))))
 refine pS rfl (RunC.fin (AWP.cd hR rfl (fun h1 hR => ?_) fun h1 hR => ?_))
 ·refine AWP.sq (AWP.rgC 93 rfl rfl (pu (v := .ptr _ _ _) rfl rfl (fun _ => rfl) (pu (v := .ptr _ _ _) rfl rfl (fun _ => rfl) (fa rfl rfl ti25 rfl rfl ti3 rfl (ldB (v := .sc _) rfl rfl rfl rfl ti3 rfl rfl (pS rfl (pS rfl ?_)))))))
  obtain ⟨r2, hr2, hR⟩ := bindE hR
  refine cls [] rfl rfl cb5 (ok5 (w6 ((w6 (s.at_ + 1)) * 7919)) n _ hr2) .z2 (.inr rfl) rfl (pS rfl (RunC.fin (AWP.ret (rtT ?_))))
  have hR := Option.some.inj hR; subst hR
  exact hQ _ _ (LS.mk [(4, iV r2)] (lblks 0 [boxB (α := spymake_Stream) false (spymake_Stream.mk s.L (w6 (s.at_ + 1)))]) 1) (iV r2) [] (.inr rfl) (Weak.turnL [(0, 0)] [] rfl rfl (tc (.sc _) tn) (mc rfl (.box rfl (.cons trR1 (.cons (.sc _) .nil)) rfl) mn)) (ro1 (rvT (v := iV r2) rfl)) rfl rfl (.sc _) (pc rfl bldB pn)
 ·refine AWP.skip (skT (AWP.sq (AWP.rgD 109 [0, 1, 3, 7, 15, 0, 32, 96, 224, 480, 1023, 2047] ⟨[], [none, none, none, some [0], none, none, none, none, some [0], none, none, none]⟩ hmix (by kernel_rfl) rfl rfl ?_)))
  refine pu (v := .ptr _ _ _) rfl rfl (fun _ => rfl) (pu (v := .ptr _ _ _) rfl rfl (fun _ => rfl) (fa rfl rfl ti25 rfl rfl ti3 rfl (ldB (v := .sc _) rfl rfl rfl rfl ti3 rfl rfl (pS rfl (pu (v := .ptr _ _ _) rfl rfl (fun _ => rfl) (pu (v := .ptr _ _ _) rfl rfl (fun _ => rfl) (fa rfl rfl ti25 rfl rfl ti22 rfl (ldB (v := rowV _ s.L) rfl rfl rfl rfl ti22 rfl rfl (lenL (α := Int) rfl rfl ti22 rfl ?_)))))))))
  obtain ⟨h3, hR⟩ := chkE hR
  refine rm rfl rfl rfl h3 rfl ?_
  refine pS rfl (RunC.fin (AWP.sq (AWP.rgD 157 [0, 1, 3, 7, 15, 0, 32, 96, 224, 480, 1023, 2047] ⟨[], [none, none, none, some [0], none, none, none, none, some [0], none, none, none]⟩ hmix (by kernel_rfl) rfl rfl ?_)))
  refine pu (v := .ptr _ _ _) rfl rfl (fun _ => rfl) (pu (v := .ptr _ _ _) rfl rfl (fun _ => rfl) (fa rfl rfl ti25 rfl rfl ti3 rfl (ldB (v := .sc _) rfl rfl rfl rfl ti3 rfl rfl (pS rfl (pu (v := .ptr _ _ _) rfl rfl (fun _ => rfl) (pu (v := .ptr _ _ _) rfl rfl (fun _ => rfl) (fa rfl rfl ti25 rfl rfl ti22 rfl (ldB (v := rowV _ s.L) rfl rfl rfl rfl ti22 rfl rfl (lenL (α := Int) rfl rfl ti22 rfl ?_)))))))))
  refine qu rfl rfl rfl h3 rfl ?_
  refine pS rfl (RunC.fin (AWP.sq (AWP.rgC 221 rfl rfl (pu (v := .ptr _ _ _) rfl rfl (fun _ => rfl) (pu (v := .ptr _ _ _) rfl rfl (fun _ => rfl) (fa rfl rfl ti25 rfl rfl ti22 rfl (ldB (v := rowV _ s.L) rfl rfl rfl rfl ti22 rfl rfl (pS rfl ?_))))))))
  obtain ⟨h4, hR⟩ := chkE hR
  refine ixL (α := Int) rfl rfl rfl ti22 rfl ti3 rfl h4 ?_
  refine ldR (v := .sc _) rfl rfl ti3 rfl ?_
  obtain ⟨r5, hr5, hR⟩ := bindE hR
  refine cls [] rfl rfl cb5 (ok5 (gt s.L (Int.tmod (w6 ((w6 (s.at_ + 1)) - 1)) (s.L.length : Int))) 1073741824 _ hr5) .z2 (.inr rfl) rfl (pS rfl (pS rfl ?_))
  obtain ⟨v6, ev6, hR⟩ := letE hR
  refine pu (v := .sc _) rfl rfl (fun _ => puI ev6) ?_
  obtain ⟨v7, ev7, hR⟩ := letE hR
  refine pu (v := .sc _) rfl rfl (fun _ => puI ev7) (pS rfl (pS rfl ?_))
  obtain ⟨r8, hr8, hR⟩ := bindE hR
  refine cls [] rfl rfl cb5 (ok5 (w6 (r5 + v7)) n _ hr8) .z2 (.inr rfl) rfl (pS rfl (RunC.fin (AWP.ret ?_)))
  have hR := Option.some.inj hR; subst hR
  exact hQ _ _ (LS.mk [(4, iV r8)] (lblks 0 [boxB (α := spymake_Stream) false (spymake_Stream.mk s.L (w6 (s.at_ + 1)))]) 1) (iV r8) [] (.inr rfl) (Weak.turnL [(0, 0)] [] rfl rfl (tc (.sc _) tn) (mc rfl (.box rfl (.cons trR1 (.cons (.sc _) .nil)) rfl) mn)) (ro1 (rvT (v := iV r8) rfl)) rfl rfl (.sc _) (pc rfl bldB pn)
theorem ok16 (s : spymake_Stream) (low : Int) (high : Int) (r : Int × spymake_Stream) (hR : Stream_Range s low high = some r) : FnD Try.prog 16 [boxB false s] [.ptr 0 0 0, .sc (.int .i64 low), .sc (.int .i64 high)] (.sc (.int .i64 r.1)) [boxB false r.2] := by
 refine FnX.walk Try.func16 rfl 19 1 (by simp [Try.ntmps16]) rfl fun W S F Q hQ => ?_
 unfold Stream_Range at hR
 refine AWP.sq (AWP.rgC 5 rfl rfl (pS rfl (RunC.fin (AWP.sq (AWP.sq (AWP.rgC 17 rfl rfl (pS rfl (pS rfl (pS rfl (RunC.fin (AWP.cd hR rfl (fun h1 hR => ?_) fun h1 hR => ?_)))))))))))
 ·refine AWP.sq (AWP.rgC 25 rfl rfl (pS rfl (pS rfl (RunC.fin (AWP.ret (rtT ?_))))))
  have hR := Option.some.inj hR; subst hR
  exact hQ _ _ (LS.mk [(6, iV low)] (lblks 0 [boxB (α := spymake_Stream) false s]) 1) (iV low) [] (.inr rfl) (Weak.turnL [(0, 0)] [] rfl rfl (tc (.sc _) tn) (mc rfl (.box rfl (.cons trR1 (.cons (.sc _) .nil)) rfl) mn)) (ro1 (rvT (v := iV low) rfl)) rfl rfl (.sc _) (pc rfl bldB pn)
 ·refine AWP.skip (skT (AWP.sq (AWP.rgC 53 rfl rfl (pS rfl (pu (v := .ptr _ _ _) rfl rfl (fun _ => rfl) (pS rfl (pS rfl (pS rfl (pS rfl ?_)))))))))
  obtain ⟨r2, hr2, hR⟩ := bindE hR
  refine cps (res' := iV r2.1) (ups := [(0, boxB (α := spymake_Stream) false r2.2)]) [0] 41 rfl rfl rfl cb13 (ok13 s (w6 ((w6 (high - low)) + 1)) _ hr2) (.cons (ldP rfl rfl) (.cons (.sc _) .nil)) (pc rfl (.box (.cons ldR' (.cons (.sc _) .nil)) rfl) pn) rfl rfl rfl rfl rfl (by first | rfl | exact renR | exact renA | exact renS | simp only [V.ren, V.rens, renR, renA, renS] | (simp only [V.ren, V.rens, renR, renA, renS]; rfl)) (by simp only [passUps, renBox, renArr]; rfl) (pS rfl (pS rfl (RunC.fin (AWP.ret ?_))))
  have hR := Option.some.inj hR; subst hR
  exact hQ _ _ (LS.mk [(6, iV (w6 (low + r2.1)))] (lblks 0 [boxB (α := spymake_Stream) false r2.2]) 1) (iV (w6 (low + r2.1))) [] (.inr rfl) (Weak.turnL [(0, 0)] [] rfl rfl (tc (.sc _) tn) (mc rfl (.box rfl (.cons trR1 (.cons (.sc _) .nil)) rfl) mn)) (ro1 (rvT (v := iV (w6 (low + r2.1))) rfl)) rfl rfl (.sc _) (pc rfl bldB pn)
theorem ok11 (s : spymake_Stream) (dist : Int) (r : Vec × spymake_Stream) (hR : Stream_Place s dist = some r) : FnD Try.prog 11 [boxB false s] [.ptr 0 0 0, .sc (.int .i64 dist)] (aggV (α := Vec) true r.1) [boxB false r.2] := by
 refine FnX.walk Try.func11 rfl 25 1 (by simp [Try.ntmps11]) rfl fun W S F Q hQ => ?_
 unfold Stream_Place at hR
 refine AWP.sq (AWP.rgC 5 rfl rfl (al (cs := [iV 0, iV 0, iV 0]) 1 rfl rfl ti30 rfl rfl (RunC.fin (AWP.sq (AWP.rgC 17 rfl rfl (pS rfl (pS rfl (pS rfl (RunC.fin (AWP.sq (AWP.rgC 89 rfl rfl (pu (v := .ptr _ _ _) rfl rfl (fun _ => rfl) (pS rfl (pS rfl (pS rfl ?_)))))))))))))))
 obtain ⟨r1, hr1, hR⟩ := bindE hR
 refine cps (res' := iV r1.1) (ups := [(0, boxB (α := spymake_Stream) false r1.2)]) [0] 33 rfl rfl rfl cb16 (ok16 s (w6 (0 - (w6 (dist * 1048576)))) (w6 (dist * 1048576)) _ hr1) (.cons (ldP rfl rfl) .z2) (pc rfl (.box (.cons ldR' (.cons (.sc _) .nil)) rfl) pn) rfl rfl rfl rfl rfl (by first | rfl | exact renR | exact renA | exact renS | simp only [V.ren, V.rens, renR, renA, renS] | (simp only [V.ren, V.rens, renR, renA, renS]; rfl)) (by simp only [passUps, renBox, renArr]; rfl) (pu (v := .ptr _ _ _) rfl rfl (fun _ => rfl) (pS rfl (pS rfl (pS rfl ?_))))
 obtain ⟨r2, hr2, hR⟩ := bindE hR
 refine cps (res' := iV r2.1) (ups := [(0, boxB (α := spymake_Stream) false r2.2)]) [0] 53 rfl rfl rfl cb16 (ok16 r1.2 (w6 (0 - (w6 (dist * 1048576)))) (w6 (dist * 1048576)) _ hr2) (.cons (ldP rfl rfl) .z2) (pc rfl (.box (.cons ldR' (.cons (.sc _) .nil)) rfl) pn) rfl rfl rfl rfl rfl (by first | rfl | exact renR | exact renA | exact renS | simp only [V.ren, V.rens, renR, renA, renS] | (simp only [V.ren, V.rens, renR, renA, renS]; rfl)) (by simp only [passUps, renBox, renArr]; rfl) (pu (v := .ptr _ _ _) rfl rfl (fun _ => rfl) (pS rfl (pS rfl (pS rfl ?_))))
 obtain ⟨r3, hr3, hR⟩ := bindE hR
 refine cps (res' := iV r3.1) (ups := [(0, boxB (α := spymake_Stream) false r3.2)]) [0] 73 rfl rfl rfl cb16 (ok16 r2.2 (w6 (0 - (w6 (dist * 1048576)))) (w6 (dist * 1048576)) _ hr3) (.cons (ldP rfl rfl) .z2) (pc rfl (.box (.cons ldR' (.cons (.sc _) .nil)) rfl) pn) rfl rfl rfl rfl rfl (by first | rfl | exact renR | exact renA | exact renS | simp only [V.ren, V.rens, renR, renA, renS] | (simp only [V.ren, V.rens, renR, renA, renS]; rfl)) (by simp only [passUps, renBox, renArr]; rfl) (qu rfl rfl rfl (by decide) rfl ?_)
 refine bu (cs := [iV r1.1, iV r2.1, iV (w6 (Int.tdiv r3.1 4))]) rfl bt30 rfl (stB (cs' := [iV r1.1, iV r2.1, iV (w6 (Int.tdiv r3.1 4))]) rfl rfl rfl rfl ti30 rfl rfl rfl rfl rfl (RunC.fin (AWP.ret ?_)))
 have hR := Option.some.inj hR; subst hR
 exact hQ _ _ (LS.mk [(4, .ptr 1 0 0)] (lblks 0 [boxB (α := spymake_Stream) false r3.2, boxB (α := Vec) true (Vec.mk r1.1 r2.1 (w6 (Int.tdiv r3.1 4)))]) 2) (aggV (α := Vec) true (Vec.mk r1.1 r2.1 (w6 (Int.tdiv r3.1 4)))) [] (.inr rfl) (Weak.turnL [(0, 0), (1, 0)] [] rfl rfl (tc (trP' rfl rfl rfl rfl) tn) (mc rfl (.box rfl (.cons trR1 (.cons (.sc _) .nil)) rfl) (mc rfl (.box rfl .z3 rfl) mn))) (ro1 (rvC (v := aggV (α := Vec) true (Vec.mk r1.1 r2.1 (w6 (Int.tdiv r3.1 4)))) rfl rfl ti30 rfl)) rfl rfl ldA (pc rfl bldB pn)
theorem ok44 (c : Int) (r : Int) (hR : spymake_within_1 c = some r) : FnP Try.prog 44 [.sc (.int .i64 c)] (.sc (.int .i64 r)) := by
 refine fnP_of (FnX.walk Try.func44 rfl 6 0 (by simp [Try.ntmps44]) rfl fun W S F Q hQ => ?_)
 unfold spymake_within_1 at hR
 refine AWP.sq (AWP.rgC 4 rfl rfl (pS rfl (RunC.fin (AWP.sq (AWP.rgC 20 rfl rfl (pS rfl (pS rfl (pS rfl (pS rfl (RunC.fin (AWP.ret ?_)))))))))))
 have hR := Option.some.inj hR; subst hR
 exact hQ _ _ (LS.mk [(2, iV (mx2 (-4194304) (mn2 4194304 c)))] (lblks 0 []) 0) (iV (mx2 (-4194304) (mn2 4194304 c))) [] (.inr rfl) (Weak.turnL [] [] rfl rfl (tc (.sc _) tn) mn) (ro1 (rvT (v := iV (mx2 (-4194304) (mn2 4194304 c))) rfl)) rfl rfl (.sc _) pn
theorem ok24 (v : Vec) (r : Vec) (hR : spymake_within v = some r) : FnP Try.prog 24 [aggV false v] (aggV (α := Vec) true r) := by
 refine fnP_of (FnX.walk Try.func24 rfl 17 0 (by simp [Try.ntmps24]) rfl fun W S F Q hQ => ?_)
 unfold spymake_within at hR
 refine AWP.sq (AWP.rgC 8 rfl rfl (bx (cs := _) 0 rfl rfl rfl (al (cs := [iV 0, iV 0, iV 0]) 4 rfl rfl ti30 rfl rfl (RunC.fin (AWP.sq (AWP.rgC 12 rfl rfl (pu (v := .fn _ _) rfl rfl (fun _ => rfl) (RunC.fin (AWP.sq (AWP.rgD 68 [0, 0, 2, 7, 0, 0, 32, 127, 0, 0, 512, 2047, 4095, 8191] ⟨[], [none, none, some [0], none, none, none, some [0], none, none, none, some [0], none, none, some [4]]⟩ hmix (by kernel_rfl) rfl rfl ?_))))))))))
 refine pu (v := .fn _ _) rfl rfl (fun _ => rfl) (fa rfl rfl ti30 rfl rfl ti2 rfl (ldB (v := .sc _) rfl rfl rfl rfl ti2 rfl rfl ?_))
 obtain ⟨r1, hr1, hR⟩ := bindE hR
 refine cls [] rfl rfl cb44 (ok44 v.X _ hr1) (.cons (.sc _) .nil) (.inr rfl) rfl (pu (v := .fn _ _) rfl rfl (fun _ => rfl) (fa rfl rfl ti30 rfl rfl ti2 rfl (ldB (v := .sc _) rfl rfl rfl rfl ti2 rfl rfl ?_)))
 obtain ⟨r2, hr2, hR⟩ := bindE hR
 refine cls [] rfl rfl cb44 (ok44 v.Y _ hr2) (.cons (.sc _) .nil) (.inr rfl) rfl (pu (v := .fn _ _) rfl rfl (fun _ => rfl) (fa rfl rfl ti30 rfl rfl ti2 rfl (ldB (v := .sc _) rfl rfl rfl rfl ti2 rfl rfl ?_)))
 obtain ⟨r3, hr3, hR⟩ := bindE hR
 refine cls [] rfl rfl cb44 (ok44 v.Z _ hr3) (.cons (.sc _) .nil) (.inr rfl) rfl (bu (cs := [iV r1, iV r2, iV r3]) rfl bt30 rfl (stB (cs' := [iV r1, iV r2, iV r3]) rfl rfl rfl rfl ti30 rfl rfl rfl rfl rfl (RunC.fin (AWP.ret ?_))))
 have hR := Option.some.inj hR; subst hR
 exact hQ _ _ (LS.mk [(2, .ptr 0 0 0)] (lblks 0 [boxB (α := Vec) true (Vec.mk r1 r2 r3)]) 1) (aggV (α := Vec) true (Vec.mk r1 r2 r3)) [] (.inr rfl) (Weak.turnL [(4, 0)] [] rfl rfl (tc (trP' rfl rfl rfl rfl) tn) (mc rfl (.box rfl .z3 rfl) mn)) (ro1 (rvC (v := aggV (α := Vec) true (Vec.mk r1 r2 r3)) rfl rfl ti30 rfl)) rfl rfl ldA pn
theorem ok25 (s : spymake_Stream) (r : Int × spymake_Stream) (hR : Stream_rate s = some r) : FnD Try.prog 25 [boxB false s] [.ptr 0 0 0] (.sc (.int .i64 r.1)) [boxB false r.2] := by
 refine FnX.walk Try.func25 rfl 10 1 (by simp [Try.ntmps25]) rfl fun W S F Q hQ => ?_
 unfold Stream_rate at hR
 refine AWP.sq (AWP.rgC 5 rfl rfl (pS rfl (RunC.fin (AWP.sq (AWP.rgC 37 rfl rfl (pu (v := .ptr _ _ _) rfl rfl (fun _ => rfl) (bs (α := Int) 9 true ([50, 500, 5000, 5000, 40000, 1048577] : List Int) rfl rfl ti22 rfl ti3 rfl rfl rfl rfl rfl ?_)))))))
 refine pu (v := .ptr _ _ _) rfl rfl (fun _ => rfl) ?_
 obtain ⟨r1, hr1, hR⟩ := bindE hR
 refine cps (res' := iV r1.1) (ups := [(0, boxB (α := spymake_Stream) false r1.2)]) [0] 17 rfl rfl rfl cb13 (ok13 s 6 _ hr1) (.cons (ldP rfl rfl) (.cons (.sc _) .nil)) (pc rfl (.box (.cons ldR' (.cons (.sc _) .nil)) rfl) pn) rfl rfl rfl rfl rfl (by first | rfl | exact renR | exact renA | exact renS | simp only [V.ren, V.rens, renR, renA, renS] | (simp only [V.ren, V.rens, renR, renA, renS]; rfl)) (by simp only [passUps, renBox, renArr]; rfl) ?_
 obtain ⟨h2, hR⟩ := chkE hR
 refine ixS0 (α := Int) rfl rfl rfl ti22 rfl ti3 rfl h2 ?_
 refine ldE (α := Int) (v := .sc _) rfl rfl rfl (ixlt h2) ti3 rfl rfl rfl rfl ?_
 obtain ⟨r3, hr3, hR⟩ := bindE hR
 refine cps (res' := iV r3.1) (ups := [(0, boxB (α := spymake_Stream) false r3.2)]) [0] 29 rfl rfl rfl cb13 (ok13 r1.2 (gt ([50, 500, 5000, 5000, 40000, 1048577] : List Int) r1.1) _ hr3) (.cons (ldP rfl rfl) (.cons (.sc _) .nil)) (pc rfl (.box (.cons ldR' (.cons (.sc _) .nil)) rfl) pn) rfl rfl rfl rfl rfl (by first | rfl | exact renR | exact renA | exact renS | simp only [V.ren, V.rens, renR, renA, renS] | (simp only [V.ren, V.rens, renR, renA, renS]; rfl)) (by simp only [passUps, renBox, renArr]; rfl) (pS rfl (RunC.fin (AWP.ret ?_)))
 have hR := Option.some.inj hR; subst hR
 exact hQ _ _ (LS.mk [(2, iV r3.1)] (lblks 0 [boxB (α := spymake_Stream) false r3.2]) 1) (iV r3.1) [] (.inr rfl) (Weak.turnL [(0, 0)] [] rfl rfl (tc (.sc _) tn) (mc rfl (.box rfl (.cons trR1 (.cons (.sc _) .nil)) rfl) mn)) (ro1 (rvT (v := iV r3.1) rfl)) rfl rfl (.sc _) (pc rfl bldB pn)
theorem ok10 (s : spymake_Stream) (id_ : Int) (here : Vec) (r : Body × spymake_Stream) (hR : Stream_Body s id_ here = some r) : FnD Try.prog 10 [boxB false s] [.ptr 0 0 0, .sc (.int .i64 id_), aggV false here] (aggV (α := Body) true r.1) [boxB false r.2] := by
 refine FnX.walk Try.func10 rfl 48 1 (by simp [Try.ntmps10]) rfl fun W S F Q hQ => ?_
 unfold Stream_Body at hR
 refine AWP.sq (AWP.rgC 9 rfl rfl (bx (cs := _) 1 rfl rfl rfl (al (cs := [iV 0, iV 0, iV 0, iV 0, iV 0, iV 0, iV 0, iV 0]) 5 rfl rfl ti60 rfl rfl (RunC.fin (AWP.sq (AWP.rgC 33 rfl rfl (bs (α := Int) 9 true ([1000, 90000, 150000] : List Int) rfl rfl ti22 rfl ti3 rfl rfl rfl rfl rfl ?_)))))))
 refine pu (v := .ptr _ _ _) rfl rfl (fun _ => rfl) ?_
 obtain ⟨r1, hr1, hR⟩ := bindE hR
 refine cps (res' := iV r1.1) (ups := [(0, boxB (α := spymake_Stream) false r1.2)]) [0] 17 rfl rfl rfl cb13 (ok13 s 3 _ hr1) (.cons (ldP rfl rfl) (.cons (.sc _) .nil)) (pc rfl (.box (.cons ldR' (.cons (.sc _) .nil)) rfl) pn) rfl rfl rfl rfl rfl (by first | rfl | exact renR | exact renA | exact renS | simp only [V.ren, V.rens, renR, renA, renS] | (simp only [V.ren, V.rens, renR, renA, renS]; rfl)) (by simp only [passUps, renBox, renArr]; rfl) ?_
 obtain ⟨h2, hR⟩ := chkE hR
 refine ixS0 (α := Int) rfl rfl rfl ti22 rfl ti3 rfl h2 ?_
 refine ldE (α := Int) (v := .sc _) rfl rfl rfl (ixlt h2) ti3 rfl rfl rfl rfl ?_
 refine pS rfl (RunC.fin (AWP.sq (AWP.rgD 145 [0, 1, 0, 0, 8, 0, 60, 127, 0, 256, 0, 0, 2048, 0, 15484, 32636, 0, 65536, 0, 0, 524288, 0, 3964028, 8158332, 16743548, 33554431, 0, 134217727] ⟨[6, 14, 22], [none, some [1], none, none, none, none, some [0], none, none, some [1], none, none, none, none, some [0], none, none, some [1], none, none, none, none, some [0], none, none, none, none, some [137]]⟩ hmix (by kernel_rfl) rfl rfl ?_)))
 refine fa rfl rfl ti30 rfl rfl ti2 rfl (ldB (v := .sc _) rfl rfl rfl rfl ti2 rfl rfl (pu (v := .ptr _ _ _) rfl rfl (fun _ => rfl) (pS rfl (pS rfl (pS rfl ?_)))))
 obtain ⟨r3, hr3, hR⟩ := bindE hR
 refine cps (res' := iV r3.1) (ups := [(0, boxB (α := spymake_Stream) false r3.2)]) [0] 57 rfl rfl rfl cb16 (ok16 r1.2 (w6 (0 - (gt ([1000, 90000, 150000] : List Int) r1.1))) (gt ([1000, 90000, 150000] : List Int) r1.1) _ hr3) (.cons (ldP rfl rfl) .z2) (pc rfl (.box (.cons ldR' (.cons (.sc _) .nil)) rfl) pn) rfl rfl rfl rfl rfl (by first | rfl | exact renR | exact renA | exact renS | simp only [V.ren, V.rens, renR, renA, renS] | (simp only [V.ren, V.rens, renR, renA, renS]; rfl)) (by simp only [passUps, renBox, renArr]; rfl) (pS rfl (fa rfl rfl ti30 rfl rfl ti2 rfl (ldB (v := .sc _) rfl rfl rfl rfl ti2 rfl rfl (pu (v := .ptr _ _ _) rfl rfl (fun _ => rfl) (pS rfl (pS rfl (pS rfl ?_)))))))
 obtain ⟨r4, hr4, hR⟩ := bindE hR
 refine cps (res' := iV r4.1) (ups := [(0, boxB (α := spymake_Stream) false r4.2)]) [0] 89 rfl rfl rfl cb16 (ok16 r3.2 (w6 (0 - (gt ([1000, 90000, 150000] : List Int) r1.1))) (gt ([1000, 90000, 150000] : List Int) r1.1) _ hr4) (.cons (ldP rfl rfl) .z2) (pc rfl (.box (.cons ldR' (.cons (.sc _) .nil)) rfl) pn) rfl rfl rfl rfl rfl (by first | rfl | exact renR | exact renA | exact renS | simp only [V.ren, V.rens, renR, renA, renS] | (simp only [V.ren, V.rens, renR, renA, renS]; rfl)) (by simp only [passUps, renBox, renArr]; rfl) (pS rfl (fa rfl rfl ti30 rfl rfl ti2 rfl (ldB (v := .sc _) rfl rfl rfl rfl ti2 rfl rfl (pu (v := .ptr _ _ _) rfl rfl (fun _ => rfl) (pS rfl (pS rfl (pS rfl ?_)))))))
 obtain ⟨r5, hr5, hR⟩ := bindE hR
 refine cps (res' := iV r5.1) (ups := [(0, boxB (α := spymake_Stream) false r5.2)]) [0] 121 rfl rfl rfl cb16 (ok16 r4.2 (w6 (0 - (gt ([1000, 90000, 150000] : List Int) r1.1))) (gt ([1000, 90000, 150000] : List Int) r1.1) _ hr5) (.cons (ldP rfl rfl) .z2) (pc rfl (.box (.cons ldR' (.cons (.sc _) .nil)) rfl) pn) rfl rfl rfl rfl rfl (by first | rfl | exact renR | exact renA | exact renS | simp only [V.ren, V.rens, renR, renA, renS] | (simp only [V.ren, V.rens, renR, renA, renS]; rfl)) (by simp only [passUps, renBox, renArr]; rfl) (qu rfl rfl rfl (by decide) rfl ?_)
 refine pS rfl (bu (cs := [iV (w6 (here.X + r3.1)), iV (w6 (here.Y + r4.1)), iV (w6 (here.Z + (w6 (Int.tdiv r5.1 3))))]) rfl bt30 rfl (al (cs := [iV 0, iV 0, iV 0]) 137 rfl rfl ti30 rfl rfl (stB (cs' := [iV (w6 (here.X + r3.1)), iV (w6 (here.Y + r4.1)), iV (w6 (here.Z + (w6 (Int.tdiv r5.1 3))))]) rfl rfl rfl rfl ti30 rfl rfl rfl rfl rfl (RunC.fin (AWP.sq (AWP.rgD 181 [0, 0, 2, 0, 14, 0, 62, 127, 255] ⟨[6], [none, some [137], none, some [1], none, none, some [0], none, some [5]]⟩ hmix (by kernel_rfl) rfl rfl ?_))))))
 refine pS rfl (ldB (v := .agg _) rfl rfl rfl rfl ti30 rfl rfl ?_)
 obtain ⟨r6, hr6, hR⟩ := bindE hR
 refine cls [] rfl rfl cb24 (ok24 (Vec.mk (w6 (here.X + r3.1)) (w6 (here.Y + r4.1)) (w6 (here.Z + (w6 (Int.tdiv r5.1 3))))) _ hr6) (.cons (.agg .z3 rfl) (.nil)) (.inr rfl) rfl (ldB (v := .agg _) rfl rfl rfl rfl ti30 rfl rfl ?_)
 obtain ⟨r7, hr7, hR⟩ := bindE hR
 refine cls [] rfl rfl cb24 (ok24 here _ hr7) (.cons (.agg .z3 rfl) (.nil)) (.inr rfl) rfl (pu (v := .ptr _ _ _) rfl rfl (fun _ => rfl) ?_)
 obtain ⟨r8, hr8, hR⟩ := bindE hR
 refine cps (res' := iV r8.1) (ups := [(0, boxB (α := spymake_Stream) false r8.2)]) [0] 169 rfl rfl rfl cb25 (ok25 r5.2 _ hr8) (.cons (ldP rfl rfl) (.nil)) (pc rfl (.box (.cons ldR' (.cons (.sc _) .nil)) rfl) pn) rfl rfl rfl rfl rfl (by first | rfl | exact renR | exact renA | exact renS | simp only [V.ren, V.rens, renR, renA, renS] | (simp only [V.ren, V.rens, renR, renA, renS]; rfl)) (by simp only [passUps, renBox, renArr]; rfl) (bu (cs := [iV id_, iV r6.X, iV r6.Y, iV r6.Z, iV r7.X, iV r7.Y, iV r7.Z, iV r8.1]) rfl bt60 rfl (stB (cs' := [iV id_, iV r6.X, iV r6.Y, iV r6.Z, iV r7.X, iV r7.Y, iV r7.Z, iV r8.1]) rfl rfl rfl rfl ti60 rfl rfl rfl rfl rfl (RunC.fin (AWP.ret ?_))))
 have hR := Option.some.inj hR; subst hR
 exact hQ _ _ (LS.mk [(6, .ptr 1 0 0)] (lblks 0 [boxB (α := spymake_Stream) false r8.2, boxB (α := Body) true (Body.mk id_ r6 r7 r8.1)]) 2) (aggV (α := Body) true (Body.mk id_ r6 r7 r8.1)) [] (.inr rfl) (Weak.turnL [(0, 0), (5, 0)] [] rfl rfl (tc (trP' rfl rfl rfl rfl) tn) (mc rfl (.box rfl (.cons trR1 (.cons (.sc _) .nil)) rfl) (mc rfl (.box rfl (.c3 (.c3 .z2)) rfl) mn))) (ro1 (rvC (v := aggV (α := Body) true (Body.mk id_ r6 r7 r8.1)) rfl rfl ti60 rfl)) rfl rfl ldA (pc rfl bldB pn)
theorem ok26 (v : Vec) (most : Int) (r : Bool) (hR : sky_within v most = some r) : FnP Try.prog 26 [aggV false v, .sc (.int .i64 most)] (.sc (.bool r)) := by
 refine fnP_of (FnX.walk Try.func26 rfl 27 0 (by simp [Try.ntmps26]) rfl fun W S F Q hQ => ?_)
 unfold sky_within at hR
 refine AWP.sq (AWP.rgC 8 rfl rfl (bx (cs := _) 0 rfl rfl rfl (pS rfl (RunC.fin (AWP.sq (AWP.sq (AWP.rgC 40 rfl rfl (fa rfl rfl ti30 rfl rfl ti2 rfl (ldB (v := .sc _) rfl rfl rfl rfl ti2 rfl rfl (fa rfl rfl ti30 rfl rfl ti2 rfl (ldB (v := .sc _) rfl rfl rfl rfl ti2 rfl rfl (fa rfl rfl ti30 rfl rfl ti2 rfl (ldB (v := .sc _) rfl rfl rfl rfl ti2 rfl rfl (buA (cs := [iV v.X, iV v.Y, iV v.Z]) rfl ti101 rfl ti2 rfl rfl ?_))))))))))))))
 refine pS rfl (RunC.fin (AWP.loopK' (fun s1 : Int => LS.mk [(1, iV most), (13, aggV (α := Int × Int × Int) true (v.X, v.Y, v.Z)), (14, iV s1)] (lblks 0 []) 0) (fun z2 : Unit => LS.mk [] (lblks 0 []) 0) (sky_within.l1 v most) hR (s0 := 0) (Weak.turnL [] [] rfl rfl (tc (.sc _) (tc (.agg .z3 rfl) (tc (.sc _) tn))) mn) (fun s1 o1 hR hE1 => ?_) fun z2 hR => ?_))
 ·unfold sky_within.l1 at hR
  refine AWP.sq (AWP.rgC 4 rfl rfl (pS rfl (RunC.fin (AWP.sq (AWP.cd hR rfl (fun h3 hR => ?_) fun h3 hR => ?_)))))
  ·refine AWP.skip (skT (AWP.sq (AWP.block (AWP.sq (AWP.rgC 12 rfl rfl ?_)))))
   obtain ⟨h4, hR⟩ := chkE hR
   refine ixD (α := Int) (nw := true) (xs := ([v.X, v.Y, v.Z] : List Int)) (v := .sc _) rfl rfl rfl rfl ti101 rfl ti2 h4 rfl rfl rfl ?_
   refine pS rfl (RunC.fin (AWP.joinX (fun z5 : Bool => LS.mk [(1, iV most), (13, aggV (α := Int × Int × Int) true (v.X, v.Y, v.Z)), (14, iV s1), (25, bV z5)] (lblks 0 []) 0) hR (fun o5 hR => ?_) fun z5 hR => ?_))
   ·refine AWP.rgC 48 rfl rfl (pS rfl (pS rfl (pS rfl ?_)))
    obtain ⟨v6, ev6, hR⟩ := letE hR
    refine pu (v := .sc _) rfl rfl (fun _ => puB ev6) (pS rfl (brR hR (fun h7 hR => ?_) fun h7 hR => ?_))
    ·refine sk (skW rfl rfl rfl h7) (sk (skW rfl rfl rfl h7) (sk (skW rfl rfl rfl h7) (pkT (v := bV true) rfl rfl h7 rfl (RunC.fin ?_))))
     have hR := Option.some.inj hR; subst hR
     exact Weak.turnL [] [] rfl rfl (tc (.sc _) (tc (.agg .z3 rfl) (tc (.sc _) (tc (.sc _) tn)))) mn
    ·refine pu (v := .sc _) (wtG rfl rfl rfl h7) rfl (fun _ => rfl) (pu (v := .sc _) (wtG rfl rfl rfl h7) rfl (fun _ => rfl) (pu (v := .sc _) (wtG rfl rfl rfl h7) rfl (fun _ => rfl) (pkF (v := bV (decide ((gt ([v.X, v.Y, v.Z] : List Int) s1) > most))) rfl rfl h7 rfl (RunC.fin ?_))))
     have hR := Option.some.inj hR; subst hR
     exact Weak.turnL [] [] rfl rfl (tc (.sc _) (tc (.agg .z3 rfl) (tc (.sc _) (tc (.sc _) tn)))) mn
   ·refine AWP.cd hR rfl (fun h8 hR => ?_) fun h8 hR => ?_
    ·refine AWP.sq (AWP.rgC 4 rfl rfl (pS rfl (RunC.fin (AWP.ret (rtB (rtT (rtT (rtB (rtT ?_)))))))))
     replace hR := escL hR hE1
     refine rtT ?_
     have hR := Option.some.inj hR; subst hR
     exact hQ _ _ (LS.mk [(4, bV false)] (lblks 0 []) 0) (bV false) [] (.inr rfl) (Weak.turnL [] [] rfl rfl (tc (.sc _) tn) mn) (ro1 (rvT (v := bV false) rfl)) rfl rfl (.sc _) pn
    ·refine AWP.skip (skB ?_)
     refine skT (AWP.rgC 8 rfl rfl (pS rfl (pS rfl (RunC.fin (⟨(w6 (s1 + 1)), (Option.some.inj hR).symm, ?_⟩)))))
     exact Weak.turnL [] [] rfl rfl (tc (.sc _) (tc (.agg .z3 rfl) (tc (.sc _) tn))) mn
  ·refine AWP.exit (exT (exT (exH (skT (⟨(), (Option.some.inj hR).symm, ?_⟩)))))
   exact Weak.turnL [] [] rfl rfl tn mn
 ·refine skT (AWP.sq (AWP.rgC 4 rfl rfl (pS rfl (RunC.fin (AWP.ret ?_)))))
  have hR := Option.some.inj hR; subst hR
  exact hQ _ _ (LS.mk [(4, bV true)] (lblks 0 []) 0) (bV true) [] (.inr rfl) (Weak.turnL [] [] rfl rfl (tc (.sc _) tn) mn) (ro1 (rvT (v := bV true) rfl)) rfl rfl (.sc _) pn
theorem ok79 (x : Int) (y : Int) (r : NU64 × NU64) (hR : bits_Mul64 x y = some r) : FnP Try.prog 79 [.sc (.int .u64 x), .sc (.int .u64 y)] (.tup [.sc (.int .u64 r.1.n), .sc (.int .u64 r.2.n)]) := by
 refine fnP_of (FnX.walk Try.func79 rfl 51 0 (by simp [Try.ntmps79]) rfl fun W S F Q hQ => ?_)
 unfold bits_Mul64 at hR
 refine AWP.sq (AWP.rgC 8 rfl rfl (pS rfl (pS rfl (RunC.fin (AWP.sq (AWP.rgC 20 rfl rfl (pS rfl ?_)))))))
 obtain ⟨v1, ev1, hR⟩ := letE hR
 refine pu (v := .sc _) rfl rfl (fun _ => puI ev1) (pS rfl (RunC.fin (AWP.sq (AWP.rgC 32 rfl rfl (pS rfl (pS rfl (pS rfl (RunC.fin (AWP.sq (AWP.rgC 44 rfl rfl (pS rfl ?_)))))))))))
 obtain ⟨v2, ev2, hR⟩ := letE hR
 refine pu (v := .sc _) rfl rfl (fun _ => puI ev2) (pS rfl (RunC.fin (AWP.sq (AWP.rgC 56 rfl rfl (pS rfl (pS rfl (pS rfl (RunC.fin (AWP.sq (AWP.rgC 72 rfl rfl (pS rfl (pS rfl (pS rfl (pS rfl (RunC.fin (AWP.sq ?_))))))))))))))))
 refine AWP.rgC 100 rfl rfl (pS rfl (pS rfl (pS rfl (pS rfl (pS rfl ?_)))))
 obtain ⟨v3, ev3, hR⟩ := letE hR
 refine pu (v := .sc _) rfl rfl (fun _ => puI ev3) (pS rfl (RunC.fin (AWP.sq (AWP.rgC 112 rfl rfl (pS rfl ?_)))))
 obtain ⟨v4, ev4, hR⟩ := letE hR
 refine pu (v := .sc _) rfl rfl (fun _ => puI ev4) (pS rfl (RunC.fin (AWP.sq (AWP.rgC 124 rfl rfl (pS rfl (pS rfl (pS rfl (RunC.fin (AWP.sq (AWP.rgC 148 rfl rfl (pS rfl (pS rfl (pS rfl (pS rfl ?_))))))))))))))
 obtain ⟨v5, ev5, hR⟩ := letE hR
 refine pu (v := .sc _) rfl rfl (fun _ => puI ev5) (pS rfl (RunC.fin (AWP.sq (AWP.rgC 184 rfl rfl (pS rfl (pS rfl ?_))))))
 obtain ⟨v6, ev6, hR⟩ := letE hR
 refine pu (v := .sc _) rfl rfl (fun _ => puI ev6) (pS rfl (pS rfl (pS rfl (pS rfl ?_))))
 obtain ⟨v7, ev7, hR⟩ := letE hR
 refine pu (v := .sc _) rfl rfl (fun _ => puI ev7) (pS rfl (RunC.fin (AWP.sq (AWP.rgC 200 rfl rfl (pS rfl (pS rfl (pS rfl (pS rfl (RunC.fin (AWP.ret ?_))))))))))
 have hR := Option.some.inj hR; subst hR
 exact hQ _ _ (LS.mk [(4, .sc (.int .u64 v7)), (5, .sc (.int .u64 (IntKind.wrap .u64 (x * y))))] (lblks 0 []) 0) (.tup [.sc (.int .u64 v7), .sc (.int .u64 (IntKind.wrap .u64 (x * y)))]) [] (.inr rfl) (Weak.turnL [] [] rfl rfl (tc (.sc _) (tc (.sc _) tn)) mn) (ro2 (rvT (v := .sc (.int .u64 v7)) rfl) (rvT (v := .sc (.int .u64 (IntKind.wrap .u64 (x * y)))) rfl)) rfl rfl (.tup .z2) pn
theorem ok51 (a : Int) (b : Int) (r : Int) (hR : num_SqrtMul a b = some r) : FnP Try.prog 51 [.sc (.int .i64 a), .sc (.int .i64 b)] (.sc (.int .i64 r)) := by
 refine fnP_of (FnX.walk Try.func51 rfl 57 0 (by simp [Try.ntmps51]) rfl fun W S F Q hQ => ?_)
 unfold num_SqrtMul at hR
 refine AWP.sq (AWP.rgC 4 rfl rfl (pS rfl (RunC.fin (AWP.sq (AWP.joinX (fun z1 : Bool => LS.mk [(0, iV a), (1, iV b), (16, bV z1)] (lblks 0 []) 0) hR (fun o1 hR => ?_) fun z1 hR => ?_)))))
 ·refine AWP.rgC 28 rfl rfl (pS rfl (pS rfl (pS rfl (brR hR (fun h2 hR => ?_) fun h2 hR => ?_))))
  ·refine sk (skW rfl rfl rfl h2) (sk (skW rfl rfl rfl h2) (pkT (v := bV true) rfl rfl h2 rfl (RunC.fin ?_)))
   have hR := Option.some.inj hR; subst hR
   exact Weak.turnL [] [] rfl rfl (tc (.sc _) (tc (.sc _) (tc (.sc _) tn))) mn
  ·refine pu (v := .sc _) (wtG rfl rfl rfl h2) rfl (fun _ => rfl) (pu (v := .sc _) (wtG rfl rfl rfl h2) rfl (fun _ => rfl) (pkF (v := bV (decide (b < 0))) rfl rfl h2 rfl (RunC.fin ?_)))
   have hR := Option.some.inj hR; subst hR
   exact Weak.turnL [] [] rfl rfl (tc (.sc _) (tc (.sc _) (tc (.sc _) tn))) mn
 ·refine AWP.cd hR rfl (fun h3 hR => ?_) fun h3 hR => ?_
  ·refine AWP.sq (AWP.rgC 4 rfl rfl (pS rfl (RunC.fin (AWP.ret (rtT ?_)))))
   have hR := Option.some.inj hR; subst hR
   exact hQ _ _ (LS.mk [(4, iV 0)] (lblks 0 []) 0) (iV 0) [] (.inr rfl) (Weak.turnL [] [] rfl rfl (tc (.sc _) tn) mn) (ro1 (rvT (v := iV 0) rfl)) rfl rfl (.sc _) pn
  ·refine AWP.skip (skT (AWP.sq (AWP.rgC 40 rfl rfl (pS rfl (cn rfl rfl ti2 rfl ti107 rfl rfl (pS rfl (cn rfl rfl ti2 rfl ti107 rfl rfl ?_)))))))
   obtain ⟨r4, hr4, hR⟩ := bindE hR
   refine cls [] rfl rfl cb79 (ok79 (IntKind.wrap .u64 a) (IntKind.wrap .u64 b) _ hr4) .z2 (.inr rfl) rfl (pu (v := .tup _) rfl rfl (fun _ => rfl) (pS rfl (pS rfl (pS rfl (pS rfl (RunC.fin (AWP.sq (AWP.rgC 44 rfl rfl (pS rfl (RunC.fin (AWP.sq (AWP.sq (AWP.rgC 48 rfl rfl (pS rfl (RunC.fin (AWP.loopJ (fun s5 : Int × Int => LS.mk [(5, .sc (.int .u64 r4.1.n)), (6, .sc (.int .u64 r4.2.n)), (7, .sc (.int .u64 s5.1)), (8, .sc (.int .u64 s5.2))] (lblks 0 []) 0) (fun z6 : Int => LS.mk [(7, .sc (.int .u64 z6))] (lblks 0 []) 0) (num_SqrtMul.l1 r4) hR (s0 := (0, 4611686018427387904)) (Weak.turnL [] [] rfl rfl (tc (.sc _) (tc (.sc _) (tc (.sc _) (tc (.sc _) tn)))) mn) (fun s5 o5 hR => ?_) fun z6 hR => ?_))))))))))))))))
   ·unfold num_SqrtMul.l1 at hR
    refine AWP.sq (AWP.sq (AWP.rgC 8 rfl rfl (pS rfl (pS rfl (RunC.fin (AWP.cd hR rfl (fun h7 hR => ?_) fun h7 hR => ?_))))))
    ·refine AWP.skip (skT (AWP.joinX (fun z8 : Int => LS.mk [(5, .sc (.int .u64 r4.1.n)), (6, .sc (.int .u64 r4.2.n)), (7, .sc (.int .u64 z8)), (8, .sc (.int .u64 s5.2))] (lblks 0 []) 0) hR (fun o8 hR => ?_) fun z8 hR => ?_))
     ·refine AWP.block (AWP.sq (AWP.rgC 56 rfl rfl (pS rfl (pS rfl ?_))))
      obtain ⟨v9, ev9, hR⟩ := letE hR
      refine pu (v := .sc _) rfl rfl (fun _ => puI ev9) (pS rfl (pS rfl ?_))
      obtain ⟨v10, ev10, hR⟩ := letE hR
      refine pu (v := .sc _) rfl rfl (fun _ => puI ev10) ?_
      obtain ⟨r11, hr11, hR⟩ := bindE hR
      refine cls [] rfl rfl cb79 (ok79 v9 v10 _ hr11) .z2 (.inr rfl) rfl (pu (v := .tup _) rfl rfl (fun _ => rfl) (pS rfl (pS rfl (pS rfl (pS rfl (RunC.fin (AWP.joinX (fun z12 : Bool => LS.mk [(5, .sc (.int .u64 r4.1.n)), (6, .sc (.int .u64 r4.2.n)), (7, .sc (.int .u64 s5.1)), (8, .sc (.int .u64 s5.2)), (51, bV z12)] (lblks 0 []) 0) hR (fun o12 hR => ?_) fun z12 hR => ?_)))))))
      ·refine AWP.rgC 108 rfl rfl (pS rfl (pS rfl (pS rfl (pS rfl (brR hR (fun h13 hR => ?_) fun h13 hR => ?_)))))
       ·refine sk (skW rfl rfl rfl h13) (sk (skW rfl rfl rfl h13) (sk (skW rfl rfl rfl h13) (sk (skW rfl rfl rfl h13) (sk (skW2 rfl rfl rfl) (sk (skW2 rfl rfl rfl) (sk (skW2 rfl rfl rfl) (sk (skW rfl rfl rfl h13) (pkT (v := bV true) rfl rfl h13 rfl (RunC.fin ?_)))))))))
        have hR := Option.some.inj hR; subst hR
        exact Weak.turnL [] [] rfl rfl (tc (.sc _) (tc (.sc _) (tc (.sc _) (tc (.sc _) (tc (.sc _) tn))))) mn
       ·refine pu (v := .sc _) (wtG rfl rfl rfl h13) rfl (fun _ => rfl) (pu (v := .sc _) (wtG rfl rfl rfl h13) rfl (fun _ => rfl) (pu (v := .sc _) (wtG rfl rfl rfl h13) rfl (fun _ => rfl) (pu (v := .sc _) (wtG rfl rfl rfl h13) rfl (fun _ => rfl) (brR hR (fun h14 hR => ?_) fun h14 hR => ?_))))
        ·refine pu (v := .sc _) (wtG rfl rfl rfl h14) rfl (fun _ => rfl) (pu (v := .sc _) (wtG rfl rfl rfl h14) rfl (fun _ => rfl) (pu (v := .sc _) (wtG rfl rfl rfl h14) rfl (fun _ => rfl) (pkT (v := bV (decide (r11.2.n ≤ r4.2.n))) (wtG rfl rfl rfl h13) rfl h14 rfl (pkF (v := bV (decide (r11.2.n ≤ r4.2.n))) rfl rfl h13 rfl (RunC.fin ?_)))))
         have hR := Option.some.inj hR; subst hR
         exact Weak.turnL [] [] rfl rfl (tc (.sc _) (tc (.sc _) (tc (.sc _) (tc (.sc _) (tc (.sc _) tn))))) mn
        ·refine sk (skW rfl rfl rfl h14) (sk (skW rfl rfl rfl h14) (sk (skW rfl rfl rfl h14) (pkF (v := bV false) (wtG rfl rfl rfl h13) rfl h14 rfl (pkF (v := bV false) rfl rfl h13 rfl (RunC.fin ?_)))))
         have hR := Option.some.inj hR; subst hR
         exact Weak.turnL [] [] rfl rfl (tc (.sc _) (tc (.sc _) (tc (.sc _) (tc (.sc _) (tc (.sc _) tn))))) mn
      ·refine AWP.cd hR rfl (fun h15 hR => ?_) fun h15 hR => ?_
       ·refine AWP.rgC 16 rfl rfl (pS rfl (pS rfl ?_))
        obtain ⟨v16, ev16, hR⟩ := letE hR
        refine pu (v := .sc _) rfl rfl (fun _ => puI ev16) (pS rfl (RunC.blk (RunC.fin ?_)))
        have hR := Option.some.inj hR; subst hR
        exact Weak.turnL [] [] rfl rfl (tc (.sc _) (tc (.sc _) (tc (.sc _) (tc (.sc _) tn)))) mn
       ·refine AWP.skip (skB ?_)
        refine skT ?_
        have hR := Option.some.inj hR; subst hR
        exact Weak.turnL [] [] rfl rfl (tc (.sc _) (tc (.sc _) (tc (.sc _) (tc (.sc _) tn)))) mn
     ·refine AWP.rgC 12 rfl rfl (pS rfl (pS rfl (pS rfl (RunC.fin (⟨(z8, Int.fdiv s5.2 (2 ^ 1)), (Option.some.inj hR).symm, ?_⟩)))))
      exact Weak.turnL [] [] rfl rfl (tc (.sc _) (tc (.sc _) (tc (.sc _) (tc (.sc _) tn)))) mn
    ·refine AWP.exit (exT (exT (exH (skT (⟨s5.1, (Option.some.inj hR).symm, ?_⟩)))))
     exact Weak.turnL [] [] rfl rfl (tc (.sc _) tn) mn
   ·refine skT (AWP.sq (AWP.rgC 12 rfl rfl (pS rfl (cn rfl rfl ti107 rfl ti2 rfl rfl (pS rfl (RunC.fin (AWP.ret ?_)))))))
    have hR := Option.some.inj hR; subst hR
    exact hQ _ _ (LS.mk [(4, iV (w6 z6))] (lblks 0 []) 0) (iV (w6 z6)) [] (.inr rfl) (Weak.turnL [] [] rfl rfl (tc (.sc _) tn) mn) (ro1 (rvT (v := iV (w6 z6)) rfl)) rfl rfl (.sc _) pn
theorem ok45 (a : Int) (r : Int) (hR : num_Sqrt a = some r) : FnP Try.prog 45 [.sc (.int .i64 a)] (.sc (.int .i64 r)) := by
 refine fnP_of (FnX.walk Try.func45 rfl 5 0 (by simp [Try.ntmps45]) rfl fun W S F Q hQ => ?_)
 unfold num_Sqrt at hR
 refine AWP.sq (AWP.rgC 4 rfl rfl (pS rfl (RunC.fin (AWP.sq (AWP.rgC 16 rfl rfl (pS rfl ?_))))))
 obtain ⟨r1, hr1, hR⟩ := bindE hR
 refine cls [] rfl rfl cb51 (ok51 a 1 _ hr1) .z2 (.inr rfl) rfl (pS rfl (RunC.fin (AWP.ret ?_)))
 have hR := Option.some.inj hR; subst hR
 exact hQ _ _ (LS.mk [(2, iV r1)] (lblks 0 []) 0) (iV r1) [] (.inr rfl) (Weak.turnL [] [] rfl rfl (tc (.sc _) tn) mn) (ro1 (rvT (v := iV r1) rfl)) rfl rfl (.sc _) pn
theorem ok80 (a : Int) (r : NU64) (hR : num_size a = some r) : FnP Try.prog 80 [.sc (.int .i64 a)] (.sc (.int .u64 r.n)) := by
 refine fnP_of (FnX.walk Try.func80 rfl 10 0 (by simp [Try.ntmps80]) rfl fun W S F Q hQ => ?_)
 unfold num_size at hR
 refine AWP.sq (AWP.rgC 4 rfl rfl (pS rfl (RunC.fin (AWP.sq (AWP.sq (AWP.rgC 12 rfl rfl (pS rfl (pS rfl (RunC.fin (AWP.cd hR rfl (fun h1 hR => ?_) fun h1 hR => ?_))))))))))
 ·refine AWP.sq (AWP.rgC 28 rfl rfl (pS rfl (cn rfl rfl ti2 rfl ti107 rfl rfl (pS rfl (pS rfl (RunC.fin (AWP.ret (rtT ?_))))))))
  have hR := Option.some.inj hR; subst hR
  exact hQ _ _ (LS.mk [(2, .sc (.int .u64 (IntKind.wrap .u64 (0 - (IntKind.wrap .u64 a)))))] (lblks 0 []) 0) (.sc (.int .u64 (IntKind.wrap .u64 (0 - (IntKind.wrap .u64 a))))) [] (.inr rfl) (Weak.turnL [] [] rfl rfl (tc (.sc _) tn) mn) (ro1 (rvT (v := .sc (.int .u64 (IntKind.wrap .u64 (0 - (IntKind.wrap .u64 a))))) rfl)) rfl rfl (.sc _) pn
 ·refine AWP.skip (skT (AWP.sq (AWP.rgC 24 rfl rfl (pS rfl (cn rfl rfl ti2 rfl ti107 rfl rfl (pS rfl (RunC.fin (AWP.ret ?_))))))))
  have hR := Option.some.inj hR; subst hR
  exact hQ _ _ (LS.mk [(2, .sc (.int .u64 (IntKind.wrap .u64 a)))] (lblks 0 []) 0) (.sc (.int .u64 (IntKind.wrap .u64 a))) [] (.inr rfl) (Weak.turnL [] [] rfl rfl (tc (.sc _) tn) mn) (ro1 (rvT (v := .sc (.int .u64 (IntKind.wrap .u64 a))) rfl)) rfl rfl (.sc _) pn
theorem ok81 (w : num_Wide) (r : num_Wide) (hR : Wide_Neg w = some r) : FnP Try.prog 81 [aggV false w] (aggV (α := num_Wide) true r) := by
 refine fnP_of (FnX.walk Try.func81 rfl 27 0 (by simp [Try.ntmps81]) rfl fun W S F Q hQ => ?_)
 unfold Wide_Neg at hR
 refine AWP.sq (AWP.rgC 8 rfl rfl (bx (cs := _) 0 rfl rfl rfl (al (cs := [iV 0, .sc (.int .u64 0)]) 4 rfl rfl ti109 rfl rfl (RunC.fin (AWP.sq (AWP.rgC 44 rfl rfl (fa rfl rfl ti109 rfl rfl ti107 rfl (ldB (v := .sc _) rfl rfl rfl rfl ti107 rfl rfl ?_))))))))
 obtain ⟨v1, ev1, hR⟩ := letE hR
 refine pu (v := .sc _) rfl rfl (fun _ => puI ev1) ?_
 obtain ⟨r2, hr2, hR⟩ := bindE hR
 refine xa rfl xf95 rfl rfl rfl hr2 ?_
 refine pu (v := .tup _) rfl rfl (fun _ => rfl) (pS rfl (pS rfl (pS rfl (pS rfl (RunC.fin (AWP.sq (AWP.rgC 88 rfl rfl (fa rfl rfl ti109 rfl rfl ti2 rfl (ldB (v := .sc _) rfl rfl rfl rfl ti2 rfl rfl (cn rfl rfl ti2 rfl ti107 rfl rfl ?_))))))))))
 obtain ⟨v3, ev3, hR⟩ := letE hR
 refine pu (v := .sc _) rfl rfl (fun _ => puI ev3) (pS rfl ?_)
 obtain ⟨r4, hr4, hR⟩ := bindE hR
 refine xa rfl xf95 rfl rfl rfl hr4 ?_
 refine pu (v := .tup _) rfl rfl (fun _ => rfl) (pS rfl (pS rfl (pS rfl (pS rfl (RunC.fin (AWP.sq (AWP.rgC 108 rfl rfl (pS rfl (cn rfl rfl ti107 rfl ti2 rfl rfl (pS rfl (bu (cs := [iV (w6 r4.1), .sc (.int .u64 r2.1)]) rfl bt109 rfl (stB (cs' := [iV (w6 r4.1), .sc (.int .u64 r2.1)]) rfl rfl rfl rfl ti109 rfl rfl rfl rfl rfl (RunC.fin (AWP.ret ?_))))))))))))))
 have hR := Option.some.inj hR; subst hR
 exact hQ _ _ (LS.mk [(2, .ptr 0 0 0)] (lblks 0 [boxB (α := num_Wide) true (num_Wide.mk (w6 r4.1) (NU64.mk r2.1))]) 1) (aggV (α := num_Wide) true (num_Wide.mk (w6 r4.1) (NU64.mk r2.1))) [] (.inr rfl) (Weak.turnL [(4, 0)] [] rfl rfl (tc (trP' rfl rfl rfl rfl) tn) (mc rfl (.box rfl .z2 rfl) mn)) (ro1 (rvC (v := aggV (α := num_Wide) true (num_Wide.mk (w6 r4.1) (NU64.mk r2.1))) rfl rfl ti109 rfl)) rfl rfl ldA pn
theorem ok52 (a : Int) (b : Int) (r : num_Wide) (hR : num_Product a b = some r) : FnP Try.prog 52 [.sc (.int .i64 a), .sc (.int .i64 b)] (aggV (α := num_Wide) true r) := by
 refine fnP_of (FnX.walk Try.func52 rfl 28 0 (by simp [Try.ntmps52]) rfl fun W S F Q hQ => ?_)
 unfold num_Product at hR
 refine AWP.sq (AWP.rgC 4 rfl rfl (al (cs := [iV 0, .sc (.int .u64 0)]) 0 rfl rfl ti109 rfl rfl (RunC.fin (AWP.sq (AWP.rgC 44 rfl rfl (pS rfl ?_))))))
 obtain ⟨r1, hr1, hR⟩ := bindE hR
 refine cls [] rfl rfl cb80 (ok80 a _ hr1) (.cons (.sc _) .nil) (.inr rfl) rfl (pS rfl ?_)
 obtain ⟨r2, hr2, hR⟩ := bindE hR
 refine cls [] rfl rfl cb80 (ok80 b _ hr2) (.cons (.sc _) .nil) (.inr rfl) rfl ?_
 obtain ⟨r3, hr3, hR⟩ := bindE hR
 refine cls [] rfl rfl cb79 (ok79 r1.n r2.n _ hr3) .z2 (.inr rfl) rfl (pu (v := .tup _) rfl rfl (fun _ => rfl) (pS rfl (pS rfl (pS rfl (pS rfl (RunC.fin (AWP.sq (AWP.rgC 68 rfl rfl (pS rfl (cn rfl rfl ti107 rfl ti2 rfl rfl (pS rfl (bu (cs := [iV (w6 r3.1.n), .sc (.int .u64 r3.2.n)]) rfl bt109 rfl (al (cs := [iV 0, .sc (.int .u64 0)]) 60 rfl rfl ti109 rfl rfl (stB (cs' := [iV (w6 r3.1.n), .sc (.int .u64 r3.2.n)]) rfl rfl rfl rfl ti109 rfl rfl rfl rfl rfl (RunC.fin (AWP.sq ?_))))))))))))))))
 refine AWP.sq (AWP.rgC 88 rfl rfl (pS rfl (pS rfl (pS rfl (pS rfl (nb rfl rfl rfl ti4 rfl rfl ?_))))))
 refine RunC.fin (AWP.cd hR rfl (fun h4 hR => ?_) fun h4 hR => ?_)
 ·refine AWP.sq (AWP.rgC 100 rfl rfl (ldB (v := .agg _) rfl rfl rfl rfl ti109 rfl rfl ?_))
  obtain ⟨r5, hr5, hR⟩ := bindE hR
  refine cls [] rfl rfl cb81 (ok81 (num_Wide.mk (w6 r3.1.n) r3.2) _ hr5) (.cons (.agg .z2 rfl) (.nil)) (.inr rfl) rfl (stB (cs' := [iV r5.Hi, .sc (.int .u64 r5.Lo.n)]) rfl rfl rfl rfl ti109 rfl rfl rfl rfl rfl (RunC.fin (AWP.ret (rtT ?_))))
  have hR := Option.some.inj hR; subst hR
  exact hQ _ _ (LS.mk [(4, .ptr 0 0 0)] (lblks 0 [boxB (α := num_Wide) true r5]) 1) (aggV (α := num_Wide) true r5) [] (.inr rfl) (Weak.turnL [(0, 0)] [] rfl rfl (tc (trP' rfl rfl rfl rfl) tn) (mc rfl (.box rfl .z2 rfl) mn)) (ro1 (rvC (v := aggV (α := num_Wide) true r5) rfl rfl ti109 rfl)) rfl rfl ldA pn
 ·refine AWP.skip (skT (AWP.sq (AWP.rgC 96 rfl rfl (ldB (v := .agg _) rfl rfl rfl rfl ti109 rfl rfl (stB (cs' := [iV (w6 r3.1.n), .sc (.int .u64 r3.2.n)]) rfl rfl rfl rfl ti109 rfl rfl rfl rfl rfl (RunC.fin (AWP.ret ?_)))))))
  have hR := Option.some.inj hR; subst hR
  exact hQ _ _ (LS.mk [(4, .ptr 0 0 0)] (lblks 0 [boxB (α := num_Wide) true (num_Wide.mk (w6 r3.1.n) r3.2)]) 1) (aggV (α := num_Wide) true (num_Wide.mk (w6 r3.1.n) r3.2)) [] (.inr rfl) (Weak.turnL [(0, 0)] [] rfl rfl (tc (trP' rfl rfl rfl rfl) tn) (mc rfl (.box rfl .z2 rfl) mn)) (ro1 (rvC (v := aggV (α := num_Wide) true (num_Wide.mk (w6 r3.1.n) r3.2)) rfl rfl ti109 rfl)) rfl rfl ldA pn
theorem ok99 (x : Int) (r : Int) (hR : bits_Len64 x = some r) : FnP Try.prog 99 [.sc (.int .u64 x)] (.sc (.int .i64 r)) := by
 refine fnP_of (FnX.walk Try.func99 rfl 25 0 (by simp [Try.ntmps99]) rfl fun W S F Q hQ => ?_)
 unfold bits_Len64 at hR
 refine AWP.sq (AWP.rgC 4 rfl rfl (pS rfl (RunC.fin (AWP.sq (AWP.sq (AWP.rgC 12 rfl rfl (pS rfl (pS rfl (RunC.fin (AWP.cd hR rfl (fun h1 hR => ?_) fun h1 hR => ?_))))))))))
 ·refine AWP.sq (AWP.rgC 24 rfl rfl (pS rfl (pS rfl (pS rfl (RunC.fin (AWP.rgC 28 rfl rfl (pS rfl (RunC.fin (AWP.sq (AWP.sq (AWP.rgC 36 rfl rfl (pS rfl (pS rfl (RunC.fin (AWP.cd hR rfl (fun h2 hR => ?_) fun h2 hR => ?_)))))))))))))))
  ·refine AWP.sq (AWP.rgC 48 rfl rfl (pS rfl (pS rfl (pS rfl (RunC.fin (AWP.rgC 60 rfl rfl (pS rfl (pS rfl (pS rfl (RunC.fin (AWP.sq (AWP.sq (AWP.rgC 68 rfl rfl (pS rfl (pS rfl (RunC.fin ?_))))))))))))))))
   refine AWP.cd hR rfl (fun h3 hR => ?_) fun h3 hR => ?_
   ·refine AWP.sq (AWP.rgC 80 rfl rfl (pS rfl (pS rfl (pS rfl (RunC.fin (AWP.rgC 92 rfl rfl (pS rfl (pS rfl (pS rfl (RunC.fin (AWP.sq (AWP.rgC 120 rfl rfl (pS rfl (pS rfl (cn rfl rfl ti107 rfl ti5 rfl rfl ?_)))))))))))))))
    obtain ⟨h4, hR⟩ := chkE hR
    refine ixT (s := tab1) rfl rfl rfl ti9 rfl h4 ?_
    refine cn rfl rfl ti5 rfl ti3 rfl rfl ?_
    obtain ⟨v5, ev5, hR⟩ := letE hR
    refine pu (v := .sc _) rfl rfl (fun _ => puI ev5) (pS rfl (RunC.fin (AWP.ret ?_)))
    have hR := Option.some.inj hR; subst hR
    exact hQ _ _ (LS.mk [(2, iV v5)] (lblks 0 []) 0) (iV v5) [] (.inr rfl) (Weak.turnL [] [] rfl rfl (tc (.sc _) tn) mn) (ro1 (rvT (v := iV v5) rfl)) rfl rfl (.sc _) pn
   ·refine AWP.skip (skT (AWP.sq (AWP.rgC 96 rfl rfl (pS rfl (pS rfl (cn rfl rfl ti107 rfl ti5 rfl rfl ?_))))))
    obtain ⟨h6, hR⟩ := chkE hR
    refine ixT (s := tab1) rfl rfl rfl ti9 rfl h6 ?_
    refine cn rfl rfl ti5 rfl ti3 rfl rfl ?_
    obtain ⟨v7, ev7, hR⟩ := letE hR
    refine pu (v := .sc _) rfl rfl (fun _ => puI ev7) (pS rfl (RunC.fin (AWP.ret ?_)))
    have hR := Option.some.inj hR; subst hR
    exact hQ _ _ (LS.mk [(2, iV v7)] (lblks 0 []) 0) (iV v7) [] (.inr rfl) (Weak.turnL [] [] rfl rfl (tc (.sc _) tn) mn) (ro1 (rvT (v := iV v7) rfl)) rfl rfl (.sc _) pn
  ·refine AWP.skip (skT (AWP.sq (AWP.sq (AWP.rgC 44 rfl rfl (pS rfl (pS rfl (RunC.fin (AWP.cd hR rfl (fun h8 hR => ?_) fun h8 hR => ?_))))))))
   ·refine AWP.sq (AWP.rgC 56 rfl rfl (pS rfl (pS rfl (pS rfl (RunC.fin (AWP.rgC 68 rfl rfl (pS rfl (pS rfl (pS rfl (RunC.fin (AWP.sq (AWP.rgC 96 rfl rfl (pS rfl (pS rfl (cn rfl rfl ti107 rfl ti5 rfl rfl ?_)))))))))))))))
    obtain ⟨h9, hR⟩ := chkE hR
    refine ixT (s := tab1) rfl rfl rfl ti9 rfl h9 ?_
    refine cn rfl rfl ti5 rfl ti3 rfl rfl ?_
    obtain ⟨v10, ev10, hR⟩ := letE hR
    refine pu (v := .sc _) rfl rfl (fun _ => puI ev10) (pS rfl (RunC.fin (AWP.ret ?_)))
    have hR := Option.some.inj hR; subst hR
    exact hQ _ _ (LS.mk [(2, iV v10)] (lblks 0 []) 0) (iV v10) [] (.inr rfl) (Weak.turnL [] [] rfl rfl (tc (.sc _) tn) mn) (ro1 (rvT (v := iV v10) rfl)) rfl rfl (.sc _) pn
   ·refine AWP.skip (skT (AWP.sq (AWP.rgC 72 rfl rfl (pS rfl (pS rfl (cn rfl rfl ti107 rfl ti5 rfl rfl ?_))))))
    obtain ⟨h11, hR⟩ := chkE hR
    refine ixT (s := tab1) rfl rfl rfl ti9 rfl h11 ?_
    refine cn rfl rfl ti5 rfl ti3 rfl rfl ?_
    obtain ⟨v12, ev12, hR⟩ := letE hR
    refine pu (v := .sc _) rfl rfl (fun _ => puI ev12) (pS rfl (RunC.fin (AWP.ret ?_)))
    have hR := Option.some.inj hR; subst hR
    exact hQ _ _ (LS.mk [(2, iV v12)] (lblks 0 []) 0) (iV v12) [] (.inr rfl) (Weak.turnL [] [] rfl rfl (tc (.sc _) tn) mn) (ro1 (rvT (v := iV v12) rfl)) rfl rfl (.sc _) pn
 ·refine AWP.skip (skT (AWP.sq (AWP.sq (AWP.rgC 20 rfl rfl (pS rfl (pS rfl (RunC.fin (AWP.cd hR rfl (fun h13 hR => ?_) fun h13 hR => ?_))))))))
  ·refine AWP.sq (AWP.rgC 32 rfl rfl (pS rfl (pS rfl (pS rfl (RunC.fin (AWP.rgC 44 rfl rfl (pS rfl (pS rfl (pS rfl (RunC.fin (AWP.sq (AWP.sq (AWP.rgC 52 rfl rfl (pS rfl (pS rfl (RunC.fin ?_))))))))))))))))
   refine AWP.cd hR rfl (fun h14 hR => ?_) fun h14 hR => ?_
   ·refine AWP.sq (AWP.rgC 64 rfl rfl (pS rfl (pS rfl (pS rfl (RunC.fin (AWP.rgC 76 rfl rfl (pS rfl (pS rfl (pS rfl (RunC.fin (AWP.sq (AWP.rgC 104 rfl rfl (pS rfl (pS rfl (cn rfl rfl ti107 rfl ti5 rfl rfl ?_)))))))))))))))
    obtain ⟨h15, hR⟩ := chkE hR
    refine ixT (s := tab1) rfl rfl rfl ti9 rfl h15 ?_
    refine cn rfl rfl ti5 rfl ti3 rfl rfl ?_
    obtain ⟨v16, ev16, hR⟩ := letE hR
    refine pu (v := .sc _) rfl rfl (fun _ => puI ev16) (pS rfl (RunC.fin (AWP.ret ?_)))
    have hR := Option.some.inj hR; subst hR
    exact hQ _ _ (LS.mk [(2, iV v16)] (lblks 0 []) 0) (iV v16) [] (.inr rfl) (Weak.turnL [] [] rfl rfl (tc (.sc _) tn) mn) (ro1 (rvT (v := iV v16) rfl)) rfl rfl (.sc _) pn
   ·refine AWP.skip (skT (AWP.sq (AWP.rgC 80 rfl rfl (pS rfl (pS rfl (cn rfl rfl ti107 rfl ti5 rfl rfl ?_))))))
    obtain ⟨h17, hR⟩ := chkE hR
    refine ixT (s := tab1) rfl rfl rfl ti9 rfl h17 ?_
    refine cn rfl rfl ti5 rfl ti3 rfl rfl ?_
    obtain ⟨v18, ev18, hR⟩ := letE hR
    refine pu (v := .sc _) rfl rfl (fun _ => puI ev18) (pS rfl (RunC.fin (AWP.ret ?_)))
    have hR := Option.some.inj hR; subst hR
    exact hQ _ _ (LS.mk [(2, iV v18)] (lblks 0 []) 0) (iV v18) [] (.inr rfl) (Weak.turnL [] [] rfl rfl (tc (.sc _) tn) mn) (ro1 (rvT (v := iV v18) rfl)) rfl rfl (.sc _) pn
  ·refine AWP.skip (skT (AWP.sq (AWP.sq (AWP.rgC 28 rfl rfl (pS rfl (pS rfl (RunC.fin (AWP.cd hR rfl (fun h19 hR => ?_) fun h19 hR => ?_))))))))
   ·refine AWP.sq (AWP.rgC 40 rfl rfl (pS rfl (pS rfl (pS rfl (RunC.fin (AWP.rgC 52 rfl rfl (pS rfl (pS rfl (pS rfl (RunC.fin (AWP.sq (AWP.rgC 80 rfl rfl (pS rfl (pS rfl (cn rfl rfl ti107 rfl ti5 rfl rfl ?_)))))))))))))))
    obtain ⟨h20, hR⟩ := chkE hR
    refine ixT (s := tab1) rfl rfl rfl ti9 rfl h20 ?_
    refine cn rfl rfl ti5 rfl ti3 rfl rfl ?_
    obtain ⟨v21, ev21, hR⟩ := letE hR
    refine pu (v := .sc _) rfl rfl (fun _ => puI ev21) (pS rfl (RunC.fin (AWP.ret ?_)))
    have hR := Option.some.inj hR; subst hR
    exact hQ _ _ (LS.mk [(2, iV v21)] (lblks 0 []) 0) (iV v21) [] (.inr rfl) (Weak.turnL [] [] rfl rfl (tc (.sc _) tn) mn) (ro1 (rvT (v := iV v21) rfl)) rfl rfl (.sc _) pn
   ·refine AWP.skip (skT (AWP.sq (AWP.rgC 56 rfl rfl (pS rfl (pS rfl (cn rfl rfl ti107 rfl ti5 rfl rfl ?_))))))
    obtain ⟨h22, hR⟩ := chkE hR
    refine ixT (s := tab1) rfl rfl rfl ti9 rfl h22 ?_
    refine cn rfl rfl ti5 rfl ti3 rfl rfl (pS rfl (pS rfl (RunC.fin (AWP.ret ?_))))
    have hR := Option.some.inj hR; subst hR
    exact hQ _ _ (LS.mk [(2, iV (w6 (0 + (w6 (tabAt tab1 (IntKind.wrap .u8 x))))))] (lblks 0 []) 0) (iV (w6 (0 + (w6 (tabAt tab1 (IntKind.wrap .u8 x)))))) [] (.inr rfl) (Weak.turnL [] [] rfl rfl (tc (.sc _) tn) mn) (ro1 (rvT (v := iV (w6 (0 + (w6 (tabAt tab1 (IntKind.wrap .u8 x)))))) rfl)) rfl rfl (.sc _) pn
theorem ok98 (x : Int) (r : Int) (hR : bits_LeadingZeros64 x = some r) : FnP Try.prog 98 [.sc (.int .u64 x)] (.sc (.int .i64 r)) := by
 refine fnP_of (FnX.walk Try.func98 rfl 6 0 (by simp [Try.ntmps98]) rfl fun W S F Q hQ => ?_)
 unfold bits_LeadingZeros64 at hR
 refine AWP.sq (AWP.rgC 4 rfl rfl (pS rfl (RunC.fin (AWP.sq (AWP.rgC 20 rfl rfl (pS rfl ?_))))))
 obtain ⟨r1, hr1, hR⟩ := bindE hR
 refine cls [] rfl rfl cb99 (ok99 x _ hr1) (.cons (.sc _) .nil) (.inr rfl) rfl (pS rfl (pS rfl (RunC.fin (AWP.ret ?_))))
 have hR := Option.some.inj hR; subst hR
 exact hQ _ _ (LS.mk [(2, iV (w6 (64 - r1)))] (lblks 0 []) 0) (iV (w6 (64 - r1))) [] (.inr rfl) (Weak.turnL [] [] rfl rfl (tc (.sc _) tn) mn) (ro1 (rvT (v := iV (w6 (64 - r1))) rfl)) rfl rfl (.sc _) pn
theorem ok94 (hi : Int) (lo : Int) (y : Int) (r : NU64 × NU64) (hR : bits_Div64 hi lo y = some r) : FnP Try.prog 94 [.sc (.int .u64 hi), .sc (.int .u64 lo), .sc (.int .u64 y)] (.tup [.sc (.int .u64 r.1.n), .sc (.int .u64 r.2.n)]) := by
 refine fnP_of (FnX.walk Try.func94 rfl 135 0 (by simp [Try.ntmps94]) rfl fun W S F Q hQ => ?_)
 unfold bits_Div64 at hR
 refine AWP.sq (AWP.rgC 8 rfl rfl (pS rfl (pS rfl (RunC.fin (AWP.sq (AWP.sq (AWP.rgC 16 rfl rfl (pS rfl (pS rfl (RunC.fin (AWP.cd hR rfl (fun h1 hR => ?_) fun h1 hR => ?_)))))))))))
 ·cases hR
 ·refine AWP.skip (skT (AWP.sq (AWP.sq (AWP.rgC 28 rfl rfl (pS rfl (pS rfl (pS rfl (RunC.fin (AWP.cd hR rfl (fun h2 hR => ?_) fun h2 hR => ?_)))))))))
  ·cases hR
  ·refine AWP.skip (skT (AWP.sq (AWP.sq (AWP.rgC 36 rfl rfl (pS rfl (pS rfl (RunC.fin (AWP.cd hR rfl (fun h3 hR => ?_) fun h3 hR => ?_))))))))
   ·refine AWP.sq (AWP.rgD 68 [0, 0, 3, 0, 0, 24, 7, 127] ⟨[], [none, none, none, none, none, none, none, none]⟩ hmix (by kernel_rfl) rfl rfl ?_)
    refine pS rfl (pS rfl ?_)
    obtain ⟨h4, hR⟩ := chkE hR
    refine qu rfl rfl rfl h4 rfl ?_
    refine pS rfl (pS rfl (rm rfl rfl rfl h4 rfl ?_))
    refine pS rfl (pS rfl (RunC.fin (AWP.ret (rtT ?_))))
    have hR := Option.some.inj hR; subst hR
    exact hQ _ _ (LS.mk [(6, .sc (.int .u64 (IntKind.wrap .u64 (Int.tdiv lo y)))), (7, .sc (.int .u64 (Int.tmod lo y)))] (lblks 0 []) 0) (.tup [.sc (.int .u64 (IntKind.wrap .u64 (Int.tdiv lo y))), .sc (.int .u64 (Int.tmod lo y))]) [] (.inr rfl) (Weak.turnL [] [] rfl rfl (tc (.sc _) (tc (.sc _) tn)) mn) (ro2 (rvT (v := .sc (.int .u64 (IntKind.wrap .u64 (Int.tdiv lo y)))) rfl) (rvT (v := .sc (.int .u64 (Int.tmod lo y))) rfl)) rfl rfl (.tup .z2) pn
   ·refine AWP.skip (skT (AWP.sq (AWP.rgC 52 rfl rfl (pS rfl ?_))))
    obtain ⟨r5, hr5, hR⟩ := bindE hR
    refine cls [] rfl rfl cb98 (ok98 y _ hr5) (.cons (.sc _) .nil) (.inr rfl) rfl (cn rfl rfl ti3 rfl ti131 rfl rfl (pS rfl (RunC.fin (AWP.sq (AWP.rgC 68 rfl rfl (pS rfl (pS rfl ?_)))))))
    obtain ⟨h6, hR⟩ := chkE hR
    obtain ⟨v7, ev7, hR⟩ := letE hR
    refine shL rfl rfl rfl h6 ev7 ?_
    refine pS rfl (RunC.fin (AWP.sq (AWP.rgC 80 rfl rfl (pS rfl (pS rfl (pS rfl (RunC.fin (AWP.sq (AWP.rgC 92 rfl rfl (pS rfl ?_))))))))))
    obtain ⟨v8, ev8, hR⟩ := letE hR
    refine pu (v := .sc _) rfl rfl (fun _ => puI ev8) (pS rfl (RunC.fin (AWP.sq (AWP.rgC 128 rfl rfl (pS rfl (pS rfl ?_))))))
    obtain ⟨v9, ev9, hR⟩ := letE hR
    refine shL rfl rfl rfl h6 ev9 ?_
    refine pS rfl (pS rfl (pS rfl ?_))
    obtain ⟨h10, hR⟩ := chkE hR
    obtain ⟨v11, ev11, hR⟩ := letE hR
    refine shR rfl rfl rfl h10 ev11 ?_
    obtain ⟨v12, ev12, hR⟩ := letE hR
    refine pu (v := .sc _) rfl rfl (fun _ => puI ev12) (pS rfl (RunC.fin (AWP.sq (AWP.rgC 144 rfl rfl (pS rfl (pS rfl ?_))))))
    obtain ⟨v13, ev13, hR⟩ := letE hR
    refine shL rfl rfl rfl h6 ev13 ?_
    refine pS rfl (RunC.fin (AWP.sq (AWP.rgC 156 rfl rfl (pS rfl (pS rfl (pS rfl (RunC.fin (AWP.sq (AWP.rgC 168 rfl rfl (pS rfl ?_))))))))))
    obtain ⟨v14, ev14, hR⟩ := letE hR
    refine pu (v := .sc _) rfl rfl (fun _ => puI ev14) (pS rfl (RunC.fin (AWP.sq (AWP.rgC 184 rfl rfl (pS rfl (pS rfl ?_))))))
    obtain ⟨h15, hR⟩ := chkE hR
    refine qu rfl rfl rfl h15 rfl ?_
    refine pS rfl (RunC.fin (AWP.sq (AWP.rgC 208 rfl rfl (pS rfl (pS rfl (pS rfl ?_))))))
    obtain ⟨v16, ev16, hR⟩ := letE hR
    refine pu (v := .sc _) rfl rfl (fun _ => puI ev16) (pS rfl (pS rfl (RunC.fin (AWP.sq (AWP.loopJ (fun s17 : Int × Int => LS.mk [(2, .sc (.int .u64 v7)), (8, .sc (.int .u64 (IntKind.wrap .u64 r5))), (9, .sc (.int .u64 (Int.fdiv v7 (2 ^ 32)))), (10, .sc (.int .u64 v8)), (11, .sc (.int .u64 v12)), (13, .sc (.int .u64 (Int.fdiv v13 (2 ^ 32)))), (14, .sc (.int .u64 v14)), (15, .sc (.int .u64 s17.1)), (16, .sc (.int .u64 s17.2))] (lblks 0 []) 0) (fun z18 : Int => LS.mk [(2, .sc (.int .u64 v7)), (8, .sc (.int .u64 (IntKind.wrap .u64 r5))), (9, .sc (.int .u64 (Int.fdiv v7 (2 ^ 32)))), (10, .sc (.int .u64 v8)), (11, .sc (.int .u64 v12)), (13, .sc (.int .u64 (Int.fdiv v13 (2 ^ 32)))), (14, .sc (.int .u64 v14)), (15, .sc (.int .u64 z18))] (lblks 0 []) 0) (bits_Div64.l1 v7 v8 v13) hR (s0 := (IntKind.wrap .u64 (Int.tdiv v12 (Int.fdiv v7 (2 ^ 32))), IntKind.wrap .u64 (v12 - v16))) (Weak.turnL [] [] rfl rfl (tc (.sc _) (tc (.sc _) (tc (.sc _) (tc (.sc _) (tc (.sc _) (tc (.sc _) (tc (.sc _) (tc (.sc _) (tc (.sc _) tn))))))))) mn) (fun s17 o17 hR => ?_) fun z18 hR => ?_)))))
    ·unfold bits_Div64.l1 at hR
     refine AWP.sq (AWP.joinX (fun z19 : Bool => LS.mk [(2, .sc (.int .u64 v7)), (8, .sc (.int .u64 (IntKind.wrap .u64 r5))), (9, .sc (.int .u64 (Int.fdiv v7 (2 ^ 32)))), (10, .sc (.int .u64 v8)), (11, .sc (.int .u64 v12)), (13, .sc (.int .u64 (Int.fdiv v13 (2 ^ 32)))), (14, .sc (.int .u64 v14)), (15, .sc (.int .u64 s17.1)), (16, .sc (.int .u64 s17.2)), (78, bV z19)] (lblks 0 []) 0) hR (fun o19 hR => ?_) fun z19 hR => ?_)
     ·refine AWP.rgC 48 rfl rfl (pS rfl (pS rfl (pS rfl (brR hR (fun h20 hR => ?_) fun h20 hR => ?_))))
      ·refine sk (skW rfl rfl rfl h20) (sk (skW rfl rfl rfl h20) (sk (skW rfl rfl rfl h20) (sk (skW rfl rfl rfl h20) (sk (skW rfl rfl rfl h20) (sk (skW rfl rfl rfl h20) (sk (skW rfl rfl rfl h20) (sk (skW rfl rfl rfl h20) (pkT (v := bV true) rfl rfl h20 rfl (RunC.fin ?_)))))))))
       have hR := Option.some.inj hR; subst hR
       exact Weak.turnL [] [] rfl rfl (tc (.sc _) (tc (.sc _) (tc (.sc _) (tc (.sc _) (tc (.sc _) (tc (.sc _) (tc (.sc _) (tc (.sc _) (tc (.sc _) (tc (.sc _) tn)))))))))) mn
      ·refine pu (v := .sc _) (wtG rfl rfl rfl h20) rfl (fun _ => rfl) (pu (v := .sc _) (wtG rfl rfl rfl h20) rfl (fun _ => rfl) (pu (v := .sc _) (wtG rfl rfl rfl h20) rfl (fun _ => rfl) (pu (v := .sc _) (wtG rfl rfl rfl h20) rfl (fun _ => rfl) (pu (v := .sc _) (wtG rfl rfl rfl h20) rfl (fun _ => rfl) (pu (v := .sc _) (wtG rfl rfl rfl h20) rfl (fun _ => rfl) ?_)))))
       obtain ⟨v21, ev21, hR⟩ := letE hR
       refine pu (v := .sc _) (wtG rfl rfl rfl h20) rfl (fun _ => puI ev21) (pu (v := .sc _) (wtG rfl rfl rfl h20) rfl (fun _ => rfl) (pkF (v := bV (decide ((IntKind.wrap .u64 (s17.1 * v8)) > v21))) rfl rfl h20 rfl (RunC.fin ?_)))
       have hR := Option.some.inj hR; subst hR
       exact Weak.turnL [] [] rfl rfl (tc (.sc _) (tc (.sc _) (tc (.sc _) (tc (.sc _) (tc (.sc _) (tc (.sc _) (tc (.sc _) (tc (.sc _) (tc (.sc _) (tc (.sc _) tn)))))))))) mn
     ·refine AWP.cd hR rfl (fun h22 hR => ?_) fun h22 hR => ?_
      ·refine AWP.skip (skT (AWP.block (AWP.sq (AWP.rgC 12 rfl rfl (pS rfl (pS rfl (pS rfl (RunC.fin (AWP.sq (AWP.rgC 28 rfl rfl (pS rfl (pS rfl (pS rfl (pS rfl (RunC.fin (AWP.sq ?_))))))))))))))))
       refine AWP.rgC 36 rfl rfl (pS rfl ?_)
       obtain ⟨v23, ev23, hR⟩ := letE hR
       refine pu (v := .sc _) rfl rfl (fun _ => puB ev23) (RunC.fin (AWP.cd hR rfl (fun h24 hR => ?_) fun h24 hR => ?_))
       ·refine AWP.exit (exB rfl ?_)
        refine exT (exH (skT (⟨(IntKind.wrap .u64 (s17.1 - 1)), (Option.some.inj hR).symm, ?_⟩)))
        exact Weak.turnL [] [] rfl rfl (tc (.sc _) (tc (.sc _) (tc (.sc _) (tc (.sc _) (tc (.sc _) (tc (.sc _) (tc (.sc _) (tc (.sc _) tn)))))))) mn
       ·refine AWP.skip (skB ?_)
        refine skT (⟨(IntKind.wrap .u64 (s17.1 - 1), IntKind.wrap .u64 (s17.2 + (Int.fdiv v7 (2 ^ 32)))), (Option.some.inj hR).symm, ?_⟩)
        exact Weak.turnL [] [] rfl rfl (tc (.sc _) (tc (.sc _) (tc (.sc _) (tc (.sc _) (tc (.sc _) (tc (.sc _) (tc (.sc _) (tc (.sc _) (tc (.sc _) tn))))))))) mn
      ·refine AWP.exit (exT (exT (exH (skT (⟨s17.1, (Option.some.inj hR).symm, ?_⟩)))))
       exact Weak.turnL [] [] rfl rfl (tc (.sc _) (tc (.sc _) (tc (.sc _) (tc (.sc _) (tc (.sc _) (tc (.sc _) (tc (.sc _) (tc (.sc _) tn)))))))) mn
    ·refine skT (AWP.sq (AWP.rgC 36 rfl rfl (pS rfl (pS rfl (pS rfl ?_)))))
     obtain ⟨v25, ev25, hR⟩ := letE hR
     refine pu (v := .sc _) rfl rfl (fun _ => puI ev25) (pS rfl (pS rfl (pS rfl (pS rfl (pS rfl (RunC.fin (AWP.sq (AWP.rgC 52 rfl rfl (pS rfl (pS rfl ?_))))))))))
     obtain ⟨v26, ev26, hR⟩ := letE hR
     refine qu rfl rfl rfl h15 ev26 ?_
     refine pS rfl (RunC.fin (AWP.sq (AWP.rgC 76 rfl rfl (pS rfl (pS rfl (pS rfl (pS rfl ?_)))))))
     obtain ⟨v27, ev27, hR⟩ := letE hR
     refine pu (v := .sc _) rfl rfl (fun _ => puI ev27) (pS rfl (RunC.fin (AWP.sq (AWP.loopJ (fun s28 : Int × Int => LS.mk [(2, .sc (.int .u64 v7)), (8, .sc (.int .u64 (IntKind.wrap .u64 r5))), (9, .sc (.int .u64 (Int.fdiv v7 (2 ^ 32)))), (10, .sc (.int .u64 v8)), (14, .sc (.int .u64 v14)), (15, .sc (.int .u64 z18)), (16, .sc (.int .u64 s28.1)), (17, .sc (.int .u64 (IntKind.wrap .u64 (v25 - (IntKind.wrap .u64 (z18 * v7)))))), (18, .sc (.int .u64 s28.2))] (lblks 0 []) 0) (fun z29 : Int => LS.mk [(2, .sc (.int .u64 v7)), (8, .sc (.int .u64 (IntKind.wrap .u64 r5))), (14, .sc (.int .u64 v14)), (15, .sc (.int .u64 z18)), (17, .sc (.int .u64 (IntKind.wrap .u64 (v25 - (IntKind.wrap .u64 (z18 * v7)))))), (18, .sc (.int .u64 z29))] (lblks 0 []) 0) (bits_Div64.l2 v7 v8 v14) hR (s0 := (v27, v26)) (Weak.turnL [] [] rfl rfl (tc (.sc _) (tc (.sc _) (tc (.sc _) (tc (.sc _) (tc (.sc _) (tc (.sc _) (tc (.sc _) (tc (.sc _) (tc (.sc _) tn))))))))) mn) (fun s28 o28 hR => ?_) fun z29 hR => ?_))))
     ·unfold bits_Div64.l2 at hR
      refine AWP.sq (AWP.joinX (fun z30 : Bool => LS.mk [(2, .sc (.int .u64 v7)), (8, .sc (.int .u64 (IntKind.wrap .u64 r5))), (9, .sc (.int .u64 (Int.fdiv v7 (2 ^ 32)))), (10, .sc (.int .u64 v8)), (14, .sc (.int .u64 v14)), (15, .sc (.int .u64 z18)), (16, .sc (.int .u64 s28.1)), (17, .sc (.int .u64 (IntKind.wrap .u64 (v25 - (IntKind.wrap .u64 (z18 * v7)))))), (18, .sc (.int .u64 s28.2)), (113, bV z30)] (lblks 0 []) 0) hR (fun o30 hR => ?_) fun z30 hR => ?_)
      ·refine AWP.rgC 48 rfl rfl (pS rfl (pS rfl (pS rfl (brR hR (fun h31 hR => ?_) fun h31 hR => ?_))))
       ·refine sk (skW rfl rfl rfl h31) (sk (skW rfl rfl rfl h31) (sk (skW rfl rfl rfl h31) (sk (skW rfl rfl rfl h31) (sk (skW rfl rfl rfl h31) (sk (skW rfl rfl rfl h31) (sk (skW rfl rfl rfl h31) (sk (skW rfl rfl rfl h31) (pkT (v := bV true) rfl rfl h31 rfl (RunC.fin ?_)))))))))
        have hR := Option.some.inj hR; subst hR
        exact Weak.turnL [] [] rfl rfl (tc (.sc _) (tc (.sc _) (tc (.sc _) (tc (.sc _) (tc (.sc _) (tc (.sc _) (tc (.sc _) (tc (.sc _) (tc (.sc _) (tc (.sc _) tn)))))))))) mn
       ·refine pu (v := .sc _) (wtG rfl rfl rfl h31) rfl (fun _ => rfl) (pu (v := .sc _) (wtG rfl rfl rfl h31) rfl (fun _ => rfl) (pu (v := .sc _) (wtG rfl rfl rfl h31) rfl (fun _ => rfl) (pu (v := .sc _) (wtG rfl rfl rfl h31) rfl (fun _ => rfl) (pu (v := .sc _) (wtG rfl rfl rfl h31) rfl (fun _ => rfl) (pu (v := .sc _) (wtG rfl rfl rfl h31) rfl (fun _ => rfl) ?_)))))
        obtain ⟨v32, ev32, hR⟩ := letE hR
        refine pu (v := .sc _) (wtG rfl rfl rfl h31) rfl (fun _ => puI ev32) (pu (v := .sc _) (wtG rfl rfl rfl h31) rfl (fun _ => rfl) (pkF (v := bV (decide ((IntKind.wrap .u64 (s28.2 * v8)) > v32))) rfl rfl h31 rfl (RunC.fin ?_)))
        have hR := Option.some.inj hR; subst hR
        exact Weak.turnL [] [] rfl rfl (tc (.sc _) (tc (.sc _) (tc (.sc _) (tc (.sc _) (tc (.sc _) (tc (.sc _) (tc (.sc _) (tc (.sc _) (tc (.sc _) (tc (.sc _) tn)))))))))) mn
      ·refine AWP.cd hR rfl (fun h33 hR => ?_) fun h33 hR => ?_
       ·refine AWP.skip (skT (AWP.block (AWP.sq (AWP.rgC 12 rfl rfl (pS rfl (pS rfl (pS rfl (RunC.fin (AWP.sq (AWP.rgC 28 rfl rfl (pS rfl (pS rfl (pS rfl (pS rfl (RunC.fin (AWP.sq ?_))))))))))))))))
        refine AWP.rgC 36 rfl rfl (pS rfl ?_)
        obtain ⟨v34, ev34, hR⟩ := letE hR
        refine pu (v := .sc _) rfl rfl (fun _ => puB ev34) (RunC.fin (AWP.cd hR rfl (fun h35 hR => ?_) fun h35 hR => ?_))
        ·refine AWP.exit (exB rfl ?_)
         refine exT (exH (skT (⟨(IntKind.wrap .u64 (s28.2 - 1)), (Option.some.inj hR).symm, ?_⟩)))
         exact Weak.turnL [] [] rfl rfl (tc (.sc _) (tc (.sc _) (tc (.sc _) (tc (.sc _) (tc (.sc _) (tc (.sc _) tn)))))) mn
        ·refine AWP.skip (skB ?_)
         refine skT (⟨(IntKind.wrap .u64 (s28.1 + (Int.fdiv v7 (2 ^ 32))), IntKind.wrap .u64 (s28.2 - 1)), (Option.some.inj hR).symm, ?_⟩)
         exact Weak.turnL [] [] rfl rfl (tc (.sc _) (tc (.sc _) (tc (.sc _) (tc (.sc _) (tc (.sc _) (tc (.sc _) (tc (.sc _) (tc (.sc _) (tc (.sc _) tn))))))))) mn
       ·refine AWP.exit (exT (exT (exH (skT (⟨s28.2, (Option.some.inj hR).symm, ?_⟩)))))
        exact Weak.turnL [] [] rfl rfl (tc (.sc _) (tc (.sc _) (tc (.sc _) (tc (.sc _) (tc (.sc _) (tc (.sc _) tn)))))) mn
     ·refine skT (AWP.sq (AWP.rgC 64 rfl rfl (pS rfl (pS rfl (pS rfl ?_)))))
      obtain ⟨v36, ev36, hR⟩ := letE hR
      refine pu (v := .sc _) rfl rfl (fun _ => puI ev36) (pS rfl ?_)
      obtain ⟨v37, ev37, hR⟩ := letE hR
      refine pu (v := .sc _) rfl rfl (fun _ => puI ev37) (pS rfl (pS rfl (pS rfl (pS rfl (pS rfl ?_)))))
      obtain ⟨v38, ev38, hR⟩ := letE hR
      refine pu (v := .sc _) rfl rfl (fun _ => puI ev38) (pS rfl ?_)
      obtain ⟨v39, ev39, hR⟩ := letE hR
      refine shR rfl rfl rfl h6 ev39 ?_
      refine pS rfl (pS rfl (RunC.fin (AWP.ret ?_)))
      have hR := Option.some.inj hR; subst hR
      exact hQ _ _ (LS.mk [(6, .sc (.int .u64 v36)), (7, .sc (.int .u64 v39))] (lblks 0 []) 0) (.tup [.sc (.int .u64 v36), .sc (.int .u64 v39)]) [] (.inr rfl) (Weak.turnL [] [] rfl rfl (tc (.sc _) (tc (.sc _) tn)) mn) (ro2 (rvT (v := .sc (.int .u64 v36)) rfl) (rvT (v := .sc (.int .u64 v39)) rfl)) rfl rfl (.tup .z2) pn
theorem ok78 (w : num_Wide) (d : Int) (r : Int × Int) (hR : Wide_Div w d = some r) : FnP Try.prog 78 [aggV false w, .sc (.int .i64 d)] (.tup [.sc (.int .i64 r.1), .sc (.int .i64 r.2)]) := by
 refine fnP_of (FnX.walk Try.func78 rfl 61 0 (by simp [Try.ntmps78]) rfl fun W S F Q hQ => ?_)
 unfold Wide_Div at hR
 refine AWP.sq (AWP.rgC 12 rfl rfl (bx (cs := _) 0 rfl rfl rfl (pS rfl (pS rfl (RunC.fin (AWP.sq (AWP.sq (AWP.rgC 20 rfl rfl (pS rfl (pS rfl (RunC.fin (AWP.cd hR rfl (fun h1 hR => ?_) fun h1 hR => ?_))))))))))))
 ·refine AWP.sq (AWP.rgC 28 rfl rfl (pS rfl (pS rfl (RunC.fin (AWP.ret (rtT ?_))))))
  have hR := Option.some.inj hR; subst hR
  exact hQ _ _ (LS.mk [(4, iV 0), (5, iV 1)] (lblks 0 []) 0) (.tup [iV 0, iV 1]) [] (.inr rfl) (Weak.turnL [] [] rfl rfl (tc (.sc _) (tc (.sc _) tn)) mn) (ro2 (rvT (v := iV 0) rfl) (rvT (v := iV 1) rfl)) rfl rfl (.tup .z2) pn
 ·refine AWP.skip (skT (AWP.sq (AWP.rgC 32 rfl rfl (ldB (v := .agg _) rfl rfl rfl rfl ti109 rfl rfl (al (cs := [iV 0, .sc (.int .u64 0)]) 24 rfl rfl ti109 rfl rfl (stB (cs' := [iV w.Hi, .sc (.int .u64 w.Lo.n)]) rfl rfl rfl rfl ti109 rfl rfl rfl rfl rfl (RunC.fin (AWP.sq (AWP.sq (AWP.rgC 44 rfl rfl (fa rfl rfl ti109 rfl rfl ti2 rfl (ldB (v := .sc _) rfl rfl rfl rfl ti2 rfl rfl (pS rfl (RunC.fin (AWP.cd hR rfl (fun h2 hR => ?_) fun h2 hR => ?_)))))))))))))))
  ·refine AWP.rgC 56 rfl rfl (ldB (v := .agg _) rfl rfl rfl rfl ti109 rfl rfl ?_)
   obtain ⟨r3, hr3, hR⟩ := bindE hR
   refine cls [] rfl rfl cb81 (ok81 w _ hr3) (.cons (.agg .z2 rfl) (.nil)) (.inr rfl) rfl (stB (cs' := [iV r3.Hi, .sc (.int .u64 r3.Lo.n)]) rfl rfl rfl rfl ti109 rfl rfl rfl rfl rfl (RunC.fin (AWP.sq (AWP.sq (AWP.rgC 80 rfl rfl (fa rfl rfl ti109 rfl rfl ti2 rfl (ldB (v := .sc _) rfl rfl rfl rfl ti2 rfl rfl (cn rfl rfl ti2 rfl ti107 rfl rfl (pS rfl (cn rfl rfl ti2 rfl ti107 rfl rfl (pS rfl (RunC.fin (AWP.cd hR rfl (fun h4 hR => ?_) fun h4 hR => ?_)))))))))))))
   ·refine AWP.sq (AWP.rgC 88 rfl rfl (pS rfl (pS rfl (RunC.fin (AWP.ret (rtT ?_))))))
    have hR := Option.some.inj hR; subst hR
    exact hQ _ _ (LS.mk [(4, iV 0), (5, iV 2)] (lblks 0 []) 0) (.tup [iV 0, iV 2]) [] (.inr rfl) (Weak.turnL [] [] rfl rfl (tc (.sc _) (tc (.sc _) tn)) mn) (ro2 (rvT (v := iV 0) rfl) (rvT (v := iV 2) rfl)) rfl rfl (.tup .z2) pn
   ·refine AWP.skip (skT (AWP.sq (AWP.rgC 132 rfl rfl (fa rfl rfl ti109 rfl rfl ti2 rfl (ldB (v := .sc _) rfl rfl rfl rfl ti2 rfl rfl (cn rfl rfl ti2 rfl ti107 rfl rfl (fa rfl rfl ti109 rfl rfl ti107 rfl (ldB (v := .sc _) rfl rfl rfl rfl ti107 rfl rfl (pS rfl (cn rfl rfl ti2 rfl ti107 rfl rfl ?_))))))))))
    obtain ⟨r5, hr5, hR⟩ := bindE hR
    refine cls [] rfl rfl cb94 (ok94 (IntKind.wrap .u64 r3.Hi) r3.Lo.n (IntKind.wrap .u64 d) _ hr5) .z3 (.inr rfl) rfl (pu (v := .tup _) rfl rfl (fun _ => rfl) (pS rfl (pS rfl (pS rfl (pS rfl (RunC.fin (AWP.sq (AWP.rgC 136 rfl rfl (pS rfl (RunC.fin (AWP.sq (AWP.sq (AWP.rgC 148 rfl rfl (fa rfl rfl ti109 rfl rfl ti2 rfl (ldB (v := .sc _) rfl rfl rfl rfl ti2 rfl rfl (pS rfl ?_))))))))))))))))
    refine RunC.fin (AWP.cd hR rfl (fun h6 hR => ?_) fun h6 hR => ?_)
    ·refine AWP.sq (AWP.rgC 152 rfl rfl (pS rfl (RunC.fin (AWP.sq (AWP.rgC 160 rfl rfl (pS rfl (pS rfl (RunC.fin (AWP.cd hR rfl (fun h7 hR => ?_) fun h7 hR => ?_)))))))))
     ·refine AWP.rgC 172 rfl rfl (pS rfl (pS rfl (pS rfl (RunC.fin (AWP.sq (AWP.sq (AWP.rgC 184 rfl rfl (pS rfl (pS rfl ?_)))))))))
      obtain ⟨v8, ev8, hR⟩ := letE hR
      refine pu (v := .sc _) rfl rfl (fun _ => puB ev8) (RunC.fin (AWP.cd hR rfl (fun h9 hR => ?_) fun h9 hR => ?_))
      ·refine AWP.sq (AWP.rgC 192 rfl rfl (pS rfl (pS rfl (RunC.fin (AWP.ret (rtT ?_))))))
       have hR := Option.some.inj hR; subst hR
       exact hQ _ _ (LS.mk [(4, iV 0), (5, iV 2)] (lblks 0 []) 0) (.tup [iV 0, iV 2]) [] (.inr rfl) (Weak.turnL [] [] rfl rfl (tc (.sc _) (tc (.sc _) tn)) mn) (ro2 (rvT (v := iV 0) rfl) (rvT (v := iV 2) rfl)) rfl rfl (.tup .z2) pn
      ·refine AWP.skip (skT (AWP.sq (AWP.block (AWP.sq (AWP.rgC 200 rfl rfl (fa rfl rfl ti109 rfl rfl ti2 rfl (ldB (v := .sc _) rfl rfl rfl rfl ti2 rfl rfl (pS rfl (pS rfl (RunC.fin (AWP.cd hR rfl (fun h10 hR => ?_) fun h10 hR => ?_)))))))))))
       ·refine AWP.sq (AWP.rgC 216 rfl rfl (pS rfl (cn rfl rfl ti107 rfl ti2 rfl rfl (pS rfl (pS rfl (RunC.fin (AWP.ret (rtB (rtT ?_)))))))))
        have hR := Option.some.inj hR; subst hR
        exact hQ _ _ (LS.mk [(4, iV (w6 r5.1.n)), (5, iV 0)] (lblks 0 []) 0) (.tup [iV (w6 r5.1.n), iV 0]) [] (.inr rfl) (Weak.turnL [] [] rfl rfl (tc (.sc _) (tc (.sc _) tn)) mn) (ro2 (rvT (v := iV (w6 r5.1.n)) rfl) (rvT (v := iV 0) rfl)) rfl rfl (.tup .z2) pn
       ·refine AWP.sq (AWP.rgC 212 rfl rfl (pS rfl (pS rfl (pS rfl (RunC.fin (AWP.cd hR rfl (fun h11 hR => ?_) fun h11 hR => ?_))))))
        ·refine AWP.sq (AWP.rgC 236 rfl rfl (pS rfl (pS rfl (cn rfl rfl ti107 rfl ti2 rfl rfl (pS rfl (pS rfl (pS rfl (RunC.fin (AWP.ret (rtB (rtT ?_)))))))))))
         have hR := Option.some.inj hR; subst hR
         exact hQ _ _ (LS.mk [(4, iV (w6 ((w6 (IntKind.wrap .u64 (0 - r5.1.n))) - 1))), (5, iV 0)] (lblks 0 []) 0) (.tup [iV (w6 ((w6 (IntKind.wrap .u64 (0 - r5.1.n))) - 1)), iV 0]) [] (.inr rfl) (Weak.turnL [] [] rfl rfl (tc (.sc _) (tc (.sc _) tn)) mn) (ro2 (rvT (v := iV (w6 ((w6 (IntKind.wrap .u64 (0 - r5.1.n))) - 1))) rfl) (rvT (v := iV 0) rfl)) rfl rfl (.tup .z2) pn
        ·refine AWP.skip (skB ?_)
         refine skT (AWP.sq (AWP.rgC 232 rfl rfl (pS rfl (pS rfl (cn rfl rfl ti107 rfl ti2 rfl rfl (pS rfl (pS rfl (RunC.fin (AWP.ret ?_)))))))))
         have hR := Option.some.inj hR; subst hR
         exact hQ _ _ (LS.mk [(4, iV (w6 (IntKind.wrap .u64 (0 - r5.1.n)))), (5, iV 0)] (lblks 0 []) 0) (.tup [iV (w6 (IntKind.wrap .u64 (0 - r5.1.n))), iV 0]) [] (.inr rfl) (Weak.turnL [] [] rfl rfl (tc (.sc _) (tc (.sc _) tn)) mn) (ro2 (rvT (v := iV (w6 (IntKind.wrap .u64 (0 - r5.1.n)))) rfl) (rvT (v := iV 0) rfl)) rfl rfl (.tup .z2) pn
     ·refine AWP.skip (skT (AWP.sq (AWP.sq (AWP.rgC 172 rfl rfl (pS rfl (pS rfl (pS rfl (RunC.fin (AWP.cd hR rfl (fun h12 hR => ?_) fun h12 hR => ?_)))))))))
      ·refine AWP.sq (AWP.rgC 180 rfl rfl (pS rfl (pS rfl (RunC.fin (AWP.ret (rtT ?_))))))
       have hR := Option.some.inj hR; subst hR
       exact hQ _ _ (LS.mk [(4, iV 0), (5, iV 2)] (lblks 0 []) 0) (.tup [iV 0, iV 2]) [] (.inr rfl) (Weak.turnL [] [] rfl rfl (tc (.sc _) (tc (.sc _) tn)) mn) (ro2 (rvT (v := iV 0) rfl) (rvT (v := iV 2) rfl)) rfl rfl (.tup .z2) pn
      ·refine AWP.skip (skT (AWP.sq (AWP.block (AWP.sq (AWP.rgC 188 rfl rfl (fa rfl rfl ti109 rfl rfl ti2 rfl (ldB (v := .sc _) rfl rfl rfl rfl ti2 rfl rfl (pS rfl (pS rfl (RunC.fin (AWP.cd hR rfl (fun h13 hR => ?_) fun h13 hR => ?_)))))))))))
       ·refine AWP.sq (AWP.rgC 204 rfl rfl (pS rfl (cn rfl rfl ti107 rfl ti2 rfl rfl (pS rfl (pS rfl (RunC.fin (AWP.ret (rtB (rtT ?_)))))))))
        have hR := Option.some.inj hR; subst hR
        exact hQ _ _ (LS.mk [(4, iV (w6 r5.1.n)), (5, iV 0)] (lblks 0 []) 0) (.tup [iV (w6 r5.1.n), iV 0]) [] (.inr rfl) (Weak.turnL [] [] rfl rfl (tc (.sc _) (tc (.sc _) tn)) mn) (ro2 (rvT (v := iV (w6 r5.1.n)) rfl) (rvT (v := iV 0) rfl)) rfl rfl (.tup .z2) pn
       ·refine AWP.sq (AWP.rgC 200 rfl rfl (pS rfl (pS rfl (pS rfl (RunC.fin (AWP.cd hR rfl (fun h14 hR => ?_) fun h14 hR => ?_))))))
        ·refine AWP.sq (AWP.rgC 224 rfl rfl (pS rfl (pS rfl (cn rfl rfl ti107 rfl ti2 rfl rfl (pS rfl (pS rfl (pS rfl (RunC.fin (AWP.ret (rtB (rtT ?_)))))))))))
         have hR := Option.some.inj hR; subst hR
         exact hQ _ _ (LS.mk [(4, iV (w6 ((w6 (IntKind.wrap .u64 (0 - r5.1.n))) - 1))), (5, iV 0)] (lblks 0 []) 0) (.tup [iV (w6 ((w6 (IntKind.wrap .u64 (0 - r5.1.n))) - 1)), iV 0]) [] (.inr rfl) (Weak.turnL [] [] rfl rfl (tc (.sc _) (tc (.sc _) tn)) mn) (ro2 (rvT (v := iV (w6 ((w6 (IntKind.wrap .u64 (0 - r5.1.n))) - 1))) rfl) (rvT (v := iV 0) rfl)) rfl rfl (.tup .z2) pn
        ·refine AWP.skip (skB ?_)
         refine skT (AWP.sq (AWP.rgC 220 rfl rfl (pS rfl (pS rfl (cn rfl rfl ti107 rfl ti2 rfl rfl (pS rfl (pS rfl (RunC.fin (AWP.ret ?_)))))))))
         have hR := Option.some.inj hR; subst hR
         exact hQ _ _ (LS.mk [(4, iV (w6 (IntKind.wrap .u64 (0 - r5.1.n)))), (5, iV 0)] (lblks 0 []) 0) (.tup [iV (w6 (IntKind.wrap .u64 (0 - r5.1.n))), iV 0]) [] (.inr rfl) (Weak.turnL [] [] rfl rfl (tc (.sc _) (tc (.sc _) tn)) mn) (ro2 (rvT (v := iV (w6 (IntKind.wrap .u64 (0 - r5.1.n)))) rfl) (rvT (v := iV 0) rfl)) rfl rfl (.tup .z2) pn
    ·refine AWP.skip (skT (AWP.sq (AWP.sq (AWP.rgC 160 rfl rfl (pS rfl (pS rfl (pS rfl (RunC.fin (AWP.cd hR rfl (fun h15 hR => ?_) fun h15 hR => ?_)))))))))
     ·refine AWP.sq (AWP.rgC 168 rfl rfl (pS rfl (pS rfl (RunC.fin (AWP.ret (rtT ?_))))))
      have hR := Option.some.inj hR; subst hR
      exact hQ _ _ (LS.mk [(4, iV 0), (5, iV 2)] (lblks 0 []) 0) (.tup [iV 0, iV 2]) [] (.inr rfl) (Weak.turnL [] [] rfl rfl (tc (.sc _) (tc (.sc _) tn)) mn) (ro2 (rvT (v := iV 0) rfl) (rvT (v := iV 2) rfl)) rfl rfl (.tup .z2) pn
     ·refine AWP.skip (skT (AWP.sq (AWP.block (AWP.sq (AWP.rgC 176 rfl rfl (fa rfl rfl ti109 rfl rfl ti2 rfl (ldB (v := .sc _) rfl rfl rfl rfl ti2 rfl rfl (pS rfl (pS rfl (RunC.fin (AWP.cd hR rfl (fun h16 hR => ?_) fun h16 hR => ?_)))))))))))
      ·refine AWP.sq (AWP.rgC 192 rfl rfl (pS rfl (cn rfl rfl ti107 rfl ti2 rfl rfl (pS rfl (pS rfl (RunC.fin (AWP.ret (rtB (rtT ?_)))))))))
       have hR := Option.some.inj hR; subst hR
       exact hQ _ _ (LS.mk [(4, iV (w6 r5.1.n)), (5, iV 0)] (lblks 0 []) 0) (.tup [iV (w6 r5.1.n), iV 0]) [] (.inr rfl) (Weak.turnL [] [] rfl rfl (tc (.sc _) (tc (.sc _) tn)) mn) (ro2 (rvT (v := iV (w6 r5.1.n)) rfl) (rvT (v := iV 0) rfl)) rfl rfl (.tup .z2) pn
      ·refine AWP.sq (AWP.rgC 188 rfl rfl (pS rfl (pS rfl (pS rfl (RunC.fin (AWP.cd hR rfl (fun h17 hR => ?_) fun h17 hR => ?_))))))
       ·refine AWP.sq (AWP.rgC 212 rfl rfl (pS rfl (pS rfl (cn rfl rfl ti107 rfl ti2 rfl rfl (pS rfl (pS rfl (pS rfl (RunC.fin (AWP.ret (rtB (rtT ?_)))))))))))
        have hR := Option.some.inj hR; subst hR
        exact hQ _ _ (LS.mk [(4, iV (w6 ((w6 (IntKind.wrap .u64 (0 - r5.1.n))) - 1))), (5, iV 0)] (lblks 0 []) 0) (.tup [iV (w6 ((w6 (IntKind.wrap .u64 (0 - r5.1.n))) - 1)), iV 0]) [] (.inr rfl) (Weak.turnL [] [] rfl rfl (tc (.sc _) (tc (.sc _) tn)) mn) (ro2 (rvT (v := iV (w6 ((w6 (IntKind.wrap .u64 (0 - r5.1.n))) - 1))) rfl) (rvT (v := iV 0) rfl)) rfl rfl (.tup .z2) pn
       ·refine AWP.skip (skB ?_)
        refine skT (AWP.sq (AWP.rgC 208 rfl rfl (pS rfl (pS rfl (cn rfl rfl ti107 rfl ti2 rfl rfl (pS rfl (pS rfl (RunC.fin (AWP.ret ?_)))))))))
        have hR := Option.some.inj hR; subst hR
        exact hQ _ _ (LS.mk [(4, iV (w6 (IntKind.wrap .u64 (0 - r5.1.n)))), (5, iV 0)] (lblks 0 []) 0) (.tup [iV (w6 (IntKind.wrap .u64 (0 - r5.1.n))), iV 0]) [] (.inr rfl) (Weak.turnL [] [] rfl rfl (tc (.sc _) (tc (.sc _) tn)) mn) (ro2 (rvT (v := iV (w6 (IntKind.wrap .u64 (0 - r5.1.n)))) rfl) (rvT (v := iV 0) rfl)) rfl rfl (.tup .z2) pn
  ·refine AWP.skip (skT (AWP.sq (AWP.sq (AWP.rgC 68 rfl rfl (fa rfl rfl ti109 rfl rfl ti2 rfl (ldB (v := .sc _) rfl rfl rfl rfl ti2 rfl rfl (cn rfl rfl ti2 rfl ti107 rfl rfl (pS rfl (cn rfl rfl ti2 rfl ti107 rfl rfl (pS rfl (RunC.fin (AWP.cd hR rfl (fun h18 hR => ?_) fun h18 hR => ?_))))))))))))
   ·refine AWP.sq (AWP.rgC 76 rfl rfl (pS rfl (pS rfl (RunC.fin (AWP.ret (rtT ?_))))))
    have hR := Option.some.inj hR; subst hR
    exact hQ _ _ (LS.mk [(4, iV 0), (5, iV 2)] (lblks 0 []) 0) (.tup [iV 0, iV 2]) [] (.inr rfl) (Weak.turnL [] [] rfl rfl (tc (.sc _) (tc (.sc _) tn)) mn) (ro2 (rvT (v := iV 0) rfl) (rvT (v := iV 2) rfl)) rfl rfl (.tup .z2) pn
   ·refine AWP.skip (skT (AWP.sq (AWP.rgC 120 rfl rfl (fa rfl rfl ti109 rfl rfl ti2 rfl (ldB (v := .sc _) rfl rfl rfl rfl ti2 rfl rfl (cn rfl rfl ti2 rfl ti107 rfl rfl (fa rfl rfl ti109 rfl rfl ti107 rfl (ldB (v := .sc _) rfl rfl rfl rfl ti107 rfl rfl (pS rfl (cn rfl rfl ti2 rfl ti107 rfl rfl ?_))))))))))
    obtain ⟨r19, hr19, hR⟩ := bindE hR
    refine cls [] rfl rfl cb94 (ok94 (IntKind.wrap .u64 w.Hi) w.Lo.n (IntKind.wrap .u64 d) _ hr19) .z3 (.inr rfl) rfl (pu (v := .tup _) rfl rfl (fun _ => rfl) (pS rfl (pS rfl (pS rfl (pS rfl (RunC.fin (AWP.sq (AWP.rgC 124 rfl rfl (pS rfl (RunC.fin (AWP.sq (AWP.sq (AWP.rgC 136 rfl rfl (fa rfl rfl ti109 rfl rfl ti2 rfl (ldB (v := .sc _) rfl rfl rfl rfl ti2 rfl rfl (pS rfl ?_))))))))))))))))
    refine RunC.fin (AWP.cd hR rfl (fun h20 hR => ?_) fun h20 hR => ?_)
    ·refine AWP.sq (AWP.rgC 140 rfl rfl (pS rfl (RunC.fin (AWP.sq (AWP.rgC 148 rfl rfl (pS rfl (pS rfl (RunC.fin (AWP.cd hR rfl (fun h21 hR => ?_) fun h21 hR => ?_)))))))))
     ·refine AWP.rgC 160 rfl rfl (pS rfl (pS rfl (pS rfl (RunC.fin (AWP.sq (AWP.sq (AWP.rgC 172 rfl rfl (pS rfl (pS rfl ?_)))))))))
      obtain ⟨v22, ev22, hR⟩ := letE hR
      refine pu (v := .sc _) rfl rfl (fun _ => puB ev22) (RunC.fin (AWP.cd hR rfl (fun h23 hR => ?_) fun h23 hR => ?_))
      ·refine AWP.sq (AWP.rgC 180 rfl rfl (pS rfl (pS rfl (RunC.fin (AWP.ret (rtT ?_))))))
       have hR := Option.some.inj hR; subst hR
       exact hQ _ _ (LS.mk [(4, iV 0), (5, iV 2)] (lblks 0 []) 0) (.tup [iV 0, iV 2]) [] (.inr rfl) (Weak.turnL [] [] rfl rfl (tc (.sc _) (tc (.sc _) tn)) mn) (ro2 (rvT (v := iV 0) rfl) (rvT (v := iV 2) rfl)) rfl rfl (.tup .z2) pn
      ·refine AWP.skip (skT (AWP.sq (AWP.block (AWP.sq (AWP.rgC 188 rfl rfl (fa rfl rfl ti109 rfl rfl ti2 rfl (ldB (v := .sc _) rfl rfl rfl rfl ti2 rfl rfl (pS rfl (pS rfl (RunC.fin (AWP.cd hR rfl (fun h24 hR => ?_) fun h24 hR => ?_)))))))))))
       ·refine AWP.sq (AWP.rgC 204 rfl rfl (pS rfl (cn rfl rfl ti107 rfl ti2 rfl rfl (pS rfl (pS rfl (RunC.fin (AWP.ret (rtB (rtT ?_)))))))))
        have hR := Option.some.inj hR; subst hR
        exact hQ _ _ (LS.mk [(4, iV (w6 r19.1.n)), (5, iV 0)] (lblks 0 []) 0) (.tup [iV (w6 r19.1.n), iV 0]) [] (.inr rfl) (Weak.turnL [] [] rfl rfl (tc (.sc _) (tc (.sc _) tn)) mn) (ro2 (rvT (v := iV (w6 r19.1.n)) rfl) (rvT (v := iV 0) rfl)) rfl rfl (.tup .z2) pn
       ·refine AWP.sq (AWP.rgC 200 rfl rfl (pS rfl (pS rfl (pS rfl (RunC.fin (AWP.cd hR rfl (fun h25 hR => ?_) fun h25 hR => ?_))))))
        ·refine AWP.sq (AWP.rgC 224 rfl rfl (pS rfl (pS rfl (cn rfl rfl ti107 rfl ti2 rfl rfl (pS rfl (pS rfl (pS rfl (RunC.fin (AWP.ret (rtB (rtT ?_)))))))))))
         have hR := Option.some.inj hR; subst hR
         exact hQ _ _ (LS.mk [(4, iV (w6 ((w6 (IntKind.wrap .u64 (0 - r19.1.n))) - 1))), (5, iV 0)] (lblks 0 []) 0) (.tup [iV (w6 ((w6 (IntKind.wrap .u64 (0 - r19.1.n))) - 1)), iV 0]) [] (.inr rfl) (Weak.turnL [] [] rfl rfl (tc (.sc _) (tc (.sc _) tn)) mn) (ro2 (rvT (v := iV (w6 ((w6 (IntKind.wrap .u64 (0 - r19.1.n))) - 1))) rfl) (rvT (v := iV 0) rfl)) rfl rfl (.tup .z2) pn
        ·refine AWP.skip (skB ?_)
         refine skT (AWP.sq (AWP.rgC 220 rfl rfl (pS rfl (pS rfl (cn rfl rfl ti107 rfl ti2 rfl rfl (pS rfl (pS rfl (RunC.fin (AWP.ret ?_)))))))))
         have hR := Option.some.inj hR; subst hR
         exact hQ _ _ (LS.mk [(4, iV (w6 (IntKind.wrap .u64 (0 - r19.1.n)))), (5, iV 0)] (lblks 0 []) 0) (.tup [iV (w6 (IntKind.wrap .u64 (0 - r19.1.n))), iV 0]) [] (.inr rfl) (Weak.turnL [] [] rfl rfl (tc (.sc _) (tc (.sc _) tn)) mn) (ro2 (rvT (v := iV (w6 (IntKind.wrap .u64 (0 - r19.1.n)))) rfl) (rvT (v := iV 0) rfl)) rfl rfl (.tup .z2) pn
     ·refine AWP.skip (skT (AWP.sq (AWP.sq (AWP.rgC 160 rfl rfl (pS rfl (pS rfl (pS rfl (RunC.fin (AWP.cd hR rfl (fun h26 hR => ?_) fun h26 hR => ?_)))))))))
      ·refine AWP.sq (AWP.rgC 168 rfl rfl (pS rfl (pS rfl (RunC.fin (AWP.ret (rtT ?_))))))
       have hR := Option.some.inj hR; subst hR
       exact hQ _ _ (LS.mk [(4, iV 0), (5, iV 2)] (lblks 0 []) 0) (.tup [iV 0, iV 2]) [] (.inr rfl) (Weak.turnL [] [] rfl rfl (tc (.sc _) (tc (.sc _) tn)) mn) (ro2 (rvT (v := iV 0) rfl) (rvT (v := iV 2) rfl)) rfl rfl (.tup .z2) pn
      ·refine AWP.skip (skT (AWP.sq (AWP.block (AWP.sq (AWP.rgC 176 rfl rfl (fa rfl rfl ti109 rfl rfl ti2 rfl (ldB (v := .sc _) rfl rfl rfl rfl ti2 rfl rfl (pS rfl (pS rfl (RunC.fin (AWP.cd hR rfl (fun h27 hR => ?_) fun h27 hR => ?_)))))))))))
       ·refine AWP.sq (AWP.rgC 192 rfl rfl (pS rfl (cn rfl rfl ti107 rfl ti2 rfl rfl (pS rfl (pS rfl (RunC.fin (AWP.ret (rtB (rtT ?_)))))))))
        have hR := Option.some.inj hR; subst hR
        exact hQ _ _ (LS.mk [(4, iV (w6 r19.1.n)), (5, iV 0)] (lblks 0 []) 0) (.tup [iV (w6 r19.1.n), iV 0]) [] (.inr rfl) (Weak.turnL [] [] rfl rfl (tc (.sc _) (tc (.sc _) tn)) mn) (ro2 (rvT (v := iV (w6 r19.1.n)) rfl) (rvT (v := iV 0) rfl)) rfl rfl (.tup .z2) pn
       ·refine AWP.sq (AWP.rgC 188 rfl rfl (pS rfl (pS rfl (pS rfl (RunC.fin (AWP.cd hR rfl (fun h28 hR => ?_) fun h28 hR => ?_))))))
        ·refine AWP.sq (AWP.rgC 212 rfl rfl (pS rfl (pS rfl (cn rfl rfl ti107 rfl ti2 rfl rfl (pS rfl (pS rfl (pS rfl (RunC.fin (AWP.ret (rtB (rtT ?_)))))))))))
         have hR := Option.some.inj hR; subst hR
         exact hQ _ _ (LS.mk [(4, iV (w6 ((w6 (IntKind.wrap .u64 (0 - r19.1.n))) - 1))), (5, iV 0)] (lblks 0 []) 0) (.tup [iV (w6 ((w6 (IntKind.wrap .u64 (0 - r19.1.n))) - 1)), iV 0]) [] (.inr rfl) (Weak.turnL [] [] rfl rfl (tc (.sc _) (tc (.sc _) tn)) mn) (ro2 (rvT (v := iV (w6 ((w6 (IntKind.wrap .u64 (0 - r19.1.n))) - 1))) rfl) (rvT (v := iV 0) rfl)) rfl rfl (.tup .z2) pn
        ·refine AWP.skip (skB ?_)
         refine skT (AWP.sq (AWP.rgC 208 rfl rfl (pS rfl (pS rfl (cn rfl rfl ti107 rfl ti2 rfl rfl (pS rfl (pS rfl (RunC.fin (AWP.ret ?_)))))))))
         have hR := Option.some.inj hR; subst hR
         exact hQ _ _ (LS.mk [(4, iV (w6 (IntKind.wrap .u64 (0 - r19.1.n)))), (5, iV 0)] (lblks 0 []) 0) (.tup [iV (w6 (IntKind.wrap .u64 (0 - r19.1.n))), iV 0]) [] (.inr rfl) (Weak.turnL [] [] rfl rfl (tc (.sc _) (tc (.sc _) tn)) mn) (ro2 (rvT (v := iV (w6 (IntKind.wrap .u64 (0 - r19.1.n)))) rfl) (rvT (v := iV 0) rfl)) rfl rfl (.tup .z2) pn
    ·refine AWP.skip (skT (AWP.sq (AWP.sq (AWP.rgC 148 rfl rfl (pS rfl (pS rfl (pS rfl (RunC.fin (AWP.cd hR rfl (fun h29 hR => ?_) fun h29 hR => ?_)))))))))
     ·refine AWP.sq (AWP.rgC 156 rfl rfl (pS rfl (pS rfl (RunC.fin (AWP.ret (rtT ?_))))))
      have hR := Option.some.inj hR; subst hR
      exact hQ _ _ (LS.mk [(4, iV 0), (5, iV 2)] (lblks 0 []) 0) (.tup [iV 0, iV 2]) [] (.inr rfl) (Weak.turnL [] [] rfl rfl (tc (.sc _) (tc (.sc _) tn)) mn) (ro2 (rvT (v := iV 0) rfl) (rvT (v := iV 2) rfl)) rfl rfl (.tup .z2) pn
     ·refine AWP.skip (skT (AWP.sq (AWP.block (AWP.sq (AWP.rgC 164 rfl rfl (fa rfl rfl ti109 rfl rfl ti2 rfl (ldB (v := .sc _) rfl rfl rfl rfl ti2 rfl rfl (pS rfl (pS rfl (RunC.fin (AWP.cd hR rfl (fun h30 hR => ?_) fun h30 hR => ?_)))))))))))
      ·refine AWP.sq (AWP.rgC 180 rfl rfl (pS rfl (cn rfl rfl ti107 rfl ti2 rfl rfl (pS rfl (pS rfl (RunC.fin (AWP.ret (rtB (rtT ?_)))))))))
       have hR := Option.some.inj hR; subst hR
       exact hQ _ _ (LS.mk [(4, iV (w6 r19.1.n)), (5, iV 0)] (lblks 0 []) 0) (.tup [iV (w6 r19.1.n), iV 0]) [] (.inr rfl) (Weak.turnL [] [] rfl rfl (tc (.sc _) (tc (.sc _) tn)) mn) (ro2 (rvT (v := iV (w6 r19.1.n)) rfl) (rvT (v := iV 0) rfl)) rfl rfl (.tup .z2) pn
      ·refine AWP.sq (AWP.rgC 176 rfl rfl (pS rfl (pS rfl (pS rfl (RunC.fin (AWP.cd hR rfl (fun h31 hR => ?_) fun h31 hR => ?_))))))
       ·refine AWP.sq (AWP.rgC 200 rfl rfl (pS rfl (pS rfl (cn rfl rfl ti107 rfl ti2 rfl rfl (pS rfl (pS rfl (pS rfl (RunC.fin (AWP.ret (rtB (rtT ?_)))))))))))
        have hR := Option.some.inj hR; subst hR
        exact hQ _ _ (LS.mk [(4, iV (w6 ((w6 (IntKind.wrap .u64 (0 - r19.1.n))) - 1))), (5, iV 0)] (lblks 0 []) 0) (.tup [iV (w6 ((w6 (IntKind.wrap .u64 (0 - r19.1.n))) - 1)), iV 0]) [] (.inr rfl) (Weak.turnL [] [] rfl rfl (tc (.sc _) (tc (.sc _) tn)) mn) (ro2 (rvT (v := iV (w6 ((w6 (IntKind.wrap .u64 (0 - r19.1.n))) - 1))) rfl) (rvT (v := iV 0) rfl)) rfl rfl (.tup .z2) pn
       ·refine AWP.skip (skB ?_)
        refine skT (AWP.sq (AWP.rgC 196 rfl rfl (pS rfl (pS rfl (cn rfl rfl ti107 rfl ti2 rfl rfl (pS rfl (pS rfl (RunC.fin (AWP.ret ?_)))))))))
        have hR := Option.some.inj hR; subst hR
        exact hQ _ _ (LS.mk [(4, iV (w6 (IntKind.wrap .u64 (0 - r19.1.n)))), (5, iV 0)] (lblks 0 []) 0) (.tup [iV (w6 (IntKind.wrap .u64 (0 - r19.1.n))), iV 0]) [] (.inr rfl) (Weak.turnL [] [] rfl rfl (tc (.sc _) (tc (.sc _) tn)) mn) (ro2 (rvT (v := iV (w6 (IntKind.wrap .u64 (0 - r19.1.n)))) rfl) (rvT (v := iV 0) rfl)) rfl rfl (.tup .z2) pn
theorem ok47 (a : Int) (b : Int) (c : Int) (r : Int × Int) (hR : num_MulDiv a b c = some r) : FnP Try.prog 47 [.sc (.int .i64 a), .sc (.int .i64 b), .sc (.int .i64 c)] (.tup [.sc (.int .i64 r.1), .sc (.int .i64 r.2)]) := by
 refine fnP_of (FnX.walk Try.func47 rfl 15 0 (by simp [Try.ntmps47]) rfl fun W S F Q hQ => ?_)
 unfold num_MulDiv at hR
 refine AWP.sq (AWP.rgC 8 rfl rfl (pS rfl (pS rfl (RunC.fin (AWP.sq (AWP.rgC 44 rfl rfl (pS rfl (pS rfl ?_))))))))
 obtain ⟨r1, hr1, hR⟩ := bindE hR
 refine cls [] rfl rfl cb52 (ok52 a b _ hr1) .z2 (.inr rfl) rfl (pS rfl ?_)
 obtain ⟨r2, hr2, hR⟩ := bindE hR
 refine cls [] rfl rfl cb78 (ok78 r1 c _ hr2) (.cons (.agg .z2 rfl) (.cons (.sc _) .nil)) (.inr rfl) rfl (pS rfl (pS rfl (pS rfl (pS rfl (RunC.fin (AWP.ret ?_))))))
 have hR := Option.some.inj hR; subst hR
 exact hQ _ _ (LS.mk [(6, iV r2.1), (7, iV r2.2)] (lblks 0 []) 0) (.tup [iV r2.1, iV r2.2]) [] (.inr rfl) (Weak.turnL [] [] rfl rfl (tc (.sc _) (tc (.sc _) tn)) mn) (ro2 (rvT (v := iV r2.1) rfl) (rvT (v := iV r2.2) rfl)) rfl rfl (.tup .z2) pn
theorem ok46 (x : Int) (p1 : Int) (r : Int) (hR : sky_Pull_1 x p1 = some r) : FnP Try.prog 46 [.sc (.int .i64 x), .rp (Cl.c false p1)] (.sc (.int .i64 r)) := by
 refine fnP_of (FnX.walk Try.func46 rfl 25 0 (by simp [Try.ntmps46]) rfl fun W S F Q hQ => ?_)
 unfold sky_Pull_1 at hR
 refine AWP.sq (AWP.rgC 4 rfl rfl (pS rfl (RunC.fin (AWP.sq (AWP.rgC 48 rfl rfl (pS rfl (pS rfl (pS rfl (pS rfl (ldR (v := .sc _) rfl rfl ti2 rfl ?_))))))))))
 obtain ⟨r1, hr1, hR⟩ := bindE hR
 refine cls [] rfl rfl cb47 (ok47 9007199254740992 (mx2 x (w6 (0 - x))) p1 _ hr1) .z3 (.inr rfl) rfl (pu (v := .tup _) rfl rfl (fun _ => rfl) (pS rfl (pS rfl (pS rfl (pS rfl (RunC.fin (AWP.sq (AWP.rgC 72 rfl rfl (pS rfl (ldR (v := .sc _) rfl rfl ti2 rfl ?_))))))))))
 refine ldR (v := .sc _) rfl rfl ti2 rfl ?_
 refine pS rfl ?_
 obtain ⟨h2, hR⟩ := chkE hR
 refine qu rfl rfl rfl h2 rfl ?_
 refine pS rfl (RunC.fin (AWP.sq (AWP.sq (AWP.rgC 80 rfl rfl (pS rfl (pS rfl (RunC.fin (AWP.cd hR rfl (fun h3 hR => ?_) fun h3 hR => ?_))))))))
 ·refine AWP.sq (AWP.rgC 92 rfl rfl (pS rfl (pS rfl (pS rfl (RunC.fin (AWP.ret (rtT ?_)))))))
  have hR := Option.some.inj hR; subst hR
  exact hQ _ _ (LS.mk [(3, iV (w6 (0 - (w6 (Int.tdiv r1.1 (w6 (p1 * p1)))))))] (lblks 0 []) 0) (iV (w6 (0 - (w6 (Int.tdiv r1.1 (w6 (p1 * p1))))))) [] (.inr rfl) (Weak.turnL [] [] rfl rfl (tc (.sc _) tn) mn) (ro1 (rvT (v := iV (w6 (0 - (w6 (Int.tdiv r1.1 (w6 (p1 * p1))))))) rfl)) rfl rfl (.sc _) pn
 ·refine AWP.skip (skT (AWP.sq (AWP.rgC 88 rfl rfl (pS rfl (pS rfl (RunC.fin (AWP.ret ?_)))))))
  have hR := Option.some.inj hR; subst hR
  exact hQ _ _ (LS.mk [(3, iV (w6 (Int.tdiv r1.1 (w6 (p1 * p1)))))] (lblks 0 []) 0) (iV (w6 (Int.tdiv r1.1 (w6 (p1 * p1))))) [] (.inr rfl) (Weak.turnL [] [] rfl rfl (tc (.sc _) tn) mn) (ro1 (rvT (v := iV (w6 (Int.tdiv r1.1 (w6 (p1 * p1))))) rfl)) rfl rfl (.sc _) pn
theorem ok27 (at_ : Vec) (r : Vec) (hR : sky_Pull at_ = some r) : FnP Try.prog 27 [aggV false at_] (aggV (α := Vec) true r) := by
 refine fnP_of (FnX.walk Try.func27 rfl 44 0 (by simp [Try.ntmps27]) rfl fun W S F Q hQ => ?_)
 unfold sky_Pull at hR
 refine AWP.sq (AWP.rgC 8 rfl rfl (bx (cs := _) 0 rfl rfl rfl (al (cs := [iV 0, iV 0, iV 0]) 4 rfl rfl ti30 rfl rfl (RunC.fin (AWP.sq (AWP.sq (AWP.rgC 20 rfl rfl (ldB (v := .agg _) rfl rfl rfl rfl ti30 rfl rfl ?_))))))))
 obtain ⟨r1, hr1, hR⟩ := bindE hR
 refine cls [] rfl rfl cb26 (ok26 at_ 4194304 _ hr1) (.cons (.agg .z3 rfl) (.cons (.sc _) .nil)) (.inr rfl) rfl (pS rfl (RunC.fin (AWP.cd hR rfl (fun h2 hR => ?_) fun h2 hR => ?_)))
 ·refine AWP.sq (AWP.rgC 28 rfl rfl (bu (cs := [iV 0, iV 0, iV 0]) rfl bt30 rfl (stB (cs' := [iV 0, iV 0, iV 0]) rfl rfl rfl rfl ti30 rfl rfl rfl rfl rfl (RunC.fin (AWP.ret (rtT ?_))))))
  have hR := Option.some.inj hR; subst hR
  exact hQ _ _ (LS.mk [(2, .ptr 0 0 0)] (lblks 0 [boxB (α := Vec) true (Vec.mk 0 0 0)]) 1) (aggV (α := Vec) true (Vec.mk 0 0 0)) [] (.inr rfl) (Weak.turnL [(4, 0)] [] rfl rfl (tc (trP' rfl rfl rfl rfl) tn) (mc rfl (.box rfl .z3 rfl) mn)) (ro1 (rvC (v := aggV (α := Vec) true (Vec.mk 0 0 0)) rfl rfl ti30 rfl)) rfl rfl ldA pn
 ·refine AWP.skip (skT (AWP.sq (AWP.rgC 100 rfl rfl (fa rfl rfl ti30 rfl rfl ti2 rfl (ldB (v := .sc _) rfl rfl rfl rfl ti2 rfl rfl (fa rfl rfl ti30 rfl rfl ti2 rfl (ldB (v := .sc _) rfl rfl rfl rfl ti2 rfl rfl (pS rfl (fa rfl rfl ti30 rfl rfl ti2 rfl (ldB (v := .sc _) rfl rfl rfl rfl ti2 rfl rfl (fa rfl rfl ti30 rfl rfl ti2 rfl (ldB (v := .sc _) rfl rfl rfl rfl ti2 rfl rfl (pS rfl (pS rfl (fa rfl rfl ti30 rfl rfl ti2 rfl (ldB (v := .sc _) rfl rfl rfl rfl ti2 rfl rfl ?_))))))))))))))))
  refine fa rfl rfl ti30 rfl rfl ti2 rfl (ldB (v := .sc _) rfl rfl rfl rfl ti2 rfl rfl (pS rfl ?_))
  obtain ⟨v3, ev3, hR⟩ := letE hR
  refine pu (v := .sc _) rfl rfl (fun _ => puI ev3) ?_
  obtain ⟨r4, hr4, hR⟩ := bindE hR
  refine cls [] rfl rfl cb45 (ok45 v3 _ hr4) (.cons (.sc _) .nil) (.inr rfl) rfl (al (cs := [iV 0]) 92 rfl rfl ti2 rfl rfl (stB (cs' := [iV r4]) rfl rfl rfl rfl ti2 rfl rfl rfl rfl rfl (RunC.fin (AWP.sq (AWP.sq (AWP.rgC 108 rfl rfl (ldB (v := .sc _) rfl rfl rfl rfl ti2 rfl rfl (pS rfl (RunC.fin (AWP.cd hR rfl (fun h5 hR => ?_) fun h5 hR => ?_))))))))))
  ·refine AWP.sq (AWP.rgC 116 rfl rfl (bu (cs := [iV 0, iV 0, iV 0]) rfl bt30 rfl (stB (cs' := [iV 0, iV 0, iV 0]) rfl rfl rfl rfl ti30 rfl rfl rfl rfl rfl (RunC.fin (AWP.ret (rtT ?_))))))
   have hR := Option.some.inj hR; subst hR
   exact hQ _ _ (LS.mk [(2, .ptr 0 0 0)] (lblks 0 [boxB (α := Vec) true (Vec.mk 0 0 0)]) 1) (aggV (α := Vec) true (Vec.mk 0 0 0)) [] (.inr rfl) (Weak.turnL [(4, 0)] [] rfl rfl (tc (trP' rfl rfl rfl rfl) tn) (mc rfl (.box rfl .z3 rfl) mn)) (ro1 (rvC (v := aggV (α := Vec) true (Vec.mk 0 0 0)) rfl rfl ti30 rfl)) rfl rfl ldA pn
  ·refine AWP.skip (skT (AWP.sq (AWP.rgC 116 rfl rfl (pu (v := .fn _ _) rfl rfl (fun _ => rfl) (pu (v := .fn _ _) rfl rfl (fun _ => rfl) (RunC.fin (AWP.sq (AWP.rgD 172 [0, 0, 2, 7, 0, 0, 32, 127, 0, 0, 512, 2047, 4095, 8191] ⟨[], [none, none, some [0], none, none, none, some [0], none, none, none, some [0], none, none, some [4]]⟩ hmix (by kernel_rfl) rfl rfl ?_))))))))
   refine pu (v := .fn _ _) rfl rfl (fun _ => rfl) (fa rfl rfl ti30 rfl rfl ti2 rfl (ldB (v := .sc _) rfl rfl rfl rfl ti2 rfl rfl ?_))
   obtain ⟨r6, hr6, hR⟩ := bindE hR
   refine cls [92] rfl rfl cb46 (ok46 at_.X r4 _ hr6) (.cons (.sc _) (.cons (ldX rfl rfl (.cons (.sc _) .nil) rfl) (.nil))) (.inl (by first | rfl | exact freshR | exact freshA | (simp only [V.fresh, V.freshs, freshR, freshA, Bool.and_self]))) rfl (pu (v := .fn _ _) rfl rfl (fun _ => rfl) (fa rfl rfl ti30 rfl rfl ti2 rfl (ldB (v := .sc _) rfl rfl rfl rfl ti2 rfl rfl ?_)))
   obtain ⟨r7, hr7, hR⟩ := bindE hR
   refine cls [92] rfl rfl cb46 (ok46 at_.Y r4 _ hr7) (.cons (.sc _) (.cons (ldX rfl rfl (.cons (.sc _) .nil) rfl) (.nil))) (.inl (by first | rfl | exact freshR | exact freshA | (simp only [V.fresh, V.freshs, freshR, freshA, Bool.and_self]))) rfl (pu (v := .fn _ _) rfl rfl (fun _ => rfl) (fa rfl rfl ti30 rfl rfl ti2 rfl (ldB (v := .sc _) rfl rfl rfl rfl ti2 rfl rfl ?_)))
   obtain ⟨r8, hr8, hR⟩ := bindE hR
   refine cls [92] rfl rfl cb46 (ok46 at_.Z r4 _ hr8) (.cons (.sc _) (.cons (ldX rfl rfl (.cons (.sc _) .nil) rfl) (.nil))) (.inl (by first | rfl | exact freshR | exact freshA | (simp only [V.fresh, V.freshs, freshR, freshA, Bool.and_self]))) rfl (bu (cs := [iV r6, iV r7, iV r8]) rfl bt30 rfl (stB (cs' := [iV r6, iV r7, iV r8]) rfl rfl rfl rfl ti30 rfl rfl rfl rfl rfl (RunC.fin (AWP.ret ?_))))
   have hR := Option.some.inj hR; subst hR
   exact hQ _ _ (LS.mk [(2, .ptr 0 0 0)] (lblks 0 [boxB (α := Vec) true (Vec.mk r6 r7 r8)]) 1) (aggV (α := Vec) true (Vec.mk r6 r7 r8)) [] (.inr rfl) (Weak.turnL [(4, 0)] [] rfl rfl (tc (trP' rfl rfl rfl rfl) tn) (mc rfl (.box rfl .z3 rfl) mn)) (ro1 (rvC (v := aggV (α := Vec) true (Vec.mk r6 r7 r8)) rfl rfl ti30 rfl)) rfl rfl ldA pn
theorem ok12 (was : Vec) (here : Vec) (r : Vec × Int) (hR : sky_Step was here = some r) : FnP Try.prog 12 [aggV false was, aggV false here] (.tup [aggV (α := Vec) true r.1, .sc (.int .i64 r.2)]) := by
 refine fnP_of (FnX.walk Try.func12 rfl 52 0 (by simp [Try.ntmps12]) rfl fun W S F Q hQ => ?_)
 unfold sky_Step at hR
 refine AWP.sq (AWP.rgC 16 rfl rfl (bx (cs := _) 0 rfl rfl rfl (bx (cs := _) 4 rfl rfl rfl (al (cs := [iV 0, iV 0, iV 0]) 8 rfl rfl ti30 rfl rfl (pS rfl (RunC.fin (AWP.sq (AWP.joinX (fun z1 : Bool => LS.mk [(2, .ptr 0 0 0), (3, .ptr 1 0 0), (4, .ptr 2 0 0), (15, bV z1)] (lblks 0 [boxB (α := Vec) true was, boxB (α := Vec) true here, boxB (α := Vec) true (Vec.mk 0 0 0)]) 3) hR (fun o1 hR => ?_) fun z1 hR => ?_))))))))
 ·refine AWP.rgC 48 rfl rfl (ldB (v := .agg _) rfl rfl rfl rfl ti30 rfl rfl ?_)
  obtain ⟨r2, hr2, hR⟩ := bindE hR
  refine cls [] rfl rfl cb26 (ok26 was 4194304 _ hr2) (.cons (.agg .z3 rfl) (.cons (.sc _) .nil)) (.inr rfl) rfl (pS rfl (pS rfl (brR hR (fun h3 hR => ?_) fun h3 hR => ?_)))
  ·refine sk (skW rfl rfl rfl h3) (sk (skW rfl rfl rfl h3) (sk (skW rfl rfl rfl h3) (pkT (v := bV true) rfl rfl h3 rfl (RunC.fin ?_))))
   have hR := Option.some.inj hR; subst hR
   exact Weak.turnL [(0, 0), (4, 0), (8, 0)] [] rfl rfl (tc (trP' rfl rfl rfl rfl) (tc (trP' rfl rfl rfl rfl) (tc (trP' rfl rfl rfl rfl) (tc (.sc _) tn)))) (mc rfl (.box rfl .z3 rfl) (mc rfl (.box rfl .z3 rfl) (mc rfl (.box rfl .z3 rfl) mn)))
  ·refine ldB (v := .agg _) (wtG rfl rfl rfl h3) rfl rfl rfl ti30 rfl rfl ?_
   obtain ⟨r4, hr4, hR⟩ := bindE hR
   refine cls [] (wtG rfl rfl rfl h3) rfl cb26 (ok26 here 4194304 _ hr4) (.cons (.agg .z3 rfl) (.cons (.sc _) .nil)) (.inr rfl) rfl (pu (v := .sc _) (wtG rfl rfl rfl h3) rfl (fun _ => rfl) (pkF (v := bV (!r4)) rfl rfl h3 rfl (RunC.fin ?_)))
   have hR := Option.some.inj hR; subst hR
   exact Weak.turnL [(0, 0), (4, 0), (8, 0)] [] rfl rfl (tc (trP' rfl rfl rfl rfl) (tc (trP' rfl rfl rfl rfl) (tc (trP' rfl rfl rfl rfl) (tc (.sc _) tn)))) (mc rfl (.box rfl .z3 rfl) (mc rfl (.box rfl .z3 rfl) (mc rfl (.box rfl .z3 rfl) mn)))
 ·refine AWP.cd hR rfl (fun h5 hR => ?_) fun h5 hR => ?_
  ·refine AWP.sq (AWP.rgC 15 rfl rfl (bu (cs := [iV 0, iV 0, iV 0]) rfl bt30 rfl (stB (cs' := [iV 0, iV 0, iV 0]) rfl rfl rfl rfl ti30 rfl rfl rfl rfl rfl (pS rfl (RunC.fin (AWP.ret (rtT ?_)))))))
   have hR := Option.some.inj hR; subst hR
   exact hQ _ _ (LS.mk [(4, .ptr 0 0 0), (5, iV 4)] (lblks 0 [boxB (α := Vec) true (Vec.mk 0 0 0)]) 1) (.tup [aggV (α := Vec) true (Vec.mk 0 0 0), iV 4]) [] (.inr rfl) (Weak.turnL [(2, 0)] [] rfl rfl (tc (trP' rfl rfl rfl rfl) (tc (.sc _) tn)) (mc rfl (.box rfl .z3 rfl) mn)) (ro2 (rvC (v := aggV (α := Vec) true (Vec.mk 0 0 0)) rfl rfl ti30 rfl) (rvT (v := iV 4) rfl)) rfl rfl (.tup (.cons ldA (.cons (.sc _) .nil))) pn
  ·refine AWP.skip (skT (AWP.sq (AWP.rgC 19 rfl rfl (ldB (v := .agg _) rfl rfl rfl rfl ti30 rfl rfl ?_))))
   obtain ⟨r6, hr6, hR⟩ := bindE hR
   refine cls [] rfl rfl cb27 (ok27 here _ hr6) (.cons (.agg .z3 rfl) (.nil)) (.inr rfl) rfl (al (cs := [iV 0, iV 0, iV 0]) 11 rfl rfl ti30 rfl rfl (stB (cs' := [iV r6.X, iV r6.Y, iV r6.Z]) rfl rfl rfl rfl ti30 rfl rfl rfl rfl rfl (RunC.fin (AWP.sq (AWP.rgC 139 rfl rfl (fa rfl rfl ti30 rfl rfl ti2 rfl (ldB (v := .sc _) rfl rfl rfl rfl ti2 rfl rfl (pS rfl (fa rfl rfl ti30 rfl rfl ti2 rfl (ldB (v := .sc _) rfl rfl rfl rfl ti2 rfl rfl (pS rfl (fa rfl rfl ti30 rfl rfl ti2 rfl (ldB (v := .sc _) rfl rfl rfl rfl ti2 rfl rfl (pS rfl (fa rfl rfl ti30 rfl rfl ti2 rfl (ldB (v := .sc _) rfl rfl rfl rfl ti2 rfl rfl ?_))))))))))))))))
   refine pS rfl (fa rfl rfl ti30 rfl rfl ti2 rfl (ldB (v := .sc _) rfl rfl rfl rfl ti2 rfl rfl (pS rfl (fa rfl rfl ti30 rfl rfl ti2 rfl (ldB (v := .sc _) rfl rfl rfl rfl ti2 rfl rfl (pS rfl (fa rfl rfl ti30 rfl rfl ti2 rfl (ldB (v := .sc _) rfl rfl rfl rfl ti2 rfl rfl (pS rfl (fa rfl rfl ti30 rfl rfl ti2 rfl (ldB (v := .sc _) rfl rfl rfl rfl ti2 rfl rfl (pS rfl (fa rfl rfl ti30 rfl rfl ti2 rfl (ldB (v := .sc _) rfl rfl rfl rfl ti2 rfl rfl (pS rfl (bu (cs := [iV (w6 ((w6 ((w6 (2 * here.X)) - was.X)) + r6.X)), iV (w6 ((w6 ((w6 (2 * here.Y)) - was.Y)) + r6.Y)), iV (w6 ((w6 ((w6 (2 * here.Z)) - was.Z)) + r6.Z))]) rfl bt30 rfl ?_))))))))))))))))
   refine al (cs := [iV 0, iV 0, iV 0]) 131 rfl rfl ti30 rfl rfl (stB (cs' := [iV (w6 ((w6 ((w6 (2 * here.X)) - was.X)) + r6.X)), iV (w6 ((w6 ((w6 (2 * here.Y)) - was.Y)) + r6.Y)), iV (w6 ((w6 ((w6 (2 * here.Z)) - was.Z)) + r6.Z))]) rfl rfl rfl rfl ti30 rfl rfl rfl rfl rfl (RunC.fin (AWP.sq (AWP.sq (AWP.rgC 151 rfl rfl (ldB (v := .agg _) rfl rfl rfl rfl ti30 rfl rfl ?_))))))
   obtain ⟨r7, hr7, hR⟩ := bindE hR
   refine cls [] rfl rfl cb26 (ok26 (Vec.mk (w6 ((w6 ((w6 (2 * here.X)) - was.X)) + r6.X)) (w6 ((w6 ((w6 (2 * here.Y)) - was.Y)) + r6.Y)) (w6 ((w6 ((w6 (2 * here.Z)) - was.Z)) + r6.Z))) 4194304 _ hr7) (.cons (.agg .z3 rfl) (.cons (.sc _) .nil)) (.inr rfl) rfl (pS rfl (RunC.fin (AWP.cd hR rfl (fun h8 hR => ?_) fun h8 hR => ?_)))
   ·refine AWP.sq (AWP.rgC 163 rfl rfl (bu (cs := [iV 0, iV 0, iV 0]) rfl bt30 rfl (stB (cs' := [iV 0, iV 0, iV 0]) rfl rfl rfl rfl ti30 rfl rfl rfl rfl rfl (pS rfl (RunC.fin (AWP.ret (rtT ?_)))))))
    have hR := Option.some.inj hR; subst hR
    exact hQ _ _ (LS.mk [(4, .ptr 0 0 0), (5, iV 18)] (lblks 0 [boxB (α := Vec) true (Vec.mk 0 0 0)]) 1) (.tup [aggV (α := Vec) true (Vec.mk 0 0 0), iV 18]) [] (.inr rfl) (Weak.turnL [(2, 0)] [] rfl rfl (tc (trP' rfl rfl rfl rfl) (tc (.sc _) tn)) (mc rfl (.box rfl .z3 rfl) mn)) (ro2 (rvC (v := aggV (α := Vec) true (Vec.mk 0 0 0)) rfl rfl ti30 rfl) (rvT (v := iV 18) rfl)) rfl rfl (.tup (.cons ldA (.cons (.sc _) .nil))) pn
   ·refine AWP.skip (skT (AWP.sq (AWP.rgC 163 rfl rfl (ldB (v := .agg _) rfl rfl rfl rfl ti30 rfl rfl (stB (cs' := [iV (w6 ((w6 ((w6 (2 * here.X)) - was.X)) + r6.X)), iV (w6 ((w6 ((w6 (2 * here.Y)) - was.Y)) + r6.Y)), iV (w6 ((w6 ((w6 (2 * here.Z)) - was.Z)) + r6.Z))]) rfl rfl rfl rfl ti30 rfl rfl rfl rfl rfl (pS rfl (RunC.fin (AWP.ret ?_))))))))
    have hR := Option.some.inj hR; subst hR
    exact hQ _ _ (LS.mk [(4, .ptr 0 0 0), (5, iV 0)] (lblks 0 [boxB (α := Vec) true (Vec.mk (w6 ((w6 ((w6 (2 * here.X)) - was.X)) + r6.X)) (w6 ((w6 ((w6 (2 * here.Y)) - was.Y)) + r6.Y)) (w6 ((w6 ((w6 (2 * here.Z)) - was.Z)) + r6.Z)))]) 1) (.tup [aggV (α := Vec) true (Vec.mk (w6 ((w6 ((w6 (2 * here.X)) - was.X)) + r6.X)) (w6 ((w6 ((w6 (2 * here.Y)) - was.Y)) + r6.Y)) (w6 ((w6 ((w6 (2 * here.Z)) - was.Z)) + r6.Z))), iV 0]) [] (.inr rfl) (Weak.turnL [(2, 0)] [] rfl rfl (tc (trP' rfl rfl rfl rfl) (tc (.sc _) tn)) (mc rfl (.box rfl .z3 rfl) mn)) (ro2 (rvC (v := aggV (α := Vec) true (Vec.mk (w6 ((w6 ((w6 (2 * here.X)) - was.X)) + r6.X)) (w6 ((w6 ((w6 (2 * here.Y)) - was.Y)) + r6.Y)) (w6 ((w6 ((w6 (2 * here.Z)) - was.Z)) + r6.Z)))) rfl rfl ti30 rfl) (rvT (v := iV 0) rfl)) rfl rfl (.tup (.cons ldA (.cons (.sc _) .nil))) pn
theorem ok14 (a : Vec) (b : Vec) (r : Vec) (hR : spykeep4_from a b = some r) : FnP Try.prog 14 [aggV false a, aggV false b] (aggV (α := Vec) true r) := by
 refine fnP_of (FnX.walk Try.func14 rfl 21 0 (by simp [Try.ntmps14]) rfl fun W S F Q hQ => ?_)
 unfold spykeep4_from at hR
 refine AWP.sq (AWP.rgC 12 rfl rfl (bx (cs := _) 0 rfl rfl rfl (bx (cs := _) 4 rfl rfl rfl (al (cs := [iV 0, iV 0, iV 0]) 8 rfl rfl ti30 rfl rfl (RunC.fin (AWP.sq (AWP.rgC 80 rfl rfl (fa rfl rfl ti30 rfl rfl ti2 rfl (ldB (v := .sc _) rfl rfl rfl rfl ti2 rfl rfl (fa rfl rfl ti30 rfl rfl ti2 rfl (ldB (v := .sc _) rfl rfl rfl rfl ti2 rfl rfl (pS rfl (fa rfl rfl ti30 rfl rfl ti2 rfl (ldB (v := .sc _) rfl rfl rfl rfl ti2 rfl rfl (fa rfl rfl ti30 rfl rfl ti2 rfl (ldB (v := .sc _) rfl rfl rfl rfl ti2 rfl rfl ?_))))))))))))))))
 refine pS rfl (fa rfl rfl ti30 rfl rfl ti2 rfl (ldB (v := .sc _) rfl rfl rfl rfl ti2 rfl rfl (fa rfl rfl ti30 rfl rfl ti2 rfl (ldB (v := .sc _) rfl rfl rfl rfl ti2 rfl rfl (pS rfl (bu (cs := [iV (w6 (b.X - a.X)), iV (w6 (b.Y - a.Y)), iV (w6 (b.Z - a.Z))]) rfl bt30 rfl (stB (cs' := [iV (w6 (b.X - a.X)), iV (w6 (b.Y - a.Y)), iV (w6 (b.Z - a.Z))]) rfl rfl rfl rfl ti30 rfl rfl rfl rfl rfl (RunC.fin (AWP.ret ?_)))))))))
 have hR := Option.some.inj hR; subst hR
 exact hQ _ _ (LS.mk [(4, .ptr 0 0 0)] (lblks 0 [boxB (α := Vec) true (Vec.mk (w6 (b.X - a.X)) (w6 (b.Y - a.Y)) (w6 (b.Z - a.Z)))]) 1) (aggV (α := Vec) true (Vec.mk (w6 (b.X - a.X)) (w6 (b.Y - a.Y)) (w6 (b.Z - a.Z)))) [] (.inr rfl) (Weak.turnL [(8, 0)] [] rfl rfl (tc (trP' rfl rfl rfl rfl) tn) (mc rfl (.box rfl .z3 rfl) mn)) (ro1 (rvC (v := aggV (α := Vec) true (Vec.mk (w6 (b.X - a.X)) (w6 (b.Y - a.Y)) (w6 (b.Z - a.Z)))) rfl rfl ti30 rfl)) rfl rfl ldA pn
theorem ok48 (c : Int) (p1 : Int) (p2 : spymake_Stream) (p3 : Int) (r : Bound × spymake_Stream) (hR : Stream_Held_1 c p1 p2 p3 = some r) : FnD Try.prog 48 [boxB false p2, .box [.ptr 0 0 0]] [.sc (.int .i64 c), .rp (Cl.c false p1), .ptr 1 0 0, .rp (Cl.c false p3)] (aggV (α := Bound) true r.1) [boxB false r.2, .box [.ptr 0 0 0]] := by
 refine FnX.walk Try.func48 rfl 23 2 (by simp [Try.ntmps48]) rfl fun W S F Q hQ => ?_
 unfold Stream_Held_1 at hR
 refine AWP.sq (AWP.rgC 6 rfl rfl (al (cs := [iV 0, iV 0, bV false]) 2 rfl rfl ti33 rfl rfl (RunC.fin (AWP.sq (AWP.rgD 78 [0, 0, 3, 0, 0, 16, 56, 127, 0, 0, 768, 0, 0, 4096, 14456, 32632, 65535, 131071] ⟨[6, 14], [some [], none, none, some [1], some [], none, some [0], none, some [], none, none, some [1], some [], none, some [0], none, none, some [2]]⟩ hmix (by kernel_rfl) rfl rfl ?_)))))
 refine ldR (v := .sc _) rfl rfl ti2 rfl ?_
 refine pS rfl (pS rfl (ldB (v := .ptr _ _ _) rfl rfl rfl rfl ti23 rfl rfl (ldR (v := .sc _) rfl rfl ti3 rfl ?_)))
 refine pS rfl ?_
 obtain ⟨r1, hr1, hR⟩ := bindE hR
 refine cps (res' := iV r1.1) (ups := [(0, boxB (α := spymake_Stream) false r1.2)]) [0] 30 rfl rfl rfl cb13 (ok13 p2 (w6 (p3 + 1)) _ hr1) (.cons (ldP rfl rfl) (.cons (.sc _) .nil)) (pc rfl (.box (.cons ldR' (.cons (.sc _) .nil)) rfl) pn) rfl rfl rfl rfl rfl (by first | rfl | exact renR | exact renA | exact renS | simp only [V.ren, V.rens, renR, renA, renS] | (simp only [V.ren, V.rens, renR, renA, renS]; rfl)) (by simp only [passUps, renBox, renArr]; rfl) (pS rfl (ldR (v := .sc _) rfl rfl ti2 rfl ?_))
 refine pS rfl (pS rfl (ldB (v := .ptr _ _ _) rfl rfl rfl rfl ti23 rfl rfl (ldR (v := .sc _) rfl rfl ti3 rfl ?_)))
 refine pS rfl ?_
 obtain ⟨r2, hr2, hR⟩ := bindE hR
 refine cps (res' := iV r2.1) (ups := [(0, boxB (α := spymake_Stream) false r2.2)]) [0] 62 rfl rfl rfl cb13 (ok13 r1.2 (w6 (p3 + 1)) _ hr2) (.cons (ldP rfl rfl) (.cons (.sc _) .nil)) (pc rfl (.box (.cons ldR' (.cons (.sc _) .nil)) rfl) pn) rfl rfl rfl rfl rfl (by first | rfl | exact renR | exact renA | exact renS | simp only [V.ren, V.rens, renR, renA, renS] | (simp only [V.ren, V.rens, renR, renA, renS]; rfl)) (by simp only [passUps, renBox, renArr]; rfl) (pS rfl (bu (cs := [iV (w6 ((w6 (p1 * c)) - r1.1)), iV (w6 ((w6 (p1 * c)) + r2.1)), bV false]) rfl bt33 rfl (stB (cs' := [iV (w6 ((w6 (p1 * c)) - r1.1)), iV (w6 ((w6 (p1 * c)) + r2.1)), bV false]) rfl rfl rfl rfl ti33 rfl rfl rfl rfl rfl (RunC.fin (AWP.ret ?_)))))
 have hR := Option.some.inj hR; subst hR
 exact hQ _ _ (LS.mk [(5, .ptr 2 0 0)] (lblks 0 [boxB (α := spymake_Stream) false r2.2, .box [.ptr 0 0 0], boxB (α := Bound) true (Bound.mk (w6 ((w6 (p1 * c)) - r1.1)) (w6 ((w6 (p1 * c)) + r2.1)) false)]) 3) (aggV (α := Bound) true (Bound.mk (w6 ((w6 (p1 * c)) - r1.1)) (w6 ((w6 (p1 * c)) + r2.1)) false)) [] (.inr rfl) (Weak.turnL [(0, 0), (1, 0), (2, 0)] [] rfl rfl (tc (trP' rfl rfl rfl rfl) tn) (mc rfl (.box rfl (.cons trR1 (.cons (.sc _) .nil)) rfl) (mc rfl (.box rfl (.cons (trP' rfl rfl rfl rfl) (.nil)) rfl) (mc rfl (.box rfl .z3 rfl) mn)))) (ro1 (rvC (v := aggV (α := Bound) true (Bound.mk (w6 ((w6 (p1 * c)) - r1.1)) (w6 ((w6 (p1 * c)) + r2.1)) false)) rfl rfl ti33 rfl)) rfl rfl ldA (pc rfl bldB (pc rfl (.box (.cons (ldP rfl rfl) .nil) rfl) pn))
theorem ok48_25 (c : Int) (p1 : Int) (p2 : spymake_Stream) (p3 : Int) (r : Bound × spymake_Stream) (hR : Stream_Held_1 c p1 p2 p3 = some r) : FnD Try.prog 48 [boxB false p1, boxB false p2, .box [.ptr 1 0 0], boxB false p3] [.sc (.int .i64 c), .ptr 0 0 0, .ptr 2 0 0, .ptr 3 0 0] (aggV (α := Bound) true r.1) [boxB false p1, boxB false r.2, .box [.ptr 1 0 0], boxB false p3] := by
 refine FnX.walk Try.func48 rfl 23 4 (by simp [Try.ntmps48]) rfl fun W S F Q hQ => ?_
 unfold Stream_Held_1 at hR
 refine AWP.sq (AWP.rgC 8 rfl rfl (al (cs := [iV 0, iV 0, bV false]) 4 rfl rfl ti33 rfl rfl (RunC.fin (AWP.sq (AWP.rgD 80 [0, 0, 3, 0, 0, 16, 56, 127, 0, 0, 768, 0, 0, 4096, 14456, 32632, 65535, 131071] ⟨[6, 14], [some [0], none, none, some [2], some [3], none, some [1], none, some [0], none, none, some [2], some [3], none, some [1], none, none, some [4]]⟩ hmix (by kernel_rfl) rfl rfl ?_)))))
 refine ldB (v := .sc _) rfl rfl rfl rfl ti2 rfl rfl (pS rfl (pS rfl (ldB (v := .ptr _ _ _) rfl rfl rfl rfl ti23 rfl rfl (ldB (v := .sc _) rfl rfl rfl rfl ti3 rfl rfl (pS rfl ?_)))))
 obtain ⟨r1, hr1, hR⟩ := bindE hR
 refine cps (res' := iV r1.1) (ups := [(1, boxB (α := spymake_Stream) false r1.2)]) [1] 32 rfl rfl rfl cb13 (ok13 p2 (w6 (p3 + 1)) _ hr1) (.cons (ldP rfl rfl) (.cons (.sc _) .nil)) (pc rfl (.box (.cons ldR' (.cons (.sc _) .nil)) rfl) pn) rfl rfl rfl rfl rfl (by first | rfl | exact renR | exact renA | exact renS | simp only [V.ren, V.rens, renR, renA, renS] | (simp only [V.ren, V.rens, renR, renA, renS]; rfl)) (by simp only [passUps, renBox, renArr]; rfl) (pS rfl (ldB (v := .sc _) rfl rfl rfl rfl ti2 rfl rfl (pS rfl (pS rfl (ldB (v := .ptr _ _ _) rfl rfl rfl rfl ti23 rfl rfl (ldB (v := .sc _) rfl rfl rfl rfl ti3 rfl rfl (pS rfl ?_)))))))
 obtain ⟨r2, hr2, hR⟩ := bindE hR
 refine cps (res' := iV r2.1) (ups := [(1, boxB (α := spymake_Stream) false r2.2)]) [1] 64 rfl rfl rfl cb13 (ok13 r1.2 (w6 (p3 + 1)) _ hr2) (.cons (ldP rfl rfl) (.cons (.sc _) .nil)) (pc rfl (.box (.cons ldR' (.cons (.sc _) .nil)) rfl) pn) rfl rfl rfl rfl rfl (by first | rfl | exact renR | exact renA | exact renS | simp only [V.ren, V.rens, renR, renA, renS] | (simp only [V.ren, V.rens, renR, renA, renS]; rfl)) (by simp only [passUps, renBox, renArr]; rfl) (pS rfl (bu (cs := [iV (w6 ((w6 (p1 * c)) - r1.1)), iV (w6 ((w6 (p1 * c)) + r2.1)), bV false]) rfl bt33 rfl (stB (cs' := [iV (w6 ((w6 (p1 * c)) - r1.1)), iV (w6 ((w6 (p1 * c)) + r2.1)), bV false]) rfl rfl rfl rfl ti33 rfl rfl rfl rfl rfl (RunC.fin (AWP.ret ?_)))))
 have hR := Option.some.inj hR; subst hR
 exact hQ _ _ (LS.mk [(5, .ptr 4 0 0)] (lblks 0 [boxB (α := Int) true p1, boxB (α := spymake_Stream) false r2.2, .box [.ptr 1 0 0], boxB (α := Int) true p3, boxB (α := Bound) true (Bound.mk (w6 ((w6 (p1 * c)) - r1.1)) (w6 ((w6 (p1 * c)) + r2.1)) false)]) 5) (aggV (α := Bound) true (Bound.mk (w6 ((w6 (p1 * c)) - r1.1)) (w6 ((w6 (p1 * c)) + r2.1)) false)) [] (.inr rfl) (Weak.turnL [(0, 0), (1, 0), (2, 0), (3, 0), (4, 0)] [] rfl rfl (tc (trP' rfl rfl rfl rfl) tn) (mc rfl (.box rfl (.cons (.sc _) .nil) rfl) (mc rfl (.box rfl (.cons trR1 (.cons (.sc _) .nil)) rfl) (mc rfl (.box rfl (.cons (trP' rfl rfl rfl rfl) (.nil)) rfl) (mc rfl (.box rfl (.cons (.sc _) .nil) rfl) (mc rfl (.box rfl .z3 rfl) mn)))))) (ro1 (rvC (v := aggV (α := Bound) true (Bound.mk (w6 ((w6 (p1 * c)) - r1.1)) (w6 ((w6 (p1 * c)) + r2.1)) false)) rfl rfl ti33 rfl)) rfl rfl ldA (pc rfl bldB (pc rfl bldB (pc rfl (.box (.cons (ldP rfl rfl) .nil) rfl) (pc rfl bldB pn))))
theorem ok28 (s : spymake_Stream) (v : Vec) (most : Int) (r : Box × spymake_Stream) (hR : Stream_Held s v most = some r) : FnD Try.prog 28 [boxB false s] [.ptr 0 0 0, aggV false v, .sc (.int .i64 most)] (aggV (α := Box) true r.1) [boxB false r.2] := by
 refine FnX.walk Try.func28 rfl 25 1 (by simp [Try.ntmps28]) rfl fun W S F Q hQ => ?_
 unfold Stream_Held at hR
 refine AWP.sq (AWP.rgC 17 rfl rfl (bx (cs := [.ptr 0 0 0]) 1 rfl rfl rfl (bx (cs := _) 5 rfl rfl rfl (bx (cs := [iV most]) 9 rfl rfl rfl (al (cs := [iV 0, iV 0, bV false, iV 0, iV 0, bV false, iV 0, iV 0, bV false]) 13 rfl rfl ti35 rfl rfl (RunC.fin (AWP.sq (AWP.rgC 33 rfl rfl (ldB (v := .ptr _ _ _) rfl rfl rfl rfl ti23 rfl rfl ?_)))))))))
 obtain ⟨r1, hr1, hR⟩ := bindE hR
 refine cps (res' := iV r1.1) (ups := [(0, boxB (α := spymake_Stream) false r1.2)]) [0] 21 rfl rfl rfl cb16 (ok16 s 1 8 _ hr1) (.cons (ldP rfl rfl) .z2) (pc rfl (.box (.cons ldR' (.cons (.sc _) .nil)) rfl) pn) rfl rfl rfl rfl rfl (by first | rfl | exact renR | exact renA | exact renS | simp only [V.ren, V.rens, renR, renA, renS] | (simp only [V.ren, V.rens, renR, renA, renS]; rfl)) (by simp only [passUps, renBox, renArr]; rfl) (al (cs := [iV 0]) 25 rfl rfl ti2 rfl rfl (stB (cs' := [iV r1.1]) rfl rfl rfl rfl ti2 rfl rfl rfl rfl rfl (RunC.fin (AWP.sq (AWP.rgC 41 rfl rfl (pu (v := .fn _ _) rfl rfl (fun _ => rfl) (pu (v := .fn _ _) rfl rfl (fun _ => rfl) (RunC.fin (AWP.sq (AWP.rgD 97 [0, 0, 2, 7, 0, 0, 32, 127, 0, 0, 512, 2047, 4095, 8191] ⟨[3, 7, 11], [none, none, some [5], some [0, 1, 9, 25], none, none, some [5], some [0, 1, 9, 25], none, none, some [5], some [0, 1, 9, 25], none, some [13]]⟩ hmix (by kernel_rfl) rfl rfl ?_))))))))))
 refine pu (v := .fn _ _) rfl rfl (fun _ => rfl) (fa rfl rfl ti30 rfl rfl ti2 rfl (ldB (v := .sc _) rfl rfl rfl rfl ti2 rfl rfl ?_))
 obtain ⟨r2, hr2, hR⟩ := bindE hR
 refine cps (res' := aggV (α := Bound) true r2.1) (ups := [(25, boxB (α := Int) true r1.1), (0, boxB (α := spymake_Stream) false r2.2), (1, .box [.ptr 0 0 0]), (9, boxB (α := Int) true most)]) [25, 0, 1, 9] 53 rfl rfl rfl cb48 (ok48_25 v.X r1.1 r1.2 most _ hr2) (.cons (.sc _) (.cons (ldP rfl rfl) (.cons (ldP rfl rfl) (.cons (ldP rfl rfl) (.nil))))) (pc rfl (.box (.cons (.sc _) .nil) rfl) (pc rfl (.box (.cons ldR' (.cons (.sc _) .nil)) rfl) (pc rfl (.box (.cons (ldP rfl rfl) .nil) rfl) (pc rfl (.box (.cons (.sc _) .nil) rfl) pn)))) rfl rfl rfl rfl rfl (by first | rfl | exact renR | exact renA | exact renS | simp only [V.ren, V.rens, renR, renA, renS] | (simp only [V.ren, V.rens, renR, renA, renS]; rfl)) (by simp only [passUps, renBox, renArr]; rfl) (pu (v := .fn _ _) rfl rfl (fun _ => rfl) (fa rfl rfl ti30 rfl rfl ti2 rfl (ldB (v := .sc _) rfl rfl rfl rfl ti2 rfl rfl ?_)))
 obtain ⟨r3, hr3, hR⟩ := bindE hR
 refine cps (res' := aggV (α := Bound) true r3.1) (ups := [(25, boxB (α := Int) true r1.1), (0, boxB (α := spymake_Stream) false r3.2), (1, .box [.ptr 0 0 0]), (9, boxB (α := Int) true most)]) [25, 0, 1, 9] 69 rfl rfl rfl cb48 (ok48_25 v.Y r1.1 r2.2 most _ hr3) (.cons (.sc _) (.cons (ldP rfl rfl) (.cons (ldP rfl rfl) (.cons (ldP rfl rfl) (.nil))))) (pc rfl (.box (.cons (.sc _) .nil) rfl) (pc rfl (.box (.cons ldR' (.cons (.sc _) .nil)) rfl) (pc rfl (.box (.cons (ldP rfl rfl) .nil) rfl) (pc rfl (.box (.cons (.sc _) .nil) rfl) pn)))) rfl rfl rfl rfl rfl (by first | rfl | exact renR | exact renA | exact renS | simp only [V.ren, V.rens, renR, renA, renS] | (simp only [V.ren, V.rens, renR, renA, renS]; rfl)) (by simp only [passUps, renBox, renArr]; rfl) (pu (v := .fn _ _) rfl rfl (fun _ => rfl) (fa rfl rfl ti30 rfl rfl ti2 rfl (ldB (v := .sc _) rfl rfl rfl rfl ti2 rfl rfl ?_)))
 obtain ⟨r4, hr4, hR⟩ := bindE hR
 refine cps (res' := aggV (α := Bound) true r4.1) (ups := [(25, boxB (α := Int) true r1.1), (0, boxB (α := spymake_Stream) false r4.2), (1, .box [.ptr 0 0 0]), (9, boxB (α := Int) true most)]) [25, 0, 1, 9] 85 rfl rfl rfl cb48 (ok48_25 v.Z r1.1 r3.2 most _ hr4) (.cons (.sc _) (.cons (ldP rfl rfl) (.cons (ldP rfl rfl) (.cons (ldP rfl rfl) (.nil))))) (pc rfl (.box (.cons (.sc _) .nil) rfl) (pc rfl (.box (.cons ldR' (.cons (.sc _) .nil)) rfl) (pc rfl (.box (.cons (ldP rfl rfl) .nil) rfl) (pc rfl (.box (.cons (.sc _) .nil) rfl) pn)))) rfl rfl rfl rfl rfl (by first | rfl | exact renR | exact renA | exact renS | simp only [V.ren, V.rens, renR, renA, renS] | (simp only [V.ren, V.rens, renR, renA, renS]; rfl)) (by simp only [passUps, renBox, renArr]; rfl) (bu (cs := [iV r2.1.Lo, iV r2.1.Hi, bV r2.1.Unknown, iV r3.1.Lo, iV r3.1.Hi, bV r3.1.Unknown, iV r4.1.Lo, iV r4.1.Hi, bV r4.1.Unknown]) rfl bt35 rfl (stB (cs' := [iV r2.1.Lo, iV r2.1.Hi, bV r2.1.Unknown, iV r3.1.Lo, iV r3.1.Hi, bV r3.1.Unknown, iV r4.1.Lo, iV r4.1.Hi, bV r4.1.Unknown]) rfl rfl rfl rfl ti35 rfl rfl rfl rfl rfl (RunC.fin (AWP.ret ?_))))
 have hR := Option.some.inj hR; subst hR
 exact hQ _ _ (LS.mk [(6, .ptr 1 0 0)] (lblks 0 [boxB (α := spymake_Stream) false r4.2, boxB (α := Box) true (Box.mk r2.1 r3.1 r4.1)]) 2) (aggV (α := Box) true (Box.mk r2.1 r3.1 r4.1)) [] (.inr rfl) (Weak.turnL [(0, 0), (13, 0)] [] rfl rfl (tc (trP' rfl rfl rfl rfl) tn) (mc rfl (.box rfl (.cons trR1 (.cons (.sc _) .nil)) rfl) (mc rfl (.box rfl .z9 rfl) mn))) (ro1 (rvC (v := aggV (α := Box) true (Box.mk r2.1 r3.1 r4.1)) rfl rfl ti35 rfl)) rfl rfl ldA (pc rfl bldB pn)
theorem ok29 (s : spymake_Stream) (most : Int) (r : Bound × spymake_Stream) (hR : spymake_Bound s most = some r) : FnD Try.prog 29 [boxB false s] [.ptr 0 0 0, .sc (.int .i64 most)] (aggV (α := Bound) true r.1) [boxB false r.2] := by
 refine FnX.walk Try.func29 rfl 40 1 (by simp [Try.ntmps29]) rfl fun W S F Q hQ => ?_
 unfold spymake_Bound at hR
 refine AWP.sq (AWP.rgC 5 rfl rfl (al (cs := [iV 0, iV 0, bV false]) 1 rfl rfl ti38 rfl rfl (RunC.fin (AWP.sq (AWP.sq (AWP.rgC 13 rfl rfl (pu (v := .ptr _ _ _) rfl rfl (fun _ => rfl) ?_)))))))
 obtain ⟨r1, hr1, hR⟩ := bindE hR
 refine cps (res' := iV r1.1) (ups := [(0, boxB (α := spymake_Stream) false r1.2)]) [0] 9 rfl rfl rfl cb13 (ok13 s 8 _ hr1) (.cons (ldP rfl rfl) (.cons (.sc _) .nil)) (pc rfl (.box (.cons ldR' (.cons (.sc _) .nil)) rfl) pn) rfl rfl rfl rfl rfl (by first | rfl | exact renR | exact renA | exact renS | simp only [V.ren, V.rens, renR, renA, renS] | (simp only [V.ren, V.rens, renR, renA, renS]; rfl)) (by simp only [passUps, renBox, renArr]; rfl) (RunC.fin (AWP.block (AWP.sq (AWP.rgC 21 rfl rfl (pS rfl (pS rfl (RunC.fin (AWP.cd hR rfl (fun h2 hR => ?_) fun h2 hR => ?_))))))))
 ·refine AWP.sq (AWP.rgC 29 rfl rfl (bu (cs := [iV 0, iV 0, bV true]) rfl bt38 rfl (stB (cs' := [iV 0, iV 0, bV true]) rfl rfl rfl rfl ti38 rfl rfl rfl rfl rfl (RunC.fin (AWP.ret (rtB (rtT ?_)))))))
  have hR := Option.some.inj hR; subst hR
  exact hQ _ _ (LS.mk [(4, .ptr 1 0 0)] (lblks 0 [boxB (α := spymake_Stream) false r1.2, boxB (α := Bound) true (Bound.mk 0 0 true)]) 2) (aggV (α := Bound) true (Bound.mk 0 0 true)) [] (.inr rfl) (Weak.turnL [(0, 0), (1, 0)] [] rfl rfl (tc (trP' rfl rfl rfl rfl) tn) (mc rfl (.box rfl (.cons trR1 (.cons (.sc _) .nil)) rfl) (mc rfl (.box rfl .z3 rfl) mn))) (ro1 (rvC (v := aggV (α := Bound) true (Bound.mk 0 0 true)) rfl rfl ti38 rfl)) rfl rfl ldA (pc rfl bldB pn)
 ·refine AWP.sq (AWP.rgC 29 rfl rfl (pS rfl (pS rfl (RunC.fin (AWP.cd hR rfl (fun h3 hR => ?_) fun h3 hR => ?_)))))
  ·refine AWP.sq (AWP.rgC 53 rfl rfl (pu (v := .ptr _ _ _) rfl rfl (fun _ => rfl) (pS rfl (pS rfl (pS rfl ?_)))))
   obtain ⟨r4, hr4, hR⟩ := bindE hR
   refine cps (res' := iV r4.1) (ups := [(0, boxB (α := spymake_Stream) false r4.2)]) [0] 45 rfl rfl rfl cb16 (ok16 r1.2 (w6 (0 - most)) most _ hr4) (.cons (ldP rfl rfl) .z2) (pc rfl (.box (.cons ldR' (.cons (.sc _) .nil)) rfl) pn) rfl rfl rfl rfl rfl (by first | rfl | exact renR | exact renA | exact renS | simp only [V.ren, V.rens, renR, renA, renS] | (simp only [V.ren, V.rens, renR, renA, renS]; rfl)) (by simp only [passUps, renBox, renArr]; rfl) (pS rfl (RunC.fin (AWP.sq (AWP.rgC 69 rfl rfl (pS rfl (pS rfl (bu (cs := [iV r4.1, iV r4.1, bV false]) rfl bt38 rfl (stB (cs' := [iV r4.1, iV r4.1, bV false]) rfl rfl rfl rfl ti38 rfl rfl rfl rfl rfl (RunC.fin (AWP.ret (rtB (rtT ?_))))))))))))
   have hR := Option.some.inj hR; subst hR
   exact hQ _ _ (LS.mk [(4, .ptr 1 0 0)] (lblks 0 [boxB (α := spymake_Stream) false r4.2, boxB (α := Bound) true (Bound.mk r4.1 r4.1 false)]) 2) (aggV (α := Bound) true (Bound.mk r4.1 r4.1 false)) [] (.inr rfl) (Weak.turnL [(0, 0), (1, 0)] [] rfl rfl (tc (trP' rfl rfl rfl rfl) tn) (mc rfl (.box rfl (.cons trR1 (.cons (.sc _) .nil)) rfl) (mc rfl (.box rfl .z3 rfl) mn))) (ro1 (rvC (v := aggV (α := Bound) true (Bound.mk r4.1 r4.1 false)) rfl rfl ti38 rfl)) rfl rfl ldA (pc rfl bldB pn)
  ·refine AWP.skip (skB ?_)
   refine skT (AWP.sq (AWP.rgC 77 rfl rfl (pu (v := .ptr _ _ _) rfl rfl (fun _ => rfl) (pS rfl (pS rfl (pS rfl ?_))))))
   obtain ⟨r5, hr5, hR⟩ := bindE hR
   refine cps (res' := iV r5.1) (ups := [(0, boxB (α := spymake_Stream) false r5.2)]) [0] 45 rfl rfl rfl cb16 (ok16 r1.2 (w6 (0 - most)) most _ hr5) (.cons (ldP rfl rfl) .z2) (pc rfl (.box (.cons ldR' (.cons (.sc _) .nil)) rfl) pn) rfl rfl rfl rfl rfl (by first | rfl | exact renR | exact renA | exact renS | simp only [V.ren, V.rens, renR, renA, renS] | (simp only [V.ren, V.rens, renR, renA, renS]; rfl)) (by simp only [passUps, renBox, renArr]; rfl) (pu (v := .ptr _ _ _) rfl rfl (fun _ => rfl) (pS rfl (pS rfl (pS rfl ?_))))
   obtain ⟨r6, hr6, hR⟩ := bindE hR
   refine cps (res' := iV r6.1) (ups := [(0, boxB (α := spymake_Stream) false r6.2)]) [0] 65 rfl rfl rfl cb16 (ok16 r5.2 (w6 (0 - most)) most _ hr6) (.cons (ldP rfl rfl) .z2) (pc rfl (.box (.cons ldR' (.cons (.sc _) .nil)) rfl) pn) rfl rfl rfl rfl rfl (by first | rfl | exact renR | exact renA | exact renS | simp only [V.ren, V.rens, renR, renA, renS] | (simp only [V.ren, V.rens, renR, renA, renS]; rfl)) (by simp only [passUps, renBox, renArr]; rfl) (pS rfl (pS rfl (RunC.fin (AWP.sq (AWP.rgC 109 rfl rfl (pS rfl (pS rfl (pS rfl (pS rfl (pS rfl (pS rfl (bu (cs := [iV (mn2 r5.1 r6.1), iV (mx2 r5.1 r6.1), bV false]) rfl bt38 rfl (stB (cs' := [iV (mn2 r5.1 r6.1), iV (mx2 r5.1 r6.1), bV false]) rfl rfl rfl rfl ti38 rfl rfl rfl rfl rfl (RunC.fin (AWP.ret ?_)))))))))))))))
   have hR := Option.some.inj hR; subst hR
   exact hQ _ _ (LS.mk [(4, .ptr 1 0 0)] (lblks 0 [boxB (α := spymake_Stream) false r6.2, boxB (α := Bound) true (Bound.mk (mn2 r5.1 r6.1) (mx2 r5.1 r6.1) false)]) 2) (aggV (α := Bound) true (Bound.mk (mn2 r5.1 r6.1) (mx2 r5.1 r6.1) false)) [] (.inr rfl) (Weak.turnL [(0, 0), (1, 0)] [] rfl rfl (tc (trP' rfl rfl rfl rfl) tn) (mc rfl (.box rfl (.cons trR1 (.cons (.sc _) .nil)) rfl) (mc rfl (.box rfl .z3 rfl) mn))) (ro1 (rvC (v := aggV (α := Bound) true (Bound.mk (mn2 r5.1 r6.1) (mx2 r5.1 r6.1) false)) rfl rfl ti38 rfl)) rfl rfl ldA (pc rfl bldB pn)
end Go.Proofs.Arw
