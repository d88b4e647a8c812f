/- Each function of the program computes its plain function. Conditions: as each theorem states them. -/
import Derived.Test.YtjbkficonmncgaaT
import Derived.Test.YtjbkficonmncgaaP1
namespace Go.Proofs.Pho
open Go Go.Abs Lf
set_option linter.unusedVariables false
set_option linter.unusedSimpArgs false
set_option maxRecDepth 100000
set_option maxHeartbeats 1000000
theorem ok7 (v : Vec) (p1 : spymake_Stream) (p2 : Int) (r : (Bound × Bound × Bound) × spymake_Stream) (hR : spykeep4_PredictHolds_1 v p1 p2 = some r) : FnD Try.prog 7 [boxB false p1, .box [.ptr 0 0 0]] [aggV false v, .ptr 1 0 0, .rp (Cl.c false p2)] (aggV (α := Bound × Bound × Bound) true r.1) [boxB false r.2, .box [.ptr 0 0 0]] := by
  refine FnX.walk Try.func7 rfl 55 2 (by simp [Try.ntmps7]) rfl fun W S F Q hQ => ?_
  unfold spykeep4_PredictHolds_1 at hR
  refine AWP.sq ?_
  refine AWP.rgC 10 rfl rfl ?_
  refine bx (cs := _) 2 rfl rfl rfl ?_
  refine al (cs := [.sc (.int .i64 0), .sc (.int .i64 0), .sc (.bool false), .sc (.int .i64 0), .sc (.int .i64 0), .sc (.bool false), .sc (.int .i64 0), .sc (.int .i64 0), .sc (.bool false)]) 6 rfl rfl ti38 rfl rfl ?_
  refine RunC.fin ?_
  refine AWP.sq ?_
  refine AWP.rgD 38 [0, 0, 0, 4, 15, 0, 63] ⟨[4], [some [1], some [2], some [], none, some [0], none, some [30]]⟩ hmix (by kernel_rfl) rfl rfl ?_
  refine ldB (v := .ptr _ _ _) rfl rfl rfl rfl ti23 rfl rfl ?_
  refine ldB (v := .agg _) rfl rfl rfl rfl ti27 rfl rfl ?_
  refine ldR (v := .sc _) rfl rfl ti3 rfl ?_
  obtain ⟨r1, hr1, hR⟩ := bindE hR
  refine cls [] rfl rfl cb6 (ok6 p2 5000 _ hr1) (.cons (.sc _) (.cons (.sc _) (.nil))) (.inr rfl) rfl ?_
  obtain ⟨r2, hr2, hR⟩ := bindE hR
  refine cps (res' := aggV (α := Box) true r2.1) (ups := [(0, boxB (α := spymake_Stream) false r2.2)]) [0] 26 rfl rfl rfl cb8 (ok8 p1 v r1 _ hr2) (.cons (ldP rfl rfl) (.cons (.agg (.cons (.sc _) (.cons (.sc _) (.cons (.sc _) (.nil)))) rfl) (.cons (.sc _) (.nil)))) (pc rfl (.box (.cons ldR' (.cons (.sc _) (.nil))) rfl) pn) rfl rfl rfl rfl rfl (by first | rfl | exact renR | exact renA | exact renS | simp only [V.ren, V.rens, renR, renA, renS] | (simp only [V.ren, V.rens, renR, renA, renS]; rfl)) (by simp only [passUps, renBox, renArr]; rfl) ?_
  refine al (cs := [.sc (.int .i64 0), .sc (.int .i64 0), .sc (.bool false), .sc (.int .i64 0), .sc (.int .i64 0), .sc (.bool false), .sc (.int .i64 0), .sc (.int .i64 0), .sc (.bool false)]) 30 rfl rfl ti40 rfl rfl ?_
  refine stB (cs' := [.sc (.int .i64 r2.1.X.Lo), .sc (.int .i64 r2.1.X.Hi), .sc (.bool r2.1.X.Unknown), .sc (.int .i64 r2.1.Y.Lo), .sc (.int .i64 r2.1.Y.Hi), .sc (.bool r2.1.Y.Unknown), .sc (.int .i64 r2.1.Z.Lo), .sc (.int .i64 r2.1.Z.Hi), .sc (.bool r2.1.Z.Unknown)]) rfl rfl rfl rfl ti40 rfl rfl rfl rfl rfl ?_
  refine RunC.fin ?_
  refine AWP.sq ?_
  refine AWP.rgC 54 rfl rfl ?_
  refine ldB (v := .agg _) rfl rfl rfl rfl ti27 rfl rfl ?_
  obtain ⟨r3, hr3, hR⟩ := bindE hR
  refine cls [] rfl rfl cb9 (ok9 v _ hr3) (.cons (.agg (.cons (.sc _) (.cons (.sc _) (.cons (.sc _) (.nil)))) rfl) (.nil)) (.inr rfl) rfl ?_
  refine al (cs := [.sc (.int .i64 0), .sc (.int .i64 0), .sc (.bool false), .sc (.int .i64 0), .sc (.int .i64 0), .sc (.bool false), .sc (.int .i64 0), .sc (.int .i64 0), .sc (.bool false)]) 46 rfl rfl ti38 rfl rfl ?_
  refine stB (cs' := [.sc (.int .i64 r3.1.Lo), .sc (.int .i64 r3.1.Hi), .sc (.bool r3.1.Unknown), .sc (.int .i64 r3.2.1.Lo), .sc (.int .i64 r3.2.1.Hi), .sc (.bool r3.2.1.Unknown), .sc (.int .i64 r3.2.2.Lo), .sc (.int .i64 r3.2.2.Hi), .sc (.bool r3.2.2.Unknown)]) rfl rfl rfl rfl ti38 rfl rfl rfl rfl rfl ?_
  refine RunC.fin ?_
  refine AWP.sq ?_
  refine AWP.sq ?_
  refine AWP.rgC 86 rfl rfl ?_
  refine fa rfl rfl ti40 rfl rfl ti36 rfl ?_
  refine ldB (v := .agg _) rfl rfl rfl rfl ti36 rfl rfl ?_
  refine fa rfl rfl ti40 rfl rfl ti36 rfl ?_
  refine ldB (v := .agg _) rfl rfl rfl rfl ti36 rfl rfl ?_
  refine fa rfl rfl ti40 rfl rfl ti36 rfl ?_
  refine ldB (v := .agg _) rfl rfl rfl rfl ti36 rfl rfl ?_
  refine buA (cs := [.sc (.int .i64 r2.1.X.Lo), .sc (.int .i64 r2.1.X.Hi), .sc (.bool r2.1.X.Unknown), .sc (.int .i64 r2.1.Y.Lo), .sc (.int .i64 r2.1.Y.Hi), .sc (.bool r2.1.Y.Unknown), .sc (.int .i64 r2.1.Z.Lo), .sc (.int .i64 r2.1.Z.Hi), .sc (.bool r2.1.Z.Unknown)]) rfl ti37 rfl ti36 rfl rfl ?_
  refine pu (v := .sc _) rfl rfl (fun _ => rfl) ?_
  refine RunC.fin ?_
  refine AWP.loopJ (fun s4 : (Bound × Bound × Bound) × Int => LS.mk [(4, .ptr 2 0 0), (6, .ptr 3 0 0), (23, aggV (α := Bound × Bound × Bound) true (r2.1.X, r2.1.Y, r2.1.Z)), (24, .sc (.int .i64 s4.2))] (lblks 0 [boxB (α := spymake_Stream) false r2.2, .box [.ptr 0 0 0], boxB (α := Bound × Bound × Bound) true (Bound.mk 0 0 false, Bound.mk 0 0 false, Bound.mk 0 0 false), boxB (α := Bound × Bound × Bound) true s4.1]) 4) (fun z5 : (Bound × Bound × Bound) => LS.mk [(4, .ptr 2 0 0), (6, .ptr 3 0 0)] (lblks 0 [boxB (α := spymake_Stream) false r2.2, .box [.ptr 0 0 0], boxB (α := Bound × Bound × Bound) true (Bound.mk 0 0 false, Bound.mk 0 0 false, Bound.mk 0 0 false), boxB (α := Bound × Bound × Bound) true z5]) 4) (spykeep4_PredictHolds_1.l1 r2) hR (s0 := (r3, 0)) (Weak.turnL [(0, 0), (1, 0), (6, 0), (46, 0)] [] rfl rfl (tc (trP' rfl rfl rfl rfl) (tc (trP' rfl rfl rfl rfl) (tc (.agg (.cons (.sc _) (.cons (.sc _) (.cons (.sc _) (.cons (.sc _) (.cons (.sc _) (.cons (.sc _) (.cons (.sc _) (.cons (.sc _) (.cons (.sc _) (.nil)))))))))) rfl) (tc (.sc _) tn)))) (mc rfl (.box rfl (.cons trR1 (.cons (.sc _) (.nil))) rfl) (mc rfl (.box rfl (.cons (trP' rfl rfl rfl rfl) (.nil)) rfl) (mc rfl (.box rfl (.cons (.sc _) (.cons (.sc _) (.cons (.sc _) (.cons (.sc _) (.cons (.sc _) (.cons (.sc _) (.cons (.sc _) (.cons (.sc _) (.cons (.sc _) (.nil)))))))))) rfl) (mc rfl (.box rfl (.cons (.sc _) (.cons (.sc _) (.cons (.sc _) (.cons (.sc _) (.cons (.sc _) (.cons (.sc _) (.cons (.sc _) (.cons (.sc _) (.cons (.sc _) (.nil)))))))))) rfl) mn))))) (fun s4 o4 hR => ?_) fun z5 hR => ?_
  · unfold spykeep4_PredictHolds_1.l1 at hR
    refine AWP.sq ?_
    refine AWP.rgC 8 rfl rfl ?_
    refine pu (v := .sc _) rfl rfl (fun _ => rfl) ?_
    refine RunC.fin ?_
    refine AWP.sq ?_
    refine AWP.cd hR rfl (fun h6 hR => ?_) fun h6 hR => ?_
    · refine AWP.skip ?_
      refine skT ?_
      refine AWP.sq ?_
      refine AWP.block ?_
      refine AWP.sq ?_
      refine AWP.rgC 28 rfl rfl ?_
      refine pu (v := .sc _) rfl rfl (fun _ => rfl) ?_
      obtain ⟨h7, hR⟩ := chkE hR
      refine ixD (α := Bound) (nw := true) (xs := ([r2.1.X, r2.1.Y, r2.1.Z] : List Bound)) (v := .agg _) rfl rfl rfl rfl ti37 rfl ti36 h7 rfl rfl rfl ?_
      refine al (cs := [.sc (.int .i64 0), .sc (.int .i64 0), .sc (.bool false)]) 16 rfl rfl ti36 rfl rfl ?_
      refine pu (v := .sc _) rfl rfl (fun _ => rfl) ?_
      refine stB (cs' := [.sc (.int .i64 (gt ([r2.1.X, r2.1.Y, r2.1.Z] : List Bound) s4.2).Lo), .sc (.int .i64 (gt ([r2.1.X, r2.1.Y, r2.1.Z] : List Bound) s4.2).Hi), .sc (.bool (gt ([r2.1.X, r2.1.Y, r2.1.Z] : List Bound) s4.2).Unknown)]) rfl rfl rfl rfl ti36 rfl rfl rfl rfl rfl ?_
      refine RunC.fin ?_
      refine AWP.sq ?_
      refine AWP.rgC 56 rfl rfl ?_
      refine fa rfl rfl ti36 rfl rfl ti34 rfl ?_
      refine ldB (v := .sc _) rfl rfl rfl rfl ti34 rfl rfl ?_
      refine fa rfl rfl ti36 rfl rfl ti34 rfl ?_
      refine ldB (v := .sc _) rfl rfl rfl rfl ti34 rfl rfl ?_
      obtain ⟨v8, ev8, hR⟩ := letE hR
      refine pu (v := .sc _) rfl rfl (fun _ => puI ev8) ?_
      refine qu rfl rfl rfl (by decide) rfl ?_
      refine pu (v := .sc _) rfl rfl (fun _ => rfl) ?_
      refine RunC.fin ?_
      refine AWP.rgD 140 [0, 0, 0, 4, 12, 28, 0, 124, 0, 256, 768, 1792, 0, 4096, 16128, 4093, 36861, 102397, 262143, 524287, 1048575] ⟨[], [none, none, none, none, none, some [3], none, none, none, none, none, some [3], none, none, none, none, none, some [3], none, none, some [3]]⟩ hmix (by kernel_rfl) rfl rfl ?_
      refine pu (v := .sc _) rfl rfl (fun _ => rfl) ?_
      refine pu (v := .sc _) rfl rfl (fun _ => rfl) ?_
      refine pu (v := .sc _) rfl rfl (fun _ => rfl) ?_
      obtain ⟨h9, hR⟩ := chkE hR
      refine iaP (o' := 0 + s4.2.toNat * Cl.e Bound + 0) rfl rfl rfl ti38 rfl ti36 h9 rfl ?_
      refine fa rfl rfl ti36 rfl rfl ti34 rfl ?_
      refine ldD (α := Bound) (nw := true) (pre := []) (post := []) (xs := ([s4.1.1, s4.1.2.1, s4.1.2.2] : List Bound)) (m := s4.2.toNat) (off := 0) (v := .sc _) rfl rfl rfl rfl rfl rfl (ixlt h9) ti34 rfl rfl rfl rfl ?_
      refine pu (v := .sc _) rfl rfl (fun _ => rfl) ?_
      obtain ⟨v10, ev10, hR⟩ := letE hR
      refine pu (v := .sc _) rfl rfl (fun _ => puI ev10) ?_
      refine pu (v := .sc _) rfl rfl (fun _ => rfl) ?_
      refine iaP (o' := 0 + s4.2.toNat * Cl.e Bound + 0) rfl rfl rfl ti38 rfl ti36 h9 rfl ?_
      refine fa rfl rfl ti36 rfl rfl ti34 rfl ?_
      refine ldD (α := Bound) (nw := true) (pre := []) (post := []) (xs := ([s4.1.1, s4.1.2.1, s4.1.2.2] : List Bound)) (m := s4.2.toNat) (off := 1) (v := .sc _) rfl rfl rfl rfl rfl rfl (ixlt h9) ti34 rfl rfl rfl rfl ?_
      refine pu (v := .sc _) rfl rfl (fun _ => rfl) ?_
      refine qu rfl rfl rfl (by decide) rfl ?_
      obtain ⟨v11, ev11, hR⟩ := letE hR
      refine pu (v := .sc _) rfl rfl (fun _ => puI ev11) ?_
      refine iaP (o' := 0 + s4.2.toNat * Cl.e Bound + 0) rfl rfl rfl ti38 rfl ti36 h9 rfl ?_
      refine fa rfl rfl ti36 rfl rfl ti34 rfl ?_
      obtain ⟨v12, ev12, hR⟩ := letE hR
      refine stD (α := Bound) (nw := true) (pre := []) (post := []) (xs := ([s4.1.1, s4.1.2.1, s4.1.2.2] : List Bound)) (m := s4.2.toNat) (off := 0) (ys := [gt v12 0, gt v12 1, gt v12 2]) (y := Bound.mk v10 (gt ([s4.1.1, s4.1.2.1, s4.1.2.2] : List Bound) s4.2).Hi (gt ([s4.1.1, s4.1.2.1, s4.1.2.2] : List Bound) s4.2).Unknown) (cs' := [.sc (.int .i64 (gt v12 0).Lo), .sc (.int .i64 (gt v12 0).Hi), .sc (.bool (gt v12 0).Unknown), .sc (.int .i64 (gt v12 1).Lo), .sc (.int .i64 (gt v12 1).Hi), .sc (.bool (gt v12 1).Unknown), .sc (.int .i64 (gt v12 2).Lo), .sc (.int .i64 (gt v12 2).Hi), .sc (.bool (gt v12 2).Unknown)]) rfl rfl rfl rfl rfl rfl (ixlt h9) ti34 rfl rfl rfl rfl (etaS ev12 rfl rfl) rfl rfl ?_
      obtain ⟨h13, hR⟩ := chkE hR
      refine iaP (o' := 0 + s4.2.toNat * Cl.e Bound + 0) rfl rfl rfl ti38 rfl ti36 h13 rfl ?_
      refine fa rfl rfl ti36 rfl rfl ti34 rfl ?_
      obtain ⟨v14, ev14, hR⟩ := letE hR
      refine stD (α := Bound) (nw := true) (pre := []) (post := []) (xs := ([(gt v12 0), (gt v12 1), (gt v12 2)] : List Bound)) (m := s4.2.toNat) (off := 1) (ys := [gt v14 0, gt v14 1, gt v14 2]) (y := Bound.mk (gt ([(gt v12 0), (gt v12 1), (gt v12 2)] : List Bound) s4.2).Lo v11 (gt ([(gt v12 0), (gt v12 1), (gt v12 2)] : List Bound) s4.2).Unknown) (cs' := [.sc (.int .i64 (gt v14 0).Lo), .sc (.int .i64 (gt v14 0).Hi), .sc (.bool (gt v14 0).Unknown), .sc (.int .i64 (gt v14 1).Lo), .sc (.int .i64 (gt v14 1).Hi), .sc (.bool (gt v14 1).Unknown), .sc (.int .i64 (gt v14 2).Lo), .sc (.int .i64 (gt v14 2).Hi), .sc (.bool (gt v14 2).Unknown)]) rfl rfl rfl rfl rfl rfl (ixlt h13) ti34 rfl rfl rfl rfl (etaS ev14 rfl rfl) rfl rfl ?_
      refine RunC.blk ?_
      refine RunC.fin ?_
      refine AWP.rgC 148 rfl rfl ?_
      refine pu (v := .sc _) rfl rfl (fun _ => rfl) ?_
      refine pu (v := .sc _) rfl rfl (fun _ => rfl) ?_
      refine RunC.fin ?_
      refine ⟨((gt v14 0, gt v14 1, gt v14 2), w6 (s4.2 + 1)), (Option.some.inj hR).symm, ?_⟩
      exact Weak.turnL [(0, 0), (1, 0), (2, 0), (3, 0)] [] rfl rfl (tc (trP' rfl rfl rfl rfl) (tc (trP' rfl rfl rfl rfl) (tc (.agg (.cons (.sc _) (.cons (.sc _) (.cons (.sc _) (.cons (.sc _) (.cons (.sc _) (.cons (.sc _) (.cons (.sc _) (.cons (.sc _) (.cons (.sc _) (.nil)))))))))) rfl) (tc (.sc _) tn)))) (mc rfl (.box rfl (.cons trR1 (.cons (.sc _) (.nil))) rfl) (mc rfl (.box rfl (.cons (trP' rfl rfl rfl rfl) (.nil)) rfl) (mc rfl (.box rfl (.cons (.sc _) (.cons (.sc _) (.cons (.sc _) (.cons (.sc _) (.cons (.sc _) (.cons (.sc _) (.cons (.sc _) (.cons (.sc _) (.cons (.sc _) (.nil)))))))))) rfl) (mc rfl (.box rfl (.cons (.sc _) (.cons (.sc _) (.cons (.sc _) (.cons (.sc _) (.cons (.sc _) (.cons (.sc _) (.cons (.sc _) (.cons (.sc _) (.cons (.sc _) (.nil)))))))))) rfl) mn))))
    · refine AWP.exit ?_
      refine exT ?_
      refine exT ?_
      refine exH (skT ?_)
      refine ⟨s4.1, (Option.some.inj hR).symm, ?_⟩
      exact Weak.turnL [(0, 0), (1, 0), (2, 0), (3, 0)] [] rfl rfl (tc (trP' rfl rfl rfl rfl) (tc (trP' rfl rfl rfl rfl) tn)) (mc rfl (.box rfl (.cons trR1 (.cons (.sc _) (.nil))) rfl) (mc rfl (.box rfl (.cons (trP' rfl rfl rfl rfl) (.nil)) rfl) (mc rfl (.box rfl (.cons (.sc _) (.cons (.sc _) (.cons (.sc _) (.cons (.sc _) (.cons (.sc _) (.cons (.sc _) (.cons (.sc _) (.cons (.sc _) (.cons (.sc _) (.nil)))))))))) rfl) (mc rfl (.box rfl (.cons (.sc _) (.cons (.sc _) (.cons (.sc _) (.cons (.sc _) (.cons (.sc _) (.cons (.sc _) (.cons (.sc _) (.cons (.sc _) (.cons (.sc _) (.nil)))))))))) rfl) mn))))
  · refine skT ?_
    refine AWP.sq ?_
    refine AWP.rgC 12 rfl rfl ?_
    refine ldB (v := .agg _) rfl rfl rfl rfl ti38 rfl rfl ?_
    refine stB (cs' := [.sc (.int .i64 z5.1.Lo), .sc (.int .i64 z5.1.Hi), .sc (.bool z5.1.Unknown), .sc (.int .i64 z5.2.1.Lo), .sc (.int .i64 z5.2.1.Hi), .sc (.bool z5.2.1.Unknown), .sc (.int .i64 z5.2.2.Lo), .sc (.int .i64 z5.2.2.Hi), .sc (.bool z5.2.2.Unknown)]) rfl rfl rfl rfl ti38 rfl rfl rfl rfl rfl ?_
    refine RunC.fin ?_
    refine AWP.ret ?_
    have hR := Option.some.inj hR; subst hR
    exact hQ _ _ (LS.mk [(4, .ptr 2 0 0)] (lblks 0 [boxB (α := spymake_Stream) false r2.2, .box [.ptr 0 0 0], boxB (α := Bound × Bound × Bound) true z5]) 3) (aggV (α := Bound × Bound × Bound) true z5) [] (.inr rfl) (Weak.turnL [(0, 0), (1, 0), (2, 0)] [] rfl rfl (tc (trP' rfl rfl rfl rfl) tn) (mc rfl (.box rfl (.cons trR1 (.cons (.sc _) (.nil))) rfl) (mc rfl (.box rfl (.cons (trP' rfl rfl rfl rfl) (.nil)) rfl) (mc rfl (.box rfl (.cons (.sc _) (.cons (.sc _) (.cons (.sc _) (.cons (.sc _) (.cons (.sc _) (.cons (.sc _) (.cons (.sc _) (.cons (.sc _) (.cons (.sc _) (.nil)))))))))) rfl) mn)))) (ro1 (rvC (v := aggV (α := Bound × Bound × Bound) true z5) rfl rfl ti38 rfl)) rfl rfl ldA (pc rfl bldB (pc rfl (.box (.cons (ldP rfl rfl) .nil) rfl) pn))
theorem ok7_60 (v : Vec) (p1 : spymake_Stream) (p2 : Int) (r : (Bound × Bound × Bound) × spymake_Stream) (hR : spykeep4_PredictHolds_1 v p1 p2 = some r) : FnD Try.prog 7 [boxB false p1, .box [.ptr 0 0 0], boxB false p2] [aggV false v, .ptr 1 0 0, .ptr 2 0 0] (aggV (α := Bound × Bound × Bound) true r.1) [boxB false r.2, .box [.ptr 0 0 0], boxB false p2] := by
  refine FnX.walk Try.func7 rfl 55 3 (by simp [Try.ntmps7]) rfl fun W S F Q hQ => ?_
  unfold spykeep4_PredictHolds_1 at hR
  refine AWP.sq ?_
  refine AWP.rgC 11 rfl rfl ?_
  refine bx (cs := _) 3 rfl rfl rfl ?_
  refine al (cs := [.sc (.int .i64 0), .sc (.int .i64 0), .sc (.bool false), .sc (.int .i64 0), .sc (.int .i64 0), .sc (.bool false), .sc (.int .i64 0), .sc (.int .i64 0), .sc (.bool false)]) 7 rfl rfl ti38 rfl rfl ?_
  refine RunC.fin ?_
  refine AWP.sq ?_
  refine AWP.rgD 39 [0, 0, 0, 4, 15, 0, 63] ⟨[4], [some [1], some [3], some [2], none, some [0], none, some [31]]⟩ hmix (by kernel_rfl) rfl rfl ?_
  refine ldB (v := .ptr _ _ _) rfl rfl rfl rfl ti23 rfl rfl ?_
  refine ldB (v := .agg _) rfl rfl rfl rfl ti27 rfl rfl ?_
  refine ldB (v := .sc _) rfl rfl rfl rfl ti3 rfl rfl ?_
  obtain ⟨r1, hr1, hR⟩ := bindE hR
  refine cls [] rfl rfl cb6 (ok6 p2 5000 _ hr1) (.cons (.sc _) (.cons (.sc _) (.nil))) (.inr rfl) rfl ?_
  obtain ⟨r2, hr2, hR⟩ := bindE hR
  refine cps (res' := aggV (α := Box) true r2.1) (ups := [(0, boxB (α := spymake_Stream) false r2.2)]) [0] 27 rfl rfl rfl cb8 (ok8 p1 v r1 _ hr2) (.cons (ldP rfl rfl) (.cons (.agg (.cons (.sc _) (.cons (.sc _) (.cons (.sc _) (.nil)))) rfl) (.cons (.sc _) (.nil)))) (pc rfl (.box (.cons ldR' (.cons (.sc _) (.nil))) rfl) pn) rfl rfl rfl rfl rfl (by first | rfl | exact renR | exact renA | exact renS | simp only [V.ren, V.rens, renR, renA, renS] | (simp only [V.ren, V.rens, renR, renA, renS]; rfl)) (by simp only [passUps, renBox, renArr]; rfl) ?_
  refine al (cs := [.sc (.int .i64 0), .sc (.int .i64 0), .sc (.bool false), .sc (.int .i64 0), .sc (.int .i64 0), .sc (.bool false), .sc (.int .i64 0), .sc (.int .i64 0), .sc (.bool false)]) 31 rfl rfl ti40 rfl rfl ?_
  refine stB (cs' := [.sc (.int .i64 r2.1.X.Lo), .sc (.int .i64 r2.1.X.Hi), .sc (.bool r2.1.X.Unknown), .sc (.int .i64 r2.1.Y.Lo), .sc (.int .i64 r2.1.Y.Hi), .sc (.bool r2.1.Y.Unknown), .sc (.int .i64 r2.1.Z.Lo), .sc (.int .i64 r2.1.Z.Hi), .sc (.bool r2.1.Z.Unknown)]) rfl rfl rfl rfl ti40 rfl rfl rfl rfl rfl ?_
  refine RunC.fin ?_
  refine AWP.sq ?_
  refine AWP.rgC 55 rfl rfl ?_
  refine ldB (v := .agg _) rfl rfl rfl rfl ti27 rfl rfl ?_
  obtain ⟨r3, hr3, hR⟩ := bindE hR
  refine cls [] rfl rfl cb9 (ok9 v _ hr3) (.cons (.agg (.cons (.sc _) (.cons (.sc _) (.cons (.sc _) (.nil)))) rfl) (.nil)) (.inr rfl) rfl ?_
  refine al (cs := [.sc (.int .i64 0), .sc (.int .i64 0), .sc (.bool false), .sc (.int .i64 0), .sc (.int .i64 0), .sc (.bool false), .sc (.int .i64 0), .sc (.int .i64 0), .sc (.bool false)]) 47 rfl rfl ti38 rfl rfl ?_
  refine stB (cs' := [.sc (.int .i64 r3.1.Lo), .sc (.int .i64 r3.1.Hi), .sc (.bool r3.1.Unknown), .sc (.int .i64 r3.2.1.Lo), .sc (.int .i64 r3.2.1.Hi), .sc (.bool r3.2.1.Unknown), .sc (.int .i64 r3.2.2.Lo), .sc (.int .i64 r3.2.2.Hi), .sc (.bool r3.2.2.Unknown)]) rfl rfl rfl rfl ti38 rfl rfl rfl rfl rfl ?_
  refine RunC.fin ?_
  refine AWP.sq ?_
  refine AWP.sq ?_
  refine AWP.rgC 87 rfl rfl ?_
  refine fa rfl rfl ti40 rfl rfl ti36 rfl ?_
  refine ldB (v := .agg _) rfl rfl rfl rfl ti36 rfl rfl ?_
  refine fa rfl rfl ti40 rfl rfl ti36 rfl ?_
  refine ldB (v := .agg _) rfl rfl rfl rfl ti36 rfl rfl ?_
  refine fa rfl rfl ti40 rfl rfl ti36 rfl ?_
  refine ldB (v := .agg _) rfl rfl rfl rfl ti36 rfl rfl ?_
  refine buA (cs := [.sc (.int .i64 r2.1.X.Lo), .sc (.int .i64 r2.1.X.Hi), .sc (.bool r2.1.X.Unknown), .sc (.int .i64 r2.1.Y.Lo), .sc (.int .i64 r2.1.Y.Hi), .sc (.bool r2.1.Y.Unknown), .sc (.int .i64 r2.1.Z.Lo), .sc (.int .i64 r2.1.Z.Hi), .sc (.bool r2.1.Z.Unknown)]) rfl ti37 rfl ti36 rfl rfl ?_
  refine pu (v := .sc _) rfl rfl (fun _ => rfl) ?_
  refine RunC.fin ?_
  refine AWP.loopJ (fun s4 : (Bound × Bound × Bound) × Int => LS.mk [(4, .ptr 3 0 0), (6, .ptr 4 0 0), (23, aggV (α := Bound × Bound × Bound) true (r2.1.X, r2.1.Y, r2.1.Z)), (24, .sc (.int .i64 s4.2))] (lblks 0 [boxB (α := spymake_Stream) false r2.2, .box [.ptr 0 0 0], boxB (α := Int) true p2, boxB (α := Bound × Bound × Bound) true (Bound.mk 0 0 false, Bound.mk 0 0 false, Bound.mk 0 0 false), boxB (α := Bound × Bound × Bound) true s4.1]) 5) (fun z5 : (Bound × Bound × Bound) => LS.mk [(4, .ptr 3 0 0), (6, .ptr 4 0 0)] (lblks 0 [boxB (α := spymake_Stream) false r2.2, .box [.ptr 0 0 0], boxB (α := Int) true p2, boxB (α := Bound × Bound × Bound) true (Bound.mk 0 0 false, Bound.mk 0 0 false, Bound.mk 0 0 false), boxB (α := Bound × Bound × Bound) true z5]) 5) (spykeep4_PredictHolds_1.l1 r2) hR (s0 := (r3, 0)) (Weak.turnL [(0, 0), (1, 0), (2, 0), (7, 0), (47, 0)] [] rfl rfl (tc (trP' rfl rfl rfl rfl) (tc (trP' rfl rfl rfl rfl) (tc (.agg (.cons (.sc _) (.cons (.sc _) (.cons (.sc _) (.cons (.sc _) (.cons (.sc _) (.cons (.sc _) (.cons (.sc _) (.cons (.sc _) (.cons (.sc _) (.nil)))))))))) rfl) (tc (.sc _) tn)))) (mc rfl (.box rfl (.cons trR1 (.cons (.sc _) (.nil))) rfl) (mc rfl (.box rfl (.cons (trP' rfl rfl rfl rfl) (.nil)) rfl) (mc rfl (.box rfl (.cons (.sc _) (.nil)) rfl) (mc rfl (.box rfl (.cons (.sc _) (.cons (.sc _) (.cons (.sc _) (.cons (.sc _) (.cons (.sc _) (.cons (.sc _) (.cons (.sc _) (.cons (.sc _) (.cons (.sc _) (.nil)))))))))) rfl) (mc rfl (.box rfl (.cons (.sc _) (.cons (.sc _) (.cons (.sc _) (.cons (.sc _) (.cons (.sc _) (.cons (.sc _) (.cons (.sc _) (.cons (.sc _) (.cons (.sc _) (.nil)))))))))) rfl) mn)))))) (fun s4 o4 hR => ?_) fun z5 hR => ?_
  · unfold spykeep4_PredictHolds_1.l1 at hR
    refine AWP.sq ?_
    refine AWP.rgC 9 rfl rfl ?_
    refine pu (v := .sc _) rfl rfl (fun _ => rfl) ?_
    refine RunC.fin ?_
    refine AWP.sq ?_
    refine AWP.cd hR rfl (fun h6 hR => ?_) fun h6 hR => ?_
    · refine AWP.skip ?_
      refine skT ?_
      refine AWP.sq ?_
      refine AWP.block ?_
      refine AWP.sq ?_
      refine AWP.rgC 29 rfl rfl ?_
      refine pu (v := .sc _) rfl rfl (fun _ => rfl) ?_
      obtain ⟨h7, hR⟩ := chkE hR
      refine ixD (α := Bound) (nw := true) (xs := ([r2.1.X, r2.1.Y, r2.1.Z] : List Bound)) (v := .agg _) rfl rfl rfl rfl ti37 rfl ti36 h7 rfl rfl rfl ?_
      refine al (cs := [.sc (.int .i64 0), .sc (.int .i64 0), .sc (.bool false)]) 17 rfl rfl ti36 rfl rfl ?_
      refine pu (v := .sc _) rfl rfl (fun _ => rfl) ?_
      refine stB (cs' := [.sc (.int .i64 (gt ([r2.1.X, r2.1.Y, r2.1.Z] : List Bound) s4.2).Lo), .sc (.int .i64 (gt ([r2.1.X, r2.1.Y, r2.1.Z] : List Bound) s4.2).Hi), .sc (.bool (gt ([r2.1.X, r2.1.Y, r2.1.Z] : List Bound) s4.2).Unknown)]) rfl rfl rfl rfl ti36 rfl rfl rfl rfl rfl ?_
      refine RunC.fin ?_
      refine AWP.sq ?_
      refine AWP.rgC 57 rfl rfl ?_
      refine fa rfl rfl ti36 rfl rfl ti34 rfl ?_
      refine ldB (v := .sc _) rfl rfl rfl rfl ti34 rfl rfl ?_
      refine fa rfl rfl ti36 rfl rfl ti34 rfl ?_
      refine ldB (v := .sc _) rfl rfl rfl rfl ti34 rfl rfl ?_
      obtain ⟨v8, ev8, hR⟩ := letE hR
      refine pu (v := .sc _) rfl rfl (fun _ => puI ev8) ?_
      refine qu rfl rfl rfl (by decide) rfl ?_
      refine pu (v := .sc _) rfl rfl (fun _ => rfl) ?_
      refine RunC.fin ?_
      refine AWP.rgD 141 [0, 0, 0, 4, 12, 28, 0, 124, 0, 256, 768, 1792, 0, 4096, 16128, 4093, 36861, 102397, 262143, 524287, 1048575] ⟨[], [none, none, none, none, none, some [4], none, none, none, none, none, some [4], none, none, none, none, none, some [4], none, none, some [4]]⟩ hmix (by kernel_rfl) rfl rfl ?_
      refine pu (v := .sc _) rfl rfl (fun _ => rfl) ?_
      refine pu (v := .sc _) rfl rfl (fun _ => rfl) ?_
      refine pu (v := .sc _) rfl rfl (fun _ => rfl) ?_
      obtain ⟨h9, hR⟩ := chkE hR
      refine iaP (o' := 0 + s4.2.toNat * Cl.e Bound + 0) rfl rfl rfl ti38 rfl ti36 h9 rfl ?_
      refine fa rfl rfl ti36 rfl rfl ti34 rfl ?_
      refine ldD (α := Bound) (nw := true) (pre := []) (post := []) (xs := ([s4.1.1, s4.1.2.1, s4.1.2.2] : List Bound)) (m := s4.2.toNat) (off := 0) (v := .sc _) rfl rfl rfl rfl rfl rfl (ixlt h9) ti34 rfl rfl rfl rfl ?_
      refine pu (v := .sc _) rfl rfl (fun _ => rfl) ?_
      obtain ⟨v10, ev10, hR⟩ := letE hR
      refine pu (v := .sc _) rfl rfl (fun _ => puI ev10) ?_
      refine pu (v := .sc _) rfl rfl (fun _ => rfl) ?_
      refine iaP (o' := 0 + s4.2.toNat * Cl.e Bound + 0) rfl rfl rfl ti38 rfl ti36 h9 rfl ?_
      refine fa rfl rfl ti36 rfl rfl ti34 rfl ?_
      refine ldD (α := Bound) (nw := true) (pre := []) (post := []) (xs := ([s4.1.1, s4.1.2.1, s4.1.2.2] : List Bound)) (m := s4.2.toNat) (off := 1) (v := .sc _) rfl rfl rfl rfl rfl rfl (ixlt h9) ti34 rfl rfl rfl rfl ?_
      refine pu (v := .sc _) rfl rfl (fun _ => rfl) ?_
      refine qu rfl rfl rfl (by decide) rfl ?_
      obtain ⟨v11, ev11, hR⟩ := letE hR
      refine pu (v := .sc _) rfl rfl (fun _ => puI ev11) ?_
      refine iaP (o' := 0 + s4.2.toNat * Cl.e Bound + 0) rfl rfl rfl ti38 rfl ti36 h9 rfl ?_
      refine fa rfl rfl ti36 rfl rfl ti34 rfl ?_
      obtain ⟨v12, ev12, hR⟩ := letE hR
      refine stD (α := Bound) (nw := true) (pre := []) (post := []) (xs := ([s4.1.1, s4.1.2.1, s4.1.2.2] : List Bound)) (m := s4.2.toNat) (off := 0) (ys := [gt v12 0, gt v12 1, gt v12 2]) (y := Bound.mk v10 (gt ([s4.1.1, s4.1.2.1, s4.1.2.2] : List Bound) s4.2).Hi (gt ([s4.1.1, s4.1.2.1, s4.1.2.2] : List Bound) s4.2).Unknown) (cs' := [.sc (.int .i64 (gt v12 0).Lo), .sc (.int .i64 (gt v12 0).Hi), .sc (.bool (gt v12 0).Unknown), .sc (.int .i64 (gt v12 1).Lo), .sc (.int .i64 (gt v12 1).Hi), .sc (.bool (gt v12 1).Unknown), .sc (.int .i64 (gt v12 2).Lo), .sc (.int .i64 (gt v12 2).Hi), .sc (.bool (gt v12 2).Unknown)]) rfl rfl rfl rfl rfl rfl (ixlt h9) ti34 rfl rfl rfl rfl (etaS ev12 rfl rfl) rfl rfl ?_
      obtain ⟨h13, hR⟩ := chkE hR
      refine iaP (o' := 0 + s4.2.toNat * Cl.e Bound + 0) rfl rfl rfl ti38 rfl ti36 h13 rfl ?_
      refine fa rfl rfl ti36 rfl rfl ti34 rfl ?_
      obtain ⟨v14, ev14, hR⟩ := letE hR
      refine stD (α := Bound) (nw := true) (pre := []) (post := []) (xs := ([(gt v12 0), (gt v12 1), (gt v12 2)] : List Bound)) (m := s4.2.toNat) (off := 1) (ys := [gt v14 0, gt v14 1, gt v14 2]) (y := Bound.mk (gt ([(gt v12 0), (gt v12 1), (gt v12 2)] : List Bound) s4.2).Lo v11 (gt ([(gt v12 0), (gt v12 1), (gt v12 2)] : List Bound) s4.2).Unknown) (cs' := [.sc (.int .i64 (gt v14 0).Lo), .sc (.int .i64 (gt v14 0).Hi), .sc (.bool (gt v14 0).Unknown), .sc (.int .i64 (gt v14 1).Lo), .sc (.int .i64 (gt v14 1).Hi), .sc (.bool (gt v14 1).Unknown), .sc (.int .i64 (gt v14 2).Lo), .sc (.int .i64 (gt v14 2).Hi), .sc (.bool (gt v14 2).Unknown)]) rfl rfl rfl rfl rfl rfl (ixlt h13) ti34 rfl rfl rfl rfl (etaS ev14 rfl rfl) rfl rfl ?_
      refine RunC.blk ?_
      refine RunC.fin ?_
      refine AWP.rgC 149 rfl rfl ?_
      refine pu (v := .sc _) rfl rfl (fun _ => rfl) ?_
      refine pu (v := .sc _) rfl rfl (fun _ => rfl) ?_
      refine RunC.fin ?_
      refine ⟨((gt v14 0, gt v14 1, gt v14 2), w6 (s4.2 + 1)), (Option.some.inj hR).symm, ?_⟩
      exact Weak.turnL [(0, 0), (1, 0), (2, 0), (3, 0), (4, 0)] [] rfl rfl (tc (trP' rfl rfl rfl rfl) (tc (trP' rfl rfl rfl rfl) (tc (.agg (.cons (.sc _) (.cons (.sc _) (.cons (.sc _) (.cons (.sc _) (.cons (.sc _) (.cons (.sc _) (.cons (.sc _) (.cons (.sc _) (.cons (.sc _) (.nil)))))))))) rfl) (tc (.sc _) tn)))) (mc rfl (.box rfl (.cons trR1 (.cons (.sc _) (.nil))) rfl) (mc rfl (.box rfl (.cons (trP' rfl rfl rfl rfl) (.nil)) rfl) (mc rfl (.box rfl (.cons (.sc _) (.nil)) rfl) (mc rfl (.box rfl (.cons (.sc _) (.cons (.sc _) (.cons (.sc _) (.cons (.sc _) (.cons (.sc _) (.cons (.sc _) (.cons (.sc _) (.cons (.sc _) (.cons (.sc _) (.nil)))))))))) rfl) (mc rfl (.box rfl (.cons (.sc _) (.cons (.sc _) (.cons (.sc _) (.cons (.sc _) (.cons (.sc _) (.cons (.sc _) (.cons (.sc _) (.cons (.sc _) (.cons (.sc _) (.nil)))))))))) rfl) mn)))))
    · refine AWP.exit ?_
      refine exT ?_
      refine exT ?_
      refine exH (skT ?_)
      refine ⟨s4.1, (Option.some.inj hR).symm, ?_⟩
      exact Weak.turnL [(0, 0), (1, 0), (2, 0), (3, 0), (4, 0)] [] rfl rfl (tc (trP' rfl rfl rfl rfl) (tc (trP' rfl rfl rfl rfl) tn)) (mc rfl (.box rfl (.cons trR1 (.cons (.sc _) (.nil))) rfl) (mc rfl (.box rfl (.cons (trP' rfl rfl rfl rfl) (.nil)) rfl) (mc rfl (.box rfl (.cons (.sc _) (.nil)) rfl) (mc rfl (.box rfl (.cons (.sc _) (.cons (.sc _) (.cons (.sc _) (.cons (.sc _) (.cons (.sc _) (.cons (.sc _) (.cons (.sc _) (.cons (.sc _) (.cons (.sc _) (.nil)))))))))) rfl) (mc rfl (.box rfl (.cons (.sc _) (.cons (.sc _) (.cons (.sc _) (.cons (.sc _) (.cons (.sc _) (.cons (.sc _) (.cons (.sc _) (.cons (.sc _) (.cons (.sc _) (.nil)))))))))) rfl) mn)))))
  · refine skT ?_
    refine AWP.sq ?_
    refine AWP.rgC 13 rfl rfl ?_
    refine ldB (v := .agg _) rfl rfl rfl rfl ti38 rfl rfl ?_
    refine stB (cs' := [.sc (.int .i64 z5.1.Lo), .sc (.int .i64 z5.1.Hi), .sc (.bool z5.1.Unknown), .sc (.int .i64 z5.2.1.Lo), .sc (.int .i64 z5.2.1.Hi), .sc (.bool z5.2.1.Unknown), .sc (.int .i64 z5.2.2.Lo), .sc (.int .i64 z5.2.2.Hi), .sc (.bool z5.2.2.Unknown)]) rfl rfl rfl rfl ti38 rfl rfl rfl rfl rfl ?_
    refine RunC.fin ?_
    refine AWP.ret ?_
    have hR := Option.some.inj hR; subst hR
    exact hQ _ _ (LS.mk [(4, .ptr 3 0 0)] (lblks 0 [boxB (α := spymake_Stream) false r2.2, .box [.ptr 0 0 0], boxB (α := Int) true p2, boxB (α := Bound × Bound × Bound) true z5]) 4) (aggV (α := Bound × Bound × Bound) true z5) [] (.inr rfl) (Weak.turnL [(0, 0), (1, 0), (2, 0), (3, 0)] [] rfl rfl (tc (trP' rfl rfl rfl rfl) tn) (mc rfl (.box rfl (.cons trR1 (.cons (.sc _) (.nil))) rfl) (mc rfl (.box rfl (.cons (trP' rfl rfl rfl rfl) (.nil)) rfl) (mc rfl (.box rfl (.cons (.sc _) (.nil)) rfl) (mc rfl (.box rfl (.cons (.sc _) (.cons (.sc _) (.cons (.sc _) (.cons (.sc _) (.cons (.sc _) (.cons (.sc _) (.cons (.sc _) (.cons (.sc _) (.cons (.sc _) (.nil)))))))))) rfl) mn))))) (ro1 (rvC (v := aggV (α := Bound × Bound × Bound) true z5) rfl rfl ti38 rfl)) rfl rfl ldA (pc rfl bldB (pc rfl (.box (.cons (ldP rfl rfl) .nil) rfl) (pc rfl bldB pn)))
theorem ok3 (l : List Int) (days : Int) (most : Int) (r : Bool) (hR : spykeep4_PredictHolds l days most = some r) : FnP Try.prog 3 [rowV false l, .sc (.int .i64 days), .sc (.int .i64 most)] (.sc (.bool r)) := by
  refine fnP_of (FnX.walk Try.func3 rfl 79 0 (by simp [Try.ntmps3]) rfl fun W S F Q hQ => ?_)
  unfold spykeep4_PredictHolds at hR
  refine AWP.sq ?_
  refine AWP.rgC 8 rfl rfl ?_
  refine bx (cs := [.sc (.int .i64 most)]) 0 rfl rfl rfl ?_
  refine pu (v := .sc _) rfl rfl (fun _ => rfl) ?_
  refine RunC.fin ?_
  refine AWP.sq ?_
  refine AWP.rgC 28 rfl rfl ?_
  refine pu (v := rowV _ l) rfl rfl (fun _ => rfl) ?_
  refine bu (cs := [rowV (α := Int) false l, .sc (.int .i64 0)]) rfl bt25 rfl ?_
  refine bx (cs := _) 16 rfl rfl rfl ?_
  refine al (cs := [.sc (.pointer none)]) 20 rfl rfl ti23 rfl rfl ?_
  refine stB (cs' := [.ptr 16 0 0]) rfl rfl rfl rfl ti23 rfl rfl rfl rfl rfl ?_
  refine RunC.fin ?_
  refine AWP.sq ?_
  refine AWP.rgD 52 [0, 0, 2, 7, 0, 31] ⟨[2, 3], [some [20], some [20], some [16], some [16], none, some [44]]⟩ hmix (by kernel_rfl) rfl rfl ?_
  refine ldB (v := .ptr _ _ _) rfl rfl rfl rfl ti23 rfl rfl ?_
  refine ldB (v := .ptr _ _ _) rfl rfl rfl rfl ti23 rfl rfl ?_
  obtain ⟨r1, hr1, hR⟩ := bindE hR
  refine cps (res' := aggV (α := Vec) true r1.1) (ups := [(16, boxB (α := spymake_Stream) false r1.2)]) [16] 36 rfl rfl rfl cb5 (ok5 (spymake_Stream.mk l 0) 2 _ hr1) (.cons (ldP rfl rfl) (.cons (.sc _) (.nil))) (pc rfl (.box (.cons ldR' (.cons (.sc _) (.nil))) rfl) pn) rfl rfl rfl rfl rfl (by first | rfl | exact renR | exact renA | exact renS | simp only [V.ren, V.rens, renR, renA, renS] | (simp only [V.ren, V.rens, renR, renA, renS]; rfl)) (by simp only [passUps, renBox, renArr]; rfl) ?_
  obtain ⟨r2, hr2, hR⟩ := bindE hR
  refine cps (res' := aggV (α := Body) true r2.1) (ups := [(16, boxB (α := spymake_Stream) false r2.2)]) [16] 40 rfl rfl rfl cb4 (ok4 r1.2 1 r1.1 _ hr2) (.cons (ldP rfl rfl) (.cons (.sc _) (.cons (.agg (.cons (.sc _) (.cons (.sc _) (.cons (.sc _) (.nil)))) rfl) (.nil)))) (pc rfl (.box (.cons ldR' (.cons (.sc _) (.nil))) rfl) pn) rfl rfl rfl rfl rfl (by first | rfl | exact renR | exact renA | exact renS | simp only [V.ren, V.rens, renR, renA, renS] | (simp only [V.ren, V.rens, renR, renA, renS]; rfl)) (by simp only [passUps, renBox, renArr]; rfl) ?_
  refine al (cs := [.sc (.int .i64 0), .sc (.int .i64 0), .sc (.int .i64 0), .sc (.int .i64 0), .sc (.int .i64 0), .sc (.int .i64 0), .sc (.int .i64 0), .sc (.int .i64 0)]) 44 rfl rfl ti30 rfl rfl ?_
  refine stB (cs' := [.sc (.int .i64 r2.1.ID), .sc (.int .i64 r2.1.Was.X), .sc (.int .i64 r2.1.Was.Y), .sc (.int .i64 r2.1.Was.Z), .sc (.int .i64 r2.1.Here.X), .sc (.int .i64 r2.1.Here.Y), .sc (.int .i64 r2.1.Here.Z), .sc (.int .i64 r2.1.Rate)]) rfl rfl rfl rfl ti30 rfl rfl rfl rfl rfl ?_
  refine RunC.fin ?_
  refine AWP.sq ?_
  refine AWP.rgC 68 rfl rfl ?_
  refine pu (v := .sc _) rfl rfl (fun _ => rfl) ?_
  obtain ⟨r3, hr3, hR⟩ := bindE hR
  refine cls [] rfl rfl cb6 (ok6 days 65 _ hr3) (.cons (.sc _) (.cons (.sc _) (.nil))) (.inr rfl) rfl ?_
  refine pu (v := .sc _) rfl rfl (fun _ => rfl) ?_
  refine pu (v := .sc _) rfl rfl (fun _ => rfl) ?_
  refine RunC.fin ?_
  refine AWP.sq ?_
  refine AWP.rgC 76 rfl rfl ?_
  refine pu (v := .fn _ _) rfl rfl (fun _ => rfl) ?_
  refine pu (v := .fn _ _) rfl rfl (fun _ => rfl) ?_
  refine RunC.fin ?_
  refine AWP.sq ?_
  refine AWP.rgD 124 [0, 0, 2, 7, 0, 0, 32, 127, 0, 0, 1023, 2047] ⟨[3, 7], [none, none, some [44], some [0, 16, 20], none, none, some [44], some [0, 16, 20], none, none, some [108], some [112]]⟩ hmix (by kernel_rfl) rfl rfl ?_
  refine pu (v := .fn _ _) rfl rfl (fun _ => rfl) ?_
  refine fa rfl rfl ti30 rfl rfl ti27 rfl ?_
  refine ldB (v := .agg _) rfl rfl rfl rfl ti27 rfl rfl ?_
  obtain ⟨r4, hr4, hR⟩ := bindE hR
  refine cps (res' := aggV (α := Bound × Bound × Bound) true r4.1) (ups := [(16, boxB (α := spymake_Stream) false r4.2), (20, .box [.ptr 16 0 0]), (0, boxB (α := Int) true most)]) [16, 20, 0] 88 rfl rfl rfl cb7 (ok7_60 r2.1.Was r2.2 most _ hr4) (.cons (.agg (.cons (.sc _) (.cons (.sc _) (.cons (.sc _) (.nil)))) rfl) (.cons (ldP rfl rfl) (.cons (ldP rfl rfl) (.nil)))) (pc rfl (.box (.cons ldR' (.cons (.sc _) (.nil))) rfl) (pc rfl (.box (.cons (ldP rfl rfl) .nil) rfl) (pc rfl (.box (.cons (.sc _) (.nil)) rfl) pn))) rfl rfl rfl rfl rfl (by first | rfl | exact renR | exact renA | exact renS | simp only [V.ren, V.rens, renR, renA, renS] | (simp only [V.ren, V.rens, renR, renA, renS]; rfl)) (by simp only [passUps, renBox, renArr]; rfl) ?_
  refine pu (v := .fn _ _) rfl rfl (fun _ => rfl) ?_
  refine fa rfl rfl ti30 rfl rfl ti27 rfl ?_
  refine ldB (v := .agg _) rfl rfl rfl rfl ti27 rfl rfl ?_
  obtain ⟨r5, hr5, hR⟩ := bindE hR
  refine cps (res' := aggV (α := Bound × Bound × Bound) true r5.1) (ups := [(16, boxB (α := spymake_Stream) false r5.2), (20, .box [.ptr 16 0 0]), (0, boxB (α := Int) true most)]) [16, 20, 0] 104 rfl rfl rfl cb7 (ok7_60 r2.1.Here r4.2 most _ hr5) (.cons (.agg (.cons (.sc _) (.cons (.sc _) (.cons (.sc _) (.nil)))) rfl) (.cons (ldP rfl rfl) (.cons (ldP rfl rfl) (.nil)))) (pc rfl (.box (.cons ldR' (.cons (.sc _) (.nil))) rfl) (pc rfl (.box (.cons (ldP rfl rfl) .nil) rfl) (pc rfl (.box (.cons (.sc _) (.nil)) rfl) pn))) rfl rfl rfl rfl rfl (by first | rfl | exact renR | exact renA | exact renS | simp only [V.ren, V.rens, renR, renA, renS] | (simp only [V.ren, V.rens, renR, renA, renS]; rfl)) (by simp only [passUps, renBox, renArr]; rfl) ?_
  refine al (cs := [.sc (.int .i64 0), .sc (.int .i64 0), .sc (.bool false), .sc (.int .i64 0), .sc (.int .i64 0), .sc (.bool false), .sc (.int .i64 0), .sc (.int .i64 0), .sc (.bool false)]) 108 rfl rfl ti38 rfl rfl ?_
  refine al (cs := [.sc (.int .i64 0), .sc (.int .i64 0), .sc (.bool false), .sc (.int .i64 0), .sc (.int .i64 0), .sc (.bool false), .sc (.int .i64 0), .sc (.int .i64 0), .sc (.bool false)]) 112 rfl rfl ti38 rfl rfl ?_
  refine stB (cs' := [.sc (.int .i64 r4.1.1.Lo), .sc (.int .i64 r4.1.1.Hi), .sc (.bool r4.1.1.Unknown), .sc (.int .i64 r4.1.2.1.Lo), .sc (.int .i64 r4.1.2.1.Hi), .sc (.bool r4.1.2.1.Unknown), .sc (.int .i64 r4.1.2.2.Lo), .sc (.int .i64 r4.1.2.2.Hi), .sc (.bool r4.1.2.2.Unknown)]) rfl rfl rfl rfl ti38 rfl rfl rfl rfl rfl ?_
  refine stB (cs' := [.sc (.int .i64 r5.1.1.Lo), .sc (.int .i64 r5.1.1.Hi), .sc (.bool r5.1.1.Unknown), .sc (.int .i64 r5.1.2.1.Lo), .sc (.int .i64 r5.1.2.1.Hi), .sc (.bool r5.1.2.1.Unknown), .sc (.int .i64 r5.1.2.2.Lo), .sc (.int .i64 r5.1.2.2.Hi), .sc (.bool r5.1.2.2.Unknown)]) rfl rfl rfl rfl ti38 rfl rfl rfl rfl rfl ?_
  refine RunC.fin ?_
  refine AWP.sq ?_
  refine AWP.rgC 172 rfl rfl ?_
  refine ldB (v := .agg _) rfl rfl rfl rfl ti30 rfl rfl ?_
  refine pu (v := .sc _) rfl rfl (fun _ => rfl) ?_
  obtain ⟨r6, hr6, hR⟩ := bindE hR
  refine cls [] rfl rfl cb10 (ok10 r2.1 (w6 (r3 - 32)) _ hr6) (.cons (.agg (.cons (.sc _) (.cons (.sc _) (.cons (.sc _) (.cons (.sc _) (.cons (.sc _) (.cons (.sc _) (.cons (.sc _) (.cons (.sc _) (.nil))))))))) rfl) (.cons (.sc _) (.nil))) (.inr rfl) rfl ?_
  refine pu (v := .tup _) rfl rfl (fun _ => rfl) ?_
  refine pu (v := .agg _) rfl rfl (fun _ => rfl) ?_
  refine pu (v := .agg _) rfl rfl (fun _ => rfl) ?_
  refine pu (v := .sc _) rfl rfl (fun _ => rfl) ?_
  refine al (cs := [.sc (.int .i64 0), .sc (.int .i64 0), .sc (.int .i64 0)]) 152 rfl rfl ti27 rfl rfl ?_
  refine al (cs := [.sc (.int .i64 0), .sc (.int .i64 0), .sc (.int .i64 0)]) 156 rfl rfl ti27 rfl rfl ?_
  refine stB (cs' := [.sc (.int .i64 r6.1.X), .sc (.int .i64 r6.1.Y), .sc (.int .i64 r6.1.Z)]) rfl rfl rfl rfl ti27 rfl rfl rfl rfl rfl ?_
  refine stB (cs' := [.sc (.int .i64 r6.2.1.X), .sc (.int .i64 r6.2.1.Y), .sc (.int .i64 r6.2.1.Z)]) rfl rfl rfl rfl ti27 rfl rfl rfl rfl rfl ?_
  refine pu (v := .sc _) rfl rfl (fun _ => rfl) ?_
  refine RunC.fin ?_
  refine AWP.sq ?_
  refine AWP.rgC 212 rfl rfl ?_
  refine ldB (v := .agg _) rfl rfl rfl rfl ti38 rfl rfl ?_
  refine ldB (v := .agg _) rfl rfl rfl rfl ti38 rfl rfl ?_
  refine pu (v := .sc _) rfl rfl (fun _ => rfl) ?_
  obtain ⟨r7, hr7, hR⟩ := bindE hR
  refine cls [] rfl rfl cb11 (ok11 r4.1 r5.1 (w6 (r3 - 32)) _ hr7) (.cons (.agg (.cons (.sc _) (.cons (.sc _) (.cons (.sc _) (.cons (.sc _) (.cons (.sc _) (.cons (.sc _) (.cons (.sc _) (.cons (.sc _) (.cons (.sc _) (.nil)))))))))) rfl) (.cons (.agg (.cons (.sc _) (.cons (.sc _) (.cons (.sc _) (.cons (.sc _) (.cons (.sc _) (.cons (.sc _) (.cons (.sc _) (.cons (.sc _) (.cons (.sc _) (.nil)))))))))) rfl) (.cons (.sc _) (.nil)))) (.inr rfl) rfl ?_
  refine pu (v := .tup _) rfl rfl (fun _ => rfl) ?_
  refine pu (v := .agg _) rfl rfl (fun _ => rfl) ?_
  refine pu (v := .sc _) rfl rfl (fun _ => rfl) ?_
  refine al (cs := [.sc (.int .i64 0), .sc (.int .i64 0), .sc (.bool false), .sc (.int .i64 0), .sc (.int .i64 0), .sc (.bool false), .sc (.int .i64 0), .sc (.int .i64 0), .sc (.bool false)]) 200 rfl rfl ti38 rfl rfl ?_
  refine stB (cs' := [.sc (.int .i64 r7.1.1.Lo), .sc (.int .i64 r7.1.1.Hi), .sc (.bool r7.1.1.Unknown), .sc (.int .i64 r7.1.2.1.Lo), .sc (.int .i64 r7.1.2.1.Hi), .sc (.bool r7.1.2.1.Unknown), .sc (.int .i64 r7.1.2.2.Lo), .sc (.int .i64 r7.1.2.2.Hi), .sc (.bool r7.1.2.2.Unknown)]) rfl rfl rfl rfl ti38 rfl rfl rfl rfl rfl ?_
  refine pu (v := .sc _) rfl rfl (fun _ => rfl) ?_
  refine RunC.fin ?_
  refine AWP.sq ?_
  refine AWP.joinX (fun z8 : Bool => LS.mk [(13, .ptr 0 0 0), (14, .sc (.int .i64 r6.2.2)), (15, .ptr 1 0 0), (71, .sc (.bool z8))] (lblks 0 [boxB (α := Vec) true r6.2.1, boxB (α := Bound × Bound × Bound) true r7.1]) 2) hR (fun o8 hR => ?_) fun z8 hR => ?_
  · refine AWP.rgD 300 [0, 1, 3, 7, 15, 31, 63, 127, 255, 127, 639, 2047, 4095, 8191, 16383, 32767, 65535, 65535, 196607, 524287, 1048575, 2097151] ⟨[], [none, none, none, none, none, none, none, some [112], none, none, some [44], none, none, none, none, none, some [112], none, some [44], none, none, none]⟩ hmix (by kernel_rfl) rfl rfl ?_
    obtain ⟨r9, hr9, hR⟩ := bindE hR
    refine cls [] rfl rfl cb12 (ok12 _ hr9) (.nil) (.inr rfl) rfl ?_
    refine pu (v := .sc _) rfl rfl (fun _ => rfl) ?_
    refine pu (v := .sc _) rfl rfl (fun _ => rfl) ?_
    refine brR hR (fun h10 hR => ?_) fun h10 hR => ?_
    · refine sk (skW rfl rfl rfl h10) ?_
      refine sk (skW rfl rfl rfl h10) ?_
      refine pkT (v := .sc (.bool true)) rfl rfl h10 rfl ?_
      refine pu (v := .sc _) rfl rfl (fun _ => rfl) ?_
      refine sk (skW rfl rfl rfl rfl) ?_
      refine sk (skW rfl rfl rfl rfl) ?_
      refine sk (skW rfl rfl rfl rfl) ?_
      refine sk (skW rfl rfl rfl rfl) ?_
      refine sk (skW rfl rfl rfl rfl) ?_
      refine sk (skW rfl rfl rfl rfl) ?_
      refine sk (skW rfl rfl rfl rfl) ?_
      refine pkT (v := .sc (.bool true)) rfl rfl rfl rfl ?_
      refine pu (v := .sc _) rfl rfl (fun _ => rfl) ?_
      refine sk (skW rfl rfl rfl rfl) ?_
      refine sk (skW rfl rfl rfl rfl) ?_
      refine sk (skW rfl rfl rfl rfl) ?_
      refine sk (skW rfl rfl rfl rfl) ?_
      refine sk (skW rfl rfl rfl rfl) ?_
      refine pkT (v := .sc (.bool true)) rfl rfl rfl rfl ?_
      refine RunC.fin ?_
      have hR := Option.some.inj hR; subst hR
      exact Weak.turnL [(156, 0), (200, 0)] [] rfl rfl (tc (trP' rfl rfl rfl rfl) (tc (.sc _) (tc (trP' rfl rfl rfl rfl) (tc (.sc _) tn)))) (mc rfl (.box rfl (.cons (.sc _) (.cons (.sc _) (.cons (.sc _) (.nil)))) rfl) (mc rfl (.box rfl (.cons (.sc _) (.cons (.sc _) (.cons (.sc _) (.cons (.sc _) (.cons (.sc _) (.cons (.sc _) (.cons (.sc _) (.cons (.sc _) (.cons (.sc _) (.nil)))))))))) rfl) mn))
    · refine pu (v := .sc _) (wtG rfl rfl rfl h10) rfl (fun _ => rfl) ?_
      refine pu (v := .sc _) (wtG rfl rfl rfl h10) rfl (fun _ => rfl) ?_
      refine pkF (v := .sc (.bool (r7.2 != 0))) rfl rfl h10 rfl ?_
      refine pu (v := .sc _) rfl rfl (fun _ => rfl) ?_
      refine brR hR (fun h11 hR => ?_) fun h11 hR => ?_
      · refine sk (skW rfl rfl rfl h11) ?_
        refine sk (skW rfl rfl rfl h11) ?_
        refine sk (skW rfl rfl rfl h11) ?_
        refine sk (skW rfl rfl rfl h11) ?_
        refine sk (skW rfl rfl rfl h11) ?_
        refine sk (skW rfl rfl rfl h11) ?_
        refine sk (skW rfl rfl rfl h11) ?_
        refine pkT (v := .sc (.bool true)) rfl rfl h11 rfl ?_
        refine pu (v := .sc _) rfl rfl (fun _ => rfl) ?_
        refine sk (skW rfl rfl rfl rfl) ?_
        refine sk (skW rfl rfl rfl rfl) ?_
        refine sk (skW rfl rfl rfl rfl) ?_
        refine sk (skW rfl rfl rfl rfl) ?_
        refine sk (skW rfl rfl rfl rfl) ?_
        refine pkT (v := .sc (.bool true)) rfl rfl rfl rfl ?_
        refine RunC.fin ?_
        have hR := Option.some.inj hR; subst hR
        exact Weak.turnL [(156, 0), (200, 0)] [] rfl rfl (tc (trP' rfl rfl rfl rfl) (tc (.sc _) (tc (trP' rfl rfl rfl rfl) (tc (.sc _) tn)))) (mc rfl (.box rfl (.cons (.sc _) (.cons (.sc _) (.cons (.sc _) (.nil)))) rfl) (mc rfl (.box rfl (.cons (.sc _) (.cons (.sc _) (.cons (.sc _) (.cons (.sc _) (.cons (.sc _) (.cons (.sc _) (.cons (.sc _) (.cons (.sc _) (.cons (.sc _) (.nil)))))))))) rfl) mn))
      · refine ldB (v := .agg _) (wtG rfl rfl rfl h11) rfl rfl rfl ti38 rfl rfl ?_
        obtain ⟨r12, hr12, hR⟩ := bindE hR
        refine cls [] (wtG rfl rfl rfl h11) rfl cb14 (ok14 r5.1 _ hr12) (.cons (.agg (.cons (.sc _) (.cons (.sc _) (.cons (.sc _) (.cons (.sc _) (.cons (.sc _) (.cons (.sc _) (.cons (.sc _) (.cons (.sc _) (.cons (.sc _) (.nil)))))))))) rfl) (.nil)) (.inr rfl) rfl ?_
        refine fa (wtG rfl rfl rfl h11) rfl ti30 rfl rfl ti27 rfl ?_
        refine ldB (v := .agg _) (wtG rfl rfl rfl h11) rfl rfl rfl ti27 rfl rfl ?_
        obtain ⟨r13, hr13, hR⟩ := bindE hR
        refine cls [] (wtG rfl rfl rfl h11) rfl cb15 (ok15 r2.1.Here _ hr13) (.cons (.agg (.cons (.sc _) (.cons (.sc _) (.cons (.sc _) (.nil)))) rfl) (.nil)) (.inr rfl) rfl ?_
        obtain ⟨r14, hr14, hR⟩ := bindE hR
        refine cls [] (wtG rfl rfl rfl h11) rfl cb13 (ok13 r12 r13 _ hr14) (.cons (.agg (.cons (.sc _) (.cons (.sc _) (.cons (.sc _) (.cons (.sc _) (.cons (.sc _) (.cons (.sc _) (.cons (.sc _) (.cons (.sc _) (.cons (.sc _) (.nil)))))))))) rfl) (.cons (.agg (.cons (.sc _) (.cons (.sc _) (.cons (.sc _) (.nil)))) rfl) (.nil))) (.inr rfl) rfl ?_
        refine pu (v := .sc _) (wtG rfl rfl rfl h11) rfl (fun _ => rfl) ?_
        refine pkF (v := .sc (.bool (!r14))) rfl rfl h11 rfl ?_
        refine pu (v := .sc _) rfl rfl (fun _ => rfl) ?_
        refine brR hR (fun h15 hR => ?_) fun h15 hR => ?_
        · refine sk (skW rfl rfl rfl h15) ?_
          refine sk (skW rfl rfl rfl h15) ?_
          refine sk (skW rfl rfl rfl h15) ?_
          refine sk (skW rfl rfl rfl h15) ?_
          refine sk (skW rfl rfl rfl h15) ?_
          refine pkT (v := .sc (.bool true)) rfl rfl h15 rfl ?_
          refine RunC.fin ?_
          have hR := Option.some.inj hR; subst hR
          exact Weak.turnL [(156, 0), (200, 0)] [] rfl rfl (tc (trP' rfl rfl rfl rfl) (tc (.sc _) (tc (trP' rfl rfl rfl rfl) (tc (.sc _) tn)))) (mc rfl (.box rfl (.cons (.sc _) (.cons (.sc _) (.cons (.sc _) (.nil)))) rfl) (mc rfl (.box rfl (.cons (.sc _) (.cons (.sc _) (.cons (.sc _) (.cons (.sc _) (.cons (.sc _) (.cons (.sc _) (.cons (.sc _) (.cons (.sc _) (.cons (.sc _) (.nil)))))))))) rfl) mn))
        · refine ldB (v := .agg _) (wtG rfl rfl rfl h15) rfl rfl rfl ti38 rfl rfl ?_
          refine fa (wtG rfl rfl rfl h15) rfl ti30 rfl rfl ti27 rfl ?_
          refine ldB (v := .agg _) (wtG rfl rfl rfl h15) rfl rfl rfl ti27 rfl rfl ?_
          obtain ⟨r16, hr16, hR⟩ := bindE hR
          refine cls [] (wtG rfl rfl rfl h15) rfl cb13 (ok13 r5.1 r2.1.Here _ hr16) (.cons (.agg (.cons (.sc _) (.cons (.sc _) (.cons (.sc _) (.cons (.sc _) (.cons (.sc _) (.cons (.sc _) (.cons (.sc _) (.cons (.sc _) (.cons (.sc _) (.nil)))))))))) rfl) (.cons (.agg (.cons (.sc _) (.cons (.sc _) (.cons (.sc _) (.nil)))) rfl) (.nil))) (.inr rfl) rfl ?_
          refine pu (v := .sc _) (wtG rfl rfl rfl h15) rfl (fun _ => rfl) ?_
          refine pkF (v := .sc (.bool (!r16))) rfl rfl h15 rfl ?_
          refine RunC.fin ?_
          have hR := Option.some.inj hR; subst hR
          exact Weak.turnL [(156, 0), (200, 0)] [] rfl rfl (tc (trP' rfl rfl rfl rfl) (tc (.sc _) (tc (trP' rfl rfl rfl rfl) (tc (.sc _) tn)))) (mc rfl (.box rfl (.cons (.sc _) (.cons (.sc _) (.cons (.sc _) (.nil)))) rfl) (mc rfl (.box rfl (.cons (.sc _) (.cons (.sc _) (.cons (.sc _) (.cons (.sc _) (.cons (.sc _) (.cons (.sc _) (.cons (.sc _) (.cons (.sc _) (.cons (.sc _) (.nil)))))))))) rfl) mn))
  · refine AWP.cd hR rfl (fun h17 hR => ?_) fun h17 hR => ?_
    · refine AWP.sq ?_
      refine AWP.rgC 6 rfl rfl ?_
      refine pu (v := .sc _) rfl rfl (fun _ => rfl) ?_
      refine RunC.fin ?_
      refine AWP.ret ?_
      refine rtT ?_
      have hR := Option.some.inj hR; subst hR
      exact hQ _ _ (LS.mk [(6, .sc (.bool false))] (lblks 0 []) 0) (.sc (.bool false)) [] (.inr rfl) (Weak.turnL [] [] rfl rfl (tc (.sc _) tn) mn) (ro1 (rvT (v := .sc (.bool false)) rfl)) rfl rfl (.sc _) pn
    · refine AWP.skip ?_
      refine skT ?_
      refine AWP.joinX (fun z18 : Bool => LS.mk [(6, .sc (.bool z18))] (lblks 0 []) 0) hR (fun o18 hR => ?_) fun z18 hR => ?_
      · refine AWP.rgC 34 rfl rfl ?_
        refine pu (v := .sc _) rfl rfl (fun _ => rfl) ?_
        refine pu (v := .sc _) rfl rfl (fun _ => rfl) ?_
        refine pu (v := .sc _) rfl rfl (fun _ => rfl) ?_
        refine brR hR (fun h19 hR => ?_) fun h19 hR => ?_
        · refine sk (skW rfl rfl rfl h19) ?_
          refine sk (skW rfl rfl rfl h19) ?_
          refine sk (skW rfl rfl rfl h19) ?_
          refine pkT (v := .sc (.bool true)) rfl rfl h19 rfl ?_
          refine pu (v := .sc _) rfl rfl (fun _ => rfl) ?_
          refine RunC.fin ?_
          have hR := Option.some.inj hR; subst hR
          exact Weak.turnL [] [] rfl rfl (tc (.sc _) tn) mn
        · refine ldB (v := .agg _) (wtG rfl rfl rfl h19) rfl rfl rfl ti38 rfl rfl ?_
          refine ldB (v := .agg _) (wtG rfl rfl rfl h19) rfl rfl rfl ti27 rfl rfl ?_
          obtain ⟨r20, hr20, hR⟩ := bindE hR
          refine cls [] (wtG rfl rfl rfl h19) rfl cb13 (ok13 r7.1 r6.2.1 _ hr20) (.cons (.agg (.cons (.sc _) (.cons (.sc _) (.cons (.sc _) (.cons (.sc _) (.cons (.sc _) (.cons (.sc _) (.cons (.sc _) (.cons (.sc _) (.cons (.sc _) (.nil)))))))))) rfl) (.cons (.agg (.cons (.sc _) (.cons (.sc _) (.cons (.sc _) (.nil)))) rfl) (.nil))) (.inr rfl) rfl ?_
          refine pkF (v := .sc (.bool r20)) rfl rfl h19 rfl ?_
          refine pu (v := .sc _) rfl rfl (fun _ => rfl) ?_
          refine RunC.fin ?_
          have hR := Option.some.inj hR; subst hR
          exact Weak.turnL [] [] rfl rfl (tc (.sc _) tn) mn
      · refine AWP.ret ?_
        have hR := Option.some.inj hR; subst hR
        exact hQ _ _ (LS.mk [(6, .sc (.bool z18))] (lblks 0 []) 0) (.sc (.bool z18)) [] (.inr rfl) (Weak.turnL [] [] rfl rfl (tc (.sc _) tn) mn) (ro1 (rvT (v := .sc (.bool z18)) rfl)) rfl rfl (.sc _) pn
end Go.Proofs.Pho
