/- Each function of the program computes its plain function. Conditions: as each theorem states them. -/
import Derived.Test.YtdihhgkihbnnoaaT
import Derived.Test.YtdihhgkihbnnoaaP1
namespace Go.Proofs.Stt
open Go Go.Abs Lf
set_option linter.unusedVariables false
set_option linter.unusedSimpArgs false
set_option maxRecDepth 100000
set_option maxHeartbeats 1000000
theorem ok3 (l : List Int) (r : Bool) (hR : spykeep4_StackTrue l = some r) : FnP Try.prog 3 [rowV false l] (.sc (.bool r)) := by
  refine fnP_of (FnX.walk Try.func3 rfl 239 0 (by simp [Try.ntmps3]) rfl fun W S F Q hQ => ?_)
  unfold spykeep4_StackTrue at hR
  refine AWP.sq ?_
  refine AWP.rgC 4 rfl rfl ?_
  refine pu (v := .sc _) rfl rfl (fun _ => rfl) ?_
  refine RunC.fin ?_
  refine AWP.sq ?_
  refine AWP.rgC 20 rfl rfl ?_
  refine pu (v := rowV _ l) rfl rfl (fun _ => rfl) ?_
  refine bu (cs := [rowV (α := Int) false l, .sc (.int .i64 0)]) rfl bt25 rfl ?_
  refine bx (cs := _) 12 rfl rfl rfl ?_
  refine pu (v := .ptr _ _ _) rfl rfl (fun _ => rfl) ?_
  refine RunC.fin ?_
  refine AWP.sq ?_
  refine AWP.rgC 44 rfl rfl ?_
  refine pu (v := .ptr _ _ _) rfl rfl (fun _ => rfl) ?_
  obtain ⟨r1, hr1, hR⟩ := bindE hR
  refine cps (res' := .sc (.int .i64 r1.1)) (ups := [(12, boxB (α := spymake_Stream) false r1.2)]) [12] 24 rfl rfl rfl cb4 (ok4 (spymake_Stream.mk l 0) 1 6 _ hr1) (.cons (ldP rfl rfl) (.cons (.sc _) (.cons (.sc _) (.nil)))) (pc rfl (.box (.cons ldR' (.cons (.sc _) (.nil))) rfl) pn) rfl rfl rfl rfl rfl (by first | rfl | exact renR | exact renA | exact renS | simp only [V.ren, V.rens, renR, renA, renS] | (simp only [V.ren, V.rens, renR, renA, renS]; rfl)) (by simp only [passUps, renBox, renArr]; rfl) ?_
  refine pu (v := .ptr _ _ _) rfl rfl (fun _ => rfl) ?_
  obtain ⟨r2, hr2, hR⟩ := bindE hR
  refine cps (res' := .sc (.int .i64 r2.1)) (ups := [(12, boxB (α := spymake_Stream) false r2.2)]) [12] 32 rfl rfl rfl cb4 (ok4 r1.2 1 6 _ hr2) (.cons (ldP rfl rfl) (.cons (.sc _) (.cons (.sc _) (.nil)))) (pc rfl (.box (.cons ldR' (.cons (.sc _) (.nil))) rfl) pn) rfl rfl rfl rfl rfl (by first | rfl | exact renR | exact renA | exact renS | simp only [V.ren, V.rens, renR, renA, renS] | (simp only [V.ren, V.rens, renR, renA, renS]; rfl)) (by simp only [passUps, renBox, renArr]; rfl) ?_
  refine pu (v := .sc _) rfl rfl (fun _ => rfl) ?_
  refine pu (v := .sc _) rfl rfl (fun _ => rfl) ?_
  refine RunC.fin ?_
  refine AWP.sq ?_
  refine AWP.rgC 56 rfl rfl ?_
  refine pu (v := .ptr _ _ _) rfl rfl (fun _ => rfl) ?_
  obtain ⟨r3, hr3, hR⟩ := bindE hR
  refine cps (res' := .sc (.int .i64 r3.1)) (ups := [(12, boxB (α := spymake_Stream) false r3.2)]) [12] 48 rfl rfl rfl cb4 (ok4 r2.2 1 8 _ hr3) (.cons (ldP rfl rfl) (.cons (.sc _) (.cons (.sc _) (.nil)))) (pc rfl (.box (.cons ldR' (.cons (.sc _) (.nil))) rfl) pn) rfl rfl rfl rfl rfl (by first | rfl | exact renR | exact renA | exact renS | simp only [V.ren, V.rens, renR, renA, renS] | (simp only [V.ren, V.rens, renR, renA, renS]; rfl)) (by simp only [passUps, renBox, renArr]; rfl) ?_
  refine pu (v := .sc _) rfl rfl (fun _ => rfl) ?_
  refine RunC.fin ?_
  refine AWP.sq ?_
  refine AWP.rgC 92 rfl rfl ?_
  refine pu (v := .ptr _ _ _) rfl rfl (fun _ => rfl) ?_
  refine pu (v := .sc _) rfl rfl (fun _ => rfl) ?_
  refine pu (v := .sc _) rfl rfl (fun _ => rfl) ?_
  obtain ⟨r4, hr4, hR⟩ := bindE hR
  refine cps (res' := .tup [rowV (α := Int) true r4.1, .sc (.int .i64 r4.2.1)]) (ups := [(12, boxB (α := spymake_Stream) false r4.2.2)]) [12] 68 rfl rfl rfl cb5 (ok5 r3.2 r1.1 r2.1 2 _ hr4) (.cons (ldP rfl rfl) (.cons (.sc _) (.cons (.sc _) (.cons (.sc _) (.nil))))) (pc rfl (.box (.cons ldR' (.cons (.sc _) (.nil))) rfl) pn) rfl rfl rfl rfl rfl (by first | rfl | exact renR | exact renA | exact renS | simp only [V.ren, V.rens, renR, renA, renS] | (simp only [V.ren, V.rens, renR, renA, renS]; rfl)) (by simp only [passUps, renBox, renArr]; rfl) ?_
  refine pu (v := .tup _) rfl rfl (fun _ => rfl) ?_
  refine pu (v := rowV _ r4.1) rfl rfl (fun _ => rfl) ?_
  refine pu (v := .sc _) rfl rfl (fun _ => rfl) ?_
  refine pu (v := rowV _ r4.1) rfl rfl (fun _ => rfl) ?_
  refine pu (v := .sc _) rfl rfl (fun _ => rfl) ?_
  refine RunC.fin ?_
  refine AWP.sq ?_
  refine AWP.rgC 112 rfl rfl ?_
  refine pu (v := .sc _) rfl rfl (fun _ => rfl) ?_
  refine pu (v := .sc _) rfl rfl (fun _ => rfl) ?_
  refine pu (v := .sc _) rfl rfl (fun _ => rfl) ?_
  obtain ⟨h5, hR⟩ := chkE hR
  refine mk (α := Int) 104 true 0 rfl rfl rfl rfl ti27 rfl ti28 rfl rfl h5 ?_
  refine pu (v := slV Int _ _ _ _) rfl rfl (fun _ => rfl) ?_
  refine RunC.fin ?_
  refine AWP.sq ?_
  refine AWP.rgC 120 rfl rfl ?_
  refine pu (v := .sc _) rfl rfl (fun _ => rfl) ?_
  refine pu (v := .sc _) rfl rfl (fun _ => rfl) ?_
  refine RunC.fin ?_
  refine AWP.sq ?_
  refine AWP.sq ?_
  refine AWP.rgC 128 rfl rfl ?_
  refine pu (v := .sc _) rfl rfl (fun _ => rfl) ?_
  refine pu (v := .sc _) rfl rfl (fun _ => rfl) ?_
  refine RunC.fin ?_
  refine AWP.nilT Cells 10 34 rfl ?_
  refine AWP.nilT Cells 11 34 rfl ?_
  refine AWP.loopJ (fun s6 : spymake_Stream × (List Int) × (List Cells) × (List Cells) × Int => LS.mk [(3, .ptr 0 0 0), (4, .sc (.int .i64 r1.1)), (5, .sc (.int .i64 r2.1)), (7, rowV (α := Int) true r4.1), (9, slV Int 1 0 0 s6.2.1.length), (10, slV Cells 2 0 0 s6.2.2.1.length), (11, slV Cells 3 0 0 s6.2.2.2.1.length), (48, .sc (.int .i64 r3.1)), (49, .sc (.int .i64 s6.2.2.2.2))] (lblks 0 [boxB (α := spymake_Stream) false s6.1, arrB (α := Int) 28 0 true s6.2.1, arrB (α := Cells) 34 0 true s6.2.2.1, arrB (α := Cells) 34 0 true s6.2.2.2.1]) 4) (fun z7 : (List Int) × (List Cells) × (List Cells) => LS.mk [(4, .sc (.int .i64 r1.1)), (5, .sc (.int .i64 r2.1)), (7, rowV (α := Int) true r4.1), (9, slV Int 0 0 0 z7.1.length), (10, slV Cells 1 0 0 z7.2.1.length), (11, slV Cells 2 0 0 z7.2.2.length)] (lblks 0 [arrB (α := Int) 28 0 true z7.1, arrB (α := Cells) 34 0 true z7.2.1, arrB (α := Cells) 34 0 true z7.2.2]) 3) (spykeep4_StackTrue.l1 r1 r2 r3 r4) hR (s0 := (r4.2.2, List.replicate (w6 (r1.1 * r2.1)).toNat (0 : Int), ([] : List Cells), ([] : List Cells), 0)) (Weak.turnL [(12, 0), (104, 0), (128, 0), (129, 0)] [] rfl rfl (tc (trP' rfl rfl rfl rfl) (tc (.sc _) (tc (.sc _) (tc trR1 (tc (trS' rfl rfl rfl rfl rfl) (tc (trS' rfl rfl rfl rfl rfl) (tc (trS' rfl rfl rfl rfl rfl) (tc (.sc _) (tc (.sc _) tn))))))))) (mc rfl (.box rfl (.cons trR1 (.cons (.sc _) (.nil))) rfl) (mc rfl (btrA' rfl) (mc rfl (btrA' rfl) (mc rfl (btrA' rfl) mn))))) (fun s6 o6 hR => ?_) fun z7 hR => ?_
  · unfold spykeep4_StackTrue.l1 at hR
    refine AWP.sq ?_
    refine AWP.rgC 8 rfl rfl ?_
    refine pu (v := .sc _) rfl rfl (fun _ => rfl) ?_
    refine RunC.fin ?_
    refine AWP.sq ?_
    refine AWP.cd hR rfl (fun h8 hR => ?_) fun h8 hR => ?_
    · refine AWP.skip ?_
      refine skT ?_
      refine AWP.sq ?_
      refine AWP.block ?_
      refine AWP.sq ?_
      refine AWP.rgC 44 rfl rfl ?_
      refine pu (v := .ptr _ _ _) rfl rfl (fun _ => rfl) ?_
      refine pu (v := .sc _) rfl rfl (fun _ => rfl) ?_
      refine pu (v := .sc _) rfl rfl (fun _ => rfl) ?_
      obtain ⟨r9, hr9, hR⟩ := bindE hR
      refine cps (res' := .tup [rowV (α := Int) true r9.1, .sc (.int .i64 r9.2.1)]) (ups := [(0, boxB (α := spymake_Stream) false r9.2.2)]) [0] 20 rfl rfl rfl cb5 (ok5 s6.1 r1.1 r2.1 1 _ hr9) (.cons (ldP rfl rfl) (.cons (.sc _) (.cons (.sc _) (.cons (.sc _) (.nil))))) (pc rfl (.box (.cons ldR' (.cons (.sc _) (.nil))) rfl) pn) rfl rfl rfl rfl rfl (by first | rfl | exact renR | exact renA | exact renS | simp only [V.ren, V.rens, renR, renA, renS] | (simp only [V.ren, V.rens, renR, renA, renS]; rfl)) (by simp only [passUps, renBox, renArr]; rfl) ?_
      refine pu (v := .tup _) rfl rfl (fun _ => rfl) ?_
      refine pu (v := rowV _ r9.1) rfl rfl (fun _ => rfl) ?_
      refine pu (v := .sc _) rfl rfl (fun _ => rfl) ?_
      refine pu (v := rowV _ r9.1) rfl rfl (fun _ => rfl) ?_
      refine pu (v := .sc _) rfl rfl (fun _ => rfl) ?_
      refine RunC.fin ?_
      refine AWP.sq ?_
      refine AWP.rgC 116 rfl rfl ?_
      refine pu (v := slV Cells _ _ _ _) rfl rfl (fun _ => rfl) ?_
      refine pu (v := .ptr _ _ _) rfl rfl (fun _ => rfl) ?_
      refine pu (v := .sc _) rfl rfl (fun _ => rfl) ?_
      refine pu (v := .sc _) rfl rfl (fun _ => rfl) ?_
      refine pu (v := rowV _ r9.1) rfl rfl (fun _ => rfl) ?_
      obtain ⟨r10, hr10, hR⟩ := bindE hR
      refine cps (res' := aggV (α := Cells) true r10.1) (ups := [(0, boxB (α := spymake_Stream) false r10.2)]) [0] 64 rfl rfl rfl cb6 (ok6 r9.2.2 r1.1 r2.1 r9.1 true _ hr10) (.cons (ldP rfl rfl) (.cons (.sc _) (.cons (.sc _) (.cons ldR' (.cons (.sc _) (.nil)))))) (pc rfl (.box (.cons ldR' (.cons (.sc _) (.nil))) rfl) pn) rfl rfl rfl rfl rfl (by first | rfl | exact renR | exact renA | exact renS | simp only [V.ren, V.rens, renR, renA, renS] | (simp only [V.ren, V.rens, renR, renA, renS]; rfl)) (by simp only [passUps, renBox, renArr]; rfl) ?_
      refine bs (α := Cells) 68 true ([r10.1] : List Cells) rfl rfl ti31 rfl ti34 rfl rfl rfl rfl rfl ?_
      obtain ⟨h11, hR⟩ := chkE hR
      refine ap' (α := Cells) (nw := true) (xs := s6.2.2.1) (ys := ([r10.1] : List Cells)) rfl rfl rfl rfl (srcS' rfl rfl rfl) ti31 rfl ti34 rfl h11 rfl ?_
      refine pu (v := slV Cells _ _ _ _) rfl rfl (fun _ => rfl) ?_
      refine pu (v := .ptr _ _ _) rfl rfl (fun _ => rfl) ?_
      refine pu (v := .sc _) rfl rfl (fun _ => rfl) ?_
      refine pu (v := .sc _) rfl rfl (fun _ => rfl) ?_
      refine pu (v := rowV _ r4.1) rfl rfl (fun _ => rfl) ?_
      obtain ⟨r12, hr12, hR⟩ := bindE hR
      refine cps (res' := aggV (α := Cells) true r12.1) (ups := [(0, boxB (α := spymake_Stream) false r12.2)]) [0] 96 rfl rfl rfl cb6 (ok6 r10.2 r1.1 r2.1 r4.1 true _ hr12) (.cons (ldP rfl rfl) (.cons (.sc _) (.cons (.sc _) (.cons ldR' (.cons (.sc _) (.nil)))))) (pc rfl (.box (.cons ldR' (.cons (.sc _) (.nil))) rfl) pn) rfl rfl rfl rfl rfl (by first | rfl | exact renR | exact renA | exact renS | simp only [V.ren, V.rens, renR, renA, renS] | (simp only [V.ren, V.rens, renR, renA, renS]; rfl)) (by simp only [passUps, renBox, renArr]; rfl) ?_
      refine bs (α := Cells) 100 true ([r12.1] : List Cells) rfl rfl ti31 rfl ti34 rfl rfl rfl rfl rfl ?_
      obtain ⟨h13, hR⟩ := chkE hR
      refine ap' (α := Cells) (nw := true) (xs := s6.2.2.2.1) (ys := ([r12.1] : List Cells)) rfl rfl rfl rfl (srcS' rfl rfl rfl) ti31 rfl ti34 rfl h13 rfl ?_
      refine pu (v := slV Cells _ _ _ _) rfl rfl (fun _ => rfl) ?_
      refine pu (v := slV Cells _ _ _ _) rfl rfl (fun _ => rfl) ?_
      refine RunC.fin ?_
      refine AWP.sq ?_
      refine AWP.rgC 128 rfl rfl ?_
      refine pu (v := rowV _ r9.1) rfl rfl (fun _ => rfl) ?_
      refine lenL (α := Int) rfl rfl ti27 rfl ?_
      refine pu (v := .sc _) rfl rfl (fun _ => rfl) ?_
      refine RunC.fin ?_
      refine AWP.loopJ (fun s14 : (List Int) × Int => LS.mk [(3, .ptr 0 0 0), (4, .sc (.int .i64 r1.1)), (5, .sc (.int .i64 r2.1)), (7, rowV (α := Int) true r4.1), (9, slV Int 1 0 0 s14.1.length), (10, slV Cells 2 0 0 (s6.2.2.1 ++ ([r10.1] : List Cells)).length), (11, slV Cells 3 0 0 (s6.2.2.2.1 ++ ([r12.1] : List Cells)).length), (48, .sc (.int .i64 r3.1)), (49, .sc (.int .i64 s6.2.2.2.2)), (74, rowV (α := Int) true r9.1), (75, .sc (.int .i64 (r9.1.length : Int))), (76, .sc (.int .i64 s14.2))] (lblks 0 [boxB (α := spymake_Stream) false r12.2, arrB (α := Int) 28 0 true s14.1, arrB (α := Cells) 34 0 true (s6.2.2.1 ++ ([r10.1] : List Cells)), arrB (α := Cells) 34 0 true (s6.2.2.2.1 ++ ([r12.1] : List Cells))]) 4) (fun z15 : (List Int) => LS.mk [(3, .ptr 0 0 0), (4, .sc (.int .i64 r1.1)), (5, .sc (.int .i64 r2.1)), (7, rowV (α := Int) true r4.1), (9, slV Int 1 0 0 z15.length), (10, slV Cells 2 0 0 (s6.2.2.1 ++ ([r10.1] : List Cells)).length), (11, slV Cells 3 0 0 (s6.2.2.2.1 ++ ([r12.1] : List Cells)).length), (48, .sc (.int .i64 r3.1)), (49, .sc (.int .i64 s6.2.2.2.2))] (lblks 0 [boxB (α := spymake_Stream) false r12.2, arrB (α := Int) 28 0 true z15, arrB (α := Cells) 34 0 true (s6.2.2.1 ++ ([r10.1] : List Cells)), arrB (α := Cells) 34 0 true (s6.2.2.2.1 ++ ([r12.1] : List Cells))]) 4) (spykeep4_StackTrue.l2 r9) hR (s0 := (s6.2.1, 0)) (Weak.turnL [(0, 0), (1, 0), (2, 0), (3, 0)] [] rfl rfl (tc (trP' rfl rfl rfl rfl) (tc (.sc _) (tc (.sc _) (tc trR1 (tc (trS' rfl rfl rfl rfl rfl) (tc (trS' rfl rfl rfl rfl rfl) (tc (trS' rfl rfl rfl rfl rfl) (tc (.sc _) (tc (.sc _) (tc trR1 (tc (.sc _) (tc (.sc _) tn)))))))))))) (mc rfl (.box rfl (.cons trR1 (.cons (.sc _) (.nil))) rfl) (mc rfl (btrA' rfl) (mc rfl (btrA' rfl) (mc rfl (btrA' rfl) mn))))) (fun s14 o14 hR => ?_) fun z15 hR => ?_
      · unfold spykeep4_StackTrue.l2 at hR
        refine AWP.sq ?_
        refine AWP.rgC 8 rfl rfl ?_
        refine pu (v := .sc _) rfl rfl (fun _ => rfl) ?_
        refine RunC.fin ?_
        refine AWP.sq ?_
        refine AWP.cd hR rfl (fun h16 hR => ?_) fun h16 hR => ?_
        · refine AWP.skip ?_
          refine skT ?_
          refine AWP.sq ?_
          refine AWP.block ?_
          refine AWP.sq ?_
          refine AWP.rgC 28 rfl rfl ?_
          refine pu (v := .sc _) rfl rfl (fun _ => rfl) ?_
          obtain ⟨h17, hR⟩ := chkE hR
          refine ixL (α := Int) rfl rfl rfl ti27 rfl ti28 rfl h17 ?_
          refine ldR (v := .sc _) rfl rfl ti28 rfl ?_
          refine pu (v := .sc _) rfl rfl (fun _ => rfl) ?_
          refine pu (v := .sc _) rfl rfl (fun _ => rfl) ?_
          refine RunC.fin ?_
          refine AWP.rgC 60 rfl rfl ?_
          refine pu (v := slV Int _ _ _ _) rfl rfl (fun _ => rfl) ?_
          refine pu (v := .sc _) rfl rfl (fun _ => rfl) ?_
          obtain ⟨h18, hR⟩ := chkE hR
          refine ixS0 (α := Int) rfl rfl rfl ti27 rfl ti28 rfl h18 ?_
          refine ldE (α := Int) (v := .sc _) rfl rfl rfl (ixlt h18) ti28 rfl rfl rfl rfl ?_
          refine pu (v := .sc _) rfl rfl (fun _ => rfl) ?_
          refine pu (v := .sc _) rfl rfl (fun _ => rfl) ?_
          refine ixS0 (α := Int) rfl rfl rfl ti27 rfl ti28 rfl h18 ?_
          obtain ⟨v19, ev19, hR⟩ := letE hR
          refine stE (α := Int) (y := w6 ((gt s14.1 s14.2) + (gt r9.1 s14.2))) rfl rfl rfl (ixlt h18) ti28 rfl rfl rfl rfl rfl ?_
          rw [ev19]
          refine RunC.blk ?_
          refine RunC.fin ?_
          refine AWP.rgC 68 rfl rfl ?_
          refine pu (v := .sc _) rfl rfl (fun _ => rfl) ?_
          refine pu (v := .sc _) rfl rfl (fun _ => rfl) ?_
          refine RunC.fin ?_
          refine ⟨(v19, w6 (s14.2 + 1)), (Option.some.inj hR).symm, ?_⟩
          exact Weak.turnL [(0, 0), (1, 0), (2, 0), (3, 0)] [] rfl rfl (tc (trP' rfl rfl rfl rfl) (tc (.sc _) (tc (.sc _) (tc trR1 (tc (trS' rfl rfl rfl rfl (by subst ev19; simp only [List.length_set])) (tc (trS' rfl rfl rfl rfl rfl) (tc (trS' rfl rfl rfl rfl rfl) (tc (.sc _) (tc (.sc _) (tc trR1 (tc (.sc _) (tc (.sc _) tn)))))))))))) (mc rfl (.box rfl (.cons trR1 (.cons (.sc _) (.nil))) rfl) (mc rfl (btrA' rfl) (mc rfl (btrA' rfl) (mc rfl (btrA' rfl) mn))))
        · refine AWP.exit ?_
          refine exT ?_
          refine exT ?_
          refine exH (skT ?_)
          refine ⟨s14.1, (Option.some.inj hR).symm, ?_⟩
          exact Weak.turnL [(0, 0), (1, 0), (2, 0), (3, 0)] [] rfl rfl (tc (trP' rfl rfl rfl rfl) (tc (.sc _) (tc (.sc _) (tc trR1 (tc (trS' rfl rfl rfl rfl rfl) (tc (trS' rfl rfl rfl rfl rfl) (tc (trS' rfl rfl rfl rfl rfl) (tc (.sc _) (tc (.sc _) tn))))))))) (mc rfl (.box rfl (.cons trR1 (.cons (.sc _) (.nil))) rfl) (mc rfl (btrA' rfl) (mc rfl (btrA' rfl) (mc rfl (btrA' rfl) mn))))
      · refine skB ?_
        refine skT ?_
        refine AWP.rgC 12 rfl rfl ?_
        refine pu (v := .sc _) rfl rfl (fun _ => rfl) ?_
        refine pu (v := .sc _) rfl rfl (fun _ => rfl) ?_
        refine RunC.fin ?_
        refine ⟨(r12.2, z15, s6.2.2.1 ++ ([r10.1] : List Cells), s6.2.2.2.1 ++ ([r12.1] : List Cells), w6 (s6.2.2.2.2 + 1)), (Option.some.inj hR).symm, ?_⟩
        exact Weak.turnL [(0, 0), (1, 0), (2, 0), (3, 0)] [] rfl rfl (tc (trP' rfl rfl rfl rfl) (tc (.sc _) (tc (.sc _) (tc trR1 (tc (trS' rfl rfl rfl rfl rfl) (tc (trS' rfl rfl rfl rfl rfl) (tc (trS' rfl rfl rfl rfl rfl) (tc (.sc _) (tc (.sc _) tn))))))))) (mc rfl (.box rfl (.cons trR1 (.cons (.sc _) (.nil))) rfl) (mc rfl (btrA' rfl) (mc rfl (btrA' rfl) (mc rfl (btrA' rfl) mn))))
    · refine AWP.exit ?_
      refine exT ?_
      refine exT ?_
      refine exH (skT ?_)
      refine ⟨(s6.2.1, s6.2.2.1, s6.2.2.2.1), (Option.some.inj hR).symm, ?_⟩
      exact Weak.turnL [(1, 0), (2, 0), (3, 0)] [] rfl rfl (tc (.sc _) (tc (.sc _) (tc trR1 (tc (trS' rfl rfl rfl rfl rfl) (tc (trS' rfl rfl rfl rfl rfl) (tc (trS' rfl rfl rfl rfl rfl) tn)))))) (mc rfl (btrA' rfl) (mc rfl (btrA' rfl) (mc rfl (btrA' rfl) mn)))
  · refine skT ?_
    refine AWP.sq ?_
    refine AWP.rgC 35 rfl rfl ?_
    refine pu (v := slV Cells _ _ _ _) rfl rfl (fun _ => rfl) ?_
    obtain ⟨r20, hr20, hR⟩ := bindE hR
    refine cls [1] rfl rfl cb7 (ok7 z7.2.1 _ hr20) (.cons (ldS' rfl rfl rfl rfl) (.nil)) (.inl (by first | rfl | exact freshR | exact freshA | (simp only [V.fresh, V.freshs, freshR, freshA, Bool.and_self]))) rfl ?_
    refine pu (v := .tup _) rfl rfl (fun _ => rfl) ?_
    refine pu (v := .agg _) rfl rfl (fun _ => rfl) ?_
    refine pu (v := .sc _) rfl rfl (fun _ => rfl) ?_
    refine al (cs := [.sc (.int .i64 0), .sc (.int .i64 0), .sc (.slice none 0 0)]) 23 rfl rfl ti34 rfl rfl ?_
    refine stB (cs' := [.sc (.int .i64 r20.1.W), .sc (.int .i64 r20.1.H), rowV (α := Bound) true r20.1.At]) rfl rfl rfl rfl ti34 rfl rfl rfl rfl rfl ?_
    refine pu (v := .sc _) rfl rfl (fun _ => rfl) ?_
    refine RunC.fin ?_
    refine AWP.sq ?_
    refine AWP.rgC 75 rfl rfl ?_
    refine pu (v := .sc _) rfl rfl (fun _ => rfl) ?_
    refine pu (v := .sc _) rfl rfl (fun _ => rfl) ?_
    refine pu (v := slV Cells _ _ _ _) rfl rfl (fun _ => rfl) ?_
    obtain ⟨r21, hr21, hR⟩ := bindE hR
    refine cls [2] rfl rfl cb8 (ok8 r1.1 r2.1 z7.2.2 _ hr21) (.cons (.sc _) (.cons (.sc _) (.cons (ldS' rfl rfl rfl rfl) (.nil)))) (.inl (by first | rfl | exact freshR | exact freshA | (simp only [V.fresh, V.freshs, freshR, freshA, Bool.and_self]))) rfl ?_
    refine pu (v := .tup _) rfl rfl (fun _ => rfl) ?_
    refine pu (v := .agg _) rfl rfl (fun _ => rfl) ?_
    refine pu (v := .sc _) rfl rfl (fun _ => rfl) ?_
    refine al (cs := [.sc (.int .i64 0), .sc (.int .i64 0), .sc (.int .i64 0), .sc (.slice none 0 0), .sc (.slice none 0 0)]) 63 rfl rfl ti40 rfl rfl ?_
    refine stB (cs' := [.sc (.int .i64 r21.1.W), .sc (.int .i64 r21.1.H), .sc (.int .i64 r21.1.N), rowV (α := Int) true r21.1.Holes, rowV (α := Bound) true r21.1.At]) rfl rfl rfl rfl ti40 rfl rfl rfl rfl rfl ?_
    refine pu (v := .sc _) rfl rfl (fun _ => rfl) ?_
    refine RunC.fin ?_
    refine AWP.sq ?_
    refine AWP.rgC 107 rfl rfl ?_
    refine ldB (v := .agg _) rfl rfl rfl rfl ti40 rfl rfl ?_
    obtain ⟨r22, hr22, hR⟩ := bindE hR
    refine cls [] rfl rfl cb9 (ok9 r21.1 _ hr22) (.cons (.agg (.cons (.sc _) (.cons (.sc _) (.cons (.sc _) (.cons ldR' (.cons ldR' (.nil)))))) rfl) (.nil)) (.inr rfl) rfl ?_
    refine pu (v := .tup _) rfl rfl (fun _ => rfl) ?_
    refine pu (v := .agg _) rfl rfl (fun _ => rfl) ?_
    refine pu (v := .sc _) rfl rfl (fun _ => rfl) ?_
    refine al (cs := [.sc (.int .i64 0), .sc (.int .i64 0), .sc (.slice none 0 0)]) 95 rfl rfl ti34 rfl rfl ?_
    refine stB (cs' := [.sc (.int .i64 r22.1.W), .sc (.int .i64 r22.1.H), rowV (α := Bound) true r22.1.At]) rfl rfl rfl rfl ti34 rfl rfl rfl rfl rfl ?_
    refine pu (v := .sc _) rfl rfl (fun _ => rfl) ?_
    refine RunC.fin ?_
    refine AWP.sq ?_
    refine AWP.joinX (fun z23 : Bool => LS.mk [(7, rowV (α := Int) true r4.1), (9, slV Int 0 0 0 z7.1.length), (10, slV Cells 1 0 0 z7.2.1.length), (11, slV Cells 2 0 0 z7.2.2.length), (16, .ptr 3 0 0), (20, .ptr 4 0 0), (138, .sc (.bool z23))] (lblks 0 [arrB (α := Int) 28 0 true z7.1, arrB (α := Cells) 34 0 true z7.2.1, arrB (α := Cells) 34 0 true z7.2.2, boxB (α := Cells) true r20.1, boxB (α := Cells) true r22.1]) 5) hR (fun o23 hR => ?_) fun z23 hR => ?_
    · refine AWP.rgC 235 rfl rfl ?_
      obtain ⟨r24, hr24, hR⟩ := bindE hR
      refine cls [] rfl rfl cb10 (ok10 _ hr24) (.nil) (.inr rfl) rfl ?_
      refine pu (v := .sc _) rfl rfl (fun _ => rfl) ?_
      refine pu (v := .sc _) rfl rfl (fun _ => rfl) ?_
      refine brR hR (fun h25 hR => ?_) fun h25 hR => ?_
      · refine sk (skW rfl rfl rfl h25) ?_
        refine sk (skW rfl rfl rfl h25) ?_
        refine pkT (v := .sc (.bool true)) rfl rfl h25 rfl ?_
        refine pu (v := .sc _) rfl rfl (fun _ => rfl) ?_
        refine sk (skW rfl rfl rfl rfl) ?_
        refine sk (skW rfl rfl rfl rfl) ?_
        refine pkT (v := .sc (.bool true)) rfl rfl rfl rfl ?_
        refine pu (v := .sc _) rfl rfl (fun _ => rfl) ?_
        refine sk (skW rfl rfl rfl rfl) ?_
        refine sk (skW rfl rfl rfl rfl) ?_
        refine pkT (v := .sc (.bool true)) rfl rfl rfl rfl ?_
        refine pu (v := .sc _) rfl rfl (fun _ => rfl) ?_
        refine sk (skW rfl rfl rfl rfl) ?_
        refine sk (skW rfl rfl rfl rfl) ?_
        refine sk (skW rfl rfl rfl rfl) ?_
        refine sk (skW rfl rfl rfl rfl) ?_
        refine sk (skW rfl rfl rfl rfl) ?_
        refine sk (skW rfl rfl rfl rfl) ?_
        refine sk (skW rfl rfl rfl rfl) ?_
        refine pkT (v := .sc (.bool true)) rfl rfl rfl rfl ?_
        refine pu (v := .sc _) rfl rfl (fun _ => rfl) ?_
        refine sk (skW rfl rfl rfl rfl) ?_
        refine sk (skW rfl rfl rfl rfl) ?_
        refine sk (skW rfl rfl rfl rfl) ?_
        refine sk (skW rfl rfl rfl rfl) ?_
        refine sk (skW rfl rfl rfl rfl) ?_
        refine sk (skW rfl rfl rfl rfl) ?_
        refine sk (skW rfl rfl rfl rfl) ?_
        refine pkT (v := .sc (.bool true)) rfl rfl rfl rfl ?_
        refine RunC.fin ?_
        have hR := Option.some.inj hR; subst hR
        exact Weak.turnL [(0, 0), (1, 0), (2, 0), (23, 0), (95, 0)] [] rfl rfl (tc trR1 (tc (trS' rfl rfl rfl rfl rfl) (tc (trS' rfl rfl rfl rfl rfl) (tc (trS' rfl rfl rfl rfl rfl) (tc (trP' rfl rfl rfl rfl) (tc (trP' rfl rfl rfl rfl) (tc (.sc _) tn))))))) (mc rfl (btrA' rfl) (mc rfl (btrA' rfl) (mc rfl (btrA' rfl) (mc rfl (.box rfl (.cons (.sc _) (.cons (.sc _) (.cons trR1 (.nil)))) rfl) (mc rfl (.box rfl (.cons (.sc _) (.cons (.sc _) (.cons trR1 (.nil)))) rfl) mn)))))
      · refine pu (v := .sc _) (wtG rfl rfl rfl h25) rfl (fun _ => rfl) ?_
        refine pu (v := .sc _) (wtG rfl rfl rfl h25) rfl (fun _ => rfl) ?_
        refine pkF (v := .sc (.bool (r20.2 != 0))) rfl rfl h25 rfl ?_
        refine pu (v := .sc _) rfl rfl (fun _ => rfl) ?_
        refine brR hR (fun h26 hR => ?_) fun h26 hR => ?_
        · refine sk (skW rfl rfl rfl h26) ?_
          refine sk (skW rfl rfl rfl h26) ?_
          refine pkT (v := .sc (.bool true)) rfl rfl h26 rfl ?_
          refine pu (v := .sc _) rfl rfl (fun _ => rfl) ?_
          refine sk (skW rfl rfl rfl rfl) ?_
          refine sk (skW rfl rfl rfl rfl) ?_
          refine pkT (v := .sc (.bool true)) rfl rfl rfl rfl ?_
          refine pu (v := .sc _) rfl rfl (fun _ => rfl) ?_
          refine sk (skW rfl rfl rfl rfl) ?_
          refine sk (skW rfl rfl rfl rfl) ?_
          refine sk (skW rfl rfl rfl rfl) ?_
          refine sk (skW rfl rfl rfl rfl) ?_
          refine sk (skW rfl rfl rfl rfl) ?_
          refine sk (skW rfl rfl rfl rfl) ?_
          refine sk (skW rfl rfl rfl rfl) ?_
          refine pkT (v := .sc (.bool true)) rfl rfl rfl rfl ?_
          refine pu (v := .sc _) rfl rfl (fun _ => rfl) ?_
          refine sk (skW rfl rfl rfl rfl) ?_
          refine sk (skW rfl rfl rfl rfl) ?_
          refine sk (skW rfl rfl rfl rfl) ?_
          refine sk (skW rfl rfl rfl rfl) ?_
          refine sk (skW rfl rfl rfl rfl) ?_
          refine sk (skW rfl rfl rfl rfl) ?_
          refine sk (skW rfl rfl rfl rfl) ?_
          refine pkT (v := .sc (.bool true)) rfl rfl rfl rfl ?_
          refine RunC.fin ?_
          have hR := Option.some.inj hR; subst hR
          exact Weak.turnL [(0, 0), (1, 0), (2, 0), (23, 0), (95, 0)] [] rfl rfl (tc trR1 (tc (trS' rfl rfl rfl rfl rfl) (tc (trS' rfl rfl rfl rfl rfl) (tc (trS' rfl rfl rfl rfl rfl) (tc (trP' rfl rfl rfl rfl) (tc (trP' rfl rfl rfl rfl) (tc (.sc _) tn))))))) (mc rfl (btrA' rfl) (mc rfl (btrA' rfl) (mc rfl (btrA' rfl) (mc rfl (.box rfl (.cons (.sc _) (.cons (.sc _) (.cons trR1 (.nil)))) rfl) (mc rfl (.box rfl (.cons (.sc _) (.cons (.sc _) (.cons trR1 (.nil)))) rfl) mn)))))
        · refine pu (v := .sc _) (wtG rfl rfl rfl h26) rfl (fun _ => rfl) ?_
          refine pu (v := .sc _) (wtG rfl rfl rfl h26) rfl (fun _ => rfl) ?_
          refine pkF (v := .sc (.bool (r21.2 != 0))) rfl rfl h26 rfl ?_
          refine pu (v := .sc _) rfl rfl (fun _ => rfl) ?_
          refine brR hR (fun h27 hR => ?_) fun h27 hR => ?_
          · refine sk (skW rfl rfl rfl h27) ?_
            refine sk (skW rfl rfl rfl h27) ?_
            refine pkT (v := .sc (.bool true)) rfl rfl h27 rfl ?_
            refine pu (v := .sc _) rfl rfl (fun _ => rfl) ?_
            refine sk (skW rfl rfl rfl rfl) ?_
            refine sk (skW rfl rfl rfl rfl) ?_
            refine sk (skW rfl rfl rfl rfl) ?_
            refine sk (skW rfl rfl rfl rfl) ?_
            refine sk (skW rfl rfl rfl rfl) ?_
            refine sk (skW rfl rfl rfl rfl) ?_
            refine sk (skW rfl rfl rfl rfl) ?_
            refine pkT (v := .sc (.bool true)) rfl rfl rfl rfl ?_
            refine pu (v := .sc _) rfl rfl (fun _ => rfl) ?_
            refine sk (skW rfl rfl rfl rfl) ?_
            refine sk (skW rfl rfl rfl rfl) ?_
            refine sk (skW rfl rfl rfl rfl) ?_
            refine sk (skW rfl rfl rfl rfl) ?_
            refine sk (skW rfl rfl rfl rfl) ?_
            refine sk (skW rfl rfl rfl rfl) ?_
            refine sk (skW rfl rfl rfl rfl) ?_
            refine pkT (v := .sc (.bool true)) rfl rfl rfl rfl ?_
            refine RunC.fin ?_
            have hR := Option.some.inj hR; subst hR
            exact Weak.turnL [(0, 0), (1, 0), (2, 0), (23, 0), (95, 0)] [] rfl rfl (tc trR1 (tc (trS' rfl rfl rfl rfl rfl) (tc (trS' rfl rfl rfl rfl rfl) (tc (trS' rfl rfl rfl rfl rfl) (tc (trP' rfl rfl rfl rfl) (tc (trP' rfl rfl rfl rfl) (tc (.sc _) tn))))))) (mc rfl (btrA' rfl) (mc rfl (btrA' rfl) (mc rfl (btrA' rfl) (mc rfl (.box rfl (.cons (.sc _) (.cons (.sc _) (.cons trR1 (.nil)))) rfl) (mc rfl (.box rfl (.cons (.sc _) (.cons (.sc _) (.cons trR1 (.nil)))) rfl) mn)))))
          · refine pu (v := .sc _) (wtG rfl rfl rfl h27) rfl (fun _ => rfl) ?_
            refine pu (v := .sc _) (wtG rfl rfl rfl h27) rfl (fun _ => rfl) ?_
            refine pkF (v := .sc (.bool (r22.2 != 0))) rfl rfl h27 rfl ?_
            refine pu (v := .sc _) rfl rfl (fun _ => rfl) ?_
            refine brR hR (fun h28 hR => ?_) fun h28 hR => ?_
            · refine sk (skW rfl rfl rfl h28) ?_
              refine sk (skW rfl rfl rfl h28) ?_
              refine sk (skW rfl rfl rfl h28) ?_
              refine sk (skW rfl rfl rfl h28) ?_
              refine sk (skW rfl rfl rfl h28) ?_
              refine sk (skW rfl rfl rfl h28) ?_
              refine sk (skW rfl rfl rfl h28) ?_
              refine pkT (v := .sc (.bool true)) rfl rfl h28 rfl ?_
              refine pu (v := .sc _) rfl rfl (fun _ => rfl) ?_
              refine sk (skW rfl rfl rfl rfl) ?_
              refine sk (skW rfl rfl rfl rfl) ?_
              refine sk (skW rfl rfl rfl rfl) ?_
              refine sk (skW rfl rfl rfl rfl) ?_
              refine sk (skW rfl rfl rfl rfl) ?_
              refine sk (skW rfl rfl rfl rfl) ?_
              refine sk (skW rfl rfl rfl rfl) ?_
              refine pkT (v := .sc (.bool true)) rfl rfl rfl rfl ?_
              refine RunC.fin ?_
              have hR := Option.some.inj hR; subst hR
              exact Weak.turnL [(0, 0), (1, 0), (2, 0), (23, 0), (95, 0)] [] rfl rfl (tc trR1 (tc (trS' rfl rfl rfl rfl rfl) (tc (trS' rfl rfl rfl rfl rfl) (tc (trS' rfl rfl rfl rfl rfl) (tc (trP' rfl rfl rfl rfl) (tc (trP' rfl rfl rfl rfl) (tc (.sc _) tn))))))) (mc rfl (btrA' rfl) (mc rfl (btrA' rfl) (mc rfl (btrA' rfl) (mc rfl (.box rfl (.cons (.sc _) (.cons (.sc _) (.cons trR1 (.nil)))) rfl) (mc rfl (.box rfl (.cons (.sc _) (.cons (.sc _) (.cons trR1 (.nil)))) rfl) mn)))))
            · refine fa (wtG rfl rfl rfl h28) rfl ti34 rfl rfl ti32 rfl ?_
              refine ldB (v := rowV _ r20.1.At) (wtG rfl rfl rfl h28) rfl rfl rfl ti32 rfl rfl ?_
              refine lenL (α := Bound) (wtG rfl rfl rfl h28) rfl ti32 rfl ?_
              refine pu (v := .sc _) (wtG rfl rfl rfl h28) rfl (fun _ => rfl) ?_
              refine pu (v := .sc _) (wtG rfl rfl rfl h28) rfl (fun _ => rfl) ?_
              refine pu (v := .sc _) (wtG rfl rfl rfl h28) rfl (fun _ => rfl) ?_
              refine pu (v := .sc _) (wtG rfl rfl rfl h28) rfl (fun _ => rfl) ?_
              refine pkF (v := .sc (.bool ((r20.1.At.length : Int) != (w6 (r1.1 * r2.1))))) rfl rfl h28 rfl ?_
              refine pu (v := .sc _) rfl rfl (fun _ => rfl) ?_
              refine brR hR (fun h29 hR => ?_) fun h29 hR => ?_
              · refine sk (skW rfl rfl rfl h29) ?_
                refine sk (skW rfl rfl rfl h29) ?_
                refine sk (skW rfl rfl rfl h29) ?_
                refine sk (skW rfl rfl rfl h29) ?_
                refine sk (skW rfl rfl rfl h29) ?_
                refine sk (skW rfl rfl rfl h29) ?_
                refine sk (skW rfl rfl rfl h29) ?_
                refine pkT (v := .sc (.bool true)) rfl rfl h29 rfl ?_
                refine RunC.fin ?_
                have hR := Option.some.inj hR; subst hR
                exact Weak.turnL [(0, 0), (1, 0), (2, 0), (23, 0), (95, 0)] [] rfl rfl (tc trR1 (tc (trS' rfl rfl rfl rfl rfl) (tc (trS' rfl rfl rfl rfl rfl) (tc (trS' rfl rfl rfl rfl rfl) (tc (trP' rfl rfl rfl rfl) (tc (trP' rfl rfl rfl rfl) (tc (.sc _) tn))))))) (mc rfl (btrA' rfl) (mc rfl (btrA' rfl) (mc rfl (btrA' rfl) (mc rfl (.box rfl (.cons (.sc _) (.cons (.sc _) (.cons trR1 (.nil)))) rfl) (mc rfl (.box rfl (.cons (.sc _) (.cons (.sc _) (.cons trR1 (.nil)))) rfl) mn)))))
              · refine fa (wtG rfl rfl rfl h29) rfl ti34 rfl rfl ti32 rfl ?_
                refine ldB (v := rowV _ r22.1.At) (wtG rfl rfl rfl h29) rfl rfl rfl ti32 rfl rfl ?_
                refine lenL (α := Bound) (wtG rfl rfl rfl h29) rfl ti32 rfl ?_
                refine pu (v := .sc _) (wtG rfl rfl rfl h29) rfl (fun _ => rfl) ?_
                refine pu (v := .sc _) (wtG rfl rfl rfl h29) rfl (fun _ => rfl) ?_
                refine pu (v := .sc _) (wtG rfl rfl rfl h29) rfl (fun _ => rfl) ?_
                refine pu (v := .sc _) (wtG rfl rfl rfl h29) rfl (fun _ => rfl) ?_
                refine pkF (v := .sc (.bool ((r22.1.At.length : Int) != (w6 (r1.1 * r2.1))))) rfl rfl h29 rfl ?_
                refine RunC.fin ?_
                have hR := Option.some.inj hR; subst hR
                exact Weak.turnL [(0, 0), (1, 0), (2, 0), (23, 0), (95, 0)] [] rfl rfl (tc trR1 (tc (trS' rfl rfl rfl rfl rfl) (tc (trS' rfl rfl rfl rfl rfl) (tc (trS' rfl rfl rfl rfl rfl) (tc (trP' rfl rfl rfl rfl) (tc (trP' rfl rfl rfl rfl) (tc (.sc _) tn))))))) (mc rfl (btrA' rfl) (mc rfl (btrA' rfl) (mc rfl (btrA' rfl) (mc rfl (.box rfl (.cons (.sc _) (.cons (.sc _) (.cons trR1 (.nil)))) rfl) (mc rfl (.box rfl (.cons (.sc _) (.cons (.sc _) (.cons trR1 (.nil)))) rfl) mn)))))
    · refine AWP.cd hR rfl (fun h30 hR => ?_) fun h30 hR => ?_
      · refine AWP.sq ?_
        refine AWP.rgC 9 rfl rfl ?_
        refine pu (v := .sc _) rfl rfl (fun _ => rfl) ?_
        refine RunC.fin ?_
        refine AWP.ret ?_
        refine rtT ?_
        have hR := Option.some.inj hR; subst hR
        exact hQ _ _ (LS.mk [(2, .sc (.bool false))] (lblks 0 []) 0) (.sc (.bool false)) [] (.inr rfl) (Weak.turnL [] [] rfl rfl (tc (.sc _) tn) mn) (ro1 (rvT (v := .sc (.bool false)) rfl)) rfl rfl (.sc _) pn
      · refine AWP.skip ?_
        refine skT ?_
        refine AWP.sq ?_
        refine AWP.sq ?_
        refine AWP.rgC 17 rfl rfl ?_
        refine pu (v := slV Int _ _ _ _) rfl rfl (fun _ => rfl) ?_
        refine lenS (α := Int) rfl rfl ti27 rfl ?_
        refine pu (v := .sc _) rfl rfl (fun _ => rfl) ?_
        refine RunC.fin ?_
        refine AWP.loopK' (fun s31 : Int => LS.mk [(7, rowV (α := Int) true r4.1), (9, slV Int 0 0 0 z7.1.length), (10, slV Cells 1 0 0 z7.2.1.length), (11, slV Cells 2 0 0 z7.2.2.length), (16, .ptr 3 0 0), (20, .ptr 4 0 0), (140, .sc (.int .i64 (z7.1.length : Int))), (141, .sc (.int .i64 s31))] (lblks 0 [arrB (α := Int) 28 0 true z7.1, arrB (α := Cells) 34 0 true z7.2.1, arrB (α := Cells) 34 0 true z7.2.2, boxB (α := Cells) true r20.1, boxB (α := Cells) true r22.1]) 5) (fun z32 : Unit => LS.mk [] (lblks 0 []) 0) (spykeep4_StackTrue.l3 r4 z7 r20 r22) hR (s0 := 0) (Weak.turnL [(0, 0), (1, 0), (2, 0), (3, 0), (4, 0)] [] rfl rfl (tc trR1 (tc (trS' rfl rfl rfl rfl rfl) (tc (trS' rfl rfl rfl rfl rfl) (tc (trS' rfl rfl rfl rfl rfl) (tc (trP' rfl rfl rfl rfl) (tc (trP' rfl rfl rfl rfl) (tc (.sc _) (tc (.sc _) tn)))))))) (mc rfl (btrA' rfl) (mc rfl (btrA' rfl) (mc rfl (btrA' rfl) (mc rfl (.box rfl (.cons (.sc _) (.cons (.sc _) (.cons trR1 (.nil)))) rfl) (mc rfl (.box rfl (.cons (.sc _) (.cons (.sc _) (.cons trR1 (.nil)))) rfl) mn)))))) (fun s31 o31 hR hE31 => ?_) fun z32 hR => ?_
        · unfold spykeep4_StackTrue.l3 at hR
          refine AWP.sq ?_
          refine AWP.rgC 9 rfl rfl ?_
          refine pu (v := .sc _) rfl rfl (fun _ => rfl) ?_
          refine RunC.fin ?_
          refine AWP.sq ?_
          refine AWP.cd hR rfl (fun h33 hR => ?_) fun h33 hR => ?_
          · refine AWP.skip ?_
            refine skT ?_
            refine AWP.sq ?_
            refine AWP.block ?_
            refine AWP.sq ?_
            refine AWP.rgC 17 rfl rfl ?_
            refine pu (v := .sc _) rfl rfl (fun _ => rfl) ?_
            refine pu (v := .sc _) rfl rfl (fun _ => rfl) ?_
            refine RunC.fin ?_
            refine AWP.sq ?_
            refine AWP.rgD 73 [0, 1, 0, 7, 15, 0, 32, 0, 224, 480, 0, 0, 3103, 8191] ⟨[], [none, some [3], none, none, some [], none, some [4], none, none, some [], none, none, some [57], some [61]]⟩ hmix (by kernel_rfl) rfl rfl ?_
            refine fa rfl rfl ti34 rfl rfl ti32 rfl ?_
            refine ldB (v := rowV _ r20.1.At) rfl rfl rfl rfl ti32 rfl rfl ?_
            refine pu (v := .sc _) rfl rfl (fun _ => rfl) ?_
            obtain ⟨h34, hR⟩ := chkE hR
            refine ixL (α := Bound) rfl rfl rfl ti32 rfl ti46 rfl h34 ?_
            refine ldR (v := .agg _) rfl rfl ti46 rfl ?_
            refine fa rfl rfl ti34 rfl rfl ti32 rfl ?_
            refine ldB (v := rowV _ r22.1.At) rfl rfl rfl rfl ti32 rfl rfl ?_
            refine pu (v := .sc _) rfl rfl (fun _ => rfl) ?_
            obtain ⟨h35, hR⟩ := chkE hR
            refine ixL (α := Bound) rfl rfl rfl ti32 rfl ti46 rfl h35 ?_
            refine ldR (v := .agg _) rfl rfl ti46 rfl ?_
            refine al (cs := [.sc (.int .i64 0), .sc (.int .i64 0), .sc (.bool false)]) 57 rfl rfl ti46 rfl rfl ?_
            refine al (cs := [.sc (.int .i64 0), .sc (.int .i64 0), .sc (.bool false)]) 61 rfl rfl ti46 rfl rfl ?_
            refine stB (cs' := [.sc (.int .i64 (gt r20.1.At s31).Lo), .sc (.int .i64 (gt r20.1.At s31).Hi), .sc (.bool (gt r20.1.At s31).Unknown)]) rfl rfl rfl rfl ti46 rfl rfl rfl rfl rfl ?_
            refine stB (cs' := [.sc (.int .i64 (gt r22.1.At s31).Lo), .sc (.int .i64 (gt r22.1.At s31).Hi), .sc (.bool (gt r22.1.At s31).Unknown)]) rfl rfl rfl rfl ti46 rfl rfl rfl rfl rfl ?_
            refine RunC.fin ?_
            refine AWP.sq ?_
            refine AWP.joinX (fun z36 : Bool => LS.mk [(7, rowV (α := Int) true r4.1), (9, slV Int 0 0 0 z7.1.length), (10, slV Cells 1 0 0 z7.2.1.length), (11, slV Cells 2 0 0 z7.2.2.length), (16, .ptr 3 0 0), (20, .ptr 4 0 0), (22, .sc (.int .i64 s31)), (23, .ptr 5 0 0), (24, .ptr 6 0 0), (140, .sc (.int .i64 (z7.1.length : Int))), (141, .sc (.int .i64 s31)), (197, .sc (.bool z36))] (lblks 0 [arrB (α := Int) 28 0 true z7.1, arrB (α := Cells) 34 0 true z7.2.1, arrB (α := Cells) 34 0 true z7.2.2, boxB (α := Cells) true r20.1, boxB (α := Cells) true r22.1, boxB (α := Bound) true (gt r20.1.At s31), boxB (α := Bound) true (gt r22.1.At s31)]) 7) hR (fun o36 hR => ?_) fun z36 hR => ?_
            · refine AWP.rgD 249 [0, 1, 3, 7, 15, 15, 63, 127, 15, 271, 1023, 2047, 4095, 4095, 16383, 32767, 4095, 69631, 262143, 524287, 1048575, 2097151, 4194303, 8388607, 16777215, 33554431, 67108863, 67108863, 268435455, 536870911, 67108863, 1140850687, 4294967295, 8589934591, 17179869183, 17179869183, 68719476735, 137438953471, 17179869183, 292057776127, 1099511627775, 2199023255551, 4398046511103, 8796093022207] ⟨[], [none, some [57], none, none, none, none, none, some [0], none, some [57], none, none, none, none, none, some [0], none, some [57], none, none, none, none, none, some [61], none, none, none, none, none, some [], none, some [61], none, none, none, none, none, some [], none, some [61], none, none, none, none]⟩ hmix (by kernel_rfl) rfl rfl ?_
              refine fa rfl rfl ti46 rfl rfl ti4 rfl ?_
              refine ldB (v := .sc _) rfl rfl rfl rfl ti4 rfl rfl ?_
              refine pu (v := .sc _) rfl rfl (fun _ => rfl) ?_
              refine pu (v := .sc _) rfl rfl (fun _ => rfl) ?_
              refine brR hR (fun h37 hR => ?_) fun h37 hR => ?_
              · refine pu (v := slV Int _ _ _ _) (wtG rfl rfl rfl h37) rfl (fun _ => rfl) ?_
                refine pu (v := .sc _) (wtG rfl rfl rfl h37) rfl (fun _ => rfl) ?_
                obtain ⟨h38, hR⟩ := chkE hR
                refine ixS0 (α := Int) (wtG rfl rfl rfl h37) rfl rfl ti27 rfl ti28 rfl h38 ?_
                refine ldE (α := Int) (v := .sc _) (wtG rfl rfl rfl h37) rfl rfl (ixlt h38) ti28 rfl rfl rfl rfl ?_
                refine fa (wtG rfl rfl rfl h37) rfl ti46 rfl rfl ti28 rfl ?_
                refine ldB (v := .sc _) (wtG rfl rfl rfl h37) rfl rfl rfl ti28 rfl rfl ?_
                refine pu (v := .sc _) (wtG rfl rfl rfl h37) rfl (fun _ => rfl) ?_
                refine pu (v := .sc _) (wtG rfl rfl rfl h37) rfl (fun _ => rfl) ?_
                refine brR hR (fun h39 hR => ?_) fun h39 hR => ?_
                · refine sk (skW rfl rfl rfl h39) ?_
                  refine sk (skW rfl rfl rfl h39) ?_
                  refine sk (skW rfl rfl rfl h39) ?_
                  refine sk (skW rfl rfl rfl h39) ?_
                  refine sk (skW rfl rfl rfl h39) ?_
                  refine sk (skW rfl rfl rfl h39) ?_
                  refine sk (skW rfl rfl rfl h39) ?_
                  refine pkT (v := .sc (.bool true)) (wtG rfl rfl rfl h37) rfl h39 rfl ?_
                  refine pkT (v := .sc (.bool true)) rfl rfl h37 rfl ?_
                  refine pu (v := .sc _) rfl rfl (fun _ => rfl) ?_
                  refine sk (skW rfl rfl rfl rfl) ?_
                  refine sk (skW rfl rfl rfl rfl) ?_
                  refine sk (skW rfl rfl rfl rfl) ?_
                  refine sk (skW rfl rfl rfl rfl) ?_
                  refine sk (skW2 rfl rfl rfl) ?_
                  refine sk (skW2 rfl rfl rfl) ?_
                  refine sk (skW2 rfl rfl rfl) ?_
                  refine sk (skW2 rfl rfl rfl) ?_
                  refine sk (skW2 rfl rfl rfl) ?_
                  refine sk (skW2 rfl rfl rfl) ?_
                  refine sk (skW2 rfl rfl rfl) ?_
                  refine sk (skW2 rfl rfl rfl) ?_
                  refine sk (skW2 rfl rfl rfl) ?_
                  refine sk (skW2 rfl rfl rfl) ?_
                  refine sk (skW2 rfl rfl rfl) ?_
                  refine sk (skW2 rfl rfl rfl) ?_
                  refine sk (skW2 rfl rfl rfl) ?_
                  refine sk (skW2 rfl rfl rfl) ?_
                  refine sk (skW2 rfl rfl rfl) ?_
                  refine sk (skW2 rfl rfl rfl) ?_
                  refine sk (skW rfl rfl rfl rfl) ?_
                  refine pkT (v := .sc (.bool true)) rfl rfl rfl rfl ?_
                  refine RunC.fin ?_
                  have hR := Option.some.inj hR; subst hR
                  exact Weak.turnL [(0, 0), (1, 0), (2, 0), (3, 0), (4, 0), (57, 0), (61, 0)] [] rfl rfl (tc trR1 (tc (trS' rfl rfl rfl rfl rfl) (tc (trS' rfl rfl rfl rfl rfl) (tc (trS' rfl rfl rfl rfl rfl) (tc (trP' rfl rfl rfl rfl) (tc (trP' rfl rfl rfl rfl) (tc (.sc _) (tc (trP' rfl rfl rfl rfl) (tc (trP' rfl rfl rfl rfl) (tc (.sc _) (tc (.sc _) (tc (.sc _) tn)))))))))))) (mc rfl (btrA' rfl) (mc rfl (btrA' rfl) (mc rfl (btrA' rfl) (mc rfl (.box rfl (.cons (.sc _) (.cons (.sc _) (.cons trR1 (.nil)))) rfl) (mc rfl (.box rfl (.cons (.sc _) (.cons (.sc _) (.cons trR1 (.nil)))) rfl) (mc rfl (.box rfl (.cons (.sc _) (.cons (.sc _) (.cons (.sc _) (.nil)))) rfl) (mc rfl (.box rfl (.cons (.sc _) (.cons (.sc _) (.cons (.sc _) (.nil)))) rfl) mn)))))))
                · refine pu (v := slV Int _ _ _ _) (wtG rfl rfl rfl h39) rfl (fun _ => rfl) ?_
                  refine pu (v := .sc _) (wtG rfl rfl rfl h39) rfl (fun _ => rfl) ?_
                  refine ixS0 (α := Int) (wtG rfl rfl rfl h39) rfl rfl ti27 rfl ti28 rfl h38 ?_
                  refine ldE (α := Int) (v := .sc _) (wtG rfl rfl rfl h39) rfl rfl (ixlt h38) ti28 rfl rfl rfl rfl ?_
                  refine fa (wtG rfl rfl rfl h39) rfl ti46 rfl rfl ti28 rfl ?_
                  refine ldB (v := .sc _) (wtG rfl rfl rfl h39) rfl rfl rfl ti28 rfl rfl ?_
                  refine pu (v := .sc _) (wtG rfl rfl rfl h39) rfl (fun _ => rfl) ?_
                  refine pkF (v := .sc (.bool (decide ((gt z7.1 s31) > (gt r20.1.At s31).Hi)))) (wtG rfl rfl rfl h37) rfl h39 rfl ?_
                  refine pkT (v := .sc (.bool (decide ((gt z7.1 s31) > (gt r20.1.At s31).Hi)))) rfl rfl h37 rfl ?_
                  refine pu (v := .sc _) rfl rfl (fun _ => rfl) ?_
                  refine brR hR (fun h40 hR => ?_) fun h40 hR => ?_
                  · refine sk (skW rfl rfl rfl h40) ?_
                    refine sk (skW rfl rfl rfl h40) ?_
                    refine sk (skW rfl rfl rfl h40) ?_
                    refine sk (skW rfl rfl rfl h40) ?_
                    refine sk (skW2 rfl rfl rfl) ?_
                    refine sk (skW2 rfl rfl rfl) ?_
                    refine sk (skW2 rfl rfl rfl) ?_
                    refine sk (skW2 rfl rfl rfl) ?_
                    refine sk (skW2 rfl rfl rfl) ?_
                    refine sk (skW2 rfl rfl rfl) ?_
                    refine sk (skW2 rfl rfl rfl) ?_
                    refine sk (skW2 rfl rfl rfl) ?_
                    refine sk (skW2 rfl rfl rfl) ?_
                    refine sk (skW2 rfl rfl rfl) ?_
                    refine sk (skW2 rfl rfl rfl) ?_
                    refine sk (skW2 rfl rfl rfl) ?_
                    refine sk (skW2 rfl rfl rfl) ?_
                    refine sk (skW2 rfl rfl rfl) ?_
                    refine sk (skW2 rfl rfl rfl) ?_
                    refine sk (skW2 rfl rfl rfl) ?_
                    refine sk (skW rfl rfl rfl h40) ?_
                    refine pkT (v := .sc (.bool true)) rfl rfl h40 rfl ?_
                    refine RunC.fin ?_
                    have hR := Option.some.inj hR; subst hR
                    exact Weak.turnL [(0, 0), (1, 0), (2, 0), (3, 0), (4, 0), (57, 0), (61, 0)] [] rfl rfl (tc trR1 (tc (trS' rfl rfl rfl rfl rfl) (tc (trS' rfl rfl rfl rfl rfl) (tc (trS' rfl rfl rfl rfl rfl) (tc (trP' rfl rfl rfl rfl) (tc (trP' rfl rfl rfl rfl) (tc (.sc _) (tc (trP' rfl rfl rfl rfl) (tc (trP' rfl rfl rfl rfl) (tc (.sc _) (tc (.sc _) (tc (.sc _) tn)))))))))))) (mc rfl (btrA' rfl) (mc rfl (btrA' rfl) (mc rfl (btrA' rfl) (mc rfl (.box rfl (.cons (.sc _) (.cons (.sc _) (.cons trR1 (.nil)))) rfl) (mc rfl (.box rfl (.cons (.sc _) (.cons (.sc _) (.cons trR1 (.nil)))) rfl) (mc rfl (.box rfl (.cons (.sc _) (.cons (.sc _) (.cons (.sc _) (.nil)))) rfl) (mc rfl (.box rfl (.cons (.sc _) (.cons (.sc _) (.cons (.sc _) (.nil)))) rfl) mn)))))))
                  · refine fa (wtG rfl rfl rfl h40) rfl ti46 rfl rfl ti4 rfl ?_
                    refine ldB (v := .sc _) (wtG rfl rfl rfl h40) rfl rfl rfl ti4 rfl rfl ?_
                    refine pu (v := .sc _) (wtG rfl rfl rfl h40) rfl (fun _ => rfl) ?_
                    refine pu (v := .sc _) (wtG rfl rfl rfl h40) rfl (fun _ => rfl) ?_
                    refine brR hR (fun h41 hR => ?_) fun h41 hR => ?_
                    · refine pu (v := rowV _ r4.1) (wtG rfl rfl rfl h41) rfl (fun _ => rfl) ?_
                      refine pu (v := .sc _) (wtG rfl rfl rfl h41) rfl (fun _ => rfl) ?_
                      obtain ⟨h42, hR⟩ := chkE hR
                      refine ixL (α := Int) (wtG rfl rfl rfl h41) rfl rfl ti27 rfl ti28 rfl h42 ?_
                      refine ldR (v := .sc _) (wtG rfl rfl rfl h41) rfl ti28 rfl ?_
                      refine fa (wtG rfl rfl rfl h41) rfl ti46 rfl rfl ti28 rfl ?_
                      refine ldB (v := .sc _) (wtG rfl rfl rfl h41) rfl rfl rfl ti28 rfl rfl ?_
                      refine pu (v := .sc _) (wtG rfl rfl rfl h41) rfl (fun _ => rfl) ?_
                      refine pu (v := .sc _) (wtG rfl rfl rfl h41) rfl (fun _ => rfl) ?_
                      refine brR hR (fun h43 hR => ?_) fun h43 hR => ?_
                      · refine sk (skW rfl rfl rfl h43) ?_
                        refine sk (skW rfl rfl rfl h43) ?_
                        refine sk (skW rfl rfl rfl h43) ?_
                        refine sk (skW rfl rfl rfl h43) ?_
                        refine sk (skW rfl rfl rfl h43) ?_
                        refine sk (skW rfl rfl rfl h43) ?_
                        refine sk (skW rfl rfl rfl h43) ?_
                        refine pkT (v := .sc (.bool true)) (wtG rfl rfl rfl h41) rfl h43 rfl ?_
                        refine pkT (v := .sc (.bool true)) (wtG rfl rfl rfl h40) rfl h41 rfl ?_
                        refine pkF (v := .sc (.bool true)) rfl rfl h40 rfl ?_
                        refine RunC.fin ?_
                        have hR := Option.some.inj hR; subst hR
                        exact Weak.turnL [(0, 0), (1, 0), (2, 0), (3, 0), (4, 0), (57, 0), (61, 0)] [] rfl rfl (tc trR1 (tc (trS' rfl rfl rfl rfl rfl) (tc (trS' rfl rfl rfl rfl rfl) (tc (trS' rfl rfl rfl rfl rfl) (tc (trP' rfl rfl rfl rfl) (tc (trP' rfl rfl rfl rfl) (tc (.sc _) (tc (trP' rfl rfl rfl rfl) (tc (trP' rfl rfl rfl rfl) (tc (.sc _) (tc (.sc _) (tc (.sc _) tn)))))))))))) (mc rfl (btrA' rfl) (mc rfl (btrA' rfl) (mc rfl (btrA' rfl) (mc rfl (.box rfl (.cons (.sc _) (.cons (.sc _) (.cons trR1 (.nil)))) rfl) (mc rfl (.box rfl (.cons (.sc _) (.cons (.sc _) (.cons trR1 (.nil)))) rfl) (mc rfl (.box rfl (.cons (.sc _) (.cons (.sc _) (.cons (.sc _) (.nil)))) rfl) (mc rfl (.box rfl (.cons (.sc _) (.cons (.sc _) (.cons (.sc _) (.nil)))) rfl) mn)))))))
                      · refine pu (v := rowV _ r4.1) (wtG rfl rfl rfl h43) rfl (fun _ => rfl) ?_
                        refine pu (v := .sc _) (wtG rfl rfl rfl h43) rfl (fun _ => rfl) ?_
                        refine ixL (α := Int) (wtG rfl rfl rfl h43) rfl rfl ti27 rfl ti28 rfl h42 ?_
                        refine ldR (v := .sc _) (wtG rfl rfl rfl h43) rfl ti28 rfl ?_
                        refine fa (wtG rfl rfl rfl h43) rfl ti46 rfl rfl ti28 rfl ?_
                        refine ldB (v := .sc _) (wtG rfl rfl rfl h43) rfl rfl rfl ti28 rfl rfl ?_
                        refine pu (v := .sc _) (wtG rfl rfl rfl h43) rfl (fun _ => rfl) ?_
                        refine pkF (v := .sc (.bool (decide ((gt r4.1 s31) > (gt r22.1.At s31).Hi)))) (wtG rfl rfl rfl h41) rfl h43 rfl ?_
                        refine pkT (v := .sc (.bool (decide ((gt r4.1 s31) > (gt r22.1.At s31).Hi)))) (wtG rfl rfl rfl h40) rfl h41 rfl ?_
                        refine pkF (v := .sc (.bool (decide ((gt r4.1 s31) > (gt r22.1.At s31).Hi)))) rfl rfl h40 rfl ?_
                        refine RunC.fin ?_
                        have hR := Option.some.inj hR; subst hR
                        exact Weak.turnL [(0, 0), (1, 0), (2, 0), (3, 0), (4, 0), (57, 0), (61, 0)] [] rfl rfl (tc trR1 (tc (trS' rfl rfl rfl rfl rfl) (tc (trS' rfl rfl rfl rfl rfl) (tc (trS' rfl rfl rfl rfl rfl) (tc (trP' rfl rfl rfl rfl) (tc (trP' rfl rfl rfl rfl) (tc (.sc _) (tc (trP' rfl rfl rfl rfl) (tc (trP' rfl rfl rfl rfl) (tc (.sc _) (tc (.sc _) (tc (.sc _) tn)))))))))))) (mc rfl (btrA' rfl) (mc rfl (btrA' rfl) (mc rfl (btrA' rfl) (mc rfl (.box rfl (.cons (.sc _) (.cons (.sc _) (.cons trR1 (.nil)))) rfl) (mc rfl (.box rfl (.cons (.sc _) (.cons (.sc _) (.cons trR1 (.nil)))) rfl) (mc rfl (.box rfl (.cons (.sc _) (.cons (.sc _) (.cons (.sc _) (.nil)))) rfl) (mc rfl (.box rfl (.cons (.sc _) (.cons (.sc _) (.cons (.sc _) (.nil)))) rfl) mn)))))))
                    · refine sk (skW rfl rfl rfl h41) ?_
                      refine sk (skW rfl rfl rfl h41) ?_
                      refine sk (skW rfl rfl rfl h41) ?_
                      refine sk (skW rfl rfl rfl h41) ?_
                      refine sk (skW rfl rfl rfl h41) ?_
                      refine sk (skW rfl rfl rfl h41) ?_
                      refine sk (skW rfl rfl rfl h41) ?_
                      refine sk (skW rfl rfl rfl h41) ?_
                      refine sk (skW2 rfl rfl rfl) ?_
                      refine sk (skW2 rfl rfl rfl) ?_
                      refine sk (skW2 rfl rfl rfl) ?_
                      refine sk (skW2 rfl rfl rfl) ?_
                      refine sk (skW2 rfl rfl rfl) ?_
                      refine sk (skW2 rfl rfl rfl) ?_
                      refine sk (skW2 rfl rfl rfl) ?_
                      refine sk (skW rfl rfl rfl h41) ?_
                      refine pkF (v := .sc (.bool false)) (wtG rfl rfl rfl h40) rfl h41 rfl ?_
                      refine pkF (v := .sc (.bool false)) rfl rfl h40 rfl ?_
                      refine RunC.fin ?_
                      have hR := Option.some.inj hR; subst hR
                      exact Weak.turnL [(0, 0), (1, 0), (2, 0), (3, 0), (4, 0), (57, 0), (61, 0)] [] rfl rfl (tc trR1 (tc (trS' rfl rfl rfl rfl rfl) (tc (trS' rfl rfl rfl rfl rfl) (tc (trS' rfl rfl rfl rfl rfl) (tc (trP' rfl rfl rfl rfl) (tc (trP' rfl rfl rfl rfl) (tc (.sc _) (tc (trP' rfl rfl rfl rfl) (tc (trP' rfl rfl rfl rfl) (tc (.sc _) (tc (.sc _) (tc (.sc _) tn)))))))))))) (mc rfl (btrA' rfl) (mc rfl (btrA' rfl) (mc rfl (btrA' rfl) (mc rfl (.box rfl (.cons (.sc _) (.cons (.sc _) (.cons trR1 (.nil)))) rfl) (mc rfl (.box rfl (.cons (.sc _) (.cons (.sc _) (.cons trR1 (.nil)))) rfl) (mc rfl (.box rfl (.cons (.sc _) (.cons (.sc _) (.cons (.sc _) (.nil)))) rfl) (mc rfl (.box rfl (.cons (.sc _) (.cons (.sc _) (.cons (.sc _) (.nil)))) rfl) mn)))))))
              · refine sk (skW rfl rfl rfl h37) ?_
                refine sk (skW rfl rfl rfl h37) ?_
                refine sk (skW rfl rfl rfl h37) ?_
                refine sk (skW rfl rfl rfl h37) ?_
                refine sk (skW rfl rfl rfl h37) ?_
                refine sk (skW rfl rfl rfl h37) ?_
                refine sk (skW rfl rfl rfl h37) ?_
                refine sk (skW rfl rfl rfl h37) ?_
                refine sk (skW2 rfl rfl rfl) ?_
                refine sk (skW2 rfl rfl rfl) ?_
                refine sk (skW2 rfl rfl rfl) ?_
                refine sk (skW2 rfl rfl rfl) ?_
                refine sk (skW2 rfl rfl rfl) ?_
                refine sk (skW2 rfl rfl rfl) ?_
                refine sk (skW2 rfl rfl rfl) ?_
                refine sk (skW rfl rfl rfl h37) ?_
                refine pkF (v := .sc (.bool false)) rfl rfl h37 rfl ?_
                refine pu (v := .sc _) rfl rfl (fun _ => rfl) ?_
                refine fa (wtG rfl rfl rfl rfl) rfl ti46 rfl rfl ti4 rfl ?_
                refine ldB (v := .sc _) (wtG rfl rfl rfl rfl) rfl rfl rfl ti4 rfl rfl ?_
                refine pu (v := .sc _) (wtG rfl rfl rfl rfl) rfl (fun _ => rfl) ?_
                refine pu (v := .sc _) (wtG rfl rfl rfl rfl) rfl (fun _ => rfl) ?_
                refine brR hR (fun h44 hR => ?_) fun h44 hR => ?_
                · refine pu (v := rowV _ r4.1) (wtG rfl rfl rfl h44) rfl (fun _ => rfl) ?_
                  refine pu (v := .sc _) (wtG rfl rfl rfl h44) rfl (fun _ => rfl) ?_
                  obtain ⟨h45, hR⟩ := chkE hR
                  refine ixL (α := Int) (wtG rfl rfl rfl h44) rfl rfl ti27 rfl ti28 rfl h45 ?_
                  refine ldR (v := .sc _) (wtG rfl rfl rfl h44) rfl ti28 rfl ?_
                  refine fa (wtG rfl rfl rfl h44) rfl ti46 rfl rfl ti28 rfl ?_
                  refine ldB (v := .sc _) (wtG rfl rfl rfl h44) rfl rfl rfl ti28 rfl rfl ?_
                  refine pu (v := .sc _) (wtG rfl rfl rfl h44) rfl (fun _ => rfl) ?_
                  refine pu (v := .sc _) (wtG rfl rfl rfl h44) rfl (fun _ => rfl) ?_
                  refine brR hR (fun h46 hR => ?_) fun h46 hR => ?_
                  · refine sk (skW rfl rfl rfl h46) ?_
                    refine sk (skW rfl rfl rfl h46) ?_
                    refine sk (skW rfl rfl rfl h46) ?_
                    refine sk (skW rfl rfl rfl h46) ?_
                    refine sk (skW rfl rfl rfl h46) ?_
                    refine sk (skW rfl rfl rfl h46) ?_
                    refine sk (skW rfl rfl rfl h46) ?_
                    refine pkT (v := .sc (.bool true)) (wtG rfl rfl rfl h44) rfl h46 rfl ?_
                    refine pkT (v := .sc (.bool true)) (wtG rfl rfl rfl rfl) rfl h44 rfl ?_
                    refine pkF (v := .sc (.bool true)) rfl rfl rfl rfl ?_
                    refine RunC.fin ?_
                    have hR := Option.some.inj hR; subst hR
                    exact Weak.turnL [(0, 0), (1, 0), (2, 0), (3, 0), (4, 0), (57, 0), (61, 0)] [] rfl rfl (tc trR1 (tc (trS' rfl rfl rfl rfl rfl) (tc (trS' rfl rfl rfl rfl rfl) (tc (trS' rfl rfl rfl rfl rfl) (tc (trP' rfl rfl rfl rfl) (tc (trP' rfl rfl rfl rfl) (tc (.sc _) (tc (trP' rfl rfl rfl rfl) (tc (trP' rfl rfl rfl rfl) (tc (.sc _) (tc (.sc _) (tc (.sc _) tn)))))))))))) (mc rfl (btrA' rfl) (mc rfl (btrA' rfl) (mc rfl (btrA' rfl) (mc rfl (.box rfl (.cons (.sc _) (.cons (.sc _) (.cons trR1 (.nil)))) rfl) (mc rfl (.box rfl (.cons (.sc _) (.cons (.sc _) (.cons trR1 (.nil)))) rfl) (mc rfl (.box rfl (.cons (.sc _) (.cons (.sc _) (.cons (.sc _) (.nil)))) rfl) (mc rfl (.box rfl (.cons (.sc _) (.cons (.sc _) (.cons (.sc _) (.nil)))) rfl) mn)))))))
                  · refine pu (v := rowV _ r4.1) (wtG rfl rfl rfl h46) rfl (fun _ => rfl) ?_
                    refine pu (v := .sc _) (wtG rfl rfl rfl h46) rfl (fun _ => rfl) ?_
                    refine ixL (α := Int) (wtG rfl rfl rfl h46) rfl rfl ti27 rfl ti28 rfl h45 ?_
                    refine ldR (v := .sc _) (wtG rfl rfl rfl h46) rfl ti28 rfl ?_
                    refine fa (wtG rfl rfl rfl h46) rfl ti46 rfl rfl ti28 rfl ?_
                    refine ldB (v := .sc _) (wtG rfl rfl rfl h46) rfl rfl rfl ti28 rfl rfl ?_
                    refine pu (v := .sc _) (wtG rfl rfl rfl h46) rfl (fun _ => rfl) ?_
                    refine pkF (v := .sc (.bool (decide ((gt r4.1 s31) > (gt r22.1.At s31).Hi)))) (wtG rfl rfl rfl h44) rfl h46 rfl ?_
                    refine pkT (v := .sc (.bool (decide ((gt r4.1 s31) > (gt r22.1.At s31).Hi)))) (wtG rfl rfl rfl rfl) rfl h44 rfl ?_
                    refine pkF (v := .sc (.bool (decide ((gt r4.1 s31) > (gt r22.1.At s31).Hi)))) rfl rfl rfl rfl ?_
                    refine RunC.fin ?_
                    have hR := Option.some.inj hR; subst hR
                    exact Weak.turnL [(0, 0), (1, 0), (2, 0), (3, 0), (4, 0), (57, 0), (61, 0)] [] rfl rfl (tc trR1 (tc (trS' rfl rfl rfl rfl rfl) (tc (trS' rfl rfl rfl rfl rfl) (tc (trS' rfl rfl rfl rfl rfl) (tc (trP' rfl rfl rfl rfl) (tc (trP' rfl rfl rfl rfl) (tc (.sc _) (tc (trP' rfl rfl rfl rfl) (tc (trP' rfl rfl rfl rfl) (tc (.sc _) (tc (.sc _) (tc (.sc _) tn)))))))))))) (mc rfl (btrA' rfl) (mc rfl (btrA' rfl) (mc rfl (btrA' rfl) (mc rfl (.box rfl (.cons (.sc _) (.cons (.sc _) (.cons trR1 (.nil)))) rfl) (mc rfl (.box rfl (.cons (.sc _) (.cons (.sc _) (.cons trR1 (.nil)))) rfl) (mc rfl (.box rfl (.cons (.sc _) (.cons (.sc _) (.cons (.sc _) (.nil)))) rfl) (mc rfl (.box rfl (.cons (.sc _) (.cons (.sc _) (.cons (.sc _) (.nil)))) rfl) mn)))))))
                · refine sk (skW rfl rfl rfl h44) ?_
                  refine sk (skW rfl rfl rfl h44) ?_
                  refine sk (skW rfl rfl rfl h44) ?_
                  refine sk (skW rfl rfl rfl h44) ?_
                  refine sk (skW rfl rfl rfl h44) ?_
                  refine sk (skW rfl rfl rfl h44) ?_
                  refine sk (skW rfl rfl rfl h44) ?_
                  refine sk (skW rfl rfl rfl h44) ?_
                  refine sk (skW2 rfl rfl rfl) ?_
                  refine sk (skW2 rfl rfl rfl) ?_
                  refine sk (skW2 rfl rfl rfl) ?_
                  refine sk (skW2 rfl rfl rfl) ?_
                  refine sk (skW2 rfl rfl rfl) ?_
                  refine sk (skW2 rfl rfl rfl) ?_
                  refine sk (skW2 rfl rfl rfl) ?_
                  refine sk (skW rfl rfl rfl h44) ?_
                  refine pkF (v := .sc (.bool false)) (wtG rfl rfl rfl rfl) rfl h44 rfl ?_
                  refine pkF (v := .sc (.bool false)) rfl rfl rfl rfl ?_
                  refine RunC.fin ?_
                  have hR := Option.some.inj hR; subst hR
                  exact Weak.turnL [(0, 0), (1, 0), (2, 0), (3, 0), (4, 0), (57, 0), (61, 0)] [] rfl rfl (tc trR1 (tc (trS' rfl rfl rfl rfl rfl) (tc (trS' rfl rfl rfl rfl rfl) (tc (trS' rfl rfl rfl rfl rfl) (tc (trP' rfl rfl rfl rfl) (tc (trP' rfl rfl rfl rfl) (tc (.sc _) (tc (trP' rfl rfl rfl rfl) (tc (trP' rfl rfl rfl rfl) (tc (.sc _) (tc (.sc _) (tc (.sc _) tn)))))))))))) (mc rfl (btrA' rfl) (mc rfl (btrA' rfl) (mc rfl (btrA' rfl) (mc rfl (.box rfl (.cons (.sc _) (.cons (.sc _) (.cons trR1 (.nil)))) rfl) (mc rfl (.box rfl (.cons (.sc _) (.cons (.sc _) (.cons trR1 (.nil)))) rfl) (mc rfl (.box rfl (.cons (.sc _) (.cons (.sc _) (.cons (.sc _) (.nil)))) rfl) (mc rfl (.box rfl (.cons (.sc _) (.cons (.sc _) (.cons (.sc _) (.nil)))) rfl) mn)))))))
            · refine AWP.cd hR rfl (fun h47 hR => ?_) fun h47 hR => ?_
              · refine AWP.sq ?_
                refine AWP.rgC 11 rfl rfl ?_
                refine pu (v := .sc _) rfl rfl (fun _ => rfl) ?_
                refine RunC.fin ?_
                refine AWP.ret ?_
                refine rtT ?_
                refine rtB ?_
                refine rtT ?_
                refine rtT ?_
                refine rtB (rtT ?_)
                replace hR := escL hR hE31
                refine rtT ?_
                have hR := Option.some.inj hR; subst hR
                exact hQ _ _ (LS.mk [(2, .sc (.bool false))] (lblks 0 []) 0) (.sc (.bool false)) [] (.inr rfl) (Weak.turnL [] [] rfl rfl (tc (.sc _) tn) mn) (ro1 (rvT (v := .sc (.bool false)) rfl)) rfl rfl (.sc _) pn
              · refine AWP.skip ?_
                refine skT ?_
                refine AWP.sq ?_
                refine AWP.rgC 15 rfl rfl ?_
                refine pu (v := .sc _) rfl rfl (fun _ => rfl) ?_
                refine pu (v := .sc _) rfl rfl (fun _ => rfl) ?_
                refine RunC.fin ?_
                refine AWP.sq ?_
                refine AWP.sq ?_
                refine AWP.rgC 27 rfl rfl ?_
                refine pu (v := slV Cells _ _ _ _) rfl rfl (fun _ => rfl) ?_
                refine lenS (α := Cells) rfl rfl ti31 rfl ?_
                refine pu (v := .sc _) rfl rfl (fun _ => rfl) ?_
                refine RunC.fin ?_
                refine AWP.loopJ (fun s48 : Bool × Bool × Int => LS.mk [(7, rowV (α := Int) true r4.1), (9, slV Int 0 0 0 z7.1.length), (10, slV Cells 1 0 0 z7.2.1.length), (11, slV Cells 2 0 0 z7.2.2.length), (16, .ptr 3 0 0), (20, .ptr 4 0 0), (22, .sc (.int .i64 s31)), (23, .ptr 5 0 0), (24, .ptr 6 0 0), (25, .sc (.bool s48.1)), (26, .sc (.bool s48.2.1)), (140, .sc (.int .i64 (z7.1.length : Int))), (141, .sc (.int .i64 s31)), (199, .sc (.int .i64 (z7.2.1.length : Int))), (200, .sc (.int .i64 s48.2.2))] (lblks 0 [arrB (α := Int) 28 0 true z7.1, arrB (α := Cells) 34 0 true z7.2.1, arrB (α := Cells) 34 0 true z7.2.2, boxB (α := Cells) true r20.1, boxB (α := Cells) true r22.1, boxB (α := Bound) true (gt r20.1.At s31), boxB (α := Bound) true (gt r22.1.At s31)]) 7) (fun z49 : Bool × Bool => LS.mk [(7, rowV (α := Int) true r4.1), (9, slV Int 0 0 0 z7.1.length), (10, slV Cells 1 0 0 z7.2.1.length), (11, slV Cells 2 0 0 z7.2.2.length), (16, .ptr 3 0 0), (20, .ptr 4 0 0), (23, .ptr 5 0 0), (24, .ptr 6 0 0), (25, .sc (.bool z49.1)), (26, .sc (.bool z49.2)), (140, .sc (.int .i64 (z7.1.length : Int))), (141, .sc (.int .i64 s31))] (lblks 0 [arrB (α := Int) 28 0 true z7.1, arrB (α := Cells) 34 0 true z7.2.1, arrB (α := Cells) 34 0 true z7.2.2, boxB (α := Cells) true r20.1, boxB (α := Cells) true r22.1, boxB (α := Bound) true (gt r20.1.At s31), boxB (α := Bound) true (gt r22.1.At s31)]) 7) (spykeep4_StackTrue.l4 z7 s31) hR (s0 := (false, true, 0)) (Weak.turnL [(0, 0), (1, 0), (2, 0), (3, 0), (4, 0), (5, 0), (6, 0)] [] rfl rfl (tc trR1 (tc (trS' rfl rfl rfl rfl rfl) (tc (trS' rfl rfl rfl rfl rfl) (tc (trS' rfl rfl rfl rfl rfl) (tc (trP' rfl rfl rfl rfl) (tc (trP' rfl rfl rfl rfl) (tc (.sc _) (tc (trP' rfl rfl rfl rfl) (tc (trP' rfl rfl rfl rfl) (tc (.sc _) (tc (.sc _) (tc (.sc _) (tc (.sc _) (tc (.sc _) (tc (.sc _) tn))))))))))))))) (mc rfl (btrA' rfl) (mc rfl (btrA' rfl) (mc rfl (btrA' rfl) (mc rfl (.box rfl (.cons (.sc _) (.cons (.sc _) (.cons trR1 (.nil)))) rfl) (mc rfl (.box rfl (.cons (.sc _) (.cons (.sc _) (.cons trR1 (.nil)))) rfl) (mc rfl (.box rfl (.cons (.sc _) (.cons (.sc _) (.cons (.sc _) (.nil)))) rfl) (mc rfl (.box rfl (.cons (.sc _) (.cons (.sc _) (.cons (.sc _) (.nil)))) rfl) mn)))))))) (fun s48 o48 hR => ?_) fun z49 hR => ?_
                · unfold spykeep4_StackTrue.l4 at hR
                  refine AWP.sq ?_
                  refine AWP.rgC 11 rfl rfl ?_
                  refine pu (v := .sc _) rfl rfl (fun _ => rfl) ?_
                  refine RunC.fin ?_
                  refine AWP.sq ?_
                  refine AWP.cd hR rfl (fun h50 hR => ?_) fun h50 hR => ?_
                  · refine AWP.skip ?_
                    refine skT ?_
                    refine AWP.sq ?_
                    refine AWP.block ?_
                    refine AWP.sq ?_
                    refine AWP.rgC 19 rfl rfl ?_
                    refine pu (v := .sc _) rfl rfl (fun _ => rfl) ?_
                    refine pu (v := .sc _) rfl rfl (fun _ => rfl) ?_
                    refine RunC.fin ?_
                    refine AWP.rgD 123 [0, 1, 3, 3, 15, 31, 63, 3, 255, 511, 1023, 2047, 0, 4099, 12291, 12291, 61443, 126979, 258051, 12291, 1044483, 2093059, 4190211, 8384515, 16383, 33554431] ⟨[], [none, none, none, none, none, none, some [1], none, none, none, some [], none, none, none, none, none, none, none, some [2], none, none, none, some [], none, none, none]⟩ hmix (by kernel_rfl) rfl rfl ?_
                    refine pu (v := .sc _) rfl rfl (fun _ => rfl) ?_
                    refine pu (v := .sc _) rfl rfl (fun _ => rfl) ?_
                    refine brR hR (fun h51 hR => ?_) fun h51 hR => ?_
                    · refine sk (skW rfl rfl rfl h51) ?_
                      refine sk (skW rfl rfl rfl h51) ?_
                      refine sk (skW rfl rfl rfl h51) ?_
                      refine sk (skW rfl rfl rfl h51) ?_
                      refine sk (skW rfl rfl rfl h51) ?_
                      refine sk (skW rfl rfl rfl h51) ?_
                      refine sk (skW rfl rfl rfl h51) ?_
                      refine sk (skW rfl rfl rfl h51) ?_
                      refine sk (skW rfl rfl rfl h51) ?_
                      refine pkT (v := .sc (.bool true)) rfl rfl h51 rfl ?_
                      refine pu (v := .sc _) rfl rfl (fun _ => rfl) ?_
                      refine pu (v := .sc _) rfl rfl (fun _ => rfl) ?_
                      refine brR hR (fun h52 hR => ?_) fun h52 hR => ?_
                      · refine pu (v := slV Cells _ _ _ _) (wtG rfl rfl rfl h52) rfl (fun _ => rfl) ?_
                        refine pu (v := .sc _) (wtG rfl rfl rfl h52) rfl (fun _ => rfl) ?_
                        obtain ⟨h53, hR⟩ := chkE hR
                        refine ixS0 (α := Cells) (wtG rfl rfl rfl h52) rfl rfl ti31 rfl ti34 rfl h53 ?_
                        refine fa (wtG rfl rfl rfl h52) rfl ti34 rfl rfl ti32 rfl ?_
                        refine ldE (α := Cells) (v := rowV _ (gt z7.2.2 s48.2.2).At) (wtG rfl rfl rfl h52) rfl rfl (ixlt h53) ti32 rfl rfl rfl rfl ?_
                        refine pu (v := .sc _) (wtG rfl rfl rfl h52) rfl (fun _ => rfl) ?_
                        obtain ⟨h54, hR⟩ := chkE hR
                        refine ixL (α := Bound) (wtG rfl rfl rfl h52) rfl rfl ti32 rfl ti46 rfl h54 ?_
                        refine fr (wtG rfl rfl rfl h52) rfl ti46 rfl rfl ti4 rfl ?_
                        refine ldR (v := .sc _) (wtG rfl rfl rfl h52) rfl ti4 rfl ?_
                        refine pkT (v := .sc (.bool (gt (gt z7.2.2 s48.2.2).At s31).Unknown)) rfl rfl h52 rfl ?_
                        refine pu (v := .sc _) rfl rfl (fun _ => rfl) ?_
                        refine pu (v := .sc _) rfl rfl (fun _ => rfl) ?_
                        refine RunC.blk ?_
                        refine RunC.fin ?_
                        refine AWP.rgC 131 rfl rfl ?_
                        refine pu (v := .sc _) rfl rfl (fun _ => rfl) ?_
                        refine pu (v := .sc _) rfl rfl (fun _ => rfl) ?_
                        refine RunC.fin ?_
                        refine ⟨(true, (gt (gt z7.2.2 s48.2.2).At s31).Unknown, w6 (s48.2.2 + 1)), (Option.some.inj hR).symm, ?_⟩
                        exact Weak.turnL [(0, 0), (1, 0), (2, 0), (3, 0), (4, 0), (5, 0), (6, 0)] [] rfl rfl (tc trR1 (tc (trS' rfl rfl rfl rfl rfl) (tc (trS' rfl rfl rfl rfl rfl) (tc (trS' rfl rfl rfl rfl rfl) (tc (trP' rfl rfl rfl rfl) (tc (trP' rfl rfl rfl rfl) (tc (.sc _) (tc (trP' rfl rfl rfl rfl) (tc (trP' rfl rfl rfl rfl) (tc (.sc _) (tc (.sc _) (tc (.sc _) (tc (.sc _) (tc (.sc _) (tc (.sc _) tn))))))))))))))) (mc rfl (btrA' rfl) (mc rfl (btrA' rfl) (mc rfl (btrA' rfl) (mc rfl (.box rfl (.cons (.sc _) (.cons (.sc _) (.cons trR1 (.nil)))) rfl) (mc rfl (.box rfl (.cons (.sc _) (.cons (.sc _) (.cons trR1 (.nil)))) rfl) (mc rfl (.box rfl (.cons (.sc _) (.cons (.sc _) (.cons (.sc _) (.nil)))) rfl) (mc rfl (.box rfl (.cons (.sc _) (.cons (.sc _) (.cons (.sc _) (.nil)))) rfl) mn)))))))
                      · refine sk (skW rfl rfl rfl h52) ?_
                        refine sk (skW rfl rfl rfl h52) ?_
                        refine sk (skW rfl rfl rfl h52) ?_
                        refine sk (skW rfl rfl rfl h52) ?_
                        refine sk (skW rfl rfl rfl h52) ?_
                        refine sk (skW rfl rfl rfl h52) ?_
                        refine sk (skW rfl rfl rfl h52) ?_
                        refine sk (skW rfl rfl rfl h52) ?_
                        refine sk (skW rfl rfl rfl h52) ?_
                        refine pkF (v := .sc (.bool false)) rfl rfl h52 rfl ?_
                        refine pu (v := .sc _) rfl rfl (fun _ => rfl) ?_
                        refine pu (v := .sc _) rfl rfl (fun _ => rfl) ?_
                        refine RunC.blk ?_
                        refine RunC.fin ?_
                        refine AWP.rgC 131 rfl rfl ?_
                        refine pu (v := .sc _) rfl rfl (fun _ => rfl) ?_
                        refine pu (v := .sc _) rfl rfl (fun _ => rfl) ?_
                        refine RunC.fin ?_
                        refine ⟨(true, false, w6 (s48.2.2 + 1)), (Option.some.inj hR).symm, ?_⟩
                        exact Weak.turnL [(0, 0), (1, 0), (2, 0), (3, 0), (4, 0), (5, 0), (6, 0)] [] rfl rfl (tc trR1 (tc (trS' rfl rfl rfl rfl rfl) (tc (trS' rfl rfl rfl rfl rfl) (tc (trS' rfl rfl rfl rfl rfl) (tc (trP' rfl rfl rfl rfl) (tc (trP' rfl rfl rfl rfl) (tc (.sc _) (tc (trP' rfl rfl rfl rfl) (tc (trP' rfl rfl rfl rfl) (tc (.sc _) (tc (.sc _) (tc (.sc _) (tc (.sc _) (tc (.sc _) (tc (.sc _) tn))))))))))))))) (mc rfl (btrA' rfl) (mc rfl (btrA' rfl) (mc rfl (btrA' rfl) (mc rfl (.box rfl (.cons (.sc _) (.cons (.sc _) (.cons trR1 (.nil)))) rfl) (mc rfl (.box rfl (.cons (.sc _) (.cons (.sc _) (.cons trR1 (.nil)))) rfl) (mc rfl (.box rfl (.cons (.sc _) (.cons (.sc _) (.cons (.sc _) (.nil)))) rfl) (mc rfl (.box rfl (.cons (.sc _) (.cons (.sc _) (.cons (.sc _) (.nil)))) rfl) mn)))))))
                    · refine pu (v := slV Cells _ _ _ _) (wtG rfl rfl rfl h51) rfl (fun _ => rfl) ?_
                      refine pu (v := .sc _) (wtG rfl rfl rfl h51) rfl (fun _ => rfl) ?_
                      obtain ⟨h55, hR⟩ := chkE hR
                      refine ixS0 (α := Cells) (wtG rfl rfl rfl h51) rfl rfl ti31 rfl ti34 rfl h55 ?_
                      refine fa (wtG rfl rfl rfl h51) rfl ti34 rfl rfl ti32 rfl ?_
                      refine ldE (α := Cells) (v := rowV _ (gt z7.2.1 s48.2.2).At) (wtG rfl rfl rfl h51) rfl rfl (ixlt h55) ti32 rfl rfl rfl rfl ?_
                      refine pu (v := .sc _) (wtG rfl rfl rfl h51) rfl (fun _ => rfl) ?_
                      obtain ⟨h56, hR⟩ := chkE hR
                      refine ixL (α := Bound) (wtG rfl rfl rfl h51) rfl rfl ti32 rfl ti46 rfl h56 ?_
                      refine fr (wtG rfl rfl rfl h51) rfl ti46 rfl rfl ti4 rfl ?_
                      refine ldR (v := .sc _) (wtG rfl rfl rfl h51) rfl ti4 rfl ?_
                      refine pkF (v := .sc (.bool (gt (gt z7.2.1 s48.2.2).At s31).Unknown)) rfl rfl h51 rfl ?_
                      refine pu (v := .sc _) rfl rfl (fun _ => rfl) ?_
                      refine pu (v := .sc _) rfl rfl (fun _ => rfl) ?_
                      refine brR hR (fun h57 hR => ?_) fun h57 hR => ?_
                      · refine pu (v := slV Cells _ _ _ _) (wtG rfl rfl rfl h57) rfl (fun _ => rfl) ?_
                        refine pu (v := .sc _) (wtG rfl rfl rfl h57) rfl (fun _ => rfl) ?_
                        obtain ⟨h58, hR⟩ := chkE hR
                        refine ixS0 (α := Cells) (wtG rfl rfl rfl h57) rfl rfl ti31 rfl ti34 rfl h58 ?_
                        refine fa (wtG rfl rfl rfl h57) rfl ti34 rfl rfl ti32 rfl ?_
                        refine ldE (α := Cells) (v := rowV _ (gt z7.2.2 s48.2.2).At) (wtG rfl rfl rfl h57) rfl rfl (ixlt h58) ti32 rfl rfl rfl rfl ?_
                        refine pu (v := .sc _) (wtG rfl rfl rfl h57) rfl (fun _ => rfl) ?_
                        obtain ⟨h59, hR⟩ := chkE hR
                        refine ixL (α := Bound) (wtG rfl rfl rfl h57) rfl rfl ti32 rfl ti46 rfl h59 ?_
                        refine fr (wtG rfl rfl rfl h57) rfl ti46 rfl rfl ti4 rfl ?_
                        refine ldR (v := .sc _) (wtG rfl rfl rfl h57) rfl ti4 rfl ?_
                        refine pkT (v := .sc (.bool (gt (gt z7.2.2 s48.2.2).At s31).Unknown)) rfl rfl h57 rfl ?_
                        refine pu (v := .sc _) rfl rfl (fun _ => rfl) ?_
                        refine pu (v := .sc _) rfl rfl (fun _ => rfl) ?_
                        refine RunC.blk ?_
                        refine RunC.fin ?_
                        refine AWP.rgC 131 rfl rfl ?_
                        refine pu (v := .sc _) rfl rfl (fun _ => rfl) ?_
                        refine pu (v := .sc _) rfl rfl (fun _ => rfl) ?_
                        refine RunC.fin ?_
                        refine ⟨((gt (gt z7.2.1 s48.2.2).At s31).Unknown, (gt (gt z7.2.2 s48.2.2).At s31).Unknown, w6 (s48.2.2 + 1)), (Option.some.inj hR).symm, ?_⟩
                        exact Weak.turnL [(0, 0), (1, 0), (2, 0), (3, 0), (4, 0), (5, 0), (6, 0)] [] rfl rfl (tc trR1 (tc (trS' rfl rfl rfl rfl rfl) (tc (trS' rfl rfl rfl rfl rfl) (tc (trS' rfl rfl rfl rfl rfl) (tc (trP' rfl rfl rfl rfl) (tc (trP' rfl rfl rfl rfl) (tc (.sc _) (tc (trP' rfl rfl rfl rfl) (tc (trP' rfl rfl rfl rfl) (tc (.sc _) (tc (.sc _) (tc (.sc _) (tc (.sc _) (tc (.sc _) (tc (.sc _) tn))))))))))))))) (mc rfl (btrA' rfl) (mc rfl (btrA' rfl) (mc rfl (btrA' rfl) (mc rfl (.box rfl (.cons (.sc _) (.cons (.sc _) (.cons trR1 (.nil)))) rfl) (mc rfl (.box rfl (.cons (.sc _) (.cons (.sc _) (.cons trR1 (.nil)))) rfl) (mc rfl (.box rfl (.cons (.sc _) (.cons (.sc _) (.cons (.sc _) (.nil)))) rfl) (mc rfl (.box rfl (.cons (.sc _) (.cons (.sc _) (.cons (.sc _) (.nil)))) rfl) mn)))))))
                      · refine sk (skW rfl rfl rfl h57) ?_
                        refine sk (skW rfl rfl rfl h57) ?_
                        refine sk (skW rfl rfl rfl h57) ?_
                        refine sk (skW rfl rfl rfl h57) ?_
                        refine sk (skW rfl rfl rfl h57) ?_
                        refine sk (skW rfl rfl rfl h57) ?_
                        refine sk (skW rfl rfl rfl h57) ?_
                        refine sk (skW rfl rfl rfl h57) ?_
                        refine sk (skW rfl rfl rfl h57) ?_
                        refine pkF (v := .sc (.bool false)) rfl rfl h57 rfl ?_
                        refine pu (v := .sc _) rfl rfl (fun _ => rfl) ?_
                        refine pu (v := .sc _) rfl rfl (fun _ => rfl) ?_
                        refine RunC.blk ?_
                        refine RunC.fin ?_
                        refine AWP.rgC 131 rfl rfl ?_
                        refine pu (v := .sc _) rfl rfl (fun _ => rfl) ?_
                        refine pu (v := .sc _) rfl rfl (fun _ => rfl) ?_
                        refine RunC.fin ?_
                        refine ⟨((gt (gt z7.2.1 s48.2.2).At s31).Unknown, false, w6 (s48.2.2 + 1)), (Option.some.inj hR).symm, ?_⟩
                        exact Weak.turnL [(0, 0), (1, 0), (2, 0), (3, 0), (4, 0), (5, 0), (6, 0)] [] rfl rfl (tc trR1 (tc (trS' rfl rfl rfl rfl rfl) (tc (trS' rfl rfl rfl rfl rfl) (tc (trS' rfl rfl rfl rfl rfl) (tc (trP' rfl rfl rfl rfl) (tc (trP' rfl rfl rfl rfl) (tc (.sc _) (tc (trP' rfl rfl rfl rfl) (tc (trP' rfl rfl rfl rfl) (tc (.sc _) (tc (.sc _) (tc (.sc _) (tc (.sc _) (tc (.sc _) (tc (.sc _) tn))))))))))))))) (mc rfl (btrA' rfl) (mc rfl (btrA' rfl) (mc rfl (btrA' rfl) (mc rfl (.box rfl (.cons (.sc _) (.cons (.sc _) (.cons trR1 (.nil)))) rfl) (mc rfl (.box rfl (.cons (.sc _) (.cons (.sc _) (.cons trR1 (.nil)))) rfl) (mc rfl (.box rfl (.cons (.sc _) (.cons (.sc _) (.cons (.sc _) (.nil)))) rfl) (mc rfl (.box rfl (.cons (.sc _) (.cons (.sc _) (.cons (.sc _) (.nil)))) rfl) mn)))))))
                  · refine AWP.exit ?_
                    refine exT ?_
                    refine exT ?_
                    refine exH (skT ?_)
                    refine ⟨(s48.1, s48.2.1), (Option.some.inj hR).symm, ?_⟩
                    exact Weak.turnL [(0, 0), (1, 0), (2, 0), (3, 0), (4, 0), (5, 0), (6, 0)] [] rfl rfl (tc trR1 (tc (trS' rfl rfl rfl rfl rfl) (tc (trS' rfl rfl rfl rfl rfl) (tc (trS' rfl rfl rfl rfl rfl) (tc (trP' rfl rfl rfl rfl) (tc (trP' rfl rfl rfl rfl) (tc (trP' rfl rfl rfl rfl) (tc (trP' rfl rfl rfl rfl) (tc (.sc _) (tc (.sc _) (tc (.sc _) (tc (.sc _) tn)))))))))))) (mc rfl (btrA' rfl) (mc rfl (btrA' rfl) (mc rfl (btrA' rfl) (mc rfl (.box rfl (.cons (.sc _) (.cons (.sc _) (.cons trR1 (.nil)))) rfl) (mc rfl (.box rfl (.cons (.sc _) (.cons (.sc _) (.cons trR1 (.nil)))) rfl) (mc rfl (.box rfl (.cons (.sc _) (.cons (.sc _) (.cons (.sc _) (.nil)))) rfl) (mc rfl (.box rfl (.cons (.sc _) (.cons (.sc _) (.cons (.sc _) (.nil)))) rfl) mn)))))))
                · refine skT ?_
                  refine AWP.joinX (fun z60 : Bool => LS.mk [(7, rowV (α := Int) true r4.1), (9, slV Int 0 0 0 z7.1.length), (10, slV Cells 1 0 0 z7.2.1.length), (11, slV Cells 2 0 0 z7.2.2.length), (16, .ptr 3 0 0), (20, .ptr 4 0 0), (140, .sc (.int .i64 (z7.1.length : Int))), (141, .sc (.int .i64 s31)), (237, .sc (.bool z60))] (lblks 0 [arrB (α := Int) 28 0 true z7.1, arrB (α := Cells) 34 0 true z7.2.1, arrB (α := Cells) 34 0 true z7.2.2, boxB (α := Cells) true r20.1, boxB (α := Cells) true r22.1]) 5) hR (fun o60 hR => ?_) fun z60 hR => ?_
                  · refine AWP.rgC 47 rfl rfl ?_
                    refine fa rfl rfl ti46 rfl rfl ti4 rfl ?_
                    refine ldB (v := .sc _) rfl rfl rfl rfl ti4 rfl rfl ?_
                    refine pu (v := .sc _) rfl rfl (fun _ => rfl) ?_
                    refine nb rfl rfl rfl ti4 rfl rfl ?_
                    refine pu (v := .sc _) rfl rfl (fun _ => rfl) ?_
                    refine brR hR (fun h61 hR => ?_) fun h61 hR => ?_
                    · refine sk (skW rfl rfl rfl h61) ?_
                      refine sk (skW rfl rfl rfl h61) ?_
                      refine sk (skW rfl rfl rfl h61) ?_
                      refine sk (skW rfl rfl rfl h61) ?_
                      refine pkT (v := .sc (.bool true)) rfl rfl h61 rfl ?_
                      refine RunC.fin ?_
                      have hR := Option.some.inj hR; subst hR
                      exact Weak.turnL [(0, 0), (1, 0), (2, 0), (3, 0), (4, 0)] [] rfl rfl (tc trR1 (tc (trS' rfl rfl rfl rfl rfl) (tc (trS' rfl rfl rfl rfl rfl) (tc (trS' rfl rfl rfl rfl rfl) (tc (trP' rfl rfl rfl rfl) (tc (trP' rfl rfl rfl rfl) (tc (.sc _) (tc (.sc _) (tc (.sc _) tn))))))))) (mc rfl (btrA' rfl) (mc rfl (btrA' rfl) (mc rfl (btrA' rfl) (mc rfl (.box rfl (.cons (.sc _) (.cons (.sc _) (.cons trR1 (.nil)))) rfl) (mc rfl (.box rfl (.cons (.sc _) (.cons (.sc _) (.cons trR1 (.nil)))) rfl) mn)))))
                    · refine fa (wtG rfl rfl rfl h61) rfl ti46 rfl rfl ti4 rfl ?_
                      refine ldB (v := .sc _) (wtG rfl rfl rfl h61) rfl rfl rfl ti4 rfl rfl ?_
                      refine pu (v := .sc _) (wtG rfl rfl rfl h61) rfl (fun _ => rfl) ?_
                      refine nb (wtG rfl rfl rfl h61) rfl rfl ti4 rfl rfl ?_
                      refine pkF (v := .sc (.bool ((gt r22.1.At s31).Unknown != z49.2))) rfl rfl h61 rfl ?_
                      refine RunC.fin ?_
                      have hR := Option.some.inj hR; subst hR
                      exact Weak.turnL [(0, 0), (1, 0), (2, 0), (3, 0), (4, 0)] [] rfl rfl (tc trR1 (tc (trS' rfl rfl rfl rfl rfl) (tc (trS' rfl rfl rfl rfl rfl) (tc (trS' rfl rfl rfl rfl rfl) (tc (trP' rfl rfl rfl rfl) (tc (trP' rfl rfl rfl rfl) (tc (.sc _) (tc (.sc _) (tc (.sc _) tn))))))))) (mc rfl (btrA' rfl) (mc rfl (btrA' rfl) (mc rfl (btrA' rfl) (mc rfl (.box rfl (.cons (.sc _) (.cons (.sc _) (.cons trR1 (.nil)))) rfl) (mc rfl (.box rfl (.cons (.sc _) (.cons (.sc _) (.cons trR1 (.nil)))) rfl) mn)))))
                  · refine AWP.cd hR rfl (fun h62 hR => ?_) fun h62 hR => ?_
                    · refine AWP.sq ?_
                      refine AWP.rgC 9 rfl rfl ?_
                      refine pu (v := .sc _) rfl rfl (fun _ => rfl) ?_
                      refine RunC.fin ?_
                      refine AWP.ret ?_
                      refine rtB ?_
                      refine rtT ?_
                      refine rtT ?_
                      refine rtB (rtT ?_)
                      replace hR := escL hR hE31
                      refine rtT ?_
                      have hR := Option.some.inj hR; subst hR
                      exact hQ _ _ (LS.mk [(2, .sc (.bool false))] (lblks 0 []) 0) (.sc (.bool false)) [] (.inr rfl) (Weak.turnL [] [] rfl rfl (tc (.sc _) tn) mn) (ro1 (rvT (v := .sc (.bool false)) rfl)) rfl rfl (.sc _) pn
                    · refine AWP.skip ?_
                      refine skB ?_
                      refine skT ?_
                      refine AWP.rgC 13 rfl rfl ?_
                      refine pu (v := .sc _) rfl rfl (fun _ => rfl) ?_
                      refine pu (v := .sc _) rfl rfl (fun _ => rfl) ?_
                      refine RunC.fin ?_
                      refine ⟨(w6 (s31 + 1)), (Option.some.inj hR).symm, ?_⟩
                      exact Weak.turnL [(0, 0), (1, 0), (2, 0), (3, 0), (4, 0)] [] rfl rfl (tc trR1 (tc (trS' rfl rfl rfl rfl rfl) (tc (trS' rfl rfl rfl rfl rfl) (tc (trS' rfl rfl rfl rfl rfl) (tc (trP' rfl rfl rfl rfl) (tc (trP' rfl rfl rfl rfl) (tc (.sc _) (tc (.sc _) tn)))))))) (mc rfl (btrA' rfl) (mc rfl (btrA' rfl) (mc rfl (btrA' rfl) (mc rfl (.box rfl (.cons (.sc _) (.cons (.sc _) (.cons trR1 (.nil)))) rfl) (mc rfl (.box rfl (.cons (.sc _) (.cons (.sc _) (.cons trR1 (.nil)))) rfl) mn)))))
          · refine AWP.exit ?_
            refine exT ?_
            refine exT ?_
            refine exH (skT ?_)
            refine ⟨(), (Option.some.inj hR).symm, ?_⟩
            exact Weak.turnL [] [] rfl rfl tn mn
        · refine skT ?_
          refine AWP.sq ?_
          refine AWP.rgC 4 rfl rfl ?_
          refine pu (v := .sc _) rfl rfl (fun _ => rfl) ?_
          refine RunC.fin ?_
          refine AWP.ret ?_
          have hR := Option.some.inj hR; subst hR
          exact hQ _ _ (LS.mk [(2, .sc (.bool true))] (lblks 0 []) 0) (.sc (.bool true)) [] (.inr rfl) (Weak.turnL [] [] rfl rfl (tc (.sc _) tn) mn) (ro1 (rvT (v := .sc (.bool true)) rfl)) rfl rfl (.sc _) pn
end Go.Proofs.Stt
