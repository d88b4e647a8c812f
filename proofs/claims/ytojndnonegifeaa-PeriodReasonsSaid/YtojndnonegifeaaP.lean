/- Each function of the program computes its plain function. Conditions: as each theorem states them. -/
import Derived.Test.YtojndnonegifeaaA4
import Derived.WalkKit
import Derived.Maps.Own
import Derived.Test.YtojndnonegifeaaT
import Derived.Test.YtojndnonegifeaaP1
namespace Go.Proofs.Per
open Go Go.Abs Lf
set_option linter.unusedVariables false
set_option linter.unusedSimpArgs false
set_option maxRecDepth 100000
set_option maxHeartbeats 1000000
theorem ok5 (s : spymake_Stream) (id_ : Int) (at_ : Vec) (r : Star × spymake_Stream) (hR : Stream_Wave s id_ at_ = some r) : FnD Try.prog 5 [boxB false s] [.ptr 0 0 0, .sc (.int .i64 id_), aggV false at_] (aggV (α := Star) true r.1) [boxB false r.2] := by
  refine FnX.walk Try.func5 rfl 36 1 (by simp [Try.ntmps5]) rfl fun W S F Q hQ => ?_
  unfold Stream_Wave at hR
  refine AWP.sq ?_
  refine AWP.rgC 9 rfl rfl ?_
  refine bx (cs := _) 1 rfl rfl rfl ?_
  refine al (cs := [.sc (.int .i64 0), .sc (.int .i64 0), .sc (.int .i64 0), .sc (.int .i64 0), .sc (.int .i64 0), .sc (.slice none 0 0), .sc (.int .i64 0), .sc (.int .i64 0), .sc (.int .i64 0)]) 5 rfl rfl ti35 rfl rfl ?_
  refine RunC.fin ?_
  refine AWP.sq ?_
  refine AWP.rgD 37 [0, 0, 0, 4, 15, 0, 63] ⟨[3], [none, some [1], none, some [0], none, none, some [29]]⟩ hmix (by kernel_rfl) rfl rfl ?_
  refine pu (v := .sc _) rfl rfl (fun _ => rfl) ?_
  refine ldB (v := .agg _) rfl rfl rfl rfl ti30 rfl rfl ?_
  refine pu (v := .ptr _ _ _) rfl rfl (fun _ => rfl) ?_
  obtain ⟨r1, hr1, hR⟩ := bindE hR
  refine cps (res' := .sc (.int .i64 r1.1)) (ups := [(0, boxB (α := spymake_Stream) false r1.2)]) [0] 21 rfl rfl rfl cb9 (ok9 s 500 _ hr1) (.cons (ldP rfl rfl) (.cons (.sc _) (.nil))) (pc rfl (.box (.cons ldR' (.cons (.sc _) (.nil))) rfl) pn) rfl rfl rfl rfl rfl (by first | rfl | exact renR | exact renA | exact renS | simp only [V.ren, V.rens, renR, renA, renS] | (simp only [V.ren, V.rens, renR, renA, renS]; rfl)) (by simp only [passUps, renBox, renArr]; rfl) ?_
  refine bu (cs := [.sc (.int .i64 id_), .sc (.int .i64 at_.X), .sc (.int .i64 at_.Y), .sc (.int .i64 at_.Z), .sc (.int .i64 r1.1), .sc (.slice none 0 0), .sc (.int .i64 0), .sc (.int .i64 (-17592186044416)), .sc (.int .i64 17592186044416)]) rfl bt35 rfl ?_
  refine al (cs := [.sc (.int .i64 0), .sc (.int .i64 0), .sc (.int .i64 0), .sc (.int .i64 0), .sc (.int .i64 0), .sc (.slice none 0 0), .sc (.int .i64 0), .sc (.int .i64 0), .sc (.int .i64 0)]) 29 rfl rfl ti35 rfl rfl ?_
  refine stB (cs' := [.sc (.int .i64 id_), .sc (.int .i64 at_.X), .sc (.int .i64 at_.Y), .sc (.int .i64 at_.Z), .sc (.int .i64 r1.1), .sc (.slice none 0 0), .sc (.int .i64 0), .sc (.int .i64 (-17592186044416)), .sc (.int .i64 17592186044416)]) rfl rfl rfl rfl ti35 rfl rfl rfl rfl rfl ?_
  refine RunC.fin ?_
  refine AWP.sq ?_
  refine AWP.sq ?_
  refine AWP.rgC 49 rfl rfl ?_
  refine pu (v := .ptr _ _ _) rfl rfl (fun _ => rfl) ?_
  obtain ⟨r2, hr2, hR⟩ := bindE hR
  refine cps (res' := .sc (.int .i64 r2.1)) (ups := [(0, boxB (α := spymake_Stream) false r2.2)]) [0] 41 rfl rfl rfl cb8 (ok8 r1.2 1 6 _ hr2) (.cons (ldP rfl rfl) (.cons (.sc _) (.cons (.sc _) (.nil)))) (pc rfl (.box (.cons ldR' (.cons (.sc _) (.nil))) rfl) pn) rfl rfl rfl rfl rfl (by first | rfl | exact renR | exact renA | exact renS | simp only [V.ren, V.rens, renR, renA, renS] | (simp only [V.ren, V.rens, renR, renA, renS]; rfl)) (by simp only [passUps, renBox, renArr]; rfl) ?_
  refine pu (v := .sc _) rfl rfl (fun _ => rfl) ?_
  refine RunC.fin ?_
  refine AWP.nilB Int 29 5 31 rfl rfl (cs' := [.sc (.int .i64 id_), .sc (.int .i64 at_.X), .sc (.int .i64 at_.Y), .sc (.int .i64 at_.Z), .sc (.int .i64 r1.1), slV Int 49 0 0 0, .sc (.int .i64 0), .sc (.int .i64 (-17592186044416)), .sc (.int .i64 17592186044416)]) rfl ?_
  refine AWP.loopJ (fun s3 : spymake_Stream × (List Int) × Int => LS.mk [(0, .ptr 0 0 0), (6, .ptr 1 0 0), (7, .ptr 2 0 0), (14, .sc (.int .i64 r2.1)), (15, .sc (.int .i64 s3.2.2))] (lblks 0 [boxB (α := spymake_Stream) false s3.1, .box [.sc (.int .i64 0), .sc (.int .i64 0), .sc (.int .i64 0), .sc (.int .i64 0), .sc (.int .i64 0), .sc (.slice none 0 0), .sc (.int .i64 0), .sc (.int .i64 0), .sc (.int .i64 0)], .box [.sc (.int .i64 id_), .sc (.int .i64 at_.X), .sc (.int .i64 at_.Y), .sc (.int .i64 at_.Z), .sc (.int .i64 r1.1), slV Int 3 0 0 s3.2.1.length, .sc (.int .i64 0), .sc (.int .i64 (-17592186044416)), .sc (.int .i64 17592186044416)], arrB (α := Int) 31 0 true s3.2.1]) 4) (fun z4 : spymake_Stream × (List Int) => LS.mk [(0, .ptr 0 0 0), (6, .ptr 1 0 0), (7, .ptr 2 0 0)] (lblks 0 [boxB (α := spymake_Stream) false z4.1, .box [.sc (.int .i64 0), .sc (.int .i64 0), .sc (.int .i64 0), .sc (.int .i64 0), .sc (.int .i64 0), .sc (.slice none 0 0), .sc (.int .i64 0), .sc (.int .i64 0), .sc (.int .i64 0)], .box [.sc (.int .i64 id_), .sc (.int .i64 at_.X), .sc (.int .i64 at_.Y), .sc (.int .i64 at_.Z), .sc (.int .i64 r1.1), slV Int 3 0 0 z4.2.length, .sc (.int .i64 0), .sc (.int .i64 (-17592186044416)), .sc (.int .i64 17592186044416)], arrB (α := Int) 31 0 true z4.2]) 4) (Stream_Wave.l1 r2) hR (s0 := (r2.2, ([] : List Int), 0)) (Weak.turnL [(0, 0), (5, 0), (29, 0), (49, 0)] [] rfl rfl (tc (trP' rfl rfl rfl rfl) (tc (trP' rfl rfl rfl rfl) (tc (trP' rfl rfl rfl rfl) (tc (.sc _) (tc (.sc _) tn))))) (mc rfl (.box rfl (.cons trR1 (.cons (.sc _) (.nil))) rfl) (mc rfl (.box rfl (.cons (.sc _) (.cons (.sc _) (.cons (.sc _) (.cons (.sc _) (.cons (.sc _) (.cons (.sc _) (.cons (.sc _) (.cons (.sc _) (.cons (.sc _) (.nil)))))))))) rfl) (mc rfl (.box rfl (.cons (.sc _) (.cons (.sc _) (.cons (.sc _) (.cons (.sc _) (.cons (.sc _) (.cons (trS' rfl rfl rfl rfl rfl) (.cons (.sc _) (.cons (.sc _) (.cons (.sc _) (.nil)))))))))) rfl) (mc rfl (btrA' rfl) mn))))) (fun s3 o3 hR => ?_) fun z4 hR => ?_
  · unfold Stream_Wave.l1 at hR
    refine AWP.sq ?_
    refine AWP.rgC 8 rfl rfl ?_
    refine pu (v := .sc _) rfl rfl (fun _ => rfl) ?_
    refine RunC.fin ?_
    refine AWP.sq ?_
    refine AWP.cd hR rfl (fun h5 hR => ?_) fun h5 hR => ?_
    · refine AWP.skip ?_
      refine skT ?_
      refine AWP.sq ?_
      refine AWP.block ?_
      refine AWP.rgD 52 [0, 1, 0, 4, 0, 28, 60, 124, 255, 511, 1023] ⟨[3, 5], [none, some [2], none, some [0], none, some [0], none, none, some [3, 36], none, some [2]]⟩ hmix (by kernel_rfl) rfl rfl ?_
      refine fa rfl rfl ti35 rfl rfl ti32 rfl ?_
      refine ldB (v := slV Int _ _ _ _) rfl rfl rfl rfl ti32 rfl rfl ?_
      refine pu (v := .ptr _ _ _) rfl rfl (fun _ => rfl) ?_
      obtain ⟨r6, hr6, hR⟩ := bindE hR
      refine cps (res' := .sc (.int .i64 r6.1)) (ups := [(0, boxB (α := spymake_Stream) false r6.2)]) [0] 20 rfl rfl rfl cb9 (ok9 s3.1 4 _ hr6) (.cons (ldP rfl rfl) (.cons (.sc _) (.nil))) (pc rfl (.box (.cons ldR' (.cons (.sc _) (.nil))) rfl) pn) rfl rfl rfl rfl rfl (by first | rfl | exact renR | exact renA | exact renS | simp only [V.ren, V.rens, renR, renA, renS] | (simp only [V.ren, V.rens, renR, renA, renS]; rfl)) (by simp only [passUps, renBox, renArr]; rfl) ?_
      refine pu (v := .ptr _ _ _) rfl rfl (fun _ => rfl) ?_
      obtain ⟨r7, hr7, hR⟩ := bindE hR
      refine cps (res' := .sc (.int .i64 r7.1)) (ups := [(0, boxB (α := spymake_Stream) false r7.2)]) [0] 28 rfl rfl rfl cb9 (ok9 r6.2 300 _ hr7) (.cons (ldP rfl rfl) (.cons (.sc _) (.nil))) (pc rfl (.box (.cons ldR' (.cons (.sc _) (.nil))) rfl) pn) rfl rfl rfl rfl rfl (by first | rfl | exact renR | exact renA | exact renS | simp only [V.ren, V.rens, renR, renA, renS] | (simp only [V.ren, V.rens, renR, renA, renS]; rfl)) (by simp only [passUps, renBox, renArr]; rfl) ?_
      refine pu (v := .sc _) rfl rfl (fun _ => rfl) ?_
      refine bs (α := Int) 36 true ([w6 (r6.1 * r7.1)] : List Int) rfl rfl ti32 rfl ti31 rfl rfl rfl rfl rfl ?_
      obtain ⟨h8, hR⟩ := chkE hR
      refine ap' (α := Int) (nw := true) (xs := s3.2.1) (ys := ([w6 (r6.1 * r7.1)] : List Int)) rfl rfl rfl rfl (srcS' rfl rfl rfl) ti32 rfl ti31 rfl h8 rfl ?_
      refine fa rfl rfl ti35 rfl rfl ti32 rfl ?_
      refine stB (cs' := [.sc (.int .i64 id_), .sc (.int .i64 at_.X), .sc (.int .i64 at_.Y), .sc (.int .i64 at_.Z), .sc (.int .i64 r1.1), slV Int 3 1 0 (s3.2.1 ++ ([w6 (r6.1 * r7.1)] : List Int)).length, .sc (.int .i64 0), .sc (.int .i64 (-17592186044416)), .sc (.int .i64 17592186044416)]) rfl rfl rfl rfl ti32 rfl rfl rfl rfl rfl ?_
      refine RunC.blk ?_
      refine RunC.fin ?_
      refine AWP.rgC 60 rfl rfl ?_
      refine pu (v := .sc _) rfl rfl (fun _ => rfl) ?_
      refine pu (v := .sc _) rfl rfl (fun _ => rfl) ?_
      refine RunC.fin ?_
      refine ⟨(r7.2, s3.2.1 ++ ([w6 (r6.1 * r7.1)] : List Int), w6 (s3.2.2 + 1)), (Option.some.inj hR).symm, ?_⟩
      exact Weak.turnL [(0, 0), (1, 0), (2, 0), (3, 0)] [] rfl rfl (tc (trP' rfl rfl rfl rfl) (tc (trP' rfl rfl rfl rfl) (tc (trP' rfl rfl rfl rfl) (tc (.sc _) (tc (.sc _) tn))))) (mc rfl (.box rfl (.cons trR1 (.cons (.sc _) (.nil))) rfl) (mc rfl (.box rfl (.cons (.sc _) (.cons (.sc _) (.cons (.sc _) (.cons (.sc _) (.cons (.sc _) (.cons (.sc _) (.cons (.sc _) (.cons (.sc _) (.cons (.sc _) (.nil)))))))))) rfl) (mc rfl (.box rfl (.cons (.sc _) (.cons (.sc _) (.cons (.sc _) (.cons (.sc _) (.cons (.sc _) (.cons (trS' rfl rfl rfl rfl rfl) (.cons (.sc _) (.cons (.sc _) (.cons (.sc _) (.nil)))))))))) rfl) (mc rfl (btrA' rfl) mn))))
    · refine AWP.exit ?_
      refine exT ?_
      refine exT ?_
      refine exH (skT ?_)
      refine ⟨(s3.1, s3.2.1), (Option.some.inj hR).symm, ?_⟩
      exact Weak.turnL [(0, 0), (1, 0), (2, 0), (3, 0)] [] rfl rfl (tc (trP' rfl rfl rfl rfl) (tc (trP' rfl rfl rfl rfl) (tc (trP' rfl rfl rfl rfl) tn))) (mc rfl (.box rfl (.cons trR1 (.cons (.sc _) (.nil))) rfl) (mc rfl (.box rfl (.cons (.sc _) (.cons (.sc _) (.cons (.sc _) (.cons (.sc _) (.cons (.sc _) (.cons (.sc _) (.cons (.sc _) (.cons (.sc _) (.cons (.sc _) (.nil)))))))))) rfl) (mc rfl (.box rfl (.cons (.sc _) (.cons (.sc _) (.cons (.sc _) (.cons (.sc _) (.cons (.sc _) (.cons (trS' rfl rfl rfl rfl rfl) (.cons (.sc _) (.cons (.sc _) (.cons (.sc _) (.nil)))))))))) rfl) (mc rfl (btrA' rfl) mn))))
  · refine skT ?_
    refine AWP.sq ?_
    refine AWP.rgD 36 [0, 1, 3, 0, 8, 31, 63, 127] ⟨[4], [none, some [2], none, none, some [0], none, none, some [2]]⟩ hmix (by kernel_rfl) rfl rfl ?_
    refine fa rfl rfl ti35 rfl rfl ti32 rfl ?_
    refine ldB (v := slV Int _ _ _ _) rfl rfl rfl rfl ti32 rfl rfl ?_
    refine lenS (α := Int) rfl rfl ti32 rfl ?_
    refine pu (v := .ptr _ _ _) rfl rfl (fun _ => rfl) ?_
    obtain ⟨r9, hr9, hR⟩ := bindE hR
    refine cps (res' := .sc (.int .i64 r9.1)) (ups := [(0, boxB (α := spymake_Stream) false r9.2)]) [0] 20 rfl rfl rfl cb8 (ok8 z4.1 1 400 _ hr9) (.cons (ldP rfl rfl) (.cons (.sc _) (.cons (.sc _) (.nil)))) (pc rfl (.box (.cons ldR' (.cons (.sc _) (.nil))) rfl) pn) rfl rfl rfl rfl rfl (by first | rfl | exact renR | exact renA | exact renS | simp only [V.ren, V.rens, renR, renA, renS] | (simp only [V.ren, V.rens, renR, renA, renS]; rfl)) (by simp only [passUps, renBox, renArr]; rfl) ?_
    refine pu (v := .sc _) rfl rfl (fun _ => rfl) ?_
    refine fa rfl rfl ti35 rfl rfl ti33 rfl ?_
    refine stB (cs' := [.sc (.int .i64 id_), .sc (.int .i64 at_.X), .sc (.int .i64 at_.Y), .sc (.int .i64 at_.Z), .sc (.int .i64 r1.1), slV Int 3 0 0 z4.2.length, .sc (.int .i64 (w6 ((z4.2.length : Int) * r9.1))), .sc (.int .i64 (-17592186044416)), .sc (.int .i64 17592186044416)]) rfl rfl rfl rfl ti33 rfl rfl rfl rfl rfl ?_
    refine RunC.fin ?_
    refine AWP.sq ?_
    refine AWP.rgC 44 rfl rfl ?_
    refine ldB (v := .agg _) rfl rfl rfl rfl ti35 rfl rfl ?_
    refine stB (cs' := [.sc (.int .i64 id_), .sc (.int .i64 at_.X), .sc (.int .i64 at_.Y), .sc (.int .i64 at_.Z), .sc (.int .i64 r1.1), slV Int 3 0 0 z4.2.length, .sc (.int .i64 (w6 ((z4.2.length : Int) * r9.1))), .sc (.int .i64 (-17592186044416)), .sc (.int .i64 17592186044416)]) rfl rfl rfl rfl ti35 rfl rfl rfl rfl rfl ?_
    refine RunC.fin ?_
    refine AWP.ret ?_
    have hR := Option.some.inj hR; subst hR
    exact hQ _ _ (LS.mk [(6, .ptr 1 0 0)] (lblks 0 [boxB (α := spymake_Stream) false r9.2, boxB (α := Star) true (Star.mk id_ at_ r1.1 z4.2 (w6 ((z4.2.length : Int) * r9.1)) (-17592186044416) 17592186044416)]) 2) (aggV (α := Star) true (Star.mk id_ at_ r1.1 z4.2 (w6 ((z4.2.length : Int) * r9.1)) (-17592186044416) 17592186044416)) [] (.inr rfl) (Weak.turnL [(0, 0), (1, 0)] [3] rfl rfl (tc (trP' rfl rfl rfl rfl) tn) (mc rfl (.box rfl (.cons trR1 (.cons (.sc _) (.nil))) rfl) (mc rfl (.box rfl (.cons (.sc _) (.cons (.sc _) (.cons (.sc _) (.cons (.sc _) (.cons (.sc _) (.cons (trF' rfl rfl id rfl) (.cons (.sc _) (.cons (.sc _) (.cons (.sc _) (.nil)))))))))) rfl) mn))) (ro1 (rvC (v := aggV (α := Star) true (Star.mk id_ at_ r1.1 z4.2 (w6 ((z4.2.length : Int) * r9.1)) (-17592186044416) 17592186044416)) rfl rfl ti35 rfl)) rfl rfl ldA (pc rfl bldB pn)
theorem ok6 (s : spymake_Stream) (r : Vec × spymake_Stream) (hR : Stream_Vec s = some r) : FnD Try.prog 6 [boxB false s] [.ptr 0 0 0] (aggV (α := Vec) true r.1) [boxB false r.2] := by
  refine FnX.walk Try.func6 rfl 31 1 (by simp [Try.ntmps6]) rfl fun W S F Q hQ => ?_
  unfold Stream_Vec at hR
  refine AWP.sq ?_
  refine AWP.rgC 5 rfl rfl ?_
  refine al (cs := [.sc (.int .i64 0), .sc (.int .i64 0), .sc (.int .i64 0)]) 1 rfl rfl ti30 rfl rfl ?_
  refine RunC.fin ?_
  refine AWP.sq ?_
  refine AWP.rgC 29 rfl rfl ?_
  refine bs (α := Int) 5 true ([3, 100, 5000, 1048576] : List Int) rfl rfl ti22 rfl ti3 rfl rfl rfl rfl rfl ?_
  refine pu (v := .ptr _ _ _) rfl rfl (fun _ => rfl) ?_
  obtain ⟨r1, hr1, hR⟩ := bindE hR
  refine cps (res' := .sc (.int .i64 r1.1)) (ups := [(0, boxB (α := spymake_Stream) false r1.2)]) [0] 13 rfl rfl rfl cb9 (ok9 s 4 _ hr1) (.cons (ldP rfl rfl) (.cons (.sc _) (.nil))) (pc rfl (.box (.cons ldR' (.cons (.sc _) (.nil))) rfl) pn) rfl rfl rfl rfl rfl (by first | rfl | exact renR | exact renA | exact renS | simp only [V.ren, V.rens, renR, renA, renS] | (simp only [V.ren, V.rens, renR, renA, renS]; rfl)) (by simp only [passUps, renBox, renArr]; rfl) ?_
  obtain ⟨h2, hR⟩ := chkE hR
  refine ixS0 (α := Int) rfl rfl rfl ti22 rfl ti3 rfl h2 ?_
  refine ldE (α := Int) (v := .sc _) rfl rfl rfl (ixlt h2) ti3 rfl rfl rfl rfl ?_
  refine pu (v := .sc _) rfl rfl (fun _ => rfl) ?_
  refine RunC.fin ?_
  refine AWP.sq ?_
  refine AWP.rgC 101 rfl rfl ?_
  refine pu (v := .ptr _ _ _) rfl rfl (fun _ => rfl) ?_
  refine pu (v := .sc _) rfl rfl (fun _ => rfl) ?_
  refine pu (v := .sc _) rfl rfl (fun _ => rfl) ?_
  refine pu (v := .sc _) rfl rfl (fun _ => rfl) ?_
  obtain ⟨r3, hr3, hR⟩ := bindE hR
  refine cps (res' := .sc (.int .i64 r3.1)) (ups := [(0, boxB (α := spymake_Stream) false r3.2)]) [0] 45 rfl rfl rfl cb8 (ok8 r1.2 (w6 (0 - (gt ([3, 100, 5000, 1048576] : List Int) r1.1))) (gt ([3, 100, 5000, 1048576] : List Int) r1.1) _ hr3) (.cons (ldP rfl rfl) (.cons (.sc _) (.cons (.sc _) (.nil)))) (pc rfl (.box (.cons ldR' (.cons (.sc _) (.nil))) rfl) pn) rfl rfl rfl rfl rfl (by first | rfl | exact renR | exact renA | exact renS | simp only [V.ren, V.rens, renR, renA, renS] | (simp only [V.ren, V.rens, renR, renA, renS]; rfl)) (by simp only [passUps, renBox, renArr]; rfl) ?_
  refine pu (v := .ptr _ _ _) rfl rfl (fun _ => rfl) ?_
  refine pu (v := .sc _) rfl rfl (fun _ => rfl) ?_
  refine pu (v := .sc _) rfl rfl (fun _ => rfl) ?_
  refine pu (v := .sc _) rfl rfl (fun _ => rfl) ?_
  obtain ⟨r4, hr4, hR⟩ := bindE hR
  refine cps (res' := .sc (.int .i64 r4.1)) (ups := [(0, boxB (α := spymake_Stream) false r4.2)]) [0] 65 rfl rfl rfl cb8 (ok8 r3.2 (w6 (0 - (gt ([3, 100, 5000, 1048576] : List Int) r1.1))) (gt ([3, 100, 5000, 1048576] : List Int) r1.1) _ hr4) (.cons (ldP rfl rfl) (.cons (.sc _) (.cons (.sc _) (.nil)))) (pc rfl (.box (.cons ldR' (.cons (.sc _) (.nil))) rfl) pn) rfl rfl rfl rfl rfl (by first | rfl | exact renR | exact renA | exact renS | simp only [V.ren, V.rens, renR, renA, renS] | (simp only [V.ren, V.rens, renR, renA, renS]; rfl)) (by simp only [passUps, renBox, renArr]; rfl) ?_
  refine pu (v := .ptr _ _ _) rfl rfl (fun _ => rfl) ?_
  refine pu (v := .sc _) rfl rfl (fun _ => rfl) ?_
  refine pu (v := .sc _) rfl rfl (fun _ => rfl) ?_
  refine pu (v := .sc _) rfl rfl (fun _ => rfl) ?_
  obtain ⟨r5, hr5, hR⟩ := bindE hR
  refine cps (res' := .sc (.int .i64 r5.1)) (ups := [(0, boxB (α := spymake_Stream) false r5.2)]) [0] 85 rfl rfl rfl cb8 (ok8 r4.2 (w6 (0 - (gt ([3, 100, 5000, 1048576] : List Int) r1.1))) (gt ([3, 100, 5000, 1048576] : List Int) r1.1) _ hr5) (.cons (ldP rfl rfl) (.cons (.sc _) (.cons (.sc _) (.nil)))) (pc rfl (.box (.cons ldR' (.cons (.sc _) (.nil))) rfl) pn) rfl rfl rfl rfl rfl (by first | rfl | exact renR | exact renA | exact renS | simp only [V.ren, V.rens, renR, renA, renS] | (simp only [V.ren, V.rens, renR, renA, renS]; rfl)) (by simp only [passUps, renBox, renArr]; rfl) ?_
  refine bu (cs := [.sc (.int .i64 r3.1), .sc (.int .i64 r4.1), .sc (.int .i64 r5.1)]) rfl bt30 rfl ?_
  refine al (cs := [.sc (.int .i64 0), .sc (.int .i64 0), .sc (.int .i64 0)]) 93 rfl rfl ti30 rfl rfl ?_
  refine stB (cs' := [.sc (.int .i64 r3.1), .sc (.int .i64 r4.1), .sc (.int .i64 r5.1)]) rfl rfl rfl rfl ti30 rfl rfl rfl rfl rfl ?_
  refine RunC.fin ?_
  refine AWP.sq ?_
  refine AWP.sq ?_
  refine AWP.rgC 113 rfl rfl ?_
  refine ldB (v := .agg _) rfl rfl rfl rfl ti30 rfl rfl ?_
  refine bu (cs := [.sc (.int .i64 0), .sc (.int .i64 0), .sc (.int .i64 0)]) rfl bt30 rfl ?_
  refine es (cs := [.sc (.int .i64 r3.1), .sc (.int .i64 r4.1), .sc (.int .i64 r5.1)]) (ds := [.sc (.int .i64 0), .sc (.int .i64 0), .sc (.int .i64 0)]) rfl rfl rfl qa30 qg30 (qe30 _ _ _ _ _ _) ?_
  refine RunC.fin ?_
  refine AWP.cd hR rfl (fun h6 hR => ?_) fun h6 hR => ?_
  · refine AWP.rgC 121 rfl rfl ?_
    refine fa rfl rfl ti30 rfl rfl ti2 rfl ?_
    refine stB (cs' := [.sc (.int .i64 1), .sc (.int .i64 r4.1), .sc (.int .i64 r5.1)]) rfl rfl rfl rfl ti2 rfl rfl rfl rfl rfl ?_
    refine RunC.fin ?_
    refine AWP.sq ?_
    refine AWP.rgC 129 rfl rfl ?_
    refine ldB (v := .agg _) rfl rfl rfl rfl ti30 rfl rfl ?_
    refine stB (cs' := [.sc (.int .i64 1), .sc (.int .i64 r4.1), .sc (.int .i64 r5.1)]) rfl rfl rfl rfl ti30 rfl rfl rfl rfl rfl ?_
    refine RunC.fin ?_
    refine AWP.ret ?_
    have hR := Option.some.inj hR; subst hR
    exact hQ _ _ (LS.mk [(2, .ptr 1 0 0)] (lblks 0 [boxB (α := spymake_Stream) false r5.2, boxB (α := Vec) true (Vec.mk 1 r4.1 r5.1)]) 2) (aggV (α := Vec) true (Vec.mk 1 r4.1 r5.1)) [] (.inr rfl) (Weak.turnL [(0, 0), (1, 0)] [] rfl rfl (tc (trP' rfl rfl rfl rfl) tn) (mc rfl (.box rfl (.cons trR1 (.cons (.sc _) (.nil))) rfl) (mc rfl (.box rfl (.cons (.sc _) (.cons (.sc _) (.cons (.sc _) (.nil)))) rfl) mn))) (ro1 (rvC (v := aggV (α := Vec) true (Vec.mk 1 r4.1 r5.1)) rfl rfl ti30 rfl)) rfl rfl ldA (pc rfl bldB pn)
  · refine AWP.skip ?_
    refine skT ?_
    refine AWP.sq ?_
    refine AWP.rgC 121 rfl rfl ?_
    refine ldB (v := .agg _) rfl rfl rfl rfl ti30 rfl rfl ?_
    refine stB (cs' := [.sc (.int .i64 r3.1), .sc (.int .i64 r4.1), .sc (.int .i64 r5.1)]) rfl rfl rfl rfl ti30 rfl rfl rfl rfl rfl ?_
    refine RunC.fin ?_
    refine AWP.ret ?_
    have hR := Option.some.inj hR; subst hR
    exact hQ _ _ (LS.mk [(2, .ptr 1 0 0)] (lblks 0 [boxB (α := spymake_Stream) false r5.2, boxB (α := Vec) true (Vec.mk r3.1 r4.1 r5.1)]) 2) (aggV (α := Vec) true (Vec.mk r3.1 r4.1 r5.1)) [] (.inr rfl) (Weak.turnL [(0, 0), (1, 0)] [] rfl rfl (tc (trP' rfl rfl rfl rfl) tn) (mc rfl (.box rfl (.cons trR1 (.cons (.sc _) (.nil))) rfl) (mc rfl (.box rfl (.cons (.sc _) (.cons (.sc _) (.cons (.sc _) (.nil)))) rfl) mn))) (ro1 (rvC (v := aggV (α := Vec) true (Vec.mk r3.1 r4.1 r5.1)) rfl rfl ti30 rfl)) rfl rfl ldA (pc rfl bldB pn)
theorem ok3 (l : List Int) (phases : Int) (other : Int) (r : Bool) (hR : spykeep4_PeriodReasons l phases other = some r) : FnP Try.prog 3 [rowV false l, .sc (.int .i64 phases), .sc (.int .i64 other)] (.sc (.bool r)) := by
  refine fnP_of (FnX.walk Try.func3 rfl 141 0 (by simp [Try.ntmps3]) rfl fun W S F Q hQ => ?_)
  unfold spykeep4_PeriodReasons at hR
  refine AWP.sq ?_
  refine AWP.rgC 4 rfl rfl ?_
  refine pu (v := .sc _) rfl rfl (fun _ => rfl) ?_
  refine RunC.fin ?_
  refine AWP.sq ?_
  refine AWP.rgC 20 rfl rfl ?_
  refine pu (v := rowV _ l) rfl rfl (fun _ => rfl) ?_
  refine bu (cs := [rowV (α := Int) false l, .sc (.int .i64 0)]) rfl bt25 rfl ?_
  refine bx (cs := _) 12 rfl rfl rfl ?_
  refine pu (v := .ptr _ _ _) rfl rfl (fun _ => rfl) ?_
  refine RunC.fin ?_
  refine AWP.sq ?_
  refine AWP.rgC 64 rfl rfl ?_
  refine pu (v := .ptr _ _ _) rfl rfl (fun _ => rfl) ?_
  refine pu (v := .ptr _ _ _) rfl rfl (fun _ => rfl) ?_
  refine pu (v := .ptr _ _ _) rfl rfl (fun _ => rfl) ?_
  obtain ⟨r1, hr1, hR⟩ := bindE hR
  refine cps (res' := aggV (α := Vec) true r1.1) (ups := [(12, boxB (α := spymake_Stream) false r1.2)]) [12] 32 rfl rfl rfl cb6 (ok6 (spymake_Stream.mk l 0) _ hr1) (.cons (ldP rfl rfl) (.nil)) (pc rfl (.box (.cons ldR' (.cons (.sc _) (.nil))) rfl) pn) rfl rfl rfl rfl rfl (by first | rfl | exact renR | exact renA | exact renS | simp only [V.ren, V.rens, renR, renA, renS] | (simp only [V.ren, V.rens, renR, renA, renS]; rfl)) (by simp only [passUps, renBox, renArr]; rfl) ?_
  obtain ⟨r2, hr2, hR⟩ := bindE hR
  refine cps (res' := aggV (α := Star) true r2.1) (ups := [(12, boxB (α := spymake_Stream) false r2.2)]) [12] 36 rfl rfl rfl cb5 (ok5 r1.2 1 r1.1 _ hr2) (.cons (ldP rfl rfl) (.cons (.sc _) (.cons (.agg (.cons (.sc _) (.cons (.sc _) (.cons (.sc _) (.nil)))) rfl) (.nil)))) (pc rfl (.box (.cons ldR' (.cons (.sc _) (.nil))) rfl) pn) rfl rfl rfl rfl rfl (by first | rfl | exact renR | exact renA | exact renS | simp only [V.ren, V.rens, renR, renA, renS] | (simp only [V.ren, V.rens, renR, renA, renS]; rfl)) (by simp only [passUps, renBox, renArr]; rfl) ?_
  obtain ⟨r3, hr3, hR⟩ := bindE hR
  refine cps (res' := .tup [rowV (α := curve_Sample) false r3.1, .sc (.bool r3.2.1)]) (ups := [(12, boxB (α := spymake_Stream) false r3.2.2)]) [12] 40 rfl rfl rfl cb4 (ok4 r2.2 r2.1 12 _ hr3) (.cons (ldP rfl rfl) (.cons (.agg (.cons (.sc _) (.cons (.sc _) (.cons (.sc _) (.cons (.sc _) (.cons (.sc _) (.cons ldR' (.cons (.sc _) (.cons (.sc _) (.cons (.sc _) (.nil)))))))))) rfl) (.cons (.sc _) (.nil)))) (pc rfl (.box (.cons ldR' (.cons (.sc _) (.nil))) rfl) pn) rfl rfl rfl rfl rfl (by first | rfl | exact renR | exact renA | exact renS | simp only [V.ren, V.rens, renR, renA, renS] | (simp only [V.ren, V.rens, renR, renA, renS]; rfl)) (by simp only [passUps, renBox, renArr]; rfl) ?_
  refine pu (v := .tup _) rfl rfl (fun _ => rfl) ?_
  refine pu (v := rowV _ r3.1) rfl rfl (fun _ => rfl) ?_
  refine pu (v := .sc _) rfl rfl (fun _ => rfl) ?_
  refine pu (v := rowV _ r3.1) rfl rfl (fun _ => rfl) ?_
  refine pu (v := .sc _) rfl rfl (fun _ => rfl) ?_
  refine RunC.fin ?_
  refine AWP.sq ?_
  refine AWP.rgC 80 rfl rfl ?_
  refine pu (v := .sc _) rfl rfl (fun _ => rfl) ?_
  obtain ⟨r4, hr4, hR⟩ := bindE hR
  refine cls [] rfl rfl cb7 (ok7 phases 5 _ hr4) (.cons (.sc _) (.cons (.sc _) (.nil))) (.inr rfl) rfl ?_
  refine pu (v := .sc _) rfl rfl (fun _ => rfl) ?_
  refine pu (v := .sc _) rfl rfl (fun _ => rfl) ?_
  refine RunC.fin ?_
  refine AWP.sq ?_
  refine AWP.rgC 116 rfl rfl ?_
  refine pu (v := .sc _) rfl rfl (fun _ => rfl) ?_
  refine pu (v := .sc _) rfl rfl (fun _ => rfl) ?_
  refine pu (v := .ptr _ _ _) rfl rfl (fun _ => rfl) ?_
  obtain ⟨r5, hr5, hR⟩ := bindE hR
  refine cps (res' := .sc (.int .i64 r5.1)) (ups := [(12, boxB (α := spymake_Stream) false r5.2)]) [12] 92 rfl rfl rfl cb8 (ok8 r3.2.2 1 60 _ hr5) (.cons (ldP rfl rfl) (.cons (.sc _) (.cons (.sc _) (.nil)))) (pc rfl (.box (.cons ldR' (.cons (.sc _) (.nil))) rfl) pn) rfl rfl rfl rfl rfl (by first | rfl | exact renR | exact renA | exact renS | simp only [V.ren, V.rens, renR, renA, renS] | (simp only [V.ren, V.rens, renR, renA, renS]; rfl)) (by simp only [passUps, renBox, renArr]; rfl) ?_
  refine pu (v := .sc _) rfl rfl (fun _ => rfl) ?_
  refine pu (v := .sc _) rfl rfl (fun _ => rfl) ?_
  refine bu (cs := [.sc (.int .i64 (w6 (1 + r4))), .sc (.int .i64 (w6 ((w6 (1 + r4)) * r5.1))), .sc (.int .i64 0), .sc (.int .i64 (w6 (1 + r4)))]) rfl bt40 rfl ?_
  refine al (cs := [.sc (.int .i64 0), .sc (.int .i64 0), .sc (.int .i64 0), .sc (.int .i64 0)]) 108 rfl rfl ti40 rfl rfl ?_
  refine stB (cs' := [.sc (.int .i64 (w6 (1 + r4))), .sc (.int .i64 (w6 ((w6 (1 + r4)) * r5.1))), .sc (.int .i64 0), .sc (.int .i64 (w6 (1 + r4)))]) rfl rfl rfl rfl ti40 rfl rfl rfl rfl rfl ?_
  refine RunC.fin ?_
  refine AWP.sq ?_
  refine AWP.rgD 152 [0, 1, 0, 0, 8, 28, 63, 127, 255] ⟨[4], [none, some [108], none, none, some [12], none, none, none, some [108]]⟩ hmix (by kernel_rfl) rfl rfl ?_
  refine fa rfl rfl ti40 rfl rfl ti33 rfl ?_
  refine ldB (v := .sc _) rfl rfl rfl rfl ti33 rfl rfl ?_
  refine pu (v := .sc _) rfl rfl (fun _ => rfl) ?_
  refine pu (v := .ptr _ _ _) rfl rfl (fun _ => rfl) ?_
  obtain ⟨r6, hr6, hR⟩ := bindE hR
  refine cps (res' := .sc (.int .i64 r6.1)) (ups := [(12, boxB (α := spymake_Stream) false r6.2)]) [12] 132 rfl rfl rfl cb9 (ok9 r5.2 12 _ hr6) (.cons (ldP rfl rfl) (.cons (.sc _) (.nil))) (pc rfl (.box (.cons ldR' (.cons (.sc _) (.nil))) rfl) pn) rfl rfl rfl rfl rfl (by first | rfl | exact renR | exact renA | exact renS | simp only [V.ren, V.rens, renR, renA, renS] | (simp only [V.ren, V.rens, renR, renA, renS]; rfl)) (by simp only [passUps, renBox, renArr]; rfl) ?_
  refine pu (v := .sc _) rfl rfl (fun _ => rfl) ?_
  obtain ⟨v7, ev7, hR⟩ := letE hR
  refine pu (v := .sc _) rfl rfl (fun _ => puI ev7) ?_
  refine fa rfl rfl ti40 rfl rfl ti33 rfl ?_
  refine stB (cs' := [.sc (.int .i64 (w6 (1 + r4))), .sc (.int .i64 (w6 ((w6 (1 + r4)) * r5.1))), .sc (.int .i64 v7), .sc (.int .i64 (w6 (1 + r4)))]) rfl rfl rfl rfl ti33 rfl rfl rfl rfl rfl ?_
  refine RunC.fin ?_
  refine AWP.sq ?_
  refine AWP.rgC 184 rfl rfl ?_
  refine pu (v := rowV _ r3.1) rfl rfl (fun _ => rfl) ?_
  refine ldB (v := .agg _) rfl rfl rfl rfl ti40 rfl rfl ?_
  obtain ⟨r8, hr8, hR⟩ := bindE hR
  refine cls [] rfl rfl cb10 (ok10 r3.1 (period_Ask.mk (w6 (1 + r4)) (w6 ((w6 (1 + r4)) * r5.1)) v7 (w6 (1 + r4))) _ hr8) (.cons ldR' (.cons (.agg (.cons (.sc _) (.cons (.sc _) (.cons (.sc _) (.cons (.sc _) (.nil))))) rfl) (.nil))) (.inr rfl) rfl ?_
  refine pu (v := .tup _) rfl rfl (fun _ => rfl) ?_
  refine pu (v := rowV _ r8.1) rfl rfl (fun _ => rfl) ?_
  refine pu (v := .sc _) rfl rfl (fun _ => rfl) ?_
  refine pu (v := rowV _ r8.1) rfl rfl (fun _ => rfl) ?_
  refine pu (v := .sc _) rfl rfl (fun _ => rfl) ?_
  refine RunC.fin ?_
  refine AWP.sq ?_
  refine AWP.joinX (fun z9 : Bool => LS.mk [(2, .sc (.int .i64 other)), (8, rowV (α := curve_Sample) false r3.1), (10, .sc (.int .i64 (w6 (1 + r4)))), (11, .ptr 0 0 0), (12, rowV (α := Int) true r8.1), (67, .sc (.bool z9))] (lblks 0 [boxB (α := period_Ask) true (period_Ask.mk (w6 (1 + r4)) (w6 ((w6 (1 + r4)) * r5.1)) v7 (w6 (1 + r4)))]) 1) hR (fun o9 hR => ?_) fun z9 hR => ?_
  · refine AWP.rgC 224 rfl rfl ?_
    obtain ⟨r10, hr10, hR⟩ := bindE hR
    refine cls [] rfl rfl cb11 (ok11 _ hr10) (.nil) (.inr rfl) rfl ?_
    refine pu (v := .sc _) rfl rfl (fun _ => rfl) ?_
    refine pu (v := .sc _) rfl rfl (fun _ => rfl) ?_
    refine brR hR (fun h11 hR => ?_) fun h11 hR => ?_
    · refine sk (skW rfl rfl rfl h11) ?_
      refine sk (skW rfl rfl rfl h11) ?_
      refine pkT (v := .sc (.bool true)) rfl rfl h11 rfl ?_
      refine pu (v := .sc _) rfl rfl (fun _ => rfl) ?_
      refine sk (skW rfl rfl rfl rfl) ?_
      refine sk (skW rfl rfl rfl rfl) ?_
      refine pkT (v := .sc (.bool true)) rfl rfl rfl rfl ?_
      refine RunC.fin ?_
      have hR := Option.some.inj hR; subst hR
      exact Weak.turnL [(108, 0)] [] rfl rfl (tc (.sc _) (tc trR1 (tc (.sc _) (tc (trP' rfl rfl rfl rfl) (tc trR1 (tc (.sc _) tn)))))) (mc rfl (.box rfl (.cons (.sc _) (.cons (.sc _) (.cons (.sc _) (.cons (.sc _) (.nil))))) rfl) mn)
    · refine pu (v := .sc _) (wtG rfl rfl rfl h11) rfl (fun _ => rfl) ?_
      refine pu (v := .sc _) (wtG rfl rfl rfl h11) rfl (fun _ => rfl) ?_
      refine pkF (v := .sc (.bool (!r3.2.1))) rfl rfl h11 rfl ?_
      refine pu (v := .sc _) rfl rfl (fun _ => rfl) ?_
      refine brR hR (fun h12 hR => ?_) fun h12 hR => ?_
      · refine sk (skW rfl rfl rfl h12) ?_
        refine sk (skW rfl rfl rfl h12) ?_
        refine pkT (v := .sc (.bool true)) rfl rfl h12 rfl ?_
        refine RunC.fin ?_
        have hR := Option.some.inj hR; subst hR
        exact Weak.turnL [(108, 0)] [] rfl rfl (tc (.sc _) (tc trR1 (tc (.sc _) (tc (trP' rfl rfl rfl rfl) (tc trR1 (tc (.sc _) tn)))))) (mc rfl (.box rfl (.cons (.sc _) (.cons (.sc _) (.cons (.sc _) (.cons (.sc _) (.nil))))) rfl) mn)
      · refine pu (v := .sc _) (wtG rfl rfl rfl h12) rfl (fun _ => rfl) ?_
        refine pu (v := .sc _) (wtG rfl rfl rfl h12) rfl (fun _ => rfl) ?_
        refine pkF (v := .sc (.bool (r8.2 != 0))) rfl rfl h12 rfl ?_
        refine RunC.fin ?_
        have hR := Option.some.inj hR; subst hR
        exact Weak.turnL [(108, 0)] [] rfl rfl (tc (.sc _) (tc trR1 (tc (.sc _) (tc (trP' rfl rfl rfl rfl) (tc trR1 (tc (.sc _) tn)))))) (mc rfl (.box rfl (.cons (.sc _) (.cons (.sc _) (.cons (.sc _) (.cons (.sc _) (.nil))))) rfl) mn)
  · refine AWP.cd hR rfl (fun h13 hR => ?_) fun h13 hR => ?_
    · refine AWP.sq ?_
      refine AWP.rgC 5 rfl rfl ?_
      refine pu (v := .sc _) rfl rfl (fun _ => rfl) ?_
      refine RunC.fin ?_
      refine AWP.ret ?_
      refine rtT ?_
      have hR := Option.some.inj hR; subst hR
      exact hQ _ _ (LS.mk [(6, .sc (.bool false))] (lblks 0 []) 0) (.sc (.bool false)) [] (.inr rfl) (Weak.turnL [] [] rfl rfl (tc (.sc _) tn) mn) (ro1 (rvT (v := .sc (.bool false)) rfl)) rfl rfl (.sc _) pn
    · refine AWP.skip ?_
      refine skT ?_
      refine AWP.sq ?_
      refine AWP.rgD 37 [0, 1, 0, 4, 0, 16, 60, 127, 255] ⟨[], [none, some [0], none, some [0], none, none, none, none, none]⟩ hmix (by kernel_rfl) rfl rfl ?_
      refine fa rfl rfl ti40 rfl rfl ti33 rfl ?_
      refine ldB (v := .sc _) rfl rfl rfl rfl ti33 rfl rfl ?_
      refine fa rfl rfl ti40 rfl rfl ti33 rfl ?_
      refine ldB (v := .sc _) rfl rfl rfl rfl ti33 rfl rfl ?_
      refine pu (v := .sc _) rfl rfl (fun _ => rfl) ?_
      obtain ⟨r14, hr14, hR⟩ := bindE hR
      refine cls [] rfl rfl cb7 (ok7 other 12 _ hr14) (.cons (.sc _) (.cons (.sc _) (.nil))) (.inr rfl) rfl ?_
      refine pu (v := .sc _) rfl rfl (fun _ => rfl) ?_
      obtain ⟨v15, ev15, hR⟩ := letE hR
      refine pu (v := .sc _) rfl rfl (fun _ => puI ev15) ?_
      refine pu (v := .sc _) rfl rfl (fun _ => rfl) ?_
      refine RunC.fin ?_
      refine AWP.sq ?_
      refine AWP.sq ?_
      refine AWP.rgC 49 rfl rfl ?_
      refine fa rfl rfl ti40 rfl rfl ti33 rfl ?_
      refine ldB (v := .sc _) rfl rfl rfl rfl ti33 rfl rfl ?_
      refine pu (v := .sc _) rfl rfl (fun _ => rfl) ?_
      refine RunC.fin ?_
      refine AWP.loopK' (fun s16 : Int => LS.mk [(8, rowV (α := curve_Sample) false r3.1), (10, .sc (.int .i64 (w6 (1 + r4)))), (11, .ptr 0 0 0), (12, rowV (α := Int) true r8.1), (14, .sc (.int .i64 v15)), (15, .sc (.int .i64 s16))] (lblks 0 [boxB (α := period_Ask) true (period_Ask.mk (w6 (1 + r4)) (w6 ((w6 (1 + r4)) * r5.1)) v7 (w6 (1 + r4)))]) 1) (fun z17 : Unit => LS.mk [] (lblks 0 []) 0) (spykeep4_PeriodReasons.l1 r3 r4 v7 r8 v15) hR (s0 := (w6 ((w6 (1 + r4)) * r5.1))) (Weak.turnL [(0, 0)] [] rfl rfl (tc trR1 (tc (.sc _) (tc (trP' rfl rfl rfl rfl) (tc trR1 (tc (.sc _) (tc (.sc _) tn)))))) (mc rfl (.box rfl (.cons (.sc _) (.cons (.sc _) (.cons (.sc _) (.cons (.sc _) (.nil))))) rfl) mn)) (fun s16 o16 hR hE16 => ?_) fun z17 hR => ?_
      · unfold spykeep4_PeriodReasons.l1 at hR
        refine AWP.sq ?_
        refine AWP.sq ?_
        refine AWP.rgC 17 rfl rfl ?_
        refine pu (v := .sc _) rfl rfl (fun _ => rfl) ?_
        refine fa rfl rfl ti40 rfl rfl ti33 rfl ?_
        refine ldB (v := .sc _) rfl rfl rfl rfl ti33 rfl rfl ?_
        refine pu (v := .sc _) rfl rfl (fun _ => rfl) ?_
        refine RunC.fin ?_
        refine AWP.cd hR rfl (fun h18 hR => ?_) fun h18 hR => ?_
        · refine AWP.skip ?_
          refine skT ?_
          refine AWP.sq ?_
          refine AWP.block ?_
          refine AWP.sq ?_
          refine AWP.rgC 65 rfl rfl ?_
          refine pu (v := rowV _ r3.1) rfl rfl (fun _ => rfl) ?_
          refine pu (v := .sc _) rfl rfl (fun _ => rfl) ?_
          refine pu (v := .sc _) rfl rfl (fun _ => rfl) ?_
          obtain ⟨r19, hr19, hR⟩ := bindE hR
          refine cls [] rfl rfl cb12 (ok12 r3.1 s16 (w6 (1 + r4)) _ hr19) (.cons ldR' (.cons (.sc _) (.cons (.sc _) (.nil)))) (.inr rfl) rfl ?_
          refine pu (v := .tup _) rfl rfl (fun _ => rfl) ?_
          refine pu (v := .agg _) rfl rfl (fun _ => rfl) ?_
          refine pu (v := .sc _) rfl rfl (fun _ => rfl) ?_
          refine pu (v := .sc _) rfl rfl (fun _ => rfl) ?_
          refine al (cs := [.sc (.int .i64 0), .sc (.int .i64 0)]) 49 rfl rfl ti48 rfl rfl ?_
          refine stB (cs' := [.sc (.int .i64 r19.1.I), .sc (.int .i64 r19.1.J)]) rfl rfl rfl rfl ti48 rfl rfl rfl rfl rfl ?_
          refine pu (v := .sc _) rfl rfl (fun _ => rfl) ?_
          refine pu (v := .sc _) rfl rfl (fun _ => rfl) ?_
          refine RunC.fin ?_
          refine AWP.sq ?_
          refine AWP.rgC 81 rfl rfl ?_
          refine pu (v := rowV _ r8.1) rfl rfl (fun _ => rfl) ?_
          refine pu (v := .sc _) rfl rfl (fun _ => rfl) ?_
          obtain ⟨r20, hr20, hR⟩ := bindE hR
          refine cls [] rfl rfl cb13 (ok13 r8.1 s16 _ hr20) (.cons ldR' (.cons (.sc _) (.nil))) (.inr rfl) rfl ?_
          refine pu (v := .sc _) rfl rfl (fun _ => rfl) ?_
          refine RunC.fin ?_
          refine AWP.sq ?_
          refine AWP.rgC 121 rfl rfl ?_
          refine pu (v := rowV _ r3.1) rfl rfl (fun _ => rfl) ?_
          refine pu (v := .sc _) rfl rfl (fun _ => rfl) ?_
          refine pu (v := .sc _) rfl rfl (fun _ => rfl) ?_
          refine pu (v := .sc _) rfl rfl (fun _ => rfl) ?_
          obtain ⟨r21, hr21, hR⟩ := bindE hR
          refine cls [] rfl rfl cb14 (ok14 r3.1 s16 v15 (w6 (1 + r4)) _ hr21) (.cons ldR' (.cons (.sc _) (.cons (.sc _) (.cons (.sc _) (.nil))))) (.inr rfl) rfl ?_
          refine pu (v := .tup _) rfl rfl (fun _ => rfl) ?_
          refine pu (v := .sc _) rfl rfl (fun _ => rfl) ?_
          refine pu (v := .sc _) rfl rfl (fun _ => rfl) ?_
          refine pu (v := .sc _) rfl rfl (fun _ => rfl) ?_
          refine pu (v := .sc _) rfl rfl (fun _ => rfl) ?_
          refine RunC.fin ?_
          refine AWP.sq ?_
          refine AWP.joinX (fun z22 : Bool => LS.mk [(8, rowV (α := curve_Sample) false r3.1), (10, .sc (.int .i64 (w6 (1 + r4)))), (11, .ptr 0 0 0), (12, rowV (α := Int) true r8.1), (14, .sc (.int .i64 v15)), (15, .sc (.int .i64 s16)), (19, .sc (.bool r20)), (20, .sc (.bool r21.1)), (126, .sc (.bool z22))] (lblks 0 [boxB (α := period_Ask) true (period_Ask.mk (w6 (1 + r4)) (w6 ((w6 (1 + r4)) * r5.1)) v7 (w6 (1 + r4)))]) 1) hR (fun o22 hR => ?_) fun z22 hR => ?_
          · refine AWP.rgC 209 rfl rfl ?_
            refine pu (v := .sc _) rfl rfl (fun _ => rfl) ?_
            refine pu (v := .sc _) rfl rfl (fun _ => rfl) ?_
            refine pu (v := .sc _) rfl rfl (fun _ => rfl) ?_
            refine brR hR (fun h23 hR => ?_) fun h23 hR => ?_
            · refine sk (skW rfl rfl rfl h23) ?_
              refine sk (skW rfl rfl rfl h23) ?_
              refine pkT (v := .sc (.bool true)) rfl rfl h23 rfl ?_
              refine pu (v := .sc _) rfl rfl (fun _ => rfl) ?_
              refine sk (skW rfl rfl rfl rfl) ?_
              refine sk (skW rfl rfl rfl rfl) ?_
              refine sk (skW rfl rfl rfl rfl) ?_
              refine pkT (v := .sc (.bool true)) rfl rfl rfl rfl ?_
              refine pu (v := .sc _) rfl rfl (fun _ => rfl) ?_
              refine sk (skW rfl rfl rfl rfl) ?_
              refine sk (skW rfl rfl rfl rfl) ?_
              refine sk (skW2 rfl rfl rfl) ?_
              refine sk (skW2 rfl rfl rfl) ?_
              refine sk (skW2 rfl rfl rfl) ?_
              refine sk (skW2 rfl rfl rfl) ?_
              refine sk (skW2 rfl rfl rfl) ?_
              refine sk (skW2 rfl rfl rfl) ?_
              refine sk (skW rfl rfl rfl rfl) ?_
              refine pkT (v := .sc (.bool true)) rfl rfl rfl rfl ?_
              refine RunC.fin ?_
              have hR := Option.some.inj hR; subst hR
              exact Weak.turnL [(0, 0)] [] rfl rfl (tc trR1 (tc (.sc _) (tc (trP' rfl rfl rfl rfl) (tc trR1 (tc (.sc _) (tc (.sc _) (tc (.sc _) (tc (.sc _) (tc (.sc _) tn))))))))) (mc rfl (.box rfl (.cons (.sc _) (.cons (.sc _) (.cons (.sc _) (.cons (.sc _) (.nil))))) rfl) mn)
            · refine pu (v := .sc _) (wtG rfl rfl rfl h23) rfl (fun _ => rfl) ?_
              refine pu (v := .sc _) (wtG rfl rfl rfl h23) rfl (fun _ => rfl) ?_
              refine pkF (v := .sc (.bool (r21.2 != 0))) rfl rfl h23 rfl ?_
              refine pu (v := .sc _) rfl rfl (fun _ => rfl) ?_
              refine brR hR (fun h24 hR => ?_) fun h24 hR => ?_
              · refine sk (skW rfl rfl rfl h24) ?_
                refine sk (skW rfl rfl rfl h24) ?_
                refine sk (skW rfl rfl rfl h24) ?_
                refine pkT (v := .sc (.bool true)) rfl rfl h24 rfl ?_
                refine pu (v := .sc _) rfl rfl (fun _ => rfl) ?_
                refine sk (skW rfl rfl rfl rfl) ?_
                refine sk (skW rfl rfl rfl rfl) ?_
                refine sk (skW2 rfl rfl rfl) ?_
                refine sk (skW2 rfl rfl rfl) ?_
                refine sk (skW2 rfl rfl rfl) ?_
                refine sk (skW2 rfl rfl rfl) ?_
                refine sk (skW2 rfl rfl rfl) ?_
                refine sk (skW2 rfl rfl rfl) ?_
                refine sk (skW rfl rfl rfl rfl) ?_
                refine pkT (v := .sc (.bool true)) rfl rfl rfl rfl ?_
                refine RunC.fin ?_
                have hR := Option.some.inj hR; subst hR
                exact Weak.turnL [(0, 0)] [] rfl rfl (tc trR1 (tc (.sc _) (tc (trP' rfl rfl rfl rfl) (tc trR1 (tc (.sc _) (tc (.sc _) (tc (.sc _) (tc (.sc _) (tc (.sc _) tn))))))))) (mc rfl (.box rfl (.cons (.sc _) (.cons (.sc _) (.cons (.sc _) (.cons (.sc _) (.nil))))) rfl) mn)
              · refine pu (v := .sc _) (wtG rfl rfl rfl h24) rfl (fun _ => rfl) ?_
                refine pu (v := .sc _) (wtG rfl rfl rfl h24) rfl (fun _ => rfl) ?_
                refine eb (wtG rfl rfl rfl h24) rfl rfl ti4 rfl rfl ?_
                refine pkF (v := .sc (.bool (r19.2.1 == r20))) rfl rfl h24 rfl ?_
                refine pu (v := .sc _) rfl rfl (fun _ => rfl) ?_
                refine brR hR (fun h25 hR => ?_) fun h25 hR => ?_
                · refine sk (skW rfl rfl rfl h25) ?_
                  refine sk (skW rfl rfl rfl h25) ?_
                  refine sk (skW2 rfl rfl rfl) ?_
                  refine sk (skW2 rfl rfl rfl) ?_
                  refine sk (skW2 rfl rfl rfl) ?_
                  refine sk (skW2 rfl rfl rfl) ?_
                  refine sk (skW2 rfl rfl rfl) ?_
                  refine sk (skW2 rfl rfl rfl) ?_
                  refine sk (skW rfl rfl rfl h25) ?_
                  refine pkT (v := .sc (.bool true)) rfl rfl h25 rfl ?_
                  refine RunC.fin ?_
                  have hR := Option.some.inj hR; subst hR
                  exact Weak.turnL [(0, 0)] [] rfl rfl (tc trR1 (tc (.sc _) (tc (trP' rfl rfl rfl rfl) (tc trR1 (tc (.sc _) (tc (.sc _) (tc (.sc _) (tc (.sc _) (tc (.sc _) tn))))))))) (mc rfl (.box rfl (.cons (.sc _) (.cons (.sc _) (.cons (.sc _) (.cons (.sc _) (.nil))))) rfl) mn)
                · refine pu (v := .sc _) (wtG rfl rfl rfl h25) rfl (fun _ => rfl) ?_
                  refine pu (v := .sc _) (wtG rfl rfl rfl h25) rfl (fun _ => rfl) ?_
                  refine brR hR (fun h26 hR => ?_) fun h26 hR => ?_
                  · refine pu (v := rowV _ r3.1) (wtG rfl rfl rfl h26) rfl (fun _ => rfl) ?_
                    refine pu (v := .sc _) (wtG rfl rfl rfl h26) rfl (fun _ => rfl) ?_
                    refine pu (v := .sc _) (wtG rfl rfl rfl h26) rfl (fun _ => rfl) ?_
                    refine ldB (v := .agg _) (wtG rfl rfl rfl h26) rfl rfl rfl ti48 rfl rfl ?_
                    obtain ⟨r27, hr27, hR⟩ := bindE hR
                    refine cls [] (wtG rfl rfl rfl h26) rfl cb15 (ok15 r3.1 s16 (w6 (1 + r4)) r19.1 _ hr27) (.cons ldR' (.cons (.sc _) (.cons (.sc _) (.cons (.agg (.cons (.sc _) (.cons (.sc _) (.nil))) rfl) (.nil))))) (.inr rfl) rfl ?_
                    refine pu (v := .sc _) (wtG rfl rfl rfl h26) rfl (fun _ => rfl) ?_
                    refine pkT (v := .sc (.bool (!r27))) (wtG rfl rfl rfl h25) rfl h26 rfl ?_
                    refine pkF (v := .sc (.bool (!r27))) rfl rfl h25 rfl ?_
                    refine RunC.fin ?_
                    have hR := Option.some.inj hR; subst hR
                    exact Weak.turnL [(0, 0)] [] rfl rfl (tc trR1 (tc (.sc _) (tc (trP' rfl rfl rfl rfl) (tc trR1 (tc (.sc _) (tc (.sc _) (tc (.sc _) (tc (.sc _) (tc (.sc _) tn))))))))) (mc rfl (.box rfl (.cons (.sc _) (.cons (.sc _) (.cons (.sc _) (.cons (.sc _) (.nil))))) rfl) mn)
                  · refine sk (skW rfl rfl rfl h26) ?_
                    refine sk (skW rfl rfl rfl h26) ?_
                    refine sk (skW rfl rfl rfl h26) ?_
                    refine sk (skW rfl rfl rfl h26) ?_
                    refine sk (skW rfl rfl rfl h26) ?_
                    refine sk (skW rfl rfl rfl h26) ?_
                    refine pkF (v := .sc (.bool false)) (wtG rfl rfl rfl h25) rfl h26 rfl ?_
                    refine pkF (v := .sc (.bool false)) rfl rfl h25 rfl ?_
                    refine RunC.fin ?_
                    have hR := Option.some.inj hR; subst hR
                    exact Weak.turnL [(0, 0)] [] rfl rfl (tc trR1 (tc (.sc _) (tc (trP' rfl rfl rfl rfl) (tc trR1 (tc (.sc _) (tc (.sc _) (tc (.sc _) (tc (.sc _) (tc (.sc _) tn))))))))) (mc rfl (.box rfl (.cons (.sc _) (.cons (.sc _) (.cons (.sc _) (.cons (.sc _) (.nil))))) rfl) mn)
          · refine AWP.cd hR rfl (fun h28 hR => ?_) fun h28 hR => ?_
            · refine AWP.sq ?_
              refine AWP.rgC 5 rfl rfl ?_
              refine pu (v := .sc _) rfl rfl (fun _ => rfl) ?_
              refine RunC.fin ?_
              refine AWP.ret ?_
              refine rtT ?_
              refine rtB ?_
              refine rtT ?_
              refine rtT ?_
              refine rtB (rtT ?_)
              replace hR := escL hR hE16
              refine rtT ?_
              have hR := Option.some.inj hR; subst hR
              exact hQ _ _ (LS.mk [(6, .sc (.bool false))] (lblks 0 []) 0) (.sc (.bool false)) [] (.inr rfl) (Weak.turnL [] [] rfl rfl (tc (.sc _) tn) mn) (ro1 (rvT (v := .sc (.bool false)) rfl)) rfl rfl (.sc _) pn
            · refine AWP.skip ?_
              refine skT ?_
              refine AWP.joinX (fun z29 : Bool => LS.mk [(8, rowV (α := curve_Sample) false r3.1), (10, .sc (.int .i64 (w6 (1 + r4)))), (11, .ptr 0 0 0), (12, rowV (α := Int) true r8.1), (14, .sc (.int .i64 v15)), (15, .sc (.int .i64 s16)), (140, .sc (.bool z29))] (lblks 0 [boxB (α := period_Ask) true (period_Ask.mk (w6 (1 + r4)) (w6 ((w6 (1 + r4)) * r5.1)) v7 (w6 (1 + r4)))]) 1) hR (fun o29 hR => ?_) fun z29 hR => ?_
              · refine AWP.rgC 57 rfl rfl ?_
                refine pu (v := .sc _) rfl rfl (fun _ => rfl) ?_
                refine pu (v := .sc _) rfl rfl (fun _ => rfl) ?_
                refine brR hR (fun h30 hR => ?_) fun h30 hR => ?_
                · refine pu (v := .sc _) (wtG rfl rfl rfl h30) rfl (fun _ => rfl) ?_
                  refine fa (wtG rfl rfl rfl h30) rfl ti40 rfl rfl ti33 rfl ?_
                  refine ldB (v := .sc _) (wtG rfl rfl rfl h30) rfl rfl rfl ti33 rfl rfl ?_
                  refine pu (v := .sc _) (wtG rfl rfl rfl h30) rfl (fun _ => rfl) ?_
                  refine pkT (v := .sc (.bool (decide (v15 ≤ v7)))) rfl rfl h30 rfl ?_
                  refine pu (v := .sc _) rfl rfl (fun _ => rfl) ?_
                  refine brR hR (fun h31 hR => ?_) fun h31 hR => ?_
                  · refine pu (v := .sc _) (wtG rfl rfl rfl h31) rfl (fun _ => rfl) ?_
                    refine pu (v := rowV _ r8.1) (wtG rfl rfl rfl h31) rfl (fun _ => rfl) ?_
                    refine pu (v := .sc _) (wtG rfl rfl rfl h31) rfl (fun _ => rfl) ?_
                    obtain ⟨r32, hr32, hR⟩ := bindE hR
                    refine cls [] (wtG rfl rfl rfl h31) rfl cb13 (ok13 r8.1 v15 _ hr32) (.cons ldR' (.cons (.sc _) (.nil))) (.inr rfl) rfl ?_
                    refine nb (wtG rfl rfl rfl h31) rfl rfl ti4 rfl rfl ?_
                    refine pkT (v := .sc (.bool (r20 != r32))) rfl rfl h31 rfl ?_
                    refine RunC.fin ?_
                    have hR := Option.some.inj hR; subst hR
                    exact Weak.turnL [(0, 0)] [] rfl rfl (tc trR1 (tc (.sc _) (tc (trP' rfl rfl rfl rfl) (tc trR1 (tc (.sc _) (tc (.sc _) (tc (.sc _) tn))))))) (mc rfl (.box rfl (.cons (.sc _) (.cons (.sc _) (.cons (.sc _) (.cons (.sc _) (.nil))))) rfl) mn)
                  · refine sk (skW rfl rfl rfl h31) ?_
                    refine sk (skW rfl rfl rfl h31) ?_
                    refine sk (skW rfl rfl rfl h31) ?_
                    refine sk (skW rfl rfl rfl h31) ?_
                    refine sk (skW rfl rfl rfl h31) ?_
                    refine pkF (v := .sc (.bool false)) rfl rfl h31 rfl ?_
                    refine RunC.fin ?_
                    have hR := Option.some.inj hR; subst hR
                    exact Weak.turnL [(0, 0)] [] rfl rfl (tc trR1 (tc (.sc _) (tc (trP' rfl rfl rfl rfl) (tc trR1 (tc (.sc _) (tc (.sc _) (tc (.sc _) tn))))))) (mc rfl (.box rfl (.cons (.sc _) (.cons (.sc _) (.cons (.sc _) (.cons (.sc _) (.nil))))) rfl) mn)
                · refine sk (skW rfl rfl rfl h30) ?_
                  refine sk (skW rfl rfl rfl h30) ?_
                  refine sk (skW rfl rfl rfl h30) ?_
                  refine sk (skW rfl rfl rfl h30) ?_
                  refine pkF (v := .sc (.bool false)) rfl rfl h30 rfl ?_
                  refine pu (v := .sc _) rfl rfl (fun _ => rfl) ?_
                  refine sk (skW rfl rfl rfl rfl) ?_
                  refine sk (skW rfl rfl rfl rfl) ?_
                  refine sk (skW rfl rfl rfl rfl) ?_
                  refine sk (skW rfl rfl rfl rfl) ?_
                  refine sk (skW rfl rfl rfl rfl) ?_
                  refine pkF (v := .sc (.bool false)) rfl rfl rfl rfl ?_
                  refine RunC.fin ?_
                  have hR := Option.some.inj hR; subst hR
                  exact Weak.turnL [(0, 0)] [] rfl rfl (tc trR1 (tc (.sc _) (tc (trP' rfl rfl rfl rfl) (tc trR1 (tc (.sc _) (tc (.sc _) (tc (.sc _) tn))))))) (mc rfl (.box rfl (.cons (.sc _) (.cons (.sc _) (.cons (.sc _) (.cons (.sc _) (.nil))))) rfl) mn)
              · refine AWP.cd hR rfl (fun h33 hR => ?_) fun h33 hR => ?_
                · refine AWP.sq ?_
                  refine AWP.rgC 5 rfl rfl ?_
                  refine pu (v := .sc _) rfl rfl (fun _ => rfl) ?_
                  refine RunC.fin ?_
                  refine AWP.ret ?_
                  refine rtB ?_
                  refine rtT ?_
                  refine rtT ?_
                  refine rtB (rtT ?_)
                  replace hR := escL hR hE16
                  refine rtT ?_
                  have hR := Option.some.inj hR; subst hR
                  exact hQ _ _ (LS.mk [(6, .sc (.bool false))] (lblks 0 []) 0) (.sc (.bool false)) [] (.inr rfl) (Weak.turnL [] [] rfl rfl (tc (.sc _) tn) mn) (ro1 (rvT (v := .sc (.bool false)) rfl)) rfl rfl (.sc _) pn
                · refine AWP.skip ?_
                  refine skB ?_
                  refine skT ?_
                  refine AWP.rgC 21 rfl rfl ?_
                  refine pu (v := .sc _) rfl rfl (fun _ => rfl) ?_
                  refine fa rfl rfl ti40 rfl rfl ti33 rfl ?_
                  refine ldB (v := .sc _) rfl rfl rfl rfl ti33 rfl rfl ?_
                  refine pu (v := .sc _) rfl rfl (fun _ => rfl) ?_
                  refine pu (v := .sc _) rfl rfl (fun _ => rfl) ?_
                  refine RunC.fin ?_
                  refine ⟨(w6 (s16 + (w6 (1 + r4)))), (Option.some.inj hR).symm, ?_⟩
                  exact Weak.turnL [(0, 0)] [] rfl rfl (tc trR1 (tc (.sc _) (tc (trP' rfl rfl rfl rfl) (tc trR1 (tc (.sc _) (tc (.sc _) tn)))))) (mc rfl (.box rfl (.cons (.sc _) (.cons (.sc _) (.cons (.sc _) (.cons (.sc _) (.nil))))) rfl) mn)
        · refine AWP.exit ?_
          refine exT ?_
          refine exT ?_
          refine exH (skT ?_)
          refine ⟨(), (Option.some.inj hR).symm, ?_⟩
          exact Weak.turnL [] [] rfl rfl tn mn
      · refine skT ?_
        refine AWP.sq ?_
        refine AWP.rgC 4 rfl rfl ?_
        refine pu (v := .sc _) rfl rfl (fun _ => rfl) ?_
        refine RunC.fin ?_
        refine AWP.ret ?_
        have hR := Option.some.inj hR; subst hR
        exact hQ _ _ (LS.mk [(6, .sc (.bool true))] (lblks 0 []) 0) (.sc (.bool true)) [] (.inr rfl) (Weak.turnL [] [] rfl rfl (tc (.sc _) tn) mn) (ro1 (rvT (v := .sc (.bool true)) rfl)) rfl rfl (.sc _) pn
end Go.Proofs.Per
