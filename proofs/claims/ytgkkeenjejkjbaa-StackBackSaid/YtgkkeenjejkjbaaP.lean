/- Each function of the program computes its plain function. Conditions: as each theorem states them. -/
import Derived.Test.YtgkkeenjejkjbaaA4
import Derived.Shelf.RegionOpenPlain
import Derived.WalkKit
import Derived.Deep.LoopGhost
import Derived.Deep.MidRow
import Derived.Lib.SlicesDelete
import Derived.Sort.WalkB12
import Derived.Lib.Walk
import Derived.Test.YtgkkeenjejkjbaaT
import Derived.Test.YtgkkeenjejkjbaaP0
namespace Go.Proofs.Stb
open Go Go.Abs Lf
set_option linter.unusedVariables false
set_option linter.unusedSimpArgs false
set_option maxRecDepth 100000
set_option maxHeartbeats 1000000
theorem ok5 (s : spymake_Stream) (w : Int) (h : Int) (r : Cells × spymake_Stream) (hR : Stream_Field s w h = some r) : FnD Try.prog 5 [boxB false s] [.ptr 0 0 0, .sc (.int .i64 w), .sc (.int .i64 h)] (aggV (α := Cells) true r.1) [boxB false r.2] := by
  refine FnX.walk Try.func5 rfl 57 1 (by simp [Try.ntmps5]) rfl fun W S F Q hQ => ?_
  unfold Stream_Field at hR
  refine AWP.sq ?_
  refine AWP.rgC 5 rfl rfl ?_
  refine al (cs := [.sc (.int .i64 0), .sc (.int .i64 0), .sc (.slice none 0 0)]) 1 rfl rfl ti30 rfl rfl ?_
  refine RunC.fin ?_
  refine AWP.sq ?_
  refine AWP.rgC 25 rfl rfl ?_
  refine pu (v := .sc _) rfl rfl (fun _ => rfl) ?_
  refine pu (v := .sc _) rfl rfl (fun _ => rfl) ?_
  refine bu (cs := [.sc (.int .i64 w), .sc (.int .i64 h), .sc (.slice none 0 0)]) rfl bt30 rfl ?_
  refine al (cs := [.sc (.int .i64 0), .sc (.int .i64 0), .sc (.slice none 0 0)]) 17 rfl rfl ti30 rfl rfl ?_
  refine stB (cs' := [.sc (.int .i64 w), .sc (.int .i64 h), .sc (.slice none 0 0)]) rfl rfl rfl rfl ti30 rfl rfl rfl rfl rfl ?_
  refine RunC.fin ?_
  refine AWP.sq ?_
  refine AWP.rgC 49 rfl rfl ?_
  refine pu (v := .ptr _ _ _) rfl rfl (fun _ => rfl) ?_
  obtain ⟨r1, hr1, hR⟩ := bindE hR
  refine cps (res' := .sc (.int .i64 r1.1)) (ups := [(0, boxB (α := spymake_Stream) false r1.2)]) [0] 29 rfl rfl rfl cb14 (ok14 s 200 _ hr1) (.cons (ldP rfl rfl) (.cons (.sc _) (.nil))) (pc rfl (.box (.cons ldR' (.cons (.sc _) (.nil))) rfl) pn) rfl rfl rfl rfl rfl (by first | rfl | exact renR | exact renA | exact renS | simp only [V.ren, V.rens, renR, renA, renS] | (simp only [V.ren, V.rens, renR, renA, renS]; rfl)) (by simp only [passUps, renBox, renArr]; rfl) ?_
  refine pu (v := .ptr _ _ _) rfl rfl (fun _ => rfl) ?_
  obtain ⟨r2, hr2, hR⟩ := bindE hR
  refine cps (res' := .sc (.int .i64 r2.1)) (ups := [(0, boxB (α := spymake_Stream) false r2.2)]) [0] 37 rfl rfl rfl cb4 (ok4 r1.2 0 30 _ hr2) (.cons (ldP rfl rfl) (.cons (.sc _) (.cons (.sc _) (.nil)))) (pc rfl (.box (.cons ldR' (.cons (.sc _) (.nil))) rfl) pn) rfl rfl rfl rfl rfl (by first | rfl | exact renR | exact renA | exact renS | simp only [V.ren, V.rens, renR, renA, renS] | (simp only [V.ren, V.rens, renR, renA, renS]; rfl)) (by simp only [passUps, renBox, renArr]; rfl) ?_
  refine pu (v := .sc _) rfl rfl (fun _ => rfl) ?_
  refine pu (v := .sc _) rfl rfl (fun _ => rfl) ?_
  refine RunC.fin ?_
  refine AWP.sq ?_
  refine AWP.sq ?_
  refine AWP.rgC 65 rfl rfl ?_
  refine pu (v := .sc _) rfl rfl (fun _ => rfl) ?_
  refine pu (v := .sc _) rfl rfl (fun _ => rfl) ?_
  refine pu (v := .sc _) rfl rfl (fun _ => rfl) ?_
  refine pu (v := .sc _) rfl rfl (fun _ => rfl) ?_
  refine RunC.fin ?_
  refine AWP.nilB Bound 17 2 45 rfl rfl (cs' := [.sc (.int .i64 w), .sc (.int .i64 h), slV Bound 65 0 0 0]) rfl ?_
  refine AWP.loopJ (fun s3 : spymake_Stream × (List Bound) × Int => LS.mk [(0, .ptr 0 0 0), (6, .ptr 1 0 0), (7, .ptr 2 0 0), (8, .sc (.int .i64 r1.1)), (9, .sc (.int .i64 r2.1)), (21, .sc (.int .i64 (w6 (w * h)))), (22, .sc (.int .i64 s3.2.2))] (lblks 0 [boxB (α := spymake_Stream) false s3.1, .box [.sc (.int .i64 0), .sc (.int .i64 0), .sc (.slice none 0 0)], .box [.sc (.int .i64 w), .sc (.int .i64 h), slV Bound 3 0 0 s3.2.1.length], arrB (α := Bound) 45 0 true s3.2.1]) 4) (fun z4 : spymake_Stream × (List Bound) => LS.mk [(6, .ptr 1 0 0), (7, .ptr 2 0 0)] (lblks 0 [boxB (α := spymake_Stream) false z4.1, .box [.sc (.int .i64 0), .sc (.int .i64 0), .sc (.slice none 0 0)], .box [.sc (.int .i64 w), .sc (.int .i64 h), slV Bound 3 0 0 z4.2.length], arrB (α := Bound) 45 0 true z4.2]) 4) (Stream_Field.l1 w h r1 r2) hR (s0 := (r2.2, ([] : List Bound), 0)) (Weak.turnL [(0, 0), (1, 0), (17, 0), (65, 0)] [] rfl rfl (tc (trP' rfl rfl rfl rfl) (tc (trP' rfl rfl rfl rfl) (tc (trP' rfl rfl rfl rfl) (tc (.sc _) (tc (.sc _) (tc (.sc _) (tc (.sc _) tn))))))) (mc rfl (.box rfl (.cons trR1 (.cons (.sc _) (.nil))) rfl) (mc rfl (.box rfl (.cons (.sc _) (.cons (.sc _) (.cons (.sc _) (.nil)))) rfl) (mc rfl (.box rfl (.cons (.sc _) (.cons (.sc _) (.cons (trS' rfl rfl rfl rfl rfl) (.nil)))) rfl) (mc rfl (btrA' rfl) mn))))) (fun s3 o3 hR => ?_) fun z4 hR => ?_
  · unfold Stream_Field.l1 at hR
    refine AWP.sq ?_
    refine AWP.rgC 8 rfl rfl ?_
    refine pu (v := .sc _) rfl rfl (fun _ => rfl) ?_
    refine RunC.fin ?_
    refine AWP.sq ?_
    refine AWP.cd hR rfl (fun h5 hR => ?_) fun h5 hR => ?_
    · refine AWP.skip ?_
      refine skT ?_
      refine AWP.sq ?_
      refine AWP.block ?_
      refine AWP.sq ?_
      refine AWP.rgC 16 rfl rfl ?_
      refine pu (v := .sc _) rfl rfl (fun _ => rfl) ?_
      refine pu (v := .sc _) rfl rfl (fun _ => rfl) ?_
      refine RunC.fin ?_
      refine AWP.sq ?_
      refine AWP.sq ?_
      refine AWP.rgC 28 rfl rfl ?_
      refine pu (v := .ptr _ _ _) rfl rfl (fun _ => rfl) ?_
      obtain ⟨r6, hr6, hR⟩ := bindE hR
      refine cps (res' := .sc (.int .i64 r6.1)) (ups := [(0, boxB (α := spymake_Stream) false r6.2)]) [0] 20 rfl rfl rfl cb14 (ok14 s3.1 5 _ hr6) (.cons (ldP rfl rfl) (.cons (.sc _) (.nil))) (pc rfl (.box (.cons ldR' (.cons (.sc _) (.nil))) rfl) pn) rfl rfl rfl rfl rfl (by first | rfl | exact renR | exact renA | exact renS | simp only [V.ren, V.rens, renR, renA, renS] | (simp only [V.ren, V.rens, renR, renA, renS]; rfl)) (by simp only [passUps, renBox, renArr]; rfl) ?_
      refine pu (v := .sc _) rfl rfl (fun _ => rfl) ?_
      refine RunC.fin ?_
      refine AWP.cd hR rfl (fun h7 hR => ?_) fun h7 hR => ?_
      · refine AWP.rgC 48 rfl rfl ?_
        refine pu (v := .sc _) rfl rfl (fun _ => rfl) ?_
        refine pu (v := .ptr _ _ _) rfl rfl (fun _ => rfl) ?_
        obtain ⟨r8, hr8, hR⟩ := bindE hR
        refine cps (res' := .sc (.int .i64 r8.1)) (ups := [(0, boxB (α := spymake_Stream) false r8.2)]) [0] 36 rfl rfl rfl cb14 (ok14 r6.2 2000 _ hr8) (.cons (ldP rfl rfl) (.cons (.sc _) (.nil))) (pc rfl (.box (.cons ldR' (.cons (.sc _) (.nil))) rfl) pn) rfl rfl rfl rfl rfl (by first | rfl | exact renR | exact renA | exact renS | simp only [V.ren, V.rens, renR, renA, renS] | (simp only [V.ren, V.rens, renR, renA, renS]; rfl)) (by simp only [passUps, renBox, renArr]; rfl) ?_
        refine pu (v := .sc _) rfl rfl (fun _ => rfl) ?_
        refine pu (v := .sc _) rfl rfl (fun _ => rfl) ?_
        refine RunC.fin ?_
        refine AWP.sq ?_
        refine AWP.rgC 108 rfl rfl ?_
        refine pu (v := .sc _) rfl rfl (fun _ => rfl) ?_
        refine pu (v := .ptr _ _ _) rfl rfl (fun _ => rfl) ?_
        refine pu (v := .sc _) rfl rfl (fun _ => rfl) ?_
        refine pu (v := .sc _) rfl rfl (fun _ => rfl) ?_
        obtain ⟨r9, hr9, hR⟩ := bindE hR
        refine cps (res' := .sc (.int .i64 r9.1)) (ups := [(0, boxB (α := spymake_Stream) false r9.2)]) [0] 64 rfl rfl rfl cb14 (ok14 r8.2 (w6 (r2.1 + 1)) _ hr9) (.cons (ldP rfl rfl) (.cons (.sc _) (.nil))) (pc rfl (.box (.cons ldR' (.cons (.sc _) (.nil))) rfl) pn) rfl rfl rfl rfl rfl (by first | rfl | exact renR | exact renA | exact renS | simp only [V.ren, V.rens, renR, renA, renS] | (simp only [V.ren, V.rens, renR, renA, renS]; rfl)) (by simp only [passUps, renBox, renArr]; rfl) ?_
        refine pu (v := .sc _) rfl rfl (fun _ => rfl) ?_
        refine pu (v := .sc _) rfl rfl (fun _ => rfl) ?_
        refine pu (v := .ptr _ _ _) rfl rfl (fun _ => rfl) ?_
        refine pu (v := .sc _) rfl rfl (fun _ => rfl) ?_
        refine pu (v := .sc _) rfl rfl (fun _ => rfl) ?_
        obtain ⟨r10, hr10, hR⟩ := bindE hR
        refine cps (res' := .sc (.int .i64 r10.1)) (ups := [(0, boxB (α := spymake_Stream) false r10.2)]) [0] 88 rfl rfl rfl cb14 (ok14 r9.2 (w6 (r2.1 + 1)) _ hr10) (.cons (ldP rfl rfl) (.cons (.sc _) (.nil))) (pc rfl (.box (.cons ldR' (.cons (.sc _) (.nil))) rfl) pn) rfl rfl rfl rfl rfl (by first | rfl | exact renR | exact renA | exact renS | simp only [V.ren, V.rens, renR, renA, renS] | (simp only [V.ren, V.rens, renR, renA, renS]; rfl)) (by simp only [passUps, renBox, renArr]; rfl) ?_
        refine pu (v := .sc _) rfl rfl (fun _ => rfl) ?_
        refine bu (cs := [.sc (.int .i64 (w6 ((w6 (r1.1 + r8.1)) - r9.1))), .sc (.int .i64 (w6 ((w6 (r1.1 + r8.1)) + r10.1))), .sc (.bool false)]) rfl bt45 rfl ?_
        refine al (cs := [.sc (.int .i64 0), .sc (.int .i64 0), .sc (.bool false)]) 100 rfl rfl ti45 rfl rfl ?_
        refine stB (cs' := [.sc (.int .i64 (w6 ((w6 (r1.1 + r8.1)) - r9.1))), .sc (.int .i64 (w6 ((w6 (r1.1 + r8.1)) + r10.1))), .sc (.bool false)]) rfl rfl rfl rfl ti45 rfl rfl rfl rfl rfl ?_
        refine RunC.fin ?_
        refine AWP.sq ?_
        refine AWP.sq ?_
        refine AWP.rgC 120 rfl rfl ?_
        refine pu (v := .ptr _ _ _) rfl rfl (fun _ => rfl) ?_
        obtain ⟨r11, hr11, hR⟩ := bindE hR
        refine cps (res' := .sc (.int .i64 r11.1)) (ups := [(0, boxB (α := spymake_Stream) false r11.2)]) [0] 112 rfl rfl rfl cb14 (ok14 r10.2 15 _ hr11) (.cons (ldP rfl rfl) (.cons (.sc _) (.nil))) (pc rfl (.box (.cons ldR' (.cons (.sc _) (.nil))) rfl) pn) rfl rfl rfl rfl rfl (by first | rfl | exact renR | exact renA | exact renS | simp only [V.ren, V.rens, renR, renA, renS] | (simp only [V.ren, V.rens, renR, renA, renS]; rfl)) (by simp only [passUps, renBox, renArr]; rfl) ?_
        refine pu (v := .sc _) rfl rfl (fun _ => rfl) ?_
        refine RunC.fin ?_
        refine AWP.cd hR rfl (fun h12 hR => ?_) fun h12 hR => ?_
        · refine AWP.rgC 128 rfl rfl ?_
          refine bu (cs := [.sc (.int .i64 0), .sc (.int .i64 0), .sc (.bool true)]) rfl bt45 rfl ?_
          refine stB (cs' := [.sc (.int .i64 0), .sc (.int .i64 0), .sc (.bool true)]) rfl rfl rfl rfl ti45 rfl rfl rfl rfl rfl ?_
          refine RunC.fin ?_
          refine AWP.rgC 156 rfl rfl ?_
          refine fa rfl rfl ti30 rfl rfl ti28 rfl ?_
          refine ldB (v := slV Bound _ _ _ _) rfl rfl rfl rfl ti28 rfl rfl ?_
          refine ldB (v := .agg _) rfl rfl rfl rfl ti45 rfl rfl ?_
          refine bs (α := Bound) 140 true ([Bound.mk 0 0 true] : List Bound) rfl rfl ti28 rfl ti45 rfl rfl rfl rfl rfl ?_
          obtain ⟨h13, hR⟩ := chkE hR
          refine ap' (α := Bound) (nw := true) (xs := s3.2.1) (ys := ([Bound.mk 0 0 true] : List Bound)) rfl rfl rfl rfl (srcS' rfl rfl rfl) ti28 rfl ti45 rfl h13 rfl ?_
          refine fa rfl rfl ti30 rfl rfl ti28 rfl ?_
          refine stB (cs' := [.sc (.int .i64 w), .sc (.int .i64 h), slV Bound 3 1 0 (s3.2.1 ++ ([Bound.mk 0 0 true] : List Bound)).length]) rfl rfl rfl rfl ti28 rfl rfl rfl rfl rfl ?_
          refine RunC.blk ?_
          refine RunC.fin ?_
          refine AWP.rgC 164 rfl rfl ?_
          refine pu (v := .sc _) rfl rfl (fun _ => rfl) ?_
          refine pu (v := .sc _) rfl rfl (fun _ => rfl) ?_
          refine RunC.fin ?_
          refine ⟨(r11.2, s3.2.1 ++ ([Bound.mk 0 0 true] : List Bound), w6 (s3.2.2 + 1)), (Option.some.inj hR).symm, ?_⟩
          exact Weak.turnL [(0, 0), (1, 0), (2, 0), (3, 0)] [] rfl rfl (tc (trP' rfl rfl rfl rfl) (tc (trP' rfl rfl rfl rfl) (tc (trP' rfl rfl rfl rfl) (tc (.sc _) (tc (.sc _) (tc (.sc _) (tc (.sc _) tn))))))) (mc rfl (.box rfl (.cons trR1 (.cons (.sc _) (.nil))) rfl) (mc rfl (.box rfl (.cons (.sc _) (.cons (.sc _) (.cons (.sc _) (.nil)))) rfl) (mc rfl (.box rfl (.cons (.sc _) (.cons (.sc _) (.cons (trS' rfl rfl rfl rfl rfl) (.nil)))) rfl) (mc rfl (btrA' rfl) mn))))
        · refine AWP.skip ?_
          refine skT ?_
          refine AWP.rgC 148 rfl rfl ?_
          refine fa rfl rfl ti30 rfl rfl ti28 rfl ?_
          refine ldB (v := slV Bound _ _ _ _) rfl rfl rfl rfl ti28 rfl rfl ?_
          refine ldB (v := .agg _) rfl rfl rfl rfl ti45 rfl rfl ?_
          refine bs (α := Bound) 132 true ([Bound.mk (w6 ((w6 (r1.1 + r8.1)) - r9.1)) (w6 ((w6 (r1.1 + r8.1)) + r10.1)) false] : List Bound) rfl rfl ti28 rfl ti45 rfl rfl rfl rfl rfl ?_
          obtain ⟨h14, hR⟩ := chkE hR
          refine ap' (α := Bound) (nw := true) (xs := s3.2.1) (ys := ([Bound.mk (w6 ((w6 (r1.1 + r8.1)) - r9.1)) (w6 ((w6 (r1.1 + r8.1)) + r10.1)) false] : List Bound)) rfl rfl rfl rfl (srcS' rfl rfl rfl) ti28 rfl ti45 rfl h14 rfl ?_
          refine fa rfl rfl ti30 rfl rfl ti28 rfl ?_
          refine stB (cs' := [.sc (.int .i64 w), .sc (.int .i64 h), slV Bound 3 1 0 (s3.2.1 ++ ([Bound.mk (w6 ((w6 (r1.1 + r8.1)) - r9.1)) (w6 ((w6 (r1.1 + r8.1)) + r10.1)) false] : List Bound)).length]) rfl rfl rfl rfl ti28 rfl rfl rfl rfl rfl ?_
          refine RunC.blk ?_
          refine RunC.fin ?_
          refine AWP.rgC 156 rfl rfl ?_
          refine pu (v := .sc _) rfl rfl (fun _ => rfl) ?_
          refine pu (v := .sc _) rfl rfl (fun _ => rfl) ?_
          refine RunC.fin ?_
          refine ⟨(r11.2, s3.2.1 ++ ([Bound.mk (w6 ((w6 (r1.1 + r8.1)) - r9.1)) (w6 ((w6 (r1.1 + r8.1)) + r10.1)) false] : List Bound), w6 (s3.2.2 + 1)), (Option.some.inj hR).symm, ?_⟩
          exact Weak.turnL [(0, 0), (1, 0), (2, 0), (3, 0)] [] rfl rfl (tc (trP' rfl rfl rfl rfl) (tc (trP' rfl rfl rfl rfl) (tc (trP' rfl rfl rfl rfl) (tc (.sc _) (tc (.sc _) (tc (.sc _) (tc (.sc _) tn))))))) (mc rfl (.box rfl (.cons trR1 (.cons (.sc _) (.nil))) rfl) (mc rfl (.box rfl (.cons (.sc _) (.cons (.sc _) (.cons (.sc _) (.nil)))) rfl) (mc rfl (.box rfl (.cons (.sc _) (.cons (.sc _) (.cons (trS' rfl rfl rfl rfl rfl) (.nil)))) rfl) (mc rfl (btrA' rfl) mn))))
      · refine AWP.skip ?_
        refine skT ?_
        refine AWP.sq ?_
        refine AWP.rgC 88 rfl rfl ?_
        refine pu (v := .sc _) rfl rfl (fun _ => rfl) ?_
        refine pu (v := .ptr _ _ _) rfl rfl (fun _ => rfl) ?_
        refine pu (v := .sc _) rfl rfl (fun _ => rfl) ?_
        refine pu (v := .sc _) rfl rfl (fun _ => rfl) ?_
        obtain ⟨r15, hr15, hR⟩ := bindE hR
        refine cps (res' := .sc (.int .i64 r15.1)) (ups := [(0, boxB (α := spymake_Stream) false r15.2)]) [0] 44 rfl rfl rfl cb14 (ok14 r6.2 (w6 (r2.1 + 1)) _ hr15) (.cons (ldP rfl rfl) (.cons (.sc _) (.nil))) (pc rfl (.box (.cons ldR' (.cons (.sc _) (.nil))) rfl) pn) rfl rfl rfl rfl rfl (by first | rfl | exact renR | exact renA | exact renS | simp only [V.ren, V.rens, renR, renA, renS] | (simp only [V.ren, V.rens, renR, renA, renS]; rfl)) (by simp only [passUps, renBox, renArr]; rfl) ?_
        refine pu (v := .sc _) rfl rfl (fun _ => rfl) ?_
        refine pu (v := .sc _) rfl rfl (fun _ => rfl) ?_
        refine pu (v := .ptr _ _ _) rfl rfl (fun _ => rfl) ?_
        refine pu (v := .sc _) rfl rfl (fun _ => rfl) ?_
        refine pu (v := .sc _) rfl rfl (fun _ => rfl) ?_
        obtain ⟨r16, hr16, hR⟩ := bindE hR
        refine cps (res' := .sc (.int .i64 r16.1)) (ups := [(0, boxB (α := spymake_Stream) false r16.2)]) [0] 68 rfl rfl rfl cb14 (ok14 r15.2 (w6 (r2.1 + 1)) _ hr16) (.cons (ldP rfl rfl) (.cons (.sc _) (.nil))) (pc rfl (.box (.cons ldR' (.cons (.sc _) (.nil))) rfl) pn) rfl rfl rfl rfl rfl (by first | rfl | exact renR | exact renA | exact renS | simp only [V.ren, V.rens, renR, renA, renS] | (simp only [V.ren, V.rens, renR, renA, renS]; rfl)) (by simp only [passUps, renBox, renArr]; rfl) ?_
        refine pu (v := .sc _) rfl rfl (fun _ => rfl) ?_
        refine bu (cs := [.sc (.int .i64 (w6 (r1.1 - r15.1))), .sc (.int .i64 (w6 (r1.1 + r16.1))), .sc (.bool false)]) rfl bt45 rfl ?_
        refine al (cs := [.sc (.int .i64 0), .sc (.int .i64 0), .sc (.bool false)]) 80 rfl rfl ti45 rfl rfl ?_
        refine stB (cs' := [.sc (.int .i64 (w6 (r1.1 - r15.1))), .sc (.int .i64 (w6 (r1.1 + r16.1))), .sc (.bool false)]) rfl rfl rfl rfl ti45 rfl rfl rfl rfl rfl ?_
        refine RunC.fin ?_
        refine AWP.sq ?_
        refine AWP.sq ?_
        refine AWP.rgC 100 rfl rfl ?_
        refine pu (v := .ptr _ _ _) rfl rfl (fun _ => rfl) ?_
        obtain ⟨r17, hr17, hR⟩ := bindE hR
        refine cps (res' := .sc (.int .i64 r17.1)) (ups := [(0, boxB (α := spymake_Stream) false r17.2)]) [0] 92 rfl rfl rfl cb14 (ok14 r16.2 15 _ hr17) (.cons (ldP rfl rfl) (.cons (.sc _) (.nil))) (pc rfl (.box (.cons ldR' (.cons (.sc _) (.nil))) rfl) pn) rfl rfl rfl rfl rfl (by first | rfl | exact renR | exact renA | exact renS | simp only [V.ren, V.rens, renR, renA, renS] | (simp only [V.ren, V.rens, renR, renA, renS]; rfl)) (by simp only [passUps, renBox, renArr]; rfl) ?_
        refine pu (v := .sc _) rfl rfl (fun _ => rfl) ?_
        refine RunC.fin ?_
        refine AWP.cd hR rfl (fun h18 hR => ?_) fun h18 hR => ?_
        · refine AWP.rgC 108 rfl rfl ?_
          refine bu (cs := [.sc (.int .i64 0), .sc (.int .i64 0), .sc (.bool true)]) rfl bt45 rfl ?_
          refine stB (cs' := [.sc (.int .i64 0), .sc (.int .i64 0), .sc (.bool true)]) rfl rfl rfl rfl ti45 rfl rfl rfl rfl rfl ?_
          refine RunC.fin ?_
          refine AWP.rgC 136 rfl rfl ?_
          refine fa rfl rfl ti30 rfl rfl ti28 rfl ?_
          refine ldB (v := slV Bound _ _ _ _) rfl rfl rfl rfl ti28 rfl rfl ?_
          refine ldB (v := .agg _) rfl rfl rfl rfl ti45 rfl rfl ?_
          refine bs (α := Bound) 120 true ([Bound.mk 0 0 true] : List Bound) rfl rfl ti28 rfl ti45 rfl rfl rfl rfl rfl ?_
          obtain ⟨h19, hR⟩ := chkE hR
          refine ap' (α := Bound) (nw := true) (xs := s3.2.1) (ys := ([Bound.mk 0 0 true] : List Bound)) rfl rfl rfl rfl (srcS' rfl rfl rfl) ti28 rfl ti45 rfl h19 rfl ?_
          refine fa rfl rfl ti30 rfl rfl ti28 rfl ?_
          refine stB (cs' := [.sc (.int .i64 w), .sc (.int .i64 h), slV Bound 3 1 0 (s3.2.1 ++ ([Bound.mk 0 0 true] : List Bound)).length]) rfl rfl rfl rfl ti28 rfl rfl rfl rfl rfl ?_
          refine RunC.blk ?_
          refine RunC.fin ?_
          refine AWP.rgC 144 rfl rfl ?_
          refine pu (v := .sc _) rfl rfl (fun _ => rfl) ?_
          refine pu (v := .sc _) rfl rfl (fun _ => rfl) ?_
          refine RunC.fin ?_
          refine ⟨(r17.2, s3.2.1 ++ ([Bound.mk 0 0 true] : List Bound), w6 (s3.2.2 + 1)), (Option.some.inj hR).symm, ?_⟩
          exact Weak.turnL [(0, 0), (1, 0), (2, 0), (3, 0)] [] rfl rfl (tc (trP' rfl rfl rfl rfl) (tc (trP' rfl rfl rfl rfl) (tc (trP' rfl rfl rfl rfl) (tc (.sc _) (tc (.sc _) (tc (.sc _) (tc (.sc _) tn))))))) (mc rfl (.box rfl (.cons trR1 (.cons (.sc _) (.nil))) rfl) (mc rfl (.box rfl (.cons (.sc _) (.cons (.sc _) (.cons (.sc _) (.nil)))) rfl) (mc rfl (.box rfl (.cons (.sc _) (.cons (.sc _) (.cons (trS' rfl rfl rfl rfl rfl) (.nil)))) rfl) (mc rfl (btrA' rfl) mn))))
        · refine AWP.skip ?_
          refine skT ?_
          refine AWP.rgC 128 rfl rfl ?_
          refine fa rfl rfl ti30 rfl rfl ti28 rfl ?_
          refine ldB (v := slV Bound _ _ _ _) rfl rfl rfl rfl ti28 rfl rfl ?_
          refine ldB (v := .agg _) rfl rfl rfl rfl ti45 rfl rfl ?_
          refine bs (α := Bound) 112 true ([Bound.mk (w6 (r1.1 - r15.1)) (w6 (r1.1 + r16.1)) false] : List Bound) rfl rfl ti28 rfl ti45 rfl rfl rfl rfl rfl ?_
          obtain ⟨h20, hR⟩ := chkE hR
          refine ap' (α := Bound) (nw := true) (xs := s3.2.1) (ys := ([Bound.mk (w6 (r1.1 - r15.1)) (w6 (r1.1 + r16.1)) false] : List Bound)) rfl rfl rfl rfl (srcS' rfl rfl rfl) ti28 rfl ti45 rfl h20 rfl ?_
          refine fa rfl rfl ti30 rfl rfl ti28 rfl ?_
          refine stB (cs' := [.sc (.int .i64 w), .sc (.int .i64 h), slV Bound 3 1 0 (s3.2.1 ++ ([Bound.mk (w6 (r1.1 - r15.1)) (w6 (r1.1 + r16.1)) false] : List Bound)).length]) rfl rfl rfl rfl ti28 rfl rfl rfl rfl rfl ?_
          refine RunC.blk ?_
          refine RunC.fin ?_
          refine AWP.rgC 136 rfl rfl ?_
          refine pu (v := .sc _) rfl rfl (fun _ => rfl) ?_
          refine pu (v := .sc _) rfl rfl (fun _ => rfl) ?_
          refine RunC.fin ?_
          refine ⟨(r17.2, s3.2.1 ++ ([Bound.mk (w6 (r1.1 - r15.1)) (w6 (r1.1 + r16.1)) false] : List Bound), w6 (s3.2.2 + 1)), (Option.some.inj hR).symm, ?_⟩
          exact Weak.turnL [(0, 0), (1, 0), (2, 0), (3, 0)] [] rfl rfl (tc (trP' rfl rfl rfl rfl) (tc (trP' rfl rfl rfl rfl) (tc (trP' rfl rfl rfl rfl) (tc (.sc _) (tc (.sc _) (tc (.sc _) (tc (.sc _) tn))))))) (mc rfl (.box rfl (.cons trR1 (.cons (.sc _) (.nil))) rfl) (mc rfl (.box rfl (.cons (.sc _) (.cons (.sc _) (.cons (.sc _) (.nil)))) rfl) (mc rfl (.box rfl (.cons (.sc _) (.cons (.sc _) (.cons (trS' rfl rfl rfl rfl rfl) (.nil)))) rfl) (mc rfl (btrA' rfl) mn))))
    · refine AWP.exit ?_
      refine exT ?_
      refine exT ?_
      refine exH (skT ?_)
      refine ⟨(s3.1, s3.2.1), (Option.some.inj hR).symm, ?_⟩
      exact Weak.turnL [(0, 0), (1, 0), (2, 0), (3, 0)] [] rfl rfl (tc (trP' rfl rfl rfl rfl) (tc (trP' rfl rfl rfl rfl) tn)) (mc rfl (.box rfl (.cons trR1 (.cons (.sc _) (.nil))) rfl) (mc rfl (.box rfl (.cons (.sc _) (.cons (.sc _) (.cons (.sc _) (.nil)))) rfl) (mc rfl (.box rfl (.cons (.sc _) (.cons (.sc _) (.cons (trS' rfl rfl rfl rfl rfl) (.nil)))) rfl) (mc rfl (btrA' rfl) mn))))
  · refine skT ?_
    refine AWP.sq ?_
    refine AWP.rgC 12 rfl rfl ?_
    refine ldB (v := .agg _) rfl rfl rfl rfl ti30 rfl rfl ?_
    refine stB (cs' := [.sc (.int .i64 w), .sc (.int .i64 h), slV Bound 3 0 0 z4.2.length]) rfl rfl rfl rfl ti30 rfl rfl rfl rfl rfl ?_
    refine RunC.fin ?_
    refine AWP.ret ?_
    have hR := Option.some.inj hR; subst hR
    exact hQ _ _ (LS.mk [(6, .ptr 1 0 0)] (lblks 0 [boxB (α := spymake_Stream) false z4.1, boxB (α := Cells) true (Cells.mk w h z4.2)]) 2) (aggV (α := Cells) true (Cells.mk w h z4.2)) [] (.inr rfl) (Weak.turnL [(0, 0), (1, 0)] [3] rfl rfl (tc (trP' rfl rfl rfl rfl) tn) (mc rfl (.box rfl (.cons trR1 (.cons (.sc _) (.nil))) rfl) (mc rfl (.box rfl (.cons (.sc _) (.cons (.sc _) (.cons (trF' rfl rfl id rfl) (.nil)))) rfl) mn))) (ro1 (rvC (v := aggV (α := Cells) true (Cells.mk w h z4.2)) rfl rfl ti30 rfl)) rfl rfl ldA (pc rfl bldB pn)
theorem ok10_33 (s : List Cells) (r : (List Cells)) (hR : slices_Clone_Cells s = some r) : FnD Try.prog 10 [] [rowV false s] (slV Cells 0 0 0 r.length) [arrB (α := Cells) 30 0 false r] := by
  refine FnX.walk Try.func10 rfl 8 0 (by simp [Try.ntmps10]) rfl fun W S F Q hQ => ?_
  unfold slices_Clone_Cells at hR
  refine AWP.sq ?_
  refine AWP.rgC 4 rfl rfl ?_
  refine pu (v := .sc _) rfl rfl (fun _ => rfl) ?_
  refine RunC.fin ?_
  refine AWP.sq ?_
  refine AWP.joinX (fun z1 : Bool => LS.mk [(0, rowV (α := Cells) false s), (4, .sc (.bool z1))] (lblks 0 []) 0) hR (fun o1 hR => ?_) fun z1 hR => ?_
  · refine AWP.rgC 12 rfl rfl ?_
    refine pu (v := rowV _ s) rfl rfl (fun _ => rfl) ?_
    refine nilE hR rfl rfl rfl (by rw [ti27]; rfl) (fun hR h2 => ?_) fun hR => ?_
    · refine RunC.fin ?_
      have hR := Option.some.inj hR; subst hR
      exact Weak.turnL [] [] rfl rfl (tc trR1 (tc (.sc _) tn)) mn
    · refine RunC.fin ?_
      have hR := Option.some.inj hR; subst hR
      exact Weak.turnL [] [] rfl rfl (tc trR1 (tc (.sc _) tn)) mn
  · refine AWP.cd hR rfl (fun h3 hR => ?_) fun h3 hR => ?_
    · refine AWP.sq ?_
      refine AWP.rgC 4 rfl rfl ?_
      refine pu (v := .sc _) rfl rfl (fun _ => rfl) ?_
      refine RunC.fin ?_
      refine AWP.nilT Cells 2 30 rfl ?_
      refine AWP.ret ?_
      refine rtT ?_
      have hR := Option.some.inj hR; subst hR
      exact hQ _ _ (LS.mk [(2, slV Cells 0 0 0 [].length)] (lblks 0 [arrB (α := Cells) 30 0 true []]) 1) (slV Cells 0 0 0 [].length) [0] (.inr rfl) (Weak.turnL [(4, 0)] [] rfl rfl (tc (trS' rfl rfl rfl rfl rfl) tn) (mc rfl (btrA' rfl) mn)) (ro1 (rvT (v := slV Cells 0 0 0 [].length) rfl)) rfl rfl (ldM rfl rfl) (pc rfl bldA pn)
    · refine AWP.skip ?_
      refine skT ?_
      refine AWP.sq ?_
      refine AWP.rgC 16 rfl rfl ?_
      refine bs (α := Cells) 0 true ([] : List Cells) rfl rfl ti27 rfl ti30 rfl rfl rfl rfl rfl ?_
      refine pu (v := rowV _ s) rfl rfl (fun _ => rfl) ?_
      obtain ⟨h4, hR⟩ := chkE hR
      refine ap' (α := Cells) (nw := false) (xs := ([] : List Cells)) (ys := s) rfl rfl rfl rfl (srcR' rfl) ti27 rfl ti30 rfl h4 rfl ?_
      refine pu (v := slV Cells _ _ _ _) rfl rfl (fun _ => rfl) ?_
      refine RunC.fin ?_
      refine AWP.ret ?_
      have hR := Option.some.inj hR; subst hR
      exact hQ _ _ (LS.mk [(2, slV Cells 0 0 0 (([] : List Cells) ++ s).length)] (lblks 0 [arrB (α := Cells) 30 0 false (([] : List Cells) ++ s)]) 1) (slV Cells 0 0 0 (([] : List Cells) ++ s).length) [0] (.inr rfl) (Weak.turnL [(0, 0)] [] rfl rfl (tc (trS' rfl rfl rfl rfl rfl) tn) (mc rfl (btrA' rfl) mn)) (ro1 (rvT (v := slV Cells 0 0 0 (([] : List Cells) ++ s).length) rfl)) rfl rfl (ldM rfl rfl) (pc rfl bldA pn)
theorem ok3 (l : List Int) (out : Int) (r : Bool) (hR : spykeep4_StackBack l out = some r) : FnP Try.prog 3 [rowV false l, .sc (.int .i64 out)] (.sc (.bool r)) := by
  refine fnP_of (FnX.walk Try.func3 rfl 114 0 (by simp [Try.ntmps3]) rfl fun W S F Q hQ => ?_)
  unfold spykeep4_StackBack at hR
  refine AWP.sq ?_
  refine AWP.rgC 4 rfl rfl ?_
  refine pu (v := .sc _) rfl rfl (fun _ => rfl) ?_
  refine RunC.fin ?_
  refine AWP.sq ?_
  refine AWP.rgC 20 rfl rfl ?_
  refine pu (v := rowV _ l) rfl rfl (fun _ => rfl) ?_
  refine bu (cs := [rowV (α := Int) false l, .sc (.int .i64 0)]) rfl bt25 rfl ?_
  refine bx (cs := _) 12 rfl rfl rfl ?_
  refine pu (v := .ptr _ _ _) rfl rfl (fun _ => rfl) ?_
  refine RunC.fin ?_
  refine AWP.sq ?_
  refine AWP.rgC 44 rfl rfl ?_
  refine pu (v := .ptr _ _ _) rfl rfl (fun _ => rfl) ?_
  obtain ⟨r1, hr1, hR⟩ := bindE hR
  refine cps (res' := .sc (.int .i64 r1.1)) (ups := [(12, boxB (α := spymake_Stream) false r1.2)]) [12] 24 rfl rfl rfl cb4 (ok4 (spymake_Stream.mk l 0) 1 6 _ hr1) (.cons (ldP rfl rfl) (.cons (.sc _) (.cons (.sc _) (.nil)))) (pc rfl (.box (.cons ldR' (.cons (.sc _) (.nil))) rfl) pn) rfl rfl rfl rfl rfl (by first | rfl | exact renR | exact renA | exact renS | simp only [V.ren, V.rens, renR, renA, renS] | (simp only [V.ren, V.rens, renR, renA, renS]; rfl)) (by simp only [passUps, renBox, renArr]; rfl) ?_
  refine pu (v := .ptr _ _ _) rfl rfl (fun _ => rfl) ?_
  obtain ⟨r2, hr2, hR⟩ := bindE hR
  refine cps (res' := .sc (.int .i64 r2.1)) (ups := [(12, boxB (α := spymake_Stream) false r2.2)]) [12] 32 rfl rfl rfl cb4 (ok4 r1.2 1 6 _ hr2) (.cons (ldP rfl rfl) (.cons (.sc _) (.cons (.sc _) (.nil)))) (pc rfl (.box (.cons ldR' (.cons (.sc _) (.nil))) rfl) pn) rfl rfl rfl rfl rfl (by first | rfl | exact renR | exact renA | exact renS | simp only [V.ren, V.rens, renR, renA, renS] | (simp only [V.ren, V.rens, renR, renA, renS]; rfl)) (by simp only [passUps, renBox, renArr]; rfl) ?_
  refine pu (v := .sc _) rfl rfl (fun _ => rfl) ?_
  refine pu (v := .sc _) rfl rfl (fun _ => rfl) ?_
  refine RunC.fin ?_
  refine AWP.sq ?_
  refine AWP.rgC 48 rfl rfl ?_
  refine pu (v := .sc _) rfl rfl (fun _ => rfl) ?_
  refine RunC.fin ?_
  refine AWP.sq ?_
  refine AWP.rgC 60 rfl rfl ?_
  refine pu (v := .ptr _ _ _) rfl rfl (fun _ => rfl) ?_
  obtain ⟨r3, hr3, hR⟩ := bindE hR
  refine cps (res' := .sc (.int .i64 r3.1)) (ups := [(12, boxB (α := spymake_Stream) false r3.2)]) [12] 52 rfl rfl rfl cb4 (ok4 r2.2 1 8 _ hr3) (.cons (ldP rfl rfl) (.cons (.sc _) (.cons (.sc _) (.nil)))) (pc rfl (.box (.cons ldR' (.cons (.sc _) (.nil))) rfl) pn) rfl rfl rfl rfl rfl (by first | rfl | exact renR | exact renA | exact renS | simp only [V.ren, V.rens, renR, renA, renS] | (simp only [V.ren, V.rens, renR, renA, renS]; rfl)) (by simp only [passUps, renBox, renArr]; rfl) ?_
  refine pu (v := .sc _) rfl rfl (fun _ => rfl) ?_
  refine RunC.fin ?_
  refine AWP.sq ?_
  refine AWP.sq ?_
  refine AWP.rgC 68 rfl rfl ?_
  refine pu (v := .sc _) rfl rfl (fun _ => rfl) ?_
  refine pu (v := .sc _) rfl rfl (fun _ => rfl) ?_
  refine RunC.fin ?_
  refine AWP.nilT Cells 8 30 rfl ?_
  refine AWP.loopJ (fun s4 : spymake_Stream × (List Cells) × Int => LS.mk [(1, .sc (.int .i64 out)), (5, .ptr 0 0 0), (6, .sc (.int .i64 r1.1)), (7, .sc (.int .i64 r2.1)), (8, slV Cells 1 0 0 s4.2.1.length), (9, .sc (.int .i64 r3.1)), (25, .sc (.int .i64 r3.1)), (26, .sc (.int .i64 s4.2.2))] (lblks 0 [boxB (α := spymake_Stream) false s4.1, arrB (α := Cells) 30 0 true s4.2.1]) 2) (fun z5 : (List Cells) => LS.mk [(1, .sc (.int .i64 out)), (6, .sc (.int .i64 r1.1)), (7, .sc (.int .i64 r2.1)), (8, slV Cells 0 0 0 z5.length), (9, .sc (.int .i64 r3.1))] (lblks 0 [arrB (α := Cells) 30 0 true z5]) 1) (spykeep4_StackBack.l1 r1 r2 r3) hR (s0 := (r3.2, ([] : List Cells), 0)) (Weak.turnL [(12, 0), (68, 0)] [] rfl rfl (tc (.sc _) (tc (trP' rfl rfl rfl rfl) (tc (.sc _) (tc (.sc _) (tc (trS' rfl rfl rfl rfl rfl) (tc (.sc _) (tc (.sc _) (tc (.sc _) tn)))))))) (mc rfl (.box rfl (.cons trR1 (.cons (.sc _) (.nil))) rfl) (mc rfl (btrA' rfl) mn))) (fun s4 o4 hR => ?_) fun z5 hR => ?_
  · unfold spykeep4_StackBack.l1 at hR
    refine AWP.sq ?_
    refine AWP.rgC 6 rfl rfl ?_
    refine pu (v := .sc _) rfl rfl (fun _ => rfl) ?_
    refine RunC.fin ?_
    refine AWP.sq ?_
    refine AWP.cd hR rfl (fun h6 hR => ?_) fun h6 hR => ?_
    · refine AWP.skip ?_
      refine skT ?_
      refine AWP.sq ?_
      refine AWP.block ?_
      refine AWP.rgC 38 rfl rfl ?_
      refine pu (v := slV Cells _ _ _ _) rfl rfl (fun _ => rfl) ?_
      refine pu (v := .ptr _ _ _) rfl rfl (fun _ => rfl) ?_
      refine pu (v := .sc _) rfl rfl (fun _ => rfl) ?_
      refine pu (v := .sc _) rfl rfl (fun _ => rfl) ?_
      obtain ⟨r7, hr7, hR⟩ := bindE hR
      refine cps (res' := aggV (α := Cells) true r7.1) (ups := [(0, boxB (α := spymake_Stream) false r7.2)]) [0] 22 rfl rfl rfl cb5 (ok5 s4.1 r1.1 r2.1 _ hr7) (.cons (ldP rfl rfl) (.cons (.sc _) (.cons (.sc _) (.nil)))) (pc rfl (.box (.cons ldR' (.cons (.sc _) (.nil))) rfl) pn) rfl rfl rfl rfl rfl (by first | rfl | exact renR | exact renA | exact renS | simp only [V.ren, V.rens, renR, renA, renS] | (simp only [V.ren, V.rens, renR, renA, renS]; rfl)) (by simp only [passUps, renBox, renArr]; rfl) ?_
      refine bs (α := Cells) 26 true ([r7.1] : List Cells) rfl rfl ti27 rfl ti30 rfl rfl rfl rfl rfl ?_
      obtain ⟨h8, hR⟩ := chkE hR
      refine ap' (α := Cells) (nw := true) (xs := s4.2.1) (ys := ([r7.1] : List Cells)) rfl rfl rfl rfl (srcS' rfl rfl rfl) ti27 rfl ti30 rfl h8 rfl ?_
      refine pu (v := slV Cells _ _ _ _) rfl rfl (fun _ => rfl) ?_
      refine RunC.blk ?_
      refine RunC.fin ?_
      refine AWP.rgC 46 rfl rfl ?_
      refine pu (v := .sc _) rfl rfl (fun _ => rfl) ?_
      refine pu (v := .sc _) rfl rfl (fun _ => rfl) ?_
      refine RunC.fin ?_
      refine ⟨(r7.2, s4.2.1 ++ ([r7.1] : List Cells), w6 (s4.2.2 + 1)), (Option.some.inj hR).symm, ?_⟩
      exact Weak.turnL [(0, 0), (1, 0)] [] rfl rfl (tc (.sc _) (tc (trP' rfl rfl rfl rfl) (tc (.sc _) (tc (.sc _) (tc (trS' rfl rfl rfl rfl rfl) (tc (.sc _) (tc (.sc _) (tc (.sc _) tn)))))))) (mc rfl (.box rfl (.cons trR1 (.cons (.sc _) (.nil))) rfl) (mc rfl (btrA' rfl) mn))
    · refine AWP.exit ?_
      refine exT ?_
      refine exT ?_
      refine exH (skT ?_)
      refine ⟨s4.2.1, (Option.some.inj hR).symm, ?_⟩
      exact Weak.turnL [(1, 0)] [] rfl rfl (tc (.sc _) (tc (.sc _) (tc (.sc _) (tc (trS' rfl rfl rfl rfl rfl) (tc (.sc _) tn))))) (mc rfl (btrA' rfl) mn)
  · refine skT ?_
    refine AWP.sq ?_
    refine AWP.rgC 17 rfl rfl ?_
    refine pu (v := .sc _) rfl rfl (fun _ => rfl) ?_
    refine pu (v := .sc _) rfl rfl (fun _ => rfl) ?_
    obtain ⟨r9, hr9, hR⟩ := bindE hR
    refine cls [] rfl rfl cb6 (ok6 out r3.1 _ hr9) (.cons (.sc _) (.cons (.sc _) (.nil))) (.inr rfl) rfl ?_
    refine pu (v := .sc _) rfl rfl (fun _ => rfl) ?_
    refine RunC.fin ?_
    refine AWP.sq ?_
    refine AWP.rgC 57 rfl rfl ?_
    refine pu (v := .sc _) rfl rfl (fun _ => rfl) ?_
    refine pu (v := .sc _) rfl rfl (fun _ => rfl) ?_
    refine pu (v := slV Cells _ _ _ _) rfl rfl (fun _ => rfl) ?_
    obtain ⟨r10, hr10, hR⟩ := bindE hR
    refine cls [0] rfl rfl cb7 (ok7 r1.1 r2.1 z5 _ hr10) (.cons (.sc _) (.cons (.sc _) (.cons (ldS' rfl rfl rfl rfl) (.nil)))) (.inl (by first | rfl | exact freshR | exact freshA | (simp only [V.fresh, V.freshs, freshR, freshA, Bool.and_self]))) rfl ?_
    refine pu (v := .tup _) rfl rfl (fun _ => rfl) ?_
    refine pu (v := .agg _) rfl rfl (fun _ => rfl) ?_
    refine pu (v := .sc _) rfl rfl (fun _ => rfl) ?_
    refine al (cs := [.sc (.int .i64 0), .sc (.int .i64 0), .sc (.int .i64 0), .sc (.slice none 0 0), .sc (.slice none 0 0)]) 45 rfl rfl ti33 rfl rfl ?_
    refine stB (cs' := [.sc (.int .i64 r10.1.W), .sc (.int .i64 r10.1.H), .sc (.int .i64 r10.1.N), rowV (α := Int) true r10.1.Holes, rowV (α := Bound) true r10.1.At]) rfl rfl rfl rfl ti33 rfl rfl rfl rfl rfl ?_
    refine pu (v := .sc _) rfl rfl (fun _ => rfl) ?_
    refine RunC.fin ?_
    refine AWP.sq ?_
    refine AWP.rgD 105 [0, 0, 0, 6, 14, 31, 63, 127, 127, 0, 767, 2047] ⟨[], [some [45], none, none, none, some [0], none, none, none, none, none, some [93], none]⟩ hmix (by kernel_rfl) rfl rfl ?_
    refine ldB (v := .agg _) rfl rfl rfl rfl ti33 rfl rfl ?_
    refine pu (v := slV Cells _ _ _ _) rfl rfl (fun _ => rfl) ?_
    refine pu (v := .sc _) rfl rfl (fun _ => rfl) ?_
    obtain ⟨h11, hR⟩ := chkE hR
    refine ixS0 (α := Cells) rfl rfl rfl ti27 rfl ti30 rfl h11 ?_
    refine ldE (α := Cells) (v := .agg _) rfl rfl rfl (ixlt h11) ti30 rfl rfl rfl rfl ?_
    obtain ⟨r12, hr12, hR⟩ := bindE hR
    refine cls [] rfl rfl cb8 (ok8 r10.1 (gt z5 r9) _ hr12) (.cons (.agg (.cons (.sc _) (.cons (.sc _) (.cons (.sc _) (.cons ldR' (.cons ldR' (.nil)))))) rfl) (.cons (.agg (.cons (.sc _) (.cons (.sc _) (.cons ldR' (.nil)))) rfl) (.nil))) (.inr rfl) rfl ?_
    refine pu (v := .tup _) rfl rfl (fun _ => rfl) ?_
    refine pu (v := .agg _) rfl rfl (fun _ => rfl) ?_
    refine pu (v := .sc _) rfl rfl (fun _ => rfl) ?_
    refine al (cs := [.sc (.int .i64 0), .sc (.int .i64 0), .sc (.int .i64 0), .sc (.slice none 0 0), .sc (.slice none 0 0)]) 93 rfl rfl ti33 rfl rfl ?_
    refine stB (cs' := [.sc (.int .i64 r12.1.W), .sc (.int .i64 r12.1.H), .sc (.int .i64 r12.1.N), rowV (α := Int) true r12.1.Holes, rowV (α := Bound) true r12.1.At]) rfl rfl rfl rfl ti33 rfl rfl rfl rfl rfl ?_
    refine pu (v := .sc _) rfl rfl (fun _ => rfl) ?_
    refine RunC.fin ?_
    refine AWP.sq ?_
    refine AWP.weaken (s' := (LS.mk [(1, .sc (.int .i64 r9)), (6, .sc (.int .i64 r1.1)), (7, .sc (.int .i64 r2.1)), (8, rowV (α := Cells) true z5), (9, .sc (.int .i64 r3.1)), (10, .ptr 0 0 0), (11, .sc (.int .i64 r10.2)), (12, .ptr 1 0 0), (13, .sc (.int .i64 r12.2)), (36, .sc (.int .i64 out)), (37, .sc (.int .i64 r3.1)), (38, .sc (.int .i64 r9)), (39, .tup [aggV (α := stack_Stack) true r10.1, .sc (.int .i64 r10.2)]), (40, .sc (.int .i64 r1.1)), (41, .sc (.int .i64 r2.1)), (42, rowV (α := Cells) true z5), (43, .tup [aggV (α := stack_Stack) true r10.1, .sc (.int .i64 r10.2)]), (44, aggV (α := stack_Stack) true r10.1), (45, .sc (.int .i64 r10.2)), (46, .tup [aggV (α := stack_Stack) true r12.1, .sc (.int .i64 r12.2)]), (47, aggV (α := stack_Stack) true r10.1), (48, rowV (α := Cells) true z5), (49, .sc (.int .i64 r9)), (51, aggV (α := Cells) true (gt z5 r9)), (52, .tup [aggV (α := stack_Stack) true r12.1, .sc (.int .i64 r12.2)]), (53, aggV (α := stack_Stack) true r12.1), (54, .sc (.int .i64 r12.2))] (lblks 0 [boxB (α := stack_Stack) true r10.1, boxB (α := stack_Stack) true r12.1]) 2).st) (Weak.turnL [(45, 0), (93, 0)] [0] rfl rfl (tc (.sc _) (tc (.sc _) (tc (.sc _) (tc (trF' rfl rfl id rfl) (tc (.sc _) (tc (trP' rfl rfl rfl rfl) (tc (.sc _) (tc (trP' rfl rfl rfl rfl) (tc (.sc _) (tc (.sc _) (tc (.sc _) (tc (.sc _) (tc (.tup (.cons (.agg (.cons (.sc _) (.cons (.sc _) (.cons (.sc _) (.cons trR1 (.cons trR1 (.nil)))))) rfl) (.cons (.sc _) (.nil)))) (tc (.sc _) (tc (.sc _) (tc (trF' rfl rfl id rfl) (tc (.tup (.cons (.agg (.cons (.sc _) (.cons (.sc _) (.cons (.sc _) (.cons trR1 (.cons trR1 (.nil)))))) rfl) (.cons (.sc _) (.nil)))) (tc (.agg (.cons (.sc _) (.cons (.sc _) (.cons (.sc _) (.cons trR1 (.cons trR1 (.nil)))))) rfl) (tc (.sc _) (tc (.tup (.cons (.agg (.cons (.sc _) (.cons (.sc _) (.cons (.sc _) (.cons trR1 (.cons trR1 (.nil)))))) rfl) (.cons (.sc _) (.nil)))) (tc (.agg (.cons (.sc _) (.cons (.sc _) (.cons (.sc _) (.cons trR1 (.cons trR1 (.nil)))))) rfl) (tc (trF' rfl rfl id rfl) (tc (.sc _) (tc (.agg (.cons (.sc _) (.cons (.sc _) (.cons trR1 (.nil)))) rfl) (tc (.tup (.cons (.agg (.cons (.sc _) (.cons (.sc _) (.cons (.sc _) (.cons trR1 (.cons trR1 (.nil)))))) rfl) (.cons (.sc _) (.nil)))) (tc (.agg (.cons (.sc _) (.cons (.sc _) (.cons (.sc _) (.cons trR1 (.cons trR1 (.nil)))))) rfl) (tc (.sc _) tn))))))))))))))))))))))))))) (mc rfl (.box rfl (.cons (.sc _) (.cons (.sc _) (.cons (.sc _) (.cons trR1 (.cons trR1 (.nil)))))) rfl) (mc rfl (.box rfl (.cons (.sc _) (.cons (.sc _) (.cons (.sc _) (.cons trR1 (.cons trR1 (.nil)))))) rfl) mn))) ?_
    refine AWP.rgC 62 rfl rfl ?_
    refine pu (v := .sc _) rfl rfl (fun _ => rfl) ?_
    refine pu (v := .sc _) rfl rfl (fun _ => rfl) ?_
    refine pu (v := rowV _ z5) rfl rfl (fun _ => rfl) ?_
    obtain ⟨r13, hr13, hR⟩ := bindE hR
    refine cpx (res' := slV Cells 14 0 0 r13.length) (ups := [(14, arrB (α := Cells) 30 0 false r13)]) [] 14 rfl rfl rfl cb10 (ok10_33 z5 _ hr13) (.cons ldR' (.nil)) pn rfl rfl rfl (by simp only [V.ren, V.rens, renS, renR, renA]; rfl) (by simp only [passUps, renBox, renArr]; rfl) ?_
    refine pu (v := .sc _) rfl rfl (fun _ => rfl) ?_
    refine pu (v := .sc _) rfl rfl (fun _ => rfl) ?_
    refine pu (v := .sc _) rfl rfl (fun _ => rfl) ?_
    obtain ⟨r14, hr14, hR⟩ := bindE hR
    refine cps (res' := slV Cells 14 0 0 r14.length) (ups := [(14, arrB (α := Cells) 30 0 false r14)]) [14] 30 rfl rfl rfl cb9 (ok9 r13 r9 (w6 (r9 + 1)) _ hr14) (.cons (ldM rfl rfl) (.cons (.sc _) (.cons (.sc _) (.nil)))) (pc rfl bldA pn) rfl rfl rfl rfl rfl (by first | rfl | exact renR | exact renA | exact renS | simp only [V.ren, V.rens, renR, renA, renS] | (simp only [V.ren, V.rens, renR, renA, renS]; rfl)) (by simp only [passUps, renBox, renArr]; rfl) ?_
    obtain ⟨r15, hr15, hR⟩ := bindE hR
    refine cls [14] rfl rfl cb7 (ok7 r1.1 r2.1 r14 _ hr15) (.cons (.sc _) (.cons (.sc _) (.cons (ldS' rfl rfl rfl rfl) (.nil)))) (.inl (by first | rfl | exact freshR | exact freshA | (simp only [V.fresh, V.freshs, freshR, freshA, Bool.and_self]))) rfl ?_
    refine pu (v := .tup _) rfl rfl (fun _ => rfl) ?_
    refine pu (v := .agg _) rfl rfl (fun _ => rfl) ?_
    refine pu (v := .sc _) rfl rfl (fun _ => rfl) ?_
    refine al (cs := [.sc (.int .i64 0), .sc (.int .i64 0), .sc (.int .i64 0), .sc (.slice none 0 0), .sc (.slice none 0 0)]) 50 rfl rfl ti33 rfl rfl ?_
    refine stB (cs' := [.sc (.int .i64 r15.1.W), .sc (.int .i64 r15.1.H), .sc (.int .i64 r15.1.N), rowV (α := Int) true r15.1.Holes, rowV (α := Bound) true r15.1.At]) rfl rfl rfl rfl ti33 rfl rfl rfl rfl rfl ?_
    refine pu (v := .sc _) rfl rfl (fun _ => rfl) ?_
    refine RunC.fin ?_
    refine AWP.sq ?_
    refine AWP.joinX (fun z16 : Bool => LS.mk [(9, .sc (.int .i64 r3.1)), (12, .ptr 0 0 0), (14, .ptr 1 0 0), (80, .sc (.bool z16))] (lblks 0 [boxB (α := stack_Stack) true r12.1, boxB (α := stack_Stack) true r15.1]) 2) hR (fun o16 hR => ?_) fun z16 hR => ?_
    · refine AWP.rgC 118 rfl rfl ?_
      obtain ⟨r17, hr17, hR⟩ := bindE hR
      refine cls [] rfl rfl cb11 (ok11 _ hr17) (.nil) (.inr rfl) rfl ?_
      refine pu (v := .sc _) rfl rfl (fun _ => rfl) ?_
      refine pu (v := .sc _) rfl rfl (fun _ => rfl) ?_
      refine brR hR (fun h18 hR => ?_) fun h18 hR => ?_
      · refine sk (skW rfl rfl rfl h18) ?_
        refine sk (skW rfl rfl rfl h18) ?_
        refine pkT (v := .sc (.bool true)) rfl rfl h18 rfl ?_
        refine pu (v := .sc _) rfl rfl (fun _ => rfl) ?_
        refine sk (skW rfl rfl rfl rfl) ?_
        refine sk (skW rfl rfl rfl rfl) ?_
        refine pkT (v := .sc (.bool true)) rfl rfl rfl rfl ?_
        refine pu (v := .sc _) rfl rfl (fun _ => rfl) ?_
        refine sk (skW rfl rfl rfl rfl) ?_
        refine sk (skW rfl rfl rfl rfl) ?_
        refine pkT (v := .sc (.bool true)) rfl rfl rfl rfl ?_
        refine RunC.fin ?_
        have hR := Option.some.inj hR; subst hR
        exact Weak.turnL [(1, 0), (50, 0)] [] rfl rfl (tc (.sc _) (tc (trP' rfl rfl rfl rfl) (tc (trP' rfl rfl rfl rfl) (tc (.sc _) tn)))) (mc rfl (.box rfl (.cons (.sc _) (.cons (.sc _) (.cons (.sc _) (.cons trR1 (.cons trR1 (.nil)))))) rfl) (mc rfl (.box rfl (.cons (.sc _) (.cons (.sc _) (.cons (.sc _) (.cons trR1 (.cons trR1 (.nil)))))) rfl) mn))
      · refine pu (v := .sc _) (wtG rfl rfl rfl h18) rfl (fun _ => rfl) ?_
        refine pu (v := .sc _) (wtG rfl rfl rfl h18) rfl (fun _ => rfl) ?_
        refine pkF (v := .sc (.bool (r10.2 != 0))) rfl rfl h18 rfl ?_
        refine pu (v := .sc _) rfl rfl (fun _ => rfl) ?_
        refine brR hR (fun h19 hR => ?_) fun h19 hR => ?_
        · refine sk (skW rfl rfl rfl h19) ?_
          refine sk (skW rfl rfl rfl h19) ?_
          refine pkT (v := .sc (.bool true)) rfl rfl h19 rfl ?_
          refine pu (v := .sc _) rfl rfl (fun _ => rfl) ?_
          refine sk (skW rfl rfl rfl rfl) ?_
          refine sk (skW rfl rfl rfl rfl) ?_
          refine pkT (v := .sc (.bool true)) rfl rfl rfl rfl ?_
          refine RunC.fin ?_
          have hR := Option.some.inj hR; subst hR
          exact Weak.turnL [(1, 0), (50, 0)] [] rfl rfl (tc (.sc _) (tc (trP' rfl rfl rfl rfl) (tc (trP' rfl rfl rfl rfl) (tc (.sc _) tn)))) (mc rfl (.box rfl (.cons (.sc _) (.cons (.sc _) (.cons (.sc _) (.cons trR1 (.cons trR1 (.nil)))))) rfl) (mc rfl (.box rfl (.cons (.sc _) (.cons (.sc _) (.cons (.sc _) (.cons trR1 (.cons trR1 (.nil)))))) rfl) mn))
        · refine pu (v := .sc _) (wtG rfl rfl rfl h19) rfl (fun _ => rfl) ?_
          refine pu (v := .sc _) (wtG rfl rfl rfl h19) rfl (fun _ => rfl) ?_
          refine pkF (v := .sc (.bool (r12.2 != 0))) rfl rfl h19 rfl ?_
          refine pu (v := .sc _) rfl rfl (fun _ => rfl) ?_
          refine brR hR (fun h20 hR => ?_) fun h20 hR => ?_
          · refine sk (skW rfl rfl rfl h20) ?_
            refine sk (skW rfl rfl rfl h20) ?_
            refine pkT (v := .sc (.bool true)) rfl rfl h20 rfl ?_
            refine RunC.fin ?_
            have hR := Option.some.inj hR; subst hR
            exact Weak.turnL [(1, 0), (50, 0)] [] rfl rfl (tc (.sc _) (tc (trP' rfl rfl rfl rfl) (tc (trP' rfl rfl rfl rfl) (tc (.sc _) tn)))) (mc rfl (.box rfl (.cons (.sc _) (.cons (.sc _) (.cons (.sc _) (.cons trR1 (.cons trR1 (.nil)))))) rfl) (mc rfl (.box rfl (.cons (.sc _) (.cons (.sc _) (.cons (.sc _) (.cons trR1 (.cons trR1 (.nil)))))) rfl) mn))
          · refine pu (v := .sc _) (wtG rfl rfl rfl h20) rfl (fun _ => rfl) ?_
            refine pu (v := .sc _) (wtG rfl rfl rfl h20) rfl (fun _ => rfl) ?_
            refine pkF (v := .sc (.bool (r15.2 != 0))) rfl rfl h20 rfl ?_
            refine RunC.fin ?_
            have hR := Option.some.inj hR; subst hR
            exact Weak.turnL [(1, 0), (50, 0)] [] rfl rfl (tc (.sc _) (tc (trP' rfl rfl rfl rfl) (tc (trP' rfl rfl rfl rfl) (tc (.sc _) tn)))) (mc rfl (.box rfl (.cons (.sc _) (.cons (.sc _) (.cons (.sc _) (.cons trR1 (.cons trR1 (.nil)))))) rfl) (mc rfl (.box rfl (.cons (.sc _) (.cons (.sc _) (.cons (.sc _) (.cons trR1 (.cons trR1 (.nil)))))) rfl) mn))
    · refine AWP.cd hR rfl (fun h21 hR => ?_) fun h21 hR => ?_
      · refine AWP.sq ?_
        refine AWP.rgC 6 rfl rfl ?_
        refine pu (v := .sc _) rfl rfl (fun _ => rfl) ?_
        refine RunC.fin ?_
        refine AWP.ret ?_
        refine rtT ?_
        have hR := Option.some.inj hR; subst hR
        exact hQ _ _ (LS.mk [(4, .sc (.bool false))] (lblks 0 []) 0) (.sc (.bool false)) [] (.inr rfl) (Weak.turnL [] [] rfl rfl (tc (.sc _) tn) mn) (ro1 (rvT (v := .sc (.bool false)) rfl)) rfl rfl (.sc _) pn
      · refine AWP.skip ?_
        refine skT ?_
        refine AWP.joinX (fun z22 : Bool => LS.mk [(4, .sc (.bool z22))] (lblks 0 []) 0) hR (fun o22 hR => ?_) fun z22 hR => ?_
        · refine AWP.rgC 138 rfl rfl ?_
          refine fa rfl rfl ti33 rfl rfl ti3 rfl ?_
          refine ldB (v := .sc _) rfl rfl rfl rfl ti3 rfl rfl ?_
          refine pu (v := .sc _) rfl rfl (fun _ => rfl) ?_
          refine pu (v := .sc _) rfl rfl (fun _ => rfl) ?_
          refine pu (v := .sc _) rfl rfl (fun _ => rfl) ?_
          refine pu (v := .sc _) rfl rfl (fun _ => rfl) ?_
          refine brR hR (fun h23 hR => ?_) fun h23 hR => ?_
          · refine fa (wtG rfl rfl rfl h23) rfl ti33 rfl rfl ti3 rfl ?_
            refine ldB (v := .sc _) (wtG rfl rfl rfl h23) rfl rfl rfl ti3 rfl rfl ?_
            refine fa (wtG rfl rfl rfl h23) rfl ti33 rfl rfl ti3 rfl ?_
            refine ldB (v := .sc _) (wtG rfl rfl rfl h23) rfl rfl rfl ti3 rfl rfl ?_
            refine pu (v := .sc _) (wtG rfl rfl rfl h23) rfl (fun _ => rfl) ?_
            refine pkT (v := .sc (.bool (r12.1.W == r15.1.W))) rfl rfl h23 rfl ?_
            refine pu (v := .sc _) rfl rfl (fun _ => rfl) ?_
            refine brR hR (fun h24 hR => ?_) fun h24 hR => ?_
            · refine fa (wtG rfl rfl rfl h24) rfl ti33 rfl rfl ti3 rfl ?_
              refine ldB (v := .sc _) (wtG rfl rfl rfl h24) rfl rfl rfl ti3 rfl rfl ?_
              refine fa (wtG rfl rfl rfl h24) rfl ti33 rfl rfl ti3 rfl ?_
              refine ldB (v := .sc _) (wtG rfl rfl rfl h24) rfl rfl rfl ti3 rfl rfl ?_
              refine pu (v := .sc _) (wtG rfl rfl rfl h24) rfl (fun _ => rfl) ?_
              refine pkT (v := .sc (.bool (r12.1.H == r15.1.H))) rfl rfl h24 rfl ?_
              refine pu (v := .sc _) rfl rfl (fun _ => rfl) ?_
              refine brR hR (fun h25 hR => ?_) fun h25 hR => ?_
              · refine fa (wtG rfl rfl rfl h25) rfl ti33 rfl rfl ti22 rfl ?_
                refine ldB (v := rowV _ r12.1.Holes) (wtG rfl rfl rfl h25) rfl rfl rfl ti22 rfl rfl ?_
                refine fa (wtG rfl rfl rfl h25) rfl ti33 rfl rfl ti22 rfl ?_
                refine ldB (v := rowV _ r15.1.Holes) (wtG rfl rfl rfl h25) rfl rfl rfl ti22 rfl rfl ?_
                obtain ⟨r26, hr26, hR⟩ := bindE hR
                refine cls [] (wtG rfl rfl rfl h25) rfl cb12 (ok12 r12.1.Holes r15.1.Holes _ hr26) (.cons ldR' (.cons ldR' (.nil))) (.inr rfl) rfl ?_
                refine pkT (v := .sc (.bool r26)) rfl rfl h25 rfl ?_
                refine pu (v := .sc _) rfl rfl (fun _ => rfl) ?_
                refine brR hR (fun h27 hR => ?_) fun h27 hR => ?_
                · refine fa (wtG rfl rfl rfl h27) rfl ti33 rfl rfl ti28 rfl ?_
                  refine ldB (v := rowV _ r12.1.At) (wtG rfl rfl rfl h27) rfl rfl rfl ti28 rfl rfl ?_
                  refine fa (wtG rfl rfl rfl h27) rfl ti33 rfl rfl ti28 rfl ?_
                  refine ldB (v := rowV _ r15.1.At) (wtG rfl rfl rfl h27) rfl rfl rfl ti28 rfl rfl ?_
                  obtain ⟨r28, hr28, hR⟩ := bindE hR
                  refine cls [] (wtG rfl rfl rfl h27) rfl cb13 (ok13 r12.1.At r15.1.At _ hr28) (.cons ldR' (.cons ldR' (.nil))) (.inr rfl) rfl ?_
                  refine pkT (v := .sc (.bool r28)) rfl rfl h27 rfl ?_
                  refine pu (v := .sc _) rfl rfl (fun _ => rfl) ?_
                  refine RunC.fin ?_
                  have hR := Option.some.inj hR; subst hR
                  exact Weak.turnL [] [] rfl rfl (tc (.sc _) tn) mn
                · refine sk (skW rfl rfl rfl h27) ?_
                  refine sk (skW rfl rfl rfl h27) ?_
                  refine sk (skW rfl rfl rfl h27) ?_
                  refine sk (skW rfl rfl rfl h27) ?_
                  refine sk (skW rfl rfl rfl h27) ?_
                  refine pkF (v := .sc (.bool false)) rfl rfl h27 rfl ?_
                  refine pu (v := .sc _) rfl rfl (fun _ => rfl) ?_
                  refine RunC.fin ?_
                  have hR := Option.some.inj hR; subst hR
                  exact Weak.turnL [] [] rfl rfl (tc (.sc _) tn) mn
              · refine sk (skW rfl rfl rfl h25) ?_
                refine sk (skW rfl rfl rfl h25) ?_
                refine sk (skW rfl rfl rfl h25) ?_
                refine sk (skW rfl rfl rfl h25) ?_
                refine sk (skW rfl rfl rfl h25) ?_
                refine pkF (v := .sc (.bool false)) rfl rfl h25 rfl ?_
                refine pu (v := .sc _) rfl rfl (fun _ => rfl) ?_
                refine sk (skW rfl rfl rfl rfl) ?_
                refine sk (skW rfl rfl rfl rfl) ?_
                refine sk (skW rfl rfl rfl rfl) ?_
                refine sk (skW rfl rfl rfl rfl) ?_
                refine sk (skW rfl rfl rfl rfl) ?_
                refine pkF (v := .sc (.bool false)) rfl rfl rfl rfl ?_
                refine pu (v := .sc _) rfl rfl (fun _ => rfl) ?_
                refine RunC.fin ?_
                have hR := Option.some.inj hR; subst hR
                exact Weak.turnL [] [] rfl rfl (tc (.sc _) tn) mn
            · refine sk (skW rfl rfl rfl h24) ?_
              refine sk (skW rfl rfl rfl h24) ?_
              refine sk (skW rfl rfl rfl h24) ?_
              refine sk (skW rfl rfl rfl h24) ?_
              refine sk (skW rfl rfl rfl h24) ?_
              refine pkF (v := .sc (.bool false)) rfl rfl h24 rfl ?_
              refine pu (v := .sc _) rfl rfl (fun _ => rfl) ?_
              refine sk (skW rfl rfl rfl rfl) ?_
              refine sk (skW rfl rfl rfl rfl) ?_
              refine sk (skW rfl rfl rfl rfl) ?_
              refine sk (skW rfl rfl rfl rfl) ?_
              refine sk (skW rfl rfl rfl rfl) ?_
              refine pkF (v := .sc (.bool false)) rfl rfl rfl rfl ?_
              refine pu (v := .sc _) rfl rfl (fun _ => rfl) ?_
              refine sk (skW rfl rfl rfl rfl) ?_
              refine sk (skW rfl rfl rfl rfl) ?_
              refine sk (skW rfl rfl rfl rfl) ?_
              refine sk (skW rfl rfl rfl rfl) ?_
              refine sk (skW rfl rfl rfl rfl) ?_
              refine pkF (v := .sc (.bool false)) rfl rfl rfl rfl ?_
              refine pu (v := .sc _) rfl rfl (fun _ => rfl) ?_
              refine RunC.fin ?_
              have hR := Option.some.inj hR; subst hR
              exact Weak.turnL [] [] rfl rfl (tc (.sc _) tn) mn
          · refine sk (skW rfl rfl rfl h23) ?_
            refine sk (skW rfl rfl rfl h23) ?_
            refine sk (skW rfl rfl rfl h23) ?_
            refine sk (skW rfl rfl rfl h23) ?_
            refine sk (skW rfl rfl rfl h23) ?_
            refine pkF (v := .sc (.bool false)) rfl rfl h23 rfl ?_
            refine pu (v := .sc _) rfl rfl (fun _ => rfl) ?_
            refine sk (skW rfl rfl rfl rfl) ?_
            refine sk (skW rfl rfl rfl rfl) ?_
            refine sk (skW rfl rfl rfl rfl) ?_
            refine sk (skW rfl rfl rfl rfl) ?_
            refine sk (skW rfl rfl rfl rfl) ?_
            refine pkF (v := .sc (.bool false)) rfl rfl rfl rfl ?_
            refine pu (v := .sc _) rfl rfl (fun _ => rfl) ?_
            refine sk (skW rfl rfl rfl rfl) ?_
            refine sk (skW rfl rfl rfl rfl) ?_
            refine sk (skW rfl rfl rfl rfl) ?_
            refine sk (skW rfl rfl rfl rfl) ?_
            refine sk (skW rfl rfl rfl rfl) ?_
            refine pkF (v := .sc (.bool false)) rfl rfl rfl rfl ?_
            refine pu (v := .sc _) rfl rfl (fun _ => rfl) ?_
            refine sk (skW rfl rfl rfl rfl) ?_
            refine sk (skW rfl rfl rfl rfl) ?_
            refine sk (skW rfl rfl rfl rfl) ?_
            refine sk (skW rfl rfl rfl rfl) ?_
            refine sk (skW rfl rfl rfl rfl) ?_
            refine pkF (v := .sc (.bool false)) rfl rfl rfl rfl ?_
            refine pu (v := .sc _) rfl rfl (fun _ => rfl) ?_
            refine RunC.fin ?_
            have hR := Option.some.inj hR; subst hR
            exact Weak.turnL [] [] rfl rfl (tc (.sc _) tn) mn
        · refine AWP.ret ?_
          have hR := Option.some.inj hR; subst hR
          exact hQ _ _ (LS.mk [(4, .sc (.bool z22))] (lblks 0 []) 0) (.sc (.bool z22)) [] (.inr rfl) (Weak.turnL [] [] rfl rfl (tc (.sc _) tn) mn) (ro1 (rvT (v := .sc (.bool z22)) rfl)) rfl rfl (.sc _) pn
end Go.Proofs.Stb
