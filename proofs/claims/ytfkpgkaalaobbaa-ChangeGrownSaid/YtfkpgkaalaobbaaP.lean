/- Each function of the program computes its plain function. Conditions: as each theorem states them. -/
import Derived.Test.YtfkpgkaalaobbaaT
import Derived.Test.YtfkpgkaalaobbaaH
import Derived.Test.YtfkpgkaalaobbaaF
import Derived.Test.YtfkpgkaalaobbaaP2
namespace Go.Proofs.Cgr
open Go Go.Abs Lf
set_option linter.unusedVariables false
set_option linter.unusedSimpArgs false
set_option maxRecDepth 100000
set_option maxHeartbeats 1000000
theorem ok3 (l : List Int) (cell : Int) (cut : Int) (more : Int) (r : Bool) (hR : spykeep4_ChangeGrown l cell cut more = some r) : FnP Try.prog 3 [rowV false l, .sc (.int .i64 cell), .sc (.int .i64 cut), .sc (.int .i64 more)] (.sc (.bool r)) := by
  refine fnP_of (FnX.walk Try.func3 rfl 195 0 (by simp [Try.ntmps3]) rfl fun W S F Q hQ => ?_)
  unfold spykeep4_ChangeGrown at hR
  refine AWP.sq ?_
  refine AWP.rgC 4 rfl rfl ?_
  refine pu (v := .sc _) rfl rfl (fun _ => rfl) ?_
  refine RunC.fin ?_
  refine AWP.sq ?_
  refine AWP.rgC 20 rfl rfl ?_
  refine pu (v := rowV _ l) rfl rfl (fun _ => rfl) ?_
  refine bu (cs := [rowV (α := Int) false l, .sc (.int .i64 0)]) rfl bt25 rfl ?_
  refine bx (cs := _) 12 rfl rfl rfl ?_
  refine pu (v := .ptr _ _ _) rfl rfl (fun _ => rfl) ?_
  refine RunC.fin ?_
  refine AWP.sq ?_
  refine AWP.rgC 44 rfl rfl ?_
  refine pu (v := .ptr _ _ _) rfl rfl (fun _ => rfl) ?_
  obtain ⟨r1, hr1, hR⟩ := bindE hR
  refine cps (res' := .sc (.int .i64 r1.1)) (ups := [(12, boxB (α := spymake_Stream) false r1.2)]) [12] 24 rfl rfl rfl cb4 (ok4 (spymake_Stream.mk l 0) 1 8 _ hr1) (.cons (ldP rfl rfl) (.cons (.sc _) (.cons (.sc _) (.nil)))) (pc rfl (.box (.cons ldR' (.cons (.sc _) (.nil))) rfl) pn) rfl rfl rfl rfl rfl (by first | rfl | exact renR | exact renA | exact renS | simp only [V.ren, V.rens, renR, renA, renS] | (simp only [V.ren, V.rens, renR, renA, renS]; rfl)) (by simp only [passUps, renBox, renArr]; rfl) ?_
  refine pu (v := .ptr _ _ _) rfl rfl (fun _ => rfl) ?_
  obtain ⟨r2, hr2, hR⟩ := bindE hR
  refine cps (res' := .sc (.int .i64 r2.1)) (ups := [(12, boxB (α := spymake_Stream) false r2.2)]) [12] 32 rfl rfl rfl cb4 (ok4 r1.2 1 8 _ hr2) (.cons (ldP rfl rfl) (.cons (.sc _) (.cons (.sc _) (.nil)))) (pc rfl (.box (.cons ldR' (.cons (.sc _) (.nil))) rfl) pn) rfl rfl rfl rfl rfl (by first | rfl | exact renR | exact renA | exact renS | simp only [V.ren, V.rens, renR, renA, renS] | (simp only [V.ren, V.rens, renR, renA, renS]; rfl)) (by simp only [passUps, renBox, renArr]; rfl) ?_
  refine pu (v := .sc _) rfl rfl (fun _ => rfl) ?_
  refine pu (v := .sc _) rfl rfl (fun _ => rfl) ?_
  refine RunC.fin ?_
  refine AWP.sq ?_
  refine AWP.rgC 88 rfl rfl ?_
  refine pu (v := .ptr _ _ _) rfl rfl (fun _ => rfl) ?_
  refine pu (v := .sc _) rfl rfl (fun _ => rfl) ?_
  refine pu (v := .sc _) rfl rfl (fun _ => rfl) ?_
  refine pu (v := .ptr _ _ _) rfl rfl (fun _ => rfl) ?_
  obtain ⟨r3, hr3, hR⟩ := bindE hR
  refine cps (res' := .sc (.int .i64 r3.1)) (ups := [(12, boxB (α := spymake_Stream) false r3.2)]) [12] 60 rfl rfl rfl cb4 (ok4 r2.2 0 4 _ hr3) (.cons (ldP rfl rfl) (.cons (.sc _) (.cons (.sc _) (.nil)))) (pc rfl (.box (.cons ldR' (.cons (.sc _) (.nil))) rfl) pn) rfl rfl rfl rfl rfl (by first | rfl | exact renR | exact renA | exact renS | simp only [V.ren, V.rens, renR, renA, renS] | (simp only [V.ren, V.rens, renR, renA, renS]; rfl)) (by simp only [passUps, renBox, renArr]; rfl) ?_
  obtain ⟨r4, hr4, hR⟩ := bindE hR
  refine cps (res' := .tup [rowV (α := Int) true r4.1, .sc (.int .i64 r4.2.1)]) (ups := [(12, boxB (α := spymake_Stream) false r4.2.2)]) [12] 64 rfl rfl rfl cb5 (ok5 r3.2 r1.1 r2.1 r3.1 _ hr4) (.cons (ldP rfl rfl) (.cons (.sc _) (.cons (.sc _) (.cons (.sc _) (.nil))))) (pc rfl (.box (.cons ldR' (.cons (.sc _) (.nil))) rfl) pn) rfl rfl rfl rfl rfl (by first | rfl | exact renR | exact renA | exact renS | simp only [V.ren, V.rens, renR, renA, renS] | (simp only [V.ren, V.rens, renR, renA, renS]; rfl)) (by simp only [passUps, renBox, renArr]; rfl) ?_
  refine pu (v := .tup _) rfl rfl (fun _ => rfl) ?_
  refine pu (v := rowV _ r4.1) rfl rfl (fun _ => rfl) ?_
  refine pu (v := .sc _) rfl rfl (fun _ => rfl) ?_
  refine pu (v := rowV _ r4.1) rfl rfl (fun _ => rfl) ?_
  refine pu (v := .sc _) rfl rfl (fun _ => rfl) ?_
  refine RunC.fin ?_
  refine AWP.sq ?_
  refine AWP.rgC 100 rfl rfl ?_
  refine pu (v := rowV _ r4.1) rfl rfl (fun _ => rfl) ?_
  obtain ⟨r5, hr5, hR⟩ := bindE hR
  refine cpx (res' := slV Int 92 0 0 r5.length) (ups := [(92, arrB (α := Int) 28 0 true r5)]) [] 92 rfl rfl rfl cb6 (ok6_6 r4.1 _ hr5) (.cons ldR' (.nil)) pn rfl rfl rfl (by simp only [V.ren, V.rens, renS, renR, renA]; rfl) (by simp only [passUps, renBox, renArr]; rfl) ?_
  refine pu (v := slV Int _ _ _ _) rfl rfl (fun _ => rfl) ?_
  refine RunC.fin ?_
  refine AWP.sq ?_
  refine AWP.rgC 128 rfl rfl ?_
  refine pu (v := .ptr _ _ _) rfl rfl (fun _ => rfl) ?_
  refine pu (v := .sc _) rfl rfl (fun _ => rfl) ?_
  refine pu (v := .sc _) rfl rfl (fun _ => rfl) ?_
  refine pu (v := rowV _ r4.1) rfl rfl (fun _ => rfl) ?_
  obtain ⟨r6, hr6, hR⟩ := bindE hR
  refine cps (res' := aggV (α := Cells) true r6.1) (ups := [(12, boxB (α := spymake_Stream) false r6.2)]) [12] 116 rfl rfl rfl cb7 (ok7 r4.2.2 r1.1 r2.1 r4.1 false _ hr6) (.cons (ldP rfl rfl) (.cons (.sc _) (.cons (.sc _) (.cons ldR' (.cons (.sc _) (.nil)))))) (pc rfl (.box (.cons ldR' (.cons (.sc _) (.nil))) rfl) pn) rfl rfl rfl rfl rfl (by first | rfl | exact renR | exact renA | exact renS | simp only [V.ren, V.rens, renR, renA, renS] | (simp only [V.ren, V.rens, renR, renA, renS]; rfl)) (by simp only [passUps, renBox, renArr]; rfl) ?_
  refine al (cs := [.sc (.int .i64 0), .sc (.int .i64 0), .sc (.slice none 0 0)]) 120 rfl rfl ti34 rfl rfl ?_
  refine stB (cs' := [.sc (.int .i64 r6.1.W), .sc (.int .i64 r6.1.H), rowV (α := Bound) true r6.1.At]) rfl rfl rfl rfl ti34 rfl rfl rfl rfl rfl ?_
  refine RunC.fin ?_
  refine AWP.sq ?_
  refine AWP.rgC 168 rfl rfl ?_
  refine pu (v := .sc _) rfl rfl (fun _ => rfl) ?_
  refine pu (v := .sc _) rfl rfl (fun _ => rfl) ?_
  refine pu (v := .sc _) rfl rfl (fun _ => rfl) ?_
  refine pu (v := .sc _) rfl rfl (fun _ => rfl) ?_
  obtain ⟨r7, hr7, hR⟩ := bindE hR
  refine cls [] rfl rfl cb8 (ok8 cell (w6 (r1.1 * r2.1)) _ hr7) (.cons (.sc _) (.cons (.sc _) (.nil))) (.inr rfl) rfl ?_
  refine pu (v := .sc _) rfl rfl (fun _ => rfl) ?_
  obtain ⟨r8, hr8, hR⟩ := bindE hR
  refine cls [] rfl rfl cb8 (ok8 cut 100 _ hr8) (.cons (.sc _) (.cons (.sc _) (.nil))) (.inr rfl) rfl ?_
  refine al (cs := [.sc (.int .i64 0)]) 156 rfl rfl ti3 rfl rfl ?_
  refine stB (cs' := [.sc (.int .i64 r7)]) rfl rfl rfl rfl ti3 rfl rfl rfl rfl rfl ?_
  refine pu (v := .sc _) rfl rfl (fun _ => rfl) ?_
  refine RunC.fin ?_
  refine AWP.sq ?_
  refine AWP.rgD 216 [0, 0, 3, 7, 0, 16, 0, 64, 240, 511, 1023, 2047] ⟨[], [none, some [156], none, some [92], none, none, none, none, none, none, none, some [92]]⟩ hmix (by kernel_rfl) rfl rfl ?_
  refine pu (v := slV Int _ _ _ _) rfl rfl (fun _ => rfl) ?_
  refine ldB (v := .sc _) rfl rfl rfl rfl ti3 rfl rfl ?_
  obtain ⟨h9, hR⟩ := chkE hR
  refine ixS0 (α := Int) rfl rfl rfl ti27 rfl ti28 rfl h9 ?_
  refine ldE (α := Int) (v := .sc _) rfl rfl rfl (ixlt h9) ti28 rfl rfl rfl rfl ?_
  refine pu (v := .sc _) rfl rfl (fun _ => rfl) ?_
  refine pu (v := .sc _) rfl rfl (fun _ => rfl) ?_
  refine pu (v := .sc _) rfl rfl (fun _ => rfl) ?_
  obtain ⟨r10, hr10, hR⟩ := bindE hR
  refine cls [] rfl rfl cb8 (ok8 more 1000 _ hr10) (.cons (.sc _) (.cons (.sc _) (.nil))) (.inr rfl) rfl ?_
  refine pu (v := .sc _) rfl rfl (fun _ => rfl) ?_
  refine pu (v := .sc _) rfl rfl (fun _ => rfl) ?_
  refine ixS0 (α := Int) rfl rfl rfl ti27 rfl ti28 rfl h9 ?_
  obtain ⟨v11, ev11, hR⟩ := letE hR
  refine stE (α := Int) (y := w6 ((gt r5 r7) + (w6 ((w6 (r8 + 401)) + r10)))) rfl rfl rfl (ixlt h9) ti28 rfl rfl rfl rfl rfl ?_
  rw [ev11]
  refine RunC.fin ?_
  refine AWP.sq ?_
  refine AWP.sq ?_
  refine AWP.rgC 228 rfl rfl ?_
  refine pu (v := slV Int _ _ _ _) rfl rfl (fun _ => rfl) ?_
  refine lenS (α := Int) rfl rfl ti27 rfl ?_
  refine pu (v := .sc _) rfl rfl (fun _ => rfl) ?_
  refine RunC.fin ?_
  refine AWP.loopJ (fun s12 : spymake_Stream × (List Int) × Int => LS.mk [(9, .ptr 0 0 0), (10, .sc (.int .i64 r1.1)), (11, .sc (.int .i64 r2.1)), (12, rowV (α := Int) true r4.1), (14, slV Int 1 0 0 s12.2.1.length), (15, .ptr 2 0 0), (16, .ptr 3 0 0), (17, .sc (.int .i64 r8)), (69, .sc (.int .i64 (r5.length : Int))), (70, .sc (.int .i64 s12.2.2))] (lblks 0 [boxB (α := spymake_Stream) false s12.1, arrB (α := Int) 28 0 true s12.2.1, boxB (α := Cells) true r6.1, boxB (α := Int) true r7]) 4) (fun z13 : spymake_Stream × (List Int) => LS.mk [(9, .ptr 0 0 0), (10, .sc (.int .i64 r1.1)), (11, .sc (.int .i64 r2.1)), (12, rowV (α := Int) true r4.1), (14, slV Int 1 0 0 z13.2.length), (15, .ptr 2 0 0), (16, .ptr 3 0 0), (17, .sc (.int .i64 r8))] (lblks 0 [boxB (α := spymake_Stream) false z13.1, arrB (α := Int) 28 0 true z13.2, boxB (α := Cells) true r6.1, boxB (α := Int) true r7]) 4) (spykeep4_ChangeGrown.l1 r5) hR (s0 := (r6.2, v11, 0)) (Weak.turnL [(12, 0), (92, 0), (120, 0), (156, 0)] [] rfl rfl (tc (trP' rfl rfl rfl rfl) (tc (.sc _) (tc (.sc _) (tc trR1 (tc (trS' rfl rfl rfl rfl (by subst ev11; simp only [List.length_set])) (tc (trP' rfl rfl rfl rfl) (tc (trP' rfl rfl rfl rfl) (tc (.sc _) (tc (.sc _) (tc (.sc _) tn)))))))))) (mc rfl (.box rfl (.cons trR1 (.cons (.sc _) (.nil))) rfl) (mc rfl (btrA' rfl) (mc rfl (.box rfl (.cons (.sc _) (.cons (.sc _) (.cons trR1 (.nil)))) rfl) (mc rfl (.box rfl (.cons (.sc _) (.nil)) rfl) mn))))) (fun s12 o12 hR => ?_) fun z13 hR => ?_
  · unfold spykeep4_ChangeGrown.l1 at hR
    refine AWP.sq ?_
    refine AWP.rgC 8 rfl rfl ?_
    refine pu (v := .sc _) rfl rfl (fun _ => rfl) ?_
    refine RunC.fin ?_
    refine AWP.sq ?_
    refine AWP.cd hR rfl (fun h14 hR => ?_) fun h14 hR => ?_
    · refine AWP.skip ?_
      refine skT ?_
      refine AWP.joinX (fun z15 : spymake_Stream × (List Int) => LS.mk [(9, .ptr 0 0 0), (10, .sc (.int .i64 r1.1)), (11, .sc (.int .i64 r2.1)), (12, rowV (α := Int) true r4.1), (14, slV Int 1 0 0 z15.2.length), (15, .ptr 2 0 0), (16, .ptr 3 0 0), (17, .sc (.int .i64 r8)), (69, .sc (.int .i64 (r5.length : Int))), (70, .sc (.int .i64 s12.2.2))] (lblks 0 [boxB (α := spymake_Stream) false z15.1, arrB (α := Int) 28 0 true z15.2, boxB (α := Cells) true r6.1, boxB (α := Int) true r7]) 4) hR (fun o15 hR => ?_) fun z15 hR => ?_
      · refine AWP.block ?_
        refine AWP.sq ?_
        refine AWP.rgC 16 rfl rfl ?_
        refine pu (v := .sc _) rfl rfl (fun _ => rfl) ?_
        refine pu (v := .sc _) rfl rfl (fun _ => rfl) ?_
        refine RunC.fin ?_
        refine AWP.sq ?_
        refine AWP.rgC 28 rfl rfl ?_
        refine pu (v := .ptr _ _ _) rfl rfl (fun _ => rfl) ?_
        obtain ⟨r16, hr16, hR⟩ := bindE hR
        refine cps (res' := .sc (.int .i64 r16.1)) (ups := [(0, boxB (α := spymake_Stream) false r16.2)]) [0] 20 rfl rfl rfl cb9 (ok9 s12.1 3 _ hr16) (.cons (ldP rfl rfl) (.cons (.sc _) (.nil))) (pc rfl (.box (.cons ldR' (.cons (.sc _) (.nil))) rfl) pn) rfl rfl rfl rfl rfl (by first | rfl | exact renR | exact renA | exact renS | simp only [V.ren, V.rens, renR, renA, renS] | (simp only [V.ren, V.rens, renR, renA, renS]; rfl)) (by simp only [passUps, renBox, renArr]; rfl) ?_
        refine pu (v := .sc _) rfl rfl (fun _ => rfl) ?_
        refine RunC.fin ?_
        refine AWP.cd hR rfl (fun h17 hR => ?_) fun h17 hR => ?_
        · refine AWP.rgD 64 [0, 0, 3, 7, 0, 16, 63, 127, 255] ⟨[5], [none, none, none, some [1], none, some [0], none, none, some [1]]⟩ hmix (by kernel_rfl) rfl rfl ?_
          refine pu (v := slV Int _ _ _ _) rfl rfl (fun _ => rfl) ?_
          refine pu (v := .sc _) rfl rfl (fun _ => rfl) ?_
          obtain ⟨h18, hR⟩ := chkE hR
          refine ixS0 (α := Int) rfl rfl rfl ti27 rfl ti28 rfl h18 ?_
          refine ldE (α := Int) (v := .sc _) rfl rfl rfl (ixlt h18) ti28 rfl rfl rfl rfl ?_
          refine pu (v := .ptr _ _ _) rfl rfl (fun _ => rfl) ?_
          obtain ⟨r19, hr19, hR⟩ := bindE hR
          refine cps (res' := .sc (.int .i64 r19.1)) (ups := [(0, boxB (α := spymake_Stream) false r19.2)]) [0] 48 rfl rfl rfl cb4 (ok4 r16.2 (-50) 200 _ hr19) (.cons (ldP rfl rfl) (.cons (.sc _) (.cons (.sc _) (.nil)))) (pc rfl (.box (.cons ldR' (.cons (.sc _) (.nil))) rfl) pn) rfl rfl rfl rfl rfl (by first | rfl | exact renR | exact renA | exact renS | simp only [V.ren, V.rens, renR, renA, renS] | (simp only [V.ren, V.rens, renR, renA, renS]; rfl)) (by simp only [passUps, renBox, renArr]; rfl) ?_
          refine pu (v := .sc _) rfl rfl (fun _ => rfl) ?_
          refine ixS0 (α := Int) rfl rfl rfl ti27 rfl ti28 rfl h18 ?_
          obtain ⟨v20, ev20, hR⟩ := letE hR
          refine stE (α := Int) (y := w6 ((gt s12.2.1 s12.2.2) + r19.1)) rfl rfl rfl (ixlt h18) ti28 rfl rfl rfl rfl rfl ?_
          rw [ev20]
          refine RunC.blk ?_
          refine RunC.fin ?_
          have hR := Option.some.inj hR; subst hR
          exact Weak.turnL [(0, 0), (1, 0), (2, 0), (3, 0)] [] rfl rfl (tc (trP' rfl rfl rfl rfl) (tc (.sc _) (tc (.sc _) (tc trR1 (tc (trS' rfl rfl rfl rfl (by subst ev20; simp only [List.length_set])) (tc (trP' rfl rfl rfl rfl) (tc (trP' rfl rfl rfl rfl) (tc (.sc _) (tc (.sc _) (tc (.sc _) tn)))))))))) (mc rfl (.box rfl (.cons trR1 (.cons (.sc _) (.nil))) rfl) (mc rfl (btrA' rfl) (mc rfl (.box rfl (.cons (.sc _) (.cons (.sc _) (.cons trR1 (.nil)))) rfl) (mc rfl (.box rfl (.cons (.sc _) (.nil)) rfl) mn))))
        · refine AWP.skip ?_
          refine skB ?_
          refine skT ?_
          have hR := Option.some.inj hR; subst hR
          exact Weak.turnL [(0, 0), (1, 0), (2, 0), (3, 0)] [] rfl rfl (tc (trP' rfl rfl rfl rfl) (tc (.sc _) (tc (.sc _) (tc trR1 (tc (trS' rfl rfl rfl rfl rfl) (tc (trP' rfl rfl rfl rfl) (tc (trP' rfl rfl rfl rfl) (tc (.sc _) (tc (.sc _) (tc (.sc _) tn)))))))))) (mc rfl (.box rfl (.cons trR1 (.cons (.sc _) (.nil))) rfl) (mc rfl (btrA' rfl) (mc rfl (.box rfl (.cons (.sc _) (.cons (.sc _) (.cons trR1 (.nil)))) rfl) (mc rfl (.box rfl (.cons (.sc _) (.nil)) rfl) mn))))
      · refine AWP.rgC 12 rfl rfl ?_
        refine pu (v := .sc _) rfl rfl (fun _ => rfl) ?_
        refine pu (v := .sc _) rfl rfl (fun _ => rfl) ?_
        refine RunC.fin ?_
        refine ⟨(z15.1, z15.2, w6 (s12.2.2 + 1)), (Option.some.inj hR).symm, ?_⟩
        exact Weak.turnL [(0, 0), (1, 0), (2, 0), (3, 0)] [] rfl rfl (tc (trP' rfl rfl rfl rfl) (tc (.sc _) (tc (.sc _) (tc trR1 (tc (trS' rfl rfl rfl rfl rfl) (tc (trP' rfl rfl rfl rfl) (tc (trP' rfl rfl rfl rfl) (tc (.sc _) (tc (.sc _) (tc (.sc _) tn)))))))))) (mc rfl (.box rfl (.cons trR1 (.cons (.sc _) (.nil))) rfl) (mc rfl (btrA' rfl) (mc rfl (.box rfl (.cons (.sc _) (.cons (.sc _) (.cons trR1 (.nil)))) rfl) (mc rfl (.box rfl (.cons (.sc _) (.nil)) rfl) mn))))
    · refine AWP.exit ?_
      refine exT ?_
      refine exT ?_
      refine exH (skT ?_)
      refine ⟨(s12.1, s12.2.1), (Option.some.inj hR).symm, ?_⟩
      exact Weak.turnL [(0, 0), (1, 0), (2, 0), (3, 0)] [] rfl rfl (tc (trP' rfl rfl rfl rfl) (tc (.sc _) (tc (.sc _) (tc trR1 (tc (trS' rfl rfl rfl rfl rfl) (tc (trP' rfl rfl rfl rfl) (tc (trP' rfl rfl rfl rfl) (tc (.sc _) tn)))))))) (mc rfl (.box rfl (.cons trR1 (.cons (.sc _) (.nil))) rfl) (mc rfl (btrA' rfl) (mc rfl (.box rfl (.cons (.sc _) (.cons (.sc _) (.cons trR1 (.nil)))) rfl) (mc rfl (.box rfl (.cons (.sc _) (.nil)) rfl) mn))))
  · refine skT ?_
    refine AWP.sq ?_
    refine AWP.rgD 68 [0, 0, 0, 0, 12, 28, 0, 0, 192, 448, 0, 1984, 4032, 8188, 16383, 32767] ⟨[], [none, some [3], none, some [3], none, some [1], none, some [3], none, some [], none, none, none, none, none, some [1]]⟩ hmix (by kernel_rfl) rfl rfl ?_
    refine pu (v := slV Int _ _ _ _) rfl rfl (fun _ => rfl) ?_
    refine ldB (v := .sc _) rfl rfl rfl rfl ti3 rfl rfl ?_
    refine pu (v := slV Int _ _ _ _) rfl rfl (fun _ => rfl) ?_
    refine ldB (v := .sc _) rfl rfl rfl rfl ti3 rfl rfl ?_
    obtain ⟨h21, hR⟩ := chkE hR
    refine ixS0 (α := Int) rfl rfl rfl ti27 rfl ti28 rfl h21 ?_
    refine ldE (α := Int) (v := .sc _) rfl rfl rfl (ixlt h21) ti28 rfl rfl rfl rfl ?_
    refine pu (v := rowV _ r4.1) rfl rfl (fun _ => rfl) ?_
    refine ldB (v := .sc _) rfl rfl rfl rfl ti3 rfl rfl ?_
    obtain ⟨h22, hR⟩ := chkE hR
    refine ixL (α := Int) rfl rfl rfl ti27 rfl ti28 rfl h22 ?_
    refine ldR (v := .sc _) rfl rfl ti28 rfl ?_
    refine pu (v := .sc _) rfl rfl (fun _ => rfl) ?_
    refine pu (v := .sc _) rfl rfl (fun _ => rfl) ?_
    refine pu (v := .sc _) rfl rfl (fun _ => rfl) ?_
    refine pu (v := .sc _) rfl rfl (fun _ => rfl) ?_
    refine ixS0 (α := Int) rfl rfl rfl ti27 rfl ti28 rfl h21 ?_
    obtain ⟨v23, ev23, hR⟩ := letE hR
    refine stE (α := Int) (y := mx2 (gt z13.2 r7) (w6 ((w6 ((gt r4.1 r7) + r8)) + 801))) rfl rfl rfl (ixlt h21) ti28 rfl rfl rfl rfl rfl ?_
    rw [ev23]
    refine RunC.fin ?_
    refine AWP.sq ?_
    refine AWP.weaken (s' := (LS.mk [(9, .ptr 0 0 0), (10, .sc (.int .i64 r1.1)), (11, .sc (.int .i64 r2.1)), (12, rowV (α := Int) true r4.1), (14, rowV (α := Int) true v23), (15, .ptr 1 0 0), (16, .ptr 2 0 0), (17, .sc (.int .i64 r8)), (85, rowV (α := Int) true v23), (86, .sc (.int .i64 r7)), (87, rowV (α := Int) true v23), (88, .sc (.int .i64 r7)), (90, .sc (.int .i64 (gt z13.2 r7))), (91, rowV (α := Int) true r4.1), (92, .sc (.int .i64 r7)), (93, .rp (Cl.c true ((gt r4.1 r7) : Int))), (94, .sc (.int .i64 (gt r4.1 r7))), (95, .sc (.int .i64 r8)), (96, .sc (.int .i64 (w6 ((gt r4.1 r7) + r8)))), (97, .sc (.int .i64 (w6 ((w6 ((gt r4.1 r7) + r8)) + 801)))), (98, .sc (.int .i64 (mx2 (gt z13.2 r7) (w6 ((w6 ((gt r4.1 r7) + r8)) + 801)))))] (lblks 0 [boxB (α := spymake_Stream) false z13.1, boxB (α := Cells) true r6.1, boxB (α := Int) true r7]) 3).st) (Weak.turnL [(0, 0), (2, 0), (3, 0)] [1] rfl rfl (tc (trP' rfl rfl rfl rfl) (tc (.sc _) (tc (.sc _) (tc trR1 (tc (trF' rfl rfl id (by subst ev23; simp only [List.length_set])) (tc (trP' rfl rfl rfl rfl) (tc (trP' rfl rfl rfl rfl) (tc (.sc _) (tc (trF' rfl rfl id (by subst ev23; simp only [List.length_set])) (tc (.sc _) (tc (trF' rfl rfl id (by subst ev23; simp only [List.length_set])) (tc (.sc _) (tc (.sc _) (tc trR1 (tc (.sc _) (tc (.rp (Cl.tr _ _ _ _ id) (Cl.leaf _ _)) (tc (.sc _) (tc (.sc _) (tc (.sc _) (tc (.sc _) (tc (.sc _) tn))))))))))))))))))))) (mc rfl (.box rfl (.cons trR1 (.cons (.sc _) (.nil))) rfl) (mc rfl (.box rfl (.cons (.sc _) (.cons (.sc _) (.cons trR1 (.nil)))) rfl) (mc rfl (.box rfl (.cons (.sc _) (.nil)) rfl) mn)))) ?_
    refine AWP.rgC 31 rfl rfl ?_
    refine pu (v := .ptr _ _ _) rfl rfl (fun _ => rfl) ?_
    refine pu (v := .sc _) rfl rfl (fun _ => rfl) ?_
    refine pu (v := .sc _) rfl rfl (fun _ => rfl) ?_
    refine pu (v := rowV _ v23) rfl rfl (fun _ => rfl) ?_
    obtain ⟨r24, hr24, hR⟩ := bindE hR
    refine cps (res' := aggV (α := Cells) true r24.1) (ups := [(0, boxB (α := spymake_Stream) false r24.2)]) [0] 19 rfl rfl rfl cb7 (ok7 z13.1 r1.1 r2.1 v23 false _ hr24) (.cons (ldP rfl rfl) (.cons (.sc _) (.cons (.sc _) (.cons ldR' (.cons (.sc _) (.nil)))))) (pc rfl (.box (.cons ldR' (.cons (.sc _) (.nil))) rfl) pn) rfl rfl rfl rfl rfl (by first | rfl | exact renR | exact renA | exact renS | simp only [V.ren, V.rens, renR, renA, renS] | (simp only [V.ren, V.rens, renR, renA, renS]; rfl)) (by simp only [passUps, renBox, renArr]; rfl) ?_
    refine al (cs := [.sc (.int .i64 0), .sc (.int .i64 0), .sc (.slice none 0 0)]) 23 rfl rfl ti34 rfl rfl ?_
    refine stB (cs' := [.sc (.int .i64 r24.1.W), .sc (.int .i64 r24.1.H), rowV (α := Bound) true r24.1.At]) rfl rfl rfl rfl ti34 rfl rfl rfl rfl rfl ?_
    refine RunC.fin ?_
    refine AWP.sq ?_
    refine AWP.rgC 71 rfl rfl ?_
    refine ldB (v := .agg _) rfl rfl rfl rfl ti34 rfl rfl ?_
    refine ldB (v := .agg _) rfl rfl rfl rfl ti34 rfl rfl ?_
    refine pu (v := .sc _) rfl rfl (fun _ => rfl) ?_
    obtain ⟨r25, hr25, hR⟩ := bindE hR
    refine cls [] rfl rfl cb10 (ok10 r6.1 r24.1 r8 _ hr25) (.cons (.agg (.cons (.sc _) (.cons (.sc _) (.cons ldR' (.nil)))) rfl) (.cons (.agg (.cons (.sc _) (.cons (.sc _) (.cons ldR' (.nil)))) rfl) (.cons (.sc _) (.nil)))) (.inr rfl) rfl ?_
    refine pu (v := .tup _) rfl rfl (fun _ => rfl) ?_
    refine pu (v := .agg _) rfl rfl (fun _ => rfl) ?_
    refine pu (v := .sc _) rfl rfl (fun _ => rfl) ?_
    refine al (cs := [.sc (.slice none 0 0), .sc (.slice none 0 0), .sc (.slice none 0 0)]) 59 rfl rfl ti39 rfl rfl ?_
    refine stB (cs' := [rowV (α := Source_) true r25.1.Up, rowV (α := Source_) true r25.1.Down, rowV (α := Int) true r25.1.Same]) rfl rfl rfl rfl ti39 rfl rfl rfl rfl rfl ?_
    refine pu (v := .sc _) rfl rfl (fun _ => rfl) ?_
    refine RunC.fin ?_
    refine AWP.sq ?_
    refine AWP.rgC 111 rfl rfl ?_
    refine ldB (v := .agg _) rfl rfl rfl rfl ti34 rfl rfl ?_
    refine ldB (v := .agg _) rfl rfl rfl rfl ti34 rfl rfl ?_
    refine pu (v := .sc _) rfl rfl (fun _ => rfl) ?_
    obtain ⟨r26, hr26, hR⟩ := bindE hR
    refine cls [] rfl rfl cb10 (ok10 r24.1 r6.1 r8 _ hr26) (.cons (.agg (.cons (.sc _) (.cons (.sc _) (.cons ldR' (.nil)))) rfl) (.cons (.agg (.cons (.sc _) (.cons (.sc _) (.cons ldR' (.nil)))) rfl) (.cons (.sc _) (.nil)))) (.inr rfl) rfl ?_
    refine pu (v := .tup _) rfl rfl (fun _ => rfl) ?_
    refine pu (v := .agg _) rfl rfl (fun _ => rfl) ?_
    refine pu (v := .sc _) rfl rfl (fun _ => rfl) ?_
    refine al (cs := [.sc (.slice none 0 0), .sc (.slice none 0 0), .sc (.slice none 0 0)]) 99 rfl rfl ti39 rfl rfl ?_
    refine stB (cs' := [rowV (α := Source_) true r26.1.Up, rowV (α := Source_) true r26.1.Down, rowV (α := Int) true r26.1.Same]) rfl rfl rfl rfl ti39 rfl rfl rfl rfl rfl ?_
    refine pu (v := .sc _) rfl rfl (fun _ => rfl) ?_
    refine RunC.fin ?_
    refine AWP.sq ?_
    refine AWP.joinX (fun z27 : Bool => LS.mk [(10, .sc (.int .i64 r1.1)), (11, .sc (.int .i64 r2.1)), (12, rowV (α := Int) true r4.1), (14, rowV (α := Int) true v23), (16, .ptr 0 0 0), (17, .sc (.int .i64 r8)), (20, .ptr 1 0 0), (22, .ptr 2 0 0), (136, .sc (.bool z27))] (lblks 0 [boxB (α := Int) true r7, boxB (α := change_Report) true r25.1, boxB (α := change_Report) true r26.1]) 3) hR (fun o27 hR => ?_) fun z27 hR => ?_
    · refine AWP.rgC 183 rfl rfl ?_
      obtain ⟨r28, hr28, hR⟩ := bindE hR
      refine cls [] rfl rfl cb11 (ok11 _ hr28) (.nil) (.inr rfl) rfl ?_
      refine pu (v := .sc _) rfl rfl (fun _ => rfl) ?_
      refine pu (v := .sc _) rfl rfl (fun _ => rfl) ?_
      refine brR hR (fun h29 hR => ?_) fun h29 hR => ?_
      · refine sk (skW rfl rfl rfl h29) ?_
        refine sk (skW rfl rfl rfl h29) ?_
        refine pkT (v := .sc (.bool true)) rfl rfl h29 rfl ?_
        refine pu (v := .sc _) rfl rfl (fun _ => rfl) ?_
        refine sk (skW rfl rfl rfl rfl) ?_
        refine sk (skW rfl rfl rfl rfl) ?_
        refine pkT (v := .sc (.bool true)) rfl rfl rfl rfl ?_
        refine pu (v := .sc _) rfl rfl (fun _ => rfl) ?_
        refine sk (skW rfl rfl rfl rfl) ?_
        refine sk (skW rfl rfl rfl rfl) ?_
        refine sk (skW rfl rfl rfl rfl) ?_
        refine sk (skW rfl rfl rfl rfl) ?_
        refine sk (skW rfl rfl rfl rfl) ?_
        refine sk (skW rfl rfl rfl rfl) ?_
        refine pkT (v := .sc (.bool true)) rfl rfl rfl rfl ?_
        refine RunC.fin ?_
        have hR := Option.some.inj hR; subst hR
        exact Weak.turnL [(2, 0), (59, 0), (99, 0)] [] rfl rfl (tc (.sc _) (tc (.sc _) (tc trR1 (tc trR1 (tc (trP' rfl rfl rfl rfl) (tc (.sc _) (tc (trP' rfl rfl rfl rfl) (tc (trP' rfl rfl rfl rfl) (tc (.sc _) tn))))))))) (mc rfl (.box rfl (.cons (.sc _) (.nil)) rfl) (mc rfl (.box rfl (.cons trR1 (.cons trR1 (.cons trR1 (.nil)))) rfl) (mc rfl (.box rfl (.cons trR1 (.cons trR1 (.cons trR1 (.nil)))) rfl) mn)))
      · refine pu (v := .sc _) (wtG rfl rfl rfl h29) rfl (fun _ => rfl) ?_
        refine pu (v := .sc _) (wtG rfl rfl rfl h29) rfl (fun _ => rfl) ?_
        refine pkF (v := .sc (.bool (r25.2 != 0))) rfl rfl h29 rfl ?_
        refine pu (v := .sc _) rfl rfl (fun _ => rfl) ?_
        refine brR hR (fun h30 hR => ?_) fun h30 hR => ?_
        · refine sk (skW rfl rfl rfl h30) ?_
          refine sk (skW rfl rfl rfl h30) ?_
          refine pkT (v := .sc (.bool true)) rfl rfl h30 rfl ?_
          refine pu (v := .sc _) rfl rfl (fun _ => rfl) ?_
          refine sk (skW rfl rfl rfl rfl) ?_
          refine sk (skW rfl rfl rfl rfl) ?_
          refine sk (skW rfl rfl rfl rfl) ?_
          refine sk (skW rfl rfl rfl rfl) ?_
          refine sk (skW rfl rfl rfl rfl) ?_
          refine sk (skW rfl rfl rfl rfl) ?_
          refine pkT (v := .sc (.bool true)) rfl rfl rfl rfl ?_
          refine RunC.fin ?_
          have hR := Option.some.inj hR; subst hR
          exact Weak.turnL [(2, 0), (59, 0), (99, 0)] [] rfl rfl (tc (.sc _) (tc (.sc _) (tc trR1 (tc trR1 (tc (trP' rfl rfl rfl rfl) (tc (.sc _) (tc (trP' rfl rfl rfl rfl) (tc (trP' rfl rfl rfl rfl) (tc (.sc _) tn))))))))) (mc rfl (.box rfl (.cons (.sc _) (.nil)) rfl) (mc rfl (.box rfl (.cons trR1 (.cons trR1 (.cons trR1 (.nil)))) rfl) (mc rfl (.box rfl (.cons trR1 (.cons trR1 (.cons trR1 (.nil)))) rfl) mn)))
        · refine pu (v := .sc _) (wtG rfl rfl rfl h30) rfl (fun _ => rfl) ?_
          refine pu (v := .sc _) (wtG rfl rfl rfl h30) rfl (fun _ => rfl) ?_
          refine pkF (v := .sc (.bool (r26.2 != 0))) rfl rfl h30 rfl ?_
          refine pu (v := .sc _) rfl rfl (fun _ => rfl) ?_
          refine brR hR (fun h31 hR => ?_) fun h31 hR => ?_
          · refine sk (skW rfl rfl rfl h31) ?_
            refine sk (skW rfl rfl rfl h31) ?_
            refine sk (skW rfl rfl rfl h31) ?_
            refine sk (skW rfl rfl rfl h31) ?_
            refine sk (skW rfl rfl rfl h31) ?_
            refine sk (skW rfl rfl rfl h31) ?_
            refine pkT (v := .sc (.bool true)) rfl rfl h31 rfl ?_
            refine RunC.fin ?_
            have hR := Option.some.inj hR; subst hR
            exact Weak.turnL [(2, 0), (59, 0), (99, 0)] [] rfl rfl (tc (.sc _) (tc (.sc _) (tc trR1 (tc trR1 (tc (trP' rfl rfl rfl rfl) (tc (.sc _) (tc (trP' rfl rfl rfl rfl) (tc (trP' rfl rfl rfl rfl) (tc (.sc _) tn))))))))) (mc rfl (.box rfl (.cons (.sc _) (.nil)) rfl) (mc rfl (.box rfl (.cons trR1 (.cons trR1 (.cons trR1 (.nil)))) rfl) (mc rfl (.box rfl (.cons trR1 (.cons trR1 (.cons trR1 (.nil)))) rfl) mn)))
          · refine fa (wtG rfl rfl rfl h31) rfl ti39 rfl rfl ti22 rfl ?_
            refine ldB (v := rowV _ r25.1.Same) (wtG rfl rfl rfl h31) rfl rfl rfl ti22 rfl rfl ?_
            refine fa (wtG rfl rfl rfl h31) rfl ti39 rfl rfl ti22 rfl ?_
            refine ldB (v := rowV _ r26.1.Same) (wtG rfl rfl rfl h31) rfl rfl rfl ti22 rfl rfl ?_
            obtain ⟨r32, hr32, hR⟩ := bindE hR
            refine cls [] (wtG rfl rfl rfl h31) rfl cb12 (ok12 r25.1.Same r26.1.Same _ hr32) (.cons ldR' (.cons ldR' (.nil))) (.inr rfl) rfl ?_
            refine pu (v := .sc _) (wtG rfl rfl rfl h31) rfl (fun _ => rfl) ?_
            refine pkF (v := .sc (.bool (!r32))) rfl rfl h31 rfl ?_
            refine RunC.fin ?_
            have hR := Option.some.inj hR; subst hR
            exact Weak.turnL [(2, 0), (59, 0), (99, 0)] [] rfl rfl (tc (.sc _) (tc (.sc _) (tc trR1 (tc trR1 (tc (trP' rfl rfl rfl rfl) (tc (.sc _) (tc (trP' rfl rfl rfl rfl) (tc (trP' rfl rfl rfl rfl) (tc (.sc _) tn))))))))) (mc rfl (.box rfl (.cons (.sc _) (.nil)) rfl) (mc rfl (.box rfl (.cons trR1 (.cons trR1 (.cons trR1 (.nil)))) rfl) (mc rfl (.box rfl (.cons trR1 (.cons trR1 (.cons trR1 (.nil)))) rfl) mn)))
    · refine AWP.cd hR rfl (fun h33 hR => ?_) fun h33 hR => ?_
      · refine AWP.sq ?_
        refine AWP.rgC 7 rfl rfl ?_
        refine pu (v := .sc _) rfl rfl (fun _ => rfl) ?_
        refine RunC.fin ?_
        refine AWP.ret ?_
        refine rtT ?_
        have hR := Option.some.inj hR; subst hR
        exact hQ _ _ (LS.mk [(8, .sc (.bool false))] (lblks 0 []) 0) (.sc (.bool false)) [] (.inr rfl) (Weak.turnL [] [] rfl rfl (tc (.sc _) tn) mn) (ro1 (rvT (v := .sc (.bool false)) rfl)) rfl rfl (.sc _) pn
      · refine AWP.skip ?_
        refine skT ?_
        refine AWP.sq ?_
        refine AWP.sq ?_
        refine AWP.rgC 19 rfl rfl ?_
        refine fa rfl rfl ti39 rfl rfl ti22 rfl ?_
        refine ldB (v := rowV _ r25.1.Same) rfl rfl rfl rfl ti22 rfl rfl ?_
        refine lenL (α := Int) rfl rfl ti22 rfl ?_
        refine pu (v := .sc _) rfl rfl (fun _ => rfl) ?_
        refine RunC.fin ?_
        refine AWP.loopK' (fun s34 : Int => LS.mk [(10, .sc (.int .i64 r1.1)), (11, .sc (.int .i64 r2.1)), (12, rowV (α := Int) true r4.1), (14, rowV (α := Int) true v23), (16, .ptr 0 0 0), (17, .sc (.int .i64 r8)), (20, .ptr 1 0 0), (22, .ptr 2 0 0), (138, rowV (α := Int) true r25.1.Same), (139, .sc (.int .i64 (r25.1.Same.length : Int))), (140, .sc (.int .i64 s34))] (lblks 0 [boxB (α := Int) true r7, boxB (α := change_Report) true r25.1, boxB (α := change_Report) true r26.1]) 3) (fun z35 : Unit => LS.mk [(16, .ptr 0 0 0), (20, .ptr 1 0 0), (22, .ptr 2 0 0)] (lblks 0 [boxB (α := Int) true r7, boxB (α := change_Report) true r25.1, boxB (α := change_Report) true r26.1]) 3) (spykeep4_ChangeGrown.l2 r1 r2 r4 r8 v23 r25) hR (s0 := 0) (Weak.turnL [(0, 0), (1, 0), (2, 0)] [] rfl rfl (tc (.sc _) (tc (.sc _) (tc trR1 (tc trR1 (tc (trP' rfl rfl rfl rfl) (tc (.sc _) (tc (trP' rfl rfl rfl rfl) (tc (trP' rfl rfl rfl rfl) (tc trR1 (tc (.sc _) (tc (.sc _) tn))))))))))) (mc rfl (.box rfl (.cons (.sc _) (.nil)) rfl) (mc rfl (.box rfl (.cons trR1 (.cons trR1 (.cons trR1 (.nil)))) rfl) (mc rfl (.box rfl (.cons trR1 (.cons trR1 (.cons trR1 (.nil)))) rfl) mn)))) (fun s34 o34 hR hE34 => ?_) fun z35 hR => ?_
        · unfold spykeep4_ChangeGrown.l2 at hR
          refine AWP.sq ?_
          refine AWP.rgC 7 rfl rfl ?_
          refine pu (v := .sc _) rfl rfl (fun _ => rfl) ?_
          refine RunC.fin ?_
          refine AWP.sq ?_
          refine AWP.cd hR rfl (fun h36 hR => ?_) fun h36 hR => ?_
          · refine AWP.skip ?_
            refine skT ?_
            refine AWP.sq ?_
            refine AWP.block ?_
            refine AWP.sq ?_
            refine AWP.rgC 19 rfl rfl ?_
            obtain ⟨h37, hR⟩ := chkE hR
            refine ixL (α := Int) rfl rfl rfl ti22 rfl ti3 rfl h37 ?_
            refine ldR (v := .sc _) rfl rfl ti3 rfl ?_
            refine pu (v := .sc _) rfl rfl (fun _ => rfl) ?_
            refine RunC.fin ?_
            refine AWP.joinX (fun z38 : Bool => LS.mk [(10, .sc (.int .i64 r1.1)), (11, .sc (.int .i64 r2.1)), (12, rowV (α := Int) true r4.1), (14, rowV (α := Int) true v23), (16, .ptr 0 0 0), (17, .sc (.int .i64 r8)), (20, .ptr 1 0 0), (22, .ptr 2 0 0), (138, rowV (α := Int) true r25.1.Same), (139, .sc (.int .i64 (r25.1.Same.length : Int))), (140, .sc (.int .i64 s34)), (175, .sc (.bool z38))] (lblks 0 [boxB (α := Int) true r7, boxB (α := change_Report) true r25.1, boxB (α := change_Report) true r26.1]) 3) hR (fun o38 hR => ?_) fun z38 hR => ?_
            · refine AWP.rgD 147 [0, 1, 3, 7, 7, 7, 55, 127, 255, 511, 1023, 1023, 4095, 8191, 1023, 1023, 50175, 115711, 262143, 1023, 1023, 1573887, 3671039, 1023, 1023, 25166847, 58721279, 133694463, 268435455, 1023, 1073741823, 2147483647] ⟨[], [none, none, none, none, none, none, none, none, none, none, none, none, none, some [], none, none, none, some [], none, none, none, none, some [], none, none, none, some [], none, none, none, none, none]⟩ hmix (by kernel_rfl) rfl rfl ?_
              refine pu (v := .sc _) rfl rfl (fun _ => rfl) ?_
              refine pu (v := .sc _) rfl rfl (fun _ => rfl) ?_
              refine pu (v := .sc _) rfl rfl (fun _ => rfl) ?_
              refine brR hR (fun h39 hR => ?_) fun h39 hR => ?_
              · refine sk (skW rfl rfl rfl h39) ?_
                refine sk (skW rfl rfl rfl h39) ?_
                refine sk (skW rfl rfl rfl h39) ?_
                refine sk (skW rfl rfl rfl h39) ?_
                refine sk (skW rfl rfl rfl h39) ?_
                refine pkT (v := .sc (.bool true)) rfl rfl h39 rfl ?_
                refine pu (v := .sc _) rfl rfl (fun _ => rfl) ?_
                refine sk (skW rfl rfl rfl rfl) ?_
                refine sk (skW rfl rfl rfl rfl) ?_
                refine sk (skW rfl rfl rfl rfl) ?_
                refine sk (skW rfl rfl rfl rfl) ?_
                refine sk (skW rfl rfl rfl rfl) ?_
                refine sk (skW rfl rfl rfl rfl) ?_
                refine sk (skW rfl rfl rfl rfl) ?_
                refine sk (skW rfl rfl rfl rfl) ?_
                refine sk (skW rfl rfl rfl rfl) ?_
                refine sk (skW rfl rfl rfl rfl) ?_
                refine sk (skW rfl rfl rfl rfl) ?_
                refine sk (skW rfl rfl rfl rfl) ?_
                refine sk (skW rfl rfl rfl rfl) ?_
                refine sk (skW rfl rfl rfl rfl) ?_
                refine sk (skW rfl rfl rfl rfl) ?_
                refine sk (skW rfl rfl rfl rfl) ?_
                refine sk (skW rfl rfl rfl rfl) ?_
                refine sk (skW rfl rfl rfl rfl) ?_
                refine sk (skW rfl rfl rfl rfl) ?_
                refine sk (skW rfl rfl rfl rfl) ?_
                refine sk (skW rfl rfl rfl rfl) ?_
                refine pkT (v := .sc (.bool true)) rfl rfl rfl rfl ?_
                refine RunC.fin ?_
                have hR := Option.some.inj hR; subst hR
                exact Weak.turnL [(0, 0), (1, 0), (2, 0)] [] rfl rfl (tc (.sc _) (tc (.sc _) (tc trR1 (tc trR1 (tc (trP' rfl rfl rfl rfl) (tc (.sc _) (tc (trP' rfl rfl rfl rfl) (tc (trP' rfl rfl rfl rfl) (tc trR1 (tc (.sc _) (tc (.sc _) (tc (.sc _) tn)))))))))))) (mc rfl (.box rfl (.cons (.sc _) (.nil)) rfl) (mc rfl (.box rfl (.cons trR1 (.cons trR1 (.cons trR1 (.nil)))) rfl) (mc rfl (.box rfl (.cons trR1 (.cons trR1 (.cons trR1 (.nil)))) rfl) mn)))
              · refine pu (v := .sc _) (wtG rfl rfl rfl h39) rfl (fun _ => rfl) ?_
                refine pu (v := .sc _) (wtG rfl rfl rfl h39) rfl (fun _ => rfl) ?_
                refine pu (v := .sc _) (wtG rfl rfl rfl h39) rfl (fun _ => rfl) ?_
                refine pu (v := .sc _) (wtG rfl rfl rfl h39) rfl (fun _ => rfl) ?_
                refine pu (v := .sc _) (wtG rfl rfl rfl h39) rfl (fun _ => rfl) ?_
                refine pkF (v := .sc (.bool (decide ((gt r25.1.Same s34) ≥ (w6 (r1.1 * r2.1)))))) rfl rfl h39 rfl ?_
                refine pu (v := .sc _) rfl rfl (fun _ => rfl) ?_
                refine brR hR (fun h40 hR => ?_) fun h40 hR => ?_
                · refine sk (skW rfl rfl rfl h40) ?_
                  refine sk (skW rfl rfl rfl h40) ?_
                  refine sk (skW rfl rfl rfl h40) ?_
                  refine sk (skW rfl rfl rfl h40) ?_
                  refine sk (skW rfl rfl rfl h40) ?_
                  refine sk (skW rfl rfl rfl h40) ?_
                  refine sk (skW rfl rfl rfl h40) ?_
                  refine sk (skW rfl rfl rfl h40) ?_
                  refine sk (skW rfl rfl rfl h40) ?_
                  refine sk (skW rfl rfl rfl h40) ?_
                  refine sk (skW rfl rfl rfl h40) ?_
                  refine sk (skW rfl rfl rfl h40) ?_
                  refine sk (skW rfl rfl rfl h40) ?_
                  refine sk (skW rfl rfl rfl h40) ?_
                  refine sk (skW rfl rfl rfl h40) ?_
                  refine sk (skW rfl rfl rfl h40) ?_
                  refine sk (skW rfl rfl rfl h40) ?_
                  refine sk (skW rfl rfl rfl h40) ?_
                  refine sk (skW rfl rfl rfl h40) ?_
                  refine sk (skW rfl rfl rfl h40) ?_
                  refine sk (skW rfl rfl rfl h40) ?_
                  refine pkT (v := .sc (.bool true)) rfl rfl h40 rfl ?_
                  refine RunC.fin ?_
                  have hR := Option.some.inj hR; subst hR
                  exact Weak.turnL [(0, 0), (1, 0), (2, 0)] [] rfl rfl (tc (.sc _) (tc (.sc _) (tc trR1 (tc trR1 (tc (trP' rfl rfl rfl rfl) (tc (.sc _) (tc (trP' rfl rfl rfl rfl) (tc (trP' rfl rfl rfl rfl) (tc trR1 (tc (.sc _) (tc (.sc _) (tc (.sc _) tn)))))))))))) (mc rfl (.box rfl (.cons (.sc _) (.nil)) rfl) (mc rfl (.box rfl (.cons trR1 (.cons trR1 (.cons trR1 (.nil)))) rfl) (mc rfl (.box rfl (.cons trR1 (.cons trR1 (.cons trR1 (.nil)))) rfl) mn)))
                · refine pu (v := rowV _ v23) (wtG rfl rfl rfl h40) rfl (fun _ => rfl) ?_
                  refine pu (v := .sc _) (wtG rfl rfl rfl h40) rfl (fun _ => rfl) ?_
                  obtain ⟨h41, hR⟩ := chkE hR
                  refine ixL (α := Int) (wtG rfl rfl rfl h40) rfl rfl ti27 rfl ti28 rfl h41 ?_
                  refine ldR (v := .sc _) (wtG rfl rfl rfl h40) rfl ti28 rfl ?_
                  refine pu (v := rowV _ r4.1) (wtG rfl rfl rfl h40) rfl (fun _ => rfl) ?_
                  refine pu (v := .sc _) (wtG rfl rfl rfl h40) rfl (fun _ => rfl) ?_
                  obtain ⟨h42, hR⟩ := chkE hR
                  refine ixL (α := Int) (wtG rfl rfl rfl h40) rfl rfl ti27 rfl ti28 rfl h42 ?_
                  refine ldR (v := .sc _) (wtG rfl rfl rfl h40) rfl ti28 rfl ?_
                  obtain ⟨v43, ev43, hR⟩ := letE hR
                  refine pu (v := .sc _) (wtG rfl rfl rfl h40) rfl (fun _ => puI ev43) ?_
                  refine pu (v := rowV _ r4.1) (wtG rfl rfl rfl h40) rfl (fun _ => rfl) ?_
                  refine pu (v := .sc _) (wtG rfl rfl rfl h40) rfl (fun _ => rfl) ?_
                  refine ixL (α := Int) (wtG rfl rfl rfl h40) rfl rfl ti27 rfl ti28 rfl h42 ?_
                  refine ldR (v := .sc _) (wtG rfl rfl rfl h40) rfl ti28 rfl ?_
                  refine pu (v := rowV _ v23) (wtG rfl rfl rfl h40) rfl (fun _ => rfl) ?_
                  refine pu (v := .sc _) (wtG rfl rfl rfl h40) rfl (fun _ => rfl) ?_
                  refine ixL (α := Int) (wtG rfl rfl rfl h40) rfl rfl ti27 rfl ti28 rfl h41 ?_
                  refine ldR (v := .sc _) (wtG rfl rfl rfl h40) rfl ti28 rfl ?_
                  obtain ⟨v44, ev44, hR⟩ := letE hR
                  refine pu (v := .sc _) (wtG rfl rfl rfl h40) rfl (fun _ => puI ev44) ?_
                  refine pu (v := .sc _) (wtG rfl rfl rfl h40) rfl (fun _ => rfl) ?_
                  refine pu (v := .sc _) (wtG rfl rfl rfl h40) rfl (fun _ => rfl) ?_
                  refine pu (v := .sc _) (wtG rfl rfl rfl h40) rfl (fun _ => rfl) ?_
                  refine pkF (v := .sc (.bool (decide ((mx2 v43 v44) > r8)))) rfl rfl h40 rfl ?_
                  refine RunC.fin ?_
                  have hR := Option.some.inj hR; subst hR
                  exact Weak.turnL [(0, 0), (1, 0), (2, 0)] [] rfl rfl (tc (.sc _) (tc (.sc _) (tc trR1 (tc trR1 (tc (trP' rfl rfl rfl rfl) (tc (.sc _) (tc (trP' rfl rfl rfl rfl) (tc (trP' rfl rfl rfl rfl) (tc trR1 (tc (.sc _) (tc (.sc _) (tc (.sc _) tn)))))))))))) (mc rfl (.box rfl (.cons (.sc _) (.nil)) rfl) (mc rfl (.box rfl (.cons trR1 (.cons trR1 (.cons trR1 (.nil)))) rfl) (mc rfl (.box rfl (.cons trR1 (.cons trR1 (.cons trR1 (.nil)))) rfl) mn)))
            · refine AWP.cd hR rfl (fun h45 hR => ?_) fun h45 hR => ?_
              · refine AWP.sq ?_
                refine AWP.rgC 7 rfl rfl ?_
                refine pu (v := .sc _) rfl rfl (fun _ => rfl) ?_
                refine RunC.fin ?_
                refine AWP.ret ?_
                refine rtB ?_
                refine rtT ?_
                refine rtT ?_
                refine rtB (rtT ?_)
                replace hR := escL hR hE34
                refine rtT ?_
                have hR := Option.some.inj hR; subst hR
                exact hQ _ _ (LS.mk [(8, .sc (.bool false))] (lblks 0 []) 0) (.sc (.bool false)) [] (.inr rfl) (Weak.turnL [] [] rfl rfl (tc (.sc _) tn) mn) (ro1 (rvT (v := .sc (.bool false)) rfl)) rfl rfl (.sc _) pn
              · refine AWP.skip ?_
                refine skB ?_
                refine skT ?_
                refine AWP.rgC 11 rfl rfl ?_
                refine pu (v := .sc _) rfl rfl (fun _ => rfl) ?_
                refine pu (v := .sc _) rfl rfl (fun _ => rfl) ?_
                refine RunC.fin ?_
                refine ⟨(w6 (s34 + 1)), (Option.some.inj hR).symm, ?_⟩
                exact Weak.turnL [(0, 0), (1, 0), (2, 0)] [] rfl rfl (tc (.sc _) (tc (.sc _) (tc trR1 (tc trR1 (tc (trP' rfl rfl rfl rfl) (tc (.sc _) (tc (trP' rfl rfl rfl rfl) (tc (trP' rfl rfl rfl rfl) (tc trR1 (tc (.sc _) (tc (.sc _) tn))))))))))) (mc rfl (.box rfl (.cons (.sc _) (.nil)) rfl) (mc rfl (.box rfl (.cons trR1 (.cons trR1 (.cons trR1 (.nil)))) rfl) (mc rfl (.box rfl (.cons trR1 (.cons trR1 (.cons trR1 (.nil)))) rfl) mn)))
          · refine AWP.exit ?_
            refine exT ?_
            refine exT ?_
            refine exH (skT ?_)
            refine ⟨(), (Option.some.inj hR).symm, ?_⟩
            exact Weak.turnL [(0, 0), (1, 0), (2, 0)] [] rfl rfl (tc (trP' rfl rfl rfl rfl) (tc (trP' rfl rfl rfl rfl) (tc (trP' rfl rfl rfl rfl) tn))) (mc rfl (.box rfl (.cons (.sc _) (.nil)) rfl) (mc rfl (.box rfl (.cons trR1 (.cons trR1 (.cons trR1 (.nil)))) rfl) (mc rfl (.box rfl (.cons trR1 (.cons trR1 (.cons trR1 (.nil)))) rfl) mn)))
        · refine skT ?_
          refine AWP.sq ?_
          refine AWP.rgC 11 rfl rfl ?_
          refine pu (v := .fn _ _) rfl rfl (fun _ => rfl) ?_
          refine pu (v := .fn _ _) rfl rfl (fun _ => rfl) ?_
          refine RunC.fin ?_
          refine AWP.joinX (fun z46 : Bool => LS.mk [(8, .sc (.bool z46))] (lblks 0 []) 0) hR (fun o46 hR => ?_) fun z46 hR => ?_
          · refine AWP.rgC 83 rfl rfl ?_
            refine fa rfl rfl ti39 rfl rfl ti37 rfl ?_
            refine ldB (v := rowV _ r25.1.Up) rfl rfl rfl rfl ti37 rfl rfl ?_
            refine pu (v := .fn _ _) rfl rfl (fun _ => rfl) ?_
            obtain ⟨r47, hr47, hR⟩ := bindE hR
            refine cls [0] rfl rfl cb15 (ok15 r25.1.Up r7 _ hr47) (.cons ldR' (.cons (.fn (.cons (ldX rfl rfl (.cons (.sc _) (.nil)) rfl) (.nil))) (.nil))) (.inl (by first | rfl | exact freshR | exact freshA | (simp only [V.fresh, V.freshs, freshR, freshA, Bool.and_self]))) rfl ?_
            refine pu (v := .sc _) rfl rfl (fun _ => rfl) ?_
            refine brR hR (fun h48 hR => ?_) fun h48 hR => ?_
            · refine fa (wtG rfl rfl rfl h48) rfl ti39 rfl rfl ti37 rfl ?_
              refine ldB (v := rowV _ r26.1.Down) (wtG rfl rfl rfl h48) rfl rfl rfl ti37 rfl rfl ?_
              refine pu (v := .fn _ _) (wtG rfl rfl rfl h48) rfl (fun _ => rfl) ?_
              obtain ⟨r49, hr49, hR⟩ := bindE hR
              refine cls [0] (wtG rfl rfl rfl h48) rfl cb15 (ok15 r26.1.Down r7 _ hr49) (.cons ldR' (.cons (.fn (.cons (ldX rfl rfl (.cons (.sc _) (.nil)) rfl) (.nil))) (.nil))) (.inl (by first | rfl | exact freshR | exact freshA | (simp only [V.fresh, V.freshs, freshR, freshA, Bool.and_self]))) rfl ?_
              refine pkT (v := .sc (.bool r49)) rfl rfl h48 rfl ?_
              refine pu (v := .sc _) rfl rfl (fun _ => rfl) ?_
              refine brR hR (fun h50 hR => ?_) fun h50 hR => ?_
              · refine fa (wtG rfl rfl rfl h50) rfl ti39 rfl rfl ti37 rfl ?_
                refine ldB (v := rowV _ r25.1.Down) (wtG rfl rfl rfl h50) rfl rfl rfl ti37 rfl rfl ?_
                refine pu (v := .fn _ _) (wtG rfl rfl rfl h50) rfl (fun _ => rfl) ?_
                obtain ⟨r51, hr51, hR⟩ := bindE hR
                refine cls [0] (wtG rfl rfl rfl h50) rfl cb15 (ok15 r25.1.Down r7 _ hr51) (.cons ldR' (.cons (.fn (.cons (ldX rfl rfl (.cons (.sc _) (.nil)) rfl) (.nil))) (.nil))) (.inl (by first | rfl | exact freshR | exact freshA | (simp only [V.fresh, V.freshs, freshR, freshA, Bool.and_self]))) rfl ?_
                refine pu (v := .sc _) (wtG rfl rfl rfl h50) rfl (fun _ => rfl) ?_
                refine pkT (v := .sc (.bool (!r51))) rfl rfl h50 rfl ?_
                refine pu (v := .sc _) rfl rfl (fun _ => rfl) ?_
                refine RunC.fin ?_
                have hR := Option.some.inj hR; subst hR
                exact Weak.turnL [] [] rfl rfl (tc (.sc _) tn) mn
              · refine sk (skW rfl rfl rfl h50) ?_
                refine sk (skW rfl rfl rfl h50) ?_
                refine sk (skW rfl rfl rfl h50) ?_
                refine sk (skW rfl rfl rfl h50) ?_
                refine sk (skW rfl rfl rfl h50) ?_
                refine pkF (v := .sc (.bool false)) rfl rfl h50 rfl ?_
                refine pu (v := .sc _) rfl rfl (fun _ => rfl) ?_
                refine RunC.fin ?_
                have hR := Option.some.inj hR; subst hR
                exact Weak.turnL [] [] rfl rfl (tc (.sc _) tn) mn
            · refine sk (skW rfl rfl rfl h48) ?_
              refine sk (skW rfl rfl rfl h48) ?_
              refine sk (skW rfl rfl rfl h48) ?_
              refine sk (skW rfl rfl rfl h48) ?_
              refine pkF (v := .sc (.bool false)) rfl rfl h48 rfl ?_
              refine pu (v := .sc _) rfl rfl (fun _ => rfl) ?_
              refine sk (skW rfl rfl rfl rfl) ?_
              refine sk (skW rfl rfl rfl rfl) ?_
              refine sk (skW rfl rfl rfl rfl) ?_
              refine sk (skW rfl rfl rfl rfl) ?_
              refine sk (skW rfl rfl rfl rfl) ?_
              refine pkF (v := .sc (.bool false)) rfl rfl rfl rfl ?_
              refine pu (v := .sc _) rfl rfl (fun _ => rfl) ?_
              refine RunC.fin ?_
              have hR := Option.some.inj hR; subst hR
              exact Weak.turnL [] [] rfl rfl (tc (.sc _) tn) mn
          · refine AWP.ret ?_
            have hR := Option.some.inj hR; subst hR
            exact hQ _ _ (LS.mk [(8, .sc (.bool z46))] (lblks 0 []) 0) (.sc (.bool z46)) [] (.inr rfl) (Weak.turnL [] [] rfl rfl (tc (.sc _) tn) mn) (ro1 (rvT (v := .sc (.bool z46)) rfl)) rfl rfl (.sc _) pn
end Go.Proofs.Cgr
