/- Each function of the program computes its plain function. Conditions: as each theorem states them. -/
import Derived.Test.YtddmapanlfdooaaT
import Derived.Test.YtddmapanlfdooaaP0
namespace Go.Proofs.Stm
open Go Go.Abs Lf
set_option linter.unusedVariables false
set_option linter.unusedSimpArgs false
set_option maxRecDepth 100000
set_option maxHeartbeats 1000000
theorem ok36_27 (s : stack_Stack) (r : stack_Stack) (hR : stack_copied s = some r) : FnD Try.prog 36 [] [aggV false s] (.agg [.sc (.int .i64 r.W), .sc (.int .i64 r.H), .sc (.int .i64 r.N), slV Int 0 0 0 r.Holes.length, slV Bound 1 0 0 r.At.length]) [arrB (α := Int) 3 0 true r.Holes, arrB (α := Bound) 43 0 true r.At] := by
  refine FnX.walk Try.func36 rfl 12 0 (by simp [Try.ntmps36]) rfl fun W S F Q hQ => ?_
  unfold stack_copied at hR
  refine AWP.sq ?_
  refine AWP.rgC 8 rfl rfl ?_
  refine bx (cs := _) 0 rfl rfl rfl ?_
  refine al (cs := [.sc (.int .i64 0), .sc (.int .i64 0), .sc (.int .i64 0), .sc (.slice none 0 0), .sc (.slice none 0 0)]) 4 rfl rfl ti63 rfl rfl ?_
  refine RunC.fin ?_
  refine AWP.sq ?_
  refine AWP.rgD 48 [0, 1, 3, 0, 8, 31, 31, 127, 255, 511] ⟨[2, 5], [none, some [0], some [], none, some [0], some [], none, some [0], none, some [0]]⟩ hmix (by kernel_rfl) rfl rfl ?_
  refine fa rfl rfl ti63 rfl rfl ti22 rfl ?_
  refine ldB (v := rowV _ s.Holes) rfl rfl rfl rfl ti22 rfl rfl ?_
  obtain ⟨r1, hr1, hR⟩ := bindE hR
  refine cps (res' := slV Int 16 0 0 r1.length) (ups := [(16, arrB (α := Int) 3 0 true r1)]) [] 16 rfl rfl rfl cb45 (ok45_25 s.Holes _ hr1) (.cons ldR' (.nil)) pn rfl rfl rfl rfl rfl (by first | rfl | exact renR | exact renA | exact renS | simp only [V.ren, V.rens, renR, renA, renS] | (simp only [V.ren, V.rens, renR, renA, renS]; rfl)) (by simp only [passUps, renBox, renArr]; rfl) ?_
  refine fa rfl rfl ti63 rfl rfl ti31 rfl ?_
  refine ldB (v := rowV _ s.At) rfl rfl rfl rfl ti31 rfl rfl ?_
  obtain ⟨r2, hr2, hR⟩ := bindE hR
  refine cps (res' := slV Bound 28 0 0 r2.length) (ups := [(28, arrB (α := Bound) 43 0 true r2)]) [] 28 rfl rfl rfl cb46 (ok46_26 s.At _ hr2) (.cons ldR' (.nil)) pn rfl rfl rfl rfl rfl (by first | rfl | exact renR | exact renA | exact renS | simp only [V.ren, V.rens, renR, renA, renS] | (simp only [V.ren, V.rens, renR, renA, renS]; rfl)) (by simp only [passUps, renBox, renArr]; rfl) ?_
  refine fa rfl rfl ti63 rfl rfl ti22 rfl ?_
  refine stB (cs' := [.sc (.int .i64 s.W), .sc (.int .i64 s.H), .sc (.int .i64 s.N), slV Int 16 0 0 r1.length, rowV (α := Bound) false s.At]) rfl rfl rfl rfl ti22 rfl rfl rfl rfl rfl ?_
  refine fa rfl rfl ti63 rfl rfl ti31 rfl ?_
  refine stB (cs' := [.sc (.int .i64 s.W), .sc (.int .i64 s.H), .sc (.int .i64 s.N), slV Int 16 0 0 r1.length, slV Bound 28 0 0 r2.length]) rfl rfl rfl rfl ti31 rfl rfl rfl rfl rfl ?_
  refine RunC.fin ?_
  refine AWP.sq ?_
  refine AWP.rgC 56 rfl rfl ?_
  refine ldB (v := .agg _) rfl rfl rfl rfl ti63 rfl rfl ?_
  refine stB (cs' := [.sc (.int .i64 s.W), .sc (.int .i64 s.H), .sc (.int .i64 s.N), slV Int 16 0 0 r1.length, slV Bound 28 0 0 r2.length]) rfl rfl rfl rfl ti63 rfl rfl rfl rfl rfl ?_
  refine RunC.fin ?_
  refine AWP.ret ?_
  have hR := Option.some.inj hR; subst hR
  exact hQ _ _ (LS.mk [(2, .ptr 2 0 0)] (lblks 0 [arrB (α := Int) 3 0 true r1, arrB (α := Bound) 43 0 true r2, .box [.sc (.int .i64 s.W), .sc (.int .i64 s.H), .sc (.int .i64 s.N), slV Int 0 0 0 r1.length, slV Bound 1 0 0 r2.length]]) 3) (.agg [.sc (.int .i64 s.W), .sc (.int .i64 s.H), .sc (.int .i64 s.N), slV Int 0 0 0 r1.length, slV Bound 1 0 0 r2.length]) [0, 1] (.inr rfl) (Weak.turnL [(16, 0), (28, 0), (4, 0)] [] rfl rfl (tc (trP' rfl rfl rfl rfl) tn) (mc rfl (btrA' rfl) (mc rfl (btrA' rfl) (mc rfl (.box rfl (.cons (.sc _) (.cons (.sc _) (.cons (.sc _) (.cons (trS' rfl rfl rfl rfl rfl) (.cons (trS' rfl rfl rfl rfl rfl) (.nil)))))) rfl) mn)))) (ro1 (rvC (v := .agg [.sc (.int .i64 s.W), .sc (.int .i64 s.H), .sc (.int .i64 s.N), slV Int 0 0 0 r1.length, slV Bound 1 0 0 r2.length]) rfl rfl ti63 rfl)) rfl rfl (.agg (.cons (.sc _) (.cons (.sc _) (.cons (.sc _) (.cons (ldM rfl rfl) (.cons (ldM rfl rfl) (.nil)))))) rfl) (pc rfl bldA (pc rfl bldA pn))
theorem ok22 (a : Bound) (b : Bound) (r : Bool) (hR : bound_vague a b = some r) : FnP Try.prog 22 [aggV false a, aggV false b] (.sc (.bool r)) := by
  refine fnP_of (FnX.walk Try.func22 rfl 13 0 (by simp [Try.ntmps22]) rfl fun W S F Q hQ => ?_)
  unfold bound_vague at hR
  refine AWP.sq ?_
  refine AWP.rgC 12 rfl rfl ?_
  refine bx (cs := _) 0 rfl rfl rfl ?_
  refine bx (cs := _) 4 rfl rfl rfl ?_
  refine pu (v := .sc _) rfl rfl (fun _ => rfl) ?_
  refine RunC.fin ?_
  refine AWP.joinX (fun z1 : Bool => LS.mk [(4, .sc (.bool z1))] (lblks 0 []) 0) hR (fun o1 hR => ?_) fun z1 hR => ?_
  · refine AWP.rgC 48 rfl rfl ?_
    refine ldB (v := .agg _) rfl rfl rfl rfl ti43 rfl rfl ?_
    obtain ⟨r2, hr2, hR⟩ := bindE hR
    refine cls [] rfl rfl cb29 (ok29 a _ hr2) (.cons (.agg (.cons (.sc _) (.cons (.sc _) (.cons (.sc _) (.nil)))) rfl) (.nil)) (.inr rfl) rfl ?_
    refine fi (v := .sc _) rfl rfl ti43 rfl rfl ti4 rfl ?_
    refine pu (v := .sc _) rfl rfl (fun _ => rfl) ?_
    refine brR hR (fun h3 hR => ?_) fun h3 hR => ?_
    · refine sk (skW rfl rfl rfl h3) ?_
      refine sk (skW rfl rfl rfl h3) ?_
      refine sk (skW rfl rfl rfl h3) ?_
      refine pkT (v := .sc (.bool true)) rfl rfl h3 rfl ?_
      refine pu (v := .sc _) rfl rfl (fun _ => rfl) ?_
      refine RunC.fin ?_
      have hR := Option.some.inj hR; subst hR
      exact Weak.turnL [] [] rfl rfl (tc (.sc _) tn) mn
    · refine ldB (v := .agg _) (wtG rfl rfl rfl h3) rfl rfl rfl ti43 rfl rfl ?_
      obtain ⟨r4, hr4, hR⟩ := bindE hR
      refine cls [] (wtG rfl rfl rfl h3) rfl cb29 (ok29 b _ hr4) (.cons (.agg (.cons (.sc _) (.cons (.sc _) (.cons (.sc _) (.nil)))) rfl) (.nil)) (.inr rfl) rfl ?_
      refine fi (v := .sc _) (wtG rfl rfl rfl h3) rfl ti43 rfl rfl ti4 rfl ?_
      refine pkF (v := .sc (.bool r4.Unknown)) rfl rfl h3 rfl ?_
      refine pu (v := .sc _) rfl rfl (fun _ => rfl) ?_
      refine RunC.fin ?_
      have hR := Option.some.inj hR; subst hR
      exact Weak.turnL [] [] rfl rfl (tc (.sc _) tn) mn
  · refine AWP.ret ?_
    have hR := Option.some.inj hR; subst hR
    exact hQ _ _ (LS.mk [(4, .sc (.bool z1))] (lblks 0 []) 0) (.sc (.bool z1)) [] (.inr rfl) (Weak.turnL [] [] rfl rfl (tc (.sc _) tn) mn) (ro1 (rvT (v := .sc (.bool z1)) rfl)) rfl rfl (.sc _) pn
theorem ok23 (lo : Int) (hi : Int) (r : Bound) (hR : bound_Of lo hi = some r) : FnP Try.prog 23 [.sc (.int .i64 lo), .sc (.int .i64 hi)] (aggV (α := Bound) true r) := by
  refine fnP_of (FnX.walk Try.func23 rfl 9 0 (by simp [Try.ntmps23]) rfl fun W S F Q hQ => ?_)
  unfold bound_Of at hR
  refine AWP.sq ?_
  refine AWP.rgC 4 rfl rfl ?_
  refine al (cs := [.sc (.int .i64 0), .sc (.int .i64 0), .sc (.bool false)]) 0 rfl rfl ti43 rfl rfl ?_
  refine RunC.fin ?_
  refine AWP.sq ?_
  refine AWP.rgC 24 rfl rfl ?_
  refine pu (v := .sc _) rfl rfl (fun _ => rfl) ?_
  refine pu (v := .sc _) rfl rfl (fun _ => rfl) ?_
  refine bu (cs := [.sc (.int .i64 lo), .sc (.int .i64 hi), .sc (.bool false)]) rfl bt43 rfl ?_
  obtain ⟨r1, hr1, hR⟩ := bindE hR
  refine cls [] rfl rfl cb29 (ok29 (Bound.mk lo hi false) _ hr1) (.cons (.agg (.cons (.sc _) (.cons (.sc _) (.cons (.sc _) (.nil)))) rfl) (.nil)) (.inr rfl) rfl ?_
  refine stB (cs' := [.sc (.int .i64 r1.Lo), .sc (.int .i64 r1.Hi), .sc (.bool r1.Unknown)]) rfl rfl rfl rfl ti43 rfl rfl rfl rfl rfl ?_
  refine RunC.fin ?_
  refine AWP.ret ?_
  have hR := Option.some.inj hR; subst hR
  exact hQ _ _ (LS.mk [(4, .ptr 0 0 0)] (lblks 0 [boxB (α := Bound) true r1]) 1) (aggV (α := Bound) true r1) [] (.inr rfl) (Weak.turnL [(0, 0)] [] rfl rfl (tc (trP' rfl rfl rfl rfl) tn) (mc rfl (.box rfl (.cons (.sc _) (.cons (.sc _) (.cons (.sc _) (.nil)))) rfl) mn)) (ro1 (rvC (v := aggV (α := Bound) true r1) rfl rfl ti43 rfl)) rfl rfl ldA pn
theorem ok15 (a : Bound) (b : Bound) (r : Bound) (hR : bound_Add a b = some r) : FnP Try.prog 15 [aggV false a, aggV false b] (aggV (α := Bound) true r) := by
  refine fnP_of (FnX.walk Try.func15 rfl 20 0 (by simp [Try.ntmps15]) rfl fun W S F Q hQ => ?_)
  unfold bound_Add at hR
  refine AWP.sq ?_
  refine AWP.rgC 12 rfl rfl ?_
  refine bx (cs := _) 0 rfl rfl rfl ?_
  refine bx (cs := _) 4 rfl rfl rfl ?_
  refine al (cs := [.sc (.int .i64 0), .sc (.int .i64 0), .sc (.bool false)]) 8 rfl rfl ti43 rfl rfl ?_
  refine RunC.fin ?_
  refine AWP.sq ?_
  refine AWP.sq ?_
  refine AWP.rgC 24 rfl rfl ?_
  refine ldB (v := .agg _) rfl rfl rfl rfl ti43 rfl rfl ?_
  refine ldB (v := .agg _) rfl rfl rfl rfl ti43 rfl rfl ?_
  obtain ⟨r1, hr1, hR⟩ := bindE hR
  refine cls [] rfl rfl cb22 (ok22 a b _ hr1) (.cons (.agg (.cons (.sc _) (.cons (.sc _) (.cons (.sc _) (.nil)))) rfl) (.cons (.agg (.cons (.sc _) (.cons (.sc _) (.cons (.sc _) (.nil)))) rfl) (.nil))) (.inr rfl) rfl ?_
  refine RunC.fin ?_
  refine AWP.cd hR rfl (fun h2 hR => ?_) fun h2 hR => ?_
  · refine AWP.sq ?_
    refine AWP.rgC 32 rfl rfl ?_
    obtain ⟨r3, hr3, hR⟩ := bindE hR
    refine cls [] rfl rfl cb21 (ok21 _ hr3) (.nil) (.inr rfl) rfl ?_
    refine stB (cs' := [.sc (.int .i64 r3.Lo), .sc (.int .i64 r3.Hi), .sc (.bool r3.Unknown)]) rfl rfl rfl rfl ti43 rfl rfl rfl rfl rfl ?_
    refine RunC.fin ?_
    refine AWP.ret ?_
    refine rtT ?_
    have hR := Option.some.inj hR; subst hR
    exact hQ _ _ (LS.mk [(4, .ptr 0 0 0)] (lblks 0 [boxB (α := Bound) true r3]) 1) (aggV (α := Bound) true r3) [] (.inr rfl) (Weak.turnL [(8, 0)] [] rfl rfl (tc (trP' rfl rfl rfl rfl) tn) (mc rfl (.box rfl (.cons (.sc _) (.cons (.sc _) (.cons (.sc _) (.nil)))) rfl) mn)) (ro1 (rvC (v := aggV (α := Bound) true r3) rfl rfl ti43 rfl)) rfl rfl ldA pn
  · refine AWP.skip ?_
    refine skT ?_
    refine AWP.sq ?_
    refine AWP.rgC 72 rfl rfl ?_
    refine fa rfl rfl ti43 rfl rfl ti28 rfl ?_
    refine ldB (v := .sc _) rfl rfl rfl rfl ti28 rfl rfl ?_
    refine fa rfl rfl ti43 rfl rfl ti28 rfl ?_
    refine ldB (v := .sc _) rfl rfl rfl rfl ti28 rfl rfl ?_
    refine pu (v := .sc _) rfl rfl (fun _ => rfl) ?_
    refine fa rfl rfl ti43 rfl rfl ti28 rfl ?_
    refine ldB (v := .sc _) rfl rfl rfl rfl ti28 rfl rfl ?_
    refine fa rfl rfl ti43 rfl rfl ti28 rfl ?_
    refine ldB (v := .sc _) rfl rfl rfl rfl ti28 rfl rfl ?_
    refine pu (v := .sc _) rfl rfl (fun _ => rfl) ?_
    obtain ⟨r4, hr4, hR⟩ := bindE hR
    refine cls [] rfl rfl cb23 (ok23 (w6 (a.Lo + b.Lo)) (w6 (a.Hi + b.Hi)) _ hr4) (.cons (.sc _) (.cons (.sc _) (.nil))) (.inr rfl) rfl ?_
    refine stB (cs' := [.sc (.int .i64 r4.Lo), .sc (.int .i64 r4.Hi), .sc (.bool r4.Unknown)]) rfl rfl rfl rfl ti43 rfl rfl rfl rfl rfl ?_
    refine RunC.fin ?_
    refine AWP.ret ?_
    have hR := Option.some.inj hR; subst hR
    exact hQ _ _ (LS.mk [(4, .ptr 0 0 0)] (lblks 0 [boxB (α := Bound) true r4]) 1) (aggV (α := Bound) true r4) [] (.inr rfl) (Weak.turnL [(8, 0)] [] rfl rfl (tc (trP' rfl rfl rfl rfl) tn) (mc rfl (.box rfl (.cons (.sc _) (.cons (.sc _) (.cons (.sc _) (.nil)))) rfl) mn)) (ro1 (rvC (v := aggV (α := Bound) true r4) rfl rfl ti43 rfl)) rfl rfl ldA pn
theorem ok27 (s : stack_Stack) (c : Cells) (r : stack_Stack × Int) (hR : stack_Add s c = some r) : FnP Try.prog 27 [aggV false s, aggV false c] (.tup [aggV (α := stack_Stack) true r.1, .sc (.int .i64 r.2)]) := by
  refine fnP_of (FnX.walk Try.func27 rfl 56 0 (by simp [Try.ntmps27]) rfl fun W S F Q hQ => ?_)
  unfold stack_Add at hR
  refine AWP.sq ?_
  refine AWP.rgC 16 rfl rfl ?_
  refine bx (cs := _) 0 rfl rfl rfl ?_
  refine bx (cs := _) 4 rfl rfl rfl ?_
  refine al (cs := [.sc (.int .i64 0), .sc (.int .i64 0), .sc (.int .i64 0), .sc (.slice none 0 0), .sc (.slice none 0 0)]) 8 rfl rfl ti63 rfl rfl ?_
  refine pu (v := .sc _) rfl rfl (fun _ => rfl) ?_
  refine RunC.fin ?_
  refine AWP.sq ?_
  refine AWP.sq ?_
  refine AWP.rgC 32 rfl rfl ?_
  refine ldB (v := .agg _) rfl rfl rfl rfl ti63 rfl rfl ?_
  refine ldB (v := .agg _) rfl rfl rfl rfl ti33 rfl rfl ?_
  obtain ⟨r1, hr1, hR⟩ := bindE hR
  refine cls [] rfl rfl cb35 (ok35 s c _ hr1) (.cons (.agg (.cons (.sc _) (.cons (.sc _) (.cons (.sc _) (.cons ldR' (.cons ldR' (.nil)))))) rfl) (.cons (.agg (.cons (.sc _) (.cons (.sc _) (.cons ldR' (.nil)))) rfl) (.nil))) (.inr rfl) rfl ?_
  refine pu (v := .sc _) rfl rfl (fun _ => rfl) ?_
  refine RunC.fin ?_
  refine AWP.sq ?_
  refine AWP.rgC 40 rfl rfl ?_
  refine pu (v := .sc _) rfl rfl (fun _ => rfl) ?_
  refine pu (v := .sc _) rfl rfl (fun _ => rfl) ?_
  refine RunC.fin ?_
  refine AWP.cd hR rfl (fun h2 hR => ?_) fun h2 hR => ?_
  · refine AWP.sq ?_
    refine AWP.rgC 56 rfl rfl ?_
    refine bu (cs := [.sc (.int .i64 0), .sc (.int .i64 0), .sc (.int .i64 0), .sc (.slice none 0 0), .sc (.slice none 0 0)]) rfl bt63 rfl ?_
    refine pu (v := .sc _) rfl rfl (fun _ => rfl) ?_
    refine stB (cs' := [.sc (.int .i64 0), .sc (.int .i64 0), .sc (.int .i64 0), .sc (.slice none 0 0), .sc (.slice none 0 0)]) rfl rfl rfl rfl ti63 rfl rfl rfl rfl rfl ?_
    refine pu (v := .sc _) rfl rfl (fun _ => rfl) ?_
    refine RunC.fin ?_
    refine AWP.ret ?_
    refine rtT ?_
    have hR := Option.some.inj hR; subst hR
    exact hQ _ _ (LS.mk [(4, .ptr 0 0 0), (5, .sc (.int .i64 r1))] (lblks 0 [boxB (α := stack_Stack) true (stack_Stack.mk 0 0 0 [] [])]) 1) (.tup [aggV (α := stack_Stack) true (stack_Stack.mk 0 0 0 [] []), .sc (.int .i64 r1)]) [] (.inr rfl) (Weak.turnL [(8, 0)] [] rfl rfl (tc (trP' rfl rfl rfl rfl) (tc (.sc _) tn)) (mc rfl (.box rfl (.cons (.sc _) (.cons (.sc _) (.cons (.sc _) (.cons trN (.cons trN (.nil)))))) rfl) mn)) (ro2 (rvC (v := aggV (α := stack_Stack) true (stack_Stack.mk 0 0 0 [] [])) rfl rfl ti63 rfl) (rvT (v := .sc (.int .i64 r1)) rfl)) rfl rfl (.tup (.cons ldA (.cons (.sc _) .nil))) pn
  · refine AWP.skip ?_
    refine skT ?_
    refine AWP.sq ?_
    refine AWP.sq ?_
    refine AWP.rgC 52 rfl rfl ?_
    refine fa rfl rfl ti63 rfl rfl ti3 rfl ?_
    refine ldB (v := .sc _) rfl rfl rfl rfl ti3 rfl rfl ?_
    refine pu (v := .sc _) rfl rfl (fun _ => rfl) ?_
    refine RunC.fin ?_
    refine AWP.cd hR rfl (fun h3 hR => ?_) fun h3 hR => ?_
    · refine AWP.sq ?_
      refine AWP.rgC 64 rfl rfl ?_
      refine bu (cs := [.sc (.int .i64 0), .sc (.int .i64 0), .sc (.int .i64 0), .sc (.slice none 0 0), .sc (.slice none 0 0)]) rfl bt63 rfl ?_
      refine stB (cs' := [.sc (.int .i64 0), .sc (.int .i64 0), .sc (.int .i64 0), .sc (.slice none 0 0), .sc (.slice none 0 0)]) rfl rfl rfl rfl ti63 rfl rfl rfl rfl rfl ?_
      refine pu (v := .sc _) rfl rfl (fun _ => rfl) ?_
      refine RunC.fin ?_
      refine AWP.ret ?_
      refine rtT ?_
      have hR := Option.some.inj hR; subst hR
      exact hQ _ _ (LS.mk [(4, .ptr 0 0 0), (5, .sc (.int .i64 9))] (lblks 0 [boxB (α := stack_Stack) true (stack_Stack.mk 0 0 0 [] [])]) 1) (.tup [aggV (α := stack_Stack) true (stack_Stack.mk 0 0 0 [] []), .sc (.int .i64 9)]) [] (.inr rfl) (Weak.turnL [(8, 0)] [] rfl rfl (tc (trP' rfl rfl rfl rfl) (tc (.sc _) tn)) (mc rfl (.box rfl (.cons (.sc _) (.cons (.sc _) (.cons (.sc _) (.cons trN (.cons trN (.nil)))))) rfl) mn)) (ro2 (rvC (v := aggV (α := stack_Stack) true (stack_Stack.mk 0 0 0 [] [])) rfl rfl ti63 rfl) (rvT (v := .sc (.int .i64 9)) rfl)) rfl rfl (.tup (.cons ldA (.cons (.sc _) .nil))) pn
    · refine AWP.skip ?_
      refine skT ?_
      refine AWP.sq ?_
      refine AWP.rgC 64 rfl rfl ?_
      refine ldB (v := .agg _) rfl rfl rfl rfl ti63 rfl rfl ?_
      obtain ⟨r4, hr4, hR⟩ := bindE hR
      refine cpx (res' := .agg [.sc (.int .i64 r4.W), .sc (.int .i64 r4.H), .sc (.int .i64 r4.N), slV Int 56 0 0 r4.Holes.length, slV Bound 57 0 0 r4.At.length]) (ups := [(56, arrB (α := Int) 3 0 true r4.Holes), (57, arrB (α := Bound) 43 0 true r4.At)]) [] 56 rfl rfl rfl cb36 (ok36_27 s _ hr4) (.cons (.agg (.cons (.sc _) (.cons (.sc _) (.cons (.sc _) (.cons ldR' (.cons ldR' (.nil)))))) rfl) (.nil)) pn rfl rfl rfl (by simp only [V.ren, V.rens, renS, renR, renA]; rfl) (by simp only [passUps, renBox, renArr]; rfl) ?_
      refine stB (cs' := [.sc (.int .i64 r4.W), .sc (.int .i64 r4.H), .sc (.int .i64 r4.N), slV Int 56 0 0 r4.Holes.length, slV Bound 57 0 0 r4.At.length]) rfl rfl rfl rfl ti63 rfl rfl rfl rfl rfl ?_
      refine RunC.fin ?_
      refine AWP.sq ?_
      refine AWP.rgC 84 rfl rfl ?_
      refine fa rfl rfl ti63 rfl rfl ti3 rfl ?_
      refine ldB (v := .sc _) rfl rfl rfl rfl ti3 rfl rfl ?_
      refine pu (v := .sc _) rfl rfl (fun _ => rfl) ?_
      refine fa rfl rfl ti63 rfl rfl ti3 rfl ?_
      refine stB (cs' := [.sc (.int .i64 r4.W), .sc (.int .i64 r4.H), .sc (.int .i64 (w6 (r4.N + 1))), slV Int 56 0 0 r4.Holes.length, slV Bound 57 0 0 r4.At.length]) rfl rfl rfl rfl ti3 rfl rfl rfl rfl rfl ?_
      refine RunC.fin ?_
      refine AWP.sq ?_
      refine AWP.sq ?_
      refine AWP.rgC 100 rfl rfl ?_
      refine fa rfl rfl ti33 rfl rfl ti31 rfl ?_
      refine ldB (v := rowV _ c.At) rfl rfl rfl rfl ti31 rfl rfl ?_
      refine lenL (α := Bound) rfl rfl ti31 rfl ?_
      refine pu (v := .sc _) rfl rfl (fun _ => rfl) ?_
      refine RunC.fin ?_
      refine AWP.loopJ (fun s5 : (List Int) × (List Bound) × Int => LS.mk [(2, .ptr 0 0 0), (4, .ptr 3 0 0), (27, rowV (α := Bound) false c.At), (28, .sc (.int .i64 (c.At.length : Int))), (29, .sc (.int .i64 s5.2.2))] (lblks 0 [.box [.sc (.int .i64 r4.W), .sc (.int .i64 r4.H), .sc (.int .i64 (w6 (r4.N + 1))), slV Int 1 0 0 s5.1.length, slV Bound 2 0 0 s5.2.1.length], arrB (α := Int) 3 0 true s5.1, arrB (α := Bound) 43 0 true s5.2.1, .box [.sc (.int .i64 0), .sc (.int .i64 0), .sc (.int .i64 0), .sc (.slice none 0 0), .sc (.slice none 0 0)]]) 4) (fun z6 : (List Int) × (List Bound) => LS.mk [(2, .ptr 0 0 0), (4, .ptr 3 0 0)] (lblks 0 [.box [.sc (.int .i64 r4.W), .sc (.int .i64 r4.H), .sc (.int .i64 (w6 (r4.N + 1))), slV Int 1 0 0 z6.1.length, slV Bound 2 0 0 z6.2.length], arrB (α := Int) 3 0 true z6.1, arrB (α := Bound) 43 0 true z6.2, .box [.sc (.int .i64 0), .sc (.int .i64 0), .sc (.int .i64 0), .sc (.slice none 0 0), .sc (.slice none 0 0)]]) 4) (stack_Add.l1 c) hR (s0 := (r4.Holes, r4.At, 0)) (Weak.turnL [(0, 0), (56, 0), (57, 0), (8, 0)] [] rfl rfl (tc (trP' rfl rfl rfl rfl) (tc (trP' rfl rfl rfl rfl) (tc trR1 (tc (.sc _) (tc (.sc _) tn))))) (mc rfl (.box rfl (.cons (.sc _) (.cons (.sc _) (.cons (.sc _) (.cons (trS' rfl rfl rfl rfl rfl) (.cons (trS' rfl rfl rfl rfl rfl) (.nil)))))) rfl) (mc rfl (btrA' rfl) (mc rfl (btrA' rfl) (mc rfl (.box rfl (.cons (.sc _) (.cons (.sc _) (.cons (.sc _) (.cons (.sc _) (.cons (.sc _) (.nil)))))) rfl) mn))))) (fun s5 o5 hR => ?_) fun z6 hR => ?_
      · unfold stack_Add.l1 at hR
        refine AWP.sq ?_
        refine AWP.rgC 8 rfl rfl ?_
        refine pu (v := .sc _) rfl rfl (fun _ => rfl) ?_
        refine RunC.fin ?_
        refine AWP.sq ?_
        refine AWP.cd hR rfl (fun h7 hR => ?_) fun h7 hR => ?_
        · refine AWP.skip ?_
          refine skT ?_
          refine AWP.joinX (fun z8 : (List Int) × (List Bound) => LS.mk [(2, .ptr 0 0 0), (4, .ptr 3 0 0), (27, rowV (α := Bound) false c.At), (28, .sc (.int .i64 (c.At.length : Int))), (29, .sc (.int .i64 s5.2.2))] (lblks 0 [.box [.sc (.int .i64 r4.W), .sc (.int .i64 r4.H), .sc (.int .i64 (w6 (r4.N + 1))), slV Int 1 0 0 z8.1.length, slV Bound 2 0 0 z8.2.length], arrB (α := Int) 3 0 true z8.1, arrB (α := Bound) 43 0 true z8.2, .box [.sc (.int .i64 0), .sc (.int .i64 0), .sc (.int .i64 0), .sc (.slice none 0 0), .sc (.slice none 0 0)]]) 4) hR (fun o8 hR => ?_) fun z8 hR => ?_
          · refine AWP.block ?_
            refine AWP.sq ?_
            refine AWP.rgC 32 rfl rfl ?_
            refine pu (v := .sc _) rfl rfl (fun _ => rfl) ?_
            obtain ⟨h9, hR⟩ := chkE hR
            refine ixL (α := Bound) rfl rfl rfl ti31 rfl ti43 rfl h9 ?_
            refine ldR (v := .agg _) rfl rfl ti43 rfl ?_
            refine al (cs := [.sc (.int .i64 0), .sc (.int .i64 0), .sc (.bool false)]) 20 rfl rfl ti43 rfl rfl ?_
            refine pu (v := .sc _) rfl rfl (fun _ => rfl) ?_
            refine stB (cs' := [.sc (.int .i64 (gt c.At s5.2.2).Lo), .sc (.int .i64 (gt c.At s5.2.2).Hi), .sc (.bool (gt c.At s5.2.2).Unknown)]) rfl rfl rfl rfl ti43 rfl rfl rfl rfl rfl ?_
            refine RunC.fin ?_
            refine AWP.sq ?_
            refine AWP.rgC 40 rfl rfl ?_
            refine fa rfl rfl ti43 rfl rfl ti4 rfl ?_
            refine ldB (v := .sc _) rfl rfl rfl rfl ti4 rfl rfl ?_
            refine RunC.fin ?_
            refine AWP.cd hR rfl (fun h10 hR => ?_) fun h10 hR => ?_
            · refine AWP.rgC 72 rfl rfl ?_
              refine fa rfl rfl ti63 rfl rfl ti22 rfl ?_
              refine ldB (v := slV Int _ _ _ _) rfl rfl rfl rfl ti22 rfl rfl ?_
              refine pu (v := .sc _) rfl rfl (fun _ => rfl) ?_
              obtain ⟨h11, hR⟩ := chkE hR
              refine ixS0 (α := Int) rfl rfl rfl ti22 rfl ti3 rfl h11 ?_
              refine ldE (α := Int) (v := .sc _) rfl rfl rfl (ixlt h11) ti3 rfl rfl rfl rfl ?_
              refine pu (v := .sc _) rfl rfl (fun _ => rfl) ?_
              refine ixS0 (α := Int) rfl rfl rfl ti22 rfl ti3 rfl h11 ?_
              refine stE (α := Int) (y := w6 ((gt s5.1 s5.2.2) + 1)) rfl rfl rfl (ixlt h11) ti3 rfl rfl rfl rfl rfl ?_
              refine RunC.blk ?_
              refine RunC.fin ?_
              have hR := Option.some.inj hR; subst hR
              exact Weak.turnL [(0, 0), (1, 0), (2, 0), (3, 0)] [] rfl rfl (tc (trP' rfl rfl rfl rfl) (tc (trP' rfl rfl rfl rfl) (tc trR1 (tc (.sc _) (tc (.sc _) tn))))) (mc rfl (.box rfl (.cons (.sc _) (.cons (.sc _) (.cons (.sc _) (.cons (trS' rfl rfl rfl rfl (by simp only [List.length_set])) (.cons (trS' rfl rfl rfl rfl rfl) (.nil)))))) rfl) (mc rfl (btrA' rfl) (mc rfl (btrA' rfl) (mc rfl (.box rfl (.cons (.sc _) (.cons (.sc _) (.cons (.sc _) (.cons (.sc _) (.cons (.sc _) (.nil)))))) rfl) mn))))
            · refine AWP.rgD 88 [0, 1, 0, 0, 8, 0, 56, 120, 0, 504, 1023, 2047] ⟨[], [none, some [0], none, none, some [0], none, none, some [2], some [20], none, none, some [2]]⟩ hmix (by kernel_rfl) rfl rfl ?_
              refine fa rfl rfl ti63 rfl rfl ti31 rfl ?_
              refine ldB (v := slV Bound _ _ _ _) rfl rfl rfl rfl ti31 rfl rfl ?_
              refine pu (v := .sc _) rfl rfl (fun _ => rfl) ?_
              refine fa rfl rfl ti63 rfl rfl ti31 rfl ?_
              refine ldB (v := slV Bound _ _ _ _) rfl rfl rfl rfl ti31 rfl rfl ?_
              refine pu (v := .sc _) rfl rfl (fun _ => rfl) ?_
              obtain ⟨h12, hR⟩ := chkE hR
              refine ixS0 (α := Bound) rfl rfl rfl ti31 rfl ti43 rfl h12 ?_
              refine ldE (α := Bound) (v := .agg _) rfl rfl rfl (ixlt h12) ti43 rfl rfl rfl rfl ?_
              refine ldB (v := .agg _) rfl rfl rfl rfl ti43 rfl rfl ?_
              obtain ⟨r13, hr13, hR⟩ := bindE hR
              refine cls [] rfl rfl cb15 (ok15 (gt s5.2.1 s5.2.2) (gt c.At s5.2.2) _ hr13) (.cons (.agg (.cons (.sc _) (.cons (.sc _) (.cons (.sc _) (.nil)))) rfl) (.cons (.agg (.cons (.sc _) (.cons (.sc _) (.cons (.sc _) (.nil)))) rfl) (.nil))) (.inr rfl) rfl ?_
              refine ixS0 (α := Bound) rfl rfl rfl ti31 rfl ti43 rfl h12 ?_
              refine stE (α := Bound) (y := r13) rfl rfl rfl (ixlt h12) ti43 rfl rfl rfl rfl rfl ?_
              refine RunC.blk ?_
              refine RunC.fin ?_
              have hR := Option.some.inj hR; subst hR
              exact Weak.turnL [(0, 0), (1, 0), (2, 0), (3, 0)] [] rfl rfl (tc (trP' rfl rfl rfl rfl) (tc (trP' rfl rfl rfl rfl) (tc trR1 (tc (.sc _) (tc (.sc _) tn))))) (mc rfl (.box rfl (.cons (.sc _) (.cons (.sc _) (.cons (.sc _) (.cons (trS' rfl rfl rfl rfl rfl) (.cons (trS' rfl rfl rfl rfl (by simp only [List.length_set])) (.nil)))))) rfl) (mc rfl (btrA' rfl) (mc rfl (btrA' rfl) (mc rfl (.box rfl (.cons (.sc _) (.cons (.sc _) (.cons (.sc _) (.cons (.sc _) (.cons (.sc _) (.nil)))))) rfl) mn))))
          · refine AWP.rgC 12 rfl rfl ?_
            refine pu (v := .sc _) rfl rfl (fun _ => rfl) ?_
            refine pu (v := .sc _) rfl rfl (fun _ => rfl) ?_
            refine RunC.fin ?_
            refine ⟨(z8.1, z8.2, w6 (s5.2.2 + 1)), (Option.some.inj hR).symm, ?_⟩
            exact Weak.turnL [(0, 0), (1, 0), (2, 0), (3, 0)] [] rfl rfl (tc (trP' rfl rfl rfl rfl) (tc (trP' rfl rfl rfl rfl) (tc trR1 (tc (.sc _) (tc (.sc _) tn))))) (mc rfl (.box rfl (.cons (.sc _) (.cons (.sc _) (.cons (.sc _) (.cons (trS' rfl rfl rfl rfl rfl) (.cons (trS' rfl rfl rfl rfl rfl) (.nil)))))) rfl) (mc rfl (btrA' rfl) (mc rfl (btrA' rfl) (mc rfl (.box rfl (.cons (.sc _) (.cons (.sc _) (.cons (.sc _) (.cons (.sc _) (.cons (.sc _) (.nil)))))) rfl) mn))))
        · refine AWP.exit ?_
          refine exT ?_
          refine exT ?_
          refine exH (skT ?_)
          refine ⟨(s5.1, s5.2.1), (Option.some.inj hR).symm, ?_⟩
          exact Weak.turnL [(0, 0), (1, 0), (2, 0), (3, 0)] [] rfl rfl (tc (trP' rfl rfl rfl rfl) (tc (trP' rfl rfl rfl rfl) tn)) (mc rfl (.box rfl (.cons (.sc _) (.cons (.sc _) (.cons (.sc _) (.cons (trS' rfl rfl rfl rfl rfl) (.cons (trS' rfl rfl rfl rfl rfl) (.nil)))))) rfl) (mc rfl (btrA' rfl) (mc rfl (btrA' rfl) (mc rfl (.box rfl (.cons (.sc _) (.cons (.sc _) (.cons (.sc _) (.cons (.sc _) (.cons (.sc _) (.nil)))))) rfl) mn))))
      · refine skT ?_
        refine AWP.sq ?_
        refine AWP.rgC 16 rfl rfl ?_
        refine ldB (v := .agg _) rfl rfl rfl rfl ti63 rfl rfl ?_
        refine stB (cs' := [.sc (.int .i64 r4.W), .sc (.int .i64 r4.H), .sc (.int .i64 (w6 (r4.N + 1))), slV Int 1 0 0 z6.1.length, slV Bound 2 0 0 z6.2.length]) rfl rfl rfl rfl ti63 rfl rfl rfl rfl rfl ?_
        refine pu (v := .sc _) rfl rfl (fun _ => rfl) ?_
        refine RunC.fin ?_
        refine AWP.ret ?_
        have hR := Option.some.inj hR; subst hR
        exact hQ _ _ (LS.mk [(4, .ptr 0 0 0), (5, .sc (.int .i64 0))] (lblks 0 [boxB (α := stack_Stack) true (stack_Stack.mk r4.W r4.H (w6 (r4.N + 1)) z6.1 z6.2)]) 1) (.tup [aggV (α := stack_Stack) true (stack_Stack.mk r4.W r4.H (w6 (r4.N + 1)) z6.1 z6.2), .sc (.int .i64 0)]) [] (.inr rfl) (Weak.turnL [(3, 0)] [1, 2] rfl rfl (tc (trP' rfl rfl rfl rfl) (tc (.sc _) tn)) (mc rfl (.box rfl (.cons (.sc _) (.cons (.sc _) (.cons (.sc _) (.cons (trF' rfl rfl id rfl) (.cons (trF' rfl rfl id rfl) (.nil)))))) rfl) mn)) (ro2 (rvC (v := aggV (α := stack_Stack) true (stack_Stack.mk r4.W r4.H (w6 (r4.N + 1)) z6.1 z6.2)) rfl rfl ti63 rfl) (rvT (v := .sc (.int .i64 0)) rfl)) rfl rfl (.tup (.cons ldA (.cons (.sc _) .nil))) pn
theorem ok26 (w : Int) (h : Int) (r : stack_Stack × Int) (hR : stack_New w h = some r) : FnP Try.prog 26 [.sc (.int .i64 w), .sc (.int .i64 h)] (.tup [aggV (α := stack_Stack) true r.1, .sc (.int .i64 r.2)]) := by
  refine fnP_of (FnX.walk Try.func26 rfl 32 0 (by simp [Try.ntmps26]) rfl fun W S F Q hQ => ?_)
  unfold stack_New at hR
  refine AWP.sq ?_
  refine AWP.rgC 8 rfl rfl ?_
  refine al (cs := [.sc (.int .i64 0), .sc (.int .i64 0), .sc (.int .i64 0), .sc (.slice none 0 0), .sc (.slice none 0 0)]) 0 rfl rfl ti63 rfl rfl ?_
  refine pu (v := .sc _) rfl rfl (fun _ => rfl) ?_
  refine RunC.fin ?_
  refine AWP.sq ?_
  refine AWP.joinX (fun z1 : Bool => LS.mk [(0, .sc (.int .i64 w)), (1, .sc (.int .i64 h)), (4, .ptr 0 0 0), (19, .sc (.bool z1))] (lblks 0 [.box [.sc (.int .i64 0), .sc (.int .i64 0), .sc (.int .i64 0), .sc (.slice none 0 0), .sc (.slice none 0 0)]]) 1) hR (fun o1 hR => ?_) fun z1 hR => ?_
  · refine AWP.rgC 64 rfl rfl ?_
    refine pu (v := .sc _) rfl rfl (fun _ => rfl) ?_
    refine pu (v := .sc _) rfl rfl (fun _ => rfl) ?_
    refine pu (v := .sc _) rfl rfl (fun _ => rfl) ?_
    refine brR hR (fun h2 hR => ?_) fun h2 hR => ?_
    · refine sk (skW rfl rfl rfl h2) ?_
      refine sk (skW rfl rfl rfl h2) ?_
      refine pkT (v := .sc (.bool true)) rfl rfl h2 rfl ?_
      refine pu (v := .sc _) rfl rfl (fun _ => rfl) ?_
      refine sk (skW rfl rfl rfl rfl) ?_
      refine sk (skW rfl rfl rfl rfl) ?_
      refine pkT (v := .sc (.bool true)) rfl rfl rfl rfl ?_
      refine pu (v := .sc _) rfl rfl (fun _ => rfl) ?_
      refine sk (skW rfl rfl rfl rfl) ?_
      refine sk (skW rfl rfl rfl rfl) ?_
      refine pkT (v := .sc (.bool true)) rfl rfl rfl rfl ?_
      refine RunC.fin ?_
      have hR := Option.some.inj hR; subst hR
      exact Weak.turnL [(0, 0)] [] rfl rfl (tc (.sc _) (tc (.sc _) (tc (trP' rfl rfl rfl rfl) (tc (.sc _) tn)))) (mc rfl (.box rfl (.cons (.sc _) (.cons (.sc _) (.cons (.sc _) (.cons (.sc _) (.cons (.sc _) (.nil)))))) rfl) mn)
    · refine pu (v := .sc _) (wtG rfl rfl rfl h2) rfl (fun _ => rfl) ?_
      refine pu (v := .sc _) (wtG rfl rfl rfl h2) rfl (fun _ => rfl) ?_
      refine pkF (v := .sc (.bool (decide (w > 32)))) rfl rfl h2 rfl ?_
      refine pu (v := .sc _) rfl rfl (fun _ => rfl) ?_
      refine brR hR (fun h3 hR => ?_) fun h3 hR => ?_
      · refine sk (skW rfl rfl rfl h3) ?_
        refine sk (skW rfl rfl rfl h3) ?_
        refine pkT (v := .sc (.bool true)) rfl rfl h3 rfl ?_
        refine pu (v := .sc _) rfl rfl (fun _ => rfl) ?_
        refine sk (skW rfl rfl rfl rfl) ?_
        refine sk (skW rfl rfl rfl rfl) ?_
        refine pkT (v := .sc (.bool true)) rfl rfl rfl rfl ?_
        refine RunC.fin ?_
        have hR := Option.some.inj hR; subst hR
        exact Weak.turnL [(0, 0)] [] rfl rfl (tc (.sc _) (tc (.sc _) (tc (trP' rfl rfl rfl rfl) (tc (.sc _) tn)))) (mc rfl (.box rfl (.cons (.sc _) (.cons (.sc _) (.cons (.sc _) (.cons (.sc _) (.cons (.sc _) (.nil)))))) rfl) mn)
      · refine pu (v := .sc _) (wtG rfl rfl rfl h3) rfl (fun _ => rfl) ?_
        refine pu (v := .sc _) (wtG rfl rfl rfl h3) rfl (fun _ => rfl) ?_
        refine pkF (v := .sc (.bool (decide (h < 1)))) rfl rfl h3 rfl ?_
        refine pu (v := .sc _) rfl rfl (fun _ => rfl) ?_
        refine brR hR (fun h4 hR => ?_) fun h4 hR => ?_
        · refine sk (skW rfl rfl rfl h4) ?_
          refine sk (skW rfl rfl rfl h4) ?_
          refine pkT (v := .sc (.bool true)) rfl rfl h4 rfl ?_
          refine RunC.fin ?_
          have hR := Option.some.inj hR; subst hR
          exact Weak.turnL [(0, 0)] [] rfl rfl (tc (.sc _) (tc (.sc _) (tc (trP' rfl rfl rfl rfl) (tc (.sc _) tn)))) (mc rfl (.box rfl (.cons (.sc _) (.cons (.sc _) (.cons (.sc _) (.cons (.sc _) (.cons (.sc _) (.nil)))))) rfl) mn)
        · refine pu (v := .sc _) (wtG rfl rfl rfl h4) rfl (fun _ => rfl) ?_
          refine pu (v := .sc _) (wtG rfl rfl rfl h4) rfl (fun _ => rfl) ?_
          refine pkF (v := .sc (.bool (decide (h > 32)))) rfl rfl h4 rfl ?_
          refine RunC.fin ?_
          have hR := Option.some.inj hR; subst hR
          exact Weak.turnL [(0, 0)] [] rfl rfl (tc (.sc _) (tc (.sc _) (tc (trP' rfl rfl rfl rfl) (tc (.sc _) tn)))) (mc rfl (.box rfl (.cons (.sc _) (.cons (.sc _) (.cons (.sc _) (.cons (.sc _) (.cons (.sc _) (.nil)))))) rfl) mn)
  · refine AWP.cd hR rfl (fun h5 hR => ?_) fun h5 hR => ?_
    · refine AWP.sq ?_
      refine AWP.rgC 13 rfl rfl ?_
      refine bu (cs := [.sc (.int .i64 0), .sc (.int .i64 0), .sc (.int .i64 0), .sc (.slice none 0 0), .sc (.slice none 0 0)]) rfl bt63 rfl ?_
      refine stB (cs' := [.sc (.int .i64 0), .sc (.int .i64 0), .sc (.int .i64 0), .sc (.slice none 0 0), .sc (.slice none 0 0)]) rfl rfl rfl rfl ti63 rfl rfl rfl rfl rfl ?_
      refine pu (v := .sc _) rfl rfl (fun _ => rfl) ?_
      refine RunC.fin ?_
      refine AWP.ret ?_
      refine rtT ?_
      have hR := Option.some.inj hR; subst hR
      exact hQ _ _ (LS.mk [(4, .ptr 0 0 0), (5, .sc (.int .i64 3))] (lblks 0 [boxB (α := stack_Stack) true (stack_Stack.mk 0 0 0 [] [])]) 1) (.tup [aggV (α := stack_Stack) true (stack_Stack.mk 0 0 0 [] []), .sc (.int .i64 3)]) [] (.inr rfl) (Weak.turnL [(0, 0)] [] rfl rfl (tc (trP' rfl rfl rfl rfl) (tc (.sc _) tn)) (mc rfl (.box rfl (.cons (.sc _) (.cons (.sc _) (.cons (.sc _) (.cons trN (.cons trN (.nil)))))) rfl) mn)) (ro2 (rvC (v := aggV (α := stack_Stack) true (stack_Stack.mk 0 0 0 [] [])) rfl rfl ti63 rfl) (rvT (v := .sc (.int .i64 3)) rfl)) rfl rfl (.tup (.cons ldA (.cons (.sc _) .nil))) pn
    · refine AWP.skip ?_
      refine skT ?_
      refine AWP.sq ?_
      refine AWP.rgD 53 [0, 0, 0, 0, 12, 28, 0, 0, 192, 448, 1023, 2047, 4095] ⟨[], [none, none, none, none, none, none, none, none, none, none, none, some [0], none]⟩ hmix (by kernel_rfl) rfl rfl ?_
      refine pu (v := .sc _) rfl rfl (fun _ => rfl) ?_
      refine pu (v := .sc _) rfl rfl (fun _ => rfl) ?_
      refine pu (v := .sc _) rfl rfl (fun _ => rfl) ?_
      refine pu (v := .sc _) rfl rfl (fun _ => rfl) ?_
      refine pu (v := .sc _) rfl rfl (fun _ => rfl) ?_
      obtain ⟨h6, hR⟩ := chkE hR
      refine mk (α := Int) 21 true 0 rfl rfl rfl rfl ti22 rfl ti3 rfl rfl h6 ?_
      refine pu (v := .sc _) rfl rfl (fun _ => rfl) ?_
      refine pu (v := .sc _) rfl rfl (fun _ => rfl) ?_
      refine pu (v := .sc _) rfl rfl (fun _ => rfl) ?_
      obtain ⟨h7, hR⟩ := chkE hR
      refine mk (α := Bound) 37 true (Bound.mk 0 0 false) rfl rfl rfl rfl ti31 rfl ti43 rfl rfl h7 ?_
      refine bu (cs := [.sc (.int .i64 w), .sc (.int .i64 h), .sc (.int .i64 0), slV Int 21 0 0 (List.replicate (w6 (w * h)).toNat (0 : Int)).length, slV Bound 37 0 0 (List.replicate (w6 (w * h)).toNat (Bound.mk 0 0 false : Bound)).length]) rfl bt63 rfl ?_
      refine stB (cs' := [.sc (.int .i64 w), .sc (.int .i64 h), .sc (.int .i64 0), slV Int 21 0 0 (List.replicate (w6 (w * h)).toNat (0 : Int)).length, slV Bound 37 0 0 (List.replicate (w6 (w * h)).toNat (Bound.mk 0 0 false : Bound)).length]) rfl rfl rfl rfl ti63 rfl rfl rfl rfl rfl ?_
      refine pu (v := .sc _) rfl rfl (fun _ => rfl) ?_
      refine RunC.fin ?_
      refine AWP.ret ?_
      have hR := Option.some.inj hR; subst hR
      exact hQ _ _ (LS.mk [(4, .ptr 0 0 0), (5, .sc (.int .i64 0))] (lblks 0 [boxB (α := stack_Stack) true (stack_Stack.mk w h 0 (List.replicate (w6 (w * h)).toNat (0 : Int)) (List.replicate (w6 (w * h)).toNat (Bound.mk 0 0 false : Bound)))]) 1) (.tup [aggV (α := stack_Stack) true (stack_Stack.mk w h 0 (List.replicate (w6 (w * h)).toNat (0 : Int)) (List.replicate (w6 (w * h)).toNat (Bound.mk 0 0 false : Bound))), .sc (.int .i64 0)]) [] (.inr rfl) (Weak.turnL [(0, 0)] [21, 37] rfl rfl (tc (trP' rfl rfl rfl rfl) (tc (.sc _) tn)) (mc rfl (.box rfl (.cons (.sc _) (.cons (.sc _) (.cons (.sc _) (.cons (trF' rfl rfl id rfl) (.cons (trF' rfl rfl id rfl) (.nil)))))) rfl) mn)) (ro2 (rvC (v := aggV (α := stack_Stack) true (stack_Stack.mk w h 0 (List.replicate (w6 (w * h)).toNat (0 : Int)) (List.replicate (w6 (w * h)).toNat (Bound.mk 0 0 false : Bound)))) rfl rfl ti63 rfl) (rvT (v := .sc (.int .i64 0)) rfl)) rfl rfl (.tup (.cons ldA (.cons (.sc _) .nil))) pn
theorem ok31 (x : Int) (y : Int) (p2 : Int) (r : Int × Int) (hR : bound_Mul_1 x y p2 = some r) : FnP Try.prog 31 [.sc (.int .i64 x), .sc (.int .i64 y), .rp (Cl.c false p2)] (.tup [.sc (.int .i64 r.1), .sc (.int .i64 r.2)]) := by
  refine fnP_of (FnX.walk Try.func31 rfl 13 0 (by simp [Try.ntmps31]) rfl fun W S F Q hQ => ?_)
  unfold bound_Mul_1 at hR
  refine AWP.sq ?_
  refine AWP.rgC 8 rfl rfl ?_
  refine pu (v := .sc _) rfl rfl (fun _ => rfl) ?_
  refine pu (v := .sc _) rfl rfl (fun _ => rfl) ?_
  refine RunC.fin ?_
  refine AWP.sq ?_
  refine AWP.rgC 40 rfl rfl ?_
  refine pu (v := .sc _) rfl rfl (fun _ => rfl) ?_
  refine pu (v := .sc _) rfl rfl (fun _ => rfl) ?_
  refine ldR (v := .sc _) rfl rfl ti2 rfl ?_
  obtain ⟨r1, hr1, hR⟩ := bindE hR
  refine cls [] rfl rfl cb32 (ok32 x y p2 _ hr1) (.cons (.sc _) (.cons (.sc _) (.cons (.sc _) (.nil)))) (.inr rfl) rfl ?_
  refine pu (v := .sc _) rfl rfl (fun _ => rfl) ?_
  refine pu (v := .sc _) rfl rfl (fun _ => rfl) ?_
  refine pu (v := .sc _) rfl rfl (fun _ => rfl) ?_
  refine pu (v := .sc _) rfl rfl (fun _ => rfl) ?_
  refine RunC.fin ?_
  refine AWP.ret ?_
  have hR := Option.some.inj hR; subst hR
  exact hQ _ _ (LS.mk [(5, .sc (.int .i64 r1.1)), (6, .sc (.int .i64 r1.2))] (lblks 0 []) 0) (.tup [.sc (.int .i64 r1.1), .sc (.int .i64 r1.2)]) [] (.inr rfl) (Weak.turnL [] [] rfl rfl (tc (.sc _) (tc (.sc _) tn)) mn) (ro2 (rvT (v := .sc (.int .i64 r1.1)) rfl) (rvT (v := .sc (.int .i64 r1.2)) rfl)) rfl rfl (.tup (.cons (.sc _) (.cons (.sc _) .nil))) pn
theorem ok33 (x : Int) (y : Int) (p2 : Int) (r : Int × Int) (hR : bound_Mul_2 x y p2 = some r) : FnP Try.prog 33 [.sc (.int .i64 x), .sc (.int .i64 y), .rp (Cl.c false p2)] (.tup [.sc (.int .i64 r.1), .sc (.int .i64 r.2)]) := by
  refine fnP_of (FnX.walk Try.func33 rfl 13 0 (by simp [Try.ntmps33]) rfl fun W S F Q hQ => ?_)
  unfold bound_Mul_2 at hR
  refine AWP.sq ?_
  refine AWP.rgC 8 rfl rfl ?_
  refine pu (v := .sc _) rfl rfl (fun _ => rfl) ?_
  refine pu (v := .sc _) rfl rfl (fun _ => rfl) ?_
  refine RunC.fin ?_
  refine AWP.sq ?_
  refine AWP.rgC 40 rfl rfl ?_
  refine pu (v := .sc _) rfl rfl (fun _ => rfl) ?_
  refine pu (v := .sc _) rfl rfl (fun _ => rfl) ?_
  refine ldR (v := .sc _) rfl rfl ti2 rfl ?_
  obtain ⟨r1, hr1, hR⟩ := bindE hR
  refine cls [] rfl rfl cb34 (ok34 x y p2 _ hr1) (.cons (.sc _) (.cons (.sc _) (.cons (.sc _) (.nil)))) (.inr rfl) rfl ?_
  refine pu (v := .sc _) rfl rfl (fun _ => rfl) ?_
  refine pu (v := .sc _) rfl rfl (fun _ => rfl) ?_
  refine pu (v := .sc _) rfl rfl (fun _ => rfl) ?_
  refine pu (v := .sc _) rfl rfl (fun _ => rfl) ?_
  refine RunC.fin ?_
  refine AWP.ret ?_
  have hR := Option.some.inj hR; subst hR
  exact hQ _ _ (LS.mk [(5, .sc (.int .i64 r1.1)), (6, .sc (.int .i64 r1.2))] (lblks 0 []) 0) (.tup [.sc (.int .i64 r1.1), .sc (.int .i64 r1.2)]) [] (.inr rfl) (Weak.turnL [] [] rfl rfl (tc (.sc _) (tc (.sc _) tn)) mn) (ro2 (rvT (v := .sc (.int .i64 r1.1)) rfl) (rvT (v := .sc (.int .i64 r1.2)) rfl)) rfl rfl (.tup (.cons (.sc _) (.cons (.sc _) .nil))) pn
theorem ok30 (a : Bound) (b : Bound) (down_c0 : Int) (up_c0 : Int) (r : Bound) (hR : bound_corners_bound_Mul_1 a b down_c0 up_c0 = some r) : FnP Try.prog 30 [aggV false a, aggV false b, .fn (.func 31) [.rp (Cl.c false down_c0)], .fn (.func 33) [.rp (Cl.c false up_c0)]] (aggV (α := Bound) true r) := by
  refine fnP_of (FnX.walk Try.func30 rfl 71 0 (by simp [Try.ntmps30]) rfl fun W S F Q hQ => ?_)
  unfold bound_corners_bound_Mul_1 at hR
  refine AWP.sq ?_
  refine AWP.rgC 12 rfl rfl ?_
  refine bx (cs := _) 0 rfl rfl rfl ?_
  refine bx (cs := _) 4 rfl rfl rfl ?_
  refine al (cs := [.sc (.int .i64 0), .sc (.int .i64 0), .sc (.bool false)]) 8 rfl rfl ti43 rfl rfl ?_
  refine RunC.fin ?_
  refine AWP.sq ?_
  refine AWP.rgC 16 rfl rfl ?_
  refine pu (v := .sc _) rfl rfl (fun _ => rfl) ?_
  refine RunC.fin ?_
  refine AWP.sq ?_
  refine AWP.sq ?_
  refine AWP.rgC 44 rfl rfl ?_
  refine fa rfl rfl ti43 rfl rfl ti28 rfl ?_
  refine ldB (v := .sc _) rfl rfl rfl rfl ti28 rfl rfl ?_
  refine fa rfl rfl ti43 rfl rfl ti28 rfl ?_
  refine ldB (v := .sc _) rfl rfl rfl rfl ti28 rfl rfl ?_
  refine bs (α := Int) 32 true ([a.Lo, a.Hi] : List Int) rfl rfl ti27 rfl ti28 rfl rfl rfl rfl rfl ?_
  refine lenS (α := Int) rfl rfl ti27 rfl ?_
  refine pu (v := .sc _) rfl rfl (fun _ => rfl) ?_
  refine RunC.fin ?_
  refine AWP.nilT Int 9 28 rfl ?_
  refine AWP.loopK' (fun s1 : (List Int) × Int => LS.mk [(2, .fn (.func 31) [.rp (Cl.c false (down_c0 : Int))]), (3, .fn (.func 33) [.rp (Cl.c false (up_c0 : Int))]), (5, .ptr 0 0 0), (8, .ptr 1 0 0), (9, slV Int 2 0 0 s1.1.length), (22, slV Int 3 0 0 ([a.Lo, a.Hi] : List Int).length), (23, .sc (.int .i64 (([a.Lo, a.Hi] : List Int).length : Int))), (24, .sc (.int .i64 s1.2))] (lblks 0 [boxB (α := Bound) true b, boxB (α := Bound) true (Bound.mk 0 0 false), arrB (α := Int) 28 0 true s1.1, arrB (α := Int) 28 0 true ([a.Lo, a.Hi] : List Int)]) 4) (fun z2 : (List Int) => LS.mk [(8, .ptr 0 0 0), (9, slV Int 1 0 0 z2.length)] (lblks 0 [boxB (α := Bound) true (Bound.mk 0 0 false), arrB (α := Int) 28 0 true z2]) 2) (bound_corners_bound_Mul_1.l1 a b down_c0 up_c0) hR (s0 := (([] : List Int), 0)) (Weak.turnL [(4, 0), (8, 0), (44, 0), (32, 0)] [] rfl rfl (tc (.fn (.cons (.rp (Cl.tr _ _ _ _ id) (Cl.leaf _ _)) (.nil))) (tc (.fn (.cons (.rp (Cl.tr _ _ _ _ id) (Cl.leaf _ _)) (.nil))) (tc (trP' rfl rfl rfl rfl) (tc (trP' rfl rfl rfl rfl) (tc (trS' rfl rfl rfl rfl rfl) (tc (trS' rfl rfl rfl rfl rfl) (tc (.sc _) (tc (.sc _) tn)))))))) (mc rfl (.box rfl (.cons (.sc _) (.cons (.sc _) (.cons (.sc _) (.nil)))) rfl) (mc rfl (.box rfl (.cons (.sc _) (.cons (.sc _) (.cons (.sc _) (.nil)))) rfl) (mc rfl (btrA' rfl) (mc rfl (btrA' rfl) mn))))) (fun s1 o1 hR hE1 => ?_) fun z2 hR => ?_
  · unfold bound_corners_bound_Mul_1.l1 at hR
    refine AWP.sq ?_
    refine AWP.rgC 8 rfl rfl ?_
    refine pu (v := .sc _) rfl rfl (fun _ => rfl) ?_
    refine RunC.fin ?_
    refine AWP.sq ?_
    refine AWP.cd hR rfl (fun h3 hR => ?_) fun h3 hR => ?_
    · refine AWP.skip ?_
      refine skT ?_
      refine AWP.sq ?_
      refine AWP.block ?_
      refine AWP.sq ?_
      refine AWP.rgC 20 rfl rfl ?_
      obtain ⟨h4, hR⟩ := chkE hR
      refine ixS0 (α := Int) rfl rfl rfl ti27 rfl ti28 rfl h4 ?_
      refine ldE (α := Int) (v := .sc _) rfl rfl rfl (ixlt h4) ti28 rfl rfl rfl rfl ?_
      refine pu (v := .sc _) rfl rfl (fun _ => rfl) ?_
      refine RunC.fin ?_
      refine AWP.sq ?_
      refine AWP.rgC 48 rfl rfl ?_
      refine fa rfl rfl ti43 rfl rfl ti28 rfl ?_
      refine ldB (v := .sc _) rfl rfl rfl rfl ti28 rfl rfl ?_
      refine fa rfl rfl ti43 rfl rfl ti28 rfl ?_
      refine ldB (v := .sc _) rfl rfl rfl rfl ti28 rfl rfl ?_
      refine bs (α := Int) 36 true ([b.Lo, b.Hi] : List Int) rfl rfl ti27 rfl ti28 rfl rfl rfl rfl rfl ?_
      refine lenS (α := Int) rfl rfl ti27 rfl ?_
      refine pu (v := .sc _) rfl rfl (fun _ => rfl) ?_
      refine RunC.fin ?_
      refine AWP.loopK' (fun s5 : (List Int) × Int => LS.mk [(2, .fn (.func 31) [.rp (Cl.c false (down_c0 : Int))]), (3, .fn (.func 33) [.rp (Cl.c false (up_c0 : Int))]), (5, .ptr 0 0 0), (8, .ptr 1 0 0), (9, slV Int 2 0 0 s5.1.length), (11, .sc (.int .i64 (gt ([a.Lo, a.Hi] : List Int) s1.2))), (22, slV Int 3 0 0 ([a.Lo, a.Hi] : List Int).length), (23, .sc (.int .i64 (([a.Lo, a.Hi] : List Int).length : Int))), (24, .sc (.int .i64 s1.2)), (32, slV Int 4 0 0 ([b.Lo, b.Hi] : List Int).length), (33, .sc (.int .i64 (([b.Lo, b.Hi] : List Int).length : Int))), (34, .sc (.int .i64 s5.2))] (lblks 0 [boxB (α := Bound) true b, boxB (α := Bound) true (Bound.mk 0 0 false), arrB (α := Int) 28 0 true s5.1, arrB (α := Int) 28 0 true ([a.Lo, a.Hi] : List Int), arrB (α := Int) 28 0 true ([b.Lo, b.Hi] : List Int)]) 5) (fun z6 : (List Int) => LS.mk [(2, .fn (.func 31) [.rp (Cl.c false (down_c0 : Int))]), (3, .fn (.func 33) [.rp (Cl.c false (up_c0 : Int))]), (5, .ptr 0 0 0), (8, .ptr 1 0 0), (9, slV Int 2 0 0 z6.length), (22, slV Int 3 0 0 ([a.Lo, a.Hi] : List Int).length), (23, .sc (.int .i64 (([a.Lo, a.Hi] : List Int).length : Int))), (24, .sc (.int .i64 s1.2))] (lblks 0 [boxB (α := Bound) true b, boxB (α := Bound) true (Bound.mk 0 0 false), arrB (α := Int) 28 0 true z6, arrB (α := Int) 28 0 true ([a.Lo, a.Hi] : List Int)]) 4) (bound_corners_bound_Mul_1.l2 a b down_c0 up_c0 s1) hR (s0 := (s1.1, 0)) (Weak.turnL [(0, 0), (1, 0), (2, 0), (3, 0), (36, 0)] [] rfl rfl (tc (.fn (.cons (.rp (Cl.tr _ _ _ _ id) (Cl.leaf _ _)) (.nil))) (tc (.fn (.cons (.rp (Cl.tr _ _ _ _ id) (Cl.leaf _ _)) (.nil))) (tc (trP' rfl rfl rfl rfl) (tc (trP' rfl rfl rfl rfl) (tc (trS' rfl rfl rfl rfl rfl) (tc (.sc _) (tc (trS' rfl rfl rfl rfl rfl) (tc (.sc _) (tc (.sc _) (tc (trS' rfl rfl rfl rfl rfl) (tc (.sc _) (tc (.sc _) tn)))))))))))) (mc rfl (.box rfl (.cons (.sc _) (.cons (.sc _) (.cons (.sc _) (.nil)))) rfl) (mc rfl (.box rfl (.cons (.sc _) (.cons (.sc _) (.cons (.sc _) (.nil)))) rfl) (mc rfl (btrA' rfl) (mc rfl (btrA' rfl) (mc rfl (btrA' rfl) mn)))))) (fun s5 o5 hR hE5 => ?_) fun z6 hR => ?_
      · unfold bound_corners_bound_Mul_1.l2 at hR
        refine AWP.sq ?_
        refine AWP.rgC 9 rfl rfl ?_
        refine pu (v := .sc _) rfl rfl (fun _ => rfl) ?_
        refine RunC.fin ?_
        refine AWP.sq ?_
        refine AWP.cd hR rfl (fun h7 hR => ?_) fun h7 hR => ?_
        · refine AWP.skip ?_
          refine skT ?_
          refine AWP.sq ?_
          refine AWP.block ?_
          refine AWP.sq ?_
          refine AWP.rgC 21 rfl rfl ?_
          obtain ⟨h8, hR⟩ := chkE hR
          refine ixS0 (α := Int) rfl rfl rfl ti27 rfl ti28 rfl h8 ?_
          refine ldE (α := Int) (v := .sc _) rfl rfl rfl (ixlt h8) ti28 rfl rfl rfl rfl ?_
          refine pu (v := .sc _) rfl rfl (fun _ => rfl) ?_
          refine RunC.fin ?_
          refine AWP.sq ?_
          refine AWP.rgC 57 rfl rfl ?_
          refine pu (v := .fn _ _) rfl rfl (fun _ => rfl) ?_
          refine pu (v := .sc _) rfl rfl (fun _ => rfl) ?_
          refine pu (v := .sc _) rfl rfl (fun _ => rfl) ?_
          obtain ⟨r9, hr9, hR⟩ := bindE hR
          refine cls [] rfl rfl cb31 (ok31 (gt ([a.Lo, a.Hi] : List Int) s1.2) (gt ([b.Lo, b.Hi] : List Int) s5.2) down_c0 _ hr9) (.cons (.sc _) (.cons (.sc _) (.cons (.rp (Cl.ld _ _ _) (Cl.leaf _ _)) (.nil)))) (.inr rfl) rfl ?_
          refine pu (v := .tup _) rfl rfl (fun _ => rfl) ?_
          refine pu (v := .sc _) rfl rfl (fun _ => rfl) ?_
          refine pu (v := .sc _) rfl rfl (fun _ => rfl) ?_
          refine pu (v := .sc _) rfl rfl (fun _ => rfl) ?_
          refine pu (v := .sc _) rfl rfl (fun _ => rfl) ?_
          refine RunC.fin ?_
          refine AWP.sq ?_
          refine AWP.rgC 93 rfl rfl ?_
          refine pu (v := .fn _ _) rfl rfl (fun _ => rfl) ?_
          refine pu (v := .sc _) rfl rfl (fun _ => rfl) ?_
          refine pu (v := .sc _) rfl rfl (fun _ => rfl) ?_
          obtain ⟨r10, hr10, hR⟩ := bindE hR
          refine cls [] rfl rfl cb33 (ok33 (gt ([a.Lo, a.Hi] : List Int) s1.2) (gt ([b.Lo, b.Hi] : List Int) s5.2) up_c0 _ hr10) (.cons (.sc _) (.cons (.sc _) (.cons (.rp (Cl.ld _ _ _) (Cl.leaf _ _)) (.nil)))) (.inr rfl) rfl ?_
          refine pu (v := .tup _) rfl rfl (fun _ => rfl) ?_
          refine pu (v := .sc _) rfl rfl (fun _ => rfl) ?_
          refine pu (v := .sc _) rfl rfl (fun _ => rfl) ?_
          refine pu (v := .sc _) rfl rfl (fun _ => rfl) ?_
          refine pu (v := .sc _) rfl rfl (fun _ => rfl) ?_
          refine RunC.fin ?_
          refine AWP.sq ?_
          refine AWP.joinX (fun z11 : Bool => LS.mk [(2, .fn (.func 31) [.rp (Cl.c false (down_c0 : Int))]), (3, .fn (.func 33) [.rp (Cl.c false (up_c0 : Int))]), (5, .ptr 0 0 0), (8, .ptr 1 0 0), (9, slV Int 2 0 0 s5.1.length), (11, .sc (.int .i64 (gt ([a.Lo, a.Hi] : List Int) s1.2))), (14, .sc (.int .i64 r9.1)), (16, .sc (.int .i64 r10.1)), (22, slV Int 3 0 0 ([a.Lo, a.Hi] : List Int).length), (23, .sc (.int .i64 (([a.Lo, a.Hi] : List Int).length : Int))), (24, .sc (.int .i64 s1.2)), (32, slV Int 4 0 0 ([b.Lo, b.Hi] : List Int).length), (33, .sc (.int .i64 (([b.Lo, b.Hi] : List Int).length : Int))), (34, .sc (.int .i64 s5.2)), (57, .sc (.bool z11))] (lblks 0 [boxB (α := Bound) true b, boxB (α := Bound) true (Bound.mk 0 0 false), arrB (α := Int) 28 0 true s5.1, arrB (α := Int) 28 0 true ([a.Lo, a.Hi] : List Int), arrB (α := Int) 28 0 true ([b.Lo, b.Hi] : List Int)]) 5) hR (fun o11 hR => ?_) fun z11 hR => ?_
          · refine AWP.rgC 117 rfl rfl ?_
            refine pu (v := .sc _) rfl rfl (fun _ => rfl) ?_
            refine pu (v := .sc _) rfl rfl (fun _ => rfl) ?_
            refine pu (v := .sc _) rfl rfl (fun _ => rfl) ?_
            refine brR hR (fun h12 hR => ?_) fun h12 hR => ?_
            · refine sk (skW rfl rfl rfl h12) ?_
              refine sk (skW rfl rfl rfl h12) ?_
              refine pkT (v := .sc (.bool true)) rfl rfl h12 rfl ?_
              refine RunC.fin ?_
              have hR := Option.some.inj hR; subst hR
              exact Weak.turnL [(0, 0), (1, 0), (2, 0), (3, 0), (4, 0)] [] rfl rfl (tc (.fn (.cons (.rp (Cl.tr _ _ _ _ id) (Cl.leaf _ _)) (.nil))) (tc (.fn (.cons (.rp (Cl.tr _ _ _ _ id) (Cl.leaf _ _)) (.nil))) (tc (trP' rfl rfl rfl rfl) (tc (trP' rfl rfl rfl rfl) (tc (trS' rfl rfl rfl rfl rfl) (tc (.sc _) (tc (.sc _) (tc (.sc _) (tc (trS' rfl rfl rfl rfl rfl) (tc (.sc _) (tc (.sc _) (tc (trS' rfl rfl rfl rfl rfl) (tc (.sc _) (tc (.sc _) (tc (.sc _) tn))))))))))))))) (mc rfl (.box rfl (.cons (.sc _) (.cons (.sc _) (.cons (.sc _) (.nil)))) rfl) (mc rfl (.box rfl (.cons (.sc _) (.cons (.sc _) (.cons (.sc _) (.nil)))) rfl) (mc rfl (btrA' rfl) (mc rfl (btrA' rfl) (mc rfl (btrA' rfl) mn)))))
            · refine pu (v := .sc _) (wtG rfl rfl rfl h12) rfl (fun _ => rfl) ?_
              refine pu (v := .sc _) (wtG rfl rfl rfl h12) rfl (fun _ => rfl) ?_
              refine pkF (v := .sc (.bool (r10.2 != 0))) rfl rfl h12 rfl ?_
              refine RunC.fin ?_
              have hR := Option.some.inj hR; subst hR
              exact Weak.turnL [(0, 0), (1, 0), (2, 0), (3, 0), (4, 0)] [] rfl rfl (tc (.fn (.cons (.rp (Cl.tr _ _ _ _ id) (Cl.leaf _ _)) (.nil))) (tc (.fn (.cons (.rp (Cl.tr _ _ _ _ id) (Cl.leaf _ _)) (.nil))) (tc (trP' rfl rfl rfl rfl) (tc (trP' rfl rfl rfl rfl) (tc (trS' rfl rfl rfl rfl rfl) (tc (.sc _) (tc (.sc _) (tc (.sc _) (tc (trS' rfl rfl rfl rfl rfl) (tc (.sc _) (tc (.sc _) (tc (trS' rfl rfl rfl rfl rfl) (tc (.sc _) (tc (.sc _) (tc (.sc _) tn))))))))))))))) (mc rfl (.box rfl (.cons (.sc _) (.cons (.sc _) (.cons (.sc _) (.nil)))) rfl) (mc rfl (.box rfl (.cons (.sc _) (.cons (.sc _) (.cons (.sc _) (.nil)))) rfl) (mc rfl (btrA' rfl) (mc rfl (btrA' rfl) (mc rfl (btrA' rfl) mn)))))
          · refine AWP.cd hR rfl (fun h13 hR => ?_) fun h13 hR => ?_
            · refine AWP.sq ?_
              refine AWP.rgC 13 rfl rfl ?_
              obtain ⟨r14, hr14, hR⟩ := bindE hR
              refine cls [] rfl rfl cb21 (ok21 _ hr14) (.nil) (.inr rfl) rfl ?_
              refine stB (cs' := [.sc (.int .i64 r14.Lo), .sc (.int .i64 r14.Hi), .sc (.bool r14.Unknown)]) rfl rfl rfl rfl ti43 rfl rfl rfl rfl rfl ?_
              refine RunC.fin ?_
              refine AWP.ret ?_
              refine rtT ?_
              refine rtB ?_
              refine rtT ?_
              refine rtT ?_
              refine rtB (rtT ?_)
              replace hR := escL hR hE5
              refine rtB ?_
              refine rtT ?_
              refine rtT ?_
              refine rtB (rtT ?_)
              replace hR := escL hR hE1
              refine rtT ?_
              have hR := Option.some.inj hR; subst hR
              exact hQ _ _ (LS.mk [(8, .ptr 0 0 0)] (lblks 0 [boxB (α := Bound) true r14]) 1) (aggV (α := Bound) true r14) [] (.inr rfl) (Weak.turnL [(1, 0)] [] rfl rfl (tc (trP' rfl rfl rfl rfl) tn) (mc rfl (.box rfl (.cons (.sc _) (.cons (.sc _) (.cons (.sc _) (.nil)))) rfl) mn)) (ro1 (rvC (v := aggV (α := Bound) true r14) rfl rfl ti43 rfl)) rfl rfl ldA pn
            · refine AWP.skip ?_
              refine skT ?_
              refine AWP.rgC 29 rfl rfl ?_
              refine pu (v := slV Int _ _ _ _) rfl rfl (fun _ => rfl) ?_
              refine pu (v := .sc _) rfl rfl (fun _ => rfl) ?_
              refine pu (v := .sc _) rfl rfl (fun _ => rfl) ?_
              refine bs (α := Int) 17 true ([r9.1, r10.1] : List Int) rfl rfl ti27 rfl ti28 rfl rfl rfl rfl rfl ?_
              obtain ⟨h15, hR⟩ := chkE hR
              refine ap' (α := Int) (nw := true) (xs := s5.1) (ys := ([r9.1, r10.1] : List Int)) rfl rfl rfl rfl (srcS' rfl rfl rfl) ti27 rfl ti28 rfl h15 rfl ?_
              refine pu (v := slV Int _ _ _ _) rfl rfl (fun _ => rfl) ?_
              refine RunC.blk ?_
              refine RunC.fin ?_
              refine AWP.rgC 37 rfl rfl ?_
              refine pu (v := .sc _) rfl rfl (fun _ => rfl) ?_
              refine pu (v := .sc _) rfl rfl (fun _ => rfl) ?_
              refine RunC.fin ?_
              refine ⟨(s5.1 ++ ([r9.1, r10.1] : List Int), w6 (s5.2 + 1)), (Option.some.inj hR).symm, ?_⟩
              exact Weak.turnL [(0, 0), (1, 0), (2, 0), (3, 0), (4, 0)] [] rfl rfl (tc (.fn (.cons (.rp (Cl.tr _ _ _ _ id) (Cl.leaf _ _)) (.nil))) (tc (.fn (.cons (.rp (Cl.tr _ _ _ _ id) (Cl.leaf _ _)) (.nil))) (tc (trP' rfl rfl rfl rfl) (tc (trP' rfl rfl rfl rfl) (tc (trS' rfl rfl rfl rfl rfl) (tc (.sc _) (tc (trS' rfl rfl rfl rfl rfl) (tc (.sc _) (tc (.sc _) (tc (trS' rfl rfl rfl rfl rfl) (tc (.sc _) (tc (.sc _) tn)))))))))))) (mc rfl (.box rfl (.cons (.sc _) (.cons (.sc _) (.cons (.sc _) (.nil)))) rfl) (mc rfl (.box rfl (.cons (.sc _) (.cons (.sc _) (.cons (.sc _) (.nil)))) rfl) (mc rfl (btrA' rfl) (mc rfl (btrA' rfl) (mc rfl (btrA' rfl) mn)))))
        · refine AWP.exit ?_
          refine exT ?_
          refine exT ?_
          refine exH (skT ?_)
          refine ⟨s5.1, (Option.some.inj hR).symm, ?_⟩
          exact Weak.turnL [(0, 0), (1, 0), (2, 0), (3, 0)] [] rfl rfl (tc (.fn (.cons (.rp (Cl.tr _ _ _ _ id) (Cl.leaf _ _)) (.nil))) (tc (.fn (.cons (.rp (Cl.tr _ _ _ _ id) (Cl.leaf _ _)) (.nil))) (tc (trP' rfl rfl rfl rfl) (tc (trP' rfl rfl rfl rfl) (tc (trS' rfl rfl rfl rfl rfl) (tc (trS' rfl rfl rfl rfl rfl) (tc (.sc _) (tc (.sc _) tn)))))))) (mc rfl (.box rfl (.cons (.sc _) (.cons (.sc _) (.cons (.sc _) (.nil)))) rfl) (mc rfl (.box rfl (.cons (.sc _) (.cons (.sc _) (.cons (.sc _) (.nil)))) rfl) (mc rfl (btrA' rfl) (mc rfl (btrA' rfl) mn))))
      · refine skB ?_
        refine skT ?_
        refine AWP.rgC 12 rfl rfl ?_
        refine pu (v := .sc _) rfl rfl (fun _ => rfl) ?_
        refine pu (v := .sc _) rfl rfl (fun _ => rfl) ?_
        refine RunC.fin ?_
        refine ⟨(z6, w6 (s1.2 + 1)), (Option.some.inj hR).symm, ?_⟩
        exact Weak.turnL [(0, 0), (1, 0), (2, 0), (3, 0)] [] rfl rfl (tc (.fn (.cons (.rp (Cl.tr _ _ _ _ id) (Cl.leaf _ _)) (.nil))) (tc (.fn (.cons (.rp (Cl.tr _ _ _ _ id) (Cl.leaf _ _)) (.nil))) (tc (trP' rfl rfl rfl rfl) (tc (trP' rfl rfl rfl rfl) (tc (trS' rfl rfl rfl rfl rfl) (tc (trS' rfl rfl rfl rfl rfl) (tc (.sc _) (tc (.sc _) tn)))))))) (mc rfl (.box rfl (.cons (.sc _) (.cons (.sc _) (.cons (.sc _) (.nil)))) rfl) (mc rfl (.box rfl (.cons (.sc _) (.cons (.sc _) (.cons (.sc _) (.nil)))) rfl) (mc rfl (btrA' rfl) (mc rfl (btrA' rfl) mn))))
    · refine AWP.exit ?_
      refine exT ?_
      refine exT ?_
      refine exH (skT ?_)
      refine ⟨s1.1, (Option.some.inj hR).symm, ?_⟩
      exact Weak.turnL [(1, 0), (2, 0)] [] rfl rfl (tc (trP' rfl rfl rfl rfl) (tc (trS' rfl rfl rfl rfl rfl) tn)) (mc rfl (.box rfl (.cons (.sc _) (.cons (.sc _) (.cons (.sc _) (.nil)))) rfl) (mc rfl (btrA' rfl) mn))
  · refine skT ?_
    refine AWP.sq ?_
    refine AWP.rgC 26 rfl rfl ?_
    refine pu (v := slV Int _ _ _ _) rfl rfl (fun _ => rfl) ?_
    obtain ⟨r16, hr16, hR⟩ := bindE hR
    refine cls [1] rfl rfl cb39 (ok39 z2 _ hr16) (.cons (ldS' rfl rfl rfl rfl) (.nil)) (.inl (by first | rfl | exact freshR | exact freshA | (simp only [V.fresh, V.freshs, freshR, freshA, Bool.and_self]))) rfl ?_
    refine pu (v := slV Int _ _ _ _) rfl rfl (fun _ => rfl) ?_
    obtain ⟨r17, hr17, hR⟩ := bindE hR
    refine cls [1] rfl rfl cb40 (ok40 z2 _ hr17) (.cons (ldS' rfl rfl rfl rfl) (.nil)) (.inl (by first | rfl | exact freshR | exact freshA | (simp only [V.fresh, V.freshs, freshR, freshA, Bool.and_self]))) rfl ?_
    obtain ⟨r18, hr18, hR⟩ := bindE hR
    refine cls [] rfl rfl cb23 (ok23 r16 r17 _ hr18) (.cons (.sc _) (.cons (.sc _) (.nil))) (.inr rfl) rfl ?_
    refine stB (cs' := [.sc (.int .i64 r18.Lo), .sc (.int .i64 r18.Hi), .sc (.bool r18.Unknown)]) rfl rfl rfl rfl ti43 rfl rfl rfl rfl rfl ?_
    refine RunC.fin ?_
    refine AWP.ret ?_
    have hR := Option.some.inj hR; subst hR
    exact hQ _ _ (LS.mk [(8, .ptr 0 0 0)] (lblks 0 [boxB (α := Bound) true r18]) 1) (aggV (α := Bound) true r18) [] (.inr rfl) (Weak.turnL [(0, 0)] [] rfl rfl (tc (trP' rfl rfl rfl rfl) tn) (mc rfl (.box rfl (.cons (.sc _) (.cons (.sc _) (.cons (.sc _) (.nil)))) rfl) mn)) (ro1 (rvC (v := aggV (α := Bound) true r18) rfl rfl ti43 rfl)) rfl rfl ldA pn
theorem ok24 (a : Bound) (b : Bound) (unit : Int) (r : Bound) (hR : bound_Mul a b unit = some r) : FnP Try.prog 24 [aggV false a, aggV false b, .sc (.int .i64 unit)] (aggV (α := Bound) true r) := by
  refine fnP_of (FnX.walk Try.func24 rfl 20 0 (by simp [Try.ntmps24]) rfl fun W S F Q hQ => ?_)
  unfold bound_Mul at hR
  refine AWP.sq ?_
  refine AWP.rgC 16 rfl rfl ?_
  refine bx (cs := _) 0 rfl rfl rfl ?_
  refine bx (cs := _) 4 rfl rfl rfl ?_
  refine bx (cs := [.sc (.int .i64 unit)]) 8 rfl rfl rfl ?_
  refine al (cs := [.sc (.int .i64 0), .sc (.int .i64 0), .sc (.bool false)]) 12 rfl rfl ti43 rfl rfl ?_
  refine RunC.fin ?_
  refine AWP.sq ?_
  refine AWP.joinX (fun z1 : Bool => LS.mk [(3, .ptr 0 0 0), (4, .ptr 1 0 0), (5, .ptr 2 0 0), (6, .ptr 3 0 0), (13, .sc (.bool z1))] (lblks 0 [boxB (α := Bound) true a, boxB (α := Bound) true b, boxB (α := Int) true unit, boxB (α := Bound) true (Bound.mk 0 0 false)]) 4) hR (fun o1 hR => ?_) fun z1 hR => ?_
  · refine AWP.rgC 44 rfl rfl ?_
    refine ldB (v := .agg _) rfl rfl rfl rfl ti43 rfl rfl ?_
    refine ldB (v := .agg _) rfl rfl rfl rfl ti43 rfl rfl ?_
    obtain ⟨r2, hr2, hR⟩ := bindE hR
    refine cls [] rfl rfl cb22 (ok22 a b _ hr2) (.cons (.agg (.cons (.sc _) (.cons (.sc _) (.cons (.sc _) (.nil)))) rfl) (.cons (.agg (.cons (.sc _) (.cons (.sc _) (.cons (.sc _) (.nil)))) rfl) (.nil))) (.inr rfl) rfl ?_
    refine pu (v := .sc _) rfl rfl (fun _ => rfl) ?_
    refine brR hR (fun h3 hR => ?_) fun h3 hR => ?_
    · refine sk (skW rfl rfl rfl h3) ?_
      refine sk (skW rfl rfl rfl h3) ?_
      refine pkT (v := .sc (.bool true)) rfl rfl h3 rfl ?_
      refine RunC.fin ?_
      have hR := Option.some.inj hR; subst hR
      exact Weak.turnL [(0, 0), (4, 0), (8, 0), (12, 0)] [] rfl rfl (tc (trP' rfl rfl rfl rfl) (tc (trP' rfl rfl rfl rfl) (tc (trP' rfl rfl rfl rfl) (tc (trP' rfl rfl rfl rfl) (tc (.sc _) tn))))) (mc rfl (.box rfl (.cons (.sc _) (.cons (.sc _) (.cons (.sc _) (.nil)))) rfl) (mc rfl (.box rfl (.cons (.sc _) (.cons (.sc _) (.cons (.sc _) (.nil)))) rfl) (mc rfl (.box rfl (.cons (.sc _) (.nil)) rfl) (mc rfl (.box rfl (.cons (.sc _) (.cons (.sc _) (.cons (.sc _) (.nil)))) rfl) mn))))
    · refine ldB (v := .sc _) (wtG rfl rfl rfl h3) rfl rfl rfl ti2 rfl rfl ?_
      refine pu (v := .sc _) (wtG rfl rfl rfl h3) rfl (fun _ => rfl) ?_
      refine pkF (v := .sc (.bool (decide (unit < 1)))) rfl rfl h3 rfl ?_
      refine RunC.fin ?_
      have hR := Option.some.inj hR; subst hR
      exact Weak.turnL [(0, 0), (4, 0), (8, 0), (12, 0)] [] rfl rfl (tc (trP' rfl rfl rfl rfl) (tc (trP' rfl rfl rfl rfl) (tc (trP' rfl rfl rfl rfl) (tc (trP' rfl rfl rfl rfl) (tc (.sc _) tn))))) (mc rfl (.box rfl (.cons (.sc _) (.cons (.sc _) (.cons (.sc _) (.nil)))) rfl) (mc rfl (.box rfl (.cons (.sc _) (.cons (.sc _) (.cons (.sc _) (.nil)))) rfl) (mc rfl (.box rfl (.cons (.sc _) (.nil)) rfl) (mc rfl (.box rfl (.cons (.sc _) (.cons (.sc _) (.cons (.sc _) (.nil)))) rfl) mn))))
  · refine AWP.cd hR rfl (fun h4 hR => ?_) fun h4 hR => ?_
    · refine AWP.sq ?_
      refine AWP.rgC 12 rfl rfl ?_
      obtain ⟨r5, hr5, hR⟩ := bindE hR
      refine cls [] rfl rfl cb21 (ok21 _ hr5) (.nil) (.inr rfl) rfl ?_
      refine stB (cs' := [.sc (.int .i64 r5.Lo), .sc (.int .i64 r5.Hi), .sc (.bool r5.Unknown)]) rfl rfl rfl rfl ti43 rfl rfl rfl rfl rfl ?_
      refine RunC.fin ?_
      refine AWP.ret ?_
      refine rtT ?_
      have hR := Option.some.inj hR; subst hR
      exact hQ _ _ (LS.mk [(6, .ptr 0 0 0)] (lblks 0 [boxB (α := Bound) true r5]) 1) (aggV (α := Bound) true r5) [] (.inr rfl) (Weak.turnL [(3, 0)] [] rfl rfl (tc (trP' rfl rfl rfl rfl) tn) (mc rfl (.box rfl (.cons (.sc _) (.cons (.sc _) (.cons (.sc _) (.nil)))) rfl) mn)) (ro1 (rvC (v := aggV (α := Bound) true r5) rfl rfl ti43 rfl)) rfl rfl ldA pn
    · refine AWP.skip ?_
      refine skT ?_
      refine AWP.sq ?_
      refine AWP.rgC 28 rfl rfl ?_
      refine ldB (v := .agg _) rfl rfl rfl rfl ti43 rfl rfl ?_
      refine ldB (v := .agg _) rfl rfl rfl rfl ti43 rfl rfl ?_
      refine pu (v := .fn _ _) rfl rfl (fun _ => rfl) ?_
      refine pu (v := .fn _ _) rfl rfl (fun _ => rfl) ?_
      obtain ⟨r6, hr6, hR⟩ := bindE hR
      refine cls [2] rfl rfl cb30 (ok30 a b unit unit _ hr6) (.cons (.agg (.cons (.sc _) (.cons (.sc _) (.cons (.sc _) (.nil)))) rfl) (.cons (.agg (.cons (.sc _) (.cons (.sc _) (.cons (.sc _) (.nil)))) rfl) (.cons (.fn (.cons (ldX rfl rfl (.cons (.sc _) (.nil)) rfl) (.nil))) (.cons (.fn (.cons (ldX rfl rfl (.cons (.sc _) (.nil)) rfl) (.nil))) (.nil))))) (.inl (by first | rfl | exact freshR | exact freshA | (simp only [V.fresh, V.freshs, freshR, freshA, Bool.and_self]))) rfl ?_
      refine stB (cs' := [.sc (.int .i64 r6.Lo), .sc (.int .i64 r6.Hi), .sc (.bool r6.Unknown)]) rfl rfl rfl rfl ti43 rfl rfl rfl rfl rfl ?_
      refine RunC.fin ?_
      refine AWP.ret ?_
      have hR := Option.some.inj hR; subst hR
      exact hQ _ _ (LS.mk [(6, .ptr 0 0 0)] (lblks 0 [boxB (α := Bound) true r6]) 1) (aggV (α := Bound) true r6) [] (.inr rfl) (Weak.turnL [(3, 0)] [] rfl rfl (tc (trP' rfl rfl rfl rfl) tn) (mc rfl (.box rfl (.cons (.sc _) (.cons (.sc _) (.cons (.sc _) (.nil)))) rfl) mn)) (ro1 (rvC (v := aggV (α := Bound) true r6) rfl rfl ti43 rfl)) rfl rfl ldA pn
theorem ok25 (v : Int) (r : Bound) (hR : bound_Exact v = some r) : FnP Try.prog 25 [.sc (.int .i64 v)] (aggV (α := Bound) true r) := by
  refine fnP_of (FnX.walk Try.func25 rfl 6 0 (by simp [Try.ntmps25]) rfl fun W S F Q hQ => ?_)
  unfold bound_Exact at hR
  refine AWP.sq ?_
  refine AWP.rgC 4 rfl rfl ?_
  refine al (cs := [.sc (.int .i64 0), .sc (.int .i64 0), .sc (.bool false)]) 0 rfl rfl ti43 rfl rfl ?_
  refine RunC.fin ?_
  refine AWP.sq ?_
  refine AWP.rgC 20 rfl rfl ?_
  refine pu (v := .sc _) rfl rfl (fun _ => rfl) ?_
  refine pu (v := .sc _) rfl rfl (fun _ => rfl) ?_
  obtain ⟨r1, hr1, hR⟩ := bindE hR
  refine cls [] rfl rfl cb23 (ok23 v v _ hr1) (.cons (.sc _) (.cons (.sc _) (.nil))) (.inr rfl) rfl ?_
  refine stB (cs' := [.sc (.int .i64 r1.Lo), .sc (.int .i64 r1.Hi), .sc (.bool r1.Unknown)]) rfl rfl rfl rfl ti43 rfl rfl rfl rfl rfl ?_
  refine RunC.fin ?_
  refine AWP.ret ?_
  have hR := Option.some.inj hR; subst hR
  exact hQ _ _ (LS.mk [(2, .ptr 0 0 0)] (lblks 0 [boxB (α := Bound) true r1]) 1) (aggV (α := Bound) true r1) [] (.inr rfl) (Weak.turnL [(0, 0)] [] rfl rfl (tc (trP' rfl rfl rfl rfl) tn) (mc rfl (.box rfl (.cons (.sc _) (.cons (.sc _) (.cons (.sc _) (.nil)))) rfl) mn)) (ro1 (rvC (v := aggV (α := Bound) true r1) rfl rfl ti43 rfl)) rfl rfl ldA pn
theorem ok19 (s1_ : List Bound) (s2_ : List Bound) (r : Bool) (hR : slices_Equal_Bound s1_ s2_ = some r) : FnP Try.prog 19 [rowV false s1_, rowV false s2_] (.sc (.bool r)) := by
  refine fnP_of (FnX.walk Try.func19 rfl 26 0 (by simp [Try.ntmps19]) rfl fun W S F Q hQ => ?_)
  unfold slices_Equal_Bound at hR
  refine AWP.sq ?_
  refine AWP.rgC 4 rfl rfl ?_
  refine pu (v := .sc _) rfl rfl (fun _ => rfl) ?_
  refine RunC.fin ?_
  refine AWP.sq ?_
  refine AWP.sq ?_
  refine AWP.rgC 24 rfl rfl ?_
  refine pu (v := rowV _ s1_) rfl rfl (fun _ => rfl) ?_
  refine lenL (α := Bound) rfl rfl ti31 rfl ?_
  refine pu (v := rowV _ s2_) rfl rfl (fun _ => rfl) ?_
  refine lenL (α := Bound) rfl rfl ti31 rfl ?_
  refine pu (v := .sc _) rfl rfl (fun _ => rfl) ?_
  refine RunC.fin ?_
  refine AWP.cd hR rfl (fun h1 hR => ?_) fun h1 hR => ?_
  · refine AWP.sq ?_
    refine AWP.rgC 28 rfl rfl ?_
    refine pu (v := .sc _) rfl rfl (fun _ => rfl) ?_
    refine RunC.fin ?_
    refine AWP.ret ?_
    refine rtT ?_
    have hR := Option.some.inj hR; subst hR
    exact hQ _ _ (LS.mk [(4, .sc (.bool false))] (lblks 0 []) 0) (.sc (.bool false)) [] (.inr rfl) (Weak.turnL [] [] rfl rfl (tc (.sc _) tn) mn) (ro1 (rvT (v := .sc (.bool false)) rfl)) rfl rfl (.sc _) pn
  · refine AWP.skip ?_
    refine skT ?_
    refine AWP.sq ?_
    refine AWP.sq ?_
    refine AWP.rgC 36 rfl rfl ?_
    refine pu (v := rowV _ s1_) rfl rfl (fun _ => rfl) ?_
    refine lenL (α := Bound) rfl rfl ti31 rfl ?_
    refine pu (v := .sc _) rfl rfl (fun _ => rfl) ?_
    refine RunC.fin ?_
    refine AWP.loopK' (fun s2 : Int => LS.mk [(0, rowV (α := Bound) false s1_), (1, rowV (α := Bound) false s2_), (12, .sc (.int .i64 (s1_.length : Int))), (13, .sc (.int .i64 s2))] (lblks 0 []) 0) (fun z3 : Unit => LS.mk [] (lblks 0 []) 0) (slices_Equal_Bound.l1 s1_ s2_) hR (s0 := 0) (Weak.turnL [] [] rfl rfl (tc trR1 (tc trR1 (tc (.sc _) (tc (.sc _) tn)))) mn) (fun s2 o2 hR hE2 => ?_) fun z3 hR => ?_
    · unfold slices_Equal_Bound.l1 at hR
      refine AWP.sq ?_
      refine AWP.rgC 4 rfl rfl ?_
      refine pu (v := .sc _) rfl rfl (fun _ => rfl) ?_
      refine RunC.fin ?_
      refine AWP.sq ?_
      refine AWP.cd hR rfl (fun h4 hR => ?_) fun h4 hR => ?_
      · refine AWP.skip ?_
        refine skT ?_
        refine AWP.sq ?_
        refine AWP.block ?_
        refine AWP.sq ?_
        refine AWP.rgC 12 rfl rfl ?_
        refine pu (v := .sc _) rfl rfl (fun _ => rfl) ?_
        refine pu (v := .sc _) rfl rfl (fun _ => rfl) ?_
        refine RunC.fin ?_
        refine AWP.sq ?_
        refine AWP.rgD 48 [0, 0, 3, 7, 0, 0, 48, 112, 255] ⟨[], [none, none, none, some [], none, none, none, some [], none]⟩ hmix (by kernel_rfl) rfl rfl ?_
        refine pu (v := rowV _ s1_) rfl rfl (fun _ => rfl) ?_
        refine pu (v := .sc _) rfl rfl (fun _ => rfl) ?_
        obtain ⟨h5, hR⟩ := chkE hR
        refine ixL (α := Bound) rfl rfl rfl ti31 rfl ti43 rfl h5 ?_
        refine ldR (v := .agg _) rfl rfl ti43 rfl ?_
        refine pu (v := rowV _ s2_) rfl rfl (fun _ => rfl) ?_
        refine pu (v := .sc _) rfl rfl (fun _ => rfl) ?_
        obtain ⟨h6, hR⟩ := chkE hR
        refine ixL (α := Bound) rfl rfl rfl ti31 rfl ti43 rfl h6 ?_
        refine ldR (v := .agg _) rfl rfl ti43 rfl ?_
        refine ns (cs := [.sc (.int .i64 (gt s1_ s2).Lo), .sc (.int .i64 (gt s1_ s2).Hi), .sc (.bool (gt s1_ s2).Unknown)]) (ds := [.sc (.int .i64 (gt s2_ s2).Lo), .sc (.int .i64 (gt s2_ s2).Hi), .sc (.bool (gt s2_ s2).Unknown)]) rfl rfl rfl qa43 qg43 (qe43 _ _ _ _ _ _) ?_
        refine RunC.fin ?_
        refine AWP.cd hR rfl (fun h7 hR => ?_) fun h7 hR => ?_
        · refine AWP.sq ?_
          refine AWP.rgC 52 rfl rfl ?_
          refine pu (v := .sc _) rfl rfl (fun _ => rfl) ?_
          refine RunC.fin ?_
          refine AWP.ret ?_
          refine rtB ?_
          refine rtT ?_
          refine rtT ?_
          refine rtB (rtT ?_)
          replace hR := escL hR hE2
          refine rtT ?_
          have hR := Option.some.inj hR; subst hR
          exact hQ _ _ (LS.mk [(4, .sc (.bool false))] (lblks 0 []) 0) (.sc (.bool false)) [] (.inr rfl) (Weak.turnL [] [] rfl rfl (tc (.sc _) tn) mn) (ro1 (rvT (v := .sc (.bool false)) rfl)) rfl rfl (.sc _) pn
        · refine AWP.skip ?_
          refine skB ?_
          refine skT ?_
          refine AWP.rgC 56 rfl rfl ?_
          refine pu (v := .sc _) rfl rfl (fun _ => rfl) ?_
          refine pu (v := .sc _) rfl rfl (fun _ => rfl) ?_
          refine RunC.fin ?_
          refine ⟨(w6 (s2 + 1)), (Option.some.inj hR).symm, ?_⟩
          exact Weak.turnL [] [] rfl rfl (tc trR1 (tc trR1 (tc (.sc _) (tc (.sc _) tn)))) mn
      · refine AWP.exit ?_
        refine exT ?_
        refine exT ?_
        refine exH (skT ?_)
        refine ⟨(), (Option.some.inj hR).symm, ?_⟩
        exact Weak.turnL [] [] rfl rfl tn mn
    · refine skT ?_
      refine AWP.sq ?_
      refine AWP.rgC 4 rfl rfl ?_
      refine pu (v := .sc _) rfl rfl (fun _ => rfl) ?_
      refine RunC.fin ?_
      refine AWP.ret ?_
      have hR := Option.some.inj hR; subst hR
      exact hQ _ _ (LS.mk [(4, .sc (.bool true))] (lblks 0 []) 0) (.sc (.bool true)) [] (.inr rfl) (Weak.turnL [] [] rfl rfl (tc (.sc _) tn) mn) (ro1 (rvT (v := .sc (.bool true)) rfl)) rfl rfl (.sc _) pn
theorem ok18 (l : List Cells) (r : Cells × Int) (hR : stack_All l = some r) : FnP Try.prog 18 [rowV false l] (.tup [aggV (α := Cells) true r.1, .sc (.int .i64 r.2)]) := by
  refine fnP_of (FnX.walk Try.func18 rfl 53 0 (by simp [Try.ntmps18]) rfl fun W S F Q hQ => ?_)
  unfold stack_All at hR
  refine AWP.sq ?_
  refine AWP.rgC 8 rfl rfl ?_
  refine al (cs := [.sc (.int .i64 0), .sc (.int .i64 0), .sc (.slice none 0 0)]) 0 rfl rfl ti33 rfl rfl ?_
  refine pu (v := .sc _) rfl rfl (fun _ => rfl) ?_
  refine RunC.fin ?_
  refine AWP.sq ?_
  refine AWP.sq ?_
  refine AWP.rgC 20 rfl rfl ?_
  refine pu (v := rowV _ l) rfl rfl (fun _ => rfl) ?_
  refine lenL (α := Cells) rfl rfl ti54 rfl ?_
  refine pu (v := .sc _) rfl rfl (fun _ => rfl) ?_
  refine RunC.fin ?_
  refine AWP.cd hR rfl (fun h1 hR => ?_) fun h1 hR => ?_
  · refine AWP.sq ?_
    refine AWP.rgC 32 rfl rfl ?_
    refine bu (cs := [.sc (.int .i64 0), .sc (.int .i64 0), .sc (.slice none 0 0)]) rfl bt33 rfl ?_
    refine stB (cs' := [.sc (.int .i64 0), .sc (.int .i64 0), .sc (.slice none 0 0)]) rfl rfl rfl rfl ti33 rfl rfl rfl rfl rfl ?_
    refine pu (v := .sc _) rfl rfl (fun _ => rfl) ?_
    refine RunC.fin ?_
    refine AWP.ret ?_
    refine rtT ?_
    have hR := Option.some.inj hR; subst hR
    exact hQ _ _ (LS.mk [(2, .ptr 0 0 0), (3, .sc (.int .i64 8))] (lblks 0 [boxB (α := Cells) true (Cells.mk 0 0 [])]) 1) (.tup [aggV (α := Cells) true (Cells.mk 0 0 []), .sc (.int .i64 8)]) [] (.inr rfl) (Weak.turnL [(0, 0)] [] rfl rfl (tc (trP' rfl rfl rfl rfl) (tc (.sc _) tn)) (mc rfl (.box rfl (.cons (.sc _) (.cons (.sc _) (.cons trN (.nil)))) rfl) mn)) (ro2 (rvC (v := aggV (α := Cells) true (Cells.mk 0 0 [])) rfl rfl ti33 rfl) (rvT (v := .sc (.int .i64 8)) rfl)) rfl rfl (.tup (.cons ldA (.cons (.sc _) .nil))) pn
  · refine AWP.skip ?_
    refine skT ?_
    refine AWP.sq ?_
    refine AWP.sq ?_
    refine AWP.rgC 32 rfl rfl ?_
    refine pu (v := rowV _ l) rfl rfl (fun _ => rfl) ?_
    refine lenL (α := Cells) rfl rfl ti54 rfl ?_
    refine pu (v := .sc _) rfl rfl (fun _ => rfl) ?_
    refine RunC.fin ?_
    refine AWP.cd hR rfl (fun h2 hR => ?_) fun h2 hR => ?_
    · refine AWP.sq ?_
      refine AWP.rgC 44 rfl rfl ?_
      refine bu (cs := [.sc (.int .i64 0), .sc (.int .i64 0), .sc (.slice none 0 0)]) rfl bt33 rfl ?_
      refine stB (cs' := [.sc (.int .i64 0), .sc (.int .i64 0), .sc (.slice none 0 0)]) rfl rfl rfl rfl ti33 rfl rfl rfl rfl rfl ?_
      refine pu (v := .sc _) rfl rfl (fun _ => rfl) ?_
      refine RunC.fin ?_
      refine AWP.ret ?_
      refine rtT ?_
      have hR := Option.some.inj hR; subst hR
      exact hQ _ _ (LS.mk [(2, .ptr 0 0 0), (3, .sc (.int .i64 2))] (lblks 0 [boxB (α := Cells) true (Cells.mk 0 0 [])]) 1) (.tup [aggV (α := Cells) true (Cells.mk 0 0 []), .sc (.int .i64 2)]) [] (.inr rfl) (Weak.turnL [(0, 0)] [] rfl rfl (tc (trP' rfl rfl rfl rfl) (tc (.sc _) tn)) (mc rfl (.box rfl (.cons (.sc _) (.cons (.sc _) (.cons trN (.nil)))) rfl) mn)) (ro2 (rvC (v := aggV (α := Cells) true (Cells.mk 0 0 [])) rfl rfl ti33 rfl) (rvT (v := .sc (.int .i64 2)) rfl)) rfl rfl (.tup (.cons ldA (.cons (.sc _) .nil))) pn
    · refine AWP.skip ?_
      refine skT ?_
      refine AWP.sq ?_
      refine AWP.rgD 92 [0, 1, 3, 7, 0, 16, 48, 112, 255, 511, 1023, 1023, 0, 6143, 16383] ⟨[], [none, none, none, some [], none, none, none, some [], none, none, none, none, none, some [80], none]⟩ hmix (by kernel_rfl) rfl rfl ?_
      refine pu (v := rowV _ l) rfl rfl (fun _ => rfl) ?_
      obtain ⟨h3, hR⟩ := chkE hR
      refine ixL (α := Cells) rfl rfl rfl ti54 rfl ti33 rfl h3 ?_
      refine fr rfl rfl ti33 rfl rfl ti3 rfl ?_
      refine ldR (v := .sc _) rfl rfl ti3 rfl ?_
      refine pu (v := rowV _ l) rfl rfl (fun _ => rfl) ?_
      refine ixL (α := Cells) rfl rfl rfl ti54 rfl ti33 rfl h3 ?_
      refine fr rfl rfl ti33 rfl rfl ti3 rfl ?_
      refine ldR (v := .sc _) rfl rfl ti3 rfl ?_
      obtain ⟨r4, hr4, hR⟩ := bindE hR
      refine cls [] rfl rfl cb26 (ok26 (gt l 0).W (gt l 0).H _ hr4) (.cons (.sc _) (.cons (.sc _) (.nil))) (.inr rfl) rfl ?_
      refine pu (v := .tup _) rfl rfl (fun _ => rfl) ?_
      refine pu (v := .agg _) rfl rfl (fun _ => rfl) ?_
      refine pu (v := .sc _) rfl rfl (fun _ => rfl) ?_
      refine al (cs := [.sc (.int .i64 0), .sc (.int .i64 0), .sc (.int .i64 0), .sc (.slice none 0 0), .sc (.slice none 0 0)]) 80 rfl rfl ti63 rfl rfl ?_
      refine stB (cs' := [.sc (.int .i64 r4.1.W), .sc (.int .i64 r4.1.H), .sc (.int .i64 r4.1.N), rowV (α := Int) true r4.1.Holes, rowV (α := Bound) true r4.1.At]) rfl rfl rfl rfl ti63 rfl rfl rfl rfl rfl ?_
      refine pu (v := .sc _) rfl rfl (fun _ => rfl) ?_
      refine RunC.fin ?_
      refine AWP.sq ?_
      refine AWP.sq ?_
      refine AWP.rgC 104 rfl rfl ?_
      refine pu (v := rowV _ l) rfl rfl (fun _ => rfl) ?_
      refine lenL (α := Cells) rfl rfl ti54 rfl ?_
      refine pu (v := .sc _) rfl rfl (fun _ => rfl) ?_
      refine RunC.fin ?_
      refine AWP.loopK' (fun s5 : stack_Stack × Int × Int => LS.mk [(2, .ptr 0 0 0), (4, .ptr 1 0 0), (5, .sc (.int .i64 s5.2.1)), (28, rowV (α := Cells) false l), (29, .sc (.int .i64 (l.length : Int))), (30, .sc (.int .i64 s5.2.2))] (lblks 0 [.box [.sc (.int .i64 0), .sc (.int .i64 0), .sc (.slice none 0 0)], boxB (α := stack_Stack) true s5.1]) 2) (fun z6 : stack_Stack × Int => LS.mk [(2, .ptr 0 0 0), (4, .ptr 1 0 0), (5, .sc (.int .i64 z6.2))] (lblks 0 [.box [.sc (.int .i64 0), .sc (.int .i64 0), .sc (.slice none 0 0)], boxB (α := stack_Stack) true z6.1]) 2) (stack_All.l1 l) hR (s0 := (r4.1, r4.2, 0)) (Weak.turnL [(0, 0), (80, 0)] [] rfl rfl (tc (trP' rfl rfl rfl rfl) (tc (trP' rfl rfl rfl rfl) (tc (.sc _) (tc trR1 (tc (.sc _) (tc (.sc _) tn)))))) (mc rfl (.box rfl (.cons (.sc _) (.cons (.sc _) (.cons (.sc _) (.nil)))) rfl) (mc rfl (.box rfl (.cons (.sc _) (.cons (.sc _) (.cons (.sc _) (.cons trR1 (.cons trR1 (.nil)))))) rfl) mn))) (fun s5 o5 hR hE5 => ?_) fun z6 hR => ?_
      · unfold stack_All.l1 at hR
        refine AWP.sq ?_
        refine AWP.rgC 6 rfl rfl ?_
        refine pu (v := .sc _) rfl rfl (fun _ => rfl) ?_
        refine RunC.fin ?_
        refine AWP.sq ?_
        refine AWP.cd hR rfl (fun h7 hR => ?_) fun h7 hR => ?_
        · refine AWP.skip ?_
          refine skT ?_
          refine AWP.sq ?_
          refine AWP.block ?_
          refine AWP.sq ?_
          refine AWP.rgC 22 rfl rfl ?_
          obtain ⟨h8, hR⟩ := chkE hR
          refine ixL (α := Cells) rfl rfl rfl ti54 rfl ti33 rfl h8 ?_
          refine ldR (v := .agg _) rfl rfl ti33 rfl ?_
          refine al (cs := [.sc (.int .i64 0), .sc (.int .i64 0), .sc (.slice none 0 0)]) 14 rfl rfl ti33 rfl rfl ?_
          refine stB (cs' := [.sc (.int .i64 (gt l s5.2.2).W), .sc (.int .i64 (gt l s5.2.2).H), rowV (α := Bound) false (gt l s5.2.2).At]) rfl rfl rfl rfl ti33 rfl rfl rfl rfl rfl ?_
          refine RunC.fin ?_
          refine AWP.sq ?_
          refine AWP.sq ?_
          refine AWP.rgC 30 rfl rfl ?_
          refine pu (v := .sc _) rfl rfl (fun _ => rfl) ?_
          refine pu (v := .sc _) rfl rfl (fun _ => rfl) ?_
          refine RunC.fin ?_
          refine AWP.cd hR rfl (fun h9 hR => ?_) fun h9 hR => ?_
          · refine AWP.sq ?_
            refine AWP.rgC 46 rfl rfl ?_
            refine bu (cs := [.sc (.int .i64 0), .sc (.int .i64 0), .sc (.slice none 0 0)]) rfl bt33 rfl ?_
            refine pu (v := .sc _) rfl rfl (fun _ => rfl) ?_
            refine stB (cs' := [.sc (.int .i64 0), .sc (.int .i64 0), .sc (.slice none 0 0)]) rfl rfl rfl rfl ti33 rfl rfl rfl rfl rfl ?_
            refine pu (v := .sc _) rfl rfl (fun _ => rfl) ?_
            refine RunC.fin ?_
            refine AWP.ret ?_
            refine rtT ?_
            refine rtB ?_
            refine rtT ?_
            refine rtT ?_
            refine rtB (rtT ?_)
            replace hR := escL hR hE5
            refine rtT ?_
            have hR := Option.some.inj hR; subst hR
            exact hQ _ _ (LS.mk [(2, .ptr 0 0 0), (3, .sc (.int .i64 s5.2.1))] (lblks 0 [boxB (α := Cells) true (Cells.mk 0 0 [])]) 1) (.tup [aggV (α := Cells) true (Cells.mk 0 0 []), .sc (.int .i64 s5.2.1)]) [] (.inr rfl) (Weak.turnL [(0, 0)] [] rfl rfl (tc (trP' rfl rfl rfl rfl) (tc (.sc _) tn)) (mc rfl (.box rfl (.cons (.sc _) (.cons (.sc _) (.cons trN (.nil)))) rfl) mn)) (ro2 (rvC (v := aggV (α := Cells) true (Cells.mk 0 0 [])) rfl rfl ti33 rfl) (rvT (v := .sc (.int .i64 s5.2.1)) rfl)) rfl rfl (.tup (.cons ldA (.cons (.sc _) .nil))) pn
          · refine AWP.skip ?_
            refine skT ?_
            refine AWP.rgC 62 rfl rfl ?_
            refine ldB (v := .agg _) rfl rfl rfl rfl ti63 rfl rfl ?_
            refine ldB (v := .agg _) rfl rfl rfl rfl ti33 rfl rfl ?_
            obtain ⟨r10, hr10, hR⟩ := bindE hR
            refine cls [] rfl rfl cb27 (ok27 s5.1 (gt l s5.2.2) _ hr10) (.cons (.agg (.cons (.sc _) (.cons (.sc _) (.cons (.sc _) (.cons ldR' (.cons ldR' (.nil)))))) rfl) (.cons (.agg (.cons (.sc _) (.cons (.sc _) (.cons ldR' (.nil)))) rfl) (.nil))) (.inr rfl) rfl ?_
            refine pu (v := .tup _) rfl rfl (fun _ => rfl) ?_
            refine pu (v := .agg _) rfl rfl (fun _ => rfl) ?_
            refine pu (v := .sc _) rfl rfl (fun _ => rfl) ?_
            refine stB (cs' := [.sc (.int .i64 r10.1.W), .sc (.int .i64 r10.1.H), .sc (.int .i64 r10.1.N), rowV (α := Int) true r10.1.Holes, rowV (α := Bound) true r10.1.At]) rfl rfl rfl rfl ti63 rfl rfl rfl rfl rfl ?_
            refine pu (v := .sc _) rfl rfl (fun _ => rfl) ?_
            refine RunC.blk ?_
            refine RunC.fin ?_
            refine AWP.rgC 70 rfl rfl ?_
            refine pu (v := .sc _) rfl rfl (fun _ => rfl) ?_
            refine pu (v := .sc _) rfl rfl (fun _ => rfl) ?_
            refine RunC.fin ?_
            refine ⟨(r10.1, r10.2, w6 (s5.2.2 + 1)), (Option.some.inj hR).symm, ?_⟩
            exact Weak.turnL [(0, 0), (1, 0)] [] rfl rfl (tc (trP' rfl rfl rfl rfl) (tc (trP' rfl rfl rfl rfl) (tc (.sc _) (tc trR1 (tc (.sc _) (tc (.sc _) tn)))))) (mc rfl (.box rfl (.cons (.sc _) (.cons (.sc _) (.cons (.sc _) (.nil)))) rfl) (mc rfl (.box rfl (.cons (.sc _) (.cons (.sc _) (.cons (.sc _) (.cons trR1 (.cons trR1 (.nil)))))) rfl) mn))
        · refine AWP.exit ?_
          refine exT ?_
          refine exT ?_
          refine exH (skT ?_)
          refine ⟨(s5.1, s5.2.1), (Option.some.inj hR).symm, ?_⟩
          exact Weak.turnL [(0, 0), (1, 0)] [] rfl rfl (tc (trP' rfl rfl rfl rfl) (tc (trP' rfl rfl rfl rfl) (tc (.sc _) tn))) (mc rfl (.box rfl (.cons (.sc _) (.cons (.sc _) (.cons (.sc _) (.nil)))) rfl) (mc rfl (.box rfl (.cons (.sc _) (.cons (.sc _) (.cons (.sc _) (.cons trR1 (.cons trR1 (.nil)))))) rfl) mn))
      · refine skT ?_
        refine AWP.sq ?_
        refine AWP.sq ?_
        refine AWP.rgC 10 rfl rfl ?_
        refine pu (v := .sc _) rfl rfl (fun _ => rfl) ?_
        refine pu (v := .sc _) rfl rfl (fun _ => rfl) ?_
        refine RunC.fin ?_
        refine AWP.cd hR rfl (fun h11 hR => ?_) fun h11 hR => ?_
        · refine AWP.sq ?_
          refine AWP.rgC 26 rfl rfl ?_
          refine bu (cs := [.sc (.int .i64 0), .sc (.int .i64 0), .sc (.slice none 0 0)]) rfl bt33 rfl ?_
          refine pu (v := .sc _) rfl rfl (fun _ => rfl) ?_
          refine stB (cs' := [.sc (.int .i64 0), .sc (.int .i64 0), .sc (.slice none 0 0)]) rfl rfl rfl rfl ti33 rfl rfl rfl rfl rfl ?_
          refine pu (v := .sc _) rfl rfl (fun _ => rfl) ?_
          refine RunC.fin ?_
          refine AWP.ret ?_
          refine rtT ?_
          have hR := Option.some.inj hR; subst hR
          exact hQ _ _ (LS.mk [(2, .ptr 0 0 0), (3, .sc (.int .i64 z6.2))] (lblks 0 [boxB (α := Cells) true (Cells.mk 0 0 [])]) 1) (.tup [aggV (α := Cells) true (Cells.mk 0 0 []), .sc (.int .i64 z6.2)]) [] (.inr rfl) (Weak.turnL [(0, 0)] [] rfl rfl (tc (trP' rfl rfl rfl rfl) (tc (.sc _) tn)) (mc rfl (.box rfl (.cons (.sc _) (.cons (.sc _) (.cons trN (.nil)))) rfl) mn)) (ro2 (rvC (v := aggV (α := Cells) true (Cells.mk 0 0 [])) rfl rfl ti33 rfl) (rvT (v := .sc (.int .i64 z6.2)) rfl)) rfl rfl (.tup (.cons ldA (.cons (.sc _) .nil))) pn
        · refine AWP.skip ?_
          refine skT ?_
          refine AWP.sq ?_
          refine AWP.rgC 34 rfl rfl ?_
          refine ldB (v := .agg _) rfl rfl rfl rfl ti63 rfl rfl ?_
          obtain ⟨r12, hr12, hR⟩ := bindE hR
          refine cls [] rfl rfl cb28 (ok28 z6.1 _ hr12) (.cons (.agg (.cons (.sc _) (.cons (.sc _) (.cons (.sc _) (.cons ldR' (.cons ldR' (.nil)))))) rfl) (.nil)) (.inr rfl) rfl ?_
          refine pu (v := .agg _) rfl rfl (fun _ => rfl) ?_
          refine pu (v := .sc _) rfl rfl (fun _ => rfl) ?_
          refine stB (cs' := [.sc (.int .i64 r12.1.W), .sc (.int .i64 r12.1.H), rowV (α := Bound) true r12.1.At]) rfl rfl rfl rfl ti33 rfl rfl rfl rfl rfl ?_
          refine pu (v := .sc _) rfl rfl (fun _ => rfl) ?_
          refine RunC.fin ?_
          refine AWP.ret ?_
          have hR := Option.some.inj hR; subst hR
          exact hQ _ _ (LS.mk [(2, .ptr 0 0 0), (3, .sc (.int .i64 r12.2))] (lblks 0 [boxB (α := Cells) true r12.1]) 1) (.tup [aggV (α := Cells) true r12.1, .sc (.int .i64 r12.2)]) [] (.inr rfl) (Weak.turnL [(0, 0)] [] rfl rfl (tc (trP' rfl rfl rfl rfl) (tc (.sc _) tn)) (mc rfl (.box rfl (.cons (.sc _) (.cons (.sc _) (.cons trR1 (.nil)))) rfl) mn)) (ro2 (rvC (v := aggV (α := Cells) true r12.1) rfl rfl ti33 rfl) (rvT (v := .sc (.int .i64 r12.2)) rfl)) rfl rfl (.tup (.cons ldA (.cons (.sc _) .nil))) pn
theorem ok17 (lo : Int) (hi : Int) (r : (List Bound)) (hR : spykeep4_piled_1 lo hi = some r) : FnP Try.prog 17 [.sc (.int .i64 lo), .sc (.int .i64 hi)] (rowV (α := Bound) true r) := by
  refine fnP_of (FnX.walk Try.func17 rfl 9 0 (by simp [Try.ntmps17]) rfl fun W S F Q hQ => ?_)
  unfold spykeep4_piled_1 at hR
  refine AWP.sq ?_
  refine AWP.rgC 4 rfl rfl ?_
  refine pu (v := .sc _) rfl rfl (fun _ => rfl) ?_
  refine RunC.fin ?_
  refine AWP.sq ?_
  refine AWP.rgC 24 rfl rfl ?_
  refine pu (v := .sc _) rfl rfl (fun _ => rfl) ?_
  refine pu (v := .sc _) rfl rfl (fun _ => rfl) ?_
  refine bu (cs := [.sc (.int .i64 lo), .sc (.int .i64 hi), .sc (.bool false)]) rfl bt43 rfl ?_
  refine bs (α := Bound) 16 true ([Bound.mk lo hi false] : List Bound) rfl rfl ti31 rfl ti43 rfl rfl rfl rfl rfl ?_
  refine pu (v := slV Bound _ _ _ _) rfl rfl (fun _ => rfl) ?_
  refine RunC.fin ?_
  refine AWP.ret ?_
  have hR := Option.some.inj hR; subst hR
  exact hQ _ _ (LS.mk [(4, rowV (α := Bound) true ([Bound.mk lo hi false] : List Bound))] (lblks 0 []) 0) (rowV (α := Bound) true ([Bound.mk lo hi false] : List Bound)) [] (.inr rfl) (Weak.turnL [] [16] rfl rfl (tc (trF' rfl rfl id rfl) tn) mn) (ro1 (rvT (v := rowV (α := Bound) true ([Bound.mk lo hi false] : List Bound)) rfl)) rfl rfl ldR' pn
theorem ok16 (a : Bound) (n : Int) (d : Int) (r : Bound) (hR : bound_Scale a n d = some r) : FnP Try.prog 16 [aggV false a, .sc (.int .i64 n), .sc (.int .i64 d)] (aggV (α := Bound) true r) := by
  refine fnP_of (FnX.walk Try.func16 rfl 12 0 (by simp [Try.ntmps16]) rfl fun W S F Q hQ => ?_)
  unfold bound_Scale at hR
  refine AWP.sq ?_
  refine AWP.rgC 8 rfl rfl ?_
  refine bx (cs := _) 0 rfl rfl rfl ?_
  refine al (cs := [.sc (.int .i64 0), .sc (.int .i64 0), .sc (.bool false)]) 4 rfl rfl ti43 rfl rfl ?_
  refine RunC.fin ?_
  refine AWP.sq ?_
  refine AWP.rgD 32 [0, 0, 2, 0, 15, 31] ⟨[], [some [0], none, none, none, none, some [4]]⟩ hmix (by kernel_rfl) rfl rfl ?_
  refine ldB (v := .agg _) rfl rfl rfl rfl ti43 rfl rfl ?_
  refine pu (v := .sc _) rfl rfl (fun _ => rfl) ?_
  obtain ⟨r1, hr1, hR⟩ := bindE hR
  refine cls [] rfl rfl cb25 (ok25 n _ hr1) (.cons (.sc _) (.nil)) (.inr rfl) rfl ?_
  refine pu (v := .sc _) rfl rfl (fun _ => rfl) ?_
  obtain ⟨r2, hr2, hR⟩ := bindE hR
  refine cls [] rfl rfl cb24 (ok24 a r1 d _ hr2) (.cons (.agg (.cons (.sc _) (.cons (.sc _) (.cons (.sc _) (.nil)))) rfl) (.cons (.agg (.cons (.sc _) (.cons (.sc _) (.cons (.sc _) (.nil)))) rfl) (.cons (.sc _) (.nil)))) (.inr rfl) rfl ?_
  refine stB (cs' := [.sc (.int .i64 r2.Lo), .sc (.int .i64 r2.Hi), .sc (.bool r2.Unknown)]) rfl rfl rfl rfl ti43 rfl rfl rfl rfl rfl ?_
  refine RunC.fin ?_
  refine AWP.ret ?_
  have hR := Option.some.inj hR; subst hR
  exact hQ _ _ (LS.mk [(6, .ptr 0 0 0)] (lblks 0 [boxB (α := Bound) true r2]) 1) (aggV (α := Bound) true r2) [] (.inr rfl) (Weak.turnL [(4, 0)] [] rfl rfl (tc (trP' rfl rfl rfl rfl) tn) (mc rfl (.box rfl (.cons (.sc _) (.cons (.sc _) (.cons (.sc _) (.nil)))) rfl) mn)) (ro1 (rvC (v := aggV (α := Bound) true r2) rfl rfl ti43 rfl)) rfl rfl ldA pn
theorem ok14 (c : Cells) (x : Int) (y : Int) (r : Bound) (hR : stack_at c x y = some r) : FnP Try.prog 14 [aggV false c, .sc (.int .i64 x), .sc (.int .i64 y)] (aggV (α := Bound) true r) := by
  refine fnP_of (FnX.walk Try.func14 rfl 36 0 (by simp [Try.ntmps14]) rfl fun W S F Q hQ => ?_)
  unfold stack_at at hR
  refine AWP.sq ?_
  refine AWP.rgC 8 rfl rfl ?_
  refine bx (cs := _) 0 rfl rfl rfl ?_
  refine al (cs := [.sc (.int .i64 0), .sc (.int .i64 0), .sc (.bool false)]) 4 rfl rfl ti43 rfl rfl ?_
  refine RunC.fin ?_
  refine AWP.sq ?_
  refine AWP.joinX (fun z1 : Bool => LS.mk [(1, .sc (.int .i64 x)), (2, .sc (.int .i64 y)), (3, .ptr 0 0 0), (6, .ptr 1 0 0), (24, .sc (.bool z1))] (lblks 0 [boxB (α := Cells) false c, boxB (α := Bound) true (Bound.mk 0 0 false)]) 2) hR (fun o1 hR => ?_) fun z1 hR => ?_
  · refine AWP.rgC 80 rfl rfl ?_
    refine pu (v := .sc _) rfl rfl (fun _ => rfl) ?_
    refine pu (v := .sc _) rfl rfl (fun _ => rfl) ?_
    refine pu (v := .sc _) rfl rfl (fun _ => rfl) ?_
    refine brR hR (fun h2 hR => ?_) fun h2 hR => ?_
    · refine sk (skW rfl rfl rfl h2) ?_
      refine sk (skW rfl rfl rfl h2) ?_
      refine sk (skW rfl rfl rfl h2) ?_
      refine sk (skW rfl rfl rfl h2) ?_
      refine pkT (v := .sc (.bool true)) rfl rfl h2 rfl ?_
      refine pu (v := .sc _) rfl rfl (fun _ => rfl) ?_
      refine sk (skW rfl rfl rfl rfl) ?_
      refine sk (skW rfl rfl rfl rfl) ?_
      refine pkT (v := .sc (.bool true)) rfl rfl rfl rfl ?_
      refine pu (v := .sc _) rfl rfl (fun _ => rfl) ?_
      refine sk (skW rfl rfl rfl rfl) ?_
      refine sk (skW rfl rfl rfl rfl) ?_
      refine sk (skW rfl rfl rfl rfl) ?_
      refine sk (skW rfl rfl rfl rfl) ?_
      refine pkT (v := .sc (.bool true)) rfl rfl rfl rfl ?_
      refine RunC.fin ?_
      have hR := Option.some.inj hR; subst hR
      exact Weak.turnL [(0, 0), (4, 0)] [] rfl rfl (tc (.sc _) (tc (.sc _) (tc (trP' rfl rfl rfl rfl) (tc (trP' rfl rfl rfl rfl) (tc (.sc _) tn))))) (mc rfl (.box rfl (.cons (.sc _) (.cons (.sc _) (.cons trR1 (.nil)))) rfl) (mc rfl (.box rfl (.cons (.sc _) (.cons (.sc _) (.cons (.sc _) (.nil)))) rfl) mn))
    · refine pu (v := .sc _) (wtG rfl rfl rfl h2) rfl (fun _ => rfl) ?_
      refine fa (wtG rfl rfl rfl h2) rfl ti33 rfl rfl ti3 rfl ?_
      refine ldB (v := .sc _) (wtG rfl rfl rfl h2) rfl rfl rfl ti3 rfl rfl ?_
      refine pu (v := .sc _) (wtG rfl rfl rfl h2) rfl (fun _ => rfl) ?_
      refine pkF (v := .sc (.bool (decide (x ≥ c.W)))) rfl rfl h2 rfl ?_
      refine pu (v := .sc _) rfl rfl (fun _ => rfl) ?_
      refine brR hR (fun h3 hR => ?_) fun h3 hR => ?_
      · refine sk (skW rfl rfl rfl h3) ?_
        refine sk (skW rfl rfl rfl h3) ?_
        refine pkT (v := .sc (.bool true)) rfl rfl h3 rfl ?_
        refine pu (v := .sc _) rfl rfl (fun _ => rfl) ?_
        refine sk (skW rfl rfl rfl rfl) ?_
        refine sk (skW rfl rfl rfl rfl) ?_
        refine sk (skW rfl rfl rfl rfl) ?_
        refine sk (skW rfl rfl rfl rfl) ?_
        refine pkT (v := .sc (.bool true)) rfl rfl rfl rfl ?_
        refine RunC.fin ?_
        have hR := Option.some.inj hR; subst hR
        exact Weak.turnL [(0, 0), (4, 0)] [] rfl rfl (tc (.sc _) (tc (.sc _) (tc (trP' rfl rfl rfl rfl) (tc (trP' rfl rfl rfl rfl) (tc (.sc _) tn))))) (mc rfl (.box rfl (.cons (.sc _) (.cons (.sc _) (.cons trR1 (.nil)))) rfl) (mc rfl (.box rfl (.cons (.sc _) (.cons (.sc _) (.cons (.sc _) (.nil)))) rfl) mn))
      · refine pu (v := .sc _) (wtG rfl rfl rfl h3) rfl (fun _ => rfl) ?_
        refine pu (v := .sc _) (wtG rfl rfl rfl h3) rfl (fun _ => rfl) ?_
        refine pkF (v := .sc (.bool (decide (y < 0)))) rfl rfl h3 rfl ?_
        refine pu (v := .sc _) rfl rfl (fun _ => rfl) ?_
        refine brR hR (fun h4 hR => ?_) fun h4 hR => ?_
        · refine sk (skW rfl rfl rfl h4) ?_
          refine sk (skW rfl rfl rfl h4) ?_
          refine sk (skW rfl rfl rfl h4) ?_
          refine sk (skW rfl rfl rfl h4) ?_
          refine pkT (v := .sc (.bool true)) rfl rfl h4 rfl ?_
          refine RunC.fin ?_
          have hR := Option.some.inj hR; subst hR
          exact Weak.turnL [(0, 0), (4, 0)] [] rfl rfl (tc (.sc _) (tc (.sc _) (tc (trP' rfl rfl rfl rfl) (tc (trP' rfl rfl rfl rfl) (tc (.sc _) tn))))) (mc rfl (.box rfl (.cons (.sc _) (.cons (.sc _) (.cons trR1 (.nil)))) rfl) (mc rfl (.box rfl (.cons (.sc _) (.cons (.sc _) (.cons (.sc _) (.nil)))) rfl) mn))
        · refine pu (v := .sc _) (wtG rfl rfl rfl h4) rfl (fun _ => rfl) ?_
          refine fa (wtG rfl rfl rfl h4) rfl ti33 rfl rfl ti3 rfl ?_
          refine ldB (v := .sc _) (wtG rfl rfl rfl h4) rfl rfl rfl ti3 rfl rfl ?_
          refine pu (v := .sc _) (wtG rfl rfl rfl h4) rfl (fun _ => rfl) ?_
          refine pkF (v := .sc (.bool (decide (y ≥ c.H)))) rfl rfl h4 rfl ?_
          refine RunC.fin ?_
          have hR := Option.some.inj hR; subst hR
          exact Weak.turnL [(0, 0), (4, 0)] [] rfl rfl (tc (.sc _) (tc (.sc _) (tc (trP' rfl rfl rfl rfl) (tc (trP' rfl rfl rfl rfl) (tc (.sc _) tn))))) (mc rfl (.box rfl (.cons (.sc _) (.cons (.sc _) (.cons trR1 (.nil)))) rfl) (mc rfl (.box rfl (.cons (.sc _) (.cons (.sc _) (.cons (.sc _) (.nil)))) rfl) mn))
  · refine AWP.cd hR rfl (fun h5 hR => ?_) fun h5 hR => ?_
    · refine AWP.sq ?_
      refine AWP.rgC 10 rfl rfl ?_
      obtain ⟨r6, hr6, hR⟩ := bindE hR
      refine cls [] rfl rfl cb21 (ok21 _ hr6) (.nil) (.inr rfl) rfl ?_
      refine stB (cs' := [.sc (.int .i64 r6.Lo), .sc (.int .i64 r6.Hi), .sc (.bool r6.Unknown)]) rfl rfl rfl rfl ti43 rfl rfl rfl rfl rfl ?_
      refine RunC.fin ?_
      refine AWP.ret ?_
      refine rtT ?_
      have hR := Option.some.inj hR; subst hR
      exact hQ _ _ (LS.mk [(6, .ptr 0 0 0)] (lblks 0 [boxB (α := Bound) true r6]) 1) (aggV (α := Bound) true r6) [] (.inr rfl) (Weak.turnL [(1, 0)] [] rfl rfl (tc (trP' rfl rfl rfl rfl) tn) (mc rfl (.box rfl (.cons (.sc _) (.cons (.sc _) (.cons (.sc _) (.nil)))) rfl) mn)) (ro1 (rvC (v := aggV (α := Bound) true r6) rfl rfl ti43 rfl)) rfl rfl ldA pn
    · refine AWP.skip ?_
      refine skT ?_
      refine AWP.sq ?_
      refine AWP.rgC 46 rfl rfl ?_
      refine fa rfl rfl ti33 rfl rfl ti31 rfl ?_
      refine ldB (v := rowV _ c.At) rfl rfl rfl rfl ti31 rfl rfl ?_
      refine pu (v := .sc _) rfl rfl (fun _ => rfl) ?_
      refine fa rfl rfl ti33 rfl rfl ti3 rfl ?_
      refine ldB (v := .sc _) rfl rfl rfl rfl ti3 rfl rfl ?_
      refine pu (v := .sc _) rfl rfl (fun _ => rfl) ?_
      refine pu (v := .sc _) rfl rfl (fun _ => rfl) ?_
      refine pu (v := .sc _) rfl rfl (fun _ => rfl) ?_
      obtain ⟨h7, hR⟩ := chkE hR
      refine ixL (α := Bound) rfl rfl rfl ti31 rfl ti43 rfl h7 ?_
      refine ldR (v := .agg _) rfl rfl ti43 rfl ?_
      refine stB (cs' := [.sc (.int .i64 (gt c.At (w6 ((w6 (y * c.W)) + x))).Lo), .sc (.int .i64 (gt c.At (w6 ((w6 (y * c.W)) + x))).Hi), .sc (.bool (gt c.At (w6 ((w6 (y * c.W)) + x))).Unknown)]) rfl rfl rfl rfl ti43 rfl rfl rfl rfl rfl ?_
      refine RunC.fin ?_
      refine AWP.ret ?_
      have hR := Option.some.inj hR; subst hR
      exact hQ _ _ (LS.mk [(6, .ptr 0 0 0)] (lblks 0 [boxB (α := Bound) true (gt c.At (w6 ((w6 (y * c.W)) + x)))]) 1) (aggV (α := Bound) true (gt c.At (w6 ((w6 (y * c.W)) + x)))) [] (.inr rfl) (Weak.turnL [(1, 0)] [] rfl rfl (tc (trP' rfl rfl rfl rfl) tn) (mc rfl (.box rfl (.cons (.sc _) (.cons (.sc _) (.cons (.sc _) (.nil)))) rfl) mn)) (ro1 (rvC (v := aggV (α := Bound) true (gt c.At (w6 ((w6 (y * c.W)) + x)))) rfl rfl ti43 rfl)) rfl rfl ldA pn
theorem ok7 (x : Int) (n : Int) (r : Int) (hR : spymake_Below x n = some r) : FnP Try.prog 7 [.sc (.int .i64 x), .sc (.int .i64 n)] (.sc (.int .i64 r)) := by
  refine fnP_of (FnX.walk Try.func7 rfl 16 0 (by simp [Try.ntmps7]) rfl fun W S F Q hQ => ?_)
  unfold spymake_Below at hR
  refine AWP.sq ?_
  refine AWP.rgC 4 rfl rfl ?_
  refine pu (v := .sc _) rfl rfl (fun _ => rfl) ?_
  refine RunC.fin ?_
  refine AWP.sq ?_
  refine AWP.sq ?_
  refine AWP.rgC 12 rfl rfl ?_
  refine pu (v := .sc _) rfl rfl (fun _ => rfl) ?_
  refine pu (v := .sc _) rfl rfl (fun _ => rfl) ?_
  refine RunC.fin ?_
  refine AWP.cd hR rfl (fun h1 hR => ?_) fun h1 hR => ?_
  · refine AWP.sq ?_
    refine AWP.rgC 16 rfl rfl ?_
    refine pu (v := .sc _) rfl rfl (fun _ => rfl) ?_
    refine RunC.fin ?_
    refine AWP.ret ?_
    refine rtT ?_
    have hR := Option.some.inj hR; subst hR
    exact hQ _ _ (LS.mk [(4, .sc (.int .i64 0))] (lblks 0 []) 0) (.sc (.int .i64 0)) [] (.inr rfl) (Weak.turnL [] [] rfl rfl (tc (.sc _) tn) mn) (ro1 (rvT (v := .sc (.int .i64 0)) rfl)) rfl rfl (.sc _) pn
  · refine AWP.skip ?_
    refine skT ?_
    refine AWP.sq ?_
    refine AWP.rgC 28 rfl rfl ?_
    refine pu (v := .sc _) rfl rfl (fun _ => rfl) ?_
    refine pu (v := .sc _) rfl rfl (fun _ => rfl) ?_
    obtain ⟨h2, hR⟩ := chkE hR
    refine rm rfl rfl rfl h2 rfl ?_
    refine pu (v := .sc _) rfl rfl (fun _ => rfl) ?_
    refine RunC.fin ?_
    refine AWP.sq ?_
    refine AWP.sq ?_
    refine AWP.rgC 36 rfl rfl ?_
    refine pu (v := .sc _) rfl rfl (fun _ => rfl) ?_
    refine pu (v := .sc _) rfl rfl (fun _ => rfl) ?_
    refine RunC.fin ?_
    refine AWP.cd hR rfl (fun h3 hR => ?_) fun h3 hR => ?_
    · refine AWP.rgC 52 rfl rfl ?_
      refine pu (v := .sc _) rfl rfl (fun _ => rfl) ?_
      refine pu (v := .sc _) rfl rfl (fun _ => rfl) ?_
      refine pu (v := .sc _) rfl rfl (fun _ => rfl) ?_
      refine pu (v := .sc _) rfl rfl (fun _ => rfl) ?_
      refine RunC.fin ?_
      refine AWP.sq ?_
      refine AWP.rgC 60 rfl rfl ?_
      refine pu (v := .sc _) rfl rfl (fun _ => rfl) ?_
      refine pu (v := .sc _) rfl rfl (fun _ => rfl) ?_
      refine RunC.fin ?_
      refine AWP.ret ?_
      have hR := Option.some.inj hR; subst hR
      exact hQ _ _ (LS.mk [(4, .sc (.int .i64 (w6 ((Int.tmod x n) + n))))] (lblks 0 []) 0) (.sc (.int .i64 (w6 ((Int.tmod x n) + n)))) [] (.inr rfl) (Weak.turnL [] [] rfl rfl (tc (.sc _) tn) mn) (ro1 (rvT (v := .sc (.int .i64 (w6 ((Int.tmod x n) + n)))) rfl)) rfl rfl (.sc _) pn
    · refine AWP.skip ?_
      refine skT ?_
      refine AWP.sq ?_
      refine AWP.rgC 44 rfl rfl ?_
      refine pu (v := .sc _) rfl rfl (fun _ => rfl) ?_
      refine pu (v := .sc _) rfl rfl (fun _ => rfl) ?_
      refine RunC.fin ?_
      refine AWP.ret ?_
      have hR := Option.some.inj hR; subst hR
      exact hQ _ _ (LS.mk [(4, .sc (.int .i64 (Int.tmod x n)))] (lblks 0 []) 0) (.sc (.int .i64 (Int.tmod x n))) [] (.inr rfl) (Weak.turnL [] [] rfl rfl (tc (.sc _) tn) mn) (ro1 (rvT (v := .sc (.int .i64 (Int.tmod x n))) rfl)) rfl rfl (.sc _) pn
theorem ok12 (s : spymake_Stream) (n : Int) (r : Int × spymake_Stream) (hR : Stream_Next s n = some r) : FnD Try.prog 12 [boxB false s] [.ptr 0 0 0, .sc (.int .i64 n)] (.sc (.int .i64 r.1)) [boxB false r.2] := by
  refine FnX.walk Try.func12 rfl 64 1 (by simp [Try.ntmps12]) rfl fun W S F Q hQ => ?_
  unfold Stream_Next at hR
  refine AWP.sq ?_
  refine AWP.rgC 5 rfl rfl ?_
  refine pu (v := .sc _) rfl rfl (fun _ => rfl) ?_
  refine RunC.fin ?_
  refine AWP.sq ?_
  refine AWP.rgC 37 rfl rfl ?_
  refine pu (v := .ptr _ _ _) rfl rfl (fun _ => rfl) ?_
  refine pu (v := .ptr _ _ _) rfl rfl (fun _ => rfl) ?_
  refine fa rfl rfl ti25 rfl rfl ti3 rfl ?_
  refine ldB (v := .sc _) rfl rfl rfl rfl ti3 rfl rfl ?_
  refine pu (v := .sc _) rfl rfl (fun _ => rfl) ?_
  refine pu (v := .ptr _ _ _) rfl rfl (fun _ => rfl) ?_
  refine fa rfl rfl ti25 rfl rfl ti3 rfl ?_
  refine stB (cs' := [rowV (α := Int) false s.L, .sc (.int .i64 (w6 (s.at_ + 1)))]) rfl rfl rfl rfl ti3 rfl rfl rfl rfl rfl ?_
  refine RunC.fin ?_
  refine AWP.sq ?_
  refine AWP.sq ?_
  refine AWP.rgC 61 rfl rfl ?_
  refine pu (v := .ptr _ _ _) rfl rfl (fun _ => rfl) ?_
  refine pu (v := .ptr _ _ _) rfl rfl (fun _ => rfl) ?_
  refine fa rfl rfl ti25 rfl rfl ti22 rfl ?_
  refine ldB (v := rowV _ s.L) rfl rfl rfl rfl ti22 rfl rfl ?_
  refine lenL (α := Int) rfl rfl ti22 rfl ?_
  refine pu (v := .sc _) rfl rfl (fun _ => rfl) ?_
  refine RunC.fin ?_
  refine AWP.cd hR rfl (fun h1 hR => ?_) fun h1 hR => ?_
  · refine AWP.sq ?_
    refine AWP.rgC 93 rfl rfl ?_
    refine pu (v := .ptr _ _ _) rfl rfl (fun _ => rfl) ?_
    refine pu (v := .ptr _ _ _) rfl rfl (fun _ => rfl) ?_
    refine fa rfl rfl ti25 rfl rfl ti3 rfl ?_
    refine ldB (v := .sc _) rfl rfl rfl rfl ti3 rfl rfl ?_
    refine pu (v := .sc _) rfl rfl (fun _ => rfl) ?_
    refine pu (v := .sc _) rfl rfl (fun _ => rfl) ?_
    obtain ⟨r2, hr2, hR⟩ := bindE hR
    refine cls [] rfl rfl cb7 (ok7 (w6 ((w6 (s.at_ + 1)) * 7919)) n _ hr2) (.cons (.sc _) (.cons (.sc _) (.nil))) (.inr rfl) rfl ?_
    refine pu (v := .sc _) rfl rfl (fun _ => rfl) ?_
    refine RunC.fin ?_
    refine AWP.ret ?_
    refine rtT ?_
    have hR := Option.some.inj hR; subst hR
    exact hQ _ _ (LS.mk [(4, .sc (.int .i64 r2))] (lblks 0 [boxB (α := spymake_Stream) false (spymake_Stream.mk s.L (w6 (s.at_ + 1)))]) 1) (.sc (.int .i64 r2)) [] (.inr rfl) (Weak.turnL [(0, 0)] [] rfl rfl (tc (.sc _) tn) (mc rfl (.box rfl (.cons trR1 (.cons (.sc _) (.nil))) rfl) mn)) (ro1 (rvT (v := .sc (.int .i64 r2)) rfl)) rfl rfl (.sc _) (pc rfl bldB pn)
  · refine AWP.skip ?_
    refine skT ?_
    refine AWP.sq ?_
    refine AWP.rgD 109 [0, 1, 3, 7, 15, 0, 32, 96, 224, 480, 1023, 2047] ⟨[], [none, none, none, some [0], none, none, none, none, some [0], none, none, none]⟩ hmix (by kernel_rfl) rfl rfl ?_
    refine pu (v := .ptr _ _ _) rfl rfl (fun _ => rfl) ?_
    refine pu (v := .ptr _ _ _) rfl rfl (fun _ => rfl) ?_
    refine fa rfl rfl ti25 rfl rfl ti3 rfl ?_
    refine ldB (v := .sc _) rfl rfl rfl rfl ti3 rfl rfl ?_
    refine pu (v := .sc _) rfl rfl (fun _ => rfl) ?_
    refine pu (v := .ptr _ _ _) rfl rfl (fun _ => rfl) ?_
    refine pu (v := .ptr _ _ _) rfl rfl (fun _ => rfl) ?_
    refine fa rfl rfl ti25 rfl rfl ti22 rfl ?_
    refine ldB (v := rowV _ s.L) rfl rfl rfl rfl ti22 rfl rfl ?_
    refine lenL (α := Int) rfl rfl ti22 rfl ?_
    obtain ⟨h3, hR⟩ := chkE hR
    refine rm rfl rfl rfl h3 rfl ?_
    refine pu (v := .sc _) rfl rfl (fun _ => rfl) ?_
    refine RunC.fin ?_
    refine AWP.sq ?_
    refine AWP.rgD 157 [0, 1, 3, 7, 15, 0, 32, 96, 224, 480, 1023, 2047] ⟨[], [none, none, none, some [0], none, none, none, none, some [0], none, none, none]⟩ hmix (by kernel_rfl) rfl rfl ?_
    refine pu (v := .ptr _ _ _) rfl rfl (fun _ => rfl) ?_
    refine pu (v := .ptr _ _ _) rfl rfl (fun _ => rfl) ?_
    refine fa rfl rfl ti25 rfl rfl ti3 rfl ?_
    refine ldB (v := .sc _) rfl rfl rfl rfl ti3 rfl rfl ?_
    refine pu (v := .sc _) rfl rfl (fun _ => rfl) ?_
    refine pu (v := .ptr _ _ _) rfl rfl (fun _ => rfl) ?_
    refine pu (v := .ptr _ _ _) rfl rfl (fun _ => rfl) ?_
    refine fa rfl rfl ti25 rfl rfl ti22 rfl ?_
    refine ldB (v := rowV _ s.L) rfl rfl rfl rfl ti22 rfl rfl ?_
    refine lenL (α := Int) rfl rfl ti22 rfl ?_
    refine qu rfl rfl rfl h3 rfl ?_
    refine pu (v := .sc _) rfl rfl (fun _ => rfl) ?_
    refine RunC.fin ?_
    refine AWP.sq ?_
    refine AWP.rgC 221 rfl rfl ?_
    refine pu (v := .ptr _ _ _) rfl rfl (fun _ => rfl) ?_
    refine pu (v := .ptr _ _ _) rfl rfl (fun _ => rfl) ?_
    refine fa rfl rfl ti25 rfl rfl ti22 rfl ?_
    refine ldB (v := rowV _ s.L) rfl rfl rfl rfl ti22 rfl rfl ?_
    refine pu (v := .sc _) rfl rfl (fun _ => rfl) ?_
    obtain ⟨h4, hR⟩ := chkE hR
    refine ixL (α := Int) rfl rfl rfl ti22 rfl ti3 rfl h4 ?_
    refine ldR (v := .sc _) rfl rfl ti3 rfl ?_
    obtain ⟨r5, hr5, hR⟩ := bindE hR
    refine cls [] rfl rfl cb7 (ok7 (gt s.L (Int.tmod (w6 ((w6 (s.at_ + 1)) - 1)) (s.L.length : Int))) 1073741824 _ hr5) (.cons (.sc _) (.cons (.sc _) (.nil))) (.inr rfl) rfl ?_
    refine pu (v := .sc _) rfl rfl (fun _ => rfl) ?_
    refine pu (v := .sc _) rfl rfl (fun _ => rfl) ?_
    obtain ⟨v6, ev6, hR⟩ := letE hR
    refine pu (v := .sc _) rfl rfl (fun _ => puI ev6) ?_
    obtain ⟨v7, ev7, hR⟩ := letE hR
    refine pu (v := .sc _) rfl rfl (fun _ => puI ev7) ?_
    refine pu (v := .sc _) rfl rfl (fun _ => rfl) ?_
    refine pu (v := .sc _) rfl rfl (fun _ => rfl) ?_
    obtain ⟨r8, hr8, hR⟩ := bindE hR
    refine cls [] rfl rfl cb7 (ok7 (w6 (r5 + v7)) n _ hr8) (.cons (.sc _) (.cons (.sc _) (.nil))) (.inr rfl) rfl ?_
    refine pu (v := .sc _) rfl rfl (fun _ => rfl) ?_
    refine RunC.fin ?_
    refine AWP.ret ?_
    have hR := Option.some.inj hR; subst hR
    exact hQ _ _ (LS.mk [(4, .sc (.int .i64 r8))] (lblks 0 [boxB (α := spymake_Stream) false (spymake_Stream.mk s.L (w6 (s.at_ + 1)))]) 1) (.sc (.int .i64 r8)) [] (.inr rfl) (Weak.turnL [(0, 0)] [] rfl rfl (tc (.sc _) tn) (mc rfl (.box rfl (.cons trR1 (.cons (.sc _) (.nil))) rfl) mn)) (ro1 (rvT (v := .sc (.int .i64 r8)) rfl)) rfl rfl (.sc _) (pc rfl bldB pn)
theorem ok11 (a : Cells) (b : Cells) (r : Bool) (hR : spykeep4_same a b = some r) : FnP Try.prog 11 [aggV false a, aggV false b] (.sc (.bool r)) := by
  refine fnP_of (FnX.walk Try.func11 rfl 24 0 (by simp [Try.ntmps11]) rfl fun W S F Q hQ => ?_)
  unfold spykeep4_same at hR
  refine AWP.sq ?_
  refine AWP.rgC 12 rfl rfl ?_
  refine bx (cs := _) 0 rfl rfl rfl ?_
  refine bx (cs := _) 4 rfl rfl rfl ?_
  refine pu (v := .sc _) rfl rfl (fun _ => rfl) ?_
  refine RunC.fin ?_
  refine AWP.joinX (fun z1 : Bool => LS.mk [(4, .sc (.bool z1))] (lblks 0 []) 0) hR (fun o1 hR => ?_) fun z1 hR => ?_
  · refine AWP.rgC 92 rfl rfl ?_
    refine fa rfl rfl ti33 rfl rfl ti3 rfl ?_
    refine ldB (v := .sc _) rfl rfl rfl rfl ti3 rfl rfl ?_
    refine fa rfl rfl ti33 rfl rfl ti3 rfl ?_
    refine ldB (v := .sc _) rfl rfl rfl rfl ti3 rfl rfl ?_
    refine pu (v := .sc _) rfl rfl (fun _ => rfl) ?_
    refine pu (v := .sc _) rfl rfl (fun _ => rfl) ?_
    refine brR hR (fun h2 hR => ?_) fun h2 hR => ?_
    · refine fa (wtG rfl rfl rfl h2) rfl ti33 rfl rfl ti3 rfl ?_
      refine ldB (v := .sc _) (wtG rfl rfl rfl h2) rfl rfl rfl ti3 rfl rfl ?_
      refine fa (wtG rfl rfl rfl h2) rfl ti33 rfl rfl ti3 rfl ?_
      refine ldB (v := .sc _) (wtG rfl rfl rfl h2) rfl rfl rfl ti3 rfl rfl ?_
      refine pu (v := .sc _) (wtG rfl rfl rfl h2) rfl (fun _ => rfl) ?_
      refine pkT (v := .sc (.bool (a.H == b.H))) rfl rfl h2 rfl ?_
      refine pu (v := .sc _) rfl rfl (fun _ => rfl) ?_
      refine brR hR (fun h3 hR => ?_) fun h3 hR => ?_
      · refine fa (wtG rfl rfl rfl h3) rfl ti33 rfl rfl ti31 rfl ?_
        refine ldB (v := rowV _ a.At) (wtG rfl rfl rfl h3) rfl rfl rfl ti31 rfl rfl ?_
        refine fa (wtG rfl rfl rfl h3) rfl ti33 rfl rfl ti31 rfl ?_
        refine ldB (v := rowV _ b.At) (wtG rfl rfl rfl h3) rfl rfl rfl ti31 rfl rfl ?_
        obtain ⟨r4, hr4, hR⟩ := bindE hR
        refine cls [] (wtG rfl rfl rfl h3) rfl cb19 (ok19 a.At b.At _ hr4) (.cons ldR' (.cons ldR' (.nil))) (.inr rfl) rfl ?_
        refine pkT (v := .sc (.bool r4)) rfl rfl h3 rfl ?_
        refine pu (v := .sc _) rfl rfl (fun _ => rfl) ?_
        refine RunC.fin ?_
        have hR := Option.some.inj hR; subst hR
        exact Weak.turnL [] [] rfl rfl (tc (.sc _) tn) mn
      · refine sk (skW rfl rfl rfl h3) ?_
        refine sk (skW rfl rfl rfl h3) ?_
        refine sk (skW rfl rfl rfl h3) ?_
        refine sk (skW rfl rfl rfl h3) ?_
        refine sk (skW rfl rfl rfl h3) ?_
        refine pkF (v := .sc (.bool false)) rfl rfl h3 rfl ?_
        refine pu (v := .sc _) rfl rfl (fun _ => rfl) ?_
        refine RunC.fin ?_
        have hR := Option.some.inj hR; subst hR
        exact Weak.turnL [] [] rfl rfl (tc (.sc _) tn) mn
    · refine sk (skW rfl rfl rfl h2) ?_
      refine sk (skW rfl rfl rfl h2) ?_
      refine sk (skW rfl rfl rfl h2) ?_
      refine sk (skW rfl rfl rfl h2) ?_
      refine sk (skW rfl rfl rfl h2) ?_
      refine pkF (v := .sc (.bool false)) rfl rfl h2 rfl ?_
      refine pu (v := .sc _) rfl rfl (fun _ => rfl) ?_
      refine sk (skW rfl rfl rfl rfl) ?_
      refine sk (skW rfl rfl rfl rfl) ?_
      refine sk (skW rfl rfl rfl rfl) ?_
      refine sk (skW rfl rfl rfl rfl) ?_
      refine sk (skW rfl rfl rfl rfl) ?_
      refine pkF (v := .sc (.bool false)) rfl rfl rfl rfl ?_
      refine pu (v := .sc _) rfl rfl (fun _ => rfl) ?_
      refine RunC.fin ?_
      have hR := Option.some.inj hR; subst hR
      exact Weak.turnL [] [] rfl rfl (tc (.sc _) tn) mn
  · refine AWP.ret ?_
    have hR := Option.some.inj hR; subst hR
    exact hQ _ _ (LS.mk [(4, .sc (.bool z1))] (lblks 0 []) 0) (.sc (.bool z1)) [] (.inr rfl) (Weak.turnL [] [] rfl rfl (tc (.sc _) tn) mn) (ro1 (rvT (v := .sc (.bool z1)) rfl)) rfl rfl (.sc _) pn
theorem ok10 (r : Bool) (hR : spykeep4_piled = some r) : FnP Try.prog 10 [] (.sc (.bool r)) := by
  refine fnP_of (FnX.walk Try.func10 rfl 29 0 (by simp [Try.ntmps10]) rfl fun W S F Q hQ => ?_)
  unfold spykeep4_piled at hR
  refine AWP.sq ?_
  refine AWP.rgC 4 rfl rfl ?_
  refine pu (v := .sc _) rfl rfl (fun _ => rfl) ?_
  refine RunC.fin ?_
  refine AWP.sq ?_
  refine AWP.rgC 8 rfl rfl ?_
  refine pu (v := .fn _ _) rfl rfl (fun _ => rfl) ?_
  refine RunC.fin ?_
  refine AWP.sq ?_
  refine AWP.rgC 64 rfl rfl ?_
  refine pu (v := .fn _ _) rfl rfl (fun _ => rfl) ?_
  obtain ⟨r1, hr1, hR⟩ := bindE hR
  refine cls [] rfl rfl cb17 (ok17 1 2 _ hr1) (.cons (.sc _) (.cons (.sc _) (.nil))) (.inr rfl) rfl ?_
  refine bu (cs := [.sc (.int .i64 1), .sc (.int .i64 1), rowV (α := Bound) true r1]) rfl bt33 rfl ?_
  refine pu (v := .fn _ _) rfl rfl (fun _ => rfl) ?_
  obtain ⟨r2, hr2, hR⟩ := bindE hR
  refine cls [] rfl rfl cb17 (ok17 10 30 _ hr2) (.cons (.sc _) (.cons (.sc _) (.nil))) (.inr rfl) rfl ?_
  refine bu (cs := [.sc (.int .i64 1), .sc (.int .i64 1), rowV (α := Bound) true r2]) rfl bt33 rfl ?_
  refine bs (α := Cells) 32 true ([Cells.mk 1 1 r1, Cells.mk 1 1 r2] : List Cells) rfl rfl ti54 rfl ti33 rfl rfl rfl rfl rfl ?_
  obtain ⟨r3, hr3, hR⟩ := bindE hR
  refine cls [32] rfl rfl cb18 (ok18 ([Cells.mk 1 1 r1, Cells.mk 1 1 r2] : List Cells) _ hr3) (.cons (ldS' rfl rfl rfl rfl) (.nil)) (.inl (by first | rfl | exact freshR | exact freshA | (simp only [V.fresh, V.freshs, freshR, freshA, Bool.and_self]))) rfl ?_
  refine pu (v := .tup _) rfl rfl (fun _ => rfl) ?_
  refine pu (v := .agg _) rfl rfl (fun _ => rfl) ?_
  refine pu (v := .sc _) rfl rfl (fun _ => rfl) ?_
  refine al (cs := [.sc (.int .i64 0), .sc (.int .i64 0), .sc (.slice none 0 0)]) 52 rfl rfl ti33 rfl rfl ?_
  refine stB (cs' := [.sc (.int .i64 r3.1.W), .sc (.int .i64 r3.1.H), rowV (α := Bound) true r3.1.At]) rfl rfl rfl rfl ti33 rfl rfl rfl rfl rfl ?_
  refine pu (v := .sc _) rfl rfl (fun _ => rfl) ?_
  refine RunC.fin ?_
  refine AWP.joinX (fun z4 : Bool => LS.mk [(0, .sc (.bool z4))] (lblks 0 []) 0) hR (fun o4 hR => ?_) fun z4 hR => ?_
  · refine AWP.rgD 124 [0, 1, 3, 7, 15, 31, 63, 127, 255, 511, 255, 1279, 4095, 8191, 16383] ⟨[], [none, none, none, none, some [52], none, none, none, none, some [52], none, none, none, none, none]⟩ hmix (by kernel_rfl) rfl rfl ?_
    refine pu (v := .sc _) rfl rfl (fun _ => rfl) ?_
    refine pu (v := .sc _) rfl rfl (fun _ => rfl) ?_
    refine pu (v := .sc _) rfl rfl (fun _ => rfl) ?_
    refine brR hR (fun h5 hR => ?_) fun h5 hR => ?_
    · refine fa (wtG rfl rfl rfl h5) rfl ti33 rfl rfl ti3 rfl ?_
      refine ldB (v := .sc _) (wtG rfl rfl rfl h5) rfl rfl rfl ti3 rfl rfl ?_
      refine pu (v := .sc _) (wtG rfl rfl rfl h5) rfl (fun _ => rfl) ?_
      refine pkT (v := .sc (.bool (r3.1.W == 1))) rfl rfl h5 rfl ?_
      refine pu (v := .sc _) rfl rfl (fun _ => rfl) ?_
      refine brR hR (fun h6 hR => ?_) fun h6 hR => ?_
      · refine fa (wtG rfl rfl rfl h6) rfl ti33 rfl rfl ti31 rfl ?_
        refine ldB (v := rowV _ r3.1.At) (wtG rfl rfl rfl h6) rfl rfl rfl ti31 rfl rfl ?_
        refine pu (v := .fn _ _) (wtG rfl rfl rfl h6) rfl (fun _ => rfl) ?_
        obtain ⟨r7, hr7, hR⟩ := bindE hR
        refine cls [] (wtG rfl rfl rfl h6) rfl cb17 (ok17 11 32 _ hr7) (.cons (.sc _) (.cons (.sc _) (.nil))) (.inr rfl) rfl ?_
        obtain ⟨r8, hr8, hR⟩ := bindE hR
        refine cls [] (wtG rfl rfl rfl h6) rfl cb19 (ok19 r3.1.At r7 _ hr8) (.cons ldR' (.cons ldR' (.nil))) (.inr rfl) rfl ?_
        refine pkT (v := .sc (.bool r8)) rfl rfl h6 rfl ?_
        refine pu (v := .sc _) rfl rfl (fun _ => rfl) ?_
        refine RunC.fin ?_
        have hR := Option.some.inj hR; subst hR
        exact Weak.turnL [] [] rfl rfl (tc (.sc _) tn) mn
      · refine sk (skW rfl rfl rfl h6) ?_
        refine sk (skW rfl rfl rfl h6) ?_
        refine sk (skW rfl rfl rfl h6) ?_
        refine sk (skW rfl rfl rfl h6) ?_
        refine sk (skW rfl rfl rfl h6) ?_
        refine pkF (v := .sc (.bool false)) rfl rfl h6 rfl ?_
        refine pu (v := .sc _) rfl rfl (fun _ => rfl) ?_
        refine RunC.fin ?_
        have hR := Option.some.inj hR; subst hR
        exact Weak.turnL [] [] rfl rfl (tc (.sc _) tn) mn
    · refine sk (skW rfl rfl rfl h5) ?_
      refine sk (skW rfl rfl rfl h5) ?_
      refine sk (skW rfl rfl rfl h5) ?_
      refine pkF (v := .sc (.bool false)) rfl rfl h5 rfl ?_
      refine pu (v := .sc _) rfl rfl (fun _ => rfl) ?_
      refine sk (skW rfl rfl rfl rfl) ?_
      refine sk (skW rfl rfl rfl rfl) ?_
      refine sk (skW rfl rfl rfl rfl) ?_
      refine sk (skW rfl rfl rfl rfl) ?_
      refine sk (skW rfl rfl rfl rfl) ?_
      refine pkF (v := .sc (.bool false)) rfl rfl rfl rfl ?_
      refine pu (v := .sc _) rfl rfl (fun _ => rfl) ?_
      refine RunC.fin ?_
      have hR := Option.some.inj hR; subst hR
      exact Weak.turnL [] [] rfl rfl (tc (.sc _) tn) mn
  · refine AWP.ret ?_
    have hR := Option.some.inj hR; subst hR
    exact hQ _ _ (LS.mk [(0, .sc (.bool z4))] (lblks 0 []) 0) (.sc (.bool z4)) [] (.inr rfl) (Weak.turnL [] [] rfl rfl (tc (.sc _) tn) mn) (ro1 (rvT (v := .sc (.bool z4)) rfl)) rfl rfl (.sc _) pn
theorem ok9 (c : Cells) (dx : Int) (dy : Int) (r : Cells × Int) (hR : stack_Slide c dx dy = some r) : FnP Try.prog 9 [aggV false c, .sc (.int .i64 dx), .sc (.int .i64 dy)] (.tup [aggV (α := Cells) true r.1, .sc (.int .i64 r.2)]) := by
  refine fnP_of (FnX.walk Try.func9 rfl 101 0 (by simp [Try.ntmps9]) rfl fun W S F Q hQ => ?_)
  unfold stack_Slide at hR
  refine AWP.sq ?_
  refine AWP.rgC 12 rfl rfl ?_
  refine bx (cs := _) 0 rfl rfl rfl ?_
  refine al (cs := [.sc (.int .i64 0), .sc (.int .i64 0), .sc (.slice none 0 0)]) 4 rfl rfl ti33 rfl rfl ?_
  refine pu (v := .sc _) rfl rfl (fun _ => rfl) ?_
  refine RunC.fin ?_
  refine AWP.sq ?_
  refine AWP.sq ?_
  refine AWP.rgC 24 rfl rfl ?_
  refine ldB (v := .agg _) rfl rfl rfl rfl ti33 rfl rfl ?_
  obtain ⟨r1, hr1, hR⟩ := bindE hR
  refine cls [] rfl rfl cb13 (ok13 c _ hr1) (.cons (.agg (.cons (.sc _) (.cons (.sc _) (.cons ldR' (.nil)))) rfl) (.nil)) (.inr rfl) rfl ?_
  refine pu (v := .sc _) rfl rfl (fun _ => rfl) ?_
  refine RunC.fin ?_
  refine AWP.sq ?_
  refine AWP.rgC 32 rfl rfl ?_
  refine pu (v := .sc _) rfl rfl (fun _ => rfl) ?_
  refine pu (v := .sc _) rfl rfl (fun _ => rfl) ?_
  refine RunC.fin ?_
  refine AWP.cd hR rfl (fun h2 hR => ?_) fun h2 hR => ?_
  · refine AWP.sq ?_
    refine AWP.rgC 48 rfl rfl ?_
    refine bu (cs := [.sc (.int .i64 0), .sc (.int .i64 0), .sc (.slice none 0 0)]) rfl bt33 rfl ?_
    refine pu (v := .sc _) rfl rfl (fun _ => rfl) ?_
    refine stB (cs' := [.sc (.int .i64 0), .sc (.int .i64 0), .sc (.slice none 0 0)]) rfl rfl rfl rfl ti33 rfl rfl rfl rfl rfl ?_
    refine pu (v := .sc _) rfl rfl (fun _ => rfl) ?_
    refine RunC.fin ?_
    refine AWP.ret ?_
    refine rtT ?_
    have hR := Option.some.inj hR; subst hR
    exact hQ _ _ (LS.mk [(6, .ptr 0 0 0), (7, .sc (.int .i64 r1))] (lblks 0 [boxB (α := Cells) true (Cells.mk 0 0 [])]) 1) (.tup [aggV (α := Cells) true (Cells.mk 0 0 []), .sc (.int .i64 r1)]) [] (.inr rfl) (Weak.turnL [(4, 0)] [] rfl rfl (tc (trP' rfl rfl rfl rfl) (tc (.sc _) tn)) (mc rfl (.box rfl (.cons (.sc _) (.cons (.sc _) (.cons trN (.nil)))) rfl) mn)) (ro2 (rvC (v := aggV (α := Cells) true (Cells.mk 0 0 [])) rfl rfl ti33 rfl) (rvT (v := .sc (.int .i64 r1)) rfl)) rfl rfl (.tup (.cons ldA (.cons (.sc _) .nil))) pn
  · refine AWP.skip ?_
    refine skT ?_
    refine AWP.sq ?_
    refine AWP.joinX (fun z3 : Bool => LS.mk [(1, .sc (.int .i64 dx)), (2, .sc (.int .i64 dy)), (3, .ptr 0 0 0), (6, .ptr 1 0 0), (33, .sc (.bool z3))] (lblks 0 [boxB (α := Cells) false c, .box [.sc (.int .i64 0), .sc (.int .i64 0), .sc (.slice none 0 0)]]) 2) hR (fun o3 hR => ?_) fun z3 hR => ?_
    · refine AWP.rgC 88 rfl rfl ?_
      refine pu (v := .sc _) rfl rfl (fun _ => rfl) ?_
      refine pu (v := .sc _) rfl rfl (fun _ => rfl) ?_
      refine pu (v := .sc _) rfl rfl (fun _ => rfl) ?_
      refine brR hR (fun h4 hR => ?_) fun h4 hR => ?_
      · refine sk (skW rfl rfl rfl h4) ?_
        refine sk (skW rfl rfl rfl h4) ?_
        refine pkT (v := .sc (.bool true)) rfl rfl h4 rfl ?_
        refine pu (v := .sc _) rfl rfl (fun _ => rfl) ?_
        refine sk (skW rfl rfl rfl rfl) ?_
        refine sk (skW rfl rfl rfl rfl) ?_
        refine pkT (v := .sc (.bool true)) rfl rfl rfl rfl ?_
        refine pu (v := .sc _) rfl rfl (fun _ => rfl) ?_
        refine sk (skW rfl rfl rfl rfl) ?_
        refine sk (skW rfl rfl rfl rfl) ?_
        refine pkT (v := .sc (.bool true)) rfl rfl rfl rfl ?_
        refine RunC.fin ?_
        have hR := Option.some.inj hR; subst hR
        exact Weak.turnL [(0, 0), (4, 0)] [] rfl rfl (tc (.sc _) (tc (.sc _) (tc (trP' rfl rfl rfl rfl) (tc (trP' rfl rfl rfl rfl) (tc (.sc _) tn))))) (mc rfl (.box rfl (.cons (.sc _) (.cons (.sc _) (.cons trR1 (.nil)))) rfl) (mc rfl (.box rfl (.cons (.sc _) (.cons (.sc _) (.cons (.sc _) (.nil)))) rfl) mn))
      · refine pu (v := .sc _) (wtG rfl rfl rfl h4) rfl (fun _ => rfl) ?_
        refine pu (v := .sc _) (wtG rfl rfl rfl h4) rfl (fun _ => rfl) ?_
        refine pkF (v := .sc (.bool (decide (dx ≥ 256)))) rfl rfl h4 rfl ?_
        refine pu (v := .sc _) rfl rfl (fun _ => rfl) ?_
        refine brR hR (fun h5 hR => ?_) fun h5 hR => ?_
        · refine sk (skW rfl rfl rfl h5) ?_
          refine sk (skW rfl rfl rfl h5) ?_
          refine pkT (v := .sc (.bool true)) rfl rfl h5 rfl ?_
          refine pu (v := .sc _) rfl rfl (fun _ => rfl) ?_
          refine sk (skW rfl rfl rfl rfl) ?_
          refine sk (skW rfl rfl rfl rfl) ?_
          refine pkT (v := .sc (.bool true)) rfl rfl rfl rfl ?_
          refine RunC.fin ?_
          have hR := Option.some.inj hR; subst hR
          exact Weak.turnL [(0, 0), (4, 0)] [] rfl rfl (tc (.sc _) (tc (.sc _) (tc (trP' rfl rfl rfl rfl) (tc (trP' rfl rfl rfl rfl) (tc (.sc _) tn))))) (mc rfl (.box rfl (.cons (.sc _) (.cons (.sc _) (.cons trR1 (.nil)))) rfl) (mc rfl (.box rfl (.cons (.sc _) (.cons (.sc _) (.cons (.sc _) (.nil)))) rfl) mn))
        · refine pu (v := .sc _) (wtG rfl rfl rfl h5) rfl (fun _ => rfl) ?_
          refine pu (v := .sc _) (wtG rfl rfl rfl h5) rfl (fun _ => rfl) ?_
          refine pkF (v := .sc (.bool (decide (dy < 0)))) rfl rfl h5 rfl ?_
          refine pu (v := .sc _) rfl rfl (fun _ => rfl) ?_
          refine brR hR (fun h6 hR => ?_) fun h6 hR => ?_
          · refine sk (skW rfl rfl rfl h6) ?_
            refine sk (skW rfl rfl rfl h6) ?_
            refine pkT (v := .sc (.bool true)) rfl rfl h6 rfl ?_
            refine RunC.fin ?_
            have hR := Option.some.inj hR; subst hR
            exact Weak.turnL [(0, 0), (4, 0)] [] rfl rfl (tc (.sc _) (tc (.sc _) (tc (trP' rfl rfl rfl rfl) (tc (trP' rfl rfl rfl rfl) (tc (.sc _) tn))))) (mc rfl (.box rfl (.cons (.sc _) (.cons (.sc _) (.cons trR1 (.nil)))) rfl) (mc rfl (.box rfl (.cons (.sc _) (.cons (.sc _) (.cons (.sc _) (.nil)))) rfl) mn))
          · refine pu (v := .sc _) (wtG rfl rfl rfl h6) rfl (fun _ => rfl) ?_
            refine pu (v := .sc _) (wtG rfl rfl rfl h6) rfl (fun _ => rfl) ?_
            refine pkF (v := .sc (.bool (decide (dy ≥ 256)))) rfl rfl h6 rfl ?_
            refine RunC.fin ?_
            have hR := Option.some.inj hR; subst hR
            exact Weak.turnL [(0, 0), (4, 0)] [] rfl rfl (tc (.sc _) (tc (.sc _) (tc (trP' rfl rfl rfl rfl) (tc (trP' rfl rfl rfl rfl) (tc (.sc _) tn))))) (mc rfl (.box rfl (.cons (.sc _) (.cons (.sc _) (.cons trR1 (.nil)))) rfl) (mc rfl (.box rfl (.cons (.sc _) (.cons (.sc _) (.cons (.sc _) (.nil)))) rfl) mn))
    · refine AWP.cd hR rfl (fun h7 hR => ?_) fun h7 hR => ?_
      · refine AWP.sq ?_
        refine AWP.rgC 14 rfl rfl ?_
        refine bu (cs := [.sc (.int .i64 0), .sc (.int .i64 0), .sc (.slice none 0 0)]) rfl bt33 rfl ?_
        refine stB (cs' := [.sc (.int .i64 0), .sc (.int .i64 0), .sc (.slice none 0 0)]) rfl rfl rfl rfl ti33 rfl rfl rfl rfl rfl ?_
        refine pu (v := .sc _) rfl rfl (fun _ => rfl) ?_
        refine RunC.fin ?_
        refine AWP.ret ?_
        refine rtT ?_
        have hR := Option.some.inj hR; subst hR
        exact hQ _ _ (LS.mk [(6, .ptr 0 0 0), (7, .sc (.int .i64 4))] (lblks 0 [boxB (α := Cells) true (Cells.mk 0 0 [])]) 1) (.tup [aggV (α := Cells) true (Cells.mk 0 0 []), .sc (.int .i64 4)]) [] (.inr rfl) (Weak.turnL [(1, 0)] [] rfl rfl (tc (trP' rfl rfl rfl rfl) (tc (.sc _) tn)) (mc rfl (.box rfl (.cons (.sc _) (.cons (.sc _) (.cons trN (.nil)))) rfl) mn)) (ro2 (rvC (v := aggV (α := Cells) true (Cells.mk 0 0 [])) rfl rfl ti33 rfl) (rvT (v := .sc (.int .i64 4)) rfl)) rfl rfl (.tup (.cons ldA (.cons (.sc _) .nil))) pn
      · refine AWP.skip ?_
        refine skT ?_
        refine AWP.sq ?_
        refine AWP.rgC 30 rfl rfl ?_
        refine fa rfl rfl ti33 rfl rfl ti3 rfl ?_
        refine ldB (v := .sc _) rfl rfl rfl rfl ti3 rfl rfl ?_
        refine fa rfl rfl ti33 rfl rfl ti3 rfl ?_
        refine ldB (v := .sc _) rfl rfl rfl rfl ti3 rfl rfl ?_
        refine bu (cs := [.sc (.int .i64 c.W), .sc (.int .i64 c.H), .sc (.slice none 0 0)]) rfl bt33 rfl ?_
        refine al (cs := [.sc (.int .i64 0), .sc (.int .i64 0), .sc (.slice none 0 0)]) 22 rfl rfl ti33 rfl rfl ?_
        refine stB (cs' := [.sc (.int .i64 c.W), .sc (.int .i64 c.H), .sc (.slice none 0 0)]) rfl rfl rfl rfl ti33 rfl rfl rfl rfl rfl ?_
        refine RunC.fin ?_
        refine AWP.sq ?_
        refine AWP.sq ?_
        refine AWP.rgC 46 rfl rfl ?_
        refine fa rfl rfl ti33 rfl rfl ti31 rfl ?_
        refine ldB (v := rowV _ c.At) rfl rfl rfl rfl ti31 rfl rfl ?_
        refine lenL (α := Bound) rfl rfl ti31 rfl ?_
        refine pu (v := .sc _) rfl rfl (fun _ => rfl) ?_
        refine RunC.fin ?_
        refine AWP.nilB Bound 22 2 43 rfl rfl (cs' := [.sc (.int .i64 c.W), .sc (.int .i64 c.H), slV Bound 46 0 0 0]) rfl ?_
        refine AWP.loopJ (fun s8 : (List Bound) × Int => LS.mk [(1, .sc (.int .i64 dx)), (2, .sc (.int .i64 dy)), (3, .ptr 0 0 0), (6, .ptr 1 0 0), (9, .ptr 2 0 0), (42, .sc (.int .i64 (c.At.length : Int))), (43, .sc (.int .i64 s8.2))] (lblks 0 [boxB (α := Cells) false c, .box [.sc (.int .i64 0), .sc (.int .i64 0), .sc (.slice none 0 0)], .box [.sc (.int .i64 c.W), .sc (.int .i64 c.H), slV Bound 3 0 0 s8.1.length], arrB (α := Bound) 43 0 true s8.1]) 4) (fun z9 : (List Bound) => LS.mk [(6, .ptr 0 0 0), (9, .ptr 1 0 0)] (lblks 0 [.box [.sc (.int .i64 0), .sc (.int .i64 0), .sc (.slice none 0 0)], .box [.sc (.int .i64 c.W), .sc (.int .i64 c.H), slV Bound 2 0 0 z9.length], arrB (α := Bound) 43 0 true z9]) 3) (stack_Slide.l1 c dx dy) hR (s0 := (([] : List Bound), 0)) (Weak.turnL [(0, 0), (1, 0), (22, 0), (46, 0)] [] rfl rfl (tc (.sc _) (tc (.sc _) (tc (trP' rfl rfl rfl rfl) (tc (trP' rfl rfl rfl rfl) (tc (trP' rfl rfl rfl rfl) (tc (.sc _) (tc (.sc _) tn))))))) (mc rfl (.box rfl (.cons (.sc _) (.cons (.sc _) (.cons trR1 (.nil)))) rfl) (mc rfl (.box rfl (.cons (.sc _) (.cons (.sc _) (.cons (.sc _) (.nil)))) rfl) (mc rfl (.box rfl (.cons (.sc _) (.cons (.sc _) (.cons (trS' rfl rfl rfl rfl rfl) (.nil)))) rfl) (mc rfl (btrA' rfl) mn))))) (fun s8 o8 hR => ?_) fun z9 hR => ?_
        · unfold stack_Slide.l1 at hR
          refine AWP.sq ?_
          refine AWP.rgC 8 rfl rfl ?_
          refine pu (v := .sc _) rfl rfl (fun _ => rfl) ?_
          refine RunC.fin ?_
          refine AWP.sq ?_
          refine AWP.cd hR rfl (fun h10 hR => ?_) fun h10 hR => ?_
          · refine AWP.skip ?_
            refine skT ?_
            refine AWP.sq ?_
            refine AWP.block ?_
            refine AWP.sq ?_
            refine AWP.rgC 16 rfl rfl ?_
            refine pu (v := .sc _) rfl rfl (fun _ => rfl) ?_
            refine pu (v := .sc _) rfl rfl (fun _ => rfl) ?_
            refine RunC.fin ?_
            refine AWP.sq ?_
            refine AWP.rgC 20 rfl rfl ?_
            refine al (cs := [.sc (.int .i64 0), .sc (.int .i64 0), .sc (.bool false)]) 16 rfl rfl ti43 rfl rfl ?_
            refine RunC.fin ?_
            refine AWP.sq ?_
            refine AWP.sq ?_
            refine AWP.rgC 96 rfl rfl ?_
            refine pu (v := .sc _) rfl rfl (fun _ => rfl) ?_
            refine pu (v := .sc _) rfl rfl (fun _ => rfl) ?_
            refine pu (v := .sc _) rfl rfl (fun _ => rfl) ?_
            refine pu (v := .sc _) rfl rfl (fun _ => rfl) ?_
            refine pu (v := .sc _) rfl rfl (fun _ => rfl) ?_
            refine pu (v := .sc _) rfl rfl (fun _ => rfl) ?_
            refine pu (v := .sc _) rfl rfl (fun _ => rfl) ?_
            refine pu (v := .sc _) rfl rfl (fun _ => rfl) ?_
            refine pu (v := .sc _) rfl rfl (fun _ => rfl) ?_
            refine pu (v := .sc _) rfl rfl (fun _ => rfl) ?_
            refine pu (v := .sc _) rfl rfl (fun _ => rfl) ?_
            refine pu (v := .sc _) rfl rfl (fun _ => rfl) ?_
            refine pu (v := .sc _) rfl rfl (fun _ => rfl) ?_
            refine pu (v := .sc _) rfl rfl (fun _ => rfl) ?_
            refine pu (v := .sc _) rfl rfl (fun _ => rfl) ?_
            refine pu (v := .sc _) rfl rfl (fun _ => rfl) ?_
            refine bs (α := Int) 84 true ([w6 ((w6 (256 - dx)) * (w6 (256 - dy))), w6 (dx * (w6 (256 - dy))), w6 ((w6 (256 - dx)) * dy), w6 (dx * dy)] : List Int) rfl rfl ti49 rfl ti39 rfl rfl rfl rfl rfl ?_
            refine lenS (α := Int) rfl rfl ti49 rfl ?_
            refine pu (v := .sc _) rfl rfl (fun _ => rfl) ?_
            refine RunC.fin ?_
            refine AWP.loopJ (fun s11 : Bound × Int => LS.mk [(1, .sc (.int .i64 dx)), (2, .sc (.int .i64 dy)), (3, .ptr 0 0 0), (6, .ptr 1 0 0), (9, .ptr 2 0 0), (10, .sc (.int .i64 s8.2)), (11, .ptr 4 0 0), (42, .sc (.int .i64 (c.At.length : Int))), (43, .sc (.int .i64 s8.2)), (62, slV Int 5 0 0 ([w6 ((w6 (256 - dx)) * (w6 (256 - dy))), w6 (dx * (w6 (256 - dy))), w6 ((w6 (256 - dx)) * dy), w6 (dx * dy)] : List Int).length), (63, .sc (.int .i64 (([w6 ((w6 (256 - dx)) * (w6 (256 - dy))), w6 (dx * (w6 (256 - dy))), w6 ((w6 (256 - dx)) * dy), w6 (dx * dy)] : List Int).length : Int))), (64, .sc (.int .i64 s11.2))] (lblks 0 [boxB (α := Cells) false c, .box [.sc (.int .i64 0), .sc (.int .i64 0), .sc (.slice none 0 0)], .box [.sc (.int .i64 c.W), .sc (.int .i64 c.H), slV Bound 3 0 0 s8.1.length], arrB (α := Bound) 43 0 true s8.1, boxB (α := Bound) true s11.1, arrB (α := Int) 39 0 true ([w6 ((w6 (256 - dx)) * (w6 (256 - dy))), w6 (dx * (w6 (256 - dy))), w6 ((w6 (256 - dx)) * dy), w6 (dx * dy)] : List Int)]) 6) (fun z12 : Bound => LS.mk [(1, .sc (.int .i64 dx)), (2, .sc (.int .i64 dy)), (3, .ptr 0 0 0), (6, .ptr 1 0 0), (9, .ptr 2 0 0), (11, .ptr 4 0 0), (42, .sc (.int .i64 (c.At.length : Int))), (43, .sc (.int .i64 s8.2))] (lblks 0 [boxB (α := Cells) false c, .box [.sc (.int .i64 0), .sc (.int .i64 0), .sc (.slice none 0 0)], .box [.sc (.int .i64 c.W), .sc (.int .i64 c.H), slV Bound 3 0 0 s8.1.length], arrB (α := Bound) 43 0 true s8.1, boxB (α := Bound) true z12]) 5) (stack_Slide.l2 c dx dy s8) hR (s0 := (Bound.mk 0 0 false, 0)) (Weak.turnL [(0, 0), (1, 0), (2, 0), (3, 0), (16, 0), (84, 0)] [] rfl rfl (tc (.sc _) (tc (.sc _) (tc (trP' rfl rfl rfl rfl) (tc (trP' rfl rfl rfl rfl) (tc (trP' rfl rfl rfl rfl) (tc (.sc _) (tc (trP' rfl rfl rfl rfl) (tc (.sc _) (tc (.sc _) (tc (trS' rfl rfl rfl rfl rfl) (tc (.sc _) (tc (.sc _) tn)))))))))))) (mc rfl (.box rfl (.cons (.sc _) (.cons (.sc _) (.cons trR1 (.nil)))) rfl) (mc rfl (.box rfl (.cons (.sc _) (.cons (.sc _) (.cons (.sc _) (.nil)))) rfl) (mc rfl (.box rfl (.cons (.sc _) (.cons (.sc _) (.cons (trS' rfl rfl rfl rfl rfl) (.nil)))) rfl) (mc rfl (btrA' rfl) (mc rfl (.box rfl (.cons (.sc _) (.cons (.sc _) (.cons (.sc _) (.nil)))) rfl) (mc rfl (btrA' rfl) mn))))))) (fun s11 o11 hR => ?_) fun z12 hR => ?_
            · unfold stack_Slide.l2 at hR
              refine AWP.sq ?_
              refine AWP.rgC 10 rfl rfl ?_
              obtain ⟨v13, ev13, hR⟩ := letE hR
              refine pu (v := .sc _) rfl rfl (fun _ => puB ev13) ?_
              refine RunC.fin ?_
              refine AWP.sq ?_
              refine AWP.cd hR rfl (fun h14 hR => ?_) fun h14 hR => ?_
              · refine AWP.skip ?_
                refine skT ?_
                refine AWP.joinX (fun z15 : Bound => LS.mk [(1, .sc (.int .i64 dx)), (2, .sc (.int .i64 dy)), (3, .ptr 0 0 0), (6, .ptr 1 0 0), (9, .ptr 2 0 0), (10, .sc (.int .i64 s8.2)), (11, .ptr 4 0 0), (42, .sc (.int .i64 (c.At.length : Int))), (43, .sc (.int .i64 s8.2)), (62, slV Int 5 0 0 ([w6 ((w6 (256 - dx)) * (w6 (256 - dy))), w6 (dx * (w6 (256 - dy))), w6 ((w6 (256 - dx)) * dy), w6 (dx * dy)] : List Int).length), (63, .sc (.int .i64 (([w6 ((w6 (256 - dx)) * (w6 (256 - dy))), w6 (dx * (w6 (256 - dy))), w6 ((w6 (256 - dx)) * dy), w6 (dx * dy)] : List Int).length : Int))), (64, .sc (.int .i64 s11.2))] (lblks 0 [boxB (α := Cells) false c, .box [.sc (.int .i64 0), .sc (.int .i64 0), .sc (.slice none 0 0)], .box [.sc (.int .i64 c.W), .sc (.int .i64 c.H), slV Bound 3 0 0 s8.1.length], arrB (α := Bound) 43 0 true s8.1, boxB (α := Bound) true z15, arrB (α := Int) 39 0 true ([w6 ((w6 (256 - dx)) * (w6 (256 - dy))), w6 (dx * (w6 (256 - dy))), w6 ((w6 (256 - dx)) * dy), w6 (dx * dy)] : List Int)]) 6) hR (fun o15 hR => ?_) fun z15 hR => ?_
                · refine AWP.block ?_
                  refine AWP.sq ?_
                  refine AWP.rgC 30 rfl rfl ?_
                  refine pu (v := .sc _) rfl rfl (fun _ => rfl) ?_
                  obtain ⟨h16, hR⟩ := chkE hR
                  refine ixS0 (α := Int) rfl rfl rfl ti49 rfl ti39 rfl h16 ?_
                  refine ldE (α := Int) (v := .sc _) rfl rfl rfl (ixlt h16) ti39 rfl rfl rfl rfl ?_
                  refine pu (v := .sc _) rfl rfl (fun _ => rfl) ?_
                  refine pu (v := .sc _) rfl rfl (fun _ => rfl) ?_
                  refine RunC.fin ?_
                  refine AWP.sq ?_
                  refine AWP.rgC 38 rfl rfl ?_
                  refine pu (v := .sc _) rfl rfl (fun _ => rfl) ?_
                  obtain ⟨v17, ev17, hR⟩ := letE hR
                  refine pu (v := .sc _) rfl rfl (fun _ => puB ev17) ?_
                  refine RunC.fin ?_
                  refine AWP.cd hR rfl (fun h18 hR => ?_) fun h18 hR => ?_
                  · refine AWP.rgD 122 [0, 0, 0, 0, 8, 28, 0, 64, 252, 0, 0, 1024, 3584, 0, 8192, 32256, 65534, 0, 262142, 524287, 1048575] ⟨[], [some [4], some [0], none, none, some [0], none, none, none, none, none, none, some [0], none, none, none, none, none, none, none, none, some [4]]⟩ hmix (by kernel_rfl) rfl rfl ?_
                    refine ldB (v := .agg _) rfl rfl rfl rfl ti43 rfl rfl ?_
                    refine ldB (v := .agg _) rfl rfl rfl rfl ti33 rfl rfl ?_
                    refine pu (v := .sc _) rfl rfl (fun _ => rfl) ?_
                    refine fa rfl rfl ti33 rfl rfl ti3 rfl ?_
                    refine ldB (v := .sc _) rfl rfl rfl rfl ti3 rfl rfl ?_
                    obtain ⟨h19, hR⟩ := chkE hR
                    refine rm rfl rfl rfl h19 rfl ?_
                    refine pu (v := .sc _) rfl rfl (fun _ => rfl) ?_
                    refine rm rfl rfl rfl (by decide) rfl ?_
                    refine pu (v := .sc _) rfl rfl (fun _ => rfl) ?_
                    refine pu (v := .sc _) rfl rfl (fun _ => rfl) ?_
                    refine fa rfl rfl ti33 rfl rfl ti3 rfl ?_
                    refine ldB (v := .sc _) rfl rfl rfl rfl ti3 rfl rfl ?_
                    refine qu rfl rfl rfl h19 rfl ?_
                    refine pu (v := .sc _) rfl rfl (fun _ => rfl) ?_
                    refine qu rfl rfl rfl (by decide) rfl ?_
                    refine pu (v := .sc _) rfl rfl (fun _ => rfl) ?_
                    obtain ⟨r20, hr20, hR⟩ := bindE hR
                    refine cls [] rfl rfl cb14 (ok14 c (w6 ((Int.tmod s8.2 c.W) - (Int.tmod s11.2 2))) (w6 ((w6 (Int.tdiv s8.2 c.W)) - (w6 (Int.tdiv s11.2 2)))) _ hr20) (.cons (.agg (.cons (.sc _) (.cons (.sc _) (.cons ldR' (.nil)))) rfl) (.cons (.sc _) (.cons (.sc _) (.nil)))) (.inr rfl) rfl ?_
                    refine pu (v := .sc _) rfl rfl (fun _ => rfl) ?_
                    obtain ⟨r21, hr21, hR⟩ := bindE hR
                    refine cls [] rfl rfl cb16 (ok16 r20 (gt ([w6 ((w6 (256 - dx)) * (w6 (256 - dy))), w6 (dx * (w6 (256 - dy))), w6 ((w6 (256 - dx)) * dy), w6 (dx * dy)] : List Int) s11.2) 1 _ hr21) (.cons (.agg (.cons (.sc _) (.cons (.sc _) (.cons (.sc _) (.nil)))) rfl) (.cons (.sc _) (.cons (.sc _) (.nil)))) (.inr rfl) rfl ?_
                    obtain ⟨r22, hr22, hR⟩ := bindE hR
                    refine cls [] rfl rfl cb15 (ok15 s11.1 r21 _ hr22) (.cons (.agg (.cons (.sc _) (.cons (.sc _) (.cons (.sc _) (.nil)))) rfl) (.cons (.agg (.cons (.sc _) (.cons (.sc _) (.cons (.sc _) (.nil)))) rfl) (.nil))) (.inr rfl) rfl ?_
                    refine stB (cs' := [.sc (.int .i64 r22.Lo), .sc (.int .i64 r22.Hi), .sc (.bool r22.Unknown)]) rfl rfl rfl rfl ti43 rfl rfl rfl rfl rfl ?_
                    refine RunC.blk ?_
                    refine RunC.fin ?_
                    have hR := Option.some.inj hR; subst hR
                    exact Weak.turnL [(0, 0), (1, 0), (2, 0), (3, 0), (4, 0), (5, 0)] [] rfl rfl (tc (.sc _) (tc (.sc _) (tc (trP' rfl rfl rfl rfl) (tc (trP' rfl rfl rfl rfl) (tc (trP' rfl rfl rfl rfl) (tc (.sc _) (tc (trP' rfl rfl rfl rfl) (tc (.sc _) (tc (.sc _) (tc (trS' rfl rfl rfl rfl rfl) (tc (.sc _) (tc (.sc _) tn)))))))))))) (mc rfl (.box rfl (.cons (.sc _) (.cons (.sc _) (.cons trR1 (.nil)))) rfl) (mc rfl (.box rfl (.cons (.sc _) (.cons (.sc _) (.cons (.sc _) (.nil)))) rfl) (mc rfl (.box rfl (.cons (.sc _) (.cons (.sc _) (.cons (trS' rfl rfl rfl rfl rfl) (.nil)))) rfl) (mc rfl (btrA' rfl) (mc rfl (.box rfl (.cons (.sc _) (.cons (.sc _) (.cons (.sc _) (.nil)))) rfl) (mc rfl (btrA' rfl) mn))))))
                  · refine AWP.skip ?_
                    refine skB ?_
                    refine skT ?_
                    have hR := Option.some.inj hR; subst hR
                    exact Weak.turnL [(0, 0), (1, 0), (2, 0), (3, 0), (4, 0), (5, 0)] [] rfl rfl (tc (.sc _) (tc (.sc _) (tc (trP' rfl rfl rfl rfl) (tc (trP' rfl rfl rfl rfl) (tc (trP' rfl rfl rfl rfl) (tc (.sc _) (tc (trP' rfl rfl rfl rfl) (tc (.sc _) (tc (.sc _) (tc (trS' rfl rfl rfl rfl rfl) (tc (.sc _) (tc (.sc _) tn)))))))))))) (mc rfl (.box rfl (.cons (.sc _) (.cons (.sc _) (.cons trR1 (.nil)))) rfl) (mc rfl (.box rfl (.cons (.sc _) (.cons (.sc _) (.cons (.sc _) (.nil)))) rfl) (mc rfl (.box rfl (.cons (.sc _) (.cons (.sc _) (.cons (trS' rfl rfl rfl rfl rfl) (.nil)))) rfl) (mc rfl (btrA' rfl) (mc rfl (.box rfl (.cons (.sc _) (.cons (.sc _) (.cons (.sc _) (.nil)))) rfl) (mc rfl (btrA' rfl) mn))))))
                · refine AWP.rgC 14 rfl rfl ?_
                  refine pu (v := .sc _) rfl rfl (fun _ => rfl) ?_
                  refine pu (v := .sc _) rfl rfl (fun _ => rfl) ?_
                  refine RunC.fin ?_
                  refine ⟨(z15, w6 (s11.2 + 1)), (Option.some.inj hR).symm, ?_⟩
                  exact Weak.turnL [(0, 0), (1, 0), (2, 0), (3, 0), (4, 0), (5, 0)] [] rfl rfl (tc (.sc _) (tc (.sc _) (tc (trP' rfl rfl rfl rfl) (tc (trP' rfl rfl rfl rfl) (tc (trP' rfl rfl rfl rfl) (tc (.sc _) (tc (trP' rfl rfl rfl rfl) (tc (.sc _) (tc (.sc _) (tc (trS' rfl rfl rfl rfl rfl) (tc (.sc _) (tc (.sc _) tn)))))))))))) (mc rfl (.box rfl (.cons (.sc _) (.cons (.sc _) (.cons trR1 (.nil)))) rfl) (mc rfl (.box rfl (.cons (.sc _) (.cons (.sc _) (.cons (.sc _) (.nil)))) rfl) (mc rfl (.box rfl (.cons (.sc _) (.cons (.sc _) (.cons (trS' rfl rfl rfl rfl rfl) (.nil)))) rfl) (mc rfl (btrA' rfl) (mc rfl (.box rfl (.cons (.sc _) (.cons (.sc _) (.cons (.sc _) (.nil)))) rfl) (mc rfl (btrA' rfl) mn))))))
              · refine AWP.exit ?_
                refine exT ?_
                refine exT ?_
                refine exH (skT ?_)
                refine ⟨s11.1, (Option.some.inj hR).symm, ?_⟩
                exact Weak.turnL [(0, 0), (1, 0), (2, 0), (3, 0), (4, 0)] [] rfl rfl (tc (.sc _) (tc (.sc _) (tc (trP' rfl rfl rfl rfl) (tc (trP' rfl rfl rfl rfl) (tc (trP' rfl rfl rfl rfl) (tc (trP' rfl rfl rfl rfl) (tc (.sc _) (tc (.sc _) tn)))))))) (mc rfl (.box rfl (.cons (.sc _) (.cons (.sc _) (.cons trR1 (.nil)))) rfl) (mc rfl (.box rfl (.cons (.sc _) (.cons (.sc _) (.cons (.sc _) (.nil)))) rfl) (mc rfl (.box rfl (.cons (.sc _) (.cons (.sc _) (.cons (trS' rfl rfl rfl rfl rfl) (.nil)))) rfl) (mc rfl (btrA' rfl) (mc rfl (.box rfl (.cons (.sc _) (.cons (.sc _) (.cons (.sc _) (.nil)))) rfl) mn)))))
            · refine skT ?_
              refine AWP.rgD 37 [0, 1, 0, 4, 12, 31, 63, 127] ⟨[], [none, some [2], some [4], none, none, some [3, 21], none, some [2]]⟩ hmix (by kernel_rfl) rfl rfl ?_
              refine fa rfl rfl ti33 rfl rfl ti31 rfl ?_
              refine ldB (v := slV Bound _ _ _ _) rfl rfl rfl rfl ti31 rfl rfl ?_
              refine ldB (v := .agg _) rfl rfl rfl rfl ti43 rfl rfl ?_
              obtain ⟨r23, hr23, hR⟩ := bindE hR
              refine cls [] rfl rfl cb16 (ok16 z12 1 65536 _ hr23) (.cons (.agg (.cons (.sc _) (.cons (.sc _) (.cons (.sc _) (.nil)))) rfl) (.cons (.sc _) (.cons (.sc _) (.nil)))) (.inr rfl) rfl ?_
              refine bs (α := Bound) 21 true ([r23] : List Bound) rfl rfl ti31 rfl ti43 rfl rfl rfl rfl rfl ?_
              obtain ⟨h24, hR⟩ := chkE hR
              refine ap' (α := Bound) (nw := true) (xs := s8.1) (ys := ([r23] : List Bound)) rfl rfl rfl rfl (srcS' rfl rfl rfl) ti31 rfl ti43 rfl h24 rfl ?_
              refine fa rfl rfl ti33 rfl rfl ti31 rfl ?_
              refine stB (cs' := [.sc (.int .i64 c.W), .sc (.int .i64 c.H), slV Bound 3 1 0 (s8.1 ++ ([r23] : List Bound)).length]) rfl rfl rfl rfl ti31 rfl rfl rfl rfl rfl ?_
              refine RunC.blk ?_
              refine RunC.fin ?_
              refine AWP.rgC 45 rfl rfl ?_
              refine pu (v := .sc _) rfl rfl (fun _ => rfl) ?_
              refine pu (v := .sc _) rfl rfl (fun _ => rfl) ?_
              refine RunC.fin ?_
              refine ⟨(s8.1 ++ ([r23] : List Bound), w6 (s8.2 + 1)), (Option.some.inj hR).symm, ?_⟩
              exact Weak.turnL [(0, 0), (1, 0), (2, 0), (3, 0)] [] rfl rfl (tc (.sc _) (tc (.sc _) (tc (trP' rfl rfl rfl rfl) (tc (trP' rfl rfl rfl rfl) (tc (trP' rfl rfl rfl rfl) (tc (.sc _) (tc (.sc _) tn))))))) (mc rfl (.box rfl (.cons (.sc _) (.cons (.sc _) (.cons trR1 (.nil)))) rfl) (mc rfl (.box rfl (.cons (.sc _) (.cons (.sc _) (.cons (.sc _) (.nil)))) rfl) (mc rfl (.box rfl (.cons (.sc _) (.cons (.sc _) (.cons (trS' rfl rfl rfl rfl rfl) (.nil)))) rfl) (mc rfl (btrA' rfl) mn))))
          · refine AWP.exit ?_
            refine exT ?_
            refine exT ?_
            refine exH (skT ?_)
            refine ⟨s8.1, (Option.some.inj hR).symm, ?_⟩
            exact Weak.turnL [(1, 0), (2, 0), (3, 0)] [] rfl rfl (tc (trP' rfl rfl rfl rfl) (tc (trP' rfl rfl rfl rfl) tn)) (mc rfl (.box rfl (.cons (.sc _) (.cons (.sc _) (.cons (.sc _) (.nil)))) rfl) (mc rfl (.box rfl (.cons (.sc _) (.cons (.sc _) (.cons (trS' rfl rfl rfl rfl rfl) (.nil)))) rfl) (mc rfl (btrA' rfl) mn)))
        · refine skT ?_
          refine AWP.sq ?_
          refine AWP.rgC 15 rfl rfl ?_
          refine ldB (v := .agg _) rfl rfl rfl rfl ti33 rfl rfl ?_
          refine stB (cs' := [.sc (.int .i64 c.W), .sc (.int .i64 c.H), slV Bound 2 0 0 z9.length]) rfl rfl rfl rfl ti33 rfl rfl rfl rfl rfl ?_
          refine pu (v := .sc _) rfl rfl (fun _ => rfl) ?_
          refine RunC.fin ?_
          refine AWP.ret ?_
          have hR := Option.some.inj hR; subst hR
          exact hQ _ _ (LS.mk [(6, .ptr 0 0 0), (7, .sc (.int .i64 0))] (lblks 0 [boxB (α := Cells) true (Cells.mk c.W c.H z9)]) 1) (.tup [aggV (α := Cells) true (Cells.mk c.W c.H z9), .sc (.int .i64 0)]) [] (.inr rfl) (Weak.turnL [(0, 0)] [2] rfl rfl (tc (trP' rfl rfl rfl rfl) (tc (.sc _) tn)) (mc rfl (.box rfl (.cons (.sc _) (.cons (.sc _) (.cons (trF' rfl rfl id rfl) (.nil)))) rfl) mn)) (ro2 (rvC (v := aggV (α := Cells) true (Cells.mk c.W c.H z9)) rfl rfl ti33 rfl) (rvT (v := .sc (.int .i64 0)) rfl)) rfl rfl (.tup (.cons ldA (.cons (.sc _) .nil))) pn
theorem ok8 (c : Cells) (dx : Int) (dy : Int) (r : Cells × Int) (hR : stack_Move c dx dy = some r) : FnP Try.prog 8 [aggV false c, .sc (.int .i64 dx), .sc (.int .i64 dy)] (.tup [aggV (α := Cells) true r.1, .sc (.int .i64 r.2)]) := by
  refine fnP_of (FnX.walk Try.func8 rfl 64 0 (by simp [Try.ntmps8]) rfl fun W S F Q hQ => ?_)
  unfold stack_Move at hR
  refine AWP.sq ?_
  refine AWP.rgC 12 rfl rfl ?_
  refine bx (cs := _) 0 rfl rfl rfl ?_
  refine al (cs := [.sc (.int .i64 0), .sc (.int .i64 0), .sc (.slice none 0 0)]) 4 rfl rfl ti33 rfl rfl ?_
  refine pu (v := .sc _) rfl rfl (fun _ => rfl) ?_
  refine RunC.fin ?_
  refine AWP.sq ?_
  refine AWP.sq ?_
  refine AWP.rgC 24 rfl rfl ?_
  refine ldB (v := .agg _) rfl rfl rfl rfl ti33 rfl rfl ?_
  obtain ⟨r1, hr1, hR⟩ := bindE hR
  refine cls [] rfl rfl cb13 (ok13 c _ hr1) (.cons (.agg (.cons (.sc _) (.cons (.sc _) (.cons ldR' (.nil)))) rfl) (.nil)) (.inr rfl) rfl ?_
  refine pu (v := .sc _) rfl rfl (fun _ => rfl) ?_
  refine RunC.fin ?_
  refine AWP.sq ?_
  refine AWP.rgC 32 rfl rfl ?_
  refine pu (v := .sc _) rfl rfl (fun _ => rfl) ?_
  refine pu (v := .sc _) rfl rfl (fun _ => rfl) ?_
  refine RunC.fin ?_
  refine AWP.cd hR rfl (fun h2 hR => ?_) fun h2 hR => ?_
  · refine AWP.sq ?_
    refine AWP.rgC 48 rfl rfl ?_
    refine bu (cs := [.sc (.int .i64 0), .sc (.int .i64 0), .sc (.slice none 0 0)]) rfl bt33 rfl ?_
    refine pu (v := .sc _) rfl rfl (fun _ => rfl) ?_
    refine stB (cs' := [.sc (.int .i64 0), .sc (.int .i64 0), .sc (.slice none 0 0)]) rfl rfl rfl rfl ti33 rfl rfl rfl rfl rfl ?_
    refine pu (v := .sc _) rfl rfl (fun _ => rfl) ?_
    refine RunC.fin ?_
    refine AWP.ret ?_
    refine rtT ?_
    have hR := Option.some.inj hR; subst hR
    exact hQ _ _ (LS.mk [(6, .ptr 0 0 0), (7, .sc (.int .i64 r1))] (lblks 0 [boxB (α := Cells) true (Cells.mk 0 0 [])]) 1) (.tup [aggV (α := Cells) true (Cells.mk 0 0 []), .sc (.int .i64 r1)]) [] (.inr rfl) (Weak.turnL [(4, 0)] [] rfl rfl (tc (trP' rfl rfl rfl rfl) (tc (.sc _) tn)) (mc rfl (.box rfl (.cons (.sc _) (.cons (.sc _) (.cons trN (.nil)))) rfl) mn)) (ro2 (rvC (v := aggV (α := Cells) true (Cells.mk 0 0 [])) rfl rfl ti33 rfl) (rvT (v := .sc (.int .i64 r1)) rfl)) rfl rfl (.tup (.cons ldA (.cons (.sc _) .nil))) pn
  · refine AWP.skip ?_
    refine skT ?_
    refine AWP.sq ?_
    refine AWP.joinX (fun z3 : Bool => LS.mk [(1, .sc (.int .i64 dx)), (2, .sc (.int .i64 dy)), (3, .ptr 0 0 0), (6, .ptr 1 0 0), (30, .sc (.bool z3))] (lblks 0 [boxB (α := Cells) false c, .box [.sc (.int .i64 0), .sc (.int .i64 0), .sc (.slice none 0 0)]]) 2) hR (fun o3 hR => ?_) fun z3 hR => ?_
    · refine AWP.rgC 88 rfl rfl ?_
      refine pu (v := .sc _) rfl rfl (fun _ => rfl) ?_
      refine pu (v := .sc _) rfl rfl (fun _ => rfl) ?_
      refine pu (v := .sc _) rfl rfl (fun _ => rfl) ?_
      refine brR hR (fun h4 hR => ?_) fun h4 hR => ?_
      · refine sk (skW rfl rfl rfl h4) ?_
        refine sk (skW rfl rfl rfl h4) ?_
        refine pkT (v := .sc (.bool true)) rfl rfl h4 rfl ?_
        refine pu (v := .sc _) rfl rfl (fun _ => rfl) ?_
        refine sk (skW rfl rfl rfl rfl) ?_
        refine sk (skW rfl rfl rfl rfl) ?_
        refine pkT (v := .sc (.bool true)) rfl rfl rfl rfl ?_
        refine pu (v := .sc _) rfl rfl (fun _ => rfl) ?_
        refine sk (skW rfl rfl rfl rfl) ?_
        refine sk (skW rfl rfl rfl rfl) ?_
        refine pkT (v := .sc (.bool true)) rfl rfl rfl rfl ?_
        refine RunC.fin ?_
        have hR := Option.some.inj hR; subst hR
        exact Weak.turnL [(0, 0), (4, 0)] [] rfl rfl (tc (.sc _) (tc (.sc _) (tc (trP' rfl rfl rfl rfl) (tc (trP' rfl rfl rfl rfl) (tc (.sc _) tn))))) (mc rfl (.box rfl (.cons (.sc _) (.cons (.sc _) (.cons trR1 (.nil)))) rfl) (mc rfl (.box rfl (.cons (.sc _) (.cons (.sc _) (.cons (.sc _) (.nil)))) rfl) mn))
      · refine pu (v := .sc _) (wtG rfl rfl rfl h4) rfl (fun _ => rfl) ?_
        refine pu (v := .sc _) (wtG rfl rfl rfl h4) rfl (fun _ => rfl) ?_
        refine pkF (v := .sc (.bool (decide (dx ≥ 32)))) rfl rfl h4 rfl ?_
        refine pu (v := .sc _) rfl rfl (fun _ => rfl) ?_
        refine brR hR (fun h5 hR => ?_) fun h5 hR => ?_
        · refine sk (skW rfl rfl rfl h5) ?_
          refine sk (skW rfl rfl rfl h5) ?_
          refine pkT (v := .sc (.bool true)) rfl rfl h5 rfl ?_
          refine pu (v := .sc _) rfl rfl (fun _ => rfl) ?_
          refine sk (skW rfl rfl rfl rfl) ?_
          refine sk (skW rfl rfl rfl rfl) ?_
          refine pkT (v := .sc (.bool true)) rfl rfl rfl rfl ?_
          refine RunC.fin ?_
          have hR := Option.some.inj hR; subst hR
          exact Weak.turnL [(0, 0), (4, 0)] [] rfl rfl (tc (.sc _) (tc (.sc _) (tc (trP' rfl rfl rfl rfl) (tc (trP' rfl rfl rfl rfl) (tc (.sc _) tn))))) (mc rfl (.box rfl (.cons (.sc _) (.cons (.sc _) (.cons trR1 (.nil)))) rfl) (mc rfl (.box rfl (.cons (.sc _) (.cons (.sc _) (.cons (.sc _) (.nil)))) rfl) mn))
        · refine pu (v := .sc _) (wtG rfl rfl rfl h5) rfl (fun _ => rfl) ?_
          refine pu (v := .sc _) (wtG rfl rfl rfl h5) rfl (fun _ => rfl) ?_
          refine pkF (v := .sc (.bool (decide (dy ≤ (-32))))) rfl rfl h5 rfl ?_
          refine pu (v := .sc _) rfl rfl (fun _ => rfl) ?_
          refine brR hR (fun h6 hR => ?_) fun h6 hR => ?_
          · refine sk (skW rfl rfl rfl h6) ?_
            refine sk (skW rfl rfl rfl h6) ?_
            refine pkT (v := .sc (.bool true)) rfl rfl h6 rfl ?_
            refine RunC.fin ?_
            have hR := Option.some.inj hR; subst hR
            exact Weak.turnL [(0, 0), (4, 0)] [] rfl rfl (tc (.sc _) (tc (.sc _) (tc (trP' rfl rfl rfl rfl) (tc (trP' rfl rfl rfl rfl) (tc (.sc _) tn))))) (mc rfl (.box rfl (.cons (.sc _) (.cons (.sc _) (.cons trR1 (.nil)))) rfl) (mc rfl (.box rfl (.cons (.sc _) (.cons (.sc _) (.cons (.sc _) (.nil)))) rfl) mn))
          · refine pu (v := .sc _) (wtG rfl rfl rfl h6) rfl (fun _ => rfl) ?_
            refine pu (v := .sc _) (wtG rfl rfl rfl h6) rfl (fun _ => rfl) ?_
            refine pkF (v := .sc (.bool (decide (dy ≥ 32)))) rfl rfl h6 rfl ?_
            refine RunC.fin ?_
            have hR := Option.some.inj hR; subst hR
            exact Weak.turnL [(0, 0), (4, 0)] [] rfl rfl (tc (.sc _) (tc (.sc _) (tc (trP' rfl rfl rfl rfl) (tc (trP' rfl rfl rfl rfl) (tc (.sc _) tn))))) (mc rfl (.box rfl (.cons (.sc _) (.cons (.sc _) (.cons trR1 (.nil)))) rfl) (mc rfl (.box rfl (.cons (.sc _) (.cons (.sc _) (.cons (.sc _) (.nil)))) rfl) mn))
    · refine AWP.cd hR rfl (fun h7 hR => ?_) fun h7 hR => ?_
      · refine AWP.sq ?_
        refine AWP.rgC 14 rfl rfl ?_
        refine bu (cs := [.sc (.int .i64 0), .sc (.int .i64 0), .sc (.slice none 0 0)]) rfl bt33 rfl ?_
        refine stB (cs' := [.sc (.int .i64 0), .sc (.int .i64 0), .sc (.slice none 0 0)]) rfl rfl rfl rfl ti33 rfl rfl rfl rfl rfl ?_
        refine pu (v := .sc _) rfl rfl (fun _ => rfl) ?_
        refine RunC.fin ?_
        refine AWP.ret ?_
        refine rtT ?_
        have hR := Option.some.inj hR; subst hR
        exact hQ _ _ (LS.mk [(6, .ptr 0 0 0), (7, .sc (.int .i64 4))] (lblks 0 [boxB (α := Cells) true (Cells.mk 0 0 [])]) 1) (.tup [aggV (α := Cells) true (Cells.mk 0 0 []), .sc (.int .i64 4)]) [] (.inr rfl) (Weak.turnL [(1, 0)] [] rfl rfl (tc (trP' rfl rfl rfl rfl) (tc (.sc _) tn)) (mc rfl (.box rfl (.cons (.sc _) (.cons (.sc _) (.cons trN (.nil)))) rfl) mn)) (ro2 (rvC (v := aggV (α := Cells) true (Cells.mk 0 0 [])) rfl rfl ti33 rfl) (rvT (v := .sc (.int .i64 4)) rfl)) rfl rfl (.tup (.cons ldA (.cons (.sc _) .nil))) pn
      · refine AWP.skip ?_
        refine skT ?_
        refine AWP.sq ?_
        refine AWP.rgC 30 rfl rfl ?_
        refine fa rfl rfl ti33 rfl rfl ti3 rfl ?_
        refine ldB (v := .sc _) rfl rfl rfl rfl ti3 rfl rfl ?_
        refine fa rfl rfl ti33 rfl rfl ti3 rfl ?_
        refine ldB (v := .sc _) rfl rfl rfl rfl ti3 rfl rfl ?_
        refine bu (cs := [.sc (.int .i64 c.W), .sc (.int .i64 c.H), .sc (.slice none 0 0)]) rfl bt33 rfl ?_
        refine al (cs := [.sc (.int .i64 0), .sc (.int .i64 0), .sc (.slice none 0 0)]) 22 rfl rfl ti33 rfl rfl ?_
        refine stB (cs' := [.sc (.int .i64 c.W), .sc (.int .i64 c.H), .sc (.slice none 0 0)]) rfl rfl rfl rfl ti33 rfl rfl rfl rfl rfl ?_
        refine RunC.fin ?_
        refine AWP.sq ?_
        refine AWP.sq ?_
        refine AWP.rgC 46 rfl rfl ?_
        refine fa rfl rfl ti33 rfl rfl ti31 rfl ?_
        refine ldB (v := rowV _ c.At) rfl rfl rfl rfl ti31 rfl rfl ?_
        refine lenL (α := Bound) rfl rfl ti31 rfl ?_
        refine pu (v := .sc _) rfl rfl (fun _ => rfl) ?_
        refine RunC.fin ?_
        refine AWP.nilB Bound 22 2 43 rfl rfl (cs' := [.sc (.int .i64 c.W), .sc (.int .i64 c.H), slV Bound 46 0 0 0]) rfl ?_
        refine AWP.loopJ (fun s8 : (List Bound) × Int => LS.mk [(1, .sc (.int .i64 dx)), (2, .sc (.int .i64 dy)), (3, .ptr 0 0 0), (6, .ptr 1 0 0), (9, .ptr 2 0 0), (39, .sc (.int .i64 (c.At.length : Int))), (40, .sc (.int .i64 s8.2))] (lblks 0 [boxB (α := Cells) false c, .box [.sc (.int .i64 0), .sc (.int .i64 0), .sc (.slice none 0 0)], .box [.sc (.int .i64 c.W), .sc (.int .i64 c.H), slV Bound 3 0 0 s8.1.length], arrB (α := Bound) 43 0 true s8.1]) 4) (fun z9 : (List Bound) => LS.mk [(6, .ptr 0 0 0), (9, .ptr 1 0 0)] (lblks 0 [.box [.sc (.int .i64 0), .sc (.int .i64 0), .sc (.slice none 0 0)], .box [.sc (.int .i64 c.W), .sc (.int .i64 c.H), slV Bound 2 0 0 z9.length], arrB (α := Bound) 43 0 true z9]) 3) (stack_Move.l1 c dx dy) hR (s0 := (([] : List Bound), 0)) (Weak.turnL [(0, 0), (1, 0), (22, 0), (46, 0)] [] rfl rfl (tc (.sc _) (tc (.sc _) (tc (trP' rfl rfl rfl rfl) (tc (trP' rfl rfl rfl rfl) (tc (trP' rfl rfl rfl rfl) (tc (.sc _) (tc (.sc _) tn))))))) (mc rfl (.box rfl (.cons (.sc _) (.cons (.sc _) (.cons trR1 (.nil)))) rfl) (mc rfl (.box rfl (.cons (.sc _) (.cons (.sc _) (.cons (.sc _) (.nil)))) rfl) (mc rfl (.box rfl (.cons (.sc _) (.cons (.sc _) (.cons (trS' rfl rfl rfl rfl rfl) (.nil)))) rfl) (mc rfl (btrA' rfl) mn))))) (fun s8 o8 hR => ?_) fun z9 hR => ?_
        · unfold stack_Move.l1 at hR
          refine AWP.sq ?_
          refine AWP.rgC 8 rfl rfl ?_
          refine pu (v := .sc _) rfl rfl (fun _ => rfl) ?_
          refine RunC.fin ?_
          refine AWP.sq ?_
          refine AWP.cd hR rfl (fun h10 hR => ?_) fun h10 hR => ?_
          · refine AWP.skip ?_
            refine skT ?_
            refine AWP.sq ?_
            refine AWP.block ?_
            refine AWP.sq ?_
            refine AWP.rgC 16 rfl rfl ?_
            refine pu (v := .sc _) rfl rfl (fun _ => rfl) ?_
            refine pu (v := .sc _) rfl rfl (fun _ => rfl) ?_
            refine RunC.fin ?_
            refine AWP.rgD 96 [0, 1, 0, 0, 0, 16, 56, 0, 248, 0, 0, 1024, 3584, 0, 15872, 32764, 65532, 131071, 262143, 524287] ⟨[], [none, some [2], some [0], none, none, some [0], none, none, none, none, none, some [0], none, none, none, none, none, some [3, 80], none, some [2]]⟩ hmix (by kernel_rfl) rfl rfl ?_
            refine fa rfl rfl ti33 rfl rfl ti31 rfl ?_
            refine ldB (v := slV Bound _ _ _ _) rfl rfl rfl rfl ti31 rfl rfl ?_
            refine ldB (v := .agg _) rfl rfl rfl rfl ti33 rfl rfl ?_
            refine pu (v := .sc _) rfl rfl (fun _ => rfl) ?_
            refine fa rfl rfl ti33 rfl rfl ti3 rfl ?_
            refine ldB (v := .sc _) rfl rfl rfl rfl ti3 rfl rfl ?_
            obtain ⟨h11, hR⟩ := chkE hR
            refine rm rfl rfl rfl h11 rfl ?_
            refine pu (v := .sc _) rfl rfl (fun _ => rfl) ?_
            refine pu (v := .sc _) rfl rfl (fun _ => rfl) ?_
            refine pu (v := .sc _) rfl rfl (fun _ => rfl) ?_
            refine fa rfl rfl ti33 rfl rfl ti3 rfl ?_
            refine ldB (v := .sc _) rfl rfl rfl rfl ti3 rfl rfl ?_
            refine qu rfl rfl rfl h11 rfl ?_
            refine pu (v := .sc _) rfl rfl (fun _ => rfl) ?_
            refine pu (v := .sc _) rfl rfl (fun _ => rfl) ?_
            obtain ⟨r12, hr12, hR⟩ := bindE hR
            refine cls [] rfl rfl cb14 (ok14 c (w6 ((Int.tmod s8.2 c.W) - dx)) (w6 ((w6 (Int.tdiv s8.2 c.W)) - dy)) _ hr12) (.cons (.agg (.cons (.sc _) (.cons (.sc _) (.cons ldR' (.nil)))) rfl) (.cons (.sc _) (.cons (.sc _) (.nil)))) (.inr rfl) rfl ?_
            refine bs (α := Bound) 80 true ([r12] : List Bound) rfl rfl ti31 rfl ti43 rfl rfl rfl rfl rfl ?_
            obtain ⟨h13, hR⟩ := chkE hR
            refine ap' (α := Bound) (nw := true) (xs := s8.1) (ys := ([r12] : List Bound)) rfl rfl rfl rfl (srcS' rfl rfl rfl) ti31 rfl ti43 rfl h13 rfl ?_
            refine fa rfl rfl ti33 rfl rfl ti31 rfl ?_
            refine stB (cs' := [.sc (.int .i64 c.W), .sc (.int .i64 c.H), slV Bound 3 1 0 (s8.1 ++ ([r12] : List Bound)).length]) rfl rfl rfl rfl ti31 rfl rfl rfl rfl rfl ?_
            refine RunC.blk ?_
            refine RunC.fin ?_
            refine AWP.rgC 104 rfl rfl ?_
            refine pu (v := .sc _) rfl rfl (fun _ => rfl) ?_
            refine pu (v := .sc _) rfl rfl (fun _ => rfl) ?_
            refine RunC.fin ?_
            refine ⟨(s8.1 ++ ([r12] : List Bound), w6 (s8.2 + 1)), (Option.some.inj hR).symm, ?_⟩
            exact Weak.turnL [(0, 0), (1, 0), (2, 0), (3, 0)] [] rfl rfl (tc (.sc _) (tc (.sc _) (tc (trP' rfl rfl rfl rfl) (tc (trP' rfl rfl rfl rfl) (tc (trP' rfl rfl rfl rfl) (tc (.sc _) (tc (.sc _) tn))))))) (mc rfl (.box rfl (.cons (.sc _) (.cons (.sc _) (.cons trR1 (.nil)))) rfl) (mc rfl (.box rfl (.cons (.sc _) (.cons (.sc _) (.cons (.sc _) (.nil)))) rfl) (mc rfl (.box rfl (.cons (.sc _) (.cons (.sc _) (.cons (trS' rfl rfl rfl rfl rfl) (.nil)))) rfl) (mc rfl (btrA' rfl) mn))))
          · refine AWP.exit ?_
            refine exT ?_
            refine exT ?_
            refine exH (skT ?_)
            refine ⟨s8.1, (Option.some.inj hR).symm, ?_⟩
            exact Weak.turnL [(1, 0), (2, 0), (3, 0)] [] rfl rfl (tc (trP' rfl rfl rfl rfl) (tc (trP' rfl rfl rfl rfl) tn)) (mc rfl (.box rfl (.cons (.sc _) (.cons (.sc _) (.cons (.sc _) (.nil)))) rfl) (mc rfl (.box rfl (.cons (.sc _) (.cons (.sc _) (.cons (trS' rfl rfl rfl rfl rfl) (.nil)))) rfl) (mc rfl (btrA' rfl) mn)))
        · refine skT ?_
          refine AWP.sq ?_
          refine AWP.rgC 15 rfl rfl ?_
          refine ldB (v := .agg _) rfl rfl rfl rfl ti33 rfl rfl ?_
          refine stB (cs' := [.sc (.int .i64 c.W), .sc (.int .i64 c.H), slV Bound 2 0 0 z9.length]) rfl rfl rfl rfl ti33 rfl rfl rfl rfl rfl ?_
          refine pu (v := .sc _) rfl rfl (fun _ => rfl) ?_
          refine RunC.fin ?_
          refine AWP.ret ?_
          have hR := Option.some.inj hR; subst hR
          exact hQ _ _ (LS.mk [(6, .ptr 0 0 0), (7, .sc (.int .i64 0))] (lblks 0 [boxB (α := Cells) true (Cells.mk c.W c.H z9)]) 1) (.tup [aggV (α := Cells) true (Cells.mk c.W c.H z9), .sc (.int .i64 0)]) [] (.inr rfl) (Weak.turnL [(0, 0)] [2] rfl rfl (tc (trP' rfl rfl rfl rfl) (tc (.sc _) tn)) (mc rfl (.box rfl (.cons (.sc _) (.cons (.sc _) (.cons (trF' rfl rfl id rfl) (.nil)))) rfl) mn)) (ro2 (rvC (v := aggV (α := Cells) true (Cells.mk c.W c.H z9)) rfl rfl ti33 rfl) (rvT (v := .sc (.int .i64 0)) rfl)) rfl rfl (.tup (.cons ldA (.cons (.sc _) .nil))) pn
theorem ok6 (s : spymake_Stream) (w : Int) (h : Int) (light : List Int) (holes : Bool) (r : Cells × spymake_Stream) (hR : Stream_Veil s w h light holes = some r) : FnD Try.prog 6 [boxB false s] [.ptr 0 0 0, .sc (.int .i64 w), .sc (.int .i64 h), rowV false light, .sc (.bool holes)] (aggV (α := Cells) true r.1) [boxB false r.2] := by
  refine FnX.walk Try.func6 rfl 58 1 (by simp [Try.ntmps6]) rfl fun W S F Q hQ => ?_
  unfold Stream_Veil at hR
  refine AWP.sq ?_
  refine AWP.rgC 5 rfl rfl ?_
  refine al (cs := [.sc (.int .i64 0), .sc (.int .i64 0), .sc (.slice none 0 0)]) 1 rfl rfl ti33 rfl rfl ?_
  refine RunC.fin ?_
  refine AWP.sq ?_
  refine AWP.rgC 25 rfl rfl ?_
  refine pu (v := .sc _) rfl rfl (fun _ => rfl) ?_
  refine pu (v := .sc _) rfl rfl (fun _ => rfl) ?_
  refine bu (cs := [.sc (.int .i64 w), .sc (.int .i64 h), .sc (.slice none 0 0)]) rfl bt33 rfl ?_
  refine al (cs := [.sc (.int .i64 0), .sc (.int .i64 0), .sc (.slice none 0 0)]) 17 rfl rfl ti33 rfl rfl ?_
  refine stB (cs' := [.sc (.int .i64 w), .sc (.int .i64 h), .sc (.slice none 0 0)]) rfl rfl rfl rfl ti33 rfl rfl rfl rfl rfl ?_
  refine RunC.fin ?_
  refine AWP.sq ?_
  refine AWP.rgC 49 rfl rfl ?_
  refine bs (α := Int) 25 true ([0, 3, 30, 200] : List Int) rfl rfl ti22 rfl ti3 rfl rfl rfl rfl rfl ?_
  refine pu (v := .ptr _ _ _) rfl rfl (fun _ => rfl) ?_
  obtain ⟨r1, hr1, hR⟩ := bindE hR
  refine cps (res' := .sc (.int .i64 r1.1)) (ups := [(0, boxB (α := spymake_Stream) false r1.2)]) [0] 33 rfl rfl rfl cb12 (ok12 s 4 _ hr1) (.cons (ldP rfl rfl) (.cons (.sc _) (.nil))) (pc rfl (.box (.cons ldR' (.cons (.sc _) (.nil))) rfl) pn) rfl rfl rfl rfl rfl (by first | rfl | exact renR | exact renA | exact renS | simp only [V.ren, V.rens, renR, renA, renS] | (simp only [V.ren, V.rens, renR, renA, renS]; rfl)) (by simp only [passUps, renBox, renArr]; rfl) ?_
  obtain ⟨h2, hR⟩ := chkE hR
  refine ixS0 (α := Int) rfl rfl rfl ti22 rfl ti3 rfl h2 ?_
  refine ldE (α := Int) (v := .sc _) rfl rfl rfl (ixlt h2) ti3 rfl rfl rfl rfl ?_
  refine pu (v := .sc _) rfl rfl (fun _ => rfl) ?_
  refine RunC.fin ?_
  refine AWP.sq ?_
  refine AWP.sq ?_
  refine AWP.rgC 61 rfl rfl ?_
  refine pu (v := rowV _ light) rfl rfl (fun _ => rfl) ?_
  refine lenL (α := Int) rfl rfl ti27 rfl ?_
  refine pu (v := .sc _) rfl rfl (fun _ => rfl) ?_
  refine RunC.fin ?_
  refine AWP.nilB Bound 17 2 43 rfl rfl (cs' := [.sc (.int .i64 w), .sc (.int .i64 h), slV Bound 61 0 0 0]) rfl ?_
  refine AWP.loopJ (fun s3 : spymake_Stream × (List Bound) × Int => LS.mk [(0, .ptr 0 0 0), (4, .sc (.bool holes)), (10, .ptr 1 0 0), (11, .ptr 2 0 0), (12, .sc (.int .i64 (gt ([0, 3, 30, 200] : List Int) r1.1))), (24, rowV (α := Int) false light), (25, .sc (.int .i64 (light.length : Int))), (26, .sc (.int .i64 s3.2.2))] (lblks 0 [boxB (α := spymake_Stream) false s3.1, .box [.sc (.int .i64 0), .sc (.int .i64 0), .sc (.slice none 0 0)], .box [.sc (.int .i64 w), .sc (.int .i64 h), slV Bound 3 0 0 s3.2.1.length], arrB (α := Bound) 43 0 true s3.2.1]) 4) (fun z4 : spymake_Stream × (List Bound) => LS.mk [(10, .ptr 1 0 0), (11, .ptr 2 0 0)] (lblks 0 [boxB (α := spymake_Stream) false z4.1, .box [.sc (.int .i64 0), .sc (.int .i64 0), .sc (.slice none 0 0)], .box [.sc (.int .i64 w), .sc (.int .i64 h), slV Bound 3 0 0 z4.2.length], arrB (α := Bound) 43 0 true z4.2]) 4) (Stream_Veil.l1 light holes r1) hR (s0 := (r1.2, ([] : List Bound), 0)) (Weak.turnL [(0, 0), (1, 0), (17, 0), (61, 0)] [] rfl rfl (tc (trP' rfl rfl rfl rfl) (tc (.sc _) (tc (trP' rfl rfl rfl rfl) (tc (trP' rfl rfl rfl rfl) (tc (.sc _) (tc trR1 (tc (.sc _) (tc (.sc _) tn)))))))) (mc rfl (.box rfl (.cons trR1 (.cons (.sc _) (.nil))) rfl) (mc rfl (.box rfl (.cons (.sc _) (.cons (.sc _) (.cons (.sc _) (.nil)))) rfl) (mc rfl (.box rfl (.cons (.sc _) (.cons (.sc _) (.cons (trS' rfl rfl rfl rfl rfl) (.nil)))) rfl) (mc rfl (btrA' rfl) mn))))) (fun s3 o3 hR => ?_) fun z4 hR => ?_
  · unfold Stream_Veil.l1 at hR
    refine AWP.sq ?_
    refine AWP.rgC 8 rfl rfl ?_
    refine pu (v := .sc _) rfl rfl (fun _ => rfl) ?_
    refine RunC.fin ?_
    refine AWP.sq ?_
    refine AWP.cd hR rfl (fun h5 hR => ?_) fun h5 hR => ?_
    · refine AWP.skip ?_
      refine skT ?_
      refine AWP.sq ?_
      refine AWP.block ?_
      refine AWP.sq ?_
      refine AWP.rgC 20 rfl rfl ?_
      obtain ⟨h6, hR⟩ := chkE hR
      refine ixL (α := Int) rfl rfl rfl ti27 rfl ti28 rfl h6 ?_
      refine ldR (v := .sc _) rfl rfl ti28 rfl ?_
      refine pu (v := .sc _) rfl rfl (fun _ => rfl) ?_
      refine RunC.fin ?_
      refine AWP.sq ?_
      refine AWP.rgC 80 rfl rfl ?_
      refine pu (v := .sc _) rfl rfl (fun _ => rfl) ?_
      refine pu (v := .ptr _ _ _) rfl rfl (fun _ => rfl) ?_
      refine pu (v := .sc _) rfl rfl (fun _ => rfl) ?_
      refine pu (v := .sc _) rfl rfl (fun _ => rfl) ?_
      obtain ⟨r7, hr7, hR⟩ := bindE hR
      refine cps (res' := .sc (.int .i64 r7.1)) (ups := [(0, boxB (α := spymake_Stream) false r7.2)]) [0] 36 rfl rfl rfl cb12 (ok12 s3.1 (w6 ((gt ([0, 3, 30, 200] : List Int) r1.1) + 1)) _ hr7) (.cons (ldP rfl rfl) (.cons (.sc _) (.nil))) (pc rfl (.box (.cons ldR' (.cons (.sc _) (.nil))) rfl) pn) rfl rfl rfl rfl rfl (by first | rfl | exact renR | exact renA | exact renS | simp only [V.ren, V.rens, renR, renA, renS] | (simp only [V.ren, V.rens, renR, renA, renS]; rfl)) (by simp only [passUps, renBox, renArr]; rfl) ?_
      refine pu (v := .sc _) rfl rfl (fun _ => rfl) ?_
      refine pu (v := .sc _) rfl rfl (fun _ => rfl) ?_
      refine pu (v := .ptr _ _ _) rfl rfl (fun _ => rfl) ?_
      refine pu (v := .sc _) rfl rfl (fun _ => rfl) ?_
      refine pu (v := .sc _) rfl rfl (fun _ => rfl) ?_
      obtain ⟨r8, hr8, hR⟩ := bindE hR
      refine cps (res' := .sc (.int .i64 r8.1)) (ups := [(0, boxB (α := spymake_Stream) false r8.2)]) [0] 60 rfl rfl rfl cb12 (ok12 r7.2 (w6 ((gt ([0, 3, 30, 200] : List Int) r1.1) + 1)) _ hr8) (.cons (ldP rfl rfl) (.cons (.sc _) (.nil))) (pc rfl (.box (.cons ldR' (.cons (.sc _) (.nil))) rfl) pn) rfl rfl rfl rfl rfl (by first | rfl | exact renR | exact renA | exact renS | simp only [V.ren, V.rens, renR, renA, renS] | (simp only [V.ren, V.rens, renR, renA, renS]; rfl)) (by simp only [passUps, renBox, renArr]; rfl) ?_
      refine pu (v := .sc _) rfl rfl (fun _ => rfl) ?_
      refine bu (cs := [.sc (.int .i64 (w6 ((gt light s3.2.2) - r7.1))), .sc (.int .i64 (w6 ((gt light s3.2.2) + r8.1))), .sc (.bool false)]) rfl bt43 rfl ?_
      refine al (cs := [.sc (.int .i64 0), .sc (.int .i64 0), .sc (.bool false)]) 72 rfl rfl ti43 rfl rfl ?_
      refine stB (cs' := [.sc (.int .i64 (w6 ((gt light s3.2.2) - r7.1))), .sc (.int .i64 (w6 ((gt light s3.2.2) + r8.1))), .sc (.bool false)]) rfl rfl rfl rfl ti43 rfl rfl rfl rfl rfl ?_
      refine RunC.fin ?_
      refine AWP.sq ?_
      refine AWP.joinX (fun z9 : spymake_Stream × Bool => LS.mk [(0, .ptr 0 0 0), (4, .sc (.bool holes)), (10, .ptr 1 0 0), (11, .ptr 2 0 0), (12, .sc (.int .i64 (gt ([0, 3, 30, 200] : List Int) r1.1))), (15, .ptr 4 0 0), (24, rowV (α := Int) false light), (25, .sc (.int .i64 (light.length : Int))), (26, .sc (.int .i64 s3.2.2)), (48, .sc (.bool z9.2))] (lblks 0 [boxB (α := spymake_Stream) false z9.1, .box [.sc (.int .i64 0), .sc (.int .i64 0), .sc (.slice none 0 0)], .box [.sc (.int .i64 w), .sc (.int .i64 h), slV Bound 3 0 0 s3.2.1.length], arrB (α := Bound) 43 0 true s3.2.1, boxB (α := Bound) true (Bound.mk (w6 ((gt light s3.2.2) - r7.1)) (w6 ((gt light s3.2.2) + r8.1)) false)]) 5) hR (fun o9 hR => ?_) fun z9 hR => ?_
      · refine AWP.rgC 104 rfl rfl ?_
        refine pu (v := .sc _) rfl rfl (fun _ => rfl) ?_
        refine pu (v := .sc _) rfl rfl (fun _ => rfl) ?_
        refine brR hR (fun h10 hR => ?_) fun h10 hR => ?_
        · refine pu (v := .ptr _ _ _) (wtG rfl rfl rfl h10) rfl (fun _ => rfl) ?_
          obtain ⟨r11, hr11, hR⟩ := bindE hR
          refine cps (res' := .sc (.int .i64 r11.1)) (ups := [(0, boxB (α := spymake_Stream) false r11.2)]) [0] 92 (wtG rfl rfl rfl h10) rfl rfl cb12 (ok12 r8.2 9 _ hr11) (.cons (ldP rfl rfl) (.cons (.sc _) (.nil))) (pc rfl (.box (.cons ldR' (.cons (.sc _) (.nil))) rfl) pn) rfl rfl rfl rfl rfl (by first | rfl | exact renR | exact renA | exact renS | simp only [V.ren, V.rens, renR, renA, renS] | (simp only [V.ren, V.rens, renR, renA, renS]; rfl)) (by simp only [passUps, renBox, renArr]; rfl) ?_
          refine pu (v := .sc _) (wtG rfl rfl rfl h10) rfl (fun _ => rfl) ?_
          refine pkT (v := .sc (.bool (r11.1 == 0))) rfl rfl h10 rfl ?_
          refine RunC.fin ?_
          have hR := Option.some.inj hR; subst hR
          exact Weak.turnL [(0, 0), (1, 0), (2, 0), (3, 0), (72, 0)] [] rfl rfl (tc (trP' rfl rfl rfl rfl) (tc (.sc _) (tc (trP' rfl rfl rfl rfl) (tc (trP' rfl rfl rfl rfl) (tc (.sc _) (tc (trP' rfl rfl rfl rfl) (tc trR1 (tc (.sc _) (tc (.sc _) (tc (.sc _) tn)))))))))) (mc rfl (.box rfl (.cons trR1 (.cons (.sc _) (.nil))) rfl) (mc rfl (.box rfl (.cons (.sc _) (.cons (.sc _) (.cons (.sc _) (.nil)))) rfl) (mc rfl (.box rfl (.cons (.sc _) (.cons (.sc _) (.cons (trS' rfl rfl rfl rfl rfl) (.nil)))) rfl) (mc rfl (btrA' rfl) (mc rfl (.box rfl (.cons (.sc _) (.cons (.sc _) (.cons (.sc _) (.nil)))) rfl) mn)))))
        · refine sk (skW rfl rfl rfl h10) ?_
          refine sk (skW rfl rfl rfl h10) ?_
          refine sk (skW rfl rfl rfl h10) ?_
          refine pkF (v := .sc (.bool false)) rfl rfl h10 rfl ?_
          refine RunC.fin ?_
          have hR := Option.some.inj hR; subst hR
          exact Weak.turnL [(0, 0), (1, 0), (2, 0), (3, 0), (72, 0)] [] rfl rfl (tc (trP' rfl rfl rfl rfl) (tc (.sc _) (tc (trP' rfl rfl rfl rfl) (tc (trP' rfl rfl rfl rfl) (tc (.sc _) (tc (trP' rfl rfl rfl rfl) (tc trR1 (tc (.sc _) (tc (.sc _) (tc (.sc _) tn)))))))))) (mc rfl (.box rfl (.cons trR1 (.cons (.sc _) (.nil))) rfl) (mc rfl (.box rfl (.cons (.sc _) (.cons (.sc _) (.cons (.sc _) (.nil)))) rfl) (mc rfl (.box rfl (.cons (.sc _) (.cons (.sc _) (.cons (trS' rfl rfl rfl rfl rfl) (.nil)))) rfl) (mc rfl (btrA' rfl) (mc rfl (.box rfl (.cons (.sc _) (.cons (.sc _) (.cons (.sc _) (.nil)))) rfl) mn)))))
      · refine AWP.cd hR rfl (fun h12 hR => ?_) fun h12 hR => ?_
        · refine AWP.rgC 13 rfl rfl ?_
          refine bu (cs := [.sc (.int .i64 0), .sc (.int .i64 0), .sc (.bool true)]) rfl bt43 rfl ?_
          refine stB (cs' := [.sc (.int .i64 0), .sc (.int .i64 0), .sc (.bool true)]) rfl rfl rfl rfl ti43 rfl rfl rfl rfl rfl ?_
          refine RunC.fin ?_
          refine AWP.rgC 41 rfl rfl ?_
          refine fa rfl rfl ti33 rfl rfl ti31 rfl ?_
          refine ldB (v := slV Bound _ _ _ _) rfl rfl rfl rfl ti31 rfl rfl ?_
          refine ldB (v := .agg _) rfl rfl rfl rfl ti43 rfl rfl ?_
          refine bs (α := Bound) 25 true ([Bound.mk 0 0 true] : List Bound) rfl rfl ti31 rfl ti43 rfl rfl rfl rfl rfl ?_
          obtain ⟨h13, hR⟩ := chkE hR
          refine ap' (α := Bound) (nw := true) (xs := s3.2.1) (ys := ([Bound.mk 0 0 true] : List Bound)) rfl rfl rfl rfl (srcS' rfl rfl rfl) ti31 rfl ti43 rfl h13 rfl ?_
          refine fa rfl rfl ti33 rfl rfl ti31 rfl ?_
          refine stB (cs' := [.sc (.int .i64 w), .sc (.int .i64 h), slV Bound 3 1 0 (s3.2.1 ++ ([Bound.mk 0 0 true] : List Bound)).length]) rfl rfl rfl rfl ti31 rfl rfl rfl rfl rfl ?_
          refine RunC.blk ?_
          refine RunC.fin ?_
          refine AWP.rgC 49 rfl rfl ?_
          refine pu (v := .sc _) rfl rfl (fun _ => rfl) ?_
          refine pu (v := .sc _) rfl rfl (fun _ => rfl) ?_
          refine RunC.fin ?_
          refine ⟨(z9.1, s3.2.1 ++ ([Bound.mk 0 0 true] : List Bound), w6 (s3.2.2 + 1)), (Option.some.inj hR).symm, ?_⟩
          exact Weak.turnL [(0, 0), (1, 0), (2, 0), (3, 0)] [] rfl rfl (tc (trP' rfl rfl rfl rfl) (tc (.sc _) (tc (trP' rfl rfl rfl rfl) (tc (trP' rfl rfl rfl rfl) (tc (.sc _) (tc trR1 (tc (.sc _) (tc (.sc _) tn)))))))) (mc rfl (.box rfl (.cons trR1 (.cons (.sc _) (.nil))) rfl) (mc rfl (.box rfl (.cons (.sc _) (.cons (.sc _) (.cons (.sc _) (.nil)))) rfl) (mc rfl (.box rfl (.cons (.sc _) (.cons (.sc _) (.cons (trS' rfl rfl rfl rfl rfl) (.nil)))) rfl) (mc rfl (btrA' rfl) mn))))
        · refine AWP.skip ?_
          refine skT ?_
          refine AWP.rgC 33 rfl rfl ?_
          refine fa rfl rfl ti33 rfl rfl ti31 rfl ?_
          refine ldB (v := slV Bound _ _ _ _) rfl rfl rfl rfl ti31 rfl rfl ?_
          refine ldB (v := .agg _) rfl rfl rfl rfl ti43 rfl rfl ?_
          refine bs (α := Bound) 17 true ([Bound.mk (w6 ((gt light s3.2.2) - r7.1)) (w6 ((gt light s3.2.2) + r8.1)) false] : List Bound) rfl rfl ti31 rfl ti43 rfl rfl rfl rfl rfl ?_
          obtain ⟨h14, hR⟩ := chkE hR
          refine ap' (α := Bound) (nw := true) (xs := s3.2.1) (ys := ([Bound.mk (w6 ((gt light s3.2.2) - r7.1)) (w6 ((gt light s3.2.2) + r8.1)) false] : List Bound)) rfl rfl rfl rfl (srcS' rfl rfl rfl) ti31 rfl ti43 rfl h14 rfl ?_
          refine fa rfl rfl ti33 rfl rfl ti31 rfl ?_
          refine stB (cs' := [.sc (.int .i64 w), .sc (.int .i64 h), slV Bound 3 1 0 (s3.2.1 ++ ([Bound.mk (w6 ((gt light s3.2.2) - r7.1)) (w6 ((gt light s3.2.2) + r8.1)) false] : List Bound)).length]) rfl rfl rfl rfl ti31 rfl rfl rfl rfl rfl ?_
          refine RunC.blk ?_
          refine RunC.fin ?_
          refine AWP.rgC 41 rfl rfl ?_
          refine pu (v := .sc _) rfl rfl (fun _ => rfl) ?_
          refine pu (v := .sc _) rfl rfl (fun _ => rfl) ?_
          refine RunC.fin ?_
          refine ⟨(z9.1, s3.2.1 ++ ([Bound.mk (w6 ((gt light s3.2.2) - r7.1)) (w6 ((gt light s3.2.2) + r8.1)) false] : List Bound), w6 (s3.2.2 + 1)), (Option.some.inj hR).symm, ?_⟩
          exact Weak.turnL [(0, 0), (1, 0), (2, 0), (3, 0)] [] rfl rfl (tc (trP' rfl rfl rfl rfl) (tc (.sc _) (tc (trP' rfl rfl rfl rfl) (tc (trP' rfl rfl rfl rfl) (tc (.sc _) (tc trR1 (tc (.sc _) (tc (.sc _) tn)))))))) (mc rfl (.box rfl (.cons trR1 (.cons (.sc _) (.nil))) rfl) (mc rfl (.box rfl (.cons (.sc _) (.cons (.sc _) (.cons (.sc _) (.nil)))) rfl) (mc rfl (.box rfl (.cons (.sc _) (.cons (.sc _) (.cons (trS' rfl rfl rfl rfl rfl) (.nil)))) rfl) (mc rfl (btrA' rfl) mn))))
    · refine AWP.exit ?_
      refine exT ?_
      refine exT ?_
      refine exH (skT ?_)
      refine ⟨(s3.1, s3.2.1), (Option.some.inj hR).symm, ?_⟩
      exact Weak.turnL [(0, 0), (1, 0), (2, 0), (3, 0)] [] rfl rfl (tc (trP' rfl rfl rfl rfl) (tc (trP' rfl rfl rfl rfl) tn)) (mc rfl (.box rfl (.cons trR1 (.cons (.sc _) (.nil))) rfl) (mc rfl (.box rfl (.cons (.sc _) (.cons (.sc _) (.cons (.sc _) (.nil)))) rfl) (mc rfl (.box rfl (.cons (.sc _) (.cons (.sc _) (.cons (trS' rfl rfl rfl rfl rfl) (.nil)))) rfl) (mc rfl (btrA' rfl) mn))))
  · refine skT ?_
    refine AWP.sq ?_
    refine AWP.rgC 12 rfl rfl ?_
    refine ldB (v := .agg _) rfl rfl rfl rfl ti33 rfl rfl ?_
    refine stB (cs' := [.sc (.int .i64 w), .sc (.int .i64 h), slV Bound 3 0 0 z4.2.length]) rfl rfl rfl rfl ti33 rfl rfl rfl rfl rfl ?_
    refine RunC.fin ?_
    refine AWP.ret ?_
    have hR := Option.some.inj hR; subst hR
    exact hQ _ _ (LS.mk [(10, .ptr 1 0 0)] (lblks 0 [boxB (α := spymake_Stream) false z4.1, boxB (α := Cells) true (Cells.mk w h z4.2)]) 2) (aggV (α := Cells) true (Cells.mk w h z4.2)) [] (.inr rfl) (Weak.turnL [(0, 0), (1, 0)] [3] rfl rfl (tc (trP' rfl rfl rfl rfl) tn) (mc rfl (.box rfl (.cons trR1 (.cons (.sc _) (.nil))) rfl) (mc rfl (.box rfl (.cons (.sc _) (.cons (.sc _) (.cons (trF' rfl rfl id rfl) (.nil)))) rfl) mn))) (ro1 (rvC (v := aggV (α := Cells) true (Cells.mk w h z4.2)) rfl rfl ti33 rfl)) rfl rfl ldA (pc rfl bldB pn)
theorem ok4 (s : spymake_Stream) (low : Int) (high : Int) (r : Int × spymake_Stream) (hR : Stream_Range s low high = some r) : FnD Try.prog 4 [boxB false s] [.ptr 0 0 0, .sc (.int .i64 low), .sc (.int .i64 high)] (.sc (.int .i64 r.1)) [boxB false r.2] := by
  refine FnX.walk Try.func4 rfl 19 1 (by simp [Try.ntmps4]) rfl fun W S F Q hQ => ?_
  unfold Stream_Range at hR
  refine AWP.sq ?_
  refine AWP.rgC 5 rfl rfl ?_
  refine pu (v := .sc _) rfl rfl (fun _ => rfl) ?_
  refine RunC.fin ?_
  refine AWP.sq ?_
  refine AWP.sq ?_
  refine AWP.rgC 17 rfl rfl ?_
  refine pu (v := .sc _) rfl rfl (fun _ => rfl) ?_
  refine pu (v := .sc _) rfl rfl (fun _ => rfl) ?_
  refine pu (v := .sc _) rfl rfl (fun _ => rfl) ?_
  refine RunC.fin ?_
  refine AWP.cd hR rfl (fun h1 hR => ?_) fun h1 hR => ?_
  · refine AWP.sq ?_
    refine AWP.rgC 25 rfl rfl ?_
    refine pu (v := .sc _) rfl rfl (fun _ => rfl) ?_
    refine pu (v := .sc _) rfl rfl (fun _ => rfl) ?_
    refine RunC.fin ?_
    refine AWP.ret ?_
    refine rtT ?_
    have hR := Option.some.inj hR; subst hR
    exact hQ _ _ (LS.mk [(6, .sc (.int .i64 low))] (lblks 0 [boxB (α := spymake_Stream) false s]) 1) (.sc (.int .i64 low)) [] (.inr rfl) (Weak.turnL [(0, 0)] [] rfl rfl (tc (.sc _) tn) (mc rfl (.box rfl (.cons trR1 (.cons (.sc _) (.nil))) rfl) mn)) (ro1 (rvT (v := .sc (.int .i64 low)) rfl)) rfl rfl (.sc _) (pc rfl bldB pn)
  · refine AWP.skip ?_
    refine skT ?_
    refine AWP.sq ?_
    refine AWP.rgC 53 rfl rfl ?_
    refine pu (v := .sc _) rfl rfl (fun _ => rfl) ?_
    refine pu (v := .ptr _ _ _) rfl rfl (fun _ => rfl) ?_
    refine pu (v := .sc _) rfl rfl (fun _ => rfl) ?_
    refine pu (v := .sc _) rfl rfl (fun _ => rfl) ?_
    refine pu (v := .sc _) rfl rfl (fun _ => rfl) ?_
    refine pu (v := .sc _) rfl rfl (fun _ => rfl) ?_
    obtain ⟨r2, hr2, hR⟩ := bindE hR
    refine cps (res' := .sc (.int .i64 r2.1)) (ups := [(0, boxB (α := spymake_Stream) false r2.2)]) [0] 41 rfl rfl rfl cb12 (ok12 s (w6 ((w6 (high - low)) + 1)) _ hr2) (.cons (ldP rfl rfl) (.cons (.sc _) (.nil))) (pc rfl (.box (.cons ldR' (.cons (.sc _) (.nil))) rfl) pn) rfl rfl rfl rfl rfl (by first | rfl | exact renR | exact renA | exact renS | simp only [V.ren, V.rens, renR, renA, renS] | (simp only [V.ren, V.rens, renR, renA, renS]; rfl)) (by simp only [passUps, renBox, renArr]; rfl) ?_
    refine pu (v := .sc _) rfl rfl (fun _ => rfl) ?_
    refine pu (v := .sc _) rfl rfl (fun _ => rfl) ?_
    refine RunC.fin ?_
    refine AWP.ret ?_
    have hR := Option.some.inj hR; subst hR
    exact hQ _ _ (LS.mk [(6, .sc (.int .i64 (w6 (low + r2.1))))] (lblks 0 [boxB (α := spymake_Stream) false r2.2]) 1) (.sc (.int .i64 (w6 (low + r2.1)))) [] (.inr rfl) (Weak.turnL [(0, 0)] [] rfl rfl (tc (.sc _) tn) (mc rfl (.box rfl (.cons trR1 (.cons (.sc _) (.nil))) rfl) mn)) (ro1 (rvT (v := .sc (.int .i64 (w6 (low + r2.1)))) rfl)) rfl rfl (.sc _) (pc rfl bldB pn)
theorem ok5 (s : spymake_Stream) (w : Int) (h : Int) (points : Int) (r : (List Int) × Int × spymake_Stream) (hR : Stream_Lights s w h points = some r) : FnD Try.prog 5 [boxB false s] [.ptr 0 0 0, .sc (.int .i64 w), .sc (.int .i64 h), .sc (.int .i64 points)] (.tup [rowV (α := Int) true r.1, .sc (.int .i64 r.2.1)]) [boxB false r.2.2] := by
  refine FnX.walk Try.func5 rfl 116 1 (by simp [Try.ntmps5]) rfl fun W S F Q hQ => ?_
  unfold Stream_Lights at hR
  refine AWP.sq ?_
  refine AWP.rgC 9 rfl rfl ?_
  refine pu (v := .sc _) rfl rfl (fun _ => rfl) ?_
  refine pu (v := .sc _) rfl rfl (fun _ => rfl) ?_
  refine RunC.fin ?_
  refine AWP.sq ?_
  refine AWP.rgC 21 rfl rfl ?_
  refine pu (v := .ptr _ _ _) rfl rfl (fun _ => rfl) ?_
  obtain ⟨r1, hr1, hR⟩ := bindE hR
  refine cps (res' := .sc (.int .i64 r1.1)) (ups := [(0, boxB (α := spymake_Stream) false r1.2)]) [0] 13 rfl rfl rfl cb12 (ok12 s 40 _ hr1) (.cons (ldP rfl rfl) (.cons (.sc _) (.nil))) (pc rfl (.box (.cons ldR' (.cons (.sc _) (.nil))) rfl) pn) rfl rfl rfl rfl rfl (by first | rfl | exact renR | exact renA | exact renS | simp only [V.ren, V.rens, renR, renA, renS] | (simp only [V.ren, V.rens, renR, renA, renS]; rfl)) (by simp only [passUps, renBox, renArr]; rfl) ?_
  refine pu (v := .sc _) rfl rfl (fun _ => rfl) ?_
  refine RunC.fin ?_
  refine AWP.sq ?_
  refine AWP.rgC 41 rfl rfl ?_
  refine pu (v := .sc _) rfl rfl (fun _ => rfl) ?_
  refine pu (v := .sc _) rfl rfl (fun _ => rfl) ?_
  refine pu (v := .sc _) rfl rfl (fun _ => rfl) ?_
  obtain ⟨h2, hR⟩ := chkE hR
  refine mk (α := Int) 33 true 0 rfl rfl rfl rfl ti27 rfl ti28 rfl rfl h2 ?_
  refine pu (v := slV Int _ _ _ _) rfl rfl (fun _ => rfl) ?_
  refine RunC.fin ?_
  refine AWP.sq ?_
  refine AWP.sq ?_
  refine AWP.rgC 53 rfl rfl ?_
  refine pu (v := slV Int _ _ _ _) rfl rfl (fun _ => rfl) ?_
  refine lenS (α := Int) rfl rfl ti27 rfl ?_
  refine pu (v := .sc _) rfl rfl (fun _ => rfl) ?_
  refine RunC.fin ?_
  refine AWP.loopJ (fun s3 : (List Int) × Int => LS.mk [(0, .ptr 0 0 0), (1, .sc (.int .i64 w)), (2, .sc (.int .i64 h)), (3, .sc (.int .i64 points)), (10, .sc (.int .i64 r1.1)), (11, slV Int 1 0 0 s3.1.length), (27, .sc (.int .i64 ((List.replicate (w6 (w * h)).toNat (0 : Int)).length : Int))), (28, .sc (.int .i64 s3.2))] (lblks 0 [boxB (α := spymake_Stream) false r1.2, arrB (α := Int) 28 0 true s3.1]) 2) (fun z4 : (List Int) => LS.mk [(0, .ptr 0 0 0), (1, .sc (.int .i64 w)), (2, .sc (.int .i64 h)), (3, .sc (.int .i64 points)), (10, .sc (.int .i64 r1.1)), (11, slV Int 1 0 0 z4.length)] (lblks 0 [boxB (α := spymake_Stream) false r1.2, arrB (α := Int) 28 0 true z4]) 2) (Stream_Lights.l1 w h r1) hR (s0 := (List.replicate (w6 (w * h)).toNat (0 : Int), 0)) (Weak.turnL [(0, 0), (33, 0)] [] rfl rfl (tc (trP' rfl rfl rfl rfl) (tc (.sc _) (tc (.sc _) (tc (.sc _) (tc (.sc _) (tc (trS' rfl rfl rfl rfl rfl) (tc (.sc _) (tc (.sc _) tn)))))))) (mc rfl (.box rfl (.cons trR1 (.cons (.sc _) (.nil))) rfl) (mc rfl (btrA' rfl) mn))) (fun s3 o3 hR => ?_) fun z4 hR => ?_
  · unfold Stream_Lights.l1 at hR
    refine AWP.sq ?_
    refine AWP.rgC 6 rfl rfl ?_
    obtain ⟨v5, ev5, hR⟩ := letE hR
    refine pu (v := .sc _) rfl rfl (fun _ => puB ev5) ?_
    refine RunC.fin ?_
    refine AWP.sq ?_
    refine AWP.cd hR rfl (fun h6 hR => ?_) fun h6 hR => ?_
    · refine AWP.skip ?_
      refine skT ?_
      refine AWP.sq ?_
      refine AWP.block ?_
      refine AWP.sq ?_
      refine AWP.rgC 14 rfl rfl ?_
      refine pu (v := .sc _) rfl rfl (fun _ => rfl) ?_
      refine pu (v := .sc _) rfl rfl (fun _ => rfl) ?_
      refine RunC.fin ?_
      refine AWP.rgC 34 rfl rfl ?_
      refine pu (v := slV Int _ _ _ _) rfl rfl (fun _ => rfl) ?_
      refine pu (v := .sc _) rfl rfl (fun _ => rfl) ?_
      refine pu (v := .sc _) rfl rfl (fun _ => rfl) ?_
      obtain ⟨h7, hR⟩ := chkE hR
      refine ixS0 (α := Int) rfl rfl rfl ti27 rfl ti28 rfl h7 ?_
      refine stE (α := Int) (y := r1.1) rfl rfl rfl (ixlt h7) ti28 rfl rfl rfl rfl rfl ?_
      refine RunC.blk ?_
      refine RunC.fin ?_
      refine AWP.rgC 42 rfl rfl ?_
      refine pu (v := .sc _) rfl rfl (fun _ => rfl) ?_
      refine pu (v := .sc _) rfl rfl (fun _ => rfl) ?_
      refine RunC.fin ?_
      refine ⟨(List.set s3.1 s3.2.toNat r1.1, w6 (s3.2 + 1)), (Option.some.inj hR).symm, ?_⟩
      exact Weak.turnL [(0, 0), (1, 0)] [] rfl rfl (tc (trP' rfl rfl rfl rfl) (tc (.sc _) (tc (.sc _) (tc (.sc _) (tc (.sc _) (tc (trS' rfl rfl rfl rfl (by simp only [List.length_set])) (tc (.sc _) (tc (.sc _) tn)))))))) (mc rfl (.box rfl (.cons trR1 (.cons (.sc _) (.nil))) rfl) (mc rfl (btrA' rfl) mn))
    · refine AWP.exit ?_
      refine exT ?_
      refine exT ?_
      refine exH (skT ?_)
      refine ⟨s3.1, (Option.some.inj hR).symm, ?_⟩
      exact Weak.turnL [(0, 0), (1, 0)] [] rfl rfl (tc (trP' rfl rfl rfl rfl) (tc (.sc _) (tc (.sc _) (tc (.sc _) (tc (.sc _) (tc (trS' rfl rfl rfl rfl rfl) tn)))))) (mc rfl (.box rfl (.cons trR1 (.cons (.sc _) (.nil))) rfl) (mc rfl (btrA' rfl) mn))
  · refine skT ?_
    refine AWP.sq ?_
    refine AWP.sq ?_
    refine AWP.rgC 10 rfl rfl ?_
    refine pu (v := .sc _) rfl rfl (fun _ => rfl) ?_
    refine pu (v := .sc _) rfl rfl (fun _ => rfl) ?_
    refine RunC.fin ?_
    refine AWP.loopJ (fun s8 : spymake_Stream × (List Int) × Int => LS.mk [(0, .ptr 0 0 0), (1, .sc (.int .i64 w)), (2, .sc (.int .i64 h)), (10, .sc (.int .i64 r1.1)), (11, slV Int 1 0 0 s8.2.1.length), (36, .sc (.int .i64 points)), (37, .sc (.int .i64 s8.2.2))] (lblks 0 [boxB (α := spymake_Stream) false s8.1, arrB (α := Int) 28 0 true s8.2.1]) 2) (fun z9 : spymake_Stream × (List Int) => LS.mk [(10, .sc (.int .i64 r1.1)), (11, slV Int 1 0 0 z9.2.length)] (lblks 0 [boxB (α := spymake_Stream) false z9.1, arrB (α := Int) 28 0 true z9.2]) 2) (Stream_Lights.l2 w h points) hR (s0 := (r1.2, z4, 0)) (Weak.turnL [(0, 0), (1, 0)] [] rfl rfl (tc (trP' rfl rfl rfl rfl) (tc (.sc _) (tc (.sc _) (tc (.sc _) (tc (trS' rfl rfl rfl rfl rfl) (tc (.sc _) (tc (.sc _) tn))))))) (mc rfl (.box rfl (.cons trR1 (.cons (.sc _) (.nil))) rfl) (mc rfl (btrA' rfl) mn))) (fun s8 o8 hR => ?_) fun z9 hR => ?_
    · unfold Stream_Lights.l2 at hR
      refine AWP.sq ?_
      refine AWP.rgC 6 rfl rfl ?_
      refine pu (v := .sc _) rfl rfl (fun _ => rfl) ?_
      refine RunC.fin ?_
      refine AWP.sq ?_
      refine AWP.cd hR rfl (fun h10 hR => ?_) fun h10 hR => ?_
      · refine AWP.skip ?_
        refine skT ?_
        refine AWP.sq ?_
        refine AWP.block ?_
        refine AWP.sq ?_
        refine AWP.rgC 50 rfl rfl ?_
        refine pu (v := .ptr _ _ _) rfl rfl (fun _ => rfl) ?_
        refine pu (v := .sc _) rfl rfl (fun _ => rfl) ?_
        obtain ⟨r11, hr11, hR⟩ := bindE hR
        refine cps (res' := .sc (.int .i64 r11.1)) (ups := [(0, boxB (α := spymake_Stream) false r11.2)]) [0] 14 rfl rfl rfl cb12 (ok12 s8.1 w _ hr11) (.cons (ldP rfl rfl) (.cons (.sc _) (.nil))) (pc rfl (.box (.cons ldR' (.cons (.sc _) (.nil))) rfl) pn) rfl rfl rfl rfl rfl (by first | rfl | exact renR | exact renA | exact renS | simp only [V.ren, V.rens, renR, renA, renS] | (simp only [V.ren, V.rens, renR, renA, renS]; rfl)) (by simp only [passUps, renBox, renArr]; rfl) ?_
        refine pu (v := .ptr _ _ _) rfl rfl (fun _ => rfl) ?_
        refine pu (v := .sc _) rfl rfl (fun _ => rfl) ?_
        obtain ⟨r12, hr12, hR⟩ := bindE hR
        refine cps (res' := .sc (.int .i64 r12.1)) (ups := [(0, boxB (α := spymake_Stream) false r12.2)]) [0] 26 rfl rfl rfl cb12 (ok12 r11.2 h _ hr12) (.cons (ldP rfl rfl) (.cons (.sc _) (.nil))) (pc rfl (.box (.cons ldR' (.cons (.sc _) (.nil))) rfl) pn) rfl rfl rfl rfl rfl (by first | rfl | exact renR | exact renA | exact renS | simp only [V.ren, V.rens, renR, renA, renS] | (simp only [V.ren, V.rens, renR, renA, renS]; rfl)) (by simp only [passUps, renBox, renArr]; rfl) ?_
        refine pu (v := .ptr _ _ _) rfl rfl (fun _ => rfl) ?_
        obtain ⟨r13, hr13, hR⟩ := bindE hR
        refine cps (res' := .sc (.int .i64 r13.1)) (ups := [(0, boxB (α := spymake_Stream) false r13.2)]) [0] 34 rfl rfl rfl cb4 (ok4 r12.2 1 3 _ hr13) (.cons (ldP rfl rfl) (.cons (.sc _) (.cons (.sc _) (.nil)))) (pc rfl (.box (.cons ldR' (.cons (.sc _) (.nil))) rfl) pn) rfl rfl rfl rfl rfl (by first | rfl | exact renR | exact renA | exact renS | simp only [V.ren, V.rens, renR, renA, renS] | (simp only [V.ren, V.rens, renR, renA, renS]; rfl)) (by simp only [passUps, renBox, renArr]; rfl) ?_
        refine pu (v := .sc _) rfl rfl (fun _ => rfl) ?_
        refine pu (v := .sc _) rfl rfl (fun _ => rfl) ?_
        refine pu (v := .sc _) rfl rfl (fun _ => rfl) ?_
        refine RunC.fin ?_
        refine AWP.sq ?_
        refine AWP.rgC 82 rfl rfl ?_
        refine pu (v := .ptr _ _ _) rfl rfl (fun _ => rfl) ?_
        refine bs (α := Int) 54 true ([30, 400, 5000] : List Int) rfl rfl ti22 rfl ti3 rfl rfl rfl rfl rfl ?_
        refine pu (v := .ptr _ _ _) rfl rfl (fun _ => rfl) ?_
        obtain ⟨r14, hr14, hR⟩ := bindE hR
        refine cps (res' := .sc (.int .i64 r14.1)) (ups := [(0, boxB (α := spymake_Stream) false r14.2)]) [0] 62 rfl rfl rfl cb12 (ok12 r13.2 3 _ hr14) (.cons (ldP rfl rfl) (.cons (.sc _) (.nil))) (pc rfl (.box (.cons ldR' (.cons (.sc _) (.nil))) rfl) pn) rfl rfl rfl rfl rfl (by first | rfl | exact renR | exact renA | exact renS | simp only [V.ren, V.rens, renR, renA, renS] | (simp only [V.ren, V.rens, renR, renA, renS]; rfl)) (by simp only [passUps, renBox, renArr]; rfl) ?_
        obtain ⟨h15, hR⟩ := chkE hR
        refine ixS0 (α := Int) rfl rfl rfl ti22 rfl ti3 rfl h15 ?_
        refine ldE (α := Int) (v := .sc _) rfl rfl rfl (ixlt h15) ti3 rfl rfl rfl rfl ?_
        obtain ⟨r16, hr16, hR⟩ := bindE hR
        refine cps (res' := .sc (.int .i64 r16.1)) (ups := [(0, boxB (α := spymake_Stream) false r16.2)]) [0] 74 rfl rfl rfl cb12 (ok12 r14.2 (gt ([30, 400, 5000] : List Int) r14.1) _ hr16) (.cons (ldP rfl rfl) (.cons (.sc _) (.nil))) (pc rfl (.box (.cons ldR' (.cons (.sc _) (.nil))) rfl) pn) rfl rfl rfl rfl rfl (by first | rfl | exact renR | exact renA | exact renS | simp only [V.ren, V.rens, renR, renA, renS] | (simp only [V.ren, V.rens, renR, renA, renS]; rfl)) (by simp only [passUps, renBox, renArr]; rfl) ?_
        refine pu (v := .sc _) rfl rfl (fun _ => rfl) ?_
        refine RunC.fin ?_
        refine AWP.sq ?_
        refine AWP.rgC 94 rfl rfl ?_
        refine pu (v := slV Int _ _ _ _) rfl rfl (fun _ => rfl) ?_
        refine lenS (α := Int) rfl rfl ti27 rfl ?_
        refine pu (v := .sc _) rfl rfl (fun _ => rfl) ?_
        refine RunC.fin ?_
        refine AWP.loopJ (fun s17 : (List Int) × Int => LS.mk [(0, .ptr 0 0 0), (1, .sc (.int .i64 w)), (2, .sc (.int .i64 h)), (10, .sc (.int .i64 r1.1)), (11, slV Int 1 0 0 s17.1.length), (13, .sc (.int .i64 r11.1)), (14, .sc (.int .i64 r12.1)), (15, .sc (.int .i64 r13.1)), (16, .sc (.int .i64 r16.1)), (36, .sc (.int .i64 points)), (37, .sc (.int .i64 s8.2.2)), (55, .sc (.int .i64 (s8.2.1.length : Int))), (56, .sc (.int .i64 s17.2))] (lblks 0 [boxB (α := spymake_Stream) false r16.2, arrB (α := Int) 28 0 true s17.1]) 2) (fun z18 : (List Int) => LS.mk [(0, .ptr 0 0 0), (1, .sc (.int .i64 w)), (2, .sc (.int .i64 h)), (10, .sc (.int .i64 r1.1)), (11, slV Int 1 0 0 z18.length), (36, .sc (.int .i64 points)), (37, .sc (.int .i64 s8.2.2))] (lblks 0 [boxB (α := spymake_Stream) false r16.2, arrB (α := Int) 28 0 true z18]) 2) (Stream_Lights.l3 w s8 r11 r12 r13 r16) hR (s0 := (s8.2.1, 0)) (Weak.turnL [(0, 0), (1, 0)] [] rfl rfl (tc (trP' rfl rfl rfl rfl) (tc (.sc _) (tc (.sc _) (tc (.sc _) (tc (trS' rfl rfl rfl rfl rfl) (tc (.sc _) (tc (.sc _) (tc (.sc _) (tc (.sc _) (tc (.sc _) (tc (.sc _) (tc (.sc _) (tc (.sc _) tn))))))))))))) (mc rfl (.box rfl (.cons trR1 (.cons (.sc _) (.nil))) rfl) (mc rfl (btrA' rfl) mn))) (fun s17 o17 hR => ?_) fun z18 hR => ?_
        · unfold Stream_Lights.l3 at hR
          refine AWP.sq ?_
          refine AWP.rgC 6 rfl rfl ?_
          refine pu (v := .sc _) rfl rfl (fun _ => rfl) ?_
          refine RunC.fin ?_
          refine AWP.sq ?_
          refine AWP.cd hR rfl (fun h19 hR => ?_) fun h19 hR => ?_
          · refine AWP.skip ?_
            refine skT ?_
            refine AWP.joinX (fun z20 : (List Int) => LS.mk [(0, .ptr 0 0 0), (1, .sc (.int .i64 w)), (2, .sc (.int .i64 h)), (10, .sc (.int .i64 r1.1)), (11, slV Int 1 0 0 z20.length), (13, .sc (.int .i64 r11.1)), (14, .sc (.int .i64 r12.1)), (15, .sc (.int .i64 r13.1)), (16, .sc (.int .i64 r16.1)), (36, .sc (.int .i64 points)), (37, .sc (.int .i64 s8.2.2)), (55, .sc (.int .i64 (s8.2.1.length : Int))), (56, .sc (.int .i64 s17.2))] (lblks 0 [boxB (α := spymake_Stream) false r16.2, arrB (α := Int) 28 0 true z20]) 2) hR (fun o20 hR => ?_) fun z20 hR => ?_
            · refine AWP.block ?_
              refine AWP.sq ?_
              refine AWP.rgC 14 rfl rfl ?_
              refine pu (v := .sc _) rfl rfl (fun _ => rfl) ?_
              refine pu (v := .sc _) rfl rfl (fun _ => rfl) ?_
              refine RunC.fin ?_
              refine AWP.sq ?_
              refine AWP.rgD 110 [0, 0, 3, 0, 15, 0, 0, 0, 192, 480, 1023, 0, 0, 6144, 0, 30720, 0, 0, 0, 393216, 983040, 2095104, 2047, 8388607] ⟨[], [none, none, none, none, none, none, none, none, none, none, none, none, none, none, none, none, none, none, none, none, none, none, none, none]⟩ hmix (by kernel_rfl) rfl rfl ?_
              refine pu (v := .sc _) rfl rfl (fun _ => rfl) ?_
              refine pu (v := .sc _) rfl rfl (fun _ => rfl) ?_
              obtain ⟨h21, hR⟩ := chkE hR
              refine rm rfl rfl rfl h21 rfl ?_
              refine pu (v := .sc _) rfl rfl (fun _ => rfl) ?_
              refine pu (v := .sc _) rfl rfl (fun _ => rfl) ?_
              refine pu (v := .sc _) rfl rfl (fun _ => rfl) ?_
              refine pu (v := .sc _) rfl rfl (fun _ => rfl) ?_
              refine pu (v := .sc _) rfl rfl (fun _ => rfl) ?_
              refine rm rfl rfl rfl h21 rfl ?_
              refine pu (v := .sc _) rfl rfl (fun _ => rfl) ?_
              obtain ⟨v22, ev22, hR⟩ := letE hR
              refine pu (v := .sc _) rfl rfl (fun _ => puI ev22) ?_
              refine pu (v := .sc _) rfl rfl (fun _ => rfl) ?_
              refine pu (v := .sc _) rfl rfl (fun _ => rfl) ?_
              refine qu rfl rfl rfl h21 rfl ?_
              refine pu (v := .sc _) rfl rfl (fun _ => rfl) ?_
              refine pu (v := .sc _) rfl rfl (fun _ => rfl) ?_
              refine pu (v := .sc _) rfl rfl (fun _ => rfl) ?_
              refine pu (v := .sc _) rfl rfl (fun _ => rfl) ?_
              refine pu (v := .sc _) rfl rfl (fun _ => rfl) ?_
              refine qu rfl rfl rfl h21 rfl ?_
              refine pu (v := .sc _) rfl rfl (fun _ => rfl) ?_
              obtain ⟨v23, ev23, hR⟩ := letE hR
              refine pu (v := .sc _) rfl rfl (fun _ => puI ev23) ?_
              refine pu (v := .sc _) rfl rfl (fun _ => rfl) ?_
              refine pu (v := .sc _) rfl rfl (fun _ => rfl) ?_
              refine RunC.fin ?_
              refine AWP.joinX (fun z24 : Bool => LS.mk [(0, .ptr 0 0 0), (1, .sc (.int .i64 w)), (2, .sc (.int .i64 h)), (10, .sc (.int .i64 r1.1)), (11, slV Int 1 0 0 s17.1.length), (13, .sc (.int .i64 r11.1)), (14, .sc (.int .i64 r12.1)), (15, .sc (.int .i64 r13.1)), (16, .sc (.int .i64 r16.1)), (17, .sc (.int .i64 s17.2)), (18, .sc (.int .i64 v22)), (19, .sc (.int .i64 v23)), (36, .sc (.int .i64 points)), (37, .sc (.int .i64 s8.2.2)), (55, .sc (.int .i64 (s8.2.1.length : Int))), (56, .sc (.int .i64 s17.2)), (88, .sc (.bool z24))] (lblks 0 [boxB (α := spymake_Stream) false r16.2, arrB (α := Int) 28 0 true s17.1]) 2) hR (fun o24 hR => ?_) fun z24 hR => ?_
              · refine AWP.rgC 142 rfl rfl ?_
                refine pu (v := .sc _) rfl rfl (fun _ => rfl) ?_
                refine pu (v := .sc _) rfl rfl (fun _ => rfl) ?_
                refine pu (v := .sc _) rfl rfl (fun _ => rfl) ?_
                refine pu (v := .sc _) rfl rfl (fun _ => rfl) ?_
                refine brR hR (fun h25 hR => ?_) fun h25 hR => ?_
                · refine pu (v := .sc _) (wtG rfl rfl rfl h25) rfl (fun _ => rfl) ?_
                  refine pu (v := .sc _) (wtG rfl rfl rfl h25) rfl (fun _ => rfl) ?_
                  refine pu (v := .sc _) (wtG rfl rfl rfl h25) rfl (fun _ => rfl) ?_
                  refine pkT (v := .sc (.bool (decide (v23 ≤ r13.1)))) rfl rfl h25 rfl ?_
                  refine RunC.fin ?_
                  have hR := Option.some.inj hR; subst hR
                  exact Weak.turnL [(0, 0), (1, 0)] [] rfl rfl (tc (trP' rfl rfl rfl rfl) (tc (.sc _) (tc (.sc _) (tc (.sc _) (tc (trS' rfl rfl rfl rfl rfl) (tc (.sc _) (tc (.sc _) (tc (.sc _) (tc (.sc _) (tc (.sc _) (tc (.sc _) (tc (.sc _) (tc (.sc _) (tc (.sc _) (tc (.sc _) (tc (.sc _) (tc (.sc _) tn))))))))))))))))) (mc rfl (.box rfl (.cons trR1 (.cons (.sc _) (.nil))) rfl) (mc rfl (btrA' rfl) mn))
                · refine sk (skW rfl rfl rfl h25) ?_
                  refine sk (skW rfl rfl rfl h25) ?_
                  refine sk (skW rfl rfl rfl h25) ?_
                  refine pkF (v := .sc (.bool false)) rfl rfl h25 rfl ?_
                  refine RunC.fin ?_
                  have hR := Option.some.inj hR; subst hR
                  exact Weak.turnL [(0, 0), (1, 0)] [] rfl rfl (tc (trP' rfl rfl rfl rfl) (tc (.sc _) (tc (.sc _) (tc (.sc _) (tc (trS' rfl rfl rfl rfl rfl) (tc (.sc _) (tc (.sc _) (tc (.sc _) (tc (.sc _) (tc (.sc _) (tc (.sc _) (tc (.sc _) (tc (.sc _) (tc (.sc _) (tc (.sc _) (tc (.sc _) (tc (.sc _) tn))))))))))))))))) (mc rfl (.box rfl (.cons trR1 (.cons (.sc _) (.nil))) rfl) (mc rfl (btrA' rfl) mn))
              · refine AWP.cd hR rfl (fun h26 hR => ?_) fun h26 hR => ?_
                · refine AWP.rgD 98 [0, 0, 3, 7, 0, 0, 32, 0, 224, 496, 0, 1024, 0, 7168, 16368, 0, 32768, 0, 131072, 491520, 1048560, 2097151, 4194303, 8388607] ⟨[], [none, none, none, some [1], none, none, none, none, none, none, none, none, none, none, none, none, none, none, none, none, none, none, none, some [1]]⟩ hmix (by kernel_rfl) rfl rfl ?_
                  refine pu (v := slV Int _ _ _ _) rfl rfl (fun _ => rfl) ?_
                  refine pu (v := .sc _) rfl rfl (fun _ => rfl) ?_
                  obtain ⟨h27, hR⟩ := chkE hR
                  refine ixS0 (α := Int) rfl rfl rfl ti27 rfl ti28 rfl h27 ?_
                  refine ldE (α := Int) (v := .sc _) rfl rfl rfl (ixlt h27) ti28 rfl rfl rfl rfl ?_
                  refine pu (v := .sc _) rfl rfl (fun _ => rfl) ?_
                  refine pu (v := .sc _) rfl rfl (fun _ => rfl) ?_
                  refine pu (v := .sc _) rfl rfl (fun _ => rfl) ?_
                  refine pu (v := .sc _) rfl rfl (fun _ => rfl) ?_
                  refine pu (v := .sc _) rfl rfl (fun _ => rfl) ?_
                  refine pu (v := .sc _) rfl rfl (fun _ => rfl) ?_
                  refine pu (v := .sc _) rfl rfl (fun _ => rfl) ?_
                  refine pu (v := .sc _) rfl rfl (fun _ => rfl) ?_
                  refine pu (v := .sc _) rfl rfl (fun _ => rfl) ?_
                  refine pu (v := .sc _) rfl rfl (fun _ => rfl) ?_
                  obtain ⟨v28, ev28, hR⟩ := letE hR
                  refine pu (v := .sc _) rfl rfl (fun _ => puI ev28) ?_
                  refine pu (v := .sc _) rfl rfl (fun _ => rfl) ?_
                  refine pu (v := .sc _) rfl rfl (fun _ => rfl) ?_
                  refine pu (v := .sc _) rfl rfl (fun _ => rfl) ?_
                  refine pu (v := .sc _) rfl rfl (fun _ => rfl) ?_
                  refine pu (v := .sc _) rfl rfl (fun _ => rfl) ?_
                  obtain ⟨h29, hR⟩ := chkE hR
                  refine qu rfl rfl rfl h29 rfl ?_
                  obtain ⟨v30, ev30, hR⟩ := letE hR
                  refine pu (v := .sc _) rfl rfl (fun _ => puI ev30) ?_
                  refine ixS0 (α := Int) rfl rfl rfl ti27 rfl ti28 rfl h27 ?_
                  refine stE (α := Int) (y := v30) rfl rfl rfl (ixlt h27) ti28 rfl rfl rfl rfl rfl ?_
                  refine RunC.blk ?_
                  refine RunC.fin ?_
                  have hR := Option.some.inj hR; subst hR
                  exact Weak.turnL [(0, 0), (1, 0)] [] rfl rfl (tc (trP' rfl rfl rfl rfl) (tc (.sc _) (tc (.sc _) (tc (.sc _) (tc (trS' rfl rfl rfl rfl (by simp only [List.length_set])) (tc (.sc _) (tc (.sc _) (tc (.sc _) (tc (.sc _) (tc (.sc _) (tc (.sc _) (tc (.sc _) (tc (.sc _) tn))))))))))))) (mc rfl (.box rfl (.cons trR1 (.cons (.sc _) (.nil))) rfl) (mc rfl (btrA' rfl) mn))
                · refine AWP.skip ?_
                  refine skB ?_
                  refine skT ?_
                  have hR := Option.some.inj hR; subst hR
                  exact Weak.turnL [(0, 0), (1, 0)] [] rfl rfl (tc (trP' rfl rfl rfl rfl) (tc (.sc _) (tc (.sc _) (tc (.sc _) (tc (trS' rfl rfl rfl rfl rfl) (tc (.sc _) (tc (.sc _) (tc (.sc _) (tc (.sc _) (tc (.sc _) (tc (.sc _) (tc (.sc _) (tc (.sc _) tn))))))))))))) (mc rfl (.box rfl (.cons trR1 (.cons (.sc _) (.nil))) rfl) (mc rfl (btrA' rfl) mn))
            · refine AWP.rgC 10 rfl rfl ?_
              refine pu (v := .sc _) rfl rfl (fun _ => rfl) ?_
              refine pu (v := .sc _) rfl rfl (fun _ => rfl) ?_
              refine RunC.fin ?_
              refine ⟨(z20, w6 (s17.2 + 1)), (Option.some.inj hR).symm, ?_⟩
              exact Weak.turnL [(0, 0), (1, 0)] [] rfl rfl (tc (trP' rfl rfl rfl rfl) (tc (.sc _) (tc (.sc _) (tc (.sc _) (tc (trS' rfl rfl rfl rfl rfl) (tc (.sc _) (tc (.sc _) (tc (.sc _) (tc (.sc _) (tc (.sc _) (tc (.sc _) (tc (.sc _) (tc (.sc _) tn))))))))))))) (mc rfl (.box rfl (.cons trR1 (.cons (.sc _) (.nil))) rfl) (mc rfl (btrA' rfl) mn))
          · refine AWP.exit ?_
            refine exT ?_
            refine exT ?_
            refine exH (skT ?_)
            refine ⟨s17.1, (Option.some.inj hR).symm, ?_⟩
            exact Weak.turnL [(0, 0), (1, 0)] [] rfl rfl (tc (trP' rfl rfl rfl rfl) (tc (.sc _) (tc (.sc _) (tc (.sc _) (tc (trS' rfl rfl rfl rfl rfl) (tc (.sc _) (tc (.sc _) tn))))))) (mc rfl (.box rfl (.cons trR1 (.cons (.sc _) (.nil))) rfl) (mc rfl (btrA' rfl) mn))
        · refine skB ?_
          refine skT ?_
          refine AWP.rgC 10 rfl rfl ?_
          refine pu (v := .sc _) rfl rfl (fun _ => rfl) ?_
          refine pu (v := .sc _) rfl rfl (fun _ => rfl) ?_
          refine RunC.fin ?_
          refine ⟨(r16.2, z18, w6 (s8.2.2 + 1)), (Option.some.inj hR).symm, ?_⟩
          exact Weak.turnL [(0, 0), (1, 0)] [] rfl rfl (tc (trP' rfl rfl rfl rfl) (tc (.sc _) (tc (.sc _) (tc (.sc _) (tc (trS' rfl rfl rfl rfl rfl) (tc (.sc _) (tc (.sc _) tn))))))) (mc rfl (.box rfl (.cons trR1 (.cons (.sc _) (.nil))) rfl) (mc rfl (btrA' rfl) mn))
      · refine AWP.exit ?_
        refine exT ?_
        refine exT ?_
        refine exH (skT ?_)
        refine ⟨(s8.1, s8.2.1), (Option.some.inj hR).symm, ?_⟩
        exact Weak.turnL [(0, 0), (1, 0)] [] rfl rfl (tc (.sc _) (tc (trS' rfl rfl rfl rfl rfl) tn)) (mc rfl (.box rfl (.cons trR1 (.cons (.sc _) (.nil))) rfl) (mc rfl (btrA' rfl) mn))
    · refine skT ?_
      refine AWP.sq ?_
      refine AWP.rgC 18 rfl rfl ?_
      refine pu (v := slV Int _ _ _ _) rfl rfl (fun _ => rfl) ?_
      refine pu (v := .sc _) rfl rfl (fun _ => rfl) ?_
      refine pu (v := slV Int _ _ _ _) rfl rfl (fun _ => rfl) ?_
      refine pu (v := .sc _) rfl rfl (fun _ => rfl) ?_
      refine RunC.fin ?_
      refine AWP.ret ?_
      have hR := Option.some.inj hR; subst hR
      exact hQ _ _ (LS.mk [(8, rowV (α := Int) true z9.2), (9, .sc (.int .i64 r1.1))] (lblks 0 [boxB (α := spymake_Stream) false z9.1]) 1) (.tup [rowV (α := Int) true z9.2, .sc (.int .i64 r1.1)]) [] (.inr rfl) (Weak.turnL [(0, 0)] [1] rfl rfl (tc (trF' rfl rfl id rfl) (tc (.sc _) tn)) (mc rfl (.box rfl (.cons trR1 (.cons (.sc _) (.nil))) rfl) mn)) (ro2 (rvT (v := rowV (α := Int) true z9.2) rfl) (rvT (v := .sc (.int .i64 r1.1)) rfl)) rfl rfl (.tup (.cons ldR' (.cons (.sc _) .nil))) (pc rfl bldB pn)
end Go.Proofs.Stm
