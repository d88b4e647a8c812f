/- Each function of the program computes its plain function. Conditions: as each theorem states them. -/
import Derived.Test.YtnohkpdmfibcgaaA4
import Derived.Shelf.SlSortCmp.WholeK
import Derived.Shelf.Spec.SlicesGrow
import Derived.Maps.Own
import Derived.WalkKit
import Derived.Test.YtnohkpdmfibcgaaT
namespace Go.Proofs.Cum
open Go Go.Abs Lf
set_option linter.unusedVariables false
set_option linter.unusedSimpArgs false
set_option maxRecDepth 100000
set_option maxHeartbeats 1000000
theorem ok72 (v : Vec) (most : Int) (r : Bool) (hR : sky_within v most = some r) : FnP Try.prog 72 [aggV false v, .sc (.int .i64 most)] (.sc (.bool r)) := by
  refine fnP_of (FnX.walk Try.func72 rfl 27 0 (by simp [Try.ntmps72]) rfl fun W S F Q hQ => ?_)
  unfold sky_within at hR
  refine AWP.sq ?_
  refine AWP.rgC 8 rfl rfl ?_
  refine bx (cs := _) 0 rfl rfl rfl ?_
  refine pu (v := .sc _) rfl rfl (fun _ => rfl) ?_
  refine RunC.fin ?_
  refine AWP.sq ?_
  refine AWP.sq ?_
  refine AWP.rgC 40 rfl rfl ?_
  refine fa rfl rfl ti27 rfl rfl ti2 rfl ?_
  refine ldB (v := .sc _) rfl rfl rfl rfl ti2 rfl rfl ?_
  refine fa rfl rfl ti27 rfl rfl ti2 rfl ?_
  refine ldB (v := .sc _) rfl rfl rfl rfl ti2 rfl rfl ?_
  refine fa rfl rfl ti27 rfl rfl ti2 rfl ?_
  refine ldB (v := .sc _) rfl rfl rfl rfl ti2 rfl rfl ?_
  refine buA (cs := [.sc (.int .i64 v.X), .sc (.int .i64 v.Y), .sc (.int .i64 v.Z)]) rfl ti128 rfl ti2 rfl rfl ?_
  refine pu (v := .sc _) rfl rfl (fun _ => rfl) ?_
  refine RunC.fin ?_
  refine AWP.loopK' (fun s1 : Int => LS.mk [(1, .sc (.int .i64 most)), (13, aggV (α := Int × Int × Int) true (v.X, v.Y, v.Z)), (14, .sc (.int .i64 s1))] (lblks 0 []) 0) (fun z2 : Unit => LS.mk [] (lblks 0 []) 0) (sky_within.l1 v most) hR (s0 := 0) (Weak.turnL [] [] rfl rfl (tc (.sc _) (tc (.agg (.cons (.sc _) (.cons (.sc _) (.cons (.sc _) (.nil)))) rfl) (tc (.sc _) tn))) mn) (fun s1 o1 hR hE1 => ?_) fun z2 hR => ?_
  · unfold sky_within.l1 at hR
    refine AWP.sq ?_
    refine AWP.rgC 4 rfl rfl ?_
    refine pu (v := .sc _) rfl rfl (fun _ => rfl) ?_
    refine RunC.fin ?_
    refine AWP.sq ?_
    refine AWP.cd hR rfl (fun h3 hR => ?_) fun h3 hR => ?_
    · refine AWP.skip ?_
      refine skT ?_
      refine AWP.sq ?_
      refine AWP.block ?_
      refine AWP.sq ?_
      refine AWP.rgC 12 rfl rfl ?_
      obtain ⟨h4, hR⟩ := chkE hR
      refine ixD (α := Int) (nw := true) (xs := ([v.X, v.Y, v.Z] : List Int)) (v := .sc _) rfl rfl rfl rfl ti128 rfl ti2 h4 rfl rfl rfl ?_
      refine pu (v := .sc _) rfl rfl (fun _ => rfl) ?_
      refine RunC.fin ?_
      refine AWP.joinX (fun z5 : Bool => LS.mk [(1, .sc (.int .i64 most)), (13, aggV (α := Int × Int × Int) true (v.X, v.Y, v.Z)), (14, .sc (.int .i64 s1)), (25, .sc (.bool z5))] (lblks 0 []) 0) hR (fun o5 hR => ?_) fun z5 hR => ?_
      · refine AWP.rgC 48 rfl rfl ?_
        refine pu (v := .sc _) rfl rfl (fun _ => rfl) ?_
        refine pu (v := .sc _) rfl rfl (fun _ => rfl) ?_
        refine pu (v := .sc _) rfl rfl (fun _ => rfl) ?_
        obtain ⟨v6, ev6, hR⟩ := letE hR
        refine pu (v := .sc _) rfl rfl (fun _ => puB ev6) ?_
        refine pu (v := .sc _) rfl rfl (fun _ => rfl) ?_
        refine brR hR (fun h7 hR => ?_) fun h7 hR => ?_
        · refine sk (skW rfl rfl rfl h7) ?_
          refine sk (skW rfl rfl rfl h7) ?_
          refine sk (skW rfl rfl rfl h7) ?_
          refine pkT (v := .sc (.bool true)) rfl rfl h7 rfl ?_
          refine RunC.fin ?_
          have hR := Option.some.inj hR; subst hR
          exact Weak.turnL [] [] rfl rfl (tc (.sc _) (tc (.agg (.cons (.sc _) (.cons (.sc _) (.cons (.sc _) (.nil)))) rfl) (tc (.sc _) (tc (.sc _) tn)))) mn
        · refine pu (v := .sc _) (wtG rfl rfl rfl h7) rfl (fun _ => rfl) ?_
          refine pu (v := .sc _) (wtG rfl rfl rfl h7) rfl (fun _ => rfl) ?_
          refine pu (v := .sc _) (wtG rfl rfl rfl h7) rfl (fun _ => rfl) ?_
          refine pkF (v := .sc (.bool (decide ((gt ([v.X, v.Y, v.Z] : List Int) s1) > most)))) rfl rfl h7 rfl ?_
          refine RunC.fin ?_
          have hR := Option.some.inj hR; subst hR
          exact Weak.turnL [] [] rfl rfl (tc (.sc _) (tc (.agg (.cons (.sc _) (.cons (.sc _) (.cons (.sc _) (.nil)))) rfl) (tc (.sc _) (tc (.sc _) tn)))) mn
      · refine AWP.cd hR rfl (fun h8 hR => ?_) fun h8 hR => ?_
        · refine AWP.sq ?_
          refine AWP.rgC 4 rfl rfl ?_
          refine pu (v := .sc _) rfl rfl (fun _ => rfl) ?_
          refine RunC.fin ?_
          refine AWP.ret ?_
          refine rtB ?_
          refine rtT ?_
          refine rtT ?_
          refine rtB (rtT ?_)
          replace hR := escL hR hE1
          refine rtT ?_
          have hR := Option.some.inj hR; subst hR
          exact hQ _ _ (LS.mk [(4, .sc (.bool false))] (lblks 0 []) 0) (.sc (.bool false)) [] (.inr rfl) (Weak.turnL [] [] rfl rfl (tc (.sc _) tn) mn) (ro1 (rvT (v := .sc (.bool false)) rfl)) rfl rfl (.sc _) pn
        · refine AWP.skip ?_
          refine skB ?_
          refine skT ?_
          refine AWP.rgC 8 rfl rfl ?_
          refine pu (v := .sc _) rfl rfl (fun _ => rfl) ?_
          refine pu (v := .sc _) rfl rfl (fun _ => rfl) ?_
          refine RunC.fin ?_
          refine ⟨(w6 (s1 + 1)), (Option.some.inj hR).symm, ?_⟩
          exact Weak.turnL [] [] rfl rfl (tc (.sc _) (tc (.agg (.cons (.sc _) (.cons (.sc _) (.cons (.sc _) (.nil)))) rfl) (tc (.sc _) tn))) mn
    · refine AWP.exit ?_
      refine exT ?_
      refine exT ?_
      refine exH (skT ?_)
      refine ⟨(), (Option.some.inj hR).symm, ?_⟩
      exact Weak.turnL [] [] rfl rfl tn mn
  · refine skT ?_
    refine AWP.sq ?_
    refine AWP.rgC 4 rfl rfl ?_
    refine pu (v := .sc _) rfl rfl (fun _ => rfl) ?_
    refine RunC.fin ?_
    refine AWP.ret ?_
    have hR := Option.some.inj hR; subst hR
    exact hQ _ _ (LS.mk [(4, .sc (.bool true))] (lblks 0 []) 0) (.sc (.bool true)) [] (.inr rfl) (Weak.turnL [] [] rfl rfl (tc (.sc _) tn) mn) (ro1 (rvT (v := .sc (.bool true)) rfl)) rfl rfl (.sc _) pn
theorem ok69 (v : Vec) (r : Int) (hR : sphere_Check v = some r) : FnP Try.prog 69 [aggV false v] (.sc (.int .i64 r)) := by
  refine fnP_of (FnX.walk Try.func69 rfl 26 0 (by simp [Try.ntmps69]) rfl fun W S F Q hQ => ?_)
  unfold sphere_Check at hR
  refine AWP.sq ?_
  refine AWP.rgC 8 rfl rfl ?_
  refine bx (cs := _) 0 rfl rfl rfl ?_
  refine pu (v := .sc _) rfl rfl (fun _ => rfl) ?_
  refine RunC.fin ?_
  refine AWP.sq ?_
  refine AWP.block ?_
  refine AWP.joinX (fun z1 : Bool => LS.mk [(1, .ptr 0 0 0), (3, .sc (.bool z1))] (lblks 0 [boxB (α := Vec) true v]) 1) hR (fun o1 hR => ?_) fun z1 hR => ?_
  · refine AWP.rgC 84 rfl rfl ?_
    refine fa rfl rfl ti27 rfl rfl ti2 rfl ?_
    refine ldB (v := .sc _) rfl rfl rfl rfl ti2 rfl rfl ?_
    refine fa rfl rfl ti27 rfl rfl ti2 rfl ?_
    refine ldB (v := .sc _) rfl rfl rfl rfl ti2 rfl rfl ?_
    refine fa rfl rfl ti27 rfl rfl ti2 rfl ?_
    refine ldB (v := .sc _) rfl rfl rfl rfl ti2 rfl rfl ?_
    refine pu (v := .sc _) rfl rfl (fun _ => rfl) ?_
    refine pu (v := .sc _) rfl rfl (fun _ => rfl) ?_
    refine pu (v := .sc _) rfl rfl (fun _ => rfl) ?_
    refine brR hR (fun h2 hR => ?_) fun h2 hR => ?_
    · refine sk (skW rfl rfl rfl h2) ?_
      refine sk (skW rfl rfl rfl h2) ?_
      refine sk (skW rfl rfl rfl h2) ?_
      refine sk (skW rfl rfl rfl h2) ?_
      refine sk (skW rfl rfl rfl h2) ?_
      refine sk (skW rfl rfl rfl h2) ?_
      refine sk (skW rfl rfl rfl h2) ?_
      refine sk (skW rfl rfl rfl h2) ?_
      refine pkT (v := .sc (.bool true)) rfl rfl h2 rfl ?_
      refine pu (v := .sc _) rfl rfl (fun _ => rfl) ?_
      refine RunC.fin ?_
      have hR := Option.some.inj hR; subst hR
      exact Weak.turnL [(0, 0)] [] rfl rfl (tc (trP' rfl rfl rfl rfl) (tc (.sc _) tn)) (mc rfl (.box rfl (.cons (.sc _) (.cons (.sc _) (.cons (.sc _) (.nil)))) rfl) mn)
    · refine fa (wtG rfl rfl rfl h2) rfl ti27 rfl rfl ti2 rfl ?_
      refine ldB (v := .sc _) (wtG rfl rfl rfl h2) rfl rfl rfl ti2 rfl rfl ?_
      refine fa (wtG rfl rfl rfl h2) rfl ti27 rfl rfl ti2 rfl ?_
      refine ldB (v := .sc _) (wtG rfl rfl rfl h2) rfl rfl rfl ti2 rfl rfl ?_
      refine fa (wtG rfl rfl rfl h2) rfl ti27 rfl rfl ti2 rfl ?_
      refine ldB (v := .sc _) (wtG rfl rfl rfl h2) rfl rfl rfl ti2 rfl rfl ?_
      refine pu (v := .sc _) (wtG rfl rfl rfl h2) rfl (fun _ => rfl) ?_
      refine pu (v := .sc _) (wtG rfl rfl rfl h2) rfl (fun _ => rfl) ?_
      refine pkF (v := .sc (.bool (decide ((mn2 (mn2 v.X v.Y) v.Z) < (-1048576))))) rfl rfl h2 rfl ?_
      refine pu (v := .sc _) rfl rfl (fun _ => rfl) ?_
      refine RunC.fin ?_
      have hR := Option.some.inj hR; subst hR
      exact Weak.turnL [(0, 0)] [] rfl rfl (tc (trP' rfl rfl rfl rfl) (tc (.sc _) tn)) (mc rfl (.box rfl (.cons (.sc _) (.cons (.sc _) (.cons (.sc _) (.nil)))) rfl) mn)
  · refine AWP.cd hR rfl (fun h3 hR => ?_) fun h3 hR => ?_
    · refine AWP.sq ?_
      refine AWP.rgC 5 rfl rfl ?_
      refine pu (v := .sc _) rfl rfl (fun _ => rfl) ?_
      refine RunC.fin ?_
      refine AWP.ret ?_
      refine rtB ?_
      refine rtT ?_
      have hR := Option.some.inj hR; subst hR
      exact hQ _ _ (LS.mk [(2, .sc (.int .i64 4))] (lblks 0 []) 0) (.sc (.int .i64 4)) [] (.inr rfl) (Weak.turnL [] [] rfl rfl (tc (.sc _) tn) mn) (ro1 (rvT (v := .sc (.int .i64 4)) rfl)) rfl rfl (.sc _) pn
    · refine AWP.sq ?_
      refine AWP.rgC 17 rfl rfl ?_
      refine ldB (v := .agg _) rfl rfl rfl rfl ti27 rfl rfl ?_
      refine bu (cs := [.sc (.int .i64 0), .sc (.int .i64 0), .sc (.int .i64 0)]) rfl bt27 rfl ?_
      refine es (cs := [.sc (.int .i64 v.X), .sc (.int .i64 v.Y), .sc (.int .i64 v.Z)]) (ds := [.sc (.int .i64 0), .sc (.int .i64 0), .sc (.int .i64 0)]) rfl rfl rfl qa27 qg27 (qe27 _ _ _ _ _ _) ?_
      refine pu (v := .sc _) rfl rfl (fun _ => rfl) ?_
      refine RunC.fin ?_
      refine AWP.cd hR rfl (fun h4 hR => ?_) fun h4 hR => ?_
      · refine AWP.sq ?_
        refine AWP.rgC 21 rfl rfl ?_
        refine pu (v := .sc _) rfl rfl (fun _ => rfl) ?_
        refine RunC.fin ?_
        refine AWP.ret ?_
        refine rtB ?_
        refine rtT ?_
        have hR := Option.some.inj hR; subst hR
        exact hQ _ _ (LS.mk [(2, .sc (.int .i64 8))] (lblks 0 []) 0) (.sc (.int .i64 8)) [] (.inr rfl) (Weak.turnL [] [] rfl rfl (tc (.sc _) tn) mn) (ro1 (rvT (v := .sc (.int .i64 8)) rfl)) rfl rfl (.sc _) pn
      · refine AWP.skip ?_
        refine skB ?_
        refine skT ?_
        refine AWP.sq ?_
        refine AWP.rgC 21 rfl rfl ?_
        refine pu (v := .sc _) rfl rfl (fun _ => rfl) ?_
        refine RunC.fin ?_
        refine AWP.ret ?_
        have hR := Option.some.inj hR; subst hR
        exact hQ _ _ (LS.mk [(2, .sc (.int .i64 0))] (lblks 0 []) 0) (.sc (.int .i64 0)) [] (.inr rfl) (Weak.turnL [] [] rfl rfl (tc (.sc _) tn) mn) (ro1 (rvT (v := .sc (.int .i64 0)) rfl)) rfl rfl (.sc _) pn
theorem ok65 (r_ : NU64) (r : NU64 × NU64) (hR : xorshift_Next r_ = some r) : FnD Try.prog 65 [boxB false r_] [.ptr 0 0 0] (.sc (.int .u64 r.1.n)) [boxB false r.2] := by
  refine FnX.walk Try.func65 rfl 33 1 (by simp [Try.ntmps65]) rfl fun W S F Q hQ => ?_
  unfold xorshift_Next at hR
  refine AWP.sq ?_
  refine AWP.rgC 5 rfl rfl ?_
  refine pu (v := .sc _) rfl rfl (fun _ => rfl) ?_
  refine RunC.fin ?_
  refine AWP.sq ?_
  refine AWP.rgD 45 [0, 1, 3, 0, 8, 24, 56, 127, 255, 511] ⟨[], [none, none, some [0], none, none, some [0], none, none, none, some [0]]⟩ hmix (by kernel_rfl) rfl rfl ?_
  refine pu (v := .ptr _ _ _) rfl rfl (fun _ => rfl) ?_
  refine pu (v := .ptr _ _ _) rfl rfl (fun _ => rfl) ?_
  refine ldB (v := .sc _) rfl rfl rfl rfl ti113 rfl rfl ?_
  refine pu (v := .ptr _ _ _) rfl rfl (fun _ => rfl) ?_
  refine pu (v := .ptr _ _ _) rfl rfl (fun _ => rfl) ?_
  refine ldB (v := .sc _) rfl rfl rfl rfl ti113 rfl rfl ?_
  refine pu (v := .sc _) rfl rfl (fun _ => rfl) ?_
  obtain ⟨v1, ev1, hR⟩ := letE hR
  refine pu (v := .sc _) rfl rfl (fun _ => puI ev1) ?_
  refine pu (v := .ptr _ _ _) rfl rfl (fun _ => rfl) ?_
  refine stB (cs' := [.sc (.int .u64 v1)]) rfl rfl rfl rfl ti113 rfl rfl rfl rfl rfl ?_
  refine RunC.fin ?_
  refine AWP.sq ?_
  refine AWP.rgD 85 [0, 1, 3, 0, 8, 24, 56, 127, 255, 511] ⟨[], [none, none, some [0], none, none, some [0], none, none, none, some [0]]⟩ hmix (by kernel_rfl) rfl rfl ?_
  refine pu (v := .ptr _ _ _) rfl rfl (fun _ => rfl) ?_
  refine pu (v := .ptr _ _ _) rfl rfl (fun _ => rfl) ?_
  refine ldB (v := .sc _) rfl rfl rfl rfl ti113 rfl rfl ?_
  refine pu (v := .ptr _ _ _) rfl rfl (fun _ => rfl) ?_
  refine pu (v := .ptr _ _ _) rfl rfl (fun _ => rfl) ?_
  refine ldB (v := .sc _) rfl rfl rfl rfl ti113 rfl rfl ?_
  refine pu (v := .sc _) rfl rfl (fun _ => rfl) ?_
  obtain ⟨v2, ev2, hR⟩ := letE hR
  refine pu (v := .sc _) rfl rfl (fun _ => puI ev2) ?_
  refine pu (v := .ptr _ _ _) rfl rfl (fun _ => rfl) ?_
  refine stB (cs' := [.sc (.int .u64 v2)]) rfl rfl rfl rfl ti113 rfl rfl rfl rfl rfl ?_
  refine RunC.fin ?_
  refine AWP.sq ?_
  refine AWP.rgD 125 [0, 1, 3, 0, 8, 24, 56, 127, 255, 511] ⟨[], [none, none, some [0], none, none, some [0], none, none, none, some [0]]⟩ hmix (by kernel_rfl) rfl rfl ?_
  refine pu (v := .ptr _ _ _) rfl rfl (fun _ => rfl) ?_
  refine pu (v := .ptr _ _ _) rfl rfl (fun _ => rfl) ?_
  refine ldB (v := .sc _) rfl rfl rfl rfl ti113 rfl rfl ?_
  refine pu (v := .ptr _ _ _) rfl rfl (fun _ => rfl) ?_
  refine pu (v := .ptr _ _ _) rfl rfl (fun _ => rfl) ?_
  refine ldB (v := .sc _) rfl rfl rfl rfl ti113 rfl rfl ?_
  refine pu (v := .sc _) rfl rfl (fun _ => rfl) ?_
  obtain ⟨v3, ev3, hR⟩ := letE hR
  refine pu (v := .sc _) rfl rfl (fun _ => puI ev3) ?_
  refine pu (v := .ptr _ _ _) rfl rfl (fun _ => rfl) ?_
  refine stB (cs' := [.sc (.int .u64 v3)]) rfl rfl rfl rfl ti113 rfl rfl rfl rfl rfl ?_
  refine RunC.fin ?_
  refine AWP.sq ?_
  refine AWP.rgC 141 rfl rfl ?_
  refine pu (v := .ptr _ _ _) rfl rfl (fun _ => rfl) ?_
  refine pu (v := .ptr _ _ _) rfl rfl (fun _ => rfl) ?_
  refine ldB (v := .sc _) rfl rfl rfl rfl ti113 rfl rfl ?_
  refine pu (v := .sc _) rfl rfl (fun _ => rfl) ?_
  refine RunC.fin ?_
  refine AWP.ret ?_
  have hR := Option.some.inj hR; subst hR
  exact hQ _ _ (LS.mk [(2, .sc (.int .u64 v3))] (lblks 0 [boxB (α := NU64) true (NU64.mk v3)]) 1) (.sc (.int .u64 v3)) [] (.inr rfl) (Weak.turnL [(0, 0)] [] rfl rfl (tc (.sc _) tn) (mc rfl (.box rfl (.cons (.sc _) (.nil)) rfl) mn)) (ro1 (rvT (v := .sc (.int .u64 v3)) rfl)) rfl rfl (.sc _) (pc rfl bldB pn)
theorem ok56 (x : Int) (r : Int) (hR : bits_Len64 x = some r) : FnP Try.prog 56 [.sc (.int .u64 x)] (.sc (.int .i64 r)) := by
  refine fnP_of (FnX.walk Try.func56 rfl 25 0 (by simp [Try.ntmps56]) rfl fun W S F Q hQ => ?_)
  unfold bits_Len64 at hR
  refine AWP.sq ?_
  refine AWP.rgC 4 rfl rfl ?_
  refine pu (v := .sc _) rfl rfl (fun _ => rfl) ?_
  refine RunC.fin ?_
  refine AWP.sq ?_
  refine AWP.sq ?_
  refine AWP.rgC 12 rfl rfl ?_
  refine pu (v := .sc _) rfl rfl (fun _ => rfl) ?_
  refine pu (v := .sc _) rfl rfl (fun _ => rfl) ?_
  refine RunC.fin ?_
  refine AWP.cd hR rfl (fun h1 hR => ?_) fun h1 hR => ?_
  · refine AWP.sq ?_
    refine AWP.rgC 24 rfl rfl ?_
    refine pu (v := .sc _) rfl rfl (fun _ => rfl) ?_
    refine pu (v := .sc _) rfl rfl (fun _ => rfl) ?_
    refine pu (v := .sc _) rfl rfl (fun _ => rfl) ?_
    refine RunC.fin ?_
    refine AWP.rgC 28 rfl rfl ?_
    refine pu (v := .sc _) rfl rfl (fun _ => rfl) ?_
    refine RunC.fin ?_
    refine AWP.sq ?_
    refine AWP.sq ?_
    refine AWP.rgC 36 rfl rfl ?_
    refine pu (v := .sc _) rfl rfl (fun _ => rfl) ?_
    refine pu (v := .sc _) rfl rfl (fun _ => rfl) ?_
    refine RunC.fin ?_
    refine AWP.cd hR rfl (fun h2 hR => ?_) fun h2 hR => ?_
    · refine AWP.sq ?_
      refine AWP.rgC 48 rfl rfl ?_
      refine pu (v := .sc _) rfl rfl (fun _ => rfl) ?_
      refine pu (v := .sc _) rfl rfl (fun _ => rfl) ?_
      refine pu (v := .sc _) rfl rfl (fun _ => rfl) ?_
      refine RunC.fin ?_
      refine AWP.rgC 60 rfl rfl ?_
      refine pu (v := .sc _) rfl rfl (fun _ => rfl) ?_
      refine pu (v := .sc _) rfl rfl (fun _ => rfl) ?_
      refine pu (v := .sc _) rfl rfl (fun _ => rfl) ?_
      refine RunC.fin ?_
      refine AWP.sq ?_
      refine AWP.sq ?_
      refine AWP.rgC 68 rfl rfl ?_
      refine pu (v := .sc _) rfl rfl (fun _ => rfl) ?_
      refine pu (v := .sc _) rfl rfl (fun _ => rfl) ?_
      refine RunC.fin ?_
      refine AWP.cd hR rfl (fun h3 hR => ?_) fun h3 hR => ?_
      · refine AWP.sq ?_
        refine AWP.rgC 80 rfl rfl ?_
        refine pu (v := .sc _) rfl rfl (fun _ => rfl) ?_
        refine pu (v := .sc _) rfl rfl (fun _ => rfl) ?_
        refine pu (v := .sc _) rfl rfl (fun _ => rfl) ?_
        refine RunC.fin ?_
        refine AWP.rgC 92 rfl rfl ?_
        refine pu (v := .sc _) rfl rfl (fun _ => rfl) ?_
        refine pu (v := .sc _) rfl rfl (fun _ => rfl) ?_
        refine pu (v := .sc _) rfl rfl (fun _ => rfl) ?_
        refine RunC.fin ?_
        refine AWP.sq ?_
        refine AWP.rgC 120 rfl rfl ?_
        refine pu (v := .sc _) rfl rfl (fun _ => rfl) ?_
        refine pu (v := .sc _) rfl rfl (fun _ => rfl) ?_
        refine cn rfl rfl ti106 rfl ti5 rfl rfl ?_
        obtain ⟨h4, hR⟩ := chkE hR
        refine ixT (s := tab1) rfl rfl rfl ti9 rfl h4 ?_
        refine cn rfl rfl ti5 rfl ti3 rfl rfl ?_
        obtain ⟨v5, ev5, hR⟩ := letE hR
        refine pu (v := .sc _) rfl rfl (fun _ => puI ev5) ?_
        refine pu (v := .sc _) rfl rfl (fun _ => rfl) ?_
        refine RunC.fin ?_
        refine AWP.ret ?_
        have hR := Option.some.inj hR; subst hR
        exact hQ _ _ (LS.mk [(2, .sc (.int .i64 v5))] (lblks 0 []) 0) (.sc (.int .i64 v5)) [] (.inr rfl) (Weak.turnL [] [] rfl rfl (tc (.sc _) tn) mn) (ro1 (rvT (v := .sc (.int .i64 v5)) rfl)) rfl rfl (.sc _) pn
      · refine AWP.skip ?_
        refine skT ?_
        refine AWP.sq ?_
        refine AWP.rgC 96 rfl rfl ?_
        refine pu (v := .sc _) rfl rfl (fun _ => rfl) ?_
        refine pu (v := .sc _) rfl rfl (fun _ => rfl) ?_
        refine cn rfl rfl ti106 rfl ti5 rfl rfl ?_
        obtain ⟨h6, hR⟩ := chkE hR
        refine ixT (s := tab1) rfl rfl rfl ti9 rfl h6 ?_
        refine cn rfl rfl ti5 rfl ti3 rfl rfl ?_
        obtain ⟨v7, ev7, hR⟩ := letE hR
        refine pu (v := .sc _) rfl rfl (fun _ => puI ev7) ?_
        refine pu (v := .sc _) rfl rfl (fun _ => rfl) ?_
        refine RunC.fin ?_
        refine AWP.ret ?_
        have hR := Option.some.inj hR; subst hR
        exact hQ _ _ (LS.mk [(2, .sc (.int .i64 v7))] (lblks 0 []) 0) (.sc (.int .i64 v7)) [] (.inr rfl) (Weak.turnL [] [] rfl rfl (tc (.sc _) tn) mn) (ro1 (rvT (v := .sc (.int .i64 v7)) rfl)) rfl rfl (.sc _) pn
    · refine AWP.skip ?_
      refine skT ?_
      refine AWP.sq ?_
      refine AWP.sq ?_
      refine AWP.rgC 44 rfl rfl ?_
      refine pu (v := .sc _) rfl rfl (fun _ => rfl) ?_
      refine pu (v := .sc _) rfl rfl (fun _ => rfl) ?_
      refine RunC.fin ?_
      refine AWP.cd hR rfl (fun h8 hR => ?_) fun h8 hR => ?_
      · refine AWP.sq ?_
        refine AWP.rgC 56 rfl rfl ?_
        refine pu (v := .sc _) rfl rfl (fun _ => rfl) ?_
        refine pu (v := .sc _) rfl rfl (fun _ => rfl) ?_
        refine pu (v := .sc _) rfl rfl (fun _ => rfl) ?_
        refine RunC.fin ?_
        refine AWP.rgC 68 rfl rfl ?_
        refine pu (v := .sc _) rfl rfl (fun _ => rfl) ?_
        refine pu (v := .sc _) rfl rfl (fun _ => rfl) ?_
        refine pu (v := .sc _) rfl rfl (fun _ => rfl) ?_
        refine RunC.fin ?_
        refine AWP.sq ?_
        refine AWP.rgC 96 rfl rfl ?_
        refine pu (v := .sc _) rfl rfl (fun _ => rfl) ?_
        refine pu (v := .sc _) rfl rfl (fun _ => rfl) ?_
        refine cn rfl rfl ti106 rfl ti5 rfl rfl ?_
        obtain ⟨h9, hR⟩ := chkE hR
        refine ixT (s := tab1) rfl rfl rfl ti9 rfl h9 ?_
        refine cn rfl rfl ti5 rfl ti3 rfl rfl ?_
        obtain ⟨v10, ev10, hR⟩ := letE hR
        refine pu (v := .sc _) rfl rfl (fun _ => puI ev10) ?_
        refine pu (v := .sc _) rfl rfl (fun _ => rfl) ?_
        refine RunC.fin ?_
        refine AWP.ret ?_
        have hR := Option.some.inj hR; subst hR
        exact hQ _ _ (LS.mk [(2, .sc (.int .i64 v10))] (lblks 0 []) 0) (.sc (.int .i64 v10)) [] (.inr rfl) (Weak.turnL [] [] rfl rfl (tc (.sc _) tn) mn) (ro1 (rvT (v := .sc (.int .i64 v10)) rfl)) rfl rfl (.sc _) pn
      · refine AWP.skip ?_
        refine skT ?_
        refine AWP.sq ?_
        refine AWP.rgC 72 rfl rfl ?_
        refine pu (v := .sc _) rfl rfl (fun _ => rfl) ?_
        refine pu (v := .sc _) rfl rfl (fun _ => rfl) ?_
        refine cn rfl rfl ti106 rfl ti5 rfl rfl ?_
        obtain ⟨h11, hR⟩ := chkE hR
        refine ixT (s := tab1) rfl rfl rfl ti9 rfl h11 ?_
        refine cn rfl rfl ti5 rfl ti3 rfl rfl ?_
        obtain ⟨v12, ev12, hR⟩ := letE hR
        refine pu (v := .sc _) rfl rfl (fun _ => puI ev12) ?_
        refine pu (v := .sc _) rfl rfl (fun _ => rfl) ?_
        refine RunC.fin ?_
        refine AWP.ret ?_
        have hR := Option.some.inj hR; subst hR
        exact hQ _ _ (LS.mk [(2, .sc (.int .i64 v12))] (lblks 0 []) 0) (.sc (.int .i64 v12)) [] (.inr rfl) (Weak.turnL [] [] rfl rfl (tc (.sc _) tn) mn) (ro1 (rvT (v := .sc (.int .i64 v12)) rfl)) rfl rfl (.sc _) pn
  · refine AWP.skip ?_
    refine skT ?_
    refine AWP.sq ?_
    refine AWP.sq ?_
    refine AWP.rgC 20 rfl rfl ?_
    refine pu (v := .sc _) rfl rfl (fun _ => rfl) ?_
    refine pu (v := .sc _) rfl rfl (fun _ => rfl) ?_
    refine RunC.fin ?_
    refine AWP.cd hR rfl (fun h13 hR => ?_) fun h13 hR => ?_
    · refine AWP.sq ?_
      refine AWP.rgC 32 rfl rfl ?_
      refine pu (v := .sc _) rfl rfl (fun _ => rfl) ?_
      refine pu (v := .sc _) rfl rfl (fun _ => rfl) ?_
      refine pu (v := .sc _) rfl rfl (fun _ => rfl) ?_
      refine RunC.fin ?_
      refine AWP.rgC 44 rfl rfl ?_
      refine pu (v := .sc _) rfl rfl (fun _ => rfl) ?_
      refine pu (v := .sc _) rfl rfl (fun _ => rfl) ?_
      refine pu (v := .sc _) rfl rfl (fun _ => rfl) ?_
      refine RunC.fin ?_
      refine AWP.sq ?_
      refine AWP.sq ?_
      refine AWP.rgC 52 rfl rfl ?_
      refine pu (v := .sc _) rfl rfl (fun _ => rfl) ?_
      refine pu (v := .sc _) rfl rfl (fun _ => rfl) ?_
      refine RunC.fin ?_
      refine AWP.cd hR rfl (fun h14 hR => ?_) fun h14 hR => ?_
      · refine AWP.sq ?_
        refine AWP.rgC 64 rfl rfl ?_
        refine pu (v := .sc _) rfl rfl (fun _ => rfl) ?_
        refine pu (v := .sc _) rfl rfl (fun _ => rfl) ?_
        refine pu (v := .sc _) rfl rfl (fun _ => rfl) ?_
        refine RunC.fin ?_
        refine AWP.rgC 76 rfl rfl ?_
        refine pu (v := .sc _) rfl rfl (fun _ => rfl) ?_
        refine pu (v := .sc _) rfl rfl (fun _ => rfl) ?_
        refine pu (v := .sc _) rfl rfl (fun _ => rfl) ?_
        refine RunC.fin ?_
        refine AWP.sq ?_
        refine AWP.rgC 104 rfl rfl ?_
        refine pu (v := .sc _) rfl rfl (fun _ => rfl) ?_
        refine pu (v := .sc _) rfl rfl (fun _ => rfl) ?_
        refine cn rfl rfl ti106 rfl ti5 rfl rfl ?_
        obtain ⟨h15, hR⟩ := chkE hR
        refine ixT (s := tab1) rfl rfl rfl ti9 rfl h15 ?_
        refine cn rfl rfl ti5 rfl ti3 rfl rfl ?_
        obtain ⟨v16, ev16, hR⟩ := letE hR
        refine pu (v := .sc _) rfl rfl (fun _ => puI ev16) ?_
        refine pu (v := .sc _) rfl rfl (fun _ => rfl) ?_
        refine RunC.fin ?_
        refine AWP.ret ?_
        have hR := Option.some.inj hR; subst hR
        exact hQ _ _ (LS.mk [(2, .sc (.int .i64 v16))] (lblks 0 []) 0) (.sc (.int .i64 v16)) [] (.inr rfl) (Weak.turnL [] [] rfl rfl (tc (.sc _) tn) mn) (ro1 (rvT (v := .sc (.int .i64 v16)) rfl)) rfl rfl (.sc _) pn
      · refine AWP.skip ?_
        refine skT ?_
        refine AWP.sq ?_
        refine AWP.rgC 80 rfl rfl ?_
        refine pu (v := .sc _) rfl rfl (fun _ => rfl) ?_
        refine pu (v := .sc _) rfl rfl (fun _ => rfl) ?_
        refine cn rfl rfl ti106 rfl ti5 rfl rfl ?_
        obtain ⟨h17, hR⟩ := chkE hR
        refine ixT (s := tab1) rfl rfl rfl ti9 rfl h17 ?_
        refine cn rfl rfl ti5 rfl ti3 rfl rfl ?_
        obtain ⟨v18, ev18, hR⟩ := letE hR
        refine pu (v := .sc _) rfl rfl (fun _ => puI ev18) ?_
        refine pu (v := .sc _) rfl rfl (fun _ => rfl) ?_
        refine RunC.fin ?_
        refine AWP.ret ?_
        have hR := Option.some.inj hR; subst hR
        exact hQ _ _ (LS.mk [(2, .sc (.int .i64 v18))] (lblks 0 []) 0) (.sc (.int .i64 v18)) [] (.inr rfl) (Weak.turnL [] [] rfl rfl (tc (.sc _) tn) mn) (ro1 (rvT (v := .sc (.int .i64 v18)) rfl)) rfl rfl (.sc _) pn
    · refine AWP.skip ?_
      refine skT ?_
      refine AWP.sq ?_
      refine AWP.sq ?_
      refine AWP.rgC 28 rfl rfl ?_
      refine pu (v := .sc _) rfl rfl (fun _ => rfl) ?_
      refine pu (v := .sc _) rfl rfl (fun _ => rfl) ?_
      refine RunC.fin ?_
      refine AWP.cd hR rfl (fun h19 hR => ?_) fun h19 hR => ?_
      · refine AWP.sq ?_
        refine AWP.rgC 40 rfl rfl ?_
        refine pu (v := .sc _) rfl rfl (fun _ => rfl) ?_
        refine pu (v := .sc _) rfl rfl (fun _ => rfl) ?_
        refine pu (v := .sc _) rfl rfl (fun _ => rfl) ?_
        refine RunC.fin ?_
        refine AWP.rgC 52 rfl rfl ?_
        refine pu (v := .sc _) rfl rfl (fun _ => rfl) ?_
        refine pu (v := .sc _) rfl rfl (fun _ => rfl) ?_
        refine pu (v := .sc _) rfl rfl (fun _ => rfl) ?_
        refine RunC.fin ?_
        refine AWP.sq ?_
        refine AWP.rgC 80 rfl rfl ?_
        refine pu (v := .sc _) rfl rfl (fun _ => rfl) ?_
        refine pu (v := .sc _) rfl rfl (fun _ => rfl) ?_
        refine cn rfl rfl ti106 rfl ti5 rfl rfl ?_
        obtain ⟨h20, hR⟩ := chkE hR
        refine ixT (s := tab1) rfl rfl rfl ti9 rfl h20 ?_
        refine cn rfl rfl ti5 rfl ti3 rfl rfl ?_
        obtain ⟨v21, ev21, hR⟩ := letE hR
        refine pu (v := .sc _) rfl rfl (fun _ => puI ev21) ?_
        refine pu (v := .sc _) rfl rfl (fun _ => rfl) ?_
        refine RunC.fin ?_
        refine AWP.ret ?_
        have hR := Option.some.inj hR; subst hR
        exact hQ _ _ (LS.mk [(2, .sc (.int .i64 v21))] (lblks 0 []) 0) (.sc (.int .i64 v21)) [] (.inr rfl) (Weak.turnL [] [] rfl rfl (tc (.sc _) tn) mn) (ro1 (rvT (v := .sc (.int .i64 v21)) rfl)) rfl rfl (.sc _) pn
      · refine AWP.skip ?_
        refine skT ?_
        refine AWP.sq ?_
        refine AWP.rgC 56 rfl rfl ?_
        refine pu (v := .sc _) rfl rfl (fun _ => rfl) ?_
        refine pu (v := .sc _) rfl rfl (fun _ => rfl) ?_
        refine cn rfl rfl ti106 rfl ti5 rfl rfl ?_
        obtain ⟨h22, hR⟩ := chkE hR
        refine ixT (s := tab1) rfl rfl rfl ti9 rfl h22 ?_
        refine cn rfl rfl ti5 rfl ti3 rfl rfl ?_
        refine pu (v := .sc _) rfl rfl (fun _ => rfl) ?_
        refine pu (v := .sc _) rfl rfl (fun _ => rfl) ?_
        refine RunC.fin ?_
        refine AWP.ret ?_
        have hR := Option.some.inj hR; subst hR
        exact hQ _ _ (LS.mk [(2, .sc (.int .i64 (w6 (0 + (w6 (tabAt tab1 (IntKind.wrap .u8 x)))))))] (lblks 0 []) 0) (.sc (.int .i64 (w6 (0 + (w6 (tabAt tab1 (IntKind.wrap .u8 x))))))) [] (.inr rfl) (Weak.turnL [] [] rfl rfl (tc (.sc _) tn) mn) (ro1 (rvT (v := .sc (.int .i64 (w6 (0 + (w6 (tabAt tab1 (IntKind.wrap .u8 x))))))) rfl)) rfl rfl (.sc _) pn
theorem ok34 (x : Int) (r : Int) (hR : bits_Len x = some r) : FnP Try.prog 34 [.sc (.int .u64 x)] (.sc (.int .i64 r)) := by
  refine fnP_of (FnX.walk Try.func34 rfl 8 0 (by simp [Try.ntmps34]) rfl fun W S F Q hQ => ?_)
  unfold bits_Len at hR
  refine AWP.sq ?_
  refine AWP.rgC 4 rfl rfl ?_
  refine pu (v := .sc _) rfl rfl (fun _ => rfl) ?_
  refine RunC.fin ?_
  refine AWP.sq ?_
  refine AWP.cdF rfl ?_
  refine AWP.skip ?_
  refine skT ?_
  refine AWP.sq ?_
  refine AWP.rgC 16 rfl rfl ?_
  refine pu (v := .sc _) rfl rfl (fun _ => rfl) ?_
  obtain ⟨r1, hr1, hR⟩ := bindE hR
  refine cls [] rfl rfl cb56 (ok56 x _ hr1) (.cons (.sc _) (.nil)) (.inr rfl) rfl ?_
  refine pu (v := .sc _) rfl rfl (fun _ => rfl) ?_
  refine RunC.fin ?_
  refine AWP.ret ?_
  have hR := Option.some.inj hR; subst hR
  exact hQ _ _ (LS.mk [(2, .sc (.int .i64 r1))] (lblks 0 []) 0) (.sc (.int .i64 r1)) [] (.inr rfl) (Weak.turnL [] [] rfl rfl (tc (.sc _) tn) mn) (ro1 (rvT (v := .sc (.int .i64 r1)) rfl)) rfl rfl (.sc _) pn
theorem ok64 (length : Int) (r : NU64) (hR : slices_nextPowerOfTwo length = some r) : FnP Try.prog 64 [.sc (.int .i64 length)] (.sc (.int .u64 r.n)) := by
  refine fnP_of (FnX.walk Try.func64 rfl 7 0 (by simp [Try.ntmps64]) rfl fun W S F Q hQ => ?_)
  unfold slices_nextPowerOfTwo at hR
  refine AWP.sq ?_
  refine AWP.rgC 4 rfl rfl ?_
  refine pu (v := .sc _) rfl rfl (fun _ => rfl) ?_
  refine RunC.fin ?_
  refine AWP.sq ?_
  refine AWP.rgC 24 rfl rfl ?_
  refine pu (v := .sc _) rfl rfl (fun _ => rfl) ?_
  refine cn rfl rfl ti3 rfl ti84 rfl rfl ?_
  obtain ⟨r1, hr1, hR⟩ := bindE hR
  refine cls [] rfl rfl cb34 (ok34 (IntKind.wrap .u64 length) _ hr1) (.cons (.sc _) (.nil)) (.inr rfl) rfl ?_
  obtain ⟨h2, hR⟩ := chkE hR
  obtain ⟨v3, ev3, hR⟩ := letE hR
  refine shL rfl rfl rfl h2 ev3 ?_
  refine pu (v := .sc _) rfl rfl (fun _ => rfl) ?_
  refine RunC.fin ?_
  refine AWP.ret ?_
  have hR := Option.some.inj hR; subst hR
  exact hQ _ _ (LS.mk [(2, .sc (.int .u64 v3))] (lblks 0 []) 0) (.sc (.int .u64 v3)) [] (.inr rfl) (Weak.turnL [] [] rfl rfl (tc (.sc _) tn) mn) (ro1 (rvT (v := .sc (.int .u64 v3)) rfl)) rfl rfl (.sc _) pn
theorem ok62 (b : Body) (r : Bool) (hR : sky_moves b = some r) : FnP Try.prog 62 [aggV false b] (.sc (.bool r)) := by
  refine fnP_of (FnX.walk Try.func62 rfl 11 0 (by simp [Try.ntmps62]) rfl fun W S F Q hQ => ?_)
  unfold sky_moves at hR
  refine AWP.sq ?_
  refine AWP.rgC 8 rfl rfl ?_
  refine bx (cs := _) 0 rfl rfl rfl ?_
  refine pu (v := .sc _) rfl rfl (fun _ => rfl) ?_
  refine RunC.fin ?_
  refine AWP.joinX (fun z1 : Bool => LS.mk [(2, .sc (.bool z1))] (lblks 0 []) 0) hR (fun o1 hR => ?_) fun z1 hR => ?_
  · refine AWP.rgC 44 rfl rfl ?_
    refine fa rfl rfl ti61 rfl rfl ti27 rfl ?_
    refine ldB (v := .agg _) rfl rfl rfl rfl ti27 rfl rfl ?_
    obtain ⟨r2, hr2, hR⟩ := bindE hR
    refine cls [] rfl rfl cb72 (ok72 b.Was 4194304 _ hr2) (.cons (.agg (.cons (.sc _) (.cons (.sc _) (.cons (.sc _) (.nil)))) rfl) (.cons (.sc _) (.nil))) (.inr rfl) rfl ?_
    refine pu (v := .sc _) rfl rfl (fun _ => rfl) ?_
    refine brR hR (fun h3 hR => ?_) fun h3 hR => ?_
    · refine fa (wtG rfl rfl rfl h3) rfl ti61 rfl rfl ti27 rfl ?_
      refine ldB (v := .agg _) (wtG rfl rfl rfl h3) rfl rfl rfl ti27 rfl rfl ?_
      obtain ⟨r4, hr4, hR⟩ := bindE hR
      refine cls [] (wtG rfl rfl rfl h3) rfl cb72 (ok72 b.Here 4194304 _ hr4) (.cons (.agg (.cons (.sc _) (.cons (.sc _) (.cons (.sc _) (.nil)))) rfl) (.cons (.sc _) (.nil))) (.inr rfl) rfl ?_
      refine pkT (v := .sc (.bool r4)) rfl rfl h3 rfl ?_
      refine pu (v := .sc _) rfl rfl (fun _ => rfl) ?_
      refine RunC.fin ?_
      have hR := Option.some.inj hR; subst hR
      exact Weak.turnL [] [] rfl rfl (tc (.sc _) tn) mn
    · refine sk (skW rfl rfl rfl h3) ?_
      refine sk (skW rfl rfl rfl h3) ?_
      refine sk (skW rfl rfl rfl h3) ?_
      refine pkF (v := .sc (.bool false)) rfl rfl h3 rfl ?_
      refine pu (v := .sc _) rfl rfl (fun _ => rfl) ?_
      refine RunC.fin ?_
      have hR := Option.some.inj hR; subst hR
      exact Weak.turnL [] [] rfl rfl (tc (.sc _) tn) mn
  · refine AWP.ret ?_
    have hR := Option.some.inj hR; subst hR
    exact hQ _ _ (LS.mk [(2, .sc (.bool z1))] (lblks 0 []) 0) (.sc (.bool z1)) [] (.inr rfl) (Weak.turnL [] [] rfl rfl (tc (.sc _) tn) mn) (ro1 (rvT (v := .sc (.bool z1)) rfl)) rfl rfl (.sc _) pn
theorem ok61 (g : Galaxy) (r : Int) (hR : sky_galaxy g = some r) : FnP Try.prog 61 [aggV false g] (.sc (.int .i64 r)) := by
  refine fnP_of (FnX.walk Try.func61 rfl 31 0 (by simp [Try.ntmps61]) rfl fun W S F Q hQ => ?_)
  unfold sky_galaxy at hR
  refine AWP.sq ?_
  refine AWP.rgC 8 rfl rfl ?_
  refine bx (cs := _) 0 rfl rfl rfl ?_
  refine pu (v := .sc _) rfl rfl (fun _ => rfl) ?_
  refine RunC.fin ?_
  refine AWP.sq ?_
  refine AWP.sq ?_
  refine AWP.rgC 24 rfl rfl ?_
  refine fa rfl rfl ti81 rfl rfl ti27 rfl ?_
  refine ldB (v := .agg _) rfl rfl rfl rfl ti27 rfl rfl ?_
  obtain ⟨r1, hr1, hR⟩ := bindE hR
  refine cls [] rfl rfl cb69 (ok69 g.At _ hr1) (.cons (.agg (.cons (.sc _) (.cons (.sc _) (.cons (.sc _) (.nil)))) rfl) (.nil)) (.inr rfl) rfl ?_
  refine pu (v := .sc _) rfl rfl (fun _ => rfl) ?_
  refine RunC.fin ?_
  refine AWP.sq ?_
  refine AWP.rgC 32 rfl rfl ?_
  refine pu (v := .sc _) rfl rfl (fun _ => rfl) ?_
  refine pu (v := .sc _) rfl rfl (fun _ => rfl) ?_
  refine RunC.fin ?_
  refine AWP.cd hR rfl (fun h2 hR => ?_) fun h2 hR => ?_
  · refine AWP.sq ?_
    refine AWP.rgC 40 rfl rfl ?_
    refine pu (v := .sc _) rfl rfl (fun _ => rfl) ?_
    refine pu (v := .sc _) rfl rfl (fun _ => rfl) ?_
    refine RunC.fin ?_
    refine AWP.ret ?_
    refine rtT ?_
    have hR := Option.some.inj hR; subst hR
    exact hQ _ _ (LS.mk [(2, .sc (.int .i64 r1))] (lblks 0 []) 0) (.sc (.int .i64 r1)) [] (.inr rfl) (Weak.turnL [] [] rfl rfl (tc (.sc _) tn) mn) (ro1 (rvT (v := .sc (.int .i64 r1)) rfl)) rfl rfl (.sc _) pn
  · refine AWP.skip ?_
    refine skT ?_
    refine AWP.sq ?_
    refine AWP.sq ?_
    refine AWP.rgC 56 rfl rfl ?_
    refine fa rfl rfl ti81 rfl rfl ti3 rfl ?_
    refine ldB (v := .sc _) rfl rfl rfl rfl ti3 rfl rfl ?_
    refine fa rfl rfl ti81 rfl rfl ti3 rfl ?_
    refine ldB (v := .sc _) rfl rfl rfl rfl ti3 rfl rfl ?_
    refine buA (cs := [.sc (.int .i64 g.Wide), .sc (.int .i64 g.High)]) rfl ti122 rfl ti3 rfl rfl ?_
    refine pu (v := .sc _) rfl rfl (fun _ => rfl) ?_
    refine RunC.fin ?_
    refine AWP.loopK' (fun s3 : Int => LS.mk [(16, aggV (α := Int × Int) true (g.Wide, g.High)), (17, .sc (.int .i64 s3))] (lblks 0 []) 0) (fun z4 : Unit => LS.mk [] (lblks 0 []) 0) (sky_galaxy.l1 g) hR (s0 := 0) (Weak.turnL [] [] rfl rfl (tc (.agg (.cons (.sc _) (.cons (.sc _) (.nil))) rfl) (tc (.sc _) tn)) mn) (fun s3 o3 hR hE3 => ?_) fun z4 hR => ?_
    · unfold sky_galaxy.l1 at hR
      refine AWP.sq ?_
      refine AWP.rgC 4 rfl rfl ?_
      refine pu (v := .sc _) rfl rfl (fun _ => rfl) ?_
      refine RunC.fin ?_
      refine AWP.sq ?_
      refine AWP.cd hR rfl (fun h5 hR => ?_) fun h5 hR => ?_
      · refine AWP.skip ?_
        refine skT ?_
        refine AWP.sq ?_
        refine AWP.block ?_
        refine AWP.sq ?_
        refine AWP.rgC 12 rfl rfl ?_
        obtain ⟨h6, hR⟩ := chkE hR
        refine ixD (α := Int) (nw := true) (xs := ([g.Wide, g.High] : List Int)) (v := .sc _) rfl rfl rfl rfl ti122 rfl ti3 h6 rfl rfl rfl ?_
        refine pu (v := .sc _) rfl rfl (fun _ => rfl) ?_
        refine RunC.fin ?_
        refine AWP.joinX (fun z7 : Bool => LS.mk [(16, aggV (α := Int × Int) true (g.Wide, g.High)), (17, .sc (.int .i64 s3)), (29, .sc (.bool z7))] (lblks 0 []) 0) hR (fun o7 hR => ?_) fun z7 hR => ?_
        · refine AWP.rgC 52 rfl rfl ?_
          refine pu (v := .sc _) rfl rfl (fun _ => rfl) ?_
          refine pu (v := .sc _) rfl rfl (fun _ => rfl) ?_
          refine pu (v := .sc _) rfl rfl (fun _ => rfl) ?_
          refine brR hR (fun h8 hR => ?_) fun h8 hR => ?_
          · refine pu (v := .sc _) (wtG rfl rfl rfl h8) rfl (fun _ => rfl) ?_
            refine pu (v := .sc _) (wtG rfl rfl rfl h8) rfl (fun _ => rfl) ?_
            refine pkT (v := .sc (.bool ((gt ([g.Wide, g.High] : List Int) s3) != 2))) rfl rfl h8 rfl ?_
            refine pu (v := .sc _) rfl rfl (fun _ => rfl) ?_
            refine brR hR (fun h9 hR => ?_) fun h9 hR => ?_
            · refine pu (v := .sc _) (wtG rfl rfl rfl h9) rfl (fun _ => rfl) ?_
              refine pu (v := .sc _) (wtG rfl rfl rfl h9) rfl (fun _ => rfl) ?_
              refine pkT (v := .sc (.bool ((gt ([g.Wide, g.High] : List Int) s3) != 4))) rfl rfl h9 rfl ?_
              refine RunC.fin ?_
              have hR := Option.some.inj hR; subst hR
              exact Weak.turnL [] [] rfl rfl (tc (.agg (.cons (.sc _) (.cons (.sc _) (.nil))) rfl) (tc (.sc _) (tc (.sc _) tn))) mn
            · refine sk (skW rfl rfl rfl h9) ?_
              refine sk (skW rfl rfl rfl h9) ?_
              refine pkF (v := .sc (.bool false)) rfl rfl h9 rfl ?_
              refine RunC.fin ?_
              have hR := Option.some.inj hR; subst hR
              exact Weak.turnL [] [] rfl rfl (tc (.agg (.cons (.sc _) (.cons (.sc _) (.nil))) rfl) (tc (.sc _) (tc (.sc _) tn))) mn
          · refine sk (skW rfl rfl rfl h8) ?_
            refine sk (skW rfl rfl rfl h8) ?_
            refine pkF (v := .sc (.bool false)) rfl rfl h8 rfl ?_
            refine pu (v := .sc _) rfl rfl (fun _ => rfl) ?_
            refine sk (skW rfl rfl rfl rfl) ?_
            refine sk (skW rfl rfl rfl rfl) ?_
            refine pkF (v := .sc (.bool false)) rfl rfl rfl rfl ?_
            refine RunC.fin ?_
            have hR := Option.some.inj hR; subst hR
            exact Weak.turnL [] [] rfl rfl (tc (.agg (.cons (.sc _) (.cons (.sc _) (.nil))) rfl) (tc (.sc _) (tc (.sc _) tn))) mn
        · refine AWP.cd hR rfl (fun h10 hR => ?_) fun h10 hR => ?_
          · refine AWP.sq ?_
            refine AWP.rgC 4 rfl rfl ?_
            refine pu (v := .sc _) rfl rfl (fun _ => rfl) ?_
            refine RunC.fin ?_
            refine AWP.ret ?_
            refine rtB ?_
            refine rtT ?_
            refine rtT ?_
            refine rtB (rtT ?_)
            replace hR := escL hR hE3
            refine rtT ?_
            have hR := Option.some.inj hR; subst hR
            exact hQ _ _ (LS.mk [(2, .sc (.int .i64 4))] (lblks 0 []) 0) (.sc (.int .i64 4)) [] (.inr rfl) (Weak.turnL [] [] rfl rfl (tc (.sc _) tn) mn) (ro1 (rvT (v := .sc (.int .i64 4)) rfl)) rfl rfl (.sc _) pn
          · refine AWP.skip ?_
            refine skB ?_
            refine skT ?_
            refine AWP.rgC 8 rfl rfl ?_
            refine pu (v := .sc _) rfl rfl (fun _ => rfl) ?_
            refine pu (v := .sc _) rfl rfl (fun _ => rfl) ?_
            refine RunC.fin ?_
            refine ⟨(w6 (s3 + 1)), (Option.some.inj hR).symm, ?_⟩
            exact Weak.turnL [] [] rfl rfl (tc (.agg (.cons (.sc _) (.cons (.sc _) (.nil))) rfl) (tc (.sc _) tn)) mn
      · refine AWP.exit ?_
        refine exT ?_
        refine exT ?_
        refine exH (skT ?_)
        refine ⟨(), (Option.some.inj hR).symm, ?_⟩
        exact Weak.turnL [] [] rfl rfl tn mn
    · refine skT ?_
      refine AWP.sq ?_
      refine AWP.rgC 4 rfl rfl ?_
      refine pu (v := .sc _) rfl rfl (fun _ => rfl) ?_
      refine RunC.fin ?_
      refine AWP.ret ?_
      have hR := Option.some.inj hR; subst hR
      exact hQ _ _ (LS.mk [(2, .sc (.int .i64 0))] (lblks 0 []) 0) (.sc (.int .i64 0)) [] (.inr rfl) (Weak.turnL [] [] rfl rfl (tc (.sc _) tn) mn) (ro1 (rvT (v := .sc (.int .i64 0)) rfl)) rfl rfl (.sc _) pn
theorem ok71 (q : Int) (p1 : Star) (r : Bool) (hR : sky_star_1 q p1 = some r) : FnP Try.prog 71 [.sc (.int .i64 q), .rp (Cl.c false p1)] (.sc (.bool r)) := by
  refine fnP_of (FnX.walk Try.func71 rfl 13 0 (by simp [Try.ntmps71]) rfl fun W S F Q hQ => ?_)
  unfold sky_star_1 at hR
  refine AWP.sq ?_
  refine AWP.rgC 4 rfl rfl ?_
  refine pu (v := .sc _) rfl rfl (fun _ => rfl) ?_
  refine RunC.fin ?_
  refine AWP.joinX (fun z1 : Bool => LS.mk [(3, .sc (.bool z1))] (lblks 0 []) 0) hR (fun o1 hR => ?_) fun z1 hR => ?_
  · refine AWP.rgC 44 rfl rfl ?_
    refine pu (v := .sc _) rfl rfl (fun _ => rfl) ?_
    refine pu (v := .sc _) rfl rfl (fun _ => rfl) ?_
    refine pu (v := .sc _) rfl rfl (fun _ => rfl) ?_
    refine brR hR (fun h2 hR => ?_) fun h2 hR => ?_
    · refine sk (skW rfl rfl rfl h2) ?_
      refine sk (skW rfl rfl rfl h2) ?_
      refine sk (skW rfl rfl rfl h2) ?_
      refine sk (skW rfl rfl rfl h2) ?_
      refine sk (skW rfl rfl rfl h2) ?_
      refine pkT (v := .sc (.bool true)) rfl rfl h2 rfl ?_
      refine pu (v := .sc _) rfl rfl (fun _ => rfl) ?_
      refine RunC.fin ?_
      have hR := Option.some.inj hR; subst hR
      exact Weak.turnL [] [] rfl rfl (tc (.sc _) tn) mn
    · refine pu (v := .sc _) (wtG rfl rfl rfl h2) rfl (fun _ => rfl) ?_
      refine fr (wtG rfl rfl rfl h2) rfl ti34 rfl rfl ti29 rfl ?_
      refine ldR (v := .sc _) (wtG rfl rfl rfl h2) rfl ti29 rfl ?_
      refine pu (v := .sc _) (wtG rfl rfl rfl h2) rfl (fun _ => rfl) ?_
      refine pu (v := .sc _) (wtG rfl rfl rfl h2) rfl (fun _ => rfl) ?_
      refine pkF (v := .sc (.bool (decide (q > (w6 (1048576 - p1.Rate)))))) rfl rfl h2 rfl ?_
      refine pu (v := .sc _) rfl rfl (fun _ => rfl) ?_
      refine RunC.fin ?_
      have hR := Option.some.inj hR; subst hR
      exact Weak.turnL [] [] rfl rfl (tc (.sc _) tn) mn
  · refine AWP.ret ?_
    have hR := Option.some.inj hR; subst hR
    exact hQ _ _ (LS.mk [(3, .sc (.bool z1))] (lblks 0 []) 0) (.sc (.bool z1)) [] (.inr rfl) (Weak.turnL [] [] rfl rfl (tc (.sc _) tn) mn) (ro1 (rvT (v := .sc (.bool z1)) rfl)) rfl rfl (.sc _) pn
theorem ok75 (s : List Int) (fc0 : Star) (r : Int) (hR : slices_IndexFunc_Int_sky_star_1 s fc0 = some r) : FnP Try.prog 75 [rowV false s, .fn (.func 71) [.rp (Cl.c false fc0)]] (.sc (.int .i64 r)) := by
  refine fnP_of (FnX.walk Try.func75 rfl 19 0 (by simp [Try.ntmps75]) rfl fun W S F Q hQ => ?_)
  unfold slices_IndexFunc_Int_sky_star_1 at hR
  refine AWP.sq ?_
  refine AWP.rgC 4 rfl rfl ?_
  refine pu (v := .sc _) rfl rfl (fun _ => rfl) ?_
  refine RunC.fin ?_
  refine AWP.sq ?_
  refine AWP.sq ?_
  refine AWP.rgC 16 rfl rfl ?_
  refine pu (v := rowV _ s) rfl rfl (fun _ => rfl) ?_
  refine lenL (α := Int) rfl rfl ti32 rfl ?_
  refine pu (v := .sc _) rfl rfl (fun _ => rfl) ?_
  refine RunC.fin ?_
  refine AWP.loopK' (fun s1 : Int => LS.mk [(0, rowV (α := Int) false s), (1, .fn (.func 71) [.rp (Cl.c false (fc0 : Star))]), (7, .sc (.int .i64 (s.length : Int))), (8, .sc (.int .i64 s1))] (lblks 0 []) 0) (fun z2 : Unit => LS.mk [] (lblks 0 []) 0) (slices_IndexFunc_Int_sky_star_1.l1 s fc0) hR (s0 := 0) (Weak.turnL [] [] rfl rfl (tc trR1 (tc (.fn (.cons (.rp (Cl.tr _ _ _ _ id) (Cl.leaf _ _)) (.nil))) (tc (.sc _) (tc (.sc _) tn)))) mn) (fun s1 o1 hR hE1 => ?_) fun z2 hR => ?_
  · unfold slices_IndexFunc_Int_sky_star_1.l1 at hR
    refine AWP.sq ?_
    refine AWP.rgC 4 rfl rfl ?_
    refine pu (v := .sc _) rfl rfl (fun _ => rfl) ?_
    refine RunC.fin ?_
    refine AWP.sq ?_
    refine AWP.cd hR rfl (fun h3 hR => ?_) fun h3 hR => ?_
    · refine AWP.skip ?_
      refine skT ?_
      refine AWP.sq ?_
      refine AWP.block ?_
      refine AWP.sq ?_
      refine AWP.rgC 12 rfl rfl ?_
      refine pu (v := .sc _) rfl rfl (fun _ => rfl) ?_
      refine pu (v := .sc _) rfl rfl (fun _ => rfl) ?_
      refine RunC.fin ?_
      refine AWP.sq ?_
      refine AWP.rgC 36 rfl rfl ?_
      refine pu (v := .fn _ _) rfl rfl (fun _ => rfl) ?_
      refine pu (v := rowV _ s) rfl rfl (fun _ => rfl) ?_
      refine pu (v := .sc _) rfl rfl (fun _ => rfl) ?_
      obtain ⟨h4, hR⟩ := chkE hR
      refine ixL (α := Int) rfl rfl rfl ti32 rfl ti29 rfl h4 ?_
      refine ldR (v := .sc _) rfl rfl ti29 rfl ?_
      obtain ⟨r5, hr5, hR⟩ := bindE hR
      refine cls [] rfl rfl cb71 (ok71 (gt s s1) fc0 _ hr5) (.cons (.sc _) (.cons (.rp (Cl.ld _ _ _) (Cl.leaf _ _)) (.nil))) (.inr rfl) rfl ?_
      refine RunC.fin ?_
      refine AWP.cd hR rfl (fun h6 hR => ?_) fun h6 hR => ?_
      · refine AWP.sq ?_
        refine AWP.rgC 44 rfl rfl ?_
        refine pu (v := .sc _) rfl rfl (fun _ => rfl) ?_
        refine pu (v := .sc _) rfl rfl (fun _ => rfl) ?_
        refine RunC.fin ?_
        refine AWP.ret ?_
        refine rtB ?_
        refine rtT ?_
        refine rtT ?_
        refine rtB (rtT ?_)
        replace hR := escL hR hE1
        refine rtT ?_
        have hR := Option.some.inj hR; subst hR
        exact hQ _ _ (LS.mk [(4, .sc (.int .i64 s1))] (lblks 0 []) 0) (.sc (.int .i64 s1)) [] (.inr rfl) (Weak.turnL [] [] rfl rfl (tc (.sc _) tn) mn) (ro1 (rvT (v := .sc (.int .i64 s1)) rfl)) rfl rfl (.sc _) pn
      · refine AWP.skip ?_
        refine skB ?_
        refine skT ?_
        refine AWP.rgC 44 rfl rfl ?_
        refine pu (v := .sc _) rfl rfl (fun _ => rfl) ?_
        refine pu (v := .sc _) rfl rfl (fun _ => rfl) ?_
        refine RunC.fin ?_
        refine ⟨(w6 (s1 + 1)), (Option.some.inj hR).symm, ?_⟩
        exact Weak.turnL [] [] rfl rfl (tc trR1 (tc (.fn (.cons (.rp (Cl.tr _ _ _ _ id) (Cl.leaf _ _)) (.nil))) (tc (.sc _) (tc (.sc _) tn)))) mn
    · refine AWP.exit ?_
      refine exT ?_
      refine exT ?_
      refine exH (skT ?_)
      refine ⟨(), (Option.some.inj hR).symm, ?_⟩
      exact Weak.turnL [] [] rfl rfl tn mn
  · refine skT ?_
    refine AWP.sq ?_
    refine AWP.rgC 4 rfl rfl ?_
    refine pu (v := .sc _) rfl rfl (fun _ => rfl) ?_
    refine RunC.fin ?_
    refine AWP.ret ?_
    have hR := Option.some.inj hR; subst hR
    exact hQ _ _ (LS.mk [(4, .sc (.int .i64 (-1)))] (lblks 0 []) 0) (.sc (.int .i64 (-1))) [] (.inr rfl) (Weak.turnL [] [] rfl rfl (tc (.sc _) tn) mn) (ro1 (rvT (v := .sc (.int .i64 (-1))) rfl)) rfl rfl (.sc _) pn
theorem ok70 (s : List Int) (fc0 : Star) (r : Bool) (hR : slices_ContainsFunc_Int_sky_star_1 s fc0 = some r) : FnP Try.prog 70 [rowV false s, .fn (.func 71) [.rp (Cl.c false fc0)]] (.sc (.bool r)) := by
  refine fnP_of (FnX.walk Try.func70 rfl 9 0 (by simp [Try.ntmps70]) rfl fun W S F Q hQ => ?_)
  unfold slices_ContainsFunc_Int_sky_star_1 at hR
  refine AWP.sq ?_
  refine AWP.rgC 4 rfl rfl ?_
  refine pu (v := .sc _) rfl rfl (fun _ => rfl) ?_
  refine RunC.fin ?_
  refine AWP.sq ?_
  refine AWP.rgC 24 rfl rfl ?_
  refine pu (v := rowV _ s) rfl rfl (fun _ => rfl) ?_
  refine pu (v := .fn _ _) rfl rfl (fun _ => rfl) ?_
  obtain ⟨r1, hr1, hR⟩ := bindE hR
  refine cls [] rfl rfl cb75 (ok75 s fc0 _ hr1) (.cons ldR' (.cons (.fn (.cons (.rp (Cl.ld _ _ _) (Cl.leaf _ _)) (.nil))) (.nil))) (.inr rfl) rfl ?_
  refine pu (v := .sc _) rfl rfl (fun _ => rfl) ?_
  refine pu (v := .sc _) rfl rfl (fun _ => rfl) ?_
  refine RunC.fin ?_
  refine AWP.ret ?_
  have hR := Option.some.inj hR; subst hR
  exact hQ _ _ (LS.mk [(4, .sc (.bool (decide (r1 ≥ 0))))] (lblks 0 []) 0) (.sc (.bool (decide (r1 ≥ 0)))) [] (.inr rfl) (Weak.turnL [] [] rfl rfl (tc (.sc _) tn) mn) (ro1 (rvT (v := .sc (.bool (decide (r1 ≥ 0)))) rfl)) rfl rfl (.sc _) pn
theorem ok60 (s : Star) (r : Int) (hR : sky_star s = some r) : FnP Try.prog 60 [aggV false s] (.sc (.int .i64 r)) := by
  refine fnP_of (FnX.walk Try.func60 rfl 71 0 (by simp [Try.ntmps60]) rfl fun W S F Q hQ => ?_)
  unfold sky_star at hR
  refine AWP.sq ?_
  refine AWP.rgC 8 rfl rfl ?_
  refine bx (cs := _) 0 rfl rfl rfl ?_
  refine pu (v := .sc _) rfl rfl (fun _ => rfl) ?_
  refine RunC.fin ?_
  refine AWP.sq ?_
  refine AWP.sq ?_
  refine AWP.rgC 24 rfl rfl ?_
  refine fa rfl rfl ti34 rfl rfl ti27 rfl ?_
  refine ldB (v := .agg _) rfl rfl rfl rfl ti27 rfl rfl ?_
  obtain ⟨r1, hr1, hR⟩ := bindE hR
  refine cls [] rfl rfl cb69 (ok69 s.At _ hr1) (.cons (.agg (.cons (.sc _) (.cons (.sc _) (.cons (.sc _) (.nil)))) rfl) (.nil)) (.inr rfl) rfl ?_
  refine pu (v := .sc _) rfl rfl (fun _ => rfl) ?_
  refine RunC.fin ?_
  refine AWP.sq ?_
  refine AWP.rgC 32 rfl rfl ?_
  refine pu (v := .sc _) rfl rfl (fun _ => rfl) ?_
  refine pu (v := .sc _) rfl rfl (fun _ => rfl) ?_
  refine RunC.fin ?_
  refine AWP.cd hR rfl (fun h2 hR => ?_) fun h2 hR => ?_
  · refine AWP.sq ?_
    refine AWP.rgC 40 rfl rfl ?_
    refine pu (v := .sc _) rfl rfl (fun _ => rfl) ?_
    refine pu (v := .sc _) rfl rfl (fun _ => rfl) ?_
    refine RunC.fin ?_
    refine AWP.ret ?_
    refine rtT ?_
    have hR := Option.some.inj hR; subst hR
    exact hQ _ _ (LS.mk [(2, .sc (.int .i64 r1))] (lblks 0 []) 0) (.sc (.int .i64 r1)) [] (.inr rfl) (Weak.turnL [] [] rfl rfl (tc (.sc _) tn) mn) (ro1 (rvT (v := .sc (.int .i64 r1)) rfl)) rfl rfl (.sc _) pn
  · refine AWP.skip ?_
    refine skT ?_
    refine AWP.sq ?_
    refine AWP.rgC 48 rfl rfl ?_
    refine fa rfl rfl ti34 rfl rfl ti32 rfl ?_
    refine ldB (v := rowV _ s.Wave) rfl rfl rfl rfl ti32 rfl rfl ?_
    refine lenL (α := Int) rfl rfl ti32 rfl ?_
    refine pu (v := .sc _) rfl rfl (fun _ => rfl) ?_
    refine RunC.fin ?_
    refine AWP.sq ?_
    refine AWP.block ?_
    refine AWP.sq ?_
    refine AWP.rgC 60 rfl rfl ?_
    refine pu (v := .sc _) rfl rfl (fun _ => rfl) ?_
    refine pu (v := .sc _) rfl rfl (fun _ => rfl) ?_
    refine pu (v := .sc _) rfl rfl (fun _ => rfl) ?_
    refine RunC.fin ?_
    refine AWP.cd hR rfl (fun h3 hR => ?_) fun h3 hR => ?_
    · refine AWP.sq ?_
      refine AWP.rgC 64 rfl rfl ?_
      refine pu (v := .sc _) rfl rfl (fun _ => rfl) ?_
      refine RunC.fin ?_
      refine AWP.ret ?_
      refine rtB ?_
      refine rtT ?_
      have hR := Option.some.inj hR; subst hR
      exact hQ _ _ (LS.mk [(2, .sc (.int .i64 2))] (lblks 0 []) 0) (.sc (.int .i64 2)) [] (.inr rfl) (Weak.turnL [] [] rfl rfl (tc (.sc _) tn) mn) (ro1 (rvT (v := .sc (.int .i64 2)) rfl)) rfl rfl (.sc _) pn
    · refine AWP.joinX (fun z4 : Bool => LS.mk [(1, .ptr 0 0 0), (4, .sc (.int .i64 (s.Wave.length : Int))), (17, .sc (.bool z4))] (lblks 0 [boxB (α := Star) false s]) 1) hR (fun o4 hR => ?_) fun z4 hR => ?_
      · refine AWP.rgC 92 rfl rfl ?_
        refine pu (v := .sc _) rfl rfl (fun _ => rfl) ?_
        refine pu (v := .sc _) rfl rfl (fun _ => rfl) ?_
        refine pu (v := .sc _) rfl rfl (fun _ => rfl) ?_
        refine brR hR (fun h5 hR => ?_) fun h5 hR => ?_
        · refine fa (wtG rfl rfl rfl h5) rfl ti34 rfl rfl ti31 rfl ?_
          refine ldB (v := .sc _) (wtG rfl rfl rfl h5) rfl rfl rfl ti31 rfl rfl ?_
          refine pu (v := .sc _) (wtG rfl rfl rfl h5) rfl (fun _ => rfl) ?_
          refine pkT (v := .sc (.bool (s.Period != 0))) rfl rfl h5 rfl ?_
          refine pu (v := .sc _) rfl rfl (fun _ => rfl) ?_
          refine RunC.fin ?_
          have hR := Option.some.inj hR; subst hR
          exact Weak.turnL [(0, 0)] [] rfl rfl (tc (trP' rfl rfl rfl rfl) (tc (.sc _) (tc (.sc _) tn))) (mc rfl (.box rfl (.cons (.sc _) (.cons (.sc _) (.cons (.sc _) (.cons (.sc _) (.cons (.sc _) (.cons trR1 (.cons (.sc _) (.cons (.sc _) (.cons (.sc _) (.nil)))))))))) rfl) mn)
        · refine sk (skW rfl rfl rfl h5) ?_
          refine sk (skW rfl rfl rfl h5) ?_
          refine sk (skW rfl rfl rfl h5) ?_
          refine pkF (v := .sc (.bool false)) rfl rfl h5 rfl ?_
          refine pu (v := .sc _) rfl rfl (fun _ => rfl) ?_
          refine RunC.fin ?_
          have hR := Option.some.inj hR; subst hR
          exact Weak.turnL [(0, 0)] [] rfl rfl (tc (trP' rfl rfl rfl rfl) (tc (.sc _) (tc (.sc _) tn))) (mc rfl (.box rfl (.cons (.sc _) (.cons (.sc _) (.cons (.sc _) (.cons (.sc _) (.cons (.sc _) (.cons trR1 (.cons (.sc _) (.cons (.sc _) (.cons (.sc _) (.nil)))))))))) rfl) mn)
      · refine AWP.cd hR rfl (fun h6 hR => ?_) fun h6 hR => ?_
        · refine AWP.sq ?_
          refine AWP.rgC 5 rfl rfl ?_
          refine pu (v := .sc _) rfl rfl (fun _ => rfl) ?_
          refine RunC.fin ?_
          refine AWP.ret ?_
          refine rtB ?_
          refine rtT ?_
          have hR := Option.some.inj hR; subst hR
          exact hQ _ _ (LS.mk [(2, .sc (.int .i64 3))] (lblks 0 []) 0) (.sc (.int .i64 3)) [] (.inr rfl) (Weak.turnL [] [] rfl rfl (tc (.sc _) tn) mn) (ro1 (rvT (v := .sc (.int .i64 3)) rfl)) rfl rfl (.sc _) pn
        · refine AWP.joinX (fun z7 : Bool => LS.mk [(1, .ptr 0 0 0), (25, .sc (.bool z7))] (lblks 0 [boxB (α := Star) false s]) 1) hR (fun o7 hR => ?_) fun z7 hR => ?_
          · refine AWP.rgC 81 rfl rfl ?_
            refine pu (v := .sc _) rfl rfl (fun _ => rfl) ?_
            refine pu (v := .sc _) rfl rfl (fun _ => rfl) ?_
            refine pu (v := .sc _) rfl rfl (fun _ => rfl) ?_
            refine brR hR (fun h8 hR => ?_) fun h8 hR => ?_
            · refine fa (wtG rfl rfl rfl h8) rfl ti34 rfl rfl ti31 rfl ?_
              refine ldB (v := .sc _) (wtG rfl rfl rfl h8) rfl rfl rfl ti31 rfl rfl ?_
              refine pu (v := .sc _) (wtG rfl rfl rfl h8) rfl (fun _ => rfl) ?_
              refine pu (v := .sc _) (wtG rfl rfl rfl h8) rfl (fun _ => rfl) ?_
              refine brR hR (fun h9 hR => ?_) fun h9 hR => ?_
              · refine sk (skW rfl rfl rfl h9) ?_
                refine sk (skW rfl rfl rfl h9) ?_
                refine sk (skW rfl rfl rfl h9) ?_
                refine pkT (v := .sc (.bool true)) (wtG rfl rfl rfl h8) rfl h9 rfl ?_
                refine pu (v := .sc _) (wtG rfl rfl rfl h8) rfl (fun _ => rfl) ?_
                refine sk (skW rfl rfl rfl rfl) ?_
                refine sk (skW rfl rfl rfl rfl) ?_
                refine sk (skW rfl rfl rfl rfl) ?_
                refine sk (skW rfl rfl rfl rfl) ?_
                refine sk (skW rfl rfl rfl rfl) ?_
                refine pkT (v := .sc (.bool true)) (wtG rfl rfl rfl h8) rfl rfl rfl ?_
                refine pkT (v := .sc (.bool true)) rfl rfl h8 rfl ?_
                refine pu (v := .sc _) rfl rfl (fun _ => rfl) ?_
                refine RunC.fin ?_
                have hR := Option.some.inj hR; subst hR
                exact Weak.turnL [(0, 0)] [] rfl rfl (tc (trP' rfl rfl rfl rfl) (tc (.sc _) tn)) (mc rfl (.box rfl (.cons (.sc _) (.cons (.sc _) (.cons (.sc _) (.cons (.sc _) (.cons (.sc _) (.cons trR1 (.cons (.sc _) (.cons (.sc _) (.cons (.sc _) (.nil)))))))))) rfl) mn)
              · refine fa (wtG rfl rfl rfl h9) rfl ti34 rfl rfl ti31 rfl ?_
                refine ldB (v := .sc _) (wtG rfl rfl rfl h9) rfl rfl rfl ti31 rfl rfl ?_
                refine pu (v := .sc _) (wtG rfl rfl rfl h9) rfl (fun _ => rfl) ?_
                refine pkF (v := .sc (.bool (decide (s.Period > 17592186044416)))) (wtG rfl rfl rfl h8) rfl h9 rfl ?_
                refine pu (v := .sc _) (wtG rfl rfl rfl h8) rfl (fun _ => rfl) ?_
                refine brR hR (fun h10 hR => ?_) fun h10 hR => ?_
                · refine sk (skW rfl rfl rfl h10) ?_
                  refine sk (skW rfl rfl rfl h10) ?_
                  refine sk (skW rfl rfl rfl h10) ?_
                  refine sk (skW rfl rfl rfl h10) ?_
                  refine sk (skW rfl rfl rfl h10) ?_
                  refine pkT (v := .sc (.bool true)) (wtG rfl rfl rfl h8) rfl h10 rfl ?_
                  refine pkT (v := .sc (.bool true)) rfl rfl h8 rfl ?_
                  refine pu (v := .sc _) rfl rfl (fun _ => rfl) ?_
                  refine RunC.fin ?_
                  have hR := Option.some.inj hR; subst hR
                  exact Weak.turnL [(0, 0)] [] rfl rfl (tc (trP' rfl rfl rfl rfl) (tc (.sc _) tn)) (mc rfl (.box rfl (.cons (.sc _) (.cons (.sc _) (.cons (.sc _) (.cons (.sc _) (.cons (.sc _) (.cons trR1 (.cons (.sc _) (.cons (.sc _) (.cons (.sc _) (.nil)))))))))) rfl) mn)
                · refine fa (wtG rfl rfl rfl h10) rfl ti34 rfl rfl ti31 rfl ?_
                  refine ldB (v := .sc _) (wtG rfl rfl rfl h10) rfl rfl rfl ti31 rfl rfl ?_
                  refine pu (v := .sc _) (wtG rfl rfl rfl h10) rfl (fun _ => rfl) ?_
                  obtain ⟨h11, hR⟩ := chkE hR
                  refine rm (wtG rfl rfl rfl h10) rfl rfl h11 rfl ?_
                  refine pu (v := .sc _) (wtG rfl rfl rfl h10) rfl (fun _ => rfl) ?_
                  refine pkF (v := .sc (.bool ((Int.tmod s.Period (s.Wave.length : Int)) != 0))) (wtG rfl rfl rfl h8) rfl h10 rfl ?_
                  refine pkT (v := .sc (.bool ((Int.tmod s.Period (s.Wave.length : Int)) != 0))) rfl rfl h8 rfl ?_
                  refine pu (v := .sc _) rfl rfl (fun _ => rfl) ?_
                  refine RunC.fin ?_
                  have hR := Option.some.inj hR; subst hR
                  exact Weak.turnL [(0, 0)] [] rfl rfl (tc (trP' rfl rfl rfl rfl) (tc (.sc _) tn)) (mc rfl (.box rfl (.cons (.sc _) (.cons (.sc _) (.cons (.sc _) (.cons (.sc _) (.cons (.sc _) (.cons trR1 (.cons (.sc _) (.cons (.sc _) (.cons (.sc _) (.nil)))))))))) rfl) mn)
            · refine sk (skW rfl rfl rfl h8) ?_
              refine sk (skW rfl rfl rfl h8) ?_
              refine sk (skW rfl rfl rfl h8) ?_
              refine sk (skW rfl rfl rfl h8) ?_
              refine sk (skW2 rfl rfl rfl) ?_
              refine sk (skW2 rfl rfl rfl) ?_
              refine sk (skW2 rfl rfl rfl) ?_
              refine sk (skW rfl rfl rfl h8) ?_
              refine sk (skW rfl rfl rfl h8) ?_
              refine sk (skW2 rfl rfl rfl) ?_
              refine sk (skW2 rfl rfl rfl) ?_
              refine sk (skW2 rfl rfl rfl) ?_
              refine sk (skW2 rfl rfl rfl) ?_
              refine sk (skW2 rfl rfl rfl) ?_
              refine sk (skW rfl rfl rfl h8) ?_
              refine pkF (v := .sc (.bool false)) rfl rfl h8 rfl ?_
              refine pu (v := .sc _) rfl rfl (fun _ => rfl) ?_
              refine RunC.fin ?_
              have hR := Option.some.inj hR; subst hR
              exact Weak.turnL [(0, 0)] [] rfl rfl (tc (trP' rfl rfl rfl rfl) (tc (.sc _) tn)) (mc rfl (.box rfl (.cons (.sc _) (.cons (.sc _) (.cons (.sc _) (.cons (.sc _) (.cons (.sc _) (.cons trR1 (.cons (.sc _) (.cons (.sc _) (.cons (.sc _) (.nil)))))))))) rfl) mn)
          · refine AWP.cd hR rfl (fun h12 hR => ?_) fun h12 hR => ?_
            · refine AWP.sq ?_
              refine AWP.rgC 5 rfl rfl ?_
              refine pu (v := .sc _) rfl rfl (fun _ => rfl) ?_
              refine RunC.fin ?_
              refine AWP.ret ?_
              refine rtB ?_
              refine rtT ?_
              have hR := Option.some.inj hR; subst hR
              exact hQ _ _ (LS.mk [(2, .sc (.int .i64 4))] (lblks 0 []) 0) (.sc (.int .i64 4)) [] (.inr rfl) (Weak.turnL [] [] rfl rfl (tc (.sc _) tn) mn) (ro1 (rvT (v := .sc (.int .i64 4)) rfl)) rfl rfl (.sc _) pn
            · refine AWP.sq ?_
              refine AWP.rgC 21 rfl rfl ?_
              refine fa rfl rfl ti34 rfl rfl ti32 rfl ?_
              refine ldB (v := rowV _ s.Wave) rfl rfl rfl rfl ti32 rfl rfl ?_
              refine pu (v := .fn _ _) rfl rfl (fun _ => rfl) ?_
              obtain ⟨r13, hr13, hR⟩ := bindE hR
              refine cls [0] rfl rfl cb70 (ok70 s.Wave s _ hr13) (.cons ldR' (.cons (.fn (.cons (ldX rfl rfl (.cons (.sc _) (.cons (.sc _) (.cons (.sc _) (.cons (.sc _) (.cons (.sc _) (.cons ldR' (.cons (.sc _) (.cons (.sc _) (.cons (.sc _) (.nil)))))))))) rfl) (.nil))) (.nil))) (.inl (by first | rfl | exact freshR | exact freshA | (simp only [V.fresh, V.freshs, freshR, freshA, Bool.and_self]))) rfl ?_
              refine pu (v := .sc _) rfl rfl (fun _ => rfl) ?_
              refine RunC.fin ?_
              refine AWP.cd hR rfl (fun h14 hR => ?_) fun h14 hR => ?_
              · refine AWP.sq ?_
                refine AWP.rgC 25 rfl rfl ?_
                refine pu (v := .sc _) rfl rfl (fun _ => rfl) ?_
                refine RunC.fin ?_
                refine AWP.ret ?_
                refine rtB ?_
                refine rtT ?_
                have hR := Option.some.inj hR; subst hR
                exact hQ _ _ (LS.mk [(2, .sc (.int .i64 4))] (lblks 0 []) 0) (.sc (.int .i64 4)) [] (.inr rfl) (Weak.turnL [] [] rfl rfl (tc (.sc _) tn) mn) (ro1 (rvT (v := .sc (.int .i64 4)) rfl)) rfl rfl (.sc _) pn
              · refine AWP.joinX (fun z15 : Bool => LS.mk [(1, .ptr 0 0 0), (50, .sc (.bool z15))] (lblks 0 [boxB (α := Star) false s]) 1) hR (fun o15 hR => ?_) fun z15 hR => ?_
                · refine AWP.rgC 81 rfl rfl ?_
                  refine fa rfl rfl ti34 rfl rfl ti31 rfl ?_
                  refine ldB (v := .sc _) rfl rfl rfl rfl ti31 rfl rfl ?_
                  refine fa rfl rfl ti34 rfl rfl ti31 rfl ?_
                  refine ldB (v := .sc _) rfl rfl rfl rfl ti31 rfl rfl ?_
                  refine pu (v := .sc _) rfl rfl (fun _ => rfl) ?_
                  refine pu (v := .sc _) rfl rfl (fun _ => rfl) ?_
                  refine pu (v := .sc _) rfl rfl (fun _ => rfl) ?_
                  refine brR hR (fun h16 hR => ?_) fun h16 hR => ?_
                  · refine sk (skW rfl rfl rfl h16) ?_
                    refine sk (skW rfl rfl rfl h16) ?_
                    refine sk (skW rfl rfl rfl h16) ?_
                    refine sk (skW rfl rfl rfl h16) ?_
                    refine sk (skW rfl rfl rfl h16) ?_
                    refine sk (skW rfl rfl rfl h16) ?_
                    refine pkT (v := .sc (.bool true)) rfl rfl h16 rfl ?_
                    refine pu (v := .sc _) rfl rfl (fun _ => rfl) ?_
                    refine RunC.fin ?_
                    have hR := Option.some.inj hR; subst hR
                    exact Weak.turnL [(0, 0)] [] rfl rfl (tc (trP' rfl rfl rfl rfl) (tc (.sc _) tn)) (mc rfl (.box rfl (.cons (.sc _) (.cons (.sc _) (.cons (.sc _) (.cons (.sc _) (.cons (.sc _) (.cons trR1 (.cons (.sc _) (.cons (.sc _) (.cons (.sc _) (.nil)))))))))) rfl) mn)
                  · refine fa (wtG rfl rfl rfl h16) rfl ti34 rfl rfl ti31 rfl ?_
                    refine ldB (v := .sc _) (wtG rfl rfl rfl h16) rfl rfl rfl ti31 rfl rfl ?_
                    refine fa (wtG rfl rfl rfl h16) rfl ti34 rfl rfl ti31 rfl ?_
                    refine ldB (v := .sc _) (wtG rfl rfl rfl h16) rfl rfl rfl ti31 rfl rfl ?_
                    refine pu (v := .sc _) (wtG rfl rfl rfl h16) rfl (fun _ => rfl) ?_
                    refine pu (v := .sc _) (wtG rfl rfl rfl h16) rfl (fun _ => rfl) ?_
                    refine pkF (v := .sc (.bool (decide ((mx2 s.From s.To) > 17592186044416)))) rfl rfl h16 rfl ?_
                    refine pu (v := .sc _) rfl rfl (fun _ => rfl) ?_
                    refine RunC.fin ?_
                    have hR := Option.some.inj hR; subst hR
                    exact Weak.turnL [(0, 0)] [] rfl rfl (tc (trP' rfl rfl rfl rfl) (tc (.sc _) tn)) (mc rfl (.box rfl (.cons (.sc _) (.cons (.sc _) (.cons (.sc _) (.cons (.sc _) (.cons (.sc _) (.cons trR1 (.cons (.sc _) (.cons (.sc _) (.cons (.sc _) (.nil)))))))))) rfl) mn)
                · refine AWP.cd hR rfl (fun h17 hR => ?_) fun h17 hR => ?_
                  · refine AWP.sq ?_
                    refine AWP.rgC 5 rfl rfl ?_
                    refine pu (v := .sc _) rfl rfl (fun _ => rfl) ?_
                    refine RunC.fin ?_
                    refine AWP.ret ?_
                    refine rtB ?_
                    refine rtT ?_
                    have hR := Option.some.inj hR; subst hR
                    exact hQ _ _ (LS.mk [(2, .sc (.int .i64 4))] (lblks 0 []) 0) (.sc (.int .i64 4)) [] (.inr rfl) (Weak.turnL [] [] rfl rfl (tc (.sc _) tn) mn) (ro1 (rvT (v := .sc (.int .i64 4)) rfl)) rfl rfl (.sc _) pn
                  · refine AWP.sq ?_
                    refine AWP.rgC 25 rfl rfl ?_
                    refine fa rfl rfl ti34 rfl rfl ti31 rfl ?_
                    refine ldB (v := .sc _) rfl rfl rfl rfl ti31 rfl rfl ?_
                    refine fa rfl rfl ti34 rfl rfl ti31 rfl ?_
                    refine ldB (v := .sc _) rfl rfl rfl rfl ti31 rfl rfl ?_
                    refine pu (v := .sc _) rfl rfl (fun _ => rfl) ?_
                    refine pu (v := .sc _) rfl rfl (fun _ => rfl) ?_
                    refine RunC.fin ?_
                    refine AWP.cd hR rfl (fun h18 hR => ?_) fun h18 hR => ?_
                    · refine AWP.sq ?_
                      refine AWP.rgC 29 rfl rfl ?_
                      refine pu (v := .sc _) rfl rfl (fun _ => rfl) ?_
                      refine RunC.fin ?_
                      refine AWP.ret ?_
                      refine rtB ?_
                      refine rtT ?_
                      have hR := Option.some.inj hR; subst hR
                      exact hQ _ _ (LS.mk [(2, .sc (.int .i64 11))] (lblks 0 []) 0) (.sc (.int .i64 11)) [] (.inr rfl) (Weak.turnL [] [] rfl rfl (tc (.sc _) tn) mn) (ro1 (rvT (v := .sc (.int .i64 11)) rfl)) rfl rfl (.sc _) pn
                    · refine AWP.skip ?_
                      refine skB ?_
                      refine skT ?_
                      refine AWP.sq ?_
                      refine AWP.rgC 29 rfl rfl ?_
                      refine pu (v := .sc _) rfl rfl (fun _ => rfl) ?_
                      refine RunC.fin ?_
                      refine AWP.ret ?_
                      have hR := Option.some.inj hR; subst hR
                      exact hQ _ _ (LS.mk [(2, .sc (.int .i64 0))] (lblks 0 []) 0) (.sc (.int .i64 0)) [] (.inr rfl) (Weak.turnL [] [] rfl rfl (tc (.sc _) tn) mn) (ro1 (rvT (v := .sc (.int .i64 0)) rfl)) rfl rfl (.sc _) pn
theorem ok58 (x : Int) (r : Bool) (hR : cmp_isNaN x = some r) : FnP Try.prog 58 [.sc (.int .i64 x)] (.sc (.bool r)) := by
  refine fnP_of (FnX.walk Try.func58 rfl 6 0 (by simp [Try.ntmps58]) rfl fun W S F Q hQ => ?_)
  unfold cmp_isNaN at hR
  refine AWP.sq ?_
  refine AWP.rgC 4 rfl rfl ?_
  refine pu (v := .sc _) rfl rfl (fun _ => rfl) ?_
  refine RunC.fin ?_
  refine AWP.sq ?_
  refine AWP.rgC 20 rfl rfl ?_
  refine pu (v := .sc _) rfl rfl (fun _ => rfl) ?_
  refine pu (v := .sc _) rfl rfl (fun _ => rfl) ?_
  refine pu (v := .sc _) rfl rfl (fun _ => rfl) ?_
  refine pu (v := .sc _) rfl rfl (fun _ => rfl) ?_
  refine RunC.fin ?_
  refine AWP.ret ?_
  have hR := Option.some.inj hR; subst hR
  exact hQ _ _ (LS.mk [(2, .sc (.bool (x != x)))] (lblks 0 []) 0) (.sc (.bool (x != x))) [] (.inr rfl) (Weak.turnL [] [] rfl rfl (tc (.sc _) tn) mn) (ro1 (rvT (v := .sc (.bool (x != x))) rfl)) rfl rfl (.sc _) pn
theorem ok55 (x : Int) (r : Int) (hR : bits_Len32 x = some r) : FnP Try.prog 55 [.sc (.int .u32 x)] (.sc (.int .i64 r)) := by
  refine fnP_of (FnX.walk Try.func55 rfl 19 0 (by simp [Try.ntmps55]) rfl fun W S F Q hQ => ?_)
  unfold bits_Len32 at hR
  refine AWP.sq ?_
  refine AWP.rgC 4 rfl rfl ?_
  refine pu (v := .sc _) rfl rfl (fun _ => rfl) ?_
  refine RunC.fin ?_
  refine AWP.sq ?_
  refine AWP.sq ?_
  refine AWP.rgC 12 rfl rfl ?_
  refine pu (v := .sc _) rfl rfl (fun _ => rfl) ?_
  refine pu (v := .sc _) rfl rfl (fun _ => rfl) ?_
  refine RunC.fin ?_
  refine AWP.cd hR rfl (fun h1 hR => ?_) fun h1 hR => ?_
  · refine AWP.sq ?_
    refine AWP.rgC 24 rfl rfl ?_
    refine pu (v := .sc _) rfl rfl (fun _ => rfl) ?_
    refine pu (v := .sc _) rfl rfl (fun _ => rfl) ?_
    refine pu (v := .sc _) rfl rfl (fun _ => rfl) ?_
    refine RunC.fin ?_
    refine AWP.rgC 28 rfl rfl ?_
    refine pu (v := .sc _) rfl rfl (fun _ => rfl) ?_
    refine RunC.fin ?_
    refine AWP.sq ?_
    refine AWP.sq ?_
    refine AWP.rgC 36 rfl rfl ?_
    refine pu (v := .sc _) rfl rfl (fun _ => rfl) ?_
    refine pu (v := .sc _) rfl rfl (fun _ => rfl) ?_
    refine RunC.fin ?_
    refine AWP.cd hR rfl (fun h2 hR => ?_) fun h2 hR => ?_
    · refine AWP.sq ?_
      refine AWP.rgC 48 rfl rfl ?_
      refine pu (v := .sc _) rfl rfl (fun _ => rfl) ?_
      refine pu (v := .sc _) rfl rfl (fun _ => rfl) ?_
      refine pu (v := .sc _) rfl rfl (fun _ => rfl) ?_
      refine RunC.fin ?_
      refine AWP.rgC 60 rfl rfl ?_
      refine pu (v := .sc _) rfl rfl (fun _ => rfl) ?_
      refine pu (v := .sc _) rfl rfl (fun _ => rfl) ?_
      refine pu (v := .sc _) rfl rfl (fun _ => rfl) ?_
      refine RunC.fin ?_
      refine AWP.sq ?_
      refine AWP.rgC 88 rfl rfl ?_
      refine pu (v := .sc _) rfl rfl (fun _ => rfl) ?_
      refine pu (v := .sc _) rfl rfl (fun _ => rfl) ?_
      refine cn rfl rfl ti104 rfl ti5 rfl rfl ?_
      obtain ⟨h3, hR⟩ := chkE hR
      refine ixT (s := tab1) rfl rfl rfl ti9 rfl h3 ?_
      refine cn rfl rfl ti5 rfl ti3 rfl rfl ?_
      obtain ⟨v4, ev4, hR⟩ := letE hR
      refine pu (v := .sc _) rfl rfl (fun _ => puI ev4) ?_
      refine pu (v := .sc _) rfl rfl (fun _ => rfl) ?_
      refine RunC.fin ?_
      refine AWP.ret ?_
      have hR := Option.some.inj hR; subst hR
      exact hQ _ _ (LS.mk [(2, .sc (.int .i64 v4))] (lblks 0 []) 0) (.sc (.int .i64 v4)) [] (.inr rfl) (Weak.turnL [] [] rfl rfl (tc (.sc _) tn) mn) (ro1 (rvT (v := .sc (.int .i64 v4)) rfl)) rfl rfl (.sc _) pn
    · refine AWP.skip ?_
      refine skT ?_
      refine AWP.sq ?_
      refine AWP.rgC 64 rfl rfl ?_
      refine pu (v := .sc _) rfl rfl (fun _ => rfl) ?_
      refine pu (v := .sc _) rfl rfl (fun _ => rfl) ?_
      refine cn rfl rfl ti104 rfl ti5 rfl rfl ?_
      obtain ⟨h5, hR⟩ := chkE hR
      refine ixT (s := tab1) rfl rfl rfl ti9 rfl h5 ?_
      refine cn rfl rfl ti5 rfl ti3 rfl rfl ?_
      obtain ⟨v6, ev6, hR⟩ := letE hR
      refine pu (v := .sc _) rfl rfl (fun _ => puI ev6) ?_
      refine pu (v := .sc _) rfl rfl (fun _ => rfl) ?_
      refine RunC.fin ?_
      refine AWP.ret ?_
      have hR := Option.some.inj hR; subst hR
      exact hQ _ _ (LS.mk [(2, .sc (.int .i64 v6))] (lblks 0 []) 0) (.sc (.int .i64 v6)) [] (.inr rfl) (Weak.turnL [] [] rfl rfl (tc (.sc _) tn) mn) (ro1 (rvT (v := .sc (.int .i64 v6)) rfl)) rfl rfl (.sc _) pn
  · refine AWP.skip ?_
    refine skT ?_
    refine AWP.sq ?_
    refine AWP.sq ?_
    refine AWP.rgC 20 rfl rfl ?_
    refine pu (v := .sc _) rfl rfl (fun _ => rfl) ?_
    refine pu (v := .sc _) rfl rfl (fun _ => rfl) ?_
    refine RunC.fin ?_
    refine AWP.cd hR rfl (fun h7 hR => ?_) fun h7 hR => ?_
    · refine AWP.sq ?_
      refine AWP.rgC 32 rfl rfl ?_
      refine pu (v := .sc _) rfl rfl (fun _ => rfl) ?_
      refine pu (v := .sc _) rfl rfl (fun _ => rfl) ?_
      refine pu (v := .sc _) rfl rfl (fun _ => rfl) ?_
      refine RunC.fin ?_
      refine AWP.rgC 44 rfl rfl ?_
      refine pu (v := .sc _) rfl rfl (fun _ => rfl) ?_
      refine pu (v := .sc _) rfl rfl (fun _ => rfl) ?_
      refine pu (v := .sc _) rfl rfl (fun _ => rfl) ?_
      refine RunC.fin ?_
      refine AWP.sq ?_
      refine AWP.rgC 72 rfl rfl ?_
      refine pu (v := .sc _) rfl rfl (fun _ => rfl) ?_
      refine pu (v := .sc _) rfl rfl (fun _ => rfl) ?_
      refine cn rfl rfl ti104 rfl ti5 rfl rfl ?_
      obtain ⟨h8, hR⟩ := chkE hR
      refine ixT (s := tab1) rfl rfl rfl ti9 rfl h8 ?_
      refine cn rfl rfl ti5 rfl ti3 rfl rfl ?_
      obtain ⟨v9, ev9, hR⟩ := letE hR
      refine pu (v := .sc _) rfl rfl (fun _ => puI ev9) ?_
      refine pu (v := .sc _) rfl rfl (fun _ => rfl) ?_
      refine RunC.fin ?_
      refine AWP.ret ?_
      have hR := Option.some.inj hR; subst hR
      exact hQ _ _ (LS.mk [(2, .sc (.int .i64 v9))] (lblks 0 []) 0) (.sc (.int .i64 v9)) [] (.inr rfl) (Weak.turnL [] [] rfl rfl (tc (.sc _) tn) mn) (ro1 (rvT (v := .sc (.int .i64 v9)) rfl)) rfl rfl (.sc _) pn
    · refine AWP.skip ?_
      refine skT ?_
      refine AWP.sq ?_
      refine AWP.rgC 48 rfl rfl ?_
      refine pu (v := .sc _) rfl rfl (fun _ => rfl) ?_
      refine pu (v := .sc _) rfl rfl (fun _ => rfl) ?_
      refine cn rfl rfl ti104 rfl ti5 rfl rfl ?_
      obtain ⟨h10, hR⟩ := chkE hR
      refine ixT (s := tab1) rfl rfl rfl ti9 rfl h10 ?_
      refine cn rfl rfl ti5 rfl ti3 rfl rfl ?_
      refine pu (v := .sc _) rfl rfl (fun _ => rfl) ?_
      refine pu (v := .sc _) rfl rfl (fun _ => rfl) ?_
      refine RunC.fin ?_
      refine AWP.ret ?_
      have hR := Option.some.inj hR; subst hR
      exact hQ _ _ (LS.mk [(2, .sc (.int .i64 (w6 (0 + (w6 (tabAt tab1 (IntKind.wrap .u8 x)))))))] (lblks 0 []) 0) (.sc (.int .i64 (w6 (0 + (w6 (tabAt tab1 (IntKind.wrap .u8 x))))))) [] (.inr rfl) (Weak.turnL [] [] rfl rfl (tc (.sc _) tn) mn) (ro1 (rvT (v := .sc (.int .i64 (w6 (0 + (w6 (tabAt tab1 (IntKind.wrap .u8 x))))))) rfl)) rfl rfl (.sc _) pn
section
open Go.RowKit Go.Maps
theorem su3y46 : Try.prog.underlying 3 = some (.int .i64) := by kernel_rfl
theorem su4y46 : Try.prog.underlying 4 = some .bool := by kernel_rfl
theorem su97y46 : Try.prog.underlying 108 = some (.map 3 4) := by kernel_rfl
theorem zero4y46 (w : World) : (zeroValue 4).run Try.prog w = .ok (.bool false) w := by kernel_rfl
theorem lawy46 : Keyed Try.prog 3 := int_keyed su3y46
theorem cel12y46 {w : World} {B : Nat} {t : TypeId} {a b c d e f g h i j k l : Value} (hh : w.heap[B]? = some (.cells #[a, b, c, d, e, f, g, h, i, j, k, l] t (0, 0))) : w.cell? ⟨B, 0, none⟩ = some a ∧ w.cell? ⟨B, 2, none⟩ = some c ∧ w.cell? ⟨B, 3, none⟩ = some d ∧ w.cell? ⟨B, 4, none⟩ = some e ∧ w.cell? ⟨B, 5, none⟩ = some f ∧ w.cell? ⟨B, 6, none⟩ = some g ∧ w.cell? ⟨B, 7, none⟩ = some h ∧ w.cell? ⟨B, 8, none⟩ = some i ∧ w.cell? ⟨B, 9, none⟩ = some j ∧ w.cell? ⟨B, 10, none⟩ = some k ∧ w.cell? ⟨B, 11, none⟩ = some l :=
  ⟨(cel_get hh 0 rfl).1, (cel_get hh 2 rfl).1, (cel_get hh 3 rfl).1, (cel_get hh 4 rfl).1, (cel_get hh 5 rfl).1, (cel_get hh 6 rfl).1, (cel_get hh 7 rfl).1, (cel_get hh 8 rfl).1, (cel_get hh 9 rfl).1, (cel_get hh 10 rfl).1, (cel_get hh 11 rfl).1⟩
theorem cel9y46 {w : World} {B : Nat} {t : TypeId} {a b c d e f g h i : Value} (hh : w.heap[B]? = some (.cells #[a, b, c, d, e, f, g, h, i] t (0, 0))) : w.cell? ⟨B, 0, none⟩ = some a ∧ w.cell? ⟨B, 1, none⟩ = some b ∧ w.cell? ⟨B, 2, none⟩ = some c ∧ w.cell? ⟨B, 3, none⟩ = some d ∧ w.cell? ⟨B, 4, none⟩ = some e ∧ w.cell? ⟨B, 5, none⟩ = some f ∧ w.cell? ⟨B, 6, none⟩ = some g ∧ w.cell? ⟨B, 7, none⟩ = some h ∧ w.cell? ⟨B, 8, none⟩ = some i :=
  ⟨(cel_get hh 0 rfl).1, (cel_get hh 1 rfl).1, (cel_get hh 2 rfl).1, (cel_get hh 3 rfl).1, (cel_get hh 4 rfl).1, (cel_get hh 5 rfl).1, (cel_get hh 6 rfl).1, (cel_get hh 7 rfl).1, (cel_get hh 8 rfl).1⟩
theorem elem4y46 {v : Value} {ps : List MemPlace} (h : plainElem (H := Unit) Try.prog 4 v = some (.lit (.bool false), ps)) : v = .bool false := by
  unfold plainElem at h
  rw [su4y46] at h
  cases v <;> simp at h
  rw [h.1]
theorem heady46 (w : World) (B : Nat) (id rate : Int) (hown : w.ownsMap Try.prog 3 (plainElem (H := Unit) Try.prog 4) B 0 (.map [])) (h1 : 1 ≤ id) (h2 : id ≤ 1073741824) (h3 : 0 ≤ rate) (h4 : rate ≤ 1048576) :
    Calls Try.prog 59 #[.int .i64 id, .int .i64 rate, .map (some B)] w fun e w' => e = .returned (.int .i64 0) ∧ w.grownBy w' (some B) := by
  have hkey : keyOf Try.prog 3 (.int .i64 id) = some (.int .i64 id) := keyOf_int_mk su3y46 (WalkArith.wf_i64 (by omega))
  obtain ⟨v, ps, hrun, hv⟩ := hown.lookup lawy46 su97y46 (zero4y46 w) (plainElem_bool su4y46 false) hkey
  obtain rfl : v = .bool false := elem4y46 hv
  have n1 : ¬ id < 1 := by omega
  have n2 : ¬ 1073741824 < id := by omega
  have n3 : ¬ rate < 0 := by omega
  have n4 : ¬ 1048576 < rate := by omega
  go_enter Try.func59, Try.ntmps59
  go_wp2_with (first | (at_mapUpdate; refine wpList_mapUpdate_own _ rfl _ _ _ 108 rfl 3 4 lawy46 su97y46 _ B 0 _ rfl hown (by unfold maxLen; omega) _ _ _ rfl rfl hkey _ [] (plainElem_bool su4y46 true) ?_; intro w1 hown1 hgrow1) | go_in)
  go_ret
  exact ⟨rfl, hgrow1⟩
theorem rowBelowy46 {w w' : World} {a : Option Addr} {len cap : Nat} {zs : List Int} (h : IntRow w a len cap zs) (hb : Below w.heap.size w w') : IntRow w' a len cap zs := by
  obtain ⟨h1, h2, h3⟩ := h
  refine ⟨h1, h2, h3.imp id fun ⟨B, o, e, k⟩ => ⟨B, o, e, fun i hi => ?_⟩⟩
  have := k i hi
  exact (hb.cell (p := ⟨B, o + i, none⟩) (World.block_lt_of_cell? w ⟨B, o + i, none⟩ this)).trans this
theorem starRLy46 (x : Star) {w : World} {wa : Option Addr} {wn wc : Nat} (hw : IntRow w wa wn wc x.Wave) : RLs (topE w) [aggV false x] [.agg #[.int .i64 x.ID, .int .i64 x.At.X, .int .i64 x.At.Y, .int .i64 x.At.Z, .int .i64 x.Rate, .slice wa wn wc, .int .i64 x.Period, .int .i64 x.From, .int .i64 x.To]] := by
  refine rls_cons ?_ rls_nil
  unfold aggV
  simp only [RL]
  exact ⟨[.int .i64 x.ID, .int .i64 x.At.X, .int .i64 x.At.Y, .int .i64 x.At.Z, .int .i64 x.Rate, .slice wa wn wc, .int .i64 x.Period, .int .i64 x.From, .int .i64 x.To], rfl, rls_cons rl_sc (rls_cons rl_sc (rls_cons rl_sc (rls_cons rl_sc (rls_cons rl_sc (rls_cons hw.rl (rls_cons rl_sc (rls_cons rl_sc (rls_cons rl_sc rls_nil)))))))), Cl.leaf false x⟩
theorem stary46 (x : Star) (r : Int) (hr : sky_star x = some r) {w : World} {wa : Option Addr} {wn wc : Nat} (hw : IntRow w wa wn wc x.Wave) :
    Calls Try.prog 60 #[.agg #[.int .i64 x.ID, .int .i64 x.At.X, .int .i64 x.At.Y, .int .i64 x.At.Z, .int .i64 x.Rate, .slice wa wn wc, .int .i64 x.Period, .int .i64 x.From, .int .i64 x.To]] w fun e w' => e = .returned (.int .i64 r) ∧ Below w.heap.size w w' := by
  refine (fnP_out (ok60 x r hr) (starRLy46 x hw)).mono ?_
  rintro e w' ⟨c, E', rfl, h1, h2⟩
  simp only [RL] at h1
  subst h1
  exact ⟨rfl, h2⟩
theorem movesy46 (w : World) : Calls Try.prog 62 #[.agg #[.int .i64 0, .int .i64 0, .int .i64 0, .int .i64 0, .int .i64 0, .int .i64 0, .int .i64 0, .int .i64 0]] w fun e w' => e = .returned (.bool true) ∧ Below w.heap.size w w' := by
  refine (fnP_out (ok62 ⟨0, ⟨0, 0, 0⟩, ⟨0, 0, 0⟩, 0⟩ true (by kernel_rfl)) (cargs := [.agg #[.int .i64 0, .int .i64 0, .int .i64 0, .int .i64 0, .int .i64 0, .int .i64 0, .int .i64 0, .int .i64 0]]) (rls_cons ?_ rls_nil)).mono ?_
  · unfold aggV
    simp only [RL]
    exact ⟨[.int .i64 0, .int .i64 0, .int .i64 0, .int .i64 0, .int .i64 0, .int .i64 0, .int .i64 0, .int .i64 0], rfl, rls_cons rl_sc (rls_cons rl_sc (rls_cons rl_sc (rls_cons rl_sc (rls_cons rl_sc (rls_cons rl_sc (rls_cons rl_sc (rls_cons rl_sc rls_nil))))))), Cl.leaf false _⟩
  · rintro e w' ⟨c, E', rfl, h1, h2⟩
    simp only [RL] at h1
    subst h1
    exact ⟨rfl, h2⟩
theorem cellsy46 (x : Star) (r : Int) (hr : sky_star x = some r) (w : World) (Bs o cap : Nat) (wa : Option Addr) (wn wc : Nat) (hcap : 1 ≤ cap) (hw : IntRow w wa wn wc x.Wave)
    (c0 : w.cell? ⟨Bs, o, none⟩ = some (.int .i64 x.ID)) (c1 : w.cell? ⟨Bs, o + 1, none⟩ = some (.int .i64 x.At.X)) (c2 : w.cell? ⟨Bs, o + 2, none⟩ = some (.int .i64 x.At.Y)) (c3 : w.cell? ⟨Bs, o + 3, none⟩ = some (.int .i64 x.At.Z)) (c4 : w.cell? ⟨Bs, o + 4, none⟩ = some (.int .i64 x.Rate))
    (c5 : w.cell? ⟨Bs, o + 5, none⟩ = some (.slice wa wn wc)) (c6 : w.cell? ⟨Bs, o + 6, none⟩ = some (.int .i64 x.Period)) (c7 : w.cell? ⟨Bs, o + 7, none⟩ = some (.int .i64 x.From)) (c8 : w.cell? ⟨Bs, o + 8, none⟩ = some (.int .i64 x.To))
    (ga ba : Option Addr) (gc bc : Nat) (h1 : 1 ≤ x.ID) (h2 : x.ID ≤ 1073741824) (h3 : 0 ≤ x.Rate) (h4 : x.Rate ≤ 1048576) :
    Calls Try.prog 46 #[.agg #[.int .i64 0, .slice (some ⟨Bs, o, none⟩) 1 cap, .slice ga 0 gc, .slice ba 0 bc, .int .i64 0, .int .i64 0, .int .i64 0, .int .i64 0, .int .i64 0, .int .i64 0, .int .i64 0, .int .i64 0]] w fun e w' => e = .returned (.int .i64 r) ∧ Below w.heap.size w w' := by
  have hmm := @run_makeMap Try.prog
  have hlt : Bs < w.heap.size := World.block_lt_of_cell? w ⟨Bs, o, none⟩ c0
  obtain ⟨w1, hw1⟩ : ∃ w1, w1 = w.alloc (.cells #[.int .i64 0, .slice (some ⟨Bs, o, none⟩) 1 cap, .slice ga 0 gc, .slice ba 0 bc, .int .i64 0, .int .i64 0, .int .i64 0, .int .i64 0, .int .i64 0, .int .i64 0, .int .i64 0, .int .i64 0] 63) := ⟨_, rfl⟩
  have sz1 : w1.heap.size = w.heap.size + 1 := by rw [hw1]; simp
  have hown := World.ownsMap_made w1 Try.prog 3 (plainElem (H := Unit) Try.prog 4)
  have bl1 : w1.heap[w.heap.size]? = some (.cells #[.int .i64 0, .slice (some ⟨Bs, o, none⟩) 1 cap, .slice ga 0 gc, .slice ba 0 bc, .int .i64 0, .int .i64 0, .int .i64 0, .int .i64 0, .int .i64 0, .int .i64 0, .int .i64 0, .int .i64 0] 63 (0, 0)) := by rw [hw1]; exact World.alloc_heap_new w _
  have be1 : Below w.heap.size w w1 := by rw [hw1]; exact (Below.refl _ w).alloc (Nat.le_refl _) _
  obtain ⟨w2, hw2⟩ : ∃ w2, w2 = w1.alloc (.map #[] 0) := ⟨_, rfl⟩
  have sz2 : w2.heap.size = w.heap.size + 2 := by rw [hw2]; simp [sz1]
  rw [← hw2, sz1] at hown
  have bl2 : w2.heap[w.heap.size]? = some (.cells #[.int .i64 0, .slice (some ⟨Bs, o, none⟩) 1 cap, .slice ga 0 gc, .slice ba 0 bc, .int .i64 0, .int .i64 0, .int .i64 0, .int .i64 0, .int .i64 0, .int .i64 0, .int .i64 0, .int .i64 0] 63 (0, 0)) := by rw [hw2]; exact blk_alloc bl1 _
  have be2 : Below w.heap.size w w2 := by rw [hw2]; exact be1.alloc (by omega) _
  have HW1 := Lib.hid hw1
  have HW2 := Lib.hid hw2
  have HO := Lib.hid hown
  have HB1 := Lib.hid bl1
  have HB2 := Lib.hid bl2
  have HE2 := Lib.hid be2
  clear hw1 hw2 hown bl1 be1 bl2 be2
  go_enter Try.func46, Try.ntmps46
  go_wp2
  rw [← HW1.out, ← HW2.out]
  go_loopw [35] (fun i wr => ∃ k : Nat, k ≤ 1 ∧ i = .int .i64 k ∧ (k = 0 → wr = w2) ∧ (k = 1 → r = 0) ∧ Below w.heap.size w wr ∧ wr.heap[w.heap.size]? = some (.cells #[.int .i64 0, .slice (some ⟨Bs, o, none⟩) 1 cap, .slice ga 0 gc, .slice ba 0 bc, .int .i64 0, .int .i64 0, .int .i64 0, .int .i64 0, .int .i64 0, .int .i64 0, .int .i64 0, .int .i64 0] 63 (0, 0))) (fun i _ => 1 - (intOf i).toNat)
  case atStart => exact ⟨0, by omega, rfl, fun _ => rfl, fun e => absurd e (by decide), HE2.out, HB2.out⟩
  case round =>
    obtain ⟨k, hk, rfl, hz, ho, hb, hc⟩ := hrel
    by_cases hk0 : k = 0
    · subst hk0
      obtain rfl := hz rfl
      clear hz ho hb hc hk
      replace c0 := (HE2.out.cell (p := ⟨Bs, o, none⟩) hlt).trans c0
      replace c1 := (HE2.out.cell (p := ⟨Bs, o + 1, none⟩) hlt).trans c1
      replace c2 := (HE2.out.cell (p := ⟨Bs, o + 2, none⟩) hlt).trans c2
      replace c3 := (HE2.out.cell (p := ⟨Bs, o + 3, none⟩) hlt).trans c3
      replace c4 := (HE2.out.cell (p := ⟨Bs, o + 4, none⟩) hlt).trans c4
      replace c5 := (HE2.out.cell (p := ⟨Bs, o + 5, none⟩) hlt).trans c5
      replace c6 := (HE2.out.cell (p := ⟨Bs, o + 6, none⟩) hlt).trans c6
      replace c7 := (HE2.out.cell (p := ⟨Bs, o + 7, none⟩) hlt).trans c7
      replace c8 := (HE2.out.cell (p := ⟨Bs, o + 8, none⟩) hlt).trans c8
      obtain ⟨w3, hw3⟩ : ∃ w3, w3 = wr.alloc (.cells #[.int .i64 x.ID, .int .i64 x.At.X, .int .i64 x.At.Y, .int .i64 x.At.Z, .int .i64 x.Rate, .slice wa wn wc, .int .i64 x.Period, .int .i64 x.From, .int .i64 x.To] 34) := ⟨_, rfl⟩
      have sz3 : w3.heap.size = w.heap.size + 3 := by rw [hw3]; simp [sz2]
      have HH := heady46 w3 (w.heap.size + 1) x.ID x.Rate (by rw [hw3]; exact HO.out.alloc _) h1 h2 h3 h4
      have b3 : w3.heap[w.heap.size + 2]? = some (.cells #[.int .i64 x.ID, .int .i64 x.At.X, .int .i64 x.At.Y, .int .i64 x.At.Z, .int .i64 x.Rate, .slice wa wn wc, .int .i64 x.Period, .int .i64 x.From, .int .i64 x.To] 34 (0, 0)) := by
        have := World.alloc_heap_new wr (.cells #[.int .i64 x.ID, .int .i64 x.At.X, .int .i64 x.At.Y, .int .i64 x.At.Z, .int .i64 x.Rate, .slice wa wn wc, .int .i64 x.Period, .int .i64 x.From, .int .i64 x.To] 34)
        rw [← hw3, sz2] at this; exact this
      have s3 : w3.heap[w.heap.size]? = some (.cells #[.int .i64 0, .slice (some ⟨Bs, o, none⟩) 1 cap, .slice ga 0 gc, .slice ba 0 bc, .int .i64 0, .int .i64 0, .int .i64 0, .int .i64 0, .int .i64 0, .int .i64 0, .int .i64 0, .int .i64 0] 63 (0, 0)) := by rw [hw3]; exact blk_alloc HB2.out _
      have e3 : Below w.heap.size w w3 := by rw [hw3]; exact HE2.out.alloc (by omega) _
      have HW3 := Lib.hid hw3
      have HT3 := Lib.hid b3
      have HS3 := Lib.hid s3
      have HE3 := Lib.hid e3
      have HR := Lib.hid hw
      clear hw3 b3 s3 e3 hw
      by_cases hr0 : r = 0
      · subst hr0
        go_wp2_with (first | (go_at_call 59; rw [← HW3.out]; refine HH.mono ?_; rintro e w4 ⟨rfl, hg⟩; obtain ⟨d0, d1, d2, d3, d4, d5, d6, d7, d8⟩ := cel9y46 ((hg.block _ (by omega) (by simp)).trans HT3.out); have HG := Lib.hid hg; clear hg) | (go_at_call 60; refine (stary46 x 0 hr (wa := wa) (wn := wn) (wc := wc) (rowBelowy46 HR.out (HE3.out.grown HG.out HE3.out.size (fun j hj => by cases hj; omega)))).mono ?_; rintro e w5 ⟨rfl, hb5⟩; have HB5 := Lib.hid hb5; clear hb5))
        have be4 := HE3.out.grown HG.out HE3.out.size (fun j hj => by cases hj; omega)
        exact ⟨⟨1, by omega, rfl, fun e => absurd e (by decide), fun _ => trivial, be4.trans (HB5.out.mono be4.size), blk_below ((HG.out.block _ (by omega) (by simp)).trans HS3.out) HB5.out⟩, by simp [intOf]⟩
      · go_wp2_with (first | (go_at_call 59; rw [← HW3.out]; refine HH.mono ?_; rintro e w4 ⟨rfl, hg⟩; obtain ⟨d0, d1, d2, d3, d4, d5, d6, d7, d8⟩ := cel9y46 ((hg.block _ (by omega) (by simp)).trans HT3.out); have HG := Lib.hid hg; clear hg) | (go_at_call 60; refine (stary46 x r hr (wa := wa) (wn := wn) (wc := wc) (rowBelowy46 HR.out (HE3.out.grown HG.out HE3.out.size (fun j hj => by cases hj; omega)))).mono ?_; rintro e w5 ⟨rfl, hb5⟩; have HB5 := Lib.hid hb5; clear hb5))
        go_ret
        have be4 := HE3.out.grown HG.out HE3.out.size (fun j hj => by cases hj; omega)
        exact ⟨rfl, be4.trans (HB5.out.mono be4.size)⟩
    · obtain rfl : k = 1 := by omega
      have hr0 := ho rfl
      subst hr0
      obtain ⟨d0, d2, d3, d4, d5, d6, d7, d8, d9, d10, d11⟩ := cel12y46 hc
      have HC := Lib.hid hc
      have HBB := Lib.hid hb
      clear hz ho hc hb hk
      go_wp2
      go_loopw [56] (fun i wr' => i = .int .i64 0 ∧ wr' = wr) (fun _ _ => 0)
      case atStart => exact ⟨rfl, rfl⟩
      case round =>
        obtain ⟨rfl, rfl⟩ := hrel
        go_wp2
        go_loopw [77] (fun i wr' => i = .int .i64 0 ∧ wr' = wr) (fun _ _ => 0)
        case atStart => exact ⟨rfl, rfl⟩
        case round =>
          obtain ⟨rfl, rfl⟩ := hrel
          go_wp2_with (go_at_call 62; refine (movesy46 _).mono ?_; rintro e w5 ⟨rfl, hb5⟩)
          go_ret
          exact ⟨rfl, HBB.out.trans (hb5.mono HBB.out.size)⟩
theorem rfcelly46 {E : Env} {W : World} (hf : ∀ B o d, E.F B o = some d → W.cell? ⟨B, o, none⟩ = some d) {B o : Nat} {v : Value} {vs : List V} (h : RF E B o (.sc v :: vs)) : W.cell? ⟨B, o, none⟩ = some v ∧ RF E B (o + 1) vs := by
  simp only [RF] at h
  obtain ⟨⟨d, h1, h2⟩, h3⟩ := h
  simp only [RL] at h2
  subst h2
  exact ⟨hf _ _ _ h1, h3⟩
theorem rfrowy46 {E : Env} {W : World} (hf : ∀ B o d, E.F B o = some d → W.cell? ⟨B, o, none⟩ = some d) {B : Nat} : ∀ {o : Nat} {zs : List Int}, RF E B o (zs.flatMap (Cl.c false)) → ∀ i, i < zs.length → W.cell? ⟨B, o + i, none⟩ = some (.int .i64 (zs.getD i 0))
  | o, [], h, i, hi => absurd hi (by simp)
  | o, z :: zs, h, i, hi => by
    have h : RF E B o (V.sc (.int .i64 z) :: zs.flatMap (Cl.c false)) := h
    obtain ⟨h1, h2⟩ := rfcelly46 hf h
    cases i with
    | zero => exact h1
    | succ i =>
      have := rfrowy46 hf h2 i (by simpa using hi)
      rw [show o + (i + 1) = o + 1 + i by omega]
      simpa using this
theorem ok46 (s : Sky) (r : Int) (hR : sky_Check s = some r) : FnP Try.prog 46 [aggV false s] (.sc (.int .i64 r)) := by
  unfold sky_Check at hR
  split at hR
  · rename_i back x home
    split at hR
    · rename_i h
      obtain ⟨rfl, rfl, h1, h2, h3, h4⟩ := h
      refine fnP_in fun E W cargs hf ha => ?_
      have ec : aggV false (Sky.mk 0 [x] [] [] (Body.mk 0 (Vec.mk 0 0 0) (Vec.mk 0 0 0) 0)) = .agg [.sc (.int .i64 0), .lst false 9 1 [.sc (.int .i64 x.ID), .sc (.int .i64 x.At.X), .sc (.int .i64 x.At.Y), .sc (.int .i64 x.At.Z), .sc (.int .i64 x.Rate), .lst false 1 x.Wave.length (x.Wave.flatMap (Cl.c false)), .sc (.int .i64 x.Period), .sc (.int .i64 x.From), .sc (.int .i64 x.To)], .lst false 7 0 [], .lst false 8 0 [], .sc (.int .i64 0), .sc (.int .i64 0), .sc (.int .i64 0), .sc (.int .i64 0), .sc (.int .i64 0), .sc (.int .i64 0), .sc (.int .i64 0), .sc (.int .i64 0)] := rfl
      rw [ec] at ha
      simp only [RLs, RL] at ha
      obtain ⟨_, _, rfl, ⟨_, rfl, ⟨_, _, rfl, rfl, _, _, rfl, ⟨a, cap, rfl, q1, _, _, q2⟩, _, _, rfl, ⟨ga, gc, rfl, _⟩, _, _, rfl, ⟨ba, bc, rfl, _⟩, _, _, rfl, rfl, _, _, rfl, rfl, _, _, rfl, rfl, _, _, rfl, rfl, _, _, rfl, rfl, _, _, rfl, rfl, _, _, rfl, rfl, _, _, rfl, rfl, rfl⟩, _⟩, rfl⟩ := ha
      rcases q2 with q2 | ⟨Bs, o, rfl, _, q2⟩
      · cases q2
      obtain ⟨c0, q2⟩ := rfcelly46 hf q2
      obtain ⟨c1, q2⟩ := rfcelly46 hf q2
      obtain ⟨c2, q2⟩ := rfcelly46 hf q2
      obtain ⟨c3, q2⟩ := rfcelly46 hf q2
      obtain ⟨c4, q2⟩ := rfcelly46 hf q2
      simp only [RF] at q2
      obtain ⟨⟨d, d1, d2⟩, q2⟩ := q2
      simp only [RL] at d2
      obtain ⟨wa, wc, rfl, w1, w2, _, w3⟩ := d2
      have c5 := hf _ _ _ d1
      obtain ⟨⟨e6, f6, g6⟩, ⟨e7, f7, g7⟩, ⟨e8, f8, g8⟩, _⟩ := q2
      subst g6 g7 g8
      have hw : IntRow W wa x.Wave.length wc x.Wave := ⟨w1, rfl, w3.imp id fun ⟨B, o, e, _, k⟩ => ⟨B, o, e, rfrowy46 hf k⟩⟩
      refine (cellsy46 x r hR W Bs o cap wa x.Wave.length wc q1 hw c0 c1 c2 c3 c4 c5 (hf _ _ _ f6) (hf _ _ _ f7) (hf _ _ _ f8) ga ba gc bc h1 h2 h3 h4).mono ?_
      rintro e w' ⟨rfl, h⟩
      exact ⟨_, rfl, by simp only [RL], h⟩
    · cases hR
  · cases hR
end

theorem ok25 (b : Bound) (r : Int) (hR : bound_Check b = some r) : FnP Try.prog 25 [aggV false b] (.sc (.int .i64 r)) := by
  refine fnP_of (FnX.walk Try.func25 rfl 37 0 (by simp [Try.ntmps25]) rfl fun W S F Q hQ => ?_)
  unfold bound_Check at hR
  refine AWP.sq ?_
  refine AWP.rgC 8 rfl rfl ?_
  refine bx (cs := _) 0 rfl rfl rfl ?_
  refine pu (v := .sc _) rfl rfl (fun _ => rfl) ?_
  refine RunC.fin ?_
  refine AWP.sq ?_
  refine AWP.block ?_
  refine AWP.joinX (fun z1 : Bool => LS.mk [(1, .ptr 0 0 0), (3, .sc (.bool z1))] (lblks 0 [boxB (α := Bound) true b]) 1) hR (fun o1 hR => ?_) fun z1 hR => ?_
  · refine AWP.rgC 60 rfl rfl ?_
    refine fa rfl rfl ti44 rfl rfl ti4 rfl ?_
    refine ldB (v := .sc _) rfl rfl rfl rfl ti4 rfl rfl ?_
    refine pu (v := .sc _) rfl rfl (fun _ => rfl) ?_
    refine brR hR (fun h2 hR => ?_) fun h2 hR => ?_
    · refine fa (wtG rfl rfl rfl h2) rfl ti44 rfl rfl ti29 rfl ?_
      refine ldB (v := .sc _) (wtG rfl rfl rfl h2) rfl rfl rfl ti29 rfl rfl ?_
      refine pu (v := .sc _) (wtG rfl rfl rfl h2) rfl (fun _ => rfl) ?_
      refine pu (v := .sc _) (wtG rfl rfl rfl h2) rfl (fun _ => rfl) ?_
      refine brR hR (fun h3 hR => ?_) fun h3 hR => ?_
      · refine sk (skW rfl rfl rfl h3) ?_
        refine sk (skW rfl rfl rfl h3) ?_
        refine sk (skW rfl rfl rfl h3) ?_
        refine pkT (v := .sc (.bool true)) (wtG rfl rfl rfl h2) rfl h3 rfl ?_
        refine pkT (v := .sc (.bool true)) rfl rfl h2 rfl ?_
        refine pu (v := .sc _) rfl rfl (fun _ => rfl) ?_
        refine RunC.fin ?_
        have hR := Option.some.inj hR; subst hR
        exact Weak.turnL [(0, 0)] [] rfl rfl (tc (trP' rfl rfl rfl rfl) (tc (.sc _) tn)) (mc rfl (.box rfl (.cons (.sc _) (.cons (.sc _) (.cons (.sc _) (.nil)))) rfl) mn)
      · refine fa (wtG rfl rfl rfl h3) rfl ti44 rfl rfl ti29 rfl ?_
        refine ldB (v := .sc _) (wtG rfl rfl rfl h3) rfl rfl rfl ti29 rfl rfl ?_
        refine pu (v := .sc _) (wtG rfl rfl rfl h3) rfl (fun _ => rfl) ?_
        refine pkF (v := .sc (.bool (b.Hi != 0))) (wtG rfl rfl rfl h2) rfl h3 rfl ?_
        refine pkT (v := .sc (.bool (b.Hi != 0))) rfl rfl h2 rfl ?_
        refine pu (v := .sc _) rfl rfl (fun _ => rfl) ?_
        refine RunC.fin ?_
        have hR := Option.some.inj hR; subst hR
        exact Weak.turnL [(0, 0)] [] rfl rfl (tc (trP' rfl rfl rfl rfl) (tc (.sc _) tn)) (mc rfl (.box rfl (.cons (.sc _) (.cons (.sc _) (.cons (.sc _) (.nil)))) rfl) mn)
    · refine sk (skW rfl rfl rfl h2) ?_
      refine sk (skW rfl rfl rfl h2) ?_
      refine sk (skW rfl rfl rfl h2) ?_
      refine sk (skW rfl rfl rfl h2) ?_
      refine sk (skW2 rfl rfl rfl) ?_
      refine sk (skW2 rfl rfl rfl) ?_
      refine sk (skW2 rfl rfl rfl) ?_
      refine sk (skW rfl rfl rfl h2) ?_
      refine pkF (v := .sc (.bool false)) rfl rfl h2 rfl ?_
      refine pu (v := .sc _) rfl rfl (fun _ => rfl) ?_
      refine RunC.fin ?_
      have hR := Option.some.inj hR; subst hR
      exact Weak.turnL [(0, 0)] [] rfl rfl (tc (trP' rfl rfl rfl rfl) (tc (.sc _) tn)) (mc rfl (.box rfl (.cons (.sc _) (.cons (.sc _) (.cons (.sc _) (.nil)))) rfl) mn)
  · refine AWP.cd hR rfl (fun h4 hR => ?_) fun h4 hR => ?_
    · refine AWP.sq ?_
      refine AWP.rgC 5 rfl rfl ?_
      refine pu (v := .sc _) rfl rfl (fun _ => rfl) ?_
      refine RunC.fin ?_
      refine AWP.ret ?_
      refine rtB ?_
      refine rtT ?_
      have hR := Option.some.inj hR; subst hR
      exact hQ _ _ (LS.mk [(2, .sc (.int .i64 3))] (lblks 0 []) 0) (.sc (.int .i64 3)) [] (.inr rfl) (Weak.turnL [] [] rfl rfl (tc (.sc _) tn) mn) (ro1 (rvT (v := .sc (.int .i64 3)) rfl)) rfl rfl (.sc _) pn
    · refine AWP.joinX (fun z5 : Bool => LS.mk [(1, .ptr 0 0 0), (16, .sc (.bool z5))] (lblks 0 [boxB (α := Bound) true b]) 1) hR (fun o5 hR => ?_) fun z5 hR => ?_
      · refine AWP.rgC 61 rfl rfl ?_
        refine fa rfl rfl ti44 rfl rfl ti29 rfl ?_
        refine ldB (v := .sc _) rfl rfl rfl rfl ti29 rfl rfl ?_
        refine fa rfl rfl ti44 rfl rfl ti29 rfl ?_
        refine ldB (v := .sc _) rfl rfl rfl rfl ti29 rfl rfl ?_
        refine pu (v := .sc _) rfl rfl (fun _ => rfl) ?_
        refine pu (v := .sc _) rfl rfl (fun _ => rfl) ?_
        refine pu (v := .sc _) rfl rfl (fun _ => rfl) ?_
        refine brR hR (fun h6 hR => ?_) fun h6 hR => ?_
        · refine sk (skW rfl rfl rfl h6) ?_
          refine sk (skW rfl rfl rfl h6) ?_
          refine sk (skW rfl rfl rfl h6) ?_
          refine sk (skW rfl rfl rfl h6) ?_
          refine sk (skW rfl rfl rfl h6) ?_
          refine sk (skW rfl rfl rfl h6) ?_
          refine pkT (v := .sc (.bool true)) rfl rfl h6 rfl ?_
          refine pu (v := .sc _) rfl rfl (fun _ => rfl) ?_
          refine RunC.fin ?_
          have hR := Option.some.inj hR; subst hR
          exact Weak.turnL [(0, 0)] [] rfl rfl (tc (trP' rfl rfl rfl rfl) (tc (.sc _) tn)) (mc rfl (.box rfl (.cons (.sc _) (.cons (.sc _) (.cons (.sc _) (.nil)))) rfl) mn)
        · refine fa (wtG rfl rfl rfl h6) rfl ti44 rfl rfl ti29 rfl ?_
          refine ldB (v := .sc _) (wtG rfl rfl rfl h6) rfl rfl rfl ti29 rfl rfl ?_
          refine fa (wtG rfl rfl rfl h6) rfl ti44 rfl rfl ti29 rfl ?_
          refine ldB (v := .sc _) (wtG rfl rfl rfl h6) rfl rfl rfl ti29 rfl rfl ?_
          refine pu (v := .sc _) (wtG rfl rfl rfl h6) rfl (fun _ => rfl) ?_
          refine pu (v := .sc _) (wtG rfl rfl rfl h6) rfl (fun _ => rfl) ?_
          refine pkF (v := .sc (.bool (decide ((mx2 b.Lo b.Hi) > 1152921504606846976)))) rfl rfl h6 rfl ?_
          refine pu (v := .sc _) rfl rfl (fun _ => rfl) ?_
          refine RunC.fin ?_
          have hR := Option.some.inj hR; subst hR
          exact Weak.turnL [(0, 0)] [] rfl rfl (tc (trP' rfl rfl rfl rfl) (tc (.sc _) tn)) (mc rfl (.box rfl (.cons (.sc _) (.cons (.sc _) (.cons (.sc _) (.nil)))) rfl) mn)
      · refine AWP.cd hR rfl (fun h7 hR => ?_) fun h7 hR => ?_
        · refine AWP.sq ?_
          refine AWP.rgC 5 rfl rfl ?_
          refine pu (v := .sc _) rfl rfl (fun _ => rfl) ?_
          refine RunC.fin ?_
          refine AWP.ret ?_
          refine rtB ?_
          refine rtT ?_
          have hR := Option.some.inj hR; subst hR
          exact hQ _ _ (LS.mk [(2, .sc (.int .i64 4))] (lblks 0 []) 0) (.sc (.int .i64 4)) [] (.inr rfl) (Weak.turnL [] [] rfl rfl (tc (.sc _) tn) mn) (ro1 (rvT (v := .sc (.int .i64 4)) rfl)) rfl rfl (.sc _) pn
        · refine AWP.sq ?_
          refine AWP.rgC 25 rfl rfl ?_
          refine fa rfl rfl ti44 rfl rfl ti29 rfl ?_
          refine ldB (v := .sc _) rfl rfl rfl rfl ti29 rfl rfl ?_
          refine fa rfl rfl ti44 rfl rfl ti29 rfl ?_
          refine ldB (v := .sc _) rfl rfl rfl rfl ti29 rfl rfl ?_
          refine pu (v := .sc _) rfl rfl (fun _ => rfl) ?_
          refine pu (v := .sc _) rfl rfl (fun _ => rfl) ?_
          refine RunC.fin ?_
          refine AWP.cd hR rfl (fun h8 hR => ?_) fun h8 hR => ?_
          · refine AWP.sq ?_
            refine AWP.rgC 29 rfl rfl ?_
            refine pu (v := .sc _) rfl rfl (fun _ => rfl) ?_
            refine RunC.fin ?_
            refine AWP.ret ?_
            refine rtB ?_
            refine rtT ?_
            have hR := Option.some.inj hR; subst hR
            exact hQ _ _ (LS.mk [(2, .sc (.int .i64 11))] (lblks 0 []) 0) (.sc (.int .i64 11)) [] (.inr rfl) (Weak.turnL [] [] rfl rfl (tc (.sc _) tn) mn) (ro1 (rvT (v := .sc (.int .i64 11)) rfl)) rfl rfl (.sc _) pn
          · refine AWP.skip ?_
            refine skB ?_
            refine skT ?_
            refine AWP.sq ?_
            refine AWP.rgC 29 rfl rfl ?_
            refine pu (v := .sc _) rfl rfl (fun _ => rfl) ?_
            refine RunC.fin ?_
            refine AWP.ret ?_
            have hR := Option.some.inj hR; subst hR
            exact hQ _ _ (LS.mk [(2, .sc (.int .i64 0))] (lblks 0 []) 0) (.sc (.int .i64 0)) [] (.inr rfl) (Weak.turnL [] [] rfl rfl (tc (.sc _) tn) mn) (ro1 (rvT (v := .sc (.int .i64 0)) rfl)) rfl rfl (.sc _) pn
theorem ok26 (r : Bound) (hR : bound_None = some r) : FnP Try.prog 26 [] (aggV (α := Bound) true r) := by
  refine fnP_of (FnX.walk Try.func26 rfl 2 0 (by simp [Try.ntmps26]) rfl fun W S F Q hQ => ?_)
  unfold bound_None at hR
  refine AWP.sq ?_
  refine AWP.rgC 4 rfl rfl ?_
  refine al (cs := [.sc (.int .i64 0), .sc (.int .i64 0), .sc (.bool false)]) 0 rfl rfl ti44 rfl rfl ?_
  refine RunC.fin ?_
  refine AWP.sq ?_
  refine AWP.rgC 12 rfl rfl ?_
  refine bu (cs := [.sc (.int .i64 0), .sc (.int .i64 0), .sc (.bool true)]) rfl bt44 rfl ?_
  refine stB (cs' := [.sc (.int .i64 0), .sc (.int .i64 0), .sc (.bool true)]) rfl rfl rfl rfl ti44 rfl rfl rfl rfl rfl ?_
  refine RunC.fin ?_
  refine AWP.ret ?_
  have hR := Option.some.inj hR; subst hR
  exact hQ _ _ (LS.mk [(0, .ptr 0 0 0)] (lblks 0 [boxB (α := Bound) true (Bound.mk 0 0 true)]) 1) (aggV (α := Bound) true (Bound.mk 0 0 true)) [] (.inr rfl) (Weak.turnL [(0, 0)] [] rfl rfl (tc (trP' rfl rfl rfl rfl) tn) (mc rfl (.box rfl (.cons (.sc _) (.cons (.sc _) (.cons (.sc _) (.nil)))) rfl) mn)) (ro1 (rvC (v := aggV (α := Bound) true (Bound.mk 0 0 true)) rfl rfl ti44 rfl)) rfl rfl ldA pn
theorem ok41 (b : Bound) (r : Bound) (hR : bound_Norm b = some r) : FnP Try.prog 41 [aggV false b] (aggV (α := Bound) true r) := by
  refine fnP_of (FnX.walk Try.func41 rfl 8 0 (by simp [Try.ntmps41]) rfl fun W S F Q hQ => ?_)
  unfold bound_Norm at hR
  refine AWP.sq ?_
  refine AWP.rgC 8 rfl rfl ?_
  refine bx (cs := _) 0 rfl rfl rfl ?_
  refine al (cs := [.sc (.int .i64 0), .sc (.int .i64 0), .sc (.bool false)]) 4 rfl rfl ti44 rfl rfl ?_
  refine RunC.fin ?_
  refine AWP.sq ?_
  refine AWP.sq ?_
  refine AWP.rgC 20 rfl rfl ?_
  refine ldB (v := .agg _) rfl rfl rfl rfl ti44 rfl rfl ?_
  obtain ⟨r1, hr1, hR⟩ := bindE hR
  refine cls [] rfl rfl cb25 (ok25 b _ hr1) (.cons (.agg (.cons (.sc _) (.cons (.sc _) (.cons (.sc _) (.nil)))) rfl) (.nil)) (.inr rfl) rfl ?_
  refine pu (v := .sc _) rfl rfl (fun _ => rfl) ?_
  refine RunC.fin ?_
  refine AWP.cd hR rfl (fun h2 hR => ?_) fun h2 hR => ?_
  · refine AWP.sq ?_
    refine AWP.rgC 28 rfl rfl ?_
    obtain ⟨r3, hr3, hR⟩ := bindE hR
    refine cls [] rfl rfl cb26 (ok26 _ hr3) (.nil) (.inr rfl) rfl ?_
    refine stB (cs' := [.sc (.int .i64 r3.Lo), .sc (.int .i64 r3.Hi), .sc (.bool r3.Unknown)]) rfl rfl rfl rfl ti44 rfl rfl rfl rfl rfl ?_
    refine RunC.fin ?_
    refine AWP.ret ?_
    refine rtT ?_
    have hR := Option.some.inj hR; subst hR
    exact hQ _ _ (LS.mk [(2, .ptr 0 0 0)] (lblks 0 [boxB (α := Bound) true r3]) 1) (aggV (α := Bound) true r3) [] (.inr rfl) (Weak.turnL [(4, 0)] [] rfl rfl (tc (trP' rfl rfl rfl rfl) tn) (mc rfl (.box rfl (.cons (.sc _) (.cons (.sc _) (.cons (.sc _) (.nil)))) rfl) mn)) (ro1 (rvC (v := aggV (α := Bound) true r3) rfl rfl ti44 rfl)) rfl rfl ldA pn
  · refine AWP.skip ?_
    refine skT ?_
    refine AWP.sq ?_
    refine AWP.rgC 28 rfl rfl ?_
    refine ldB (v := .agg _) rfl rfl rfl rfl ti44 rfl rfl ?_
    refine stB (cs' := [.sc (.int .i64 b.Lo), .sc (.int .i64 b.Hi), .sc (.bool b.Unknown)]) rfl rfl rfl rfl ti44 rfl rfl rfl rfl rfl ?_
    refine RunC.fin ?_
    refine AWP.ret ?_
    have hR := Option.some.inj hR; subst hR
    exact hQ _ _ (LS.mk [(2, .ptr 0 0 0)] (lblks 0 [boxB (α := Bound) true b]) 1) (aggV (α := Bound) true b) [] (.inr rfl) (Weak.turnL [(4, 0)] [] rfl rfl (tc (trP' rfl rfl rfl rfl) tn) (mc rfl (.box rfl (.cons (.sc _) (.cons (.sc _) (.cons (.sc _) (.nil)))) rfl) mn)) (ro1 (rvC (v := aggV (α := Bound) true b) rfl rfl ti44 rfl)) rfl rfl ldA pn
theorem ok43 (a : Bound) (b : Bound) (r : Bool) (hR : bound_vague a b = some r) : FnP Try.prog 43 [aggV false a, aggV false b] (.sc (.bool r)) := by
  refine fnP_of (FnX.walk Try.func43 rfl 13 0 (by simp [Try.ntmps43]) rfl fun W S F Q hQ => ?_)
  unfold bound_vague at hR
  refine AWP.sq ?_
  refine AWP.rgC 12 rfl rfl ?_
  refine bx (cs := _) 0 rfl rfl rfl ?_
  refine bx (cs := _) 4 rfl rfl rfl ?_
  refine pu (v := .sc _) rfl rfl (fun _ => rfl) ?_
  refine RunC.fin ?_
  refine AWP.joinX (fun z1 : Bool => LS.mk [(4, .sc (.bool z1))] (lblks 0 []) 0) hR (fun o1 hR => ?_) fun z1 hR => ?_
  · refine AWP.rgC 48 rfl rfl ?_
    refine ldB (v := .agg _) rfl rfl rfl rfl ti44 rfl rfl ?_
    obtain ⟨r2, hr2, hR⟩ := bindE hR
    refine cls [] rfl rfl cb41 (ok41 a _ hr2) (.cons (.agg (.cons (.sc _) (.cons (.sc _) (.cons (.sc _) (.nil)))) rfl) (.nil)) (.inr rfl) rfl ?_
    refine fi (v := .sc _) rfl rfl ti44 rfl rfl ti4 rfl ?_
    refine pu (v := .sc _) rfl rfl (fun _ => rfl) ?_
    refine brR hR (fun h3 hR => ?_) fun h3 hR => ?_
    · refine sk (skW rfl rfl rfl h3) ?_
      refine sk (skW rfl rfl rfl h3) ?_
      refine sk (skW rfl rfl rfl h3) ?_
      refine pkT (v := .sc (.bool true)) rfl rfl h3 rfl ?_
      refine pu (v := .sc _) rfl rfl (fun _ => rfl) ?_
      refine RunC.fin ?_
      have hR := Option.some.inj hR; subst hR
      exact Weak.turnL [] [] rfl rfl (tc (.sc _) tn) mn
    · refine ldB (v := .agg _) (wtG rfl rfl rfl h3) rfl rfl rfl ti44 rfl rfl ?_
      obtain ⟨r4, hr4, hR⟩ := bindE hR
      refine cls [] (wtG rfl rfl rfl h3) rfl cb41 (ok41 b _ hr4) (.cons (.agg (.cons (.sc _) (.cons (.sc _) (.cons (.sc _) (.nil)))) rfl) (.nil)) (.inr rfl) rfl ?_
      refine fi (v := .sc _) (wtG rfl rfl rfl h3) rfl ti44 rfl rfl ti4 rfl ?_
      refine pkF (v := .sc (.bool r4.Unknown)) rfl rfl h3 rfl ?_
      refine pu (v := .sc _) rfl rfl (fun _ => rfl) ?_
      refine RunC.fin ?_
      have hR := Option.some.inj hR; subst hR
      exact Weak.turnL [] [] rfl rfl (tc (.sc _) tn) mn
  · refine AWP.ret ?_
    have hR := Option.some.inj hR; subst hR
    exact hQ _ _ (LS.mk [(4, .sc (.bool z1))] (lblks 0 []) 0) (.sc (.bool z1)) [] (.inr rfl) (Weak.turnL [] [] rfl rfl (tc (.sc _) tn) mn) (ro1 (rvT (v := .sc (.bool z1)) rfl)) rfl rfl (.sc _) pn
theorem ok42 (lo : Int) (hi : Int) (r : Bound) (hR : bound_Of lo hi = some r) : FnP Try.prog 42 [.sc (.int .i64 lo), .sc (.int .i64 hi)] (aggV (α := Bound) true r) := by
  refine fnP_of (FnX.walk Try.func42 rfl 9 0 (by simp [Try.ntmps42]) rfl fun W S F Q hQ => ?_)
  unfold bound_Of at hR
  refine AWP.sq ?_
  refine AWP.rgC 4 rfl rfl ?_
  refine al (cs := [.sc (.int .i64 0), .sc (.int .i64 0), .sc (.bool false)]) 0 rfl rfl ti44 rfl rfl ?_
  refine RunC.fin ?_
  refine AWP.sq ?_
  refine AWP.rgC 24 rfl rfl ?_
  refine pu (v := .sc _) rfl rfl (fun _ => rfl) ?_
  refine pu (v := .sc _) rfl rfl (fun _ => rfl) ?_
  refine bu (cs := [.sc (.int .i64 lo), .sc (.int .i64 hi), .sc (.bool false)]) rfl bt44 rfl ?_
  obtain ⟨r1, hr1, hR⟩ := bindE hR
  refine cls [] rfl rfl cb41 (ok41 (Bound.mk lo hi false) _ hr1) (.cons (.agg (.cons (.sc _) (.cons (.sc _) (.cons (.sc _) (.nil)))) rfl) (.nil)) (.inr rfl) rfl ?_
  refine stB (cs' := [.sc (.int .i64 r1.Lo), .sc (.int .i64 r1.Hi), .sc (.bool r1.Unknown)]) rfl rfl rfl rfl ti44 rfl rfl rfl rfl rfl ?_
  refine RunC.fin ?_
  refine AWP.ret ?_
  have hR := Option.some.inj hR; subst hR
  exact hQ _ _ (LS.mk [(4, .ptr 0 0 0)] (lblks 0 [boxB (α := Bound) true r1]) 1) (aggV (α := Bound) true r1) [] (.inr rfl) (Weak.turnL [(0, 0)] [] rfl rfl (tc (trP' rfl rfl rfl rfl) tn) (mc rfl (.box rfl (.cons (.sc _) (.cons (.sc _) (.cons (.sc _) (.nil)))) rfl) mn)) (ro1 (rvC (v := aggV (α := Bound) true r1) rfl rfl ti44 rfl)) rfl rfl ldA pn
theorem ok45 (a : Bound) (b : Bound) (r : Bound) (hR : bound_Add a b = some r) : FnP Try.prog 45 [aggV false a, aggV false b] (aggV (α := Bound) true r) := by
  refine fnP_of (FnX.walk Try.func45 rfl 20 0 (by simp [Try.ntmps45]) rfl fun W S F Q hQ => ?_)
  unfold bound_Add at hR
  refine AWP.sq ?_
  refine AWP.rgC 12 rfl rfl ?_
  refine bx (cs := _) 0 rfl rfl rfl ?_
  refine bx (cs := _) 4 rfl rfl rfl ?_
  refine al (cs := [.sc (.int .i64 0), .sc (.int .i64 0), .sc (.bool false)]) 8 rfl rfl ti44 rfl rfl ?_
  refine RunC.fin ?_
  refine AWP.sq ?_
  refine AWP.sq ?_
  refine AWP.rgC 24 rfl rfl ?_
  refine ldB (v := .agg _) rfl rfl rfl rfl ti44 rfl rfl ?_
  refine ldB (v := .agg _) rfl rfl rfl rfl ti44 rfl rfl ?_
  obtain ⟨r1, hr1, hR⟩ := bindE hR
  refine cls [] rfl rfl cb43 (ok43 a b _ hr1) (.cons (.agg (.cons (.sc _) (.cons (.sc _) (.cons (.sc _) (.nil)))) rfl) (.cons (.agg (.cons (.sc _) (.cons (.sc _) (.cons (.sc _) (.nil)))) rfl) (.nil))) (.inr rfl) rfl ?_
  refine RunC.fin ?_
  refine AWP.cd hR rfl (fun h2 hR => ?_) fun h2 hR => ?_
  · refine AWP.sq ?_
    refine AWP.rgC 32 rfl rfl ?_
    obtain ⟨r3, hr3, hR⟩ := bindE hR
    refine cls [] rfl rfl cb26 (ok26 _ hr3) (.nil) (.inr rfl) rfl ?_
    refine stB (cs' := [.sc (.int .i64 r3.Lo), .sc (.int .i64 r3.Hi), .sc (.bool r3.Unknown)]) rfl rfl rfl rfl ti44 rfl rfl rfl rfl rfl ?_
    refine RunC.fin ?_
    refine AWP.ret ?_
    refine rtT ?_
    have hR := Option.some.inj hR; subst hR
    exact hQ _ _ (LS.mk [(4, .ptr 0 0 0)] (lblks 0 [boxB (α := Bound) true r3]) 1) (aggV (α := Bound) true r3) [] (.inr rfl) (Weak.turnL [(8, 0)] [] rfl rfl (tc (trP' rfl rfl rfl rfl) tn) (mc rfl (.box rfl (.cons (.sc _) (.cons (.sc _) (.cons (.sc _) (.nil)))) rfl) mn)) (ro1 (rvC (v := aggV (α := Bound) true r3) rfl rfl ti44 rfl)) rfl rfl ldA pn
  · refine AWP.skip ?_
    refine skT ?_
    refine AWP.sq ?_
    refine AWP.rgC 72 rfl rfl ?_
    refine fa rfl rfl ti44 rfl rfl ti29 rfl ?_
    refine ldB (v := .sc _) rfl rfl rfl rfl ti29 rfl rfl ?_
    refine fa rfl rfl ti44 rfl rfl ti29 rfl ?_
    refine ldB (v := .sc _) rfl rfl rfl rfl ti29 rfl rfl ?_
    refine pu (v := .sc _) rfl rfl (fun _ => rfl) ?_
    refine fa rfl rfl ti44 rfl rfl ti29 rfl ?_
    refine ldB (v := .sc _) rfl rfl rfl rfl ti29 rfl rfl ?_
    refine fa rfl rfl ti44 rfl rfl ti29 rfl ?_
    refine ldB (v := .sc _) rfl rfl rfl rfl ti29 rfl rfl ?_
    refine pu (v := .sc _) rfl rfl (fun _ => rfl) ?_
    obtain ⟨r4, hr4, hR⟩ := bindE hR
    refine cls [] rfl rfl cb42 (ok42 (w6 (a.Lo + b.Lo)) (w6 (a.Hi + b.Hi)) _ hr4) (.cons (.sc _) (.cons (.sc _) (.nil))) (.inr rfl) rfl ?_
    refine stB (cs' := [.sc (.int .i64 r4.Lo), .sc (.int .i64 r4.Hi), .sc (.bool r4.Unknown)]) rfl rfl rfl rfl ti44 rfl rfl rfl rfl rfl ?_
    refine RunC.fin ?_
    refine AWP.ret ?_
    have hR := Option.some.inj hR; subst hR
    exact hQ _ _ (LS.mk [(4, .ptr 0 0 0)] (lblks 0 [boxB (α := Bound) true r4]) 1) (aggV (α := Bound) true r4) [] (.inr rfl) (Weak.turnL [(8, 0)] [] rfl rfl (tc (trP' rfl rfl rfl rfl) tn) (mc rfl (.box rfl (.cons (.sc _) (.cons (.sc _) (.cons (.sc _) (.nil)))) rfl) mn)) (ro1 (rvC (v := aggV (α := Bound) true r4) rfl rfl ti44 rfl)) rfl rfl ldA pn
theorem ok44 (b : Bound) (r : Bound) (hR : bound_Neg b = some r) : FnP Try.prog 44 [aggV false b] (aggV (α := Bound) true r) := by
  refine fnP_of (FnX.walk Try.func44 rfl 14 0 (by simp [Try.ntmps44]) rfl fun W S F Q hQ => ?_)
  unfold bound_Neg at hR
  refine AWP.sq ?_
  refine AWP.rgC 8 rfl rfl ?_
  refine bx (cs := _) 0 rfl rfl rfl ?_
  refine al (cs := [.sc (.int .i64 0), .sc (.int .i64 0), .sc (.bool false)]) 4 rfl rfl ti44 rfl rfl ?_
  refine RunC.fin ?_
  refine AWP.sq ?_
  refine AWP.rgC 20 rfl rfl ?_
  refine ldB (v := .agg _) rfl rfl rfl rfl ti44 rfl rfl ?_
  obtain ⟨r1, hr1, hR⟩ := bindE hR
  refine cls [] rfl rfl cb41 (ok41 b _ hr1) (.cons (.agg (.cons (.sc _) (.cons (.sc _) (.cons (.sc _) (.nil)))) rfl) (.nil)) (.inr rfl) rfl ?_
  refine stB (cs' := [.sc (.int .i64 r1.Lo), .sc (.int .i64 r1.Hi), .sc (.bool r1.Unknown)]) rfl rfl rfl rfl ti44 rfl rfl rfl rfl rfl ?_
  refine RunC.fin ?_
  refine AWP.sq ?_
  refine AWP.rgC 60 rfl rfl ?_
  refine fa rfl rfl ti44 rfl rfl ti29 rfl ?_
  refine ldB (v := .sc _) rfl rfl rfl rfl ti29 rfl rfl ?_
  refine pu (v := .sc _) rfl rfl (fun _ => rfl) ?_
  refine fa rfl rfl ti44 rfl rfl ti29 rfl ?_
  refine ldB (v := .sc _) rfl rfl rfl rfl ti29 rfl rfl ?_
  refine pu (v := .sc _) rfl rfl (fun _ => rfl) ?_
  refine fa rfl rfl ti44 rfl rfl ti29 rfl ?_
  refine stB (cs' := [.sc (.int .i64 (w6 (0 - r1.Hi))), .sc (.int .i64 r1.Hi), .sc (.bool r1.Unknown)]) rfl rfl rfl rfl ti29 rfl rfl rfl rfl rfl ?_
  refine fa rfl rfl ti44 rfl rfl ti29 rfl ?_
  refine stB (cs' := [.sc (.int .i64 (w6 (0 - r1.Hi))), .sc (.int .i64 (w6 (0 - r1.Lo))), .sc (.bool r1.Unknown)]) rfl rfl rfl rfl ti29 rfl rfl rfl rfl rfl ?_
  refine RunC.fin ?_
  refine AWP.sq ?_
  refine AWP.rgC 68 rfl rfl ?_
  refine ldB (v := .agg _) rfl rfl rfl rfl ti44 rfl rfl ?_
  refine stB (cs' := [.sc (.int .i64 (w6 (0 - r1.Hi))), .sc (.int .i64 (w6 (0 - r1.Lo))), .sc (.bool r1.Unknown)]) rfl rfl rfl rfl ti44 rfl rfl rfl rfl rfl ?_
  refine RunC.fin ?_
  refine AWP.ret ?_
  have hR := Option.some.inj hR; subst hR
  exact hQ _ _ (LS.mk [(2, .ptr 0 0 0)] (lblks 0 [boxB (α := Bound) true (Bound.mk (w6 (0 - r1.Hi)) (w6 (0 - r1.Lo)) r1.Unknown)]) 1) (aggV (α := Bound) true (Bound.mk (w6 (0 - r1.Hi)) (w6 (0 - r1.Lo)) r1.Unknown)) [] (.inr rfl) (Weak.turnL [(4, 0)] [] rfl rfl (tc (trP' rfl rfl rfl rfl) tn) (mc rfl (.box rfl (.cons (.sc _) (.cons (.sc _) (.cons (.sc _) (.nil)))) rfl) mn)) (ro1 (rvC (v := aggV (α := Bound) true (Bound.mk (w6 (0 - r1.Hi)) (w6 (0 - r1.Lo)) r1.Unknown)) rfl rfl ti44 rfl)) rfl rfl ldA pn
theorem ok40 (a : Int) (b : Int) (r : Int) (hR : num_Mod a b = some r) : FnP Try.prog 40 [.sc (.int .i64 a), .sc (.int .i64 b)] (.sc (.int .i64 r)) := by
  refine fnP_of (FnX.walk Try.func40 rfl 17 0 (by simp [Try.ntmps40]) rfl fun W S F Q hQ => ?_)
  unfold num_Mod at hR
  refine AWP.sq ?_
  refine AWP.rgC 4 rfl rfl ?_
  refine pu (v := .sc _) rfl rfl (fun _ => rfl) ?_
  refine RunC.fin ?_
  refine AWP.sq ?_
  refine AWP.sq ?_
  refine AWP.rgC 12 rfl rfl ?_
  refine pu (v := .sc _) rfl rfl (fun _ => rfl) ?_
  refine pu (v := .sc _) rfl rfl (fun _ => rfl) ?_
  refine RunC.fin ?_
  refine AWP.cd hR rfl (fun h1 hR => ?_) fun h1 hR => ?_
  · refine AWP.sq ?_
    refine AWP.rgC 16 rfl rfl ?_
    refine pu (v := .sc _) rfl rfl (fun _ => rfl) ?_
    refine RunC.fin ?_
    refine AWP.ret ?_
    refine rtT ?_
    have hR := Option.some.inj hR; subst hR
    exact hQ _ _ (LS.mk [(4, .sc (.int .i64 0))] (lblks 0 []) 0) (.sc (.int .i64 0)) [] (.inr rfl) (Weak.turnL [] [] rfl rfl (tc (.sc _) tn) mn) (ro1 (rvT (v := .sc (.int .i64 0)) rfl)) rfl rfl (.sc _) pn
  · refine AWP.skip ?_
    refine skT ?_
    refine AWP.sq ?_
    refine AWP.rgC 28 rfl rfl ?_
    refine pu (v := .sc _) rfl rfl (fun _ => rfl) ?_
    refine pu (v := .sc _) rfl rfl (fun _ => rfl) ?_
    obtain ⟨h2, hR⟩ := chkE hR
    refine rm rfl rfl rfl h2 rfl ?_
    refine pu (v := .sc _) rfl rfl (fun _ => rfl) ?_
    refine RunC.fin ?_
    refine AWP.sq ?_
    refine AWP.sq ?_
    refine AWP.rgC 36 rfl rfl ?_
    refine pu (v := .sc _) rfl rfl (fun _ => rfl) ?_
    refine pu (v := .sc _) rfl rfl (fun _ => rfl) ?_
    refine RunC.fin ?_
    refine AWP.cd hR rfl (fun h3 hR => ?_) fun h3 hR => ?_
    · refine AWP.rgC 52 rfl rfl ?_
      refine pu (v := .sc _) rfl rfl (fun _ => rfl) ?_
      refine pu (v := .sc _) rfl rfl (fun _ => rfl) ?_
      refine pu (v := .sc _) rfl rfl (fun _ => rfl) ?_
      refine pu (v := .sc _) rfl rfl (fun _ => rfl) ?_
      refine RunC.fin ?_
      refine AWP.sq ?_
      refine AWP.rgC 60 rfl rfl ?_
      refine pu (v := .sc _) rfl rfl (fun _ => rfl) ?_
      refine pu (v := .sc _) rfl rfl (fun _ => rfl) ?_
      refine RunC.fin ?_
      refine AWP.ret ?_
      have hR := Option.some.inj hR; subst hR
      exact hQ _ _ (LS.mk [(4, .sc (.int .i64 (w6 ((Int.tmod a b) + b))))] (lblks 0 []) 0) (.sc (.int .i64 (w6 ((Int.tmod a b) + b)))) [] (.inr rfl) (Weak.turnL [] [] rfl rfl (tc (.sc _) tn) mn) (ro1 (rvT (v := .sc (.int .i64 (w6 ((Int.tmod a b) + b)))) rfl)) rfl rfl (.sc _) pn
    · refine AWP.skip ?_
      refine skT ?_
      refine AWP.sq ?_
      refine AWP.rgC 44 rfl rfl ?_
      refine pu (v := .sc _) rfl rfl (fun _ => rfl) ?_
      refine pu (v := .sc _) rfl rfl (fun _ => rfl) ?_
      refine RunC.fin ?_
      refine AWP.ret ?_
      have hR := Option.some.inj hR; subst hR
      exact hQ _ _ (LS.mk [(4, .sc (.int .i64 (Int.tmod a b)))] (lblks 0 []) 0) (.sc (.int .i64 (Int.tmod a b))) [] (.inr rfl) (Weak.turnL [] [] rfl rfl (tc (.sc _) tn) mn) (ro1 (rvT (v := .sc (.int .i64 (Int.tmod a b))) rfl)) rfl rfl (.sc _) pn
theorem ok39 (a : Int) (b : Int) (r : Int) (hR : num_FloorDiv a b = some r) : FnP Try.prog 39 [.sc (.int .i64 a), .sc (.int .i64 b)] (.sc (.int .i64 r)) := by
  refine fnP_of (FnX.walk Try.func39 rfl 18 0 (by simp [Try.ntmps39]) rfl fun W S F Q hQ => ?_)
  unfold num_FloorDiv at hR
  refine AWP.sq ?_
  refine AWP.rgC 4 rfl rfl ?_
  refine pu (v := .sc _) rfl rfl (fun _ => rfl) ?_
  refine RunC.fin ?_
  refine AWP.sq ?_
  refine AWP.sq ?_
  refine AWP.rgC 12 rfl rfl ?_
  refine pu (v := .sc _) rfl rfl (fun _ => rfl) ?_
  refine pu (v := .sc _) rfl rfl (fun _ => rfl) ?_
  refine RunC.fin ?_
  refine AWP.cd hR rfl (fun h1 hR => ?_) fun h1 hR => ?_
  · refine AWP.sq ?_
    refine AWP.rgC 16 rfl rfl ?_
    refine pu (v := .sc _) rfl rfl (fun _ => rfl) ?_
    refine RunC.fin ?_
    refine AWP.ret ?_
    refine rtT ?_
    have hR := Option.some.inj hR; subst hR
    exact hQ _ _ (LS.mk [(4, .sc (.int .i64 0))] (lblks 0 []) 0) (.sc (.int .i64 0)) [] (.inr rfl) (Weak.turnL [] [] rfl rfl (tc (.sc _) tn) mn) (ro1 (rvT (v := .sc (.int .i64 0)) rfl)) rfl rfl (.sc _) pn
  · refine AWP.skip ?_
    refine skT ?_
    refine AWP.sq ?_
    refine AWP.rgC 28 rfl rfl ?_
    refine pu (v := .sc _) rfl rfl (fun _ => rfl) ?_
    refine pu (v := .sc _) rfl rfl (fun _ => rfl) ?_
    obtain ⟨h2, hR⟩ := chkE hR
    refine qu rfl rfl rfl h2 rfl ?_
    refine pu (v := .sc _) rfl rfl (fun _ => rfl) ?_
    refine RunC.fin ?_
    refine AWP.sq ?_
    refine AWP.sq ?_
    refine AWP.rgC 44 rfl rfl ?_
    refine pu (v := .sc _) rfl rfl (fun _ => rfl) ?_
    refine pu (v := .sc _) rfl rfl (fun _ => rfl) ?_
    refine rm rfl rfl rfl h2 rfl ?_
    refine pu (v := .sc _) rfl rfl (fun _ => rfl) ?_
    refine RunC.fin ?_
    refine AWP.cd hR rfl (fun h3 hR => ?_) fun h3 hR => ?_
    · refine AWP.rgC 56 rfl rfl ?_
      refine pu (v := .sc _) rfl rfl (fun _ => rfl) ?_
      refine pu (v := .sc _) rfl rfl (fun _ => rfl) ?_
      refine pu (v := .sc _) rfl rfl (fun _ => rfl) ?_
      refine RunC.fin ?_
      refine AWP.sq ?_
      refine AWP.rgC 64 rfl rfl ?_
      refine pu (v := .sc _) rfl rfl (fun _ => rfl) ?_
      refine pu (v := .sc _) rfl rfl (fun _ => rfl) ?_
      refine RunC.fin ?_
      refine AWP.ret ?_
      have hR := Option.some.inj hR; subst hR
      exact hQ _ _ (LS.mk [(4, .sc (.int .i64 (w6 ((w6 (Int.tdiv a b)) - 1))))] (lblks 0 []) 0) (.sc (.int .i64 (w6 ((w6 (Int.tdiv a b)) - 1)))) [] (.inr rfl) (Weak.turnL [] [] rfl rfl (tc (.sc _) tn) mn) (ro1 (rvT (v := .sc (.int .i64 (w6 ((w6 (Int.tdiv a b)) - 1)))) rfl)) rfl rfl (.sc _) pn
    · refine AWP.skip ?_
      refine skT ?_
      refine AWP.sq ?_
      refine AWP.rgC 52 rfl rfl ?_
      refine pu (v := .sc _) rfl rfl (fun _ => rfl) ?_
      refine pu (v := .sc _) rfl rfl (fun _ => rfl) ?_
      refine RunC.fin ?_
      refine AWP.ret ?_
      have hR := Option.some.inj hR; subst hR
      exact hQ _ _ (LS.mk [(4, .sc (.int .i64 (w6 (Int.tdiv a b))))] (lblks 0 []) 0) (.sc (.int .i64 (w6 (Int.tdiv a b)))) [] (.inr rfl) (Weak.turnL [] [] rfl rfl (tc (.sc _) tn) mn) (ro1 (rvT (v := .sc (.int .i64 (w6 (Int.tdiv a b)))) rfl)) rfl rfl (.sc _) pn
theorem ok37 (vals : List Int) (r : Int) (hR : cmp_Or vals = some r) : FnP Try.prog 37 [rowV false vals] (.sc (.int .i64 r)) := by
  refine fnP_of (FnX.walk Try.func37 rfl 18 0 (by simp [Try.ntmps37]) rfl fun W S F Q hQ => ?_)
  unfold cmp_Or at hR
  refine AWP.sq ?_
  refine AWP.rgC 4 rfl rfl ?_
  refine pu (v := .sc _) rfl rfl (fun _ => rfl) ?_
  refine RunC.fin ?_
  refine AWP.sq ?_
  refine AWP.rgC 8 rfl rfl ?_
  refine pu (v := .sc _) rfl rfl (fun _ => rfl) ?_
  refine RunC.fin ?_
  refine AWP.sq ?_
  refine AWP.sq ?_
  refine AWP.rgC 20 rfl rfl ?_
  refine pu (v := rowV _ vals) rfl rfl (fun _ => rfl) ?_
  refine lenL (α := Int) rfl rfl ti22 rfl ?_
  refine pu (v := .sc _) rfl rfl (fun _ => rfl) ?_
  refine RunC.fin ?_
  refine AWP.loopK' (fun s1 : Int => LS.mk [(3, .sc (.int .i64 0)), (6, rowV (α := Int) false vals), (7, .sc (.int .i64 (vals.length : Int))), (8, .sc (.int .i64 s1))] (lblks 0 []) 0) (fun z2 : Unit => LS.mk [(3, .sc (.int .i64 0))] (lblks 0 []) 0) (cmp_Or.l1 vals) hR (s0 := 0) (Weak.turnL [] [] rfl rfl (tc (.sc _) (tc trR1 (tc (.sc _) (tc (.sc _) tn)))) mn) (fun s1 o1 hR hE1 => ?_) fun z2 hR => ?_
  · unfold cmp_Or.l1 at hR
    refine AWP.sq ?_
    refine AWP.rgC 4 rfl rfl ?_
    refine pu (v := .sc _) rfl rfl (fun _ => rfl) ?_
    refine RunC.fin ?_
    refine AWP.sq ?_
    refine AWP.cd hR rfl (fun h3 hR => ?_) fun h3 hR => ?_
    · refine AWP.skip ?_
      refine skT ?_
      refine AWP.sq ?_
      refine AWP.block ?_
      refine AWP.sq ?_
      refine AWP.rgC 16 rfl rfl ?_
      obtain ⟨h4, hR⟩ := chkE hR
      refine ixL (α := Int) rfl rfl rfl ti22 rfl ti3 rfl h4 ?_
      refine ldR (v := .sc _) rfl rfl ti3 rfl ?_
      refine pu (v := .sc _) rfl rfl (fun _ => rfl) ?_
      refine RunC.fin ?_
      refine AWP.sq ?_
      refine AWP.rgC 28 rfl rfl ?_
      refine pu (v := .sc _) rfl rfl (fun _ => rfl) ?_
      refine pu (v := .sc _) rfl rfl (fun _ => rfl) ?_
      refine pu (v := .sc _) rfl rfl (fun _ => rfl) ?_
      refine RunC.fin ?_
      refine AWP.cd hR rfl (fun h5 hR => ?_) fun h5 hR => ?_
      · refine AWP.sq ?_
        refine AWP.rgC 36 rfl rfl ?_
        refine pu (v := .sc _) rfl rfl (fun _ => rfl) ?_
        refine pu (v := .sc _) rfl rfl (fun _ => rfl) ?_
        refine RunC.fin ?_
        refine AWP.ret ?_
        refine rtB ?_
        refine rtT ?_
        refine rtT ?_
        refine rtB (rtT ?_)
        replace hR := escL hR hE1
        refine rtT ?_
        have hR := Option.some.inj hR; subst hR
        exact hQ _ _ (LS.mk [(2, .sc (.int .i64 (gt vals s1)))] (lblks 0 []) 0) (.sc (.int .i64 (gt vals s1))) [] (.inr rfl) (Weak.turnL [] [] rfl rfl (tc (.sc _) tn) mn) (ro1 (rvT (v := .sc (.int .i64 (gt vals s1))) rfl)) rfl rfl (.sc _) pn
      · refine AWP.skip ?_
        refine skB ?_
        refine skT ?_
        refine AWP.rgC 36 rfl rfl ?_
        refine pu (v := .sc _) rfl rfl (fun _ => rfl) ?_
        refine pu (v := .sc _) rfl rfl (fun _ => rfl) ?_
        refine RunC.fin ?_
        refine ⟨(w6 (s1 + 1)), (Option.some.inj hR).symm, ?_⟩
        exact Weak.turnL [] [] rfl rfl (tc (.sc _) (tc trR1 (tc (.sc _) (tc (.sc _) tn)))) mn
    · refine AWP.exit ?_
      refine exT ?_
      refine exT ?_
      refine exH (skT ?_)
      refine ⟨(), (Option.some.inj hR).symm, ?_⟩
      exact Weak.turnL [] [] rfl rfl (tc (.sc _) tn) mn
  · refine skT ?_
    refine AWP.sq ?_
    refine AWP.rgC 8 rfl rfl ?_
    refine pu (v := .sc _) rfl rfl (fun _ => rfl) ?_
    refine pu (v := .sc _) rfl rfl (fun _ => rfl) ?_
    refine RunC.fin ?_
    refine AWP.ret ?_
    have hR := Option.some.inj hR; subst hR
    exact hQ _ _ (LS.mk [(2, .sc (.int .i64 0))] (lblks 0 []) 0) (.sc (.int .i64 0)) [] (.inr rfl) (Weak.turnL [] [] rfl rfl (tc (.sc _) tn) mn) (ro1 (rvT (v := .sc (.int .i64 0)) rfl)) rfl rfl (.sc _) pn
theorem ok38 (x : Int) (y : Int) (r : Int) (hR : cmp_Compare x y = some r) : FnP Try.prog 38 [.sc (.int .i64 x), .sc (.int .i64 y)] (.sc (.int .i64 r)) := by
  refine fnP_of (FnX.walk Try.func38 rfl 20 0 (by simp [Try.ntmps38]) rfl fun W S F Q hQ => ?_)
  unfold cmp_Compare at hR
  refine AWP.sq ?_
  refine AWP.rgC 4 rfl rfl ?_
  refine pu (v := .sc _) rfl rfl (fun _ => rfl) ?_
  refine RunC.fin ?_
  refine AWP.sq ?_
  refine AWP.rgC 16 rfl rfl ?_
  refine pu (v := .sc _) rfl rfl (fun _ => rfl) ?_
  obtain ⟨r1, hr1, hR⟩ := bindE hR
  refine cls [] rfl rfl cb58 (ok58 x _ hr1) (.cons (.sc _) (.nil)) (.inr rfl) rfl ?_
  refine pu (v := .sc _) rfl rfl (fun _ => rfl) ?_
  refine RunC.fin ?_
  refine AWP.sq ?_
  refine AWP.rgC 28 rfl rfl ?_
  refine pu (v := .sc _) rfl rfl (fun _ => rfl) ?_
  obtain ⟨r2, hr2, hR⟩ := bindE hR
  refine cls [] rfl rfl cb58 (ok58 y _ hr2) (.cons (.sc _) (.nil)) (.inr rfl) rfl ?_
  refine pu (v := .sc _) rfl rfl (fun _ => rfl) ?_
  refine RunC.fin ?_
  refine AWP.sq ?_
  refine AWP.sq ?_
  refine AWP.rgC 32 rfl rfl ?_
  refine pu (v := .sc _) rfl rfl (fun _ => rfl) ?_
  refine RunC.fin ?_
  refine AWP.cd hR rfl (fun h3 hR => ?_) fun h3 hR => ?_
  · refine AWP.sq ?_
    refine AWP.sq ?_
    refine AWP.rgC 36 rfl rfl ?_
    refine pu (v := .sc _) rfl rfl (fun _ => rfl) ?_
    refine RunC.fin ?_
    refine AWP.cd hR rfl (fun h4 hR => ?_) fun h4 hR => ?_
    · refine AWP.sq ?_
      refine AWP.rgC 40 rfl rfl ?_
      refine pu (v := .sc _) rfl rfl (fun _ => rfl) ?_
      refine RunC.fin ?_
      refine AWP.ret ?_
      refine rtT ?_
      refine rtT ?_
      have hR := Option.some.inj hR; subst hR
      exact hQ _ _ (LS.mk [(4, .sc (.int .i64 0))] (lblks 0 []) 0) (.sc (.int .i64 0)) [] (.inr rfl) (Weak.turnL [] [] rfl rfl (tc (.sc _) tn) mn) (ro1 (rvT (v := .sc (.int .i64 0)) rfl)) rfl rfl (.sc _) pn
    · refine AWP.skip ?_
      refine skT ?_
      refine AWP.sq ?_
      refine AWP.rgC 40 rfl rfl ?_
      refine pu (v := .sc _) rfl rfl (fun _ => rfl) ?_
      refine RunC.fin ?_
      refine AWP.ret ?_
      refine rtT ?_
      have hR := Option.some.inj hR; subst hR
      exact hQ _ _ (LS.mk [(4, .sc (.int .i64 (-1)))] (lblks 0 []) 0) (.sc (.int .i64 (-1))) [] (.inr rfl) (Weak.turnL [] [] rfl rfl (tc (.sc _) tn) mn) (ro1 (rvT (v := .sc (.int .i64 (-1))) rfl)) rfl rfl (.sc _) pn
  · refine AWP.skip ?_
    refine skT ?_
    refine AWP.sq ?_
    refine AWP.sq ?_
    refine AWP.rgC 36 rfl rfl ?_
    refine pu (v := .sc _) rfl rfl (fun _ => rfl) ?_
    refine RunC.fin ?_
    refine AWP.cd hR rfl (fun h5 hR => ?_) fun h5 hR => ?_
    · refine AWP.sq ?_
      refine AWP.rgC 40 rfl rfl ?_
      refine pu (v := .sc _) rfl rfl (fun _ => rfl) ?_
      refine RunC.fin ?_
      refine AWP.ret ?_
      refine rtT ?_
      have hR := Option.some.inj hR; subst hR
      exact hQ _ _ (LS.mk [(4, .sc (.int .i64 1))] (lblks 0 []) 0) (.sc (.int .i64 1)) [] (.inr rfl) (Weak.turnL [] [] rfl rfl (tc (.sc _) tn) mn) (ro1 (rvT (v := .sc (.int .i64 1)) rfl)) rfl rfl (.sc _) pn
    · refine AWP.skip ?_
      refine skT ?_
      refine AWP.sq ?_
      refine AWP.sq ?_
      refine AWP.rgC 48 rfl rfl ?_
      refine pu (v := .sc _) rfl rfl (fun _ => rfl) ?_
      refine pu (v := .sc _) rfl rfl (fun _ => rfl) ?_
      refine pu (v := .sc _) rfl rfl (fun _ => rfl) ?_
      refine RunC.fin ?_
      refine AWP.cd hR rfl (fun h6 hR => ?_) fun h6 hR => ?_
      · refine AWP.sq ?_
        refine AWP.rgC 52 rfl rfl ?_
        refine pu (v := .sc _) rfl rfl (fun _ => rfl) ?_
        refine RunC.fin ?_
        refine AWP.ret ?_
        refine rtT ?_
        have hR := Option.some.inj hR; subst hR
        exact hQ _ _ (LS.mk [(4, .sc (.int .i64 (-1)))] (lblks 0 []) 0) (.sc (.int .i64 (-1))) [] (.inr rfl) (Weak.turnL [] [] rfl rfl (tc (.sc _) tn) mn) (ro1 (rvT (v := .sc (.int .i64 (-1))) rfl)) rfl rfl (.sc _) pn
      · refine AWP.skip ?_
        refine skT ?_
        refine AWP.sq ?_
        refine AWP.sq ?_
        refine AWP.rgC 60 rfl rfl ?_
        refine pu (v := .sc _) rfl rfl (fun _ => rfl) ?_
        refine pu (v := .sc _) rfl rfl (fun _ => rfl) ?_
        refine pu (v := .sc _) rfl rfl (fun _ => rfl) ?_
        refine RunC.fin ?_
        refine AWP.cd hR rfl (fun h7 hR => ?_) fun h7 hR => ?_
        · refine AWP.sq ?_
          refine AWP.rgC 64 rfl rfl ?_
          refine pu (v := .sc _) rfl rfl (fun _ => rfl) ?_
          refine RunC.fin ?_
          refine AWP.ret ?_
          refine rtT ?_
          have hR := Option.some.inj hR; subst hR
          exact hQ _ _ (LS.mk [(4, .sc (.int .i64 1))] (lblks 0 []) 0) (.sc (.int .i64 1)) [] (.inr rfl) (Weak.turnL [] [] rfl rfl (tc (.sc _) tn) mn) (ro1 (rvT (v := .sc (.int .i64 1)) rfl)) rfl rfl (.sc _) pn
        · refine AWP.skip ?_
          refine skT ?_
          refine AWP.sq ?_
          refine AWP.rgC 64 rfl rfl ?_
          refine pu (v := .sc _) rfl rfl (fun _ => rfl) ?_
          refine RunC.fin ?_
          refine AWP.ret ?_
          have hR := Option.some.inj hR; subst hR
          exact hQ _ _ (LS.mk [(4, .sc (.int .i64 0))] (lblks 0 []) 0) (.sc (.int .i64 0)) [] (.inr rfl) (Weak.turnL [] [] rfl rfl (tc (.sc _) tn) mn) (ro1 (rvT (v := .sc (.int .i64 0)) rfl)) rfl rfl (.sc _) pn
theorem ok32 (s : Star) (t : Int) (r : Int) (hR : sky_shines s t = some r) : FnP Try.prog 32 [aggV false s, .sc (.int .i64 t)] (.sc (.int .i64 r)) := by
  refine fnP_of (FnX.walk Try.func32 rfl 47 0 (by simp [Try.ntmps32]) rfl fun W S F Q hQ => ?_)
  unfold sky_shines at hR
  refine AWP.sq ?_
  refine AWP.rgC 8 rfl rfl ?_
  refine bx (cs := _) 0 rfl rfl rfl ?_
  refine pu (v := .sc _) rfl rfl (fun _ => rfl) ?_
  refine RunC.fin ?_
  refine AWP.sq ?_
  refine AWP.joinX (fun z1 : Bool => LS.mk [(1, .sc (.int .i64 t)), (2, .ptr 0 0 0), (16, .sc (.bool z1))] (lblks 0 [boxB (α := Star) false s]) 1) hR (fun o1 hR => ?_) fun z1 hR => ?_
  · refine AWP.rgC 48 rfl rfl ?_
    refine pu (v := .sc _) rfl rfl (fun _ => rfl) ?_
    refine fa rfl rfl ti34 rfl rfl ti31 rfl ?_
    refine ldB (v := .sc _) rfl rfl rfl rfl ti31 rfl rfl ?_
    refine pu (v := .sc _) rfl rfl (fun _ => rfl) ?_
    refine pu (v := .sc _) rfl rfl (fun _ => rfl) ?_
    refine brR hR (fun h2 hR => ?_) fun h2 hR => ?_
    · refine sk (skW rfl rfl rfl h2) ?_
      refine sk (skW rfl rfl rfl h2) ?_
      refine sk (skW rfl rfl rfl h2) ?_
      refine sk (skW rfl rfl rfl h2) ?_
      refine pkT (v := .sc (.bool true)) rfl rfl h2 rfl ?_
      refine RunC.fin ?_
      have hR := Option.some.inj hR; subst hR
      exact Weak.turnL [(0, 0)] [] rfl rfl (tc (.sc _) (tc (trP' rfl rfl rfl rfl) (tc (.sc _) tn))) (mc rfl (.box rfl (.cons (.sc _) (.cons (.sc _) (.cons (.sc _) (.cons (.sc _) (.cons (.sc _) (.cons trR1 (.cons (.sc _) (.cons (.sc _) (.cons (.sc _) (.nil)))))))))) rfl) mn)
    · refine pu (v := .sc _) (wtG rfl rfl rfl h2) rfl (fun _ => rfl) ?_
      refine fa (wtG rfl rfl rfl h2) rfl ti34 rfl rfl ti31 rfl ?_
      refine ldB (v := .sc _) (wtG rfl rfl rfl h2) rfl rfl rfl ti31 rfl rfl ?_
      refine pu (v := .sc _) (wtG rfl rfl rfl h2) rfl (fun _ => rfl) ?_
      refine pkF (v := .sc (.bool (decide (t ≥ s.To)))) rfl rfl h2 rfl ?_
      refine RunC.fin ?_
      have hR := Option.some.inj hR; subst hR
      exact Weak.turnL [(0, 0)] [] rfl rfl (tc (.sc _) (tc (trP' rfl rfl rfl rfl) (tc (.sc _) tn))) (mc rfl (.box rfl (.cons (.sc _) (.cons (.sc _) (.cons (.sc _) (.cons (.sc _) (.cons (.sc _) (.cons trR1 (.cons (.sc _) (.cons (.sc _) (.cons (.sc _) (.nil)))))))))) rfl) mn)
  · refine AWP.cd hR rfl (fun h3 hR => ?_) fun h3 hR => ?_
    · refine AWP.sq ?_
      refine AWP.rgC 5 rfl rfl ?_
      refine pu (v := .sc _) rfl rfl (fun _ => rfl) ?_
      refine RunC.fin ?_
      refine AWP.ret ?_
      refine rtT ?_
      have hR := Option.some.inj hR; subst hR
      exact hQ _ _ (LS.mk [(4, .sc (.int .i64 0))] (lblks 0 []) 0) (.sc (.int .i64 0)) [] (.inr rfl) (Weak.turnL [] [] rfl rfl (tc (.sc _) tn) mn) (ro1 (rvT (v := .sc (.int .i64 0)) rfl)) rfl rfl (.sc _) pn
    · refine AWP.skip ?_
      refine skT ?_
      refine AWP.sq ?_
      refine AWP.rgC 17 rfl rfl ?_
      refine fa rfl rfl ti34 rfl rfl ti32 rfl ?_
      refine ldB (v := rowV _ s.Wave) rfl rfl rfl rfl ti32 rfl rfl ?_
      refine lenL (α := Int) rfl rfl ti32 rfl ?_
      refine pu (v := .sc _) rfl rfl (fun _ => rfl) ?_
      refine RunC.fin ?_
      refine AWP.sq ?_
      refine AWP.sq ?_
      refine AWP.rgC 25 rfl rfl ?_
      refine pu (v := .sc _) rfl rfl (fun _ => rfl) ?_
      refine pu (v := .sc _) rfl rfl (fun _ => rfl) ?_
      refine RunC.fin ?_
      refine AWP.cd hR rfl (fun h4 hR => ?_) fun h4 hR => ?_
      · refine AWP.sq ?_
        refine AWP.rgC 37 rfl rfl ?_
        refine fa rfl rfl ti34 rfl rfl ti29 rfl ?_
        refine ldB (v := .sc _) rfl rfl rfl rfl ti29 rfl rfl ?_
        refine pu (v := .sc _) rfl rfl (fun _ => rfl) ?_
        refine RunC.fin ?_
        refine AWP.ret ?_
        refine rtT ?_
        have hR := Option.some.inj hR; subst hR
        exact hQ _ _ (LS.mk [(4, .sc (.int .i64 s.Rate))] (lblks 0 []) 0) (.sc (.int .i64 s.Rate)) [] (.inr rfl) (Weak.turnL [] [] rfl rfl (tc (.sc _) tn) mn) (ro1 (rvT (v := .sc (.int .i64 s.Rate)) rfl)) rfl rfl (.sc _) pn
      · refine AWP.skip ?_
        refine skT ?_
        refine AWP.sq ?_
        refine AWP.rgC 45 rfl rfl ?_
        refine pu (v := .sc _) rfl rfl (fun _ => rfl) ?_
        refine fa rfl rfl ti34 rfl rfl ti31 rfl ?_
        refine ldB (v := .sc _) rfl rfl rfl rfl ti31 rfl rfl ?_
        obtain ⟨h5, hR⟩ := chkE hR
        refine rm rfl rfl rfl h5 rfl ?_
        refine pu (v := .sc _) rfl rfl (fun _ => rfl) ?_
        refine RunC.fin ?_
        refine AWP.sq ?_
        refine AWP.sq ?_
        refine AWP.rgC 53 rfl rfl ?_
        refine pu (v := .sc _) rfl rfl (fun _ => rfl) ?_
        refine pu (v := .sc _) rfl rfl (fun _ => rfl) ?_
        refine RunC.fin ?_
        refine AWP.cd hR rfl (fun h6 hR => ?_) fun h6 hR => ?_
        · refine AWP.rgC 73 rfl rfl ?_
          refine pu (v := .sc _) rfl rfl (fun _ => rfl) ?_
          refine fa rfl rfl ti34 rfl rfl ti31 rfl ?_
          refine ldB (v := .sc _) rfl rfl rfl rfl ti31 rfl rfl ?_
          refine pu (v := .sc _) rfl rfl (fun _ => rfl) ?_
          refine pu (v := .sc _) rfl rfl (fun _ => rfl) ?_
          refine RunC.fin ?_
          refine AWP.sq ?_
          refine AWP.rgD 129 [0, 1, 0, 4, 0, 0, 32, 0, 224, 496, 1020, 2044, 4095, 8191] ⟨[], [none, some [0], none, some [0], none, none, some [0], none, none, none, none, some [], none, none]⟩ hmix (by kernel_rfl) rfl rfl ?_
          refine fa rfl rfl ti34 rfl rfl ti29 rfl ?_
          refine ldB (v := .sc _) rfl rfl rfl rfl ti29 rfl rfl ?_
          refine fa rfl rfl ti34 rfl rfl ti32 rfl ?_
          refine ldB (v := rowV _ s.Wave) rfl rfl rfl rfl ti32 rfl rfl ?_
          refine pu (v := .sc _) rfl rfl (fun _ => rfl) ?_
          refine fa rfl rfl ti34 rfl rfl ti31 rfl ?_
          refine ldB (v := .sc _) rfl rfl rfl rfl ti31 rfl rfl ?_
          refine pu (v := .sc _) rfl rfl (fun _ => rfl) ?_
          obtain ⟨h7, hR⟩ := chkE hR
          refine qu rfl rfl rfl h7 rfl ?_
          obtain ⟨h8, hR⟩ := chkE hR
          obtain ⟨v9, ev9, hR⟩ := letE hR
          refine qu rfl rfl rfl h8 ev9 ?_
          obtain ⟨h10, hR⟩ := chkE hR
          refine ixL (α := Int) rfl rfl rfl ti32 rfl ti29 rfl h10 ?_
          refine ldR (v := .sc _) rfl rfl ti29 rfl ?_
          refine pu (v := .sc _) rfl rfl (fun _ => rfl) ?_
          refine pu (v := .sc _) rfl rfl (fun _ => rfl) ?_
          refine RunC.fin ?_
          refine AWP.ret ?_
          have hR := Option.some.inj hR; subst hR
          exact hQ _ _ (LS.mk [(4, .sc (.int .i64 (w6 (s.Rate + (gt s.Wave v9)))))] (lblks 0 []) 0) (.sc (.int .i64 (w6 (s.Rate + (gt s.Wave v9))))) [] (.inr rfl) (Weak.turnL [] [] rfl rfl (tc (.sc _) tn) mn) (ro1 (rvT (v := .sc (.int .i64 (w6 (s.Rate + (gt s.Wave v9))))) rfl)) rfl rfl (.sc _) pn
        · refine AWP.skip ?_
          refine skT ?_
          refine AWP.sq ?_
          refine AWP.rgD 109 [0, 1, 0, 4, 0, 0, 32, 0, 224, 496, 1020, 2044, 4095, 8191] ⟨[], [none, some [0], none, some [0], none, none, some [0], none, none, none, none, some [], none, none]⟩ hmix (by kernel_rfl) rfl rfl ?_
          refine fa rfl rfl ti34 rfl rfl ti29 rfl ?_
          refine ldB (v := .sc _) rfl rfl rfl rfl ti29 rfl rfl ?_
          refine fa rfl rfl ti34 rfl rfl ti32 rfl ?_
          refine ldB (v := rowV _ s.Wave) rfl rfl rfl rfl ti32 rfl rfl ?_
          refine pu (v := .sc _) rfl rfl (fun _ => rfl) ?_
          refine fa rfl rfl ti34 rfl rfl ti31 rfl ?_
          refine ldB (v := .sc _) rfl rfl rfl rfl ti31 rfl rfl ?_
          refine pu (v := .sc _) rfl rfl (fun _ => rfl) ?_
          obtain ⟨h11, hR⟩ := chkE hR
          refine qu rfl rfl rfl h11 rfl ?_
          obtain ⟨h12, hR⟩ := chkE hR
          obtain ⟨v13, ev13, hR⟩ := letE hR
          refine qu rfl rfl rfl h12 ev13 ?_
          obtain ⟨h14, hR⟩ := chkE hR
          refine ixL (α := Int) rfl rfl rfl ti32 rfl ti29 rfl h14 ?_
          refine ldR (v := .sc _) rfl rfl ti29 rfl ?_
          refine pu (v := .sc _) rfl rfl (fun _ => rfl) ?_
          refine pu (v := .sc _) rfl rfl (fun _ => rfl) ?_
          refine RunC.fin ?_
          refine AWP.ret ?_
          have hR := Option.some.inj hR; subst hR
          exact hQ _ _ (LS.mk [(4, .sc (.int .i64 (w6 (s.Rate + (gt s.Wave v13)))))] (lblks 0 []) 0) (.sc (.int .i64 (w6 (s.Rate + (gt s.Wave v13))))) [] (.inr rfl) (Weak.turnL [] [] rfl rfl (tc (.sc _) tn) mn) (ro1 (rvT (v := .sc (.int .i64 (w6 (s.Rate + (gt s.Wave v13))))) rfl)) rfl rfl (.sc _) pn
theorem ok31 (s : Sky) (t : Int) (r : Int) (hR : sky_timed s t = some r) : FnP Try.prog 31 [aggV false s, .sc (.int .i64 t)] (.sc (.int .i64 r)) := by
  refine fnP_of (FnX.walk Try.func31 rfl 17 0 (by simp [Try.ntmps31]) rfl fun W S F Q hQ => ?_)
  unfold sky_timed at hR
  refine AWP.sq ?_
  refine AWP.rgC 8 rfl rfl ?_
  refine bx (cs := _) 0 rfl rfl rfl ?_
  refine pu (v := .sc _) rfl rfl (fun _ => rfl) ?_
  refine RunC.fin ?_
  refine AWP.sq ?_
  refine AWP.sq ?_
  refine AWP.rgC 20 rfl rfl ?_
  refine ldB (v := .agg _) rfl rfl rfl rfl ti63 rfl rfl ?_
  obtain ⟨r1, hr1, hR⟩ := bindE hR
  refine cls [] rfl rfl cb46 (ok46 s _ hr1) (.cons (.agg (.cons (.sc _) (.cons ldR' (.cons ldR' (.cons ldR' (.cons (.sc _) (.cons (.sc _) (.cons (.sc _) (.cons (.sc _) (.cons (.sc _) (.cons (.sc _) (.cons (.sc _) (.cons (.sc _) (.nil))))))))))))) rfl) (.nil)) (.inr rfl) rfl ?_
  refine pu (v := .sc _) rfl rfl (fun _ => rfl) ?_
  refine RunC.fin ?_
  refine AWP.sq ?_
  refine AWP.rgC 28 rfl rfl ?_
  refine pu (v := .sc _) rfl rfl (fun _ => rfl) ?_
  refine pu (v := .sc _) rfl rfl (fun _ => rfl) ?_
  refine RunC.fin ?_
  refine AWP.cd hR rfl (fun h2 hR => ?_) fun h2 hR => ?_
  · refine AWP.sq ?_
    refine AWP.rgC 36 rfl rfl ?_
    refine pu (v := .sc _) rfl rfl (fun _ => rfl) ?_
    refine pu (v := .sc _) rfl rfl (fun _ => rfl) ?_
    refine RunC.fin ?_
    refine AWP.ret ?_
    refine rtT ?_
    have hR := Option.some.inj hR; subst hR
    exact hQ _ _ (LS.mk [(4, .sc (.int .i64 r1))] (lblks 0 []) 0) (.sc (.int .i64 r1)) [] (.inr rfl) (Weak.turnL [] [] rfl rfl (tc (.sc _) tn) mn) (ro1 (rvT (v := .sc (.int .i64 r1)) rfl)) rfl rfl (.sc _) pn
  · refine AWP.skip ?_
    refine skT ?_
    refine AWP.sq ?_
    refine AWP.joinX (fun z3 : Bool => LS.mk [(16, .sc (.bool z3))] (lblks 0 []) 0) hR (fun o3 hR => ?_) fun z3 hR => ?_
    · refine AWP.rgC 52 rfl rfl ?_
      refine pu (v := .sc _) rfl rfl (fun _ => rfl) ?_
      refine pu (v := .sc _) rfl rfl (fun _ => rfl) ?_
      refine pu (v := .sc _) rfl rfl (fun _ => rfl) ?_
      refine brR hR (fun h4 hR => ?_) fun h4 hR => ?_
      · refine sk (skW rfl rfl rfl h4) ?_
        refine sk (skW rfl rfl rfl h4) ?_
        refine pkT (v := .sc (.bool true)) rfl rfl h4 rfl ?_
        refine RunC.fin ?_
        have hR := Option.some.inj hR; subst hR
        exact Weak.turnL [] [] rfl rfl (tc (.sc _) tn) mn
      · refine pu (v := .sc _) (wtG rfl rfl rfl h4) rfl (fun _ => rfl) ?_
        refine pu (v := .sc _) (wtG rfl rfl rfl h4) rfl (fun _ => rfl) ?_
        refine pkF (v := .sc (.bool (decide (t > 17592186044416)))) rfl rfl h4 rfl ?_
        refine RunC.fin ?_
        have hR := Option.some.inj hR; subst hR
        exact Weak.turnL [] [] rfl rfl (tc (.sc _) tn) mn
    · refine AWP.cd hR rfl (fun h5 hR => ?_) fun h5 hR => ?_
      · refine AWP.sq ?_
        refine AWP.rgC 4 rfl rfl ?_
        refine pu (v := .sc _) rfl rfl (fun _ => rfl) ?_
        refine RunC.fin ?_
        refine AWP.ret ?_
        refine rtT ?_
        have hR := Option.some.inj hR; subst hR
        exact hQ _ _ (LS.mk [(4, .sc (.int .i64 4))] (lblks 0 []) 0) (.sc (.int .i64 4)) [] (.inr rfl) (Weak.turnL [] [] rfl rfl (tc (.sc _) tn) mn) (ro1 (rvT (v := .sc (.int .i64 4)) rfl)) rfl rfl (.sc _) pn
      · refine AWP.skip ?_
        refine skT ?_
        refine AWP.sq ?_
        refine AWP.rgC 4 rfl rfl ?_
        refine pu (v := .sc _) rfl rfl (fun _ => rfl) ?_
        refine RunC.fin ?_
        refine AWP.ret ?_
        have hR := Option.some.inj hR; subst hR
        exact hQ _ _ (LS.mk [(4, .sc (.int .i64 0))] (lblks 0 []) 0) (.sc (.int .i64 0)) [] (.inr rfl) (Weak.turnL [] [] rfl rfl (tc (.sc _) tn) mn) (ro1 (rvT (v := .sc (.int .i64 0)) rfl)) rfl rfl (.sc _) pn
theorem ok30 (a : Bound) (b : Bound) (r : Bound) (hR : bound_Sub a b = some r) : FnP Try.prog 30 [aggV false a, aggV false b] (aggV (α := Bound) true r) := by
  refine fnP_of (FnX.walk Try.func30 rfl 9 0 (by simp [Try.ntmps30]) rfl fun W S F Q hQ => ?_)
  unfold bound_Sub at hR
  refine AWP.sq ?_
  refine AWP.rgC 12 rfl rfl ?_
  refine bx (cs := _) 0 rfl rfl rfl ?_
  refine bx (cs := _) 4 rfl rfl rfl ?_
  refine al (cs := [.sc (.int .i64 0), .sc (.int .i64 0), .sc (.bool false)]) 8 rfl rfl ti44 rfl rfl ?_
  refine RunC.fin ?_
  refine AWP.sq ?_
  refine AWP.rgD 32 [0, 0, 2, 7, 15] ⟨[], [some [0], some [4], none, none, some [8]]⟩ hmix (by kernel_rfl) rfl rfl ?_
  refine ldB (v := .agg _) rfl rfl rfl rfl ti44 rfl rfl ?_
  refine ldB (v := .agg _) rfl rfl rfl rfl ti44 rfl rfl ?_
  obtain ⟨r1, hr1, hR⟩ := bindE hR
  refine cls [] rfl rfl cb44 (ok44 b _ hr1) (.cons (.agg (.cons (.sc _) (.cons (.sc _) (.cons (.sc _) (.nil)))) rfl) (.nil)) (.inr rfl) rfl ?_
  obtain ⟨r2, hr2, hR⟩ := bindE hR
  refine cls [] rfl rfl cb45 (ok45 a r1 _ hr2) (.cons (.agg (.cons (.sc _) (.cons (.sc _) (.cons (.sc _) (.nil)))) rfl) (.cons (.agg (.cons (.sc _) (.cons (.sc _) (.cons (.sc _) (.nil)))) rfl) (.nil))) (.inr rfl) rfl ?_
  refine stB (cs' := [.sc (.int .i64 r2.Lo), .sc (.int .i64 r2.Hi), .sc (.bool r2.Unknown)]) rfl rfl rfl rfl ti44 rfl rfl rfl rfl rfl ?_
  refine RunC.fin ?_
  refine AWP.ret ?_
  have hR := Option.some.inj hR; subst hR
  exact hQ _ _ (LS.mk [(4, .ptr 0 0 0)] (lblks 0 [boxB (α := Bound) true r2]) 1) (aggV (α := Bound) true r2) [] (.inr rfl) (Weak.turnL [(8, 0)] [] rfl rfl (tc (trP' rfl rfl rfl rfl) tn) (mc rfl (.box rfl (.cons (.sc _) (.cons (.sc _) (.cons (.sc _) (.nil)))) rfl) mn)) (ro1 (rvC (v := aggV (α := Bound) true r2) rfl rfl ti44 rfl)) rfl rfl ldA pn
theorem ok28 (a : Bound) (b : Bound) (r : Bound) (hR : bound_Min a b = some r) : FnP Try.prog 28 [aggV false a, aggV false b] (aggV (α := Bound) true r) := by
  refine fnP_of (FnX.walk Try.func28 rfl 20 0 (by simp [Try.ntmps28]) rfl fun W S F Q hQ => ?_)
  unfold bound_Min at hR
  refine AWP.sq ?_
  refine AWP.rgC 12 rfl rfl ?_
  refine bx (cs := _) 0 rfl rfl rfl ?_
  refine bx (cs := _) 4 rfl rfl rfl ?_
  refine al (cs := [.sc (.int .i64 0), .sc (.int .i64 0), .sc (.bool false)]) 8 rfl rfl ti44 rfl rfl ?_
  refine RunC.fin ?_
  refine AWP.sq ?_
  refine AWP.sq ?_
  refine AWP.rgC 24 rfl rfl ?_
  refine ldB (v := .agg _) rfl rfl rfl rfl ti44 rfl rfl ?_
  refine ldB (v := .agg _) rfl rfl rfl rfl ti44 rfl rfl ?_
  obtain ⟨r1, hr1, hR⟩ := bindE hR
  refine cls [] rfl rfl cb43 (ok43 a b _ hr1) (.cons (.agg (.cons (.sc _) (.cons (.sc _) (.cons (.sc _) (.nil)))) rfl) (.cons (.agg (.cons (.sc _) (.cons (.sc _) (.cons (.sc _) (.nil)))) rfl) (.nil))) (.inr rfl) rfl ?_
  refine RunC.fin ?_
  refine AWP.cd hR rfl (fun h2 hR => ?_) fun h2 hR => ?_
  · refine AWP.sq ?_
    refine AWP.rgC 32 rfl rfl ?_
    obtain ⟨r3, hr3, hR⟩ := bindE hR
    refine cls [] rfl rfl cb26 (ok26 _ hr3) (.nil) (.inr rfl) rfl ?_
    refine stB (cs' := [.sc (.int .i64 r3.Lo), .sc (.int .i64 r3.Hi), .sc (.bool r3.Unknown)]) rfl rfl rfl rfl ti44 rfl rfl rfl rfl rfl ?_
    refine RunC.fin ?_
    refine AWP.ret ?_
    refine rtT ?_
    have hR := Option.some.inj hR; subst hR
    exact hQ _ _ (LS.mk [(4, .ptr 0 0 0)] (lblks 0 [boxB (α := Bound) true r3]) 1) (aggV (α := Bound) true r3) [] (.inr rfl) (Weak.turnL [(8, 0)] [] rfl rfl (tc (trP' rfl rfl rfl rfl) tn) (mc rfl (.box rfl (.cons (.sc _) (.cons (.sc _) (.cons (.sc _) (.nil)))) rfl) mn)) (ro1 (rvC (v := aggV (α := Bound) true r3) rfl rfl ti44 rfl)) rfl rfl ldA pn
  · refine AWP.skip ?_
    refine skT ?_
    refine AWP.sq ?_
    refine AWP.rgC 72 rfl rfl ?_
    refine fa rfl rfl ti44 rfl rfl ti29 rfl ?_
    refine ldB (v := .sc _) rfl rfl rfl rfl ti29 rfl rfl ?_
    refine fa rfl rfl ti44 rfl rfl ti29 rfl ?_
    refine ldB (v := .sc _) rfl rfl rfl rfl ti29 rfl rfl ?_
    refine pu (v := .sc _) rfl rfl (fun _ => rfl) ?_
    refine fa rfl rfl ti44 rfl rfl ti29 rfl ?_
    refine ldB (v := .sc _) rfl rfl rfl rfl ti29 rfl rfl ?_
    refine fa rfl rfl ti44 rfl rfl ti29 rfl ?_
    refine ldB (v := .sc _) rfl rfl rfl rfl ti29 rfl rfl ?_
    refine pu (v := .sc _) rfl rfl (fun _ => rfl) ?_
    obtain ⟨r4, hr4, hR⟩ := bindE hR
    refine cls [] rfl rfl cb42 (ok42 (mn2 a.Lo b.Lo) (mn2 a.Hi b.Hi) _ hr4) (.cons (.sc _) (.cons (.sc _) (.nil))) (.inr rfl) rfl ?_
    refine stB (cs' := [.sc (.int .i64 r4.Lo), .sc (.int .i64 r4.Hi), .sc (.bool r4.Unknown)]) rfl rfl rfl rfl ti44 rfl rfl rfl rfl rfl ?_
    refine RunC.fin ?_
    refine AWP.ret ?_
    have hR := Option.some.inj hR; subst hR
    exact hQ _ _ (LS.mk [(4, .ptr 0 0 0)] (lblks 0 [boxB (α := Bound) true r4]) 1) (aggV (α := Bound) true r4) [] (.inr rfl) (Weak.turnL [(8, 0)] [] rfl rfl (tc (trP' rfl rfl rfl rfl) tn) (mc rfl (.box rfl (.cons (.sc _) (.cons (.sc _) (.cons (.sc _) (.nil)))) rfl) mn)) (ro1 (rvC (v := aggV (α := Bound) true r4) rfl rfl ti44 rfl)) rfl rfl ldA pn
theorem ok29 (a : Bound) (b : Bound) (r : Bound) (hR : bound_Max a b = some r) : FnP Try.prog 29 [aggV false a, aggV false b] (aggV (α := Bound) true r) := by
  refine fnP_of (FnX.walk Try.func29 rfl 11 0 (by simp [Try.ntmps29]) rfl fun W S F Q hQ => ?_)
  unfold bound_Max at hR
  refine AWP.sq ?_
  refine AWP.rgC 12 rfl rfl ?_
  refine bx (cs := _) 0 rfl rfl rfl ?_
  refine bx (cs := _) 4 rfl rfl rfl ?_
  refine al (cs := [.sc (.int .i64 0), .sc (.int .i64 0), .sc (.bool false)]) 8 rfl rfl ti44 rfl rfl ?_
  refine RunC.fin ?_
  refine AWP.sq ?_
  refine AWP.rgD 40 [0, 1, 0, 7, 15, 31, 63] ⟨[], [some [0], none, some [4], none, none, none, some [8]]⟩ hmix (by kernel_rfl) rfl rfl ?_
  refine ldB (v := .agg _) rfl rfl rfl rfl ti44 rfl rfl ?_
  obtain ⟨r1, hr1, hR⟩ := bindE hR
  refine cls [] rfl rfl cb44 (ok44 a _ hr1) (.cons (.agg (.cons (.sc _) (.cons (.sc _) (.cons (.sc _) (.nil)))) rfl) (.nil)) (.inr rfl) rfl ?_
  refine ldB (v := .agg _) rfl rfl rfl rfl ti44 rfl rfl ?_
  obtain ⟨r2, hr2, hR⟩ := bindE hR
  refine cls [] rfl rfl cb44 (ok44 b _ hr2) (.cons (.agg (.cons (.sc _) (.cons (.sc _) (.cons (.sc _) (.nil)))) rfl) (.nil)) (.inr rfl) rfl ?_
  obtain ⟨r3, hr3, hR⟩ := bindE hR
  refine cls [] rfl rfl cb28 (ok28 r1 r2 _ hr3) (.cons (.agg (.cons (.sc _) (.cons (.sc _) (.cons (.sc _) (.nil)))) rfl) (.cons (.agg (.cons (.sc _) (.cons (.sc _) (.cons (.sc _) (.nil)))) rfl) (.nil))) (.inr rfl) rfl ?_
  obtain ⟨r4, hr4, hR⟩ := bindE hR
  refine cls [] rfl rfl cb44 (ok44 r3 _ hr4) (.cons (.agg (.cons (.sc _) (.cons (.sc _) (.cons (.sc _) (.nil)))) rfl) (.nil)) (.inr rfl) rfl ?_
  refine stB (cs' := [.sc (.int .i64 r4.Lo), .sc (.int .i64 r4.Hi), .sc (.bool r4.Unknown)]) rfl rfl rfl rfl ti44 rfl rfl rfl rfl rfl ?_
  refine RunC.fin ?_
  refine AWP.ret ?_
  have hR := Option.some.inj hR; subst hR
  exact hQ _ _ (LS.mk [(4, .ptr 0 0 0)] (lblks 0 [boxB (α := Bound) true r4]) 1) (aggV (α := Bound) true r4) [] (.inr rfl) (Weak.turnL [(8, 0)] [] rfl rfl (tc (trP' rfl rfl rfl rfl) tn) (mc rfl (.box rfl (.cons (.sc _) (.cons (.sc _) (.cons (.sc _) (.nil)))) rfl) mn)) (ro1 (rvC (v := aggV (α := Bound) true r4) rfl rfl ti44 rfl)) rfl rfl ldA pn
theorem ok27 (a : Bound) (b : Bound) (r : Bound × Bool) (hR : bound_Meet a b = some r) : FnP Try.prog 27 [aggV false a, aggV false b] (.tup [aggV (α := Bound) true r.1, .sc (.bool r.2)]) := by
  refine fnP_of (FnX.walk Try.func27 rfl 42 0 (by simp [Try.ntmps27]) rfl fun W S F Q hQ => ?_)
  unfold bound_Meet at hR
  refine AWP.sq ?_
  refine AWP.rgC 16 rfl rfl ?_
  refine bx (cs := _) 0 rfl rfl rfl ?_
  refine bx (cs := _) 4 rfl rfl rfl ?_
  refine al (cs := [.sc (.int .i64 0), .sc (.int .i64 0), .sc (.bool false)]) 8 rfl rfl ti44 rfl rfl ?_
  refine pu (v := .sc _) rfl rfl (fun _ => rfl) ?_
  refine RunC.fin ?_
  refine AWP.sq ?_
  refine AWP.rgD 40 [0, 1, 0, 7, 15, 31] ⟨[], [some [0], none, some [4], none, some [0], some [4]]⟩ hmix (by kernel_rfl) rfl rfl ?_
  refine ldB (v := .agg _) rfl rfl rfl rfl ti44 rfl rfl ?_
  obtain ⟨r1, hr1, hR⟩ := bindE hR
  refine cls [] rfl rfl cb41 (ok41 a _ hr1) (.cons (.agg (.cons (.sc _) (.cons (.sc _) (.cons (.sc _) (.nil)))) rfl) (.nil)) (.inr rfl) rfl ?_
  refine ldB (v := .agg _) rfl rfl rfl rfl ti44 rfl rfl ?_
  obtain ⟨r2, hr2, hR⟩ := bindE hR
  refine cls [] rfl rfl cb41 (ok41 b _ hr2) (.cons (.agg (.cons (.sc _) (.cons (.sc _) (.cons (.sc _) (.nil)))) rfl) (.nil)) (.inr rfl) rfl ?_
  refine stB (cs' := [.sc (.int .i64 r1.Lo), .sc (.int .i64 r1.Hi), .sc (.bool r1.Unknown)]) rfl rfl rfl rfl ti44 rfl rfl rfl rfl rfl ?_
  refine stB (cs' := [.sc (.int .i64 r2.Lo), .sc (.int .i64 r2.Hi), .sc (.bool r2.Unknown)]) rfl rfl rfl rfl ti44 rfl rfl rfl rfl rfl ?_
  refine RunC.fin ?_
  refine AWP.sq ?_
  refine AWP.block ?_
  refine AWP.sq ?_
  refine AWP.rgC 52 rfl rfl ?_
  refine fa rfl rfl ti44 rfl rfl ti4 rfl ?_
  refine ldB (v := .sc _) rfl rfl rfl rfl ti4 rfl rfl ?_
  refine pu (v := .sc _) rfl rfl (fun _ => rfl) ?_
  refine RunC.fin ?_
  refine AWP.cd hR rfl (fun h3 hR => ?_) fun h3 hR => ?_
  · refine AWP.sq ?_
    refine AWP.rgC 64 rfl rfl ?_
    refine ldB (v := .agg _) rfl rfl rfl rfl ti44 rfl rfl ?_
    refine stB (cs' := [.sc (.int .i64 r2.Lo), .sc (.int .i64 r2.Hi), .sc (.bool r2.Unknown)]) rfl rfl rfl rfl ti44 rfl rfl rfl rfl rfl ?_
    refine pu (v := .sc _) rfl rfl (fun _ => rfl) ?_
    refine RunC.fin ?_
    refine AWP.ret ?_
    refine rtB ?_
    refine rtT ?_
    have hR := Option.some.inj hR; subst hR
    exact hQ _ _ (LS.mk [(4, .ptr 0 0 0), (5, .sc (.bool true))] (lblks 0 [boxB (α := Bound) true r2]) 1) (.tup [aggV (α := Bound) true r2, .sc (.bool true)]) [] (.inr rfl) (Weak.turnL [(8, 0)] [] rfl rfl (tc (trP' rfl rfl rfl rfl) (tc (.sc _) tn)) (mc rfl (.box rfl (.cons (.sc _) (.cons (.sc _) (.cons (.sc _) (.nil)))) rfl) mn)) (ro2 (rvC (v := aggV (α := Bound) true r2) rfl rfl ti44 rfl) (rvT (v := .sc (.bool true)) rfl)) rfl rfl (.tup (.cons ldA (.cons (.sc _) .nil))) pn
  · refine AWP.sq ?_
    refine AWP.rgC 64 rfl rfl ?_
    refine fa rfl rfl ti44 rfl rfl ti4 rfl ?_
    refine ldB (v := .sc _) rfl rfl rfl rfl ti4 rfl rfl ?_
    refine pu (v := .sc _) rfl rfl (fun _ => rfl) ?_
    refine RunC.fin ?_
    refine AWP.cd hR rfl (fun h4 hR => ?_) fun h4 hR => ?_
    · refine AWP.sq ?_
      refine AWP.rgC 76 rfl rfl ?_
      refine ldB (v := .agg _) rfl rfl rfl rfl ti44 rfl rfl ?_
      refine stB (cs' := [.sc (.int .i64 r1.Lo), .sc (.int .i64 r1.Hi), .sc (.bool r1.Unknown)]) rfl rfl rfl rfl ti44 rfl rfl rfl rfl rfl ?_
      refine pu (v := .sc _) rfl rfl (fun _ => rfl) ?_
      refine RunC.fin ?_
      refine AWP.ret ?_
      refine rtB ?_
      refine rtT ?_
      have hR := Option.some.inj hR; subst hR
      exact hQ _ _ (LS.mk [(4, .ptr 0 0 0), (5, .sc (.bool true))] (lblks 0 [boxB (α := Bound) true r1]) 1) (.tup [aggV (α := Bound) true r1, .sc (.bool true)]) [] (.inr rfl) (Weak.turnL [(8, 0)] [] rfl rfl (tc (trP' rfl rfl rfl rfl) (tc (.sc _) tn)) (mc rfl (.box rfl (.cons (.sc _) (.cons (.sc _) (.cons (.sc _) (.nil)))) rfl) mn)) (ro2 (rvC (v := aggV (α := Bound) true r1) rfl rfl ti44 rfl) (rvT (v := .sc (.bool true)) rfl)) rfl rfl (.tup (.cons ldA (.cons (.sc _) .nil))) pn
    · refine AWP.sq ?_
      refine AWP.rgC 112 rfl rfl ?_
      refine fa rfl rfl ti44 rfl rfl ti29 rfl ?_
      refine ldB (v := .sc _) rfl rfl rfl rfl ti29 rfl rfl ?_
      refine fa rfl rfl ti44 rfl rfl ti29 rfl ?_
      refine ldB (v := .sc _) rfl rfl rfl rfl ti29 rfl rfl ?_
      refine pu (v := .sc _) rfl rfl (fun _ => rfl) ?_
      refine fa rfl rfl ti44 rfl rfl ti29 rfl ?_
      refine ldB (v := .sc _) rfl rfl rfl rfl ti29 rfl rfl ?_
      refine fa rfl rfl ti44 rfl rfl ti29 rfl ?_
      refine ldB (v := .sc _) rfl rfl rfl rfl ti29 rfl rfl ?_
      refine pu (v := .sc _) rfl rfl (fun _ => rfl) ?_
      refine pu (v := .sc _) rfl rfl (fun _ => rfl) ?_
      refine pu (v := .sc _) rfl rfl (fun _ => rfl) ?_
      refine RunC.fin ?_
      refine AWP.cd hR rfl (fun h5 hR => ?_) fun h5 hR => ?_
      · refine AWP.sq ?_
        refine AWP.rgC 124 rfl rfl ?_
        refine bu (cs := [.sc (.int .i64 0), .sc (.int .i64 0), .sc (.bool false)]) rfl bt44 rfl ?_
        refine stB (cs' := [.sc (.int .i64 0), .sc (.int .i64 0), .sc (.bool false)]) rfl rfl rfl rfl ti44 rfl rfl rfl rfl rfl ?_
        refine pu (v := .sc _) rfl rfl (fun _ => rfl) ?_
        refine RunC.fin ?_
        refine AWP.ret ?_
        refine rtB ?_
        refine rtT ?_
        have hR := Option.some.inj hR; subst hR
        exact hQ _ _ (LS.mk [(4, .ptr 0 0 0), (5, .sc (.bool false))] (lblks 0 [boxB (α := Bound) true (Bound.mk 0 0 false)]) 1) (.tup [aggV (α := Bound) true (Bound.mk 0 0 false), .sc (.bool false)]) [] (.inr rfl) (Weak.turnL [(8, 0)] [] rfl rfl (tc (trP' rfl rfl rfl rfl) (tc (.sc _) tn)) (mc rfl (.box rfl (.cons (.sc _) (.cons (.sc _) (.cons (.sc _) (.nil)))) rfl) mn)) (ro2 (rvC (v := aggV (α := Bound) true (Bound.mk 0 0 false)) rfl rfl ti44 rfl) (rvT (v := .sc (.bool false)) rfl)) rfl rfl (.tup (.cons ldA (.cons (.sc _) .nil))) pn
      · refine AWP.skip ?_
        refine skB ?_
        refine skT ?_
        refine AWP.sq ?_
        refine AWP.rgC 164 rfl rfl ?_
        refine fa rfl rfl ti44 rfl rfl ti29 rfl ?_
        refine ldB (v := .sc _) rfl rfl rfl rfl ti29 rfl rfl ?_
        refine fa rfl rfl ti44 rfl rfl ti29 rfl ?_
        refine ldB (v := .sc _) rfl rfl rfl rfl ti29 rfl rfl ?_
        refine pu (v := .sc _) rfl rfl (fun _ => rfl) ?_
        refine fa rfl rfl ti44 rfl rfl ti29 rfl ?_
        refine ldB (v := .sc _) rfl rfl rfl rfl ti29 rfl rfl ?_
        refine fa rfl rfl ti44 rfl rfl ti29 rfl ?_
        refine ldB (v := .sc _) rfl rfl rfl rfl ti29 rfl rfl ?_
        refine pu (v := .sc _) rfl rfl (fun _ => rfl) ?_
        obtain ⟨r6, hr6, hR⟩ := bindE hR
        refine cls [] rfl rfl cb42 (ok42 (mx2 r1.Lo r2.Lo) (mn2 r1.Hi r2.Hi) _ hr6) (.cons (.sc _) (.cons (.sc _) (.nil))) (.inr rfl) rfl ?_
        refine stB (cs' := [.sc (.int .i64 r6.Lo), .sc (.int .i64 r6.Hi), .sc (.bool r6.Unknown)]) rfl rfl rfl rfl ti44 rfl rfl rfl rfl rfl ?_
        refine pu (v := .sc _) rfl rfl (fun _ => rfl) ?_
        refine RunC.fin ?_
        refine AWP.ret ?_
        have hR := Option.some.inj hR; subst hR
        exact hQ _ _ (LS.mk [(4, .ptr 0 0 0), (5, .sc (.bool true))] (lblks 0 [boxB (α := Bound) true r6]) 1) (.tup [aggV (α := Bound) true r6, .sc (.bool true)]) [] (.inr rfl) (Weak.turnL [(8, 0)] [] rfl rfl (tc (trP' rfl rfl rfl rfl) (tc (.sc _) tn)) (mc rfl (.box rfl (.cons (.sc _) (.cons (.sc _) (.cons (.sc _) (.nil)))) rfl) mn)) (ro2 (rvC (v := aggV (α := Bound) true r6) rfl rfl ti44 rfl) (rvT (v := .sc (.bool true)) rfl)) rfl rfl (.tup (.cons ldA (.cons (.sc _) .nil))) pn
theorem ok24 (b : Bound) (r : Int) (hR : bound_Check b = some r) : FnP Try.prog 24 [aggV false b] (.sc (.int .i64 r)) := by
  refine fnP_of (FnX.walk Try.func24 rfl 37 0 (by simp [Try.ntmps24]) rfl fun W S F Q hQ => ?_)
  unfold bound_Check at hR
  refine AWP.sq ?_
  refine AWP.rgC 8 rfl rfl ?_
  refine bx (cs := _) 0 rfl rfl rfl ?_
  refine pu (v := .sc _) rfl rfl (fun _ => rfl) ?_
  refine RunC.fin ?_
  refine AWP.sq ?_
  refine AWP.block ?_
  refine AWP.joinX (fun z1 : Bool => LS.mk [(1, .ptr 0 0 0), (3, .sc (.bool z1))] (lblks 0 [boxB (α := Bound) true b]) 1) hR (fun o1 hR => ?_) fun z1 hR => ?_
  · refine AWP.rgC 60 rfl rfl ?_
    refine fa rfl rfl ti51 rfl rfl ti4 rfl ?_
    refine ldB (v := .sc _) rfl rfl rfl rfl ti4 rfl rfl ?_
    refine pu (v := .sc _) rfl rfl (fun _ => rfl) ?_
    refine brR hR (fun h2 hR => ?_) fun h2 hR => ?_
    · refine fa (wtG rfl rfl rfl h2) rfl ti51 rfl rfl ti31 rfl ?_
      refine ldB (v := .sc _) (wtG rfl rfl rfl h2) rfl rfl rfl ti31 rfl rfl ?_
      refine pu (v := .sc _) (wtG rfl rfl rfl h2) rfl (fun _ => rfl) ?_
      refine pu (v := .sc _) (wtG rfl rfl rfl h2) rfl (fun _ => rfl) ?_
      refine brR hR (fun h3 hR => ?_) fun h3 hR => ?_
      · refine sk (skW rfl rfl rfl h3) ?_
        refine sk (skW rfl rfl rfl h3) ?_
        refine sk (skW rfl rfl rfl h3) ?_
        refine pkT (v := .sc (.bool true)) (wtG rfl rfl rfl h2) rfl h3 rfl ?_
        refine pkT (v := .sc (.bool true)) rfl rfl h2 rfl ?_
        refine pu (v := .sc _) rfl rfl (fun _ => rfl) ?_
        refine RunC.fin ?_
        have hR := Option.some.inj hR; subst hR
        exact Weak.turnL [(0, 0)] [] rfl rfl (tc (trP' rfl rfl rfl rfl) (tc (.sc _) tn)) (mc rfl (.box rfl (.cons (.sc _) (.cons (.sc _) (.cons (.sc _) (.nil)))) rfl) mn)
      · refine fa (wtG rfl rfl rfl h3) rfl ti51 rfl rfl ti31 rfl ?_
        refine ldB (v := .sc _) (wtG rfl rfl rfl h3) rfl rfl rfl ti31 rfl rfl ?_
        refine pu (v := .sc _) (wtG rfl rfl rfl h3) rfl (fun _ => rfl) ?_
        refine pkF (v := .sc (.bool (b.Hi != 0))) (wtG rfl rfl rfl h2) rfl h3 rfl ?_
        refine pkT (v := .sc (.bool (b.Hi != 0))) rfl rfl h2 rfl ?_
        refine pu (v := .sc _) rfl rfl (fun _ => rfl) ?_
        refine RunC.fin ?_
        have hR := Option.some.inj hR; subst hR
        exact Weak.turnL [(0, 0)] [] rfl rfl (tc (trP' rfl rfl rfl rfl) (tc (.sc _) tn)) (mc rfl (.box rfl (.cons (.sc _) (.cons (.sc _) (.cons (.sc _) (.nil)))) rfl) mn)
    · refine sk (skW rfl rfl rfl h2) ?_
      refine sk (skW rfl rfl rfl h2) ?_
      refine sk (skW rfl rfl rfl h2) ?_
      refine sk (skW rfl rfl rfl h2) ?_
      refine sk (skW2 rfl rfl rfl) ?_
      refine sk (skW2 rfl rfl rfl) ?_
      refine sk (skW2 rfl rfl rfl) ?_
      refine sk (skW rfl rfl rfl h2) ?_
      refine pkF (v := .sc (.bool false)) rfl rfl h2 rfl ?_
      refine pu (v := .sc _) rfl rfl (fun _ => rfl) ?_
      refine RunC.fin ?_
      have hR := Option.some.inj hR; subst hR
      exact Weak.turnL [(0, 0)] [] rfl rfl (tc (trP' rfl rfl rfl rfl) (tc (.sc _) tn)) (mc rfl (.box rfl (.cons (.sc _) (.cons (.sc _) (.cons (.sc _) (.nil)))) rfl) mn)
  · refine AWP.cd hR rfl (fun h4 hR => ?_) fun h4 hR => ?_
    · refine AWP.sq ?_
      refine AWP.rgC 5 rfl rfl ?_
      refine pu (v := .sc _) rfl rfl (fun _ => rfl) ?_
      refine RunC.fin ?_
      refine AWP.ret ?_
      refine rtB ?_
      refine rtT ?_
      have hR := Option.some.inj hR; subst hR
      exact hQ _ _ (LS.mk [(2, .sc (.int .i64 3))] (lblks 0 []) 0) (.sc (.int .i64 3)) [] (.inr rfl) (Weak.turnL [] [] rfl rfl (tc (.sc _) tn) mn) (ro1 (rvT (v := .sc (.int .i64 3)) rfl)) rfl rfl (.sc _) pn
    · refine AWP.joinX (fun z5 : Bool => LS.mk [(1, .ptr 0 0 0), (16, .sc (.bool z5))] (lblks 0 [boxB (α := Bound) true b]) 1) hR (fun o5 hR => ?_) fun z5 hR => ?_
      · refine AWP.rgC 61 rfl rfl ?_
        refine fa rfl rfl ti51 rfl rfl ti31 rfl ?_
        refine ldB (v := .sc _) rfl rfl rfl rfl ti31 rfl rfl ?_
        refine fa rfl rfl ti51 rfl rfl ti31 rfl ?_
        refine ldB (v := .sc _) rfl rfl rfl rfl ti31 rfl rfl ?_
        refine pu (v := .sc _) rfl rfl (fun _ => rfl) ?_
        refine pu (v := .sc _) rfl rfl (fun _ => rfl) ?_
        refine pu (v := .sc _) rfl rfl (fun _ => rfl) ?_
        refine brR hR (fun h6 hR => ?_) fun h6 hR => ?_
        · refine sk (skW rfl rfl rfl h6) ?_
          refine sk (skW rfl rfl rfl h6) ?_
          refine sk (skW rfl rfl rfl h6) ?_
          refine sk (skW rfl rfl rfl h6) ?_
          refine sk (skW rfl rfl rfl h6) ?_
          refine sk (skW rfl rfl rfl h6) ?_
          refine pkT (v := .sc (.bool true)) rfl rfl h6 rfl ?_
          refine pu (v := .sc _) rfl rfl (fun _ => rfl) ?_
          refine RunC.fin ?_
          have hR := Option.some.inj hR; subst hR
          exact Weak.turnL [(0, 0)] [] rfl rfl (tc (trP' rfl rfl rfl rfl) (tc (.sc _) tn)) (mc rfl (.box rfl (.cons (.sc _) (.cons (.sc _) (.cons (.sc _) (.nil)))) rfl) mn)
        · refine fa (wtG rfl rfl rfl h6) rfl ti51 rfl rfl ti31 rfl ?_
          refine ldB (v := .sc _) (wtG rfl rfl rfl h6) rfl rfl rfl ti31 rfl rfl ?_
          refine fa (wtG rfl rfl rfl h6) rfl ti51 rfl rfl ti31 rfl ?_
          refine ldB (v := .sc _) (wtG rfl rfl rfl h6) rfl rfl rfl ti31 rfl rfl ?_
          refine pu (v := .sc _) (wtG rfl rfl rfl h6) rfl (fun _ => rfl) ?_
          refine pu (v := .sc _) (wtG rfl rfl rfl h6) rfl (fun _ => rfl) ?_
          refine pkF (v := .sc (.bool (decide ((mx2 b.Lo b.Hi) > 1152921504606846976)))) rfl rfl h6 rfl ?_
          refine pu (v := .sc _) rfl rfl (fun _ => rfl) ?_
          refine RunC.fin ?_
          have hR := Option.some.inj hR; subst hR
          exact Weak.turnL [(0, 0)] [] rfl rfl (tc (trP' rfl rfl rfl rfl) (tc (.sc _) tn)) (mc rfl (.box rfl (.cons (.sc _) (.cons (.sc _) (.cons (.sc _) (.nil)))) rfl) mn)
      · refine AWP.cd hR rfl (fun h7 hR => ?_) fun h7 hR => ?_
        · refine AWP.sq ?_
          refine AWP.rgC 5 rfl rfl ?_
          refine pu (v := .sc _) rfl rfl (fun _ => rfl) ?_
          refine RunC.fin ?_
          refine AWP.ret ?_
          refine rtB ?_
          refine rtT ?_
          have hR := Option.some.inj hR; subst hR
          exact hQ _ _ (LS.mk [(2, .sc (.int .i64 4))] (lblks 0 []) 0) (.sc (.int .i64 4)) [] (.inr rfl) (Weak.turnL [] [] rfl rfl (tc (.sc _) tn) mn) (ro1 (rvT (v := .sc (.int .i64 4)) rfl)) rfl rfl (.sc _) pn
        · refine AWP.sq ?_
          refine AWP.rgC 25 rfl rfl ?_
          refine fa rfl rfl ti51 rfl rfl ti31 rfl ?_
          refine ldB (v := .sc _) rfl rfl rfl rfl ti31 rfl rfl ?_
          refine fa rfl rfl ti51 rfl rfl ti31 rfl ?_
          refine ldB (v := .sc _) rfl rfl rfl rfl ti31 rfl rfl ?_
          refine pu (v := .sc _) rfl rfl (fun _ => rfl) ?_
          refine pu (v := .sc _) rfl rfl (fun _ => rfl) ?_
          refine RunC.fin ?_
          refine AWP.cd hR rfl (fun h8 hR => ?_) fun h8 hR => ?_
          · refine AWP.sq ?_
            refine AWP.rgC 29 rfl rfl ?_
            refine pu (v := .sc _) rfl rfl (fun _ => rfl) ?_
            refine RunC.fin ?_
            refine AWP.ret ?_
            refine rtB ?_
            refine rtT ?_
            have hR := Option.some.inj hR; subst hR
            exact hQ _ _ (LS.mk [(2, .sc (.int .i64 11))] (lblks 0 []) 0) (.sc (.int .i64 11)) [] (.inr rfl) (Weak.turnL [] [] rfl rfl (tc (.sc _) tn) mn) (ro1 (rvT (v := .sc (.int .i64 11)) rfl)) rfl rfl (.sc _) pn
          · refine AWP.skip ?_
            refine skB ?_
            refine skT ?_
            refine AWP.sq ?_
            refine AWP.rgC 29 rfl rfl ?_
            refine pu (v := .sc _) rfl rfl (fun _ => rfl) ?_
            refine RunC.fin ?_
            refine AWP.ret ?_
            have hR := Option.some.inj hR; subst hR
            exact hQ _ _ (LS.mk [(2, .sc (.int .i64 0))] (lblks 0 []) 0) (.sc (.int .i64 0)) [] (.inr rfl) (Weak.turnL [] [] rfl rfl (tc (.sc _) tn) mn) (ro1 (rvT (v := .sc (.int .i64 0)) rfl)) rfl rfl (.sc _) pn
theorem ok23 (t : Bound) (period : Int) (phases : Int) (r : Int × Bool) (hR : curve_Phase t period phases = some r) : FnP Try.prog 23 [aggV false t, .sc (.int .i64 period), .sc (.int .i64 phases)] (.tup [.sc (.int .i64 r.1), .sc (.bool r.2)]) := by
  refine fnP_of (FnX.walk Try.func23 rfl 57 0 (by simp [Try.ntmps23]) rfl fun W S F Q hQ => ?_)
  unfold curve_Phase at hR
  refine AWP.sq ?_
  refine AWP.rgC 12 rfl rfl ?_
  refine bx (cs := _) 0 rfl rfl rfl ?_
  refine pu (v := .sc _) rfl rfl (fun _ => rfl) ?_
  refine pu (v := .sc _) rfl rfl (fun _ => rfl) ?_
  refine RunC.fin ?_
  refine AWP.sq ?_
  refine AWP.joinX (fun z1 : Bool => LS.mk [(1, .sc (.int .i64 period)), (2, .sc (.int .i64 phases)), (3, .ptr 0 0 0), (35, .sc (.bool z1))] (lblks 0 [boxB (α := Bound) true t]) 1) hR (fun o1 hR => ?_) fun z1 hR => ?_
  · refine AWP.rgC 112 rfl rfl ?_
    refine ldB (v := .agg _) rfl rfl rfl rfl ti51 rfl rfl ?_
    obtain ⟨r2, hr2, hR⟩ := bindE hR
    refine cls [] rfl rfl cb24 (ok24 t _ hr2) (.cons (.agg (.cons (.sc _) (.cons (.sc _) (.cons (.sc _) (.nil)))) rfl) (.nil)) (.inr rfl) rfl ?_
    refine pu (v := .sc _) rfl rfl (fun _ => rfl) ?_
    refine pu (v := .sc _) rfl rfl (fun _ => rfl) ?_
    refine brR hR (fun h3 hR => ?_) fun h3 hR => ?_
    · refine sk (skW rfl rfl rfl h3) ?_
      refine sk (skW rfl rfl rfl h3) ?_
      refine pkT (v := .sc (.bool true)) rfl rfl h3 rfl ?_
      refine pu (v := .sc _) rfl rfl (fun _ => rfl) ?_
      refine sk (skW rfl rfl rfl rfl) ?_
      refine sk (skW rfl rfl rfl rfl) ?_
      refine pkT (v := .sc (.bool true)) rfl rfl rfl rfl ?_
      refine pu (v := .sc _) rfl rfl (fun _ => rfl) ?_
      refine sk (skW rfl rfl rfl rfl) ?_
      refine sk (skW rfl rfl rfl rfl) ?_
      refine pkT (v := .sc (.bool true)) rfl rfl rfl rfl ?_
      refine pu (v := .sc _) rfl rfl (fun _ => rfl) ?_
      refine sk (skW rfl rfl rfl rfl) ?_
      refine sk (skW rfl rfl rfl rfl) ?_
      refine pkT (v := .sc (.bool true)) rfl rfl rfl rfl ?_
      refine pu (v := .sc _) rfl rfl (fun _ => rfl) ?_
      refine sk (skW rfl rfl rfl rfl) ?_
      refine sk (skW rfl rfl rfl rfl) ?_
      refine sk (skW rfl rfl rfl rfl) ?_
      refine sk (skW rfl rfl rfl rfl) ?_
      refine pkT (v := .sc (.bool true)) rfl rfl rfl rfl ?_
      refine RunC.fin ?_
      have hR := Option.some.inj hR; subst hR
      exact Weak.turnL [(0, 0)] [] rfl rfl (tc (.sc _) (tc (.sc _) (tc (trP' rfl rfl rfl rfl) (tc (.sc _) tn)))) (mc rfl (.box rfl (.cons (.sc _) (.cons (.sc _) (.cons (.sc _) (.nil)))) rfl) mn)
    · refine fa (wtG rfl rfl rfl h3) rfl ti51 rfl rfl ti4 rfl ?_
      refine ldB (v := .sc _) (wtG rfl rfl rfl h3) rfl rfl rfl ti4 rfl rfl ?_
      refine pkF (v := .sc (.bool t.Unknown)) rfl rfl h3 rfl ?_
      refine pu (v := .sc _) rfl rfl (fun _ => rfl) ?_
      refine brR hR (fun h4 hR => ?_) fun h4 hR => ?_
      · refine sk (skW rfl rfl rfl h4) ?_
        refine sk (skW rfl rfl rfl h4) ?_
        refine pkT (v := .sc (.bool true)) rfl rfl h4 rfl ?_
        refine pu (v := .sc _) rfl rfl (fun _ => rfl) ?_
        refine sk (skW rfl rfl rfl rfl) ?_
        refine sk (skW rfl rfl rfl rfl) ?_
        refine pkT (v := .sc (.bool true)) rfl rfl rfl rfl ?_
        refine pu (v := .sc _) rfl rfl (fun _ => rfl) ?_
        refine sk (skW rfl rfl rfl rfl) ?_
        refine sk (skW rfl rfl rfl rfl) ?_
        refine pkT (v := .sc (.bool true)) rfl rfl rfl rfl ?_
        refine pu (v := .sc _) rfl rfl (fun _ => rfl) ?_
        refine sk (skW rfl rfl rfl rfl) ?_
        refine sk (skW rfl rfl rfl rfl) ?_
        refine sk (skW rfl rfl rfl rfl) ?_
        refine sk (skW rfl rfl rfl rfl) ?_
        refine pkT (v := .sc (.bool true)) rfl rfl rfl rfl ?_
        refine RunC.fin ?_
        have hR := Option.some.inj hR; subst hR
        exact Weak.turnL [(0, 0)] [] rfl rfl (tc (.sc _) (tc (.sc _) (tc (trP' rfl rfl rfl rfl) (tc (.sc _) tn)))) (mc rfl (.box rfl (.cons (.sc _) (.cons (.sc _) (.cons (.sc _) (.nil)))) rfl) mn)
      · refine pu (v := .sc _) (wtG rfl rfl rfl h4) rfl (fun _ => rfl) ?_
        refine pu (v := .sc _) (wtG rfl rfl rfl h4) rfl (fun _ => rfl) ?_
        refine pkF (v := .sc (.bool (decide (phases < 1)))) rfl rfl h4 rfl ?_
        refine pu (v := .sc _) rfl rfl (fun _ => rfl) ?_
        refine brR hR (fun h5 hR => ?_) fun h5 hR => ?_
        · refine sk (skW rfl rfl rfl h5) ?_
          refine sk (skW rfl rfl rfl h5) ?_
          refine pkT (v := .sc (.bool true)) rfl rfl h5 rfl ?_
          refine pu (v := .sc _) rfl rfl (fun _ => rfl) ?_
          refine sk (skW rfl rfl rfl rfl) ?_
          refine sk (skW rfl rfl rfl rfl) ?_
          refine pkT (v := .sc (.bool true)) rfl rfl rfl rfl ?_
          refine pu (v := .sc _) rfl rfl (fun _ => rfl) ?_
          refine sk (skW rfl rfl rfl rfl) ?_
          refine sk (skW rfl rfl rfl rfl) ?_
          refine sk (skW rfl rfl rfl rfl) ?_
          refine sk (skW rfl rfl rfl rfl) ?_
          refine pkT (v := .sc (.bool true)) rfl rfl rfl rfl ?_
          refine RunC.fin ?_
          have hR := Option.some.inj hR; subst hR
          exact Weak.turnL [(0, 0)] [] rfl rfl (tc (.sc _) (tc (.sc _) (tc (trP' rfl rfl rfl rfl) (tc (.sc _) tn)))) (mc rfl (.box rfl (.cons (.sc _) (.cons (.sc _) (.cons (.sc _) (.nil)))) rfl) mn)
        · refine pu (v := .sc _) (wtG rfl rfl rfl h5) rfl (fun _ => rfl) ?_
          refine pu (v := .sc _) (wtG rfl rfl rfl h5) rfl (fun _ => rfl) ?_
          refine pkF (v := .sc (.bool (decide (phases > 16)))) rfl rfl h5 rfl ?_
          refine pu (v := .sc _) rfl rfl (fun _ => rfl) ?_
          refine brR hR (fun h6 hR => ?_) fun h6 hR => ?_
          · refine sk (skW rfl rfl rfl h6) ?_
            refine sk (skW rfl rfl rfl h6) ?_
            refine pkT (v := .sc (.bool true)) rfl rfl h6 rfl ?_
            refine pu (v := .sc _) rfl rfl (fun _ => rfl) ?_
            refine sk (skW rfl rfl rfl rfl) ?_
            refine sk (skW rfl rfl rfl rfl) ?_
            refine sk (skW rfl rfl rfl rfl) ?_
            refine sk (skW rfl rfl rfl rfl) ?_
            refine pkT (v := .sc (.bool true)) rfl rfl rfl rfl ?_
            refine RunC.fin ?_
            have hR := Option.some.inj hR; subst hR
            exact Weak.turnL [(0, 0)] [] rfl rfl (tc (.sc _) (tc (.sc _) (tc (trP' rfl rfl rfl rfl) (tc (.sc _) tn)))) (mc rfl (.box rfl (.cons (.sc _) (.cons (.sc _) (.cons (.sc _) (.nil)))) rfl) mn)
          · refine pu (v := .sc _) (wtG rfl rfl rfl h6) rfl (fun _ => rfl) ?_
            refine pu (v := .sc _) (wtG rfl rfl rfl h6) rfl (fun _ => rfl) ?_
            refine pkF (v := .sc (.bool (decide (period < 1)))) rfl rfl h6 rfl ?_
            refine pu (v := .sc _) rfl rfl (fun _ => rfl) ?_
            refine brR hR (fun h7 hR => ?_) fun h7 hR => ?_
            · refine sk (skW rfl rfl rfl h7) ?_
              refine sk (skW rfl rfl rfl h7) ?_
              refine sk (skW rfl rfl rfl h7) ?_
              refine sk (skW rfl rfl rfl h7) ?_
              refine pkT (v := .sc (.bool true)) rfl rfl h7 rfl ?_
              refine RunC.fin ?_
              have hR := Option.some.inj hR; subst hR
              exact Weak.turnL [(0, 0)] [] rfl rfl (tc (.sc _) (tc (.sc _) (tc (trP' rfl rfl rfl rfl) (tc (.sc _) tn)))) (mc rfl (.box rfl (.cons (.sc _) (.cons (.sc _) (.cons (.sc _) (.nil)))) rfl) mn)
            · refine pu (v := .sc _) (wtG rfl rfl rfl h7) rfl (fun _ => rfl) ?_
              refine pu (v := .sc _) (wtG rfl rfl rfl h7) rfl (fun _ => rfl) ?_
              obtain ⟨h8, hR⟩ := chkE hR
              refine rm (wtG rfl rfl rfl h7) rfl rfl h8 rfl ?_
              refine pu (v := .sc _) (wtG rfl rfl rfl h7) rfl (fun _ => rfl) ?_
              refine pkF (v := .sc (.bool ((Int.tmod period phases) != 0))) rfl rfl h7 rfl ?_
              refine RunC.fin ?_
              have hR := Option.some.inj hR; subst hR
              exact Weak.turnL [(0, 0)] [] rfl rfl (tc (.sc _) (tc (.sc _) (tc (trP' rfl rfl rfl rfl) (tc (.sc _) tn)))) (mc rfl (.box rfl (.cons (.sc _) (.cons (.sc _) (.cons (.sc _) (.nil)))) rfl) mn)
  · refine AWP.cd hR rfl (fun h9 hR => ?_) fun h9 hR => ?_
    · refine AWP.sq ?_
      refine AWP.rgC 9 rfl rfl ?_
      refine pu (v := .sc _) rfl rfl (fun _ => rfl) ?_
      refine pu (v := .sc _) rfl rfl (fun _ => rfl) ?_
      refine RunC.fin ?_
      refine AWP.ret ?_
      refine rtT ?_
      have hR := Option.some.inj hR; subst hR
      exact hQ _ _ (LS.mk [(6, .sc (.int .i64 0)), (7, .sc (.bool false))] (lblks 0 []) 0) (.tup [.sc (.int .i64 0), .sc (.bool false)]) [] (.inr rfl) (Weak.turnL [] [] rfl rfl (tc (.sc _) (tc (.sc _) tn)) mn) (ro2 (rvT (v := .sc (.int .i64 0)) rfl) (rvT (v := .sc (.bool false)) rfl)) rfl rfl (.tup (.cons (.sc _) (.cons (.sc _) .nil))) pn
    · refine AWP.skip ?_
      refine skT ?_
      refine AWP.sq ?_
      refine AWP.rgC 17 rfl rfl ?_
      refine pu (v := .sc _) rfl rfl (fun _ => rfl) ?_
      refine pu (v := .sc _) rfl rfl (fun _ => rfl) ?_
      obtain ⟨h10, hR⟩ := chkE hR
      refine qu rfl rfl rfl h10 rfl ?_
      refine pu (v := .sc _) rfl rfl (fun _ => rfl) ?_
      refine RunC.fin ?_
      refine AWP.sq ?_
      refine AWP.rgD 57 [0, 1, 0, 7, 0, 16, 0, 127, 255, 511] ⟨[], [none, some [0], none, none, none, some [0], none, none, none, none]⟩ hmix (by kernel_rfl) rfl rfl ?_
      refine fa rfl rfl ti51 rfl rfl ti31 rfl ?_
      refine ldB (v := .sc _) rfl rfl rfl rfl ti31 rfl rfl ?_
      refine pu (v := .sc _) rfl rfl (fun _ => rfl) ?_
      obtain ⟨r11, hr11, hR⟩ := bindE hR
      refine cls [] rfl rfl cb39 (ok39 t.Lo (w6 (Int.tdiv period phases)) _ hr11) (.cons (.sc _) (.cons (.sc _) (.nil))) (.inr rfl) rfl ?_
      refine fa rfl rfl ti51 rfl rfl ti31 rfl ?_
      refine ldB (v := .sc _) rfl rfl rfl rfl ti31 rfl rfl ?_
      refine pu (v := .sc _) rfl rfl (fun _ => rfl) ?_
      obtain ⟨r12, hr12, hR⟩ := bindE hR
      refine cls [] rfl rfl cb39 (ok39 t.Hi (w6 (Int.tdiv period phases)) _ hr12) (.cons (.sc _) (.cons (.sc _) (.nil))) (.inr rfl) rfl ?_
      refine pu (v := .sc _) rfl rfl (fun _ => rfl) ?_
      refine pu (v := .sc _) rfl rfl (fun _ => rfl) ?_
      refine RunC.fin ?_
      refine AWP.sq ?_
      refine AWP.joinX (fun z13 : Bool => LS.mk [(2, .sc (.int .i64 phases)), (9, .sc (.int .i64 r11)), (53, .sc (.bool z13))] (lblks 0 []) 0) hR (fun o13 hR => ?_) fun z13 hR => ?_
      · refine AWP.rgC 85 rfl rfl ?_
        refine pu (v := .sc _) rfl rfl (fun _ => rfl) ?_
        refine pu (v := .sc _) rfl rfl (fun _ => rfl) ?_
        refine pu (v := .sc _) rfl rfl (fun _ => rfl) ?_
        refine pu (v := .sc _) rfl rfl (fun _ => rfl) ?_
        refine brR hR (fun h14 hR => ?_) fun h14 hR => ?_
        · refine pu (v := .sc _) (wtG rfl rfl rfl h14) rfl (fun _ => rfl) ?_
          refine pu (v := .sc _) (wtG rfl rfl rfl h14) rfl (fun _ => rfl) ?_
          refine pkT (v := .sc (.bool (decide (phases > 1)))) rfl rfl h14 rfl ?_
          refine RunC.fin ?_
          have hR := Option.some.inj hR; subst hR
          exact Weak.turnL [] [] rfl rfl (tc (.sc _) (tc (.sc _) (tc (.sc _) tn))) mn
        · refine sk (skW rfl rfl rfl h14) ?_
          refine sk (skW rfl rfl rfl h14) ?_
          refine pkF (v := .sc (.bool false)) rfl rfl h14 rfl ?_
          refine RunC.fin ?_
          have hR := Option.some.inj hR; subst hR
          exact Weak.turnL [] [] rfl rfl (tc (.sc _) (tc (.sc _) (tc (.sc _) tn))) mn
      · refine AWP.cd hR rfl (fun h15 hR => ?_) fun h15 hR => ?_
        · refine AWP.sq ?_
          refine AWP.rgC 8 rfl rfl ?_
          refine pu (v := .sc _) rfl rfl (fun _ => rfl) ?_
          refine pu (v := .sc _) rfl rfl (fun _ => rfl) ?_
          refine RunC.fin ?_
          refine AWP.ret ?_
          refine rtT ?_
          have hR := Option.some.inj hR; subst hR
          exact hQ _ _ (LS.mk [(6, .sc (.int .i64 0)), (7, .sc (.bool false))] (lblks 0 []) 0) (.tup [.sc (.int .i64 0), .sc (.bool false)]) [] (.inr rfl) (Weak.turnL [] [] rfl rfl (tc (.sc _) (tc (.sc _) tn)) mn) (ro2 (rvT (v := .sc (.int .i64 0)) rfl) (rvT (v := .sc (.bool false)) rfl)) rfl rfl (.tup (.cons (.sc _) (.cons (.sc _) .nil))) pn
        · refine AWP.skip ?_
          refine skT ?_
          refine AWP.sq ?_
          refine AWP.rgC 20 rfl rfl ?_
          refine pu (v := .sc _) rfl rfl (fun _ => rfl) ?_
          refine pu (v := .sc _) rfl rfl (fun _ => rfl) ?_
          obtain ⟨r16, hr16, hR⟩ := bindE hR
          refine cls [] rfl rfl cb40 (ok40 r11 phases _ hr16) (.cons (.sc _) (.cons (.sc _) (.nil))) (.inr rfl) rfl ?_
          refine pu (v := .sc _) rfl rfl (fun _ => rfl) ?_
          refine pu (v := .sc _) rfl rfl (fun _ => rfl) ?_
          refine RunC.fin ?_
          refine AWP.ret ?_
          have hR := Option.some.inj hR; subst hR
          exact hQ _ _ (LS.mk [(6, .sc (.int .i64 r16)), (7, .sc (.bool true))] (lblks 0 []) 0) (.tup [.sc (.int .i64 r16), .sc (.bool true)]) [] (.inr rfl) (Weak.turnL [] [] rfl rfl (tc (.sc _) (tc (.sc _) tn)) mn) (ro2 (rvT (v := .sc (.int .i64 r16)) rfl) (rvT (v := .sc (.bool true)) rfl)) rfl rfl (.tup (.cons (.sc _) (.cons (.sc _) .nil))) pn
theorem ok22 (s : curve_Sample) (t : curve_Sample) (r : Int) (hR : curve_order s t = some r) : FnP Try.prog 22 [aggV false s, aggV false t] (.sc (.int .i64 r)) := by
  refine fnP_of (FnX.walk Try.func22 rfl 21 0 (by simp [Try.ntmps22]) rfl fun W S F Q hQ => ?_)
  unfold curve_order at hR
  refine AWP.sq ?_
  refine AWP.rgC 12 rfl rfl ?_
  refine bx (cs := _) 0 rfl rfl rfl ?_
  refine bx (cs := _) 4 rfl rfl rfl ?_
  refine pu (v := .sc _) rfl rfl (fun _ => rfl) ?_
  refine RunC.fin ?_
  refine AWP.sq ?_
  refine AWP.rgD 80 [0, 1, 3, 0, 8, 24, 63, 0, 128, 384, 0, 1024, 3072, 8191, 16383, 32767, 65535] ⟨[], [none, none, some [0], none, none, some [4], none, none, none, some [0], none, none, some [4], none, none, none, none]⟩ hmix (by kernel_rfl) rfl rfl ?_
  refine fa rfl rfl ti53 rfl rfl ti51 rfl ?_
  refine fa rfl rfl ti51 rfl rfl ti31 rfl ?_
  refine ldB (v := .sc _) rfl rfl rfl rfl ti31 rfl rfl ?_
  refine fa rfl rfl ti53 rfl rfl ti51 rfl ?_
  refine fa rfl rfl ti51 rfl rfl ti31 rfl ?_
  refine ldB (v := .sc _) rfl rfl rfl rfl ti31 rfl rfl ?_
  obtain ⟨r1, hr1, hR⟩ := bindE hR
  refine cls [] rfl rfl cb38 (ok38 s.At.Lo t.At.Lo _ hr1) (.cons (.sc _) (.cons (.sc _) (.nil))) (.inr rfl) rfl ?_
  refine fa rfl rfl ti53 rfl rfl ti51 rfl ?_
  refine fa rfl rfl ti51 rfl rfl ti31 rfl ?_
  refine ldB (v := .sc _) rfl rfl rfl rfl ti31 rfl rfl ?_
  refine fa rfl rfl ti53 rfl rfl ti51 rfl ?_
  refine fa rfl rfl ti51 rfl rfl ti31 rfl ?_
  refine ldB (v := .sc _) rfl rfl rfl rfl ti31 rfl rfl ?_
  obtain ⟨r2, hr2, hR⟩ := bindE hR
  refine cls [] rfl rfl cb38 (ok38 s.At.Hi t.At.Hi _ hr2) (.cons (.sc _) (.cons (.sc _) (.nil))) (.inr rfl) rfl ?_
  refine bs (α := Int) 68 true ([r1, r2] : List Int) rfl rfl ti22 rfl ti3 rfl rfl rfl rfl rfl ?_
  obtain ⟨r3, hr3, hR⟩ := bindE hR
  refine cls [68] rfl rfl cb37 (ok37 ([r1, r2] : List Int) _ hr3) (.cons (ldS' rfl rfl rfl rfl) (.nil)) (.inl (by first | rfl | exact freshR | exact freshA | (simp only [V.fresh, V.freshs, freshR, freshA, Bool.and_self]))) rfl ?_
  refine pu (v := .sc _) rfl rfl (fun _ => rfl) ?_
  refine RunC.fin ?_
  refine AWP.ret ?_
  have hR := Option.some.inj hR; subst hR
  exact hQ _ _ (LS.mk [(4, .sc (.int .i64 r3))] (lblks 0 []) 0) (.sc (.int .i64 r3)) [] (.inr rfl) (Weak.turnL [] [] rfl rfl (tc (.sc _) tn) mn) (ro1 (rvT (v := .sc (.int .i64 r3)) rfl)) rfl rfl (.sc _) pn
section
open Go.RowKit Go.Shelf Go.Lib Go.Proofs
def layg35_ren : Go.Shelf.Ren := ⟨fun | 4 => 35 | n => n, fun | 22 => 35 | 25 => 53 | 3 => 3 | 4 => 4 | 9 => 9 | 20 => 20 | 0 => 0 | n => n, fun | n => n⟩
theorem layg35 : Go.Proofs.Lays8.n4 Try.prog layg35_ren := {
  mixed := by kernel_rfl,
  f4 := ⟨Try.f35.name, by decide, Try.func35.trans (congrArg some (by kernel_rfl))⟩,
  t0 := Try.underlying0,
  a0 := Try.isAgg0,
  z0 := Try.sizeOf0,
  v0 := Try.zeroValue0,
  t3 := Try.underlying3,
  a3 := Try.isAgg3,
  z3 := Try.sizeOf3,
  v3 := Try.zeroValue3,
  t4 := Try.underlying4,
  a4 := Try.isAgg4,
  z4 := Try.sizeOf4,
  v4 := Try.zeroValue4,
  t9 := Try.underlying9,
  a9 := Try.isAgg9,
  z9 := Try.sizeOf9,
  v9 := Try.zeroValue9,
  t20 := Try.underlying20,
  a20 := Try.isAgg20,
  z20 := Try.sizeOf20,
  v20 := Try.zeroValue20,
  t22 := Try.underlying35,
  a22 := Try.isAgg35,
  z22 := Try.sizeOf35,
  v22 := Try.zeroValue35 }
theorem tiallg35 : ∃ i0 z, Try.prog.info? 53 = some i0 ∧ i0.zero = some z ∧ i0.size = 6 ∧ i0.bytes = 48 ∧ z.cells.size = 6 := by
  have h : (Try.prog.info? 53).map (fun i => (i.zero.map (fun z => z.cells.size), i.size, i.bytes)) = some (some 6, 6, 48) := by kernel_rfl
  cases e : Try.prog.info? 53 with
  | none => rw [e] at h; cases h
  | some i =>
    rw [e] at h
    simp only [Option.map_some, Option.some.injEq, Prod.mk.injEq] at h
    obtain ⟨h1, h2, h3⟩ := h
    obtain ⟨z, hz, hs⟩ := Option.map_eq_some_iff.1 h1
    exact ⟨i, z, rfl, hz, h2, h3, hs⟩
theorem ok35 (n : Int) (r : List curve_Sample) (hR : slices_Grow_curve_Sample n = some r) : FnD Try.prog 35 [] [.sc (.slice none 0 0), .sc (.int .i64 n)] (slV curve_Sample 0 0 0 r.length) [arrB (α := curve_Sample) 53 0 true r] := by
  unfold slices_Grow_curve_Sample at hR
  split at hR
  · rename_i h
    cases hR
    obtain ⟨k, rfl⟩ : ∃ k : Nat, n = k := ⟨n.toNat, by omega⟩
    refine fnD_grow _ fun w => ?_
    by_cases hk : k = 0
    · subst hk
      exact (Any8.slices_Grow_room layg35 none 0 0 0 w (by omega) (by omega) (by omega) (by omega)).mono fun _ _ h => .inl h
    · obtain ⟨i0, z, hi, hz0, hz1, hz2, hz3⟩ := tiallg35
      refine (Any8.slices_Grow_grow layg35 i0 z hi hz0 (by omega) none 0 0 k [] w (by omega) (by omega) (by rw [hz2]; omega) (by omega) (by simp) (fun _ => rfl) (fun a e => nomatch e)).mono ?_
      rintro e w' ⟨rfl, rfl⟩
      refine .inr ⟨_, _, rfl, rfl, ?_, grownCap_le_maxLen _ _ _ _ (by unfold maxLen; omega)⟩
      have ge := grownCap_ge w (0 + k) 0 53
      show _ = grownCap w (0 + k) 0 53 * 6
      generalize hg : grownCap w (0 + k) 0 53 = gc at ge
      have hg' : grownCap w (0 + k) 0 (layg35_ren.t 25) = gc := hg
      rw [hg']
      simp only [Array.size_append, List.size_toArray, List.length_nil, size_zeroCells, hz3]
      omega
  · cases hR
end

theorem ok20 (slices : List (List curve_Sample)) (r : (List curve_Sample)) (hR : slices_Concat_curve_Sample slices = some r) : FnP Try.prog 20 [rowV false slices] (rowV (α := curve_Sample) true r) := by
  refine fnP_of (FnX.walk Try.func20 rfl 36 0 (by simp [Try.ntmps20]) rfl fun W S F Q hQ => ?_)
  unfold slices_Concat_curve_Sample at hR
  refine AWP.sq ?_
  refine AWP.rgC 4 rfl rfl ?_
  refine pu (v := .sc _) rfl rfl (fun _ => rfl) ?_
  refine RunC.fin ?_
  refine AWP.sq ?_
  refine AWP.rgC 8 rfl rfl ?_
  refine pu (v := .sc _) rfl rfl (fun _ => rfl) ?_
  refine RunC.fin ?_
  refine AWP.sq ?_
  refine AWP.sq ?_
  refine AWP.rgC 20 rfl rfl ?_
  refine pu (v := rowV _ slices) rfl rfl (fun _ => rfl) ?_
  refine lenL (α := List curve_Sample) rfl rfl ti86 rfl ?_
  refine pu (v := .sc _) rfl rfl (fun _ => rfl) ?_
  refine RunC.fin ?_
  refine AWP.loopJ (fun s1 : Int × Int => LS.mk [(0, rowV (α := List curve_Sample) false slices), (3, .sc (.int .i64 s1.1)), (9, rowV (α := List curve_Sample) false slices), (10, .sc (.int .i64 (slices.length : Int))), (11, .sc (.int .i64 s1.2))] (lblks 0 []) 0) (fun z2 : Int => LS.mk [(0, rowV (α := List curve_Sample) false slices), (3, .sc (.int .i64 z2))] (lblks 0 []) 0) (slices_Concat_curve_Sample.l1 slices) hR (s0 := (0, 0)) (Weak.turnL [] [] rfl rfl (tc trR1 (tc (.sc _) (tc trR1 (tc (.sc _) (tc (.sc _) tn))))) mn) (fun s1 o1 hR => ?_) fun z2 hR => ?_
  · unfold slices_Concat_curve_Sample.l1 at hR
    refine AWP.sq ?_
    refine AWP.rgC 4 rfl rfl ?_
    refine pu (v := .sc _) rfl rfl (fun _ => rfl) ?_
    refine RunC.fin ?_
    refine AWP.sq ?_
    refine AWP.cd hR rfl (fun h3 hR => ?_) fun h3 hR => ?_
    · refine AWP.skip ?_
      refine skT ?_
      refine AWP.joinX (fun z4 : Unit => LS.mk [(0, rowV (α := List curve_Sample) false slices), (3, .sc (.int .i64 (w6 (s1.1 + ((gt slices s1.2).length : Int))))), (9, rowV (α := List curve_Sample) false slices), (10, .sc (.int .i64 (slices.length : Int))), (11, .sc (.int .i64 s1.2))] (lblks 0 []) 0) hR (fun o4 hR => ?_) fun z4 hR => ?_
      · refine AWP.block ?_
        refine AWP.sq ?_
        refine AWP.rgC 16 rfl rfl ?_
        obtain ⟨h5, hR⟩ := chkE hR
        refine ixL (α := List curve_Sample) rfl rfl rfl ti86 rfl ti35 rfl h5 ?_
        refine ldR (v := rowV _ (gt slices s1.2)) rfl rfl ti35 rfl ?_
        refine pu (v := rowV _ (gt slices s1.2)) rfl rfl (fun _ => rfl) ?_
        refine RunC.fin ?_
        refine AWP.sq ?_
        refine AWP.rgC 36 rfl rfl ?_
        refine pu (v := .sc _) rfl rfl (fun _ => rfl) ?_
        refine pu (v := rowV _ (gt slices s1.2)) rfl rfl (fun _ => rfl) ?_
        refine lenL (α := curve_Sample) rfl rfl ti35 rfl ?_
        refine pu (v := .sc _) rfl rfl (fun _ => rfl) ?_
        refine pu (v := .sc _) rfl rfl (fun _ => rfl) ?_
        refine RunC.fin ?_
        refine AWP.sq ?_
        refine AWP.rgC 44 rfl rfl ?_
        refine pu (v := .sc _) rfl rfl (fun _ => rfl) ?_
        refine pu (v := .sc _) rfl rfl (fun _ => rfl) ?_
        refine RunC.fin ?_
        refine AWP.cd hR rfl (fun h6 hR => ?_) fun h6 hR => ?_
        · cases hR
        · refine AWP.skip ?_
          refine skB ?_
          refine skT ?_
          have hR := Option.some.inj hR; subst hR
          exact Weak.turnL [] [] rfl rfl (tc trR1 (tc (.sc _) (tc trR1 (tc (.sc _) (tc (.sc _) tn))))) mn
      · refine AWP.rgC 8 rfl rfl ?_
        refine pu (v := .sc _) rfl rfl (fun _ => rfl) ?_
        refine pu (v := .sc _) rfl rfl (fun _ => rfl) ?_
        refine RunC.fin ?_
        refine ⟨(w6 (s1.1 + ((gt slices s1.2).length : Int)), w6 (s1.2 + 1)), (Option.some.inj hR).symm, ?_⟩
        exact Weak.turnL [] [] rfl rfl (tc trR1 (tc (.sc _) (tc trR1 (tc (.sc _) (tc (.sc _) tn))))) mn
    · refine AWP.exit ?_
      refine exT ?_
      refine exT ?_
      refine exH (skT ?_)
      refine ⟨s1.1, (Option.some.inj hR).symm, ?_⟩
      exact Weak.turnL [] [] rfl rfl (tc trR1 (tc (.sc _) tn)) mn
  · refine skT ?_
    refine AWP.sq ?_
    refine AWP.rgC 12 rfl rfl ?_
    refine pu (v := .sc _) rfl rfl (fun _ => rfl) ?_
    obtain ⟨r7, hr7, hR⟩ := bindE hR
    refine cpx (res' := slV curve_Sample 4 0 0 r7.length) (ups := [(4, arrB (α := curve_Sample) 53 0 true r7)]) [] 4 rfl rfl rfl cb35 (ok35 z2 _ hr7) (.cons (.sc _) (.cons (.sc _) (.nil))) pn rfl rfl rfl (by simp only [V.ren, V.rens, renS, renR, renA]; rfl) (by simp only [passUps, renBox, renArr]; rfl) ?_
    refine pu (v := slV curve_Sample _ _ _ _) rfl rfl (fun _ => rfl) ?_
    refine RunC.fin ?_
    refine AWP.sq ?_
    refine AWP.sq ?_
    refine AWP.rgC 24 rfl rfl ?_
    refine pu (v := rowV _ slices) rfl rfl (fun _ => rfl) ?_
    refine lenL (α := List curve_Sample) rfl rfl ti86 rfl ?_
    refine pu (v := .sc _) rfl rfl (fun _ => rfl) ?_
    refine RunC.fin ?_
    refine AWP.loopJ (fun s8 : (List curve_Sample) × Int => LS.mk [(6, slV curve_Sample 0 0 0 s8.1.length), (25, rowV (α := List curve_Sample) false slices), (26, .sc (.int .i64 (slices.length : Int))), (27, .sc (.int .i64 s8.2))] (lblks 0 [arrB (α := curve_Sample) 53 0 true s8.1]) 1) (fun z9 : (List curve_Sample) => LS.mk [(6, slV curve_Sample 0 0 0 z9.length)] (lblks 0 [arrB (α := curve_Sample) 53 0 true z9]) 1) (slices_Concat_curve_Sample.l2 slices) hR (s0 := (r7, 0)) (Weak.turnL [(4, 0)] [] rfl rfl (tc (trS' rfl rfl rfl rfl rfl) (tc trR1 (tc (.sc _) (tc (.sc _) tn)))) (mc rfl (btrA' rfl) mn)) (fun s8 o8 hR => ?_) fun z9 hR => ?_
    · unfold slices_Concat_curve_Sample.l2 at hR
      refine AWP.sq ?_
      refine AWP.rgC 5 rfl rfl ?_
      refine pu (v := .sc _) rfl rfl (fun _ => rfl) ?_
      refine RunC.fin ?_
      refine AWP.sq ?_
      refine AWP.cd hR rfl (fun h10 hR => ?_) fun h10 hR => ?_
      · refine AWP.skip ?_
        refine skT ?_
        refine AWP.sq ?_
        refine AWP.block ?_
        refine AWP.sq ?_
        refine AWP.rgC 17 rfl rfl ?_
        obtain ⟨h11, hR⟩ := chkE hR
        refine ixL (α := List curve_Sample) rfl rfl rfl ti86 rfl ti35 rfl h11 ?_
        refine ldR (v := rowV _ (gt slices s8.2)) rfl rfl ti35 rfl ?_
        refine pu (v := rowV _ (gt slices s8.2)) rfl rfl (fun _ => rfl) ?_
        refine RunC.fin ?_
        refine AWP.rgC 33 rfl rfl ?_
        refine pu (v := slV curve_Sample _ _ _ _) rfl rfl (fun _ => rfl) ?_
        refine pu (v := rowV _ (gt slices s8.2)) rfl rfl (fun _ => rfl) ?_
        obtain ⟨h12, hR⟩ := chkE hR
        refine ap' (α := curve_Sample) (nw := true) (xs := s8.1) (ys := (gt slices s8.2)) rfl rfl rfl rfl (srcR2 rfl (fun _ => rfl)) ti35 rfl ti53 rfl h12 rfl ?_
        refine pu (v := slV curve_Sample _ _ _ _) rfl rfl (fun _ => rfl) ?_
        refine RunC.blk ?_
        refine RunC.fin ?_
        refine AWP.rgC 41 rfl rfl ?_
        refine pu (v := .sc _) rfl rfl (fun _ => rfl) ?_
        refine pu (v := .sc _) rfl rfl (fun _ => rfl) ?_
        refine RunC.fin ?_
        refine ⟨(s8.1 ++ (gt slices s8.2), w6 (s8.2 + 1)), (Option.some.inj hR).symm, ?_⟩
        exact Weak.turnL [(0, 0)] [] rfl rfl (tc (trS' rfl rfl rfl rfl rfl) (tc trR1 (tc (.sc _) (tc (.sc _) tn)))) (mc rfl (btrA' rfl) mn)
      · refine AWP.exit ?_
        refine exT ?_
        refine exT ?_
        refine exH (skT ?_)
        refine ⟨s8.1, (Option.some.inj hR).symm, ?_⟩
        exact Weak.turnL [(0, 0)] [] rfl rfl (tc (trS' rfl rfl rfl rfl rfl) tn) (mc rfl (btrA' rfl) mn)
    · refine skT ?_
      refine AWP.sq ?_
      refine AWP.rgC 9 rfl rfl ?_
      refine pu (v := slV curve_Sample _ _ _ _) rfl rfl (fun _ => rfl) ?_
      refine pu (v := slV curve_Sample _ _ _ _) rfl rfl (fun _ => rfl) ?_
      refine RunC.fin ?_
      refine AWP.ret ?_
      have hR := Option.some.inj hR; subst hR
      exact hQ _ _ (LS.mk [(2, rowV (α := curve_Sample) true z9)] (lblks 0 []) 0) (rowV (α := curve_Sample) true z9) [] (.inr rfl) (Weak.turnL [] [0] rfl rfl (tc (trF' rfl rfl id rfl) tn) mn) (ro1 (rvT (v := rowV (α := curve_Sample) true z9) rfl)) rfl rfl ldR' pn
theorem ok19 (vals : List Int) (r : Int) (hR : cmp_Or vals = some r) : FnP Try.prog 19 [rowV false vals] (.sc (.int .i64 r)) := by
  refine fnP_of (FnX.walk Try.func19 rfl 18 0 (by simp [Try.ntmps19]) rfl fun W S F Q hQ => ?_)
  unfold cmp_Or at hR
  refine AWP.sq ?_
  refine AWP.rgC 4 rfl rfl ?_
  refine pu (v := .sc _) rfl rfl (fun _ => rfl) ?_
  refine RunC.fin ?_
  refine AWP.sq ?_
  refine AWP.rgC 8 rfl rfl ?_
  refine pu (v := .sc _) rfl rfl (fun _ => rfl) ?_
  refine RunC.fin ?_
  refine AWP.sq ?_
  refine AWP.sq ?_
  refine AWP.rgC 20 rfl rfl ?_
  refine pu (v := rowV _ vals) rfl rfl (fun _ => rfl) ?_
  refine lenL (α := Int) rfl rfl ti85 rfl ?_
  refine pu (v := .sc _) rfl rfl (fun _ => rfl) ?_
  refine RunC.fin ?_
  refine AWP.loopK' (fun s1 : Int => LS.mk [(3, .sc (.int .i64 0)), (6, rowV (α := Int) false vals), (7, .sc (.int .i64 (vals.length : Int))), (8, .sc (.int .i64 s1))] (lblks 0 []) 0) (fun z2 : Unit => LS.mk [(3, .sc (.int .i64 0))] (lblks 0 []) 0) (cmp_Or.l1 vals) hR (s0 := 0) (Weak.turnL [] [] rfl rfl (tc (.sc _) (tc trR1 (tc (.sc _) (tc (.sc _) tn)))) mn) (fun s1 o1 hR hE1 => ?_) fun z2 hR => ?_
  · unfold cmp_Or.l1 at hR
    refine AWP.sq ?_
    refine AWP.rgC 4 rfl rfl ?_
    refine pu (v := .sc _) rfl rfl (fun _ => rfl) ?_
    refine RunC.fin ?_
    refine AWP.sq ?_
    refine AWP.cd hR rfl (fun h3 hR => ?_) fun h3 hR => ?_
    · refine AWP.skip ?_
      refine skT ?_
      refine AWP.sq ?_
      refine AWP.block ?_
      refine AWP.sq ?_
      refine AWP.rgC 16 rfl rfl ?_
      obtain ⟨h4, hR⟩ := chkE hR
      refine ixL (α := Int) rfl rfl rfl ti85 rfl ti38 rfl h4 ?_
      refine ldR (v := .sc _) rfl rfl ti38 rfl ?_
      refine pu (v := .sc _) rfl rfl (fun _ => rfl) ?_
      refine RunC.fin ?_
      refine AWP.sq ?_
      refine AWP.rgC 28 rfl rfl ?_
      refine pu (v := .sc _) rfl rfl (fun _ => rfl) ?_
      refine pu (v := .sc _) rfl rfl (fun _ => rfl) ?_
      refine pu (v := .sc _) rfl rfl (fun _ => rfl) ?_
      refine RunC.fin ?_
      refine AWP.cd hR rfl (fun h5 hR => ?_) fun h5 hR => ?_
      · refine AWP.sq ?_
        refine AWP.rgC 36 rfl rfl ?_
        refine pu (v := .sc _) rfl rfl (fun _ => rfl) ?_
        refine pu (v := .sc _) rfl rfl (fun _ => rfl) ?_
        refine RunC.fin ?_
        refine AWP.ret ?_
        refine rtB ?_
        refine rtT ?_
        refine rtT ?_
        refine rtB (rtT ?_)
        replace hR := escL hR hE1
        refine rtT ?_
        have hR := Option.some.inj hR; subst hR
        exact hQ _ _ (LS.mk [(2, .sc (.int .i64 (gt vals s1)))] (lblks 0 []) 0) (.sc (.int .i64 (gt vals s1))) [] (.inr rfl) (Weak.turnL [] [] rfl rfl (tc (.sc _) tn) mn) (ro1 (rvT (v := .sc (.int .i64 (gt vals s1))) rfl)) rfl rfl (.sc _) pn
      · refine AWP.skip ?_
        refine skB ?_
        refine skT ?_
        refine AWP.rgC 36 rfl rfl ?_
        refine pu (v := .sc _) rfl rfl (fun _ => rfl) ?_
        refine pu (v := .sc _) rfl rfl (fun _ => rfl) ?_
        refine RunC.fin ?_
        refine ⟨(w6 (s1 + 1)), (Option.some.inj hR).symm, ?_⟩
        exact Weak.turnL [] [] rfl rfl (tc (.sc _) (tc trR1 (tc (.sc _) (tc (.sc _) tn)))) mn
    · refine AWP.exit ?_
      refine exT ?_
      refine exT ?_
      refine exH (skT ?_)
      refine ⟨(), (Option.some.inj hR).symm, ?_⟩
      exact Weak.turnL [] [] rfl rfl (tc (.sc _) tn) mn
  · refine skT ?_
    refine AWP.sq ?_
    refine AWP.rgC 8 rfl rfl ?_
    refine pu (v := .sc _) rfl rfl (fun _ => rfl) ?_
    refine pu (v := .sc _) rfl rfl (fun _ => rfl) ?_
    refine RunC.fin ?_
    refine AWP.ret ?_
    have hR := Option.some.inj hR; subst hR
    exact hQ _ _ (LS.mk [(2, .sc (.int .i64 0))] (lblks 0 []) 0) (.sc (.int .i64 0)) [] (.inr rfl) (Weak.turnL [] [] rfl rfl (tc (.sc _) tn) mn) (ro1 (rvT (v := .sc (.int .i64 0)) rfl)) rfl rfl (.sc _) pn
theorem ok18 (a : curve_Sample) (b : curve_Sample) (r : Int) (hR : spykeep4_samples_1 a b = some r) : FnP Try.prog 18 [aggV false a, aggV false b] (.sc (.int .i64 r)) := by
  refine fnP_of (FnX.walk Try.func18 rfl 26 0 (by simp [Try.ntmps18]) rfl fun W S F Q hQ => ?_)
  unfold spykeep4_samples_1 at hR
  refine AWP.sq ?_
  refine AWP.rgC 12 rfl rfl ?_
  refine bx (cs := _) 0 rfl rfl rfl ?_
  refine bx (cs := _) 4 rfl rfl rfl ?_
  refine pu (v := .sc _) rfl rfl (fun _ => rfl) ?_
  refine RunC.fin ?_
  refine AWP.sq ?_
  refine AWP.sq ?_
  refine AWP.rgC 40 rfl rfl ?_
  refine fa rfl rfl ti53 rfl rfl ti51 rfl ?_
  refine fa rfl rfl ti51 rfl rfl ti31 rfl ?_
  refine ldB (v := .sc _) rfl rfl rfl rfl ti31 rfl rfl ?_
  refine fa rfl rfl ti53 rfl rfl ti51 rfl ?_
  refine fa rfl rfl ti51 rfl rfl ti31 rfl ?_
  refine ldB (v := .sc _) rfl rfl rfl rfl ti31 rfl rfl ?_
  refine pu (v := .sc _) rfl rfl (fun _ => rfl) ?_
  refine RunC.fin ?_
  refine AWP.cd hR rfl (fun h1 hR => ?_) fun h1 hR => ?_
  · refine AWP.sq ?_
    refine AWP.rgC 72 rfl rfl ?_
    refine fa rfl rfl ti53 rfl rfl ti51 rfl ?_
    refine fa rfl rfl ti51 rfl rfl ti31 rfl ?_
    refine ldB (v := .sc _) rfl rfl rfl rfl ti31 rfl rfl ?_
    refine fa rfl rfl ti53 rfl rfl ti51 rfl ?_
    refine fa rfl rfl ti51 rfl rfl ti31 rfl ?_
    refine ldB (v := .sc _) rfl rfl rfl rfl ti31 rfl rfl ?_
    refine pu (v := .sc _) rfl rfl (fun _ => rfl) ?_
    refine pu (v := .sc _) rfl rfl (fun _ => rfl) ?_
    refine RunC.fin ?_
    refine AWP.ret ?_
    refine rtT ?_
    have hR := Option.some.inj hR; subst hR
    exact hQ _ _ (LS.mk [(4, .sc (.int .i64 (w6 (a.At.Lo - b.At.Lo))))] (lblks 0 []) 0) (.sc (.int .i64 (w6 (a.At.Lo - b.At.Lo)))) [] (.inr rfl) (Weak.turnL [] [] rfl rfl (tc (.sc _) tn) mn) (ro1 (rvT (v := .sc (.int .i64 (w6 (a.At.Lo - b.At.Lo)))) rfl)) rfl rfl (.sc _) pn
  · refine AWP.skip ?_
    refine skT ?_
    refine AWP.sq ?_
    refine AWP.rgC 72 rfl rfl ?_
    refine fa rfl rfl ti53 rfl rfl ti51 rfl ?_
    refine fa rfl rfl ti51 rfl rfl ti31 rfl ?_
    refine ldB (v := .sc _) rfl rfl rfl rfl ti31 rfl rfl ?_
    refine fa rfl rfl ti53 rfl rfl ti51 rfl ?_
    refine fa rfl rfl ti51 rfl rfl ti31 rfl ?_
    refine ldB (v := .sc _) rfl rfl rfl rfl ti31 rfl rfl ?_
    refine pu (v := .sc _) rfl rfl (fun _ => rfl) ?_
    refine pu (v := .sc _) rfl rfl (fun _ => rfl) ?_
    refine RunC.fin ?_
    refine AWP.ret ?_
    have hR := Option.some.inj hR; subst hR
    exact hQ _ _ (LS.mk [(4, .sc (.int .i64 (w6 (a.At.Hi - b.At.Hi))))] (lblks 0 []) 0) (.sc (.int .i64 (w6 (a.At.Hi - b.At.Hi)))) [] (.inr rfl) (Weak.turnL [] [] rfl rfl (tc (.sc _) tn) mn) (ro1 (rvT (v := .sc (.int .i64 (w6 (a.At.Hi - b.At.Hi)))) rfl)) rfl rfl (.sc _) pn
end Go.Proofs.Cum
