/- Each function of the program computes its plain function. Conditions: as each theorem states them. -/
import Derived.Test.YtggemcpmifdfiaaT
import Derived.Test.YtggemcpmifdfiaaP1
namespace Go.Proofs.Idt
open Go Go.Abs Lf
set_option linter.unusedVariables false
set_option linter.unusedSimpArgs false
set_option maxRecDepth 100000
set_option maxHeartbeats 1000000
theorem ok10 (b : Body) (t : Bound) (r : (Bound × Bound × Bound) × Bool) (hR : identify_Path b t = some r) : FnP Try.prog 10 [aggV false b, aggV false t] (.tup [aggV (α := Bound × Bound × Bound) true r.1, .sc (.bool r.2)]) := by
  refine fnP_of (FnX.walk Try.func10 rfl 85 0 (by simp [Try.ntmps10]) rfl fun W S F Q hQ => ?_)
  unfold identify_Path at hR
  refine AWP.sq ?_
  refine AWP.rgC 16 rfl rfl ?_
  refine bx (cs := _) 0 rfl rfl rfl ?_
  refine bx (cs := _) 4 rfl rfl rfl ?_
  refine al (cs := [.sc (.int .i64 0), .sc (.int .i64 0), .sc (.bool false), .sc (.int .i64 0), .sc (.int .i64 0), .sc (.bool false), .sc (.int .i64 0), .sc (.int .i64 0), .sc (.bool false)]) 8 rfl rfl ti46 rfl rfl ?_
  refine pu (v := .sc _) rfl rfl (fun _ => rfl) ?_
  refine RunC.fin ?_
  refine AWP.sq ?_
  refine AWP.joinX (fun z1 : Bool => LS.mk [(2, .ptr 0 0 0), (3, .ptr 1 0 0), (4, .ptr 2 0 0), (29, .sc (.bool z1))] (lblks 0 [boxB (α := Body) true b, boxB (α := Bound) true t, boxB (α := Bound × Bound × Bound) true (Bound.mk 0 0 false, Bound.mk 0 0 false, Bound.mk 0 0 false)]) 3) hR (fun o1 hR => ?_) fun z1 hR => ?_
  · refine AWP.rgC 76 rfl rfl ?_
    refine ldB (v := .agg _) rfl rfl rfl rfl ti38 rfl rfl ?_
    obtain ⟨r2, hr2, hR⟩ := bindE hR
    refine cls [] rfl rfl cb25 (ok25 t _ hr2) (.cons (.agg (.cons (.sc _) (.cons (.sc _) (.cons (.sc _) (.nil)))) rfl) (.nil)) (.inr rfl) rfl ?_
    refine pu (v := .sc _) rfl rfl (fun _ => rfl) ?_
    refine pu (v := .sc _) rfl rfl (fun _ => rfl) ?_
    refine brR hR (fun h3 hR => ?_) fun h3 hR => ?_
    · refine sk (skW rfl rfl rfl h3) ?_
      refine sk (skW rfl rfl rfl h3) ?_
      refine pkT (v := .sc (.bool true)) rfl rfl h3 rfl ?_
      refine pu (v := .sc _) rfl rfl (fun _ => rfl) ?_
      refine sk (skW rfl rfl rfl rfl) ?_
      refine sk (skW rfl rfl rfl rfl) ?_
      refine sk (skW rfl rfl rfl rfl) ?_
      refine sk (skW rfl rfl rfl rfl) ?_
      refine sk (skW rfl rfl rfl rfl) ?_
      refine sk (skW rfl rfl rfl rfl) ?_
      refine pkT (v := .sc (.bool true)) rfl rfl rfl rfl ?_
      refine RunC.fin ?_
      have hR := Option.some.inj hR; subst hR
      exact Weak.turnL [(0, 0), (4, 0), (8, 0)] [] rfl rfl (tc (trP' rfl rfl rfl rfl) (tc (trP' rfl rfl rfl rfl) (tc (trP' rfl rfl rfl rfl) (tc (.sc _) tn)))) (mc rfl (.box rfl (.cons (.sc _) (.cons (.sc _) (.cons (.sc _) (.cons (.sc _) (.cons (.sc _) (.cons (.sc _) (.cons (.sc _) (.cons (.sc _) (.nil))))))))) rfl) (mc rfl (.box rfl (.cons (.sc _) (.cons (.sc _) (.cons (.sc _) (.nil)))) rfl) (mc rfl (.box rfl (.cons (.sc _) (.cons (.sc _) (.cons (.sc _) (.cons (.sc _) (.cons (.sc _) (.cons (.sc _) (.cons (.sc _) (.cons (.sc _) (.cons (.sc _) (.nil)))))))))) rfl) mn)))
    · refine fa (wtG rfl rfl rfl h3) rfl ti38 rfl rfl ti4 rfl ?_
      refine ldB (v := .sc _) (wtG rfl rfl rfl h3) rfl rfl rfl ti4 rfl rfl ?_
      refine pkF (v := .sc (.bool t.Unknown)) rfl rfl h3 rfl ?_
      refine pu (v := .sc _) rfl rfl (fun _ => rfl) ?_
      refine brR hR (fun h4 hR => ?_) fun h4 hR => ?_
      · refine sk (skW rfl rfl rfl h4) ?_
        refine sk (skW rfl rfl rfl h4) ?_
        refine sk (skW rfl rfl rfl h4) ?_
        refine sk (skW rfl rfl rfl h4) ?_
        refine sk (skW rfl rfl rfl h4) ?_
        refine sk (skW rfl rfl rfl h4) ?_
        refine pkT (v := .sc (.bool true)) rfl rfl h4 rfl ?_
        refine RunC.fin ?_
        have hR := Option.some.inj hR; subst hR
        exact Weak.turnL [(0, 0), (4, 0), (8, 0)] [] rfl rfl (tc (trP' rfl rfl rfl rfl) (tc (trP' rfl rfl rfl rfl) (tc (trP' rfl rfl rfl rfl) (tc (.sc _) tn)))) (mc rfl (.box rfl (.cons (.sc _) (.cons (.sc _) (.cons (.sc _) (.cons (.sc _) (.cons (.sc _) (.cons (.sc _) (.cons (.sc _) (.cons (.sc _) (.nil))))))))) rfl) (mc rfl (.box rfl (.cons (.sc _) (.cons (.sc _) (.cons (.sc _) (.nil)))) rfl) (mc rfl (.box rfl (.cons (.sc _) (.cons (.sc _) (.cons (.sc _) (.cons (.sc _) (.cons (.sc _) (.cons (.sc _) (.cons (.sc _) (.cons (.sc _) (.cons (.sc _) (.nil)))))))))) rfl) mn)))
      · refine fa (wtG rfl rfl rfl h4) rfl ti38 rfl rfl ti36 rfl ?_
        refine ldB (v := .sc _) (wtG rfl rfl rfl h4) rfl rfl rfl ti36 rfl rfl ?_
        refine fa (wtG rfl rfl rfl h4) rfl ti38 rfl rfl ti36 rfl ?_
        refine ldB (v := .sc _) (wtG rfl rfl rfl h4) rfl rfl rfl ti36 rfl rfl ?_
        refine pu (v := .sc _) (wtG rfl rfl rfl h4) rfl (fun _ => rfl) ?_
        refine pu (v := .sc _) (wtG rfl rfl rfl h4) rfl (fun _ => rfl) ?_
        refine pkF (v := .sc (.bool (decide ((w6 (t.Hi - t.Lo)) > 86400000)))) rfl rfl h4 rfl ?_
        refine RunC.fin ?_
        have hR := Option.some.inj hR; subst hR
        exact Weak.turnL [(0, 0), (4, 0), (8, 0)] [] rfl rfl (tc (trP' rfl rfl rfl rfl) (tc (trP' rfl rfl rfl rfl) (tc (trP' rfl rfl rfl rfl) (tc (.sc _) tn)))) (mc rfl (.box rfl (.cons (.sc _) (.cons (.sc _) (.cons (.sc _) (.cons (.sc _) (.cons (.sc _) (.cons (.sc _) (.cons (.sc _) (.cons (.sc _) (.nil))))))))) rfl) (mc rfl (.box rfl (.cons (.sc _) (.cons (.sc _) (.cons (.sc _) (.nil)))) rfl) (mc rfl (.box rfl (.cons (.sc _) (.cons (.sc _) (.cons (.sc _) (.cons (.sc _) (.cons (.sc _) (.cons (.sc _) (.cons (.sc _) (.cons (.sc _) (.cons (.sc _) (.nil)))))))))) rfl) mn)))
  · refine AWP.cd hR rfl (fun h5 hR => ?_) fun h5 hR => ?_
    · refine AWP.sq ?_
      refine AWP.rgC 15 rfl rfl ?_
      refine buA (cs := [.sc (.int .i64 0), .sc (.int .i64 0), .sc (.bool false), .sc (.int .i64 0), .sc (.int .i64 0), .sc (.bool false), .sc (.int .i64 0), .sc (.int .i64 0), .sc (.bool false)]) rfl ti46 rfl ti44 rfl rfl ?_
      refine stB (cs' := [.sc (.int .i64 0), .sc (.int .i64 0), .sc (.bool false), .sc (.int .i64 0), .sc (.int .i64 0), .sc (.bool false), .sc (.int .i64 0), .sc (.int .i64 0), .sc (.bool false)]) rfl rfl rfl rfl ti46 rfl rfl rfl rfl rfl ?_
      refine pu (v := .sc _) rfl rfl (fun _ => rfl) ?_
      refine RunC.fin ?_
      refine AWP.ret ?_
      refine rtT ?_
      have hR := Option.some.inj hR; subst hR
      exact hQ _ _ (LS.mk [(4, .ptr 0 0 0), (5, .sc (.bool false))] (lblks 0 [boxB (α := Bound × Bound × Bound) true (Bound.mk 0 0 false, Bound.mk 0 0 false, Bound.mk 0 0 false)]) 1) (.tup [aggV (α := Bound × Bound × Bound) true (Bound.mk 0 0 false, Bound.mk 0 0 false, Bound.mk 0 0 false), .sc (.bool false)]) [] (.inr rfl) (Weak.turnL [(2, 0)] [] rfl rfl (tc (trP' rfl rfl rfl rfl) (tc (.sc _) tn)) (mc rfl (.box rfl (.cons (.sc _) (.cons (.sc _) (.cons (.sc _) (.cons (.sc _) (.cons (.sc _) (.cons (.sc _) (.cons (.sc _) (.cons (.sc _) (.cons (.sc _) (.nil)))))))))) rfl) mn)) (ro2 (rvC (v := aggV (α := Bound × Bound × Bound) true (Bound.mk 0 0 false, Bound.mk 0 0 false, Bound.mk 0 0 false)) rfl rfl ti46 rfl) (rvT (v := .sc (.bool false)) rfl)) rfl rfl (.tup (.cons ldA (.cons (.sc _) .nil))) pn
    · refine AWP.skip ?_
      refine skT ?_
      refine AWP.sq ?_
      refine AWP.rgC 27 rfl rfl ?_
      refine fa rfl rfl ti38 rfl rfl ti36 rfl ?_
      refine ldB (v := .sc _) rfl rfl rfl rfl ti36 rfl rfl ?_
      refine fa rfl rfl ti38 rfl rfl ti36 rfl ?_
      refine ldB (v := .sc _) rfl rfl rfl rfl ti36 rfl rfl ?_
      refine bs (α := Int) 19 true ([t.Lo, t.Hi] : List Int) rfl rfl ti73 rfl ti36 rfl rfl rfl rfl rfl ?_
      refine pu (v := slV Int _ _ _ _) rfl rfl (fun _ => rfl) ?_
      refine RunC.fin ?_
      refine AWP.sq ?_
      refine AWP.sq ?_
      refine AWP.rgC 47 rfl rfl ?_
      refine fa rfl rfl ti38 rfl rfl ti36 rfl ?_
      refine ldB (v := .sc _) rfl rfl rfl rfl ti36 rfl rfl ?_
      obtain ⟨r6, hr6, hR⟩ := bindE hR
      refine cls [] rfl rfl cb26 (ok26 t.Lo 86400000 _ hr6) (.cons (.sc _) (.cons (.sc _) (.nil))) (.inr rfl) rfl ?_
      refine pu (v := .sc _) rfl rfl (fun _ => rfl) ?_
      refine pu (v := .sc _) rfl rfl (fun _ => rfl) ?_
      refine RunC.fin ?_
      refine AWP.sq ?_
      refine AWP.rgC 63 rfl rfl ?_
      refine pu (v := .sc _) rfl rfl (fun _ => rfl) ?_
      refine fa rfl rfl ti38 rfl rfl ti36 rfl ?_
      refine ldB (v := .sc _) rfl rfl rfl rfl ti36 rfl rfl ?_
      refine pu (v := .sc _) rfl rfl (fun _ => rfl) ?_
      refine RunC.fin ?_
      refine AWP.cd hR rfl (fun h7 hR => ?_) fun h7 hR => ?_
      · refine AWP.rgC 83 rfl rfl ?_
        refine pu (v := slV Int _ _ _ _) rfl rfl (fun _ => rfl) ?_
        refine pu (v := .sc _) rfl rfl (fun _ => rfl) ?_
        refine bs (α := Int) 71 true ([w6 (r6 * 86400000)] : List Int) rfl rfl ti73 rfl ti36 rfl rfl rfl rfl rfl ?_
        obtain ⟨h8, hR⟩ := chkE hR
        refine ap' (α := Int) (nw := true) (xs := ([t.Lo, t.Hi] : List Int)) (ys := ([w6 (r6 * 86400000)] : List Int)) rfl rfl rfl rfl (srcS' rfl rfl rfl) ti73 rfl ti36 rfl h8 rfl ?_
        refine pu (v := slV Int _ _ _ _) rfl rfl (fun _ => rfl) ?_
        refine RunC.fin ?_
        refine AWP.sq ?_
        refine AWP.rgC 87 rfl rfl ?_
        refine al (cs := [.sc (.int .i64 0), .sc (.int .i64 0), .sc (.bool false), .sc (.int .i64 0), .sc (.int .i64 0), .sc (.bool false), .sc (.int .i64 0), .sc (.int .i64 0), .sc (.bool false)]) 83 rfl rfl ti46 rfl rfl ?_
        refine RunC.fin ?_
        refine AWP.sq ?_
        refine AWP.sq ?_
        refine AWP.rgC 99 rfl rfl ?_
        refine pu (v := slV Int _ _ _ _) rfl rfl (fun _ => rfl) ?_
        refine lenS (α := Int) rfl rfl ti73 rfl ?_
        refine pu (v := .sc _) rfl rfl (fun _ => rfl) ?_
        refine RunC.fin ?_
        refine AWP.loopK' (fun s9 : (Bound × Bound × Bound) × Int => LS.mk [(2, .ptr 0 0 0), (4, .ptr 1 0 0), (8, .ptr 2 0 0), (48, slV Int 3 0 0 (([t.Lo, t.Hi] : List Int) ++ ([w6 (r6 * 86400000)] : List Int)).length), (49, .sc (.int .i64 ((([t.Lo, t.Hi] : List Int) ++ ([w6 (r6 * 86400000)] : List Int)).length : Int))), (50, .sc (.int .i64 s9.2))] (lblks 0 [boxB (α := Body) true b, boxB (α := Bound × Bound × Bound) true (Bound.mk 0 0 false, Bound.mk 0 0 false, Bound.mk 0 0 false), boxB (α := Bound × Bound × Bound) true s9.1, arrB (α := Int) 36 0 true (([t.Lo, t.Hi] : List Int) ++ ([w6 (r6 * 86400000)] : List Int))]) 4) (fun z10 : (Bound × Bound × Bound) => LS.mk [(4, .ptr 0 0 0), (8, .ptr 1 0 0)] (lblks 0 [boxB (α := Bound × Bound × Bound) true (Bound.mk 0 0 false, Bound.mk 0 0 false, Bound.mk 0 0 false), boxB (α := Bound × Bound × Bound) true z10]) 2) (identify_Path.l1 b t r6) hR (s0 := ((Bound.mk 0 0 false, Bound.mk 0 0 false, Bound.mk 0 0 false), 0)) (Weak.turnL [(0, 0), (2, 0), (83, 0), (19, 0)] [] rfl rfl (tc (trP' rfl rfl rfl rfl) (tc (trP' rfl rfl rfl rfl) (tc (trP' rfl rfl rfl rfl) (tc (trS' rfl rfl rfl rfl rfl) (tc (.sc _) (tc (.sc _) tn)))))) (mc rfl (.box rfl (.cons (.sc _) (.cons (.sc _) (.cons (.sc _) (.cons (.sc _) (.cons (.sc _) (.cons (.sc _) (.cons (.sc _) (.cons (.sc _) (.nil))))))))) rfl) (mc rfl (.box rfl (.cons (.sc _) (.cons (.sc _) (.cons (.sc _) (.cons (.sc _) (.cons (.sc _) (.cons (.sc _) (.cons (.sc _) (.cons (.sc _) (.cons (.sc _) (.nil)))))))))) rfl) (mc rfl (.box rfl (.cons (.sc _) (.cons (.sc _) (.cons (.sc _) (.cons (.sc _) (.cons (.sc _) (.cons (.sc _) (.cons (.sc _) (.cons (.sc _) (.cons (.sc _) (.nil)))))))))) rfl) (mc rfl (btrA' rfl) mn))))) (fun s9 o9 hR hE9 => ?_) fun z10 hR => ?_
        · unfold identify_Path.l1 at hR
          refine AWP.sq ?_
          refine AWP.rgC 8 rfl rfl ?_
          obtain ⟨v11, ev11, hR⟩ := letE hR
          refine pu (v := .sc _) rfl rfl (fun _ => puB ev11) ?_
          refine RunC.fin ?_
          refine AWP.sq ?_
          refine AWP.cd hR rfl (fun h12 hR => ?_) fun h12 hR => ?_
          · refine AWP.skip ?_
            refine skT ?_
            refine AWP.sq ?_
            refine AWP.block ?_
            refine AWP.sq ?_
            refine AWP.rgC 28 rfl rfl ?_
            refine pu (v := .sc _) rfl rfl (fun _ => rfl) ?_
            obtain ⟨h13, hR⟩ := chkE hR
            refine ixS0 (α := Int) rfl rfl rfl ti73 rfl ti36 rfl h13 ?_
            refine ldE (α := Int) (v := .sc _) rfl rfl rfl (ixlt h13) ti36 rfl rfl rfl rfl ?_
            refine pu (v := .sc _) rfl rfl (fun _ => rfl) ?_
            refine pu (v := .sc _) rfl rfl (fun _ => rfl) ?_
            refine RunC.fin ?_
            refine AWP.sq ?_
            refine AWP.rgC 64 rfl rfl ?_
            refine ldB (v := .agg _) rfl rfl rfl rfl ti32 rfl rfl ?_
            refine pu (v := .sc _) rfl rfl (fun _ => rfl) ?_
            obtain ⟨r14, hr14, hR⟩ := bindE hR
            refine cls [] rfl rfl cb9 (ok9 b (gt (([t.Lo, t.Hi] : List Int) ++ ([w6 (r6 * 86400000)] : List Int)) s9.2) _ hr14) (.cons (.agg (.cons (.sc _) (.cons (.sc _) (.cons (.sc _) (.cons (.sc _) (.cons (.sc _) (.cons (.sc _) (.cons (.sc _) (.cons (.sc _) (.nil))))))))) rfl) (.cons (.sc _) (.nil))) (.inr rfl) rfl ?_
            refine pu (v := .tup _) rfl rfl (fun _ => rfl) ?_
            refine pu (v := .agg _) rfl rfl (fun _ => rfl) ?_
            refine pu (v := .sc _) rfl rfl (fun _ => rfl) ?_
            refine al (cs := [.sc (.int .i64 0), .sc (.int .i64 0), .sc (.int .i64 0)]) 52 rfl rfl ti29 rfl rfl ?_
            refine stB (cs' := [.sc (.int .i64 r14.1.X), .sc (.int .i64 r14.1.Y), .sc (.int .i64 r14.1.Z)]) rfl rfl rfl rfl ti29 rfl rfl rfl rfl rfl ?_
            refine pu (v := .sc _) rfl rfl (fun _ => rfl) ?_
            refine RunC.fin ?_
            refine AWP.sq ?_
            refine AWP.sq ?_
            refine AWP.rgC 72 rfl rfl ?_
            refine pu (v := .sc _) rfl rfl (fun _ => rfl) ?_
            refine pu (v := .sc _) rfl rfl (fun _ => rfl) ?_
            refine RunC.fin ?_
            refine AWP.cd hR rfl (fun h15 hR => ?_) fun h15 hR => ?_
            · refine AWP.sq ?_
              refine AWP.rgC 84 rfl rfl ?_
              refine buA (cs := [.sc (.int .i64 0), .sc (.int .i64 0), .sc (.bool false), .sc (.int .i64 0), .sc (.int .i64 0), .sc (.bool false), .sc (.int .i64 0), .sc (.int .i64 0), .sc (.bool false)]) rfl ti46 rfl ti44 rfl rfl ?_
              refine stB (cs' := [.sc (.int .i64 0), .sc (.int .i64 0), .sc (.bool false), .sc (.int .i64 0), .sc (.int .i64 0), .sc (.bool false), .sc (.int .i64 0), .sc (.int .i64 0), .sc (.bool false)]) rfl rfl rfl rfl ti46 rfl rfl rfl rfl rfl ?_
              refine pu (v := .sc _) rfl rfl (fun _ => rfl) ?_
              refine RunC.fin ?_
              refine AWP.ret ?_
              refine rtT ?_
              refine rtB ?_
              refine rtT ?_
              refine rtT ?_
              refine rtB (rtT ?_)
              replace hR := escL hR hE9
              refine rtT ?_
              have hR := Option.some.inj hR; subst hR
              exact hQ _ _ (LS.mk [(4, .ptr 0 0 0), (5, .sc (.bool false))] (lblks 0 [boxB (α := Bound × Bound × Bound) true (Bound.mk 0 0 false, Bound.mk 0 0 false, Bound.mk 0 0 false)]) 1) (.tup [aggV (α := Bound × Bound × Bound) true (Bound.mk 0 0 false, Bound.mk 0 0 false, Bound.mk 0 0 false), .sc (.bool false)]) [] (.inr rfl) (Weak.turnL [(1, 0)] [] rfl rfl (tc (trP' rfl rfl rfl rfl) (tc (.sc _) tn)) (mc rfl (.box rfl (.cons (.sc _) (.cons (.sc _) (.cons (.sc _) (.cons (.sc _) (.cons (.sc _) (.cons (.sc _) (.cons (.sc _) (.cons (.sc _) (.cons (.sc _) (.nil)))))))))) rfl) mn)) (ro2 (rvC (v := aggV (α := Bound × Bound × Bound) true (Bound.mk 0 0 false, Bound.mk 0 0 false, Bound.mk 0 0 false)) rfl rfl ti46 rfl) (rvT (v := .sc (.bool false)) rfl)) rfl rfl (.tup (.cons ldA (.cons (.sc _) .nil))) pn
            · refine AWP.skip ?_
              refine skT ?_
              refine AWP.sq ?_
              refine AWP.rgC 84 rfl rfl ?_
              refine ldB (v := .agg _) rfl rfl rfl rfl ti29 rfl rfl ?_
              obtain ⟨r16, hr16, hR⟩ := bindE hR
              refine cls [] rfl rfl cb27 (ok27 r14.1 _ hr16) (.cons (.agg (.cons (.sc _) (.cons (.sc _) (.cons (.sc _) (.nil)))) rfl) (.nil)) (.inr rfl) rfl ?_
              refine pu (v := .sc _) rfl rfl (fun _ => rfl) ?_
              refine RunC.fin ?_
              refine AWP.loopJ (fun s17 : (Bound × Bound × Bound) × Int => LS.mk [(2, .ptr 0 0 0), (4, .ptr 1 0 0), (8, .ptr 2 0 0), (9, .sc (.int .i64 s9.2)), (48, slV Int 3 0 0 (([t.Lo, t.Hi] : List Int) ++ ([w6 (r6 * 86400000)] : List Int)).length), (49, .sc (.int .i64 ((([t.Lo, t.Hi] : List Int) ++ ([w6 (r6 * 86400000)] : List Int)).length : Int))), (50, .sc (.int .i64 s9.2)), (65, aggV (α := Bound × Bound × Bound) true r16), (66, .sc (.int .i64 s17.2))] (lblks 0 [boxB (α := Body) true b, boxB (α := Bound × Bound × Bound) true (Bound.mk 0 0 false, Bound.mk 0 0 false, Bound.mk 0 0 false), boxB (α := Bound × Bound × Bound) true s17.1, arrB (α := Int) 36 0 true (([t.Lo, t.Hi] : List Int) ++ ([w6 (r6 * 86400000)] : List Int))]) 4) (fun z18 : (Bound × Bound × Bound) => LS.mk [(2, .ptr 0 0 0), (4, .ptr 1 0 0), (8, .ptr 2 0 0), (48, slV Int 3 0 0 (([t.Lo, t.Hi] : List Int) ++ ([w6 (r6 * 86400000)] : List Int)).length), (49, .sc (.int .i64 ((([t.Lo, t.Hi] : List Int) ++ ([w6 (r6 * 86400000)] : List Int)).length : Int))), (50, .sc (.int .i64 s9.2))] (lblks 0 [boxB (α := Body) true b, boxB (α := Bound × Bound × Bound) true (Bound.mk 0 0 false, Bound.mk 0 0 false, Bound.mk 0 0 false), boxB (α := Bound × Bound × Bound) true z18, arrB (α := Int) 36 0 true (([t.Lo, t.Hi] : List Int) ++ ([w6 (r6 * 86400000)] : List Int))]) 4) (identify_Path.l2 s9 r16) hR (s0 := (s9.1, 0)) (Weak.turnL [(0, 0), (1, 0), (2, 0), (3, 0)] [] rfl rfl (tc (trP' rfl rfl rfl rfl) (tc (trP' rfl rfl rfl rfl) (tc (trP' rfl rfl rfl rfl) (tc (.sc _) (tc (trS' rfl rfl rfl rfl rfl) (tc (.sc _) (tc (.sc _) (tc (.agg (.cons (.sc _) (.cons (.sc _) (.cons (.sc _) (.cons (.sc _) (.cons (.sc _) (.cons (.sc _) (.cons (.sc _) (.cons (.sc _) (.cons (.sc _) (.nil)))))))))) rfl) (tc (.sc _) tn))))))))) (mc rfl (.box rfl (.cons (.sc _) (.cons (.sc _) (.cons (.sc _) (.cons (.sc _) (.cons (.sc _) (.cons (.sc _) (.cons (.sc _) (.cons (.sc _) (.nil))))))))) rfl) (mc rfl (.box rfl (.cons (.sc _) (.cons (.sc _) (.cons (.sc _) (.cons (.sc _) (.cons (.sc _) (.cons (.sc _) (.cons (.sc _) (.cons (.sc _) (.cons (.sc _) (.nil)))))))))) rfl) (mc rfl (.box rfl (.cons (.sc _) (.cons (.sc _) (.cons (.sc _) (.cons (.sc _) (.cons (.sc _) (.cons (.sc _) (.cons (.sc _) (.cons (.sc _) (.cons (.sc _) (.nil)))))))))) rfl) (mc rfl (btrA' rfl) mn))))) (fun s17 o17 hR => ?_) fun z18 hR => ?_
              · unfold identify_Path.l2 at hR
                refine AWP.sq ?_
                refine AWP.rgC 8 rfl rfl ?_
                refine pu (v := .sc _) rfl rfl (fun _ => rfl) ?_
                refine RunC.fin ?_
                refine AWP.sq ?_
                refine AWP.cd hR rfl (fun h19 hR => ?_) fun h19 hR => ?_
                · refine AWP.skip ?_
                  refine skT ?_
                  refine AWP.sq ?_
                  refine AWP.block ?_
                  refine AWP.sq ?_
                  refine AWP.rgC 28 rfl rfl ?_
                  refine pu (v := .sc _) rfl rfl (fun _ => rfl) ?_
                  obtain ⟨h20, hR⟩ := chkE hR
                  refine ixD (α := Bound) (nw := true) (xs := ([r16.1, r16.2.1, r16.2.2] : List Bound)) (v := .agg _) rfl rfl rfl rfl ti46 rfl ti44 h20 rfl rfl rfl ?_
                  refine al (cs := [.sc (.int .i64 0), .sc (.int .i64 0), .sc (.bool false)]) 16 rfl rfl ti44 rfl rfl ?_
                  refine pu (v := .sc _) rfl rfl (fun _ => rfl) ?_
                  refine stB (cs' := [.sc (.int .i64 (gt ([r16.1, r16.2.1, r16.2.2] : List Bound) s17.2).Lo), .sc (.int .i64 (gt ([r16.1, r16.2.1, r16.2.2] : List Bound) s17.2).Hi), .sc (.bool (gt ([r16.1, r16.2.1, r16.2.2] : List Bound) s17.2).Unknown)]) rfl rfl rfl rfl ti44 rfl rfl rfl rfl rfl ?_
                  refine RunC.fin ?_
                  refine AWP.sq ?_
                  refine AWP.sq ?_
                  refine AWP.rgC 36 rfl rfl ?_
                  refine pu (v := .sc _) rfl rfl (fun _ => rfl) ?_
                  refine pu (v := .sc _) rfl rfl (fun _ => rfl) ?_
                  refine RunC.fin ?_
                  refine AWP.cd hR rfl (fun h21 hR => ?_) fun h21 hR => ?_
                  · refine AWP.rgC 52 rfl rfl ?_
                    refine pu (v := .sc _) rfl rfl (fun _ => rfl) ?_
                    refine ldB (v := .agg _) rfl rfl rfl rfl ti44 rfl rfl ?_
                    obtain ⟨h22, hR⟩ := chkE hR
                    refine iaP (o' := 0 + s17.2.toNat * Cl.e Bound + 0) rfl rfl rfl ti46 rfl ti44 h22 rfl ?_
                    obtain ⟨v23, ev23, hR⟩ := letE hR
                    refine stD (α := Bound) (nw := true) (pre := []) (post := []) (xs := ([s17.1.1, s17.1.2.1, s17.1.2.2] : List Bound)) (m := s17.2.toNat) (off := 0) (ys := [gt v23 0, gt v23 1, gt v23 2]) (y := (gt ([r16.1, r16.2.1, r16.2.2] : List Bound) s17.2)) (cs' := [.sc (.int .i64 (gt v23 0).Lo), .sc (.int .i64 (gt v23 0).Hi), .sc (.bool (gt v23 0).Unknown), .sc (.int .i64 (gt v23 1).Lo), .sc (.int .i64 (gt v23 1).Hi), .sc (.bool (gt v23 1).Unknown), .sc (.int .i64 (gt v23 2).Lo), .sc (.int .i64 (gt v23 2).Hi), .sc (.bool (gt v23 2).Unknown)]) rfl rfl rfl rfl rfl rfl (ixlt h22) ti44 rfl rfl rfl rfl (etaS ev23 rfl rfl) rfl rfl ?_
                    refine RunC.fin ?_
                    refine AWP.rgD 84 [0, 0, 2, 6, 0, 30, 63, 127] ⟨[], [none, none, none, some [2], some [16], none, none, some [2]]⟩ hmix (by kernel_rfl) rfl rfl ?_
                    refine pu (v := .sc _) rfl rfl (fun _ => rfl) ?_
                    refine pu (v := .sc _) rfl rfl (fun _ => rfl) ?_
                    obtain ⟨h24, hR⟩ := chkE hR
                    refine iaP (o' := 0 + s17.2.toNat * Cl.e Bound + 0) rfl rfl rfl ti46 rfl ti44 h24 rfl ?_
                    refine ldD (α := Bound) (nw := true) (pre := []) (post := []) (xs := ([(gt v23 0), (gt v23 1), (gt v23 2)] : List Bound)) (m := s17.2.toNat) (off := 0) (v := .agg _) rfl rfl rfl rfl rfl rfl (ixlt h24) ti44 rfl rfl rfl rfl ?_
                    refine ldB (v := .agg _) rfl rfl rfl rfl ti44 rfl rfl ?_
                    obtain ⟨r25, hr25, hR⟩ := bindE hR
                    refine cls [] rfl rfl cb28 (ok28 (gt ([(gt v23 0), (gt v23 1), (gt v23 2)] : List Bound) s17.2) (gt ([r16.1, r16.2.1, r16.2.2] : List Bound) s17.2) _ hr25) (.cons (.agg (.cons (.sc _) (.cons (.sc _) (.cons (.sc _) (.nil)))) rfl) (.cons (.agg (.cons (.sc _) (.cons (.sc _) (.cons (.sc _) (.nil)))) rfl) (.nil))) (.inr rfl) rfl ?_
                    refine iaP (o' := 0 + s17.2.toNat * Cl.e Bound + 0) rfl rfl rfl ti46 rfl ti44 h24 rfl ?_
                    obtain ⟨v26, ev26, hR⟩ := letE hR
                    refine stD (α := Bound) (nw := true) (pre := []) (post := []) (xs := ([(gt v23 0), (gt v23 1), (gt v23 2)] : List Bound)) (m := s17.2.toNat) (off := 0) (ys := [gt v26 0, gt v26 1, gt v26 2]) (y := r25) (cs' := [.sc (.int .i64 (gt v26 0).Lo), .sc (.int .i64 (gt v26 0).Hi), .sc (.bool (gt v26 0).Unknown), .sc (.int .i64 (gt v26 1).Lo), .sc (.int .i64 (gt v26 1).Hi), .sc (.bool (gt v26 1).Unknown), .sc (.int .i64 (gt v26 2).Lo), .sc (.int .i64 (gt v26 2).Hi), .sc (.bool (gt v26 2).Unknown)]) rfl rfl rfl rfl rfl rfl (ixlt h24) ti44 rfl rfl rfl rfl (etaS ev26 rfl rfl) rfl rfl ?_
                    refine RunC.blk ?_
                    refine RunC.fin ?_
                    refine AWP.rgC 92 rfl rfl ?_
                    refine pu (v := .sc _) rfl rfl (fun _ => rfl) ?_
                    refine pu (v := .sc _) rfl rfl (fun _ => rfl) ?_
                    refine RunC.fin ?_
                    refine ⟨((gt v26 0, gt v26 1, gt v26 2), w6 (s17.2 + 1)), (Option.some.inj hR).symm, ?_⟩
                    exact Weak.turnL [(0, 0), (1, 0), (2, 0), (3, 0)] [] rfl rfl (tc (trP' rfl rfl rfl rfl) (tc (trP' rfl rfl rfl rfl) (tc (trP' rfl rfl rfl rfl) (tc (.sc _) (tc (trS' rfl rfl rfl rfl rfl) (tc (.sc _) (tc (.sc _) (tc (.agg (.cons (.sc _) (.cons (.sc _) (.cons (.sc _) (.cons (.sc _) (.cons (.sc _) (.cons (.sc _) (.cons (.sc _) (.cons (.sc _) (.cons (.sc _) (.nil)))))))))) rfl) (tc (.sc _) tn))))))))) (mc rfl (.box rfl (.cons (.sc _) (.cons (.sc _) (.cons (.sc _) (.cons (.sc _) (.cons (.sc _) (.cons (.sc _) (.cons (.sc _) (.cons (.sc _) (.nil))))))))) rfl) (mc rfl (.box rfl (.cons (.sc _) (.cons (.sc _) (.cons (.sc _) (.cons (.sc _) (.cons (.sc _) (.cons (.sc _) (.cons (.sc _) (.cons (.sc _) (.cons (.sc _) (.nil)))))))))) rfl) (mc rfl (.box rfl (.cons (.sc _) (.cons (.sc _) (.cons (.sc _) (.cons (.sc _) (.cons (.sc _) (.cons (.sc _) (.cons (.sc _) (.cons (.sc _) (.cons (.sc _) (.nil)))))))))) rfl) (mc rfl (btrA' rfl) mn))))
                  · refine AWP.skip ?_
                    refine skT ?_
                    refine AWP.rgD 68 [0, 0, 2, 6, 0, 30, 63, 127] ⟨[], [none, none, none, some [2], some [16], none, none, some [2]]⟩ hmix (by kernel_rfl) rfl rfl ?_
                    refine pu (v := .sc _) rfl rfl (fun _ => rfl) ?_
                    refine pu (v := .sc _) rfl rfl (fun _ => rfl) ?_
                    obtain ⟨h27, hR⟩ := chkE hR
                    refine iaP (o' := 0 + s17.2.toNat * Cl.e Bound + 0) rfl rfl rfl ti46 rfl ti44 h27 rfl ?_
                    refine ldD (α := Bound) (nw := true) (pre := []) (post := []) (xs := ([s17.1.1, s17.1.2.1, s17.1.2.2] : List Bound)) (m := s17.2.toNat) (off := 0) (v := .agg _) rfl rfl rfl rfl rfl rfl (ixlt h27) ti44 rfl rfl rfl rfl ?_
                    refine ldB (v := .agg _) rfl rfl rfl rfl ti44 rfl rfl ?_
                    obtain ⟨r28, hr28, hR⟩ := bindE hR
                    refine cls [] rfl rfl cb28 (ok28 (gt ([s17.1.1, s17.1.2.1, s17.1.2.2] : List Bound) s17.2) (gt ([r16.1, r16.2.1, r16.2.2] : List Bound) s17.2) _ hr28) (.cons (.agg (.cons (.sc _) (.cons (.sc _) (.cons (.sc _) (.nil)))) rfl) (.cons (.agg (.cons (.sc _) (.cons (.sc _) (.cons (.sc _) (.nil)))) rfl) (.nil))) (.inr rfl) rfl ?_
                    refine iaP (o' := 0 + s17.2.toNat * Cl.e Bound + 0) rfl rfl rfl ti46 rfl ti44 h27 rfl ?_
                    obtain ⟨v29, ev29, hR⟩ := letE hR
                    refine stD (α := Bound) (nw := true) (pre := []) (post := []) (xs := ([s17.1.1, s17.1.2.1, s17.1.2.2] : List Bound)) (m := s17.2.toNat) (off := 0) (ys := [gt v29 0, gt v29 1, gt v29 2]) (y := r28) (cs' := [.sc (.int .i64 (gt v29 0).Lo), .sc (.int .i64 (gt v29 0).Hi), .sc (.bool (gt v29 0).Unknown), .sc (.int .i64 (gt v29 1).Lo), .sc (.int .i64 (gt v29 1).Hi), .sc (.bool (gt v29 1).Unknown), .sc (.int .i64 (gt v29 2).Lo), .sc (.int .i64 (gt v29 2).Hi), .sc (.bool (gt v29 2).Unknown)]) rfl rfl rfl rfl rfl rfl (ixlt h27) ti44 rfl rfl rfl rfl (etaS ev29 rfl rfl) rfl rfl ?_
                    refine RunC.blk ?_
                    refine RunC.fin ?_
                    refine AWP.rgC 76 rfl rfl ?_
                    refine pu (v := .sc _) rfl rfl (fun _ => rfl) ?_
                    refine pu (v := .sc _) rfl rfl (fun _ => rfl) ?_
                    refine RunC.fin ?_
                    refine ⟨((gt v29 0, gt v29 1, gt v29 2), w6 (s17.2 + 1)), (Option.some.inj hR).symm, ?_⟩
                    exact Weak.turnL [(0, 0), (1, 0), (2, 0), (3, 0)] [] rfl rfl (tc (trP' rfl rfl rfl rfl) (tc (trP' rfl rfl rfl rfl) (tc (trP' rfl rfl rfl rfl) (tc (.sc _) (tc (trS' rfl rfl rfl rfl rfl) (tc (.sc _) (tc (.sc _) (tc (.agg (.cons (.sc _) (.cons (.sc _) (.cons (.sc _) (.cons (.sc _) (.cons (.sc _) (.cons (.sc _) (.cons (.sc _) (.cons (.sc _) (.cons (.sc _) (.nil)))))))))) rfl) (tc (.sc _) tn))))))))) (mc rfl (.box rfl (.cons (.sc _) (.cons (.sc _) (.cons (.sc _) (.cons (.sc _) (.cons (.sc _) (.cons (.sc _) (.cons (.sc _) (.cons (.sc _) (.nil))))))))) rfl) (mc rfl (.box rfl (.cons (.sc _) (.cons (.sc _) (.cons (.sc _) (.cons (.sc _) (.cons (.sc _) (.cons (.sc _) (.cons (.sc _) (.cons (.sc _) (.cons (.sc _) (.nil)))))))))) rfl) (mc rfl (.box rfl (.cons (.sc _) (.cons (.sc _) (.cons (.sc _) (.cons (.sc _) (.cons (.sc _) (.cons (.sc _) (.cons (.sc _) (.cons (.sc _) (.cons (.sc _) (.nil)))))))))) rfl) (mc rfl (btrA' rfl) mn))))
                · refine AWP.exit ?_
                  refine exT ?_
                  refine exT ?_
                  refine exH (skT ?_)
                  refine ⟨s17.1, (Option.some.inj hR).symm, ?_⟩
                  exact Weak.turnL [(0, 0), (1, 0), (2, 0), (3, 0)] [] rfl rfl (tc (trP' rfl rfl rfl rfl) (tc (trP' rfl rfl rfl rfl) (tc (trP' rfl rfl rfl rfl) (tc (trS' rfl rfl rfl rfl rfl) (tc (.sc _) (tc (.sc _) tn)))))) (mc rfl (.box rfl (.cons (.sc _) (.cons (.sc _) (.cons (.sc _) (.cons (.sc _) (.cons (.sc _) (.cons (.sc _) (.cons (.sc _) (.cons (.sc _) (.nil))))))))) rfl) (mc rfl (.box rfl (.cons (.sc _) (.cons (.sc _) (.cons (.sc _) (.cons (.sc _) (.cons (.sc _) (.cons (.sc _) (.cons (.sc _) (.cons (.sc _) (.cons (.sc _) (.nil)))))))))) rfl) (mc rfl (.box rfl (.cons (.sc _) (.cons (.sc _) (.cons (.sc _) (.cons (.sc _) (.cons (.sc _) (.cons (.sc _) (.cons (.sc _) (.cons (.sc _) (.cons (.sc _) (.nil)))))))))) rfl) (mc rfl (btrA' rfl) mn))))
              · refine skB ?_
                refine skT ?_
                refine AWP.rgC 12 rfl rfl ?_
                refine pu (v := .sc _) rfl rfl (fun _ => rfl) ?_
                refine pu (v := .sc _) rfl rfl (fun _ => rfl) ?_
                refine RunC.fin ?_
                refine ⟨(z18, w6 (s9.2 + 1)), (Option.some.inj hR).symm, ?_⟩
                exact Weak.turnL [(0, 0), (1, 0), (2, 0), (3, 0)] [] rfl rfl (tc (trP' rfl rfl rfl rfl) (tc (trP' rfl rfl rfl rfl) (tc (trP' rfl rfl rfl rfl) (tc (trS' rfl rfl rfl rfl rfl) (tc (.sc _) (tc (.sc _) tn)))))) (mc rfl (.box rfl (.cons (.sc _) (.cons (.sc _) (.cons (.sc _) (.cons (.sc _) (.cons (.sc _) (.cons (.sc _) (.cons (.sc _) (.cons (.sc _) (.nil))))))))) rfl) (mc rfl (.box rfl (.cons (.sc _) (.cons (.sc _) (.cons (.sc _) (.cons (.sc _) (.cons (.sc _) (.cons (.sc _) (.cons (.sc _) (.cons (.sc _) (.cons (.sc _) (.nil)))))))))) rfl) (mc rfl (.box rfl (.cons (.sc _) (.cons (.sc _) (.cons (.sc _) (.cons (.sc _) (.cons (.sc _) (.cons (.sc _) (.cons (.sc _) (.cons (.sc _) (.cons (.sc _) (.nil)))))))))) rfl) (mc rfl (btrA' rfl) mn))))
          · refine AWP.exit ?_
            refine exT ?_
            refine exT ?_
            refine exH (skT ?_)
            refine ⟨s9.1, (Option.some.inj hR).symm, ?_⟩
            exact Weak.turnL [(1, 0), (2, 0)] [] rfl rfl (tc (trP' rfl rfl rfl rfl) (tc (trP' rfl rfl rfl rfl) tn)) (mc rfl (.box rfl (.cons (.sc _) (.cons (.sc _) (.cons (.sc _) (.cons (.sc _) (.cons (.sc _) (.cons (.sc _) (.cons (.sc _) (.cons (.sc _) (.cons (.sc _) (.nil)))))))))) rfl) (mc rfl (.box rfl (.cons (.sc _) (.cons (.sc _) (.cons (.sc _) (.cons (.sc _) (.cons (.sc _) (.cons (.sc _) (.cons (.sc _) (.cons (.sc _) (.cons (.sc _) (.nil)))))))))) rfl) mn))
        · refine skT ?_
          refine AWP.sq ?_
          refine AWP.rgC 14 rfl rfl ?_
          refine ldB (v := .agg _) rfl rfl rfl rfl ti46 rfl rfl ?_
          refine stB (cs' := [.sc (.int .i64 z10.1.Lo), .sc (.int .i64 z10.1.Hi), .sc (.bool z10.1.Unknown), .sc (.int .i64 z10.2.1.Lo), .sc (.int .i64 z10.2.1.Hi), .sc (.bool z10.2.1.Unknown), .sc (.int .i64 z10.2.2.Lo), .sc (.int .i64 z10.2.2.Hi), .sc (.bool z10.2.2.Unknown)]) rfl rfl rfl rfl ti46 rfl rfl rfl rfl rfl ?_
          refine pu (v := .sc _) rfl rfl (fun _ => rfl) ?_
          refine RunC.fin ?_
          refine AWP.ret ?_
          have hR := Option.some.inj hR; subst hR
          exact hQ _ _ (LS.mk [(4, .ptr 0 0 0), (5, .sc (.bool true))] (lblks 0 [boxB (α := Bound × Bound × Bound) true z10]) 1) (.tup [aggV (α := Bound × Bound × Bound) true z10, .sc (.bool true)]) [] (.inr rfl) (Weak.turnL [(0, 0)] [] rfl rfl (tc (trP' rfl rfl rfl rfl) (tc (.sc _) tn)) (mc rfl (.box rfl (.cons (.sc _) (.cons (.sc _) (.cons (.sc _) (.cons (.sc _) (.cons (.sc _) (.cons (.sc _) (.cons (.sc _) (.cons (.sc _) (.cons (.sc _) (.nil)))))))))) rfl) mn)) (ro2 (rvC (v := aggV (α := Bound × Bound × Bound) true z10) rfl rfl ti46 rfl) (rvT (v := .sc (.bool true)) rfl)) rfl rfl (.tup (.cons ldA (.cons (.sc _) .nil))) pn
      · refine AWP.skip ?_
        refine skT ?_
        refine AWP.sq ?_
        refine AWP.rgC 67 rfl rfl ?_
        refine al (cs := [.sc (.int .i64 0), .sc (.int .i64 0), .sc (.bool false), .sc (.int .i64 0), .sc (.int .i64 0), .sc (.bool false), .sc (.int .i64 0), .sc (.int .i64 0), .sc (.bool false)]) 63 rfl rfl ti46 rfl rfl ?_
        refine RunC.fin ?_
        refine AWP.sq ?_
        refine AWP.sq ?_
        refine AWP.rgC 79 rfl rfl ?_
        refine pu (v := slV Int _ _ _ _) rfl rfl (fun _ => rfl) ?_
        refine lenS (α := Int) rfl rfl ti73 rfl ?_
        refine pu (v := .sc _) rfl rfl (fun _ => rfl) ?_
        refine RunC.fin ?_
        refine AWP.loopK' (fun s30 : (Bound × Bound × Bound) × Int => LS.mk [(2, .ptr 0 0 0), (4, .ptr 1 0 0), (8, .ptr 2 0 0), (48, slV Int 3 0 0 ([t.Lo, t.Hi] : List Int).length), (49, .sc (.int .i64 (([t.Lo, t.Hi] : List Int).length : Int))), (50, .sc (.int .i64 s30.2))] (lblks 0 [boxB (α := Body) true b, boxB (α := Bound × Bound × Bound) true (Bound.mk 0 0 false, Bound.mk 0 0 false, Bound.mk 0 0 false), boxB (α := Bound × Bound × Bound) true s30.1, arrB (α := Int) 36 0 true ([t.Lo, t.Hi] : List Int)]) 4) (fun z31 : (Bound × Bound × Bound) => LS.mk [(4, .ptr 0 0 0), (8, .ptr 1 0 0)] (lblks 0 [boxB (α := Bound × Bound × Bound) true (Bound.mk 0 0 false, Bound.mk 0 0 false, Bound.mk 0 0 false), boxB (α := Bound × Bound × Bound) true z31]) 2) (identify_Path.l3 b t) hR (s0 := ((Bound.mk 0 0 false, Bound.mk 0 0 false, Bound.mk 0 0 false), 0)) (Weak.turnL [(0, 0), (2, 0), (63, 0), (19, 0)] [] rfl rfl (tc (trP' rfl rfl rfl rfl) (tc (trP' rfl rfl rfl rfl) (tc (trP' rfl rfl rfl rfl) (tc (trS' rfl rfl rfl rfl rfl) (tc (.sc _) (tc (.sc _) tn)))))) (mc rfl (.box rfl (.cons (.sc _) (.cons (.sc _) (.cons (.sc _) (.cons (.sc _) (.cons (.sc _) (.cons (.sc _) (.cons (.sc _) (.cons (.sc _) (.nil))))))))) rfl) (mc rfl (.box rfl (.cons (.sc _) (.cons (.sc _) (.cons (.sc _) (.cons (.sc _) (.cons (.sc _) (.cons (.sc _) (.cons (.sc _) (.cons (.sc _) (.cons (.sc _) (.nil)))))))))) rfl) (mc rfl (.box rfl (.cons (.sc _) (.cons (.sc _) (.cons (.sc _) (.cons (.sc _) (.cons (.sc _) (.cons (.sc _) (.cons (.sc _) (.cons (.sc _) (.cons (.sc _) (.nil)))))))))) rfl) (mc rfl (btrA' rfl) mn))))) (fun s30 o30 hR hE30 => ?_) fun z31 hR => ?_
        · unfold identify_Path.l3 at hR
          refine AWP.sq ?_
          refine AWP.rgC 8 rfl rfl ?_
          refine pu (v := .sc _) rfl rfl (fun _ => rfl) ?_
          refine RunC.fin ?_
          refine AWP.sq ?_
          refine AWP.cd hR rfl (fun h32 hR => ?_) fun h32 hR => ?_
          · refine AWP.skip ?_
            refine skT ?_
            refine AWP.sq ?_
            refine AWP.block ?_
            refine AWP.sq ?_
            refine AWP.rgC 28 rfl rfl ?_
            refine pu (v := .sc _) rfl rfl (fun _ => rfl) ?_
            obtain ⟨h33, hR⟩ := chkE hR
            refine ixS0 (α := Int) rfl rfl rfl ti73 rfl ti36 rfl h33 ?_
            refine ldE (α := Int) (v := .sc _) rfl rfl rfl (ixlt h33) ti36 rfl rfl rfl rfl ?_
            refine pu (v := .sc _) rfl rfl (fun _ => rfl) ?_
            refine pu (v := .sc _) rfl rfl (fun _ => rfl) ?_
            refine RunC.fin ?_
            refine AWP.sq ?_
            refine AWP.rgC 64 rfl rfl ?_
            refine ldB (v := .agg _) rfl rfl rfl rfl ti32 rfl rfl ?_
            refine pu (v := .sc _) rfl rfl (fun _ => rfl) ?_
            obtain ⟨r34, hr34, hR⟩ := bindE hR
            refine cls [] rfl rfl cb9 (ok9 b (gt ([t.Lo, t.Hi] : List Int) s30.2) _ hr34) (.cons (.agg (.cons (.sc _) (.cons (.sc _) (.cons (.sc _) (.cons (.sc _) (.cons (.sc _) (.cons (.sc _) (.cons (.sc _) (.cons (.sc _) (.nil))))))))) rfl) (.cons (.sc _) (.nil))) (.inr rfl) rfl ?_
            refine pu (v := .tup _) rfl rfl (fun _ => rfl) ?_
            refine pu (v := .agg _) rfl rfl (fun _ => rfl) ?_
            refine pu (v := .sc _) rfl rfl (fun _ => rfl) ?_
            refine al (cs := [.sc (.int .i64 0), .sc (.int .i64 0), .sc (.int .i64 0)]) 52 rfl rfl ti29 rfl rfl ?_
            refine stB (cs' := [.sc (.int .i64 r34.1.X), .sc (.int .i64 r34.1.Y), .sc (.int .i64 r34.1.Z)]) rfl rfl rfl rfl ti29 rfl rfl rfl rfl rfl ?_
            refine pu (v := .sc _) rfl rfl (fun _ => rfl) ?_
            refine RunC.fin ?_
            refine AWP.sq ?_
            refine AWP.sq ?_
            refine AWP.rgC 72 rfl rfl ?_
            refine pu (v := .sc _) rfl rfl (fun _ => rfl) ?_
            refine pu (v := .sc _) rfl rfl (fun _ => rfl) ?_
            refine RunC.fin ?_
            refine AWP.cd hR rfl (fun h35 hR => ?_) fun h35 hR => ?_
            · refine AWP.sq ?_
              refine AWP.rgC 84 rfl rfl ?_
              refine buA (cs := [.sc (.int .i64 0), .sc (.int .i64 0), .sc (.bool false), .sc (.int .i64 0), .sc (.int .i64 0), .sc (.bool false), .sc (.int .i64 0), .sc (.int .i64 0), .sc (.bool false)]) rfl ti46 rfl ti44 rfl rfl ?_
              refine stB (cs' := [.sc (.int .i64 0), .sc (.int .i64 0), .sc (.bool false), .sc (.int .i64 0), .sc (.int .i64 0), .sc (.bool false), .sc (.int .i64 0), .sc (.int .i64 0), .sc (.bool false)]) rfl rfl rfl rfl ti46 rfl rfl rfl rfl rfl ?_
              refine pu (v := .sc _) rfl rfl (fun _ => rfl) ?_
              refine RunC.fin ?_
              refine AWP.ret ?_
              refine rtT ?_
              refine rtB ?_
              refine rtT ?_
              refine rtT ?_
              refine rtB (rtT ?_)
              replace hR := escL hR hE30
              refine rtT ?_
              have hR := Option.some.inj hR; subst hR
              exact hQ _ _ (LS.mk [(4, .ptr 0 0 0), (5, .sc (.bool false))] (lblks 0 [boxB (α := Bound × Bound × Bound) true (Bound.mk 0 0 false, Bound.mk 0 0 false, Bound.mk 0 0 false)]) 1) (.tup [aggV (α := Bound × Bound × Bound) true (Bound.mk 0 0 false, Bound.mk 0 0 false, Bound.mk 0 0 false), .sc (.bool false)]) [] (.inr rfl) (Weak.turnL [(1, 0)] [] rfl rfl (tc (trP' rfl rfl rfl rfl) (tc (.sc _) tn)) (mc rfl (.box rfl (.cons (.sc _) (.cons (.sc _) (.cons (.sc _) (.cons (.sc _) (.cons (.sc _) (.cons (.sc _) (.cons (.sc _) (.cons (.sc _) (.cons (.sc _) (.nil)))))))))) rfl) mn)) (ro2 (rvC (v := aggV (α := Bound × Bound × Bound) true (Bound.mk 0 0 false, Bound.mk 0 0 false, Bound.mk 0 0 false)) rfl rfl ti46 rfl) (rvT (v := .sc (.bool false)) rfl)) rfl rfl (.tup (.cons ldA (.cons (.sc _) .nil))) pn
            · refine AWP.skip ?_
              refine skT ?_
              refine AWP.sq ?_
              refine AWP.rgC 84 rfl rfl ?_
              refine ldB (v := .agg _) rfl rfl rfl rfl ti29 rfl rfl ?_
              obtain ⟨r36, hr36, hR⟩ := bindE hR
              refine cls [] rfl rfl cb27 (ok27 r34.1 _ hr36) (.cons (.agg (.cons (.sc _) (.cons (.sc _) (.cons (.sc _) (.nil)))) rfl) (.nil)) (.inr rfl) rfl ?_
              refine pu (v := .sc _) rfl rfl (fun _ => rfl) ?_
              refine RunC.fin ?_
              refine AWP.loopJ (fun s37 : (Bound × Bound × Bound) × Int => LS.mk [(2, .ptr 0 0 0), (4, .ptr 1 0 0), (8, .ptr 2 0 0), (9, .sc (.int .i64 s30.2)), (48, slV Int 3 0 0 ([t.Lo, t.Hi] : List Int).length), (49, .sc (.int .i64 (([t.Lo, t.Hi] : List Int).length : Int))), (50, .sc (.int .i64 s30.2)), (65, aggV (α := Bound × Bound × Bound) true r36), (66, .sc (.int .i64 s37.2))] (lblks 0 [boxB (α := Body) true b, boxB (α := Bound × Bound × Bound) true (Bound.mk 0 0 false, Bound.mk 0 0 false, Bound.mk 0 0 false), boxB (α := Bound × Bound × Bound) true s37.1, arrB (α := Int) 36 0 true ([t.Lo, t.Hi] : List Int)]) 4) (fun z38 : (Bound × Bound × Bound) => LS.mk [(2, .ptr 0 0 0), (4, .ptr 1 0 0), (8, .ptr 2 0 0), (48, slV Int 3 0 0 ([t.Lo, t.Hi] : List Int).length), (49, .sc (.int .i64 (([t.Lo, t.Hi] : List Int).length : Int))), (50, .sc (.int .i64 s30.2))] (lblks 0 [boxB (α := Body) true b, boxB (α := Bound × Bound × Bound) true (Bound.mk 0 0 false, Bound.mk 0 0 false, Bound.mk 0 0 false), boxB (α := Bound × Bound × Bound) true z38, arrB (α := Int) 36 0 true ([t.Lo, t.Hi] : List Int)]) 4) (identify_Path.l4 s30 r36) hR (s0 := (s30.1, 0)) (Weak.turnL [(0, 0), (1, 0), (2, 0), (3, 0)] [] rfl rfl (tc (trP' rfl rfl rfl rfl) (tc (trP' rfl rfl rfl rfl) (tc (trP' rfl rfl rfl rfl) (tc (.sc _) (tc (trS' rfl rfl rfl rfl rfl) (tc (.sc _) (tc (.sc _) (tc (.agg (.cons (.sc _) (.cons (.sc _) (.cons (.sc _) (.cons (.sc _) (.cons (.sc _) (.cons (.sc _) (.cons (.sc _) (.cons (.sc _) (.cons (.sc _) (.nil)))))))))) rfl) (tc (.sc _) tn))))))))) (mc rfl (.box rfl (.cons (.sc _) (.cons (.sc _) (.cons (.sc _) (.cons (.sc _) (.cons (.sc _) (.cons (.sc _) (.cons (.sc _) (.cons (.sc _) (.nil))))))))) rfl) (mc rfl (.box rfl (.cons (.sc _) (.cons (.sc _) (.cons (.sc _) (.cons (.sc _) (.cons (.sc _) (.cons (.sc _) (.cons (.sc _) (.cons (.sc _) (.cons (.sc _) (.nil)))))))))) rfl) (mc rfl (.box rfl (.cons (.sc _) (.cons (.sc _) (.cons (.sc _) (.cons (.sc _) (.cons (.sc _) (.cons (.sc _) (.cons (.sc _) (.cons (.sc _) (.cons (.sc _) (.nil)))))))))) rfl) (mc rfl (btrA' rfl) mn))))) (fun s37 o37 hR => ?_) fun z38 hR => ?_
              · unfold identify_Path.l4 at hR
                refine AWP.sq ?_
                refine AWP.rgC 8 rfl rfl ?_
                refine pu (v := .sc _) rfl rfl (fun _ => rfl) ?_
                refine RunC.fin ?_
                refine AWP.sq ?_
                refine AWP.cd hR rfl (fun h39 hR => ?_) fun h39 hR => ?_
                · refine AWP.skip ?_
                  refine skT ?_
                  refine AWP.sq ?_
                  refine AWP.block ?_
                  refine AWP.sq ?_
                  refine AWP.rgC 28 rfl rfl ?_
                  refine pu (v := .sc _) rfl rfl (fun _ => rfl) ?_
                  obtain ⟨h40, hR⟩ := chkE hR
                  refine ixD (α := Bound) (nw := true) (xs := ([r36.1, r36.2.1, r36.2.2] : List Bound)) (v := .agg _) rfl rfl rfl rfl ti46 rfl ti44 h40 rfl rfl rfl ?_
                  refine al (cs := [.sc (.int .i64 0), .sc (.int .i64 0), .sc (.bool false)]) 16 rfl rfl ti44 rfl rfl ?_
                  refine pu (v := .sc _) rfl rfl (fun _ => rfl) ?_
                  refine stB (cs' := [.sc (.int .i64 (gt ([r36.1, r36.2.1, r36.2.2] : List Bound) s37.2).Lo), .sc (.int .i64 (gt ([r36.1, r36.2.1, r36.2.2] : List Bound) s37.2).Hi), .sc (.bool (gt ([r36.1, r36.2.1, r36.2.2] : List Bound) s37.2).Unknown)]) rfl rfl rfl rfl ti44 rfl rfl rfl rfl rfl ?_
                  refine RunC.fin ?_
                  refine AWP.sq ?_
                  refine AWP.sq ?_
                  refine AWP.rgC 36 rfl rfl ?_
                  refine pu (v := .sc _) rfl rfl (fun _ => rfl) ?_
                  refine pu (v := .sc _) rfl rfl (fun _ => rfl) ?_
                  refine RunC.fin ?_
                  refine AWP.cd hR rfl (fun h41 hR => ?_) fun h41 hR => ?_
                  · refine AWP.rgC 52 rfl rfl ?_
                    refine pu (v := .sc _) rfl rfl (fun _ => rfl) ?_
                    refine ldB (v := .agg _) rfl rfl rfl rfl ti44 rfl rfl ?_
                    obtain ⟨h42, hR⟩ := chkE hR
                    refine iaP (o' := 0 + s37.2.toNat * Cl.e Bound + 0) rfl rfl rfl ti46 rfl ti44 h42 rfl ?_
                    obtain ⟨v43, ev43, hR⟩ := letE hR
                    refine stD (α := Bound) (nw := true) (pre := []) (post := []) (xs := ([s37.1.1, s37.1.2.1, s37.1.2.2] : List Bound)) (m := s37.2.toNat) (off := 0) (ys := [gt v43 0, gt v43 1, gt v43 2]) (y := (gt ([r36.1, r36.2.1, r36.2.2] : List Bound) s37.2)) (cs' := [.sc (.int .i64 (gt v43 0).Lo), .sc (.int .i64 (gt v43 0).Hi), .sc (.bool (gt v43 0).Unknown), .sc (.int .i64 (gt v43 1).Lo), .sc (.int .i64 (gt v43 1).Hi), .sc (.bool (gt v43 1).Unknown), .sc (.int .i64 (gt v43 2).Lo), .sc (.int .i64 (gt v43 2).Hi), .sc (.bool (gt v43 2).Unknown)]) rfl rfl rfl rfl rfl rfl (ixlt h42) ti44 rfl rfl rfl rfl (etaS ev43 rfl rfl) rfl rfl ?_
                    refine RunC.fin ?_
                    refine AWP.rgD 84 [0, 0, 2, 6, 0, 30, 63, 127] ⟨[], [none, none, none, some [2], some [16], none, none, some [2]]⟩ hmix (by kernel_rfl) rfl rfl ?_
                    refine pu (v := .sc _) rfl rfl (fun _ => rfl) ?_
                    refine pu (v := .sc _) rfl rfl (fun _ => rfl) ?_
                    obtain ⟨h44, hR⟩ := chkE hR
                    refine iaP (o' := 0 + s37.2.toNat * Cl.e Bound + 0) rfl rfl rfl ti46 rfl ti44 h44 rfl ?_
                    refine ldD (α := Bound) (nw := true) (pre := []) (post := []) (xs := ([(gt v43 0), (gt v43 1), (gt v43 2)] : List Bound)) (m := s37.2.toNat) (off := 0) (v := .agg _) rfl rfl rfl rfl rfl rfl (ixlt h44) ti44 rfl rfl rfl rfl ?_
                    refine ldB (v := .agg _) rfl rfl rfl rfl ti44 rfl rfl ?_
                    obtain ⟨r45, hr45, hR⟩ := bindE hR
                    refine cls [] rfl rfl cb28 (ok28 (gt ([(gt v43 0), (gt v43 1), (gt v43 2)] : List Bound) s37.2) (gt ([r36.1, r36.2.1, r36.2.2] : List Bound) s37.2) _ hr45) (.cons (.agg (.cons (.sc _) (.cons (.sc _) (.cons (.sc _) (.nil)))) rfl) (.cons (.agg (.cons (.sc _) (.cons (.sc _) (.cons (.sc _) (.nil)))) rfl) (.nil))) (.inr rfl) rfl ?_
                    refine iaP (o' := 0 + s37.2.toNat * Cl.e Bound + 0) rfl rfl rfl ti46 rfl ti44 h44 rfl ?_
                    obtain ⟨v46, ev46, hR⟩ := letE hR
                    refine stD (α := Bound) (nw := true) (pre := []) (post := []) (xs := ([(gt v43 0), (gt v43 1), (gt v43 2)] : List Bound)) (m := s37.2.toNat) (off := 0) (ys := [gt v46 0, gt v46 1, gt v46 2]) (y := r45) (cs' := [.sc (.int .i64 (gt v46 0).Lo), .sc (.int .i64 (gt v46 0).Hi), .sc (.bool (gt v46 0).Unknown), .sc (.int .i64 (gt v46 1).Lo), .sc (.int .i64 (gt v46 1).Hi), .sc (.bool (gt v46 1).Unknown), .sc (.int .i64 (gt v46 2).Lo), .sc (.int .i64 (gt v46 2).Hi), .sc (.bool (gt v46 2).Unknown)]) rfl rfl rfl rfl rfl rfl (ixlt h44) ti44 rfl rfl rfl rfl (etaS ev46 rfl rfl) rfl rfl ?_
                    refine RunC.blk ?_
                    refine RunC.fin ?_
                    refine AWP.rgC 92 rfl rfl ?_
                    refine pu (v := .sc _) rfl rfl (fun _ => rfl) ?_
                    refine pu (v := .sc _) rfl rfl (fun _ => rfl) ?_
                    refine RunC.fin ?_
                    refine ⟨((gt v46 0, gt v46 1, gt v46 2), w6 (s37.2 + 1)), (Option.some.inj hR).symm, ?_⟩
                    exact Weak.turnL [(0, 0), (1, 0), (2, 0), (3, 0)] [] rfl rfl (tc (trP' rfl rfl rfl rfl) (tc (trP' rfl rfl rfl rfl) (tc (trP' rfl rfl rfl rfl) (tc (.sc _) (tc (trS' rfl rfl rfl rfl rfl) (tc (.sc _) (tc (.sc _) (tc (.agg (.cons (.sc _) (.cons (.sc _) (.cons (.sc _) (.cons (.sc _) (.cons (.sc _) (.cons (.sc _) (.cons (.sc _) (.cons (.sc _) (.cons (.sc _) (.nil)))))))))) rfl) (tc (.sc _) tn))))))))) (mc rfl (.box rfl (.cons (.sc _) (.cons (.sc _) (.cons (.sc _) (.cons (.sc _) (.cons (.sc _) (.cons (.sc _) (.cons (.sc _) (.cons (.sc _) (.nil))))))))) rfl) (mc rfl (.box rfl (.cons (.sc _) (.cons (.sc _) (.cons (.sc _) (.cons (.sc _) (.cons (.sc _) (.cons (.sc _) (.cons (.sc _) (.cons (.sc _) (.cons (.sc _) (.nil)))))))))) rfl) (mc rfl (.box rfl (.cons (.sc _) (.cons (.sc _) (.cons (.sc _) (.cons (.sc _) (.cons (.sc _) (.cons (.sc _) (.cons (.sc _) (.cons (.sc _) (.cons (.sc _) (.nil)))))))))) rfl) (mc rfl (btrA' rfl) mn))))
                  · refine AWP.skip ?_
                    refine skT ?_
                    refine AWP.rgD 68 [0, 0, 2, 6, 0, 30, 63, 127] ⟨[], [none, none, none, some [2], some [16], none, none, some [2]]⟩ hmix (by kernel_rfl) rfl rfl ?_
                    refine pu (v := .sc _) rfl rfl (fun _ => rfl) ?_
                    refine pu (v := .sc _) rfl rfl (fun _ => rfl) ?_
                    obtain ⟨h47, hR⟩ := chkE hR
                    refine iaP (o' := 0 + s37.2.toNat * Cl.e Bound + 0) rfl rfl rfl ti46 rfl ti44 h47 rfl ?_
                    refine ldD (α := Bound) (nw := true) (pre := []) (post := []) (xs := ([s37.1.1, s37.1.2.1, s37.1.2.2] : List Bound)) (m := s37.2.toNat) (off := 0) (v := .agg _) rfl rfl rfl rfl rfl rfl (ixlt h47) ti44 rfl rfl rfl rfl ?_
                    refine ldB (v := .agg _) rfl rfl rfl rfl ti44 rfl rfl ?_
                    obtain ⟨r48, hr48, hR⟩ := bindE hR
                    refine cls [] rfl rfl cb28 (ok28 (gt ([s37.1.1, s37.1.2.1, s37.1.2.2] : List Bound) s37.2) (gt ([r36.1, r36.2.1, r36.2.2] : List Bound) s37.2) _ hr48) (.cons (.agg (.cons (.sc _) (.cons (.sc _) (.cons (.sc _) (.nil)))) rfl) (.cons (.agg (.cons (.sc _) (.cons (.sc _) (.cons (.sc _) (.nil)))) rfl) (.nil))) (.inr rfl) rfl ?_
                    refine iaP (o' := 0 + s37.2.toNat * Cl.e Bound + 0) rfl rfl rfl ti46 rfl ti44 h47 rfl ?_
                    obtain ⟨v49, ev49, hR⟩ := letE hR
                    refine stD (α := Bound) (nw := true) (pre := []) (post := []) (xs := ([s37.1.1, s37.1.2.1, s37.1.2.2] : List Bound)) (m := s37.2.toNat) (off := 0) (ys := [gt v49 0, gt v49 1, gt v49 2]) (y := r48) (cs' := [.sc (.int .i64 (gt v49 0).Lo), .sc (.int .i64 (gt v49 0).Hi), .sc (.bool (gt v49 0).Unknown), .sc (.int .i64 (gt v49 1).Lo), .sc (.int .i64 (gt v49 1).Hi), .sc (.bool (gt v49 1).Unknown), .sc (.int .i64 (gt v49 2).Lo), .sc (.int .i64 (gt v49 2).Hi), .sc (.bool (gt v49 2).Unknown)]) rfl rfl rfl rfl rfl rfl (ixlt h47) ti44 rfl rfl rfl rfl (etaS ev49 rfl rfl) rfl rfl ?_
                    refine RunC.blk ?_
                    refine RunC.fin ?_
                    refine AWP.rgC 76 rfl rfl ?_
                    refine pu (v := .sc _) rfl rfl (fun _ => rfl) ?_
                    refine pu (v := .sc _) rfl rfl (fun _ => rfl) ?_
                    refine RunC.fin ?_
                    refine ⟨((gt v49 0, gt v49 1, gt v49 2), w6 (s37.2 + 1)), (Option.some.inj hR).symm, ?_⟩
                    exact Weak.turnL [(0, 0), (1, 0), (2, 0), (3, 0)] [] rfl rfl (tc (trP' rfl rfl rfl rfl) (tc (trP' rfl rfl rfl rfl) (tc (trP' rfl rfl rfl rfl) (tc (.sc _) (tc (trS' rfl rfl rfl rfl rfl) (tc (.sc _) (tc (.sc _) (tc (.agg (.cons (.sc _) (.cons (.sc _) (.cons (.sc _) (.cons (.sc _) (.cons (.sc _) (.cons (.sc _) (.cons (.sc _) (.cons (.sc _) (.cons (.sc _) (.nil)))))))))) rfl) (tc (.sc _) tn))))))))) (mc rfl (.box rfl (.cons (.sc _) (.cons (.sc _) (.cons (.sc _) (.cons (.sc _) (.cons (.sc _) (.cons (.sc _) (.cons (.sc _) (.cons (.sc _) (.nil))))))))) rfl) (mc rfl (.box rfl (.cons (.sc _) (.cons (.sc _) (.cons (.sc _) (.cons (.sc _) (.cons (.sc _) (.cons (.sc _) (.cons (.sc _) (.cons (.sc _) (.cons (.sc _) (.nil)))))))))) rfl) (mc rfl (.box rfl (.cons (.sc _) (.cons (.sc _) (.cons (.sc _) (.cons (.sc _) (.cons (.sc _) (.cons (.sc _) (.cons (.sc _) (.cons (.sc _) (.cons (.sc _) (.nil)))))))))) rfl) (mc rfl (btrA' rfl) mn))))
                · refine AWP.exit ?_
                  refine exT ?_
                  refine exT ?_
                  refine exH (skT ?_)
                  refine ⟨s37.1, (Option.some.inj hR).symm, ?_⟩
                  exact Weak.turnL [(0, 0), (1, 0), (2, 0), (3, 0)] [] rfl rfl (tc (trP' rfl rfl rfl rfl) (tc (trP' rfl rfl rfl rfl) (tc (trP' rfl rfl rfl rfl) (tc (trS' rfl rfl rfl rfl rfl) (tc (.sc _) (tc (.sc _) tn)))))) (mc rfl (.box rfl (.cons (.sc _) (.cons (.sc _) (.cons (.sc _) (.cons (.sc _) (.cons (.sc _) (.cons (.sc _) (.cons (.sc _) (.cons (.sc _) (.nil))))))))) rfl) (mc rfl (.box rfl (.cons (.sc _) (.cons (.sc _) (.cons (.sc _) (.cons (.sc _) (.cons (.sc _) (.cons (.sc _) (.cons (.sc _) (.cons (.sc _) (.cons (.sc _) (.nil)))))))))) rfl) (mc rfl (.box rfl (.cons (.sc _) (.cons (.sc _) (.cons (.sc _) (.cons (.sc _) (.cons (.sc _) (.cons (.sc _) (.cons (.sc _) (.cons (.sc _) (.cons (.sc _) (.nil)))))))))) rfl) (mc rfl (btrA' rfl) mn))))
              · refine skB ?_
                refine skT ?_
                refine AWP.rgC 12 rfl rfl ?_
                refine pu (v := .sc _) rfl rfl (fun _ => rfl) ?_
                refine pu (v := .sc _) rfl rfl (fun _ => rfl) ?_
                refine RunC.fin ?_
                refine ⟨(z38, w6 (s30.2 + 1)), (Option.some.inj hR).symm, ?_⟩
                exact Weak.turnL [(0, 0), (1, 0), (2, 0), (3, 0)] [] rfl rfl (tc (trP' rfl rfl rfl rfl) (tc (trP' rfl rfl rfl rfl) (tc (trP' rfl rfl rfl rfl) (tc (trS' rfl rfl rfl rfl rfl) (tc (.sc _) (tc (.sc _) tn)))))) (mc rfl (.box rfl (.cons (.sc _) (.cons (.sc _) (.cons (.sc _) (.cons (.sc _) (.cons (.sc _) (.cons (.sc _) (.cons (.sc _) (.cons (.sc _) (.nil))))))))) rfl) (mc rfl (.box rfl (.cons (.sc _) (.cons (.sc _) (.cons (.sc _) (.cons (.sc _) (.cons (.sc _) (.cons (.sc _) (.cons (.sc _) (.cons (.sc _) (.cons (.sc _) (.nil)))))))))) rfl) (mc rfl (.box rfl (.cons (.sc _) (.cons (.sc _) (.cons (.sc _) (.cons (.sc _) (.cons (.sc _) (.cons (.sc _) (.cons (.sc _) (.cons (.sc _) (.cons (.sc _) (.nil)))))))))) rfl) (mc rfl (btrA' rfl) mn))))
          · refine AWP.exit ?_
            refine exT ?_
            refine exT ?_
            refine exH (skT ?_)
            refine ⟨s30.1, (Option.some.inj hR).symm, ?_⟩
            exact Weak.turnL [(1, 0), (2, 0)] [] rfl rfl (tc (trP' rfl rfl rfl rfl) (tc (trP' rfl rfl rfl rfl) tn)) (mc rfl (.box rfl (.cons (.sc _) (.cons (.sc _) (.cons (.sc _) (.cons (.sc _) (.cons (.sc _) (.cons (.sc _) (.cons (.sc _) (.cons (.sc _) (.cons (.sc _) (.nil)))))))))) rfl) (mc rfl (.box rfl (.cons (.sc _) (.cons (.sc _) (.cons (.sc _) (.cons (.sc _) (.cons (.sc _) (.cons (.sc _) (.cons (.sc _) (.cons (.sc _) (.cons (.sc _) (.nil)))))))))) rfl) mn))
        · refine skT ?_
          refine AWP.sq ?_
          refine AWP.rgC 14 rfl rfl ?_
          refine ldB (v := .agg _) rfl rfl rfl rfl ti46 rfl rfl ?_
          refine stB (cs' := [.sc (.int .i64 z31.1.Lo), .sc (.int .i64 z31.1.Hi), .sc (.bool z31.1.Unknown), .sc (.int .i64 z31.2.1.Lo), .sc (.int .i64 z31.2.1.Hi), .sc (.bool z31.2.1.Unknown), .sc (.int .i64 z31.2.2.Lo), .sc (.int .i64 z31.2.2.Hi), .sc (.bool z31.2.2.Unknown)]) rfl rfl rfl rfl ti46 rfl rfl rfl rfl rfl ?_
          refine pu (v := .sc _) rfl rfl (fun _ => rfl) ?_
          refine RunC.fin ?_
          refine AWP.ret ?_
          have hR := Option.some.inj hR; subst hR
          exact hQ _ _ (LS.mk [(4, .ptr 0 0 0), (5, .sc (.bool true))] (lblks 0 [boxB (α := Bound × Bound × Bound) true z31]) 1) (.tup [aggV (α := Bound × Bound × Bound) true z31, .sc (.bool true)]) [] (.inr rfl) (Weak.turnL [(0, 0)] [] rfl rfl (tc (trP' rfl rfl rfl rfl) (tc (.sc _) tn)) (mc rfl (.box rfl (.cons (.sc _) (.cons (.sc _) (.cons (.sc _) (.cons (.sc _) (.cons (.sc _) (.cons (.sc _) (.cons (.sc _) (.cons (.sc _) (.cons (.sc _) (.nil)))))))))) rfl) mn)) (ro2 (rvC (v := aggV (α := Bound × Bound × Bound) true z31) rfl rfl ti46 rfl) (rvT (v := .sc (.bool true)) rfl)) rfl rfl (.tup (.cons ldA (.cons (.sc _) .nil))) pn
theorem ok14 (s : Seen) (l : List Body) (r : (List Int) × Int) (hR : identify_Known s l = some r) : FnP Try.prog 14 [aggV false s, rowV false l] (.tup [rowV (α := Int) true r.1, .sc (.int .i64 r.2)]) := by
  refine fnP_of (FnX.walk Try.func14 rfl 48 0 (by simp [Try.ntmps14]) rfl fun W S F Q hQ => ?_)
  unfold identify_Known at hR
  refine AWP.sq ?_
  refine AWP.rgC 12 rfl rfl ?_
  refine bx (cs := _) 0 rfl rfl rfl ?_
  refine pu (v := .sc _) rfl rfl (fun _ => rfl) ?_
  refine pu (v := .sc _) rfl rfl (fun _ => rfl) ?_
  refine RunC.fin ?_
  refine AWP.sq ?_
  refine AWP.sq ?_
  refine AWP.rgC 28 rfl rfl ?_
  refine ldB (v := .agg _) rfl rfl rfl rfl ti57 rfl rfl ?_
  refine pu (v := rowV _ l) rfl rfl (fun _ => rfl) ?_
  obtain ⟨r1, hr1, hR⟩ := bindE hR
  refine cls [] rfl rfl cb32 (ok32 s l _ hr1) (.cons (.agg (.cons (.sc _) (.cons (.sc _) (.cons (.sc _) (.cons (.sc _) (.cons (.sc _) (.cons (.sc _) (.cons (.sc _) (.cons (.sc _) (.cons (.sc _) (.cons (.sc _) (.cons (.sc _) (.cons (.sc _) (.cons (.sc _) (.cons (.sc _) (.cons (.sc _) (.cons (.sc _) (.cons (.sc _) (.cons (.sc _) (.nil))))))))))))))))))) rfl) (.cons ldR' (.nil))) (.inr rfl) rfl ?_
  refine pu (v := .sc _) rfl rfl (fun _ => rfl) ?_
  refine RunC.fin ?_
  refine AWP.sq ?_
  refine AWP.rgC 36 rfl rfl ?_
  refine pu (v := .sc _) rfl rfl (fun _ => rfl) ?_
  refine pu (v := .sc _) rfl rfl (fun _ => rfl) ?_
  refine RunC.fin ?_
  refine AWP.cd hR rfl (fun h2 hR => ?_) fun h2 hR => ?_
  · refine AWP.sq ?_
    refine AWP.rgC 48 rfl rfl ?_
    refine pu (v := .sc _) rfl rfl (fun _ => rfl) ?_
    refine pu (v := .sc _) rfl rfl (fun _ => rfl) ?_
    refine pu (v := .sc _) rfl rfl (fun _ => rfl) ?_
    refine RunC.fin ?_
    refine AWP.ret ?_
    refine rtT ?_
    have hR := Option.some.inj hR; subst hR
    exact hQ _ _ (LS.mk [(4, rowV (α := Int) true []), (5, .sc (.int .i64 r1))] (lblks 0 []) 0) (.tup [rowV (α := Int) true [], .sc (.int .i64 r1)]) [] (.inr rfl) (Weak.turnL [] [] rfl rfl (tc trN (tc (.sc _) tn)) mn) (ro2 (rvT (v := rowV (α := Int) true []) rfl) (rvT (v := .sc (.int .i64 r1)) rfl)) rfl rfl (.tup (.cons ldR' (.cons (.sc _) .nil))) pn
  · refine AWP.skip ?_
    refine skT ?_
    refine AWP.sq ?_
    refine AWP.rgC 40 rfl rfl ?_
    refine pu (v := .sc _) rfl rfl (fun _ => rfl) ?_
    refine RunC.fin ?_
    refine AWP.sq ?_
    refine AWP.sq ?_
    refine AWP.rgC 52 rfl rfl ?_
    refine pu (v := rowV _ l) rfl rfl (fun _ => rfl) ?_
    refine lenL (α := Body) rfl rfl ti26 rfl ?_
    refine pu (v := .sc _) rfl rfl (fun _ => rfl) ?_
    refine RunC.fin ?_
    refine AWP.nilT Int 7 3 rfl ?_
    refine AWP.loopJ (fun s3 : (List Int) × Int => LS.mk [(2, .ptr 0 0 0), (7, slV Int 1 0 0 s3.1.length), (18, rowV (α := Body) false l), (19, .sc (.int .i64 (l.length : Int))), (20, .sc (.int .i64 s3.2))] (lblks 0 [boxB (α := Seen) true s, arrB (α := Int) 3 0 true s3.1]) 2) (fun z4 : (List Int) => LS.mk [(7, slV Int 0 0 0 z4.length)] (lblks 0 [arrB (α := Int) 3 0 true z4]) 1) (identify_Known.l1 s l) hR (s0 := (([] : List Int), 0)) (Weak.turnL [(0, 0), (52, 0)] [] rfl rfl (tc (trP' rfl rfl rfl rfl) (tc (trS' rfl rfl rfl rfl rfl) (tc trR1 (tc (.sc _) (tc (.sc _) tn))))) (mc rfl (.box rfl (.cons (.sc _) (.cons (.sc _) (.cons (.sc _) (.cons (.sc _) (.cons (.sc _) (.cons (.sc _) (.cons (.sc _) (.cons (.sc _) (.cons (.sc _) (.cons (.sc _) (.cons (.sc _) (.cons (.sc _) (.cons (.sc _) (.cons (.sc _) (.cons (.sc _) (.cons (.sc _) (.cons (.sc _) (.cons (.sc _) (.nil))))))))))))))))))) rfl) (mc rfl (btrA' rfl) mn))) (fun s3 o3 hR => ?_) fun z4 hR => ?_
    · unfold identify_Known.l1 at hR
      refine AWP.sq ?_
      refine AWP.rgC 6 rfl rfl ?_
      refine pu (v := .sc _) rfl rfl (fun _ => rfl) ?_
      refine RunC.fin ?_
      refine AWP.sq ?_
      refine AWP.cd hR rfl (fun h5 hR => ?_) fun h5 hR => ?_
      · refine AWP.skip ?_
        refine skT ?_
        refine AWP.joinX (fun z6 : (List Int) => LS.mk [(2, .ptr 0 0 0), (7, slV Int 1 0 0 z6.length), (18, rowV (α := Body) false l), (19, .sc (.int .i64 (l.length : Int))), (20, .sc (.int .i64 s3.2))] (lblks 0 [boxB (α := Seen) true s, arrB (α := Int) 3 0 true z6]) 2) hR (fun o6 hR => ?_) fun z6 hR => ?_
        · refine AWP.block ?_
          refine AWP.sq ?_
          refine AWP.rgC 30 rfl rfl ?_
          refine pu (v := .sc _) rfl rfl (fun _ => rfl) ?_
          obtain ⟨h7, hR⟩ := chkE hR
          refine ixL (α := Body) rfl rfl rfl ti26 rfl ti32 rfl h7 ?_
          refine ldR (v := .agg _) rfl rfl ti32 rfl ?_
          refine al (cs := [.sc (.int .i64 0), .sc (.int .i64 0), .sc (.int .i64 0), .sc (.int .i64 0), .sc (.int .i64 0), .sc (.int .i64 0), .sc (.int .i64 0), .sc (.int .i64 0)]) 18 rfl rfl ti32 rfl rfl ?_
          refine pu (v := .sc _) rfl rfl (fun _ => rfl) ?_
          refine stB (cs' := [.sc (.int .i64 (gt l s3.2).ID), .sc (.int .i64 (gt l s3.2).Was.X), .sc (.int .i64 (gt l s3.2).Was.Y), .sc (.int .i64 (gt l s3.2).Was.Z), .sc (.int .i64 (gt l s3.2).Here.X), .sc (.int .i64 (gt l s3.2).Here.Y), .sc (.int .i64 (gt l s3.2).Here.Z), .sc (.int .i64 (gt l s3.2).Rate)]) rfl rfl rfl rfl ti32 rfl rfl rfl rfl rfl ?_
          refine RunC.fin ?_
          refine AWP.sq ?_
          refine AWP.rgC 70 rfl rfl ?_
          refine ldB (v := .agg _) rfl rfl rfl rfl ti32 rfl rfl ?_
          refine fa rfl rfl ti57 rfl rfl ti38 rfl ?_
          refine ldB (v := .agg _) rfl rfl rfl rfl ti38 rfl rfl ?_
          obtain ⟨r8, hr8, hR⟩ := bindE hR
          refine cls [] rfl rfl cb10 (ok10 (gt l s3.2) s.At _ hr8) (.cons (.agg (.cons (.sc _) (.cons (.sc _) (.cons (.sc _) (.cons (.sc _) (.cons (.sc _) (.cons (.sc _) (.cons (.sc _) (.cons (.sc _) (.nil))))))))) rfl) (.cons (.agg (.cons (.sc _) (.cons (.sc _) (.cons (.sc _) (.nil)))) rfl) (.nil))) (.inr rfl) rfl ?_
          refine pu (v := .tup _) rfl rfl (fun _ => rfl) ?_
          refine pu (v := .agg _) rfl rfl (fun _ => rfl) ?_
          refine pu (v := .sc _) rfl rfl (fun _ => rfl) ?_
          refine al (cs := [.sc (.int .i64 0), .sc (.int .i64 0), .sc (.bool false), .sc (.int .i64 0), .sc (.int .i64 0), .sc (.bool false), .sc (.int .i64 0), .sc (.int .i64 0), .sc (.bool false)]) 58 rfl rfl ti46 rfl rfl ?_
          refine stB (cs' := [.sc (.int .i64 r8.1.1.Lo), .sc (.int .i64 r8.1.1.Hi), .sc (.bool r8.1.1.Unknown), .sc (.int .i64 r8.1.2.1.Lo), .sc (.int .i64 r8.1.2.1.Hi), .sc (.bool r8.1.2.1.Unknown), .sc (.int .i64 r8.1.2.2.Lo), .sc (.int .i64 r8.1.2.2.Hi), .sc (.bool r8.1.2.2.Unknown)]) rfl rfl rfl rfl ti46 rfl rfl rfl rfl rfl ?_
          refine pu (v := .sc _) rfl rfl (fun _ => rfl) ?_
          refine RunC.fin ?_
          refine AWP.joinX (fun z9 : Bool => LS.mk [(2, .ptr 0 0 0), (7, slV Int 1 0 0 s3.1.length), (8, .sc (.int .i64 s3.2)), (18, rowV (α := Body) false l), (19, .sc (.int .i64 (l.length : Int))), (20, .sc (.int .i64 s3.2)), (41, .sc (.bool z9))] (lblks 0 [boxB (α := Seen) true s, arrB (α := Int) 3 0 true s3.1]) 2) hR (fun o9 hR => ?_) fun z9 hR => ?_
          · refine AWP.rgD 110 [0, 1, 3, 7, 3, 31, 3, 67, 255, 511] ⟨[], [none, none, none, some [0], some [58], none, none, some [0], none, none]⟩ hmix (by kernel_rfl) rfl rfl ?_
            refine pu (v := .sc _) rfl rfl (fun _ => rfl) ?_
            refine pu (v := .sc _) rfl rfl (fun _ => rfl) ?_
            refine brR hR (fun h10 hR => ?_) fun h10 hR => ?_
            · refine fa (wtG rfl rfl rfl h10) rfl ti57 rfl rfl ti29 rfl ?_
              refine ldB (v := .agg _) (wtG rfl rfl rfl h10) rfl rfl rfl ti29 rfl rfl ?_
              refine ldB (v := .agg _) (wtG rfl rfl rfl h10) rfl rfl rfl ti46 rfl rfl ?_
              obtain ⟨r11, hr11, hR⟩ := bindE hR
              refine cls [] (wtG rfl rfl rfl h10) rfl cb34 (ok34 s.From r8.1 _ hr11) (.cons (.agg (.cons (.sc _) (.cons (.sc _) (.cons (.sc _) (.nil)))) rfl) (.cons (.agg (.cons (.sc _) (.cons (.sc _) (.cons (.sc _) (.cons (.sc _) (.cons (.sc _) (.cons (.sc _) (.cons (.sc _) (.cons (.sc _) (.cons (.sc _) (.nil)))))))))) rfl) (.nil))) (.inr rfl) rfl ?_
              refine fa (wtG rfl rfl rfl h10) rfl ti57 rfl rfl ti51 rfl ?_
              refine ldB (v := .agg _) (wtG rfl rfl rfl h10) rfl rfl rfl ti51 rfl rfl ?_
              obtain ⟨r12, hr12, hR⟩ := bindE hR
              refine cls [] (wtG rfl rfl rfl h10) rfl cb33 (ok33 r11 s.Box _ hr12) (.cons (.agg (.cons (.sc _) (.cons (.sc _) (.cons (.sc _) (.cons (.sc _) (.cons (.sc _) (.cons (.sc _) (.cons (.sc _) (.cons (.sc _) (.cons (.sc _) (.nil)))))))))) rfl) (.cons (.agg (.cons (.sc _) (.cons (.sc _) (.cons (.sc _) (.cons (.sc _) (.cons (.sc _) (.cons (.sc _) (.cons (.sc _) (.cons (.sc _) (.cons (.sc _) (.nil)))))))))) rfl) (.nil))) (.inr rfl) rfl ?_
              refine pkT (v := .sc (.bool r12)) rfl rfl h10 rfl ?_
              refine RunC.fin ?_
              have hR := Option.some.inj hR; subst hR
              exact Weak.turnL [(0, 0), (1, 0)] [] rfl rfl (tc (trP' rfl rfl rfl rfl) (tc (trS' rfl rfl rfl rfl rfl) (tc (.sc _) (tc trR1 (tc (.sc _) (tc (.sc _) (tc (.sc _) tn))))))) (mc rfl (.box rfl (.cons (.sc _) (.cons (.sc _) (.cons (.sc _) (.cons (.sc _) (.cons (.sc _) (.cons (.sc _) (.cons (.sc _) (.cons (.sc _) (.cons (.sc _) (.cons (.sc _) (.cons (.sc _) (.cons (.sc _) (.cons (.sc _) (.cons (.sc _) (.cons (.sc _) (.cons (.sc _) (.cons (.sc _) (.cons (.sc _) (.nil))))))))))))))))))) rfl) (mc rfl (btrA' rfl) mn))
            · refine sk (skW rfl rfl rfl h10) ?_
              refine sk (skW rfl rfl rfl h10) ?_
              refine sk (skW rfl rfl rfl h10) ?_
              refine sk (skW rfl rfl rfl h10) ?_
              refine sk (skW rfl rfl rfl h10) ?_
              refine sk (skW rfl rfl rfl h10) ?_
              refine sk (skW rfl rfl rfl h10) ?_
              refine pkF (v := .sc (.bool false)) rfl rfl h10 rfl ?_
              refine RunC.fin ?_
              have hR := Option.some.inj hR; subst hR
              exact Weak.turnL [(0, 0), (1, 0)] [] rfl rfl (tc (trP' rfl rfl rfl rfl) (tc (trS' rfl rfl rfl rfl rfl) (tc (.sc _) (tc trR1 (tc (.sc _) (tc (.sc _) (tc (.sc _) tn))))))) (mc rfl (.box rfl (.cons (.sc _) (.cons (.sc _) (.cons (.sc _) (.cons (.sc _) (.cons (.sc _) (.cons (.sc _) (.cons (.sc _) (.cons (.sc _) (.cons (.sc _) (.cons (.sc _) (.cons (.sc _) (.cons (.sc _) (.cons (.sc _) (.cons (.sc _) (.cons (.sc _) (.cons (.sc _) (.cons (.sc _) (.cons (.sc _) (.nil))))))))))))))))))) rfl) (mc rfl (btrA' rfl) mn))
          · refine AWP.cd hR rfl (fun h13 hR => ?_) fun h13 hR => ?_
            · refine AWP.rgC 22 rfl rfl ?_
              refine pu (v := slV Int _ _ _ _) rfl rfl (fun _ => rfl) ?_
              refine pu (v := .sc _) rfl rfl (fun _ => rfl) ?_
              refine bs (α := Int) 10 true ([s3.2] : List Int) rfl rfl ti22 rfl ti3 rfl rfl rfl rfl rfl ?_
              obtain ⟨h14, hR⟩ := chkE hR
              refine ap' (α := Int) (nw := true) (xs := s3.1) (ys := ([s3.2] : List Int)) rfl rfl rfl rfl (srcS' rfl rfl rfl) ti22 rfl ti3 rfl h14 rfl ?_
              refine pu (v := slV Int _ _ _ _) rfl rfl (fun _ => rfl) ?_
              refine RunC.blk ?_
              refine RunC.fin ?_
              have hR := Option.some.inj hR; subst hR
              exact Weak.turnL [(0, 0), (1, 0)] [] rfl rfl (tc (trP' rfl rfl rfl rfl) (tc (trS' rfl rfl rfl rfl rfl) (tc trR1 (tc (.sc _) (tc (.sc _) tn))))) (mc rfl (.box rfl (.cons (.sc _) (.cons (.sc _) (.cons (.sc _) (.cons (.sc _) (.cons (.sc _) (.cons (.sc _) (.cons (.sc _) (.cons (.sc _) (.cons (.sc _) (.cons (.sc _) (.cons (.sc _) (.cons (.sc _) (.cons (.sc _) (.cons (.sc _) (.cons (.sc _) (.cons (.sc _) (.cons (.sc _) (.cons (.sc _) (.nil))))))))))))))))))) rfl) (mc rfl (btrA' rfl) mn))
            · refine AWP.skip ?_
              refine skB ?_
              refine skT ?_
              have hR := Option.some.inj hR; subst hR
              exact Weak.turnL [(0, 0), (1, 0)] [] rfl rfl (tc (trP' rfl rfl rfl rfl) (tc (trS' rfl rfl rfl rfl rfl) (tc trR1 (tc (.sc _) (tc (.sc _) tn))))) (mc rfl (.box rfl (.cons (.sc _) (.cons (.sc _) (.cons (.sc _) (.cons (.sc _) (.cons (.sc _) (.cons (.sc _) (.cons (.sc _) (.cons (.sc _) (.cons (.sc _) (.cons (.sc _) (.cons (.sc _) (.cons (.sc _) (.cons (.sc _) (.cons (.sc _) (.cons (.sc _) (.cons (.sc _) (.cons (.sc _) (.cons (.sc _) (.nil))))))))))))))))))) rfl) (mc rfl (btrA' rfl) mn))
        · refine AWP.rgC 10 rfl rfl ?_
          refine pu (v := .sc _) rfl rfl (fun _ => rfl) ?_
          refine pu (v := .sc _) rfl rfl (fun _ => rfl) ?_
          refine RunC.fin ?_
          refine ⟨(z6, w6 (s3.2 + 1)), (Option.some.inj hR).symm, ?_⟩
          exact Weak.turnL [(0, 0), (1, 0)] [] rfl rfl (tc (trP' rfl rfl rfl rfl) (tc (trS' rfl rfl rfl rfl rfl) (tc trR1 (tc (.sc _) (tc (.sc _) tn))))) (mc rfl (.box rfl (.cons (.sc _) (.cons (.sc _) (.cons (.sc _) (.cons (.sc _) (.cons (.sc _) (.cons (.sc _) (.cons (.sc _) (.cons (.sc _) (.cons (.sc _) (.cons (.sc _) (.cons (.sc _) (.cons (.sc _) (.cons (.sc _) (.cons (.sc _) (.cons (.sc _) (.cons (.sc _) (.cons (.sc _) (.cons (.sc _) (.nil))))))))))))))))))) rfl) (mc rfl (btrA' rfl) mn))
      · refine AWP.exit ?_
        refine exT ?_
        refine exT ?_
        refine exH (skT ?_)
        refine ⟨s3.1, (Option.some.inj hR).symm, ?_⟩
        exact Weak.turnL [(1, 0)] [] rfl rfl (tc (trS' rfl rfl rfl rfl rfl) tn) (mc rfl (btrA' rfl) mn)
    · refine skT ?_
      refine AWP.sq ?_
      refine AWP.rgC 13 rfl rfl ?_
      refine pu (v := slV Int _ _ _ _) rfl rfl (fun _ => rfl) ?_
      refine pu (v := slV Int _ _ _ _) rfl rfl (fun _ => rfl) ?_
      refine pu (v := .sc _) rfl rfl (fun _ => rfl) ?_
      refine RunC.fin ?_
      refine AWP.ret ?_
      have hR := Option.some.inj hR; subst hR
      exact hQ _ _ (LS.mk [(4, rowV (α := Int) true z4), (5, .sc (.int .i64 0))] (lblks 0 []) 0) (.tup [rowV (α := Int) true z4, .sc (.int .i64 0)]) [] (.inr rfl) (Weak.turnL [] [0] rfl rfl (tc (trF' rfl rfl id rfl) (tc (.sc _) tn)) mn) (ro2 (rvT (v := rowV (α := Int) true z4) rfl) (rvT (v := .sc (.int .i64 0)) rfl)) rfl rfl (.tup (.cons ldR' (.cons (.sc _) .nil))) pn
theorem ok15 (l : List Seen) (bodies : List Body) (r : (List Int) × Int) (hR : identify_New l bodies = some r) : FnP Try.prog 15 [rowV false l, rowV false bodies] (.tup [rowV (α := Int) true r.1, .sc (.int .i64 r.2)]) := by
  refine fnP_of (FnX.walk Try.func15 rfl 39 0 (by simp [Try.ntmps15]) rfl fun W S F Q hQ => ?_)
  unfold identify_New at hR
  refine AWP.sq ?_
  refine AWP.rgC 8 rfl rfl ?_
  refine pu (v := .sc _) rfl rfl (fun _ => rfl) ?_
  refine pu (v := .sc _) rfl rfl (fun _ => rfl) ?_
  refine RunC.fin ?_
  refine AWP.sq ?_
  refine AWP.sq ?_
  refine AWP.rgC 20 rfl rfl ?_
  refine pu (v := rowV _ l) rfl rfl (fun _ => rfl) ?_
  refine lenL (α := Seen) rfl rfl ti61 rfl ?_
  refine pu (v := .sc _) rfl rfl (fun _ => rfl) ?_
  refine RunC.fin ?_
  refine AWP.cd hR rfl (fun h1 hR => ?_) fun h1 hR => ?_
  · refine AWP.sq ?_
    refine AWP.rgC 28 rfl rfl ?_
    refine pu (v := .sc _) rfl rfl (fun _ => rfl) ?_
    refine pu (v := .sc _) rfl rfl (fun _ => rfl) ?_
    refine RunC.fin ?_
    refine AWP.ret ?_
    refine rtT ?_
    have hR := Option.some.inj hR; subst hR
    exact hQ _ _ (LS.mk [(4, rowV (α := Int) true []), (5, .sc (.int .i64 2))] (lblks 0 []) 0) (.tup [rowV (α := Int) true [], .sc (.int .i64 2)]) [] (.inr rfl) (Weak.turnL [] [] rfl rfl (tc trN (tc (.sc _) tn)) mn) (ro2 (rvT (v := rowV (α := Int) true []) rfl) (rvT (v := .sc (.int .i64 2)) rfl)) rfl rfl (.tup (.cons ldR' (.cons (.sc _) .nil))) pn
  · refine AWP.skip ?_
    refine skT ?_
    refine AWP.sq ?_
    refine AWP.rgC 24 rfl rfl ?_
    refine pu (v := .sc _) rfl rfl (fun _ => rfl) ?_
    refine RunC.fin ?_
    refine AWP.sq ?_
    refine AWP.sq ?_
    refine AWP.rgC 36 rfl rfl ?_
    refine pu (v := rowV _ l) rfl rfl (fun _ => rfl) ?_
    refine lenL (α := Seen) rfl rfl ti61 rfl ?_
    refine pu (v := .sc _) rfl rfl (fun _ => rfl) ?_
    refine RunC.fin ?_
    refine AWP.nilT Int 6 3 rfl ?_
    refine AWP.loopK' (fun s2 : (List Int) × Int => LS.mk [(1, rowV (α := Body) false bodies), (6, slV Int 0 0 0 s2.1.length), (14, rowV (α := Seen) false l), (15, .sc (.int .i64 (l.length : Int))), (16, .sc (.int .i64 s2.2))] (lblks 0 [arrB (α := Int) 3 0 true s2.1]) 1) (fun z3 : (List Int) => LS.mk [(6, slV Int 0 0 0 z3.length)] (lblks 0 [arrB (α := Int) 3 0 true z3]) 1) (identify_New.l1 l bodies) hR (s0 := (([] : List Int), 0)) (Weak.turnL [(36, 0)] [] rfl rfl (tc trR1 (tc (trS' rfl rfl rfl rfl rfl) (tc trR1 (tc (.sc _) (tc (.sc _) tn))))) (mc rfl (btrA' rfl) mn)) (fun s2 o2 hR hE2 => ?_) fun z3 hR => ?_
    · unfold identify_New.l1 at hR
      refine AWP.sq ?_
      refine AWP.rgC 5 rfl rfl ?_
      refine pu (v := .sc _) rfl rfl (fun _ => rfl) ?_
      refine RunC.fin ?_
      refine AWP.sq ?_
      refine AWP.cd hR rfl (fun h4 hR => ?_) fun h4 hR => ?_
      · refine AWP.skip ?_
        refine skT ?_
        refine AWP.joinS (fun z5 : (List Int) => LS.mk [(1, rowV (α := Body) false bodies), (6, slV Int 0 0 0 z5.length), (14, rowV (α := Seen) false l), (15, .sc (.int .i64 (l.length : Int))), (16, .sc (.int .i64 s2.2))] (lblks 0 [arrB (α := Int) 3 0 true z5]) 1) hR (fun o5 hR hE5 => ?_) fun z5 hR => ?_
        · refine AWP.block ?_
          refine AWP.sq ?_
          refine AWP.rgC 29 rfl rfl ?_
          refine pu (v := .sc _) rfl rfl (fun _ => rfl) ?_
          obtain ⟨h6, hR⟩ := chkE hR
          refine ixL (α := Seen) rfl rfl rfl ti61 rfl ti57 rfl h6 ?_
          refine ldR (v := .agg _) rfl rfl ti57 rfl ?_
          refine al (cs := [.sc (.int .i64 0), .sc (.int .i64 0), .sc (.bool false), .sc (.int .i64 0), .sc (.int .i64 0), .sc (.int .i64 0), .sc (.int .i64 0), .sc (.int .i64 0), .sc (.bool false), .sc (.int .i64 0), .sc (.int .i64 0), .sc (.bool false), .sc (.int .i64 0), .sc (.int .i64 0), .sc (.bool false), .sc (.int .i64 0), .sc (.int .i64 0), .sc (.bool false)]) 17 rfl rfl ti57 rfl rfl ?_
          refine pu (v := .sc _) rfl rfl (fun _ => rfl) ?_
          refine stB (cs' := [.sc (.int .i64 (gt l s2.2).At.Lo), .sc (.int .i64 (gt l s2.2).At.Hi), .sc (.bool (gt l s2.2).At.Unknown), .sc (.int .i64 (gt l s2.2).From.X), .sc (.int .i64 (gt l s2.2).From.Y), .sc (.int .i64 (gt l s2.2).From.Z), .sc (.int .i64 (gt l s2.2).Box.X.Lo), .sc (.int .i64 (gt l s2.2).Box.X.Hi), .sc (.bool (gt l s2.2).Box.X.Unknown), .sc (.int .i64 (gt l s2.2).Box.Y.Lo), .sc (.int .i64 (gt l s2.2).Box.Y.Hi), .sc (.bool (gt l s2.2).Box.Y.Unknown), .sc (.int .i64 (gt l s2.2).Box.Z.Lo), .sc (.int .i64 (gt l s2.2).Box.Z.Hi), .sc (.bool (gt l s2.2).Box.Z.Unknown), .sc (.int .i64 (gt l s2.2).Flux.Lo), .sc (.int .i64 (gt l s2.2).Flux.Hi), .sc (.bool (gt l s2.2).Flux.Unknown)]) rfl rfl rfl rfl ti57 rfl rfl rfl rfl rfl ?_
          refine RunC.fin ?_
          refine AWP.sq ?_
          refine AWP.rgC 61 rfl rfl ?_
          refine ldB (v := .agg _) rfl rfl rfl rfl ti57 rfl rfl ?_
          refine pu (v := rowV _ bodies) rfl rfl (fun _ => rfl) ?_
          obtain ⟨r7, hr7, hR⟩ := bindE hR
          refine cls [] rfl rfl cb14 (ok14 (gt l s2.2) bodies _ hr7) (.cons (.agg (.cons (.sc _) (.cons (.sc _) (.cons (.sc _) (.cons (.sc _) (.cons (.sc _) (.cons (.sc _) (.cons (.sc _) (.cons (.sc _) (.cons (.sc _) (.cons (.sc _) (.cons (.sc _) (.cons (.sc _) (.cons (.sc _) (.cons (.sc _) (.cons (.sc _) (.cons (.sc _) (.cons (.sc _) (.cons (.sc _) (.nil))))))))))))))))))) rfl) (.cons ldR' (.nil))) (.inr rfl) rfl ?_
          refine pu (v := .tup _) rfl rfl (fun _ => rfl) ?_
          refine pu (v := rowV _ r7.1) rfl rfl (fun _ => rfl) ?_
          refine pu (v := .sc _) rfl rfl (fun _ => rfl) ?_
          refine pu (v := rowV _ r7.1) rfl rfl (fun _ => rfl) ?_
          refine pu (v := .sc _) rfl rfl (fun _ => rfl) ?_
          refine RunC.fin ?_
          refine AWP.sq ?_
          refine AWP.sq ?_
          refine AWP.rgC 69 rfl rfl ?_
          refine pu (v := .sc _) rfl rfl (fun _ => rfl) ?_
          refine pu (v := .sc _) rfl rfl (fun _ => rfl) ?_
          refine RunC.fin ?_
          refine AWP.cd hR rfl (fun h8 hR => ?_) fun h8 hR => ?_
          · refine AWP.sq ?_
            refine AWP.rgC 81 rfl rfl ?_
            refine pu (v := .sc _) rfl rfl (fun _ => rfl) ?_
            refine pu (v := .sc _) rfl rfl (fun _ => rfl) ?_
            refine pu (v := .sc _) rfl rfl (fun _ => rfl) ?_
            refine RunC.fin ?_
            refine AWP.ret ?_
            refine rtT ?_
            refine rtB ?_
            refine rtT ?_
            replace hR := escJ hR hE5
            refine rtT ?_
            refine rtB (rtT ?_)
            replace hR := escL hR hE2
            refine rtT ?_
            have hR := Option.some.inj hR; subst hR
            exact hQ _ _ (LS.mk [(4, rowV (α := Int) true []), (5, .sc (.int .i64 r7.2))] (lblks 0 []) 0) (.tup [rowV (α := Int) true [], .sc (.int .i64 r7.2)]) [] (.inr rfl) (Weak.turnL [] [] rfl rfl (tc trN (tc (.sc _) tn)) mn) (ro2 (rvT (v := rowV (α := Int) true []) rfl) (rvT (v := .sc (.int .i64 r7.2)) rfl)) rfl rfl (.tup (.cons ldR' (.cons (.sc _) .nil))) pn
          · refine AWP.skip ?_
            refine skT ?_
            refine AWP.sq ?_
            refine AWP.rgC 81 rfl rfl ?_
            refine pu (v := rowV _ r7.1) rfl rfl (fun _ => rfl) ?_
            refine lenL (α := Int) rfl rfl ti22 rfl ?_
            refine pu (v := .sc _) rfl rfl (fun _ => rfl) ?_
            refine RunC.fin ?_
            refine AWP.cd hR rfl (fun h9 hR => ?_) fun h9 hR => ?_
            · refine AWP.rgC 101 rfl rfl ?_
              refine pu (v := slV Int _ _ _ _) rfl rfl (fun _ => rfl) ?_
              refine pu (v := .sc _) rfl rfl (fun _ => rfl) ?_
              refine bs (α := Int) 89 true ([s2.2] : List Int) rfl rfl ti22 rfl ti3 rfl rfl rfl rfl rfl ?_
              obtain ⟨h10, hR⟩ := chkE hR
              refine ap' (α := Int) (nw := true) (xs := s2.1) (ys := ([s2.2] : List Int)) rfl rfl rfl rfl (srcS' rfl rfl rfl) ti22 rfl ti3 rfl h10 rfl ?_
              refine pu (v := slV Int _ _ _ _) rfl rfl (fun _ => rfl) ?_
              refine RunC.blk ?_
              refine RunC.fin ?_
              refine ⟨(s2.1 ++ ([s2.2] : List Int)), (Option.some.inj hR).symm, ?_⟩
              exact Weak.turnL [(0, 0)] [] rfl rfl (tc trR1 (tc (trS' rfl rfl rfl rfl rfl) (tc trR1 (tc (.sc _) (tc (.sc _) tn))))) (mc rfl (btrA' rfl) mn)
            · refine AWP.skip ?_
              refine skB ?_
              refine skT ?_
              refine ⟨s2.1, (Option.some.inj hR).symm, ?_⟩
              exact Weak.turnL [(0, 0)] [] rfl rfl (tc trR1 (tc (trS' rfl rfl rfl rfl rfl) (tc trR1 (tc (.sc _) (tc (.sc _) tn))))) (mc rfl (btrA' rfl) mn)
        · refine AWP.rgC 9 rfl rfl ?_
          refine pu (v := .sc _) rfl rfl (fun _ => rfl) ?_
          refine pu (v := .sc _) rfl rfl (fun _ => rfl) ?_
          refine RunC.fin ?_
          refine ⟨(z5, w6 (s2.2 + 1)), (Option.some.inj hR).symm, ?_⟩
          exact Weak.turnL [(0, 0)] [] rfl rfl (tc trR1 (tc (trS' rfl rfl rfl rfl rfl) (tc trR1 (tc (.sc _) (tc (.sc _) tn))))) (mc rfl (btrA' rfl) mn)
      · refine AWP.exit ?_
        refine exT ?_
        refine exT ?_
        refine exH (skT ?_)
        refine ⟨s2.1, (Option.some.inj hR).symm, ?_⟩
        exact Weak.turnL [(0, 0)] [] rfl rfl (tc (trS' rfl rfl rfl rfl rfl) tn) (mc rfl (btrA' rfl) mn)
    · refine skT ?_
      refine AWP.sq ?_
      refine AWP.rgC 13 rfl rfl ?_
      refine pu (v := slV Int _ _ _ _) rfl rfl (fun _ => rfl) ?_
      refine pu (v := slV Int _ _ _ _) rfl rfl (fun _ => rfl) ?_
      refine pu (v := .sc _) rfl rfl (fun _ => rfl) ?_
      refine RunC.fin ?_
      refine AWP.ret ?_
      have hR := Option.some.inj hR; subst hR
      exact hQ _ _ (LS.mk [(4, rowV (α := Int) true z3), (5, .sc (.int .i64 0))] (lblks 0 []) 0) (.tup [rowV (α := Int) true z3, .sc (.int .i64 0)]) [] (.inr rfl) (Weak.turnL [] [0] rfl rfl (tc (trF' rfl rfl id rfl) (tc (.sc _) tn)) mn) (ro2 (rvT (v := rowV (α := Int) true z3) rfl) (rvT (v := .sc (.int .i64 0)) rfl)) rfl rfl (.tup (.cons ldR' (.cons (.sc _) .nil))) pn
theorem ok4 (s : spymake_Stream) (low : Int) (high : Int) (r : Int × spymake_Stream) (hR : Stream_Range s low high = some r) : FnD Try.prog 4 [boxB false s] [.ptr 0 0 0, .sc (.int .i64 low), .sc (.int .i64 high)] (.sc (.int .i64 r.1)) [boxB false r.2] := by
  refine FnX.walk Try.func4 rfl 19 1 (by simp [Try.ntmps4]) rfl fun W S F Q hQ => ?_
  unfold Stream_Range at hR
  refine AWP.sq ?_
  refine AWP.rgC 5 rfl rfl ?_
  refine pu (v := .sc _) rfl rfl (fun _ => rfl) ?_
  refine RunC.fin ?_
  refine AWP.sq ?_
  refine AWP.sq ?_
  refine AWP.rgC 17 rfl rfl ?_
  refine pu (v := .sc _) rfl rfl (fun _ => rfl) ?_
  refine pu (v := .sc _) rfl rfl (fun _ => rfl) ?_
  refine pu (v := .sc _) rfl rfl (fun _ => rfl) ?_
  refine RunC.fin ?_
  refine AWP.cd hR rfl (fun h1 hR => ?_) fun h1 hR => ?_
  · refine AWP.sq ?_
    refine AWP.rgC 25 rfl rfl ?_
    refine pu (v := .sc _) rfl rfl (fun _ => rfl) ?_
    refine pu (v := .sc _) rfl rfl (fun _ => rfl) ?_
    refine RunC.fin ?_
    refine AWP.ret ?_
    refine rtT ?_
    have hR := Option.some.inj hR; subst hR
    exact hQ _ _ (LS.mk [(6, .sc (.int .i64 low))] (lblks 0 [boxB (α := spymake_Stream) false s]) 1) (.sc (.int .i64 low)) [] (.inr rfl) (Weak.turnL [(0, 0)] [] rfl rfl (tc (.sc _) tn) (mc rfl (.box rfl (.cons trR1 (.cons (.sc _) (.nil))) rfl) mn)) (ro1 (rvT (v := .sc (.int .i64 low)) rfl)) rfl rfl (.sc _) (pc rfl bldB pn)
  · refine AWP.skip ?_
    refine skT ?_
    refine AWP.sq ?_
    refine AWP.rgC 53 rfl rfl ?_
    refine pu (v := .sc _) rfl rfl (fun _ => rfl) ?_
    refine pu (v := .ptr _ _ _) rfl rfl (fun _ => rfl) ?_
    refine pu (v := .sc _) rfl rfl (fun _ => rfl) ?_
    refine pu (v := .sc _) rfl rfl (fun _ => rfl) ?_
    refine pu (v := .sc _) rfl rfl (fun _ => rfl) ?_
    refine pu (v := .sc _) rfl rfl (fun _ => rfl) ?_
    obtain ⟨r2, hr2, hR⟩ := bindE hR
    refine cps (res' := .sc (.int .i64 r2.1)) (ups := [(0, boxB (α := spymake_Stream) false r2.2)]) [0] 41 rfl rfl rfl cb7 (ok7 s (w6 ((w6 (high - low)) + 1)) _ hr2) (.cons (ldP rfl rfl) (.cons (.sc _) (.nil))) (pc rfl (.box (.cons ldR' (.cons (.sc _) (.nil))) rfl) pn) rfl rfl rfl rfl rfl (by first | rfl | exact renR | exact renA | exact renS | simp only [V.ren, V.rens, renR, renA, renS] | (simp only [V.ren, V.rens, renR, renA, renS]; rfl)) (by simp only [passUps, renBox, renArr]; rfl) ?_
    refine pu (v := .sc _) rfl rfl (fun _ => rfl) ?_
    refine pu (v := .sc _) rfl rfl (fun _ => rfl) ?_
    refine RunC.fin ?_
    refine AWP.ret ?_
    have hR := Option.some.inj hR; subst hR
    exact hQ _ _ (LS.mk [(6, .sc (.int .i64 (w6 (low + r2.1))))] (lblks 0 [boxB (α := spymake_Stream) false r2.2]) 1) (.sc (.int .i64 (w6 (low + r2.1)))) [] (.inr rfl) (Weak.turnL [(0, 0)] [] rfl rfl (tc (.sc _) tn) (mc rfl (.box rfl (.cons trR1 (.cons (.sc _) (.nil))) rfl) mn)) (ro1 (rvT (v := .sc (.int .i64 (w6 (low + r2.1)))) rfl)) rfl rfl (.sc _) (pc rfl bldB pn)
theorem ok31 (c : Int) (p1 : Int) (p2 : spymake_Stream) (p3 : Int) (r : Bound × spymake_Stream) (hR : Stream_Held_1 c p1 p2 p3 = some r) : FnD Try.prog 31 [boxB false p2, .box [.ptr 0 0 0]] [.sc (.int .i64 c), .rp (Cl.c false p1), .ptr 1 0 0, .rp (Cl.c false p3)] (aggV (α := Bound) true r.1) [boxB false r.2, .box [.ptr 0 0 0]] := by
  refine FnX.walk Try.func31 rfl 23 2 (by simp [Try.ntmps31]) rfl fun W S F Q hQ => ?_
  unfold Stream_Held_1 at hR
  refine AWP.sq ?_
  refine AWP.rgC 6 rfl rfl ?_
  refine al (cs := [.sc (.int .i64 0), .sc (.int .i64 0), .sc (.bool false)]) 2 rfl rfl ti44 rfl rfl ?_
  refine RunC.fin ?_
  refine AWP.sq ?_
  refine AWP.rgD 78 [0, 0, 3, 0, 0, 16, 56, 127, 0, 0, 768, 0, 0, 4096, 14456, 32632, 65535, 131071] ⟨[6, 14], [some [], none, none, some [1], some [], none, some [0], none, some [], none, none, some [1], some [], none, some [0], none, none, some [2]]⟩ hmix (by kernel_rfl) rfl rfl ?_
  refine ldR (v := .sc _) rfl rfl ti2 rfl ?_
  refine pu (v := .sc _) rfl rfl (fun _ => rfl) ?_
  refine pu (v := .sc _) rfl rfl (fun _ => rfl) ?_
  refine ldB (v := .ptr _ _ _) rfl rfl rfl rfl ti23 rfl rfl ?_
  refine ldR (v := .sc _) rfl rfl ti3 rfl ?_
  refine pu (v := .sc _) rfl rfl (fun _ => rfl) ?_
  obtain ⟨r1, hr1, hR⟩ := bindE hR
  refine cps (res' := .sc (.int .i64 r1.1)) (ups := [(0, boxB (α := spymake_Stream) false r1.2)]) [0] 30 rfl rfl rfl cb7 (ok7 p2 (w6 (p3 + 1)) _ hr1) (.cons (ldP rfl rfl) (.cons (.sc _) (.nil))) (pc rfl (.box (.cons ldR' (.cons (.sc _) (.nil))) rfl) pn) rfl rfl rfl rfl rfl (by first | rfl | exact renR | exact renA | exact renS | simp only [V.ren, V.rens, renR, renA, renS] | (simp only [V.ren, V.rens, renR, renA, renS]; rfl)) (by simp only [passUps, renBox, renArr]; rfl) ?_
  refine pu (v := .sc _) rfl rfl (fun _ => rfl) ?_
  refine ldR (v := .sc _) rfl rfl ti2 rfl ?_
  refine pu (v := .sc _) rfl rfl (fun _ => rfl) ?_
  refine pu (v := .sc _) rfl rfl (fun _ => rfl) ?_
  refine ldB (v := .ptr _ _ _) rfl rfl rfl rfl ti23 rfl rfl ?_
  refine ldR (v := .sc _) rfl rfl ti3 rfl ?_
  refine pu (v := .sc _) rfl rfl (fun _ => rfl) ?_
  obtain ⟨r2, hr2, hR⟩ := bindE hR
  refine cps (res' := .sc (.int .i64 r2.1)) (ups := [(0, boxB (α := spymake_Stream) false r2.2)]) [0] 62 rfl rfl rfl cb7 (ok7 r1.2 (w6 (p3 + 1)) _ hr2) (.cons (ldP rfl rfl) (.cons (.sc _) (.nil))) (pc rfl (.box (.cons ldR' (.cons (.sc _) (.nil))) rfl) pn) rfl rfl rfl rfl rfl (by first | rfl | exact renR | exact renA | exact renS | simp only [V.ren, V.rens, renR, renA, renS] | (simp only [V.ren, V.rens, renR, renA, renS]; rfl)) (by simp only [passUps, renBox, renArr]; rfl) ?_
  refine pu (v := .sc _) rfl rfl (fun _ => rfl) ?_
  refine bu (cs := [.sc (.int .i64 (w6 ((w6 (p1 * c)) - r1.1))), .sc (.int .i64 (w6 ((w6 (p1 * c)) + r2.1))), .sc (.bool false)]) rfl bt44 rfl ?_
  refine stB (cs' := [.sc (.int .i64 (w6 ((w6 (p1 * c)) - r1.1))), .sc (.int .i64 (w6 ((w6 (p1 * c)) + r2.1))), .sc (.bool false)]) rfl rfl rfl rfl ti44 rfl rfl rfl rfl rfl ?_
  refine RunC.fin ?_
  refine AWP.ret ?_
  have hR := Option.some.inj hR; subst hR
  exact hQ _ _ (LS.mk [(5, .ptr 2 0 0)] (lblks 0 [boxB (α := spymake_Stream) false r2.2, .box [.ptr 0 0 0], boxB (α := Bound) true (Bound.mk (w6 ((w6 (p1 * c)) - r1.1)) (w6 ((w6 (p1 * c)) + r2.1)) false)]) 3) (aggV (α := Bound) true (Bound.mk (w6 ((w6 (p1 * c)) - r1.1)) (w6 ((w6 (p1 * c)) + r2.1)) false)) [] (.inr rfl) (Weak.turnL [(0, 0), (1, 0), (2, 0)] [] rfl rfl (tc (trP' rfl rfl rfl rfl) tn) (mc rfl (.box rfl (.cons trR1 (.cons (.sc _) (.nil))) rfl) (mc rfl (.box rfl (.cons (trP' rfl rfl rfl rfl) (.nil)) rfl) (mc rfl (.box rfl (.cons (.sc _) (.cons (.sc _) (.cons (.sc _) (.nil)))) rfl) mn)))) (ro1 (rvC (v := aggV (α := Bound) true (Bound.mk (w6 ((w6 (p1 * c)) - r1.1)) (w6 ((w6 (p1 * c)) + r2.1)) false)) rfl rfl ti44 rfl)) rfl rfl ldA (pc rfl bldB (pc rfl (.box (.cons (ldP rfl rfl) .nil) rfl) pn))
theorem ok31_63 (c : Int) (p1 : Int) (p2 : spymake_Stream) (p3 : Int) (r : Bound × spymake_Stream) (hR : Stream_Held_1 c p1 p2 p3 = some r) : FnD Try.prog 31 [boxB false p1, boxB false p2, .box [.ptr 1 0 0], boxB false p3] [.sc (.int .i64 c), .ptr 0 0 0, .ptr 2 0 0, .ptr 3 0 0] (aggV (α := Bound) true r.1) [boxB false p1, boxB false r.2, .box [.ptr 1 0 0], boxB false p3] := by
  refine FnX.walk Try.func31 rfl 23 4 (by simp [Try.ntmps31]) rfl fun W S F Q hQ => ?_
  unfold Stream_Held_1 at hR
  refine AWP.sq ?_
  refine AWP.rgC 8 rfl rfl ?_
  refine al (cs := [.sc (.int .i64 0), .sc (.int .i64 0), .sc (.bool false)]) 4 rfl rfl ti44 rfl rfl ?_
  refine RunC.fin ?_
  refine AWP.sq ?_
  refine AWP.rgD 80 [0, 0, 3, 0, 0, 16, 56, 127, 0, 0, 768, 0, 0, 4096, 14456, 32632, 65535, 131071] ⟨[6, 14], [some [0], none, none, some [2], some [3], none, some [1], none, some [0], none, none, some [2], some [3], none, some [1], none, none, some [4]]⟩ hmix (by kernel_rfl) rfl rfl ?_
  refine ldB (v := .sc _) rfl rfl rfl rfl ti2 rfl rfl ?_
  refine pu (v := .sc _) rfl rfl (fun _ => rfl) ?_
  refine pu (v := .sc _) rfl rfl (fun _ => rfl) ?_
  refine ldB (v := .ptr _ _ _) rfl rfl rfl rfl ti23 rfl rfl ?_
  refine ldB (v := .sc _) rfl rfl rfl rfl ti3 rfl rfl ?_
  refine pu (v := .sc _) rfl rfl (fun _ => rfl) ?_
  obtain ⟨r1, hr1, hR⟩ := bindE hR
  refine cps (res' := .sc (.int .i64 r1.1)) (ups := [(1, boxB (α := spymake_Stream) false r1.2)]) [1] 32 rfl rfl rfl cb7 (ok7 p2 (w6 (p3 + 1)) _ hr1) (.cons (ldP rfl rfl) (.cons (.sc _) (.nil))) (pc rfl (.box (.cons ldR' (.cons (.sc _) (.nil))) rfl) pn) rfl rfl rfl rfl rfl (by first | rfl | exact renR | exact renA | exact renS | simp only [V.ren, V.rens, renR, renA, renS] | (simp only [V.ren, V.rens, renR, renA, renS]; rfl)) (by simp only [passUps, renBox, renArr]; rfl) ?_
  refine pu (v := .sc _) rfl rfl (fun _ => rfl) ?_
  refine ldB (v := .sc _) rfl rfl rfl rfl ti2 rfl rfl ?_
  refine pu (v := .sc _) rfl rfl (fun _ => rfl) ?_
  refine pu (v := .sc _) rfl rfl (fun _ => rfl) ?_
  refine ldB (v := .ptr _ _ _) rfl rfl rfl rfl ti23 rfl rfl ?_
  refine ldB (v := .sc _) rfl rfl rfl rfl ti3 rfl rfl ?_
  refine pu (v := .sc _) rfl rfl (fun _ => rfl) ?_
  obtain ⟨r2, hr2, hR⟩ := bindE hR
  refine cps (res' := .sc (.int .i64 r2.1)) (ups := [(1, boxB (α := spymake_Stream) false r2.2)]) [1] 64 rfl rfl rfl cb7 (ok7 r1.2 (w6 (p3 + 1)) _ hr2) (.cons (ldP rfl rfl) (.cons (.sc _) (.nil))) (pc rfl (.box (.cons ldR' (.cons (.sc _) (.nil))) rfl) pn) rfl rfl rfl rfl rfl (by first | rfl | exact renR | exact renA | exact renS | simp only [V.ren, V.rens, renR, renA, renS] | (simp only [V.ren, V.rens, renR, renA, renS]; rfl)) (by simp only [passUps, renBox, renArr]; rfl) ?_
  refine pu (v := .sc _) rfl rfl (fun _ => rfl) ?_
  refine bu (cs := [.sc (.int .i64 (w6 ((w6 (p1 * c)) - r1.1))), .sc (.int .i64 (w6 ((w6 (p1 * c)) + r2.1))), .sc (.bool false)]) rfl bt44 rfl ?_
  refine stB (cs' := [.sc (.int .i64 (w6 ((w6 (p1 * c)) - r1.1))), .sc (.int .i64 (w6 ((w6 (p1 * c)) + r2.1))), .sc (.bool false)]) rfl rfl rfl rfl ti44 rfl rfl rfl rfl rfl ?_
  refine RunC.fin ?_
  refine AWP.ret ?_
  have hR := Option.some.inj hR; subst hR
  exact hQ _ _ (LS.mk [(5, .ptr 4 0 0)] (lblks 0 [boxB (α := Int) true p1, boxB (α := spymake_Stream) false r2.2, .box [.ptr 1 0 0], boxB (α := Int) true p3, boxB (α := Bound) true (Bound.mk (w6 ((w6 (p1 * c)) - r1.1)) (w6 ((w6 (p1 * c)) + r2.1)) false)]) 5) (aggV (α := Bound) true (Bound.mk (w6 ((w6 (p1 * c)) - r1.1)) (w6 ((w6 (p1 * c)) + r2.1)) false)) [] (.inr rfl) (Weak.turnL [(0, 0), (1, 0), (2, 0), (3, 0), (4, 0)] [] rfl rfl (tc (trP' rfl rfl rfl rfl) tn) (mc rfl (.box rfl (.cons (.sc _) (.nil)) rfl) (mc rfl (.box rfl (.cons trR1 (.cons (.sc _) (.nil))) rfl) (mc rfl (.box rfl (.cons (trP' rfl rfl rfl rfl) (.nil)) rfl) (mc rfl (.box rfl (.cons (.sc _) (.nil)) rfl) (mc rfl (.box rfl (.cons (.sc _) (.cons (.sc _) (.cons (.sc _) (.nil)))) rfl) mn)))))) (ro1 (rvC (v := aggV (α := Bound) true (Bound.mk (w6 ((w6 (p1 * c)) - r1.1)) (w6 ((w6 (p1 * c)) + r2.1)) false)) rfl rfl ti44 rfl)) rfl rfl ldA (pc rfl bldB (pc rfl bldB (pc rfl (.box (.cons (ldP rfl rfl) .nil) rfl) (pc rfl bldB pn))))
theorem ok12 (s : spymake_Stream) (v : Vec) (most : Int) (r : Box × spymake_Stream) (hR : Stream_Held s v most = some r) : FnD Try.prog 12 [boxB false s] [.ptr 0 0 0, aggV false v, .sc (.int .i64 most)] (aggV (α := Box) true r.1) [boxB false r.2] := by
  refine FnX.walk Try.func12 rfl 25 1 (by simp [Try.ntmps12]) rfl fun W S F Q hQ => ?_
  unfold Stream_Held at hR
  refine AWP.sq ?_
  refine AWP.rgC 17 rfl rfl ?_
  refine bx (cs := [.ptr 0 0 0]) 1 rfl rfl rfl ?_
  refine bx (cs := _) 5 rfl rfl rfl ?_
  refine bx (cs := [.sc (.int .i64 most)]) 9 rfl rfl rfl ?_
  refine al (cs := [.sc (.int .i64 0), .sc (.int .i64 0), .sc (.bool false), .sc (.int .i64 0), .sc (.int .i64 0), .sc (.bool false), .sc (.int .i64 0), .sc (.int .i64 0), .sc (.bool false)]) 13 rfl rfl ti51 rfl rfl ?_
  refine RunC.fin ?_
  refine AWP.sq ?_
  refine AWP.rgC 33 rfl rfl ?_
  refine ldB (v := .ptr _ _ _) rfl rfl rfl rfl ti23 rfl rfl ?_
  obtain ⟨r1, hr1, hR⟩ := bindE hR
  refine cps (res' := .sc (.int .i64 r1.1)) (ups := [(0, boxB (α := spymake_Stream) false r1.2)]) [0] 21 rfl rfl rfl cb4 (ok4 s 1 8 _ hr1) (.cons (ldP rfl rfl) (.cons (.sc _) (.cons (.sc _) (.nil)))) (pc rfl (.box (.cons ldR' (.cons (.sc _) (.nil))) rfl) pn) rfl rfl rfl rfl rfl (by first | rfl | exact renR | exact renA | exact renS | simp only [V.ren, V.rens, renR, renA, renS] | (simp only [V.ren, V.rens, renR, renA, renS]; rfl)) (by simp only [passUps, renBox, renArr]; rfl) ?_
  refine al (cs := [.sc (.int .i64 0)]) 25 rfl rfl ti2 rfl rfl ?_
  refine stB (cs' := [.sc (.int .i64 r1.1)]) rfl rfl rfl rfl ti2 rfl rfl rfl rfl rfl ?_
  refine RunC.fin ?_
  refine AWP.sq ?_
  refine AWP.rgC 41 rfl rfl ?_
  refine pu (v := .fn _ _) rfl rfl (fun _ => rfl) ?_
  refine pu (v := .fn _ _) rfl rfl (fun _ => rfl) ?_
  refine RunC.fin ?_
  refine AWP.sq ?_
  refine AWP.rgD 97 [0, 0, 2, 7, 0, 0, 32, 127, 0, 0, 512, 2047, 4095, 8191] ⟨[3, 7, 11], [none, none, some [5], some [0, 1, 9, 25], none, none, some [5], some [0, 1, 9, 25], none, none, some [5], some [0, 1, 9, 25], none, some [13]]⟩ hmix (by kernel_rfl) rfl rfl ?_
  refine pu (v := .fn _ _) rfl rfl (fun _ => rfl) ?_
  refine fa rfl rfl ti29 rfl rfl ti2 rfl ?_
  refine ldB (v := .sc _) rfl rfl rfl rfl ti2 rfl rfl ?_
  obtain ⟨r2, hr2, hR⟩ := bindE hR
  refine cps (res' := aggV (α := Bound) true r2.1) (ups := [(25, boxB (α := Int) true r1.1), (0, boxB (α := spymake_Stream) false r2.2), (1, .box [.ptr 0 0 0]), (9, boxB (α := Int) true most)]) [25, 0, 1, 9] 53 rfl rfl rfl cb31 (ok31_63 v.X r1.1 r1.2 most _ hr2) (.cons (.sc _) (.cons (ldP rfl rfl) (.cons (ldP rfl rfl) (.cons (ldP rfl rfl) (.nil))))) (pc rfl (.box (.cons (.sc _) (.nil)) rfl) (pc rfl (.box (.cons ldR' (.cons (.sc _) (.nil))) rfl) (pc rfl (.box (.cons (ldP rfl rfl) .nil) rfl) (pc rfl (.box (.cons (.sc _) (.nil)) rfl) pn)))) rfl rfl rfl rfl rfl (by first | rfl | exact renR | exact renA | exact renS | simp only [V.ren, V.rens, renR, renA, renS] | (simp only [V.ren, V.rens, renR, renA, renS]; rfl)) (by simp only [passUps, renBox, renArr]; rfl) ?_
  refine pu (v := .fn _ _) rfl rfl (fun _ => rfl) ?_
  refine fa rfl rfl ti29 rfl rfl ti2 rfl ?_
  refine ldB (v := .sc _) rfl rfl rfl rfl ti2 rfl rfl ?_
  obtain ⟨r3, hr3, hR⟩ := bindE hR
  refine cps (res' := aggV (α := Bound) true r3.1) (ups := [(25, boxB (α := Int) true r1.1), (0, boxB (α := spymake_Stream) false r3.2), (1, .box [.ptr 0 0 0]), (9, boxB (α := Int) true most)]) [25, 0, 1, 9] 69 rfl rfl rfl cb31 (ok31_63 v.Y r1.1 r2.2 most _ hr3) (.cons (.sc _) (.cons (ldP rfl rfl) (.cons (ldP rfl rfl) (.cons (ldP rfl rfl) (.nil))))) (pc rfl (.box (.cons (.sc _) (.nil)) rfl) (pc rfl (.box (.cons ldR' (.cons (.sc _) (.nil))) rfl) (pc rfl (.box (.cons (ldP rfl rfl) .nil) rfl) (pc rfl (.box (.cons (.sc _) (.nil)) rfl) pn)))) rfl rfl rfl rfl rfl (by first | rfl | exact renR | exact renA | exact renS | simp only [V.ren, V.rens, renR, renA, renS] | (simp only [V.ren, V.rens, renR, renA, renS]; rfl)) (by simp only [passUps, renBox, renArr]; rfl) ?_
  refine pu (v := .fn _ _) rfl rfl (fun _ => rfl) ?_
  refine fa rfl rfl ti29 rfl rfl ti2 rfl ?_
  refine ldB (v := .sc _) rfl rfl rfl rfl ti2 rfl rfl ?_
  obtain ⟨r4, hr4, hR⟩ := bindE hR
  refine cps (res' := aggV (α := Bound) true r4.1) (ups := [(25, boxB (α := Int) true r1.1), (0, boxB (α := spymake_Stream) false r4.2), (1, .box [.ptr 0 0 0]), (9, boxB (α := Int) true most)]) [25, 0, 1, 9] 85 rfl rfl rfl cb31 (ok31_63 v.Z r1.1 r3.2 most _ hr4) (.cons (.sc _) (.cons (ldP rfl rfl) (.cons (ldP rfl rfl) (.cons (ldP rfl rfl) (.nil))))) (pc rfl (.box (.cons (.sc _) (.nil)) rfl) (pc rfl (.box (.cons ldR' (.cons (.sc _) (.nil))) rfl) (pc rfl (.box (.cons (ldP rfl rfl) .nil) rfl) (pc rfl (.box (.cons (.sc _) (.nil)) rfl) pn)))) rfl rfl rfl rfl rfl (by first | rfl | exact renR | exact renA | exact renS | simp only [V.ren, V.rens, renR, renA, renS] | (simp only [V.ren, V.rens, renR, renA, renS]; rfl)) (by simp only [passUps, renBox, renArr]; rfl) ?_
  refine bu (cs := [.sc (.int .i64 r2.1.Lo), .sc (.int .i64 r2.1.Hi), .sc (.bool r2.1.Unknown), .sc (.int .i64 r3.1.Lo), .sc (.int .i64 r3.1.Hi), .sc (.bool r3.1.Unknown), .sc (.int .i64 r4.1.Lo), .sc (.int .i64 r4.1.Hi), .sc (.bool r4.1.Unknown)]) rfl bt51 rfl ?_
  refine stB (cs' := [.sc (.int .i64 r2.1.Lo), .sc (.int .i64 r2.1.Hi), .sc (.bool r2.1.Unknown), .sc (.int .i64 r3.1.Lo), .sc (.int .i64 r3.1.Hi), .sc (.bool r3.1.Unknown), .sc (.int .i64 r4.1.Lo), .sc (.int .i64 r4.1.Hi), .sc (.bool r4.1.Unknown)]) rfl rfl rfl rfl ti51 rfl rfl rfl rfl rfl ?_
  refine RunC.fin ?_
  refine AWP.ret ?_
  have hR := Option.some.inj hR; subst hR
  exact hQ _ _ (LS.mk [(6, .ptr 1 0 0)] (lblks 0 [boxB (α := spymake_Stream) false r4.2, boxB (α := Box) true (Box.mk r2.1 r3.1 r4.1)]) 2) (aggV (α := Box) true (Box.mk r2.1 r3.1 r4.1)) [] (.inr rfl) (Weak.turnL [(0, 0), (13, 0)] [] rfl rfl (tc (trP' rfl rfl rfl rfl) tn) (mc rfl (.box rfl (.cons trR1 (.cons (.sc _) (.nil))) rfl) (mc rfl (.box rfl (.cons (.sc _) (.cons (.sc _) (.cons (.sc _) (.cons (.sc _) (.cons (.sc _) (.cons (.sc _) (.cons (.sc _) (.cons (.sc _) (.cons (.sc _) (.nil)))))))))) rfl) mn))) (ro1 (rvC (v := aggV (α := Box) true (Box.mk r2.1 r3.1 r4.1)) rfl rfl ti51 rfl)) rfl rfl ldA (pc rfl bldB pn)
theorem ok13 (a : Vec) (b : Vec) (r : Vec) (hR : spykeep4_from a b = some r) : FnP Try.prog 13 [aggV false a, aggV false b] (aggV (α := Vec) true r) := by
  refine fnP_of (FnX.walk Try.func13 rfl 21 0 (by simp [Try.ntmps13]) rfl fun W S F Q hQ => ?_)
  unfold spykeep4_from at hR
  refine AWP.sq ?_
  refine AWP.rgC 12 rfl rfl ?_
  refine bx (cs := _) 0 rfl rfl rfl ?_
  refine bx (cs := _) 4 rfl rfl rfl ?_
  refine al (cs := [.sc (.int .i64 0), .sc (.int .i64 0), .sc (.int .i64 0)]) 8 rfl rfl ti29 rfl rfl ?_
  refine RunC.fin ?_
  refine AWP.sq ?_
  refine AWP.rgC 80 rfl rfl ?_
  refine fa rfl rfl ti29 rfl rfl ti2 rfl ?_
  refine ldB (v := .sc _) rfl rfl rfl rfl ti2 rfl rfl ?_
  refine fa rfl rfl ti29 rfl rfl ti2 rfl ?_
  refine ldB (v := .sc _) rfl rfl rfl rfl ti2 rfl rfl ?_
  refine pu (v := .sc _) rfl rfl (fun _ => rfl) ?_
  refine fa rfl rfl ti29 rfl rfl ti2 rfl ?_
  refine ldB (v := .sc _) rfl rfl rfl rfl ti2 rfl rfl ?_
  refine fa rfl rfl ti29 rfl rfl ti2 rfl ?_
  refine ldB (v := .sc _) rfl rfl rfl rfl ti2 rfl rfl ?_
  refine pu (v := .sc _) rfl rfl (fun _ => rfl) ?_
  refine fa rfl rfl ti29 rfl rfl ti2 rfl ?_
  refine ldB (v := .sc _) rfl rfl rfl rfl ti2 rfl rfl ?_
  refine fa rfl rfl ti29 rfl rfl ti2 rfl ?_
  refine ldB (v := .sc _) rfl rfl rfl rfl ti2 rfl rfl ?_
  refine pu (v := .sc _) rfl rfl (fun _ => rfl) ?_
  refine bu (cs := [.sc (.int .i64 (w6 (b.X - a.X))), .sc (.int .i64 (w6 (b.Y - a.Y))), .sc (.int .i64 (w6 (b.Z - a.Z)))]) rfl bt29 rfl ?_
  refine stB (cs' := [.sc (.int .i64 (w6 (b.X - a.X))), .sc (.int .i64 (w6 (b.Y - a.Y))), .sc (.int .i64 (w6 (b.Z - a.Z)))]) rfl rfl rfl rfl ti29 rfl rfl rfl rfl rfl ?_
  refine RunC.fin ?_
  refine AWP.ret ?_
  have hR := Option.some.inj hR; subst hR
  exact hQ _ _ (LS.mk [(4, .ptr 0 0 0)] (lblks 0 [boxB (α := Vec) true (Vec.mk (w6 (b.X - a.X)) (w6 (b.Y - a.Y)) (w6 (b.Z - a.Z)))]) 1) (aggV (α := Vec) true (Vec.mk (w6 (b.X - a.X)) (w6 (b.Y - a.Y)) (w6 (b.Z - a.Z)))) [] (.inr rfl) (Weak.turnL [(8, 0)] [] rfl rfl (tc (trP' rfl rfl rfl rfl) tn) (mc rfl (.box rfl (.cons (.sc _) (.cons (.sc _) (.cons (.sc _) (.nil)))) rfl) mn)) (ro1 (rvC (v := aggV (α := Vec) true (Vec.mk (w6 (b.X - a.X)) (w6 (b.Y - a.Y)) (w6 (b.Z - a.Z)))) rfl rfl ti29 rfl)) rfl rfl ldA pn
theorem ok11 (r : Bool) (hR : spykeep4_named = some r) : FnP Try.prog 11 [] (.sc (.bool r)) := by
  refine fnP_of (FnX.walk Try.func11 rfl 26 0 (by simp [Try.ntmps11]) rfl fun W S F Q hQ => ?_)
  unfold spykeep4_named at hR
  refine AWP.sq ?_
  refine AWP.rgC 4 rfl rfl ?_
  refine pu (v := .sc _) rfl rfl (fun _ => rfl) ?_
  refine RunC.fin ?_
  refine AWP.sq ?_
  refine AWP.rgC 32 rfl rfl ?_
  refine bu (cs := [.sc (.int .i64 0), .sc (.int .i64 5), .sc (.bool false)]) rfl bt38 rfl ?_
  refine bu (cs := [.sc (.int .i64 (-500)), .sc (.int .i64 0), .sc (.int .i64 0)]) rfl bt29 rfl ?_
  refine bu (cs := [.sc (.int .i64 3), .sc (.int .i64 0), .sc (.int .i64 0)]) rfl bt29 rfl ?_
  obtain ⟨r1, hr1, hR⟩ := bindE hR
  refine cls [] rfl rfl cb29 (ok29 (Vec.mk 3 0 0) _ hr1) (.cons (.agg (.cons (.sc _) (.cons (.sc _) (.cons (.sc _) (.nil)))) rfl) (.nil)) (.inr rfl) rfl ?_
  refine bu (cs := [.sc (.int .i64 0), .sc (.int .i64 5), .sc (.bool false), .sc (.int .i64 (-500)), .sc (.int .i64 0), .sc (.int .i64 0), .sc (.int .i64 r1.X.Lo), .sc (.int .i64 r1.X.Hi), .sc (.bool r1.X.Unknown), .sc (.int .i64 r1.Y.Lo), .sc (.int .i64 r1.Y.Hi), .sc (.bool r1.Y.Unknown), .sc (.int .i64 r1.Z.Lo), .sc (.int .i64 r1.Z.Hi), .sc (.bool r1.Z.Unknown), .sc (.int .i64 0), .sc (.int .i64 0), .sc (.bool false)]) rfl bt57 rfl ?_
  refine al (cs := [.sc (.int .i64 0), .sc (.int .i64 0), .sc (.bool false), .sc (.int .i64 0), .sc (.int .i64 0), .sc (.int .i64 0), .sc (.int .i64 0), .sc (.int .i64 0), .sc (.bool false), .sc (.int .i64 0), .sc (.int .i64 0), .sc (.bool false), .sc (.int .i64 0), .sc (.int .i64 0), .sc (.bool false), .sc (.int .i64 0), .sc (.int .i64 0), .sc (.bool false)]) 24 rfl rfl ti57 rfl rfl ?_
  refine stB (cs' := [.sc (.int .i64 0), .sc (.int .i64 5), .sc (.bool false), .sc (.int .i64 (-500)), .sc (.int .i64 0), .sc (.int .i64 0), .sc (.int .i64 r1.X.Lo), .sc (.int .i64 r1.X.Hi), .sc (.bool r1.X.Unknown), .sc (.int .i64 r1.Y.Lo), .sc (.int .i64 r1.Y.Hi), .sc (.bool r1.Y.Unknown), .sc (.int .i64 r1.Z.Lo), .sc (.int .i64 r1.Z.Hi), .sc (.bool r1.Z.Unknown), .sc (.int .i64 0), .sc (.int .i64 0), .sc (.bool false)]) rfl rfl rfl rfl ti57 rfl rfl rfl rfl rfl ?_
  refine RunC.fin ?_
  refine AWP.sq ?_
  refine AWP.rgC 80 rfl rfl ?_
  refine ldB (v := .agg _) rfl rfl rfl rfl ti57 rfl rfl ?_
  refine bu (cs := [.sc (.int .i64 1), .sc (.int .i64 0), .sc (.int .i64 0), .sc (.int .i64 0), .sc (.int .i64 0), .sc (.int .i64 0), .sc (.int .i64 0), .sc (.int .i64 0)]) rfl bt32 rfl ?_
  refine bu (cs := [.sc (.int .i64 0), .sc (.int .i64 900), .sc (.int .i64 0)]) rfl bt29 rfl ?_
  refine bu (cs := [.sc (.int .i64 0), .sc (.int .i64 900), .sc (.int .i64 0)]) rfl bt29 rfl ?_
  refine bu (cs := [.sc (.int .i64 2), .sc (.int .i64 0), .sc (.int .i64 900), .sc (.int .i64 0), .sc (.int .i64 0), .sc (.int .i64 900), .sc (.int .i64 0), .sc (.int .i64 0)]) rfl bt32 rfl ?_
  refine bs (α := Body) 52 true ([Body.mk 1 (Vec.mk 0 0 0) (Vec.mk 0 0 0) 0, Body.mk 2 (Vec.mk 0 900 0) (Vec.mk 0 900 0) 0] : List Body) rfl rfl ti26 rfl ti32 rfl rfl rfl rfl rfl ?_
  obtain ⟨r2, hr2, hR⟩ := bindE hR
  refine cls [52] rfl rfl cb14 (ok14 (Seen.mk (Bound.mk 0 5 false) (Vec.mk (-500) 0 0) r1 (Bound.mk 0 0 false)) ([Body.mk 1 (Vec.mk 0 0 0) (Vec.mk 0 0 0) 0, Body.mk 2 (Vec.mk 0 900 0) (Vec.mk 0 900 0) 0] : List Body) _ hr2) (.cons (.agg (.cons (.sc _) (.cons (.sc _) (.cons (.sc _) (.cons (.sc _) (.cons (.sc _) (.cons (.sc _) (.cons (.sc _) (.cons (.sc _) (.cons (.sc _) (.cons (.sc _) (.cons (.sc _) (.cons (.sc _) (.cons (.sc _) (.cons (.sc _) (.cons (.sc _) (.cons (.sc _) (.cons (.sc _) (.cons (.sc _) (.nil))))))))))))))))))) rfl) (.cons (ldS' rfl rfl rfl rfl) (.nil))) (.inl (by first | rfl | exact freshR | exact freshA | (simp only [V.fresh, V.freshs, freshR, freshA, Bool.and_self]))) rfl ?_
  refine pu (v := .tup _) rfl rfl (fun _ => rfl) ?_
  refine pu (v := rowV _ r2.1) rfl rfl (fun _ => rfl) ?_
  refine pu (v := .sc _) rfl rfl (fun _ => rfl) ?_
  refine pu (v := rowV _ r2.1) rfl rfl (fun _ => rfl) ?_
  refine pu (v := .sc _) rfl rfl (fun _ => rfl) ?_
  refine RunC.fin ?_
  refine AWP.joinX (fun z3 : Bool => LS.mk [(0, .sc (.bool z3))] (lblks 0 []) 0) hR (fun o3 hR => ?_) fun z3 hR => ?_
  · refine AWP.rgC 112 rfl rfl ?_
    refine pu (v := .sc _) rfl rfl (fun _ => rfl) ?_
    refine pu (v := .sc _) rfl rfl (fun _ => rfl) ?_
    refine pu (v := .sc _) rfl rfl (fun _ => rfl) ?_
    refine brR hR (fun h4 hR => ?_) fun h4 hR => ?_
    · refine pu (v := rowV _ r2.1) (wtG rfl rfl rfl h4) rfl (fun _ => rfl) ?_
      refine bs (α := Int) 96 true ([0] : List Int) (wtG rfl rfl rfl h4) rfl ti22 rfl ti3 rfl rfl rfl rfl rfl ?_
      obtain ⟨r5, hr5, hR⟩ := bindE hR
      refine cls [96] (wtG rfl rfl rfl h4) rfl cb30 (ok30 r2.1 ([0] : List Int) _ hr5) (.cons ldR' (.cons (ldS' rfl rfl rfl rfl) (.nil))) (.inl (by first | rfl | exact freshR | exact freshA | (simp only [V.fresh, V.freshs, freshR, freshA, Bool.and_self]))) rfl ?_
      refine pkT (v := .sc (.bool r5)) rfl rfl h4 rfl ?_
      refine pu (v := .sc _) rfl rfl (fun _ => rfl) ?_
      refine RunC.fin ?_
      have hR := Option.some.inj hR; subst hR
      exact Weak.turnL [] [] rfl rfl (tc (.sc _) tn) mn
    · refine sk (skW rfl rfl rfl h4) ?_
      refine sk (skW rfl rfl rfl h4) ?_
      refine sk (skW rfl rfl rfl h4) ?_
      refine pkF (v := .sc (.bool false)) rfl rfl h4 rfl ?_
      refine pu (v := .sc _) rfl rfl (fun _ => rfl) ?_
      refine RunC.fin ?_
      have hR := Option.some.inj hR; subst hR
      exact Weak.turnL [] [] rfl rfl (tc (.sc _) tn) mn
  · refine AWP.ret ?_
    have hR := Option.some.inj hR; subst hR
    exact hQ _ _ (LS.mk [(0, .sc (.bool z3))] (lblks 0 []) 0) (.sc (.bool z3)) [] (.inr rfl) (Weak.turnL [] [] rfl rfl (tc (.sc _) tn) mn) (ro1 (rvT (v := .sc (.bool z3)) rfl)) rfl rfl (.sc _) pn
theorem ok5 (s : spymake_Stream) (id : Int) (here : Vec) (r : Body × spymake_Stream) (hR : Stream_Body s id here = some r) : FnD Try.prog 5 [boxB false s] [.ptr 0 0 0, .sc (.int .i64 id), aggV false here] (aggV (α := Body) true r.1) [boxB false r.2] := by
  refine FnX.walk Try.func5 rfl 48 1 (by simp [Try.ntmps5]) rfl fun W S F Q hQ => ?_
  unfold Stream_Body at hR
  refine AWP.sq ?_
  refine AWP.rgC 9 rfl rfl ?_
  refine bx (cs := _) 1 rfl rfl rfl ?_
  refine al (cs := [.sc (.int .i64 0), .sc (.int .i64 0), .sc (.int .i64 0), .sc (.int .i64 0), .sc (.int .i64 0), .sc (.int .i64 0), .sc (.int .i64 0), .sc (.int .i64 0)]) 5 rfl rfl ti32 rfl rfl ?_
  refine RunC.fin ?_
  refine AWP.sq ?_
  refine AWP.rgC 33 rfl rfl ?_
  refine bs (α := Int) 9 true ([1000, 90000, 150000] : List Int) rfl rfl ti22 rfl ti3 rfl rfl rfl rfl rfl ?_
  refine pu (v := .ptr _ _ _) rfl rfl (fun _ => rfl) ?_
  obtain ⟨r1, hr1, hR⟩ := bindE hR
  refine cps (res' := .sc (.int .i64 r1.1)) (ups := [(0, boxB (α := spymake_Stream) false r1.2)]) [0] 17 rfl rfl rfl cb7 (ok7 s 3 _ hr1) (.cons (ldP rfl rfl) (.cons (.sc _) (.nil))) (pc rfl (.box (.cons ldR' (.cons (.sc _) (.nil))) rfl) pn) rfl rfl rfl rfl rfl (by first | rfl | exact renR | exact renA | exact renS | simp only [V.ren, V.rens, renR, renA, renS] | (simp only [V.ren, V.rens, renR, renA, renS]; rfl)) (by simp only [passUps, renBox, renArr]; rfl) ?_
  obtain ⟨h2, hR⟩ := chkE hR
  refine ixS0 (α := Int) rfl rfl rfl ti22 rfl ti3 rfl h2 ?_
  refine ldE (α := Int) (v := .sc _) rfl rfl rfl (ixlt h2) ti3 rfl rfl rfl rfl ?_
  refine pu (v := .sc _) rfl rfl (fun _ => rfl) ?_
  refine RunC.fin ?_
  refine AWP.sq ?_
  refine AWP.rgD 145 [0, 1, 0, 0, 8, 0, 60, 127, 0, 256, 0, 0, 2048, 0, 15484, 32636, 0, 65536, 0, 0, 524288, 0, 3964028, 8158332, 16743548, 33554431, 0, 134217727] ⟨[6, 14, 22], [none, some [1], none, none, none, none, some [0], none, none, some [1], none, none, none, none, some [0], none, none, some [1], none, none, none, none, some [0], none, none, none, none, some [137]]⟩ hmix (by kernel_rfl) rfl rfl ?_
  refine fa rfl rfl ti29 rfl rfl ti2 rfl ?_
  refine ldB (v := .sc _) rfl rfl rfl rfl ti2 rfl rfl ?_
  refine pu (v := .ptr _ _ _) rfl rfl (fun _ => rfl) ?_
  refine pu (v := .sc _) rfl rfl (fun _ => rfl) ?_
  refine pu (v := .sc _) rfl rfl (fun _ => rfl) ?_
  refine pu (v := .sc _) rfl rfl (fun _ => rfl) ?_
  obtain ⟨r3, hr3, hR⟩ := bindE hR
  refine cps (res' := .sc (.int .i64 r3.1)) (ups := [(0, boxB (α := spymake_Stream) false r3.2)]) [0] 57 rfl rfl rfl cb4 (ok4 r1.2 (w6 (0 - (gt ([1000, 90000, 150000] : List Int) r1.1))) (gt ([1000, 90000, 150000] : List Int) r1.1) _ hr3) (.cons (ldP rfl rfl) (.cons (.sc _) (.cons (.sc _) (.nil)))) (pc rfl (.box (.cons ldR' (.cons (.sc _) (.nil))) rfl) pn) rfl rfl rfl rfl rfl (by first | rfl | exact renR | exact renA | exact renS | simp only [V.ren, V.rens, renR, renA, renS] | (simp only [V.ren, V.rens, renR, renA, renS]; rfl)) (by simp only [passUps, renBox, renArr]; rfl) ?_
  refine pu (v := .sc _) rfl rfl (fun _ => rfl) ?_
  refine fa rfl rfl ti29 rfl rfl ti2 rfl ?_
  refine ldB (v := .sc _) rfl rfl rfl rfl ti2 rfl rfl ?_
  refine pu (v := .ptr _ _ _) rfl rfl (fun _ => rfl) ?_
  refine pu (v := .sc _) rfl rfl (fun _ => rfl) ?_
  refine pu (v := .sc _) rfl rfl (fun _ => rfl) ?_
  refine pu (v := .sc _) rfl rfl (fun _ => rfl) ?_
  obtain ⟨r4, hr4, hR⟩ := bindE hR
  refine cps (res' := .sc (.int .i64 r4.1)) (ups := [(0, boxB (α := spymake_Stream) false r4.2)]) [0] 89 rfl rfl rfl cb4 (ok4 r3.2 (w6 (0 - (gt ([1000, 90000, 150000] : List Int) r1.1))) (gt ([1000, 90000, 150000] : List Int) r1.1) _ hr4) (.cons (ldP rfl rfl) (.cons (.sc _) (.cons (.sc _) (.nil)))) (pc rfl (.box (.cons ldR' (.cons (.sc _) (.nil))) rfl) pn) rfl rfl rfl rfl rfl (by first | rfl | exact renR | exact renA | exact renS | simp only [V.ren, V.rens, renR, renA, renS] | (simp only [V.ren, V.rens, renR, renA, renS]; rfl)) (by simp only [passUps, renBox, renArr]; rfl) ?_
  refine pu (v := .sc _) rfl rfl (fun _ => rfl) ?_
  refine fa rfl rfl ti29 rfl rfl ti2 rfl ?_
  refine ldB (v := .sc _) rfl rfl rfl rfl ti2 rfl rfl ?_
  refine pu (v := .ptr _ _ _) rfl rfl (fun _ => rfl) ?_
  refine pu (v := .sc _) rfl rfl (fun _ => rfl) ?_
  refine pu (v := .sc _) rfl rfl (fun _ => rfl) ?_
  refine pu (v := .sc _) rfl rfl (fun _ => rfl) ?_
  obtain ⟨r5, hr5, hR⟩ := bindE hR
  refine cps (res' := .sc (.int .i64 r5.1)) (ups := [(0, boxB (α := spymake_Stream) false r5.2)]) [0] 121 rfl rfl rfl cb4 (ok4 r4.2 (w6 (0 - (gt ([1000, 90000, 150000] : List Int) r1.1))) (gt ([1000, 90000, 150000] : List Int) r1.1) _ hr5) (.cons (ldP rfl rfl) (.cons (.sc _) (.cons (.sc _) (.nil)))) (pc rfl (.box (.cons ldR' (.cons (.sc _) (.nil))) rfl) pn) rfl rfl rfl rfl rfl (by first | rfl | exact renR | exact renA | exact renS | simp only [V.ren, V.rens, renR, renA, renS] | (simp only [V.ren, V.rens, renR, renA, renS]; rfl)) (by simp only [passUps, renBox, renArr]; rfl) ?_
  refine qu rfl rfl rfl (by decide) rfl ?_
  refine pu (v := .sc _) rfl rfl (fun _ => rfl) ?_
  refine bu (cs := [.sc (.int .i64 (w6 (here.X + r3.1))), .sc (.int .i64 (w6 (here.Y + r4.1))), .sc (.int .i64 (w6 (here.Z + (w6 (Int.tdiv r5.1 3)))))]) rfl bt29 rfl ?_
  refine al (cs := [.sc (.int .i64 0), .sc (.int .i64 0), .sc (.int .i64 0)]) 137 rfl rfl ti29 rfl rfl ?_
  refine stB (cs' := [.sc (.int .i64 (w6 (here.X + r3.1))), .sc (.int .i64 (w6 (here.Y + r4.1))), .sc (.int .i64 (w6 (here.Z + (w6 (Int.tdiv r5.1 3)))))]) rfl rfl rfl rfl ti29 rfl rfl rfl rfl rfl ?_
  refine RunC.fin ?_
  refine AWP.sq ?_
  refine AWP.rgD 181 [0, 0, 2, 0, 14, 0, 62, 127, 255] ⟨[6], [none, some [137], none, some [1], none, none, some [0], none, some [5]]⟩ hmix (by kernel_rfl) rfl rfl ?_
  refine pu (v := .sc _) rfl rfl (fun _ => rfl) ?_
  refine ldB (v := .agg _) rfl rfl rfl rfl ti29 rfl rfl ?_
  obtain ⟨r6, hr6, hR⟩ := bindE hR
  refine cls [] rfl rfl cb19 (ok19 (Vec.mk (w6 (here.X + r3.1)) (w6 (here.Y + r4.1)) (w6 (here.Z + (w6 (Int.tdiv r5.1 3))))) _ hr6) (.cons (.agg (.cons (.sc _) (.cons (.sc _) (.cons (.sc _) (.nil)))) rfl) (.nil)) (.inr rfl) rfl ?_
  refine ldB (v := .agg _) rfl rfl rfl rfl ti29 rfl rfl ?_
  obtain ⟨r7, hr7, hR⟩ := bindE hR
  refine cls [] rfl rfl cb19 (ok19 here _ hr7) (.cons (.agg (.cons (.sc _) (.cons (.sc _) (.cons (.sc _) (.nil)))) rfl) (.nil)) (.inr rfl) rfl ?_
  refine pu (v := .ptr _ _ _) rfl rfl (fun _ => rfl) ?_
  obtain ⟨r8, hr8, hR⟩ := bindE hR
  refine cps (res' := .sc (.int .i64 r8.1)) (ups := [(0, boxB (α := spymake_Stream) false r8.2)]) [0] 169 rfl rfl rfl cb20 (ok20 r5.2 _ hr8) (.cons (ldP rfl rfl) (.nil)) (pc rfl (.box (.cons ldR' (.cons (.sc _) (.nil))) rfl) pn) rfl rfl rfl rfl rfl (by first | rfl | exact renR | exact renA | exact renS | simp only [V.ren, V.rens, renR, renA, renS] | (simp only [V.ren, V.rens, renR, renA, renS]; rfl)) (by simp only [passUps, renBox, renArr]; rfl) ?_
  refine bu (cs := [.sc (.int .i64 id), .sc (.int .i64 r6.X), .sc (.int .i64 r6.Y), .sc (.int .i64 r6.Z), .sc (.int .i64 r7.X), .sc (.int .i64 r7.Y), .sc (.int .i64 r7.Z), .sc (.int .i64 r8.1)]) rfl bt32 rfl ?_
  refine stB (cs' := [.sc (.int .i64 id), .sc (.int .i64 r6.X), .sc (.int .i64 r6.Y), .sc (.int .i64 r6.Z), .sc (.int .i64 r7.X), .sc (.int .i64 r7.Y), .sc (.int .i64 r7.Z), .sc (.int .i64 r8.1)]) rfl rfl rfl rfl ti32 rfl rfl rfl rfl rfl ?_
  refine RunC.fin ?_
  refine AWP.ret ?_
  have hR := Option.some.inj hR; subst hR
  exact hQ _ _ (LS.mk [(6, .ptr 1 0 0)] (lblks 0 [boxB (α := spymake_Stream) false r8.2, boxB (α := Body) true (Body.mk id r6 r7 r8.1)]) 2) (aggV (α := Body) true (Body.mk id r6 r7 r8.1)) [] (.inr rfl) (Weak.turnL [(0, 0), (5, 0)] [] rfl rfl (tc (trP' rfl rfl rfl rfl) tn) (mc rfl (.box rfl (.cons trR1 (.cons (.sc _) (.nil))) rfl) (mc rfl (.box rfl (.cons (.sc _) (.cons (.sc _) (.cons (.sc _) (.cons (.sc _) (.cons (.sc _) (.cons (.sc _) (.cons (.sc _) (.cons (.sc _) (.nil))))))))) rfl) mn))) (ro1 (rvC (v := aggV (α := Body) true (Body.mk id r6 r7 r8.1)) rfl rfl ti32 rfl)) rfl rfl ldA (pc rfl bldB pn)
theorem ok6 (s : spymake_Stream) (dist : Int) (r : Vec × spymake_Stream) (hR : Stream_Place s dist = some r) : FnD Try.prog 6 [boxB false s] [.ptr 0 0 0, .sc (.int .i64 dist)] (aggV (α := Vec) true r.1) [boxB false r.2] := by
  refine FnX.walk Try.func6 rfl 25 1 (by simp [Try.ntmps6]) rfl fun W S F Q hQ => ?_
  unfold Stream_Place at hR
  refine AWP.sq ?_
  refine AWP.rgC 5 rfl rfl ?_
  refine al (cs := [.sc (.int .i64 0), .sc (.int .i64 0), .sc (.int .i64 0)]) 1 rfl rfl ti29 rfl rfl ?_
  refine RunC.fin ?_
  refine AWP.sq ?_
  refine AWP.rgC 17 rfl rfl ?_
  refine pu (v := .sc _) rfl rfl (fun _ => rfl) ?_
  refine pu (v := .sc _) rfl rfl (fun _ => rfl) ?_
  refine pu (v := .sc _) rfl rfl (fun _ => rfl) ?_
  refine RunC.fin ?_
  refine AWP.sq ?_
  refine AWP.rgC 89 rfl rfl ?_
  refine pu (v := .ptr _ _ _) rfl rfl (fun _ => rfl) ?_
  refine pu (v := .sc _) rfl rfl (fun _ => rfl) ?_
  refine pu (v := .sc _) rfl rfl (fun _ => rfl) ?_
  refine pu (v := .sc _) rfl rfl (fun _ => rfl) ?_
  obtain ⟨r1, hr1, hR⟩ := bindE hR
  refine cps (res' := .sc (.int .i64 r1.1)) (ups := [(0, boxB (α := spymake_Stream) false r1.2)]) [0] 33 rfl rfl rfl cb4 (ok4 s (w6 (0 - (w6 (dist * 1048576)))) (w6 (dist * 1048576)) _ hr1) (.cons (ldP rfl rfl) (.cons (.sc _) (.cons (.sc _) (.nil)))) (pc rfl (.box (.cons ldR' (.cons (.sc _) (.nil))) rfl) pn) rfl rfl rfl rfl rfl (by first | rfl | exact renR | exact renA | exact renS | simp only [V.ren, V.rens, renR, renA, renS] | (simp only [V.ren, V.rens, renR, renA, renS]; rfl)) (by simp only [passUps, renBox, renArr]; rfl) ?_
  refine pu (v := .ptr _ _ _) rfl rfl (fun _ => rfl) ?_
  refine pu (v := .sc _) rfl rfl (fun _ => rfl) ?_
  refine pu (v := .sc _) rfl rfl (fun _ => rfl) ?_
  refine pu (v := .sc _) rfl rfl (fun _ => rfl) ?_
  obtain ⟨r2, hr2, hR⟩ := bindE hR
  refine cps (res' := .sc (.int .i64 r2.1)) (ups := [(0, boxB (α := spymake_Stream) false r2.2)]) [0] 53 rfl rfl rfl cb4 (ok4 r1.2 (w6 (0 - (w6 (dist * 1048576)))) (w6 (dist * 1048576)) _ hr2) (.cons (ldP rfl rfl) (.cons (.sc _) (.cons (.sc _) (.nil)))) (pc rfl (.box (.cons ldR' (.cons (.sc _) (.nil))) rfl) pn) rfl rfl rfl rfl rfl (by first | rfl | exact renR | exact renA | exact renS | simp only [V.ren, V.rens, renR, renA, renS] | (simp only [V.ren, V.rens, renR, renA, renS]; rfl)) (by simp only [passUps, renBox, renArr]; rfl) ?_
  refine pu (v := .ptr _ _ _) rfl rfl (fun _ => rfl) ?_
  refine pu (v := .sc _) rfl rfl (fun _ => rfl) ?_
  refine pu (v := .sc _) rfl rfl (fun _ => rfl) ?_
  refine pu (v := .sc _) rfl rfl (fun _ => rfl) ?_
  obtain ⟨r3, hr3, hR⟩ := bindE hR
  refine cps (res' := .sc (.int .i64 r3.1)) (ups := [(0, boxB (α := spymake_Stream) false r3.2)]) [0] 73 rfl rfl rfl cb4 (ok4 r2.2 (w6 (0 - (w6 (dist * 1048576)))) (w6 (dist * 1048576)) _ hr3) (.cons (ldP rfl rfl) (.cons (.sc _) (.cons (.sc _) (.nil)))) (pc rfl (.box (.cons ldR' (.cons (.sc _) (.nil))) rfl) pn) rfl rfl rfl rfl rfl (by first | rfl | exact renR | exact renA | exact renS | simp only [V.ren, V.rens, renR, renA, renS] | (simp only [V.ren, V.rens, renR, renA, renS]; rfl)) (by simp only [passUps, renBox, renArr]; rfl) ?_
  refine qu rfl rfl rfl (by decide) rfl ?_
  refine bu (cs := [.sc (.int .i64 r1.1), .sc (.int .i64 r2.1), .sc (.int .i64 (w6 (Int.tdiv r3.1 4)))]) rfl bt29 rfl ?_
  refine stB (cs' := [.sc (.int .i64 r1.1), .sc (.int .i64 r2.1), .sc (.int .i64 (w6 (Int.tdiv r3.1 4)))]) rfl rfl rfl rfl ti29 rfl rfl rfl rfl rfl ?_
  refine RunC.fin ?_
  refine AWP.ret ?_
  have hR := Option.some.inj hR; subst hR
  exact hQ _ _ (LS.mk [(4, .ptr 1 0 0)] (lblks 0 [boxB (α := spymake_Stream) false r3.2, boxB (α := Vec) true (Vec.mk r1.1 r2.1 (w6 (Int.tdiv r3.1 4)))]) 2) (aggV (α := Vec) true (Vec.mk r1.1 r2.1 (w6 (Int.tdiv r3.1 4)))) [] (.inr rfl) (Weak.turnL [(0, 0), (1, 0)] [] rfl rfl (tc (trP' rfl rfl rfl rfl) tn) (mc rfl (.box rfl (.cons trR1 (.cons (.sc _) (.nil))) rfl) (mc rfl (.box rfl (.cons (.sc _) (.cons (.sc _) (.cons (.sc _) (.nil)))) rfl) mn))) (ro1 (rvC (v := aggV (α := Vec) true (Vec.mk r1.1 r2.1 (w6 (Int.tdiv r3.1 4)))) rfl rfl ti29 rfl)) rfl rfl ldA (pc rfl bldB pn)
theorem ok3 (l : List Int) (when : Int) (before : Int) (behind : Int) (r : Bool) (hR : spykeep4_IdentifyTrue l when before behind = some r) : FnP Try.prog 3 [rowV false l, .sc (.int .i64 when), .sc (.int .i64 before), .sc (.int .i64 behind)] (.sc (.bool r)) := by
  refine fnP_of (FnX.walk Try.func3 rfl 149 0 (by simp [Try.ntmps3]) rfl fun W S F Q hQ => ?_)
  unfold spykeep4_IdentifyTrue at hR
  refine AWP.sq ?_
  refine AWP.rgC 4 rfl rfl ?_
  refine pu (v := .sc _) rfl rfl (fun _ => rfl) ?_
  refine RunC.fin ?_
  refine AWP.sq ?_
  refine AWP.rgC 20 rfl rfl ?_
  refine pu (v := rowV _ l) rfl rfl (fun _ => rfl) ?_
  refine bu (cs := [rowV (α := Int) false l, .sc (.int .i64 0)]) rfl bt25 rfl ?_
  refine bx (cs := _) 12 rfl rfl rfl ?_
  refine pu (v := .ptr _ _ _) rfl rfl (fun _ => rfl) ?_
  refine RunC.fin ?_
  refine AWP.sq ?_
  refine AWP.rgC 24 rfl rfl ?_
  refine pu (v := .sc _) rfl rfl (fun _ => rfl) ?_
  refine RunC.fin ?_
  refine AWP.sq ?_
  refine AWP.rgC 36 rfl rfl ?_
  refine pu (v := .ptr _ _ _) rfl rfl (fun _ => rfl) ?_
  obtain ⟨r1, hr1, hR⟩ := bindE hR
  refine cps (res' := .sc (.int .i64 r1.1)) (ups := [(12, boxB (α := spymake_Stream) false r1.2)]) [12] 28 rfl rfl rfl cb4 (ok4 (spymake_Stream.mk l 0) 1 5 _ hr1) (.cons (ldP rfl rfl) (.cons (.sc _) (.cons (.sc _) (.nil)))) (pc rfl (.box (.cons ldR' (.cons (.sc _) (.nil))) rfl) pn) rfl rfl rfl rfl rfl (by first | rfl | exact renR | exact renA | exact renS | simp only [V.ren, V.rens, renR, renA, renS] | (simp only [V.ren, V.rens, renR, renA, renS]; rfl)) (by simp only [passUps, renBox, renArr]; rfl) ?_
  refine pu (v := .sc _) rfl rfl (fun _ => rfl) ?_
  refine RunC.fin ?_
  refine AWP.sq ?_
  refine AWP.sq ?_
  refine AWP.rgC 44 rfl rfl ?_
  refine pu (v := .sc _) rfl rfl (fun _ => rfl) ?_
  refine pu (v := .sc _) rfl rfl (fun _ => rfl) ?_
  refine RunC.fin ?_
  refine AWP.nilT Body 10 32 rfl ?_
  refine AWP.loopJ (fun s2 : spymake_Stream × (List Body) × Int => LS.mk [(1, .sc (.int .i64 when)), (2, .sc (.int .i64 before)), (3, .sc (.int .i64 behind)), (9, .ptr 0 0 0), (10, slV Body 1 0 0 s2.2.1.length), (11, .sc (.int .i64 r1.1)), (31, .sc (.int .i64 r1.1)), (32, .sc (.int .i64 s2.2.2))] (lblks 0 [boxB (α := spymake_Stream) false s2.1, arrB (α := Body) 32 0 true s2.2.1]) 2) (fun z3 : spymake_Stream × (List Body) => LS.mk [(1, .sc (.int .i64 when)), (2, .sc (.int .i64 before)), (3, .sc (.int .i64 behind)), (9, .ptr 0 0 0), (10, slV Body 1 0 0 z3.2.length), (11, .sc (.int .i64 r1.1))] (lblks 0 [boxB (α := spymake_Stream) false z3.1, arrB (α := Body) 32 0 true z3.2]) 2) (spykeep4_IdentifyTrue.l1 r1) hR (s0 := (r1.2, ([] : List Body), 0)) (Weak.turnL [(12, 0), (44, 0)] [] rfl rfl (tc (.sc _) (tc (.sc _) (tc (.sc _) (tc (trP' rfl rfl rfl rfl) (tc (trS' rfl rfl rfl rfl rfl) (tc (.sc _) (tc (.sc _) (tc (.sc _) tn)))))))) (mc rfl (.box rfl (.cons trR1 (.cons (.sc _) (.nil))) rfl) (mc rfl (btrA' rfl) mn))) (fun s2 o2 hR => ?_) fun z3 hR => ?_
  · unfold spykeep4_IdentifyTrue.l1 at hR
    refine AWP.sq ?_
    refine AWP.rgC 6 rfl rfl ?_
    refine pu (v := .sc _) rfl rfl (fun _ => rfl) ?_
    refine RunC.fin ?_
    refine AWP.sq ?_
    refine AWP.cd hR rfl (fun h4 hR => ?_) fun h4 hR => ?_
    · refine AWP.skip ?_
      refine skT ?_
      refine AWP.sq ?_
      refine AWP.block ?_
      refine AWP.sq ?_
      refine AWP.rgC 14 rfl rfl ?_
      refine pu (v := .sc _) rfl rfl (fun _ => rfl) ?_
      refine pu (v := .sc _) rfl rfl (fun _ => rfl) ?_
      refine RunC.fin ?_
      refine AWP.rgC 54 rfl rfl ?_
      refine pu (v := slV Body _ _ _ _) rfl rfl (fun _ => rfl) ?_
      refine pu (v := .ptr _ _ _) rfl rfl (fun _ => rfl) ?_
      refine pu (v := .sc _) rfl rfl (fun _ => rfl) ?_
      refine pu (v := .sc _) rfl rfl (fun _ => rfl) ?_
      refine pu (v := .ptr _ _ _) rfl rfl (fun _ => rfl) ?_
      obtain ⟨r5, hr5, hR⟩ := bindE hR
      refine cps (res' := aggV (α := Vec) true r5.1) (ups := [(0, boxB (α := spymake_Stream) false r5.2)]) [0] 34 rfl rfl rfl cb6 (ok6 s2.1 2 _ hr5) (.cons (ldP rfl rfl) (.cons (.sc _) (.nil))) (pc rfl (.box (.cons ldR' (.cons (.sc _) (.nil))) rfl) pn) rfl rfl rfl rfl rfl (by first | rfl | exact renR | exact renA | exact renS | simp only [V.ren, V.rens, renR, renA, renS] | (simp only [V.ren, V.rens, renR, renA, renS]; rfl)) (by simp only [passUps, renBox, renArr]; rfl) ?_
      obtain ⟨r6, hr6, hR⟩ := bindE hR
      refine cps (res' := aggV (α := Body) true r6.1) (ups := [(0, boxB (α := spymake_Stream) false r6.2)]) [0] 38 rfl rfl rfl cb5 (ok5 r5.2 (w6 (s2.2.2 + 1)) r5.1 _ hr6) (.cons (ldP rfl rfl) (.cons (.sc _) (.cons (.agg (.cons (.sc _) (.cons (.sc _) (.cons (.sc _) (.nil)))) rfl) (.nil)))) (pc rfl (.box (.cons ldR' (.cons (.sc _) (.nil))) rfl) pn) rfl rfl rfl rfl rfl (by first | rfl | exact renR | exact renA | exact renS | simp only [V.ren, V.rens, renR, renA, renS] | (simp only [V.ren, V.rens, renR, renA, renS]; rfl)) (by simp only [passUps, renBox, renArr]; rfl) ?_
      refine bs (α := Body) 42 true ([r6.1] : List Body) rfl rfl ti26 rfl ti32 rfl rfl rfl rfl rfl ?_
      obtain ⟨h7, hR⟩ := chkE hR
      refine ap' (α := Body) (nw := true) (xs := s2.2.1) (ys := ([r6.1] : List Body)) rfl rfl rfl rfl (srcS' rfl rfl rfl) ti26 rfl ti32 rfl h7 rfl ?_
      refine pu (v := slV Body _ _ _ _) rfl rfl (fun _ => rfl) ?_
      refine RunC.blk ?_
      refine RunC.fin ?_
      refine AWP.rgC 62 rfl rfl ?_
      refine pu (v := .sc _) rfl rfl (fun _ => rfl) ?_
      refine pu (v := .sc _) rfl rfl (fun _ => rfl) ?_
      refine RunC.fin ?_
      refine ⟨(r6.2, s2.2.1 ++ ([r6.1] : List Body), w6 (s2.2.2 + 1)), (Option.some.inj hR).symm, ?_⟩
      exact Weak.turnL [(0, 0), (1, 0)] [] rfl rfl (tc (.sc _) (tc (.sc _) (tc (.sc _) (tc (trP' rfl rfl rfl rfl) (tc (trS' rfl rfl rfl rfl rfl) (tc (.sc _) (tc (.sc _) (tc (.sc _) tn)))))))) (mc rfl (.box rfl (.cons trR1 (.cons (.sc _) (.nil))) rfl) (mc rfl (btrA' rfl) mn))
    · refine AWP.exit ?_
      refine exT ?_
      refine exT ?_
      refine exH (skT ?_)
      refine ⟨(s2.1, s2.2.1), (Option.some.inj hR).symm, ?_⟩
      exact Weak.turnL [(0, 0), (1, 0)] [] rfl rfl (tc (.sc _) (tc (.sc _) (tc (.sc _) (tc (trP' rfl rfl rfl rfl) (tc (trS' rfl rfl rfl rfl rfl) (tc (.sc _) tn)))))) (mc rfl (.box rfl (.cons trR1 (.cons (.sc _) (.nil))) rfl) (mc rfl (btrA' rfl) mn))
  · refine skT ?_
    refine AWP.sq ?_
    refine AWP.rgC 34 rfl rfl ?_
    refine pu (v := slV Body _ _ _ _) rfl rfl (fun _ => rfl) ?_
    refine pu (v := .ptr _ _ _) rfl rfl (fun _ => rfl) ?_
    refine pu (v := .sc _) rfl rfl (fun _ => rfl) ?_
    obtain ⟨r8, hr8, hR⟩ := bindE hR
    refine cps (res' := .sc (.int .i64 r8.1)) (ups := [(0, boxB (α := spymake_Stream) false r8.2)]) [0] 14 rfl rfl rfl cb7 (ok7 z3.1 r1.1 _ hr8) (.cons (ldP rfl rfl) (.cons (.sc _) (.nil))) (pc rfl (.box (.cons ldR' (.cons (.sc _) (.nil))) rfl) pn) rfl rfl rfl rfl rfl (by first | rfl | exact renR | exact renA | exact renS | simp only [V.ren, V.rens, renR, renA, renS] | (simp only [V.ren, V.rens, renR, renA, renS]; rfl)) (by simp only [passUps, renBox, renArr]; rfl) ?_
    obtain ⟨h9, hR⟩ := chkE hR
    refine ixS0 (α := Body) rfl rfl rfl ti26 rfl ti32 rfl h9 ?_
    refine ldE (α := Body) (v := .agg _) rfl rfl rfl (ixlt h9) ti32 rfl rfl rfl rfl ?_
    refine al (cs := [.sc (.int .i64 0), .sc (.int .i64 0), .sc (.int .i64 0), .sc (.int .i64 0), .sc (.int .i64 0), .sc (.int .i64 0), .sc (.int .i64 0), .sc (.int .i64 0)]) 26 rfl rfl ti32 rfl rfl ?_
    refine stB (cs' := [.sc (.int .i64 (gt z3.2 r8.1).ID), .sc (.int .i64 (gt z3.2 r8.1).Was.X), .sc (.int .i64 (gt z3.2 r8.1).Was.Y), .sc (.int .i64 (gt z3.2 r8.1).Was.Z), .sc (.int .i64 (gt z3.2 r8.1).Here.X), .sc (.int .i64 (gt z3.2 r8.1).Here.Y), .sc (.int .i64 (gt z3.2 r8.1).Here.Z), .sc (.int .i64 (gt z3.2 r8.1).Rate)]) rfl rfl rfl rfl ti32 rfl rfl rfl rfl rfl ?_
    refine RunC.fin ?_
    refine AWP.sq ?_
    refine AWP.rgC 66 rfl rfl ?_
    refine pu (v := .sc _) rfl rfl (fun _ => rfl) ?_
    obtain ⟨r10, hr10, hR⟩ := bindE hR
    refine cls [] rfl rfl cb8 (ok8 when 60 _ hr10) (.cons (.sc _) (.cons (.sc _) (.nil))) (.inr rfl) rfl ?_
    refine pu (v := .sc _) rfl rfl (fun _ => rfl) ?_
    refine pu (v := .sc _) rfl rfl (fun _ => rfl) ?_
    refine pu (v := .sc _) rfl rfl (fun _ => rfl) ?_
    obtain ⟨r11, hr11, hR⟩ := bindE hR
    refine cls [] rfl rfl cb8 (ok8 behind 86400000 _ hr11) (.cons (.sc _) (.cons (.sc _) (.nil))) (.inr rfl) rfl ?_
    refine pu (v := .sc _) rfl rfl (fun _ => rfl) ?_
    refine pu (v := .sc _) rfl rfl (fun _ => rfl) ?_
    refine RunC.fin ?_
    refine AWP.sq ?_
    refine AWP.rgC 110 rfl rfl ?_
    refine pu (v := .sc _) rfl rfl (fun _ => rfl) ?_
    refine pu (v := .sc _) rfl rfl (fun _ => rfl) ?_
    obtain ⟨r12, hr12, hR⟩ := bindE hR
    refine cls [] rfl rfl cb8 (ok8 before 43200000 _ hr12) (.cons (.sc _) (.cons (.sc _) (.nil))) (.inr rfl) rfl ?_
    refine pu (v := .sc _) rfl rfl (fun _ => rfl) ?_
    refine pu (v := .sc _) rfl rfl (fun _ => rfl) ?_
    refine pu (v := .sc _) rfl rfl (fun _ => rfl) ?_
    obtain ⟨r13, hr13, hR⟩ := bindE hR
    refine cls [] rfl rfl cb8 (ok8 behind 43200000 _ hr13) (.cons (.sc _) (.cons (.sc _) (.nil))) (.inr rfl) rfl ?_
    refine pu (v := .sc _) rfl rfl (fun _ => rfl) ?_
    refine bu (cs := [.sc (.int .i64 (w6 ((w6 ((w6 ((w6 (r10 - 30)) * 86400000)) + r11)) - r12))), .sc (.int .i64 (w6 ((w6 ((w6 ((w6 (r10 - 30)) * 86400000)) + r11)) + r13))), .sc (.bool false)]) rfl bt38 rfl ?_
    refine al (cs := [.sc (.int .i64 0), .sc (.int .i64 0), .sc (.bool false)]) 102 rfl rfl ti38 rfl rfl ?_
    refine stB (cs' := [.sc (.int .i64 (w6 ((w6 ((w6 ((w6 (r10 - 30)) * 86400000)) + r11)) - r12))), .sc (.int .i64 (w6 ((w6 ((w6 ((w6 (r10 - 30)) * 86400000)) + r11)) + r13))), .sc (.bool false)]) rfl rfl rfl rfl ti38 rfl rfl rfl rfl rfl ?_
    refine RunC.fin ?_
    refine AWP.sq ?_
    refine AWP.rgC 126 rfl rfl ?_
    refine pu (v := .ptr _ _ _) rfl rfl (fun _ => rfl) ?_
    obtain ⟨r14, hr14, hR⟩ := bindE hR
    refine cps (res' := aggV (α := Vec) true r14.1) (ups := [(0, boxB (α := spymake_Stream) false r14.2)]) [0] 114 rfl rfl rfl cb6 (ok6 r8.2 1 _ hr14) (.cons (ldP rfl rfl) (.cons (.sc _) (.nil))) (pc rfl (.box (.cons ldR' (.cons (.sc _) (.nil))) rfl) pn) rfl rfl rfl rfl rfl (by first | rfl | exact renR | exact renA | exact renS | simp only [V.ren, V.rens, renR, renA, renS] | (simp only [V.ren, V.rens, renR, renA, renS]; rfl)) (by simp only [passUps, renBox, renArr]; rfl) ?_
    refine al (cs := [.sc (.int .i64 0), .sc (.int .i64 0), .sc (.int .i64 0)]) 118 rfl rfl ti29 rfl rfl ?_
    refine stB (cs' := [.sc (.int .i64 r14.1.X), .sc (.int .i64 r14.1.Y), .sc (.int .i64 r14.1.Z)]) rfl rfl rfl rfl ti29 rfl rfl rfl rfl rfl ?_
    refine RunC.fin ?_
    refine AWP.sq ?_
    refine AWP.rgC 162 rfl rfl ?_
    refine ldB (v := .agg _) rfl rfl rfl rfl ti32 rfl rfl ?_
    refine pu (v := .sc _) rfl rfl (fun _ => rfl) ?_
    obtain ⟨r15, hr15, hR⟩ := bindE hR
    refine cls [] rfl rfl cb9 (ok9 (gt z3.2 r8.1) (w6 ((w6 ((w6 (r10 - 30)) * 86400000)) + r11)) _ hr15) (.cons (.agg (.cons (.sc _) (.cons (.sc _) (.cons (.sc _) (.cons (.sc _) (.cons (.sc _) (.cons (.sc _) (.cons (.sc _) (.cons (.sc _) (.nil))))))))) rfl) (.cons (.sc _) (.nil))) (.inr rfl) rfl ?_
    refine pu (v := .tup _) rfl rfl (fun _ => rfl) ?_
    refine pu (v := .agg _) rfl rfl (fun _ => rfl) ?_
    refine pu (v := .sc _) rfl rfl (fun _ => rfl) ?_
    refine al (cs := [.sc (.int .i64 0), .sc (.int .i64 0), .sc (.int .i64 0)]) 150 rfl rfl ti29 rfl rfl ?_
    refine stB (cs' := [.sc (.int .i64 r15.1.X), .sc (.int .i64 r15.1.Y), .sc (.int .i64 r15.1.Z)]) rfl rfl rfl rfl ti29 rfl rfl rfl rfl rfl ?_
    refine pu (v := .sc _) rfl rfl (fun _ => rfl) ?_
    refine RunC.fin ?_
    refine AWP.sq ?_
    refine AWP.rgC 198 rfl rfl ?_
    refine ldB (v := .agg _) rfl rfl rfl rfl ti32 rfl rfl ?_
    refine ldB (v := .agg _) rfl rfl rfl rfl ti38 rfl rfl ?_
    obtain ⟨r16, hr16, hR⟩ := bindE hR
    refine cls [] rfl rfl cb10 (ok10 (gt z3.2 r8.1) (Bound.mk (w6 ((w6 ((w6 ((w6 (r10 - 30)) * 86400000)) + r11)) - r12)) (w6 ((w6 ((w6 ((w6 (r10 - 30)) * 86400000)) + r11)) + r13)) false) _ hr16) (.cons (.agg (.cons (.sc _) (.cons (.sc _) (.cons (.sc _) (.cons (.sc _) (.cons (.sc _) (.cons (.sc _) (.cons (.sc _) (.cons (.sc _) (.nil))))))))) rfl) (.cons (.agg (.cons (.sc _) (.cons (.sc _) (.cons (.sc _) (.nil)))) rfl) (.nil))) (.inr rfl) rfl ?_
    refine pu (v := .tup _) rfl rfl (fun _ => rfl) ?_
    refine pu (v := .agg _) rfl rfl (fun _ => rfl) ?_
    refine pu (v := .sc _) rfl rfl (fun _ => rfl) ?_
    refine al (cs := [.sc (.int .i64 0), .sc (.int .i64 0), .sc (.bool false), .sc (.int .i64 0), .sc (.int .i64 0), .sc (.bool false), .sc (.int .i64 0), .sc (.int .i64 0), .sc (.bool false)]) 186 rfl rfl ti46 rfl rfl ?_
    refine stB (cs' := [.sc (.int .i64 r16.1.1.Lo), .sc (.int .i64 r16.1.1.Hi), .sc (.bool r16.1.1.Unknown), .sc (.int .i64 r16.1.2.1.Lo), .sc (.int .i64 r16.1.2.1.Hi), .sc (.bool r16.1.2.1.Unknown), .sc (.int .i64 r16.1.2.2.Lo), .sc (.int .i64 r16.1.2.2.Hi), .sc (.bool r16.1.2.2.Unknown)]) rfl rfl rfl rfl ti46 rfl rfl rfl rfl rfl ?_
    refine pu (v := .sc _) rfl rfl (fun _ => rfl) ?_
    refine RunC.fin ?_
    refine AWP.sq ?_
    refine AWP.sq ?_
    refine AWP.rgC 206 rfl rfl ?_
    obtain ⟨r17, hr17, hR⟩ := bindE hR
    refine cls [] rfl rfl cb11 (ok11 _ hr17) (.nil) (.inr rfl) rfl ?_
    refine pu (v := .sc _) rfl rfl (fun _ => rfl) ?_
    refine RunC.fin ?_
    refine AWP.cd hR rfl (fun h18 hR => ?_) fun h18 hR => ?_
    · refine AWP.sq ?_
      refine AWP.rgC 210 rfl rfl ?_
      refine pu (v := .sc _) rfl rfl (fun _ => rfl) ?_
      refine RunC.fin ?_
      refine AWP.ret ?_
      refine rtT ?_
      have hR := Option.some.inj hR; subst hR
      exact hQ _ _ (LS.mk [(8, .sc (.bool false))] (lblks 0 []) 0) (.sc (.bool false)) [] (.inr rfl) (Weak.turnL [] [] rfl rfl (tc (.sc _) tn) mn) (ro1 (rvT (v := .sc (.bool false)) rfl)) rfl rfl (.sc _) pn
    · refine AWP.skip ?_
      refine skT ?_
      refine AWP.sq ?_
      refine AWP.joinX (fun z19 : Bool => LS.mk [(9, .ptr 0 0 0), (10, slV Body 1 0 0 z3.2.length), (13, .ptr 2 0 0), (15, .ptr 3 0 0), (16, .ptr 4 0 0), (17, .ptr 5 0 0), (18, .sc (.int .i64 r15.2)), (19, .ptr 6 0 0), (20, .sc (.bool r16.2)), (93, .sc (.bool z19))] (lblks 0 [boxB (α := spymake_Stream) false r14.2, arrB (α := Body) 32 0 true z3.2, boxB (α := Body) true (gt z3.2 r8.1), boxB (α := Bound) true (Bound.mk (w6 ((w6 ((w6 ((w6 (r10 - 30)) * 86400000)) + r11)) - r12)) (w6 ((w6 ((w6 ((w6 (r10 - 30)) * 86400000)) + r11)) + r13)) false), boxB (α := Vec) true r14.1, boxB (α := Vec) true r15.1, boxB (α := Bound × Bound × Bound) true r16.1]) 7) hR (fun o19 hR => ?_) fun z19 hR => ?_
      · refine AWP.rgC 250 rfl rfl ?_
        refine pu (v := .sc _) rfl rfl (fun _ => rfl) ?_
        refine pu (v := .sc _) rfl rfl (fun _ => rfl) ?_
        refine pu (v := .sc _) rfl rfl (fun _ => rfl) ?_
        refine brR hR (fun h20 hR => ?_) fun h20 hR => ?_
        · refine sk (skW rfl rfl rfl h20) ?_
          refine sk (skW rfl rfl rfl h20) ?_
          refine pkT (v := .sc (.bool true)) rfl rfl h20 rfl ?_
          refine pu (v := .sc _) rfl rfl (fun _ => rfl) ?_
          refine sk (skW rfl rfl rfl rfl) ?_
          refine sk (skW rfl rfl rfl rfl) ?_
          refine sk (skW rfl rfl rfl rfl) ?_
          refine pkT (v := .sc (.bool true)) rfl rfl rfl rfl ?_
          refine RunC.fin ?_
          have hR := Option.some.inj hR; subst hR
          exact Weak.turnL [(0, 0), (1, 0), (26, 0), (102, 0), (118, 0), (150, 0), (186, 0)] [] rfl rfl (tc (trP' rfl rfl rfl rfl) (tc (trS' rfl rfl rfl rfl rfl) (tc (trP' rfl rfl rfl rfl) (tc (trP' rfl rfl rfl rfl) (tc (trP' rfl rfl rfl rfl) (tc (trP' rfl rfl rfl rfl) (tc (.sc _) (tc (trP' rfl rfl rfl rfl) (tc (.sc _) (tc (.sc _) tn)))))))))) (mc rfl (.box rfl (.cons trR1 (.cons (.sc _) (.nil))) rfl) (mc rfl (btrA' rfl) (mc rfl (.box rfl (.cons (.sc _) (.cons (.sc _) (.cons (.sc _) (.cons (.sc _) (.cons (.sc _) (.cons (.sc _) (.cons (.sc _) (.cons (.sc _) (.nil))))))))) rfl) (mc rfl (.box rfl (.cons (.sc _) (.cons (.sc _) (.cons (.sc _) (.nil)))) rfl) (mc rfl (.box rfl (.cons (.sc _) (.cons (.sc _) (.cons (.sc _) (.nil)))) rfl) (mc rfl (.box rfl (.cons (.sc _) (.cons (.sc _) (.cons (.sc _) (.nil)))) rfl) (mc rfl (.box rfl (.cons (.sc _) (.cons (.sc _) (.cons (.sc _) (.cons (.sc _) (.cons (.sc _) (.cons (.sc _) (.cons (.sc _) (.cons (.sc _) (.cons (.sc _) (.nil)))))))))) rfl) mn)))))))
        · refine pu (v := .sc _) (wtG rfl rfl rfl h20) rfl (fun _ => rfl) ?_
          refine pu (v := .sc _) (wtG rfl rfl rfl h20) rfl (fun _ => rfl) ?_
          refine pkF (v := .sc (.bool (!r16.2))) rfl rfl h20 rfl ?_
          refine pu (v := .sc _) rfl rfl (fun _ => rfl) ?_
          refine brR hR (fun h21 hR => ?_) fun h21 hR => ?_
          · refine sk (skW rfl rfl rfl h21) ?_
            refine sk (skW rfl rfl rfl h21) ?_
            refine sk (skW rfl rfl rfl h21) ?_
            refine pkT (v := .sc (.bool true)) rfl rfl h21 rfl ?_
            refine RunC.fin ?_
            have hR := Option.some.inj hR; subst hR
            exact Weak.turnL [(0, 0), (1, 0), (26, 0), (102, 0), (118, 0), (150, 0), (186, 0)] [] rfl rfl (tc (trP' rfl rfl rfl rfl) (tc (trS' rfl rfl rfl rfl rfl) (tc (trP' rfl rfl rfl rfl) (tc (trP' rfl rfl rfl rfl) (tc (trP' rfl rfl rfl rfl) (tc (trP' rfl rfl rfl rfl) (tc (.sc _) (tc (trP' rfl rfl rfl rfl) (tc (.sc _) (tc (.sc _) tn)))))))))) (mc rfl (.box rfl (.cons trR1 (.cons (.sc _) (.nil))) rfl) (mc rfl (btrA' rfl) (mc rfl (.box rfl (.cons (.sc _) (.cons (.sc _) (.cons (.sc _) (.cons (.sc _) (.cons (.sc _) (.cons (.sc _) (.cons (.sc _) (.cons (.sc _) (.nil))))))))) rfl) (mc rfl (.box rfl (.cons (.sc _) (.cons (.sc _) (.cons (.sc _) (.nil)))) rfl) (mc rfl (.box rfl (.cons (.sc _) (.cons (.sc _) (.cons (.sc _) (.nil)))) rfl) (mc rfl (.box rfl (.cons (.sc _) (.cons (.sc _) (.cons (.sc _) (.nil)))) rfl) (mc rfl (.box rfl (.cons (.sc _) (.cons (.sc _) (.cons (.sc _) (.cons (.sc _) (.cons (.sc _) (.cons (.sc _) (.cons (.sc _) (.cons (.sc _) (.cons (.sc _) (.nil)))))))))) rfl) mn)))))))
          · refine ldB (v := .agg _) (wtG rfl rfl rfl h21) rfl rfl rfl ti29 rfl rfl ?_
            refine ldB (v := .agg _) (wtG rfl rfl rfl h21) rfl rfl rfl ti29 rfl rfl ?_
            refine es (cs := [.sc (.int .i64 r15.1.X), .sc (.int .i64 r15.1.Y), .sc (.int .i64 r15.1.Z)]) (ds := [.sc (.int .i64 r14.1.X), .sc (.int .i64 r14.1.Y), .sc (.int .i64 r14.1.Z)]) (wtG rfl rfl rfl h21) rfl rfl qa29 qg29 (qe29 _ _ _ _ _ _) ?_
            refine pkF (v := .sc (.bool ((r15.1.X == r14.1.X) && ((r15.1.Y == r14.1.Y) && ((r15.1.Z == r14.1.Z) && (true)))))) rfl rfl h21 rfl ?_
            refine RunC.fin ?_
            have hR := Option.some.inj hR; subst hR
            exact Weak.turnL [(0, 0), (1, 0), (26, 0), (102, 0), (118, 0), (150, 0), (186, 0)] [] rfl rfl (tc (trP' rfl rfl rfl rfl) (tc (trS' rfl rfl rfl rfl rfl) (tc (trP' rfl rfl rfl rfl) (tc (trP' rfl rfl rfl rfl) (tc (trP' rfl rfl rfl rfl) (tc (trP' rfl rfl rfl rfl) (tc (.sc _) (tc (trP' rfl rfl rfl rfl) (tc (.sc _) (tc (.sc _) tn)))))))))) (mc rfl (.box rfl (.cons trR1 (.cons (.sc _) (.nil))) rfl) (mc rfl (btrA' rfl) (mc rfl (.box rfl (.cons (.sc _) (.cons (.sc _) (.cons (.sc _) (.cons (.sc _) (.cons (.sc _) (.cons (.sc _) (.cons (.sc _) (.cons (.sc _) (.nil))))))))) rfl) (mc rfl (.box rfl (.cons (.sc _) (.cons (.sc _) (.cons (.sc _) (.nil)))) rfl) (mc rfl (.box rfl (.cons (.sc _) (.cons (.sc _) (.cons (.sc _) (.nil)))) rfl) (mc rfl (.box rfl (.cons (.sc _) (.cons (.sc _) (.cons (.sc _) (.nil)))) rfl) (mc rfl (.box rfl (.cons (.sc _) (.cons (.sc _) (.cons (.sc _) (.cons (.sc _) (.cons (.sc _) (.cons (.sc _) (.cons (.sc _) (.cons (.sc _) (.cons (.sc _) (.nil)))))))))) rfl) mn)))))))
      · refine AWP.cd hR rfl (fun h22 hR => ?_) fun h22 hR => ?_
        · refine AWP.joinX (fun z23 : Bool => LS.mk [(8, .sc (.bool z23))] (lblks 0 []) 0) hR (fun o23 hR => ?_) fun z23 hR => ?_
          · refine AWP.rgC 35 rfl rfl ?_
            refine pu (v := .sc _) rfl rfl (fun _ => rfl) ?_
            refine pu (v := .sc _) rfl rfl (fun _ => rfl) ?_
            refine pu (v := .sc _) rfl rfl (fun _ => rfl) ?_
            refine brR hR (fun h24 hR => ?_) fun h24 hR => ?_
            · refine sk (skW rfl rfl rfl h24) ?_
              refine sk (skW rfl rfl rfl h24) ?_
              refine pkT (v := .sc (.bool true)) rfl rfl h24 rfl ?_
              refine pu (v := .sc _) rfl rfl (fun _ => rfl) ?_
              refine RunC.fin ?_
              have hR := Option.some.inj hR; subst hR
              exact Weak.turnL [] [] rfl rfl (tc (.sc _) tn) mn
            · refine pu (v := .sc _) (wtG rfl rfl rfl h24) rfl (fun _ => rfl) ?_
              refine pu (v := .sc _) (wtG rfl rfl rfl h24) rfl (fun _ => rfl) ?_
              refine pkF (v := .sc (.bool (!r16.2))) rfl rfl h24 rfl ?_
              refine pu (v := .sc _) rfl rfl (fun _ => rfl) ?_
              refine RunC.fin ?_
              have hR := Option.some.inj hR; subst hR
              exact Weak.turnL [] [] rfl rfl (tc (.sc _) tn) mn
          · refine AWP.ret ?_
            refine rtT ?_
            have hR := Option.some.inj hR; subst hR
            exact hQ _ _ (LS.mk [(8, .sc (.bool z23))] (lblks 0 []) 0) (.sc (.bool z23)) [] (.inr rfl) (Weak.turnL [] [] rfl rfl (tc (.sc _) tn) mn) (ro1 (rvT (v := .sc (.bool z23)) rfl)) rfl rfl (.sc _) pn
        · refine AWP.skip ?_
          refine skT ?_
          refine AWP.sq ?_
          refine AWP.rgD 67 [0, 0, 0, 0, 0, 24, 0, 0, 184, 504, 1016, 2044, 4095, 0, 16383] ⟨[8, 11], [some [3], some [4], none, some [4], some [5], none, none, none, some [0], none, some [31], some [0], none, none, some [59]]⟩ hmix (by kernel_rfl) rfl rfl ?_
          refine ldB (v := .agg _) rfl rfl rfl rfl ti38 rfl rfl ?_
          refine ldB (v := .agg _) rfl rfl rfl rfl ti29 rfl rfl ?_
          refine pu (v := .ptr _ _ _) rfl rfl (fun _ => rfl) ?_
          refine ldB (v := .agg _) rfl rfl rfl rfl ti29 rfl rfl ?_
          refine ldB (v := .agg _) rfl rfl rfl rfl ti29 rfl rfl ?_
          obtain ⟨r25, hr25, hR⟩ := bindE hR
          refine cls [] rfl rfl cb13 (ok13 r14.1 r15.1 _ hr25) (.cons (.agg (.cons (.sc _) (.cons (.sc _) (.cons (.sc _) (.nil)))) rfl) (.cons (.agg (.cons (.sc _) (.cons (.sc _) (.cons (.sc _) (.nil)))) rfl) (.nil))) (.inr rfl) rfl ?_
          refine bs (α := Int) 31 true ([0, 500] : List Int) rfl rfl ti22 rfl ti3 rfl rfl rfl rfl rfl ?_
          refine pu (v := .ptr _ _ _) rfl rfl (fun _ => rfl) ?_
          obtain ⟨r26, hr26, hR⟩ := bindE hR
          refine cps (res' := .sc (.int .i64 r26.1)) (ups := [(0, boxB (α := spymake_Stream) false r26.2)]) [0] 39 rfl rfl rfl cb7 (ok7 r14.2 2 _ hr26) (.cons (ldP rfl rfl) (.cons (.sc _) (.nil))) (pc rfl (.box (.cons ldR' (.cons (.sc _) (.nil))) rfl) pn) rfl rfl rfl rfl rfl (by first | rfl | exact renR | exact renA | exact renS | simp only [V.ren, V.rens, renR, renA, renS] | (simp only [V.ren, V.rens, renR, renA, renS]; rfl)) (by simp only [passUps, renBox, renArr]; rfl) ?_
          obtain ⟨h27, hR⟩ := chkE hR
          refine ixS0 (α := Int) rfl rfl rfl ti22 rfl ti3 rfl h27 ?_
          refine ldE (α := Int) (v := .sc _) rfl rfl rfl (ixlt h27) ti3 rfl rfl rfl rfl ?_
          obtain ⟨r28, hr28, hR⟩ := bindE hR
          refine cps (res' := aggV (α := Box) true r28.1) (ups := [(0, boxB (α := spymake_Stream) false r28.2)]) [0] 51 rfl rfl rfl cb12 (ok12 r26.2 r25 (gt ([0, 500] : List Int) r26.1) _ hr28) (.cons (ldP rfl rfl) (.cons (.agg (.cons (.sc _) (.cons (.sc _) (.cons (.sc _) (.nil)))) rfl) (.cons (.sc _) (.nil)))) (pc rfl (.box (.cons ldR' (.cons (.sc _) (.nil))) rfl) pn) rfl rfl rfl rfl rfl (by first | rfl | exact renR | exact renA | exact renS | simp only [V.ren, V.rens, renR, renA, renS] | (simp only [V.ren, V.rens, renR, renA, renS]; rfl)) (by simp only [passUps, renBox, renArr]; rfl) ?_
          refine bu (cs := [.sc (.int .i64 (w6 ((w6 ((w6 ((w6 (r10 - 30)) * 86400000)) + r11)) - r12))), .sc (.int .i64 (w6 ((w6 ((w6 ((w6 (r10 - 30)) * 86400000)) + r11)) + r13))), .sc (.bool false), .sc (.int .i64 r14.1.X), .sc (.int .i64 r14.1.Y), .sc (.int .i64 r14.1.Z), .sc (.int .i64 r28.1.X.Lo), .sc (.int .i64 r28.1.X.Hi), .sc (.bool r28.1.X.Unknown), .sc (.int .i64 r28.1.Y.Lo), .sc (.int .i64 r28.1.Y.Hi), .sc (.bool r28.1.Y.Unknown), .sc (.int .i64 r28.1.Z.Lo), .sc (.int .i64 r28.1.Z.Hi), .sc (.bool r28.1.Z.Unknown), .sc (.int .i64 0), .sc (.int .i64 0), .sc (.bool false)]) rfl bt57 rfl ?_
          refine al (cs := [.sc (.int .i64 0), .sc (.int .i64 0), .sc (.bool false), .sc (.int .i64 0), .sc (.int .i64 0), .sc (.int .i64 0), .sc (.int .i64 0), .sc (.int .i64 0), .sc (.bool false), .sc (.int .i64 0), .sc (.int .i64 0), .sc (.bool false), .sc (.int .i64 0), .sc (.int .i64 0), .sc (.bool false), .sc (.int .i64 0), .sc (.int .i64 0), .sc (.bool false)]) 59 rfl rfl ti57 rfl rfl ?_
          refine stB (cs' := [.sc (.int .i64 (w6 ((w6 ((w6 ((w6 (r10 - 30)) * 86400000)) + r11)) - r12))), .sc (.int .i64 (w6 ((w6 ((w6 ((w6 (r10 - 30)) * 86400000)) + r11)) + r13))), .sc (.bool false), .sc (.int .i64 r14.1.X), .sc (.int .i64 r14.1.Y), .sc (.int .i64 r14.1.Z), .sc (.int .i64 r28.1.X.Lo), .sc (.int .i64 r28.1.X.Hi), .sc (.bool r28.1.X.Unknown), .sc (.int .i64 r28.1.Y.Lo), .sc (.int .i64 r28.1.Y.Hi), .sc (.bool r28.1.Y.Unknown), .sc (.int .i64 r28.1.Z.Lo), .sc (.int .i64 r28.1.Z.Hi), .sc (.bool r28.1.Z.Unknown), .sc (.int .i64 0), .sc (.int .i64 0), .sc (.bool false)]) rfl rfl rfl rfl ti57 rfl rfl rfl rfl rfl ?_
          refine RunC.fin ?_
          refine AWP.sq ?_
          refine AWP.rgC 99 rfl rfl ?_
          refine ldB (v := .agg _) rfl rfl rfl rfl ti57 rfl rfl ?_
          refine pu (v := slV Body _ _ _ _) rfl rfl (fun _ => rfl) ?_
          obtain ⟨r29, hr29, hR⟩ := bindE hR
          refine cls [1] rfl rfl cb14 (ok14 (Seen.mk (Bound.mk (w6 ((w6 ((w6 ((w6 (r10 - 30)) * 86400000)) + r11)) - r12)) (w6 ((w6 ((w6 ((w6 (r10 - 30)) * 86400000)) + r11)) + r13)) false) r14.1 r28.1 (Bound.mk 0 0 false)) z3.2 _ hr29) (.cons (.agg (.cons (.sc _) (.cons (.sc _) (.cons (.sc _) (.cons (.sc _) (.cons (.sc _) (.cons (.sc _) (.cons (.sc _) (.cons (.sc _) (.cons (.sc _) (.cons (.sc _) (.cons (.sc _) (.cons (.sc _) (.cons (.sc _) (.cons (.sc _) (.cons (.sc _) (.cons (.sc _) (.cons (.sc _) (.cons (.sc _) (.nil))))))))))))))))))) rfl) (.cons (ldS' rfl rfl rfl rfl) (.nil))) (.inl (by first | rfl | exact freshR | exact freshA | (simp only [V.fresh, V.freshs, freshR, freshA, Bool.and_self]))) rfl ?_
          refine pu (v := .tup _) rfl rfl (fun _ => rfl) ?_
          refine pu (v := rowV _ r29.1) rfl rfl (fun _ => rfl) ?_
          refine pu (v := .sc _) rfl rfl (fun _ => rfl) ?_
          refine pu (v := rowV _ r29.1) rfl rfl (fun _ => rfl) ?_
          refine pu (v := .sc _) rfl rfl (fun _ => rfl) ?_
          refine RunC.fin ?_
          refine AWP.sq ?_
          refine AWP.rgC 135 rfl rfl ?_
          refine ldB (v := .agg _) rfl rfl rfl rfl ti57 rfl rfl ?_
          refine bs (α := Seen) 103 true ([Seen.mk (Bound.mk (w6 ((w6 ((w6 ((w6 (r10 - 30)) * 86400000)) + r11)) - r12)) (w6 ((w6 ((w6 ((w6 (r10 - 30)) * 86400000)) + r11)) + r13)) false) r14.1 r28.1 (Bound.mk 0 0 false)] : List Seen) rfl rfl ti61 rfl ti57 rfl rfl rfl rfl rfl ?_
          refine pu (v := slV Body _ _ _ _) rfl rfl (fun _ => rfl) ?_
          obtain ⟨r30, hr30, hR⟩ := bindE hR
          refine cls [1, 103] rfl rfl cb15 (ok15 ([Seen.mk (Bound.mk (w6 ((w6 ((w6 ((w6 (r10 - 30)) * 86400000)) + r11)) - r12)) (w6 ((w6 ((w6 ((w6 (r10 - 30)) * 86400000)) + r11)) + r13)) false) r14.1 r28.1 (Bound.mk 0 0 false)] : List Seen) z3.2 _ hr30) (.cons (ldS' rfl rfl rfl rfl) (.cons (ldS' rfl rfl rfl rfl) (.nil))) (.inl (by first | rfl | exact freshR | exact freshA | (simp only [V.fresh, V.freshs, freshR, freshA, Bool.and_self]))) rfl ?_
          refine pu (v := .tup _) rfl rfl (fun _ => rfl) ?_
          refine pu (v := rowV _ r30.1) rfl rfl (fun _ => rfl) ?_
          refine pu (v := .sc _) rfl rfl (fun _ => rfl) ?_
          refine pu (v := rowV _ r30.1) rfl rfl (fun _ => rfl) ?_
          refine pu (v := .sc _) rfl rfl (fun _ => rfl) ?_
          refine RunC.fin ?_
          refine AWP.joinX (fun z31 : Bool => LS.mk [(8, .sc (.bool z31))] (lblks 0 []) 0) hR (fun o31 hR => ?_) fun z31 hR => ?_
          · refine AWP.rgC 231 rfl rfl ?_
            refine pu (v := .sc _) rfl rfl (fun _ => rfl) ?_
            refine pu (v := .sc _) rfl rfl (fun _ => rfl) ?_
            refine pu (v := .sc _) rfl rfl (fun _ => rfl) ?_
            refine brR hR (fun h32 hR => ?_) fun h32 hR => ?_
            · refine pu (v := .sc _) (wtG rfl rfl rfl h32) rfl (fun _ => rfl) ?_
              refine pu (v := .sc _) (wtG rfl rfl rfl h32) rfl (fun _ => rfl) ?_
              refine pkT (v := .sc (.bool (r30.2 == 0))) rfl rfl h32 rfl ?_
              refine pu (v := .sc _) rfl rfl (fun _ => rfl) ?_
              refine brR hR (fun h33 hR => ?_) fun h33 hR => ?_
              · refine pu (v := rowV _ r29.1) (wtG rfl rfl rfl h33) rfl (fun _ => rfl) ?_
                refine pu (v := slV Body _ _ _ _) (wtG rfl rfl rfl h33) rfl (fun _ => rfl) ?_
                refine ldB (v := .agg _) (wtG rfl rfl rfl h33) rfl rfl rfl ti32 rfl rfl ?_
                obtain ⟨r34, hr34, hR⟩ := bindE hR
                refine cls [1] (wtG rfl rfl rfl h33) rfl cb17 (ok17 z3.2 (gt z3.2 r8.1) _ hr34) (.cons (ldS' rfl rfl rfl rfl) (.cons (.agg (.cons (.sc _) (.cons (.sc _) (.cons (.sc _) (.cons (.sc _) (.cons (.sc _) (.cons (.sc _) (.cons (.sc _) (.cons (.sc _) (.nil))))))))) rfl) (.nil))) (.inl (by first | rfl | exact freshR | exact freshA | (simp only [V.fresh, V.freshs, freshR, freshA, Bool.and_self]))) rfl ?_
                obtain ⟨r35, hr35, hR⟩ := bindE hR
                refine cls [] (wtG rfl rfl rfl h33) rfl cb16 (ok16 r29.1 r34 _ hr35) (.cons ldR' (.cons (.sc _) (.nil))) (.inr rfl) rfl ?_
                refine pkT (v := .sc (.bool r35)) rfl rfl h33 rfl ?_
                refine pu (v := .sc _) rfl rfl (fun _ => rfl) ?_
                refine brR hR (fun h36 hR => ?_) fun h36 hR => ?_
                · refine pu (v := rowV _ r30.1) (wtG rfl rfl rfl h36) rfl (fun _ => rfl) ?_
                  refine lenL (α := Int) (wtG rfl rfl rfl h36) rfl ti22 rfl ?_
                  refine pu (v := .sc _) (wtG rfl rfl rfl h36) rfl (fun _ => rfl) ?_
                  refine pkT (v := .sc (.bool ((r30.1.length : Int) == 0))) rfl rfl h36 rfl ?_
                  refine pu (v := .sc _) rfl rfl (fun _ => rfl) ?_
                  refine brR hR (fun h37 hR => ?_) fun h37 hR => ?_
                  · refine ldB (v := .agg _) (wtG rfl rfl rfl h37) rfl rfl rfl ti46 rfl rfl ?_
                    refine ldB (v := .agg _) (wtG rfl rfl rfl h37) rfl rfl rfl ti29 rfl rfl ?_
                    obtain ⟨r38, hr38, hR⟩ := bindE hR
                    refine cls [] (wtG rfl rfl rfl h37) rfl cb18 (ok18 r16.1 r15.1 _ hr38) (.cons (.agg (.cons (.sc _) (.cons (.sc _) (.cons (.sc _) (.cons (.sc _) (.cons (.sc _) (.cons (.sc _) (.cons (.sc _) (.cons (.sc _) (.cons (.sc _) (.nil)))))))))) rfl) (.cons (.agg (.cons (.sc _) (.cons (.sc _) (.cons (.sc _) (.nil)))) rfl) (.nil))) (.inr rfl) rfl ?_
                    refine pkT (v := .sc (.bool r38)) rfl rfl h37 rfl ?_
                    refine pu (v := .sc _) rfl rfl (fun _ => rfl) ?_
                    refine RunC.fin ?_
                    have hR := Option.some.inj hR; subst hR
                    exact Weak.turnL [] [] rfl rfl (tc (.sc _) tn) mn
                  · refine sk (skW rfl rfl rfl h37) ?_
                    refine sk (skW rfl rfl rfl h37) ?_
                    refine sk (skW rfl rfl rfl h37) ?_
                    refine pkF (v := .sc (.bool false)) rfl rfl h37 rfl ?_
                    refine pu (v := .sc _) rfl rfl (fun _ => rfl) ?_
                    refine RunC.fin ?_
                    have hR := Option.some.inj hR; subst hR
                    exact Weak.turnL [] [] rfl rfl (tc (.sc _) tn) mn
                · refine sk (skW rfl rfl rfl h36) ?_
                  refine sk (skW rfl rfl rfl h36) ?_
                  refine sk (skW rfl rfl rfl h36) ?_
                  refine pkF (v := .sc (.bool false)) rfl rfl h36 rfl ?_
                  refine pu (v := .sc _) rfl rfl (fun _ => rfl) ?_
                  refine sk (skW rfl rfl rfl rfl) ?_
                  refine sk (skW rfl rfl rfl rfl) ?_
                  refine sk (skW rfl rfl rfl rfl) ?_
                  refine pkF (v := .sc (.bool false)) rfl rfl rfl rfl ?_
                  refine pu (v := .sc _) rfl rfl (fun _ => rfl) ?_
                  refine RunC.fin ?_
                  have hR := Option.some.inj hR; subst hR
                  exact Weak.turnL [] [] rfl rfl (tc (.sc _) tn) mn
              · refine sk (skW rfl rfl rfl h33) ?_
                refine sk (skW rfl rfl rfl h33) ?_
                refine sk (skW rfl rfl rfl h33) ?_
                refine sk (skW rfl rfl rfl h33) ?_
                refine sk (skW rfl rfl rfl h33) ?_
                refine pkF (v := .sc (.bool false)) rfl rfl h33 rfl ?_
                refine pu (v := .sc _) rfl rfl (fun _ => rfl) ?_
                refine sk (skW rfl rfl rfl rfl) ?_
                refine sk (skW rfl rfl rfl rfl) ?_
                refine sk (skW rfl rfl rfl rfl) ?_
                refine pkF (v := .sc (.bool false)) rfl rfl rfl rfl ?_
                refine pu (v := .sc _) rfl rfl (fun _ => rfl) ?_
                refine sk (skW rfl rfl rfl rfl) ?_
                refine sk (skW rfl rfl rfl rfl) ?_
                refine sk (skW rfl rfl rfl rfl) ?_
                refine pkF (v := .sc (.bool false)) rfl rfl rfl rfl ?_
                refine pu (v := .sc _) rfl rfl (fun _ => rfl) ?_
                refine RunC.fin ?_
                have hR := Option.some.inj hR; subst hR
                exact Weak.turnL [] [] rfl rfl (tc (.sc _) tn) mn
            · refine sk (skW rfl rfl rfl h32) ?_
              refine sk (skW rfl rfl rfl h32) ?_
              refine pkF (v := .sc (.bool false)) rfl rfl h32 rfl ?_
              refine pu (v := .sc _) rfl rfl (fun _ => rfl) ?_
              refine sk (skW rfl rfl rfl rfl) ?_
              refine sk (skW rfl rfl rfl rfl) ?_
              refine sk (skW rfl rfl rfl rfl) ?_
              refine sk (skW rfl rfl rfl rfl) ?_
              refine sk (skW rfl rfl rfl rfl) ?_
              refine pkF (v := .sc (.bool false)) rfl rfl rfl rfl ?_
              refine pu (v := .sc _) rfl rfl (fun _ => rfl) ?_
              refine sk (skW rfl rfl rfl rfl) ?_
              refine sk (skW rfl rfl rfl rfl) ?_
              refine sk (skW rfl rfl rfl rfl) ?_
              refine pkF (v := .sc (.bool false)) rfl rfl rfl rfl ?_
              refine pu (v := .sc _) rfl rfl (fun _ => rfl) ?_
              refine sk (skW rfl rfl rfl rfl) ?_
              refine sk (skW rfl rfl rfl rfl) ?_
              refine sk (skW rfl rfl rfl rfl) ?_
              refine pkF (v := .sc (.bool false)) rfl rfl rfl rfl ?_
              refine pu (v := .sc _) rfl rfl (fun _ => rfl) ?_
              refine RunC.fin ?_
              have hR := Option.some.inj hR; subst hR
              exact Weak.turnL [] [] rfl rfl (tc (.sc _) tn) mn
          · refine AWP.ret ?_
            have hR := Option.some.inj hR; subst hR
            exact hQ _ _ (LS.mk [(8, .sc (.bool z31))] (lblks 0 []) 0) (.sc (.bool z31)) [] (.inr rfl) (Weak.turnL [] [] rfl rfl (tc (.sc _) tn) mn) (ro1 (rvT (v := .sc (.bool z31)) rfl)) rfl rfl (.sc _) pn
end Go.Proofs.Idt
