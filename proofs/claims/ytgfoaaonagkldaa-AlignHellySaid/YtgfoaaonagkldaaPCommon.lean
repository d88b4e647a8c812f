/- Laws of the plain functions. Conditions: as each theorem states them. -/
import Derived.Test.YtgfoaaonagkldaaPAlign
/- What Common returns. -/
namespace Lf
open Go Go.Abs
set_option linter.unusedVariables false
set_option linter.unusedSimpArgs false
def ComR (a b : List Measured) (l : List align_Pair) (r : Bound × Bound × Int) : Prop := (r.2.2 = 0 ∧ Fits a b l r.1 r.2.1) ∨ (r.2.2 = 15 ∧ ∃ p ∈ l, ∃ q ∈ l, ¬ both (sp a b p) (sp a b q))
theorem common_ok (a b : List Measured) (l : List align_Pair) (ha : a.length ≤ 24) (hb : b.length ≤ 24) (hl : l.length ≤ 1000000) (hxa : ∀ m ∈ a, okSpot m) (hxb : ∀ m ∈ b, okSpot m) (hp : okPairs a b l) : Has (align_Common a b l) (ComR a b l) := by
  unfold align_Common
  rw [achecks_ok a b 24 1 (by omega) (by omega) (by omega) (by omega) hxa hxb]
  simp only [Option.bind_some]
  refine Has.neg (by decide) ?_
  rw [none_ok]
  simp only [Option.bind_some]
  refine (Has.loop (fun i : Int => 0 ≤ i ∧ i ≤ l.length) (fun i => ((l.length : Int) - i).toNat) (fun o => o = .next ()) ⟨Int.le_refl _, by omega⟩ (by omega) ?_).seq (fun s _ => ?_) (fun o ho => nomatch ho)
  · rintro i ⟨h0, h1⟩
    unfold align_Common.l1
    refine Has.ite (fun hi => ?_) fun hi => Has.ret (.done rfl)
    have hi : i < l.length := by simpa using hi
    obtain ⟨q1, q2, q3, q4⟩ := hp _ (gt_mem l i ⟨h0, hi⟩)
    refine Has.chk ⟨h0, hi⟩ ?_
    rw [if_neg (by simp; omega), if_neg (by simp; omega), if_neg (by simp; omega)]
    simp only [Option.bind_some]
    rw [w6_in (by omega)]
    exact Has.neg (by simp; omega) (Has.ret (.next ⟨by omega, by omega⟩ (by omega)))
  · refine (Has.loop (fun x : Bound × Bound × Int => 0 ≤ x.2.2 ∧ x.2.2 ≤ l.length ∧ Fits a b (l.take x.2.2.toNat) x.1 x.2.1) (fun x => ((l.length : Int) - x.2.2).toNat)
      (fun o : Step (Bound × Bound) (Bound × Bound × Int) => match o with | .next z => Fits a b l z.1 z.2 | .done r => ComR a b l r) ⟨Int.le_refl _, by simp only []; omega, by simp; exact ⟨fun _ => ⟨rfl, rfl⟩, fun h => absurd rfl h, by simp⟩⟩ (by simp only []; omega) ?_).seq (fun z hz => Has.ret (.inl ⟨rfl, hz⟩)) (fun o ho => ho)
    rintro ⟨u, v, i⟩ ⟨h0, h1, hf⟩
    simp only [] at h0 h1 hf
    unfold align_Common.l2
    simp only []
    refine Has.ite (fun hi => ?_) fun hi => ?_
    · have hi : i < l.length := by simpa using hi
      have hm := gt_mem l i ⟨h0, hi⟩
      obtain ⟨q1, q2, q3, q4⟩ := hp _ hm
      refine Has.chk ⟨h0, hi⟩ (Has.chk ⟨q1, q2⟩ (Has.chk ⟨q3, q4⟩ ?_))
      have oka := hxa _ (gt_mem a _ ⟨q1, q2⟩)
      have okb := hxb _ (gt_mem b _ ⟨q3, q4⟩)
      have sb := sft_bd oka okb
      have e0 : sft (gt a (gt l i).A) (gt b (gt l i).B) = sp a b (gt l i) := rfl
      rw [between_ok oka okb]
      rw [e0] at sb ⊢
      simp only [Option.bind_some, Bool.not_true, Bool.false_eq_true, if_false]
      have ht : l.take (i + 1).toNat = l.take i.toNat ++ [gt l i] := by
        rw [gt_def l i ⟨h0, hi⟩, show (i + 1).toNat = i.toNat + 1 by omega, List.take_succ_eq_append_getElem (by omega)]
      rw [w6_in (by omega)]
      have okx : Bound.ok ⟨(sp a b (gt l i)).xl, (sp a b (gt l i)).xh, false⟩ := okKnown (by omega) (by omega) (by omega)
      have oky : Bound.ok ⟨(sp a b (gt l i)).yl, (sp a b (gt l i)).yh, false⟩ := okKnown (by omega) (by omega) (by omega)
      generalize gt l i = p at *
      by_cases hn : l.take i.toNat = []
      · obtain ⟨rfl, rfl⟩ := hf.nil hn
        rw [meet_none okx, meet_none oky]
        simp only [Option.bind_some, Bool.not_true, Bool.false_eq_true, if_false]
        refine Has.ret (.next ⟨by simp only []; omega, by simp only []; omega, ?_⟩ (by simp only []; omega))
        simp only []
        rw [ht]
        exact hf.snoc rfl rfl (by simp only []; omega) (by simp only []; omega) (by rw [if_pos hn]; exact ⟨rfl, rfl⟩)
      · obtain ⟨uu, uv, ul, vl, ⟨p1, m1, w1⟩, ⟨p2, m2, w2⟩, ⟨p3, m3, w3⟩, ⟨p4, m4, w4⟩⟩ := hf.some hn
        have bnd : ∀ q ∈ l, -20000 ≤ (sp a b q).xl ∧ (sp a b q).xl ≤ (sp a b q).xh ∧ (sp a b q).xh ≤ 20000 ∧ -20000 ≤ (sp a b q).yl ∧ (sp a b q).yl ≤ (sp a b q).yh ∧ (sp a b q).yh ≤ 20000 := fun q hq => by
          obtain ⟨z1, z2, z3, z4⟩ := hp q hq
          exact sft_bd (hxa _ (gt_mem a _ ⟨z1, z2⟩)) (hxb _ (gt_mem b _ ⟨z3, z4⟩))
        have r1 := bnd p1 (List.mem_of_mem_take m1)
        have r2 := bnd p2 (List.mem_of_mem_take m2)
        have r3 := bnd p3 (List.mem_of_mem_take m3)
        have r4 := bnd p4 (List.mem_of_mem_take m4)
        have oku : u.ok := ⟨(fun e => by rw [uu] at e; cases e), by omega, ul, by omega⟩
        have okv : v.ok := ⟨(fun e => by rw [uv] at e; cases e), by omega, vl, by omega⟩
        have d1 := mx2_def u.Lo (sp a b p).xl
        have d2 := mn2_def u.Hi (sp a b p).xh
        have d3 := mx2_def v.Lo (sp a b p).yl
        have d4 := mn2_def v.Hi (sp a b p).yh
        have bad : ∀ q ∈ l.take i.toNat, ¬ both (sp a b q) (sp a b p) → ComR a b l (⟨0, 0, false⟩, ⟨0, 0, false⟩, 15) := fun q hq hb => .inr ⟨rfl, q, List.mem_of_mem_take hq, p, hm, hb⟩
        rw [meet_known oku okx uu rfl, meet_known okv oky uv rfl]
        by_cases cx : mn2 u.Hi (sp a b p).xh < mx2 u.Lo (sp a b p).xl
        · rw [if_pos cx]
          simp only [Option.bind_some, Bool.not_false, if_true]
          have fin : ComR a b l (⟨0, 0, false⟩, ⟨0, 0, false⟩, 15) := by
            by_cases g : (sp a b p).xh < u.Lo
            · exact bad p1 m1 fun hb => by unfold both at hb; omega
            · exact bad p2 m2 fun hb => by unfold both at hb; omega
          split <;> exact Has.ret (.done fin)
        · rw [if_neg cx]
          by_cases cy : mn2 v.Hi (sp a b p).yh < mx2 v.Lo (sp a b p).yl
          · rw [if_pos cy]
            simp only [Option.bind_some, Bool.not_false, Bool.not_true, Bool.false_eq_true, if_true, if_false]
            have fin : ComR a b l (⟨0, 0, false⟩, ⟨0, 0, false⟩, 15) := by
              by_cases g : (sp a b p).yh < v.Lo
              · exact bad p3 m3 fun hb => by unfold both at hb; omega
              · exact bad p4 m4 fun hb => by unfold both at hb; omega
            exact Has.ret (.done fin)
          · rw [if_neg cy]
            simp only [Option.bind_some, Bool.not_true, Bool.false_eq_true, if_false]
            refine Has.ret (.next ⟨by simp only []; omega, by simp only []; omega, ?_⟩ (by simp only []; omega))
            simp only []
            rw [ht]
            exact hf.snoc rfl rfl (by simp only []; omega) (by simp only []; omega) (by rw [if_neg hn]; exact ⟨rfl, rfl⟩)
    · have hi : ¬ i < l.length := by simpa using hi
      have : l.take i.toNat = l := List.take_of_length_le (by omega)
      rw [this] at hf
      exact Has.ret (.done hf)
end Lf
