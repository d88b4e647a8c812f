/- Laws of the plain functions. Conditions: as each theorem states them. -/
import Derived.Test.YtgfoaaonagkldaaPCommon
/- AlignHelly: it returns true. -/
namespace Lf
open Go Go.Abs
set_option linter.unusedVariables false
set_option linter.unusedSimpArgs false
set_option maxRecDepth 100000 in
theorem laid_true : spykeep4_laid = some true := by kernel_rfl
theorem ComR.two {a b : List Measured} {p q : align_Pair} {r : Bound × Bound × Int} (h : ComR a b [p, q] r) (hp : both (sp a b p) (sp a b p)) (hq : both (sp a b q) (sp a b q)) : r.2.2 = 0 ↔ both (sp a b p) (sp a b q) := by
  rcases h with ⟨h1, h2⟩ | ⟨h1, x, hx, y, hy, hb⟩
  · refine ⟨fun _ => ?_, fun _ => h1⟩
    obtain ⟨_, _, ul, vl, _⟩ := h2.some (by simp)
    have a1 := h2.all p (by simp)
    have a2 := h2.all q (by simp)
    unfold both; omega
  · refine ⟨fun h => by omega, fun hpq => absurd ?_ hb⟩
    have hqp : both (sp a b q) (sp a b p) := by unfold both at *; omega
    simp only [List.mem_cons, List.not_mem_nil, or_false] at hx hy
    rcases hx with rfl | rfl <;> rcases hy with rfl | rfl <;> assumption
theorem AlignHelly_true (l : List Int) (h : okL l) : spykeep4_AlignHelly l = some true := by
  refine Has.val ?_
  unfold spykeep4_AlignHelly
  have s0 := okS.start h
  refine (spots_ok _ 5 s0 (by simp only []; omega) (by omega)).bind fun ra ⟨a1, a2, a3⟩ => ?_
  have s1 := a3.ok s0 (by simp only []; omega)
  have t1 := a3.hi
  simp only [] at t1
  refine (spots_ok _ 5 s1 (by omega) (by omega)).bind fun rb ⟨b1, b2, b3⟩ => ?_
  have s2 := b3.ok s1 (by omega)
  have t2 := b3.hi
  refine (range_ok _ 0 5 s2 (by omega) (by omega) (by omega) (by omega)).bind fun rn ⟨n1, n2, n3⟩ => ?_
  have s3 := n3.ok s2 (by omega)
  have t3 := n3.hi
  generalize ha : ra.1 = a at *
  generalize hb : rb.1 = b at *
  refine (Has.loop (fun x : spymake_Stream × List align_Pair × Int => after rn.2 x.1 (2 * x.2.2) ∧ 0 ≤ x.2.2 ∧ x.2.2 ≤ rn.1 ∧ (x.2.1.length : Int) ≤ x.2.2 ∧ okPairs a b x.2.1) (fun x => (rn.1 - x.2.2).toNat)
    (fun o : List align_Pair => (o.length : Int) ≤ 5 ∧ okPairs a b o) ⟨after.refl _, Int.le_refl _, n1, Int.le_refl _, fun p hp => by simp at hp⟩ (by simp only []; omega) ?_).bind fun ps ⟨p1, p2⟩ => ?_
  · rintro ⟨x, out, i⟩ ⟨c1, c2, c3, c4, c5⟩
    simp only [] at c1 c2 c3 c4 c5
    unfold spykeep4_AlignHelly.l1
    simp only [ha, hb, ite_and, Option.bind_some]
    refine Has.ite (fun hi => ?_) fun hi => Has.ret (.done ⟨by omega, c5⟩)
    have hi : i < rn.1 := by simpa using hi
    have x0 := c1.ok s3 (by omega)
    have u0 := c1.hi
    rw [w6_in (by omega)]
    by_cases hz : 0 < a.length ∧ 0 < b.length
    · rw [if_pos (by simp; omega)]
      refine Has.bind (P := fun z => after rn.2 z.1 (2 * (i + 1)) ∧ (z.2.length : Int) ≤ i + 1 ∧ okPairs a b z.2) ?_ fun z ⟨z1, z2, z3⟩ => Has.ret (.next ⟨z1, by simp only []; omega, by simp only []; omega, z2, z3⟩ (by simp only []; omega))
      refine (next_ok x a.length x0 (by omega) (by omega)).bind fun v ⟨v1, v2, v3⟩ => ?_
      have x1 := v3.ok x0 (by omega)
      have u1 := v3.hi
      refine (next_ok v.2 b.length x1 (by omega) (by omega)).bind fun w ⟨w1, w2, w3⟩ => Has.chk (roomyI (by simp; omega) (by simp; omega)) (Has.ret ⟨((c1.trans v3).trans w3).more (by first | omega | (simp only []; omega)), by simp; omega, fun p hp => ?_⟩)
      rcases List.mem_append.1 hp with hp | hp
      · exact c5 p hp
      · simp only [List.mem_singleton] at hp; subst hp; simp only []; omega
    · rw [if_neg (by simp only [Bool.and_eq_true, decide_eq_true_eq]; omega)]
      simp only [Option.bind_some]
      exact Has.ret (.next ⟨c1.more (by simp only []; omega), by simp only []; omega, by simp only []; omega, by simp only []; omega, c5⟩ (by simp only []; omega))
  · try simp only [ha, hb]
    have com := fun l (hl : l.length ≤ 1000000) (hp : okPairs a b l) => common_ok a b l (by omega) (by omega) hl a1 b1 hp
    have self : ∀ p ∈ ps, both (sp a b p) (sp a b p) := fun p hp => by
      obtain ⟨z1, z2, z3, z4⟩ := p2 p hp
      have := sft_bd (a1 _ (gt_mem a _ ⟨z1, z2⟩)) (b1 _ (gt_mem b _ ⟨z3, z4⟩))
      unfold both sp; omega
    refine (com ps (by omega) p2).bind fun r hr => ?_
    rw [laid_true]
    simp only [Option.bind_some, Bool.not_true, Bool.false_eq_true, if_false]
    have bothS : ∀ p q, both (sp a b p) (sp a b q) → both (sp a b q) (sp a b p) := fun p q h => by unfold both at *; omega
    refine (Has.loop (fun x : Bool × Int => 0 ≤ x.2 ∧ x.2 ≤ ps.length ∧ (x.1 = true ↔ ∀ i j : Int, 0 ≤ j → j < i → i < x.2 → both (sp a b (gt ps i)) (sp a b (gt ps j)))) (fun x => ((ps.length : Int) - x.2).toNat)
      (fun o : Bool => o = true ↔ ∀ i j : Int, 0 ≤ j → j < i → i < ps.length → both (sp a b (gt ps i)) (sp a b (gt ps j))) ⟨Int.le_refl _, by simp only []; omega, fun _ i j _ _ hi => by simp only [] at hi; omega, fun _ => rfl⟩ (by simp only []; omega) ?_).bind fun two htwo => ?_
    · rintro ⟨tw, i⟩ ⟨i0, i1, ht⟩
      simp only [] at i0 i1 ht
      unfold spykeep4_AlignHelly.l2
      simp only []
      refine Has.ite (fun hi => ?_) fun hi => ?_
      · have hi : i < ps.length := by simpa using hi
        refine Has.chk ⟨i0, hi⟩ (Has.chk i0 (Has.chk ⟨by omega, by omega⟩ ?_))
        refine (Has.loop (fun x : Bool × Int => 0 ≤ x.2 ∧ x.2 ≤ i ∧ (x.1 = true ↔ tw = true ∧ ∀ j : Int, 0 ≤ j → j < x.2 → both (sp a b (gt ps i)) (sp a b (gt ps j)))) (fun x => (i - x.2).toNat)
          (fun o : Bool => o = true ↔ tw = true ∧ ∀ j : Int, 0 ≤ j → j < i → both (sp a b (gt ps i)) (sp a b (gt ps j))) ⟨Int.le_refl _, i0, fun h => ⟨h, fun j _ hj => by simp only [] at hj; omega⟩, fun h => h.1⟩ (by simp only []; omega) ?_).bind fun z hz => ?_
        · rintro ⟨tz, j⟩ ⟨j0, j1, hj⟩
          simp only [] at j0 j1 hj
          unfold spykeep4_AlignHelly.l3
          simp only [ha, hb]
          have hlen : ((List.drop 0 ps).take (i.toNat - 0)).length = i.toNat := by simp; omega
          refine Has.letF ?_
          rw [hlen]
          refine Has.ite (fun hq => ?_) fun hq => ?_
          · have hq : j < i := by simp at hq; omega
            have eg : gt ((List.drop 0 ps).take (i.toNat - 0)) j = gt ps j := by
              rw [gt_def _ j (by rw [hlen]; omega), gt_def ps j (by omega)]
              simp
            rw [eg]
            have m1 := gt_mem ps i ⟨i0, hi⟩
            have m2 := gt_mem ps j ⟨j0, by omega⟩
            refine Has.chk ⟨j0, by omega⟩ ((com [gt ps i, gt ps j] (by simp) (fun p hp => ?_)).bind fun q hq2 => ?_)
            · simp only [List.mem_cons, List.not_mem_nil, or_false] at hp
              rcases hp with rfl | rfl
              · exact p2 _ m1
              · exact p2 _ m2
            · have key := hq2.two (self _ m1) (self _ m2)
              rw [w6_in (by omega)]
              have ext : (∀ k : Int, 0 ≤ k → k < j + 1 → both (sp a b (gt ps i)) (sp a b (gt ps k))) ↔ (∀ k : Int, 0 ≤ k → k < j → both (sp a b (gt ps i)) (sp a b (gt ps k))) ∧ both (sp a b (gt ps i)) (sp a b (gt ps j)) := by
                refine ⟨fun h => ⟨fun k h1 h2 => h k h1 (by omega), h j j0 (by omega)⟩, fun h k h1 h2 => ?_⟩
                by_cases e : k = j
                · subst e; exact h.2
                · exact h.1 k h1 (by omega)
              refine Has.ite (fun htz => Has.ret (.next ⟨by simp only []; omega, by simp only []; omega, ?_⟩ (by simp only []; omega))) fun htz => Has.ret (.next ⟨by simp only []; omega, by simp only []; omega, ?_⟩ (by simp only []; omega))
              · simp only []
                rw [ext, beq_iff_eq, key]
                have := hj.1 htz
                exact ⟨fun h => ⟨this.1, this.2, h⟩, fun h => h.2.2⟩
              · simp only []
                rw [ext]
                exact ⟨(fun h => by cases h), fun h => absurd (hj.2 ⟨h.1, h.2.1⟩) htz⟩
          · have hq : ¬ j < i := by simp at hq; omega
            have : j = i := by omega
            subst this
            exact Has.ret (.done hj)
        · rw [w6_in (by omega)]
          refine Has.ret (.next ⟨by simp only []; omega, by simp only []; omega, ?_⟩ (by simp only []; omega))
          simp only []
          rw [hz, ht]
          refine ⟨fun h x y h1 h2 h3 => ?_, fun h => ⟨fun x y h1 h2 h3 => h x y h1 h2 (by omega), fun y h1 h2 => h i y h1 h2 (by omega)⟩⟩
          by_cases e : x = i
          · subst e; exact h.2 y h1 h2
          · exact h.1 x y h1 h2 (by omega)
      · have hi : ¬ i < ps.length := by simpa using hi
        have : i = ps.length := by omega
        subst this
        exact Has.ret (.done ht)
    · have main : two = true ↔ r.2.2 = 0 := by
        rw [htwo]
        rcases hr with ⟨e, f⟩ | ⟨e, p, hp, q, hq, hb⟩
        · refine ⟨fun _ => e, fun _ i j h1 h2 h3 => ?_⟩
          have m1 := gt_mem ps i ⟨by omega, h3⟩
          have m2 := gt_mem ps j ⟨h1, by omega⟩
          obtain ⟨_, _, ul, vl, _⟩ := f.some (List.ne_nil_of_mem m1)
          have := f.all _ m1
          have := f.all _ m2
          unfold both; omega
        · refine ⟨fun h => ?_, fun h => by omega⟩
          exfalso
          obtain ⟨i, hi, rfl⟩ := List.getElem_of_mem hp
          obtain ⟨j, hj, rfl⟩ := List.getElem_of_mem hq
          have gi : gt ps (i : Int) = ps[i] := gt_def ps i ⟨by omega, by omega⟩
          have gj : gt ps (j : Int) = ps[j] := gt_def ps j ⟨by omega, by omega⟩
          rcases Nat.lt_trichotomy i j with hij | hij | hij
          · have := h j i (by omega) (by omega) (by omega)
            rw [gi, gj] at this
            exact hb (bothS _ _ this)
          · subst hij; exact hb (self _ hp)
          · have := h i j (by omega) (by omega) (by omega)
            rw [gi, gj] at this
            exact hb this
      refine Has.neg ?_ ?_
      · have : two = (r.2.2 == 0) := by rw [Bool.eq_iff_iff, main, beq_iff_eq]
        rw [this]; simp
      · refine (Has.loop (fun i : Int => 0 ≤ i ∧ i ≤ ps.length) (fun i => ((ps.length : Int) - i).toNat) (fun o => o = .next ()) ⟨Int.le_refl _, by omega⟩ (by omega) ?_).seq (fun s _ => Has.ret rfl) (fun o ho => nomatch ho)
        rintro i ⟨i0, i1⟩
        unfold spykeep4_AlignHelly.l4
        simp only [ha, hb]
        refine Has.ite (fun hi => ?_) fun hi => Has.ret (.done rfl)
        have hi : i < ps.length := by simpa using hi
        have m1 := gt_mem ps i ⟨i0, hi⟩
        refine Has.chk ⟨i0, hi⟩ ((com [gt ps i] (by simp) (fun p hp => by simp only [List.mem_singleton] at hp; subst hp; exact p2 _ m1)).bind fun q hq => ?_)
        rw [w6_in (by omega)]
        generalize gt ps i = p at *
        have q0 : q.2.2 = 0 ∧ Fits a b [p] q.1 q.2.1 := by
          rcases hq with hq | ⟨_, x, hx, y, hy, hb⟩
          · exact hq
          · simp only [List.mem_singleton] at hx hy
            subst hx; subst hy
            exact absurd (self _ m1) hb
        obtain ⟨q1, q2⟩ := q0
        obtain ⟨_, _, _, _, ⟨x1, y1, z1⟩, ⟨x2, y2, z2⟩, ⟨x3, y3, z3⟩, ⟨x4, y4, z4⟩⟩ := q2.some (by simp)
        simp only [List.mem_singleton] at y1 y2 y3 y4
        subst y1; subst y2; subst y3; subst y4
        rw [if_neg (by simp [q1])]
        have no : Has (some (Step.next (i + 1)) : Option (Step Int (Step Unit Bool))) (StepOK (fun i : Int => 0 ≤ i ∧ i ≤ ps.length) (fun i => ((ps.length : Int) - i).toNat) (fun o => o = .next ()) ((ps.length : Int) - i).toNat) :=
          Has.ret (.next ⟨by omega, by omega⟩ (by omega))
        by_cases e : r.2.2 = 0
        · rw [if_pos (by simp [e])]
          have f : Fits a b ps r.1 r.2.1 := by
            rcases hr with hr | hr
            · exact hr.2
            · omega
          obtain ⟨u1, u2, _⟩ := f.some (List.ne_nil_of_mem m1)
          have fa := f.all _ m1
          rw [u1, u2]
          simp only [Bool.false_eq_true, if_false]
          rw [if_neg (by simp; omega), if_neg (by simp; omega), if_neg (by simp; omega)]
          simp only [Option.bind_some]
          exact Has.neg (by simp; omega) no
        · rw [if_neg (by simp [e])]
          simp only [Option.bind_some]
          exact Has.neg (by decide) no
end Lf
