/- Laws of the plain functions. Conditions: as each theorem states them. -/
import Derived.Test.YtggemcpmifdfiaaY0
/- The way of a body during a time; of which bodies a sighting can be. -/
namespace Lf
open Go Go.Abs
set_option linter.unusedVariables false
set_option linter.unusedSimpArgs false
def hullZ (a b : Bound) : Bound := if (a.Unknown || b.Unknown) = true then noneZ else ofZ (min a.Lo b.Lo) (max a.Hi b.Hi)
theorem hullZ_ok (a b : Bound) : (hullZ a b).ok := by
  unfold hullZ; split
  · exact noneZ_ok
  · exact ofZ_ok _ _
theorem hullZ_eq {a b : Bound} (ha : a.ok) (hb : b.ok) : bound_Hull a b = some (hullZ a b) := by
  unfold bound_Hull hullZ
  rw [vague_ok ha hb, mn2_min, mx2_max, ofZ_eq]
  simp only [Option.bind_some]
  split <;> rfl
theorem hasZ_hullL {a b : Bound} {x : Int} (hb : b.ok) (h : hasZ a x) : hasZ (hullZ a b) x := by
  unfold hullZ; split
  · exact hasZ_none _
  · rename_i hu
    have hu : a.Unknown = false ∧ b.Unknown = false := by simpa using hu
    rcases h with e | h
    · rw [hu.1] at e; cases e
    · exact hasZ_of (by omega) (by omega)
theorem hasZ_hullR {a b : Bound} {x : Int} (ha : a.ok) (h : hasZ b x) : hasZ (hullZ a b) x := by
  unfold hullZ; split
  · exact hasZ_none _
  · rename_i hu
    have hu : a.Unknown = false ∧ b.Unknown = false := by simpa using hu
    rcases h with e | h
    · rw [hu.2] at e; cases e
    · exact hasZ_of (by omega) (by omega)
def hullS (k : Int) (o c : Bound) : Bound := if k = 0 then hullZ c c else hullZ o c
theorem hull_l2_0 {s : Place3 × Int} {p : Place3} (hp : ok3 p) {a b c : Bound} (ho : a.ok) : identify_Path.l2 s p ((a, b, c), 0) = some (.next ((hullS s.2 a p.1, b, c), 1)) := by
  have hq := hp.x
  unfold identify_Path.l2
  have g4 : ∀ u v w : Bound, ((0 : Int) ≤ 0 ∧ (0 : Int) < (([u, v, w] : List Bound).length : Int)) := fun u v w => ⟨by decide, by simp⟩
  simp only [gt3_0, gt3_1, gt3_2, set3_0, set3_1, set3_2, letF]
  rw [if_pos (decide_eq_true (show (0 : Int) < 3 by decide)), if_pos (g4 _ _ _), show w6 (0 + 1) = 1 from by decide]
  unfold hullS
  by_cases h : s.2 = 0
  · rw [if_pos h, if_pos (by simp [h]), if_pos (g4 _ _ _), if_pos (g4 _ _ _), hullZ_eq hq hq]; rfl
  · rw [if_neg h, if_neg (by simp [h]), if_pos (g4 _ _ _), hullZ_eq ho hq]; rfl
theorem hull_l2_1 {s : Place3 × Int} {p : Place3} (hp : ok3 p) {a b c : Bound} (ho : b.ok) : identify_Path.l2 s p ((a, b, c), 1) = some (.next ((a, hullS s.2 b p.2.1, c), 2)) := by
  have hq := hp.y
  unfold identify_Path.l2
  have g4 : ∀ u v w : Bound, ((0 : Int) ≤ 1 ∧ (1 : Int) < (([u, v, w] : List Bound).length : Int)) := fun u v w => ⟨by decide, by simp⟩
  simp only [gt3_0, gt3_1, gt3_2, set3_0, set3_1, set3_2, letF]
  rw [if_pos (decide_eq_true (show (1 : Int) < 3 by decide)), if_pos (g4 _ _ _), show w6 (1 + 1) = 2 from by decide]
  unfold hullS
  by_cases h : s.2 = 0
  · rw [if_pos h, if_pos (by simp [h]), if_pos (g4 _ _ _), if_pos (g4 _ _ _), hullZ_eq hq hq]; rfl
  · rw [if_neg h, if_neg (by simp [h]), if_pos (g4 _ _ _), hullZ_eq ho hq]; rfl
theorem hull_l2_2 {s : Place3 × Int} {p : Place3} (hp : ok3 p) {a b c : Bound} (ho : c.ok) : identify_Path.l2 s p ((a, b, c), 2) = some (.next ((a, b, hullS s.2 c p.2.2), 3)) := by
  have hq := hp.z
  unfold identify_Path.l2
  have g4 : ∀ u v w : Bound, ((0 : Int) ≤ 2 ∧ (2 : Int) < (([u, v, w] : List Bound).length : Int)) := fun u v w => ⟨by decide, by simp⟩
  simp only [gt3_0, gt3_1, gt3_2, set3_0, set3_1, set3_2, letF]
  rw [if_pos (decide_eq_true (show (2 : Int) < 3 by decide)), if_pos (g4 _ _ _), show w6 (2 + 1) = 3 from by decide]
  unfold hullS
  by_cases h : s.2 = 0
  · rw [if_pos h, if_pos (by simp [h]), if_pos (g4 _ _ _), if_pos (g4 _ _ _), hullZ_eq hq hq]; rfl
  · rw [if_neg h, if_neg (by simp [h]), if_pos (g4 _ _ _), hullZ_eq ho hq]; rfl
theorem hull_l2 {s : Place3 × Int} {p o : Place3} (hp : ok3 p) (ho : ok3 o) : loopF (identify_Path.l2 s p) (o, 0) = some (hullS s.2 o.1 p.1, hullS s.2 o.2.1 p.2.1, hullS s.2 o.2.2 p.2.2) := by
  obtain ⟨a, b, c⟩ := o
  exact (Run.next (hull_l2_0 hp ho.x) (Run.next (hull_l2_1 hp ho.y) (Run.next (hull_l2_2 hp ho.z) (Run.done rfl)))).ok (by decide)
theorem hull_l4_0 {s : Place3 × Int} {p : Place3} (hp : ok3 p) {a b c : Bound} (ho : a.ok) : identify_Path.l4 s p ((a, b, c), 0) = some (.next ((hullS s.2 a p.1, b, c), 1)) := by
  have hq := hp.x
  unfold identify_Path.l4
  have g4 : ∀ u v w : Bound, ((0 : Int) ≤ 0 ∧ (0 : Int) < (([u, v, w] : List Bound).length : Int)) := fun u v w => ⟨by decide, by simp⟩
  simp only [gt3_0, gt3_1, gt3_2, set3_0, set3_1, set3_2, letF]
  rw [if_pos (decide_eq_true (show (0 : Int) < 3 by decide)), if_pos (g4 _ _ _), show w6 (0 + 1) = 1 from by decide]
  unfold hullS
  by_cases h : s.2 = 0
  · rw [if_pos h, if_pos (by simp [h]), if_pos (g4 _ _ _), if_pos (g4 _ _ _), hullZ_eq hq hq]; rfl
  · rw [if_neg h, if_neg (by simp [h]), if_pos (g4 _ _ _), hullZ_eq ho hq]; rfl
theorem hull_l4_1 {s : Place3 × Int} {p : Place3} (hp : ok3 p) {a b c : Bound} (ho : b.ok) : identify_Path.l4 s p ((a, b, c), 1) = some (.next ((a, hullS s.2 b p.2.1, c), 2)) := by
  have hq := hp.y
  unfold identify_Path.l4
  have g4 : ∀ u v w : Bound, ((0 : Int) ≤ 1 ∧ (1 : Int) < (([u, v, w] : List Bound).length : Int)) := fun u v w => ⟨by decide, by simp⟩
  simp only [gt3_0, gt3_1, gt3_2, set3_0, set3_1, set3_2, letF]
  rw [if_pos (decide_eq_true (show (1 : Int) < 3 by decide)), if_pos (g4 _ _ _), show w6 (1 + 1) = 2 from by decide]
  unfold hullS
  by_cases h : s.2 = 0
  · rw [if_pos h, if_pos (by simp [h]), if_pos (g4 _ _ _), if_pos (g4 _ _ _), hullZ_eq hq hq]; rfl
  · rw [if_neg h, if_neg (by simp [h]), if_pos (g4 _ _ _), hullZ_eq ho hq]; rfl
theorem hull_l4_2 {s : Place3 × Int} {p : Place3} (hp : ok3 p) {a b c : Bound} (ho : c.ok) : identify_Path.l4 s p ((a, b, c), 2) = some (.next ((a, b, hullS s.2 c p.2.2), 3)) := by
  have hq := hp.z
  unfold identify_Path.l4
  have g4 : ∀ u v w : Bound, ((0 : Int) ≤ 2 ∧ (2 : Int) < (([u, v, w] : List Bound).length : Int)) := fun u v w => ⟨by decide, by simp⟩
  simp only [gt3_0, gt3_1, gt3_2, set3_0, set3_1, set3_2, letF]
  rw [if_pos (decide_eq_true (show (2 : Int) < 3 by decide)), if_pos (g4 _ _ _), show w6 (2 + 1) = 3 from by decide]
  unfold hullS
  by_cases h : s.2 = 0
  · rw [if_pos h, if_pos (by simp [h]), if_pos (g4 _ _ _), if_pos (g4 _ _ _), hullZ_eq hq hq]; rfl
  · rw [if_neg h, if_neg (by simp [h]), if_pos (g4 _ _ _), hullZ_eq ho hq]; rfl
theorem hull_l4 {s : Place3 × Int} {p o : Place3} (hp : ok3 p) (ho : ok3 o) : loopF (identify_Path.l4 s p) (o, 0) = some (hullS s.2 o.1 p.1, hullS s.2 o.2.1 p.2.1, hullS s.2 o.2.2 p.2.2) := by
  obtain ⟨a, b, c⟩ := o
  exact (Run.next (hull_l4_0 hp ho.x) (Run.next (hull_l4_1 hp ho.y) (Run.next (hull_l4_2 hp ho.z) (Run.done rfl)))).ok (by decide)
theorem hullS_ok (k : Int) (o c : Bound) : (hullS k o c).ok := by unfold hullS; split <;> exact hullZ_ok _ _
theorem hullS_new {k : Int} {o c : Bound} (ho : o.ok) {x : Int} (h : hasZ c x) : hasZ (hullS k o c) x := by
  unfold hullS; split
  · unfold hullZ; split
    · exact hasZ_none _
    · rename_i hu
      rcases h with e | h
      · rw [e] at hu; simp at hu
      · exact hasZ_of (by omega) (by omega)
  · exact hasZ_hullR ho h
theorem hullS_old {k : Int} {o c : Bound} (hc : c.ok) (hk : k ≠ 0) {x : Int} (h : hasZ o x) : hasZ (hullS k o c) x := by
  unfold hullS; rw [if_neg hk]; exact hasZ_hullL hc h
theorem itpV_in {b : Body} (hb : okB b) {d r : Int} {p : Vec × Vec} (h : dayR b d = some p) (r0 : 0 ≤ r) (r1 : r ≤ 86400000) : inV (itpV p r) := by
  obtain ⟨⟨x1, y1, z1⟩, ⟨x2, y2, z2⟩⟩ := dayR_in hb h
  have bx := itp_bd (a := p.1.X) (b := p.2.X) r0 r1
  have by_ := itp_bd (a := p.1.Y) (b := p.2.Y) r0 r1
  have bz := itp_bd (a := p.1.Z) (b := p.2.Z) r0 r1
  exact ⟨by simp only [itpV]; omega, by simp only [itpV]; omega, by simp only [itpV]; omega⟩
theorem ex3_has (v : Vec) : has3 (ex3 v) v := ⟨.inr ⟨Int.le_refl _, Int.le_refl _⟩, .inr ⟨Int.le_refl _, Int.le_refl _⟩, .inr ⟨Int.le_refl _, Int.le_refl _⟩⟩
/-- A time at which a body can be followed, and its place lies in bounds. -/
def seenAt (b : Body) (o : Place3) (t : Int) : Prop := ∃ p, dayR b (t / 86400000) = some p ∧ has3 o (itpV p (t % 86400000))
def okT (t : Int) : Prop := -34560000000 ≤ t ∧ t < 34560000000
theorem seen_step {b : Body} (hb : okB b) {k : Int} {o c : Place3} (ho : ok3 o) (hc : ok3 c) {t : Int} (hk : k ≠ 0) (h : seenAt b o t) : seenAt b (hullS k o.1 c.1, hullS k o.2.1 c.2.1, hullS k o.2.2 c.2.2) t := by
  obtain ⟨p, e, h⟩ := h
  exact ⟨p, e, ⟨hullS_old hc.x hk h.x, hullS_old hc.y hk h.y, hullS_old hc.z hk h.z⟩⟩
theorem path_l1 {b : Body} (hb : okB b) {t : Bound} {r6 : Int} (hT : ∀ j : Int, 0 ≤ j → j < ((([t.Lo, t.Hi] : List Int) ++ ([w6 (r6 * 86400000)] : List Int)).length : Int) → okT (gt (([t.Lo, t.Hi] : List Int) ++ ([w6 (r6 * 86400000)] : List Int)) j)) :
    Has (loopF (identify_Path.l1 b t r6) ((Bound.mk 0 0 false, Bound.mk 0 0 false, Bound.mk 0 0 false), 0)) fun q => (∃ o, q = .next o ∧ ok3 o ∧ ∀ j : Int, 0 ≤ j → j < ((([t.Lo, t.Hi] : List Int) ++ ([w6 (r6 * 86400000)] : List Int)).length : Int) → seenAt b o (gt (([t.Lo, t.Hi] : List Int) ++ ([w6 (r6 * 86400000)] : List Int)) j)) ∨ (∃ o, q = .done (o, false)) := by
  have hl : ((([t.Lo, t.Hi] : List Int) ++ ([w6 (r6 * 86400000)] : List Int)).length : Int) ≤ 3 := by simp
  refine Has.loop (fun s : Place3 × Int => 0 ≤ s.2 ∧ s.2 ≤ ((([t.Lo, t.Hi] : List Int) ++ ([w6 (r6 * 86400000)] : List Int)).length : Int) ∧ ok3 s.1 ∧ ∀ j : Int, 0 ≤ j → j < s.2 → seenAt b s.1 (gt (([t.Lo, t.Hi] : List Int) ++ ([w6 (r6 * 86400000)] : List Int)) j)) (fun s => (((([t.Lo, t.Hi] : List Int) ++ ([w6 (r6 * 86400000)] : List Int)).length : Int) - s.2).toNat) _ ⟨Int.le_refl _, by simp only []; omega, ⟨okKnown (by decide) (by decide) (by decide), okKnown (by decide) (by decide) (by decide), okKnown (by decide) (by decide) (by decide)⟩, fun j j0 j1 => by simp only [] at j1; omega⟩ (by simp only []; omega) fun s ⟨s0, s1, s2, s3⟩ => ?_
  unfold identify_Path.l1
  refine Has.letF (Has.ite (fun h => ?_) fun h => ?_)
  · have h : s.2 < ((([t.Lo, t.Hi] : List Int) ++ ([w6 (r6 * 86400000)] : List Int)).length : Int) := of_decide_eq_true h
    have ht := hT s.2 s0 h
    refine Has.chk ⟨s0, h⟩ ((skyPlace_ok hb ht.1 ht.2).bind fun r ⟨r1, r2⟩ => ?_)
    cases e : dayR b (gt (([t.Lo, t.Hi] : List Int) ++ ([w6 (r6 * 86400000)] : List Int)) s.2 / 86400000) with
    | none => exact Has.pos (by simp [r2 e]) (Has.ret (.done (.inr ⟨_, rfl⟩)))
    | some p =>
      have rr : 0 ≤ gt (([t.Lo, t.Hi] : List Int) ++ ([w6 (r6 * 86400000)] : List Int)) s.2 % 86400000 ∧ gt (([t.Lo, t.Hi] : List Int) ++ ([w6 (r6 * 86400000)] : List Int)) s.2 % 86400000 ≤ 86400000 := by omega
      have iv := itpV_in hb e rr.1 rr.2
      rw [r1 p e]
      simp only [bne_self_eq_false, Bool.false_eq_true, if_false]
      rw [exact3_ok iv]
      simp only [Option.bind_some]
      rw [hull_l2 (ex3_ok iv) s2, w6_in (n := s.2 + 1) (by omega)]
      simp only [Option.bind_some]
      refine Has.ret (.next ⟨by simp only []; omega, by simp only []; omega, ⟨hullS_ok _ _ _, hullS_ok _ _ _, hullS_ok _ _ _⟩, fun j j0 j1 => ?_⟩ (by simp only []; omega))
      simp only [] at j1 ⊢
      by_cases ej : j = s.2
      · rw [ej]
        have hx := ex3_has (itpV p (gt (([t.Lo, t.Hi] : List Int) ++ ([w6 (r6 * 86400000)] : List Int)) s.2 % 86400000))
        exact ⟨p, e, ⟨hullS_new s2.x hx.x, hullS_new s2.y hx.y, hullS_new s2.z hx.z⟩⟩
      · exact seen_step hb s2 (ex3_ok iv) (by omega) (s3 j j0 (by omega))
  · have h : ¬ s.2 < ((([t.Lo, t.Hi] : List Int) ++ ([w6 (r6 * 86400000)] : List Int)).length : Int) := fun q => h (decide_eq_true q)
    exact Has.ret (.done (.inl ⟨s.1, rfl, s2, fun j j0 j1 => s3 j j0 (by omega)⟩))
theorem path_l3 {b : Body} (hb : okB b) {t : Bound} (hT : ∀ j : Int, 0 ≤ j → j < (([t.Lo, t.Hi] : List Int).length : Int) → okT (gt ([t.Lo, t.Hi] : List Int) j)) :
    Has (loopF (identify_Path.l3 b t) ((Bound.mk 0 0 false, Bound.mk 0 0 false, Bound.mk 0 0 false), 0)) fun q => (∃ o, q = .next o ∧ ok3 o ∧ ∀ j : Int, 0 ≤ j → j < (([t.Lo, t.Hi] : List Int).length : Int) → seenAt b o (gt ([t.Lo, t.Hi] : List Int) j)) ∨ (∃ o, q = .done (o, false)) := by
  have hl : (([t.Lo, t.Hi] : List Int).length : Int) ≤ 3 := by simp
  refine Has.loop (fun s : Place3 × Int => 0 ≤ s.2 ∧ s.2 ≤ (([t.Lo, t.Hi] : List Int).length : Int) ∧ ok3 s.1 ∧ ∀ j : Int, 0 ≤ j → j < s.2 → seenAt b s.1 (gt ([t.Lo, t.Hi] : List Int) j)) (fun s => ((([t.Lo, t.Hi] : List Int).length : Int) - s.2).toNat) _ ⟨Int.le_refl _, by simp only []; omega, ⟨okKnown (by decide) (by decide) (by decide), okKnown (by decide) (by decide) (by decide), okKnown (by decide) (by decide) (by decide)⟩, fun j j0 j1 => by simp only [] at j1; omega⟩ (by simp only []; omega) fun s ⟨s0, s1, s2, s3⟩ => ?_
  unfold identify_Path.l3
  refine Has.ite (fun h => ?_) fun h => ?_
  · have h : s.2 < (([t.Lo, t.Hi] : List Int).length : Int) := of_decide_eq_true h
    have ht := hT s.2 s0 h
    refine Has.chk ⟨s0, h⟩ ((skyPlace_ok hb ht.1 ht.2).bind fun r ⟨r1, r2⟩ => ?_)
    cases e : dayR b (gt ([t.Lo, t.Hi] : List Int) s.2 / 86400000) with
    | none => exact Has.pos (by simp [r2 e]) (Has.ret (.done (.inr ⟨_, rfl⟩)))
    | some p =>
      have rr : 0 ≤ gt ([t.Lo, t.Hi] : List Int) s.2 % 86400000 ∧ gt ([t.Lo, t.Hi] : List Int) s.2 % 86400000 ≤ 86400000 := by omega
      have iv := itpV_in hb e rr.1 rr.2
      rw [r1 p e]
      simp only [bne_self_eq_false, Bool.false_eq_true, if_false]
      rw [exact3_ok iv]
      simp only [Option.bind_some]
      rw [hull_l4 (ex3_ok iv) s2, w6_in (n := s.2 + 1) (by omega)]
      simp only [Option.bind_some]
      refine Has.ret (.next ⟨by simp only []; omega, by simp only []; omega, ⟨hullS_ok _ _ _, hullS_ok _ _ _, hullS_ok _ _ _⟩, fun j j0 j1 => ?_⟩ (by simp only []; omega))
      simp only [] at j1 ⊢
      by_cases ej : j = s.2
      · rw [ej]
        have hx := ex3_has (itpV p (gt ([t.Lo, t.Hi] : List Int) s.2 % 86400000))
        exact ⟨p, e, ⟨hullS_new s2.x hx.x, hullS_new s2.y hx.y, hullS_new s2.z hx.z⟩⟩
      · exact seen_step hb s2 (ex3_ok iv) (by omega) (s3 j j0 (by omega))
  · have h : ¬ s.2 < (([t.Lo, t.Hi] : List Int).length : Int) := fun q => h (decide_eq_true q)
    exact Has.ret (.done (.inl ⟨s.1, rfl, s2, fun j j0 j1 => s3 j j0 (by omega)⟩))
theorem ceilDay_ok {a : Int} (ha : -9000000000000000000 ≤ a ∧ a ≤ 9000000000000000000) : num_CeilDiv a 86400000 = some (-((-a) / 86400000)) := by
  apply Has.val
  unfold num_CeilDiv
  refine Has.neg (by decide) (Has.chk (by decide) ?_)
  rcases Int.le_total 0 a with h | h
  · rw [Int.tmod_eq_emod_of_nonneg h, Int.tdiv_eq_ediv_of_nonneg h, w6_in (n := a / 86400000) (by omega)]
    refine Has.ite (fun q => ?_) fun q => ?_
    · have q : a % 86400000 > 0 := of_decide_eq_true q
      rw [w6_in (by omega)]; exact Has.ret (by omega)
    · have q : ¬ a % 86400000 > 0 := fun x => q (decide_eq_true x)
      exact Has.ret (by omega)
  · have e : Int.tdiv a 86400000 = -((-a) / 86400000) := by rw [← Int.tdiv_eq_ediv_of_nonneg (a := -a) (by omega), Int.neg_tdiv, Int.neg_neg]
    have e2 : Int.tmod a 86400000 = -((-a) % 86400000) := by rw [← Int.tmod_eq_emod_of_nonneg (a := -a) (by omega), Int.neg_tmod, Int.neg_neg]
    rw [e, e2, w6_in (n := -((-a) / 86400000)) (by omega)]
    exact Has.neg (by simp; omega) (Has.ret rfl)
theorem has_mid {b : Bound} {x y z : Int} (hx : hasZ b x) (hy : hasZ b y) (h1 : min x y ≤ z) (h2 : z ≤ max x y) : hasZ b z := by
  rcases hx with e | hx
  · exact .inl e
  · rcases hy with e | hy
    · exact .inl e
    · exact .inr ⟨by omega, by omega⟩
theorem has3_mid {o : Place3} {p : Vec × Vec} {r1 r2 r3 : Int} (h1 : has3 o (itpV p r1)) (h3 : has3 o (itpV p r3)) (h12 : r1 ≤ r2) (h23 : r2 ≤ r3) : has3 o (itpV p r2) := by
  have mx := itp_mid (a := p.1.X) (b := p.2.X) h12 h23
  have my := itp_mid (a := p.1.Y) (b := p.2.Y) h12 h23
  have mz := itp_mid (a := p.1.Z) (b := p.2.Z) h12 h23
  exact ⟨has_mid h1.x h3.x mx.1 mx.2, has_mid h1.y h3.y my.1 my.2, has_mid h1.z h3.z mz.1 mz.2⟩
/-- Between its ends a body is within the bounds. -/
theorem between_ok {b : Body} (hb : okB b) {o : Place3} {lo hi t : Int} (h1 : lo ≤ t) (h2 : t ≤ hi) (h3 : hi - lo ≤ 86400000) (sl : seenAt b o lo) (sh : seenAt b o hi) (sn : -((-lo) / 86400000) * 86400000 < hi → seenAt b o (-((-lo) / 86400000) * 86400000)) : seenAt b o t := by
  obtain ⟨p, ep, hp⟩ := sl
  obtain ⟨q, eq, hq⟩ := sh
  by_cases hd : lo / 86400000 = hi / 86400000
  · rw [← hd, ep] at eq
    cases eq
    have et : t / 86400000 = lo / 86400000 := by omega
    exact ⟨p, by rw [et]; exact ep, has3_mid hp hq (by omega) (by omega)⟩
  · have ed : hi / 86400000 = lo / 86400000 + 1 := by omega
    rw [ed] at eq
    have nx := dayR_next hb ep eq
    -- the place at the turn of the day
    have turn : has3 o q.1 := by
      have e0 : itpV q 0 = q.1 := by
        unfold itpV; rw [(itp_end _ _).1, (itp_end _ _).1, (itp_end _ _).1]
      by_cases hB : (lo / 86400000 + 1) * 86400000 < hi
      · by_cases hl : lo % 86400000 = 0
        · exfalso; omega
        · have en : -((-lo) / 86400000) * 86400000 = (lo / 86400000 + 1) * 86400000 := by omega
          rw [en] at sn
          obtain ⟨w, ew, hw⟩ := sn hB
          have e1 : (lo / 86400000 + 1) * 86400000 / 86400000 = lo / 86400000 + 1 := by omega
          have e2 : (lo / 86400000 + 1) * 86400000 % 86400000 = 0 := by omega
          rw [e1, eq] at ew
          cases ew
          rw [e2, e0] at hw
          exact hw
      · have e2 : hi % 86400000 = 0 := by omega
        rw [e2, e0] at hq
        exact hq
    by_cases ht : t / 86400000 = lo / 86400000
    · have e1 : itpV p 86400000 = q.1 := by
        rw [nx]; unfold itpV; rw [(itp_end _ _).2, (itp_end _ _).2, (itp_end _ _).2]
      refine ⟨p, by rw [ht]; exact ep, has3_mid hp (r3 := 86400000) (by rw [e1]; exact turn) (by omega) (by omega)⟩
    · have ht : t / 86400000 = lo / 86400000 + 1 := by omega
      have e0 : itpV q 0 = q.1 := by
        unfold itpV; rw [(itp_end _ _).1, (itp_end _ _).1, (itp_end _ _).1]
      refine ⟨q, by rw [ht]; exact eq, has3_mid (r1 := 0) (by rw [e0]; exact turn) hq (by omega) (by omega)⟩
theorem idPath_ok {b : Body} (hb : okB b) {t : Bound} (hu : t.Unknown = false) (h0 : -30000000000 ≤ t.Lo) (hle : t.Lo ≤ t.Hi) (h1 : t.Hi ≤ 30000000000) (hd : t.Hi - t.Lo ≤ 86400000) :
    Has (identify_Path b t) fun q => q.2 = true → ok3 q.1 ∧ ∀ x : Int, t.Lo ≤ x → x ≤ t.Hi → seenAt b q.1 x := by
  have ok : t.ok := ⟨fun e => (by rw [hu] at e; cases e), by omega, hle, by omega⟩
  unfold identify_Path
  rw [check_ok ok, hu, w6_in (n := t.Hi - t.Lo) (by omega)]
  simp only [Option.bind_some, bne_self_eq_false, Bool.false_eq_true, if_false]
  have g : ¬ t.Hi - t.Lo > 86400000 := by omega
  rw [decide_eq_false g, ceilDay_ok (by omega)]
  simp only [Option.bind_some, Bool.false_eq_true, if_false]
  have en : w6 (-((-t.Lo) / 86400000) * 86400000) = -((-t.Lo) / 86400000) * 86400000 := w6_in (by omega)
  rw [en]
  refine Has.ite (fun hn => ?_) fun hn => ?_
  · have hn : -((-t.Lo) / 86400000) * 86400000 < t.Hi := of_decide_eq_true hn
    have e0 : gt (([t.Lo, t.Hi] : List Int) ++ ([w6 (-((-t.Lo) / 86400000) * 86400000)] : List Int)) 0 = t.Lo := rfl
    have e1 : gt (([t.Lo, t.Hi] : List Int) ++ ([w6 (-((-t.Lo) / 86400000) * 86400000)] : List Int)) 1 = t.Hi := rfl
    have e2 : gt (([t.Lo, t.Hi] : List Int) ++ ([w6 (-((-t.Lo) / 86400000) * 86400000)] : List Int)) 2 = -((-t.Lo) / 86400000) * 86400000 := Eq.trans rfl en
    have ln : ((([t.Lo, t.Hi] : List Int) ++ ([w6 (-((-t.Lo) / 86400000) * 86400000)] : List Int)).length : Int) = 3 := rfl
    refine Has.chk (roomyI (by simp) (by simp)) ?_
    refine Has.seq (path_l1 hb (t := t) (r6 := -((-t.Lo) / 86400000)) fun j j0 j1 => ?_) (fun o ho => ?_) fun o ho => ?_
    · rw [ln] at j1
      have : j = 0 ∨ j = 1 ∨ j = 2 := by omega
      rcases this with rfl | rfl | rfl
      · rw [e0]; unfold okT; omega
      · rw [e1]; unfold okT; omega
      · rw [e2]; unfold okT; omega
    · rcases ho with ⟨o', e, h1, h2⟩ | ⟨o', e⟩
      · cases e
        refine Has.ret fun _ => ⟨h1, fun x x0 x1 => ?_⟩
        have a0 := h2 0 (by decide) (by rw [ln]; decide)
        have a1 := h2 1 (by decide) (by rw [ln]; decide)
        have a2 := h2 2 (by decide) (by rw [ln]; decide)
        rw [e0] at a0; rw [e1] at a1; rw [e2] at a2
        exact between_ok hb x0 x1 hd a0 a1 fun _ => a2
      · cases e
    · rcases ho with ⟨o', e, h1, h2⟩ | ⟨o', e⟩
      · cases e
      · cases e; intro e; cases e
  · have hn : ¬ -((-t.Lo) / 86400000) * 86400000 < t.Hi := fun q => hn (decide_eq_true q)
    have e0 : gt ([t.Lo, t.Hi] : List Int) 0 = t.Lo := rfl
    have e1 : gt ([t.Lo, t.Hi] : List Int) 1 = t.Hi := rfl
    have ln : (([t.Lo, t.Hi] : List Int).length : Int) = 2 := rfl
    refine Has.seq (path_l3 hb (t := t) fun j j0 j1 => ?_) (fun o ho => ?_) fun o ho => ?_
    · rw [ln] at j1
      have : j = 0 ∨ j = 1 := by omega
      rcases this with rfl | rfl
      · rw [e0]; unfold okT; omega
      · rw [e1]; unfold okT; omega
    · rcases ho with ⟨o', e, h1, h2⟩ | ⟨o', e⟩
      · cases e
        refine Has.ret fun _ => ⟨h1, fun x x0 x1 => ?_⟩
        have a0 := h2 0 (by decide) (by rw [ln]; decide)
        have a1 := h2 1 (by decide) (by rw [ln]; decide)
        rw [e0] at a0; rw [e1] at a1
        exact between_ok hb x0 x1 hd a0 a1 fun h => absurd h hn
      · cases e
    · rcases ho with ⟨o', e, h1, h2⟩ | ⟨o', e⟩
      · cases e
      · cases e; intro e; cases e
end Lf
/- Boxes around multiples of a vector. -/
namespace Lf
open Go Go.Abs
set_option linter.unusedVariables false
set_option linter.unusedSimpArgs false
/-! ### boxes around multiples of a vector -/
theorem held1_ok (c p1 p3 : Int) (s : spymake_Stream) (hs : okS s) (ha : s.at_ ≤ 4611686018427000000) (hc : -1152921504606846976 ≤ p1 * c ∧ p1 * c ≤ 1152921504606846976) (h3 : 0 ≤ p3 ∧ p3 ≤ 1000000000) :
    Has (Stream_Held_1 c p1 s p3) fun r => r.1.Unknown = false ∧ p1 * c - p3 ≤ r.1.Lo ∧ r.1.Lo ≤ p1 * c ∧ p1 * c ≤ r.1.Hi ∧ r.1.Hi ≤ p1 * c + p3 ∧ after s r.2 2 := by
  unfold Stream_Held_1
  rw [w6_in (n := p3 + 1) (by omega), w6_in (n := p1 * c) (by omega)]
  refine (next_ok s (p3 + 1) hs (by omega) (by omega)).bind fun a ⟨a1, a2, a3⟩ => ?_
  have hA := a3.ok hs (by omega); have hhA := a3.hi
  refine (next_ok a.2 (p3 + 1) hA (by omega) (by omega)).bind fun b ⟨b1, b2, b3⟩ => ?_
  rw [w6_in (by omega), w6_in (by omega)]
  exact Has.ret ⟨rfl, by simp only []; omega, by simp only []; omega, by simp only []; omega, by simp only []; omega, (a3.trans b3).more (by omega)⟩
/-- A box around a multiple of a vector. -/
structure heldB (b : Bound) (k c most : Int) : Prop where
  u : b.Unknown = false
  l0 : k * c - most ≤ b.Lo
  l1 : b.Lo ≤ k * c
  h0 : k * c ≤ b.Hi
  h1 : b.Hi ≤ k * c + most
def smallV (v : Vec) : Prop := (-1099511627776 ≤ v.X ∧ v.X ≤ 1099511627776) ∧ (-1099511627776 ≤ v.Y ∧ v.Y ≤ 1099511627776) ∧ (-1099511627776 ≤ v.Z ∧ v.Z ≤ 1099511627776)
theorem mul8 {k c : Int} (h1 : 1 ≤ k) (h8 : k ≤ 8) (hc : -1099511627776 ≤ c ∧ c ≤ 1099511627776) : -8796093022208 ≤ k * c ∧ k * c ≤ 8796093022208 := by
  have : k = 1 ∨ k = 2 ∨ k = 3 ∨ k = 4 ∨ k = 5 ∨ k = 6 ∨ k = 7 ∨ k = 8 := by omega
  rcases this with rfl | rfl | rfl | rfl | rfl | rfl | rfl | rfl <;> omega
theorem held_ok (s : spymake_Stream) (v : Vec) (most : Int) (hs : okS s) (ha : s.at_ ≤ 4611686018426000000) (hv : smallV v) (hm : 0 ≤ most ∧ most ≤ 1000000000) :
    Has (Stream_Held s v most) fun r => (∃ k : Int, 1 ≤ k ∧ k ≤ 8 ∧ heldB r.1.X k v.X most ∧ heldB r.1.Y k v.Y most ∧ heldB r.1.Z k v.Z most) ∧ after s r.2 7 := by
  unfold Stream_Held
  refine (range_ok s 1 8 hs (by omega) (by omega) (by omega) (by omega)).bind fun a ⟨a1, a2, a3⟩ => ?_
  have hA := a3.ok hs (by omega); have hhA := a3.hi
  have mx := mul8 a1 a2 hv.1; have my := mul8 a1 a2 hv.2.1; have mz := mul8 a1 a2 hv.2.2
  refine (held1_ok v.X a.1 most a.2 hA (by omega) (by omega) hm).bind fun b ⟨b0, b1, b2, b3, b4, b5⟩ => ?_
  have hB := b5.ok hA (by omega); have hhB := b5.hi
  refine (held1_ok v.Y a.1 most b.2 hB (by omega) (by omega) hm).bind fun c ⟨c0, c1, c2, c3, c4, c5⟩ => ?_
  have hC := c5.ok hB (by omega); have hhC := c5.hi
  refine (held1_ok v.Z a.1 most c.2 hC (by omega) (by omega) hm).bind fun d ⟨d0, d1, d2, d3, d4, d5⟩ => ?_
  exact Has.ret ⟨⟨a.1, a1, a2, ⟨b0, b1, b2, b3, b4⟩, ⟨c0, c1, c2, c3, c4⟩, ⟨d0, d1, d2, d3, d4⟩⟩, (((a3.trans b5).trans c5).trans d5).more (by omega)⟩
end Lf
/- IdentifyTrue: a body is among those of which its own sighting can be, and its path has its place at each time. -/
namespace Lf
open Go Go.Abs
set_option linter.unusedVariables false
set_option linter.unusedSimpArgs false
theorem namedFact : spykeep4_named = some true := by kernel_rfl
/-- A sighting that can be looked at. -/
structure okSeen (s : Seen) : Prop where
  u : s.At.Unknown = false
  lo : -30000000000 ≤ s.At.Lo
  le : s.At.Lo ≤ s.At.Hi
  hi : s.At.Hi ≤ 30000000000
  d : s.At.Hi - s.At.Lo ≤ 86400000
  from_ : inV s.From
  box : okBox s.Box
  bx : ∀ i : Int, 0 ≤ i → i < 3 → -536870912 ≤ (ax s.Box i).Lo ∧ (ax s.Box i).Hi ≤ 536870912
  fx : s.Flux.ok
theorem checkSeen_ok {s : Seen} (h : okSeen s) : tracklet_CheckSeen s = some 0 := by
  have a1 := h.lo; have a2 := h.le; have a3 := h.hi
  obtain ⟨⟨x1, x2⟩, ⟨y1, y2⟩, ⟨z1, z2⟩⟩ := h.from_
  apply Has.val
  unfold tracklet_CheckSeen
  have ok : s.At.ok := ⟨fun e => (by rw [h.u] at e; cases e), by omega, h.le, by omega⟩
  have g1 : ¬ s.At.Lo < -17592186044416 := by omega
  have g2 : ¬ s.At.Hi > 17592186044416 := by omega
  have g3 : ¬ max (max s.From.X s.From.Y) s.From.Z > 4194304 := by omega
  have g4 : ¬ min (min s.From.X s.From.Y) s.From.Z < -4194304 := by omega
  rw [check_ok ok, h.u, check_ok h.fx, mx2_max, mx2_max, mn2_min, mn2_min]
  simp only [Option.bind_some, bne_self_eq_false, Bool.false_eq_true, if_false, g1, g2, g3, g4, decide_false]
  refine Has.seq (P := fun t : Step Unit Int => t = .next ()) ?_ (fun _ _ => Has.ret rfl) (fun o ho => by cases ho)
  refine Has.loop (fun i : Int => 0 ≤ i ∧ i ≤ 3) (fun i => (3 - i).toNat) _ ⟨Int.le_refl _, by decide⟩ (by decide) fun i ⟨i0, i1⟩ => ?_
  unfold tracklet_CheckSeen.l1
  refine Has.letF (Has.ite (fun hi => ?_) fun hi => Has.ret (.done rfl))
  have hi : i < 3 := of_decide_eq_true hi
  have e : gt ([s.Box.X, s.Box.Y, s.Box.Z] : List Bound) i = ax s.Box i := rfl
  obtain ⟨b1, b2⟩ := h.bx i i0 hi
  have g5 : ¬ (ax s.Box i).Lo < -536870912 := by omega
  have g6 : ¬ (ax s.Box i).Hi > 536870912 := by omega
  rw [e, check_ok (ax_ok h.box i0 hi), w6_in (n := i + 1) (by omega)]
  simp only [Option.bind_some, bne_self_eq_false, Bool.false_eq_true, if_false, letF, g5, g6, decide_false]
  exact Has.chk ⟨i0, hi⟩ (Has.ret (.next ⟨by omega, by omega⟩ (by omega)))
theorem two_at (a b : Vec) {i : Int} (i0 : 0 ≤ i) (i1 : i < 2) : gt ([a, b] : List Vec) i = a ∨ gt ([a, b] : List Vec) i = b := by
  have : i = 0 ∨ i = 1 := by omega
  rcases this with rfl | rfl
  · exact .inl rfl
  · exact .inr rfl
theorem check_ok' {s : Seen} {l : List Body} (h : okSeen s) (hl : ∀ b ∈ l, okB b) (hn : l.length ≤ 40) : identify_Check s l = some 0 := by
  have d := h.d; have a1 := h.lo; have a2 := h.le; have a3 := h.hi
  apply Has.val
  unfold identify_Check
  have g1 : ¬ s.At.Hi - s.At.Lo > 86400000 := by omega
  have g2 : ¬ (l.length : Int) > 40 := by omega
  rw [checkSeen_ok h, w6_in (n := s.At.Hi - s.At.Lo) (by omega)]
  simp only [Option.bind_some, bne_self_eq_false, Bool.false_eq_true, if_false, g1, g2, decide_false]
  refine Has.seq (P := fun t : Step Unit Int => t = .next ()) ?_ (fun _ _ => Has.ret rfl) (fun o ho => by cases ho)
  refine Has.loop (fun i : Int => 0 ≤ i ∧ i ≤ l.length) (fun i => (l.length - i).toNat) _ ⟨Int.le_refl _, by omega⟩ (by omega) fun i ⟨i0, i1⟩ => ?_
  unfold identify_Check.l1
  refine Has.ite (fun hi => ?_) fun hi => Has.ret (.done rfl)
  have hi : i < l.length := of_decide_eq_true hi
  have ob := hl _ (gt_mem l i ⟨i0, hi⟩)
  refine Has.chk ⟨i0, hi⟩ (Has.seq (P := fun t : Step Unit (Step Int (Step Unit Int)) => t = .next ()) ?_ (fun _ _ => by rw [w6_in (by omega)]; exact Has.ret (.next ⟨by omega, by omega⟩ (by omega))) (fun o ho => by cases ho))
  refine Has.loop (fun j : Int => 0 ≤ j ∧ j ≤ 2) (fun j => (2 - j).toNat) _ ⟨Int.le_refl _, by decide⟩ (by decide) fun j ⟨j0, j1⟩ => ?_
  unfold identify_Check.l2
  refine Has.letF (Has.ite (fun hj => ?_) fun hj => Has.ret (.done rfl))
  have hj : j < 2 := of_decide_eq_true hj
  have iv : inV (gt ([(gt l i).Was, (gt l i).Here] : List Vec) j) := by
    rcases two_at (gt l i).Was (gt l i).Here j0 hj with e | e <;> rw [e]
    · exact ob.w
    · exact ob.h
  generalize gt ([(gt l i).Was, (gt l i).Here] : List Vec) j = v at *
  obtain ⟨⟨x1, x2⟩, ⟨y1, y2⟩, ⟨z1, z2⟩⟩ := iv
  have g3 : ¬ max (max v.X v.Y) v.Z > 4194304 := by omega
  have g4 : ¬ min (min v.X v.Y) v.Z < -4194304 := by omega
  rw [mx2_max, mx2_max, mn2_min, mn2_min, w6_in (n := j + 1) (by omega)]
  simp only [letF, g3, g4, decide_false, Bool.false_eq_true, if_false, Option.bind_some]
  exact Has.chk ⟨j0, hj⟩ (Has.ret (.next ⟨by omega, by omega⟩ (by omega)))
theorem box_ok {f : Vec} (hf : inV f) {p : Place3} (hp : ok3 p) : identify_box f p = some ⟨subZ p.1 ⟨f.X, f.X, false⟩, subZ p.2.1 ⟨f.Y, f.Y, false⟩, subZ p.2.2 ⟨f.Z, f.Z, false⟩⟩ := by
  have h := ex3_ok hf
  unfold identify_box
  have hx : Bound.ok ⟨f.X, f.X, false⟩ := h.x
  have hy : Bound.ok ⟨f.Y, f.Y, false⟩ := h.y
  have hz : Bound.ok ⟨f.Z, f.Z, false⟩ := h.z
  rw [exact3_ok hf]
  simp only [Option.bind_some, ex3]
  rw [subZ_eq hp.x hx, subZ_eq hp.y hy, subZ_eq hp.z hz]
  rfl
/-- The box that is seen holds a multiple of the direction of a body. -/
def aims (k : Int) (s : Seen) (v : Vec) : Prop := 1 ≤ k ∧ k ≤ 8 ∧ hasZ s.Box.X (k * (v.X - s.From.X)) ∧ hasZ s.Box.Y (k * (v.Y - s.From.Y)) ∧ hasZ s.Box.Z (k * (v.Z - s.From.Z))
theorem known_ok {s : Seen} {l : List Body} (h : okSeen s) (hl : ∀ b ∈ l, okB b) (hn : l.length ≤ 40) :
    Has (identify_Known s l) fun r => r.2 = 0 ∧ r.1.length ≤ 40 ∧ ∀ i : Int, 0 ≤ i → i < l.length → (∀ o, identify_Path (gt l i) s.At = some (o, true) → True) → (∃ o, identify_Path (gt l i) s.At = some (o, true) ∧ ∃ k v, aims k s v ∧ has3 o v) → i ∈ r.1 := by
  unfold identify_Known
  rw [check_ok' h hl hn]
  simp only [Option.bind_some, bne_self_eq_false, Bool.false_eq_true, if_false]
  refine Has.bind (P := fun r : List Int => r.length ≤ 40 ∧ ∀ i : Int, 0 ≤ i → i < l.length → (∃ o, identify_Path (gt l i) s.At = some (o, true) ∧ ∃ k v, aims k s v ∧ has3 o v) → i ∈ r) ?_ fun r ⟨hr, hr2⟩ => Has.ret ⟨rfl, hr, fun i i0 i1 _ => hr2 i i0 i1⟩
  refine Has.loop (fun t : List Int × Int => 0 ≤ t.2 ∧ t.2 ≤ l.length ∧ (t.1.length : Int) ≤ t.2 ∧ ∀ i : Int, 0 ≤ i → i < t.2 → (∃ o, identify_Path (gt l i) s.At = some (o, true) ∧ ∃ k v, aims k s v ∧ has3 o v) → i ∈ t.1) (fun t => (l.length - t.2).toNat) _ ⟨Int.le_refl _, by simp only []; omega, by simp, fun i i0 i1 => by simp only [] at i1; omega⟩ (by simp only []; omega) fun t ⟨t0, t1, t2, t3⟩ => ?_
  unfold identify_Known.l1
  refine Has.ite (fun hi => ?_) fun hi => ?_
  · have hi : t.2 < l.length := of_decide_eq_true hi
    have ob := hl _ (gt_mem l t.2 ⟨t0, hi⟩)
    rw [w6_in (n := t.2 + 1) (by omega)]
    refine Has.bind (P := fun z : List Int => (z.length : Int) ≤ t.2 + 1 ∧ (∀ i ∈ t.1, i ∈ z) ∧ ((∃ o, identify_Path (gt l t.2) s.At = some (o, true) ∧ ∃ k v, aims k s v ∧ has3 o v) → t.2 ∈ z)) (Has.chk ⟨t0, hi⟩ ?_) fun z ⟨z1, z2, z3⟩ => Has.ret (.next ⟨by simp only []; omega, by simp only []; omega, z1, fun i i0 i1 hx => ?_⟩ (by simp only []; omega))
    · obtain ⟨q, eq, hq⟩ := idPath_ok ob h.u h.lo h.le h.hi h.d
      rw [eq]
      simp only [Option.bind_some]
      refine Has.bind (P := fun b : Bool => (∃ o, identify_Path (gt l t.2) s.At = some (o, true) ∧ ∃ k v, aims k s v ∧ has3 o v) → b = true) (Has.ite (fun hb => ?_) fun hb => Has.ret fun ⟨o, eo, _⟩ => ?_) fun b hb => ?_
      · obtain ⟨o3, _⟩ := hq hb
        rw [box_ok h.from_ o3]
        simp only [Option.bind_some]
        refine (share_ok (a := ⟨subZ q.1.1 ⟨s.From.X, s.From.X, false⟩, subZ q.1.2.1 ⟨s.From.Y, s.From.Y, false⟩, subZ q.1.2.2 ⟨s.From.Z, s.From.Z, false⟩⟩) ⟨subZ_ok _ _, subZ_ok _ _, subZ_ok _ _⟩ h.box).bind fun w hw => Has.ret fun ⟨o, eo, k, v, ⟨k1, k8, ax_, ay_, az_⟩, h3⟩ => ?_
        rw [eq] at eo
        have eo : q.1 = o := congrArg Prod.fst (Option.some.inj eo)
        subst eo
        have self : ∀ x : Int, hasZ ⟨x, x, false⟩ x := fun x => .inr ⟨Int.le_refl _, Int.le_refl _⟩
        have bx := hasZ_sub h3.x (self s.From.X)
        have by_ := hasZ_sub h3.y (self s.From.Y)
        have bz := hasZ_sub h3.z (self s.From.Z)
        have one : ∀ {p q : Bound} {x : Int}, hasZ p x → hasZ q (k * x) → p.Unknown = true ∨ q.Unknown = true ∨ (k * p.Lo ≤ q.Hi ∧ q.Lo ≤ k * p.Hi) := fun {p q x} hp hq => by
          rcases hp with e | ⟨p1, p2⟩
          · exact .inl e
          · rcases hq with e | ⟨q1, q2⟩
            · exact .inr (.inl e)
            · have m1 := Int.mul_le_mul_of_nonneg_left p1 (show 0 ≤ k by omega)
              have m2 := Int.mul_le_mul_of_nonneg_left p2 (show 0 ≤ k by omega)
              exact .inr (.inr ⟨by omega, by omega⟩)
        refine hw k k1 (by omega) fun i i0 i1 => ?_
        have : i = 0 ∨ i = 1 ∨ i = 2 := by omega
        rcases this with rfl | rfl | rfl
        · exact one bx ax_
        · exact one by_ ay_
        · exact one bz az_
      · rw [eq] at eo
        have eo : q = (o, true) := Option.some.inj eo
        rw [eo] at hb; exact absurd rfl hb
      · refine Has.ite (fun hbt => Has.chk (roomyI (by simp; omega) (by simp; omega)) (Has.ret ⟨by simp; omega, fun i hi => List.mem_append_left _ hi, fun _ => List.mem_append_right _ (by simp)⟩)) fun hbf => Has.ret ⟨by omega, fun i hi => hi, fun hx => absurd (hb (by rw [eq]; exact hx)) hbf⟩
    · simp only [] at i1 ⊢
      by_cases e : i = t.2
      · rw [e] at hx ⊢; exact z3 hx
      · exact z2 i (t3 i i0 (by omega) hx)
  · have hi : ¬ t.2 < l.length := fun q => hi (decide_eq_true q)
    exact Has.ret (.done ⟨by omega, fun i i0 i1 => t3 i i0 (by omega)⟩)
theorem bodyEq_ok {a b : Body} (h : ((a.ID == b.ID) && (((a.Was.X == b.Was.X) && ((a.Was.Y == b.Was.Y) && ((a.Was.Z == b.Was.Z) && (true)))) && (((a.Here.X == b.Here.X) && ((a.Here.Y == b.Here.Y) && ((a.Here.Z == b.Here.Z) && (true)))) && ((a.Rate == b.Rate) && (true))))) = true) : a = b := by
  obtain ⟨a1, ⟨a2, a3, a4⟩, ⟨a5, a6, a7⟩, a8⟩ := a
  obtain ⟨b1, ⟨b2, b3, b4⟩, ⟨b5, b6, b7⟩, b8⟩ := b
  simp at h
  obtain ⟨h1, ⟨h2, h3, h4⟩, ⟨h5, h6, h7⟩, h8⟩ := h
  subst h1 h2 h3 h4 h5 h6 h7 h8
  rfl
theorem indexBody_ok {l : List Body} {j : Int} (j0 : 0 ≤ j) (j1 : j < l.length) (hn : l.length ≤ 1000000) : Has (slices_Index_Body l (gt l j)) fun r => 0 ≤ r ∧ r < l.length ∧ gt l r = gt l j := by
  unfold slices_Index_Body
  refine Has.seq (P := fun t : Step Unit Int => ∃ r, t = .done r ∧ 0 ≤ r ∧ r < l.length ∧ gt l r = gt l j) ?_ (fun s ⟨r, e, _⟩ => nomatch e) (fun o ⟨r, e, h⟩ => by cases e; exact h)
  refine Has.loop (fun i : Int => 0 ≤ i ∧ i ≤ j) (fun i => (l.length - i).toNat) _ ⟨Int.le_refl _, j0⟩ (by omega) fun i ⟨i0, i1⟩ => ?_
  unfold slices_Index_Body.l1
  refine Has.ite (fun hi => ?_) fun hi => ?_
  · have hi : i < l.length := of_decide_eq_true hi
    rw [w6_in (n := i + 1) (by omega)]
    refine Has.chk ⟨i0, hi⟩ (Has.ite (fun he => Has.ret (.done ⟨i, rfl, i0, hi, (bodyEq_ok he).symm⟩)) fun he => Has.ret (.next ⟨by omega, ?_⟩ (by omega)))
    by_cases e : i = j
    · subst e; exact absurd (by simp) he
    · omega
  · exact absurd (decide_eq_true (by omega)) hi
theorem contains_ok {l : List Int} {x : Int} (h : x ∈ l) (hn : l.length ≤ 1000000) : slices_Contains_Int l x = some true := by
  obtain ⟨n, hn', en⟩ := List.getElem_of_mem h
  have en2 : gt l (n : Int) = x := by
    rw [gt_def l n ⟨by omega, by omega⟩]
    simp only [show ((n : Int)).toNat = n from by omega]; exact en
  apply Has.val
  unfold slices_Contains_Int slices_Index_Int
  refine Has.bind (P := fun r : Int => 0 ≤ r) (Has.seq (P := fun t : Step Unit Int => ∃ r, t = .done r ∧ 0 ≤ r) ?_ (fun s ⟨r, e, _⟩ => nomatch e) (fun o ⟨r, e, h⟩ => by cases e; exact h)) fun r hr => Has.ret (decide_eq_true hr)
  refine Has.loop (fun i : Int => 0 ≤ i ∧ i ≤ n) (fun i => (l.length - i).toNat) _ ⟨Int.le_refl _, by omega⟩ (by omega) fun i ⟨i0, i1⟩ => ?_
  unfold slices_Index_Int.l1
  refine Has.ite (fun hi => ?_) fun hi => absurd (decide_eq_true (by omega)) hi
  have hi : i < l.length := of_decide_eq_true hi
  rw [w6_in (n := i + 1) (by omega)]
  refine Has.chk ⟨i0, hi⟩ (Has.ite (fun he => Has.ret (.done ⟨i, rfl, i0⟩)) fun he => Has.ret (.next ⟨by omega, ?_⟩ (by omega)))
  by_cases e : i = n
  · subst e; rw [en2] at he; exact absurd (by simp) he
  · omega
theorem heldB.ok {b : Bound} {k c most : Int} (h : heldB b k c most) (hk : 1 ≤ k ∧ k ≤ 8) (hc : -8388608 ≤ c ∧ c ≤ 8388608) (hm : most ≤ 500) : b.ok ∧ -536870912 ≤ b.Lo ∧ b.Hi ≤ 536870912 ∧ hasZ b (k * c) := by
  have l0 := h.l0; have l1 := h.l1; have h0 := h.h0; have h1 := h.h1
  have m : -67108864 ≤ k * c ∧ k * c ≤ 67108864 := by
    have : k = 1 ∨ k = 2 ∨ k = 3 ∨ k = 4 ∨ k = 5 ∨ k = 6 ∨ k = 7 ∨ k = 8 := by omega
    rcases this with rfl | rfl | rfl | rfl | rfl | rfl | rfl | rfl <;> omega
  exact ⟨⟨fun e => (by rw [h.u] at e; cases e), by omega, by omega, by omega⟩, by omega, by omega, .inr ⟨l1, h0⟩⟩
theorem IdentifyTrue_true (l : List Int) (when_ before behind : Int) (hl : okL l) (hw : -9223372036854775808 ≤ when_ ∧ when_ ≤ 9223372036854775807) (hbf : -9223372036854775808 ≤ before ∧ before ≤ 9223372036854775807) (hbh : -9223372036854775808 ≤ behind ∧ behind ≤ 9223372036854775807) : spykeep4_IdentifyTrue l when_ before behind = some true := by
  apply Has.val
  have h0 := okS.start hl
  unfold spykeep4_IdentifyTrue
  refine (range_ok _ 1 5 h0 (by simp only []; omega) (by omega) (by omega) (by omega)).bind fun r1 ⟨n0, n1, s1⟩ => ?_
  have o1 := s1.ok h0 (by simp only []; omega); have b1 := s1.hi
  refine Has.bind (P := fun z : spymake_Stream × List Body => okS z.1 ∧ z.1.at_ ≤ 1000 ∧ (z.2.length : Int) = r1.1 ∧ ∀ b ∈ z.2, okB b) ?_ fun z ⟨z1, z2, z3, z4⟩ => ?_
  · refine Has.loop (fun t : spymake_Stream × List Body × Int => 0 ≤ t.2.2 ∧ t.2.2 ≤ r1.1 ∧ after r1.2 t.1 (9 * t.2.2) ∧ (t.2.1.length : Int) = t.2.2 ∧ ∀ b ∈ t.2.1, okB b) (fun t => (r1.1 - t.2.2).toNat) _ ⟨Int.le_refl _, by simp only []; omega, after.refl _, rfl, by simp⟩ (by simp only []; omega) fun t ⟨t0, t1, t2, t3, t4⟩ => ?_
    have ot := t2.ok o1 (by simp only [] at b1; omega); have bt := t2.hi
    unfold spykeep4_IdentifyTrue.l1
    refine Has.ite (fun hi => ?_) fun hi => ?_
    · have hi : t.2.2 < r1.1 := of_decide_eq_true hi
      refine (place_ok t.1 2 ot (by simp only [] at b1; omega) (by omega) (by omega)).bind fun p ⟨p1, _, _, _, p5⟩ => ?_
      have op := p5.ok ot (by simp only [] at b1; omega); have bp := p5.hi
      rw [w6_in (n := t.2.2 + 1) (by omega)]
      refine (body_ok p.2 (t.2.2 + 1) p.1 op (by simp only [] at b1; omega)).bind fun q ⟨q1, q2, _, _, _, q6⟩ => ?_
      refine Has.chk (roomyI (by simp; omega) (by simp; omega)) (Has.ret (.next ⟨by simp only []; omega, by simp only []; omega, ((t2.trans p5).trans q6).more (by simp only []; omega), by simp; omega, fun b hb => ?_⟩ (by simp only []; omega)))
      rcases List.mem_append.1 hb with h | h
      · exact t4 b h
      · simp at h; rw [h]; exact ⟨q1, q2⟩
    · have hi : ¬ t.2.2 < r1.1 := fun q => hi (decide_eq_true q)
      exact Has.ret (.done ⟨ot, by simp only [] at b1; simp only []; omega, by simp only []; omega, t4⟩)
  · refine (next_ok z.1 r1.1 z1 (by omega) (by omega)).bind fun r8 ⟨j0, j1, s8⟩ => Has.chk ⟨j0, by omega⟩ ?_
    have o8 := s8.ok z1 (by omega); have b8 := s8.hi
    refine (below_ok when_ 60 hw (by omega)).bind fun r10 ⟨w0, w1⟩ => (below_ok behind 86400000 hbh (by omega)).bind fun r11 ⟨u0, u1⟩ => (below_ok before 43200000 hbf (by omega)).bind fun r12 ⟨f0, f1⟩ => (below_ok behind 43200000 hbh (by omega)).bind fun r13 ⟨g0, g1⟩ => ?_
    refine (place_ok r8.2 1 o8 (by omega) (by omega) (by omega)).bind fun r14 ⟨e14, _, _, _, s14⟩ => ?_
    have o14 := s14.ok o8 (by omega); have b14 := s14.hi
    rw [w6_in (n := r10 - 30) (by omega), w6_in (n := (r10 - 30) * 86400000) (by omega), w6_in (n := (r10 - 30) * 86400000 + r11) (by omega)]
    generalize ht : (r10 - 30) * 86400000 + r11 = t
    have tb : -2592000000 ≤ t ∧ t < 2592000000 := by omega
    rw [w6_in (n := t - r12) (by omega), w6_in (n := t + r13) (by omega)]
    have hj : r8.1 < z.2.length := by omega
    have ob := z4 _ (gt_mem z.2 r8.1 ⟨j0, hj⟩)
    refine (skyPlace_ok ob (t := t) (by omega) (by omega)).bind fun r15 ⟨p1, p2⟩ => ?_
    obtain ⟨r16, e16, q16⟩ := idPath_ok ob (t := ⟨t - r12, t + r13, false⟩) rfl (by simp only []; omega) (by simp only []; omega) (by simp only []; omega) (by simp only []; omega)
    rw [e16, namedFact]
    simp only [Option.bind_some, Bool.not_true, Bool.false_eq_true, if_false]
    -- what the path tells of the time
    have key : r16.2 = true → ok3 r16.1 ∧ ∃ p, dayR (gt z.2 r8.1) (t / 86400000) = some p ∧ r15 = (itpV p (t % 86400000), 0) ∧ has3 r16.1 r15.1 ∧ inV r15.1 := fun h => by
      obtain ⟨a, b⟩ := q16 h
      obtain ⟨p, ep, hp⟩ := b t (by simp only []; omega) (by simp only []; omega)
      have e := p1 p ep
      exact ⟨a, p, ep, e, by rw [e]; exact hp, by rw [e]; exact itpV_in ob ep (by omega) (by omega)⟩
    refine Has.bind (P := fun c : Bool => (c = true → (r15.2 = 0 ∨ r16.2 = false)) ∧ (c = false → r15.2 = 0 ∧ r16.2 = true)) ?_ fun c ⟨c1, c2⟩ => ?_
    · refine Has.ite (fun h => Has.ret ⟨fun _ => ?_, (fun e => nomatch e)⟩) fun h => ?_
      · cases hr : r16.2 with
        | false => exact .inr rfl
        | true =>
          obtain ⟨_, p, _, e, _⟩ := key hr
          rw [e] at h; cases h
      · have h15 : r15.2 = 0 := by simpa using h
        refine Has.ite (fun h2 => Has.ret ⟨fun _ => .inl h15, (fun e => nomatch e)⟩) fun h2 => Has.ret ⟨fun _ => .inl h15, fun _ => ⟨h15, by simpa using h2⟩⟩
    · refine Has.ite (fun hc => ?_) fun hc => ?_
      · refine Has.bind (P := fun y => y = true) (Has.ite (fun _ => Has.ret rfl) fun h => Has.ret ?_) fun y hy => Has.ret hy
        rcases c1 hc with e | e
        · rw [e] at h; exact absurd rfl h
        · rw [e]; rfl
      · obtain ⟨h15, h16⟩ := c2 (by simpa using hc)
        obtain ⟨o3, p, ep, e15, h3, iv⟩ := key h16
        obtain ⟨⟨x1, x2⟩, ⟨y1, y2⟩, ⟨v1, v2⟩⟩ := iv
        obtain ⟨⟨a1, a2⟩, ⟨b1', b2⟩, ⟨c1', c2'⟩⟩ := e14
        unfold spykeep4_from
        rw [w6_in (n := r15.1.X - r14.1.X) (by omega), w6_in (n := r15.1.Y - r14.1.Y) (by omega), w6_in (n := r15.1.Z - r14.1.Z) (by omega)]
        simp only [Option.bind_some]
        refine (next_ok r14.2 2 o14 (by omega) (by omega)).bind fun r26 ⟨k0, k1, s26⟩ => Has.chk ⟨k0, k1⟩ ?_
        have o26 := s26.ok o14 (by omega); have b26 := s26.hi
        have mst : 0 ≤ gt ([0, 500] : List Int) r26.1 ∧ gt ([0, 500] : List Int) r26.1 ≤ 500 := by
          have : r26.1 = 0 ∨ r26.1 = 1 := by omega
          rcases this with e | e <;> rw [e] <;> decide
        refine (held_ok r26.2 ⟨r15.1.X - r14.1.X, r15.1.Y - r14.1.Y, r15.1.Z - r14.1.Z⟩ _ o26 (by omega) ⟨by simp only []; omega, by simp only []; omega, by simp only []; omega⟩ ⟨mst.1, by omega⟩).bind fun r28 ⟨⟨k, k1', k8, hX, hY, hZ⟩, _⟩ => ?_
        simp only [] at hX hY hZ
        obtain ⟨oX, lX, uX, tX⟩ := hX.ok ⟨k1', k8⟩ (by omega) mst.2
        obtain ⟨oY, lY, uY, tY⟩ := hY.ok ⟨k1', k8⟩ (by omega) mst.2
        obtain ⟨oZ, lZ, uZ, tZ⟩ := hZ.ok ⟨k1', k8⟩ (by omega) mst.2
        have os : okSeen ⟨⟨t - r12, t + r13, false⟩, r14.1, r28.1, ⟨0, 0, false⟩⟩ := ⟨rfl, by simp only []; omega, by simp only []; omega, by simp only []; omega, by simp only []; omega, ⟨⟨a1, a2⟩, ⟨b1', b2⟩, ⟨c1', c2'⟩⟩, ⟨oX, oY, oZ⟩, fun i i0 i1 => by
          have : i = 0 ∨ i = 1 ∨ i = 2 := by omega
          rcases this with rfl | rfl | rfl
          · exact ⟨lX, uX⟩
          · exact ⟨lY, uY⟩
          · exact ⟨lZ, uZ⟩, okKnown (by decide) (by decide) (by decide)⟩
        obtain ⟨r29, e29, q29, l29, m29⟩ := known_ok os z4 (by omega)
        have mem : ∀ i : Int, 0 ≤ i → i < z.2.length → gt z.2 i = gt z.2 r8.1 → i ∈ r29.1 := fun i i0 i1 ei => m29 i i0 i1 (fun _ _ => trivial) ⟨r16.1, by
          rw [ei, e16]
          exact congrArg some (Prod.ext rfl h16), k, r15.1, ⟨k1', k8, tX, tY, tZ⟩, h3⟩
        have m8 := mem r8.1 j0 hj rfl
        rw [e29]
        simp only [Option.bind_some]
        refine Has.bind (P := fun w : List Int × Int => w.2 = 0 ∧ w.1.length = 0) ?_ fun w ⟨w1', w2'⟩ => ?_
        · unfold identify_New
          refine Has.neg (by simp) (Has.seq (P := fun y : Step (List Int) (List Int × Int) => y = .next []) ?_ (fun y hy => by cases hy; exact Has.ret ⟨rfl, rfl⟩) (fun o ho => by cases ho))
          refine Has.loop (fun y : List Int × Int => y.1 = [] ∧ 0 ≤ y.2 ∧ y.2 ≤ 1) (fun y => (1 - y.2).toNat) _ ⟨rfl, Int.le_refl _, by decide⟩ (by decide) fun y ⟨y0, y1', y2'⟩ => ?_
          unfold identify_New.l1
          refine Has.ite (fun hi => ?_) fun hi => Has.ret (.done (by rw [y0]))
          have hi : y.2 < 1 := of_decide_eq_true hi
          have ey : y.2 = 0 := by omega
          have eg : gt ([Seen.mk (Bound.mk (t - r12) (t + r13) false) r14.1 r28.1 (Bound.mk 0 0 false)] : List Seen) y.2 = Seen.mk (Bound.mk (t - r12) (t + r13) false) r14.1 r28.1 (Bound.mk 0 0 false) := by rw [ey]; rfl
          rw [eg, e29, y0, w6_in (n := y.2 + 1) (by omega)]
          simp only [Option.bind_some, q29, bne_self_eq_false, Bool.false_eq_true, if_false]
          refine Has.seq (P := fun x : Step (List Int) (Step (List Int × Int) (Step (List Int) (List Int × Int))) => x = .next []) (Has.chk ⟨y1', hi⟩ (Has.neg ?_ (Has.ret rfl))) (fun x hx => by cases hx; exact Has.ret (.next ⟨rfl, by simp only []; omega, by simp only []; omega⟩ (by simp only []; omega))) (fun o ho => by cases ho)
          intro hz
          have : r29.1 = [] := by simpa using hz
          rw [this] at m8; simp at m8
        · refine Has.bind (P := fun y => y = true) ?_ fun y hy => Has.ret hy
          refine Has.pos (by simp [q29]) (Has.pos (by simp [w1']) ?_)
          refine (indexBody_ok j0 hj (by omega)).bind fun x ⟨x0, x1', x2'⟩ => ?_
          rw [contains_ok (mem x x0 x1' x2') (by omega)]
          refine Has.pos (by simp [w2']) ?_
          rw [predictHas_ok o3 h3]
          exact Has.ret rfl
end Lf
