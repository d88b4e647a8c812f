/- Laws of the plain functions. Conditions: as each theorem states them. -/
import Derived.Test.YtjbkficonmncgaaY0
/- A day's step of bounds of places. -/
namespace Lf
open Go Go.Abs
set_option linter.unusedVariables false
set_option linter.unusedSimpArgs false
theorem ofZ22 : ofZ 2 2 = ⟨2, 2, false⟩ := by decide
def stepZ (here was pull : Bound) : Bound := addZ (subZ (mulZ here ⟨2, 2, false⟩ 1) was) pull
theorem stepZ_ok (here was pull : Bound) : (stepZ here was pull).ok := addZ_ok _ _
theorem scale2_eq {b : Bound} (h : b.ok) : bound_Scale b 2 1 = some (mulZ b ⟨2, 2, false⟩ 1) := by
  unfold bound_Scale bound_Exact
  rw [ofZ_eq, ofZ22]
  simp only [Option.bind_some]
  rw [mulZ_eq h (okKnown (by decide) (by decide) (by decide)) (by decide)]
  rfl
theorem step_round0 {was here r1 : Place3} (hh : here.1.ok) (hw : was.1.ok) (hr : r1.1.ok) (a b c : Bound) : predict_Step.l1 was here r1 ((a, b, c), 0) = some (.next ((stepZ here.1 was.1 r1.1, b, c), 1)) := by
  unfold predict_Step.l1
  have l0 : ((0 : Int) ≤ 0) = True := by simp
  have g4 : ∀ u v w : Bound, ((0 : Int) ≤ 0 ∧ (0 : Int) < (([u, v, w] : List Bound).length : Int)) := fun u v w => ⟨by decide, by simp⟩
  simp only [gt3_0, gt3_1, gt3_2, set3_0, set3_1, set3_2, letF]
  rw [if_pos (decide_eq_true (show (0 : Int) < 3 by decide)), if_pos (g4 _ _ _), scale2_eq hh, show w6 (0 + 1) = 1 from by decide]
  simp only [Option.bind_some]
  rw [if_pos (g4 _ _ _), subZ_eq (mulZ_ok _ _ _) hw]
  simp only [Option.bind_some]
  rw [if_pos (g4 _ _ _), addZ_eq (subZ_ok _ _) hr]
  simp only [Option.bind_some]
  rw [if_pos (g4 _ _ _)]
  rfl
theorem step_round1 {was here r1 : Place3} (hh : here.2.1.ok) (hw : was.2.1.ok) (hr : r1.2.1.ok) (a b c : Bound) : predict_Step.l1 was here r1 ((a, b, c), 1) = some (.next ((a, stepZ here.2.1 was.2.1 r1.2.1, c), 2)) := by
  unfold predict_Step.l1
  have g4 : ∀ u v w : Bound, ((0 : Int) ≤ 1 ∧ (1 : Int) < (([u, v, w] : List Bound).length : Int)) := fun u v w => ⟨by decide, by simp⟩
  simp only [gt3_0, gt3_1, gt3_2, set3_0, set3_1, set3_2, letF]
  rw [if_pos (decide_eq_true (show (1 : Int) < 3 by decide)), if_pos (g4 _ _ _), scale2_eq hh, show w6 (1 + 1) = 2 from by decide]
  simp only [Option.bind_some]
  rw [if_pos (g4 _ _ _), subZ_eq (mulZ_ok _ _ _) hw]
  simp only [Option.bind_some]
  rw [if_pos (g4 _ _ _), addZ_eq (subZ_ok _ _) hr]
  simp only [Option.bind_some]
  rw [if_pos (g4 _ _ _)]
  rfl
theorem step_round2 {was here r1 : Place3} (hh : here.2.2.ok) (hw : was.2.2.ok) (hr : r1.2.2.ok) (a b c : Bound) : predict_Step.l1 was here r1 ((a, b, c), 2) = some (.next ((a, b, stepZ here.2.2 was.2.2 r1.2.2), 3)) := by
  unfold predict_Step.l1
  have g4 : ∀ u v w : Bound, ((0 : Int) ≤ 2 ∧ (2 : Int) < (([u, v, w] : List Bound).length : Int)) := fun u v w => ⟨by decide, by simp⟩
  simp only [gt3_0, gt3_1, gt3_2, set3_0, set3_1, set3_2, letF]
  rw [if_pos (decide_eq_true (show (2 : Int) < 3 by decide)), if_pos (g4 _ _ _), scale2_eq hh, show w6 (2 + 1) = 3 from by decide]
  simp only [Option.bind_some]
  rw [if_pos (g4 _ _ _), subZ_eq (mulZ_ok _ _ _) hw]
  simp only [Option.bind_some]
  rw [if_pos (g4 _ _ _), addZ_eq (subZ_ok _ _) hr]
  simp only [Option.bind_some]
  rw [if_pos (g4 _ _ _)]
  rfl
/-- What a pull gives. -/
def isPull (p : Place3) (q : Place3) : Prop := ∃ r, isFar p r ∧ q = (pullZ r.1 r.2.1 r.2.2 p.1, pullZ r.1 r.2.1 r.2.2 p.2.1, pullZ r.1 r.2.1 r.2.2 p.2.2)
theorem isPull.ok {p q : Place3} (h : isPull p q) : ok3 q := by obtain ⟨r, _, rfl⟩ := h; exact ⟨pullZ_ok _ _ _ _, pullZ_ok _ _ _ _, pullZ_ok _ _ _ _⟩
theorem step_ok {was here : Place3} (hw : ok3 was) (hh : ok3 here) : Has (predict_Step was here) fun n => ok3 n ∧ ∃ q, isPull here q ∧ n = (stepZ here.1 was.1 q.1, stepZ here.2.1 was.2.1 q.2.1, stepZ here.2.2 was.2.2 q.2.2) := by
  unfold predict_Step
  refine (pull_ok hh).bind fun q hq => ?_
  have hq : isPull here q := hq
  have oq := hq.ok
  rw [(Run.next (step_round0 hh.x hw.x oq.x _ _ _) (Run.next (step_round1 hh.y hw.y oq.y _ _ _) (Run.next (step_round2 hh.z hw.z oq.z _ _ _) (Run.done rfl)))).ok (by decide)]
  exact Has.ret ⟨⟨stepZ_ok _ _ _, stepZ_ok _ _ _, stepZ_ok _ _ _⟩, q, hq, rfl⟩
/-! ### one day of a body -/
def inV (v : Vec) : Prop := (-4194304 ≤ v.X ∧ v.X ≤ 4194304) ∧ (-4194304 ≤ v.Y ∧ v.Y ≤ 4194304) ∧ (-4194304 ≤ v.Z ∧ v.Z ≤ 4194304)
instance (v : Vec) : Decidable (inV v) := inferInstanceAs (Decidable (_ ∧ _))
theorem gtv_0 (a b c : Int) : gt ([a, b, c] : List Int) 0 = a := rfl
theorem gtv_1 (a b c : Int) : gt ([a, b, c] : List Int) 1 = b := rfl
theorem gtv_2 (a b c : Int) : gt ([a, b, c] : List Int) 2 = c := rfl
theorem within_round {v : Vec} {k k' x : Int} (hk : (0 : Int) ≤ k ∧ k < 3) (e : gt ([v.X, v.Y, v.Z] : List Int) k = x) (ek : w6 (k + 1) = k') :
    (-4194304 ≤ x ∧ x ≤ 4194304 → sky_within.l1 v 4194304 k = some (.next k')) ∧ (¬ (-4194304 ≤ x ∧ x ≤ 4194304) → sky_within.l1 v 4194304 k = some (.done (.done false))) := by
  have hl : k < (([v.X, v.Y, v.Z] : List Int).length : Int) := hk.2
  have em : w6 (0 - 4194304) = -4194304 := by decide
  unfold sky_within.l1
  rw [if_pos (decide_eq_true hk.2), if_pos ⟨hk.1, hl⟩, e, ek, em]
  simp only [letF]
  constructor
  · intro h
    have g1 : ¬ x < -4194304 := by omega
    have g2 : ¬ x > 4194304 := by omega
    simp [g1, g2]
  · intro h
    by_cases g1 : x < -4194304
    · simp [g1]
    · have g2 : x > 4194304 := by omega
      simp [g1, g2]
theorem within_ok (v : Vec) : sky_within v 4194304 = some (decide (inV v)) := by
  obtain ⟨x1, x2⟩ := within_round (v := v) (k := 0) (k' := 1) (x := v.X) (by decide) rfl (by decide)
  obtain ⟨y1, y2⟩ := within_round (v := v) (k := 1) (k' := 2) (x := v.Y) (by decide) rfl (by decide)
  obtain ⟨z1, z2⟩ := within_round (v := v) (k := 2) (k' := 3) (x := v.Z) (by decide) rfl (by decide)
  unfold sky_within
  by_cases n1 : -4194304 ≤ v.X ∧ v.X ≤ 4194304
  · by_cases n2 : -4194304 ≤ v.Y ∧ v.Y ≤ 4194304
    · by_cases n3 : -4194304 ≤ v.Z ∧ v.Z ≤ 4194304
      · rw [(Run.next (x1 n1) (Run.next (y1 n2) (Run.next (z1 n3) (Run.done (o := .next ()) rfl)))).ok (by decide), decide_eq_true (show inV v from ⟨n1, n2, n3⟩)]; rfl
      · rw [(Run.next (x1 n1) (Run.next (y1 n2) (Run.done (z2 n3)))).ok (by decide), decide_eq_false (show ¬ inV v from fun h => n3 h.2.2)]; rfl
    · rw [(Run.next (x1 n1) (Run.done (y2 n2))).ok (by decide), decide_eq_false (show ¬ inV v from fun h => n2 h.2.1)]; rfl
  · rw [(Run.done (x2 n1)).ok (by decide), decide_eq_false (show ¬ inV v from fun h => n1 h.1)]; rfl
/-- The pull at a place. -/
def isG (v g : Vec) : Prop := ∃ r, isRt (v.X * v.X + v.Y * v.Y + v.Z * v.Z) r ∧ ((r < 65536 ∧ g = ⟨0, 0, 0⟩) ∨ (65536 ≤ r ∧ g = ⟨partZ v.X r, partZ v.Y r, partZ v.Z r⟩))
theorem sq44 {x : Int} (h : -4194304 ≤ x ∧ x ≤ 4194304) : 0 ≤ x * x ∧ x * x ≤ 17592186044416 := by
  obtain ⟨p, q⟩ := square_bd (b := ⟨-4194304, 4194304, false⟩) (x := x) h.1 h.2
  have e1 : aLo ⟨-4194304, 4194304, false⟩ = 0 := by decide
  have e2 : aHi ⟨-4194304, 4194304, false⟩ = 4194304 := by decide
  rw [e1] at p; rw [e2] at q
  omega
theorem isG.bd {v g : Vec} (hv : inV v) (h : isG v g) : (-1073741824 ≤ g.X ∧ g.X ≤ 1073741824) ∧ (-1073741824 ≤ g.Y ∧ g.Y ≤ 1073741824) ∧ (-1073741824 ≤ g.Z ∧ g.Z ≤ 1073741824) := by
  obtain ⟨r, hr, h⟩ := h
  obtain ⟨⟨a1, a2⟩, ⟨b1, b2⟩, ⟨c1, c2⟩⟩ := hv
  have s1 := sq44 ⟨a1, a2⟩; have s2 := sq44 ⟨b1, b2⟩; have s3 := sq44 ⟨c1, c2⟩
  rcases h with ⟨_, rfl⟩ | ⟨r0, rfl⟩
  · decide
  · have r1 : r < 67108864 := sq_lt hr.r0 (by decide) (by have := hr.lo; omega)
    exact ⟨(part_ok (by omega) (by omega) r0 (by omega)).2, (part_ok (by omega) (by omega) r0 (by omega)).2, (part_ok (by omega) (by omega) r0 (by omega)).2⟩
theorem skyPull_ok {v : Vec} (hv : inV v) : Has (sky_Pull v) fun g => isG v g := by
  have hv0 := hv
  obtain ⟨⟨a1, a2⟩, ⟨b1, b2⟩, ⟨c1, c2⟩⟩ := hv
  have s1 := sq44 ⟨a1, a2⟩; have s2 := sq44 ⟨b1, b2⟩; have s3 := sq44 ⟨c1, c2⟩
  unfold sky_Pull
  rw [within_ok, decide_eq_true hv0, w6_in (n := v.X * v.X) (by omega), w6_in (n := v.Y * v.Y) (by omega), w6_in (n := v.X * v.X + v.Y * v.Y) (by omega), w6_in (n := v.Z * v.Z) (by omega), w6_in (n := v.X * v.X + v.Y * v.Y + v.Z * v.Z) (by omega)]
  simp only [Option.bind_some, Bool.not_true, Bool.false_eq_true, if_false]
  refine Has.letF ((sqrt_ok _ (by omega)).bind fun r hr => ?_)
  have r1 : r < 67108864 := sq_lt hr.r0 (by decide) (by have := hr.lo; omega)
  refine Has.ite (fun h => Has.ret ⟨r, hr, .inl ⟨of_decide_eq_true h, rfl⟩⟩) fun h => ?_
  have r0 : 65536 ≤ r := by have : ¬ r < 65536 := fun q => h (decide_eq_true q); omega
  rw [skyPart_ok (by omega) (by omega) r0 (by omega), skyPart_ok (by omega) (by omega) r0 (by omega), skyPart_ok (by omega) (by omega) r0 (by omega)]
  exact Has.ret ⟨r, hr, .inr ⟨r0, rfl⟩⟩
/-- The place a day later. -/
def nextV (was here g : Vec) : Vec := ⟨2 * here.X - was.X + g.X, 2 * here.Y - was.Y + g.Y, 2 * here.Z - was.Z + g.Z⟩
theorem skyStep_ok {was here : Vec} (hw : inV was) (hh : inV here) : Has (sky_Step was here) fun r => ∃ g, isG here g ∧ ((r.2 = 0 ∧ inV (nextV was here g) ∧ r.1 = nextV was here g) ∨ r.2 = 18) := by
  unfold sky_Step
  rw [within_ok, within_ok, decide_eq_true hw, decide_eq_true hh]
  simp only [Option.bind_some, Bool.not_true, Bool.false_eq_true, if_false]
  refine (skyPull_ok hh).bind fun g hg => ?_
  have bg := hg.bd hh
  obtain ⟨⟨a1, a2⟩, ⟨b1, b2⟩, ⟨c1, c2⟩⟩ := hh
  obtain ⟨⟨d1, d2⟩, ⟨e1, e2⟩, ⟨f1, f2⟩⟩ := hw
  rw [w6_in (n := 2 * here.X) (by omega), w6_in (n := 2 * here.X - was.X) (by omega), w6_in (n := 2 * here.X - was.X + g.X) (by omega), w6_in (n := 2 * here.Y) (by omega), w6_in (n := 2 * here.Y - was.Y) (by omega), w6_in (n := 2 * here.Y - was.Y + g.Y) (by omega), w6_in (n := 2 * here.Z) (by omega), w6_in (n := 2 * here.Z - was.Z) (by omega), w6_in (n := 2 * here.Z - was.Z + g.Z) (by omega)]
  have en : Vec.mk (2 * here.X - was.X + g.X) (2 * here.Y - was.Y + g.Y) (2 * here.Z - was.Z + g.Z) = nextV was here g := rfl
  rw [en, within_ok]
  simp only [Option.bind_some]
  by_cases h : inV (nextV was here g)
  · rw [decide_eq_true h]; exact Has.ret ⟨g, hg, .inl ⟨rfl, h, rfl⟩⟩
  · rw [decide_eq_false h]; exact Has.ret ⟨g, hg, .inr rfl⟩
end Lf
/- The way of a body, and of bounds of its places. -/
namespace Lf
open Go Go.Abs
set_option linter.unusedVariables false
set_option linter.unusedSimpArgs false
def seqP (w h : Place3) : Nat → Place3 × Place3
  | 0 => (w, h)
  | k + 1 => ((seqP w h k).2, (predict_Step (seqP w h k).1 (seqP w h k).2).getD (seqP w h k).2)
theorem seqP_ok {w h : Place3} (hw : ok3 w) (hh : ok3 h) : ∀ k, ok3 (seqP w h k).1 ∧ ok3 (seqP w h k).2
  | 0 => ⟨hw, hh⟩
  | k + 1 => by
    obtain ⟨a, b⟩ := seqP_ok hw hh k
    obtain ⟨n, e, hn, _⟩ := step_ok a b
    refine ⟨b, ?_⟩
    simp only [seqP]
    rw [e]; exact hn
theorem seqP_step {w h : Place3} (hw : ok3 w) (hh : ok3 h) (k : Nat) : predict_Step (seqP w h k).1 (seqP w h k).2 = some (seqP w h (k + 1)).2 := by
  obtain ⟨a, b⟩ := seqP_ok hw hh k
  obtain ⟨n, e, hn, _⟩ := step_ok a b
  simp only [seqP]
  rw [e]; rfl
theorem ahead_ok {w h : Place3} (hw : ok3 w) (hh : ok3 h) {days : Int} (d0 : -32 ≤ days) (d1 : days ≤ 32) :
    predict_Ahead w h days = some (if days < 0 then (seqP h w (-days - 1).toNat).2 else (seqP w h days.toNat).2, 0) := by
  apply Has.val
  unfold predict_Ahead
  refine Has.bind (P := fun z => z = false) (Has.neg (by simp; omega) (Has.ret (decide_eq_false (by omega)))) fun z hz => Has.neg (by rw [hz]; decide) ?_
  refine Has.ite (fun hd => ?_) fun hd => ?_
  · have hd : days < 0 := of_decide_eq_true hd
    rw [if_pos hd]
    refine Has.bind (P := fun p => p = (seqP h w (-days - 1).toNat).2) ?_ fun p hp => Has.ret (by rw [hp])
    refine Has.loop (fun s : Place3 × Place3 × Int => 0 ≤ s.2.2 ∧ s.2.2 ≤ -days - 1 ∧ (s.1, s.2.1) = seqP h w s.2.2.toNat) (fun s => (-days - 1 - s.2.2).toNat) _ ⟨Int.le_refl _, by simp only []; omega, rfl⟩ (by simp only []; omega) fun s ⟨s0, s1, s2⟩ => ?_
    unfold predict_Ahead.l1
    rw [Int.zero_sub, w6_in (n := -days) (by omega), w6_in (n := -days - 1) (by omega)]
    have e1 : s.1 = (seqP h w s.2.2.toNat).1 := congrArg Prod.fst s2
    have e2 : s.2.1 = (seqP h w s.2.2.toNat).2 := congrArg Prod.snd s2
    refine Has.ite (fun hi => ?_) fun hi => ?_
    · have hi : s.2.2 < -days - 1 := of_decide_eq_true hi
      rw [e1, e2, seqP_step hh hw, w6_in (n := s.2.2 + 1) (by omega)]
      refine Has.ret (.next ⟨by simp only []; omega, by simp only []; omega, ?_⟩ (by simp only []; omega))
      have : (s.2.2 + 1).toNat = s.2.2.toNat + 1 := by omega
      simp only [this]; rfl
    · have hi : ¬ s.2.2 < -days - 1 := fun q => hi (decide_eq_true q)
      exact Has.ret (.done (by rw [e2, show s.2.2 = -days - 1 from by omega]))
  · have hd : ¬ days < 0 := fun q => hd (decide_eq_true q)
    rw [if_neg hd]
    refine Has.bind (P := fun p => p = (seqP w h days.toNat).2) ?_ fun p hp => Has.ret (by rw [hp])
    refine Has.loop (fun s : Place3 × Place3 × Int => 0 ≤ s.2.2 ∧ s.2.2 ≤ days ∧ (s.1, s.2.1) = seqP w h s.2.2.toNat) (fun s => (days - s.2.2).toNat) _ ⟨Int.le_refl _, by simp only []; omega, rfl⟩ (by simp only []; omega) fun s ⟨s0, s1, s2⟩ => ?_
    unfold predict_Ahead.l2
    have e1 : s.1 = (seqP w h s.2.2.toNat).1 := congrArg Prod.fst s2
    have e2 : s.2.1 = (seqP w h s.2.2.toNat).2 := congrArg Prod.snd s2
    refine Has.ite (fun hi => ?_) fun hi => ?_
    · have hi : s.2.2 < days := of_decide_eq_true hi
      rw [e1, e2, seqP_step hw hh, w6_in (n := s.2.2 + 1) (by omega)]
      refine Has.ret (.next ⟨by simp only []; omega, by simp only []; omega, ?_⟩ (by simp only []; omega))
      have : (s.2.2 + 1).toNat = s.2.2.toNat + 1 := by omega
      simp only [this]; rfl
    · have hi : ¬ s.2.2 < days := fun q => hi (decide_eq_true q)
      exact Has.ret (.done (by rw [e2, show s.2.2 = days from by omega]))
/-- A relation of places and their bounds that each day keeps. -/
structure Keeps3 (R : Vec → Place3 → Prop) : Prop where
  ok : ∀ {v p}, R v p → ok3 p
  inn : ∀ {v p}, R v p → inV v
  step : ∀ {was here g w h q}, R was w → R here h → isG here g → isPull h q → inV (nextV was here g) → R (nextV was here g) (stepZ h.1 w.1 q.1, stepZ h.2.1 w.2.1 q.2.1, stepZ h.2.2 w.2.2 q.2.2)
section
variable {R : Vec → Place3 → Prop}
theorem Keeps3.seq (hR : Keeps3 R) {was here : Vec} {w h : Place3} (hw : ok3 w) (hh : ok3 h) (k : Nat) (h1 : R was (seqP w h k).1) (h2 : R here (seqP w h k).2) :
    Has (sky_Step was here) fun r => r.2 = 0 ∧ R r.1 (seqP w h (k + 1)).2 ∨ r.2 = 18 := by
  refine (skyStep_ok (hR.inn h1) (hR.inn h2)).mono fun r ⟨g, hg, hr⟩ => ?_
  rcases hr with ⟨r1, r2, r3⟩ | r1
  · refine .inl ⟨r1, ?_⟩
    obtain ⟨a, b⟩ := seqP_ok hw hh k
    obtain ⟨n, e, hn, q, hq, en⟩ := step_ok a b
    have := seqP_step hw hh k
    rw [e] at this
    have en2 : (seqP w h (k + 1)).2 = n := (Option.some.inj this).symm
    rw [en2, en, r3]
    exact hR.step h1 h2 hg hq r2
  · exact .inr r1
theorem moves_ok {b : Body} (h1 : inV b.Was) (h2 : inV b.Here) : sky_moves b = some true := by
  unfold sky_moves
  rw [within_ok, within_ok, decide_eq_true h1, decide_eq_true h2]; rfl
theorem path_ok (hR : Keeps3 R) {b : Body} {w h : Place3} (h1 : R b.Was w) (h2 : R b.Here h) {day : Int} (d0 : -400 ≤ day) (d1 : day ≤ 400) :
    Has (sky_Path b day) fun r => r.2.2 = 0 → R r.2.1 (if day < 0 then (seqP h w (-day - 1).toNat).2 else (seqP w h day.toNat).2) := by
  have hw := hR.ok h1; have hh := hR.ok h2
  unfold sky_Path
  rw [moves_ok (hR.inn h1) (hR.inn h2)]
  refine Has.bind (P := fun z => z = false) (Has.neg (by simp; omega) (Has.neg (by simp; omega) (Has.ret rfl))) fun z hz => Has.neg (by rw [hz]; decide) ?_
  have ends : ∀ (z : Vec × Vec × Int) (X : Place3), (z.2.2 = 0 → R z.2.1 X) → Has (if (z.2.2 != 0) = true then some (Vec.mk 0 0 0, Vec.mk 0 0 0, z.2.2) else some (z.1, z.2.1, 0)) fun r : Vec × Vec × Int => r.2.2 = 0 → R r.2.1 X := fun z X hz => by
    refine Has.ite (fun h => Has.ret fun e => ?_) fun h => Has.ret fun _ => hz (by simpa using h)
    simp only [] at e; rw [e] at h; exact absurd h (by decide)
  by_cases hd : day < 0
  · rw [if_pos hd]
    refine Has.bind (P := fun z : Vec × Vec × Int => z = (b.Was, b.Here, 0)) ?_ fun z hz => ?_
    · refine Has.loop (fun s : Vec × Vec × Int × Int => s = (b.Was, b.Here, 0, day)) (fun _ => 1) _ rfl (by decide) fun s hs => ?_
      rw [hs]
      unfold sky_Path.l1
      refine Has.bind (P := fun z => z = false) (Has.neg (by simp; omega) (Has.ret rfl)) fun z hz => Has.neg (by rw [hz]; decide) (Has.ret (.done rfl))
    · rw [hz]
      simp only []
      refine Has.bind (P := fun z : Vec × Vec × Int => z.2.2 = 0 → R z.2.1 (seqP h w (-day - 1).toNat).2) ?_ fun z hz => ends z _ hz
      refine Has.loop (fun s : Vec × Vec × Int × Int => day ≤ s.2.2.2 ∧ s.2.2.2 ≤ 0 ∧ (s.2.2.1 = 0 → R s.2.1 (seqP h w (s.2.2.2 - day).toNat).1 ∧ R s.1 (seqP h w (s.2.2.2 - day).toNat).2)) (fun s => (-s.2.2.2).toNat) _ ⟨Int.le_refl _, by simp only []; omega, fun _ => ?_⟩ (by simp only []; omega) fun s ⟨s0, s1, s2⟩ => ?_
      · simp only [Int.sub_self]; exact ⟨h2, h1⟩
      unfold sky_Path.l2
      refine Has.bind (P := fun z => z = decide (s.2.2.2 < 0 ∧ s.2.2.1 = 0)) (Has.ite (fun h => Has.ret ?_) fun h => Has.ret ?_) fun z hz => ?_
      · have h : s.2.2.2 < 0 := of_decide_eq_true h
        by_cases e : s.2.2.1 = 0 <;> simp [h, e]
      · have h : ¬ s.2.2.2 < 0 := fun q => h (decide_eq_true q)
        simp [h]
      · refine Has.ite (fun h => ?_) fun h => ?_
        · rw [hz] at h
          obtain ⟨h, e⟩ : s.2.2.2 < 0 ∧ s.2.2.1 = 0 := of_decide_eq_true h
          obtain ⟨g1, g2⟩ := s2 e
          refine (hR.seq hh hw _ g1 g2).bind fun r hr => ?_
          rw [w6_in (n := s.2.2.2 + 1) (by omega)]
          refine Has.ret (.next ⟨by simp only []; omega, by simp only []; omega, fun e2 => ?_⟩ (by simp only []; omega))
          simp only [] at e2
          have en : (s.2.2.2 + 1 - day).toNat = (s.2.2.2 - day).toNat + 1 := by omega
          rcases hr with ⟨_, hr⟩ | hr
          · simp only [en]; exact ⟨g2, hr⟩
          · rw [hr] at e2; cases e2
        · rw [hz] at h
          have h : ¬ (s.2.2.2 < 0 ∧ s.2.2.1 = 0) := fun q => h (decide_eq_true q)
          refine Has.ret (.done fun e => ?_)
          simp only [] at e ⊢
          have e0 : s.2.2.2 = 0 := by omega
          have := (s2 e).1
          rw [e0, show (0 - day).toNat = (-day - 1).toNat + 1 from by omega] at this
          exact this
  · rw [if_neg hd]
    refine Has.bind (P := fun z : Vec × Vec × Int => z.2.2 = 0 → R z.2.1 (seqP w h day.toNat).2) ?_ fun z hz => ?_
    · refine Has.loop (fun s : Vec × Vec × Int × Int => 0 ≤ s.2.2.2 ∧ s.2.2.2 ≤ day ∧ (s.2.2.1 = 0 → R s.1 (seqP w h (day - s.2.2.2).toNat).1 ∧ R s.2.1 (seqP w h (day - s.2.2.2).toNat).2)) (fun s => s.2.2.2.toNat) _ ⟨by simp only []; omega, Int.le_refl _, fun _ => ?_⟩ (by simp only []; omega) fun s ⟨s0, s1, s2⟩ => ?_
      · simp only [Int.sub_self]; exact ⟨h1, h2⟩
      unfold sky_Path.l1
      refine Has.bind (P := fun z => z = decide (s.2.2.2 > 0 ∧ s.2.2.1 = 0)) (Has.ite (fun h => Has.ret ?_) fun h => Has.ret ?_) fun z hz => ?_
      · have h : s.2.2.2 > 0 := of_decide_eq_true h
        by_cases e : s.2.2.1 = 0 <;> simp [h, e]
      · have h : ¬ s.2.2.2 > 0 := fun q => h (decide_eq_true q)
        simp [h]
      · refine Has.ite (fun h => ?_) fun h => ?_
        · rw [hz] at h
          obtain ⟨h, e⟩ : s.2.2.2 > 0 ∧ s.2.2.1 = 0 := of_decide_eq_true h
          obtain ⟨g1, g2⟩ := s2 e
          refine (hR.seq hw hh _ g1 g2).bind fun r hr => ?_
          rw [w6_in (n := s.2.2.2 - 1) (by omega)]
          refine Has.ret (.next ⟨by simp only []; omega, by simp only []; omega, fun e2 => ?_⟩ (by simp only []; omega))
          simp only [] at e2
          have en : (day - (s.2.2.2 - 1)).toNat = (day - s.2.2.2).toNat + 1 := by omega
          rcases hr with ⟨_, hr⟩ | hr
          · simp only [en]; exact ⟨g2, hr⟩
          · rw [hr] at e2; cases e2
        · rw [hz] at h
          have h : ¬ (s.2.2.2 > 0 ∧ s.2.2.1 = 0) := fun q => h (decide_eq_true q)
          refine Has.ret (.done fun e => ?_)
          simp only [] at e ⊢
          have e0 : s.2.2.2 = 0 := by omega
          have := (s2 e).2
          rw [e0, Int.sub_zero] at this
          exact this
    · refine Has.bind (P := fun y : Vec × Vec × Int => y = z) ?_ fun y hy => ends y _ (by rw [hy]; exact hz)
      refine Has.loop (fun s : Vec × Vec × Int × Int => s = (z.1, z.2.1, z.2.2, day)) (fun _ => 1) _ rfl (by decide) fun s hs => ?_
      rw [hs]
      unfold sky_Path.l2
      refine Has.bind (P := fun z => z = false) (Has.neg (by simp; omega) (Has.ret rfl)) fun z hz => Has.neg (by rw [hz]; decide) (Has.ret (.done rfl))
end
/-! ### what is known exactly -/
def ex3 (v : Vec) : Place3 := (⟨v.X, v.X, false⟩, ⟨v.Y, v.Y, false⟩, ⟨v.Z, v.Z, false⟩)
theorem exact3_ok {v : Vec} (h : inV v) : predict_Exact v = some (ex3 v) := by
  obtain ⟨⟨a1, a2⟩, ⟨b1, b2⟩, ⟨c1, c2⟩⟩ := h
  unfold predict_Exact bound_Exact
  rw [ofZ_eq, ofZ_eq, ofZ_eq, exactZ (by omega) (by omega), exactZ (by omega) (by omega), exactZ (by omega) (by omega)]
  rfl
theorem ex3_ok {v : Vec} (h : inV v) : ok3 (ex3 v) := by
  obtain ⟨⟨a1, a2⟩, ⟨b1, b2⟩, ⟨c1, c2⟩⟩ := h
  exact ⟨okKnown (by omega) (Int.le_refl _) (by omega), okKnown (by omega) (Int.le_refl _) (by omega), okKnown (by omega) (Int.le_refl _) (by omega)⟩
theorem addZ_exact {x y : Int} (h1 : -1152921504606846976 ≤ x + y) (h2 : x + y ≤ 1152921504606846976) : addZ ⟨x, x, false⟩ ⟨y, y, false⟩ = ⟨x + y, x + y, false⟩ := by
  unfold addZ
  rw [if_neg (by simp)]; exact exactZ h1 h2
theorem mulZ_exact2 {x : Int} (h1 : -1152921504606846976 ≤ 2 * x) (h2 : 2 * x ≤ 1152921504606846976) : mulZ ⟨x, x, false⟩ ⟨2, 2, false⟩ 1 = ⟨2 * x, 2 * x, false⟩ := by
  unfold mulZ lo4 hi4
  rw [if_neg (by simp)]
  simp only [Int.ediv_one, cdiv_one]
  have e1 : min (min (x * 2) (x * 2)) (min (x * 2) (x * 2)) = 2 * x := by omega
  have e2 : max (max (x * 2) (x * 2)) (max (x * 2) (x * 2)) = 2 * x := by omega
  rw [e1, e2, exactZ h1 h2]
theorem stepZ_exact {x y g : Int} (h1 : -4194304 ≤ x ∧ x ≤ 4194304) (h2 : -4194304 ≤ y ∧ y ≤ 4194304) (h3 : -1073741824 ≤ g ∧ g ≤ 1073741824) : stepZ ⟨x, x, false⟩ ⟨y, y, false⟩ ⟨g, g, false⟩ = ⟨2 * x - y + g, 2 * x - y + g, false⟩ := by
  unfold stepZ subZ negZ
  simp only []
  rw [mulZ_exact2 (by omega) (by omega), addZ_exact (by omega) (by omega), ← Int.sub_eq_add_neg, addZ_exact (by omega) (by omega)]
theorem pullZ_exact {x lo hi r : Int} (e1 : lo = r) (e2 : hi = r) (h1 : -4194304 ≤ x ∧ x ≤ 4194304) (r0 : 65536 ≤ r) (r1 : r ≤ 67108864) : pullZ lo hi true ⟨x, x, false⟩ = ⟨partZ x r, partZ x r, false⟩ := by
  subst e1; subst e2
  obtain ⟨_, p1, p2⟩ := part_ok (x := x) (r := hi) (by omega) (by omega) r0 r1
  unfold pullZ
  have em : max hi 65536 = hi := by omega
  simp only [Bool.true_eq_false, if_false, em, ite_self]
  rw [if_neg (by omega), if_neg (by omega), exactZ (by omega) (by omega)]
theorem exact_keeps : Keeps3 fun v p => inV v ∧ p = ex3 v where
  ok h := by rw [h.2]; exact ex3_ok h.1
  inn h := h.1
  step := by
    rintro was here g w h q ⟨i1, rfl⟩ ⟨i2, rfl⟩ hg ⟨f, hf, rfl⟩ hn
    refine ⟨hn, ?_⟩
    have bg := hg.bd i2
    obtain ⟨r, hr, hg⟩ := hg
    obtain ⟨⟨a1, a2⟩, ⟨b1, b2⟩, ⟨c1, c2⟩⟩ := i2
    obtain ⟨⟨d1, d2⟩, ⟨k1, k2⟩, ⟨f1, f2⟩⟩ := i1
    have yes : f.2.2 = true := by
      cases e : f.2.2 with
      | true => rfl
      | false => exact absurd ⟨⟨rfl, by simp only [ex3]; omega, by simp only [ex3]; omega⟩, ⟨rfl, by simp only [ex3]; omega, by simp only [ex3]; omega⟩, ⟨rfl, by simp only [ex3]; omega, by simp only [ex3]; omega⟩⟩ (hf.no e)
    obtain ⟨_, _, _, l, u, ub⟩ := hf.yes yes
    simp only [ex3] at l u
    rw [(aLo_exact here.X).1, (aLo_exact here.Y).1, (aLo_exact here.Z).1] at l
    rw [(aLo_exact here.X).2, (aLo_exact here.Y).2, (aLo_exact here.Z).2] at u
    have el := l.uniq hr
    have eu := u.uniq hr
    rw [yes]
    rcases hg with ⟨r0, rfl⟩ | ⟨r0, rfl⟩
    · have z : ∀ b, pullZ f.1 f.2.1 true b = ⟨0, 0, false⟩ := fun b => by
        unfold pullZ; simp only [Bool.true_eq_false, if_false]; rw [if_pos (by omega)]
      simp only [z, ex3, nextV]
      rw [stepZ_exact ⟨a1, a2⟩ ⟨d1, d2⟩ (by decide), stepZ_exact ⟨b1, b2⟩ ⟨k1, k2⟩ (by decide), stepZ_exact ⟨c1, c2⟩ ⟨f1, f2⟩ (by decide)]
    · simp only [ex3, nextV] at bg ⊢
      rw [pullZ_exact el eu ⟨a1, a2⟩ r0 (by omega), pullZ_exact el eu ⟨b1, b2⟩ r0 (by omega), pullZ_exact el eu ⟨c1, c2⟩ r0 (by omega), stepZ_exact ⟨a1, a2⟩ ⟨d1, d2⟩ bg.1, stepZ_exact ⟨b1, b2⟩ ⟨k1, k2⟩ bg.2.1, stepZ_exact ⟨c1, c2⟩ ⟨f1, f2⟩ bg.2.2]
end Lf
/- Places and bodies that are drawn. -/
namespace Lf
open Go Go.Abs
set_option linter.unusedVariables false
set_option linter.unusedSimpArgs false
theorem tdiv_bd {x k m : Int} (hk : 0 < k) (h1 : -m ≤ x) (h2 : x ≤ m) : -m ≤ Int.tdiv x k ∧ Int.tdiv x k ≤ m := by
  rcases Int.le_total 0 x with h | h
  · rw [Int.tdiv_eq_ediv_of_nonneg h]
    have a := Int.ediv_nonneg h (Int.le_of_lt hk)
    have b := Int.ediv_le_self k h
    omega
  · have e : Int.tdiv x k = -((-x) / k) := by rw [← Int.tdiv_eq_ediv_of_nonneg (a := -x) (by omega), Int.neg_tdiv, Int.neg_neg]
    have a := Int.ediv_nonneg (a := -x) (by omega) (Int.le_of_lt hk)
    have b := Int.ediv_le_self k (a := -x) (by omega)
    omega
theorem place_ok (s : spymake_Stream) (dist : Int) (hs : okS s) (ha : s.at_ ≤ 4611686018427000000) (d0 : 1 ≤ dist) (d1 : dist ≤ 4) :
    Has (Stream_Place s dist) fun r => inV r.1 ∧ (-(dist * 1048576) ≤ r.1.X ∧ r.1.X ≤ dist * 1048576) ∧ (-(dist * 1048576) ≤ r.1.Y ∧ r.1.Y ≤ dist * 1048576) ∧ (-(dist * 1048576) ≤ r.1.Z ∧ r.1.Z ≤ dist * 1048576) ∧ after s r.2 3 := by
  unfold Stream_Place
  rw [Int.zero_sub, w6_in (n := dist * 1048576) (by omega), w6_in (n := -(dist * 1048576)) (by omega)]
  refine (range_ok s _ _ hs (by omega) (by omega) (by omega) (by omega)).bind fun a ⟨a1, a2, a3⟩ => ?_
  have hA := a3.ok hs (by omega); have hhA := a3.hi
  refine (range_ok a.2 _ _ hA (by omega) (by omega) (by omega) (by omega)).bind fun b ⟨b1, b2, b3⟩ => ?_
  have hB := b3.ok hA (by omega); have hhB := b3.hi
  refine (range_ok b.2 _ _ hB (by omega) (by omega) (by omega) (by omega)).bind fun c ⟨c1, c2, c3⟩ => ?_
  have q1 := tdiv_bd (k := 4) (by decide) c1 c2
  rw [w6_in (by omega)]
  exact Has.ret ⟨⟨by simp only []; omega, by simp only []; omega, by simp only []; omega⟩, ⟨a1, a2⟩, ⟨b1, b2⟩, q1, ((a3.trans b3).trans c3).more (by omega)⟩
theorem rates_at (v : Int) (h : 0 ≤ v ∧ v < 6) : 50 ≤ gt ([50, 500, 5000, 5000, 40000, 1048577] : List Int) v ∧ gt ([50, 500, 5000, 5000, 40000, 1048577] : List Int) v ≤ 1048577 := by
  have : v = 0 ∨ v = 1 ∨ v = 2 ∨ v = 3 ∨ v = 4 ∨ v = 5 := by omega
  rcases this with rfl | rfl | rfl | rfl | rfl | rfl <;> decide
theorem rate_ok (s : spymake_Stream) (hs : okS s) (ha : s.at_ ≤ 4611686018427001000) : Has (Stream_rate s) fun r => 0 ≤ r.1 ∧ r.1 ≤ 1048576 ∧ after s r.2 2 := by
  unfold Stream_rate
  refine (next_ok s 6 hs (by omega) (by omega)).bind fun a ⟨a1, a2, a3⟩ => ?_
  have hA := a3.ok hs (by omega); have hhA := a3.hi
  have g := rates_at a.1 ⟨a1, a2⟩
  refine Has.chk ⟨a1, a2⟩ ((next_ok a.2 _ hA (by omega) (by omega)).bind fun b ⟨b1, b2, b3⟩ => Has.ret ⟨b1, by omega, (a3.trans b3).more (by omega)⟩)
theorem runs_at (v : Int) (h : 0 ≤ v ∧ v < 3) : 1000 ≤ gt ([1000, 90000, 150000] : List Int) v ∧ gt ([1000, 90000, 150000] : List Int) v ≤ 150000 := by
  have : v = 0 ∨ v = 1 ∨ v = 2 := by omega
  rcases this with rfl | rfl | rfl <;> decide
theorem clamp_ok (v : Vec) : Has (spymake_within v) fun r => inV r ∧ (inV v → r = v) := by
  have c : ∀ x : Int, -4194304 ≤ mx2 (-4194304) (mn2 4194304 x) ∧ mx2 (-4194304) (mn2 4194304 x) ≤ 4194304 ∧ (-4194304 ≤ x ∧ x ≤ 4194304 → mx2 (-4194304) (mn2 4194304 x) = x) := fun x => by
    rw [mx2_max, mn2_min]; omega
  unfold spymake_within spymake_within_1
  simp only [Option.bind_some]
  refine Has.ret ⟨⟨⟨(c v.X).1, (c v.X).2.1⟩, ⟨(c v.Y).1, (c v.Y).2.1⟩, ⟨(c v.Z).1, (c v.Z).2.1⟩⟩, fun h => ?_⟩
  rw [(c v.X).2.2 h.1, (c v.Y).2.2 h.2.1, (c v.Z).2.2 h.2.2]
theorem body_ok (s : spymake_Stream) (id : Int) (here : Vec) (hs : okS s) (ha : s.at_ ≤ 4611686018427000000) : Has (Stream_Body s id here) fun r => inV r.1.Was ∧ inV r.1.Here ∧ (inV here → r.1.Here = here) ∧ r.1.ID = id ∧ (0 ≤ r.1.Rate ∧ r.1.Rate ≤ 1048576) ∧ after s r.2 6 := by
  unfold Stream_Body
  refine (next_ok s 3 hs (by omega) (by omega)).bind fun a ⟨a1, a2, a3⟩ => Has.chk ⟨a1, a2⟩ ?_
  have hA := a3.ok hs (by omega); have hhA := a3.hi
  have g := runs_at a.1 ⟨a1, a2⟩
  rw [Int.zero_sub, w6_in (n := -(gt ([1000, 90000, 150000] : List Int) a.1)) (by omega)]
  refine (range_ok a.2 _ _ hA (by omega) (by omega) (by omega) (by omega)).bind fun b ⟨b1, b2, b3⟩ => ?_
  have hB := b3.ok hA (by omega); have hhB := b3.hi
  refine (range_ok b.2 _ _ hB (by omega) (by omega) (by omega) (by omega)).bind fun c ⟨c1, c2, c3⟩ => ?_
  have hC := c3.ok hB (by omega); have hhC := c3.hi
  refine (range_ok c.2 _ _ hC (by omega) (by omega) (by omega) (by omega)).bind fun d ⟨d1, d2, d3⟩ => ?_
  have hD := d3.ok hC (by omega); have hhD := d3.hi
  refine (clamp_ok _).bind fun e ⟨e1, e2⟩ => (clamp_ok here).bind fun f ⟨f1, f2⟩ => (rate_ok d.2 hD (by omega)).bind fun k ⟨k1, k2, k3⟩ => Has.ret ⟨e1, f1, f2, rfl, ⟨k1, k2⟩, ((((a3.trans b3).trans c3).trans d3).trans k3).more (by omega)⟩
end Lf
/- Bounds of a place lead to bounds of the places on later days. -/
namespace Lf
open Go Go.Abs
set_option linter.unusedVariables false
set_option linter.unusedSimpArgs false
theorem mag_zero (r : Int) : mag 0 r = 0 := by unfold mag; simp
theorem part_down {x H r near hi : Int} (hx : x ≤ H) (n0 : 0 < near) (h1 : near ≤ r) (h2 : r ≤ hi) : (if H > 0 then partZ H near else partZ H hi) ≤ partZ x r := by
  by_cases hH : H > 0
  · rw [if_pos hH]
    have e : partZ H near = -mag H near := by unfold partZ; rw [if_pos hH]
    have m := (mag_mono (a := H) (b := H) (by omega) (Int.le_refl _) n0 (Int.le_refl near)).1
    rw [e]
    by_cases hx0 : x > 0
    · have := (mag_mono (a := x) (b := H) (by omega) hx n0 h1).2
      unfold partZ; rw [if_pos hx0]; omega
    · have := (mag_mono (a := -x) (b := -x) (by omega) (Int.le_refl _) (show 0 < r by omega) (Int.le_refl r)).1
      unfold partZ; rw [if_neg hx0]; omega
  · rw [if_neg hH]
    have hx0 : ¬ x > 0 := by omega
    have := (mag_mono (a := -H) (b := -x) (by omega) (by omega) (show 0 < r by omega) h2).2
    unfold partZ; rw [if_neg hH, if_neg hx0]; exact this
theorem part_up {x L r near hi : Int} (hx : L ≤ x) (n0 : 0 < near) (h1 : near ≤ r) (h2 : r ≤ hi) : partZ x r ≤ (if L < 0 then partZ L near else partZ L hi) := by
  by_cases hL : L < 0
  · rw [if_pos hL]
    have e : partZ L near = mag (-L) near := by unfold partZ; rw [if_neg (by omega)]
    have m := (mag_mono (a := -L) (b := -L) (by omega) (Int.le_refl _) n0 (Int.le_refl near)).1
    rw [e]
    by_cases hx0 : x > 0
    · have := (mag_mono (a := x) (b := x) (by omega) (Int.le_refl _) (show 0 < r by omega) (Int.le_refl r)).1
      unfold partZ; rw [if_pos hx0]; omega
    · have := (mag_mono (a := -x) (b := -L) (by omega) (by omega) n0 h1).2
      unfold partZ; rw [if_neg hx0]; exact this
  · rw [if_neg hL]
    by_cases hL0 : L > 0
    · have := (mag_mono (a := L) (b := x) (by omega) hx (show 0 < r by omega) h2).2
      unfold partZ; rw [if_pos hL0, if_pos (by omega)]; omega
    · have e : L = 0 := by omega
      subst e
      have e0 : partZ 0 hi = 0 := by unfold partZ; rw [if_neg (by omega)]; exact mag_zero hi
      rw [e0]
      by_cases hx0 : x > 0
      · have := (mag_mono (a := x) (b := x) (by omega) (Int.le_refl _) (show 0 < r by omega) (Int.le_refl r)).1
        unfold partZ; rw [if_pos hx0]; omega
      · have e1 : x = 0 := by omega
        subst e1
        unfold partZ; rw [if_neg (by omega)]; simp [mag_zero]
theorem pullZ_has {lo hi rt x : Int} {b : Bound} (h1 : b.Lo ≤ x) (h2 : x ≤ b.Hi) (l : lo ≤ rt) (u : rt ≤ hi) : hasZ (pullZ lo hi true b) (if rt < 65536 then 0 else partZ x rt) := by
  unfold pullZ
  simp only [Bool.true_eq_false, if_false]
  by_cases hh : hi < 65536
  · rw [if_pos hh, if_pos (by omega)]; exact .inr ⟨Int.le_refl _, Int.le_refl _⟩
  · rw [if_neg hh]
    by_cases hr : rt < 65536
    · rw [if_pos hr, if_pos (by omega)]
      exact hasZ_of (by omega) (by omega)
    · rw [if_neg hr]
      have d := part_down (x := x) (H := b.Hi) (r := rt) (near := max lo 65536) (hi := hi) h2 (by omega) (by omega) u
      have p := part_up (x := x) (L := b.Lo) (r := rt) (near := max lo 65536) (hi := hi) h1 (by omega) (by omega) u
      split
      · exact hasZ_of (by omega) (by omega)
      · exact hasZ_of d p
structure has3 (p : Place3) (v : Vec) : Prop where
  x : hasZ p.1 v.X
  y : hasZ p.2.1 v.Y
  z : hasZ p.2.2 v.Z
theorem near_has {b : Bound} {x : Int} (n : near25 b) (h : hasZ b x) : b.Lo ≤ x ∧ x ≤ b.Hi := by
  rcases h with h | h
  · rw [n.1] at h; cases h
  · exact h
/-- The pull at a place lies in that of its bounds. -/
theorem pull_has {h q : Place3} {v g : Vec} (hq : isPull h q) (hv : has3 h v) (hg : isG v g) : has3 q g := by
  obtain ⟨f, hf, rfl⟩ := hq
  obtain ⟨r, hr, hg⟩ := hg
  cases e : f.2.2 with
  | false =>
    have z : ∀ b, pullZ f.1 f.2.1 false b = noneZ := fun b => by unfold pullZ; rw [if_pos rfl]
    refine ⟨?_, ?_, ?_⟩ <;> simp only [z] <;> exact hasZ_none _
  | true =>
    obtain ⟨n1, n2, n3, l, u, _⟩ := hf.yes e
    obtain ⟨x1, x2⟩ := near_has n1 hv.x
    obtain ⟨y1, y2⟩ := near_has n2 hv.y
    obtain ⟨z1, z2⟩ := near_has n3 hv.z
    have sx := square_bd x1 x2; have sy := square_bd y1 y2; have sz := square_bd z1 z2
    have lr := l.mono hr (by omega)
    have ru := hr.mono u (by omega)
    have px := pullZ_has (lo := f.1) (hi := f.2.1) x1 x2 lr ru
    have py := pullZ_has (lo := f.1) (hi := f.2.1) y1 y2 lr ru
    have pz := pullZ_has (lo := f.1) (hi := f.2.1) z1 z2 lr ru
    rcases hg with ⟨r0, rfl⟩ | ⟨r0, rfl⟩
    · rw [if_pos r0] at px py pz; exact ⟨px, py, pz⟩
    · rw [if_neg (by omega)] at px py pz; exact ⟨px, py, pz⟩
theorem stepZ_has {h w q : Bound} {x y g : Int} (hx : hasZ h x) (hy : hasZ w y) (hg : hasZ q g) : hasZ (stepZ h w q) (2 * x - y + g) := by
  unfold stepZ
  refine hasZ_add (hasZ_sub (hasZ_mul (x := x) (y := 2) hx (.inr ⟨Int.le_refl _, Int.le_refl _⟩) ?_ ?_) hy) hg
  · rw [Int.ediv_one]; omega
  · rw [cdiv_one]; omega
theorem has_keeps : Keeps3 fun v p => inV v ∧ ok3 p ∧ has3 p v where
  ok h := h.2.1
  inn h := h.1
  step := by
    rintro was here g w h q ⟨i1, o1, h1⟩ ⟨i2, o2, h2⟩ hg hq hn
    have p := pull_has hq h2 hg
    exact ⟨hn, ⟨stepZ_ok _ _ _, stepZ_ok _ _ _, stepZ_ok _ _ _⟩, ⟨stepZ_has h2.x h1.x p.x, stepZ_has h2.y h1.y p.y, stepZ_has h2.z h1.z p.z⟩⟩
theorem boundHas_ok {b : Bound} {v : Int} (h : b.ok) (hv : hasZ b v) : bound_Has b v = some true := by
  unfold bound_Has
  rw [vague_ok h h]
  simp only [Option.bind_some, Bool.or_self]
  rcases hv with e | ⟨h1, h2⟩
  · rw [e]; rfl
  · cases b.Unknown <;> simp [h1, h2]
theorem predictHas_ok {p : Place3} {v : Vec} (h : ok3 p) (hv : has3 p v) : predict_Has p v = some true := by
  unfold predict_Has
  rw [boundHas_ok h.x hv.x, boundHas_ok h.y hv.y, boundHas_ok h.z hv.z]
  rfl
/-! ### boxes around multiples of a vector -/
theorem held1_ok (c p1 p3 : Int) (s : spymake_Stream) (hs : okS s) (ha : s.at_ ≤ 4611686018427000000) (hc : -1152921504606846976 ≤ p1 * c ∧ p1 * c ≤ 1152921504606846976) (h3 : 0 ≤ p3 ∧ p3 ≤ 1000000000) :
    Has (Stream_Held_1 c p1 s p3) fun r => r.1.Unknown = false ∧ p1 * c - p3 ≤ r.1.Lo ∧ r.1.Lo ≤ p1 * c ∧ p1 * c ≤ r.1.Hi ∧ r.1.Hi ≤ p1 * c + p3 ∧ after s r.2 2 := by
  unfold Stream_Held_1
  rw [w6_in (n := p3 + 1) (by omega), w6_in (n := p1 * c) (by omega)]
  refine (next_ok s (p3 + 1) hs (by omega) (by omega)).bind fun a ⟨a1, a2, a3⟩ => ?_
  have hA := a3.ok hs (by omega); have hhA := a3.hi
  refine (next_ok a.2 (p3 + 1) hA (by omega) (by omega)).bind fun b ⟨b1, b2, b3⟩ => ?_
  rw [w6_in (by omega), w6_in (by omega)]
  exact Has.ret ⟨rfl, by simp only []; omega, by simp only []; omega, by simp only []; omega, by simp only []; omega, (a3.trans b3).more (by omega)⟩
/-- A box around a multiple of a vector. -/
structure heldB (b : Bound) (k c most : Int) : Prop where
  u : b.Unknown = false
  l0 : k * c - most ≤ b.Lo
  l1 : b.Lo ≤ k * c
  h0 : k * c ≤ b.Hi
  h1 : b.Hi ≤ k * c + most
def smallV (v : Vec) : Prop := (-1099511627776 ≤ v.X ∧ v.X ≤ 1099511627776) ∧ (-1099511627776 ≤ v.Y ∧ v.Y ≤ 1099511627776) ∧ (-1099511627776 ≤ v.Z ∧ v.Z ≤ 1099511627776)
theorem mul8 {k c : Int} (h1 : 1 ≤ k) (h8 : k ≤ 8) (hc : -1099511627776 ≤ c ∧ c ≤ 1099511627776) : -8796093022208 ≤ k * c ∧ k * c ≤ 8796093022208 := by
  have : k = 1 ∨ k = 2 ∨ k = 3 ∨ k = 4 ∨ k = 5 ∨ k = 6 ∨ k = 7 ∨ k = 8 := by omega
  rcases this with rfl | rfl | rfl | rfl | rfl | rfl | rfl | rfl <;> omega
theorem held_ok (s : spymake_Stream) (v : Vec) (most : Int) (hs : okS s) (ha : s.at_ ≤ 4611686018426000000) (hv : smallV v) (hm : 0 ≤ most ∧ most ≤ 1000000000) :
    Has (Stream_Held s v most) fun r => (∃ k : Int, 1 ≤ k ∧ k ≤ 8 ∧ heldB r.1.X k v.X most ∧ heldB r.1.Y k v.Y most ∧ heldB r.1.Z k v.Z most) ∧ after s r.2 7 := by
  unfold Stream_Held
  refine (range_ok s 1 8 hs (by omega) (by omega) (by omega) (by omega)).bind fun a ⟨a1, a2, a3⟩ => ?_
  have hA := a3.ok hs (by omega); have hhA := a3.hi
  have mx := mul8 a1 a2 hv.1; have my := mul8 a1 a2 hv.2.1; have mz := mul8 a1 a2 hv.2.2
  refine (held1_ok v.X a.1 most a.2 hA (by omega) (by omega) hm).bind fun b ⟨b0, b1, b2, b3, b4, b5⟩ => ?_
  have hB := b5.ok hA (by omega); have hhB := b5.hi
  refine (held1_ok v.Y a.1 most b.2 hB (by omega) (by omega) hm).bind fun c ⟨c0, c1, c2, c3, c4, c5⟩ => ?_
  have hC := c5.ok hB (by omega); have hhC := c5.hi
  refine (held1_ok v.Z a.1 most c.2 hC (by omega) (by omega) hm).bind fun d ⟨d0, d1, d2, d3, d4, d5⟩ => ?_
  exact Has.ret ⟨⟨a.1, a1, a2, ⟨b0, b1, b2, b3, b4⟩, ⟨c0, c1, c2, c3, c4⟩, ⟨d0, d1, d2, d3, d4⟩⟩, (((a3.trans b5).trans c5).trans d5).more (by omega)⟩
end Lf
/- PredictHolds: bounds of two places lead to bounds of all later and earlier ones; the pull at a place lies in that of its bounds. -/
namespace Lf
open Go Go.Abs
set_option linter.unusedVariables false
set_option linter.unusedSimpArgs false
theorem steppedFact : spykeep4_stepped = some true := by kernel_rfl
/-- An axis that is made wider. -/
def wideB (x d : Int) : Bound := ⟨x - Int.tdiv d 2, x + Int.tdiv (Int.tdiv d 2) 2, false⟩
theorem half {d : Int} (h0 : 0 ≤ d) (h1 : d ≤ 20000) : 0 ≤ Int.tdiv d 2 ∧ Int.tdiv d 2 ≤ d ∧ 0 ≤ Int.tdiv (Int.tdiv d 2) 2 ∧ Int.tdiv (Int.tdiv d 2) 2 ≤ d := by
  rw [Int.tdiv_eq_ediv_of_nonneg h0, Int.tdiv_eq_ediv_of_nonneg (show 0 ≤ d / 2 by omega)]
  omega
theorem wideB_ok {x d : Int} (hx : -4194304 ≤ x ∧ x ≤ 4194304) (h0 : 0 ≤ d) (h1 : d ≤ 20000) : (wideB x d).ok ∧ hasZ (wideB x d) x := by
  have := half h0 h1
  exact ⟨okKnown (by omega) (by omega) (by omega), .inr ⟨by simp only [wideB]; omega, by simp only [wideB]; omega⟩⟩
section
variable {r2 : Box × spymake_Stream} {a b c : Bound} {x d : Int}
theorem wide_round0 (hx : -4194304 ≤ x ∧ x ≤ 4194304) (h0 : 0 ≤ d) (h1 : d ≤ 20000) (e : r2.1.X.Hi - r2.1.X.Lo = d) : spykeep4_PredictHolds_1.l1 r2 ((⟨x, x, false⟩, b, c), 0) = some (.next ((wideB x d, b, c), 1)) := by
  have := half h0 h1
  unfold spykeep4_PredictHolds_1.l1
  have g4 : ∀ u v w : Bound, ((0 : Int) ≤ 0 ∧ (0 : Int) < (([u, v, w] : List Bound).length : Int)) := fun u v w => ⟨by decide, by simp⟩
  simp only [gt3_0, gt3_1, gt3_2, set3_0, set3_1, set3_2, letF, e]
  rw [if_pos (decide_eq_true (show (0 : Int) < 3 by decide)), if_pos (g4 _ _ _), if_pos (g4 _ _ _), if_pos (g4 _ _ _), w6_in (n := d) (by omega), w6_in (n := Int.tdiv d 2) (by omega), w6_in (n := x - Int.tdiv d 2) (by omega), w6_in (n := Int.tdiv (Int.tdiv d 2) 2) (by omega), w6_in (n := x + Int.tdiv (Int.tdiv d 2) 2) (by omega)]
  rfl
theorem wide_round1 (hx : -4194304 ≤ x ∧ x ≤ 4194304) (h0 : 0 ≤ d) (h1 : d ≤ 20000) (e : r2.1.Y.Hi - r2.1.Y.Lo = d) : spykeep4_PredictHolds_1.l1 r2 ((a, ⟨x, x, false⟩, c), 1) = some (.next ((a, wideB x d, c), 2)) := by
  have := half h0 h1
  unfold spykeep4_PredictHolds_1.l1
  have g4 : ∀ u v w : Bound, ((0 : Int) ≤ 1 ∧ (1 : Int) < (([u, v, w] : List Bound).length : Int)) := fun u v w => ⟨by decide, by simp⟩
  simp only [gt3_0, gt3_1, gt3_2, set3_0, set3_1, set3_2, letF, e]
  rw [if_pos (decide_eq_true (show (1 : Int) < 3 by decide)), if_pos (g4 _ _ _), if_pos (g4 _ _ _), if_pos (g4 _ _ _), w6_in (n := d) (by omega), w6_in (n := Int.tdiv d 2) (by omega), w6_in (n := x - Int.tdiv d 2) (by omega), w6_in (n := Int.tdiv (Int.tdiv d 2) 2) (by omega), w6_in (n := x + Int.tdiv (Int.tdiv d 2) 2) (by omega)]
  rfl
theorem wide_round2 (hx : -4194304 ≤ x ∧ x ≤ 4194304) (h0 : 0 ≤ d) (h1 : d ≤ 20000) (e : r2.1.Z.Hi - r2.1.Z.Lo = d) : spykeep4_PredictHolds_1.l1 r2 ((a, b, ⟨x, x, false⟩), 2) = some (.next ((a, b, wideB x d), 3)) := by
  have := half h0 h1
  unfold spykeep4_PredictHolds_1.l1
  have g4 : ∀ u v w : Bound, ((0 : Int) ≤ 2 ∧ (2 : Int) < (([u, v, w] : List Bound).length : Int)) := fun u v w => ⟨by decide, by simp⟩
  simp only [gt3_0, gt3_1, gt3_2, set3_0, set3_1, set3_2, letF, e]
  rw [if_pos (decide_eq_true (show (2 : Int) < 3 by decide)), if_pos (g4 _ _ _), if_pos (g4 _ _ _), if_pos (g4 _ _ _), w6_in (n := d) (by omega), w6_in (n := Int.tdiv d 2) (by omega), w6_in (n := x - Int.tdiv d 2) (by omega), w6_in (n := Int.tdiv (Int.tdiv d 2) 2) (by omega), w6_in (n := x + Int.tdiv (Int.tdiv d 2) 2) (by omega)]
  rfl
end
theorem wide_ok (v : Vec) (s : spymake_Stream) (most : Int) (hv : inV v) (hs : okS s) (ha : s.at_ ≤ 4611686018426000000) (hm : -9223372036854775808 ≤ most ∧ most ≤ 9223372036854775807) :
    Has (spykeep4_PredictHolds_1 v s most) fun r => ok3 r.1 ∧ has3 r.1 v ∧ after s r.2 7 := by
  unfold spykeep4_PredictHolds_1
  refine (below_ok most 5000 hm (by omega)).bind fun m ⟨m1, m2⟩ => ?_
  have hv0 := hv
  obtain ⟨⟨a1, a2⟩, ⟨b1, b2⟩, ⟨c1, c2⟩⟩ := hv
  refine (held_ok s v m hs ha ⟨by omega, by omega, by omega⟩ (by omega)).bind fun r ⟨⟨k, k1, k8, hX, hY, hZ⟩, r1⟩ => ?_
  have x0 := hX.l0; have x1 := hX.l1; have x2 := hX.h0; have x3 := hX.h1
  have y0 := hY.l0; have y1 := hY.l1; have y2 := hY.h0; have y3 := hY.h1
  have z0 := hZ.l0; have z1 := hZ.l1; have z2 := hZ.h0; have z3 := hZ.h1
  rw [exact3_ok hv0]
  simp only [Option.bind_some, ex3]
  obtain ⟨ox, hx⟩ := wideB_ok (x := v.X) (d := r.1.X.Hi - r.1.X.Lo) ⟨a1, a2⟩ (by omega) (by omega)
  obtain ⟨oy, hy⟩ := wideB_ok (x := v.Y) (d := r.1.Y.Hi - r.1.Y.Lo) ⟨b1, b2⟩ (by omega) (by omega)
  obtain ⟨oz, hz⟩ := wideB_ok (x := v.Z) (d := r.1.Z.Hi - r.1.Z.Lo) ⟨c1, c2⟩ (by omega) (by omega)
  rw [(Run.next (wide_round0 (r2 := r) ⟨a1, a2⟩ (by omega) (by omega) rfl) (Run.next (wide_round1 ⟨b1, b2⟩ (by omega) (by omega) rfl) (Run.next (wide_round2 ⟨c1, c2⟩ (by omega) (by omega) rfl) (Run.done rfl)))).ok (by decide)]
  exact Has.ret ⟨⟨ox, oy, oz⟩, ⟨hx, hy, hz⟩, r1⟩
theorem PredictHolds_true (l : List Int) (days most : Int) (hl : okL l) (hd : -9223372036854775808 ≤ days ∧ days ≤ 9223372036854775807) (hm : -9223372036854775808 ≤ most ∧ most ≤ 9223372036854775807) : spykeep4_PredictHolds l days most = some true := by
  apply Has.val
  have h0 := okS.start hl
  unfold spykeep4_PredictHolds
  refine (place_ok _ 2 h0 (by simp only []; omega) (by omega) (by omega)).bind fun r1 ⟨p1, _, _, _, s1⟩ => ?_
  have o1 := s1.ok h0 (by simp only []; omega); have b1 := s1.hi
  refine (body_ok _ 1 r1.1 o1 (by simp only [] at b1; omega)).bind fun r2 ⟨w1, w2, _, _, _, s2⟩ => ?_
  have o2 := s2.ok o1 (by simp only [] at b1; omega); have b2 := s2.hi
  refine (below_ok days 65 hd (by omega)).bind fun r3 ⟨d1, d2⟩ => ?_
  refine (wide_ok r2.1.Was r2.2 most w1 o2 (by simp only [] at b1; omega) hm).bind fun r4 ⟨q1, q2, s4⟩ => ?_
  have o4 := s4.ok o2 (by simp only [] at b1; omega); have b4 := s4.hi
  refine (wide_ok r2.1.Here r4.2 most w2 o4 (by simp only [] at b1; omega) hm).bind fun r5 ⟨t1, t2, s5⟩ => ?_
  rw [w6_in (n := r3 - 32) (by omega)]
  refine (path_ok has_keeps (w := r4.1) (h := r5.1) ⟨w1, q1, q2⟩ ⟨w2, t1, t2⟩ (day := r3 - 32) (by omega) (by omega)).bind fun r6 h6 => ?_
  rw [ahead_ok q1 t1 (days := r3 - 32) (by omega) (by omega), steppedFact]
  simp only [Option.bind_some, Bool.not_true, Bool.false_eq_true, if_false, bne_self_eq_false]
  refine Has.bind (P := fun z => z = false) ?_ fun z hz => ?_
  · refine (pull_ok t1).bind fun q hq => (skyPull_ok w2).bind fun g hg => ?_
    have hq : isPull r5.1 q := hq
    rw [predictHas_ok hq.ok (pull_has hq t2 hg), predictHas_ok t1 t2]
    exact Has.ret rfl
  · refine Has.neg (by rw [hz]; decide) ?_
    refine Has.bind (P := fun z => z = true) (Has.ite (fun h => Has.ret rfl) fun h => ?_) fun z hz => Has.ret hz
    obtain ⟨i4, e4, e5⟩ := h6 (by simpa using h)
    rw [predictHas_ok e4 e5]
    exact Has.ret rfl
end Lf
