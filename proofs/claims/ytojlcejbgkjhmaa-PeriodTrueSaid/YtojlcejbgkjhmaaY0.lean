/- Laws of the plain functions. Conditions: as each theorem states them. -/
import Derived.Test.YtojlcejbgkjhmaaD
import Derived.Test.YtojlcejbgkjhmaaA4
import Derived.Sort.AssemblyPlain
/- Plain facts of streams and bounds, for the functions of PetD. -/
namespace Lf
open Go Go.Abs
set_option linter.unusedVariables false
set_option linter.unusedSimpArgs false
/-! streams -/
/-- What a stream must be. -/
structure okS (s : spymake_Stream) : Prop where
  z : ∀ z ∈ s.L, -9223372036854775808 ≤ z ∧ z ≤ 9223372036854775807
  len : s.L.length ≤ 17592186044416
  a0 : 0 ≤ s.at_
  a1 : s.at_ ≤ 4611686018427387904
theorem okS.start {l : List Int} (h : okL l) : okS (spymake_Stream.mk l 0) := ⟨h.z, by have := h.len; simp only []; omega, Int.le_refl _, by simp only []; omega⟩
/-- What is true of a stream that another one has become. -/
structure after (s t : spymake_Stream) (k : Int) : Prop where
  L : t.L = s.L
  lo : s.at_ ≤ t.at_
  hi : t.at_ ≤ s.at_ + k
theorem after.refl (s : spymake_Stream) : after s s 0 := ⟨rfl, Int.le_refl _, by omega⟩
theorem after.trans {s t u : spymake_Stream} {k m : Int} (h : after s t k) (g : after t u m) : after s u (k + m) := ⟨g.L.trans h.L, Int.le_trans h.lo g.lo, by have := h.hi; have := g.hi; omega⟩
theorem after.more {s t : spymake_Stream} {k m : Int} (h : after s t k) (hk : k ≤ m) : after s t m := ⟨h.L, h.lo, by have := h.hi; omega⟩
theorem after.ok {s t : spymake_Stream} {k : Int} (h : after s t k) (g : okS s) (hk : s.at_ + k ≤ 4611686018427387904) : okS t := ⟨by rw [h.L]; exact g.z, by rw [h.L]; exact g.len, by have := h.lo; have := g.a0; omega, by have := h.hi; omega⟩
theorem below_ok (x n : Int) (hx : -9223372036854775808 ≤ x ∧ x ≤ 9223372036854775807) (hn : 1 ≤ n ∧ n ≤ 9223372036854775807) : Has (spymake_Below x n) fun v => 0 ≤ v ∧ v < n := by
  unfold spymake_Below
  have h1 := Int.lt_tmod_of_pos x (b := n) (by omega)
  have h2 := Int.tmod_lt_of_pos x (b := n) (by omega)
  refine Has.neg (by simp; omega) (Has.chk (by omega) (Has.ite (fun h => Has.ret ?_) fun h => Has.ret ?_))
  · simp only [decide_eq_true_eq] at h; rw [w6_in (by omega)]; omega
  · simp only [decide_eq_true_eq] at h; omega
theorem below_zero (x n : Int) (hn : n ≤ 0) : spymake_Below x n = some 0 := by unfold spymake_Below; rw [if_pos (by simp; omega)]
theorem next_ok (s : spymake_Stream) (n : Int) (hs : okS s) (ha : s.at_ < 4611686018427387904) (hn : 1 ≤ n ∧ n ≤ 9223372036854775807) : Has (Stream_Next s n) fun r => 0 ≤ r.1 ∧ r.1 < n ∧ after s r.2 1 := by
  have h0 := hs.a0
  have hl := hs.len
  have e1 : w6 (s.at_ + 1) = s.at_ + 1 := w6_in (by omega)
  have fin : after s (spymake_Stream.mk s.L (s.at_ + 1)) 1 := ⟨rfl, by simp only []; omega, Int.le_refl _⟩
  unfold Stream_Next
  simp only [e1]
  refine Has.ite (fun hz => ?_) fun hz => ?_
  · exact (below_ok _ n (w6_bd _) hn).bind fun v hv => Has.ret ⟨hv.1, hv.2, fin⟩
  · have hz : s.L.length ≠ 0 := by simpa using hz
    have e2 : w6 (s.at_ + 1 - 1) = s.at_ := by rw [w6_in (by omega)]; omega
    have b1 := Int.tmod_nonneg (s.L.length : Int) hs.a0
    have b2 := Int.tmod_lt_of_pos s.at_ (b := (s.L.length : Int)) (by omega)
    simp only [e2]
    refine Has.chk (by omega) (Has.chk ⟨b1, b2⟩ ?_)
    refine (below_ok _ 1073741824 (hs.z _ (gt_mem _ _ ⟨b1, b2⟩)) (by omega)).bind fun v hv => Has.letF (Has.letF ?_)
    exact (below_ok _ n (w6_bd _) hn).bind fun u hu => Has.ret ⟨hu.1, hu.2, fin⟩
theorem range_ok (s : spymake_Stream) (lo hi : Int) (hs : okS s) (ha : s.at_ < 4611686018427387904) (h : lo ≤ hi) (h1 : -2305843009213693952 ≤ lo) (h2 : hi ≤ 2305843009213693952) : Has (Stream_Range s lo hi) fun r => lo ≤ r.1 ∧ r.1 ≤ hi ∧ after s r.2 1 := by
  unfold Stream_Range
  rw [w6_in (n := hi - lo) (by omega), w6_in (n := hi - lo + 1) (by omega)]
  refine Has.neg (by simp; omega) ((next_ok s (hi - lo + 1) hs ha (by omega)).bind fun r hr => Has.ret ?_)
  rw [w6_in (by omega)]
  exact ⟨by omega, by omega, hr.2.2⟩
end Lf
/- The smaller and the greater one of two numbers. -/
namespace Lf
open Go Go.Abs
set_option linter.unusedVariables false
set_option linter.unusedSimpArgs false
theorem mn2_min (a b : Int) : mn2 a b = min a b := by rcases mn2_def a b with ⟨e, h⟩ | ⟨e, h⟩ <;> rw [e] <;> omega
theorem mx2_max (a b : Int) : mx2 a b = max a b := by rcases mx2_def a b with ⟨e, h⟩ | ⟨e, h⟩ <;> rw [e] <;> omega
end Lf
/- A star with a wave, as it is drawn, and its light at a time. -/
namespace Lf
open Go Go.Abs
set_option linter.unusedVariables false
set_option linter.unusedSimpArgs false
/-- A direction that is drawn. -/
structure okV (v : Vec) : Prop where
  x : -1048576 ≤ v.X ∧ v.X ≤ 1048576
  y : -1048576 ≤ v.Y ∧ v.Y ≤ 1048576
  z : -1048576 ≤ v.Z ∧ v.Z ≤ 1048576
  n : ¬ (v.X = 0 ∧ v.Y = 0 ∧ v.Z = 0)
theorem vec_ok (s : spymake_Stream) (hs : okS s) (ha : s.at_ ≤ 4611686018427000000) : Has (Stream_Vec s) fun r => okV r.1 ∧ after s r.2 4 := by
  unfold Stream_Vec
  refine (next_ok s 4 hs (by omega) (by omega)).bind fun a ⟨a1, a2, a3⟩ => Has.chk ⟨a1, a2⟩ ?_
  have hA := a3.ok hs (by omega); have hh := a3.hi
  have hm : 1 ≤ gt ([3, 100, 5000, 1048576] : List Int) a.1 ∧ gt ([3, 100, 5000, 1048576] : List Int) a.1 ≤ 1048576 := by
    have : a.1 = 0 ∨ a.1 = 1 ∨ a.1 = 2 ∨ a.1 = 3 := by omega
    rcases this with e | e | e | e <;> rw [e] <;> decide
  generalize gt ([3, 100, 5000, 1048576] : List Int) a.1 = m at *
  rw [w6_in (n := 0 - m) (by omega)]
  refine (range_ok a.2 (0 - m) m hA (by omega) (by omega) (by omega) (by omega)).bind fun b ⟨b1, b2, b3⟩ => ?_
  have hB := b3.ok hA (by omega); have hhb := b3.hi
  refine (range_ok b.2 (0 - m) m hB (by omega) (by omega) (by omega) (by omega)).bind fun c ⟨c1, c2, c3⟩ => ?_
  have hC := c3.ok hB (by omega); have hhc := c3.hi
  refine (range_ok c.2 (0 - m) m hC (by omega) (by omega) (by omega) (by omega)).bind fun d ⟨d1, d2, d3⟩ => ?_
  have af := ((a3.trans b3).trans c3).trans d3
  refine Has.ite (fun h => Has.ret ⟨⟨by simp only []; omega, by simp only []; omega, by simp only []; omega, by simp only []; omega⟩, af.more (by omega)⟩) fun h => Has.ret ⟨⟨by simp only []; omega, by simp only []; omega, by simp only []; omega, fun ⟨e1, e2, e3⟩ => h ?_⟩, af.more (by omega)⟩
  simp only [] at e1 e2 e3
  simp [e1, e2, e3]
/-- A star with a wave. -/
structure okStar (x : Star) : Prop where
  id : x.ID = 1
  at_ : okV x.At
  r0 : 0 ≤ x.Rate
  r1 : x.Rate < 500
  w0 : 1 ≤ x.Wave.length
  w1 : x.Wave.length ≤ 6
  w : ∀ q ∈ x.Wave, 0 ≤ q ∧ q ≤ 900
  p : ∃ k : Int, 1 ≤ k ∧ k ≤ 400 ∧ x.Period = x.Wave.length * k
  f : x.From = -17592186044416
  t : x.To = 17592186044416
theorem wave_ok (s : spymake_Stream) (v : Vec) (hv : okV v) (hs : okS s) (ha : s.at_ ≤ 4611686018427000000) : Has (Stream_Wave s 1 v) fun r => okStar r.1 ∧ after s r.2 40 := by
  unfold Stream_Wave
  refine (next_ok s 500 hs (by omega) (by omega)).bind fun a ⟨a1, a2, a3⟩ => ?_
  have hA := a3.ok hs (by omega); have hh := a3.hi
  refine (range_ok a.2 1 6 hA (by omega) (by omega) (by omega) (by omega)).bind fun b ⟨b1, b2, b3⟩ => ?_
  have hB := b3.ok hA (by omega); have hhb := b3.hi
  refine (Has.loop (fun t : spymake_Stream × List Int × Int => 0 ≤ t.2.2 ∧ t.2.2 ≤ b.1 ∧ after b.2 t.1 (2 * t.2.2) ∧ (t.2.1.length : Int) = t.2.2 ∧ ∀ q ∈ t.2.1, 0 ≤ q ∧ q ≤ 900) (fun t => (b.1 - t.2.2).toNat) (fun o : spymake_Stream × List Int => after b.2 o.1 12 ∧ (o.2.length : Int) = b.1 ∧ ∀ q ∈ o.2, 0 ≤ q ∧ q ≤ 900) ⟨Int.le_refl _, by simp only []; omega, after.refl _, rfl, by simp⟩ (by simp only []; omega) fun t ⟨t0, t1, t2, t3, t4⟩ => ?_).bind fun o ⟨o1, o2, o3⟩ => ?_
  · have hT := t2.ok hB (by omega); have hht := t2.hi
    unfold Stream_Wave.l1
    refine Has.ite (fun hi => ?_) fun hi => ?_
    · have hi : t.2.2 < b.1 := of_decide_eq_true hi
      refine (next_ok t.1 4 hT (by omega) (by omega)).bind fun c ⟨c1, c2, c3⟩ => ?_
      have hC := c3.ok hT (by omega); have hhc := c3.hi
      refine (next_ok c.2 300 hC (by omega) (by omega)).bind fun d ⟨d1, d2, d3⟩ => ?_
      have hm : 0 ≤ c.1 * d.1 ∧ c.1 * d.1 ≤ 900 := by
        have : c.1 = 0 ∨ c.1 = 1 ∨ c.1 = 2 ∨ c.1 = 3 := by omega
        rcases this with e | e | e | e <;> rw [e] <;> omega
      rw [w6_in (n := c.1 * d.1) (by omega), w6_in (n := t.2.2 + 1) (by omega)]
      refine Has.chk (roomyI (by simp; omega) (by simp; omega)) (Has.ret (.next ⟨by simp only []; omega, by simp only []; omega, ((t2.trans c3).trans d3).more (by simp only []; omega), by simp; omega, fun q hq => ?_⟩ (by simp only []; omega)))
      rcases List.mem_append.1 hq with h | h
      · exact t4 q h
      · simp at h; rw [h]; exact hm
    · have hi : ¬ t.2.2 < b.1 := fun q => hi (decide_eq_true q)
      exact Has.ret (.done ⟨t2.more (by omega), by simp only []; omega, t4⟩)
  · have hO := o1.ok hB (by omega); have hho := o1.hi
    refine (range_ok o.1 1 400 hO (by omega) (by omega) (by omega) (by omega)).bind fun e ⟨e1, e2, e3⟩ => ?_
    have hm : 0 ≤ (o.2.length : Int) * e.1 ∧ (o.2.length : Int) * e.1 ≤ 2400 := by
      have : (o.2.length : Int) = 1 ∨ (o.2.length : Int) = 2 ∨ (o.2.length : Int) = 3 ∨ (o.2.length : Int) = 4 ∨ (o.2.length : Int) = 5 ∨ (o.2.length : Int) = 6 := by omega
      rcases this with h | h | h | h | h | h <;> rw [h] <;> omega
    rw [w6_in (by omega)]
    exact Has.ret ⟨⟨rfl, hv, a1, a2, by simp only []; omega, by simp only []; omega, o3, ⟨e.1, e1, e2, rfl⟩, rfl, rfl⟩, (((a3.trans b3).trans o1).trans e3).more (by omega)⟩
theorem okStar.per {x : Star} (h : okStar x) : 1 ≤ x.Period ∧ x.Period ≤ 2400 := by
  obtain ⟨k, k0, k1, e⟩ := h.p
  have a := h.w0; have b := h.w1
  rw [e]
  have : (x.Wave.length : Int) = 1 ∨ (x.Wave.length : Int) = 2 ∨ (x.Wave.length : Int) = 3 ∨ (x.Wave.length : Int) = 4 ∨ (x.Wave.length : Int) = 5 ∨ (x.Wave.length : Int) = 6 := by omega
  rcases this with h | h | h | h | h | h <;> rw [h] <;> omega
theorem sphere_ok {v : Vec} (h : okV v) : sphere_Check v = some 0 := by
  obtain ⟨x1, x2⟩ := h.x; obtain ⟨y1, y2⟩ := h.y; obtain ⟨z1, z2⟩ := h.z
  unfold sphere_Check
  rw [mx2_max, mx2_max, mn2_min, mn2_min]
  have g1 : decide (max (max v.X v.Y) v.Z > 1048576) = false := decide_eq_false (by omega)
  have g2 : decide (min (min v.X v.Y) v.Z < -1048576) = false := decide_eq_false (by omega)
  simp only [g1, g2, Bool.false_eq_true, if_false, Option.bind_some]
  rw [if_neg]
  intro e
  simp at e
  exact h.n e
theorem waves_ok {x : Star} (h : okStar x) : slices_ContainsFunc_Int_sky_star_1 x.Wave x = some false := by
  have r0 := h.r0; have r1 := h.r1; have w1 := h.w1
  apply Has.val
  unfold slices_ContainsFunc_Int_sky_star_1 slices_IndexFunc_Int_sky_star_1
  refine Has.bind (P := fun r : Int => r = -1) (Has.seq (P := fun t : Step Unit Int => t = .next ()) ?_ (fun _ _ => Has.ret rfl) (fun o ho => by cases ho)) fun r hr => by rw [hr]; exact Has.ret rfl
  refine Has.loop (fun i : Int => 0 ≤ i ∧ i ≤ x.Wave.length) (fun i => (x.Wave.length - i).toNat) _ ⟨Int.le_refl _, by omega⟩ (by omega) fun i ⟨i1, i2⟩ => ?_
  unfold slices_IndexFunc_Int_sky_star_1.l1
  refine Has.ite (fun hi => ?_) fun hi => Has.ret (.done rfl)
  have hi : i < x.Wave.length := of_decide_eq_true hi
  have hq := h.w _ (gt_mem x.Wave i ⟨i1, hi⟩)
  have e : sky_star_1 (gt x.Wave i) x = some false := by
    unfold sky_star_1
    rw [w6_in (n := 1048576 - x.Rate) (by omega)]
    have g1 : decide (gt x.Wave i < 0) = false := decide_eq_false (by omega)
    have g2 : decide (gt x.Wave i > 1048576 - x.Rate) = false := decide_eq_false (by omega)
    simp only [g1, g2, Bool.false_eq_true, if_false, Option.bind_some]
  rw [e, w6_in (n := i + 1) (by omega)]
  simp only [Option.bind_some, Bool.false_eq_true, if_false]
  exact Has.chk ⟨i1, hi⟩ (Has.ret (.next ⟨by omega, by omega⟩ (by omega)))
theorem star_ok {x : Star} (h : okStar x) : sky_star x = some 0 := by
  have w0 := h.w0; have w1 := h.w1; have p := h.per
  obtain ⟨k, k0, k1, e⟩ := h.p
  unfold sky_star
  rw [sphere_ok h.at_, waves_ok h, h.f, h.t]
  have g1 : decide ((x.Wave.length : Int) > 16) = false := decide_eq_false (by omega)
  have g2 : ((x.Wave.length : Int) == 0) = false := by rw [beq_eq_false_iff_ne]; omega
  have g3 : decide ((x.Wave.length : Int) > 0) = true := decide_eq_true (by omega)
  have g4 : decide (x.Period < 1) = false := decide_eq_false (by omega)
  have g5 : decide (x.Period > 17592186044416) = false := decide_eq_false (by omega)
  have g6 : Int.tmod x.Period (x.Wave.length : Int) = 0 := by rw [e]; exact Int.mul_tmod_right _ _
  have g7 : (x.Wave.length : Int) ≠ 0 := by omega
  simp only [Option.bind_some, bne_self_eq_false, Bool.false_eq_true, if_false, g1, g2, g3, g4, g5, g6, if_true]
  rw [if_pos g7]
  simp only [Option.bind_some, Bool.false_eq_true, if_false]
  rfl
/-- The sky with this star alone. -/
def skyOf (x : Star) : Sky := Sky.mk 0 ([x] : List Star) [] [] (Body.mk 0 (Vec.mk 0 0 0) (Vec.mk 0 0 0) 0)
theorem skyCheck_ok {x : Star} (h : okStar x) : sky_Check (skyOf x) = some 0 := by
  have i := h.id; have r0 := h.r0; have r1 := h.r1
  unfold sky_Check skyOf
  simp only []
  rw [if_pos ⟨trivial, trivial, by omega, by omega, by omega, by omega⟩]
  exact star_ok h
theorem timed_ok {x : Star} (h : okStar x) {t : Int} (t0 : -17592186044416 ≤ t) (t1 : t ≤ 17592186044416) : sky_timed (skyOf x) t = some 0 := by
  unfold sky_timed
  rw [skyCheck_ok h]
  have g1 : decide (t < -17592186044416) = false := decide_eq_false (by omega)
  have g2 : decide (t > 17592186044416) = false := decide_eq_false (by omega)
  simp only [Option.bind_some, bne_self_eq_false, Bool.false_eq_true, if_false, g1, g2]
/-- The phase of a time: the wave's place. -/
def phAt (x : Star) (t : Int) : Int := (t % x.Period) / (x.Period / x.Wave.length)
theorem shines_ok {x : Star} (h : okStar x) {t : Int} (t0 : -17592186044416 ≤ t) (t1 : t < 17592186044416) : sky_shines x t = some (x.Rate + gt x.Wave (phAt x t)) ∧ 0 ≤ phAt x t ∧ phAt x t < x.Wave.length := by
  have w0 := h.w0; have w1 := h.w1; have p := h.per; have r0 := h.r0; have r1 := h.r1
  obtain ⟨k, k0, k1, e⟩ := h.p
  have hn : (x.Wave.length : Int) ≠ 0 := by omega
  have ek : x.Period / x.Wave.length = k := by rw [e]; exact Int.mul_ediv_cancel_left _ hn
  have ek2 : Int.tdiv x.Period x.Wave.length = k := by rw [Int.tdiv_eq_ediv_of_nonneg (by omega), ek]
  have m0 := Int.emod_nonneg t (b := x.Period) (by omega)
  have m1 := Int.emod_lt_of_pos t (b := x.Period) (by omega)
  have q0 : 0 ≤ phAt x t := by unfold phAt; rw [ek]; exact Int.ediv_nonneg m0 (by omega)
  have q1 : phAt x t < x.Wave.length := by
    unfold phAt; rw [ek]
    exact Int.ediv_lt_of_lt_mul (by omega) (by rw [← e]; exact m1)
  have hq := h.w _ (gt_mem x.Wave (phAt x t) ⟨q0, q1⟩)
  refine ⟨?_, q0, q1⟩
  unfold sky_shines
  have g1 : decide (t < x.From) = false := decide_eq_false (by rw [h.f]; omega)
  have g2 : decide (t ≥ x.To) = false := decide_eq_false (by rw [h.t]; omega)
  have g3 : ((x.Wave.length : Int) == 0) = false := by rw [beq_eq_false_iff_ne]; omega
  have gp : x.Period ≠ 0 := by omega
  have gk : k ≠ 0 := by omega
  simp only [g1, g2, g3, Option.bind_some, Bool.false_eq_true, if_false]
  rw [if_pos gp, if_pos hn, if_pos hn, ek2, w6_in (n := k) (by omega), if_pos gk, if_pos gk]
  have ph : phAt x t = (t % x.Period) / k := by unfold phAt; rw [ek]
  by_cases hm : Int.tmod t x.Period < 0
  · rw [if_pos (decide_eq_true hm)]
    have em : Int.tmod t x.Period + x.Period = t % x.Period := by
      rw [Int.emod_eq_tmod, if_neg]
      · omega
      · rintro (q | q)
        · have := Int.tmod_nonneg x.Period q; omega
        · rw [Int.tmod_eq_zero_of_dvd q] at hm; omega
    rw [w6_in (n := Int.tmod t x.Period + x.Period) (by omega), em, Int.tdiv_eq_ediv_of_nonneg m0, ← ph, w6_in (n := phAt x t) (by omega)]
    show (if 0 ≤ phAt x t ∧ phAt x t < x.Wave.length then some (w6 (x.Rate + gt x.Wave (phAt x t))) else none) = _
    rw [if_pos ⟨q0, q1⟩, w6_in (by omega)]
  · rw [if_neg (fun q => hm (of_decide_eq_true q))]
    have em : Int.tmod t x.Period = t % x.Period := by
      rw [Int.emod_eq_tmod]
      by_cases hz : 0 ≤ t ∨ x.Period ∣ t
      · rw [if_pos hz]; omega
      · exfalso
        have : Int.tmod t x.Period ≠ 0 := fun q => hz (.inr (Int.dvd_of_tmod_eq_zero q))
        have t3 := Int.tmod_nonneg (a := -t) x.Period (by omega)
        rw [Int.neg_tmod] at t3
        omega
    rw [em, Int.tdiv_eq_ediv_of_nonneg m0, ← ph, w6_in (n := phAt x t) (by omega)]
    show (if 0 ≤ phAt x t ∧ phAt x t < x.Wave.length then some (w6 (x.Rate + gt x.Wave (phAt x t))) else none) = _
    rw [if_pos ⟨q0, q1⟩, w6_in (by omega)]
theorem rate_ok {x : Star} (h : okStar x) {t : Int} (t0 : -17592186044416 ≤ t) (t1 : t < 17592186044416) : sky_Rate (skyOf x) x.ID t = some (x.Rate + gt x.Wave (phAt x t), 0) := by
  apply Has.val
  unfold sky_Rate
  rw [timed_ok h t0 (by omega)]
  simp only [Option.bind_some, bne_self_eq_false, Bool.false_eq_true, if_false]
  refine Has.seq (P := fun s : Step Unit (Int × Int) => s = .done (x.Rate + gt x.Wave (phAt x t), 0)) ?_ (fun _ hs => by cases hs) (fun o ho => by cases ho; rfl)
  refine Has.loop (fun i : Int => i = 0) (fun _ => 0) _ rfl (by omega) fun i hi => ?_
  subst hi
  unfold sky_Rate.l1
  have e1 : gt (skyOf x).Stars 0 = x := rfl
  rw [e1, (shines_ok h t0 t1).1]
  exact Has.pos rfl (Has.chk ⟨Int.le_refl _, by simp [skyOf]⟩ (Has.pos (by simp) (Has.ret (.done rfl))))
end Lf
/- Plain facts of bounds. -/
namespace Lf
open Go Go.Abs
set_option linter.unusedVariables false
set_option linter.unusedSimpArgs false
/-- A valid bound. -/
structure Bound.ok (b : Bound) : Prop where
  u : b.Unknown = true → b.Lo = 0 ∧ b.Hi = 0
  lo : -1152921504606846976 ≤ b.Lo
  le : b.Lo ≤ b.Hi
  hi : b.Hi ≤ 1152921504606846976
theorem check_ok {b : Bound} (h : b.ok) : bound_Check b = some 0 := by
  obtain ⟨h1, h2, h3, h4⟩ := h
  unfold bound_Check
  rw [mn2_le h3, mx2_le h3]
  have e1 : ¬ b.Lo < -1152921504606846976 := by omega
  have e2 : ¬ b.Hi > 1152921504606846976 := by omega
  have e3 : ¬ b.Lo > b.Hi := by omega
  cases hu : b.Unknown with
  | false => simp [e1, e2, e3]
  | true => obtain ⟨q1, q2⟩ := h1 hu; simp [q1, q2]
theorem norm_ok {b : Bound} (h : b.ok) : bound_Norm b = some b := by unfold bound_Norm; rw [check_ok h]; rfl
theorem none_ok : bound_None = some ⟨0, 0, true⟩ := rfl
theorem okNone : Bound.ok ⟨0, 0, true⟩ := ⟨fun _ => ⟨rfl, rfl⟩, by decide, by decide, by decide⟩
theorem okKnown {lo hi : Int} (h1 : -1152921504606846976 ≤ lo) (h2 : lo ≤ hi) (h3 : hi ≤ 1152921504606846976) : Bound.ok ⟨lo, hi, false⟩ := ⟨(fun h => nomatch h), h1, h2, h3⟩
theorem of_ok {lo hi : Int} (h1 : -1152921504606846976 ≤ lo) (h2 : lo ≤ hi) (h3 : hi ≤ 1152921504606846976) : bound_Of lo hi = some ⟨lo, hi, false⟩ := by
  unfold bound_Of; rw [norm_ok (okKnown h1 h2 h3)]; rfl
end Lf
/- Samples of a curve, and sorting a few of them. -/
namespace Lf
open Go Go.Abs
set_option linter.unusedVariables false
set_option linter.unusedSimpArgs false
/-- A sample as it is made. -/
structure okSm (s : curve_Sample) : Prop where
  a : s.At.ok
  u : s.At.Unknown = false
  lo : -1000000 ≤ s.At.Lo
  hi : s.At.Hi ≤ 1000000
  l : s.Light.ok
def leS (a b : curve_Sample) : Prop := a.At.Lo < b.At.Lo ∨ (a.At.Lo = b.At.Lo ∧ a.At.Hi ≤ b.At.Hi)
theorem okSm.le {s : curve_Sample} (h : okSm s) : s.At.Lo ≤ s.At.Hi := h.a.le
theorem leS.trans {a b c : curve_Sample} (h : leS a b) (k : leS b c) : leS a c := by
  unfold leS at *; omega
theorem cmpS_ok {a b : curve_Sample} (ha : okSm a) (hb : okSm b) : Has (spykeep4_samples_1 a b) fun r => (r < 0 → leS a b) ∧ (¬ r < 0 → leS b a) := by
  have a1 := ha.lo; have a2 := ha.hi; have a3 := ha.le; have b1 := hb.lo; have b2 := hb.hi; have b3 := hb.le
  unfold spykeep4_samples_1 leS
  refine Has.ite (fun h => ?_) fun h => ?_
  · rw [w6_in (by omega)]
    have h : a.At.Lo ≠ b.At.Lo := by simpa using h
    exact Has.ret ⟨fun _ => by omega, fun _ => by omega⟩
  · rw [w6_in (by omega)]
    have h : a.At.Lo = b.At.Lo := by simpa using h
    exact Has.ret ⟨fun _ => by omega, fun _ => by omega⟩
/-- Sorted in a range but for one place. -/
def sortedTo (xs : List curve_Sample) (n : Int) : Prop := ∀ p q : Int, 0 ≤ p → p < q → q < n → leS (gt xs p) (gt xs q)
theorem insert_ok {P : curve_Sample → Prop} (hP : ∀ s, P s → okSm s) (xs : List curve_Sample) (hx : allI xs fun _ s => P s) (hl : xs.length ≤ 1000) :
    Has (slices_insertionSortCmpFunc_curve_Sample_spykeep4_samples_1 xs 0 xs.length) fun r => r.length = xs.length ∧ (allI r fun _ s => P s) ∧ sortedTo r xs.length := by
  unfold slices_insertionSortCmpFunc_curve_Sample_spykeep4_samples_1
  rw [show w6 (0 + 1) = 1 from by decide]
  refine Has.bind (P := fun r : List curve_Sample => r.length = xs.length ∧ (allI r fun _ s => P s) ∧ sortedTo r xs.length) ?_ fun r hr => Has.ret hr
  refine Has.loop (fun t : List curve_Sample × Int => 1 ≤ t.2 ∧ (t.2 ≤ xs.length ∨ t.2 = 1) ∧ t.1.length = xs.length ∧ (allI t.1 fun _ s => P s) ∧ sortedTo t.1 t.2) (fun t => (xs.length - t.2).toNat) _ ⟨show (1 : Int) ≤ 1 from Int.le_refl _, .inr rfl, rfl, hx, fun p q p0 pq q1 => (by have q1 : q < 1 := q1; omega)⟩ (by simp only []; omega) fun t ⟨t1, t2, t3, t4, t5⟩ => ?_
  unfold slices_insertionSortCmpFunc_curve_Sample_spykeep4_samples_1.l1
  refine Has.ite (fun hi => ?_) fun hi => ?_
  · have hi : t.2 < xs.length := of_decide_eq_true hi
    rw [w6_in (n := t.2 + 1) (by omega)]
    refine Has.bind (P := fun r : List curve_Sample => r.length = xs.length ∧ (allI r fun _ s => P s) ∧ sortedTo r (t.2 + 1)) ?_ fun r ⟨r1, r2, r3⟩ => Has.ret (.next ⟨by simp only []; omega, by simp only []; omega, r1, r2, r3⟩ (by simp only []; omega))
    refine Has.loop (fun u : List curve_Sample × Int => 0 ≤ u.2 ∧ u.2 ≤ t.2 ∧ u.1.length = xs.length ∧ (allI u.1 fun _ s => P s) ∧ (∀ p q : Int, 0 ≤ p → p < q → q < t.2 + 1 → p ≠ u.2 → q ≠ u.2 → leS (gt u.1 p) (gt u.1 q)) ∧ ∀ q : Int, u.2 < q → q < t.2 + 1 → leS (gt u.1 u.2) (gt u.1 q)) (fun u => u.2.toNat) _
      ⟨by simp only []; omega, Int.le_refl _, t3, t4, fun p q p0 pq q1 n1 n2 => t5 p q p0 pq (by simp only [] at n2; omega), fun q q0 q1 => by simp only [] at q0; omega⟩ (by simp only []; omega) fun u ⟨u0, u1, u2, u3, u4, u5⟩ => ?_
    unfold slices_insertionSortCmpFunc_curve_Sample_spykeep4_samples_1.l2
    refine Has.bind (P := fun b : Bool => (b = true → 0 < u.2 ∧ leS (gt u.1 u.2) (gt u.1 (u.2 - 1))) ∧ (b = false → u.2 = 0 ∨ leS (gt u.1 (u.2 - 1)) (gt u.1 u.2))) (Has.ite (fun h0 => ?_) fun h0 => Has.ret ⟨(fun e => nomatch e), fun _ => .inl (by have : ¬ u.2 > 0 := fun q => h0 (decide_eq_true q); omega)⟩) fun b ⟨b1, b2⟩ => ?_
    · have h0 : 0 < u.2 := of_decide_eq_true h0
      rw [w6_in (n := u.2 - 1) (by omega)]
      refine Has.chk ⟨u0, by omega⟩ (Has.chk ⟨by omega, by omega⟩ ((cmpS_ok (hP _ (u3 u.2 u0 (by omega))) (hP _ (u3 (u.2 - 1) (by omega) (by omega)))).bind fun r ⟨r1, r2⟩ => Has.ret ⟨fun e => ⟨h0, r1 (of_decide_eq_true e)⟩, fun e => .inr (r2 (of_decide_eq_false e))⟩))
    · refine Has.ite (fun hb => ?_) fun hb => Has.ret (.done ⟨u2, u3, fun p q p0 pq q1 => ?_⟩)
      · obtain ⟨h0, hle⟩ := b1 hb
        rw [w6_in (n := u.2 - 1) (by omega)]
        have a0 : 0 ≤ u.2 - 1 := by omega
        have a1 : u.2 - 1 < u.1.length := by omega
        have e1 : gt ((u.1.set u.2.toNat (gt u.1 (u.2 - 1))).set (u.2 - 1).toNat (gt u.1 u.2)) (u.2 - 1) = gt u.1 u.2 := gt_set_eq a0 (by simp only [List.length_set]; omega)
        have e2 : gt ((u.1.set u.2.toNat (gt u.1 (u.2 - 1))).set (u.2 - 1).toNat (gt u.1 u.2)) u.2 = gt u.1 (u.2 - 1) := by rw [gt_set_ne a0 u0 (by omega), gt_set_eq u0 (by omega)]
        have e3 : ∀ q : Int, 0 ≤ q → q ≠ u.2 → q ≠ u.2 - 1 → gt ((u.1.set u.2.toNat (gt u.1 (u.2 - 1))).set (u.2 - 1).toNat (gt u.1 u.2)) q = gt u.1 q := fun q q0 n1 n2 => by rw [gt_set_ne a0 q0 (by omega), gt_set_ne u0 q0 (by omega)]
        refine Has.chk ⟨a0, a1⟩ (Has.chk ⟨u0, by omega⟩ (Has.letF (Has.ret (.next ⟨a0, by simp only []; omega, by simp [u2], allI_set (allI_set u3 u0 (u3 _ a0 a1)) a0 (u3 _ u0 (by omega)), fun p q p0 pq q1 n1 n2 => ?_, fun q q0 q1 => ?_⟩ (by simp only []; omega)))))
        · simp only [] at n1 n2 ⊢
          by_cases ep : p = u.2
          · rw [ep, e2, e3 q (by omega) (by omega) n2]
            exact u4 (u.2 - 1) q a0 (by omega) q1 (by omega) (by omega)
          · by_cases eq : q = u.2
            · rw [eq, e2, e3 p p0 ep n1]
              exact u4 p (u.2 - 1) p0 (by omega) (by omega) (by omega) (by omega)
            · rw [e3 p p0 ep n1, e3 q (by omega) eq n2]
              exact u4 p q p0 pq q1 ep eq
        · simp only [] at q0 ⊢
          rw [e1]
          by_cases eq : q = u.2
          · rw [eq, e2]; exact hle
          · rw [e3 q (by omega) eq (by omega)]
            exact u5 q (by omega) q1
      · have hb : b = false := by simpa using hb
        by_cases ep : p = u.2
        · rw [ep]; exact u5 q (by omega) q1
        · by_cases eq : q = u.2
          · rcases b2 hb with h | h
            · omega
            · rw [eq]
              by_cases e : p = u.2 - 1
              · rw [e]; exact h
              · exact (u4 p (u.2 - 1) p0 (by omega) (by omega) ep (by omega)).trans h
          · exact u4 p q p0 pq q1 ep eq
  · have hi : ¬ t.2 < xs.length := fun q => hi (decide_eq_true q)
    exact Has.ret (.done ⟨t3, t4, fun p q p0 pq q1 => t5 p q p0 pq (by omega)⟩)
theorem lenAll : ((List.range 13).all fun n => (bits_Len (IntKind.wrap .u64 (n : Int))).isSome) = true := by kernel_rfl
theorem len_ok {n : Nat} (h : n ≤ 12) : ∃ r, bits_Len (IntKind.wrap .u64 (n : Int)) = some r := by
  have := List.all_eq_true.1 lenAll n (List.mem_range.2 (by omega))
  exact Option.isSome_iff_exists.1 this
theorem sortShort_ok {P : curve_Sample → Prop} (hP : ∀ s, P s → okSm s) (xs : List curve_Sample) (hx : allI xs fun _ s => P s) (hl : xs.length ≤ 12) :
    Has (slices_SortFunc_curve_Sample_spykeep4_samples_1_short xs) fun r => r.length = xs.length ∧ (allI r fun _ s => P s) ∧ sortedTo r xs.length := by
  unfold slices_SortFunc_curve_Sample_spykeep4_samples_1_short
  obtain ⟨k, ek⟩ := len_ok hl
  rw [ek]
  simp only [Option.bind_some]
  refine Has.bind (P := fun r : List curve_Sample => r.length = xs.length ∧ (allI r fun _ s => P s) ∧ sortedTo r xs.length) ?_ fun r hr => Has.chk hr.1.symm (Has.ret hr)
  unfold slices_pdqsortCmpFunc_curve_Sample_spykeep4_samples_1
  refine Has.seq (P := fun t : Step Unit (List curve_Sample) => ∃ r : List curve_Sample, t = .done r ∧ r.length = xs.length ∧ (allI r fun _ s => P s) ∧ sortedTo r xs.length) ?_ (fun _ ⟨r, e, _⟩ => nomatch e) (fun o ⟨r, e, h⟩ => by cases e; exact h)
  refine Has.loop (fun _ => True) (fun _ => 0) _ trivial (by decide) fun _ _ => ?_
  unfold slices_pdqsortCmpFunc_curve_Sample_spykeep4_samples_1.l1
  rw [w6_in (n := (xs.length : Int) - 0) (by omega)]
  exact Has.pos (decide_eq_true (by omega)) ((insert_ok hP xs hx (by omega)).bind fun r hr => Has.chk hr.1.symm (Has.ret (.done ⟨r, rfl, hr⟩)))
/-! long rows: the plain twin of the library's sort -/
theorem swoB : Go.Sort.SWO (Go.Proofs.ltOf cmpB) where
  irrefl a := by unfold Go.Proofs.ltOf cmpB cmpS; simp
  trans a b c h1 h2 := by
    unfold Go.Proofs.ltOf cmpB cmpS at *
    simp only [decide_eq_true_eq] at *
    split at h1 <;> split at h2 <;> split <;> omega
  ntrans a b c h1 h2 := by
    unfold Go.Proofs.ltOf cmpB cmpS at *
    simp only [decide_eq_false_iff_not] at *
    split at h1 <;> split at h2 <;> split <;> omega
theorem toB_map : ∀ (l : List curve_Sample), (∀ s ∈ l, bndS s) → (toB l).map (·.1) = l
  | [], _ => rfl
  | s :: l, h => by
    have hs := h s List.mem_cons_self
    unfold toB
    rw [List.filterMap_cons, dif_pos hs]
    show s :: (toB l).map (·.1) = s :: l
    rw [toB_map l fun a ha => h a (List.mem_cons_of_mem _ ha)]
theorem okSm.bnd {s : curve_Sample} (h : okSm s) : bndS s := by
  have a := h.lo; have b := h.hi; have c := h.le
  exact ⟨⟨by omega, by omega⟩, by omega, by omega⟩
theorem sortB_ok {P : curve_Sample → Prop} (hP : ∀ s, P s → okSm s) (xs : List curve_Sample) (hx : ∀ s ∈ xs, P s) : (sortB xs).length = xs.length ∧ (∀ s ∈ sortB xs, P s) ∧ sortedTo (sortB xs) xs.length := by
  have hm := toB_map xs fun s hs => (hP s (hx s hs)).bnd
  have hp := Go.Sort.pdq_sorts (Go.Proofs.ltOf cmpB) swoB (toB xs).toArray 0 (toB xs).toArray.size (Go.Lib.bitLen (toB xs).toArray.size) true true (Nat.zero_le _) (Nat.le_refl _) (Or.inl rfl)
  have hsz : (toB xs).toArray.size = xs.length := by
    have := congrArg List.length hm
    simpa using this
  obtain ⟨⟨p1, _, p3⟩, p4⟩ := hp
  unfold sortB
  generalize Go.Sort.pdq (Go.Proofs.ltOf cmpB) (toB xs).toArray 0 (toB xs).toArray.size (Go.Lib.bitLen (toB xs).toArray.size) true true = d at *
  have hl : (d.toList.map (·.1)).length = xs.length := by simp; omega
  refine ⟨hl, fun s hs => ?_, fun p q p0 pq q1 => ?_⟩
  · obtain ⟨v, hv, rfl⟩ := List.mem_map.1 hs
    have : v ∈ (d.extract 0 (toB xs).toArray.size).toList := by
      rw [← p1]; simpa using hv
    have := (p3.mem_iff).1 this
    have : v ∈ toB xs := by simpa using this
    have : v.1 ∈ (toB xs).map (·.1) := List.mem_map.2 ⟨v, this, rfl⟩
    rw [hm] at this
    exact hx _ this
  · have g : ∀ i : Int, 0 ≤ i → i < xs.length → gt (d.toList.map (·.1)) i = (d[i.toNat]!).1 := fun i i0 i1 => by
      have hi : i.toNat < d.size := by omega
      rw [gt_def _ i ⟨i0, by omega⟩, getElem!_pos d i.toNat hi]
      simp
    rw [g p p0 (by omega), g q (by omega) q1]
    have := p4 p.toNat q.toNat (Nat.zero_le _) (by omega) (by omega)
    unfold Go.Proofs.ltOf cmpB cmpS at this
    simp only [decide_eq_false_iff_not] at this
    unfold leS
    split at this <;> omega
theorem sort_ok {P : curve_Sample → Prop} (hP : ∀ s, P s → okSm s) (xs : List curve_Sample) (hx : allI xs fun _ s => P s) (hl : xs.length ≤ 1000) :
    Has (slices_SortFunc_curve_Sample_spykeep4_samples_1 xs) fun r => r.length = xs.length ∧ (allI r fun _ s => P s) ∧ sortedTo r xs.length := by
  unfold slices_SortFunc_curve_Sample_spykeep4_samples_1
  refine Has.ite (fun h => sortShort_ok hP xs hx h) fun h => Has.chk ⟨fun s hs => (hP s (allI_mem hx s hs)).bnd, by omega⟩ ?_
  obtain ⟨h1, h2, h3⟩ := sortB_ok hP xs (allI_mem hx)
  exact Has.ret ⟨h1, allI_of h2, h3⟩
end Lf
/- Loops of few rounds, round by round. -/
namespace Lf
open Go Go.Abs
set_option linter.unusedVariables false
inductive Run {S O : Type} (body : S → Option (Step S O)) : S → Nat → O → Prop
  | done {s : S} {o : O} : body s = some (.done o) → Run body s 0 o
  | next {s s' : S} {n : Nat} {o : O} : body s = some (.next s') → Run body s' n o → Run body s (n + 1) o
theorem Run.iter {S O : Type} {body : S → Option (Step S O)} : ∀ {n : Nat} {s : S} {o : O}, Run body s n o → ∀ k, n < k → iterF body k s = some o
  | _, _, _, .done h, 0, hk => by omega
  | _, _, _, .done h, k + 1, _ => by unfold iterF; rw [h]
  | _, _, _, .next h r, 0, hk => by omega
  | _, _, _, .next h r, k + 1, hk => by unfold iterF; rw [h]; exact r.iter k (by omega)
theorem Run.ok {S O : Type} {body : S → Option (Step S O)} {n : Nat} {s : S} {o : O} (h : Run body s n o) (hn : n < 10000000000000000000000000000000000000000) : loopF body s = some o := h.iter _ hn
end Lf
/- The curve of a star that is drawn; a curve that can be looked at. -/
namespace Lf
open Go Go.Abs
set_option linter.unusedVariables false
set_option linter.unusedSimpArgs false
/-- The light of a star at a time. -/
def glow (x : Star) (t : Int) : Int := x.Rate + gt x.Wave (phAt x t)
/-- What a sample has seen. -/
def saw (x : Star) (s : curve_Sample) : Prop := ∃ t, s.At.Lo ≤ t ∧ t ≤ s.At.Hi ∧ (s.Light.Unknown = true ∨ (s.Light.Lo ≤ glow x t ∧ glow x t ≤ s.Light.Hi))
theorem samples_ok (s : spymake_Stream) (x : Star) (n : Int) (h : okStar x) (n0 : 0 ≤ n) (n1 : n ≤ 40) (hs : okS s) (ha : s.at_ ≤ 4611686018427000000) :
    Has (spykeep4_samples s x n) fun r => r.2.1 = true ∧ (r.1.length : Int) ≤ n ∧ (∀ a ∈ r.1, okSm a ∧ saw x a) ∧ sortedTo r.1 r.1.length ∧ after s r.2.2 300 := by
  unfold spykeep4_samples
  refine (range_ok s (-5000) 5000 hs (by omega) (by omega) (by omega) (by omega)).bind fun a ⟨a1, a2, a3⟩ => ?_
  have hA := a3.ok hs (by omega); have hh := a3.hi
  rw [w6_in (n := n + 1) (by omega)]
  refine (next_ok a.2 (n + 1) hA (by omega) (by omega)).bind fun b ⟨b1, b2, b3⟩ => ?_
  have hB := b3.ok hA (by omega); have hhb := b3.hi
  refine Has.seq (P := fun t : Step (spymake_Stream × List curve_Sample) (List curve_Sample × Bool × spymake_Stream) => ∃ u l, t = .next (u, l) ∧ (l.length : Int) ≤ n ∧ (∀ a ∈ l, okSm a ∧ saw x a) ∧ after b.2 u 250) ?_ (fun t ⟨u, l, e, e1, e2, e3⟩ => ?_) (fun o ⟨u, l, e, _⟩ => nomatch e)
  · refine Has.loop (fun t : spymake_Stream × List curve_Sample × Int × Int => 0 ≤ t.2.2.2 ∧ t.2.2.2 ≤ b.1 ∧ after b.2 t.1 (6 * t.2.2.2) ∧ (t.2.1.length : Int) = t.2.2.2 ∧ (∀ a ∈ t.2.1, okSm a ∧ saw x a) ∧ -5000 ≤ t.2.2.1 ∧ t.2.2.1 ≤ 5000 + 900 * t.2.2.2) (fun t => (b.1 - t.2.2.2).toNat) _ ⟨Int.le_refl _, b1, after.refl _, rfl, by simp, a1, by simp only []; omega⟩ (by simp only []; omega) fun t ⟨t0, t1, t2, t3, t4, t5, t6⟩ => ?_
    have hT := t2.ok hB (by omega); have hht := t2.hi
    unfold spykeep4_samples.l1
    refine Has.ite (fun hi => ?_) fun hi => ?_
    · have hi : t.2.2.2 < b.1 := of_decide_eq_true hi
      refine (next_ok t.1 900 hT (by omega) (by omega)).bind fun c ⟨c1, c2, c3⟩ => ?_
      have hC := c3.ok hT (by omega); have hhc := c3.hi
      rw [w6_in (n := t.2.2.1 + c.1) (by omega)]
      generalize hz : t.2.2.1 + c.1 = z at *
      have er := rate_ok h (t := z) (by omega) (by omega)
      obtain ⟨_, q0, q1⟩ := shines_ok h (t := z) (by omega) (by omega)
      have hq := h.w _ (gt_mem x.Wave (phAt x z) ⟨q0, q1⟩)
      have r0 := h.r0; have r1 := h.r1
      have eg : x.Rate + gt x.Wave (phAt x z) = glow x z := rfl
      unfold skyOf at er
      rw [er, eg]
      have g0 : 0 ≤ glow x z := by rw [← eg]; omega
      have g1 : glow x z ≤ 1400 := by rw [← eg]; omega
      simp only [Option.bind_some, bne_self_eq_false, Bool.false_eq_true, if_false]
      refine (next_ok c.2 2 hC (by omega) (by omega)).bind fun d ⟨d1, d2, d3⟩ => ?_
      have hD := d3.ok hC (by omega); have hhd := d3.hi
      refine (next_ok d.2 40 hD (by omega) (by omega)).bind fun e ⟨e1, e2, e3⟩ => ?_
      have hE := e3.ok hD (by omega); have hhe := e3.hi
      refine (next_ok e.2 30 hE (by omega) (by omega)).bind fun f ⟨f1, f2, f3⟩ => ?_
      have hF := f3.ok hE (by omega); have hhf := f3.hi
      refine (next_ok f.2 30 hF (by omega) (by omega)).bind fun g ⟨g1', g2, g3⟩ => ?_
      have hG := g3.ok hF (by omega); have hhg := g3.hi
      refine (next_ok g.2 12 hG (by omega) (by omega)).bind fun k ⟨k1, k2, k3⟩ => ?_
      have af := ((((((t2.trans c3).trans d3).trans e3).trans f3).trans g3).trans k3)
      have hm : 0 ≤ d.1 * e.1 ∧ d.1 * e.1 ≤ 39 := by
        have : d.1 = 0 ∨ d.1 = 1 := by omega
        rcases this with q | q <;> rw [q] <;> omega
      generalize d.1 * e.1 = wide at *
      have ht : 0 ≤ Int.tdiv wide 2 ∧ Int.tdiv wide 2 ≤ 39 := by rw [Int.tdiv_eq_ediv_of_nonneg hm.1]; omega
      rw [w6_in (n := wide) (by omega)]
      generalize Int.tdiv wide 2 = half at *
      rw [w6_in (n := half) (by omega), w6_in (n := z - wide) (by omega), w6_in (n := z + half) (by omega), w6_in (n := glow x z - f.1) (by omega), w6_in (n := glow x z + g.1) (by omega), w6_in (n := t.2.2.2 + 1) (by omega)]
      have mk : ∀ L : Bound, L.ok → (L.Unknown = true ∨ (L.Lo ≤ glow x z ∧ glow x z ≤ L.Hi)) → okSm ⟨⟨z - wide, z + half, false⟩, L⟩ ∧ saw x ⟨⟨z - wide, z + half, false⟩, L⟩ := fun L l1 l2 =>
        ⟨⟨okKnown (by omega) (by omega) (by omega), rfl, by simp only []; omega, by simp only []; omega, l1⟩, z, by simp only []; omega, by simp only []; omega, l2⟩
      have fin : ∀ L : Bound, L.ok → (L.Unknown = true ∨ (L.Lo ≤ glow x z ∧ glow x z ≤ L.Hi)) → ∀ a ∈ t.2.1 ++ [(⟨⟨z - wide, z + half, false⟩, L⟩ : curve_Sample)], okSm a ∧ saw x a := fun L l1 l2 a ha => by
        rcases List.mem_append.1 ha with q | q
        · exact t4 a q
        · simp at q; rw [q]; exact mk L l1 l2
      refine Has.ite (fun _ => Has.letF (Has.chk (roomyI (by simp; omega) (by simp; omega)) (Has.ret (.next ⟨by simp only []; omega, by simp only []; omega, af.more (by simp only []; omega), by simp; omega, fin _ okNone (.inl rfl), by simp only []; omega, by simp only []; omega⟩ (by simp only []; omega))))) fun _ => Has.letF (Has.chk (roomyI (by simp; omega) (by simp; omega)) (Has.ret (.next ⟨by simp only []; omega, by simp only []; omega, af.more (by simp only []; omega), by simp; omega, fin _ (okKnown (by omega) (by omega) (by omega)) (.inr ⟨by simp only []; omega, by simp only []; omega⟩), by simp only []; omega, by simp only []; omega⟩ (by simp only []; omega))))
    · have hi : ¬ t.2.2.2 < b.1 := fun q => hi (decide_eq_true q)
      exact Has.ret (.done ⟨_, _, rfl, by omega, t4, t2.more (by omega)⟩)
  · cases e
    refine (sort_ok (P := fun a => okSm a ∧ saw x a) (fun a h => h.1) l (allI_of e2) (by omega)).bind fun r ⟨r1, r2, r3⟩ => Has.chk r1.symm (Has.ret ⟨rfl, by simp only []; omega, allI_mem r2, by rw [← r1] at r3; exact r3, ((a3.trans b3).trans e3).more (by omega)⟩)
theorem or2_ok (a b : Int) : cmp_Or [a, b] = some (if a ≠ 0 then a else b) := by
  unfold cmp_Or
  by_cases ha : a = 0
  · subst ha
    by_cases hb : b = 0
    · subst hb
      rw [(Run.next (s' := 1) (by rfl) (Run.next (s' := 2) (by rfl) (Run.done (by rfl))) : Run (cmp_Or.l1 [0, 0]) 0 2 (Step.next ())).ok (by decide)]; rfl
    · have e : cmp_Or.l1 [0, b] 1 = some (.done (.done b)) := by
        unfold cmp_Or.l1
        have g : gt ([0, b] : List Int) 1 = b := rfl
        rw [g]; simp [hb]
      rw [(Run.next (s' := 1) (by rfl) (Run.done e) : Run (cmp_Or.l1 [0, b]) 0 1 (Step.done b)).ok (by decide)]; rfl
  · have e : cmp_Or.l1 [a, b] 0 = some (.done (.done a)) := by
      unfold cmp_Or.l1
      have g : gt ([a, b] : List Int) 0 = a := rfl
      rw [g]; simp [ha]
    rw [(Run.done e : Run (cmp_Or.l1 [a, b]) 0 0 (Step.done a)).ok (by decide), if_pos ha]; rfl
theorem compare_ok (a b : Int) : cmp_Compare a b = some (if a < b then -1 else if b < a then 1 else 0) := by
  unfold cmp_Compare cmp_isNaN
  simp only [Option.bind_some, bne_self_eq_false, Bool.false_eq_true, if_false, gt_iff_lt, decide_eq_true_eq]
  split
  · rfl
  · split <;> rfl
theorem order_ok {a b : curve_Sample} (h : leS a b) : Has (curve_order a b) fun r => ¬ r > 0 := by
  unfold curve_order
  rw [compare_ok, compare_ok]
  simp only [Option.bind_some]
  rw [or2_ok]
  refine Has.ret ?_
  unfold leS at h
  by_cases h1 : a.At.Lo < b.At.Lo
  · rw [if_pos h1, if_pos (by decide)]; decide
  · have e : a.At.Lo = b.At.Lo := by omega
    rw [if_neg h1, if_neg (show ¬ b.At.Lo < a.At.Lo by omega), if_neg (show ¬ ((0 : Int) ≠ 0) from fun q => q rfl)]
    by_cases h2 : a.At.Hi < b.At.Hi
    · rw [if_pos h2]; decide
    · rw [if_neg h2, if_neg (by omega)]; decide
/-- A curve as it is made. -/
structure okC (l : List curve_Sample) : Prop where
  n : l.length ≤ 64
  s : ∀ a ∈ l, okSm a
  o : sortedTo l l.length
theorem curve_ok {l : List curve_Sample} (h : okC l) : curve_Check l = some 0 := by
  have hn := h.n
  apply Has.val
  unfold curve_Check
  refine Has.neg (by simp; omega) (Has.seq (P := fun t : Step Unit Int => t = .next ()) ?_ (fun _ _ => Has.ret rfl) (fun o ho => by cases ho))
  refine Has.loop (fun i : Int => 0 ≤ i ∧ i ≤ l.length) (fun i => (l.length - i).toNat) _ ⟨Int.le_refl _, by omega⟩ (by omega) fun i ⟨i0, i1⟩ => ?_
  unfold curve_Check.l1
  refine Has.ite (fun hi => ?_) fun hi => Has.ret (.done rfl)
  have hi : i < l.length := of_decide_eq_true hi
  have ok := h.s _ (gt_mem l i ⟨i0, hi⟩)
  have a1 := ok.lo; have a2 := ok.hi; have a3 := ok.le
  rw [check_ok ok.a, check_ok ok.l, ok.u]
  simp only [Option.bind_some]
  rw [or2_ok]
  have g1 : decide ((gt l i).At.Lo < -17592186044416) = false := decide_eq_false (by omega)
  have g2 : decide ((gt l i).At.Hi > 17592186044416) = false := decide_eq_false (by omega)
  simp only [ne_eq, not_true_eq_false, if_false, Option.bind_some, bne_self_eq_false, Bool.false_eq_true, g1, g2]
  refine Has.chk ⟨i0, hi⟩ (Has.bind (P := fun b : Bool => b = false) (Has.ite (fun h0 => ?_) fun _ => Has.ret rfl) fun b hb => Has.neg (by rw [hb]; simp) ?_)
  · have h0 : i > 0 := of_decide_eq_true h0
    rw [w6_in (n := i - 1) (by omega)]
    refine Has.chk ⟨by omega, by omega⟩ ((order_ok (h.o (i - 1) i (by omega) (by omega) hi)).bind fun r hr => Has.ret (decide_eq_false hr))
  · rw [w6_in (n := i + 1) (by omega)]
    exact Has.ret (.next ⟨by omega, by omega⟩ (by omega))
end Lf
/- The phases of a curve's samples, and its rows. -/
namespace Lf
open Go Go.Abs
set_option linter.unusedVariables false
set_option linter.unusedSimpArgs false
theorem tmod_pos {a b : Int} (hb : 0 < b) : (Int.tmod a b < 0 → Int.tmod a b + b = a % b ∧ Int.tdiv a b - 1 = a / b) ∧ (¬ Int.tmod a b < 0 → Int.tmod a b = a % b ∧ Int.tdiv a b = a / b) := by
  have e1 := Int.emod_add_mul_ediv a b
  have e2 := Int.tmod_add_mul_tdiv a b
  have m0 := Int.emod_nonneg a (b := b) (by omega)
  have m1 := Int.emod_lt_of_pos a hb
  have t1 : Int.tmod a b < b := Int.tmod_lt_of_pos a hb
  have t2 : -b < Int.tmod a b := by
    have := Int.tmod_lt_of_pos (-a) hb
    rw [Int.neg_tmod] at this; omega
  have d : b * (Int.tdiv a b - a / b) = a % b - Int.tmod a b := by rw [Int.mul_sub]; omega
  generalize hq : Int.tdiv a b - a / b = q at d
  have hq0 : q = 0 ∨ q = 1 := by
    rcases Int.lt_or_le q 0 with h | h
    · exfalso
      have : b * q ≤ b * (-1) := Int.mul_le_mul_of_nonneg_left (by omega) (by omega)
      omega
    · rcases Int.lt_or_le q 2 with h2 | h2
      · omega
      · exfalso
        have : b * 2 ≤ b * q := Int.mul_le_mul_of_nonneg_left h2 (by omega)
        omega
  rcases hq0 with e | e <;> rw [e] at d <;> constructor <;> intro h <;> constructor <;> omega
theorem floorDiv_ok {a b : Int} (hb : 1 ≤ b) (ha : -4611686018427387904 ≤ a ∧ a ≤ 4611686018427387904) : num_FloorDiv a b = some (a / b) := by
  obtain ⟨h1, h2⟩ := tmod_pos (a := a) (b := b) (by omega)
  have l1 : -4611686018427387904 ≤ Int.tdiv a b ∧ Int.tdiv a b ≤ 4611686018427387904 := by
    have := Int.natAbs_tdiv_le_natAbs a b
    omega
  unfold num_FloorDiv
  rw [if_neg (by simp; omega), if_pos (by omega), w6_in (n := Int.tdiv a b) (by omega), w6_in (n := Int.tdiv a b - 1) (by omega)]
  by_cases h : Int.tmod a b < 0
  · rw [if_pos (decide_eq_true h), (h1 h).2]
  · rw [if_neg (fun q => h (of_decide_eq_true q)), (h2 h).2]
theorem mod_ok {a b : Int} (hb : 1 ≤ b) (hb2 : b ≤ 4611686018427387904) : num_Mod a b = some (a % b) := by
  obtain ⟨h1, h2⟩ := tmod_pos (a := a) (b := b) (by omega)
  have m0 := Int.emod_nonneg a (b := b) (by omega)
  have m1 := Int.emod_lt_of_pos a (b := b) (by omega)
  unfold num_Mod
  rw [if_neg (by simp; omega), if_pos (by omega)]
  by_cases h : Int.tmod a b < 0
  · rw [if_pos (decide_eq_true h), (h1 h).1, w6_in (by omega)]
  · rw [if_neg (fun q => h (of_decide_eq_true q)), (h2 h).1]
/-- What is asked of a period. -/
structure okP (p k : Int) : Prop where
  p0 : 1 ≤ p
  p1 : p ≤ 17592186044416
  k0 : 1 ≤ k
  k1 : k ≤ 16
  d : p % k = 0
theorem okP.n {p k : Int} (h : okP p k) : 1 ≤ p / k ∧ p / k ≤ 17592186044416 ∧ p = k * (p / k) := by
  have e := Int.emod_add_mul_ediv p k
  rw [h.d, Int.zero_add] at e
  have k0 := h.k0; have k1 := h.k1; have p0 := h.p0; have p1 := h.p1
  refine ⟨?_, ?_, e.symm⟩
  · rcases Int.lt_or_le 0 (p / k) with q | q
    · omega
    · exfalso
      have : k * (p / k) ≤ k * 0 := Int.mul_le_mul_of_nonneg_left q (by omega)
      omega
  · have := Int.ediv_le_self k (show 0 ≤ p by omega)
    omega
/-- The phase that a sample surely lies in. -/
def phF (p k : Int) (s : curve_Sample) : Int × Bool := if s.At.Lo / (p / k) ≠ s.At.Hi / (p / k) ∧ k > 1 then (0, false) else ((s.At.Lo / (p / k)) % k, true)
theorem phase_ok {p k : Int} (h : okP p k) {s : curve_Sample} (hs : okSm s) : curve_Phase s.At p k = some (phF p k s) := by
  obtain ⟨n0, n1, n2⟩ := h.n
  have k0 := h.k0; have k1 := h.k1; have p0 := h.p0; have p1 := h.p1
  have a1 := hs.lo; have a2 := hs.hi; have a3 := hs.le
  unfold curve_Phase
  rw [check_ok hs.a, hs.u]
  have g1 : decide (k < 1) = false := decide_eq_false (by omega)
  have g2 : decide (k > 16) = false := decide_eq_false (by omega)
  have g3 : decide (p < 1) = false := decide_eq_false (by omega)
  have g4 : k ≠ 0 := by omega
  have g5 : Int.tmod p k = 0 := by rw [n2]; exact Int.mul_tmod_right _ _
  have g6 : Int.tdiv p k = p / k := Int.tdiv_eq_ediv_of_nonneg (by omega)
  simp only [Option.bind_some, bne_self_eq_false, Bool.false_eq_true, if_false, g1, g2, g3, g5]
  rw [if_pos g4]
  simp only [Option.bind_some, Bool.false_eq_true, if_false]
  rw [if_pos g4, g6, w6_in (n := p / k) (by omega), floorDiv_ok n0 (by omega), floorDiv_ok n0 (by omega)]
  simp only [Option.bind_some]
  rw [mod_ok k0 (by omega)]
  by_cases e : s.At.Lo / (p / k) = s.At.Hi / (p / k)
  · have ep : phF p k s = ((s.At.Lo / (p / k)) % k, true) := by unfold phF; rw [if_neg (fun q => q.1 e)]
    rw [ep, e]; simp
  · by_cases e2 : k > 1
    · have ep : phF p k s = (0, false) := by unfold phF; rw [if_pos ⟨e, e2⟩]
      rw [ep]; simp [e, e2]
    · have ep : phF p k s = ((s.At.Lo / (p / k)) % k, true) := by unfold phF; rw [if_neg (fun q => e2 q.2)]
      rw [ep]; simp [e, e2]
theorem phF_lt {p k : Int} (h : okP p k) (s : curve_Sample) : (phF p k s).2 = true → 0 ≤ (phF p k s).1 ∧ (phF p k s).1 < k := by
  have k0 := h.k0
  unfold phF
  split
  · intro e; cases e
  · intro _
    exact ⟨Int.emod_nonneg _ (by omega), Int.emod_lt_of_pos _ (by omega)⟩
/-- The places of the samples of a row, from a place on. -/
def rowIdx (p k : Int) : List curve_Sample → Int → Int → List Int
  | [], _, _ => []
  | s :: l, i, j => (if phF p k s = (j, true) then [i] else []) ++ rowIdx p k l (i + 1) j
theorem rowIdx_mem (p k : Int) : ∀ (l : List curve_Sample) (i j x : Int), x ∈ rowIdx p k l i j ↔ i ≤ x ∧ x < i + l.length ∧ phF p k (gt l (x - i)) = (j, true)
  | [], i, j, x => by simp [rowIdx]; omega
  | s :: l, i, j, x => by
    rw [rowIdx, List.mem_append, rowIdx_mem p k l (i + 1) j x]
    simp only [List.length_cons]
    have g0 : gt (s :: l) 0 = s := rfl
    have gs : ∀ y : Int, 1 ≤ y → gt (s :: l) y = gt l (y - 1) := fun y hy => by
      unfold gt
      rw [show y.toNat = (y - 1).toNat + 1 by omega]; rfl
    constructor
    · rintro (h | ⟨h1, h2, h3⟩)
      · split at h
        · simp at h; subst h
          refine ⟨Int.le_refl _, by omega, ?_⟩
          rw [Int.sub_self, g0]; assumption
        · simp at h
      · refine ⟨by omega, by omega, ?_⟩
        rw [gs _ (by omega), show x - i - 1 = x - (i + 1) by omega]; exact h3
    · rintro ⟨h1, h2, h3⟩
      by_cases e : x = i
      · subst e
        rw [Int.sub_self, g0] at h3
        left; rw [if_pos h3]; simp
      · right
        refine ⟨by omega, by omega, ?_⟩
        rw [gs _ (by omega), show x - i - 1 = x - (i + 1) by omega] at h3; exact h3
theorem rowIdx_lt (p k : Int) : ∀ (l : List curve_Sample) (i j : Int), (rowIdx p k l i j).Pairwise (· < ·)
  | [], i, j => List.Pairwise.nil
  | s :: l, i, j => by
    rw [rowIdx]
    split
    · rw [List.singleton_append, List.pairwise_cons]
      exact ⟨fun x hx => by have := ((rowIdx_mem p k l (i + 1) j x).1 hx).1; omega, rowIdx_lt p k l (i + 1) j⟩
    · rw [List.nil_append]; exact rowIdx_lt p k l (i + 1) j
/-- Rows as they stand behind Fold. -/
structure okRows (l : List curve_Sample) (p k : Int) (R : List (List Int)) : Prop where
  n : (R.length : Int) = k
  row : ∀ j : Int, 0 ≤ j → j < k → gt R j = rowIdx p k l 0 j
theorem foldL_ok {p k : Int} (h : okP p k) : ∀ (l : List curve_Sample) (i : Int) (rows : List (List Int)), (∀ s ∈ l, okSm s) → (rows.length : Int) = k →
    ∃ R, curve_FoldL p k l i rows = some R ∧ (R.length : Int) = k ∧ ∀ j : Int, 0 ≤ j → j < k → gt R j = gt rows j ++ rowIdx p k l i j
  | [], i, rows, hl, hn => ⟨rows, rfl, hn, fun j _ _ => by simp [rowIdx]⟩
  | s :: l, i, rows, hl, hn => by
    rw [curve_FoldL, phase_ok h (hl s List.mem_cons_self)]
    simp only [Option.bind_some]
    by_cases hp : (phF p k s).2 = true
    · obtain ⟨q0, q1⟩ := phF_lt h s hp
      rw [if_pos hp, if_pos ⟨q0, by omega⟩]
      obtain ⟨R, e, hR, hr⟩ := foldL_ok h l (i + 1) (rows.set (phF p k s).1.toNat (gt rows (phF p k s).1 ++ [i])) (fun a ha => hl a (List.mem_cons_of_mem _ ha)) (by simp [hn])
      refine ⟨R, e, hR, fun j j0 j1 => ?_⟩
      rw [hr j j0 j1, rowIdx]
      by_cases ej : (phF p k s).1 = j
      · rw [ej, gt_set_eq j0 (by omega), if_pos (Prod.ext ej hp), List.append_assoc]
      · rw [gt_set_ne q0 j0 ej, if_neg (fun q => ej (congrArg Prod.fst q)), List.nil_append]
    · rw [if_neg hp]
      obtain ⟨R, e, hR, hr⟩ := foldL_ok h l (i + 1) rows (fun a ha => hl a (List.mem_cons_of_mem _ ha)) hn
      refine ⟨R, e, hR, fun j j0 j1 => ?_⟩
      rw [hr j j0 j1, rowIdx, if_neg (fun q => hp (congrArg Prod.snd q)), List.nil_append]
theorem fold_ok {p k : Int} (h : okP p k) {l : List curve_Sample} (hl : okC l) : ∃ R, curve_Fold l p k = some (R, 0) ∧ okRows l p k R := by
  obtain ⟨n0, n1, n2⟩ := h.n
  have k0 := h.k0
  obtain ⟨R, e, hR, hr⟩ := foldL_ok h l 0 (List.replicate k.toNat []) hl.s (by simp; omega)
  refine ⟨R, ?_, hR, fun j j0 j1 => ?_⟩
  · unfold curve_Fold
    rw [curve_ok hl]
    simp only [Option.bind_some, if_true]
    rw [if_pos ⟨hl.n, h.k0, h.k1, h.p0, h.p1, by rw [n2]; exact Int.mul_tmod_right _ _⟩, e]
    rfl
  · rw [hr j j0 j1, gt_rep j0 (by omega)]; rfl
theorem okRows.mem {l : List curve_Sample} {p k : Int} {R : List (List Int)} (h : okRows l p k R) {j x : Int} (j0 : 0 ≤ j) (j1 : j < k) : x ∈ gt R j ↔ 0 ≤ x ∧ x < l.length ∧ phF p k (gt l x) = (j, true) := by
  rw [h.row j j0 j1, rowIdx_mem]
  simp
theorem okRows.lt {l : List curve_Sample} {p k : Int} {R : List (List Int)} (h : okRows l p k R) {j : Int} (j0 : 0 ≤ j) (j1 : j < k) : (gt R j).Pairwise (· < ·) := by
  rw [h.row j j0 j1]; exact rowIdx_lt p k l 0 j
end Lf
/- The table of a curve: what all samples of a row admit. -/
namespace Lf
open Go Go.Abs
set_option linter.unusedVariables false
set_option linter.unusedSimpArgs false
def meets (a b : Bound) : Prop := a.Unknown = true ∨ b.Unknown = true ∨ (a.Lo ≤ b.Hi ∧ b.Lo ≤ a.Hi)
theorem meet_ok {a b : Bound} (ha : a.ok) (hb : b.ok) : Has (bound_Meet a b) fun r => (r.2 = true ↔ meets a b) ∧ (r.2 = true → r.1.ok ∧ (a.Unknown = true → r.1 = b) ∧ (a.Unknown = false → b.Unknown = true → r.1 = a) ∧ (a.Unknown = false → b.Unknown = false → r.1 = ⟨max a.Lo b.Lo, min a.Hi b.Hi, false⟩)) := by
  unfold bound_Meet meets
  rw [norm_ok ha, norm_ok hb]
  simp only [Option.bind_some]
  refine Has.ite (fun ua => Has.ret ⟨⟨fun _ => .inl ua, fun _ => rfl⟩, fun _ => ⟨hb, fun _ => rfl, fun e => (by rw [ua] at e; cases e), fun e => (by rw [ua] at e; cases e)⟩⟩) fun ua => ?_
  have ua' : a.Unknown = false := by simpa using ua
  refine Has.ite (fun ub => Has.ret ⟨⟨fun _ => .inr (.inl ub), fun _ => rfl⟩, fun _ => ⟨ha, fun e => absurd e ua, fun _ _ => rfl, fun _ e => (by rw [ub] at e; cases e)⟩⟩) fun ub => ?_
  have ub' : b.Unknown = false := by simpa using ub
  have a1 := ha.lo; have a2 := ha.hi; have a3 := ha.le; have b1 := hb.lo; have b2 := hb.hi; have b3 := hb.le
  rw [mx2_max, mn2_min]
  refine Has.ite (fun h => Has.ret ⟨⟨(fun e => nomatch e), fun h' => ?_⟩, (fun e => nomatch e)⟩) fun h => ?_
  · have h : max a.Lo b.Lo > min a.Hi b.Hi := of_decide_eq_true h
    rcases h' with h' | h' | h'
    · exact absurd h' ua
    · exact absurd h' ub
    · omega
  · have h : ¬ max a.Lo b.Lo > min a.Hi b.Hi := fun q => h (decide_eq_true q)
    rw [of_ok (by omega) (by omega) (by omega)]
    exact Has.ret ⟨⟨fun _ => .inr (.inr ⟨by omega, by omega⟩), fun _ => rfl⟩, fun _ => ⟨okKnown (by omega) (by omega) (by omega), fun e => absurd e ua, fun _ e => absurd e ub, fun _ _ => rfl⟩⟩
def lightAt (l : List curve_Sample) (i : Int) : Bound := (gt l i).Light
/-- All pairs of a row meet. -/
def goodRow (l : List curve_Sample) (row : List Int) : Prop := ∀ q m : Int, 0 ≤ q → q < m → m < row.length → meets (lightAt l (gt row q)) (lightAt l (gt row m))
/-- What all of the first ones of a row admit. -/
structure hull (l : List curve_Sample) (row : List Int) (n : Int) (b : Bound) : Prop where
  ok : b.ok
  u : b.Unknown = true → ∀ q : Int, 0 ≤ q → q < n → (lightAt l (gt row q)).Unknown = true
  in_ : b.Unknown = false → ∀ q : Int, 0 ≤ q → q < n → (lightAt l (gt row q)).Unknown = false → (lightAt l (gt row q)).Lo ≤ b.Lo ∧ b.Hi ≤ (lightAt l (gt row q)).Hi
  lo : b.Unknown = false → ∃ q : Int, 0 ≤ q ∧ q < n ∧ (lightAt l (gt row q)).Unknown = false ∧ (lightAt l (gt row q)).Lo = b.Lo
  hi : b.Unknown = false → ∃ q : Int, 0 ≤ q ∧ q < n ∧ (lightAt l (gt row q)).Unknown = false ∧ (lightAt l (gt row q)).Hi = b.Hi
  pair : ∀ q m : Int, 0 ≤ q → q < m → m < n → meets (lightAt l (gt row q)) (lightAt l (gt row m))
theorem hull.none (l : List curve_Sample) (row : List Int) : hull l row 0 ⟨0, 0, true⟩ :=
  ⟨okNone, fun _ q q0 q1 => by omega, (fun e => nomatch e), (fun e => nomatch e), (fun e => nomatch e), fun q m q0 q1 q2 => by omega⟩
theorem hull.bad {l : List curve_Sample} {row : List Int} {n : Int} {b : Bound} (h : hull l row n b) (hl : (lightAt l (gt row n)).ok) (hm : ¬ meets b (lightAt l (gt row n))) : ∃ q : Int, 0 ≤ q ∧ q < n ∧ ¬ meets (lightAt l (gt row q)) (lightAt l (gt row n)) := by
  have le := hl.le; have be := h.ok.le
  unfold meets at *
  have ub : b.Unknown = false := by cases e : b.Unknown with
    | false => rfl
    | true => exact absurd (.inl e) hm
  have uc : (lightAt l (gt row n)).Unknown = false := by cases e : (lightAt l (gt row n)).Unknown with
    | false => rfl
    | true => exact absurd (.inr (.inl e)) hm
  have h3 : ¬ (b.Lo ≤ (lightAt l (gt row n)).Hi ∧ (lightAt l (gt row n)).Lo ≤ b.Hi) := fun q => hm (.inr (.inr q))
  by_cases h4 : b.Lo ≤ (lightAt l (gt row n)).Hi
  · obtain ⟨q, q0, q1, q2, q3⟩ := h.hi ub
    refine ⟨q, q0, q1, fun hq => ?_⟩
    rcases hq with e | e | e
    · rw [q2] at e; cases e
    · rw [uc] at e; cases e
    · omega
  · obtain ⟨q, q0, q1, q2, q3⟩ := h.lo ub
    refine ⟨q, q0, q1, fun hq => ?_⟩
    rcases hq with e | e | e
    · rw [q2] at e; cases e
    · rw [uc] at e; cases e
    · omega
theorem hull.step {l : List curve_Sample} {row : List Int} {n : Int} {b r : Bound} (h : hull l row n b) (hl : (lightAt l (gt row n)).ok) (n0 : 0 ≤ n) (hm : meets b (lightAt l (gt row n))) (hr : r.ok) (r1 : b.Unknown = true → r = lightAt l (gt row n)) (r2 : b.Unknown = false → (lightAt l (gt row n)).Unknown = true → r = b)
    (r3 : b.Unknown = false → (lightAt l (gt row n)).Unknown = false → r = ⟨max b.Lo (lightAt l (gt row n)).Lo, min b.Hi (lightAt l (gt row n)).Hi, false⟩) : hull l row (n + 1) r := by
  have le := hl.le; have be := h.ok.le
  -- a new pair
  have newp : ∀ q : Int, 0 ≤ q → q < n → meets (lightAt l (gt row q)) (lightAt l (gt row n)) := fun q q0 q1 => by
    unfold meets at *
    cases e : (lightAt l (gt row q)).Unknown with
    | true => exact .inl rfl
    | false =>
      have ub : b.Unknown = false := by cases e2 : b.Unknown with
        | false => rfl
        | true => rw [h.u e2 q q0 q1] at e; cases e
      obtain ⟨i1, i2⟩ := h.in_ ub q q0 q1 e
      rcases hm with e2 | e2 | e2
      · rw [ub] at e2; cases e2
      · exact .inr (.inl e2)
      · exact .inr (.inr ⟨by omega, by omega⟩)
  have pair : ∀ q m : Int, 0 ≤ q → q < m → m < n + 1 → meets (lightAt l (gt row q)) (lightAt l (gt row m)) := fun q m q0 q1 q2 => by
    by_cases e : m = n
    · rw [e]; exact newp q q0 (by omega)
    · exact h.pair q m q0 q1 (by omega)
  cases ub : b.Unknown with
  | true =>
    have er := r1 ub
    subst er
    refine ⟨hr, fun e q q0 q1 => ?_, fun e q q0 q1 e2 => ?_, fun e => ⟨n, n0, by omega, e, rfl⟩, fun e => ⟨n, n0, by omega, e, rfl⟩, pair⟩
    · by_cases eq : q = n
      · rw [eq]; exact e
      · exact h.u ub q q0 (by omega)
    · by_cases eq : q = n
      · rw [eq]; exact ⟨Int.le_refl _, Int.le_refl _⟩
      · rw [h.u ub q q0 (by omega)] at e2; cases e2
  | false =>
    cases uc : (lightAt l (gt row n)).Unknown with
    | true =>
      have er := r2 ub uc
      subst er
      refine ⟨hr, fun e => (by rw [ub] at e; cases e), fun e q q0 q1 e2 => ?_, fun e => ?_, fun e => ?_, pair⟩
      · by_cases eq : q = n
        · rw [eq, uc] at e2; cases e2
        · exact h.in_ ub q q0 (by omega) e2
      · obtain ⟨q, q0, q1, q2, q3⟩ := h.lo ub; exact ⟨q, q0, by omega, q2, q3⟩
      · obtain ⟨q, q0, q1, q2, q3⟩ := h.hi ub; exact ⟨q, q0, by omega, q2, q3⟩
    | false =>
      have er := r3 ub uc
      subst er
      refine ⟨hr, (fun e => nomatch e), fun _ q q0 q1 e2 => ?_, fun _ => ?_, fun _ => ?_, pair⟩
      · simp only []
        by_cases eq : q = n
        · rw [eq]; omega
        · have := h.in_ ub q q0 (by omega) e2; omega
      · simp only []
        obtain ⟨q, q0, q1, q2, q3⟩ := h.lo ub
        by_cases c : (lightAt l (gt row n)).Lo ≤ b.Lo
        · exact ⟨q, q0, by omega, q2, by omega⟩
        · exact ⟨n, n0, by omega, uc, by omega⟩
      · simp only []
        obtain ⟨q, q0, q1, q2, q3⟩ := h.hi ub
        by_cases c : b.Hi ≤ (lightAt l (gt row n)).Hi
        · exact ⟨q, q0, by omega, q2, by omega⟩
        · exact ⟨n, n0, by omega, uc, by omega⟩
/-- All rows are good. -/
def goodAll (l : List curve_Sample) (R : List (List Int)) : Prop := ∀ j : Int, 0 ≤ j → j < R.length → goodRow l (gt R j)
theorem table_ok {p k : Int} (h : okP p k) {l : List curve_Sample} (hl : okC l) {R : List (List Int)} (hR : okRows l p k R) (eR : curve_Fold l p k = some (R, 0)) :
    Has (curve_Table l p k) fun r => (r.2 = 0 ∨ r.2 = 15) ∧ (r.2 = 0 → goodAll l R ∧ (r.1.length : Int) = k ∧ ∀ j : Int, 0 ≤ j → j < k → hull l (gt R j) (gt R j).length (gt r.1 j)) ∧ (r.2 = 15 → ¬ goodAll l R) := by
  have hn := hR.n; have k0 := h.k0; have k1 := h.k1; have ln := hl.n
  unfold curve_Table
  rw [eR]
  simp only [Option.bind_some, bne_self_eq_false, Bool.false_eq_true, if_false]
  refine Has.seq (P := fun t : Step (List Bound) (List Bound × Int) => (∃ o, t = .next o ∧ goodAll l R ∧ (o.length : Int) = k ∧ ∀ j : Int, 0 ≤ j → j < k → hull l (gt R j) (gt R j).length (gt o j)) ∨ (t = .done ([], 15) ∧ ¬ goodAll l R)) ?_ (fun t ht => ?_) (fun o ho => ?_)
  · refine Has.loop (fun t : List Bound × Int => 0 ≤ t.2 ∧ t.2 ≤ R.length ∧ (t.1.length : Int) = t.2 ∧ ∀ j : Int, 0 ≤ j → j < t.2 → hull l (gt R j) (gt R j).length (gt t.1 j)) (fun t => (R.length - t.2).toNat) _ ⟨Int.le_refl _, by simp only []; omega, rfl, fun j j0 j1 => by simp only [] at j1; omega⟩ (by simp only []; omega) fun t ⟨t0, t1, t2, t3⟩ => ?_
    unfold curve_Table.l1
    refine Has.ite (fun hi => ?_) fun hi => ?_
    · have hi : t.2 < R.length := of_decide_eq_true hi
      have rl : (gt R t.2).length ≤ 64 := by
        rw [hR.row t.2 t0 (by omega)]
        have key : ∀ (l : List curve_Sample) (i j : Int), (rowIdx p k l i j).length ≤ l.length := by
          intro l
          induction l with
          | nil => intro i j; simp [rowIdx]
          | cons s l ih => intro i j; rw [rowIdx, List.length_append]; have := ih (i + 1) j; split <;> simp <;> omega
        have := key l 0 t.2; omega
      rw [none_ok]
      simp only [Option.bind_some]
      refine Has.chk ⟨t0, hi⟩ (Has.seq (P := fun u : Step Bound (Step (List Bound × Int) (Step (List Bound) (List Bound × Int))) => (∃ b, u = .next b ∧ hull l (gt R t.2) (gt R t.2).length b) ∨ (u = .done (.done (.done ([], 15))) ∧ ¬ goodAll l R)) ?_ (fun b hb => ?_) (fun o ho => ?_))
      · refine Has.loop (fun u : Bound × Int => 0 ≤ u.2 ∧ u.2 ≤ (gt R t.2).length ∧ hull l (gt R t.2) u.2 u.1) (fun u => ((gt R t.2).length - u.2).toNat) _ ⟨Int.le_refl _, by simp only []; omega, hull.none l _⟩ (by simp only []; omega) fun u ⟨u0, u1, u2⟩ => ?_
        unfold curve_Table.l2
        refine Has.ite (fun hu => ?_) fun hu => ?_
        · have hu : u.2 < (gt R t.2).length := of_decide_eq_true hu
          obtain ⟨m0, m1, m2⟩ := (hR.mem t0 (by omega)).1 (gt_mem (gt R t.2) u.2 ⟨u0, hu⟩)
          have sok := hl.s _ (gt_mem l _ ⟨m0, m1⟩)
          rw [w6_in (n := u.2 + 1) (by omega)]
          refine Has.chk ⟨u0, hu⟩ (Has.chk ⟨m0, m1⟩ ((meet_ok u2.ok sok.l).bind fun r ⟨r1, r2⟩ => Has.ite (fun hr => ?_) fun hr => ?_))
          · have hr : r.2 = false := by simpa using hr
            refine Has.ret (.done (.inr ⟨rfl, fun g => ?_⟩))
            obtain ⟨q, q0, q1, q2⟩ := u2.bad (show (lightAt l (gt (gt R t.2) u.2)).ok from sok.l) (fun q => by have := r1.2 q; rw [hr] at this; cases this)
            exact q2 (g t.2 t0 hi q u.2 q0 q1 hu)
          · have hr : r.2 = true := by simpa using hr
            obtain ⟨s1, s2, s3, s4⟩ := r2 hr
            exact Has.ret (.next ⟨by simp only []; omega, by simp only []; omega, u2.step (show (lightAt l (gt (gt R t.2) u.2)).ok from sok.l) u0 (r1.1 hr) s1 s2 s3 s4⟩ (by simp only []; omega))
        · have hu : ¬ u.2 < (gt R t.2).length := fun q => hu (decide_eq_true q)
          have e : u.2 = (gt R t.2).length := by omega
          rw [e] at u2
          exact Has.ret (.done (.inl ⟨_, rfl, u2⟩))
      · rcases hb with ⟨b', e, hb⟩ | ⟨e, _⟩
        · cases e
          rw [w6_in (n := t.2 + 1) (by omega)]
          refine Has.chk (roomyI (by simp; omega) (by simp; omega)) (Has.ret (.next ⟨by simp only []; omega, by simp only []; omega, by simp; omega, fun j j0 j1 => ?_⟩ (by simp only []; omega)))
          simp only [] at j1 ⊢
          by_cases ej : j = t.2
          · rw [gt_snoc_eq (by omega), ej]; exact hb
          · rw [gt_snoc_lt j0 (by omega)]; exact t3 j j0 (by omega)
        · cases e
      · rcases ho with ⟨b', e, _⟩ | ⟨e, hg⟩
        · cases e
        · cases e; exact .done (.inr ⟨rfl, hg⟩)
    · have hi : ¬ t.2 < R.length := fun q => hi (decide_eq_true q)
      refine Has.ret (.done (.inl ⟨_, rfl, fun j j0 j1 => ?_, by omega, fun j j0 j1 => t3 j j0 (by omega)⟩))
      exact fun q m q0 q1 q2 => (t3 j j0 (by omega)).pair q m q0 q1 q2
  · rcases ht with ⟨o, e, h1, h2, h3⟩ | ⟨e, _⟩
    · cases e; exact Has.ret ⟨.inl rfl, fun _ => ⟨h1, h2, h3⟩, (fun e => nomatch e)⟩
    · cases e
  · rcases ho with ⟨o', e, _⟩ | ⟨e, hg⟩
    · cases e
    · cases e; exact ⟨.inr rfl, (fun e => nomatch e), fun _ => hg⟩
end Lf
/- With its own period, a star's samples of one phase have one light. -/
namespace Lf
open Go Go.Abs
set_option linter.unusedVariables false
set_option linter.unusedSimpArgs false
theorem phase_div {t m k : Int} (hm : 0 < m) (hk : 0 < k) : (t % (k * m)) / m = (t / m) % k := by
  have e := Int.emod_add_mul_ediv t m
  have f := Int.emod_add_mul_ediv (t / m) k
  have a0 := Int.emod_nonneg t (b := m) (by omega)
  have a1 := Int.emod_lt_of_pos t hm
  have b0 := Int.emod_nonneg (t / m) (b := k) (by omega)
  have b1 := Int.emod_lt_of_pos (t / m) hk
  generalize t % m = a at *
  generalize t / m = q at *
  generalize q % k = b at *
  generalize q / k = d at *
  have e1 : t = (m * b + a) + (k * m) * d := by grind
  have lo : 0 ≤ m * b := Int.mul_nonneg (by omega) b0
  have hi : m * b ≤ m * (k - 1) := Int.mul_le_mul_of_nonneg_left (by omega) (by omega)
  have hi2 : m * (k - 1) = k * m - m := by grind
  have r : t % (k * m) = m * b + a := by
    rw [e1, Int.add_mul_emod_self_left]
    exact Int.emod_eq_of_lt (by omega) (by omega)
  rw [r, Int.add_comm, Int.add_mul_ediv_left _ _ (by omega), Int.ediv_eq_zero_of_lt a0 a1, Int.zero_add]
theorem okStar.okP {x : Star} (h : okStar x) : okP x.Period x.Wave.length := by
  have w0 := h.w0; have w1 := h.w1; have p := h.per
  obtain ⟨k, k0, k1, e⟩ := h.p
  exact ⟨by omega, by omega, by omega, by omega, by rw [e]; exact Int.mul_emod_right _ _⟩
theorem own_phase {x : Star} (h : okStar x) {a : curve_Sample} {j t : Int} (hj : phF x.Period x.Wave.length a = (j, true)) (t0 : a.At.Lo ≤ t) (t1 : t ≤ a.At.Hi) : phAt x t = j := by
  have P := h.okP
  obtain ⟨n0, n1, n2⟩ := P.n
  have k0 := P.k0
  have ep : phAt x t = (t / (x.Period / x.Wave.length)) % x.Wave.length := by
    unfold phAt
    have := phase_div (t := t) (m := x.Period / x.Wave.length) (k := x.Wave.length) (by omega) (by omega)
    rw [← n2] at this
    exact this
  rw [ep]
  unfold phF at hj
  split at hj
  · cases hj
  · rename_i hc
    have e1 : (a.At.Lo / (x.Period / x.Wave.length)) % x.Wave.length = j := congrArg Prod.fst hj
    rw [← e1]
    by_cases hk : (x.Wave.length : Int) > 1
    · have e2 : a.At.Lo / (x.Period / x.Wave.length) = a.At.Hi / (x.Period / x.Wave.length) := Classical.byContradiction fun q => hc ⟨q, hk⟩
      have m0 := Int.ediv_le_ediv (show 0 < x.Period / x.Wave.length by omega) t0
      have m1 := Int.ediv_le_ediv (show 0 < x.Period / x.Wave.length by omega) t1
      rw [show t / (x.Period / x.Wave.length) = a.At.Lo / (x.Period / x.Wave.length) by omega]
    · have e2 : (x.Wave.length : Int) = 1 := by omega
      rw [e2]; simp
/-- The light of a star in a phase. -/
def inPh (x : Star) (j : Int) : Int := x.Rate + gt x.Wave j
theorem row_light {x : Star} (h : okStar x) {l : List curve_Sample} (hs : ∀ a ∈ l, okSm a ∧ saw x a) {R : List (List Int)} (hR : okRows l x.Period x.Wave.length R) {j q : Int} (j0 : 0 ≤ j) (j1 : j < x.Wave.length) (q0 : 0 ≤ q) (q1 : q < (gt R j).length) (hu : (lightAt l (gt (gt R j) q)).Unknown = false) :
    (lightAt l (gt (gt R j) q)).Lo ≤ inPh x j ∧ inPh x j ≤ (lightAt l (gt (gt R j) q)).Hi := by
  obtain ⟨m0, m1, m2⟩ := (hR.mem j0 j1).1 (gt_mem (gt R j) q ⟨q0, q1⟩)
  obtain ⟨t, t0, t1, ht⟩ := (hs _ (gt_mem l _ ⟨m0, m1⟩)).2
  have e := own_phase h m2 t0 t1
  unfold lightAt at hu ⊢
  rcases ht with ht | ht
  · rw [ht] at hu; cases hu
  · unfold glow at ht
    rw [e] at ht
    exact ht
theorem own_good {x : Star} (h : okStar x) {l : List curve_Sample} (hs : ∀ a ∈ l, okSm a ∧ saw x a) {R : List (List Int)} (hR : okRows l x.Period x.Wave.length R) : goodAll l R := by
  have hn := hR.n
  intro j j0 j1 q m q0 qm m1
  unfold meets
  cases u1 : (lightAt l (gt (gt R j) q)).Unknown with
  | true => exact .inl rfl
  | false =>
    cases u2 : (lightAt l (gt (gt R j) m)).Unknown with
    | true => exact .inr (.inl rfl)
    | false =>
      have a := row_light h hs hR j0 (by omega) q0 (by omega) u1
      have b := row_light h hs hR j0 (by omega) (by omega) m1 u2
      exact .inr (.inr ⟨by omega, by omega⟩)
end Lf
/- The periods that fit. -/
namespace Lf
open Go Go.Abs
set_option linter.unusedVariables false
set_option linter.unusedSimpArgs false
theorem okRows.eq {l : List curve_Sample} {p k : Int} {A B : List (List Int)} (hA : okRows l p k A) (hB : okRows l p k B) : A = B := by
  have a := hA.n; have b := hB.n
  exact gt_ext (by omega) fun j j0 j1 => by rw [hA.row j j0 (by omega), hB.row j j0 (by omega)]
/-- A period fits. -/
def goodP (l : List curve_Sample) (p k : Int) : Prop := ∀ R, okRows l p k R → goodAll l R
theorem goodP_iff {l : List curve_Sample} {p k : Int} {R : List (List Int)} (hR : okRows l p k R) : goodP l p k ↔ goodAll l R :=
  ⟨fun h => h R hR, fun h R' hR' => by rw [hR'.eq hR]; exact h⟩
theorem contains_iff (l : List Int) (x : Int) (hn : l.length ≤ 1000000) : Has (slices_Contains_Int l x) fun r => r = true ↔ x ∈ l := by
  unfold slices_Contains_Int slices_Index_Int
  refine Has.bind (P := fun r : Int => 0 ≤ r ↔ x ∈ l) (Has.seq (P := fun t : Step Unit Int => (t = .next () ∧ ¬ x ∈ l) ∨ ∃ r, t = .done r ∧ 0 ≤ r ∧ x ∈ l) ?_ (fun s hs => ?_) (fun o ho => ?_)) fun r hr => Has.ret ⟨fun e => hr.1 (of_decide_eq_true e), fun e => decide_eq_true (hr.2 e)⟩
  · refine Has.loop (fun i : Int => 0 ≤ i ∧ i ≤ l.length ∧ ∀ j : Int, 0 ≤ j → j < i → x ≠ gt l j) (fun i => (l.length - i).toNat) _ ⟨Int.le_refl _, by omega, fun j j0 j1 => by omega⟩ (by omega) fun i ⟨i0, i1, i2⟩ => ?_
    unfold slices_Index_Int.l1
    refine Has.ite (fun hi => ?_) fun hi => ?_
    · have hi : i < l.length := of_decide_eq_true hi
      rw [w6_in (n := i + 1) (by omega)]
      refine Has.chk ⟨i0, hi⟩ (Has.ite (fun he => Has.ret (.done (.inr ⟨i, rfl, i0, ?_⟩))) fun he => Has.ret (.next ⟨by omega, by omega, fun j j0 j1 => ?_⟩ (by omega)))
      · have he := eq_of_beq he
        rw [he]; exact gt_mem l i ⟨i0, hi⟩
      · by_cases e : j = i
        · rw [e]; simpa using he
        · exact i2 j j0 (by omega)
    · have hi : ¬ i < l.length := fun q => hi (decide_eq_true q)
      refine Has.ret (.done (.inl ⟨rfl, fun hx => ?_⟩))
      obtain ⟨n, hn', e⟩ := List.getElem_of_mem hx
      refine i2 n (by omega) (by omega) ?_
      rw [gt_def l n ⟨by omega, by omega⟩]
      exact e.symm
  · rcases hs with ⟨_, h⟩ | ⟨r, e, _⟩
    · exact Has.ret ⟨fun e => by omega, fun e => absurd e h⟩
    · cases e
  · rcases ho with ⟨e, _⟩ | ⟨r, e, h1, h2⟩
    · cases e
    · cases e; exact ⟨fun _ => h2, fun _ => h1⟩
/-- What may be asked. -/
structure okAsk (a : period_Ask) : Prop where
  k0 : 1 ≤ a.Phases
  k1 : a.Phases ≤ 16
  l0 : 1 ≤ a.Least
  m1 : a.Most ≤ 17592186044416
  s0 : 1 ≤ a.Step
  s1 : a.Step ≤ 17592186044416
  lm : a.Least ≤ a.Most
  dl : a.Least % a.Phases = 0
  ds : a.Step % a.Phases = 0
  n : (a.Most - a.Least) / a.Step < 4096
theorem ask_ok {a : period_Ask} (h : okAsk a) : period_Check a = some 0 := by
  have k0 := h.k0; have k1 := h.k1; have l0 := h.l0; have m1 := h.m1; have s0 := h.s0; have s1 := h.s1; have lm := h.lm; have n := h.n
  have tz : ∀ x : Int, 0 ≤ x → x % a.Phases = 0 → Int.tmod x a.Phases = 0 := fun x x0 hx => by rw [Int.tmod_eq_emod_of_nonneg x0]; exact hx
  unfold period_Check
  have g1 : decide (a.Phases < 1) = false := decide_eq_false (by omega)
  have g2 : decide (a.Phases > 16) = false := decide_eq_false (by omega)
  have g3 : decide (a.Least < 1) = false := decide_eq_false (by omega)
  have g4 : decide (a.Most > 17592186044416) = false := decide_eq_false (by omega)
  have g5 : decide (a.Step < 1) = false := decide_eq_false (by omega)
  have g6 : decide (a.Step > 17592186044416) = false := decide_eq_false (by omega)
  have g7 : decide (a.Least > a.Most) = false := decide_eq_false (by omega)
  have q0 : 0 ≤ (a.Most - a.Least) / a.Step := Int.ediv_nonneg (by omega) (by omega)
  simp only [g1, g2, g3, g4, g5, g6, g7, Option.bind_some, Bool.false_eq_true, if_false, tz a.Least (by omega) h.dl, tz a.Step (by omega) h.ds, bne_self_eq_false]
  rw [if_pos (show a.Phases ≠ 0 by omega), w6_in (n := a.Most - a.Least) (by omega), Int.tdiv_eq_ediv_of_nonneg (show 0 ≤ a.Most - a.Least by omega), w6_in (n := (a.Most - a.Least) / a.Step) (by omega)]
  have g8 : decide ((a.Most - a.Least) / a.Step ≥ 4096) = false := decide_eq_false (by omega)
  simp only [Option.bind_some, Bool.false_eq_true, if_false, g8, letF]
  rw [if_pos (show a.Step ≠ 0 by omega)]
theorem okAsk.per {a : period_Ask} (h : okAsk a) {i : Int} (i0 : 0 ≤ i) (hi : a.Least + i * a.Step ≤ a.Most) : okP (a.Least + i * a.Step) a.Phases := by
  have l0 := h.l0; have m1 := h.m1; have s0 := h.s0
  have : 0 ≤ i * a.Step := Int.mul_nonneg i0 (by omega)
  refine ⟨by omega, by omega, h.k0, h.k1, ?_⟩
  rw [Int.add_emod, h.dl, Int.mul_emod, h.ds]; simp
theorem fit_ok {l : List curve_Sample} (hl : okC l) {a : period_Ask} (h : okAsk a) : Has (period_Fit l a) fun r => r.2 = 0 ∧ r.1.length ≤ 5000 ∧ ∀ i : Int, 0 ≤ i → a.Least + i * a.Step ≤ a.Most → (a.Least + i * a.Step ∈ r.1 ↔ goodP l (a.Least + i * a.Step) a.Phases) := by
  have k0 := h.k0; have k1 := h.k1; have l0 := h.l0; have m1 := h.m1; have s0 := h.s0; have s1 := h.s1; have lm := h.lm; have hn := h.n
  unfold period_Fit
  rw [curve_ok hl, ask_ok h]
  simp only [Option.bind_some]
  rw [or2_ok]
  simp only [Option.bind_some, ne_eq, not_true_eq_false, if_false, bne_self_eq_false, Bool.false_eq_true]
  refine Has.bind (P := fun o : List Int => o.length ≤ 5000 ∧ ∀ i : Int, 0 ≤ i → a.Least + i * a.Step ≤ a.Most → (a.Least + i * a.Step ∈ o ↔ goodP l (a.Least + i * a.Step) a.Phases)) ?_ fun o ⟨o1, o2⟩ => Has.ret ⟨rfl, o1, o2⟩
  refine Has.loop (fun t : List Int × Int => ∃ n : Nat, t.2 = a.Least + n * a.Step ∧ (n = 0 ∨ a.Least + (n - 1 : Int) * a.Step ≤ a.Most) ∧ t.1.length ≤ n ∧ (∀ x ∈ t.1, ∃ i : Int, 0 ≤ i ∧ i < n ∧ x = a.Least + i * a.Step) ∧ ∀ i : Int, 0 ≤ i → i < n → (a.Least + i * a.Step ∈ t.1 ↔ goodP l (a.Least + i * a.Step) a.Phases)) (fun t => (a.Most + 1 - t.2).toNat) _
    ⟨0, by simp, .inl rfl, by simp, by simp, fun i i0 i1 => by omega⟩ (by simp only []; omega) fun t ⟨n, n0, n1, n2, n3, n4⟩ => ?_
  have sn : ∀ i : Int, (i - 1) * a.Step = i * a.Step - a.Step := fun i => by rw [Int.sub_mul, Int.one_mul]
  have nb : n ≤ 4097 := by
    rcases n1 with e | e
    · omega
    · have : (n - 1 : Int) ≤ (a.Most - a.Least) / a.Step := (Int.le_ediv_iff_mul_le (by omega)).2 (by omega)
      omega
  unfold period_Fit.l1
  refine Has.ite (fun hi => ?_) fun hi => ?_
  · have hi : t.2 ≤ a.Most := of_decide_eq_true hi
    rw [n0] at hi ⊢
    have P := h.per (i := n) (by omega) hi
    obtain ⟨R, eR, hR⟩ := fold_ok P hl
    have pn := P.p0
    have nx : a.Least + (n : Int) * a.Step + a.Step = a.Least + ((n + 1 : Nat) : Int) * a.Step := by rw [Int.natCast_add, Int.add_mul]; omega
    have ne : ∀ i : Int, i < n → a.Least + i * a.Step ≠ a.Least + n * a.Step := fun i hi' e => by
      have : (n - i) * a.Step = n * a.Step - i * a.Step := Int.sub_mul ..
      have := Int.mul_pos (a := n - i) (b := a.Step) (by omega) (by omega)
      omega
    refine Has.bind (P := fun o : List Int => o.length ≤ n + 1 ∧ (∀ x ∈ o, ∃ i : Int, 0 ≤ i ∧ i < n + 1 ∧ x = a.Least + i * a.Step) ∧ ∀ i : Int, 0 ≤ i → i < n + 1 → (a.Least + i * a.Step ∈ o ↔ goodP l (a.Least + i * a.Step) a.Phases)) ((table_ok P hl hR eR).bind fun r ⟨r0, r1, r2⟩ => Has.ite (fun hr => ?_) fun hr => ?_) fun o ⟨o1, o2, o3⟩ => ?_
    · have hr : r.2 = 0 := eq_of_beq hr
      refine Has.chk (roomyI (by simp; omega) (by simp; omega)) (Has.ret ⟨by simp; omega, fun x hx => ?_, fun i i0 i1 => ?_⟩)
      · rcases List.mem_append.1 hx with q | q
        · obtain ⟨i, i0, i1, e⟩ := n3 x q; exact ⟨i, i0, by omega, e⟩
        · simp at q; exact ⟨n, by omega, by omega, q⟩
      · rw [List.mem_append]
        by_cases e : i = n
        · rw [e]
          exact ⟨fun _ => (goodP_iff hR).2 (r1 hr).1, fun _ => .inr (by simp)⟩
        · rw [← n4 i i0 (by omega)]
          exact ⟨fun q => q.elim id fun q => by simp at q; exact absurd (by omega) (ne i (by omega)), .inl⟩
    · have hr : r.2 = 15 := by
        rcases r0 with e | e
        · rw [e] at hr; exact absurd rfl hr
        · exact e
      refine Has.ret ⟨by omega, fun x hx => ?_, fun i i0 i1 => ?_⟩
      · obtain ⟨i, i0, i1, e⟩ := n3 x hx; exact ⟨i, i0, by omega, e⟩
      · by_cases e : i = n
        · rw [e]
          refine ⟨fun q => ?_, fun q => absurd ((goodP_iff hR).1 q) (r2 hr)⟩
          obtain ⟨i', i0', i1', e'⟩ := n3 _ q
          exact absurd e'.symm (ne i' i1')
        · exact n4 i i0 (by omega)
    · rw [w6_in (by omega)]
      refine Has.ret (.next ⟨n + 1, nx, .inr ?_, by simpa using o1, fun x hx => ?_, fun i i0 i1 => o3 i i0 (by omega)⟩ (by simp only []; omega))
      · rw [show ((n + 1 : Nat) : Int) - 1 = n by omega]; exact hi
      · obtain ⟨i, i0, i1, e⟩ := o2 x hx; exact ⟨i, i0, by omega, e⟩
  · have hi : ¬ t.2 ≤ a.Most := fun q => hi (decide_eq_true q)
    refine Has.ret (.done ⟨by omega, fun i i0 i1 => n4 i i0 ?_⟩)
    rw [n0] at hi
    rcases Int.lt_or_le i n with c | c
    · exact c
    · exfalso
      have := Int.mul_le_mul_of_nonneg_right c (show 0 ≤ a.Step by omega)
      omega
end Lf
/- PeriodTrue: the period of a star is among those that fit its curve, if it is tried. -/
namespace Lf
open Go Go.Abs
set_option linter.unusedVariables false
set_option linter.unusedSimpArgs false
theorem fittedFact : spykeep4_fitted = some true := by kernel_rfl
theorem PeriodTrue_true (l : List Int) (below above step : Int) (hl : okL l) (hb : -9223372036854775808 ≤ below ∧ below ≤ 9223372036854775807) (ha : -9223372036854775808 ≤ above ∧ above ≤ 9223372036854775807) (hs : -9223372036854775808 ≤ step ∧ step ≤ 9223372036854775807) : spykeep4_PeriodTrue l below above step = some true := by
  apply Has.val
  have h0 := okS.start hl
  unfold spykeep4_PeriodTrue
  refine (vec_ok _ h0 (by simp only []; omega)).bind fun r1 ⟨v1, s1⟩ => ?_
  have o1 := s1.ok h0 (by simp only []; omega); have b1 := s1.hi
  simp only [] at b1
  refine (wave_ok r1.2 r1.1 v1 o1 (by omega)).bind fun r2 ⟨x2, s2⟩ => ?_
  have o2 := s2.ok o1 (by omega); have b2 := s2.hi
  refine (samples_ok r2.2 r2.1 20 x2 (by omega) (by omega) o2 (by omega)).bind fun r3 ⟨c1, c2, c3, c4, s3⟩ => ?_
  have okc : okC r3.1 := ⟨by omega, fun a ha => (c3 a ha).1, c4⟩
  have P := x2.okP
  have w0 := x2.w0; have w1 := x2.w1; have pr := x2.per
  obtain ⟨R, eR, hR⟩ := fold_ok P okc
  refine (below_ok step 3 hs (by omega)).bind fun r4 ⟨u0, u1⟩ => (below_ok below 40 hb (by omega)).bind fun r5 ⟨d0, d1⟩ => ?_
  rw [w6_in (n := 1 + r4) (by omega)]
  have byb : 1 ≤ (r2.1.Wave.length : Int) * (1 + r4) ∧ (r2.1.Wave.length : Int) * (1 + r4) ≤ 18 := by
    have : r4 = 0 ∨ r4 = 1 ∨ r4 = 2 := by omega
    rcases this with e | e | e <;> rw [e] <;> omega
  have byd : ((r2.1.Wave.length : Int) * (1 + r4)) % r2.1.Wave.length = 0 := Int.mul_emod_right _ _
  rw [w6_in (n := (r2.1.Wave.length : Int) * (1 + r4)) (by omega)]
  generalize hby : (r2.1.Wave.length : Int) * (1 + r4) = by_ at *
  refine Has.bind (P := fun z : Int => ∃ i : Int, 0 ≤ i ∧ i ≤ 40 ∧ r2.1.Period = z + i * by_ ∧ 1 ≤ z) ?_ fun z ⟨i, i0, i1, ei, z0⟩ => ?_
  · refine Has.loop (fun t : Int × Int => 0 ≤ t.2 ∧ t.2 ≤ r5 ∧ ∃ i : Int, 0 ≤ i ∧ i ≤ t.2 ∧ r2.1.Period = t.1 + i * by_ ∧ 1 ≤ t.1) (fun t => (r5 - t.2).toNat) _ ⟨Int.le_refl _, d0, 0, Int.le_refl _, Int.le_refl _, by simp, pr.1⟩ (by simp only []; omega) fun t ⟨t0, t1, i, i0, i1, ei, z0⟩ => ?_
    unfold spykeep4_PeriodTrue.l1
    rw [w6_in (n := 1 + r4) (by omega), hby, w6_in (n := by_) (by omega)]
    have ib : 0 ≤ i * by_ := Int.mul_nonneg i0 (by omega)
    refine Has.ite (fun hi => ?_) fun hi => ?_
    · have hi : t.2 < r5 := of_decide_eq_true hi
      refine Has.bind (P := fun z : Int => ∃ i : Int, 0 ≤ i ∧ i ≤ t.2 + 1 ∧ r2.1.Period = z + i * by_ ∧ 1 ≤ z) (Has.letF (Has.ite (fun hg => ?_) fun hg => Has.ret ⟨i, i0, by omega, ei, z0⟩)) fun z hz => ?_
      · have hg : t.1 > by_ := of_decide_eq_true hg
        rw [w6_in (by omega)]
        exact Has.ret ⟨i + 1, by omega, by omega, by rw [Int.add_mul]; omega, by omega⟩
      · rw [w6_in (by omega)]
        exact Has.ret (.next ⟨by simp only []; omega, by simp only []; omega, hz⟩ (by simp only []; omega))
    · have hi : ¬ t.2 < r5 := fun q => hi (decide_eq_true q)
      exact Has.ret (.done ⟨i, i0, by omega, ei, z0⟩)
  · refine (below_ok above 40 ha (by omega)).bind fun r12 ⟨a0, a1⟩ => ?_
    have ib : 0 ≤ i * by_ := Int.mul_nonneg i0 (by omega)
    have ab : 0 ≤ by_ * r12 ∧ by_ * r12 ≤ 18 * 39 := ⟨Int.mul_nonneg (by omega) a0, by
      have h1 := Int.mul_le_mul_of_nonneg_right byb.2 a0
      omega⟩
    rw [w6_in (n := by_ * r12) (by omega), w6_in (n := r2.1.Period + by_ * r12) (by omega)]
    refine Has.letF ?_
    have zd : z % r2.1.Wave.length = 0 := by
      have e1 := P.d
      rw [ei, Int.add_emod, Int.mul_emod, byd] at e1
      simpa using e1
    have ask : okAsk ⟨r2.1.Wave.length, z, r2.1.Period + by_ * r12, by_⟩ := ⟨by simp only []; omega, by simp only []; omega, z0, by simp only []; omega, byb.1, by simp only []; omega, by simp only []; omega, zd, byd, by
      simp only []
      rw [ei, show z + i * by_ + by_ * r12 - z = by_ * (i + r12) by grind, Int.mul_ediv_cancel_left _ (by omega)]; omega⟩
    refine (fit_ok okc ask).bind fun r14 ⟨f1, f2, f3⟩ => ?_
    simp only [] at f3
    have hin : r2.1.Period ∈ r14.1 := by
      have := f3 i i0 (by omega)
      rw [← ei] at this
      exact this.2 ((goodP_iff hR).2 (own_good x2 c3 hR))
    rw [fittedFact, c1, f1]
    simp only [Option.bind_some, if_true, beq_self_eq_true]
    refine Has.bind (P := fun b : Bool => b = true) ((contains_iff r14.1 r2.1.Period (by omega)).bind fun r20 hr => Has.ret (hr.2 hin)) fun b hb => Has.ret hb
end Lf
