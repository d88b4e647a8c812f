/- Laws of the plain functions. Conditions: as each theorem states them. -/
import Derived.Test.YtgfoaaonagkldaaPAround
/- Measured places drawn from a stream. -/
namespace Lf
open Go Go.Abs
set_option linter.unusedVariables false
set_option linter.unusedSimpArgs false
structure okSpot (m : Measured) : Prop where
  xu : m.X.Unknown = false
  yu : m.Y.Unknown = false
  x1 : -1000 ≤ m.X.Lo
  x2 : m.X.Lo ≤ m.X.Hi
  x3 : m.X.Hi ≤ 10000
  y1 : -1000 ≤ m.Y.Lo
  y2 : m.Y.Lo ≤ m.Y.Hi
  y3 : m.Y.Hi ≤ 10000
theorem okSpot.xok {m : Measured} (h : okSpot m) : m.X.ok := ⟨(fun e => by rw [h.xu] at e; cases e), by have := h.x1; omega, h.x2, by have := h.x3; omega⟩
theorem okSpot.yok {m : Measured} (h : okSpot m) : m.Y.ok := ⟨(fun e => by rw [h.yu] at e; cases e), by have := h.y1; omega, h.y2, by have := h.y3; omega⟩
theorem wide_at (v : Int) (h : 0 ≤ v ∧ v < 3) : 0 ≤ gt ([0, 8, 300] : List Int) v ∧ gt ([0, 8, 300] : List Int) v ≤ 300 := by
  have : v = 0 ∨ v = 1 ∨ v = 2 := by omega
  rcases this with rfl | rfl | rfl <;> decide
theorem spots_ok (s : spymake_Stream) (most : Int) (hs : okS s) (ha : s.at_ ≤ 4611686018427000000) (hm : 0 ≤ most ∧ most ≤ 100) :
    Has (Stream_Spots s most) fun r => (∀ m ∈ r.1, okSpot m) ∧ (r.1.length : Int) ≤ most ∧ after s r.2 (2 + 12 * most) := by
  unfold Stream_Spots
  refine (next_ok s 3 hs (by omega) (by omega)).bind fun v ⟨g1, g2, g3⟩ => ?_
  have ht := g3.ok hs (by omega)
  have hh := g3.hi
  have hw := wide_at v.1 ⟨g1, g2⟩
  rw [w6_in (by omega)]
  refine Has.chk ⟨g1, by simpa using g2⟩ ((next_ok v.2 (most + 1) ht (by omega) (by omega)).bind fun n ⟨k1, k2, k3⟩ => ?_)
  have hr := k3.ok ht (by omega)
  have hh' := k3.hi
  refine (Has.loop (fun x : spymake_Stream × List Measured × Int => after n.2 x.1 (12 * x.2.2) ∧ 0 ≤ x.2.2 ∧ x.2.2 ≤ n.1 ∧ (x.2.1.length : Int) = x.2.2 ∧ ∀ m ∈ x.2.1, okSpot m)
    (fun x => (n.1 - x.2.2).toNat) (fun o : spymake_Stream × List Measured => after n.2 o.1 (12 * n.1) ∧ (o.2.length : Int) = n.1 ∧ ∀ m ∈ o.2, okSpot m) ⟨after.refl _, Int.le_refl _, k1, rfl, by simp⟩ (by simp only []; omega) ?_).bind
    fun o ⟨p1, p2, p3⟩ => Has.ret ⟨p3, by simp only []; omega, ((g3.trans k3).trans p1).more (by omega)⟩
  rintro ⟨x, out, i⟩ ⟨p1, p2, p3, p4, p5⟩
  simp only [] at p1 p2 p3 p4 p5
  unfold Stream_Spots.l1
  generalize gt ([0, 8, 300] : List Int) v.1 = wide at hw
  refine Has.ite (fun hi => ?_) fun hi => ?_
  · have hi : i < n.1 := by simpa using hi
    have x0 := p1.ok hr (by omega)
    have a0 := p1.hi
    refine (range_ok x 0 31 x0 (by omega) (by omega) (by omega) (by omega)).bind fun c1 ⟨b1, b1', q1⟩ => ?_
    have x1 := q1.ok x0 (by omega)
    have a1 := q1.hi
    refine (next_ok c1.2 3 x1 (by omega) (by omega)).bind fun c2 ⟨b2, b2', q2⟩ => ?_
    have x2 := q2.ok x1 (by omega)
    have a2 := q2.hi
    refine (range_ok c2.2 0 31 x2 (by omega) (by omega) (by omega) (by omega)).bind fun c3 ⟨b3, b3', q3⟩ => ?_
    have x3 := q3.ok x2 (by omega)
    have a3 := q3.hi
    refine (next_ok c3.2 3 x3 (by omega) (by omega)).bind fun c4 ⟨b4, b4', q4⟩ => ?_
    have x4 := q4.ok x3 (by omega)
    have a4 := q4.hi
    rw [w6_in (n := c1.1 * 256) (by omega), w6_in (n := c2.1 * 128) (by omega), w6_in (n := c1.1 * 256 + c2.1 * 128) (by omega), w6_in (n := c3.1 * 256) (by omega), w6_in (n := c4.1 * 128) (by omega), w6_in (n := c3.1 * 256 + c4.1 * 128) (by omega)]
    refine (around_ok c4.2 (c1.1 * 256 + c2.1 * 128) wide x4 (by omega) (by omega) (by omega)).bind fun d1 ⟨u1, f1, f2, f3, f4, q5⟩ => ?_
    have x5 := q5.ok x4 (by omega)
    have a5 := q5.hi
    refine (around_ok d1.2 (c3.1 * 256 + c4.1 * 128) wide x5 (by omega) (by omega) (by omega)).bind fun d2 ⟨u2, f5, f6, f7, f8, q6⟩ => ?_
    have x6 := q6.ok x5 (by omega)
    have a6 := q6.hi
    refine (bnd_ok d2.2 1000 x6 (by omega) (by omega)).bind fun d3 ⟨u3, q7⟩ => ?_
    rw [w6_in (n := i + 1) (by omega)]
    have haf := ((((((p1.trans q1).trans q2).trans q3).trans q4).trans q5).trans q6).trans q7
    refine Has.chk (roomyI (by simp only [List.length_cons, List.length_nil]; omega) (by simp only [List.length_cons, List.length_nil]; omega)) (Has.ret (.next ⟨haf.more (by simp only []; omega), by simp only []; omega, by simp only []; omega, by simp; omega, fun m hm => ?_⟩ (by simp only []; omega)))
    rcases List.mem_append.1 hm with hm | hm
    · exact p5 m hm
    · simp only [List.mem_singleton] at hm
      subst hm
      exact ⟨u1, u2, by simp only []; omega, by simp only []; omega, by simp only []; omega, by simp only []; omega, by simp only []; omega, by simp only []; omega⟩
  · have hi : ¬ i < n.1 := by simpa using hi
    have : i = n.1 := by omega
    subst this
    exact Has.ret (.done ⟨p1, p4, p5⟩)
end Lf
