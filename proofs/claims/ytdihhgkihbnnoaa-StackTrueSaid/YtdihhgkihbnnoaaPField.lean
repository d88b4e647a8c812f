/- Laws of the plain functions. Conditions: as each theorem states them. -/
import Derived.Test.YtdihhgkihbnnoaaPAdd
/- Fields of light, and bounds of it. -/
namespace Lf
open Go Go.Abs
set_option linter.unusedVariables false
set_option linter.unusedSimpArgs false
/-- A valid field. -/
structure okF (c : Cells) : Prop where
  w0 : 1 ≤ c.W
  w1 : c.W ≤ 32
  h0 : 1 ≤ c.H
  h1 : c.H ≤ 32
  len : (c.At.length : Int) = c.W * c.H
  cell : ∀ b ∈ c.At, b.ok ∧ -1099511627776 ≤ b.Lo ∧ b.Hi ≤ 1099511627776
theorem area {w h : Int} (w0 : 1 ≤ w) (w1 : w ≤ 32) (h0 : 1 ≤ h) (h1 : h ≤ 32) : 1 ≤ w * h ∧ w * h ≤ 1024 := by
  have a := Int.mul_le_mul_of_nonneg_right w1 (show 0 ≤ h by omega)
  have b := Int.mul_le_mul_of_nonneg_right w0 (show 0 ≤ h by omega)
  omega
theorem okF.n1 {c : Cells} (h : okF c) : 1 ≤ (c.At.length : Int) ∧ (c.At.length : Int) ≤ 1024 := by rw [h.len]; exact area h.w0 h.w1 h.h0 h.h1
theorem findCheck_ok {c : Cells} (h : okF c) : find_Check c = some 0 := by
  have hw0 := h.w0; have hw1 := h.w1; have hh0 := h.h0; have hh1 := h.h1
  have hn := h.n1
  have e : w6 (c.W * c.H) = (c.At.length : Int) := by rw [← h.len]; exact w6_in (by omega)
  apply Has.val
  unfold find_Check
  rw [e]
  have g1 : decide (c.W < 1) = false := decide_eq_false (by omega)
  have g2 : decide (c.W > 32) = false := decide_eq_false (by omega)
  have g3 : decide (c.H < 1) = false := decide_eq_false (by omega)
  have g4 : decide (c.H > 32) = false := decide_eq_false (by omega)
  simp only [g1, g2, g3, g4, ite_or, Bool.false_or, bne_self_eq_false, Option.bind_some, Bool.false_eq_true, if_false]
  refine Has.seq (P := fun t : Step Unit Int => t = .next ()) ?_ (fun _ _ => Has.ret rfl) (fun o ho => by cases ho)
  refine Has.loop (fun i : Int => 0 ≤ i ∧ i ≤ c.At.length) (fun i => (c.At.length - i).toNat) (fun t : Step Unit Int => t = .next ()) ⟨Int.le_refl _, by omega⟩ (by omega) fun i ⟨i1, i2⟩ => ?_
  unfold find_Check.l1
  refine Has.ite (fun hi => ?_) fun hi => Has.ret (.done rfl)
  have hi : i < c.At.length := of_decide_eq_true hi
  obtain ⟨b1, b2, b3⟩ := h.cell _ (gt_mem c.At i ⟨i1, hi⟩)
  refine Has.chk ⟨i1, hi⟩ ?_
  rw [check_ok b1]
  have g5 : decide ((gt c.At i).Lo < (-1099511627776)) = false := decide_eq_false (by omega)
  have g6 : decide ((gt c.At i).Hi > 1099511627776) = false := decide_eq_false (by omega)
  simp only [Option.bind_some, bne_self_eq_false, Bool.false_eq_true, if_false, g5, g6, ite_or, Bool.false_or]
  rw [w6_in (by omega)]
  exact Has.ret (.next ⟨by omega, by omega⟩ (by omega))
/-- One point's light at a cell. -/
theorem point_ok {top k dx dy : Int} (h0 : 0 ≤ top) (h1 : top ≤ 4999) (k1 : 1 ≤ k) (k3 : k ≤ 3) (x0 : 0 ≤ dx) (x1 : dx ≤ k) (y0 : 0 ≤ dy) (y1 : dy ≤ k) :
    w6 ((w6 (top * (w6 ((w6 (k + 1)) - dx)))) * (w6 ((w6 (k + 1)) - dy))) = top * (k + 1 - dx) * (k + 1 - dy) ∧ w6 ((w6 (k + 1)) * (w6 (k + 1))) = (k + 1) * (k + 1) ∧ (k + 1) * (k + 1) ≠ 0 ∧
    w6 (Int.tdiv (top * (k + 1 - dx) * (k + 1 - dy)) ((k + 1) * (k + 1))) = top * (k + 1 - dx) * (k + 1 - dy) / ((k + 1) * (k + 1)) ∧ 0 ≤ top * (k + 1 - dx) * (k + 1 - dy) / ((k + 1) * (k + 1)) ∧ top * (k + 1 - dx) * (k + 1 - dy) / ((k + 1) * (k + 1)) ≤ top := by
  rw [w6_in (n := k + 1) (by omega), w6_in (n := k + 1 - dx) (by omega), w6_in (n := k + 1 - dy) (by omega)]
  have a0 := Int.mul_nonneg h0 (show 0 ≤ k + 1 - dx by omega)
  have a1 := Int.mul_le_mul_of_nonneg_left (show k + 1 - dx ≤ k + 1 by omega) h0
  have a2 := Int.mul_le_mul_of_nonneg_left (show k + 1 ≤ 4 by omega) h0
  have b0 := Int.mul_nonneg a0 (show 0 ≤ k + 1 - dy by omega)
  have b1 := Int.mul_le_mul_of_nonneg_left (show k + 1 - dy ≤ k + 1 by omega) a0
  have b2 := Int.mul_le_mul_of_nonneg_right a1 (show 0 ≤ k + 1 by omega)
  have b3 := Int.mul_le_mul_of_nonneg_left (show k + 1 ≤ 4 by omega) a0
  have c0 : 4 ≤ (k + 1) * (k + 1) ∧ (k + 1) * (k + 1) ≤ 16 := by
    have : k = 1 ∨ k = 2 ∨ k = 3 := by omega
    rcases this with rfl | rfl | rfl <;> decide
  have d0 : 0 ≤ top * (k + 1 - dx) * (k + 1 - dy) / ((k + 1) * (k + 1)) := Int.ediv_nonneg b0 (by omega)
  have d1 : top * (k + 1 - dx) * (k + 1 - dy) / ((k + 1) * (k + 1)) ≤ top := by
    have : top * (k + 1 - dx) * (k + 1 - dy) / ((k + 1) * (k + 1)) < top + 1 := by
      rw [Int.ediv_lt_iff_lt_mul (by omega), Int.add_mul, ← Int.mul_assoc]; omega
    omega
  refine ⟨?_, w6_in (by omega), by omega, ?_, d0, d1⟩
  · rw [w6_in (n := top * (k + 1 - dx)) (by omega)]; exact w6_in (by omega)
  · rw [Int.tdiv_eq_ediv_of_nonneg b0]; exact w6_in (by omega)
theorem tops_at (v : Int) (h : 0 ≤ v ∧ v < 3) : 1 ≤ gt ([30, 400, 5000] : List Int) v ∧ gt ([30, 400, 5000] : List Int) v ≤ 5000 := by
  have : v = 0 ∨ v = 1 ∨ v = 2 := by omega
  rcases this with rfl | rfl | rfl <;> decide
/-- What the light of a field is, of which the background is given. -/
structure okLt (n b : Int) (back : Int) (l : List Int) : Prop where
  len : (l.length : Int) = n
  v : ∀ x ∈ l, back ≤ x ∧ x ≤ b
theorem lights_ok (s : spymake_Stream) (w h points : Int) (hs : okS s) (ha : s.at_ ≤ 4611686018427000000) (w0 : 1 ≤ w) (w1 : w ≤ 32) (h0 : 1 ≤ h) (h1 : h ≤ 32) (p0 : 0 ≤ points) (p1 : points ≤ 10) :
    Has (Stream_Lights s w h points) fun r => okLt (w * h) (39 + 4999 * points) r.2.1 r.1 ∧ 0 ≤ r.2.1 ∧ r.2.1 ≤ 39 ∧ after s r.2.2 (1 + 5 * points) := by
  have hA := area w0 w1 h0 h1
  unfold Stream_Lights
  have eA : w6 (w * h) = w * h := w6_in (by omega)
  rw [eA]
  refine (next_ok s 40 hs (by omega) (by omega)).bind fun r ⟨r1, r2, r3⟩ => ?_
  refine Has.chk ⟨by omega, Int.le_refl _, roomyI (by omega) (by omega)⟩ ?_
  refine Has.bind (P := fun l : List Int => (l.length : Int) = w * h ∧ ∀ x ∈ l, x = r.1) ?_ fun l ⟨l1, l2⟩ => ?_
  · refine Has.loop (fun t : List Int × Int => (t.1.length : Int) = w * h ∧ 0 ≤ t.2 ∧ t.2 ≤ w * h ∧ allI t.1 fun j x => j < t.2 → x = r.1) (fun t => (w * h - t.2).toNat) _ ⟨by simp; omega, Int.le_refl _, by simp only []; omega, fun j j1 j2 j3 => by simp only [] at j3; omega⟩ (by simp only []; omega) fun t ⟨t1, t2, t3, t4⟩ => ?_
    unfold Stream_Lights.l1
    rw [eA]
    refine Has.letF (Has.ite (fun hc => ?_) fun hc => ?_)
    · have hc : t.2 < w * h := by simp at hc; omega
      rw [w6_in (by omega)]
      refine Has.chk ⟨t2, by omega⟩ (Has.ret (.next ⟨by simp only [List.length_set]; exact t1, by simp only []; omega, by simp only []; omega, ?_⟩ (by simp only []; omega)))
      exact allI_upd t4 t2 (fun j x j1 j2 j3 hx hj => by simp only [] at hj; exact hx (by omega)) fun _ => rfl
    · have hc : ¬ t.2 < w * h := by simp at hc; omega
      exact Has.ret (.done ⟨t1, allI_mem (allI_mono t4 fun j x j1 j2 hx => hx (by omega))⟩)
  · have hsr := r3.ok hs (by omega)
    have hh := r3.hi
    refine (Has.loop (fun t : spymake_Stream × List Int × Int => after r.2 t.1 (5 * t.2.2) ∧ 0 ≤ t.2.2 ∧ t.2.2 ≤ points ∧ (t.2.1.length : Int) = w * h ∧ ∀ x ∈ t.2.1, r.1 ≤ x ∧ x ≤ 39 + 4999 * t.2.2) (fun t => (points - t.2.2).toNat)
      (fun o : spymake_Stream × List Int => after r.2 o.1 (5 * points) ∧ okLt (w * h) (39 + 4999 * points) r.1 o.2) ⟨after.refl _, Int.le_refl _, p0, l1, fun x hx => by have := l2 x hx; simp only []; omega⟩ (by simp only []; omega) fun t ⟨t1, t2, t3, t4, t5⟩ => ?_).bind
      fun o ⟨o1, o2⟩ => Has.ret ⟨o2, r1, by simp only []; omega, (r3.trans o1).more (by omega)⟩
    unfold Stream_Lights.l2
    refine Has.ite (fun hc => ?_) fun hc => ?_
    · have hc : t.2.2 < points := of_decide_eq_true hc
      have hst := t1.ok hsr (by omega)
      have hht := t1.hi
      refine (next_ok t.1 w hst (by omega) (by omega)).bind fun x ⟨x1, x2, x3⟩ => ?_
      have hx := x3.ok hst (by omega); have hhx := x3.hi
      refine (next_ok x.2 h hx (by omega) (by omega)).bind fun y ⟨y1, y2, y3⟩ => ?_
      have hy := y3.ok hx (by omega); have hhy := y3.hi
      refine (range_ok y.2 1 3 hy (by omega) (by omega) (by omega) (by omega)).bind fun k ⟨k1, k2, k3⟩ => ?_
      have hk := k3.ok hy (by omega); have hhk := k3.hi
      refine (next_ok k.2 3 hk (by omega) (by omega)).bind fun g ⟨g1, g2, g3⟩ => ?_
      have hg := g3.ok hk (by omega); have hhg := g3.hi
      have ht := tops_at g.1 ⟨g1, g2⟩
      refine Has.chk ⟨g1, by simpa using g2⟩ ((next_ok g.2 _ hg (by omega) (by omega)).bind fun z ⟨z1, z2, z3⟩ => ?_)
      have hhz := z3.hi
      generalize gt ([30, 400, 5000] : List Int) g.1 = most at *
      refine Has.bind (P := fun l : List Int => (l.length : Int) = w * h ∧ ∀ x ∈ l, r.1 ≤ x ∧ x ≤ 39 + 4999 * (t.2.2 + 1)) ?_ fun l ⟨m1, m2⟩ => ?_
      · have ini : ∀ v : Int, r.1 ≤ v ∧ v ≤ 39 + 4999 * t.2.2 → ∀ {q : Prop}, r.1 ≤ v ∧ v ≤ 39 + 4999 * (t.2.2 + 1) ∧ (q → v ≤ 39 + 4999 * t.2.2) := fun v ⟨a, b⟩ _ => ⟨a, by omega, fun _ => b⟩
        refine Has.loop (fun u : List Int × Int => (u.1.length : Int) = w * h ∧ 0 ≤ u.2 ∧ u.2 ≤ w * h ∧ allI u.1 fun j x => r.1 ≤ x ∧ x ≤ 39 + 4999 * (t.2.2 + 1) ∧ (u.2 ≤ j → x ≤ 39 + 4999 * t.2.2)) (fun u => (w * h - u.2).toNat) _ ⟨t4, Int.le_refl _, by simp only []; omega, fun j j1 j2 => ini _ (t5 _ (gt_mem t.2.1 j ⟨j1, j2⟩))⟩ (by simp only []; omega) fun u ⟨u1, u2, u3, u4⟩ => ?_
        unfold Stream_Lights.l3
        rw [t4]
        refine Has.ite (fun hd => ?_) fun hd => ?_
        · have hd : u.2 < w * h := of_decide_eq_true hd
          have q0 := Int.tmod_nonneg w u2
          have q1 := Int.tmod_lt_of_pos u.2 (b := w) (by omega)
          have q2 : 0 ≤ Int.tdiv u.2 w := Int.tdiv_nonneg u2 (by omega)
          have q3 : Int.tdiv u.2 w < h := by rw [Int.tdiv_eq_ediv_of_nonneg u2, Int.ediv_lt_iff_lt_mul (by omega), Int.mul_comm]; exact hd
          refine Has.bind (P := fun l : List Int => (l.length : Int) = w * h ∧ allI l fun j x => r.1 ≤ x ∧ x ≤ 39 + 4999 * (t.2.2 + 1) ∧ (u.2 + 1 ≤ j → x ≤ 39 + 4999 * t.2.2)) ?_ fun l ⟨n1, n2⟩ => ?_
          · rw [w6_in (n := Int.tdiv u.2 w) (by omega), w6_in (n := Int.tmod u.2 w - x.1) (by omega), w6_in (n := x.1 - Int.tmod u.2 w) (by omega), w6_in (n := Int.tdiv u.2 w - y.1) (by omega), w6_in (n := y.1 - Int.tdiv u.2 w) (by omega)]
            refine Has.chk (by omega) (Has.letF (Has.letF ?_))
            have d1 := mx2_def (Int.tmod u.2 w - x.1) (x.1 - Int.tmod u.2 w)
            have d2 := mx2_def (Int.tdiv u.2 w - y.1) (y.1 - Int.tdiv u.2 w)
            generalize mx2 (Int.tmod u.2 w - x.1) (x.1 - Int.tmod u.2 w) = dx at *
            generalize mx2 (Int.tdiv u.2 w - y.1) (y.1 - Int.tdiv u.2 w) = dy at *
            simp only [ite_and, Option.bind_some]
            refine Has.ite (fun he => ?_) fun he => Has.ret ⟨u1, allI_mono u4 fun j v j1 j2 ⟨v1, v2, v3⟩ => ⟨v1, v2, fun h => v3 (by omega)⟩⟩
            simp only [Bool.and_eq_true, decide_eq_true_eq] at he
            obtain ⟨e1, e2, e3, e4, e5, e6⟩ := point_ok (top := z.1) (k := k.1) (dx := dx) (dy := dy) z1 (by omega) k1 k2 (by omega) he.1 (by omega) he.2
            rw [e1, e2]
            obtain ⟨v1, v2, v3⟩ := u4 u.2 u2 (by omega)
            have v3 := v3 (Int.le_refl _)
            refine Has.chk ⟨u2, by omega⟩ (Has.letF (Has.chk e3 (Has.letF (Has.ret ⟨by simp only [List.length_set]; exact u1, ?_⟩))))
            rw [e4]
            generalize z.1 * (k.1 + 1 - dx) * (k.1 + 1 - dy) / ((k.1 + 1) * (k.1 + 1)) = add at *
            rw [w6_in (n := gt u.1 u.2 + add) (by omega)]
            exact allI_upd u4 u2 (fun j v j1 j2 j3 ⟨v1, v2, v3⟩ => ⟨v1, v2, fun h => v3 (by omega)⟩) ⟨by omega, by omega, fun h => by omega⟩
          · rw [w6_in (by omega)]
            exact Has.ret (.next ⟨n1, by simp only []; omega, by simp only []; omega, n2⟩ (by simp only []; omega))
        · have hd : ¬ u.2 < w * h := fun q => hd (decide_eq_true q)
          exact Has.ret (.done ⟨u1, allI_mem (allI_mono u4 fun j v j1 j2 ⟨v1, v2, v3⟩ => ⟨v1, v2⟩)⟩)
      · rw [w6_in (by omega)]
        exact Has.ret (.next ⟨(((((t1.trans x3).trans y3).trans k3).trans g3).trans z3).more (by simp only []; omega), by simp only []; omega, by simp only []; omega, m1, m2⟩ (by simp only []; omega))
    · have hc : ¬ t.2.2 < points := fun q => hc (decide_eq_true q)
      have e : t.2.2 = points := by omega
      rw [e] at t1 t5
      exact Has.ret (.done ⟨t1, t4, t5⟩)
/-- A bound of a light, or none. -/
def veils (v : Int) (b : Bound) : Prop := b = ⟨0, 0, true⟩ ∨ (b.Unknown = false ∧ v - 200 ≤ b.Lo ∧ b.Lo ≤ v ∧ v ≤ b.Hi ∧ b.Hi ≤ v + 200)
theorem mosts_at (v : Int) (h : 0 ≤ v ∧ v < 4) : 0 ≤ gt ([0, 3, 30, 200] : List Int) v ∧ gt ([0, 3, 30, 200] : List Int) v ≤ 200 := by
  have : v = 0 ∨ v = 1 ∨ v = 2 ∨ v = 3 := by omega
  rcases this with rfl | rfl | rfl | rfl <;> decide
theorem veil_ok (s : spymake_Stream) (w h : Int) (light : List Int) (holes : Bool) (hs : okS s) (ha : s.at_ ≤ 4611686018427000000) (hn : light.length ≤ 1024) (hl : ∀ x ∈ light, -1000000000000 ≤ x ∧ x ≤ 1000000000000) :
    Has (Stream_Veil s w h light holes) fun r => r.1.W = w ∧ r.1.H = h ∧ r.1.At.length = light.length ∧ allI r.1.At (fun i b => veils (gt light i) b ∧ (holes = false → b.Unknown = false)) ∧ after s r.2 (1 + 3 * light.length) := by
  unfold Stream_Veil
  refine (next_ok s 4 hs (by omega) (by omega)).bind fun r ⟨r1, r2, r3⟩ => ?_
  have hr := r3.ok hs (by omega); have hh := r3.hi
  have hm := mosts_at r.1 ⟨r1, r2⟩
  refine Has.chk ⟨r1, by simpa using r2⟩ ?_
  refine (Has.loop (fun t : spymake_Stream × List Bound × Int => after r.2 t.1 (3 * t.2.2) ∧ 0 ≤ t.2.2 ∧ t.2.2 ≤ light.length ∧ (t.2.1.length : Int) = t.2.2 ∧ allI t.2.1 fun i b => veils (gt light i) b ∧ (holes = false → b.Unknown = false)) (fun t => (light.length - t.2.2).toNat)
    (fun o : spymake_Stream × List Bound => after r.2 o.1 (3 * light.length) ∧ o.2.length = light.length ∧ allI o.2 fun i b => veils (gt light i) b ∧ (holes = false → b.Unknown = false)) ⟨after.refl _, Int.le_refl _, by simp only []; omega, rfl, allI_nil⟩ (by simp only []; omega) fun t ⟨t1, t2, t3, t4, t5⟩ => ?_).bind
    fun o ⟨o1, o2, o3⟩ => Has.ret ⟨rfl, rfl, o2, o3, (r3.trans o1).more (by omega)⟩
  unfold Stream_Veil.l1
  refine Has.ite (fun hc => ?_) fun hc => ?_
  · have hc : t.2.2 < light.length := of_decide_eq_true hc
    have ht := t1.ok hr (by omega); have hht := t1.hi
    have hv := hl _ (gt_mem light t.2.2 ⟨t2, hc⟩)
    generalize gt ([0, 3, 30, 200] : List Int) r.1 = most at *
    rw [w6_in (n := most + 1) (by omega), w6_in (n := t.2.2 + 1) (by omega)]
    refine Has.chk ⟨t2, hc⟩ ((next_ok t.1 (most + 1) ht (by omega) (by omega)).bind fun a ⟨a1, a2, a3⟩ => ?_)
    have hA := a3.ok ht (by omega); have hha := a3.hi
    refine (next_ok a.2 (most + 1) hA (by omega) (by omega)).bind fun b ⟨b1, b2, b3⟩ => ?_
    have hB := b3.ok hA (by omega); have hhb := b3.hi
    rw [w6_in (n := gt light t.2.2 - a.1) (by omega), w6_in (n := gt light t.2.2 + b.1) (by omega)]
    refine Has.bind (P := fun z : spymake_Stream × Bool => after b.2 z.1 1 ∧ (holes = false → z.2 = false)) ?_ fun z ⟨z1, z2⟩ => ?_
    · refine Has.ite (fun hx => ?_) fun hx => Has.ret ⟨(after.refl _).more (by omega), fun _ => rfl⟩
      exact (next_ok b.2 9 hB (by omega) (by omega)).bind fun c ⟨c1, c2, c3⟩ => Has.ret ⟨c3, fun e => by rw [e] at hx; cases hx⟩
    have af : after r.2 z.1 (3 * (t.2.2 + 1)) := (((t1.trans a3).trans b3).trans z1).more (by omega)
    refine Has.ite (fun hz => ?_) fun hz => ?_
    · refine Has.chk (roomyI (by simp; omega) (by simp; omega)) (Has.ret (.next ⟨af, by simp only []; omega, by simp only []; omega, by simp; omega, allI_snoc t5 ⟨.inl rfl, fun e => ?_⟩⟩ (by simp only []; omega)))
      rw [z2 e] at hz; cases hz
    · refine Has.chk (roomyI (by simp; omega) (by simp; omega)) (Has.ret (.next ⟨af, by simp only []; omega, by simp only []; omega, by simp; omega, allI_snoc t5 ⟨.inr ⟨rfl, ?_⟩, fun _ => rfl⟩⟩ (by simp only []; omega)))
      rw [t4]
      simp only []
      omega
  · have hc : ¬ t.2.2 < light.length := fun q => hc (decide_eq_true q)
    have e : t.2.2 = light.length := by omega
    rw [e] at t1 t4
    exact Has.ret (.done ⟨t1, by simp only []; omega, t5⟩)
theorem veils.ok {v : Int} {b : Bound} (h : veils v b) (h1 : -1000000000000 ≤ v) (h2 : v ≤ 1000000000000) : b.ok ∧ -1099511627776 ≤ b.Lo ∧ b.Hi ≤ 1099511627776 := by
  rcases h with rfl | ⟨u, a, b', c, d⟩
  · exact ⟨okNone, by decide, by decide⟩
  · exact ⟨⟨(fun e => by rw [u] at e; cases e), by omega, by omega, by omega⟩, by omega, by omega⟩
end Lf
