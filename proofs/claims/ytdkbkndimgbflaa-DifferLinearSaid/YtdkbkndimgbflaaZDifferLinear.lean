/- Laws of the plain functions. Conditions: as each theorem states them. -/
import Derived.Test.YtdkbkndimgbflaaPBlur2
import Derived.Test.YtdkbkndimgbflaaPSame
/- DifferLinear: the convolution of a difference is the difference of the convolutions, and it contains that of the light. -/
namespace Lf
open Go Go.Abs
set_option linter.unusedVariables false
set_option linter.unusedSimpArgs false
theorem blurredFact : spykeep4_blurred = some true := by kernel_rfl
def sub2 : Option (Int × Int) → Option (Int × Int) → Option (Int × Int)
  | some (a, b), some (c, d) => some (a - d, b - c)
  | _, _ => none
theorem sub2_none (x : Option (Int × Int)) : sub2 x none = none := by cases x <;> rfl
theorem none_sub2 (x : Option (Int × Int)) : sub2 none x = none := by cases x <;> rfl
theorem bdOf_sub2 (x y : Option (Int × Int)) : bdOf (sub2 x y) = subB (bdOf x) (bdOf y) := by
  cases x with
  | none => cases y <;> rfl
  | some p => cases y <;> rfl
section
variable {a b d : Cells} {k : differ_Kernel} {x y : Int}
theorem cell_lin (hd : okF d) (hk : okK k) (wa : d.W = a.W) (wb : d.W = b.W) (hc : allI d.At fun i c => c = subB (gt a.At i) (gt b.At i)) (x1 : x < d.W) (y1 : y < d.H) {j : Int} (j0 : 0 ≤ j) :
    cellOf d k x y j = sub2 (cellOf a k x y j) (cellOf b k x y j) := by
  unfold cellOf
  rw [← wa, ← wb]
  by_cases hz : gt k.K j = 0
  · rw [if_pos hz, if_pos hz, if_pos hz]; rfl
  · rw [if_neg hz, if_neg hz, if_neg hz]
    by_cases ho : x - j % k.W < 0 ∨ y - j / k.W < 0
    · rw [if_pos ho, if_pos ho, if_pos ho]; rfl
    · rw [if_neg ho, if_neg ho, if_neg ho]
      have k1 := hk.w0
      have r0 := Int.emod_nonneg j (b := k.W) (by omega)
      have q0 := Int.ediv_nonneg j0 (show 0 ≤ k.W by omega)
      obtain ⟨i0, i1⟩ := idx_ok (W := d.W) (H := d.H) (u := x - j % k.W) (v := y - j / k.W) (by omega) (by omega) (by omega) (by omega)
      rw [hc ((y - j / k.W) * d.W + (x - j % k.W)) (by omega) (by rw [hd.len]; exact i1)]
      unfold subB
      cases hA : (gt a.At ((y - j / k.W) * d.W + (x - j % k.W))).Unknown with
      | true => simp [none_sub2]
      | false =>
        cases hB : (gt b.At ((y - j / k.W) * d.W + (x - j % k.W))).Unknown with
        | true => simp [sub2_none]
        | false => simp [sub2, Int.sub_mul]
theorem accu_lin (hd : okF d) (hk : okK k) (wa : d.W = a.W) (wb : d.W = b.W) (hc : allI d.At fun i c => c = subB (gt a.At i) (gt b.At i)) (x1 : x < d.W) (y1 : y < d.H) : ∀ n : Nat,
    accu d k x y n = sub2 (accu a k x y n) (accu b k x y n)
  | 0 => by simp [accu, sub2]
  | n + 1 => by
    simp only [accu]
    rw [accu_lin hd hk wa wb hc x1 y1 n, cell_lin hd hk wa wb hc x1 y1 (by omega)]
    cases accu a k x y n with
    | none => simp [none_sub2, none_plus2]
    | some p =>
      cases accu b k x y n with
      | none => simp [sub2_none, none_plus2]
      | some q =>
        cases cellOf a k x y n with
        | none => simp [none_sub2, plus2_none, sub2_none]
        | some r =>
          cases cellOf b k x y n with
          | none => simp [sub2_none, plus2_none]
          | some s => simp only [sub2, plus2, Option.some.injEq, Prod.mk.injEq]; omega
end
/-- A light lies in the bounds of a field, wherever they are known. -/
def holdsL (c : Cells) (f : Int → Int) : Prop := allI c.At fun i b => b.Unknown = false → b.Lo ≤ f i ∧ f i ≤ b.Hi
theorem cell_has {c : Cells} {k : differ_Kernel} {x y j : Int} (hc : okF c) (hk : okK k) (x1 : x < c.W) (y1 : y < c.H) (j0 : 0 ≤ j) (j1 : j < k.K.length) {f : Int → Int} (hf : holdsL c f) {l h : Int} (e : cellOf c k x y j = some (l, h)) :
    (gt k.K j = 0 ∧ l = 0 ∧ h = 0) ∨ (0 < gt k.K j ∧ 0 ≤ x - j % k.W ∧ 0 ≤ y - j / k.W ∧ l ≤ gt k.K j * f ((y - j / k.W) * c.W + (x - j % k.W)) ∧ gt k.K j * f ((y - j / k.W) * c.W + (x - j % k.W)) ≤ h) := by
  unfold cellOf at e
  have hw := hk.all _ (gt_mem k.K j ⟨j0, j1⟩)
  split at e
  · rename_i hz; cases e; exact .inl ⟨hz, rfl, rfl⟩
  · split at e
    · cases e
    · rename_i hz hx
      split at e
      · cases e
      · rename_i hu
        cases e
        have k1 := hk.w0
        have r0 := Int.emod_nonneg j (b := k.W) (by omega)
        have q0 := Int.ediv_nonneg j0 (show 0 ≤ k.W by omega)
        obtain ⟨i0, i1⟩ := idx_ok (W := c.W) (H := c.H) (u := x - j % k.W) (v := y - j / k.W) (by omega) (by omega) (by omega) (by omega)
        obtain ⟨f1, f2⟩ := hf ((y - j / k.W) * c.W + (x - j % k.W)) (by omega) (by rw [hc.len]; exact i1) (by simpa using hu)
        refine .inr ⟨by omega, by omega, by omega, ?_, ?_⟩
        · rw [Int.mul_comm (gt k.K j)]; exact Int.mul_le_mul_of_nonneg_right f1 hw.1
        · rw [Int.mul_comm (gt k.K j)]; exact Int.mul_le_mul_of_nonneg_right f2 hw.1
theorem some_le {c : Cells} {k : differ_Kernel} {x y : Int} {m n : Nat} {p : Int × Int} (h : accu c k x y n = some p) (hmn : m ≤ n) : ∃ q, accu c k x y m = some q := by
  cases e : accu c k x y m with
  | none => rw [accu_none e hmn] at h; cases h
  | some q => exact ⟨q, rfl⟩
theorem DifferLinear_true (l : List Int) (hl : okL l) : spykeep4_DifferLinear l = some true := by
  apply Has.val
  have h0 := okS.start hl
  unfold spykeep4_DifferLinear
  refine (range_ok _ 1 8 h0 (by simp only []; omega) (by omega) (by omega) (by omega)).bind fun r1 ⟨w0, w1, s1⟩ => ?_
  have o1 := s1.ok h0 (by simp only []; omega); have b1 := s1.hi
  refine (range_ok _ 1 8 o1 (by simp only [] at b1; omega) (by omega) (by omega) (by omega)).bind fun r2 ⟨g0, g1, s2⟩ => ?_
  have o2 := s2.ok o1 (by simp only [] at b1; omega); have b2 := s2.hi
  refine (lights_ok _ r1.1 r2.1 2 o2 (by simp only [] at b1; omega) w0 (by omega) g0 (by omega) (by omega) (by omega)).bind fun r3 ⟨v1, v2, v3, s3⟩ => ?_
  have o3 := s3.ok o2 (by simp only [] at b1; omega); have b3 := s3.hi
  refine (lights_ok _ r1.1 r2.1 2 o3 (by simp only [] at b1; omega) w0 (by omega) g0 (by omega) (by omega) (by omega)).bind fun r4 ⟨u1, u2, u3, s4⟩ => ?_
  have o4 := s4.ok o3 (by simp only [] at b1; omega); have b4 := s4.hi
  have hA := area w0 (show r1.1 ≤ 32 by omega) g0 (show r2.1 ≤ 32 by omega)
  have vl := v1.len; have ul := u1.len
  have vb : ∀ z ∈ r3.1, 0 ≤ z ∧ z ≤ 10037 := fun z hz => by have := v1.v z hz; omega
  have ub : ∀ z ∈ r4.1, 0 ≤ z ∧ z ≤ 10037 := fun z hz => by have := u1.v z hz; omega
  refine (veil_ok _ r1.1 r2.1 r3.1 true o4 (by simp only [] at b1; omega) (by omega) (fun z hz => by have := vb z hz; omega)).bind fun r5 ⟨a1, a2, a3, a4, s5⟩ => ?_
  have o5 := s5.ok o4 (by simp only [] at b1; omega); have b5 := s5.hi
  refine (veil_ok _ r1.1 r2.1 r4.1 true o5 (by simp only [] at b1; omega) (by omega) (fun z hz => by have := ub z hz; omega)).bind fun r6 ⟨c1, c2, c3, c4, s6⟩ => ?_
  have o6 := s6.ok o5 (by simp only [] at b1; omega); have b6 := s6.hi
  refine (kernel_ok _ o6 (by simp only [] at b1; omega)).bind fun r7 ⟨k1, k2, k3, k4, s7⟩ => ?_
  -- the two fields
  have mk : ∀ (c : Cells) (lt : List Int), c.W = r1.1 → c.H = r2.1 → c.At.length = lt.length → (lt.length : Int) = r1.1 * r2.1 → (∀ z ∈ lt, 0 ≤ z ∧ z ≤ 10037) → (allI c.At fun i b => veils (gt lt i) b ∧ (true = false → b.Unknown = false)) → okF c ∧ small c 10240 := by
    intro c lt e1 e2 e3 e4 e5 e6
    have e7 : ∀ i : Int, 0 ≤ i → i < c.At.length → (gt c.At i).ok ∧ -10240 ≤ (gt c.At i).Lo ∧ (gt c.At i).Hi ≤ 10240 := fun i i0 i1 => by
      have q := e5 _ (gt_mem lt i ⟨i0, by omega⟩)
      have p := (e6 i i0 i1).1
      have p2 := p.ok (by omega) (by omega)
      refine ⟨p2.1, ?_⟩
      rcases p with e | ⟨_, p⟩
      · rw [e]; decide
      · omega
    have e8 : small c 10240 := allI_mem (R := fun b : Bound => b.ok ∧ -10240 ≤ b.Lo ∧ b.Hi ≤ 10240) e7
    exact ⟨⟨by omega, by omega, by omega, by omega, by rw [e3, e4, e1, e2], fun b hb => by have := e8 b hb; exact ⟨this.1, by omega, by omega⟩⟩, e8⟩
  obtain ⟨fa, sa⟩ := mk r5.1 r3.1 a1 a2 a3 vl vb a4
  obtain ⟨fb, sb⟩ := mk r6.1 r4.1 c1 c2 c3 ul ub c4
  refine (dsub_ok fa fb (by rw [a1, c1]) (by rw [a2, c2]) sa sb (by omega) (by omega)).bind fun r8 ⟨d1, d2, d3, d4, d5⟩ => ?_
  have sd : small r8.1 20480 := allI_mem (R := fun b : Bound => b.ok ∧ -20480 ≤ b.Lo ∧ b.Hi ≤ 20480) fun i i0 i1 => by
    rw [d5 i i0 i1]
    obtain ⟨_, p2, p3, p4⟩ := subB_ok (sa _ (gt_mem r5.1.At i ⟨i0, by omega⟩)) (sb _ (gt_mem r6.1.At i ⟨i0, by omega⟩)) (by omega) (by omega)
    exact ⟨p2, by omega, by omega⟩
  have fd : okF r8.1 := ⟨by rw [d2]; exact fa.w0, by rw [d2]; exact fa.w1, by rw [d3]; exact fa.h0, by rw [d3]; exact fa.h1, by rw [d2, d3, d4]; exact fa.len, fun b hb => by have := sd b hb; exact ⟨this.1, by omega, by omega⟩⟩
  refine (blur_ok fd k1 sd k4 (by omega) (by omega) (by omega)).bind fun r9 ⟨x1, x2, x3, x4, x5⟩ => ?_
  refine (blur_ok fa k1 sa k4 (by omega) (by omega) (by omega)).bind fun r10 ⟨y1, y2, y3, y4, y5⟩ => ?_
  refine (blur_ok fb k1 sb k4 (by omega) (by omega) (by omega)).bind fun r11 ⟨z1, z2, z3, z4, z5⟩ => ?_
  have blurred : ∀ (c q : Cells), okF c → small c 10240 → q.W = c.W → q.H = c.H → q.At.length = c.At.length → (allI q.At fun i b => b = bdOf (accu c r7.1 (i % c.W) (i / c.W) r7.1.K.length)) → okF q ∧ small q 5000000 := by
    intro c q hc hs e1 e2 e3 e4
    have e8 : small q 5000000 := allI_mem (R := fun b : Bound => b.ok ∧ -5000000 ≤ b.Lo ∧ b.Hi ≤ 5000000) fun i i0 i1 => by
      rw [e4 i i0 i1]
      have m1 := Int.emod_lt_of_pos i (b := c.W) (by have := hc.w0; omega)
      have m2 : i / c.W < c.H := by have := hc.w0; rw [Int.ediv_lt_iff_lt_mul (by omega), Int.mul_comm, ← hc.len, ← e3]; exact i1
      have bd := fun l h => accu_bd hc k1 hs k4 m1 m2 (by omega) r7.1.K.length (Nat.le_refl _) (l := l) (h := h)
      have kn := k1.n
      refine ⟨bdOf_ok (B := 5000000) (by omega) fun l h e => by have := bd l h e; omega, ?_⟩
      cases e : accu c r7.1 (i % c.W) (i / c.W) r7.1.K.length with
      | none => simp [bdOf]
      | some p => have := bd p.1 p.2 e; simp only [bdOf]; omega
    exact ⟨⟨by rw [e1]; exact hc.w0, by rw [e1]; exact hc.w1, by rw [e2]; exact hc.h0, by rw [e2]; exact hc.h1, by rw [e1, e2, e3]; exact hc.len, fun b hb => by have := e8 b hb; exact ⟨this.1, by omega, by omega⟩⟩, e8⟩
  obtain ⟨fy, sy⟩ := blurred r5.1 r10.1 fa sa y2 y3 y4 y5
  obtain ⟨fz, sz⟩ := blurred r6.1 r11.1 fb sb z2 z3 z4 z5
  refine (dsub_ok fy fz (by rw [y2, z2, a1, c1]) (by rw [y3, z3, a2, c2]) sy sz (by omega) (by omega)).bind fun r12 ⟨t1, t2, t3, t4, t5⟩ => ?_
  have eW : r8.1.W = r5.1.W := d2
  have eWb : r8.1.W = r6.1.W := by rw [d2, a1, c1]
  -- they are the same
  have place : ∀ i : Int, 0 ≤ i → i < r9.1.At.length → i % r8.1.W < r8.1.W ∧ i / r8.1.W < r8.1.H := fun i i0 i1 => by
    have := fd.w0
    refine ⟨Int.emod_lt_of_pos i (by omega), ?_⟩
    rw [Int.ediv_lt_iff_lt_mul (by omega), Int.mul_comm, ← fd.len, ← x4]; exact i1
  have eq : r9.1 = r12.1 := by
    have e1 : r9.1.W = r12.1.W := by rw [x2, t2, y2, d2]
    have e2 : r9.1.H = r12.1.H := by rw [x3, t3, y3, d3]
    have e3 : r9.1.At = r12.1.At := gt_ext (by rw [x4, t4, y4, d4]) fun i i0 i1 => by
      have l9 : r9.1.At.length = r5.1.At.length := by rw [x4, d4]
      obtain ⟨p1, p2⟩ := place i i0 i1
      rw [x5 i i0 i1, t5 i i0 (by rw [t4, y4]; omega), y5 i i0 (by rw [y4]; omega), z5 i i0 (by rw [z4]; omega), ← bdOf_sub2, ← eW, ← eWb, accu_lin fd k1 eW eWb d5 p1 p2]
    cases h9 : r9.1; cases h12 : r12.1
    rw [h9, h12] at e1 e2 e3
    simp only [] at e1 e2 e3
    rw [e1, e2, e3]
  have l9 : (r9.1.At.length : Int) = r1.1 * r2.1 := by rw [x4, d4, a3]; exact vl
  have e6 : w6 (r1.1 * r2.1) = r1.1 * r2.1 := w6_in (by omega)
  rw [blurredFact, ← eq, same_ok r9.1 (by omega), d1, x1, y1, z1, t1, e6, l9]
  simp only [Option.bind_some, Bool.not_true, Bool.false_eq_true, if_false, bne_self_eq_false]
  -- the light
  have hold : holdsL r8.1 fun i => gt r3.1 i - gt r4.1 i := fun i i0 i1 hu => by
    have e : gt r8.1.At i = subB (gt r5.1.At i) (gt r6.1.At i) := d5 i i0 i1
    have p := (a4 i i0 (by omega)).1
    have q := (c4 i i0 (by omega)).1
    rw [e] at hu ⊢
    unfold subB at hu ⊢
    split at hu
    · cases hu
    · rename_i hn
      rw [if_neg hn]
      simp only [Bool.or_eq_true, not_or, Bool.not_eq_true] at hn
      rcases p with p | ⟨_, p1, p2, p3, p4⟩
      · rw [p] at hn; cases hn.1
      · rcases q with q | ⟨_, q1, q2, q3, q4⟩
        · rw [q] at hn; cases hn.2
        · simp only []; omega
  refine Has.seq (P := fun t : Step Unit Bool => t = .next ()) ?_ (fun _ _ => Has.ret rfl) (fun o ho => by cases ho)
  refine Has.loop (fun i : Int => 0 ≤ i ∧ i ≤ r9.1.At.length) (fun i => (r9.1.At.length - i).toNat) (fun t : Step Unit Bool => t = .next ()) ⟨Int.le_refl _, by omega⟩ (by omega) fun i ⟨i0, i1⟩ => ?_
  unfold spykeep4_DifferLinear.l1
  refine Has.ite (fun hi => ?_) fun hi => Has.ret (.done rfl)
  have hi : i < r9.1.At.length := of_decide_eq_true hi
  obtain ⟨p1, p2⟩ := place i i0 hi
  rw [w6_in (n := i + 1) (by omega)]
  refine Has.seq (P := fun t : Step Unit (Step Int (Step Unit Bool)) => t = .next ()) (Has.chk ⟨i0, hi⟩ (Has.ite (fun hu => Has.ret rfl) fun hu => ?_)) (fun _ _ => Has.ret (.next ⟨by omega, by omega⟩ (by omega))) (fun o ho => by cases ho)
  have ex : gt r9.1.At i = bdOf (accu r8.1 r7.1 (i % r8.1.W) (i / r8.1.W) r7.1.K.length) := x5 i i0 hi
  cases hacc : accu r8.1 r7.1 (i % r8.1.W) (i / r8.1.W) r7.1.K.length with
  | none => rw [ex, hacc] at hu; exact absurd rfl hu
  | some lh =>
    rw [hacc] at ex
    have kn := k1.n
    have kw0 := k1.w0; have kw1 := k1.w1
    have dW : r8.1.W = r1.1 := by rw [d2, a1]
    rw [dW] at hacc p1 p2
    refine Has.seq (P := fun t : Step Int (Step Unit (Step Int (Step Unit Bool))) => ∃ S, t = .next S ∧ lh.1 ≤ S ∧ S ≤ lh.2) ?_ (fun S ⟨S', e, q1, q2⟩ => ?_) (fun o ⟨S', e, _⟩ => by cases e)
    · refine Has.loop (fun s : Int × Int => 0 ≤ s.2 ∧ s.2 ≤ r7.1.K.length ∧ ∃ q, accu r8.1 r7.1 (i % r1.1) (i / r1.1) s.2.toNat = some q ∧ q.1 ≤ s.1 ∧ s.1 ≤ q.2) (fun s => (r7.1.K.length - s.2).toNat) (fun t : Step Int (Step Unit (Step Int (Step Unit Bool))) => ∃ S, t = .next S ∧ lh.1 ≤ S ∧ S ≤ lh.2) ⟨Int.le_refl _, by simp only []; omega, (0, 0), rfl, Int.le_refl _, Int.le_refl _⟩ (by simp only []; omega) fun s ⟨s1, s2, q, q1, q2, q3⟩ => ?_
      unfold spykeep4_DifferLinear.l2
      refine Has.ite (fun hj => ?_) fun hj => ?_
      · have hj : s.2 < r7.1.K.length := of_decide_eq_true hj
        have kj := k1.all _ (gt_mem r7.1.K s.2 ⟨s1, hj⟩)
        obtain ⟨q', q1'⟩ := some_le (m := s.2.toNat + 1) hacc (by omega)
        have esucc : accu r8.1 r7.1 (i % r1.1) (i / r1.1) (s.2.toNat + 1) = plus2 (accu r8.1 r7.1 (i % r1.1) (i / r1.1) s.2.toNat) (cellOf r8.1 r7.1 (i % r1.1) (i / r1.1) s.2) := by
          rw [accu]; congr 2; omega
        rw [q1, q1'] at esucc
        cases hcell : cellOf r8.1 r7.1 (i % r1.1) (i / r1.1) s.2 with
        | none => rw [hcell, plus2_none] at esucc; cases esucc
        | some e =>
          rw [hcell] at esucc
          have eq' : q' = (q.1 + e.1, q.2 + e.2) := Option.some.inj esucc
          have m0 := Int.emod_nonneg s.2 (b := r7.1.W) (by omega)
          have m1 := Int.emod_lt_of_pos s.2 (b := r7.1.W) (by omega)
          have n0 := Int.ediv_nonneg s1 (show 0 ≤ r7.1.W by omega)
          have n1 := Int.ediv_le_self r7.1.W s1
          have m2 := Int.emod_nonneg i (b := r1.1) (by omega)
          have n2 := Int.ediv_nonneg i0 (show 0 ≤ r1.1 by omega)
          have n3 := Int.ediv_le_self r1.1 i0
          rw [Int.tmod_eq_emod_of_nonneg s1, Int.tdiv_eq_ediv_of_nonneg s1, Int.tmod_eq_emod_of_nonneg i0, Int.tdiv_eq_ediv_of_nonneg i0]
          rw [w6_in (n := s.2 / r7.1.W) (by omega), w6_in (n := i / r1.1) (by omega), w6_in (n := i % r1.1 - s.2 % r7.1.W) (by omega), w6_in (n := i / r1.1 - s.2 / r7.1.W) (by omega), w6_in (n := s.2 + 1) (by omega)]
          have ch := cell_has fd k1 (by rw [dW]; exact p1) p2 s1 hj hold hcell
          rw [dW] at ch
          have ab := accu_bd fd k1 sd k4 (show i % r1.1 < r8.1.W by rw [dW]; exact p1) p2 (by omega) s.2.toNat (by omega) (l := q.1) (h := q.2) q1
          have cb := cell_bd fd k1 sd k4 (show i % r1.1 < r8.1.W by rw [dW]; exact p1) p2 s1 hj (by omega) hcell
          refine Has.seq (P := fun t : Step Int (Step (Int × Int) (Step Int (Step Unit (Step Int (Step Unit Bool))))) => ∃ S, t = .next S ∧ q.1 + e.1 ≤ S ∧ S ≤ q.2 + e.2) (Has.chk ⟨s1, hj⟩ (Has.chk (by omega) (Has.chk (by omega) ?_))) (fun S ⟨S', e1, e2, e3⟩ => ?_) (fun o ⟨S', e1, _⟩ => by cases e1)
          · rcases ch with ⟨c0, c1', c2'⟩ | ⟨c0, cx, cy, c1', c2'⟩
            · rw [c0]
              refine Has.bind (P := fun z => z = false) (Has.neg (by simp) (Has.ret rfl)) fun z hz => Has.neg (by rw [hz]; simp) (Has.neg (by simp) (Has.ret ⟨s.1, rfl, by omega, by omega⟩))
            · obtain ⟨i2, i3⟩ := idx_ok (W := r1.1) (H := r2.1) (u := i % r1.1 - s.2 % r7.1.W) (v := i / r1.1 - s.2 / r7.1.W) cx (by omega) cy (by rw [d3, a2] at p2; omega)
              refine Has.bind (P := fun z => z = false) (Has.pos (decide_eq_true c0) (Has.letF (Has.neg (by simp; omega) (Has.letF (Has.ret (decide_eq_false (by omega))))))) fun z hz => Has.neg (by rw [hz]; simp) (Has.pos (decide_eq_true c0) ?_)
              have x1 : w6 ((i / r1.1 - s.2 / r7.1.W) * r1.1) = (i / r1.1 - s.2 / r7.1.W) * r1.1 := w6_in (by omega)
              have x2 : w6 ((i / r1.1 - s.2 / r7.1.W) * r1.1 + (i % r1.1 - s.2 % r7.1.W)) = (i / r1.1 - s.2 / r7.1.W) * r1.1 + (i % r1.1 - s.2 % r7.1.W) := w6_in (by omega)
              have i4 : 0 ≤ (i / r1.1 - s.2 / r7.1.W) * r1.1 + (i % r1.1 - s.2 % r7.1.W) := by omega
              refine Has.letF (Has.letF ?_)
              simp only [x1, x2]
              refine Has.chk ⟨by omega, by omega⟩ (Has.letF (Has.letF ?_))
              simp only [x1, x2]
              refine Has.chk ⟨by omega, by omega⟩ (Has.letF ?_)
              clear x1 x2
              generalize (i / r1.1 - s.2 / r7.1.W) * r1.1 + (i % r1.1 - s.2 % r7.1.W) = at_ at *
              have vv := vb _ (gt_mem r3.1 at_ ⟨by omega, by omega⟩)
              have uu := ub _ (gt_mem r4.1 at_ ⟨by omega, by omega⟩)
              rw [w6_in (n := gt r3.1 at_ - gt r4.1 at_) (by omega)]
              generalize hp : gt r7.1.K s.2 * (gt r3.1 at_ - gt r4.1 at_) = pr at *
              have kl : (s.2.toNat : Int) * (20480 * 6) ≤ 81 * (20480 * 6) := by omega
              rw [w6_in (n := pr) (by omega), w6_in (n := s.1 + pr) (by omega)]
              exact Has.ret ⟨s.1 + pr, rfl, by omega, by omega⟩
          · cases e1
            refine Has.ret (.next ⟨by simp only []; omega, by simp only []; omega, q', ?_, ?_⟩ (by simp only []; omega))
            · simp only []; rw [← q1']; congr 1; omega
            · rw [eq']; exact ⟨e2, e3⟩
      · have hj : ¬ s.2 < r7.1.K.length := fun z => hj (decide_eq_true z)
        have e : s.2.toNat = r7.1.K.length := by omega
        rw [e, hacc] at q1
        cases q1
        exact Has.ret (.done ⟨s.1, rfl, q2, q3⟩)
    · cases e
      rw [ex, show bdOf (some lh) = ⟨lh.1, lh.2, false⟩ from rfl]
      simp only []
      refine Has.bind (P := fun z => z = false) (Has.neg (by simp; omega) (Has.ret (decide_eq_false (by omega)))) fun z hz => Has.neg (by rw [hz]; simp) (Has.ret rfl)
end Lf
