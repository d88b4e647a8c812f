/- Laws of the plain functions. Conditions: as each theorem states them. -/
import Derived.Test.YtdkbkndimgbflaaPBlur
/- Convolutions and differences of whole fields; the kernels that are drawn. -/
namespace Lf
open Go Go.Abs
set_option linter.unusedVariables false
set_option linter.unusedSimpArgs false
theorem limited_ok {b : Bound} {B : Int} (h1 : -B ≤ b.Lo) (h2 : b.Hi ≤ B) (hB : B ≤ 1099511627776) : differ_limited b = some b := by
  have g1 : decide (b.Lo < (-1099511627776)) = false := decide_eq_false (by omega)
  have g2 : decide (b.Hi > 1099511627776) = false := decide_eq_false (by omega)
  unfold differ_limited
  simp [g1, g2]
theorem blur_ok {c : Cells} {k : differ_Kernel} {M m : Int} (hc : okF c) (hk : okK k) (hM : small c M) (hm : ∀ w ∈ k.K, w ≤ m) (M0 : 0 ≤ M) (m0 : 0 ≤ m) (hB : 81 * (M * m) ≤ 1099511627776) :
    Has (differ_Blur c k) fun r => r.2 = 0 ∧ r.1.W = c.W ∧ r.1.H = c.H ∧ r.1.At.length = c.At.length ∧ allI r.1.At fun i b => b = bdOf (accu c k (i % c.W) (i / c.W) k.K.length) := by
  have hn := hc.n1
  have kn := hk.n
  have cw0 := hc.w0; have cw1 := hc.w1; have ch0 := hc.h0; have ch1 := hc.h1
  have hMm := Int.mul_nonneg M0 m0
  unfold differ_Blur
  rw [findCheck_ok hc, checkKernel_ok hk]
  simp only [Option.bind_some, bne_self_eq_false, Bool.false_eq_true, if_false]
  refine (Has.loop (fun s : List Bound × Int => 0 ≤ s.2 ∧ s.2 ≤ c.At.length ∧ (s.1.length : Int) = s.2 ∧ allI s.1 fun i b => b = bdOf (accu c k (i % c.W) (i / c.W) k.K.length)) (fun s => (c.At.length - s.2).toNat)
    (fun l : List Bound => l.length = c.At.length ∧ allI l fun i b => b = bdOf (accu c k (i % c.W) (i / c.W) k.K.length)) ⟨Int.le_refl _, by simp only []; omega, rfl, allI_nil⟩ (by simp only []; omega) fun s ⟨s1, s2, s3, s4⟩ => ?_).bind fun l ⟨l1, l2⟩ => Has.ret ⟨rfl, rfl, rfl, l1, l2⟩
  unfold differ_Blur.l1
  refine Has.ite (fun hi => ?_) fun hi => ?_
  · have hi : s.2 < c.At.length := of_decide_eq_true hi
    have r0 := Int.emod_nonneg s.2 (b := c.W) (by omega)
    have r1 := Int.emod_lt_of_pos s.2 (b := c.W) (by omega)
    have q0 := Int.ediv_nonneg s1 (show 0 ≤ c.W by omega)
    have q1 : s.2 / c.W < c.H := by rw [Int.ediv_lt_iff_lt_mul (by omega), Int.mul_comm, ← hc.len]; exact hi
    rw [Int.tmod_eq_emod_of_nonneg s1, Int.tdiv_eq_ediv_of_nonneg s1, w6_in (n := s.2 / c.W) (by omega), w6_in (n := s.2 + 1) (by omega), blurred_ok hc hk hM hm M0 m0 (by omega) r0 r1 q0 q1]
    simp only [Option.bind_some]
    have bd : -(81 * (M * m)) ≤ (bdOf (accu c k (s.2 % c.W) (s.2 / c.W) k.K.length)).Lo ∧ (bdOf (accu c k (s.2 % c.W) (s.2 / c.W) k.K.length)).Hi ≤ 81 * (M * m) := by
      cases e : accu c k (s.2 % c.W) (s.2 / c.W) k.K.length with
      | none => simp only [bdOf]; omega
      | some p =>
        obtain ⟨a, b, c'⟩ := accu_bd hc hk hM hm r1 q1 M0 k.K.length (Nat.le_refl _) (l := p.1) (h := p.2) e
        have : (k.K.length : Int) * (M * m) ≤ 81 * (M * m) := Int.mul_le_mul_of_nonneg_right (by omega) hMm
        simp only [bdOf]; omega
    rw [limited_ok bd.1 bd.2 hB]
    refine Has.chk (by omega) (Has.chk (roomyI (by simp; omega) (by simp; omega)) (Has.ret (.next ⟨by simp only []; omega, by simp only []; omega, by simp; omega, allI_snoc s4 ?_⟩ (by simp only []; omega))))
    rw [s3]
  · have hi : ¬ s.2 < c.At.length := fun q => hi (decide_eq_true q)
    exact Has.ret (.done ⟨by omega, s4⟩)
/-- The difference of two bounds. -/
def subB (a b : Bound) : Bound := if (a.Unknown || b.Unknown) = true then ⟨0, 0, true⟩ else ⟨a.Lo - b.Hi, a.Hi - b.Lo, false⟩
theorem subB_ok {a b : Bound} {M : Int} (ha : a.ok ∧ -M ≤ a.Lo ∧ a.Hi ≤ M) (hb : b.ok ∧ -M ≤ b.Lo ∧ b.Hi ≤ M) (M0 : 0 ≤ M) (hM : 2 * M ≤ 1152921504606846976) : bound_Sub a b = some (subB a b) ∧ (subB a b).ok ∧ -(2 * M) ≤ (subB a b).Lo ∧ (subB a b).Hi ≤ 2 * M := by
  obtain ⟨a1, a2, a3⟩ := ha
  obtain ⟨b1, b2, b3⟩ := hb
  have al := a1.le; have bl := b1.le
  unfold subB
  by_cases hu : (a.Unknown || b.Unknown) = true
  · rw [if_pos hu]
    refine ⟨?_, okNone, by simp only []; omega, by simp only []; omega⟩
    unfold bound_Sub
    rw [neg_ok b1]
    simp only [Option.bind_some]
    rw [add_vague (b := ⟨-b.Hi, -b.Lo, b.Unknown⟩) a1 ⟨fun e => by obtain ⟨p, q⟩ := b1.u e; simp only [p, q]; decide, by have := b1.hi; simp only []; omega, by simp only []; omega, by have := b1.lo; simp only []; omega⟩ hu]
    rfl
  · rw [if_neg hu]
    have hu : a.Unknown = false ∧ b.Unknown = false := by simpa using hu
    exact ⟨sub_known a1 b1 hu.1 hu.2 (by omega) (by omega), okKnown (by omega) (by omega) (by omega), by simp only []; omega, by simp only []; omega⟩
theorem dsub_ok {a b : Cells} {M : Int} (ha : okF a) (hb : okF b) (hw : a.W = b.W) (hh : a.H = b.H) (sa : small a M) (sb : small b M) (M0 : 0 ≤ M) (hM : 2 * M ≤ 1099511627776) :
    Has (differ_Sub a b) fun r => r.2 = 0 ∧ r.1.W = a.W ∧ r.1.H = a.H ∧ r.1.At.length = a.At.length ∧ allI r.1.At fun i c => c = subB (gt a.At i) (gt b.At i) := by
  have hn := ha.n1
  have hl : a.At.length = b.At.length := by have := ha.len; have := hb.len; rw [hw, hh] at *; omega
  unfold differ_Sub
  rw [findCheck_ok ha, findCheck_ok hb, hw, hh]
  simp only [Option.bind_some, bne_self_eq_false, Bool.false_eq_true, if_false]
  refine (Has.loop (fun s : List Bound × Int => 0 ≤ s.2 ∧ s.2 ≤ a.At.length ∧ (s.1.length : Int) = s.2 ∧ allI s.1 fun i c => c = subB (gt a.At i) (gt b.At i)) (fun s => (a.At.length - s.2).toNat)
    (fun l : List Bound => l.length = a.At.length ∧ allI l fun i c => c = subB (gt a.At i) (gt b.At i)) ⟨Int.le_refl _, by simp only []; omega, rfl, allI_nil⟩ (by simp only []; omega) fun s ⟨s1, s2, s3, s4⟩ => ?_).bind fun l ⟨l1, l2⟩ => Has.ret ⟨rfl, rfl, rfl, l1, l2⟩
  unfold differ_Sub.l1
  refine Has.ite (fun hi => ?_) fun hi => ?_
  · have hi : s.2 < a.At.length := of_decide_eq_true hi
    obtain ⟨e1, e2, e3, e4⟩ := subB_ok (sa _ (gt_mem a.At s.2 ⟨s1, hi⟩)) (sb _ (gt_mem b.At s.2 ⟨s1, by omega⟩)) M0 (by omega)
    rw [e1]
    simp only [Option.bind_some]
    rw [limited_ok e3 e4 hM, w6_in (n := s.2 + 1) (by omega)]
    refine Has.chk ⟨s1, hi⟩ (Has.chk ⟨s1, by omega⟩ (Has.chk (roomyI (by simp; omega) (by simp; omega)) (Has.ret (.next ⟨by simp only []; omega, by simp only []; omega, by simp; omega, allI_snoc s4 ?_⟩ (by simp only []; omega)))))
    rw [s3]
  · have hi : ¬ s.2 < a.At.length := fun q => hi (decide_eq_true q)
    exact Has.ret (.done ⟨by omega, s4⟩)
theorem kernel_ok (s : spymake_Stream) (hs : okS s) (ha : s.at_ ≤ 4611686018427000000) : Has (spykeep4_kernel s) fun r => okK r.1 ∧ r.1.W ≤ 3 ∧ r.1.H ≤ 3 ∧ (∀ w ∈ r.1.K, w ≤ 6) ∧ after s r.2 22 := by
  unfold spykeep4_kernel
  refine (range_ok s 1 3 hs (by omega) (by omega) (by omega) (by omega)).bind fun a ⟨a1, a2, a3⟩ => ?_
  have hA := a3.ok hs (by omega); have hha := a3.hi
  refine (range_ok a.2 1 3 hA (by omega) (by omega) (by omega) (by omega)).bind fun b ⟨b1, b2, b3⟩ => ?_
  have hB := b3.ok hA (by omega); have hhb := b3.hi
  have n0 : 1 ≤ a.1 * b.1 ∧ a.1 * b.1 ≤ 9 := by
    have p := Int.mul_le_mul_of_nonneg_right a2 (show 0 ≤ b.1 by omega)
    have q := Int.mul_le_mul_of_nonneg_right a1 (show 0 ≤ b.1 by omega)
    omega
  have eN : w6 (a.1 * b.1) = a.1 * b.1 := w6_in (by omega)
  refine (Has.loop (fun t : spymake_Stream × List Int × Int => after b.2 t.1 (2 * t.2.2) ∧ 0 ≤ t.2.2 ∧ t.2.2 ≤ a.1 * b.1 ∧ (t.2.1.length : Int) = t.2.2 ∧ ∀ w ∈ t.2.1, 0 ≤ w ∧ w ≤ 6) (fun t => (a.1 * b.1 - t.2.2).toNat)
    (fun o : spymake_Stream × List Int => after b.2 o.1 18 ∧ (o.2.length : Int) = a.1 * b.1 ∧ ∀ w ∈ o.2, 0 ≤ w ∧ w ≤ 6) ⟨after.refl _, Int.le_refl _, by simp only []; omega, rfl, by simp⟩ (by simp only []; omega) fun t ⟨t1, t2, t3, t4, t5⟩ => ?_).bind fun o ⟨o1, o2, o3⟩ => ?_
  · unfold spykeep4_kernel.l1
    rw [eN]
    refine Has.ite (fun hc => ?_) fun hc => ?_
    · have hc : t.2.2 < a.1 * b.1 := of_decide_eq_true hc
      have ht := t1.ok hB (by omega); have hht := t1.hi
      refine (next_ok t.1 4 ht (by omega) (by omega)).bind fun x ⟨x1, x2, x3⟩ => ?_
      have hx := x3.ok ht (by omega); have hhx := x3.hi
      refine (next_ok x.2 3 hx (by omega) (by omega)).bind fun y ⟨y1, y2, y3⟩ => ?_
      have hhy := y3.hi
      have p : 0 ≤ x.1 * y.1 ∧ x.1 * y.1 ≤ 6 := by
        have h0 := Int.mul_nonneg x1 y1
        have h1 := Int.mul_le_mul_of_nonneg_right (show x.1 ≤ 3 by omega) y1
        omega
      rw [w6_in (n := x.1 * y.1) (by omega), w6_in (n := t.2.2 + 1) (by omega)]
      refine Has.chk (roomyI (by simp; omega) (by simp; omega)) (Has.ret (.next ⟨((t1.trans x3).trans y3).more (by simp only []; omega), by simp only []; omega, by simp only []; omega, by simp; omega, fun w hw => ?_⟩ (by simp only []; omega)))
      rcases List.mem_append.1 hw with h | h
      · exact t5 w h
      · simp at h; omega
    · have hc : ¬ t.2.2 < a.1 * b.1 := fun q => hc (decide_eq_true q)
      exact Has.ret (.done ⟨t1.more (by omega), by simp only []; omega, t5⟩)
  · have hO := o1.ok hB (by omega); have hho := o1.hi
    refine (next_ok o.1 o.2.length hO (by omega) (by omega)).bind fun p ⟨p1, p2, p3⟩ => ?_
    have hP := p3.ok hO (by omega); have hhp := p3.hi
    refine (range_ok p.2 1 5 hP (by omega) (by omega) (by omega) (by omega)).bind fun v ⟨v1, v2, v3⟩ => ?_
    have all : ∀ w ∈ o.2.set p.1.toNat v.1, 0 ≤ w ∧ w ≤ 6 := fun w hw => by
      rcases List.mem_or_eq_of_mem_set hw with h | h
      · exact o3 w h
      · omega
    refine Has.chk ⟨p1, p2⟩ (Has.ret ⟨⟨a1, by simp only []; omega, b1, by simp only []; omega, by simp only [List.length_set]; exact o2, fun w hw => by have := all w hw; omega, v.1, ?_, by omega⟩, a2, b2, fun w hw => (all w hw).2, (((((a3.trans b3).trans o1).trans p3).trans v3)).more (by omega)⟩)
    exact List.mem_set (by omega) _
end Lf
