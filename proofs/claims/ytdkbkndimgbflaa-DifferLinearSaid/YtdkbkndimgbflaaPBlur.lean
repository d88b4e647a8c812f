/- Laws of the plain functions. Conditions: as each theorem states them. -/
import Derived.Test.YtdkbkndimgbflaaPField
import Derived.Test.YtdkbkndimgbflaaPScale
/- Kernels, and the convolution of a field. -/
namespace Lf
open Go Go.Abs
set_option linter.unusedVariables false
set_option linter.unusedSimpArgs false
/-- A valid kernel. -/
structure okK (k : differ_Kernel) : Prop where
  w0 : 1 ≤ k.W
  w1 : k.W ≤ 9
  h0 : 1 ≤ k.H
  h1 : k.H ≤ 9
  len : (k.K.length : Int) = k.W * k.H
  all : ∀ w ∈ k.K, 0 ≤ w ∧ w ≤ 4096
  pos : ∃ w ∈ k.K, 0 < w
theorem okK.n {k : differ_Kernel} (h : okK k) : 1 ≤ (k.K.length : Int) ∧ (k.K.length : Int) ≤ 81 := by
  rw [h.len]
  have a := Int.mul_le_mul_of_nonneg_right h.w1 (show 0 ≤ k.H by have := h.h0; omega)
  have b := Int.mul_le_mul_of_nonneg_right h.w0 (show 0 ≤ k.H by have := h.h0; omega)
  have := h.h0; have := h.h1
  omega
theorem checkKernel_ok {k : differ_Kernel} (h : okK k) : differ_CheckKernel k = some 0 := by
  have hw0 := h.w0; have hw1 := h.w1; have hh0 := h.h0; have hh1 := h.h1
  have hn := h.n
  have e : w6 (k.W * k.H) = (k.K.length : Int) := by rw [← h.len]; exact w6_in (by omega)
  apply Has.val
  unfold differ_CheckKernel
  rw [e]
  have g1 : decide (k.W < 1) = false := decide_eq_false (by omega)
  have g2 : decide (k.W > 9) = false := decide_eq_false (by omega)
  have g3 : decide (k.H < 1) = false := decide_eq_false (by omega)
  have g4 : decide (k.H > 9) = false := decide_eq_false (by omega)
  simp only [g1, g2, g3, g4, ite_or, Bool.false_or, bne_self_eq_false, Option.bind_some, Bool.false_eq_true, if_false]
  obtain ⟨w, hw, hp⟩ := h.pos
  obtain ⟨p, hpl, rfl⟩ := List.getElem_of_mem hw
  refine Has.seq (P := fun t : Step Bool Int => t = .next true) ?_ (fun z hz => by cases hz; exact Has.neg (by simp) (Has.ret rfl)) (fun o ho => by cases ho)
  refine Has.loop (fun s : Bool × Int => 0 ≤ s.2 ∧ s.2 ≤ k.K.length ∧ ((p : Int) < s.2 → s.1 = true)) (fun s => (k.K.length - s.2).toNat) (fun t : Step Bool Int => t = .next true) ⟨Int.le_refl _, by simp only []; omega, fun q => by simp only [] at q; omega⟩ (by simp only []; omega) fun s ⟨s1, s2, s3⟩ => ?_
  unfold differ_CheckKernel.l1
  refine Has.ite (fun hi => ?_) fun hi => ?_
  · have hi : s.2 < k.K.length := of_decide_eq_true hi
    have b := h.all _ (gt_mem k.K s.2 ⟨s1, hi⟩)
    refine Has.chk ⟨s1, hi⟩ ?_
    have g5 : decide (gt k.K s.2 < 0) = false := decide_eq_false (by omega)
    have g6 : decide (gt k.K s.2 > 4096) = false := decide_eq_false (by omega)
    simp only [g5, g6, ite_or, Bool.false_or, Option.bind_some, Bool.false_eq_true, if_false]
    rw [w6_in (by omega)]
    refine Has.ite (fun hs => Has.ret (.next ⟨by simp only []; omega, by simp only []; omega, fun _ => rfl⟩ (by simp only []; omega))) fun hs => Has.ret (.next ⟨by simp only []; omega, by simp only []; omega, fun q => ?_⟩ (by simp only []; omega))
    simp only [] at q ⊢
    have : (p : Int) = s.2 := by
      by_cases e : (p : Int) = s.2
      · exact e
      · exact absurd (s3 (by omega)) hs
    have e2 := gt_def k.K s.2 ⟨s1, hi⟩
    have e3 : s.2.toNat = p := by omega
    simp only [e3] at e2
    rw [e2]; exact decide_eq_true hp
  · have hi : ¬ s.2 < k.K.length := fun q => hi (decide_eq_true q)
    exact Has.ret (.done (by rw [s3 (by omega)]))
/-! ### one cell of a convolution -/
def cellOf (c : Cells) (k : differ_Kernel) (x y j : Int) : Option (Int × Int) :=
  if gt k.K j = 0 then some (0, 0) else if x - j % k.W < 0 ∨ y - j / k.W < 0 then none
  else if (gt c.At ((y - j / k.W) * c.W + (x - j % k.W))).Unknown = true then none
  else some ((gt c.At ((y - j / k.W) * c.W + (x - j % k.W))).Lo * gt k.K j, (gt c.At ((y - j / k.W) * c.W + (x - j % k.W))).Hi * gt k.K j)
def plus2 : Option (Int × Int) → Option (Int × Int) → Option (Int × Int)
  | some (a, b), some (c, d) => some (a + c, b + d)
  | _, _ => none
def accu (c : Cells) (k : differ_Kernel) (x y : Int) : Nat → Option (Int × Int)
  | 0 => some (0, 0)
  | n + 1 => plus2 (accu c k x y n) (cellOf c k x y n)
def bdOf : Option (Int × Int) → Bound
  | none => ⟨0, 0, true⟩
  | some (l, h) => ⟨l, h, false⟩
theorem plus2_none (x : Option (Int × Int)) : plus2 x none = none := by cases x <;> rfl
theorem none_plus2 (x : Option (Int × Int)) : plus2 none x = none := by cases x <;> rfl
theorem accu_none {c : Cells} {k : differ_Kernel} {x y : Int} {m n : Nat} (h : accu c k x y m = none) (hmn : m ≤ n) : accu c k x y n = none := by
  induction n with
  | zero => have : m = 0 := by omega
            subst this; exact h
  | succ n ih =>
    by_cases e : m = n + 1
    · rw [← e]; exact h
    · unfold accu; rw [ih (by omega)]; exact none_plus2 _
/-- How large the cells of a field are. -/
def small (c : Cells) (M : Int) : Prop := ∀ b ∈ c.At, b.ok ∧ -M ≤ b.Lo ∧ b.Hi ≤ M
theorem idx_ok {W H u v : Int} (u0 : 0 ≤ u) (u1 : u < W) (v0 : 0 ≤ v) (v1 : v < H) : 0 ≤ v * W ∧ v * W + u < W * H := by
  have a := Int.mul_nonneg v0 (show 0 ≤ W by omega)
  have b := Int.mul_le_mul_of_nonneg_right (show v + 1 ≤ H by omega) (show 0 ≤ W by omega)
  rw [Int.add_mul, Int.one_mul, Int.mul_comm H W] at b
  omega
/-- What a cell of the kernel adds. -/
theorem cell_bd {c : Cells} {k : differ_Kernel} {x y j M m : Int} (hc : okF c) (hk : okK k) (hM : small c M) (hm : ∀ w ∈ k.K, w ≤ m) (x1 : x < c.W) (y1 : y < c.H) (j0 : 0 ≤ j) (j1 : j < k.K.length) (M0 : 0 ≤ M) {l h : Int} (e : cellOf c k x y j = some (l, h)) :
    l ≤ h ∧ -(M * m) ≤ l ∧ h ≤ M * m := by
  unfold cellOf at e
  have hw := hk.all _ (gt_mem k.K j ⟨j0, j1⟩)
  have hw2 := hm _ (gt_mem k.K j ⟨j0, j1⟩)
  have p := Int.mul_le_mul_of_nonneg_left hw2 M0
  have p0 := Int.mul_nonneg M0 hw.1
  split at e
  · cases e; omega
  · split at e
    · cases e
    · rename_i hx
      split at e
      · cases e
      · cases e
        have k1 := hk.w0
        have r0 := Int.emod_nonneg j (b := k.W) (by omega)
        have q0 := Int.ediv_nonneg j0 (show 0 ≤ k.W by omega)
        obtain ⟨i0, i1⟩ := idx_ok (W := c.W) (H := c.H) (u := x - j % k.W) (v := y - j / k.W) (by omega) (by omega) (by omega) (by omega)
        obtain ⟨b1, b2, b3⟩ := hM _ (gt_mem c.At ((y - j / k.W) * c.W + (x - j % k.W)) ⟨by omega, by rw [hc.len]; exact i1⟩)
        have s1 := Int.mul_le_mul_of_nonneg_right b1.le hw.1
        have s2 := Int.mul_le_mul_of_nonneg_right b2 hw.1
        have s3 := Int.mul_le_mul_of_nonneg_right b3 hw.1
        rw [Int.neg_mul] at s2
        omega
theorem accu_bd {c : Cells} {k : differ_Kernel} {x y M m : Int} (hc : okF c) (hk : okK k) (hM : small c M) (hm : ∀ w ∈ k.K, w ≤ m) (x1 : x < c.W) (y1 : y < c.H) (M0 : 0 ≤ M) : ∀ (n : Nat), n ≤ k.K.length → ∀ {l h : Int}, accu c k x y n = some (l, h) →
    l ≤ h ∧ -(n * (M * m)) ≤ l ∧ h ≤ n * (M * m)
  | 0, _, l, h, e => by cases e; simp
  | n + 1, hn, l, h, e => by
    unfold accu at e
    cases e1 : accu c k x y n with
    | none => rw [e1, none_plus2] at e; cases e
    | some a =>
      cases e2 : cellOf c k x y n with
      | none => rw [e2, plus2_none] at e; cases e
      | some b =>
        rw [e1, e2] at e
        have i1 := accu_bd hc hk hM hm x1 y1 M0 n (by omega) e1
        have i2 := cell_bd hc hk hM hm x1 y1 (by omega) (by omega) M0 e2
        cases e
        have : ((n + 1 : Nat) : Int) * (M * m) = n * (M * m) + M * m := by rw [Int.natCast_add, Int.add_mul]; simp
        rw [this]
        omega
theorem bdOf_ok {o : Option (Int × Int)} {B : Int} (hB : B ≤ 1152921504606846976) (h : ∀ l h, o = some (l, h) → l ≤ h ∧ -B ≤ l ∧ h ≤ B) : (bdOf o).ok := by
  cases o with
  | none => exact okNone
  | some p => obtain ⟨a, b, c⟩ := h p.1 p.2 rfl; exact okKnown (by omega) a (by omega)
theorem blurred_ok {c : Cells} {k : differ_Kernel} {x y M m : Int} (hc : okF c) (hk : okK k) (hM : small c M) (hm : ∀ w ∈ k.K, w ≤ m) (M0 : 0 ≤ M) (m0 : 0 ≤ m) (hB : 81 * (M * m) ≤ 1152921504606846976) (x0 : 0 ≤ x) (x1 : x < c.W) (y0 : 0 ≤ y) (y1 : y < c.H) :
    differ_blurred c k x y = some (bdOf (accu c k x y k.K.length)) := by
  have hn := hk.n
  have kw0 := hk.w0; have kw1 := hk.w1
  have cw0 := hc.w0; have cw1 := hc.w1; have ch0 := hc.h0; have ch1 := hc.h1
  have hMm := Int.mul_nonneg M0 m0
  apply Has.val
  unfold differ_blurred
  refine Has.seq (P := fun t : Step Bound Bound => t = .next (bdOf (accu c k x y k.K.length)) ∨ t = .done (bdOf (accu c k x y k.K.length))) ?_ (fun z hz => by rcases hz with e | e <;> cases e; exact Has.ret rfl) (fun o ho => by rcases ho with e | e <;> cases e; rfl)
  refine Has.loop (fun s : Bound × Int => 0 ≤ s.2 ∧ s.2 ≤ k.K.length ∧ s.1 = bdOf (accu c k x y s.2.toNat)) (fun s => (k.K.length - s.2).toNat) (fun t : Step Bound Bound => t = .next (bdOf (accu c k x y k.K.length)) ∨ t = .done (bdOf (accu c k x y k.K.length))) ⟨Int.le_refl _, by simp only []; omega, rfl⟩ (by simp only []; omega) fun s ⟨s1, s2, s3⟩ => ?_
  unfold differ_blurred.l1
  refine Has.ite (fun hi => ?_) fun hi => ?_
  · have hi : s.2 < k.K.length := of_decide_eq_true hi
    have esucc : accu c k x y (s.2.toNat + 1) = plus2 (accu c k x y s.2.toNat) (cellOf c k x y s.2) := by
      rw [accu]; congr 2; omega
    have r0 := Int.emod_nonneg s.2 (b := k.W) (by omega)
    have r1 := Int.emod_lt_of_pos s.2 (b := k.W) (by omega)
    have q0 := Int.ediv_nonneg s1 (show 0 ≤ k.W by omega)
    have q1 := Int.ediv_le_self k.W s1
    rw [Int.tmod_eq_emod_of_nonneg s1, Int.tdiv_eq_ediv_of_nonneg s1, w6_in (n := s.2 / k.W) (by omega), w6_in (n := x - s.2 % k.W) (by omega), w6_in (n := y - s.2 / k.W) (by omega), w6_in (n := s.2 + 1) (by omega)]
    have hw := hk.all _ (gt_mem k.K s.2 ⟨s1, hi⟩)
    refine Has.seq (P := fun t : Step Bound (Step (Bound × Int) (Step Bound Bound)) => t = .next (bdOf (accu c k x y (s.2.toNat + 1))) ∨ t = .done (.done (.done (bdOf (accu c k x y k.K.length))))) ?_ (fun z hz => ?_) (fun o ho => ?_)
    · refine Has.chk ⟨s1, hi⟩ (Has.chk (by omega) (Has.ite (fun hz => Has.ret (.inl ?_)) fun hz => ?_))
      · have hz : gt k.K s.2 = 0 := by simpa using hz
        have : cellOf c k x y s.2 = some (0, 0) := by unfold cellOf; rw [if_pos hz]
        rw [esucc, this, s3]
        cases accu c k x y s.2.toNat with
        | none => rfl
        | some p => simp [plus2, bdOf]
      · have hz : gt k.K s.2 ≠ 0 := by simpa using hz
        simp only [ite_or, Option.bind_some]
        refine Has.ite (fun ho => ?_) fun ho => ?_
        · have ho : x - s.2 % k.W < 0 ∨ y - s.2 / k.W < 0 := by simpa using ho
          have : cellOf c k x y s.2 = none := by unfold cellOf; rw [if_neg hz, if_pos ho]
          have : accu c k x y k.K.length = none := accu_none (m := s.2.toNat + 1) (by rw [esucc, this, plus2_none]) (by omega)
          rw [none_ok, this]
          exact Has.ret (.inr rfl)
        · have ho : ¬ (x - s.2 % k.W < 0 ∨ y - s.2 / k.W < 0) := by simpa using ho
          obtain ⟨i0, i1⟩ := idx_ok (W := c.W) (H := c.H) (u := x - s.2 % k.W) (v := y - s.2 / k.W) (by omega) (by omega) (by omega) (by omega)
          have ha := area hc.w0 hc.w1 hc.h0 hc.h1
          rw [w6_in (n := (y - s.2 / k.W) * c.W) (by omega), w6_in (n := (y - s.2 / k.W) * c.W + (x - s.2 % k.W)) (by omega)]
          have hin : 0 ≤ (y - s.2 / k.W) * c.W + (x - s.2 % k.W) ∧ (y - s.2 / k.W) * c.W + (x - s.2 % k.W) < c.At.length := ⟨by omega, by rw [hc.len]; exact i1⟩
          refine Has.letF (Has.chk hin ?_)
          obtain ⟨b1, b2, b3⟩ := hM _ (gt_mem c.At _ hin)
          have bm := Int.mul_le_mul_of_nonneg_left (hm _ (gt_mem k.K s.2 ⟨s1, hi⟩)) M0
          have accB := fun l h => accu_bd hc hk hM hm x1 y1 M0 s.2.toNat (l := l) (h := h) (by omega)
          have hB2 : (s.2.toNat : Int) * (M * m) ≤ 80 * (M * m) := Int.mul_le_mul_of_nonneg_right (by omega) hMm
          have accok : s.1.ok := by rw [s3]; exact bdOf_ok (B := 80 * (M * m)) (by omega) fun l h e => by obtain ⟨p1, p2, p3⟩ := accB l h e; omega
          by_cases hu : (gt c.At ((y - s.2 / k.W) * c.W + (x - s.2 % k.W))).Unknown = true
          · have ec : cellOf c k x y s.2 = none := by unfold cellOf; rw [if_neg hz, if_neg ho, if_pos hu]
            rw [scale_vague _ _ 1 b1 hu (by omega)]
            simp only [Option.bind_some]
            rw [add_vague accok okNone (by simp)]
            exact Has.ret (.inl (by rw [esucc, ec, plus2_none]; rfl))
          · have ec : cellOf c k x y s.2 = some ((gt c.At ((y - s.2 / k.W) * c.W + (x - s.2 % k.W))).Lo * gt k.K s.2, (gt c.At ((y - s.2 / k.W) * c.W + (x - s.2 % k.W))).Hi * gt k.K s.2) := by unfold cellOf; rw [if_neg hz, if_neg ho, if_neg hu]
            obtain ⟨e1, e2, e3⟩ := cell_bd hc hk hM hm x1 y1 s1 hi M0 ec
            rw [scale_one _ _ b1 (by simpa using hu) (by omega) (by omega) (by omega)]
            simp only [Option.bind_some]
            have hrok : Bound.ok ⟨(gt c.At ((y - s.2 / k.W) * c.W + (x - s.2 % k.W))).Lo * gt k.K s.2, (gt c.At ((y - s.2 / k.W) * c.W + (x - s.2 % k.W))).Hi * gt k.K s.2, false⟩ := okKnown (by omega) e1 (by omega)
            cases ea : accu c k x y s.2.toNat with
            | none =>
              have es : s.1 = ⟨0, 0, true⟩ := by rw [s3, ea]; rfl
              rw [es, add_vague okNone hrok (by simp)]
              exact Has.ret (.inl (by rw [esucc, ea, none_plus2]; rfl))
            | some p =>
              have es : s.1 = ⟨p.1, p.2, false⟩ := by rw [s3, ea]; rfl
              obtain ⟨p1, p2, p3⟩ := accB p.1 p.2 ea
              rw [es, add_known (by rw [← es]; exact accok) hrok rfl rfl (by simp only []; omega) (by simp only []; omega)]
              exact Has.ret (.inl (by rw [esucc, ea, ec]; rfl))
    · rcases hz with e | e
      · cases e
        exact Has.ret (.next ⟨by simp only []; omega, by simp only []; omega, by simp only []; congr 2; omega⟩ (by simp only []; omega))
      · cases e
    · rcases ho with e | e
      · cases e
      · cases e; exact .done (.inr rfl)
  · have hi : ¬ s.2 < k.K.length := fun q => hi (decide_eq_true q)
    exact Has.ret (.done (.inl (by rw [s3]; congr 2; congr 1; omega)))
end Lf
