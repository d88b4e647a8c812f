/- Laws of the plain functions. Conditions: as each theorem states them. -/
import Derived.Test.YtlbbhiedfjpheaaY0
/- Dividing a product of kernels by one of them. -/
namespace Lf
open Go Go.Abs
set_option linter.unusedVariables false
set_option linter.unusedSimpArgs false
theorem sumN_tail {f : Int → Int} {i : Nat} : ∀ {n : Nat}, i < n → (∀ j : Int, i < j → j < n → f j = 0) → sumN f n = sumN f i + f i
  | 0, h, _ => by omega
  | n + 1, h, z => by
    simp only [sumN]
    by_cases e : i = n
    · rw [e]
    · rw [sumN_tail (n := n) (by omega) fun j j0 j1 => z j j0 (by omega), z n (by omega) (by omega)]; omega
theorem sumN_all0 {f : Int → Int} {n : Nat} (h : ∀ j : Int, 0 ≤ j → j < n → f j = 0) : sumN f n = 0 := by
  rw [sumN_congr (g := fun _ => 0) h, sumN_zero]
section
variable {a b p : differ_Kernel}
theorem ix_rc (ha : okK a) (hb : okK b) {i j : Int} (i0 : 0 ≤ i) (i1 : i < a.K.length) (j0 : 0 ≤ j) (j1 : j < b.K.length) : ix a b i j % (a.W + b.W - 1) = i % a.W + j % b.W ∧ ix a b i j / (a.W + b.W - 1) = i / a.W + j / b.W := by
  obtain ⟨p1, p2, p3, p4⟩ := xy_of ha i0 i1
  obtain ⟨q1, q2, q3, q4⟩ := xy_of hb j0 j1
  obtain ⟨e1, e2⟩ := (Int.ediv_emod_unique (show 0 < a.W + b.W - 1 by omega) (a := ix a b i j) (q := i / a.W + j / b.W) (r := i % a.W + j % b.W)).2 ⟨by unfold ix; rw [Int.mul_comm (a.W + b.W - 1)]; omega, by omega, by omega⟩
  exact ⟨e2, e1⟩
theorem div_mod_eq {i j w : Int} (h1 : i / w = j / w) (h2 : i % w = j % w) : i = j := by
  rw [← Int.mul_ediv_add_emod i w, ← Int.mul_ediv_add_emod j w, h1, h2]
theorem mod_le {i j w : Int} (h1 : i / w = j / w) (h : i ≤ j) : i % w ≤ j % w := by
  have e1 := Int.mul_ediv_add_emod i w
  have e2 := Int.mul_ediv_add_emod j w
  rw [h1] at e1
  omega
theorem ix_up (ha : okK a) (hb : okK b) {i i' j j' : Int} (i0 : 0 ≤ i) (i1 : i < a.K.length) (j0 : 0 ≤ j) (j1 : j < b.K.length) (k1 : i' < a.K.length) (l1 : j' < b.K.length) (hi : i ≤ i') (hj : j ≤ j') (e : ix a b i j = ix a b i' j') : i = i' ∧ j = j' := by
  obtain ⟨e1, e2⟩ := ix_rc ha hb i0 i1 j0 j1
  obtain ⟨f1, f2⟩ := ix_rc ha hb (i := i') (j := j') (by omega) k1 (by omega) l1
  rw [e] at e1 e2
  have w1 := ha.w0; have w2 := hb.w0
  have d1 := Int.ediv_le_ediv (show 0 < a.W by omega) hi
  have d2 := Int.ediv_le_ediv (show 0 < b.W by omega) hj
  have g1 : i / a.W = i' / a.W := by omega
  have g2 : j / b.W = j' / b.W := by omega
  have m1 := mod_le g1 hi
  have m2 := mod_le g2 hj
  exact ⟨div_mod_eq g1 (by omega), div_mod_eq g2 (by omega)⟩
/-- The part of a product that the first places make. -/
def part (a b : differ_Kernel) (m : Int) (n : Nat) : Int := sumN (fun i => sumN (fun j => if m = ix a b i j then gt a.K i * gt b.K j else 0) b.K.length) n
/-- .. and the part that one place makes. -/
def row1 (a b : differ_Kernel) (m i : Int) (n : Nat) : Int := sumN (fun j => if m = ix a b i j then gt a.K i * gt b.K j else 0) n
theorem quot_key (ha : okK a) (hb : okK b) {i f : Int} (i0 : 0 ≤ i) (i1 : i < a.K.length) (f0 : 0 ≤ f) (f1 : f < b.K.length) (hz : ∀ j : Int, 0 ≤ j → j < f → gt b.K j = 0) : prodAt a b (ix a b i f) - part a b (ix a b i f) i.toNat = gt a.K i * gt b.K f := by
  have hi : ((i.toNat : Nat) : Int) = i := by omega
  have e1 : prodAt a b (ix a b i f) = part a b (ix a b i f) i.toNat + row1 a b (ix a b i f) i b.K.length := by
    unfold prodAt part
    rw [sumN_tail (i := i.toNat) (by omega) fun i' h1 h2 => ?_, hi]
    · rfl
    · refine sumN_all0 fun j j0 j1 => ?_
      by_cases e : ix a b i f = ix a b i' j
      · rw [if_pos e]
        by_cases hj : j < f
        · rw [hz j j0 hj]; simp
        · have := ix_up ha hb i0 i1 f0 f1 h2 j1 (by omega) (by omega) e
          omega
      · rw [if_neg e]
  have e2 : row1 a b (ix a b i f) i b.K.length = gt a.K i * gt b.K f := by
    unfold row1
    rw [sumN_congr (g := fun j => if j = f then gt a.K i * gt b.K f else 0) fun j j0 j1 => ?_, sumN_one _ _ f0, if_pos f1]
    by_cases e : j = f
    · rw [e, if_pos rfl, if_pos rfl]
    · rw [if_neg e]
      by_cases e' : ix a b i f = ix a b i j
      · rw [if_pos e']
        by_cases hj : j < f
        · rw [hz j j0 hj]; simp
        · have := ix_up ha hb i0 i1 f0 f1 i1 j1 (Int.le_refl _) (by omega) e'
          omega
      · rw [if_neg e']
  omega
theorem sumN_bd {f : Int → Int} {c : Int} : ∀ {n : Nat}, (∀ j : Int, 0 ≤ j → j < n → 0 ≤ f j ∧ f j ≤ c) → 0 ≤ sumN f n ∧ sumN f n ≤ c * n
  | 0, _ => by simp [sumN]
  | n + 1, h => by
    have i := sumN_bd (n := n) fun j j0 j1 => h j j0 (by omega)
    have k := h n (by omega) (by omega)
    simp only [sumN]
    rw [show ((n + 1 : Nat) : Int) = n + 1 from by omega, Int.mul_add, Int.mul_one]; omega
theorem row1_bd (ha : smK a) (hb : smK b) {m i : Int} (i0 : 0 ≤ i) (i1 : i < a.K.length) {n : Nat} (hn : n ≤ b.K.length) : 0 ≤ row1 a b m i n ∧ row1 a b m i n ≤ 36 * n := by
  refine sumN_bd fun j j0 j1 => ?_
  have p := ha.o.all _ (gt_mem a.K i ⟨i0, i1⟩); have p2 := ha.m _ (gt_mem a.K i ⟨i0, i1⟩)
  have q := hb.o.all _ (gt_mem b.K j ⟨j0, by omega⟩); have q2 := hb.m _ (gt_mem b.K j ⟨j0, by omega⟩)
  have e1 := Int.mul_nonneg p.1 q.1
  have e2 := Int.mul_le_mul_of_nonneg_right p2 q.1
  split <;> omega
theorem smK.n {k : differ_Kernel} (h : smK k) : (k.K.length : Int) ≤ 9 := by
  rw [h.o.len]
  have w0 := h.o.w0; have w := h.w; have h0 := h.o.h0; have hh := h.h
  have p := Int.mul_le_mul_of_nonneg_right w (show 0 ≤ k.H by omega)
  omega
theorem part_bd (ha : smK a) (hb : smK b) {m : Int} {n : Nat} (hn : n ≤ a.K.length) : 0 ≤ part a b m n ∧ part a b m n ≤ 324 * n := by
  refine sumN_bd fun i i0 i1 => ?_
  have := row1_bd ha hb (m := m) i0 (show i < a.K.length by omega) (Nat.le_refl b.K.length)
  have := hb.n
  unfold row1 at *
  omega
theorem part_succ (m i : Int) (i0 : 0 ≤ i) : part a b m (i + 1).toNat = part a b m i.toNat + row1 a b m i b.K.length := by
  have hs : (i + 1).toNat = i.toNat + 1 := by omega
  have ht : ((i.toNat : Nat) : Int) = i := by omega
  unfold part row1
  rw [hs, sumN, ht]
end
theorem first_ok {b : differ_Kernel} (hb : okK b) : Has (differ_first b) fun f => 0 ≤ f ∧ f < b.K.length ∧ gt b.K f ≠ 0 ∧ ∀ j : Int, 0 ≤ j → j < f → gt b.K j = 0 := by
  have hn := hb.n
  unfold differ_first slices_IndexFunc_Int_differ_first_1
  refine Has.bind (P := fun f : Int => 0 ≤ f ∧ f < b.K.length ∧ gt b.K f ≠ 0 ∧ ∀ j : Int, 0 ≤ j → j < f → gt b.K j = 0) (Has.seq (P := fun t : Step Unit Int => ∃ f, t = .done f ∧ 0 ≤ f ∧ f < b.K.length ∧ gt b.K f ≠ 0 ∧ ∀ j : Int, 0 ≤ j → j < f → gt b.K j = 0) ?_ (fun s ⟨f, e, _⟩ => nomatch e) (fun o ⟨f, e, h⟩ => by cases e; exact h)) fun f h => Has.ret h
  refine Has.loop (fun i : Int => 0 ≤ i ∧ i ≤ b.K.length ∧ ∀ j : Int, 0 ≤ j → j < i → gt b.K j = 0) (fun i => (b.K.length - i).toNat) _ ⟨Int.le_refl _, by omega, fun j j0 j1 => by omega⟩ (by omega) fun i ⟨i0, i1, i2⟩ => ?_
  unfold slices_IndexFunc_Int_differ_first_1.l1 differ_first_1
  refine Has.ite (fun hi => ?_) fun hi => ?_
  · have hi : i < b.K.length := of_decide_eq_true hi
    rw [w6_in (n := i + 1) (by omega)]
    simp only [Option.bind_some]
    refine Has.chk ⟨i0, hi⟩ (Has.ite (fun hz => Has.ret (.done ⟨i, rfl, i0, hi, by simpa using hz, i2⟩)) fun hz => Has.ret (.next ⟨by omega, by omega, fun j j0 j1 => ?_⟩ (by omega)))
    by_cases e : j = i
    · rw [e]; simpa using hz
    · exact i2 j j0 (by omega)
  · have hi : ¬ i < b.K.length := fun q => hi (decide_eq_true q)
    obtain ⟨v, hv, v0⟩ := hb.pos
    obtain ⟨n, hn', rfl⟩ := List.getElem_of_mem hv
    have := i2 n (by omega) (by omega)
    rw [gt_def b.K n ⟨by omega, by omega⟩] at this
    simp only [show ((n : Int)).toNat = n from by omega] at this
    omega
theorem rest0_ok {l : List Int} (h : allI l fun _ x => x = 0) (hl : l.length ≤ 1000000) : slices_ContainsFunc_Int_differ_Quotient_2 l = some false := by
  apply Has.val
  unfold slices_ContainsFunc_Int_differ_Quotient_2 slices_IndexFunc_Int_differ_Quotient_2
  refine Has.bind (P := fun f : Int => f = -1) (Has.seq (P := fun t : Step Unit Int => t = .next ()) ?_ (fun _ _ => Has.ret rfl) (fun o ho => by cases ho)) fun f h => Has.ret (by rw [h]; rfl)
  refine Has.loop (fun i : Int => 0 ≤ i ∧ i ≤ l.length) (fun i => (l.length - i).toNat) _ ⟨Int.le_refl _, by omega⟩ (by omega) fun i ⟨i0, i1⟩ => ?_
  unfold slices_IndexFunc_Int_differ_Quotient_2.l1 differ_Quotient_2
  refine Has.ite (fun hi => ?_) fun hi => Has.ret (.done rfl)
  have hi : i < l.length := of_decide_eq_true hi
  rw [w6_in (n := i + 1) (by omega)]
  simp only [Option.bind_some]
  exact Has.chk ⟨i0, hi⟩ (Has.neg (by rw [h i i0 hi]; decide) (Has.ret (.next ⟨by omega, by omega⟩ (by omega))))
theorem cloneI_ok (l : List Int) (h0 : 1 ≤ l.length) (hl : l.length ≤ 1000000) : slices_Clone_Int l = some l := by
  unfold slices_Clone_Int
  cases l with
  | nil => simp at h0
  | cons x xs =>
    have h : roomy (([] : List Int).length + (x :: xs).length) 8 = true := roomyI (by simp; simp at hl; omega) (by simp; simp at hl; omega)
    simp only [nilF, List.isEmpty_cons, Bool.false_eq_true, if_false, Option.bind_some]
    rw [if_pos h]; rfl
theorem quotient_ok {a b p : differ_Kernel} (hp : isP a b p) (ha : smK a) (hb : smK b) : Has (differ_Quotient p b) fun r => r.2 = 0 ∧ r.1 = a := by
  have aw0 := ha.o.w0; have aw := ha.w; have ah0 := ha.o.h0; have ah := ha.h
  have bw0 := hb.o.w0; have bw := hb.w; have bh0 := hb.o.h0; have bh := hb.h
  have an : 1 ≤ a.W * a.H ∧ a.W * a.H ≤ 9 := by
    have p := Int.mul_le_mul_of_nonneg_right aw (show 0 ≤ a.H by omega)
    have q := Int.mul_le_mul_of_nonneg_right aw0 (show 0 ≤ a.H by omega)
    omega
  have al := ha.o.len
  have bn := hb.o.n
  have bn9 := hb.n
  have pk := hp.ok ha hb
  have pn := pk.n
  have pw := hp.w; have ph := hp.h; have pl := hp.len
  unfold differ_Quotient
  rw [checkKernel_ok pk, checkKernel_ok hb.o]
  simp only [Option.bind_some, bne_self_eq_false, Bool.false_eq_true, if_false]
  rw [w6_in (n := p.W - b.W) (by omega), w6_in (n := p.W - b.W + 1) (by omega), w6_in (n := p.H - b.H) (by omega), w6_in (n := p.H - b.H + 1) (by omega)]
  have eW : p.W - b.W + 1 = a.W := by omega
  have eH : p.H - b.H + 1 = a.H := by omega
  rw [eW, eH, w6_in (n := a.W * a.H) (by omega), cloneI_ok p.K (by omega) (by omega)]
  refine Has.bind (P := fun z => z = false) (Has.neg (by simp; omega) (Has.ret (decide_eq_false (by omega)))) fun z hz => Has.neg (by rw [hz]; decide) (Has.letF ?_)
  refine Has.chk ⟨by omega, Int.le_refl _, roomyI (by omega) (by omega)⟩ ?_
  simp only [Option.bind_some]
  refine (first_ok hb.o).bind fun f ⟨f0, f1, f2, f3⟩ => ?_
  have lr : (((List.replicate (a.W * a.H).toNat (0 : Int)).length : Nat) : Int) = a.W * a.H := by simp; omega
  refine Has.seq (P := fun t : Step (List Int × List Int) (differ_Kernel × Int) => ∃ q, t = .next (a.K, q) ∧ (q.length : Int) = p.K.length ∧ allI q fun _ x => x = 0) ?_ (fun s ⟨q, e, q1, q2⟩ => ?_) (fun o ⟨q, e, _⟩ => by cases e)
  · refine Has.loop (fun s : List Int × List Int × Int => 0 ≤ s.2.2 ∧ s.2.2 ≤ a.K.length ∧ s.1.length = a.K.length ∧ (allI s.1 fun i x => i < s.2.2 → x = gt a.K i) ∧ s.2.1.length = p.K.length ∧ allI s.2.1 fun m x => x = prodAt a b m - part a b m s.2.2.toNat) (fun s => (a.K.length - s.2.2).toNat) _ ⟨Int.le_refl _, by simp only []; omega, by simp only []; omega, fun i i0 i1 h => by simp only [] at h; omega, rfl, fun m m0 m1 => ?_⟩ (by simp only []; omega) fun s ⟨s0, s1, s2, s3, s4, s5⟩ => ?_
    · simp only []
      rw [(hp.at_ m m0 m1).1]; simp [part, sumN]
    unfold differ_Quotient.l1
    rw [lr]
    refine Has.letF (Has.ite (fun hi => ?_) fun hi => ?_)
    · have hi : s.2.2 < a.K.length := by have := of_decide_eq_true hi; omega
      have aw := ha.o.all _ (gt_mem a.K s.2.2 ⟨s0, hi⟩); have am := ha.m _ (gt_mem a.K s.2.2 ⟨s0, hi⟩)
      have at_ok : ∀ (j : Int) (k : List Int), 0 ≤ j → j < b.K.length → differ_Quotient_1 j s.2.2 (differ_Kernel.mk a.W a.H k) b p = some (ix a b s.2.2 j) := fun j k j0 j1 => by
        obtain ⟨p1, p2, p3, p4⟩ := xy_of ha.o s0 hi
        obtain ⟨q1, q2, q3, q4⟩ := xy_of hb.o j0 j1
        obtain ⟨x1, x2, x3⟩ := ix_bd ha.o hb.o s0 hi j0 j1
        rw [← pl] at x3
        apply Has.val
        unfold differ_Quotient_1
        refine Has.chk (by simp only []; omega) (Has.chk (by omega) (Has.letF (Has.ret ?_)))
        simp only []
        rw [Int.tmod_eq_emod_of_nonneg s0, Int.tdiv_eq_ediv_of_nonneg s0, Int.tmod_eq_emod_of_nonneg j0, Int.tdiv_eq_ediv_of_nonneg j0, w6_in (n := s.2.2 / a.W) (by omega), w6_in (n := j / b.W) (by omega), w6_in (n := s.2.2 / a.W + j / b.W) (by omega), pw]
        have xe : (s.2.2 / a.W + j / b.W) * (a.W + b.W - 1) + s.2.2 % a.W + j % b.W = ix a b s.2.2 j := rfl
        rw [w6_in (n := (s.2.2 / a.W + j / b.W) * (a.W + b.W - 1)) (by omega), w6_in (n := (s.2.2 / a.W + j / b.W) * (a.W + b.W - 1) + s.2.2 % a.W) (by omega), xe, w6_in (by omega)]
      rw [w6_in (n := p.W - b.W) (by omega), w6_in (n := p.W - b.W + 1) (by omega), w6_in (n := p.H - b.H) (by omega), w6_in (n := p.H - b.H + 1) (by omega), eW, eH, at_ok f _ f0 f1]
      simp only [Option.bind_some]
      obtain ⟨_, x2, x3⟩ := ix_bd ha.o hb.o s0 hi f0 f1
      rw [← pl] at x3
      have key : gt s.2.1 (ix a b s.2.2 f) = gt a.K s.2.2 * gt b.K f := by
        rw [s5 _ x2 (by omega)]; exact quot_key ha.o hb.o s0 hi f0 f1 f3
      have bf := hb.o.all _ (gt_mem b.K f ⟨f0, f1⟩)
      have eq : w6 (Int.tdiv (gt s.2.1 (ix a b s.2.2 f)) (gt b.K f)) = gt a.K s.2.2 := by
        rw [key, Int.mul_tdiv_cancel _ f2]; exact w6_in (by omega)
      refine Has.chk ⟨x2, by omega⟩ (Has.chk ⟨f0, f1⟩ (Has.chk f2 ?_))
      rw [eq]
      refine Has.bind (P := fun z => z = false) (Has.neg (by simp; omega) (Has.letF (Has.ret (decide_eq_false (by omega))))) fun z hz => Has.neg (by rw [hz]; decide) ?_
      refine Has.chk ⟨s0, by omega⟩ (Has.letF ?_)
      refine Has.bind (P := fun q : List Int => q.length = p.K.length ∧ allI q fun m x => x = prodAt a b m - part a b m (s.2.2 + 1).toNat) ?_ fun q ⟨q1, q2⟩ => ?_
      · refine Has.loop (fun t : List Int × Int => 0 ≤ t.2 ∧ t.2 ≤ b.K.length ∧ t.1.length = p.K.length ∧ allI t.1 fun m x => x = prodAt a b m - part a b m s.2.2.toNat - row1 a b m s.2.2 t.2.toNat) (fun t => (b.K.length - t.2).toNat) _ ⟨Int.le_refl _, by simp only []; omega, s4, fun m m0 m1 => ?_⟩ (by simp only []; omega) fun t ⟨t0, t1, t2, t3⟩ => ?_
        · have := s5 m m0 m1
          simp only [row1, sumN, Int.toNat_zero] at this ⊢; omega
        unfold differ_Quotient.l2
        refine Has.ite (fun hj => ?_) fun hj => ?_
        · have hj : t.2 < b.K.length := of_decide_eq_true hj
          have wb := hb.o.all _ (gt_mem b.K t.2 ⟨t0, hj⟩); have wm := hb.m _ (gt_mem b.K t.2 ⟨t0, hj⟩)
          have pr : 0 ≤ gt a.K s.2.2 * gt b.K t.2 ∧ gt a.K s.2.2 * gt b.K t.2 ≤ 36 := by
            have p := Int.mul_nonneg aw.1 wb.1
            have q := Int.mul_le_mul_of_nonneg_right am wb.1
            omega
          obtain ⟨_, y2, y3⟩ := ix_bd ha.o hb.o s0 hi t0 hj
          rw [← pl] at y3
          rw [w6_in (n := p.W - b.W) (by omega), w6_in (n := p.W - b.W + 1) (by omega), w6_in (n := p.H - b.H) (by omega), w6_in (n := p.H - b.H + 1) (by omega), eW, eH, at_ok t.2 _ t0 hj, eq, w6_in (n := t.2 + 1) (by omega)]
          simp only [Option.bind_some]
          rw [w6_in (n := gt a.K s.2.2 * gt b.K t.2) (by omega)]
          have old := t3 _ y2 (by omega)
          have pb := (hp.at_ _ y2 y3)
          have pt := part_bd ha hb (m := ix a b s.2.2 t.2) (n := s.2.2.toNat) (by omega)
          have rt := row1_bd ha hb (m := ix a b s.2.2 t.2) s0 hi (n := t.2.toNat) (by omega)
          have hs : (t.2 + 1).toNat = t.2.toNat + 1 := by omega
          have ht : ((t.2.toNat : Nat) : Int) = t.2 := by omega
          refine Has.chk ⟨t0, hj⟩ (Has.chk ⟨y2, by omega⟩ (Has.letF (Has.ret (.next ⟨by simp only []; omega, by simp only []; omega, by simp only [List.length_set]; exact t2, ?_⟩ (by simp only []; omega)))))
          rw [w6_in (n := gt t.1 (ix a b s.2.2 t.2) - gt a.K s.2.2 * gt b.K t.2) (by omega)]
          refine allI_upd t3 y2 (fun m x m0 m1 mn h => ?_) ?_
          · simp only []
            unfold row1 at h ⊢
            rw [hs, sumN, ht, if_neg (by omega), h]; omega
          · simp only []
            unfold row1 at old ⊢
            rw [hs, sumN, ht, if_pos rfl, old]; omega
        · have hj : ¬ t.2 < b.K.length := fun q => hj (decide_eq_true q)
          have e : t.2.toNat = b.K.length := by omega
          refine Has.ret (.done ⟨t2, allI_mono t3 fun m x _ _ h => ?_⟩)
          rw [h, e, part_succ m s.2.2 s0]; omega
      · rw [w6_in (n := s.2.2 + 1) (by omega)]
        refine Has.ret (.next ⟨by simp only []; omega, by simp only []; omega, by simp only [List.length_set]; exact s2, ?_, q1, q2⟩ (by simp only []; omega))
        refine allI_upd s3 s0 (fun j x j0 j1 jn h hj => h (by simp only [] at hj; omega)) fun _ => rfl
    · have hi : ¬ s.2.2 < a.K.length := fun q => hi (decide_eq_true (by omega))
      have e : s.2.2.toNat = a.K.length := by omega
      refine Has.ret (.done ⟨s.2.1, ?_, by omega, allI_mono s5 fun m x _ _ h => ?_⟩)
      · have : s.1 = a.K := gt_ext s2 fun i i0 i1 => s3 i i0 i1 (by omega)
        rw [this]
      · rw [h, e]; unfold prodAt part; omega
  · cases e
    simp only []
    rw [rest0_ok q2 (by omega)]
    simp only [Option.bind_some, Bool.false_eq_true, if_false]
    refine Has.ret ⟨rfl, rfl⟩
end Lf
/- Lights, and bounds of them. -/
namespace Lf
open Go Go.Abs
set_option linter.unusedVariables false
set_option linter.unusedSimpArgs false
/-- One point's light at a cell. -/
theorem point_ok {top k dx dy : Int} (h0 : 0 ≤ top) (h1 : top ≤ 4999) (k1 : 1 ≤ k) (k3 : k ≤ 3) (x0 : 0 ≤ dx) (x1 : dx ≤ k) (y0 : 0 ≤ dy) (y1 : dy ≤ k) :
    w6 ((w6 (top * (w6 ((w6 (k + 1)) - dx)))) * (w6 ((w6 (k + 1)) - dy))) = top * (k + 1 - dx) * (k + 1 - dy) ∧ w6 ((w6 (k + 1)) * (w6 (k + 1))) = (k + 1) * (k + 1) ∧ (k + 1) * (k + 1) ≠ 0 ∧
    w6 (Int.tdiv (top * (k + 1 - dx) * (k + 1 - dy)) ((k + 1) * (k + 1))) = top * (k + 1 - dx) * (k + 1 - dy) / ((k + 1) * (k + 1)) ∧ 0 ≤ top * (k + 1 - dx) * (k + 1 - dy) / ((k + 1) * (k + 1)) ∧ top * (k + 1 - dx) * (k + 1 - dy) / ((k + 1) * (k + 1)) ≤ top := by
  rw [w6_in (n := k + 1) (by omega), w6_in (n := k + 1 - dx) (by omega), w6_in (n := k + 1 - dy) (by omega)]
  have a0 := Int.mul_nonneg h0 (show 0 ≤ k + 1 - dx by omega)
  have a1 := Int.mul_le_mul_of_nonneg_left (show k + 1 - dx ≤ k + 1 by omega) h0
  have a2 := Int.mul_le_mul_of_nonneg_left (show k + 1 ≤ 4 by omega) h0
  have b0 := Int.mul_nonneg a0 (show 0 ≤ k + 1 - dy by omega)
  have b1 := Int.mul_le_mul_of_nonneg_left (show k + 1 - dy ≤ k + 1 by omega) a0
  have b2 := Int.mul_le_mul_of_nonneg_right a1 (show 0 ≤ k + 1 by omega)
  have b3 := Int.mul_le_mul_of_nonneg_left (show k + 1 ≤ 4 by omega) a0
  have c0 : 4 ≤ (k + 1) * (k + 1) ∧ (k + 1) * (k + 1) ≤ 16 := by
    have : k = 1 ∨ k = 2 ∨ k = 3 := by omega
    rcases this with rfl | rfl | rfl <;> decide
  have d0 : 0 ≤ top * (k + 1 - dx) * (k + 1 - dy) / ((k + 1) * (k + 1)) := Int.ediv_nonneg b0 (by omega)
  have d1 : top * (k + 1 - dx) * (k + 1 - dy) / ((k + 1) * (k + 1)) ≤ top := by
    have : top * (k + 1 - dx) * (k + 1 - dy) / ((k + 1) * (k + 1)) < top + 1 := by
      rw [Int.ediv_lt_iff_lt_mul (by omega), Int.add_mul, ← Int.mul_assoc]; omega
    omega
  refine ⟨?_, w6_in (by omega), by omega, ?_, d0, d1⟩
  · rw [w6_in (n := top * (k + 1 - dx)) (by omega)]; exact w6_in (by omega)
  · rw [Int.tdiv_eq_ediv_of_nonneg b0]; exact w6_in (by omega)
theorem tops_at (v : Int) (h : 0 ≤ v ∧ v < 3) : 1 ≤ gt ([30, 400, 5000] : List Int) v ∧ gt ([30, 400, 5000] : List Int) v ≤ 5000 := by
  have : v = 0 ∨ v = 1 ∨ v = 2 := by omega
  rcases this with rfl | rfl | rfl <;> decide
/-- What the light of a field is, of which the background is given. -/
structure okLt (n b : Int) (back : Int) (l : List Int) : Prop where
  len : (l.length : Int) = n
  v : ∀ x ∈ l, back ≤ x ∧ x ≤ b
theorem lights_ok (s : spymake_Stream) (w h points : Int) (hs : okS s) (ha : s.at_ ≤ 4611686018427000000) (w0 : 1 ≤ w) (w1 : w ≤ 32) (h0 : 1 ≤ h) (h1 : h ≤ 32) (p0 : 0 ≤ points) (p1 : points ≤ 10) :
    Has (Stream_Lights s w h points) fun r => okLt (w * h) (39 + 4999 * points) r.2.1 r.1 ∧ 0 ≤ r.2.1 ∧ r.2.1 ≤ 39 ∧ after s r.2.2 (1 + 5 * points) := by
  have hA := area w0 w1 h0 h1
  unfold Stream_Lights
  have eA : w6 (w * h) = w * h := w6_in (by omega)
  rw [eA]
  refine (next_ok s 40 hs (by omega) (by omega)).bind fun r ⟨r1, r2, r3⟩ => ?_
  refine Has.chk ⟨by omega, Int.le_refl _, roomyI (by omega) (by omega)⟩ ?_
  refine Has.bind (P := fun l : List Int => (l.length : Int) = w * h ∧ ∀ x ∈ l, x = r.1) ?_ fun l ⟨l1, l2⟩ => ?_
  · refine Has.loop (fun t : List Int × Int => (t.1.length : Int) = w * h ∧ 0 ≤ t.2 ∧ t.2 ≤ w * h ∧ allI t.1 fun j x => j < t.2 → x = r.1) (fun t => (w * h - t.2).toNat) _ ⟨by simp; omega, Int.le_refl _, by simp only []; omega, fun j j1 j2 j3 => by simp only [] at j3; omega⟩ (by simp only []; omega) fun t ⟨t1, t2, t3, t4⟩ => ?_
    unfold Stream_Lights.l1
    rw [eA]
    refine Has.letF (Has.ite (fun hc => ?_) fun hc => ?_)
    · have hc : t.2 < w * h := by simp at hc; omega
      rw [w6_in (by omega)]
      refine Has.chk ⟨t2, by omega⟩ (Has.ret (.next ⟨by simp only [List.length_set]; exact t1, by simp only []; omega, by simp only []; omega, ?_⟩ (by simp only []; omega)))
      exact allI_upd t4 t2 (fun j x j1 j2 j3 hx hj => by simp only [] at hj; exact hx (by omega)) fun _ => rfl
    · have hc : ¬ t.2 < w * h := by simp at hc; omega
      exact Has.ret (.done ⟨t1, allI_mem (allI_mono t4 fun j x j1 j2 hx => hx (by omega))⟩)
  · have hsr := r3.ok hs (by omega)
    have hh := r3.hi
    refine (Has.loop (fun t : spymake_Stream × List Int × Int => after r.2 t.1 (5 * t.2.2) ∧ 0 ≤ t.2.2 ∧ t.2.2 ≤ points ∧ (t.2.1.length : Int) = w * h ∧ ∀ x ∈ t.2.1, r.1 ≤ x ∧ x ≤ 39 + 4999 * t.2.2) (fun t => (points - t.2.2).toNat)
      (fun o : spymake_Stream × List Int => after r.2 o.1 (5 * points) ∧ okLt (w * h) (39 + 4999 * points) r.1 o.2) ⟨after.refl _, Int.le_refl _, p0, l1, fun x hx => by have := l2 x hx; simp only []; omega⟩ (by simp only []; omega) fun t ⟨t1, t2, t3, t4, t5⟩ => ?_).bind
      fun o ⟨o1, o2⟩ => Has.ret ⟨o2, r1, by simp only []; omega, (r3.trans o1).more (by omega)⟩
    unfold Stream_Lights.l2
    refine Has.ite (fun hc => ?_) fun hc => ?_
    · have hc : t.2.2 < points := of_decide_eq_true hc
      have hst := t1.ok hsr (by omega)
      have hht := t1.hi
      refine (next_ok t.1 w hst (by omega) (by omega)).bind fun x ⟨x1, x2, x3⟩ => ?_
      have hx := x3.ok hst (by omega); have hhx := x3.hi
      refine (next_ok x.2 h hx (by omega) (by omega)).bind fun y ⟨y1, y2, y3⟩ => ?_
      have hy := y3.ok hx (by omega); have hhy := y3.hi
      refine (range_ok y.2 1 3 hy (by omega) (by omega) (by omega) (by omega)).bind fun k ⟨k1, k2, k3⟩ => ?_
      have hk := k3.ok hy (by omega); have hhk := k3.hi
      refine (next_ok k.2 3 hk (by omega) (by omega)).bind fun g ⟨g1, g2, g3⟩ => ?_
      have hg := g3.ok hk (by omega); have hhg := g3.hi
      have ht := tops_at g.1 ⟨g1, g2⟩
      refine Has.chk ⟨g1, by simpa using g2⟩ ((next_ok g.2 _ hg (by omega) (by omega)).bind fun z ⟨z1, z2, z3⟩ => ?_)
      have hhz := z3.hi
      generalize gt ([30, 400, 5000] : List Int) g.1 = most at *
      refine Has.bind (P := fun l : List Int => (l.length : Int) = w * h ∧ ∀ x ∈ l, r.1 ≤ x ∧ x ≤ 39 + 4999 * (t.2.2 + 1)) ?_ fun l ⟨m1, m2⟩ => ?_
      · have ini : ∀ v : Int, r.1 ≤ v ∧ v ≤ 39 + 4999 * t.2.2 → ∀ {q : Prop}, r.1 ≤ v ∧ v ≤ 39 + 4999 * (t.2.2 + 1) ∧ (q → v ≤ 39 + 4999 * t.2.2) := fun v ⟨a, b⟩ _ => ⟨a, by omega, fun _ => b⟩
        refine Has.loop (fun u : List Int × Int => (u.1.length : Int) = w * h ∧ 0 ≤ u.2 ∧ u.2 ≤ w * h ∧ allI u.1 fun j x => r.1 ≤ x ∧ x ≤ 39 + 4999 * (t.2.2 + 1) ∧ (u.2 ≤ j → x ≤ 39 + 4999 * t.2.2)) (fun u => (w * h - u.2).toNat) _ ⟨t4, Int.le_refl _, by simp only []; omega, fun j j1 j2 => ini _ (t5 _ (gt_mem t.2.1 j ⟨j1, j2⟩))⟩ (by simp only []; omega) fun u ⟨u1, u2, u3, u4⟩ => ?_
        unfold Stream_Lights.l3
        rw [t4]
        refine Has.ite (fun hd => ?_) fun hd => ?_
        · have hd : u.2 < w * h := of_decide_eq_true hd
          have q0 := Int.tmod_nonneg w u2
          have q1 := Int.tmod_lt_of_pos u.2 (b := w) (by omega)
          have q2 : 0 ≤ Int.tdiv u.2 w := Int.tdiv_nonneg u2 (by omega)
          have q3 : Int.tdiv u.2 w < h := by rw [Int.tdiv_eq_ediv_of_nonneg u2, Int.ediv_lt_iff_lt_mul (by omega), Int.mul_comm]; exact hd
          refine Has.bind (P := fun l : List Int => (l.length : Int) = w * h ∧ allI l fun j x => r.1 ≤ x ∧ x ≤ 39 + 4999 * (t.2.2 + 1) ∧ (u.2 + 1 ≤ j → x ≤ 39 + 4999 * t.2.2)) ?_ fun l ⟨n1, n2⟩ => ?_
          · rw [w6_in (n := Int.tdiv u.2 w) (by omega), w6_in (n := Int.tmod u.2 w - x.1) (by omega), w6_in (n := x.1 - Int.tmod u.2 w) (by omega), w6_in (n := Int.tdiv u.2 w - y.1) (by omega), w6_in (n := y.1 - Int.tdiv u.2 w) (by omega)]
            refine Has.chk (by omega) (Has.letF (Has.letF ?_))
            have d1 := mx2_def (Int.tmod u.2 w - x.1) (x.1 - Int.tmod u.2 w)
            have d2 := mx2_def (Int.tdiv u.2 w - y.1) (y.1 - Int.tdiv u.2 w)
            generalize mx2 (Int.tmod u.2 w - x.1) (x.1 - Int.tmod u.2 w) = dx at *
            generalize mx2 (Int.tdiv u.2 w - y.1) (y.1 - Int.tdiv u.2 w) = dy at *
            simp only [ite_and, Option.bind_some]
            refine Has.ite (fun he => ?_) fun he => Has.ret ⟨u1, allI_mono u4 fun j v j1 j2 ⟨v1, v2, v3⟩ => ⟨v1, v2, fun h => v3 (by omega)⟩⟩
            simp only [Bool.and_eq_true, decide_eq_true_eq] at he
            obtain ⟨e1, e2, e3, e4, e5, e6⟩ := point_ok (top := z.1) (k := k.1) (dx := dx) (dy := dy) z1 (by omega) k1 k2 (by omega) he.1 (by omega) he.2
            rw [e1, e2]
            obtain ⟨v1, v2, v3⟩ := u4 u.2 u2 (by omega)
            have v3 := v3 (Int.le_refl _)
            refine Has.chk ⟨u2, by omega⟩ (Has.letF (Has.chk e3 (Has.letF (Has.ret ⟨by simp only [List.length_set]; exact u1, ?_⟩))))
            rw [e4]
            generalize z.1 * (k.1 + 1 - dx) * (k.1 + 1 - dy) / ((k.1 + 1) * (k.1 + 1)) = add at *
            rw [w6_in (n := gt u.1 u.2 + add) (by omega)]
            exact allI_upd u4 u2 (fun j v j1 j2 j3 ⟨v1, v2, v3⟩ => ⟨v1, v2, fun h => v3 (by omega)⟩) ⟨by omega, by omega, fun h => by omega⟩
          · rw [w6_in (by omega)]
            exact Has.ret (.next ⟨n1, by simp only []; omega, by simp only []; omega, n2⟩ (by simp only []; omega))
        · have hd : ¬ u.2 < w * h := fun q => hd (decide_eq_true q)
          exact Has.ret (.done ⟨u1, allI_mem (allI_mono u4 fun j v j1 j2 ⟨v1, v2, v3⟩ => ⟨v1, v2⟩)⟩)
      · rw [w6_in (by omega)]
        exact Has.ret (.next ⟨(((((t1.trans x3).trans y3).trans k3).trans g3).trans z3).more (by simp only []; omega), by simp only []; omega, by simp only []; omega, m1, m2⟩ (by simp only []; omega))
    · have hc : ¬ t.2.2 < points := fun q => hc (decide_eq_true q)
      have e : t.2.2 = points := by omega
      rw [e] at t1 t5
      exact Has.ret (.done ⟨t1, t4, t5⟩)
/-- A bound of a light, or none. -/
def veils (v : Int) (b : Bound) : Prop := b = ⟨0, 0, true⟩ ∨ (b.Unknown = false ∧ v - 200 ≤ b.Lo ∧ b.Lo ≤ v ∧ v ≤ b.Hi ∧ b.Hi ≤ v + 200)
theorem mosts_at (v : Int) (h : 0 ≤ v ∧ v < 4) : 0 ≤ gt ([0, 3, 30, 200] : List Int) v ∧ gt ([0, 3, 30, 200] : List Int) v ≤ 200 := by
  have : v = 0 ∨ v = 1 ∨ v = 2 ∨ v = 3 := by omega
  rcases this with rfl | rfl | rfl | rfl <;> decide
theorem veil_ok (s : spymake_Stream) (w h : Int) (light : List Int) (holes : Bool) (hs : okS s) (ha : s.at_ ≤ 4611686018427000000) (hn : light.length ≤ 1024) (hl : ∀ x ∈ light, -1000000000000 ≤ x ∧ x ≤ 1000000000000) :
    Has (Stream_Veil s w h light holes) fun r => r.1.W = w ∧ r.1.H = h ∧ r.1.At.length = light.length ∧ allI r.1.At (fun i b => veils (gt light i) b ∧ (holes = false → b.Unknown = false)) ∧ after s r.2 (1 + 3 * light.length) := by
  unfold Stream_Veil
  refine (next_ok s 4 hs (by omega) (by omega)).bind fun r ⟨r1, r2, r3⟩ => ?_
  have hr := r3.ok hs (by omega); have hh := r3.hi
  have hm := mosts_at r.1 ⟨r1, r2⟩
  refine Has.chk ⟨r1, by simpa using r2⟩ ?_
  refine (Has.loop (fun t : spymake_Stream × List Bound × Int => after r.2 t.1 (3 * t.2.2) ∧ 0 ≤ t.2.2 ∧ t.2.2 ≤ light.length ∧ (t.2.1.length : Int) = t.2.2 ∧ allI t.2.1 fun i b => veils (gt light i) b ∧ (holes = false → b.Unknown = false)) (fun t => (light.length - t.2.2).toNat)
    (fun o : spymake_Stream × List Bound => after r.2 o.1 (3 * light.length) ∧ o.2.length = light.length ∧ allI o.2 fun i b => veils (gt light i) b ∧ (holes = false → b.Unknown = false)) ⟨after.refl _, Int.le_refl _, by simp only []; omega, rfl, allI_nil⟩ (by simp only []; omega) fun t ⟨t1, t2, t3, t4, t5⟩ => ?_).bind
    fun o ⟨o1, o2, o3⟩ => Has.ret ⟨rfl, rfl, o2, o3, (r3.trans o1).more (by omega)⟩
  unfold Stream_Veil.l1
  refine Has.ite (fun hc => ?_) fun hc => ?_
  · have hc : t.2.2 < light.length := of_decide_eq_true hc
    have ht := t1.ok hr (by omega); have hht := t1.hi
    have hv := hl _ (gt_mem light t.2.2 ⟨t2, hc⟩)
    generalize gt ([0, 3, 30, 200] : List Int) r.1 = most at *
    rw [w6_in (n := most + 1) (by omega), w6_in (n := t.2.2 + 1) (by omega)]
    refine Has.chk ⟨t2, hc⟩ ((next_ok t.1 (most + 1) ht (by omega) (by omega)).bind fun a ⟨a1, a2, a3⟩ => ?_)
    have hA := a3.ok ht (by omega); have hha := a3.hi
    refine (next_ok a.2 (most + 1) hA (by omega) (by omega)).bind fun b ⟨b1, b2, b3⟩ => ?_
    have hB := b3.ok hA (by omega); have hhb := b3.hi
    rw [w6_in (n := gt light t.2.2 - a.1) (by omega), w6_in (n := gt light t.2.2 + b.1) (by omega)]
    refine Has.bind (P := fun z : spymake_Stream × Bool => after b.2 z.1 1 ∧ (holes = false → z.2 = false)) ?_ fun z ⟨z1, z2⟩ => ?_
    · refine Has.ite (fun hx => ?_) fun hx => Has.ret ⟨(after.refl _).more (by omega), fun _ => rfl⟩
      exact (next_ok b.2 9 hB (by omega) (by omega)).bind fun c ⟨c1, c2, c3⟩ => Has.ret ⟨c3, fun e => by rw [e] at hx; cases hx⟩
    have af : after r.2 z.1 (3 * (t.2.2 + 1)) := (((t1.trans a3).trans b3).trans z1).more (by omega)
    refine Has.ite (fun hz => ?_) fun hz => ?_
    · refine Has.chk (roomyI (by simp; omega) (by simp; omega)) (Has.ret (.next ⟨af, by simp only []; omega, by simp only []; omega, by simp; omega, allI_snoc t5 ⟨.inl rfl, fun e => ?_⟩⟩ (by simp only []; omega)))
      rw [z2 e] at hz; cases hz
    · refine Has.chk (roomyI (by simp; omega) (by simp; omega)) (Has.ret (.next ⟨af, by simp only []; omega, by simp only []; omega, by simp; omega, allI_snoc t5 ⟨.inr ⟨rfl, ?_⟩, fun _ => rfl⟩⟩ (by simp only []; omega)))
      rw [t4]
      simp only []
      omega
  · have hc : ¬ t.2.2 < light.length := fun q => hc (decide_eq_true q)
    have e : t.2.2 = light.length := by omega
    rw [e] at t1 t4
    exact Has.ret (.done ⟨t1, by simp only []; omega, t5⟩)
theorem veils.ok {v : Int} {b : Bound} (h : veils v b) (h1 : -1000000000000 ≤ v) (h2 : v ≤ 1000000000000) : b.ok ∧ -1099511627776 ≤ b.Lo ∧ b.Hi ≤ 1099511627776 := by
  rcases h with rfl | ⟨u, a, b', c, d⟩
  · exact ⟨okNone, by decide, by decide⟩
  · exact ⟨⟨(fun e => by rw [u] at e; cases e), by omega, by omega, by omega⟩, by omega, by omega⟩
end Lf
/- A field is the same as itself. -/
namespace Lf
open Go Go.Abs
set_option linter.unusedVariables false
set_option linter.unusedSimpArgs false
theorem equal_ok (l : List Bound) (hl : l.length ≤ 1000000000) : slices_Equal_Bound l l = some true := by
  apply Has.val
  unfold slices_Equal_Bound
  refine Has.neg (by simp) (Has.seq (P := fun t : Step Unit Bool => t = .next ()) ?_ (fun _ _ => Has.ret rfl) (fun o ho => by cases ho))
  refine Has.loop (fun i : Int => 0 ≤ i ∧ i ≤ l.length) (fun i => (l.length - i).toNat) (fun t : Step Unit Bool => t = .next ()) ⟨Int.le_refl _, by omega⟩ (by omega) fun i ⟨i1, i2⟩ => ?_
  unfold slices_Equal_Bound.l1
  refine Has.ite (fun hi => ?_) fun hi => Has.ret (.done rfl)
  have hi : i < l.length := of_decide_eq_true hi
  rw [w6_in (by omega)]
  exact Has.chk ⟨i1, hi⟩ (Has.chk ⟨i1, hi⟩ (Has.neg (by simp) (Has.ret (.next ⟨by omega, by omega⟩ (by omega)))))
theorem same_ok (c : Cells) (hl : c.At.length ≤ 1000000000) : spykeep4_same c c = some true := by
  unfold spykeep4_same
  rw [equal_ok _ hl]
  simp
end Lf
/- DifferTwice: convolving with two kernels is convolving with their product, in either order; a quotient by one of them is the other one. -/
namespace Lf
open Go Go.Abs
set_option linter.unusedVariables false
set_option linter.unusedSimpArgs false
theorem blurredFact : spykeep4_blurred = some true := by kernel_rfl
theorem equalI_ok (l : List Int) (hl : l.length ≤ 1000000000) : slices_Equal_Int l l = some true := by
  apply Has.val
  unfold slices_Equal_Int
  refine Has.neg (by simp) (Has.seq (P := fun t : Step Unit Bool => t = .next ()) ?_ (fun _ _ => Has.ret rfl) (fun o ho => by cases ho))
  refine Has.loop (fun i : Int => 0 ≤ i ∧ i ≤ l.length) (fun i => (l.length - i).toNat) (fun t : Step Unit Bool => t = .next ()) ⟨Int.le_refl _, by omega⟩ (by omega) fun i ⟨i1, i2⟩ => ?_
  unfold slices_Equal_Int.l1
  refine Has.ite (fun hi => ?_) fun hi => Has.ret (.done rfl)
  have hi : i < l.length := of_decide_eq_true hi
  rw [w6_in (by omega)]
  exact Has.chk ⟨i1, hi⟩ (Has.chk ⟨i1, hi⟩ (Has.neg (by simp) (Has.ret (.next ⟨by omega, by omega⟩ (by omega)))))
theorem timesP_ok {a b : differ_Kernel} (ha : smK a) (hb : smK b) : Has (differ_Times a b) fun r => r.2 = 0 ∧ isP a b r.1 := by
  unfold differ_Times
  rw [checkKernel_ok ha.o, checkKernel_ok hb.o]
  simp only [Option.bind_some, bne_self_eq_false, Bool.false_eq_true, if_false]
  refine (times_ok ha hb).bind fun p ⟨p1, p2, p3, p4⟩ => ?_
  have hp : isP a b p := ⟨p1, p2, p3, p4⟩
  rw [checkKernel_ok (hp.ok ha hb)]
  simp only [Option.bind_some, bne_self_eq_false, Bool.false_eq_true, if_false]
  exact Has.ret ⟨rfl, hp⟩
/-- A convolution is a field again. -/
theorem blur_fld {c q : Cells} {k : differ_Kernel} {M m B : Int} (hc : okF c) (hk : okK k) (hM : small c M) (hm : ∀ w ∈ k.K, w ≤ m) (M0 : 0 ≤ M) (m0 : 0 ≤ m) (hB : 81 * (M * m) ≤ B) (hB2 : B ≤ 1099511627776) (e1 : q.W = c.W) (e2 : q.H = c.H) (e3 : q.At.length = c.At.length) (e4 : allI q.At fun i b => b = bdOf (accu c k (i % c.W) (i / c.W) k.K.length)) : okF q ∧ small q B := by
  have hMm := Int.mul_nonneg M0 m0
  have e8 : small q B := allI_mem (R := fun b : Bound => b.ok ∧ -B ≤ b.Lo ∧ b.Hi ≤ B) fun i i0 i1 => by
    rw [e4 i i0 i1]
    have m1 := Int.emod_lt_of_pos i (b := c.W) (by have := hc.w0; omega)
    have m2 : i / c.W < c.H := by have := hc.w0; rw [Int.ediv_lt_iff_lt_mul (by omega), Int.mul_comm, ← hc.len, ← e3]; exact i1
    have bd := fun l h => accu_bd hc hk hM hm m1 m2 M0 k.K.length (Nat.le_refl _) (l := l) (h := h)
    have kn := hk.n
    have kb : (k.K.length : Int) * (M * m) ≤ 81 * (M * m) := Int.mul_le_mul_of_nonneg_right (by omega) hMm
    refine ⟨bdOf_ok (B := B) (by omega) fun l h e => by have := bd l h e; omega, ?_⟩
    cases e : accu c k (i % c.W) (i / c.W) k.K.length with
    | none => simp only [bdOf]; omega
    | some p => have := bd p.1 p.2 e; simp only [bdOf]; omega
  exact ⟨⟨by rw [e1]; exact hc.w0, by rw [e1]; exact hc.w1, by rw [e2]; exact hc.h0, by rw [e2]; exact hc.h1, by rw [e1, e2, e3]; exact hc.len, fun b hb => by have := e8 b hb; exact ⟨this.1, by omega, by omega⟩⟩, e8⟩
theorem DifferTwice_true (l : List Int) (hl : okL l) : spykeep4_DifferTwice l = some true := by
  apply Has.val
  have h0 := okS.start hl
  unfold spykeep4_DifferTwice
  refine (range_ok _ 1 9 h0 (by simp only []; omega) (by omega) (by omega) (by omega)).bind fun r1 ⟨w0, w1, s1⟩ => ?_
  have o1 := s1.ok h0 (by simp only []; omega); have b1 := s1.hi
  refine (range_ok _ 1 9 o1 (by simp only [] at b1; omega) (by omega) (by omega) (by omega)).bind fun r2 ⟨g0, g1, s2⟩ => ?_
  have o2 := s2.ok o1 (by simp only [] at b1; omega); have b2 := s2.hi
  refine (lights_ok _ r1.1 r2.1 2 o2 (by simp only [] at b1; omega) w0 (by omega) g0 (by omega) (by omega) (by omega)).bind fun r3 ⟨v1, v2, v3, s3⟩ => ?_
  have o3 := s3.ok o2 (by simp only [] at b1; omega); have b3 := s3.hi
  have hA := area w0 (show r1.1 ≤ 32 by omega) g0 (show r2.1 ≤ 32 by omega)
  have vl := v1.len
  have vb : ∀ z ∈ r3.1, 0 ≤ z ∧ z ≤ 10037 := fun z hz => by have := v1.v z hz; omega
  refine (veil_ok _ r1.1 r2.1 r3.1 true o3 (by simp only [] at b1; omega) (by omega) (fun z hz => by have := vb z hz; omega)).bind fun r4 ⟨a1, a2, a3, a4, s4⟩ => ?_
  have o4 := s4.ok o3 (by simp only [] at b1; omega); have b4 := s4.hi
  refine (kernel_ok _ o4 (by simp only [] at b1; omega)).bind fun r5 ⟨k1, k2, k3, k4, s5⟩ => ?_
  have o5 := s5.ok o4 (by simp only [] at b1; omega); have b5 := s5.hi
  refine (kernel_ok _ o5 (by simp only [] at b1; omega)).bind fun r6 ⟨m1, m2, m3, m4, s6⟩ => ?_
  have ka : smK r5.1 := ⟨k1, k2, k3, k4⟩
  have kb : smK r6.1 := ⟨m1, m2, m3, m4⟩
  -- the field
  have e7 : ∀ i : Int, 0 ≤ i → i < r4.1.At.length → (gt r4.1.At i).ok ∧ -10240 ≤ (gt r4.1.At i).Lo ∧ (gt r4.1.At i).Hi ≤ 10240 := fun i i0 i1 => by
    have q := vb _ (gt_mem r3.1 i ⟨i0, by omega⟩)
    have p := (a4 i i0 i1).1
    have p2 := p.ok (by omega) (by omega)
    refine ⟨p2.1, ?_⟩
    rcases p with e | ⟨_, p⟩
    · rw [e]; decide
    · omega
  have sc : small r4.1 10240 := allI_mem (R := fun b : Bound => b.ok ∧ -10240 ≤ b.Lo ∧ b.Hi ≤ 10240) e7
  have fc : okF r4.1 := ⟨by omega, by omega, by omega, by omega, by rw [a3, vl, a1, a2], fun b hb => by have := sc b hb; exact ⟨this.1, by omega, by omega⟩⟩
  -- the kernels
  refine (timesP_ok ka kb).bind fun r7 ⟨p1, p2⟩ => ?_
  refine (timesP_ok kb ka).bind fun r8 ⟨q1, q2⟩ => ?_
  refine (quotient_ok p2 ka kb).bind fun r9 ⟨d1, d2⟩ => ?_
  rw [blurredFact, p1, q1, d1]
  simp only [Option.bind_some, Bool.not_true, Bool.false_eq_true, if_false, bne_self_eq_false]
  have pk := p2.ok ka kb
  have pm : ∀ w ∈ r7.1.K, w ≤ 2916 := allI_mem (R := fun w : Int => w ≤ 2916) fun m m0 m1 => (p2.at_ m m0 m1).2.2
  refine (blur_ok fc k1 sc k4 (by omega) (by omega) (by omega)).bind fun r16 ⟨x1, x2, x3, x4, x5⟩ => ?_
  obtain ⟨fx, sx⟩ := blur_fld fc k1 sc k4 (by omega) (by omega) (B := 4976640) (by omega) (by omega) x2 x3 x4 x5
  refine (blur_ok fx m1 sx m4 (by omega) (by omega) (by omega)).bind fun r17 ⟨y1, y2, y3, y4, y5⟩ => ?_
  refine (blur_ok fc pk sc pm (by omega) (by omega) (by omega)).bind fun r18 ⟨z1, z2, z3, z4, z5⟩ => ?_
  have eq : r17.1 = r18.1 := by
    have e1 : r17.1.W = r18.1.W := by rw [y2, z2, x2]
    have e2 : r17.1.H = r18.1.H := by rw [y3, z3, x3]
    have e3 : r17.1.At = r18.1.At := gt_ext (by rw [y4, z4, x4]) fun i i0 i1 => by
      have cw := fc.w0
      have t1 := Int.emod_nonneg i (b := r4.1.W) (by omega)
      have t2 := Int.emod_lt_of_pos i (b := r4.1.W) (by omega)
      have t3 := Int.ediv_nonneg i0 (show 0 ≤ r4.1.W by omega)
      have t4 : i / r4.1.W < r4.1.H := by rw [Int.ediv_lt_iff_lt_mul (by omega), Int.mul_comm, ← fc.len, ← x4, ← y4]; exact i1
      rw [y5 i i0 i1, z5 i i0 (by rw [z4, ← x4, ← y4]; exact i1), x2, accu_twice p2 ka kb fc fx x2 x3 x5 t1 t2 t3 t4]
    cases h9 : r17.1; cases h12 : r18.1
    rw [h9, h12] at e1 e2 e3
    simp only [] at e1 e2 e3
    rw [e1, e2, e3]
  have eK : r7.1.K = r8.1.K := gt_ext (by have := p2.len; have := q2.len; rw [Int.add_comm r5.1.W, Int.add_comm r5.1.H] at *; omega) fun m m0 m1 => by
    rw [(p2.at_ m m0 m1).1, (q2.at_ m m0 (by have := p2.len; have := q2.len; rw [Int.add_comm r5.1.W, Int.add_comm r5.1.H] at *; omega)).1, prodAt_comm]
  have eW : r7.1.W = r8.1.W := by rw [p2.w, q2.w, Int.add_comm]
  have n17 : r17.1.At.length ≤ 1000000000 := by rw [y4, x4, a3]; omega
  have pn := pk.n
  have an := k1.n
  rw [x1, y1, z1, ← eq, same_ok r17.1 n17, ← eK, equalI_ok r7.1.K (by omega), ← eW, d2, equalI_ok r5.1.K (by omega)]
  simp only [Option.bind_some, Bool.not_true, Bool.false_eq_true, if_false, bne_self_eq_false, beq_self_eq_true, if_true]
  exact Has.ret rfl
end Lf
