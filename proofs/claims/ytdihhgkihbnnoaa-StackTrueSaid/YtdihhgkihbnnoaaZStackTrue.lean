/- Laws of the plain functions. Conditions: as each theorem states them. -/
import Derived.Test.YtdihhgkihbnnoaaPStack2
/- StackTrue: the sum of what fields contain lies in their sum, and a light that all of them contain lies in their mean. -/
namespace Lf
open Go Go.Abs
set_option linter.unusedVariables false
set_option linter.unusedSimpArgs false
theorem piledFact : spykeep4_piled = some true := by kernel_rfl
theorem unk_01 (i : Int) (c : Cells) : (unk i c = 1 ∧ (gt c.At i).Unknown = true) ∨ (unk i c = 0 ∧ (gt c.At i).Unknown = false) := by
  unfold unk
  cases h : (gt c.At i).Unknown <;> simp
theorem unkS_bd (i : Int) (a : List Cells) : ∀ n : Nat, 0 ≤ sumI (fun j => unk i (gt a j)) n ∧ sumI (fun j => unk i (gt a j)) n ≤ n
  | 0 => by simp [sumI]
  | n + 1 => by
    have := unkS_bd i a n
    have := unk_01 i (gt a (n : Int))
    unfold sumI
    omega
theorem hol_bd (a : List Cells) (i : Int) : 0 ≤ hol a i ∧ hol a i ≤ a.length := unkS_bd i a a.length
/-- A veiled light is a field. -/
theorem veil_fld {c : Cells} {lt : List Int} {w h : Int} (z : size w h) (e1 : c.W = w) (e2 : c.H = h) (e3 : c.At.length = lt.length) (e4 : (lt.length : Int) = w * h) (e5 : ∀ z ∈ lt, 0 ≤ z ∧ z ≤ 100000) (e6 : allI c.At fun i b => veils (gt lt i) b) : fld w h c := by
  have e8 : ∀ b ∈ c.At, b.ok ∧ -1099511627776 ≤ b.Lo ∧ b.Hi ≤ 1099511627776 := allI_mem (R := fun b : Bound => b.ok ∧ -1099511627776 ≤ b.Lo ∧ b.Hi ≤ 1099511627776) fun i i0 i1 => by
    have q := e5 _ (gt_mem lt i ⟨i0, by omega⟩)
    exact (e6 i i0 i1).ok (by omega) (by omega)
  exact ⟨⟨by rw [e1]; exact z.w0, by rw [e1]; exact z.w1, by rw [e2]; exact z.h0, by rw [e2]; exact z.h1, by rw [e3, e4, e1, e2], e8⟩, e1, e2⟩
theorem veil_k {c : Cells} {lt : List Int} {i : Int} (i0 : 0 ≤ i) (i1 : i < c.At.length) (e6 : allI c.At fun i b => veils (gt lt i) b) : (unk i c = 1 ∧ klo i c = 0 ∧ khi i c = 0) ∨ (unk i c = 0 ∧ klo i c ≤ gt lt i ∧ gt lt i ≤ khi i c) := by
  unfold unk klo khi
  rcases e6 i i0 i1 with e | ⟨u, a, b, c', d⟩
  · left; rw [e]; simp
  · right; rw [u]; simp only [Bool.false_eq_true, if_false]; exact ⟨trivial, b, c'⟩
/-- What the loop keeps. -/
structure keepT (w h n : Int) (light sum : List Int) (a b : List Cells) : Prop where
  sl : (sum.length : Int) = w * h
  al : (a.length : Int) = n
  bl : (b.length : Int) = n
  fa : ∀ c ∈ a, fld w h c
  fb : ∀ c ∈ b, fld w h c
  s : allI sum fun p x => 0 ≤ x ∧ x ≤ 100000 * n ∧ (hol a p = 0 → slo a p ≤ x ∧ x ≤ shi a p)
  m : ∀ p : Int, 0 ≤ p → p < w * h → slo b p ≤ gt light p * (b.length - hol b p) ∧ gt light p * (b.length - hol b p) ≤ shi b p
theorem StackTrue_true (l : List Int) (hl : okL l) : spykeep4_StackTrue l = some true := by
  apply Has.val
  have h0 := okS.start hl
  unfold spykeep4_StackTrue
  refine (range_ok _ 1 6 h0 (by simp only []; omega) (by omega) (by omega) (by omega)).bind fun r1 ⟨w0, w1, s1⟩ => ?_
  have o1 := s1.ok h0 (by simp only []; omega); have b1 := s1.hi
  simp only [] at b1
  refine (range_ok _ 1 6 o1 (by omega) (by omega) (by omega) (by omega)).bind fun r2 ⟨g0, g1, s2⟩ => ?_
  have o2 := s2.ok o1 (by omega); have b2 := s2.hi
  refine (range_ok _ 1 8 o2 (by omega) (by omega) (by omega) (by omega)).bind fun r3 ⟨n0, n1, s3⟩ => ?_
  have o3 := s3.ok o2 (by omega); have b3 := s3.hi
  refine (lights_ok _ r1.1 r2.1 2 o3 (by omega) w0 (by omega) g0 (by omega) (by omega) (by omega)).bind fun r4 ⟨v1, v2, v3, s4⟩ => ?_
  have o4 := s4.ok o3 (by omega); have b4 := s4.hi
  have z : size r1.1 r2.1 := ⟨w0, by omega, g0, by omega⟩
  have zn := z.n
  have vl := v1.len
  have vb : ∀ z ∈ r4.1, 0 ≤ z ∧ z ≤ 100000 := fun z hz => by have := v1.v z hz; omega
  rw [w6_in (n := r1.1 * r2.1) (by omega)]
  refine Has.chk ⟨by omega, Int.le_refl _, roomyI (by omega) (by omega)⟩ ?_
  refine Has.bind (P := fun o : List Int × List Cells × List Cells => keepT r1.1 r2.1 r3.1 r4.1 o.1 o.2.1 o.2.2) ?_ fun o ho => ?_
  · refine Has.loop (fun t : spymake_Stream × List Int × List Cells × List Cells × Int => after r4.2.2 t.1 (10000 * t.2.2.2.2) ∧ 0 ≤ t.2.2.2.2 ∧ t.2.2.2.2 ≤ r3.1 ∧ keepT r1.1 r2.1 t.2.2.2.2 r4.1 t.2.1 t.2.2.1 t.2.2.2.1) (fun t => (r3.1 - t.2.2.2.2).toNat) _ ⟨after.refl _, Int.le_refl _, by simp only []; omega, by simp; omega, rfl, rfl, by simp, by simp, allI_rep fun i _ _ => ⟨Int.le_refl _, Int.le_refl _, fun _ => ⟨Int.le_refl _, Int.le_refl _⟩⟩, fun p _ _ => by simp [slo, shi, hol, sumI]⟩ (by simp only []; omega) fun t ⟨t1, t2, t3, k⟩ => ?_
    unfold spykeep4_StackTrue.l1
    refine Has.ite (fun hi => ?_) fun hi => ?_
    · have hi : t.2.2.2.2 < r3.1 := of_decide_eq_true hi
      have ht := t1.ok o4 (by omega); have hht := t1.hi
      refine (lights_ok _ r1.1 r2.1 1 ht (by omega) w0 (by omega) g0 (by omega) (by omega) (by omega)).bind fun r9 ⟨x1, x2, x3, x4⟩ => ?_
      have hx := x4.ok ht (by omega); have hhx := x4.hi
      have xl := x1.len
      have xb : ∀ z ∈ r9.1, 0 ≤ z ∧ z ≤ 100000 := fun z hz => by have := x1.v z hz; omega
      refine (veil_ok _ r1.1 r2.1 r9.1 true hx (by omega) (by omega) (fun z hz => by have := xb z hz; omega)).bind fun r10 ⟨a1, a2, a3, a4, a5⟩ => ?_
      have hA := a5.ok hx (by omega); have hha := a5.hi
      have kal := k.al; have kbl := k.bl; have ksl := k.sl
      refine Has.chk (roomyI (by simp; omega) (by simp; omega)) ((veil_ok _ r1.1 r2.1 r4.1 true hA (by omega) (by omega) (fun z hz => by have := vb z hz; omega)).bind fun r12 ⟨c1, c2, c3, c4, c5⟩ => ?_)
      have hhc := c5.hi
      have a4 : allI r10.1.At fun i b => veils (gt r9.1 i) b := allI_mono a4 fun i x _ _ h => h.1
      have c4 : allI r12.1.At fun i b => veils (gt r4.1 i) b := allI_mono c4 fun i x _ _ h => h.1
      have fa := veil_fld z a1 a2 a3 xl xb a4
      have fc := veil_fld z c1 c2 c3 vl vb c4
      refine Has.chk (roomyI (by simp; omega) (by simp; omega)) ?_
      refine Has.bind (P := fun q : List Int => (q.length : Int) = r1.1 * r2.1 ∧ allI q fun p x => 0 ≤ x ∧ x ≤ 100000 * (t.2.2.2.2 + 1) ∧ (hol (t.2.2.1 ++ [r10.1]) p = 0 → slo (t.2.2.1 ++ [r10.1]) p ≤ x ∧ x ≤ shi (t.2.2.1 ++ [r10.1]) p)) ?_ fun q ⟨q1, q2⟩ => ?_
      · have sh : ∀ i, hol (t.2.2.1 ++ [r10.1]) i = hol t.2.2.1 i + unk i r10.1 := fun i => sumI_snoc (unk i) _ _
        have sl : ∀ i, slo (t.2.2.1 ++ [r10.1]) i = slo t.2.2.1 i + klo i r10.1 := fun i => sumI_snoc (klo i) _ _
        have su : ∀ i, shi (t.2.2.1 ++ [r10.1]) i = shi t.2.2.1 i + khi i r10.1 := fun i => sumI_snoc (khi i) _ _
        refine Has.loop (fun u : List Int × Int => (u.1.length : Int) = r1.1 * r2.1 ∧ 0 ≤ u.2 ∧ u.2 ≤ r1.1 * r2.1 ∧ allI u.1 fun p x => (p < u.2 → 0 ≤ x ∧ x ≤ 100000 * (t.2.2.2.2 + 1) ∧ (hol (t.2.2.1 ++ [r10.1]) p = 0 → slo (t.2.2.1 ++ [r10.1]) p ≤ x ∧ x ≤ shi (t.2.2.1 ++ [r10.1]) p)) ∧ (u.2 ≤ p → 0 ≤ x ∧ x ≤ 100000 * t.2.2.2.2 ∧ (hol t.2.2.1 p = 0 → slo t.2.2.1 p ≤ x ∧ x ≤ shi t.2.2.1 p))) (fun u => (r1.1 * r2.1 - u.2).toNat) _ ⟨ksl, Int.le_refl _, by simp only []; omega, allI_mono k.s fun p x p0 p1 hp => ⟨fun h => by simp only [] at h; omega, fun _ => hp⟩⟩ (by simp only []; omega) fun u ⟨u1, u2, u3, u4⟩ => ?_
        unfold spykeep4_StackTrue.l2
        rw [xl]
        refine Has.ite (fun hj => ?_) fun hj => ?_
        · have hj : u.2 < r1.1 * r2.1 := of_decide_eq_true hj
          obtain ⟨p1, p2, p3⟩ := (u4 u.2 u2 (by omega)).2 (Int.le_refl _)
          have xv := xb _ (gt_mem r9.1 u.2 ⟨u2, by omega⟩)
          rw [w6_in (n := gt u.1 u.2 + gt r9.1 u.2) (by omega), w6_in (n := u.2 + 1) (by omega)]
          refine Has.chk ⟨u2, hj⟩ (Has.chk ⟨u2, by omega⟩ (Has.letF (Has.ret (.next ⟨by simp only [List.length_set]; exact u1, by simp only []; omega, by simp only []; omega, ?_⟩ (by simp only []; omega)))))
          refine allI_upd u4 u2 (fun j x j0 j1 jn ⟨hx1, hx2⟩ => ⟨fun h => hx1 (by simp only [] at h; omega), fun h => hx2 (by simp only [] at h; omega)⟩) ⟨fun _ => ⟨by omega, by omega, fun hz => ?_⟩, fun h => by simp only [] at h; omega⟩
          rw [sh] at hz
          rw [sl, su]
          have hb := hol_bd t.2.2.1 u.2
          rcases veil_k u2 (by omega) a4 with ⟨e1, _, _⟩ | ⟨e1, e2, e3⟩
          · omega
          · have := p3 (by omega); omega
        · have hj : ¬ u.2 < r1.1 * r2.1 := fun q => hj (decide_eq_true q)
          exact Has.ret (.done ⟨u1, allI_mono u4 fun p x p0 p1 hp => hp.1 (by omega)⟩)
      · rw [w6_in (n := t.2.2.2.2 + 1) (by omega)]
        refine Has.ret (.next ⟨(((t1.trans x4).trans a5).trans c5).more (by simp only []; omega), by simp only []; omega, by simp only []; omega, q1, by simp; omega, by simp; omega, ?_, ?_, q2, fun p p0 p1 => ?_⟩ (by simp only []; omega))
        · intro c hc
          rcases List.mem_append.1 hc with h | h
          · exact k.fa c h
          · simp at h; rw [h]; exact fa
        · intro c hc
          rcases List.mem_append.1 hc with h | h
          · exact k.fb c h
          · simp at h; rw [h]; exact fc
        · have sh : hol (t.2.2.2.1 ++ [r12.1]) p = hol t.2.2.2.1 p + unk p r12.1 := sumI_snoc (unk p) _ _
          have sl : slo (t.2.2.2.1 ++ [r12.1]) p = slo t.2.2.2.1 p + klo p r12.1 := sumI_snoc (klo p) _ _
          have su : shi (t.2.2.2.1 ++ [r12.1]) p = shi t.2.2.2.1 p + khi p r12.1 := sumI_snoc (khi p) _ _
          have m := k.m p p0 p1
          simp only []
          rw [sh, sl, su]
          have el : ((t.2.2.2.1 ++ [r12.1]).length : Int) = t.2.2.2.1.length + 1 := by simp
          rw [el]
          rcases veil_k (i := p) p0 (by omega) c4 with ⟨e1, e2, e3⟩ | ⟨e1, e2, e3⟩
          · have e : (t.2.2.2.1.length : Int) + 1 - (hol t.2.2.2.1 p + unk p r12.1) = t.2.2.2.1.length - hol t.2.2.2.1 p := by omega
            rw [e]; omega
          · have e : (t.2.2.2.1.length : Int) + 1 - (hol t.2.2.2.1 p + unk p r12.1) = t.2.2.2.1.length - hol t.2.2.2.1 p + 1 := by omega
            rw [e, Int.mul_add, Int.mul_one]; omega
    · have hi : ¬ t.2.2.2.2 < r3.1 := fun q => hi (decide_eq_true q)
      have e : t.2.2.2.2 = r3.1 := by omega
      rw [e] at k
      exact Has.ret (.done k)
  · have al := ho.al; have bl := ho.bl; have sl := ho.sl
    refine (all_ok z ho.fa (by omega) (by omega)).bind fun r20 ⟨p1, p2⟩ => (added_ok z ho.fb (by omega)).bind fun r21 ⟨q1, q2⟩ => (mean_ok z q2 ho.fb (by omega)).bind fun r22 ⟨m1, m2⟩ => ?_
    have pl := p2.len; have ml := m2.len
    rw [piledFact, p1, q1, m1, pl, ml]
    simp only [Option.bind_some, Bool.not_true, Bool.false_eq_true, if_false, bne_self_eq_false]
    refine Has.seq (P := fun t : Step Unit Bool => t = .next ()) ?_ (fun _ _ => Has.ret rfl) (fun o ho => by cases ho)
    refine Has.loop (fun i : Int => 0 ≤ i ∧ i ≤ o.1.length) (fun i => (o.1.length - i).toNat) (fun t : Step Unit Bool => t = .next ()) ⟨Int.le_refl _, by omega⟩ (by omega) fun i ⟨i0, i1⟩ => ?_
    unfold spykeep4_StackTrue.l3
    refine Has.ite (fun hi => ?_) fun hi => Has.ret (.done rfl)
    have hi : i < o.1.length := of_decide_eq_true hi
    have et : gt r20.1.At i = totB o.2.1 i := p2.at_ i i0 (by omega)
    have em : gt r22.1.At i = meanB o.2.2 i := m2.at_ i i0 (by omega)
    obtain ⟨x1, x2, x3⟩ := ho.s i i0 hi
    obtain ⟨y1, y2⟩ := ho.m i i0 (by omega)
    have ha := hol_bd o.2.1 i
    have hb := hol_bd o.2.2 i
    rw [et, em, w6_in (n := i + 1) (by omega)]
    refine Has.chk ⟨i0, by omega⟩ (Has.chk ⟨i0, by omega⟩ ?_)
    -- the mean has the light
    have hm : (meanB o.2.2 i).Unknown = false → (meanB o.2.2 i).Lo ≤ gt r4.1 i ∧ gt r4.1 i ≤ (meanB o.2.2 i).Hi := fun hu => by
      unfold meanB at hu ⊢
      split at hu
      · cases hu
      · rename_i hn
        rw [if_neg hn]
        have hk : 0 < (o.2.2.length : Int) - hol o.2.2 i := by omega
        refine ⟨?_, ?_⟩
        · exact Int.ediv_le_of_le_mul hk y1
        · simp only [cdiv]
          have : (-(shi o.2.2 i)) / ((o.2.2.length : Int) - hol o.2.2 i) ≤ -(gt r4.1 i) := Int.ediv_le_of_le_mul hk (by rw [Int.neg_mul]; omega)
          omega
    have ht : (totB o.2.1 i).Unknown = false → (totB o.2.1 i).Lo ≤ gt o.1 i ∧ gt o.1 i ≤ (totB o.2.1 i).Hi := fun hu => by
      unfold totB at hu ⊢
      split at hu
      · cases hu
      · rename_i hn
        rw [if_neg hn]
        exact x3 (by omega)
    have mean : Has (if (!(meanB o.2.2 i).Unknown) = true then if (0 : Int) ≤ i ∧ i < (r4.1.length : Int) then if (decide ((gt r4.1 i) < (meanB o.2.2 i).Lo)) = true then some true else some (decide ((gt r4.1 i) > (meanB o.2.2 i).Hi)) else none else some false) fun z => z = false := by
      refine Has.ite (fun hu => ?_) fun hu => Has.ret rfl
      have := hm (by simpa using hu)
      exact Has.chk ⟨i0, by omega⟩ (Has.neg (by simp; omega) (Has.ret (decide_eq_false (by omega))))
    refine Has.bind (P := fun z => z = false) (Has.ite (fun hu => ?_) fun hu => mean) fun z hz => Has.neg (by rw [hz]; simp) ?_
    · have := ht (by simpa using hu)
      exact Has.chk ⟨i0, hi⟩ (Has.neg (by simp; omega) (Has.neg (by simp; omega) mean))
    · have ut : (totB o.2.1 i).Unknown = decide (hol o.2.1 i > 0) := by
        unfold totB; by_cases h : hol o.2.1 i > 0
        · rw [if_pos h, decide_eq_true h]
        · rw [if_neg h, decide_eq_false h]
      have um : (meanB o.2.2 i).Unknown = decide (hol o.2.2 i = o.2.2.length) := by
        unfold meanB; by_cases h : hol o.2.2 i = o.2.2.length
        · rw [if_pos h, decide_eq_true h]
        · rw [if_neg h, decide_eq_false h]
      refine Has.bind (P := fun q : Bool × Bool => q.1 = decide (hol o.2.1 i > 0) ∧ q.2 = decide (hol o.2.2 i = o.2.2.length)) ?_ fun q ⟨e1, e2⟩ => ?_
      · refine Has.loop (fun t : Bool × Bool × Int => 0 ≤ t.2.2 ∧ t.2.2 ≤ o.2.1.length ∧ t.1 = decide (sumI (fun j => unk i (gt o.2.1 j)) t.2.2.toNat > 0) ∧ t.2.1 = decide (sumI (fun j => unk i (gt o.2.2 j)) t.2.2.toNat = t.2.2)) (fun t => (o.2.1.length - t.2.2).toNat) _ ⟨Int.le_refl _, by simp only []; omega, by simp [sumI], by simp [sumI]⟩ (by simp only []; omega) fun t ⟨t1, t2, t3, t4⟩ => ?_
        unfold spykeep4_StackTrue.l4
        refine Has.ite (fun hj => ?_) fun hj => ?_
        · have hj : t.2.2 < o.2.1.length := of_decide_eq_true hj
          have et1 : (t.2.2 + 1).toNat = t.2.2.toNat + 1 := by omega
          have et2 : ((t.2.2.toNat : Nat) : Int) = t.2.2 := by omega
          have fa := ho.fa _ (gt_mem o.2.1 t.2.2 ⟨t1, hj⟩)
          have fb := ho.fb _ (gt_mem o.2.2 t.2.2 ⟨t1, by omega⟩)
          have la : i < (gt o.2.1 t.2.2).At.length := by rw [fa.f.len, fa.ew, fa.eh]; omega
          have lb : i < (gt o.2.2 t.2.2).At.length := by rw [fb.f.len, fb.ew, fb.eh]; omega
          have sa := unkS_bd i o.2.1 t.2.2.toNat
          have sb := unkS_bd i o.2.2 t.2.2.toNat
          have ua := unk_01 i (gt o.2.1 t.2.2)
          have ub := unk_01 i (gt o.2.2 t.2.2)
          have na : sumI (fun j => unk i (gt o.2.1 j)) (t.2.2 + 1).toNat = sumI (fun j => unk i (gt o.2.1 j)) t.2.2.toNat + unk i (gt o.2.1 t.2.2) := by rw [et1, sumI, et2]
          have nb : sumI (fun j => unk i (gt o.2.2 j)) (t.2.2 + 1).toNat = sumI (fun j => unk i (gt o.2.2 j)) t.2.2.toNat + unk i (gt o.2.2 t.2.2) := by rw [et1, sumI, et2]
          rw [w6_in (n := t.2.2 + 1) (by omega)]
          generalize sumI (fun j => unk i (gt o.2.1 j)) t.2.2.toNat = A at *
          generalize sumI (fun j => unk i (gt o.2.2 j)) t.2.2.toNat = B at *
          have nx : ∀ p q : Bool, p = decide (A + unk i (gt o.2.1 t.2.2) > 0) → q = decide (B + unk i (gt o.2.2 t.2.2) = t.2.2 + 1) → Has (some (Step.next (p, q, t.2.2 + 1) : Step (Bool × Bool × Int) (Bool × Bool))) (StepOK (fun t : Bool × Bool × Int => 0 ≤ t.2.2 ∧ t.2.2 ≤ o.2.1.length ∧ t.1 = decide (sumI (fun j => unk i (gt o.2.1 j)) t.2.2.toNat > 0) ∧ t.2.1 = decide (sumI (fun j => unk i (gt o.2.2 j)) t.2.2.toNat = t.2.2)) (fun t => (o.2.1.length - t.2.2).toNat) (fun q : Bool × Bool => q.1 = decide (hol o.2.1 i > 0) ∧ q.2 = decide (hol o.2.2 i = o.2.2.length)) (o.2.1.length - t.2.2).toNat) := fun p q hp hq =>
            Has.ret (.next ⟨by simp only []; omega, by simp only []; omega, by simp only []; rw [na]; exact hp, by simp only []; rw [nb]; exact hq⟩ (by simp only []; omega))
          have da : (gt (gt o.2.1 t.2.2).At i).Unknown = decide (unk i (gt o.2.1 t.2.2) = 1) := by
            rcases ua with ⟨e, f⟩ | ⟨e, f⟩ <;> rw [e, f] <;> rfl
          have db : (gt (gt o.2.2 t.2.2).At i).Unknown = decide (unk i (gt o.2.2 t.2.2) = 1) := by
            rcases ub with ⟨e, f⟩ | ⟨e, f⟩ <;> rw [e, f] <;> rfl
          rw [t3, t4, da, db]
          refine Has.ite (fun h1 => ?_) fun h1 => ?_
          · have h1 := of_decide_eq_true h1
            have p1 : true = decide (A + unk i (gt o.2.1 t.2.2) > 0) := (decide_eq_true (by omega)).symm
            refine Has.ite (fun h2 => ?_) fun h2 => ?_
            · have h2 := of_decide_eq_true h2
              refine Has.chk ⟨t1, by omega⟩ (Has.chk ⟨i0, lb⟩ (nx _ _ p1 ?_))
              exact decide_eq_decide.2 (by omega)
            · have h2 : ¬ B = t.2.2 := fun q => h2 (decide_eq_true q)
              exact nx _ _ p1 (decide_eq_false (by omega)).symm
          · have h1 : ¬ A > 0 := fun q => h1 (decide_eq_true q)
            refine Has.chk ⟨t1, hj⟩ (Has.chk ⟨i0, la⟩ (Has.ite (fun h2 => ?_) fun h2 => ?_))
            · have h2 := of_decide_eq_true h2
              refine Has.chk ⟨t1, by omega⟩ (Has.chk ⟨i0, lb⟩ (nx _ _ ?_ ?_))
              · exact decide_eq_decide.2 (by omega)
              · exact decide_eq_decide.2 (by omega)
            · have h2 : ¬ B = t.2.2 := fun q => h2 (decide_eq_true q)
              exact nx _ _ (decide_eq_decide.2 (by omega)) (decide_eq_false (by omega)).symm
        · have hj : ¬ t.2.2 < o.2.1.length := fun q => hj (decide_eq_true q)
          have e : t.2.2.toNat = o.2.1.length := by omega
          have e' : o.2.1.length = o.2.2.length := by omega
          refine Has.ret (.done ⟨by rw [t3, e]; rfl, ?_⟩)
          rw [t4, show t.2.2 = ((o.2.2.length : Nat) : Int) by omega]
          rfl
      · rw [ut, um, e1, e2]
        refine Has.bind (P := fun z => z = false) (Has.neg (by simp) (Has.ret (by simp))) fun z hz => Has.neg (by rw [hz]; simp) (Has.ret (.next ⟨by omega, by omega⟩ (by omega)))
end Lf
