/- Laws of the plain functions. Conditions: as each theorem states them. -/
import Derived.Test.YtnohkpdmfibcgaaD
import Derived.Test.YtnohkpdmfibcgaaA4
import Derived.Sort.AssemblyPlain
/- Plain facts of streams and bounds, for the functions of CumD. -/
namespace Lf
open Go Go.Abs
set_option linter.unusedVariables false
set_option linter.unusedSimpArgs false
/-! streams -/
/-- What a stream must be. -/
structure okS (s : spymake_Stream) : Prop where
  z : ∀ z ∈ s.L, -9223372036854775808 ≤ z ∧ z ≤ 9223372036854775807
  len : s.L.length ≤ 17592186044416
  a0 : 0 ≤ s.at_
  a1 : s.at_ ≤ 4611686018427387904
theorem okS.start {l : List Int} (h : okL l) : okS (spymake_Stream.mk l 0) := ⟨h.z, by have := h.len; simp only []; omega, Int.le_refl _, by simp only []; omega⟩
/-- What is true of a stream that another one has become. -/
structure after (s t : spymake_Stream) (k : Int) : Prop where
  L : t.L = s.L
  lo : s.at_ ≤ t.at_
  hi : t.at_ ≤ s.at_ + k
theorem after.refl (s : spymake_Stream) : after s s 0 := ⟨rfl, Int.le_refl _, by omega⟩
theorem after.trans {s t u : spymake_Stream} {k m : Int} (h : after s t k) (g : after t u m) : after s u (k + m) := ⟨g.L.trans h.L, Int.le_trans h.lo g.lo, by have := h.hi; have := g.hi; omega⟩
theorem after.more {s t : spymake_Stream} {k m : Int} (h : after s t k) (hk : k ≤ m) : after s t m := ⟨h.L, h.lo, by have := h.hi; omega⟩
theorem after.ok {s t : spymake_Stream} {k : Int} (h : after s t k) (g : okS s) (hk : s.at_ + k ≤ 4611686018427387904) : okS t := ⟨by rw [h.L]; exact g.z, by rw [h.L]; exact g.len, by have := h.lo; have := g.a0; omega, by have := h.hi; omega⟩
theorem below_ok (x n : Int) (hx : -9223372036854775808 ≤ x ∧ x ≤ 9223372036854775807) (hn : 1 ≤ n ∧ n ≤ 9223372036854775807) : Has (spymake_Below x n) fun v => 0 ≤ v ∧ v < n := by
  unfold spymake_Below
  have h1 := Int.lt_tmod_of_pos x (b := n) (by omega)
  have h2 := Int.tmod_lt_of_pos x (b := n) (by omega)
  refine Has.neg (by simp; omega) (Has.chk (by omega) (Has.ite (fun h => Has.ret ?_) fun h => Has.ret ?_))
  · simp only [decide_eq_true_eq] at h; rw [w6_in (by omega)]; omega
  · simp only [decide_eq_true_eq] at h; omega
theorem below_zero (x n : Int) (hn : n ≤ 0) : spymake_Below x n = some 0 := by unfold spymake_Below; rw [if_pos (by simp; omega)]
theorem next_ok (s : spymake_Stream) (n : Int) (hs : okS s) (ha : s.at_ < 4611686018427387904) (hn : 1 ≤ n ∧ n ≤ 9223372036854775807) : Has (Stream_Next s n) fun r => 0 ≤ r.1 ∧ r.1 < n ∧ after s r.2 1 := by
  have h0 := hs.a0
  have hl := hs.len
  have e1 : w6 (s.at_ + 1) = s.at_ + 1 := w6_in (by omega)
  have fin : after s (spymake_Stream.mk s.L (s.at_ + 1)) 1 := ⟨rfl, by simp only []; omega, Int.le_refl _⟩
  unfold Stream_Next
  simp only [e1]
  refine Has.ite (fun hz => ?_) fun hz => ?_
  · exact (below_ok _ n (w6_bd _) hn).bind fun v hv => Has.ret ⟨hv.1, hv.2, fin⟩
  · have hz : s.L.length ≠ 0 := by simpa using hz
    have e2 : w6 (s.at_ + 1 - 1) = s.at_ := by rw [w6_in (by omega)]; omega
    have b1 := Int.tmod_nonneg (s.L.length : Int) hs.a0
    have b2 := Int.tmod_lt_of_pos s.at_ (b := (s.L.length : Int)) (by omega)
    simp only [e2]
    refine Has.chk (by omega) (Has.chk ⟨b1, b2⟩ ?_)
    refine (below_ok _ 1073741824 (hs.z _ (gt_mem _ _ ⟨b1, b2⟩)) (by omega)).bind fun v hv => Has.letF (Has.letF ?_)
    exact (below_ok _ n (w6_bd _) hn).bind fun u hu => Has.ret ⟨hu.1, hu.2, fin⟩
theorem range_ok (s : spymake_Stream) (lo hi : Int) (hs : okS s) (ha : s.at_ < 4611686018427387904) (h : lo ≤ hi) (h1 : -2305843009213693952 ≤ lo) (h2 : hi ≤ 2305843009213693952) : Has (Stream_Range s lo hi) fun r => lo ≤ r.1 ∧ r.1 ≤ hi ∧ after s r.2 1 := by
  unfold Stream_Range
  rw [w6_in (n := hi - lo) (by omega), w6_in (n := hi - lo + 1) (by omega)]
  refine Has.neg (by simp; omega) ((next_ok s (hi - lo + 1) hs ha (by omega)).bind fun r hr => Has.ret ?_)
  rw [w6_in (by omega)]
  exact ⟨by omega, by omega, hr.2.2⟩
end Lf
/- Plain facts of bounds. -/
namespace Lf
open Go Go.Abs
set_option linter.unusedVariables false
set_option linter.unusedSimpArgs false
/-- A valid bound. -/
structure Bound.ok (b : Bound) : Prop where
  u : b.Unknown = true → b.Lo = 0 ∧ b.Hi = 0
  lo : -1152921504606846976 ≤ b.Lo
  le : b.Lo ≤ b.Hi
  hi : b.Hi ≤ 1152921504606846976
theorem check_ok {b : Bound} (h : b.ok) : bound_Check b = some 0 := by
  obtain ⟨h1, h2, h3, h4⟩ := h
  unfold bound_Check
  rw [mn2_le h3, mx2_le h3]
  have e1 : ¬ b.Lo < -1152921504606846976 := by omega
  have e2 : ¬ b.Hi > 1152921504606846976 := by omega
  have e3 : ¬ b.Lo > b.Hi := by omega
  cases hu : b.Unknown with
  | false => simp [e1, e2, e3]
  | true => obtain ⟨q1, q2⟩ := h1 hu; simp [q1, q2]
theorem norm_ok {b : Bound} (h : b.ok) : bound_Norm b = some b := by unfold bound_Norm; rw [check_ok h]; rfl
theorem none_ok : bound_None = some ⟨0, 0, true⟩ := rfl
theorem okNone : Bound.ok ⟨0, 0, true⟩ := ⟨fun _ => ⟨rfl, rfl⟩, by decide, by decide, by decide⟩
theorem okKnown {lo hi : Int} (h1 : -1152921504606846976 ≤ lo) (h2 : lo ≤ hi) (h3 : hi ≤ 1152921504606846976) : Bound.ok ⟨lo, hi, false⟩ := ⟨(fun h => nomatch h), h1, h2, h3⟩
theorem of_ok {lo hi : Int} (h1 : -1152921504606846976 ≤ lo) (h2 : lo ≤ hi) (h3 : hi ≤ 1152921504606846976) : bound_Of lo hi = some ⟨lo, hi, false⟩ := by
  unfold bound_Of; rw [norm_ok (okKnown h1 h2 h3)]; rfl
end Lf
/- Samples of a curve. -/
namespace Lf
open Go Go.Abs
set_option linter.unusedVariables false
set_option linter.unusedSimpArgs false
/-- A sample as it is made. -/
structure okSm (s : curve_Sample) : Prop where
  a : s.At.ok
  u : s.At.Unknown = false
  lo : -1000000 ≤ s.At.Lo
  hi : s.At.Hi ≤ 1000000
  l : s.Light.ok
def leS (a b : curve_Sample) : Prop := a.At.Lo < b.At.Lo ∨ (a.At.Lo = b.At.Lo ∧ a.At.Hi ≤ b.At.Hi)
theorem okSm.le {s : curve_Sample} (h : okSm s) : s.At.Lo ≤ s.At.Hi := h.a.le
theorem leS.trans {a b c : curve_Sample} (h : leS a b) (k : leS b c) : leS a c := by
  unfold leS at *; omega
/-- Sorted in a range but for one place. -/
def sortedTo (xs : List curve_Sample) (n : Int) : Prop := ∀ p q : Int, 0 ≤ p → p < q → q < n → leS (gt xs p) (gt xs q)
end Lf
/- Samples of a curve, and sorting a few of them. -/
namespace Lf
open Go Go.Abs
set_option linter.unusedVariables false
set_option linter.unusedSimpArgs false
theorem cmpS_ok {a b : curve_Sample} (ha : okSm a) (hb : okSm b) : Has (spykeep4_samples_1 a b) fun r => (r < 0 → leS a b) ∧ (¬ r < 0 → leS b a) := by
  have a1 := ha.lo; have a2 := ha.hi; have a3 := ha.le; have b1 := hb.lo; have b2 := hb.hi; have b3 := hb.le
  unfold spykeep4_samples_1 leS
  refine Has.ite (fun h => ?_) fun h => ?_
  · rw [w6_in (by omega)]
    have h : a.At.Lo ≠ b.At.Lo := by simpa using h
    exact Has.ret ⟨fun _ => by omega, fun _ => by omega⟩
  · rw [w6_in (by omega)]
    have h : a.At.Lo = b.At.Lo := by simpa using h
    exact Has.ret ⟨fun _ => by omega, fun _ => by omega⟩
theorem insert_ok {P : curve_Sample → Prop} (hP : ∀ s, P s → okSm s) (xs : List curve_Sample) (hx : allI xs fun _ s => P s) (hl : xs.length ≤ 1000) :
    Has (slices_insertionSortCmpFunc_curve_Sample_spykeep4_samples_1 xs 0 xs.length) fun r => r.length = xs.length ∧ (allI r fun _ s => P s) ∧ sortedTo r xs.length := by
  unfold slices_insertionSortCmpFunc_curve_Sample_spykeep4_samples_1
  rw [show w6 (0 + 1) = 1 from by decide]
  refine Has.bind (P := fun r : List curve_Sample => r.length = xs.length ∧ (allI r fun _ s => P s) ∧ sortedTo r xs.length) ?_ fun r hr => Has.ret hr
  refine Has.loop (fun t : List curve_Sample × Int => 1 ≤ t.2 ∧ (t.2 ≤ xs.length ∨ t.2 = 1) ∧ t.1.length = xs.length ∧ (allI t.1 fun _ s => P s) ∧ sortedTo t.1 t.2) (fun t => (xs.length - t.2).toNat) _ ⟨show (1 : Int) ≤ 1 from Int.le_refl _, .inr rfl, rfl, hx, fun p q p0 pq q1 => (by have q1 : q < 1 := q1; omega)⟩ (by simp only []; omega) fun t ⟨t1, t2, t3, t4, t5⟩ => ?_
  unfold slices_insertionSortCmpFunc_curve_Sample_spykeep4_samples_1.l1
  refine Has.ite (fun hi => ?_) fun hi => ?_
  · have hi : t.2 < xs.length := of_decide_eq_true hi
    rw [w6_in (n := t.2 + 1) (by omega)]
    refine Has.bind (P := fun r : List curve_Sample => r.length = xs.length ∧ (allI r fun _ s => P s) ∧ sortedTo r (t.2 + 1)) ?_ fun r ⟨r1, r2, r3⟩ => Has.ret (.next ⟨by simp only []; omega, by simp only []; omega, r1, r2, r3⟩ (by simp only []; omega))
    refine Has.loop (fun u : List curve_Sample × Int => 0 ≤ u.2 ∧ u.2 ≤ t.2 ∧ u.1.length = xs.length ∧ (allI u.1 fun _ s => P s) ∧ (∀ p q : Int, 0 ≤ p → p < q → q < t.2 + 1 → p ≠ u.2 → q ≠ u.2 → leS (gt u.1 p) (gt u.1 q)) ∧ ∀ q : Int, u.2 < q → q < t.2 + 1 → leS (gt u.1 u.2) (gt u.1 q)) (fun u => u.2.toNat) _
      ⟨by simp only []; omega, Int.le_refl _, t3, t4, fun p q p0 pq q1 n1 n2 => t5 p q p0 pq (by simp only [] at n2; omega), fun q q0 q1 => by simp only [] at q0; omega⟩ (by simp only []; omega) fun u ⟨u0, u1, u2, u3, u4, u5⟩ => ?_
    unfold slices_insertionSortCmpFunc_curve_Sample_spykeep4_samples_1.l2
    refine Has.bind (P := fun b : Bool => (b = true → 0 < u.2 ∧ leS (gt u.1 u.2) (gt u.1 (u.2 - 1))) ∧ (b = false → u.2 = 0 ∨ leS (gt u.1 (u.2 - 1)) (gt u.1 u.2))) (Has.ite (fun h0 => ?_) fun h0 => Has.ret ⟨(fun e => nomatch e), fun _ => .inl (by have : ¬ u.2 > 0 := fun q => h0 (decide_eq_true q); omega)⟩) fun b ⟨b1, b2⟩ => ?_
    · have h0 : 0 < u.2 := of_decide_eq_true h0
      rw [w6_in (n := u.2 - 1) (by omega)]
      refine Has.chk ⟨u0, by omega⟩ (Has.chk ⟨by omega, by omega⟩ ((cmpS_ok (hP _ (u3 u.2 u0 (by omega))) (hP _ (u3 (u.2 - 1) (by omega) (by omega)))).bind fun r ⟨r1, r2⟩ => Has.ret ⟨fun e => ⟨h0, r1 (of_decide_eq_true e)⟩, fun e => .inr (r2 (of_decide_eq_false e))⟩))
    · refine Has.ite (fun hb => ?_) fun hb => Has.ret (.done ⟨u2, u3, fun p q p0 pq q1 => ?_⟩)
      · obtain ⟨h0, hle⟩ := b1 hb
        rw [w6_in (n := u.2 - 1) (by omega)]
        have a0 : 0 ≤ u.2 - 1 := by omega
        have a1 : u.2 - 1 < u.1.length := by omega
        have e1 : gt ((u.1.set u.2.toNat (gt u.1 (u.2 - 1))).set (u.2 - 1).toNat (gt u.1 u.2)) (u.2 - 1) = gt u.1 u.2 := gt_set_eq a0 (by simp only [List.length_set]; omega)
        have e2 : gt ((u.1.set u.2.toNat (gt u.1 (u.2 - 1))).set (u.2 - 1).toNat (gt u.1 u.2)) u.2 = gt u.1 (u.2 - 1) := by rw [gt_set_ne a0 u0 (by omega), gt_set_eq u0 (by omega)]
        have e3 : ∀ q : Int, 0 ≤ q → q ≠ u.2 → q ≠ u.2 - 1 → gt ((u.1.set u.2.toNat (gt u.1 (u.2 - 1))).set (u.2 - 1).toNat (gt u.1 u.2)) q = gt u.1 q := fun q q0 n1 n2 => by rw [gt_set_ne a0 q0 (by omega), gt_set_ne u0 q0 (by omega)]
        refine Has.chk ⟨a0, a1⟩ (Has.chk ⟨u0, by omega⟩ (Has.letF (Has.ret (.next ⟨a0, by simp only []; omega, by simp [u2], allI_set (allI_set u3 u0 (u3 _ a0 a1)) a0 (u3 _ u0 (by omega)), fun p q p0 pq q1 n1 n2 => ?_, fun q q0 q1 => ?_⟩ (by simp only []; omega)))))
        · simp only [] at n1 n2 ⊢
          by_cases ep : p = u.2
          · rw [ep, e2, e3 q (by omega) (by omega) n2]
            exact u4 (u.2 - 1) q a0 (by omega) q1 (by omega) (by omega)
          · by_cases eq : q = u.2
            · rw [eq, e2, e3 p p0 ep n1]
              exact u4 p (u.2 - 1) p0 (by omega) (by omega) (by omega) (by omega)
            · rw [e3 p p0 ep n1, e3 q (by omega) eq n2]
              exact u4 p q p0 pq q1 ep eq
        · simp only [] at q0 ⊢
          rw [e1]
          by_cases eq : q = u.2
          · rw [eq, e2]; exact hle
          · rw [e3 q (by omega) eq (by omega)]
            exact u5 q (by omega) q1
      · have hb : b = false := by simpa using hb
        by_cases ep : p = u.2
        · rw [ep]; exact u5 q (by omega) q1
        · by_cases eq : q = u.2
          · rcases b2 hb with h | h
            · omega
            · rw [eq]
              by_cases e : p = u.2 - 1
              · rw [e]; exact h
              · exact (u4 p (u.2 - 1) p0 (by omega) (by omega) ep (by omega)).trans h
          · exact u4 p q p0 pq q1 ep eq
  · have hi : ¬ t.2 < xs.length := fun q => hi (decide_eq_true q)
    exact Has.ret (.done ⟨t3, t4, fun p q p0 pq q1 => t5 p q p0 pq (by omega)⟩)
theorem lenAll : ((List.range 13).all fun n => (bits_Len (IntKind.wrap .u64 (n : Int))).isSome) = true := by kernel_rfl
theorem len_ok {n : Nat} (h : n ≤ 12) : ∃ r, bits_Len (IntKind.wrap .u64 (n : Int)) = some r := by
  have := List.all_eq_true.1 lenAll n (List.mem_range.2 (by omega))
  exact Option.isSome_iff_exists.1 this
theorem sortShort_ok {P : curve_Sample → Prop} (hP : ∀ s, P s → okSm s) (xs : List curve_Sample) (hx : allI xs fun _ s => P s) (hl : xs.length ≤ 12) :
    Has (slices_SortFunc_curve_Sample_spykeep4_samples_1_short xs) fun r => r.length = xs.length ∧ (allI r fun _ s => P s) ∧ sortedTo r xs.length := by
  unfold slices_SortFunc_curve_Sample_spykeep4_samples_1_short
  obtain ⟨k, ek⟩ := len_ok hl
  rw [ek]
  simp only [Option.bind_some]
  refine Has.bind (P := fun r : List curve_Sample => r.length = xs.length ∧ (allI r fun _ s => P s) ∧ sortedTo r xs.length) ?_ fun r hr => Has.chk hr.1.symm (Has.ret hr)
  unfold slices_pdqsortCmpFunc_curve_Sample_spykeep4_samples_1
  refine Has.seq (P := fun t : Step Unit (List curve_Sample) => ∃ r : List curve_Sample, t = .done r ∧ r.length = xs.length ∧ (allI r fun _ s => P s) ∧ sortedTo r xs.length) ?_ (fun _ ⟨r, e, _⟩ => nomatch e) (fun o ⟨r, e, h⟩ => by cases e; exact h)
  refine Has.loop (fun _ => True) (fun _ => 0) _ trivial (by decide) fun _ _ => ?_
  unfold slices_pdqsortCmpFunc_curve_Sample_spykeep4_samples_1.l1
  rw [w6_in (n := (xs.length : Int) - 0) (by omega)]
  exact Has.pos (decide_eq_true (by omega)) ((insert_ok hP xs hx (by omega)).bind fun r hr => Has.chk hr.1.symm (Has.ret (.done ⟨r, rfl, hr⟩)))
/-! long rows: the plain twin of the library's sort -/
theorem swoB : Go.Sort.SWO (Go.Proofs.ltOf cmpB) where
  irrefl a := by unfold Go.Proofs.ltOf cmpB cmpS; simp
  trans a b c h1 h2 := by
    unfold Go.Proofs.ltOf cmpB cmpS at *
    simp only [decide_eq_true_eq] at *
    split at h1 <;> split at h2 <;> split <;> omega
  ntrans a b c h1 h2 := by
    unfold Go.Proofs.ltOf cmpB cmpS at *
    simp only [decide_eq_false_iff_not] at *
    split at h1 <;> split at h2 <;> split <;> omega
theorem toB_map : ∀ (l : List curve_Sample), (∀ s ∈ l, bndS s) → (toB l).map (·.1) = l
  | [], _ => rfl
  | s :: l, h => by
    have hs := h s List.mem_cons_self
    unfold toB
    rw [List.filterMap_cons, dif_pos hs]
    show s :: (toB l).map (·.1) = s :: l
    rw [toB_map l fun a ha => h a (List.mem_cons_of_mem _ ha)]
theorem okSm.bnd {s : curve_Sample} (h : okSm s) : bndS s := by
  have a := h.lo; have b := h.hi; have c := h.le
  exact ⟨⟨by omega, by omega⟩, by omega, by omega⟩
theorem sortB_ok {P : curve_Sample → Prop} (hP : ∀ s, P s → okSm s) (xs : List curve_Sample) (hx : ∀ s ∈ xs, P s) : (sortB xs).length = xs.length ∧ (∀ s ∈ sortB xs, P s) ∧ sortedTo (sortB xs) xs.length := by
  have hm := toB_map xs fun s hs => (hP s (hx s hs)).bnd
  have hp := Go.Sort.pdq_sorts (Go.Proofs.ltOf cmpB) swoB (toB xs).toArray 0 (toB xs).toArray.size (Go.Lib.bitLen (toB xs).toArray.size) true true (Nat.zero_le _) (Nat.le_refl _) (Or.inl rfl)
  have hsz : (toB xs).toArray.size = xs.length := by
    have := congrArg List.length hm
    simpa using this
  obtain ⟨⟨p1, _, p3⟩, p4⟩ := hp
  unfold sortB
  generalize Go.Sort.pdq (Go.Proofs.ltOf cmpB) (toB xs).toArray 0 (toB xs).toArray.size (Go.Lib.bitLen (toB xs).toArray.size) true true = d at *
  have hl : (d.toList.map (·.1)).length = xs.length := by simp; omega
  refine ⟨hl, fun s hs => ?_, fun p q p0 pq q1 => ?_⟩
  · obtain ⟨v, hv, rfl⟩ := List.mem_map.1 hs
    have : v ∈ (d.extract 0 (toB xs).toArray.size).toList := by
      rw [← p1]; simpa using hv
    have := (p3.mem_iff).1 this
    have : v ∈ toB xs := by simpa using this
    have : v.1 ∈ (toB xs).map (·.1) := List.mem_map.2 ⟨v, this, rfl⟩
    rw [hm] at this
    exact hx _ this
  · have g : ∀ i : Int, 0 ≤ i → i < xs.length → gt (d.toList.map (·.1)) i = (d[i.toNat]!).1 := fun i i0 i1 => by
      have hi : i.toNat < d.size := by omega
      rw [gt_def _ i ⟨i0, by omega⟩, getElem!_pos d i.toNat hi]
      simp
    rw [g p p0 (by omega), g q (by omega) q1]
    have := p4 p.toNat q.toNat (Nat.zero_le _) (by omega) (by omega)
    unfold Go.Proofs.ltOf cmpB cmpS at this
    simp only [decide_eq_false_iff_not] at this
    unfold leS
    split at this <;> omega
theorem sort_ok {P : curve_Sample → Prop} (hP : ∀ s, P s → okSm s) (xs : List curve_Sample) (hx : allI xs fun _ s => P s) (hl : xs.length ≤ 1000) :
    Has (slices_SortFunc_curve_Sample_spykeep4_samples_1 xs) fun r => r.length = xs.length ∧ (allI r fun _ s => P s) ∧ sortedTo r xs.length := by
  unfold slices_SortFunc_curve_Sample_spykeep4_samples_1
  refine Has.ite (fun h => sortShort_ok hP xs hx h) fun h => Has.chk ⟨fun s hs => (hP s (allI_mem hx s hs)).bnd, by omega⟩ ?_
  obtain ⟨h1, h2, h3⟩ := sortB_ok hP xs (allI_mem hx)
  exact Has.ret ⟨h1, allI_of h2, h3⟩
end Lf
/- The smaller and the greater one of two numbers. -/
namespace Lf
open Go Go.Abs
set_option linter.unusedVariables false
set_option linter.unusedSimpArgs false
theorem mn2_min (a b : Int) : mn2 a b = min a b := by rcases mn2_def a b with ⟨e, h⟩ | ⟨e, h⟩ <;> rw [e] <;> omega
theorem mx2_max (a b : Int) : mx2 a b = max a b := by rcases mx2_def a b with ⟨e, h⟩ | ⟨e, h⟩ <;> rw [e] <;> omega
end Lf
/- Loops of few rounds, round by round. -/
namespace Lf
open Go Go.Abs
set_option linter.unusedVariables false
inductive Run {S O : Type} (body : S → Option (Step S O)) : S → Nat → O → Prop
  | done {s : S} {o : O} : body s = some (.done o) → Run body s 0 o
  | next {s s' : S} {n : Nat} {o : O} : body s = some (.next s') → Run body s' n o → Run body s (n + 1) o
theorem Run.iter {S O : Type} {body : S → Option (Step S O)} : ∀ {n : Nat} {s : S} {o : O}, Run body s n o → ∀ k, n < k → iterF body k s = some o
  | _, _, _, .done h, 0, hk => by omega
  | _, _, _, .done h, k + 1, _ => by unfold iterF; rw [h]
  | _, _, _, .next h r, 0, hk => by omega
  | _, _, _, .next h r, k + 1, hk => by unfold iterF; rw [h]; exact r.iter k (by omega)
theorem Run.ok {S O : Type} {body : S → Option (Step S O)} {n : Nat} {s : S} {o : O} (h : Run body s n o) (hn : n < 10000000000000000000000000000000000000000) : loopF body s = some o := h.iter _ hn
end Lf
/- Directions that are drawn; a star that does not vary, and its light. -/
namespace Lf
open Go Go.Abs
set_option linter.unusedVariables false
set_option linter.unusedSimpArgs false
/-- A direction that is drawn. -/
structure okV (v : Vec) : Prop where
  x : -1048576 ≤ v.X ∧ v.X ≤ 1048576
  y : -1048576 ≤ v.Y ∧ v.Y ≤ 1048576
  z : -1048576 ≤ v.Z ∧ v.Z ≤ 1048576
  n : ¬ (v.X = 0 ∧ v.Y = 0 ∧ v.Z = 0)
theorem vec_ok (s : spymake_Stream) (hs : okS s) (ha : s.at_ ≤ 4611686018427000000) : Has (Stream_Vec s) fun r => okV r.1 ∧ after s r.2 4 := by
  unfold Stream_Vec
  refine (next_ok s 4 hs (by omega) (by omega)).bind fun a ⟨a1, a2, a3⟩ => Has.chk ⟨a1, a2⟩ ?_
  have hA := a3.ok hs (by omega); have hh := a3.hi
  have hm : 1 ≤ gt ([3, 100, 5000, 1048576] : List Int) a.1 ∧ gt ([3, 100, 5000, 1048576] : List Int) a.1 ≤ 1048576 := by
    have : a.1 = 0 ∨ a.1 = 1 ∨ a.1 = 2 ∨ a.1 = 3 := by omega
    rcases this with e | e | e | e <;> rw [e] <;> decide
  generalize gt ([3, 100, 5000, 1048576] : List Int) a.1 = m at *
  rw [w6_in (n := 0 - m) (by omega)]
  refine (range_ok a.2 (0 - m) m hA (by omega) (by omega) (by omega) (by omega)).bind fun b ⟨b1, b2, b3⟩ => ?_
  have hB := b3.ok hA (by omega); have hhb := b3.hi
  refine (range_ok b.2 (0 - m) m hB (by omega) (by omega) (by omega) (by omega)).bind fun c ⟨c1, c2, c3⟩ => ?_
  have hC := c3.ok hB (by omega); have hhc := c3.hi
  refine (range_ok c.2 (0 - m) m hC (by omega) (by omega) (by omega) (by omega)).bind fun d ⟨d1, d2, d3⟩ => ?_
  have af := ((a3.trans b3).trans c3).trans d3
  refine Has.ite (fun h => Has.ret ⟨⟨by simp only []; omega, by simp only []; omega, by simp only []; omega, by simp only []; omega⟩, af.more (by omega)⟩) fun h => Has.ret ⟨⟨by simp only []; omega, by simp only []; omega, by simp only []; omega, fun ⟨e1, e2, e3⟩ => h ?_⟩, af.more (by omega)⟩
  simp only [] at e1 e2 e3
  simp [e1, e2, e3]
theorem sphere_ok {v : Vec} (h : okV v) : sphere_Check v = some 0 := by
  obtain ⟨x1, x2⟩ := h.x; obtain ⟨y1, y2⟩ := h.y; obtain ⟨z1, z2⟩ := h.z
  unfold sphere_Check
  rw [mx2_max, mx2_max, mn2_min, mn2_min]
  have g1 : decide (max (max v.X v.Y) v.Z > 1048576) = false := decide_eq_false (by omega)
  have g2 : decide (min (min v.X v.Y) v.Z < -1048576) = false := decide_eq_false (by omega)
  simp only [g1, g2, Bool.false_eq_true, if_false, Option.bind_some]
  rw [if_neg]
  intro e
  simp at e
  exact h.n e
/-- A star that does not vary. -/
structure okCalm (x : Star) : Prop where
  id : x.ID = 1
  at_ : okV x.At
  r0 : 0 ≤ x.Rate
  r1 : x.Rate < 900
  w : x.Wave = []
  p : x.Period = 0
  f : x.From = -17592186044416
  t : x.To = 17592186044416
theorem starC_ok {x : Star} (h : okCalm x) : sky_star x = some 0 := by
  have e : slices_ContainsFunc_Int_sky_star_1 [] x = some false := by
    unfold slices_ContainsFunc_Int_sky_star_1 slices_IndexFunc_Int_sky_star_1
    have q : loopF (slices_IndexFunc_Int_sky_star_1.l1 [] x) 0 = some (.next ()) := by
      refine (Run.done ?_ : Run _ _ 0 _).ok (by decide)
      unfold slices_IndexFunc_Int_sky_star_1.l1
      simp
    rw [q]; rfl
  unfold sky_star
  rw [sphere_ok h.at_, h.w, e, h.f, h.t, h.p]
  rfl
/-- The sky with this star alone. -/
def skyOf (x : Star) : Sky := Sky.mk 0 ([x] : List Star) [] [] (Body.mk 0 (Vec.mk 0 0 0) (Vec.mk 0 0 0) 0)
theorem timedC_ok {x : Star} (h : okCalm x) {t : Int} (t0 : -17592186044416 ≤ t) (t1 : t ≤ 17592186044416) : sky_timed (skyOf x) t = some 0 := by
  have i := h.id; have r0 := h.r0; have r1 := h.r1
  have c : sky_Check (skyOf x) = some 0 := by
    unfold sky_Check skyOf
    simp only []
    rw [if_pos ⟨trivial, trivial, by omega, by omega, by omega, by omega⟩]
    exact starC_ok h
  unfold sky_timed
  rw [c]
  have g1 : decide (t < -17592186044416) = false := decide_eq_false (by omega)
  have g2 : decide (t > 17592186044416) = false := decide_eq_false (by omega)
  simp only [Option.bind_some, bne_self_eq_false, Bool.false_eq_true, if_false, g1, g2]
theorem rateC_ok {x : Star} (h : okCalm x) {t : Int} (t0 : -17592186044416 ≤ t) (t1 : t < 17592186044416) : sky_Rate (skyOf x) x.ID t = some (x.Rate, 0) := by
  apply Has.val
  unfold sky_Rate
  rw [timedC_ok h t0 (by omega)]
  simp only [Option.bind_some, bne_self_eq_false, Bool.false_eq_true, if_false]
  refine Has.seq (P := fun s : Step Unit (Int × Int) => s = .done (x.Rate, 0)) ?_ (fun _ hs => by cases hs) (fun o ho => by cases ho; rfl)
  refine Has.loop (fun i : Int => i = 0) (fun _ => 0) _ rfl (by omega) fun i hi => ?_
  subst hi
  unfold sky_Rate.l1
  have e1 : gt (skyOf x).Stars 0 = x := rfl
  have e2 : sky_shines x t = some x.Rate := by
    unfold sky_shines
    have g1 : decide (t < x.From) = false := decide_eq_false (by rw [h.f]; omega)
    have g2 : decide (t ≥ x.To) = false := decide_eq_false (by rw [h.t]; omega)
    rw [g1, g2, h.w]; rfl
  rw [e1, e2]
  exact Has.pos rfl (Has.chk ⟨Int.le_refl _, by simp [skyOf]⟩ (Has.pos (by simp) (Has.ret (.done rfl))))
end Lf
/- A curve that can be looked at. -/
namespace Lf
open Go Go.Abs
set_option linter.unusedVariables false
set_option linter.unusedSimpArgs false
theorem or2_ok (a b : Int) : cmp_Or [a, b] = some (if a ≠ 0 then a else b) := by
  unfold cmp_Or
  by_cases ha : a = 0
  · subst ha
    by_cases hb : b = 0
    · subst hb
      rw [(Run.next (s' := 1) (by rfl) (Run.next (s' := 2) (by rfl) (Run.done (by rfl))) : Run (cmp_Or.l1 [0, 0]) 0 2 (Step.next ())).ok (by decide)]; rfl
    · have e : cmp_Or.l1 [0, b] 1 = some (.done (.done b)) := by
        unfold cmp_Or.l1
        have g : gt ([0, b] : List Int) 1 = b := rfl
        rw [g]; simp [hb]
      rw [(Run.next (s' := 1) (by rfl) (Run.done e) : Run (cmp_Or.l1 [0, b]) 0 1 (Step.done b)).ok (by decide)]; rfl
  · have e : cmp_Or.l1 [a, b] 0 = some (.done (.done a)) := by
      unfold cmp_Or.l1
      have g : gt ([a, b] : List Int) 0 = a := rfl
      rw [g]; simp [ha]
    rw [(Run.done e : Run (cmp_Or.l1 [a, b]) 0 0 (Step.done a)).ok (by decide), if_pos ha]; rfl
theorem compare_ok (a b : Int) : cmp_Compare a b = some (if a < b then -1 else if b < a then 1 else 0) := by
  unfold cmp_Compare cmp_isNaN
  simp only [Option.bind_some, bne_self_eq_false, Bool.false_eq_true, if_false, gt_iff_lt, decide_eq_true_eq]
  split
  · rfl
  · split <;> rfl
theorem order_ok {a b : curve_Sample} (h : leS a b) : Has (curve_order a b) fun r => ¬ r > 0 := by
  unfold curve_order
  rw [compare_ok, compare_ok]
  simp only [Option.bind_some]
  rw [or2_ok]
  refine Has.ret ?_
  unfold leS at h
  by_cases h1 : a.At.Lo < b.At.Lo
  · rw [if_pos h1, if_pos (by decide)]; decide
  · have e : a.At.Lo = b.At.Lo := by omega
    rw [if_neg h1, if_neg (show ¬ b.At.Lo < a.At.Lo by omega), if_neg (show ¬ ((0 : Int) ≠ 0) from fun q => q rfl)]
    by_cases h2 : a.At.Hi < b.At.Hi
    · rw [if_pos h2]; decide
    · rw [if_neg h2, if_neg (by omega)]; decide
/-- A curve as it is made. -/
structure okC (l : List curve_Sample) : Prop where
  n : l.length ≤ 64
  s : ∀ a ∈ l, okSm a
  o : sortedTo l l.length
theorem curve_ok {l : List curve_Sample} (h : okC l) : curve_Check l = some 0 := by
  have hn := h.n
  apply Has.val
  unfold curve_Check
  refine Has.neg (by simp; omega) (Has.seq (P := fun t : Step Unit Int => t = .next ()) ?_ (fun _ _ => Has.ret rfl) (fun o ho => by cases ho))
  refine Has.loop (fun i : Int => 0 ≤ i ∧ i ≤ l.length) (fun i => (l.length - i).toNat) _ ⟨Int.le_refl _, by omega⟩ (by omega) fun i ⟨i0, i1⟩ => ?_
  unfold curve_Check.l1
  refine Has.ite (fun hi => ?_) fun hi => Has.ret (.done rfl)
  have hi : i < l.length := of_decide_eq_true hi
  have ok := h.s _ (gt_mem l i ⟨i0, hi⟩)
  have a1 := ok.lo; have a2 := ok.hi; have a3 := ok.le
  rw [check_ok ok.a, check_ok ok.l, ok.u]
  simp only [Option.bind_some]
  rw [or2_ok]
  have g1 : decide ((gt l i).At.Lo < -17592186044416) = false := decide_eq_false (by omega)
  have g2 : decide ((gt l i).At.Hi > 17592186044416) = false := decide_eq_false (by omega)
  simp only [ne_eq, not_true_eq_false, if_false, Option.bind_some, bne_self_eq_false, Bool.false_eq_true, g1, g2]
  refine Has.chk ⟨i0, hi⟩ (Has.bind (P := fun b : Bool => b = false) (Has.ite (fun h0 => ?_) fun _ => Has.ret rfl) fun b hb => Has.neg (by rw [hb]; simp) ?_)
  · have h0 : i > 0 := of_decide_eq_true h0
    rw [w6_in (n := i - 1) (by omega)]
    refine Has.chk ⟨by omega, by omega⟩ ((order_ok (h.o (i - 1) i (by omega) (by omega) hi)).bind fun r hr => Has.ret (decide_eq_false hr))
  · rw [w6_in (n := i + 1) (by omega)]
    exact Has.ret (.next ⟨by omega, by omega⟩ (by omega))
end Lf
/- The curve of a star that does not vary. -/
namespace Lf
open Go Go.Abs
set_option linter.unusedVariables false
set_option linter.unusedSimpArgs false
/-- What a sample has seen. -/
def saw (x : Star) (s : curve_Sample) : Prop := s.Light.Unknown = true ∨ (s.Light.Lo ≤ x.Rate ∧ x.Rate ≤ s.Light.Hi)
theorem samplesC_ok (s : spymake_Stream) (x : Star) (n : Int) (h : okCalm x) (n0 : 0 ≤ n) (n1 : n ≤ 40) (hs : okS s) (ha : s.at_ ≤ 4611686018427000000) :
    Has (spykeep4_samples s x n) fun r => r.2.1 = true ∧ (r.1.length : Int) ≤ n ∧ (∀ a ∈ r.1, okSm a ∧ saw x a) ∧ sortedTo r.1 r.1.length ∧ after s r.2.2 300 := by
  unfold spykeep4_samples
  refine (range_ok s (-5000) 5000 hs (by omega) (by omega) (by omega) (by omega)).bind fun a ⟨a1, a2, a3⟩ => ?_
  have hA := a3.ok hs (by omega); have hh := a3.hi
  rw [w6_in (n := n + 1) (by omega)]
  refine (next_ok a.2 (n + 1) hA (by omega) (by omega)).bind fun b ⟨b1, b2, b3⟩ => ?_
  have hB := b3.ok hA (by omega); have hhb := b3.hi
  refine Has.seq (P := fun t : Step (spymake_Stream × List curve_Sample) (List curve_Sample × Bool × spymake_Stream) => ∃ u l, t = .next (u, l) ∧ (l.length : Int) ≤ n ∧ (∀ a ∈ l, okSm a ∧ saw x a) ∧ after b.2 u 250) ?_ (fun t ⟨u, l, e, e1, e2, e3⟩ => ?_) (fun o ⟨u, l, e, _⟩ => nomatch e)
  · refine Has.loop (fun t : spymake_Stream × List curve_Sample × Int × Int => 0 ≤ t.2.2.2 ∧ t.2.2.2 ≤ b.1 ∧ after b.2 t.1 (6 * t.2.2.2) ∧ (t.2.1.length : Int) = t.2.2.2 ∧ (∀ a ∈ t.2.1, okSm a ∧ saw x a) ∧ -5000 ≤ t.2.2.1 ∧ t.2.2.1 ≤ 5000 + 900 * t.2.2.2) (fun t => (b.1 - t.2.2.2).toNat) _ ⟨Int.le_refl _, b1, after.refl _, rfl, by simp, a1, by simp only []; omega⟩ (by simp only []; omega) fun t ⟨t0, t1, t2, t3, t4, t5, t6⟩ => ?_
    have hT := t2.ok hB (by omega); have hht := t2.hi
    unfold spykeep4_samples.l1
    refine Has.ite (fun hi => ?_) fun hi => ?_
    · have hi : t.2.2.2 < b.1 := of_decide_eq_true hi
      refine (next_ok t.1 900 hT (by omega) (by omega)).bind fun c ⟨c1, c2, c3⟩ => ?_
      have hC := c3.ok hT (by omega); have hhc := c3.hi
      rw [w6_in (n := t.2.2.1 + c.1) (by omega)]
      generalize hz : t.2.2.1 + c.1 = z at *
      have er := rateC_ok h (t := z) (by omega) (by omega)
      have r0 := h.r0; have r1 := h.r1
      unfold skyOf at er
      rw [er]
      simp only [Option.bind_some, bne_self_eq_false, Bool.false_eq_true, if_false]
      refine (next_ok c.2 2 hC (by omega) (by omega)).bind fun d ⟨d1, d2, d3⟩ => ?_
      have hD := d3.ok hC (by omega); have hhd := d3.hi
      refine (next_ok d.2 40 hD (by omega) (by omega)).bind fun e ⟨e1, e2, e3⟩ => ?_
      have hE := e3.ok hD (by omega); have hhe := e3.hi
      refine (next_ok e.2 30 hE (by omega) (by omega)).bind fun f ⟨f1, f2, f3⟩ => ?_
      have hF := f3.ok hE (by omega); have hhf := f3.hi
      refine (next_ok f.2 30 hF (by omega) (by omega)).bind fun g ⟨g1', g2, g3⟩ => ?_
      have hG := g3.ok hF (by omega); have hhg := g3.hi
      refine (next_ok g.2 12 hG (by omega) (by omega)).bind fun k ⟨k1, k2, k3⟩ => ?_
      have af := ((((((t2.trans c3).trans d3).trans e3).trans f3).trans g3).trans k3)
      have hm : 0 ≤ d.1 * e.1 ∧ d.1 * e.1 ≤ 39 := by
        have : d.1 = 0 ∨ d.1 = 1 := by omega
        rcases this with q | q <;> rw [q] <;> omega
      generalize d.1 * e.1 = wide at *
      have ht : 0 ≤ Int.tdiv wide 2 ∧ Int.tdiv wide 2 ≤ 39 := by rw [Int.tdiv_eq_ediv_of_nonneg hm.1]; omega
      rw [w6_in (n := wide) (by omega)]
      generalize Int.tdiv wide 2 = half at *
      rw [w6_in (n := half) (by omega), w6_in (n := z - wide) (by omega), w6_in (n := z + half) (by omega), w6_in (n := x.Rate - f.1) (by omega), w6_in (n := x.Rate + g.1) (by omega), w6_in (n := t.2.2.2 + 1) (by omega)]
      have mk : ∀ L : Bound, L.ok → (L.Unknown = true ∨ (L.Lo ≤ x.Rate ∧ x.Rate ≤ L.Hi)) → okSm ⟨⟨z - wide, z + half, false⟩, L⟩ ∧ saw x ⟨⟨z - wide, z + half, false⟩, L⟩ := fun L l1 l2 =>
        ⟨⟨okKnown (by omega) (by omega) (by omega), rfl, by simp only []; omega, by simp only []; omega, l1⟩, l2⟩
      have fin : ∀ L : Bound, L.ok → (L.Unknown = true ∨ (L.Lo ≤ x.Rate ∧ x.Rate ≤ L.Hi)) → ∀ a ∈ t.2.1 ++ [(⟨⟨z - wide, z + half, false⟩, L⟩ : curve_Sample)], okSm a ∧ saw x a := fun L l1 l2 a ha => by
        rcases List.mem_append.1 ha with q | q
        · exact t4 a q
        · simp at q; rw [q]; exact mk L l1 l2
      refine Has.ite (fun _ => Has.letF (Has.chk (roomyI (by simp; omega) (by simp; omega)) (Has.ret (.next ⟨by simp only []; omega, by simp only []; omega, af.more (by simp only []; omega), by simp; omega, fin _ okNone (.inl rfl), by simp only []; omega, by simp only []; omega⟩ (by simp only []; omega))))) fun _ => Has.letF (Has.chk (roomyI (by simp; omega) (by simp; omega)) (Has.ret (.next ⟨by simp only []; omega, by simp only []; omega, af.more (by simp only []; omega), by simp; omega, fin _ (okKnown (by omega) (by omega) (by omega)) (.inr ⟨by simp only []; omega, by simp only []; omega⟩), by simp only []; omega, by simp only []; omega⟩ (by simp only []; omega))))
    · have hi : ¬ t.2.2.2 < b.1 := fun q => hi (decide_eq_true q)
      exact Has.ret (.done ⟨_, _, rfl, by omega, t4, t2.more (by omega)⟩)
  · cases e
    refine (sort_ok (P := fun a => okSm a ∧ saw x a) (fun a h => h.1) l (allI_of e2) (by omega)).bind fun r ⟨r1, r2, r3⟩ => Has.chk r1.symm (Has.ret ⟨rfl, by simp only []; omega, allI_mem r2, by rw [← r1] at r3; exact r3, ((a3.trans b3).trans e3).more (by omega)⟩)
end Lf
/- Insertion sort of a range by curve.order: a permutation, sorted, nothing else touched. -/
namespace Lf
open Go Go.Abs
set_option linter.unusedVariables false
set_option linter.unusedSimpArgs false
/-- Sorted in a range. -/
def sortedIn (xs : List curve_Sample) (a b : Int) : Prop := ∀ p q : Int, a ≤ p → p < q → q < b → leS (gt xs p) (gt xs q)
/-- Another order of a range alone. -/
structure turnIn (xs ys : List curve_Sample) (a b : Int) : Prop where
  perm : ys.Perm xs
  out : ∀ p : Int, 0 ≤ p → (p < a ∨ b ≤ p) → gt ys p = gt xs p
  into : ∀ p : Int, a ≤ p → p < b → ∃ q : Int, a ≤ q ∧ q < b ∧ gt ys p = gt xs q
theorem turnIn.refl (xs : List curve_Sample) (a b : Int) : turnIn xs xs a b := ⟨List.Perm.refl _, fun _ _ _ => rfl, fun p p0 p1 => ⟨p, p0, p1, rfl⟩⟩
theorem turnIn.trans {xs ys zs : List curve_Sample} {a b : Int} (h : turnIn xs ys a b) (k : turnIn ys zs a b) : turnIn xs zs a b := ⟨k.perm.trans h.perm, fun p p0 hp => (k.out p p0 hp).trans (h.out p p0 hp), fun p p0 p1 => by
  obtain ⟨q, q0, q1, e⟩ := k.into p p0 p1
  obtain ⟨r, r0, r1, e'⟩ := h.into q q0 q1
  exact ⟨r, r0, r1, e.trans e'⟩⟩
theorem turnIn.len {xs ys : List curve_Sample} {a b : Int} (h : turnIn xs ys a b) : ys.length = xs.length := h.perm.length_eq
theorem turnIn.wide {xs ys : List curve_Sample} {a b c d : Int} (h : turnIn xs ys a b) (h0 : 0 ≤ c) (h1 : c ≤ a) (h2 : b ≤ d) : turnIn xs ys c d := ⟨h.perm, fun p p0 hp => h.out p p0 (by omega), fun p p0 p1 => by
  by_cases hp : a ≤ p ∧ p < b
  · obtain ⟨q, q0, q1, e⟩ := h.into p hp.1 hp.2
    exact ⟨q, by omega, by omega, e⟩
  · exact ⟨p, p0, p1, h.out p (by omega) (by omega)⟩⟩
theorem swap_turn (xs : List curve_Sample) {i j a b : Int} (i0 : 0 ≤ i) (j0 : 0 ≤ j) (i1 : i < xs.length) (j1 : j < xs.length) (ai : a ≤ i) (ib : i < b) (aj : a ≤ j) (jb : j < b) : turnIn xs ((xs.set i.toNat (gt xs j)).set j.toNat (gt xs i)) a b := by
  refine ⟨?_, fun p p0 hp => ?_, fun p p0 p1 => ?_⟩
  · rw [gt_def xs i ⟨i0, i1⟩, gt_def xs j ⟨j0, j1⟩]
    exact List.set_set_perm (by omega) (by omega)
  · rw [gt_set_ne j0 p0 (by omega), gt_set_ne i0 p0 (by omega)]
  · by_cases e1 : p = j
    · exact ⟨i, ai, ib, by rw [e1, gt_set_eq j0 (by simp only [List.length_set]; omega)]⟩
    · by_cases p00 : 0 ≤ p
      · by_cases e2 : p = i
        · exact ⟨j, aj, jb, by rw [e2, gt_set_ne j0 i0 (by omega), gt_set_eq i0 i1]⟩
        · exact ⟨p, p0, p1, by rw [gt_set_ne j0 p00 (Ne.symm e1), gt_set_ne i0 p00 (Ne.symm e2)]⟩
      · have hz : ∀ zs : List curve_Sample, gt zs p = gt zs 0 := fun zs => by simp only [gt]; congr 1; omega
        by_cases f1 : (0 : Int) = j
        · exact ⟨i, ai, ib, by rw [hz, f1, gt_set_eq j0 (by simp only [List.length_set]; omega)]⟩
        · by_cases f2 : (0 : Int) = i
          · exact ⟨j, aj, jb, by rw [hz, gt_set_ne j0 (Int.le_refl _) (Ne.symm f1), f2, gt_set_eq i0 i1]⟩
          · exact ⟨p, p0, p1, by rw [hz, gt_set_ne j0 (Int.le_refl _) (Ne.symm f1), gt_set_ne i0 (Int.le_refl _) (Ne.symm f2), hz]⟩
theorem order_lt {a b : curve_Sample} : Has (curve_order a b) fun r => (r < 0 → leS a b) ∧ (¬ r < 0 → leS b a) ∧ (r < 0 → ¬ leS b a) := by
  unfold curve_order leS
  rw [compare_ok, compare_ok]
  simp only [Option.bind_some]
  rw [or2_ok]
  refine Has.ret ?_
  split <;> split <;> (try split) <;> (try split) <;> refine ⟨fun _ => ?_, fun _ => ?_, fun _ => ?_⟩ <;> omega
theorem insO_ok (xs : List curve_Sample) (a b : Int) (a0 : 0 ≤ a) (ab : a ≤ b) (hb : b ≤ xs.length) (hl : xs.length ≤ 1000) :
    Has (slices_insertionSortCmpFunc_curve_Sample_curve_order xs a b) fun r => turnIn xs r a b ∧ sortedIn r a b := by
  unfold slices_insertionSortCmpFunc_curve_Sample_curve_order
  rw [w6_in (n := a + 1) (by omega)]
  refine Has.bind (P := fun r : List curve_Sample => turnIn xs r a b ∧ sortedIn r a b) ?_ fun r hr => Has.ret hr
  refine Has.loop (fun t : List curve_Sample × Int => a + 1 ≤ t.2 ∧ (t.2 ≤ b ∨ t.2 = a + 1) ∧ turnIn xs t.1 a b ∧ sortedIn t.1 a t.2) (fun t => (b - t.2).toNat) _ ⟨Int.le_refl _, .inr rfl, turnIn.refl _ _ _, fun p q p0 pq q1 => (by have q1 : q < a + 1 := q1; omega)⟩ (by simp only []; omega) fun t ⟨t1, t2, t3, t5⟩ => ?_
  unfold slices_insertionSortCmpFunc_curve_Sample_curve_order.l1
  refine Has.ite (fun hi => ?_) fun hi => ?_
  · have hi : t.2 < b := of_decide_eq_true hi
    rw [w6_in (n := t.2 + 1) (by omega)]
    refine Has.bind (P := fun r : List curve_Sample => turnIn xs r a b ∧ sortedIn r a (t.2 + 1)) ?_ fun r ⟨r1, r2⟩ => Has.ret (.next ⟨by simp only []; omega, by simp only []; omega, r1, r2⟩ (by simp only []; omega))
    refine Has.loop (fun u : List curve_Sample × Int => a ≤ u.2 ∧ u.2 ≤ t.2 ∧ turnIn xs u.1 a b ∧ (∀ p q : Int, a ≤ p → p < q → q < t.2 + 1 → p ≠ u.2 → q ≠ u.2 → leS (gt u.1 p) (gt u.1 q)) ∧ ∀ q : Int, u.2 < q → q < t.2 + 1 → leS (gt u.1 u.2) (gt u.1 q)) (fun u => u.2.toNat) _
      ⟨by simp only []; omega, Int.le_refl _, t3, fun p q p0 pq q1 n1 n2 => t5 p q p0 pq (by simp only [] at n2; omega), fun q q0 q1 => by simp only [] at q0; omega⟩ (by simp only []; omega) fun u ⟨u0, u1, u2, u4, u5⟩ => ?_
    have ul := u2.len
    unfold slices_insertionSortCmpFunc_curve_Sample_curve_order.l2
    refine Has.bind (P := fun b : Bool => (b = true → a < u.2 ∧ leS (gt u.1 u.2) (gt u.1 (u.2 - 1))) ∧ (b = false → u.2 = a ∨ leS (gt u.1 (u.2 - 1)) (gt u.1 u.2))) (Has.ite (fun h0 => ?_) fun h0 => Has.ret ⟨(fun e => nomatch e), fun _ => .inl (by have : ¬ u.2 > a := fun q => h0 (decide_eq_true q); omega)⟩) fun c ⟨b1, b2⟩ => ?_
    · have h0 : a < u.2 := of_decide_eq_true h0
      rw [w6_in (n := u.2 - 1) (by omega)]
      refine Has.chk ⟨by omega, by omega⟩ (Has.chk ⟨by omega, by omega⟩ (order_lt.bind fun r ⟨r1, r2, _⟩ => Has.ret ⟨fun e => ⟨h0, r1 (of_decide_eq_true e)⟩, fun e => .inr (r2 (of_decide_eq_false e))⟩))
    · refine Has.ite (fun hc => ?_) fun hc => Has.ret (.done ⟨u2, fun p q p0 pq q1 => ?_⟩)
      · obtain ⟨h0, hle⟩ := b1 hc
        rw [w6_in (n := u.2 - 1) (by omega)]
        have c0 : 0 ≤ u.2 - 1 := by omega
        have c1 : u.2 - 1 < u.1.length := by omega
        have e1 : gt ((u.1.set u.2.toNat (gt u.1 (u.2 - 1))).set (u.2 - 1).toNat (gt u.1 u.2)) (u.2 - 1) = gt u.1 u.2 := gt_set_eq c0 (by simp only [List.length_set]; omega)
        have e2 : gt ((u.1.set u.2.toNat (gt u.1 (u.2 - 1))).set (u.2 - 1).toNat (gt u.1 u.2)) u.2 = gt u.1 (u.2 - 1) := by rw [gt_set_ne c0 (by omega) (by omega), gt_set_eq (by omega) (by omega)]
        have e3 : ∀ q : Int, 0 ≤ q → q ≠ u.2 → q ≠ u.2 - 1 → gt ((u.1.set u.2.toNat (gt u.1 (u.2 - 1))).set (u.2 - 1).toNat (gt u.1 u.2)) q = gt u.1 q := fun q q0 n1 n2 => by rw [gt_set_ne c0 q0 (by omega), gt_set_ne (by omega) q0 (by omega)]
        have st := swap_turn u.1 (i := u.2) (j := u.2 - 1) (a := a) (b := b) (by omega) c0 (by omega) c1 u0 (by omega) (by omega) (by omega)
        refine Has.chk ⟨c0, c1⟩ (Has.chk ⟨by omega, by omega⟩ (Has.letF (Has.ret (.next ⟨by simp only []; omega, by simp only []; omega, u2.trans st, fun p q p0 pq q1 n1 n2 => ?_, fun q q0 q1 => ?_⟩ (by simp only []; omega)))))
        · simp only [] at n1 n2 ⊢
          by_cases ep : p = u.2
          · rw [ep, e2, e3 q (by omega) (by omega) n2]
            exact u4 (u.2 - 1) q (by omega) (by omega) q1 (by omega) (by omega)
          · by_cases eq : q = u.2
            · rw [eq, e2, e3 p (by omega) ep n1]
              exact u4 p (u.2 - 1) p0 (by omega) (by omega) (by omega) (by omega)
            · rw [e3 p (by omega) ep n1, e3 q (by omega) eq n2]
              exact u4 p q p0 pq q1 ep eq
        · simp only [] at q0 ⊢
          rw [e1]
          by_cases eq : q = u.2
          · rw [eq, e2]; exact hle
          · rw [e3 q (by omega) eq (by omega)]
            exact u5 q (by omega) q1
      · have hc : c = false := by simpa using hc
        by_cases ep : p = u.2
        · rw [ep]; exact u5 q (by omega) q1
        · by_cases eq : q = u.2
          · rcases b2 hc with h | h
            · omega
            · rw [eq]
              by_cases e : p = u.2 - 1
              · rw [e]; exact h
              · exact (u4 p (u.2 - 1) p0 (by omega) (by omega) ep (by omega)).trans h
          · exact u4 p q p0 pq q1 ep eq
  · have hi : ¬ t.2 < b := fun q => hi (decide_eq_true q)
    exact Has.ret (.done ⟨t3, fun p q p0 pq q1 => t5 p q p0 pq (by omega)⟩)
end Lf
/- slices.swapRange and slices.rotate, told by places. -/
namespace Lf
open Go Go.Abs
set_option linter.unusedVariables false
set_option linter.unusedSimpArgs false
/-- Two stretches of n changed for each other. -/
def swapAt (xs : List curve_Sample) (a b n : Int) (p : Int) : curve_Sample :=
  if a ≤ p ∧ p < a + n then gt xs (p - a + b) else if b ≤ p ∧ p < b + n then gt xs (p - b + a) else gt xs p
/-- [a, m) and [m, b) turned about. -/
def rotAt (xs : List curve_Sample) (a m b : Int) (p : Int) : curve_Sample :=
  if a ≤ p ∧ p < a + (b - m) then gt xs (p + (m - a)) else if a + (b - m) ≤ p ∧ p < b then gt xs (p - (b - m)) else gt xs p
theorem swap_ok (xs : List curve_Sample) (a b n : Int) (a0 : 0 ≤ a) (n0 : 0 ≤ n) (ab : a + n ≤ b) (hb : b + n ≤ xs.length) (hl : xs.length ≤ 1000) :
    Has (slices_swapRangeCmpFunc_curve_Sample_curve_order xs a b n) fun r => r.Perm xs ∧ ∀ p : Int, 0 ≤ p → gt r p = swapAt xs a b n p := by
  unfold slices_swapRangeCmpFunc_curve_Sample_curve_order
  refine Has.bind (P := fun r : List curve_Sample => r.Perm xs ∧ ∀ p : Int, 0 ≤ p → gt r p = swapAt xs a b n p) ?_ fun r hr => Has.ret hr
  refine Has.loop (fun t : List curve_Sample × Int => 0 ≤ t.2 ∧ t.2 ≤ n ∧ t.1.Perm xs ∧ ∀ p : Int, 0 ≤ p → gt t.1 p = swapAt xs a b t.2 p) (fun t => (n - t.2).toNat) _
    ⟨Int.le_refl _, n0, List.Perm.refl _, fun p p0 => by simp only [swapAt]; split <;> (try split) <;> first | rfl | omega⟩ (by simp only []; omega) fun t ⟨t0, t1, t2, t3⟩ => ?_
  have tl := t2.length_eq
  unfold slices_swapRangeCmpFunc_curve_Sample_curve_order.l1
  refine Has.ite (fun hi => ?_) fun hi => ?_
  · have hi : t.2 < n := of_decide_eq_true hi
    rw [w6_in (n := b + t.2) (by omega), w6_in (n := a + t.2) (by omega), w6_in (n := t.2 + 1) (by omega)]
    have st := swap_turn t.1 (i := a + t.2) (j := b + t.2) (a := 0) (b := xs.length) (by omega) (by omega) (by omega) (by omega) (by omega) (by omega) (by omega) (by omega)
    refine Has.chk ⟨by omega, by omega⟩ (Has.chk ⟨by omega, by omega⟩ (Has.letF (Has.ret (.next ⟨by simp only []; omega, by simp only []; omega, st.perm.trans t2, fun p p0 => ?_⟩ (by simp only []; omega)))))
    simp only []
    by_cases e1 : p = b + t.2
    · rw [e1, gt_set_eq (by omega) (by simp only [List.length_set]; omega), t3 _ (by omega)]
      simp only [swapAt]
      rw [if_neg (by omega), if_neg (by omega), if_neg (by omega), if_pos (by omega)]
      congr 1; omega
    · rw [gt_set_ne (by omega) p0 (by omega)]
      by_cases e2 : p = a + t.2
      · rw [e2, gt_set_eq (by omega) (by omega), t3 _ (by omega)]
        simp only [swapAt]
        rw [if_neg (by omega), if_neg (by omega), if_pos (by omega)]
        congr 1; omega
      · rw [gt_set_ne (by omega) p0 (by omega), t3 _ p0]
        simp only [swapAt]
        split <;> split <;> (try split) <;> (try split) <;> first | rfl | omega
  · have hi : ¬ t.2 < n := fun q => hi (decide_eq_true q)
    have : t.2 = n := by omega
    exact Has.ret (.done ⟨t2, fun p p0 => by rw [t3 p p0, this]⟩)
theorem rot_step1 (xs ys : List curve_Sample) (m i j : Int) (i0 : 0 < j) (ij : j < i) (h : i ≤ m) (hs : ∀ p : Int, 0 ≤ p → gt ys p = swapAt xs (m - i) m j p) (p : Int) (p0 : 0 ≤ p) :
    rotAt ys (m - (i - j)) m (m + j) p = rotAt xs (m - i) m (m + j) p := by
  simp only [rotAt]
  split
  · rw [hs _ (by omega)]
    simp only [swapAt]
    rw [if_neg (by omega), if_pos (by omega), if_neg (by omega), if_pos (by omega)]
    congr 1; omega
  · split
    · rw [hs _ (by omega)]
      simp only [swapAt]
      rw [if_neg (by omega), if_neg (by omega), if_neg (by omega), if_pos (by omega)]
    · rw [hs _ p0]
      simp only [swapAt]
      split <;> (try split) <;> (try split) <;> (try split) <;> first | rfl | omega | (congr 1; omega)
theorem rot_step2 (xs ys : List curve_Sample) (m i j : Int) (i0 : 0 < i) (ij : i < j) (h : i ≤ m) (hs : ∀ p : Int, 0 ≤ p → gt ys p = swapAt xs (m - i) (m + j - i) i p) (p : Int) (p0 : 0 ≤ p) :
    rotAt ys (m - i) m (m + (j - i)) p = rotAt xs (m - i) m (m + j) p := by
  simp only [rotAt]
  split
  · rw [hs _ (by omega)]
    simp only [swapAt]
    split <;> (try split) <;> (try split) <;> (try split) <;> first | rfl | omega | (congr 1; omega)
  · split
    · rw [hs _ (by omega)]
      simp only [swapAt]
      split <;> (try split) <;> (try split) <;> (try split) <;> first | rfl | omega | (congr 1; omega)
    · rw [hs _ p0]
      simp only [swapAt]
      split <;> (try split) <;> (try split) <;> (try split) <;> first | rfl | omega | (congr 1; omega)
theorem rot_last (xs : List curve_Sample) (m i : Int) (i0 : 0 < i) (h : i ≤ m) (p : Int) : swapAt xs (m - i) m i p = rotAt xs (m - i) m (m + i) p := by
  simp only [swapAt, rotAt]
  split <;> (try split) <;> (try split) <;> (try split) <;> first | rfl | omega | (congr 1; omega)
theorem rot_ok (xs : List curve_Sample) (a m b : Int) (a0 : 0 ≤ a) (am : a < m) (mb : m < b) (hb : b ≤ xs.length) (hl : xs.length ≤ 1000) :
    Has (slices_rotateCmpFunc_curve_Sample_curve_order xs a m b) fun r => r.Perm xs ∧ ∀ p : Int, 0 ≤ p → gt r p = rotAt xs a m b p := by
  unfold slices_rotateCmpFunc_curve_Sample_curve_order
  rw [w6_in (n := m - a) (by omega), w6_in (n := b - m) (by omega)]
  refine Has.bind (P := fun z : List curve_Sample × Int => 0 < z.2 ∧ z.2 ≤ m - a ∧ z.2 ≤ b - m ∧ z.1.Perm xs ∧ ∀ p : Int, 0 ≤ p → rotAt z.1 (m - z.2) m (m + z.2) p = rotAt xs a m b p) ?_ fun z ⟨z0, z1, z2, z3, z4⟩ => ?_
  · refine Has.loop (fun t : List curve_Sample × Int × Int => 0 < t.2.1 ∧ t.2.1 ≤ m - a ∧ 0 < t.2.2 ∧ t.2.2 ≤ b - m ∧ t.1.Perm xs ∧ ∀ p : Int, 0 ≤ p → rotAt t.1 (m - t.2.1) m (m + t.2.2) p = rotAt xs a m b p) (fun t => (t.2.1 + t.2.2).toNat) _
      ⟨by simp only []; omega, Int.le_refl _, by simp only []; omega, Int.le_refl _, List.Perm.refl _, fun p p0 => by simp only []; congr 1 <;> omega⟩ (by simp only []; omega) fun t ⟨t0, t1, t2, t3, t4, t5⟩ => ?_
    have tl := t4.length_eq
    unfold slices_rotateCmpFunc_curve_Sample_curve_order.l1
    refine Has.ite (fun hi => ?_) fun hi => ?_
    · have hi : t.2.1 ≠ t.2.2 := by simpa using hi
      refine Has.ite (fun hg => ?_) fun hg => ?_
      · have hg : t.2.1 > t.2.2 := of_decide_eq_true hg
        rw [w6_in (n := m - t.2.1) (by omega), w6_in (n := t.2.1 - t.2.2) (by omega)]
        refine (swap_ok t.1 (m - t.2.1) m t.2.2 (by omega) (by omega) (by omega) (by omega) (by omega)).bind fun r ⟨r1, r2⟩ => ?_
        refine Has.chk r1.length_eq.symm (Has.ret (.next ⟨by simp only []; omega, by simp only []; omega, t2, t3, r1.trans t4, fun p p0 => ?_⟩ (by simp only []; omega)))
        exact (rot_step1 t.1 r m t.2.1 t.2.2 t2 hg (by omega) r2 p p0).trans (t5 p p0)
      · have hg : ¬ t.2.1 > t.2.2 := fun q => hg (decide_eq_true q)
        rw [w6_in (n := m - t.2.1) (by omega), w6_in (n := m + t.2.2) (by omega), w6_in (n := m + t.2.2 - t.2.1) (by omega), w6_in (n := t.2.2 - t.2.1) (by omega)]
        refine (swap_ok t.1 (m - t.2.1) (m + t.2.2 - t.2.1) t.2.1 (by omega) (by omega) (by omega) (by omega) (by omega)).bind fun r ⟨r1, r2⟩ => ?_
        refine Has.chk r1.length_eq.symm (Has.ret (.next ⟨t0, t1, by simp only []; omega, by simp only []; omega, r1.trans t4, fun p p0 => ?_⟩ (by simp only []; omega)))
        exact (rot_step2 t.1 r m t.2.1 t.2.2 t0 (by omega) (by omega) r2 p p0).trans (t5 p p0)
    · have hi : t.2.1 = t.2.2 := by simpa using hi
      exact Has.ret (.done ⟨t0, t1, by simp only []; omega, t4, fun p p0 => by simp only []; rw [← t5 p p0, ← hi]⟩)
  · have zl := z3.length_eq
    rw [w6_in (n := m - z.2) (by omega)]
    refine (swap_ok z.1 (m - z.2) m z.2 (by omega) (by omega) (by omega) (by omega) (by omega)).bind fun r ⟨r1, r2⟩ => ?_
    exact Has.chk r1.length_eq.symm (Has.ret ⟨r1.trans z3, fun p p0 => by rw [r2 p p0, rot_last _ _ _ z0 (by omega), z4 p p0]⟩)
end Lf
/- What a turn about a cut does to two sorted stretches. -/
namespace Lf
open Go Go.Abs
set_option linter.unusedVariables false
set_option linter.unusedSimpArgs false
theorem leS.refl (a : curve_Sample) : leS a a := by unfold leS; omega
theorem leS.total (a b : curve_Sample) : leS a b ∨ leS b a := by unfold leS; omega
theorem sortedIn.le {xs : List curve_Sample} {a b p q : Int} (h : sortedIn xs a b) (p0 : a ≤ p) (pq : p ≤ q) (q1 : q < b) : leS (gt xs p) (gt xs q) := by
  by_cases e : p = q
  · rw [e]; exact leS.refl _
  · exact h p q p0 (by omega) q1
theorem sortedIn.short (xs : List curve_Sample) {a b : Int} (h : b ≤ a + 1) : sortedIn xs a b := fun p q p0 pq q1 => by omega
theorem sortedIn.sub {xs : List curve_Sample} {a b c d : Int} (h : sortedIn xs a b) (ac : a ≤ c) (db : d ≤ b) : sortedIn xs c d := fun p q p0 pq q1 => h p q (by omega) pq (by omega)
theorem sortedIn.join {xs : List curve_Sample} {a c b : Int} (h : sortedIn xs a c) (k : sortedIn xs c b) (hx : ∀ p q : Int, a ≤ p → p < c → c ≤ q → q < b → leS (gt xs p) (gt xs q)) : sortedIn xs a b := fun p q p0 pq q1 => by
  by_cases e : q < c
  · exact h p q p0 pq e
  · by_cases f : p < c
    · exact hx p q p0 f (by omega) q1
    · exact k p q (by omega) pq q1
/-- Two halves, the one not above the other, each sorted anew. -/
theorem sortedIn.halves {xs ys zs : List curve_Sample} {a c b : Int} (a0 : 0 ≤ a) (ac : a ≤ c) (cb : c ≤ b) (hx : ∀ p q : Int, a ≤ p → p < c → c ≤ q → q < b → leS (gt xs p) (gt xs q))
    (h1 : turnIn xs ys a c) (s1 : sortedIn ys a c) (h2 : turnIn ys zs c b) (s2 : sortedIn zs c b) : turnIn xs zs a b ∧ sortedIn zs a b := by
  refine ⟨(h1.wide a0 (Int.le_refl _) cb).trans (h2.wide a0 ac (Int.le_refl _)), ?_⟩
  refine sortedIn.join (c := c) (fun p q p0 pq q1 => ?_) s2 fun p q p0 p1 q0 q1 => ?_
  · rw [h2.out p (by omega) (by omega), h2.out q (by omega) (by omega)]; exact s1 p q p0 pq q1
  · obtain ⟨p', p0', p1', e⟩ := h1.into p p0 p1
    obtain ⟨q', q0', q1', f⟩ := h2.into q q0 q1
    rw [h2.out p (by omega) (by omega), e, f, h1.out q' (by omega) (by omega)]
    exact hx p' q' p0' p1' q0' q1'
theorem rot_turn {xs ys : List curve_Sample} {a z m e b : Int} (a0 : 0 ≤ a) (az : a ≤ z) (zm : z ≤ m) (me : m ≤ e) (eb : e ≤ b) (hp : ys.Perm xs) (h : ∀ p : Int, 0 ≤ p → gt ys p = rotAt xs z m e p) : turnIn xs ys a b := by
  refine ⟨hp, fun p p0 h1 => ?_, fun p p0 p1 => ?_⟩
  · rw [h p p0]; simp only [rotAt]; rw [if_neg (by omega), if_neg (by omega)]
  · rw [h p (by omega)]; simp only [rotAt]
    split
    · exact ⟨_, by omega, by omega, rfl⟩
    · split
      · exact ⟨_, by omega, by omega, rfl⟩
      · exact ⟨p, p0, p1, rfl⟩
/-- The cut of a merge: what is left of it is not above what is right of it. -/
structure cutAt (xs : List curve_Sample) (a z m e b : Int) : Prop where
  x : z = a ∨ e = b ∨ leS (gt xs (z - 1)) (gt xs e)
  y : z = m ∨ e = m ∨ leS (gt xs (e - 1)) (gt xs z)
theorem rot_sorted {xs ys : List curve_Sample} {a z m e b : Int} (a0 : 0 ≤ a) (az : a ≤ z) (zm : z ≤ m) (me : m ≤ e) (eb : e ≤ b) (h : ∀ p : Int, 0 ≤ p → gt ys p = rotAt xs z m e p) (s1 : sortedIn xs a m) (s2 : sortedIn xs m b) (hc : cutAt xs a z m e b) :
    sortedIn ys a z ∧ sortedIn ys z (z + e - m) ∧ sortedIn ys (z + e - m) e ∧ sortedIn ys e b ∧ ∀ p q : Int, a ≤ p → p < z + e - m → z + e - m ≤ q → q < b → leS (gt ys p) (gt ys q) := by
  have hA : ∀ p, 0 ≤ p → p < z → gt ys p = gt xs p := fun p p0 p1 => by rw [h p p0]; simp only [rotAt]; rw [if_neg (by omega), if_neg (by omega)]
  have hB : ∀ p, z ≤ p → p < z + e - m → gt ys p = gt xs (p + (m - z)) := fun p p0 p1 => by rw [h p (by omega)]; simp only [rotAt]; rw [if_pos (by omega)]
  have hC : ∀ p, z + e - m ≤ p → p < e → gt ys p = gt xs (p - (e - m)) := fun p p0 p1 => by rw [h p (by omega)]; simp only [rotAt]; rw [if_neg (by omega), if_pos (by omega)]
  have hD : ∀ p, e ≤ p → gt ys p = gt xs p := fun p p0 => by rw [h p (by omega)]; simp only [rotAt]; rw [if_neg (by omega), if_neg (by omega)]
  refine ⟨fun p q p0 pq q1 => ?_, fun p q p0 pq q1 => ?_, fun p q p0 pq q1 => ?_, fun p q p0 pq q1 => ?_, fun p q p0 p1 q0 q1 => ?_⟩
  · rw [hA p (by omega) (by omega), hA q (by omega) (by omega)]; exact s1 p q p0 pq (by omega)
  · rw [hB p (by omega) (by omega), hB q (by omega) (by omega)]; exact s2 _ _ (by omega) (by omega) (by omega)
  · rw [hC p (by omega) (by omega), hC q (by omega) (by omega)]; exact s1 _ _ (by omega) (by omega) (by omega)
  · rw [hD p (by omega), hD q (by omega)]; exact s2 _ _ (by omega) (by omega) (by omega)
  · by_cases p2 : p < z
    · rw [hA p (by omega) p2]
      by_cases q2 : q < e
      · rw [hC q q0 q2]; exact s1 _ _ p0 (by omega) (by omega)
      · rw [hD q (by omega)]
        rcases hc.x with k | k | k
        · omega
        · omega
        · exact (s1.le p0 (by omega : p ≤ z - 1) (by omega)).trans (k.trans (s2.le (by omega) (by omega : e ≤ q) q1))
    · rw [hB p (by omega) p1]
      by_cases q2 : q < e
      · rw [hC q q0 q2]
        rcases hc.y with k | k | k
        · omega
        · omega
        · exact (s2.le (by omega) (by omega : p + (m - z) ≤ e - 1) (by omega)).trans (k.trans (s1.le (by omega) (by omega : z ≤ q - (e - m)) (by omega)))
      · rw [hD q (by omega)]; exact s2.le (by omega) (by omega) q1
end Lf
/- slices.symMerge with curve.order. -/
namespace Lf
open Go Go.Abs
set_option linter.unusedVariables false
set_option linter.unusedSimpArgs false
theorem half_ok {x y : Int} (h : 0 ≤ x + y ∧ x + y ≤ 4000) : w6 (Int.fdiv (IntKind.wrap .u64 (w6 (x + y))) (2 ^ 1)) = (x + y) / 2 := by
  rw [w6_in (n := x + y) (by omega), IntKind.wrap_u64, show (2 : Int) ^ 1 = 2 from rfl, Int.fdiv_eq_ediv_of_nonneg _ (by omega)]
  rw [w6_in (by omega)]
  omega
def tailR (f : Nat) (d : List curve_Sample) (mid e b : Int) : Option (List curve_Sample) :=
  Option.bind (letF (decide (mid < e)) fun v => if v = true then some (decide (e < b)) else some false) fun z : Bool => if z = true then Option.bind (slices_symMergeCmpFunc_curve_Sample_curve_order f d mid e b) fun r => if d.length = r.length then some r else none else some d
def tailL (f : Nat) (d : List curve_Sample) (a z mid e b : Int) : Option (List curve_Sample) :=
  Option.bind (if (decide (a < z)) = true then letF (decide (z < mid)) fun v => some v else some false) fun q : Bool => if q = true then Option.bind (slices_symMergeCmpFunc_curve_Sample_curve_order f d a z mid) fun r => if d.length = r.length then tailR f r mid e b else none else tailR f d mid e b
def mergesAt (f : Nat) : Prop := ∀ (xs : List curve_Sample) (a m b : Int), 0 ≤ a → a < m → m < b → b ≤ xs.length → xs.length ≤ 1000 → b - a ≤ f → sortedIn xs a m → sortedIn xs m b →
    Has (slices_symMergeCmpFunc_curve_Sample_curve_order f xs a m b) fun r => turnIn xs r a b ∧ sortedIn r a b
theorem tailR_ok {f : Nat} (ih : mergesAt f) (xs : List curve_Sample) (m e b : Int) (m0 : 0 ≤ m) (me : m ≤ e) (eb : e ≤ b) (hb : b ≤ xs.length) (hl : xs.length ≤ 1000) (hf : b - m ≤ f) (s1 : sortedIn xs m e) (s2 : sortedIn xs e b) :
    Has (tailR f xs m e b) fun r => turnIn xs r m b ∧ sortedIn r m b := by
  unfold tailR
  refine Has.bind (P := fun q : Bool => (q = true → m < e ∧ e < b) ∧ (q = false → m = e ∨ e = b)) ?_ fun q ⟨q1, q2⟩ => ?_
  · refine Has.letF (Has.ite (fun h => Has.ret ⟨fun h' => ⟨of_decide_eq_true h, of_decide_eq_true h'⟩, fun h' => .inr ?_⟩) fun h => Has.ret ⟨(fun h' => nomatch h'), fun _ => .inl ?_⟩)
    · have := of_decide_eq_false h'; omega
    · have : ¬ m < e := fun k => h (decide_eq_true k)
      omega
  · refine Has.ite (fun h => ?_) fun h => ?_
    · obtain ⟨h1, h2⟩ := q1 h
      refine (ih xs m e b m0 h1 h2 hb hl hf s1 s2).bind fun r ⟨r1, r2⟩ => Has.chk r1.len.symm (Has.ret ⟨r1, r2⟩)
    · refine Has.ret ⟨turnIn.refl _ _ _, ?_⟩
      rcases q2 (by simpa using h) with k | k
      · rw [k]; exact s2
      · rw [← k]; exact s1
theorem tailL_ok {f : Nat} (ih : mergesAt f) (xs : List curve_Sample) (a z m e b : Int) (a0 : 0 ≤ a) (az : a ≤ z) (zm : z ≤ m) (me : m ≤ e) (eb : e ≤ b) (hb : b ≤ xs.length) (hl : xs.length ≤ 1000) (hf1 : b - m ≤ f) (hf2 : m - a ≤ f)
    (s1 : sortedIn xs a z) (s2 : sortedIn xs z m) (s3 : sortedIn xs m e) (s4 : sortedIn xs e b) (hx : ∀ p q : Int, a ≤ p → p < m → m ≤ q → q < b → leS (gt xs p) (gt xs q)) :
    Has (tailL f xs a z m e b) fun r => turnIn xs r a b ∧ sortedIn r a b := by
  unfold tailL
  refine Has.bind (P := fun q : Bool => (q = true → a < z ∧ z < m) ∧ (q = false → a = z ∨ z = m)) ?_ fun q ⟨q1, q2⟩ => ?_
  · refine Has.ite (fun h => Has.letF (Has.ret ⟨fun h' => ⟨of_decide_eq_true h, of_decide_eq_true h'⟩, fun h' => .inr ?_⟩)) fun h => Has.ret ⟨(fun h' => nomatch h'), fun _ => .inl ?_⟩
    · have := of_decide_eq_false h'; omega
    · have : ¬ a < z := fun k => h (decide_eq_true k)
      omega
  · refine Has.ite (fun h => ?_) fun h => ?_
    · obtain ⟨h1, h2⟩ := q1 h
      refine (ih xs a z m a0 h1 h2 (by omega) hl hf2 s1 s2).bind fun r ⟨r1, r2⟩ => Has.chk r1.len.symm ?_
      have rl := r1.len
      refine (tailR_ok ih r m e b (by omega) me eb (by omega) (by omega) hf1 (fun p q p0 pq q1 => ?_) fun p q p0 pq q1 => ?_).mono fun y ⟨y1, y2⟩ => sortedIn.halves a0 (by omega) (by omega) hx r1 r2 y1 y2
      · rw [r1.out p (by omega) (by omega), r1.out q (by omega) (by omega)]; exact s3 p q p0 pq q1
      · rw [r1.out p (by omega) (by omega), r1.out q (by omega) (by omega)]; exact s4 p q p0 pq q1
    · have sL : sortedIn xs a m := by
        rcases q2 (by simpa using h) with k | k
        · rw [k]; exact s2
        · rw [← k]; exact s1
      exact (tailR_ok ih xs m e b (by omega) me eb hb hl hf1 s3 s4).mono fun y ⟨y1, y2⟩ => sortedIn.halves a0 (by omega) (by omega) hx (turnIn.refl _ _ _) sL y1 y2
end Lf
/- slices.symMerge with curve.order: the searches. -/
namespace Lf
open Go Go.Abs
set_option linter.unusedVariables false
set_option linter.unusedSimpArgs false
theorem seek6 (xs : List curve_Sample) (n lo hi : Int) (h0 : 0 ≤ lo) (h1 : lo ≤ hi) (hh : hi ≤ xs.length) (hl : xs.length ≤ 1000) (hn : n ≤ 2000) (hp : ∀ c, lo ≤ c → c < hi → 0 ≤ n - 1 - c ∧ n - 1 - c < xs.length) :
    Has (loopF (slices_symMergeCmpFunc_curve_Sample_curve_order.l6 xs n) (lo, hi)) fun z => lo ≤ z ∧ z ≤ hi ∧ (z = lo ∨ leS (gt xs (z - 1)) (gt xs (n - z))) ∧ (z = hi ∨ leS (gt xs (n - 1 - z)) (gt xs z)) := by
  refine Has.loop (fun t : Int × Int => lo ≤ t.1 ∧ t.1 ≤ t.2 ∧ t.2 ≤ hi ∧ (t.1 = lo ∨ leS (gt xs (t.1 - 1)) (gt xs (n - t.1))) ∧ (t.2 = hi ∨ leS (gt xs (n - 1 - t.2)) (gt xs t.2))) (fun t => (t.2 - t.1).toNat) _
    ⟨Int.le_refl _, h1, Int.le_refl _, .inl rfl, .inl rfl⟩ (by simp only []; omega) fun t ⟨t1, t2, t3, t4, t5⟩ => ?_
  unfold slices_symMergeCmpFunc_curve_Sample_curve_order.l6
  rw [half_ok (by omega)]
  refine Has.ite (fun hi' => ?_) fun hi' => ?_
  · have hi' : t.1 < t.2 := of_decide_eq_true hi'
    have b := hp ((t.1 + t.2) / 2) (by omega) (by omega)
    rw [w6_in (n := n - 1) (by omega), w6_in (n := n - 1 - (t.1 + t.2) / 2) (by omega), w6_in (n := (t.1 + t.2) / 2 + 1) (by omega)]
    refine Has.letF (Has.chk b (Has.chk ⟨by omega, by omega⟩ (order_lt.bind fun r ⟨r1, r2, _⟩ => Has.ite (fun h => ?_) fun h => ?_)))
    · have h : ¬ r < 0 := by simpa using h
      refine Has.letF (Has.ret (.next ⟨by simp only []; omega, by simp only []; omega, t3, .inr ?_, t5⟩ (by simp only []; omega)))
      have := r2 h
      simp only []
      rw [show (t.1 + t.2) / 2 + 1 - 1 = (t.1 + t.2) / 2 by omega, show n - ((t.1 + t.2) / 2 + 1) = n - 1 - (t.1 + t.2) / 2 by omega]
      exact this
    · have h : r < 0 := by simpa using h
      exact Has.ret (.next ⟨t1, by simp only []; omega, by simp only []; omega, t4, .inr (r1 h)⟩ (by simp only []; omega))
  · have hi' : ¬ t.1 < t.2 := fun q => hi' (decide_eq_true q)
    have e : t.1 = t.2 := by omega
    exact Has.ret (.done ⟨t1, by omega, t4, by rw [e]; exact t5⟩)
theorem seek5 (xs : List curve_Sample) (n lo hi : Int) (h0 : 0 ≤ lo) (h1 : lo ≤ hi) (hh : hi ≤ xs.length) (hl : xs.length ≤ 1000) (hn : n ≤ 2000) (hp : ∀ c, lo ≤ c → c < hi → 0 ≤ n - 1 - c ∧ n - 1 - c < xs.length) :
    Has (loopF (slices_symMergeCmpFunc_curve_Sample_curve_order.l5 xs n) (lo, hi)) fun z => lo ≤ z ∧ z ≤ hi ∧ (z = lo ∨ leS (gt xs (z - 1)) (gt xs (n - z))) ∧ (z = hi ∨ leS (gt xs (n - 1 - z)) (gt xs z)) := seek6 xs n lo hi h0 h1 hh hl hn hp
theorem seek1 (xs : List curve_Sample) (a m b : Int) (h0 : 0 ≤ m) (h1 : m ≤ b) (hh : b ≤ xs.length) (hl : xs.length ≤ 1000) (ha : 0 ≤ a ∧ a < xs.length) :
    Has (loopF (slices_symMergeCmpFunc_curve_Sample_curve_order.l1 xs a) (m, b)) fun z => m ≤ z ∧ z ≤ b ∧ (z = m ∨ leS (gt xs (z - 1)) (gt xs a)) ∧ (z = b ∨ leS (gt xs a) (gt xs z)) := by
  refine Has.loop (fun t : Int × Int => m ≤ t.1 ∧ t.1 ≤ t.2 ∧ t.2 ≤ b ∧ (t.1 = m ∨ leS (gt xs (t.1 - 1)) (gt xs a)) ∧ (t.2 = b ∨ leS (gt xs a) (gt xs t.2))) (fun t => (t.2 - t.1).toNat) _
    ⟨Int.le_refl _, h1, Int.le_refl _, .inl rfl, .inl rfl⟩ (by simp only []; omega) fun t ⟨t1, t2, t3, t4, t5⟩ => ?_
  unfold slices_symMergeCmpFunc_curve_Sample_curve_order.l1
  rw [half_ok (by omega)]
  refine Has.ite (fun hi' => ?_) fun hi' => ?_
  · have hi' : t.1 < t.2 := of_decide_eq_true hi'
    rw [w6_in (n := (t.1 + t.2) / 2 + 1) (by omega)]
    refine Has.chk ⟨by omega, by omega⟩ (Has.chk ha (order_lt.bind fun r ⟨r1, r2, _⟩ => Has.ite (fun h => ?_) fun h => ?_))
    · have h : r < 0 := by simpa using h
      refine Has.letF (Has.ret (.next ⟨by simp only []; omega, by simp only []; omega, t3, .inr ?_, t5⟩ (by simp only []; omega)))
      simp only []
      rw [show (t.1 + t.2) / 2 + 1 - 1 = (t.1 + t.2) / 2 by omega]
      exact r1 h
    · have h : ¬ r < 0 := by simpa using h
      exact Has.ret (.next ⟨t1, by simp only []; omega, by simp only []; omega, t4, .inr (r2 h)⟩ (by simp only []; omega))
  · have hi' : ¬ t.1 < t.2 := fun q => hi' (decide_eq_true q)
    have e : t.1 = t.2 := by omega
    exact Has.ret (.done ⟨t1, by omega, t4, by rw [e]; exact t5⟩)
theorem seek3 (xs : List curve_Sample) (a m : Int) (h0 : 0 ≤ a) (h1 : a ≤ m) (hh : m ≤ xs.length) (hl : xs.length ≤ 1000) (ha : 0 ≤ m ∧ m < xs.length) :
    Has (loopF (slices_symMergeCmpFunc_curve_Sample_curve_order.l3 xs m) (a, m)) fun z => a ≤ z ∧ z ≤ m ∧ (z = a ∨ leS (gt xs (z - 1)) (gt xs m)) ∧ (z = m ∨ leS (gt xs m) (gt xs z)) := by
  refine Has.loop (fun t : Int × Int => a ≤ t.1 ∧ t.1 ≤ t.2 ∧ t.2 ≤ m ∧ (t.1 = a ∨ leS (gt xs (t.1 - 1)) (gt xs m)) ∧ (t.2 = m ∨ leS (gt xs m) (gt xs t.2))) (fun t => (t.2 - t.1).toNat) _
    ⟨Int.le_refl _, h1, Int.le_refl _, .inl rfl, .inl rfl⟩ (by simp only []; omega) fun t ⟨t1, t2, t3, t4, t5⟩ => ?_
  unfold slices_symMergeCmpFunc_curve_Sample_curve_order.l3
  rw [half_ok (by omega)]
  refine Has.ite (fun hi' => ?_) fun hi' => ?_
  · have hi' : t.1 < t.2 := of_decide_eq_true hi'
    rw [w6_in (n := (t.1 + t.2) / 2 + 1) (by omega)]
    refine Has.chk ha (Has.chk ⟨by omega, by omega⟩ (order_lt.bind fun r ⟨r1, r2, _⟩ => Has.ite (fun h => ?_) fun h => ?_))
    · have h : ¬ r < 0 := by simpa using h
      refine Has.letF (Has.ret (.next ⟨by simp only []; omega, by simp only []; omega, t3, .inr ?_, t5⟩ (by simp only []; omega)))
      simp only []
      rw [show (t.1 + t.2) / 2 + 1 - 1 = (t.1 + t.2) / 2 by omega]
      exact r2 h
    · have h : r < 0 := by simpa using h
      exact Has.ret (.next ⟨t1, by simp only []; omega, by simp only []; omega, t4, .inr (r1 h)⟩ (by simp only []; omega))
  · have hi' : ¬ t.1 < t.2 := fun q => hi' (decide_eq_true q)
    have e : t.1 = t.2 := by omega
    exact Has.ret (.done ⟨t1, by omega, t4, by rw [e]; exact t5⟩)
end Lf
/- slices.symMerge with curve.order: one element into a stretch, and the whole. -/
namespace Lf
open Go Go.Abs
set_option linter.unusedVariables false
set_option linter.unusedSimpArgs false
theorem ins2 (xs : List curve_Sample) (a z : Int) (a0 : 0 ≤ a) (az : a + 1 ≤ z) (hz : z ≤ xs.length) (hl : xs.length ≤ 1000) :
    Has (loopF (slices_symMergeCmpFunc_curve_Sample_curve_order.l2 z) (xs, a)) fun r => r.Perm xs ∧ ∀ p : Int, 0 ≤ p → gt r p = rotAt xs a (a + 1) z p := by
  refine Has.loop (fun t : List curve_Sample × Int => a ≤ t.2 ∧ t.2 + 1 ≤ z ∧ t.1.Perm xs ∧ ∀ p : Int, 0 ≤ p → gt t.1 p = rotAt xs a (a + 1) (t.2 + 1) p) (fun t => (z - t.2).toNat) _
    ⟨Int.le_refl _, az, List.Perm.refl _, fun p p0 => by simp only [rotAt]; split <;> (try split) <;> first | rfl | omega | (congr 1; omega)⟩ (by simp only []; omega) fun t ⟨t0, t1, t2, t3⟩ => ?_
  have tl := t2.length_eq
  unfold slices_symMergeCmpFunc_curve_Sample_curve_order.l2
  rw [w6_in (n := z - 1) (by omega)]
  refine Has.ite (fun hi => ?_) fun hi => ?_
  · have hi : t.2 < z - 1 := of_decide_eq_true hi
    rw [w6_in (n := t.2 + 1) (by omega)]
    have st := swap_turn t.1 (i := t.2) (j := t.2 + 1) (a := 0) (b := xs.length) (by omega) (by omega) (by omega) (by omega) (by omega) (by omega) (by omega) (by omega)
    refine Has.chk ⟨by omega, by omega⟩ (Has.chk ⟨by omega, by omega⟩ (Has.letF (Has.ret (.next ⟨by simp only []; omega, by simp only []; omega, st.perm.trans t2, fun p p0 => ?_⟩ (by simp only []; omega)))))
    simp only []
    by_cases e1 : p = t.2 + 1
    · rw [e1, gt_set_eq (by omega) (by simp only [List.length_set]; omega), t3 _ (by omega)]
      simp only [rotAt]
      rw [if_neg (by omega), if_pos (by omega), if_neg (by omega), if_pos (by omega)]
      congr 1; omega
    · rw [gt_set_ne (by omega) p0 (by omega)]
      by_cases e2 : p = t.2
      · rw [e2, gt_set_eq (by omega) (by omega), t3 _ (by omega)]
        simp only [rotAt]
        rw [if_neg (by omega), if_neg (by omega), if_pos (by omega)]
        congr 1; omega
      · rw [gt_set_ne (by omega) p0 (by omega), t3 _ p0]
        simp only [rotAt]
        split <;> split <;> (try split) <;> (try split) <;> first | rfl | omega | (congr 1; omega)
  · have hi : ¬ t.2 < z - 1 := fun q => hi (decide_eq_true q)
    have : t.2 + 1 = z := by omega
    exact Has.ret (.done ⟨t2, fun p p0 => by rw [t3 p p0, this]⟩)
theorem ins4 (xs : List curve_Sample) (z m : Int) (z0 : 0 ≤ z) (zm : z ≤ m) (hz : m < xs.length) (hl : xs.length ≤ 1000) :
    Has (loopF (slices_symMergeCmpFunc_curve_Sample_curve_order.l4 z) (xs, m)) fun r => r.Perm xs ∧ ∀ p : Int, 0 ≤ p → gt r p = rotAt xs z m (m + 1) p := by
  refine Has.loop (fun t : List curve_Sample × Int => z ≤ t.2 ∧ t.2 ≤ m ∧ t.1.Perm xs ∧ ∀ p : Int, 0 ≤ p → gt t.1 p = rotAt xs t.2 m (m + 1) p) (fun t => t.2.toNat) _
    ⟨zm, Int.le_refl _, List.Perm.refl _, fun p p0 => by simp only [rotAt]; split <;> (try split) <;> first | rfl | omega | (congr 1; omega)⟩ (by simp only []; omega) fun t ⟨t0, t1, t2, t3⟩ => ?_
  have tl := t2.length_eq
  unfold slices_symMergeCmpFunc_curve_Sample_curve_order.l4
  refine Has.ite (fun hi => ?_) fun hi => ?_
  · have hi : t.2 > z := of_decide_eq_true hi
    rw [w6_in (n := t.2 - 1) (by omega)]
    have st := swap_turn t.1 (i := t.2) (j := t.2 - 1) (a := 0) (b := xs.length) (by omega) (by omega) (by omega) (by omega) (by omega) (by omega) (by omega) (by omega)
    refine Has.chk ⟨by omega, by omega⟩ (Has.chk ⟨by omega, by omega⟩ (Has.letF (Has.ret (.next ⟨by simp only []; omega, by simp only []; omega, st.perm.trans t2, fun p p0 => ?_⟩ (by simp only []; omega)))))
    simp only []
    by_cases e1 : p = t.2 - 1
    · rw [e1, gt_set_eq (by omega) (by simp only [List.length_set]; omega), t3 _ (by omega)]
      simp only [rotAt]
      rw [if_pos (by omega), if_pos (by omega)]
      congr 1; omega
    · rw [gt_set_ne (by omega) p0 (by omega)]
      by_cases e2 : p = t.2
      · rw [e2, gt_set_eq (by omega) (by omega), t3 _ (by omega)]
        simp only [rotAt]
        rw [if_neg (by omega), if_neg (by omega), if_neg (by omega), if_pos (by omega)]
        congr 1; omega
      · rw [gt_set_ne (by omega) p0 (by omega), t3 _ p0]
        simp only [rotAt]
        split <;> split <;> (try split) <;> (try split) <;> first | rfl | omega | (congr 1; omega)
  · have hi : ¬ t.2 > z := fun q => hi (decide_eq_true q)
    have : t.2 = z := by omega
    exact Has.ret (.done ⟨t2, fun p p0 => by rw [t3 p p0, this]⟩)
end Lf
/- slices.symMerge with curve.order: the whole. -/
namespace Lf
open Go Go.Abs
set_option linter.unusedVariables false
set_option linter.unusedSimpArgs false
theorem after_ok {f : Nat} (ih : mergesAt f) (xs : List curve_Sample) (a z m e b mid : Int) (a0 : 0 ≤ a) (az : a ≤ z) (zm : z ≤ m) (me : m ≤ e) (eb : e ≤ b) (hb : b ≤ xs.length) (hl : xs.length ≤ 1000) (hm : mid = z + e - m) (hf1 : b - mid ≤ f) (hf2 : mid - a ≤ f)
    (s1 : sortedIn xs a m) (s2 : sortedIn xs m b) (hc : cutAt xs a z m e b) :
    Has (Option.bind (if (decide (z < m)) = true then some (decide (m < e)) else some false) fun q : Bool => if q = true then Option.bind (slices_rotateCmpFunc_curve_Sample_curve_order xs z m e) fun r => if xs.length = r.length then tailL f r a z mid e b else none else tailL f xs a z mid e b) fun r => turnIn xs r a b ∧ sortedIn r a b := by
  have go : ∀ ys : List curve_Sample, ys.Perm xs → (∀ p : Int, 0 ≤ p → gt ys p = rotAt xs z m e p) → Has (tailL f ys a z mid e b) fun r => turnIn xs r a b ∧ sortedIn r a b := fun ys hp hy => by
    have t := rot_turn a0 az zm me eb hp hy
    obtain ⟨k1, k2, k3, k4, k5⟩ := rot_sorted a0 az zm me eb hy s1 s2 hc
    rw [← hm] at k2 k3 k5
    have yl := t.len
    exact (tailL_ok ih ys a z mid e b a0 az (by omega) (by omega) eb (by omega) (by omega) hf1 hf2 k1 k2 k3 k4 k5).mono fun r ⟨r1, r2⟩ => ⟨t.trans r1, r2⟩
  refine Has.bind (P := fun q : Bool => (q = true → z < m ∧ m < e) ∧ (q = false → z = m ∨ m = e)) ?_ fun q ⟨q1, q2⟩ => ?_
  · refine Has.ite (fun h => Has.ret ⟨fun h' => ⟨of_decide_eq_true h, of_decide_eq_true h'⟩, fun h' => .inr ?_⟩) fun h => Has.ret ⟨(fun h' => nomatch h'), fun _ => .inl ?_⟩
    · have := of_decide_eq_false h'; omega
    · have : ¬ z < m := fun k => h (decide_eq_true k)
      omega
  · refine Has.ite (fun h => ?_) fun h => ?_
    · obtain ⟨h1, h2⟩ := q1 h
      exact (rot_ok xs z m e (by omega) h1 h2 (by omega) hl).bind fun r ⟨r1, r2⟩ => Has.chk r1.length_eq.symm (go r r1 r2)
    · refine go xs (List.Perm.refl _) fun p p0 => ?_
      simp only [rotAt]
      rcases q2 (by simpa using h) with k | k <;> split <;> (try split) <;> first | rfl | omega | (congr 1; omega)
theorem symM_ok : ∀ f : Nat, mergesAt f
  | 0 => fun xs a m b a0 am mb hb hl hf s1 s2 => by omega
  | f + 1 => fun xs a m b a0 am mb hb hl hf s1 s2 => by
    have ih := symM_ok f
    unfold slices_symMergeCmpFunc_curve_Sample_curve_order
    rw [w6_in (n := m - a) (by omega), w6_in (n := b - m) (by omega)]
    refine Has.ite (fun h1 => ?_) fun h1 => Has.ite (fun h2 => ?_) fun h2 => ?_
    · have h1 : m - a = 1 := by simpa using h1
      have em : m = a + 1 := by omega
      refine (seek1 xs a m b (by omega) (by omega) hb hl ⟨a0, by omega⟩).bind fun z ⟨z0, z1, z2, z3⟩ => ?_
      refine (ins2 xs a z a0 (by omega) (by omega) hl).bind fun r ⟨r1, r2⟩ => Has.ret ?_
      rw [← em] at r2
      obtain ⟨k1, k2, k3, k4, k5⟩ := rot_sorted (e := z) (z := a) a0 (Int.le_refl _) (by omega) (by omega) z1 r2 s1 s2 ⟨.inl rfl, .inr z2⟩
      refine ⟨rot_turn a0 (Int.le_refl _) (by omega) (by omega) z1 r1 r2, sortedIn.join k2 (sortedIn.join k3 k4 fun p q p0 p1 q0 q1 => ?_) k5⟩
      rw [r2 p (by omega), r2 q (by omega)]
      simp only [rotAt]
      rw [if_neg (by omega), if_pos (by omega), if_neg (by omega), if_neg (by omega), show p - (z - m) = a by omega]
      rcases z3 with k | k
      · omega
      · exact k.trans (s2.le z0 q0 q1)
    · have h2 : b - m = 1 := by simpa using h2
      refine (seek3 xs a m a0 (by omega) (by omega) hl ⟨by omega, by omega⟩).bind fun z ⟨z0, z1, z2, z3⟩ => ?_
      refine (ins4 xs z m (by omega) z1 (by omega) hl).bind fun r ⟨r1, r2⟩ => Has.ret ?_
      obtain ⟨k1, k2, k3, k4, k5⟩ := rot_sorted (e := m + 1) (b := b) (z := z) a0 z0 z1 (by omega) (by omega) r2 s1 s2 ⟨.inr (.inl (by omega)), by
        rcases z3 with k | k
        · exact .inl k
        · exact .inr (.inr (by rw [show m + 1 - 1 = m by omega]; exact k))⟩
      refine ⟨rot_turn a0 z0 z1 (by omega) (by omega) r1 r2, sortedIn.join (sortedIn.join k1 k2 fun p q p0 p1 q0 q1 => ?_) (sortedIn.join k3 k4 fun p q p0 p1 q0 q1 => by omega) k5⟩
      rw [r2 p (by omega), r2 q (by omega)]
      simp only [rotAt]
      rw [if_neg (by omega), if_neg (by omega), if_pos (by omega), show q + (m - z) = m by omega]
      rcases z2 with k | k
      · omega
      · exact (s1.le p0 (by omega : p ≤ z - 1) (by omega)).trans k
    · have h1 : ¬ m - a = 1 := by simpa using h1
      have h2 : ¬ b - m = 1 := by simpa using h2
      rw [half_ok (x := a) (y := b) (by omega), w6_in (n := (a + b) / 2 + m) (by omega)]
      refine Has.letF (Has.letF (Has.ite (fun h => ?_) fun h => ?_))
      · have h : m > (a + b) / 2 := of_decide_eq_true h
        rw [w6_in (n := (a + b) / 2 + m - b) (by omega)]
        refine (seek5 xs ((a + b) / 2 + m) ((a + b) / 2 + m - b) ((a + b) / 2) (by omega) (by omega) (by omega) hl (by omega) fun c c0 c1 => by omega).bind fun z ⟨z0, z1, z2, z3⟩ => ?_
        rw [w6_in (n := (a + b) / 2 + m - z) (by omega)]
        refine after_ok ih xs a z m ((a + b) / 2 + m - z) b ((a + b) / 2) a0 (by omega) (by omega) (by omega) (by omega) hb hl (by omega) (by omega) (by omega) s1 s2 ⟨?_, ?_⟩
        · rcases z2 with k | k
          · exact .inr (.inl (by omega))
          · exact .inr (.inr k)
        · rcases z3 with k | k
          · exact .inr (.inl (by omega))
          · exact .inr (.inr (by rw [show (a + b) / 2 + m - z - 1 = (a + b) / 2 + m - 1 - z by omega]; exact k))
      · have h : ¬ m > (a + b) / 2 := fun k => h (decide_eq_true k)
        refine (seek6 xs ((a + b) / 2 + m) a m a0 (by omega) (by omega) hl (by omega) fun c c0 c1 => by omega).bind fun z ⟨z0, z1, z2, z3⟩ => ?_
        rw [w6_in (n := (a + b) / 2 + m - z) (by omega)]
        refine after_ok ih xs a z m ((a + b) / 2 + m - z) b ((a + b) / 2) a0 (by omega) (by omega) (by omega) (by omega) hb hl (by omega) (by omega) (by omega) s1 s2 ⟨?_, ?_⟩
        · rcases z2 with k | k
          · exact .inl k
          · exact .inr (.inr k)
        · rcases z3 with k | k
          · exact .inl k
          · exact .inr (.inr (by rw [show (a + b) / 2 + m - z - 1 = (a + b) / 2 + m - 1 - z by omega]; exact k))
end Lf
/- slices.SortStableFunc with curve.order, of few samples. -/
namespace Lf
open Go Go.Abs
set_option linter.unusedVariables false
set_option linter.unusedSimpArgs false
theorem stab_ok (xs : List curve_Sample) (hl : xs.length < 40) : Has (slices_stableCmpFunc_curve_Sample_curve_order xs xs.length) fun r => turnIn xs r 0 xs.length ∧ sortedIn r 0 xs.length := by
  unfold slices_stableCmpFunc_curve_Sample_curve_order
  refine Has.bind (P := fun o : List curve_Sample × Int => (xs.length < 20 ∧ o = (xs, 0)) ∨ (20 ≤ xs.length ∧ o.2 = 20 ∧ turnIn xs o.1 0 20 ∧ sortedIn o.1 0 20)) ?_ fun o ho => ?_
  · refine Has.loop (fun s : List curve_Sample × Int × Int => s = (xs, 0, 20) ∨ (20 ≤ xs.length ∧ s.2 = (20, 40) ∧ turnIn xs s.1 0 20 ∧ sortedIn s.1 0 20)) (fun s => (40 - s.2.2).toNat) _ (.inl rfl) (by simp only []; omega) fun s hs => ?_
    unfold slices_stableCmpFunc_curve_Sample_curve_order.l1
    rcases hs with rfl | ⟨h1, h2, h3, h4⟩
    · simp only []
      refine Has.ite (fun hi => ?_) fun hi => ?_
      · have hi : 20 ≤ (xs.length : Int) := of_decide_eq_true hi
        refine (insO_ok xs 0 20 (by omega) (by omega) hi (by omega)).bind fun r ⟨r1, r2⟩ => Has.chk r1.len.symm (Has.ret (.next (.inr ⟨by omega, by rw [w6_in (by omega)]; rfl, r1, r2⟩) (by rw [w6_in (by omega)]; simp only []; omega)))
      · have hi : ¬ 20 ≤ (xs.length : Int) := fun q => hi (decide_eq_true q)
        exact Has.ret (.done (.inl ⟨by omega, rfl⟩))
    · rw [h2]
      simp only []
      refine Has.neg (by simp; omega) (Has.ret (.done (.inr ⟨h1, rfl, h3, h4⟩)))
  · have key : 0 ≤ o.2 ∧ o.2 ≤ xs.length ∧ turnIn xs o.1 0 xs.length ∧ (o.2 = 0 ∧ xs.length < 20 ∨ o.2 = 20 ∧ 20 ≤ xs.length ∧ sortedIn o.1 0 20) := by
      rcases ho with ⟨h1, rfl⟩ | ⟨h1, h2, h3, h4⟩
      · exact ⟨Int.le_refl _, by simp only []; omega, turnIn.refl _ _ _, .inl ⟨rfl, h1⟩⟩
      · exact ⟨by omega, by omega, h3.wide (Int.le_refl _) (Int.le_refl _) (by omega), .inr ⟨h2, h1, h4⟩⟩
    obtain ⟨k0, k1, k2, k3⟩ := key
    have ol := k2.len
    refine (insO_ok o.1 o.2 xs.length k0 k1 (by omega) (by omega)).bind fun r ⟨r1, r2⟩ => Has.chk r1.len.symm ?_
    have rl := r1.len
    have r3 := k2.trans (r1.wide (Int.le_refl _) k0 (Int.le_refl _))
    have r4 : sortedIn r 0 xs.length ∨ (20 ≤ xs.length ∧ sortedIn r 0 20 ∧ sortedIn r 20 xs.length) := by
      rcases k3 with ⟨e, h⟩ | ⟨e, h, hs⟩
      · rw [e] at r2; exact .inl r2
      · rw [e] at r2 r1
        exact .inr ⟨h, fun p q p0 pq q1 => by rw [r1.out p p0 (by omega), r1.out q (by omega) (by omega)]; exact hs p q p0 pq q1, r2⟩
    refine Has.bind (P := fun z : List curve_Sample => turnIn xs z 0 xs.length ∧ sortedIn z 0 xs.length) ?_ fun z hz => Has.ret hz
    refine Has.loop (fun s : List curve_Sample × Int => (s = (r, 20)) ∨ (s.2 = 40 ∧ turnIn xs s.1 0 xs.length ∧ sortedIn s.1 0 xs.length)) (fun s => (40 - s.2).toNat) _ (.inl rfl) (by simp only []; omega) fun s hs => ?_
    unfold slices_stableCmpFunc_curve_Sample_curve_order.l2
    rcases hs with rfl | ⟨h2, h3, h4⟩
    · simp only []
      refine Has.ite (fun hi => ?_) fun hi => ?_
      · have hi : 20 < (xs.length : Int) := of_decide_eq_true hi
        have e : loopF (slices_stableCmpFunc_curve_Sample_curve_order.l3 xs.length (r, 20)) (r, 0, w6 (2 * 20)) = some (r, 0) := by
          refine (Run.done ?_ : Run _ _ 0 _).ok (by decide)
          unfold slices_stableCmpFunc_curve_Sample_curve_order.l3
          simp only []
          rw [w6_in (n := 2 * 20) (by omega), if_neg (by simp; omega)]
        rw [e]
        simp only [Option.bind_some]
        rw [w6_in (n := 0 + 20) (by omega), w6_in (n := 20 * 2) (by omega)]
        rcases r4 with h | ⟨h, s1, s2⟩
        · refine Has.pos (decide_eq_true (by omega)) ?_
          refine (symM_ok 64 r 0 20 xs.length (by omega) (by omega) (by omega) (by omega) (by omega) (by omega) (h.sub (by omega) (by omega)) (h.sub (by omega) (by omega))).bind fun z ⟨z1, z2⟩ => Has.chk z1.len.symm (Has.ret (.next (.inr ⟨rfl, r3.trans z1, z2⟩) (by simp only []; omega)))
        · refine Has.pos (decide_eq_true (by omega)) ?_
          refine (symM_ok 64 r 0 20 xs.length (by omega) (by omega) (by omega) (by omega) (by omega) (by omega) s1 s2).bind fun z ⟨z1, z2⟩ => Has.chk z1.len.symm (Has.ret (.next (.inr ⟨rfl, r3.trans z1, z2⟩) (by simp only []; omega)))
      · have hi : ¬ 20 < (xs.length : Int) := fun q => hi (decide_eq_true q)
        refine Has.ret (.done ⟨r3, ?_⟩)
        rcases r4 with h | ⟨h, s1, s2⟩
        · exact h
        · rw [show (xs.length : Int) = 20 by omega]; exact s1
    · rw [h2]
      refine Has.neg (by simp; omega) (Has.ret (.done ⟨h3, h4⟩))
theorem sortStable_ok (xs : List curve_Sample) (hl : xs.length < 40) : Has (slices_SortStableFunc_curve_Sample_curve_order xs) fun r => r.Perm xs ∧ sortedTo r xs.length := by
  unfold slices_SortStableFunc_curve_Sample_curve_order
  exact (stab_ok xs hl).bind fun r ⟨r1, r2⟩ => Has.chk r1.len.symm (Has.ret ⟨r1.perm, r2⟩)
theorem concat2_ok (a b : List curve_Sample) (ha : a.length ≤ 100) (hb : b.length ≤ 100) : slices_Concat_curve_Sample [a, b] = some (a ++ b) := by
  unfold slices_Concat_curve_Sample
  have e1 : loopF (slices_Concat_curve_Sample.l1 [a, b]) (0, 0) = some ((a.length : Int) + b.length) := by
    refine (Run.next (s' := ((a.length : Int), 1)) ?_ (Run.next (s' := ((a.length : Int) + b.length, 2)) ?_ (Run.done ?_)) : Run _ _ 2 _).ok (by decide)
    · unfold slices_Concat_curve_Sample.l1
      have g : gt ([a, b] : List (List curve_Sample)) 0 = a := rfl
      simp only [g, Int.zero_add]
      rw [w6_in (n := (a.length : Int)) (by omega)]
      simp [show ¬ (a.length : Int) < 0 by omega, w6_in]
    · unfold slices_Concat_curve_Sample.l1
      have g : gt ([a, b] : List (List curve_Sample)) 1 = b := rfl
      simp only [g]
      rw [w6_in (n := (a.length : Int) + b.length) (by omega)]
      simp [show ¬ (a.length : Int) + b.length < 0 by omega, w6_in]
    · unfold slices_Concat_curve_Sample.l1
      simp
  have e2 : loopF (slices_Concat_curve_Sample.l2 [a, b]) ([], 0) = some (a ++ b) := by
    refine (Run.next (s' := (a, 1)) ?_ (Run.next (s' := (a ++ b, 2)) ?_ (Run.done ?_)) : Run _ _ 2 _).ok (by decide)
    · unfold slices_Concat_curve_Sample.l2
      have g : gt ([a, b] : List (List curve_Sample)) 0 = a := rfl
      simp only [g]
      have h : roomy (([] : List curve_Sample).length + a.length) 48 = true := roomyI (by simp; omega) (by simp; omega)
      rw [if_pos h]
      simp [w6_in]
    · unfold slices_Concat_curve_Sample.l2
      have g : gt ([a, b] : List (List curve_Sample)) 1 = b := rfl
      simp only [g]
      have h : roomy (a.length + b.length) 48 = true := roomyI (by omega) (by omega)
      rw [if_pos h]
      simp [w6_in]
    · unfold slices_Concat_curve_Sample.l2
      simp
  rw [e1]
  simp only [Option.bind_some]
  unfold slices_Grow_curve_Sample
  rw [if_pos (by omega)]
  simp only [Option.bind_some]
  rw [e2]; rfl
theorem merge_ok {a b : List curve_Sample} (ha : okC a) (hb : okC b) (hl : a.length + b.length < 40) : Has (curve_Merge a b) fun r => r.2 = 0 ∧ r.1.Perm (a ++ b) ∧ sortedTo r.1 (a.length + b.length) := by
  unfold curve_Merge
  rw [curve_ok ha, curve_ok hb]
  simp only [Option.bind_some]
  rw [or2_ok, w6_in (n := (a.length : Int) + b.length) (by omega), concat2_ok a b (by omega) (by omega)]
  simp only [Option.bind_some, ne_eq, not_true_eq_false, if_false, bne_self_eq_false, Bool.false_eq_true]
  refine Has.neg (by simp; omega) ((sortStable_ok (a ++ b) (by simp; omega)).bind fun r ⟨r1, r2⟩ => Has.chk r1.length_eq.symm (Has.ret ⟨rfl, r1, ?_⟩))
  have e : ((a ++ b).length : Int) = a.length + b.length := by simp
  rw [e] at r2; exact r2
end Lf
/- Two bounds of which one is unknown. -/
namespace Lf
open Go Go.Abs
set_option linter.unusedVariables false
set_option linter.unusedSimpArgs false
theorem vague_ok {a b : Bound} (ha : a.ok) (hb : b.ok) : bound_vague a b = some (a.Unknown || b.Unknown) := by
  unfold bound_vague; rw [norm_ok ha, norm_ok hb]; cases h : a.Unknown <;> simp [h]
end Lf
/- Bounds as plain values: what each operation gives at whatever valid bounds. -/
namespace Lf
open Go Go.Abs
set_option linter.unusedVariables false
set_option linter.unusedSimpArgs false
def noneZ : Bound := ⟨0, 0, true⟩
def ofZ (lo hi : Int) : Bound := if lo ≤ hi ∧ -1152921504606846976 ≤ lo ∧ hi ≤ 1152921504606846976 then ⟨lo, hi, false⟩ else noneZ
theorem ofZ_eq (lo hi : Int) : bound_Of lo hi = some (ofZ lo hi) := by
  by_cases h : lo ≤ hi ∧ -1152921504606846976 ≤ lo ∧ hi ≤ 1152921504606846976
  · unfold ofZ; rw [if_pos h]; exact of_ok h.2.1 h.1 h.2.2
  · unfold ofZ; rw [if_neg h]
    have c : ∃ e, bound_Check ⟨lo, hi, false⟩ = some e ∧ e ≠ 0 := by
      unfold bound_Check
      simp only []
      by_cases h0 : lo ≤ hi
      · rw [mn2_le h0, mx2_le h0]
        by_cases g1 : lo < -1152921504606846976
        · exact ⟨4, by simp [g1], by decide⟩
        · have g2 : hi > 1152921504606846976 := by omega
          exact ⟨4, by simp [g1, g2], by decide⟩
      · rw [mn2_ge (by omega), mx2_ge (by omega)]
        have g0 : lo > hi := by omega
        by_cases g1 : hi < -1152921504606846976
        · exact ⟨4, by simp [g1], by decide⟩
        · by_cases g2 : lo > 1152921504606846976
          · exact ⟨4, by simp [g1, g2], by decide⟩
          · exact ⟨11, by simp [g0, g1, g2], by decide⟩
    obtain ⟨e, e1, e2⟩ := c
    unfold bound_Of bound_Norm
    rw [e1]
    simp [e2, bound_None, noneZ]
theorem ofZ_ok (lo hi : Int) : (ofZ lo hi).ok := by
  unfold ofZ
  split
  · rename_i h; exact ⟨(fun e => nomatch e), h.2.1, h.1, h.2.2⟩
  · exact okNone
theorem noneZ_ok : noneZ.ok := okNone
def addZ (a b : Bound) : Bound := if (a.Unknown || b.Unknown) = true then noneZ else ofZ (a.Lo + b.Lo) (a.Hi + b.Hi)
theorem addZ_eq {a b : Bound} (ha : a.ok) (hb : b.ok) : bound_Add a b = some (addZ a b) := by
  have := ha.lo; have := ha.le; have := ha.hi; have := hb.lo; have := hb.le; have := hb.hi
  unfold bound_Add addZ
  rw [vague_ok ha hb, w6_in (by omega), w6_in (by omega), ofZ_eq]
  simp only [Option.bind_some]
  split <;> rfl
theorem addZ_ok (a b : Bound) : (addZ a b).ok := by
  unfold addZ; split
  · exact noneZ_ok
  · exact ofZ_ok _ _
def negZ (b : Bound) : Bound := ⟨-b.Hi, -b.Lo, b.Unknown⟩
theorem negZ_ok {b : Bound} (h : b.ok) : (negZ b).ok := by
  obtain ⟨h1, h2, h3, h4⟩ := h
  exact ⟨fun e => by obtain ⟨p, q⟩ := h1 e; simp [negZ, p, q], by simp only [negZ]; omega, by simp only [negZ]; omega, by simp only [negZ]; omega⟩
/-- Everything that one bound admits is admitted by another one. -/
def inZ (a b : Bound) : Prop := b.Unknown = true ∨ (a.Unknown = false ∧ b.Lo ≤ a.Lo ∧ a.Hi ≤ b.Hi)
def hasZ (b : Bound) (v : Int) : Prop := b.Unknown = true ∨ (b.Lo ≤ v ∧ v ≤ b.Hi)
theorem hasZ_none (v : Int) : hasZ noneZ v := .inl rfl
theorem hasZ_of {lo hi v : Int} (h1 : lo ≤ v) (h2 : v ≤ hi) : hasZ (ofZ lo hi) v := by
  unfold ofZ; split
  · exact .inr ⟨h1, h2⟩
  · exact hasZ_none v
theorem hasZ_add {a b : Bound} {x y : Int} (ha : hasZ a x) (hb : hasZ b y) : hasZ (addZ a b) (x + y) := by
  unfold addZ; split
  · exact hasZ_none _
  · rename_i h
    have h : a.Unknown = false ∧ b.Unknown = false := by simpa using h
    rcases ha with e | ha
    · rw [h.1] at e; cases e
    · rcases hb with e | hb
      · rw [h.2] at e; cases e
      · exact hasZ_of (by omega) (by omega)
theorem hasZ_neg {b : Bound} {x : Int} (h : hasZ b x) : hasZ (negZ b) (-x) := by
  rcases h with e | h
  · exact .inl e
  · exact .inr ⟨by simp only [negZ]; omega, by simp only [negZ]; omega⟩
theorem exactZ {v : Int} (h1 : -1152921504606846976 ≤ v) (h2 : v ≤ 1152921504606846976) : ofZ v v = ⟨v, v, false⟩ := by unfold ofZ; rw [if_pos ⟨Int.le_refl _, h1, h2⟩]
theorem inZ_refl (a : Bound) : inZ a a := by
  cases h : a.Unknown with
  | true => exact .inl h
  | false => exact .inr ⟨h, Int.le_refl _, Int.le_refl _⟩
theorem inZ_none (a : Bound) : inZ a noneZ := .inl rfl
theorem inZ.trans {a b c : Bound} (h : inZ a b) (k : inZ b c) : inZ a c := by
  rcases k with k | ⟨k1, k2, k3⟩
  · exact .inl k
  · rcases h with h | ⟨h1, h2, h3⟩
    · rw [h] at k1; cases k1
    · exact .inr ⟨h1, by omega, by omega⟩
theorem inZ.has {a b : Bound} {v : Int} (h : inZ a b) (k : hasZ a v) : hasZ b v := by
  rcases h with h | ⟨h1, h2, h3⟩
  · exact .inl h
  · rcases k with k | k
    · rw [h1] at k; cases k
    · exact .inr ⟨by omega, by omega⟩
theorem inZ_of {lo hi lo' hi' : Int} (h : lo' ≤ hi') (h1 : lo ≤ lo') (h2 : hi' ≤ hi) : inZ (ofZ lo' hi') (ofZ lo hi) := by
  unfold ofZ
  by_cases g : lo ≤ hi ∧ -1152921504606846976 ≤ lo ∧ hi ≤ 1152921504606846976
  · rw [if_pos g, if_pos (by omega)]; exact .inr ⟨rfl, h1, h2⟩
  · rw [if_neg g]; exact inZ_none _
theorem inZ_add {a b a' b' : Bound} (oa : a'.ok) (ob : b'.ok) (ha : inZ a' a) (hb : inZ b' b) : inZ (addZ a' b') (addZ a b) := by
  unfold addZ
  by_cases h : (a.Unknown || b.Unknown) = true
  · rw [if_pos h]; exact inZ_none _
  · rw [if_neg h]
    have h : a.Unknown = false ∧ b.Unknown = false := by simpa using h
    rcases ha with e | ⟨u1, ha⟩
    · rw [h.1] at e; cases e
    · rcases hb with e | ⟨u2, hb⟩
      · rw [h.2] at e; cases e
      · rw [if_neg (by simp [u1, u2])]
        have := oa.le; have := ob.le
        exact inZ_of (by omega) (by omega) (by omega)
theorem inZ_neg {a b : Bound} (h : inZ a b) : inZ (negZ a) (negZ b) := by
  rcases h with e | ⟨h1, h2, h3⟩
  · exact .inl e
  · exact .inr ⟨h1, by simp only [negZ]; omega, by simp only [negZ]; omega⟩
end Lf
/- Differences of bounds, as plain values. -/
namespace Lf
open Go Go.Abs
set_option linter.unusedVariables false
set_option linter.unusedSimpArgs false
theorem negZ_eq {b : Bound} (h : b.ok) : bound_Neg b = some (negZ b) := by
  obtain ⟨h1, h2, h3, h4⟩ := h
  unfold bound_Neg
  rw [norm_ok ⟨h1, h2, h3, h4⟩]
  simp only [Option.bind_some, Int.zero_sub]
  rw [w6_in (by omega), w6_in (by omega)]
  rfl
def subZ (a b : Bound) : Bound := addZ a (negZ b)
theorem subZ_eq {a b : Bound} (ha : a.ok) (hb : b.ok) : bound_Sub a b = some (subZ a b) := by
  unfold bound_Sub
  rw [negZ_eq hb]
  simp only [Option.bind_some]
  rw [addZ_eq ha (negZ_ok hb)]; rfl
theorem subZ_ok (a b : Bound) : (subZ a b).ok := addZ_ok _ _
theorem hasZ_sub {a b : Bound} {x y : Int} (ha : hasZ a x) (hb : hasZ b y) : hasZ (subZ a b) (x - y) := by
  have := hasZ_add ha (hasZ_neg hb)
  rw [Int.sub_eq_add_neg]; exact this
theorem inZ_sub {a b a' b' : Bound} (oa : a'.ok) (ob : b'.ok) (ha : inZ a' a) (hb : inZ b' b) : inZ (subZ a' b') (subZ a b) := inZ_add oa (negZ_ok ob) ha (inZ_neg hb)
end Lf
/- Smaller ones and greater ones of bounds, as plain values. -/
namespace Lf
open Go Go.Abs
set_option linter.unusedVariables false
set_option linter.unusedSimpArgs false
def minZ (a b : Bound) : Bound := if (a.Unknown || b.Unknown) = true then noneZ else ofZ (min a.Lo b.Lo) (min a.Hi b.Hi)
theorem minZ_ok (a b : Bound) : (minZ a b).ok := by
  unfold minZ; split
  · exact noneZ_ok
  · exact ofZ_ok _ _
theorem minZ_eq {a b : Bound} (ha : a.ok) (hb : b.ok) : bound_Min a b = some (minZ a b) := by
  unfold bound_Min minZ
  rw [vague_ok ha hb, mn2_min, mn2_min, ofZ_eq]
  simp only [Option.bind_some]
  split <;> rfl
def maxZ (a b : Bound) : Bound := negZ (minZ (negZ a) (negZ b))
theorem maxZ_ok {a b : Bound} : (maxZ a b).ok := negZ_ok (minZ_ok _ _)
theorem maxZ_eq {a b : Bound} (ha : a.ok) (hb : b.ok) : bound_Max a b = some (maxZ a b) := by
  unfold bound_Max
  rw [negZ_eq ha, negZ_eq hb]
  simp only [Option.bind_some]
  rw [minZ_eq (negZ_ok ha) (negZ_ok hb)]
  simp only [Option.bind_some]
  rw [negZ_eq (minZ_ok _ _)]; rfl
end Lf
/- What all samples of a light that does not vary admit; merged curves have the same times. -/
namespace Lf
open Go Go.Abs
set_option linter.unusedVariables false
set_option linter.unusedSimpArgs false
def meetF (a b : Bound) : Bound := if a.Unknown = true then b else if b.Unknown = true then a else ⟨max a.Lo b.Lo, min a.Hi b.Hi, false⟩
theorem meetF_ok {a b : Bound} (ha : a.ok) (hb : b.ok) {R : Int} (h1 : hasZ a R) (h2 : hasZ b R) : (meetF a b).ok ∧ hasZ (meetF a b) R := by
  unfold meetF
  by_cases ua : a.Unknown = true
  · rw [if_pos ua]; exact ⟨hb, h2⟩
  · rw [if_neg ua]
    by_cases ub : b.Unknown = true
    · rw [if_pos ub]; exact ⟨ha, h1⟩
    · rw [if_neg ub]
      have a1 := ha.lo; have a2 := ha.hi; have b1 := hb.lo; have b2 := hb.hi
      have k1 := h1.resolve_left ua
      have k2 := h2.resolve_left ub
      exact ⟨okKnown (by omega) (by omega) (by omega), .inr ⟨by simp only []; omega, by simp only []; omega⟩⟩
theorem meetC_ok {a b : Bound} (ha : a.ok) (hb : b.ok) {R : Int} (h1 : hasZ a R) (h2 : hasZ b R) : bound_Meet a b = some (meetF a b, true) := by
  unfold bound_Meet meetF
  rw [norm_ok ha, norm_ok hb]
  simp only [Option.bind_some]
  by_cases ua : a.Unknown = true
  · rw [if_pos ua, if_pos ua]
  · rw [if_neg ua, if_neg ua]
    by_cases ub : b.Unknown = true
    · rw [if_pos ub, if_pos ub]
    · rw [if_neg ub, if_neg ub]
      have a1 := ha.lo; have a2 := ha.hi; have b1 := hb.lo; have b2 := hb.hi
      have k1 := h1.resolve_left ua
      have k2 := h2.resolve_left ub
      rw [mx2_max, mn2_min, if_neg (by simp only [decide_eq_true_eq]; omega), of_ok (by omega) (by omega) (by omega)]
      rfl
theorem meetF_comm {x y : Bound} (hx : x.ok) (hy : y.ok) (z : Bound) : meetF (meetF z x) y = meetF (meetF z y) x := by
  have sw : meetF x y = meetF y x := by
    unfold meetF
    by_cases ux : x.Unknown = true
    · by_cases uy : y.Unknown = true
      · rw [if_pos ux, if_pos uy]
        obtain ⟨p1, p2⟩ := hx.u ux; obtain ⟨q1, q2⟩ := hy.u uy
        cases x; cases y; simp_all
      · rw [if_pos ux, if_neg uy, if_pos ux]
    · by_cases uy : y.Unknown = true
      · rw [if_neg ux, if_pos uy, if_pos uy]
      · rw [if_neg ux, if_neg uy, if_neg uy, if_neg ux, Int.max_comm, Int.min_comm]
  by_cases uz : z.Unknown = true
  · have e1 : meetF z x = x := by unfold meetF; rw [if_pos uz]
    have e2 : meetF z y = y := by unfold meetF; rw [if_pos uz]
    rw [e1, e2]; exact sw
  · have uz' : z.Unknown = false := by simpa using uz
    by_cases ux : x.Unknown = true
    · have e1 : meetF z x = z := by unfold meetF; rw [if_neg uz, if_pos ux]
      rw [e1]
      by_cases uy : y.Unknown = true
      · have e2 : meetF z y = z := by unfold meetF; rw [if_neg uz, if_pos uy]
        rw [e2, e1]
      · have e2 : meetF z y = ⟨max z.Lo y.Lo, min z.Hi y.Hi, false⟩ := by unfold meetF; rw [if_neg uz, if_neg uy]
        rw [e2]; unfold meetF; simp [ux]
    · by_cases uy : y.Unknown = true
      · have e2 : meetF z y = z := by unfold meetF; rw [if_neg uz, if_pos uy]
        have e1 : meetF z x = ⟨max z.Lo x.Lo, min z.Hi x.Hi, false⟩ := by unfold meetF; rw [if_neg uz, if_neg ux]
        rw [e2, e1]; unfold meetF; simp [uy]
      · have ux' : x.Unknown = false := by simpa using ux
        have uy' : y.Unknown = false := by simpa using uy
        unfold meetF
        simp only [uz', ux', uy', Bool.false_eq_true, if_false]
        congr 1 <;> omega
def allMeet (l : List curve_Sample) : Bound := (l.map (·.Light)).foldl meetF ⟨0, 0, true⟩
theorem allMeet_perm {l m : List curve_Sample} (h : l.Perm m) (ok : ∀ a ∈ l, okSm a) : allMeet l = allMeet m := by
  unfold allMeet
  refine List.Perm.foldl_eq' (h.map _) (fun x hx y hy z => ?_) _
  obtain ⟨a, ha, rfl⟩ := List.mem_map.1 hx
  obtain ⟨b, hb, rfl⟩ := List.mem_map.1 hy
  exact meetF_comm (ok a ha).l (ok b hb).l z
theorem gt_mid {l d r : List curve_Sample} {s : curve_Sample} (h : l = d ++ s :: r) : gt l (d.length : Int) = s := by
  subst h
  rw [gt_def _ _ ⟨by omega, by simp; omega⟩]
  simp
theorem steady_ok {l : List curve_Sample} (ok : okC l) {x : Star} (hs : ∀ a ∈ l, saw x a) : Has (curve_Steady l) fun r => r = (allMeet l, true, 0) ∧ hasZ (allMeet l) x.Rate := by
  have hn := ok.n
  unfold curve_Steady
  rw [curve_ok ok]
  simp only [Option.bind_some, bne_self_eq_false, Bool.false_eq_true, if_false]
  rw [none_ok]
  simp only [Option.bind_some]
  refine Has.seq (P := fun t : Step Bound (Bound × Bool × Int) => t = .next (allMeet l) ∧ hasZ (allMeet l) x.Rate) ?_ (fun b ⟨e, h⟩ => by cases e; exact Has.ret ⟨rfl, h⟩) (fun o ⟨e, _⟩ => nomatch e)
  refine Has.loop (fun s : Bound × Int => s.1.ok ∧ hasZ s.1 x.Rate ∧ ∃ d r, l = d ++ r ∧ s.2 = d.length ∧ s.1 = allMeet d) (fun s => (l.length - s.2).toNat) _ ⟨okNone, .inl rfl, [], l, rfl, rfl, rfl⟩ (by simp only []; omega) fun s ⟨s1, s2, d, r, e, s3, s4⟩ => ?_
  unfold curve_Steady.l1
  have el : l.length = d.length + r.length := by rw [e]; simp
  refine Has.ite (fun hi => ?_) fun hi => ?_
  · have hi : s.2 < l.length := of_decide_eq_true hi
    cases r with
    | nil => simp at el; omega
    | cons a r =>
      have ea : gt l s.2 = a := by rw [s3]; exact gt_mid e
      have ma : a ∈ l := by rw [e]; simp
      have oa := (ok.s a ma).l
      have ha : hasZ a.Light x.Rate := hs a ma
      rw [ea, meetC_ok s1 oa s2 ha, w6_in (n := s.2 + 1) (by omega)]
      simp only [Option.bind_some]
      obtain ⟨k1, k2⟩ := meetF_ok s1 oa s2 ha
      refine Has.chk ⟨by omega, hi⟩ (Has.neg (by simp) (Has.ret (.next ⟨k1, k2, d ++ [a], r, by simp [e], by simp [s3], ?_⟩ (by simp only []; omega))))
      simp only []
      rw [s4]; unfold allMeet; simp
  · have hi : ¬ s.2 < l.length := fun q => hi (decide_eq_true q)
    have : r = [] := List.length_eq_zero_iff.1 (by omega)
    subst this
    have : l = d := by simpa using e
    subst this
    exact Has.ret (.done ⟨by rw [s4], by rw [← s4]; exact s2⟩)
/-- Not surely below, not surely above. -/
def upTo (b : Bound) (R : Int) : Prop := b.Unknown = true ∨ R ≤ b.Hi
def downTo (b : Bound) (R : Int) : Prop := b.Unknown = true ∨ b.Lo ≤ R
theorem upTo_min {a b : Bound} {R : Int} (ha : upTo a R) (hb : upTo b R) : upTo (minZ a b) R := by
  unfold minZ
  split
  · exact .inl rfl
  · rename_i h
    have h : a.Unknown = false ∧ b.Unknown = false := by simpa using h
    have k1 := ha.resolve_left (by simp [h.1]); have k2 := hb.resolve_left (by simp [h.2])
    unfold ofZ; split
    · exact .inr (by simp only []; omega)
    · exact .inl rfl
theorem downTo_max {a b : Bound} {R : Int} (ha : downTo a R) (hb : downTo b R) : downTo (maxZ a b) R := by
  have k : upTo (minZ (negZ a) (negZ b)) (-R) := by
    refine upTo_min ?_ ?_
    · rcases ha with h | h
      · exact .inl h
      · exact .inr (by simp only [negZ]; omega)
    · rcases hb with h | h
      · exact .inl h
      · exact .inr (by simp only [negZ]; omega)
  unfold maxZ
  rcases k with h | h
  · exact .inl h
  · exact .inr (by simp only [negZ] at h ⊢; omega)
theorem max0 {a : Bound} (h : downTo a 0) (u : a.Unknown = false) : (maxZ a ⟨0, 0, false⟩).Unknown = true ∨ (maxZ a ⟨0, 0, false⟩).Lo = 0 := by
  have h := h.resolve_left (by simp [u])
  unfold maxZ minZ
  split
  · exact .inl rfl
  · unfold ofZ; split
    · right; simp only [negZ]; omega
    · exact .inl rfl
theorem swing_ok {l : List curve_Sample} (ok : okC l) {x : Star} (hs : ∀ a ∈ l, saw x a) : Has (curve_Swing l) fun r => (0 < l.length → r.2 = 0) ∧ (0 < l.length → r.1.Unknown = true ∨ r.1.Lo = 0) := by
  have hn := ok.n
  unfold curve_Swing
  rw [curve_ok ok]
  simp only [Option.bind_some, bne_self_eq_false, Bool.false_eq_true, if_false]
  refine Has.ite (fun h => Has.ret ⟨fun q => ?_, fun q => ?_⟩) fun h => ?_
  · have : l.length = 0 := by simpa using h
    omega
  · have : l.length = 0 := by simpa using h
    omega
  · have h : l.length ≠ 0 := by simpa using h
    have mem : ∀ a ∈ l, a.Light.ok ∧ upTo a.Light x.Rate ∧ downTo a.Light x.Rate := fun a ha => by
      refine ⟨(ok.s a ha).l, ?_, ?_⟩
      · rcases hs a ha with q | q
        · exact .inl q
        · exact .inr q.2
      · rcases hs a ha with q | q
        · exact .inl q
        · exact .inr q.1
    have m0 := mem _ (gt_mem l 0 ⟨Int.le_refl _, by omega⟩)
    refine Has.chk ⟨Int.le_refl _, by omega⟩ (Has.chk ⟨by omega, by omega⟩ ?_)
    refine Has.bind (P := fun z : Bound × Bound => z.1.ok ∧ z.2.ok ∧ upTo z.1 x.Rate ∧ downTo z.2 x.Rate) ?_ fun z ⟨z1, z2, z3, z4⟩ => ?_
    · refine Has.loop (fun s : Bound × Bound × Int => s.1.ok ∧ s.2.1.ok ∧ upTo s.1 x.Rate ∧ downTo s.2.1 x.Rate ∧ 0 ≤ s.2.2 ∧ s.2.2 ≤ l.length) (fun s => (l.length - s.2.2).toNat) _ ⟨m0.1, m0.1, m0.2.1, m0.2.2, Int.le_refl _, by simp only []; omega⟩ (by simp only []; omega) fun s ⟨s1, s2, s3, s4, s5, s6⟩ => ?_
      unfold curve_Swing.l1
      have el : ((((List.drop 1 l).take (l.length - 1)).length : Nat) : Int) = l.length - 1 := by simp; omega
      refine Has.letF (Has.ite (fun hi => ?_) fun hi => Has.ret (.done ⟨s1, s2, s3, s4⟩))
      have hi : s.2.2 < (((List.drop 1 l).take (l.length - 1)).length : Int) := of_decide_eq_true hi
      have ma := mem _ (List.mem_of_mem_drop (List.mem_of_mem_take (gt_mem ((List.drop 1 l).take (l.length - 1)) s.2.2 ⟨s5, hi⟩)))
      rw [minZ_eq s1 ma.1, maxZ_eq s2 ma.1, w6_in (n := s.2.2 + 1) (by omega)]
      exact Has.chk ⟨s5, hi⟩ (Has.ret (.next ⟨minZ_ok _ _, maxZ_ok, upTo_min s3 ma.2.1, downTo_max s4 ma.2.2, by simp only []; omega, by simp only []; omega⟩ (by simp only []; omega)))
    · rw [subZ_eq z2 z1]
      simp only [Option.bind_some]
      refine Has.ite (fun hu => Has.ret ⟨fun _ => rfl, fun _ => .inl hu⟩) fun hu => ?_
      have hu : (subZ z.2 z.1).Unknown = false := by simpa using hu
      have hd : downTo (subZ z.2 z.1) 0 := by
        unfold subZ addZ
        split
        · exact .inl rfl
        · rename_i g
          have g : z.2.Unknown = false ∧ z.1.Unknown = false := by simpa [negZ] using g
          have k1 := z3.resolve_left (by simp [g.2]); have k2 := z4.resolve_left (by simp [g.1])
          unfold ofZ; split
          · exact .inr (by simp only [negZ]; omega)
          · exact .inl rfl
      rw [maxZ_eq (subZ_ok _ _) (okKnown (by omega) (by omega) (by omega))]
      exact Has.ret ⟨fun _ => rfl, fun _ => max0 hd hu⟩
theorem times_eq {c d : List curve_Sample} (h : c.Perm d) (oc : ∀ a ∈ c, okSm a) (sc : sortedTo c c.length) (sd : sortedTo d d.length) : c.map (·.At) = d.map (·.At) := by
  have pw : ∀ l : List curve_Sample, sortedTo l l.length → (l.map (·.At)).Pairwise fun a b => a.Lo < b.Lo ∨ (a.Lo = b.Lo ∧ a.Hi ≤ b.Hi) := fun l hl => by
    rw [List.pairwise_map, List.pairwise_iff_getElem]
    intro i j hi hj ij
    have := hl i j (by omega) (by omega) (by omega)
    rw [gt_def _ _ ⟨by omega, by omega⟩, gt_def _ _ ⟨by omega, by omega⟩] at this
    exact this
  refine List.Perm.eq_of_pairwise (fun a b ha hb h1 h2 => ?_) (pw c sc) (pw d sd) (h.map _)
  obtain ⟨p, hp, rfl⟩ := List.mem_map.1 ha
  obtain ⟨q, hq, rfl⟩ := List.mem_map.1 hb
  have u1 := (oc p hp).u; have u2 := (oc q (h.mem_iff.2 hq)).u
  have e1 : p.At.Lo = q.At.Lo := by omega
  have e2 : p.At.Hi = q.At.Hi := by omega
  generalize p.At = A at *
  generalize q.At = B at *
  cases A; cases B; simp_all
theorem equal_ok {c d : List curve_Sample} (h : c.map (·.At) = d.map (·.At)) (hl : c.length ≤ 1000) : slices_EqualFunc_curve_Sample_spykeep4_CurveMerged_1 c d = some true := by
  have el : c.length = d.length := by simpa using congrArg List.length h
  apply Has.val
  unfold slices_EqualFunc_curve_Sample_spykeep4_CurveMerged_1
  refine Has.neg (by simp [el]) (Has.seq (P := fun t : Step Unit Bool => t = .next ()) ?_ (fun _ _ => Has.ret rfl) (fun o ho => by cases ho))
  refine Has.loop (fun i : Int => 0 ≤ i ∧ i ≤ c.length) (fun i => (c.length - i).toNat) _ ⟨Int.le_refl _, by omega⟩ (by omega) fun i ⟨i0, i1⟩ => ?_
  unfold slices_EqualFunc_curve_Sample_spykeep4_CurveMerged_1.l1
  refine Has.ite (fun hi => ?_) fun hi => Has.ret (.done rfl)
  have hi : i < c.length := of_decide_eq_true hi
  have e : (gt c i).At = (gt d i).At := by
    rw [gt_def c i ⟨i0, hi⟩, gt_def d i ⟨i0, by omega⟩]
    have h1 : (c.map (·.At))[i.toNat]'(by simp; omega) = (d.map (·.At))[i.toNat]'(by simp; omega) := by simp only [h]
    simpa using h1
  unfold spykeep4_CurveMerged_1
  rw [e, w6_in (n := i + 1) (by omega)]
  exact Has.chk ⟨i0, hi⟩ (Has.chk ⟨i0, by omega⟩ (by simp only [Option.bind_some]; exact Has.neg (by simp) (Has.ret (.next ⟨by omega, by omega⟩ (by omega)))))
end Lf
/- CurveMerged: merging in either order gives the same times, and the same light that all admit. -/
namespace Lf
open Go Go.Abs
set_option linter.unusedVariables false
set_option linter.unusedSimpArgs false
theorem phasedFact : spykeep4_phased = some true := by kernel_rfl
theorem CurveMerged_true (l : List Int) (hl : okL l) : spykeep4_CurveMerged l = some true := by
  apply Has.val
  have h0 := okS.start hl
  unfold spykeep4_CurveMerged
  refine (vec_ok _ h0 (by simp only []; omega)).bind fun r1 ⟨v1, s1⟩ => ?_
  have o1 := s1.ok h0 (by simp only []; omega); have b1 := s1.hi
  simp only [] at b1
  refine (next_ok r1.2 900 o1 (by omega) (by omega)).bind fun r2 ⟨n0, n1, s2⟩ => ?_
  have o2 := s2.ok o1 (by omega); have b2 := s2.hi
  have x2 : okCalm (Star.mk 1 r1.1 r2.1 [] 0 (-17592186044416) 17592186044416) := ⟨rfl, v1, n0, n1, rfl, rfl, rfl, rfl⟩
  have ex : (Star.mk 1 r1.1 r2.1 [] 0 (-17592186044416) 17592186044416).Rate = r2.1 := rfl
  generalize Star.mk 1 r1.1 r2.1 [] 0 (-17592186044416) 17592186044416 = x at *
  refine (samplesC_ok r2.2 x 12 x2 (by omega) (by omega) o2 (by omega)).bind fun r3 ⟨c1, c2, c3, c4, s3⟩ => ?_
  have o3 := s3.ok o2 (by omega); have b3 := s3.hi
  refine (samplesC_ok r3.2.2 x 12 x2 (by omega) (by omega) o3 (by omega)).bind fun r4 ⟨d1, d2, d3, d4, s4⟩ => ?_
  have okc : okC r3.1 := ⟨by omega, fun a ha => (c3 a ha).1, c4⟩
  have okd : okC r4.1 := ⟨by omega, fun a ha => (d3 a ha).1, d4⟩
  refine (merge_ok okc okd (by omega)).bind fun r5 ⟨e5, p5, t5⟩ => ?_
  refine (merge_ok okd okc (by omega)).bind fun r6 ⟨e6, p6, t6⟩ => ?_
  have l5 := p5.length_eq; have l6 := p6.length_eq
  simp only [List.length_append] at l5 l6
  have m5 : ∀ a ∈ r5.1, okSm a ∧ saw x a := fun a ha => by
    rcases List.mem_append.1 (p5.mem_iff.1 ha) with h | h
    · exact c3 a h
    · exact d3 a h
  have m6 : ∀ a ∈ r6.1, okSm a ∧ saw x a := fun a ha => by
    rcases List.mem_append.1 (p6.mem_iff.1 ha) with h | h
    · exact d3 a h
    · exact c3 a h
  have ok5 : okC r5.1 := ⟨by omega, fun a ha => (m5 a ha).1, by rw [show (r5.1.length : Int) = r3.1.length + r4.1.length by omega]; exact t5⟩
  have ok6 : okC r6.1 := ⟨by omega, fun a ha => (m6 a ha).1, by rw [show (r6.1.length : Int) = r4.1.length + r3.1.length by omega]; exact t6⟩
  have pp : r5.1.Perm r6.1 := p5.trans (List.perm_append_comm.trans p6.symm)
  rw [phasedFact, c1, d1, e5, e6, curve_ok ok5, w6_in (n := (r3.1.length : Int) + r4.1.length) (by omega)]
  have g1 : ((r5.1.length : Int) != (r3.1.length : Int) + r4.1.length) = false := by simp; omega
  simp only [Option.bind_some, Bool.not_true, Bool.false_eq_true, if_false, bne_self_eq_false, g1, letF]
  refine (steady_ok ok5 fun a ha => (m5 a ha).2).bind fun r7 ⟨e7, h7⟩ => ?_
  refine (steady_ok ok6 fun a ha => (m6 a ha).2).bind fun r8 ⟨e8, h8⟩ => ?_
  rw [e7, e8, ← allMeet_perm pp ok5.s]
  simp only [Bool.not_true, Bool.false_eq_true, if_false, bne_self_eq_false, beq_self_eq_true, Bool.and_self, Bool.not_false]
  refine Has.bind (P := fun b : Bool => b = false) ?_ fun b hb => Has.neg (by rw [hb]; simp) ?_
  · refine Has.ite (fun hu => ?_) fun hu => Has.ret rfl
    have hu : (allMeet r5.1).Unknown = false := by simpa using hu
    have k := h7.resolve_left (by simp [hu])
    exact Has.neg (by simp; omega) (Has.ret (by simp; omega))
  · refine (swing_ok ok5 fun a ha => (m5 a ha).2).bind fun r9 ⟨e9, h9⟩ => ?_
    refine Has.bind (P := fun b : Bool => b = false) ?_ fun b hb => Has.neg (by rw [hb]; simp) ?_
    · refine Has.ite (fun h => ?_) fun h => Has.ret rfl
      have h : 0 < r5.1.length := by have := of_decide_eq_true h; omega
      rw [e9 h]
      refine Has.neg (by simp) (Has.ite (fun hu => ?_) fun hu => Has.ret rfl)
      have hu : r9.1.Unknown = false := by simpa using hu
      have k := (h9 h).resolve_left (by simp [hu])
      exact Has.ret (by rw [k]; rfl)
    · rw [equal_ok (times_eq pp ok5.s ok5.o ok6.o) (by omega)]
      exact Has.ret rfl
end Lf
