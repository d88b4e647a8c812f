/- Laws of the plain functions. Conditions: as each theorem states them. -/
import Derived.Test.YtninnjmfaoajiaaY0
import Derived.KernelRfl
/- find.Sure's stable sort: the whole. -/
namespace Lf
open Go Go.Abs
set_option linter.unusedVariables false
set_option linter.unusedSimpArgs false
/-- A list that is sorted between cuts, each place's element from between the same cuts. -/
structure StC (c : Cells) (C : Int → Prop) (xs ys : List Int) : Prop where
  perm : ys.Perm xs
  inn : ∀ p : Int, 0 ≤ p → p < xs.length → ∃ q : Int, 0 ≤ q ∧ q < xs.length ∧ gt ys p = gt xs q ∧ ∀ m, C m → (p < m ↔ q < m)
  srt : ∀ p q : Int, 0 ≤ p → p < q → q < xs.length → (∀ m, C m → (p < m ↔ q < m)) → leF c (gt ys p) (gt ys q)
section
variable {c : Cells} {C D : Int → Prop} {xs ys zs : List Int}
theorem StC.congr (h : StC c C xs ys) (e : ∀ k : Int, 0 < k → k < xs.length → (C k ↔ D k)) : StC c D xs ys := by
  refine ⟨h.perm, fun p p0 p1 => ?_, fun p q p0 pq q1 hm => ?_⟩
  · obtain ⟨q, q0, q1, q2, q3⟩ := h.inn p p0 p1
    refine ⟨q, q0, q1, q2, fun m hm => ?_⟩
    by_cases h1 : 0 < m ∧ m < xs.length
    · exact q3 m ((e m h1.1 h1.2).2 hm)
    · omega
  · refine h.srt p q p0 pq q1 fun m hm' => ?_
    by_cases h1 : 0 < m ∧ m < xs.length
    · exact hm m ((e m h1.1 h1.2).1 hm')
    · omega
theorem StC.sorted (h : StC c C xs ys) {a b : Int} (a0 : 0 ≤ a) (ab : a ≤ b) (hb : b ≤ xs.length) (t : turnIn ys zs a b) (s : sortedIn c zs a b) (ca : a = 0 ∨ C a) (cb : b = xs.length ∨ C b) : StC c (fun k => C k ∧ ¬ (a < k ∧ k < b)) xs zs := by
  refine ⟨t.perm.trans h.perm, fun p p0 p1 => ?_, fun p q p0 pq q1 hm => ?_⟩
  · by_cases hp : a ≤ p ∧ p < b
    · obtain ⟨r, r0, r1, e⟩ := t.into p hp.1 hp.2
      obtain ⟨q, q0, q1, e2, q3⟩ := h.inn r (by omega) (by omega)
      exact ⟨q, q0, q1, e.trans e2, fun m ⟨hm, hn⟩ => by have := q3 m hm; omega⟩
    · obtain ⟨q, q0, q1, e2, q3⟩ := h.inn p p0 p1
      exact ⟨q, q0, q1, (t.out p p0 (by omega)).trans e2, fun m ⟨hm, hn⟩ => q3 m hm⟩
  · have ha : ¬ (p < a ∧ a ≤ q) := fun ⟨u, v⟩ => by
      rcases ca with e | e
      · omega
      · have := hm a ⟨e, by omega⟩; omega
    have hb' : ¬ (p < b ∧ b ≤ q) := fun ⟨u, v⟩ => by
      rcases cb with e | e
      · omega
      · have := hm b ⟨e, by omega⟩; omega
    by_cases hp : a ≤ p ∧ q < b
    · exact s p q hp.1 pq hp.2
    · rw [t.out p p0 (by omega), t.out q (by omega) (by omega)]
      refine h.srt p q p0 pq q1 fun m hm' => ?_
      by_cases hi : a < m ∧ m < b
      · omega
      · exact hm m ⟨hm', hi⟩
theorem StC.part (h : StC c C xs ys) {a b : Int} (a0 : 0 ≤ a) (hb : b ≤ xs.length) (hn : ∀ k, C k → ¬ (a < k ∧ k < b)) : sortedIn c ys a b := fun p q p0 pq q1 =>
  h.srt p q (by omega) pq (by omega) fun m hm => by have := hn m hm; omega
theorem StC.apart (h : StC c C xs ys) {a m b : Int} (a0 : 0 ≤ a) (hb : b ≤ xs.length) (hm : C m) (hinc : ∀ p q : Int, 0 ≤ p → p < q → q < xs.length → gt xs p < gt xs q) : apart ys a m b := fun p q p0 p1 q0 q1 => by
  obtain ⟨p', u0, u1, e, f⟩ := h.inn p (by omega) (by omega)
  obtain ⟨q', v0, v1, e', f'⟩ := h.inn q (by omega) (by omega)
  rw [e, e']
  have := f m hm; have := f' m hm
  exact hinc p' q' u0 (by omega) v1
end
theorem mult_one {s a k : Int} (hs : 0 < s) (ha : s ∣ a) (hk : s ∣ k) (h1 : a < k) (h2 : k < a + 2 * s) : k = a + s := by
  obtain ⟨u, rfl⟩ := ha
  obtain ⟨v, rfl⟩ := hk
  have h3 : u < v := Int.lt_of_mul_lt_mul_left h1 (Int.le_of_lt hs)
  have h4 : v < u + 2 := by
    refine Int.lt_of_mul_lt_mul_left (a := s) ?_ (Int.le_of_lt hs)
    rw [Int.mul_add, Int.mul_comm s 2]; exact h2
  have : v = u + 1 := by omega
  rw [this, Int.mul_add, Int.mul_one]
theorem mult_none {s a k : Int} (hs : 0 < s) (ha : s ∣ a) (hk : s ∣ k) (h1 : a < k) (h2 : k < a + s) : False := by
  have := mult_one hs ha hk h1 (by omega); omega
/-- The merges of one size. -/
theorem pass_ok {c : Cells} (xs ys : List Int) (s : Int) (s0 : 20 ≤ s) (s1 : s < xs.length) (hl : xs.length ≤ 1000) (hI : ∀ x ∈ xs, inF c x) (hinc : ∀ p q : Int, 0 ≤ p → p < q → q < xs.length → gt xs p < gt xs q) (h : StC c (fun k => s ∣ k) xs ys) :
    Has (slices_stableCmpFunc_Int_find_Sure_1_2.l2 xs.length (ys, c, s)) fun t => ∃ zs, t = .next (zs, c, s * 2) ∧ StC c (fun k => s * 2 ∣ k) xs zs := by
  unfold slices_stableCmpFunc_Int_find_Sure_1_2.l2
  simp only []
  refine Has.pos (decide_eq_true s1) ?_
  rw [w6_in (n := 2 * s) (by omega), w6_in (n := s * 2) (by omega)]
  have d2 : ∀ k : Int, s * 2 ∣ k → s ∣ k := fun k hk => Int.dvd_trans ⟨2, rfl⟩ hk
  refine Has.bind (P := fun z : List Int × Cells × Int => z.2.1 = c ∧ 0 ≤ z.2.2 ∧ s * 2 ∣ z.2.2 ∧ z.2.2 ≤ xs.length ∧ xs.length < z.2.2 + 2 * s ∧ StC c (fun k => s * 2 ∣ k ∨ (z.2.2 ≤ k ∧ s ∣ k)) xs z.1) ?_ fun z ⟨z1, z2, z3, z4, z5, z6⟩ => ?_
  · refine Has.loop (fun t : List Int × Cells × Int × Int => t.2.1 = c ∧ 0 ≤ t.2.2.1 ∧ t.2.2.2 = t.2.2.1 + 2 * s ∧ t.2.2.1 ≤ xs.length ∧ s * 2 ∣ t.2.2.1 ∧ StC c (fun k => s * 2 ∣ k ∨ (t.2.2.1 ≤ k ∧ s ∣ k)) xs t.1) (fun t => (xs.length - t.2.2.1).toNat) _
      ⟨rfl, Int.le_refl _, by simp only []; omega, by simp only []; omega, ⟨0, by simp⟩, h.congr fun k k0 k1 => ⟨fun q => .inr ⟨by simp only []; omega, q⟩, fun q => q.elim (d2 k) fun q => q.2⟩⟩ (by simp only []; omega) fun t ⟨t1, t2, t3, t4, t5, t6⟩ => ?_
    unfold slices_stableCmpFunc_Int_find_Sure_1_2.l3
    simp only []
    refine Has.ite (fun hi => ?_) fun hi => ?_
    · have hi : t.2.2.2 ≤ xs.length := of_decide_eq_true hi
      rw [w6_in (n := t.2.2.1 + s) (by omega), w6_in (n := 2 * s) (by omega), w6_in (n := t.2.2.2 + 2 * s) (by omega), t1]
      have tl := t6.perm.length_eq
      have sa : s ∣ t.2.2.1 := d2 _ t5
      have sm : s ∣ t.2.2.1 + s := Int.dvd_add sa ⟨1, by simp⟩
      have none1 : ∀ k, (s * 2 ∣ k ∨ (t.2.2.1 ≤ k ∧ s ∣ k)) → ¬ (t.2.2.1 < k ∧ k < t.2.2.1 + s) := fun k hk ⟨k0, k1⟩ => mult_none (by omega) sa (hk.elim (d2 k) fun q => q.2) k0 k1
      have none2 : ∀ k, (s * 2 ∣ k ∨ (t.2.2.1 ≤ k ∧ s ∣ k)) → ¬ (t.2.2.1 + s < k ∧ k < t.2.2.2) := fun k hk ⟨k0, k1⟩ => mult_none (by omega) sm (hk.elim (d2 k) fun q => q.2) k0 (by omega)
      refine (symM_ok (c := c) 64 t.1 t.2.2.1 (t.2.2.1 + s) t.2.2.2 t2 (by omega) (by omega) (by omega) (by omega) (by omega) (fun x hx => hI x (t6.perm.mem_iff.1 hx)) (t6.apart t2 (by omega) (.inr ⟨by omega, sm⟩) hinc) (t6.part t2 (by omega) none1) (t6.part (by omega) hi none2)).bind fun r ⟨⟨r1, r2⟩, r3⟩ => Has.chk r1.len.symm (Has.ret (.next ⟨r3, by simp only []; omega, by simp only [], by simp only []; omega, ?_, ?_⟩ (by simp only []; omega)))
      · simp only []; rw [t3]; exact Int.dvd_add t5 ⟨1, by rw [Int.mul_one, Int.mul_comm]⟩
      · have k1 : s * 2 ∣ t.2.2.2 := by rw [t3]; exact Int.dvd_add t5 ⟨1, by rw [Int.mul_one, Int.mul_comm]⟩
        refine (t6.sorted t2 (by omega) (by omega) r1 r2 (.inr (.inl t5)) (.inr (.inl k1))).congr fun k k0 kn => ?_
        simp only []
        constructor
        · rintro ⟨q | ⟨q, q'⟩, n⟩
          · exact .inl q
          · by_cases e : k = t.2.2.1
            · left; rw [e]; exact t5
            · exact .inr ⟨by omega, q'⟩
        · rintro (q | ⟨q, q'⟩)
          · refine ⟨.inl q, fun ⟨u, v⟩ => ?_⟩
            exact mult_none (s := s * 2) (by omega) t5 q u (by omega)
          · exact ⟨.inr ⟨by omega, q'⟩, by omega⟩
    · have hi : ¬ t.2.2.2 ≤ xs.length := fun q => hi (decide_eq_true q)
      exact Has.ret (.done ⟨t1, t2, t5, t4, by simp only []; omega, t6⟩)
  · rw [w6_in (n := z.2.2 + s) (by omega), z1]
    have zl := z6.perm.length_eq
    have sa : s ∣ z.2.2 := d2 _ z3
    have sm : s ∣ z.2.2 + s := Int.dvd_add sa ⟨1, by simp⟩
    refine Has.ite (fun hi => ?_) fun hi => ?_
    · have hi : z.2.2 + s < xs.length := of_decide_eq_true hi
      have none1 : ∀ k, (s * 2 ∣ k ∨ (z.2.2 ≤ k ∧ s ∣ k)) → ¬ (z.2.2 < k ∧ k < z.2.2 + s) := fun k hk ⟨k0, k1⟩ => mult_none (by omega) sa (hk.elim (d2 k) fun q => q.2) k0 k1
      have none2 : ∀ k, (s * 2 ∣ k ∨ (z.2.2 ≤ k ∧ s ∣ k)) → ¬ (z.2.2 + s < k ∧ k < xs.length) := fun k hk ⟨k0, k1⟩ => mult_none (by omega) sm (hk.elim (d2 k) fun q => q.2) k0 (by omega)
      refine (symM_ok (c := c) 64 z.1 z.2.2 (z.2.2 + s) xs.length z2 (by omega) (by omega) (by omega) (by omega) (by omega) (fun x hx => hI x (z6.perm.mem_iff.1 hx)) (z6.apart z2 (Int.le_refl _) (.inr ⟨by omega, sm⟩) hinc) (z6.part z2 (by omega) none1) (z6.part (by omega) (Int.le_refl _) none2)).bind fun r ⟨⟨r1, r2⟩, r3⟩ => Has.chk r1.len.symm (Has.ret ⟨r.1, by rw [r3], ?_⟩)
      refine (z6.sorted z2 (by omega) (Int.le_refl _) r1 r2 (.inr (.inl z3)) (.inl rfl)).congr fun k k0 kn => ?_
      constructor
      · rintro ⟨q | ⟨q, q'⟩, n⟩
        · exact q
        · by_cases e : k = z.2.2
          · rw [e]; exact z3
          · omega
      · exact fun q => ⟨.inl q, fun ⟨u, v⟩ => mult_none (s := s * 2) (by omega) z3 q u (by omega)⟩
    · have hi : ¬ z.2.2 + s < xs.length := fun q => hi (decide_eq_true q)
      refine Has.ret ⟨z.1, rfl, z6.congr fun k k0 kn => ⟨fun q => ?_, .inl⟩⟩
      rcases q with q | ⟨q, q'⟩
      · exact q
      · by_cases e : k = z.2.2
        · rw [e]; exact z3
        · exact (mult_none (by omega) sa q' (by omega) (by omega)).elim
theorem stab_ok {c : Cells} (xs : List Int) (hl : xs.length ≤ 900) (hI : ∀ x ∈ xs, inF c x) (hinc : ∀ p q : Int, 0 ≤ p → p < q → q < xs.length → gt xs p < gt xs q) :
    Has (slices_stableCmpFunc_Int_find_Sure_1_2 xs xs.length c) fun r => (r.1.Perm xs ∧ sortedIn c r.1 0 xs.length) ∧ r.2 = c := by
  unfold slices_stableCmpFunc_Int_find_Sure_1_2
  have d20 : ∀ a : Int, 20 ∣ a → 20 ∣ a + 20 := fun a h => by omega
  refine Has.bind (P := fun o : List Int × Int => 0 ≤ o.2 ∧ 20 ∣ o.2 ∧ o.2 ≤ xs.length ∧ xs.length < o.2 + 20 ∧ StC c (fun k => 20 ∣ k ∨ o.2 ≤ k) xs o.1) ?_ fun o ⟨o1, o2, o3, o4, o5⟩ => ?_
  · refine Has.loop (fun t : List Int × Int × Int => 0 ≤ t.2.1 ∧ t.2.2 = t.2.1 + 20 ∧ 20 ∣ t.2.1 ∧ t.2.1 ≤ xs.length ∧ StC c (fun k => 20 ∣ k ∨ t.2.1 ≤ k) xs t.1) (fun t => (xs.length - t.2.1).toNat) _
      ⟨Int.le_refl _, rfl, ⟨0, rfl⟩, by simp only []; omega, List.Perm.refl _, fun p p0 p1 => ⟨p, p0, p1, rfl, fun _ _ => Iff.rfl⟩, fun p q p0 pq q1 hm => by have := hm q (.inr (by simp only []; omega)); omega⟩ (by simp only []; omega) fun t ⟨t1, t2, t3, t4, t5⟩ => ?_
    unfold slices_stableCmpFunc_Int_find_Sure_1_2.l1
    have tl := t5.perm.length_eq
    refine Has.ite (fun hi => ?_) fun hi => ?_
    · have hi : t.2.2 ≤ xs.length := of_decide_eq_true hi
      have same : ∀ p, t.2.1 ≤ p → p < xs.length → gt t.1 p = gt xs p := fun p p0 p1 => by
        obtain ⟨q, q0, q1, e, f⟩ := t5.inn p (by omega) p1
        have f1 := f p (.inr p0); have f2 := f (p + 1) (.inr (by omega))
        rw [e, show q = p by omega]
      refine (insO_ok t.1 t.2.1 t.2.2 t1 (by omega) (by omega) (by omega) (fun x hx => hI x (t5.perm.mem_iff.1 hx)) (fun p q p0 pq q1 => by rw [same p p0 (by omega), same q (by omega) (by omega)]; exact hinc p q (by omega) pq (by omega))).bind fun r ⟨r1, r2⟩ => ?_
      rw [w6_in (n := t.2.2 + 20) (by omega)]
      refine Has.chk r1.len.symm (Has.ret (.next ⟨by simp only []; omega, rfl, by simp only []; omega, by simp only []; omega, ?_⟩ (by simp only []; omega)))
      refine (t5.sorted t1 (by omega) hi r1 r2 (.inr (.inl t3)) (.inr (.inr (by omega)))).congr fun k k0 kn => ?_
      simp only []
      omega
    · have hi : ¬ t.2.2 ≤ xs.length := fun q => hi (decide_eq_true q)
      exact Has.ret (.done ⟨t1, t3, t4, by simp only []; omega, t5⟩)
  · have ol := o5.perm.length_eq
    have same : ∀ p, o.2 ≤ p → p < xs.length → gt o.1 p = gt xs p := fun p p0 p1 => by
      obtain ⟨q, q0, q1, e, f⟩ := o5.inn p (by omega) p1
      have f1 := f p (.inr p0); have f2 := f (p + 1) (.inr (by omega))
      rw [e, show q = p by omega]
    refine (insO_ok o.1 o.2 xs.length o1 o3 (by omega) (by omega) (fun x hx => hI x (o5.perm.mem_iff.1 hx)) (fun p q p0 pq q1 => by rw [same p p0 (by omega), same q (by omega) q1]; exact hinc p q (by omega) pq q1)).bind fun r ⟨r1, r2⟩ => Has.chk r1.len.symm ?_
    have R : StC c (fun k => (20 : Int) ∣ k) xs r := (o5.sorted o1 o3 (Int.le_refl _) r1 r2 (.inr (.inl o2)) (.inl rfl)).congr fun k k0 kn => by omega
    refine Has.bind (P := fun z : List Int × Cells => (z.1.Perm xs ∧ sortedIn c z.1 0 xs.length) ∧ z.2 = c) ?_ fun z hz => Has.ret hz
    refine Has.loop (fun t : List Int × Cells × Int => t.2.1 = c ∧ 20 ≤ t.2.2 ∧ StC c (fun k => t.2.2 ∣ k) xs t.1) (fun t => (xs.length - t.2.2).toNat) _ ⟨rfl, Int.le_refl _, R⟩ (by simp only []; omega) fun t ⟨t1, t2, t3⟩ => ?_
    obtain ⟨ys, c', s⟩ := t
    simp only [] at t1 t2 t3
    subst t1
    by_cases hi : s < xs.length
    · exact (pass_ok xs ys s t2 hi (by omega) hI hinc t3).mono fun u ⟨zs, e, h⟩ => by rw [e]; exact .next ⟨rfl, by simp only []; omega, h⟩ (by simp only []; omega)
    · unfold slices_stableCmpFunc_Int_find_Sure_1_2.l2
      refine Has.neg (by simpa using hi) (Has.ret (.done ⟨⟨t3.perm, t3.part (Int.le_refl _) (Int.le_refl _) fun k hk ⟨k0, k1⟩ => ?_⟩, rfl⟩))
      exact mult_none (s := s) (a := 0) (by omega) ⟨0, by simp⟩ hk k0 (by omega)
theorem sortStable_ok {c : Cells} (xs : List Int) (hl : xs.length ≤ 900) (hI : ∀ x ∈ xs, inF c x) (hinc : ∀ p q : Int, 0 ≤ p → p < q → q < xs.length → gt xs p < gt xs q) : Has (slices_SortStableFunc_Int_find_Sure_1_2 xs c) fun r => r.1.Perm xs ∧ sortedIn c r.1 0 xs.length := by
  unfold slices_SortStableFunc_Int_find_Sure_1_2
  exact (stab_ok xs hl hI hinc).bind fun r ⟨⟨r1, r2⟩, r3⟩ => Has.chk r1.length_eq.symm (Has.ret ⟨r1, r2⟩)
end Lf
/- find.Sure: the sure cells, the brightest first. -/
namespace Lf
open Go Go.Abs
set_option linter.unusedVariables false
set_option linter.unusedSimpArgs false
/-- A level as it is made. -/
structure okLv (b : Bound) : Prop where
  ok : b.ok
  u : b.Unknown = false
  lo : -1099511627776 ≤ b.Lo
  hi : b.Hi ≤ 1099511627776
theorem checkLevel_ok {b : Bound} (h : okLv b) : find_CheckLevel b = some 0 := by
  have h1 := h.lo; have h2 := h.hi
  unfold find_CheckLevel
  rw [check_ok h.ok, h.u]
  have g1 : decide (b.Lo < (-1099511627776)) = false := decide_eq_false (by omega)
  have g2 : decide (b.Hi > 1099511627776) = false := decide_eq_false (by omega)
  simp [g1, g2]
def sureC (c : Cells) (level : Bound) (x : Int) : Prop := (gt c.At x).Unknown = false ∧ level.Hi < (gt c.At x).Lo
structure SureL (c : Cells) (level : Bound) (l : List Int) : Prop where
  mem : ∀ x, x ∈ l ↔ 0 ≤ x ∧ x < c.At.length ∧ sureC c level x
  nd : l.Nodup
  ord : l.Pairwise (leF c)
theorem inc_len (l : List Int) (n : Int) (hp : l.Pairwise (· < ·)) (h : ∀ x ∈ l, 0 ≤ x ∧ x < n) (hn : 0 ≤ n) : (l.length : Int) ≤ n := by
  have key : ∀ (l : List Int) (a : Int), l.Pairwise (· < ·) → (∀ x ∈ l, a ≤ x ∧ x < n) → a ≤ n → (l.length : Int) ≤ n - a := fun l => by
    induction l with
    | nil => intro a _ _ h; simp; omega
    | cons x l ih =>
      intro a hp h ha
      obtain ⟨h1, h2⟩ := List.pairwise_cons.1 hp
      obtain ⟨x0, x1⟩ := h x (List.mem_cons_self ..)
      have := ih (x + 1) h2 (fun y hy => ⟨by have := h1 y hy; omega, (h y (List.mem_cons_of_mem _ hy)).2⟩) (by omega)
      simp only [List.length_cons]; omega
  have := key l 0 hp h hn; omega
theorem pw_gt {R : Int → Int → Prop} {l : List Int} : l.Pairwise R ↔ ∀ p q : Int, 0 ≤ p → p < q → q < l.length → R (gt l p) (gt l q) := by
  rw [List.pairwise_iff_getElem]
  constructor
  · intro h p q p0 pq q1
    rw [gt_def l p ⟨p0, by omega⟩, gt_def l q ⟨by omega, q1⟩]
    exact h _ _ _ _ (by omega)
  · intro h i j hi hj ij
    have := h i j (by omega) (by omega) (by omega)
    rwa [gt_def l i ⟨by omega, by omega⟩, gt_def l j ⟨by omega, by omega⟩] at this
theorem sure_ok {c : Cells} {level : Bound} (hc : okF c) (hn : c.At.length ≤ 900) (hv : okLv level) : Has (find_Sure c level) fun r => r.2 = 0 ∧ SureL c level r.1 := by
  have n1 := hc.n1
  unfold find_Sure
  rw [findCheck_ok hc, checkLevel_ok hv]
  simp only [Option.bind_some]
  rw [or2_ok]
  simp only [ne_eq, not_true_eq_false, if_false, Option.bind_some, bne_self_eq_false, Bool.false_eq_true]
  refine Has.bind (P := fun z : List Int => (∀ x, x ∈ z ↔ 0 ≤ x ∧ x < c.At.length ∧ sureC c level x) ∧ z.Pairwise (· < ·)) ?_ fun z ⟨z1, z2⟩ => ?_
  · refine Has.loop (fun t : List Int × Int => 0 ≤ t.2 ∧ t.2 ≤ c.At.length ∧ (∀ x, x ∈ t.1 ↔ 0 ≤ x ∧ x < t.2 ∧ sureC c level x) ∧ t.1.Pairwise (· < ·)) (fun t => (c.At.length - t.2).toNat) _
      ⟨Int.le_refl _, by simp only []; omega, fun x => by simp; omega, List.Pairwise.nil⟩ (by simp only []; omega) fun t ⟨t1, t2, t3, t4⟩ => ?_
    unfold find_Sure.l1
    refine Has.ite (fun hi => ?_) fun hi => ?_
    · have hi : t.2 < c.At.length := of_decide_eq_true hi
      have tl := inc_len t.1 t.2 t4 (fun x hx => by have := (t3 x).1 hx; omega) t1
      rw [w6_in (n := t.2 + 1) (by omega)]
      refine Has.bind (P := fun z : List Int => (∀ x, x ∈ z ↔ 0 ≤ x ∧ x < t.2 + 1 ∧ sureC c level x) ∧ z.Pairwise (· < ·)) (Has.chk ⟨t1, hi⟩ ?_) fun z ⟨z1, z2⟩ => Has.ret (.next ⟨by simp only []; omega, by simp only []; omega, z1, z2⟩ (by simp only []; omega))
      simp only [ite_and, Option.bind_some]
      refine Has.ite (fun hs => ?_) fun hs => Has.ret ⟨fun x => ?_, t4⟩
      · have hs : sureC c level t.2 := by simp only [Bool.and_eq_true, Bool.not_eq_true', decide_eq_true_eq] at hs; exact hs
        refine Has.chk (roomyI (by simp; omega) (by simp; omega)) (Has.ret ⟨fun x => ?_, List.pairwise_append.2 ⟨t4, by simp, fun a ha b hb => by rw [List.mem_singleton.1 hb]; exact ((t3 a).1 ha).2.1⟩⟩)
        rw [List.mem_append, List.mem_singleton, t3]
        constructor
        · rintro (⟨a, b, d⟩ | rfl)
          · exact ⟨a, by omega, d⟩
          · exact ⟨t1, by omega, hs⟩
        · rintro ⟨a, b, d⟩
          by_cases e : x = t.2
          · exact .inr e
          · exact .inl ⟨a, by omega, d⟩
      · have hs : ¬ sureC c level t.2 := fun q => hs (by simp only [Bool.and_eq_true, Bool.not_eq_true', decide_eq_true_eq]; exact q)
        rw [t3]
        constructor
        · rintro ⟨a, b, d⟩; exact ⟨a, by omega, d⟩
        · rintro ⟨a, b, d⟩
          have : x ≠ t.2 := fun e => hs (by rw [← e]; exact d)
          exact ⟨a, by omega, d⟩
    · have hi : ¬ t.2 < c.At.length := fun q => hi (decide_eq_true q)
      exact Has.ret (.done ⟨fun x => by rw [t3]; constructor <;> (rintro ⟨a, b, d⟩; exact ⟨a, by omega, d⟩), t4⟩)
  · have zl := inc_len z c.At.length z2 (fun x hx => by have := (z1 x).1 hx; omega) (by omega)
    refine (sortStable_ok (c := c) z (by omega) (fun x hx => by have := (z1 x).1 hx; exact ⟨this.1, this.2.1⟩) (pw_gt.1 z2)).bind fun r ⟨r1, r2⟩ => Has.chk r1.length_eq.symm (Has.ret ⟨rfl, fun x => by rw [r1.mem_iff]; exact z1 x, ?_, pw_gt.2 fun p q p0 pq q1 => r2 p q p0 pq (by rw [← r1.length_eq]; exact q1)⟩)
    exact r1.symm.nodup (z2.imp fun h => Int.ne_of_lt h)
end Lf
/- The sources that find.Find finds. -/
namespace Lf
open Go Go.Abs
set_option linter.unusedVariables false
set_option linter.unusedSimpArgs false
def SadOf (w h : Nat) (t : List Bound) (p : Int) (R : List Int) : Prop := R.length = w * h ∧ ∀ j, j < w * h → ∀ θ, θ ≤ R.getD j 0 ↔ Way w h t θ p.toNat j
def loB (t : List Bound) (x : Int) : Int := (atB t x.toNat).Lo
theorem getD_snoc {α : Type} (xs : List α) (x d : α) (k : Nat) : (xs ++ [x]).getD k d = if k < xs.length then xs.getD k d else if k = xs.length then x else d := by
  simp only [List.getD_eq_getElem?_getD, List.getElem?_append]
  by_cases h : k < xs.length
  · rw [if_pos h, if_pos h]
  · rw [if_neg h, if_neg h]
    by_cases e : k = xs.length
    · rw [if_pos e, e]; simp
    · rw [if_neg e, List.getElem?_eq_none (by simp; omega)]; rfl
theorem mem_getD {α : Type} (xs : List α) (d : α) (k : Nat) (h : k < xs.length) : xs.getD k d ∈ xs := by
  rw [List.getD_eq_getElem?_getD, List.getElem?_eq_getElem h]; exact List.getElem_mem h
theorem getD_of_mem {α : Type} (xs : List α) (d x : α) (h : x ∈ xs) : ∃ k, k < xs.length ∧ xs.getD k d = x := by
  obtain ⟨k, hk, e⟩ := List.getElem_of_mem h
  exact ⟨k, hk, by rw [List.getD_eq_getElem?_getD, List.getElem?_eq_getElem hk]; exact e⟩
theorem any_way (ws : List (List Int)) (x : Nat) (v : Int) : (ws.any fun R => decide (v ≤ R.getD x 0)) = true ↔ ∃ k, k < ws.length ∧ v ≤ wayG ws k x := by
  rw [List.any_eq_true]
  constructor
  · rintro ⟨R, hR, h⟩
    obtain ⟨k, hk, e⟩ := getD_of_mem ws [] R hR
    exact ⟨k, hk, by unfold wayG; rw [e]; exact of_decide_eq_true h⟩
  · rintro ⟨k, hk, h⟩
    exact ⟨_, mem_getD ws [] k hk, decide_eq_true h⟩
/-- What holds behind a part of the sure cells. -/
structure FdI (w h : Nat) (t : List Bound) (pre ps : List Int) (ws : List (List Int)) : Prop where
  len : ps.length = ws.length
  sad : ∀ k, k < ps.length → SadOf w h t (ps.getD k 0) (ws.getD k [])
  sub : ps.Sublist pre
  new : ∀ j k, j < k → k < ps.length → wayG ws j (ps.getD k 0).toNat < loB t (ps.getD k 0)
  cov : ∀ x ∈ pre, ∃ k, k < ps.length ∧ loB t x ≤ wayG ws k x.toNat
theorem FdI.nil (w h : Nat) (t : List Bound) : FdI w h t [] [] [] := ⟨rfl, fun k hk => by simp at hk, List.Sublist.refl _, fun j k _ hk => by simp at hk, fun x hx => by cases hx⟩
theorem fd1_ok {w h : Nat} {t : List Bound} (hl : t.length = w * h) (hn : w * h ≤ 1024) (L : List Int) (hL : ∀ x ∈ L, 0 ≤ x ∧ x < (w * h : Nat) ∧ loB t x ≤ hgtB (atB t x.toNat))
    (hc : ∀ pre ps ws, pre <+: L → FdI w h t pre ps ws → ps.length < 24) : ∀ (l pre ps : List Int) (ws : List (List Int)), pre ++ l = L → FdI w h t pre ps ws → Has (fd1 w h t l ps ws) fun r => ∃ ps' ws', r = some (ps', ws') ∧ FdI w h t L ps' ws'
  | [], pre, ps, ws, e, I => by
    rw [fd1]
    rw [List.append_nil] at e
    subst e
    exact Has.ret ⟨ps, ws, rfl, I⟩
  | x :: l, pre, ps, ws, e, I => by
    have e' : (pre ++ [x]) ++ l = L := by rw [← e]; simp
    obtain ⟨x0, x1, x2⟩ := hL x (by rw [← e]; simp)
    rw [fd1]
    refine Has.ite (fun ha => ?_) fun ha => Has.neg (by have := hc pre ps ws ⟨x :: l, e⟩ I; omega) ?_
    · obtain ⟨k, hk, hv⟩ := (any_way ws x.toNat _).1 ha
      refine fd1_ok hl hn L hL hc l (pre ++ [x]) ps ws e' ⟨I.len, I.sad, I.sub.trans (List.sublist_append_left _ _), I.new, fun y hy => ?_⟩
      rcases List.mem_append.1 hy with hy | hy
      · exact I.cov y hy
      · rw [List.mem_singleton.1 hy]; exact ⟨k, by rw [I.len]; exact hk, hv⟩
    · have ha : ∀ k, k < ws.length → wayG ws k x.toNat < loB t x := fun k hk => by
        by_cases q : loB t x ≤ wayG ws k x.toNat
        · exact absurd ((any_way ws x.toNat _).2 ⟨k, hk, q⟩) ha
        · omega
      refine (sadR_ok hl hn (show x.toNat < w * h by omega)).bind fun R hR => ?_
      have il := I.len
      have gp : ∀ k, (ps ++ [x]).getD k 0 = if k < ps.length then ps.getD k 0 else if k = ps.length then x else 0 := getD_snoc ps x 0
      have gw : ∀ k, (ws ++ [R]).getD k [] = if k < ws.length then ws.getD k [] else if k = ws.length then R else [] := getD_snoc ws R []
      refine fd1_ok hl hn L hL hc l (pre ++ [x]) (ps ++ [x]) (ws ++ [R]) e' ⟨by simp [il], fun k hk => ?_, I.sub.append (List.Sublist.refl _), fun j k jk hk => ?_, fun y hy => ?_⟩
      · rw [List.length_append, List.length_singleton] at hk
        rw [gp, gw]
        by_cases q : k < ps.length
        · rw [if_pos q, if_pos (by omega)]; exact I.sad k q
        · rw [if_neg q, if_pos (show k = ps.length by omega), if_neg (show ¬ k < ws.length by omega), if_pos (show k = ws.length by omega)]; exact hR
      · rw [List.length_append, List.length_singleton] at hk
        have ej : wayG (ws ++ [R]) j = wayG ws j := by unfold wayG; rw [gw, if_pos (by omega)]
        rw [ej, gp]
        by_cases q : k < ps.length
        · rw [if_pos q]; exact I.new j k jk q
        · rw [if_neg q, if_pos (by omega)]; exact ha j (by omega)
      · have keep : ∀ k, k < ws.length → wayG (ws ++ [R]) k = wayG ws k := fun k hk => by unfold wayG; rw [gw, if_pos hk]
        rcases List.mem_append.1 hy with hy | hy
        · obtain ⟨k, hk, hv⟩ := I.cov y hy
          exact ⟨k, by simp; omega, by rw [keep k (by omega)]; exact hv⟩
        · rw [List.mem_singleton.1 hy]
          refine ⟨ps.length, by simp, ?_⟩
          have : wayG (ws ++ [R]) ps.length x.toNat = R.getD x.toNat 0 := by unfold wayG; rw [gw, if_neg (by omega), if_pos il]
          rw [this, hR.2 x.toNat (by omega)]
          exact .start (by omega) x2
/-- A source is not where another one's light goes down from. -/
theorem FdI.far {w h : Nat} {t : List Bound} {pre ps : List Int} {ws : List (List Int)} (I : FdI w h t pre ps ws) (hp : ∀ x ∈ pre, 0 ≤ x ∧ x < (w * h : Nat)) {j k : Nat} (jk : j < k) (hk : k < ps.length) : ¬ Way w h t (loB t (ps.getD k 0)) (ps.getD j 0).toNat (ps.getD k 0).toNat := fun q => by
  have a := I.new j k jk hk
  have hm := I.sub.subset (mem_getD ps 0 k hk)
  obtain ⟨h0, h1⟩ := hp _ hm
  have := ((I.sad j (by omega)).2 (ps.getD k 0).toNat (by omega) (loB t (ps.getD k 0))).2 q
  have e : wayG ws j (ps.getD k 0).toNat = (ws.getD j []).getD (ps.getD k 0).toNat 0 := rfl
  omega
end Lf
/- find.Find: the sources. -/
namespace Lf
open Go Go.Abs
set_option linter.unusedVariables false
set_option linter.unusedSimpArgs false
theorem gt_atB (l : List Bound) (x : Int) : gt l x = atB l x.toNat := rfl
theorem kyF_lo (c : Cells) (x : Int) : kyF c x = loB c.At x := rfl
/-- What is known of sure cells. -/
theorem SureL.at {c : Cells} {level : Bound} {l : List Int} (h : SureL c level l) (hc : okF c) (x : Int) (hx : x ∈ l) : 0 ≤ x ∧ x < (c.W.toNat * c.H.toNat : Nat) ∧ loB c.At x ≤ hgtB (atB c.At x.toNat) ∧ hgtB (atB c.At x.toNat) = (gt c.At x).Hi := by
  obtain ⟨x0, x1, u, v⟩ := (h.mem x).1 hx
  have b := (hc.cell _ (gt_mem c.At x ⟨x0, x1⟩)).1.le
  have hl := hc.len; have w0 := hc.w0; have h0 := hc.h0
  have e : ((c.W.toNat * c.H.toNat : Nat) : Int) = c.W * c.H := by rw [Int.natCast_mul, Int.toNat_of_nonneg (by omega), Int.toNat_of_nonneg (by omega)]
  have e2 : hgtB (atB c.At x.toNat) = (gt c.At x).Hi := by
    show hgt _ _ (gt c.At x).Unknown = _
    rw [u]; rfl
  exact ⟨x0, by omega, by rw [e2]; exact b, e2⟩
theorem okF.nat {c : Cells} (hc : okF c) : c.At.length = c.W.toNat * c.H.toNat ∧ c.W.toNat * c.H.toNat ≤ 1024 := by
  have hl := hc.len; have w0 := hc.w0; have h0 := hc.h0; have n := hc.n1
  have e : ((c.W.toNat * c.H.toNat : Nat) : Int) = c.W * c.H := by rw [Int.natCast_mul, Int.toNat_of_nonneg (by omega), Int.toNat_of_nonneg (by omega)]
  omega
theorem fd2_len (w : Nat) (ps : List Int) (ws : List (List Int)) : ∀ (l : List Int) (parts : List (List Int)), (fd2 w ps ws l parts).length = parts.length
  | [], parts => rfl
  | x :: l, parts => by rw [fd2, fd2_len]; simp
/-- The sources, as find.Find gives them. -/
def srcs (w : Nat) (l ps : List Int) (ws : List (List Int)) : List Source_ := (ps.zip (fd2 w ps ws (l.mergeSort fun x y => decide (x ≤ y)) (ps.map fun _ => []))).map fun p => Source_.mk p.1 p.2
theorem srcs_len (w : Nat) (l ps : List Int) (ws : List (List Int)) : (srcs w l ps ws).length = ps.length := by unfold srcs; simp [fd2_len]
theorem srcs_at (w : Nat) (l ps : List Int) (ws : List (List Int)) (k : Int) (k0 : 0 ≤ k) (k1 : k < ps.length) : gt (srcs w l ps ws) k = Source_.mk (ps.getD k.toNat 0) ((fd2 w ps ws (l.mergeSort fun x y => decide (x ≤ y)) (ps.map fun _ => [])).getD k.toNat []) := by
  have hk : k.toNat < ps.length := by omega
  have hk2 : k.toNat < (fd2 w ps ws (l.mergeSort fun x y => decide (x ≤ y)) (ps.map fun _ => [])).length := by rw [fd2_len]; simpa using hk
  rw [gt_def _ k ⟨k0, by rw [srcs_len]; exact k1⟩]
  unfold srcs
  simp only [List.getElem_map, List.getElem_zip, List.getD_eq_getElem?_getD, List.getElem?_eq_getElem hk, List.getElem?_eq_getElem hk2, Option.getD_some]
structure FindL (c : Cells) (level : Bound) (l ps : List Int) (ws : List (List Int)) : Prop where
  sure : SureL c level l
  fd : FdI c.W.toNat c.H.toNat c.At l ps ws
theorem find_ok {c : Cells} {level : Bound} (hc : okF c) (hn : c.At.length ≤ 900) (hv : okLv level) (hcount : ∀ l, SureL c level l → ∀ pre ps ws, pre <+: l → FdI c.W.toNat c.H.toNat c.At pre ps ws → ps.length < 24) :
    Has (find_Find c level) fun r => r.2 = 0 ∧ ∃ l ps ws, find_Sure c level = some (l, 0) ∧ FindL c level l ps ws ∧ r.1 = srcs c.W.toNat l ps ws := by
  unfold find_Find
  obtain ⟨⟨l, e⟩, hs, rfl, hS⟩ := sure_ok hc hn hv
  rw [hs]
  obtain ⟨n1, n2⟩ := hc.nat
  simp only [Option.bind_some] at hS ⊢
  have hll : l.length ≤ 1024 := by
    have key : ∀ (n : Nat) (l : List Int), l.Nodup → (∀ x ∈ l, 0 ≤ x ∧ x < n) → l.length ≤ n := fun n => by
      induction n with
      | zero => intro l _ h; cases l with
        | nil => simp
        | cons x l => have := h x (List.mem_cons_self ..); omega
      | succ n ih =>
        intro l nd h
        by_cases hm : (n : Int) ∈ l
        · have := ih (l.erase n) (nd.erase _) fun x hx => by
            have h1 := (nd.mem_erase_iff).1 hx
            have := h x h1.2; have := h1.1; omega
          rw [List.length_erase_of_mem hm] at this; omega
        · have := ih l nd fun x hx => by
            have := h x hx
            have : x ≠ n := fun e => hm (by rw [← e]; exact hx)
            omega
          omega
    have := key (c.W.toNat * c.H.toNat) l hS.nd fun x hx => by have := hS.at hc x hx; omega
    omega
  refine Has.pos ⟨hc.w0, hc.w1, hc.h0, hc.h1, hc.len, fun x hx => by have := hS.at hc x hx; omega, hll⟩ ?_
  unfold fdL
  rw [if_neg (by simp)]
  obtain ⟨r, hr, ps, ws, rfl, hI⟩ := fd1_ok n1 n2 l (fun x hx => by have := hS.at hc x hx; exact ⟨this.1, this.2.1, this.2.2.1⟩) (hcount l hS) l [] [] [] rfl (FdI.nil _ _ _)
  rw [hr]
  exact Has.ret ⟨rfl, l, ps, ws, rfl, ⟨hS, hI⟩, rfl⟩
section
variable {c : Cells} {level : Bound} {l pre ps : List Int} {ws : List (List Int)}
theorem sub_ord (hS : SureL c level l) (hp : ps.Sublist l) : ps.Pairwise (leF c) := hS.ord.sublist hp
theorem pw_getD {R : Int → Int → Prop} {l : List Int} (h : l.Pairwise R) {j k : Nat} (jk : j < k) (hk : k < l.length) : R (l.getD j 0) (l.getD k 0) := by
  have := List.pairwise_iff_getElem.1 h j k (by omega) hk jk
  rwa [show l.getD j 0 = l[j] by simp [List.getD_eq_getElem?_getD, List.getElem?_eq_getElem (show j < l.length by omega)], show l.getD k 0 = l[k] by simp [List.getD_eq_getElem?_getD, List.getElem?_eq_getElem hk]]
/-- Two sources do not touch. -/
theorem src_apart (hc : okF c) (hS : SureL c level l) (hpre : pre <+: l) (I : FdI c.W.toNat c.H.toNat c.At pre ps ws) {j k : Nat} (jk : j < k) (hk : k < ps.length) : ps.getD j 0 ≠ ps.getD k 0 ∧ ¬ adj c.W.toNat (ps.getD j 0).toNat (ps.getD k 0).toNat := by
  have hsub : ps.Sublist l := I.sub.trans hpre.sublist
  have mj := hS.at hc _ (hsub.subset (mem_getD ps 0 j (by omega)))
  have mk := hS.at hc _ (hsub.subset (mem_getD ps 0 k hk))
  have hf := I.far (fun x hx => by have := hS.at hc x (hpre.subset hx); omega) jk hk
  have ho : leF c (ps.getD j 0) (ps.getD k 0) := pw_getD (sub_ord hS hsub) jk hk
  have hlo : loB c.At (ps.getD k 0) ≤ loB c.At (ps.getD j 0) := by rw [← kyF_lo, ← kyF_lo]; unfold leF at ho; omega
  have st : Way c.W.toNat c.H.toNat c.At (loB c.At (ps.getD k 0)) (ps.getD j 0).toNat (ps.getD j 0).toNat := .start (by omega) (by omega)
  refine ⟨fun e => hf ?_, fun a => hf (.step st (by omega) a (by omega))⟩
  rw [← e]; rw [← e] at st; exact st
theorem nodup_lt : ∀ (n : Nat) (l : List Nat), l.Nodup → (∀ x ∈ l, x < n) → l.length ≤ n
  | 0, l, _, h => by
    cases l with
    | nil => simp
    | cons x l => have := h x (List.mem_cons_self ..); omega
  | n + 1, l, nd, h => by
    by_cases hm : n ∈ l
    · have := nodup_lt n (l.erase n) (nd.erase _) fun x hx => by
        have h1 := (nd.mem_erase_iff).1 hx
        have := h x h1.2; have := h1.1; omega
      rw [List.length_erase_of_mem hm] at this; omega
    · have := nodup_lt n l nd fun x hx => by
        have := h x hx
        have : x ≠ n := fun e => hm (by rw [← e]; exact hx)
        omega
      omega
/-- A small field has few sources. -/
theorem few8 (hc : okF c) (hw : c.W ≤ 8) (hh : c.H ≤ 8) (hS : SureL c level l) (hpre : pre <+: l) (I : FdI c.W.toNat c.H.toNat c.At pre ps ws) : ps.length < 24 := by
  have w0 := hc.w0
  have hsub : ps.Sublist l := I.sub.trans hpre.sublist
  obtain ⟨w, hw'⟩ : ∃ w, w = c.W.toNat := ⟨_, rfl⟩
  have hw8 : 0 < w ∧ w ≤ 8 := by omega
  have pos : ∀ x ∈ ps, x.toNat % w < 8 ∧ x.toNat / w < 8 := fun x hx => by
    have m := hS.at hc x (hsub.subset hx)
    rw [← hw'] at m
    have := Nat.mod_lt x.toNat (show w > 0 by omega)
    refine ⟨by omega, ?_⟩
    rw [Nat.div_lt_iff_lt_mul hw8.1, Nat.mul_comm]
    have : w * c.H.toNat ≤ w * 8 := Nat.mul_le_mul_left w (by omega)
    omega
  have nd : (ps.map fun x => x.toNat % w / 2 + 4 * (x.toNat / w / 2)).Nodup := by
    rw [List.Nodup, List.pairwise_map, List.pairwise_iff_getElem]
    intro j k hj hk jk e
    have ap := src_apart hc hS hpre I jk hk
    rw [← hw'] at ap
    have gj : ps.getD j 0 = ps[j] := by simp [List.getD_eq_getElem?_getD, List.getElem?_eq_getElem hj]
    have gk : ps.getD k 0 = ps[k] := by simp [List.getD_eq_getElem?_getD, List.getElem?_eq_getElem hk]
    rw [gj, gk] at ap
    have pj := pos _ (List.getElem_mem hj)
    have pk := pos _ (List.getElem_mem hk)
    have mj := hS.at hc _ (hsub.subset (List.getElem_mem hj))
    have mk := hS.at hc _ (hsub.subset (List.getElem_mem hk))
    refine ap.2 ⟨fun q => ap.1 (by omega), ?_⟩
    generalize ps[j].toNat % w = a at *
    generalize ps[j].toNat / w = b at *
    generalize ps[k].toNat % w = a' at *
    generalize ps[k].toNat / w = b' at *
    omega
  have := nodup_lt 16 _ nd fun x hx => by
    obtain ⟨y, hy, rfl⟩ := List.mem_map.1 hx
    have := pos y hy
    generalize y.toNat % w = a at *
    generalize y.toNat / w = b at *
    omega
  rw [List.length_map] at this
  omega
end
end Lf
/- Fields that are drawn, and their levels. -/
namespace Lf
open Go Go.Abs
set_option linter.unusedVariables false
set_option linter.unusedSimpArgs false
theorem Has.and {α : Type} {x : Option α} {P Q : α → Prop} (h : Has x P) (k : Has x Q) : Has x fun a => P a ∧ Q a := by
  obtain ⟨a, e, h⟩ := h
  obtain ⟨b, e', k⟩ := k
  rw [e] at e'; cases e'
  exact ⟨a, e, h, k⟩
/-- Bounds of a light, cell by cell. -/
structure veilF (w h : Int) (light : List Int) (c : Cells) : Prop where
  ok : okF c
  W : c.W = w
  H : c.H = h
  len : (c.At.length : Int) = w * h
  v : ∀ i : Int, 0 ≤ i → i < w * h → veils (gt light i) (gt c.At i)
theorem veilF_ok (s : spymake_Stream) (w h : Int) (light : List Int) (holes : Bool) (hs : okS s) (ha : s.at_ ≤ 4611686018427000000) (w0 : 1 ≤ w) (w1 : w ≤ 32) (h0 : 1 ≤ h) (h1 : h ≤ 32) (hn : (light.length : Int) = w * h) (hl : ∀ x ∈ light, -1000000000000 ≤ x ∧ x ≤ 1000000000000) :
    Has (Stream_Veil s w h light holes) fun r => veilF w h light r.1 ∧ (holes = false → ∀ i : Int, 0 ≤ i → i < w * h → (gt r.1.At i).Unknown = false) ∧ after s r.2 (1 + 3 * light.length) := by
  have hA := area w0 w1 h0 h1
  refine (veil_ok s w h light holes hs ha (by omega) hl).mono fun r ⟨r1, r2, r3, r4, r5⟩ => ⟨⟨⟨by omega, by omega, by omega, by omega, by rw [r1, r2]; omega, ?_⟩, r1, r2, by omega, fun i i0 i1 => (r4 i i0 (by omega)).1⟩, fun e i i0 i1 => (r4 i i0 (by omega)).2 e, r5⟩
  refine allI_mem (allI_mono r4 fun i b i0 i1 hv => ?_)
  have := hl _ (gt_mem light i ⟨i0, by omega⟩)
  exact hv.1.ok this.1 this.2
section
variable {w h : Int} {light : List Int} {c : Cells} (F : veilF w h light c)
include F
theorem veilF.hi (hl : ∀ x ∈ light, x ≤ 1000000000000) (hn : (light.length : Int) = w * h) (i : Nat) (hi : (i : Int) < w * h) : gt light i ≤ hgtB (atB c.At i) := by
  have := F.v i (by omega) hi
  have e : gt c.At (i : Int) = atB c.At i := by rw [gt_atB]; simp
  rw [e] at this
  have b := hl _ (gt_mem light i ⟨by omega, by omega⟩)
  rcases this with q | ⟨u, _, _, q, _⟩
  · rw [q]; show _ ≤ (4611686018427387904 : Int); omega
  · show _ ≤ hgt _ _ (atB c.At i).Unknown
    rw [u]; exact q
theorem veilF.lo {level : Bound} {l : List Int} (hS : SureL c level l) (x : Int) (hx : x ∈ l) : loB c.At x ≤ gt light x := by
  obtain ⟨x0, x1, u, _⟩ := (hS.mem x).1 hx
  have := F.v x x0 (by have := F.len; omega)
  rcases this with q | ⟨_, _, q, _, _⟩
  · rw [q] at u; cases u
  · exact q
end
/-- A level as it is drawn. -/
theorem levelF_ok (s : spymake_Stream) (back : Int) (hs : okS s) (ha : s.at_ ≤ 4611686018427000000) (hb : 0 ≤ back ∧ back ≤ 1000000000) : Has (Stream_Level s back) fun r => okLv r.1 ∧ back - 5 ≤ r.1.Lo ∧ r.1.Hi ≤ back + 5 ∧ after s r.2 2 :=
  (level_ok s back hs ha hb).mono fun r ⟨r1, r2, r3, r4, r5, r6⟩ => ⟨⟨⟨(fun e => by rw [r1] at e; cases e), by omega, by omega, by omega⟩, r1, by omega, by omega⟩, r2, r5, r6⟩
end Lf
/- The fact of two sources. -/
namespace Lf
open Go Go.Abs
set_option linter.unusedVariables false
set_option linter.unusedSimpArgs false
def twoC : Cells := Cells.mk 5 1 [⟨3, 4, false⟩, ⟨9, 9, false⟩, ⟨1, 7, false⟩, ⟨8, 10, false⟩, ⟨1, 12, false⟩]
theorem twoC_ok : okF twoC where
  w0 := by decide
  w1 := by decide
  h0 := by decide
  h1 := by decide
  len := by decide
  cell := fun b hb => by
    simp only [twoC, List.mem_cons, List.not_mem_nil, or_false] at hb
    rcases hb with rfl | rfl | rfl | rfl | rfl <;> exact ⟨okKnown (by decide) (by decide) (by decide), by decide, by decide⟩
theorem twoC_sure : find_Sure twoC ⟨0, 2, false⟩ = some ([1, 3, 0], 0) := by
  obtain ⟨⟨l, e⟩, hs, rfl, hS⟩ := sure_ok twoC_ok (by decide) (level := ⟨0, 2, false⟩) ⟨okKnown (by decide) (by decide) (by decide), rfl, by decide, by decide⟩
  rw [hs]
  have h2 : ([1, 3, 0] : List Int).Pairwise (leF twoC) := by
    have : ∀ a b, leF twoC a b ↔ (kyF twoC b < kyF twoC a ∨ (kyF twoC a = kyF twoC b ∧ a ≤ b)) := fun a b => Iff.rfl
    refine List.pairwise_cons.2 ⟨fun a ha => (this _ _).2 ?_, List.pairwise_cons.2 ⟨fun a ha => (this _ _).2 ?_, List.pairwise_cons.2 ⟨fun a ha => (by cases ha), List.Pairwise.nil⟩⟩⟩
    · simp only [List.mem_cons, List.not_mem_nil, or_false] at ha
      rcases ha with rfl | rfl <;> decide
    · simp only [List.mem_cons, List.not_mem_nil, or_false] at ha
      subst ha; decide
  have hm : ∀ x, x ∈ l ↔ x ∈ ([1, 3, 0] : List Int) := fun x => by
    rw [hS.mem]
    constructor
    · rintro ⟨h0, h1, h2⟩
      have h1 : x < 5 := h1
      have : x = 0 ∨ x = 1 ∨ x = 2 ∨ x = 3 ∨ x = 4 := by omega
      rcases this with rfl | rfl | rfl | rfl | rfl
      · decide
      · decide
      · exact absurd h2.2 (by decide)
      · decide
      · exact absurd h2.2 (by decide)
    · intro h
      simp only [List.mem_cons, List.not_mem_nil, or_false] at h
      rcases h with rfl | rfl | rfl <;> exact ⟨by decide, by decide, rfl, by decide⟩
  have hp : l.Perm [1, 3, 0] := (List.perm_ext_iff_of_nodup hS.nd (by decide)).2 hm
  have := hp.eq_of_pairwise (fun a b _ _ h k => h.anti k) hS.ord h2
  simp only [] at this
  rw [this]
theorem twoC_fd1 : ∃ ws, fd1 5 1 twoC.At [1, 3, 0] [] [] = some (some ([1, 3], ws)) := ⟨[[4, 9, 7, 7, 7], [4, 7, 7, 10, 10]], by kernel_rfl⟩
theorem two_ok : spykeep4_two = some true := by
  unfold spykeep4_two spykeep4_two_1
  simp only [Option.bind_some]
  have hf : Has (find_Find twoC ⟨0, 2, false⟩) fun r => r.2 = 0 ∧ ∃ ws, r.1 = srcs 5 [1, 3, 0] [1, 3] ws := by
    unfold find_Find
    rw [twoC_sure]
    simp only [Option.bind_some]
    refine Has.pos (by decide) ?_
    unfold fdL
    rw [if_neg (by simp)]
    obtain ⟨ws, h⟩ := twoC_fd1
    have h' : fd1 twoC.W.toNat twoC.H.toNat twoC.At [1, 3, 0] [] [] = some (some ([1, 3], ws)) := h
    rw [h']
    exact Has.ret ⟨rfl, ws, rfl⟩
  obtain ⟨⟨s, e⟩, hr, rfl, ws, rfl⟩ := hf
  have hr : find_Find (Cells.mk 5 1 [⟨3, 4, false⟩, ⟨9, 9, false⟩, ⟨1, 7, false⟩, ⟨8, 10, false⟩, ⟨1, 12, false⟩]) ⟨0, 2, false⟩ = some (srcs 5 [1, 3, 0] [1, 3] ws, 0) := hr
  rw [hr]
  have hl : (srcs 5 [1, 3, 0] [1, 3] ws).length = 2 := srcs_len _ _ _ _
  have g0 : (gt (srcs 5 [1, 3, 0] [1, 3] ws) 0).Peak = 1 := by rw [srcs_at _ _ _ _ 0 (by decide) (by decide)]; rfl
  have g1 : (gt (srcs 5 [1, 3, 0] [1, 3] ws) 1).Peak = 3 := by rw [srcs_at _ _ _ _ 1 (by decide) (by decide)]; rfl
  simp only [Option.bind_some, hl, g0, g1]
  rfl
end Lf
/- FindParted: for any light within the bounds, two peaks are parted by less light than the one with the smaller Lo surely has. -/
namespace Lf
open Go Go.Abs
set_option linter.unusedVariables false
set_option linter.unusedSimpArgs false
theorem FindParted_true (l : List Int) (hl : okL l) : spykeep4_FindParted l = some true := by
  apply Has.val
  have h0 := okS.start hl
  unfold spykeep4_FindParted
  refine (range_ok _ 1 8 h0 (by simp only []; omega) (by omega) (by omega) (by omega)).bind fun r1 ⟨w0, w1, s1⟩ => ?_
  have o1 := s1.ok h0 (by simp only []; omega); have b1 := s1.hi
  refine (range_ok _ 1 8 o1 (by simp only [] at b1; omega) (by omega) (by omega) (by omega)).bind fun r2 ⟨g0, g1, s2⟩ => ?_
  have o2 := s2.ok o1 (by simp only [] at b1; omega); have b2 := s2.hi
  refine (range_ok _ 1 4 o2 (by simp only [] at b1 b2; omega) (by omega) (by omega) (by omega)).bind fun r3 ⟨p0, p1, s3⟩ => ?_
  have o3 := s3.ok o2 (by simp only [] at b1 b2; omega); have b3 := s3.hi
  have hA : r1.1 * r2.1 ≤ 64 := by
    have a := Int.mul_le_mul_of_nonneg_right w1 (show 0 ≤ r2.1 by omega)
    omega
  refine (lights_ok r3.2 r1.1 r2.1 r3.1 o3 (by simp only [] at b1 b2 b3; omega) w0 (by omega) g0 (by omega) (by omega) (by omega)).bind fun r4 ⟨l1, l2, l3, s4⟩ => ?_
  have o4 := s4.ok o3 (by simp only [] at b1 b2 b3; omega); have b4 := s4.hi
  have l4 := l1.len
  have lv : ∀ x ∈ r4.1, -1000000000000 ≤ x ∧ x ≤ 1000000000000 := fun x hx => by have := l1.v x hx; omega
  refine (veilF_ok r4.2.2 r1.1 r2.1 r4.1 true o4 (by simp only [] at b1 b2 b3 b4; omega) w0 (by omega) g0 (by omega) l4 lv).bind fun r5 ⟨F, _, s5⟩ => ?_
  have o5 := s5.ok o4 (by simp only [] at b1 b2 b3 b4; omega); have b5 := s5.hi
  refine (levelF_ok r5.2 r4.2.1 o5 (by simp only [] at b1 b2 b3 b4 b5; omega) (by omega)).bind fun r6 ⟨V, _, _, s6⟩ => ?_
  have hc := F.ok
  have hlen := F.len
  obtain ⟨n1, n2⟩ := hc.nat
  have eW := F.W; have eH := F.H
  obtain ⟨⟨sr, e⟩, hf, rfl, sl, ps, ws, hsu, hL, rfl⟩ := find_ok hc (by omega) V fun sl hS pre ps ws hpre I => few8 hc (by omega) (by omega) hS hpre I
  rw [hf, two_ok]
  simp only [Option.bind_some, Bool.not_true, Bool.false_eq_true, if_false, bne_self_eq_false]
  obtain ⟨W, hW⟩ : ∃ W : Nat, r1.1 = W := ⟨r1.1.toNat, by omega⟩
  obtain ⟨H, hH⟩ : ∃ H : Nat, r2.1 = H := ⟨r2.1.toNat, by omega⟩
  have hWH : ((W * H : Nat) : Int) = r1.1 * r2.1 := by rw [Int.natCast_mul, hW, hH]
  have eWn : r5.1.W.toNat = W := by omega
  have eHn : r5.1.H.toNat = H := by omega
  have hS := hL.sure
  have hI := hL.fd
  have h24 := few8 hc (by omega) (by omega) hS (List.prefix_refl _) hI
  rw [eWn, eHn] at hI
  have hsl : (srcs r5.1.W.toNat sl ps ws).length = ps.length := srcs_len _ _ _ _
  have pk : ∀ k : Int, 0 ≤ k → k < ps.length → (gt (srcs r5.1.W.toNat sl ps ws) k).Peak = ps.getD k.toNat 0 ∧ ps.getD k.toNat 0 ∈ sl := fun k k0 k1 => by
    rw [srcs_at _ _ _ _ k k0 k1]
    exact ⟨rfl, hI.sub.subset (mem_getD ps 0 k.toNat (by omega))⟩
  generalize hsr : srcs r5.1.W.toNat sl ps ws = sr at *
  refine Has.seq (P := fun t : Step Unit Bool => t = .next ()) ?_ (fun _ _ => Has.ret rfl) (fun o ho => by cases ho)
  refine Has.loop (fun i : Int => 0 ≤ i ∧ i ≤ sr.length) (fun i => (sr.length - i).toNat) _ ⟨Int.le_refl _, by omega⟩ (by omega) fun k ⟨k0, k1⟩ => ?_
  unfold spykeep4_FindParted.l1
  refine Has.ite (fun hk => ?_) fun hk => Has.ret (.done rfl)
  have hk : k < sr.length := of_decide_eq_true hk
  obtain ⟨e1, m1⟩ := pk k k0 (by omega)
  have q1 := hS.at hc _ m1
  have u1 := (hS.mem _).1 m1
  rw [e1]
  rw [eWn, eHn] at q1
  have c1 : decide (ps.getD k.toNat 0 < 0) = false := decide_eq_false (by omega)
  have c2 : decide (ps.getD k.toNat 0 ≥ (r4.1.length : Int)) = false := decide_eq_false (by omega)
  simp only [c1, c2, Bool.false_eq_true, if_false]
  have c3 : (0 : Int) ≤ ps.getD k.toNat 0 ∧ ps.getD k.toNat 0 < (r5.1.At.length : Int) := ⟨by omega, by omega⟩
  rw [if_pos c3, u1.2.2.1, if_pos c3]
  simp only [Option.bind_some, Bool.false_eq_true, if_false]
  refine Has.chk ⟨k0, hk⟩ ?_
  obtain ⟨p, hp⟩ : ∃ p : Nat, ps.getD k.toNat 0 = p := ⟨(ps.getD k.toNat 0).toNat, by omega⟩
  have hlo : (gt r5.1.At (ps.getD k.toNat 0)).Lo = loB r5.1.At (ps.getD k.toNat 0) := rfl
  rw [hlo]
  have hp1 : (ps.getD k.toNat 0).toNat = p := by omega
  rw [hp1] at q1
  have rc := reached_ok (W := W) (H := H) (lb := r5.1.At) (θ := loB r5.1.At (ps.getD k.toNat 0)) (p := p) (by omega) (by omega) (light := r4.1) (by omega) (fun i hi => F.hi (fun x hx => (lv x hx).2) l4 i (by omega)) (by omega) q1.2.2.1
  rw [← hW, ← hH, ← hp] at rc
  refine rc.bind fun o ho => Has.chk k0 (Has.chk ⟨by omega, by omega⟩ ?_)
  refine Has.seq (P := fun t : Step Unit (Step Int (Step Unit Bool)) => t = .next ()) ?_ (fun _ _ => ?_) (fun o ho => by cases ho)
  · have tl : ((List.drop 0 sr).take (k.toNat - 0)).length = k.toNat := by simp; omega
    have tg : ∀ j : Int, 0 ≤ j → j < k → gt ((List.drop 0 sr).take (k.toNat - 0)) j = gt sr j := fun j j0 j1 => by
      unfold gt
      rw [List.drop_zero, Nat.sub_zero, List.getD_eq_getElem?_getD, List.getD_eq_getElem?_getD, List.getElem?_take, if_pos (by omega)]
    refine Has.loop (fun i : Int => 0 ≤ i ∧ i ≤ k) (fun i => (k - i).toNat) _ ⟨Int.le_refl _, k0⟩ (by omega) fun j ⟨j0, j1⟩ => ?_
    unfold spykeep4_FindParted.l2
    rw [tl, Int.toNat_of_nonneg k0]
    refine Has.letF (Has.ite (fun hj => ?_) fun hj => Has.ret (.done rfl))
    have hj : j < k := of_decide_eq_true hj
    rw [tg j j0 hj]
    obtain ⟨e2, m2⟩ := pk j j0 (by omega)
    have q2 := hS.at hc _ m2
    rw [eWn, eHn] at q2
    rw [e2]
    have d1 : decide (ps.getD j.toNat 0 < 0) = false := decide_eq_false (by omega)
    have d2 : decide (ps.getD j.toNat 0 ≥ (r4.1.length : Int)) = false := decide_eq_false (by omega)
    have hol := ho.1
    have far := hI.far (fun x hx => by have := hS.at hc x hx; rw [eWn, eHn] at this; omega) (j := j.toNat) (k := k.toNat) (by omega) (by omega)
    have no : gt o (ps.getD j.toNat 0) = false := by
      cases hg : gt o (ps.getD j.toNat 0) with
      | false => rfl
      | true =>
        exfalso
        refine far ?_
        have := ho.2 (ps.getD j.toNat 0).toNat (by omega) (by rw [Int.toNat_of_nonneg q2.1]; exact hg)
        rw [hp1]
        exact this.symm
    refine Has.chk ⟨j0, hj⟩ ?_
    rw [w6_in (n := j + 1) (by omega)]
    refine Has.bind (P := fun b : Bool => b = false) (Has.letF (Has.neg (by rw [d1]; simp) (Has.letF (Has.neg (by rw [d2]; simp) (Has.chk ⟨by omega, by omega⟩ (Has.ret no)))))) fun b hb => Has.neg (by rw [hb]; simp) (Has.ret (.next ⟨by omega, by omega⟩ (by omega)))
  · rw [w6_in (n := k + 1) (by omega)]
    exact Has.ret (.next ⟨by omega, by omega⟩ (by omega))
end Lf
