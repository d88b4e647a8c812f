/- Laws of the plain functions. Conditions: as each theorem states them. -/
import Derived.Test.YtdihhgkihbnnoaaPNum5
import Derived.Test.YtdihhgkihbnnoaaPAdd
/- A bound times n / d, rounded outward. -/
namespace Lf
open Go Go.Abs
set_option linter.unusedVariables false
set_option linter.unusedSimpArgs false
theorem min_ok (x : List Int) (h : x ≠ []) (hl : x.length ≤ 1000000000) : Has (slices_Min_Int x) fun m => m ∈ x ∧ ∀ y ∈ x, m ≤ y := by
  have h0 : 0 < x.length := List.length_pos_iff.2 h
  have ini : ∀ i : Int, 0 ≤ i → i < 1 → gt x 0 ≤ gt x i := fun i h1 h2 => by
    have : i = 0 := by omega
    rw [this]; exact Int.le_refl _
  unfold slices_Min_Int
  refine Has.neg (by simp; omega) (Has.chk (by omega) (Has.bind (P := fun o => o ∈ x ∧ ∀ y ∈ x, o ≤ y) ?_ fun o ho => Has.ret ho))
  refine Has.loop (fun s : Int × Int => 1 ≤ s.2 ∧ s.2 ≤ (x.length : Int) ∧ s.1 ∈ x ∧ ∀ i : Int, 0 ≤ i → i < s.2 → s.1 ≤ gt x i) (fun s => (x.length - s.2).toNat) _ ⟨Int.le_refl _, (by show (1 : Int) ≤ _; omega), gt_mem x 0 ⟨by omega, by omega⟩, ini⟩ (by show ((x.length : Int) - 1).toNat < _; omega) fun s ⟨h1, h2, h3, h4⟩ => ?_
  unfold slices_Min_Int.l1
  refine Has.ite (fun h => ?_) fun h => Has.ret (.done ⟨h3, fun y hy => ?_⟩)
  · have h : s.2 < (x.length : Int) := of_decide_eq_true h
    have hm := gt_mem x s.2 ⟨by omega, h⟩
    have d := mn2_def s.1 (gt x s.2)
    rw [w6_in (by omega)]
    refine Has.chk ⟨by omega, h⟩ (Has.ret (.next ⟨by simp only []; omega, by simp only []; omega, ?_, fun i i1 i2 => ?_⟩ (by simp only []; omega)))
    · show mn2 s.1 (gt x s.2) ∈ x
      rcases d with ⟨e, _⟩ | ⟨e, _⟩ <;> rw [e]
      · exact h3
      · exact hm
    · show mn2 s.1 (gt x s.2) ≤ gt x i
      simp only [] at i2
      by_cases hi : i = s.2
      · rw [hi]; omega
      · have := h4 i i1 (by omega); omega
  · have h : ¬ s.2 < (x.length : Int) := fun q => h (decide_eq_true q)
    obtain ⟨n, hn, rfl⟩ := List.getElem_of_mem hy
    have := h4 n (by omega) (by omega)
    rw [gt_def x n ⟨by omega, by omega⟩] at this
    exact this
theorem max_ok (x : List Int) (h : x ≠ []) (hl : x.length ≤ 1000000000) : Has (slices_Max_Int x) fun m => m ∈ x ∧ ∀ y ∈ x, y ≤ m := by
  have h0 : 0 < x.length := List.length_pos_iff.2 h
  have ini : ∀ i : Int, 0 ≤ i → i < 1 → gt x i ≤ gt x 0 := fun i h1 h2 => by
    have : i = 0 := by omega
    rw [this]; exact Int.le_refl _
  unfold slices_Max_Int
  refine Has.neg (by simp; omega) (Has.chk (by omega) (Has.bind (P := fun o => o ∈ x ∧ ∀ y ∈ x, y ≤ o) ?_ fun o ho => Has.ret ho))
  refine Has.loop (fun s : Int × Int => 1 ≤ s.2 ∧ s.2 ≤ (x.length : Int) ∧ s.1 ∈ x ∧ ∀ i : Int, 0 ≤ i → i < s.2 → gt x i ≤ s.1) (fun s => (x.length - s.2).toNat) _ ⟨Int.le_refl _, (by show (1 : Int) ≤ _; omega), gt_mem x 0 ⟨by omega, by omega⟩, ini⟩ (by show ((x.length : Int) - 1).toNat < _; omega) fun s ⟨h1, h2, h3, h4⟩ => ?_
  unfold slices_Max_Int.l1
  refine Has.ite (fun h => ?_) fun h => Has.ret (.done ⟨h3, fun y hy => ?_⟩)
  · have h : s.2 < (x.length : Int) := of_decide_eq_true h
    have hm := gt_mem x s.2 ⟨by omega, h⟩
    have d := mx2_def s.1 (gt x s.2)
    rw [w6_in (by omega)]
    refine Has.chk ⟨by omega, h⟩ (Has.ret (.next ⟨by simp only []; omega, by simp only []; omega, ?_, fun i i1 i2 => ?_⟩ (by simp only []; omega)))
    · show mx2 s.1 (gt x s.2) ∈ x
      rcases d with ⟨e, _⟩ | ⟨e, _⟩ <;> rw [e]
      · exact h3
      · exact hm
    · show gt x i ≤ mx2 s.1 (gt x s.2)
      simp only [] at i2
      by_cases hi : i = s.2
      · rw [hi]; omega
      · have := h4 i i1 (by omega); omega
  · have h : ¬ s.2 < (x.length : Int) := fun q => h (decide_eq_true q)
    obtain ⟨n, hn, rfl⟩ := List.getElem_of_mem hy
    have := h4 n (by omega) (by omega)
    rw [gt_def x n ⟨by omega, by omega⟩] at this
    exact this
/-- The quotient, rounded up. -/
def cdiv (x d : Int) : Int := -((-x) / d)
theorem cdiv_up {x d : Int} (hd : 0 < d) : (x % d = 0 → cdiv x d = x / d) ∧ (0 < x % d → cdiv x d = x / d + 1) := by
  unfold cdiv
  rcases neg_div x d hd with ⟨a, b, c⟩ | ⟨a, b, c⟩
  · exact ⟨fun _ => by omega, fun h => by omega⟩
  · exact ⟨fun h => by omega, fun _ => by omega⟩
theorem cdiv_mono {x y d : Int} (hd : 0 < d) (h : x ≤ y) : cdiv x d ≤ cdiv y d := by
  unfold cdiv
  have := Int.ediv_le_ediv hd (show -y ≤ -x by omega)
  omega
theorem fl_le_ce {x d : Int} (hd : 0 < d) : x / d ≤ cdiv x d ∧ cdiv x d ≤ x / d + 1 := by
  unfold cdiv
  rcases neg_div x d hd with ⟨a, b, c⟩ | ⟨a, b, c⟩ <;> omega
theorem of_bad {lo hi : Int} (h : lo ≤ hi) (hn : ¬ (-1152921504606846976 ≤ lo ∧ hi ≤ 1152921504606846976)) : bound_Of lo hi = some ⟨0, 0, true⟩ := by
  unfold bound_Of bound_Norm bound_Check
  simp only []
  rw [mn2_le h, mx2_le h]
  by_cases h1 : lo < -1152921504606846976
  · simp [h1, bound_None]
  · have h2 : hi > 1152921504606846976 := by omega
    simp [h1, h2, bound_None]
def fitB (lo hi : Int) : Prop := -1152921504606846976 ≤ lo ∧ hi ≤ 1152921504606846976
instance (lo hi : Int) : Decidable (fitB lo hi) := inferInstanceAs (Decidable (_ ∧ _))
/-- Both roundings of one product. -/
theorem both_ok (x n d L H : Int) (hx : okI x) (hn : okI n) (hd : 1 ≤ d ∧ d ≤ 9223372036854775807) (hL : L ≤ x * n / d) (hH : cdiv (x * n) d ≤ H) :
    ∃ r9 r10, bound_Mul_1 x n d = some r9 ∧ bound_Mul_2 x n d = some r10 ∧ ((r9.2 = 0 ∧ r10.2 = 0 ∧ r9.1 = x * n / d ∧ r10.1 = cdiv (x * n) d) ∨ ((r9.2 ≠ 0 ∨ r10.2 ≠ 0) ∧ ¬ fitB L H)) := by
  obtain ⟨r9, e9, p9⟩ := muldiv_ok x n d hx hn hd
  obtain ⟨r10, e10, p10, p11⟩ := muldivup_ok x n d hx hn hd
  have hc := fl_le_ce (x := x * n) (d := d) (by omega)
  obtain ⟨u1, u2⟩ := cdiv_up (x := x * n) (d := d) (by omega)
  refine ⟨r9, r10, by unfold bound_Mul_1; rw [e9]; rfl, by unfold bound_Mul_2; rw [e10]; rfl, ?_⟩
  by_cases hf : fitB L H
  · left
    obtain ⟨f1, f2⟩ := hf
    have k : okI (x * n / d) := by unfold okI; omega
    have k1 : okI (x * n / d + 1) := by unfold okI; omega
    have z := p11 ⟨k, k1⟩
    rcases p9 with ⟨_, rfl⟩ | ⟨q, _⟩
    · refine ⟨rfl, z, rfl, ?_⟩
      rcases (p10 z).1 with ⟨a, b⟩ | ⟨a, b⟩
      · rw [b, u1 a]
      · rw [b, u2 a]
    · exact absurd k q
  · by_cases z9 : r9.2 = 0
    · by_cases z10 : r10.2 = 0
      · left
        refine ⟨z9, z10, ?_, ?_⟩
        · rcases p9 with ⟨_, rfl⟩ | ⟨q, rfl⟩
          · rfl
          · cases z9
        · rcases (p10 z10).1 with ⟨a, b⟩ | ⟨a, b⟩
          · rw [b, u1 a]
          · rw [b, u2 a]
      · exact .inr ⟨.inr z10, hf⟩
    · exact .inr ⟨.inl z9, hf⟩
/-- The rows that the corners' loops make. -/
structure Cor (L H : Int) (l : List Int) (k : Int) (lo hi : Bool) : Prop where
  len : (l.length : Int) = k
  all : ∀ y ∈ l, L ≤ y ∧ y ≤ H
  lo : lo = true → L ∈ l
  hi : hi = true → H ∈ l
theorem corners_ok (a : Bound) (n d : Int) (ha : a.ok) (hn : 0 ≤ n ∧ n ≤ 1152921504606846976) (hd : 1 ≤ d ∧ d ≤ 9223372036854775807) :
    bound_corners_bound_Mul_1 a ⟨n, n, false⟩ d d = some (if fitB (a.Lo * n / d) (cdiv (a.Hi * n) d) then ⟨a.Lo * n / d, cdiv (a.Hi * n) d, false⟩ else ⟨0, 0, true⟩) := by
  have a1 := ha.lo; have a2 := ha.le; have a3 := ha.hi
  have m1 : a.Lo * n ≤ a.Hi * n := Int.mul_le_mul_of_nonneg_right a2 hn.1
  have d1 := Int.ediv_le_ediv (show 0 < d by omega) m1
  have d2 := cdiv_mono (show 0 < d by omega) m1
  have f1 := fl_le_ce (x := a.Lo * n) (d := d) (by omega)
  have f2 := fl_le_ce (x := a.Hi * n) (d := d) (by omega)
  have bL := both_ok a.Lo n d (a.Lo * n / d) (cdiv (a.Hi * n) d) (by unfold okI; omega) (by unfold okI; omega) hd (Int.le_refl _) d2
  have bH := both_ok a.Hi n d (a.Lo * n / d) (cdiv (a.Hi * n) d) (by unfold okI; omega) (by unfold okI; omega) hd d1 (Int.le_refl _)
  generalize hLe : a.Lo * n / d = L at *
  generalize hHe : cdiv (a.Hi * n) d = H at *
  generalize hMe : cdiv (a.Lo * n) d = M at *
  generalize hNe : a.Hi * n / d = N at *
  apply Has.val
  unfold bound_corners_bound_Mul_1
  refine Has.seq (P := fun t : Step (List Int) Bound => (∃ l, t = .next l ∧ Cor L H l 8 true true) ∨ (t = .done ⟨0, 0, true⟩ ∧ ¬ fitB L H)) ?_ (fun l hl => ?_) fun o ho => ?_
  · refine Has.loop (fun s : List Int × Int => (s.2 = 0 ∧ Cor L H s.1 0 false false) ∨ (s.2 = 1 ∧ Cor L H s.1 4 true false) ∨ (s.2 = 2 ∧ Cor L H s.1 8 true true)) (fun s => (2 - s.2).toNat) _ (.inl ⟨rfl, rfl, by simp, (fun h => nomatch h), (fun h => nomatch h)⟩) (by simp only []; omega) fun s hs => ?_
    have hs2 : 0 ≤ s.2 ∧ s.2 ≤ 2 := by rcases hs with ⟨e, _⟩ | ⟨e, _⟩ | ⟨e, _⟩ <;> omega
    unfold bound_corners_bound_Mul_1.l1
    refine Has.ite (fun h => ?_) fun h => Has.ret (.done (.inl ⟨s.1, rfl, ?_⟩))
    · have h : s.2 < 2 := of_decide_eq_true h
      refine Has.chk ⟨hs2.1, h⟩ (Has.seq (P := fun t : Step (List Int) (Step (List Int × Int) (Step (List Int) Bound)) => (∃ l, t = .next l ∧ ((s.2 = 0 ∧ Cor L H l 4 true false) ∨ (s.2 = 1 ∧ Cor L H l 8 true true))) ∨ (t = .done (.done (.done ⟨0, 0, true⟩)) ∧ ¬ fitB L H)) ?_ (fun l hl => ?_) fun o ho => ?_)
      · refine Has.loop (fun t : List Int × Int => (0 ≤ t.2 ∧ t.2 ≤ 2) ∧ ((s.2 = 0 ∧ Cor L H t.1 (2 * t.2) (decide (0 < t.2)) false) ∨ (s.2 = 1 ∧ Cor L H t.1 (4 + 2 * t.2) true (decide (0 < t.2))))) (fun t => (2 - t.2).toNat) _ ⟨⟨Int.le_refl _, by simp only []; omega⟩, ?_⟩ (by simp only []; omega) fun t ⟨ht, hc⟩ => ?_
        · rcases hs with ⟨e, c⟩ | ⟨e, c⟩ | ⟨e, c⟩
          · exact .inl ⟨e, c⟩
          · exact .inr ⟨e, c⟩
          · omega
        · unfold bound_corners_bound_Mul_1.l2
          refine Has.ite (fun h2 => ?_) fun h2 => Has.ret (.done (.inl ⟨t.1, rfl, ?_⟩))
          · have h2 : t.2 < 2 := of_decide_eq_true h2
            have eb : gt ([n, n] : List Int) t.2 = n := by
              have : t.2 = 0 ∨ t.2 = 1 := by omega
              rcases this with e | e <;> rw [e] <;> rfl
            have hl : (t.1.length : Int) ≤ 8 := by rcases hc with ⟨_, c⟩ | ⟨_, c⟩ <;> have := c.len <;> omega
            refine Has.chk ⟨ht.1, h2⟩ ?_
            simp only [eb]
            have fin : ∀ (x X Y : Int), gt ([a.Lo, a.Hi] : List Int) s.2 = x → (∃ r9 r10, bound_Mul_1 x n d = some r9 ∧ bound_Mul_2 x n d = some r10 ∧ ((r9.2 = 0 ∧ r10.2 = 0 ∧ r9.1 = X ∧ r10.1 = Y) ∨ ((r9.2 ≠ 0 ∨ r10.2 ≠ 0) ∧ ¬ fitB L H))) →
                (((s.2 = 0 ∧ Cor L H (t.1 ++ [X, Y]) (2 * (t.2 + 1)) (decide (0 < t.2 + 1)) false) ∨ (s.2 = 1 ∧ Cor L H (t.1 ++ [X, Y]) (4 + 2 * (t.2 + 1)) true (decide (0 < t.2 + 1))))) →
                Has (Option.bind (bound_Mul_1 (gt ([a.Lo, a.Hi] : List Int) s.2) n d) fun r9 => Option.bind (bound_Mul_2 (gt ([a.Lo, a.Hi] : List Int) s.2) n d) fun r10 => Option.bind (if (r9.2 != 0) = true then some true else some (r10.2 != 0)) fun z11 : Bool => if z11 = true then Option.bind (bound_None) fun r14 => some (.done (.done (.done (.done r14)))) else if roomy (t.1.length + ([r9.1, r10.1] : List Int).length) 8 = true then some (.next (t.1 ++ ([r9.1, r10.1] : List Int), w6 (t.2 + 1))) else none)
                  (StepOK (fun t : List Int × Int => (0 ≤ t.2 ∧ t.2 ≤ 2) ∧ ((s.2 = 0 ∧ Cor L H t.1 (2 * t.2) (decide (0 < t.2)) false) ∨ (s.2 = 1 ∧ Cor L H t.1 (4 + 2 * t.2) true (decide (0 < t.2))))) (fun t => (2 - t.2).toNat) (fun t : Step (List Int) (Step (List Int × Int) (Step (List Int) Bound)) => (∃ l, t = .next l ∧ ((s.2 = 0 ∧ Cor L H l 4 true false) ∨ (s.2 = 1 ∧ Cor L H l 8 true true))) ∨ (t = .done (.done (.done ⟨0, 0, true⟩)) ∧ ¬ fitB L H)) ((2 - t.2).toNat)) := by
              intro x X Y ex ⟨r9, r10, e9, e10, hr⟩ hC
              rw [ex, e9, e10]
              simp only [Option.bind_some, ite_or]
              rcases hr with ⟨z9, z10, v9, v10⟩ | ⟨hb, hf⟩
              · rw [z9, z10, v9, v10, w6_in (by omega)]
                refine Has.neg (by simp) (Has.chk (roomyI (by simp; omega) (by simp; omega)) (Has.ret (.next ⟨⟨by simp only []; omega, by simp only []; omega⟩, hC⟩ (by simp only []; omega))))
              · refine Has.pos (by rcases hb with hb | hb <;> simp [hb]) (Has.ret (.done (.inr ⟨rfl, hf⟩)))
            rcases hc with ⟨e, c⟩ | ⟨e, c⟩
            · refine fin a.Lo L M (by rw [e]; rfl) bL (.inl ⟨e, by have := c.len; simp; omega, fun y hy => ?_, fun _ => List.mem_append_right _ (by simp), (fun h => nomatch h)⟩)
              rcases List.mem_append.1 hy with h | h
              · exact c.all y h
              · simp at h; rcases h with rfl | rfl <;> omega
            · refine fin a.Hi N H (by rw [e]; rfl) bH (.inr ⟨e, by have := c.len; simp; omega, fun y hy => ?_, fun h => List.mem_append_left _ (c.lo h), fun _ => List.mem_append_right _ (by simp)⟩)
              rcases List.mem_append.1 hy with h | h
              · exact c.all y h
              · simp at h; rcases h with rfl | rfl <;> omega
          · have h2 : t.2 = 2 := by have : ¬ t.2 < 2 := fun q => h2 (decide_eq_true q); omega
            rw [h2] at hc
            exact hc
      · rcases hl with ⟨l', e, hl⟩ | ⟨e, _⟩
        · cases e
          rw [w6_in (by omega)]
          refine Has.ret (.next ?_ (by simp only []; omega))
          rcases hl with ⟨e, c⟩ | ⟨e, c⟩
          · exact .inr (.inl ⟨by simp only []; omega, c⟩)
          · exact .inr (.inr ⟨by simp only []; omega, c⟩)
        · cases e
      · rcases ho with ⟨l', e, _⟩ | ⟨e, hf⟩
        · cases e
        · cases e; exact .done (.inr ⟨rfl, hf⟩)
    · have h : s.2 = 2 := by have : ¬ s.2 < 2 := fun q => h (decide_eq_true q); omega
      rcases hs with ⟨e, _⟩ | ⟨e, _⟩ | ⟨e, c⟩
      · omega
      · omega
      · exact c
  · rcases hl with ⟨l', e, c⟩ | ⟨e, _⟩
    · cases e
      have hlen := c.len
      have hne : l ≠ [] := fun e => by subst e; simp at hlen
      refine (min_ok l hne (by omega)).bind fun m ⟨m1, m2⟩ => (max_ok l hne (by omega)).bind fun k ⟨k1, k2⟩ => ?_
      have em : m = L := by have := m2 L (c.lo rfl); have := c.all m m1; omega
      have ek : k = H := by have := k2 H (c.hi rfl); have := c.all k k1; omega
      have hLH : L ≤ H := by omega
      rw [em, ek]
      by_cases hf : fitB L H
      · rw [of_ok hf.1 hLH hf.2, if_pos hf]; exact Has.ret rfl
      · rw [of_bad hLH hf, if_neg hf]; exact Has.ret rfl
    · cases e
  · rcases ho with ⟨l', e, _⟩ | ⟨e, hf⟩
    · cases e
    · cases e; rw [if_neg hf]
theorem exact_ok {v : Int} (h1 : -1152921504606846976 ≤ v) (h2 : v ≤ 1152921504606846976) : bound_Exact v = some ⟨v, v, false⟩ := by
  unfold bound_Exact; rw [of_ok h1 (Int.le_refl _) h2]; rfl
theorem scale_known (a : Bound) (n d : Int) (ha : a.ok) (ua : a.Unknown = false) (hn : 0 ≤ n ∧ n ≤ 1152921504606846976) (hd : 1 ≤ d ∧ d ≤ 9223372036854775807) :
    bound_Scale a n d = some (if fitB (a.Lo * n / d) (cdiv (a.Hi * n) d) then ⟨a.Lo * n / d, cdiv (a.Hi * n) d, false⟩ else ⟨0, 0, true⟩) := by
  unfold bound_Scale bound_Mul
  rw [exact_ok (by omega) hn.2]
  simp only [Option.bind_some]
  have hd' : ¬ d < 1 := by omega
  rw [vague_ok ha (okKnown (by omega) (Int.le_refl _) hn.2), ua]
  simp only [Option.bind_some, Bool.or_self, Bool.false_eq_true, if_false, decide_eq_true_eq, hd']
  rw [corners_ok a n d ha hn hd]; rfl
theorem scale_vague (a : Bound) (n d : Int) (ha : a.ok) (ua : a.Unknown = true) (hn : 0 ≤ n ∧ n ≤ 1152921504606846976) : bound_Scale a n d = some ⟨0, 0, true⟩ := by
  unfold bound_Scale bound_Mul
  rw [exact_ok (by omega) hn.2]
  simp only [Option.bind_some]
  rw [vague_ok ha (okKnown (by omega) (Int.le_refl _) hn.2), ua]
  rfl
/-- With no divisor: exact. -/
theorem scale_one (a : Bound) (n : Int) (ha : a.ok) (ua : a.Unknown = false) (hn : 0 ≤ n ∧ n ≤ 1152921504606846976) (h1 : -1152921504606846976 ≤ a.Lo * n) (h2 : a.Hi * n ≤ 1152921504606846976) :
    bound_Scale a n 1 = some ⟨a.Lo * n, a.Hi * n, false⟩ := by
  have e1 : cdiv (a.Hi * n) 1 = a.Hi * n := by unfold cdiv; simp
  rw [scale_known a n 1 ha ua hn (by omega), Int.ediv_one, e1, if_pos ⟨h1, h2⟩]
end Lf
