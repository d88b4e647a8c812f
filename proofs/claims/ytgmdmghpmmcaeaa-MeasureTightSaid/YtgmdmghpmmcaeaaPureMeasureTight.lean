/- For every list of numbers, spykeep4.MeasureTight returns true: both ends of the mean that measure.Mean tells are reached up to rounding. Condition: none. -/
import Derived.Test.YtgmdmghpmmcaeaaLmean
namespace Go.Proofs.Ytgmdmghpmmcaeaa.Pure
open Go.RowKit Go.Proofs.Ytgmdmghpmmcaeaa.PMeasureTight Go.Proofs.YtgmdmghpmmcaeaaW.PrintWords Go.Proofs.YtgmdmghpmmcaeaaW.PrintLast Go.Proofs.YtgmdmghpmmcaeaaW.PrintMore
set_option linter.unusedVariables false

theorem weighed_ok : Ev (fun k => spykeep4_weighed.f k) true :=
  Ev.of spykeep4_weighed.mono (k := 40) (by decide +kernel)

/-- The weight that makes the mean small. -/
def loww (c x : Int) (b : BQ) : Int := if x > c then b.f0 else b.f1
def lw (c x : Int) (b : BQ) : Int := if x < c then b.f1 else b.f0
def low (_ : Int) (b : BQ) : Int := b.f0

theorem sx_congr {A : List Int} {B : List BQ} {q q' : Int → BQ → Int} (h : ∀ x ∈ A, ∀ b, q x b = q' x b) : SX q A B = SX q' A B ∧ SW q A B = SW q' A B := by
  induction A generalizing B with
  | nil => exact ⟨rfl, rfl⟩
  | cons x xs ih => cases B with
    | nil => exact ⟨rfl, rfl⟩
    | cons b bs =>
      have h1 := ih (B := bs) (fun y hy => h y (List.mem_cons_of_mem _ hy))
      have h2 := h x List.mem_cons_self b
      simp only [SX, SW, h1.1, h1.2, h2, and_self]
theorem sx_negs (A : List Int) (B : List BQ) (c : Int) : SX (hiw (-c)) (negs A) B = -SX (lw c) A B ∧ SW (hiw (-c)) (negs A) B = SW (lw c) A B := by
  induction A generalizing B with
  | nil => cases B <;> exact ⟨rfl, rfl⟩
  | cons x xs ih => cases B with
    | nil => exact ⟨rfl, rfl⟩
    | cons b bs =>
      have h1 := ih bs
      have e : hiw (-c) (-x) b = lw c x b := by
        unfold hiw lw
        by_cases hc : x < c
        · rw [if_pos (by omega), if_pos hc]
        · rw [if_neg (by omega), if_neg hc]
      have e2 : negs (x :: xs) = -x :: negs xs := rfl
      rw [e2]
      refine ⟨?_, ?_⟩
      · simp only [SX, h1.1, e]; rw [Int.mul_neg, Int.neg_add]
      · simp only [SW, h1.2, e]
theorem sx_ge {A : List Int} {B : List BQ} {q : Int → BQ → Int} {m : Int} (hl : A.length = B.length) (hq : ∀ x b, b ∈ B → 0 ≤ q x b) (hm : ∀ x ∈ A, m ≤ x) : m * SW q A B ≤ SX q A B := by
  induction A generalizing B with
  | nil => cases B with
    | nil => simp [SX, SW]
    | cons b bs => cases hl
  | cons x xs ih => cases B with
    | nil => cases hl
    | cons b bs =>
      have h1 := ih (B := bs) (by simpa using hl) (fun x c hc => hq x c (List.mem_cons_of_mem _ hc)) (fun y hy => hm y (List.mem_cons_of_mem _ hy))
      have h2 : q x b * m ≤ q x b * x := Int.mul_le_mul_of_nonneg_left (hm x List.mem_cons_self) (hq x b List.mem_cons_self)
      simp only [SX, SW]
      rw [Int.mul_add, Int.mul_comm m (q x b)]
      omega
theorem sx_le {A : List Int} {B : List BQ} {q : Int → BQ → Int} {m : Int} (hl : A.length = B.length) (hq : ∀ x b, b ∈ B → 0 ≤ q x b) (hm : ∀ x ∈ A, x ≤ m) : SX q A B ≤ m * SW q A B := by
  induction A generalizing B with
  | nil => cases B with
    | nil => simp [SX, SW]
    | cons b bs => cases hl
  | cons x xs ih => cases B with
    | nil => cases hl
    | cons b bs =>
      have h1 := ih (B := bs) (by simpa using hl) (fun x c hc => hq x c (List.mem_cons_of_mem _ hc)) (fun y hy => hm y (List.mem_cons_of_mem _ hy))
      have h2 : q x b * x ≤ q x b * m := Int.mul_le_mul_of_nonneg_left (hm x List.mem_cons_self) (hq x b List.mem_cons_self)
      simp only [SX, SW]
      rw [Int.mul_add, Int.mul_comm m (q x b)]
      omega
/-- What the least place's greater weights add. -/
theorem sx_least {A : List Int} {B : List BQ} {c : Int} (hl : A.length = B.length) (ho : ∀ b ∈ B, b.f0 ≤ b.f1) (hm : ∀ x ∈ A, c ≤ x) :
    ∃ D, 0 ≤ D ∧ SX (loww c) A B = SX low A B + D * c ∧ SW (loww c) A B = SW low A B + D := by
  induction A generalizing B with
  | nil => cases B with
    | nil => exact ⟨0, Int.le_refl _, by simp [SX], by simp [SW]⟩
    | cons b bs => cases hl
  | cons x xs ih => cases B with
    | nil => cases hl
    | cons b bs =>
      obtain ⟨D, h0, h1, h2⟩ := ih (B := bs) (by simpa using hl) (fun b hb => ho b (List.mem_cons_of_mem _ hb)) (fun y hy => hm y (List.mem_cons_of_mem _ hy))
      have hx := hm x List.mem_cons_self
      have hb := ho b List.mem_cons_self
      simp only [SX, SW, h1, h2]
      by_cases hc : x > c
      · refine ⟨D, h0, ?_, ?_⟩ <;> simp only [loww, low, if_pos hc] <;> omega
      · obtain rfl : x = c := by omega
        refine ⟨D + (b.f1 - b.f0), by omega, ?_, ?_⟩ <;> simp only [loww, low, if_neg hc]
        · rw [Int.add_mul, Int.sub_mul]; omega
        · omega

theorem exists_max (A : List Int) (h : A ≠ []) : ∃ c ∈ A, ∀ x ∈ A, x ≤ c := by
  induction A with
  | nil => exact absurd rfl h
  | cons x xs ih =>
    by_cases he : xs = []
    · subst he
      exact ⟨x, List.mem_cons_self, fun y hy => by rcases List.mem_cons.1 hy with rfl | hy; exact Int.le_refl _; cases hy⟩
    · obtain ⟨c, hc, hm⟩ := ih he
      by_cases hxc : x ≤ c
      · exact ⟨c, List.mem_cons_of_mem _ hc, fun y hy => by rcases List.mem_cons.1 hy with rfl | hy; exact hxc; exact hm y hy⟩
      · exact ⟨x, List.mem_cons_self, fun y hy => by
          rcases List.mem_cons.1 hy with rfl | hy
          · exact Int.le_refl _
          · have := hm y hy; omega⟩
/-- The greatest place below a cut, if there is one. -/
theorem exists_below (A : List Int) (c : Int) (h : ∃ x ∈ A, x < c) : ∃ d ∈ A, d < c ∧ ∀ x ∈ A, x < c → x ≤ d := by
  obtain ⟨x, hx, hc⟩ := h
  have hne : A.filter (fun y => decide (y < c)) ≠ [] := by
    intro e
    have : x ∈ A.filter (fun y => decide (y < c)) := List.mem_filter.2 ⟨hx, decide_eq_true hc⟩
    rw [e] at this; cases this
  obtain ⟨d, hd, hm⟩ := exists_max _ hne
  have := List.mem_filter.1 hd
  exact ⟨d, this.1, of_decide_eq_true this.2, fun y hy hyc => hm y (List.mem_filter.2 ⟨hy, decide_eq_true hyc⟩)⟩

theorem most_real {A : List Int} {B : List BQ} (h : Tame A B) (hne : A ≠ []) (hs : ∃ b ∈ B, 1 ≤ b.f0) :
    ∃ c ∈ A, most A B A least = cutMean A B c := by
  rcases most_is A B A least with h1 | h1
  · obtain ⟨c, hc⟩ : ∃ c, c ∈ A := by cases A with
      | nil => exact absurd rfl hne
      | cons x xs => exact ⟨x, List.mem_cons_self⟩
    have hw := (sw_pos h.len _ (hiw_ge h c) h.pos).2 hs
    have h2 := sx_ge (q := hiw c) h.len (fun x b hb => (hiw_bd h c x hb).1) (fun x hx => (h.place x hx).1)
    have h3 := (ceil_spec (SX (hiw c) A B) (SW (hiw c) A B) hw).1
    have h4 : -8192 ≤ cutMean A B c := by
      refine Decidable.byContradiction fun hc => ?_
      have : ceil (SX (hiw c) A B) (SW (hiw c) A B) * SW (hiw c) A B ≤ (-8193) * SW (hiw c) A B := Int.mul_le_mul_of_nonneg_right (by unfold cutMean at hc; omega) (by omega)
      omega
    have h5 := most_mem A B A least c hc
    rw [h1] at h5
    unfold least at h5; omega
  · exact h1

theorem cutMean_bd {A : List Int} {B : List BQ} (h : Tame A B) (hs : ∃ b ∈ B, 1 ≤ b.f0) (c : Int) : -8192 ≤ cutMean A B c ∧ cutMean A B c ≤ 8192 := by
  have hw := (sw_pos h.len _ (hiw_ge h c) h.pos).2 hs
  have h1 := sx_ge (q := hiw c) h.len (fun x b hb => (hiw_bd h c x hb).1) (fun x hx => (h.place x hx).1)
  have h2 := sx_le (q := hiw c) h.len (fun x b hb => (hiw_bd h c x hb).1) (fun x hx => (h.place x hx).2)
  exact ⟨by have := ceil_lt (a := SX (hiw c) A B) (b := SW (hiw c) A B) (n := -8193) hw (by omega); unfold cutMean; omega, ceil_le hw h2⟩

def Phi (A : List Int) (B : List BQ) (hi c : Int) : Bool := decide (SX (hiw c) A B > (hi - 1) * SW (hiw c) A B)
def Psi (A : List Int) (B : List BQ) (lo c : Int) : Bool := decide (SX (loww c) A B < (lo + 1) * SW (loww c) A B)

/-- The law's own arithmetic: both ends are reached up to rounding, and they are in order. -/
theorem tight {A : List Int} {B : List BQ} (h : Tame A B) (hne : A ≠ []) (hs : ∃ b ∈ B, 1 ≤ b.f0) :
    -most (negs A) B (negs A) least ≤ most A B A least ∧ A.any (Phi A B (most A B A least)) = true ∧ A.any (Psi A B (-most (negs A) B (negs A) least)) = true := by
  have hn := negs_tame h
  have hnn : negs A ≠ [] := by cases A with
    | nil => exact absurd rfl hne
    | cons x xs => simp [negs]
  have w0 : 1 ≤ SW low A B := (sw_pos h.len low (fun x b _ => Int.le_refl _) h.pos).2 hs
  refine ⟨?_, ?_, ?_⟩
  · obtain ⟨c, hc, hm⟩ := exists_max A hne
    have e := sx_congr (A := A) (B := B) (q := hiw c) (q' := low) (fun x hx b => if_neg (by have := hm x hx; omega))
    have h1 := most_mem A B A least c hc
    obtain ⟨d, hd, hmd⟩ := exists_max (negs A) hnn
    obtain ⟨d', hd', rfl⟩ := List.mem_map.1 hd
    have e1 := sx_negs A B d'
    have e2 := sx_congr (A := A) (B := B) (q := lw d') (q' := low) (fun x hx b => if_neg (by have := hmd (-x) (List.mem_map.2 ⟨x, hx, rfl⟩); omega))
    have h2 := most_mem (negs A) B (negs A) least (-d') hd
    unfold cutMean at h1 h2
    rw [e.1, e.2] at h1
    rw [e1.1, e1.2, e2.1, e2.2] at h2
    have c1 := (ceil_spec (SX low A B) (SW low A B) w0).1
    have c2 := (ceil_spec (-SX low A B) (SW low A B) w0).1
    have c3 : 0 ≤ (ceil (SX low A B) (SW low A B) + ceil (-SX low A B) (SW low A B)) * SW low A B := by rw [Int.add_mul]; omega
    have c4 : 0 ≤ ceil (SX low A B) (SW low A B) + ceil (-SX low A B) (SW low A B) := by
      refine Decidable.byContradiction fun hc => ?_
      have : (ceil (SX low A B) (SW low A B) + ceil (-SX low A B) (SW low A B)) * SW low A B ≤ (-1) * SW low A B := Int.mul_le_mul_of_nonneg_right (by omega) (by omega)
      omega
    omega
  · obtain ⟨c, hc, e⟩ := most_real h hne hs
    refine List.any_eq_true.2 ⟨c, hc, decide_eq_true ?_⟩
    rw [e]
    exact (ceil_spec _ _ ((sw_pos h.len _ (hiw_ge h c) h.pos).2 hs)).2
  · obtain ⟨c', hc', e⟩ := most_real hn hnn hs
    obtain ⟨c, hc, rfl⟩ := List.mem_map.1 hc'
    have e1 := sx_negs A B c
    have wp : 1 ≤ SW (lw c) A B := by rw [← e1.2]; exact (sw_pos hn.len _ (hiw_ge hn (-c)) hn.pos).2 hs
    have h1 := (ceil_spec (-SX (lw c) A B) _ wp).2
    have em : most (negs A) B (negs A) least = ceil (-SX (lw c) A B) (SW (lw c) A B) := by rw [e]; unfold cutMean; rw [e1.1, e1.2]
    rw [em]
    generalize hT : ceil (-SX (lw c) A B) (SW (lw c) A B) = T at h1
    have h2 : SX (lw c) A B < (-T + 1) * SW (lw c) A B := by
      have : (-T + 1) * SW (lw c) A B = -((T - 1) * SW (lw c) A B) := by rw [← Int.neg_mul]; congr 1; omega
      omega
    by_cases hb : ∃ x ∈ A, x < c
    · obtain ⟨d, hd, hdc, hdm⟩ := exists_below A c hb
      refine List.any_eq_true.2 ⟨d, hd, decide_eq_true ?_⟩
      have e2 := sx_congr (A := A) (B := B) (q := loww d) (q' := lw c) (fun x hx b => by
        unfold loww lw
        by_cases hxc : x < c
        · have := hdm x hx hxc; rw [if_neg (by omega), if_pos hxc]
        · rw [if_pos (by omega), if_neg hxc])
      rw [e2.1, e2.2]; exact h2
    · have hge : ∀ x ∈ A, c ≤ x := fun x hx => Decidable.byContradiction fun hc => hb ⟨x, hx, by omega⟩
      have e2 := sx_congr (A := A) (B := B) (q := lw c) (q' := low) (fun x hx b => if_neg (by have := hge x hx; omega))
      rw [e2.1, e2.2] at h2
      have h3 := sx_ge (q := low) h.len (fun x b hb => h.pos b hb) hge
      have h4 : c < -T + 1 := by
        refine Decidable.byContradiction fun hc => ?_
        have : (-T + 1) * SW low A B ≤ c * SW low A B := Int.mul_le_mul_of_nonneg_right (by omega) (by omega)
        omega
      refine List.any_eq_true.2 ⟨c, hc, decide_eq_true ?_⟩
      obtain ⟨D, d0, d1, d2⟩ := sx_least h.len h.ord hge
      rw [d1, d2, Int.mul_add]
      have : D * c ≤ (-T + 1) * D := by rw [Int.mul_comm D c]; exact Int.mul_le_mul_of_nonneg_right (by omega) d0
      omega

theorem loww_bd {A : List Int} {B : List BQ} (h : Tame A B) (c x : Int) {b : BQ} (hb : b ∈ B) : 0 ≤ loww c x b ∧ loww c x b ≤ 1099511627776 := by
  have h1 := h.pos b hb
  have h2 := h.ord b hb
  have h3 := h.most b hb
  unfold loww; split <;> omega

theorem sx_bd {A : List Int} {B : List BQ} (hl : A.length = B.length) {q : Int → BQ → Int} (hq : ∀ x b, b ∈ B → 0 ≤ q x b ∧ q x b ≤ 1099511627776) (hp : ∀ x ∈ A, -8192 ≤ x ∧ x ≤ 8192) :
    0 ≤ SW q A B ∧ SW q A B ≤ 1099511627776 * A.length ∧ -(9007199254740992 * A.length) ≤ SX q A B ∧ SX q A B ≤ 9007199254740992 * A.length := by
  induction A generalizing B with
  | nil => cases B with
    | nil => simp [SX, SW]
    | cons b bs => cases hl
  | cons x xs ih => cases B with
    | nil => cases hl
    | cons b bs =>
      have h1 := ih (B := bs) (by simpa using hl) (fun x c hc => hq x c (List.mem_cons_of_mem _ hc)) (fun y hy => hp y (List.mem_cons_of_mem _ hy))
      have h2 := hq x b List.mem_cons_self
      have h3 := hp x List.mem_cons_self
      have h4 := mul_bd h2.1 h2.2 h3.1 h3.2
      simp only [SX, SW, List.length_cons]
      omega

/-- The inner loop of the law: the two means at a cut. -/
theorem law_inner {A : List Int} {B : List BQ} (h : Tame A B) (hf : A.length ≤ 12) (hi lo : Int) (hhi : -8192 ≤ hi ∧ hi ≤ 8192) (hlo : -8192 ≤ lo ∧ lo ≤ 8192) (c : Int) (x10 x11 : Bool) (C : List Int) (x78 x79 : Int) {r : Bool} (d : Nat) :
    ∀ (i : Nat) (s w s' w' : Int), A.length = i + d → -(9007199254740992 * i) ≤ s → s ≤ 9007199254740992 * i → 0 ≤ w → w ≤ 1099511627776 * i → -(9007199254740992 * i) ≤ s' → s' ≤ 9007199254740992 * i → 0 ≤ w' → w' ≤ 1099511627776 * i →
    Ev (fun k => spykeep4_MeasureTight.l1 k A B (x10 || decide (s + SX (hiw c) (A.drop i) (B.drop i) > (hi - 1) * (w + SW (hiw c) (A.drop i) (B.drop i)))) (x11 || decide (s' + SX (loww c) (A.drop i) (B.drop i) < (lo + 1) * (w' + SW (loww c) (A.drop i) (B.drop i)))) C x78 (wrap64 (x79 + 1)) lo hi false) r →
    Ev (fun k => spykeep4_MeasureTight.l2 k A B x10 x11 c s w s' w' C x78 x79 A (A.length : Int) (i : Int) lo hi false) r := by
  have hlen := h.len
  induction d with
  | zero =>
    intro i s w s' w' hi' s1 s2 w1 w2 s1' s2' w1' w2' hr
    have eA : A.drop i = [] := List.drop_eq_nil_of_le (by omega)
    have eB : B.drop i = [] := List.drop_eq_nil_of_le (by omega)
    rw [eA, eB] at hr
    simp only [SX, SW, Int.add_zero] at hr
    refine Ev.step (fun k => by rw [spykeep4_MeasureTight.l2]) ?_
    refine Ev.neg (by omega) ?_
    have b1 : (hi - 1) * w ≤ 8192 * w := Int.mul_le_mul_of_nonneg_right (by omega) w1
    have b2 : (-8193) * w ≤ (hi - 1) * w := Int.mul_le_mul_of_nonneg_right (by omega) w1
    have b3 : (lo + 1) * w' ≤ 8193 * w' := Int.mul_le_mul_of_nonneg_right (by omega) w1'
    have b4 : (-8192) * w' ≤ (lo + 1) * w' := Int.mul_le_mul_of_nonneg_right (by omega) w1'
    rw [wr (n := hi - 1) (by omega) (by omega), wr (n := lo + 1) (by omega) (by omega), wr (n := (hi - 1) * w) (by omega) (by omega), wr (n := (lo + 1) * w') (by omega) (by omega)]
    cases x10 <;> cases x11 <;> simp only [Bool.false_eq_true, if_false, if_true, Bool.true_or, Bool.false_or] at hr ⊢ <;> exact hr
  | succ d ih =>
    intro i s w s' w' hi' s1 s2 w1 w2 s1' s2' w1' w2' hr
    have hiA : i < A.length := by omega
    have hiB : i < B.length := by omega
    have ma : A[i] ∈ A := List.getElem_mem hiA
    have mb : B[i] ∈ B := List.getElem_mem hiB
    have hp := h.place _ ma
    have hq := hiw_bd h c A[i] mb
    have hm := mul_bd hq.1 hq.2 hp.1 hp.2
    have hq' := loww_bd h c A[i] mb
    have hm' := mul_bd hq'.1 hq'.2 hp.1 hp.2
    rw [List.drop_eq_getElem_cons hiA, List.drop_eq_getElem_cons hiB] at hr
    simp only [SX, SW] at hr
    simp only [← Int.add_assoc] at hr
    refine Ev.step (fun k => by rw [spykeep4_MeasureTight.l2]) ?_
    refine Ev.pos (by omega) (Ev.pos (by omega) (Ev.pos (by omega) (Ev.pos (by omega) ?_)))
    rw [rd_at A i hiA, rdB_at B i hiB]
    have key := ih (i + 1) (s + hiw c A[i] B[i] * A[i]) (w + hiw c A[i] B[i]) (s' + loww c A[i] B[i] * A[i]) (w' + loww c A[i] B[i]) (by omega) (by omega) (by omega) (by omega) (by omega) (by omega) (by omega) (by omega) (by omega) hr
    by_cases hc : A[i] > c
    · refine Ev.pos hc ?_
      have e : hiw c A[i] B[i] = B[i].f1 := if_pos hc
      have e' : loww c A[i] B[i] = B[i].f0 := if_pos hc
      rw [e] at key hm hq
      rw [e'] at key hm' hq'
      rw [wr (n := B[i].f1 * A[i]) (by omega) (by omega), wr (n := B[i].f0 * A[i]) (by omega) (by omega), wr (n := s + _) (by omega) (by omega), wr (n := w + _) (by omega) (by omega), wr (n := s' + _) (by omega) (by omega), wr (n := w' + _) (by omega) (by omega), wr (n := (i : Int) + 1) (by omega) (by omega)]
      exact key
    · refine Ev.neg hc ?_
      have e : hiw c A[i] B[i] = B[i].f0 := if_neg hc
      have e' : loww c A[i] B[i] = B[i].f1 := if_neg hc
      rw [e] at key hm hq
      rw [e'] at key hm' hq'
      rw [wr (n := B[i].f0 * A[i]) (by omega) (by omega), wr (n := B[i].f1 * A[i]) (by omega) (by omega), wr (n := s + _) (by omega) (by omega), wr (n := w + _) (by omega) (by omega), wr (n := s' + _) (by omega) (by omega), wr (n := w' + _) (by omega) (by omega), wr (n := (i : Int) + 1) (by omega) (by omega)]
      exact key

theorem law_outer {A : List Int} {B : List BQ} (h : Tame A B) (hf : A.length ≤ 12) (hi lo : Int) (hhi : -8192 ≤ hi ∧ hi ≤ 8192) (hlo : -8192 ≤ lo ∧ lo ≤ 8192) (d : Nat) :
    ∀ (i : Nat) (x10 x11 : Bool), A.length = i + d → Ev (fun k => spykeep4_MeasureTight.l1 k A B x10 x11 A (A.length : Int) (i : Int) lo hi false) ((x10 || (A.drop i).any (Phi A B hi)) && (x11 || (A.drop i).any (Psi A B lo))) := by
  have hlen := h.len
  induction d with
  | zero =>
    intro i x10 x11 hi'
    have eA : A.drop i = [] := List.drop_eq_nil_of_le (by omega)
    rw [eA]
    refine Ev.step (fun k => by rw [spykeep4_MeasureTight.l1]) ?_
    refine Ev.neg (by omega) ?_
    cases x10 <;> simp only [Bool.false_eq_true, if_false, if_true, List.any_nil, Bool.or_false, Bool.false_and, Bool.true_and] <;> exact Ev.now _
  | succ d ih =>
    intro i x10 x11 hi'
    have hiA : i < A.length := by omega
    refine Ev.step (fun k => by rw [spykeep4_MeasureTight.l1]) ?_
    refine Ev.pos (by omega) (Ev.pos (by omega) (Ev.pos (by omega) ?_))
    rw [rd_at A i hiA]
    refine law_inner h hf hi lo hhi hlo A[i] x10 x11 A _ _ A.length 0 0 0 0 0 (by omega) (by omega) (by omega) (by omega) (by omega) (by omega) (by omega) (by omega) (by omega) ?_
    rw [wr (n := (i : Int) + 1) (by omega) (by omega)]
    simp only [List.drop_zero, Int.zero_add]
    have key := ih (i + 1) (x10 || Phi A B hi A[i]) (x11 || Psi A B lo A[i]) (by omega)
    rw [List.drop_eq_getElem_cons hiA, List.any_cons, List.any_cons, ← Bool.or_assoc, ← Bool.or_assoc]
    exact key

/-- What the law's first loop has made after i rounds. -/
structure Made (A : List Int) (B : List BQ) (i : Nat) : Prop where
  la : A.length = i
  lb : B.length = i
  place : ∀ x ∈ A, 0 ≤ x ∧ x < 8192
  fine : ∀ b ∈ B, 0 ≤ b.f0 ∧ b.f0 ≤ b.f1 ∧ b.f1 ≤ 1000 ∧ b.f2 = false
  first : 0 < i → ∃ b ∈ B, 1 ≤ b.f0

theorem Made.step {A : List Int} {B : List BQ} {i : Nat} (h : Made A B i) {x : Int} {b : BQ} (hx : 0 ≤ x ∧ x < 8192) (hb : 0 ≤ b.f0 ∧ b.f0 ≤ b.f1 ∧ b.f1 ≤ 1000 ∧ b.f2 = false) (h1 : i = 0 → 1 ≤ b.f0) : Made (A ++ [x]) (B ++ [b]) (i + 1) where
  la := by simp [h.la]
  lb := by simp [h.lb]
  place := by
    intro y hy
    rcases List.mem_append.1 hy with hy | hy
    · exact h.place y hy
    · rcases List.mem_cons.1 hy with rfl | hy
      · exact hx
      · cases hy
  fine := by
    intro y hy
    rcases List.mem_append.1 hy with hy | hy
    · exact h.fine y hy
    · rcases List.mem_cons.1 hy with rfl | hy
      · exact hb
      · cases hy
  first := by
    intro _
    by_cases hi : i = 0
    · exact ⟨b, List.mem_append.2 (.inr List.mem_cons_self), h1 hi⟩
    · obtain ⟨c, hc, h2⟩ := h.first (by omega)
      exact ⟨c, List.mem_append.2 (.inl hc), h2⟩

theorem law_end {A : List Int} {B : List BQ} {n : Nat} (h : Made A B n) (h1 : 1 ≤ n) (h2 : n ≤ 12) (L : List Int) (s : Int) :
    Ev (fun k => spykeep4_MeasureTight.l0 k A B (n : Int) (n : Int) L s) true := by
  have ht : Tame A B := ⟨by rw [h.la, h.lb], by have := h.la; omega, fun x hx => by have := h.place x hx; omega, fun b hb => (h.fine b hb).1, fun b hb => (h.fine b hb).2.1, fun b hb => by have := (h.fine b hb).2.2.1; omega⟩
  have hne : A ≠ [] := by intro e; have := h.la; rw [e] at this; simp at this; omega
  have hs := h.first (by omega)
  obtain ⟨g1, g2, g3⟩ := tight ht hne hs
  obtain ⟨c, hc, ec⟩ := most_real ht hne hs
  have hnn : negs A ≠ [] := by cases A with
    | nil => exact absurd rfl hne
    | cons x xs => simp [negs]
  obtain ⟨c', hc', ec'⟩ := most_real (negs_tame ht) hnn hs
  have b1 := cutMean_bd ht hs c
  have b2 := cutMean_bd (negs_tame ht) hs c'
  rw [← ec] at b1
  rw [← ec'] at b2
  refine Ev.step (fun k => by rw [spykeep4_MeasureTight.l0]) ?_
  refine Ev.neg (by omega) ?_
  refine Ev.bind (mean_ok ht (fun b hb => (h.fine b hb).2.2.2) h.place hs (by omega)) (Ev.bind weighed_ok ?_)
  simp only [if_true, Bool.false_eq_true, if_false]
  rw [decide_eq_false (show ¬ (-most (negs A) B (negs A) least > most A B A least) by omega)]
  refine Ev.step (fun k => by rw [spykeep4_MeasureTight.j1]) ?_
  simp only [Bool.false_eq_true, if_false]
  have key := law_outer ht (by have := h.la; omega) (most A B A least) (-most (negs A) B (negs A) least) (by omega) (by omega) A.length 0 false false (by omega)
  simp only [List.drop_zero, Bool.false_or, g2, g3, Bool.and_self] at key
  exact key

theorem law_loop (L : List Int) (n : Nat) (h1 : 1 ≤ n) (h2 : n ≤ 12) (d : Nat) : ∀ (i : Nat) (A : List Int) (B : List BQ) (s : Int), n = i + d → Made A B i → 0 ≤ s → s ≤ 1000 + 4 * i →
    Ev (fun k => spykeep4_MeasureTight.l0 k A B (n : Int) (i : Int) L s) true := by
  induction d with
  | zero =>
    intro i A B s hi hm _ _
    obtain rfl : n = i := by omega
    exact law_end hm h1 h2 L s
  | succ d ih =>
    intro i A B s hi hm s0 s1
    obtain ⟨v1, e1, a1, b1⟩ := next_ok L s 4 s0 (by omega) (by omega) (by omega)
    obtain ⟨v2, e2, a2, b2⟩ := next_ok L (s + 1) 60 (by omega) (by omega) (by omega) (by omega)
    obtain ⟨v3, e3, a3, b3⟩ := next_ok L (s + 1 + 1) 8192 (by omega) (by omega) (by omega) (by omega)
    obtain ⟨v4, e4, a4, b4⟩ := next_ok L (s + 1 + 1 + 1) 200 (by omega) (by omega) (by omega) (by omega)
    have p0 : 0 ≤ v1 * v2 := Int.mul_nonneg a1 a2
    have p1 : v1 * v2 ≤ 3 * v2 := Int.mul_le_mul_of_nonneg_right (by omega) a2
    have hla := hm.la
    have hlb := hm.lb
    refine Ev.step (fun k => by rw [spykeep4_MeasureTight.l0]) ?_
    refine Ev.pos (by omega) (Ev.some_bind e1 (Ev.some_bind e2 ?_))
    by_cases h0 : (i : Int) = 0
    · refine Ev.pos h0 (Ev.some_bind e3 (Ev.pos (by omega) (Ev.some_bind e4 (Ev.pos (by omega) ?_))))
      simp only []
      rw [wr (n := v1 * v2) (by omega) (by omega), wr (n := v1 * v2 + 1) (by omega) (by omega), wr (n := v1 * v2 + 1 + v4) (by omega) (by omega), wr (n := (i : Int) + 1) (by omega) (by omega)]
      exact ih (i + 1) _ _ _ (by omega) (hm.step ⟨a3, b3⟩ ⟨by simp only []; omega, by simp only []; omega, by simp only []; omega, rfl⟩ (fun _ => by simp only []; omega)) (by omega) (by omega)
    · refine Ev.neg h0 (Ev.some_bind e3 (Ev.pos (by omega) (Ev.some_bind e4 (Ev.pos (by omega) ?_))))
      simp only []
      rw [wr (n := v1 * v2) (by omega) (by omega), wr (n := v1 * v2 + v4) (by omega) (by omega), wr (n := (i : Int) + 1) (by omega) (by omega)]
      exact ih (i + 1) _ _ _ (by omega) (hm.step ⟨a3, b3⟩ ⟨by simp only []; omega, by simp only []; omega, by simp only []; omega, rfl⟩ (fun e => by omega)) (by omega) (by omega)

theorem MeasureTight : spykeep4_MeasureTight.Pure := by
  intro L _ _ _
  obtain ⟨n, e, n1, n2⟩ := range_ok L 0 1 12 (by omega) (by omega) (by omega) (by omega) (by omega)
  obtain ⟨m, rfl⟩ := Int.eq_ofNat_of_zero_le (show 0 ≤ n by omega)
  refine Ev.rounds (g := fun k => spykeep4_MeasureTight.f k L) ?_
  unfold spykeep4_MeasureTight.f
  refine Ev.some_bind e ?_
  exact law_loop L m (by omega) (by omega) m 0 [] [] (0 + 1) (by omega) ⟨rfl, rfl, (fun x hx => by cases hx), (fun b hb => by cases hb), (fun h => by omega)⟩ (by omega) (by omega)
end Go.Proofs.Ytgmdmghpmmcaeaa.Pure
