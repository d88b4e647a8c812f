import Derived.Test.YtgmdmghpmmcaeaaLstream
namespace Go.Proofs.Ytgmdmghpmmcaeaa.Pure
open Go.RowKit Go.Proofs.Ytgmdmghpmmcaeaa.PMeasureTight Go.Proofs.YtgmdmghpmmcaeaaW.PrintWords Go.Proofs.YtgmdmghpmmcaeaaW.PrintLast Go.Proofs.YtgmdmghpmmcaeaaW.PrintMore
set_option linter.unusedVariables false

abbrev BQ := S33
theorem rd_at (A : List Int) (i : Nat) (h : i < A.length) : rd A (i : Int) = A[i] := by
  unfold rd; simp [h]
theorem rdB_at (A : List BQ) (i : Nat) (h : i < A.length) : rd_T33 A (i : Int) = A[i] := by
  unfold rd_T33; simp [h]

/-- The weight that makes the mean great: all that lies beyond the cut counts as much as it can. -/
def hiw (c x : Int) (b : BQ) : Int := if x > c then b.f1 else b.f0
def SX (q : Int → BQ → Int) : List Int → List BQ → Int
  | x :: xs, b :: bs => q x b * x + SX q xs bs
  | _, _ => 0
def SW (q : Int → BQ → Int) : List Int → List BQ → Int
  | x :: xs, b :: bs => q x b + SW q xs bs
  | _, _ => 0
def ceil (a b : Int) : Int := if Int.tmod a b > 0 then Int.tdiv a b + 1 else Int.tdiv a b

theorem ceil_spec (a b : Int) (hb : 1 ≤ b) : a ≤ ceil a b * b ∧ (ceil a b - 1) * b < a := by
  have h1 := Int.mul_tdiv_add_tmod a b
  have h2 := Int.tmod_lt_of_pos a (b := b) (by omega)
  have h3 := Int.lt_tmod_of_pos a (b := b) (by omega)
  have e : Int.tdiv a b * b = b * Int.tdiv a b := Int.mul_comm _ _
  unfold ceil
  split
  · rw [Int.add_sub_cancel, Int.add_mul, e]; omega
  · rw [Int.sub_mul, e]; omega
theorem ceil_le {a b n : Int} (hb : 1 ≤ b) (h : a ≤ n * b) : ceil a b ≤ n := by
  have h1 := (ceil_spec a b hb).2
  refine Decidable.byContradiction fun hc => ?_
  have : n * b ≤ (ceil a b - 1) * b := Int.mul_le_mul_of_nonneg_right (by omega) (by omega)
  omega
theorem ceil_lt {a b n : Int} (hb : 1 ≤ b) (h : n * b < a) : n < ceil a b := by
  have h1 := (ceil_spec a b hb).1
  refine Decidable.byContradiction fun hc => ?_
  have : ceil a b * b ≤ n * b := Int.mul_le_mul_of_nonneg_right (by omega) (by omega)
  omega
theorem ceilDiv_ok {a b : Int} (hb : 1 ≤ b) (h1 : -4611686018427387904 ≤ a) (h2 : a ≤ 4611686018427387904) : num_CeilDiv.f a b = some (ceil a b) := by
  have hd : -4611686018427387904 ≤ Int.tdiv a b ∧ Int.tdiv a b ≤ 4611686018427387904 := by
    have := Int.natAbs_tdiv_le_natAbs a b
    omega
  unfold num_CeilDiv.f ceil
  rw [if_neg (by omega), if_neg (by omega), wr (n := Int.tdiv a b) (by omega) (by omega)]
  split
  · rw [wr (by omega) (by omega)]
  · rfl

/-- Bounds under which nothing of a mean wraps. -/
structure Tame (A : List Int) (B : List BQ) : Prop where
  len : A.length = B.length
  few : A.length ≤ 64
  place : ∀ x ∈ A, -8192 ≤ x ∧ x ≤ 8192
  pos : ∀ b ∈ B, 0 ≤ b.f0
  ord : ∀ b ∈ B, b.f0 ≤ b.f1
  most : ∀ b ∈ B, b.f1 ≤ 1099511627776

theorem mul_bd {a x M : Int} (ha : 0 ≤ a) (hM : a ≤ M) (h1 : -8192 ≤ x) (h2 : x ≤ 8192) : -(M * 8192) ≤ a * x ∧ a * x ≤ M * 8192 := by
  have h3 : a * x ≤ a * 8192 := Int.mul_le_mul_of_nonneg_left h2 ha
  have h4 : a * (-8192) ≤ a * x := Int.mul_le_mul_of_nonneg_left h1 ha
  omega

theorem hiw_bd {A : List Int} {B : List BQ} (h : Tame A B) (c x : Int) {b : BQ} (hb : b ∈ B) : 0 ≤ hiw c x b ∧ hiw c x b ≤ 1099511627776 := by
  have h1 := h.pos b hb
  have h2 := h.ord b hb
  have h3 := h.most b hb
  unfold hiw; split <;> omega

theorem greatest_inner {A : List Int} {B : List BQ} (h : Tame A B) (c m x14 x15 : Int) (x13 : List Int) {r : Int} (d : Nat) : ∀ (i : Nat) (s w : Int), A.length = i + d → -(9007199254740992 * i) ≤ s → s ≤ 9007199254740992 * i → 0 ≤ w → w ≤ 1099511627776 * i →
    (1 ≤ w + SW (hiw c) (A.drop i) (B.drop i)) →
    Ev (fun k => measure_greatest.l0 k A B (mx m (ceil (s + SX (hiw c) (A.drop i) (B.drop i)) (w + SW (hiw c) (A.drop i) (B.drop i)))) x13 x14 (wrap64 (x15 + 1))) r →
    Ev (fun k => measure_greatest.l1 k A B m c s w x13 x14 x15 B (B.length : Int) (i : Int)) r := by
  have hlen := h.len
  have hfew := h.few
  induction d with
  | zero =>
    intro i s w hi s1 s2 w1 w2 hw hr
    rw [List.drop_eq_nil_of_le (by omega), List.drop_eq_nil_of_le (by omega)] at hr hw
    simp only [SX, SW, Int.add_zero] at hr hw
    refine Ev.step (fun k => by rw [measure_greatest.l1]) ?_
    refine Ev.neg (by omega) ?_
    exact Ev.some_bind (ceilDiv_ok hw (by omega) (by omega)) hr
  | succ d ih =>
    intro i s w hi s1 s2 w1 w2 hw hr
    have hiA : i < A.length := by omega
    have hiB : i < B.length := by omega
    have ma : A[i] ∈ A := List.getElem_mem hiA
    have mb : B[i] ∈ B := List.getElem_mem hiB
    have hp := h.place _ ma
    have hq := hiw_bd h c A[i] mb
    have hm := mul_bd hq.1 hq.2 hp.1 hp.2
    have hpos := h.pos _ mb
    have hord := h.ord _ mb
    have hmost := h.most _ mb
    rw [List.drop_eq_getElem_cons hiA, List.drop_eq_getElem_cons hiB] at hr hw
    simp only [SX, SW] at hr hw
    rw [← Int.add_assoc, ← Int.add_assoc] at hr
    rw [← Int.add_assoc] at hw
    refine Ev.step (fun k => by rw [measure_greatest.l1]) ?_
    refine Ev.pos (by omega) (Ev.pos (by omega) (Ev.pos (by omega) (Ev.pos (by omega) ?_)))
    rw [rd_at A i hiA, rdB_at B i hiB]
    have key := ih (i + 1) (s + hiw c A[i] B[i] * A[i]) (w + hiw c A[i] B[i]) (by omega) (by omega) (by omega) (by omega) (by omega) hw hr
    by_cases hc : A[i] > c
    · refine Ev.pos hc ?_
      have e : hiw c A[i] B[i] = B[i].f1 := if_pos hc
      rw [e] at key hm
      rw [wr (n := B[i].f1 * A[i]) (by omega) (by omega), wr (n := s + _) (by omega) (by omega), wr (n := w + _) (by omega) (by omega), wr (n := (i : Int) + 1) (by omega) (by omega)]
      exact key
    · refine Ev.neg hc ?_
      have e : hiw c A[i] B[i] = B[i].f0 := if_neg hc
      rw [e] at key hm
      rw [wr (n := B[i].f0 * A[i]) (by omega) (by omega), wr (n := s + _) (by omega) (by omega), wr (n := w + _) (by omega) (by omega), wr (n := (i : Int) + 1) (by omega) (by omega)]
      exact key

/-- The mean at a cut. -/
def cutMean (A : List Int) (B : List BQ) (c : Int) : Int := ceil (SX (hiw c) A B) (SW (hiw c) A B)
def most (A : List Int) (B : List BQ) : List Int → Int → Int
  | [], m => m
  | c :: cs, m => most A B cs (mx m (cutMean A B c))

theorem greatest_outer {A : List Int} {B : List BQ} (h : Tame A B) (hW : ∀ c, 1 ≤ SW (hiw c) A B) (C : List Int) (hC : C.length ≤ 64) (d : Nat) : ∀ (i : Nat) (m : Int), C.length = i + d →
    Ev (fun k => measure_greatest.l0 k A B m C (C.length : Int) (i : Int)) (most A B (C.drop i) m) := by
  induction d with
  | zero =>
    intro i m hi
    rw [List.drop_eq_nil_of_le (by omega)]
    refine Ev.step (fun k => by rw [measure_greatest.l0]) ?_
    exact Ev.neg (by omega) (Ev.now _)
  | succ d ih =>
    intro i m hi
    have hiC : i < C.length := by omega
    rw [List.drop_eq_getElem_cons hiC]
    refine Ev.step (fun k => by rw [measure_greatest.l0]) ?_
    refine Ev.pos (by omega) (Ev.pos (by omega) (Ev.pos (by omega) ?_))
    rw [rd_at C i hiC]
    refine greatest_inner h C[i] m C.length i C A.length 0 0 0 (by omega) (by omega) (by omega) (by omega) (by omega) (by simpa using hW _) ?_
    rw [wr (n := (i : Int) + 1) (by omega) (by omega)]
    simp only [List.drop_zero, Int.zero_add]
    exact ih (i + 1) (mx m (cutMean A B C[i])) (by omega)

theorem greatest_ok {A : List Int} {B : List BQ} (h : Tame A B) (hW : ∀ c, 1 ≤ SW (hiw c) A B) : Ev (fun k => measure_greatest.f k A B) (most A B A (-4611686018427387904)) := by
  have := greatest_outer h hW A h.few A.length 0 (-4611686018427387904) (by omega)
  simpa [measure_greatest.f] using this

theorem most_ge (A : List Int) (B : List BQ) (C : List Int) : ∀ m, m ≤ most A B C m := by
  induction C with
  | nil => intro m; exact Int.le_refl _
  | cons c cs ih => intro m; exact Int.le_trans (by unfold mx; split <;> omega) (ih _)
theorem most_mem (A : List Int) (B : List BQ) (C : List Int) : ∀ m c, c ∈ C → cutMean A B c ≤ most A B C m := by
  induction C with
  | nil => intro m c hc; cases hc
  | cons x cs ih =>
    intro m c hc
    rcases List.mem_cons.1 hc with rfl | hc
    · exact Int.le_trans (by unfold mx; split <;> omega) (most_ge A B cs _)
    · exact ih _ c hc
theorem most_is (A : List Int) (B : List BQ) (C : List Int) : ∀ m, most A B C m = m ∨ ∃ c, c ∈ C ∧ most A B C m = cutMean A B c := by
  induction C with
  | nil => intro m; exact .inl rfl
  | cons x cs ih =>
    intro m
    rcases ih (mx m (cutMean A B x)) with h | ⟨c, hc, h⟩
    · by_cases hlt : m < cutMean A B x
      · exact .inr ⟨x, List.mem_cons_self, by rw [most, h]; exact if_pos hlt⟩
      · exact .inl (by rw [most, h]; exact if_neg hlt)
    · exact .inr ⟨c, List.mem_cons_of_mem _ hc, by rw [most, h]⟩

theorem check_ok (b : BQ) (h2 : b.f2 = false) (h : b.f0 ≤ b.f1) (h3 : -1152921504606846976 ≤ b.f0) (h4 : b.f1 ≤ 1152921504606846976) : Ev (fun k => bound_Check_api_Quanta.f k b.f0 b.f1 b.f2) 0 := by
  rw [h2]
  unfold bound_Check_api_Quanta.f
  simp only [Bool.false_eq_true, if_false]
  have hmn : mn b.f0 b.f1 = b.f0 := by unfold mn; split <;> omega
  have hmx : mx b.f0 b.f1 = b.f1 := by unfold mx; split <;> omega
  refine Ev.step (fun k => by rw [bound_Check_api_Quanta.j0]) ?_
  simp only [Bool.false_eq_true, if_false, hmn, hmx]
  refine Ev.neg (by omega) ?_
  rw [decide_eq_false (by omega)]
  refine Ev.step (fun k => by rw [bound_Check_api_Quanta.j1]) ?_
  simp only [Bool.false_eq_true, if_false]
  exact Ev.neg (by omega) (Ev.now _)

def anyPos (B : List BQ) : Bool := B.any fun b => decide (b.f0 > 0)

theorem mean_l0 {A : List Int} {B : List BQ} (h : Tame A B) (hk : ∀ b ∈ B, b.f2 = false) (hA : ∀ x ∈ A, 0 ≤ x ∧ x < 8192) {r : Int × Int × Bool × Int} (d : Nat) :
    ∀ (i : Nat) (s : Bool), B.length = i + d → Ev (fun k => measure_Mean.j1 k A B (!(s || anyPos (B.drop i)))) r →
    Ev (fun k => measure_Mean.l0 k A B s true B (B.length : Int) (i : Int)) r := by
  have hlen := h.len
  have hfew := h.few
  induction d with
  | zero =>
    intro i s hi hr
    rw [List.drop_eq_nil_of_le (by omega)] at hr
    simp only [anyPos, List.any_nil, Bool.or_false] at hr
    refine Ev.step (fun k => by rw [measure_Mean.l0]) ?_
    refine Ev.neg (by omega) ?_
    cases s
    · simp only [Bool.false_eq_true, if_false]; exact hr
    · simp only [if_true]; exact hr
  | succ d ih =>
    intro i s hi hr
    have hiB : i < B.length := by omega
    have hiA : i < A.length := by omega
    have mb : B[i] ∈ B := List.getElem_mem hiB
    have ma : A[i] ∈ A := List.getElem_mem hiA
    have h0 := h.pos _ mb
    have h1 := h.ord _ mb
    have h2 := h.most _ mb
    have ha := hA _ ma
    have hkb := hk _ mb
    rw [List.drop_eq_getElem_cons hiB] at hr
    simp only [anyPos, List.any_cons] at hr
    rw [← Bool.or_assoc] at hr
    have key := ih (i + 1) (s || decide (B[i].f0 > 0)) (by omega) hr
    refine Ev.step (fun k => by rw [measure_Mean.l0]) ?_
    refine Ev.pos (by omega) (Ev.pos (by omega) (Ev.pos (by omega) ?_))
    rw [rd_at A i hiA, rdB_at B i hiB]
    refine Ev.bind (check_ok B[i] hkb h1 (by omega) (by omega)) ?_
    simp only [if_true]
    refine Ev.neg (by omega) (Ev.neg (by omega) (Ev.pos (by omega) (Ev.neg (by omega) (Ev.neg (by omega) ?_))))
    rw [wr (n := (i : Int) + 1) (by omega) (by omega), hkb]
    cases s
    · simp only [Bool.false_or] at key
      simp only [Bool.false_eq_true, if_false]
      exact key
    · simp only [Bool.true_or] at key
      simp only [if_true]
      exact key

def negs (A : List Int) : List Int := A.map fun x => -x

theorem mean_l1 {A : List Int} {B : List BQ} (h : Tame A B) {r : Int × Int × Bool × Int} (d : Nat) : ∀ (i : Nat), A.length = i + d →
    Ev (fun k => (measure_greatest.f k (negs A) B).bind fun t => (measure_greatest.f k A B).bind fun u => some (wrap64 (-t), u, false, 0)) r →
    Ev (fun k => measure_Mean.l1 k A B (negs (A.take i)) A (A.length : Int) (i : Int)) r := by
  have hfew := h.few
  induction d with
  | zero =>
    intro i hi hr
    refine Ev.step (fun k => by rw [measure_Mean.l1]) ?_
    refine Ev.neg (by omega) ?_
    rw [List.take_of_length_le (by omega)]
    exact hr
  | succ d ih =>
    intro i hi hr
    have hiA : i < A.length := by omega
    have ha := h.place _ (List.getElem_mem hiA)
    refine Ev.step (fun k => by rw [measure_Mean.l1]) ?_
    refine Ev.pos (by omega) (Ev.pos (by omega) (Ev.pos (by omega) (Ev.pos (by simp [negs]; omega) ?_)))
    rw [rd_at A i hiA, wr (n := (i : Int) + 1) (by omega) (by omega), wr (n := -A[i]) (by omega) (by omega)]
    have e : negs (A.take i) ++ [-A[i]] = negs (A.take (i + 1)) := by
      unfold negs; rw [List.take_succ_eq_append_getElem hiA, List.map_append]; rfl
    rw [e]
    exact ih (i + 1) (by omega) hr

theorem negs_tame {A : List Int} {B : List BQ} (h : Tame A B) : Tame (negs A) B where
  len := by simp [negs, h.len]
  few := by simp [negs, h.few]
  place := by
    intro x hx
    obtain ⟨y, hy, rfl⟩ := List.mem_map.1 hx
    have := h.place y hy
    omega
  pos := h.pos
  ord := h.ord
  most := h.most

theorem sw_pos {A : List Int} {B : List BQ} (hl : A.length = B.length) (q : Int → BQ → Int) (hq : ∀ x b, b ∈ B → b.f0 ≤ q x b) (h0 : ∀ b ∈ B, 0 ≤ b.f0) : 0 ≤ SW q A B ∧ ((∃ b ∈ B, 1 ≤ b.f0) → 1 ≤ SW q A B) := by
  induction A generalizing B with
  | nil => cases B with
    | nil => exact ⟨Int.le_refl _, fun ⟨b, hb, _⟩ => by cases hb⟩
    | cons b bs => cases hl
  | cons x xs ih => cases B with
    | nil => cases hl
    | cons b bs =>
      have h1 := ih (B := bs) (by simpa using hl) (fun x c hc => hq x c (List.mem_cons_of_mem _ hc)) (fun c hc => h0 c (List.mem_cons_of_mem _ hc))
      have h2 := hq x b List.mem_cons_self
      have h3 := h0 b List.mem_cons_self
      simp only [SW]
      refine ⟨by omega, fun ⟨c, hc, hc1⟩ => ?_⟩
      rcases List.mem_cons.1 hc with rfl | hc
      · omega
      · have := h1.2 ⟨c, hc, hc1⟩
        omega

theorem hiw_ge {A : List Int} {B : List BQ} (h : Tame A B) (c : Int) : ∀ x b, b ∈ B → b.f0 ≤ hiw c x b := by
  intro x b hb
  have := h.ord b hb
  unfold hiw; split <;> omega

def least : Int := -4611686018427387904
/-- The mean of places whose weights are known within bounds, where one weight is surely positive. -/
theorem mean_ok {A : List Int} {B : List BQ} (h : Tame A B) (hk : ∀ b ∈ B, b.f2 = false) (hA : ∀ x ∈ A, 0 ≤ x ∧ x < 8192) (hs : ∃ b ∈ B, 1 ≤ b.f0)
    (hm : -4611686018427387904 ≤ most (negs A) B (negs A) least ∧ most (negs A) B (negs A) least ≤ 4611686018427387904) :
    Ev (fun k => measure_Mean.f k A B) (-most (negs A) B (negs A) least, most A B A least, false, 0) := by
  have hlen := h.len
  have hfew := h.few
  have hW : ∀ c, 1 ≤ SW (hiw c) A B := fun c => (sw_pos h.len _ (hiw_ge h c) h.pos).2 hs
  have hn := negs_tame h
  have hW' : ∀ c, 1 ≤ SW (hiw c) (negs A) B := fun c => (sw_pos hn.len _ (hiw_ge hn c) hn.pos).2 hs
  unfold measure_Mean.f
  refine Ev.pos (by omega) (Ev.neg (by omega) ?_)
  refine mean_l0 h hk hA B.length 0 false (by omega) ?_
  have e : anyPos (B.drop 0) = true := by
    obtain ⟨b, hb, h1⟩ := hs
    rw [List.drop_zero]
    exact List.any_eq_true.2 ⟨b, hb, decide_eq_true (by omega)⟩
  rw [e]
  refine Ev.step (fun k => by rw [measure_Mean.j1]) ?_
  simp only [Bool.or_true, Bool.not_true, Bool.false_eq_true, if_false]
  refine mean_l1 h A.length 0 (by omega) ?_
  refine Ev.bind (greatest_ok hn hW') (Ev.bind (greatest_ok h hW) ?_)
  rw [wr (n := -most (negs A) B (negs A) (-4611686018427387904)) (by unfold least at hm; omega) (by unfold least at hm; omega)]
  exact Ev.now _
end Go.Proofs.Ytgmdmghpmmcaeaa.Pure
