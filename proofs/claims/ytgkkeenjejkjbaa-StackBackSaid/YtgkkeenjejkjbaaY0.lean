/- Laws of the plain functions. Conditions: as each theorem states them. -/
import Derived.Test.YtgkkeenjejkjbaaD
import Derived.Test.YtgkkeenjejkjbaaA4
/- Plain facts of streams and bounds, for the functions of StbD. -/
namespace Lf
open Go Go.Abs
set_option linter.unusedVariables false
set_option linter.unusedSimpArgs false
/-! streams -/
/-- What a stream must be. -/
structure okS (s : spymake_Stream) : Prop where
  z : ∀ z ∈ s.L, -9223372036854775808 ≤ z ∧ z ≤ 9223372036854775807
  len : s.L.length ≤ 17592186044416
  a0 : 0 ≤ s.at_
  a1 : s.at_ ≤ 4611686018427387904
theorem okS.start {l : List Int} (h : okL l) : okS (spymake_Stream.mk l 0) := ⟨h.z, by have := h.len; simp only []; omega, Int.le_refl _, by simp only []; omega⟩
/-- What is true of a stream that another one has become. -/
structure after (s t : spymake_Stream) (k : Int) : Prop where
  L : t.L = s.L
  lo : s.at_ ≤ t.at_
  hi : t.at_ ≤ s.at_ + k
theorem after.refl (s : spymake_Stream) : after s s 0 := ⟨rfl, Int.le_refl _, by omega⟩
theorem after.trans {s t u : spymake_Stream} {k m : Int} (h : after s t k) (g : after t u m) : after s u (k + m) := ⟨g.L.trans h.L, Int.le_trans h.lo g.lo, by have := h.hi; have := g.hi; omega⟩
theorem after.more {s t : spymake_Stream} {k m : Int} (h : after s t k) (hk : k ≤ m) : after s t m := ⟨h.L, h.lo, by have := h.hi; omega⟩
theorem after.ok {s t : spymake_Stream} {k : Int} (h : after s t k) (g : okS s) (hk : s.at_ + k ≤ 4611686018427387904) : okS t := ⟨by rw [h.L]; exact g.z, by rw [h.L]; exact g.len, by have := h.lo; have := g.a0; omega, by have := h.hi; omega⟩
theorem below_ok (x n : Int) (hx : -9223372036854775808 ≤ x ∧ x ≤ 9223372036854775807) (hn : 1 ≤ n ∧ n ≤ 9223372036854775807) : Has (spymake_Below x n) fun v => 0 ≤ v ∧ v < n := by
  unfold spymake_Below
  have h1 := Int.lt_tmod_of_pos x (b := n) (by omega)
  have h2 := Int.tmod_lt_of_pos x (b := n) (by omega)
  refine Has.neg (by simp; omega) (Has.chk (by omega) (Has.ite (fun h => Has.ret ?_) fun h => Has.ret ?_))
  · simp only [decide_eq_true_eq] at h; rw [w6_in (by omega)]; omega
  · simp only [decide_eq_true_eq] at h; omega
theorem below_zero (x n : Int) (hn : n ≤ 0) : spymake_Below x n = some 0 := by unfold spymake_Below; rw [if_pos (by simp; omega)]
theorem next_ok (s : spymake_Stream) (n : Int) (hs : okS s) (ha : s.at_ < 4611686018427387904) (hn : 1 ≤ n ∧ n ≤ 9223372036854775807) : Has (Stream_Next s n) fun r => 0 ≤ r.1 ∧ r.1 < n ∧ after s r.2 1 := by
  have h0 := hs.a0
  have hl := hs.len
  have e1 : w6 (s.at_ + 1) = s.at_ + 1 := w6_in (by omega)
  have fin : after s (spymake_Stream.mk s.L (s.at_ + 1)) 1 := ⟨rfl, by simp only []; omega, Int.le_refl _⟩
  unfold Stream_Next
  simp only [e1]
  refine Has.ite (fun hz => ?_) fun hz => ?_
  · exact (below_ok _ n (w6_bd _) hn).bind fun v hv => Has.ret ⟨hv.1, hv.2, fin⟩
  · have hz : s.L.length ≠ 0 := by simpa using hz
    have e2 : w6 (s.at_ + 1 - 1) = s.at_ := by rw [w6_in (by omega)]; omega
    have b1 := Int.tmod_nonneg (s.L.length : Int) hs.a0
    have b2 := Int.tmod_lt_of_pos s.at_ (b := (s.L.length : Int)) (by omega)
    simp only [e2]
    refine Has.chk (by omega) (Has.chk ⟨b1, b2⟩ ?_)
    refine (below_ok _ 1073741824 (hs.z _ (gt_mem _ _ ⟨b1, b2⟩)) (by omega)).bind fun v hv => Has.letF (Has.letF ?_)
    exact (below_ok _ n (w6_bd _) hn).bind fun u hu => Has.ret ⟨hu.1, hu.2, fin⟩
theorem range_ok (s : spymake_Stream) (lo hi : Int) (hs : okS s) (ha : s.at_ < 4611686018427387904) (h : lo ≤ hi) (h1 : -2305843009213693952 ≤ lo) (h2 : hi ≤ 2305843009213693952) : Has (Stream_Range s lo hi) fun r => lo ≤ r.1 ∧ r.1 ≤ hi ∧ after s r.2 1 := by
  unfold Stream_Range
  rw [w6_in (n := hi - lo) (by omega), w6_in (n := hi - lo + 1) (by omega)]
  refine Has.neg (by simp; omega) ((next_ok s (hi - lo + 1) hs ha (by omega)).bind fun r hr => Has.ret ?_)
  rw [w6_in (by omega)]
  exact ⟨by omega, by omega, hr.2.2⟩
end Lf
/- Plain facts of bounds. -/
namespace Lf
open Go Go.Abs
set_option linter.unusedVariables false
set_option linter.unusedSimpArgs false
/-- A valid bound. -/
structure Bound.ok (b : Bound) : Prop where
  u : b.Unknown = true → b.Lo = 0 ∧ b.Hi = 0
  lo : -1152921504606846976 ≤ b.Lo
  le : b.Lo ≤ b.Hi
  hi : b.Hi ≤ 1152921504606846976
theorem check_ok {b : Bound} (h : b.ok) : bound_Check b = some 0 := by
  obtain ⟨h1, h2, h3, h4⟩ := h
  unfold bound_Check
  rw [mn2_le h3, mx2_le h3]
  have e1 : ¬ b.Lo < -1152921504606846976 := by omega
  have e2 : ¬ b.Hi > 1152921504606846976 := by omega
  have e3 : ¬ b.Lo > b.Hi := by omega
  cases hu : b.Unknown with
  | false => simp [e1, e2, e3]
  | true => obtain ⟨q1, q2⟩ := h1 hu; simp [q1, q2]
theorem norm_ok {b : Bound} (h : b.ok) : bound_Norm b = some b := by unfold bound_Norm; rw [check_ok h]; rfl
theorem vague_ok {a b : Bound} (ha : a.ok) (hb : b.ok) : bound_vague a b = some (a.Unknown || b.Unknown) := by
  unfold bound_vague; rw [norm_ok ha, norm_ok hb]; cases h : a.Unknown <;> simp [h]
theorem none_ok : bound_None = some ⟨0, 0, true⟩ := rfl
theorem okNone : Bound.ok ⟨0, 0, true⟩ := ⟨fun _ => ⟨rfl, rfl⟩, by decide, by decide, by decide⟩
theorem okKnown {lo hi : Int} (h1 : -1152921504606846976 ≤ lo) (h2 : lo ≤ hi) (h3 : hi ≤ 1152921504606846976) : Bound.ok ⟨lo, hi, false⟩ := ⟨(fun h => nomatch h), h1, h2, h3⟩
theorem of_ok {lo hi : Int} (h1 : -1152921504606846976 ≤ lo) (h2 : lo ≤ hi) (h3 : hi ≤ 1152921504606846976) : bound_Of lo hi = some ⟨lo, hi, false⟩ := by
  unfold bound_Of; rw [norm_ok (okKnown h1 h2 h3)]; rfl
end Lf
/- Sums of bounds; what both admit. -/
namespace Lf
open Go Go.Abs
set_option linter.unusedVariables false
set_option linter.unusedSimpArgs false
theorem add_known {a b : Bound} (ha : a.ok) (hb : b.ok) (ua : a.Unknown = false) (ub : b.Unknown = false) (h1 : -1152921504606846976 ≤ a.Lo + b.Lo) (h2 : a.Hi + b.Hi ≤ 1152921504606846976) : bound_Add a b = some ⟨a.Lo + b.Lo, a.Hi + b.Hi, false⟩ := by
  have := ha.le; have := hb.le
  unfold bound_Add
  rw [vague_ok ha hb, ua, ub]
  simp only [Option.bind_some, Bool.or_self, Bool.false_eq_true, if_false]
  rw [w6_in (by omega), w6_in (by omega), of_ok h1 (by omega) h2]; rfl
theorem add_vague {a b : Bound} (ha : a.ok) (hb : b.ok) (u : (a.Unknown || b.Unknown) = true) : bound_Add a b = some ⟨0, 0, true⟩ := by
  unfold bound_Add
  rw [vague_ok ha hb, u]; rfl
end Lf
/- Fields of light, and bounds of it. -/
namespace Lf
open Go Go.Abs
set_option linter.unusedVariables false
set_option linter.unusedSimpArgs false
/-- A valid field. -/
structure okF (c : Cells) : Prop where
  w0 : 1 ≤ c.W
  w1 : c.W ≤ 32
  h0 : 1 ≤ c.H
  h1 : c.H ≤ 32
  len : (c.At.length : Int) = c.W * c.H
  cell : ∀ b ∈ c.At, b.ok ∧ -1099511627776 ≤ b.Lo ∧ b.Hi ≤ 1099511627776
theorem area {w h : Int} (w0 : 1 ≤ w) (w1 : w ≤ 32) (h0 : 1 ≤ h) (h1 : h ≤ 32) : 1 ≤ w * h ∧ w * h ≤ 1024 := by
  have a := Int.mul_le_mul_of_nonneg_right w1 (show 0 ≤ h by omega)
  have b := Int.mul_le_mul_of_nonneg_right w0 (show 0 ≤ h by omega)
  omega
theorem okF.n1 {c : Cells} (h : okF c) : 1 ≤ (c.At.length : Int) ∧ (c.At.length : Int) ≤ 1024 := by rw [h.len]; exact area h.w0 h.w1 h.h0 h.h1
theorem findCheck_ok {c : Cells} (h : okF c) : find_Check c = some 0 := by
  have hw0 := h.w0; have hw1 := h.w1; have hh0 := h.h0; have hh1 := h.h1
  have hn := h.n1
  have e : w6 (c.W * c.H) = (c.At.length : Int) := by rw [← h.len]; exact w6_in (by omega)
  apply Has.val
  unfold find_Check
  rw [e]
  have g1 : decide (c.W < 1) = false := decide_eq_false (by omega)
  have g2 : decide (c.W > 32) = false := decide_eq_false (by omega)
  have g3 : decide (c.H < 1) = false := decide_eq_false (by omega)
  have g4 : decide (c.H > 32) = false := decide_eq_false (by omega)
  simp only [g1, g2, g3, g4, ite_or, Bool.false_or, bne_self_eq_false, Option.bind_some, Bool.false_eq_true, if_false]
  refine Has.seq (P := fun t : Step Unit Int => t = .next ()) ?_ (fun _ _ => Has.ret rfl) (fun o ho => by cases ho)
  refine Has.loop (fun i : Int => 0 ≤ i ∧ i ≤ c.At.length) (fun i => (c.At.length - i).toNat) (fun t : Step Unit Int => t = .next ()) ⟨Int.le_refl _, by omega⟩ (by omega) fun i ⟨i1, i2⟩ => ?_
  unfold find_Check.l1
  refine Has.ite (fun hi => ?_) fun hi => Has.ret (.done rfl)
  have hi : i < c.At.length := of_decide_eq_true hi
  obtain ⟨b1, b2, b3⟩ := h.cell _ (gt_mem c.At i ⟨i1, hi⟩)
  refine Has.chk ⟨i1, hi⟩ ?_
  rw [check_ok b1]
  have g5 : decide ((gt c.At i).Lo < (-1099511627776)) = false := decide_eq_false (by omega)
  have g6 : decide ((gt c.At i).Hi > 1099511627776) = false := decide_eq_false (by omega)
  simp only [Option.bind_some, bne_self_eq_false, Bool.false_eq_true, if_false, g5, g6, ite_or, Bool.false_or]
  rw [w6_in (by omega)]
  exact Has.ret (.next ⟨by omega, by omega⟩ (by omega))
end Lf
/- Stacks of fields. -/
namespace Lf
open Go Go.Abs
set_option linter.unusedVariables false
set_option linter.unusedSimpArgs false
def sumI (f : Int → Int) : Nat → Int
  | 0 => 0
  | n + 1 => sumI f n + f n
theorem sumI_congr {f g : Int → Int} : ∀ {n : Nat}, (∀ j : Int, 0 ≤ j → j < n → f j = g j) → sumI f n = sumI g n
  | 0, _ => rfl
  | n + 1, h => by
    unfold sumI
    rw [sumI_congr fun j j0 j1 => h j j0 (by omega), h n (by omega) (by omega)]
theorem sumI_snoc {α : Type} [Cl α] (g : α → Int) (a : List α) (c : α) : sumI (fun j => g (gt (a ++ [c]) j)) (a ++ [c]).length = sumI (fun j => g (gt a j)) a.length + g c := by
  have e : (a ++ [c]).length = a.length + 1 := by simp
  rw [e, sumI, gt_snoc_eq rfl]
  congr 1
  exact sumI_congr fun j j0 j1 => by rw [gt_snoc_lt j0 j1]
def unk (i : Int) (c : Cells) : Int := if (gt c.At i).Unknown = true then 1 else 0
def klo (i : Int) (c : Cells) : Int := if (gt c.At i).Unknown = true then 0 else (gt c.At i).Lo
def khi (i : Int) (c : Cells) : Int := if (gt c.At i).Unknown = true then 0 else (gt c.At i).Hi
def hol (a : List Cells) (i : Int) : Int := sumI (fun j => unk i (gt a j)) a.length
def slo (a : List Cells) (i : Int) : Int := sumI (fun j => klo i (gt a j)) a.length
def shi (a : List Cells) (i : Int) : Int := sumI (fun j => khi i (gt a j)) a.length
/-- A valid field of a size. -/
structure fld (w h : Int) (c : Cells) : Prop where
  f : okF c
  ew : c.W = w
  eh : c.H = h
/-- A stack of some fields. -/
structure stk (s : stack_Stack) (w h : Int) (a : List Cells) : Prop where
  ew : s.W = w
  eh : s.H = h
  n : s.N = a.length
  hl : (s.Holes.length : Int) = w * h
  al : (s.At.length : Int) = w * h
  hole : allI s.Holes fun i x => x = hol a i
  at_ : allI s.At fun i b => b = ⟨slo a i, shi a i, false⟩
/-- What is known of sums of so many cells. -/
theorem sums_bd {a : List Cells} {w h i : Int} (hf : ∀ c ∈ a, fld w h c) (i0 : 0 ≤ i) (i1 : i < w * h) : ∀ n : Nat, n ≤ a.length →
    0 ≤ sumI (fun j => unk i (gt a j)) n ∧ sumI (fun j => unk i (gt a j)) n ≤ n ∧ -(1099511627776 * (n - sumI (fun j => unk i (gt a j)) n)) ≤ sumI (fun j => klo i (gt a j)) n ∧ sumI (fun j => klo i (gt a j)) n ≤ sumI (fun j => khi i (gt a j)) n ∧ sumI (fun j => khi i (gt a j)) n ≤ 1099511627776 * (n - sumI (fun j => unk i (gt a j)) n)
  | 0, _ => by simp [sumI]
  | n + 1, hn => by
    have ih := sums_bd hf i0 i1 n (by omega)
    have fc := hf _ (gt_mem a n ⟨by omega, by omega⟩)
    have hc := fc.f.cell _ (gt_mem (gt a (n : Int)).At i ⟨i0, by rw [fc.f.len, fc.ew, fc.eh]; exact i1⟩)
    have hle := hc.1.le
    simp only [sumI]
    have e : (gt (gt a (n : Int)).At i).Unknown = true ∨ (gt (gt a (n : Int)).At i).Unknown = false := by cases (gt (gt a (n : Int)).At i).Unknown <;> simp
    unfold unk klo khi at *
    rcases e with e | e
    · simp only [e, if_true]
      omega
    · simp only [e, Bool.false_eq_true, if_false]
      omega
theorem stk_bd {a : List Cells} {w h i : Int} (hf : ∀ c ∈ a, fld w h c) (i0 : 0 ≤ i) (i1 : i < w * h) :
    0 ≤ hol a i ∧ hol a i ≤ a.length ∧ -(1099511627776 * (a.length - hol a i)) ≤ slo a i ∧ slo a i ≤ shi a i ∧ shi a i ≤ 1099511627776 * (a.length - hol a i) := sums_bd hf i0 i1 a.length (Nat.le_refl _)
/-- A size that fields may have. -/
structure size (w h : Int) : Prop where
  w0 : 1 ≤ w
  w1 : w ≤ 32
  h0 : 1 ≤ h
  h1 : h ≤ 32
theorem size.n {w h : Int} (z : size w h) : 1 ≤ w * h ∧ w * h ≤ 1024 := area z.w0 z.w1 z.h0 z.h1
theorem stackCheck_ok {s : stack_Stack} {w h : Int} {a : List Cells} (z : size w h) (hs : stk s w h a) (hf : ∀ c ∈ a, fld w h c) (ha : a.length ≤ 8) : stack_Check s = some 0 := by
  have zn := z.n
  have e : w6 (s.W * s.H) = w * h := by rw [hs.ew, hs.eh]; exact w6_in (by omega)
  apply Has.val
  unfold stack_Check
  rw [e, hs.al, hs.hl, hs.ew, hs.eh, hs.n]
  have z1 := z.w0; have z2 := z.w1; have z3 := z.h0; have z4 := z.h1
  have g1 : decide (w < 1) = false := decide_eq_false (by omega)
  have g2 : decide (w > 32) = false := decide_eq_false (by omega)
  have g3 : decide (h < 1) = false := decide_eq_false (by omega)
  have g4 : decide (h > 32) = false := decide_eq_false (by omega)
  have g5 : decide ((a.length : Int) < 0) = false := decide_eq_false (by omega)
  have g6 : decide ((a.length : Int) > 8) = false := decide_eq_false (by omega)
  simp only [g1, g2, g3, g4, g5, g6, ite_or, Bool.false_or, bne_self_eq_false, Option.bind_some, Bool.false_eq_true, if_false]
  refine Has.seq (P := fun t : Step Unit Int => t = .next ()) ?_ (fun _ _ => Has.ret rfl) (fun o ho => by cases ho)
  refine Has.loop (fun i : Int => 0 ≤ i ∧ i ≤ s.At.length) (fun i => (s.At.length - i).toNat) (fun t : Step Unit Int => t = .next ()) ⟨Int.le_refl _, by omega⟩ (by have := hs.al; omega) fun i ⟨i1, i2⟩ => ?_
  unfold stack_Check.l1
  refine Has.ite (fun hi => ?_) fun hi => Has.ret (.done rfl)
  have hi : i < s.At.length := of_decide_eq_true hi
  have hal := hs.al; have hhl := hs.hl
  have eb : gt s.At i = ⟨slo a i, shi a i, false⟩ := hs.at_ i i1 hi
  have eh : gt s.Holes i = hol a i := hs.hole i i1 (by omega)
  obtain ⟨b1, b2, b3, b4, b5⟩ := stk_bd hf i1 (show i < w * h by omega)
  rw [eb, eh, hs.n]
  have ok : Bound.ok ⟨slo a i, shi a i, false⟩ := okKnown (by omega) b4 (by omega)
  rw [check_ok ok]
  refine Has.chk ⟨i1, hi⟩ ?_
  simp only [Option.bind_some, bne_self_eq_false, Bool.false_eq_true, if_false]
  refine Has.chk ⟨i1, by omega⟩ ?_
  rw [w6_in (n := (a.length : Int) - hol a i) (by omega), w6_in (n := ((a.length : Int) - hol a i) * 1099511627776) (by omega), w6_in (n := 0 - ((a.length : Int) - hol a i) * 1099511627776) (by omega), w6_in (n := i + 1) (by omega)]
  have k1 : decide ((a.length : Int) - hol a i < 0) = false := decide_eq_false (by omega)
  have k2 : decide ((a.length : Int) - hol a i > a.length) = false := decide_eq_false (by omega)
  have k3 : decide (slo a i < 0 - ((a.length : Int) - hol a i) * 1099511627776) = false := decide_eq_false (by omega)
  have k4 : decide (shi a i > ((a.length : Int) - hol a i) * 1099511627776) = false := decide_eq_false (by omega)
  simp only [Abs.letF, k1, k2, k3, k4, Bool.false_eq_true, if_false, Option.bind_some]
  exact Has.ret (.next ⟨by omega, by omega⟩ (by omega))
theorem stackFit_ok {s : stack_Stack} {w h : Int} {a : List Cells} {c : Cells} (z : size w h) (hs : stk s w h a) (hf : ∀ c ∈ a, fld w h c) (ha : a.length ≤ 8) (hc : fld w h c) : stack_fit s c = some 0 := by
  unfold stack_fit
  rw [stackCheck_ok z hs hf ha, findCheck_ok hc.f, hs.ew, hs.eh, hc.ew, hc.eh]
  simp
theorem cloneI_ok {l : List Int} (h : l ≠ []) (hl : l.length ≤ 1000000) : slices_Clone_Int l = some l := by
  apply Has.val
  unfold slices_Clone_Int nilF
  cases l with
  | nil => exact absurd rfl h
  | cons x xs =>
    refine Has.bind (P := fun z => z = false) (Has.ret rfl) fun z hz => Has.neg (by rw [hz]; simp) (Has.chk (roomyI (by simp only [List.length_nil]; omega) (by simp only [List.length_nil]; omega)) (Has.ret rfl))
theorem cloneB_ok {l : List Bound} (h : l ≠ []) (hl : l.length ≤ 1000000) : slices_Clone_Bound l = some l := by
  apply Has.val
  unfold slices_Clone_Bound nilF
  cases l with
  | nil => exact absurd rfl h
  | cons x xs =>
    refine Has.bind (P := fun z => z = false) (Has.ret rfl) fun z hz => Has.neg (by rw [hz]; simp) (Has.chk (roomyI (by simp only [List.length_nil]; omega) (by simp only [List.length_nil]; omega)) (Has.ret rfl))
theorem copied_ok {s : stack_Stack} {w h : Int} {a : List Cells} (z : size w h) (hs : stk s w h a) : stack_copied s = some s := by
  have zn := z.n
  have h1 := hs.hl; have h2 := hs.al
  unfold stack_copied
  rw [cloneI_ok (fun e => by rw [e] at h1; simp at h1; omega) (by omega), cloneB_ok (fun e => by rw [e] at h2; simp at h2; omega) (by omega)]
  rfl
theorem stackNew_ok {w h : Int} (z : size w h) : Has (stack_New w h) fun r => r.2 = 0 ∧ stk r.1 w h [] := by
  have zn := z.n
  have z1 := z.w0; have z2 := z.w1; have z3 := z.h0; have z4 := z.h1
  unfold stack_New
  rw [w6_in (n := w * h) (by omega)]
  have g1 : decide (w < 1) = false := decide_eq_false (by omega)
  have g2 : decide (w > 32) = false := decide_eq_false (by omega)
  have g3 : decide (h < 1) = false := decide_eq_false (by omega)
  have g4 : decide (h > 32) = false := decide_eq_false (by omega)
  simp only [g1, g2, g3, g4, ite_or, Bool.false_or, Option.bind_some, Bool.false_eq_true, if_false]
  exact Has.chk ⟨by omega, Int.le_refl _, roomyI (by omega) (by omega)⟩ (Has.chk ⟨by omega, Int.le_refl _, roomyI (by omega) (by omega)⟩ (Has.ret ⟨rfl, rfl, rfl, rfl, by simp; omega, by simp; omega, allI_rep fun i _ _ => rfl, allI_rep fun i _ _ => rfl⟩))
theorem stackAdd_ok {s : stack_Stack} {w h : Int} {a : List Cells} {c : Cells} (z : size w h) (hs : stk s w h a) (hf : ∀ c ∈ a, fld w h c) (ha : a.length < 8) (hc : fld w h c) :
    Has (stack_Add s c) fun r => r.2 = 0 ∧ stk r.1 w h (a ++ [c]) := by
  have zn := z.n
  have hal := hs.al; have hhl := hs.hl
  have hcl : (c.At.length : Int) = w * h := by rw [hc.f.len, hc.ew, hc.eh]
  unfold stack_Add
  rw [stackFit_ok z hs hf (by omega) hc, copied_ok z hs, hs.n]
  simp only [Option.bind_some, bne_self_eq_false, Bool.false_eq_true, if_false]
  refine Has.neg (by simp; omega) ?_
  have sh : ∀ i, hol (a ++ [c]) i = hol a i + unk i c := fun i => sumI_snoc (unk i) a c
  have sl : ∀ i, slo (a ++ [c]) i = slo a i + klo i c := fun i => sumI_snoc (klo i) a c
  have su : ∀ i, shi (a ++ [c]) i = shi a i + khi i c := fun i => sumI_snoc (khi i) a c
  refine (Has.loop (fun t : List Int × List Bound × Int => 0 ≤ t.2.2 ∧ t.2.2 ≤ c.At.length ∧ (t.1.length : Int) = w * h ∧ (t.2.1.length : Int) = w * h ∧ (allI t.1 fun i x => x = if i < t.2.2 then hol (a ++ [c]) i else hol a i) ∧ allI t.2.1 fun i b => b = if i < t.2.2 then ⟨slo (a ++ [c]) i, shi (a ++ [c]) i, false⟩ else ⟨slo a i, shi a i, false⟩) (fun t => (c.At.length - t.2.2).toNat)
    (fun o : List Int × List Bound => (o.1.length : Int) = w * h ∧ (o.2.length : Int) = w * h ∧ (allI o.1 fun i x => x = hol (a ++ [c]) i) ∧ allI o.2 fun i b => b = ⟨slo (a ++ [c]) i, shi (a ++ [c]) i, false⟩) ⟨Int.le_refl _, by simp only []; omega, hhl, hal, allI_mono hs.hole fun i x i0 i1 hx => by rw [if_neg (by simp only []; omega)]; exact hx, allI_mono hs.at_ fun i x i0 i1 hx => by rw [if_neg (by simp only []; omega)]; exact hx⟩ (by simp only []; omega) fun t ⟨t1, t2, t3, t4, t5, t6⟩ => ?_).bind
    fun o ⟨o1, o2, o3, o4⟩ => Has.ret ⟨rfl, hs.ew, hs.eh, by simp only []; rw [hs.n, w6_in (by omega)]; simp, o1, o2, o3, o4⟩
  unfold stack_Add.l1
  refine Has.ite (fun hi => ?_) fun hi => ?_
  · have hi : t.2.2 < c.At.length := of_decide_eq_true hi
    obtain ⟨b1, b2, b3, b4, b5⟩ := stk_bd hf t1 (show t.2.2 < w * h by omega)
    obtain ⟨c1, c2, c3⟩ := hc.f.cell _ (gt_mem c.At t.2.2 ⟨t1, hi⟩)
    have cle := c1.le
    have e5 : gt t.1 t.2.2 = hol a t.2.2 := by rw [t5 t.2.2 t1 (by omega), if_neg (by omega)]
    have e6 : gt t.2.1 t.2.2 = ⟨slo a t.2.2, shi a t.2.2, false⟩ := by rw [t6 t.2.2 t1 (by omega), if_neg (by omega)]
    rw [e5, e6]
    refine Has.bind (P := fun o : List Int × List Bound => (o.1.length : Int) = w * h ∧ (o.2.length : Int) = w * h ∧ (allI o.1 fun i x => x = if i < t.2.2 + 1 then hol (a ++ [c]) i else hol a i) ∧ allI o.2 fun i b => b = if i < t.2.2 + 1 then ⟨slo (a ++ [c]) i, shi (a ++ [c]) i, false⟩ else ⟨slo a i, shi a i, false⟩) (Has.chk ⟨t1, hi⟩ (Has.ite (fun hu => ?_) fun hu => ?_)) fun o ⟨o1, o2, o3, o4⟩ => ?_
    · have hu : (gt c.At t.2.2).Unknown = true := hu
      refine Has.chk ⟨t1, by omega⟩ (Has.ret ⟨by simp only [List.length_set]; exact t3, t4, ?_, ?_⟩)
      · refine allI_upd t5 t1 (fun j x j0 j1 jn hx => ?_) ?_
        · rw [hx]
          by_cases e : j < t.2.2
          · rw [if_pos e, if_pos (by omega)]
          · rw [if_neg e, if_neg (by omega)]
        · rw [if_pos (by omega), w6_in (by omega), sh]
          unfold unk; rw [if_pos hu]
      · refine allI_mono t6 fun j x j0 j1 hx => ?_
        rw [hx]
        by_cases e : j < t.2.2
        · rw [if_pos e, if_pos (by omega)]
        · rw [if_neg e]
          by_cases e2 : j = t.2.2
          · rw [e2, if_pos (by omega), sl, su]
            unfold klo khi
            rw [if_pos hu, if_pos hu]; simp
          · rw [if_neg (by omega)]
    · have hu : (gt c.At t.2.2).Unknown = false := by simpa using hu
      have hun : ¬ (gt c.At t.2.2).Unknown = true := by rw [hu]; simp
      refine Has.chk ⟨t1, by omega⟩ ?_
      rw [add_known (okKnown (by omega) b4 (by omega)) c1 rfl hu (by simp only []; omega) (by simp only []; omega)]
      refine Has.ret ⟨t3, by simp only [List.length_set]; exact t4, ?_, ?_⟩
      · refine allI_mono t5 fun j x j0 j1 hx => ?_
        rw [hx]
        by_cases e : j < t.2.2
        · rw [if_pos e, if_pos (by omega)]
        · rw [if_neg e]
          by_cases e2 : j = t.2.2
          · rw [e2, if_pos (by omega), sh]
            unfold unk; rw [if_neg hun]; simp
          · rw [if_neg (by omega)]
      · refine allI_upd t6 t1 (fun j x j0 j1 jn hx => ?_) ?_
        · rw [hx]
          by_cases e : j < t.2.2
          · rw [if_pos e, if_pos (by omega)]
          · rw [if_neg e, if_neg (by omega)]
        · rw [if_pos (by omega), sl, su]
          unfold klo khi
          rw [if_neg hun, if_neg hun]
    · rw [w6_in (by omega)]
      exact Has.ret (.next ⟨by simp only []; omega, by simp only []; omega, o1, o2, o3, o4⟩ (by simp only []; omega))
  · have hi : ¬ t.2.2 < c.At.length := fun q => hi (decide_eq_true q)
    exact Has.ret (.done ⟨t3, t4, allI_mono t5 fun i x i0 i1 hx => by rw [hx, if_pos (by have : i < (t.1.length : Int) := i1; omega)], allI_mono t6 fun i x i0 i1 hx => by rw [hx, if_pos (by have : i < (t.2.1.length : Int) := i1; omega)]⟩)
/-- A field, cell by cell. -/
structure isF (c : Cells) (w h : Int) (f : Int → Bound) : Prop where
  ew : c.W = w
  eh : c.H = h
  len : (c.At.length : Int) = w * h
  at_ : allI c.At fun i b => b = f i
theorem isF.eq {c d : Cells} {w h : Int} {f g : Int → Bound} (hc : isF c w h f) (hd : isF d w h g) (e : ∀ i : Int, 0 ≤ i → i < w * h → f i = g i) : c = d := by
  have e1 : c.W = d.W := by rw [hc.ew, hd.ew]
  have e2 : c.H = d.H := by rw [hc.eh, hd.eh]
  have e3 : c.At = d.At := gt_ext (by have := hc.len; have := hd.len; omega) fun i i0 i1 => by
    have l1 := hc.len; have l2 := hd.len
    rw [hc.at_ i i0 i1, hd.at_ i i0 (by omega), e i i0 (by omega)]
  cases c; cases d
  simp only [] at e1 e2 e3
  rw [e1, e2, e3]
end Lf
/- Fields added one by one; sums of joined lists. -/
namespace Lf
open Go Go.Abs
set_option linter.unusedVariables false
set_option linter.unusedSimpArgs false
theorem take_snoc {α : Type} [Cl α] (l : List α) {i : Int} (i0 : 0 ≤ i) (i1 : i < l.length) : l.take (i + 1).toNat = l.take i.toNat ++ [gt l i] := by
  have e : (i + 1).toNat = i.toNat + 1 := by omega
  rw [e, gt_def l i ⟨i0, i1⟩, List.take_add_one, List.getElem?_eq_getElem (by omega)]
  rfl
theorem mem_take {α : Type} {l : List α} {n : Nat} {x : α} (h : x ∈ l.take n) : x ∈ l := List.mem_of_mem_take h
theorem added_ok {w h : Int} {l : List Cells} (z : size w h) (hf : ∀ c ∈ l, fld w h c) (hl : l.length ≤ 8) : Has (spykeep4_added w h l) fun r => r.2 = 0 ∧ stk r.1 w h l := by
  unfold spykeep4_added
  refine (stackNew_ok z).bind fun r ⟨r1, r2⟩ => ?_
  refine (Has.loop (fun s : stack_Stack × Int × Int => 0 ≤ s.2.2 ∧ s.2.2 ≤ l.length ∧ s.2.1 = 0 ∧ stk s.1 w h (l.take s.2.2.toNat)) (fun s => (l.length - s.2.2).toNat) (fun o : stack_Stack × Int => o.2 = 0 ∧ stk o.1 w h l) ⟨Int.le_refl _, by simp only []; omega, r1, r2⟩ (by simp only []; omega) fun s ⟨s1, s2, s3, s4⟩ => ?_).bind fun o ho => Has.ret ho
  unfold spykeep4_added.l1
  refine Has.ite (fun hi => ?_) fun hi => ?_
  · have hi : s.2.2 < l.length := of_decide_eq_true hi
    rw [s3, w6_in (n := s.2.2 + 1) (by omega)]
    refine Has.bind (P := fun o : stack_Stack × Int => o.2 = 0 ∧ stk o.1 w h (l.take (s.2.2 + 1).toNat)) (Has.chk ⟨s1, hi⟩ (Has.pos rfl ((stackAdd_ok z s4 (fun c hc => hf c (mem_take hc)) (by simp; omega) (hf _ (gt_mem l s.2.2 ⟨s1, hi⟩))).bind fun q ⟨q1, q2⟩ => Has.ret ⟨q1, ?_⟩))) fun o ⟨o1, o2⟩ => Has.ret (.next ⟨by simp only []; omega, by simp only []; omega, o1, o2⟩ (by simp only []; omega))
    rw [take_snoc l s1 hi]; exact q2
  · have hi : ¬ s.2.2 < l.length := fun q => hi (decide_eq_true q)
    rw [List.take_of_length_le (by omega)] at s4
    exact Has.ret (.done ⟨s3, s4⟩)
theorem sumI_take {α : Type} [Cl α] (g : α → Int) (a b : List α) : ∀ n : Nat, n ≤ b.length → sumI (fun j => g (gt (a ++ b.take n) j)) (a ++ b.take n).length = sumI (fun j => g (gt a j)) a.length + sumI (fun j => g (gt (b.take n) j)) (b.take n).length
  | 0, _ => by simp [sumI]
  | n + 1, h => by
    have e := take_snoc b (i := n) (by omega) (by omega)
    have e1 : ((n : Int) + 1).toNat = n + 1 := by omega
    have e2 : ((n : Int)).toNat = n := by omega
    rw [e1, e2] at e
    rw [e, ← List.append_assoc, sumI_snoc g (a ++ b.take n), sumI_snoc g (b.take n), sumI_take g a b n (by omega)]
    omega
theorem sumI_append {α : Type} [Cl α] (g : α → Int) (a b : List α) : sumI (fun j => g (gt (a ++ b) j)) (a ++ b).length = sumI (fun j => g (gt a j)) a.length + sumI (fun j => g (gt b j)) b.length := by
  have := sumI_take g a b b.length (Nat.le_refl _)
  rw [List.take_length] at this
  exact this
end Lf
/- Fields that are drawn. -/
namespace Lf
open Go Go.Abs
set_option linter.unusedVariables false
set_option linter.unusedSimpArgs false
/-- A field that is drawn. -/
theorem field_ok (s : spymake_Stream) (w h : Int) (z : size w h) (hs : okS s) (ha : s.at_ ≤ 4611686018427000000) : Has (Stream_Field s w h) fun r => fld w h r.1 ∧ after s r.2 (2 + 6 * (w * h)) := by
  have zn := z.n
  unfold Stream_Field
  refine (next_ok s 200 hs (by omega) (by omega)).bind fun a ⟨a1, a2, a3⟩ => ?_
  have hA := a3.ok hs (by omega); have hha := a3.hi
  refine (range_ok a.2 0 30 hA (by omega) (by omega) (by omega) (by omega)).bind fun b ⟨b1, b2, b3⟩ => ?_
  have hB := b3.ok hA (by omega); have hhb := b3.hi
  refine (Has.loop (fun t : spymake_Stream × List Bound × Int => after b.2 t.1 (6 * t.2.2) ∧ 0 ≤ t.2.2 ∧ t.2.2 ≤ w * h ∧ (t.2.1.length : Int) = t.2.2 ∧ ∀ x ∈ t.2.1, x.ok ∧ -1099511627776 ≤ x.Lo ∧ x.Hi ≤ 1099511627776) (fun t => (w * h - t.2.2).toNat)
    (fun o : spymake_Stream × List Bound => after b.2 o.1 (6 * (w * h)) ∧ (o.2.length : Int) = w * h ∧ ∀ x ∈ o.2, x.ok ∧ -1099511627776 ≤ x.Lo ∧ x.Hi ≤ 1099511627776) ⟨after.refl _, Int.le_refl _, by simp only []; omega, rfl, by simp⟩ (by simp only []; omega) fun t ⟨t1, t2, t3, t4, t5⟩ => ?_).bind
    fun o ⟨o1, o2, o3⟩ => Has.ret ⟨⟨⟨z.w0, z.w1, z.h0, z.h1, o2, o3⟩, rfl, rfl⟩, ((a3.trans b3).trans o1).more (by omega)⟩
  unfold Stream_Field.l1
  rw [w6_in (n := w * h) (by omega)]
  refine Has.ite (fun hi => ?_) fun hi => ?_
  · have hi : t.2.2 < w * h := of_decide_eq_true hi
    have hT := t1.ok hB (by omega); have hht := t1.hi
    rw [w6_in (n := b.1 + 1) (by omega), w6_in (n := t.2.2 + 1) (by omega)]
    have fin : ∀ (u : spymake_Stream) (x : Bound), after t.1 u 6 → (x.ok ∧ -1099511627776 ≤ x.Lo ∧ x.Hi ≤ 1099511627776) → Has (if roomy (t.2.1.length + ([x] : List Bound).length) 24 = true then some (Step.next (u, t.2.1 ++ ([x] : List Bound), t.2.2 + 1)) else none)
        (StepOK (fun t : spymake_Stream × List Bound × Int => after b.2 t.1 (6 * t.2.2) ∧ 0 ≤ t.2.2 ∧ t.2.2 ≤ w * h ∧ (t.2.1.length : Int) = t.2.2 ∧ ∀ x ∈ t.2.1, x.ok ∧ -1099511627776 ≤ x.Lo ∧ x.Hi ≤ 1099511627776) (fun t => (w * h - t.2.2).toNat)
          (fun o : spymake_Stream × List Bound => after b.2 o.1 (6 * (w * h)) ∧ (o.2.length : Int) = w * h ∧ ∀ x ∈ o.2, x.ok ∧ -1099511627776 ≤ x.Lo ∧ x.Hi ≤ 1099511627776) (w * h - t.2.2).toNat) := fun u x hu hx => by
      refine Has.chk (roomyI (by simp; omega) (by simp; omega)) (Has.ret (.next ⟨(t1.trans hu).more (by simp only []; omega), by simp only []; omega, by simp only []; omega, by simp; omega, fun y hy => ?_⟩ (by simp only []; omega)))
      rcases List.mem_append.1 hy with h | h
      · exact t5 y h
      · simp at h; rw [h]; exact hx
    have none : Bound.ok ⟨0, 0, true⟩ ∧ -1099511627776 ≤ (⟨0, 0, true⟩ : Bound).Lo ∧ (⟨0, 0, true⟩ : Bound).Hi ≤ 1099511627776 := ⟨okNone, by decide, by decide⟩
    refine (next_ok t.1 5 hT (by omega) (by omega)).bind fun c ⟨c1, c2, c3⟩ => ?_
    have hC := c3.ok hT (by omega); have hhc := c3.hi
    refine Has.ite (fun h5 => ?_) fun h5 => ?_
    · refine (next_ok c.2 2000 hC (by omega) (by omega)).bind fun d ⟨d1, d2, d3⟩ => ?_
      have hD := d3.ok hC (by omega); have hhd := d3.hi
      refine (next_ok d.2 (b.1 + 1) hD (by omega) (by omega)).bind fun e ⟨e1, e2, e3⟩ => ?_
      have hE := e3.ok hD (by omega); have hhe := e3.hi
      refine (next_ok e.2 (b.1 + 1) hE (by omega) (by omega)).bind fun f ⟨f1, f2, f3⟩ => ?_
      have hF := f3.ok hE (by omega); have hhf := f3.hi
      refine (next_ok f.2 15 hF (by omega) (by omega)).bind fun g ⟨g1, g2, g3⟩ => ?_
      have ag : after t.1 g.2 6 := ((((c3.trans d3).trans e3).trans f3).trans g3).more (by omega)
      rw [w6_in (n := a.1 + d.1) (by omega), w6_in (n := a.1 + d.1 - e.1) (by omega), w6_in (n := a.1 + d.1 + f.1) (by omega)]
      refine Has.ite (fun h6 => fin _ _ ag none) fun h6 => fin _ _ ag ⟨okKnown (by omega) (by omega) (by omega), by simp only []; omega, by simp only []; omega⟩
    · refine (next_ok c.2 (b.1 + 1) hC (by omega) (by omega)).bind fun e ⟨e1, e2, e3⟩ => ?_
      have hE := e3.ok hC (by omega); have hhe := e3.hi
      refine (next_ok e.2 (b.1 + 1) hE (by omega) (by omega)).bind fun f ⟨f1, f2, f3⟩ => ?_
      have hF := f3.ok hE (by omega); have hhf := f3.hi
      refine (next_ok f.2 15 hF (by omega) (by omega)).bind fun g ⟨g1, g2, g3⟩ => ?_
      have ag : after t.1 g.2 6 := (((c3.trans e3).trans f3).trans g3).more (by omega)
      rw [w6_in (n := a.1 - e.1) (by omega), w6_in (n := a.1 + f.1) (by omega)]
      refine Has.ite (fun h6 => fin _ _ ag none) fun h6 => fin _ _ ag ⟨okKnown (by omega) (by omega) (by omega), by simp only []; omega, by simp only []; omega⟩
  · have hi : ¬ t.2.2 < w * h := fun q => hi (decide_eq_true q)
    have e : t.2.2 = w * h := by omega
    rw [e] at t1 t4
    exact Has.ret (.done ⟨t1, t4, t5⟩)
end Lf
/- A row of bounds is equal to itself. -/
namespace Lf
open Go Go.Abs
set_option linter.unusedVariables false
set_option linter.unusedSimpArgs false
theorem equal_ok (l : List Bound) (hl : l.length ≤ 1000000000) : slices_Equal_Bound l l = some true := by
  apply Has.val
  unfold slices_Equal_Bound
  refine Has.neg (by simp) (Has.seq (P := fun t : Step Unit Bool => t = .next ()) ?_ (fun _ _ => Has.ret rfl) (fun o ho => by cases ho))
  refine Has.loop (fun i : Int => 0 ≤ i ∧ i ≤ l.length) (fun i => (l.length - i).toNat) (fun t : Step Unit Bool => t = .next ()) ⟨Int.le_refl _, by omega⟩ (by omega) fun i ⟨i1, i2⟩ => ?_
  unfold slices_Equal_Bound.l1
  refine Has.ite (fun hi => ?_) fun hi => Has.ret (.done rfl)
  have hi : i < l.length := of_decide_eq_true hi
  rw [w6_in (by omega)]
  exact Has.chk ⟨i1, hi⟩ (Has.chk ⟨i1, hi⟩ (Has.neg (by simp) (Has.ret (.next ⟨by omega, by omega⟩ (by omega)))))
end Lf
/- StackBack: taking a field out again leaves the stack of the others. -/
namespace Lf
open Go Go.Abs
set_option linter.unusedVariables false
set_option linter.unusedSimpArgs false
theorem piledFact : spykeep4_piled = some true := by kernel_rfl
theorem equalI_ok (l : List Int) (hl : l.length ≤ 1000000000) : slices_Equal_Int l l = some true := by
  apply Has.val
  unfold slices_Equal_Int
  refine Has.neg (by simp) (Has.seq (P := fun t : Step Unit Bool => t = .next ()) ?_ (fun _ _ => Has.ret rfl) (fun o ho => by cases ho))
  refine Has.loop (fun i : Int => 0 ≤ i ∧ i ≤ l.length) (fun i => (l.length - i).toNat) (fun t : Step Unit Bool => t = .next ()) ⟨Int.le_refl _, by omega⟩ (by omega) fun i ⟨i1, i2⟩ => ?_
  unfold slices_Equal_Int.l1
  refine Has.ite (fun hi => ?_) fun hi => Has.ret (.done rfl)
  have hi : i < l.length := of_decide_eq_true hi
  rw [w6_in (by omega)]
  exact Has.chk ⟨i1, hi⟩ (Has.chk ⟨i1, hi⟩ (Has.neg (by simp) (Has.ret (.next ⟨by omega, by omega⟩ (by omega)))))
theorem cloneC_ok {l : List Cells} (h : l ≠ []) (hl : l.length ≤ 1000000) : slices_Clone_Cells l = some l := by
  apply Has.val
  unfold slices_Clone_Cells nilF
  cases l with
  | nil => exact absurd rfl h
  | cons x xs =>
    refine Has.bind (P := fun z => z = false) (Has.ret rfl) fun z hz => Has.neg (by rw [hz]; simp) (Has.chk (roomyI (by simp only [List.length_nil]; omega) (by simp only [List.length_nil]; omega)) (Has.ret rfl))
/-- A list without one of its things. -/
def cut {α : Type} (l : List α) (k : Int) : List α := l.take k.toNat ++ l.drop (k + 1).toNat
theorem sum_cut {α : Type} [Cl α] (g : α → Int) (l : List α) {k : Int} (k0 : 0 ≤ k) (k1 : k < l.length) : sumI (fun j => g (gt l j)) l.length = sumI (fun j => g (gt (cut l k) j)) (cut l k).length + g (gt l k) := by
  have e : l = (l.take k.toNat ++ [gt l k]) ++ l.drop (k + 1).toNat := by rw [← take_snoc l k0 k1, List.take_append_drop]
  unfold cut
  rw [sumI_append]
  have e2 := sumI_append g (l.take k.toNat ++ [gt l k]) (l.drop (k + 1).toNat)
  rw [← e, sumI_snoc] at e2
  omega
theorem cut_len {α : Type} (l : List α) {k : Int} (k0 : 0 ≤ k) (k1 : k < l.length) : ((cut l k).length : Int) = l.length - 1 := by
  unfold cut; simp; omega
theorem cut_mem {α : Type} {l : List α} {k : Int} {x : α} (h : x ∈ cut l k) : x ∈ l := by
  rcases List.mem_append.1 h with h | h
  · exact List.mem_of_mem_take h
  · exact List.mem_of_mem_drop h
theorem remove_ok {s : stack_Stack} {w h : Int} {a : List Cells} {k : Int} (z : size w h) (hs : stk s w h a) (hf : ∀ c ∈ a, fld w h c) (ha : a.length ≤ 8) (k0 : 0 ≤ k) (k1 : k < a.length) :
    Has (stack_Remove s (gt a k)) fun r => r.2 = 0 ∧ stk r.1 w h (cut a k) := by
  have zn := z.n
  have hc := hf _ (gt_mem a k ⟨k0, k1⟩)
  have fc : ∀ c ∈ cut a k, fld w h c := fun c h => hf c (cut_mem h)
  have cl := cut_len a k0 k1
  generalize hcc : gt a k = c at *
  have hal := hs.al; have hhl := hs.hl
  have hcl : (c.At.length : Int) = w * h := by rw [hc.f.len, hc.ew, hc.eh]
  have sh : ∀ i, hol a i = hol (cut a k) i + unk i c := fun i => by have := sum_cut (unk i) a k0 k1; rw [hcc] at this; exact this
  have sl : ∀ i, slo a i = slo (cut a k) i + klo i c := fun i => by have := sum_cut (klo i) a k0 k1; rw [hcc] at this; exact this
  have su : ∀ i, shi a i = shi (cut a k) i + khi i c := fun i => by have := sum_cut (khi i) a k0 k1; rw [hcc] at this; exact this
  unfold stack_Remove
  rw [stackFit_ok z hs hf ha hc, copied_ok z hs, hs.n]
  simp only [Option.bind_some, bne_self_eq_false, Bool.false_eq_true, if_false]
  refine Has.neg (fun e => by have e := eq_of_beq e; omega) ?_
  rw [hs.n]
  refine (Has.loop (fun t : List Int × List Bound × Int => 0 ≤ t.2.2 ∧ t.2.2 ≤ c.At.length ∧ (t.1.length : Int) = w * h ∧ (t.2.1.length : Int) = w * h ∧ (allI t.1 fun i x => x = if i < t.2.2 then hol (cut a k) i else hol a i) ∧ allI t.2.1 fun i b => b = if i < t.2.2 then ⟨slo (cut a k) i, shi (cut a k) i, false⟩ else ⟨slo a i, shi a i, false⟩) (fun t => (c.At.length - t.2.2).toNat)
    (fun o : List Int × List Bound => (o.1.length : Int) = w * h ∧ (o.2.length : Int) = w * h ∧ (allI o.1 fun i x => x = hol (cut a k) i) ∧ allI o.2 fun i b => b = ⟨slo (cut a k) i, shi (cut a k) i, false⟩) ⟨Int.le_refl _, by simp only []; omega, hhl, hal, allI_mono hs.hole fun i x i0 i1 hx => by rw [hx, if_neg (by simp only []; omega)], allI_mono hs.at_ fun i x i0 i1 hx => by rw [hx, if_neg (by simp only []; omega)]⟩ (by simp only []; omega) fun t ⟨t1, t2, t3, t4, t5, t6⟩ => ?_).bind
    fun o ⟨o1, o2, o3, o4⟩ => ?_
  · unfold stack_Remove.l1
    refine Has.ite (fun hi => ?_) fun hi => ?_
    · have hi : t.2.2 < c.At.length := of_decide_eq_true hi
      obtain ⟨b1, b2, b3, b4, b5⟩ := stk_bd hf t1 (show t.2.2 < w * h by omega)
      obtain ⟨d1, d2, d3, d4, d5⟩ := stk_bd fc t1 (show t.2.2 < w * h by omega)
      have e5 : gt t.1 t.2.2 = hol a t.2.2 := by rw [t5 t.2.2 t1 (by omega), if_neg (by omega)]
      have e6 : gt t.2.1 t.2.2 = ⟨slo a t.2.2, shi a t.2.2, false⟩ := by rw [t6 t.2.2 t1 (by omega), if_neg (by omega)]
      have vh := sh t.2.2; have vl := sl t.2.2; have vu := su t.2.2
      rw [e5, e6]
      refine Has.bind (P := fun o : List Int × List Bound => (o.1.length : Int) = w * h ∧ (o.2.length : Int) = w * h ∧ (allI o.1 fun i x => x = if i < t.2.2 + 1 then hol (cut a k) i else hol a i) ∧ allI o.2 fun i b => b = if i < t.2.2 + 1 then ⟨slo (cut a k) i, shi (cut a k) i, false⟩ else ⟨slo a i, shi a i, false⟩) (Has.chk ⟨t1, hi⟩ (Has.ite (fun hu => ?_) fun hu => ?_)) fun o ⟨o1, o2, o3, o4⟩ => ?_
      · have hu : (gt c.At t.2.2).Unknown = true := hu
        refine Has.chk ⟨t1, by omega⟩ (Has.ret ⟨by simp only [List.length_set]; exact t3, t4, ?_, ?_⟩)
        · refine allI_upd t5 t1 (fun j x j0 j1 jn hx => ?_) ?_
          · rw [hx]
            by_cases e : j < t.2.2
            · rw [if_pos e, if_pos (by omega)]
            · rw [if_neg e, if_neg (by omega)]
          · rw [if_pos (by omega), w6_in (by omega)]
            unfold unk at vh; rw [if_pos hu] at vh; omega
        · refine allI_mono t6 fun j x j0 j1 hx => ?_
          rw [hx]
          by_cases e : j < t.2.2
          · rw [if_pos e, if_pos (by omega)]
          · rw [if_neg e]
            by_cases e2 : j = t.2.2
            · rw [e2, if_pos (by omega)]
              unfold klo at vl; unfold khi at vu
              rw [if_pos hu] at vl vu
              rw [vl, vu]; simp
            · rw [if_neg (by omega)]
      · have hu : (gt c.At t.2.2).Unknown = false := by simpa using hu
        have hun : ¬ (gt c.At t.2.2).Unknown = true := by rw [hu]; simp
        unfold klo at vl; unfold khi at vu; unfold unk at vh
        rw [if_neg hun] at vl vu vh
        refine Has.chk ⟨t1, by omega⟩ (Has.letF ?_)
        refine Has.ret ⟨t3, by simp only [List.length_set]; exact t4, ?_, ?_⟩
        · refine allI_mono t5 fun j x j0 j1 hx => ?_
          rw [hx]
          by_cases e : j < t.2.2
          · rw [if_pos e, if_pos (by omega)]
          · rw [if_neg e]
            by_cases e2 : j = t.2.2
            · rw [e2, if_pos (by omega)]; omega
            · rw [if_neg (by omega)]
        · refine allI_upd t6 t1 (fun j x j0 j1 jn hx => ?_) ?_
          · rw [hx]
            by_cases e : j < t.2.2
            · rw [if_pos e, if_pos (by omega)]
            · rw [if_neg e, if_neg (by omega)]
          · rw [if_pos (by omega)]
            simp only []
            rw [w6_in (n := slo a t.2.2 - (gt c.At t.2.2).Lo) (by omega), w6_in (n := shi a t.2.2 - (gt c.At t.2.2).Hi) (by omega)]
            have e1 : slo a t.2.2 - (gt c.At t.2.2).Lo = slo (cut a k) t.2.2 := by omega
            have e2 : shi a t.2.2 - (gt c.At t.2.2).Hi = shi (cut a k) t.2.2 := by omega
            rw [e1, e2]
      · rw [w6_in (by omega)]
        exact Has.ret (.next ⟨by simp only []; omega, by simp only []; omega, o1, o2, o3, o4⟩ (by simp only []; omega))
    · have hi : ¬ t.2.2 < c.At.length := fun q => hi (decide_eq_true q)
      exact Has.ret (.done ⟨t3, t4, allI_mono t5 fun i x i0 i1 hx => by rw [hx, if_pos (by have : i < (t.1.length : Int) := i1; omega)], allI_mono t6 fun i x i0 i1 hx => by rw [hx, if_pos (by have : i < (t.2.1.length : Int) := i1; omega)]⟩)
  · have st : stk ⟨s.W, s.H, w6 ((a.length : Int) - 1), o.1, o.2⟩ w h (cut a k) := ⟨hs.ew, hs.eh, by simp only []; rw [w6_in (by omega)]; omega, o1, o2, o3, o4⟩
    rw [stackCheck_ok z st fc (by omega)]
    simp only [Option.bind_some, bne_self_eq_false, Bool.false_eq_true, if_false]
    exact Has.ret ⟨rfl, st⟩
theorem stk.eq {s t : stack_Stack} {w h : Int} {a : List Cells} (hs : stk s w h a) (ht : stk t w h a) : s.Holes = t.Holes ∧ s.At = t.At := by
  have h1 := hs.hl; have h2 := ht.hl; have h3 := hs.al; have h4 := ht.al
  exact ⟨gt_ext (by omega) fun i i0 i1 => by rw [hs.hole i i0 i1, ht.hole i i0 (by omega)], gt_ext (by omega) fun i i0 i1 => by rw [hs.at_ i i0 i1, ht.at_ i i0 (by omega)]⟩
theorem StackBack_true (l : List Int) (out : Int) (hl : okL l) (ho : -9223372036854775808 ≤ out ∧ out ≤ 9223372036854775807) : spykeep4_StackBack l out = some true := by
  apply Has.val
  have h0 := okS.start hl
  unfold spykeep4_StackBack
  refine (range_ok _ 1 6 h0 (by simp only []; omega) (by omega) (by omega) (by omega)).bind fun r1 ⟨w0, w1, s1⟩ => ?_
  have o1 := s1.ok h0 (by simp only []; omega); have b1 := s1.hi
  simp only [] at b1
  refine (range_ok _ 1 6 o1 (by omega) (by omega) (by omega) (by omega)).bind fun r2 ⟨g0, g1, s2⟩ => ?_
  have o2 := s2.ok o1 (by omega); have b2 := s2.hi
  refine (range_ok _ 1 8 o2 (by omega) (by omega) (by omega) (by omega)).bind fun r3 ⟨n0, n1, s3⟩ => ?_
  have o3 := s3.ok o2 (by omega); have b3 := s3.hi
  have z : size r1.1 r2.1 := ⟨w0, by omega, g0, by omega⟩
  have zn := z.n
  refine Has.bind (P := fun a : List Cells => (a.length : Int) = r3.1 ∧ ∀ c ∈ a, fld r1.1 r2.1 c) ?_ fun a ⟨al, fa⟩ => ?_
  · refine Has.loop (fun t : spymake_Stream × List Cells × Int => after r3.2 t.1 (10000 * t.2.2) ∧ 0 ≤ t.2.2 ∧ t.2.2 ≤ r3.1 ∧ (t.2.1.length : Int) = t.2.2 ∧ ∀ c ∈ t.2.1, fld r1.1 r2.1 c) (fun t => (r3.1 - t.2.2).toNat) _ ⟨after.refl _, Int.le_refl _, by simp only []; omega, rfl, by simp⟩ (by simp only []; omega) fun t ⟨t1, t2, t3, t4, t5⟩ => ?_
    have hht := t1.hi
    unfold spykeep4_StackBack.l1
    refine Has.ite (fun hi => ?_) fun hi => ?_
    · have hi : t.2.2 < r3.1 := of_decide_eq_true hi
      have hT := t1.ok o3 (by omega)
      refine (field_ok _ r1.1 r2.1 z hT (by omega)).bind fun q ⟨q1, q2⟩ => ?_
      rw [w6_in (n := t.2.2 + 1) (by omega)]
      refine Has.chk (roomyI (by simp; omega) (by simp; omega)) (Has.ret (.next ⟨(t1.trans q2).more (by simp only []; omega), by simp only []; omega, by simp only []; omega, by simp; omega, fun c hc => ?_⟩ (by simp only []; omega)))
      rcases List.mem_append.1 hc with h | h
      · exact t5 c h
      · simp at h; rw [h]; exact q1
    · have hi : ¬ t.2.2 < r3.1 := fun q => hi (decide_eq_true q)
      exact Has.ret (.done ⟨by omega, t5⟩)
  refine (below_ok out r3.1 ho (by omega)).bind fun k ⟨k0, k1⟩ => ?_
  have k1' : k < a.length := by omega
  refine (added_ok z fa (by omega)).bind fun x ⟨x1, x2⟩ => Has.chk ⟨k0, k1'⟩ ?_
  refine (remove_ok z x2 fa (by omega) k0 k1').bind fun y ⟨y1, y2⟩ => ?_
  rw [cloneC_ok (fun e => by rw [e] at k1'; simp at k1'; omega) (by omega), w6_in (n := k + 1) (by omega), piledFact]
  simp only [Option.bind_some]
  have eD : slices_Delete_Cells a k (k + 1) = some (cut a k) := by
    unfold slices_Delete_Cells
    rw [if_pos ⟨k0, by omega, by omega⟩]
    rfl
  rw [eD]
  simp only [Option.bind_some]
  have cl := cut_len a k0 k1'
  refine (added_ok z (fun c h => fa c (cut_mem h)) (by omega)).bind fun v ⟨v1, v2⟩ => ?_
  obtain ⟨q1, q2⟩ := y2.eq v2
  have yh := y2.hl; have ya := y2.al
  rw [x1, y1, v1, ← q1, ← q2, equalI_ok _ (by omega), equal_ok _ (by omega), y2.n, y2.ew, y2.eh, v2.ew, v2.eh, w6_in (n := r3.1 - 1) (by omega)]
  simp only [Bool.not_true, bne_self_eq_false, Bool.false_eq_true, if_false, Option.bind_some, beq_self_eq_true, if_true]
  refine Has.bind (P := fun w => w = true) (Has.pos (by simp; omega) (Has.ret rfl)) fun w hw => Has.ret hw
end Lf
