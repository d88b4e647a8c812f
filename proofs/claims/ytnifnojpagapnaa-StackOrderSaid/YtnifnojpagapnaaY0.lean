/- Laws of the plain functions. Conditions: as each theorem states them. -/
import Derived.Test.YtnifnojpagapnaaD
import Derived.Test.YtnifnojpagapnaaA4
import Derived.Lib.Mul64
/- Plain facts of streams and bounds, for the functions of StoD. -/
namespace Lf
open Go Go.Abs
set_option linter.unusedVariables false
set_option linter.unusedSimpArgs false
/-! streams -/
/-- What a stream must be. -/
structure okS (s : spymake_Stream) : Prop where
  z : ∀ z ∈ s.L, -9223372036854775808 ≤ z ∧ z ≤ 9223372036854775807
  len : s.L.length ≤ 17592186044416
  a0 : 0 ≤ s.at_
  a1 : s.at_ ≤ 4611686018427387904
theorem okS.start {l : List Int} (h : okL l) : okS (spymake_Stream.mk l 0) := ⟨h.z, by have := h.len; simp only []; omega, Int.le_refl _, by simp only []; omega⟩
/-- What is true of a stream that another one has become. -/
structure after (s t : spymake_Stream) (k : Int) : Prop where
  L : t.L = s.L
  lo : s.at_ ≤ t.at_
  hi : t.at_ ≤ s.at_ + k
theorem after.refl (s : spymake_Stream) : after s s 0 := ⟨rfl, Int.le_refl _, by omega⟩
theorem after.trans {s t u : spymake_Stream} {k m : Int} (h : after s t k) (g : after t u m) : after s u (k + m) := ⟨g.L.trans h.L, Int.le_trans h.lo g.lo, by have := h.hi; have := g.hi; omega⟩
theorem after.more {s t : spymake_Stream} {k m : Int} (h : after s t k) (hk : k ≤ m) : after s t m := ⟨h.L, h.lo, by have := h.hi; omega⟩
theorem after.ok {s t : spymake_Stream} {k : Int} (h : after s t k) (g : okS s) (hk : s.at_ + k ≤ 4611686018427387904) : okS t := ⟨by rw [h.L]; exact g.z, by rw [h.L]; exact g.len, by have := h.lo; have := g.a0; omega, by have := h.hi; omega⟩
theorem below_ok (x n : Int) (hx : -9223372036854775808 ≤ x ∧ x ≤ 9223372036854775807) (hn : 1 ≤ n ∧ n ≤ 9223372036854775807) : Has (spymake_Below x n) fun v => 0 ≤ v ∧ v < n := by
  unfold spymake_Below
  have h1 := Int.lt_tmod_of_pos x (b := n) (by omega)
  have h2 := Int.tmod_lt_of_pos x (b := n) (by omega)
  refine Has.neg (by simp; omega) (Has.chk (by omega) (Has.ite (fun h => Has.ret ?_) fun h => Has.ret ?_))
  · simp only [decide_eq_true_eq] at h; rw [w6_in (by omega)]; omega
  · simp only [decide_eq_true_eq] at h; omega
theorem below_zero (x n : Int) (hn : n ≤ 0) : spymake_Below x n = some 0 := by unfold spymake_Below; rw [if_pos (by simp; omega)]
theorem next_ok (s : spymake_Stream) (n : Int) (hs : okS s) (ha : s.at_ < 4611686018427387904) (hn : 1 ≤ n ∧ n ≤ 9223372036854775807) : Has (Stream_Next s n) fun r => 0 ≤ r.1 ∧ r.1 < n ∧ after s r.2 1 := by
  have h0 := hs.a0
  have hl := hs.len
  have e1 : w6 (s.at_ + 1) = s.at_ + 1 := w6_in (by omega)
  have fin : after s (spymake_Stream.mk s.L (s.at_ + 1)) 1 := ⟨rfl, by simp only []; omega, Int.le_refl _⟩
  unfold Stream_Next
  simp only [e1]
  refine Has.ite (fun hz => ?_) fun hz => ?_
  · exact (below_ok _ n (w6_bd _) hn).bind fun v hv => Has.ret ⟨hv.1, hv.2, fin⟩
  · have hz : s.L.length ≠ 0 := by simpa using hz
    have e2 : w6 (s.at_ + 1 - 1) = s.at_ := by rw [w6_in (by omega)]; omega
    have b1 := Int.tmod_nonneg (s.L.length : Int) hs.a0
    have b2 := Int.tmod_lt_of_pos s.at_ (b := (s.L.length : Int)) (by omega)
    simp only [e2]
    refine Has.chk (by omega) (Has.chk ⟨b1, b2⟩ ?_)
    refine (below_ok _ 1073741824 (hs.z _ (gt_mem _ _ ⟨b1, b2⟩)) (by omega)).bind fun v hv => Has.letF (Has.letF ?_)
    exact (below_ok _ n (w6_bd _) hn).bind fun u hu => Has.ret ⟨hu.1, hu.2, fin⟩
theorem range_ok (s : spymake_Stream) (lo hi : Int) (hs : okS s) (ha : s.at_ < 4611686018427387904) (h : lo ≤ hi) (h1 : -2305843009213693952 ≤ lo) (h2 : hi ≤ 2305843009213693952) : Has (Stream_Range s lo hi) fun r => lo ≤ r.1 ∧ r.1 ≤ hi ∧ after s r.2 1 := by
  unfold Stream_Range
  rw [w6_in (n := hi - lo) (by omega), w6_in (n := hi - lo + 1) (by omega)]
  refine Has.neg (by simp; omega) ((next_ok s (hi - lo + 1) hs ha (by omega)).bind fun r hr => Has.ret ?_)
  rw [w6_in (by omega)]
  exact ⟨by omega, by omega, hr.2.2⟩
end Lf
/- Plain facts of bounds. -/
namespace Lf
open Go Go.Abs
set_option linter.unusedVariables false
set_option linter.unusedSimpArgs false
/-- A valid bound. -/
structure Bound.ok (b : Bound) : Prop where
  u : b.Unknown = true → b.Lo = 0 ∧ b.Hi = 0
  lo : -1152921504606846976 ≤ b.Lo
  le : b.Lo ≤ b.Hi
  hi : b.Hi ≤ 1152921504606846976
theorem check_ok {b : Bound} (h : b.ok) : bound_Check b = some 0 := by
  obtain ⟨h1, h2, h3, h4⟩ := h
  unfold bound_Check
  rw [mn2_le h3, mx2_le h3]
  have e1 : ¬ b.Lo < -1152921504606846976 := by omega
  have e2 : ¬ b.Hi > 1152921504606846976 := by omega
  have e3 : ¬ b.Lo > b.Hi := by omega
  cases hu : b.Unknown with
  | false => simp [e1, e2, e3]
  | true => obtain ⟨q1, q2⟩ := h1 hu; simp [q1, q2]
theorem norm_ok {b : Bound} (h : b.ok) : bound_Norm b = some b := by unfold bound_Norm; rw [check_ok h]; rfl
theorem vague_ok {a b : Bound} (ha : a.ok) (hb : b.ok) : bound_vague a b = some (a.Unknown || b.Unknown) := by
  unfold bound_vague; rw [norm_ok ha, norm_ok hb]; cases h : a.Unknown <;> simp [h]
theorem none_ok : bound_None = some ⟨0, 0, true⟩ := rfl
theorem okNone : Bound.ok ⟨0, 0, true⟩ := ⟨fun _ => ⟨rfl, rfl⟩, by decide, by decide, by decide⟩
theorem okKnown {lo hi : Int} (h1 : -1152921504606846976 ≤ lo) (h2 : lo ≤ hi) (h3 : hi ≤ 1152921504606846976) : Bound.ok ⟨lo, hi, false⟩ := ⟨(fun h => nomatch h), h1, h2, h3⟩
theorem of_ok {lo hi : Int} (h1 : -1152921504606846976 ≤ lo) (h2 : lo ≤ hi) (h3 : hi ≤ 1152921504606846976) : bound_Of lo hi = some ⟨lo, hi, false⟩ := by
  unfold bound_Of; rw [norm_ok (okKnown h1 h2 h3)]; rfl
end Lf
/- Sums of bounds; what both admit. -/
namespace Lf
open Go Go.Abs
set_option linter.unusedVariables false
set_option linter.unusedSimpArgs false
theorem add_known {a b : Bound} (ha : a.ok) (hb : b.ok) (ua : a.Unknown = false) (ub : b.Unknown = false) (h1 : -1152921504606846976 ≤ a.Lo + b.Lo) (h2 : a.Hi + b.Hi ≤ 1152921504606846976) : bound_Add a b = some ⟨a.Lo + b.Lo, a.Hi + b.Hi, false⟩ := by
  have := ha.le; have := hb.le
  unfold bound_Add
  rw [vague_ok ha hb, ua, ub]
  simp only [Option.bind_some, Bool.or_self, Bool.false_eq_true, if_false]
  rw [w6_in (by omega), w6_in (by omega), of_ok h1 (by omega) h2]; rfl
theorem add_vague {a b : Bound} (ha : a.ok) (hb : b.ok) (u : (a.Unknown || b.Unknown) = true) : bound_Add a b = some ⟨0, 0, true⟩ := by
  unfold bound_Add
  rw [vague_ok ha hb, u]; rfl
end Lf
/- Fields of light, and bounds of it. -/
namespace Lf
open Go Go.Abs
set_option linter.unusedVariables false
set_option linter.unusedSimpArgs false
/-- A valid field. -/
structure okF (c : Cells) : Prop where
  w0 : 1 ≤ c.W
  w1 : c.W ≤ 32
  h0 : 1 ≤ c.H
  h1 : c.H ≤ 32
  len : (c.At.length : Int) = c.W * c.H
  cell : ∀ b ∈ c.At, b.ok ∧ -1099511627776 ≤ b.Lo ∧ b.Hi ≤ 1099511627776
theorem area {w h : Int} (w0 : 1 ≤ w) (w1 : w ≤ 32) (h0 : 1 ≤ h) (h1 : h ≤ 32) : 1 ≤ w * h ∧ w * h ≤ 1024 := by
  have a := Int.mul_le_mul_of_nonneg_right w1 (show 0 ≤ h by omega)
  have b := Int.mul_le_mul_of_nonneg_right w0 (show 0 ≤ h by omega)
  omega
theorem okF.n1 {c : Cells} (h : okF c) : 1 ≤ (c.At.length : Int) ∧ (c.At.length : Int) ≤ 1024 := by rw [h.len]; exact area h.w0 h.w1 h.h0 h.h1
theorem findCheck_ok {c : Cells} (h : okF c) : find_Check c = some 0 := by
  have hw0 := h.w0; have hw1 := h.w1; have hh0 := h.h0; have hh1 := h.h1
  have hn := h.n1
  have e : w6 (c.W * c.H) = (c.At.length : Int) := by rw [← h.len]; exact w6_in (by omega)
  apply Has.val
  unfold find_Check
  rw [e]
  have g1 : decide (c.W < 1) = false := decide_eq_false (by omega)
  have g2 : decide (c.W > 32) = false := decide_eq_false (by omega)
  have g3 : decide (c.H < 1) = false := decide_eq_false (by omega)
  have g4 : decide (c.H > 32) = false := decide_eq_false (by omega)
  simp only [g1, g2, g3, g4, ite_or, Bool.false_or, bne_self_eq_false, Option.bind_some, Bool.false_eq_true, if_false]
  refine Has.seq (P := fun t : Step Unit Int => t = .next ()) ?_ (fun _ _ => Has.ret rfl) (fun o ho => by cases ho)
  refine Has.loop (fun i : Int => 0 ≤ i ∧ i ≤ c.At.length) (fun i => (c.At.length - i).toNat) (fun t : Step Unit Int => t = .next ()) ⟨Int.le_refl _, by omega⟩ (by omega) fun i ⟨i1, i2⟩ => ?_
  unfold find_Check.l1
  refine Has.ite (fun hi => ?_) fun hi => Has.ret (.done rfl)
  have hi : i < c.At.length := of_decide_eq_true hi
  obtain ⟨b1, b2, b3⟩ := h.cell _ (gt_mem c.At i ⟨i1, hi⟩)
  refine Has.chk ⟨i1, hi⟩ ?_
  rw [check_ok b1]
  have g5 : decide ((gt c.At i).Lo < (-1099511627776)) = false := decide_eq_false (by omega)
  have g6 : decide ((gt c.At i).Hi > 1099511627776) = false := decide_eq_false (by omega)
  simp only [Option.bind_some, bne_self_eq_false, Bool.false_eq_true, if_false, g5, g6, ite_or, Bool.false_or]
  rw [w6_in (by omega)]
  exact Has.ret (.next ⟨by omega, by omega⟩ (by omega))
end Lf
/- Stacks of fields. -/
namespace Lf
open Go Go.Abs
set_option linter.unusedVariables false
set_option linter.unusedSimpArgs false
def sumI (f : Int → Int) : Nat → Int
  | 0 => 0
  | n + 1 => sumI f n + f n
theorem sumI_congr {f g : Int → Int} : ∀ {n : Nat}, (∀ j : Int, 0 ≤ j → j < n → f j = g j) → sumI f n = sumI g n
  | 0, _ => rfl
  | n + 1, h => by
    unfold sumI
    rw [sumI_congr fun j j0 j1 => h j j0 (by omega), h n (by omega) (by omega)]
theorem sumI_snoc {α : Type} [Cl α] (g : α → Int) (a : List α) (c : α) : sumI (fun j => g (gt (a ++ [c]) j)) (a ++ [c]).length = sumI (fun j => g (gt a j)) a.length + g c := by
  have e : (a ++ [c]).length = a.length + 1 := by simp
  rw [e, sumI, gt_snoc_eq rfl]
  congr 1
  exact sumI_congr fun j j0 j1 => by rw [gt_snoc_lt j0 j1]
def unk (i : Int) (c : Cells) : Int := if (gt c.At i).Unknown = true then 1 else 0
def klo (i : Int) (c : Cells) : Int := if (gt c.At i).Unknown = true then 0 else (gt c.At i).Lo
def khi (i : Int) (c : Cells) : Int := if (gt c.At i).Unknown = true then 0 else (gt c.At i).Hi
def hol (a : List Cells) (i : Int) : Int := sumI (fun j => unk i (gt a j)) a.length
def slo (a : List Cells) (i : Int) : Int := sumI (fun j => klo i (gt a j)) a.length
def shi (a : List Cells) (i : Int) : Int := sumI (fun j => khi i (gt a j)) a.length
/-- A valid field of a size. -/
structure fld (w h : Int) (c : Cells) : Prop where
  f : okF c
  ew : c.W = w
  eh : c.H = h
/-- A stack of some fields. -/
structure stk (s : stack_Stack) (w h : Int) (a : List Cells) : Prop where
  ew : s.W = w
  eh : s.H = h
  n : s.N = a.length
  hl : (s.Holes.length : Int) = w * h
  al : (s.At.length : Int) = w * h
  hole : allI s.Holes fun i x => x = hol a i
  at_ : allI s.At fun i b => b = ⟨slo a i, shi a i, false⟩
/-- What is known of sums of so many cells. -/
theorem sums_bd {a : List Cells} {w h i : Int} (hf : ∀ c ∈ a, fld w h c) (i0 : 0 ≤ i) (i1 : i < w * h) : ∀ n : Nat, n ≤ a.length →
    0 ≤ sumI (fun j => unk i (gt a j)) n ∧ sumI (fun j => unk i (gt a j)) n ≤ n ∧ -(1099511627776 * (n - sumI (fun j => unk i (gt a j)) n)) ≤ sumI (fun j => klo i (gt a j)) n ∧ sumI (fun j => klo i (gt a j)) n ≤ sumI (fun j => khi i (gt a j)) n ∧ sumI (fun j => khi i (gt a j)) n ≤ 1099511627776 * (n - sumI (fun j => unk i (gt a j)) n)
  | 0, _ => by simp [sumI]
  | n + 1, hn => by
    have ih := sums_bd hf i0 i1 n (by omega)
    have fc := hf _ (gt_mem a n ⟨by omega, by omega⟩)
    have hc := fc.f.cell _ (gt_mem (gt a (n : Int)).At i ⟨i0, by rw [fc.f.len, fc.ew, fc.eh]; exact i1⟩)
    have hle := hc.1.le
    simp only [sumI]
    have e : (gt (gt a (n : Int)).At i).Unknown = true ∨ (gt (gt a (n : Int)).At i).Unknown = false := by cases (gt (gt a (n : Int)).At i).Unknown <;> simp
    unfold unk klo khi at *
    rcases e with e | e
    · simp only [e, if_true]
      omega
    · simp only [e, Bool.false_eq_true, if_false]
      omega
theorem stk_bd {a : List Cells} {w h i : Int} (hf : ∀ c ∈ a, fld w h c) (i0 : 0 ≤ i) (i1 : i < w * h) :
    0 ≤ hol a i ∧ hol a i ≤ a.length ∧ -(1099511627776 * (a.length - hol a i)) ≤ slo a i ∧ slo a i ≤ shi a i ∧ shi a i ≤ 1099511627776 * (a.length - hol a i) := sums_bd hf i0 i1 a.length (Nat.le_refl _)
/-- A size that fields may have. -/
structure size (w h : Int) : Prop where
  w0 : 1 ≤ w
  w1 : w ≤ 32
  h0 : 1 ≤ h
  h1 : h ≤ 32
theorem size.n {w h : Int} (z : size w h) : 1 ≤ w * h ∧ w * h ≤ 1024 := area z.w0 z.w1 z.h0 z.h1
theorem stackCheck_ok {s : stack_Stack} {w h : Int} {a : List Cells} (z : size w h) (hs : stk s w h a) (hf : ∀ c ∈ a, fld w h c) (ha : a.length ≤ 8) : stack_Check s = some 0 := by
  have zn := z.n
  have e : w6 (s.W * s.H) = w * h := by rw [hs.ew, hs.eh]; exact w6_in (by omega)
  apply Has.val
  unfold stack_Check
  rw [e, hs.al, hs.hl, hs.ew, hs.eh, hs.n]
  have z1 := z.w0; have z2 := z.w1; have z3 := z.h0; have z4 := z.h1
  have g1 : decide (w < 1) = false := decide_eq_false (by omega)
  have g2 : decide (w > 32) = false := decide_eq_false (by omega)
  have g3 : decide (h < 1) = false := decide_eq_false (by omega)
  have g4 : decide (h > 32) = false := decide_eq_false (by omega)
  have g5 : decide ((a.length : Int) < 0) = false := decide_eq_false (by omega)
  have g6 : decide ((a.length : Int) > 8) = false := decide_eq_false (by omega)
  simp only [g1, g2, g3, g4, g5, g6, ite_or, Bool.false_or, bne_self_eq_false, Option.bind_some, Bool.false_eq_true, if_false]
  refine Has.seq (P := fun t : Step Unit Int => t = .next ()) ?_ (fun _ _ => Has.ret rfl) (fun o ho => by cases ho)
  refine Has.loop (fun i : Int => 0 ≤ i ∧ i ≤ s.At.length) (fun i => (s.At.length - i).toNat) (fun t : Step Unit Int => t = .next ()) ⟨Int.le_refl _, by omega⟩ (by have := hs.al; omega) fun i ⟨i1, i2⟩ => ?_
  unfold stack_Check.l1
  refine Has.ite (fun hi => ?_) fun hi => Has.ret (.done rfl)
  have hi : i < s.At.length := of_decide_eq_true hi
  have hal := hs.al; have hhl := hs.hl
  have eb : gt s.At i = ⟨slo a i, shi a i, false⟩ := hs.at_ i i1 hi
  have eh : gt s.Holes i = hol a i := hs.hole i i1 (by omega)
  obtain ⟨b1, b2, b3, b4, b5⟩ := stk_bd hf i1 (show i < w * h by omega)
  rw [eb, eh, hs.n]
  have ok : Bound.ok ⟨slo a i, shi a i, false⟩ := okKnown (by omega) b4 (by omega)
  rw [check_ok ok]
  refine Has.chk ⟨i1, hi⟩ ?_
  simp only [Option.bind_some, bne_self_eq_false, Bool.false_eq_true, if_false]
  refine Has.chk ⟨i1, by omega⟩ ?_
  rw [w6_in (n := (a.length : Int) - hol a i) (by omega), w6_in (n := ((a.length : Int) - hol a i) * 1099511627776) (by omega), w6_in (n := 0 - ((a.length : Int) - hol a i) * 1099511627776) (by omega), w6_in (n := i + 1) (by omega)]
  have k1 : decide ((a.length : Int) - hol a i < 0) = false := decide_eq_false (by omega)
  have k2 : decide ((a.length : Int) - hol a i > a.length) = false := decide_eq_false (by omega)
  have k3 : decide (slo a i < 0 - ((a.length : Int) - hol a i) * 1099511627776) = false := decide_eq_false (by omega)
  have k4 : decide (shi a i > ((a.length : Int) - hol a i) * 1099511627776) = false := decide_eq_false (by omega)
  simp only [Abs.letF, k1, k2, k3, k4, Bool.false_eq_true, if_false, Option.bind_some]
  exact Has.ret (.next ⟨by omega, by omega⟩ (by omega))
theorem stackFit_ok {s : stack_Stack} {w h : Int} {a : List Cells} {c : Cells} (z : size w h) (hs : stk s w h a) (hf : ∀ c ∈ a, fld w h c) (ha : a.length ≤ 8) (hc : fld w h c) : stack_fit s c = some 0 := by
  unfold stack_fit
  rw [stackCheck_ok z hs hf ha, findCheck_ok hc.f, hs.ew, hs.eh, hc.ew, hc.eh]
  simp
theorem cloneI_ok {l : List Int} (h : l ≠ []) (hl : l.length ≤ 1000000) : slices_Clone_Int l = some l := by
  apply Has.val
  unfold slices_Clone_Int nilF
  cases l with
  | nil => exact absurd rfl h
  | cons x xs =>
    refine Has.bind (P := fun z => z = false) (Has.ret rfl) fun z hz => Has.neg (by rw [hz]; simp) (Has.chk (roomyI (by simp only [List.length_nil]; omega) (by simp only [List.length_nil]; omega)) (Has.ret rfl))
theorem cloneB_ok {l : List Bound} (h : l ≠ []) (hl : l.length ≤ 1000000) : slices_Clone_Bound l = some l := by
  apply Has.val
  unfold slices_Clone_Bound nilF
  cases l with
  | nil => exact absurd rfl h
  | cons x xs =>
    refine Has.bind (P := fun z => z = false) (Has.ret rfl) fun z hz => Has.neg (by rw [hz]; simp) (Has.chk (roomyI (by simp only [List.length_nil]; omega) (by simp only [List.length_nil]; omega)) (Has.ret rfl))
theorem copied_ok {s : stack_Stack} {w h : Int} {a : List Cells} (z : size w h) (hs : stk s w h a) : stack_copied s = some s := by
  have zn := z.n
  have h1 := hs.hl; have h2 := hs.al
  unfold stack_copied
  rw [cloneI_ok (fun e => by rw [e] at h1; simp at h1; omega) (by omega), cloneB_ok (fun e => by rw [e] at h2; simp at h2; omega) (by omega)]
  rfl
theorem stackNew_ok {w h : Int} (z : size w h) : Has (stack_New w h) fun r => r.2 = 0 ∧ stk r.1 w h [] := by
  have zn := z.n
  have z1 := z.w0; have z2 := z.w1; have z3 := z.h0; have z4 := z.h1
  unfold stack_New
  rw [w6_in (n := w * h) (by omega)]
  have g1 : decide (w < 1) = false := decide_eq_false (by omega)
  have g2 : decide (w > 32) = false := decide_eq_false (by omega)
  have g3 : decide (h < 1) = false := decide_eq_false (by omega)
  have g4 : decide (h > 32) = false := decide_eq_false (by omega)
  simp only [g1, g2, g3, g4, ite_or, Bool.false_or, Option.bind_some, Bool.false_eq_true, if_false]
  exact Has.chk ⟨by omega, Int.le_refl _, roomyI (by omega) (by omega)⟩ (Has.chk ⟨by omega, Int.le_refl _, roomyI (by omega) (by omega)⟩ (Has.ret ⟨rfl, rfl, rfl, rfl, by simp; omega, by simp; omega, allI_rep fun i _ _ => rfl, allI_rep fun i _ _ => rfl⟩))
theorem stackAdd_ok {s : stack_Stack} {w h : Int} {a : List Cells} {c : Cells} (z : size w h) (hs : stk s w h a) (hf : ∀ c ∈ a, fld w h c) (ha : a.length < 8) (hc : fld w h c) :
    Has (stack_Add s c) fun r => r.2 = 0 ∧ stk r.1 w h (a ++ [c]) := by
  have zn := z.n
  have hal := hs.al; have hhl := hs.hl
  have hcl : (c.At.length : Int) = w * h := by rw [hc.f.len, hc.ew, hc.eh]
  unfold stack_Add
  rw [stackFit_ok z hs hf (by omega) hc, copied_ok z hs, hs.n]
  simp only [Option.bind_some, bne_self_eq_false, Bool.false_eq_true, if_false]
  refine Has.neg (by simp; omega) ?_
  have sh : ∀ i, hol (a ++ [c]) i = hol a i + unk i c := fun i => sumI_snoc (unk i) a c
  have sl : ∀ i, slo (a ++ [c]) i = slo a i + klo i c := fun i => sumI_snoc (klo i) a c
  have su : ∀ i, shi (a ++ [c]) i = shi a i + khi i c := fun i => sumI_snoc (khi i) a c
  refine (Has.loop (fun t : List Int × List Bound × Int => 0 ≤ t.2.2 ∧ t.2.2 ≤ c.At.length ∧ (t.1.length : Int) = w * h ∧ (t.2.1.length : Int) = w * h ∧ (allI t.1 fun i x => x = if i < t.2.2 then hol (a ++ [c]) i else hol a i) ∧ allI t.2.1 fun i b => b = if i < t.2.2 then ⟨slo (a ++ [c]) i, shi (a ++ [c]) i, false⟩ else ⟨slo a i, shi a i, false⟩) (fun t => (c.At.length - t.2.2).toNat)
    (fun o : List Int × List Bound => (o.1.length : Int) = w * h ∧ (o.2.length : Int) = w * h ∧ (allI o.1 fun i x => x = hol (a ++ [c]) i) ∧ allI o.2 fun i b => b = ⟨slo (a ++ [c]) i, shi (a ++ [c]) i, false⟩) ⟨Int.le_refl _, by simp only []; omega, hhl, hal, allI_mono hs.hole fun i x i0 i1 hx => by rw [if_neg (by simp only []; omega)]; exact hx, allI_mono hs.at_ fun i x i0 i1 hx => by rw [if_neg (by simp only []; omega)]; exact hx⟩ (by simp only []; omega) fun t ⟨t1, t2, t3, t4, t5, t6⟩ => ?_).bind
    fun o ⟨o1, o2, o3, o4⟩ => Has.ret ⟨rfl, hs.ew, hs.eh, by simp only []; rw [hs.n, w6_in (by omega)]; simp, o1, o2, o3, o4⟩
  unfold stack_Add.l1
  refine Has.ite (fun hi => ?_) fun hi => ?_
  · have hi : t.2.2 < c.At.length := of_decide_eq_true hi
    obtain ⟨b1, b2, b3, b4, b5⟩ := stk_bd hf t1 (show t.2.2 < w * h by omega)
    obtain ⟨c1, c2, c3⟩ := hc.f.cell _ (gt_mem c.At t.2.2 ⟨t1, hi⟩)
    have cle := c1.le
    have e5 : gt t.1 t.2.2 = hol a t.2.2 := by rw [t5 t.2.2 t1 (by omega), if_neg (by omega)]
    have e6 : gt t.2.1 t.2.2 = ⟨slo a t.2.2, shi a t.2.2, false⟩ := by rw [t6 t.2.2 t1 (by omega), if_neg (by omega)]
    rw [e5, e6]
    refine Has.bind (P := fun o : List Int × List Bound => (o.1.length : Int) = w * h ∧ (o.2.length : Int) = w * h ∧ (allI o.1 fun i x => x = if i < t.2.2 + 1 then hol (a ++ [c]) i else hol a i) ∧ allI o.2 fun i b => b = if i < t.2.2 + 1 then ⟨slo (a ++ [c]) i, shi (a ++ [c]) i, false⟩ else ⟨slo a i, shi a i, false⟩) (Has.chk ⟨t1, hi⟩ (Has.ite (fun hu => ?_) fun hu => ?_)) fun o ⟨o1, o2, o3, o4⟩ => ?_
    · have hu : (gt c.At t.2.2).Unknown = true := hu
      refine Has.chk ⟨t1, by omega⟩ (Has.ret ⟨by simp only [List.length_set]; exact t3, t4, ?_, ?_⟩)
      · refine allI_upd t5 t1 (fun j x j0 j1 jn hx => ?_) ?_
        · rw [hx]
          by_cases e : j < t.2.2
          · rw [if_pos e, if_pos (by omega)]
          · rw [if_neg e, if_neg (by omega)]
        · rw [if_pos (by omega), w6_in (by omega), sh]
          unfold unk; rw [if_pos hu]
      · refine allI_mono t6 fun j x j0 j1 hx => ?_
        rw [hx]
        by_cases e : j < t.2.2
        · rw [if_pos e, if_pos (by omega)]
        · rw [if_neg e]
          by_cases e2 : j = t.2.2
          · rw [e2, if_pos (by omega), sl, su]
            unfold klo khi
            rw [if_pos hu, if_pos hu]; simp
          · rw [if_neg (by omega)]
    · have hu : (gt c.At t.2.2).Unknown = false := by simpa using hu
      have hun : ¬ (gt c.At t.2.2).Unknown = true := by rw [hu]; simp
      refine Has.chk ⟨t1, by omega⟩ ?_
      rw [add_known (okKnown (by omega) b4 (by omega)) c1 rfl hu (by simp only []; omega) (by simp only []; omega)]
      refine Has.ret ⟨t3, by simp only [List.length_set]; exact t4, ?_, ?_⟩
      · refine allI_mono t5 fun j x j0 j1 hx => ?_
        rw [hx]
        by_cases e : j < t.2.2
        · rw [if_pos e, if_pos (by omega)]
        · rw [if_neg e]
          by_cases e2 : j = t.2.2
          · rw [e2, if_pos (by omega), sh]
            unfold unk; rw [if_neg hun]; simp
          · rw [if_neg (by omega)]
      · refine allI_upd t6 t1 (fun j x j0 j1 jn hx => ?_) ?_
        · rw [hx]
          by_cases e : j < t.2.2
          · rw [if_pos e, if_pos (by omega)]
          · rw [if_neg e, if_neg (by omega)]
        · rw [if_pos (by omega), sl, su]
          unfold klo khi
          rw [if_neg hun, if_neg hun]
    · rw [w6_in (by omega)]
      exact Has.ret (.next ⟨by simp only []; omega, by simp only []; omega, o1, o2, o3, o4⟩ (by simp only []; omega))
  · have hi : ¬ t.2.2 < c.At.length := fun q => hi (decide_eq_true q)
    exact Has.ret (.done ⟨t3, t4, allI_mono t5 fun i x i0 i1 hx => by rw [hx, if_pos (by have : i < (t.1.length : Int) := i1; omega)], allI_mono t6 fun i x i0 i1 hx => by rw [hx, if_pos (by have : i < (t.2.1.length : Int) := i1; omega)]⟩)
end Lf
/- Words of 64 bits: lengths, products, quotients. -/
namespace Lf
open Go Go.Abs
set_option linter.unusedVariables false
set_option linter.unusedSimpArgs false
theorem wu_in {n : Int} (h : 0 ≤ n ∧ n < 18446744073709551616) : IntKind.wrap .u64 n = n := by rw [IntKind.wrap_u64]; omega
theorem wu_def (n : Int) : IntKind.wrap .u64 n = n % 18446744073709551616 := IntKind.wrap_u64 n
theorem wu_bd (n : Int) : 0 ≤ IntKind.wrap .u64 n ∧ IntKind.wrap .u64 n < 18446744073709551616 := by rw [wu_def]; omega
theorem w8_in {n : Int} (h : 0 ≤ n ∧ n < 256) : IntKind.wrap .u8 n = n := by rw [IntKind.wrap_u8]; omega
theorem fdiv_pow (x : Int) (k : Nat) : Int.fdiv x (2 ^ k) = x / 2 ^ k := Int.fdiv_eq_ediv_of_nonneg x (Int.le_of_lt (Int.pow_pos (by decide)))
theorem u_nat {x : Int} (h : 0 ≤ x ∧ x < 18446744073709551616) : (BitVec.ofInt 64 x).toNat = x.toNat := by
  rw [BitVec.toNat_ofInt]; omega
theorem and_low {x : Int} (h : 0 ≤ x ∧ x < 18446744073709551616) : IntKind.wrap .u64 ((BitVec.ofInt 64 x &&& BitVec.ofInt 64 4294967295).toNat : Int) = x % 4294967296 := by
  rw [BitVec.toNat_and, u_nat h, u_nat (by omega), show (4294967295 : Int).toNat = 2 ^ 32 - 1 from rfl, Nat.and_two_pow_sub_one_eq_mod, wu_in (by omega)]
  omega
theorem xor_all {x : Int} (h : 0 ≤ x ∧ x < 18446744073709551616) : IntKind.wrap .u64 ((BitVec.ofInt 64 (18446744073709551615) ^^^ BitVec.ofInt 64 x).toNat : Int) = 18446744073709551615 - x := by
  have e : BitVec.ofInt 64 18446744073709551615 = BitVec.allOnes 64 := by decide
  rw [e, BitVec.allOnes_xor, BitVec.toNat_not, u_nat h, wu_in (by omega)]
  omega
theorem or_add {x y : Int} (k : Nat) (hx : 0 ≤ x) (hy : 0 ≤ y ∧ y < 2 ^ k) (h : x * 2 ^ k + y < 18446744073709551616) (hk : 0 ≤ x * 2 ^ k) : IntKind.wrap .u64 ((BitVec.ofInt 64 (x * 2 ^ k) ||| BitVec.ofInt 64 y).toNat : Int) = x * 2 ^ k + y := by
  rw [BitVec.toNat_or, u_nat (by omega), u_nat (by omega)]
  obtain ⟨a, rfl⟩ := Int.eq_ofNat_of_zero_le hx
  obtain ⟨b, rfl⟩ := Int.eq_ofNat_of_zero_le hy.1
  have e : ((a : Int) * 2 ^ k).toNat = a <<< k := by
    rw [Nat.shiftLeft_eq]
    have : (a : Int) * 2 ^ k = ((a * 2 ^ k : Nat) : Int) := by simp
    rw [this]; rfl
  have hb : b < 2 ^ k := by
    have := hy.2
    exact_mod_cast this
  rw [e, show ((b : Int)).toNat = b from rfl, ← Nat.shiftLeft_add_eq_or_of_lt hb, Nat.shiftLeft_eq]
  have e2 : ((a * 2 ^ k + b : Nat) : Int) = (a : Int) * 2 ^ k + b := by simp
  rw [e2, wu_in (by omega)]
/-! ### lengths -/
theorem tab_ok : ∀ i : Fin 256, (tab1.getD i.val 0).toNat ≤ 8 ∧ i.val < 2 ^ (tab1.getD i.val 0).toNat ∧ (0 < i.val → 1 ≤ (tab1.getD i.val 0).toNat ∧ 2 ^ ((tab1.getD i.val 0).toNat - 1) ≤ i.val) := by decide +kernel
theorem tab_len : tab1.length = 256 := by decide +kernel
theorem len_fin {x : Int} (c : Nat) (hx : 0 ≤ x) (hc : c ≤ 56) (h : x / 2 ^ c < 256) (hp : 0 < c → 2 ^ c ≤ x) : Has (if (0 : Int) ≤ IntKind.wrap .u8 (x / 2 ^ c) ∧ (IntKind.wrap .u8 (x / 2 ^ c)).toNat < tab1.length then some (w6 ((c : Int) + (w6 (tabAt tab1 (IntKind.wrap .u8 (x / 2 ^ c)))))) else none) fun n => ∃ k : Nat, n = k ∧ k ≤ 64 ∧ x < 2 ^ k ∧ (0 < x → 1 ≤ k ∧ 2 ^ (k - 1) ≤ x) := by
  have p : (0 : Int) < 2 ^ c := Int.pow_pos (by decide)
  have h0 : 0 ≤ x / 2 ^ c := Int.ediv_nonneg hx (Int.le_of_lt p)
  rw [w8_in ⟨h0, h⟩, tab_len]
  obtain ⟨t1, t2, t3⟩ := tab_ok ⟨(x / 2 ^ c).toNat, by omega⟩
  simp only [] at t1 t2 t3
  have e : tabAt tab1 (x / 2 ^ c) = ((tab1.getD (x / 2 ^ c).toNat 0).toNat : Int) := rfl
  generalize (tab1.getD (x / 2 ^ c).toNat 0).toNat = t at *
  refine Has.chk ⟨h0, by omega⟩ (Has.ret ⟨c + t, ?_, by omega, ?_, fun h1 => ?_⟩)
  · have e3 : w6 (t : Int) = t := w6_in (by omega)
    rw [e, e3, w6_in (by omega)]; omega
  · have : x / 2 ^ c < 2 ^ t := by
      have : (((x / 2 ^ c).toNat : Nat) : Int) < ((2 ^ t : Nat) : Int) := Int.ofNat_lt.2 t2
      rw [Int.toNat_of_nonneg h0] at this
      simpa using this
    have := (Int.ediv_lt_iff_lt_mul p).1 this
    rw [Nat.add_comm, Int.pow_add]; exact this
  · have h3 : 0 < (x / 2 ^ c).toNat := by
      have : 1 ≤ x / 2 ^ c := by
        rw [Int.le_ediv_iff_mul_le p]
        rcases Nat.eq_zero_or_pos c with rfl | hcp
        · simp; omega
        · have := hp hcp; omega
      omega
    obtain ⟨k1, k2⟩ := t3 h3
    refine ⟨by omega, ?_⟩
    have k2' : (2 : Int) ^ (t - 1) ≤ x / 2 ^ c := by
      have : ((2 ^ (t - 1) : Nat) : Int) ≤ (((x / 2 ^ c).toNat : Nat) : Int) := Int.ofNat_le.2 k2
      rw [Int.toNat_of_nonneg h0] at this
      simpa using this
    have := (Int.le_ediv_iff_mul_le p).1 k2'
    rw [show c + t - 1 = (t - 1) + c by omega, Int.pow_add]; exact this
theorem len64_ok (x : Int) (hx : 0 ≤ x ∧ x < 18446744073709551616) : Has (bits_Len64 x) fun n => ∃ k : Nat, n = k ∧ k ≤ 64 ∧ x < 2 ^ k ∧ (0 < x → 1 ≤ k ∧ 2 ^ (k - 1) ≤ x) := by
  have d0 : Int.fdiv x (2 ^ 32) = x / 2 ^ 32 := fdiv_pow x 32
  have d1 : Int.fdiv x (2 ^ 16) = x / 2 ^ 16 := fdiv_pow x 16
  have d2 : Int.fdiv x (2 ^ 8) = x / 2 ^ 8 := fdiv_pow x 8
  have d3 : Int.fdiv (x / 2 ^ 32) (2 ^ 16) = x / 2 ^ 48 := by rw [fdiv_pow]; omega
  have d4 : Int.fdiv (x / 2 ^ 48) (2 ^ 8) = x / 2 ^ 56 := by rw [fdiv_pow]; omega
  have d5 : Int.fdiv (x / 2 ^ 32) (2 ^ 8) = x / 2 ^ 40 := by rw [fdiv_pow]; omega
  have d6 : Int.fdiv (x / 2 ^ 16) (2 ^ 8) = x / 2 ^ 24 := by rw [fdiv_pow]; omega
  unfold bits_Len64
  simp only [d0, d1, d2, d3, d4, d5, d6, decide_eq_true_eq]
  refine Has.ite (fun h1 => Has.ite (fun h2 => Has.ite (fun h3 => ?_) fun h3 => ?_) fun h2 => Has.ite (fun h3 => ?_) fun h3 => ?_) fun h1 => Has.ite (fun h2 => Has.ite (fun h3 => ?_) fun h3 => ?_) fun h2 => Has.ite (fun h3 => ?_) fun h3 => ?_
  · exact len_fin 56 hx.1 (by omega) (by omega) (by omega)
  · exact len_fin 48 hx.1 (by omega) (by omega) (by omega)
  · exact len_fin 40 hx.1 (by omega) (by omega) (by omega)
  · exact len_fin 32 hx.1 (by omega) (by omega) (by omega)
  · exact len_fin 24 hx.1 (by omega) (by omega) (by omega)
  · exact len_fin 16 hx.1 (by omega) (by omega) (by omega)
  · exact len_fin 8 hx.1 (by omega) (by omega) (by omega)
  · have := len_fin (x := x) 0 hx.1 (by omega) (by omega) (by omega)
    simpa using this
end Lf
/- The quotient of a number of 128 bits by one of 64. -/
namespace Lf
open Go Go.Abs
set_option linter.unusedVariables false
set_option linter.unusedSimpArgs false
/-- A digit of the quotient, guessed too large or right. -/
structure Dig (a b u d q r : Int) : Prop where
  e : q * a + r = u
  r0 : 0 ≤ r
  lo : (u * 4294967296 + d) / (a * 4294967296 + b) ≤ q
  hi : q ≤ 4294967297
/-- What stands fast while a digit is sought. -/
structure Dg (a b u d : Int) : Prop where
  a0 : 2147483648 ≤ a
  a1 : a < 4294967296
  b0 : 0 ≤ b
  b1 : b < 4294967296
  d0 : 0 ≤ d
  d1 : d < 4294967296
  u0 : 0 ≤ u
  uv : u < a * 4294967296 + b
section
variable {a b u d q r : Int}
theorem Dg.q0 (g : Dg a b u d) : 0 ≤ (u * 4294967296 + d) / (a * 4294967296 + b) := Int.ediv_nonneg (by have := g.u0; have := g.d0; omega) (by have := g.a0; have := g.b0; omega)
theorem Dg.qB (g : Dg a b u d) : (u * 4294967296 + d) / (a * 4294967296 + b) < 4294967296 := by
  have := g.a0; have := g.b0; have := g.uv; have := g.d1; have := g.u0; have := g.d0
  rw [Int.ediv_lt_iff_lt_mul (by omega)]; omega
theorem Dg.test (g : Dg a b u d) (h : q * a + r = u) : (u * 4294967296 + d) / (a * 4294967296 + b) < q ↔ r * 4294967296 + d < q * b := by
  have := g.a0; have := g.b0
  rw [Int.ediv_lt_iff_lt_mul (by omega), Int.mul_add, ← Int.mul_assoc]
  omega
theorem Dg.first (g : Dg a b u d) : Dig a b u d (u / a) (u % a) := by
  have := g.a0; have := g.b0; have := g.u0; have := g.uv; have := g.d1; have := g.b1
  have e1 : u / a * a + u % a = u := by rw [Int.mul_comm]; exact Int.mul_ediv_add_emod u a
  have r0 := Int.emod_nonneg u (b := a) (by omega)
  have r1 := Int.emod_lt_of_pos u (b := a) (by omega)
  refine ⟨e1, r0, ?_, ?_⟩
  · by_cases h : u / a < (u * 4294967296 + d) / (a * 4294967296 + b)
    · have hq := (Int.le_ediv_iff_mul_le (by omega)).1 (show u / a + 1 ≤ (u * 4294967296 + d) / (a * 4294967296 + b) by omega)
      rw [Int.add_mul, Int.mul_add, ← Int.mul_assoc] at hq
      have hs : 0 ≤ u / a * b := Int.mul_nonneg (Int.ediv_nonneg g.u0 (by omega)) g.b0
      omega
    · omega
  · have : u / a < 4294967298 := by rw [Int.ediv_lt_iff_lt_mul (by omega)]; omega
    omega
theorem Dg.down (g : Dg a b u d) (h : Dig a b u d q r) (ht : (u * 4294967296 + d) / (a * 4294967296 + b) < q) : Dig a b u d (q - 1) (r + a) :=
  ⟨by have := h.e; rw [Int.sub_mul]; omega, by have := h.r0; have := g.a0; omega, by omega, by have := h.hi; omega⟩
theorem Dg.stop (g : Dg a b u d) (h : Dig a b u d q r) (hr : 4294967296 ≤ r) (hq : q ≤ 4294967296) : q = (u * 4294967296 + d) / (a * 4294967296 + b) := by
  have hn : ¬ (u * 4294967296 + d) / (a * 4294967296 + b) < q := by
    rw [g.test h.e]
    have h0 : 0 ≤ q := Int.le_trans g.q0 h.lo
    have := Int.mul_le_mul_of_nonneg_left (show b ≤ 4294967295 by have := g.b1; omega) h0
    have := g.d0
    omega
  have := h.lo
  omega
/-- One test: is the digit too large? -/
theorem Dg.asks (g : Dg a b u d) (h : Dig a b u d q r) (hr : r < 4294967296) (v : Int) (hv : v = IntKind.wrap .u64 (IntKind.wrap .u64 (4294967296 * r) + d)) : Has (if (decide (q ≥ 4294967296)) = true then some true else some (decide ((IntKind.wrap .u64 (q * b)) > v))) fun z => z = decide ((u * 4294967296 + d) / (a * 4294967296 + b) < q) := by
  have h0 : 0 ≤ q := Int.le_trans g.q0 h.lo
  refine Has.ite (fun hc => Has.ret ?_) fun hc => Has.ret ?_
  · have := g.qB
    simp only [decide_eq_true_eq] at hc
    exact (decide_eq_true (by omega)).symm
  · simp only [decide_eq_true_eq] at hc
    have h1 := Int.mul_le_mul_of_nonneg_left (show b ≤ 4294967295 by have := g.b1; omega) h0
    have h2 := Int.mul_nonneg h0 g.b0
    have := h.r0; have := g.d0; have := g.d1
    rw [hv, wu_in (n := q * b) (by omega), wu_in (n := 4294967296 * r) (by omega), wu_in (by omega)]
    have key := g.test (q := q) (r := r) h.e
    by_cases ht : (u * 4294967296 + d) / (a * 4294967296 + b) < q
    · rw [decide_eq_true ht, decide_eq_true]; have := key.1 ht; omega
    · rw [decide_eq_false ht, decide_eq_false]; have := mt key.2 ht; omega
end
theorem div_l1 {v7 b v13 u d : Int} {a : Int} (ea : Int.fdiv v7 (2 ^ 32) = a) (ed : Int.fdiv v13 (2 ^ 32) = d) (g : Dg a b u d) (s : Int × Int) (h : Dig a b u d s.1 s.2) (hr : s.2 < 4294967296) :
    Has (loopF (bits_Div64.l1 v7 b v13) s) fun o => o = (u * 4294967296 + d) / (a * 4294967296 + b) := by
  refine Has.loop (fun s : Int × Int => Dig a b u d s.1 s.2 ∧ s.2 < 4294967296) (fun s => s.1.toNat) (fun o : Int => o = (u * 4294967296 + d) / (a * 4294967296 + b)) ⟨h, hr⟩ (by have := h.hi; show s.1.toNat < _; omega) fun s ⟨h, hr⟩ => ?_
  unfold bits_Div64.l1
  simp only [ea, ed]
  have hq := h.hi; have h0 := h.r0; have a0 := g.a0; have a1 := g.a1; have q0 := g.q0; have hl := h.lo
  refine (g.asks h hr _ rfl).bind fun z hz => ?_
  subst hz
  refine Has.ite (fun ht => ?_) fun ht => ?_
  · have ht := of_decide_eq_true ht
    have k := g.down h ht
    rw [wu_in (n := s.2 + a) (by omega), wu_in (n := s.1 - 1) (by omega)]
    refine Has.letF (Has.ite (fun hc => Has.ret (.done ?_)) fun hc => Has.ret (.next ⟨k, ?_⟩ ?_))
    · exact g.stop k (by simpa using hc) (by omega)
    · simpa using hc
    · simp only []; omega
  · have ht : ¬ _ := fun x => ht (decide_eq_true x)
    exact Has.ret (.done (by omega))
theorem div_l2 {v7 b d u : Int} {a : Int} (ea : Int.fdiv v7 (2 ^ 32) = a) (g : Dg a b u d) (s : Int × Int) (h : Dig a b u d s.2 s.1) (hr : s.1 < 4294967296) :
    Has (loopF (bits_Div64.l2 v7 b d) s) fun o => o = (u * 4294967296 + d) / (a * 4294967296 + b) := by
  refine Has.loop (fun s : Int × Int => Dig a b u d s.2 s.1 ∧ s.1 < 4294967296) (fun s => s.2.toNat) (fun o : Int => o = (u * 4294967296 + d) / (a * 4294967296 + b)) ⟨h, hr⟩ (by have := h.hi; show s.2.toNat < _; omega) fun s ⟨h, hr⟩ => ?_
  unfold bits_Div64.l2
  simp only [ea]
  have hq := h.hi; have h0 := h.r0; have a0 := g.a0; have a1 := g.a1; have q0 := g.q0; have hl := h.lo
  refine (g.asks h hr _ rfl).bind fun z hz => ?_
  subst hz
  refine Has.ite (fun ht => ?_) fun ht => ?_
  · have ht := of_decide_eq_true ht
    have k := g.down h ht
    rw [wu_in (n := s.1 + a) (by omega), wu_in (n := s.2 - 1) (by omega)]
    refine Has.letF (Has.ite (fun hc => Has.ret (.done ?_)) fun hc => Has.ret (.next ⟨k, ?_⟩ ?_))
    · exact g.stop k (by simpa using hc) (by omega)
    · simpa using hc
    · simp only []; omega
  · have ht : ¬ _ := fun x => ht (decide_eq_true x)
    exact Has.ret (.done (by omega))
end Lf
/- The quotient of a number of 128 bits by one of 64: the whole. -/
namespace Lf
open Go Go.Abs
set_option linter.unusedVariables false
set_option linter.unusedSimpArgs false
theorem div_norm {hi lo y p m : Int} (hp : 0 < p) (hm : 0 < m) (hpm : p * m = 18446744073709551616) (h0 : 0 ≤ hi) (h1 : hi < y) (l0 : 0 ≤ lo) (l1 : lo < 18446744073709551616) (y0 : m ≤ y + y) (y1 : y < m) :
    9223372036854775808 ≤ y * p ∧ y * p < 18446744073709551616 ∧ 0 ≤ hi * p ∧ hi * p + p ≤ y * p ∧ 0 ≤ lo / m ∧ lo / m < p ∧ 0 ≤ lo % m * p ∧ lo % m * p < 18446744073709551616 ∧ lo * p = 18446744073709551616 * (lo / m) + lo % m * p := by
  have c : m * p = 18446744073709551616 := by rw [Int.mul_comm]; exact hpm
  have k1 := Int.mul_le_mul_of_nonneg_right y0 (Int.le_of_lt hp)
  have k2 := Int.mul_lt_mul_of_pos_right y1 hp
  have k3 := Int.mul_nonneg h0 (Int.le_of_lt hp)
  have k4 := Int.mul_le_mul_of_nonneg_right (show hi + 1 ≤ y by omega) (Int.le_of_lt hp)
  have k5 := Int.ediv_nonneg l0 (Int.le_of_lt hm)
  have k6 : lo / m < p := by rw [Int.ediv_lt_iff_lt_mul hm, hpm]; exact l1
  have e1 := Int.emod_nonneg lo (b := m) (by omega)
  have e2 := Int.emod_lt_of_pos lo hm
  have k7 := Int.mul_nonneg e1 (Int.le_of_lt hp)
  have k8 := Int.mul_lt_mul_of_pos_right e2 hp
  have k9 : lo * p = 18446744073709551616 * (lo / m) + lo % m * p := by
    have := Int.mul_ediv_add_emod lo m
    conv => lhs; rw [← this]
    rw [Int.add_mul, Int.mul_assoc, Int.mul_comm (lo / m) p, ← Int.mul_assoc, c]
  rw [Int.add_mul] at k1
  rw [Int.add_mul, Int.one_mul] at k4
  refine ⟨by omega, by omega, k3, k4, k5, k6, k7, by omega, k9⟩
theorem div_fin {U y p Q R : Int} (hp : 0 < p) (hy : 0 < y) (e : U * p = Q * (y * p) + R) (r0 : 0 ≤ R) (r1 : R < y * p) : Q = U / y ∧ R / p = U % y := by
  have e1 : (U - Q * y) * p = R := by rw [Int.sub_mul, Int.mul_assoc]; omega
  have q0 : 0 ≤ U - Q * y := by
    by_cases h : 0 ≤ U - Q * y
    · exact h
    · have := Int.mul_lt_mul_of_pos_right (show U - Q * y < 0 by omega) hp
      omega
  have q1 : U - Q * y < y := by
    by_cases h : U - Q * y < y
    · exact h
    · have := Int.mul_le_mul_of_nonneg_right (show y ≤ U - Q * y by omega) (Int.le_of_lt hp)
      omega
  obtain ⟨a, b⟩ := (Int.ediv_emod_unique hy (a := U) (q := Q) (r := U - Q * y)).2 ⟨by rw [Int.mul_comm y Q]; omega, q0, q1⟩
  refine ⟨a.symm, ?_⟩
  rw [b, ← e1, Int.mul_ediv_cancel _ (by omega)]
theorem div64_ok (hi lo y : Int) (h0 : 0 ≤ hi) (h1 : hi < y) (hy : y < 18446744073709551616) (l0 : 0 ≤ lo) (l1 : lo < 18446744073709551616) :
    Has (bits_Div64 hi lo y) fun r => r = (NU64.mk ((hi * 18446744073709551616 + lo) / y), NU64.mk ((hi * 18446744073709551616 + lo) % y)) := by
  unfold bits_Div64
  refine Has.neg (by simp; omega) (Has.neg (by simp; omega) (Has.ite (fun hz => ?_) fun hz => ?_))
  · have hz : hi = 0 := by simpa using hz
    subst hz
    have q0 := Int.ediv_nonneg l0 (show 0 ≤ y by omega)
    have q1 := Int.ediv_le_self y l0
    have q1 : lo / y ≤ lo := Int.ediv_le_self y l0
    refine Has.chk (by omega) (Has.ret ?_)
    rw [Int.tdiv_eq_ediv_of_nonneg l0, Int.tmod_eq_emod_of_nonneg l0, wu_in (by omega)]
    simp
  · unfold bits_LeadingZeros64
    refine Has.bind (P := fun r => ∃ k : Nat, r = 64 - (k : Int) ∧ k ≤ 64 ∧ y < 2 ^ k ∧ 1 ≤ k ∧ 2 ^ (k - 1) ≤ y) ((len64_ok y ⟨by omega, hy⟩).bind fun n ⟨k, hk, k64, kl, kg⟩ => Has.ret ⟨k, by rw [hk, w6_in (by omega)], k64, kl, kg (by omega)⟩) fun r ⟨k, hr, k64, kl, k1, kg⟩ => ?_
    subst hr
    have hm : (0 : Int) < 2 ^ k := Int.pow_pos (by decide)
    have hp : (0 : Int) < 2 ^ (64 - k) := Int.pow_pos (by decide)
    have hpm : (2 : Int) ^ (64 - k) * 2 ^ k = 18446744073709551616 := by rw [← Int.pow_add, Nat.sub_add_cancel k64]; rfl
    have hmy : (2 : Int) ^ k ≤ y + y := by
      have : (2 : Int) ^ k = 2 ^ (k - 1) * 2 := by rw [← Int.pow_succ]; congr 1; omega
      omega
    obtain ⟨n1, n2, n3, n4, n5, n6, n7, n8, n9⟩ := div_norm hp hm hpm h0 h1 l0 l1 hmy kl
    have s1 : IntKind.wrap .u64 (64 - (k : Int)) = 64 - (k : Int) := wu_in (by omega)
    have s2 : min (64 - (k : Int)).toNat (IntKind.bits .u64) = 64 - k := by
      show min (64 - (k : Int)).toNat 64 = _
      omega
    have s3 : IntKind.wrap .u64 (64 - (64 - (k : Int))) = (k : Int) := by rw [wu_in (by omega)]; omega
    have s4 : min (k : Int).toNat (IntKind.bits .u64) = k := by
      show min (k : Int).toNat 64 = _
      omega
    have low : ∀ x : Int, 0 ≤ x ∧ x < 18446744073709551616 → IntKind.wrap .u64 ((BitVec.ofInt 64 x &&& BitVec.ofInt 64 4294967295).toNat : Int) = x % 4294967296 := fun x h => and_low h
    simp only [s1, s2, s3, s4]
    rw [wu_in (n := y * 2 ^ (64 - k)) ⟨by omega, n2⟩, wu_in (n := hi * 2 ^ (64 - k)) ⟨n3, by omega⟩]
    have f1 : Int.fdiv lo (2 ^ k) = lo / 2 ^ k := fdiv_pow lo k
    rw [f1]
    have w13 : IntKind.wrap .u64 (lo * 2 ^ (64 - k)) = lo % 2 ^ k * 2 ^ (64 - k) := by rw [wu_def]; omega
    rw [w13]
    refine Has.chk (by omega) (Has.letF (Has.letF (Has.letF (Has.chk (by omega) (Has.letF (Has.letF (Has.letF (Has.letF ?_))))))))
    rw [low _ ⟨by omega, n2⟩, or_add (64 - k) h0 ⟨n5, n6⟩ (by omega) n3, low _ ⟨n7, n8⟩]
    generalize hv : y * 2 ^ (64 - k) = v at *
    generalize hu : hi * 2 ^ (64 - k) + lo / 2 ^ k = u at *
    generalize ht : lo % 2 ^ k * 2 ^ (64 - k) = t at *
    have ea : Int.fdiv v (2 ^ 32) = v / 4294967296 := fdiv_pow v 32
    have ed : Int.fdiv t (2 ^ 32) = t / 4294967296 := fdiv_pow t 32
    rw [ea, ed]
    have vv : v / 4294967296 * 4294967296 + v % 4294967296 = v := by omega
    have u0 : 0 ≤ u := by omega
    have uv : u < v := by omega
    have g1 : Dg (v / 4294967296) (v % 4294967296) u (t / 4294967296) := ⟨by omega, by omega, by omega, by omega, by omega, by omega, u0, by omega⟩
    have t1 : IntKind.wrap .u64 (Int.tdiv u (v / 4294967296)) = u / (v / 4294967296) := by
      rw [Int.tdiv_eq_ediv_of_nonneg u0]
      have := Int.ediv_nonneg u0 (show 0 ≤ v / 4294967296 by omega)
      have := Int.ediv_le_self (v / 4294967296) u0
      exact wu_in (by omega)
    have t2 : u / (v / 4294967296) * (v / 4294967296) + u % (v / 4294967296) = u := by rw [Int.mul_comm]; exact Int.mul_ediv_add_emod u _
    have t3 := Int.emod_nonneg u (b := v / 4294967296) (by omega)
    have t4 := Int.emod_lt_of_pos u (b := v / 4294967296) (by omega)
    rw [t1]
    refine Has.chk (by omega) (Has.letF ?_)
    have t7 : 0 ≤ u / (v / 4294967296) * (v / 4294967296) := Int.mul_nonneg (Int.ediv_nonneg u0 (by omega)) (by omega)
    have t5 : IntKind.wrap .u64 (u / (v / 4294967296) * (v / 4294967296)) = u / (v / 4294967296) * (v / 4294967296) := wu_in (by omega)
    have t6 : IntKind.wrap .u64 (u - u / (v / 4294967296) * (v / 4294967296)) = u % (v / 4294967296) := by rw [wu_in (by omega)]; omega
    rw [t5, t6]
    refine (div_l1 ea ed g1 (u / (v / 4294967296), u % (v / 4294967296)) g1.first (by have := g1.a1; show u % (v / 4294967296) < _; omega)).bind fun z hz => ?_
    rw [vv] at hz
    -- the first digit
    have z0 := g1.q0
    have zB := g1.qB
    rw [vv, ← hz] at z0 zB
    have zr := Int.mul_ediv_add_emod (u * 4294967296 + t / 4294967296) v
    rw [← hz] at zr
    have zr0 := Int.emod_nonneg (u * 4294967296 + t / 4294967296) (b := v) (by omega)
    have zr1 := Int.emod_lt_of_pos (u * 4294967296 + t / 4294967296) (b := v) (by omega)
    rw [Int.mul_comm v z] at zr
    generalize hR : (u * 4294967296 + t / 4294967296) % v = R at *
    have x1 : IntKind.wrap .u64 (IntKind.wrap .u64 (IntKind.wrap .u64 (u * 4294967296) + t / 4294967296) - IntKind.wrap .u64 (z * v)) = R := by
      simp only [wu_def]; omega
    refine Has.letF ?_
    simp only [x1]
    have g2 : Dg (v / 4294967296) (v % 4294967296) R (t % 4294967296) := ⟨by omega, by omega, by omega, by omega, by omega, by omega, zr0, by omega⟩
    have y1 : IntKind.wrap .u64 (Int.tdiv R (v / 4294967296)) = R / (v / 4294967296) := by
      rw [Int.tdiv_eq_ediv_of_nonneg zr0]
      have := Int.ediv_nonneg zr0 (show 0 ≤ v / 4294967296 by omega)
      have := Int.ediv_le_self (v / 4294967296) zr0
      exact wu_in (by omega)
    have y2 : R / (v / 4294967296) * (v / 4294967296) + R % (v / 4294967296) = R := by rw [Int.mul_comm]; exact Int.mul_ediv_add_emod R _
    have y3 := Int.emod_nonneg R (b := v / 4294967296) (by omega)
    have y4 := Int.emod_lt_of_pos R (b := v / 4294967296) (by omega)
    have y7 : 0 ≤ R / (v / 4294967296) * (v / 4294967296) := Int.mul_nonneg (Int.ediv_nonneg zr0 (by omega)) (by omega)
    have y5 : IntKind.wrap .u64 (R - IntKind.wrap .u64 (R / (v / 4294967296) * (v / 4294967296))) = R % (v / 4294967296) := by rw [wu_in (n := R / (v / 4294967296) * (v / 4294967296)) (by omega), wu_in (by omega)]; omega
    rw [y1]
    refine Has.letF (Has.letF ?_)
    simp only [y5]
    refine (div_l2 ea g2 (R % (v / 4294967296), R / (v / 4294967296)) g2.first (by have := g2.a1; show R % (v / 4294967296) < _; omega)).bind fun x hx => ?_
    rw [vv] at hx
    have x0 := g2.q0
    have xB := g2.qB
    rw [vv, ← hx] at x0 xB
    have xr := Int.mul_ediv_add_emod (R * 4294967296 + t % 4294967296) v
    rw [← hx] at xr
    have xr0 := Int.emod_nonneg (R * 4294967296 + t % 4294967296) (b := v) (by omega)
    have xr1 := Int.emod_lt_of_pos (R * 4294967296 + t % 4294967296) (b := v) (by omega)
    rw [Int.mul_comm v x] at xr
    generalize hT : (R * 4294967296 + t % 4294967296) % v = T at *
    have w1 : IntKind.wrap .u64 (IntKind.wrap .u64 (IntKind.wrap .u64 (R * 4294967296) + t % 4294967296) - IntKind.wrap .u64 (x * v)) = T := by
      simp only [wu_def]; omega
    have w2 : IntKind.wrap .u64 (IntKind.wrap .u64 (z * 4294967296) + x) = z * 4294967296 + x := by rw [wu_in (n := z * 4294967296) (by omega), wu_in (by omega)]
    refine Has.letF (Has.letF (Has.letF (Has.letF (Has.ret ?_))))
    simp only [w1, w2]
    rw [fdiv_pow T (64 - k)]
    have key : (hi * 18446744073709551616 + lo) * 2 ^ (64 - k) = (z * 4294967296 + x) * (y * 2 ^ (64 - k)) + T := by
      rw [hv, Int.add_mul, Int.add_mul, Int.mul_right_comm, Int.mul_right_comm z]
      omega
    obtain ⟨q1, q2⟩ := div_fin hp (show 0 < y by omega) key xr0 (by rw [hv]; exact xr1)
    rw [q1, q2]
end Lf
/- Products and quotients of whole numbers, by way of 128 bits. -/
namespace Lf
open Go Go.Abs
set_option linter.unusedVariables false
set_option linter.unusedSimpArgs false
theorem w6_def (n : Int) : w6 n = (n + 9223372036854775808) % 18446744073709551616 - 9223372036854775808 := by unfold w6; rw [IntKind.wrap_i64]
def okI (n : Int) : Prop := -9223372036854775808 ≤ n ∧ n ≤ 9223372036854775807
instance (n : Int) : Decidable (okI n) := inferInstanceAs (Decidable (_ ∧ _))
structure okW (w : num_Wide) : Prop where
  h : okI w.Hi
  l0 : 0 ≤ w.Lo.n
  l1 : w.Lo.n < 18446744073709551616
def wv (w : num_Wide) : Int := w.Hi * 18446744073709551616 + w.Lo.n
theorem size_ok (a : Int) (ha : okI a) : Has (num_size a) fun r => 0 ≤ r.n ∧ r.n ≤ 9223372036854775808 ∧ ((0 ≤ a ∧ r.n = a) ∨ (a < 0 ∧ r.n = -a)) := by
  unfold num_size
  have h1 := ha.1; have h2 := ha.2
  refine Has.ite (fun h => Has.ret ?_) fun h => Has.ret ?_
  · have h : a < 0 := by simpa using h
    simp only [wu_def]; omega
  · have h : 0 ≤ a := by simpa using h
    simp only [wu_def]; omega
theorem mul64_ok (x y : Int) (hx : 0 ≤ x ∧ x < 18446744073709551616) (hy : 0 ≤ y ∧ y < 18446744073709551616) : Has (bits_Mul64 x y) fun r => r = (NU64.mk (x * y / 18446744073709551616), NU64.mk (x * y % 18446744073709551616)) := by
  unfold bits_Mul64
  have e1 : Int.fdiv x (2 ^ 32) = x / 4294967296 := fdiv_pow x 32
  have e2 : Int.fdiv y (2 ^ 32) = y / 4294967296 := fdiv_pow y 32
  have bd : ∀ a b : Int, 0 ≤ a → a ≤ 4294967295 → 0 ≤ b → b ≤ 4294967295 → 0 ≤ a * b ∧ a * b ≤ 18446744065119617025 := fun a b a0 a1 b0 b1 => by
    have := Int.mul_nonneg a0 b0
    have h1 := Int.mul_le_mul_of_nonneg_right a1 b0
    omega
  have ex : x * y = x / 4294967296 * (y / 4294967296) * 18446744073709551616 + (x / 4294967296 * (y % 4294967296) + x % 4294967296 * (y / 4294967296)) * 4294967296 + x % 4294967296 * (y % 4294967296) := by
    have h1 : x = x / 4294967296 * 4294967296 + x % 4294967296 := by omega
    have h2 : y = y / 4294967296 * 4294967296 + y % 4294967296 := by omega
    generalize x / 4294967296 = a at *
    generalize x % 4294967296 = b at *
    generalize y / 4294967296 = c at *
    generalize y % 4294967296 = d at *
    subst h1; subst h2
    rw [Int.add_mul, Int.mul_add, Int.mul_add, Int.mul_right_comm a 4294967296, ← Int.mul_assoc a c, Int.mul_assoc (a * c), Int.mul_right_comm a 4294967296 d, ← Int.mul_assoc b c, Int.add_mul]
    omega
  have p1 := bd (x / 4294967296) (y / 4294967296) (by omega) (by omega) (by omega) (by omega)
  have p2 := bd (x / 4294967296) (y % 4294967296) (by omega) (by omega) (by omega) (by omega)
  have p3 := bd (x % 4294967296) (y / 4294967296) (by omega) (by omega) (by omega) (by omega)
  have p4 := bd (x % 4294967296) (y % 4294967296) (by omega) (by omega) (by omega) (by omega)
  simp only [Abs.letF]
  rw [and_low hx, and_low hy, e1, e2, ex]
  generalize x / 4294967296 * (y / 4294967296) = a at *
  generalize x / 4294967296 * (y % 4294967296) = b at *
  generalize x % 4294967296 * (y / 4294967296) = c at *
  generalize x % 4294967296 * (y % 4294967296) = d at *
  rw [wu_in (n := b) (by omega), wu_in (n := d) (by omega)]
  have e3 : Int.fdiv d (2 ^ 32) = d / 4294967296 := fdiv_pow d 32
  rw [e3, wu_in (n := b + d / 4294967296) (by omega), and_low (by omega), wu_in (n := c) (by omega), wu_in (n := (b + d / 4294967296) % 4294967296 + c) (by omega)]
  have e4 : Int.fdiv (b + d / 4294967296) (2 ^ 32) = (b + d / 4294967296) / 4294967296 := fdiv_pow _ 32
  have e5 : Int.fdiv ((b + d / 4294967296) % 4294967296 + c) (2 ^ 32) = ((b + d / 4294967296) % 4294967296 + c) / 4294967296 := fdiv_pow _ 32
  refine Has.ret ?_
  rw [e4, e5]
  clear e1 e2 e3 e4 e5 ex hx hy bd
  have q1 : d = 4294967296 * (d / 4294967296) + d % 4294967296 := by omega
  have q2 : 0 ≤ d % 4294967296 ∧ d % 4294967296 < 4294967296 := by omega
  have q3 : 0 ≤ d / 4294967296 ∧ d / 4294967296 ≤ 4294967295 := by omega
  generalize d / 4294967296 = m at *
  generalize d % 4294967296 = d1 at *
  have q4 : b + m = 4294967296 * ((b + m) / 4294967296) + (b + m) % 4294967296 := by omega
  have q5 : 0 ≤ (b + m) % 4294967296 ∧ (b + m) % 4294967296 < 4294967296 := by omega
  have q6 : 0 ≤ (b + m) / 4294967296 ∧ (b + m) / 4294967296 ≤ 4294967295 := by omega
  generalize (b + m) / 4294967296 = n at *
  generalize (b + m) % 4294967296 = r1 at *
  have q7 : r1 + c = 4294967296 * ((r1 + c) / 4294967296) + (r1 + c) % 4294967296 := by omega
  have q8 : 0 ≤ (r1 + c) % 4294967296 ∧ (r1 + c) % 4294967296 < 4294967296 := by omega
  have q9 : 0 ≤ (r1 + c) / 4294967296 ∧ (r1 + c) / 4294967296 ≤ 4294967295 := by omega
  generalize (r1 + c) / 4294967296 = o at *
  generalize (r1 + c) % 4294967296 = r2 at *
  have eT : a * 18446744073709551616 + (b + c) * 4294967296 + d = 18446744073709551616 * (a + n + o) + (r2 * 4294967296 + d1) := by omega
  rw [eT, wu_in (n := a) (by omega), wu_in (n := a + n) (by omega), wu_in (n := a + n + o) (by omega), wu_def]
  have : (18446744073709551616 * (a + n + o) + (r2 * 4294967296 + d1)) / 18446744073709551616 = a + n + o := by omega
  rw [this]
theorem wneg_ok (w : num_Wide) (hw : okW w) (hm : -170141183460469231731687303715884105728 < wv w) : Has (Wide_Neg w) fun r => okW r ∧ wv r = - wv w := by
  have h1 := hw.h.1; have h2 := hw.h.2; have h3 := hw.l0; have h4 := hw.l1
  unfold wv at hm
  unfold Wide_Neg
  have b1 := wu_bd w.Hi
  rw [xor_all ⟨h3, h4⟩, xor_all b1]
  refine Has.letF (Has.bind (P := fun r => r = ((18446744073709551615 - w.Lo.n + 1) % 18446744073709551616, (18446744073709551615 - w.Lo.n + 1) / 18446744073709551616)) ?_ fun r hr => Has.letF (Has.bind (P := fun q => q = ((18446744073709551615 - IntKind.wrap .u64 w.Hi + r.2) % 18446744073709551616, (18446744073709551615 - IntKind.wrap .u64 w.Hi + r.2) / 18446744073709551616)) ?_ fun q hq => Has.ret ?_))
  · unfold add64
    rw [if_pos (by omega)]
    exact Has.ret (by simp)
  · subst hr
    unfold add64
    simp only []
    rw [if_pos (by omega)]
    exact Has.ret (by simp)
  · subst hr; subst hq
    simp only [wu_def] at *
    refine ⟨⟨?_, ?_, ?_⟩, ?_⟩
    · exact w6_bd _
    · simp only []; omega
    · simp only []; omega
    · unfold wv
      simp only [w6_def]
      omega
theorem product_ok (a b : Int) (ha : okI a) (hb : okI b) : Has (num_Product a b) fun w => okW w ∧ wv w = a * b ∧ -85070591730234615865843651857942052864 ≤ a * b ∧ a * b ≤ 85070591730234615865843651857942052864 := by
  unfold num_Product
  refine (size_ok a ha).bind fun x ⟨x0, x1, x2⟩ => (size_ok b hb).bind fun y ⟨y0, y1, y2⟩ => ?_
  have p0 := Int.mul_nonneg x0 y0
  have p1 := Int.mul_le_mul_of_nonneg_right x1 y0
  have p : x.n * y.n ≤ 85070591730234615865843651857942052864 := by omega
  refine (mul64_ok x.n y.n (by omega) (by omega)).bind fun r hr => ?_
  subst hr
  simp only []
  have e0 : w6 (x.n * y.n / 18446744073709551616) = x.n * y.n / 18446744073709551616 := w6_in (by omega)
  rw [e0]
  have ow : okW (num_Wide.mk (x.n * y.n / 18446744073709551616) (NU64.mk (x.n * y.n % 18446744073709551616))) := ⟨⟨by simp only []; omega, by simp only []; omega⟩, by simp only []; omega, by simp only []; omega⟩
  have ew : wv (num_Wide.mk (x.n * y.n / 18446744073709551616) (NU64.mk (x.n * y.n % 18446744073709551616))) = x.n * y.n := by unfold wv; simp only []; omega
  refine Has.ite (fun h => ?_) fun h => Has.ret ?_
  · refine (wneg_ok _ ow (by rw [ew]; omega)).bind fun r ⟨h1, h2⟩ => Has.ret ⟨h1, ?_, ?_⟩
    · rw [h2, ew]
      rcases x2 with ⟨s, e⟩ | ⟨s, e⟩ <;> rcases y2 with ⟨t, f⟩ | ⟨t, f⟩
      · exfalso; simp at h; omega
      · rw [e, f, Int.mul_neg, Int.neg_neg]
      · rw [e, f, Int.neg_mul, Int.neg_neg]
      · exfalso; simp at h; omega
    · rcases x2 with ⟨s, e⟩ | ⟨s, e⟩ <;> rcases y2 with ⟨t, f⟩ | ⟨t, f⟩
      · exfalso; simp at h; omega
      · rw [e, f, Int.mul_neg] at p p0; omega
      · rw [e, f, Int.neg_mul] at p p0; omega
      · exfalso; simp at h; omega
  · refine ⟨ow, ?_, ?_⟩
    · rw [ew]
      rcases x2 with ⟨s, e⟩ | ⟨s, e⟩ <;> rcases y2 with ⟨t, f⟩ | ⟨t, f⟩
      · rw [e, f]
      · exfalso; simp at h; omega
      · exfalso; simp at h; omega
      · rw [e, f, Int.neg_mul_neg]
    · rcases x2 with ⟨s, e⟩ | ⟨s, e⟩ <;> rcases y2 with ⟨t, f⟩ | ⟨t, f⟩
      · rw [e, f] at p p0; omega
      · exfalso; simp at h; omega
      · exfalso; simp at h; omega
      · rw [e, f, Int.neg_mul_neg] at p p0; omega
end Lf
/- a * b / c, rounded down and up. -/
namespace Lf
open Go Go.Abs
set_option linter.unusedVariables false
set_option linter.unusedSimpArgs false
theorem neg_div (m d : Int) (hd : 0 < d) : (m % d = 0 ∧ (-m) / d = -(m / d) ∧ (-m) % d = 0) ∨ (0 < m % d ∧ (-m) / d = -(m / d) - 1 ∧ (-m) % d = d - m % d) := by
  have h1 := Int.mul_ediv_add_emod m d
  have h2 := Int.emod_nonneg m (b := d) (by omega)
  have h3 := Int.emod_lt_of_pos m hd
  by_cases h : m % d = 0
  · left
    have := (Int.ediv_emod_unique hd (a := -m) (q := -(m / d)) (r := 0)).2 ⟨by rw [Int.mul_neg]; omega, by omega, by omega⟩
    exact ⟨h, this.1, this.2⟩
  · right
    have := (Int.ediv_emod_unique hd (a := -m) (q := -(m / d) - 1) (r := d - m % d)).2 ⟨by rw [Int.mul_sub, Int.mul_neg]; omega, by omega, by omega⟩
    exact ⟨by omega, this.1, this.2⟩
theorem wdiv_ok (w : num_Wide) (d : Int) (hw : okW w) (hm : -170141183460469231731687303715884105728 < wv w) (hd : 1 ≤ d ∧ d ≤ 9223372036854775807) :
    Has (Wide_Div w d) fun r => (okI (wv w / d) ∧ r = (wv w / d, 0)) ∨ (¬ okI (wv w / d) ∧ r = (0, 2)) := by
  have h1 := hw.h.1; have h2 := hw.h.2; have h3 := hw.l0; have h4 := hw.l1
  have ed : IntKind.wrap .u64 d = d := wu_in (by omega)
  unfold Wide_Div
  simp only [ed, decide_eq_true_eq]
  refine Has.neg (by omega) (Has.ite (fun hn => ?_) fun hn => ?_)
  · refine (wneg_ok w hw hm).bind fun r ⟨r1, r2⟩ => ?_
    have g1 := r1.h.1; have g2 := r1.h.2; have g3 := r1.l0; have g4 := r1.l1
    have em : wv w = -(wv r) := by omega
    have hv : wv w < 0 := by unfold wv; omega
    have hp : 0 ≤ r.Hi := by unfold wv at *; omega
    have eh : IntKind.wrap .u64 r.Hi = r.Hi := wu_in (by omega)
    have ev : r.Hi * 18446744073709551616 + r.Lo.n = wv r := rfl
    rw [eh, em]
    have nd := neg_div (wv r) d (by omega)
    refine Has.ite (fun hc => Has.ret (.inr ⟨?_, rfl⟩)) fun hc => ?_
    · have : (18446744073709551616 : Int) ≤ wv r / d := by
        rw [Int.le_ediv_iff_mul_le (by omega)]; unfold wv; omega
      unfold okI
      omega
    · refine (div64_ok r.Hi r.Lo.n d hp (by omega) (by omega) g3 g4).bind fun q hq => ?_
      subst hq
      simp only [ev]
      have q0 : 0 ≤ wv r / d := Int.ediv_nonneg (by omega) (by omega)
      have q1 : wv r / d < 18446744073709551616 := by
        rw [Int.ediv_lt_iff_lt_mul (by omega)]; unfold wv; omega
      have q2 := Int.emod_nonneg (wv r) (b := d) (by omega)
      generalize wv r / d = q at *
      generalize wv r % d = s at *
      refine Has.pos hn (Has.ite (fun hs => Has.letF ?_) fun hs => ?_)
      · rw [wu_in (n := 9223372036854775808 - 1) (by omega)]
        simp only [decide_eq_true_eq]
        refine Has.ite (fun hb => Has.ret (.inr ⟨?_, rfl⟩)) fun hb => Has.neg (by omega) (Has.pos hs (Has.ret (.inl ⟨?_, ?_⟩)))
        · unfold okI; omega
        · unfold okI; omega
        · simp only [wu_def, w6_def, Prod.mk.injEq, and_true]
          omega
      · refine Has.ite (fun hb => Has.ret (.inr ⟨?_, rfl⟩)) fun hb => Has.neg (by omega) (Has.neg hs (Has.ret (.inl ⟨?_, ?_⟩)))
        · unfold okI; omega
        · unfold okI; omega
        · simp only [wu_def, w6_def, Prod.mk.injEq, and_true]
          omega
  · have eh : IntKind.wrap .u64 w.Hi = w.Hi := wu_in (by omega)
    have ev : w.Hi * 18446744073709551616 + w.Lo.n = wv w := rfl
    have v0 : 0 ≤ wv w := by unfold wv; omega
    rw [eh]
    refine Has.ite (fun hc => Has.ret (.inr ⟨?_, rfl⟩)) fun hc => ?_
    · have : (18446744073709551616 : Int) ≤ wv w / d := by
        rw [Int.le_ediv_iff_mul_le (by omega)]; unfold wv; omega
      unfold okI
      omega
    · refine (div64_ok w.Hi w.Lo.n d (by omega) (by omega) (by omega) h3 h4).bind fun q hq => ?_
      subst hq
      simp only [ev]
      have q0 : 0 ≤ wv w / d := Int.ediv_nonneg (by omega) (by omega)
      have q1 : wv w / d < 18446744073709551616 := by
        rw [Int.ediv_lt_iff_lt_mul (by omega)]; unfold wv; omega
      generalize wv w / d = q at *
      refine Has.neg hn (Has.ite (fun hb => Has.ret (.inr ⟨?_, rfl⟩)) fun hb => Has.pos (by omega) (Has.ret (.inl ⟨?_, ?_⟩)))
      · unfold okI; omega
      · unfold okI; omega
      · rw [w6_in (by omega)]
theorem wmod_ok (w : num_Wide) (d : Int) (hw : okW w) (hm : -170141183460469231731687303715884105728 < wv w) (hd : 1 ≤ d ∧ d ≤ 9223372036854775807) :
    Has (Wide_Mod w d) fun r => r = wv w % d := by
  have h1 := hw.h.1; have h2 := hw.h.2; have h3 := hw.l0; have h4 := hw.l1
  have ed : IntKind.wrap .u64 d = d := wu_in (by omega)
  unfold Wide_Mod
  simp only [ed, decide_eq_true_eq]
  have red : ∀ h l : Int, (h % d * 18446744073709551616 + l) % d = (h * 18446744073709551616 + l) % d := fun h l => by
    rw [Int.add_emod, Int.mul_emod, Int.emod_emod, ← Int.mul_emod, ← Int.add_emod]
  refine Has.neg (by omega) (Has.ite (fun hn => ?_) fun hn => ?_)
  · refine (wneg_ok w hw hm).bind fun r ⟨r1, r2⟩ => ?_
    have g1 := r1.h.1; have g2 := r1.h.2; have g3 := r1.l0; have g4 := r1.l1
    have em : wv w = -(wv r) := by omega
    have hv : wv w < 0 := by unfold wv; omega
    have hp : 0 ≤ r.Hi := by unfold wv at *; omega
    have eh : IntKind.wrap .u64 r.Hi = r.Hi := wu_in (by omega)
    have ev : r.Hi * 18446744073709551616 + r.Lo.n = wv r := rfl
    have nd := neg_div (wv r) d (by omega)
    rw [eh, em]
    refine Has.chk (by omega) ?_
    rw [Int.tmod_eq_emod_of_nonneg hp]
    refine (div64_ok (r.Hi % d) r.Lo.n d (Int.emod_nonneg _ (by omega)) (Int.emod_lt_of_pos _ (by omega)) (by omega) g3 g4).bind fun q hq => ?_
    subst hq
    simp only [red, ev]
    have q2 := Int.emod_nonneg (wv r) (b := d) (by omega)
    have q3 := Int.emod_lt_of_pos (wv r) (b := d) (by omega)
    refine Has.bind (P := fun _ => True) (Has.ret trivial) fun _ _ => Has.ite (fun hs => Has.ret ?_) fun hs => Has.ret ?_
    · rw [wu_in (by omega), w6_in (by omega)]; omega
    · rw [w6_in (by omega)]; omega
  · have eh : IntKind.wrap .u64 w.Hi = w.Hi := wu_in (by omega)
    have ev : w.Hi * 18446744073709551616 + w.Lo.n = wv w := rfl
    rw [eh]
    refine Has.chk (by omega) ?_
    rw [Int.tmod_eq_emod_of_nonneg (by omega)]
    refine (div64_ok (w.Hi % d) w.Lo.n d (Int.emod_nonneg _ (by omega)) (Int.emod_lt_of_pos _ (by omega)) (by omega) h3 h4).bind fun q hq => ?_
    subst hq
    simp only [red, ev]
    have q2 := Int.emod_nonneg (wv w) (b := d) (by omega)
    have q3 := Int.emod_lt_of_pos (wv w) (b := d) (by omega)
    exact Has.bind (P := fun _ => True) (Has.ret trivial) fun _ _ => Has.ret (w6_in (by omega))
theorem muldiv_ok (a b c : Int) (ha : okI a) (hb : okI b) (hc : 1 ≤ c ∧ c ≤ 9223372036854775807) :
    Has (num_MulDiv a b c) fun r => (okI (a * b / c) ∧ r = (a * b / c, 0)) ∨ (¬ okI (a * b / c) ∧ r = (0, 2)) := by
  unfold num_MulDiv
  refine (product_ok a b ha hb).bind fun w ⟨w1, w2, w3, w4⟩ => (wdiv_ok w c w1 (by omega) hc).bind fun r hr => Has.ret ?_
  rw [w2] at hr
  exact hr
theorem muldivup_ok (a b c : Int) (ha : okI a) (hb : okI b) (hc : 1 ≤ c ∧ c ≤ 9223372036854775807) :
    Has (num_MulDivUp a b c) fun r => (r.2 = 0 → (a * b % c = 0 ∧ r.1 = a * b / c ∨ 0 < a * b % c ∧ r.1 = a * b / c + 1) ∧ okI r.1) ∧ ((okI (a * b / c) ∧ okI (a * b / c + 1)) → r.2 = 0) := by
  unfold num_MulDivUp
  refine (product_ok a b ha hb).bind fun w ⟨w1, w2, w3, w4⟩ => (wdiv_ok w c w1 (by omega) hc).bind fun r hr => ?_
  rw [w2] at hr
  rcases hr with ⟨hk, rfl⟩ | ⟨hk, rfl⟩
  · refine Has.bind (P := fun z => z = decide (a * b % c = 0)) (Has.neg (by simp) ((wmod_ok w c w1 (by omega) hc).bind fun m hm => Has.ret ?_)) fun z hz => ?_
    · rw [hm, w2]; rfl
    · subst hz
      have m0 := Int.emod_nonneg (a * b) (b := c) (by omega)
      refine Has.ite (fun h => Has.ret ⟨fun _ => ⟨.inl ⟨of_decide_eq_true h, rfl⟩, hk⟩, fun _ => rfl⟩) fun h => ?_
      have h : ¬ a * b % c = 0 := fun x => h (decide_eq_true x)
      have k1 := hk.1; have k2 := hk.2
      refine Has.ite (fun h2 => Has.ret ⟨(fun x => by cases x), fun h3 => ?_⟩) fun h2 => Has.ret ⟨fun _ => ?_, fun _ => rfl⟩
      · have h2 : a * b / c = 9223372036854775807 := by simpa using h2
        have := h3.2.2; omega
      · have h2 : a * b / c ≠ 9223372036854775807 := by simpa using h2
        rw [w6_in (by omega)]
        exact ⟨.inr ⟨by omega, rfl⟩, by unfold okI; simp only []; omega⟩
  · refine Has.bind (P := fun z => z = true) (Has.pos (by simp) (Has.ret rfl)) fun z hz => Has.pos hz (Has.ret ⟨(fun x => by cases x), fun h => absurd h.1 hk⟩)
end Lf
/- A bound times n / d, rounded outward. -/
namespace Lf
open Go Go.Abs
set_option linter.unusedVariables false
set_option linter.unusedSimpArgs false
theorem min_ok (x : List Int) (h : x ≠ []) (hl : x.length ≤ 1000000000) : Has (slices_Min_Int x) fun m => m ∈ x ∧ ∀ y ∈ x, m ≤ y := by
  have h0 : 0 < x.length := List.length_pos_iff.2 h
  have ini : ∀ i : Int, 0 ≤ i → i < 1 → gt x 0 ≤ gt x i := fun i h1 h2 => by
    have : i = 0 := by omega
    rw [this]; exact Int.le_refl _
  unfold slices_Min_Int
  refine Has.neg (by simp; omega) (Has.chk (by omega) (Has.bind (P := fun o => o ∈ x ∧ ∀ y ∈ x, o ≤ y) ?_ fun o ho => Has.ret ho))
  refine Has.loop (fun s : Int × Int => 1 ≤ s.2 ∧ s.2 ≤ (x.length : Int) ∧ s.1 ∈ x ∧ ∀ i : Int, 0 ≤ i → i < s.2 → s.1 ≤ gt x i) (fun s => (x.length - s.2).toNat) _ ⟨Int.le_refl _, (by show (1 : Int) ≤ _; omega), gt_mem x 0 ⟨by omega, by omega⟩, ini⟩ (by show ((x.length : Int) - 1).toNat < _; omega) fun s ⟨h1, h2, h3, h4⟩ => ?_
  unfold slices_Min_Int.l1
  refine Has.ite (fun h => ?_) fun h => Has.ret (.done ⟨h3, fun y hy => ?_⟩)
  · have h : s.2 < (x.length : Int) := of_decide_eq_true h
    have hm := gt_mem x s.2 ⟨by omega, h⟩
    have d := mn2_def s.1 (gt x s.2)
    rw [w6_in (by omega)]
    refine Has.chk ⟨by omega, h⟩ (Has.ret (.next ⟨by simp only []; omega, by simp only []; omega, ?_, fun i i1 i2 => ?_⟩ (by simp only []; omega)))
    · show mn2 s.1 (gt x s.2) ∈ x
      rcases d with ⟨e, _⟩ | ⟨e, _⟩ <;> rw [e]
      · exact h3
      · exact hm
    · show mn2 s.1 (gt x s.2) ≤ gt x i
      simp only [] at i2
      by_cases hi : i = s.2
      · rw [hi]; omega
      · have := h4 i i1 (by omega); omega
  · have h : ¬ s.2 < (x.length : Int) := fun q => h (decide_eq_true q)
    obtain ⟨n, hn, rfl⟩ := List.getElem_of_mem hy
    have := h4 n (by omega) (by omega)
    rw [gt_def x n ⟨by omega, by omega⟩] at this
    exact this
theorem max_ok (x : List Int) (h : x ≠ []) (hl : x.length ≤ 1000000000) : Has (slices_Max_Int x) fun m => m ∈ x ∧ ∀ y ∈ x, y ≤ m := by
  have h0 : 0 < x.length := List.length_pos_iff.2 h
  have ini : ∀ i : Int, 0 ≤ i → i < 1 → gt x i ≤ gt x 0 := fun i h1 h2 => by
    have : i = 0 := by omega
    rw [this]; exact Int.le_refl _
  unfold slices_Max_Int
  refine Has.neg (by simp; omega) (Has.chk (by omega) (Has.bind (P := fun o => o ∈ x ∧ ∀ y ∈ x, y ≤ o) ?_ fun o ho => Has.ret ho))
  refine Has.loop (fun s : Int × Int => 1 ≤ s.2 ∧ s.2 ≤ (x.length : Int) ∧ s.1 ∈ x ∧ ∀ i : Int, 0 ≤ i → i < s.2 → gt x i ≤ s.1) (fun s => (x.length - s.2).toNat) _ ⟨Int.le_refl _, (by show (1 : Int) ≤ _; omega), gt_mem x 0 ⟨by omega, by omega⟩, ini⟩ (by show ((x.length : Int) - 1).toNat < _; omega) fun s ⟨h1, h2, h3, h4⟩ => ?_
  unfold slices_Max_Int.l1
  refine Has.ite (fun h => ?_) fun h => Has.ret (.done ⟨h3, fun y hy => ?_⟩)
  · have h : s.2 < (x.length : Int) := of_decide_eq_true h
    have hm := gt_mem x s.2 ⟨by omega, h⟩
    have d := mx2_def s.1 (gt x s.2)
    rw [w6_in (by omega)]
    refine Has.chk ⟨by omega, h⟩ (Has.ret (.next ⟨by simp only []; omega, by simp only []; omega, ?_, fun i i1 i2 => ?_⟩ (by simp only []; omega)))
    · show mx2 s.1 (gt x s.2) ∈ x
      rcases d with ⟨e, _⟩ | ⟨e, _⟩ <;> rw [e]
      · exact h3
      · exact hm
    · show gt x i ≤ mx2 s.1 (gt x s.2)
      simp only [] at i2
      by_cases hi : i = s.2
      · rw [hi]; omega
      · have := h4 i i1 (by omega); omega
  · have h : ¬ s.2 < (x.length : Int) := fun q => h (decide_eq_true q)
    obtain ⟨n, hn, rfl⟩ := List.getElem_of_mem hy
    have := h4 n (by omega) (by omega)
    rw [gt_def x n ⟨by omega, by omega⟩] at this
    exact this
/-- The quotient, rounded up. -/
def cdiv (x d : Int) : Int := -((-x) / d)
theorem cdiv_up {x d : Int} (hd : 0 < d) : (x % d = 0 → cdiv x d = x / d) ∧ (0 < x % d → cdiv x d = x / d + 1) := by
  unfold cdiv
  rcases neg_div x d hd with ⟨a, b, c⟩ | ⟨a, b, c⟩
  · exact ⟨fun _ => by omega, fun h => by omega⟩
  · exact ⟨fun h => by omega, fun _ => by omega⟩
theorem cdiv_mono {x y d : Int} (hd : 0 < d) (h : x ≤ y) : cdiv x d ≤ cdiv y d := by
  unfold cdiv
  have := Int.ediv_le_ediv hd (show -y ≤ -x by omega)
  omega
theorem fl_le_ce {x d : Int} (hd : 0 < d) : x / d ≤ cdiv x d ∧ cdiv x d ≤ x / d + 1 := by
  unfold cdiv
  rcases neg_div x d hd with ⟨a, b, c⟩ | ⟨a, b, c⟩ <;> omega
theorem of_bad {lo hi : Int} (h : lo ≤ hi) (hn : ¬ (-1152921504606846976 ≤ lo ∧ hi ≤ 1152921504606846976)) : bound_Of lo hi = some ⟨0, 0, true⟩ := by
  unfold bound_Of bound_Norm bound_Check
  simp only []
  rw [mn2_le h, mx2_le h]
  by_cases h1 : lo < -1152921504606846976
  · simp [h1, bound_None]
  · have h2 : hi > 1152921504606846976 := by omega
    simp [h1, h2, bound_None]
def fitB (lo hi : Int) : Prop := -1152921504606846976 ≤ lo ∧ hi ≤ 1152921504606846976
instance (lo hi : Int) : Decidable (fitB lo hi) := inferInstanceAs (Decidable (_ ∧ _))
/-- Both roundings of one product. -/
theorem both_ok (x n d L H : Int) (hx : okI x) (hn : okI n) (hd : 1 ≤ d ∧ d ≤ 9223372036854775807) (hL : L ≤ x * n / d) (hH : cdiv (x * n) d ≤ H) :
    ∃ r9 r10, bound_Mul_1 x n d = some r9 ∧ bound_Mul_2 x n d = some r10 ∧ ((r9.2 = 0 ∧ r10.2 = 0 ∧ r9.1 = x * n / d ∧ r10.1 = cdiv (x * n) d) ∨ ((r9.2 ≠ 0 ∨ r10.2 ≠ 0) ∧ ¬ fitB L H)) := by
  obtain ⟨r9, e9, p9⟩ := muldiv_ok x n d hx hn hd
  obtain ⟨r10, e10, p10, p11⟩ := muldivup_ok x n d hx hn hd
  have hc := fl_le_ce (x := x * n) (d := d) (by omega)
  obtain ⟨u1, u2⟩ := cdiv_up (x := x * n) (d := d) (by omega)
  refine ⟨r9, r10, by unfold bound_Mul_1; rw [e9]; rfl, by unfold bound_Mul_2; rw [e10]; rfl, ?_⟩
  by_cases hf : fitB L H
  · left
    obtain ⟨f1, f2⟩ := hf
    have k : okI (x * n / d) := by unfold okI; omega
    have k1 : okI (x * n / d + 1) := by unfold okI; omega
    have z := p11 ⟨k, k1⟩
    rcases p9 with ⟨_, rfl⟩ | ⟨q, _⟩
    · refine ⟨rfl, z, rfl, ?_⟩
      rcases (p10 z).1 with ⟨a, b⟩ | ⟨a, b⟩
      · rw [b, u1 a]
      · rw [b, u2 a]
    · exact absurd k q
  · by_cases z9 : r9.2 = 0
    · by_cases z10 : r10.2 = 0
      · left
        refine ⟨z9, z10, ?_, ?_⟩
        · rcases p9 with ⟨_, rfl⟩ | ⟨q, rfl⟩
          · rfl
          · cases z9
        · rcases (p10 z10).1 with ⟨a, b⟩ | ⟨a, b⟩
          · rw [b, u1 a]
          · rw [b, u2 a]
      · exact .inr ⟨.inr z10, hf⟩
    · exact .inr ⟨.inl z9, hf⟩
/-- The rows that the corners' loops make. -/
structure Cor (L H : Int) (l : List Int) (k : Int) (lo hi : Bool) : Prop where
  len : (l.length : Int) = k
  all : ∀ y ∈ l, L ≤ y ∧ y ≤ H
  lo : lo = true → L ∈ l
  hi : hi = true → H ∈ l
theorem corners_ok (a : Bound) (n d : Int) (ha : a.ok) (hn : 0 ≤ n ∧ n ≤ 1152921504606846976) (hd : 1 ≤ d ∧ d ≤ 9223372036854775807) :
    bound_corners_bound_Mul_1 a ⟨n, n, false⟩ d d = some (if fitB (a.Lo * n / d) (cdiv (a.Hi * n) d) then ⟨a.Lo * n / d, cdiv (a.Hi * n) d, false⟩ else ⟨0, 0, true⟩) := by
  have a1 := ha.lo; have a2 := ha.le; have a3 := ha.hi
  have m1 : a.Lo * n ≤ a.Hi * n := Int.mul_le_mul_of_nonneg_right a2 hn.1
  have d1 := Int.ediv_le_ediv (show 0 < d by omega) m1
  have d2 := cdiv_mono (show 0 < d by omega) m1
  have f1 := fl_le_ce (x := a.Lo * n) (d := d) (by omega)
  have f2 := fl_le_ce (x := a.Hi * n) (d := d) (by omega)
  have bL := both_ok a.Lo n d (a.Lo * n / d) (cdiv (a.Hi * n) d) (by unfold okI; omega) (by unfold okI; omega) hd (Int.le_refl _) d2
  have bH := both_ok a.Hi n d (a.Lo * n / d) (cdiv (a.Hi * n) d) (by unfold okI; omega) (by unfold okI; omega) hd d1 (Int.le_refl _)
  generalize hLe : a.Lo * n / d = L at *
  generalize hHe : cdiv (a.Hi * n) d = H at *
  generalize hMe : cdiv (a.Lo * n) d = M at *
  generalize hNe : a.Hi * n / d = N at *
  apply Has.val
  unfold bound_corners_bound_Mul_1
  refine Has.seq (P := fun t : Step (List Int) Bound => (∃ l, t = .next l ∧ Cor L H l 8 true true) ∨ (t = .done ⟨0, 0, true⟩ ∧ ¬ fitB L H)) ?_ (fun l hl => ?_) fun o ho => ?_
  · refine Has.loop (fun s : List Int × Int => (s.2 = 0 ∧ Cor L H s.1 0 false false) ∨ (s.2 = 1 ∧ Cor L H s.1 4 true false) ∨ (s.2 = 2 ∧ Cor L H s.1 8 true true)) (fun s => (2 - s.2).toNat) _ (.inl ⟨rfl, rfl, by simp, (fun h => nomatch h), (fun h => nomatch h)⟩) (by simp only []; omega) fun s hs => ?_
    have hs2 : 0 ≤ s.2 ∧ s.2 ≤ 2 := by rcases hs with ⟨e, _⟩ | ⟨e, _⟩ | ⟨e, _⟩ <;> omega
    unfold bound_corners_bound_Mul_1.l1
    refine Has.ite (fun h => ?_) fun h => Has.ret (.done (.inl ⟨s.1, rfl, ?_⟩))
    · have h : s.2 < 2 := of_decide_eq_true h
      refine Has.chk ⟨hs2.1, h⟩ (Has.seq (P := fun t : Step (List Int) (Step (List Int × Int) (Step (List Int) Bound)) => (∃ l, t = .next l ∧ ((s.2 = 0 ∧ Cor L H l 4 true false) ∨ (s.2 = 1 ∧ Cor L H l 8 true true))) ∨ (t = .done (.done (.done ⟨0, 0, true⟩)) ∧ ¬ fitB L H)) ?_ (fun l hl => ?_) fun o ho => ?_)
      · refine Has.loop (fun t : List Int × Int => (0 ≤ t.2 ∧ t.2 ≤ 2) ∧ ((s.2 = 0 ∧ Cor L H t.1 (2 * t.2) (decide (0 < t.2)) false) ∨ (s.2 = 1 ∧ Cor L H t.1 (4 + 2 * t.2) true (decide (0 < t.2))))) (fun t => (2 - t.2).toNat) _ ⟨⟨Int.le_refl _, by simp only []; omega⟩, ?_⟩ (by simp only []; omega) fun t ⟨ht, hc⟩ => ?_
        · rcases hs with ⟨e, c⟩ | ⟨e, c⟩ | ⟨e, c⟩
          · exact .inl ⟨e, c⟩
          · exact .inr ⟨e, c⟩
          · omega
        · unfold bound_corners_bound_Mul_1.l2
          refine Has.ite (fun h2 => ?_) fun h2 => Has.ret (.done (.inl ⟨t.1, rfl, ?_⟩))
          · have h2 : t.2 < 2 := of_decide_eq_true h2
            have eb : gt ([n, n] : List Int) t.2 = n := by
              have : t.2 = 0 ∨ t.2 = 1 := by omega
              rcases this with e | e <;> rw [e] <;> rfl
            have hl : (t.1.length : Int) ≤ 8 := by rcases hc with ⟨_, c⟩ | ⟨_, c⟩ <;> have := c.len <;> omega
            refine Has.chk ⟨ht.1, h2⟩ ?_
            simp only [eb]
            have fin : ∀ (x X Y : Int), gt ([a.Lo, a.Hi] : List Int) s.2 = x → (∃ r9 r10, bound_Mul_1 x n d = some r9 ∧ bound_Mul_2 x n d = some r10 ∧ ((r9.2 = 0 ∧ r10.2 = 0 ∧ r9.1 = X ∧ r10.1 = Y) ∨ ((r9.2 ≠ 0 ∨ r10.2 ≠ 0) ∧ ¬ fitB L H))) →
                (((s.2 = 0 ∧ Cor L H (t.1 ++ [X, Y]) (2 * (t.2 + 1)) (decide (0 < t.2 + 1)) false) ∨ (s.2 = 1 ∧ Cor L H (t.1 ++ [X, Y]) (4 + 2 * (t.2 + 1)) true (decide (0 < t.2 + 1))))) →
                Has (Option.bind (bound_Mul_1 (gt ([a.Lo, a.Hi] : List Int) s.2) n d) fun r9 => Option.bind (bound_Mul_2 (gt ([a.Lo, a.Hi] : List Int) s.2) n d) fun r10 => Option.bind (if (r9.2 != 0) = true then some true else some (r10.2 != 0)) fun z11 : Bool => if z11 = true then Option.bind (bound_None) fun r14 => some (.done (.done (.done (.done r14)))) else if roomy (t.1.length + ([r9.1, r10.1] : List Int).length) 8 = true then some (.next (t.1 ++ ([r9.1, r10.1] : List Int), w6 (t.2 + 1))) else none)
                  (StepOK (fun t : List Int × Int => (0 ≤ t.2 ∧ t.2 ≤ 2) ∧ ((s.2 = 0 ∧ Cor L H t.1 (2 * t.2) (decide (0 < t.2)) false) ∨ (s.2 = 1 ∧ Cor L H t.1 (4 + 2 * t.2) true (decide (0 < t.2))))) (fun t => (2 - t.2).toNat) (fun t : Step (List Int) (Step (List Int × Int) (Step (List Int) Bound)) => (∃ l, t = .next l ∧ ((s.2 = 0 ∧ Cor L H l 4 true false) ∨ (s.2 = 1 ∧ Cor L H l 8 true true))) ∨ (t = .done (.done (.done ⟨0, 0, true⟩)) ∧ ¬ fitB L H)) ((2 - t.2).toNat)) := by
              intro x X Y ex ⟨r9, r10, e9, e10, hr⟩ hC
              rw [ex, e9, e10]
              simp only [Option.bind_some, ite_or]
              rcases hr with ⟨z9, z10, v9, v10⟩ | ⟨hb, hf⟩
              · rw [z9, z10, v9, v10, w6_in (by omega)]
                refine Has.neg (by simp) (Has.chk (roomyI (by simp; omega) (by simp; omega)) (Has.ret (.next ⟨⟨by simp only []; omega, by simp only []; omega⟩, hC⟩ (by simp only []; omega))))
              · refine Has.pos (by rcases hb with hb | hb <;> simp [hb]) (Has.ret (.done (.inr ⟨rfl, hf⟩)))
            rcases hc with ⟨e, c⟩ | ⟨e, c⟩
            · refine fin a.Lo L M (by rw [e]; rfl) bL (.inl ⟨e, by have := c.len; simp; omega, fun y hy => ?_, fun _ => List.mem_append_right _ (by simp), (fun h => nomatch h)⟩)
              rcases List.mem_append.1 hy with h | h
              · exact c.all y h
              · simp at h; rcases h with rfl | rfl <;> omega
            · refine fin a.Hi N H (by rw [e]; rfl) bH (.inr ⟨e, by have := c.len; simp; omega, fun y hy => ?_, fun h => List.mem_append_left _ (c.lo h), fun _ => List.mem_append_right _ (by simp)⟩)
              rcases List.mem_append.1 hy with h | h
              · exact c.all y h
              · simp at h; rcases h with rfl | rfl <;> omega
          · have h2 : t.2 = 2 := by have : ¬ t.2 < 2 := fun q => h2 (decide_eq_true q); omega
            rw [h2] at hc
            exact hc
      · rcases hl with ⟨l', e, hl⟩ | ⟨e, _⟩
        · cases e
          rw [w6_in (by omega)]
          refine Has.ret (.next ?_ (by simp only []; omega))
          rcases hl with ⟨e, c⟩ | ⟨e, c⟩
          · exact .inr (.inl ⟨by simp only []; omega, c⟩)
          · exact .inr (.inr ⟨by simp only []; omega, c⟩)
        · cases e
      · rcases ho with ⟨l', e, _⟩ | ⟨e, hf⟩
        · cases e
        · cases e; exact .done (.inr ⟨rfl, hf⟩)
    · have h : s.2 = 2 := by have : ¬ s.2 < 2 := fun q => h (decide_eq_true q); omega
      rcases hs with ⟨e, _⟩ | ⟨e, _⟩ | ⟨e, c⟩
      · omega
      · omega
      · exact c
  · rcases hl with ⟨l', e, c⟩ | ⟨e, _⟩
    · cases e
      have hlen := c.len
      have hne : l ≠ [] := fun e => by subst e; simp at hlen
      refine (min_ok l hne (by omega)).bind fun m ⟨m1, m2⟩ => (max_ok l hne (by omega)).bind fun k ⟨k1, k2⟩ => ?_
      have em : m = L := by have := m2 L (c.lo rfl); have := c.all m m1; omega
      have ek : k = H := by have := k2 H (c.hi rfl); have := c.all k k1; omega
      have hLH : L ≤ H := by omega
      rw [em, ek]
      by_cases hf : fitB L H
      · rw [of_ok hf.1 hLH hf.2, if_pos hf]; exact Has.ret rfl
      · rw [of_bad hLH hf, if_neg hf]; exact Has.ret rfl
    · cases e
  · rcases ho with ⟨l', e, _⟩ | ⟨e, hf⟩
    · cases e
    · cases e; rw [if_neg hf]
theorem exact_ok {v : Int} (h1 : -1152921504606846976 ≤ v) (h2 : v ≤ 1152921504606846976) : bound_Exact v = some ⟨v, v, false⟩ := by
  unfold bound_Exact; rw [of_ok h1 (Int.le_refl _) h2]; rfl
theorem scale_known (a : Bound) (n d : Int) (ha : a.ok) (ua : a.Unknown = false) (hn : 0 ≤ n ∧ n ≤ 1152921504606846976) (hd : 1 ≤ d ∧ d ≤ 9223372036854775807) :
    bound_Scale a n d = some (if fitB (a.Lo * n / d) (cdiv (a.Hi * n) d) then ⟨a.Lo * n / d, cdiv (a.Hi * n) d, false⟩ else ⟨0, 0, true⟩) := by
  unfold bound_Scale bound_Mul
  rw [exact_ok (by omega) hn.2]
  simp only [Option.bind_some]
  have hd' : ¬ d < 1 := by omega
  rw [vague_ok ha (okKnown (by omega) (Int.le_refl _) hn.2), ua]
  simp only [Option.bind_some, Bool.or_self, Bool.false_eq_true, if_false, decide_eq_true_eq, hd']
  rw [corners_ok a n d ha hn hd]; rfl
theorem scale_vague (a : Bound) (n d : Int) (ha : a.ok) (ua : a.Unknown = true) (hn : 0 ≤ n ∧ n ≤ 1152921504606846976) : bound_Scale a n d = some ⟨0, 0, true⟩ := by
  unfold bound_Scale bound_Mul
  rw [exact_ok (by omega) hn.2]
  simp only [Option.bind_some]
  rw [vague_ok ha (okKnown (by omega) (Int.le_refl _) hn.2), ua]
  rfl
/-- With no divisor: exact. -/
theorem scale_one (a : Bound) (n : Int) (ha : a.ok) (ua : a.Unknown = false) (hn : 0 ≤ n ∧ n ≤ 1152921504606846976) (h1 : -1152921504606846976 ≤ a.Lo * n) (h2 : a.Hi * n ≤ 1152921504606846976) :
    bound_Scale a n 1 = some ⟨a.Lo * n, a.Hi * n, false⟩ := by
  have e1 : cdiv (a.Hi * n) 1 = a.Hi * n := by unfold cdiv; simp
  rw [scale_known a n 1 ha ua hn (by omega), Int.ediv_one, e1, if_pos ⟨h1, h2⟩]
end Lf
/- Stacks of fields: what is read off them. -/
namespace Lf
open Go Go.Abs
set_option linter.unusedVariables false
set_option linter.unusedSimpArgs false
theorem take_snoc {α : Type} [Cl α] (l : List α) {i : Int} (i0 : 0 ≤ i) (i1 : i < l.length) : l.take (i + 1).toNat = l.take i.toNat ++ [gt l i] := by
  have e : (i + 1).toNat = i.toNat + 1 := by omega
  rw [e, gt_def l i ⟨i0, i1⟩, List.take_add_one, List.getElem?_eq_getElem (by omega)]
  rfl
theorem mem_take {α : Type} {l : List α} {n : Nat} {x : α} (h : x ∈ l.take n) : x ∈ l := List.mem_of_mem_take h
theorem added_ok {w h : Int} {l : List Cells} (z : size w h) (hf : ∀ c ∈ l, fld w h c) (hl : l.length ≤ 8) : Has (spykeep4_added w h l) fun r => r.2 = 0 ∧ stk r.1 w h l := by
  unfold spykeep4_added
  refine (stackNew_ok z).bind fun r ⟨r1, r2⟩ => ?_
  refine (Has.loop (fun s : stack_Stack × Int × Int => 0 ≤ s.2.2 ∧ s.2.2 ≤ l.length ∧ s.2.1 = 0 ∧ stk s.1 w h (l.take s.2.2.toNat)) (fun s => (l.length - s.2.2).toNat) (fun o : stack_Stack × Int => o.2 = 0 ∧ stk o.1 w h l) ⟨Int.le_refl _, by simp only []; omega, r1, r2⟩ (by simp only []; omega) fun s ⟨s1, s2, s3, s4⟩ => ?_).bind fun o ho => Has.ret ho
  unfold spykeep4_added.l1
  refine Has.ite (fun hi => ?_) fun hi => ?_
  · have hi : s.2.2 < l.length := of_decide_eq_true hi
    rw [s3, w6_in (n := s.2.2 + 1) (by omega)]
    refine Has.bind (P := fun o : stack_Stack × Int => o.2 = 0 ∧ stk o.1 w h (l.take (s.2.2 + 1).toNat)) (Has.chk ⟨s1, hi⟩ (Has.pos rfl ((stackAdd_ok z s4 (fun c hc => hf c (mem_take hc)) (by simp; omega) (hf _ (gt_mem l s.2.2 ⟨s1, hi⟩))).bind fun q ⟨q1, q2⟩ => Has.ret ⟨q1, ?_⟩))) fun o ⟨o1, o2⟩ => Has.ret (.next ⟨by simp only []; omega, by simp only []; omega, o1, o2⟩ (by simp only []; omega))
    rw [take_snoc l s1 hi]; exact q2
  · have hi : ¬ s.2.2 < l.length := fun q => hi (decide_eq_true q)
    rw [List.take_of_length_le (by omega)] at s4
    exact Has.ret (.done ⟨s3, s4⟩)
def totB (a : List Cells) (i : Int) : Bound := if hol a i > 0 then ⟨0, 0, true⟩ else ⟨slo a i, shi a i, false⟩
def meanB (a : List Cells) (i : Int) : Bound := if hol a i = a.length then ⟨0, 0, true⟩ else ⟨slo a i / (a.length - hol a i), cdiv (shi a i) (a.length - hol a i), false⟩
/-- A field, cell by cell. -/
structure isF (c : Cells) (w h : Int) (f : Int → Bound) : Prop where
  ew : c.W = w
  eh : c.H = h
  len : (c.At.length : Int) = w * h
  at_ : allI c.At fun i b => b = f i
theorem isF.eq {c d : Cells} {w h : Int} {f g : Int → Bound} (hc : isF c w h f) (hd : isF d w h g) (e : ∀ i : Int, 0 ≤ i → i < w * h → f i = g i) : c = d := by
  have e1 : c.W = d.W := by rw [hc.ew, hd.ew]
  have e2 : c.H = d.H := by rw [hc.eh, hd.eh]
  have e3 : c.At = d.At := gt_ext (by have := hc.len; have := hd.len; omega) fun i i0 i1 => by
    have l1 := hc.len; have l2 := hd.len
    rw [hc.at_ i i0 i1, hd.at_ i i0 (by omega), e i i0 (by omega)]
  cases c; cases d
  simp only [] at e1 e2 e3
  rw [e1, e2, e3]
theorem total_ok {s : stack_Stack} {w h : Int} {a : List Cells} (z : size w h) (hs : stk s w h a) (hf : ∀ c ∈ a, fld w h c) (ha : a.length ≤ 8) : Has (stack_Total s) fun r => r.2 = 0 ∧ isF r.1 w h (totB a) := by
  have zn := z.n
  have hal := hs.al; have hhl := hs.hl
  unfold stack_Total stack_each_stack_Total_1
  rw [stackCheck_ok z hs hf ha]
  simp only [Option.bind_some, bne_self_eq_false, Bool.false_eq_true, if_false]
  refine Has.bind (P := fun r : Cells × Int => r.2 = 0 ∧ isF r.1 w h (totB a)) (Has.bind (P := fun l : List Bound => (l.length : Int) = w * h ∧ allI l fun i b => b = totB a i) ?_ fun l ⟨l1, l2⟩ => Has.ret ⟨rfl, hs.ew, hs.eh, l1, l2⟩) fun r hr => Has.ret hr
  refine Has.loop (fun t : List Bound × Int => 0 ≤ t.2 ∧ t.2 ≤ s.At.length ∧ (t.1.length : Int) = t.2 ∧ allI t.1 fun i b => b = totB a i) (fun t => (s.At.length - t.2).toNat) _ ⟨Int.le_refl _, by simp only []; omega, rfl, allI_nil⟩ (by simp only []; omega) fun t ⟨t1, t2, t3, t4⟩ => ?_
  unfold stack_each_stack_Total_1.l1
  refine Has.ite (fun hi => ?_) fun hi => ?_
  · have hi : t.2 < s.At.length := of_decide_eq_true hi
    rw [w6_in (n := t.2 + 1) (by omega)]
    refine Has.bind (P := fun b => b = totB a t.2) ?_ fun b hb => Has.chk (roomyI (by simp; omega) (by simp; omega)) (Has.ret (.next ⟨by simp only []; omega, by simp only []; omega, by simp; omega, allI_snoc t4 (by rw [hb, t3])⟩ (by simp only []; omega)))
    unfold stack_Total_1 totB
    rw [hs.hole t.2 t1 (by omega), hs.at_ t.2 t1 hi]
    refine Has.chk ⟨t1, by omega⟩ (Has.ite (fun hh => ?_) fun hh => ?_)
    · rw [if_pos (of_decide_eq_true hh)]; exact Has.ret rfl
    · rw [if_neg fun q => hh (decide_eq_true q)]; exact Has.chk ⟨t1, hi⟩ (Has.ret rfl)
  · have hi : ¬ t.2 < s.At.length := fun q => hi (decide_eq_true q)
    exact Has.ret (.done ⟨by omega, t4⟩)
theorem mean_ok {s : stack_Stack} {w h : Int} {a : List Cells} (z : size w h) (hs : stk s w h a) (hf : ∀ c ∈ a, fld w h c) (ha : a.length ≤ 8) : Has (stack_Mean s) fun r => r.2 = 0 ∧ isF r.1 w h (meanB a) := by
  have zn := z.n
  have hal := hs.al; have hhl := hs.hl
  unfold stack_Mean stack_each_stack_Mean_1
  rw [stackCheck_ok z hs hf ha]
  simp only [Option.bind_some, bne_self_eq_false, Bool.false_eq_true, if_false]
  refine Has.bind (P := fun r : Cells × Int => r.2 = 0 ∧ isF r.1 w h (meanB a)) (Has.bind (P := fun l : List Bound => (l.length : Int) = w * h ∧ allI l fun i b => b = meanB a i) ?_ fun l ⟨l1, l2⟩ => Has.ret ⟨rfl, hs.ew, hs.eh, l1, l2⟩) fun r hr => Has.ret hr
  refine Has.loop (fun t : List Bound × Int => 0 ≤ t.2 ∧ t.2 ≤ s.At.length ∧ (t.1.length : Int) = t.2 ∧ allI t.1 fun i b => b = meanB a i) (fun t => (s.At.length - t.2).toNat) _ ⟨Int.le_refl _, by simp only []; omega, rfl, allI_nil⟩ (by simp only []; omega) fun t ⟨t1, t2, t3, t4⟩ => ?_
  unfold stack_each_stack_Mean_1.l1
  refine Has.ite (fun hi => ?_) fun hi => ?_
  · have hi : t.2 < s.At.length := of_decide_eq_true hi
    rw [w6_in (n := t.2 + 1) (by omega)]
    refine Has.bind (P := fun b => b = meanB a t.2) ?_ fun b hb => Has.chk (roomyI (by simp; omega) (by simp; omega)) (Has.ret (.next ⟨by simp only []; omega, by simp only []; omega, by simp; omega, allI_snoc t4 (by rw [hb, t3])⟩ (by simp only []; omega)))
    obtain ⟨b1, b2, b3, b4, b5⟩ := stk_bd hf t1 (show t.2 < w * h by omega)
    unfold stack_Mean_1 meanB
    rw [hs.hole t.2 t1 (by omega), hs.at_ t.2 t1 hi, hs.n]
    refine Has.chk ⟨t1, by omega⟩ (Has.ite (fun hh => ?_) fun hh => ?_)
    · rw [if_pos (by simpa using hh)]; exact Has.ret rfl
    · have hh : ¬ hol a t.2 = a.length := by simpa using hh
      have hk : 1 ≤ (a.length : Int) - hol a t.2 := by omega
      rw [if_neg hh, w6_in (n := (a.length : Int) - hol a t.2) (by omega), scale_known _ 1 _ (okKnown (by omega) b4 (by omega)) rfl (by omega) ⟨hk, by omega⟩]
      simp only [Int.mul_one]
      have q1 : -8796093022208 ≤ slo a t.2 / (a.length - hol a t.2) := by
        rw [Int.le_ediv_iff_mul_le (by omega)]
        omega
      have q2 : cdiv (shi a t.2) (a.length - hol a t.2) ≤ 8796093022208 := by
        unfold cdiv
        have : -8796093022208 ≤ (-(shi a t.2)) / (a.length - hol a t.2) := by
          rw [Int.le_ediv_iff_mul_le (by omega)]
          omega
        omega
      rw [if_pos (show fitB (slo a t.2 / (a.length - hol a t.2)) (cdiv (shi a t.2) (a.length - hol a t.2)) from ⟨by omega, by omega⟩)]
      exact Has.chk ⟨t1, hi⟩ (Has.ret rfl)
  · have hi : ¬ t.2 < s.At.length := fun q => hi (decide_eq_true q)
    exact Has.ret (.done ⟨by omega, t4⟩)
theorem all_ok {w h : Int} {l : List Cells} (z : size w h) (hf : ∀ c ∈ l, fld w h c) (hn : 1 ≤ l.length) (hl : l.length ≤ 8) : Has (stack_All l) fun r => r.2 = 0 ∧ isF r.1 w h (totB l) := by
  have f0 := hf _ (gt_mem l 0 ⟨by omega, by omega⟩)
  unfold stack_All
  rw [f0.ew, f0.eh]
  refine Has.neg (by simp only [beq_iff_eq]; omega) (Has.neg (by simp; omega) (Has.chk ⟨by omega, by omega⟩ ((stackNew_ok z).bind fun r ⟨r1, r2⟩ => ?_)))
  refine Has.seq (P := fun t : Step (stack_Stack × Int) (Cells × Int) => ∃ o, t = .next o ∧ o.2 = 0 ∧ stk o.1 w h l) ?_ (fun o ⟨o', e, o1, o2⟩ => ?_) (fun o ⟨o', e, _⟩ => by cases e)
  · refine Has.loop (fun s : stack_Stack × Int × Int => 0 ≤ s.2.2 ∧ s.2.2 ≤ l.length ∧ s.2.1 = 0 ∧ stk s.1 w h (l.take s.2.2.toNat)) (fun s => (l.length - s.2.2).toNat) _ ⟨Int.le_refl _, by simp only []; omega, r1, r2⟩ (by simp only []; omega) fun s ⟨s1, s2, s3, s4⟩ => ?_
    unfold stack_All.l1
    refine Has.ite (fun hi => ?_) fun hi => ?_
    · have hi : s.2.2 < l.length := of_decide_eq_true hi
      rw [s3, w6_in (n := s.2.2 + 1) (by omega)]
      refine Has.chk ⟨s1, hi⟩ (Has.neg (by simp) ((stackAdd_ok z s4 (fun c hc => hf c (mem_take hc)) (by simp; omega) (hf _ (gt_mem l s.2.2 ⟨s1, hi⟩))).bind fun q ⟨q1, q2⟩ => Has.ret (.next ⟨by simp only []; omega, by simp only []; omega, q1, ?_⟩ (by simp only []; omega))))
      simp only []
      rw [take_snoc l s1 hi]; exact q2
    · have hi : ¬ s.2.2 < l.length := fun q => hi (decide_eq_true q)
      rw [List.take_of_length_le (by omega)] at s4
      exact Has.ret (.done ⟨_, rfl, s3, s4⟩)
  · cases e
    rw [o1]
    exact Has.neg (by simp) ((total_ok z o2 hf hl).bind fun r hr => Has.ret hr)
end Lf
/- Two stacks in one; fields that are drawn. -/
namespace Lf
open Go Go.Abs
set_option linter.unusedVariables false
set_option linter.unusedSimpArgs false
theorem sumI_take {α : Type} [Cl α] (g : α → Int) (a b : List α) : ∀ n : Nat, n ≤ b.length → sumI (fun j => g (gt (a ++ b.take n) j)) (a ++ b.take n).length = sumI (fun j => g (gt a j)) a.length + sumI (fun j => g (gt (b.take n) j)) (b.take n).length
  | 0, _ => by simp [sumI]
  | n + 1, h => by
    have e := take_snoc b (i := n) (by omega) (by omega)
    have e1 : ((n : Int) + 1).toNat = n + 1 := by omega
    have e2 : ((n : Int)).toNat = n := by omega
    rw [e1, e2] at e
    rw [e, ← List.append_assoc, sumI_snoc g (a ++ b.take n), sumI_snoc g (b.take n), sumI_take g a b n (by omega)]
    omega
theorem sumI_append {α : Type} [Cl α] (g : α → Int) (a b : List α) : sumI (fun j => g (gt (a ++ b) j)) (a ++ b).length = sumI (fun j => g (gt a j)) a.length + sumI (fun j => g (gt b j)) b.length := by
  have := sumI_take g a b b.length (Nat.le_refl _)
  rw [List.take_length] at this
  exact this
theorem join_ok {s t : stack_Stack} {w h : Int} {a b : List Cells} (z : size w h) (hs : stk s w h a) (ht : stk t w h b) (fa : ∀ c ∈ a, fld w h c) (fb : ∀ c ∈ b, fld w h c) (hl : a.length + b.length ≤ 8) :
    Has (stack_Join s t) fun r => r.2 = 0 ∧ stk r.1 w h (a ++ b) := by
  have zn := z.n
  have hal := hs.al; have hhl := hs.hl; have tal := ht.al; have thl := ht.hl
  unfold stack_Join
  rw [stackCheck_ok z hs fa (by omega), stackCheck_ok z ht fb (by omega), copied_ok z hs, hs.ew, hs.eh, ht.ew, ht.eh, hs.n, ht.n, w6_in (n := (a.length : Int) + b.length) (by omega)]
  have g1 : decide ((a.length : Int) + b.length > 8) = false := decide_eq_false (by omega)
  simp only [Option.bind_some, bne_self_eq_false, Bool.false_eq_true, if_false, g1]
  have sh : ∀ i, hol (a ++ b) i = hol a i + hol b i := fun i => sumI_append (unk i) a b
  have sl : ∀ i, slo (a ++ b) i = slo a i + slo b i := fun i => sumI_append (klo i) a b
  have su : ∀ i, shi (a ++ b) i = shi a i + shi b i := fun i => sumI_append (khi i) a b
  refine (Has.loop (fun u : List Int × List Bound × Int => 0 ≤ u.2.2 ∧ u.2.2 ≤ w * h ∧ (u.1.length : Int) = w * h ∧ (u.2.1.length : Int) = w * h ∧ (allI u.1 fun i x => x = if i < u.2.2 then hol (a ++ b) i else hol a i) ∧ allI u.2.1 fun i b' => b' = if i < u.2.2 then ⟨slo (a ++ b) i, shi (a ++ b) i, false⟩ else ⟨slo a i, shi a i, false⟩) (fun u => (w * h - u.2.2).toNat)
    (fun o : List Int × List Bound => (o.1.length : Int) = w * h ∧ (o.2.length : Int) = w * h ∧ (allI o.1 fun i x => x = hol (a ++ b) i) ∧ allI o.2 fun i b' => b' = ⟨slo (a ++ b) i, shi (a ++ b) i, false⟩) ⟨Int.le_refl _, by simp only []; omega, hhl, hal, allI_mono hs.hole fun i x i0 i1 hx => by rw [if_neg (by simp only []; omega)]; exact hx, allI_mono hs.at_ fun i x i0 i1 hx => by rw [if_neg (by simp only []; omega)]; exact hx⟩ (by simp only []; omega) fun u ⟨t1, t2, t3, t4, t5, t6⟩ => ?_).bind
    fun o ⟨o1, o2, o3, o4⟩ => Has.ret ⟨rfl, hs.ew, hs.eh, by simp only []; rw [hs.n, w6_in (by omega)]; simp, o1, o2, o3, o4⟩
  unfold stack_Join.l1
  rw [hal]
  refine Has.ite (fun hi => ?_) fun hi => ?_
  · have hi : u.2.2 < w * h := of_decide_eq_true hi
    obtain ⟨a1, a2, a3, a4, a5⟩ := stk_bd fa t1 hi
    obtain ⟨b1, b2, b3, b4, b5⟩ := stk_bd fb t1 hi
    have e5 : gt u.1 u.2.2 = hol a u.2.2 := by rw [t5 u.2.2 t1 (by omega), if_neg (by omega)]
    have e6 : gt u.2.1 u.2.2 = ⟨slo a u.2.2, shi a u.2.2, false⟩ := by rw [t6 u.2.2 t1 (by omega), if_neg (by omega)]
    have e7 : gt t.Holes u.2.2 = hol b u.2.2 := ht.hole u.2.2 t1 (by omega)
    have e8 : gt t.At u.2.2 = ⟨slo b u.2.2, shi b u.2.2, false⟩ := ht.at_ u.2.2 t1 (by omega)
    rw [e5, e6, e7, e8, add_known (okKnown (by omega) a4 (by omega)) (okKnown (by omega) b4 (by omega)) rfl rfl (by simp only []; omega) (by simp only []; omega), w6_in (n := hol a u.2.2 + hol b u.2.2) (by omega), w6_in (n := u.2.2 + 1) (by omega)]
    refine Has.chk ⟨t1, by omega⟩ (Has.chk ⟨t1, by omega⟩ (Has.letF (Has.chk ⟨t1, by omega⟩ (Has.chk ⟨t1, by omega⟩ (Has.ret (.next ⟨by simp only []; omega, by simp only []; omega, by simp only [List.length_set]; exact t3, by simp only [List.length_set]; exact t4, ?_, ?_⟩ (by simp only []; omega)))))))
    · refine allI_upd t5 t1 (fun j x j0 j1 jn hx => ?_) ?_
      · rw [hx]
        by_cases e : j < u.2.2
        · rw [if_pos e, if_pos (by simp only []; omega)]
        · rw [if_neg e, if_neg (by simp only []; omega)]
      · rw [if_pos (by simp only []; omega), sh]
    · refine allI_upd t6 t1 (fun j x j0 j1 jn hx => ?_) ?_
      · rw [hx]
        by_cases e : j < u.2.2
        · rw [if_pos e, if_pos (by simp only []; omega)]
        · rw [if_neg e, if_neg (by simp only []; omega)]
      · rw [if_pos (by simp only []; omega), sl, su]
  · have hi : ¬ u.2.2 < w * h := fun q => hi (decide_eq_true q)
    exact Has.ret (.done ⟨t3, t4, allI_mono t5 fun i x i0 i1 hx => by rw [hx, if_pos (by have : i < (u.1.length : Int) := i1; omega)], allI_mono t6 fun i x i0 i1 hx => by rw [hx, if_pos (by have : i < (u.2.1.length : Int) := i1; omega)]⟩)
/-- A field that is drawn. -/
theorem field_ok (s : spymake_Stream) (w h : Int) (z : size w h) (hs : okS s) (ha : s.at_ ≤ 4611686018427000000) : Has (Stream_Field s w h) fun r => fld w h r.1 ∧ after s r.2 (2 + 6 * (w * h)) := by
  have zn := z.n
  unfold Stream_Field
  refine (next_ok s 200 hs (by omega) (by omega)).bind fun a ⟨a1, a2, a3⟩ => ?_
  have hA := a3.ok hs (by omega); have hha := a3.hi
  refine (range_ok a.2 0 30 hA (by omega) (by omega) (by omega) (by omega)).bind fun b ⟨b1, b2, b3⟩ => ?_
  have hB := b3.ok hA (by omega); have hhb := b3.hi
  refine (Has.loop (fun t : spymake_Stream × List Bound × Int => after b.2 t.1 (6 * t.2.2) ∧ 0 ≤ t.2.2 ∧ t.2.2 ≤ w * h ∧ (t.2.1.length : Int) = t.2.2 ∧ ∀ x ∈ t.2.1, x.ok ∧ -1099511627776 ≤ x.Lo ∧ x.Hi ≤ 1099511627776) (fun t => (w * h - t.2.2).toNat)
    (fun o : spymake_Stream × List Bound => after b.2 o.1 (6 * (w * h)) ∧ (o.2.length : Int) = w * h ∧ ∀ x ∈ o.2, x.ok ∧ -1099511627776 ≤ x.Lo ∧ x.Hi ≤ 1099511627776) ⟨after.refl _, Int.le_refl _, by simp only []; omega, rfl, by simp⟩ (by simp only []; omega) fun t ⟨t1, t2, t3, t4, t5⟩ => ?_).bind
    fun o ⟨o1, o2, o3⟩ => Has.ret ⟨⟨⟨z.w0, z.w1, z.h0, z.h1, o2, o3⟩, rfl, rfl⟩, ((a3.trans b3).trans o1).more (by omega)⟩
  unfold Stream_Field.l1
  rw [w6_in (n := w * h) (by omega)]
  refine Has.ite (fun hi => ?_) fun hi => ?_
  · have hi : t.2.2 < w * h := of_decide_eq_true hi
    have hT := t1.ok hB (by omega); have hht := t1.hi
    rw [w6_in (n := b.1 + 1) (by omega), w6_in (n := t.2.2 + 1) (by omega)]
    have fin : ∀ (u : spymake_Stream) (x : Bound), after t.1 u 6 → (x.ok ∧ -1099511627776 ≤ x.Lo ∧ x.Hi ≤ 1099511627776) → Has (if roomy (t.2.1.length + ([x] : List Bound).length) 24 = true then some (Step.next (u, t.2.1 ++ ([x] : List Bound), t.2.2 + 1)) else none)
        (StepOK (fun t : spymake_Stream × List Bound × Int => after b.2 t.1 (6 * t.2.2) ∧ 0 ≤ t.2.2 ∧ t.2.2 ≤ w * h ∧ (t.2.1.length : Int) = t.2.2 ∧ ∀ x ∈ t.2.1, x.ok ∧ -1099511627776 ≤ x.Lo ∧ x.Hi ≤ 1099511627776) (fun t => (w * h - t.2.2).toNat)
          (fun o : spymake_Stream × List Bound => after b.2 o.1 (6 * (w * h)) ∧ (o.2.length : Int) = w * h ∧ ∀ x ∈ o.2, x.ok ∧ -1099511627776 ≤ x.Lo ∧ x.Hi ≤ 1099511627776) (w * h - t.2.2).toNat) := fun u x hu hx => by
      refine Has.chk (roomyI (by simp; omega) (by simp; omega)) (Has.ret (.next ⟨(t1.trans hu).more (by simp only []; omega), by simp only []; omega, by simp only []; omega, by simp; omega, fun y hy => ?_⟩ (by simp only []; omega)))
      rcases List.mem_append.1 hy with h | h
      · exact t5 y h
      · simp at h; rw [h]; exact hx
    have none : Bound.ok ⟨0, 0, true⟩ ∧ -1099511627776 ≤ (⟨0, 0, true⟩ : Bound).Lo ∧ (⟨0, 0, true⟩ : Bound).Hi ≤ 1099511627776 := ⟨okNone, by decide, by decide⟩
    refine (next_ok t.1 5 hT (by omega) (by omega)).bind fun c ⟨c1, c2, c3⟩ => ?_
    have hC := c3.ok hT (by omega); have hhc := c3.hi
    refine Has.ite (fun h5 => ?_) fun h5 => ?_
    · refine (next_ok c.2 2000 hC (by omega) (by omega)).bind fun d ⟨d1, d2, d3⟩ => ?_
      have hD := d3.ok hC (by omega); have hhd := d3.hi
      refine (next_ok d.2 (b.1 + 1) hD (by omega) (by omega)).bind fun e ⟨e1, e2, e3⟩ => ?_
      have hE := e3.ok hD (by omega); have hhe := e3.hi
      refine (next_ok e.2 (b.1 + 1) hE (by omega) (by omega)).bind fun f ⟨f1, f2, f3⟩ => ?_
      have hF := f3.ok hE (by omega); have hhf := f3.hi
      refine (next_ok f.2 15 hF (by omega) (by omega)).bind fun g ⟨g1, g2, g3⟩ => ?_
      have ag : after t.1 g.2 6 := ((((c3.trans d3).trans e3).trans f3).trans g3).more (by omega)
      rw [w6_in (n := a.1 + d.1) (by omega), w6_in (n := a.1 + d.1 - e.1) (by omega), w6_in (n := a.1 + d.1 + f.1) (by omega)]
      refine Has.ite (fun h6 => fin _ _ ag none) fun h6 => fin _ _ ag ⟨okKnown (by omega) (by omega) (by omega), by simp only []; omega, by simp only []; omega⟩
    · refine (next_ok c.2 (b.1 + 1) hC (by omega) (by omega)).bind fun e ⟨e1, e2, e3⟩ => ?_
      have hE := e3.ok hC (by omega); have hhe := e3.hi
      refine (next_ok e.2 (b.1 + 1) hE (by omega) (by omega)).bind fun f ⟨f1, f2, f3⟩ => ?_
      have hF := f3.ok hE (by omega); have hhf := f3.hi
      refine (next_ok f.2 15 hF (by omega) (by omega)).bind fun g ⟨g1, g2, g3⟩ => ?_
      have ag : after t.1 g.2 6 := (((c3.trans e3).trans f3).trans g3).more (by omega)
      rw [w6_in (n := a.1 - e.1) (by omega), w6_in (n := a.1 + f.1) (by omega)]
      refine Has.ite (fun h6 => fin _ _ ag none) fun h6 => fin _ _ ag ⟨okKnown (by omega) (by omega) (by omega), by simp only []; omega, by simp only []; omega⟩
  · have hi : ¬ t.2.2 < w * h := fun q => hi (decide_eq_true q)
    have e : t.2.2 = w * h := by omega
    rw [e] at t1 t4
    exact Has.ret (.done ⟨t1, t4, t5⟩)
end Lf
/- A field is the same as itself. -/
namespace Lf
open Go Go.Abs
set_option linter.unusedVariables false
set_option linter.unusedSimpArgs false
theorem equal_ok (l : List Bound) (hl : l.length ≤ 1000000000) : slices_Equal_Bound l l = some true := by
  apply Has.val
  unfold slices_Equal_Bound
  refine Has.neg (by simp) (Has.seq (P := fun t : Step Unit Bool => t = .next ()) ?_ (fun _ _ => Has.ret rfl) (fun o ho => by cases ho))
  refine Has.loop (fun i : Int => 0 ≤ i ∧ i ≤ l.length) (fun i => (l.length - i).toNat) (fun t : Step Unit Bool => t = .next ()) ⟨Int.le_refl _, by omega⟩ (by omega) fun i ⟨i1, i2⟩ => ?_
  unfold slices_Equal_Bound.l1
  refine Has.ite (fun hi => ?_) fun hi => Has.ret (.done rfl)
  have hi : i < l.length := of_decide_eq_true hi
  rw [w6_in (by omega)]
  exact Has.chk ⟨i1, hi⟩ (Has.chk ⟨i1, hi⟩ (Has.neg (by simp) (Has.ret (.next ⟨by omega, by omega⟩ (by omega)))))
theorem same_ok (c : Cells) (hl : c.At.length ≤ 1000000000) : spykeep4_same c c = some true := by
  unfold spykeep4_same
  rw [equal_ok _ hl]
  simp
end Lf
/- StackOrder: fields that are added in another order, or in two parts that are joined, have the same sum and mean; the sum is that of All. -/
namespace Lf
open Go Go.Abs
set_option linter.unusedVariables false
set_option linter.unusedSimpArgs false
theorem piledFact : spykeep4_piled = some true := by kernel_rfl
theorem turned_sum (f : Int → Int) (n : Nat) (turn : Int) (n0 : 1 ≤ n) (n1 : n ≤ 8) (t0 : 0 ≤ turn) (t1 : turn < n) : sumI (fun j => f (((n : Int) - 1 - j + turn) % n)) n = sumI f n := by
  have hn : n = 1 ∨ n = 2 ∨ n = 3 ∨ n = 4 ∨ n = 5 ∨ n = 6 ∨ n = 7 ∨ n = 8 := by omega
  have ht : turn = 0 ∨ turn = 1 ∨ turn = 2 ∨ turn = 3 ∨ turn = 4 ∨ turn = 5 ∨ turn = 6 ∨ turn = 7 := by omega
  rcases hn with rfl | rfl | rfl | rfl | rfl | rfl | rfl | rfl <;> rcases ht with rfl | rfl | rfl | rfl | rfl | rfl | rfl | rfl <;> first | (exfalso; omega) | (simp [sumI]; try omega)
theorem same_of {c d : Cells} {w h : Int} {f g : Int → Bound} (z : size w h) (hc : isF c w h f) (hd : isF d w h g) (e : ∀ i : Int, 0 ≤ i → i < w * h → f i = g i) : spykeep4_same c d = some true := by
  have zn := z.n
  have := hc.len
  rw [hc.eq hd e]
  exact same_ok d (by have := hd.len; omega)
theorem StackOrder_true (l : List Int) (turn part : Int) (hl : okL l) (ht : -9223372036854775808 ≤ turn ∧ turn ≤ 9223372036854775807) (hp : -9223372036854775808 ≤ part ∧ part ≤ 9223372036854775807) : spykeep4_StackOrder l turn part = some true := by
  apply Has.val
  have h0 := okS.start hl
  unfold spykeep4_StackOrder
  refine (range_ok _ 1 6 h0 (by simp only []; omega) (by omega) (by omega) (by omega)).bind fun r1 ⟨w0, w1, s1⟩ => ?_
  have o1 := s1.ok h0 (by simp only []; omega); have b1 := s1.hi
  simp only [] at b1
  refine (range_ok _ 1 6 o1 (by omega) (by omega) (by omega) (by omega)).bind fun r2 ⟨g0, g1, s2⟩ => ?_
  have o2 := s2.ok o1 (by omega); have b2 := s2.hi
  refine (range_ok _ 1 8 o2 (by omega) (by omega) (by omega) (by omega)).bind fun r3 ⟨n0, n1, s3⟩ => ?_
  have o3 := s3.ok o2 (by omega); have b3 := s3.hi
  have z : size r1.1 r2.1 := ⟨w0, by omega, g0, by omega⟩
  have zn := z.n
  refine Has.bind (P := fun a : List Cells => (a.length : Int) = r3.1 ∧ ∀ c ∈ a, fld r1.1 r2.1 c) ?_ fun a ⟨al, fa⟩ => ?_
  · refine Has.loop (fun t : spymake_Stream × List Cells × Int => after r3.2 t.1 (10000 * t.2.2) ∧ 0 ≤ t.2.2 ∧ t.2.2 ≤ r3.1 ∧ (t.2.1.length : Int) = t.2.2 ∧ ∀ c ∈ t.2.1, fld r1.1 r2.1 c) (fun t => (r3.1 - t.2.2).toNat) _ ⟨after.refl _, Int.le_refl _, by simp only []; omega, rfl, by simp⟩ (by simp only []; omega) fun t ⟨t1, t2, t3, t4, t5⟩ => ?_
    unfold spykeep4_StackOrder.l1
    refine Has.ite (fun hi => ?_) fun hi => ?_
    · have hi : t.2.2 < r3.1 := of_decide_eq_true hi
      have hT := t1.ok o3 (by omega); have hht := t1.hi
      refine (field_ok _ r1.1 r2.1 z hT (by omega)).bind fun q ⟨q1, q2⟩ => ?_
      rw [w6_in (n := t.2.2 + 1) (by omega)]
      refine Has.chk (roomyI (by simp; omega) (by simp; omega)) (Has.ret (.next ⟨(t1.trans q2).more (by simp only []; omega), by simp only []; omega, by simp only []; omega, by simp; omega, fun c hc => ?_⟩ (by simp only []; omega)))
      rcases List.mem_append.1 hc with h | h
      · exact t5 c h
      · simp at h; rw [h]; exact q1
    · have hi : ¬ t.2.2 < r3.1 := fun q => hi (decide_eq_true q)
      exact Has.ret (.done ⟨by omega, t5⟩)
  refine (below_ok turn r3.1 ht (by omega)).bind fun r9 ⟨u0, u1⟩ => ?_
  refine Has.bind (P := fun b : List Cells => (b.length : Int) = r3.1 ∧ allI b fun j c => c = gt a ((r3.1 - 1 - j + r9) % r3.1)) ?_ fun b ⟨bl, eb⟩ => ?_
  · refine Has.loop (fun t : List Cells × Int => 0 ≤ t.2 ∧ t.2 ≤ r3.1 ∧ (t.1.length : Int) = t.2 ∧ allI t.1 fun j c => c = gt a ((r3.1 - 1 - j + r9) % r3.1)) (fun t => (r3.1 - t.2).toNat) _ ⟨Int.le_refl _, by simp only []; omega, rfl, allI_nil⟩ (by simp only []; omega) fun t ⟨t2, t3, t4, t5⟩ => ?_
    unfold spykeep4_StackOrder.l2
    refine Has.ite (fun hi => ?_) fun hi => ?_
    · have hi : t.2 < r3.1 := of_decide_eq_true hi
      rw [w6_in (n := r3.1 - 1) (by omega), w6_in (n := r3.1 - 1 - t.2) (by omega), w6_in (n := r3.1 - 1 - t.2 + r9) (by omega), w6_in (n := t.2 + 1) (by omega), Int.tmod_eq_emod_of_nonneg (by omega)]
      have m0 := Int.emod_nonneg (r3.1 - 1 - t.2 + r9) (b := r3.1) (by omega)
      have m1 := Int.emod_lt_of_pos (r3.1 - 1 - t.2 + r9) (b := r3.1) (by omega)
      refine Has.chk (by omega) (Has.chk ⟨m0, by omega⟩ (Has.chk (roomyI (by simp; omega) (by simp; omega)) (Has.ret (.next ⟨by simp only []; omega, by simp only []; omega, by simp; omega, allI_snoc t5 (by rw [t4])⟩ (by simp only []; omega)))))
    · have hi : ¬ t.2 < r3.1 := fun q => hi (decide_eq_true q)
      exact Has.ret (.done ⟨by omega, t5⟩)
  have fb : ∀ c ∈ b, fld r1.1 r2.1 c := allI_mem (R := fld r1.1 r2.1) fun j j0 j1 => by
    rw [eb j j0 j1]
    have m0 := Int.emod_nonneg (r3.1 - 1 - j + r9) (b := r3.1) (by omega)
    have m1 := Int.emod_lt_of_pos (r3.1 - 1 - j + r9) (b := r3.1) (by omega)
    exact fa _ (gt_mem a _ ⟨m0, by omega⟩)
  have hlen : b.length = a.length := by omega
  have sums : ∀ g : Cells → Int, sumI (fun j => g (gt b j)) b.length = sumI (fun j => g (gt a j)) a.length := fun g => by
    rw [hlen, ← turned_sum (fun j => g (gt a j)) a.length r9 (by omega) (by omega) u0 (by omega)]
    refine sumI_congr fun j j0 j1 => ?_
    rw [eb j j0 (by omega), al]
  have sh : ∀ i, hol b i = hol a i := fun i => sums (unk i)
  have sl : ∀ i, slo b i = slo a i := fun i => sums (klo i)
  have su : ∀ i, shi b i = shi a i := fun i => sums (khi i)
  have eT : ∀ i, totB b i = totB a i := fun i => by unfold totB; rw [sh, sl, su]
  have eM : ∀ i, meanB b i = meanB a i := fun i => by unfold meanB; rw [sh, sl, su, hlen]
  rw [w6_in (n := r3.1 + 1) (by omega)]
  refine (below_ok part (r3.1 + 1) hp (by omega)).bind fun r16 ⟨k0, k1⟩ => ?_
  refine (added_ok z fa (by omega)).bind fun r17 ⟨x1, x2⟩ => (added_ok z fb (by omega)).bind fun r18 ⟨y1, y2⟩ => ?_
  refine Has.chk k0 (Has.chk ⟨by omega, by omega⟩ ?_)
  have e1 : (List.drop 0 a).take (r16.toNat - 0) = a.take r16.toNat := by simp
  have e2 : (List.drop r16.toNat a).take (a.length - r16.toNat) = a.drop r16.toNat := List.take_of_length_le (by simp)
  rw [e1]
  refine (added_ok z (fun c hc => fa c (mem_take hc)) (by simp; omega)).bind fun r21 ⟨p1, p2⟩ => Has.chk ⟨by omega, by omega⟩ ?_
  rw [e2]
  refine (added_ok z (fun c hc => fa c (List.mem_of_mem_drop hc)) (by simp; omega)).bind fun r23 ⟨q1, q2⟩ => ?_
  refine (join_ok z p2 q2 (fun c hc => fa c (mem_take hc)) (fun c hc => fa c (List.mem_of_mem_drop hc)) (by simp; omega)).bind fun r24 ⟨j1, j2⟩ => ?_
  rw [List.take_append_drop] at j2
  refine (all_ok z fa (by omega) (by omega)).bind fun r25 ⟨v1, v2⟩ => ?_
  rw [piledFact, x1, y1, p1, q1, j1, v1]
  simp only [Option.bind_some, Bool.not_true, Bool.false_eq_true, if_false, bne_self_eq_false]
  refine Has.seq (P := fun t : Step (List Cells) Bool => ∃ o, t = .next o ∧ (o.length : Int) = 6 ∧ allI o fun j c => (j % 2 = 0 → isF c r1.1 r2.1 (totB a)) ∧ (j % 2 = 1 → isF c r1.1 r2.1 (meanB a))) ?_ (fun o ⟨o', e, ol, oa⟩ => ?_) (fun o ⟨o', e, _⟩ => by cases e)
  · refine Has.loop (fun t : List Cells × Int => 0 ≤ t.2 ∧ t.2 ≤ 3 ∧ (t.1.length : Int) = 2 * t.2 ∧ allI t.1 fun j c => (j % 2 = 0 → isF c r1.1 r2.1 (totB a)) ∧ (j % 2 = 1 → isF c r1.1 r2.1 (meanB a))) (fun t => (3 - t.2).toNat) _ ⟨Int.le_refl _, by simp only []; omega, rfl, allI_nil⟩ (by simp only []; omega) fun t ⟨t2, t3, t4, t5⟩ => ?_
    unfold spykeep4_StackOrder.l3
    refine Has.letF (Has.ite (fun hi => ?_) fun hi => ?_)
    · have hi : t.2 < 3 := of_decide_eq_true hi
      have key : ∃ b, stk (gt ([r17.1, r18.1, r24.1] : List stack_Stack) t.2) r1.1 r2.1 b ∧ (∀ c ∈ b, fld r1.1 r2.1 c) ∧ b.length ≤ 8 ∧ (∀ i, totB b i = totB a i) ∧ ∀ i, meanB b i = meanB a i := by
        have : t.2 = 0 ∨ t.2 = 1 ∨ t.2 = 2 := by omega
        rcases this with e | e | e <;> rw [e]
        · exact ⟨a, x2, fa, by omega, fun _ => rfl, fun _ => rfl⟩
        · exact ⟨b, y2, fb, by omega, eT, eM⟩
        · exact ⟨a, j2, fa, by omega, fun _ => rfl, fun _ => rfl⟩
      obtain ⟨b', k1, k2, k3, k4, k5⟩ := key
      rw [w6_in (n := t.2 + 1) (by omega)]
      refine Has.chk ⟨t2, hi⟩ ((total_ok z k1 k2 k3).bind fun c ⟨c1, c2⟩ => (mean_ok z k1 k2 k3).bind fun d ⟨d1, d2⟩ => ?_)
      rw [c1, d1]
      refine Has.bind (P := fun q => q = false) (Has.neg (by simp) (Has.ret rfl)) fun q hq => Has.neg (by rw [hq]; simp) (Has.chk (roomyI (by simp; omega) (by simp; omega)) (Has.ret (.next ⟨by simp only []; omega, by simp only []; omega, by simp; omega, ?_⟩ (by simp only []; omega))))
      have f1 : (totB b') = totB a := funext k4
      have f2 : (meanB b') = meanB a := funext k5
      have e : t.1 ++ [c.1, d.1] = (t.1 ++ [c.1]) ++ [d.1] := by simp
      simp only []
      rw [e]
      refine allI_snoc (allI_snoc t5 ⟨fun _ => f1 ▸ c2, fun h => by omega⟩) ⟨fun h => by simp at h; omega, fun _ => f2 ▸ d2⟩
    · have hi : ¬ t.2 < 3 := fun q => hi (decide_eq_true q)
      exact Has.ret (.done ⟨t.1, rfl, by omega, t5⟩)
  · cases e
    have s0 := (oa 0 (by omega) (by omega)).1 rfl
    have s1 := (oa 1 (by omega) (by omega)).2 rfl
    have s2 := (oa 2 (by omega) (by omega)).1 rfl
    have s3 := (oa 3 (by omega) (by omega)).2 rfl
    have s4 := (oa 4 (by omega) (by omega)).1 rfl
    have s5 := (oa 5 (by omega) (by omega)).2 rfl
    rw [same_of z s0 s2 fun _ _ _ => rfl, same_of z s0 s4 fun _ _ _ => rfl, same_of z s0 v2 fun _ _ _ => rfl, same_of z s1 s3 fun _ _ _ => rfl, same_of z s1 s5 fun _ _ _ => rfl]
    simp only [Option.bind_some, if_true]
    refine Has.bind (P := fun q => q = true) (Has.chk (by omega) (Has.chk (by omega) (Has.chk (by omega) (Has.chk (by omega) (Has.chk (by omega) (Has.chk (by omega) (Has.ret rfl))))))) fun q hq => Has.ret hq
end Lf
