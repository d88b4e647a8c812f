/- Laws of the plain functions. Conditions: as each theorem states them. -/
import Derived.Test.YtddmapanlfdooaaD
import Derived.Test.YtddmapanlfdooaaA4
import Derived.Lib.Mul64
/- Plain facts of streams and bounds, for the functions of StmD. -/
namespace Lf
open Go Go.Abs
set_option linter.unusedVariables false
set_option linter.unusedSimpArgs false
/-! streams -/
/-- What a stream must be. -/
structure okS (s : spymake_Stream) : Prop where
  z : ∀ z ∈ s.L, -9223372036854775808 ≤ z ∧ z ≤ 9223372036854775807
  len : s.L.length ≤ 17592186044416
  a0 : 0 ≤ s.at_
  a1 : s.at_ ≤ 4611686018427387904
theorem okS.start {l : List Int} (h : okL l) : okS (spymake_Stream.mk l 0) := ⟨h.z, by have := h.len; simp only []; omega, Int.le_refl _, by simp only []; omega⟩
/-- What is true of a stream that another one has become. -/
structure after (s t : spymake_Stream) (k : Int) : Prop where
  L : t.L = s.L
  lo : s.at_ ≤ t.at_
  hi : t.at_ ≤ s.at_ + k
theorem after.refl (s : spymake_Stream) : after s s 0 := ⟨rfl, Int.le_refl _, by omega⟩
theorem after.trans {s t u : spymake_Stream} {k m : Int} (h : after s t k) (g : after t u m) : after s u (k + m) := ⟨g.L.trans h.L, Int.le_trans h.lo g.lo, by have := h.hi; have := g.hi; omega⟩
theorem after.more {s t : spymake_Stream} {k m : Int} (h : after s t k) (hk : k ≤ m) : after s t m := ⟨h.L, h.lo, by have := h.hi; omega⟩
theorem after.ok {s t : spymake_Stream} {k : Int} (h : after s t k) (g : okS s) (hk : s.at_ + k ≤ 4611686018427387904) : okS t := ⟨by rw [h.L]; exact g.z, by rw [h.L]; exact g.len, by have := h.lo; have := g.a0; omega, by have := h.hi; omega⟩
theorem below_ok (x n : Int) (hx : -9223372036854775808 ≤ x ∧ x ≤ 9223372036854775807) (hn : 1 ≤ n ∧ n ≤ 9223372036854775807) : Has (spymake_Below x n) fun v => 0 ≤ v ∧ v < n := by
  unfold spymake_Below
  have h1 := Int.lt_tmod_of_pos x (b := n) (by omega)
  have h2 := Int.tmod_lt_of_pos x (b := n) (by omega)
  refine Has.neg (by simp; omega) (Has.chk (by omega) (Has.ite (fun h => Has.ret ?_) fun h => Has.ret ?_))
  · simp only [decide_eq_true_eq] at h; rw [w6_in (by omega)]; omega
  · simp only [decide_eq_true_eq] at h; omega
theorem below_zero (x n : Int) (hn : n ≤ 0) : spymake_Below x n = some 0 := by unfold spymake_Below; rw [if_pos (by simp; omega)]
theorem next_ok (s : spymake_Stream) (n : Int) (hs : okS s) (ha : s.at_ < 4611686018427387904) (hn : 1 ≤ n ∧ n ≤ 9223372036854775807) : Has (Stream_Next s n) fun r => 0 ≤ r.1 ∧ r.1 < n ∧ after s r.2 1 := by
  have h0 := hs.a0
  have hl := hs.len
  have e1 : w6 (s.at_ + 1) = s.at_ + 1 := w6_in (by omega)
  have fin : after s (spymake_Stream.mk s.L (s.at_ + 1)) 1 := ⟨rfl, by simp only []; omega, Int.le_refl _⟩
  unfold Stream_Next
  simp only [e1]
  refine Has.ite (fun hz => ?_) fun hz => ?_
  · exact (below_ok _ n (w6_bd _) hn).bind fun v hv => Has.ret ⟨hv.1, hv.2, fin⟩
  · have hz : s.L.length ≠ 0 := by simpa using hz
    have e2 : w6 (s.at_ + 1 - 1) = s.at_ := by rw [w6_in (by omega)]; omega
    have b1 := Int.tmod_nonneg (s.L.length : Int) hs.a0
    have b2 := Int.tmod_lt_of_pos s.at_ (b := (s.L.length : Int)) (by omega)
    simp only [e2]
    refine Has.chk (by omega) (Has.chk ⟨b1, b2⟩ ?_)
    refine (below_ok _ 1073741824 (hs.z _ (gt_mem _ _ ⟨b1, b2⟩)) (by omega)).bind fun v hv => Has.letF (Has.letF ?_)
    exact (below_ok _ n (w6_bd _) hn).bind fun u hu => Has.ret ⟨hu.1, hu.2, fin⟩
theorem range_ok (s : spymake_Stream) (lo hi : Int) (hs : okS s) (ha : s.at_ < 4611686018427387904) (h : lo ≤ hi) (h1 : -2305843009213693952 ≤ lo) (h2 : hi ≤ 2305843009213693952) : Has (Stream_Range s lo hi) fun r => lo ≤ r.1 ∧ r.1 ≤ hi ∧ after s r.2 1 := by
  unfold Stream_Range
  rw [w6_in (n := hi - lo) (by omega), w6_in (n := hi - lo + 1) (by omega)]
  refine Has.neg (by simp; omega) ((next_ok s (hi - lo + 1) hs ha (by omega)).bind fun r hr => Has.ret ?_)
  rw [w6_in (by omega)]
  exact ⟨by omega, by omega, hr.2.2⟩
end Lf
/- Plain facts of bounds. -/
namespace Lf
open Go Go.Abs
set_option linter.unusedVariables false
set_option linter.unusedSimpArgs false
/-- A valid bound. -/
structure Bound.ok (b : Bound) : Prop where
  u : b.Unknown = true → b.Lo = 0 ∧ b.Hi = 0
  lo : -1152921504606846976 ≤ b.Lo
  le : b.Lo ≤ b.Hi
  hi : b.Hi ≤ 1152921504606846976
theorem check_ok {b : Bound} (h : b.ok) : bound_Check b = some 0 := by
  obtain ⟨h1, h2, h3, h4⟩ := h
  unfold bound_Check
  rw [mn2_le h3, mx2_le h3]
  have e1 : ¬ b.Lo < -1152921504606846976 := by omega
  have e2 : ¬ b.Hi > 1152921504606846976 := by omega
  have e3 : ¬ b.Lo > b.Hi := by omega
  cases hu : b.Unknown with
  | false => simp [e1, e2, e3]
  | true => obtain ⟨q1, q2⟩ := h1 hu; simp [q1, q2]
theorem norm_ok {b : Bound} (h : b.ok) : bound_Norm b = some b := by unfold bound_Norm; rw [check_ok h]; rfl
theorem vague_ok {a b : Bound} (ha : a.ok) (hb : b.ok) : bound_vague a b = some (a.Unknown || b.Unknown) := by
  unfold bound_vague; rw [norm_ok ha, norm_ok hb]; cases h : a.Unknown <;> simp [h]
theorem none_ok : bound_None = some ⟨0, 0, true⟩ := rfl
theorem okNone : Bound.ok ⟨0, 0, true⟩ := ⟨fun _ => ⟨rfl, rfl⟩, by decide, by decide, by decide⟩
theorem okKnown {lo hi : Int} (h1 : -1152921504606846976 ≤ lo) (h2 : lo ≤ hi) (h3 : hi ≤ 1152921504606846976) : Bound.ok ⟨lo, hi, false⟩ := ⟨(fun h => nomatch h), h1, h2, h3⟩
theorem of_ok {lo hi : Int} (h1 : -1152921504606846976 ≤ lo) (h2 : lo ≤ hi) (h3 : hi ≤ 1152921504606846976) : bound_Of lo hi = some ⟨lo, hi, false⟩ := by
  unfold bound_Of; rw [norm_ok (okKnown h1 h2 h3)]; rfl
end Lf
/- Sums of bounds; what both admit. -/
namespace Lf
open Go Go.Abs
set_option linter.unusedVariables false
set_option linter.unusedSimpArgs false
theorem add_known {a b : Bound} (ha : a.ok) (hb : b.ok) (ua : a.Unknown = false) (ub : b.Unknown = false) (h1 : -1152921504606846976 ≤ a.Lo + b.Lo) (h2 : a.Hi + b.Hi ≤ 1152921504606846976) : bound_Add a b = some ⟨a.Lo + b.Lo, a.Hi + b.Hi, false⟩ := by
  have := ha.le; have := hb.le
  unfold bound_Add
  rw [vague_ok ha hb, ua, ub]
  simp only [Option.bind_some, Bool.or_self, Bool.false_eq_true, if_false]
  rw [w6_in (by omega), w6_in (by omega), of_ok h1 (by omega) h2]; rfl
theorem add_vague {a b : Bound} (ha : a.ok) (hb : b.ok) (u : (a.Unknown || b.Unknown) = true) : bound_Add a b = some ⟨0, 0, true⟩ := by
  unfold bound_Add
  rw [vague_ok ha hb, u]; rfl
end Lf
/- Fields of light, and bounds of it. -/
namespace Lf
open Go Go.Abs
set_option linter.unusedVariables false
set_option linter.unusedSimpArgs false
/-- A valid field. -/
structure okF (c : Cells) : Prop where
  w0 : 1 ≤ c.W
  w1 : c.W ≤ 32
  h0 : 1 ≤ c.H
  h1 : c.H ≤ 32
  len : (c.At.length : Int) = c.W * c.H
  cell : ∀ b ∈ c.At, b.ok ∧ -1099511627776 ≤ b.Lo ∧ b.Hi ≤ 1099511627776
theorem area {w h : Int} (w0 : 1 ≤ w) (w1 : w ≤ 32) (h0 : 1 ≤ h) (h1 : h ≤ 32) : 1 ≤ w * h ∧ w * h ≤ 1024 := by
  have a := Int.mul_le_mul_of_nonneg_right w1 (show 0 ≤ h by omega)
  have b := Int.mul_le_mul_of_nonneg_right w0 (show 0 ≤ h by omega)
  omega
theorem okF.n1 {c : Cells} (h : okF c) : 1 ≤ (c.At.length : Int) ∧ (c.At.length : Int) ≤ 1024 := by rw [h.len]; exact area h.w0 h.w1 h.h0 h.h1
theorem findCheck_ok {c : Cells} (h : okF c) : find_Check c = some 0 := by
  have hw0 := h.w0; have hw1 := h.w1; have hh0 := h.h0; have hh1 := h.h1
  have hn := h.n1
  have e : w6 (c.W * c.H) = (c.At.length : Int) := by rw [← h.len]; exact w6_in (by omega)
  apply Has.val
  unfold find_Check
  rw [e]
  have g1 : decide (c.W < 1) = false := decide_eq_false (by omega)
  have g2 : decide (c.W > 32) = false := decide_eq_false (by omega)
  have g3 : decide (c.H < 1) = false := decide_eq_false (by omega)
  have g4 : decide (c.H > 32) = false := decide_eq_false (by omega)
  simp only [g1, g2, g3, g4, ite_or, Bool.false_or, bne_self_eq_false, Option.bind_some, Bool.false_eq_true, if_false]
  refine Has.seq (P := fun t : Step Unit Int => t = .next ()) ?_ (fun _ _ => Has.ret rfl) (fun o ho => by cases ho)
  refine Has.loop (fun i : Int => 0 ≤ i ∧ i ≤ c.At.length) (fun i => (c.At.length - i).toNat) (fun t : Step Unit Int => t = .next ()) ⟨Int.le_refl _, by omega⟩ (by omega) fun i ⟨i1, i2⟩ => ?_
  unfold find_Check.l1
  refine Has.ite (fun hi => ?_) fun hi => Has.ret (.done rfl)
  have hi : i < c.At.length := of_decide_eq_true hi
  obtain ⟨b1, b2, b3⟩ := h.cell _ (gt_mem c.At i ⟨i1, hi⟩)
  refine Has.chk ⟨i1, hi⟩ ?_
  rw [check_ok b1]
  have g5 : decide ((gt c.At i).Lo < (-1099511627776)) = false := decide_eq_false (by omega)
  have g6 : decide ((gt c.At i).Hi > 1099511627776) = false := decide_eq_false (by omega)
  simp only [Option.bind_some, bne_self_eq_false, Bool.false_eq_true, if_false, g5, g6, ite_or, Bool.false_or]
  rw [w6_in (by omega)]
  exact Has.ret (.next ⟨by omega, by omega⟩ (by omega))
end Lf
/- Stacks of fields. -/
namespace Lf
open Go Go.Abs
set_option linter.unusedVariables false
set_option linter.unusedSimpArgs false
def sumI (f : Int → Int) : Nat → Int
  | 0 => 0
  | n + 1 => sumI f n + f n
theorem sumI_congr {f g : Int → Int} : ∀ {n : Nat}, (∀ j : Int, 0 ≤ j → j < n → f j = g j) → sumI f n = sumI g n
  | 0, _ => rfl
  | n + 1, h => by
    unfold sumI
    rw [sumI_congr fun j j0 j1 => h j j0 (by omega), h n (by omega) (by omega)]
theorem sumI_snoc {α : Type} [Cl α] (g : α → Int) (a : List α) (c : α) : sumI (fun j => g (gt (a ++ [c]) j)) (a ++ [c]).length = sumI (fun j => g (gt a j)) a.length + g c := by
  have e : (a ++ [c]).length = a.length + 1 := by simp
  rw [e, sumI, gt_snoc_eq rfl]
  congr 1
  exact sumI_congr fun j j0 j1 => by rw [gt_snoc_lt j0 j1]
def unk (i : Int) (c : Cells) : Int := if (gt c.At i).Unknown = true then 1 else 0
def klo (i : Int) (c : Cells) : Int := if (gt c.At i).Unknown = true then 0 else (gt c.At i).Lo
def khi (i : Int) (c : Cells) : Int := if (gt c.At i).Unknown = true then 0 else (gt c.At i).Hi
def hol (a : List Cells) (i : Int) : Int := sumI (fun j => unk i (gt a j)) a.length
def slo (a : List Cells) (i : Int) : Int := sumI (fun j => klo i (gt a j)) a.length
def shi (a : List Cells) (i : Int) : Int := sumI (fun j => khi i (gt a j)) a.length
/-- A valid field of a size. -/
structure fld (w h : Int) (c : Cells) : Prop where
  f : okF c
  ew : c.W = w
  eh : c.H = h
/-- A stack of some fields. -/
structure stk (s : stack_Stack) (w h : Int) (a : List Cells) : Prop where
  ew : s.W = w
  eh : s.H = h
  n : s.N = a.length
  hl : (s.Holes.length : Int) = w * h
  al : (s.At.length : Int) = w * h
  hole : allI s.Holes fun i x => x = hol a i
  at_ : allI s.At fun i b => b = ⟨slo a i, shi a i, false⟩
/-- What is known of sums of so many cells. -/
theorem sums_bd {a : List Cells} {w h i : Int} (hf : ∀ c ∈ a, fld w h c) (i0 : 0 ≤ i) (i1 : i < w * h) : ∀ n : Nat, n ≤ a.length →
    0 ≤ sumI (fun j => unk i (gt a j)) n ∧ sumI (fun j => unk i (gt a j)) n ≤ n ∧ -(1099511627776 * (n - sumI (fun j => unk i (gt a j)) n)) ≤ sumI (fun j => klo i (gt a j)) n ∧ sumI (fun j => klo i (gt a j)) n ≤ sumI (fun j => khi i (gt a j)) n ∧ sumI (fun j => khi i (gt a j)) n ≤ 1099511627776 * (n - sumI (fun j => unk i (gt a j)) n)
  | 0, _ => by simp [sumI]
  | n + 1, hn => by
    have ih := sums_bd hf i0 i1 n (by omega)
    have fc := hf _ (gt_mem a n ⟨by omega, by omega⟩)
    have hc := fc.f.cell _ (gt_mem (gt a (n : Int)).At i ⟨i0, by rw [fc.f.len, fc.ew, fc.eh]; exact i1⟩)
    have hle := hc.1.le
    simp only [sumI]
    have e : (gt (gt a (n : Int)).At i).Unknown = true ∨ (gt (gt a (n : Int)).At i).Unknown = false := by cases (gt (gt a (n : Int)).At i).Unknown <;> simp
    unfold unk klo khi at *
    rcases e with e | e
    · simp only [e, if_true]
      omega
    · simp only [e, Bool.false_eq_true, if_false]
      omega
theorem stk_bd {a : List Cells} {w h i : Int} (hf : ∀ c ∈ a, fld w h c) (i0 : 0 ≤ i) (i1 : i < w * h) :
    0 ≤ hol a i ∧ hol a i ≤ a.length ∧ -(1099511627776 * (a.length - hol a i)) ≤ slo a i ∧ slo a i ≤ shi a i ∧ shi a i ≤ 1099511627776 * (a.length - hol a i) := sums_bd hf i0 i1 a.length (Nat.le_refl _)
/-- A size that fields may have. -/
structure size (w h : Int) : Prop where
  w0 : 1 ≤ w
  w1 : w ≤ 32
  h0 : 1 ≤ h
  h1 : h ≤ 32
theorem size.n {w h : Int} (z : size w h) : 1 ≤ w * h ∧ w * h ≤ 1024 := area z.w0 z.w1 z.h0 z.h1
theorem stackCheck_ok {s : stack_Stack} {w h : Int} {a : List Cells} (z : size w h) (hs : stk s w h a) (hf : ∀ c ∈ a, fld w h c) (ha : a.length ≤ 8) : stack_Check s = some 0 := by
  have zn := z.n
  have e : w6 (s.W * s.H) = w * h := by rw [hs.ew, hs.eh]; exact w6_in (by omega)
  apply Has.val
  unfold stack_Check
  rw [e, hs.al, hs.hl, hs.ew, hs.eh, hs.n]
  have z1 := z.w0; have z2 := z.w1; have z3 := z.h0; have z4 := z.h1
  have g1 : decide (w < 1) = false := decide_eq_false (by omega)
  have g2 : decide (w > 32) = false := decide_eq_false (by omega)
  have g3 : decide (h < 1) = false := decide_eq_false (by omega)
  have g4 : decide (h > 32) = false := decide_eq_false (by omega)
  have g5 : decide ((a.length : Int) < 0) = false := decide_eq_false (by omega)
  have g6 : decide ((a.length : Int) > 8) = false := decide_eq_false (by omega)
  simp only [g1, g2, g3, g4, g5, g6, ite_or, Bool.false_or, bne_self_eq_false, Option.bind_some, Bool.false_eq_true, if_false]
  refine Has.seq (P := fun t : Step Unit Int => t = .next ()) ?_ (fun _ _ => Has.ret rfl) (fun o ho => by cases ho)
  refine Has.loop (fun i : Int => 0 ≤ i ∧ i ≤ s.At.length) (fun i => (s.At.length - i).toNat) (fun t : Step Unit Int => t = .next ()) ⟨Int.le_refl _, by omega⟩ (by have := hs.al; omega) fun i ⟨i1, i2⟩ => ?_
  unfold stack_Check.l1
  refine Has.ite (fun hi => ?_) fun hi => Has.ret (.done rfl)
  have hi : i < s.At.length := of_decide_eq_true hi
  have hal := hs.al; have hhl := hs.hl
  have eb : gt s.At i = ⟨slo a i, shi a i, false⟩ := hs.at_ i i1 hi
  have eh : gt s.Holes i = hol a i := hs.hole i i1 (by omega)
  obtain ⟨b1, b2, b3, b4, b5⟩ := stk_bd hf i1 (show i < w * h by omega)
  rw [eb, eh, hs.n]
  have ok : Bound.ok ⟨slo a i, shi a i, false⟩ := okKnown (by omega) b4 (by omega)
  rw [check_ok ok]
  refine Has.chk ⟨i1, hi⟩ ?_
  simp only [Option.bind_some, bne_self_eq_false, Bool.false_eq_true, if_false]
  refine Has.chk ⟨i1, by omega⟩ ?_
  rw [w6_in (n := (a.length : Int) - hol a i) (by omega), w6_in (n := ((a.length : Int) - hol a i) * 1099511627776) (by omega), w6_in (n := 0 - ((a.length : Int) - hol a i) * 1099511627776) (by omega), w6_in (n := i + 1) (by omega)]
  have k1 : decide ((a.length : Int) - hol a i < 0) = false := decide_eq_false (by omega)
  have k2 : decide ((a.length : Int) - hol a i > a.length) = false := decide_eq_false (by omega)
  have k3 : decide (slo a i < 0 - ((a.length : Int) - hol a i) * 1099511627776) = false := decide_eq_false (by omega)
  have k4 : decide (shi a i > ((a.length : Int) - hol a i) * 1099511627776) = false := decide_eq_false (by omega)
  simp only [Abs.letF, k1, k2, k3, k4, Bool.false_eq_true, if_false, Option.bind_some]
  exact Has.ret (.next ⟨by omega, by omega⟩ (by omega))
theorem stackFit_ok {s : stack_Stack} {w h : Int} {a : List Cells} {c : Cells} (z : size w h) (hs : stk s w h a) (hf : ∀ c ∈ a, fld w h c) (ha : a.length ≤ 8) (hc : fld w h c) : stack_fit s c = some 0 := by
  unfold stack_fit
  rw [stackCheck_ok z hs hf ha, findCheck_ok hc.f, hs.ew, hs.eh, hc.ew, hc.eh]
  simp
theorem cloneI_ok {l : List Int} (h : l ≠ []) (hl : l.length ≤ 1000000) : slices_Clone_Int l = some l := by
  apply Has.val
  unfold slices_Clone_Int nilF
  cases l with
  | nil => exact absurd rfl h
  | cons x xs =>
    refine Has.bind (P := fun z => z = false) (Has.ret rfl) fun z hz => Has.neg (by rw [hz]; simp) (Has.chk (roomyI (by simp only [List.length_nil]; omega) (by simp only [List.length_nil]; omega)) (Has.ret rfl))
theorem cloneB_ok {l : List Bound} (h : l ≠ []) (hl : l.length ≤ 1000000) : slices_Clone_Bound l = some l := by
  apply Has.val
  unfold slices_Clone_Bound nilF
  cases l with
  | nil => exact absurd rfl h
  | cons x xs =>
    refine Has.bind (P := fun z => z = false) (Has.ret rfl) fun z hz => Has.neg (by rw [hz]; simp) (Has.chk (roomyI (by simp only [List.length_nil]; omega) (by simp only [List.length_nil]; omega)) (Has.ret rfl))
theorem copied_ok {s : stack_Stack} {w h : Int} {a : List Cells} (z : size w h) (hs : stk s w h a) : stack_copied s = some s := by
  have zn := z.n
  have h1 := hs.hl; have h2 := hs.al
  unfold stack_copied
  rw [cloneI_ok (fun e => by rw [e] at h1; simp at h1; omega) (by omega), cloneB_ok (fun e => by rw [e] at h2; simp at h2; omega) (by omega)]
  rfl
theorem stackNew_ok {w h : Int} (z : size w h) : Has (stack_New w h) fun r => r.2 = 0 ∧ stk r.1 w h [] := by
  have zn := z.n
  have z1 := z.w0; have z2 := z.w1; have z3 := z.h0; have z4 := z.h1
  unfold stack_New
  rw [w6_in (n := w * h) (by omega)]
  have g1 : decide (w < 1) = false := decide_eq_false (by omega)
  have g2 : decide (w > 32) = false := decide_eq_false (by omega)
  have g3 : decide (h < 1) = false := decide_eq_false (by omega)
  have g4 : decide (h > 32) = false := decide_eq_false (by omega)
  simp only [g1, g2, g3, g4, ite_or, Bool.false_or, Option.bind_some, Bool.false_eq_true, if_false]
  exact Has.chk ⟨by omega, Int.le_refl _, roomyI (by omega) (by omega)⟩ (Has.chk ⟨by omega, Int.le_refl _, roomyI (by omega) (by omega)⟩ (Has.ret ⟨rfl, rfl, rfl, rfl, by simp; omega, by simp; omega, allI_rep fun i _ _ => rfl, allI_rep fun i _ _ => rfl⟩))
theorem stackAdd_ok {s : stack_Stack} {w h : Int} {a : List Cells} {c : Cells} (z : size w h) (hs : stk s w h a) (hf : ∀ c ∈ a, fld w h c) (ha : a.length < 8) (hc : fld w h c) :
    Has (stack_Add s c) fun r => r.2 = 0 ∧ stk r.1 w h (a ++ [c]) := by
  have zn := z.n
  have hal := hs.al; have hhl := hs.hl
  have hcl : (c.At.length : Int) = w * h := by rw [hc.f.len, hc.ew, hc.eh]
  unfold stack_Add
  rw [stackFit_ok z hs hf (by omega) hc, copied_ok z hs, hs.n]
  simp only [Option.bind_some, bne_self_eq_false, Bool.false_eq_true, if_false]
  refine Has.neg (by simp; omega) ?_
  have sh : ∀ i, hol (a ++ [c]) i = hol a i + unk i c := fun i => sumI_snoc (unk i) a c
  have sl : ∀ i, slo (a ++ [c]) i = slo a i + klo i c := fun i => sumI_snoc (klo i) a c
  have su : ∀ i, shi (a ++ [c]) i = shi a i + khi i c := fun i => sumI_snoc (khi i) a c
  refine (Has.loop (fun t : List Int × List Bound × Int => 0 ≤ t.2.2 ∧ t.2.2 ≤ c.At.length ∧ (t.1.length : Int) = w * h ∧ (t.2.1.length : Int) = w * h ∧ (allI t.1 fun i x => x = if i < t.2.2 then hol (a ++ [c]) i else hol a i) ∧ allI t.2.1 fun i b => b = if i < t.2.2 then ⟨slo (a ++ [c]) i, shi (a ++ [c]) i, false⟩ else ⟨slo a i, shi a i, false⟩) (fun t => (c.At.length - t.2.2).toNat)
    (fun o : List Int × List Bound => (o.1.length : Int) = w * h ∧ (o.2.length : Int) = w * h ∧ (allI o.1 fun i x => x = hol (a ++ [c]) i) ∧ allI o.2 fun i b => b = ⟨slo (a ++ [c]) i, shi (a ++ [c]) i, false⟩) ⟨Int.le_refl _, by simp only []; omega, hhl, hal, allI_mono hs.hole fun i x i0 i1 hx => by rw [if_neg (by simp only []; omega)]; exact hx, allI_mono hs.at_ fun i x i0 i1 hx => by rw [if_neg (by simp only []; omega)]; exact hx⟩ (by simp only []; omega) fun t ⟨t1, t2, t3, t4, t5, t6⟩ => ?_).bind
    fun o ⟨o1, o2, o3, o4⟩ => Has.ret ⟨rfl, hs.ew, hs.eh, by simp only []; rw [hs.n, w6_in (by omega)]; simp, o1, o2, o3, o4⟩
  unfold stack_Add.l1
  refine Has.ite (fun hi => ?_) fun hi => ?_
  · have hi : t.2.2 < c.At.length := of_decide_eq_true hi
    obtain ⟨b1, b2, b3, b4, b5⟩ := stk_bd hf t1 (show t.2.2 < w * h by omega)
    obtain ⟨c1, c2, c3⟩ := hc.f.cell _ (gt_mem c.At t.2.2 ⟨t1, hi⟩)
    have cle := c1.le
    have e5 : gt t.1 t.2.2 = hol a t.2.2 := by rw [t5 t.2.2 t1 (by omega), if_neg (by omega)]
    have e6 : gt t.2.1 t.2.2 = ⟨slo a t.2.2, shi a t.2.2, false⟩ := by rw [t6 t.2.2 t1 (by omega), if_neg (by omega)]
    rw [e5, e6]
    refine Has.bind (P := fun o : List Int × List Bound => (o.1.length : Int) = w * h ∧ (o.2.length : Int) = w * h ∧ (allI o.1 fun i x => x = if i < t.2.2 + 1 then hol (a ++ [c]) i else hol a i) ∧ allI o.2 fun i b => b = if i < t.2.2 + 1 then ⟨slo (a ++ [c]) i, shi (a ++ [c]) i, false⟩ else ⟨slo a i, shi a i, false⟩) (Has.chk ⟨t1, hi⟩ (Has.ite (fun hu => ?_) fun hu => ?_)) fun o ⟨o1, o2, o3, o4⟩ => ?_
    · have hu : (gt c.At t.2.2).Unknown = true := hu
      refine Has.chk ⟨t1, by omega⟩ (Has.ret ⟨by simp only [List.length_set]; exact t3, t4, ?_, ?_⟩)
      · refine allI_upd t5 t1 (fun j x j0 j1 jn hx => ?_) ?_
        · rw [hx]
          by_cases e : j < t.2.2
          · rw [if_pos e, if_pos (by omega)]
          · rw [if_neg e, if_neg (by omega)]
        · rw [if_pos (by omega), w6_in (by omega), sh]
          unfold unk; rw [if_pos hu]
      · refine allI_mono t6 fun j x j0 j1 hx => ?_
        rw [hx]
        by_cases e : j < t.2.2
        · rw [if_pos e, if_pos (by omega)]
        · rw [if_neg e]
          by_cases e2 : j = t.2.2
          · rw [e2, if_pos (by omega), sl, su]
            unfold klo khi
            rw [if_pos hu, if_pos hu]; simp
          · rw [if_neg (by omega)]
    · have hu : (gt c.At t.2.2).Unknown = false := by simpa using hu
      have hun : ¬ (gt c.At t.2.2).Unknown = true := by rw [hu]; simp
      refine Has.chk ⟨t1, by omega⟩ ?_
      rw [add_known (okKnown (by omega) b4 (by omega)) c1 rfl hu (by simp only []; omega) (by simp only []; omega)]
      refine Has.ret ⟨t3, by simp only [List.length_set]; exact t4, ?_, ?_⟩
      · refine allI_mono t5 fun j x j0 j1 hx => ?_
        rw [hx]
        by_cases e : j < t.2.2
        · rw [if_pos e, if_pos (by omega)]
        · rw [if_neg e]
          by_cases e2 : j = t.2.2
          · rw [e2, if_pos (by omega), sh]
            unfold unk; rw [if_neg hun]; simp
          · rw [if_neg (by omega)]
      · refine allI_upd t6 t1 (fun j x j0 j1 jn hx => ?_) ?_
        · rw [hx]
          by_cases e : j < t.2.2
          · rw [if_pos e, if_pos (by omega)]
          · rw [if_neg e, if_neg (by omega)]
        · rw [if_pos (by omega), sl, su]
          unfold klo khi
          rw [if_neg hun, if_neg hun]
    · rw [w6_in (by omega)]
      exact Has.ret (.next ⟨by simp only []; omega, by simp only []; omega, o1, o2, o3, o4⟩ (by simp only []; omega))
  · have hi : ¬ t.2.2 < c.At.length := fun q => hi (decide_eq_true q)
    exact Has.ret (.done ⟨t3, t4, allI_mono t5 fun i x i0 i1 hx => by rw [hx, if_pos (by have : i < (t.1.length : Int) := i1; omega)], allI_mono t6 fun i x i0 i1 hx => by rw [hx, if_pos (by have : i < (t.2.1.length : Int) := i1; omega)]⟩)
/-- A field, cell by cell. -/
structure isF (c : Cells) (w h : Int) (f : Int → Bound) : Prop where
  ew : c.W = w
  eh : c.H = h
  len : (c.At.length : Int) = w * h
  at_ : allI c.At fun i b => b = f i
theorem isF.eq {c d : Cells} {w h : Int} {f g : Int → Bound} (hc : isF c w h f) (hd : isF d w h g) (e : ∀ i : Int, 0 ≤ i → i < w * h → f i = g i) : c = d := by
  have e1 : c.W = d.W := by rw [hc.ew, hd.ew]
  have e2 : c.H = d.H := by rw [hc.eh, hd.eh]
  have e3 : c.At = d.At := gt_ext (by have := hc.len; have := hd.len; omega) fun i i0 i1 => by
    have l1 := hc.len; have l2 := hd.len
    rw [hc.at_ i i0 i1, hd.at_ i i0 (by omega), e i i0 (by omega)]
  cases c; cases d
  simp only [] at e1 e2 e3
  rw [e1, e2, e3]
end Lf
/- Fields that are shifted by whole cells. -/
namespace Lf
open Go Go.Abs
set_option linter.unusedVariables false
set_option linter.unusedSimpArgs false
/-- A cell of a field, unknown outside. -/
def atF (c : Cells) (x y : Int) : Bound := if x < 0 ∨ x ≥ c.W ∨ y < 0 ∨ y ≥ c.H then ⟨0, 0, true⟩ else gt c.At (y * c.W + x)
theorem atIn {c : Cells} {w h x y : Int} (hc : fld w h c) (h1 : ¬ (x < 0 ∨ x ≥ c.W ∨ y < 0 ∨ y ≥ c.H)) : 0 ≤ y * c.W + x ∧ y * c.W + x < c.At.length := by
  obtain ⟨i0, i1⟩ := Int.mul_nonneg (show 0 ≤ y by omega) (show 0 ≤ c.W by have := hc.f.w0; omega) |> fun a => (And.intro a (Int.mul_le_mul_of_nonneg_right (show y + 1 ≤ c.H by omega) (show 0 ≤ c.W by have := hc.f.w0; omega)))
  rw [Int.add_mul, Int.one_mul, Int.mul_comm c.H c.W] at i1
  rw [hc.f.len]
  omega
theorem at_ok {c : Cells} {w h : Int} (x y : Int) (hc : fld w h c) : stack_at c x y = some (atF c x y) := by
  have w0 := hc.f.w0; have w1 := hc.f.w1; have h0 := hc.f.h0; have h1 := hc.f.h1
  apply Has.val
  unfold stack_at atF
  refine Has.bind (P := fun z => z = decide (x < 0 ∨ x ≥ c.W ∨ y < 0 ∨ y ≥ c.H)) ?_ fun z hz => ?_
  · simp only [ite_or]
    refine Has.ret ?_
    simp only [Bool.decide_or]
  · subst hz
    refine Has.ite (fun hh => ?_) fun hh => ?_
    · rw [if_pos (of_decide_eq_true hh)]; exact Has.ret rfl
    · have hh : ¬ (x < 0 ∨ x ≥ c.W ∨ y < 0 ∨ y ≥ c.H) := fun q => hh (decide_eq_true q)
      obtain ⟨i0, i1⟩ := atIn hc hh
      have hn := hc.f.n1
      rw [if_neg hh]
      have m0 := Int.mul_nonneg (show 0 ≤ y by omega) (show 0 ≤ c.W by omega)
      rw [w6_in (n := y * c.W) (by omega), w6_in (n := y * c.W + x) (by omega)]
      exact Has.chk ⟨i0, i1⟩ (Has.ret rfl)
theorem atF_ok {c : Cells} {w h : Int} (x y : Int) (hc : fld w h c) : (atF c x y).ok ∧ -1099511627776 ≤ (atF c x y).Lo ∧ (atF c x y).Hi ≤ 1099511627776 := by
  unfold atF
  split
  · exact ⟨okNone, by decide, by decide⟩
  · rename_i hh
    exact hc.f.cell _ (gt_mem c.At _ (atIn hc hh))
theorem move_ok {c : Cells} {w h dx dy : Int} (z : size w h) (hc : fld w h c) (x0 : -31 ≤ dx ∧ dx ≤ 31) (y0 : -31 ≤ dy ∧ dy ≤ 31) : Has (stack_Move c dx dy) fun r => r.2 = 0 ∧ fld w h r.1 ∧ isF r.1 w h fun i => atF c (i % w - dx) (i / w - dy) := by
  have zn := z.n
  have hl : (c.At.length : Int) = w * h := by rw [hc.f.len, hc.ew, hc.eh]
  have z1 := z.w0; have z2 := z.w1; have z3 := z.h0; have z4 := z.h1
  unfold stack_Move
  rw [findCheck_ok hc.f, hc.ew, hc.eh]
  have g1 : decide (dx ≤ (-32)) = false := decide_eq_false (by omega)
  have g2 : decide (dx ≥ 32) = false := decide_eq_false (by omega)
  have g3 : decide (dy ≤ (-32)) = false := decide_eq_false (by omega)
  have g4 : decide (dy ≥ 32) = false := decide_eq_false (by omega)
  simp only [g1, g2, g3, g4, ite_or, Bool.false_or, Option.bind_some, bne_self_eq_false, Bool.false_eq_true, if_false]
  refine Has.bind (P := fun l : List Bound => (l.length : Int) = w * h ∧ allI l fun i b => b = atF c (i % w - dx) (i / w - dy)) ?_ fun l ⟨l1, l2⟩ => Has.ret ⟨rfl, ⟨⟨z1, z2, z3, z4, l1, ?_⟩, rfl, rfl⟩, rfl, rfl, l1, l2⟩
  · refine Has.loop (fun t : List Bound × Int => 0 ≤ t.2 ∧ t.2 ≤ c.At.length ∧ (t.1.length : Int) = t.2 ∧ allI t.1 fun i b => b = atF c (i % w - dx) (i / w - dy)) (fun t => (c.At.length - t.2).toNat) _ ⟨Int.le_refl _, by simp only []; omega, rfl, allI_nil⟩ (by simp only []; omega) fun t ⟨t1, t2, t3, t4⟩ => ?_
    unfold stack_Move.l1
    rw [hc.ew]
    refine Has.ite (fun hi => ?_) fun hi => ?_
    · have hi : t.2 < c.At.length := of_decide_eq_true hi
      have m0 := Int.emod_nonneg t.2 (b := w) (by omega)
      have m1 := Int.emod_lt_of_pos t.2 (b := w) (by omega)
      have q0 := Int.ediv_nonneg t1 (show 0 ≤ w by omega)
      have q1 := Int.ediv_le_self w t1
      rw [Int.tmod_eq_emod_of_nonneg t1, Int.tdiv_eq_ediv_of_nonneg t1, w6_in (n := t.2 / w) (by omega), w6_in (n := t.2 % w - dx) (by omega), w6_in (n := t.2 / w - dy) (by omega), w6_in (n := t.2 + 1) (by omega), at_ok _ _ hc]
      simp only [Option.bind_some]
      exact Has.chk (by omega) (Has.chk (roomyI (by simp; omega) (by simp; omega)) (Has.ret (.next ⟨by simp only []; omega, by simp only []; omega, by simp; omega, allI_snoc t4 (by rw [t3])⟩ (by simp only []; omega))))
    · have hi : ¬ t.2 < c.At.length := fun q => hi (decide_eq_true q)
      exact Has.ret (.done ⟨by omega, t4⟩)
  · exact allI_mem (R := fun b : Bound => b.ok ∧ -1099511627776 ≤ b.Lo ∧ b.Hi ≤ 1099511627776) fun i i0 i1 => by rw [l2 i i0 i1]; exact atF_ok _ _ hc
end Lf
/- Words of 64 bits: lengths, products, quotients. -/
namespace Lf
open Go Go.Abs
set_option linter.unusedVariables false
set_option linter.unusedSimpArgs false
theorem wu_in {n : Int} (h : 0 ≤ n ∧ n < 18446744073709551616) : IntKind.wrap .u64 n = n := by rw [IntKind.wrap_u64]; omega
theorem wu_def (n : Int) : IntKind.wrap .u64 n = n % 18446744073709551616 := IntKind.wrap_u64 n
theorem wu_bd (n : Int) : 0 ≤ IntKind.wrap .u64 n ∧ IntKind.wrap .u64 n < 18446744073709551616 := by rw [wu_def]; omega
theorem w8_in {n : Int} (h : 0 ≤ n ∧ n < 256) : IntKind.wrap .u8 n = n := by rw [IntKind.wrap_u8]; omega
theorem fdiv_pow (x : Int) (k : Nat) : Int.fdiv x (2 ^ k) = x / 2 ^ k := Int.fdiv_eq_ediv_of_nonneg x (Int.le_of_lt (Int.pow_pos (by decide)))
theorem u_nat {x : Int} (h : 0 ≤ x ∧ x < 18446744073709551616) : (BitVec.ofInt 64 x).toNat = x.toNat := by
  rw [BitVec.toNat_ofInt]; omega
theorem and_low {x : Int} (h : 0 ≤ x ∧ x < 18446744073709551616) : IntKind.wrap .u64 ((BitVec.ofInt 64 x &&& BitVec.ofInt 64 4294967295).toNat : Int) = x % 4294967296 := by
  rw [BitVec.toNat_and, u_nat h, u_nat (by omega), show (4294967295 : Int).toNat = 2 ^ 32 - 1 from rfl, Nat.and_two_pow_sub_one_eq_mod, wu_in (by omega)]
  omega
theorem xor_all {x : Int} (h : 0 ≤ x ∧ x < 18446744073709551616) : IntKind.wrap .u64 ((BitVec.ofInt 64 (18446744073709551615) ^^^ BitVec.ofInt 64 x).toNat : Int) = 18446744073709551615 - x := by
  have e : BitVec.ofInt 64 18446744073709551615 = BitVec.allOnes 64 := by decide
  rw [e, BitVec.allOnes_xor, BitVec.toNat_not, u_nat h, wu_in (by omega)]
  omega
theorem or_add {x y : Int} (k : Nat) (hx : 0 ≤ x) (hy : 0 ≤ y ∧ y < 2 ^ k) (h : x * 2 ^ k + y < 18446744073709551616) (hk : 0 ≤ x * 2 ^ k) : IntKind.wrap .u64 ((BitVec.ofInt 64 (x * 2 ^ k) ||| BitVec.ofInt 64 y).toNat : Int) = x * 2 ^ k + y := by
  rw [BitVec.toNat_or, u_nat (by omega), u_nat (by omega)]
  obtain ⟨a, rfl⟩ := Int.eq_ofNat_of_zero_le hx
  obtain ⟨b, rfl⟩ := Int.eq_ofNat_of_zero_le hy.1
  have e : ((a : Int) * 2 ^ k).toNat = a <<< k := by
    rw [Nat.shiftLeft_eq]
    have : (a : Int) * 2 ^ k = ((a * 2 ^ k : Nat) : Int) := by simp
    rw [this]; rfl
  have hb : b < 2 ^ k := by
    have := hy.2
    exact_mod_cast this
  rw [e, show ((b : Int)).toNat = b from rfl, ← Nat.shiftLeft_add_eq_or_of_lt hb, Nat.shiftLeft_eq]
  have e2 : ((a * 2 ^ k + b : Nat) : Int) = (a : Int) * 2 ^ k + b := by simp
  rw [e2, wu_in (by omega)]
/-! ### lengths -/
theorem tab_ok : ∀ i : Fin 256, (tab1.getD i.val 0).toNat ≤ 8 ∧ i.val < 2 ^ (tab1.getD i.val 0).toNat ∧ (0 < i.val → 1 ≤ (tab1.getD i.val 0).toNat ∧ 2 ^ ((tab1.getD i.val 0).toNat - 1) ≤ i.val) := by decide +kernel
theorem tab_len : tab1.length = 256 := by decide +kernel
theorem len_fin {x : Int} (c : Nat) (hx : 0 ≤ x) (hc : c ≤ 56) (h : x / 2 ^ c < 256) (hp : 0 < c → 2 ^ c ≤ x) : Has (if (0 : Int) ≤ IntKind.wrap .u8 (x / 2 ^ c) ∧ (IntKind.wrap .u8 (x / 2 ^ c)).toNat < tab1.length then some (w6 ((c : Int) + (w6 (tabAt tab1 (IntKind.wrap .u8 (x / 2 ^ c)))))) else none) fun n => ∃ k : Nat, n = k ∧ k ≤ 64 ∧ x < 2 ^ k ∧ (0 < x → 1 ≤ k ∧ 2 ^ (k - 1) ≤ x) := by
  have p : (0 : Int) < 2 ^ c := Int.pow_pos (by decide)
  have h0 : 0 ≤ x / 2 ^ c := Int.ediv_nonneg hx (Int.le_of_lt p)
  rw [w8_in ⟨h0, h⟩, tab_len]
  obtain ⟨t1, t2, t3⟩ := tab_ok ⟨(x / 2 ^ c).toNat, by omega⟩
  simp only [] at t1 t2 t3
  have e : tabAt tab1 (x / 2 ^ c) = ((tab1.getD (x / 2 ^ c).toNat 0).toNat : Int) := rfl
  generalize (tab1.getD (x / 2 ^ c).toNat 0).toNat = t at *
  refine Has.chk ⟨h0, by omega⟩ (Has.ret ⟨c + t, ?_, by omega, ?_, fun h1 => ?_⟩)
  · have e3 : w6 (t : Int) = t := w6_in (by omega)
    rw [e, e3, w6_in (by omega)]; omega
  · have : x / 2 ^ c < 2 ^ t := by
      have : (((x / 2 ^ c).toNat : Nat) : Int) < ((2 ^ t : Nat) : Int) := Int.ofNat_lt.2 t2
      rw [Int.toNat_of_nonneg h0] at this
      simpa using this
    have := (Int.ediv_lt_iff_lt_mul p).1 this
    rw [Nat.add_comm, Int.pow_add]; exact this
  · have h3 : 0 < (x / 2 ^ c).toNat := by
      have : 1 ≤ x / 2 ^ c := by
        rw [Int.le_ediv_iff_mul_le p]
        rcases Nat.eq_zero_or_pos c with rfl | hcp
        · simp; omega
        · have := hp hcp; omega
      omega
    obtain ⟨k1, k2⟩ := t3 h3
    refine ⟨by omega, ?_⟩
    have k2' : (2 : Int) ^ (t - 1) ≤ x / 2 ^ c := by
      have : ((2 ^ (t - 1) : Nat) : Int) ≤ (((x / 2 ^ c).toNat : Nat) : Int) := Int.ofNat_le.2 k2
      rw [Int.toNat_of_nonneg h0] at this
      simpa using this
    have := (Int.le_ediv_iff_mul_le p).1 k2'
    rw [show c + t - 1 = (t - 1) + c by omega, Int.pow_add]; exact this
theorem len64_ok (x : Int) (hx : 0 ≤ x ∧ x < 18446744073709551616) : Has (bits_Len64 x) fun n => ∃ k : Nat, n = k ∧ k ≤ 64 ∧ x < 2 ^ k ∧ (0 < x → 1 ≤ k ∧ 2 ^ (k - 1) ≤ x) := by
  have d0 : Int.fdiv x (2 ^ 32) = x / 2 ^ 32 := fdiv_pow x 32
  have d1 : Int.fdiv x (2 ^ 16) = x / 2 ^ 16 := fdiv_pow x 16
  have d2 : Int.fdiv x (2 ^ 8) = x / 2 ^ 8 := fdiv_pow x 8
  have d3 : Int.fdiv (x / 2 ^ 32) (2 ^ 16) = x / 2 ^ 48 := by rw [fdiv_pow]; omega
  have d4 : Int.fdiv (x / 2 ^ 48) (2 ^ 8) = x / 2 ^ 56 := by rw [fdiv_pow]; omega
  have d5 : Int.fdiv (x / 2 ^ 32) (2 ^ 8) = x / 2 ^ 40 := by rw [fdiv_pow]; omega
  have d6 : Int.fdiv (x / 2 ^ 16) (2 ^ 8) = x / 2 ^ 24 := by rw [fdiv_pow]; omega
  unfold bits_Len64
  simp only [d0, d1, d2, d3, d4, d5, d6, decide_eq_true_eq]
  refine Has.ite (fun h1 => Has.ite (fun h2 => Has.ite (fun h3 => ?_) fun h3 => ?_) fun h2 => Has.ite (fun h3 => ?_) fun h3 => ?_) fun h1 => Has.ite (fun h2 => Has.ite (fun h3 => ?_) fun h3 => ?_) fun h2 => Has.ite (fun h3 => ?_) fun h3 => ?_
  · exact len_fin 56 hx.1 (by omega) (by omega) (by omega)
  · exact len_fin 48 hx.1 (by omega) (by omega) (by omega)
  · exact len_fin 40 hx.1 (by omega) (by omega) (by omega)
  · exact len_fin 32 hx.1 (by omega) (by omega) (by omega)
  · exact len_fin 24 hx.1 (by omega) (by omega) (by omega)
  · exact len_fin 16 hx.1 (by omega) (by omega) (by omega)
  · exact len_fin 8 hx.1 (by omega) (by omega) (by omega)
  · have := len_fin (x := x) 0 hx.1 (by omega) (by omega) (by omega)
    simpa using this
end Lf
/- The quotient of a number of 128 bits by one of 64. -/
namespace Lf
open Go Go.Abs
set_option linter.unusedVariables false
set_option linter.unusedSimpArgs false
/-- A digit of the quotient, guessed too large or right. -/
structure Dig (a b u d q r : Int) : Prop where
  e : q * a + r = u
  r0 : 0 ≤ r
  lo : (u * 4294967296 + d) / (a * 4294967296 + b) ≤ q
  hi : q ≤ 4294967297
/-- What stands fast while a digit is sought. -/
structure Dg (a b u d : Int) : Prop where
  a0 : 2147483648 ≤ a
  a1 : a < 4294967296
  b0 : 0 ≤ b
  b1 : b < 4294967296
  d0 : 0 ≤ d
  d1 : d < 4294967296
  u0 : 0 ≤ u
  uv : u < a * 4294967296 + b
section
variable {a b u d q r : Int}
theorem Dg.q0 (g : Dg a b u d) : 0 ≤ (u * 4294967296 + d) / (a * 4294967296 + b) := Int.ediv_nonneg (by have := g.u0; have := g.d0; omega) (by have := g.a0; have := g.b0; omega)
theorem Dg.qB (g : Dg a b u d) : (u * 4294967296 + d) / (a * 4294967296 + b) < 4294967296 := by
  have := g.a0; have := g.b0; have := g.uv; have := g.d1; have := g.u0; have := g.d0
  rw [Int.ediv_lt_iff_lt_mul (by omega)]; omega
theorem Dg.test (g : Dg a b u d) (h : q * a + r = u) : (u * 4294967296 + d) / (a * 4294967296 + b) < q ↔ r * 4294967296 + d < q * b := by
  have := g.a0; have := g.b0
  rw [Int.ediv_lt_iff_lt_mul (by omega), Int.mul_add, ← Int.mul_assoc]
  omega
theorem Dg.first (g : Dg a b u d) : Dig a b u d (u / a) (u % a) := by
  have := g.a0; have := g.b0; have := g.u0; have := g.uv; have := g.d1; have := g.b1
  have e1 : u / a * a + u % a = u := by rw [Int.mul_comm]; exact Int.mul_ediv_add_emod u a
  have r0 := Int.emod_nonneg u (b := a) (by omega)
  have r1 := Int.emod_lt_of_pos u (b := a) (by omega)
  refine ⟨e1, r0, ?_, ?_⟩
  · by_cases h : u / a < (u * 4294967296 + d) / (a * 4294967296 + b)
    · have hq := (Int.le_ediv_iff_mul_le (by omega)).1 (show u / a + 1 ≤ (u * 4294967296 + d) / (a * 4294967296 + b) by omega)
      rw [Int.add_mul, Int.mul_add, ← Int.mul_assoc] at hq
      have hs : 0 ≤ u / a * b := Int.mul_nonneg (Int.ediv_nonneg g.u0 (by omega)) g.b0
      omega
    · omega
  · have : u / a < 4294967298 := by rw [Int.ediv_lt_iff_lt_mul (by omega)]; omega
    omega
theorem Dg.down (g : Dg a b u d) (h : Dig a b u d q r) (ht : (u * 4294967296 + d) / (a * 4294967296 + b) < q) : Dig a b u d (q - 1) (r + a) :=
  ⟨by have := h.e; rw [Int.sub_mul]; omega, by have := h.r0; have := g.a0; omega, by omega, by have := h.hi; omega⟩
theorem Dg.stop (g : Dg a b u d) (h : Dig a b u d q r) (hr : 4294967296 ≤ r) (hq : q ≤ 4294967296) : q = (u * 4294967296 + d) / (a * 4294967296 + b) := by
  have hn : ¬ (u * 4294967296 + d) / (a * 4294967296 + b) < q := by
    rw [g.test h.e]
    have h0 : 0 ≤ q := Int.le_trans g.q0 h.lo
    have := Int.mul_le_mul_of_nonneg_left (show b ≤ 4294967295 by have := g.b1; omega) h0
    have := g.d0
    omega
  have := h.lo
  omega
/-- One test: is the digit too large? -/
theorem Dg.asks (g : Dg a b u d) (h : Dig a b u d q r) (hr : r < 4294967296) (v : Int) (hv : v = IntKind.wrap .u64 (IntKind.wrap .u64 (4294967296 * r) + d)) : Has (if (decide (q ≥ 4294967296)) = true then some true else some (decide ((IntKind.wrap .u64 (q * b)) > v))) fun z => z = decide ((u * 4294967296 + d) / (a * 4294967296 + b) < q) := by
  have h0 : 0 ≤ q := Int.le_trans g.q0 h.lo
  refine Has.ite (fun hc => Has.ret ?_) fun hc => Has.ret ?_
  · have := g.qB
    simp only [decide_eq_true_eq] at hc
    exact (decide_eq_true (by omega)).symm
  · simp only [decide_eq_true_eq] at hc
    have h1 := Int.mul_le_mul_of_nonneg_left (show b ≤ 4294967295 by have := g.b1; omega) h0
    have h2 := Int.mul_nonneg h0 g.b0
    have := h.r0; have := g.d0; have := g.d1
    rw [hv, wu_in (n := q * b) (by omega), wu_in (n := 4294967296 * r) (by omega), wu_in (by omega)]
    have key := g.test (q := q) (r := r) h.e
    by_cases ht : (u * 4294967296 + d) / (a * 4294967296 + b) < q
    · rw [decide_eq_true ht, decide_eq_true]; have := key.1 ht; omega
    · rw [decide_eq_false ht, decide_eq_false]; have := mt key.2 ht; omega
end
theorem div_l1 {v7 b v13 u d : Int} {a : Int} (ea : Int.fdiv v7 (2 ^ 32) = a) (ed : Int.fdiv v13 (2 ^ 32) = d) (g : Dg a b u d) (s : Int × Int) (h : Dig a b u d s.1 s.2) (hr : s.2 < 4294967296) :
    Has (loopF (bits_Div64.l1 v7 b v13) s) fun o => o = (u * 4294967296 + d) / (a * 4294967296 + b) := by
  refine Has.loop (fun s : Int × Int => Dig a b u d s.1 s.2 ∧ s.2 < 4294967296) (fun s => s.1.toNat) (fun o : Int => o = (u * 4294967296 + d) / (a * 4294967296 + b)) ⟨h, hr⟩ (by have := h.hi; show s.1.toNat < _; omega) fun s ⟨h, hr⟩ => ?_
  unfold bits_Div64.l1
  simp only [ea, ed]
  have hq := h.hi; have h0 := h.r0; have a0 := g.a0; have a1 := g.a1; have q0 := g.q0; have hl := h.lo
  refine (g.asks h hr _ rfl).bind fun z hz => ?_
  subst hz
  refine Has.ite (fun ht => ?_) fun ht => ?_
  · have ht := of_decide_eq_true ht
    have k := g.down h ht
    rw [wu_in (n := s.2 + a) (by omega), wu_in (n := s.1 - 1) (by omega)]
    refine Has.letF (Has.ite (fun hc => Has.ret (.done ?_)) fun hc => Has.ret (.next ⟨k, ?_⟩ ?_))
    · exact g.stop k (by simpa using hc) (by omega)
    · simpa using hc
    · simp only []; omega
  · have ht : ¬ _ := fun x => ht (decide_eq_true x)
    exact Has.ret (.done (by omega))
theorem div_l2 {v7 b d u : Int} {a : Int} (ea : Int.fdiv v7 (2 ^ 32) = a) (g : Dg a b u d) (s : Int × Int) (h : Dig a b u d s.2 s.1) (hr : s.1 < 4294967296) :
    Has (loopF (bits_Div64.l2 v7 b d) s) fun o => o = (u * 4294967296 + d) / (a * 4294967296 + b) := by
  refine Has.loop (fun s : Int × Int => Dig a b u d s.2 s.1 ∧ s.1 < 4294967296) (fun s => s.2.toNat) (fun o : Int => o = (u * 4294967296 + d) / (a * 4294967296 + b)) ⟨h, hr⟩ (by have := h.hi; show s.2.toNat < _; omega) fun s ⟨h, hr⟩ => ?_
  unfold bits_Div64.l2
  simp only [ea]
  have hq := h.hi; have h0 := h.r0; have a0 := g.a0; have a1 := g.a1; have q0 := g.q0; have hl := h.lo
  refine (g.asks h hr _ rfl).bind fun z hz => ?_
  subst hz
  refine Has.ite (fun ht => ?_) fun ht => ?_
  · have ht := of_decide_eq_true ht
    have k := g.down h ht
    rw [wu_in (n := s.1 + a) (by omega), wu_in (n := s.2 - 1) (by omega)]
    refine Has.letF (Has.ite (fun hc => Has.ret (.done ?_)) fun hc => Has.ret (.next ⟨k, ?_⟩ ?_))
    · exact g.stop k (by simpa using hc) (by omega)
    · simpa using hc
    · simp only []; omega
  · have ht : ¬ _ := fun x => ht (decide_eq_true x)
    exact Has.ret (.done (by omega))
end Lf
/- The quotient of a number of 128 bits by one of 64: the whole. -/
namespace Lf
open Go Go.Abs
set_option linter.unusedVariables false
set_option linter.unusedSimpArgs false
theorem div_norm {hi lo y p m : Int} (hp : 0 < p) (hm : 0 < m) (hpm : p * m = 18446744073709551616) (h0 : 0 ≤ hi) (h1 : hi < y) (l0 : 0 ≤ lo) (l1 : lo < 18446744073709551616) (y0 : m ≤ y + y) (y1 : y < m) :
    9223372036854775808 ≤ y * p ∧ y * p < 18446744073709551616 ∧ 0 ≤ hi * p ∧ hi * p + p ≤ y * p ∧ 0 ≤ lo / m ∧ lo / m < p ∧ 0 ≤ lo % m * p ∧ lo % m * p < 18446744073709551616 ∧ lo * p = 18446744073709551616 * (lo / m) + lo % m * p := by
  have c : m * p = 18446744073709551616 := by rw [Int.mul_comm]; exact hpm
  have k1 := Int.mul_le_mul_of_nonneg_right y0 (Int.le_of_lt hp)
  have k2 := Int.mul_lt_mul_of_pos_right y1 hp
  have k3 := Int.mul_nonneg h0 (Int.le_of_lt hp)
  have k4 := Int.mul_le_mul_of_nonneg_right (show hi + 1 ≤ y by omega) (Int.le_of_lt hp)
  have k5 := Int.ediv_nonneg l0 (Int.le_of_lt hm)
  have k6 : lo / m < p := by rw [Int.ediv_lt_iff_lt_mul hm, hpm]; exact l1
  have e1 := Int.emod_nonneg lo (b := m) (by omega)
  have e2 := Int.emod_lt_of_pos lo hm
  have k7 := Int.mul_nonneg e1 (Int.le_of_lt hp)
  have k8 := Int.mul_lt_mul_of_pos_right e2 hp
  have k9 : lo * p = 18446744073709551616 * (lo / m) + lo % m * p := by
    have := Int.mul_ediv_add_emod lo m
    conv => lhs; rw [← this]
    rw [Int.add_mul, Int.mul_assoc, Int.mul_comm (lo / m) p, ← Int.mul_assoc, c]
  rw [Int.add_mul] at k1
  rw [Int.add_mul, Int.one_mul] at k4
  refine ⟨by omega, by omega, k3, k4, k5, k6, k7, by omega, k9⟩
theorem div_fin {U y p Q R : Int} (hp : 0 < p) (hy : 0 < y) (e : U * p = Q * (y * p) + R) (r0 : 0 ≤ R) (r1 : R < y * p) : Q = U / y ∧ R / p = U % y := by
  have e1 : (U - Q * y) * p = R := by rw [Int.sub_mul, Int.mul_assoc]; omega
  have q0 : 0 ≤ U - Q * y := by
    by_cases h : 0 ≤ U - Q * y
    · exact h
    · have := Int.mul_lt_mul_of_pos_right (show U - Q * y < 0 by omega) hp
      omega
  have q1 : U - Q * y < y := by
    by_cases h : U - Q * y < y
    · exact h
    · have := Int.mul_le_mul_of_nonneg_right (show y ≤ U - Q * y by omega) (Int.le_of_lt hp)
      omega
  obtain ⟨a, b⟩ := (Int.ediv_emod_unique hy (a := U) (q := Q) (r := U - Q * y)).2 ⟨by rw [Int.mul_comm y Q]; omega, q0, q1⟩
  refine ⟨a.symm, ?_⟩
  rw [b, ← e1, Int.mul_ediv_cancel _ (by omega)]
theorem div64_ok (hi lo y : Int) (h0 : 0 ≤ hi) (h1 : hi < y) (hy : y < 18446744073709551616) (l0 : 0 ≤ lo) (l1 : lo < 18446744073709551616) :
    Has (bits_Div64 hi lo y) fun r => r = (NU64.mk ((hi * 18446744073709551616 + lo) / y), NU64.mk ((hi * 18446744073709551616 + lo) % y)) := by
  unfold bits_Div64
  refine Has.neg (by simp; omega) (Has.neg (by simp; omega) (Has.ite (fun hz => ?_) fun hz => ?_))
  · have hz : hi = 0 := by simpa using hz
    subst hz
    have q0 := Int.ediv_nonneg l0 (show 0 ≤ y by omega)
    have q1 := Int.ediv_le_self y l0
    have q1 : lo / y ≤ lo := Int.ediv_le_self y l0
    refine Has.chk (by omega) (Has.ret ?_)
    rw [Int.tdiv_eq_ediv_of_nonneg l0, Int.tmod_eq_emod_of_nonneg l0, wu_in (by omega)]
    simp
  · unfold bits_LeadingZeros64
    refine Has.bind (P := fun r => ∃ k : Nat, r = 64 - (k : Int) ∧ k ≤ 64 ∧ y < 2 ^ k ∧ 1 ≤ k ∧ 2 ^ (k - 1) ≤ y) ((len64_ok y ⟨by omega, hy⟩).bind fun n ⟨k, hk, k64, kl, kg⟩ => Has.ret ⟨k, by rw [hk, w6_in (by omega)], k64, kl, kg (by omega)⟩) fun r ⟨k, hr, k64, kl, k1, kg⟩ => ?_
    subst hr
    have hm : (0 : Int) < 2 ^ k := Int.pow_pos (by decide)
    have hp : (0 : Int) < 2 ^ (64 - k) := Int.pow_pos (by decide)
    have hpm : (2 : Int) ^ (64 - k) * 2 ^ k = 18446744073709551616 := by rw [← Int.pow_add, Nat.sub_add_cancel k64]; rfl
    have hmy : (2 : Int) ^ k ≤ y + y := by
      have : (2 : Int) ^ k = 2 ^ (k - 1) * 2 := by rw [← Int.pow_succ]; congr 1; omega
      omega
    obtain ⟨n1, n2, n3, n4, n5, n6, n7, n8, n9⟩ := div_norm hp hm hpm h0 h1 l0 l1 hmy kl
    have s1 : IntKind.wrap .u64 (64 - (k : Int)) = 64 - (k : Int) := wu_in (by omega)
    have s2 : min (64 - (k : Int)).toNat (IntKind.bits .u64) = 64 - k := by
      show min (64 - (k : Int)).toNat 64 = _
      omega
    have s3 : IntKind.wrap .u64 (64 - (64 - (k : Int))) = (k : Int) := by rw [wu_in (by omega)]; omega
    have s4 : min (k : Int).toNat (IntKind.bits .u64) = k := by
      show min (k : Int).toNat 64 = _
      omega
    have low : ∀ x : Int, 0 ≤ x ∧ x < 18446744073709551616 → IntKind.wrap .u64 ((BitVec.ofInt 64 x &&& BitVec.ofInt 64 4294967295).toNat : Int) = x % 4294967296 := fun x h => and_low h
    simp only [s1, s2, s3, s4]
    rw [wu_in (n := y * 2 ^ (64 - k)) ⟨by omega, n2⟩, wu_in (n := hi * 2 ^ (64 - k)) ⟨n3, by omega⟩]
    have f1 : Int.fdiv lo (2 ^ k) = lo / 2 ^ k := fdiv_pow lo k
    rw [f1]
    have w13 : IntKind.wrap .u64 (lo * 2 ^ (64 - k)) = lo % 2 ^ k * 2 ^ (64 - k) := by rw [wu_def]; omega
    rw [w13]
    refine Has.chk (by omega) (Has.letF (Has.letF (Has.letF (Has.chk (by omega) (Has.letF (Has.letF (Has.letF (Has.letF ?_))))))))
    rw [low _ ⟨by omega, n2⟩, or_add (64 - k) h0 ⟨n5, n6⟩ (by omega) n3, low _ ⟨n7, n8⟩]
    generalize hv : y * 2 ^ (64 - k) = v at *
    generalize hu : hi * 2 ^ (64 - k) + lo / 2 ^ k = u at *
    generalize ht : lo % 2 ^ k * 2 ^ (64 - k) = t at *
    have ea : Int.fdiv v (2 ^ 32) = v / 4294967296 := fdiv_pow v 32
    have ed : Int.fdiv t (2 ^ 32) = t / 4294967296 := fdiv_pow t 32
    rw [ea, ed]
    have vv : v / 4294967296 * 4294967296 + v % 4294967296 = v := by omega
    have u0 : 0 ≤ u := by omega
    have uv : u < v := by omega
    have g1 : Dg (v / 4294967296) (v % 4294967296) u (t / 4294967296) := ⟨by omega, by omega, by omega, by omega, by omega, by omega, u0, by omega⟩
    have t1 : IntKind.wrap .u64 (Int.tdiv u (v / 4294967296)) = u / (v / 4294967296) := by
      rw [Int.tdiv_eq_ediv_of_nonneg u0]
      have := Int.ediv_nonneg u0 (show 0 ≤ v / 4294967296 by omega)
      have := Int.ediv_le_self (v / 4294967296) u0
      exact wu_in (by omega)
    have t2 : u / (v / 4294967296) * (v / 4294967296) + u % (v / 4294967296) = u := by rw [Int.mul_comm]; exact Int.mul_ediv_add_emod u _
    have t3 := Int.emod_nonneg u (b := v / 4294967296) (by omega)
    have t4 := Int.emod_lt_of_pos u (b := v / 4294967296) (by omega)
    rw [t1]
    refine Has.chk (by omega) (Has.letF ?_)
    have t7 : 0 ≤ u / (v / 4294967296) * (v / 4294967296) := Int.mul_nonneg (Int.ediv_nonneg u0 (by omega)) (by omega)
    have t5 : IntKind.wrap .u64 (u / (v / 4294967296) * (v / 4294967296)) = u / (v / 4294967296) * (v / 4294967296) := wu_in (by omega)
    have t6 : IntKind.wrap .u64 (u - u / (v / 4294967296) * (v / 4294967296)) = u % (v / 4294967296) := by rw [wu_in (by omega)]; omega
    rw [t5, t6]
    refine (div_l1 ea ed g1 (u / (v / 4294967296), u % (v / 4294967296)) g1.first (by have := g1.a1; show u % (v / 4294967296) < _; omega)).bind fun z hz => ?_
    rw [vv] at hz
    -- the first digit
    have z0 := g1.q0
    have zB := g1.qB
    rw [vv, ← hz] at z0 zB
    have zr := Int.mul_ediv_add_emod (u * 4294967296 + t / 4294967296) v
    rw [← hz] at zr
    have zr0 := Int.emod_nonneg (u * 4294967296 + t / 4294967296) (b := v) (by omega)
    have zr1 := Int.emod_lt_of_pos (u * 4294967296 + t / 4294967296) (b := v) (by omega)
    rw [Int.mul_comm v z] at zr
    generalize hR : (u * 4294967296 + t / 4294967296) % v = R at *
    have x1 : IntKind.wrap .u64 (IntKind.wrap .u64 (IntKind.wrap .u64 (u * 4294967296) + t / 4294967296) - IntKind.wrap .u64 (z * v)) = R := by
      simp only [wu_def]; omega
    refine Has.letF ?_
    simp only [x1]
    have g2 : Dg (v / 4294967296) (v % 4294967296) R (t % 4294967296) := ⟨by omega, by omega, by omega, by omega, by omega, by omega, zr0, by omega⟩
    have y1 : IntKind.wrap .u64 (Int.tdiv R (v / 4294967296)) = R / (v / 4294967296) := by
      rw [Int.tdiv_eq_ediv_of_nonneg zr0]
      have := Int.ediv_nonneg zr0 (show 0 ≤ v / 4294967296 by omega)
      have := Int.ediv_le_self (v / 4294967296) zr0
      exact wu_in (by omega)
    have y2 : R / (v / 4294967296) * (v / 4294967296) + R % (v / 4294967296) = R := by rw [Int.mul_comm]; exact Int.mul_ediv_add_emod R _
    have y3 := Int.emod_nonneg R (b := v / 4294967296) (by omega)
    have y4 := Int.emod_lt_of_pos R (b := v / 4294967296) (by omega)
    have y7 : 0 ≤ R / (v / 4294967296) * (v / 4294967296) := Int.mul_nonneg (Int.ediv_nonneg zr0 (by omega)) (by omega)
    have y5 : IntKind.wrap .u64 (R - IntKind.wrap .u64 (R / (v / 4294967296) * (v / 4294967296))) = R % (v / 4294967296) := by rw [wu_in (n := R / (v / 4294967296) * (v / 4294967296)) (by omega), wu_in (by omega)]; omega
    rw [y1]
    refine Has.letF (Has.letF ?_)
    simp only [y5]
    refine (div_l2 ea g2 (R % (v / 4294967296), R / (v / 4294967296)) g2.first (by have := g2.a1; show R % (v / 4294967296) < _; omega)).bind fun x hx => ?_
    rw [vv] at hx
    have x0 := g2.q0
    have xB := g2.qB
    rw [vv, ← hx] at x0 xB
    have xr := Int.mul_ediv_add_emod (R * 4294967296 + t % 4294967296) v
    rw [← hx] at xr
    have xr0 := Int.emod_nonneg (R * 4294967296 + t % 4294967296) (b := v) (by omega)
    have xr1 := Int.emod_lt_of_pos (R * 4294967296 + t % 4294967296) (b := v) (by omega)
    rw [Int.mul_comm v x] at xr
    generalize hT : (R * 4294967296 + t % 4294967296) % v = T at *
    have w1 : IntKind.wrap .u64 (IntKind.wrap .u64 (IntKind.wrap .u64 (R * 4294967296) + t % 4294967296) - IntKind.wrap .u64 (x * v)) = T := by
      simp only [wu_def]; omega
    have w2 : IntKind.wrap .u64 (IntKind.wrap .u64 (z * 4294967296) + x) = z * 4294967296 + x := by rw [wu_in (n := z * 4294967296) (by omega), wu_in (by omega)]
    refine Has.letF (Has.letF (Has.letF (Has.letF (Has.ret ?_))))
    simp only [w1, w2]
    rw [fdiv_pow T (64 - k)]
    have key : (hi * 18446744073709551616 + lo) * 2 ^ (64 - k) = (z * 4294967296 + x) * (y * 2 ^ (64 - k)) + T := by
      rw [hv, Int.add_mul, Int.add_mul, Int.mul_right_comm, Int.mul_right_comm z]
      omega
    obtain ⟨q1, q2⟩ := div_fin hp (show 0 < y by omega) key xr0 (by rw [hv]; exact xr1)
    rw [q1, q2]
end Lf
/- Products and quotients of whole numbers, by way of 128 bits. -/
namespace Lf
open Go Go.Abs
set_option linter.unusedVariables false
set_option linter.unusedSimpArgs false
theorem w6_def (n : Int) : w6 n = (n + 9223372036854775808) % 18446744073709551616 - 9223372036854775808 := by unfold w6; rw [IntKind.wrap_i64]
def okI (n : Int) : Prop := -9223372036854775808 ≤ n ∧ n ≤ 9223372036854775807
instance (n : Int) : Decidable (okI n) := inferInstanceAs (Decidable (_ ∧ _))
structure okW (w : num_Wide) : Prop where
  h : okI w.Hi
  l0 : 0 ≤ w.Lo.n
  l1 : w.Lo.n < 18446744073709551616
def wv (w : num_Wide) : Int := w.Hi * 18446744073709551616 + w.Lo.n
theorem size_ok (a : Int) (ha : okI a) : Has (num_size a) fun r => 0 ≤ r.n ∧ r.n ≤ 9223372036854775808 ∧ ((0 ≤ a ∧ r.n = a) ∨ (a < 0 ∧ r.n = -a)) := by
  unfold num_size
  have h1 := ha.1; have h2 := ha.2
  refine Has.ite (fun h => Has.ret ?_) fun h => Has.ret ?_
  · have h : a < 0 := by simpa using h
    simp only [wu_def]; omega
  · have h : 0 ≤ a := by simpa using h
    simp only [wu_def]; omega
theorem mul64_ok (x y : Int) (hx : 0 ≤ x ∧ x < 18446744073709551616) (hy : 0 ≤ y ∧ y < 18446744073709551616) : Has (bits_Mul64 x y) fun r => r = (NU64.mk (x * y / 18446744073709551616), NU64.mk (x * y % 18446744073709551616)) := by
  unfold bits_Mul64
  have e1 : Int.fdiv x (2 ^ 32) = x / 4294967296 := fdiv_pow x 32
  have e2 : Int.fdiv y (2 ^ 32) = y / 4294967296 := fdiv_pow y 32
  have bd : ∀ a b : Int, 0 ≤ a → a ≤ 4294967295 → 0 ≤ b → b ≤ 4294967295 → 0 ≤ a * b ∧ a * b ≤ 18446744065119617025 := fun a b a0 a1 b0 b1 => by
    have := Int.mul_nonneg a0 b0
    have h1 := Int.mul_le_mul_of_nonneg_right a1 b0
    omega
  have ex : x * y = x / 4294967296 * (y / 4294967296) * 18446744073709551616 + (x / 4294967296 * (y % 4294967296) + x % 4294967296 * (y / 4294967296)) * 4294967296 + x % 4294967296 * (y % 4294967296) := by
    have h1 : x = x / 4294967296 * 4294967296 + x % 4294967296 := by omega
    have h2 : y = y / 4294967296 * 4294967296 + y % 4294967296 := by omega
    generalize x / 4294967296 = a at *
    generalize x % 4294967296 = b at *
    generalize y / 4294967296 = c at *
    generalize y % 4294967296 = d at *
    subst h1; subst h2
    rw [Int.add_mul, Int.mul_add, Int.mul_add, Int.mul_right_comm a 4294967296, ← Int.mul_assoc a c, Int.mul_assoc (a * c), Int.mul_right_comm a 4294967296 d, ← Int.mul_assoc b c, Int.add_mul]
    omega
  have p1 := bd (x / 4294967296) (y / 4294967296) (by omega) (by omega) (by omega) (by omega)
  have p2 := bd (x / 4294967296) (y % 4294967296) (by omega) (by omega) (by omega) (by omega)
  have p3 := bd (x % 4294967296) (y / 4294967296) (by omega) (by omega) (by omega) (by omega)
  have p4 := bd (x % 4294967296) (y % 4294967296) (by omega) (by omega) (by omega) (by omega)
  simp only [Abs.letF]
  rw [and_low hx, and_low hy, e1, e2, ex]
  generalize x / 4294967296 * (y / 4294967296) = a at *
  generalize x / 4294967296 * (y % 4294967296) = b at *
  generalize x % 4294967296 * (y / 4294967296) = c at *
  generalize x % 4294967296 * (y % 4294967296) = d at *
  rw [wu_in (n := b) (by omega), wu_in (n := d) (by omega)]
  have e3 : Int.fdiv d (2 ^ 32) = d / 4294967296 := fdiv_pow d 32
  rw [e3, wu_in (n := b + d / 4294967296) (by omega), and_low (by omega), wu_in (n := c) (by omega), wu_in (n := (b + d / 4294967296) % 4294967296 + c) (by omega)]
  have e4 : Int.fdiv (b + d / 4294967296) (2 ^ 32) = (b + d / 4294967296) / 4294967296 := fdiv_pow _ 32
  have e5 : Int.fdiv ((b + d / 4294967296) % 4294967296 + c) (2 ^ 32) = ((b + d / 4294967296) % 4294967296 + c) / 4294967296 := fdiv_pow _ 32
  refine Has.ret ?_
  rw [e4, e5]
  clear e1 e2 e3 e4 e5 ex hx hy bd
  have q1 : d = 4294967296 * (d / 4294967296) + d % 4294967296 := by omega
  have q2 : 0 ≤ d % 4294967296 ∧ d % 4294967296 < 4294967296 := by omega
  have q3 : 0 ≤ d / 4294967296 ∧ d / 4294967296 ≤ 4294967295 := by omega
  generalize d / 4294967296 = m at *
  generalize d % 4294967296 = d1 at *
  have q4 : b + m = 4294967296 * ((b + m) / 4294967296) + (b + m) % 4294967296 := by omega
  have q5 : 0 ≤ (b + m) % 4294967296 ∧ (b + m) % 4294967296 < 4294967296 := by omega
  have q6 : 0 ≤ (b + m) / 4294967296 ∧ (b + m) / 4294967296 ≤ 4294967295 := by omega
  generalize (b + m) / 4294967296 = n at *
  generalize (b + m) % 4294967296 = r1 at *
  have q7 : r1 + c = 4294967296 * ((r1 + c) / 4294967296) + (r1 + c) % 4294967296 := by omega
  have q8 : 0 ≤ (r1 + c) % 4294967296 ∧ (r1 + c) % 4294967296 < 4294967296 := by omega
  have q9 : 0 ≤ (r1 + c) / 4294967296 ∧ (r1 + c) / 4294967296 ≤ 4294967295 := by omega
  generalize (r1 + c) / 4294967296 = o at *
  generalize (r1 + c) % 4294967296 = r2 at *
  have eT : a * 18446744073709551616 + (b + c) * 4294967296 + d = 18446744073709551616 * (a + n + o) + (r2 * 4294967296 + d1) := by omega
  rw [eT, wu_in (n := a) (by omega), wu_in (n := a + n) (by omega), wu_in (n := a + n + o) (by omega), wu_def]
  have : (18446744073709551616 * (a + n + o) + (r2 * 4294967296 + d1)) / 18446744073709551616 = a + n + o := by omega
  rw [this]
theorem wneg_ok (w : num_Wide) (hw : okW w) (hm : -170141183460469231731687303715884105728 < wv w) : Has (Wide_Neg w) fun r => okW r ∧ wv r = - wv w := by
  have h1 := hw.h.1; have h2 := hw.h.2; have h3 := hw.l0; have h4 := hw.l1
  unfold wv at hm
  unfold Wide_Neg
  have b1 := wu_bd w.Hi
  rw [xor_all ⟨h3, h4⟩, xor_all b1]
  refine Has.letF (Has.bind (P := fun r => r = ((18446744073709551615 - w.Lo.n + 1) % 18446744073709551616, (18446744073709551615 - w.Lo.n + 1) / 18446744073709551616)) ?_ fun r hr => Has.letF (Has.bind (P := fun q => q = ((18446744073709551615 - IntKind.wrap .u64 w.Hi + r.2) % 18446744073709551616, (18446744073709551615 - IntKind.wrap .u64 w.Hi + r.2) / 18446744073709551616)) ?_ fun q hq => Has.ret ?_))
  · unfold add64
    rw [if_pos (by omega)]
    exact Has.ret (by simp)
  · subst hr
    unfold add64
    simp only []
    rw [if_pos (by omega)]
    exact Has.ret (by simp)
  · subst hr; subst hq
    simp only [wu_def] at *
    refine ⟨⟨?_, ?_, ?_⟩, ?_⟩
    · exact w6_bd _
    · simp only []; omega
    · simp only []; omega
    · unfold wv
      simp only [w6_def]
      omega
theorem product_ok (a b : Int) (ha : okI a) (hb : okI b) : Has (num_Product a b) fun w => okW w ∧ wv w = a * b ∧ -85070591730234615865843651857942052864 ≤ a * b ∧ a * b ≤ 85070591730234615865843651857942052864 := by
  unfold num_Product
  refine (size_ok a ha).bind fun x ⟨x0, x1, x2⟩ => (size_ok b hb).bind fun y ⟨y0, y1, y2⟩ => ?_
  have p0 := Int.mul_nonneg x0 y0
  have p1 := Int.mul_le_mul_of_nonneg_right x1 y0
  have p : x.n * y.n ≤ 85070591730234615865843651857942052864 := by omega
  refine (mul64_ok x.n y.n (by omega) (by omega)).bind fun r hr => ?_
  subst hr
  simp only []
  have e0 : w6 (x.n * y.n / 18446744073709551616) = x.n * y.n / 18446744073709551616 := w6_in (by omega)
  rw [e0]
  have ow : okW (num_Wide.mk (x.n * y.n / 18446744073709551616) (NU64.mk (x.n * y.n % 18446744073709551616))) := ⟨⟨by simp only []; omega, by simp only []; omega⟩, by simp only []; omega, by simp only []; omega⟩
  have ew : wv (num_Wide.mk (x.n * y.n / 18446744073709551616) (NU64.mk (x.n * y.n % 18446744073709551616))) = x.n * y.n := by unfold wv; simp only []; omega
  refine Has.ite (fun h => ?_) fun h => Has.ret ?_
  · refine (wneg_ok _ ow (by rw [ew]; omega)).bind fun r ⟨h1, h2⟩ => Has.ret ⟨h1, ?_, ?_⟩
    · rw [h2, ew]
      rcases x2 with ⟨s, e⟩ | ⟨s, e⟩ <;> rcases y2 with ⟨t, f⟩ | ⟨t, f⟩
      · exfalso; simp at h; omega
      · rw [e, f, Int.mul_neg, Int.neg_neg]
      · rw [e, f, Int.neg_mul, Int.neg_neg]
      · exfalso; simp at h; omega
    · rcases x2 with ⟨s, e⟩ | ⟨s, e⟩ <;> rcases y2 with ⟨t, f⟩ | ⟨t, f⟩
      · exfalso; simp at h; omega
      · rw [e, f, Int.mul_neg] at p p0; omega
      · rw [e, f, Int.neg_mul] at p p0; omega
      · exfalso; simp at h; omega
  · refine ⟨ow, ?_, ?_⟩
    · rw [ew]
      rcases x2 with ⟨s, e⟩ | ⟨s, e⟩ <;> rcases y2 with ⟨t, f⟩ | ⟨t, f⟩
      · rw [e, f]
      · exfalso; simp at h; omega
      · exfalso; simp at h; omega
      · rw [e, f, Int.neg_mul_neg]
    · rcases x2 with ⟨s, e⟩ | ⟨s, e⟩ <;> rcases y2 with ⟨t, f⟩ | ⟨t, f⟩
      · rw [e, f] at p p0; omega
      · exfalso; simp at h; omega
      · exfalso; simp at h; omega
      · rw [e, f, Int.neg_mul_neg] at p p0; omega
end Lf
/- a * b / c, rounded down and up. -/
namespace Lf
open Go Go.Abs
set_option linter.unusedVariables false
set_option linter.unusedSimpArgs false
theorem neg_div (m d : Int) (hd : 0 < d) : (m % d = 0 ∧ (-m) / d = -(m / d) ∧ (-m) % d = 0) ∨ (0 < m % d ∧ (-m) / d = -(m / d) - 1 ∧ (-m) % d = d - m % d) := by
  have h1 := Int.mul_ediv_add_emod m d
  have h2 := Int.emod_nonneg m (b := d) (by omega)
  have h3 := Int.emod_lt_of_pos m hd
  by_cases h : m % d = 0
  · left
    have := (Int.ediv_emod_unique hd (a := -m) (q := -(m / d)) (r := 0)).2 ⟨by rw [Int.mul_neg]; omega, by omega, by omega⟩
    exact ⟨h, this.1, this.2⟩
  · right
    have := (Int.ediv_emod_unique hd (a := -m) (q := -(m / d) - 1) (r := d - m % d)).2 ⟨by rw [Int.mul_sub, Int.mul_neg]; omega, by omega, by omega⟩
    exact ⟨by omega, this.1, this.2⟩
theorem wdiv_ok (w : num_Wide) (d : Int) (hw : okW w) (hm : -170141183460469231731687303715884105728 < wv w) (hd : 1 ≤ d ∧ d ≤ 9223372036854775807) :
    Has (Wide_Div w d) fun r => (okI (wv w / d) ∧ r = (wv w / d, 0)) ∨ (¬ okI (wv w / d) ∧ r = (0, 2)) := by
  have h1 := hw.h.1; have h2 := hw.h.2; have h3 := hw.l0; have h4 := hw.l1
  have ed : IntKind.wrap .u64 d = d := wu_in (by omega)
  unfold Wide_Div
  simp only [ed, decide_eq_true_eq]
  refine Has.neg (by omega) (Has.ite (fun hn => ?_) fun hn => ?_)
  · refine (wneg_ok w hw hm).bind fun r ⟨r1, r2⟩ => ?_
    have g1 := r1.h.1; have g2 := r1.h.2; have g3 := r1.l0; have g4 := r1.l1
    have em : wv w = -(wv r) := by omega
    have hv : wv w < 0 := by unfold wv; omega
    have hp : 0 ≤ r.Hi := by unfold wv at *; omega
    have eh : IntKind.wrap .u64 r.Hi = r.Hi := wu_in (by omega)
    have ev : r.Hi * 18446744073709551616 + r.Lo.n = wv r := rfl
    rw [eh, em]
    have nd := neg_div (wv r) d (by omega)
    refine Has.ite (fun hc => Has.ret (.inr ⟨?_, rfl⟩)) fun hc => ?_
    · have : (18446744073709551616 : Int) ≤ wv r / d := by
        rw [Int.le_ediv_iff_mul_le (by omega)]; unfold wv; omega
      unfold okI
      omega
    · refine (div64_ok r.Hi r.Lo.n d hp (by omega) (by omega) g3 g4).bind fun q hq => ?_
      subst hq
      simp only [ev]
      have q0 : 0 ≤ wv r / d := Int.ediv_nonneg (by omega) (by omega)
      have q1 : wv r / d < 18446744073709551616 := by
        rw [Int.ediv_lt_iff_lt_mul (by omega)]; unfold wv; omega
      have q2 := Int.emod_nonneg (wv r) (b := d) (by omega)
      generalize wv r / d = q at *
      generalize wv r % d = s at *
      refine Has.pos hn (Has.ite (fun hs => Has.letF ?_) fun hs => ?_)
      · rw [wu_in (n := 9223372036854775808 - 1) (by omega)]
        simp only [decide_eq_true_eq]
        refine Has.ite (fun hb => Has.ret (.inr ⟨?_, rfl⟩)) fun hb => Has.neg (by omega) (Has.pos hs (Has.ret (.inl ⟨?_, ?_⟩)))
        · unfold okI; omega
        · unfold okI; omega
        · simp only [wu_def, w6_def, Prod.mk.injEq, and_true]
          omega
      · refine Has.ite (fun hb => Has.ret (.inr ⟨?_, rfl⟩)) fun hb => Has.neg (by omega) (Has.neg hs (Has.ret (.inl ⟨?_, ?_⟩)))
        · unfold okI; omega
        · unfold okI; omega
        · simp only [wu_def, w6_def, Prod.mk.injEq, and_true]
          omega
  · have eh : IntKind.wrap .u64 w.Hi = w.Hi := wu_in (by omega)
    have ev : w.Hi * 18446744073709551616 + w.Lo.n = wv w := rfl
    have v0 : 0 ≤ wv w := by unfold wv; omega
    rw [eh]
    refine Has.ite (fun hc => Has.ret (.inr ⟨?_, rfl⟩)) fun hc => ?_
    · have : (18446744073709551616 : Int) ≤ wv w / d := by
        rw [Int.le_ediv_iff_mul_le (by omega)]; unfold wv; omega
      unfold okI
      omega
    · refine (div64_ok w.Hi w.Lo.n d (by omega) (by omega) (by omega) h3 h4).bind fun q hq => ?_
      subst hq
      simp only [ev]
      have q0 : 0 ≤ wv w / d := Int.ediv_nonneg (by omega) (by omega)
      have q1 : wv w / d < 18446744073709551616 := by
        rw [Int.ediv_lt_iff_lt_mul (by omega)]; unfold wv; omega
      generalize wv w / d = q at *
      refine Has.neg hn (Has.ite (fun hb => Has.ret (.inr ⟨?_, rfl⟩)) fun hb => Has.pos (by omega) (Has.ret (.inl ⟨?_, ?_⟩)))
      · unfold okI; omega
      · unfold okI; omega
      · rw [w6_in (by omega)]
theorem wmod_ok (w : num_Wide) (d : Int) (hw : okW w) (hm : -170141183460469231731687303715884105728 < wv w) (hd : 1 ≤ d ∧ d ≤ 9223372036854775807) :
    Has (Wide_Mod w d) fun r => r = wv w % d := by
  have h1 := hw.h.1; have h2 := hw.h.2; have h3 := hw.l0; have h4 := hw.l1
  have ed : IntKind.wrap .u64 d = d := wu_in (by omega)
  unfold Wide_Mod
  simp only [ed, decide_eq_true_eq]
  have red : ∀ h l : Int, (h % d * 18446744073709551616 + l) % d = (h * 18446744073709551616 + l) % d := fun h l => by
    rw [Int.add_emod, Int.mul_emod, Int.emod_emod, ← Int.mul_emod, ← Int.add_emod]
  refine Has.neg (by omega) (Has.ite (fun hn => ?_) fun hn => ?_)
  · refine (wneg_ok w hw hm).bind fun r ⟨r1, r2⟩ => ?_
    have g1 := r1.h.1; have g2 := r1.h.2; have g3 := r1.l0; have g4 := r1.l1
    have em : wv w = -(wv r) := by omega
    have hv : wv w < 0 := by unfold wv; omega
    have hp : 0 ≤ r.Hi := by unfold wv at *; omega
    have eh : IntKind.wrap .u64 r.Hi = r.Hi := wu_in (by omega)
    have ev : r.Hi * 18446744073709551616 + r.Lo.n = wv r := rfl
    have nd := neg_div (wv r) d (by omega)
    rw [eh, em]
    refine Has.chk (by omega) ?_
    rw [Int.tmod_eq_emod_of_nonneg hp]
    refine (div64_ok (r.Hi % d) r.Lo.n d (Int.emod_nonneg _ (by omega)) (Int.emod_lt_of_pos _ (by omega)) (by omega) g3 g4).bind fun q hq => ?_
    subst hq
    simp only [red, ev]
    have q2 := Int.emod_nonneg (wv r) (b := d) (by omega)
    have q3 := Int.emod_lt_of_pos (wv r) (b := d) (by omega)
    refine Has.bind (P := fun _ => True) (Has.ret trivial) fun _ _ => Has.ite (fun hs => Has.ret ?_) fun hs => Has.ret ?_
    · rw [wu_in (by omega), w6_in (by omega)]; omega
    · rw [w6_in (by omega)]; omega
  · have eh : IntKind.wrap .u64 w.Hi = w.Hi := wu_in (by omega)
    have ev : w.Hi * 18446744073709551616 + w.Lo.n = wv w := rfl
    rw [eh]
    refine Has.chk (by omega) ?_
    rw [Int.tmod_eq_emod_of_nonneg (by omega)]
    refine (div64_ok (w.Hi % d) w.Lo.n d (Int.emod_nonneg _ (by omega)) (Int.emod_lt_of_pos _ (by omega)) (by omega) h3 h4).bind fun q hq => ?_
    subst hq
    simp only [red, ev]
    have q2 := Int.emod_nonneg (wv w) (b := d) (by omega)
    have q3 := Int.emod_lt_of_pos (wv w) (b := d) (by omega)
    exact Has.bind (P := fun _ => True) (Has.ret trivial) fun _ _ => Has.ret (w6_in (by omega))
theorem muldiv_ok (a b c : Int) (ha : okI a) (hb : okI b) (hc : 1 ≤ c ∧ c ≤ 9223372036854775807) :
    Has (num_MulDiv a b c) fun r => (okI (a * b / c) ∧ r = (a * b / c, 0)) ∨ (¬ okI (a * b / c) ∧ r = (0, 2)) := by
  unfold num_MulDiv
  refine (product_ok a b ha hb).bind fun w ⟨w1, w2, w3, w4⟩ => (wdiv_ok w c w1 (by omega) hc).bind fun r hr => Has.ret ?_
  rw [w2] at hr
  exact hr
theorem muldivup_ok (a b c : Int) (ha : okI a) (hb : okI b) (hc : 1 ≤ c ∧ c ≤ 9223372036854775807) :
    Has (num_MulDivUp a b c) fun r => (r.2 = 0 → (a * b % c = 0 ∧ r.1 = a * b / c ∨ 0 < a * b % c ∧ r.1 = a * b / c + 1) ∧ okI r.1) ∧ ((okI (a * b / c) ∧ okI (a * b / c + 1)) → r.2 = 0) := by
  unfold num_MulDivUp
  refine (product_ok a b ha hb).bind fun w ⟨w1, w2, w3, w4⟩ => (wdiv_ok w c w1 (by omega) hc).bind fun r hr => ?_
  rw [w2] at hr
  rcases hr with ⟨hk, rfl⟩ | ⟨hk, rfl⟩
  · refine Has.bind (P := fun z => z = decide (a * b % c = 0)) (Has.neg (by simp) ((wmod_ok w c w1 (by omega) hc).bind fun m hm => Has.ret ?_)) fun z hz => ?_
    · rw [hm, w2]; rfl
    · subst hz
      have m0 := Int.emod_nonneg (a * b) (b := c) (by omega)
      refine Has.ite (fun h => Has.ret ⟨fun _ => ⟨.inl ⟨of_decide_eq_true h, rfl⟩, hk⟩, fun _ => rfl⟩) fun h => ?_
      have h : ¬ a * b % c = 0 := fun x => h (decide_eq_true x)
      have k1 := hk.1; have k2 := hk.2
      refine Has.ite (fun h2 => Has.ret ⟨(fun x => by cases x), fun h3 => ?_⟩) fun h2 => Has.ret ⟨fun _ => ?_, fun _ => rfl⟩
      · have h2 : a * b / c = 9223372036854775807 := by simpa using h2
        have := h3.2.2; omega
      · have h2 : a * b / c ≠ 9223372036854775807 := by simpa using h2
        rw [w6_in (by omega)]
        exact ⟨.inr ⟨by omega, rfl⟩, by unfold okI; simp only []; omega⟩
  · refine Has.bind (P := fun z => z = true) (Has.pos (by simp) (Has.ret rfl)) fun z hz => Has.pos hz (Has.ret ⟨(fun x => by cases x), fun h => absurd h.1 hk⟩)
end Lf
/- A bound times n / d, rounded outward. -/
namespace Lf
open Go Go.Abs
set_option linter.unusedVariables false
set_option linter.unusedSimpArgs false
theorem min_ok (x : List Int) (h : x ≠ []) (hl : x.length ≤ 1000000000) : Has (slices_Min_Int x) fun m => m ∈ x ∧ ∀ y ∈ x, m ≤ y := by
  have h0 : 0 < x.length := List.length_pos_iff.2 h
  have ini : ∀ i : Int, 0 ≤ i → i < 1 → gt x 0 ≤ gt x i := fun i h1 h2 => by
    have : i = 0 := by omega
    rw [this]; exact Int.le_refl _
  unfold slices_Min_Int
  refine Has.neg (by simp; omega) (Has.chk (by omega) (Has.bind (P := fun o => o ∈ x ∧ ∀ y ∈ x, o ≤ y) ?_ fun o ho => Has.ret ho))
  refine Has.loop (fun s : Int × Int => 1 ≤ s.2 ∧ s.2 ≤ (x.length : Int) ∧ s.1 ∈ x ∧ ∀ i : Int, 0 ≤ i → i < s.2 → s.1 ≤ gt x i) (fun s => (x.length - s.2).toNat) _ ⟨Int.le_refl _, (by show (1 : Int) ≤ _; omega), gt_mem x 0 ⟨by omega, by omega⟩, ini⟩ (by show ((x.length : Int) - 1).toNat < _; omega) fun s ⟨h1, h2, h3, h4⟩ => ?_
  unfold slices_Min_Int.l1
  refine Has.ite (fun h => ?_) fun h => Has.ret (.done ⟨h3, fun y hy => ?_⟩)
  · have h : s.2 < (x.length : Int) := of_decide_eq_true h
    have hm := gt_mem x s.2 ⟨by omega, h⟩
    have d := mn2_def s.1 (gt x s.2)
    rw [w6_in (by omega)]
    refine Has.chk ⟨by omega, h⟩ (Has.ret (.next ⟨by simp only []; omega, by simp only []; omega, ?_, fun i i1 i2 => ?_⟩ (by simp only []; omega)))
    · show mn2 s.1 (gt x s.2) ∈ x
      rcases d with ⟨e, _⟩ | ⟨e, _⟩ <;> rw [e]
      · exact h3
      · exact hm
    · show mn2 s.1 (gt x s.2) ≤ gt x i
      simp only [] at i2
      by_cases hi : i = s.2
      · rw [hi]; omega
      · have := h4 i i1 (by omega); omega
  · have h : ¬ s.2 < (x.length : Int) := fun q => h (decide_eq_true q)
    obtain ⟨n, hn, rfl⟩ := List.getElem_of_mem hy
    have := h4 n (by omega) (by omega)
    rw [gt_def x n ⟨by omega, by omega⟩] at this
    exact this
theorem max_ok (x : List Int) (h : x ≠ []) (hl : x.length ≤ 1000000000) : Has (slices_Max_Int x) fun m => m ∈ x ∧ ∀ y ∈ x, y ≤ m := by
  have h0 : 0 < x.length := List.length_pos_iff.2 h
  have ini : ∀ i : Int, 0 ≤ i → i < 1 → gt x i ≤ gt x 0 := fun i h1 h2 => by
    have : i = 0 := by omega
    rw [this]; exact Int.le_refl _
  unfold slices_Max_Int
  refine Has.neg (by simp; omega) (Has.chk (by omega) (Has.bind (P := fun o => o ∈ x ∧ ∀ y ∈ x, y ≤ o) ?_ fun o ho => Has.ret ho))
  refine Has.loop (fun s : Int × Int => 1 ≤ s.2 ∧ s.2 ≤ (x.length : Int) ∧ s.1 ∈ x ∧ ∀ i : Int, 0 ≤ i → i < s.2 → gt x i ≤ s.1) (fun s => (x.length - s.2).toNat) _ ⟨Int.le_refl _, (by show (1 : Int) ≤ _; omega), gt_mem x 0 ⟨by omega, by omega⟩, ini⟩ (by show ((x.length : Int) - 1).toNat < _; omega) fun s ⟨h1, h2, h3, h4⟩ => ?_
  unfold slices_Max_Int.l1
  refine Has.ite (fun h => ?_) fun h => Has.ret (.done ⟨h3, fun y hy => ?_⟩)
  · have h : s.2 < (x.length : Int) := of_decide_eq_true h
    have hm := gt_mem x s.2 ⟨by omega, h⟩
    have d := mx2_def s.1 (gt x s.2)
    rw [w6_in (by omega)]
    refine Has.chk ⟨by omega, h⟩ (Has.ret (.next ⟨by simp only []; omega, by simp only []; omega, ?_, fun i i1 i2 => ?_⟩ (by simp only []; omega)))
    · show mx2 s.1 (gt x s.2) ∈ x
      rcases d with ⟨e, _⟩ | ⟨e, _⟩ <;> rw [e]
      · exact h3
      · exact hm
    · show gt x i ≤ mx2 s.1 (gt x s.2)
      simp only [] at i2
      by_cases hi : i = s.2
      · rw [hi]; omega
      · have := h4 i i1 (by omega); omega
  · have h : ¬ s.2 < (x.length : Int) := fun q => h (decide_eq_true q)
    obtain ⟨n, hn, rfl⟩ := List.getElem_of_mem hy
    have := h4 n (by omega) (by omega)
    rw [gt_def x n ⟨by omega, by omega⟩] at this
    exact this
/-- The quotient, rounded up. -/
def cdiv (x d : Int) : Int := -((-x) / d)
theorem cdiv_up {x d : Int} (hd : 0 < d) : (x % d = 0 → cdiv x d = x / d) ∧ (0 < x % d → cdiv x d = x / d + 1) := by
  unfold cdiv
  rcases neg_div x d hd with ⟨a, b, c⟩ | ⟨a, b, c⟩
  · exact ⟨fun _ => by omega, fun h => by omega⟩
  · exact ⟨fun h => by omega, fun _ => by omega⟩
theorem cdiv_mono {x y d : Int} (hd : 0 < d) (h : x ≤ y) : cdiv x d ≤ cdiv y d := by
  unfold cdiv
  have := Int.ediv_le_ediv hd (show -y ≤ -x by omega)
  omega
theorem fl_le_ce {x d : Int} (hd : 0 < d) : x / d ≤ cdiv x d ∧ cdiv x d ≤ x / d + 1 := by
  unfold cdiv
  rcases neg_div x d hd with ⟨a, b, c⟩ | ⟨a, b, c⟩ <;> omega
theorem of_bad {lo hi : Int} (h : lo ≤ hi) (hn : ¬ (-1152921504606846976 ≤ lo ∧ hi ≤ 1152921504606846976)) : bound_Of lo hi = some ⟨0, 0, true⟩ := by
  unfold bound_Of bound_Norm bound_Check
  simp only []
  rw [mn2_le h, mx2_le h]
  by_cases h1 : lo < -1152921504606846976
  · simp [h1, bound_None]
  · have h2 : hi > 1152921504606846976 := by omega
    simp [h1, h2, bound_None]
def fitB (lo hi : Int) : Prop := -1152921504606846976 ≤ lo ∧ hi ≤ 1152921504606846976
instance (lo hi : Int) : Decidable (fitB lo hi) := inferInstanceAs (Decidable (_ ∧ _))
/-- Both roundings of one product. -/
theorem both_ok (x n d L H : Int) (hx : okI x) (hn : okI n) (hd : 1 ≤ d ∧ d ≤ 9223372036854775807) (hL : L ≤ x * n / d) (hH : cdiv (x * n) d ≤ H) :
    ∃ r9 r10, bound_Mul_1 x n d = some r9 ∧ bound_Mul_2 x n d = some r10 ∧ ((r9.2 = 0 ∧ r10.2 = 0 ∧ r9.1 = x * n / d ∧ r10.1 = cdiv (x * n) d) ∨ ((r9.2 ≠ 0 ∨ r10.2 ≠ 0) ∧ ¬ fitB L H)) := by
  obtain ⟨r9, e9, p9⟩ := muldiv_ok x n d hx hn hd
  obtain ⟨r10, e10, p10, p11⟩ := muldivup_ok x n d hx hn hd
  have hc := fl_le_ce (x := x * n) (d := d) (by omega)
  obtain ⟨u1, u2⟩ := cdiv_up (x := x * n) (d := d) (by omega)
  refine ⟨r9, r10, by unfold bound_Mul_1; rw [e9]; rfl, by unfold bound_Mul_2; rw [e10]; rfl, ?_⟩
  by_cases hf : fitB L H
  · left
    obtain ⟨f1, f2⟩ := hf
    have k : okI (x * n / d) := by unfold okI; omega
    have k1 : okI (x * n / d + 1) := by unfold okI; omega
    have z := p11 ⟨k, k1⟩
    rcases p9 with ⟨_, rfl⟩ | ⟨q, _⟩
    · refine ⟨rfl, z, rfl, ?_⟩
      rcases (p10 z).1 with ⟨a, b⟩ | ⟨a, b⟩
      · rw [b, u1 a]
      · rw [b, u2 a]
    · exact absurd k q
  · by_cases z9 : r9.2 = 0
    · by_cases z10 : r10.2 = 0
      · left
        refine ⟨z9, z10, ?_, ?_⟩
        · rcases p9 with ⟨_, rfl⟩ | ⟨q, rfl⟩
          · rfl
          · cases z9
        · rcases (p10 z10).1 with ⟨a, b⟩ | ⟨a, b⟩
          · rw [b, u1 a]
          · rw [b, u2 a]
      · exact .inr ⟨.inr z10, hf⟩
    · exact .inr ⟨.inl z9, hf⟩
/-- The rows that the corners' loops make. -/
structure Cor (L H : Int) (l : List Int) (k : Int) (lo hi : Bool) : Prop where
  len : (l.length : Int) = k
  all : ∀ y ∈ l, L ≤ y ∧ y ≤ H
  lo : lo = true → L ∈ l
  hi : hi = true → H ∈ l
theorem corners_ok (a : Bound) (n d : Int) (ha : a.ok) (hn : 0 ≤ n ∧ n ≤ 1152921504606846976) (hd : 1 ≤ d ∧ d ≤ 9223372036854775807) :
    bound_corners_bound_Mul_1 a ⟨n, n, false⟩ d d = some (if fitB (a.Lo * n / d) (cdiv (a.Hi * n) d) then ⟨a.Lo * n / d, cdiv (a.Hi * n) d, false⟩ else ⟨0, 0, true⟩) := by
  have a1 := ha.lo; have a2 := ha.le; have a3 := ha.hi
  have m1 : a.Lo * n ≤ a.Hi * n := Int.mul_le_mul_of_nonneg_right a2 hn.1
  have d1 := Int.ediv_le_ediv (show 0 < d by omega) m1
  have d2 := cdiv_mono (show 0 < d by omega) m1
  have f1 := fl_le_ce (x := a.Lo * n) (d := d) (by omega)
  have f2 := fl_le_ce (x := a.Hi * n) (d := d) (by omega)
  have bL := both_ok a.Lo n d (a.Lo * n / d) (cdiv (a.Hi * n) d) (by unfold okI; omega) (by unfold okI; omega) hd (Int.le_refl _) d2
  have bH := both_ok a.Hi n d (a.Lo * n / d) (cdiv (a.Hi * n) d) (by unfold okI; omega) (by unfold okI; omega) hd d1 (Int.le_refl _)
  generalize hLe : a.Lo * n / d = L at *
  generalize hHe : cdiv (a.Hi * n) d = H at *
  generalize hMe : cdiv (a.Lo * n) d = M at *
  generalize hNe : a.Hi * n / d = N at *
  apply Has.val
  unfold bound_corners_bound_Mul_1
  refine Has.seq (P := fun t : Step (List Int) Bound => (∃ l, t = .next l ∧ Cor L H l 8 true true) ∨ (t = .done ⟨0, 0, true⟩ ∧ ¬ fitB L H)) ?_ (fun l hl => ?_) fun o ho => ?_
  · refine Has.loop (fun s : List Int × Int => (s.2 = 0 ∧ Cor L H s.1 0 false false) ∨ (s.2 = 1 ∧ Cor L H s.1 4 true false) ∨ (s.2 = 2 ∧ Cor L H s.1 8 true true)) (fun s => (2 - s.2).toNat) _ (.inl ⟨rfl, rfl, by simp, (fun h => nomatch h), (fun h => nomatch h)⟩) (by simp only []; omega) fun s hs => ?_
    have hs2 : 0 ≤ s.2 ∧ s.2 ≤ 2 := by rcases hs with ⟨e, _⟩ | ⟨e, _⟩ | ⟨e, _⟩ <;> omega
    unfold bound_corners_bound_Mul_1.l1
    refine Has.ite (fun h => ?_) fun h => Has.ret (.done (.inl ⟨s.1, rfl, ?_⟩))
    · have h : s.2 < 2 := of_decide_eq_true h
      refine Has.chk ⟨hs2.1, h⟩ (Has.seq (P := fun t : Step (List Int) (Step (List Int × Int) (Step (List Int) Bound)) => (∃ l, t = .next l ∧ ((s.2 = 0 ∧ Cor L H l 4 true false) ∨ (s.2 = 1 ∧ Cor L H l 8 true true))) ∨ (t = .done (.done (.done ⟨0, 0, true⟩)) ∧ ¬ fitB L H)) ?_ (fun l hl => ?_) fun o ho => ?_)
      · refine Has.loop (fun t : List Int × Int => (0 ≤ t.2 ∧ t.2 ≤ 2) ∧ ((s.2 = 0 ∧ Cor L H t.1 (2 * t.2) (decide (0 < t.2)) false) ∨ (s.2 = 1 ∧ Cor L H t.1 (4 + 2 * t.2) true (decide (0 < t.2))))) (fun t => (2 - t.2).toNat) _ ⟨⟨Int.le_refl _, by simp only []; omega⟩, ?_⟩ (by simp only []; omega) fun t ⟨ht, hc⟩ => ?_
        · rcases hs with ⟨e, c⟩ | ⟨e, c⟩ | ⟨e, c⟩
          · exact .inl ⟨e, c⟩
          · exact .inr ⟨e, c⟩
          · omega
        · unfold bound_corners_bound_Mul_1.l2
          refine Has.ite (fun h2 => ?_) fun h2 => Has.ret (.done (.inl ⟨t.1, rfl, ?_⟩))
          · have h2 : t.2 < 2 := of_decide_eq_true h2
            have eb : gt ([n, n] : List Int) t.2 = n := by
              have : t.2 = 0 ∨ t.2 = 1 := by omega
              rcases this with e | e <;> rw [e] <;> rfl
            have hl : (t.1.length : Int) ≤ 8 := by rcases hc with ⟨_, c⟩ | ⟨_, c⟩ <;> have := c.len <;> omega
            refine Has.chk ⟨ht.1, h2⟩ ?_
            simp only [eb]
            have fin : ∀ (x X Y : Int), gt ([a.Lo, a.Hi] : List Int) s.2 = x → (∃ r9 r10, bound_Mul_1 x n d = some r9 ∧ bound_Mul_2 x n d = some r10 ∧ ((r9.2 = 0 ∧ r10.2 = 0 ∧ r9.1 = X ∧ r10.1 = Y) ∨ ((r9.2 ≠ 0 ∨ r10.2 ≠ 0) ∧ ¬ fitB L H))) →
                (((s.2 = 0 ∧ Cor L H (t.1 ++ [X, Y]) (2 * (t.2 + 1)) (decide (0 < t.2 + 1)) false) ∨ (s.2 = 1 ∧ Cor L H (t.1 ++ [X, Y]) (4 + 2 * (t.2 + 1)) true (decide (0 < t.2 + 1))))) →
                Has (Option.bind (bound_Mul_1 (gt ([a.Lo, a.Hi] : List Int) s.2) n d) fun r9 => Option.bind (bound_Mul_2 (gt ([a.Lo, a.Hi] : List Int) s.2) n d) fun r10 => Option.bind (if (r9.2 != 0) = true then some true else some (r10.2 != 0)) fun z11 : Bool => if z11 = true then Option.bind (bound_None) fun r14 => some (.done (.done (.done (.done r14)))) else if roomy (t.1.length + ([r9.1, r10.1] : List Int).length) 8 = true then some (.next (t.1 ++ ([r9.1, r10.1] : List Int), w6 (t.2 + 1))) else none)
                  (StepOK (fun t : List Int × Int => (0 ≤ t.2 ∧ t.2 ≤ 2) ∧ ((s.2 = 0 ∧ Cor L H t.1 (2 * t.2) (decide (0 < t.2)) false) ∨ (s.2 = 1 ∧ Cor L H t.1 (4 + 2 * t.2) true (decide (0 < t.2))))) (fun t => (2 - t.2).toNat) (fun t : Step (List Int) (Step (List Int × Int) (Step (List Int) Bound)) => (∃ l, t = .next l ∧ ((s.2 = 0 ∧ Cor L H l 4 true false) ∨ (s.2 = 1 ∧ Cor L H l 8 true true))) ∨ (t = .done (.done (.done ⟨0, 0, true⟩)) ∧ ¬ fitB L H)) ((2 - t.2).toNat)) := by
              intro x X Y ex ⟨r9, r10, e9, e10, hr⟩ hC
              rw [ex, e9, e10]
              simp only [Option.bind_some, ite_or]
              rcases hr with ⟨z9, z10, v9, v10⟩ | ⟨hb, hf⟩
              · rw [z9, z10, v9, v10, w6_in (by omega)]
                refine Has.neg (by simp) (Has.chk (roomyI (by simp; omega) (by simp; omega)) (Has.ret (.next ⟨⟨by simp only []; omega, by simp only []; omega⟩, hC⟩ (by simp only []; omega))))
              · refine Has.pos (by rcases hb with hb | hb <;> simp [hb]) (Has.ret (.done (.inr ⟨rfl, hf⟩)))
            rcases hc with ⟨e, c⟩ | ⟨e, c⟩
            · refine fin a.Lo L M (by rw [e]; rfl) bL (.inl ⟨e, by have := c.len; simp; omega, fun y hy => ?_, fun _ => List.mem_append_right _ (by simp), (fun h => nomatch h)⟩)
              rcases List.mem_append.1 hy with h | h
              · exact c.all y h
              · simp at h; rcases h with rfl | rfl <;> omega
            · refine fin a.Hi N H (by rw [e]; rfl) bH (.inr ⟨e, by have := c.len; simp; omega, fun y hy => ?_, fun h => List.mem_append_left _ (c.lo h), fun _ => List.mem_append_right _ (by simp)⟩)
              rcases List.mem_append.1 hy with h | h
              · exact c.all y h
              · simp at h; rcases h with rfl | rfl <;> omega
          · have h2 : t.2 = 2 := by have : ¬ t.2 < 2 := fun q => h2 (decide_eq_true q); omega
            rw [h2] at hc
            exact hc
      · rcases hl with ⟨l', e, hl⟩ | ⟨e, _⟩
        · cases e
          rw [w6_in (by omega)]
          refine Has.ret (.next ?_ (by simp only []; omega))
          rcases hl with ⟨e, c⟩ | ⟨e, c⟩
          · exact .inr (.inl ⟨by simp only []; omega, c⟩)
          · exact .inr (.inr ⟨by simp only []; omega, c⟩)
        · cases e
      · rcases ho with ⟨l', e, _⟩ | ⟨e, hf⟩
        · cases e
        · cases e; exact .done (.inr ⟨rfl, hf⟩)
    · have h : s.2 = 2 := by have : ¬ s.2 < 2 := fun q => h (decide_eq_true q); omega
      rcases hs with ⟨e, _⟩ | ⟨e, _⟩ | ⟨e, c⟩
      · omega
      · omega
      · exact c
  · rcases hl with ⟨l', e, c⟩ | ⟨e, _⟩
    · cases e
      have hlen := c.len
      have hne : l ≠ [] := fun e => by subst e; simp at hlen
      refine (min_ok l hne (by omega)).bind fun m ⟨m1, m2⟩ => (max_ok l hne (by omega)).bind fun k ⟨k1, k2⟩ => ?_
      have em : m = L := by have := m2 L (c.lo rfl); have := c.all m m1; omega
      have ek : k = H := by have := k2 H (c.hi rfl); have := c.all k k1; omega
      have hLH : L ≤ H := by omega
      rw [em, ek]
      by_cases hf : fitB L H
      · rw [of_ok hf.1 hLH hf.2, if_pos hf]; exact Has.ret rfl
      · rw [of_bad hLH hf, if_neg hf]; exact Has.ret rfl
    · cases e
  · rcases ho with ⟨l', e, _⟩ | ⟨e, hf⟩
    · cases e
    · cases e; rw [if_neg hf]
theorem exact_ok {v : Int} (h1 : -1152921504606846976 ≤ v) (h2 : v ≤ 1152921504606846976) : bound_Exact v = some ⟨v, v, false⟩ := by
  unfold bound_Exact; rw [of_ok h1 (Int.le_refl _) h2]; rfl
theorem scale_known (a : Bound) (n d : Int) (ha : a.ok) (ua : a.Unknown = false) (hn : 0 ≤ n ∧ n ≤ 1152921504606846976) (hd : 1 ≤ d ∧ d ≤ 9223372036854775807) :
    bound_Scale a n d = some (if fitB (a.Lo * n / d) (cdiv (a.Hi * n) d) then ⟨a.Lo * n / d, cdiv (a.Hi * n) d, false⟩ else ⟨0, 0, true⟩) := by
  unfold bound_Scale bound_Mul
  rw [exact_ok (by omega) hn.2]
  simp only [Option.bind_some]
  have hd' : ¬ d < 1 := by omega
  rw [vague_ok ha (okKnown (by omega) (Int.le_refl _) hn.2), ua]
  simp only [Option.bind_some, Bool.or_self, Bool.false_eq_true, if_false, decide_eq_true_eq, hd']
  rw [corners_ok a n d ha hn hd]; rfl
theorem scale_vague (a : Bound) (n d : Int) (ha : a.ok) (ua : a.Unknown = true) (hn : 0 ≤ n ∧ n ≤ 1152921504606846976) : bound_Scale a n d = some ⟨0, 0, true⟩ := by
  unfold bound_Scale bound_Mul
  rw [exact_ok (by omega) hn.2]
  simp only [Option.bind_some]
  rw [vague_ok ha (okKnown (by omega) (Int.le_refl _) hn.2), ua]
  rfl
/-- With no divisor: exact. -/
theorem scale_one (a : Bound) (n : Int) (ha : a.ok) (ua : a.Unknown = false) (hn : 0 ≤ n ∧ n ≤ 1152921504606846976) (h1 : -1152921504606846976 ≤ a.Lo * n) (h2 : a.Hi * n ≤ 1152921504606846976) :
    bound_Scale a n 1 = some ⟨a.Lo * n, a.Hi * n, false⟩ := by
  have e1 : cdiv (a.Hi * n) 1 = a.Hi * n := by unfold cdiv; simp
  rw [scale_known a n 1 ha ua hn (by omega), Int.ediv_one, e1, if_pos ⟨h1, h2⟩]
end Lf
/- Sums of bounds that may be unknown. -/
namespace Lf
open Go Go.Abs
set_option linter.unusedVariables false
set_option linter.unusedSimpArgs false
def plus2 : Option (Int × Int) → Option (Int × Int) → Option (Int × Int)
  | some (a, b), some (c, d) => some (a + c, b + d)
  | _, _ => none
def bdOf : Option (Int × Int) → Bound
  | none => ⟨0, 0, true⟩
  | some (l, h) => ⟨l, h, false⟩
theorem plus2_none (x : Option (Int × Int)) : plus2 x none = none := by cases x <;> rfl
theorem none_plus2 (x : Option (Int × Int)) : plus2 none x = none := by cases x <;> rfl
theorem bdOf_ok {o : Option (Int × Int)} {B : Int} (hB : B ≤ 1152921504606846976) (h : ∀ l h, o = some (l, h) → l ≤ h ∧ -B ≤ l ∧ h ≤ B) : (bdOf o).ok := by
  cases o with
  | none => exact okNone
  | some p => obtain ⟨a, b, c⟩ := h p.1 p.2 rfl; exact okKnown (by omega) a (by omega)
end Lf
/- Fields that are shifted by less than a cell. -/
namespace Lf
open Go Go.Abs
set_option linter.unusedVariables false
set_option linter.unusedSimpArgs false
def ws (x y : Int) : List Int := [(256 - x) * (256 - y), x * (256 - y), (256 - x) * y, x * y]
theorem ws_bd {x y : Int} (x0 : 0 ≤ x ∧ x < 256) (y0 : 0 ≤ y ∧ y < 256) : (0 ≤ (256 - x) * (256 - y) ∧ (256 - x) * (256 - y) ≤ 65536) ∧ (0 ≤ x * (256 - y) ∧ x * (256 - y) ≤ 65536) ∧ (0 ≤ (256 - x) * y ∧ (256 - x) * y ≤ 65536) ∧ (0 ≤ x * y ∧ x * y ≤ 65536) := by
  have f : ∀ a b : Int, 0 ≤ a → a ≤ 256 → 0 ≤ b → b ≤ 256 → 0 ≤ a * b ∧ a * b ≤ 65536 := fun a b a0 a1 b0 b1 => by
    have := Int.mul_nonneg a0 b0
    have := Int.mul_le_mul_of_nonneg_right a1 b0
    omega
  exact ⟨f _ _ (by omega) (by omega) (by omega) (by omega), f _ _ (by omega) (by omega) (by omega) (by omega), f _ _ (by omega) (by omega) (by omega) (by omega), f _ _ (by omega) (by omega) (by omega) (by omega)⟩
theorem ws_at {x y j : Int} (x0 : 0 ≤ x ∧ x < 256) (y0 : 0 ≤ y ∧ y < 256) (j0 : 0 ≤ j) (j1 : j < 4) : 0 ≤ gt (ws x y) j ∧ gt (ws x y) j ≤ 65536 := by
  obtain ⟨a, b, c, d⟩ := ws_bd x0 y0
  have : j = 0 ∨ j = 1 ∨ j = 2 ∨ j = 3 := by omega
  rcases this with rfl | rfl | rfl | rfl
  · exact a
  · exact b
  · exact c
  · exact d
def partOf (c : Cells) (x y i j : Int) : Option (Int × Int) :=
  if gt (ws x y) j ≤ 0 then some (0, 0)
  else if (atF c (i % c.W - j % 2) (i / c.W - j / 2)).Unknown = true then none
  else some ((atF c (i % c.W - j % 2) (i / c.W - j / 2)).Lo * gt (ws x y) j, (atF c (i % c.W - j % 2) (i / c.W - j / 2)).Hi * gt (ws x y) j)
def accS (c : Cells) (x y i : Int) : Nat → Option (Int × Int)
  | 0 => some (0, 0)
  | n + 1 => plus2 (accS c x y i n) (partOf c x y i n)
theorem accS_none {c : Cells} {x y i : Int} {m n : Nat} (h : accS c x y i m = none) (hmn : m ≤ n) : accS c x y i n = none := by
  induction n with
  | zero => have : m = 0 := by omega
            subst this; exact h
  | succ n ih =>
    by_cases e : m = n + 1
    · rw [← e]; exact h
    · unfold accS; rw [ih (by omega)]; exact none_plus2 _
theorem part_bd {c : Cells} {w h x y i j : Int} (hc : fld w h c) (x0 : 0 ≤ x ∧ x < 256) (y0 : 0 ≤ y ∧ y < 256) (j0 : 0 ≤ j) (j1 : j < 4) {l u : Int} (e : partOf c x y i j = some (l, u)) : l ≤ u ∧ -72057594037927936 ≤ l ∧ u ≤ 72057594037927936 := by
  have hw := ws_at x0 y0 j0 j1
  obtain ⟨b1, b2, b3⟩ := atF_ok (i % c.W - j % 2) (i / c.W - j / 2) hc
  unfold partOf at e
  split at e
  · cases e; omega
  · split at e
    · cases e
    · cases e
      generalize gt (ws x y) j = g at *
      generalize atF c (i % c.W - j % 2) (i / c.W - j / 2) = b at *
      have s1 := Int.mul_le_mul_of_nonneg_right b1.le hw.1
      have s2 := Int.mul_le_mul_of_nonneg_right b2 hw.1
      have s3 := Int.mul_le_mul_of_nonneg_right b3 hw.1
      omega
theorem accS_bd {c : Cells} {w h x y i : Int} (hc : fld w h c) (x0 : 0 ≤ x ∧ x < 256) (y0 : 0 ≤ y ∧ y < 256) : ∀ n : Nat, n ≤ 4 → ∀ {l u : Int}, accS c x y i n = some (l, u) → l ≤ u ∧ -(72057594037927936 * n) ≤ l ∧ u ≤ 72057594037927936 * n
  | 0, _, l, u, e => by cases e; simp
  | n + 1, hn, l, u, e => by
    unfold accS at e
    cases e1 : accS c x y i n with
    | none => rw [e1, none_plus2] at e; cases e
    | some a =>
      cases e2 : partOf c x y i n with
      | none => rw [e2, plus2_none] at e; cases e
      | some b =>
        rw [e1, e2] at e
        have i1 := accS_bd hc x0 y0 n (by omega) e1
        have i2 := part_bd hc x0 y0 (by omega) (by omega) e2
        cases e
        omega
def slF (c : Cells) (x y i : Int) : Bound :=
  match accS c x y i 4 with
  | none => ⟨0, 0, true⟩
  | some (l, u) => ⟨l / 65536, cdiv u 65536, false⟩
theorem slide_ok {c : Cells} {w h x y : Int} (z : size w h) (hc : fld w h c) (x0 : 0 ≤ x ∧ x < 256) (y0 : 0 ≤ y ∧ y < 256) : Has (stack_Slide c x y) fun r => r.2 = 0 ∧ isF r.1 w h (slF c x y) := by
  have zn := z.n
  have hl : (c.At.length : Int) = w * h := by rw [hc.f.len, hc.ew, hc.eh]
  have z1 := z.w0; have z2 := z.w1; have z3 := z.h0; have z4 := z.h1
  obtain ⟨k1, k2, k3, k4⟩ := ws_bd x0 y0
  unfold stack_Slide
  rw [findCheck_ok hc.f, hc.ew, hc.eh]
  have g1 : decide (x < 0) = false := decide_eq_false (by omega)
  have g2 : decide (x ≥ 256) = false := decide_eq_false (by omega)
  have g3 : decide (y < 0) = false := decide_eq_false (by omega)
  have g4 : decide (y ≥ 256) = false := decide_eq_false (by omega)
  simp only [g1, g2, g3, g4, ite_or, Bool.false_or, Option.bind_some, bne_self_eq_false, Bool.false_eq_true, if_false]
  refine Has.bind (P := fun l : List Bound => (l.length : Int) = w * h ∧ allI l fun i b => b = slF c x y i) ?_ fun l ⟨l1, l2⟩ => Has.ret ⟨rfl, rfl, rfl, l1, l2⟩
  refine Has.loop (fun t : List Bound × Int => 0 ≤ t.2 ∧ t.2 ≤ c.At.length ∧ (t.1.length : Int) = t.2 ∧ allI t.1 fun i b => b = slF c x y i) (fun t => (c.At.length - t.2).toNat) _ ⟨Int.le_refl _, by simp only []; omega, rfl, allI_nil⟩ (by simp only []; omega) fun t ⟨t1, t2, t3, t4⟩ => ?_
  unfold stack_Slide.l1
  refine Has.ite (fun hi => ?_) fun hi => ?_
  · have hi : t.2 < c.At.length := of_decide_eq_true hi
    have m0 := Int.emod_nonneg t.2 (b := w) (by omega)
    have m1 := Int.emod_lt_of_pos t.2 (b := w) (by omega)
    have q0 := Int.ediv_nonneg t1 (show 0 ≤ w by omega)
    have q1 := Int.ediv_le_self w t1
    refine Has.bind (P := fun b => b = bdOf (accS c x y t.2 4)) ?_ fun b hb => ?_
    · refine Has.loop (fun s : Bound × Int => 0 ≤ s.2 ∧ s.2 ≤ 4 ∧ s.1 = bdOf (accS c x y t.2 s.2.toNat)) (fun s => (4 - s.2).toNat) _ ⟨Int.le_refl _, by simp only []; omega, rfl⟩ (by simp only []; omega) fun s ⟨s1, s2, s3⟩ => ?_
      unfold stack_Slide.l2
      rw [w6_in (n := 256 - x) (by omega), w6_in (n := 256 - y) (by omega), w6_in (n := (256 - x) * (256 - y)) (by omega), w6_in (n := x * (256 - y)) (by omega), w6_in (n := (256 - x) * y) (by omega), w6_in (n := x * y) (by omega), hc.ew, show ([(256 - x) * (256 - y), x * (256 - y), (256 - x) * y, x * y] : List Int) = ws x y from rfl]
      refine Has.letF (Has.ite (fun hj => ?_) fun hj => ?_)
      · have hj : s.2 < 4 := of_decide_eq_true hj
        have hw := ws_at x0 y0 s1 hj
        have esucc : accS c x y t.2 (s.2.toNat + 1) = plus2 (accS c x y t.2 s.2.toNat) (partOf c x y t.2 s.2) := by
          rw [accS]; congr 2; omega
        have r0 := Int.emod_nonneg s.2 (b := 2) (by omega)
        have r1 := Int.ediv_nonneg s1 (show (0 : Int) ≤ 2 by omega)
        rw [Int.tmod_eq_emod_of_nonneg s1, Int.tdiv_eq_ediv_of_nonneg s1, Int.tmod_eq_emod_of_nonneg t1, Int.tdiv_eq_ediv_of_nonneg t1, w6_in (n := s.2 / 2) (by omega), w6_in (n := t.2 / w) (by omega), w6_in (n := t.2 % w - s.2 % 2) (by omega), w6_in (n := t.2 / w - s.2 / 2) (by omega), w6_in (n := s.2 + 1) (by omega), at_ok _ _ hc]
        refine Has.bind (P := fun b => b = bdOf (accS c x y t.2 (s.2.toNat + 1))) (Has.chk ⟨s1, hj⟩ (Has.letF (Has.ite (fun hp => ?_) fun hp => ?_))) fun b hb => ?_
        · have hp : gt (ws x y) s.2 > 0 := of_decide_eq_true hp
          refine Has.chk (by omega) ?_
          simp only [Option.bind_some]
          obtain ⟨b1, b2, b3⟩ := atF_ok (t.2 % w - s.2 % 2) (t.2 / w - s.2 / 2) hc
          have accB := fun l h => accS_bd (i := t.2) hc x0 y0 s.2.toNat (l := l) (u := h) (by omega)
          have accok : s.1.ok := by rw [s3]; exact bdOf_ok (B := 72057594037927936 * 4) (by omega) fun l h e => by obtain ⟨p1, p2, p3⟩ := accB l h e; omega
          by_cases hu : (atF c (t.2 % w - s.2 % 2) (t.2 / w - s.2 / 2)).Unknown = true
          · have ec : partOf c x y t.2 s.2 = none := by unfold partOf; rw [if_neg (by omega), hc.ew, if_pos hu]
            rw [scale_vague _ _ 1 b1 hu (by omega)]
            simp only [Option.bind_some]
            rw [add_vague accok okNone (by simp)]
            exact Has.ret (by rw [esucc, ec, plus2_none]; rfl)
          · have ec : partOf c x y t.2 s.2 = some ((atF c (t.2 % w - s.2 % 2) (t.2 / w - s.2 / 2)).Lo * gt (ws x y) s.2, (atF c (t.2 % w - s.2 % 2) (t.2 / w - s.2 / 2)).Hi * gt (ws x y) s.2) := by unfold partOf; rw [if_neg (by omega), hc.ew, if_neg hu]
            obtain ⟨e1, e2, e3⟩ := part_bd hc x0 y0 s1 hj ec
            rw [scale_one _ _ b1 (by simpa using hu) (by omega) (by omega) (by omega)]
            simp only [Option.bind_some]
            have hrok : Bound.ok ⟨(atF c (t.2 % w - s.2 % 2) (t.2 / w - s.2 / 2)).Lo * gt (ws x y) s.2, (atF c (t.2 % w - s.2 % 2) (t.2 / w - s.2 / 2)).Hi * gt (ws x y) s.2, false⟩ := okKnown (by omega) e1 (by omega)
            cases ea : accS c x y t.2 s.2.toNat with
            | none =>
              have es : s.1 = ⟨0, 0, true⟩ := by rw [s3, ea]; rfl
              rw [es, add_vague okNone hrok (by simp)]
              exact Has.ret (by rw [esucc, ea, none_plus2]; rfl)
            | some p =>
              have es : s.1 = ⟨p.1, p.2, false⟩ := by rw [s3, ea]; rfl
              obtain ⟨p1, p2, p3⟩ := accB p.1 p.2 ea
              rw [es, add_known (by rw [← es]; exact accok) hrok rfl rfl (by simp only []; omega) (by simp only []; omega)]
              exact Has.ret (by rw [esucc, ea, ec]; rfl)
        · have hp : ¬ gt (ws x y) s.2 > 0 := fun q => hp (decide_eq_true q)
          have ec : partOf c x y t.2 s.2 = some (0, 0) := by unfold partOf; rw [if_pos (by omega)]
          refine Has.ret ?_
          rw [s3, esucc, ec]
          cases accS c x y t.2 s.2.toNat with
          | none => rfl
          | some p => simp [plus2, bdOf]
        · rw [hb]
          exact Has.ret (.next ⟨by simp only []; omega, by simp only []; omega, by simp only []; congr 2; omega⟩ (by simp only []; omega))
      · have hj : ¬ s.2 < 4 := fun q => hj (decide_eq_true q)
        have e : s.2.toNat = 4 := by omega
        exact Has.ret (.done (by rw [s3, e]))
    · rw [hb, w6_in (n := t.2 + 1) (by omega)]
      refine Has.bind (P := fun b => b = slF c x y t.2) ?_ fun b hb => Has.chk (roomyI (by simp; omega) (by simp; omega)) (Has.ret (.next ⟨by simp only []; omega, by simp only []; omega, by simp; omega, allI_snoc t4 (by rw [hb, t3])⟩ (by simp only []; omega)))
      unfold slF
      cases ea : accS c x y t.2 4 with
      | none => rw [show bdOf none = ⟨0, 0, true⟩ from rfl, scale_vague _ 1 65536 okNone rfl (by omega)]; exact Has.ret rfl
      | some p =>
        obtain ⟨p1, p2, p3⟩ := accS_bd hc x0 y0 4 (Nat.le_refl _) (l := p.1) (u := p.2) ea
        rw [show bdOf (some p) = ⟨p.1, p.2, false⟩ from rfl, scale_known _ 1 65536 (okKnown (by omega) p1 (by omega)) rfl (by omega) (by omega)]
        simp only [Int.mul_one]
        rw [if_pos (show fitB (p.1 / 65536) (cdiv p.2 65536) from ⟨by omega, by unfold cdiv; omega⟩)]
        exact Has.ret rfl
  · have hi : ¬ t.2 < c.At.length := fun q => hi (decide_eq_true q)
    exact Has.ret (.done ⟨by omega, t4⟩)
end Lf
/- Lights, and bounds of them. -/
namespace Lf
open Go Go.Abs
set_option linter.unusedVariables false
set_option linter.unusedSimpArgs false
/-- One point's light at a cell. -/
theorem point_ok {top k dx dy : Int} (h0 : 0 ≤ top) (h1 : top ≤ 4999) (k1 : 1 ≤ k) (k3 : k ≤ 3) (x0 : 0 ≤ dx) (x1 : dx ≤ k) (y0 : 0 ≤ dy) (y1 : dy ≤ k) :
    w6 ((w6 (top * (w6 ((w6 (k + 1)) - dx)))) * (w6 ((w6 (k + 1)) - dy))) = top * (k + 1 - dx) * (k + 1 - dy) ∧ w6 ((w6 (k + 1)) * (w6 (k + 1))) = (k + 1) * (k + 1) ∧ (k + 1) * (k + 1) ≠ 0 ∧
    w6 (Int.tdiv (top * (k + 1 - dx) * (k + 1 - dy)) ((k + 1) * (k + 1))) = top * (k + 1 - dx) * (k + 1 - dy) / ((k + 1) * (k + 1)) ∧ 0 ≤ top * (k + 1 - dx) * (k + 1 - dy) / ((k + 1) * (k + 1)) ∧ top * (k + 1 - dx) * (k + 1 - dy) / ((k + 1) * (k + 1)) ≤ top := by
  rw [w6_in (n := k + 1) (by omega), w6_in (n := k + 1 - dx) (by omega), w6_in (n := k + 1 - dy) (by omega)]
  have a0 := Int.mul_nonneg h0 (show 0 ≤ k + 1 - dx by omega)
  have a1 := Int.mul_le_mul_of_nonneg_left (show k + 1 - dx ≤ k + 1 by omega) h0
  have a2 := Int.mul_le_mul_of_nonneg_left (show k + 1 ≤ 4 by omega) h0
  have b0 := Int.mul_nonneg a0 (show 0 ≤ k + 1 - dy by omega)
  have b1 := Int.mul_le_mul_of_nonneg_left (show k + 1 - dy ≤ k + 1 by omega) a0
  have b2 := Int.mul_le_mul_of_nonneg_right a1 (show 0 ≤ k + 1 by omega)
  have b3 := Int.mul_le_mul_of_nonneg_left (show k + 1 ≤ 4 by omega) a0
  have c0 : 4 ≤ (k + 1) * (k + 1) ∧ (k + 1) * (k + 1) ≤ 16 := by
    have : k = 1 ∨ k = 2 ∨ k = 3 := by omega
    rcases this with rfl | rfl | rfl <;> decide
  have d0 : 0 ≤ top * (k + 1 - dx) * (k + 1 - dy) / ((k + 1) * (k + 1)) := Int.ediv_nonneg b0 (by omega)
  have d1 : top * (k + 1 - dx) * (k + 1 - dy) / ((k + 1) * (k + 1)) ≤ top := by
    have : top * (k + 1 - dx) * (k + 1 - dy) / ((k + 1) * (k + 1)) < top + 1 := by
      rw [Int.ediv_lt_iff_lt_mul (by omega), Int.add_mul, ← Int.mul_assoc]; omega
    omega
  refine ⟨?_, w6_in (by omega), by omega, ?_, d0, d1⟩
  · rw [w6_in (n := top * (k + 1 - dx)) (by omega)]; exact w6_in (by omega)
  · rw [Int.tdiv_eq_ediv_of_nonneg b0]; exact w6_in (by omega)
theorem tops_at (v : Int) (h : 0 ≤ v ∧ v < 3) : 1 ≤ gt ([30, 400, 5000] : List Int) v ∧ gt ([30, 400, 5000] : List Int) v ≤ 5000 := by
  have : v = 0 ∨ v = 1 ∨ v = 2 := by omega
  rcases this with rfl | rfl | rfl <;> decide
/-- What the light of a field is, of which the background is given. -/
structure okLt (n b : Int) (back : Int) (l : List Int) : Prop where
  len : (l.length : Int) = n
  v : ∀ x ∈ l, back ≤ x ∧ x ≤ b
theorem lights_ok (s : spymake_Stream) (w h points : Int) (hs : okS s) (ha : s.at_ ≤ 4611686018427000000) (w0 : 1 ≤ w) (w1 : w ≤ 32) (h0 : 1 ≤ h) (h1 : h ≤ 32) (p0 : 0 ≤ points) (p1 : points ≤ 10) :
    Has (Stream_Lights s w h points) fun r => okLt (w * h) (39 + 4999 * points) r.2.1 r.1 ∧ 0 ≤ r.2.1 ∧ r.2.1 ≤ 39 ∧ after s r.2.2 (1 + 5 * points) := by
  have hA := area w0 w1 h0 h1
  unfold Stream_Lights
  have eA : w6 (w * h) = w * h := w6_in (by omega)
  rw [eA]
  refine (next_ok s 40 hs (by omega) (by omega)).bind fun r ⟨r1, r2, r3⟩ => ?_
  refine Has.chk ⟨by omega, Int.le_refl _, roomyI (by omega) (by omega)⟩ ?_
  refine Has.bind (P := fun l : List Int => (l.length : Int) = w * h ∧ ∀ x ∈ l, x = r.1) ?_ fun l ⟨l1, l2⟩ => ?_
  · refine Has.loop (fun t : List Int × Int => (t.1.length : Int) = w * h ∧ 0 ≤ t.2 ∧ t.2 ≤ w * h ∧ allI t.1 fun j x => j < t.2 → x = r.1) (fun t => (w * h - t.2).toNat) _ ⟨by simp; omega, Int.le_refl _, by simp only []; omega, fun j j1 j2 j3 => by simp only [] at j3; omega⟩ (by simp only []; omega) fun t ⟨t1, t2, t3, t4⟩ => ?_
    unfold Stream_Lights.l1
    rw [eA]
    refine Has.letF (Has.ite (fun hc => ?_) fun hc => ?_)
    · have hc : t.2 < w * h := by simp at hc; omega
      rw [w6_in (by omega)]
      refine Has.chk ⟨t2, by omega⟩ (Has.ret (.next ⟨by simp only [List.length_set]; exact t1, by simp only []; omega, by simp only []; omega, ?_⟩ (by simp only []; omega)))
      exact allI_upd t4 t2 (fun j x j1 j2 j3 hx hj => by simp only [] at hj; exact hx (by omega)) fun _ => rfl
    · have hc : ¬ t.2 < w * h := by simp at hc; omega
      exact Has.ret (.done ⟨t1, allI_mem (allI_mono t4 fun j x j1 j2 hx => hx (by omega))⟩)
  · have hsr := r3.ok hs (by omega)
    have hh := r3.hi
    refine (Has.loop (fun t : spymake_Stream × List Int × Int => after r.2 t.1 (5 * t.2.2) ∧ 0 ≤ t.2.2 ∧ t.2.2 ≤ points ∧ (t.2.1.length : Int) = w * h ∧ ∀ x ∈ t.2.1, r.1 ≤ x ∧ x ≤ 39 + 4999 * t.2.2) (fun t => (points - t.2.2).toNat)
      (fun o : spymake_Stream × List Int => after r.2 o.1 (5 * points) ∧ okLt (w * h) (39 + 4999 * points) r.1 o.2) ⟨after.refl _, Int.le_refl _, p0, l1, fun x hx => by have := l2 x hx; simp only []; omega⟩ (by simp only []; omega) fun t ⟨t1, t2, t3, t4, t5⟩ => ?_).bind
      fun o ⟨o1, o2⟩ => Has.ret ⟨o2, r1, by simp only []; omega, (r3.trans o1).more (by omega)⟩
    unfold Stream_Lights.l2
    refine Has.ite (fun hc => ?_) fun hc => ?_
    · have hc : t.2.2 < points := of_decide_eq_true hc
      have hst := t1.ok hsr (by omega)
      have hht := t1.hi
      refine (next_ok t.1 w hst (by omega) (by omega)).bind fun x ⟨x1, x2, x3⟩ => ?_
      have hx := x3.ok hst (by omega); have hhx := x3.hi
      refine (next_ok x.2 h hx (by omega) (by omega)).bind fun y ⟨y1, y2, y3⟩ => ?_
      have hy := y3.ok hx (by omega); have hhy := y3.hi
      refine (range_ok y.2 1 3 hy (by omega) (by omega) (by omega) (by omega)).bind fun k ⟨k1, k2, k3⟩ => ?_
      have hk := k3.ok hy (by omega); have hhk := k3.hi
      refine (next_ok k.2 3 hk (by omega) (by omega)).bind fun g ⟨g1, g2, g3⟩ => ?_
      have hg := g3.ok hk (by omega); have hhg := g3.hi
      have ht := tops_at g.1 ⟨g1, g2⟩
      refine Has.chk ⟨g1, by simpa using g2⟩ ((next_ok g.2 _ hg (by omega) (by omega)).bind fun z ⟨z1, z2, z3⟩ => ?_)
      have hhz := z3.hi
      generalize gt ([30, 400, 5000] : List Int) g.1 = most at *
      refine Has.bind (P := fun l : List Int => (l.length : Int) = w * h ∧ ∀ x ∈ l, r.1 ≤ x ∧ x ≤ 39 + 4999 * (t.2.2 + 1)) ?_ fun l ⟨m1, m2⟩ => ?_
      · have ini : ∀ v : Int, r.1 ≤ v ∧ v ≤ 39 + 4999 * t.2.2 → ∀ {q : Prop}, r.1 ≤ v ∧ v ≤ 39 + 4999 * (t.2.2 + 1) ∧ (q → v ≤ 39 + 4999 * t.2.2) := fun v ⟨a, b⟩ _ => ⟨a, by omega, fun _ => b⟩
        refine Has.loop (fun u : List Int × Int => (u.1.length : Int) = w * h ∧ 0 ≤ u.2 ∧ u.2 ≤ w * h ∧ allI u.1 fun j x => r.1 ≤ x ∧ x ≤ 39 + 4999 * (t.2.2 + 1) ∧ (u.2 ≤ j → x ≤ 39 + 4999 * t.2.2)) (fun u => (w * h - u.2).toNat) _ ⟨t4, Int.le_refl _, by simp only []; omega, fun j j1 j2 => ini _ (t5 _ (gt_mem t.2.1 j ⟨j1, j2⟩))⟩ (by simp only []; omega) fun u ⟨u1, u2, u3, u4⟩ => ?_
        unfold Stream_Lights.l3
        rw [t4]
        refine Has.ite (fun hd => ?_) fun hd => ?_
        · have hd : u.2 < w * h := of_decide_eq_true hd
          have q0 := Int.tmod_nonneg w u2
          have q1 := Int.tmod_lt_of_pos u.2 (b := w) (by omega)
          have q2 : 0 ≤ Int.tdiv u.2 w := Int.tdiv_nonneg u2 (by omega)
          have q3 : Int.tdiv u.2 w < h := by rw [Int.tdiv_eq_ediv_of_nonneg u2, Int.ediv_lt_iff_lt_mul (by omega), Int.mul_comm]; exact hd
          refine Has.bind (P := fun l : List Int => (l.length : Int) = w * h ∧ allI l fun j x => r.1 ≤ x ∧ x ≤ 39 + 4999 * (t.2.2 + 1) ∧ (u.2 + 1 ≤ j → x ≤ 39 + 4999 * t.2.2)) ?_ fun l ⟨n1, n2⟩ => ?_
          · rw [w6_in (n := Int.tdiv u.2 w) (by omega), w6_in (n := Int.tmod u.2 w - x.1) (by omega), w6_in (n := x.1 - Int.tmod u.2 w) (by omega), w6_in (n := Int.tdiv u.2 w - y.1) (by omega), w6_in (n := y.1 - Int.tdiv u.2 w) (by omega)]
            refine Has.chk (by omega) (Has.letF (Has.letF ?_))
            have d1 := mx2_def (Int.tmod u.2 w - x.1) (x.1 - Int.tmod u.2 w)
            have d2 := mx2_def (Int.tdiv u.2 w - y.1) (y.1 - Int.tdiv u.2 w)
            generalize mx2 (Int.tmod u.2 w - x.1) (x.1 - Int.tmod u.2 w) = dx at *
            generalize mx2 (Int.tdiv u.2 w - y.1) (y.1 - Int.tdiv u.2 w) = dy at *
            simp only [ite_and, Option.bind_some]
            refine Has.ite (fun he => ?_) fun he => Has.ret ⟨u1, allI_mono u4 fun j v j1 j2 ⟨v1, v2, v3⟩ => ⟨v1, v2, fun h => v3 (by omega)⟩⟩
            simp only [Bool.and_eq_true, decide_eq_true_eq] at he
            obtain ⟨e1, e2, e3, e4, e5, e6⟩ := point_ok (top := z.1) (k := k.1) (dx := dx) (dy := dy) z1 (by omega) k1 k2 (by omega) he.1 (by omega) he.2
            rw [e1, e2]
            obtain ⟨v1, v2, v3⟩ := u4 u.2 u2 (by omega)
            have v3 := v3 (Int.le_refl _)
            refine Has.chk ⟨u2, by omega⟩ (Has.letF (Has.chk e3 (Has.letF (Has.ret ⟨by simp only [List.length_set]; exact u1, ?_⟩))))
            rw [e4]
            generalize z.1 * (k.1 + 1 - dx) * (k.1 + 1 - dy) / ((k.1 + 1) * (k.1 + 1)) = add at *
            rw [w6_in (n := gt u.1 u.2 + add) (by omega)]
            exact allI_upd u4 u2 (fun j v j1 j2 j3 ⟨v1, v2, v3⟩ => ⟨v1, v2, fun h => v3 (by omega)⟩) ⟨by omega, by omega, fun h => by omega⟩
          · rw [w6_in (by omega)]
            exact Has.ret (.next ⟨n1, by simp only []; omega, by simp only []; omega, n2⟩ (by simp only []; omega))
        · have hd : ¬ u.2 < w * h := fun q => hd (decide_eq_true q)
          exact Has.ret (.done ⟨u1, allI_mem (allI_mono u4 fun j v j1 j2 ⟨v1, v2, v3⟩ => ⟨v1, v2⟩)⟩)
      · rw [w6_in (by omega)]
        exact Has.ret (.next ⟨(((((t1.trans x3).trans y3).trans k3).trans g3).trans z3).more (by simp only []; omega), by simp only []; omega, by simp only []; omega, m1, m2⟩ (by simp only []; omega))
    · have hc : ¬ t.2.2 < points := fun q => hc (decide_eq_true q)
      have e : t.2.2 = points := by omega
      rw [e] at t1 t5
      exact Has.ret (.done ⟨t1, t4, t5⟩)
/-- A bound of a light, or none. -/
def veils (v : Int) (b : Bound) : Prop := b = ⟨0, 0, true⟩ ∨ (b.Unknown = false ∧ v - 200 ≤ b.Lo ∧ b.Lo ≤ v ∧ v ≤ b.Hi ∧ b.Hi ≤ v + 200)
theorem mosts_at (v : Int) (h : 0 ≤ v ∧ v < 4) : 0 ≤ gt ([0, 3, 30, 200] : List Int) v ∧ gt ([0, 3, 30, 200] : List Int) v ≤ 200 := by
  have : v = 0 ∨ v = 1 ∨ v = 2 ∨ v = 3 := by omega
  rcases this with rfl | rfl | rfl | rfl <;> decide
theorem veil_ok (s : spymake_Stream) (w h : Int) (light : List Int) (holes : Bool) (hs : okS s) (ha : s.at_ ≤ 4611686018427000000) (hn : light.length ≤ 1024) (hl : ∀ x ∈ light, -1000000000000 ≤ x ∧ x ≤ 1000000000000) :
    Has (Stream_Veil s w h light holes) fun r => r.1.W = w ∧ r.1.H = h ∧ r.1.At.length = light.length ∧ allI r.1.At (fun i b => veils (gt light i) b ∧ (holes = false → b.Unknown = false)) ∧ after s r.2 (1 + 3 * light.length) := by
  unfold Stream_Veil
  refine (next_ok s 4 hs (by omega) (by omega)).bind fun r ⟨r1, r2, r3⟩ => ?_
  have hr := r3.ok hs (by omega); have hh := r3.hi
  have hm := mosts_at r.1 ⟨r1, r2⟩
  refine Has.chk ⟨r1, by simpa using r2⟩ ?_
  refine (Has.loop (fun t : spymake_Stream × List Bound × Int => after r.2 t.1 (3 * t.2.2) ∧ 0 ≤ t.2.2 ∧ t.2.2 ≤ light.length ∧ (t.2.1.length : Int) = t.2.2 ∧ allI t.2.1 fun i b => veils (gt light i) b ∧ (holes = false → b.Unknown = false)) (fun t => (light.length - t.2.2).toNat)
    (fun o : spymake_Stream × List Bound => after r.2 o.1 (3 * light.length) ∧ o.2.length = light.length ∧ allI o.2 fun i b => veils (gt light i) b ∧ (holes = false → b.Unknown = false)) ⟨after.refl _, Int.le_refl _, by simp only []; omega, rfl, allI_nil⟩ (by simp only []; omega) fun t ⟨t1, t2, t3, t4, t5⟩ => ?_).bind
    fun o ⟨o1, o2, o3⟩ => Has.ret ⟨rfl, rfl, o2, o3, (r3.trans o1).more (by omega)⟩
  unfold Stream_Veil.l1
  refine Has.ite (fun hc => ?_) fun hc => ?_
  · have hc : t.2.2 < light.length := of_decide_eq_true hc
    have ht := t1.ok hr (by omega); have hht := t1.hi
    have hv := hl _ (gt_mem light t.2.2 ⟨t2, hc⟩)
    generalize gt ([0, 3, 30, 200] : List Int) r.1 = most at *
    rw [w6_in (n := most + 1) (by omega), w6_in (n := t.2.2 + 1) (by omega)]
    refine Has.chk ⟨t2, hc⟩ ((next_ok t.1 (most + 1) ht (by omega) (by omega)).bind fun a ⟨a1, a2, a3⟩ => ?_)
    have hA := a3.ok ht (by omega); have hha := a3.hi
    refine (next_ok a.2 (most + 1) hA (by omega) (by omega)).bind fun b ⟨b1, b2, b3⟩ => ?_
    have hB := b3.ok hA (by omega); have hhb := b3.hi
    rw [w6_in (n := gt light t.2.2 - a.1) (by omega), w6_in (n := gt light t.2.2 + b.1) (by omega)]
    refine Has.bind (P := fun z : spymake_Stream × Bool => after b.2 z.1 1 ∧ (holes = false → z.2 = false)) ?_ fun z ⟨z1, z2⟩ => ?_
    · refine Has.ite (fun hx => ?_) fun hx => Has.ret ⟨(after.refl _).more (by omega), fun _ => rfl⟩
      exact (next_ok b.2 9 hB (by omega) (by omega)).bind fun c ⟨c1, c2, c3⟩ => Has.ret ⟨c3, fun e => by rw [e] at hx; cases hx⟩
    have af : after r.2 z.1 (3 * (t.2.2 + 1)) := (((t1.trans a3).trans b3).trans z1).more (by omega)
    refine Has.ite (fun hz => ?_) fun hz => ?_
    · refine Has.chk (roomyI (by simp; omega) (by simp; omega)) (Has.ret (.next ⟨af, by simp only []; omega, by simp only []; omega, by simp; omega, allI_snoc t5 ⟨.inl rfl, fun e => ?_⟩⟩ (by simp only []; omega)))
      rw [z2 e] at hz; cases hz
    · refine Has.chk (roomyI (by simp; omega) (by simp; omega)) (Has.ret (.next ⟨af, by simp only []; omega, by simp only []; omega, by simp; omega, allI_snoc t5 ⟨.inr ⟨rfl, ?_⟩, fun _ => rfl⟩⟩ (by simp only []; omega)))
      rw [t4]
      simp only []
      omega
  · have hc : ¬ t.2.2 < light.length := fun q => hc (decide_eq_true q)
    have e : t.2.2 = light.length := by omega
    rw [e] at t1 t4
    exact Has.ret (.done ⟨t1, by simp only []; omega, t5⟩)
theorem veils.ok {v : Int} {b : Bound} (h : veils v b) (h1 : -1000000000000 ≤ v) (h2 : v ≤ 1000000000000) : b.ok ∧ -1099511627776 ≤ b.Lo ∧ b.Hi ≤ 1099511627776 := by
  rcases h with rfl | ⟨u, a, b', c, d⟩
  · exact ⟨okNone, by decide, by decide⟩
  · exact ⟨⟨(fun e => by rw [u] at e; cases e), by omega, by omega, by omega⟩, by omega, by omega⟩
end Lf
/- Veiled lights are fields. -/
namespace Lf
open Go Go.Abs
set_option linter.unusedVariables false
set_option linter.unusedSimpArgs false
/-- A veiled light is a field. -/
theorem veil_fld {c : Cells} {lt : List Int} {w h : Int} (z : size w h) (e1 : c.W = w) (e2 : c.H = h) (e3 : c.At.length = lt.length) (e4 : (lt.length : Int) = w * h) (e5 : ∀ z ∈ lt, 0 ≤ z ∧ z ≤ 100000) (e6 : allI c.At fun i b => veils (gt lt i) b) : fld w h c := by
  have e8 : ∀ b ∈ c.At, b.ok ∧ -1099511627776 ≤ b.Lo ∧ b.Hi ≤ 1099511627776 := allI_mem (R := fun b : Bound => b.ok ∧ -1099511627776 ≤ b.Lo ∧ b.Hi ≤ 1099511627776) fun i i0 i1 => by
    have q := e5 _ (gt_mem lt i ⟨i0, by omega⟩)
    exact (e6 i i0 i1).ok (by omega) (by omega)
  exact ⟨⟨by rw [e1]; exact z.w0, by rw [e1]; exact z.w1, by rw [e2]; exact z.h0, by rw [e2]; exact z.h1, by rw [e3, e4, e1, e2], e8⟩, e1, e2⟩
theorem veil_k {c : Cells} {lt : List Int} {i : Int} (i0 : 0 ≤ i) (i1 : i < c.At.length) (e6 : allI c.At fun i b => veils (gt lt i) b) : (unk i c = 1 ∧ klo i c = 0 ∧ khi i c = 0) ∨ (unk i c = 0 ∧ klo i c ≤ gt lt i ∧ gt lt i ≤ khi i c) := by
  unfold unk klo khi
  rcases e6 i i0 i1 with e | ⟨u, a, b, c', d⟩
  · left; rw [e]; simp
  · right; rw [u]; simp only [Bool.false_eq_true, if_false]; exact ⟨trivial, b, c'⟩
end Lf
/- A field is the same as itself. -/
namespace Lf
open Go Go.Abs
set_option linter.unusedVariables false
set_option linter.unusedSimpArgs false
theorem equal_ok (l : List Bound) (hl : l.length ≤ 1000000000) : slices_Equal_Bound l l = some true := by
  apply Has.val
  unfold slices_Equal_Bound
  refine Has.neg (by simp) (Has.seq (P := fun t : Step Unit Bool => t = .next ()) ?_ (fun _ _ => Has.ret rfl) (fun o ho => by cases ho))
  refine Has.loop (fun i : Int => 0 ≤ i ∧ i ≤ l.length) (fun i => (l.length - i).toNat) (fun t : Step Unit Bool => t = .next ()) ⟨Int.le_refl _, by omega⟩ (by omega) fun i ⟨i1, i2⟩ => ?_
  unfold slices_Equal_Bound.l1
  refine Has.ite (fun hi => ?_) fun hi => Has.ret (.done rfl)
  have hi : i < l.length := of_decide_eq_true hi
  rw [w6_in (by omega)]
  exact Has.chk ⟨i1, hi⟩ (Has.chk ⟨i1, hi⟩ (Has.neg (by simp) (Has.ret (.next ⟨by omega, by omega⟩ (by omega)))))
theorem same_ok (c : Cells) (hl : c.At.length ≤ 1000000000) : spykeep4_same c c = some true := by
  unfold spykeep4_same
  rw [equal_ok _ hl]
  simp
end Lf
