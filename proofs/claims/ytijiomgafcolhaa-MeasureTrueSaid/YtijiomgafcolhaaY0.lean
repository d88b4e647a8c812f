/- Laws of the plain functions. Conditions: as each theorem states them. -/
import Derived.Test.YtijiomgafcolhaaD
import Derived.Test.YtijiomgafcolhaaA4
/- Plain facts of streams and bounds, for the functions of MetD. -/
namespace Lf
open Go Go.Abs
set_option linter.unusedVariables false
set_option linter.unusedSimpArgs false
/-! streams -/
/-- What a stream must be. -/
structure okS (s : spymake_Stream) : Prop where
  z : ∀ z ∈ s.L, -9223372036854775808 ≤ z ∧ z ≤ 9223372036854775807
  len : s.L.length ≤ 17592186044416
  a0 : 0 ≤ s.at_
  a1 : s.at_ ≤ 4611686018427387904
theorem okS.start {l : List Int} (h : okL l) : okS (spymake_Stream.mk l 0) := ⟨h.z, by have := h.len; simp only []; omega, Int.le_refl _, by simp only []; omega⟩
/-- What is true of a stream that another one has become. -/
structure after (s t : spymake_Stream) (k : Int) : Prop where
  L : t.L = s.L
  lo : s.at_ ≤ t.at_
  hi : t.at_ ≤ s.at_ + k
theorem after.refl (s : spymake_Stream) : after s s 0 := ⟨rfl, Int.le_refl _, by omega⟩
theorem after.trans {s t u : spymake_Stream} {k m : Int} (h : after s t k) (g : after t u m) : after s u (k + m) := ⟨g.L.trans h.L, Int.le_trans h.lo g.lo, by have := h.hi; have := g.hi; omega⟩
theorem after.more {s t : spymake_Stream} {k m : Int} (h : after s t k) (hk : k ≤ m) : after s t m := ⟨h.L, h.lo, by have := h.hi; omega⟩
theorem after.ok {s t : spymake_Stream} {k : Int} (h : after s t k) (g : okS s) (hk : s.at_ + k ≤ 4611686018427387904) : okS t := ⟨by rw [h.L]; exact g.z, by rw [h.L]; exact g.len, by have := h.lo; have := g.a0; omega, by have := h.hi; omega⟩
theorem below_ok (x n : Int) (hx : -9223372036854775808 ≤ x ∧ x ≤ 9223372036854775807) (hn : 1 ≤ n ∧ n ≤ 9223372036854775807) : Has (spymake_Below x n) fun v => 0 ≤ v ∧ v < n := by
  unfold spymake_Below
  have h1 := Int.lt_tmod_of_pos x (b := n) (by omega)
  have h2 := Int.tmod_lt_of_pos x (b := n) (by omega)
  refine Has.neg (by simp; omega) (Has.chk (by omega) (Has.ite (fun h => Has.ret ?_) fun h => Has.ret ?_))
  · simp only [decide_eq_true_eq] at h; rw [w6_in (by omega)]; omega
  · simp only [decide_eq_true_eq] at h; omega
theorem below_zero (x n : Int) (hn : n ≤ 0) : spymake_Below x n = some 0 := by unfold spymake_Below; rw [if_pos (by simp; omega)]
theorem next_ok (s : spymake_Stream) (n : Int) (hs : okS s) (ha : s.at_ < 4611686018427387904) (hn : 1 ≤ n ∧ n ≤ 9223372036854775807) : Has (Stream_Next s n) fun r => 0 ≤ r.1 ∧ r.1 < n ∧ after s r.2 1 := by
  have h0 := hs.a0
  have hl := hs.len
  have e1 : w6 (s.at_ + 1) = s.at_ + 1 := w6_in (by omega)
  have fin : after s (spymake_Stream.mk s.L (s.at_ + 1)) 1 := ⟨rfl, by simp only []; omega, Int.le_refl _⟩
  unfold Stream_Next
  simp only [e1]
  refine Has.ite (fun hz => ?_) fun hz => ?_
  · exact (below_ok _ n (w6_bd _) hn).bind fun v hv => Has.ret ⟨hv.1, hv.2, fin⟩
  · have hz : s.L.length ≠ 0 := by simpa using hz
    have e2 : w6 (s.at_ + 1 - 1) = s.at_ := by rw [w6_in (by omega)]; omega
    have b1 := Int.tmod_nonneg (s.L.length : Int) hs.a0
    have b2 := Int.tmod_lt_of_pos s.at_ (b := (s.L.length : Int)) (by omega)
    simp only [e2]
    refine Has.chk (by omega) (Has.chk ⟨b1, b2⟩ ?_)
    refine (below_ok _ 1073741824 (hs.z _ (gt_mem _ _ ⟨b1, b2⟩)) (by omega)).bind fun v hv => Has.letF (Has.letF ?_)
    exact (below_ok _ n (w6_bd _) hn).bind fun u hu => Has.ret ⟨hu.1, hu.2, fin⟩
theorem range_ok (s : spymake_Stream) (lo hi : Int) (hs : okS s) (ha : s.at_ < 4611686018427387904) (h : lo ≤ hi) (h1 : -2305843009213693952 ≤ lo) (h2 : hi ≤ 2305843009213693952) : Has (Stream_Range s lo hi) fun r => lo ≤ r.1 ∧ r.1 ≤ hi ∧ after s r.2 1 := by
  unfold Stream_Range
  rw [w6_in (n := hi - lo) (by omega), w6_in (n := hi - lo + 1) (by omega)]
  refine Has.neg (by simp; omega) ((next_ok s (hi - lo + 1) hs ha (by omega)).bind fun r hr => Has.ret ?_)
  rw [w6_in (by omega)]
  exact ⟨by omega, by omega, hr.2.2⟩
end Lf
/- Plain facts of bounds. -/
namespace Lf
open Go Go.Abs
set_option linter.unusedVariables false
set_option linter.unusedSimpArgs false
/-- A valid bound. -/
structure Bound.ok (b : Bound) : Prop where
  u : b.Unknown = true → b.Lo = 0 ∧ b.Hi = 0
  lo : -1152921504606846976 ≤ b.Lo
  le : b.Lo ≤ b.Hi
  hi : b.Hi ≤ 1152921504606846976
theorem check_ok {b : Bound} (h : b.ok) : bound_Check b = some 0 := by
  obtain ⟨h1, h2, h3, h4⟩ := h
  unfold bound_Check
  rw [mn2_le h3, mx2_le h3]
  have e1 : ¬ b.Lo < -1152921504606846976 := by omega
  have e2 : ¬ b.Hi > 1152921504606846976 := by omega
  have e3 : ¬ b.Lo > b.Hi := by omega
  cases hu : b.Unknown with
  | false => simp [e1, e2, e3]
  | true => obtain ⟨q1, q2⟩ := h1 hu; simp [q1, q2]
theorem norm_ok {b : Bound} (h : b.ok) : bound_Norm b = some b := by unfold bound_Norm; rw [check_ok h]; rfl
theorem vague_ok {a b : Bound} (ha : a.ok) (hb : b.ok) : bound_vague a b = some (a.Unknown || b.Unknown) := by
  unfold bound_vague; rw [norm_ok ha, norm_ok hb]; cases h : a.Unknown <;> simp [h]
theorem none_ok : bound_None = some ⟨0, 0, true⟩ := rfl
theorem okNone : Bound.ok ⟨0, 0, true⟩ := ⟨fun _ => ⟨rfl, rfl⟩, by decide, by decide, by decide⟩
theorem okKnown {lo hi : Int} (h1 : -1152921504606846976 ≤ lo) (h2 : lo ≤ hi) (h3 : hi ≤ 1152921504606846976) : Bound.ok ⟨lo, hi, false⟩ := ⟨(fun h => nomatch h), h1, h2, h3⟩
theorem of_ok {lo hi : Int} (h1 : -1152921504606846976 ≤ lo) (h2 : lo ≤ hi) (h3 : hi ≤ 1152921504606846976) : bound_Of lo hi = some ⟨lo, hi, false⟩ := by
  unfold bound_Of; rw [norm_ok (okKnown h1 h2 h3)]; rfl
end Lf
/- Sums over places. -/
namespace Lf
open Go Go.Abs
set_option linter.unusedVariables false
def sumN (f : Int → Int) : Nat → Int
  | 0 => 0
  | n + 1 => sumN f n + f n
theorem sumN_congr {f g : Int → Int} : ∀ {n : Nat}, (∀ j : Int, 0 ≤ j → j < n → f j = g j) → sumN f n = sumN g n
  | 0, _ => rfl
  | n + 1, h => by
    unfold sumN
    rw [sumN_congr fun j j0 j1 => h j j0 (by omega), h n (by omega) (by omega)]
theorem sumN_add (f g : Int → Int) : ∀ n : Nat, sumN (fun j => f j + g j) n = sumN f n + sumN g n
  | 0 => by simp [sumN]
  | n + 1 => by simp only [sumN]; rw [sumN_add f g n]; omega
theorem sumN_zero : ∀ n : Nat, sumN (fun _ => 0) n = 0
  | 0 => rfl
  | n + 1 => by simp only [sumN]; rw [sumN_zero n]; rfl
theorem sumN_mul (c : Int) (f : Int → Int) : ∀ n : Nat, sumN (fun j => c * f j) n = c * sumN f n
  | 0 => by simp [sumN]
  | n + 1 => by simp only [sumN]; rw [sumN_mul c f n, Int.mul_add]
/-- Sums may be taken in either order. -/
theorem sumN_swap (f : Int → Int → Int) (m : Nat) : ∀ n : Nat, sumN (fun i => sumN (fun j => f i j) m) n = sumN (fun j => sumN (fun i => f i j) n) m
  | 0 => by simp only [sumN]; exact (sumN_zero m).symm
  | n + 1 => by
    simp only [sumN]
    rw [sumN_swap f m n, ← sumN_add]
/-- A sum of which one place counts. -/
theorem sumN_one (k x : Int) (h0 : 0 ≤ k) : ∀ n : Nat, sumN (fun m => if m = k then x else 0) n = if k < n then x else 0
  | 0 => by simp only [sumN]; rw [if_neg (by omega)]
  | n + 1 => by
    simp only [sumN]
    rw [sumN_one k x h0 n]
    by_cases h : k < n
    · rw [if_pos h, if_neg (by omega), if_pos (by omega)]; omega
    · rw [if_neg h]
      by_cases e : (n : Int) = k
      · rw [if_pos e, if_pos (by omega)]; omega
      · rw [if_neg e, if_neg (by omega)]; rfl
end Lf
/- Quotients rounded up. -/
namespace Lf
open Go Go.Abs
set_option linter.unusedVariables false
set_option linter.unusedSimpArgs false
theorem neg_div (m d : Int) (hd : 0 < d) : (m % d = 0 ∧ (-m) / d = -(m / d) ∧ (-m) % d = 0) ∨ (0 < m % d ∧ (-m) / d = -(m / d) - 1 ∧ (-m) % d = d - m % d) := by
  have h1 := Int.mul_ediv_add_emod m d
  have h2 := Int.emod_nonneg m (b := d) (by omega)
  have h3 := Int.emod_lt_of_pos m hd
  by_cases h : m % d = 0
  · left
    have := (Int.ediv_emod_unique hd (a := -m) (q := -(m / d)) (r := 0)).2 ⟨by rw [Int.mul_neg]; omega, by omega, by omega⟩
    exact ⟨h, this.1, this.2⟩
  · right
    have := (Int.ediv_emod_unique hd (a := -m) (q := -(m / d) - 1) (r := d - m % d)).2 ⟨by rw [Int.mul_sub, Int.mul_neg]; omega, by omega, by omega⟩
    exact ⟨by omega, this.1, this.2⟩
def cdiv (x d : Int) : Int := -((-x) / d)
theorem cdiv_up {x d : Int} (hd : 0 < d) : (x % d = 0 → cdiv x d = x / d) ∧ (0 < x % d → cdiv x d = x / d + 1) := by
  unfold cdiv
  rcases neg_div x d hd with ⟨a, b, c⟩ | ⟨a, b, c⟩
  · exact ⟨fun _ => by omega, fun h => by omega⟩
  · exact ⟨fun h => by omega, fun _ => by omega⟩
theorem cdiv_mono {x y d : Int} (hd : 0 < d) (h : x ≤ y) : cdiv x d ≤ cdiv y d := by
  unfold cdiv
  have := Int.ediv_le_ediv hd (show -y ≤ -x by omega)
  omega
theorem fl_le_ce {x d : Int} (hd : 0 < d) : x / d ≤ cdiv x d ∧ cdiv x d ≤ x / d + 1 := by
  unfold cdiv
  rcases neg_div x d hd with ⟨a, b, c⟩ | ⟨a, b, c⟩ <;> omega
theorem cdiv_le {x d g : Int} (hd : 0 < d) : cdiv x d ≤ g ↔ x ≤ g * d := by
  unfold cdiv
  have h := Int.le_ediv_iff_mul_le (a := -g) (b := -x) hd
  rw [Int.neg_mul] at h
  omega
end Lf
/- The mean of places whose weights are known within bounds. -/
namespace Lf
open Go Go.Abs
set_option linter.unusedVariables false
set_option linter.unusedSimpArgs false
theorem sumN_le {f g : Int → Int} : ∀ {n : Nat}, (∀ j : Int, 0 ≤ j → j < n → f j ≤ g j) → sumN f n ≤ sumN g n
  | 0, _ => Int.le_refl _
  | n + 1, h => by
    have i := sumN_le (n := n) fun j j0 j1 => h j j0 (by omega)
    have k := h n (by omega) (by omega)
    simp only [sumN]; omega
theorem sumN_nn {f : Int → Int} {n : Nat} (h : ∀ j : Int, 0 ≤ j → j < n → 0 ≤ f j) : 0 ≤ sumN f n := by
  have := sumN_le (f := fun _ => 0) (g := f) h
  rw [sumN_zero] at this; exact this
theorem sumN_at {f : Int → Int} : ∀ {n : Nat} {k : Int}, (∀ j : Int, 0 ≤ j → j < n → 0 ≤ f j) → 0 ≤ k → k < n → f k ≤ sumN f n
  | 0, k, h, k0, k1 => by omega
  | n + 1, k, h, k0, k1 => by
    simp only [sumN]
    by_cases e : k = n
    · rw [e]; have := sumN_nn (f := f) (n := n) fun j j0 j1 => h j j0 (by omega); omega
    · have := sumN_at (n := n) (k := k) (fun j j0 j1 => h j j0 (by omega)) k0 (by omega)
      have := h n (by omega) (by omega)
      omega
theorem sumN_sub (f g : Int → Int) (n : Nat) : sumN (fun j => f j - g j) n = sumN f n - sumN g n := by
  induction n with
  | zero => rfl
  | succ n ih => simp only [sumN]; rw [ih]; omega
/-- The weight that makes the mean great, of place i, for a cut at place c. -/
def qW (a : List Int) (v : List Bound) (c i : Int) : Int := if gt a i > gt a c then (gt v i).Hi else (gt v i).Lo
def gS (a : List Int) (v : List Bound) (c : Int) (n : Nat) : Int := sumN (fun i => qW a v c i * gt a i) n
def gW (a : List Int) (v : List Bound) (c : Int) (n : Nat) : Int := sumN (qW a v c) n
structure okA (a : List Int) (v : List Bound) : Prop where
  len : v.length = a.length
  n0 : 1 ≤ a.length
  n1 : a.length ≤ 441
  a : allI a fun _ x => -8191 ≤ x ∧ x ≤ 8191
  v : allI v fun _ b => b.ok ∧ b.Unknown = false ∧ 0 ≤ b.Lo ∧ b.Hi ≤ 2199023255552
theorem qW_bd {a : List Int} {v : List Bound} (h : okA a v) {c i : Int} (i0 : 0 ≤ i) (i1 : i < a.length) : (gt v i).Lo ≤ qW a v c i ∧ qW a v c i ≤ (gt v i).Hi ∧ 0 ≤ qW a v c i ∧ qW a v c i ≤ 2199023255552 := by
  obtain ⟨o, _, l, u⟩ := h.v i i0 (by have := h.len; omega)
  have := o.le
  unfold qW
  split <;> omega
theorem qa_bd {q x : Int} (q0 : 0 ≤ q) (q1 : q ≤ 2199023255552) (x0 : -8191 ≤ x) (x1 : x ≤ 8191) : -18012199486226432 ≤ q * x ∧ q * x ≤ 18012199486226432 := by
  have p := Int.mul_le_mul_of_nonneg_left x1 q0
  have r := Int.mul_le_mul_of_nonneg_left x0 q0
  have s := Int.mul_le_mul_of_nonneg_right q1 (show (0 : Int) ≤ 8191 by decide)
  omega
theorem gS_bd {a : List Int} {v : List Bound} (h : okA a v) (c : Int) : ∀ n : Nat, n ≤ a.length → (-(n * 18012199486226432) ≤ gS a v c n ∧ gS a v c n ≤ n * 18012199486226432) ∧ (0 ≤ gW a v c n ∧ gW a v c n ≤ n * 2199023255552)
  | 0, _ => by simp [gS, gW, sumN]
  | n + 1, hn => by
    obtain ⟨p, q⟩ := gS_bd h c n (by omega)
    obtain ⟨_, _, w0, w1⟩ := qW_bd h (c := c) (i := n) (by omega) (by omega)
    obtain ⟨x0, x1⟩ := h.a n (by omega) (by omega)
    have m := qa_bd w0 w1 x0 x1
    unfold gS gW at *
    simp only [sumN]
    rw [show ((n + 1 : Nat) : Int) = n + 1 from by omega, Int.add_mul, Int.add_mul]
    omega
theorem ceilDiv_ok {a b : Int} (ha : -9223372036854775807 ≤ a ∧ a ≤ 9223372036854775806) (hb : 1 ≤ b) : num_CeilDiv a b = some (cdiv a b) := by
  apply Has.val
  unfold num_CeilDiv
  refine Has.neg (by simp; omega) (Has.chk (by omega) ?_)
  obtain ⟨u1, u2⟩ := cdiv_up (x := a) (d := b) (by omega)
  have m0 := Int.emod_nonneg a (b := b) (by omega)
  have m1 := Int.emod_lt_of_pos a (b := b) (by omega)
  rcases Int.le_total 0 a with h | h
  · have d0 := Int.ediv_nonneg h (show 0 ≤ b by omega)
    have d1 := Int.ediv_le_self b h
    rw [Int.tmod_eq_emod_of_nonneg h, Int.tdiv_eq_ediv_of_nonneg h, w6_in (n := a / b) (by omega)]
    refine Has.ite (fun q => ?_) fun q => ?_
    · have q : a % b > 0 := of_decide_eq_true q
      rw [w6_in (by omega), u2 q]; exact Has.ret rfl
    · have q : ¬ a % b > 0 := fun x => q (decide_eq_true x)
      rw [u1 (by omega)]; exact Has.ret rfl
  · have e : Int.tdiv a b = -((-a) / b) := by rw [← Int.tdiv_eq_ediv_of_nonneg (a := -a) (by omega), Int.neg_tdiv, Int.neg_neg]
    have e2 : Int.tmod a b ≤ 0 := by
      have := Int.tmod_nonneg b (a := -a) (by omega)
      rw [Int.neg_tmod] at this; omega
    have d0 := Int.ediv_nonneg (a := -a) (by omega) (show 0 ≤ b by omega)
    have d1 := Int.ediv_le_self b (a := -a) (by omega)
    refine Has.neg (by simp; omega) ?_
    rw [e, w6_in (by omega)]
    exact Has.ret rfl
/-- The greatest mean. -/
structure isGr (a : List Int) (v : List Bound) (g : Int) : Prop where
  all : ∀ c : Int, 0 ≤ c → c < a.length → cdiv (gS a v c a.length) (gW a v c a.length) ≤ g
  ex : ∃ c : Int, 0 ≤ c ∧ c < a.length ∧ g = cdiv (gS a v c a.length) (gW a v c a.length)
theorem gW_pos {a : List Int} {v : List Bound} (h : okA a v) (hs : ∃ k : Int, 0 ≤ k ∧ k < v.length ∧ 0 < (gt v k).Lo) (c : Int) : 1 ≤ gW a v c a.length := by
  obtain ⟨k, k0, k1, k2⟩ := hs
  have hl := h.len
  have q := qW_bd h (c := c) k0 (by omega)
  have := sumN_at (f := qW a v c) (n := a.length) (k := k) (fun j j0 j1 => (qW_bd h (c := c) j0 (by omega)).2.2.1) k0 (by omega)
  unfold gW; omega
theorem cd_bd {a : List Int} {v : List Bound} (h : okA a v) {c : Int} (hw : 1 ≤ gW a v c a.length) : -8191 ≤ cdiv (gS a v c a.length) (gW a v c a.length) ∧ cdiv (gS a v c a.length) (gW a v c a.length) ≤ 8191 := by
  have q := fun (j : Int) j0 j1 => qW_bd h (c := c) (i := j) j0 j1
  have up : gS a v c a.length ≤ 8191 * gW a v c a.length := by
    unfold gS gW; rw [← sumN_mul]
    refine sumN_le fun j j0 j1 => ?_
    have x := h.a j j0 j1
    have := Int.mul_le_mul_of_nonneg_left x.2 (q j j0 j1).2.2.1
    rw [Int.mul_comm 8191]; exact this
  have lo : -8191 * gW a v c a.length ≤ gS a v c a.length := by
    unfold gS gW; rw [← sumN_mul]
    refine sumN_le fun j j0 j1 => ?_
    have x := h.a j j0 j1
    have := Int.mul_le_mul_of_nonneg_left x.1 (q j j0 j1).2.2.1
    rw [Int.mul_comm (-8191)]; exact this
  refine ⟨?_, (cdiv_le (by omega)).2 up⟩
  rcases Int.lt_or_le (cdiv (gS a v c a.length) (gW a v c a.length)) (-8191) with hc | hc
  · have := (cdiv_le (x := gS a v c a.length) (d := gW a v c a.length) (g := -8192) (by omega)).1 (by omega)
    omega
  · exact hc
theorem greatest_ok {a : List Int} {v : List Bound} (h : okA a v) (hs : ∃ k : Int, 0 ≤ k ∧ k < v.length ∧ 0 < (gt v k).Lo) : Has (measure_greatest a v) fun g => isGr a v g ∧ -8191 ≤ g ∧ g ≤ 8191 := by
  have n0 := h.n0; have n1 := h.n1; have hl := h.len
  unfold measure_greatest
  refine Has.bind (P := fun g => isGr a v g ∧ -8191 ≤ g ∧ g ≤ 8191) ?_ fun g hg => Has.ret hg
  refine Has.loop (fun s : Int × Int => 0 ≤ s.2 ∧ s.2 ≤ a.length ∧ (∀ c : Int, 0 ≤ c → c < s.2 → cdiv (gS a v c a.length) (gW a v c a.length) ≤ s.1) ∧ ((s.2 = 0 ∧ s.1 = -4611686018427387904) ∨ ∃ c : Int, 0 ≤ c ∧ c < s.2 ∧ s.1 = cdiv (gS a v c a.length) (gW a v c a.length))) (fun s => (a.length - s.2).toNat) _ ⟨Int.le_refl _, by simp only []; omega, fun c c0 c1 => by simp only [] at c1; omega, .inl ⟨rfl, rfl⟩⟩ (by simp only []; omega) fun s ⟨s0, s1, s2, s3⟩ => ?_
  unfold measure_greatest.l1
  refine Has.ite (fun hi => ?_) fun hi => ?_
  · have hi : s.2 < a.length := of_decide_eq_true hi
    refine Has.chk ⟨s0, hi⟩ (Has.bind (P := fun z : Int × Int => z = (gS a v s.2 a.length, gW a v s.2 a.length)) ?_ fun z hz => ?_)
    · refine Has.loop (fun t : Int × Int × Int => 0 ≤ t.2.2 ∧ t.2.2 ≤ a.length ∧ t.1 = gS a v s.2 t.2.2.toNat ∧ t.2.1 = gW a v s.2 t.2.2.toNat) (fun t => (a.length - t.2.2).toNat) _ ⟨Int.le_refl _, by simp only []; omega, rfl, rfl⟩ (by simp only []; omega) fun t ⟨t0, t1, t2, t3⟩ => ?_
      unfold measure_greatest.l2
      refine Has.ite (fun hj => ?_) fun hj => ?_
      · have hj : t.2.2 < v.length := of_decide_eq_true hj
        have es : (t.2.2 + 1).toNat = t.2.2.toNat + 1 := by omega
        have en : ((t.2.2.toNat : Nat) : Int) = t.2.2 := by omega
        obtain ⟨b1, b2⟩ := gS_bd h s.2 t.2.2.toNat (by omega)
        obtain ⟨x0, x1⟩ := h.a t.2.2 t0 (by omega)
        obtain ⟨o, _, l, u⟩ := h.v t.2.2 t0 hj
        have ole := o.le
        have mh := qa_bd (q := (gt v t.2.2).Hi) (by omega) (by omega) x0 x1
        have ml := qa_bd (q := (gt v t.2.2).Lo) (by omega) (by omega) x0 x1
        rw [en] at b1 b2
        have f1 : t.2.2 * 18012199486226432 ≤ 440 * 18012199486226432 := Int.mul_le_mul_of_nonneg_right (by omega) (by decide)
        have f2 : t.2.2 * 2199023255552 ≤ 440 * 2199023255552 := Int.mul_le_mul_of_nonneg_right (by omega) (by decide)
        refine Has.chk ⟨t0, hj⟩ (Has.chk ⟨t0, by omega⟩ (Has.ite (fun hc => ?_) fun hc => ?_))
        · have hc : gt a t.2.2 > gt a s.2 := of_decide_eq_true hc
          rw [t2, t3, w6_in (n := (gt v t.2.2).Hi * gt a t.2.2) (by omega), w6_in (n := gS a v s.2 t.2.2.toNat + (gt v t.2.2).Hi * gt a t.2.2) (by omega), w6_in (n := gW a v s.2 t.2.2.toNat + (gt v t.2.2).Hi) (by omega), w6_in (n := t.2.2 + 1) (by omega)]
          have eq : qW a v s.2 t.2.2 = (gt v t.2.2).Hi := by unfold qW; rw [if_pos hc]
          refine Has.ret (.next ⟨by simp only []; omega, by simp only []; omega, ?_, ?_⟩ (by simp only []; omega))
          · simp only [es]; unfold gS; rw [sumN, en, eq]
          · simp only [es]; unfold gW; rw [sumN, en, eq]
        · have hc : ¬ gt a t.2.2 > gt a s.2 := fun q => hc (decide_eq_true q)
          rw [t2, t3, w6_in (n := (gt v t.2.2).Lo * gt a t.2.2) (by omega), w6_in (n := gS a v s.2 t.2.2.toNat + (gt v t.2.2).Lo * gt a t.2.2) (by omega), w6_in (n := gW a v s.2 t.2.2.toNat + (gt v t.2.2).Lo) (by omega), w6_in (n := t.2.2 + 1) (by omega)]
          have eq : qW a v s.2 t.2.2 = (gt v t.2.2).Lo := by unfold qW; rw [if_neg hc]
          refine Has.ret (.next ⟨by simp only []; omega, by simp only []; omega, ?_, ?_⟩ (by simp only []; omega))
          · simp only [es]; unfold gS; rw [sumN, en, eq]
          · simp only [es]; unfold gW; rw [sumN, en, eq]
      · have hj : ¬ t.2.2 < v.length := fun q => hj (decide_eq_true q)
        have e : t.2.2.toNat = a.length := by omega
        refine Has.ret (.done ?_)
        rw [t2, t3, e]
    · rw [hz]
      simp only []
      have hw := gW_pos h hs s.2
      obtain ⟨b1, b2⟩ := gS_bd h s.2 a.length (Nat.le_refl _)
      have f1 : (a.length : Int) * 18012199486226432 ≤ 441 * 18012199486226432 := Int.mul_le_mul_of_nonneg_right (by omega) (by decide)
      have cb := cd_bd h hw
      rw [ceilDiv_ok (by omega) hw, w6_in (by omega)]
      simp only [Option.bind_some]
      refine Has.ret (.next ⟨by simp only []; omega, by simp only []; omega, fun c c0 c1 => ?_, .inr ?_⟩ (by simp only []; omega))
      · simp only [] at c1 ⊢
        by_cases e : c = s.2
        · rw [e]; rcases mx2_def s.1 (cdiv (gS a v s.2 a.length) (gW a v s.2 a.length)) with ⟨e, h⟩ | ⟨e, h⟩ <;> rw [e] <;> omega
        · have := s2 c c0 (by omega)
          rcases mx2_def s.1 (cdiv (gS a v s.2 a.length) (gW a v s.2 a.length)) with ⟨e, h⟩ | ⟨e, h⟩ <;> rw [e] <;> omega
      · simp only []
        rcases mx2_def s.1 (cdiv (gS a v s.2 a.length) (gW a v s.2 a.length)) with ⟨e, hm⟩ | ⟨e, hm⟩
        · rcases s3 with ⟨_, e1⟩ | ⟨c, c0, c1, e1⟩
          · omega
          · exact ⟨c, c0, by omega, by rw [e]; exact e1⟩
        · exact ⟨s.2, s0, by omega, e⟩
  · have hi : ¬ s.2 < a.length := fun q => hi (decide_eq_true q)
    have e : s.2 = a.length := by omega
    rcases s3 with ⟨e1, _⟩ | ⟨c, c0, c1, e1⟩
    · omega
    · have hw := gW_pos h hs c
      refine Has.ret (.done ⟨⟨fun c c0 c1 => s2 c c0 (by omega), c, c0, by omega, e1⟩, ?_⟩)
      rw [e1]; exact cd_bd h hw
/-- Of the places at or below a number, one that is farthest up. -/
theorem top_below (a : List Int) (g : Int) : ∀ n : Nat, n ≤ a.length → (∀ i : Int, 0 ≤ i → i < n → g < gt a i) ∨ ∃ c : Int, 0 ≤ c ∧ c < n ∧ gt a c ≤ g ∧ ∀ i : Int, 0 ≤ i → i < n → gt a i ≤ g → gt a i ≤ gt a c
  | 0, _ => .inl fun i i0 i1 => by omega
  | n + 1, hn => by
    rcases top_below a g n (by omega) with h | ⟨c, c0, c1, c2, c3⟩
    · by_cases hg : gt a n ≤ g
      · refine .inr ⟨n, by omega, by omega, hg, fun i i0 i1 hi => ?_⟩
        by_cases e : i = n
        · rw [e]; exact Int.le_refl _
        · have := h i i0 (by omega); omega
      · refine .inl fun i i0 i1 => ?_
        by_cases e : i = n
        · rw [e]; omega
        · exact h i i0 (by omega)
    · by_cases hg : gt a n ≤ g ∧ gt a c < gt a n
      · refine .inr ⟨n, by omega, by omega, hg.1, fun i i0 i1 hi => ?_⟩
        by_cases e : i = n
        · rw [e]; exact Int.le_refl _
        · have := c3 i i0 (by omega) hi; omega
      · refine .inr ⟨c, c0, by omega, c2, fun i i0 i1 hi => ?_⟩
        by_cases e : i = n
        · rw [e] at hi ⊢; omega
        · exact c3 i i0 (by omega) hi
/-- No weights have a greater mean. -/
theorem mean_le {a : List Int} {v : List Bound} (h : okA a v) (hs : ∃ k : Int, 0 ≤ k ∧ k < v.length ∧ 0 < (gt v k).Lo) {g : Int} (hg : isGr a v g) (w : Int → Int) (hw : ∀ i : Int, 0 ≤ i → i < a.length → (gt v i).Lo ≤ w i ∧ w i ≤ (gt v i).Hi) :
    sumN (fun i => w i * gt a i) a.length ≤ g * sumN w a.length := by
  have n0 := h.n0; have hl := h.len
  have dif : ∀ q : Int → Int, sumN (fun i => q i * gt a i) a.length - g * sumN q a.length = sumN (fun i => q i * (gt a i - g)) a.length := fun q => by
    rw [← sumN_mul, ← sumN_sub]
    refine sumN_congr fun i _ _ => ?_
    rw [Int.mul_sub, Int.mul_comm g]
  have key : ∀ c : Int, 0 ≤ c → c < a.length → sumN (fun i => qW a v c i * (gt a i - g)) a.length ≤ 0 := fun c c0 c1 => by
    have hp := gW_pos h hs c
    have := (cdiv_le (by omega)).1 (hg.all c c0 c1)
    have d := dif (qW a v c)
    unfold gS gW at this
    omega
  have main : sumN (fun i => w i * (gt a i - g)) a.length ≤ 0 := by
    rcases top_below a g a.length (Nat.le_refl _) with ht | ⟨c, c0, c1, c2, c3⟩
    · exfalso
      obtain ⟨k, k0, k1, k2⟩ := hs
      have z := key 0 (Int.le_refl _) (by omega)
      have nn : ∀ j : Int, 0 ≤ j → j < a.length → 0 ≤ qW a v 0 j * (gt a j - g) := fun j j0 j1 => Int.mul_nonneg (qW_bd h j0 j1).2.2.1 (by have := ht j j0 j1; omega)
      have s := sumN_at (f := fun i => qW a v 0 i * (gt a i - g)) (n := a.length) (k := k) nn k0 (by omega)
      have p := Int.mul_pos (show 0 < qW a v 0 k by have := (qW_bd h (c := 0) k0 (show k < a.length by omega)).1; omega) (show 0 < gt a k - g by have := ht k k0 (by omega); omega)
      omega
    · have z := key c c0 c1
      have s := sumN_le (f := fun i => w i * (gt a i - g)) (g := fun i => qW a v c i * (gt a i - g)) (n := a.length) fun j j0 j1 => by
        obtain ⟨w0, w1⟩ := hw j j0 j1
        by_cases hj : gt a j ≤ g
        · have e : qW a v c j = (gt v j).Lo := by unfold qW; rw [if_neg (by have := c3 j j0 j1 hj; omega)]
          rw [e]
          exact Int.mul_le_mul_of_nonpos_right w0 (by omega)
        · have e : qW a v c j = (gt v j).Hi := by unfold qW; rw [if_pos (by omega)]
          rw [e]
          exact Int.mul_le_mul_of_nonneg_right w1 (by omega)
      omega
  have d := dif w
  omega
end Lf
/- Bounds as plain values: what each operation gives at whatever valid bounds. -/
namespace Lf
open Go Go.Abs
set_option linter.unusedVariables false
set_option linter.unusedSimpArgs false
def noneZ : Bound := ⟨0, 0, true⟩
def ofZ (lo hi : Int) : Bound := if lo ≤ hi ∧ -1152921504606846976 ≤ lo ∧ hi ≤ 1152921504606846976 then ⟨lo, hi, false⟩ else noneZ
theorem ofZ_eq (lo hi : Int) : bound_Of lo hi = some (ofZ lo hi) := by
  by_cases h : lo ≤ hi ∧ -1152921504606846976 ≤ lo ∧ hi ≤ 1152921504606846976
  · unfold ofZ; rw [if_pos h]; exact of_ok h.2.1 h.1 h.2.2
  · unfold ofZ; rw [if_neg h]
    have c : ∃ e, bound_Check ⟨lo, hi, false⟩ = some e ∧ e ≠ 0 := by
      unfold bound_Check
      simp only []
      by_cases h0 : lo ≤ hi
      · rw [mn2_le h0, mx2_le h0]
        by_cases g1 : lo < -1152921504606846976
        · exact ⟨4, by simp [g1], by decide⟩
        · have g2 : hi > 1152921504606846976 := by omega
          exact ⟨4, by simp [g1, g2], by decide⟩
      · rw [mn2_ge (by omega), mx2_ge (by omega)]
        have g0 : lo > hi := by omega
        by_cases g1 : hi < -1152921504606846976
        · exact ⟨4, by simp [g1], by decide⟩
        · by_cases g2 : lo > 1152921504606846976
          · exact ⟨4, by simp [g1, g2], by decide⟩
          · exact ⟨11, by simp [g0, g1, g2], by decide⟩
    obtain ⟨e, e1, e2⟩ := c
    unfold bound_Of bound_Norm
    rw [e1]
    simp [e2, bound_None, noneZ]
theorem ofZ_ok (lo hi : Int) : (ofZ lo hi).ok := by
  unfold ofZ
  split
  · rename_i h; exact ⟨(fun e => nomatch e), h.2.1, h.1, h.2.2⟩
  · exact okNone
theorem noneZ_ok : noneZ.ok := okNone
def addZ (a b : Bound) : Bound := if (a.Unknown || b.Unknown) = true then noneZ else ofZ (a.Lo + b.Lo) (a.Hi + b.Hi)
theorem addZ_eq {a b : Bound} (ha : a.ok) (hb : b.ok) : bound_Add a b = some (addZ a b) := by
  have := ha.lo; have := ha.le; have := ha.hi; have := hb.lo; have := hb.le; have := hb.hi
  unfold bound_Add addZ
  rw [vague_ok ha hb, w6_in (by omega), w6_in (by omega), ofZ_eq]
  simp only [Option.bind_some]
  split <;> rfl
theorem addZ_ok (a b : Bound) : (addZ a b).ok := by
  unfold addZ; split
  · exact noneZ_ok
  · exact ofZ_ok _ _
def negZ (b : Bound) : Bound := ⟨-b.Hi, -b.Lo, b.Unknown⟩
theorem negZ_ok {b : Bound} (h : b.ok) : (negZ b).ok := by
  obtain ⟨h1, h2, h3, h4⟩ := h
  exact ⟨fun e => by obtain ⟨p, q⟩ := h1 e; simp [negZ, p, q], by simp only [negZ]; omega, by simp only [negZ]; omega, by simp only [negZ]; omega⟩
/-- Everything that one bound admits is admitted by another one. -/
def inZ (a b : Bound) : Prop := b.Unknown = true ∨ (a.Unknown = false ∧ b.Lo ≤ a.Lo ∧ a.Hi ≤ b.Hi)
def hasZ (b : Bound) (v : Int) : Prop := b.Unknown = true ∨ (b.Lo ≤ v ∧ v ≤ b.Hi)
theorem hasZ_none (v : Int) : hasZ noneZ v := .inl rfl
theorem hasZ_of {lo hi v : Int} (h1 : lo ≤ v) (h2 : v ≤ hi) : hasZ (ofZ lo hi) v := by
  unfold ofZ; split
  · exact .inr ⟨h1, h2⟩
  · exact hasZ_none v
theorem hasZ_add {a b : Bound} {x y : Int} (ha : hasZ a x) (hb : hasZ b y) : hasZ (addZ a b) (x + y) := by
  unfold addZ; split
  · exact hasZ_none _
  · rename_i h
    have h : a.Unknown = false ∧ b.Unknown = false := by simpa using h
    rcases ha with e | ha
    · rw [h.1] at e; cases e
    · rcases hb with e | hb
      · rw [h.2] at e; cases e
      · exact hasZ_of (by omega) (by omega)
theorem hasZ_neg {b : Bound} {x : Int} (h : hasZ b x) : hasZ (negZ b) (-x) := by
  rcases h with e | h
  · exact .inl e
  · exact .inr ⟨by simp only [negZ]; omega, by simp only [negZ]; omega⟩
theorem exactZ {v : Int} (h1 : -1152921504606846976 ≤ v) (h2 : v ≤ 1152921504606846976) : ofZ v v = ⟨v, v, false⟩ := by unfold ofZ; rw [if_pos ⟨Int.le_refl _, h1, h2⟩]
theorem inZ_refl (a : Bound) : inZ a a := by
  cases h : a.Unknown with
  | true => exact .inl h
  | false => exact .inr ⟨h, Int.le_refl _, Int.le_refl _⟩
theorem inZ_none (a : Bound) : inZ a noneZ := .inl rfl
theorem inZ.trans {a b c : Bound} (h : inZ a b) (k : inZ b c) : inZ a c := by
  rcases k with k | ⟨k1, k2, k3⟩
  · exact .inl k
  · rcases h with h | ⟨h1, h2, h3⟩
    · rw [h] at k1; cases k1
    · exact .inr ⟨h1, by omega, by omega⟩
theorem inZ.has {a b : Bound} {v : Int} (h : inZ a b) (k : hasZ a v) : hasZ b v := by
  rcases h with h | ⟨h1, h2, h3⟩
  · exact .inl h
  · rcases k with k | k
    · rw [h1] at k; cases k
    · exact .inr ⟨by omega, by omega⟩
theorem inZ_of {lo hi lo' hi' : Int} (h : lo' ≤ hi') (h1 : lo ≤ lo') (h2 : hi' ≤ hi) : inZ (ofZ lo' hi') (ofZ lo hi) := by
  unfold ofZ
  by_cases g : lo ≤ hi ∧ -1152921504606846976 ≤ lo ∧ hi ≤ 1152921504606846976
  · rw [if_pos g, if_pos (by omega)]; exact .inr ⟨rfl, h1, h2⟩
  · rw [if_neg g]; exact inZ_none _
theorem inZ_add {a b a' b' : Bound} (oa : a'.ok) (ob : b'.ok) (ha : inZ a' a) (hb : inZ b' b) : inZ (addZ a' b') (addZ a b) := by
  unfold addZ
  by_cases h : (a.Unknown || b.Unknown) = true
  · rw [if_pos h]; exact inZ_none _
  · rw [if_neg h]
    have h : a.Unknown = false ∧ b.Unknown = false := by simpa using h
    rcases ha with e | ⟨u1, ha⟩
    · rw [h.1] at e; cases e
    · rcases hb with e | ⟨u2, hb⟩
      · rw [h.2] at e; cases e
      · rw [if_neg (by simp [u1, u2])]
        have := oa.le; have := ob.le
        exact inZ_of (by omega) (by omega) (by omega)
theorem inZ_neg {a b : Bound} (h : inZ a b) : inZ (negZ a) (negZ b) := by
  rcases h with e | ⟨h1, h2, h3⟩
  · exact .inl e
  · exact .inr ⟨h1, by simp only [negZ]; omega, by simp only [negZ]; omega⟩
end Lf
/- Differences of bounds, as plain values. -/
namespace Lf
open Go Go.Abs
set_option linter.unusedVariables false
set_option linter.unusedSimpArgs false
theorem negZ_eq {b : Bound} (h : b.ok) : bound_Neg b = some (negZ b) := by
  obtain ⟨h1, h2, h3, h4⟩ := h
  unfold bound_Neg
  rw [norm_ok ⟨h1, h2, h3, h4⟩]
  simp only [Option.bind_some, Int.zero_sub]
  rw [w6_in (by omega), w6_in (by omega)]
  rfl
def subZ (a b : Bound) : Bound := addZ a (negZ b)
theorem subZ_eq {a b : Bound} (ha : a.ok) (hb : b.ok) : bound_Sub a b = some (subZ a b) := by
  unfold bound_Sub
  rw [negZ_eq hb]
  simp only [Option.bind_some]
  rw [addZ_eq ha (negZ_ok hb)]; rfl
theorem subZ_ok (a b : Bound) : (subZ a b).ok := addZ_ok _ _
theorem hasZ_sub {a b : Bound} {x y : Int} (ha : hasZ a x) (hb : hasZ b y) : hasZ (subZ a b) (x - y) := by
  have := hasZ_add ha (hasZ_neg hb)
  rw [Int.sub_eq_add_neg]; exact this
theorem inZ_sub {a b a' b' : Bound} (oa : a'.ok) (ob : b'.ok) (ha : inZ a' a) (hb : inZ b' b) : inZ (subZ a' b') (subZ a b) := inZ_add oa (negZ_ok ob) ha (inZ_neg hb)
end Lf
/- Smaller ones and greater ones of bounds, as plain values. -/
namespace Lf
open Go Go.Abs
set_option linter.unusedVariables false
set_option linter.unusedSimpArgs false
theorem mn2_min (a b : Int) : mn2 a b = min a b := by rcases mn2_def a b with ⟨e, h⟩ | ⟨e, h⟩ <;> rw [e] <;> omega
theorem mx2_max (a b : Int) : mx2 a b = max a b := by rcases mx2_def a b with ⟨e, h⟩ | ⟨e, h⟩ <;> rw [e] <;> omega
def minZ (a b : Bound) : Bound := if (a.Unknown || b.Unknown) = true then noneZ else ofZ (min a.Lo b.Lo) (min a.Hi b.Hi)
theorem minZ_ok (a b : Bound) : (minZ a b).ok := by
  unfold minZ; split
  · exact noneZ_ok
  · exact ofZ_ok _ _
theorem minZ_eq {a b : Bound} (ha : a.ok) (hb : b.ok) : bound_Min a b = some (minZ a b) := by
  unfold bound_Min minZ
  rw [vague_ok ha hb, mn2_min, mn2_min, ofZ_eq]
  simp only [Option.bind_some]
  split <;> rfl
def maxZ (a b : Bound) : Bound := negZ (minZ (negZ a) (negZ b))
theorem maxZ_ok {a b : Bound} : (maxZ a b).ok := negZ_ok (minZ_ok _ _)
theorem maxZ_eq {a b : Bound} (ha : a.ok) (hb : b.ok) : bound_Max a b = some (maxZ a b) := by
  unfold bound_Max
  rw [negZ_eq ha, negZ_eq hb]
  simp only [Option.bind_some]
  rw [minZ_eq (negZ_ok ha) (negZ_ok hb)]
  simp only [Option.bind_some]
  rw [negZ_eq (minZ_ok _ _)]; rfl
end Lf
/- Sums of bounds; what both admit. -/
namespace Lf
open Go Go.Abs
set_option linter.unusedVariables false
set_option linter.unusedSimpArgs false
theorem add_known {a b : Bound} (ha : a.ok) (hb : b.ok) (ua : a.Unknown = false) (ub : b.Unknown = false) (h1 : -1152921504606846976 ≤ a.Lo + b.Lo) (h2 : a.Hi + b.Hi ≤ 1152921504606846976) : bound_Add a b = some ⟨a.Lo + b.Lo, a.Hi + b.Hi, false⟩ := by
  have := ha.le; have := hb.le
  unfold bound_Add
  rw [vague_ok ha hb, ua, ub]
  simp only [Option.bind_some, Bool.or_self, Bool.false_eq_true, if_false]
  rw [w6_in (by omega), w6_in (by omega), of_ok h1 (by omega) h2]; rfl
theorem add_vague {a b : Bound} (ha : a.ok) (hb : b.ok) (u : (a.Unknown || b.Unknown) = true) : bound_Add a b = some ⟨0, 0, true⟩ := by
  unfold bound_Add
  rw [vague_ok ha hb, u]; rfl
end Lf
/- Fields of light, and bounds of it. -/
namespace Lf
open Go Go.Abs
set_option linter.unusedVariables false
set_option linter.unusedSimpArgs false
/-- A valid field. -/
structure okF (c : Cells) : Prop where
  w0 : 1 ≤ c.W
  w1 : c.W ≤ 32
  h0 : 1 ≤ c.H
  h1 : c.H ≤ 32
  len : (c.At.length : Int) = c.W * c.H
  cell : ∀ b ∈ c.At, b.ok ∧ -1099511627776 ≤ b.Lo ∧ b.Hi ≤ 1099511627776
theorem area {w h : Int} (w0 : 1 ≤ w) (w1 : w ≤ 32) (h0 : 1 ≤ h) (h1 : h ≤ 32) : 1 ≤ w * h ∧ w * h ≤ 1024 := by
  have a := Int.mul_le_mul_of_nonneg_right w1 (show 0 ≤ h by omega)
  have b := Int.mul_le_mul_of_nonneg_right w0 (show 0 ≤ h by omega)
  omega
theorem okF.n1 {c : Cells} (h : okF c) : 1 ≤ (c.At.length : Int) ∧ (c.At.length : Int) ≤ 1024 := by rw [h.len]; exact area h.w0 h.w1 h.h0 h.h1
theorem findCheck_ok {c : Cells} (h : okF c) : find_Check c = some 0 := by
  have hw0 := h.w0; have hw1 := h.w1; have hh0 := h.h0; have hh1 := h.h1
  have hn := h.n1
  have e : w6 (c.W * c.H) = (c.At.length : Int) := by rw [← h.len]; exact w6_in (by omega)
  apply Has.val
  unfold find_Check
  rw [e]
  have g1 : decide (c.W < 1) = false := decide_eq_false (by omega)
  have g2 : decide (c.W > 32) = false := decide_eq_false (by omega)
  have g3 : decide (c.H < 1) = false := decide_eq_false (by omega)
  have g4 : decide (c.H > 32) = false := decide_eq_false (by omega)
  simp only [g1, g2, g3, g4, ite_or, Bool.false_or, bne_self_eq_false, Option.bind_some, Bool.false_eq_true, if_false]
  refine Has.seq (P := fun t : Step Unit Int => t = .next ()) ?_ (fun _ _ => Has.ret rfl) (fun o ho => by cases ho)
  refine Has.loop (fun i : Int => 0 ≤ i ∧ i ≤ c.At.length) (fun i => (c.At.length - i).toNat) (fun t : Step Unit Int => t = .next ()) ⟨Int.le_refl _, by omega⟩ (by omega) fun i ⟨i1, i2⟩ => ?_
  unfold find_Check.l1
  refine Has.ite (fun hi => ?_) fun hi => Has.ret (.done rfl)
  have hi : i < c.At.length := of_decide_eq_true hi
  obtain ⟨b1, b2, b3⟩ := h.cell _ (gt_mem c.At i ⟨i1, hi⟩)
  refine Has.chk ⟨i1, hi⟩ ?_
  rw [check_ok b1]
  have g5 : decide ((gt c.At i).Lo < (-1099511627776)) = false := decide_eq_false (by omega)
  have g6 : decide ((gt c.At i).Hi > 1099511627776) = false := decide_eq_false (by omega)
  simp only [Option.bind_some, bne_self_eq_false, Bool.false_eq_true, if_false, g5, g6, ite_or, Bool.false_or]
  rw [w6_in (by omega)]
  exact Has.ret (.next ⟨by omega, by omega⟩ (by omega))
end Lf
/- Loops of few rounds, round by round. -/
namespace Lf
open Go Go.Abs
set_option linter.unusedVariables false
inductive Run {S O : Type} (body : S → Option (Step S O)) : S → Nat → O → Prop
  | done {s : S} {o : O} : body s = some (.done o) → Run body s 0 o
  | next {s s' : S} {n : Nat} {o : O} : body s = some (.next s') → Run body s' n o → Run body s (n + 1) o
theorem Run.iter {S O : Type} {body : S → Option (Step S O)} : ∀ {n : Nat} {s : S} {o : O}, Run body s n o → ∀ k, n < k → iterF body k s = some o
  | _, _, _, .done h, 0, hk => by omega
  | _, _, _, .done h, k + 1, _ => by unfold iterF; rw [h]
  | _, _, _, .next h r, 0, hk => by omega
  | _, _, _, .next h r, k + 1, hk => by unfold iterF; rw [h]; exact r.iter k (by omega)
theorem Run.ok {S O : Type} {body : S → Option (Step S O)} {n : Nat} {s : S} {o : O} (h : Run body s n o) (hn : n < 10000000000000000000000000000000000000000) : loopF body s = some o := h.iter _ hn
end Lf
/- The light of a window, above a level. -/
namespace Lf
open Go Go.Abs
set_option linter.unusedVariables false
set_option linter.unusedSimpArgs false
theorem or00 : cmp_Or ([0, 0] : List Int) = some 0 := by
  unfold cmp_Or
  rw [(Run.next (s' := 1) rfl (Run.next (s' := 2) rfl (Run.done (o := .next ()) rfl))).ok (by decide)]; rfl
/-- A known bound of moderate size. -/
structure lvl (b : Bound) : Prop where
  u : b.Unknown = false
  lo : -1099511627776 ≤ b.Lo
  le : b.Lo ≤ b.Hi
  hi : b.Hi ≤ 1099511627776
theorem lvl.ok {b : Bound} (h : lvl b) : b.ok := ⟨fun e => (by rw [h.u] at e; cases e), by have := h.lo; omega, h.le, by have := h.hi; omega⟩
theorem checkLevel_ok {b : Bound} (h : lvl b) : find_CheckLevel b = some 0 := by
  have l := h.lo; have u := h.hi
  unfold find_CheckLevel
  rw [check_ok h.ok]
  have g1 : ¬ b.Lo < -1099511627776 := by omega
  have g2 : ¬ b.Hi > 1099511627776 := by omega
  simp [h.u, g1, g2]
/-- What a cell has above a level. -/
def aboveB (b lv : Bound) : Bound := ⟨max (b.Lo - lv.Hi) 0, max (b.Hi - lv.Lo) 0, false⟩
theorem above_ok {b lv : Bound} (hb : lvl b) (hl : lvl lv) (h : lv.Lo ≤ b.Hi) : measure_above b lv = some (aboveB b lv, 0) := by
  have b1 := hb.lo; have b2 := hb.le; have b3 := hb.hi; have l1 := hl.lo; have l2 := hl.le; have l3 := hl.hi
  have s : subZ b lv = ⟨b.Lo - lv.Hi, b.Hi - lv.Lo, false⟩ := by
    unfold subZ addZ negZ ofZ
    simp only [hb.u, hl.u, Bool.or_self, Bool.false_eq_true, if_false]
    rw [if_pos (by omega)]
    congr 1
  unfold measure_above
  rw [hb.u, subZ_eq hb.ok hl.ok, s]
  simp only [Option.bind_some, Bool.false_eq_true, if_false]
  have g : ¬ b.Hi - lv.Lo < 0 := by omega
  rw [decide_eq_false g]
  simp only [Bool.false_eq_true, if_false]
  rw [maxZ_eq (okKnown (by omega) (by omega) (by omega)) (okKnown (by decide) (by decide) (by decide))]
  simp only [Option.bind_some]
  unfold maxZ minZ negZ ofZ aboveB
  simp only [Bool.or_self, Bool.false_eq_true, if_false]
  rw [if_pos (by omega)]
  congr 2
  simp only [Bound.mk.injEq, and_true]
  omega
/-- Cells of a field, one behind the other. -/
structure isCells (n : Int) (l : List Int) : Prop where
  rng : allI l fun _ x => 0 ≤ x ∧ x < n
  up : ∀ k : Int, 0 < k → k < l.length → gt l (k - 1) < gt l k
  len : l.length ≤ 441
theorem Above_ok {c : Cells} {lv : Bound} {l : List Int} (hc : okF c) (hk : ∀ b ∈ c.At, b.Unknown = false) (hl : lvl lv) (hi : isCells c.At.length l) (hh : ∀ b ∈ c.At, lv.Lo ≤ b.Hi) :
    Has (measure_Above c lv l) fun r => r.2 = 0 ∧ r.1.length = l.length ∧ allI r.1 fun k b => b = aboveB (gt c.At (gt l k)) lv := by
  have hn := hc.n1
  have ll := hi.len
  unfold measure_Above
  rw [findCheck_ok hc, checkLevel_ok hl]
  simp only [Option.bind_some]
  rw [or00]
  simp only [Option.bind_some, bne_self_eq_false, Bool.false_eq_true, if_false]
  refine Has.seq (P := fun t : Step Unit (List Bound × Int) => t = .next ()) ?_ (fun _ _ => ?_) (fun o ho => by cases ho)
  · refine Has.loop (fun i : Int => 0 ≤ i ∧ i ≤ l.length) (fun i => (l.length - i).toNat) _ ⟨Int.le_refl _, by omega⟩ (by omega) fun i ⟨i0, i1⟩ => ?_
    unfold measure_Above.l1
    refine Has.ite (fun h => ?_) fun h => Has.ret (.done rfl)
    have h : i < l.length := of_decide_eq_true h
    obtain ⟨x0, x1⟩ := hi.rng i i0 h
    have g1 : ¬ gt l i < 0 := by omega
    have g2 : ¬ gt l i ≥ (c.At.length : Int) := by omega
    refine Has.chk ⟨i0, h⟩ (Has.bind (P := fun z => z = false) (Has.neg (by simp [g1]) (Has.ret (decide_eq_false g2))) fun z hz => Has.neg (by rw [hz]; decide) ?_)
    refine Has.bind (P := fun z => z = false) (Has.ite (fun h0 => ?_) fun h0 => Has.ret rfl) fun z hz => Has.neg (by rw [hz]; decide) (Has.ret ?_)
    · have h0 : i > 0 := of_decide_eq_true h0
      rw [w6_in (n := i - 1) (by omega)]
      exact Has.chk ⟨by omega, by omega⟩ (Has.ret (decide_eq_false (by have := hi.up i h0 h; omega)))
    · rw [w6_in (by omega)]; exact .next ⟨by omega, by omega⟩ (by omega)
  · refine Has.seq (P := fun t : Step (List Bound) (List Bound × Int) => ∃ r, t = .next r ∧ r.length = l.length ∧ allI r fun k b => b = aboveB (gt c.At (gt l k)) lv) ?_ (fun r ⟨r', e, h1, h2⟩ => by cases e; exact Has.ret ⟨rfl, h1, h2⟩) (fun o ⟨r', e, _⟩ => by cases e)
    refine Has.loop (fun s : List Bound × Int => 0 ≤ s.2 ∧ s.2 ≤ l.length ∧ (s.1.length : Int) = s.2 ∧ allI s.1 fun k b => b = aboveB (gt c.At (gt l k)) lv) (fun s => (l.length - s.2).toNat) _ ⟨Int.le_refl _, by simp only []; omega, rfl, allI_nil⟩ (by simp only []; omega) fun s ⟨s0, s1, s2, s3⟩ => ?_
    unfold measure_Above.l2
    refine Has.ite (fun h => ?_) fun h => ?_
    · have h : s.2 < l.length := of_decide_eq_true h
      obtain ⟨x0, x1⟩ := hi.rng s.2 s0 h
      have m := gt_mem c.At (gt l s.2) ⟨x0, x1⟩
      obtain ⟨o, q1, q2⟩ := hc.cell _ m
      have hb : lvl (gt c.At (gt l s.2)) := ⟨hk _ m, q1, o.le, q2⟩
      rw [above_ok hb hl (hh _ m), w6_in (n := s.2 + 1) (by omega)]
      simp only [Option.bind_some, bne_self_eq_false, Bool.false_eq_true, if_false]
      refine Has.chk ⟨s0, h⟩ (Has.chk ⟨x0, x1⟩ ((Has.chk (roomyI (by simp; omega) (by simp; omega)) (Has.ret (.next ⟨by simp only []; omega, by simp only []; omega, by simp; omega, allI_snoc s3 ?_⟩ (by simp only []; omega))))))
      rw [s2]
    · have h : ¬ s.2 < l.length := fun q => h (decide_eq_true q)
      exact Has.ret (.done ⟨s.1, rfl, by omega, s3⟩)
/-- The cells of a window of so many columns and rows. -/
structure okWin (w h p r : Int) : Prop where
  w0 : 1 ≤ w
  w1 : w ≤ 32
  h0 : 1 ≤ h
  h1 : h ≤ 32
  p0 : 0 ≤ p
  p1 : p < w * h
  r0 : 0 ≤ r
  r1 : r ≤ 10
theorem prodle {a b c d : Int} (a0 : 0 ≤ a) (b0 : 0 ≤ b) (h1 : a ≤ c) (h2 : b ≤ d) : a * b ≤ c * d := Int.mul_le_mul h1 h2 b0 (by omega)
theorem cells_ok {s : Source_} {w h r : Int} (z : okWin w h s.Peak r) : Has (measure_Cells s w h r) fun l => isCells (w * h) l ∧ (r ≤ s.Peak % w → s.Peak % w + r < w → r ≤ s.Peak / w → s.Peak / w + r < h → (l.length : Int) = (2 * r + 1) * (2 * r + 1)) := by
  obtain ⟨w0, w1, h0, h1, p0, p1, r0, r1⟩ := z
  have hA := area w0 w1 h0 h1
  have x0 := Int.emod_nonneg s.Peak (b := w) (by omega)
  have x1 := Int.emod_lt_of_pos s.Peak (b := w) (by omega)
  have y0 := Int.ediv_nonneg p0 (show 0 ≤ w by omega)
  have y1 : s.Peak / w < h := by rw [Int.ediv_lt_iff_lt_mul (by omega), Int.mul_comm]; exact p1
  unfold measure_Cells
  rw [w6_in (n := w * h) (by omega)]
  have g1 : ¬ w < 1 := by omega
  have g2 : ¬ w > 32 := by omega
  have g3 : ¬ h < 1 := by omega
  have g4 : ¬ h > 32 := by omega
  have g5 : ¬ s.Peak < 0 := by omega
  have g6 : ¬ s.Peak ≥ w * h := by omega
  have g7 : ¬ r < 0 := by omega
  have g8 : ¬ r > 10 := by omega
  simp only [g1, g2, g3, g4, g5, g6, g7, g8, decide_false, Bool.false_eq_true, if_false, Option.bind_some]
  refine Has.chk (by omega) ?_
  rw [Int.tdiv_eq_ediv_of_nonneg p0, w6_in (n := s.Peak / w) (by omega), w6_in (n := s.Peak / w - r) (by omega)]
  generalize hx : s.Peak % w = x at *
  generalize hy : s.Peak / w = y at *
  have eU0 : mx2 (x - r) 0 = max (x - r) 0 := by rcases mx2_def (x - r) 0 with ⟨e, h⟩ | ⟨e, h⟩ <;> rw [e] <;> omega
  have eV0 : mx2 (y - r) 0 = max (y - r) 0 := by rcases mx2_def (y - r) 0 with ⟨e, h⟩ | ⟨e, h⟩ <;> rw [e] <;> omega
  have eU1 : mn2 (x + r) (w - 1) = min (x + r) (w - 1) := by rcases mn2_def (x + r) (w - 1) with ⟨e, h⟩ | ⟨e, h⟩ <;> rw [e] <;> omega
  have eV1 : mn2 (y + r) (h - 1) = min (y + r) (h - 1) := by rcases mn2_def (y + r) (h - 1) with ⟨e, h⟩ | ⟨e, h⟩ <;> rw [e] <;> omega
  rw [eV0]
  generalize hU0 : max (x - r) 0 = U0 at *
  generalize hV0 : max (y - r) 0 = V0 at *
  generalize hU1 : min (x + r) (w - 1) = U1 at *
  generalize hV1 : min (y + r) (h - 1) = V1 at *
  have un : 0 ≤ U1 + 1 - U0 ∧ U1 + 1 - U0 ≤ 21 := by omega
  have vn : 0 ≤ V1 + 1 - V0 ∧ V1 + 1 - V0 ≤ 21 := by omega
  have fin : ∀ l : List Int, (l.length : Int) = (V1 + 1 - V0) * (U1 + 1 - U0) → (allI l fun _ x => 0 ≤ x ∧ x < w * h) → (∀ k : Int, 0 < k → k < l.length → gt l (k - 1) < gt l k) → isCells (w * h) l ∧ (r ≤ x → x + r < w → r ≤ y → y + r < h → (l.length : Int) = (2 * r + 1) * (2 * r + 1)) := fun l e1 e2 e3 => by
    have m := prodle vn.1 un.1 vn.2 un.2
    refine ⟨⟨e2, e3, by omega⟩, fun a b c d => ?_⟩
    rw [e1, show V1 + 1 - V0 = 2 * r + 1 from by omega, show U1 + 1 - U0 = 2 * r + 1 from by omega]
  refine Has.bind (P := fun l : List Int => (l.length : Int) = (V1 + 1 - V0) * (U1 + 1 - U0) ∧ (allI l fun _ x => 0 ≤ x ∧ x < w * h) ∧ (∀ k : Int, 0 < k → k < l.length → gt l (k - 1) < gt l k)) ?_ fun l ⟨e1, e2, e3⟩ => Has.ret (fin l e1 e2 e3)
  refine Has.loop (fun t : List Int × Int => V0 ≤ t.2 ∧ t.2 ≤ V1 + 1 ∧ (t.1.length : Int) = (t.2 - V0) * (U1 + 1 - U0) ∧ (allI t.1 fun _ x => 0 ≤ x ∧ x < t.2 * w) ∧ (∀ k : Int, 0 < k → k < t.1.length → gt t.1 (k - 1) < gt t.1 k)) (fun t => (V1 + 1 - t.2).toNat) _ ⟨Int.le_refl _, by simp only []; omega, by simp, allI_nil, fun k k0 k1 => by simp at k1; omega⟩ (by simp only []; omega) fun t ⟨t0, t1, t2, t3, t4⟩ => ?_
  unfold measure_Cells.l1
  rw [Int.tdiv_eq_ediv_of_nonneg p0, hy, w6_in (n := y) (by omega), w6_in (n := y + r) (by omega), w6_in (n := h - 1) (by omega), eV1, Int.tmod_eq_emod_of_nonneg p0, hx, w6_in (n := x - r) (by omega), eU0]
  refine Has.letF (Has.ite (fun hv => ?_) fun hv => ?_)
  · have hv : t.2 ≤ V1 := of_decide_eq_true hv
    have vw : 0 ≤ t.2 * w := Int.mul_nonneg (by omega) (by omega)
    have vw2 : t.2 * w + w = (t.2 + 1) * w := by rw [Int.add_mul, Int.one_mul]
    have vh : (t.2 + 1) * w ≤ w * h := by rw [Int.mul_comm w h]; exact Int.mul_le_mul_of_nonneg_right (by omega) (by omega)
    have tl : (t.2 - V0) * (U1 + 1 - U0) ≤ 20 * 21 := prodle (by omega) un.1 (by omega) un.2
    have tl2 : (t.2 + 1 - V0) * (U1 + 1 - U0) = (t.2 - V0) * (U1 + 1 - U0) + (U1 + 1 - U0) := by rw [show t.2 + 1 - V0 = (t.2 - V0) + 1 from by omega, Int.add_mul, Int.one_mul]
    refine Has.bind (P := fun l : List Int => (l.length : Int) = (t.2 + 1 - V0) * (U1 + 1 - U0) ∧ (allI l fun _ x => 0 ≤ x ∧ x < (t.2 + 1) * w) ∧ (∀ k : Int, 0 < k → k < l.length → gt l (k - 1) < gt l k)) ?_ fun l ⟨e1, e2, e3⟩ => ?_
    · refine Has.loop (fun q : List Int × Int => U0 ≤ q.2 ∧ q.2 ≤ U1 + 1 ∧ (q.1.length : Int) = (t.2 - V0) * (U1 + 1 - U0) + (q.2 - U0) ∧ (allI q.1 fun _ x => 0 ≤ x ∧ x < t.2 * w + q.2) ∧ (∀ k : Int, 0 < k → k < q.1.length → gt q.1 (k - 1) < gt q.1 k)) (fun q => (U1 + 1 - q.2).toNat) _ ⟨Int.le_refl _, by simp only []; omega, by simp only []; omega, allI_mono t3 fun k x _ _ ⟨a, b⟩ => ⟨a, by simp only []; omega⟩, t4⟩ (by simp only []; omega) fun q ⟨q0, q1, q2, q3, q4⟩ => ?_
      unfold measure_Cells.l2
      rw [Int.tmod_eq_emod_of_nonneg p0, hx, w6_in (n := x + r) (by omega), w6_in (n := w - 1) (by omega), eU1]
      refine Has.letF (Has.ite (fun hu => ?_) fun hu => ?_)
      · have hu : q.2 ≤ U1 := of_decide_eq_true hu
        rw [w6_in (n := t.2 * w) (by omega), w6_in (n := t.2 * w + q.2) (by omega), w6_in (n := q.2 + 1) (by omega)]
        refine Has.chk (roomyI (by simp; omega) (by simp; omega)) (Has.ret (.next ⟨by simp only []; omega, by simp only []; omega, by simp; omega, allI_snoc (allI_mono q3 fun k x _ _ ⟨a, b⟩ => ⟨a, by simp only []; omega⟩) ⟨by omega, by simp only []; omega⟩, fun k k0 k1 => ?_⟩ (by simp only []; omega)))
        simp only [List.length_append, List.length_cons, List.length_nil] at k1
        simp only []
        by_cases e : k = (q.1.length : Int)
        · rw [gt_snoc_eq e, gt_snoc_lt (by omega) (by omega)]
          exact (q3 (k - 1) (by omega) (by omega)).2
        · rw [gt_snoc_lt (by omega) (by omega), gt_snoc_lt (by omega) (by omega)]
          exact q4 k k0 (by omega)
      · have hu : ¬ q.2 ≤ U1 := fun z => hu (decide_eq_true z)
        refine Has.ret (.done ⟨by omega, allI_mono q3 fun k x _ _ ⟨a, b⟩ => ⟨a, by omega⟩, q4⟩)
    · rw [w6_in (by omega)]
      exact Has.ret (.next ⟨by simp only []; omega, by simp only []; omega, e1, e2, e3⟩ (by simp only []; omega))
  · have hv : ¬ t.2 ≤ V1 := fun z => hv (decide_eq_true z)
    have e : t.2 = V1 + 1 := by omega
    have vh : (V1 + 1) * w ≤ w * h := by rw [Int.mul_comm w h]; exact Int.mul_le_mul_of_nonneg_right (by omega) (by omega)
    rw [e] at t2 t3
    exact Has.ret (.done ⟨t2, allI_mono t3 fun k x _ _ ⟨a, b⟩ => ⟨a, by omega⟩, t4⟩)
theorem window_ok {c : Cells} {lv : Bound} {s : Source_} {r : Int} (hc : okF c) (hk : ∀ b ∈ c.At, b.Unknown = false) (hl : lvl lv) (hh : ∀ b ∈ c.At, lv.Lo ≤ b.Hi) (p0 : 0 ≤ s.Peak) (p1 : s.Peak < c.At.length) (r0 : 0 ≤ r) (r1 : r ≤ 10) :
    Has (measure_window c lv s r) fun q => measure_Cells s c.W c.H r = some q.1 ∧ q.2.2 = 0 ∧ isCells c.At.length q.1 ∧ q.2.1.length = q.1.length ∧ allI q.2.1 fun k b => b = aboveB (gt c.At (gt q.1 k)) lv := by
  have z : okWin c.W c.H s.Peak r := ⟨hc.w0, hc.w1, hc.h0, hc.h1, p0, by rw [← hc.len]; exact p1, r0, r1⟩
  unfold measure_window
  rw [findCheck_ok hc, checkLevel_ok hl]
  simp only [Option.bind_some]
  rw [or00]
  have g1 : ¬ s.Peak < 0 := by omega
  have g2 : ¬ s.Peak ≥ (c.At.length : Int) := by omega
  have g3 : ¬ r < 0 := by omega
  have g4 : ¬ r > 10 := by omega
  simp only [Option.bind_some, bne_self_eq_false, Bool.false_eq_true, if_false, g1, g2, g3, g4, decide_false]
  obtain ⟨l, e, hi, _⟩ := cells_ok z
  rw [← hc.len] at hi
  rw [e]
  simp only [Option.bind_some]
  refine (Above_ok hc hk hl hi hh).bind fun a ⟨a1, a2, a3⟩ => Has.ret ⟨rfl, a1, hi, a2, a3⟩
end Lf
/- What is measured in a whole window. -/
namespace Lf
open Go Go.Abs
set_option linter.unusedVariables false
set_option linter.unusedSimpArgs false
theorem sumN_shift (f : Int → Int) : ∀ n : Nat, sumN f (n + 1) = f 0 + sumN (fun j => f (j + 1)) n
  | 0 => by simp [sumN]
  | n + 1 => by
    have := sumN_shift f n
    simp only [sumN] at this ⊢
    rw [this]
    have e : ((n + 1 : Nat) : Int) = n + 1 := by omega
    rw [e]; omega
theorem gt_cons0 {α : Type} [Cl α] (x : α) (xs : List α) : gt (x :: xs) 0 = x := rfl
theorem gt_consS {α : Type} [Cl α] (x : α) (xs : List α) {j : Int} (h : 0 ≤ j) : gt (x :: xs) (j + 1) = gt xs j := by
  unfold gt
  have : (j + 1).toNat = j.toNat + 1 := by omega
  rw [this]; rfl
def sLo (l : List Bound) : Int := sumN (fun k => (gt l k).Lo) l.length
def sHi (l : List Bound) : Int := sumN (fun k => (gt l k).Hi) l.length
theorem sLo_cons (x : Bound) (xs : List Bound) : sLo (x :: xs) = x.Lo + sLo xs := by
  unfold sLo
  rw [List.length_cons, sumN_shift, gt_cons0]
  congr 1
  exact sumN_congr fun j j0 j1 => by rw [gt_consS x xs j0]
theorem sHi_cons (x : Bound) (xs : List Bound) : sHi (x :: xs) = x.Hi + sHi xs := by
  unfold sHi
  rw [List.length_cons, sumN_shift, gt_cons0]
  congr 1
  exact sumN_congr fun j j0 j1 => by rw [gt_consS x xs j0]
theorem addZ_known {a b : Bound} (ha : a.Unknown = false) (hb : b.Unknown = false) (h1 : -1152921504606846976 ≤ a.Lo + b.Lo) (h : a.Lo + b.Lo ≤ a.Hi + b.Hi) (h2 : a.Hi + b.Hi ≤ 1152921504606846976) : addZ a b = ⟨a.Lo + b.Lo, a.Hi + b.Hi, false⟩ := by
  unfold addZ ofZ
  rw [if_neg (by simp [ha, hb]), if_pos ⟨h, h1, h2⟩]
theorem sumF_ok {M : Int} (M0 : 0 ≤ M) : ∀ (xs : List Bound) (s : Bound), (∀ b ∈ xs, b.Unknown = false ∧ 0 ≤ b.Lo ∧ b.Lo ≤ b.Hi ∧ b.Hi ≤ M) → s.Unknown = false → 0 ≤ s.Lo → s.Lo ≤ s.Hi → s.Hi + M * xs.length ≤ 1152921504606846976 →
    bound_SumF xs s = ⟨s.Lo + sLo xs, s.Hi + sHi xs, false⟩
  | [], s, _, hu, _, _, _ => by
    obtain ⟨a, b, c⟩ := s
    simp only [] at hu
    subst hu
    simp [bound_SumF, sLo, sHi, sumN]
  | x :: xs, s, h, hu, h0, h1, h2 => by
    obtain ⟨xu, x0, x1, x2⟩ := h x List.mem_cons_self
    have hm : M * ((x :: xs).length : Int) = M * xs.length + M := by rw [List.length_cons, Int.natCast_add, Int.mul_add]; simp
    have hx := Int.mul_nonneg M0 (show (0 : Int) ≤ xs.length by omega)
    have e := addZ_eq (a := s) (b := x) ⟨fun e => (by rw [hu] at e; cases e), by omega, h1, by omega⟩ ⟨fun e => (by rw [xu] at e; cases e), by omega, x1, by omega⟩
    rw [addZ_known hu xu (by omega) (by omega) (by omega)] at e
    unfold bound_SumF
    rw [e]
    simp only [Option.getD_some, Bool.false_eq_true, if_false]
    rw [sumF_ok M0 xs _ (fun b hb => h b (List.mem_cons_of_mem _ hb)) rfl (by simp only []; omega) (by simp only []; omega) (by simp only []; omega), sLo_cons, sHi_cons]
    simp only [Bound.mk.injEq, and_true]
    omega
theorem sum_ok {l : List Bound} (h : allI l fun _ b => b.Unknown = false ∧ 0 ≤ b.Lo ∧ b.Lo ≤ b.Hi ∧ b.Hi ≤ 2199023255552) (hl : l.length ≤ 441) : bound_Sum l = some ⟨sLo l, sHi l, false⟩ := by
  unfold bound_Sum
  rw [if_pos (by omega), sumF_ok (M := 2199023255552) (by decide) l ⟨0, 0, false⟩ (allI_mem h) rfl (Int.le_refl _) (Int.le_refl _) (by simp only []; omega)]
  simp
/-- What a mean is. -/
structure isMean (a : List Int) (v : List Bound) (b : Bound) : Prop where
  no : (¬ ∃ k : Int, 0 ≤ k ∧ k < v.length ∧ 0 < (gt v k).Lo) → b.Unknown = true
  yes : (∃ k : Int, 0 ≤ k ∧ k < v.length ∧ 0 < (gt v k).Lo) → b.Unknown = false ∧ isGr a v b.Hi ∧ (∃ z : List Int, z.length = a.length ∧ (allI z fun i x => x = -gt a i) ∧ isGr z v (-b.Lo)) ∧ -8191 ≤ b.Lo ∧ b.Lo ≤ 8191 ∧ -8191 ≤ b.Hi ∧ b.Hi ≤ 8191
theorem okA.neg {a z : List Int} {v : List Bound} (h : okA a v) (e : z.length = a.length) (hz : allI z fun i x => x = -gt a i) : okA z v :=
  ⟨by rw [e]; exact h.len, by rw [e]; exact h.n0, by rw [e]; exact h.n1, allI_mono hz fun i x i0 i1 hx => by have := h.a i i0 (by omega); omega, h.v⟩
theorem mean_ok {a : List Int} {v : List Bound} (h : okA a v) (ha : allI a fun _ x => 0 ≤ x) : Has (measure_Mean a v) fun r => r.2 = 0 ∧ isMean a v r.1 := by
  have n0 := h.n0; have n1 := h.n1; have hl := h.len
  unfold measure_Mean
  have g1 : ¬ (a.length : Int) > 441 := by omega
  refine Has.neg (by simp; omega) (Has.neg (by simp [g1]) ?_)
  refine Has.seq (P := fun t : Step (Bool × Bool) (Bound × Int) => ∃ s : Bool, t = .next (s, true) ∧ (s = true ↔ ∃ k : Int, 0 ≤ k ∧ k < v.length ∧ 0 < (gt v k).Lo)) ?_ (fun q ⟨s, e, hs⟩ => ?_) (fun o ⟨s, e, _⟩ => by cases e)
  · refine Has.loop (fun s : Bool × Bool × Int => 0 ≤ s.2.2 ∧ s.2.2 ≤ v.length ∧ s.2.1 = true ∧ (s.1 = true ↔ ∃ k : Int, 0 ≤ k ∧ k < s.2.2 ∧ 0 < (gt v k).Lo)) (fun s => (v.length - s.2.2).toNat) _ ⟨Int.le_refl _, by simp only []; omega, rfl, ⟨(fun e => nomatch e), fun ⟨k, k0, k1, _⟩ => by simp only [] at k1; omega⟩⟩ (by simp only []; omega) fun s ⟨s0, s1, s2, s3⟩ => ?_
    unfold measure_Mean.l1
    refine Has.ite (fun hi => ?_) fun hi => ?_
    · have hi : s.2.2 < v.length := of_decide_eq_true hi
      obtain ⟨o, u, l, m⟩ := h.v s.2.2 s0 hi
      obtain ⟨x0, x1⟩ := h.a s.2.2 s0 (by omega)
      have x2 := ha s.2.2 s0 (by omega)
      have g2 : ¬ (gt v s.2.2).Lo < 0 := by omega
      have g3 : ¬ (gt v s.2.2).Hi > 2199023255552 := by omega
      have g4 : ¬ gt a s.2.2 < 0 := by omega
      have g5 : ¬ gt a s.2.2 ≥ 8192 := by omega
      rw [check_ok o, w6_in (n := s.2.2 + 1) (by omega)]
      simp only [Option.bind_some, bne_self_eq_false, Bool.false_eq_true, if_false]
      refine Has.chk ⟨s0, hi⟩ (Has.bind (P := fun z => z = false) (Has.neg (by simp [g2]) (Has.neg (by simp [g3]) (Has.chk ⟨s0, by omega⟩ (Has.neg (by simp [g4]) (Has.ret (decide_eq_false g5)))))) fun z hz => Has.neg (by rw [hz]; decide) ?_)
      have step : ∀ t : Bool, (t = true ↔ (s.1 = true ∨ 0 < (gt v s.2.2).Lo)) → (t = true ↔ ∃ k : Int, 0 ≤ k ∧ k < s.2.2 + 1 ∧ 0 < (gt v k).Lo) := fun t ht => by
        rw [ht, s3]
        constructor
        · rintro (⟨k, k0, k1, k2⟩ | hk)
          · exact ⟨k, k0, by omega, k2⟩
          · exact ⟨s.2.2, s0, by omega, hk⟩
        · rintro ⟨k, k0, k1, k2⟩
          by_cases e : k = s.2.2
          · rw [e] at k2; exact .inr k2
          · exact .inl ⟨k, k0, by omega, k2⟩
      refine Has.ite (fun hs => ?_) fun hs => ?_
      · refine Has.pos s2 (Has.ret (.next ⟨by simp only []; omega, by simp only []; omega, by simp only [u]; rfl, step true ⟨fun _ => .inl hs, fun _ => rfl⟩⟩ (by simp only []; omega)))
      · refine Has.pos s2 (Has.ret (.next ⟨by simp only []; omega, by simp only []; omega, by simp only [u]; rfl, step _ ⟨fun e => .inr (by simpa using e), fun e => ?_⟩⟩ (by simp only []; omega)))
        rcases e with e | e
        · exact absurd e hs
        · simpa using e
    · have hi : ¬ s.2.2 < v.length := fun q => hi (decide_eq_true q)
      have e : s.2.2 = v.length := by omega
      rw [e] at s3
      exact Has.ret (.done ⟨s.1, by rw [s2], s3⟩)
  · cases e
    simp only []
    cases s with
    | false =>
      refine Has.bind (P := fun z => z = true) (Has.pos rfl (Has.ret rfl)) fun z hz => Has.pos hz (Has.ret ⟨rfl, ⟨fun _ => rfl, fun hk => ?_⟩⟩)
      have := hs.2 hk; cases this
    | true =>
      have hk := hs.1 rfl
      refine Has.bind (P := fun z => z = false) (Has.neg (by decide) (Has.ret rfl)) fun z hz => Has.neg (by rw [hz]; decide) ?_
      refine Has.bind (P := fun z : List Int => z.length = a.length ∧ allI z fun i x => x = -gt a i) ?_ fun z ⟨z1, z2⟩ => ?_
      · refine Has.loop (fun s : List Int × Int => 0 ≤ s.2 ∧ s.2 ≤ a.length ∧ (s.1.length : Int) = s.2 ∧ allI s.1 fun i x => x = -gt a i) (fun s => (a.length - s.2).toNat) _ ⟨Int.le_refl _, by simp only []; omega, rfl, allI_nil⟩ (by simp only []; omega) fun s ⟨s0, s1, s2, s3⟩ => ?_
        unfold measure_Mean.l2
        refine Has.ite (fun hi => ?_) fun hi => ?_
        · have hi : s.2 < a.length := of_decide_eq_true hi
          obtain ⟨x0, x1⟩ := h.a s.2 s0 hi
          rw [Int.zero_sub, w6_in (n := -gt a s.2) (by omega), w6_in (n := s.2 + 1) (by omega)]
          refine Has.chk ⟨s0, hi⟩ (Has.chk (roomyI (by simp; omega) (by simp; omega)) (Has.ret (.next ⟨by simp only []; omega, by simp only []; omega, by simp; omega, allI_snoc s3 (by rw [s2])⟩ (by simp only []; omega))))
        · have hi : ¬ s.2 < a.length := fun q => hi (decide_eq_true q)
          exact Has.ret (.done ⟨by omega, s3⟩)
      · have hz := h.neg z1 z2
        refine (greatest_ok hz hk).bind fun g ⟨g1, g2, g3⟩ => (greatest_ok h hk).bind fun k ⟨k1, k2, k3⟩ => ?_
        rw [Int.zero_sub, w6_in (by omega)]
        refine Has.ret ⟨rfl, ⟨fun e => absurd hk e, fun _ => ⟨rfl, k1, ⟨z, z1, z2, by simp only [Int.neg_neg]; exact g1⟩, by simp only []; omega, by simp only []; omega, k2, k3⟩⟩⟩
/-- Any light within the bounds has its mean between the ends. -/
theorem isMean.has {a : List Int} {v : List Bound} {b : Bound} (hm : isMean a v b) (h : okA a v) (w : Int → Int) (hw : ∀ i : Int, 0 ≤ i → i < a.length → (gt v i).Lo ≤ w i ∧ w i ≤ (gt v i).Hi) :
    b.Unknown = true ∨ (b.Lo * sumN w a.length ≤ sumN (fun i => w i * gt a i) a.length ∧ sumN (fun i => w i * gt a i) a.length ≤ b.Hi * sumN w a.length) := by
  by_cases hk : ∃ k : Int, 0 ≤ k ∧ k < v.length ∧ 0 < (gt v k).Lo
  · obtain ⟨u, g1, ⟨z, z1, z2, g2⟩, _⟩ := hm.yes hk
    right
    have up := mean_le h hk g1 w hw
    have hz := h.neg z1 z2
    have lo := mean_le hz hk g2 w (fun i i0 i1 => hw i i0 (by omega))
    rw [z1] at lo
    have e : sumN (fun i => w i * gt z i) a.length = -1 * sumN (fun i => w i * gt a i) a.length := by
      rw [← sumN_mul]
      refine sumN_congr fun j j0 j1 => ?_
      rw [z2 j j0 (by omega), Int.mul_neg]; omega
    rw [e, Int.neg_mul, Int.neg_mul] at lo
    omega
  · exact .inl (hm.no hk)
def xAt (w : Int) (i : Int) : Int := i % w * 256 + 128
def yAt (w : Int) (i : Int) : Int := i / w * 256 + 128
theorem whole_ok {c : Cells} {p r : Int} (hc : okF c) (p0 : 0 ≤ p) (p1 : p < c.At.length) (r0 : 0 ≤ r) (r1 : r ≤ 10) : measure_whole c p r = some (decide (r ≤ p % c.W ∧ p % c.W + r < c.W ∧ r ≤ p / c.W ∧ p / c.W + r < c.H)) := by
  have w0 := hc.w0; have w1 := hc.w1; have h0 := hc.h0; have h1 := hc.h1
  have x0 := Int.emod_nonneg p (b := c.W) (by omega)
  have x1 := Int.emod_lt_of_pos p (b := c.W) (by omega)
  have y0 := Int.ediv_nonneg p0 (show 0 ≤ c.W by omega)
  have y1 : p / c.W < c.H := by rw [Int.ediv_lt_iff_lt_mul (by omega), Int.mul_comm, ← hc.len]; exact p1
  unfold measure_whole
  rw [if_pos (by omega), Int.tmod_eq_emod_of_nonneg p0, Int.tdiv_eq_ediv_of_nonneg p0, w6_in (n := p % c.W + r) (by omega), w6_in (n := p / c.W) (by omega), w6_in (n := p / c.W + r) (by omega)]
  by_cases a1 : p % c.W ≥ r
  · by_cases a2 : p % c.W + r < c.W
    · by_cases a3 : p / c.W ≥ r
      · simp [a1, a2, a3]
      · simp [a1, a2, a3]
    · simp [a1, a2]
  · simp [a1]
/-- The places and the light of the cells of a window. -/
structure isWin (c : Cells) (lv : Bound) (cells : List Int) (v : List Bound) : Prop where
  cl : isCells c.At.length cells
  len : v.length = cells.length
  v : allI v fun k b => b = aboveB (gt c.At (gt cells k)) lv
theorem aboveB_bd {b lv : Bound} (hb : lvl b) (hl : lvl lv) : (aboveB b lv).ok ∧ (aboveB b lv).Unknown = false ∧ 0 ≤ (aboveB b lv).Lo ∧ (aboveB b lv).Lo ≤ (aboveB b lv).Hi ∧ (aboveB b lv).Hi ≤ 2199023255552 := by
  have b1 := hb.lo; have b2 := hb.le; have b3 := hb.hi; have l1 := hl.lo; have l2 := hl.le; have l3 := hl.hi
  have e : 0 ≤ (aboveB b lv).Lo ∧ (aboveB b lv).Lo ≤ (aboveB b lv).Hi ∧ (aboveB b lv).Hi ≤ 2199023255552 := by unfold aboveB; simp only []; omega
  exact ⟨⟨(fun e => nomatch e), by omega, e.2.1, by omega⟩, rfl, e⟩
theorem isWin.all {c : Cells} {lv : Bound} {cells : List Int} {v : List Bound} (h : isWin c lv cells v) (hc : okF c) (hk : ∀ b ∈ c.At, b.Unknown = false) (hl : lvl lv) : allI v fun _ b => b.ok ∧ b.Unknown = false ∧ 0 ≤ b.Lo ∧ b.Lo ≤ b.Hi ∧ b.Hi ≤ 2199023255552 := fun k k0 k1 => by
  obtain ⟨x0, x1⟩ := h.cl.rng k k0 (by have := h.len; omega)
  have m := gt_mem c.At _ ⟨x0, x1⟩
  obtain ⟨o, q1, q2⟩ := hc.cell _ m
  rw [h.v k k0 k1]
  exact aboveB_bd ⟨hk _ m, q1, o.le, q2⟩ hl
theorem measure_ok {c : Cells} {lv : Bound} {s : Source_} {r : Int} (hc : okF c) (hk : ∀ b ∈ c.At, b.Unknown = false) (hl : lvl lv) (hh : ∀ b ∈ c.At, lv.Lo ≤ b.Hi) (p0 : 0 ≤ s.Peak) (p1 : s.Peak < c.At.length) (r0 : 0 ≤ r) (r1 : r ≤ 10) (hw : r ≤ s.Peak % c.W ∧ s.Peak % c.W + r < c.W ∧ r ≤ s.Peak / c.W ∧ s.Peak / c.W + r < c.H) :
    Has (measure_Measure c lv s r) fun m => m.2 = 0 ∧ ∃ (cells : List Int) (v : List Bound) (xs ys : List Int), measure_Cells s c.W c.H r = some cells ∧ isWin c lv cells v ∧ m.1.Flux = ⟨sLo v, sHi v, false⟩ ∧ xs.length = cells.length ∧ (allI xs fun k x => x = xAt c.W (gt cells k)) ∧ ys.length = cells.length ∧ (allI ys fun k x => x = yAt c.W (gt cells k)) ∧ okA xs v ∧ okA ys v ∧ isMean xs v m.1.X ∧ isMean ys v m.1.Y := by
  have w0 := hc.w0; have w1 := hc.w1; have h0 := hc.h0; have h1 := hc.h1
  unfold measure_Measure
  refine (window_ok hc hk hl hh p0 p1 r0 r1).bind fun q ⟨q1, q2, q3, q4, q5⟩ => ?_
  have win : isWin c lv q.1 q.2.1 := ⟨q3, q4, q5⟩
  have va := win.all hc hk hl
  have ql := q3.len
  have zc := cells_ok (s := s) ⟨hc.w0, hc.w1, hc.h0, hc.h1, p0, by rw [← hc.len]; exact p1, r0, r1⟩
  have clen : (q.1.length : Int) = (2 * r + 1) * (2 * r + 1) := by
    obtain ⟨l, e, _, hl⟩ := zc
    rw [q1] at e; cases e
    exact hl hw.1 hw.2.1 hw.2.2.1 hw.2.2.2
  have c1 : 1 ≤ (q.1.length : Int) := by
    rw [clen]; have := prodle (a := 1) (b := 1) (c := 2 * r + 1) (d := 2 * r + 1) (by decide) (by decide) (by omega) (by omega); omega
  rw [q2, sum_ok (allI_mono va fun k b _ _ ⟨_, a, b, c, d⟩ => ⟨a, b, c, d⟩) (by omega), whole_ok hc p0 p1 r0 r1, decide_eq_true hw]
  simp only [Option.bind_some, bne_self_eq_false, Bool.false_eq_true, if_false, Bool.not_true]
  refine Has.bind (P := fun z : List Int × List Int => z.1.length = q.1.length ∧ (allI z.1 fun k x => x = xAt c.W (gt q.1 k)) ∧ z.2.length = q.1.length ∧ (allI z.2 fun k x => x = yAt c.W (gt q.1 k))) ?_ fun z ⟨z1, z2, z3, z4⟩ => ?_
  · refine Has.loop (fun t : List Int × List Int × Int => 0 ≤ t.2.2 ∧ t.2.2 ≤ q.1.length ∧ (t.1.length : Int) = t.2.2 ∧ (allI t.1 fun k x => x = xAt c.W (gt q.1 k)) ∧ (t.2.1.length : Int) = t.2.2 ∧ (allI t.2.1 fun k x => x = yAt c.W (gt q.1 k))) (fun t => (q.1.length - t.2.2).toNat) _ ⟨Int.le_refl _, by simp only []; omega, rfl, allI_nil, rfl, allI_nil⟩ (by simp only []; omega) fun t ⟨t0, t1, t2, t3, t4, t5⟩ => ?_
    unfold measure_Measure.l1
    refine Has.ite (fun hi => ?_) fun hi => ?_
    · have hi : t.2.2 < q.1.length := of_decide_eq_true hi
      obtain ⟨x0, x1⟩ := q3.rng t.2.2 t0 hi
      have m0 := Int.emod_nonneg (gt q.1 t.2.2) (b := c.W) (by omega)
      have m1 := Int.emod_lt_of_pos (gt q.1 t.2.2) (b := c.W) (by omega)
      have d0 := Int.ediv_nonneg x0 (show 0 ≤ c.W by omega)
      have d1 : gt q.1 t.2.2 / c.W < c.H := by rw [Int.ediv_lt_iff_lt_mul (by omega), Int.mul_comm, ← hc.len]; exact x1
      rw [Int.tmod_eq_emod_of_nonneg x0, Int.tdiv_eq_ediv_of_nonneg x0, w6_in (n := gt q.1 t.2.2 % c.W * 256) (by omega), w6_in (n := gt q.1 t.2.2 % c.W * 256 + 128) (by omega), w6_in (n := gt q.1 t.2.2 / c.W) (by omega), w6_in (n := gt q.1 t.2.2 / c.W * 256) (by omega), w6_in (n := gt q.1 t.2.2 / c.W * 256 + 128) (by omega), w6_in (n := t.2.2 + 1) (by omega)]
      refine Has.chk ⟨t0, hi⟩ (Has.chk (by omega) (Has.chk (roomyI (by simp; omega) (by simp; omega)) (Has.chk (roomyI (by simp; omega) (by simp; omega)) (Has.ret (.next ⟨by simp only []; omega, by simp only []; omega, by simp; omega, allI_snoc t3 (by rw [t2]; rfl), by simp; omega, allI_snoc t5 (by rw [t4]; rfl)⟩ (by simp only []; omega))))))
    · have hi : ¬ t.2.2 < q.1.length := fun x => hi (decide_eq_true x)
      exact Has.ret (.done ⟨by simp only []; omega, t3, by simp only []; omega, t5⟩)
  · have vok : allI q.2.1 fun _ b => b.ok ∧ b.Unknown = false ∧ 0 ≤ b.Lo ∧ b.Hi ≤ 2199023255552 := allI_mono va fun k b _ _ ⟨o, a, b, c, d⟩ => ⟨o, a, b, d⟩
    have place : ∀ k : Int, 0 ≤ k → k < q.1.length → (0 ≤ xAt c.W (gt q.1 k) ∧ xAt c.W (gt q.1 k) ≤ 8191) ∧ (0 ≤ yAt c.W (gt q.1 k) ∧ yAt c.W (gt q.1 k) ≤ 8191) := fun k k0 k1 => by
      obtain ⟨x0, x1⟩ := q3.rng k k0 k1
      have m0 := Int.emod_nonneg (gt q.1 k) (b := c.W) (by omega)
      have m1 := Int.emod_lt_of_pos (gt q.1 k) (b := c.W) (by omega)
      have d0 := Int.ediv_nonneg x0 (show 0 ≤ c.W by omega)
      have d1 : gt q.1 k / c.W < c.H := by rw [Int.ediv_lt_iff_lt_mul (by omega), Int.mul_comm, ← hc.len]; exact x1
      unfold xAt yAt
      omega
    have ox : okA z.1 q.2.1 := ⟨by omega, by omega, by omega, allI_mono z2 fun k x k0 k1 e => by have := (place k k0 (by omega)).1; omega, vok⟩
    have oy : okA z.2 q.2.1 := ⟨by omega, by omega, by omega, allI_mono z4 fun k x k0 k1 e => by have := (place k k0 (by omega)).2; omega, vok⟩
    refine (mean_ok ox (allI_mono z2 fun k x k0 k1 e => by have := (place k k0 (by omega)).1; omega)).bind fun mx ⟨_, mx2⟩ => (mean_ok oy (allI_mono z4 fun k x k0 k1 e => by have := (place k k0 (by omega)).2; omega)).bind fun my ⟨_, my2⟩ => ?_
    exact Has.ret ⟨rfl, q.1, q.2.1, z.1, z.2, q1, win, rfl, z1, z2, z3, z4, ox, oy, mx2, my2⟩
end Lf
/- Lights, and bounds of them. -/
namespace Lf
open Go Go.Abs
set_option linter.unusedVariables false
set_option linter.unusedSimpArgs false
/-- One point's light at a cell. -/
theorem point_ok {top k dx dy : Int} (h0 : 0 ≤ top) (h1 : top ≤ 4999) (k1 : 1 ≤ k) (k3 : k ≤ 3) (x0 : 0 ≤ dx) (x1 : dx ≤ k) (y0 : 0 ≤ dy) (y1 : dy ≤ k) :
    w6 ((w6 (top * (w6 ((w6 (k + 1)) - dx)))) * (w6 ((w6 (k + 1)) - dy))) = top * (k + 1 - dx) * (k + 1 - dy) ∧ w6 ((w6 (k + 1)) * (w6 (k + 1))) = (k + 1) * (k + 1) ∧ (k + 1) * (k + 1) ≠ 0 ∧
    w6 (Int.tdiv (top * (k + 1 - dx) * (k + 1 - dy)) ((k + 1) * (k + 1))) = top * (k + 1 - dx) * (k + 1 - dy) / ((k + 1) * (k + 1)) ∧ 0 ≤ top * (k + 1 - dx) * (k + 1 - dy) / ((k + 1) * (k + 1)) ∧ top * (k + 1 - dx) * (k + 1 - dy) / ((k + 1) * (k + 1)) ≤ top := by
  rw [w6_in (n := k + 1) (by omega), w6_in (n := k + 1 - dx) (by omega), w6_in (n := k + 1 - dy) (by omega)]
  have a0 := Int.mul_nonneg h0 (show 0 ≤ k + 1 - dx by omega)
  have a1 := Int.mul_le_mul_of_nonneg_left (show k + 1 - dx ≤ k + 1 by omega) h0
  have a2 := Int.mul_le_mul_of_nonneg_left (show k + 1 ≤ 4 by omega) h0
  have b0 := Int.mul_nonneg a0 (show 0 ≤ k + 1 - dy by omega)
  have b1 := Int.mul_le_mul_of_nonneg_left (show k + 1 - dy ≤ k + 1 by omega) a0
  have b2 := Int.mul_le_mul_of_nonneg_right a1 (show 0 ≤ k + 1 by omega)
  have b3 := Int.mul_le_mul_of_nonneg_left (show k + 1 ≤ 4 by omega) a0
  have c0 : 4 ≤ (k + 1) * (k + 1) ∧ (k + 1) * (k + 1) ≤ 16 := by
    have : k = 1 ∨ k = 2 ∨ k = 3 := by omega
    rcases this with rfl | rfl | rfl <;> decide
  have d0 : 0 ≤ top * (k + 1 - dx) * (k + 1 - dy) / ((k + 1) * (k + 1)) := Int.ediv_nonneg b0 (by omega)
  have d1 : top * (k + 1 - dx) * (k + 1 - dy) / ((k + 1) * (k + 1)) ≤ top := by
    have : top * (k + 1 - dx) * (k + 1 - dy) / ((k + 1) * (k + 1)) < top + 1 := by
      rw [Int.ediv_lt_iff_lt_mul (by omega), Int.add_mul, ← Int.mul_assoc]; omega
    omega
  refine ⟨?_, w6_in (by omega), by omega, ?_, d0, d1⟩
  · rw [w6_in (n := top * (k + 1 - dx)) (by omega)]; exact w6_in (by omega)
  · rw [Int.tdiv_eq_ediv_of_nonneg b0]; exact w6_in (by omega)
theorem tops_at (v : Int) (h : 0 ≤ v ∧ v < 3) : 1 ≤ gt ([30, 400, 5000] : List Int) v ∧ gt ([30, 400, 5000] : List Int) v ≤ 5000 := by
  have : v = 0 ∨ v = 1 ∨ v = 2 := by omega
  rcases this with rfl | rfl | rfl <;> decide
/-- What the light of a field is, of which the background is given. -/
structure okLt (n b : Int) (back : Int) (l : List Int) : Prop where
  len : (l.length : Int) = n
  v : ∀ x ∈ l, back ≤ x ∧ x ≤ b
theorem lights_ok (s : spymake_Stream) (w h points : Int) (hs : okS s) (ha : s.at_ ≤ 4611686018427000000) (w0 : 1 ≤ w) (w1 : w ≤ 32) (h0 : 1 ≤ h) (h1 : h ≤ 32) (p0 : 0 ≤ points) (p1 : points ≤ 10) :
    Has (Stream_Lights s w h points) fun r => okLt (w * h) (39 + 4999 * points) r.2.1 r.1 ∧ 0 ≤ r.2.1 ∧ r.2.1 ≤ 39 ∧ after s r.2.2 (1 + 5 * points) := by
  have hA := area w0 w1 h0 h1
  unfold Stream_Lights
  have eA : w6 (w * h) = w * h := w6_in (by omega)
  rw [eA]
  refine (next_ok s 40 hs (by omega) (by omega)).bind fun r ⟨r1, r2, r3⟩ => ?_
  refine Has.chk ⟨by omega, Int.le_refl _, roomyI (by omega) (by omega)⟩ ?_
  refine Has.bind (P := fun l : List Int => (l.length : Int) = w * h ∧ ∀ x ∈ l, x = r.1) ?_ fun l ⟨l1, l2⟩ => ?_
  · refine Has.loop (fun t : List Int × Int => (t.1.length : Int) = w * h ∧ 0 ≤ t.2 ∧ t.2 ≤ w * h ∧ allI t.1 fun j x => j < t.2 → x = r.1) (fun t => (w * h - t.2).toNat) _ ⟨by simp; omega, Int.le_refl _, by simp only []; omega, fun j j1 j2 j3 => by simp only [] at j3; omega⟩ (by simp only []; omega) fun t ⟨t1, t2, t3, t4⟩ => ?_
    unfold Stream_Lights.l1
    rw [eA]
    refine Has.letF (Has.ite (fun hc => ?_) fun hc => ?_)
    · have hc : t.2 < w * h := by simp at hc; omega
      rw [w6_in (by omega)]
      refine Has.chk ⟨t2, by omega⟩ (Has.ret (.next ⟨by simp only [List.length_set]; exact t1, by simp only []; omega, by simp only []; omega, ?_⟩ (by simp only []; omega)))
      exact allI_upd t4 t2 (fun j x j1 j2 j3 hx hj => by simp only [] at hj; exact hx (by omega)) fun _ => rfl
    · have hc : ¬ t.2 < w * h := by simp at hc; omega
      exact Has.ret (.done ⟨t1, allI_mem (allI_mono t4 fun j x j1 j2 hx => hx (by omega))⟩)
  · have hsr := r3.ok hs (by omega)
    have hh := r3.hi
    refine (Has.loop (fun t : spymake_Stream × List Int × Int => after r.2 t.1 (5 * t.2.2) ∧ 0 ≤ t.2.2 ∧ t.2.2 ≤ points ∧ (t.2.1.length : Int) = w * h ∧ ∀ x ∈ t.2.1, r.1 ≤ x ∧ x ≤ 39 + 4999 * t.2.2) (fun t => (points - t.2.2).toNat)
      (fun o : spymake_Stream × List Int => after r.2 o.1 (5 * points) ∧ okLt (w * h) (39 + 4999 * points) r.1 o.2) ⟨after.refl _, Int.le_refl _, p0, l1, fun x hx => by have := l2 x hx; simp only []; omega⟩ (by simp only []; omega) fun t ⟨t1, t2, t3, t4, t5⟩ => ?_).bind
      fun o ⟨o1, o2⟩ => Has.ret ⟨o2, r1, by simp only []; omega, (r3.trans o1).more (by omega)⟩
    unfold Stream_Lights.l2
    refine Has.ite (fun hc => ?_) fun hc => ?_
    · have hc : t.2.2 < points := of_decide_eq_true hc
      have hst := t1.ok hsr (by omega)
      have hht := t1.hi
      refine (next_ok t.1 w hst (by omega) (by omega)).bind fun x ⟨x1, x2, x3⟩ => ?_
      have hx := x3.ok hst (by omega); have hhx := x3.hi
      refine (next_ok x.2 h hx (by omega) (by omega)).bind fun y ⟨y1, y2, y3⟩ => ?_
      have hy := y3.ok hx (by omega); have hhy := y3.hi
      refine (range_ok y.2 1 3 hy (by omega) (by omega) (by omega) (by omega)).bind fun k ⟨k1, k2, k3⟩ => ?_
      have hk := k3.ok hy (by omega); have hhk := k3.hi
      refine (next_ok k.2 3 hk (by omega) (by omega)).bind fun g ⟨g1, g2, g3⟩ => ?_
      have hg := g3.ok hk (by omega); have hhg := g3.hi
      have ht := tops_at g.1 ⟨g1, g2⟩
      refine Has.chk ⟨g1, by simpa using g2⟩ ((next_ok g.2 _ hg (by omega) (by omega)).bind fun z ⟨z1, z2, z3⟩ => ?_)
      have hhz := z3.hi
      generalize gt ([30, 400, 5000] : List Int) g.1 = most at *
      refine Has.bind (P := fun l : List Int => (l.length : Int) = w * h ∧ ∀ x ∈ l, r.1 ≤ x ∧ x ≤ 39 + 4999 * (t.2.2 + 1)) ?_ fun l ⟨m1, m2⟩ => ?_
      · have ini : ∀ v : Int, r.1 ≤ v ∧ v ≤ 39 + 4999 * t.2.2 → ∀ {q : Prop}, r.1 ≤ v ∧ v ≤ 39 + 4999 * (t.2.2 + 1) ∧ (q → v ≤ 39 + 4999 * t.2.2) := fun v ⟨a, b⟩ _ => ⟨a, by omega, fun _ => b⟩
        refine Has.loop (fun u : List Int × Int => (u.1.length : Int) = w * h ∧ 0 ≤ u.2 ∧ u.2 ≤ w * h ∧ allI u.1 fun j x => r.1 ≤ x ∧ x ≤ 39 + 4999 * (t.2.2 + 1) ∧ (u.2 ≤ j → x ≤ 39 + 4999 * t.2.2)) (fun u => (w * h - u.2).toNat) _ ⟨t4, Int.le_refl _, by simp only []; omega, fun j j1 j2 => ini _ (t5 _ (gt_mem t.2.1 j ⟨j1, j2⟩))⟩ (by simp only []; omega) fun u ⟨u1, u2, u3, u4⟩ => ?_
        unfold Stream_Lights.l3
        rw [t4]
        refine Has.ite (fun hd => ?_) fun hd => ?_
        · have hd : u.2 < w * h := of_decide_eq_true hd
          have q0 := Int.tmod_nonneg w u2
          have q1 := Int.tmod_lt_of_pos u.2 (b := w) (by omega)
          have q2 : 0 ≤ Int.tdiv u.2 w := Int.tdiv_nonneg u2 (by omega)
          have q3 : Int.tdiv u.2 w < h := by rw [Int.tdiv_eq_ediv_of_nonneg u2, Int.ediv_lt_iff_lt_mul (by omega), Int.mul_comm]; exact hd
          refine Has.bind (P := fun l : List Int => (l.length : Int) = w * h ∧ allI l fun j x => r.1 ≤ x ∧ x ≤ 39 + 4999 * (t.2.2 + 1) ∧ (u.2 + 1 ≤ j → x ≤ 39 + 4999 * t.2.2)) ?_ fun l ⟨n1, n2⟩ => ?_
          · rw [w6_in (n := Int.tdiv u.2 w) (by omega), w6_in (n := Int.tmod u.2 w - x.1) (by omega), w6_in (n := x.1 - Int.tmod u.2 w) (by omega), w6_in (n := Int.tdiv u.2 w - y.1) (by omega), w6_in (n := y.1 - Int.tdiv u.2 w) (by omega)]
            refine Has.chk (by omega) (Has.letF (Has.letF ?_))
            have d1 := mx2_def (Int.tmod u.2 w - x.1) (x.1 - Int.tmod u.2 w)
            have d2 := mx2_def (Int.tdiv u.2 w - y.1) (y.1 - Int.tdiv u.2 w)
            generalize mx2 (Int.tmod u.2 w - x.1) (x.1 - Int.tmod u.2 w) = dx at *
            generalize mx2 (Int.tdiv u.2 w - y.1) (y.1 - Int.tdiv u.2 w) = dy at *
            simp only [ite_and, Option.bind_some]
            refine Has.ite (fun he => ?_) fun he => Has.ret ⟨u1, allI_mono u4 fun j v j1 j2 ⟨v1, v2, v3⟩ => ⟨v1, v2, fun h => v3 (by omega)⟩⟩
            simp only [Bool.and_eq_true, decide_eq_true_eq] at he
            obtain ⟨e1, e2, e3, e4, e5, e6⟩ := point_ok (top := z.1) (k := k.1) (dx := dx) (dy := dy) z1 (by omega) k1 k2 (by omega) he.1 (by omega) he.2
            rw [e1, e2]
            obtain ⟨v1, v2, v3⟩ := u4 u.2 u2 (by omega)
            have v3 := v3 (Int.le_refl _)
            refine Has.chk ⟨u2, by omega⟩ (Has.letF (Has.chk e3 (Has.letF (Has.ret ⟨by simp only [List.length_set]; exact u1, ?_⟩))))
            rw [e4]
            generalize z.1 * (k.1 + 1 - dx) * (k.1 + 1 - dy) / ((k.1 + 1) * (k.1 + 1)) = add at *
            rw [w6_in (n := gt u.1 u.2 + add) (by omega)]
            exact allI_upd u4 u2 (fun j v j1 j2 j3 ⟨v1, v2, v3⟩ => ⟨v1, v2, fun h => v3 (by omega)⟩) ⟨by omega, by omega, fun h => by omega⟩
          · rw [w6_in (by omega)]
            exact Has.ret (.next ⟨n1, by simp only []; omega, by simp only []; omega, n2⟩ (by simp only []; omega))
        · have hd : ¬ u.2 < w * h := fun q => hd (decide_eq_true q)
          exact Has.ret (.done ⟨u1, allI_mem (allI_mono u4 fun j v j1 j2 ⟨v1, v2, v3⟩ => ⟨v1, v2⟩)⟩)
      · rw [w6_in (by omega)]
        exact Has.ret (.next ⟨(((((t1.trans x3).trans y3).trans k3).trans g3).trans z3).more (by simp only []; omega), by simp only []; omega, by simp only []; omega, m1, m2⟩ (by simp only []; omega))
    · have hc : ¬ t.2.2 < points := fun q => hc (decide_eq_true q)
      have e : t.2.2 = points := by omega
      rw [e] at t1 t5
      exact Has.ret (.done ⟨t1, t4, t5⟩)
/-- A bound of a light, or none. -/
def veils (v : Int) (b : Bound) : Prop := b = ⟨0, 0, true⟩ ∨ (b.Unknown = false ∧ v - 200 ≤ b.Lo ∧ b.Lo ≤ v ∧ v ≤ b.Hi ∧ b.Hi ≤ v + 200)
theorem mosts_at (v : Int) (h : 0 ≤ v ∧ v < 4) : 0 ≤ gt ([0, 3, 30, 200] : List Int) v ∧ gt ([0, 3, 30, 200] : List Int) v ≤ 200 := by
  have : v = 0 ∨ v = 1 ∨ v = 2 ∨ v = 3 := by omega
  rcases this with rfl | rfl | rfl | rfl <;> decide
theorem veil_ok (s : spymake_Stream) (w h : Int) (light : List Int) (holes : Bool) (hs : okS s) (ha : s.at_ ≤ 4611686018427000000) (hn : light.length ≤ 1024) (hl : ∀ x ∈ light, -1000000000000 ≤ x ∧ x ≤ 1000000000000) :
    Has (Stream_Veil s w h light holes) fun r => r.1.W = w ∧ r.1.H = h ∧ r.1.At.length = light.length ∧ allI r.1.At (fun i b => veils (gt light i) b ∧ (holes = false → b.Unknown = false)) ∧ after s r.2 (1 + 3 * light.length) := by
  unfold Stream_Veil
  refine (next_ok s 4 hs (by omega) (by omega)).bind fun r ⟨r1, r2, r3⟩ => ?_
  have hr := r3.ok hs (by omega); have hh := r3.hi
  have hm := mosts_at r.1 ⟨r1, r2⟩
  refine Has.chk ⟨r1, by simpa using r2⟩ ?_
  refine (Has.loop (fun t : spymake_Stream × List Bound × Int => after r.2 t.1 (3 * t.2.2) ∧ 0 ≤ t.2.2 ∧ t.2.2 ≤ light.length ∧ (t.2.1.length : Int) = t.2.2 ∧ allI t.2.1 fun i b => veils (gt light i) b ∧ (holes = false → b.Unknown = false)) (fun t => (light.length - t.2.2).toNat)
    (fun o : spymake_Stream × List Bound => after r.2 o.1 (3 * light.length) ∧ o.2.length = light.length ∧ allI o.2 fun i b => veils (gt light i) b ∧ (holes = false → b.Unknown = false)) ⟨after.refl _, Int.le_refl _, by simp only []; omega, rfl, allI_nil⟩ (by simp only []; omega) fun t ⟨t1, t2, t3, t4, t5⟩ => ?_).bind
    fun o ⟨o1, o2, o3⟩ => Has.ret ⟨rfl, rfl, o2, o3, (r3.trans o1).more (by omega)⟩
  unfold Stream_Veil.l1
  refine Has.ite (fun hc => ?_) fun hc => ?_
  · have hc : t.2.2 < light.length := of_decide_eq_true hc
    have ht := t1.ok hr (by omega); have hht := t1.hi
    have hv := hl _ (gt_mem light t.2.2 ⟨t2, hc⟩)
    generalize gt ([0, 3, 30, 200] : List Int) r.1 = most at *
    rw [w6_in (n := most + 1) (by omega), w6_in (n := t.2.2 + 1) (by omega)]
    refine Has.chk ⟨t2, hc⟩ ((next_ok t.1 (most + 1) ht (by omega) (by omega)).bind fun a ⟨a1, a2, a3⟩ => ?_)
    have hA := a3.ok ht (by omega); have hha := a3.hi
    refine (next_ok a.2 (most + 1) hA (by omega) (by omega)).bind fun b ⟨b1, b2, b3⟩ => ?_
    have hB := b3.ok hA (by omega); have hhb := b3.hi
    rw [w6_in (n := gt light t.2.2 - a.1) (by omega), w6_in (n := gt light t.2.2 + b.1) (by omega)]
    refine Has.bind (P := fun z : spymake_Stream × Bool => after b.2 z.1 1 ∧ (holes = false → z.2 = false)) ?_ fun z ⟨z1, z2⟩ => ?_
    · refine Has.ite (fun hx => ?_) fun hx => Has.ret ⟨(after.refl _).more (by omega), fun _ => rfl⟩
      exact (next_ok b.2 9 hB (by omega) (by omega)).bind fun c ⟨c1, c2, c3⟩ => Has.ret ⟨c3, fun e => by rw [e] at hx; cases hx⟩
    have af : after r.2 z.1 (3 * (t.2.2 + 1)) := (((t1.trans a3).trans b3).trans z1).more (by omega)
    refine Has.ite (fun hz => ?_) fun hz => ?_
    · refine Has.chk (roomyI (by simp; omega) (by simp; omega)) (Has.ret (.next ⟨af, by simp only []; omega, by simp only []; omega, by simp; omega, allI_snoc t5 ⟨.inl rfl, fun e => ?_⟩⟩ (by simp only []; omega)))
      rw [z2 e] at hz; cases hz
    · refine Has.chk (roomyI (by simp; omega) (by simp; omega)) (Has.ret (.next ⟨af, by simp only []; omega, by simp only []; omega, by simp; omega, allI_snoc t5 ⟨.inr ⟨rfl, ?_⟩, fun _ => rfl⟩⟩ (by simp only []; omega)))
      rw [t4]
      simp only []
      omega
  · have hc : ¬ t.2.2 < light.length := fun q => hc (decide_eq_true q)
    have e : t.2.2 = light.length := by omega
    rw [e] at t1 t4
    exact Has.ret (.done ⟨t1, by simp only []; omega, t5⟩)
theorem veils.ok {v : Int} {b : Bound} (h : veils v b) (h1 : -1000000000000 ≤ v) (h2 : v ≤ 1000000000000) : b.ok ∧ -1099511627776 ≤ b.Lo ∧ b.Hi ≤ 1099511627776 := by
  rcases h with rfl | ⟨u, a, b', c, d⟩
  · exact ⟨okNone, by decide, by decide⟩
  · exact ⟨⟨(fun e => by rw [u] at e; cases e), by omega, by omega, by omega⟩, by omega, by omega⟩
end Lf
/- MeasureTrue: for any light within the bounds, its sum and its centroid lie in what is measured in a whole window. -/
namespace Lf
open Go Go.Abs
set_option linter.unusedVariables false
set_option linter.unusedSimpArgs false
theorem weighedFact : spykeep4_weighed = some true := by kernel_rfl
theorem level_ok (s : spymake_Stream) (back : Int) (hs : okS s) (ha : s.at_ ≤ 4611686018427000000) (hb : 0 ≤ back ∧ back ≤ 1000000000) : Has (Stream_Level s back) fun r => r.1.Unknown = false ∧ back - 5 ≤ r.1.Lo ∧ r.1.Lo ≤ back ∧ back ≤ r.1.Hi ∧ r.1.Hi ≤ back + 5 ∧ after s r.2 2 := by
  unfold Stream_Level
  refine (next_ok s 6 hs (by omega) (by omega)).bind fun a ⟨a1, a2, a3⟩ => ?_
  have hA := a3.ok hs (by omega); have hhA := a3.hi
  refine (next_ok a.2 6 hA (by omega) (by omega)).bind fun b ⟨b1, b2, b3⟩ => ?_
  rw [w6_in (by omega), w6_in (by omega)]
  exact Has.ret ⟨rfl, by simp only []; omega, by simp only []; omega, by simp only []; omega, by simp only []; omega, (a3.trans b3).more (by omega)⟩
theorem in_ok {b : Bound} {x s : Int} (h : b.Unknown = true ∨ (b.Lo * s ≤ x ∧ x ≤ b.Hi * s)) (h1 : b.Unknown = false → (-9223372036854775808 ≤ b.Lo * s ∧ b.Lo * s ≤ 9223372036854775807) ∧ (-9223372036854775808 ≤ b.Hi * s ∧ b.Hi * s ≤ 9223372036854775807)) : spykeep4_MeasureTrue_1 b x s = some true := by
  unfold spykeep4_MeasureTrue_1
  cases hu : b.Unknown with
  | true => rfl
  | false =>
    rcases h with h | ⟨g1, g2⟩
    · rw [hu] at h; cases h
    · obtain ⟨k1, k2⟩ := h1 hu
      rw [w6_in k1, w6_in k2]
      simp [g1, g2]
theorem MeasureTrue_true (l : List Int) (hl : okL l) : spykeep4_MeasureTrue l = some true := by
  apply Has.val
  have h0 := okS.start hl
  unfold spykeep4_MeasureTrue
  refine (range_ok _ 0 3 h0 (by simp only []; omega) (by omega) (by omega) (by omega)).bind fun r1 ⟨e0, e1, s1⟩ => ?_
  have o1 := s1.ok h0 (by simp only []; omega); have b1 := s1.hi
  rw [w6_in (n := 2 * r1.1) (by omega), w6_in (n := 2 * r1.1 + 1) (by omega)]
  refine (range_ok _ _ 9 o1 (by simp only [] at b1; omega) (by omega) (by omega) (by omega)).bind fun r2 ⟨w0, w1, s2⟩ => ?_
  have o2 := s2.ok o1 (by simp only [] at b1; omega); have b2 := s2.hi
  refine (range_ok _ _ 9 o2 (by simp only [] at b1; omega) (by omega) (by omega) (by omega)).bind fun r3 ⟨g0, g1, s3⟩ => ?_
  have o3 := s3.ok o2 (by simp only [] at b1; omega); have b3 := s3.hi
  refine (range_ok _ 1 3 o3 (by simp only [] at b1; omega) (by omega) (by omega) (by omega)).bind fun r4 ⟨k0, k1, s4⟩ => ?_
  have o4 := s4.ok o3 (by simp only [] at b1; omega); have b4 := s4.hi
  refine (lights_ok _ r2.1 r3.1 r4.1 o4 (by simp only [] at b1; omega) (by omega) (by omega) (by omega) (by omega) (by omega) (by omega)).bind fun r5 ⟨v1, v2, v3, s5⟩ => ?_
  have o5 := s5.ok o4 (by simp only [] at b1; omega); have b5 := s5.hi
  have hA := area (show 1 ≤ r2.1 by omega) (show r2.1 ≤ 32 by omega) (show 1 ≤ r3.1 by omega) (show r3.1 ≤ 32 by omega)
  have vl := v1.len
  have vb : ∀ z ∈ r5.1, r5.2.1 ≤ z ∧ z ≤ 15036 := fun z hz => by have := v1.v z hz; omega
  refine (veil_ok _ r2.1 r3.1 r5.1 false o5 (by simp only [] at b1; omega) (by omega) (fun z hz => by have := vb z hz; omega)).bind fun r6 ⟨a1, a2, a3, a4, s6⟩ => ?_
  have o6 := s6.ok o5 (by simp only [] at b1; omega); have b6 := s6.hi
  refine (level_ok _ r5.2.1 o6 (by simp only [] at b1; omega) (by omega)).bind fun r7 ⟨l1, l2, l3, l4, l5, s7⟩ => ?_
  have o7 := s7.ok o6 (by simp only [] at b1; omega); have b7 := s7.hi
  rw [w6_in (n := r3.1 - 1) (by omega), w6_in (n := r3.1 - 1 - r1.1) (by omega), w6_in (n := r2.1 - 1) (by omega), w6_in (n := r2.1 - 1 - r1.1) (by omega)]
  refine (range_ok _ _ _ o7 (by simp only [] at b1; omega) (by omega) (by omega) (by omega)).bind fun r8 ⟨y0, y1, s8⟩ => ?_
  have o8 := s8.ok o7 (by simp only [] at b1; omega); have b8 := s8.hi
  refine (range_ok _ _ _ o8 (by simp only [] at b1; omega) (by omega) (by omega) (by omega)).bind fun r9 ⟨x0, x1, s9⟩ => ?_
  -- the field, the level, the place
  have cell : ∀ i : Int, 0 ≤ i → i < r6.1.At.length → (gt r6.1.At i).Unknown = false ∧ -1000 ≤ (gt r6.1.At i).Lo ∧ (gt r6.1.At i).Lo ≤ gt r5.1 i ∧ gt r5.1 i ≤ (gt r6.1.At i).Hi ∧ (gt r6.1.At i).Hi ≤ 16000 ∧ r5.2.1 ≤ gt r5.1 i ∧ gt r5.1 i ≤ 15036 := fun i i0 i1 => by
    have q := vb _ (gt_mem r5.1 i ⟨i0, by omega⟩)
    obtain ⟨p, u⟩ := a4 i i0 i1
    rcases p with e | ⟨_, p⟩
    · have := u rfl; rw [e] at this; cases this
    · exact ⟨u rfl, by omega, by omega, by omega, by omega, by omega, by omega⟩
  have cellM := fun (R : Bound → Prop) (h : ∀ i : Int, 0 ≤ i → i < r6.1.At.length → R (gt r6.1.At i)) => allI_mem (R := R) (xs := r6.1.At) h
  have fc : okF r6.1 := ⟨by omega, by omega, by omega, by omega, by rw [a3, vl, a1, a2], cellM _ fun i i0 i1 => by
    obtain ⟨u, p⟩ := cell i i0 i1
    exact ⟨⟨fun e => (by rw [u] at e; cases e), by omega, by omega, by omega⟩, by omega, by omega⟩⟩
  have hk : ∀ b ∈ r6.1.At, b.Unknown = false := cellM _ fun i i0 i1 => (cell i i0 i1).1
  generalize hlv : Bound.mk (mn2 r7.1.Lo r5.2.1) (mx2 r7.1.Hi r5.2.1) r7.1.Unknown = lv
  have elv : lv.Unknown = false ∧ r5.2.1 - 5 ≤ lv.Lo ∧ lv.Lo ≤ r5.2.1 ∧ r5.2.1 ≤ lv.Hi ∧ lv.Hi ≤ r5.2.1 + 5 := by
    rw [← hlv]
    simp only []
    rw [mn2_min, mx2_max]
    exact ⟨l1, by omega, by omega, by omega, by omega⟩
  have lvo : lvl lv := ⟨elv.1, by omega, by omega, by omega⟩
  have hh : ∀ b ∈ r6.1.At, lv.Lo ≤ b.Hi := cellM _ fun i i0 i1 => by have := cell i i0 i1; omega
  have pw : 0 ≤ r8.1 * r2.1 := Int.mul_nonneg (by omega) (by omega)
  have pw2 : r8.1 * r2.1 + r2.1 ≤ r2.1 * r3.1 := by
    have := Int.mul_le_mul_of_nonneg_right (show r8.1 + 1 ≤ r3.1 by omega) (show 0 ≤ r2.1 by omega)
    rw [Int.add_mul, Int.one_mul, Int.mul_comm r3.1] at this; exact this
  rw [w6_in (n := r8.1 * r2.1) (by omega), w6_in (n := r8.1 * r2.1 + r9.1) (by omega)]
  generalize hp : r8.1 * r2.1 + r9.1 = p at *
  obtain ⟨pd, pm⟩ := (Int.ediv_emod_unique (show 0 < r2.1 by omega) (a := p) (q := r8.1) (r := r9.1)).2 ⟨by rw [Int.mul_comm]; omega, by omega, by omega⟩
  refine (measure_ok (s := Source_.mk p []) (r := r1.1) fc hk lvo hh (by simp only []; omega) (by simp only []; omega) (by omega) (by omega) (by simp only [a1, a2, pd, pm]; omega)).bind fun r10 ⟨m1, cells, v, xs, ys, c1, win, m2, xl, xa, yl, ya, ox, oy, mx, my⟩ => ?_
  have c1' : measure_Cells (Source_.mk p []) r2.1 r3.1 r1.1 = some cells := by rw [a1, a2] at c1; exact c1
  have zc := cells_ok (s := Source_.mk p []) (w := r2.1) (h := r3.1) (r := r1.1) ⟨by omega, by omega, by omega, by omega, by simp only []; omega, by simp only []; omega, by omega, by omega⟩
  have clen : (cells.length : Int) = (2 * r1.1 + 1) * (2 * r1.1 + 1) := by
    obtain ⟨q, e, _, hq⟩ := zc
    rw [c1'] at e; cases e
    exact hq (by simp only [pm]; omega) (by simp only [pm]; omega) (by simp only [pd]; omega) (by simp only [pd]; omega)
  have rr := prodle (a := 2 * r1.1 + 1) (b := 2 * r1.1 + 1) (c := 7) (d := 7) (by omega) (by omega) (by omega) (by omega)
  rw [c1', weighedFact, m1]
  simp only [Option.bind_some, Bool.not_true, Bool.false_eq_true, if_false, bne_self_eq_false]
  rw [w6_in (n := (2 * r1.1 + 1) * (2 * r1.1 + 1)) (by omega), clen]
  simp only [letF, bne_self_eq_false, Option.bind_some, Bool.false_eq_true, if_false]
  -- the light
  generalize hwt : (fun k : Int => gt r5.1 (gt cells k) - r5.2.1) = wt
  have wtv : ∀ k : Int, wt k = gt r5.1 (gt cells k) - r5.2.1 := fun k => by rw [← hwt]
  have cl := win.cl
  have wb : ∀ k : Int, 0 ≤ k → k < cells.length → 0 ≤ wt k ∧ wt k ≤ 15036 ∧ (gt v k).Lo ≤ wt k ∧ wt k ≤ (gt v k).Hi ∧ 0 ≤ xAt r2.1 (gt cells k) ∧ xAt r2.1 (gt cells k) ≤ 8191 ∧ 0 ≤ yAt r2.1 (gt cells k) ∧ yAt r2.1 (gt cells k) ≤ 8191 := fun k k0 k1 => by
    obtain ⟨i0, i1⟩ := cl.rng k k0 k1
    have q := cell _ i0 i1
    have e : gt v k = aboveB (gt r6.1.At (gt cells k)) lv := win.v k k0 (by have := win.len; omega)
    have m0 := Int.emod_nonneg (gt cells k) (b := r2.1) (by omega)
    have m1 := Int.emod_lt_of_pos (gt cells k) (b := r2.1) (by omega)
    have d0 := Int.ediv_nonneg i0 (show 0 ≤ r2.1 by omega)
    have d1 : gt cells k / r2.1 < r3.1 := by rw [Int.ediv_lt_iff_lt_mul (by omega), Int.mul_comm, ← vl]; omega
    rw [e, wtv]
    unfold aboveB xAt yAt
    simp only []
    omega
  have sumb : ∀ (f : Int → Int) (M : Int) (n : Nat), 0 ≤ M → (∀ k : Int, 0 ≤ k → k < n → 0 ≤ f k ∧ f k ≤ M) → n ≤ 49 → 0 ≤ sumN f n ∧ sumN f n ≤ M * 49 := fun f M n M0 hf hn => by
    have a := sumN_nn (f := f) (n := n) fun k k0 k1 => (hf k k0 k1).1
    have b := sumN_le (f := f) (g := fun _ => M * 1) (n := n) fun k k0 k1 => by have := (hf k k0 k1).2; omega
    have one : ∀ m : Nat, sumN (fun _ => (1 : Int)) m = m := fun m => by
      induction m with
      | zero => rfl
      | succ m ih => simp only [sumN]; rw [ih]; omega
    rw [sumN_mul, one] at b
    have c := Int.mul_le_mul_of_nonneg_left (show (n : Int) ≤ 49 by omega) M0
    omega
  have prod : ∀ k : Int, 0 ≤ k → k < cells.length → (0 ≤ wt k * xAt r2.1 (gt cells k) ∧ wt k * xAt r2.1 (gt cells k) ≤ 123159876) ∧ (0 ≤ wt k * yAt r2.1 (gt cells k) ∧ wt k * yAt r2.1 (gt cells k) ≤ 123159876) := fun k k0 k1 => by
    obtain ⟨p0, p1, _, _, p2, p3, p4, p5⟩ := wb k k0 k1
    have q1 := Int.mul_nonneg p0 p2; have q2 := Int.mul_nonneg p0 p4
    have q3 := prodle p0 p2 p1 p3; have q4 := prodle p0 p4 p1 p5
    omega
  refine Has.seq (P := fun t : Step (Int × Int × Int) Bool => t = .next (sumN wt cells.length, sumN (fun k => wt k * xAt r2.1 (gt cells k)) cells.length, sumN (fun k => wt k * yAt r2.1 (gt cells k)) cells.length)) ?_ (fun q hq => ?_) (fun o ho => by cases ho)
  · refine Has.loop (fun t : Int × Int × Int × Int => 0 ≤ t.2.2.2 ∧ t.2.2.2 ≤ cells.length ∧ t.1 = sumN wt t.2.2.2.toNat ∧ t.2.1 = sumN (fun k => wt k * xAt r2.1 (gt cells k)) t.2.2.2.toNat ∧ t.2.2.1 = sumN (fun k => wt k * yAt r2.1 (gt cells k)) t.2.2.2.toNat) (fun t => (cells.length - t.2.2.2).toNat) _ ⟨Int.le_refl _, by simp only []; omega, rfl, rfl, rfl⟩ (by simp only []; omega) fun t ⟨t0, t1, t2, t3, t4⟩ => ?_
    unfold spykeep4_MeasureTrue.l1
    refine Has.ite (fun hi => ?_) fun hi => ?_
    · have hi : t.2.2.2 < cells.length := of_decide_eq_true hi
      obtain ⟨i0, i1⟩ := cl.rng t.2.2.2 t0 hi
      have g1 : ¬ gt cells t.2.2.2 < 0 := by omega
      have g2 : ¬ gt cells t.2.2.2 ≥ (r5.1.length : Int) := by omega
      have m0 := Int.emod_nonneg (gt cells t.2.2.2) (b := r2.1) (by omega)
      have m1 := Int.emod_lt_of_pos (gt cells t.2.2.2) (b := r2.1) (by omega)
      have d0 := Int.ediv_nonneg i0 (show 0 ≤ r2.1 by omega)
      have d1 : gt cells t.2.2.2 / r2.1 < r3.1 := by rw [Int.ediv_lt_iff_lt_mul (by omega), Int.mul_comm, ← vl]; omega
      obtain ⟨p0, p1, _⟩ := wb t.2.2.2 t0 hi
      obtain ⟨⟨px0, px1⟩, ⟨py0, py1⟩⟩ := prod t.2.2.2 t0 hi
      have es : (t.2.2.2 + 1).toNat = t.2.2.2.toNat + 1 := by omega
      have en : ((t.2.2.2.toNat : Nat) : Int) = t.2.2.2 := by omega
      have sb1 := sumb wt 15036 t.2.2.2.toNat (by decide) (fun k k0 k1 => by have := wb k k0 (by omega); omega) (by omega)
      have sb2 := sumb (fun k => wt k * xAt r2.1 (gt cells k)) 123159876 t.2.2.2.toNat (by decide) (fun k k0 k1 => (prod k k0 (by omega)).1) (by omega)
      have sb3 := sumb (fun k => wt k * yAt r2.1 (gt cells k)) 123159876 t.2.2.2.toNat (by decide) (fun k k0 k1 => (prod k k0 (by omega)).2) (by omega)
      have ew := wtv t.2.2.2
      have ex : xAt r2.1 (gt cells t.2.2.2) = gt cells t.2.2.2 % r2.1 * 256 + 128 := rfl
      have ey : yAt r2.1 (gt cells t.2.2.2) = gt cells t.2.2.2 / r2.1 * 256 + 128 := rfl
      refine Has.chk ⟨t0, hi⟩ (Has.bind (P := fun z => z = false) (Has.neg (by simp [g1]) (Has.ret (decide_eq_false g2))) fun z hz => Has.neg (by rw [hz]; decide) ?_)
      refine Has.chk ⟨i0, by omega⟩ (Has.chk (by omega) ?_)
      rw [Int.tmod_eq_emod_of_nonneg i0, Int.tdiv_eq_ediv_of_nonneg i0, ← ew, w6_in (n := wt t.2.2.2) (by omega), w6_in (n := gt cells t.2.2.2 % r2.1 * 256) (by omega), w6_in (n := gt cells t.2.2.2 % r2.1 * 256 + 128) (by omega), w6_in (n := gt cells t.2.2.2 / r2.1) (by omega), w6_in (n := gt cells t.2.2.2 / r2.1 * 256) (by omega), w6_in (n := gt cells t.2.2.2 / r2.1 * 256 + 128) (by omega), ← ex, ← ey]
      refine Has.letF (Has.letF (Has.letF ?_))
      rw [t2, t3, t4, w6_in (n := wt t.2.2.2 * xAt r2.1 (gt cells t.2.2.2)) (by omega), w6_in (n := wt t.2.2.2 * yAt r2.1 (gt cells t.2.2.2)) (by omega), w6_in (n := sumN (fun k => wt k * yAt r2.1 (gt cells k)) t.2.2.2.toNat + wt t.2.2.2 * yAt r2.1 (gt cells t.2.2.2)) (by omega), w6_in (n := sumN wt t.2.2.2.toNat + wt t.2.2.2) (by omega), w6_in (n := sumN (fun k => wt k * xAt r2.1 (gt cells k)) t.2.2.2.toNat + wt t.2.2.2 * xAt r2.1 (gt cells t.2.2.2)) (by omega), w6_in (n := t.2.2.2 + 1) (by omega)]
      refine Has.ret (.next ⟨by simp only []; omega, by simp only []; omega, ?_, ?_, ?_⟩ (by simp only []; omega)) <;> simp only [es, sumN, en]
    · have hi : ¬ t.2.2.2 < cells.length := fun x => hi (decide_eq_true x)
      have e : t.2.2.2.toNat = cells.length := by omega
      refine Has.ret (.done ?_)
      rw [t2, t3, t4, e]
  · cases hq
    simp only []
    have sb1 := sumb wt 15036 cells.length (by decide) (fun k k0 k1 => by have := wb k k0 k1; omega) (by omega)
    have vlen := win.len
    have lo : sLo v ≤ sumN wt cells.length := by unfold sLo; rw [vlen]; exact sumN_le fun k k0 k1 => (wb k k0 k1).2.2.1
    have hi : sumN wt cells.length ≤ sHi v := by unfold sHi; rw [vlen]; exact sumN_le fun k k0 k1 => (wb k k0 k1).2.2.2.1
    have hx := mx.has ox wt fun k k0 k1 => by have := wb k k0 (by omega); omega
    have hy := my.has oy wt fun k k0 k1 => by have := wb k k0 (by omega); omega
    have exs : sumN (fun k => wt k * gt xs k) cells.length = sumN (fun k => wt k * xAt r2.1 (gt cells k)) cells.length := sumN_congr fun k k0 k1 => by rw [xa k k0 (by omega), a1]
    have eys : sumN (fun k => wt k * gt ys k) cells.length = sumN (fun k => wt k * yAt r2.1 (gt cells k)) cells.length := sumN_congr fun k k0 k1 => by rw [ya k k0 (by omega), a1]
    rw [xl, exs] at hx
    rw [yl, eys] at hy
    have bnd : ∀ {a : List Int} {b : Bound}, isMean a v b → b.Unknown = false → (-9223372036854775808 ≤ b.Lo * sumN wt cells.length ∧ b.Lo * sumN wt cells.length ≤ 9223372036854775807) ∧ (-9223372036854775808 ≤ b.Hi * sumN wt cells.length ∧ b.Hi * sumN wt cells.length ≤ 9223372036854775807) := fun {a b} hm hu => by
      have key : ∀ g : Int, -8191 ≤ g → g ≤ 8191 → -9223372036854775808 ≤ g * sumN wt cells.length ∧ g * sumN wt cells.length ≤ 9223372036854775807 := fun g g0 g1 => by
        have p := Int.mul_le_mul_of_nonneg_right g1 sb1.1
        have q := Int.mul_le_mul_of_nonneg_right g0 sb1.1
        omega
      by_cases hk : ∃ k : Int, 0 ≤ k ∧ k < v.length ∧ 0 < (gt v k).Lo
      · obtain ⟨_, _, _, q1, q2, q3, q4⟩ := hm.yes hk
        exact ⟨key _ q1 q2, key _ q3 q4⟩
      · have := hm.no hk; rw [hu] at this; cases this
    rw [m2, in_ok hx (bnd mx), in_ok hy (bnd my)]
    simp only [lo, hi, decide_true, Bool.not_false, if_true, Option.bind_some]
    exact Has.ret rfl
end Lf
