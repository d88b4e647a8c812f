/- Laws of the plain functions. Conditions: as each theorem states them. -/
import Derived.Test.YtmcknemnbkajmaaD
import Derived.Test.YtmcknemnbkajmaaA4
import Derived.Lib.Mul64
/- Plain facts of streams and bounds, for the functions of MesD. -/
namespace Lf
open Go Go.Abs
set_option linter.unusedVariables false
set_option linter.unusedSimpArgs false
/-! streams -/
/-- What a stream must be. -/
structure okS (s : spymake_Stream) : Prop where
  z : ∀ z ∈ s.L, -9223372036854775808 ≤ z ∧ z ≤ 9223372036854775807
  len : s.L.length ≤ 17592186044416
  a0 : 0 ≤ s.at_
  a1 : s.at_ ≤ 4611686018427387904
theorem okS.start {l : List Int} (h : okL l) : okS (spymake_Stream.mk l 0) := ⟨h.z, by have := h.len; simp only []; omega, Int.le_refl _, by simp only []; omega⟩
/-- What is true of a stream that another one has become. -/
structure after (s t : spymake_Stream) (k : Int) : Prop where
  L : t.L = s.L
  lo : s.at_ ≤ t.at_
  hi : t.at_ ≤ s.at_ + k
theorem after.refl (s : spymake_Stream) : after s s 0 := ⟨rfl, Int.le_refl _, by omega⟩
theorem after.trans {s t u : spymake_Stream} {k m : Int} (h : after s t k) (g : after t u m) : after s u (k + m) := ⟨g.L.trans h.L, Int.le_trans h.lo g.lo, by have := h.hi; have := g.hi; omega⟩
theorem after.more {s t : spymake_Stream} {k m : Int} (h : after s t k) (hk : k ≤ m) : after s t m := ⟨h.L, h.lo, by have := h.hi; omega⟩
theorem after.ok {s t : spymake_Stream} {k : Int} (h : after s t k) (g : okS s) (hk : s.at_ + k ≤ 4611686018427387904) : okS t := ⟨by rw [h.L]; exact g.z, by rw [h.L]; exact g.len, by have := h.lo; have := g.a0; omega, by have := h.hi; omega⟩
theorem below_ok (x n : Int) (hx : -9223372036854775808 ≤ x ∧ x ≤ 9223372036854775807) (hn : 1 ≤ n ∧ n ≤ 9223372036854775807) : Has (spymake_Below x n) fun v => 0 ≤ v ∧ v < n := by
  unfold spymake_Below
  have h1 := Int.lt_tmod_of_pos x (b := n) (by omega)
  have h2 := Int.tmod_lt_of_pos x (b := n) (by omega)
  refine Has.neg (by simp; omega) (Has.chk (by omega) (Has.ite (fun h => Has.ret ?_) fun h => Has.ret ?_))
  · simp only [decide_eq_true_eq] at h; rw [w6_in (by omega)]; omega
  · simp only [decide_eq_true_eq] at h; omega
theorem below_zero (x n : Int) (hn : n ≤ 0) : spymake_Below x n = some 0 := by unfold spymake_Below; rw [if_pos (by simp; omega)]
theorem next_ok (s : spymake_Stream) (n : Int) (hs : okS s) (ha : s.at_ < 4611686018427387904) (hn : 1 ≤ n ∧ n ≤ 9223372036854775807) : Has (Stream_Next s n) fun r => 0 ≤ r.1 ∧ r.1 < n ∧ after s r.2 1 := by
  have h0 := hs.a0
  have hl := hs.len
  have e1 : w6 (s.at_ + 1) = s.at_ + 1 := w6_in (by omega)
  have fin : after s (spymake_Stream.mk s.L (s.at_ + 1)) 1 := ⟨rfl, by simp only []; omega, Int.le_refl _⟩
  unfold Stream_Next
  simp only [e1]
  refine Has.ite (fun hz => ?_) fun hz => ?_
  · exact (below_ok _ n (w6_bd _) hn).bind fun v hv => Has.ret ⟨hv.1, hv.2, fin⟩
  · have hz : s.L.length ≠ 0 := by simpa using hz
    have e2 : w6 (s.at_ + 1 - 1) = s.at_ := by rw [w6_in (by omega)]; omega
    have b1 := Int.tmod_nonneg (s.L.length : Int) hs.a0
    have b2 := Int.tmod_lt_of_pos s.at_ (b := (s.L.length : Int)) (by omega)
    simp only [e2]
    refine Has.chk (by omega) (Has.chk ⟨b1, b2⟩ ?_)
    refine (below_ok _ 1073741824 (hs.z _ (gt_mem _ _ ⟨b1, b2⟩)) (by omega)).bind fun v hv => Has.letF (Has.letF ?_)
    exact (below_ok _ n (w6_bd _) hn).bind fun u hu => Has.ret ⟨hu.1, hu.2, fin⟩
theorem range_ok (s : spymake_Stream) (lo hi : Int) (hs : okS s) (ha : s.at_ < 4611686018427387904) (h : lo ≤ hi) (h1 : -2305843009213693952 ≤ lo) (h2 : hi ≤ 2305843009213693952) : Has (Stream_Range s lo hi) fun r => lo ≤ r.1 ∧ r.1 ≤ hi ∧ after s r.2 1 := by
  unfold Stream_Range
  rw [w6_in (n := hi - lo) (by omega), w6_in (n := hi - lo + 1) (by omega)]
  refine Has.neg (by simp; omega) ((next_ok s (hi - lo + 1) hs ha (by omega)).bind fun r hr => Has.ret ?_)
  rw [w6_in (by omega)]
  exact ⟨by omega, by omega, hr.2.2⟩
end Lf
/- Plain facts of bounds. -/
namespace Lf
open Go Go.Abs
set_option linter.unusedVariables false
set_option linter.unusedSimpArgs false
/-- A valid bound. -/
structure Bound.ok (b : Bound) : Prop where
  u : b.Unknown = true → b.Lo = 0 ∧ b.Hi = 0
  lo : -1152921504606846976 ≤ b.Lo
  le : b.Lo ≤ b.Hi
  hi : b.Hi ≤ 1152921504606846976
theorem check_ok {b : Bound} (h : b.ok) : bound_Check b = some 0 := by
  obtain ⟨h1, h2, h3, h4⟩ := h
  unfold bound_Check
  rw [mn2_le h3, mx2_le h3]
  have e1 : ¬ b.Lo < -1152921504606846976 := by omega
  have e2 : ¬ b.Hi > 1152921504606846976 := by omega
  have e3 : ¬ b.Lo > b.Hi := by omega
  cases hu : b.Unknown with
  | false => simp [e1, e2, e3]
  | true => obtain ⟨q1, q2⟩ := h1 hu; simp [q1, q2]
theorem norm_ok {b : Bound} (h : b.ok) : bound_Norm b = some b := by unfold bound_Norm; rw [check_ok h]; rfl
theorem vague_ok {a b : Bound} (ha : a.ok) (hb : b.ok) : bound_vague a b = some (a.Unknown || b.Unknown) := by
  unfold bound_vague; rw [norm_ok ha, norm_ok hb]; cases h : a.Unknown <;> simp [h]
theorem none_ok : bound_None = some ⟨0, 0, true⟩ := rfl
theorem okNone : Bound.ok ⟨0, 0, true⟩ := ⟨fun _ => ⟨rfl, rfl⟩, by decide, by decide, by decide⟩
theorem okKnown {lo hi : Int} (h1 : -1152921504606846976 ≤ lo) (h2 : lo ≤ hi) (h3 : hi ≤ 1152921504606846976) : Bound.ok ⟨lo, hi, false⟩ := ⟨(fun h => nomatch h), h1, h2, h3⟩
theorem of_ok {lo hi : Int} (h1 : -1152921504606846976 ≤ lo) (h2 : lo ≤ hi) (h3 : hi ≤ 1152921504606846976) : bound_Of lo hi = some ⟨lo, hi, false⟩ := by
  unfold bound_Of; rw [norm_ok (okKnown h1 h2 h3)]; rfl
end Lf
/- Sums over places. -/
namespace Lf
open Go Go.Abs
set_option linter.unusedVariables false
def sumN (f : Int → Int) : Nat → Int
  | 0 => 0
  | n + 1 => sumN f n + f n
theorem sumN_congr {f g : Int → Int} : ∀ {n : Nat}, (∀ j : Int, 0 ≤ j → j < n → f j = g j) → sumN f n = sumN g n
  | 0, _ => rfl
  | n + 1, h => by
    unfold sumN
    rw [sumN_congr fun j j0 j1 => h j j0 (by omega), h n (by omega) (by omega)]
theorem sumN_add (f g : Int → Int) : ∀ n : Nat, sumN (fun j => f j + g j) n = sumN f n + sumN g n
  | 0 => by simp [sumN]
  | n + 1 => by simp only [sumN]; rw [sumN_add f g n]; omega
theorem sumN_zero : ∀ n : Nat, sumN (fun _ => 0) n = 0
  | 0 => rfl
  | n + 1 => by simp only [sumN]; rw [sumN_zero n]; rfl
theorem sumN_mul (c : Int) (f : Int → Int) : ∀ n : Nat, sumN (fun j => c * f j) n = c * sumN f n
  | 0 => by simp [sumN]
  | n + 1 => by simp only [sumN]; rw [sumN_mul c f n, Int.mul_add]
/-- Sums may be taken in either order. -/
theorem sumN_swap (f : Int → Int → Int) (m : Nat) : ∀ n : Nat, sumN (fun i => sumN (fun j => f i j) m) n = sumN (fun j => sumN (fun i => f i j) n) m
  | 0 => by simp only [sumN]; exact (sumN_zero m).symm
  | n + 1 => by
    simp only [sumN]
    rw [sumN_swap f m n, ← sumN_add]
/-- A sum of which one place counts. -/
theorem sumN_one (k x : Int) (h0 : 0 ≤ k) : ∀ n : Nat, sumN (fun m => if m = k then x else 0) n = if k < n then x else 0
  | 0 => by simp only [sumN]; rw [if_neg (by omega)]
  | n + 1 => by
    simp only [sumN]
    rw [sumN_one k x h0 n]
    by_cases h : k < n
    · rw [if_pos h, if_neg (by omega), if_pos (by omega)]; omega
    · rw [if_neg h]
      by_cases e : (n : Int) = k
      · rw [if_pos e, if_pos (by omega)]; omega
      · rw [if_neg e, if_neg (by omega)]; rfl
end Lf
/- Quotients rounded up. -/
namespace Lf
open Go Go.Abs
set_option linter.unusedVariables false
set_option linter.unusedSimpArgs false
theorem neg_div (m d : Int) (hd : 0 < d) : (m % d = 0 ∧ (-m) / d = -(m / d) ∧ (-m) % d = 0) ∨ (0 < m % d ∧ (-m) / d = -(m / d) - 1 ∧ (-m) % d = d - m % d) := by
  have h1 := Int.mul_ediv_add_emod m d
  have h2 := Int.emod_nonneg m (b := d) (by omega)
  have h3 := Int.emod_lt_of_pos m hd
  by_cases h : m % d = 0
  · left
    have := (Int.ediv_emod_unique hd (a := -m) (q := -(m / d)) (r := 0)).2 ⟨by rw [Int.mul_neg]; omega, by omega, by omega⟩
    exact ⟨h, this.1, this.2⟩
  · right
    have := (Int.ediv_emod_unique hd (a := -m) (q := -(m / d) - 1) (r := d - m % d)).2 ⟨by rw [Int.mul_sub, Int.mul_neg]; omega, by omega, by omega⟩
    exact ⟨by omega, this.1, this.2⟩
def cdiv (x d : Int) : Int := -((-x) / d)
theorem cdiv_up {x d : Int} (hd : 0 < d) : (x % d = 0 → cdiv x d = x / d) ∧ (0 < x % d → cdiv x d = x / d + 1) := by
  unfold cdiv
  rcases neg_div x d hd with ⟨a, b, c⟩ | ⟨a, b, c⟩
  · exact ⟨fun _ => by omega, fun h => by omega⟩
  · exact ⟨fun h => by omega, fun _ => by omega⟩
theorem cdiv_mono {x y d : Int} (hd : 0 < d) (h : x ≤ y) : cdiv x d ≤ cdiv y d := by
  unfold cdiv
  have := Int.ediv_le_ediv hd (show -y ≤ -x by omega)
  omega
theorem fl_le_ce {x d : Int} (hd : 0 < d) : x / d ≤ cdiv x d ∧ cdiv x d ≤ x / d + 1 := by
  unfold cdiv
  rcases neg_div x d hd with ⟨a, b, c⟩ | ⟨a, b, c⟩ <;> omega
theorem cdiv_le {x d g : Int} (hd : 0 < d) : cdiv x d ≤ g ↔ x ≤ g * d := by
  unfold cdiv
  have h := Int.le_ediv_iff_mul_le (a := -g) (b := -x) hd
  rw [Int.neg_mul] at h
  omega
end Lf
/- The mean of places whose weights are known within bounds. -/
namespace Lf
open Go Go.Abs
set_option linter.unusedVariables false
set_option linter.unusedSimpArgs false
theorem sumN_le {f g : Int → Int} : ∀ {n : Nat}, (∀ j : Int, 0 ≤ j → j < n → f j ≤ g j) → sumN f n ≤ sumN g n
  | 0, _ => Int.le_refl _
  | n + 1, h => by
    have i := sumN_le (n := n) fun j j0 j1 => h j j0 (by omega)
    have k := h n (by omega) (by omega)
    simp only [sumN]; omega
theorem sumN_nn {f : Int → Int} {n : Nat} (h : ∀ j : Int, 0 ≤ j → j < n → 0 ≤ f j) : 0 ≤ sumN f n := by
  have := sumN_le (f := fun _ => 0) (g := f) h
  rw [sumN_zero] at this; exact this
theorem sumN_at {f : Int → Int} : ∀ {n : Nat} {k : Int}, (∀ j : Int, 0 ≤ j → j < n → 0 ≤ f j) → 0 ≤ k → k < n → f k ≤ sumN f n
  | 0, k, h, k0, k1 => by omega
  | n + 1, k, h, k0, k1 => by
    simp only [sumN]
    by_cases e : k = n
    · rw [e]; have := sumN_nn (f := f) (n := n) fun j j0 j1 => h j j0 (by omega); omega
    · have := sumN_at (n := n) (k := k) (fun j j0 j1 => h j j0 (by omega)) k0 (by omega)
      have := h n (by omega) (by omega)
      omega
theorem sumN_sub (f g : Int → Int) (n : Nat) : sumN (fun j => f j - g j) n = sumN f n - sumN g n := by
  induction n with
  | zero => rfl
  | succ n ih => simp only [sumN]; rw [ih]; omega
/-- The weight that makes the mean great, of place i, for a cut at place c. -/
def qW (a : List Int) (v : List Bound) (c i : Int) : Int := if gt a i > gt a c then (gt v i).Hi else (gt v i).Lo
def gS (a : List Int) (v : List Bound) (c : Int) (n : Nat) : Int := sumN (fun i => qW a v c i * gt a i) n
def gW (a : List Int) (v : List Bound) (c : Int) (n : Nat) : Int := sumN (qW a v c) n
structure okA (a : List Int) (v : List Bound) : Prop where
  len : v.length = a.length
  n0 : 1 ≤ a.length
  n1 : a.length ≤ 441
  a : allI a fun _ x => -8191 ≤ x ∧ x ≤ 8191
  v : allI v fun _ b => b.ok ∧ b.Unknown = false ∧ 0 ≤ b.Lo ∧ b.Hi ≤ 2199023255552
theorem qW_bd {a : List Int} {v : List Bound} (h : okA a v) {c i : Int} (i0 : 0 ≤ i) (i1 : i < a.length) : (gt v i).Lo ≤ qW a v c i ∧ qW a v c i ≤ (gt v i).Hi ∧ 0 ≤ qW a v c i ∧ qW a v c i ≤ 2199023255552 := by
  obtain ⟨o, _, l, u⟩ := h.v i i0 (by have := h.len; omega)
  have := o.le
  unfold qW
  split <;> omega
theorem qa_bd {q x : Int} (q0 : 0 ≤ q) (q1 : q ≤ 2199023255552) (x0 : -8191 ≤ x) (x1 : x ≤ 8191) : -18012199486226432 ≤ q * x ∧ q * x ≤ 18012199486226432 := by
  have p := Int.mul_le_mul_of_nonneg_left x1 q0
  have r := Int.mul_le_mul_of_nonneg_left x0 q0
  have s := Int.mul_le_mul_of_nonneg_right q1 (show (0 : Int) ≤ 8191 by decide)
  omega
theorem gS_bd {a : List Int} {v : List Bound} (h : okA a v) (c : Int) : ∀ n : Nat, n ≤ a.length → (-(n * 18012199486226432) ≤ gS a v c n ∧ gS a v c n ≤ n * 18012199486226432) ∧ (0 ≤ gW a v c n ∧ gW a v c n ≤ n * 2199023255552)
  | 0, _ => by simp [gS, gW, sumN]
  | n + 1, hn => by
    obtain ⟨p, q⟩ := gS_bd h c n (by omega)
    obtain ⟨_, _, w0, w1⟩ := qW_bd h (c := c) (i := n) (by omega) (by omega)
    obtain ⟨x0, x1⟩ := h.a n (by omega) (by omega)
    have m := qa_bd w0 w1 x0 x1
    unfold gS gW at *
    simp only [sumN]
    rw [show ((n + 1 : Nat) : Int) = n + 1 from by omega, Int.add_mul, Int.add_mul]
    omega
theorem ceilDiv_ok {a b : Int} (ha : -9223372036854775807 ≤ a ∧ a ≤ 9223372036854775806) (hb : 1 ≤ b) : num_CeilDiv a b = some (cdiv a b) := by
  apply Has.val
  unfold num_CeilDiv
  refine Has.neg (by simp; omega) (Has.chk (by omega) ?_)
  obtain ⟨u1, u2⟩ := cdiv_up (x := a) (d := b) (by omega)
  have m0 := Int.emod_nonneg a (b := b) (by omega)
  have m1 := Int.emod_lt_of_pos a (b := b) (by omega)
  rcases Int.le_total 0 a with h | h
  · have d0 := Int.ediv_nonneg h (show 0 ≤ b by omega)
    have d1 := Int.ediv_le_self b h
    rw [Int.tmod_eq_emod_of_nonneg h, Int.tdiv_eq_ediv_of_nonneg h, w6_in (n := a / b) (by omega)]
    refine Has.ite (fun q => ?_) fun q => ?_
    · have q : a % b > 0 := of_decide_eq_true q
      rw [w6_in (by omega), u2 q]; exact Has.ret rfl
    · have q : ¬ a % b > 0 := fun x => q (decide_eq_true x)
      rw [u1 (by omega)]; exact Has.ret rfl
  · have e : Int.tdiv a b = -((-a) / b) := by rw [← Int.tdiv_eq_ediv_of_nonneg (a := -a) (by omega), Int.neg_tdiv, Int.neg_neg]
    have e2 : Int.tmod a b ≤ 0 := by
      have := Int.tmod_nonneg b (a := -a) (by omega)
      rw [Int.neg_tmod] at this; omega
    have d0 := Int.ediv_nonneg (a := -a) (by omega) (show 0 ≤ b by omega)
    have d1 := Int.ediv_le_self b (a := -a) (by omega)
    refine Has.neg (by simp; omega) ?_
    rw [e, w6_in (by omega)]
    exact Has.ret rfl
/-- The greatest mean. -/
structure isGr (a : List Int) (v : List Bound) (g : Int) : Prop where
  all : ∀ c : Int, 0 ≤ c → c < a.length → cdiv (gS a v c a.length) (gW a v c a.length) ≤ g
  ex : ∃ c : Int, 0 ≤ c ∧ c < a.length ∧ g = cdiv (gS a v c a.length) (gW a v c a.length)
theorem gW_pos {a : List Int} {v : List Bound} (h : okA a v) (hs : ∃ k : Int, 0 ≤ k ∧ k < v.length ∧ 0 < (gt v k).Lo) (c : Int) : 1 ≤ gW a v c a.length := by
  obtain ⟨k, k0, k1, k2⟩ := hs
  have hl := h.len
  have q := qW_bd h (c := c) k0 (by omega)
  have := sumN_at (f := qW a v c) (n := a.length) (k := k) (fun j j0 j1 => (qW_bd h (c := c) j0 (by omega)).2.2.1) k0 (by omega)
  unfold gW; omega
theorem cd_bd {a : List Int} {v : List Bound} (h : okA a v) {c : Int} (hw : 1 ≤ gW a v c a.length) : -8191 ≤ cdiv (gS a v c a.length) (gW a v c a.length) ∧ cdiv (gS a v c a.length) (gW a v c a.length) ≤ 8191 := by
  have q := fun (j : Int) j0 j1 => qW_bd h (c := c) (i := j) j0 j1
  have up : gS a v c a.length ≤ 8191 * gW a v c a.length := by
    unfold gS gW; rw [← sumN_mul]
    refine sumN_le fun j j0 j1 => ?_
    have x := h.a j j0 j1
    have := Int.mul_le_mul_of_nonneg_left x.2 (q j j0 j1).2.2.1
    rw [Int.mul_comm 8191]; exact this
  have lo : -8191 * gW a v c a.length ≤ gS a v c a.length := by
    unfold gS gW; rw [← sumN_mul]
    refine sumN_le fun j j0 j1 => ?_
    have x := h.a j j0 j1
    have := Int.mul_le_mul_of_nonneg_left x.1 (q j j0 j1).2.2.1
    rw [Int.mul_comm (-8191)]; exact this
  refine ⟨?_, (cdiv_le (by omega)).2 up⟩
  rcases Int.lt_or_le (cdiv (gS a v c a.length) (gW a v c a.length)) (-8191) with hc | hc
  · have := (cdiv_le (x := gS a v c a.length) (d := gW a v c a.length) (g := -8192) (by omega)).1 (by omega)
    omega
  · exact hc
theorem greatest_ok {a : List Int} {v : List Bound} (h : okA a v) (hs : ∃ k : Int, 0 ≤ k ∧ k < v.length ∧ 0 < (gt v k).Lo) : Has (measure_greatest a v) fun g => isGr a v g ∧ -8191 ≤ g ∧ g ≤ 8191 := by
  have n0 := h.n0; have n1 := h.n1; have hl := h.len
  unfold measure_greatest
  refine Has.bind (P := fun g => isGr a v g ∧ -8191 ≤ g ∧ g ≤ 8191) ?_ fun g hg => Has.ret hg
  refine Has.loop (fun s : Int × Int => 0 ≤ s.2 ∧ s.2 ≤ a.length ∧ (∀ c : Int, 0 ≤ c → c < s.2 → cdiv (gS a v c a.length) (gW a v c a.length) ≤ s.1) ∧ ((s.2 = 0 ∧ s.1 = -4611686018427387904) ∨ ∃ c : Int, 0 ≤ c ∧ c < s.2 ∧ s.1 = cdiv (gS a v c a.length) (gW a v c a.length))) (fun s => (a.length - s.2).toNat) _ ⟨Int.le_refl _, by simp only []; omega, fun c c0 c1 => by simp only [] at c1; omega, .inl ⟨rfl, rfl⟩⟩ (by simp only []; omega) fun s ⟨s0, s1, s2, s3⟩ => ?_
  unfold measure_greatest.l1
  refine Has.ite (fun hi => ?_) fun hi => ?_
  · have hi : s.2 < a.length := of_decide_eq_true hi
    refine Has.chk ⟨s0, hi⟩ (Has.bind (P := fun z : Int × Int => z = (gS a v s.2 a.length, gW a v s.2 a.length)) ?_ fun z hz => ?_)
    · refine Has.loop (fun t : Int × Int × Int => 0 ≤ t.2.2 ∧ t.2.2 ≤ a.length ∧ t.1 = gS a v s.2 t.2.2.toNat ∧ t.2.1 = gW a v s.2 t.2.2.toNat) (fun t => (a.length - t.2.2).toNat) _ ⟨Int.le_refl _, by simp only []; omega, rfl, rfl⟩ (by simp only []; omega) fun t ⟨t0, t1, t2, t3⟩ => ?_
      unfold measure_greatest.l2
      refine Has.ite (fun hj => ?_) fun hj => ?_
      · have hj : t.2.2 < v.length := of_decide_eq_true hj
        have es : (t.2.2 + 1).toNat = t.2.2.toNat + 1 := by omega
        have en : ((t.2.2.toNat : Nat) : Int) = t.2.2 := by omega
        obtain ⟨b1, b2⟩ := gS_bd h s.2 t.2.2.toNat (by omega)
        obtain ⟨x0, x1⟩ := h.a t.2.2 t0 (by omega)
        obtain ⟨o, _, l, u⟩ := h.v t.2.2 t0 hj
        have ole := o.le
        have mh := qa_bd (q := (gt v t.2.2).Hi) (by omega) (by omega) x0 x1
        have ml := qa_bd (q := (gt v t.2.2).Lo) (by omega) (by omega) x0 x1
        rw [en] at b1 b2
        have f1 : t.2.2 * 18012199486226432 ≤ 440 * 18012199486226432 := Int.mul_le_mul_of_nonneg_right (by omega) (by decide)
        have f2 : t.2.2 * 2199023255552 ≤ 440 * 2199023255552 := Int.mul_le_mul_of_nonneg_right (by omega) (by decide)
        refine Has.chk ⟨t0, hj⟩ (Has.chk ⟨t0, by omega⟩ (Has.ite (fun hc => ?_) fun hc => ?_))
        · have hc : gt a t.2.2 > gt a s.2 := of_decide_eq_true hc
          rw [t2, t3, w6_in (n := (gt v t.2.2).Hi * gt a t.2.2) (by omega), w6_in (n := gS a v s.2 t.2.2.toNat + (gt v t.2.2).Hi * gt a t.2.2) (by omega), w6_in (n := gW a v s.2 t.2.2.toNat + (gt v t.2.2).Hi) (by omega), w6_in (n := t.2.2 + 1) (by omega)]
          have eq : qW a v s.2 t.2.2 = (gt v t.2.2).Hi := by unfold qW; rw [if_pos hc]
          refine Has.ret (.next ⟨by simp only []; omega, by simp only []; omega, ?_, ?_⟩ (by simp only []; omega))
          · simp only [es]; unfold gS; rw [sumN, en, eq]
          · simp only [es]; unfold gW; rw [sumN, en, eq]
        · have hc : ¬ gt a t.2.2 > gt a s.2 := fun q => hc (decide_eq_true q)
          rw [t2, t3, w6_in (n := (gt v t.2.2).Lo * gt a t.2.2) (by omega), w6_in (n := gS a v s.2 t.2.2.toNat + (gt v t.2.2).Lo * gt a t.2.2) (by omega), w6_in (n := gW a v s.2 t.2.2.toNat + (gt v t.2.2).Lo) (by omega), w6_in (n := t.2.2 + 1) (by omega)]
          have eq : qW a v s.2 t.2.2 = (gt v t.2.2).Lo := by unfold qW; rw [if_neg hc]
          refine Has.ret (.next ⟨by simp only []; omega, by simp only []; omega, ?_, ?_⟩ (by simp only []; omega))
          · simp only [es]; unfold gS; rw [sumN, en, eq]
          · simp only [es]; unfold gW; rw [sumN, en, eq]
      · have hj : ¬ t.2.2 < v.length := fun q => hj (decide_eq_true q)
        have e : t.2.2.toNat = a.length := by omega
        refine Has.ret (.done ?_)
        rw [t2, t3, e]
    · rw [hz]
      simp only []
      have hw := gW_pos h hs s.2
      obtain ⟨b1, b2⟩ := gS_bd h s.2 a.length (Nat.le_refl _)
      have f1 : (a.length : Int) * 18012199486226432 ≤ 441 * 18012199486226432 := Int.mul_le_mul_of_nonneg_right (by omega) (by decide)
      have cb := cd_bd h hw
      rw [ceilDiv_ok (by omega) hw, w6_in (by omega)]
      simp only [Option.bind_some]
      refine Has.ret (.next ⟨by simp only []; omega, by simp only []; omega, fun c c0 c1 => ?_, .inr ?_⟩ (by simp only []; omega))
      · simp only [] at c1 ⊢
        by_cases e : c = s.2
        · rw [e]; rcases mx2_def s.1 (cdiv (gS a v s.2 a.length) (gW a v s.2 a.length)) with ⟨e, h⟩ | ⟨e, h⟩ <;> rw [e] <;> omega
        · have := s2 c c0 (by omega)
          rcases mx2_def s.1 (cdiv (gS a v s.2 a.length) (gW a v s.2 a.length)) with ⟨e, h⟩ | ⟨e, h⟩ <;> rw [e] <;> omega
      · simp only []
        rcases mx2_def s.1 (cdiv (gS a v s.2 a.length) (gW a v s.2 a.length)) with ⟨e, hm⟩ | ⟨e, hm⟩
        · rcases s3 with ⟨_, e1⟩ | ⟨c, c0, c1, e1⟩
          · omega
          · exact ⟨c, c0, by omega, by rw [e]; exact e1⟩
        · exact ⟨s.2, s0, by omega, e⟩
  · have hi : ¬ s.2 < a.length := fun q => hi (decide_eq_true q)
    have e : s.2 = a.length := by omega
    rcases s3 with ⟨e1, _⟩ | ⟨c, c0, c1, e1⟩
    · omega
    · have hw := gW_pos h hs c
      refine Has.ret (.done ⟨⟨fun c c0 c1 => s2 c c0 (by omega), c, c0, by omega, e1⟩, ?_⟩)
      rw [e1]; exact cd_bd h hw
/-- Of the places at or below a number, one that is farthest up. -/
theorem top_below (a : List Int) (g : Int) : ∀ n : Nat, n ≤ a.length → (∀ i : Int, 0 ≤ i → i < n → g < gt a i) ∨ ∃ c : Int, 0 ≤ c ∧ c < n ∧ gt a c ≤ g ∧ ∀ i : Int, 0 ≤ i → i < n → gt a i ≤ g → gt a i ≤ gt a c
  | 0, _ => .inl fun i i0 i1 => by omega
  | n + 1, hn => by
    rcases top_below a g n (by omega) with h | ⟨c, c0, c1, c2, c3⟩
    · by_cases hg : gt a n ≤ g
      · refine .inr ⟨n, by omega, by omega, hg, fun i i0 i1 hi => ?_⟩
        by_cases e : i = n
        · rw [e]; exact Int.le_refl _
        · have := h i i0 (by omega); omega
      · refine .inl fun i i0 i1 => ?_
        by_cases e : i = n
        · rw [e]; omega
        · exact h i i0 (by omega)
    · by_cases hg : gt a n ≤ g ∧ gt a c < gt a n
      · refine .inr ⟨n, by omega, by omega, hg.1, fun i i0 i1 hi => ?_⟩
        by_cases e : i = n
        · rw [e]; exact Int.le_refl _
        · have := c3 i i0 (by omega) hi; omega
      · refine .inr ⟨c, c0, by omega, c2, fun i i0 i1 hi => ?_⟩
        by_cases e : i = n
        · rw [e] at hi ⊢; omega
        · exact c3 i i0 (by omega) hi
/-- No weights have a greater mean. -/
theorem mean_le {a : List Int} {v : List Bound} (h : okA a v) (hs : ∃ k : Int, 0 ≤ k ∧ k < v.length ∧ 0 < (gt v k).Lo) {g : Int} (hg : isGr a v g) (w : Int → Int) (hw : ∀ i : Int, 0 ≤ i → i < a.length → (gt v i).Lo ≤ w i ∧ w i ≤ (gt v i).Hi) :
    sumN (fun i => w i * gt a i) a.length ≤ g * sumN w a.length := by
  have n0 := h.n0; have hl := h.len
  have dif : ∀ q : Int → Int, sumN (fun i => q i * gt a i) a.length - g * sumN q a.length = sumN (fun i => q i * (gt a i - g)) a.length := fun q => by
    rw [← sumN_mul, ← sumN_sub]
    refine sumN_congr fun i _ _ => ?_
    rw [Int.mul_sub, Int.mul_comm g]
  have key : ∀ c : Int, 0 ≤ c → c < a.length → sumN (fun i => qW a v c i * (gt a i - g)) a.length ≤ 0 := fun c c0 c1 => by
    have hp := gW_pos h hs c
    have := (cdiv_le (by omega)).1 (hg.all c c0 c1)
    have d := dif (qW a v c)
    unfold gS gW at this
    omega
  have main : sumN (fun i => w i * (gt a i - g)) a.length ≤ 0 := by
    rcases top_below a g a.length (Nat.le_refl _) with ht | ⟨c, c0, c1, c2, c3⟩
    · exfalso
      obtain ⟨k, k0, k1, k2⟩ := hs
      have z := key 0 (Int.le_refl _) (by omega)
      have nn : ∀ j : Int, 0 ≤ j → j < a.length → 0 ≤ qW a v 0 j * (gt a j - g) := fun j j0 j1 => Int.mul_nonneg (qW_bd h j0 j1).2.2.1 (by have := ht j j0 j1; omega)
      have s := sumN_at (f := fun i => qW a v 0 i * (gt a i - g)) (n := a.length) (k := k) nn k0 (by omega)
      have p := Int.mul_pos (show 0 < qW a v 0 k by have := (qW_bd h (c := 0) k0 (show k < a.length by omega)).1; omega) (show 0 < gt a k - g by have := ht k k0 (by omega); omega)
      omega
    · have z := key c c0 c1
      have s := sumN_le (f := fun i => w i * (gt a i - g)) (g := fun i => qW a v c i * (gt a i - g)) (n := a.length) fun j j0 j1 => by
        obtain ⟨w0, w1⟩ := hw j j0 j1
        by_cases hj : gt a j ≤ g
        · have e : qW a v c j = (gt v j).Lo := by unfold qW; rw [if_neg (by have := c3 j j0 j1 hj; omega)]
          rw [e]
          exact Int.mul_le_mul_of_nonpos_right w0 (by omega)
        · have e : qW a v c j = (gt v j).Hi := by unfold qW; rw [if_pos (by omega)]
          rw [e]
          exact Int.mul_le_mul_of_nonneg_right w1 (by omega)
      omega
  have d := dif w
  omega
end Lf
/- Bounds as plain values: what each operation gives at whatever valid bounds. -/
namespace Lf
open Go Go.Abs
set_option linter.unusedVariables false
set_option linter.unusedSimpArgs false
def noneZ : Bound := ⟨0, 0, true⟩
def ofZ (lo hi : Int) : Bound := if lo ≤ hi ∧ -1152921504606846976 ≤ lo ∧ hi ≤ 1152921504606846976 then ⟨lo, hi, false⟩ else noneZ
theorem ofZ_eq (lo hi : Int) : bound_Of lo hi = some (ofZ lo hi) := by
  by_cases h : lo ≤ hi ∧ -1152921504606846976 ≤ lo ∧ hi ≤ 1152921504606846976
  · unfold ofZ; rw [if_pos h]; exact of_ok h.2.1 h.1 h.2.2
  · unfold ofZ; rw [if_neg h]
    have c : ∃ e, bound_Check ⟨lo, hi, false⟩ = some e ∧ e ≠ 0 := by
      unfold bound_Check
      simp only []
      by_cases h0 : lo ≤ hi
      · rw [mn2_le h0, mx2_le h0]
        by_cases g1 : lo < -1152921504606846976
        · exact ⟨4, by simp [g1], by decide⟩
        · have g2 : hi > 1152921504606846976 := by omega
          exact ⟨4, by simp [g1, g2], by decide⟩
      · rw [mn2_ge (by omega), mx2_ge (by omega)]
        have g0 : lo > hi := by omega
        by_cases g1 : hi < -1152921504606846976
        · exact ⟨4, by simp [g1], by decide⟩
        · by_cases g2 : lo > 1152921504606846976
          · exact ⟨4, by simp [g1, g2], by decide⟩
          · exact ⟨11, by simp [g0, g1, g2], by decide⟩
    obtain ⟨e, e1, e2⟩ := c
    unfold bound_Of bound_Norm
    rw [e1]
    simp [e2, bound_None, noneZ]
theorem ofZ_ok (lo hi : Int) : (ofZ lo hi).ok := by
  unfold ofZ
  split
  · rename_i h; exact ⟨(fun e => nomatch e), h.2.1, h.1, h.2.2⟩
  · exact okNone
theorem noneZ_ok : noneZ.ok := okNone
def addZ (a b : Bound) : Bound := if (a.Unknown || b.Unknown) = true then noneZ else ofZ (a.Lo + b.Lo) (a.Hi + b.Hi)
theorem addZ_eq {a b : Bound} (ha : a.ok) (hb : b.ok) : bound_Add a b = some (addZ a b) := by
  have := ha.lo; have := ha.le; have := ha.hi; have := hb.lo; have := hb.le; have := hb.hi
  unfold bound_Add addZ
  rw [vague_ok ha hb, w6_in (by omega), w6_in (by omega), ofZ_eq]
  simp only [Option.bind_some]
  split <;> rfl
theorem addZ_ok (a b : Bound) : (addZ a b).ok := by
  unfold addZ; split
  · exact noneZ_ok
  · exact ofZ_ok _ _
def negZ (b : Bound) : Bound := ⟨-b.Hi, -b.Lo, b.Unknown⟩
theorem negZ_ok {b : Bound} (h : b.ok) : (negZ b).ok := by
  obtain ⟨h1, h2, h3, h4⟩ := h
  exact ⟨fun e => by obtain ⟨p, q⟩ := h1 e; simp [negZ, p, q], by simp only [negZ]; omega, by simp only [negZ]; omega, by simp only [negZ]; omega⟩
/-- Everything that one bound admits is admitted by another one. -/
def inZ (a b : Bound) : Prop := b.Unknown = true ∨ (a.Unknown = false ∧ b.Lo ≤ a.Lo ∧ a.Hi ≤ b.Hi)
def hasZ (b : Bound) (v : Int) : Prop := b.Unknown = true ∨ (b.Lo ≤ v ∧ v ≤ b.Hi)
theorem hasZ_none (v : Int) : hasZ noneZ v := .inl rfl
theorem hasZ_of {lo hi v : Int} (h1 : lo ≤ v) (h2 : v ≤ hi) : hasZ (ofZ lo hi) v := by
  unfold ofZ; split
  · exact .inr ⟨h1, h2⟩
  · exact hasZ_none v
theorem hasZ_add {a b : Bound} {x y : Int} (ha : hasZ a x) (hb : hasZ b y) : hasZ (addZ a b) (x + y) := by
  unfold addZ; split
  · exact hasZ_none _
  · rename_i h
    have h : a.Unknown = false ∧ b.Unknown = false := by simpa using h
    rcases ha with e | ha
    · rw [h.1] at e; cases e
    · rcases hb with e | hb
      · rw [h.2] at e; cases e
      · exact hasZ_of (by omega) (by omega)
theorem hasZ_neg {b : Bound} {x : Int} (h : hasZ b x) : hasZ (negZ b) (-x) := by
  rcases h with e | h
  · exact .inl e
  · exact .inr ⟨by simp only [negZ]; omega, by simp only [negZ]; omega⟩
theorem exactZ {v : Int} (h1 : -1152921504606846976 ≤ v) (h2 : v ≤ 1152921504606846976) : ofZ v v = ⟨v, v, false⟩ := by unfold ofZ; rw [if_pos ⟨Int.le_refl _, h1, h2⟩]
theorem inZ_refl (a : Bound) : inZ a a := by
  cases h : a.Unknown with
  | true => exact .inl h
  | false => exact .inr ⟨h, Int.le_refl _, Int.le_refl _⟩
theorem inZ_none (a : Bound) : inZ a noneZ := .inl rfl
theorem inZ.trans {a b c : Bound} (h : inZ a b) (k : inZ b c) : inZ a c := by
  rcases k with k | ⟨k1, k2, k3⟩
  · exact .inl k
  · rcases h with h | ⟨h1, h2, h3⟩
    · rw [h] at k1; cases k1
    · exact .inr ⟨h1, by omega, by omega⟩
theorem inZ.has {a b : Bound} {v : Int} (h : inZ a b) (k : hasZ a v) : hasZ b v := by
  rcases h with h | ⟨h1, h2, h3⟩
  · exact .inl h
  · rcases k with k | k
    · rw [h1] at k; cases k
    · exact .inr ⟨by omega, by omega⟩
theorem inZ_of {lo hi lo' hi' : Int} (h : lo' ≤ hi') (h1 : lo ≤ lo') (h2 : hi' ≤ hi) : inZ (ofZ lo' hi') (ofZ lo hi) := by
  unfold ofZ
  by_cases g : lo ≤ hi ∧ -1152921504606846976 ≤ lo ∧ hi ≤ 1152921504606846976
  · rw [if_pos g, if_pos (by omega)]; exact .inr ⟨rfl, h1, h2⟩
  · rw [if_neg g]; exact inZ_none _
theorem inZ_add {a b a' b' : Bound} (oa : a'.ok) (ob : b'.ok) (ha : inZ a' a) (hb : inZ b' b) : inZ (addZ a' b') (addZ a b) := by
  unfold addZ
  by_cases h : (a.Unknown || b.Unknown) = true
  · rw [if_pos h]; exact inZ_none _
  · rw [if_neg h]
    have h : a.Unknown = false ∧ b.Unknown = false := by simpa using h
    rcases ha with e | ⟨u1, ha⟩
    · rw [h.1] at e; cases e
    · rcases hb with e | ⟨u2, hb⟩
      · rw [h.2] at e; cases e
      · rw [if_neg (by simp [u1, u2])]
        have := oa.le; have := ob.le
        exact inZ_of (by omega) (by omega) (by omega)
theorem inZ_neg {a b : Bound} (h : inZ a b) : inZ (negZ a) (negZ b) := by
  rcases h with e | ⟨h1, h2, h3⟩
  · exact .inl e
  · exact .inr ⟨h1, by simp only [negZ]; omega, by simp only [negZ]; omega⟩
end Lf
/- Differences of bounds, as plain values. -/
namespace Lf
open Go Go.Abs
set_option linter.unusedVariables false
set_option linter.unusedSimpArgs false
theorem negZ_eq {b : Bound} (h : b.ok) : bound_Neg b = some (negZ b) := by
  obtain ⟨h1, h2, h3, h4⟩ := h
  unfold bound_Neg
  rw [norm_ok ⟨h1, h2, h3, h4⟩]
  simp only [Option.bind_some, Int.zero_sub]
  rw [w6_in (by omega), w6_in (by omega)]
  rfl
def subZ (a b : Bound) : Bound := addZ a (negZ b)
theorem subZ_eq {a b : Bound} (ha : a.ok) (hb : b.ok) : bound_Sub a b = some (subZ a b) := by
  unfold bound_Sub
  rw [negZ_eq hb]
  simp only [Option.bind_some]
  rw [addZ_eq ha (negZ_ok hb)]; rfl
theorem subZ_ok (a b : Bound) : (subZ a b).ok := addZ_ok _ _
theorem hasZ_sub {a b : Bound} {x y : Int} (ha : hasZ a x) (hb : hasZ b y) : hasZ (subZ a b) (x - y) := by
  have := hasZ_add ha (hasZ_neg hb)
  rw [Int.sub_eq_add_neg]; exact this
theorem inZ_sub {a b a' b' : Bound} (oa : a'.ok) (ob : b'.ok) (ha : inZ a' a) (hb : inZ b' b) : inZ (subZ a' b') (subZ a b) := inZ_add oa (negZ_ok ob) ha (inZ_neg hb)
end Lf
/- Smaller ones and greater ones of bounds, as plain values. -/
namespace Lf
open Go Go.Abs
set_option linter.unusedVariables false
set_option linter.unusedSimpArgs false
theorem mn2_min (a b : Int) : mn2 a b = min a b := by rcases mn2_def a b with ⟨e, h⟩ | ⟨e, h⟩ <;> rw [e] <;> omega
theorem mx2_max (a b : Int) : mx2 a b = max a b := by rcases mx2_def a b with ⟨e, h⟩ | ⟨e, h⟩ <;> rw [e] <;> omega
def minZ (a b : Bound) : Bound := if (a.Unknown || b.Unknown) = true then noneZ else ofZ (min a.Lo b.Lo) (min a.Hi b.Hi)
theorem minZ_ok (a b : Bound) : (minZ a b).ok := by
  unfold minZ; split
  · exact noneZ_ok
  · exact ofZ_ok _ _
theorem minZ_eq {a b : Bound} (ha : a.ok) (hb : b.ok) : bound_Min a b = some (minZ a b) := by
  unfold bound_Min minZ
  rw [vague_ok ha hb, mn2_min, mn2_min, ofZ_eq]
  simp only [Option.bind_some]
  split <;> rfl
def maxZ (a b : Bound) : Bound := negZ (minZ (negZ a) (negZ b))
theorem maxZ_ok {a b : Bound} : (maxZ a b).ok := negZ_ok (minZ_ok _ _)
theorem maxZ_eq {a b : Bound} (ha : a.ok) (hb : b.ok) : bound_Max a b = some (maxZ a b) := by
  unfold bound_Max
  rw [negZ_eq ha, negZ_eq hb]
  simp only [Option.bind_some]
  rw [minZ_eq (negZ_ok ha) (negZ_ok hb)]
  simp only [Option.bind_some]
  rw [negZ_eq (minZ_ok _ _)]; rfl
end Lf
/- Sums of bounds; what both admit. -/
namespace Lf
open Go Go.Abs
set_option linter.unusedVariables false
set_option linter.unusedSimpArgs false
theorem add_known {a b : Bound} (ha : a.ok) (hb : b.ok) (ua : a.Unknown = false) (ub : b.Unknown = false) (h1 : -1152921504606846976 ≤ a.Lo + b.Lo) (h2 : a.Hi + b.Hi ≤ 1152921504606846976) : bound_Add a b = some ⟨a.Lo + b.Lo, a.Hi + b.Hi, false⟩ := by
  have := ha.le; have := hb.le
  unfold bound_Add
  rw [vague_ok ha hb, ua, ub]
  simp only [Option.bind_some, Bool.or_self, Bool.false_eq_true, if_false]
  rw [w6_in (by omega), w6_in (by omega), of_ok h1 (by omega) h2]; rfl
theorem add_vague {a b : Bound} (ha : a.ok) (hb : b.ok) (u : (a.Unknown || b.Unknown) = true) : bound_Add a b = some ⟨0, 0, true⟩ := by
  unfold bound_Add
  rw [vague_ok ha hb, u]; rfl
end Lf
/- Fields of light, and bounds of it. -/
namespace Lf
open Go Go.Abs
set_option linter.unusedVariables false
set_option linter.unusedSimpArgs false
/-- A valid field. -/
structure okF (c : Cells) : Prop where
  w0 : 1 ≤ c.W
  w1 : c.W ≤ 32
  h0 : 1 ≤ c.H
  h1 : c.H ≤ 32
  len : (c.At.length : Int) = c.W * c.H
  cell : ∀ b ∈ c.At, b.ok ∧ -1099511627776 ≤ b.Lo ∧ b.Hi ≤ 1099511627776
theorem area {w h : Int} (w0 : 1 ≤ w) (w1 : w ≤ 32) (h0 : 1 ≤ h) (h1 : h ≤ 32) : 1 ≤ w * h ∧ w * h ≤ 1024 := by
  have a := Int.mul_le_mul_of_nonneg_right w1 (show 0 ≤ h by omega)
  have b := Int.mul_le_mul_of_nonneg_right w0 (show 0 ≤ h by omega)
  omega
theorem okF.n1 {c : Cells} (h : okF c) : 1 ≤ (c.At.length : Int) ∧ (c.At.length : Int) ≤ 1024 := by rw [h.len]; exact area h.w0 h.w1 h.h0 h.h1
theorem findCheck_ok {c : Cells} (h : okF c) : find_Check c = some 0 := by
  have hw0 := h.w0; have hw1 := h.w1; have hh0 := h.h0; have hh1 := h.h1
  have hn := h.n1
  have e : w6 (c.W * c.H) = (c.At.length : Int) := by rw [← h.len]; exact w6_in (by omega)
  apply Has.val
  unfold find_Check
  rw [e]
  have g1 : decide (c.W < 1) = false := decide_eq_false (by omega)
  have g2 : decide (c.W > 32) = false := decide_eq_false (by omega)
  have g3 : decide (c.H < 1) = false := decide_eq_false (by omega)
  have g4 : decide (c.H > 32) = false := decide_eq_false (by omega)
  simp only [g1, g2, g3, g4, ite_or, Bool.false_or, bne_self_eq_false, Option.bind_some, Bool.false_eq_true, if_false]
  refine Has.seq (P := fun t : Step Unit Int => t = .next ()) ?_ (fun _ _ => Has.ret rfl) (fun o ho => by cases ho)
  refine Has.loop (fun i : Int => 0 ≤ i ∧ i ≤ c.At.length) (fun i => (c.At.length - i).toNat) (fun t : Step Unit Int => t = .next ()) ⟨Int.le_refl _, by omega⟩ (by omega) fun i ⟨i1, i2⟩ => ?_
  unfold find_Check.l1
  refine Has.ite (fun hi => ?_) fun hi => Has.ret (.done rfl)
  have hi : i < c.At.length := of_decide_eq_true hi
  obtain ⟨b1, b2, b3⟩ := h.cell _ (gt_mem c.At i ⟨i1, hi⟩)
  refine Has.chk ⟨i1, hi⟩ ?_
  rw [check_ok b1]
  have g5 : decide ((gt c.At i).Lo < (-1099511627776)) = false := decide_eq_false (by omega)
  have g6 : decide ((gt c.At i).Hi > 1099511627776) = false := decide_eq_false (by omega)
  simp only [Option.bind_some, bne_self_eq_false, Bool.false_eq_true, if_false, g5, g6, ite_or, Bool.false_or]
  rw [w6_in (by omega)]
  exact Has.ret (.next ⟨by omega, by omega⟩ (by omega))
end Lf
/- Loops of few rounds, round by round. -/
namespace Lf
open Go Go.Abs
set_option linter.unusedVariables false
inductive Run {S O : Type} (body : S → Option (Step S O)) : S → Nat → O → Prop
  | done {s : S} {o : O} : body s = some (.done o) → Run body s 0 o
  | next {s s' : S} {n : Nat} {o : O} : body s = some (.next s') → Run body s' n o → Run body s (n + 1) o
theorem Run.iter {S O : Type} {body : S → Option (Step S O)} : ∀ {n : Nat} {s : S} {o : O}, Run body s n o → ∀ k, n < k → iterF body k s = some o
  | _, _, _, .done h, 0, hk => by omega
  | _, _, _, .done h, k + 1, _ => by unfold iterF; rw [h]
  | _, _, _, .next h r, 0, hk => by omega
  | _, _, _, .next h r, k + 1, hk => by unfold iterF; rw [h]; exact r.iter k (by omega)
theorem Run.ok {S O : Type} {body : S → Option (Step S O)} {n : Nat} {s : S} {o : O} (h : Run body s n o) (hn : n < 10000000000000000000000000000000000000000) : loopF body s = some o := h.iter _ hn
end Lf
/- The light of a window, above a level. -/
namespace Lf
open Go Go.Abs
set_option linter.unusedVariables false
set_option linter.unusedSimpArgs false
theorem or00 : cmp_Or ([0, 0] : List Int) = some 0 := by
  unfold cmp_Or
  rw [(Run.next (s' := 1) rfl (Run.next (s' := 2) rfl (Run.done (o := .next ()) rfl))).ok (by decide)]; rfl
/-- A known bound of moderate size. -/
structure lvl (b : Bound) : Prop where
  u : b.Unknown = false
  lo : -1099511627776 ≤ b.Lo
  le : b.Lo ≤ b.Hi
  hi : b.Hi ≤ 1099511627776
theorem lvl.ok {b : Bound} (h : lvl b) : b.ok := ⟨fun e => (by rw [h.u] at e; cases e), by have := h.lo; omega, h.le, by have := h.hi; omega⟩
theorem checkLevel_ok {b : Bound} (h : lvl b) : find_CheckLevel b = some 0 := by
  have l := h.lo; have u := h.hi
  unfold find_CheckLevel
  rw [check_ok h.ok]
  have g1 : ¬ b.Lo < -1099511627776 := by omega
  have g2 : ¬ b.Hi > 1099511627776 := by omega
  simp [h.u, g1, g2]
/-- What a cell has above a level. -/
def aboveB (b lv : Bound) : Bound := ⟨max (b.Lo - lv.Hi) 0, max (b.Hi - lv.Lo) 0, false⟩
theorem above_ok {b lv : Bound} (hb : lvl b) (hl : lvl lv) (h : lv.Lo ≤ b.Hi) : measure_above b lv = some (aboveB b lv, 0) := by
  have b1 := hb.lo; have b2 := hb.le; have b3 := hb.hi; have l1 := hl.lo; have l2 := hl.le; have l3 := hl.hi
  have s : subZ b lv = ⟨b.Lo - lv.Hi, b.Hi - lv.Lo, false⟩ := by
    unfold subZ addZ negZ ofZ
    simp only [hb.u, hl.u, Bool.or_self, Bool.false_eq_true, if_false]
    rw [if_pos (by omega)]
    congr 1
  unfold measure_above
  rw [hb.u, subZ_eq hb.ok hl.ok, s]
  simp only [Option.bind_some, Bool.false_eq_true, if_false]
  have g : ¬ b.Hi - lv.Lo < 0 := by omega
  rw [decide_eq_false g]
  simp only [Bool.false_eq_true, if_false]
  rw [maxZ_eq (okKnown (by omega) (by omega) (by omega)) (okKnown (by decide) (by decide) (by decide))]
  simp only [Option.bind_some]
  unfold maxZ minZ negZ ofZ aboveB
  simp only [Bool.or_self, Bool.false_eq_true, if_false]
  rw [if_pos (by omega)]
  congr 2
  simp only [Bound.mk.injEq, and_true]
  omega
/-- Cells of a field, one behind the other. -/
structure isCells (n : Int) (l : List Int) : Prop where
  rng : allI l fun _ x => 0 ≤ x ∧ x < n
  up : ∀ k : Int, 0 < k → k < l.length → gt l (k - 1) < gt l k
  len : l.length ≤ 441
theorem Above_ok {c : Cells} {lv : Bound} {l : List Int} (hc : okF c) (hk : ∀ b ∈ c.At, b.Unknown = false) (hl : lvl lv) (hi : isCells c.At.length l) (hh : ∀ b ∈ c.At, lv.Lo ≤ b.Hi) :
    Has (measure_Above c lv l) fun r => r.2 = 0 ∧ r.1.length = l.length ∧ allI r.1 fun k b => b = aboveB (gt c.At (gt l k)) lv := by
  have hn := hc.n1
  have ll := hi.len
  unfold measure_Above
  rw [findCheck_ok hc, checkLevel_ok hl]
  simp only [Option.bind_some]
  rw [or00]
  simp only [Option.bind_some, bne_self_eq_false, Bool.false_eq_true, if_false]
  refine Has.seq (P := fun t : Step Unit (List Bound × Int) => t = .next ()) ?_ (fun _ _ => ?_) (fun o ho => by cases ho)
  · refine Has.loop (fun i : Int => 0 ≤ i ∧ i ≤ l.length) (fun i => (l.length - i).toNat) _ ⟨Int.le_refl _, by omega⟩ (by omega) fun i ⟨i0, i1⟩ => ?_
    unfold measure_Above.l1
    refine Has.ite (fun h => ?_) fun h => Has.ret (.done rfl)
    have h : i < l.length := of_decide_eq_true h
    obtain ⟨x0, x1⟩ := hi.rng i i0 h
    have g1 : ¬ gt l i < 0 := by omega
    have g2 : ¬ gt l i ≥ (c.At.length : Int) := by omega
    refine Has.chk ⟨i0, h⟩ (Has.bind (P := fun z => z = false) (Has.neg (by simp [g1]) (Has.ret (decide_eq_false g2))) fun z hz => Has.neg (by rw [hz]; decide) ?_)
    refine Has.bind (P := fun z => z = false) (Has.ite (fun h0 => ?_) fun h0 => Has.ret rfl) fun z hz => Has.neg (by rw [hz]; decide) (Has.ret ?_)
    · have h0 : i > 0 := of_decide_eq_true h0
      rw [w6_in (n := i - 1) (by omega)]
      exact Has.chk ⟨by omega, by omega⟩ (Has.ret (decide_eq_false (by have := hi.up i h0 h; omega)))
    · rw [w6_in (by omega)]; exact .next ⟨by omega, by omega⟩ (by omega)
  · refine Has.seq (P := fun t : Step (List Bound) (List Bound × Int) => ∃ r, t = .next r ∧ r.length = l.length ∧ allI r fun k b => b = aboveB (gt c.At (gt l k)) lv) ?_ (fun r ⟨r', e, h1, h2⟩ => by cases e; exact Has.ret ⟨rfl, h1, h2⟩) (fun o ⟨r', e, _⟩ => by cases e)
    refine Has.loop (fun s : List Bound × Int => 0 ≤ s.2 ∧ s.2 ≤ l.length ∧ (s.1.length : Int) = s.2 ∧ allI s.1 fun k b => b = aboveB (gt c.At (gt l k)) lv) (fun s => (l.length - s.2).toNat) _ ⟨Int.le_refl _, by simp only []; omega, rfl, allI_nil⟩ (by simp only []; omega) fun s ⟨s0, s1, s2, s3⟩ => ?_
    unfold measure_Above.l2
    refine Has.ite (fun h => ?_) fun h => ?_
    · have h : s.2 < l.length := of_decide_eq_true h
      obtain ⟨x0, x1⟩ := hi.rng s.2 s0 h
      have m := gt_mem c.At (gt l s.2) ⟨x0, x1⟩
      obtain ⟨o, q1, q2⟩ := hc.cell _ m
      have hb : lvl (gt c.At (gt l s.2)) := ⟨hk _ m, q1, o.le, q2⟩
      rw [above_ok hb hl (hh _ m), w6_in (n := s.2 + 1) (by omega)]
      simp only [Option.bind_some, bne_self_eq_false, Bool.false_eq_true, if_false]
      refine Has.chk ⟨s0, h⟩ (Has.chk ⟨x0, x1⟩ ((Has.chk (roomyI (by simp; omega) (by simp; omega)) (Has.ret (.next ⟨by simp only []; omega, by simp only []; omega, by simp; omega, allI_snoc s3 ?_⟩ (by simp only []; omega))))))
      rw [s2]
    · have h : ¬ s.2 < l.length := fun q => h (decide_eq_true q)
      exact Has.ret (.done ⟨s.1, rfl, by omega, s3⟩)
/-- The cells of a window of so many columns and rows. -/
structure okWin (w h p r : Int) : Prop where
  w0 : 1 ≤ w
  w1 : w ≤ 32
  h0 : 1 ≤ h
  h1 : h ≤ 32
  p0 : 0 ≤ p
  p1 : p < w * h
  r0 : 0 ≤ r
  r1 : r ≤ 10
theorem prodle {a b c d : Int} (a0 : 0 ≤ a) (b0 : 0 ≤ b) (h1 : a ≤ c) (h2 : b ≤ d) : a * b ≤ c * d := Int.mul_le_mul h1 h2 b0 (by omega)
theorem cells_ok {s : Source_} {w h r : Int} (z : okWin w h s.Peak r) : Has (measure_Cells s w h r) fun l => isCells (w * h) l ∧ (r ≤ s.Peak % w → s.Peak % w + r < w → r ≤ s.Peak / w → s.Peak / w + r < h → (l.length : Int) = (2 * r + 1) * (2 * r + 1)) := by
  obtain ⟨w0, w1, h0, h1, p0, p1, r0, r1⟩ := z
  have hA := area w0 w1 h0 h1
  have x0 := Int.emod_nonneg s.Peak (b := w) (by omega)
  have x1 := Int.emod_lt_of_pos s.Peak (b := w) (by omega)
  have y0 := Int.ediv_nonneg p0 (show 0 ≤ w by omega)
  have y1 : s.Peak / w < h := by rw [Int.ediv_lt_iff_lt_mul (by omega), Int.mul_comm]; exact p1
  unfold measure_Cells
  rw [w6_in (n := w * h) (by omega)]
  have g1 : ¬ w < 1 := by omega
  have g2 : ¬ w > 32 := by omega
  have g3 : ¬ h < 1 := by omega
  have g4 : ¬ h > 32 := by omega
  have g5 : ¬ s.Peak < 0 := by omega
  have g6 : ¬ s.Peak ≥ w * h := by omega
  have g7 : ¬ r < 0 := by omega
  have g8 : ¬ r > 10 := by omega
  simp only [g1, g2, g3, g4, g5, g6, g7, g8, decide_false, Bool.false_eq_true, if_false, Option.bind_some]
  refine Has.chk (by omega) ?_
  rw [Int.tdiv_eq_ediv_of_nonneg p0, w6_in (n := s.Peak / w) (by omega), w6_in (n := s.Peak / w - r) (by omega)]
  generalize hx : s.Peak % w = x at *
  generalize hy : s.Peak / w = y at *
  have eU0 : mx2 (x - r) 0 = max (x - r) 0 := by rcases mx2_def (x - r) 0 with ⟨e, h⟩ | ⟨e, h⟩ <;> rw [e] <;> omega
  have eV0 : mx2 (y - r) 0 = max (y - r) 0 := by rcases mx2_def (y - r) 0 with ⟨e, h⟩ | ⟨e, h⟩ <;> rw [e] <;> omega
  have eU1 : mn2 (x + r) (w - 1) = min (x + r) (w - 1) := by rcases mn2_def (x + r) (w - 1) with ⟨e, h⟩ | ⟨e, h⟩ <;> rw [e] <;> omega
  have eV1 : mn2 (y + r) (h - 1) = min (y + r) (h - 1) := by rcases mn2_def (y + r) (h - 1) with ⟨e, h⟩ | ⟨e, h⟩ <;> rw [e] <;> omega
  rw [eV0]
  generalize hU0 : max (x - r) 0 = U0 at *
  generalize hV0 : max (y - r) 0 = V0 at *
  generalize hU1 : min (x + r) (w - 1) = U1 at *
  generalize hV1 : min (y + r) (h - 1) = V1 at *
  have un : 0 ≤ U1 + 1 - U0 ∧ U1 + 1 - U0 ≤ 21 := by omega
  have vn : 0 ≤ V1 + 1 - V0 ∧ V1 + 1 - V0 ≤ 21 := by omega
  have fin : ∀ l : List Int, (l.length : Int) = (V1 + 1 - V0) * (U1 + 1 - U0) → (allI l fun _ x => 0 ≤ x ∧ x < w * h) → (∀ k : Int, 0 < k → k < l.length → gt l (k - 1) < gt l k) → isCells (w * h) l ∧ (r ≤ x → x + r < w → r ≤ y → y + r < h → (l.length : Int) = (2 * r + 1) * (2 * r + 1)) := fun l e1 e2 e3 => by
    have m := prodle vn.1 un.1 vn.2 un.2
    refine ⟨⟨e2, e3, by omega⟩, fun a b c d => ?_⟩
    rw [e1, show V1 + 1 - V0 = 2 * r + 1 from by omega, show U1 + 1 - U0 = 2 * r + 1 from by omega]
  refine Has.bind (P := fun l : List Int => (l.length : Int) = (V1 + 1 - V0) * (U1 + 1 - U0) ∧ (allI l fun _ x => 0 ≤ x ∧ x < w * h) ∧ (∀ k : Int, 0 < k → k < l.length → gt l (k - 1) < gt l k)) ?_ fun l ⟨e1, e2, e3⟩ => Has.ret (fin l e1 e2 e3)
  refine Has.loop (fun t : List Int × Int => V0 ≤ t.2 ∧ t.2 ≤ V1 + 1 ∧ (t.1.length : Int) = (t.2 - V0) * (U1 + 1 - U0) ∧ (allI t.1 fun _ x => 0 ≤ x ∧ x < t.2 * w) ∧ (∀ k : Int, 0 < k → k < t.1.length → gt t.1 (k - 1) < gt t.1 k)) (fun t => (V1 + 1 - t.2).toNat) _ ⟨Int.le_refl _, by simp only []; omega, by simp, allI_nil, fun k k0 k1 => by simp at k1; omega⟩ (by simp only []; omega) fun t ⟨t0, t1, t2, t3, t4⟩ => ?_
  unfold measure_Cells.l1
  rw [Int.tdiv_eq_ediv_of_nonneg p0, hy, w6_in (n := y) (by omega), w6_in (n := y + r) (by omega), w6_in (n := h - 1) (by omega), eV1, Int.tmod_eq_emod_of_nonneg p0, hx, w6_in (n := x - r) (by omega), eU0]
  refine Has.letF (Has.ite (fun hv => ?_) fun hv => ?_)
  · have hv : t.2 ≤ V1 := of_decide_eq_true hv
    have vw : 0 ≤ t.2 * w := Int.mul_nonneg (by omega) (by omega)
    have vw2 : t.2 * w + w = (t.2 + 1) * w := by rw [Int.add_mul, Int.one_mul]
    have vh : (t.2 + 1) * w ≤ w * h := by rw [Int.mul_comm w h]; exact Int.mul_le_mul_of_nonneg_right (by omega) (by omega)
    have tl : (t.2 - V0) * (U1 + 1 - U0) ≤ 20 * 21 := prodle (by omega) un.1 (by omega) un.2
    have tl2 : (t.2 + 1 - V0) * (U1 + 1 - U0) = (t.2 - V0) * (U1 + 1 - U0) + (U1 + 1 - U0) := by rw [show t.2 + 1 - V0 = (t.2 - V0) + 1 from by omega, Int.add_mul, Int.one_mul]
    refine Has.bind (P := fun l : List Int => (l.length : Int) = (t.2 + 1 - V0) * (U1 + 1 - U0) ∧ (allI l fun _ x => 0 ≤ x ∧ x < (t.2 + 1) * w) ∧ (∀ k : Int, 0 < k → k < l.length → gt l (k - 1) < gt l k)) ?_ fun l ⟨e1, e2, e3⟩ => ?_
    · refine Has.loop (fun q : List Int × Int => U0 ≤ q.2 ∧ q.2 ≤ U1 + 1 ∧ (q.1.length : Int) = (t.2 - V0) * (U1 + 1 - U0) + (q.2 - U0) ∧ (allI q.1 fun _ x => 0 ≤ x ∧ x < t.2 * w + q.2) ∧ (∀ k : Int, 0 < k → k < q.1.length → gt q.1 (k - 1) < gt q.1 k)) (fun q => (U1 + 1 - q.2).toNat) _ ⟨Int.le_refl _, by simp only []; omega, by simp only []; omega, allI_mono t3 fun k x _ _ ⟨a, b⟩ => ⟨a, by simp only []; omega⟩, t4⟩ (by simp only []; omega) fun q ⟨q0, q1, q2, q3, q4⟩ => ?_
      unfold measure_Cells.l2
      rw [Int.tmod_eq_emod_of_nonneg p0, hx, w6_in (n := x + r) (by omega), w6_in (n := w - 1) (by omega), eU1]
      refine Has.letF (Has.ite (fun hu => ?_) fun hu => ?_)
      · have hu : q.2 ≤ U1 := of_decide_eq_true hu
        rw [w6_in (n := t.2 * w) (by omega), w6_in (n := t.2 * w + q.2) (by omega), w6_in (n := q.2 + 1) (by omega)]
        refine Has.chk (roomyI (by simp; omega) (by simp; omega)) (Has.ret (.next ⟨by simp only []; omega, by simp only []; omega, by simp; omega, allI_snoc (allI_mono q3 fun k x _ _ ⟨a, b⟩ => ⟨a, by simp only []; omega⟩) ⟨by omega, by simp only []; omega⟩, fun k k0 k1 => ?_⟩ (by simp only []; omega)))
        simp only [List.length_append, List.length_cons, List.length_nil] at k1
        simp only []
        by_cases e : k = (q.1.length : Int)
        · rw [gt_snoc_eq e, gt_snoc_lt (by omega) (by omega)]
          exact (q3 (k - 1) (by omega) (by omega)).2
        · rw [gt_snoc_lt (by omega) (by omega), gt_snoc_lt (by omega) (by omega)]
          exact q4 k k0 (by omega)
      · have hu : ¬ q.2 ≤ U1 := fun z => hu (decide_eq_true z)
        refine Has.ret (.done ⟨by omega, allI_mono q3 fun k x _ _ ⟨a, b⟩ => ⟨a, by omega⟩, q4⟩)
    · rw [w6_in (by omega)]
      exact Has.ret (.next ⟨by simp only []; omega, by simp only []; omega, e1, e2, e3⟩ (by simp only []; omega))
  · have hv : ¬ t.2 ≤ V1 := fun z => hv (decide_eq_true z)
    have e : t.2 = V1 + 1 := by omega
    have vh : (V1 + 1) * w ≤ w * h := by rw [Int.mul_comm w h]; exact Int.mul_le_mul_of_nonneg_right (by omega) (by omega)
    rw [e] at t2 t3
    exact Has.ret (.done ⟨t2, allI_mono t3 fun k x _ _ ⟨a, b⟩ => ⟨a, by omega⟩, t4⟩)
theorem window_ok {c : Cells} {lv : Bound} {s : Source_} {r : Int} (hc : okF c) (hk : ∀ b ∈ c.At, b.Unknown = false) (hl : lvl lv) (hh : ∀ b ∈ c.At, lv.Lo ≤ b.Hi) (p0 : 0 ≤ s.Peak) (p1 : s.Peak < c.At.length) (r0 : 0 ≤ r) (r1 : r ≤ 10) :
    Has (measure_window c lv s r) fun q => measure_Cells s c.W c.H r = some q.1 ∧ q.2.2 = 0 ∧ isCells c.At.length q.1 ∧ q.2.1.length = q.1.length ∧ allI q.2.1 fun k b => b = aboveB (gt c.At (gt q.1 k)) lv := by
  have z : okWin c.W c.H s.Peak r := ⟨hc.w0, hc.w1, hc.h0, hc.h1, p0, by rw [← hc.len]; exact p1, r0, r1⟩
  unfold measure_window
  rw [findCheck_ok hc, checkLevel_ok hl]
  simp only [Option.bind_some]
  rw [or00]
  have g1 : ¬ s.Peak < 0 := by omega
  have g2 : ¬ s.Peak ≥ (c.At.length : Int) := by omega
  have g3 : ¬ r < 0 := by omega
  have g4 : ¬ r > 10 := by omega
  simp only [Option.bind_some, bne_self_eq_false, Bool.false_eq_true, if_false, g1, g2, g3, g4, decide_false]
  obtain ⟨l, e, hi, _⟩ := cells_ok z
  rw [← hc.len] at hi
  rw [e]
  simp only [Option.bind_some]
  refine (Above_ok hc hk hl hi hh).bind fun a ⟨a1, a2, a3⟩ => Has.ret ⟨rfl, a1, hi, a2, a3⟩
end Lf
/- What is measured in a whole window. -/
namespace Lf
open Go Go.Abs
set_option linter.unusedVariables false
set_option linter.unusedSimpArgs false
theorem sumN_shift (f : Int → Int) : ∀ n : Nat, sumN f (n + 1) = f 0 + sumN (fun j => f (j + 1)) n
  | 0 => by simp [sumN]
  | n + 1 => by
    have := sumN_shift f n
    simp only [sumN] at this ⊢
    rw [this]
    have e : ((n + 1 : Nat) : Int) = n + 1 := by omega
    rw [e]; omega
theorem gt_cons0 {α : Type} [Cl α] (x : α) (xs : List α) : gt (x :: xs) 0 = x := rfl
theorem gt_consS {α : Type} [Cl α] (x : α) (xs : List α) {j : Int} (h : 0 ≤ j) : gt (x :: xs) (j + 1) = gt xs j := by
  unfold gt
  have : (j + 1).toNat = j.toNat + 1 := by omega
  rw [this]; rfl
def sLo (l : List Bound) : Int := sumN (fun k => (gt l k).Lo) l.length
def sHi (l : List Bound) : Int := sumN (fun k => (gt l k).Hi) l.length
theorem sLo_cons (x : Bound) (xs : List Bound) : sLo (x :: xs) = x.Lo + sLo xs := by
  unfold sLo
  rw [List.length_cons, sumN_shift, gt_cons0]
  congr 1
  exact sumN_congr fun j j0 j1 => by rw [gt_consS x xs j0]
theorem sHi_cons (x : Bound) (xs : List Bound) : sHi (x :: xs) = x.Hi + sHi xs := by
  unfold sHi
  rw [List.length_cons, sumN_shift, gt_cons0]
  congr 1
  exact sumN_congr fun j j0 j1 => by rw [gt_consS x xs j0]
theorem addZ_known {a b : Bound} (ha : a.Unknown = false) (hb : b.Unknown = false) (h1 : -1152921504606846976 ≤ a.Lo + b.Lo) (h : a.Lo + b.Lo ≤ a.Hi + b.Hi) (h2 : a.Hi + b.Hi ≤ 1152921504606846976) : addZ a b = ⟨a.Lo + b.Lo, a.Hi + b.Hi, false⟩ := by
  unfold addZ ofZ
  rw [if_neg (by simp [ha, hb]), if_pos ⟨h, h1, h2⟩]
theorem sumF_ok {M : Int} (M0 : 0 ≤ M) : ∀ (xs : List Bound) (s : Bound), (∀ b ∈ xs, b.Unknown = false ∧ 0 ≤ b.Lo ∧ b.Lo ≤ b.Hi ∧ b.Hi ≤ M) → s.Unknown = false → 0 ≤ s.Lo → s.Lo ≤ s.Hi → s.Hi + M * xs.length ≤ 1152921504606846976 →
    bound_SumF xs s = ⟨s.Lo + sLo xs, s.Hi + sHi xs, false⟩
  | [], s, _, hu, _, _, _ => by
    obtain ⟨a, b, c⟩ := s
    simp only [] at hu
    subst hu
    simp [bound_SumF, sLo, sHi, sumN]
  | x :: xs, s, h, hu, h0, h1, h2 => by
    obtain ⟨xu, x0, x1, x2⟩ := h x List.mem_cons_self
    have hm : M * ((x :: xs).length : Int) = M * xs.length + M := by rw [List.length_cons, Int.natCast_add, Int.mul_add]; simp
    have hx := Int.mul_nonneg M0 (show (0 : Int) ≤ xs.length by omega)
    have e := addZ_eq (a := s) (b := x) ⟨fun e => (by rw [hu] at e; cases e), by omega, h1, by omega⟩ ⟨fun e => (by rw [xu] at e; cases e), by omega, x1, by omega⟩
    rw [addZ_known hu xu (by omega) (by omega) (by omega)] at e
    unfold bound_SumF
    rw [e]
    simp only [Option.getD_some, Bool.false_eq_true, if_false]
    rw [sumF_ok M0 xs _ (fun b hb => h b (List.mem_cons_of_mem _ hb)) rfl (by simp only []; omega) (by simp only []; omega) (by simp only []; omega), sLo_cons, sHi_cons]
    simp only [Bound.mk.injEq, and_true]
    omega
theorem sum_ok {l : List Bound} (h : allI l fun _ b => b.Unknown = false ∧ 0 ≤ b.Lo ∧ b.Lo ≤ b.Hi ∧ b.Hi ≤ 2199023255552) (hl : l.length ≤ 441) : bound_Sum l = some ⟨sLo l, sHi l, false⟩ := by
  unfold bound_Sum
  rw [if_pos (by omega), sumF_ok (M := 2199023255552) (by decide) l ⟨0, 0, false⟩ (allI_mem h) rfl (Int.le_refl _) (Int.le_refl _) (by simp only []; omega)]
  simp
/-- What a mean is. -/
structure isMean (a : List Int) (v : List Bound) (b : Bound) : Prop where
  no : (¬ ∃ k : Int, 0 ≤ k ∧ k < v.length ∧ 0 < (gt v k).Lo) → b.Unknown = true
  yes : (∃ k : Int, 0 ≤ k ∧ k < v.length ∧ 0 < (gt v k).Lo) → b.Unknown = false ∧ isGr a v b.Hi ∧ (∃ z : List Int, z.length = a.length ∧ (allI z fun i x => x = -gt a i) ∧ isGr z v (-b.Lo)) ∧ -8191 ≤ b.Lo ∧ b.Lo ≤ 8191 ∧ -8191 ≤ b.Hi ∧ b.Hi ≤ 8191
theorem okA.neg {a z : List Int} {v : List Bound} (h : okA a v) (e : z.length = a.length) (hz : allI z fun i x => x = -gt a i) : okA z v :=
  ⟨by rw [e]; exact h.len, by rw [e]; exact h.n0, by rw [e]; exact h.n1, allI_mono hz fun i x i0 i1 hx => by have := h.a i i0 (by omega); omega, h.v⟩
theorem mean_ok {a : List Int} {v : List Bound} (h : okA a v) (ha : allI a fun _ x => 0 ≤ x) : Has (measure_Mean a v) fun r => r.2 = 0 ∧ isMean a v r.1 := by
  have n0 := h.n0; have n1 := h.n1; have hl := h.len
  unfold measure_Mean
  have g1 : ¬ (a.length : Int) > 441 := by omega
  refine Has.neg (by simp; omega) (Has.neg (by simp [g1]) ?_)
  refine Has.seq (P := fun t : Step (Bool × Bool) (Bound × Int) => ∃ s : Bool, t = .next (s, true) ∧ (s = true ↔ ∃ k : Int, 0 ≤ k ∧ k < v.length ∧ 0 < (gt v k).Lo)) ?_ (fun q ⟨s, e, hs⟩ => ?_) (fun o ⟨s, e, _⟩ => by cases e)
  · refine Has.loop (fun s : Bool × Bool × Int => 0 ≤ s.2.2 ∧ s.2.2 ≤ v.length ∧ s.2.1 = true ∧ (s.1 = true ↔ ∃ k : Int, 0 ≤ k ∧ k < s.2.2 ∧ 0 < (gt v k).Lo)) (fun s => (v.length - s.2.2).toNat) _ ⟨Int.le_refl _, by simp only []; omega, rfl, ⟨(fun e => nomatch e), fun ⟨k, k0, k1, _⟩ => by simp only [] at k1; omega⟩⟩ (by simp only []; omega) fun s ⟨s0, s1, s2, s3⟩ => ?_
    unfold measure_Mean.l1
    refine Has.ite (fun hi => ?_) fun hi => ?_
    · have hi : s.2.2 < v.length := of_decide_eq_true hi
      obtain ⟨o, u, l, m⟩ := h.v s.2.2 s0 hi
      obtain ⟨x0, x1⟩ := h.a s.2.2 s0 (by omega)
      have x2 := ha s.2.2 s0 (by omega)
      have g2 : ¬ (gt v s.2.2).Lo < 0 := by omega
      have g3 : ¬ (gt v s.2.2).Hi > 2199023255552 := by omega
      have g4 : ¬ gt a s.2.2 < 0 := by omega
      have g5 : ¬ gt a s.2.2 ≥ 8192 := by omega
      rw [check_ok o, w6_in (n := s.2.2 + 1) (by omega)]
      simp only [Option.bind_some, bne_self_eq_false, Bool.false_eq_true, if_false]
      refine Has.chk ⟨s0, hi⟩ (Has.bind (P := fun z => z = false) (Has.neg (by simp [g2]) (Has.neg (by simp [g3]) (Has.chk ⟨s0, by omega⟩ (Has.neg (by simp [g4]) (Has.ret (decide_eq_false g5)))))) fun z hz => Has.neg (by rw [hz]; decide) ?_)
      have step : ∀ t : Bool, (t = true ↔ (s.1 = true ∨ 0 < (gt v s.2.2).Lo)) → (t = true ↔ ∃ k : Int, 0 ≤ k ∧ k < s.2.2 + 1 ∧ 0 < (gt v k).Lo) := fun t ht => by
        rw [ht, s3]
        constructor
        · rintro (⟨k, k0, k1, k2⟩ | hk)
          · exact ⟨k, k0, by omega, k2⟩
          · exact ⟨s.2.2, s0, by omega, hk⟩
        · rintro ⟨k, k0, k1, k2⟩
          by_cases e : k = s.2.2
          · rw [e] at k2; exact .inr k2
          · exact .inl ⟨k, k0, by omega, k2⟩
      refine Has.ite (fun hs => ?_) fun hs => ?_
      · refine Has.pos s2 (Has.ret (.next ⟨by simp only []; omega, by simp only []; omega, by simp only [u]; rfl, step true ⟨fun _ => .inl hs, fun _ => rfl⟩⟩ (by simp only []; omega)))
      · refine Has.pos s2 (Has.ret (.next ⟨by simp only []; omega, by simp only []; omega, by simp only [u]; rfl, step _ ⟨fun e => .inr (by simpa using e), fun e => ?_⟩⟩ (by simp only []; omega)))
        rcases e with e | e
        · exact absurd e hs
        · simpa using e
    · have hi : ¬ s.2.2 < v.length := fun q => hi (decide_eq_true q)
      have e : s.2.2 = v.length := by omega
      rw [e] at s3
      exact Has.ret (.done ⟨s.1, by rw [s2], s3⟩)
  · cases e
    simp only []
    cases s with
    | false =>
      refine Has.bind (P := fun z => z = true) (Has.pos rfl (Has.ret rfl)) fun z hz => Has.pos hz (Has.ret ⟨rfl, ⟨fun _ => rfl, fun hk => ?_⟩⟩)
      have := hs.2 hk; cases this
    | true =>
      have hk := hs.1 rfl
      refine Has.bind (P := fun z => z = false) (Has.neg (by decide) (Has.ret rfl)) fun z hz => Has.neg (by rw [hz]; decide) ?_
      refine Has.bind (P := fun z : List Int => z.length = a.length ∧ allI z fun i x => x = -gt a i) ?_ fun z ⟨z1, z2⟩ => ?_
      · refine Has.loop (fun s : List Int × Int => 0 ≤ s.2 ∧ s.2 ≤ a.length ∧ (s.1.length : Int) = s.2 ∧ allI s.1 fun i x => x = -gt a i) (fun s => (a.length - s.2).toNat) _ ⟨Int.le_refl _, by simp only []; omega, rfl, allI_nil⟩ (by simp only []; omega) fun s ⟨s0, s1, s2, s3⟩ => ?_
        unfold measure_Mean.l2
        refine Has.ite (fun hi => ?_) fun hi => ?_
        · have hi : s.2 < a.length := of_decide_eq_true hi
          obtain ⟨x0, x1⟩ := h.a s.2 s0 hi
          rw [Int.zero_sub, w6_in (n := -gt a s.2) (by omega), w6_in (n := s.2 + 1) (by omega)]
          refine Has.chk ⟨s0, hi⟩ (Has.chk (roomyI (by simp; omega) (by simp; omega)) (Has.ret (.next ⟨by simp only []; omega, by simp only []; omega, by simp; omega, allI_snoc s3 (by rw [s2])⟩ (by simp only []; omega))))
        · have hi : ¬ s.2 < a.length := fun q => hi (decide_eq_true q)
          exact Has.ret (.done ⟨by omega, s3⟩)
      · have hz := h.neg z1 z2
        refine (greatest_ok hz hk).bind fun g ⟨g1, g2, g3⟩ => (greatest_ok h hk).bind fun k ⟨k1, k2, k3⟩ => ?_
        rw [Int.zero_sub, w6_in (by omega)]
        refine Has.ret ⟨rfl, ⟨fun e => absurd hk e, fun _ => ⟨rfl, k1, ⟨z, z1, z2, by simp only [Int.neg_neg]; exact g1⟩, by simp only []; omega, by simp only []; omega, k2, k3⟩⟩⟩
/-- Any light within the bounds has its mean between the ends. -/
theorem isMean.has {a : List Int} {v : List Bound} {b : Bound} (hm : isMean a v b) (h : okA a v) (w : Int → Int) (hw : ∀ i : Int, 0 ≤ i → i < a.length → (gt v i).Lo ≤ w i ∧ w i ≤ (gt v i).Hi) :
    b.Unknown = true ∨ (b.Lo * sumN w a.length ≤ sumN (fun i => w i * gt a i) a.length ∧ sumN (fun i => w i * gt a i) a.length ≤ b.Hi * sumN w a.length) := by
  by_cases hk : ∃ k : Int, 0 ≤ k ∧ k < v.length ∧ 0 < (gt v k).Lo
  · obtain ⟨u, g1, ⟨z, z1, z2, g2⟩, _⟩ := hm.yes hk
    right
    have up := mean_le h hk g1 w hw
    have hz := h.neg z1 z2
    have lo := mean_le hz hk g2 w (fun i i0 i1 => hw i i0 (by omega))
    rw [z1] at lo
    have e : sumN (fun i => w i * gt z i) a.length = -1 * sumN (fun i => w i * gt a i) a.length := by
      rw [← sumN_mul]
      refine sumN_congr fun j j0 j1 => ?_
      rw [z2 j j0 (by omega), Int.mul_neg]; omega
    rw [e, Int.neg_mul, Int.neg_mul] at lo
    omega
  · exact .inl (hm.no hk)
def xAt (w : Int) (i : Int) : Int := i % w * 256 + 128
def yAt (w : Int) (i : Int) : Int := i / w * 256 + 128
theorem whole_ok {c : Cells} {p r : Int} (hc : okF c) (p0 : 0 ≤ p) (p1 : p < c.At.length) (r0 : 0 ≤ r) (r1 : r ≤ 10) : measure_whole c p r = some (decide (r ≤ p % c.W ∧ p % c.W + r < c.W ∧ r ≤ p / c.W ∧ p / c.W + r < c.H)) := by
  have w0 := hc.w0; have w1 := hc.w1; have h0 := hc.h0; have h1 := hc.h1
  have x0 := Int.emod_nonneg p (b := c.W) (by omega)
  have x1 := Int.emod_lt_of_pos p (b := c.W) (by omega)
  have y0 := Int.ediv_nonneg p0 (show 0 ≤ c.W by omega)
  have y1 : p / c.W < c.H := by rw [Int.ediv_lt_iff_lt_mul (by omega), Int.mul_comm, ← hc.len]; exact p1
  unfold measure_whole
  rw [if_pos (by omega), Int.tmod_eq_emod_of_nonneg p0, Int.tdiv_eq_ediv_of_nonneg p0, w6_in (n := p % c.W + r) (by omega), w6_in (n := p / c.W) (by omega), w6_in (n := p / c.W + r) (by omega)]
  by_cases a1 : p % c.W ≥ r
  · by_cases a2 : p % c.W + r < c.W
    · by_cases a3 : p / c.W ≥ r
      · simp [a1, a2, a3]
      · simp [a1, a2, a3]
    · simp [a1, a2]
  · simp [a1]
/-- The places and the light of the cells of a window. -/
structure isWin (c : Cells) (lv : Bound) (cells : List Int) (v : List Bound) : Prop where
  cl : isCells c.At.length cells
  len : v.length = cells.length
  v : allI v fun k b => b = aboveB (gt c.At (gt cells k)) lv
theorem aboveB_bd {b lv : Bound} (hb : lvl b) (hl : lvl lv) : (aboveB b lv).ok ∧ (aboveB b lv).Unknown = false ∧ 0 ≤ (aboveB b lv).Lo ∧ (aboveB b lv).Lo ≤ (aboveB b lv).Hi ∧ (aboveB b lv).Hi ≤ 2199023255552 := by
  have b1 := hb.lo; have b2 := hb.le; have b3 := hb.hi; have l1 := hl.lo; have l2 := hl.le; have l3 := hl.hi
  have e : 0 ≤ (aboveB b lv).Lo ∧ (aboveB b lv).Lo ≤ (aboveB b lv).Hi ∧ (aboveB b lv).Hi ≤ 2199023255552 := by unfold aboveB; simp only []; omega
  exact ⟨⟨(fun e => nomatch e), by omega, e.2.1, by omega⟩, rfl, e⟩
theorem isWin.all {c : Cells} {lv : Bound} {cells : List Int} {v : List Bound} (h : isWin c lv cells v) (hc : okF c) (hk : ∀ b ∈ c.At, b.Unknown = false) (hl : lvl lv) : allI v fun _ b => b.ok ∧ b.Unknown = false ∧ 0 ≤ b.Lo ∧ b.Lo ≤ b.Hi ∧ b.Hi ≤ 2199023255552 := fun k k0 k1 => by
  obtain ⟨x0, x1⟩ := h.cl.rng k k0 (by have := h.len; omega)
  have m := gt_mem c.At _ ⟨x0, x1⟩
  obtain ⟨o, q1, q2⟩ := hc.cell _ m
  rw [h.v k k0 k1]
  exact aboveB_bd ⟨hk _ m, q1, o.le, q2⟩ hl
theorem measure_ok {c : Cells} {lv : Bound} {s : Source_} {r : Int} (hc : okF c) (hk : ∀ b ∈ c.At, b.Unknown = false) (hl : lvl lv) (hh : ∀ b ∈ c.At, lv.Lo ≤ b.Hi) (p0 : 0 ≤ s.Peak) (p1 : s.Peak < c.At.length) (r0 : 0 ≤ r) (r1 : r ≤ 10) (hw : r ≤ s.Peak % c.W ∧ s.Peak % c.W + r < c.W ∧ r ≤ s.Peak / c.W ∧ s.Peak / c.W + r < c.H) :
    Has (measure_Measure c lv s r) fun m => m.2 = 0 ∧ ∃ (cells : List Int) (v : List Bound) (xs ys : List Int), measure_Cells s c.W c.H r = some cells ∧ isWin c lv cells v ∧ m.1.Flux = ⟨sLo v, sHi v, false⟩ ∧ xs.length = cells.length ∧ (allI xs fun k x => x = xAt c.W (gt cells k)) ∧ ys.length = cells.length ∧ (allI ys fun k x => x = yAt c.W (gt cells k)) ∧ okA xs v ∧ okA ys v ∧ isMean xs v m.1.X ∧ isMean ys v m.1.Y := by
  have w0 := hc.w0; have w1 := hc.w1; have h0 := hc.h0; have h1 := hc.h1
  unfold measure_Measure
  refine (window_ok hc hk hl hh p0 p1 r0 r1).bind fun q ⟨q1, q2, q3, q4, q5⟩ => ?_
  have win : isWin c lv q.1 q.2.1 := ⟨q3, q4, q5⟩
  have va := win.all hc hk hl
  have ql := q3.len
  have zc := cells_ok (s := s) ⟨hc.w0, hc.w1, hc.h0, hc.h1, p0, by rw [← hc.len]; exact p1, r0, r1⟩
  have clen : (q.1.length : Int) = (2 * r + 1) * (2 * r + 1) := by
    obtain ⟨l, e, _, hl⟩ := zc
    rw [q1] at e; cases e
    exact hl hw.1 hw.2.1 hw.2.2.1 hw.2.2.2
  have c1 : 1 ≤ (q.1.length : Int) := by
    rw [clen]; have := prodle (a := 1) (b := 1) (c := 2 * r + 1) (d := 2 * r + 1) (by decide) (by decide) (by omega) (by omega); omega
  rw [q2, sum_ok (allI_mono va fun k b _ _ ⟨_, a, b, c, d⟩ => ⟨a, b, c, d⟩) (by omega), whole_ok hc p0 p1 r0 r1, decide_eq_true hw]
  simp only [Option.bind_some, bne_self_eq_false, Bool.false_eq_true, if_false, Bool.not_true]
  refine Has.bind (P := fun z : List Int × List Int => z.1.length = q.1.length ∧ (allI z.1 fun k x => x = xAt c.W (gt q.1 k)) ∧ z.2.length = q.1.length ∧ (allI z.2 fun k x => x = yAt c.W (gt q.1 k))) ?_ fun z ⟨z1, z2, z3, z4⟩ => ?_
  · refine Has.loop (fun t : List Int × List Int × Int => 0 ≤ t.2.2 ∧ t.2.2 ≤ q.1.length ∧ (t.1.length : Int) = t.2.2 ∧ (allI t.1 fun k x => x = xAt c.W (gt q.1 k)) ∧ (t.2.1.length : Int) = t.2.2 ∧ (allI t.2.1 fun k x => x = yAt c.W (gt q.1 k))) (fun t => (q.1.length - t.2.2).toNat) _ ⟨Int.le_refl _, by simp only []; omega, rfl, allI_nil, rfl, allI_nil⟩ (by simp only []; omega) fun t ⟨t0, t1, t2, t3, t4, t5⟩ => ?_
    unfold measure_Measure.l1
    refine Has.ite (fun hi => ?_) fun hi => ?_
    · have hi : t.2.2 < q.1.length := of_decide_eq_true hi
      obtain ⟨x0, x1⟩ := q3.rng t.2.2 t0 hi
      have m0 := Int.emod_nonneg (gt q.1 t.2.2) (b := c.W) (by omega)
      have m1 := Int.emod_lt_of_pos (gt q.1 t.2.2) (b := c.W) (by omega)
      have d0 := Int.ediv_nonneg x0 (show 0 ≤ c.W by omega)
      have d1 : gt q.1 t.2.2 / c.W < c.H := by rw [Int.ediv_lt_iff_lt_mul (by omega), Int.mul_comm, ← hc.len]; exact x1
      rw [Int.tmod_eq_emod_of_nonneg x0, Int.tdiv_eq_ediv_of_nonneg x0, w6_in (n := gt q.1 t.2.2 % c.W * 256) (by omega), w6_in (n := gt q.1 t.2.2 % c.W * 256 + 128) (by omega), w6_in (n := gt q.1 t.2.2 / c.W) (by omega), w6_in (n := gt q.1 t.2.2 / c.W * 256) (by omega), w6_in (n := gt q.1 t.2.2 / c.W * 256 + 128) (by omega), w6_in (n := t.2.2 + 1) (by omega)]
      refine Has.chk ⟨t0, hi⟩ (Has.chk (by omega) (Has.chk (roomyI (by simp; omega) (by simp; omega)) (Has.chk (roomyI (by simp; omega) (by simp; omega)) (Has.ret (.next ⟨by simp only []; omega, by simp only []; omega, by simp; omega, allI_snoc t3 (by rw [t2]; rfl), by simp; omega, allI_snoc t5 (by rw [t4]; rfl)⟩ (by simp only []; omega))))))
    · have hi : ¬ t.2.2 < q.1.length := fun x => hi (decide_eq_true x)
      exact Has.ret (.done ⟨by simp only []; omega, t3, by simp only []; omega, t5⟩)
  · have vok : allI q.2.1 fun _ b => b.ok ∧ b.Unknown = false ∧ 0 ≤ b.Lo ∧ b.Hi ≤ 2199023255552 := allI_mono va fun k b _ _ ⟨o, a, b, c, d⟩ => ⟨o, a, b, d⟩
    have place : ∀ k : Int, 0 ≤ k → k < q.1.length → (0 ≤ xAt c.W (gt q.1 k) ∧ xAt c.W (gt q.1 k) ≤ 8191) ∧ (0 ≤ yAt c.W (gt q.1 k) ∧ yAt c.W (gt q.1 k) ≤ 8191) := fun k k0 k1 => by
      obtain ⟨x0, x1⟩ := q3.rng k k0 k1
      have m0 := Int.emod_nonneg (gt q.1 k) (b := c.W) (by omega)
      have m1 := Int.emod_lt_of_pos (gt q.1 k) (b := c.W) (by omega)
      have d0 := Int.ediv_nonneg x0 (show 0 ≤ c.W by omega)
      have d1 : gt q.1 k / c.W < c.H := by rw [Int.ediv_lt_iff_lt_mul (by omega), Int.mul_comm, ← hc.len]; exact x1
      unfold xAt yAt
      omega
    have ox : okA z.1 q.2.1 := ⟨by omega, by omega, by omega, allI_mono z2 fun k x k0 k1 e => by have := (place k k0 (by omega)).1; omega, vok⟩
    have oy : okA z.2 q.2.1 := ⟨by omega, by omega, by omega, allI_mono z4 fun k x k0 k1 e => by have := (place k k0 (by omega)).2; omega, vok⟩
    refine (mean_ok ox (allI_mono z2 fun k x k0 k1 e => by have := (place k k0 (by omega)).1; omega)).bind fun mx ⟨_, mx2⟩ => (mean_ok oy (allI_mono z4 fun k x k0 k1 e => by have := (place k k0 (by omega)).2; omega)).bind fun my ⟨_, my2⟩ => ?_
    exact Has.ret ⟨rfl, q.1, q.2.1, z.1, z.2, q1, win, rfl, z1, z2, z3, z4, ox, oy, mx2, my2⟩
end Lf
/- Words of 64 bits: lengths, products, quotients. -/
namespace Lf
open Go Go.Abs
set_option linter.unusedVariables false
set_option linter.unusedSimpArgs false
theorem wu_in {n : Int} (h : 0 ≤ n ∧ n < 18446744073709551616) : IntKind.wrap .u64 n = n := by rw [IntKind.wrap_u64]; omega
theorem wu_def (n : Int) : IntKind.wrap .u64 n = n % 18446744073709551616 := IntKind.wrap_u64 n
theorem wu_bd (n : Int) : 0 ≤ IntKind.wrap .u64 n ∧ IntKind.wrap .u64 n < 18446744073709551616 := by rw [wu_def]; omega
theorem w8_in {n : Int} (h : 0 ≤ n ∧ n < 256) : IntKind.wrap .u8 n = n := by rw [IntKind.wrap_u8]; omega
theorem fdiv_pow (x : Int) (k : Nat) : Int.fdiv x (2 ^ k) = x / 2 ^ k := Int.fdiv_eq_ediv_of_nonneg x (Int.le_of_lt (Int.pow_pos (by decide)))
theorem u_nat {x : Int} (h : 0 ≤ x ∧ x < 18446744073709551616) : (BitVec.ofInt 64 x).toNat = x.toNat := by
  rw [BitVec.toNat_ofInt]; omega
theorem and_low {x : Int} (h : 0 ≤ x ∧ x < 18446744073709551616) : IntKind.wrap .u64 ((BitVec.ofInt 64 x &&& BitVec.ofInt 64 4294967295).toNat : Int) = x % 4294967296 := by
  rw [BitVec.toNat_and, u_nat h, u_nat (by omega), show (4294967295 : Int).toNat = 2 ^ 32 - 1 from rfl, Nat.and_two_pow_sub_one_eq_mod, wu_in (by omega)]
  omega
theorem xor_all {x : Int} (h : 0 ≤ x ∧ x < 18446744073709551616) : IntKind.wrap .u64 ((BitVec.ofInt 64 (18446744073709551615) ^^^ BitVec.ofInt 64 x).toNat : Int) = 18446744073709551615 - x := by
  have e : BitVec.ofInt 64 18446744073709551615 = BitVec.allOnes 64 := by decide
  rw [e, BitVec.allOnes_xor, BitVec.toNat_not, u_nat h, wu_in (by omega)]
  omega
theorem or_add {x y : Int} (k : Nat) (hx : 0 ≤ x) (hy : 0 ≤ y ∧ y < 2 ^ k) (h : x * 2 ^ k + y < 18446744073709551616) (hk : 0 ≤ x * 2 ^ k) : IntKind.wrap .u64 ((BitVec.ofInt 64 (x * 2 ^ k) ||| BitVec.ofInt 64 y).toNat : Int) = x * 2 ^ k + y := by
  rw [BitVec.toNat_or, u_nat (by omega), u_nat (by omega)]
  obtain ⟨a, rfl⟩ := Int.eq_ofNat_of_zero_le hx
  obtain ⟨b, rfl⟩ := Int.eq_ofNat_of_zero_le hy.1
  have e : ((a : Int) * 2 ^ k).toNat = a <<< k := by
    rw [Nat.shiftLeft_eq]
    have : (a : Int) * 2 ^ k = ((a * 2 ^ k : Nat) : Int) := by simp
    rw [this]; rfl
  have hb : b < 2 ^ k := by
    have := hy.2
    exact_mod_cast this
  rw [e, show ((b : Int)).toNat = b from rfl, ← Nat.shiftLeft_add_eq_or_of_lt hb, Nat.shiftLeft_eq]
  have e2 : ((a * 2 ^ k + b : Nat) : Int) = (a : Int) * 2 ^ k + b := by simp
  rw [e2, wu_in (by omega)]
/-! ### lengths -/
theorem tab_ok : ∀ i : Fin 256, (tab1.getD i.val 0).toNat ≤ 8 ∧ i.val < 2 ^ (tab1.getD i.val 0).toNat ∧ (0 < i.val → 1 ≤ (tab1.getD i.val 0).toNat ∧ 2 ^ ((tab1.getD i.val 0).toNat - 1) ≤ i.val) := by decide +kernel
theorem tab_len : tab1.length = 256 := by decide +kernel
theorem len_fin {x : Int} (c : Nat) (hx : 0 ≤ x) (hc : c ≤ 56) (h : x / 2 ^ c < 256) (hp : 0 < c → 2 ^ c ≤ x) : Has (if (0 : Int) ≤ IntKind.wrap .u8 (x / 2 ^ c) ∧ (IntKind.wrap .u8 (x / 2 ^ c)).toNat < tab1.length then some (w6 ((c : Int) + (w6 (tabAt tab1 (IntKind.wrap .u8 (x / 2 ^ c)))))) else none) fun n => ∃ k : Nat, n = k ∧ k ≤ 64 ∧ x < 2 ^ k ∧ (0 < x → 1 ≤ k ∧ 2 ^ (k - 1) ≤ x) := by
  have p : (0 : Int) < 2 ^ c := Int.pow_pos (by decide)
  have h0 : 0 ≤ x / 2 ^ c := Int.ediv_nonneg hx (Int.le_of_lt p)
  rw [w8_in ⟨h0, h⟩, tab_len]
  obtain ⟨t1, t2, t3⟩ := tab_ok ⟨(x / 2 ^ c).toNat, by omega⟩
  simp only [] at t1 t2 t3
  have e : tabAt tab1 (x / 2 ^ c) = ((tab1.getD (x / 2 ^ c).toNat 0).toNat : Int) := rfl
  generalize (tab1.getD (x / 2 ^ c).toNat 0).toNat = t at *
  refine Has.chk ⟨h0, by omega⟩ (Has.ret ⟨c + t, ?_, by omega, ?_, fun h1 => ?_⟩)
  · have e3 : w6 (t : Int) = t := w6_in (by omega)
    rw [e, e3, w6_in (by omega)]; omega
  · have : x / 2 ^ c < 2 ^ t := by
      have : (((x / 2 ^ c).toNat : Nat) : Int) < ((2 ^ t : Nat) : Int) := Int.ofNat_lt.2 t2
      rw [Int.toNat_of_nonneg h0] at this
      simpa using this
    have := (Int.ediv_lt_iff_lt_mul p).1 this
    rw [Nat.add_comm, Int.pow_add]; exact this
  · have h3 : 0 < (x / 2 ^ c).toNat := by
      have : 1 ≤ x / 2 ^ c := by
        rw [Int.le_ediv_iff_mul_le p]
        rcases Nat.eq_zero_or_pos c with rfl | hcp
        · simp; omega
        · have := hp hcp; omega
      omega
    obtain ⟨k1, k2⟩ := t3 h3
    refine ⟨by omega, ?_⟩
    have k2' : (2 : Int) ^ (t - 1) ≤ x / 2 ^ c := by
      have : ((2 ^ (t - 1) : Nat) : Int) ≤ (((x / 2 ^ c).toNat : Nat) : Int) := Int.ofNat_le.2 k2
      rw [Int.toNat_of_nonneg h0] at this
      simpa using this
    have := (Int.le_ediv_iff_mul_le p).1 k2'
    rw [show c + t - 1 = (t - 1) + c by omega, Int.pow_add]; exact this
theorem len64_ok (x : Int) (hx : 0 ≤ x ∧ x < 18446744073709551616) : Has (bits_Len64 x) fun n => ∃ k : Nat, n = k ∧ k ≤ 64 ∧ x < 2 ^ k ∧ (0 < x → 1 ≤ k ∧ 2 ^ (k - 1) ≤ x) := by
  have d0 : Int.fdiv x (2 ^ 32) = x / 2 ^ 32 := fdiv_pow x 32
  have d1 : Int.fdiv x (2 ^ 16) = x / 2 ^ 16 := fdiv_pow x 16
  have d2 : Int.fdiv x (2 ^ 8) = x / 2 ^ 8 := fdiv_pow x 8
  have d3 : Int.fdiv (x / 2 ^ 32) (2 ^ 16) = x / 2 ^ 48 := by rw [fdiv_pow]; omega
  have d4 : Int.fdiv (x / 2 ^ 48) (2 ^ 8) = x / 2 ^ 56 := by rw [fdiv_pow]; omega
  have d5 : Int.fdiv (x / 2 ^ 32) (2 ^ 8) = x / 2 ^ 40 := by rw [fdiv_pow]; omega
  have d6 : Int.fdiv (x / 2 ^ 16) (2 ^ 8) = x / 2 ^ 24 := by rw [fdiv_pow]; omega
  unfold bits_Len64
  simp only [d0, d1, d2, d3, d4, d5, d6, decide_eq_true_eq]
  refine Has.ite (fun h1 => Has.ite (fun h2 => Has.ite (fun h3 => ?_) fun h3 => ?_) fun h2 => Has.ite (fun h3 => ?_) fun h3 => ?_) fun h1 => Has.ite (fun h2 => Has.ite (fun h3 => ?_) fun h3 => ?_) fun h2 => Has.ite (fun h3 => ?_) fun h3 => ?_
  · exact len_fin 56 hx.1 (by omega) (by omega) (by omega)
  · exact len_fin 48 hx.1 (by omega) (by omega) (by omega)
  · exact len_fin 40 hx.1 (by omega) (by omega) (by omega)
  · exact len_fin 32 hx.1 (by omega) (by omega) (by omega)
  · exact len_fin 24 hx.1 (by omega) (by omega) (by omega)
  · exact len_fin 16 hx.1 (by omega) (by omega) (by omega)
  · exact len_fin 8 hx.1 (by omega) (by omega) (by omega)
  · have := len_fin (x := x) 0 hx.1 (by omega) (by omega) (by omega)
    simpa using this
end Lf
/- The quotient of a number of 128 bits by one of 64. -/
namespace Lf
open Go Go.Abs
set_option linter.unusedVariables false
set_option linter.unusedSimpArgs false
/-- A digit of the quotient, guessed too large or right. -/
structure Dig (a b u d q r : Int) : Prop where
  e : q * a + r = u
  r0 : 0 ≤ r
  lo : (u * 4294967296 + d) / (a * 4294967296 + b) ≤ q
  hi : q ≤ 4294967297
/-- What stands fast while a digit is sought. -/
structure Dg (a b u d : Int) : Prop where
  a0 : 2147483648 ≤ a
  a1 : a < 4294967296
  b0 : 0 ≤ b
  b1 : b < 4294967296
  d0 : 0 ≤ d
  d1 : d < 4294967296
  u0 : 0 ≤ u
  uv : u < a * 4294967296 + b
section
variable {a b u d q r : Int}
theorem Dg.q0 (g : Dg a b u d) : 0 ≤ (u * 4294967296 + d) / (a * 4294967296 + b) := Int.ediv_nonneg (by have := g.u0; have := g.d0; omega) (by have := g.a0; have := g.b0; omega)
theorem Dg.qB (g : Dg a b u d) : (u * 4294967296 + d) / (a * 4294967296 + b) < 4294967296 := by
  have := g.a0; have := g.b0; have := g.uv; have := g.d1; have := g.u0; have := g.d0
  rw [Int.ediv_lt_iff_lt_mul (by omega)]; omega
theorem Dg.test (g : Dg a b u d) (h : q * a + r = u) : (u * 4294967296 + d) / (a * 4294967296 + b) < q ↔ r * 4294967296 + d < q * b := by
  have := g.a0; have := g.b0
  rw [Int.ediv_lt_iff_lt_mul (by omega), Int.mul_add, ← Int.mul_assoc]
  omega
theorem Dg.first (g : Dg a b u d) : Dig a b u d (u / a) (u % a) := by
  have := g.a0; have := g.b0; have := g.u0; have := g.uv; have := g.d1; have := g.b1
  have e1 : u / a * a + u % a = u := by rw [Int.mul_comm]; exact Int.mul_ediv_add_emod u a
  have r0 := Int.emod_nonneg u (b := a) (by omega)
  have r1 := Int.emod_lt_of_pos u (b := a) (by omega)
  refine ⟨e1, r0, ?_, ?_⟩
  · by_cases h : u / a < (u * 4294967296 + d) / (a * 4294967296 + b)
    · have hq := (Int.le_ediv_iff_mul_le (by omega)).1 (show u / a + 1 ≤ (u * 4294967296 + d) / (a * 4294967296 + b) by omega)
      rw [Int.add_mul, Int.mul_add, ← Int.mul_assoc] at hq
      have hs : 0 ≤ u / a * b := Int.mul_nonneg (Int.ediv_nonneg g.u0 (by omega)) g.b0
      omega
    · omega
  · have : u / a < 4294967298 := by rw [Int.ediv_lt_iff_lt_mul (by omega)]; omega
    omega
theorem Dg.down (g : Dg a b u d) (h : Dig a b u d q r) (ht : (u * 4294967296 + d) / (a * 4294967296 + b) < q) : Dig a b u d (q - 1) (r + a) :=
  ⟨by have := h.e; rw [Int.sub_mul]; omega, by have := h.r0; have := g.a0; omega, by omega, by have := h.hi; omega⟩
theorem Dg.stop (g : Dg a b u d) (h : Dig a b u d q r) (hr : 4294967296 ≤ r) (hq : q ≤ 4294967296) : q = (u * 4294967296 + d) / (a * 4294967296 + b) := by
  have hn : ¬ (u * 4294967296 + d) / (a * 4294967296 + b) < q := by
    rw [g.test h.e]
    have h0 : 0 ≤ q := Int.le_trans g.q0 h.lo
    have := Int.mul_le_mul_of_nonneg_left (show b ≤ 4294967295 by have := g.b1; omega) h0
    have := g.d0
    omega
  have := h.lo
  omega
/-- One test: is the digit too large? -/
theorem Dg.asks (g : Dg a b u d) (h : Dig a b u d q r) (hr : r < 4294967296) (v : Int) (hv : v = IntKind.wrap .u64 (IntKind.wrap .u64 (4294967296 * r) + d)) : Has (if (decide (q ≥ 4294967296)) = true then some true else some (decide ((IntKind.wrap .u64 (q * b)) > v))) fun z => z = decide ((u * 4294967296 + d) / (a * 4294967296 + b) < q) := by
  have h0 : 0 ≤ q := Int.le_trans g.q0 h.lo
  refine Has.ite (fun hc => Has.ret ?_) fun hc => Has.ret ?_
  · have := g.qB
    simp only [decide_eq_true_eq] at hc
    exact (decide_eq_true (by omega)).symm
  · simp only [decide_eq_true_eq] at hc
    have h1 := Int.mul_le_mul_of_nonneg_left (show b ≤ 4294967295 by have := g.b1; omega) h0
    have h2 := Int.mul_nonneg h0 g.b0
    have := h.r0; have := g.d0; have := g.d1
    rw [hv, wu_in (n := q * b) (by omega), wu_in (n := 4294967296 * r) (by omega), wu_in (by omega)]
    have key := g.test (q := q) (r := r) h.e
    by_cases ht : (u * 4294967296 + d) / (a * 4294967296 + b) < q
    · rw [decide_eq_true ht, decide_eq_true]; have := key.1 ht; omega
    · rw [decide_eq_false ht, decide_eq_false]; have := mt key.2 ht; omega
end
theorem div_l1 {v7 b v13 u d : Int} {a : Int} (ea : Int.fdiv v7 (2 ^ 32) = a) (ed : Int.fdiv v13 (2 ^ 32) = d) (g : Dg a b u d) (s : Int × Int) (h : Dig a b u d s.1 s.2) (hr : s.2 < 4294967296) :
    Has (loopF (bits_Div64.l1 v7 b v13) s) fun o => o = (u * 4294967296 + d) / (a * 4294967296 + b) := by
  refine Has.loop (fun s : Int × Int => Dig a b u d s.1 s.2 ∧ s.2 < 4294967296) (fun s => s.1.toNat) (fun o : Int => o = (u * 4294967296 + d) / (a * 4294967296 + b)) ⟨h, hr⟩ (by have := h.hi; show s.1.toNat < _; omega) fun s ⟨h, hr⟩ => ?_
  unfold bits_Div64.l1
  simp only [ea, ed]
  have hq := h.hi; have h0 := h.r0; have a0 := g.a0; have a1 := g.a1; have q0 := g.q0; have hl := h.lo
  refine (g.asks h hr _ rfl).bind fun z hz => ?_
  subst hz
  refine Has.ite (fun ht => ?_) fun ht => ?_
  · have ht := of_decide_eq_true ht
    have k := g.down h ht
    rw [wu_in (n := s.2 + a) (by omega), wu_in (n := s.1 - 1) (by omega)]
    refine Has.letF (Has.ite (fun hc => Has.ret (.done ?_)) fun hc => Has.ret (.next ⟨k, ?_⟩ ?_))
    · exact g.stop k (by simpa using hc) (by omega)
    · simpa using hc
    · simp only []; omega
  · have ht : ¬ _ := fun x => ht (decide_eq_true x)
    exact Has.ret (.done (by omega))
theorem div_l2 {v7 b d u : Int} {a : Int} (ea : Int.fdiv v7 (2 ^ 32) = a) (g : Dg a b u d) (s : Int × Int) (h : Dig a b u d s.2 s.1) (hr : s.1 < 4294967296) :
    Has (loopF (bits_Div64.l2 v7 b d) s) fun o => o = (u * 4294967296 + d) / (a * 4294967296 + b) := by
  refine Has.loop (fun s : Int × Int => Dig a b u d s.2 s.1 ∧ s.1 < 4294967296) (fun s => s.2.toNat) (fun o : Int => o = (u * 4294967296 + d) / (a * 4294967296 + b)) ⟨h, hr⟩ (by have := h.hi; show s.2.toNat < _; omega) fun s ⟨h, hr⟩ => ?_
  unfold bits_Div64.l2
  simp only [ea]
  have hq := h.hi; have h0 := h.r0; have a0 := g.a0; have a1 := g.a1; have q0 := g.q0; have hl := h.lo
  refine (g.asks h hr _ rfl).bind fun z hz => ?_
  subst hz
  refine Has.ite (fun ht => ?_) fun ht => ?_
  · have ht := of_decide_eq_true ht
    have k := g.down h ht
    rw [wu_in (n := s.1 + a) (by omega), wu_in (n := s.2 - 1) (by omega)]
    refine Has.letF (Has.ite (fun hc => Has.ret (.done ?_)) fun hc => Has.ret (.next ⟨k, ?_⟩ ?_))
    · exact g.stop k (by simpa using hc) (by omega)
    · simpa using hc
    · simp only []; omega
  · have ht : ¬ _ := fun x => ht (decide_eq_true x)
    exact Has.ret (.done (by omega))
end Lf
/- The quotient of a number of 128 bits by one of 64: the whole. -/
namespace Lf
open Go Go.Abs
set_option linter.unusedVariables false
set_option linter.unusedSimpArgs false
theorem div_norm {hi lo y p m : Int} (hp : 0 < p) (hm : 0 < m) (hpm : p * m = 18446744073709551616) (h0 : 0 ≤ hi) (h1 : hi < y) (l0 : 0 ≤ lo) (l1 : lo < 18446744073709551616) (y0 : m ≤ y + y) (y1 : y < m) :
    9223372036854775808 ≤ y * p ∧ y * p < 18446744073709551616 ∧ 0 ≤ hi * p ∧ hi * p + p ≤ y * p ∧ 0 ≤ lo / m ∧ lo / m < p ∧ 0 ≤ lo % m * p ∧ lo % m * p < 18446744073709551616 ∧ lo * p = 18446744073709551616 * (lo / m) + lo % m * p := by
  have c : m * p = 18446744073709551616 := by rw [Int.mul_comm]; exact hpm
  have k1 := Int.mul_le_mul_of_nonneg_right y0 (Int.le_of_lt hp)
  have k2 := Int.mul_lt_mul_of_pos_right y1 hp
  have k3 := Int.mul_nonneg h0 (Int.le_of_lt hp)
  have k4 := Int.mul_le_mul_of_nonneg_right (show hi + 1 ≤ y by omega) (Int.le_of_lt hp)
  have k5 := Int.ediv_nonneg l0 (Int.le_of_lt hm)
  have k6 : lo / m < p := by rw [Int.ediv_lt_iff_lt_mul hm, hpm]; exact l1
  have e1 := Int.emod_nonneg lo (b := m) (by omega)
  have e2 := Int.emod_lt_of_pos lo hm
  have k7 := Int.mul_nonneg e1 (Int.le_of_lt hp)
  have k8 := Int.mul_lt_mul_of_pos_right e2 hp
  have k9 : lo * p = 18446744073709551616 * (lo / m) + lo % m * p := by
    have := Int.mul_ediv_add_emod lo m
    conv => lhs; rw [← this]
    rw [Int.add_mul, Int.mul_assoc, Int.mul_comm (lo / m) p, ← Int.mul_assoc, c]
  rw [Int.add_mul] at k1
  rw [Int.add_mul, Int.one_mul] at k4
  refine ⟨by omega, by omega, k3, k4, k5, k6, k7, by omega, k9⟩
theorem div_fin {U y p Q R : Int} (hp : 0 < p) (hy : 0 < y) (e : U * p = Q * (y * p) + R) (r0 : 0 ≤ R) (r1 : R < y * p) : Q = U / y ∧ R / p = U % y := by
  have e1 : (U - Q * y) * p = R := by rw [Int.sub_mul, Int.mul_assoc]; omega
  have q0 : 0 ≤ U - Q * y := by
    by_cases h : 0 ≤ U - Q * y
    · exact h
    · have := Int.mul_lt_mul_of_pos_right (show U - Q * y < 0 by omega) hp
      omega
  have q1 : U - Q * y < y := by
    by_cases h : U - Q * y < y
    · exact h
    · have := Int.mul_le_mul_of_nonneg_right (show y ≤ U - Q * y by omega) (Int.le_of_lt hp)
      omega
  obtain ⟨a, b⟩ := (Int.ediv_emod_unique hy (a := U) (q := Q) (r := U - Q * y)).2 ⟨by rw [Int.mul_comm y Q]; omega, q0, q1⟩
  refine ⟨a.symm, ?_⟩
  rw [b, ← e1, Int.mul_ediv_cancel _ (by omega)]
theorem div64_ok (hi lo y : Int) (h0 : 0 ≤ hi) (h1 : hi < y) (hy : y < 18446744073709551616) (l0 : 0 ≤ lo) (l1 : lo < 18446744073709551616) :
    Has (bits_Div64 hi lo y) fun r => r = (NU64.mk ((hi * 18446744073709551616 + lo) / y), NU64.mk ((hi * 18446744073709551616 + lo) % y)) := by
  unfold bits_Div64
  refine Has.neg (by simp; omega) (Has.neg (by simp; omega) (Has.ite (fun hz => ?_) fun hz => ?_))
  · have hz : hi = 0 := by simpa using hz
    subst hz
    have q0 := Int.ediv_nonneg l0 (show 0 ≤ y by omega)
    have q1 := Int.ediv_le_self y l0
    have q1 : lo / y ≤ lo := Int.ediv_le_self y l0
    refine Has.chk (by omega) (Has.ret ?_)
    rw [Int.tdiv_eq_ediv_of_nonneg l0, Int.tmod_eq_emod_of_nonneg l0, wu_in (by omega)]
    simp
  · unfold bits_LeadingZeros64
    refine Has.bind (P := fun r => ∃ k : Nat, r = 64 - (k : Int) ∧ k ≤ 64 ∧ y < 2 ^ k ∧ 1 ≤ k ∧ 2 ^ (k - 1) ≤ y) ((len64_ok y ⟨by omega, hy⟩).bind fun n ⟨k, hk, k64, kl, kg⟩ => Has.ret ⟨k, by rw [hk, w6_in (by omega)], k64, kl, kg (by omega)⟩) fun r ⟨k, hr, k64, kl, k1, kg⟩ => ?_
    subst hr
    have hm : (0 : Int) < 2 ^ k := Int.pow_pos (by decide)
    have hp : (0 : Int) < 2 ^ (64 - k) := Int.pow_pos (by decide)
    have hpm : (2 : Int) ^ (64 - k) * 2 ^ k = 18446744073709551616 := by rw [← Int.pow_add, Nat.sub_add_cancel k64]; rfl
    have hmy : (2 : Int) ^ k ≤ y + y := by
      have : (2 : Int) ^ k = 2 ^ (k - 1) * 2 := by rw [← Int.pow_succ]; congr 1; omega
      omega
    obtain ⟨n1, n2, n3, n4, n5, n6, n7, n8, n9⟩ := div_norm hp hm hpm h0 h1 l0 l1 hmy kl
    have s1 : IntKind.wrap .u64 (64 - (k : Int)) = 64 - (k : Int) := wu_in (by omega)
    have s2 : min (64 - (k : Int)).toNat (IntKind.bits .u64) = 64 - k := by
      show min (64 - (k : Int)).toNat 64 = _
      omega
    have s3 : IntKind.wrap .u64 (64 - (64 - (k : Int))) = (k : Int) := by rw [wu_in (by omega)]; omega
    have s4 : min (k : Int).toNat (IntKind.bits .u64) = k := by
      show min (k : Int).toNat 64 = _
      omega
    have low : ∀ x : Int, 0 ≤ x ∧ x < 18446744073709551616 → IntKind.wrap .u64 ((BitVec.ofInt 64 x &&& BitVec.ofInt 64 4294967295).toNat : Int) = x % 4294967296 := fun x h => and_low h
    simp only [s1, s2, s3, s4]
    rw [wu_in (n := y * 2 ^ (64 - k)) ⟨by omega, n2⟩, wu_in (n := hi * 2 ^ (64 - k)) ⟨n3, by omega⟩]
    have f1 : Int.fdiv lo (2 ^ k) = lo / 2 ^ k := fdiv_pow lo k
    rw [f1]
    have w13 : IntKind.wrap .u64 (lo * 2 ^ (64 - k)) = lo % 2 ^ k * 2 ^ (64 - k) := by rw [wu_def]; omega
    rw [w13]
    refine Has.chk (by omega) (Has.letF (Has.letF (Has.letF (Has.chk (by omega) (Has.letF (Has.letF (Has.letF (Has.letF ?_))))))))
    rw [low _ ⟨by omega, n2⟩, or_add (64 - k) h0 ⟨n5, n6⟩ (by omega) n3, low _ ⟨n7, n8⟩]
    generalize hv : y * 2 ^ (64 - k) = v at *
    generalize hu : hi * 2 ^ (64 - k) + lo / 2 ^ k = u at *
    generalize ht : lo % 2 ^ k * 2 ^ (64 - k) = t at *
    have ea : Int.fdiv v (2 ^ 32) = v / 4294967296 := fdiv_pow v 32
    have ed : Int.fdiv t (2 ^ 32) = t / 4294967296 := fdiv_pow t 32
    rw [ea, ed]
    have vv : v / 4294967296 * 4294967296 + v % 4294967296 = v := by omega
    have u0 : 0 ≤ u := by omega
    have uv : u < v := by omega
    have g1 : Dg (v / 4294967296) (v % 4294967296) u (t / 4294967296) := ⟨by omega, by omega, by omega, by omega, by omega, by omega, u0, by omega⟩
    have t1 : IntKind.wrap .u64 (Int.tdiv u (v / 4294967296)) = u / (v / 4294967296) := by
      rw [Int.tdiv_eq_ediv_of_nonneg u0]
      have := Int.ediv_nonneg u0 (show 0 ≤ v / 4294967296 by omega)
      have := Int.ediv_le_self (v / 4294967296) u0
      exact wu_in (by omega)
    have t2 : u / (v / 4294967296) * (v / 4294967296) + u % (v / 4294967296) = u := by rw [Int.mul_comm]; exact Int.mul_ediv_add_emod u _
    have t3 := Int.emod_nonneg u (b := v / 4294967296) (by omega)
    have t4 := Int.emod_lt_of_pos u (b := v / 4294967296) (by omega)
    rw [t1]
    refine Has.chk (by omega) (Has.letF ?_)
    have t7 : 0 ≤ u / (v / 4294967296) * (v / 4294967296) := Int.mul_nonneg (Int.ediv_nonneg u0 (by omega)) (by omega)
    have t5 : IntKind.wrap .u64 (u / (v / 4294967296) * (v / 4294967296)) = u / (v / 4294967296) * (v / 4294967296) := wu_in (by omega)
    have t6 : IntKind.wrap .u64 (u - u / (v / 4294967296) * (v / 4294967296)) = u % (v / 4294967296) := by rw [wu_in (by omega)]; omega
    rw [t5, t6]
    refine (div_l1 ea ed g1 (u / (v / 4294967296), u % (v / 4294967296)) g1.first (by have := g1.a1; show u % (v / 4294967296) < _; omega)).bind fun z hz => ?_
    rw [vv] at hz
    -- the first digit
    have z0 := g1.q0
    have zB := g1.qB
    rw [vv, ← hz] at z0 zB
    have zr := Int.mul_ediv_add_emod (u * 4294967296 + t / 4294967296) v
    rw [← hz] at zr
    have zr0 := Int.emod_nonneg (u * 4294967296 + t / 4294967296) (b := v) (by omega)
    have zr1 := Int.emod_lt_of_pos (u * 4294967296 + t / 4294967296) (b := v) (by omega)
    rw [Int.mul_comm v z] at zr
    generalize hR : (u * 4294967296 + t / 4294967296) % v = R at *
    have x1 : IntKind.wrap .u64 (IntKind.wrap .u64 (IntKind.wrap .u64 (u * 4294967296) + t / 4294967296) - IntKind.wrap .u64 (z * v)) = R := by
      simp only [wu_def]; omega
    refine Has.letF ?_
    simp only [x1]
    have g2 : Dg (v / 4294967296) (v % 4294967296) R (t % 4294967296) := ⟨by omega, by omega, by omega, by omega, by omega, by omega, zr0, by omega⟩
    have y1 : IntKind.wrap .u64 (Int.tdiv R (v / 4294967296)) = R / (v / 4294967296) := by
      rw [Int.tdiv_eq_ediv_of_nonneg zr0]
      have := Int.ediv_nonneg zr0 (show 0 ≤ v / 4294967296 by omega)
      have := Int.ediv_le_self (v / 4294967296) zr0
      exact wu_in (by omega)
    have y2 : R / (v / 4294967296) * (v / 4294967296) + R % (v / 4294967296) = R := by rw [Int.mul_comm]; exact Int.mul_ediv_add_emod R _
    have y3 := Int.emod_nonneg R (b := v / 4294967296) (by omega)
    have y4 := Int.emod_lt_of_pos R (b := v / 4294967296) (by omega)
    have y7 : 0 ≤ R / (v / 4294967296) * (v / 4294967296) := Int.mul_nonneg (Int.ediv_nonneg zr0 (by omega)) (by omega)
    have y5 : IntKind.wrap .u64 (R - IntKind.wrap .u64 (R / (v / 4294967296) * (v / 4294967296))) = R % (v / 4294967296) := by rw [wu_in (n := R / (v / 4294967296) * (v / 4294967296)) (by omega), wu_in (by omega)]; omega
    rw [y1]
    refine Has.letF (Has.letF ?_)
    simp only [y5]
    refine (div_l2 ea g2 (R % (v / 4294967296), R / (v / 4294967296)) g2.first (by have := g2.a1; show R % (v / 4294967296) < _; omega)).bind fun x hx => ?_
    rw [vv] at hx
    have x0 := g2.q0
    have xB := g2.qB
    rw [vv, ← hx] at x0 xB
    have xr := Int.mul_ediv_add_emod (R * 4294967296 + t % 4294967296) v
    rw [← hx] at xr
    have xr0 := Int.emod_nonneg (R * 4294967296 + t % 4294967296) (b := v) (by omega)
    have xr1 := Int.emod_lt_of_pos (R * 4294967296 + t % 4294967296) (b := v) (by omega)
    rw [Int.mul_comm v x] at xr
    generalize hT : (R * 4294967296 + t % 4294967296) % v = T at *
    have w1 : IntKind.wrap .u64 (IntKind.wrap .u64 (IntKind.wrap .u64 (R * 4294967296) + t % 4294967296) - IntKind.wrap .u64 (x * v)) = T := by
      simp only [wu_def]; omega
    have w2 : IntKind.wrap .u64 (IntKind.wrap .u64 (z * 4294967296) + x) = z * 4294967296 + x := by rw [wu_in (n := z * 4294967296) (by omega), wu_in (by omega)]
    refine Has.letF (Has.letF (Has.letF (Has.letF (Has.ret ?_))))
    simp only [w1, w2]
    rw [fdiv_pow T (64 - k)]
    have key : (hi * 18446744073709551616 + lo) * 2 ^ (64 - k) = (z * 4294967296 + x) * (y * 2 ^ (64 - k)) + T := by
      rw [hv, Int.add_mul, Int.add_mul, Int.mul_right_comm, Int.mul_right_comm z]
      omega
    obtain ⟨q1, q2⟩ := div_fin hp (show 0 < y by omega) key xr0 (by rw [hv]; exact xr1)
    rw [q1, q2]
end Lf
/- Products and quotients of whole numbers, by way of 128 bits. -/
namespace Lf
open Go Go.Abs
set_option linter.unusedVariables false
set_option linter.unusedSimpArgs false
theorem w6_def (n : Int) : w6 n = (n + 9223372036854775808) % 18446744073709551616 - 9223372036854775808 := by unfold w6; rw [IntKind.wrap_i64]
def okI (n : Int) : Prop := -9223372036854775808 ≤ n ∧ n ≤ 9223372036854775807
instance (n : Int) : Decidable (okI n) := inferInstanceAs (Decidable (_ ∧ _))
structure okW (w : num_Wide) : Prop where
  h : okI w.Hi
  l0 : 0 ≤ w.Lo.n
  l1 : w.Lo.n < 18446744073709551616
def wv (w : num_Wide) : Int := w.Hi * 18446744073709551616 + w.Lo.n
theorem size_ok (a : Int) (ha : okI a) : Has (num_size a) fun r => 0 ≤ r.n ∧ r.n ≤ 9223372036854775808 ∧ ((0 ≤ a ∧ r.n = a) ∨ (a < 0 ∧ r.n = -a)) := by
  unfold num_size
  have h1 := ha.1; have h2 := ha.2
  refine Has.ite (fun h => Has.ret ?_) fun h => Has.ret ?_
  · have h : a < 0 := by simpa using h
    simp only [wu_def]; omega
  · have h : 0 ≤ a := by simpa using h
    simp only [wu_def]; omega
theorem mul64_ok (x y : Int) (hx : 0 ≤ x ∧ x < 18446744073709551616) (hy : 0 ≤ y ∧ y < 18446744073709551616) : Has (bits_Mul64 x y) fun r => r = (NU64.mk (x * y / 18446744073709551616), NU64.mk (x * y % 18446744073709551616)) := by
  unfold bits_Mul64
  have e1 : Int.fdiv x (2 ^ 32) = x / 4294967296 := fdiv_pow x 32
  have e2 : Int.fdiv y (2 ^ 32) = y / 4294967296 := fdiv_pow y 32
  have bd : ∀ a b : Int, 0 ≤ a → a ≤ 4294967295 → 0 ≤ b → b ≤ 4294967295 → 0 ≤ a * b ∧ a * b ≤ 18446744065119617025 := fun a b a0 a1 b0 b1 => by
    have := Int.mul_nonneg a0 b0
    have h1 := Int.mul_le_mul_of_nonneg_right a1 b0
    omega
  have ex : x * y = x / 4294967296 * (y / 4294967296) * 18446744073709551616 + (x / 4294967296 * (y % 4294967296) + x % 4294967296 * (y / 4294967296)) * 4294967296 + x % 4294967296 * (y % 4294967296) := by
    have h1 : x = x / 4294967296 * 4294967296 + x % 4294967296 := by omega
    have h2 : y = y / 4294967296 * 4294967296 + y % 4294967296 := by omega
    generalize x / 4294967296 = a at *
    generalize x % 4294967296 = b at *
    generalize y / 4294967296 = c at *
    generalize y % 4294967296 = d at *
    subst h1; subst h2
    rw [Int.add_mul, Int.mul_add, Int.mul_add, Int.mul_right_comm a 4294967296, ← Int.mul_assoc a c, Int.mul_assoc (a * c), Int.mul_right_comm a 4294967296 d, ← Int.mul_assoc b c, Int.add_mul]
    omega
  have p1 := bd (x / 4294967296) (y / 4294967296) (by omega) (by omega) (by omega) (by omega)
  have p2 := bd (x / 4294967296) (y % 4294967296) (by omega) (by omega) (by omega) (by omega)
  have p3 := bd (x % 4294967296) (y / 4294967296) (by omega) (by omega) (by omega) (by omega)
  have p4 := bd (x % 4294967296) (y % 4294967296) (by omega) (by omega) (by omega) (by omega)
  simp only [Abs.letF]
  rw [and_low hx, and_low hy, e1, e2, ex]
  generalize x / 4294967296 * (y / 4294967296) = a at *
  generalize x / 4294967296 * (y % 4294967296) = b at *
  generalize x % 4294967296 * (y / 4294967296) = c at *
  generalize x % 4294967296 * (y % 4294967296) = d at *
  rw [wu_in (n := b) (by omega), wu_in (n := d) (by omega)]
  have e3 : Int.fdiv d (2 ^ 32) = d / 4294967296 := fdiv_pow d 32
  rw [e3, wu_in (n := b + d / 4294967296) (by omega), and_low (by omega), wu_in (n := c) (by omega), wu_in (n := (b + d / 4294967296) % 4294967296 + c) (by omega)]
  have e4 : Int.fdiv (b + d / 4294967296) (2 ^ 32) = (b + d / 4294967296) / 4294967296 := fdiv_pow _ 32
  have e5 : Int.fdiv ((b + d / 4294967296) % 4294967296 + c) (2 ^ 32) = ((b + d / 4294967296) % 4294967296 + c) / 4294967296 := fdiv_pow _ 32
  refine Has.ret ?_
  rw [e4, e5]
  clear e1 e2 e3 e4 e5 ex hx hy bd
  have q1 : d = 4294967296 * (d / 4294967296) + d % 4294967296 := by omega
  have q2 : 0 ≤ d % 4294967296 ∧ d % 4294967296 < 4294967296 := by omega
  have q3 : 0 ≤ d / 4294967296 ∧ d / 4294967296 ≤ 4294967295 := by omega
  generalize d / 4294967296 = m at *
  generalize d % 4294967296 = d1 at *
  have q4 : b + m = 4294967296 * ((b + m) / 4294967296) + (b + m) % 4294967296 := by omega
  have q5 : 0 ≤ (b + m) % 4294967296 ∧ (b + m) % 4294967296 < 4294967296 := by omega
  have q6 : 0 ≤ (b + m) / 4294967296 ∧ (b + m) / 4294967296 ≤ 4294967295 := by omega
  generalize (b + m) / 4294967296 = n at *
  generalize (b + m) % 4294967296 = r1 at *
  have q7 : r1 + c = 4294967296 * ((r1 + c) / 4294967296) + (r1 + c) % 4294967296 := by omega
  have q8 : 0 ≤ (r1 + c) % 4294967296 ∧ (r1 + c) % 4294967296 < 4294967296 := by omega
  have q9 : 0 ≤ (r1 + c) / 4294967296 ∧ (r1 + c) / 4294967296 ≤ 4294967295 := by omega
  generalize (r1 + c) / 4294967296 = o at *
  generalize (r1 + c) % 4294967296 = r2 at *
  have eT : a * 18446744073709551616 + (b + c) * 4294967296 + d = 18446744073709551616 * (a + n + o) + (r2 * 4294967296 + d1) := by omega
  rw [eT, wu_in (n := a) (by omega), wu_in (n := a + n) (by omega), wu_in (n := a + n + o) (by omega), wu_def]
  have : (18446744073709551616 * (a + n + o) + (r2 * 4294967296 + d1)) / 18446744073709551616 = a + n + o := by omega
  rw [this]
theorem wneg_ok (w : num_Wide) (hw : okW w) (hm : -170141183460469231731687303715884105728 < wv w) : Has (Wide_Neg w) fun r => okW r ∧ wv r = - wv w := by
  have h1 := hw.h.1; have h2 := hw.h.2; have h3 := hw.l0; have h4 := hw.l1
  unfold wv at hm
  unfold Wide_Neg
  have b1 := wu_bd w.Hi
  rw [xor_all ⟨h3, h4⟩, xor_all b1]
  refine Has.letF (Has.bind (P := fun r => r = ((18446744073709551615 - w.Lo.n + 1) % 18446744073709551616, (18446744073709551615 - w.Lo.n + 1) / 18446744073709551616)) ?_ fun r hr => Has.letF (Has.bind (P := fun q => q = ((18446744073709551615 - IntKind.wrap .u64 w.Hi + r.2) % 18446744073709551616, (18446744073709551615 - IntKind.wrap .u64 w.Hi + r.2) / 18446744073709551616)) ?_ fun q hq => Has.ret ?_))
  · unfold add64
    rw [if_pos (by omega)]
    exact Has.ret (by simp)
  · subst hr
    unfold add64
    simp only []
    rw [if_pos (by omega)]
    exact Has.ret (by simp)
  · subst hr; subst hq
    simp only [wu_def] at *
    refine ⟨⟨?_, ?_, ?_⟩, ?_⟩
    · exact w6_bd _
    · simp only []; omega
    · simp only []; omega
    · unfold wv
      simp only [w6_def]
      omega
theorem product_ok (a b : Int) (ha : okI a) (hb : okI b) : Has (num_Product a b) fun w => okW w ∧ wv w = a * b ∧ -85070591730234615865843651857942052864 ≤ a * b ∧ a * b ≤ 85070591730234615865843651857942052864 := by
  unfold num_Product
  refine (size_ok a ha).bind fun x ⟨x0, x1, x2⟩ => (size_ok b hb).bind fun y ⟨y0, y1, y2⟩ => ?_
  have p0 := Int.mul_nonneg x0 y0
  have p1 := Int.mul_le_mul_of_nonneg_right x1 y0
  have p : x.n * y.n ≤ 85070591730234615865843651857942052864 := by omega
  refine (mul64_ok x.n y.n (by omega) (by omega)).bind fun r hr => ?_
  subst hr
  simp only []
  have e0 : w6 (x.n * y.n / 18446744073709551616) = x.n * y.n / 18446744073709551616 := w6_in (by omega)
  rw [e0]
  have ow : okW (num_Wide.mk (x.n * y.n / 18446744073709551616) (NU64.mk (x.n * y.n % 18446744073709551616))) := ⟨⟨by simp only []; omega, by simp only []; omega⟩, by simp only []; omega, by simp only []; omega⟩
  have ew : wv (num_Wide.mk (x.n * y.n / 18446744073709551616) (NU64.mk (x.n * y.n % 18446744073709551616))) = x.n * y.n := by unfold wv; simp only []; omega
  refine Has.ite (fun h => ?_) fun h => Has.ret ?_
  · refine (wneg_ok _ ow (by rw [ew]; omega)).bind fun r ⟨h1, h2⟩ => Has.ret ⟨h1, ?_, ?_⟩
    · rw [h2, ew]
      rcases x2 with ⟨s, e⟩ | ⟨s, e⟩ <;> rcases y2 with ⟨t, f⟩ | ⟨t, f⟩
      · exfalso; simp at h; omega
      · rw [e, f, Int.mul_neg, Int.neg_neg]
      · rw [e, f, Int.neg_mul, Int.neg_neg]
      · exfalso; simp at h; omega
    · rcases x2 with ⟨s, e⟩ | ⟨s, e⟩ <;> rcases y2 with ⟨t, f⟩ | ⟨t, f⟩
      · exfalso; simp at h; omega
      · rw [e, f, Int.mul_neg] at p p0; omega
      · rw [e, f, Int.neg_mul] at p p0; omega
      · exfalso; simp at h; omega
  · refine ⟨ow, ?_, ?_⟩
    · rw [ew]
      rcases x2 with ⟨s, e⟩ | ⟨s, e⟩ <;> rcases y2 with ⟨t, f⟩ | ⟨t, f⟩
      · rw [e, f]
      · exfalso; simp at h; omega
      · exfalso; simp at h; omega
      · rw [e, f, Int.neg_mul_neg]
    · rcases x2 with ⟨s, e⟩ | ⟨s, e⟩ <;> rcases y2 with ⟨t, f⟩ | ⟨t, f⟩
      · rw [e, f] at p p0; omega
      · exfalso; simp at h; omega
      · exfalso; simp at h; omega
      · rw [e, f, Int.neg_mul_neg] at p p0; omega
end Lf
/- a * b / c, rounded down and up. -/
namespace Lf
open Go Go.Abs
set_option linter.unusedVariables false
set_option linter.unusedSimpArgs false
theorem wdiv_ok (w : num_Wide) (d : Int) (hw : okW w) (hm : -170141183460469231731687303715884105728 < wv w) (hd : 1 ≤ d ∧ d ≤ 9223372036854775807) :
    Has (Wide_Div w d) fun r => (okI (wv w / d) ∧ r = (wv w / d, 0)) ∨ (¬ okI (wv w / d) ∧ r = (0, 2)) := by
  have h1 := hw.h.1; have h2 := hw.h.2; have h3 := hw.l0; have h4 := hw.l1
  have ed : IntKind.wrap .u64 d = d := wu_in (by omega)
  unfold Wide_Div
  simp only [ed, decide_eq_true_eq]
  refine Has.neg (by omega) (Has.ite (fun hn => ?_) fun hn => ?_)
  · refine (wneg_ok w hw hm).bind fun r ⟨r1, r2⟩ => ?_
    have g1 := r1.h.1; have g2 := r1.h.2; have g3 := r1.l0; have g4 := r1.l1
    have em : wv w = -(wv r) := by omega
    have hv : wv w < 0 := by unfold wv; omega
    have hp : 0 ≤ r.Hi := by unfold wv at *; omega
    have eh : IntKind.wrap .u64 r.Hi = r.Hi := wu_in (by omega)
    have ev : r.Hi * 18446744073709551616 + r.Lo.n = wv r := rfl
    rw [eh, em]
    have nd := neg_div (wv r) d (by omega)
    refine Has.ite (fun hc => Has.ret (.inr ⟨?_, rfl⟩)) fun hc => ?_
    · have : (18446744073709551616 : Int) ≤ wv r / d := by
        rw [Int.le_ediv_iff_mul_le (by omega)]; unfold wv; omega
      unfold okI
      omega
    · refine (div64_ok r.Hi r.Lo.n d hp (by omega) (by omega) g3 g4).bind fun q hq => ?_
      subst hq
      simp only [ev]
      have q0 : 0 ≤ wv r / d := Int.ediv_nonneg (by omega) (by omega)
      have q1 : wv r / d < 18446744073709551616 := by
        rw [Int.ediv_lt_iff_lt_mul (by omega)]; unfold wv; omega
      have q2 := Int.emod_nonneg (wv r) (b := d) (by omega)
      generalize wv r / d = q at *
      generalize wv r % d = s at *
      refine Has.pos hn (Has.ite (fun hs => Has.letF ?_) fun hs => ?_)
      · rw [wu_in (n := 9223372036854775808 - 1) (by omega)]
        simp only [decide_eq_true_eq]
        refine Has.ite (fun hb => Has.ret (.inr ⟨?_, rfl⟩)) fun hb => Has.neg (by omega) (Has.pos hs (Has.ret (.inl ⟨?_, ?_⟩)))
        · unfold okI; omega
        · unfold okI; omega
        · simp only [wu_def, w6_def, Prod.mk.injEq, and_true]
          omega
      · refine Has.ite (fun hb => Has.ret (.inr ⟨?_, rfl⟩)) fun hb => Has.neg (by omega) (Has.neg hs (Has.ret (.inl ⟨?_, ?_⟩)))
        · unfold okI; omega
        · unfold okI; omega
        · simp only [wu_def, w6_def, Prod.mk.injEq, and_true]
          omega
  · have eh : IntKind.wrap .u64 w.Hi = w.Hi := wu_in (by omega)
    have ev : w.Hi * 18446744073709551616 + w.Lo.n = wv w := rfl
    have v0 : 0 ≤ wv w := by unfold wv; omega
    rw [eh]
    refine Has.ite (fun hc => Has.ret (.inr ⟨?_, rfl⟩)) fun hc => ?_
    · have : (18446744073709551616 : Int) ≤ wv w / d := by
        rw [Int.le_ediv_iff_mul_le (by omega)]; unfold wv; omega
      unfold okI
      omega
    · refine (div64_ok w.Hi w.Lo.n d (by omega) (by omega) (by omega) h3 h4).bind fun q hq => ?_
      subst hq
      simp only [ev]
      have q0 : 0 ≤ wv w / d := Int.ediv_nonneg (by omega) (by omega)
      have q1 : wv w / d < 18446744073709551616 := by
        rw [Int.ediv_lt_iff_lt_mul (by omega)]; unfold wv; omega
      generalize wv w / d = q at *
      refine Has.neg hn (Has.ite (fun hb => Has.ret (.inr ⟨?_, rfl⟩)) fun hb => Has.pos (by omega) (Has.ret (.inl ⟨?_, ?_⟩)))
      · unfold okI; omega
      · unfold okI; omega
      · rw [w6_in (by omega)]
theorem wmod_ok (w : num_Wide) (d : Int) (hw : okW w) (hm : -170141183460469231731687303715884105728 < wv w) (hd : 1 ≤ d ∧ d ≤ 9223372036854775807) :
    Has (Wide_Mod w d) fun r => r = wv w % d := by
  have h1 := hw.h.1; have h2 := hw.h.2; have h3 := hw.l0; have h4 := hw.l1
  have ed : IntKind.wrap .u64 d = d := wu_in (by omega)
  unfold Wide_Mod
  simp only [ed, decide_eq_true_eq]
  have red : ∀ h l : Int, (h % d * 18446744073709551616 + l) % d = (h * 18446744073709551616 + l) % d := fun h l => by
    rw [Int.add_emod, Int.mul_emod, Int.emod_emod, ← Int.mul_emod, ← Int.add_emod]
  refine Has.neg (by omega) (Has.ite (fun hn => ?_) fun hn => ?_)
  · refine (wneg_ok w hw hm).bind fun r ⟨r1, r2⟩ => ?_
    have g1 := r1.h.1; have g2 := r1.h.2; have g3 := r1.l0; have g4 := r1.l1
    have em : wv w = -(wv r) := by omega
    have hv : wv w < 0 := by unfold wv; omega
    have hp : 0 ≤ r.Hi := by unfold wv at *; omega
    have eh : IntKind.wrap .u64 r.Hi = r.Hi := wu_in (by omega)
    have ev : r.Hi * 18446744073709551616 + r.Lo.n = wv r := rfl
    have nd := neg_div (wv r) d (by omega)
    rw [eh, em]
    refine Has.chk (by omega) ?_
    rw [Int.tmod_eq_emod_of_nonneg hp]
    refine (div64_ok (r.Hi % d) r.Lo.n d (Int.emod_nonneg _ (by omega)) (Int.emod_lt_of_pos _ (by omega)) (by omega) g3 g4).bind fun q hq => ?_
    subst hq
    simp only [red, ev]
    have q2 := Int.emod_nonneg (wv r) (b := d) (by omega)
    have q3 := Int.emod_lt_of_pos (wv r) (b := d) (by omega)
    refine Has.bind (P := fun _ => True) (Has.ret trivial) fun _ _ => Has.ite (fun hs => Has.ret ?_) fun hs => Has.ret ?_
    · rw [wu_in (by omega), w6_in (by omega)]; omega
    · rw [w6_in (by omega)]; omega
  · have eh : IntKind.wrap .u64 w.Hi = w.Hi := wu_in (by omega)
    have ev : w.Hi * 18446744073709551616 + w.Lo.n = wv w := rfl
    rw [eh]
    refine Has.chk (by omega) ?_
    rw [Int.tmod_eq_emod_of_nonneg (by omega)]
    refine (div64_ok (w.Hi % d) w.Lo.n d (Int.emod_nonneg _ (by omega)) (Int.emod_lt_of_pos _ (by omega)) (by omega) h3 h4).bind fun q hq => ?_
    subst hq
    simp only [red, ev]
    have q2 := Int.emod_nonneg (wv w) (b := d) (by omega)
    have q3 := Int.emod_lt_of_pos (wv w) (b := d) (by omega)
    exact Has.bind (P := fun _ => True) (Has.ret trivial) fun _ _ => Has.ret (w6_in (by omega))
theorem muldiv_ok (a b c : Int) (ha : okI a) (hb : okI b) (hc : 1 ≤ c ∧ c ≤ 9223372036854775807) :
    Has (num_MulDiv a b c) fun r => (okI (a * b / c) ∧ r = (a * b / c, 0)) ∨ (¬ okI (a * b / c) ∧ r = (0, 2)) := by
  unfold num_MulDiv
  refine (product_ok a b ha hb).bind fun w ⟨w1, w2, w3, w4⟩ => (wdiv_ok w c w1 (by omega) hc).bind fun r hr => Has.ret ?_
  rw [w2] at hr
  exact hr
theorem muldivup_ok (a b c : Int) (ha : okI a) (hb : okI b) (hc : 1 ≤ c ∧ c ≤ 9223372036854775807) :
    Has (num_MulDivUp a b c) fun r => (r.2 = 0 → (a * b % c = 0 ∧ r.1 = a * b / c ∨ 0 < a * b % c ∧ r.1 = a * b / c + 1) ∧ okI r.1) ∧ ((okI (a * b / c) ∧ okI (a * b / c + 1)) → r.2 = 0) := by
  unfold num_MulDivUp
  refine (product_ok a b ha hb).bind fun w ⟨w1, w2, w3, w4⟩ => (wdiv_ok w c w1 (by omega) hc).bind fun r hr => ?_
  rw [w2] at hr
  rcases hr with ⟨hk, rfl⟩ | ⟨hk, rfl⟩
  · refine Has.bind (P := fun z => z = decide (a * b % c = 0)) (Has.neg (by simp) ((wmod_ok w c w1 (by omega) hc).bind fun m hm => Has.ret ?_)) fun z hz => ?_
    · rw [hm, w2]; rfl
    · subst hz
      have m0 := Int.emod_nonneg (a * b) (b := c) (by omega)
      refine Has.ite (fun h => Has.ret ⟨fun _ => ⟨.inl ⟨of_decide_eq_true h, rfl⟩, hk⟩, fun _ => rfl⟩) fun h => ?_
      have h : ¬ a * b % c = 0 := fun x => h (decide_eq_true x)
      have k1 := hk.1; have k2 := hk.2
      refine Has.ite (fun h2 => Has.ret ⟨(fun x => by cases x), fun h3 => ?_⟩) fun h2 => Has.ret ⟨fun _ => ?_, fun _ => rfl⟩
      · have h2 : a * b / c = 9223372036854775807 := by simpa using h2
        have := h3.2.2; omega
      · have h2 : a * b / c ≠ 9223372036854775807 := by simpa using h2
        rw [w6_in (by omega)]
        exact ⟨.inr ⟨by omega, rfl⟩, by unfold okI; simp only []; omega⟩
  · refine Has.bind (P := fun z => z = true) (Has.pos (by simp) (Has.ret rfl)) fun z hz => Has.pos hz (Has.ret ⟨(fun x => by cases x), fun h => absurd h.1 hk⟩)
end Lf
