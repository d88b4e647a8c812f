/- Laws of the plain functions. Conditions: as each theorem states them. -/
import Derived.Test.YtlbbhiedfjpheaaD
import Derived.Test.YtlbbhiedfjpheaaA4
import Derived.Lib.Mul64
/- Plain facts of streams and bounds, for the functions of DtwD. -/
namespace Lf
open Go Go.Abs
set_option linter.unusedVariables false
set_option linter.unusedSimpArgs false
/-! streams -/
/-- What a stream must be. -/
structure okS (s : spymake_Stream) : Prop where
  z : ∀ z ∈ s.L, -9223372036854775808 ≤ z ∧ z ≤ 9223372036854775807
  len : s.L.length ≤ 17592186044416
  a0 : 0 ≤ s.at_
  a1 : s.at_ ≤ 4611686018427387904
theorem okS.start {l : List Int} (h : okL l) : okS (spymake_Stream.mk l 0) := ⟨h.z, by have := h.len; simp only []; omega, Int.le_refl _, by simp only []; omega⟩
/-- What is true of a stream that another one has become. -/
structure after (s t : spymake_Stream) (k : Int) : Prop where
  L : t.L = s.L
  lo : s.at_ ≤ t.at_
  hi : t.at_ ≤ s.at_ + k
theorem after.refl (s : spymake_Stream) : after s s 0 := ⟨rfl, Int.le_refl _, by omega⟩
theorem after.trans {s t u : spymake_Stream} {k m : Int} (h : after s t k) (g : after t u m) : after s u (k + m) := ⟨g.L.trans h.L, Int.le_trans h.lo g.lo, by have := h.hi; have := g.hi; omega⟩
theorem after.more {s t : spymake_Stream} {k m : Int} (h : after s t k) (hk : k ≤ m) : after s t m := ⟨h.L, h.lo, by have := h.hi; omega⟩
theorem after.ok {s t : spymake_Stream} {k : Int} (h : after s t k) (g : okS s) (hk : s.at_ + k ≤ 4611686018427387904) : okS t := ⟨by rw [h.L]; exact g.z, by rw [h.L]; exact g.len, by have := h.lo; have := g.a0; omega, by have := h.hi; omega⟩
theorem below_ok (x n : Int) (hx : -9223372036854775808 ≤ x ∧ x ≤ 9223372036854775807) (hn : 1 ≤ n ∧ n ≤ 9223372036854775807) : Has (spymake_Below x n) fun v => 0 ≤ v ∧ v < n := by
  unfold spymake_Below
  have h1 := Int.lt_tmod_of_pos x (b := n) (by omega)
  have h2 := Int.tmod_lt_of_pos x (b := n) (by omega)
  refine Has.neg (by simp; omega) (Has.chk (by omega) (Has.ite (fun h => Has.ret ?_) fun h => Has.ret ?_))
  · simp only [decide_eq_true_eq] at h; rw [w6_in (by omega)]; omega
  · simp only [decide_eq_true_eq] at h; omega
theorem below_zero (x n : Int) (hn : n ≤ 0) : spymake_Below x n = some 0 := by unfold spymake_Below; rw [if_pos (by simp; omega)]
theorem next_ok (s : spymake_Stream) (n : Int) (hs : okS s) (ha : s.at_ < 4611686018427387904) (hn : 1 ≤ n ∧ n ≤ 9223372036854775807) : Has (Stream_Next s n) fun r => 0 ≤ r.1 ∧ r.1 < n ∧ after s r.2 1 := by
  have h0 := hs.a0
  have hl := hs.len
  have e1 : w6 (s.at_ + 1) = s.at_ + 1 := w6_in (by omega)
  have fin : after s (spymake_Stream.mk s.L (s.at_ + 1)) 1 := ⟨rfl, by simp only []; omega, Int.le_refl _⟩
  unfold Stream_Next
  simp only [e1]
  refine Has.ite (fun hz => ?_) fun hz => ?_
  · exact (below_ok _ n (w6_bd _) hn).bind fun v hv => Has.ret ⟨hv.1, hv.2, fin⟩
  · have hz : s.L.length ≠ 0 := by simpa using hz
    have e2 : w6 (s.at_ + 1 - 1) = s.at_ := by rw [w6_in (by omega)]; omega
    have b1 := Int.tmod_nonneg (s.L.length : Int) hs.a0
    have b2 := Int.tmod_lt_of_pos s.at_ (b := (s.L.length : Int)) (by omega)
    simp only [e2]
    refine Has.chk (by omega) (Has.chk ⟨b1, b2⟩ ?_)
    refine (below_ok _ 1073741824 (hs.z _ (gt_mem _ _ ⟨b1, b2⟩)) (by omega)).bind fun v hv => Has.letF (Has.letF ?_)
    exact (below_ok _ n (w6_bd _) hn).bind fun u hu => Has.ret ⟨hu.1, hu.2, fin⟩
theorem range_ok (s : spymake_Stream) (lo hi : Int) (hs : okS s) (ha : s.at_ < 4611686018427387904) (h : lo ≤ hi) (h1 : -2305843009213693952 ≤ lo) (h2 : hi ≤ 2305843009213693952) : Has (Stream_Range s lo hi) fun r => lo ≤ r.1 ∧ r.1 ≤ hi ∧ after s r.2 1 := by
  unfold Stream_Range
  rw [w6_in (n := hi - lo) (by omega), w6_in (n := hi - lo + 1) (by omega)]
  refine Has.neg (by simp; omega) ((next_ok s (hi - lo + 1) hs ha (by omega)).bind fun r hr => Has.ret ?_)
  rw [w6_in (by omega)]
  exact ⟨by omega, by omega, hr.2.2⟩
end Lf
/- Plain facts of bounds. -/
namespace Lf
open Go Go.Abs
set_option linter.unusedVariables false
set_option linter.unusedSimpArgs false
/-- A valid bound. -/
structure Bound.ok (b : Bound) : Prop where
  u : b.Unknown = true → b.Lo = 0 ∧ b.Hi = 0
  lo : -1152921504606846976 ≤ b.Lo
  le : b.Lo ≤ b.Hi
  hi : b.Hi ≤ 1152921504606846976
theorem check_ok {b : Bound} (h : b.ok) : bound_Check b = some 0 := by
  obtain ⟨h1, h2, h3, h4⟩ := h
  unfold bound_Check
  rw [mn2_le h3, mx2_le h3]
  have e1 : ¬ b.Lo < -1152921504606846976 := by omega
  have e2 : ¬ b.Hi > 1152921504606846976 := by omega
  have e3 : ¬ b.Lo > b.Hi := by omega
  cases hu : b.Unknown with
  | false => simp [e1, e2, e3]
  | true => obtain ⟨q1, q2⟩ := h1 hu; simp [q1, q2]
theorem norm_ok {b : Bound} (h : b.ok) : bound_Norm b = some b := by unfold bound_Norm; rw [check_ok h]; rfl
theorem vague_ok {a b : Bound} (ha : a.ok) (hb : b.ok) : bound_vague a b = some (a.Unknown || b.Unknown) := by
  unfold bound_vague; rw [norm_ok ha, norm_ok hb]; cases h : a.Unknown <;> simp [h]
theorem none_ok : bound_None = some ⟨0, 0, true⟩ := rfl
theorem okNone : Bound.ok ⟨0, 0, true⟩ := ⟨fun _ => ⟨rfl, rfl⟩, by decide, by decide, by decide⟩
theorem okKnown {lo hi : Int} (h1 : -1152921504606846976 ≤ lo) (h2 : lo ≤ hi) (h3 : hi ≤ 1152921504606846976) : Bound.ok ⟨lo, hi, false⟩ := ⟨(fun h => nomatch h), h1, h2, h3⟩
theorem of_ok {lo hi : Int} (h1 : -1152921504606846976 ≤ lo) (h2 : lo ≤ hi) (h3 : hi ≤ 1152921504606846976) : bound_Of lo hi = some ⟨lo, hi, false⟩ := by
  unfold bound_Of; rw [norm_ok (okKnown h1 h2 h3)]; rfl
end Lf
/- Sums of bounds; what both admit. -/
namespace Lf
open Go Go.Abs
set_option linter.unusedVariables false
set_option linter.unusedSimpArgs false
theorem add_known {a b : Bound} (ha : a.ok) (hb : b.ok) (ua : a.Unknown = false) (ub : b.Unknown = false) (h1 : -1152921504606846976 ≤ a.Lo + b.Lo) (h2 : a.Hi + b.Hi ≤ 1152921504606846976) : bound_Add a b = some ⟨a.Lo + b.Lo, a.Hi + b.Hi, false⟩ := by
  have := ha.le; have := hb.le
  unfold bound_Add
  rw [vague_ok ha hb, ua, ub]
  simp only [Option.bind_some, Bool.or_self, Bool.false_eq_true, if_false]
  rw [w6_in (by omega), w6_in (by omega), of_ok h1 (by omega) h2]; rfl
theorem add_vague {a b : Bound} (ha : a.ok) (hb : b.ok) (u : (a.Unknown || b.Unknown) = true) : bound_Add a b = some ⟨0, 0, true⟩ := by
  unfold bound_Add
  rw [vague_ok ha hb, u]; rfl
end Lf
/- Fields of light, and bounds of it. -/
namespace Lf
open Go Go.Abs
set_option linter.unusedVariables false
set_option linter.unusedSimpArgs false
/-- A valid field. -/
structure okF (c : Cells) : Prop where
  w0 : 1 ≤ c.W
  w1 : c.W ≤ 32
  h0 : 1 ≤ c.H
  h1 : c.H ≤ 32
  len : (c.At.length : Int) = c.W * c.H
  cell : ∀ b ∈ c.At, b.ok ∧ -1099511627776 ≤ b.Lo ∧ b.Hi ≤ 1099511627776
theorem area {w h : Int} (w0 : 1 ≤ w) (w1 : w ≤ 32) (h0 : 1 ≤ h) (h1 : h ≤ 32) : 1 ≤ w * h ∧ w * h ≤ 1024 := by
  have a := Int.mul_le_mul_of_nonneg_right w1 (show 0 ≤ h by omega)
  have b := Int.mul_le_mul_of_nonneg_right w0 (show 0 ≤ h by omega)
  omega
theorem okF.n1 {c : Cells} (h : okF c) : 1 ≤ (c.At.length : Int) ∧ (c.At.length : Int) ≤ 1024 := by rw [h.len]; exact area h.w0 h.w1 h.h0 h.h1
theorem findCheck_ok {c : Cells} (h : okF c) : find_Check c = some 0 := by
  have hw0 := h.w0; have hw1 := h.w1; have hh0 := h.h0; have hh1 := h.h1
  have hn := h.n1
  have e : w6 (c.W * c.H) = (c.At.length : Int) := by rw [← h.len]; exact w6_in (by omega)
  apply Has.val
  unfold find_Check
  rw [e]
  have g1 : decide (c.W < 1) = false := decide_eq_false (by omega)
  have g2 : decide (c.W > 32) = false := decide_eq_false (by omega)
  have g3 : decide (c.H < 1) = false := decide_eq_false (by omega)
  have g4 : decide (c.H > 32) = false := decide_eq_false (by omega)
  simp only [g1, g2, g3, g4, ite_or, Bool.false_or, bne_self_eq_false, Option.bind_some, Bool.false_eq_true, if_false]
  refine Has.seq (P := fun t : Step Unit Int => t = .next ()) ?_ (fun _ _ => Has.ret rfl) (fun o ho => by cases ho)
  refine Has.loop (fun i : Int => 0 ≤ i ∧ i ≤ c.At.length) (fun i => (c.At.length - i).toNat) (fun t : Step Unit Int => t = .next ()) ⟨Int.le_refl _, by omega⟩ (by omega) fun i ⟨i1, i2⟩ => ?_
  unfold find_Check.l1
  refine Has.ite (fun hi => ?_) fun hi => Has.ret (.done rfl)
  have hi : i < c.At.length := of_decide_eq_true hi
  obtain ⟨b1, b2, b3⟩ := h.cell _ (gt_mem c.At i ⟨i1, hi⟩)
  refine Has.chk ⟨i1, hi⟩ ?_
  rw [check_ok b1]
  have g5 : decide ((gt c.At i).Lo < (-1099511627776)) = false := decide_eq_false (by omega)
  have g6 : decide ((gt c.At i).Hi > 1099511627776) = false := decide_eq_false (by omega)
  simp only [Option.bind_some, bne_self_eq_false, Bool.false_eq_true, if_false, g5, g6, ite_or, Bool.false_or]
  rw [w6_in (by omega)]
  exact Has.ret (.next ⟨by omega, by omega⟩ (by omega))
end Lf
/- Words of 64 bits: lengths, products, quotients. -/
namespace Lf
open Go Go.Abs
set_option linter.unusedVariables false
set_option linter.unusedSimpArgs false
theorem wu_in {n : Int} (h : 0 ≤ n ∧ n < 18446744073709551616) : IntKind.wrap .u64 n = n := by rw [IntKind.wrap_u64]; omega
theorem wu_def (n : Int) : IntKind.wrap .u64 n = n % 18446744073709551616 := IntKind.wrap_u64 n
theorem wu_bd (n : Int) : 0 ≤ IntKind.wrap .u64 n ∧ IntKind.wrap .u64 n < 18446744073709551616 := by rw [wu_def]; omega
theorem w8_in {n : Int} (h : 0 ≤ n ∧ n < 256) : IntKind.wrap .u8 n = n := by rw [IntKind.wrap_u8]; omega
theorem fdiv_pow (x : Int) (k : Nat) : Int.fdiv x (2 ^ k) = x / 2 ^ k := Int.fdiv_eq_ediv_of_nonneg x (Int.le_of_lt (Int.pow_pos (by decide)))
theorem u_nat {x : Int} (h : 0 ≤ x ∧ x < 18446744073709551616) : (BitVec.ofInt 64 x).toNat = x.toNat := by
  rw [BitVec.toNat_ofInt]; omega
theorem and_low {x : Int} (h : 0 ≤ x ∧ x < 18446744073709551616) : IntKind.wrap .u64 ((BitVec.ofInt 64 x &&& BitVec.ofInt 64 4294967295).toNat : Int) = x % 4294967296 := by
  rw [BitVec.toNat_and, u_nat h, u_nat (by omega), show (4294967295 : Int).toNat = 2 ^ 32 - 1 from rfl, Nat.and_two_pow_sub_one_eq_mod, wu_in (by omega)]
  omega
theorem xor_all {x : Int} (h : 0 ≤ x ∧ x < 18446744073709551616) : IntKind.wrap .u64 ((BitVec.ofInt 64 (18446744073709551615) ^^^ BitVec.ofInt 64 x).toNat : Int) = 18446744073709551615 - x := by
  have e : BitVec.ofInt 64 18446744073709551615 = BitVec.allOnes 64 := by decide
  rw [e, BitVec.allOnes_xor, BitVec.toNat_not, u_nat h, wu_in (by omega)]
  omega
theorem or_add {x y : Int} (k : Nat) (hx : 0 ≤ x) (hy : 0 ≤ y ∧ y < 2 ^ k) (h : x * 2 ^ k + y < 18446744073709551616) (hk : 0 ≤ x * 2 ^ k) : IntKind.wrap .u64 ((BitVec.ofInt 64 (x * 2 ^ k) ||| BitVec.ofInt 64 y).toNat : Int) = x * 2 ^ k + y := by
  rw [BitVec.toNat_or, u_nat (by omega), u_nat (by omega)]
  obtain ⟨a, rfl⟩ := Int.eq_ofNat_of_zero_le hx
  obtain ⟨b, rfl⟩ := Int.eq_ofNat_of_zero_le hy.1
  have e : ((a : Int) * 2 ^ k).toNat = a <<< k := by
    rw [Nat.shiftLeft_eq]
    have : (a : Int) * 2 ^ k = ((a * 2 ^ k : Nat) : Int) := by simp
    rw [this]; rfl
  have hb : b < 2 ^ k := by
    have := hy.2
    exact_mod_cast this
  rw [e, show ((b : Int)).toNat = b from rfl, ← Nat.shiftLeft_add_eq_or_of_lt hb, Nat.shiftLeft_eq]
  have e2 : ((a * 2 ^ k + b : Nat) : Int) = (a : Int) * 2 ^ k + b := by simp
  rw [e2, wu_in (by omega)]
/-! ### lengths -/
theorem tab_ok : ∀ i : Fin 256, (tab1.getD i.val 0).toNat ≤ 8 ∧ i.val < 2 ^ (tab1.getD i.val 0).toNat ∧ (0 < i.val → 1 ≤ (tab1.getD i.val 0).toNat ∧ 2 ^ ((tab1.getD i.val 0).toNat - 1) ≤ i.val) := by decide +kernel
theorem tab_len : tab1.length = 256 := by decide +kernel
theorem len_fin {x : Int} (c : Nat) (hx : 0 ≤ x) (hc : c ≤ 56) (h : x / 2 ^ c < 256) (hp : 0 < c → 2 ^ c ≤ x) : Has (if (0 : Int) ≤ IntKind.wrap .u8 (x / 2 ^ c) ∧ (IntKind.wrap .u8 (x / 2 ^ c)).toNat < tab1.length then some (w6 ((c : Int) + (w6 (tabAt tab1 (IntKind.wrap .u8 (x / 2 ^ c)))))) else none) fun n => ∃ k : Nat, n = k ∧ k ≤ 64 ∧ x < 2 ^ k ∧ (0 < x → 1 ≤ k ∧ 2 ^ (k - 1) ≤ x) := by
  have p : (0 : Int) < 2 ^ c := Int.pow_pos (by decide)
  have h0 : 0 ≤ x / 2 ^ c := Int.ediv_nonneg hx (Int.le_of_lt p)
  rw [w8_in ⟨h0, h⟩, tab_len]
  obtain ⟨t1, t2, t3⟩ := tab_ok ⟨(x / 2 ^ c).toNat, by omega⟩
  simp only [] at t1 t2 t3
  have e : tabAt tab1 (x / 2 ^ c) = ((tab1.getD (x / 2 ^ c).toNat 0).toNat : Int) := rfl
  generalize (tab1.getD (x / 2 ^ c).toNat 0).toNat = t at *
  refine Has.chk ⟨h0, by omega⟩ (Has.ret ⟨c + t, ?_, by omega, ?_, fun h1 => ?_⟩)
  · have e3 : w6 (t : Int) = t := w6_in (by omega)
    rw [e, e3, w6_in (by omega)]; omega
  · have : x / 2 ^ c < 2 ^ t := by
      have : (((x / 2 ^ c).toNat : Nat) : Int) < ((2 ^ t : Nat) : Int) := Int.ofNat_lt.2 t2
      rw [Int.toNat_of_nonneg h0] at this
      simpa using this
    have := (Int.ediv_lt_iff_lt_mul p).1 this
    rw [Nat.add_comm, Int.pow_add]; exact this
  · have h3 : 0 < (x / 2 ^ c).toNat := by
      have : 1 ≤ x / 2 ^ c := by
        rw [Int.le_ediv_iff_mul_le p]
        rcases Nat.eq_zero_or_pos c with rfl | hcp
        · simp; omega
        · have := hp hcp; omega
      omega
    obtain ⟨k1, k2⟩ := t3 h3
    refine ⟨by omega, ?_⟩
    have k2' : (2 : Int) ^ (t - 1) ≤ x / 2 ^ c := by
      have : ((2 ^ (t - 1) : Nat) : Int) ≤ (((x / 2 ^ c).toNat : Nat) : Int) := Int.ofNat_le.2 k2
      rw [Int.toNat_of_nonneg h0] at this
      simpa using this
    have := (Int.le_ediv_iff_mul_le p).1 k2'
    rw [show c + t - 1 = (t - 1) + c by omega, Int.pow_add]; exact this
theorem len64_ok (x : Int) (hx : 0 ≤ x ∧ x < 18446744073709551616) : Has (bits_Len64 x) fun n => ∃ k : Nat, n = k ∧ k ≤ 64 ∧ x < 2 ^ k ∧ (0 < x → 1 ≤ k ∧ 2 ^ (k - 1) ≤ x) := by
  have d0 : Int.fdiv x (2 ^ 32) = x / 2 ^ 32 := fdiv_pow x 32
  have d1 : Int.fdiv x (2 ^ 16) = x / 2 ^ 16 := fdiv_pow x 16
  have d2 : Int.fdiv x (2 ^ 8) = x / 2 ^ 8 := fdiv_pow x 8
  have d3 : Int.fdiv (x / 2 ^ 32) (2 ^ 16) = x / 2 ^ 48 := by rw [fdiv_pow]; omega
  have d4 : Int.fdiv (x / 2 ^ 48) (2 ^ 8) = x / 2 ^ 56 := by rw [fdiv_pow]; omega
  have d5 : Int.fdiv (x / 2 ^ 32) (2 ^ 8) = x / 2 ^ 40 := by rw [fdiv_pow]; omega
  have d6 : Int.fdiv (x / 2 ^ 16) (2 ^ 8) = x / 2 ^ 24 := by rw [fdiv_pow]; omega
  unfold bits_Len64
  simp only [d0, d1, d2, d3, d4, d5, d6, decide_eq_true_eq]
  refine Has.ite (fun h1 => Has.ite (fun h2 => Has.ite (fun h3 => ?_) fun h3 => ?_) fun h2 => Has.ite (fun h3 => ?_) fun h3 => ?_) fun h1 => Has.ite (fun h2 => Has.ite (fun h3 => ?_) fun h3 => ?_) fun h2 => Has.ite (fun h3 => ?_) fun h3 => ?_
  · exact len_fin 56 hx.1 (by omega) (by omega) (by omega)
  · exact len_fin 48 hx.1 (by omega) (by omega) (by omega)
  · exact len_fin 40 hx.1 (by omega) (by omega) (by omega)
  · exact len_fin 32 hx.1 (by omega) (by omega) (by omega)
  · exact len_fin 24 hx.1 (by omega) (by omega) (by omega)
  · exact len_fin 16 hx.1 (by omega) (by omega) (by omega)
  · exact len_fin 8 hx.1 (by omega) (by omega) (by omega)
  · have := len_fin (x := x) 0 hx.1 (by omega) (by omega) (by omega)
    simpa using this
end Lf
/- The quotient of a number of 128 bits by one of 64. -/
namespace Lf
open Go Go.Abs
set_option linter.unusedVariables false
set_option linter.unusedSimpArgs false
/-- A digit of the quotient, guessed too large or right. -/
structure Dig (a b u d q r : Int) : Prop where
  e : q * a + r = u
  r0 : 0 ≤ r
  lo : (u * 4294967296 + d) / (a * 4294967296 + b) ≤ q
  hi : q ≤ 4294967297
/-- What stands fast while a digit is sought. -/
structure Dg (a b u d : Int) : Prop where
  a0 : 2147483648 ≤ a
  a1 : a < 4294967296
  b0 : 0 ≤ b
  b1 : b < 4294967296
  d0 : 0 ≤ d
  d1 : d < 4294967296
  u0 : 0 ≤ u
  uv : u < a * 4294967296 + b
section
variable {a b u d q r : Int}
theorem Dg.q0 (g : Dg a b u d) : 0 ≤ (u * 4294967296 + d) / (a * 4294967296 + b) := Int.ediv_nonneg (by have := g.u0; have := g.d0; omega) (by have := g.a0; have := g.b0; omega)
theorem Dg.qB (g : Dg a b u d) : (u * 4294967296 + d) / (a * 4294967296 + b) < 4294967296 := by
  have := g.a0; have := g.b0; have := g.uv; have := g.d1; have := g.u0; have := g.d0
  rw [Int.ediv_lt_iff_lt_mul (by omega)]; omega
theorem Dg.test (g : Dg a b u d) (h : q * a + r = u) : (u * 4294967296 + d) / (a * 4294967296 + b) < q ↔ r * 4294967296 + d < q * b := by
  have := g.a0; have := g.b0
  rw [Int.ediv_lt_iff_lt_mul (by omega), Int.mul_add, ← Int.mul_assoc]
  omega
theorem Dg.first (g : Dg a b u d) : Dig a b u d (u / a) (u % a) := by
  have := g.a0; have := g.b0; have := g.u0; have := g.uv; have := g.d1; have := g.b1
  have e1 : u / a * a + u % a = u := by rw [Int.mul_comm]; exact Int.mul_ediv_add_emod u a
  have r0 := Int.emod_nonneg u (b := a) (by omega)
  have r1 := Int.emod_lt_of_pos u (b := a) (by omega)
  refine ⟨e1, r0, ?_, ?_⟩
  · by_cases h : u / a < (u * 4294967296 + d) / (a * 4294967296 + b)
    · have hq := (Int.le_ediv_iff_mul_le (by omega)).1 (show u / a + 1 ≤ (u * 4294967296 + d) / (a * 4294967296 + b) by omega)
      rw [Int.add_mul, Int.mul_add, ← Int.mul_assoc] at hq
      have hs : 0 ≤ u / a * b := Int.mul_nonneg (Int.ediv_nonneg g.u0 (by omega)) g.b0
      omega
    · omega
  · have : u / a < 4294967298 := by rw [Int.ediv_lt_iff_lt_mul (by omega)]; omega
    omega
theorem Dg.down (g : Dg a b u d) (h : Dig a b u d q r) (ht : (u * 4294967296 + d) / (a * 4294967296 + b) < q) : Dig a b u d (q - 1) (r + a) :=
  ⟨by have := h.e; rw [Int.sub_mul]; omega, by have := h.r0; have := g.a0; omega, by omega, by have := h.hi; omega⟩
theorem Dg.stop (g : Dg a b u d) (h : Dig a b u d q r) (hr : 4294967296 ≤ r) (hq : q ≤ 4294967296) : q = (u * 4294967296 + d) / (a * 4294967296 + b) := by
  have hn : ¬ (u * 4294967296 + d) / (a * 4294967296 + b) < q := by
    rw [g.test h.e]
    have h0 : 0 ≤ q := Int.le_trans g.q0 h.lo
    have := Int.mul_le_mul_of_nonneg_left (show b ≤ 4294967295 by have := g.b1; omega) h0
    have := g.d0
    omega
  have := h.lo
  omega
/-- One test: is the digit too large? -/
theorem Dg.asks (g : Dg a b u d) (h : Dig a b u d q r) (hr : r < 4294967296) (v : Int) (hv : v = IntKind.wrap .u64 (IntKind.wrap .u64 (4294967296 * r) + d)) : Has (if (decide (q ≥ 4294967296)) = true then some true else some (decide ((IntKind.wrap .u64 (q * b)) > v))) fun z => z = decide ((u * 4294967296 + d) / (a * 4294967296 + b) < q) := by
  have h0 : 0 ≤ q := Int.le_trans g.q0 h.lo
  refine Has.ite (fun hc => Has.ret ?_) fun hc => Has.ret ?_
  · have := g.qB
    simp only [decide_eq_true_eq] at hc
    exact (decide_eq_true (by omega)).symm
  · simp only [decide_eq_true_eq] at hc
    have h1 := Int.mul_le_mul_of_nonneg_left (show b ≤ 4294967295 by have := g.b1; omega) h0
    have h2 := Int.mul_nonneg h0 g.b0
    have := h.r0; have := g.d0; have := g.d1
    rw [hv, wu_in (n := q * b) (by omega), wu_in (n := 4294967296 * r) (by omega), wu_in (by omega)]
    have key := g.test (q := q) (r := r) h.e
    by_cases ht : (u * 4294967296 + d) / (a * 4294967296 + b) < q
    · rw [decide_eq_true ht, decide_eq_true]; have := key.1 ht; omega
    · rw [decide_eq_false ht, decide_eq_false]; have := mt key.2 ht; omega
end
theorem div_l1 {v7 b v13 u d : Int} {a : Int} (ea : Int.fdiv v7 (2 ^ 32) = a) (ed : Int.fdiv v13 (2 ^ 32) = d) (g : Dg a b u d) (s : Int × Int) (h : Dig a b u d s.1 s.2) (hr : s.2 < 4294967296) :
    Has (loopF (bits_Div64.l1 v7 b v13) s) fun o => o = (u * 4294967296 + d) / (a * 4294967296 + b) := by
  refine Has.loop (fun s : Int × Int => Dig a b u d s.1 s.2 ∧ s.2 < 4294967296) (fun s => s.1.toNat) (fun o : Int => o = (u * 4294967296 + d) / (a * 4294967296 + b)) ⟨h, hr⟩ (by have := h.hi; show s.1.toNat < _; omega) fun s ⟨h, hr⟩ => ?_
  unfold bits_Div64.l1
  simp only [ea, ed]
  have hq := h.hi; have h0 := h.r0; have a0 := g.a0; have a1 := g.a1; have q0 := g.q0; have hl := h.lo
  refine (g.asks h hr _ rfl).bind fun z hz => ?_
  subst hz
  refine Has.ite (fun ht => ?_) fun ht => ?_
  · have ht := of_decide_eq_true ht
    have k := g.down h ht
    rw [wu_in (n := s.2 + a) (by omega), wu_in (n := s.1 - 1) (by omega)]
    refine Has.letF (Has.ite (fun hc => Has.ret (.done ?_)) fun hc => Has.ret (.next ⟨k, ?_⟩ ?_))
    · exact g.stop k (by simpa using hc) (by omega)
    · simpa using hc
    · simp only []; omega
  · have ht : ¬ _ := fun x => ht (decide_eq_true x)
    exact Has.ret (.done (by omega))
theorem div_l2 {v7 b d u : Int} {a : Int} (ea : Int.fdiv v7 (2 ^ 32) = a) (g : Dg a b u d) (s : Int × Int) (h : Dig a b u d s.2 s.1) (hr : s.1 < 4294967296) :
    Has (loopF (bits_Div64.l2 v7 b d) s) fun o => o = (u * 4294967296 + d) / (a * 4294967296 + b) := by
  refine Has.loop (fun s : Int × Int => Dig a b u d s.2 s.1 ∧ s.1 < 4294967296) (fun s => s.2.toNat) (fun o : Int => o = (u * 4294967296 + d) / (a * 4294967296 + b)) ⟨h, hr⟩ (by have := h.hi; show s.2.toNat < _; omega) fun s ⟨h, hr⟩ => ?_
  unfold bits_Div64.l2
  simp only [ea]
  have hq := h.hi; have h0 := h.r0; have a0 := g.a0; have a1 := g.a1; have q0 := g.q0; have hl := h.lo
  refine (g.asks h hr _ rfl).bind fun z hz => ?_
  subst hz
  refine Has.ite (fun ht => ?_) fun ht => ?_
  · have ht := of_decide_eq_true ht
    have k := g.down h ht
    rw [wu_in (n := s.1 + a) (by omega), wu_in (n := s.2 - 1) (by omega)]
    refine Has.letF (Has.ite (fun hc => Has.ret (.done ?_)) fun hc => Has.ret (.next ⟨k, ?_⟩ ?_))
    · exact g.stop k (by simpa using hc) (by omega)
    · simpa using hc
    · simp only []; omega
  · have ht : ¬ _ := fun x => ht (decide_eq_true x)
    exact Has.ret (.done (by omega))
end Lf
/- The quotient of a number of 128 bits by one of 64: the whole. -/
namespace Lf
open Go Go.Abs
set_option linter.unusedVariables false
set_option linter.unusedSimpArgs false
theorem div_norm {hi lo y p m : Int} (hp : 0 < p) (hm : 0 < m) (hpm : p * m = 18446744073709551616) (h0 : 0 ≤ hi) (h1 : hi < y) (l0 : 0 ≤ lo) (l1 : lo < 18446744073709551616) (y0 : m ≤ y + y) (y1 : y < m) :
    9223372036854775808 ≤ y * p ∧ y * p < 18446744073709551616 ∧ 0 ≤ hi * p ∧ hi * p + p ≤ y * p ∧ 0 ≤ lo / m ∧ lo / m < p ∧ 0 ≤ lo % m * p ∧ lo % m * p < 18446744073709551616 ∧ lo * p = 18446744073709551616 * (lo / m) + lo % m * p := by
  have c : m * p = 18446744073709551616 := by rw [Int.mul_comm]; exact hpm
  have k1 := Int.mul_le_mul_of_nonneg_right y0 (Int.le_of_lt hp)
  have k2 := Int.mul_lt_mul_of_pos_right y1 hp
  have k3 := Int.mul_nonneg h0 (Int.le_of_lt hp)
  have k4 := Int.mul_le_mul_of_nonneg_right (show hi + 1 ≤ y by omega) (Int.le_of_lt hp)
  have k5 := Int.ediv_nonneg l0 (Int.le_of_lt hm)
  have k6 : lo / m < p := by rw [Int.ediv_lt_iff_lt_mul hm, hpm]; exact l1
  have e1 := Int.emod_nonneg lo (b := m) (by omega)
  have e2 := Int.emod_lt_of_pos lo hm
  have k7 := Int.mul_nonneg e1 (Int.le_of_lt hp)
  have k8 := Int.mul_lt_mul_of_pos_right e2 hp
  have k9 : lo * p = 18446744073709551616 * (lo / m) + lo % m * p := by
    have := Int.mul_ediv_add_emod lo m
    conv => lhs; rw [← this]
    rw [Int.add_mul, Int.mul_assoc, Int.mul_comm (lo / m) p, ← Int.mul_assoc, c]
  rw [Int.add_mul] at k1
  rw [Int.add_mul, Int.one_mul] at k4
  refine ⟨by omega, by omega, k3, k4, k5, k6, k7, by omega, k9⟩
theorem div_fin {U y p Q R : Int} (hp : 0 < p) (hy : 0 < y) (e : U * p = Q * (y * p) + R) (r0 : 0 ≤ R) (r1 : R < y * p) : Q = U / y ∧ R / p = U % y := by
  have e1 : (U - Q * y) * p = R := by rw [Int.sub_mul, Int.mul_assoc]; omega
  have q0 : 0 ≤ U - Q * y := by
    by_cases h : 0 ≤ U - Q * y
    · exact h
    · have := Int.mul_lt_mul_of_pos_right (show U - Q * y < 0 by omega) hp
      omega
  have q1 : U - Q * y < y := by
    by_cases h : U - Q * y < y
    · exact h
    · have := Int.mul_le_mul_of_nonneg_right (show y ≤ U - Q * y by omega) (Int.le_of_lt hp)
      omega
  obtain ⟨a, b⟩ := (Int.ediv_emod_unique hy (a := U) (q := Q) (r := U - Q * y)).2 ⟨by rw [Int.mul_comm y Q]; omega, q0, q1⟩
  refine ⟨a.symm, ?_⟩
  rw [b, ← e1, Int.mul_ediv_cancel _ (by omega)]
theorem div64_ok (hi lo y : Int) (h0 : 0 ≤ hi) (h1 : hi < y) (hy : y < 18446744073709551616) (l0 : 0 ≤ lo) (l1 : lo < 18446744073709551616) :
    Has (bits_Div64 hi lo y) fun r => r = (NU64.mk ((hi * 18446744073709551616 + lo) / y), NU64.mk ((hi * 18446744073709551616 + lo) % y)) := by
  unfold bits_Div64
  refine Has.neg (by simp; omega) (Has.neg (by simp; omega) (Has.ite (fun hz => ?_) fun hz => ?_))
  · have hz : hi = 0 := by simpa using hz
    subst hz
    have q0 := Int.ediv_nonneg l0 (show 0 ≤ y by omega)
    have q1 := Int.ediv_le_self y l0
    have q1 : lo / y ≤ lo := Int.ediv_le_self y l0
    refine Has.chk (by omega) (Has.ret ?_)
    rw [Int.tdiv_eq_ediv_of_nonneg l0, Int.tmod_eq_emod_of_nonneg l0, wu_in (by omega)]
    simp
  · unfold bits_LeadingZeros64
    refine Has.bind (P := fun r => ∃ k : Nat, r = 64 - (k : Int) ∧ k ≤ 64 ∧ y < 2 ^ k ∧ 1 ≤ k ∧ 2 ^ (k - 1) ≤ y) ((len64_ok y ⟨by omega, hy⟩).bind fun n ⟨k, hk, k64, kl, kg⟩ => Has.ret ⟨k, by rw [hk, w6_in (by omega)], k64, kl, kg (by omega)⟩) fun r ⟨k, hr, k64, kl, k1, kg⟩ => ?_
    subst hr
    have hm : (0 : Int) < 2 ^ k := Int.pow_pos (by decide)
    have hp : (0 : Int) < 2 ^ (64 - k) := Int.pow_pos (by decide)
    have hpm : (2 : Int) ^ (64 - k) * 2 ^ k = 18446744073709551616 := by rw [← Int.pow_add, Nat.sub_add_cancel k64]; rfl
    have hmy : (2 : Int) ^ k ≤ y + y := by
      have : (2 : Int) ^ k = 2 ^ (k - 1) * 2 := by rw [← Int.pow_succ]; congr 1; omega
      omega
    obtain ⟨n1, n2, n3, n4, n5, n6, n7, n8, n9⟩ := div_norm hp hm hpm h0 h1 l0 l1 hmy kl
    have s1 : IntKind.wrap .u64 (64 - (k : Int)) = 64 - (k : Int) := wu_in (by omega)
    have s2 : min (64 - (k : Int)).toNat (IntKind.bits .u64) = 64 - k := by
      show min (64 - (k : Int)).toNat 64 = _
      omega
    have s3 : IntKind.wrap .u64 (64 - (64 - (k : Int))) = (k : Int) := by rw [wu_in (by omega)]; omega
    have s4 : min (k : Int).toNat (IntKind.bits .u64) = k := by
      show min (k : Int).toNat 64 = _
      omega
    have low : ∀ x : Int, 0 ≤ x ∧ x < 18446744073709551616 → IntKind.wrap .u64 ((BitVec.ofInt 64 x &&& BitVec.ofInt 64 4294967295).toNat : Int) = x % 4294967296 := fun x h => and_low h
    simp only [s1, s2, s3, s4]
    rw [wu_in (n := y * 2 ^ (64 - k)) ⟨by omega, n2⟩, wu_in (n := hi * 2 ^ (64 - k)) ⟨n3, by omega⟩]
    have f1 : Int.fdiv lo (2 ^ k) = lo / 2 ^ k := fdiv_pow lo k
    rw [f1]
    have w13 : IntKind.wrap .u64 (lo * 2 ^ (64 - k)) = lo % 2 ^ k * 2 ^ (64 - k) := by rw [wu_def]; omega
    rw [w13]
    refine Has.chk (by omega) (Has.letF (Has.letF (Has.letF (Has.chk (by omega) (Has.letF (Has.letF (Has.letF (Has.letF ?_))))))))
    rw [low _ ⟨by omega, n2⟩, or_add (64 - k) h0 ⟨n5, n6⟩ (by omega) n3, low _ ⟨n7, n8⟩]
    generalize hv : y * 2 ^ (64 - k) = v at *
    generalize hu : hi * 2 ^ (64 - k) + lo / 2 ^ k = u at *
    generalize ht : lo % 2 ^ k * 2 ^ (64 - k) = t at *
    have ea : Int.fdiv v (2 ^ 32) = v / 4294967296 := fdiv_pow v 32
    have ed : Int.fdiv t (2 ^ 32) = t / 4294967296 := fdiv_pow t 32
    rw [ea, ed]
    have vv : v / 4294967296 * 4294967296 + v % 4294967296 = v := by omega
    have u0 : 0 ≤ u := by omega
    have uv : u < v := by omega
    have g1 : Dg (v / 4294967296) (v % 4294967296) u (t / 4294967296) := ⟨by omega, by omega, by omega, by omega, by omega, by omega, u0, by omega⟩
    have t1 : IntKind.wrap .u64 (Int.tdiv u (v / 4294967296)) = u / (v / 4294967296) := by
      rw [Int.tdiv_eq_ediv_of_nonneg u0]
      have := Int.ediv_nonneg u0 (show 0 ≤ v / 4294967296 by omega)
      have := Int.ediv_le_self (v / 4294967296) u0
      exact wu_in (by omega)
    have t2 : u / (v / 4294967296) * (v / 4294967296) + u % (v / 4294967296) = u := by rw [Int.mul_comm]; exact Int.mul_ediv_add_emod u _
    have t3 := Int.emod_nonneg u (b := v / 4294967296) (by omega)
    have t4 := Int.emod_lt_of_pos u (b := v / 4294967296) (by omega)
    rw [t1]
    refine Has.chk (by omega) (Has.letF ?_)
    have t7 : 0 ≤ u / (v / 4294967296) * (v / 4294967296) := Int.mul_nonneg (Int.ediv_nonneg u0 (by omega)) (by omega)
    have t5 : IntKind.wrap .u64 (u / (v / 4294967296) * (v / 4294967296)) = u / (v / 4294967296) * (v / 4294967296) := wu_in (by omega)
    have t6 : IntKind.wrap .u64 (u - u / (v / 4294967296) * (v / 4294967296)) = u % (v / 4294967296) := by rw [wu_in (by omega)]; omega
    rw [t5, t6]
    refine (div_l1 ea ed g1 (u / (v / 4294967296), u % (v / 4294967296)) g1.first (by have := g1.a1; show u % (v / 4294967296) < _; omega)).bind fun z hz => ?_
    rw [vv] at hz
    -- the first digit
    have z0 := g1.q0
    have zB := g1.qB
    rw [vv, ← hz] at z0 zB
    have zr := Int.mul_ediv_add_emod (u * 4294967296 + t / 4294967296) v
    rw [← hz] at zr
    have zr0 := Int.emod_nonneg (u * 4294967296 + t / 4294967296) (b := v) (by omega)
    have zr1 := Int.emod_lt_of_pos (u * 4294967296 + t / 4294967296) (b := v) (by omega)
    rw [Int.mul_comm v z] at zr
    generalize hR : (u * 4294967296 + t / 4294967296) % v = R at *
    have x1 : IntKind.wrap .u64 (IntKind.wrap .u64 (IntKind.wrap .u64 (u * 4294967296) + t / 4294967296) - IntKind.wrap .u64 (z * v)) = R := by
      simp only [wu_def]; omega
    refine Has.letF ?_
    simp only [x1]
    have g2 : Dg (v / 4294967296) (v % 4294967296) R (t % 4294967296) := ⟨by omega, by omega, by omega, by omega, by omega, by omega, zr0, by omega⟩
    have y1 : IntKind.wrap .u64 (Int.tdiv R (v / 4294967296)) = R / (v / 4294967296) := by
      rw [Int.tdiv_eq_ediv_of_nonneg zr0]
      have := Int.ediv_nonneg zr0 (show 0 ≤ v / 4294967296 by omega)
      have := Int.ediv_le_self (v / 4294967296) zr0
      exact wu_in (by omega)
    have y2 : R / (v / 4294967296) * (v / 4294967296) + R % (v / 4294967296) = R := by rw [Int.mul_comm]; exact Int.mul_ediv_add_emod R _
    have y3 := Int.emod_nonneg R (b := v / 4294967296) (by omega)
    have y4 := Int.emod_lt_of_pos R (b := v / 4294967296) (by omega)
    have y7 : 0 ≤ R / (v / 4294967296) * (v / 4294967296) := Int.mul_nonneg (Int.ediv_nonneg zr0 (by omega)) (by omega)
    have y5 : IntKind.wrap .u64 (R - IntKind.wrap .u64 (R / (v / 4294967296) * (v / 4294967296))) = R % (v / 4294967296) := by rw [wu_in (n := R / (v / 4294967296) * (v / 4294967296)) (by omega), wu_in (by omega)]; omega
    rw [y1]
    refine Has.letF (Has.letF ?_)
    simp only [y5]
    refine (div_l2 ea g2 (R % (v / 4294967296), R / (v / 4294967296)) g2.first (by have := g2.a1; show R % (v / 4294967296) < _; omega)).bind fun x hx => ?_
    rw [vv] at hx
    have x0 := g2.q0
    have xB := g2.qB
    rw [vv, ← hx] at x0 xB
    have xr := Int.mul_ediv_add_emod (R * 4294967296 + t % 4294967296) v
    rw [← hx] at xr
    have xr0 := Int.emod_nonneg (R * 4294967296 + t % 4294967296) (b := v) (by omega)
    have xr1 := Int.emod_lt_of_pos (R * 4294967296 + t % 4294967296) (b := v) (by omega)
    rw [Int.mul_comm v x] at xr
    generalize hT : (R * 4294967296 + t % 4294967296) % v = T at *
    have w1 : IntKind.wrap .u64 (IntKind.wrap .u64 (IntKind.wrap .u64 (R * 4294967296) + t % 4294967296) - IntKind.wrap .u64 (x * v)) = T := by
      simp only [wu_def]; omega
    have w2 : IntKind.wrap .u64 (IntKind.wrap .u64 (z * 4294967296) + x) = z * 4294967296 + x := by rw [wu_in (n := z * 4294967296) (by omega), wu_in (by omega)]
    refine Has.letF (Has.letF (Has.letF (Has.letF (Has.ret ?_))))
    simp only [w1, w2]
    rw [fdiv_pow T (64 - k)]
    have key : (hi * 18446744073709551616 + lo) * 2 ^ (64 - k) = (z * 4294967296 + x) * (y * 2 ^ (64 - k)) + T := by
      rw [hv, Int.add_mul, Int.add_mul, Int.mul_right_comm, Int.mul_right_comm z]
      omega
    obtain ⟨q1, q2⟩ := div_fin hp (show 0 < y by omega) key xr0 (by rw [hv]; exact xr1)
    rw [q1, q2]
end Lf
/- Products and quotients of whole numbers, by way of 128 bits. -/
namespace Lf
open Go Go.Abs
set_option linter.unusedVariables false
set_option linter.unusedSimpArgs false
theorem w6_def (n : Int) : w6 n = (n + 9223372036854775808) % 18446744073709551616 - 9223372036854775808 := by unfold w6; rw [IntKind.wrap_i64]
def okI (n : Int) : Prop := -9223372036854775808 ≤ n ∧ n ≤ 9223372036854775807
instance (n : Int) : Decidable (okI n) := inferInstanceAs (Decidable (_ ∧ _))
structure okW (w : num_Wide) : Prop where
  h : okI w.Hi
  l0 : 0 ≤ w.Lo.n
  l1 : w.Lo.n < 18446744073709551616
def wv (w : num_Wide) : Int := w.Hi * 18446744073709551616 + w.Lo.n
theorem size_ok (a : Int) (ha : okI a) : Has (num_size a) fun r => 0 ≤ r.n ∧ r.n ≤ 9223372036854775808 ∧ ((0 ≤ a ∧ r.n = a) ∨ (a < 0 ∧ r.n = -a)) := by
  unfold num_size
  have h1 := ha.1; have h2 := ha.2
  refine Has.ite (fun h => Has.ret ?_) fun h => Has.ret ?_
  · have h : a < 0 := by simpa using h
    simp only [wu_def]; omega
  · have h : 0 ≤ a := by simpa using h
    simp only [wu_def]; omega
theorem mul64_ok (x y : Int) (hx : 0 ≤ x ∧ x < 18446744073709551616) (hy : 0 ≤ y ∧ y < 18446744073709551616) : Has (bits_Mul64 x y) fun r => r = (NU64.mk (x * y / 18446744073709551616), NU64.mk (x * y % 18446744073709551616)) := by
  unfold bits_Mul64
  have e1 : Int.fdiv x (2 ^ 32) = x / 4294967296 := fdiv_pow x 32
  have e2 : Int.fdiv y (2 ^ 32) = y / 4294967296 := fdiv_pow y 32
  have bd : ∀ a b : Int, 0 ≤ a → a ≤ 4294967295 → 0 ≤ b → b ≤ 4294967295 → 0 ≤ a * b ∧ a * b ≤ 18446744065119617025 := fun a b a0 a1 b0 b1 => by
    have := Int.mul_nonneg a0 b0
    have h1 := Int.mul_le_mul_of_nonneg_right a1 b0
    omega
  have ex : x * y = x / 4294967296 * (y / 4294967296) * 18446744073709551616 + (x / 4294967296 * (y % 4294967296) + x % 4294967296 * (y / 4294967296)) * 4294967296 + x % 4294967296 * (y % 4294967296) := by
    have h1 : x = x / 4294967296 * 4294967296 + x % 4294967296 := by omega
    have h2 : y = y / 4294967296 * 4294967296 + y % 4294967296 := by omega
    generalize x / 4294967296 = a at *
    generalize x % 4294967296 = b at *
    generalize y / 4294967296 = c at *
    generalize y % 4294967296 = d at *
    subst h1; subst h2
    rw [Int.add_mul, Int.mul_add, Int.mul_add, Int.mul_right_comm a 4294967296, ← Int.mul_assoc a c, Int.mul_assoc (a * c), Int.mul_right_comm a 4294967296 d, ← Int.mul_assoc b c, Int.add_mul]
    omega
  have p1 := bd (x / 4294967296) (y / 4294967296) (by omega) (by omega) (by omega) (by omega)
  have p2 := bd (x / 4294967296) (y % 4294967296) (by omega) (by omega) (by omega) (by omega)
  have p3 := bd (x % 4294967296) (y / 4294967296) (by omega) (by omega) (by omega) (by omega)
  have p4 := bd (x % 4294967296) (y % 4294967296) (by omega) (by omega) (by omega) (by omega)
  simp only [Abs.letF]
  rw [and_low hx, and_low hy, e1, e2, ex]
  generalize x / 4294967296 * (y / 4294967296) = a at *
  generalize x / 4294967296 * (y % 4294967296) = b at *
  generalize x % 4294967296 * (y / 4294967296) = c at *
  generalize x % 4294967296 * (y % 4294967296) = d at *
  rw [wu_in (n := b) (by omega), wu_in (n := d) (by omega)]
  have e3 : Int.fdiv d (2 ^ 32) = d / 4294967296 := fdiv_pow d 32
  rw [e3, wu_in (n := b + d / 4294967296) (by omega), and_low (by omega), wu_in (n := c) (by omega), wu_in (n := (b + d / 4294967296) % 4294967296 + c) (by omega)]
  have e4 : Int.fdiv (b + d / 4294967296) (2 ^ 32) = (b + d / 4294967296) / 4294967296 := fdiv_pow _ 32
  have e5 : Int.fdiv ((b + d / 4294967296) % 4294967296 + c) (2 ^ 32) = ((b + d / 4294967296) % 4294967296 + c) / 4294967296 := fdiv_pow _ 32
  refine Has.ret ?_
  rw [e4, e5]
  clear e1 e2 e3 e4 e5 ex hx hy bd
  have q1 : d = 4294967296 * (d / 4294967296) + d % 4294967296 := by omega
  have q2 : 0 ≤ d % 4294967296 ∧ d % 4294967296 < 4294967296 := by omega
  have q3 : 0 ≤ d / 4294967296 ∧ d / 4294967296 ≤ 4294967295 := by omega
  generalize d / 4294967296 = m at *
  generalize d % 4294967296 = d1 at *
  have q4 : b + m = 4294967296 * ((b + m) / 4294967296) + (b + m) % 4294967296 := by omega
  have q5 : 0 ≤ (b + m) % 4294967296 ∧ (b + m) % 4294967296 < 4294967296 := by omega
  have q6 : 0 ≤ (b + m) / 4294967296 ∧ (b + m) / 4294967296 ≤ 4294967295 := by omega
  generalize (b + m) / 4294967296 = n at *
  generalize (b + m) % 4294967296 = r1 at *
  have q7 : r1 + c = 4294967296 * ((r1 + c) / 4294967296) + (r1 + c) % 4294967296 := by omega
  have q8 : 0 ≤ (r1 + c) % 4294967296 ∧ (r1 + c) % 4294967296 < 4294967296 := by omega
  have q9 : 0 ≤ (r1 + c) / 4294967296 ∧ (r1 + c) / 4294967296 ≤ 4294967295 := by omega
  generalize (r1 + c) / 4294967296 = o at *
  generalize (r1 + c) % 4294967296 = r2 at *
  have eT : a * 18446744073709551616 + (b + c) * 4294967296 + d = 18446744073709551616 * (a + n + o) + (r2 * 4294967296 + d1) := by omega
  rw [eT, wu_in (n := a) (by omega), wu_in (n := a + n) (by omega), wu_in (n := a + n + o) (by omega), wu_def]
  have : (18446744073709551616 * (a + n + o) + (r2 * 4294967296 + d1)) / 18446744073709551616 = a + n + o := by omega
  rw [this]
theorem wneg_ok (w : num_Wide) (hw : okW w) (hm : -170141183460469231731687303715884105728 < wv w) : Has (Wide_Neg w) fun r => okW r ∧ wv r = - wv w := by
  have h1 := hw.h.1; have h2 := hw.h.2; have h3 := hw.l0; have h4 := hw.l1
  unfold wv at hm
  unfold Wide_Neg
  have b1 := wu_bd w.Hi
  rw [xor_all ⟨h3, h4⟩, xor_all b1]
  refine Has.letF (Has.bind (P := fun r => r = ((18446744073709551615 - w.Lo.n + 1) % 18446744073709551616, (18446744073709551615 - w.Lo.n + 1) / 18446744073709551616)) ?_ fun r hr => Has.letF (Has.bind (P := fun q => q = ((18446744073709551615 - IntKind.wrap .u64 w.Hi + r.2) % 18446744073709551616, (18446744073709551615 - IntKind.wrap .u64 w.Hi + r.2) / 18446744073709551616)) ?_ fun q hq => Has.ret ?_))
  · unfold add64
    rw [if_pos (by omega)]
    exact Has.ret (by simp)
  · subst hr
    unfold add64
    simp only []
    rw [if_pos (by omega)]
    exact Has.ret (by simp)
  · subst hr; subst hq
    simp only [wu_def] at *
    refine ⟨⟨?_, ?_, ?_⟩, ?_⟩
    · exact w6_bd _
    · simp only []; omega
    · simp only []; omega
    · unfold wv
      simp only [w6_def]
      omega
theorem product_ok (a b : Int) (ha : okI a) (hb : okI b) : Has (num_Product a b) fun w => okW w ∧ wv w = a * b ∧ -85070591730234615865843651857942052864 ≤ a * b ∧ a * b ≤ 85070591730234615865843651857942052864 := by
  unfold num_Product
  refine (size_ok a ha).bind fun x ⟨x0, x1, x2⟩ => (size_ok b hb).bind fun y ⟨y0, y1, y2⟩ => ?_
  have p0 := Int.mul_nonneg x0 y0
  have p1 := Int.mul_le_mul_of_nonneg_right x1 y0
  have p : x.n * y.n ≤ 85070591730234615865843651857942052864 := by omega
  refine (mul64_ok x.n y.n (by omega) (by omega)).bind fun r hr => ?_
  subst hr
  simp only []
  have e0 : w6 (x.n * y.n / 18446744073709551616) = x.n * y.n / 18446744073709551616 := w6_in (by omega)
  rw [e0]
  have ow : okW (num_Wide.mk (x.n * y.n / 18446744073709551616) (NU64.mk (x.n * y.n % 18446744073709551616))) := ⟨⟨by simp only []; omega, by simp only []; omega⟩, by simp only []; omega, by simp only []; omega⟩
  have ew : wv (num_Wide.mk (x.n * y.n / 18446744073709551616) (NU64.mk (x.n * y.n % 18446744073709551616))) = x.n * y.n := by unfold wv; simp only []; omega
  refine Has.ite (fun h => ?_) fun h => Has.ret ?_
  · refine (wneg_ok _ ow (by rw [ew]; omega)).bind fun r ⟨h1, h2⟩ => Has.ret ⟨h1, ?_, ?_⟩
    · rw [h2, ew]
      rcases x2 with ⟨s, e⟩ | ⟨s, e⟩ <;> rcases y2 with ⟨t, f⟩ | ⟨t, f⟩
      · exfalso; simp at h; omega
      · rw [e, f, Int.mul_neg, Int.neg_neg]
      · rw [e, f, Int.neg_mul, Int.neg_neg]
      · exfalso; simp at h; omega
    · rcases x2 with ⟨s, e⟩ | ⟨s, e⟩ <;> rcases y2 with ⟨t, f⟩ | ⟨t, f⟩
      · exfalso; simp at h; omega
      · rw [e, f, Int.mul_neg] at p p0; omega
      · rw [e, f, Int.neg_mul] at p p0; omega
      · exfalso; simp at h; omega
  · refine ⟨ow, ?_, ?_⟩
    · rw [ew]
      rcases x2 with ⟨s, e⟩ | ⟨s, e⟩ <;> rcases y2 with ⟨t, f⟩ | ⟨t, f⟩
      · rw [e, f]
      · exfalso; simp at h; omega
      · exfalso; simp at h; omega
      · rw [e, f, Int.neg_mul_neg]
    · rcases x2 with ⟨s, e⟩ | ⟨s, e⟩ <;> rcases y2 with ⟨t, f⟩ | ⟨t, f⟩
      · rw [e, f] at p p0; omega
      · exfalso; simp at h; omega
      · exfalso; simp at h; omega
      · rw [e, f, Int.neg_mul_neg] at p p0; omega
end Lf
/- a * b / c, rounded down and up. -/
namespace Lf
open Go Go.Abs
set_option linter.unusedVariables false
set_option linter.unusedSimpArgs false
theorem neg_div (m d : Int) (hd : 0 < d) : (m % d = 0 ∧ (-m) / d = -(m / d) ∧ (-m) % d = 0) ∨ (0 < m % d ∧ (-m) / d = -(m / d) - 1 ∧ (-m) % d = d - m % d) := by
  have h1 := Int.mul_ediv_add_emod m d
  have h2 := Int.emod_nonneg m (b := d) (by omega)
  have h3 := Int.emod_lt_of_pos m hd
  by_cases h : m % d = 0
  · left
    have := (Int.ediv_emod_unique hd (a := -m) (q := -(m / d)) (r := 0)).2 ⟨by rw [Int.mul_neg]; omega, by omega, by omega⟩
    exact ⟨h, this.1, this.2⟩
  · right
    have := (Int.ediv_emod_unique hd (a := -m) (q := -(m / d) - 1) (r := d - m % d)).2 ⟨by rw [Int.mul_sub, Int.mul_neg]; omega, by omega, by omega⟩
    exact ⟨by omega, this.1, this.2⟩
theorem wdiv_ok (w : num_Wide) (d : Int) (hw : okW w) (hm : -170141183460469231731687303715884105728 < wv w) (hd : 1 ≤ d ∧ d ≤ 9223372036854775807) :
    Has (Wide_Div w d) fun r => (okI (wv w / d) ∧ r = (wv w / d, 0)) ∨ (¬ okI (wv w / d) ∧ r = (0, 2)) := by
  have h1 := hw.h.1; have h2 := hw.h.2; have h3 := hw.l0; have h4 := hw.l1
  have ed : IntKind.wrap .u64 d = d := wu_in (by omega)
  unfold Wide_Div
  simp only [ed, decide_eq_true_eq]
  refine Has.neg (by omega) (Has.ite (fun hn => ?_) fun hn => ?_)
  · refine (wneg_ok w hw hm).bind fun r ⟨r1, r2⟩ => ?_
    have g1 := r1.h.1; have g2 := r1.h.2; have g3 := r1.l0; have g4 := r1.l1
    have em : wv w = -(wv r) := by omega
    have hv : wv w < 0 := by unfold wv; omega
    have hp : 0 ≤ r.Hi := by unfold wv at *; omega
    have eh : IntKind.wrap .u64 r.Hi = r.Hi := wu_in (by omega)
    have ev : r.Hi * 18446744073709551616 + r.Lo.n = wv r := rfl
    rw [eh, em]
    have nd := neg_div (wv r) d (by omega)
    refine Has.ite (fun hc => Has.ret (.inr ⟨?_, rfl⟩)) fun hc => ?_
    · have : (18446744073709551616 : Int) ≤ wv r / d := by
        rw [Int.le_ediv_iff_mul_le (by omega)]; unfold wv; omega
      unfold okI
      omega
    · refine (div64_ok r.Hi r.Lo.n d hp (by omega) (by omega) g3 g4).bind fun q hq => ?_
      subst hq
      simp only [ev]
      have q0 : 0 ≤ wv r / d := Int.ediv_nonneg (by omega) (by omega)
      have q1 : wv r / d < 18446744073709551616 := by
        rw [Int.ediv_lt_iff_lt_mul (by omega)]; unfold wv; omega
      have q2 := Int.emod_nonneg (wv r) (b := d) (by omega)
      generalize wv r / d = q at *
      generalize wv r % d = s at *
      refine Has.pos hn (Has.ite (fun hs => Has.letF ?_) fun hs => ?_)
      · rw [wu_in (n := 9223372036854775808 - 1) (by omega)]
        simp only [decide_eq_true_eq]
        refine Has.ite (fun hb => Has.ret (.inr ⟨?_, rfl⟩)) fun hb => Has.neg (by omega) (Has.pos hs (Has.ret (.inl ⟨?_, ?_⟩)))
        · unfold okI; omega
        · unfold okI; omega
        · simp only [wu_def, w6_def, Prod.mk.injEq, and_true]
          omega
      · refine Has.ite (fun hb => Has.ret (.inr ⟨?_, rfl⟩)) fun hb => Has.neg (by omega) (Has.neg hs (Has.ret (.inl ⟨?_, ?_⟩)))
        · unfold okI; omega
        · unfold okI; omega
        · simp only [wu_def, w6_def, Prod.mk.injEq, and_true]
          omega
  · have eh : IntKind.wrap .u64 w.Hi = w.Hi := wu_in (by omega)
    have ev : w.Hi * 18446744073709551616 + w.Lo.n = wv w := rfl
    have v0 : 0 ≤ wv w := by unfold wv; omega
    rw [eh]
    refine Has.ite (fun hc => Has.ret (.inr ⟨?_, rfl⟩)) fun hc => ?_
    · have : (18446744073709551616 : Int) ≤ wv w / d := by
        rw [Int.le_ediv_iff_mul_le (by omega)]; unfold wv; omega
      unfold okI
      omega
    · refine (div64_ok w.Hi w.Lo.n d (by omega) (by omega) (by omega) h3 h4).bind fun q hq => ?_
      subst hq
      simp only [ev]
      have q0 : 0 ≤ wv w / d := Int.ediv_nonneg (by omega) (by omega)
      have q1 : wv w / d < 18446744073709551616 := by
        rw [Int.ediv_lt_iff_lt_mul (by omega)]; unfold wv; omega
      generalize wv w / d = q at *
      refine Has.neg hn (Has.ite (fun hb => Has.ret (.inr ⟨?_, rfl⟩)) fun hb => Has.pos (by omega) (Has.ret (.inl ⟨?_, ?_⟩)))
      · unfold okI; omega
      · unfold okI; omega
      · rw [w6_in (by omega)]
theorem wmod_ok (w : num_Wide) (d : Int) (hw : okW w) (hm : -170141183460469231731687303715884105728 < wv w) (hd : 1 ≤ d ∧ d ≤ 9223372036854775807) :
    Has (Wide_Mod w d) fun r => r = wv w % d := by
  have h1 := hw.h.1; have h2 := hw.h.2; have h3 := hw.l0; have h4 := hw.l1
  have ed : IntKind.wrap .u64 d = d := wu_in (by omega)
  unfold Wide_Mod
  simp only [ed, decide_eq_true_eq]
  have red : ∀ h l : Int, (h % d * 18446744073709551616 + l) % d = (h * 18446744073709551616 + l) % d := fun h l => by
    rw [Int.add_emod, Int.mul_emod, Int.emod_emod, ← Int.mul_emod, ← Int.add_emod]
  refine Has.neg (by omega) (Has.ite (fun hn => ?_) fun hn => ?_)
  · refine (wneg_ok w hw hm).bind fun r ⟨r1, r2⟩ => ?_
    have g1 := r1.h.1; have g2 := r1.h.2; have g3 := r1.l0; have g4 := r1.l1
    have em : wv w = -(wv r) := by omega
    have hv : wv w < 0 := by unfold wv; omega
    have hp : 0 ≤ r.Hi := by unfold wv at *; omega
    have eh : IntKind.wrap .u64 r.Hi = r.Hi := wu_in (by omega)
    have ev : r.Hi * 18446744073709551616 + r.Lo.n = wv r := rfl
    have nd := neg_div (wv r) d (by omega)
    rw [eh, em]
    refine Has.chk (by omega) ?_
    rw [Int.tmod_eq_emod_of_nonneg hp]
    refine (div64_ok (r.Hi % d) r.Lo.n d (Int.emod_nonneg _ (by omega)) (Int.emod_lt_of_pos _ (by omega)) (by omega) g3 g4).bind fun q hq => ?_
    subst hq
    simp only [red, ev]
    have q2 := Int.emod_nonneg (wv r) (b := d) (by omega)
    have q3 := Int.emod_lt_of_pos (wv r) (b := d) (by omega)
    refine Has.bind (P := fun _ => True) (Has.ret trivial) fun _ _ => Has.ite (fun hs => Has.ret ?_) fun hs => Has.ret ?_
    · rw [wu_in (by omega), w6_in (by omega)]; omega
    · rw [w6_in (by omega)]; omega
  · have eh : IntKind.wrap .u64 w.Hi = w.Hi := wu_in (by omega)
    have ev : w.Hi * 18446744073709551616 + w.Lo.n = wv w := rfl
    rw [eh]
    refine Has.chk (by omega) ?_
    rw [Int.tmod_eq_emod_of_nonneg (by omega)]
    refine (div64_ok (w.Hi % d) w.Lo.n d (Int.emod_nonneg _ (by omega)) (Int.emod_lt_of_pos _ (by omega)) (by omega) h3 h4).bind fun q hq => ?_
    subst hq
    simp only [red, ev]
    have q2 := Int.emod_nonneg (wv w) (b := d) (by omega)
    have q3 := Int.emod_lt_of_pos (wv w) (b := d) (by omega)
    exact Has.bind (P := fun _ => True) (Has.ret trivial) fun _ _ => Has.ret (w6_in (by omega))
theorem muldiv_ok (a b c : Int) (ha : okI a) (hb : okI b) (hc : 1 ≤ c ∧ c ≤ 9223372036854775807) :
    Has (num_MulDiv a b c) fun r => (okI (a * b / c) ∧ r = (a * b / c, 0)) ∨ (¬ okI (a * b / c) ∧ r = (0, 2)) := by
  unfold num_MulDiv
  refine (product_ok a b ha hb).bind fun w ⟨w1, w2, w3, w4⟩ => (wdiv_ok w c w1 (by omega) hc).bind fun r hr => Has.ret ?_
  rw [w2] at hr
  exact hr
theorem muldivup_ok (a b c : Int) (ha : okI a) (hb : okI b) (hc : 1 ≤ c ∧ c ≤ 9223372036854775807) :
    Has (num_MulDivUp a b c) fun r => (r.2 = 0 → (a * b % c = 0 ∧ r.1 = a * b / c ∨ 0 < a * b % c ∧ r.1 = a * b / c + 1) ∧ okI r.1) ∧ ((okI (a * b / c) ∧ okI (a * b / c + 1)) → r.2 = 0) := by
  unfold num_MulDivUp
  refine (product_ok a b ha hb).bind fun w ⟨w1, w2, w3, w4⟩ => (wdiv_ok w c w1 (by omega) hc).bind fun r hr => ?_
  rw [w2] at hr
  rcases hr with ⟨hk, rfl⟩ | ⟨hk, rfl⟩
  · refine Has.bind (P := fun z => z = decide (a * b % c = 0)) (Has.neg (by simp) ((wmod_ok w c w1 (by omega) hc).bind fun m hm => Has.ret ?_)) fun z hz => ?_
    · rw [hm, w2]; rfl
    · subst hz
      have m0 := Int.emod_nonneg (a * b) (b := c) (by omega)
      refine Has.ite (fun h => Has.ret ⟨fun _ => ⟨.inl ⟨of_decide_eq_true h, rfl⟩, hk⟩, fun _ => rfl⟩) fun h => ?_
      have h : ¬ a * b % c = 0 := fun x => h (decide_eq_true x)
      have k1 := hk.1; have k2 := hk.2
      refine Has.ite (fun h2 => Has.ret ⟨(fun x => by cases x), fun h3 => ?_⟩) fun h2 => Has.ret ⟨fun _ => ?_, fun _ => rfl⟩
      · have h2 : a * b / c = 9223372036854775807 := by simpa using h2
        have := h3.2.2; omega
      · have h2 : a * b / c ≠ 9223372036854775807 := by simpa using h2
        rw [w6_in (by omega)]
        exact ⟨.inr ⟨by omega, rfl⟩, by unfold okI; simp only []; omega⟩
  · refine Has.bind (P := fun z => z = true) (Has.pos (by simp) (Has.ret rfl)) fun z hz => Has.pos hz (Has.ret ⟨(fun x => by cases x), fun h => absurd h.1 hk⟩)
end Lf
/- A bound times n / d, rounded outward. -/
namespace Lf
open Go Go.Abs
set_option linter.unusedVariables false
set_option linter.unusedSimpArgs false
theorem min_ok (x : List Int) (h : x ≠ []) (hl : x.length ≤ 1000000000) : Has (slices_Min_Int x) fun m => m ∈ x ∧ ∀ y ∈ x, m ≤ y := by
  have h0 : 0 < x.length := List.length_pos_iff.2 h
  have ini : ∀ i : Int, 0 ≤ i → i < 1 → gt x 0 ≤ gt x i := fun i h1 h2 => by
    have : i = 0 := by omega
    rw [this]; exact Int.le_refl _
  unfold slices_Min_Int
  refine Has.neg (by simp; omega) (Has.chk (by omega) (Has.bind (P := fun o => o ∈ x ∧ ∀ y ∈ x, o ≤ y) ?_ fun o ho => Has.ret ho))
  refine Has.loop (fun s : Int × Int => 1 ≤ s.2 ∧ s.2 ≤ (x.length : Int) ∧ s.1 ∈ x ∧ ∀ i : Int, 0 ≤ i → i < s.2 → s.1 ≤ gt x i) (fun s => (x.length - s.2).toNat) _ ⟨Int.le_refl _, (by show (1 : Int) ≤ _; omega), gt_mem x 0 ⟨by omega, by omega⟩, ini⟩ (by show ((x.length : Int) - 1).toNat < _; omega) fun s ⟨h1, h2, h3, h4⟩ => ?_
  unfold slices_Min_Int.l1
  refine Has.ite (fun h => ?_) fun h => Has.ret (.done ⟨h3, fun y hy => ?_⟩)
  · have h : s.2 < (x.length : Int) := of_decide_eq_true h
    have hm := gt_mem x s.2 ⟨by omega, h⟩
    have d := mn2_def s.1 (gt x s.2)
    rw [w6_in (by omega)]
    refine Has.chk ⟨by omega, h⟩ (Has.ret (.next ⟨by simp only []; omega, by simp only []; omega, ?_, fun i i1 i2 => ?_⟩ (by simp only []; omega)))
    · show mn2 s.1 (gt x s.2) ∈ x
      rcases d with ⟨e, _⟩ | ⟨e, _⟩ <;> rw [e]
      · exact h3
      · exact hm
    · show mn2 s.1 (gt x s.2) ≤ gt x i
      simp only [] at i2
      by_cases hi : i = s.2
      · rw [hi]; omega
      · have := h4 i i1 (by omega); omega
  · have h : ¬ s.2 < (x.length : Int) := fun q => h (decide_eq_true q)
    obtain ⟨n, hn, rfl⟩ := List.getElem_of_mem hy
    have := h4 n (by omega) (by omega)
    rw [gt_def x n ⟨by omega, by omega⟩] at this
    exact this
theorem max_ok (x : List Int) (h : x ≠ []) (hl : x.length ≤ 1000000000) : Has (slices_Max_Int x) fun m => m ∈ x ∧ ∀ y ∈ x, y ≤ m := by
  have h0 : 0 < x.length := List.length_pos_iff.2 h
  have ini : ∀ i : Int, 0 ≤ i → i < 1 → gt x i ≤ gt x 0 := fun i h1 h2 => by
    have : i = 0 := by omega
    rw [this]; exact Int.le_refl _
  unfold slices_Max_Int
  refine Has.neg (by simp; omega) (Has.chk (by omega) (Has.bind (P := fun o => o ∈ x ∧ ∀ y ∈ x, y ≤ o) ?_ fun o ho => Has.ret ho))
  refine Has.loop (fun s : Int × Int => 1 ≤ s.2 ∧ s.2 ≤ (x.length : Int) ∧ s.1 ∈ x ∧ ∀ i : Int, 0 ≤ i → i < s.2 → gt x i ≤ s.1) (fun s => (x.length - s.2).toNat) _ ⟨Int.le_refl _, (by show (1 : Int) ≤ _; omega), gt_mem x 0 ⟨by omega, by omega⟩, ini⟩ (by show ((x.length : Int) - 1).toNat < _; omega) fun s ⟨h1, h2, h3, h4⟩ => ?_
  unfold slices_Max_Int.l1
  refine Has.ite (fun h => ?_) fun h => Has.ret (.done ⟨h3, fun y hy => ?_⟩)
  · have h : s.2 < (x.length : Int) := of_decide_eq_true h
    have hm := gt_mem x s.2 ⟨by omega, h⟩
    have d := mx2_def s.1 (gt x s.2)
    rw [w6_in (by omega)]
    refine Has.chk ⟨by omega, h⟩ (Has.ret (.next ⟨by simp only []; omega, by simp only []; omega, ?_, fun i i1 i2 => ?_⟩ (by simp only []; omega)))
    · show mx2 s.1 (gt x s.2) ∈ x
      rcases d with ⟨e, _⟩ | ⟨e, _⟩ <;> rw [e]
      · exact h3
      · exact hm
    · show gt x i ≤ mx2 s.1 (gt x s.2)
      simp only [] at i2
      by_cases hi : i = s.2
      · rw [hi]; omega
      · have := h4 i i1 (by omega); omega
  · have h : ¬ s.2 < (x.length : Int) := fun q => h (decide_eq_true q)
    obtain ⟨n, hn, rfl⟩ := List.getElem_of_mem hy
    have := h4 n (by omega) (by omega)
    rw [gt_def x n ⟨by omega, by omega⟩] at this
    exact this
/-- The quotient, rounded up. -/
def cdiv (x d : Int) : Int := -((-x) / d)
theorem cdiv_up {x d : Int} (hd : 0 < d) : (x % d = 0 → cdiv x d = x / d) ∧ (0 < x % d → cdiv x d = x / d + 1) := by
  unfold cdiv
  rcases neg_div x d hd with ⟨a, b, c⟩ | ⟨a, b, c⟩
  · exact ⟨fun _ => by omega, fun h => by omega⟩
  · exact ⟨fun h => by omega, fun _ => by omega⟩
theorem cdiv_mono {x y d : Int} (hd : 0 < d) (h : x ≤ y) : cdiv x d ≤ cdiv y d := by
  unfold cdiv
  have := Int.ediv_le_ediv hd (show -y ≤ -x by omega)
  omega
theorem fl_le_ce {x d : Int} (hd : 0 < d) : x / d ≤ cdiv x d ∧ cdiv x d ≤ x / d + 1 := by
  unfold cdiv
  rcases neg_div x d hd with ⟨a, b, c⟩ | ⟨a, b, c⟩ <;> omega
theorem of_bad {lo hi : Int} (h : lo ≤ hi) (hn : ¬ (-1152921504606846976 ≤ lo ∧ hi ≤ 1152921504606846976)) : bound_Of lo hi = some ⟨0, 0, true⟩ := by
  unfold bound_Of bound_Norm bound_Check
  simp only []
  rw [mn2_le h, mx2_le h]
  by_cases h1 : lo < -1152921504606846976
  · simp [h1, bound_None]
  · have h2 : hi > 1152921504606846976 := by omega
    simp [h1, h2, bound_None]
def fitB (lo hi : Int) : Prop := -1152921504606846976 ≤ lo ∧ hi ≤ 1152921504606846976
instance (lo hi : Int) : Decidable (fitB lo hi) := inferInstanceAs (Decidable (_ ∧ _))
/-- Both roundings of one product. -/
theorem both_ok (x n d L H : Int) (hx : okI x) (hn : okI n) (hd : 1 ≤ d ∧ d ≤ 9223372036854775807) (hL : L ≤ x * n / d) (hH : cdiv (x * n) d ≤ H) :
    ∃ r9 r10, bound_Mul_1 x n d = some r9 ∧ bound_Mul_2 x n d = some r10 ∧ ((r9.2 = 0 ∧ r10.2 = 0 ∧ r9.1 = x * n / d ∧ r10.1 = cdiv (x * n) d) ∨ ((r9.2 ≠ 0 ∨ r10.2 ≠ 0) ∧ ¬ fitB L H)) := by
  obtain ⟨r9, e9, p9⟩ := muldiv_ok x n d hx hn hd
  obtain ⟨r10, e10, p10, p11⟩ := muldivup_ok x n d hx hn hd
  have hc := fl_le_ce (x := x * n) (d := d) (by omega)
  obtain ⟨u1, u2⟩ := cdiv_up (x := x * n) (d := d) (by omega)
  refine ⟨r9, r10, by unfold bound_Mul_1; rw [e9]; rfl, by unfold bound_Mul_2; rw [e10]; rfl, ?_⟩
  by_cases hf : fitB L H
  · left
    obtain ⟨f1, f2⟩ := hf
    have k : okI (x * n / d) := by unfold okI; omega
    have k1 : okI (x * n / d + 1) := by unfold okI; omega
    have z := p11 ⟨k, k1⟩
    rcases p9 with ⟨_, rfl⟩ | ⟨q, _⟩
    · refine ⟨rfl, z, rfl, ?_⟩
      rcases (p10 z).1 with ⟨a, b⟩ | ⟨a, b⟩
      · rw [b, u1 a]
      · rw [b, u2 a]
    · exact absurd k q
  · by_cases z9 : r9.2 = 0
    · by_cases z10 : r10.2 = 0
      · left
        refine ⟨z9, z10, ?_, ?_⟩
        · rcases p9 with ⟨_, rfl⟩ | ⟨q, rfl⟩
          · rfl
          · cases z9
        · rcases (p10 z10).1 with ⟨a, b⟩ | ⟨a, b⟩
          · rw [b, u1 a]
          · rw [b, u2 a]
      · exact .inr ⟨.inr z10, hf⟩
    · exact .inr ⟨.inl z9, hf⟩
/-- The rows that the corners' loops make. -/
structure Cor (L H : Int) (l : List Int) (k : Int) (lo hi : Bool) : Prop where
  len : (l.length : Int) = k
  all : ∀ y ∈ l, L ≤ y ∧ y ≤ H
  lo : lo = true → L ∈ l
  hi : hi = true → H ∈ l
theorem corners_ok (a : Bound) (n d : Int) (ha : a.ok) (hn : 0 ≤ n ∧ n ≤ 1152921504606846976) (hd : 1 ≤ d ∧ d ≤ 9223372036854775807) :
    bound_corners_bound_Mul_1 a ⟨n, n, false⟩ d d = some (if fitB (a.Lo * n / d) (cdiv (a.Hi * n) d) then ⟨a.Lo * n / d, cdiv (a.Hi * n) d, false⟩ else ⟨0, 0, true⟩) := by
  have a1 := ha.lo; have a2 := ha.le; have a3 := ha.hi
  have m1 : a.Lo * n ≤ a.Hi * n := Int.mul_le_mul_of_nonneg_right a2 hn.1
  have d1 := Int.ediv_le_ediv (show 0 < d by omega) m1
  have d2 := cdiv_mono (show 0 < d by omega) m1
  have f1 := fl_le_ce (x := a.Lo * n) (d := d) (by omega)
  have f2 := fl_le_ce (x := a.Hi * n) (d := d) (by omega)
  have bL := both_ok a.Lo n d (a.Lo * n / d) (cdiv (a.Hi * n) d) (by unfold okI; omega) (by unfold okI; omega) hd (Int.le_refl _) d2
  have bH := both_ok a.Hi n d (a.Lo * n / d) (cdiv (a.Hi * n) d) (by unfold okI; omega) (by unfold okI; omega) hd d1 (Int.le_refl _)
  generalize hLe : a.Lo * n / d = L at *
  generalize hHe : cdiv (a.Hi * n) d = H at *
  generalize hMe : cdiv (a.Lo * n) d = M at *
  generalize hNe : a.Hi * n / d = N at *
  apply Has.val
  unfold bound_corners_bound_Mul_1
  refine Has.seq (P := fun t : Step (List Int) Bound => (∃ l, t = .next l ∧ Cor L H l 8 true true) ∨ (t = .done ⟨0, 0, true⟩ ∧ ¬ fitB L H)) ?_ (fun l hl => ?_) fun o ho => ?_
  · refine Has.loop (fun s : List Int × Int => (s.2 = 0 ∧ Cor L H s.1 0 false false) ∨ (s.2 = 1 ∧ Cor L H s.1 4 true false) ∨ (s.2 = 2 ∧ Cor L H s.1 8 true true)) (fun s => (2 - s.2).toNat) _ (.inl ⟨rfl, rfl, by simp, (fun h => nomatch h), (fun h => nomatch h)⟩) (by simp only []; omega) fun s hs => ?_
    have hs2 : 0 ≤ s.2 ∧ s.2 ≤ 2 := by rcases hs with ⟨e, _⟩ | ⟨e, _⟩ | ⟨e, _⟩ <;> omega
    unfold bound_corners_bound_Mul_1.l1
    refine Has.ite (fun h => ?_) fun h => Has.ret (.done (.inl ⟨s.1, rfl, ?_⟩))
    · have h : s.2 < 2 := of_decide_eq_true h
      refine Has.chk ⟨hs2.1, h⟩ (Has.seq (P := fun t : Step (List Int) (Step (List Int × Int) (Step (List Int) Bound)) => (∃ l, t = .next l ∧ ((s.2 = 0 ∧ Cor L H l 4 true false) ∨ (s.2 = 1 ∧ Cor L H l 8 true true))) ∨ (t = .done (.done (.done ⟨0, 0, true⟩)) ∧ ¬ fitB L H)) ?_ (fun l hl => ?_) fun o ho => ?_)
      · refine Has.loop (fun t : List Int × Int => (0 ≤ t.2 ∧ t.2 ≤ 2) ∧ ((s.2 = 0 ∧ Cor L H t.1 (2 * t.2) (decide (0 < t.2)) false) ∨ (s.2 = 1 ∧ Cor L H t.1 (4 + 2 * t.2) true (decide (0 < t.2))))) (fun t => (2 - t.2).toNat) _ ⟨⟨Int.le_refl _, by simp only []; omega⟩, ?_⟩ (by simp only []; omega) fun t ⟨ht, hc⟩ => ?_
        · rcases hs with ⟨e, c⟩ | ⟨e, c⟩ | ⟨e, c⟩
          · exact .inl ⟨e, c⟩
          · exact .inr ⟨e, c⟩
          · omega
        · unfold bound_corners_bound_Mul_1.l2
          refine Has.ite (fun h2 => ?_) fun h2 => Has.ret (.done (.inl ⟨t.1, rfl, ?_⟩))
          · have h2 : t.2 < 2 := of_decide_eq_true h2
            have eb : gt ([n, n] : List Int) t.2 = n := by
              have : t.2 = 0 ∨ t.2 = 1 := by omega
              rcases this with e | e <;> rw [e] <;> rfl
            have hl : (t.1.length : Int) ≤ 8 := by rcases hc with ⟨_, c⟩ | ⟨_, c⟩ <;> have := c.len <;> omega
            refine Has.chk ⟨ht.1, h2⟩ ?_
            simp only [eb]
            have fin : ∀ (x X Y : Int), gt ([a.Lo, a.Hi] : List Int) s.2 = x → (∃ r9 r10, bound_Mul_1 x n d = some r9 ∧ bound_Mul_2 x n d = some r10 ∧ ((r9.2 = 0 ∧ r10.2 = 0 ∧ r9.1 = X ∧ r10.1 = Y) ∨ ((r9.2 ≠ 0 ∨ r10.2 ≠ 0) ∧ ¬ fitB L H))) →
                (((s.2 = 0 ∧ Cor L H (t.1 ++ [X, Y]) (2 * (t.2 + 1)) (decide (0 < t.2 + 1)) false) ∨ (s.2 = 1 ∧ Cor L H (t.1 ++ [X, Y]) (4 + 2 * (t.2 + 1)) true (decide (0 < t.2 + 1))))) →
                Has (Option.bind (bound_Mul_1 (gt ([a.Lo, a.Hi] : List Int) s.2) n d) fun r9 => Option.bind (bound_Mul_2 (gt ([a.Lo, a.Hi] : List Int) s.2) n d) fun r10 => Option.bind (if (r9.2 != 0) = true then some true else some (r10.2 != 0)) fun z11 : Bool => if z11 = true then Option.bind (bound_None) fun r14 => some (.done (.done (.done (.done r14)))) else if roomy (t.1.length + ([r9.1, r10.1] : List Int).length) 8 = true then some (.next (t.1 ++ ([r9.1, r10.1] : List Int), w6 (t.2 + 1))) else none)
                  (StepOK (fun t : List Int × Int => (0 ≤ t.2 ∧ t.2 ≤ 2) ∧ ((s.2 = 0 ∧ Cor L H t.1 (2 * t.2) (decide (0 < t.2)) false) ∨ (s.2 = 1 ∧ Cor L H t.1 (4 + 2 * t.2) true (decide (0 < t.2))))) (fun t => (2 - t.2).toNat) (fun t : Step (List Int) (Step (List Int × Int) (Step (List Int) Bound)) => (∃ l, t = .next l ∧ ((s.2 = 0 ∧ Cor L H l 4 true false) ∨ (s.2 = 1 ∧ Cor L H l 8 true true))) ∨ (t = .done (.done (.done ⟨0, 0, true⟩)) ∧ ¬ fitB L H)) ((2 - t.2).toNat)) := by
              intro x X Y ex ⟨r9, r10, e9, e10, hr⟩ hC
              rw [ex, e9, e10]
              simp only [Option.bind_some, ite_or]
              rcases hr with ⟨z9, z10, v9, v10⟩ | ⟨hb, hf⟩
              · rw [z9, z10, v9, v10, w6_in (by omega)]
                refine Has.neg (by simp) (Has.chk (roomyI (by simp; omega) (by simp; omega)) (Has.ret (.next ⟨⟨by simp only []; omega, by simp only []; omega⟩, hC⟩ (by simp only []; omega))))
              · refine Has.pos (by rcases hb with hb | hb <;> simp [hb]) (Has.ret (.done (.inr ⟨rfl, hf⟩)))
            rcases hc with ⟨e, c⟩ | ⟨e, c⟩
            · refine fin a.Lo L M (by rw [e]; rfl) bL (.inl ⟨e, by have := c.len; simp; omega, fun y hy => ?_, fun _ => List.mem_append_right _ (by simp), (fun h => nomatch h)⟩)
              rcases List.mem_append.1 hy with h | h
              · exact c.all y h
              · simp at h; rcases h with rfl | rfl <;> omega
            · refine fin a.Hi N H (by rw [e]; rfl) bH (.inr ⟨e, by have := c.len; simp; omega, fun y hy => ?_, fun h => List.mem_append_left _ (c.lo h), fun _ => List.mem_append_right _ (by simp)⟩)
              rcases List.mem_append.1 hy with h | h
              · exact c.all y h
              · simp at h; rcases h with rfl | rfl <;> omega
          · have h2 : t.2 = 2 := by have : ¬ t.2 < 2 := fun q => h2 (decide_eq_true q); omega
            rw [h2] at hc
            exact hc
      · rcases hl with ⟨l', e, hl⟩ | ⟨e, _⟩
        · cases e
          rw [w6_in (by omega)]
          refine Has.ret (.next ?_ (by simp only []; omega))
          rcases hl with ⟨e, c⟩ | ⟨e, c⟩
          · exact .inr (.inl ⟨by simp only []; omega, c⟩)
          · exact .inr (.inr ⟨by simp only []; omega, c⟩)
        · cases e
      · rcases ho with ⟨l', e, _⟩ | ⟨e, hf⟩
        · cases e
        · cases e; exact .done (.inr ⟨rfl, hf⟩)
    · have h : s.2 = 2 := by have : ¬ s.2 < 2 := fun q => h (decide_eq_true q); omega
      rcases hs with ⟨e, _⟩ | ⟨e, _⟩ | ⟨e, c⟩
      · omega
      · omega
      · exact c
  · rcases hl with ⟨l', e, c⟩ | ⟨e, _⟩
    · cases e
      have hlen := c.len
      have hne : l ≠ [] := fun e => by subst e; simp at hlen
      refine (min_ok l hne (by omega)).bind fun m ⟨m1, m2⟩ => (max_ok l hne (by omega)).bind fun k ⟨k1, k2⟩ => ?_
      have em : m = L := by have := m2 L (c.lo rfl); have := c.all m m1; omega
      have ek : k = H := by have := k2 H (c.hi rfl); have := c.all k k1; omega
      have hLH : L ≤ H := by omega
      rw [em, ek]
      by_cases hf : fitB L H
      · rw [of_ok hf.1 hLH hf.2, if_pos hf]; exact Has.ret rfl
      · rw [of_bad hLH hf, if_neg hf]; exact Has.ret rfl
    · cases e
  · rcases ho with ⟨l', e, _⟩ | ⟨e, hf⟩
    · cases e
    · cases e; rw [if_neg hf]
theorem exact_ok {v : Int} (h1 : -1152921504606846976 ≤ v) (h2 : v ≤ 1152921504606846976) : bound_Exact v = some ⟨v, v, false⟩ := by
  unfold bound_Exact; rw [of_ok h1 (Int.le_refl _) h2]; rfl
theorem scale_known (a : Bound) (n d : Int) (ha : a.ok) (ua : a.Unknown = false) (hn : 0 ≤ n ∧ n ≤ 1152921504606846976) (hd : 1 ≤ d ∧ d ≤ 9223372036854775807) :
    bound_Scale a n d = some (if fitB (a.Lo * n / d) (cdiv (a.Hi * n) d) then ⟨a.Lo * n / d, cdiv (a.Hi * n) d, false⟩ else ⟨0, 0, true⟩) := by
  unfold bound_Scale bound_Mul
  rw [exact_ok (by omega) hn.2]
  simp only [Option.bind_some]
  have hd' : ¬ d < 1 := by omega
  rw [vague_ok ha (okKnown (by omega) (Int.le_refl _) hn.2), ua]
  simp only [Option.bind_some, Bool.or_self, Bool.false_eq_true, if_false, decide_eq_true_eq, hd']
  rw [corners_ok a n d ha hn hd]; rfl
theorem scale_vague (a : Bound) (n d : Int) (ha : a.ok) (ua : a.Unknown = true) (hn : 0 ≤ n ∧ n ≤ 1152921504606846976) : bound_Scale a n d = some ⟨0, 0, true⟩ := by
  unfold bound_Scale bound_Mul
  rw [exact_ok (by omega) hn.2]
  simp only [Option.bind_some]
  rw [vague_ok ha (okKnown (by omega) (Int.le_refl _) hn.2), ua]
  rfl
/-- With no divisor: exact. -/
theorem scale_one (a : Bound) (n : Int) (ha : a.ok) (ua : a.Unknown = false) (hn : 0 ≤ n ∧ n ≤ 1152921504606846976) (h1 : -1152921504606846976 ≤ a.Lo * n) (h2 : a.Hi * n ≤ 1152921504606846976) :
    bound_Scale a n 1 = some ⟨a.Lo * n, a.Hi * n, false⟩ := by
  have e1 : cdiv (a.Hi * n) 1 = a.Hi * n := by unfold cdiv; simp
  rw [scale_known a n 1 ha ua hn (by omega), Int.ediv_one, e1, if_pos ⟨h1, h2⟩]
end Lf
/- Sums of bounds that may be unknown. -/
namespace Lf
open Go Go.Abs
set_option linter.unusedVariables false
set_option linter.unusedSimpArgs false
def plus2 : Option (Int × Int) → Option (Int × Int) → Option (Int × Int)
  | some (a, b), some (c, d) => some (a + c, b + d)
  | _, _ => none
def bdOf : Option (Int × Int) → Bound
  | none => ⟨0, 0, true⟩
  | some (l, h) => ⟨l, h, false⟩
theorem plus2_none (x : Option (Int × Int)) : plus2 x none = none := by cases x <;> rfl
theorem none_plus2 (x : Option (Int × Int)) : plus2 none x = none := by cases x <;> rfl
theorem bdOf_ok {o : Option (Int × Int)} {B : Int} (hB : B ≤ 1152921504606846976) (h : ∀ l h, o = some (l, h) → l ≤ h ∧ -B ≤ l ∧ h ≤ B) : (bdOf o).ok := by
  cases o with
  | none => exact okNone
  | some p => obtain ⟨a, b, c⟩ := h p.1 p.2 rfl; exact okKnown (by omega) a (by omega)
end Lf
/- Kernels, and the convolution of a field. -/
namespace Lf
open Go Go.Abs
set_option linter.unusedVariables false
set_option linter.unusedSimpArgs false
/-- A valid kernel. -/
structure okK (k : differ_Kernel) : Prop where
  w0 : 1 ≤ k.W
  w1 : k.W ≤ 9
  h0 : 1 ≤ k.H
  h1 : k.H ≤ 9
  len : (k.K.length : Int) = k.W * k.H
  all : ∀ w ∈ k.K, 0 ≤ w ∧ w ≤ 4096
  pos : ∃ w ∈ k.K, 0 < w
theorem okK.n {k : differ_Kernel} (h : okK k) : 1 ≤ (k.K.length : Int) ∧ (k.K.length : Int) ≤ 81 := by
  rw [h.len]
  have a := Int.mul_le_mul_of_nonneg_right h.w1 (show 0 ≤ k.H by have := h.h0; omega)
  have b := Int.mul_le_mul_of_nonneg_right h.w0 (show 0 ≤ k.H by have := h.h0; omega)
  have := h.h0; have := h.h1
  omega
theorem checkKernel_ok {k : differ_Kernel} (h : okK k) : differ_CheckKernel k = some 0 := by
  have hw0 := h.w0; have hw1 := h.w1; have hh0 := h.h0; have hh1 := h.h1
  have hn := h.n
  have e : w6 (k.W * k.H) = (k.K.length : Int) := by rw [← h.len]; exact w6_in (by omega)
  apply Has.val
  unfold differ_CheckKernel
  rw [e]
  have g1 : decide (k.W < 1) = false := decide_eq_false (by omega)
  have g2 : decide (k.W > 9) = false := decide_eq_false (by omega)
  have g3 : decide (k.H < 1) = false := decide_eq_false (by omega)
  have g4 : decide (k.H > 9) = false := decide_eq_false (by omega)
  simp only [g1, g2, g3, g4, ite_or, Bool.false_or, bne_self_eq_false, Option.bind_some, Bool.false_eq_true, if_false]
  obtain ⟨w, hw, hp⟩ := h.pos
  obtain ⟨p, hpl, rfl⟩ := List.getElem_of_mem hw
  refine Has.seq (P := fun t : Step Bool Int => t = .next true) ?_ (fun z hz => by cases hz; exact Has.neg (by simp) (Has.ret rfl)) (fun o ho => by cases ho)
  refine Has.loop (fun s : Bool × Int => 0 ≤ s.2 ∧ s.2 ≤ k.K.length ∧ ((p : Int) < s.2 → s.1 = true)) (fun s => (k.K.length - s.2).toNat) (fun t : Step Bool Int => t = .next true) ⟨Int.le_refl _, by simp only []; omega, fun q => by simp only [] at q; omega⟩ (by simp only []; omega) fun s ⟨s1, s2, s3⟩ => ?_
  unfold differ_CheckKernel.l1
  refine Has.ite (fun hi => ?_) fun hi => ?_
  · have hi : s.2 < k.K.length := of_decide_eq_true hi
    have b := h.all _ (gt_mem k.K s.2 ⟨s1, hi⟩)
    refine Has.chk ⟨s1, hi⟩ ?_
    have g5 : decide (gt k.K s.2 < 0) = false := decide_eq_false (by omega)
    have g6 : decide (gt k.K s.2 > 4096) = false := decide_eq_false (by omega)
    simp only [g5, g6, ite_or, Bool.false_or, Option.bind_some, Bool.false_eq_true, if_false]
    rw [w6_in (by omega)]
    refine Has.ite (fun hs => Has.ret (.next ⟨by simp only []; omega, by simp only []; omega, fun _ => rfl⟩ (by simp only []; omega))) fun hs => Has.ret (.next ⟨by simp only []; omega, by simp only []; omega, fun q => ?_⟩ (by simp only []; omega))
    simp only [] at q ⊢
    have : (p : Int) = s.2 := by
      by_cases e : (p : Int) = s.2
      · exact e
      · exact absurd (s3 (by omega)) hs
    have e2 := gt_def k.K s.2 ⟨s1, hi⟩
    have e3 : s.2.toNat = p := by omega
    simp only [e3] at e2
    rw [e2]; exact decide_eq_true hp
  · have hi : ¬ s.2 < k.K.length := fun q => hi (decide_eq_true q)
    exact Has.ret (.done (by rw [s3 (by omega)]))
/-! ### one cell of a convolution -/
def cellOf (c : Cells) (k : differ_Kernel) (x y j : Int) : Option (Int × Int) :=
  if gt k.K j = 0 then some (0, 0) else if x - j % k.W < 0 ∨ y - j / k.W < 0 then none
  else if (gt c.At ((y - j / k.W) * c.W + (x - j % k.W))).Unknown = true then none
  else some ((gt c.At ((y - j / k.W) * c.W + (x - j % k.W))).Lo * gt k.K j, (gt c.At ((y - j / k.W) * c.W + (x - j % k.W))).Hi * gt k.K j)
def accu (c : Cells) (k : differ_Kernel) (x y : Int) : Nat → Option (Int × Int)
  | 0 => some (0, 0)
  | n + 1 => plus2 (accu c k x y n) (cellOf c k x y n)
theorem accu_none {c : Cells} {k : differ_Kernel} {x y : Int} {m n : Nat} (h : accu c k x y m = none) (hmn : m ≤ n) : accu c k x y n = none := by
  induction n with
  | zero => have : m = 0 := by omega
            subst this; exact h
  | succ n ih =>
    by_cases e : m = n + 1
    · rw [← e]; exact h
    · unfold accu; rw [ih (by omega)]; exact none_plus2 _
/-- How large the cells of a field are. -/
def small (c : Cells) (M : Int) : Prop := ∀ b ∈ c.At, b.ok ∧ -M ≤ b.Lo ∧ b.Hi ≤ M
theorem idx_ok {W H u v : Int} (u0 : 0 ≤ u) (u1 : u < W) (v0 : 0 ≤ v) (v1 : v < H) : 0 ≤ v * W ∧ v * W + u < W * H := by
  have a := Int.mul_nonneg v0 (show 0 ≤ W by omega)
  have b := Int.mul_le_mul_of_nonneg_right (show v + 1 ≤ H by omega) (show 0 ≤ W by omega)
  rw [Int.add_mul, Int.one_mul, Int.mul_comm H W] at b
  omega
/-- What a cell of the kernel adds. -/
theorem cell_bd {c : Cells} {k : differ_Kernel} {x y j M m : Int} (hc : okF c) (hk : okK k) (hM : small c M) (hm : ∀ w ∈ k.K, w ≤ m) (x1 : x < c.W) (y1 : y < c.H) (j0 : 0 ≤ j) (j1 : j < k.K.length) (M0 : 0 ≤ M) {l h : Int} (e : cellOf c k x y j = some (l, h)) :
    l ≤ h ∧ -(M * m) ≤ l ∧ h ≤ M * m := by
  unfold cellOf at e
  have hw := hk.all _ (gt_mem k.K j ⟨j0, j1⟩)
  have hw2 := hm _ (gt_mem k.K j ⟨j0, j1⟩)
  have p := Int.mul_le_mul_of_nonneg_left hw2 M0
  have p0 := Int.mul_nonneg M0 hw.1
  split at e
  · cases e; omega
  · split at e
    · cases e
    · rename_i hx
      split at e
      · cases e
      · cases e
        have k1 := hk.w0
        have r0 := Int.emod_nonneg j (b := k.W) (by omega)
        have q0 := Int.ediv_nonneg j0 (show 0 ≤ k.W by omega)
        obtain ⟨i0, i1⟩ := idx_ok (W := c.W) (H := c.H) (u := x - j % k.W) (v := y - j / k.W) (by omega) (by omega) (by omega) (by omega)
        obtain ⟨b1, b2, b3⟩ := hM _ (gt_mem c.At ((y - j / k.W) * c.W + (x - j % k.W)) ⟨by omega, by rw [hc.len]; exact i1⟩)
        have s1 := Int.mul_le_mul_of_nonneg_right b1.le hw.1
        have s2 := Int.mul_le_mul_of_nonneg_right b2 hw.1
        have s3 := Int.mul_le_mul_of_nonneg_right b3 hw.1
        rw [Int.neg_mul] at s2
        omega
theorem accu_bd {c : Cells} {k : differ_Kernel} {x y M m : Int} (hc : okF c) (hk : okK k) (hM : small c M) (hm : ∀ w ∈ k.K, w ≤ m) (x1 : x < c.W) (y1 : y < c.H) (M0 : 0 ≤ M) : ∀ (n : Nat), n ≤ k.K.length → ∀ {l h : Int}, accu c k x y n = some (l, h) →
    l ≤ h ∧ -(n * (M * m)) ≤ l ∧ h ≤ n * (M * m)
  | 0, _, l, h, e => by cases e; simp
  | n + 1, hn, l, h, e => by
    unfold accu at e
    cases e1 : accu c k x y n with
    | none => rw [e1, none_plus2] at e; cases e
    | some a =>
      cases e2 : cellOf c k x y n with
      | none => rw [e2, plus2_none] at e; cases e
      | some b =>
        rw [e1, e2] at e
        have i1 := accu_bd hc hk hM hm x1 y1 M0 n (by omega) e1
        have i2 := cell_bd hc hk hM hm x1 y1 (by omega) (by omega) M0 e2
        cases e
        have : ((n + 1 : Nat) : Int) * (M * m) = n * (M * m) + M * m := by rw [Int.natCast_add, Int.add_mul]; simp
        rw [this]
        omega
theorem blurred_ok {c : Cells} {k : differ_Kernel} {x y M m : Int} (hc : okF c) (hk : okK k) (hM : small c M) (hm : ∀ w ∈ k.K, w ≤ m) (M0 : 0 ≤ M) (m0 : 0 ≤ m) (hB : 81 * (M * m) ≤ 1152921504606846976) (x0 : 0 ≤ x) (x1 : x < c.W) (y0 : 0 ≤ y) (y1 : y < c.H) :
    differ_blurred c k x y = some (bdOf (accu c k x y k.K.length)) := by
  have hn := hk.n
  have kw0 := hk.w0; have kw1 := hk.w1
  have cw0 := hc.w0; have cw1 := hc.w1; have ch0 := hc.h0; have ch1 := hc.h1
  have hMm := Int.mul_nonneg M0 m0
  apply Has.val
  unfold differ_blurred
  refine Has.seq (P := fun t : Step Bound Bound => t = .next (bdOf (accu c k x y k.K.length)) ∨ t = .done (bdOf (accu c k x y k.K.length))) ?_ (fun z hz => by rcases hz with e | e <;> cases e; exact Has.ret rfl) (fun o ho => by rcases ho with e | e <;> cases e; rfl)
  refine Has.loop (fun s : Bound × Int => 0 ≤ s.2 ∧ s.2 ≤ k.K.length ∧ s.1 = bdOf (accu c k x y s.2.toNat)) (fun s => (k.K.length - s.2).toNat) (fun t : Step Bound Bound => t = .next (bdOf (accu c k x y k.K.length)) ∨ t = .done (bdOf (accu c k x y k.K.length))) ⟨Int.le_refl _, by simp only []; omega, rfl⟩ (by simp only []; omega) fun s ⟨s1, s2, s3⟩ => ?_
  unfold differ_blurred.l1
  refine Has.ite (fun hi => ?_) fun hi => ?_
  · have hi : s.2 < k.K.length := of_decide_eq_true hi
    have esucc : accu c k x y (s.2.toNat + 1) = plus2 (accu c k x y s.2.toNat) (cellOf c k x y s.2) := by
      rw [accu]; congr 2; omega
    have r0 := Int.emod_nonneg s.2 (b := k.W) (by omega)
    have r1 := Int.emod_lt_of_pos s.2 (b := k.W) (by omega)
    have q0 := Int.ediv_nonneg s1 (show 0 ≤ k.W by omega)
    have q1 := Int.ediv_le_self k.W s1
    rw [Int.tmod_eq_emod_of_nonneg s1, Int.tdiv_eq_ediv_of_nonneg s1, w6_in (n := s.2 / k.W) (by omega), w6_in (n := x - s.2 % k.W) (by omega), w6_in (n := y - s.2 / k.W) (by omega), w6_in (n := s.2 + 1) (by omega)]
    have hw := hk.all _ (gt_mem k.K s.2 ⟨s1, hi⟩)
    refine Has.seq (P := fun t : Step Bound (Step (Bound × Int) (Step Bound Bound)) => t = .next (bdOf (accu c k x y (s.2.toNat + 1))) ∨ t = .done (.done (.done (bdOf (accu c k x y k.K.length))))) ?_ (fun z hz => ?_) (fun o ho => ?_)
    · refine Has.chk ⟨s1, hi⟩ (Has.chk (by omega) (Has.ite (fun hz => Has.ret (.inl ?_)) fun hz => ?_))
      · have hz : gt k.K s.2 = 0 := by simpa using hz
        have : cellOf c k x y s.2 = some (0, 0) := by unfold cellOf; rw [if_pos hz]
        rw [esucc, this, s3]
        cases accu c k x y s.2.toNat with
        | none => rfl
        | some p => simp [plus2, bdOf]
      · have hz : gt k.K s.2 ≠ 0 := by simpa using hz
        simp only [ite_or, Option.bind_some]
        refine Has.ite (fun ho => ?_) fun ho => ?_
        · have ho : x - s.2 % k.W < 0 ∨ y - s.2 / k.W < 0 := by simpa using ho
          have : cellOf c k x y s.2 = none := by unfold cellOf; rw [if_neg hz, if_pos ho]
          have : accu c k x y k.K.length = none := accu_none (m := s.2.toNat + 1) (by rw [esucc, this, plus2_none]) (by omega)
          rw [none_ok, this]
          exact Has.ret (.inr rfl)
        · have ho : ¬ (x - s.2 % k.W < 0 ∨ y - s.2 / k.W < 0) := by simpa using ho
          obtain ⟨i0, i1⟩ := idx_ok (W := c.W) (H := c.H) (u := x - s.2 % k.W) (v := y - s.2 / k.W) (by omega) (by omega) (by omega) (by omega)
          have ha := area hc.w0 hc.w1 hc.h0 hc.h1
          rw [w6_in (n := (y - s.2 / k.W) * c.W) (by omega), w6_in (n := (y - s.2 / k.W) * c.W + (x - s.2 % k.W)) (by omega)]
          have hin : 0 ≤ (y - s.2 / k.W) * c.W + (x - s.2 % k.W) ∧ (y - s.2 / k.W) * c.W + (x - s.2 % k.W) < c.At.length := ⟨by omega, by rw [hc.len]; exact i1⟩
          refine Has.letF (Has.chk hin ?_)
          obtain ⟨b1, b2, b3⟩ := hM _ (gt_mem c.At _ hin)
          have bm := Int.mul_le_mul_of_nonneg_left (hm _ (gt_mem k.K s.2 ⟨s1, hi⟩)) M0
          have accB := fun l h => accu_bd hc hk hM hm x1 y1 M0 s.2.toNat (l := l) (h := h) (by omega)
          have hB2 : (s.2.toNat : Int) * (M * m) ≤ 80 * (M * m) := Int.mul_le_mul_of_nonneg_right (by omega) hMm
          have accok : s.1.ok := by rw [s3]; exact bdOf_ok (B := 80 * (M * m)) (by omega) fun l h e => by obtain ⟨p1, p2, p3⟩ := accB l h e; omega
          by_cases hu : (gt c.At ((y - s.2 / k.W) * c.W + (x - s.2 % k.W))).Unknown = true
          · have ec : cellOf c k x y s.2 = none := by unfold cellOf; rw [if_neg hz, if_neg ho, if_pos hu]
            rw [scale_vague _ _ 1 b1 hu (by omega)]
            simp only [Option.bind_some]
            rw [add_vague accok okNone (by simp)]
            exact Has.ret (.inl (by rw [esucc, ec, plus2_none]; rfl))
          · have ec : cellOf c k x y s.2 = some ((gt c.At ((y - s.2 / k.W) * c.W + (x - s.2 % k.W))).Lo * gt k.K s.2, (gt c.At ((y - s.2 / k.W) * c.W + (x - s.2 % k.W))).Hi * gt k.K s.2) := by unfold cellOf; rw [if_neg hz, if_neg ho, if_neg hu]
            obtain ⟨e1, e2, e3⟩ := cell_bd hc hk hM hm x1 y1 s1 hi M0 ec
            rw [scale_one _ _ b1 (by simpa using hu) (by omega) (by omega) (by omega)]
            simp only [Option.bind_some]
            have hrok : Bound.ok ⟨(gt c.At ((y - s.2 / k.W) * c.W + (x - s.2 % k.W))).Lo * gt k.K s.2, (gt c.At ((y - s.2 / k.W) * c.W + (x - s.2 % k.W))).Hi * gt k.K s.2, false⟩ := okKnown (by omega) e1 (by omega)
            cases ea : accu c k x y s.2.toNat with
            | none =>
              have es : s.1 = ⟨0, 0, true⟩ := by rw [s3, ea]; rfl
              rw [es, add_vague okNone hrok (by simp)]
              exact Has.ret (.inl (by rw [esucc, ea, none_plus2]; rfl))
            | some p =>
              have es : s.1 = ⟨p.1, p.2, false⟩ := by rw [s3, ea]; rfl
              obtain ⟨p1, p2, p3⟩ := accB p.1 p.2 ea
              rw [es, add_known (by rw [← es]; exact accok) hrok rfl rfl (by simp only []; omega) (by simp only []; omega)]
              exact Has.ret (.inl (by rw [esucc, ea, ec]; rfl))
    · rcases hz with e | e
      · cases e
        exact Has.ret (.next ⟨by simp only []; omega, by simp only []; omega, by simp only []; congr 2; omega⟩ (by simp only []; omega))
      · cases e
    · rcases ho with e | e
      · cases e
      · cases e; exact .done (.inr rfl)
  · have hi : ¬ s.2 < k.K.length := fun q => hi (decide_eq_true q)
    exact Has.ret (.done (.inl (by rw [s3]; congr 2; congr 1; omega)))
end Lf
/- Convolutions of whole fields. -/
namespace Lf
open Go Go.Abs
set_option linter.unusedVariables false
set_option linter.unusedSimpArgs false
theorem limited_ok {b : Bound} {B : Int} (h1 : -B ≤ b.Lo) (h2 : b.Hi ≤ B) (hB : B ≤ 1099511627776) : differ_limited b = some b := by
  have g1 : decide (b.Lo < (-1099511627776)) = false := decide_eq_false (by omega)
  have g2 : decide (b.Hi > 1099511627776) = false := decide_eq_false (by omega)
  unfold differ_limited
  simp [g1, g2]
theorem blur_ok {c : Cells} {k : differ_Kernel} {M m : Int} (hc : okF c) (hk : okK k) (hM : small c M) (hm : ∀ w ∈ k.K, w ≤ m) (M0 : 0 ≤ M) (m0 : 0 ≤ m) (hB : 81 * (M * m) ≤ 1099511627776) :
    Has (differ_Blur c k) fun r => r.2 = 0 ∧ r.1.W = c.W ∧ r.1.H = c.H ∧ r.1.At.length = c.At.length ∧ allI r.1.At fun i b => b = bdOf (accu c k (i % c.W) (i / c.W) k.K.length) := by
  have hn := hc.n1
  have kn := hk.n
  have cw0 := hc.w0; have cw1 := hc.w1; have ch0 := hc.h0; have ch1 := hc.h1
  have hMm := Int.mul_nonneg M0 m0
  unfold differ_Blur
  rw [findCheck_ok hc, checkKernel_ok hk]
  simp only [Option.bind_some, bne_self_eq_false, Bool.false_eq_true, if_false]
  refine (Has.loop (fun s : List Bound × Int => 0 ≤ s.2 ∧ s.2 ≤ c.At.length ∧ (s.1.length : Int) = s.2 ∧ allI s.1 fun i b => b = bdOf (accu c k (i % c.W) (i / c.W) k.K.length)) (fun s => (c.At.length - s.2).toNat)
    (fun l : List Bound => l.length = c.At.length ∧ allI l fun i b => b = bdOf (accu c k (i % c.W) (i / c.W) k.K.length)) ⟨Int.le_refl _, by simp only []; omega, rfl, allI_nil⟩ (by simp only []; omega) fun s ⟨s1, s2, s3, s4⟩ => ?_).bind fun l ⟨l1, l2⟩ => Has.ret ⟨rfl, rfl, rfl, l1, l2⟩
  unfold differ_Blur.l1
  refine Has.ite (fun hi => ?_) fun hi => ?_
  · have hi : s.2 < c.At.length := of_decide_eq_true hi
    have r0 := Int.emod_nonneg s.2 (b := c.W) (by omega)
    have r1 := Int.emod_lt_of_pos s.2 (b := c.W) (by omega)
    have q0 := Int.ediv_nonneg s1 (show 0 ≤ c.W by omega)
    have q1 : s.2 / c.W < c.H := by rw [Int.ediv_lt_iff_lt_mul (by omega), Int.mul_comm, ← hc.len]; exact hi
    rw [Int.tmod_eq_emod_of_nonneg s1, Int.tdiv_eq_ediv_of_nonneg s1, w6_in (n := s.2 / c.W) (by omega), w6_in (n := s.2 + 1) (by omega), blurred_ok hc hk hM hm M0 m0 (by omega) r0 r1 q0 q1]
    simp only [Option.bind_some]
    have bd : -(81 * (M * m)) ≤ (bdOf (accu c k (s.2 % c.W) (s.2 / c.W) k.K.length)).Lo ∧ (bdOf (accu c k (s.2 % c.W) (s.2 / c.W) k.K.length)).Hi ≤ 81 * (M * m) := by
      cases e : accu c k (s.2 % c.W) (s.2 / c.W) k.K.length with
      | none => simp only [bdOf]; omega
      | some p =>
        obtain ⟨a, b, c'⟩ := accu_bd hc hk hM hm r1 q1 M0 k.K.length (Nat.le_refl _) (l := p.1) (h := p.2) e
        have : (k.K.length : Int) * (M * m) ≤ 81 * (M * m) := Int.mul_le_mul_of_nonneg_right (by omega) hMm
        simp only [bdOf]; omega
    rw [limited_ok bd.1 bd.2 hB]
    refine Has.chk (by omega) (Has.chk (roomyI (by simp; omega) (by simp; omega)) (Has.ret (.next ⟨by simp only []; omega, by simp only []; omega, by simp; omega, allI_snoc s4 ?_⟩ (by simp only []; omega))))
    rw [s3]
  · have hi : ¬ s.2 < c.At.length := fun q => hi (decide_eq_true q)
    exact Has.ret (.done ⟨by omega, s4⟩)
end Lf
/- The kernels that are drawn. -/
namespace Lf
open Go Go.Abs
set_option linter.unusedVariables false
set_option linter.unusedSimpArgs false
theorem kernel_ok (s : spymake_Stream) (hs : okS s) (ha : s.at_ ≤ 4611686018427000000) : Has (spykeep4_kernel s) fun r => okK r.1 ∧ r.1.W ≤ 3 ∧ r.1.H ≤ 3 ∧ (∀ w ∈ r.1.K, w ≤ 6) ∧ after s r.2 22 := by
  unfold spykeep4_kernel
  refine (range_ok s 1 3 hs (by omega) (by omega) (by omega) (by omega)).bind fun a ⟨a1, a2, a3⟩ => ?_
  have hA := a3.ok hs (by omega); have hha := a3.hi
  refine (range_ok a.2 1 3 hA (by omega) (by omega) (by omega) (by omega)).bind fun b ⟨b1, b2, b3⟩ => ?_
  have hB := b3.ok hA (by omega); have hhb := b3.hi
  have n0 : 1 ≤ a.1 * b.1 ∧ a.1 * b.1 ≤ 9 := by
    have p := Int.mul_le_mul_of_nonneg_right a2 (show 0 ≤ b.1 by omega)
    have q := Int.mul_le_mul_of_nonneg_right a1 (show 0 ≤ b.1 by omega)
    omega
  have eN : w6 (a.1 * b.1) = a.1 * b.1 := w6_in (by omega)
  refine (Has.loop (fun t : spymake_Stream × List Int × Int => after b.2 t.1 (2 * t.2.2) ∧ 0 ≤ t.2.2 ∧ t.2.2 ≤ a.1 * b.1 ∧ (t.2.1.length : Int) = t.2.2 ∧ ∀ w ∈ t.2.1, 0 ≤ w ∧ w ≤ 6) (fun t => (a.1 * b.1 - t.2.2).toNat)
    (fun o : spymake_Stream × List Int => after b.2 o.1 18 ∧ (o.2.length : Int) = a.1 * b.1 ∧ ∀ w ∈ o.2, 0 ≤ w ∧ w ≤ 6) ⟨after.refl _, Int.le_refl _, by simp only []; omega, rfl, by simp⟩ (by simp only []; omega) fun t ⟨t1, t2, t3, t4, t5⟩ => ?_).bind fun o ⟨o1, o2, o3⟩ => ?_
  · unfold spykeep4_kernel.l1
    rw [eN]
    refine Has.ite (fun hc => ?_) fun hc => ?_
    · have hc : t.2.2 < a.1 * b.1 := of_decide_eq_true hc
      have ht := t1.ok hB (by omega); have hht := t1.hi
      refine (next_ok t.1 4 ht (by omega) (by omega)).bind fun x ⟨x1, x2, x3⟩ => ?_
      have hx := x3.ok ht (by omega); have hhx := x3.hi
      refine (next_ok x.2 3 hx (by omega) (by omega)).bind fun y ⟨y1, y2, y3⟩ => ?_
      have hhy := y3.hi
      have p : 0 ≤ x.1 * y.1 ∧ x.1 * y.1 ≤ 6 := by
        have h0 := Int.mul_nonneg x1 y1
        have h1 := Int.mul_le_mul_of_nonneg_right (show x.1 ≤ 3 by omega) y1
        omega
      rw [w6_in (n := x.1 * y.1) (by omega), w6_in (n := t.2.2 + 1) (by omega)]
      refine Has.chk (roomyI (by simp; omega) (by simp; omega)) (Has.ret (.next ⟨((t1.trans x3).trans y3).more (by simp only []; omega), by simp only []; omega, by simp only []; omega, by simp; omega, fun w hw => ?_⟩ (by simp only []; omega)))
      rcases List.mem_append.1 hw with h | h
      · exact t5 w h
      · simp at h; omega
    · have hc : ¬ t.2.2 < a.1 * b.1 := fun q => hc (decide_eq_true q)
      exact Has.ret (.done ⟨t1.more (by omega), by simp only []; omega, t5⟩)
  · have hO := o1.ok hB (by omega); have hho := o1.hi
    refine (next_ok o.1 o.2.length hO (by omega) (by omega)).bind fun p ⟨p1, p2, p3⟩ => ?_
    have hP := p3.ok hO (by omega); have hhp := p3.hi
    refine (range_ok p.2 1 5 hP (by omega) (by omega) (by omega) (by omega)).bind fun v ⟨v1, v2, v3⟩ => ?_
    have all : ∀ w ∈ o.2.set p.1.toNat v.1, 0 ≤ w ∧ w ≤ 6 := fun w hw => by
      rcases List.mem_or_eq_of_mem_set hw with h | h
      · exact o3 w h
      · omega
    refine Has.chk ⟨p1, p2⟩ (Has.ret ⟨⟨a1, by simp only []; omega, b1, by simp only []; omega, by simp only [List.length_set]; exact o2, fun w hw => by have := all w hw; omega, v.1, ?_, by omega⟩, a2, b2, fun w hw => (all w hw).2, (((((a3.trans b3).trans o1).trans p3).trans v3)).more (by omega)⟩)
    exact List.mem_set (by omega) _
end Lf
/- Sums over places. -/
namespace Lf
open Go Go.Abs
set_option linter.unusedVariables false
def sumN (f : Int → Int) : Nat → Int
  | 0 => 0
  | n + 1 => sumN f n + f n
theorem sumN_congr {f g : Int → Int} : ∀ {n : Nat}, (∀ j : Int, 0 ≤ j → j < n → f j = g j) → sumN f n = sumN g n
  | 0, _ => rfl
  | n + 1, h => by
    unfold sumN
    rw [sumN_congr fun j j0 j1 => h j j0 (by omega), h n (by omega) (by omega)]
theorem sumN_add (f g : Int → Int) : ∀ n : Nat, sumN (fun j => f j + g j) n = sumN f n + sumN g n
  | 0 => by simp [sumN]
  | n + 1 => by simp only [sumN]; rw [sumN_add f g n]; omega
theorem sumN_zero : ∀ n : Nat, sumN (fun _ => 0) n = 0
  | 0 => rfl
  | n + 1 => by simp only [sumN]; rw [sumN_zero n]; rfl
theorem sumN_mul (c : Int) (f : Int → Int) : ∀ n : Nat, sumN (fun j => c * f j) n = c * sumN f n
  | 0 => by simp [sumN]
  | n + 1 => by simp only [sumN]; rw [sumN_mul c f n, Int.mul_add]
/-- Sums may be taken in either order. -/
theorem sumN_swap (f : Int → Int → Int) (m : Nat) : ∀ n : Nat, sumN (fun i => sumN (fun j => f i j) m) n = sumN (fun j => sumN (fun i => f i j) n) m
  | 0 => by simp only [sumN]; exact (sumN_zero m).symm
  | n + 1 => by
    simp only [sumN]
    rw [sumN_swap f m n, ← sumN_add]
/-- A sum of which one place counts. -/
theorem sumN_one (k x : Int) (h0 : 0 ≤ k) : ∀ n : Nat, sumN (fun m => if m = k then x else 0) n = if k < n then x else 0
  | 0 => by simp only [sumN]; rw [if_neg (by omega)]
  | n + 1 => by
    simp only [sumN]
    rw [sumN_one k x h0 n]
    by_cases h : k < n
    · rw [if_pos h, if_neg (by omega), if_pos (by omega)]; omega
    · rw [if_neg h]
      by_cases e : (n : Int) = k
      · rw [if_pos e, if_pos (by omega)]; omega
      · rw [if_neg e, if_neg (by omega)]; rfl
end Lf
/- The product of two kernels. -/
namespace Lf
open Go Go.Abs
set_option linter.unusedVariables false
set_option linter.unusedSimpArgs false
/-- A small kernel. -/
structure smK (k : differ_Kernel) : Prop where
  o : okK k
  w : k.W ≤ 3
  h : k.H ≤ 3
  m : ∀ w ∈ k.K, w ≤ 6
def ix (a b : differ_Kernel) (i j : Int) : Int := (i / a.W + j / b.W) * (a.W + b.W - 1) + i % a.W + j % b.W
/-- What lies at a place of the product. -/
def prodAt (a b : differ_Kernel) (m : Int) : Int := sumN (fun i => sumN (fun j => if m = ix a b i j then gt a.K i * gt b.K j else 0) b.K.length) a.K.length
theorem xy_of {k : differ_Kernel} (hk : okK k) {i : Int} (i0 : 0 ≤ i) (i1 : i < k.K.length) : 0 ≤ i % k.W ∧ i % k.W < k.W ∧ 0 ≤ i / k.W ∧ i / k.W < k.H := by
  have := hk.w0
  exact ⟨Int.emod_nonneg i (by omega), Int.emod_lt_of_pos i (by omega), Int.ediv_nonneg i0 (by omega), by rw [Int.ediv_lt_iff_lt_mul (by omega), Int.mul_comm, ← hk.len]; exact i1⟩
theorem ix_bd {a b : differ_Kernel} (ha : okK a) (hb : okK b) {i j : Int} (i0 : 0 ≤ i) (i1 : i < a.K.length) (j0 : 0 ≤ j) (j1 : j < b.K.length) : 0 ≤ (i / a.W + j / b.W) * (a.W + b.W - 1) ∧ 0 ≤ ix a b i j ∧ ix a b i j < (a.W + b.W - 1) * (a.H + b.H - 1) := by
  obtain ⟨p1, p2, p3, p4⟩ := xy_of ha i0 i1
  obtain ⟨q1, q2, q3, q4⟩ := xy_of hb j0 j1
  obtain ⟨e1, e2⟩ := idx_ok (W := a.W + b.W - 1) (H := a.H + b.H - 1) (u := i % a.W + j % b.W) (v := i / a.W + j / b.W) (by omega) (by omega) (by omega) (by omega)
  unfold ix
  omega
theorem times_ok {a b : differ_Kernel} (ha : smK a) (hb : smK b) : Has (differ_times a b) fun r => r.W = a.W + b.W - 1 ∧ r.H = a.H + b.H - 1 ∧ (r.K.length : Int) = (a.W + b.W - 1) * (a.H + b.H - 1) ∧ allI r.K fun m x => x = prodAt a b m ∧ 0 ≤ x ∧ x ≤ 2916 := by
  have aw0 := ha.o.w0; have aw := ha.w; have ah0 := ha.o.h0; have ah := ha.h
  have bw0 := hb.o.w0; have bw := hb.w; have bh0 := hb.o.h0; have bh := hb.h
  have an : 1 ≤ (a.K.length : Int) ∧ (a.K.length : Int) ≤ 9 := by
    rw [ha.o.len]
    have p := Int.mul_le_mul_of_nonneg_right aw (show 0 ≤ a.H by omega)
    have q := Int.mul_le_mul_of_nonneg_right aw0 (show 0 ≤ a.H by omega)
    omega
  have bn : 1 ≤ (b.K.length : Int) ∧ (b.K.length : Int) ≤ 9 := by
    rw [hb.o.len]
    have p := Int.mul_le_mul_of_nonneg_right bw (show 0 ≤ b.H by omega)
    have q := Int.mul_le_mul_of_nonneg_right bw0 (show 0 ≤ b.H by omega)
    omega
  have hN : 1 ≤ (a.W + b.W - 1) * (a.H + b.H - 1) ∧ (a.W + b.W - 1) * (a.H + b.H - 1) ≤ 25 := by
    have p := Int.mul_le_mul_of_nonneg_right (show a.W + b.W - 1 ≤ 5 by omega) (show 0 ≤ a.H + b.H - 1 by omega)
    have q := Int.mul_le_mul_of_nonneg_right (show 1 ≤ a.W + b.W - 1 by omega) (show 0 ≤ a.H + b.H - 1 by omega)
    omega
  unfold differ_times
  rw [w6_in (n := a.W + b.W) (by omega), w6_in (n := a.H + b.H) (by omega), w6_in (n := a.W + b.W - 1) (by omega), w6_in (n := a.H + b.H - 1) (by omega), w6_in (n := (a.W + b.W - 1) * (a.H + b.H - 1)) (by omega)]
  refine Has.letF ?_
  generalize hNe : (a.W + b.W - 1) * (a.H + b.H - 1) = N at *
  refine Has.chk ⟨by omega, Int.le_refl _, roomyI (by omega) (by omega)⟩ ?_
  refine (Has.loop (fun s : List Int × Int => 0 ≤ s.2 ∧ s.2 ≤ a.K.length ∧ (s.1.length : Int) = N ∧ allI s.1 fun m x => x = sumN (fun i => sumN (fun j => if m = ix a b i j then gt a.K i * gt b.K j else 0) b.K.length) s.2.toNat ∧ 0 ≤ x ∧ x ≤ 324 * s.2) (fun s => (a.K.length - s.2).toNat)
    (fun o : List Int => (o.length : Int) = N ∧ allI o fun m x => x = prodAt a b m ∧ 0 ≤ x ∧ x ≤ 2916) ⟨Int.le_refl _, by simp only []; omega, by simp; omega, allI_rep fun i _ _ => ⟨rfl, Int.le_refl _, Int.le_refl _⟩⟩ (by simp only []; omega) fun s ⟨s1, s2, s3, s4⟩ => ?_).bind fun o ⟨o1, o2⟩ => Has.ret ⟨rfl, rfl, o1, o2⟩
  unfold differ_times.l1
  refine Has.ite (fun hi => ?_) fun hi => ?_
  · have hi : s.2 < a.K.length := of_decide_eq_true hi
    have wa := ha.o.all _ (gt_mem a.K s.2 ⟨s1, hi⟩); have wa2 := ha.m _ (gt_mem a.K s.2 ⟨s1, hi⟩)
    refine Has.chk ⟨s1, hi⟩ (Has.bind (P := fun o : List Int => (o.length : Int) = N ∧ allI o fun m x => x = sumN (fun i => sumN (fun j => if m = ix a b i j then gt a.K i * gt b.K j else 0) b.K.length) (s.2 + 1).toNat ∧ 0 ≤ x ∧ x ≤ 324 * (s.2 + 1)) ?_ fun o ⟨o1, o2⟩ => ?_)
    · refine Has.loop (fun t : List Int × Int => 0 ≤ t.2 ∧ t.2 ≤ b.K.length ∧ (t.1.length : Int) = N ∧ allI t.1 fun m x => x = sumN (fun i => sumN (fun j => if m = ix a b i j then gt a.K i * gt b.K j else 0) b.K.length) s.2.toNat + sumN (fun j => if m = ix a b s.2 j then gt a.K s.2 * gt b.K j else 0) t.2.toNat ∧ 0 ≤ x ∧ x ≤ 324 * s.2 + 36 * t.2) (fun t => (b.K.length - t.2).toNat) _ ⟨Int.le_refl _, by simp only []; omega, s3, allI_mono s4 fun m x _ _ ⟨h1, h2, h3⟩ => ⟨by rw [h1]; simp [sumN], h2, by simp only []; omega⟩⟩ (by simp only []; omega) fun t ⟨t1, t2, t3, t4⟩ => ?_
      unfold differ_times.l2
      refine Has.ite (fun hj => ?_) fun hj => ?_
      · have hj : t.2 < b.K.length := of_decide_eq_true hj
        have wb := hb.o.all _ (gt_mem b.K t.2 ⟨t1, hj⟩); have wb2 := hb.m _ (gt_mem b.K t.2 ⟨t1, hj⟩)
        have pr : 0 ≤ gt a.K s.2 * gt b.K t.2 ∧ gt a.K s.2 * gt b.K t.2 ≤ 36 := by
          have p := Int.mul_nonneg wa.1 wb.1
          have q := Int.mul_le_mul_of_nonneg_right wa2 wb.1
          omega
        obtain ⟨x1, x2, x3⟩ := ix_bd ha.o hb.o s1 hi t1 hj
        rw [hNe] at x3
        obtain ⟨p1, p2, p3, p4⟩ := xy_of ha.o s1 hi
        obtain ⟨q1, q2, q3, q4⟩ := xy_of hb.o t1 hj
        rw [Int.tmod_eq_emod_of_nonneg s1, Int.tdiv_eq_ediv_of_nonneg s1, Int.tmod_eq_emod_of_nonneg t1, Int.tdiv_eq_ediv_of_nonneg t1, w6_in (n := s.2 / a.W) (by omega), w6_in (n := t.2 / b.W) (by omega), w6_in (n := s.2 / a.W + t.2 / b.W) (by omega), w6_in (n := a.W + b.W) (by omega), w6_in (n := a.W + b.W - 1) (by omega), w6_in (n := t.2 + 1) (by omega)]
        have xe : (s.2 / a.W + t.2 / b.W) * (a.W + b.W - 1) + s.2 % a.W + t.2 % b.W = ix a b s.2 t.2 := rfl
        have e1 : w6 ((s.2 / a.W + t.2 / b.W) * (a.W + b.W - 1)) = (s.2 / a.W + t.2 / b.W) * (a.W + b.W - 1) := w6_in (by omega)
        have e2 : w6 ((s.2 / a.W + t.2 / b.W) * (a.W + b.W - 1) + s.2 % a.W) = (s.2 / a.W + t.2 / b.W) * (a.W + b.W - 1) + s.2 % a.W := w6_in (by omega)
        have e3 : w6 ((s.2 / a.W + t.2 / b.W) * (a.W + b.W - 1) + s.2 % a.W + t.2 % b.W) = ix a b s.2 t.2 := by rw [xe]; exact w6_in (by omega)
        obtain ⟨y1, y2, y3⟩ := t4 _ x2 (by omega)
        refine Has.chk ⟨t1, hj⟩ (Has.chk (by omega) (Has.chk (by omega) (Has.letF ?_)))
        simp only [e1, e2, e3]
        rw [w6_in (n := gt a.K s.2 * gt b.K t.2) (by omega), w6_in (n := gt t.1 (ix a b s.2 t.2) + gt a.K s.2 * gt b.K t.2) (by omega)]
        have hs : (t.2 + 1).toNat = t.2.toNat + 1 := by omega
        have ht : ((t.2.toNat : Nat) : Int) = t.2 := by omega
        refine Has.chk ⟨x2, by omega⟩ (Has.letF (Has.letF (Has.ret (.next ⟨by simp only []; omega, by simp only []; omega, by simp only [List.length_set]; exact t3, ?_⟩ (by simp only []; omega)))))
        refine allI_upd t4 x2 (fun m x m0 m1 mn ⟨h1, h2, h3⟩ => ⟨?_, h2, by simp only []; omega⟩) ⟨?_, by omega, by simp only []; omega⟩
        · simp only []
          rw [hs, sumN, ht, if_neg (by omega), h1]; omega
        · simp only []
          rw [hs, sumN, ht, if_pos rfl, y1]; omega
      · have hj : ¬ t.2 < b.K.length := fun q => hj (decide_eq_true q)
        have e : t.2.toNat = b.K.length := by omega
        have hs : (s.2 + 1).toNat = s.2.toNat + 1 := by omega
        have ht : ((s.2.toNat : Nat) : Int) = s.2 := by omega
        refine Has.ret (.done ⟨t3, allI_mono t4 fun m x _ _ ⟨h1, h2, h3⟩ => ⟨?_, h2, by omega⟩⟩)
        rw [hs, sumN, ht, h1, e]
    · rw [w6_in (n := s.2 + 1) (by omega)]
      exact Has.ret (.next ⟨by simp only []; omega, by simp only []; omega, o1, o2⟩ (by simp only []; omega))
  · have hi : ¬ s.2 < a.K.length := fun q => hi (decide_eq_true q)
    have e : s.2.toNat = a.K.length := by omega
    refine Has.ret (.done ⟨s3, allI_mono s4 fun m x _ _ ⟨h1, h2, h3⟩ => ⟨?_, h2, by omega⟩⟩)
    rw [h1, e]; rfl
end Lf
/- Convolving twice is convolving with the product. -/
namespace Lf
open Go Go.Abs
set_option linter.unusedVariables false
set_option linter.unusedSimpArgs false
theorem sumN_ge {f : Int → Int} : ∀ {n : Nat} {k : Int}, (∀ j : Int, 0 ≤ j → j < n → 0 ≤ f j) → 0 ≤ k → k < n → f k ≤ sumN f n
  | 0, k, h, k0, k1 => by omega
  | n + 1, k, h, k0, k1 => by
    simp only [sumN]
    have pos : ∀ n : Nat, (∀ j : Int, 0 ≤ j → j < n → 0 ≤ f j) → 0 ≤ sumN f n := fun n => by
      induction n with
      | zero => intro _; exact Int.le_refl _
      | succ n ih => intro h; simp only [sumN]; have := ih fun j j0 j1 => h j j0 (by omega); have := h n (by omega) (by omega); omega
    by_cases e : k = n
    · rw [e]; have := pos n fun j j0 j1 => h j j0 (by omega); omega
    · have := sumN_ge (n := n) (k := k) (fun j j0 j1 => h j j0 (by omega)) k0 (by omega)
      have := h n (by omega) (by omega)
      omega
theorem sumN_ne {f : Int → Int} : ∀ {n : Nat}, sumN f n ≠ 0 → ∃ j : Int, 0 ≤ j ∧ j < n ∧ f j ≠ 0
  | 0, h => absurd rfl h
  | n + 1, h => by
    simp only [sumN] at h
    by_cases e : f n = 0
    · obtain ⟨j, j0, j1, j2⟩ := sumN_ne (f := f) (n := n) (by omega)
      exact ⟨j, j0, by omega, j2⟩
    · exact ⟨n, by omega, by omega, e⟩
theorem ix_comm (a b : differ_Kernel) (i j : Int) : ix a b i j = ix b a j i := by
  unfold ix
  rw [Int.add_comm (i / a.W), Int.add_comm a.W]
  omega
theorem prodAt_comm (a b : differ_Kernel) (m : Int) : prodAt a b m = prodAt b a m := by
  unfold prodAt
  rw [sumN_swap]
  refine sumN_congr fun j _ _ => sumN_congr fun i _ _ => ?_
  rw [ix_comm, Int.mul_comm]
/-- What a product of two kernels is. -/
structure isP (a b p : differ_Kernel) : Prop where
  w : p.W = a.W + b.W - 1
  h : p.H = a.H + b.H - 1
  len : (p.K.length : Int) = (a.W + b.W - 1) * (a.H + b.H - 1)
  at_ : allI p.K fun m x => x = prodAt a b m ∧ 0 ≤ x ∧ x ≤ 2916
section
variable {a b p : differ_Kernel}
theorem term_nn (ha : smK a) (hb : smK b) (m : Int) {i j : Int} (i0 : 0 ≤ i) (i1 : i < a.K.length) (j0 : 0 ≤ j) (j1 : j < b.K.length) : 0 ≤ (if m = ix a b i j then gt a.K i * gt b.K j else 0) := by
  have p := (ha.o.all _ (gt_mem a.K i ⟨i0, i1⟩)).1
  have q := (hb.o.all _ (gt_mem b.K j ⟨j0, j1⟩)).1
  split
  · exact Int.mul_nonneg p q
  · exact Int.le_refl _
theorem prod_pos (ha : smK a) (hb : smK b) {i j : Int} (i0 : 0 ≤ i) (i1 : i < a.K.length) (j0 : 0 ≤ j) (j1 : j < b.K.length) (hi : gt a.K i ≠ 0) (hj : gt b.K j ≠ 0) : 0 < prodAt a b (ix a b i j) := by
  have p := (ha.o.all _ (gt_mem a.K i ⟨i0, i1⟩)).1
  have q := (hb.o.all _ (gt_mem b.K j ⟨j0, j1⟩)).1
  have pq : 0 < gt a.K i * gt b.K j := Int.mul_pos (by omega) (by omega)
  unfold prodAt
  have s1 := sumN_ge (f := fun i' => sumN (fun j' => if ix a b i j = ix a b i' j' then gt a.K i' * gt b.K j' else 0) b.K.length) (n := a.K.length) (k := i) (fun i' i0' i1' => by
    have := sumN_ge (f := fun j' => if ix a b i j = ix a b i' j' then gt a.K i' * gt b.K j' else 0) (n := b.K.length) (k := j) (fun j' j0' j1' => term_nn ha hb _ i0' i1' j0' j1') j0 j1
    have := term_nn ha hb (ix a b i j) i0' i1' j0 j1
    omega) i0 i1
  have s2 := sumN_ge (f := fun j' => if ix a b i j = ix a b i j' then gt a.K i * gt b.K j' else 0) (n := b.K.length) (k := j) (fun j' j0' j1' => term_nn ha hb _ i0 i1 j0' j1') j0 j1
  simp only [if_true] at s1 s2
  omega
theorem prod_ne {m : Int} (h : prodAt a b m ≠ 0) : ∃ i j : Int, 0 ≤ i ∧ i < a.K.length ∧ 0 ≤ j ∧ j < b.K.length ∧ m = ix a b i j ∧ gt a.K i ≠ 0 ∧ gt b.K j ≠ 0 := by
  obtain ⟨i, i0, i1, hi⟩ := sumN_ne h
  obtain ⟨j, j0, j1, hj⟩ := sumN_ne hi
  by_cases e : m = ix a b i j
  · rw [if_pos e] at hj
    exact ⟨i, j, i0, i1, j0, j1, e, fun z => hj (by rw [z]; simp), fun z => hj (by rw [z]; simp)⟩
  · rw [if_neg e] at hj; exact absurd rfl hj
theorem isP.ok (hp : isP a b p) (ha : smK a) (hb : smK b) : okK p := by
  have aw := ha.w; have ah := ha.h; have bw := hb.w; have bh := hb.h
  have aw0 := ha.o.w0; have ah0 := ha.o.h0; have bw0 := hb.o.w0; have bh0 := hb.o.h0
  have pw := hp.w; have ph := hp.h
  refine ⟨by omega, by omega, by omega, by omega, by rw [hp.len, pw, ph], allI_mem (R := fun w => 0 ≤ w ∧ w ≤ 4096) fun m m0 m1 => ?_, ?_⟩
  · obtain ⟨_, h2, h3⟩ := hp.at_ m m0 m1
    exact ⟨h2, by omega⟩
  · obtain ⟨v, hv, hv0⟩ := ha.o.pos
    obtain ⟨u, hu, hu0⟩ := hb.o.pos
    obtain ⟨i, hi, rfl⟩ := List.getElem_of_mem hv
    obtain ⟨j, hj, rfl⟩ := List.getElem_of_mem hu
    have gi := gt_def a.K i ⟨by omega, by omega⟩
    have gj := gt_def b.K j ⟨by omega, by omega⟩
    have e1 : ((i : Int)).toNat = i := by omega
    have e2 : ((j : Int)).toNat = j := by omega
    simp only [e1] at gi
    simp only [e2] at gj
    obtain ⟨_, x2, x3⟩ := ix_bd ha.o hb.o (i := i) (j := j) (by omega) (by omega) (by omega) (by omega)
    have hin : 0 ≤ ix a b i j ∧ ix a b i j < p.K.length := ⟨x2, by rw [hp.len]; exact x3⟩
    refine ⟨gt p.K (ix a b i j), gt_mem _ _ hin, ?_⟩
    rw [(hp.at_ _ hin.1 hin.2).1]
    exact prod_pos ha hb (by omega) (by omega) (by omega) (by omega) (by rw [gi]; omega) (by rw [gj]; omega)
end
end Lf
/- Convolving with one kernel and then another one. -/
namespace Lf
open Go Go.Abs
set_option linter.unusedVariables false
set_option linter.unusedSimpArgs false
/-- A cell of a field, none if it is unknown or ahead of the field. -/
def fc (c : Cells) (x y : Int) : Option (Int × Int) :=
  if x < 0 ∨ y < 0 then none else if (gt c.At (y * c.W + x)).Unknown = true then none else some ((gt c.At (y * c.W + x)).Lo, (gt c.At (y * c.W + x)).Hi)
def lo2 : Option (Int × Int) → Int
  | none => 0
  | some p => p.1
def hi2 : Option (Int × Int) → Int
  | none => 0
  | some p => p.2
theorem cell_fc (c : Cells) (k : differ_Kernel) (x y j : Int) : cellOf c k x y j = if gt k.K j = 0 then some (0, 0) else (fc c (x - j % k.W) (y - j / k.W)).map fun q => (q.1 * gt k.K j, q.2 * gt k.K j) := by
  unfold cellOf fc
  by_cases hz : gt k.K j = 0
  · rw [if_pos hz, if_pos hz]
  · rw [if_neg hz, if_neg hz]
    by_cases ho : x - j % k.W < 0 ∨ y - j / k.W < 0
    · rw [if_pos ho, if_pos ho]; rfl
    · rw [if_neg ho, if_neg ho]
      split <;> rfl
theorem accu_bad {c : Cells} {k : differ_Kernel} {x y : Int} : ∀ {n : Nat}, accu c k x y n = none ↔ ∃ j : Int, 0 ≤ j ∧ j < n ∧ gt k.K j ≠ 0 ∧ fc c (x - j % k.W) (y - j / k.W) = none
  | 0 => by simp only [accu]; exact ⟨(fun h => nomatch h), fun ⟨j, j0, j1, _⟩ => by omega⟩
  | n + 1 => by
    simp only [accu]
    have ih := accu_bad (c := c) (k := k) (x := x) (y := y) (n := n)
    have ec := cell_fc c k x y n
    constructor
    · intro h
      cases e1 : accu c k x y n with
      | none =>
        obtain ⟨j, j0, j1, j2⟩ := ih.1 e1
        exact ⟨j, j0, by omega, j2⟩
      | some q =>
        cases e2 : cellOf c k x y n with
        | some r => rw [e1, e2] at h; cases h
        | none =>
          rw [e2] at ec
          by_cases hz : gt k.K (n : Int) = 0
          · rw [if_pos hz] at ec; cases ec
          · rw [if_neg hz] at ec
            cases e3 : fc c (x - (n : Int) % k.W) (y - (n : Int) / k.W) with
            | some r => rw [e3] at ec; cases ec
            | none => exact ⟨n, by omega, by omega, hz, e3⟩
    · rintro ⟨j, j0, j1, j2, j3⟩
      by_cases e : j = n
      · subst e
        rw [if_neg j2, j3] at ec
        rw [ec]; exact plus2_none _
      · rw [ih.2 ⟨j, j0, by omega, j2, j3⟩]; exact none_plus2 _
theorem accu_sum {c : Cells} {k : differ_Kernel} {x y : Int} : ∀ {n : Nat} {q : Int × Int}, accu c k x y n = some q →
    q.1 = sumN (fun j => gt k.K j * lo2 (fc c (x - j % k.W) (y - j / k.W))) n ∧ q.2 = sumN (fun j => gt k.K j * hi2 (fc c (x - j % k.W) (y - j / k.W))) n
  | 0, q, h => by simp only [accu] at h; cases h; exact ⟨rfl, rfl⟩
  | n + 1, q, h => by
    simp only [accu] at h
    have ec := cell_fc c k x y n
    cases e1 : accu c k x y n with
    | none => rw [e1, none_plus2] at h; cases h
    | some r =>
      obtain ⟨i1, i2⟩ := accu_sum e1
      cases e2 : cellOf c k x y n with
      | none => rw [e2, plus2_none] at h; cases h
      | some s =>
        rw [e1, e2] at h
        rw [e2] at ec
        have eq : q = (r.1 + s.1, r.2 + s.2) := (Option.some.inj h).symm
        simp only [sumN]
        by_cases hz : gt k.K (n : Int) = 0
        · rw [if_pos hz] at ec
          have := Option.some.inj ec
          rw [eq, this, hz, i1, i2]; simp
        · rw [if_neg hz] at ec
          cases e3 : fc c (x - (n : Int) % k.W) (y - (n : Int) / k.W) with
          | none => rw [e3] at ec; cases ec
          | some t =>
            rw [e3] at ec
            have := Option.some.inj ec
            rw [eq, this, i1, i2]
            simp only [lo2, hi2]
            rw [Int.mul_comm t.1, Int.mul_comm t.2]
            exact ⟨rfl, rfl⟩
/-- A sum over the product's places. -/
theorem sum_prod {a b p : differ_Kernel} (hp : isP a b p) (ha : smK a) (hb : smK b) (g : Int → Int) : sumN (fun m => gt p.K m * g m) p.K.length = sumN (fun j => gt b.K j * sumN (fun i => gt a.K i * g (ix a b i j)) a.K.length) b.K.length := by
  have e1 : sumN (fun m => gt p.K m * g m) p.K.length = sumN (fun m => sumN (fun i => sumN (fun j => if m = ix a b i j then gt a.K i * gt b.K j * g (ix a b i j) else 0) b.K.length) a.K.length) p.K.length := by
    refine sumN_congr fun m m0 m1 => ?_
    rw [(hp.at_ m m0 m1).1, prodAt, Int.mul_comm, ← sumN_mul]
    refine sumN_congr fun i _ _ => ?_
    rw [← sumN_mul]
    refine sumN_congr fun j _ _ => ?_
    split
    · rename_i e; rw [← e, Int.mul_comm]
    · simp
  rw [e1, sumN_swap]
  have e2 : sumN (fun i => sumN (fun m => sumN (fun j => if m = ix a b i j then gt a.K i * gt b.K j * g (ix a b i j) else 0) b.K.length) p.K.length) a.K.length = sumN (fun i => sumN (fun j => gt a.K i * gt b.K j * g (ix a b i j)) b.K.length) a.K.length := by
    refine sumN_congr fun i i0 i1 => ?_
    rw [sumN_swap]
    refine sumN_congr fun j j0 j1 => ?_
    obtain ⟨_, x2, x3⟩ := ix_bd ha.o hb.o i0 i1 j0 j1
    rw [sumN_one _ _ x2, if_pos (by rw [hp.len]; exact x3)]
  rw [e2, sumN_swap]
  refine sumN_congr fun j _ _ => ?_
  rw [← sumN_mul]
  refine sumN_congr fun i _ _ => ?_
  rw [Int.mul_comm (gt a.K i), Int.mul_assoc]
theorem ix_xy {a b p : differ_Kernel} (hp : isP a b p) (ha : smK a) (hb : smK b) {i j : Int} (i0 : 0 ≤ i) (i1 : i < a.K.length) (j0 : 0 ≤ j) (j1 : j < b.K.length) : ix a b i j % p.W = i % a.W + j % b.W ∧ ix a b i j / p.W = i / a.W + j / b.W := by
  obtain ⟨p1, p2, p3, p4⟩ := xy_of ha.o i0 i1
  obtain ⟨q1, q2, q3, q4⟩ := xy_of hb.o j0 j1
  rw [hp.w]
  obtain ⟨e1, e2⟩ := (Int.ediv_emod_unique (show 0 < a.W + b.W - 1 by omega) (a := ix a b i j) (q := i / a.W + j / b.W) (r := i % a.W + j % b.W)).2 ⟨by unfold ix; rw [Int.mul_comm (a.W + b.W - 1)]; omega, by omega, by omega⟩
  exact ⟨e2, e1⟩
/-- Convolving a convolution. -/
theorem accu_twice {a b p : differ_Kernel} {c d : Cells} (hp : isP a b p) (ha : smK a) (hb : smK b) (hc : okF c) (hd : okF d) (ew : d.W = c.W) (eh : d.H = c.H) (hdc : allI d.At fun i v => v = bdOf (accu c a (i % c.W) (i / c.W) a.K.length)) {x y : Int} (x0 : 0 ≤ x) (x1 : x < c.W) (y0 : 0 ≤ y) (y1 : y < c.H) :
    accu d b x y b.K.length = accu c p x y p.K.length := by
  have fd : ∀ u v : Int, u < c.W → v < c.H → fc d u v = if u < 0 ∨ v < 0 then none else accu c a u v a.K.length := fun u v u1 v1 => by
    unfold fc
    by_cases ho : u < 0 ∨ v < 0
    · rw [if_pos ho, if_pos ho]
    · rw [if_neg ho, if_neg ho]
      obtain ⟨i0, i1⟩ := idx_ok (W := d.W) (H := d.H) (u := u) (v := v) (by omega) (by omega) (by omega) (by omega)
      have e : gt d.At (v * d.W + u) = bdOf (accu c a ((v * d.W + u) % c.W) ((v * d.W + u) / c.W) a.K.length) := hdc _ (by omega) (by rw [hd.len]; exact i1)
      obtain ⟨e1, e2⟩ := (Int.ediv_emod_unique (show 0 < c.W by omega) (a := v * d.W + u) (q := v) (r := u)).2 ⟨by rw [ew, Int.mul_comm]; omega, by omega, by omega⟩
      rw [e1, e2] at e
      rw [e]
      cases accu c a u v a.K.length with
      | none => rfl
      | some q => rfl
  obtain ⟨av, hav, hav0⟩ := ha.o.pos
  obtain ⟨ai, hai, rfl⟩ := List.getElem_of_mem hav
  have gai : gt a.K (ai : Int) ≠ 0 := by
    have g := gt_def a.K ai ⟨by omega, by omega⟩
    simp only [show ((ai : Int)).toNat = ai from by omega] at g
    rw [g]; omega
  have none_iff : accu d b x y b.K.length = none ↔ accu c p x y p.K.length = none := by
    rw [accu_bad, accu_bad]
    constructor
    · rintro ⟨j, j0, j1, j2, j3⟩
      obtain ⟨q1, q2, q3, q4⟩ := xy_of hb.o j0 j1
      rw [fd _ _ (by omega) (by omega)] at j3
      have mk : ∀ i : Int, 0 ≤ i → i < a.K.length → gt a.K i ≠ 0 → fc c (x - j % b.W - i % a.W) (y - j / b.W - i / a.W) = none → ∃ m : Int, 0 ≤ m ∧ m < p.K.length ∧ gt p.K m ≠ 0 ∧ fc c (x - m % p.W) (y - m / p.W) = none := fun i i0 i1 i2 i3 => by
        obtain ⟨_, z2, z3⟩ := ix_bd ha.o hb.o i0 i1 j0 j1
        have hin : ix a b i j < p.K.length := by rw [hp.len]; exact z3
        obtain ⟨e1, e2⟩ := ix_xy hp ha hb i0 i1 j0 j1
        have pp := prod_pos ha hb i0 i1 j0 j1 i2 j2
        refine ⟨ix a b i j, z2, hin, ?_, ?_⟩
        · rw [(hp.at_ _ z2 hin).1]; omega
        · rw [e1, e2, ← i3]; congr 1 <;> omega
      by_cases ho : x - j % b.W < 0 ∨ y - j / b.W < 0
      · obtain ⟨p1, p2, p3, p4⟩ := xy_of ha.o (i := ai) (by omega) (by omega)
        refine mk ai (by omega) (by omega) gai ?_
        unfold fc
        rw [if_pos (by omega)]
      · rw [if_neg ho, accu_bad] at j3
        obtain ⟨i, i0, i1, i2, i3⟩ := j3
        exact mk i i0 i1 i2 i3
    · rintro ⟨m, m0, m1, m2, m3⟩
      rw [(hp.at_ m m0 m1).1] at m2
      obtain ⟨i, j, i0, i1, j0, j1, e, hi, hj⟩ := prod_ne m2
      subst e
      obtain ⟨e1, e2⟩ := ix_xy hp ha hb i0 i1 j0 j1
      obtain ⟨q1, q2, q3, q4⟩ := xy_of hb.o j0 j1
      rw [e1, e2] at m3
      refine ⟨j, j0, j1, hj, ?_⟩
      rw [fd _ _ (by omega) (by omega)]
      by_cases ho : x - j % b.W < 0 ∨ y - j / b.W < 0
      · rw [if_pos ho]
      · rw [if_neg ho, accu_bad]
        exact ⟨i, i0, i1, hi, by rw [← m3]; congr 1 <;> omega⟩
  cases h1 : accu d b x y b.K.length with
  | none => rw [none_iff.1 h1]
  | some q =>
    cases h2 : accu c p x y p.K.length with
    | none => rw [none_iff.2 h2] at h1; cases h1
    | some r =>
      obtain ⟨l1, u1⟩ := accu_sum h1
      obtain ⟨l2, u2⟩ := accu_sum h2
      have ng : ¬ ∃ j : Int, 0 ≤ j ∧ j < b.K.length ∧ gt b.K j ≠ 0 ∧ fc d (x - j % b.W) (y - j / b.W) = none := fun h => by
        rw [accu_bad.2 h] at h1; cases h1
      have key : ∀ (f : Option (Int × Int) → Int), (∀ u v : Int, ∀ q, accu c a u v a.K.length = some q → f (some q) = sumN (fun i => gt a.K i * f (fc c (u - i % a.W) (v - i / a.W))) a.K.length) →
          sumN (fun j => gt b.K j * f (fc d (x - j % b.W) (y - j / b.W))) b.K.length = sumN (fun m => gt p.K m * f (fc c (x - m % p.W) (y - m / p.W))) p.K.length := fun f hf => by
        rw [sum_prod hp ha hb]
        refine sumN_congr fun j j0 j1 => ?_
        by_cases hz : gt b.K j = 0
        · rw [hz]; simp
        · obtain ⟨q1, q2, q3, q4⟩ := xy_of hb.o j0 j1
          have hn : fc d (x - j % b.W) (y - j / b.W) ≠ none := fun h => ng ⟨j, j0, j1, hz, h⟩
          rw [fd _ _ (by omega) (by omega)] at hn ⊢
          by_cases ho : x - j % b.W < 0 ∨ y - j / b.W < 0
          · rw [if_pos ho] at hn; exact absurd rfl hn
          · rw [if_neg ho] at hn ⊢
            cases e : accu c a (x - j % b.W) (y - j / b.W) a.K.length with
            | none => exact absurd e hn
            | some s =>
              rw [hf _ _ s e]
              congr 1
              refine sumN_congr fun i i0 i1 => ?_
              obtain ⟨e1, e2⟩ := ix_xy hp ha hb i0 i1 j0 j1
              rw [e1, e2]
              congr 2
              congr 1 <;> omega
      have t1 := key lo2 fun u v s hs => (accu_sum hs).1
      have t2 := key hi2 fun u v s hs => (accu_sum hs).2
      have : q = r := by
        apply Prod.ext
        · rw [l1, l2]; exact t1
        · rw [u1, u2]; exact t2
      rw [this]
end Lf
