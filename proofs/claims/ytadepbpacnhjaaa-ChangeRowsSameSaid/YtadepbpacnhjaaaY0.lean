/- Laws of the plain functions. Conditions: as each theorem states them. -/
import Derived.Test.YtadepbpacnhjaaaD
import Derived.Test.YtadepbpacnhjaaaA4
import Derived.Lib.Mul64
/- Plain facts of streams and bounds, for the functions of CrsD. -/
namespace Lf
open Go Go.Abs
set_option linter.unusedVariables false
set_option linter.unusedSimpArgs false
/-! streams -/
/-- What a stream must be. -/
structure okS (s : spymake_Stream) : Prop where
  z : ∀ z ∈ s.L, -9223372036854775808 ≤ z ∧ z ≤ 9223372036854775807
  len : s.L.length ≤ 17592186044416
  a0 : 0 ≤ s.at_
  a1 : s.at_ ≤ 4611686018427387904
theorem okS.start {l : List Int} (h : okL l) : okS (spymake_Stream.mk l 0) := ⟨h.z, by have := h.len; simp only []; omega, Int.le_refl _, by simp only []; omega⟩
/-- What is true of a stream that another one has become. -/
structure after (s t : spymake_Stream) (k : Int) : Prop where
  L : t.L = s.L
  lo : s.at_ ≤ t.at_
  hi : t.at_ ≤ s.at_ + k
theorem after.refl (s : spymake_Stream) : after s s 0 := ⟨rfl, Int.le_refl _, by omega⟩
theorem after.trans {s t u : spymake_Stream} {k m : Int} (h : after s t k) (g : after t u m) : after s u (k + m) := ⟨g.L.trans h.L, Int.le_trans h.lo g.lo, by have := h.hi; have := g.hi; omega⟩
theorem after.more {s t : spymake_Stream} {k m : Int} (h : after s t k) (hk : k ≤ m) : after s t m := ⟨h.L, h.lo, by have := h.hi; omega⟩
theorem after.ok {s t : spymake_Stream} {k : Int} (h : after s t k) (g : okS s) (hk : s.at_ + k ≤ 4611686018427387904) : okS t := ⟨by rw [h.L]; exact g.z, by rw [h.L]; exact g.len, by have := h.lo; have := g.a0; omega, by have := h.hi; omega⟩
theorem below_ok (x n : Int) (hx : -9223372036854775808 ≤ x ∧ x ≤ 9223372036854775807) (hn : 1 ≤ n ∧ n ≤ 9223372036854775807) : Has (spymake_Below x n) fun v => 0 ≤ v ∧ v < n := by
  unfold spymake_Below
  have h1 := Int.lt_tmod_of_pos x (b := n) (by omega)
  have h2 := Int.tmod_lt_of_pos x (b := n) (by omega)
  refine Has.neg (by simp; omega) (Has.chk (by omega) (Has.ite (fun h => Has.ret ?_) fun h => Has.ret ?_))
  · simp only [decide_eq_true_eq] at h; rw [w6_in (by omega)]; omega
  · simp only [decide_eq_true_eq] at h; omega
theorem next_ok (s : spymake_Stream) (n : Int) (hs : okS s) (ha : s.at_ < 4611686018427387904) (hn : 1 ≤ n ∧ n ≤ 9223372036854775807) : Has (Stream_Next s n) fun r => 0 ≤ r.1 ∧ r.1 < n ∧ after s r.2 1 := by
  have h0 := hs.a0
  have hl := hs.len
  have e1 : w6 (s.at_ + 1) = s.at_ + 1 := w6_in (by omega)
  have fin : after s (spymake_Stream.mk s.L (s.at_ + 1)) 1 := ⟨rfl, by simp only []; omega, Int.le_refl _⟩
  unfold Stream_Next
  simp only [e1]
  refine Has.ite (fun hz => ?_) fun hz => ?_
  · exact (below_ok _ n (w6_bd _) hn).bind fun v hv => Has.ret ⟨hv.1, hv.2, fin⟩
  · have hz : s.L.length ≠ 0 := by simpa using hz
    have e2 : w6 (s.at_ + 1 - 1) = s.at_ := by rw [w6_in (by omega)]; omega
    have b1 := Int.tmod_nonneg (s.L.length : Int) hs.a0
    have b2 := Int.tmod_lt_of_pos s.at_ (b := (s.L.length : Int)) (by omega)
    simp only [e2]
    refine Has.chk (by omega) (Has.chk ⟨b1, b2⟩ ?_)
    refine (below_ok _ 1073741824 (hs.z _ (gt_mem _ _ ⟨b1, b2⟩)) (by omega)).bind fun v hv => Has.letF (Has.letF ?_)
    exact (below_ok _ n (w6_bd _) hn).bind fun u hu => Has.ret ⟨hu.1, hu.2, fin⟩
theorem range_ok (s : spymake_Stream) (lo hi : Int) (hs : okS s) (ha : s.at_ < 4611686018427387904) (h : lo ≤ hi) (h1 : -2305843009213693952 ≤ lo) (h2 : hi ≤ 2305843009213693952) : Has (Stream_Range s lo hi) fun r => lo ≤ r.1 ∧ r.1 ≤ hi ∧ after s r.2 1 := by
  unfold Stream_Range
  rw [w6_in (n := hi - lo) (by omega), w6_in (n := hi - lo + 1) (by omega)]
  refine Has.neg (by simp; omega) ((next_ok s (hi - lo + 1) hs ha (by omega)).bind fun r hr => Has.ret ?_)
  rw [w6_in (by omega)]
  exact ⟨by omega, by omega, hr.2.2⟩
end Lf
/- Words of 64 bits and their products, where no quotient is asked (PNum and PNum4 without lengths and quotients). -/
namespace Lf
open Go Go.Abs
set_option linter.unusedVariables false
set_option linter.unusedSimpArgs false
theorem wu_in {n : Int} (h : 0 ≤ n ∧ n < 18446744073709551616) : IntKind.wrap .u64 n = n := by rw [IntKind.wrap_u64]; omega
theorem wu_def (n : Int) : IntKind.wrap .u64 n = n % 18446744073709551616 := IntKind.wrap_u64 n
theorem wu_bd (n : Int) : 0 ≤ IntKind.wrap .u64 n ∧ IntKind.wrap .u64 n < 18446744073709551616 := by rw [wu_def]; omega
theorem fdiv_pow (x : Int) (k : Nat) : Int.fdiv x (2 ^ k) = x / 2 ^ k := Int.fdiv_eq_ediv_of_nonneg x (Int.le_of_lt (Int.pow_pos (by decide)))
theorem u_nat {x : Int} (h : 0 ≤ x ∧ x < 18446744073709551616) : (BitVec.ofInt 64 x).toNat = x.toNat := by
  rw [BitVec.toNat_ofInt]; omega
theorem and_low {x : Int} (h : 0 ≤ x ∧ x < 18446744073709551616) : IntKind.wrap .u64 ((BitVec.ofInt 64 x &&& BitVec.ofInt 64 4294967295).toNat : Int) = x % 4294967296 := by
  rw [BitVec.toNat_and, u_nat h, u_nat (by omega), show (4294967295 : Int).toNat = 2 ^ 32 - 1 from rfl, Nat.and_two_pow_sub_one_eq_mod, wu_in (by omega)]
  omega
theorem xor_all {x : Int} (h : 0 ≤ x ∧ x < 18446744073709551616) : IntKind.wrap .u64 ((BitVec.ofInt 64 (18446744073709551615) ^^^ BitVec.ofInt 64 x).toNat : Int) = 18446744073709551615 - x := by
  have e : BitVec.ofInt 64 18446744073709551615 = BitVec.allOnes 64 := by decide
  rw [e, BitVec.allOnes_xor, BitVec.toNat_not, u_nat h, wu_in (by omega)]
  omega
theorem w6_def (n : Int) : w6 n = (n + 9223372036854775808) % 18446744073709551616 - 9223372036854775808 := by unfold w6; rw [IntKind.wrap_i64]
def okI (n : Int) : Prop := -9223372036854775808 ≤ n ∧ n ≤ 9223372036854775807
instance (n : Int) : Decidable (okI n) := inferInstanceAs (Decidable (_ ∧ _))
structure okW (w : num_Wide) : Prop where
  h : okI w.Hi
  l0 : 0 ≤ w.Lo.n
  l1 : w.Lo.n < 18446744073709551616
def wv (w : num_Wide) : Int := w.Hi * 18446744073709551616 + w.Lo.n
theorem size_ok (a : Int) (ha : okI a) : Has (num_size a) fun r => 0 ≤ r.n ∧ r.n ≤ 9223372036854775808 ∧ ((0 ≤ a ∧ r.n = a) ∨ (a < 0 ∧ r.n = -a)) := by
  unfold num_size
  have h1 := ha.1; have h2 := ha.2
  refine Has.ite (fun h => Has.ret ?_) fun h => Has.ret ?_
  · have h : a < 0 := by simpa using h
    simp only [wu_def]; omega
  · have h : 0 ≤ a := by simpa using h
    simp only [wu_def]; omega
theorem mul64_ok (x y : Int) (hx : 0 ≤ x ∧ x < 18446744073709551616) (hy : 0 ≤ y ∧ y < 18446744073709551616) : Has (bits_Mul64 x y) fun r => r = (NU64.mk (x * y / 18446744073709551616), NU64.mk (x * y % 18446744073709551616)) := by
  unfold bits_Mul64
  have e1 : Int.fdiv x (2 ^ 32) = x / 4294967296 := fdiv_pow x 32
  have e2 : Int.fdiv y (2 ^ 32) = y / 4294967296 := fdiv_pow y 32
  have bd : ∀ a b : Int, 0 ≤ a → a ≤ 4294967295 → 0 ≤ b → b ≤ 4294967295 → 0 ≤ a * b ∧ a * b ≤ 18446744065119617025 := fun a b a0 a1 b0 b1 => by
    have := Int.mul_nonneg a0 b0
    have h1 := Int.mul_le_mul_of_nonneg_right a1 b0
    omega
  have ex : x * y = x / 4294967296 * (y / 4294967296) * 18446744073709551616 + (x / 4294967296 * (y % 4294967296) + x % 4294967296 * (y / 4294967296)) * 4294967296 + x % 4294967296 * (y % 4294967296) := by
    have h1 : x = x / 4294967296 * 4294967296 + x % 4294967296 := by omega
    have h2 : y = y / 4294967296 * 4294967296 + y % 4294967296 := by omega
    generalize x / 4294967296 = a at *
    generalize x % 4294967296 = b at *
    generalize y / 4294967296 = c at *
    generalize y % 4294967296 = d at *
    subst h1; subst h2
    rw [Int.add_mul, Int.mul_add, Int.mul_add, Int.mul_right_comm a 4294967296, ← Int.mul_assoc a c, Int.mul_assoc (a * c), Int.mul_right_comm a 4294967296 d, ← Int.mul_assoc b c, Int.add_mul]
    omega
  have p1 := bd (x / 4294967296) (y / 4294967296) (by omega) (by omega) (by omega) (by omega)
  have p2 := bd (x / 4294967296) (y % 4294967296) (by omega) (by omega) (by omega) (by omega)
  have p3 := bd (x % 4294967296) (y / 4294967296) (by omega) (by omega) (by omega) (by omega)
  have p4 := bd (x % 4294967296) (y % 4294967296) (by omega) (by omega) (by omega) (by omega)
  simp only [Abs.letF]
  rw [and_low hx, and_low hy, e1, e2, ex]
  generalize x / 4294967296 * (y / 4294967296) = a at *
  generalize x / 4294967296 * (y % 4294967296) = b at *
  generalize x % 4294967296 * (y / 4294967296) = c at *
  generalize x % 4294967296 * (y % 4294967296) = d at *
  rw [wu_in (n := b) (by omega), wu_in (n := d) (by omega)]
  have e3 : Int.fdiv d (2 ^ 32) = d / 4294967296 := fdiv_pow d 32
  rw [e3, wu_in (n := b + d / 4294967296) (by omega), and_low (by omega), wu_in (n := c) (by omega), wu_in (n := (b + d / 4294967296) % 4294967296 + c) (by omega)]
  have e4 : Int.fdiv (b + d / 4294967296) (2 ^ 32) = (b + d / 4294967296) / 4294967296 := fdiv_pow _ 32
  have e5 : Int.fdiv ((b + d / 4294967296) % 4294967296 + c) (2 ^ 32) = ((b + d / 4294967296) % 4294967296 + c) / 4294967296 := fdiv_pow _ 32
  refine Has.ret ?_
  rw [e4, e5]
  clear e1 e2 e3 e4 e5 ex hx hy bd
  have q1 : d = 4294967296 * (d / 4294967296) + d % 4294967296 := by omega
  have q2 : 0 ≤ d % 4294967296 ∧ d % 4294967296 < 4294967296 := by omega
  have q3 : 0 ≤ d / 4294967296 ∧ d / 4294967296 ≤ 4294967295 := by omega
  generalize d / 4294967296 = m at *
  generalize d % 4294967296 = d1 at *
  have q4 : b + m = 4294967296 * ((b + m) / 4294967296) + (b + m) % 4294967296 := by omega
  have q5 : 0 ≤ (b + m) % 4294967296 ∧ (b + m) % 4294967296 < 4294967296 := by omega
  have q6 : 0 ≤ (b + m) / 4294967296 ∧ (b + m) / 4294967296 ≤ 4294967295 := by omega
  generalize (b + m) / 4294967296 = n at *
  generalize (b + m) % 4294967296 = r1 at *
  have q7 : r1 + c = 4294967296 * ((r1 + c) / 4294967296) + (r1 + c) % 4294967296 := by omega
  have q8 : 0 ≤ (r1 + c) % 4294967296 ∧ (r1 + c) % 4294967296 < 4294967296 := by omega
  have q9 : 0 ≤ (r1 + c) / 4294967296 ∧ (r1 + c) / 4294967296 ≤ 4294967295 := by omega
  generalize (r1 + c) / 4294967296 = o at *
  generalize (r1 + c) % 4294967296 = r2 at *
  have eT : a * 18446744073709551616 + (b + c) * 4294967296 + d = 18446744073709551616 * (a + n + o) + (r2 * 4294967296 + d1) := by omega
  rw [eT, wu_in (n := a) (by omega), wu_in (n := a + n) (by omega), wu_in (n := a + n + o) (by omega), wu_def]
  have : (18446744073709551616 * (a + n + o) + (r2 * 4294967296 + d1)) / 18446744073709551616 = a + n + o := by omega
  rw [this]
theorem wneg_ok (w : num_Wide) (hw : okW w) (hm : -170141183460469231731687303715884105728 < wv w) : Has (Wide_Neg w) fun r => okW r ∧ wv r = - wv w := by
  have h1 := hw.h.1; have h2 := hw.h.2; have h3 := hw.l0; have h4 := hw.l1
  unfold wv at hm
  unfold Wide_Neg
  have b1 := wu_bd w.Hi
  rw [xor_all ⟨h3, h4⟩, xor_all b1]
  refine Has.letF (Has.bind (P := fun r => r = ((18446744073709551615 - w.Lo.n + 1) % 18446744073709551616, (18446744073709551615 - w.Lo.n + 1) / 18446744073709551616)) ?_ fun r hr => Has.letF (Has.bind (P := fun q => q = ((18446744073709551615 - IntKind.wrap .u64 w.Hi + r.2) % 18446744073709551616, (18446744073709551615 - IntKind.wrap .u64 w.Hi + r.2) / 18446744073709551616)) ?_ fun q hq => Has.ret ?_))
  · unfold add64
    rw [if_pos (by omega)]
    exact Has.ret (by simp)
  · subst hr
    unfold add64
    simp only []
    rw [if_pos (by omega)]
    exact Has.ret (by simp)
  · subst hr; subst hq
    simp only [wu_def] at *
    refine ⟨⟨?_, ?_, ?_⟩, ?_⟩
    · exact w6_bd _
    · simp only []; omega
    · simp only []; omega
    · unfold wv
      simp only [w6_def]
      omega
theorem product_ok (a b : Int) (ha : okI a) (hb : okI b) : Has (num_Product a b) fun w => okW w ∧ wv w = a * b ∧ -85070591730234615865843651857942052864 ≤ a * b ∧ a * b ≤ 85070591730234615865843651857942052864 := by
  unfold num_Product
  refine (size_ok a ha).bind fun x ⟨x0, x1, x2⟩ => (size_ok b hb).bind fun y ⟨y0, y1, y2⟩ => ?_
  have p0 := Int.mul_nonneg x0 y0
  have p1 := Int.mul_le_mul_of_nonneg_right x1 y0
  have p : x.n * y.n ≤ 85070591730234615865843651857942052864 := by omega
  refine (mul64_ok x.n y.n (by omega) (by omega)).bind fun r hr => ?_
  subst hr
  simp only []
  have e0 : w6 (x.n * y.n / 18446744073709551616) = x.n * y.n / 18446744073709551616 := w6_in (by omega)
  rw [e0]
  have ow : okW (num_Wide.mk (x.n * y.n / 18446744073709551616) (NU64.mk (x.n * y.n % 18446744073709551616))) := ⟨⟨by simp only []; omega, by simp only []; omega⟩, by simp only []; omega, by simp only []; omega⟩
  have ew : wv (num_Wide.mk (x.n * y.n / 18446744073709551616) (NU64.mk (x.n * y.n % 18446744073709551616))) = x.n * y.n := by unfold wv; simp only []; omega
  refine Has.ite (fun h => ?_) fun h => Has.ret ?_
  · refine (wneg_ok _ ow (by rw [ew]; omega)).bind fun r ⟨h1, h2⟩ => Has.ret ⟨h1, ?_, ?_⟩
    · rw [h2, ew]
      rcases x2 with ⟨s, e⟩ | ⟨s, e⟩ <;> rcases y2 with ⟨t, f⟩ | ⟨t, f⟩
      · exfalso; simp at h; omega
      · rw [e, f, Int.mul_neg, Int.neg_neg]
      · rw [e, f, Int.neg_mul, Int.neg_neg]
      · exfalso; simp at h; omega
    · rcases x2 with ⟨s, e⟩ | ⟨s, e⟩ <;> rcases y2 with ⟨t, f⟩ | ⟨t, f⟩
      · exfalso; simp at h; omega
      · rw [e, f, Int.mul_neg] at p p0; omega
      · rw [e, f, Int.neg_mul] at p p0; omega
      · exfalso; simp at h; omega
  · refine ⟨ow, ?_, ?_⟩
    · rw [ew]
      rcases x2 with ⟨s, e⟩ | ⟨s, e⟩ <;> rcases y2 with ⟨t, f⟩ | ⟨t, f⟩
      · rw [e, f]
      · exfalso; simp at h; omega
      · exfalso; simp at h; omega
      · rw [e, f, Int.neg_mul_neg]
    · rcases x2 with ⟨s, e⟩ | ⟨s, e⟩ <;> rcases y2 with ⟨t, f⟩ | ⟨t, f⟩
      · rw [e, f] at p p0; omega
      · exfalso; simp at h; omega
      · exfalso; simp at h; omega
      · rw [e, f, Int.neg_mul_neg] at p p0; omega
end Lf
/- Plain facts of bounds. -/
namespace Lf
open Go Go.Abs
set_option linter.unusedVariables false
set_option linter.unusedSimpArgs false
/-- A valid bound. -/
structure Bound.ok (b : Bound) : Prop where
  u : b.Unknown = true → b.Lo = 0 ∧ b.Hi = 0
  lo : -1152921504606846976 ≤ b.Lo
  le : b.Lo ≤ b.Hi
  hi : b.Hi ≤ 1152921504606846976
theorem check_ok {b : Bound} (h : b.ok) : bound_Check b = some 0 := by
  obtain ⟨h1, h2, h3, h4⟩ := h
  unfold bound_Check
  rw [mn2_le h3, mx2_le h3]
  have e1 : ¬ b.Lo < -1152921504606846976 := by omega
  have e2 : ¬ b.Hi > 1152921504606846976 := by omega
  have e3 : ¬ b.Lo > b.Hi := by omega
  cases hu : b.Unknown with
  | false => simp [e1, e2, e3]
  | true => obtain ⟨q1, q2⟩ := h1 hu; simp [q1, q2]
theorem okNone : Bound.ok ⟨0, 0, true⟩ := ⟨fun _ => ⟨rfl, rfl⟩, by decide, by decide, by decide⟩
theorem okKnown {lo hi : Int} (h1 : -1152921504606846976 ≤ lo) (h2 : lo ≤ hi) (h3 : hi ≤ 1152921504606846976) : Bound.ok ⟨lo, hi, false⟩ := ⟨(fun h => nomatch h), h1, h2, h3⟩
end Lf
/- Plain facts of bounds that are made. -/
namespace Lf
open Go Go.Abs
set_option linter.unusedVariables false
set_option linter.unusedSimpArgs false
theorem norm_ok {b : Bound} (h : b.ok) : bound_Norm b = some b := by unfold bound_Norm; rw [check_ok h]; rfl
theorem none_ok : bound_None = some ⟨0, 0, true⟩ := rfl
theorem of_ok {lo hi : Int} (h1 : -1152921504606846976 ≤ lo) (h2 : lo ≤ hi) (h3 : hi ≤ 1152921504606846976) : bound_Of lo hi = some ⟨lo, hi, false⟩ := by
  unfold bound_Of; rw [norm_ok (okKnown h1 h2 h3)]; rfl
end Lf
/- Loops of few rounds, round by round. -/
namespace Lf
open Go Go.Abs
set_option linter.unusedVariables false
inductive Run {S O : Type} (body : S → Option (Step S O)) : S → Nat → O → Prop
  | done {s : S} {o : O} : body s = some (.done o) → Run body s 0 o
  | next {s s' : S} {n : Nat} {o : O} : body s = some (.next s') → Run body s' n o → Run body s (n + 1) o
theorem Run.iter {S O : Type} {body : S → Option (Step S O)} : ∀ {n : Nat} {s : S} {o : O}, Run body s n o → ∀ k, n < k → iterF body k s = some o
  | _, _, _, .done h, 0, hk => by omega
  | _, _, _, .done h, k + 1, _ => by unfold iterF; rw [h]
  | _, _, _, .next h r, 0, hk => by omega
  | _, _, _, .next h r, k + 1, hk => by unfold iterF; rw [h]; exact r.iter k (by omega)
theorem Run.ok {S O : Type} {body : S → Option (Step S O)} {n : Nat} {s : S} {o : O} (h : Run body s n o) (hn : n < 10000000000000000000000000000000000000000) : loopF body s = some o := h.iter _ hn
end Lf
/- Whether two boxes share a direction: rational multiples. -/
namespace Lf
open Go Go.Abs
set_option linter.unusedVariables false
set_option linter.unusedSimpArgs false
theorem compareQ_ok (x y : Int) : Has (cmp_Compare x y) fun c => (x < y ∧ c = -1) ∨ (x = y ∧ c = 0) ∨ (y < x ∧ c = 1) := by
  unfold cmp_Compare cmp_isNaN
  have n : ∀ z : Int, (z != z) = false := fun z => by simp
  simp only [n, Option.bind_some, Bool.false_eq_true, if_false]
  refine Has.ite (fun h => Has.ret (.inl ⟨of_decide_eq_true h, rfl⟩)) fun h => Has.ite (fun h2 => Has.ret (.inr (.inr ⟨of_decide_eq_true h2, rfl⟩))) fun h2 => Has.ret (.inr (.inl ⟨?_, rfl⟩))
  have h : ¬ x < y := fun q => h (decide_eq_true q)
  have h2 : ¬ x > y := fun q => h2 (decide_eq_true q)
  omega
theorem orQ_ok (a b : Int) : cmp_Or ([a, b] : List Int) = some (if a ≠ 0 then a else b) := by
  unfold cmp_Or
  by_cases ha : a = 0
  · subst ha
    have e1 : cmp_Or.l1 [0, b] 0 = some (.next 1) := rfl
    by_cases hb : b = 0
    · subst hb
      rw [(Run.next e1 (Run.next (s' := 2) rfl (Run.done (o := .next ()) rfl))).ok (by decide)]; rfl
    · have e2 : cmp_Or.l1 [0, b] 1 = some (.done (.done b)) := by
        have g : gt ([0, b] : List Int) 1 = b := rfl
        unfold cmp_Or.l1
        rw [if_pos (by rfl), if_pos ⟨by decide, by show (1 : Int) < 2; decide⟩, g, if_pos (by simp [hb])]
      rw [(Run.next e1 (Run.done e2)).ok (by decide)]; simp [seqF]
  · have e1 : cmp_Or.l1 [a, b] 0 = some (.done (.done a)) := by
      have g : gt ([a, b] : List Int) 0 = a := rfl
      unfold cmp_Or.l1
      rw [if_pos (by rfl), if_pos ⟨by decide, by show (0 : Int) < 2; decide⟩, g, if_pos (by simp [ha])]
    rw [(Run.done e1).ok (by decide)]; simp [seqF, ha]
theorem wcmp_ok {w v : num_Wide} (hw : okW w) (hv : okW v) : Has (Wide_Cmp w v) fun c => (c < 0 ↔ wv w < wv v) ∧ (c > 0 ↔ wv v < wv w) := by
  have w0 := hw.l0; have w1 := hw.l1; have v0 := hv.l0; have v1 := hv.l1
  unfold Wide_Cmp
  refine (compareQ_ok _ _).bind fun a ha => (compareQ_ok _ _).bind fun b hb => ?_
  rw [orQ_ok]
  refine Has.ret ?_
  unfold wv
  rcases ha with ⟨h, rfl⟩ | ⟨h, rfl⟩ | ⟨h, rfl⟩
  · simp; omega
  · rcases hb with ⟨g, rfl⟩ | ⟨g, rfl⟩ | ⟨g, rfl⟩ <;> simp <;> omega
  · simp; omega
/-- The multiples that may do. -/
structure okR (r : change_ratios) : Prop where
  a : okI r.lo
  b : okI r.hi
  c : okI r.under
  d : okI r.above
structure KD (k d : Int) : Prop where
  k1 : 1 ≤ k
  k2 : k ≤ 1000000
  d1 : 1 ≤ d
structure invR (k d : Int) (r : change_ratios) : Prop where
  u : 1 ≤ r.under
  a : 1 ≤ r.above
  lo : r.lo * d ≤ k * r.under
  hi : k * r.above ≤ r.hi * d
theorem atMost_ok {r : change_ratios} {a b : Int} (hr : okR r) (ha : -2305843009213693952 ≤ a ∧ a ≤ 2305843009213693952) (hb : -2305843009213693952 ≤ b ∧ b ≤ 2305843009213693952) : Has (ratios_atMost r a b) fun q => okR q.2 ∧ ∀ k d : Int, 1 ≤ d → invR k d r → k * a ≤ b * d → q.1 = true ∧ invR k d q.2 := by
  have oa : okI a := by unfold okI; omega
  have ob : okI b := by unfold okI; omega
  unfold ratios_atMost
  rw [Int.zero_sub, Int.zero_sub, w6_in (n := -b) (by omega), w6_in (n := -a) (by omega)]
  by_cases h0 : a = 0
  · subst h0
    refine Has.eq (a := (decide (b ≥ 0), r)) (by simp [seqF]) ⟨hr, fun k d hd hk h => ⟨decide_eq_true (by
      rw [Int.mul_zero] at h
      rcases Int.lt_or_le b 0 with q | q
      · have := Int.mul_neg_of_neg_of_pos q (show 0 < d by omega); omega
      · exact q), hk⟩⟩
  · refine Has.seq (P := fun t : Step change_ratios (Bool × change_ratios) => ∃ q, t = .next q ∧ okR q ∧ ∀ k d : Int, 1 ≤ d → invR k d r → k * a ≤ b * d → invR k d q) ?_ (fun q ⟨q', e, h1, h2⟩ => by cases e; exact Has.ret ⟨h1, fun k d hd hk h => ⟨rfl, h2 k d hd hk h⟩⟩) (fun o ⟨q', e, _⟩ => by cases e)
    refine Has.neg (by simp [h0]) (Has.ite (fun h => ?_) fun h => ?_)
    · have h : a > 0 := of_decide_eq_true h
      refine (product_ok b r.above ob hr.d).bind fun p ⟨p1, p2, _⟩ => (product_ok r.hi a hr.b oa).bind fun q ⟨q1, q2, _⟩ => (wcmp_ok p1 q1).bind fun c ⟨c1, c2⟩ => ?_
      refine Has.ite (fun hc => Has.ret ⟨_, rfl, ⟨hr.a, ob, hr.c, oa⟩, fun k d hd hk hkb => ⟨hk.u, by simp only []; omega, hk.lo, hkb⟩⟩) fun hc => Has.ret ⟨r, rfl, hr, fun k d hd hk _ => hk⟩
    · have h : a < 0 := by have : ¬ a > 0 := fun q => h (decide_eq_true q); omega
      refine (product_ok (-b) r.under (by unfold okI; omega) hr.c).bind fun p ⟨p1, p2, _⟩ => (product_ok r.lo (-a) hr.a (by unfold okI; omega)).bind fun q ⟨q1, q2, _⟩ => (wcmp_ok p1 q1).bind fun c ⟨c1, c2⟩ => ?_
      refine Has.ite (fun hc => Has.ret ⟨_, rfl, ⟨by unfold okI; simp only []; omega, hr.b, by unfold okI; simp only []; omega, hr.d⟩, fun k d hd hk hkb => ⟨by simp only []; omega, hk.a, ?_, hk.hi⟩⟩) fun hc => Has.ret ⟨r, rfl, hr, fun k d hd hk _ => hk⟩
      simp only []
      rw [Int.mul_neg, Int.neg_mul]; omega
def ax (b : Box) (i : Int) : Bound := gt ([b.X, b.Y, b.Z] : List Bound) i
def okBox (b : Box) : Prop := b.X.ok ∧ b.Y.ok ∧ b.Z.ok
theorem ax_ok {b : Box} (h : okBox b) {i : Int} (i0 : 0 ≤ i) (i1 : i < 3) : (ax b i).ok := by
  have : i = 0 ∨ i = 1 ∨ i = 2 := by omega
  rcases this with rfl | rfl | rfl
  · exact h.1
  · exact h.2.1
  · exact h.2.2
/-- A multiple of a direction of one box may lie in another one. -/
def shareK (k d : Int) (a b : Box) : Prop := ∀ i : Int, 0 ≤ i → i < 3 → (ax a i).Unknown = true ∨ (ax b i).Unknown = true ∨ (k * (ax a i).Lo ≤ (ax b i).Hi * d ∧ (ax b i).Lo * d ≤ k * (ax a i).Hi)
theorem share_ok {a b : Box} (ha : okBox a) (hb : okBox b) : Has (change_Share a b) fun r => ∀ k d : Int, KD k d → shareK k d a b → r = true := by
  unfold change_Share
  refine Has.seq (P := fun t : Step change_ratios Bool => (∃ r, t = .next r ∧ okR r ∧ ∀ k d : Int, KD k d → shareK k d a b → invR k d r) ∨ (t = .done false ∧ ∀ k d : Int, KD k d → ¬ shareK k d a b)) ?_ (fun r hr => ?_) fun o ho => ?_
  · refine Has.loop (fun s : change_ratios × Int => 0 ≤ s.2 ∧ s.2 ≤ 3 ∧ okR s.1 ∧ ∀ k d : Int, KD k d → shareK k d a b → invR k d s.1) (fun s => (3 - s.2).toNat) _ ⟨Int.le_refl _, by decide, ⟨by unfold okI; decide, by unfold okI; decide, by unfold okI; decide, by unfold okI; decide⟩, fun k d hd _ => ⟨by decide, by decide, by have := hd.k1; simp only []; omega, by have := hd.k2; have := hd.d1; simp only []; omega⟩⟩ (by decide) fun s ⟨s0, s1, s2, s3⟩ => ?_
    unfold change_Share.l1
    refine Has.ite (fun hi => ?_) fun hi => Has.ret (.done (.inl ⟨s.1, rfl, s2, s3⟩))
    have hi : s.2 < 3 := of_decide_eq_true hi
    have oA := ax_ok ha s0 hi
    have oB := ax_ok hb s0 hi
    have eA : gt ([a.X, a.Y, a.Z] : List Bound) s.2 = ax a s.2 := rfl
    have eB : gt ([b.X, b.Y, b.Z] : List Bound) s.2 = ax b s.2 := rfl
    rw [eA, eB, check_ok oA, check_ok oB, w6_in (n := s.2 + 1) (by omega)]
    simp only [Option.bind_some, bne_self_eq_false, Bool.false_eq_true, if_false]
    have a1 := oA.lo; have a2 := oA.le; have a3 := oA.hi; have b1 := oB.lo; have b2 := oB.le; have b3 := oB.hi
    refine Has.seq (P := fun t : Step change_ratios (Step (change_ratios × Int) (Step change_ratios Bool)) => (∃ r, t = .next r ∧ okR r ∧ ∀ k d : Int, KD k d → shareK k d a b → invR k d r) ∨ (t = .done (.done (.done false)) ∧ ∀ k d : Int, KD k d → ¬ shareK k d a b)) (Has.chk ⟨s0, hi⟩ (Has.chk ⟨s0, hi⟩ ?_)) (fun r hr => ?_) fun o ho => ?_
    · refine Has.bind (P := fun z => z = ((ax a s.2).Unknown || (ax b s.2).Unknown)) (by cases (ax a s.2).Unknown <;> exact Has.ret (by simp)) fun z hz => ?_
      refine Has.ite (fun h => Has.ret (.inl ⟨s.1, rfl, s2, s3⟩)) fun h => ?_
      have hu : (ax a s.2).Unknown = false ∧ (ax b s.2).Unknown = false := by rw [hz] at h; simpa using h
      rw [Int.zero_sub, Int.zero_sub, w6_in (n := -(ax a s.2).Hi) (by omega), w6_in (n := -(ax b s.2).Lo) (by omega)]
      have two : ∀ k d : Int, shareK k d a b → k * (ax a s.2).Lo ≤ (ax b s.2).Hi * d ∧ k * -(ax a s.2).Hi ≤ -(ax b s.2).Lo * d := fun k d hk => by
        rcases hk s.2 s0 hi with e | e | ⟨e1, e2⟩
        · rw [hu.1] at e; cases e
        · rw [hu.2] at e; cases e
        · rw [Int.mul_neg, Int.neg_mul]; omega
      refine Has.bind (P := fun z : change_ratios × Bool => (z.2 = false ∧ okR z.1 ∧ ∀ k d : Int, KD k d → shareK k d a b → invR k d z.1) ∨ (z.2 = true ∧ ∀ k d : Int, KD k d → ¬ shareK k d a b)) ?_ fun z hz => ?_
      · refine (atMost_ok (a := (ax a s.2).Lo) (b := (ax b s.2).Hi) s2 (by omega) (by omega)).bind fun q ⟨q1, q2⟩ => ?_
        refine Has.ite (fun hq => Has.ret (.inr ⟨rfl, fun k d hd hk => ?_⟩)) fun hq => ?_
        · have := (q2 k d hd.d1 (s3 k d hd hk) (two k d hk).1).1
          rw [this] at hq; cases hq
        · refine (atMost_ok (a := -(ax a s.2).Hi) (b := -(ax b s.2).Lo) q1 (by omega) (by omega)).bind fun p ⟨p1, p2⟩ => Has.ret ?_
          cases hp : p.1 with
          | true => exact .inl ⟨rfl, p1, fun k d hd hk => (p2 k d hd.d1 (q2 k d hd.d1 (s3 k d hd hk) (two k d hk).1).2 (two k d hk).2).2⟩
          | false =>
            refine .inr ⟨rfl, fun k d hd hk => ?_⟩
            have := (p2 k d hd.d1 (q2 k d hd.d1 (s3 k d hd hk) (two k d hk).1).2 (two k d hk).2).1
            rw [hp] at this; cases this
      · rcases hz with ⟨z1, z2, z3⟩ | ⟨z1, z2⟩
        · refine Has.neg (by rw [z1]; decide) (Has.ret (.inl ⟨z.1, rfl, z2, z3⟩))
        · refine Has.pos z1 (Has.ret (.inr ⟨rfl, z2⟩))
    · rcases hr with ⟨r', e, h1, h2⟩ | ⟨e, _⟩
      · cases e
        exact Has.ret (.next ⟨by simp only []; omega, by simp only []; omega, h1, h2⟩ (by simp only []; omega))
      · cases e
    · rcases ho with ⟨r', e, _⟩ | ⟨e, h⟩
      · cases e
      · cases e; exact .done (.inr ⟨rfl, h⟩)
  · rcases hr with ⟨r', e, h1, h2⟩ | ⟨e, _⟩
    · cases e
      refine Has.bind (P := fun z => ∀ k d : Int, KD k d → shareK k d a b → z = true) (Has.ite (fun h => ?_) fun h => Has.ret fun k d hd hk => ?_) fun z hz => Has.ret hz
      · refine (product_ok r.lo r.above h1.a h1.d).bind fun p ⟨p1, p2, _⟩ => (product_ok r.hi r.under h1.b h1.c).bind fun q ⟨q1, q2, _⟩ => (wcmp_ok p1 q1).bind fun c ⟨c1, c2⟩ => Has.ret fun k d hd hk => ?_
        have iv := h2 k d hd hk
        have e1 := Int.mul_le_mul_of_nonneg_right iv.lo (show 0 ≤ r.above by have := iv.a; omega)
        have e2 := Int.mul_le_mul_of_nonneg_right iv.hi (show 0 ≤ r.under by have := iv.u; omega)
        have e3 : k * r.under * r.above = k * r.above * r.under := by rw [Int.mul_assoc, Int.mul_comm r.under, ← Int.mul_assoc]
        have e4 : r.lo * d * r.above = r.lo * r.above * d := by rw [Int.mul_assoc, Int.mul_comm d, ← Int.mul_assoc]
        have e5 : r.hi * d * r.under = r.hi * r.under * d := by rw [Int.mul_assoc, Int.mul_comm d, ← Int.mul_assoc]
        have e6 : r.lo * r.above ≤ r.hi * r.under := Int.le_of_mul_le_mul_right (by omega : r.lo * r.above * d ≤ r.hi * r.under * d) (by have := hd.d1; omega)
        refine decide_eq_true ?_
        rw [p2, q2] at c2
        rcases Int.lt_or_le 0 c with hc | hc
        · have := c2.1 hc; omega
        · exact hc
      · have iv := h2 k d hd hk
        have := Int.mul_le_mul_of_nonneg_right hd.k1 (show 0 ≤ r.above by have := iv.a; omega)
        have hh : ¬ r.hi > 0 := fun q => h (decide_eq_true q)
        have i1 := iv.hi; have i2 := iv.a
        have i3 := Int.mul_le_mul_of_nonneg_right (show r.hi ≤ 0 by omega) (show 0 ≤ d by have := hd.d1; omega)
        omega
    · cases e
  · rcases ho with ⟨r', e, _⟩ | ⟨e, h⟩
    · cases e
    · cases e; exact fun k d hd hk => absurd hk (h k d hd)
end Lf
/- Two bounds of which one is unknown. -/
namespace Lf
open Go Go.Abs
set_option linter.unusedVariables false
set_option linter.unusedSimpArgs false
theorem vague_ok {a b : Bound} (ha : a.ok) (hb : b.ok) : bound_vague a b = some (a.Unknown || b.Unknown) := by
  unfold bound_vague; rw [norm_ok ha, norm_ok hb]; cases h : a.Unknown <;> simp [h]
end Lf
/- Rows of two nights: near, kind, Between. -/
namespace Lf
open Go Go.Abs
set_option linter.unusedVariables false
set_option linter.unusedSimpArgs false
def okRow (r : Row) : Prop := okBox r.Box ∧ r.Flux.ok
theorem chk3 (l : List Row) (s2 : Int) (hb : okBox (gt l s2).Box) : Has (loopF (change_check.l2 l s2) 0) fun o => o = .next () := by
  refine Has.loop (fun s : Int => 0 ≤ s ∧ s ≤ 3) (fun s => (3 - s).toNat) _ ⟨Int.le_refl _, by decide⟩ (by decide) fun s ⟨s0, s1⟩ => ?_
  unfold change_check.l2
  refine Has.letF (Has.ite (fun h => ?_) fun h => Has.ret (.done rfl))
  have h : s < 3 := of_decide_eq_true h
  refine Has.chk ⟨s0, h⟩ ?_
  have eA : gt ([(gt l s2).Box.X, (gt l s2).Box.Y, (gt l s2).Box.Z] : List Bound) s = ax (gt l s2).Box s := rfl
  rw [eA, check_ok (ax_ok hb s0 h), w6_in (n := s + 1) (by omega)]
  exact Has.ret (.next ⟨by omega, by omega⟩ (by omega))
theorem rows_ok {l : List Row} (h : ∀ r ∈ l, okRow r) (hl : l.length ≤ 200) : change_check l = some 0 := by
  apply Has.val
  unfold change_check
  refine Has.neg (by simp; omega) ?_
  refine Has.seq (P := fun t : Step Unit Int => t = .next ()) ?_ (fun _ _ => Has.ret rfl) fun o ho => by cases ho
  refine Has.loop (fun s : Int => 0 ≤ s ∧ s ≤ l.length) (fun s => (l.length - s).toNat) _ ⟨Int.le_refl _, by omega⟩ (by omega) fun s ⟨s0, s1⟩ => ?_
  unfold change_check.l1
  refine Has.ite (fun hi => ?_) fun hi => Has.ret (.done rfl)
  have hi : s < l.length := of_decide_eq_true hi
  have ok := h _ (gt_mem l s ⟨s0, hi⟩)
  refine Has.chk ⟨s0, hi⟩ (Has.seq (chk3 l s ok.1) (fun _ _ => ?_) fun o ho => by cases ho)
  rw [check_ok ok.2, w6_in (n := s + 1) (by omega)]
  exact Has.ret (.next ⟨by omega, by omega⟩ (by omega))
def forced (a b : Box) : Prop := ∃ k d : Int, KD k d ∧ shareK k d a b
theorem nearI_ok {r : Row} (hr : okBox r.Box) : ∀ (t : List Row) (j : Int) (xs : List Int), (∀ s ∈ t, okBox s.Box) → Has (change_nearI r t j xs) fun XS => (∀ y ∈ XS, y ∈ xs ∨ (j ≤ y ∧ y < j + t.length)) ∧ (∀ y ∈ xs, y ∈ XS) ∧ ∀ (k : Nat) s, t[k]? = some s → forced r.Box s.Box → (j + k) ∈ XS
  | [], j, xs, _ => by rw [change_nearI]; exact Has.ret ⟨fun y h => .inl h, fun y h => h, fun k s h => by simp at h⟩
  | s :: t, j, xs, h => by
    rw [change_nearI]
    refine (share_ok hr (h s List.mem_cons_self)).bind fun b hb => ?_
    refine (nearI_ok hr t (j + 1) _ (fun s hs => h s (List.mem_cons_of_mem _ hs))).mono fun XS ⟨h1, h2, h3⟩ => ?_
    refine ⟨fun y hy => ?_, fun y hy => ?_, fun k s' hk hf => ?_⟩
    · rcases h1 y hy with q | q
      · cases b with
        | true =>
          rw [if_pos rfl] at q
          rcases List.mem_append.1 q with q | q
          · exact .inl q
          · right; rw [List.mem_singleton.1 q, List.length_cons]; omega
        | false => rw [if_neg (by decide)] at q; exact .inl q
      · right; rw [List.length_cons]; omega
    · refine h2 y ?_
      cases b with
      | true => rw [if_pos rfl]; exact List.mem_append_left _ hy
      | false => rw [if_neg (by decide)]; exact hy
    · cases k with
      | zero =>
        obtain ⟨k, d, kd, hs⟩ := hf
        have e : s = s' := by simpa using hk
        subst e
        have := hb k d kd hs
        subst this
        refine h2 _ ?_
        rw [if_pos rfl]; simp
      | succ k =>
        have := h3 k s' (by simpa using hk) hf
        rw [show j + ((k + 1 : Nat) : Int) = j + 1 + k by omega]; exact this
theorem nearL_ok {m : List Row} (hm : ∀ s ∈ m, okBox s.Box) : ∀ l : List Row, (∀ r ∈ l, okBox r.Box) → Has (change_nearL m l) fun R => R.length = l.length ∧ ∀ (i : Nat) r XS, l[i]? = some r → R[i]? = some XS → (∀ y ∈ XS, 0 ≤ y ∧ y < m.length) ∧ ∀ (k : Nat) s, m[k]? = some s → forced r.Box s.Box → (k : Int) ∈ XS
  | [], _ => by rw [change_nearL]; exact Has.ret ⟨rfl, fun i r XS h => by simp at h⟩
  | r :: l, h => by
    rw [change_nearL]
    refine (nearI_ok (h r List.mem_cons_self) m 0 [] hm).bind fun XS ⟨h1, _, h3⟩ => ?_
    refine (nearL_ok hm l (fun r hr => h r (List.mem_cons_of_mem _ hr))).bind fun R ⟨h4, h5⟩ => Has.ret ⟨by simp [h4], fun i r' XS' hi hX => ?_⟩
    cases i with
    | zero =>
      have e1 : r = r' := by simpa using hi
      have e2 : XS = XS' := by simpa using hX
      subst e1; subst e2
      exact ⟨fun y hy => by rcases h1 y hy with q | q
                            · simp at q
                            · omega, fun k s hk hf => by have := h3 k s hk hf; rwa [Int.zero_add] at this⟩
    | succ i => exact h5 i r' XS' (by simpa using hi) (by simpa using hX)
theorem near_ok {l m : List Row} (hl : ∀ r ∈ l, okBox r.Box) (hm : ∀ s ∈ m, okBox s.Box) (h1 : l.length ≤ 64) (h2 : m.length ≤ 64) : Has (change_near l m) fun R => R.length = l.length ∧ ∀ i : Int, 0 ≤ i → i < l.length → (∀ y ∈ gt R i, 0 ≤ y ∧ y < m.length) ∧ ∀ k : Int, 0 ≤ k → k < m.length → forced (gt l i).Box (gt m k).Box → k ∈ gt R i := by
  unfold change_near
  refine Has.chk ⟨h1, h2⟩ ((nearL_ok hm l hl).mono fun R ⟨h3, h4⟩ => ⟨h3, fun i i0 i1 => ?_⟩)
  have hR := gt_def R i ⟨i0, by omega⟩
  have hL := gt_def l i ⟨i0, i1⟩
  obtain ⟨a, b⟩ := h4 i.toNat _ _ (List.getElem?_eq_getElem (by omega)) (List.getElem?_eq_getElem (by omega))
  rw [hR, hL]
  refine ⟨a, fun k k0 k1 hf => ?_⟩
  have := b k.toNat _ (List.getElem?_eq_getElem (by omega)) (by rw [← gt_def m k ⟨k0, k1⟩]; exact hf)
  rwa [Int.toNat_of_nonneg k0] at this
/-- Bounds that hold one light. -/
def meets (a b : Bound) : Prop := a.Unknown = false ∧ b.Unknown = false ∧ a.Lo ≤ b.Hi ∧ b.Lo ≤ a.Hi
theorem kind_ok {o w : Row} (ho : o.Flux.ok) (hw : w.Flux.ok) (h : meets o.Flux w.Flux) : change_kind o w = some 7 := by
  obtain ⟨u1, u2, h1, h2⟩ := h
  unfold change_kind bound_Cmp
  have e1 : ¬ w.Flux.Hi < o.Flux.Lo := by omega
  have e2 : ¬ w.Flux.Lo > o.Flux.Hi := by omega
  rw [vague_ok hw ho, u1, u2]
  simp [e1, e2, seqF]
structure pairOK (o w : Row) : Prop where
  ro : okRow o
  rw_ : okRow w
  f : forced o.Box w.Box
  b : forced w.Box o.Box
  l : meets o.Flux w.Flux
structure nights (n : Int) (old now : List Row) : Prop where
  lo : (old.length : Int) = n
  ln : (now.length : Int) = n
  p : ∀ i : Int, 0 ≤ i → i < n → pairOK (gt old i) (gt now i)
theorem mem_gt {α : Type} [Cl α] {l : List α} {x : α} (h : x ∈ l) : ∃ i : Int, 0 ≤ i ∧ i < l.length ∧ gt l i = x := by
  obtain ⟨i, hi, e⟩ := List.mem_iff_getElem.1 h
  exact ⟨i, by omega, by omega, by rw [gt_def l i ⟨by omega, by omega⟩]; simpa using e⟩
theorem between_ok {n : Int} {old now : List Row} (h : nights n old now) (hn : n ≤ 64) : Has (change_Between old now) fun r => r.2 = 0 ∧ (r.1.length : Int) = n ∧ ∀ c ∈ r.1, c.Kind = 7 ∨ c.Kind = 8 := by
  obtain ⟨lo, ln, p⟩ := h
  have okO : ∀ r ∈ old, okRow r := fun r hr => by
    obtain ⟨i, i0, i1, rfl⟩ := mem_gt hr
    exact (p i i0 (by omega)).ro
  have okN : ∀ r ∈ now, okRow r := fun r hr => by
    obtain ⟨i, i0, i1, rfl⟩ := mem_gt hr
    exact (p i i0 (by omega)).rw_
  unfold change_Between
  rw [rows_ok okO (by omega), rows_ok okN (by omega)]
  simp only [Option.bind_some, bne_self_eq_false, Bool.false_eq_true, if_false]
  refine (near_ok (fun r hr => (okN r hr).1) (fun r hr => (okO r hr).1) (by omega) (by omega)).bind fun r5 ⟨l5, h5⟩ => ?_
  refine (near_ok (fun r hr => (okO r hr).1) (fun r hr => (okN r hr).1) (by omega) (by omega)).bind fun r6 ⟨l6, h6⟩ => ?_
  have m5 : ∀ i : Int, 0 ≤ i → i < n → i ∈ gt r5 i := fun i i0 i1 => (h5 i i0 (by omega)).2 i i0 (by omega) (p i i0 i1).b
  have m6 : ∀ i : Int, 0 ≤ i → i < n → i ∈ gt r6 i := fun i i0 i1 => (h6 i i0 (by omega)).2 i i0 (by omega) (p i i0 i1).f
  refine Has.bind (P := fun out : List change_Change => (out.length : Int) = n ∧ ∀ c ∈ out, c.Kind = 7 ∨ c.Kind = 8) ?_ fun out ⟨o1, o2⟩ => ?_
  · refine Has.loop (fun s : (List change_Change) × Int => 0 ≤ s.2 ∧ s.2 ≤ n ∧ (s.1.length : Int) = s.2 ∧ ∀ c ∈ s.1, c.Kind = 7 ∨ c.Kind = 8) (fun s => (n - s.2).toNat) _ ⟨Int.le_refl _, by simp only []; omega, rfl, fun c hc => by simp at hc⟩ (by simp only []; omega) fun s ⟨s0, s1, s2, s3⟩ => ?_
    unfold change_Between.l1
    refine Has.ite (fun hi => ?_) fun hi => Has.ret (.done ⟨by have hi : ¬ s.2 < (r5.length : Int) := fun q => hi (decide_eq_true q); omega, s3⟩)
    have hi : s.2 < n := by have := of_decide_eq_true hi; omega
    have mm := m5 s.2 s0 hi
    have vv := (h5 s.2 s0 (by omega)).1
    generalize gt r5 s.2 = L at mm vv
    have pos : 1 ≤ L.length := List.length_pos_of_mem mm
    have fin : ∀ c : change_Change, (c.Kind = 7 ∨ c.Kind = 8) → Has (if roomy (s.1.length + ([c] : List change_Change).length) 24 = true then some (s.1 ++ ([c] : List change_Change)) else none) fun z => (z.length : Int) = s.2 + 1 ∧ ∀ c ∈ z, c.Kind = 7 ∨ c.Kind = 8 := fun c hc => by
      refine Has.chk (roomyI (by simp; omega) (by simp; omega)) (Has.ret ⟨by simp; omega, fun x hx => ?_⟩)
      rcases List.mem_append.1 hx with q | q
      · exact s3 x q
      · rw [List.mem_singleton.1 q]; exact hc
    refine Has.bind (P := fun z : List change_Change => (z.length : Int) = s.2 + 1 ∧ ∀ c ∈ z, c.Kind = 7 ∨ c.Kind = 8) (Has.chk ⟨s0, by omega⟩ (Has.neg (by simp; intro e; rw [e] at pos; simp at pos) ?_)) fun z ⟨z1, z2⟩ => ?_
    · have g0 := vv _ (gt_mem L 0 ⟨Int.le_refl _, by omega⟩)
      refine Has.bind (P := fun z => z = false → L.length = 1) (Has.ite (fun hh => Has.ret (fun q => nomatch q)) fun hh => ?_) fun z hz => Has.ite (fun hh => fin _ (.inr rfl)) fun hh => ?_
      · have hh : ¬ (L.length : Int) > 1 := fun q => hh (decide_eq_true q)
        refine Has.chk ⟨Int.le_refl _, by omega⟩ (Has.chk ⟨g0.1, by omega⟩ (Has.ret fun _ => by omega))
      · have l1 := hz (by simpa using hh)
        obtain ⟨y, rfl⟩ := List.length_eq_one_iff.1 l1
        have ey := List.mem_singleton.1 mm
        have g : gt [y] 0 = s.2 := by rw [ey]; rfl
        rw [g]
        have pp := p s.2 s0 hi
        refine Has.chk ⟨Int.le_refl _, by simp⟩ (Has.chk ⟨s0, by omega⟩ (Has.chk ⟨s0, by omega⟩ ?_))
        rw [kind_ok pp.ro.2 pp.rw_.2 pp.l]
        exact fin _ (.inl rfl)
    · rw [w6_in (n := s.2 + 1) (by omega)]
      exact Has.ret (.next ⟨by simp only []; omega, by simp only []; omega, z1, z2⟩ (by simp only []; omega))
  · refine Has.bind (P := fun z => z = out) ?_ fun z hz => Has.ret (by rw [hz]; exact ⟨rfl, o1, o2⟩)
    refine Has.loop (fun s : (List change_Change) × Int => 0 ≤ s.2 ∧ s.2 ≤ n ∧ s.1 = out) (fun s => (n - s.2).toNat) _ ⟨Int.le_refl _, by simp only []; omega, rfl⟩ (by simp only []; omega) fun s ⟨s0, s1, s2⟩ => ?_
    unfold change_Between.l2
    refine Has.ite (fun hi => ?_) fun hi => Has.ret (.done s2)
    have hi : s.2 < n := by have := of_decide_eq_true hi; omega
    have pos : 1 ≤ (gt r6 s.2).length := List.length_pos_of_mem (m6 s.2 s0 hi)
    refine Has.bind (P := fun z => z = out) (Has.chk ⟨s0, by omega⟩ (Has.neg (by simp; intro e; rw [e] at pos; simp at pos) (Has.ret s2))) fun z hz => ?_
    rw [w6_in (n := s.2 + 1) (by omega)]
    exact Has.ret (.next ⟨by simp only []; omega, by simp only []; omega, hz⟩ (by simp only []; omega))
end Lf
/- Sums of bounds; what both admit. -/
namespace Lf
open Go Go.Abs
set_option linter.unusedVariables false
set_option linter.unusedSimpArgs false
theorem add_known {a b : Bound} (ha : a.ok) (hb : b.ok) (ua : a.Unknown = false) (ub : b.Unknown = false) (h1 : -1152921504606846976 ≤ a.Lo + b.Lo) (h2 : a.Hi + b.Hi ≤ 1152921504606846976) : bound_Add a b = some ⟨a.Lo + b.Lo, a.Hi + b.Hi, false⟩ := by
  have := ha.le; have := hb.le
  unfold bound_Add
  rw [vague_ok ha hb, ua, ub]
  simp only [Option.bind_some, Bool.or_self, Bool.false_eq_true, if_false]
  rw [w6_in (by omega), w6_in (by omega), of_ok h1 (by omega) h2]; rfl
theorem add_vague {a b : Bound} (ha : a.ok) (hb : b.ok) (u : (a.Unknown || b.Unknown) = true) : bound_Add a b = some ⟨0, 0, true⟩ := by
  unfold bound_Add
  rw [vague_ok ha hb, u]; rfl
end Lf
/- Differences of bounds; what both admit. -/
namespace Lf
open Go Go.Abs
set_option linter.unusedVariables false
set_option linter.unusedSimpArgs false
theorem neg_ok {b : Bound} (h : b.ok) : bound_Neg b = some ⟨-b.Hi, -b.Lo, b.Unknown⟩ := by
  obtain ⟨h1, h2, h3, h4⟩ := h
  unfold bound_Neg
  rw [norm_ok ⟨h1, h2, h3, h4⟩]
  simp only [Option.bind_some, Int.zero_sub]
  rw [w6_in (by omega), w6_in (by omega)]
theorem sub_known {a b : Bound} (ha : a.ok) (hb : b.ok) (ua : a.Unknown = false) (ub : b.Unknown = false) (h1 : -1152921504606846976 ≤ a.Lo - b.Hi) (h2 : a.Hi - b.Lo ≤ 1152921504606846976) : bound_Sub a b = some ⟨a.Lo - b.Hi, a.Hi - b.Lo, false⟩ := by
  unfold bound_Sub
  rw [neg_ok hb]
  simp only [Option.bind_some]
  rw [add_known ha (b := ⟨-b.Hi, -b.Lo, b.Unknown⟩) ⟨(fun h => by rw [ub] at h; cases h), by have := hb.hi; simp only []; omega, by have := hb.le; simp only []; omega, by have := hb.lo; simp only []; omega⟩ ua ub (by simp only []; omega) (by simp only []; omega)]
  rfl
end Lf
/- Fields of light, and bounds of it. -/
namespace Lf
open Go Go.Abs
set_option linter.unusedVariables false
set_option linter.unusedSimpArgs false
/-- A valid field. -/
structure okF (c : Cells) : Prop where
  w0 : 1 ≤ c.W
  w1 : c.W ≤ 32
  h0 : 1 ≤ c.H
  h1 : c.H ≤ 32
  len : (c.At.length : Int) = c.W * c.H
  cell : ∀ b ∈ c.At, b.ok ∧ -1099511627776 ≤ b.Lo ∧ b.Hi ≤ 1099511627776
theorem area {w h : Int} (w0 : 1 ≤ w) (w1 : w ≤ 32) (h0 : 1 ≤ h) (h1 : h ≤ 32) : 1 ≤ w * h ∧ w * h ≤ 1024 := by
  have a := Int.mul_le_mul_of_nonneg_right w1 (show 0 ≤ h by omega)
  have b := Int.mul_le_mul_of_nonneg_right w0 (show 0 ≤ h by omega)
  omega
theorem okF.n1 {c : Cells} (h : okF c) : 1 ≤ (c.At.length : Int) ∧ (c.At.length : Int) ≤ 1024 := by rw [h.len]; exact area h.w0 h.w1 h.h0 h.h1
theorem findCheck_ok {c : Cells} (h : okF c) : find_Check c = some 0 := by
  have hw0 := h.w0; have hw1 := h.w1; have hh0 := h.h0; have hh1 := h.h1
  have hn := h.n1
  have e : w6 (c.W * c.H) = (c.At.length : Int) := by rw [← h.len]; exact w6_in (by omega)
  apply Has.val
  unfold find_Check
  rw [e]
  have g1 : decide (c.W < 1) = false := decide_eq_false (by omega)
  have g2 : decide (c.W > 32) = false := decide_eq_false (by omega)
  have g3 : decide (c.H < 1) = false := decide_eq_false (by omega)
  have g4 : decide (c.H > 32) = false := decide_eq_false (by omega)
  simp only [g1, g2, g3, g4, ite_or, Bool.false_or, bne_self_eq_false, Option.bind_some, Bool.false_eq_true, if_false]
  refine Has.seq (P := fun t : Step Unit Int => t = .next ()) ?_ (fun _ _ => Has.ret rfl) (fun o ho => by cases ho)
  refine Has.loop (fun i : Int => 0 ≤ i ∧ i ≤ c.At.length) (fun i => (c.At.length - i).toNat) (fun t : Step Unit Int => t = .next ()) ⟨Int.le_refl _, by omega⟩ (by omega) fun i ⟨i1, i2⟩ => ?_
  unfold find_Check.l1
  refine Has.ite (fun hi => ?_) fun hi => Has.ret (.done rfl)
  have hi : i < c.At.length := of_decide_eq_true hi
  obtain ⟨b1, b2, b3⟩ := h.cell _ (gt_mem c.At i ⟨i1, hi⟩)
  refine Has.chk ⟨i1, hi⟩ ?_
  rw [check_ok b1]
  have g5 : decide ((gt c.At i).Lo < (-1099511627776)) = false := decide_eq_false (by omega)
  have g6 : decide ((gt c.At i).Hi > 1099511627776) = false := decide_eq_false (by omega)
  simp only [Option.bind_some, bne_self_eq_false, Bool.false_eq_true, if_false, g5, g6, ite_or, Bool.false_or]
  rw [w6_in (by omega)]
  exact Has.ret (.next ⟨by omega, by omega⟩ (by omega))
end Lf
/- Differences of whole fields. -/
namespace Lf
open Go Go.Abs
set_option linter.unusedVariables false
set_option linter.unusedSimpArgs false
def small (c : Cells) (M : Int) : Prop := ∀ b ∈ c.At, b.ok ∧ -M ≤ b.Lo ∧ b.Hi ≤ M
theorem limited_ok {b : Bound} {B : Int} (h1 : -B ≤ b.Lo) (h2 : b.Hi ≤ B) (hB : B ≤ 1099511627776) : differ_limited b = some b := by
  have g1 : decide (b.Lo < (-1099511627776)) = false := decide_eq_false (by omega)
  have g2 : decide (b.Hi > 1099511627776) = false := decide_eq_false (by omega)
  unfold differ_limited
  simp [g1, g2]
/-- The difference of two bounds. -/
def subB (a b : Bound) : Bound := if (a.Unknown || b.Unknown) = true then ⟨0, 0, true⟩ else ⟨a.Lo - b.Hi, a.Hi - b.Lo, false⟩
theorem subB_ok {a b : Bound} {M : Int} (ha : a.ok ∧ -M ≤ a.Lo ∧ a.Hi ≤ M) (hb : b.ok ∧ -M ≤ b.Lo ∧ b.Hi ≤ M) (M0 : 0 ≤ M) (hM : 2 * M ≤ 1152921504606846976) : bound_Sub a b = some (subB a b) ∧ (subB a b).ok ∧ -(2 * M) ≤ (subB a b).Lo ∧ (subB a b).Hi ≤ 2 * M := by
  obtain ⟨a1, a2, a3⟩ := ha
  obtain ⟨b1, b2, b3⟩ := hb
  have al := a1.le; have bl := b1.le
  unfold subB
  by_cases hu : (a.Unknown || b.Unknown) = true
  · rw [if_pos hu]
    refine ⟨?_, okNone, by simp only []; omega, by simp only []; omega⟩
    unfold bound_Sub
    rw [neg_ok b1]
    simp only [Option.bind_some]
    rw [add_vague (b := ⟨-b.Hi, -b.Lo, b.Unknown⟩) a1 ⟨fun e => by obtain ⟨p, q⟩ := b1.u e; simp only [p, q]; decide, by have := b1.hi; simp only []; omega, by simp only []; omega, by have := b1.lo; simp only []; omega⟩ hu]
    rfl
  · rw [if_neg hu]
    have hu : a.Unknown = false ∧ b.Unknown = false := by simpa using hu
    exact ⟨sub_known a1 b1 hu.1 hu.2 (by omega) (by omega), okKnown (by omega) (by omega) (by omega), by simp only []; omega, by simp only []; omega⟩
theorem dsub_ok {a b : Cells} {M : Int} (ha : okF a) (hb : okF b) (hw : a.W = b.W) (hh : a.H = b.H) (sa : small a M) (sb : small b M) (M0 : 0 ≤ M) (hM : 2 * M ≤ 1099511627776) :
    Has (differ_Sub a b) fun r => r.2 = 0 ∧ r.1.W = a.W ∧ r.1.H = a.H ∧ r.1.At.length = a.At.length ∧ allI r.1.At fun i c => c = subB (gt a.At i) (gt b.At i) := by
  have hn := ha.n1
  have hl : a.At.length = b.At.length := by have := ha.len; have := hb.len; rw [hw, hh] at *; omega
  unfold differ_Sub
  rw [findCheck_ok ha, findCheck_ok hb, hw, hh]
  simp only [Option.bind_some, bne_self_eq_false, Bool.false_eq_true, if_false]
  refine (Has.loop (fun s : List Bound × Int => 0 ≤ s.2 ∧ s.2 ≤ a.At.length ∧ (s.1.length : Int) = s.2 ∧ allI s.1 fun i c => c = subB (gt a.At i) (gt b.At i)) (fun s => (a.At.length - s.2).toNat)
    (fun l : List Bound => l.length = a.At.length ∧ allI l fun i c => c = subB (gt a.At i) (gt b.At i)) ⟨Int.le_refl _, by simp only []; omega, rfl, allI_nil⟩ (by simp only []; omega) fun s ⟨s1, s2, s3, s4⟩ => ?_).bind fun l ⟨l1, l2⟩ => Has.ret ⟨rfl, rfl, rfl, l1, l2⟩
  unfold differ_Sub.l1
  refine Has.ite (fun hi => ?_) fun hi => ?_
  · have hi : s.2 < a.At.length := of_decide_eq_true hi
    obtain ⟨e1, e2, e3, e4⟩ := subB_ok (sa _ (gt_mem a.At s.2 ⟨s1, hi⟩)) (sb _ (gt_mem b.At s.2 ⟨s1, by omega⟩)) M0 (by omega)
    rw [e1]
    simp only [Option.bind_some]
    rw [limited_ok e3 e4 hM, w6_in (n := s.2 + 1) (by omega)]
    refine Has.chk ⟨s1, hi⟩ (Has.chk ⟨s1, by omega⟩ (Has.chk (roomyI (by simp; omega) (by simp; omega)) (Has.ret (.next ⟨by simp only []; omega, by simp only []; omega, by simp; omega, allI_snoc s4 ?_⟩ (by simp only []; omega)))))
    rw [s3]
  · have hi : ¬ s.2 < a.At.length := fun q => hi (decide_eq_true q)
    exact Has.ret (.done ⟨by omega, s4⟩)
end Lf
/- The order in which find.Sure puts cells. -/
namespace Lf
open Go Go.Abs
set_option linter.unusedVariables false
set_option linter.unusedSimpArgs false
theorem or2_ok (a b : Int) : cmp_Or [a, b] = some (if a ≠ 0 then a else b) := by
  unfold cmp_Or
  by_cases ha : a = 0
  · subst ha
    by_cases hb : b = 0
    · subst hb
      rw [(Run.next (s' := 1) (by rfl) (Run.next (s' := 2) (by rfl) (Run.done (by rfl))) : Run (cmp_Or.l1 [0, 0]) 0 2 (Step.next ())).ok (by decide)]; rfl
    · have e : cmp_Or.l1 [0, b] 1 = some (.done (.done b)) := by
        unfold cmp_Or.l1
        have g : gt ([0, b] : List Int) 1 = b := rfl
        rw [g]; simp [hb]
      rw [(Run.next (s' := 1) (by rfl) (Run.done e) : Run (cmp_Or.l1 [0, b]) 0 1 (Step.done b)).ok (by decide)]; rfl
  · have e : cmp_Or.l1 [a, b] 0 = some (.done (.done a)) := by
      unfold cmp_Or.l1
      have g : gt ([a, b] : List Int) 0 = a := rfl
      rw [g]; simp [ha]
    rw [(Run.done e : Run (cmp_Or.l1 [a, b]) 0 0 (Step.done a)).ok (by decide), if_pos ha]; rfl
theorem compare_ok (a b : Int) : cmp_Compare a b = some (if a < b then -1 else if b < a then 1 else 0) := by
  unfold cmp_Compare cmp_isNaN
  simp only [Option.bind_some, bne_self_eq_false, Bool.false_eq_true, if_false, gt_iff_lt, decide_eq_true_eq]
  split
  · rfl
  · split <;> rfl
def kyF (c : Cells) (x : Int) : Int := (gt c.At x).Lo
def inF (c : Cells) (x : Int) : Prop := 0 ≤ x ∧ x < c.At.length
/-- The brighter cell first, of two alike the one that stands first. -/
def leF (c : Cells) (a b : Int) : Prop := kyF c b < kyF c a ∨ (kyF c a = kyF c b ∧ a ≤ b)
theorem leF.trans {c : Cells} {x y z : Int} (h : leF c x y) (k : leF c y z) : leF c x z := by unfold leF at *; omega
theorem leF.refl {c : Cells} (a : Int) : leF c a a := by unfold leF; omega
theorem order_lt {c : Cells} {a b : Int} (ha : inF c a) (hb : inF c b) : Has (find_Sure_1 a b c) fun r => (r < 0 → leF c a b) ∧ (¬ r < 0 → b ≤ a → leF c b a) := by
  unfold find_Sure_1
  refine Has.chk hb (Has.chk ha ?_)
  rw [compare_ok]
  simp only [Option.bind_some]
  refine Has.ret ?_
  unfold leF kyF
  split <;> (try split) <;> refine ⟨fun _ => ?_, fun _ _ => ?_⟩ <;> omega
end Lf
/- Insertion sort of a range by find.Sure's order: a permutation, sorted, nothing else touched. -/
namespace Lf
open Go Go.Abs
set_option linter.unusedVariables false
set_option linter.unusedSimpArgs false
/-- Sorted in a range. -/
def sortedIn (c : Cells) (xs : List Int) (a b : Int) : Prop := ∀ p q : Int, a ≤ p → p < q → q < b → leF c (gt xs p) (gt xs q)
/-- Another order of a range alone. -/
structure turnIn (xs ys : List Int) (a b : Int) : Prop where
  perm : ys.Perm xs
  out : ∀ p : Int, 0 ≤ p → (p < a ∨ b ≤ p) → gt ys p = gt xs p
  into : ∀ p : Int, a ≤ p → p < b → ∃ q : Int, a ≤ q ∧ q < b ∧ gt ys p = gt xs q
theorem turnIn.refl (xs : List Int) (a b : Int) : turnIn xs xs a b := ⟨List.Perm.refl _, fun _ _ _ => rfl, fun p p0 p1 => ⟨p, p0, p1, rfl⟩⟩
theorem turnIn.trans {xs ys zs : List Int} {a b : Int} (h : turnIn xs ys a b) (k : turnIn ys zs a b) : turnIn xs zs a b := ⟨k.perm.trans h.perm, fun p p0 hp => (k.out p p0 hp).trans (h.out p p0 hp), fun p p0 p1 => by
  obtain ⟨q, q0, q1, e⟩ := k.into p p0 p1
  obtain ⟨r, r0, r1, e'⟩ := h.into q q0 q1
  exact ⟨r, r0, r1, e.trans e'⟩⟩
theorem turnIn.len {xs ys : List Int} {a b : Int} (h : turnIn xs ys a b) : ys.length = xs.length := h.perm.length_eq
theorem turnIn.wide {xs ys : List Int} {a b c d : Int} (h : turnIn xs ys a b) (h0 : 0 ≤ c) (h1 : c ≤ a) (h2 : b ≤ d) : turnIn xs ys c d := ⟨h.perm, fun p p0 hp => h.out p p0 (by omega), fun p p0 p1 => by
  by_cases hp : a ≤ p ∧ p < b
  · obtain ⟨q, q0, q1, e⟩ := h.into p hp.1 hp.2
    exact ⟨q, by omega, by omega, e⟩
  · exact ⟨p, p0, p1, h.out p (by omega) (by omega)⟩⟩
theorem swap_turn (xs : List Int) {i j a b : Int} (i0 : 0 ≤ i) (j0 : 0 ≤ j) (i1 : i < xs.length) (j1 : j < xs.length) (ai : a ≤ i) (ib : i < b) (aj : a ≤ j) (jb : j < b) : turnIn xs ((xs.set i.toNat (gt xs j)).set j.toNat (gt xs i)) a b := by
  refine ⟨?_, fun p p0 hp => ?_, fun p p0 p1 => ?_⟩
  · rw [gt_def xs i ⟨i0, i1⟩, gt_def xs j ⟨j0, j1⟩]
    exact List.set_set_perm (by omega) (by omega)
  · rw [gt_set_ne j0 p0 (by omega), gt_set_ne i0 p0 (by omega)]
  · by_cases e1 : p = j
    · exact ⟨i, ai, ib, by rw [e1, gt_set_eq j0 (by simp only [List.length_set]; omega)]⟩
    · by_cases p00 : 0 ≤ p
      · by_cases e2 : p = i
        · exact ⟨j, aj, jb, by rw [e2, gt_set_ne j0 i0 (by omega), gt_set_eq i0 i1]⟩
        · exact ⟨p, p0, p1, by rw [gt_set_ne j0 p00 (Ne.symm e1), gt_set_ne i0 p00 (Ne.symm e2)]⟩
      · have hz : ∀ zs : List Int, gt zs p = gt zs 0 := fun zs => by simp only [gt]; congr 1; omega
        by_cases f1 : (0 : Int) = j
        · exact ⟨i, ai, ib, by rw [hz, f1, gt_set_eq j0 (by simp only [List.length_set]; omega)]⟩
        · by_cases f2 : (0 : Int) = i
          · exact ⟨j, aj, jb, by rw [hz, gt_set_ne j0 (Int.le_refl _) (Ne.symm f1), f2, gt_set_eq i0 i1]⟩
          · exact ⟨p, p0, p1, by rw [hz, gt_set_ne j0 (Int.le_refl _) (Ne.symm f1), gt_set_ne i0 (Int.le_refl _) (Ne.symm f2), hz]⟩
theorem insO_ok {c : Cells} (xs : List Int) (a b : Int) (a0 : 0 ≤ a) (ab : a ≤ b) (hb : b ≤ xs.length) (hl : xs.length ≤ 1000) (hx : ∀ x ∈ xs, inF c x) (hinc : ∀ p q : Int, a ≤ p → p < q → q < b → gt xs p < gt xs q) :
    Has (slices_insertionSortCmpFunc_Int_find_Sure_1 xs a b c) fun r => turnIn xs r a b ∧ sortedIn c r a b := by
  unfold slices_insertionSortCmpFunc_Int_find_Sure_1
  rw [w6_in (n := a + 1) (by omega)]
  refine Has.bind (P := fun r : List Int => turnIn xs r a b ∧ sortedIn c r a b) ?_ fun r hr => Has.ret hr
  refine Has.loop (fun t : List Int × Int => a + 1 ≤ t.2 ∧ (t.2 ≤ b ∨ t.2 = a + 1) ∧ turnIn xs t.1 a b ∧ sortedIn c t.1 a t.2 ∧ (∀ p, t.2 ≤ p → p < b → gt t.1 p = gt xs p) ∧ (∀ p, a ≤ p → p < t.2 → p < b → ∃ q, a ≤ q ∧ q < t.2 ∧ q < b ∧ gt t.1 p = gt xs q)) (fun t => (b - t.2).toNat) _
    ⟨Int.le_refl _, .inr rfl, turnIn.refl _ _ _, fun p q p0 pq q1 => (by have q1 : q < a + 1 := q1; omega), fun _ _ _ => rfl, fun p p0 p1 p2 => ⟨p, p0, p1, p2, rfl⟩⟩ (by simp only []; omega) fun t ⟨t1, t2, t3, t5, t6, t7⟩ => ?_
  unfold slices_insertionSortCmpFunc_Int_find_Sure_1.l1
  refine Has.ite (fun hi => ?_) fun hi => ?_
  · have hi : t.2 < b := of_decide_eq_true hi
    have tl := t3.len
    rw [w6_in (n := t.2 + 1) (by omega)]
    refine Has.bind (P := fun r : List Int => turnIn t.1 r a (t.2 + 1) ∧ sortedIn c r a (t.2 + 1)) ?_ fun r ⟨r1, r2⟩ => Has.ret (.next ⟨by simp only []; omega, by simp only []; omega, t3.trans (r1.wide a0 (Int.le_refl _) (by omega)), r2, fun p p0 p1 => ?_, fun p p0 p1 p2 => ?_⟩ (by simp only []; omega))
    · refine Has.loop (fun u : List Int × Int => a ≤ u.2 ∧ u.2 ≤ t.2 ∧ turnIn t.1 u.1 a (t.2 + 1) ∧ (∀ p q : Int, a ≤ p → p < q → q < t.2 + 1 → p ≠ u.2 → q ≠ u.2 → leF c (gt u.1 p) (gt u.1 q)) ∧ (∀ q : Int, u.2 < q → q < t.2 + 1 → leF c (gt u.1 u.2) (gt u.1 q)) ∧ (∀ p, a ≤ p → p < u.2 → gt u.1 p = gt t.1 p) ∧ gt u.1 u.2 = gt t.1 t.2) (fun u => u.2.toNat) _
        ⟨by simp only []; omega, Int.le_refl _, turnIn.refl _ _ _, fun p q p0 pq q1 n1 n2 => t5 p q p0 pq (by simp only [] at n2; omega), fun q q0 q1 => by simp only [] at q0; omega, fun _ _ _ => rfl, rfl⟩ (by simp only []; omega) fun u ⟨u0, u1, u2, u4, u5, u6, u7⟩ => ?_
      have ul := u2.len
      have hxu : ∀ x ∈ u.1, inF c x := fun x h => hx x (t3.perm.mem_iff.1 (u2.perm.mem_iff.1 h))
      unfold slices_insertionSortCmpFunc_Int_find_Sure_1.l2
      refine Has.bind (P := fun b : Bool => (b = true → a < u.2 ∧ leF c (gt u.1 u.2) (gt u.1 (u.2 - 1))) ∧ (b = false → u.2 = a ∨ leF c (gt u.1 (u.2 - 1)) (gt u.1 u.2))) (Has.ite (fun h0 => ?_) fun h0 => Has.ret ⟨(fun e => nomatch e), fun _ => .inl (by have : ¬ u.2 > a := fun q => h0 (decide_eq_true q); omega)⟩) fun cc ⟨b1, b2⟩ => ?_
      · have h0 : a < u.2 := of_decide_eq_true h0
        rw [w6_in (n := u.2 - 1) (by omega)]
        have hle : gt u.1 (u.2 - 1) ≤ gt u.1 u.2 := by
          rw [u6 (u.2 - 1) (by omega) (by omega), u7, t6 t.2 (Int.le_refl _) hi]
          obtain ⟨q, q0, q1, q2, e⟩ := t7 (u.2 - 1) (by omega) (by omega) (by omega)
          rw [e]
          exact Int.le_of_lt (hinc q t.2 q0 q1 hi)
        refine Has.chk ⟨by omega, by omega⟩ (Has.chk ⟨by omega, by omega⟩ ((order_lt (hxu _ (gt_mem _ _ ⟨by omega, by omega⟩)) (hxu _ (gt_mem _ _ ⟨by omega, by omega⟩))).bind fun r ⟨r1, r2⟩ => Has.ret ⟨fun e => ⟨h0, r1 (of_decide_eq_true e)⟩, fun e => .inr (r2 (of_decide_eq_false e) hle)⟩))
      · refine Has.ite (fun hc => ?_) fun hc => Has.ret (.done ⟨u2, fun p q p0 pq q1 => ?_⟩)
        · obtain ⟨h0, hle⟩ := b1 hc
          rw [w6_in (n := u.2 - 1) (by omega)]
          have c0 : 0 ≤ u.2 - 1 := by omega
          have c1 : u.2 - 1 < u.1.length := by omega
          have e1 : gt ((u.1.set u.2.toNat (gt u.1 (u.2 - 1))).set (u.2 - 1).toNat (gt u.1 u.2)) (u.2 - 1) = gt u.1 u.2 := gt_set_eq c0 (by simp only [List.length_set]; omega)
          have e2 : gt ((u.1.set u.2.toNat (gt u.1 (u.2 - 1))).set (u.2 - 1).toNat (gt u.1 u.2)) u.2 = gt u.1 (u.2 - 1) := by rw [gt_set_ne c0 (by omega) (by omega), gt_set_eq (by omega) (by omega)]
          have e3 : ∀ q : Int, 0 ≤ q → q ≠ u.2 → q ≠ u.2 - 1 → gt ((u.1.set u.2.toNat (gt u.1 (u.2 - 1))).set (u.2 - 1).toNat (gt u.1 u.2)) q = gt u.1 q := fun q q0 n1 n2 => by rw [gt_set_ne c0 q0 (by omega), gt_set_ne (by omega) q0 (by omega)]
          have st := swap_turn u.1 (i := u.2) (j := u.2 - 1) (a := a) (b := t.2 + 1) (by omega) c0 (by omega) c1 u0 (by omega) (by omega) (by omega)
          refine Has.chk ⟨c0, c1⟩ (Has.chk ⟨by omega, by omega⟩ (Has.letF (Has.ret (.next ⟨by simp only []; omega, by simp only []; omega, u2.trans st, fun p q p0 pq q1 n1 n2 => ?_, fun q q0 q1 => ?_, fun p p0 p1 => ?_, ?_⟩ (by simp only []; omega)))))
          · simp only [] at n1 n2 ⊢
            by_cases ep : p = u.2
            · rw [ep, e2, e3 q (by omega) (by omega) n2]
              exact u4 (u.2 - 1) q (by omega) (by omega) q1 (by omega) (by omega)
            · by_cases eq : q = u.2
              · rw [eq, e2, e3 p (by omega) ep n1]
                exact u4 p (u.2 - 1) p0 (by omega) (by omega) (by omega) (by omega)
              · rw [e3 p (by omega) ep n1, e3 q (by omega) eq n2]
                exact u4 p q p0 pq q1 ep eq
          · simp only [] at q0 ⊢
            rw [e1]
            by_cases eq : q = u.2
            · rw [eq, e2]; exact hle
            · rw [e3 q (by omega) eq (by omega)]
              exact u5 q (by omega) q1
          · simp only [] at p1 ⊢
            rw [e3 p (by omega) (by omega) (by omega)]
            exact u6 p p0 (by omega)
          · simp only []
            rw [e1]; exact u7
        · have hc : cc = false := by simpa using hc
          by_cases ep : p = u.2
          · rw [ep]; exact u5 q (by omega) q1
          · by_cases eq : q = u.2
            · rcases b2 hc with h | h
              · omega
              · rw [eq]
                by_cases e : p = u.2 - 1
                · rw [e]; exact h
                · exact (u4 p (u.2 - 1) p0 (by omega) (by omega) ep (by omega)).trans h
            · exact u4 p q p0 pq q1 ep eq
    · simp only [] at p0 ⊢
      rw [r1.out p (by omega) (by omega)]; exact t6 p (by omega) p1
    · simp only [] at p1 ⊢
      obtain ⟨q, q0, q1, e⟩ := r1.into p p0 p1
      by_cases eq : q = t.2
      · exact ⟨t.2, by omega, by omega, hi, by rw [e, eq]; exact t6 t.2 (Int.le_refl _) hi⟩
      · obtain ⟨z, z0, z1, z2, ez⟩ := t7 q q0 (by omega) (by omega)
        exact ⟨z, z0, by omega, z2, e.trans ez⟩
  · have hi : ¬ t.2 < b := fun q => hi (decide_eq_true q)
    exact Has.ret (.done ⟨t3, fun p q p0 pq q1 => t5 p q p0 pq (by omega)⟩)
end Lf
/- slices.swapRange and slices.rotate, told by places. -/
namespace Lf
open Go Go.Abs
set_option linter.unusedVariables false
set_option linter.unusedSimpArgs false
/-- Two stretches of n changed for each other. -/
def swapAt (xs : List Int) (a b n : Int) (p : Int) : Int :=
  if a ≤ p ∧ p < a + n then gt xs (p - a + b) else if b ≤ p ∧ p < b + n then gt xs (p - b + a) else gt xs p
/-- [a, m) and [m, b) turned about. -/
def rotAt (xs : List Int) (a m b : Int) (p : Int) : Int :=
  if a ≤ p ∧ p < a + (b - m) then gt xs (p + (m - a)) else if a + (b - m) ≤ p ∧ p < b then gt xs (p - (b - m)) else gt xs p
theorem swap_ok {c : Cells} (xs : List Int) (a b n : Int) (a0 : 0 ≤ a) (n0 : 0 ≤ n) (ab : a + n ≤ b) (hb : b + n ≤ xs.length) (hl : xs.length ≤ 1000) :
    Has (slices_swapRangeCmpFunc_Int_find_Sure_1 xs a b n c) fun r => r.Perm xs ∧ ∀ p : Int, 0 ≤ p → gt r p = swapAt xs a b n p := by
  unfold slices_swapRangeCmpFunc_Int_find_Sure_1
  refine Has.bind (P := fun r : List Int => r.Perm xs ∧ ∀ p : Int, 0 ≤ p → gt r p = swapAt xs a b n p) ?_ fun r hr => Has.ret hr
  refine Has.loop (fun t : List Int × Int => 0 ≤ t.2 ∧ t.2 ≤ n ∧ t.1.Perm xs ∧ ∀ p : Int, 0 ≤ p → gt t.1 p = swapAt xs a b t.2 p) (fun t => (n - t.2).toNat) _
    ⟨Int.le_refl _, n0, List.Perm.refl _, fun p p0 => by simp only [swapAt]; split <;> (try split) <;> first | rfl | omega⟩ (by simp only []; omega) fun t ⟨t0, t1, t2, t3⟩ => ?_
  have tl := t2.length_eq
  unfold slices_swapRangeCmpFunc_Int_find_Sure_1.l1
  refine Has.ite (fun hi => ?_) fun hi => ?_
  · have hi : t.2 < n := of_decide_eq_true hi
    rw [w6_in (n := b + t.2) (by omega), w6_in (n := a + t.2) (by omega), w6_in (n := t.2 + 1) (by omega)]
    have st := swap_turn t.1 (i := a + t.2) (j := b + t.2) (a := 0) (b := xs.length) (by omega) (by omega) (by omega) (by omega) (by omega) (by omega) (by omega) (by omega)
    refine Has.chk ⟨by omega, by omega⟩ (Has.chk ⟨by omega, by omega⟩ (Has.letF (Has.ret (.next ⟨by simp only []; omega, by simp only []; omega, st.perm.trans t2, fun p p0 => ?_⟩ (by simp only []; omega)))))
    simp only []
    by_cases e1 : p = b + t.2
    · rw [e1, gt_set_eq (by omega) (by simp only [List.length_set]; omega), t3 _ (by omega)]
      simp only [swapAt]
      rw [if_neg (by omega), if_neg (by omega), if_neg (by omega), if_pos (by omega)]
      congr 1; omega
    · rw [gt_set_ne (by omega) p0 (by omega)]
      by_cases e2 : p = a + t.2
      · rw [e2, gt_set_eq (by omega) (by omega), t3 _ (by omega)]
        simp only [swapAt]
        rw [if_neg (by omega), if_neg (by omega), if_pos (by omega)]
        congr 1; omega
      · rw [gt_set_ne (by omega) p0 (by omega), t3 _ p0]
        simp only [swapAt]
        split <;> split <;> (try split) <;> (try split) <;> first | rfl | omega
  · have hi : ¬ t.2 < n := fun q => hi (decide_eq_true q)
    have : t.2 = n := by omega
    exact Has.ret (.done ⟨t2, fun p p0 => by rw [t3 p p0, this]⟩)
theorem rot_step1 (xs ys : List Int) (m i j : Int) (i0 : 0 < j) (ij : j < i) (h : i ≤ m) (hs : ∀ p : Int, 0 ≤ p → gt ys p = swapAt xs (m - i) m j p) (p : Int) (p0 : 0 ≤ p) :
    rotAt ys (m - (i - j)) m (m + j) p = rotAt xs (m - i) m (m + j) p := by
  simp only [rotAt]
  split
  · rw [hs _ (by omega)]
    simp only [swapAt]
    rw [if_neg (by omega), if_pos (by omega), if_neg (by omega), if_pos (by omega)]
    congr 1; omega
  · split
    · rw [hs _ (by omega)]
      simp only [swapAt]
      rw [if_neg (by omega), if_neg (by omega), if_neg (by omega), if_pos (by omega)]
    · rw [hs _ p0]
      simp only [swapAt]
      split <;> (try split) <;> (try split) <;> (try split) <;> first | rfl | omega | (congr 1; omega)
theorem rot_step2 (xs ys : List Int) (m i j : Int) (i0 : 0 < i) (ij : i < j) (h : i ≤ m) (hs : ∀ p : Int, 0 ≤ p → gt ys p = swapAt xs (m - i) (m + j - i) i p) (p : Int) (p0 : 0 ≤ p) :
    rotAt ys (m - i) m (m + (j - i)) p = rotAt xs (m - i) m (m + j) p := by
  simp only [rotAt]
  split
  · rw [hs _ (by omega)]
    simp only [swapAt]
    split <;> (try split) <;> (try split) <;> (try split) <;> first | rfl | omega | (congr 1; omega)
  · split
    · rw [hs _ (by omega)]
      simp only [swapAt]
      split <;> (try split) <;> (try split) <;> (try split) <;> first | rfl | omega | (congr 1; omega)
    · rw [hs _ p0]
      simp only [swapAt]
      split <;> (try split) <;> (try split) <;> (try split) <;> first | rfl | omega | (congr 1; omega)
theorem rot_last (xs : List Int) (m i : Int) (i0 : 0 < i) (h : i ≤ m) (p : Int) : swapAt xs (m - i) m i p = rotAt xs (m - i) m (m + i) p := by
  simp only [swapAt, rotAt]
  split <;> (try split) <;> (try split) <;> (try split) <;> first | rfl | omega | (congr 1; omega)
theorem rot_ok {c : Cells} (xs : List Int) (a m b : Int) (a0 : 0 ≤ a) (am : a < m) (mb : m < b) (hb : b ≤ xs.length) (hl : xs.length ≤ 1000) :
    Has (slices_rotateCmpFunc_Int_find_Sure_1 xs a m b c) fun r => r.Perm xs ∧ ∀ p : Int, 0 ≤ p → gt r p = rotAt xs a m b p := by
  unfold slices_rotateCmpFunc_Int_find_Sure_1
  rw [w6_in (n := m - a) (by omega), w6_in (n := b - m) (by omega)]
  refine Has.bind (P := fun z : List Int × Int => 0 < z.2 ∧ z.2 ≤ m - a ∧ z.2 ≤ b - m ∧ z.1.Perm xs ∧ ∀ p : Int, 0 ≤ p → rotAt z.1 (m - z.2) m (m + z.2) p = rotAt xs a m b p) ?_ fun z ⟨z0, z1, z2, z3, z4⟩ => ?_
  · refine Has.loop (fun t : List Int × Int × Int => 0 < t.2.1 ∧ t.2.1 ≤ m - a ∧ 0 < t.2.2 ∧ t.2.2 ≤ b - m ∧ t.1.Perm xs ∧ ∀ p : Int, 0 ≤ p → rotAt t.1 (m - t.2.1) m (m + t.2.2) p = rotAt xs a m b p) (fun t => (t.2.1 + t.2.2).toNat) _
      ⟨by simp only []; omega, Int.le_refl _, by simp only []; omega, Int.le_refl _, List.Perm.refl _, fun p p0 => by simp only []; congr 1 <;> omega⟩ (by simp only []; omega) fun t ⟨t0, t1, t2, t3, t4, t5⟩ => ?_
    have tl := t4.length_eq
    unfold slices_rotateCmpFunc_Int_find_Sure_1.l1
    refine Has.ite (fun hi => ?_) fun hi => ?_
    · have hi : t.2.1 ≠ t.2.2 := by simpa using hi
      refine Has.ite (fun hg => ?_) fun hg => ?_
      · have hg : t.2.1 > t.2.2 := of_decide_eq_true hg
        rw [w6_in (n := m - t.2.1) (by omega), w6_in (n := t.2.1 - t.2.2) (by omega)]
        refine (swap_ok t.1 (m - t.2.1) m t.2.2 (by omega) (by omega) (by omega) (by omega) (by omega)).bind fun r ⟨r1, r2⟩ => ?_
        refine Has.chk r1.length_eq.symm (Has.ret (.next ⟨by simp only []; omega, by simp only []; omega, t2, t3, r1.trans t4, fun p p0 => ?_⟩ (by simp only []; omega)))
        exact (rot_step1 t.1 r m t.2.1 t.2.2 t2 hg (by omega) r2 p p0).trans (t5 p p0)
      · have hg : ¬ t.2.1 > t.2.2 := fun q => hg (decide_eq_true q)
        rw [w6_in (n := m - t.2.1) (by omega), w6_in (n := m + t.2.2) (by omega), w6_in (n := m + t.2.2 - t.2.1) (by omega), w6_in (n := t.2.2 - t.2.1) (by omega)]
        refine (swap_ok t.1 (m - t.2.1) (m + t.2.2 - t.2.1) t.2.1 (by omega) (by omega) (by omega) (by omega) (by omega)).bind fun r ⟨r1, r2⟩ => ?_
        refine Has.chk r1.length_eq.symm (Has.ret (.next ⟨t0, t1, by simp only []; omega, by simp only []; omega, r1.trans t4, fun p p0 => ?_⟩ (by simp only []; omega)))
        exact (rot_step2 t.1 r m t.2.1 t.2.2 t0 (by omega) (by omega) r2 p p0).trans (t5 p p0)
    · have hi : t.2.1 = t.2.2 := by simpa using hi
      exact Has.ret (.done ⟨t0, t1, by simp only []; omega, t4, fun p p0 => by simp only []; rw [← t5 p p0, ← hi]⟩)
  · have zl := z3.length_eq
    rw [w6_in (n := m - z.2) (by omega)]
    refine (swap_ok z.1 (m - z.2) m z.2 (by omega) (by omega) (by omega) (by omega) (by omega)).bind fun r ⟨r1, r2⟩ => ?_
    exact Has.chk r1.length_eq.symm (Has.ret ⟨r1.trans z3, fun p p0 => by rw [r2 p p0, rot_last _ _ _ z0 (by omega), z4 p p0]⟩)
end Lf
/- What a turn about a cut does to two sorted stretches. -/
namespace Lf
open Go Go.Abs
set_option linter.unusedVariables false
set_option linter.unusedSimpArgs false
theorem sortedIn.le {c : Cells} {xs : List Int} {a b p q : Int} (h : sortedIn c xs a b) (p0 : a ≤ p) (pq : p ≤ q) (q1 : q < b) : leF c (gt xs p) (gt xs q) := by
  by_cases e : p = q
  · rw [e]; exact leF.refl _
  · exact h p q p0 (by omega) q1
theorem sortedIn.short {c : Cells} (xs : List Int) {a b : Int} (h : b ≤ a + 1) : sortedIn c xs a b := fun p q p0 pq q1 => by omega
theorem sortedIn.sub {c : Cells} {xs : List Int} {a b k d : Int} (h : sortedIn c xs a b) (ac : a ≤ k) (db : d ≤ b) : sortedIn c xs k d := fun p q p0 pq q1 => h p q (by omega) pq (by omega)
theorem sortedIn.join {c : Cells} {xs : List Int} {a m b : Int} (h : sortedIn c xs a m) (k : sortedIn c xs m b) (hx : ∀ p q : Int, a ≤ p → p < m → m ≤ q → q < b → leF c (gt xs p) (gt xs q)) : sortedIn c xs a b := fun p q p0 pq q1 => by
  by_cases e : q < m
  · exact h p q p0 pq e
  · by_cases f : p < m
    · exact hx p q p0 f (by omega) q1
    · exact k p q (by omega) pq q1
/-- Two halves, the one not above the other, each sorted anew. -/
theorem sortedIn.halves {c : Cells} {xs ys zs : List Int} {a m b : Int} (a0 : 0 ≤ a) (ac : a ≤ m) (cb : m ≤ b) (hx : ∀ p q : Int, a ≤ p → p < m → m ≤ q → q < b → leF c (gt xs p) (gt xs q))
    (h1 : turnIn xs ys a m) (s1 : sortedIn c ys a m) (h2 : turnIn ys zs m b) (s2 : sortedIn c zs m b) : turnIn xs zs a b ∧ sortedIn c zs a b := by
  refine ⟨(h1.wide a0 (Int.le_refl _) cb).trans (h2.wide a0 ac (Int.le_refl _)), ?_⟩
  refine sortedIn.join (m := m) (fun p q p0 pq q1 => ?_) s2 fun p q p0 p1 q0 q1 => ?_
  · rw [h2.out p (by omega) (by omega), h2.out q (by omega) (by omega)]; exact s1 p q p0 pq q1
  · obtain ⟨p', p0', p1', e⟩ := h1.into p p0 p1
    obtain ⟨q', q0', q1', f⟩ := h2.into q q0 q1
    rw [h2.out p (by omega) (by omega), e, f, h1.out q' (by omega) (by omega)]
    exact hx p' q' p0' p1' q0' q1'
/-- What stands left of a cut stood ahead of what stands right of it. -/
def apart (xs : List Int) (a m b : Int) : Prop := ∀ p q : Int, a ≤ p → p < m → m ≤ q → q < b → gt xs p < gt xs q
theorem rot_turn {xs ys : List Int} {a z m e b : Int} (a0 : 0 ≤ a) (az : a ≤ z) (zm : z ≤ m) (me : m ≤ e) (eb : e ≤ b) (hp : ys.Perm xs) (h : ∀ p : Int, 0 ≤ p → gt ys p = rotAt xs z m e p) : turnIn xs ys a b := by
  refine ⟨hp, fun p p0 h1 => ?_, fun p p0 p1 => ?_⟩
  · rw [h p p0]; simp only [rotAt]; rw [if_neg (by omega), if_neg (by omega)]
  · rw [h p (by omega)]; simp only [rotAt]
    split
    · exact ⟨_, by omega, by omega, rfl⟩
    · split
      · exact ⟨_, by omega, by omega, rfl⟩
      · exact ⟨p, p0, p1, rfl⟩
/-- The cut of a merge: what is left of it is not above what is right of it. -/
structure cutAt (c : Cells) (xs : List Int) (a z m e b : Int) : Prop where
  x : z = a ∨ e = b ∨ leF c (gt xs (z - 1)) (gt xs e)
  y : z = m ∨ e = m ∨ leF c (gt xs (e - 1)) (gt xs z)
theorem rot_sorted {c : Cells} {xs ys : List Int} {a z m e b : Int} (a0 : 0 ≤ a) (az : a ≤ z) (zm : z ≤ m) (me : m ≤ e) (eb : e ≤ b) (h : ∀ p : Int, 0 ≤ p → gt ys p = rotAt xs z m e p) (s1 : sortedIn c xs a m) (s2 : sortedIn c xs m b) (hc : cutAt c xs a z m e b) :
    sortedIn c ys a z ∧ sortedIn c ys z (z + e - m) ∧ sortedIn c ys (z + e - m) e ∧ sortedIn c ys e b ∧ ∀ p q : Int, a ≤ p → p < z + e - m → z + e - m ≤ q → q < b → leF c (gt ys p) (gt ys q) := by
  have hA : ∀ p, 0 ≤ p → p < z → gt ys p = gt xs p := fun p p0 p1 => by rw [h p p0]; simp only [rotAt]; rw [if_neg (by omega), if_neg (by omega)]
  have hB : ∀ p, z ≤ p → p < z + e - m → gt ys p = gt xs (p + (m - z)) := fun p p0 p1 => by rw [h p (by omega)]; simp only [rotAt]; rw [if_pos (by omega)]
  have hC : ∀ p, z + e - m ≤ p → p < e → gt ys p = gt xs (p - (e - m)) := fun p p0 p1 => by rw [h p (by omega)]; simp only [rotAt]; rw [if_neg (by omega), if_pos (by omega)]
  have hD : ∀ p, e ≤ p → gt ys p = gt xs p := fun p p0 => by rw [h p (by omega)]; simp only [rotAt]; rw [if_neg (by omega), if_neg (by omega)]
  refine ⟨fun p q p0 pq q1 => ?_, fun p q p0 pq q1 => ?_, fun p q p0 pq q1 => ?_, fun p q p0 pq q1 => ?_, fun p q p0 p1 q0 q1 => ?_⟩
  · rw [hA p (by omega) (by omega), hA q (by omega) (by omega)]; exact s1 p q p0 pq (by omega)
  · rw [hB p (by omega) (by omega), hB q (by omega) (by omega)]; exact s2 _ _ (by omega) (by omega) (by omega)
  · rw [hC p (by omega) (by omega), hC q (by omega) (by omega)]; exact s1 _ _ (by omega) (by omega) (by omega)
  · rw [hD p (by omega), hD q (by omega)]; exact s2 _ _ (by omega) (by omega) (by omega)
  · by_cases p2 : p < z
    · rw [hA p (by omega) p2]
      by_cases q2 : q < e
      · rw [hC q q0 q2]; exact s1 _ _ p0 (by omega) (by omega)
      · rw [hD q (by omega)]
        rcases hc.x with k | k | k
        · omega
        · omega
        · exact (s1.le p0 (by omega : p ≤ z - 1) (by omega)).trans (k.trans (s2.le (by omega) (by omega : e ≤ q) q1))
    · rw [hB p (by omega) p1]
      by_cases q2 : q < e
      · rw [hC q q0 q2]
        rcases hc.y with k | k | k
        · omega
        · omega
        · exact (s2.le (by omega) (by omega : p + (m - z) ≤ e - 1) (by omega)).trans (k.trans (s1.le (by omega) (by omega : z ≤ q - (e - m)) (by omega)))
      · rw [hD q (by omega)]; exact s2.le (by omega) (by omega) q1
theorem rot_apart {xs ys : List Int} {a z m e b : Int} (a0 : 0 ≤ a) (az : a ≤ z) (zm : z ≤ m) (me : m ≤ e) (eb : e ≤ b) (h : ∀ p : Int, 0 ≤ p → gt ys p = rotAt xs z m e p) (k : apart xs a m b) : apart ys a z (z + e - m) ∧ apart ys (z + e - m) e b := by
  have hA : ∀ p, 0 ≤ p → p < z → gt ys p = gt xs p := fun p p0 p1 => by rw [h p p0]; simp only [rotAt]; rw [if_neg (by omega), if_neg (by omega)]
  have hB : ∀ p, z ≤ p → p < z + e - m → gt ys p = gt xs (p + (m - z)) := fun p p0 p1 => by rw [h p (by omega)]; simp only [rotAt]; rw [if_pos (by omega)]
  have hC : ∀ p, z + e - m ≤ p → p < e → gt ys p = gt xs (p - (e - m)) := fun p p0 p1 => by rw [h p (by omega)]; simp only [rotAt]; rw [if_neg (by omega), if_pos (by omega)]
  have hD : ∀ p, e ≤ p → gt ys p = gt xs p := fun p p0 => by rw [h p (by omega)]; simp only [rotAt]; rw [if_neg (by omega), if_neg (by omega)]
  refine ⟨fun p q p0 p1 q0 q1 => ?_, fun p q p0 p1 q0 q1 => ?_⟩
  · rw [hA p (by omega) p1, hB q q0 q1]; exact k _ _ p0 (by omega) (by omega) (by omega)
  · rw [hC p p0 p1, hD q q0]; exact k _ _ (by omega) (by omega) (by omega) q1
end Lf
/- slices.symMerge with find.Sure's order. -/
namespace Lf
open Go Go.Abs
set_option linter.unusedVariables false
set_option linter.unusedSimpArgs false
theorem half_ok {x y : Int} (h : 0 ≤ x + y ∧ x + y ≤ 4000) : w6 (Int.fdiv (IntKind.wrap .u64 (w6 (x + y))) (2 ^ 1)) = (x + y) / 2 := by
  rw [w6_in (n := x + y) (by omega), IntKind.wrap_u64, show (2 : Int) ^ 1 = 2 from rfl, Int.fdiv_eq_ediv_of_nonneg _ (by omega)]
  rw [w6_in (by omega)]
  omega
def tailR (f : Nat) (d : List Int) (cc : Cells) (mid e b : Int) : Option (List Int × Cells) :=
  Option.bind (letF (decide (mid < e)) fun v => if v = true then some (decide (e < b)) else some false) fun z : Bool => if z = true then Option.bind (slices_symMergeCmpFunc_Int_find_Sure_1_2 f d mid e b cc) fun r => if d.length = r.1.length then some (r.1, r.2) else none else some (d, cc)
def tailL (f : Nat) (d : List Int) (cc : Cells) (a z mid e b : Int) : Option (List Int × Cells) :=
  Option.bind (if (decide (a < z)) = true then letF (decide (z < mid)) fun v => some v else some false) fun q : Bool => if q = true then Option.bind (slices_symMergeCmpFunc_Int_find_Sure_1_2 f d a z mid cc) fun r => if d.length = r.1.length then tailR f r.1 r.2 mid e b else none else tailR f d cc mid e b
def mergesAt (c : Cells) (f : Nat) : Prop := ∀ (xs : List Int) (a m b : Int), 0 ≤ a → a < m → m < b → b ≤ xs.length → xs.length ≤ 1000 → b - a ≤ 2 ^ f → (∀ x ∈ xs, inF c x) → apart xs a m b → sortedIn c xs a m → sortedIn c xs m b →
    Has (slices_symMergeCmpFunc_Int_find_Sure_1_2 f xs a m b c) fun r => (turnIn xs r.1 a b ∧ sortedIn c r.1 a b) ∧ r.2 = c
theorem turnIn.all {c : Cells} {xs ys : List Int} {a b : Int} (h : turnIn xs ys a b) (k : ∀ x ∈ xs, inF c x) : ∀ x ∈ ys, inF c x := fun x hx => k x (h.perm.mem_iff.1 hx)
theorem turnIn.apart {xs ys : List Int} {a b k m n : Int} (h : turnIn xs ys a b) (ho : ∀ p, k ≤ p → p < n → 0 ≤ p ∧ (p < a ∨ b ≤ p)) (q : apart xs k m n) (km : k ≤ m) (mn : m ≤ n) : apart ys k m n := fun p r p0 p1 r0 r1 => by
  obtain ⟨u0, u1⟩ := ho p p0 (by omega)
  obtain ⟨v0, v1⟩ := ho r (by omega) r1
  rw [h.out p u0 u1, h.out r v0 v1]; exact q p r p0 p1 r0 r1
theorem tailR_ok {c : Cells} {f : Nat} (ih : mergesAt c f) (xs : List Int) (m e b : Int) (m0 : 0 ≤ m) (me : m ≤ e) (eb : e ≤ b) (hb : b ≤ xs.length) (hl : xs.length ≤ 1000) (hf : b - m ≤ 2 ^ f) (hx : ∀ x ∈ xs, inF c x) (ap : apart xs m e b) (s1 : sortedIn c xs m e) (s2 : sortedIn c xs e b) :
    Has (tailR f xs c m e b) fun r => (turnIn xs r.1 m b ∧ sortedIn c r.1 m b) ∧ r.2 = c := by
  unfold tailR
  refine Has.bind (P := fun q : Bool => (q = true → m < e ∧ e < b) ∧ (q = false → m = e ∨ e = b)) ?_ fun q ⟨q1, q2⟩ => ?_
  · refine Has.letF (Has.ite (fun h => Has.ret ⟨fun h' => ⟨of_decide_eq_true h, of_decide_eq_true h'⟩, fun h' => .inr ?_⟩) fun h => Has.ret ⟨(fun h' => nomatch h'), fun _ => .inl ?_⟩)
    · have := of_decide_eq_false h'; omega
    · have : ¬ m < e := fun k => h (decide_eq_true k)
      omega
  · refine Has.ite (fun h => ?_) fun h => ?_
    · obtain ⟨h1, h2⟩ := q1 h
      refine (ih xs m e b m0 h1 h2 hb hl hf hx ap s1 s2).bind fun r ⟨⟨r1, r2⟩, r3⟩ => Has.chk r1.len.symm (Has.ret ⟨⟨r1, r2⟩, r3⟩)
    · refine Has.ret ⟨⟨turnIn.refl _ _ _, ?_⟩, rfl⟩
      rcases q2 (by simpa using h) with k | k
      · rw [k]; exact s2
      · rw [← k]; exact s1
theorem tailL_ok {c : Cells} {f : Nat} (ih : mergesAt c f) (xs : List Int) (a z m e b : Int) (a0 : 0 ≤ a) (az : a ≤ z) (zm : z ≤ m) (me : m ≤ e) (eb : e ≤ b) (hb : b ≤ xs.length) (hl : xs.length ≤ 1000) (hf1 : b - m ≤ 2 ^ f) (hf2 : m - a ≤ 2 ^ f) (hI : ∀ x ∈ xs, inF c x) (p1' : apart xs a z m) (p2' : apart xs m e b)
    (s1 : sortedIn c xs a z) (s2 : sortedIn c xs z m) (s3 : sortedIn c xs m e) (s4 : sortedIn c xs e b) (hx : ∀ p q : Int, a ≤ p → p < m → m ≤ q → q < b → leF c (gt xs p) (gt xs q)) :
    Has (tailL f xs c a z m e b) fun r => (turnIn xs r.1 a b ∧ sortedIn c r.1 a b) ∧ r.2 = c := by
  unfold tailL
  refine Has.bind (P := fun q : Bool => (q = true → a < z ∧ z < m) ∧ (q = false → a = z ∨ z = m)) ?_ fun q ⟨q1, q2⟩ => ?_
  · refine Has.ite (fun h => Has.letF (Has.ret ⟨fun h' => ⟨of_decide_eq_true h, of_decide_eq_true h'⟩, fun h' => .inr ?_⟩)) fun h => Has.ret ⟨(fun h' => nomatch h'), fun _ => .inl ?_⟩
    · have := of_decide_eq_false h'; omega
    · have : ¬ a < z := fun k => h (decide_eq_true k)
      omega
  · refine Has.ite (fun h => ?_) fun h => ?_
    · obtain ⟨h1, h2⟩ := q1 h
      refine (ih xs a z m a0 h1 h2 (by omega) hl hf2 hI p1' s1 s2).bind fun r ⟨⟨r1, r2⟩, r3⟩ => Has.chk r1.len.symm ?_
      rw [r3]
      have rl := r1.len
      refine (tailR_ok ih r.1 m e b (by omega) me eb (by omega) (by omega) hf1 (r1.all hI) (r1.apart (fun p p0 p1 => by omega) p2' me eb) (fun p q p0 pq q1 => ?_) fun p q p0 pq q1 => ?_).mono fun y ⟨⟨y1, y2⟩, y3⟩ => ⟨sortedIn.halves a0 (by omega) (by omega) hx r1 r2 y1 y2, y3⟩
      · rw [r1.out p (by omega) (by omega), r1.out q (by omega) (by omega)]; exact s3 p q p0 pq q1
      · rw [r1.out p (by omega) (by omega), r1.out q (by omega) (by omega)]; exact s4 p q p0 pq q1
    · have sL : sortedIn c xs a m := by
        rcases q2 (by simpa using h) with k | k
        · rw [k]; exact s2
        · rw [← k]; exact s1
      exact (tailR_ok ih xs m e b (by omega) me eb hb hl hf1 hI p2' s3 s4).mono fun y ⟨⟨y1, y2⟩, y3⟩ => ⟨sortedIn.halves a0 (by omega) (by omega) hx (turnIn.refl _ _ _) sL y1 y2, y3⟩
end Lf
/- slices.symMerge with find.Sure's order: the searches. -/
namespace Lf
open Go Go.Abs
set_option linter.unusedVariables false
set_option linter.unusedSimpArgs false
theorem seek6 {c : Cells} (xs : List Int) (n lo hi : Int) (h0 : 0 ≤ lo) (h1 : lo ≤ hi) (hh : hi ≤ xs.length) (hl : xs.length ≤ 1000) (hn : n ≤ 2000) (hp : ∀ k, lo ≤ k → k < hi → 0 ≤ n - 1 - k ∧ n - 1 - k < xs.length) (hI : ∀ x ∈ xs, inF c x) (hle : ∀ k, lo ≤ k → k < hi → gt xs k ≤ gt xs (n - 1 - k)) :
    Has (loopF (slices_symMergeCmpFunc_Int_find_Sure_1_2.l6 xs c n) (lo, hi)) fun z => lo ≤ z ∧ z ≤ hi ∧ (z = lo ∨ leF c (gt xs (z - 1)) (gt xs (n - z))) ∧ (z = hi ∨ leF c (gt xs (n - 1 - z)) (gt xs z)) := by
  refine Has.loop (fun t : Int × Int => lo ≤ t.1 ∧ t.1 ≤ t.2 ∧ t.2 ≤ hi ∧ (t.1 = lo ∨ leF c (gt xs (t.1 - 1)) (gt xs (n - t.1))) ∧ (t.2 = hi ∨ leF c (gt xs (n - 1 - t.2)) (gt xs t.2))) (fun t => (t.2 - t.1).toNat) _
    ⟨Int.le_refl _, h1, Int.le_refl _, .inl rfl, .inl rfl⟩ (by simp only []; omega) fun t ⟨t1, t2, t3, t4, t5⟩ => ?_
  unfold slices_symMergeCmpFunc_Int_find_Sure_1_2.l6
  rw [half_ok (by omega)]
  refine Has.ite (fun hi' => ?_) fun hi' => ?_
  · have hi' : t.1 < t.2 := of_decide_eq_true hi'
    have b := hp ((t.1 + t.2) / 2) (by omega) (by omega)
    rw [w6_in (n := n - 1) (by omega), w6_in (n := n - 1 - (t.1 + t.2) / 2) (by omega), w6_in (n := (t.1 + t.2) / 2 + 1) (by omega)]
    refine Has.letF (Has.chk b (Has.chk ⟨by omega, by omega⟩ ((order_lt (hI _ (gt_mem _ _ (by omega))) (hI _ (gt_mem _ _ (by omega)))).bind fun r ⟨r1, r2⟩ => Has.ite (fun h => ?_) fun h => ?_)))
    · have h : ¬ r < 0 := by simpa using h
      refine Has.letF (Has.ret (.next ⟨by simp only []; omega, by simp only []; omega, t3, .inr ?_, t5⟩ (by simp only []; omega)))
      have := r2 h (hle _ (by omega) (by omega))
      simp only []
      rw [show (t.1 + t.2) / 2 + 1 - 1 = (t.1 + t.2) / 2 by omega, show n - ((t.1 + t.2) / 2 + 1) = n - 1 - (t.1 + t.2) / 2 by omega]
      exact this
    · have h : r < 0 := by simpa using h
      exact Has.ret (.next ⟨t1, by simp only []; omega, by simp only []; omega, t4, .inr (r1 h)⟩ (by simp only []; omega))
  · have hi' : ¬ t.1 < t.2 := fun q => hi' (decide_eq_true q)
    have e : t.1 = t.2 := by omega
    exact Has.ret (.done ⟨t1, by omega, t4, by rw [e]; exact t5⟩)
theorem seek5 {c : Cells} (xs : List Int) (n lo hi : Int) (h0 : 0 ≤ lo) (h1 : lo ≤ hi) (hh : hi ≤ xs.length) (hl : xs.length ≤ 1000) (hn : n ≤ 2000) (hp : ∀ k, lo ≤ k → k < hi → 0 ≤ n - 1 - k ∧ n - 1 - k < xs.length) (hI : ∀ x ∈ xs, inF c x) (hle : ∀ k, lo ≤ k → k < hi → gt xs k ≤ gt xs (n - 1 - k)) :
    Has (loopF (slices_symMergeCmpFunc_Int_find_Sure_1_2.l5 xs c n) (lo, hi)) fun z => lo ≤ z ∧ z ≤ hi ∧ (z = lo ∨ leF c (gt xs (z - 1)) (gt xs (n - z))) ∧ (z = hi ∨ leF c (gt xs (n - 1 - z)) (gt xs z)) := seek6 xs n lo hi h0 h1 hh hl hn hp hI hle
theorem seek1 {c : Cells} (xs : List Int) (a m b : Int) (h0 : 0 ≤ m) (h1 : m ≤ b) (hh : b ≤ xs.length) (hl : xs.length ≤ 1000) (ha : 0 ≤ a ∧ a < xs.length) (hI : ∀ x ∈ xs, inF c x) (hle : ∀ k, m ≤ k → k < b → gt xs a ≤ gt xs k) :
    Has (loopF (slices_symMergeCmpFunc_Int_find_Sure_1_2.l1 xs a c) (m, b)) fun z => m ≤ z ∧ z ≤ b ∧ (z = m ∨ leF c (gt xs (z - 1)) (gt xs a)) ∧ (z = b ∨ leF c (gt xs a) (gt xs z)) := by
  refine Has.loop (fun t : Int × Int => m ≤ t.1 ∧ t.1 ≤ t.2 ∧ t.2 ≤ b ∧ (t.1 = m ∨ leF c (gt xs (t.1 - 1)) (gt xs a)) ∧ (t.2 = b ∨ leF c (gt xs a) (gt xs t.2))) (fun t => (t.2 - t.1).toNat) _
    ⟨Int.le_refl _, h1, Int.le_refl _, .inl rfl, .inl rfl⟩ (by simp only []; omega) fun t ⟨t1, t2, t3, t4, t5⟩ => ?_
  unfold slices_symMergeCmpFunc_Int_find_Sure_1_2.l1
  rw [half_ok (by omega)]
  refine Has.ite (fun hi' => ?_) fun hi' => ?_
  · have hi' : t.1 < t.2 := of_decide_eq_true hi'
    rw [w6_in (n := (t.1 + t.2) / 2 + 1) (by omega)]
    refine Has.chk ⟨by omega, by omega⟩ (Has.chk ha ((order_lt (hI _ (gt_mem _ _ (by omega))) (hI _ (gt_mem _ _ (by omega)))).bind fun r ⟨r1, r2⟩ => Has.ite (fun h => ?_) fun h => ?_))
    · have h : r < 0 := by simpa using h
      refine Has.letF (Has.ret (.next ⟨by simp only []; omega, by simp only []; omega, t3, .inr ?_, t5⟩ (by simp only []; omega)))
      simp only []
      rw [show (t.1 + t.2) / 2 + 1 - 1 = (t.1 + t.2) / 2 by omega]
      exact r1 h
    · have h : ¬ r < 0 := by simpa using h
      exact Has.ret (.next ⟨t1, by simp only []; omega, by simp only []; omega, t4, .inr (r2 h (hle _ (by omega) (by omega)))⟩ (by simp only []; omega))
  · have hi' : ¬ t.1 < t.2 := fun q => hi' (decide_eq_true q)
    have e : t.1 = t.2 := by omega
    exact Has.ret (.done ⟨t1, by omega, t4, by rw [e]; exact t5⟩)
theorem seek3 {c : Cells} (xs : List Int) (a m : Int) (h0 : 0 ≤ a) (h1 : a ≤ m) (hh : m ≤ xs.length) (hl : xs.length ≤ 1000) (ha : 0 ≤ m ∧ m < xs.length) (hI : ∀ x ∈ xs, inF c x) (hle : ∀ k, a ≤ k → k < m → gt xs k ≤ gt xs m) :
    Has (loopF (slices_symMergeCmpFunc_Int_find_Sure_1_2.l3 xs m c) (a, m)) fun z => a ≤ z ∧ z ≤ m ∧ (z = a ∨ leF c (gt xs (z - 1)) (gt xs m)) ∧ (z = m ∨ leF c (gt xs m) (gt xs z)) := by
  refine Has.loop (fun t : Int × Int => a ≤ t.1 ∧ t.1 ≤ t.2 ∧ t.2 ≤ m ∧ (t.1 = a ∨ leF c (gt xs (t.1 - 1)) (gt xs m)) ∧ (t.2 = m ∨ leF c (gt xs m) (gt xs t.2))) (fun t => (t.2 - t.1).toNat) _
    ⟨Int.le_refl _, h1, Int.le_refl _, .inl rfl, .inl rfl⟩ (by simp only []; omega) fun t ⟨t1, t2, t3, t4, t5⟩ => ?_
  unfold slices_symMergeCmpFunc_Int_find_Sure_1_2.l3
  rw [half_ok (by omega)]
  refine Has.ite (fun hi' => ?_) fun hi' => ?_
  · have hi' : t.1 < t.2 := of_decide_eq_true hi'
    rw [w6_in (n := (t.1 + t.2) / 2 + 1) (by omega)]
    refine Has.chk ha (Has.chk ⟨by omega, by omega⟩ ((order_lt (hI _ (gt_mem _ _ (by omega))) (hI _ (gt_mem _ _ (by omega)))).bind fun r ⟨r1, r2⟩ => Has.ite (fun h => ?_) fun h => ?_))
    · have h : ¬ r < 0 := by simpa using h
      refine Has.letF (Has.ret (.next ⟨by simp only []; omega, by simp only []; omega, t3, .inr ?_, t5⟩ (by simp only []; omega)))
      simp only []
      rw [show (t.1 + t.2) / 2 + 1 - 1 = (t.1 + t.2) / 2 by omega]
      exact r2 h (hle _ (by omega) (by omega))
    · have h : r < 0 := by simpa using h
      exact Has.ret (.next ⟨t1, by simp only []; omega, by simp only []; omega, t4, .inr (r1 h)⟩ (by simp only []; omega))
  · have hi' : ¬ t.1 < t.2 := fun q => hi' (decide_eq_true q)
    have e : t.1 = t.2 := by omega
    exact Has.ret (.done ⟨t1, by omega, t4, by rw [e]; exact t5⟩)
end Lf
/- slices.symMerge with find.Sure's order: one element into a stretch, and the whole. -/
namespace Lf
open Go Go.Abs
set_option linter.unusedVariables false
set_option linter.unusedSimpArgs false
theorem ins2 (xs : List Int) (a z : Int) (a0 : 0 ≤ a) (az : a + 1 ≤ z) (hz : z ≤ xs.length) (hl : xs.length ≤ 1000) :
    Has (loopF (slices_symMergeCmpFunc_Int_find_Sure_1_2.l2 z) (xs, a)) fun r => r.Perm xs ∧ ∀ p : Int, 0 ≤ p → gt r p = rotAt xs a (a + 1) z p := by
  refine Has.loop (fun t : List Int × Int => a ≤ t.2 ∧ t.2 + 1 ≤ z ∧ t.1.Perm xs ∧ ∀ p : Int, 0 ≤ p → gt t.1 p = rotAt xs a (a + 1) (t.2 + 1) p) (fun t => (z - t.2).toNat) _
    ⟨Int.le_refl _, az, List.Perm.refl _, fun p p0 => by simp only [rotAt]; split <;> (try split) <;> first | rfl | omega | (congr 1; omega)⟩ (by simp only []; omega) fun t ⟨t0, t1, t2, t3⟩ => ?_
  have tl := t2.length_eq
  unfold slices_symMergeCmpFunc_Int_find_Sure_1_2.l2
  rw [w6_in (n := z - 1) (by omega)]
  refine Has.ite (fun hi => ?_) fun hi => ?_
  · have hi : t.2 < z - 1 := of_decide_eq_true hi
    rw [w6_in (n := t.2 + 1) (by omega)]
    have st := swap_turn t.1 (i := t.2) (j := t.2 + 1) (a := 0) (b := xs.length) (by omega) (by omega) (by omega) (by omega) (by omega) (by omega) (by omega) (by omega)
    refine Has.chk ⟨by omega, by omega⟩ (Has.chk ⟨by omega, by omega⟩ (Has.letF (Has.ret (.next ⟨by simp only []; omega, by simp only []; omega, st.perm.trans t2, fun p p0 => ?_⟩ (by simp only []; omega)))))
    simp only []
    by_cases e1 : p = t.2 + 1
    · rw [e1, gt_set_eq (by omega) (by simp only [List.length_set]; omega), t3 _ (by omega)]
      simp only [rotAt]
      rw [if_neg (by omega), if_pos (by omega), if_neg (by omega), if_pos (by omega)]
      congr 1; omega
    · rw [gt_set_ne (by omega) p0 (by omega)]
      by_cases e2 : p = t.2
      · rw [e2, gt_set_eq (by omega) (by omega), t3 _ (by omega)]
        simp only [rotAt]
        rw [if_neg (by omega), if_neg (by omega), if_pos (by omega)]
        congr 1; omega
      · rw [gt_set_ne (by omega) p0 (by omega), t3 _ p0]
        simp only [rotAt]
        split <;> split <;> (try split) <;> (try split) <;> first | rfl | omega | (congr 1; omega)
  · have hi : ¬ t.2 < z - 1 := fun q => hi (decide_eq_true q)
    have : t.2 + 1 = z := by omega
    exact Has.ret (.done ⟨t2, fun p p0 => by rw [t3 p p0, this]⟩)
theorem ins4 (xs : List Int) (z m : Int) (z0 : 0 ≤ z) (zm : z ≤ m) (hz : m < xs.length) (hl : xs.length ≤ 1000) :
    Has (loopF (slices_symMergeCmpFunc_Int_find_Sure_1_2.l4 z) (xs, m)) fun r => r.Perm xs ∧ ∀ p : Int, 0 ≤ p → gt r p = rotAt xs z m (m + 1) p := by
  refine Has.loop (fun t : List Int × Int => z ≤ t.2 ∧ t.2 ≤ m ∧ t.1.Perm xs ∧ ∀ p : Int, 0 ≤ p → gt t.1 p = rotAt xs t.2 m (m + 1) p) (fun t => t.2.toNat) _
    ⟨zm, Int.le_refl _, List.Perm.refl _, fun p p0 => by simp only [rotAt]; split <;> (try split) <;> first | rfl | omega | (congr 1; omega)⟩ (by simp only []; omega) fun t ⟨t0, t1, t2, t3⟩ => ?_
  have tl := t2.length_eq
  unfold slices_symMergeCmpFunc_Int_find_Sure_1_2.l4
  refine Has.ite (fun hi => ?_) fun hi => ?_
  · have hi : t.2 > z := of_decide_eq_true hi
    rw [w6_in (n := t.2 - 1) (by omega)]
    have st := swap_turn t.1 (i := t.2) (j := t.2 - 1) (a := 0) (b := xs.length) (by omega) (by omega) (by omega) (by omega) (by omega) (by omega) (by omega) (by omega)
    refine Has.chk ⟨by omega, by omega⟩ (Has.chk ⟨by omega, by omega⟩ (Has.letF (Has.ret (.next ⟨by simp only []; omega, by simp only []; omega, st.perm.trans t2, fun p p0 => ?_⟩ (by simp only []; omega)))))
    simp only []
    by_cases e1 : p = t.2 - 1
    · rw [e1, gt_set_eq (by omega) (by simp only [List.length_set]; omega), t3 _ (by omega)]
      simp only [rotAt]
      rw [if_pos (by omega), if_pos (by omega)]
      congr 1; omega
    · rw [gt_set_ne (by omega) p0 (by omega)]
      by_cases e2 : p = t.2
      · rw [e2, gt_set_eq (by omega) (by omega), t3 _ (by omega)]
        simp only [rotAt]
        rw [if_neg (by omega), if_neg (by omega), if_neg (by omega), if_pos (by omega)]
        congr 1; omega
      · rw [gt_set_ne (by omega) p0 (by omega), t3 _ p0]
        simp only [rotAt]
        split <;> split <;> (try split) <;> (try split) <;> first | rfl | omega | (congr 1; omega)
  · have hi : ¬ t.2 > z := fun q => hi (decide_eq_true q)
    have : t.2 = z := by omega
    exact Has.ret (.done ⟨t2, fun p p0 => by rw [t3 p p0, this]⟩)
end Lf
/- slices.symMerge with find.Sure's order: the whole. -/
namespace Lf
open Go Go.Abs
set_option linter.unusedVariables false
set_option linter.unusedSimpArgs false
theorem after_ok {c : Cells} {f : Nat} (ih : mergesAt c f) (xs : List Int) (a z m e b mid : Int) (a0 : 0 ≤ a) (az : a ≤ z) (zm : z ≤ m) (me : m ≤ e) (eb : e ≤ b) (hb : b ≤ xs.length) (hl : xs.length ≤ 1000) (hm : mid = z + e - m) (hf1 : b - mid ≤ 2 ^ f) (hf2 : mid - a ≤ 2 ^ f)
    (s1 : sortedIn c xs a m) (s2 : sortedIn c xs m b) (hI : ∀ x ∈ xs, inF c x) (ap : apart xs a m b) (hc : cutAt c xs a z m e b) :
    Has (Option.bind (if (decide (z < m)) = true then some (decide (m < e)) else some false) fun q : Bool => if q = true then Option.bind (slices_rotateCmpFunc_Int_find_Sure_1 xs z m e c) fun r => if xs.length = r.length then tailL f r c a z mid e b else none else tailL f xs c a z mid e b) fun r => (turnIn xs r.1 a b ∧ sortedIn c r.1 a b) ∧ r.2 = c := by
  have go : ∀ ys : List Int, ys.Perm xs → (∀ p : Int, 0 ≤ p → gt ys p = rotAt xs z m e p) → Has (tailL f ys c a z mid e b) fun r => (turnIn xs r.1 a b ∧ sortedIn c r.1 a b) ∧ r.2 = c := fun ys hp hy => by
    have t := rot_turn a0 az zm me eb hp hy
    obtain ⟨k1, k2, k3, k4, k5⟩ := rot_sorted a0 az zm me eb hy s1 s2 hc
    obtain ⟨q1, q2⟩ := rot_apart a0 az zm me eb hy ap
    rw [← hm] at k2 k3 k5 q1 q2
    have yl := t.len
    exact (tailL_ok ih ys a z mid e b a0 az (by omega) (by omega) eb (by omega) (by omega) hf1 hf2 (t.all hI) q1 q2 k1 k2 k3 k4 k5).mono fun r ⟨⟨r1, r2⟩, r3⟩ => ⟨⟨t.trans r1, r2⟩, r3⟩
  refine Has.bind (P := fun q : Bool => (q = true → z < m ∧ m < e) ∧ (q = false → z = m ∨ m = e)) ?_ fun q ⟨q1, q2⟩ => ?_
  · refine Has.ite (fun h => Has.ret ⟨fun h' => ⟨of_decide_eq_true h, of_decide_eq_true h'⟩, fun h' => .inr ?_⟩) fun h => Has.ret ⟨(fun h' => nomatch h'), fun _ => .inl ?_⟩
    · have := of_decide_eq_false h'; omega
    · have : ¬ z < m := fun k => h (decide_eq_true k)
      omega
  · refine Has.ite (fun h => ?_) fun h => ?_
    · obtain ⟨h1, h2⟩ := q1 h
      exact (rot_ok xs z m e (by omega) h1 h2 (by omega) hl).bind fun r ⟨r1, r2⟩ => Has.chk r1.length_eq.symm (go r r1 r2)
    · refine go xs (List.Perm.refl _) fun p p0 => ?_
      simp only [rotAt]
      rcases q2 (by simpa using h) with k | k <;> split <;> (try split) <;> first | rfl | omega | (congr 1; omega)
theorem symM_ok {c : Cells} : ∀ f : Nat, mergesAt c f
  | 0 => fun xs a m b a0 am mb hb hl hf hI ap s1 s2 => by rw [Int.pow_zero] at hf; omega
  | f + 1 => fun xs a m b a0 am mb hb hl hf hI ap s1 s2 => by
    have ih := symM_ok (c := c) f
    have hp : (2 : Int) ^ (f + 1) = 2 ^ f * 2 := Int.pow_succ ..
    rw [hp] at hf
    generalize hz : (2 : Int) ^ f = pw at hf
    unfold slices_symMergeCmpFunc_Int_find_Sure_1_2
    rw [w6_in (n := m - a) (by omega), w6_in (n := b - m) (by omega)]
    refine Has.ite (fun h1 => ?_) fun h1 => Has.ite (fun h2 => ?_) fun h2 => ?_
    · have h1 : m - a = 1 := by simpa using h1
      have em : m = a + 1 := by omega
      refine (seek1 xs a m b (by omega) (by omega) hb hl ⟨a0, by omega⟩ hI fun k k0 k1 => Int.le_of_lt (ap a k (Int.le_refl _) am k0 k1)).bind fun z ⟨z0, z1, z2, z3⟩ => ?_
      refine (ins2 xs a z a0 (by omega) (by omega) hl).bind fun r ⟨r1, r2⟩ => Has.ret ?_
      rw [← em] at r2
      obtain ⟨k1, k2, k3, k4, k5⟩ := rot_sorted (e := z) (z := a) a0 (Int.le_refl _) (by omega) (by omega) z1 r2 s1 s2 ⟨.inl rfl, .inr z2⟩
      refine ⟨⟨rot_turn a0 (Int.le_refl _) (by omega) (by omega) z1 r1 r2, sortedIn.join k2 (sortedIn.join k3 k4 fun p q p0 p1 q0 q1 => ?_) k5⟩, rfl⟩
      rw [r2 p (by omega), r2 q (by omega)]
      simp only [rotAt]
      rw [if_neg (by omega), if_pos (by omega), if_neg (by omega), if_neg (by omega), show p - (z - m) = a by omega]
      rcases z3 with k | k
      · omega
      · exact k.trans (s2.le z0 q0 q1)
    · have h2 : b - m = 1 := by simpa using h2
      refine (seek3 xs a m a0 (by omega) (by omega) hl ⟨by omega, by omega⟩ hI fun k k0 k1 => Int.le_of_lt (ap k m k0 k1 (Int.le_refl _) mb)).bind fun z ⟨z0, z1, z2, z3⟩ => ?_
      refine (ins4 xs z m (by omega) z1 (by omega) hl).bind fun r ⟨r1, r2⟩ => Has.ret ?_
      obtain ⟨k1, k2, k3, k4, k5⟩ := rot_sorted (e := m + 1) (b := b) (z := z) a0 z0 z1 (by omega) (by omega) r2 s1 s2 ⟨.inr (.inl (by omega)), by
        rcases z3 with k | k
        · exact .inl k
        · exact .inr (.inr (by rw [show m + 1 - 1 = m by omega]; exact k))⟩
      refine ⟨⟨rot_turn a0 z0 z1 (by omega) (by omega) r1 r2, sortedIn.join (sortedIn.join k1 k2 fun p q p0 p1 q0 q1 => ?_) (sortedIn.join k3 k4 fun p q p0 p1 q0 q1 => by omega) k5⟩, rfl⟩
      rw [r2 p (by omega), r2 q (by omega)]
      simp only [rotAt]
      rw [if_neg (by omega), if_neg (by omega), if_pos (by omega), show q + (m - z) = m by omega]
      rcases z2 with k | k
      · omega
      · exact (s1.le p0 (by omega : p ≤ z - 1) (by omega)).trans k
    · have h1 : ¬ m - a = 1 := by simpa using h1
      have h2 : ¬ b - m = 1 := by simpa using h2
      rw [half_ok (x := a) (y := b) (by omega), w6_in (n := (a + b) / 2 + m) (by omega)]
      refine Has.letF (Has.letF (Has.ite (fun h => ?_) fun h => ?_))
      · have h : m > (a + b) / 2 := of_decide_eq_true h
        rw [w6_in (n := (a + b) / 2 + m - b) (by omega)]
        refine (seek5 xs ((a + b) / 2 + m) ((a + b) / 2 + m - b) ((a + b) / 2) (by omega) (by omega) (by omega) hl (by omega) (fun k c0 c1 => by omega) hI fun k c0 c1 => Int.le_of_lt (ap _ _ (by omega) (by omega) (by omega) (by omega))).bind fun z ⟨z0, z1, z2, z3⟩ => ?_
        rw [w6_in (n := (a + b) / 2 + m - z) (by omega)]
        refine after_ok ih xs a z m ((a + b) / 2 + m - z) b ((a + b) / 2) a0 (by omega) (by omega) (by omega) (by omega) hb hl (by omega) (by rw [hz]; omega) (by rw [hz]; omega) s1 s2 hI ap ⟨?_, ?_⟩
        · rcases z2 with k | k
          · exact .inr (.inl (by omega))
          · exact .inr (.inr k)
        · rcases z3 with k | k
          · exact .inr (.inl (by omega))
          · exact .inr (.inr (by rw [show (a + b) / 2 + m - z - 1 = (a + b) / 2 + m - 1 - z by omega]; exact k))
      · have h : ¬ m > (a + b) / 2 := fun k => h (decide_eq_true k)
        refine (seek6 xs ((a + b) / 2 + m) a m a0 (by omega) (by omega) hl (by omega) (fun k c0 c1 => by omega) hI fun k c0 c1 => Int.le_of_lt (ap _ _ (by omega) (by omega) (by omega) (by omega))).bind fun z ⟨z0, z1, z2, z3⟩ => ?_
        rw [w6_in (n := (a + b) / 2 + m - z) (by omega)]
        refine after_ok ih xs a z m ((a + b) / 2 + m - z) b ((a + b) / 2) a0 (by omega) (by omega) (by omega) (by omega) hb hl (by omega) (by rw [hz]; omega) (by rw [hz]; omega) s1 s2 hI ap ⟨?_, ?_⟩
        · rcases z2 with k | k
          · exact .inl k
          · exact .inr (.inr k)
        · rcases z3 with k | k
          · exact .inl k
          · exact .inr (.inr (by rw [show (a + b) / 2 + m - z - 1 = (a + b) / 2 + m - 1 - z by omega]; exact k))
end Lf
/- find.Sure's stable sort: the whole. -/
namespace Lf
open Go Go.Abs
set_option linter.unusedVariables false
set_option linter.unusedSimpArgs false
/-- A list that is sorted between cuts, each place's element from between the same cuts. -/
structure StC (c : Cells) (C : Int → Prop) (xs ys : List Int) : Prop where
  perm : ys.Perm xs
  inn : ∀ p : Int, 0 ≤ p → p < xs.length → ∃ q : Int, 0 ≤ q ∧ q < xs.length ∧ gt ys p = gt xs q ∧ ∀ m, C m → (p < m ↔ q < m)
  srt : ∀ p q : Int, 0 ≤ p → p < q → q < xs.length → (∀ m, C m → (p < m ↔ q < m)) → leF c (gt ys p) (gt ys q)
section
variable {c : Cells} {C D : Int → Prop} {xs ys zs : List Int}
theorem StC.congr (h : StC c C xs ys) (e : ∀ k : Int, 0 < k → k < xs.length → (C k ↔ D k)) : StC c D xs ys := by
  refine ⟨h.perm, fun p p0 p1 => ?_, fun p q p0 pq q1 hm => ?_⟩
  · obtain ⟨q, q0, q1, q2, q3⟩ := h.inn p p0 p1
    refine ⟨q, q0, q1, q2, fun m hm => ?_⟩
    by_cases h1 : 0 < m ∧ m < xs.length
    · exact q3 m ((e m h1.1 h1.2).2 hm)
    · omega
  · refine h.srt p q p0 pq q1 fun m hm' => ?_
    by_cases h1 : 0 < m ∧ m < xs.length
    · exact hm m ((e m h1.1 h1.2).1 hm')
    · omega
theorem StC.sorted (h : StC c C xs ys) {a b : Int} (a0 : 0 ≤ a) (ab : a ≤ b) (hb : b ≤ xs.length) (t : turnIn ys zs a b) (s : sortedIn c zs a b) (ca : a = 0 ∨ C a) (cb : b = xs.length ∨ C b) : StC c (fun k => C k ∧ ¬ (a < k ∧ k < b)) xs zs := by
  refine ⟨t.perm.trans h.perm, fun p p0 p1 => ?_, fun p q p0 pq q1 hm => ?_⟩
  · by_cases hp : a ≤ p ∧ p < b
    · obtain ⟨r, r0, r1, e⟩ := t.into p hp.1 hp.2
      obtain ⟨q, q0, q1, e2, q3⟩ := h.inn r (by omega) (by omega)
      exact ⟨q, q0, q1, e.trans e2, fun m ⟨hm, hn⟩ => by have := q3 m hm; omega⟩
    · obtain ⟨q, q0, q1, e2, q3⟩ := h.inn p p0 p1
      exact ⟨q, q0, q1, (t.out p p0 (by omega)).trans e2, fun m ⟨hm, hn⟩ => q3 m hm⟩
  · have ha : ¬ (p < a ∧ a ≤ q) := fun ⟨u, v⟩ => by
      rcases ca with e | e
      · omega
      · have := hm a ⟨e, by omega⟩; omega
    have hb' : ¬ (p < b ∧ b ≤ q) := fun ⟨u, v⟩ => by
      rcases cb with e | e
      · omega
      · have := hm b ⟨e, by omega⟩; omega
    by_cases hp : a ≤ p ∧ q < b
    · exact s p q hp.1 pq hp.2
    · rw [t.out p p0 (by omega), t.out q (by omega) (by omega)]
      refine h.srt p q p0 pq q1 fun m hm' => ?_
      by_cases hi : a < m ∧ m < b
      · omega
      · exact hm m ⟨hm', hi⟩
theorem StC.part (h : StC c C xs ys) {a b : Int} (a0 : 0 ≤ a) (hb : b ≤ xs.length) (hn : ∀ k, C k → ¬ (a < k ∧ k < b)) : sortedIn c ys a b := fun p q p0 pq q1 =>
  h.srt p q (by omega) pq (by omega) fun m hm => by have := hn m hm; omega
theorem StC.apart (h : StC c C xs ys) {a m b : Int} (a0 : 0 ≤ a) (hb : b ≤ xs.length) (hm : C m) (hinc : ∀ p q : Int, 0 ≤ p → p < q → q < xs.length → gt xs p < gt xs q) : apart ys a m b := fun p q p0 p1 q0 q1 => by
  obtain ⟨p', u0, u1, e, f⟩ := h.inn p (by omega) (by omega)
  obtain ⟨q', v0, v1, e', f'⟩ := h.inn q (by omega) (by omega)
  rw [e, e']
  have := f m hm; have := f' m hm
  exact hinc p' q' u0 (by omega) v1
end
theorem mult_one {s a k : Int} (hs : 0 < s) (ha : s ∣ a) (hk : s ∣ k) (h1 : a < k) (h2 : k < a + 2 * s) : k = a + s := by
  obtain ⟨u, rfl⟩ := ha
  obtain ⟨v, rfl⟩ := hk
  have h3 : u < v := Int.lt_of_mul_lt_mul_left h1 (Int.le_of_lt hs)
  have h4 : v < u + 2 := by
    refine Int.lt_of_mul_lt_mul_left (a := s) ?_ (Int.le_of_lt hs)
    rw [Int.mul_add, Int.mul_comm s 2]; exact h2
  have : v = u + 1 := by omega
  rw [this, Int.mul_add, Int.mul_one]
theorem mult_none {s a k : Int} (hs : 0 < s) (ha : s ∣ a) (hk : s ∣ k) (h1 : a < k) (h2 : k < a + s) : False := by
  have := mult_one hs ha hk h1 (by omega); omega
/-- The merges of one size. -/
theorem pass_ok {c : Cells} (xs ys : List Int) (s : Int) (s0 : 20 ≤ s) (s1 : s < xs.length) (hl : xs.length ≤ 1000) (hI : ∀ x ∈ xs, inF c x) (hinc : ∀ p q : Int, 0 ≤ p → p < q → q < xs.length → gt xs p < gt xs q) (h : StC c (fun k => s ∣ k) xs ys) :
    Has (slices_stableCmpFunc_Int_find_Sure_1_2.l2 xs.length (ys, c, s)) fun t => ∃ zs, t = .next (zs, c, s * 2) ∧ StC c (fun k => s * 2 ∣ k) xs zs := by
  unfold slices_stableCmpFunc_Int_find_Sure_1_2.l2
  simp only []
  refine Has.pos (decide_eq_true s1) ?_
  rw [w6_in (n := 2 * s) (by omega), w6_in (n := s * 2) (by omega)]
  have d2 : ∀ k : Int, s * 2 ∣ k → s ∣ k := fun k hk => Int.dvd_trans ⟨2, rfl⟩ hk
  refine Has.bind (P := fun z : List Int × Cells × Int => z.2.1 = c ∧ 0 ≤ z.2.2 ∧ s * 2 ∣ z.2.2 ∧ z.2.2 ≤ xs.length ∧ xs.length < z.2.2 + 2 * s ∧ StC c (fun k => s * 2 ∣ k ∨ (z.2.2 ≤ k ∧ s ∣ k)) xs z.1) ?_ fun z ⟨z1, z2, z3, z4, z5, z6⟩ => ?_
  · refine Has.loop (fun t : List Int × Cells × Int × Int => t.2.1 = c ∧ 0 ≤ t.2.2.1 ∧ t.2.2.2 = t.2.2.1 + 2 * s ∧ t.2.2.1 ≤ xs.length ∧ s * 2 ∣ t.2.2.1 ∧ StC c (fun k => s * 2 ∣ k ∨ (t.2.2.1 ≤ k ∧ s ∣ k)) xs t.1) (fun t => (xs.length - t.2.2.1).toNat) _
      ⟨rfl, Int.le_refl _, by simp only []; omega, by simp only []; omega, ⟨0, by simp⟩, h.congr fun k k0 k1 => ⟨fun q => .inr ⟨by simp only []; omega, q⟩, fun q => q.elim (d2 k) fun q => q.2⟩⟩ (by simp only []; omega) fun t ⟨t1, t2, t3, t4, t5, t6⟩ => ?_
    unfold slices_stableCmpFunc_Int_find_Sure_1_2.l3
    simp only []
    refine Has.ite (fun hi => ?_) fun hi => ?_
    · have hi : t.2.2.2 ≤ xs.length := of_decide_eq_true hi
      rw [w6_in (n := t.2.2.1 + s) (by omega), w6_in (n := 2 * s) (by omega), w6_in (n := t.2.2.2 + 2 * s) (by omega), t1]
      have tl := t6.perm.length_eq
      have sa : s ∣ t.2.2.1 := d2 _ t5
      have sm : s ∣ t.2.2.1 + s := Int.dvd_add sa ⟨1, by simp⟩
      have none1 : ∀ k, (s * 2 ∣ k ∨ (t.2.2.1 ≤ k ∧ s ∣ k)) → ¬ (t.2.2.1 < k ∧ k < t.2.2.1 + s) := fun k hk ⟨k0, k1⟩ => mult_none (by omega) sa (hk.elim (d2 k) fun q => q.2) k0 k1
      have none2 : ∀ k, (s * 2 ∣ k ∨ (t.2.2.1 ≤ k ∧ s ∣ k)) → ¬ (t.2.2.1 + s < k ∧ k < t.2.2.2) := fun k hk ⟨k0, k1⟩ => mult_none (by omega) sm (hk.elim (d2 k) fun q => q.2) k0 (by omega)
      refine (symM_ok (c := c) 64 t.1 t.2.2.1 (t.2.2.1 + s) t.2.2.2 t2 (by omega) (by omega) (by omega) (by omega) (by omega) (fun x hx => hI x (t6.perm.mem_iff.1 hx)) (t6.apart t2 (by omega) (.inr ⟨by omega, sm⟩) hinc) (t6.part t2 (by omega) none1) (t6.part (by omega) hi none2)).bind fun r ⟨⟨r1, r2⟩, r3⟩ => Has.chk r1.len.symm (Has.ret (.next ⟨r3, by simp only []; omega, by simp only [], by simp only []; omega, ?_, ?_⟩ (by simp only []; omega)))
      · simp only []; rw [t3]; exact Int.dvd_add t5 ⟨1, by rw [Int.mul_one, Int.mul_comm]⟩
      · have k1 : s * 2 ∣ t.2.2.2 := by rw [t3]; exact Int.dvd_add t5 ⟨1, by rw [Int.mul_one, Int.mul_comm]⟩
        refine (t6.sorted t2 (by omega) (by omega) r1 r2 (.inr (.inl t5)) (.inr (.inl k1))).congr fun k k0 kn => ?_
        simp only []
        constructor
        · rintro ⟨q | ⟨q, q'⟩, n⟩
          · exact .inl q
          · by_cases e : k = t.2.2.1
            · left; rw [e]; exact t5
            · exact .inr ⟨by omega, q'⟩
        · rintro (q | ⟨q, q'⟩)
          · refine ⟨.inl q, fun ⟨u, v⟩ => ?_⟩
            exact mult_none (s := s * 2) (by omega) t5 q u (by omega)
          · exact ⟨.inr ⟨by omega, q'⟩, by omega⟩
    · have hi : ¬ t.2.2.2 ≤ xs.length := fun q => hi (decide_eq_true q)
      exact Has.ret (.done ⟨t1, t2, t5, t4, by simp only []; omega, t6⟩)
  · rw [w6_in (n := z.2.2 + s) (by omega), z1]
    have zl := z6.perm.length_eq
    have sa : s ∣ z.2.2 := d2 _ z3
    have sm : s ∣ z.2.2 + s := Int.dvd_add sa ⟨1, by simp⟩
    refine Has.ite (fun hi => ?_) fun hi => ?_
    · have hi : z.2.2 + s < xs.length := of_decide_eq_true hi
      have none1 : ∀ k, (s * 2 ∣ k ∨ (z.2.2 ≤ k ∧ s ∣ k)) → ¬ (z.2.2 < k ∧ k < z.2.2 + s) := fun k hk ⟨k0, k1⟩ => mult_none (by omega) sa (hk.elim (d2 k) fun q => q.2) k0 k1
      have none2 : ∀ k, (s * 2 ∣ k ∨ (z.2.2 ≤ k ∧ s ∣ k)) → ¬ (z.2.2 + s < k ∧ k < xs.length) := fun k hk ⟨k0, k1⟩ => mult_none (by omega) sm (hk.elim (d2 k) fun q => q.2) k0 (by omega)
      refine (symM_ok (c := c) 64 z.1 z.2.2 (z.2.2 + s) xs.length z2 (by omega) (by omega) (by omega) (by omega) (by omega) (fun x hx => hI x (z6.perm.mem_iff.1 hx)) (z6.apart z2 (Int.le_refl _) (.inr ⟨by omega, sm⟩) hinc) (z6.part z2 (by omega) none1) (z6.part (by omega) (Int.le_refl _) none2)).bind fun r ⟨⟨r1, r2⟩, r3⟩ => Has.chk r1.len.symm (Has.ret ⟨r.1, by rw [r3], ?_⟩)
      refine (z6.sorted z2 (by omega) (Int.le_refl _) r1 r2 (.inr (.inl z3)) (.inl rfl)).congr fun k k0 kn => ?_
      constructor
      · rintro ⟨q | ⟨q, q'⟩, n⟩
        · exact q
        · by_cases e : k = z.2.2
          · rw [e]; exact z3
          · omega
      · exact fun q => ⟨.inl q, fun ⟨u, v⟩ => mult_none (s := s * 2) (by omega) z3 q u (by omega)⟩
    · have hi : ¬ z.2.2 + s < xs.length := fun q => hi (decide_eq_true q)
      refine Has.ret ⟨z.1, rfl, z6.congr fun k k0 kn => ⟨fun q => ?_, .inl⟩⟩
      rcases q with q | ⟨q, q'⟩
      · exact q
      · by_cases e : k = z.2.2
        · rw [e]; exact z3
        · exact (mult_none (by omega) sa q' (by omega) (by omega)).elim
theorem stab_ok {c : Cells} (xs : List Int) (hl : xs.length ≤ 900) (hI : ∀ x ∈ xs, inF c x) (hinc : ∀ p q : Int, 0 ≤ p → p < q → q < xs.length → gt xs p < gt xs q) :
    Has (slices_stableCmpFunc_Int_find_Sure_1_2 xs xs.length c) fun r => (r.1.Perm xs ∧ sortedIn c r.1 0 xs.length) ∧ r.2 = c := by
  unfold slices_stableCmpFunc_Int_find_Sure_1_2
  have d20 : ∀ a : Int, 20 ∣ a → 20 ∣ a + 20 := fun a h => by omega
  refine Has.bind (P := fun o : List Int × Int => 0 ≤ o.2 ∧ 20 ∣ o.2 ∧ o.2 ≤ xs.length ∧ xs.length < o.2 + 20 ∧ StC c (fun k => 20 ∣ k ∨ o.2 ≤ k) xs o.1) ?_ fun o ⟨o1, o2, o3, o4, o5⟩ => ?_
  · refine Has.loop (fun t : List Int × Int × Int => 0 ≤ t.2.1 ∧ t.2.2 = t.2.1 + 20 ∧ 20 ∣ t.2.1 ∧ t.2.1 ≤ xs.length ∧ StC c (fun k => 20 ∣ k ∨ t.2.1 ≤ k) xs t.1) (fun t => (xs.length - t.2.1).toNat) _
      ⟨Int.le_refl _, rfl, ⟨0, rfl⟩, by simp only []; omega, List.Perm.refl _, fun p p0 p1 => ⟨p, p0, p1, rfl, fun _ _ => Iff.rfl⟩, fun p q p0 pq q1 hm => by have := hm q (.inr (by simp only []; omega)); omega⟩ (by simp only []; omega) fun t ⟨t1, t2, t3, t4, t5⟩ => ?_
    unfold slices_stableCmpFunc_Int_find_Sure_1_2.l1
    have tl := t5.perm.length_eq
    refine Has.ite (fun hi => ?_) fun hi => ?_
    · have hi : t.2.2 ≤ xs.length := of_decide_eq_true hi
      have same : ∀ p, t.2.1 ≤ p → p < xs.length → gt t.1 p = gt xs p := fun p p0 p1 => by
        obtain ⟨q, q0, q1, e, f⟩ := t5.inn p (by omega) p1
        have f1 := f p (.inr p0); have f2 := f (p + 1) (.inr (by omega))
        rw [e, show q = p by omega]
      refine (insO_ok t.1 t.2.1 t.2.2 t1 (by omega) (by omega) (by omega) (fun x hx => hI x (t5.perm.mem_iff.1 hx)) (fun p q p0 pq q1 => by rw [same p p0 (by omega), same q (by omega) (by omega)]; exact hinc p q (by omega) pq (by omega))).bind fun r ⟨r1, r2⟩ => ?_
      rw [w6_in (n := t.2.2 + 20) (by omega)]
      refine Has.chk r1.len.symm (Has.ret (.next ⟨by simp only []; omega, rfl, by simp only []; omega, by simp only []; omega, ?_⟩ (by simp only []; omega)))
      refine (t5.sorted t1 (by omega) hi r1 r2 (.inr (.inl t3)) (.inr (.inr (by omega)))).congr fun k k0 kn => ?_
      simp only []
      omega
    · have hi : ¬ t.2.2 ≤ xs.length := fun q => hi (decide_eq_true q)
      exact Has.ret (.done ⟨t1, t3, t4, by simp only []; omega, t5⟩)
  · have ol := o5.perm.length_eq
    have same : ∀ p, o.2 ≤ p → p < xs.length → gt o.1 p = gt xs p := fun p p0 p1 => by
      obtain ⟨q, q0, q1, e, f⟩ := o5.inn p (by omega) p1
      have f1 := f p (.inr p0); have f2 := f (p + 1) (.inr (by omega))
      rw [e, show q = p by omega]
    refine (insO_ok o.1 o.2 xs.length o1 o3 (by omega) (by omega) (fun x hx => hI x (o5.perm.mem_iff.1 hx)) (fun p q p0 pq q1 => by rw [same p p0 (by omega), same q (by omega) q1]; exact hinc p q (by omega) pq q1)).bind fun r ⟨r1, r2⟩ => Has.chk r1.len.symm ?_
    have R : StC c (fun k => (20 : Int) ∣ k) xs r := (o5.sorted o1 o3 (Int.le_refl _) r1 r2 (.inr (.inl o2)) (.inl rfl)).congr fun k k0 kn => by omega
    refine Has.bind (P := fun z : List Int × Cells => (z.1.Perm xs ∧ sortedIn c z.1 0 xs.length) ∧ z.2 = c) ?_ fun z hz => Has.ret hz
    refine Has.loop (fun t : List Int × Cells × Int => t.2.1 = c ∧ 20 ≤ t.2.2 ∧ StC c (fun k => t.2.2 ∣ k) xs t.1) (fun t => (xs.length - t.2.2).toNat) _ ⟨rfl, Int.le_refl _, R⟩ (by simp only []; omega) fun t ⟨t1, t2, t3⟩ => ?_
    obtain ⟨ys, c', s⟩ := t
    simp only [] at t1 t2 t3
    subst t1
    by_cases hi : s < xs.length
    · exact (pass_ok xs ys s t2 hi (by omega) hI hinc t3).mono fun u ⟨zs, e, h⟩ => by rw [e]; exact .next ⟨rfl, by simp only []; omega, h⟩ (by simp only []; omega)
    · unfold slices_stableCmpFunc_Int_find_Sure_1_2.l2
      refine Has.neg (by simpa using hi) (Has.ret (.done ⟨⟨t3.perm, t3.part (Int.le_refl _) (Int.le_refl _) fun k hk ⟨k0, k1⟩ => ?_⟩, rfl⟩))
      exact mult_none (s := s) (a := 0) (by omega) ⟨0, by simp⟩ hk k0 (by omega)
theorem sortStable_ok {c : Cells} (xs : List Int) (hl : xs.length ≤ 900) (hI : ∀ x ∈ xs, inF c x) (hinc : ∀ p q : Int, 0 ≤ p → p < q → q < xs.length → gt xs p < gt xs q) : Has (slices_SortStableFunc_Int_find_Sure_1_2 xs c) fun r => r.1.Perm xs ∧ sortedIn c r.1 0 xs.length := by
  unfold slices_SortStableFunc_Int_find_Sure_1_2
  exact (stab_ok xs hl hI hinc).bind fun r ⟨⟨r1, r2⟩, r3⟩ => Has.chk r1.length_eq.symm (Has.ret ⟨r1, r2⟩)
end Lf
