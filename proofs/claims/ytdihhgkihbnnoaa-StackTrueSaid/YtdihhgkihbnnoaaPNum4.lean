/- Laws of the plain functions. Conditions: as each theorem states them. -/
import Derived.Test.YtdihhgkihbnnoaaPNum3
/- Products and quotients of whole numbers, by way of 128 bits. -/
namespace Lf
open Go Go.Abs
set_option linter.unusedVariables false
set_option linter.unusedSimpArgs false
theorem w6_def (n : Int) : w6 n = (n + 9223372036854775808) % 18446744073709551616 - 9223372036854775808 := by unfold w6; rw [IntKind.wrap_i64]
def okI (n : Int) : Prop := -9223372036854775808 ≤ n ∧ n ≤ 9223372036854775807
instance (n : Int) : Decidable (okI n) := inferInstanceAs (Decidable (_ ∧ _))
structure okW (w : num_Wide) : Prop where
  h : okI w.Hi
  l0 : 0 ≤ w.Lo.n
  l1 : w.Lo.n < 18446744073709551616
def wv (w : num_Wide) : Int := w.Hi * 18446744073709551616 + w.Lo.n
theorem size_ok (a : Int) (ha : okI a) : Has (num_size a) fun r => 0 ≤ r.n ∧ r.n ≤ 9223372036854775808 ∧ ((0 ≤ a ∧ r.n = a) ∨ (a < 0 ∧ r.n = -a)) := by
  unfold num_size
  have h1 := ha.1; have h2 := ha.2
  refine Has.ite (fun h => Has.ret ?_) fun h => Has.ret ?_
  · have h : a < 0 := by simpa using h
    simp only [wu_def]; omega
  · have h : 0 ≤ a := by simpa using h
    simp only [wu_def]; omega
theorem mul64_ok (x y : Int) (hx : 0 ≤ x ∧ x < 18446744073709551616) (hy : 0 ≤ y ∧ y < 18446744073709551616) : Has (bits_Mul64 x y) fun r => r = (NU64.mk (x * y / 18446744073709551616), NU64.mk (x * y % 18446744073709551616)) := by
  unfold bits_Mul64
  have e1 : Int.fdiv x (2 ^ 32) = x / 4294967296 := fdiv_pow x 32
  have e2 : Int.fdiv y (2 ^ 32) = y / 4294967296 := fdiv_pow y 32
  have bd : ∀ a b : Int, 0 ≤ a → a ≤ 4294967295 → 0 ≤ b → b ≤ 4294967295 → 0 ≤ a * b ∧ a * b ≤ 18446744065119617025 := fun a b a0 a1 b0 b1 => by
    have := Int.mul_nonneg a0 b0
    have h1 := Int.mul_le_mul_of_nonneg_right a1 b0
    omega
  have ex : x * y = x / 4294967296 * (y / 4294967296) * 18446744073709551616 + (x / 4294967296 * (y % 4294967296) + x % 4294967296 * (y / 4294967296)) * 4294967296 + x % 4294967296 * (y % 4294967296) := by
    have h1 : x = x / 4294967296 * 4294967296 + x % 4294967296 := by omega
    have h2 : y = y / 4294967296 * 4294967296 + y % 4294967296 := by omega
    generalize x / 4294967296 = a at *
    generalize x % 4294967296 = b at *
    generalize y / 4294967296 = c at *
    generalize y % 4294967296 = d at *
    subst h1; subst h2
    rw [Int.add_mul, Int.mul_add, Int.mul_add, Int.mul_right_comm a 4294967296, ← Int.mul_assoc a c, Int.mul_assoc (a * c), Int.mul_right_comm a 4294967296 d, ← Int.mul_assoc b c, Int.add_mul]
    omega
  have p1 := bd (x / 4294967296) (y / 4294967296) (by omega) (by omega) (by omega) (by omega)
  have p2 := bd (x / 4294967296) (y % 4294967296) (by omega) (by omega) (by omega) (by omega)
  have p3 := bd (x % 4294967296) (y / 4294967296) (by omega) (by omega) (by omega) (by omega)
  have p4 := bd (x % 4294967296) (y % 4294967296) (by omega) (by omega) (by omega) (by omega)
  simp only [Abs.letF]
  rw [and_low hx, and_low hy, e1, e2, ex]
  generalize x / 4294967296 * (y / 4294967296) = a at *
  generalize x / 4294967296 * (y % 4294967296) = b at *
  generalize x % 4294967296 * (y / 4294967296) = c at *
  generalize x % 4294967296 * (y % 4294967296) = d at *
  rw [wu_in (n := b) (by omega), wu_in (n := d) (by omega)]
  have e3 : Int.fdiv d (2 ^ 32) = d / 4294967296 := fdiv_pow d 32
  rw [e3, wu_in (n := b + d / 4294967296) (by omega), and_low (by omega), wu_in (n := c) (by omega), wu_in (n := (b + d / 4294967296) % 4294967296 + c) (by omega)]
  have e4 : Int.fdiv (b + d / 4294967296) (2 ^ 32) = (b + d / 4294967296) / 4294967296 := fdiv_pow _ 32
  have e5 : Int.fdiv ((b + d / 4294967296) % 4294967296 + c) (2 ^ 32) = ((b + d / 4294967296) % 4294967296 + c) / 4294967296 := fdiv_pow _ 32
  refine Has.ret ?_
  rw [e4, e5]
  clear e1 e2 e3 e4 e5 ex hx hy bd
  have q1 : d = 4294967296 * (d / 4294967296) + d % 4294967296 := by omega
  have q2 : 0 ≤ d % 4294967296 ∧ d % 4294967296 < 4294967296 := by omega
  have q3 : 0 ≤ d / 4294967296 ∧ d / 4294967296 ≤ 4294967295 := by omega
  generalize d / 4294967296 = m at *
  generalize d % 4294967296 = d1 at *
  have q4 : b + m = 4294967296 * ((b + m) / 4294967296) + (b + m) % 4294967296 := by omega
  have q5 : 0 ≤ (b + m) % 4294967296 ∧ (b + m) % 4294967296 < 4294967296 := by omega
  have q6 : 0 ≤ (b + m) / 4294967296 ∧ (b + m) / 4294967296 ≤ 4294967295 := by omega
  generalize (b + m) / 4294967296 = n at *
  generalize (b + m) % 4294967296 = r1 at *
  have q7 : r1 + c = 4294967296 * ((r1 + c) / 4294967296) + (r1 + c) % 4294967296 := by omega
  have q8 : 0 ≤ (r1 + c) % 4294967296 ∧ (r1 + c) % 4294967296 < 4294967296 := by omega
  have q9 : 0 ≤ (r1 + c) / 4294967296 ∧ (r1 + c) / 4294967296 ≤ 4294967295 := by omega
  generalize (r1 + c) / 4294967296 = o at *
  generalize (r1 + c) % 4294967296 = r2 at *
  have eT : a * 18446744073709551616 + (b + c) * 4294967296 + d = 18446744073709551616 * (a + n + o) + (r2 * 4294967296 + d1) := by omega
  rw [eT, wu_in (n := a) (by omega), wu_in (n := a + n) (by omega), wu_in (n := a + n + o) (by omega), wu_def]
  have : (18446744073709551616 * (a + n + o) + (r2 * 4294967296 + d1)) / 18446744073709551616 = a + n + o := by omega
  rw [this]
theorem wneg_ok (w : num_Wide) (hw : okW w) (hm : -170141183460469231731687303715884105728 < wv w) : Has (Wide_Neg w) fun r => okW r ∧ wv r = - wv w := by
  have h1 := hw.h.1; have h2 := hw.h.2; have h3 := hw.l0; have h4 := hw.l1
  unfold wv at hm
  unfold Wide_Neg
  have b1 := wu_bd w.Hi
  rw [xor_all ⟨h3, h4⟩, xor_all b1]
  refine Has.letF (Has.bind (P := fun r => r = ((18446744073709551615 - w.Lo.n + 1) % 18446744073709551616, (18446744073709551615 - w.Lo.n + 1) / 18446744073709551616)) ?_ fun r hr => Has.letF (Has.bind (P := fun q => q = ((18446744073709551615 - IntKind.wrap .u64 w.Hi + r.2) % 18446744073709551616, (18446744073709551615 - IntKind.wrap .u64 w.Hi + r.2) / 18446744073709551616)) ?_ fun q hq => Has.ret ?_))
  · unfold add64
    rw [if_pos (by omega)]
    exact Has.ret (by simp)
  · subst hr
    unfold add64
    simp only []
    rw [if_pos (by omega)]
    exact Has.ret (by simp)
  · subst hr; subst hq
    simp only [wu_def] at *
    refine ⟨⟨?_, ?_, ?_⟩, ?_⟩
    · exact w6_bd _
    · simp only []; omega
    · simp only []; omega
    · unfold wv
      simp only [w6_def]
      omega
theorem product_ok (a b : Int) (ha : okI a) (hb : okI b) : Has (num_Product a b) fun w => okW w ∧ wv w = a * b ∧ -85070591730234615865843651857942052864 ≤ a * b ∧ a * b ≤ 85070591730234615865843651857942052864 := by
  unfold num_Product
  refine (size_ok a ha).bind fun x ⟨x0, x1, x2⟩ => (size_ok b hb).bind fun y ⟨y0, y1, y2⟩ => ?_
  have p0 := Int.mul_nonneg x0 y0
  have p1 := Int.mul_le_mul_of_nonneg_right x1 y0
  have p : x.n * y.n ≤ 85070591730234615865843651857942052864 := by omega
  refine (mul64_ok x.n y.n (by omega) (by omega)).bind fun r hr => ?_
  subst hr
  simp only []
  have e0 : w6 (x.n * y.n / 18446744073709551616) = x.n * y.n / 18446744073709551616 := w6_in (by omega)
  rw [e0]
  have ow : okW (num_Wide.mk (x.n * y.n / 18446744073709551616) (NU64.mk (x.n * y.n % 18446744073709551616))) := ⟨⟨by simp only []; omega, by simp only []; omega⟩, by simp only []; omega, by simp only []; omega⟩
  have ew : wv (num_Wide.mk (x.n * y.n / 18446744073709551616) (NU64.mk (x.n * y.n % 18446744073709551616))) = x.n * y.n := by unfold wv; simp only []; omega
  refine Has.ite (fun h => ?_) fun h => Has.ret ?_
  · refine (wneg_ok _ ow (by rw [ew]; omega)).bind fun r ⟨h1, h2⟩ => Has.ret ⟨h1, ?_, ?_⟩
    · rw [h2, ew]
      rcases x2 with ⟨s, e⟩ | ⟨s, e⟩ <;> rcases y2 with ⟨t, f⟩ | ⟨t, f⟩
      · exfalso; simp at h; omega
      · rw [e, f, Int.mul_neg, Int.neg_neg]
      · rw [e, f, Int.neg_mul, Int.neg_neg]
      · exfalso; simp at h; omega
    · rcases x2 with ⟨s, e⟩ | ⟨s, e⟩ <;> rcases y2 with ⟨t, f⟩ | ⟨t, f⟩
      · exfalso; simp at h; omega
      · rw [e, f, Int.mul_neg] at p p0; omega
      · rw [e, f, Int.neg_mul] at p p0; omega
      · exfalso; simp at h; omega
  · refine ⟨ow, ?_, ?_⟩
    · rw [ew]
      rcases x2 with ⟨s, e⟩ | ⟨s, e⟩ <;> rcases y2 with ⟨t, f⟩ | ⟨t, f⟩
      · rw [e, f]
      · exfalso; simp at h; omega
      · exfalso; simp at h; omega
      · rw [e, f, Int.neg_mul_neg]
    · rcases x2 with ⟨s, e⟩ | ⟨s, e⟩ <;> rcases y2 with ⟨t, f⟩ | ⟨t, f⟩
      · rw [e, f] at p p0; omega
      · exfalso; simp at h; omega
      · exfalso; simp at h; omega
      · rw [e, f, Int.neg_mul_neg] at p p0; omega
end Lf
