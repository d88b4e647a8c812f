/- Laws of the plain functions. Conditions: as each theorem states them. -/
import Derived.Test.YtdihhgkihbnnoaaPNum2
/- The quotient of a number of 128 bits by one of 64: the whole. -/
namespace Lf
open Go Go.Abs
set_option linter.unusedVariables false
set_option linter.unusedSimpArgs false
theorem div_norm {hi lo y p m : Int} (hp : 0 < p) (hm : 0 < m) (hpm : p * m = 18446744073709551616) (h0 : 0 ≤ hi) (h1 : hi < y) (l0 : 0 ≤ lo) (l1 : lo < 18446744073709551616) (y0 : m ≤ y + y) (y1 : y < m) :
    9223372036854775808 ≤ y * p ∧ y * p < 18446744073709551616 ∧ 0 ≤ hi * p ∧ hi * p + p ≤ y * p ∧ 0 ≤ lo / m ∧ lo / m < p ∧ 0 ≤ lo % m * p ∧ lo % m * p < 18446744073709551616 ∧ lo * p = 18446744073709551616 * (lo / m) + lo % m * p := by
  have c : m * p = 18446744073709551616 := by rw [Int.mul_comm]; exact hpm
  have k1 := Int.mul_le_mul_of_nonneg_right y0 (Int.le_of_lt hp)
  have k2 := Int.mul_lt_mul_of_pos_right y1 hp
  have k3 := Int.mul_nonneg h0 (Int.le_of_lt hp)
  have k4 := Int.mul_le_mul_of_nonneg_right (show hi + 1 ≤ y by omega) (Int.le_of_lt hp)
  have k5 := Int.ediv_nonneg l0 (Int.le_of_lt hm)
  have k6 : lo / m < p := by rw [Int.ediv_lt_iff_lt_mul hm, hpm]; exact l1
  have e1 := Int.emod_nonneg lo (b := m) (by omega)
  have e2 := Int.emod_lt_of_pos lo hm
  have k7 := Int.mul_nonneg e1 (Int.le_of_lt hp)
  have k8 := Int.mul_lt_mul_of_pos_right e2 hp
  have k9 : lo * p = 18446744073709551616 * (lo / m) + lo % m * p := by
    have := Int.mul_ediv_add_emod lo m
    conv => lhs; rw [← this]
    rw [Int.add_mul, Int.mul_assoc, Int.mul_comm (lo / m) p, ← Int.mul_assoc, c]
  rw [Int.add_mul] at k1
  rw [Int.add_mul, Int.one_mul] at k4
  refine ⟨by omega, by omega, k3, k4, k5, k6, k7, by omega, k9⟩
theorem div_fin {U y p Q R : Int} (hp : 0 < p) (hy : 0 < y) (e : U * p = Q * (y * p) + R) (r0 : 0 ≤ R) (r1 : R < y * p) : Q = U / y ∧ R / p = U % y := by
  have e1 : (U - Q * y) * p = R := by rw [Int.sub_mul, Int.mul_assoc]; omega
  have q0 : 0 ≤ U - Q * y := by
    by_cases h : 0 ≤ U - Q * y
    · exact h
    · have := Int.mul_lt_mul_of_pos_right (show U - Q * y < 0 by omega) hp
      omega
  have q1 : U - Q * y < y := by
    by_cases h : U - Q * y < y
    · exact h
    · have := Int.mul_le_mul_of_nonneg_right (show y ≤ U - Q * y by omega) (Int.le_of_lt hp)
      omega
  obtain ⟨a, b⟩ := (Int.ediv_emod_unique hy (a := U) (q := Q) (r := U - Q * y)).2 ⟨by rw [Int.mul_comm y Q]; omega, q0, q1⟩
  refine ⟨a.symm, ?_⟩
  rw [b, ← e1, Int.mul_ediv_cancel _ (by omega)]
theorem div64_ok (hi lo y : Int) (h0 : 0 ≤ hi) (h1 : hi < y) (hy : y < 18446744073709551616) (l0 : 0 ≤ lo) (l1 : lo < 18446744073709551616) :
    Has (bits_Div64 hi lo y) fun r => r = (NU64.mk ((hi * 18446744073709551616 + lo) / y), NU64.mk ((hi * 18446744073709551616 + lo) % y)) := by
  unfold bits_Div64
  refine Has.neg (by simp; omega) (Has.neg (by simp; omega) (Has.ite (fun hz => ?_) fun hz => ?_))
  · have hz : hi = 0 := by simpa using hz
    subst hz
    have q0 := Int.ediv_nonneg l0 (show 0 ≤ y by omega)
    have q1 := Int.ediv_le_self y l0
    have q1 : lo / y ≤ lo := Int.ediv_le_self y l0
    refine Has.chk (by omega) (Has.ret ?_)
    rw [Int.tdiv_eq_ediv_of_nonneg l0, Int.tmod_eq_emod_of_nonneg l0, wu_in (by omega)]
    simp
  · unfold bits_LeadingZeros64
    refine Has.bind (P := fun r => ∃ k : Nat, r = 64 - (k : Int) ∧ k ≤ 64 ∧ y < 2 ^ k ∧ 1 ≤ k ∧ 2 ^ (k - 1) ≤ y) ((len64_ok y ⟨by omega, hy⟩).bind fun n ⟨k, hk, k64, kl, kg⟩ => Has.ret ⟨k, by rw [hk, w6_in (by omega)], k64, kl, kg (by omega)⟩) fun r ⟨k, hr, k64, kl, k1, kg⟩ => ?_
    subst hr
    have hm : (0 : Int) < 2 ^ k := Int.pow_pos (by decide)
    have hp : (0 : Int) < 2 ^ (64 - k) := Int.pow_pos (by decide)
    have hpm : (2 : Int) ^ (64 - k) * 2 ^ k = 18446744073709551616 := by rw [← Int.pow_add, Nat.sub_add_cancel k64]; rfl
    have hmy : (2 : Int) ^ k ≤ y + y := by
      have : (2 : Int) ^ k = 2 ^ (k - 1) * 2 := by rw [← Int.pow_succ]; congr 1; omega
      omega
    obtain ⟨n1, n2, n3, n4, n5, n6, n7, n8, n9⟩ := div_norm hp hm hpm h0 h1 l0 l1 hmy kl
    have s1 : IntKind.wrap .u64 (64 - (k : Int)) = 64 - (k : Int) := wu_in (by omega)
    have s2 : min (64 - (k : Int)).toNat (IntKind.bits .u64) = 64 - k := by
      show min (64 - (k : Int)).toNat 64 = _
      omega
    have s3 : IntKind.wrap .u64 (64 - (64 - (k : Int))) = (k : Int) := by rw [wu_in (by omega)]; omega
    have s4 : min (k : Int).toNat (IntKind.bits .u64) = k := by
      show min (k : Int).toNat 64 = _
      omega
    have low : ∀ x : Int, 0 ≤ x ∧ x < 18446744073709551616 → IntKind.wrap .u64 ((BitVec.ofInt 64 x &&& BitVec.ofInt 64 4294967295).toNat : Int) = x % 4294967296 := fun x h => and_low h
    simp only [s1, s2, s3, s4]
    rw [wu_in (n := y * 2 ^ (64 - k)) ⟨by omega, n2⟩, wu_in (n := hi * 2 ^ (64 - k)) ⟨n3, by omega⟩]
    have f1 : Int.fdiv lo (2 ^ k) = lo / 2 ^ k := fdiv_pow lo k
    rw [f1]
    have w13 : IntKind.wrap .u64 (lo * 2 ^ (64 - k)) = lo % 2 ^ k * 2 ^ (64 - k) := by rw [wu_def]; omega
    rw [w13]
    refine Has.chk (by omega) (Has.letF (Has.letF (Has.letF (Has.chk (by omega) (Has.letF (Has.letF (Has.letF (Has.letF ?_))))))))
    rw [low _ ⟨by omega, n2⟩, or_add (64 - k) h0 ⟨n5, n6⟩ (by omega) n3, low _ ⟨n7, n8⟩]
    generalize hv : y * 2 ^ (64 - k) = v at *
    generalize hu : hi * 2 ^ (64 - k) + lo / 2 ^ k = u at *
    generalize ht : lo % 2 ^ k * 2 ^ (64 - k) = t at *
    have ea : Int.fdiv v (2 ^ 32) = v / 4294967296 := fdiv_pow v 32
    have ed : Int.fdiv t (2 ^ 32) = t / 4294967296 := fdiv_pow t 32
    rw [ea, ed]
    have vv : v / 4294967296 * 4294967296 + v % 4294967296 = v := by omega
    have u0 : 0 ≤ u := by omega
    have uv : u < v := by omega
    have g1 : Dg (v / 4294967296) (v % 4294967296) u (t / 4294967296) := ⟨by omega, by omega, by omega, by omega, by omega, by omega, u0, by omega⟩
    have t1 : IntKind.wrap .u64 (Int.tdiv u (v / 4294967296)) = u / (v / 4294967296) := by
      rw [Int.tdiv_eq_ediv_of_nonneg u0]
      have := Int.ediv_nonneg u0 (show 0 ≤ v / 4294967296 by omega)
      have := Int.ediv_le_self (v / 4294967296) u0
      exact wu_in (by omega)
    have t2 : u / (v / 4294967296) * (v / 4294967296) + u % (v / 4294967296) = u := by rw [Int.mul_comm]; exact Int.mul_ediv_add_emod u _
    have t3 := Int.emod_nonneg u (b := v / 4294967296) (by omega)
    have t4 := Int.emod_lt_of_pos u (b := v / 4294967296) (by omega)
    rw [t1]
    refine Has.chk (by omega) (Has.letF ?_)
    have t7 : 0 ≤ u / (v / 4294967296) * (v / 4294967296) := Int.mul_nonneg (Int.ediv_nonneg u0 (by omega)) (by omega)
    have t5 : IntKind.wrap .u64 (u / (v / 4294967296) * (v / 4294967296)) = u / (v / 4294967296) * (v / 4294967296) := wu_in (by omega)
    have t6 : IntKind.wrap .u64 (u - u / (v / 4294967296) * (v / 4294967296)) = u % (v / 4294967296) := by rw [wu_in (by omega)]; omega
    rw [t5, t6]
    refine (div_l1 ea ed g1 (u / (v / 4294967296), u % (v / 4294967296)) g1.first (by have := g1.a1; show u % (v / 4294967296) < _; omega)).bind fun z hz => ?_
    rw [vv] at hz
    -- the first digit
    have z0 := g1.q0
    have zB := g1.qB
    rw [vv, ← hz] at z0 zB
    have zr := Int.mul_ediv_add_emod (u * 4294967296 + t / 4294967296) v
    rw [← hz] at zr
    have zr0 := Int.emod_nonneg (u * 4294967296 + t / 4294967296) (b := v) (by omega)
    have zr1 := Int.emod_lt_of_pos (u * 4294967296 + t / 4294967296) (b := v) (by omega)
    rw [Int.mul_comm v z] at zr
    generalize hR : (u * 4294967296 + t / 4294967296) % v = R at *
    have x1 : IntKind.wrap .u64 (IntKind.wrap .u64 (IntKind.wrap .u64 (u * 4294967296) + t / 4294967296) - IntKind.wrap .u64 (z * v)) = R := by
      simp only [wu_def]; omega
    refine Has.letF ?_
    simp only [x1]
    have g2 : Dg (v / 4294967296) (v % 4294967296) R (t % 4294967296) := ⟨by omega, by omega, by omega, by omega, by omega, by omega, zr0, by omega⟩
    have y1 : IntKind.wrap .u64 (Int.tdiv R (v / 4294967296)) = R / (v / 4294967296) := by
      rw [Int.tdiv_eq_ediv_of_nonneg zr0]
      have := Int.ediv_nonneg zr0 (show 0 ≤ v / 4294967296 by omega)
      have := Int.ediv_le_self (v / 4294967296) zr0
      exact wu_in (by omega)
    have y2 : R / (v / 4294967296) * (v / 4294967296) + R % (v / 4294967296) = R := by rw [Int.mul_comm]; exact Int.mul_ediv_add_emod R _
    have y3 := Int.emod_nonneg R (b := v / 4294967296) (by omega)
    have y4 := Int.emod_lt_of_pos R (b := v / 4294967296) (by omega)
    have y7 : 0 ≤ R / (v / 4294967296) * (v / 4294967296) := Int.mul_nonneg (Int.ediv_nonneg zr0 (by omega)) (by omega)
    have y5 : IntKind.wrap .u64 (R - IntKind.wrap .u64 (R / (v / 4294967296) * (v / 4294967296))) = R % (v / 4294967296) := by rw [wu_in (n := R / (v / 4294967296) * (v / 4294967296)) (by omega), wu_in (by omega)]; omega
    rw [y1]
    refine Has.letF (Has.letF ?_)
    simp only [y5]
    refine (div_l2 ea g2 (R % (v / 4294967296), R / (v / 4294967296)) g2.first (by have := g2.a1; show R % (v / 4294967296) < _; omega)).bind fun x hx => ?_
    rw [vv] at hx
    have x0 := g2.q0
    have xB := g2.qB
    rw [vv, ← hx] at x0 xB
    have xr := Int.mul_ediv_add_emod (R * 4294967296 + t % 4294967296) v
    rw [← hx] at xr
    have xr0 := Int.emod_nonneg (R * 4294967296 + t % 4294967296) (b := v) (by omega)
    have xr1 := Int.emod_lt_of_pos (R * 4294967296 + t % 4294967296) (b := v) (by omega)
    rw [Int.mul_comm v x] at xr
    generalize hT : (R * 4294967296 + t % 4294967296) % v = T at *
    have w1 : IntKind.wrap .u64 (IntKind.wrap .u64 (IntKind.wrap .u64 (R * 4294967296) + t % 4294967296) - IntKind.wrap .u64 (x * v)) = T := by
      simp only [wu_def]; omega
    have w2 : IntKind.wrap .u64 (IntKind.wrap .u64 (z * 4294967296) + x) = z * 4294967296 + x := by rw [wu_in (n := z * 4294967296) (by omega), wu_in (by omega)]
    refine Has.letF (Has.letF (Has.letF (Has.letF (Has.ret ?_))))
    simp only [w1, w2]
    rw [fdiv_pow T (64 - k)]
    have key : (hi * 18446744073709551616 + lo) * 2 ^ (64 - k) = (z * 4294967296 + x) * (y * 2 ^ (64 - k)) + T := by
      rw [hv, Int.add_mul, Int.add_mul, Int.mul_right_comm, Int.mul_right_comm z]
      omega
    obtain ⟨q1, q2⟩ := div_fin hp (show 0 < y by omega) key xr0 (by rw [hv]; exact xr1)
    rw [q1, q2]
end Lf
