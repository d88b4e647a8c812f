/- Laws of the plain functions. Conditions: as each theorem states them. -/
import Derived.Test.YtdihhgkihbnnoaaPNum
/- The quotient of a number of 128 bits by one of 64. -/
namespace Lf
open Go Go.Abs
set_option linter.unusedVariables false
set_option linter.unusedSimpArgs false
/-- A digit of the quotient, guessed too large or right. -/
structure Dig (a b u d q r : Int) : Prop where
  e : q * a + r = u
  r0 : 0 ≤ r
  lo : (u * 4294967296 + d) / (a * 4294967296 + b) ≤ q
  hi : q ≤ 4294967297
/-- What stands fast while a digit is sought. -/
structure Dg (a b u d : Int) : Prop where
  a0 : 2147483648 ≤ a
  a1 : a < 4294967296
  b0 : 0 ≤ b
  b1 : b < 4294967296
  d0 : 0 ≤ d
  d1 : d < 4294967296
  u0 : 0 ≤ u
  uv : u < a * 4294967296 + b
section
variable {a b u d q r : Int}
theorem Dg.q0 (g : Dg a b u d) : 0 ≤ (u * 4294967296 + d) / (a * 4294967296 + b) := Int.ediv_nonneg (by have := g.u0; have := g.d0; omega) (by have := g.a0; have := g.b0; omega)
theorem Dg.qB (g : Dg a b u d) : (u * 4294967296 + d) / (a * 4294967296 + b) < 4294967296 := by
  have := g.a0; have := g.b0; have := g.uv; have := g.d1; have := g.u0; have := g.d0
  rw [Int.ediv_lt_iff_lt_mul (by omega)]; omega
theorem Dg.test (g : Dg a b u d) (h : q * a + r = u) : (u * 4294967296 + d) / (a * 4294967296 + b) < q ↔ r * 4294967296 + d < q * b := by
  have := g.a0; have := g.b0
  rw [Int.ediv_lt_iff_lt_mul (by omega), Int.mul_add, ← Int.mul_assoc]
  omega
theorem Dg.first (g : Dg a b u d) : Dig a b u d (u / a) (u % a) := by
  have := g.a0; have := g.b0; have := g.u0; have := g.uv; have := g.d1; have := g.b1
  have e1 : u / a * a + u % a = u := by rw [Int.mul_comm]; exact Int.mul_ediv_add_emod u a
  have r0 := Int.emod_nonneg u (b := a) (by omega)
  have r1 := Int.emod_lt_of_pos u (b := a) (by omega)
  refine ⟨e1, r0, ?_, ?_⟩
  · by_cases h : u / a < (u * 4294967296 + d) / (a * 4294967296 + b)
    · have hq := (Int.le_ediv_iff_mul_le (by omega)).1 (show u / a + 1 ≤ (u * 4294967296 + d) / (a * 4294967296 + b) by omega)
      rw [Int.add_mul, Int.mul_add, ← Int.mul_assoc] at hq
      have hs : 0 ≤ u / a * b := Int.mul_nonneg (Int.ediv_nonneg g.u0 (by omega)) g.b0
      omega
    · omega
  · have : u / a < 4294967298 := by rw [Int.ediv_lt_iff_lt_mul (by omega)]; omega
    omega
theorem Dg.down (g : Dg a b u d) (h : Dig a b u d q r) (ht : (u * 4294967296 + d) / (a * 4294967296 + b) < q) : Dig a b u d (q - 1) (r + a) :=
  ⟨by have := h.e; rw [Int.sub_mul]; omega, by have := h.r0; have := g.a0; omega, by omega, by have := h.hi; omega⟩
theorem Dg.stop (g : Dg a b u d) (h : Dig a b u d q r) (hr : 4294967296 ≤ r) (hq : q ≤ 4294967296) : q = (u * 4294967296 + d) / (a * 4294967296 + b) := by
  have hn : ¬ (u * 4294967296 + d) / (a * 4294967296 + b) < q := by
    rw [g.test h.e]
    have h0 : 0 ≤ q := Int.le_trans g.q0 h.lo
    have := Int.mul_le_mul_of_nonneg_left (show b ≤ 4294967295 by have := g.b1; omega) h0
    have := g.d0
    omega
  have := h.lo
  omega
/-- One test: is the digit too large? -/
theorem Dg.asks (g : Dg a b u d) (h : Dig a b u d q r) (hr : r < 4294967296) (v : Int) (hv : v = IntKind.wrap .u64 (IntKind.wrap .u64 (4294967296 * r) + d)) : Has (if (decide (q ≥ 4294967296)) = true then some true else some (decide ((IntKind.wrap .u64 (q * b)) > v))) fun z => z = decide ((u * 4294967296 + d) / (a * 4294967296 + b) < q) := by
  have h0 : 0 ≤ q := Int.le_trans g.q0 h.lo
  refine Has.ite (fun hc => Has.ret ?_) fun hc => Has.ret ?_
  · have := g.qB
    simp only [decide_eq_true_eq] at hc
    exact (decide_eq_true (by omega)).symm
  · simp only [decide_eq_true_eq] at hc
    have h1 := Int.mul_le_mul_of_nonneg_left (show b ≤ 4294967295 by have := g.b1; omega) h0
    have h2 := Int.mul_nonneg h0 g.b0
    have := h.r0; have := g.d0; have := g.d1
    rw [hv, wu_in (n := q * b) (by omega), wu_in (n := 4294967296 * r) (by omega), wu_in (by omega)]
    have key := g.test (q := q) (r := r) h.e
    by_cases ht : (u * 4294967296 + d) / (a * 4294967296 + b) < q
    · rw [decide_eq_true ht, decide_eq_true]; have := key.1 ht; omega
    · rw [decide_eq_false ht, decide_eq_false]; have := mt key.2 ht; omega
end
theorem div_l1 {v7 b v13 u d : Int} {a : Int} (ea : Int.fdiv v7 (2 ^ 32) = a) (ed : Int.fdiv v13 (2 ^ 32) = d) (g : Dg a b u d) (s : Int × Int) (h : Dig a b u d s.1 s.2) (hr : s.2 < 4294967296) :
    Has (loopF (bits_Div64.l1 v7 b v13) s) fun o => o = (u * 4294967296 + d) / (a * 4294967296 + b) := by
  refine Has.loop (fun s : Int × Int => Dig a b u d s.1 s.2 ∧ s.2 < 4294967296) (fun s => s.1.toNat) (fun o : Int => o = (u * 4294967296 + d) / (a * 4294967296 + b)) ⟨h, hr⟩ (by have := h.hi; show s.1.toNat < _; omega) fun s ⟨h, hr⟩ => ?_
  unfold bits_Div64.l1
  simp only [ea, ed]
  have hq := h.hi; have h0 := h.r0; have a0 := g.a0; have a1 := g.a1; have q0 := g.q0; have hl := h.lo
  refine (g.asks h hr _ rfl).bind fun z hz => ?_
  subst hz
  refine Has.ite (fun ht => ?_) fun ht => ?_
  · have ht := of_decide_eq_true ht
    have k := g.down h ht
    rw [wu_in (n := s.2 + a) (by omega), wu_in (n := s.1 - 1) (by omega)]
    refine Has.letF (Has.ite (fun hc => Has.ret (.done ?_)) fun hc => Has.ret (.next ⟨k, ?_⟩ ?_))
    · exact g.stop k (by simpa using hc) (by omega)
    · simpa using hc
    · simp only []; omega
  · have ht : ¬ _ := fun x => ht (decide_eq_true x)
    exact Has.ret (.done (by omega))
theorem div_l2 {v7 b d u : Int} {a : Int} (ea : Int.fdiv v7 (2 ^ 32) = a) (g : Dg a b u d) (s : Int × Int) (h : Dig a b u d s.2 s.1) (hr : s.1 < 4294967296) :
    Has (loopF (bits_Div64.l2 v7 b d) s) fun o => o = (u * 4294967296 + d) / (a * 4294967296 + b) := by
  refine Has.loop (fun s : Int × Int => Dig a b u d s.2 s.1 ∧ s.1 < 4294967296) (fun s => s.2.toNat) (fun o : Int => o = (u * 4294967296 + d) / (a * 4294967296 + b)) ⟨h, hr⟩ (by have := h.hi; show s.2.toNat < _; omega) fun s ⟨h, hr⟩ => ?_
  unfold bits_Div64.l2
  simp only [ea]
  have hq := h.hi; have h0 := h.r0; have a0 := g.a0; have a1 := g.a1; have q0 := g.q0; have hl := h.lo
  refine (g.asks h hr _ rfl).bind fun z hz => ?_
  subst hz
  refine Has.ite (fun ht => ?_) fun ht => ?_
  · have ht := of_decide_eq_true ht
    have k := g.down h ht
    rw [wu_in (n := s.1 + a) (by omega), wu_in (n := s.2 - 1) (by omega)]
    refine Has.letF (Has.ite (fun hc => Has.ret (.done ?_)) fun hc => Has.ret (.next ⟨k, ?_⟩ ?_))
    · exact g.stop k (by simpa using hc) (by omega)
    · simpa using hc
    · simp only []; omega
  · have ht : ¬ _ := fun x => ht (decide_eq_true x)
    exact Has.ret (.done (by omega))
end Lf
