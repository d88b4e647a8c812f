/- Laws of the plain functions. Conditions: as each theorem states them. -/
import Derived.Test.YthgccmnmalhmcaaD
import Derived.Test.YthgccmnmalhmcaaA4
import Derived.Lib.Mul64
/- Plain facts of streams and bounds, for the functions of ArwD. -/
namespace Lf
open Go Go.Abs
set_option linter.unusedVariables false
set_option linter.unusedSimpArgs false
structure okS (s : spymake_Stream) : Prop where
 z : ∀ z ∈ s.L, -9223372036854775808 ≤ z ∧ z ≤ 9223372036854775807
 len : s.L.length ≤ 17592186044416
 a0 : 0 ≤ s.at_
 a1 : s.at_ ≤ 4611686018427387904
theorem okS.start {l : List Int} (h : okL l) : okS (spymake_Stream.mk l 0) := ⟨h.z, by have := h.len; simp only []; omega, Int.le_refl _, by simp only []; omega⟩
structure after (s t : spymake_Stream) (k : Int) : Prop where
 L : t.L = s.L
 lo : s.at_ ≤ t.at_
 hi : t.at_ ≤ s.at_ + k
theorem after.refl (s : spymake_Stream) : after s s 0 := ⟨rfl, Int.le_refl _, by omega⟩
theorem after.trans {s t u : spymake_Stream} {k m : Int} (h : after s t k) (g : after t u m) : after s u (k + m) := ⟨g.L.trans h.L, Int.le_trans h.lo g.lo, by have := h.hi; have := g.hi; omega⟩
theorem after.more {s t : spymake_Stream} {k m : Int} (h : after s t k) (hk : k ≤ m) : after s t m := ⟨h.L, h.lo, by have := h.hi; omega⟩
theorem after.ok {s t : spymake_Stream} {k : Int} (h : after s t k) (g : okS s) (hk : s.at_ + k ≤ 4611686018427387904) : okS t := ⟨by rw [h.L]; exact g.z, by rw [h.L]; exact g.len, by have := h.lo; have := g.a0; omega, by have := h.hi; omega⟩
theorem below_ok (x n : Int) (hx : -9223372036854775808 ≤ x ∧ x ≤ 9223372036854775807) (hn : 1 ≤ n ∧ n ≤ 9223372036854775807) : Has (spymake_Below x n) fun v => 0 ≤ v ∧ v < n := by
 unfold spymake_Below
 have h1 := Int.lt_tmod_of_pos x (b := n) (by omega)
 have h2 := Int.tmod_lt_of_pos x (b := n) (by omega)
 refine Has.neg (by simp; omega) (Has.chk (by omega) (Has.ite (fun h => Has.ret ?_) fun h => Has.ret ?_))
 ·simp only [decide_eq_true_eq] at h; rw [w6_in (by omega)]; omega
 ·simp only [decide_eq_true_eq] at h; omega
theorem below_zero (x n : Int) (hn : n ≤ 0) : spymake_Below x n = some 0 := by unfold spymake_Below; rw [if_pos (by simp; omega)]
theorem next_ok (s : spymake_Stream) (n : Int) (hs : okS s) (ha : s.at_ < 4611686018427387904) (hn : 1 ≤ n ∧ n ≤ 9223372036854775807) : Has (Stream_Next s n) fun r => 0 ≤ r.1 ∧ r.1 < n ∧ after s r.2 1 := by
 have h0 := hs.a0
 have hl := hs.len
 have e1 : w6 (s.at_ + 1) = s.at_ + 1 := w6_in (by omega)
 have fin : after s (spymake_Stream.mk s.L (s.at_ + 1)) 1 := ⟨rfl, by simp only []; omega, Int.le_refl _⟩
 unfold Stream_Next
 simp only [e1]
 refine Has.ite (fun hz => ?_) fun hz => ?_
 ·exact (below_ok _ n (w6_bd _) hn).bind fun v hv => Has.ret ⟨hv.1, hv.2, fin⟩
 ·have hz : s.L.length ≠ 0 := by simpa using hz
  have e2 : w6 (s.at_ + 1 - 1) = s.at_ := by rw [w6_in (by omega)]; omega
  have b1 := Int.tmod_nonneg (s.L.length : Int) hs.a0
  have b2 := Int.tmod_lt_of_pos s.at_ (b := (s.L.length : Int)) (by omega)
  simp only [e2]
  refine Has.chk (by omega) (Has.chk ⟨b1, b2⟩ ?_)
  refine (below_ok _ 1073741824 (hs.z _ (gt_mem _ _ ⟨b1, b2⟩)) (by omega)).bind fun v hv => Has.letF (Has.letF ?_)
  exact (below_ok _ n (w6_bd _) hn).bind fun u hu => Has.ret ⟨hu.1, hu.2, fin⟩
theorem range_ok (s : spymake_Stream) (lo hi : Int) (hs : okS s) (ha : s.at_ < 4611686018427387904) (h : lo ≤ hi) (h1 : -2305843009213693952 ≤ lo) (h2 : hi ≤ 2305843009213693952) : Has (Stream_Range s lo hi) fun r => lo ≤ r.1 ∧ r.1 ≤ hi ∧ after s r.2 1 := by
 unfold Stream_Range
 rw [w6_in (n := hi - lo) (by omega), w6_in (n := hi - lo + 1) (by omega)]
 refine Has.neg (by simp; omega) ((next_ok s (hi - lo + 1) hs ha (by omega)).bind fun r hr => Has.ret ?_)
 rw [w6_in (by omega)]
 exact ⟨by omega, by omega, hr.2.2⟩
end Lf
/- Words of 64 bits: lengths, products, quotients. -/
namespace Lf
open Go Go.Abs
set_option linter.unusedVariables false
set_option linter.unusedSimpArgs false
theorem wu_in {n : Int} (h : 0 ≤ n ∧ n < 18446744073709551616) : IntKind.wrap .u64 n = n := by rw [IntKind.wrap_u64]; omega
theorem wu_def (n : Int) : IntKind.wrap .u64 n = n % 18446744073709551616 := IntKind.wrap_u64 n
theorem wu_bd (n : Int) : 0 ≤ IntKind.wrap .u64 n ∧ IntKind.wrap .u64 n < 18446744073709551616 := by rw [wu_def]; omega
theorem w8_in {n : Int} (h : 0 ≤ n ∧ n < 256) : IntKind.wrap .u8 n = n := by rw [IntKind.wrap_u8]; omega
theorem fdiv_pow (x : Int) (k : Nat) : Int.fdiv x (2 ^ k) = x / 2 ^ k := Int.fdiv_eq_ediv_of_nonneg x (Int.le_of_lt (Int.pow_pos (by decide)))
theorem u_nat {x : Int} (h : 0 ≤ x ∧ x < 18446744073709551616) : (BitVec.ofInt 64 x).toNat = x.toNat := by
 rw [BitVec.toNat_ofInt]; omega
theorem and_low {x : Int} (h : 0 ≤ x ∧ x < 18446744073709551616) : IntKind.wrap .u64 ((BitVec.ofInt 64 x &&& BitVec.ofInt 64 4294967295).toNat : Int) = x % 4294967296 := by
 rw [BitVec.toNat_and, u_nat h, u_nat (by omega), show (4294967295 : Int).toNat = 2 ^ 32 - 1 from rfl, Nat.and_two_pow_sub_one_eq_mod, wu_in (by omega)]
 omega
theorem xor_all {x : Int} (h : 0 ≤ x ∧ x < 18446744073709551616) : IntKind.wrap .u64 ((BitVec.ofInt 64 (18446744073709551615) ^^^ BitVec.ofInt 64 x).toNat : Int) = 18446744073709551615 - x := by
 have e : BitVec.ofInt 64 18446744073709551615 = BitVec.allOnes 64 := by decide
 rw [e, BitVec.allOnes_xor, BitVec.toNat_not, u_nat h, wu_in (by omega)]
 omega
theorem or_add {x y : Int} (k : Nat) (hx : 0 ≤ x) (hy : 0 ≤ y ∧ y < 2 ^ k) (h : x * 2 ^ k + y < 18446744073709551616) (hk : 0 ≤ x * 2 ^ k) : IntKind.wrap .u64 ((BitVec.ofInt 64 (x * 2 ^ k) ||| BitVec.ofInt 64 y).toNat : Int) = x * 2 ^ k + y := by
 rw [BitVec.toNat_or, u_nat (by omega), u_nat (by omega)]
 obtain ⟨a, rfl⟩ := Int.eq_ofNat_of_zero_le hx
 obtain ⟨b, rfl⟩ := Int.eq_ofNat_of_zero_le hy.1
 have e : ((a : Int) * 2 ^ k).toNat = a <<< k := by
  rw [Nat.shiftLeft_eq]
  have : (a : Int) * 2 ^ k = ((a * 2 ^ k : Nat) : Int) := by simp
  rw [this]; rfl
 have hb : b < 2 ^ k := by
  have := hy.2
  exact_mod_cast this
 rw [e, show ((b : Int)).toNat = b from rfl, ← Nat.shiftLeft_add_eq_or_of_lt hb, Nat.shiftLeft_eq]
 have e2 : ((a * 2 ^ k + b : Nat) : Int) = (a : Int) * 2 ^ k + b := by simp
 rw [e2, wu_in (by omega)]
theorem tab_ok : ∀ i : Fin 256, (tab1.getD i.val 0).toNat ≤ 8 ∧ i.val < 2 ^ (tab1.getD i.val 0).toNat ∧ (0 < i.val → 1 ≤ (tab1.getD i.val 0).toNat ∧ 2 ^ ((tab1.getD i.val 0).toNat - 1) ≤ i.val) := by decide +kernel
theorem tab_len : tab1.length = 256 := by decide +kernel
theorem len_fin {x : Int} (c : Nat) (hx : 0 ≤ x) (hc : c ≤ 56) (h : x / 2 ^ c < 256) (hp : 0 < c → 2 ^ c ≤ x) : Has (if (0 : Int) ≤ IntKind.wrap .u8 (x / 2 ^ c) ∧ (IntKind.wrap .u8 (x / 2 ^ c)).toNat < tab1.length then some (w6 ((c : Int) + (w6 (tabAt tab1 (IntKind.wrap .u8 (x / 2 ^ c)))))) else none) fun n => ∃ k : Nat, n = k ∧ k ≤ 64 ∧ x < 2 ^ k ∧ (0 < x → 1 ≤ k ∧ 2 ^ (k - 1) ≤ x) := by
 have p : (0 : Int) < 2 ^ c := Int.pow_pos (by decide)
 have h0 : 0 ≤ x / 2 ^ c := Int.ediv_nonneg hx (Int.le_of_lt p)
 rw [w8_in ⟨h0, h⟩, tab_len]
 obtain ⟨t1, t2, t3⟩ := tab_ok ⟨(x / 2 ^ c).toNat, by omega⟩
 simp only [] at t1 t2 t3
 have e : tabAt tab1 (x / 2 ^ c) = ((tab1.getD (x / 2 ^ c).toNat 0).toNat : Int) := rfl
 generalize (tab1.getD (x / 2 ^ c).toNat 0).toNat = t at *
 refine Has.chk ⟨h0, by omega⟩ (Has.ret ⟨c + t, ?_, by omega, ?_, fun h1 => ?_⟩)
 ·have e3 : w6 (t : Int) = t := w6_in (by omega)
  rw [e, e3, w6_in (by omega)]; omega
 ·have : x / 2 ^ c < 2 ^ t := by
   have : (((x / 2 ^ c).toNat : Nat) : Int) < ((2 ^ t : Nat) : Int) := Int.ofNat_lt.2 t2
   rw [Int.toNat_of_nonneg h0] at this
   simpa using this
  have := (Int.ediv_lt_iff_lt_mul p).1 this
  rw [Nat.add_comm, Int.pow_add]; exact this
 ·have h3 : 0 < (x / 2 ^ c).toNat := by
   have : 1 ≤ x / 2 ^ c := by
    rw [Int.le_ediv_iff_mul_le p]
    rcases Nat.eq_zero_or_pos c with rfl | hcp
    ·simp; omega
    ·have := hp hcp; omega
   omega
  obtain ⟨k1, k2⟩ := t3 h3
  refine ⟨by omega, ?_⟩
  have k2' : (2 : Int) ^ (t - 1) ≤ x / 2 ^ c := by
   have : ((2 ^ (t - 1) : Nat) : Int) ≤ (((x / 2 ^ c).toNat : Nat) : Int) := Int.ofNat_le.2 k2
   rw [Int.toNat_of_nonneg h0] at this
   simpa using this
  have := (Int.le_ediv_iff_mul_le p).1 k2'
  rw [show c + t - 1 = (t - 1) + c by omega, Int.pow_add]; exact this
theorem len64_ok (x : Int) (hx : 0 ≤ x ∧ x < 18446744073709551616) : Has (bits_Len64 x) fun n => ∃ k : Nat, n = k ∧ k ≤ 64 ∧ x < 2 ^ k ∧ (0 < x → 1 ≤ k ∧ 2 ^ (k - 1) ≤ x) := by
 have d0 : Int.fdiv x (2 ^ 32) = x / 2 ^ 32 := fdiv_pow x 32
 have d1 : Int.fdiv x (2 ^ 16) = x / 2 ^ 16 := fdiv_pow x 16
 have d2 : Int.fdiv x (2 ^ 8) = x / 2 ^ 8 := fdiv_pow x 8
 have d3 : Int.fdiv (x / 2 ^ 32) (2 ^ 16) = x / 2 ^ 48 := by rw [fdiv_pow]; omega
 have d4 : Int.fdiv (x / 2 ^ 48) (2 ^ 8) = x / 2 ^ 56 := by rw [fdiv_pow]; omega
 have d5 : Int.fdiv (x / 2 ^ 32) (2 ^ 8) = x / 2 ^ 40 := by rw [fdiv_pow]; omega
 have d6 : Int.fdiv (x / 2 ^ 16) (2 ^ 8) = x / 2 ^ 24 := by rw [fdiv_pow]; omega
 unfold bits_Len64
 simp only [d0, d1, d2, d3, d4, d5, d6, decide_eq_true_eq]
 refine Has.ite (fun h1 => Has.ite (fun h2 => Has.ite (fun h3 => ?_) fun h3 => ?_) fun h2 => Has.ite (fun h3 => ?_) fun h3 => ?_) fun h1 => Has.ite (fun h2 => Has.ite (fun h3 => ?_) fun h3 => ?_) fun h2 => Has.ite (fun h3 => ?_) fun h3 => ?_
 ·exact len_fin 56 hx.1 (by omega) (by omega) (by omega)
 ·exact len_fin 48 hx.1 (by omega) (by omega) (by omega)
 ·exact len_fin 40 hx.1 (by omega) (by omega) (by omega)
 ·exact len_fin 32 hx.1 (by omega) (by omega) (by omega)
 ·exact len_fin 24 hx.1 (by omega) (by omega) (by omega)
 ·exact len_fin 16 hx.1 (by omega) (by omega) (by omega)
 ·exact len_fin 8 hx.1 (by omega) (by omega) (by omega)
 ·have := len_fin (x := x) 0 hx.1 (by omega) (by omega) (by omega)
  simpa using this
end Lf
/- The quotient of a number of 128 bits by one of 64. -/
namespace Lf
open Go Go.Abs
set_option linter.unusedVariables false
set_option linter.unusedSimpArgs false
structure Dig (a b u d q r : Int) : Prop where
 e : q * a + r = u
 r0 : 0 ≤ r
 lo : (u * 4294967296 + d) / (a * 4294967296 + b) ≤ q
 hi : q ≤ 4294967297
structure Dg (a b u d : Int) : Prop where
 a0 : 2147483648 ≤ a
 a1 : a < 4294967296
 b0 : 0 ≤ b
 b1 : b < 4294967296
 d0 : 0 ≤ d
 d1 : d < 4294967296
 u0 : 0 ≤ u
 uv : u < a * 4294967296 + b
section
variable {a b u d q r : Int}
theorem Dg.q0 (g : Dg a b u d) : 0 ≤ (u * 4294967296 + d) / (a * 4294967296 + b) := Int.ediv_nonneg (by have := g.u0; have := g.d0; omega) (by have := g.a0; have := g.b0; omega)
theorem Dg.qB (g : Dg a b u d) : (u * 4294967296 + d) / (a * 4294967296 + b) < 4294967296 := by
 have := g.a0; have := g.b0; have := g.uv; have := g.d1; have := g.u0; have := g.d0
 rw [Int.ediv_lt_iff_lt_mul (by omega)]; omega
theorem Dg.test (g : Dg a b u d) (h : q * a + r = u) : (u * 4294967296 + d) / (a * 4294967296 + b) < q ↔ r * 4294967296 + d < q * b := by
 have := g.a0; have := g.b0
 rw [Int.ediv_lt_iff_lt_mul (by omega), Int.mul_add, ← Int.mul_assoc]
 omega
theorem Dg.first (g : Dg a b u d) : Dig a b u d (u / a) (u % a) := by
 have := g.a0; have := g.b0; have := g.u0; have := g.uv; have := g.d1; have := g.b1
 have e1 : u / a * a + u % a = u := by rw [Int.mul_comm]; exact Int.mul_ediv_add_emod u a
 have r0 := Int.emod_nonneg u (b := a) (by omega)
 have r1 := Int.emod_lt_of_pos u (b := a) (by omega)
 refine ⟨e1, r0, ?_, ?_⟩
 ·by_cases h : u / a < (u * 4294967296 + d) / (a * 4294967296 + b)
  ·have hq := (Int.le_ediv_iff_mul_le (by omega)).1 (show u / a + 1 ≤ (u * 4294967296 + d) / (a * 4294967296 + b) by omega)
   rw [Int.add_mul, Int.mul_add, ← Int.mul_assoc] at hq
   have hs : 0 ≤ u / a * b := Int.mul_nonneg (Int.ediv_nonneg g.u0 (by omega)) g.b0
   omega
  ·omega
 ·have : u / a < 4294967298 := by rw [Int.ediv_lt_iff_lt_mul (by omega)]; omega
  omega
theorem Dg.down (g : Dg a b u d) (h : Dig a b u d q r) (ht : (u * 4294967296 + d) / (a * 4294967296 + b) < q) : Dig a b u d (q - 1) (r + a) :=
 ⟨by have := h.e; rw [Int.sub_mul]; omega, by have := h.r0; have := g.a0; omega, by omega, by have := h.hi; omega⟩
theorem Dg.stop (g : Dg a b u d) (h : Dig a b u d q r) (hr : 4294967296 ≤ r) (hq : q ≤ 4294967296) : q = (u * 4294967296 + d) / (a * 4294967296 + b) := by
 have hn : ¬ (u * 4294967296 + d) / (a * 4294967296 + b) < q := by
  rw [g.test h.e]
  have h0 : 0 ≤ q := Int.le_trans g.q0 h.lo
  have := Int.mul_le_mul_of_nonneg_left (show b ≤ 4294967295 by have := g.b1; omega) h0
  have := g.d0
  omega
 have := h.lo
 omega
theorem Dg.asks (g : Dg a b u d) (h : Dig a b u d q r) (hr : r < 4294967296) (v : Int) (hv : v = IntKind.wrap .u64 (IntKind.wrap .u64 (4294967296 * r) + d)) : Has (if (decide (q ≥ 4294967296)) = true then some true else some (decide ((IntKind.wrap .u64 (q * b)) > v))) fun z => z = decide ((u * 4294967296 + d) / (a * 4294967296 + b) < q) := by
 have h0 : 0 ≤ q := Int.le_trans g.q0 h.lo
 refine Has.ite (fun hc => Has.ret ?_) fun hc => Has.ret ?_
 ·have := g.qB
  simp only [decide_eq_true_eq] at hc
  exact (decide_eq_true (by omega)).symm
 ·simp only [decide_eq_true_eq] at hc
  have h1 := Int.mul_le_mul_of_nonneg_left (show b ≤ 4294967295 by have := g.b1; omega) h0
  have h2 := Int.mul_nonneg h0 g.b0
  have := h.r0; have := g.d0; have := g.d1
  rw [hv, wu_in (n := q * b) (by omega), wu_in (n := 4294967296 * r) (by omega), wu_in (by omega)]
  have key := g.test (q := q) (r := r) h.e
  by_cases ht : (u * 4294967296 + d) / (a * 4294967296 + b) < q
  ·rw [decide_eq_true ht, decide_eq_true]; have := key.1 ht; omega
  ·rw [decide_eq_false ht, decide_eq_false]; have := mt key.2 ht; omega
end
theorem div_l1 {v7 b v13 u d : Int} {a : Int} (ea : Int.fdiv v7 (2 ^ 32) = a) (ed : Int.fdiv v13 (2 ^ 32) = d) (g : Dg a b u d) (s : Int × Int) (h : Dig a b u d s.1 s.2) (hr : s.2 < 4294967296) :
  Has (loopF (bits_Div64.l1 v7 b v13) s) fun o => o = (u * 4294967296 + d) / (a * 4294967296 + b) := by
 refine Has.loop (fun s : Int × Int => Dig a b u d s.1 s.2 ∧ s.2 < 4294967296) (fun s => s.1.toNat) (fun o : Int => o = (u * 4294967296 + d) / (a * 4294967296 + b)) ⟨h, hr⟩ (by have := h.hi; show s.1.toNat < _; omega) fun s ⟨h, hr⟩ => ?_
 unfold bits_Div64.l1
 simp only [ea, ed]
 have hq := h.hi; have h0 := h.r0; have a0 := g.a0; have a1 := g.a1; have q0 := g.q0; have hl := h.lo
 refine (g.asks h hr _ rfl).bind fun z hz => ?_
 subst hz
 refine Has.ite (fun ht => ?_) fun ht => ?_
 ·have ht := of_decide_eq_true ht
  have k := g.down h ht
  rw [wu_in (n := s.2 + a) (by omega), wu_in (n := s.1 - 1) (by omega)]
  refine Has.letF (Has.ite (fun hc => Has.ret (.done ?_)) fun hc => Has.ret (.next ⟨k, ?_⟩ ?_))
  ·exact g.stop k (by simpa using hc) (by omega)
  ·simpa using hc
  ·simp only []; omega
 ·have ht : ¬ _ := fun x => ht (decide_eq_true x)
  exact Has.ret (.done (by omega))
theorem div_l2 {v7 b d u : Int} {a : Int} (ea : Int.fdiv v7 (2 ^ 32) = a) (g : Dg a b u d) (s : Int × Int) (h : Dig a b u d s.2 s.1) (hr : s.1 < 4294967296) :
  Has (loopF (bits_Div64.l2 v7 b d) s) fun o => o = (u * 4294967296 + d) / (a * 4294967296 + b) := by
 refine Has.loop (fun s : Int × Int => Dig a b u d s.2 s.1 ∧ s.1 < 4294967296) (fun s => s.2.toNat) (fun o : Int => o = (u * 4294967296 + d) / (a * 4294967296 + b)) ⟨h, hr⟩ (by have := h.hi; show s.2.toNat < _; omega) fun s ⟨h, hr⟩ => ?_
 unfold bits_Div64.l2
 simp only [ea]
 have hq := h.hi; have h0 := h.r0; have a0 := g.a0; have a1 := g.a1; have q0 := g.q0; have hl := h.lo
 refine (g.asks h hr _ rfl).bind fun z hz => ?_
 subst hz
 refine Has.ite (fun ht => ?_) fun ht => ?_
 ·have ht := of_decide_eq_true ht
  have k := g.down h ht
  rw [wu_in (n := s.1 + a) (by omega), wu_in (n := s.2 - 1) (by omega)]
  refine Has.letF (Has.ite (fun hc => Has.ret (.done ?_)) fun hc => Has.ret (.next ⟨k, ?_⟩ ?_))
  ·exact g.stop k (by simpa using hc) (by omega)
  ·simpa using hc
  ·simp only []; omega
 ·have ht : ¬ _ := fun x => ht (decide_eq_true x)
  exact Has.ret (.done (by omega))
end Lf
/- The quotient of a number of 128 bits by one of 64: the whole. -/
namespace Lf
open Go Go.Abs
set_option linter.unusedVariables false
set_option linter.unusedSimpArgs false
theorem div_norm {hi lo y p m : Int} (hp : 0 < p) (hm : 0 < m) (hpm : p * m = 18446744073709551616) (h0 : 0 ≤ hi) (h1 : hi < y) (l0 : 0 ≤ lo) (l1 : lo < 18446744073709551616) (y0 : m ≤ y + y) (y1 : y < m) :
  9223372036854775808 ≤ y * p ∧ y * p < 18446744073709551616 ∧ 0 ≤ hi * p ∧ hi * p + p ≤ y * p ∧ 0 ≤ lo / m ∧ lo / m < p ∧ 0 ≤ lo % m * p ∧ lo % m * p < 18446744073709551616 ∧ lo * p = 18446744073709551616 * (lo / m) + lo % m * p := by
 have c : m * p = 18446744073709551616 := by rw [Int.mul_comm]; exact hpm
 have k1 := Int.mul_le_mul_of_nonneg_right y0 (Int.le_of_lt hp)
 have k2 := Int.mul_lt_mul_of_pos_right y1 hp
 have k3 := Int.mul_nonneg h0 (Int.le_of_lt hp)
 have k4 := Int.mul_le_mul_of_nonneg_right (show hi + 1 ≤ y by omega) (Int.le_of_lt hp)
 have k5 := Int.ediv_nonneg l0 (Int.le_of_lt hm)
 have k6 : lo / m < p := by rw [Int.ediv_lt_iff_lt_mul hm, hpm]; exact l1
 have e1 := Int.emod_nonneg lo (b := m) (by omega)
 have e2 := Int.emod_lt_of_pos lo hm
 have k7 := Int.mul_nonneg e1 (Int.le_of_lt hp)
 have k8 := Int.mul_lt_mul_of_pos_right e2 hp
 have k9 : lo * p = 18446744073709551616 * (lo / m) + lo % m * p := by
  have := Int.mul_ediv_add_emod lo m
  conv => lhs; rw [← this]
  rw [Int.add_mul, Int.mul_assoc, Int.mul_comm (lo / m) p, ← Int.mul_assoc, c]
 rw [Int.add_mul] at k1
 rw [Int.add_mul, Int.one_mul] at k4
 refine ⟨by omega, by omega, k3, k4, k5, k6, k7, by omega, k9⟩
theorem div_fin {U y p Q R : Int} (hp : 0 < p) (hy : 0 < y) (e : U * p = Q * (y * p) + R) (r0 : 0 ≤ R) (r1 : R < y * p) : Q = U / y ∧ R / p = U % y := by
 have e1 : (U - Q * y) * p = R := by rw [Int.sub_mul, Int.mul_assoc]; omega
 have q0 : 0 ≤ U - Q * y := by
  by_cases h : 0 ≤ U - Q * y
  ·exact h
  ·have := Int.mul_lt_mul_of_pos_right (show U - Q * y < 0 by omega) hp
   omega
 have q1 : U - Q * y < y := by
  by_cases h : U - Q * y < y
  ·exact h
  ·have := Int.mul_le_mul_of_nonneg_right (show y ≤ U - Q * y by omega) (Int.le_of_lt hp)
   omega
 obtain ⟨a, b⟩ := (Int.ediv_emod_unique hy (a := U) (q := Q) (r := U - Q * y)).2 ⟨by rw [Int.mul_comm y Q]; omega, q0, q1⟩
 refine ⟨a.symm, ?_⟩
 rw [b, ← e1, Int.mul_ediv_cancel _ (by omega)]
theorem div64_ok (hi lo y : Int) (h0 : 0 ≤ hi) (h1 : hi < y) (hy : y < 18446744073709551616) (l0 : 0 ≤ lo) (l1 : lo < 18446744073709551616) :
  Has (bits_Div64 hi lo y) fun r => r = (NU64.mk ((hi * 18446744073709551616 + lo) / y), NU64.mk ((hi * 18446744073709551616 + lo) % y)) := by
 unfold bits_Div64
 refine Has.neg (by simp; omega) (Has.neg (by simp; omega) (Has.ite (fun hz => ?_) fun hz => ?_))
 ·have hz : hi = 0 := by simpa using hz
  subst hz
  have q0 := Int.ediv_nonneg l0 (show 0 ≤ y by omega)
  have q1 := Int.ediv_le_self y l0
  have q1 : lo / y ≤ lo := Int.ediv_le_self y l0
  refine Has.chk (by omega) (Has.ret ?_)
  rw [Int.tdiv_eq_ediv_of_nonneg l0, Int.tmod_eq_emod_of_nonneg l0, wu_in (by omega)]
  simp
 ·unfold bits_LeadingZeros64
  refine Has.bind (P := fun r => ∃ k : Nat, r = 64 - (k : Int) ∧ k ≤ 64 ∧ y < 2 ^ k ∧ 1 ≤ k ∧ 2 ^ (k - 1) ≤ y) ((len64_ok y ⟨by omega, hy⟩).bind fun n ⟨k, hk, k64, kl, kg⟩ => Has.ret ⟨k, by rw [hk, w6_in (by omega)], k64, kl, kg (by omega)⟩) fun r ⟨k, hr, k64, kl, k1, kg⟩ => ?_
  subst hr
  have hm : (0 : Int) < 2 ^ k := Int.pow_pos (by decide)
  have hp : (0 : Int) < 2 ^ (64 - k) := Int.pow_pos (by decide)
  have hpm : (2 : Int) ^ (64 - k) * 2 ^ k = 18446744073709551616 := by rw [← Int.pow_add, Nat.sub_add_cancel k64]; rfl
  have hmy : (2 : Int) ^ k ≤ y + y := by
   have : (2 : Int) ^ k = 2 ^ (k - 1) * 2 := by rw [← Int.pow_succ]; congr 1; omega
   omega
  obtain ⟨n1, n2, n3, n4, n5, n6, n7, n8, n9⟩ := div_norm hp hm hpm h0 h1 l0 l1 hmy kl
  have s1 : IntKind.wrap .u64 (64 - (k : Int)) = 64 - (k : Int) := wu_in (by omega)
  have s2 : min (64 - (k : Int)).toNat (IntKind.bits .u64) = 64 - k := by
   show min (64 - (k : Int)).toNat 64 = _
   omega
  have s3 : IntKind.wrap .u64 (64 - (64 - (k : Int))) = (k : Int) := by rw [wu_in (by omega)]; omega
  have s4 : min (k : Int).toNat (IntKind.bits .u64) = k := by
   show min (k : Int).toNat 64 = _
   omega
  have low : ∀ x : Int, 0 ≤ x ∧ x < 18446744073709551616 → IntKind.wrap .u64 ((BitVec.ofInt 64 x &&& BitVec.ofInt 64 4294967295).toNat : Int) = x % 4294967296 := fun x h => and_low h
  simp only [s1, s2, s3, s4]
  rw [wu_in (n := y * 2 ^ (64 - k)) ⟨by omega, n2⟩, wu_in (n := hi * 2 ^ (64 - k)) ⟨n3, by omega⟩]
  have f1 : Int.fdiv lo (2 ^ k) = lo / 2 ^ k := fdiv_pow lo k
  rw [f1]
  have w13 : IntKind.wrap .u64 (lo * 2 ^ (64 - k)) = lo % 2 ^ k * 2 ^ (64 - k) := by rw [wu_def]; omega
  rw [w13]
  refine Has.chk (by omega) (Has.letF (Has.letF (Has.letF (Has.chk (by omega) (Has.letF (Has.letF (Has.letF (Has.letF ?_))))))))
  rw [low _ ⟨by omega, n2⟩, or_add (64 - k) h0 ⟨n5, n6⟩ (by omega) n3, low _ ⟨n7, n8⟩]
  generalize hv : y * 2 ^ (64 - k) = v at *
  generalize hu : hi * 2 ^ (64 - k) + lo / 2 ^ k = u at *
  generalize ht : lo % 2 ^ k * 2 ^ (64 - k) = t at *
  have ea : Int.fdiv v (2 ^ 32) = v / 4294967296 := fdiv_pow v 32
  have ed : Int.fdiv t (2 ^ 32) = t / 4294967296 := fdiv_pow t 32
  rw [ea, ed]
  have vv : v / 4294967296 * 4294967296 + v % 4294967296 = v := by omega
  have u0 : 0 ≤ u := by omega
  have uv : u < v := by omega
  have g1 : Dg (v / 4294967296) (v % 4294967296) u (t / 4294967296) := ⟨by omega, by omega, by omega, by omega, by omega, by omega, u0, by omega⟩
  have t1 : IntKind.wrap .u64 (Int.tdiv u (v / 4294967296)) = u / (v / 4294967296) := by
   rw [Int.tdiv_eq_ediv_of_nonneg u0]
   have := Int.ediv_nonneg u0 (show 0 ≤ v / 4294967296 by omega)
   have := Int.ediv_le_self (v / 4294967296) u0
   exact wu_in (by omega)
  have t2 : u / (v / 4294967296) * (v / 4294967296) + u % (v / 4294967296) = u := by rw [Int.mul_comm]; exact Int.mul_ediv_add_emod u _
  have t3 := Int.emod_nonneg u (b := v / 4294967296) (by omega)
  have t4 := Int.emod_lt_of_pos u (b := v / 4294967296) (by omega)
  rw [t1]
  refine Has.chk (by omega) (Has.letF ?_)
  have t7 : 0 ≤ u / (v / 4294967296) * (v / 4294967296) := Int.mul_nonneg (Int.ediv_nonneg u0 (by omega)) (by omega)
  have t5 : IntKind.wrap .u64 (u / (v / 4294967296) * (v / 4294967296)) = u / (v / 4294967296) * (v / 4294967296) := wu_in (by omega)
  have t6 : IntKind.wrap .u64 (u - u / (v / 4294967296) * (v / 4294967296)) = u % (v / 4294967296) := by rw [wu_in (by omega)]; omega
  rw [t5, t6]
  refine (div_l1 ea ed g1 (u / (v / 4294967296), u % (v / 4294967296)) g1.first (by have := g1.a1; show u % (v / 4294967296) < _; omega)).bind fun z hz => ?_
  rw [vv] at hz
  -- the first digit
  have z0 := g1.q0
  have zB := g1.qB
  rw [vv, ← hz] at z0 zB
  have zr := Int.mul_ediv_add_emod (u * 4294967296 + t / 4294967296) v
  rw [← hz] at zr
  have zr0 := Int.emod_nonneg (u * 4294967296 + t / 4294967296) (b := v) (by omega)
  have zr1 := Int.emod_lt_of_pos (u * 4294967296 + t / 4294967296) (b := v) (by omega)
  rw [Int.mul_comm v z] at zr
  generalize hR : (u * 4294967296 + t / 4294967296) % v = R at *
  have x1 : IntKind.wrap .u64 (IntKind.wrap .u64 (IntKind.wrap .u64 (u * 4294967296) + t / 4294967296) - IntKind.wrap .u64 (z * v)) = R := by
   simp only [wu_def]; omega
  refine Has.letF ?_
  simp only [x1]
  have g2 : Dg (v / 4294967296) (v % 4294967296) R (t % 4294967296) := ⟨by omega, by omega, by omega, by omega, by omega, by omega, zr0, by omega⟩
  have y1 : IntKind.wrap .u64 (Int.tdiv R (v / 4294967296)) = R / (v / 4294967296) := by
   rw [Int.tdiv_eq_ediv_of_nonneg zr0]
   have := Int.ediv_nonneg zr0 (show 0 ≤ v / 4294967296 by omega)
   have := Int.ediv_le_self (v / 4294967296) zr0
   exact wu_in (by omega)
  have y2 : R / (v / 4294967296) * (v / 4294967296) + R % (v / 4294967296) = R := by rw [Int.mul_comm]; exact Int.mul_ediv_add_emod R _
  have y3 := Int.emod_nonneg R (b := v / 4294967296) (by omega)
  have y4 := Int.emod_lt_of_pos R (b := v / 4294967296) (by omega)
  have y7 : 0 ≤ R / (v / 4294967296) * (v / 4294967296) := Int.mul_nonneg (Int.ediv_nonneg zr0 (by omega)) (by omega)
  have y5 : IntKind.wrap .u64 (R - IntKind.wrap .u64 (R / (v / 4294967296) * (v / 4294967296))) = R % (v / 4294967296) := by rw [wu_in (n := R / (v / 4294967296) * (v / 4294967296)) (by omega), wu_in (by omega)]; omega
  rw [y1]
  refine Has.letF (Has.letF ?_)
  simp only [y5]
  refine (div_l2 ea g2 (R % (v / 4294967296), R / (v / 4294967296)) g2.first (by have := g2.a1; show R % (v / 4294967296) < _; omega)).bind fun x hx => ?_
  rw [vv] at hx
  have x0 := g2.q0
  have xB := g2.qB
  rw [vv, ← hx] at x0 xB
  have xr := Int.mul_ediv_add_emod (R * 4294967296 + t % 4294967296) v
  rw [← hx] at xr
  have xr0 := Int.emod_nonneg (R * 4294967296 + t % 4294967296) (b := v) (by omega)
  have xr1 := Int.emod_lt_of_pos (R * 4294967296 + t % 4294967296) (b := v) (by omega)
  rw [Int.mul_comm v x] at xr
  generalize hT : (R * 4294967296 + t % 4294967296) % v = T at *
  have w1 : IntKind.wrap .u64 (IntKind.wrap .u64 (IntKind.wrap .u64 (R * 4294967296) + t % 4294967296) - IntKind.wrap .u64 (x * v)) = T := by
   simp only [wu_def]; omega
  have w2 : IntKind.wrap .u64 (IntKind.wrap .u64 (z * 4294967296) + x) = z * 4294967296 + x := by rw [wu_in (n := z * 4294967296) (by omega), wu_in (by omega)]
  refine Has.letF (Has.letF (Has.letF (Has.letF (Has.ret ?_))))
  simp only [w1, w2]
  rw [fdiv_pow T (64 - k)]
  have key : (hi * 18446744073709551616 + lo) * 2 ^ (64 - k) = (z * 4294967296 + x) * (y * 2 ^ (64 - k)) + T := by
   rw [hv, Int.add_mul, Int.add_mul, Int.mul_right_comm, Int.mul_right_comm z]
   omega
  obtain ⟨q1, q2⟩ := div_fin hp (show 0 < y by omega) key xr0 (by rw [hv]; exact xr1)
  rw [q1, q2]
end Lf
/- Products and quotients of whole numbers, by way of 128 bits. -/
namespace Lf
open Go Go.Abs
set_option linter.unusedVariables false
set_option linter.unusedSimpArgs false
theorem w6_def (n : Int) : w6 n = (n + 9223372036854775808) % 18446744073709551616 - 9223372036854775808 := by unfold w6; rw [IntKind.wrap_i64]
def okI (n : Int) : Prop := -9223372036854775808 ≤ n ∧ n ≤ 9223372036854775807
instance (n : Int) : Decidable (okI n) := inferInstanceAs (Decidable (_ ∧ _))
structure okW (w : num_Wide) : Prop where
 h : okI w.Hi
 l0 : 0 ≤ w.Lo.n
 l1 : w.Lo.n < 18446744073709551616
def wv (w : num_Wide) : Int := w.Hi * 18446744073709551616 + w.Lo.n
theorem size_ok (a : Int) (ha : okI a) : Has (num_size a) fun r => 0 ≤ r.n ∧ r.n ≤ 9223372036854775808 ∧ ((0 ≤ a ∧ r.n = a) ∨ (a < 0 ∧ r.n = -a)) := by
 unfold num_size
 have h1 := ha.1; have h2 := ha.2
 refine Has.ite (fun h => Has.ret ?_) fun h => Has.ret ?_
 ·have h : a < 0 := by simpa using h
  simp only [wu_def]; omega
 ·have h : 0 ≤ a := by simpa using h
  simp only [wu_def]; omega
theorem mul64_ok (x y : Int) (hx : 0 ≤ x ∧ x < 18446744073709551616) (hy : 0 ≤ y ∧ y < 18446744073709551616) : Has (bits_Mul64 x y) fun r => r = (NU64.mk (x * y / 18446744073709551616), NU64.mk (x * y % 18446744073709551616)) := by
 unfold bits_Mul64
 have e1 : Int.fdiv x (2 ^ 32) = x / 4294967296 := fdiv_pow x 32
 have e2 : Int.fdiv y (2 ^ 32) = y / 4294967296 := fdiv_pow y 32
 have bd : ∀ a b : Int, 0 ≤ a → a ≤ 4294967295 → 0 ≤ b → b ≤ 4294967295 → 0 ≤ a * b ∧ a * b ≤ 18446744065119617025 := fun a b a0 a1 b0 b1 => by
  have := Int.mul_nonneg a0 b0
  have h1 := Int.mul_le_mul_of_nonneg_right a1 b0
  omega
 have ex : x * y = x / 4294967296 * (y / 4294967296) * 18446744073709551616 + (x / 4294967296 * (y % 4294967296) + x % 4294967296 * (y / 4294967296)) * 4294967296 + x % 4294967296 * (y % 4294967296) := by
  have h1 : x = x / 4294967296 * 4294967296 + x % 4294967296 := by omega
  have h2 : y = y / 4294967296 * 4294967296 + y % 4294967296 := by omega
  generalize x / 4294967296 = a at *
  generalize x % 4294967296 = b at *
  generalize y / 4294967296 = c at *
  generalize y % 4294967296 = d at *
  subst h1; subst h2
  rw [Int.add_mul, Int.mul_add, Int.mul_add, Int.mul_right_comm a 4294967296, ← Int.mul_assoc a c, Int.mul_assoc (a * c), Int.mul_right_comm a 4294967296 d, ← Int.mul_assoc b c, Int.add_mul]
  omega
 have p1 := bd (x / 4294967296) (y / 4294967296) (by omega) (by omega) (by omega) (by omega)
 have p2 := bd (x / 4294967296) (y % 4294967296) (by omega) (by omega) (by omega) (by omega)
 have p3 := bd (x % 4294967296) (y / 4294967296) (by omega) (by omega) (by omega) (by omega)
 have p4 := bd (x % 4294967296) (y % 4294967296) (by omega) (by omega) (by omega) (by omega)
 simp only [Abs.letF]
 rw [and_low hx, and_low hy, e1, e2, ex]
 generalize x / 4294967296 * (y / 4294967296) = a at *
 generalize x / 4294967296 * (y % 4294967296) = b at *
 generalize x % 4294967296 * (y / 4294967296) = c at *
 generalize x % 4294967296 * (y % 4294967296) = d at *
 rw [wu_in (n := b) (by omega), wu_in (n := d) (by omega)]
 have e3 : Int.fdiv d (2 ^ 32) = d / 4294967296 := fdiv_pow d 32
 rw [e3, wu_in (n := b + d / 4294967296) (by omega), and_low (by omega), wu_in (n := c) (by omega), wu_in (n := (b + d / 4294967296) % 4294967296 + c) (by omega)]
 have e4 : Int.fdiv (b + d / 4294967296) (2 ^ 32) = (b + d / 4294967296) / 4294967296 := fdiv_pow _ 32
 have e5 : Int.fdiv ((b + d / 4294967296) % 4294967296 + c) (2 ^ 32) = ((b + d / 4294967296) % 4294967296 + c) / 4294967296 := fdiv_pow _ 32
 refine Has.ret ?_
 rw [e4, e5]
 clear e1 e2 e3 e4 e5 ex hx hy bd
 have q1 : d = 4294967296 * (d / 4294967296) + d % 4294967296 := by omega
 have q2 : 0 ≤ d % 4294967296 ∧ d % 4294967296 < 4294967296 := by omega
 have q3 : 0 ≤ d / 4294967296 ∧ d / 4294967296 ≤ 4294967295 := by omega
 generalize d / 4294967296 = m at *
 generalize d % 4294967296 = d1 at *
 have q4 : b + m = 4294967296 * ((b + m) / 4294967296) + (b + m) % 4294967296 := by omega
 have q5 : 0 ≤ (b + m) % 4294967296 ∧ (b + m) % 4294967296 < 4294967296 := by omega
 have q6 : 0 ≤ (b + m) / 4294967296 ∧ (b + m) / 4294967296 ≤ 4294967295 := by omega
 generalize (b + m) / 4294967296 = n at *
 generalize (b + m) % 4294967296 = r1 at *
 have q7 : r1 + c = 4294967296 * ((r1 + c) / 4294967296) + (r1 + c) % 4294967296 := by omega
 have q8 : 0 ≤ (r1 + c) % 4294967296 ∧ (r1 + c) % 4294967296 < 4294967296 := by omega
 have q9 : 0 ≤ (r1 + c) / 4294967296 ∧ (r1 + c) / 4294967296 ≤ 4294967295 := by omega
 generalize (r1 + c) / 4294967296 = o at *
 generalize (r1 + c) % 4294967296 = r2 at *
 have eT : a * 18446744073709551616 + (b + c) * 4294967296 + d = 18446744073709551616 * (a + n + o) + (r2 * 4294967296 + d1) := by omega
 rw [eT, wu_in (n := a) (by omega), wu_in (n := a + n) (by omega), wu_in (n := a + n + o) (by omega), wu_def]
 have : (18446744073709551616 * (a + n + o) + (r2 * 4294967296 + d1)) / 18446744073709551616 = a + n + o := by omega
 rw [this]
theorem wneg_ok (w : num_Wide) (hw : okW w) (hm : -170141183460469231731687303715884105728 < wv w) : Has (Wide_Neg w) fun r => okW r ∧ wv r = - wv w := by
 have h1 := hw.h.1; have h2 := hw.h.2; have h3 := hw.l0; have h4 := hw.l1
 unfold wv at hm
 unfold Wide_Neg
 have b1 := wu_bd w.Hi
 rw [xor_all ⟨h3, h4⟩, xor_all b1]
 refine Has.letF (Has.bind (P := fun r => r = ((18446744073709551615 - w.Lo.n + 1) % 18446744073709551616, (18446744073709551615 - w.Lo.n + 1) / 18446744073709551616)) ?_ fun r hr => Has.letF (Has.bind (P := fun q => q = ((18446744073709551615 - IntKind.wrap .u64 w.Hi + r.2) % 18446744073709551616, (18446744073709551615 - IntKind.wrap .u64 w.Hi + r.2) / 18446744073709551616)) ?_ fun q hq => Has.ret ?_))
 ·unfold add64
  rw [if_pos (by omega)]
  exact Has.ret (by simp)
 ·subst hr
  unfold add64
  simp only []
  rw [if_pos (by omega)]
  exact Has.ret (by simp)
 ·subst hr; subst hq
  simp only [wu_def] at *
  refine ⟨⟨?_, ?_, ?_⟩, ?_⟩
  ·exact w6_bd _
  ·simp only []; omega
  ·simp only []; omega
  ·unfold wv
   simp only [w6_def]
   omega
theorem product_ok (a b : Int) (ha : okI a) (hb : okI b) : Has (num_Product a b) fun w => okW w ∧ wv w = a * b ∧ -85070591730234615865843651857942052864 ≤ a * b ∧ a * b ≤ 85070591730234615865843651857942052864 := by
 unfold num_Product
 refine (size_ok a ha).bind fun x ⟨x0, x1, x2⟩ => (size_ok b hb).bind fun y ⟨y0, y1, y2⟩ => ?_
 have p0 := Int.mul_nonneg x0 y0
 have p1 := Int.mul_le_mul_of_nonneg_right x1 y0
 have p : x.n * y.n ≤ 85070591730234615865843651857942052864 := by omega
 refine (mul64_ok x.n y.n (by omega) (by omega)).bind fun r hr => ?_
 subst hr
 simp only []
 have e0 : w6 (x.n * y.n / 18446744073709551616) = x.n * y.n / 18446744073709551616 := w6_in (by omega)
 rw [e0]
 have ow : okW (num_Wide.mk (x.n * y.n / 18446744073709551616) (NU64.mk (x.n * y.n % 18446744073709551616))) := ⟨⟨by simp only []; omega, by simp only []; omega⟩, by simp only []; omega, by simp only []; omega⟩
 have ew : wv (num_Wide.mk (x.n * y.n / 18446744073709551616) (NU64.mk (x.n * y.n % 18446744073709551616))) = x.n * y.n := by unfold wv; simp only []; omega
 refine Has.ite (fun h => ?_) fun h => Has.ret ?_
 ·refine (wneg_ok _ ow (by rw [ew]; omega)).bind fun r ⟨h1, h2⟩ => Has.ret ⟨h1, ?_, ?_⟩
  ·rw [h2, ew]
   rcases x2 with ⟨s, e⟩ | ⟨s, e⟩ <;> rcases y2 with ⟨t, f⟩ | ⟨t, f⟩
   ·exfalso; simp at h; omega
   ·rw [e, f, Int.mul_neg, Int.neg_neg]
   ·rw [e, f, Int.neg_mul, Int.neg_neg]
   ·exfalso; simp at h; omega
  ·rcases x2 with ⟨s, e⟩ | ⟨s, e⟩ <;> rcases y2 with ⟨t, f⟩ | ⟨t, f⟩
   ·exfalso; simp at h; omega
   ·rw [e, f, Int.mul_neg] at p p0; omega
   ·rw [e, f, Int.neg_mul] at p p0; omega
   ·exfalso; simp at h; omega
 ·refine ⟨ow, ?_, ?_⟩
  ·rw [ew]
   rcases x2 with ⟨s, e⟩ | ⟨s, e⟩ <;> rcases y2 with ⟨t, f⟩ | ⟨t, f⟩
   ·rw [e, f]
   ·exfalso; simp at h; omega
   ·exfalso; simp at h; omega
   ·rw [e, f, Int.neg_mul_neg]
  ·rcases x2 with ⟨s, e⟩ | ⟨s, e⟩ <;> rcases y2 with ⟨t, f⟩ | ⟨t, f⟩
   ·rw [e, f] at p p0; omega
   ·exfalso; simp at h; omega
   ·exfalso; simp at h; omega
   ·rw [e, f, Int.neg_mul_neg] at p p0; omega
end Lf
/- Quotients rounded up. -/
namespace Lf
open Go Go.Abs
set_option linter.unusedVariables false
set_option linter.unusedSimpArgs false
theorem neg_div (m d : Int) (hd : 0 < d) : (m % d = 0 ∧ (-m) / d = -(m / d) ∧ (-m) % d = 0) ∨ (0 < m % d ∧ (-m) / d = -(m / d) - 1 ∧ (-m) % d = d - m % d) := by
 have h1 := Int.mul_ediv_add_emod m d
 have h2 := Int.emod_nonneg m (b := d) (by omega)
 have h3 := Int.emod_lt_of_pos m hd
 by_cases h : m % d = 0
 ·left
  have := (Int.ediv_emod_unique hd (a := -m) (q := -(m / d)) (r := 0)).2 ⟨by rw [Int.mul_neg]; omega, by omega, by omega⟩
  exact ⟨h, this.1, this.2⟩
 ·right
  have := (Int.ediv_emod_unique hd (a := -m) (q := -(m / d) - 1) (r := d - m % d)).2 ⟨by rw [Int.mul_sub, Int.mul_neg]; omega, by omega, by omega⟩
  exact ⟨by omega, this.1, this.2⟩
def cdiv (x d : Int) : Int := -((-x) / d)
theorem cdiv_up {x d : Int} (hd : 0 < d) : (x % d = 0 → cdiv x d = x / d) ∧ (0 < x % d → cdiv x d = x / d + 1) := by
 unfold cdiv
 rcases neg_div x d hd with ⟨a, b, c⟩ | ⟨a, b, c⟩
 ·exact ⟨fun _ => by omega, fun h => by omega⟩
 ·exact ⟨fun h => by omega, fun _ => by omega⟩
theorem cdiv_mono {x y d : Int} (hd : 0 < d) (h : x ≤ y) : cdiv x d ≤ cdiv y d := by
 unfold cdiv
 have := Int.ediv_le_ediv hd (show -y ≤ -x by omega)
 omega
theorem fl_le_ce {x d : Int} (hd : 0 < d) : x / d ≤ cdiv x d ∧ cdiv x d ≤ x / d + 1 := by
 unfold cdiv
 rcases neg_div x d hd with ⟨a, b, c⟩ | ⟨a, b, c⟩ <;> omega
theorem cdiv_le {x d g : Int} (hd : 0 < d) : cdiv x d ≤ g ↔ x ≤ g * d := by
 unfold cdiv
 have h := Int.le_ediv_iff_mul_le (a := -g) (b := -x) hd
 rw [Int.neg_mul] at h
 omega
end Lf
/- a * b / c, rounded down and up. -/
namespace Lf
open Go Go.Abs
set_option linter.unusedVariables false
set_option linter.unusedSimpArgs false
theorem wdiv_ok (w : num_Wide) (d : Int) (hw : okW w) (hm : -170141183460469231731687303715884105728 < wv w) (hd : 1 ≤ d ∧ d ≤ 9223372036854775807) :
  Has (Wide_Div w d) fun r => (okI (wv w / d) ∧ r = (wv w / d, 0)) ∨ (¬ okI (wv w / d) ∧ r = (0, 2)) := by
 have h1 := hw.h.1; have h2 := hw.h.2; have h3 := hw.l0; have h4 := hw.l1
 have ed : IntKind.wrap .u64 d = d := wu_in (by omega)
 unfold Wide_Div
 simp only [ed, decide_eq_true_eq]
 refine Has.neg (by omega) (Has.ite (fun hn => ?_) fun hn => ?_)
 ·refine (wneg_ok w hw hm).bind fun r ⟨r1, r2⟩ => ?_
  have g1 := r1.h.1; have g2 := r1.h.2; have g3 := r1.l0; have g4 := r1.l1
  have em : wv w = -(wv r) := by omega
  have hv : wv w < 0 := by unfold wv; omega
  have hp : 0 ≤ r.Hi := by unfold wv at *; omega
  have eh : IntKind.wrap .u64 r.Hi = r.Hi := wu_in (by omega)
  have ev : r.Hi * 18446744073709551616 + r.Lo.n = wv r := rfl
  rw [eh, em]
  have nd := neg_div (wv r) d (by omega)
  refine Has.ite (fun hc => Has.ret (.inr ⟨?_, rfl⟩)) fun hc => ?_
  ·have : (18446744073709551616 : Int) ≤ wv r / d := by
    rw [Int.le_ediv_iff_mul_le (by omega)]; unfold wv; omega
   unfold okI
   omega
  ·refine (div64_ok r.Hi r.Lo.n d hp (by omega) (by omega) g3 g4).bind fun q hq => ?_
   subst hq
   simp only [ev]
   have q0 : 0 ≤ wv r / d := Int.ediv_nonneg (by omega) (by omega)
   have q1 : wv r / d < 18446744073709551616 := by
    rw [Int.ediv_lt_iff_lt_mul (by omega)]; unfold wv; omega
   have q2 := Int.emod_nonneg (wv r) (b := d) (by omega)
   generalize wv r / d = q at *
   generalize wv r % d = s at *
   refine Has.pos hn (Has.ite (fun hs => Has.letF ?_) fun hs => ?_)
   ·rw [wu_in (n := 9223372036854775808 - 1) (by omega)]
    simp only [decide_eq_true_eq]
    refine Has.ite (fun hb => Has.ret (.inr ⟨?_, rfl⟩)) fun hb => Has.neg (by omega) (Has.pos hs (Has.ret (.inl ⟨?_, ?_⟩)))
    ·unfold okI; omega
    ·unfold okI; omega
    ·simp only [wu_def, w6_def, Prod.mk.injEq, and_true]
     omega
   ·refine Has.ite (fun hb => Has.ret (.inr ⟨?_, rfl⟩)) fun hb => Has.neg (by omega) (Has.neg hs (Has.ret (.inl ⟨?_, ?_⟩)))
    ·unfold okI; omega
    ·unfold okI; omega
    ·simp only [wu_def, w6_def, Prod.mk.injEq, and_true]
     omega
 ·have eh : IntKind.wrap .u64 w.Hi = w.Hi := wu_in (by omega)
  have ev : w.Hi * 18446744073709551616 + w.Lo.n = wv w := rfl
  have v0 : 0 ≤ wv w := by unfold wv; omega
  rw [eh]
  refine Has.ite (fun hc => Has.ret (.inr ⟨?_, rfl⟩)) fun hc => ?_
  ·have : (18446744073709551616 : Int) ≤ wv w / d := by
    rw [Int.le_ediv_iff_mul_le (by omega)]; unfold wv; omega
   unfold okI
   omega
  ·refine (div64_ok w.Hi w.Lo.n d (by omega) (by omega) (by omega) h3 h4).bind fun q hq => ?_
   subst hq
   simp only [ev]
   have q0 : 0 ≤ wv w / d := Int.ediv_nonneg (by omega) (by omega)
   have q1 : wv w / d < 18446744073709551616 := by
    rw [Int.ediv_lt_iff_lt_mul (by omega)]; unfold wv; omega
   generalize wv w / d = q at *
   refine Has.neg hn (Has.ite (fun hb => Has.ret (.inr ⟨?_, rfl⟩)) fun hb => Has.pos (by omega) (Has.ret (.inl ⟨?_, ?_⟩)))
   ·unfold okI; omega
   ·unfold okI; omega
   ·rw [w6_in (by omega)]
theorem muldiv_ok (a b c : Int) (ha : okI a) (hb : okI b) (hc : 1 ≤ c ∧ c ≤ 9223372036854775807) :
  Has (num_MulDiv a b c) fun r => (okI (a * b / c) ∧ r = (a * b / c, 0)) ∨ (¬ okI (a * b / c) ∧ r = (0, 2)) := by
 unfold num_MulDiv
 refine (product_ok a b ha hb).bind fun w ⟨w1, w2, w3, w4⟩ => (wdiv_ok w c w1 (by omega) hc).bind fun r hr => Has.ret ?_
 rw [w2] at hr
 exact hr
end Lf
/- The square root, rounded down. -/
namespace Lf
open Go Go.Abs
set_option linter.unusedVariables false
set_option linter.unusedSimpArgs false
structure isRt (n r : Int) : Prop where
 r0 : 0 ≤ r
 lo : r * r ≤ n
 hi : n < (r + 1) * (r + 1)
theorem sq_lt {a b : Int} (a0 : 0 ≤ a) (b0 : 0 ≤ b) (h : a * a < b * b) : a < b := by
 rcases Int.lt_or_le a b with h1 | h1
 ·exact h1
 ·have p := Int.mul_le_mul h1 h1 b0 a0
  omega
theorem sq_le {a b : Int} (a0 : 0 ≤ a) (h : a ≤ b) : a * a ≤ b * b := Int.mul_le_mul h h a0 (by omega)
theorem isRt.mono {n m r s : Int} (h : isRt n r) (k : isRt m s) (hn : n ≤ m) : r ≤ s := by
 have := sq_lt (a := r) (b := s + 1) h.r0 (by have := k.r0; omega) (by have := h.lo; have := k.hi; omega)
 omega
theorem isRt.uniq {n r s : Int} (h : isRt n r) (k : isRt n s) : r = s := by
 have := h.mono k (Int.le_refl _); have := k.mono h (Int.le_refl _); omega
theorem or_bit {r : Int} (k : Nat) (hk : k ≤ 62) (h0 : 0 ≤ r) (hr : ∃ q, r = q * 2 ^ (k + 1)) (h1 : r + 2 ^ k < 18446744073709551616) : IntKind.wrap .u64 ((BitVec.ofInt 64 r ||| BitVec.ofInt 64 (2 ^ k)).toNat : Int) = r + 2 ^ k := by
 obtain ⟨q, rfl⟩ := hr
 have p : (0 : Int) < 2 ^ k := Int.pow_pos (by decide)
 have e : q * 2 ^ (k + 1) = (q * 2) * 2 ^ k := by rw [Int.pow_succ, Int.mul_comm (2 ^ k) 2, Int.mul_assoc]
 have q0 : 0 ≤ q := by
  have p2 : (0 : Int) < 2 ^ (k + 1) := Int.pow_pos (by decide)
  rcases Int.lt_or_le q 0 with h | h
  ·have := Int.mul_lt_mul_of_pos_right h p2; omega
  ·exact h
 have k1 : k < k + 1 := by omega
 rw [or_add (x := q) (y := 2 ^ k) (k + 1) q0 ⟨by omega, by rw [Int.pow_succ]; omega⟩ h1 h0]
theorem sqrt_step {n r : Int} {k : Nat} (hn : 0 ≤ n ∧ n ≤ 9223372036854775807) (h0 : 0 ≤ r) (hr : ∃ q, r = q * 2 ^ (k + 1)) (h1 : r * r ≤ n) (h2 : n < (r + 2 ^ (k + 1)) * (r + 2 ^ (k + 1))) (hk : k ≤ 62) (hb : r + 2 ^ k ≤ 9223372036854775808) :
  ∃ s, num_SqrtMul.l1 (NU64.mk (n / 18446744073709551616), NU64.mk (n % 18446744073709551616)) (r, 2 ^ k) = some (.next (s, Int.fdiv (2 ^ k) (2 ^ 1))) ∧ (s = r ∧ n < (r + 2 ^ k) * (r + 2 ^ k) ∨ s = r + 2 ^ k ∧ (r + 2 ^ k) * (r + 2 ^ k) ≤ n) := by
 have p : (0 : Int) < 2 ^ k := Int.pow_pos (by decide)
 have eo := or_bit k hk h0 hr (by omega)
 have e1 : n / 18446744073709551616 = 0 := by omega
 have e2 : n % 18446744073709551616 = n := by omega
 obtain ⟨m, em, rfl⟩ := mul64_ok (r + 2 ^ k) (r + 2 ^ k) ⟨by omega, by omega⟩ ⟨by omega, by omega⟩
 have sq0 : 0 ≤ (r + 2 ^ k) * (r + 2 ^ k) := Int.mul_nonneg (by omega) (by omega)
 generalize hS : (r + 2 ^ k) * (r + 2 ^ k) = S at *
 unfold num_SqrtMul.l1
 simp only []
 rw [if_pos (by simp; exact p), eo]
 simp only [letF]
 rw [em]
 simp only [Option.bind_some, e1, e2]
 by_cases hle : S ≤ n
 ·have g1 : S / 18446744073709551616 = 0 := by omega
  have g2 : S % 18446744073709551616 = S := by omega
  refine ⟨r + 2 ^ k, ?_, .inr ⟨rfl, hle⟩⟩
  simp [g1, g2, hle]
 ·refine ⟨r, ?_, .inl ⟨rfl, by omega⟩⟩
  have g : ¬ S / 18446744073709551616 < 0 := by omega
  by_cases g1 : S / 18446744073709551616 = 0
  ·have g2 : S % 18446744073709551616 = S := by omega
   simp [g, g1, g2, hle]
  ·simp [g, g1]
theorem fdiv_half (k : Nat) : Int.fdiv (2 ^ (k + 1)) (2 ^ 1) = 2 ^ k := by
 rw [fdiv_pow, Int.pow_succ]; simp
theorem pow62 {k : Nat} (h : k ≤ 62) : (2 : Int) ^ k ≤ 4611686018427387904 := by
 have h1 : 2 ^ k ≤ 4611686018427387904 := Nat.le_trans (Nat.pow_le_pow_right (n := 2) (by decide) h) (by decide)
 have e : ((2 ^ k : Nat) : Int) = 2 ^ k := by simp
 rw [← e]
 exact Int.ofNat_le.2 h1
theorem sqrt_ok (n : Int) (hn : 0 ≤ n ∧ n ≤ 9223372036854775807) : Has (num_Sqrt n) fun r => isRt n r := by
 unfold num_Sqrt
 refine Has.bind (P := fun r => isRt n r) ?_ fun r hr => Has.ret hr
 unfold num_SqrtMul
 refine Has.bind (P := fun z => z = false) (Has.neg (by simp; omega) (Has.ret (decide_eq_false (by decide)))) fun z hz => Has.neg (by rw [hz]; decide) ?_
 rw [wu_in (n := n) (by omega), wu_in (n := 1) (by decide)]
 obtain ⟨m, em, rfl⟩ := mul64_ok n 1 ⟨by omega, by omega⟩ ⟨by decide, by decide⟩
 rw [em]
 simp only [Option.bind_some, Int.mul_one]
 refine Has.bind (P := fun r => isRt n r ∧ r ≤ 9223372036854775807) ?_ fun r ⟨hr, r1⟩ => Has.ret (by have := hr.r0; rw [w6_in (by omega)]; exact hr)
 have e63 : (2 : Int) ^ (62 + 1) * 2 ^ (62 + 1) = 85070591730234615865843651857942052864 := by decide
 refine Has.loop (fun s : Int × Int => 0 ≤ s.1 ∧ s.1 * s.1 ≤ n ∧ ((∃ k : Nat, k ≤ 62 ∧ s.2 = 2 ^ k ∧ (∃ q, s.1 = q * 2 ^ (k + 1)) ∧ n < (s.1 + 2 ^ (k + 1)) * (s.1 + 2 ^ (k + 1))) ∨ (s.2 = 0 ∧ n < (s.1 + 1) * (s.1 + 1)))) (fun s => s.2.toNat) (fun r => isRt n r ∧ r ≤ 9223372036854775807) ⟨Int.le_refl _, hn.1, .inl ⟨62, Nat.le_refl _, rfl, ⟨0, rfl⟩, by simp only [Int.zero_add]; omega⟩⟩ (by decide) fun s ⟨s0, s1, s2⟩ => ?_
 have sb : s.1 < 3037000500 := sq_lt s0 (by decide) (by omega)
 rcases s2 with ⟨k, hk, e, hq, hh⟩ | ⟨e, hh⟩
 ·obtain ⟨a, b⟩ := s
  simp only [] at *
  subst e
  have pk := pow62 hk
  have pp : (0 : Int) < 2 ^ k := Int.pow_pos (by decide)
  obtain ⟨t, et, ht⟩ := sqrt_step hn s0 hq s1 hh hk (by omega)
  refine Has.eq et ?_
  cases k with
  | zero =>
   have ez : Int.fdiv (2 ^ 0) (2 ^ 1) = 0 := by decide
   rw [ez]
   rcases ht with ⟨rfl, ht⟩ | ⟨rfl, ht⟩
   ·exact .next ⟨s0, s1, .inr ⟨rfl, by simpa using ht⟩⟩ (by simp)
   ·refine .next ⟨by simp only []; omega, ht, .inr ⟨rfl, ?_⟩⟩ (by simp)
    have e1 : (2 : Int) ^ (0 + 1) = 2 := by decide
    have e0 : (2 : Int) ^ 0 = 1 := by decide
    rw [e1] at hh
    simp only [e0]
    rw [Int.add_assoc]; exact hh
  | succ k =>
   rw [fdiv_half]
   have lt : (2 : Int) ^ k < 2 ^ (k + 1) := by rw [Int.pow_succ]; have : (0 : Int) < 2 ^ k := Int.pow_pos (by decide); omega
   have pk0 : (0 : Int) < 2 ^ k := Int.pow_pos (by decide)
   have mu : (2 ^ k : Int).toNat < (2 ^ (k + 1) : Int).toNat := by omega
   rcases ht with ⟨rfl, ht⟩ | ⟨rfl, ht⟩
   ·obtain ⟨q, hq⟩ := hq
    refine .next ⟨s0, s1, .inl ⟨k, by omega, rfl, ⟨q * 2, ?_⟩, ht⟩⟩ mu
    simp only []
    rw [hq, Int.pow_succ 2 (k + 1), Int.mul_assoc, Int.mul_comm 2]
   ·obtain ⟨q, hq⟩ := hq
    refine .next ⟨by simp only []; omega, ht, .inl ⟨k, by omega, rfl, ⟨q * 2 + 1, ?_⟩, ?_⟩⟩ mu
    ·simp only []
     rw [hq, Int.pow_succ 2 (k + 1), Int.add_mul, Int.mul_assoc, Int.mul_comm 2, Int.one_mul]
    ·simp only []
     have e2 : a + 2 ^ (k + 1) + 2 ^ (k + 1) = a + 2 ^ (k + 1 + 1) := by rw [Int.pow_succ 2 (k + 1)]; omega
     rw [e2]; exact hh
 ·unfold num_SqrtMul.l1
  rw [e]
  refine Has.neg (by decide) (Has.ret (.done ⟨⟨s0, s1, hh⟩, by omega⟩))
end Lf
/- The square root of a product of 128 bits, rounded down. -/
namespace Lf
open Go Go.Abs
set_option linter.unusedVariables false
set_option linter.unusedSimpArgs false
theorem sqrtW_step {n r : Int} {k : Nat} (hn : 0 ≤ n ∧ n < 85070591730234615865843651857942052864) (h0 : 0 ≤ r) (hr : ∃ q, r = q * 2 ^ (k + 1)) (h1 : r * r ≤ n) (h2 : n < (r + 2 ^ (k + 1)) * (r + 2 ^ (k + 1))) (hk : k ≤ 62) (hb : r + 2 ^ k ≤ 18446744073709551615) :
  ∃ s, num_SqrtMul.l1 (NU64.mk (n / 18446744073709551616), NU64.mk (n % 18446744073709551616)) (r, 2 ^ k) = some (.next (s, Int.fdiv (2 ^ k) (2 ^ 1))) ∧ (s = r ∧ n < (r + 2 ^ k) * (r + 2 ^ k) ∨ s = r + 2 ^ k ∧ (r + 2 ^ k) * (r + 2 ^ k) ≤ n) := by
 have p : (0 : Int) < 2 ^ k := Int.pow_pos (by decide)
 have eo := or_bit k hk h0 hr (by omega)
 obtain ⟨m, em, rfl⟩ := mul64_ok (r + 2 ^ k) (r + 2 ^ k) ⟨by omega, by omega⟩ ⟨by omega, by omega⟩
 have sq0 : 0 ≤ (r + 2 ^ k) * (r + 2 ^ k) := Int.mul_nonneg (by omega) (by omega)
 generalize hS : (r + 2 ^ k) * (r + 2 ^ k) = S at *
 unfold num_SqrtMul.l1
 simp only []
 rw [if_pos (by simp; exact p), eo]
 simp only [letF]
 rw [em]
 simp only [Option.bind_some]
 by_cases hle : S ≤ n
 ·refine ⟨r + 2 ^ k, ?_, .inr ⟨rfl, hle⟩⟩
  have c : S / 18446744073709551616 < n / 18446744073709551616 ∨ (S / 18446744073709551616 = n / 18446744073709551616 ∧ S % 18446744073709551616 ≤ n % 18446744073709551616) := by omega
  rcases c with c | ⟨c1, c2⟩
  ·simp [c]
  ·simp [c1, c2]
 ·refine ⟨r, ?_, .inl ⟨rfl, by omega⟩⟩
  have g : ¬ S / 18446744073709551616 < n / 18446744073709551616 := by omega
  by_cases g1 : S / 18446744073709551616 = n / 18446744073709551616
  ·have g2 : ¬ S % 18446744073709551616 ≤ n % 18446744073709551616 := by omega
   simp [g1, g2]
  ·simp [g, g1]
theorem sqrtW_ok (a b : Int) (ha : 0 ≤ a ∧ a ≤ 9223372036854775807) (hb : 0 ≤ b ∧ b ≤ 9223372036854775807) : Has (num_SqrtMul a b) fun r => isRt (a * b) r := by
 unfold num_SqrtMul
 refine Has.bind (P := fun z => z = false) (Has.neg (by simp; omega) (Has.ret (decide_eq_false (by omega)))) fun z hz => Has.neg (by rw [hz]; decide) ?_
 rw [wu_in (n := a) (by omega), wu_in (n := b) (by omega)]
 obtain ⟨m, em, rfl⟩ := mul64_ok a b ⟨by omega, by omega⟩ ⟨by omega, by omega⟩
 rw [em]
 have hn : 0 ≤ a * b ∧ a * b < 85070591730234615865843651857942052864 := by
  have q := Int.mul_le_mul ha.2 hb.2 hb.1 (by decide)
  exact ⟨Int.mul_nonneg ha.1 hb.1, by omega⟩
 generalize a * b = n at *
 simp only [Option.bind_some]
 refine Has.bind (P := fun r => isRt n r ∧ r ≤ 9223372036854775807) ?_ fun r ⟨hr, r1⟩ => Has.ret (by have := hr.r0; rw [w6_in (by omega)]; exact hr)
 have e63 : (2 : Int) ^ (62 + 1) * 2 ^ (62 + 1) = 85070591730234615865843651857942052864 := by decide
 refine Has.loop (fun s : Int × Int => 0 ≤ s.1 ∧ s.1 * s.1 ≤ n ∧ ((∃ k : Nat, k ≤ 62 ∧ s.2 = 2 ^ k ∧ (∃ q, s.1 = q * 2 ^ (k + 1)) ∧ n < (s.1 + 2 ^ (k + 1)) * (s.1 + 2 ^ (k + 1))) ∨ (s.2 = 0 ∧ n < (s.1 + 1) * (s.1 + 1)))) (fun s => s.2.toNat) (fun r => isRt n r ∧ r ≤ 9223372036854775807) ⟨Int.le_refl _, hn.1, .inl ⟨62, Nat.le_refl _, rfl, ⟨0, rfl⟩, by simp only [Int.zero_add]; omega⟩⟩ (by decide) fun s ⟨s0, s1, s2⟩ => ?_
 have sb : s.1 < 9223372036854775808 := sq_lt s0 (by decide) (by omega)
 rcases s2 with ⟨k, hk, e, hq, hh⟩ | ⟨e, hh⟩
 ·obtain ⟨c, d⟩ := s
  simp only [] at *
  subst e
  have pk := pow62 hk
  have pp : (0 : Int) < 2 ^ k := Int.pow_pos (by decide)
  obtain ⟨t, et, ht⟩ := sqrtW_step hn s0 hq s1 hh hk (by omega)
  refine Has.eq et ?_
  cases k with
  | zero =>
   have ez : Int.fdiv (2 ^ 0) (2 ^ 1) = 0 := by decide
   rw [ez]
   rcases ht with ⟨rfl, ht⟩ | ⟨rfl, ht⟩
   ·exact .next ⟨s0, s1, .inr ⟨rfl, by simpa using ht⟩⟩ (by simp)
   ·refine .next ⟨by simp only []; omega, ht, .inr ⟨rfl, ?_⟩⟩ (by simp)
    have e1 : (2 : Int) ^ (0 + 1) = 2 := by decide
    have e0 : (2 : Int) ^ 0 = 1 := by decide
    rw [e1] at hh
    simp only [e0]
    rw [Int.add_assoc]; exact hh
  | succ k =>
   rw [fdiv_half]
   have lt : (2 : Int) ^ k < 2 ^ (k + 1) := by rw [Int.pow_succ]; have : (0 : Int) < 2 ^ k := Int.pow_pos (by decide); omega
   have pk0 : (0 : Int) < 2 ^ k := Int.pow_pos (by decide)
   have mu : (2 ^ k : Int).toNat < (2 ^ (k + 1) : Int).toNat := by omega
   rcases ht with ⟨rfl, ht⟩ | ⟨rfl, ht⟩
   ·obtain ⟨q, hq⟩ := hq
    refine .next ⟨s0, s1, .inl ⟨k, by omega, rfl, ⟨q * 2, ?_⟩, ht⟩⟩ mu
    simp only []
    rw [hq, Int.pow_succ 2 (k + 1), Int.mul_assoc, Int.mul_comm 2]
   ·obtain ⟨q, hq⟩ := hq
    refine .next ⟨by simp only []; omega, ht, .inl ⟨k, by omega, rfl, ⟨q * 2 + 1, ?_⟩, ?_⟩⟩ mu
    ·simp only []
     rw [hq, Int.pow_succ 2 (k + 1), Int.add_mul, Int.mul_assoc, Int.mul_comm 2, Int.one_mul]
    ·simp only []
     have e2 : c + 2 ^ (k + 1) + 2 ^ (k + 1) = c + 2 ^ (k + 1 + 1) := by rw [Int.pow_succ 2 (k + 1)]; omega
     rw [e2]; exact hh
 ·unfold num_SqrtMul.l1
  rw [e]
  refine Has.neg (by decide) (Has.ret (.done ⟨⟨s0, s1, hh⟩, by omega⟩))
end Lf
/- Plain facts of bounds. -/
namespace Lf
open Go Go.Abs
set_option linter.unusedVariables false
set_option linter.unusedSimpArgs false
structure Bound.ok (b : Bound) : Prop where
 u : b.Unknown = true → b.Lo = 0 ∧ b.Hi = 0
 lo : -1152921504606846976 ≤ b.Lo
 le : b.Lo ≤ b.Hi
 hi : b.Hi ≤ 1152921504606846976
theorem check_ok {b : Bound} (h : b.ok) : bound_Check b = some 0 := by
 obtain ⟨h1, h2, h3, h4⟩ := h
 unfold bound_Check
 rw [mn2_le h3, mx2_le h3]
 have e1 : ¬ b.Lo < -1152921504606846976 := by omega
 have e2 : ¬ b.Hi > 1152921504606846976 := by omega
 have e3 : ¬ b.Lo > b.Hi := by omega
 cases hu : b.Unknown with
 | false => simp [e1, e2, e3]
 | true => obtain ⟨q1, q2⟩ := h1 hu; simp [q1, q2]
theorem okNone : Bound.ok ⟨0, 0, true⟩ := ⟨fun _ => ⟨rfl, rfl⟩, by decide, by decide, by decide⟩
theorem okKnown {lo hi : Int} (h1 : -1152921504606846976 ≤ lo) (h2 : lo ≤ hi) (h3 : hi ≤ 1152921504606846976) : Bound.ok ⟨lo, hi, false⟩ := ⟨(fun h => nomatch h), h1, h2, h3⟩
end Lf
/- Plain facts of bounds that are made. -/
namespace Lf
open Go Go.Abs
set_option linter.unusedVariables false
set_option linter.unusedSimpArgs false
theorem norm_ok {b : Bound} (h : b.ok) : bound_Norm b = some b := by unfold bound_Norm; rw [check_ok h]; rfl
theorem none_ok : bound_None = some ⟨0, 0, true⟩ := rfl
theorem of_ok {lo hi : Int} (h1 : -1152921504606846976 ≤ lo) (h2 : lo ≤ hi) (h3 : hi ≤ 1152921504606846976) : bound_Of lo hi = some ⟨lo, hi, false⟩ := by
 unfold bound_Of; rw [norm_ok (okKnown h1 h2 h3)]; rfl
end Lf
/- Two bounds of which one is unknown. -/
namespace Lf
open Go Go.Abs
set_option linter.unusedVariables false
set_option linter.unusedSimpArgs false
theorem vague_ok {a b : Bound} (ha : a.ok) (hb : b.ok) : bound_vague a b = some (a.Unknown || b.Unknown) := by
 unfold bound_vague; rw [norm_ok ha, norm_ok hb]; cases h : a.Unknown <;> simp [h]
end Lf
/- Bounds as plain values: what each operation gives at whatever valid bounds. -/
namespace Lf
open Go Go.Abs
set_option linter.unusedVariables false
set_option linter.unusedSimpArgs false
def noneZ : Bound := ⟨0, 0, true⟩
def ofZ (lo hi : Int) : Bound := if lo ≤ hi ∧ -1152921504606846976 ≤ lo ∧ hi ≤ 1152921504606846976 then ⟨lo, hi, false⟩ else noneZ
theorem ofZ_eq (lo hi : Int) : bound_Of lo hi = some (ofZ lo hi) := by
 by_cases h : lo ≤ hi ∧ -1152921504606846976 ≤ lo ∧ hi ≤ 1152921504606846976
 ·unfold ofZ; rw [if_pos h]; exact of_ok h.2.1 h.1 h.2.2
 ·unfold ofZ; rw [if_neg h]
  have c : ∃ e, bound_Check ⟨lo, hi, false⟩ = some e ∧ e ≠ 0 := by
   unfold bound_Check
   simp only []
   by_cases h0 : lo ≤ hi
   ·rw [mn2_le h0, mx2_le h0]
    by_cases g1 : lo < -1152921504606846976
    ·exact ⟨4, by simp [g1], by decide⟩
    ·have g2 : hi > 1152921504606846976 := by omega
     exact ⟨4, by simp [g1, g2], by decide⟩
   ·rw [mn2_ge (by omega), mx2_ge (by omega)]
    have g0 : lo > hi := by omega
    by_cases g1 : hi < -1152921504606846976
    ·exact ⟨4, by simp [g1], by decide⟩
    ·by_cases g2 : lo > 1152921504606846976
     ·exact ⟨4, by simp [g1, g2], by decide⟩
     ·exact ⟨11, by simp [g0, g1, g2], by decide⟩
  obtain ⟨e, e1, e2⟩ := c
  unfold bound_Of bound_Norm
  rw [e1]
  simp [e2, bound_None, noneZ]
theorem ofZ_ok (lo hi : Int) : (ofZ lo hi).ok := by
 unfold ofZ
 split
 ·rename_i h; exact ⟨(fun e => nomatch e), h.2.1, h.1, h.2.2⟩
 ·exact okNone
theorem noneZ_ok : noneZ.ok := okNone
def addZ (a b : Bound) : Bound := if (a.Unknown || b.Unknown) = true then noneZ else ofZ (a.Lo + b.Lo) (a.Hi + b.Hi)
theorem addZ_eq {a b : Bound} (ha : a.ok) (hb : b.ok) : bound_Add a b = some (addZ a b) := by
 have := ha.lo; have := ha.le; have := ha.hi; have := hb.lo; have := hb.le; have := hb.hi
 unfold bound_Add addZ
 rw [vague_ok ha hb, w6_in (by omega), w6_in (by omega), ofZ_eq]
 simp only [Option.bind_some]
 split <;> rfl
theorem addZ_ok (a b : Bound) : (addZ a b).ok := by
 unfold addZ; split
 ·exact noneZ_ok
 ·exact ofZ_ok _ _
def negZ (b : Bound) : Bound := ⟨-b.Hi, -b.Lo, b.Unknown⟩
theorem negZ_ok {b : Bound} (h : b.ok) : (negZ b).ok := by
 obtain ⟨h1, h2, h3, h4⟩ := h
 exact ⟨fun e => by obtain ⟨p, q⟩ := h1 e; simp [negZ, p, q], by simp only [negZ]; omega, by simp only [negZ]; omega, by simp only [negZ]; omega⟩
def inZ (a b : Bound) : Prop := b.Unknown = true ∨ (a.Unknown = false ∧ b.Lo ≤ a.Lo ∧ a.Hi ≤ b.Hi)
def hasZ (b : Bound) (v : Int) : Prop := b.Unknown = true ∨ (b.Lo ≤ v ∧ v ≤ b.Hi)
theorem hasZ_none (v : Int) : hasZ noneZ v := .inl rfl
theorem hasZ_of {lo hi v : Int} (h1 : lo ≤ v) (h2 : v ≤ hi) : hasZ (ofZ lo hi) v := by
 unfold ofZ; split
 ·exact .inr ⟨h1, h2⟩
 ·exact hasZ_none v
theorem hasZ_add {a b : Bound} {x y : Int} (ha : hasZ a x) (hb : hasZ b y) : hasZ (addZ a b) (x + y) := by
 unfold addZ; split
 ·exact hasZ_none _
 ·rename_i h
  have h : a.Unknown = false ∧ b.Unknown = false := by simpa using h
  rcases ha with e | ha
  ·rw [h.1] at e; cases e
  ·rcases hb with e | hb
   ·rw [h.2] at e; cases e
   ·exact hasZ_of (by omega) (by omega)
theorem hasZ_neg {b : Bound} {x : Int} (h : hasZ b x) : hasZ (negZ b) (-x) := by
 rcases h with e | h
 ·exact .inl e
 ·exact .inr ⟨by simp only [negZ]; omega, by simp only [negZ]; omega⟩
theorem exactZ {v : Int} (h1 : -1152921504606846976 ≤ v) (h2 : v ≤ 1152921504606846976) : ofZ v v = ⟨v, v, false⟩ := by unfold ofZ; rw [if_pos ⟨Int.le_refl _, h1, h2⟩]
theorem inZ_refl (a : Bound) : inZ a a := by
 cases h : a.Unknown with
 | true => exact .inl h
 | false => exact .inr ⟨h, Int.le_refl _, Int.le_refl _⟩
theorem inZ_none (a : Bound) : inZ a noneZ := .inl rfl
theorem inZ.trans {a b c : Bound} (h : inZ a b) (k : inZ b c) : inZ a c := by
 rcases k with k | ⟨k1, k2, k3⟩
 ·exact .inl k
 ·rcases h with h | ⟨h1, h2, h3⟩
  ·rw [h] at k1; cases k1
  ·exact .inr ⟨h1, by omega, by omega⟩
theorem inZ.has {a b : Bound} {v : Int} (h : inZ a b) (k : hasZ a v) : hasZ b v := by
 rcases h with h | ⟨h1, h2, h3⟩
 ·exact .inl h
 ·rcases k with k | k
  ·rw [h1] at k; cases k
  ·exact .inr ⟨by omega, by omega⟩
theorem inZ_of {lo hi lo' hi' : Int} (h : lo' ≤ hi') (h1 : lo ≤ lo') (h2 : hi' ≤ hi) : inZ (ofZ lo' hi') (ofZ lo hi) := by
 unfold ofZ
 by_cases g : lo ≤ hi ∧ -1152921504606846976 ≤ lo ∧ hi ≤ 1152921504606846976
 ·rw [if_pos g, if_pos (by omega)]; exact .inr ⟨rfl, h1, h2⟩
 ·rw [if_neg g]; exact inZ_none _
theorem inZ_add {a b a' b' : Bound} (oa : a'.ok) (ob : b'.ok) (ha : inZ a' a) (hb : inZ b' b) : inZ (addZ a' b') (addZ a b) := by
 unfold addZ
 by_cases h : (a.Unknown || b.Unknown) = true
 ·rw [if_pos h]; exact inZ_none _
 ·rw [if_neg h]
  have h : a.Unknown = false ∧ b.Unknown = false := by simpa using h
  rcases ha with e | ⟨u1, ha⟩
  ·rw [h.1] at e; cases e
  ·rcases hb with e | ⟨u2, hb⟩
   ·rw [h.2] at e; cases e
   ·rw [if_neg (by simp [u1, u2])]
    have := oa.le; have := ob.le
    exact inZ_of (by omega) (by omega) (by omega)
theorem inZ_neg {a b : Bound} (h : inZ a b) : inZ (negZ a) (negZ b) := by
 rcases h with e | ⟨h1, h2, h3⟩
 ·exact .inl e
 ·exact .inr ⟨h1, by simp only [negZ]; omega, by simp only [negZ]; omega⟩
end Lf
/- Differences of bounds, as plain values. -/
namespace Lf
open Go Go.Abs
set_option linter.unusedVariables false
set_option linter.unusedSimpArgs false
theorem negZ_eq {b : Bound} (h : b.ok) : bound_Neg b = some (negZ b) := by
 obtain ⟨h1, h2, h3, h4⟩ := h
 unfold bound_Neg
 rw [norm_ok ⟨h1, h2, h3, h4⟩]
 simp only [Option.bind_some, Int.zero_sub]
 rw [w6_in (by omega), w6_in (by omega)]
 rfl
def subZ (a b : Bound) : Bound := addZ a (negZ b)
theorem subZ_eq {a b : Bound} (ha : a.ok) (hb : b.ok) : bound_Sub a b = some (subZ a b) := by
 unfold bound_Sub
 rw [negZ_eq hb]
 simp only [Option.bind_some]
 rw [addZ_eq ha (negZ_ok hb)]; rfl
theorem subZ_ok (a b : Bound) : (subZ a b).ok := addZ_ok _ _
theorem hasZ_sub {a b : Bound} {x y : Int} (ha : hasZ a x) (hb : hasZ b y) : hasZ (subZ a b) (x - y) := by
 have := hasZ_add ha (hasZ_neg hb)
 rw [Int.sub_eq_add_neg]; exact this
theorem inZ_sub {a b a' b' : Bound} (oa : a'.ok) (ob : b'.ok) (ha : inZ a' a) (hb : inZ b' b) : inZ (subZ a' b') (subZ a b) := inZ_add oa (negZ_ok ob) ha (inZ_neg hb)
end Lf
/- The smaller and the greater one of two numbers. -/
namespace Lf
open Go Go.Abs
set_option linter.unusedVariables false
set_option linter.unusedSimpArgs false
theorem mn2_min (a b : Int) : mn2 a b = min a b := by rcases mn2_def a b with ⟨e, h⟩ | ⟨e, h⟩ <;> rw [e] <;> omega
theorem mx2_max (a b : Int) : mx2 a b = max a b := by rcases mx2_def a b with ⟨e, h⟩ | ⟨e, h⟩ <;> rw [e] <;> omega
end Lf
/- Smaller ones and greater ones of bounds, as plain values. -/
namespace Lf
open Go Go.Abs
set_option linter.unusedVariables false
set_option linter.unusedSimpArgs false
def minZ (a b : Bound) : Bound := if (a.Unknown || b.Unknown) = true then noneZ else ofZ (min a.Lo b.Lo) (min a.Hi b.Hi)
theorem minZ_ok (a b : Bound) : (minZ a b).ok := by
 unfold minZ; split
 ·exact noneZ_ok
 ·exact ofZ_ok _ _
theorem minZ_eq {a b : Bound} (ha : a.ok) (hb : b.ok) : bound_Min a b = some (minZ a b) := by
 unfold bound_Min minZ
 rw [vague_ok ha hb, mn2_min, mn2_min, ofZ_eq]
 simp only [Option.bind_some]
 split <;> rfl
def maxZ (a b : Bound) : Bound := negZ (minZ (negZ a) (negZ b))
theorem maxZ_ok {a b : Bound} : (maxZ a b).ok := negZ_ok (minZ_ok _ _)
theorem maxZ_eq {a b : Bound} (ha : a.ok) (hb : b.ok) : bound_Max a b = some (maxZ a b) := by
 unfold bound_Max
 rw [negZ_eq ha, negZ_eq hb]
 simp only [Option.bind_some]
 rw [minZ_eq (negZ_ok ha) (negZ_ok hb)]
 simp only [Option.bind_some]
 rw [negZ_eq (minZ_ok _ _)]; rfl
end Lf
/- a * b / c, rounded up. -/
namespace Lf
open Go Go.Abs
set_option linter.unusedVariables false
set_option linter.unusedSimpArgs false
theorem wmod_ok (w : num_Wide) (d : Int) (hw : okW w) (hm : -170141183460469231731687303715884105728 < wv w) (hd : 1 ≤ d ∧ d ≤ 9223372036854775807) :
  Has (Wide_Mod w d) fun r => r = wv w % d := by
 have h1 := hw.h.1; have h2 := hw.h.2; have h3 := hw.l0; have h4 := hw.l1
 have ed : IntKind.wrap .u64 d = d := wu_in (by omega)
 unfold Wide_Mod
 simp only [ed, decide_eq_true_eq]
 have red : ∀ h l : Int, (h % d * 18446744073709551616 + l) % d = (h * 18446744073709551616 + l) % d := fun h l => by
  rw [Int.add_emod, Int.mul_emod, Int.emod_emod, ← Int.mul_emod, ← Int.add_emod]
 refine Has.neg (by omega) (Has.ite (fun hn => ?_) fun hn => ?_)
 ·refine (wneg_ok w hw hm).bind fun r ⟨r1, r2⟩ => ?_
  have g1 := r1.h.1; have g2 := r1.h.2; have g3 := r1.l0; have g4 := r1.l1
  have em : wv w = -(wv r) := by omega
  have hv : wv w < 0 := by unfold wv; omega
  have hp : 0 ≤ r.Hi := by unfold wv at *; omega
  have eh : IntKind.wrap .u64 r.Hi = r.Hi := wu_in (by omega)
  have ev : r.Hi * 18446744073709551616 + r.Lo.n = wv r := rfl
  have nd := neg_div (wv r) d (by omega)
  rw [eh, em]
  refine Has.chk (by omega) ?_
  rw [Int.tmod_eq_emod_of_nonneg hp]
  refine (div64_ok (r.Hi % d) r.Lo.n d (Int.emod_nonneg _ (by omega)) (Int.emod_lt_of_pos _ (by omega)) (by omega) g3 g4).bind fun q hq => ?_
  subst hq
  simp only [red, ev]
  have q2 := Int.emod_nonneg (wv r) (b := d) (by omega)
  have q3 := Int.emod_lt_of_pos (wv r) (b := d) (by omega)
  refine Has.bind (P := fun _ => True) (Has.ret trivial) fun _ _ => Has.ite (fun hs => Has.ret ?_) fun hs => Has.ret ?_
  ·rw [wu_in (by omega), w6_in (by omega)]; omega
  ·rw [w6_in (by omega)]; omega
 ·have eh : IntKind.wrap .u64 w.Hi = w.Hi := wu_in (by omega)
  have ev : w.Hi * 18446744073709551616 + w.Lo.n = wv w := rfl
  rw [eh]
  refine Has.chk (by omega) ?_
  rw [Int.tmod_eq_emod_of_nonneg (by omega)]
  refine (div64_ok (w.Hi % d) w.Lo.n d (Int.emod_nonneg _ (by omega)) (Int.emod_lt_of_pos _ (by omega)) (by omega) h3 h4).bind fun q hq => ?_
  subst hq
  simp only [red, ev]
  have q2 := Int.emod_nonneg (wv w) (b := d) (by omega)
  have q3 := Int.emod_lt_of_pos (wv w) (b := d) (by omega)
  exact Has.bind (P := fun _ => True) (Has.ret trivial) fun _ _ => Has.ret (w6_in (by omega))
theorem muldivup_ok (a b c : Int) (ha : okI a) (hb : okI b) (hc : 1 ≤ c ∧ c ≤ 9223372036854775807) :
  Has (num_MulDivUp a b c) fun r => (r.2 = 0 → (a * b % c = 0 ∧ r.1 = a * b / c ∨ 0 < a * b % c ∧ r.1 = a * b / c + 1) ∧ okI r.1) ∧ ((okI (a * b / c) ∧ okI (a * b / c + 1)) → r.2 = 0) := by
 unfold num_MulDivUp
 refine (product_ok a b ha hb).bind fun w ⟨w1, w2, w3, w4⟩ => (wdiv_ok w c w1 (by omega) hc).bind fun r hr => ?_
 rw [w2] at hr
 rcases hr with ⟨hk, rfl⟩ | ⟨hk, rfl⟩
 ·refine Has.bind (P := fun z => z = decide (a * b % c = 0)) (Has.neg (by simp) ((wmod_ok w c w1 (by omega) hc).bind fun m hm => Has.ret ?_)) fun z hz => ?_
  ·rw [hm, w2]; rfl
  ·subst hz
   have m0 := Int.emod_nonneg (a * b) (b := c) (by omega)
   refine Has.ite (fun h => Has.ret ⟨fun _ => ⟨.inl ⟨of_decide_eq_true h, rfl⟩, hk⟩, fun _ => rfl⟩) fun h => ?_
   have h : ¬ a * b % c = 0 := fun x => h (decide_eq_true x)
   have k1 := hk.1; have k2 := hk.2
   refine Has.ite (fun h2 => Has.ret ⟨(fun x => by cases x), fun h3 => ?_⟩) fun h2 => Has.ret ⟨fun _ => ?_, fun _ => rfl⟩
   ·have h2 : a * b / c = 9223372036854775807 := by simpa using h2
    have := h3.2.2; omega
   ·have h2 : a * b / c ≠ 9223372036854775807 := by simpa using h2
    rw [w6_in (by omega)]
    exact ⟨.inr ⟨by omega, rfl⟩, by unfold okI; simp only []; omega⟩
 ·refine Has.bind (P := fun z => z = true) (Has.pos (by simp) (Has.ret rfl)) fun z hz => Has.pos hz (Has.ret ⟨(fun x => by cases x), fun h => absurd h.1 hk⟩)
end Lf
/- Sums of bounds; what both admit. -/
namespace Lf
open Go Go.Abs
set_option linter.unusedVariables false
set_option linter.unusedSimpArgs false
theorem add_known {a b : Bound} (ha : a.ok) (hb : b.ok) (ua : a.Unknown = false) (ub : b.Unknown = false) (h1 : -1152921504606846976 ≤ a.Lo + b.Lo) (h2 : a.Hi + b.Hi ≤ 1152921504606846976) : bound_Add a b = some ⟨a.Lo + b.Lo, a.Hi + b.Hi, false⟩ := by
 have := ha.le; have := hb.le
 unfold bound_Add
 rw [vague_ok ha hb, ua, ub]
 simp only [Option.bind_some, Bool.or_self, Bool.false_eq_true, if_false]
 rw [w6_in (by omega), w6_in (by omega), of_ok h1 (by omega) h2]; rfl
theorem add_vague {a b : Bound} (ha : a.ok) (hb : b.ok) (u : (a.Unknown || b.Unknown) = true) : bound_Add a b = some ⟨0, 0, true⟩ := by
 unfold bound_Add
 rw [vague_ok ha hb, u]; rfl
end Lf
/- A bound times n / d, rounded outward. -/
namespace Lf
open Go Go.Abs
set_option linter.unusedVariables false
set_option linter.unusedSimpArgs false
theorem min_ok (x : List Int) (h : x ≠ []) (hl : x.length ≤ 1000000000) : Has (slices_Min_Int x) fun m => m ∈ x ∧ ∀ y ∈ x, m ≤ y := by
 have h0 : 0 < x.length := List.length_pos_iff.2 h
 have ini : ∀ i : Int, 0 ≤ i → i < 1 → gt x 0 ≤ gt x i := fun i h1 h2 => by
  have : i = 0 := by omega
  rw [this]; exact Int.le_refl _
 unfold slices_Min_Int
 refine Has.neg (by simp; omega) (Has.chk (by omega) (Has.bind (P := fun o => o ∈ x ∧ ∀ y ∈ x, o ≤ y) ?_ fun o ho => Has.ret ho))
 refine Has.loop (fun s : Int × Int => 1 ≤ s.2 ∧ s.2 ≤ (x.length : Int) ∧ s.1 ∈ x ∧ ∀ i : Int, 0 ≤ i → i < s.2 → s.1 ≤ gt x i) (fun s => (x.length - s.2).toNat) _ ⟨Int.le_refl _, (by show (1 : Int) ≤ _; omega), gt_mem x 0 ⟨by omega, by omega⟩, ini⟩ (by show ((x.length : Int) - 1).toNat < _; omega) fun s ⟨h1, h2, h3, h4⟩ => ?_
 unfold slices_Min_Int.l1
 refine Has.ite (fun h => ?_) fun h => Has.ret (.done ⟨h3, fun y hy => ?_⟩)
 ·have h : s.2 < (x.length : Int) := of_decide_eq_true h
  have hm := gt_mem x s.2 ⟨by omega, h⟩
  have d := mn2_def s.1 (gt x s.2)
  rw [w6_in (by omega)]
  refine Has.chk ⟨by omega, h⟩ (Has.ret (.next ⟨by simp only []; omega, by simp only []; omega, ?_, fun i i1 i2 => ?_⟩ (by simp only []; omega)))
  ·show mn2 s.1 (gt x s.2) ∈ x
   rcases d with ⟨e, _⟩ | ⟨e, _⟩ <;> rw [e]
   ·exact h3
   ·exact hm
  ·show mn2 s.1 (gt x s.2) ≤ gt x i
   simp only [] at i2
   by_cases hi : i = s.2
   ·rw [hi]; omega
   ·have := h4 i i1 (by omega); omega
 ·have h : ¬ s.2 < (x.length : Int) := fun q => h (decide_eq_true q)
  obtain ⟨n, hn, rfl⟩ := List.getElem_of_mem hy
  have := h4 n (by omega) (by omega)
  rw [gt_def x n ⟨by omega, by omega⟩] at this
  exact this
theorem max_ok (x : List Int) (h : x ≠ []) (hl : x.length ≤ 1000000000) : Has (slices_Max_Int x) fun m => m ∈ x ∧ ∀ y ∈ x, y ≤ m := by
 have h0 : 0 < x.length := List.length_pos_iff.2 h
 have ini : ∀ i : Int, 0 ≤ i → i < 1 → gt x i ≤ gt x 0 := fun i h1 h2 => by
  have : i = 0 := by omega
  rw [this]; exact Int.le_refl _
 unfold slices_Max_Int
 refine Has.neg (by simp; omega) (Has.chk (by omega) (Has.bind (P := fun o => o ∈ x ∧ ∀ y ∈ x, y ≤ o) ?_ fun o ho => Has.ret ho))
 refine Has.loop (fun s : Int × Int => 1 ≤ s.2 ∧ s.2 ≤ (x.length : Int) ∧ s.1 ∈ x ∧ ∀ i : Int, 0 ≤ i → i < s.2 → gt x i ≤ s.1) (fun s => (x.length - s.2).toNat) _ ⟨Int.le_refl _, (by show (1 : Int) ≤ _; omega), gt_mem x 0 ⟨by omega, by omega⟩, ini⟩ (by show ((x.length : Int) - 1).toNat < _; omega) fun s ⟨h1, h2, h3, h4⟩ => ?_
 unfold slices_Max_Int.l1
 refine Has.ite (fun h => ?_) fun h => Has.ret (.done ⟨h3, fun y hy => ?_⟩)
 ·have h : s.2 < (x.length : Int) := of_decide_eq_true h
  have hm := gt_mem x s.2 ⟨by omega, h⟩
  have d := mx2_def s.1 (gt x s.2)
  rw [w6_in (by omega)]
  refine Has.chk ⟨by omega, h⟩ (Has.ret (.next ⟨by simp only []; omega, by simp only []; omega, ?_, fun i i1 i2 => ?_⟩ (by simp only []; omega)))
  ·show mx2 s.1 (gt x s.2) ∈ x
   rcases d with ⟨e, _⟩ | ⟨e, _⟩ <;> rw [e]
   ·exact h3
   ·exact hm
  ·show gt x i ≤ mx2 s.1 (gt x s.2)
   simp only [] at i2
   by_cases hi : i = s.2
   ·rw [hi]; omega
   ·have := h4 i i1 (by omega); omega
 ·have h : ¬ s.2 < (x.length : Int) := fun q => h (decide_eq_true q)
  obtain ⟨n, hn, rfl⟩ := List.getElem_of_mem hy
  have := h4 n (by omega) (by omega)
  rw [gt_def x n ⟨by omega, by omega⟩] at this
  exact this
theorem of_bad {lo hi : Int} (h : lo ≤ hi) (hn : ¬ (-1152921504606846976 ≤ lo ∧ hi ≤ 1152921504606846976)) : bound_Of lo hi = some ⟨0, 0, true⟩ := by
 unfold bound_Of bound_Norm bound_Check
 simp only []
 rw [mn2_le h, mx2_le h]
 by_cases h1 : lo < -1152921504606846976
 ·simp [h1, bound_None]
 ·have h2 : hi > 1152921504606846976 := by omega
  simp [h1, h2, bound_None]
def fitB (lo hi : Int) : Prop := -1152921504606846976 ≤ lo ∧ hi ≤ 1152921504606846976
instance (lo hi : Int) : Decidable (fitB lo hi) := inferInstanceAs (Decidable (_ ∧ _))
theorem both_ok (x n d L H : Int) (hx : okI x) (hn : okI n) (hd : 1 ≤ d ∧ d ≤ 9223372036854775807) (hL : L ≤ x * n / d) (hH : cdiv (x * n) d ≤ H) :
  ∃ r9 r10, bound_Mul_1 x n d = some r9 ∧ bound_Mul_2 x n d = some r10 ∧ ((r9.2 = 0 ∧ r10.2 = 0 ∧ r9.1 = x * n / d ∧ r10.1 = cdiv (x * n) d) ∨ ((r9.2 ≠ 0 ∨ r10.2 ≠ 0) ∧ ¬ fitB L H)) := by
 obtain ⟨r9, e9, p9⟩ := muldiv_ok x n d hx hn hd
 obtain ⟨r10, e10, p10, p11⟩ := muldivup_ok x n d hx hn hd
 have hc := fl_le_ce (x := x * n) (d := d) (by omega)
 obtain ⟨u1, u2⟩ := cdiv_up (x := x * n) (d := d) (by omega)
 refine ⟨r9, r10, by unfold bound_Mul_1; rw [e9]; rfl, by unfold bound_Mul_2; rw [e10]; rfl, ?_⟩
 by_cases hf : fitB L H
 ·left
  obtain ⟨f1, f2⟩ := hf
  have k : okI (x * n / d) := by unfold okI; omega
  have k1 : okI (x * n / d + 1) := by unfold okI; omega
  have z := p11 ⟨k, k1⟩
  rcases p9 with ⟨_, rfl⟩ | ⟨q, _⟩
  ·refine ⟨rfl, z, rfl, ?_⟩
   rcases (p10 z).1 with ⟨a, b⟩ | ⟨a, b⟩
   ·rw [b, u1 a]
   ·rw [b, u2 a]
  ·exact absurd k q
 ·by_cases z9 : r9.2 = 0
  ·by_cases z10 : r10.2 = 0
   ·left
    refine ⟨z9, z10, ?_, ?_⟩
    ·rcases p9 with ⟨_, rfl⟩ | ⟨q, rfl⟩
     ·rfl
     ·cases z9
    ·rcases (p10 z10).1 with ⟨a, b⟩ | ⟨a, b⟩
     ·rw [b, u1 a]
     ·rw [b, u2 a]
   ·exact .inr ⟨.inr z10, hf⟩
  ·exact .inr ⟨.inl z9, hf⟩
structure Cor (L H : Int) (l : List Int) (k : Int) (lo hi : Bool) : Prop where
 len : (l.length : Int) = k
 all : ∀ y ∈ l, L ≤ y ∧ y ≤ H
 lo : lo = true → L ∈ l
 hi : hi = true → H ∈ l
theorem corners_ok (a : Bound) (n d : Int) (ha : a.ok) (hn : 0 ≤ n ∧ n ≤ 1152921504606846976) (hd : 1 ≤ d ∧ d ≤ 9223372036854775807) :
  bound_corners_bound_Mul_1 a ⟨n, n, false⟩ d d = some (if fitB (a.Lo * n / d) (cdiv (a.Hi * n) d) then ⟨a.Lo * n / d, cdiv (a.Hi * n) d, false⟩ else ⟨0, 0, true⟩) := by
 have a1 := ha.lo; have a2 := ha.le; have a3 := ha.hi
 have m1 : a.Lo * n ≤ a.Hi * n := Int.mul_le_mul_of_nonneg_right a2 hn.1
 have d1 := Int.ediv_le_ediv (show 0 < d by omega) m1
 have d2 := cdiv_mono (show 0 < d by omega) m1
 have f1 := fl_le_ce (x := a.Lo * n) (d := d) (by omega)
 have f2 := fl_le_ce (x := a.Hi * n) (d := d) (by omega)
 have bL := both_ok a.Lo n d (a.Lo * n / d) (cdiv (a.Hi * n) d) (by unfold okI; omega) (by unfold okI; omega) hd (Int.le_refl _) d2
 have bH := both_ok a.Hi n d (a.Lo * n / d) (cdiv (a.Hi * n) d) (by unfold okI; omega) (by unfold okI; omega) hd d1 (Int.le_refl _)
 generalize hLe : a.Lo * n / d = L at *
 generalize hHe : cdiv (a.Hi * n) d = H at *
 generalize hMe : cdiv (a.Lo * n) d = M at *
 generalize hNe : a.Hi * n / d = N at *
 apply Has.val
 unfold bound_corners_bound_Mul_1
 refine Has.seq (P := fun t : Step (List Int) Bound => (∃ l, t = .next l ∧ Cor L H l 8 true true) ∨ (t = .done ⟨0, 0, true⟩ ∧ ¬ fitB L H)) ?_ (fun l hl => ?_) fun o ho => ?_
 ·refine Has.loop (fun s : List Int × Int => (s.2 = 0 ∧ Cor L H s.1 0 false false) ∨ (s.2 = 1 ∧ Cor L H s.1 4 true false) ∨ (s.2 = 2 ∧ Cor L H s.1 8 true true)) (fun s => (2 - s.2).toNat) _ (.inl ⟨rfl, rfl, by simp, (fun h => nomatch h), (fun h => nomatch h)⟩) (by simp only []; omega) fun s hs => ?_
  have hs2 : 0 ≤ s.2 ∧ s.2 ≤ 2 := by rcases hs with ⟨e, _⟩ | ⟨e, _⟩ | ⟨e, _⟩ <;> omega
  unfold bound_corners_bound_Mul_1.l1
  refine Has.ite (fun h => ?_) fun h => Has.ret (.done (.inl ⟨s.1, rfl, ?_⟩))
  ·have h : s.2 < 2 := of_decide_eq_true h
   refine Has.chk ⟨hs2.1, h⟩ (Has.seq (P := fun t : Step (List Int) (Step (List Int × Int) (Step (List Int) Bound)) => (∃ l, t = .next l ∧ ((s.2 = 0 ∧ Cor L H l 4 true false) ∨ (s.2 = 1 ∧ Cor L H l 8 true true))) ∨ (t = .done (.done (.done ⟨0, 0, true⟩)) ∧ ¬ fitB L H)) ?_ (fun l hl => ?_) fun o ho => ?_)
   ·refine Has.loop (fun t : List Int × Int => (0 ≤ t.2 ∧ t.2 ≤ 2) ∧ ((s.2 = 0 ∧ Cor L H t.1 (2 * t.2) (decide (0 < t.2)) false) ∨ (s.2 = 1 ∧ Cor L H t.1 (4 + 2 * t.2) true (decide (0 < t.2))))) (fun t => (2 - t.2).toNat) _ ⟨⟨Int.le_refl _, by simp only []; omega⟩, ?_⟩ (by simp only []; omega) fun t ⟨ht, hc⟩ => ?_
    ·rcases hs with ⟨e, c⟩ | ⟨e, c⟩ | ⟨e, c⟩
     ·exact .inl ⟨e, c⟩
     ·exact .inr ⟨e, c⟩
     ·omega
    ·unfold bound_corners_bound_Mul_1.l2
     refine Has.ite (fun h2 => ?_) fun h2 => Has.ret (.done (.inl ⟨t.1, rfl, ?_⟩))
     ·have h2 : t.2 < 2 := of_decide_eq_true h2
      have eb : gt ([n, n] : List Int) t.2 = n := by
       have : t.2 = 0 ∨ t.2 = 1 := by omega
       rcases this with e | e <;> rw [e] <;> rfl
      have hl : (t.1.length : Int) ≤ 8 := by rcases hc with ⟨_, c⟩ | ⟨_, c⟩ <;> have := c.len <;> omega
      refine Has.chk ⟨ht.1, h2⟩ ?_
      simp only [eb]
      have fin : ∀ (x X Y : Int), gt ([a.Lo, a.Hi] : List Int) s.2 = x → (∃ r9 r10, bound_Mul_1 x n d = some r9 ∧ bound_Mul_2 x n d = some r10 ∧ ((r9.2 = 0 ∧ r10.2 = 0 ∧ r9.1 = X ∧ r10.1 = Y) ∨ ((r9.2 ≠ 0 ∨ r10.2 ≠ 0) ∧ ¬ fitB L H))) →
        (((s.2 = 0 ∧ Cor L H (t.1 ++ [X, Y]) (2 * (t.2 + 1)) (decide (0 < t.2 + 1)) false) ∨ (s.2 = 1 ∧ Cor L H (t.1 ++ [X, Y]) (4 + 2 * (t.2 + 1)) true (decide (0 < t.2 + 1))))) →
        Has (Option.bind (bound_Mul_1 (gt ([a.Lo, a.Hi] : List Int) s.2) n d) fun r9 => Option.bind (bound_Mul_2 (gt ([a.Lo, a.Hi] : List Int) s.2) n d) fun r10 => Option.bind (if (r9.2 != 0) = true then some true else some (r10.2 != 0)) fun z11 : Bool => if z11 = true then Option.bind (bound_None) fun r14 => some (.done (.done (.done (.done r14)))) else if roomy (t.1.length + ([r9.1, r10.1] : List Int).length) 8 = true then some (.next (t.1 ++ ([r9.1, r10.1] : List Int), w6 (t.2 + 1))) else none)
         (StepOK (fun t : List Int × Int => (0 ≤ t.2 ∧ t.2 ≤ 2) ∧ ((s.2 = 0 ∧ Cor L H t.1 (2 * t.2) (decide (0 < t.2)) false) ∨ (s.2 = 1 ∧ Cor L H t.1 (4 + 2 * t.2) true (decide (0 < t.2))))) (fun t => (2 - t.2).toNat) (fun t : Step (List Int) (Step (List Int × Int) (Step (List Int) Bound)) => (∃ l, t = .next l ∧ ((s.2 = 0 ∧ Cor L H l 4 true false) ∨ (s.2 = 1 ∧ Cor L H l 8 true true))) ∨ (t = .done (.done (.done ⟨0, 0, true⟩)) ∧ ¬ fitB L H)) ((2 - t.2).toNat)) := by
       intro x X Y ex ⟨r9, r10, e9, e10, hr⟩ hC
       rw [ex, e9, e10]
       simp only [Option.bind_some, ite_or]
       rcases hr with ⟨z9, z10, v9, v10⟩ | ⟨hb, hf⟩
       ·rw [z9, z10, v9, v10, w6_in (by omega)]
        refine Has.neg (by simp) (Has.chk (roomyI (by simp; omega) (by simp; omega)) (Has.ret (.next ⟨⟨by simp only []; omega, by simp only []; omega⟩, hC⟩ (by simp only []; omega))))
       ·refine Has.pos (by rcases hb with hb | hb <;> simp [hb]) (Has.ret (.done (.inr ⟨rfl, hf⟩)))
      rcases hc with ⟨e, c⟩ | ⟨e, c⟩
      ·refine fin a.Lo L M (by rw [e]; rfl) bL (.inl ⟨e, by have := c.len; simp; omega, fun y hy => ?_, fun _ => List.mem_append_right _ (by simp), (fun h => nomatch h)⟩)
       rcases List.mem_append.1 hy with h | h
       ·exact c.all y h
       ·simp at h; rcases h with rfl | rfl <;> omega
      ·refine fin a.Hi N H (by rw [e]; rfl) bH (.inr ⟨e, by have := c.len; simp; omega, fun y hy => ?_, fun h => List.mem_append_left _ (c.lo h), fun _ => List.mem_append_right _ (by simp)⟩)
       rcases List.mem_append.1 hy with h | h
       ·exact c.all y h
       ·simp at h; rcases h with rfl | rfl <;> omega
     ·have h2 : t.2 = 2 := by have : ¬ t.2 < 2 := fun q => h2 (decide_eq_true q); omega
      rw [h2] at hc
      exact hc
   ·rcases hl with ⟨l', e, hl⟩ | ⟨e, _⟩
    ·cases e
     rw [w6_in (by omega)]
     refine Has.ret (.next ?_ (by simp only []; omega))
     rcases hl with ⟨e, c⟩ | ⟨e, c⟩
     ·exact .inr (.inl ⟨by simp only []; omega, c⟩)
     ·exact .inr (.inr ⟨by simp only []; omega, c⟩)
    ·cases e
   ·rcases ho with ⟨l', e, _⟩ | ⟨e, hf⟩
    ·cases e
    ·cases e; exact .done (.inr ⟨rfl, hf⟩)
  ·have h : s.2 = 2 := by have : ¬ s.2 < 2 := fun q => h (decide_eq_true q); omega
   rcases hs with ⟨e, _⟩ | ⟨e, _⟩ | ⟨e, c⟩
   ·omega
   ·omega
   ·exact c
 ·rcases hl with ⟨l', e, c⟩ | ⟨e, _⟩
  ·cases e
   have hlen := c.len
   have hne : l ≠ [] := fun e => by subst e; simp at hlen
   refine (min_ok l hne (by omega)).bind fun m ⟨m1, m2⟩ => (max_ok l hne (by omega)).bind fun k ⟨k1, k2⟩ => ?_
   have em : m = L := by have := m2 L (c.lo rfl); have := c.all m m1; omega
   have ek : k = H := by have := k2 H (c.hi rfl); have := c.all k k1; omega
   have hLH : L ≤ H := by omega
   rw [em, ek]
   by_cases hf : fitB L H
   ·rw [of_ok hf.1 hLH hf.2, if_pos hf]; exact Has.ret rfl
   ·rw [of_bad hLH hf, if_neg hf]; exact Has.ret rfl
  ·cases e
 ·rcases ho with ⟨l', e, _⟩ | ⟨e, hf⟩
  ·cases e
  ·cases e; rw [if_neg hf]
theorem exact_ok {v : Int} (h1 : -1152921504606846976 ≤ v) (h2 : v ≤ 1152921504606846976) : bound_Exact v = some ⟨v, v, false⟩ := by
 unfold bound_Exact; rw [of_ok h1 (Int.le_refl _) h2]; rfl
theorem scale_known (a : Bound) (n d : Int) (ha : a.ok) (ua : a.Unknown = false) (hn : 0 ≤ n ∧ n ≤ 1152921504606846976) (hd : 1 ≤ d ∧ d ≤ 9223372036854775807) :
  bound_Scale a n d = some (if fitB (a.Lo * n / d) (cdiv (a.Hi * n) d) then ⟨a.Lo * n / d, cdiv (a.Hi * n) d, false⟩ else ⟨0, 0, true⟩) := by
 unfold bound_Scale bound_Mul
 rw [exact_ok (by omega) hn.2]
 simp only [Option.bind_some]
 have hd' : ¬ d < 1 := by omega
 rw [vague_ok ha (okKnown (by omega) (Int.le_refl _) hn.2), ua]
 simp only [Option.bind_some, Bool.or_self, Bool.false_eq_true, if_false, decide_eq_true_eq, hd']
 rw [corners_ok a n d ha hn hd]; rfl
theorem scale_vague (a : Bound) (n d : Int) (ha : a.ok) (ua : a.Unknown = true) (hn : 0 ≤ n ∧ n ≤ 1152921504606846976) : bound_Scale a n d = some ⟨0, 0, true⟩ := by
 unfold bound_Scale bound_Mul
 rw [exact_ok (by omega) hn.2]
 simp only [Option.bind_some]
 rw [vague_ok ha (okKnown (by omega) (Int.le_refl _) hn.2), ua]
 rfl
theorem scale_one (a : Bound) (n : Int) (ha : a.ok) (ua : a.Unknown = false) (hn : 0 ≤ n ∧ n ≤ 1152921504606846976) (h1 : -1152921504606846976 ≤ a.Lo * n) (h2 : a.Hi * n ≤ 1152921504606846976) :
  bound_Scale a n 1 = some ⟨a.Lo * n, a.Hi * n, false⟩ := by
 have e1 : cdiv (a.Hi * n) 1 = a.Hi * n := by unfold cdiv; simp
 rw [scale_known a n 1 ha ua hn (by omega), Int.ediv_one, e1, if_pos ⟨h1, h2⟩]
end Lf
/- Products of bounds, as plain values. -/
namespace Lf
open Go Go.Abs
set_option linter.unusedVariables false
set_option linter.unusedSimpArgs false
def end2 (b : Bound) (i : Int) : Int := if i = 0 then b.Lo else b.Hi
structure Cor2 (F G : Int → Int → Int) (L H : Int) (l : List Int) (k : Int) : Prop where
 len : (l.length : Int) = 2 * k
 all : ∀ y ∈ l, L ≤ y ∧ y ≤ H
 mem : ∀ i j : Int, 0 ≤ i → 0 ≤ j → j < 2 → 2 * i + j < k → F i j ∈ l ∧ G i j ∈ l
theorem cornersMul_ok (a b : Bound) (d : Int) (F G : Int → Int → Int) (L H : Int)
  (hb : ∀ i j : Int, 0 ≤ i → i < 2 → 0 ≤ j → j < 2 → ∃ r9 r10, bound_Mul_1 (end2 a i) (end2 b j) d = some r9 ∧ bound_Mul_2 (end2 a i) (end2 b j) d = some r10 ∧ ((r9.2 = 0 ∧ r10.2 = 0 ∧ r9.1 = F i j ∧ r10.1 = G i j) ∨ ((r9.2 ≠ 0 ∨ r10.2 ≠ 0) ∧ ¬ fitB L H)))
  (hall : ∀ i j : Int, 0 ≤ i → i < 2 → 0 ≤ j → j < 2 → L ≤ F i j ∧ F i j ≤ G i j ∧ G i j ≤ H)
  (hL : ∃ i j : Int, 0 ≤ i ∧ i < 2 ∧ 0 ≤ j ∧ j < 2 ∧ F i j = L) (hH : ∃ i j : Int, 0 ≤ i ∧ i < 2 ∧ 0 ≤ j ∧ j < 2 ∧ G i j = H) :
  bound_corners_bound_Mul_1 a b d d = some (ofZ L H) := by
 have e2 : ∀ (c : Bound) (i : Int), 0 ≤ i → i < 2 → gt ([c.Lo, c.Hi] : List Int) i = end2 c i := fun c i i0 i1 => by
  have : i = 0 ∨ i = 1 := by omega
  rcases this with rfl | rfl <;> rfl
 have bad : ¬ fitB L H → ofZ L H = noneZ := fun h => by unfold ofZ; rw [if_neg]; unfold fitB at h; omega
 apply Has.val
 unfold bound_corners_bound_Mul_1
 refine Has.seq (P := fun t : Step (List Int) Bound => (∃ l, t = .next l ∧ Cor2 F G L H l 4) ∨ (t = .done noneZ ∧ ¬ fitB L H)) ?_ (fun l hl => ?_) fun o ho => ?_
 ·refine Has.loop (fun s : List Int × Int => 0 ≤ s.2 ∧ s.2 ≤ 2 ∧ Cor2 F G L H s.1 (2 * s.2)) (fun s => (2 - s.2).toNat) _ ⟨Int.le_refl _, by simp only []; omega, rfl, (by simp), fun i j _ _ _ h => by simp only [] at h; omega⟩ (by simp only []; omega) fun s ⟨s0, s1, sc⟩ => ?_
  unfold bound_corners_bound_Mul_1.l1
  refine Has.ite (fun h => ?_) fun h => Has.ret (.done (.inl ⟨s.1, rfl, ?_⟩))
  ·have h : s.2 < 2 := of_decide_eq_true h
   refine Has.chk ⟨s0, h⟩ (Has.seq (P := fun t : Step (List Int) (Step (List Int × Int) (Step (List Int) Bound)) => (∃ l, t = .next l ∧ Cor2 F G L H l (2 * (s.2 + 1))) ∨ (t = .done (.done (.done noneZ)) ∧ ¬ fitB L H)) ?_ (fun l hl => ?_) fun o ho => ?_)
   ·refine Has.loop (fun t : List Int × Int => 0 ≤ t.2 ∧ t.2 ≤ 2 ∧ Cor2 F G L H t.1 (2 * s.2 + t.2)) (fun t => (2 - t.2).toNat) _ ⟨Int.le_refl _, by simp only []; omega, by simp only [Int.add_zero]; exact sc⟩ (by simp only []; omega) fun t ⟨t0, t1, tc⟩ => ?_
    unfold bound_corners_bound_Mul_1.l2
    refine Has.ite (fun h2 => ?_) fun h2 => Has.ret (.done (.inl ⟨t.1, rfl, ?_⟩))
    ·have h2 : t.2 < 2 := of_decide_eq_true h2
     have hl := tc.len
     obtain ⟨a1, a2, a3⟩ := hall s.2 t.2 s0 h t0 h2
     obtain ⟨r9, r10, e9, e10, hr⟩ := hb s.2 t.2 s0 h t0 h2
     refine Has.chk ⟨t0, h2⟩ ?_
     rw [e2 a s.2 s0 h, e2 b t.2 t0 h2, e9, e10]
     simp only [Option.bind_some, ite_or]
     rcases hr with ⟨z9, z10, v9, v10⟩ | ⟨hb, hf⟩
     ·rw [z9, z10, v9, v10, w6_in (by omega)]
      refine Has.neg (by simp) (Has.chk (roomyI (by simp; omega) (by simp; omega)) (Has.ret (.next ⟨by simp only []; omega, by simp only []; omega, by simp; omega, fun y hy => ?_, fun i j i0 j0 j1 hk => ?_⟩ (by simp only []; omega))))
      ·rcases List.mem_append.1 hy with h | h
       ·exact tc.all y h
       ·simp at h; rcases h with rfl | rfl <;> omega
      ·by_cases e : 2 * i + j < 2 * s.2 + t.2
       ·obtain ⟨m1, m2⟩ := tc.mem i j i0 j0 j1 e
        exact ⟨List.mem_append_left _ m1, List.mem_append_left _ m2⟩
       ·have e1 : i = s.2 := by simp only [] at hk; omega
        have e3 : j = t.2 := by simp only [] at hk; omega
        rw [e1, e3]
        exact ⟨List.mem_append_right _ (by simp), List.mem_append_right _ (by simp)⟩
     ·refine Has.pos (by rcases hb with hb | hb <;> simp [hb]) (Has.ret (.done (.inr ⟨rfl, hf⟩)))
    ·have h2 : t.2 = 2 := by have : ¬ t.2 < 2 := fun q => h2 (decide_eq_true q); omega
     rw [h2] at tc
     rw [show 2 * (s.2 + 1) = 2 * s.2 + 2 from by omega]; exact tc
   ·rcases hl with ⟨l', e, hl⟩ | ⟨e, _⟩
    ·cases e
     rw [w6_in (by omega)]
     exact Has.ret (.next ⟨by simp only []; omega, by simp only []; omega, hl⟩ (by simp only []; omega))
    ·cases e
   ·rcases ho with ⟨l', e, _⟩ | ⟨e, hf⟩
    ·cases e
    ·cases e; exact .done (.inr ⟨rfl, hf⟩)
  ·have h : s.2 = 2 := by have : ¬ s.2 < 2 := fun q => h (decide_eq_true q); omega
   rw [h] at sc; exact sc
 ·rcases hl with ⟨l', e, c⟩ | ⟨e, _⟩
  ·cases e
   have hlen := c.len
   have hne : l ≠ [] := fun e => by subst e; simp at hlen
   refine (min_ok l hne (by omega)).bind fun m ⟨m1, m2⟩ => (max_ok l hne (by omega)).bind fun k ⟨k1, k2⟩ => ?_
   obtain ⟨i, j, i0, i1, j0, j1, eL⟩ := hL
   obtain ⟨i', j', i0', i1', j0', j1', eH⟩ := hH
   have hLm := (c.mem i j i0 j0 j1 (by omega)).1
   have hHm := (c.mem i' j' i0' j0' j1' (by omega)).2
   rw [eL] at hLm
   rw [eH] at hHm
   have em : m = L := by have := m2 L hLm; have := c.all m m1; omega
   have ek : k = H := by have := k2 H hHm; have := c.all k k1; omega
   rw [em, ek, ofZ_eq]
   exact Has.ret rfl
  ·cases e
 ·rcases ho with ⟨l', e, _⟩ | ⟨e, hf⟩
  ·cases e
  ·cases e; exact (bad hf).symm
def lo4 (a b : Bound) (u : Int) : Int := min (min (a.Lo * b.Lo / u) (a.Lo * b.Hi / u)) (min (a.Hi * b.Lo / u) (a.Hi * b.Hi / u))
def hi4 (a b : Bound) (u : Int) : Int := max (max (cdiv (a.Lo * b.Lo) u) (cdiv (a.Lo * b.Hi) u)) (max (cdiv (a.Hi * b.Lo) u) (cdiv (a.Hi * b.Hi) u))
def mulZ (a b : Bound) (u : Int) : Bound := if (a.Unknown || b.Unknown) = true ∨ u < 1 then noneZ else ofZ (lo4 a b u) (hi4 a b u)
theorem mulZ_ok (a b : Bound) (u : Int) : (mulZ a b u).ok := by
 unfold mulZ; split
 ·exact noneZ_ok
 ·exact ofZ_ok _ _
theorem mulZ_eq {a b : Bound} {u : Int} (ha : a.ok) (hb : b.ok) (hu : u ≤ 9223372036854775807) : bound_Mul a b u = some (mulZ a b u) := by
 have := ha.lo; have := ha.le; have := ha.hi; have := hb.lo; have := hb.le; have := hb.hi
 unfold bound_Mul mulZ
 rw [vague_ok ha hb]
 simp only [Option.bind_some, ite_or]
 by_cases h : (a.Unknown || b.Unknown) = true ∨ u < 1
 ·rw [if_pos h, if_pos (by simpa using h)]; rfl
 ·rw [if_neg h, if_neg (by simpa using h)]
  have hu1 : 1 ≤ u := by omega
  have fc := fun x : Int => fl_le_ce (x := x) (d := u) (by omega)
  rw [cornersMul_ok a b u (fun i j => end2 a i * end2 b j / u) (fun i j => cdiv (end2 a i * end2 b j) u) (lo4 a b u) (hi4 a b u)]
  ·rfl
  ·intro i j i0 i1 j0 j1
   have i01 : i = 0 ∨ i = 1 := by omega
   have j01 : j = 0 ∨ j = 1 := by omega
   refine both_ok _ _ u _ _ ?_ ?_ ⟨hu1, hu⟩ ?_ ?_
   ·rcases i01 with rfl | rfl <;> simp only [end2] <;> unfold okI <;> simp <;> omega
   ·rcases j01 with rfl | rfl <;> simp only [end2] <;> unfold okI <;> simp <;> omega
   ·unfold lo4; rcases i01 with rfl | rfl <;> rcases j01 with rfl | rfl <;> simp only [end2] <;> simp <;> omega
   ·unfold hi4; rcases i01 with rfl | rfl <;> rcases j01 with rfl | rfl <;> simp only [end2] <;> simp <;> omega
  ·intro i j i0 i1 j0 j1
   have i01 : i = 0 ∨ i = 1 := by omega
   have j01 : j = 0 ∨ j = 1 := by omega
   refine ⟨?_, (fc _).1, ?_⟩
   ·unfold lo4; rcases i01 with rfl | rfl <;> rcases j01 with rfl | rfl <;> simp only [end2] <;> simp <;> omega
   ·unfold hi4; rcases i01 with rfl | rfl <;> rcases j01 with rfl | rfl <;> simp only [end2] <;> simp <;> omega
  ·have : lo4 a b u = a.Lo * b.Lo / u ∨ lo4 a b u = a.Lo * b.Hi / u ∨ lo4 a b u = a.Hi * b.Lo / u ∨ lo4 a b u = a.Hi * b.Hi / u := by unfold lo4; omega
   rcases this with e | e | e | e
   ·exact ⟨0, 0, by decide, by decide, by decide, by decide, e.symm⟩
   ·exact ⟨0, 1, by decide, by decide, by decide, by decide, e.symm⟩
   ·exact ⟨1, 0, by decide, by decide, by decide, by decide, e.symm⟩
   ·exact ⟨1, 1, by decide, by decide, by decide, by decide, e.symm⟩
  ·have : hi4 a b u = cdiv (a.Lo * b.Lo) u ∨ hi4 a b u = cdiv (a.Lo * b.Hi) u ∨ hi4 a b u = cdiv (a.Hi * b.Lo) u ∨ hi4 a b u = cdiv (a.Hi * b.Hi) u := by unfold hi4; omega
   rcases this with e | e | e | e
   ·exact ⟨0, 0, by decide, by decide, by decide, by decide, e.symm⟩
   ·exact ⟨0, 1, by decide, by decide, by decide, by decide, e.symm⟩
   ·exact ⟨1, 0, by decide, by decide, by decide, by decide, e.symm⟩
   ·exact ⟨1, 1, by decide, by decide, by decide, by decide, e.symm⟩
theorem prod_between {a1 a2 b1 b2 x y : Int} (hx1 : a1 ≤ x) (hx2 : x ≤ a2) (hy1 : b1 ≤ y) (hy2 : y ≤ b2) :
  min (min (a1 * b1) (a1 * b2)) (min (a2 * b1) (a2 * b2)) ≤ x * y ∧ x * y ≤ max (max (a1 * b1) (a1 * b2)) (max (a2 * b1) (a2 * b2)) := by
 have side : ∀ b : Int, min (a1 * b) (a2 * b) ≤ x * b ∧ x * b ≤ max (a1 * b) (a2 * b) := fun b => by
  by_cases hb : 0 ≤ b
  ·have p := Int.mul_le_mul_of_nonneg_right hx1 hb
   have q := Int.mul_le_mul_of_nonneg_right hx2 hb
   omega
  ·have p := Int.mul_le_mul_of_nonpos_right hx1 (show b ≤ 0 by omega)
   have q := Int.mul_le_mul_of_nonpos_right hx2 (show b ≤ 0 by omega)
   omega
 have mid : min (x * b1) (x * b2) ≤ x * y ∧ x * y ≤ max (x * b1) (x * b2) := by
  by_cases hx : 0 ≤ x
  ·have p := Int.mul_le_mul_of_nonneg_left hy1 hx
   have q := Int.mul_le_mul_of_nonneg_left hy2 hx
   omega
  ·have p := Int.mul_le_mul_of_nonpos_left (show x ≤ 0 by omega) hy1
   have q := Int.mul_le_mul_of_nonpos_left (show x ≤ 0 by omega) hy2
   omega
 have s1 := side b1
 have s2 := side b2
 omega
theorem four_le {p q r s z u : Int} (hu : 0 < u) (h : min (min p q) (min r s) ≤ z) : min (min (p / u) (q / u)) (min (r / u) (s / u)) ≤ z / u := by
 have : p ≤ z ∨ q ≤ z ∨ r ≤ z ∨ s ≤ z := by omega
 rcases this with h | h | h | h <;> have := Int.ediv_le_ediv hu h <;> omega
theorem four_ge {p q r s z u : Int} (hu : 0 < u) (h : z ≤ max (max p q) (max r s)) : cdiv z u ≤ max (max (cdiv p u) (cdiv q u)) (max (cdiv r u) (cdiv s u)) := by
 have : z ≤ p ∨ z ≤ q ∨ z ≤ r ∨ z ≤ s := by omega
 rcases this with h | h | h | h <;> have := cdiv_mono hu h <;> omega
theorem four_bd {a b : Bound} {x y u : Int} (hu : 1 ≤ u) (hx1 : a.Lo ≤ x) (hx2 : x ≤ a.Hi) (hy1 : b.Lo ≤ y) (hy2 : y ≤ b.Hi) : lo4 a b u ≤ x * y / u ∧ cdiv (x * y) u ≤ hi4 a b u := by
 obtain ⟨p, q⟩ := prod_between hx1 hx2 hy1 hy2
 exact ⟨four_le (by omega) p, four_ge (by omega) q⟩
theorem hasZ_mul {a b : Bound} {x y u z : Int} (ha : hasZ a x) (hb : hasZ b y) (h1 : x * y / u ≤ z) (h2 : z ≤ cdiv (x * y) u) : hasZ (mulZ a b u) z := by
 unfold mulZ; split
 ·exact hasZ_none _
 ·rename_i h
  have h : (a.Unknown = false ∧ b.Unknown = false) ∧ ¬ u < 1 := by simpa [not_or] using h
  rcases ha with e | ha
  ·rw [h.1.1] at e; cases e
  ·rcases hb with e | hb
   ·rw [h.1.2] at e; cases e
   ·obtain ⟨p, q⟩ := four_bd (u := u) (by omega) ha.1 ha.2 hb.1 hb.2
    exact hasZ_of (by omega) (by omega)
theorem inZ_mul {a b a' b' : Bound} {u : Int} (oa : a'.ok) (ob : b'.ok) (ha : inZ a' a) (hb : inZ b' b) : inZ (mulZ a' b' u) (mulZ a b u) := by
 unfold mulZ
 by_cases h : (a.Unknown || b.Unknown) = true ∨ u < 1
 ·rw [if_pos h]; exact inZ_none _
 ·rw [if_neg h]
  have h : (a.Unknown = false ∧ b.Unknown = false) ∧ ¬ u < 1 := by simpa [not_or] using h
  rcases ha with e | ⟨u1, ha⟩
  ·rw [h.1.1] at e; cases e
  ·rcases hb with e | ⟨u2, hb⟩
   ·rw [h.1.2] at e; cases e
   ·rw [if_neg (by simp [u1, u2]; omega)]
    have := oa.le; have := ob.le
    have hu : 1 ≤ u := by omega
    obtain ⟨c1, d1⟩ := four_bd (a := a) (b := b) (x := a'.Lo) (y := b'.Lo) hu (by omega) (by omega) (by omega) (by omega)
    obtain ⟨c2, d2⟩ := four_bd (a := a) (b := b) (x := a'.Lo) (y := b'.Hi) hu (by omega) (by omega) (by omega) (by omega)
    obtain ⟨c3, d3⟩ := four_bd (a := a) (b := b) (x := a'.Hi) (y := b'.Lo) hu (by omega) (by omega) (by omega) (by omega)
    obtain ⟨c4, d4⟩ := four_bd (a := a) (b := b) (x := a'.Hi) (y := b'.Hi) hu (by omega) (by omega) (by omega) (by omega)
    have fc := fl_le_ce (x := a'.Lo * b'.Lo) (d := u) (by omega)
    refine inZ_of ?_ ?_ ?_
    ·have g1 : lo4 a' b' u ≤ a'.Lo * b'.Lo / u := by unfold lo4; omega
     have g2 : cdiv (a'.Lo * b'.Lo) u ≤ hi4 a' b' u := by unfold hi4; omega
     omega
    ·show lo4 a b u ≤ lo4 a' b' u
     have : lo4 a' b' u = a'.Lo * b'.Lo / u ∨ lo4 a' b' u = a'.Lo * b'.Hi / u ∨ lo4 a' b' u = a'.Hi * b'.Lo / u ∨ lo4 a' b' u = a'.Hi * b'.Hi / u := by unfold lo4; omega
     omega
    ·show hi4 a' b' u ≤ hi4 a b u
     have : hi4 a' b' u = cdiv (a'.Lo * b'.Lo) u ∨ hi4 a' b' u = cdiv (a'.Lo * b'.Hi) u ∨ hi4 a' b' u = cdiv (a'.Hi * b'.Lo) u ∨ hi4 a' b' u = cdiv (a'.Hi * b'.Hi) u := by unfold hi4; omega
     omega
theorem cdiv_one (x : Int) : cdiv x 1 = x := by unfold cdiv; simp
end Lf
/- Smaller ones, greater ones and absolute values of bounds, as plain values; squares. -/
namespace Lf
open Go Go.Abs
set_option linter.unusedVariables false
set_option linter.unusedSimpArgs false
def absZ (b : Bound) : Bound := if b.Unknown = true then noneZ else if b.Lo < 0 ∧ b.Hi > 0 then ofZ 0 (max (-b.Lo) b.Hi) else maxZ b (negZ b)
theorem absZ_ok {b : Bound} : (absZ b).ok := by
 unfold absZ; split
 ·exact noneZ_ok
 ·split
  ·exact ofZ_ok _ _
  ·exact maxZ_ok
theorem absZ_eq {b : Bound} (h : b.ok) : bound_Abs b = some (absZ b) := by
 have := h.lo; have := h.le; have := h.hi
 unfold bound_Abs absZ
 rw [vague_ok h h]
 simp only [Option.bind_some, Bool.or_self]
 by_cases hu : b.Unknown = true
 ·rw [if_pos hu, if_pos hu]; rfl
 ·rw [if_neg hu, if_neg hu]
  by_cases hl : b.Lo < 0
  ·by_cases hh : b.Hi > 0
   ·rw [if_pos (c := b.Lo < 0 ∧ b.Hi > 0) ⟨hl, hh⟩]
    simp only [hl, hh, decide_true, if_true, Option.bind_some]
    rw [Int.zero_sub, w6_in (by omega), mx2_max, ofZ_eq]
    rfl
   ·rw [if_neg (c := b.Lo < 0 ∧ b.Hi > 0) (fun q => hh q.2)]
    simp only [hl, hh, decide_true, decide_false, if_true, if_false, Option.bind_some, Bool.false_eq_true]
    rw [negZ_eq h]
    simp only [Option.bind_some]
    rw [maxZ_eq h (negZ_ok h)]; rfl
  ·rw [if_neg (c := b.Lo < 0 ∧ b.Hi > 0) (fun q => hl q.1)]
   simp only [hl, decide_false, if_false, Option.bind_some, Bool.false_eq_true]
   rw [negZ_eq h]
   simp only [Option.bind_some]
   rw [maxZ_eq h (negZ_ok h)]; rfl
def aLo (b : Bound) : Int := if b.Lo ≤ 0 ∧ 0 ≤ b.Hi then 0 else min (max b.Lo (-b.Lo)) (max b.Hi (-b.Hi))
def aHi (b : Bound) : Int := max (max b.Lo (-b.Lo)) (max b.Hi (-b.Hi))
theorem absZ_known {b : Bound} (h : b.ok) (hu : b.Unknown = false) : absZ b = ⟨aLo b, aHi b, false⟩ := by
 have := h.lo; have := h.le; have := h.hi
 unfold absZ aLo aHi
 rw [if_neg (by rw [hu]; decide)]
 by_cases hc : b.Lo < 0 ∧ b.Hi > 0
 ·rw [if_pos hc, if_pos (by omega)]
  unfold ofZ
  rw [if_pos (by omega)]
  congr 1
  omega
 ·rw [if_neg hc]
  unfold maxZ minZ negZ
  simp only [hu, Bool.or_self, Bool.false_eq_true, if_false]
  unfold ofZ
  rw [if_pos (by omega)]
  simp only []
  by_cases hd : b.Lo ≤ 0 ∧ 0 ≤ b.Hi
  ·rw [if_pos hd]; congr 1 <;> omega
  ·rw [if_neg hd]; congr 1 <;> omega
theorem aLo_aHi {b : Bound} (h : b.Lo ≤ b.Hi) : 0 ≤ aLo b ∧ aLo b ≤ aHi b := by unfold aLo aHi; split <;> omega
theorem square_known {b : Bound} (h : b.ok) (hu : b.Unknown = false) (h1 : -33554432 ≤ b.Lo) (h2 : b.Hi ≤ 33554432) : arc_Square b = some ⟨aLo b * aLo b, aHi b * aHi b, false⟩ := by
 have := h.le
 obtain ⟨p, q⟩ := aLo_aHi h.le
 have r : aHi b ≤ 33554432 := by unfold aHi; omega
 have ok1 : Bound.ok ⟨aLo b, aHi b, false⟩ := okKnown (by omega) q (by omega)
 unfold arc_Square
 rw [absZ_eq h, absZ_known h hu]
 simp only [Option.bind_some]
 rw [mulZ_eq ok1 ok1 (by decide)]
 simp only [Option.bind_some]
 have m2 : aLo b * aLo b ≤ aLo b * aHi b := Int.mul_le_mul_of_nonneg_left q p
 have m3 : aLo b * aHi b ≤ aHi b * aHi b := Int.mul_le_mul_of_nonneg_right q (by omega)
 have m4 : aHi b * aLo b = aLo b * aHi b := Int.mul_comm _ _
 have m5 : aHi b * aHi b ≤ 33554432 * 33554432 := Int.mul_le_mul r r (by omega) (by omega)
 have m6 := Int.mul_nonneg p p
 unfold mulZ lo4 hi4
 simp only [Bool.or_self, Bool.false_eq_true, false_or, Int.ediv_one, cdiv_one]
 rw [if_neg (by omega)]
 congr 1
 unfold ofZ
 rw [if_pos (by omega)]
 congr 1 <;> omega
theorem square_bd {b : Bound} {x : Int} (h1 : b.Lo ≤ x) (h2 : x ≤ b.Hi) : aLo b * aLo b ≤ x * x ∧ x * x ≤ aHi b * aHi b := by
 obtain ⟨p, q⟩ := aLo_aHi (b := b) (by omega)
 have e : ∃ y, 0 ≤ y ∧ x * x = y * y ∧ aLo b ≤ y ∧ y ≤ aHi b := by
  by_cases hx : 0 ≤ x
  ·exact ⟨x, hx, rfl, by unfold aLo; split <;> omega, by unfold aHi; omega⟩
  ·exact ⟨-x, by omega, by rw [Int.neg_mul_neg], by unfold aLo; split <;> omega, by unfold aHi; omega⟩
 obtain ⟨y, y0, e, y1, y2⟩ := e
 rw [e]
 exact ⟨Int.mul_le_mul y1 y1 p y0, Int.mul_le_mul y2 y2 y0 (by omega)⟩
theorem aLo_exact (x : Int) : aLo ⟨x, x, false⟩ * aLo ⟨x, x, false⟩ = x * x ∧ aHi ⟨x, x, false⟩ * aHi ⟨x, x, false⟩ = x * x := by
 obtain ⟨p, q⟩ := square_bd (b := ⟨x, x, false⟩) (x := x) (Int.le_refl _) (Int.le_refl _)
 have e : aLo ⟨x, x, false⟩ = aHi ⟨x, x, false⟩ := by unfold aLo aHi; simp only []; split <;> omega
 rw [e] at p ⊢
 omega
end Lf
/- Words: see the texts that this one names. -/
/- Loops of few rounds, round by round. -/
namespace Lf
open Go Go.Abs
set_option linter.unusedVariables false
inductive Run {S O : Type} (body : S → Option (Step S O)) : S → Nat → O → Prop
 | done {s : S} {o : O} : body s = some (.done o) → Run body s 0 o
 | next {s s' : S} {n : Nat} {o : O} : body s = some (.next s') → Run body s' n o → Run body s (n + 1) o
theorem Run.iter {S O : Type} {body : S → Option (Step S O)} : ∀ {n : Nat} {s : S} {o : O}, Run body s n o → ∀ k, n < k → iterF body k s = some o
 | _, _, _, .done h, 0, hk => by omega
 | _, _, _, .done h, k + 1, _ => by unfold iterF; rw [h]
 | _, _, _, .next h r, 0, hk => by omega
 | _, _, _, .next h r, k + 1, hk => by unfold iterF; rw [h]; exact r.iter k (by omega)
theorem Run.ok {S O : Type} {body : S → Option (Step S O)} {n : Nat} {s : S} {o : O} (h : Run body s n o) (hn : n < 10000000000000000000000000000000000000000) : loopF body s = some o := h.iter _ hn
end Lf
/- Comparison of two words of 128 bits. -/
namespace Lf
open Go Go.Abs
set_option linter.unusedVariables false
set_option linter.unusedSimpArgs false
theorem compareQ_ok (x y : Int) : Has (cmp_Compare x y) fun c => (x < y ∧ c = -1) ∨ (x = y ∧ c = 0) ∨ (y < x ∧ c = 1) := by
 unfold cmp_Compare cmp_isNaN
 have n : ∀ z : Int, (z != z) = false := fun z => by simp
 simp only [n, Option.bind_some, Bool.false_eq_true, if_false]
 refine Has.ite (fun h => Has.ret (.inl ⟨of_decide_eq_true h, rfl⟩)) fun h => Has.ite (fun h2 => Has.ret (.inr (.inr ⟨of_decide_eq_true h2, rfl⟩))) fun h2 => Has.ret (.inr (.inl ⟨?_, rfl⟩))
 have h : ¬ x < y := fun q => h (decide_eq_true q)
 have h2 : ¬ x > y := fun q => h2 (decide_eq_true q)
 omega
theorem orQ_ok (a b : Int) : cmp_Or ([a, b] : List Int) = some (if a ≠ 0 then a else b) := by
 unfold cmp_Or
 by_cases ha : a = 0
 ·subst ha
  have e1 : cmp_Or.l1 [0, b] 0 = some (.next 1) := rfl
  by_cases hb : b = 0
  ·subst hb
   rw [(Run.next e1 (Run.next (s' := 2) rfl (Run.done (o := .next ()) rfl))).ok (by decide)]; rfl
  ·have e2 : cmp_Or.l1 [0, b] 1 = some (.done (.done b)) := by
    have g : gt ([0, b] : List Int) 1 = b := rfl
    unfold cmp_Or.l1
    rw [if_pos (by rfl), if_pos ⟨by decide, by show (1 : Int) < 2; decide⟩, g, if_pos (by simp [hb])]
   rw [(Run.next e1 (Run.done e2)).ok (by decide)]; simp [seqF]
 ·have e1 : cmp_Or.l1 [a, b] 0 = some (.done (.done a)) := by
   have g : gt ([a, b] : List Int) 0 = a := rfl
   unfold cmp_Or.l1
   rw [if_pos (by rfl), if_pos ⟨by decide, by show (0 : Int) < 2; decide⟩, g, if_pos (by simp [ha])]
  rw [(Run.done e1).ok (by decide)]; simp [seqF, ha]
theorem wcmp_ok {w v : num_Wide} (hw : okW w) (hv : okW v) : Has (Wide_Cmp w v) fun c => (c < 0 ↔ wv w < wv v) ∧ (c > 0 ↔ wv v < wv w) := by
 have w0 := hw.l0; have w1 := hw.l1; have v0 := hv.l0; have v1 := hv.l1
 unfold Wide_Cmp
 refine (compareQ_ok _ _).bind fun a ha => (compareQ_ok _ _).bind fun b hb => ?_
 rw [orQ_ok]
 refine Has.ret ?_
 unfold wv
 rcases ha with ⟨h, rfl⟩ | ⟨h, rfl⟩ | ⟨h, rfl⟩
 ·simp; omega
 ·rcases hb with ⟨g, rfl⟩ | ⟨g, rfl⟩ | ⟨g, rfl⟩ <;> simp <;> omega
 ·simp; omega
end Lf
/- The length of a vector of bounds: squares, their sum, its root (times 2^20). -/
namespace Lf
open Go Go.Abs
set_option linter.unusedVariables false
set_option linter.unusedSimpArgs false
theorem squareW_known {b : Bound} (h : b.ok) (hu : b.Unknown = false) (h1 : -268435456 ≤ b.Lo) (h2 : b.Hi ≤ 268435456) : arc_Square b = some ⟨aLo b * aLo b, aHi b * aHi b, false⟩ := by
 have := h.le
 obtain ⟨p, q⟩ := aLo_aHi h.le
 have r : aHi b ≤ 268435456 := by unfold aHi; omega
 have ok1 : Bound.ok ⟨aLo b, aHi b, false⟩ := okKnown (by omega) q (by omega)
 unfold arc_Square
 rw [absZ_eq h, absZ_known h hu]
 simp only [Option.bind_some]
 rw [mulZ_eq ok1 ok1 (by decide)]
 simp only [Option.bind_some]
 have m2 : aLo b * aLo b ≤ aLo b * aHi b := Int.mul_le_mul_of_nonneg_left q p
 have m3 : aLo b * aHi b ≤ aHi b * aHi b := Int.mul_le_mul_of_nonneg_right q (by omega)
 have m4 : aHi b * aLo b = aLo b * aHi b := Int.mul_comm _ _
 have m5 : aHi b * aHi b ≤ 268435456 * 268435456 := Int.mul_le_mul r r (by omega) (by omega)
 have m6 := Int.mul_nonneg p p
 unfold mulZ lo4 hi4
 simp only [Bool.or_self, Bool.false_eq_true, false_or, Int.ediv_one, cdiv_one]
 rw [if_neg (by omega)]
 congr 1
 unfold ofZ
 rw [if_pos (by omega)]
 congr 1 <;> omega

theorem ofZ_known {lo hi : Int} (h1 : -1152921504606846976 ≤ lo) (h2 : lo ≤ hi) (h3 : hi ≤ 1152921504606846976) : ofZ lo hi = ⟨lo, hi, false⟩ := by
 unfold ofZ; rw [if_pos ⟨h2, h1, h3⟩]
theorem root_ok {a : Bound} (ha : a.ok) (hu : a.Unknown = false) (h0 : 0 ≤ a.Lo) : Has (bound_Root a 1099511627776) fun b => b.ok ∧ b.Unknown = false ∧ isRt (a.Lo * 1099511627776) b.Lo ∧ 0 ≤ b.Hi ∧ a.Hi * 1099511627776 ≤ b.Hi * b.Hi := by
 have l := ha.le; have h := ha.hi
 unfold bound_Root
 rw [vague_ok ha ha, hu]
 have n : ¬ a.Hi < 0 := by omega
 refine Has.bind (P := fun z => z = false) (Has.eq (a := false) (by simp [n]) rfl) fun z hz => Has.neg (by rw [hz]; decide) ?_
 rw [mx2_ge h0]
 refine (sqrtW_ok a.Lo 1099511627776 (by omega) (by omega)).bind fun r7 h7 => (sqrtW_ok a.Hi 1099511627776 (by omega) (by omega)).bind fun r8 h8 => ?_
 have p7 := h7.r0; have p8 := h8.r0
 have b8 : r8 < 1125899906842625 := sq_lt p8 (by decide) (by have := h8.lo; omega)
 have m := h7.mono h8 (by omega)
 refine (product_ok r8 r8 (by unfold okI; omega) (by unfold okI; omega)).bind fun w9 ⟨p1, p2, _⟩ => (product_ok a.Hi 1099511627776 (by unfold okI; omega) (by unfold okI; omega)).bind fun w10 ⟨q1, q2, _⟩ => (wcmp_ok p1 q1).bind fun c ⟨c1, c2⟩ => ?_
 rw [p2, q2] at c1
 have g8 := h8.hi
 refine Has.ite (fun hc => ?_) fun hc => ?_
 ·rw [w6_in (by omega), ofZ_eq, ofZ_known (by omega) (by omega) (by omega)]
  exact Has.ret ⟨okKnown (by omega) (by omega) (by omega), rfl, h7, by simp only []; omega, by simp only []; omega⟩
 ·have hc : ¬ c < 0 := fun q => hc (decide_eq_true q)
  have g : ¬ r8 * r8 < a.Hi * 1099511627776 := fun q => hc (c1.2 q)
  rw [ofZ_eq, ofZ_known (by omega) (by omega) (by omega)]
  exact Has.ret ⟨okKnown (by omega) (by omega) (by omega), rfl, h7, by simp only []; omega, by simp only []; omega⟩
structure coordB (b : Bound) : Prop where
 ok : b.ok
 u : b.Unknown = false
 lo : -268435456 ≤ b.Lo
 hi : b.Hi ≤ 268435456
theorem coordB.sq {b : Bound} (h : coordB b) : arc_Square b = some ⟨aLo b * aLo b, aHi b * aHi b, false⟩ := squareW_known h.ok h.u h.lo h.hi
theorem coordB.bd {b : Bound} (h : coordB b) : 0 ≤ aLo b * aLo b ∧ aLo b * aLo b ≤ aHi b * aHi b ∧ aHi b * aHi b ≤ 72057594037927936 := by
 obtain ⟨p, q⟩ := aLo_aHi h.ok.le
 have := h.lo; have := h.hi; have := h.ok.le
 have r : aHi b ≤ 268435456 := by unfold aHi; omega
 have m5 : aHi b * aHi b ≤ 268435456 * 268435456 := Int.mul_le_mul r r (by omega) (by omega)
 have m6 := Int.mul_nonneg p p
 have m7 := Int.mul_le_mul q q p (by omega)
 exact ⟨m6, m7, by omega⟩
def nLo (x y z : Bound) : Int := aLo x * aLo x + aLo y * aLo y + aLo z * aLo z
def nHi (x y z : Bound) : Int := aHi x * aHi x + aHi y * aHi y + aHi z * aHi z
theorem norm3_ok {x y z : Bound} (hx : coordB x) (hy : coordB y) (hz : coordB z) : arc_Norm (x, y, z) = some ⟨nLo x y z, nHi x y z, false⟩ := by
 obtain ⟨x1, x2, x3⟩ := hx.bd
 obtain ⟨y1, y2, y3⟩ := hy.bd
 obtain ⟨z1, z2, z3⟩ := hz.bd
 unfold arc_Norm nLo nHi
 simp only []
 rw [hx.sq, hy.sq, hz.sq]
 simp only [Option.bind_some]
 unfold bound_Sum
 rw [if_pos (by simp)]
 have add : ∀ a b c d : Int, 0 ≤ a → a ≤ b → b ≤ 300000000000000000 → 0 ≤ c → c ≤ d → d ≤ 300000000000000000 → bound_Add ⟨a, b, false⟩ ⟨c, d, false⟩ = some ⟨a + c, b + d, false⟩ := fun a b c d _ _ _ _ _ _ => by
  rw [addZ_eq (okKnown (by omega) (by omega) (by omega)) (okKnown (by omega) (by omega) (by omega))]
  unfold addZ
  rw [if_neg (by simp), ofZ_known (by simp only []; omega) (by simp only []; omega) (by simp only []; omega)]
 generalize aLo x * aLo x = a1 at *
 generalize aLo y * aLo y = a2 at *
 generalize aLo z * aLo z = a3 at *
 generalize aHi x * aHi x = b1 at *
 generalize aHi y * aHi y = b2 at *
 generalize aHi z * aHi z = b3 at *
 have q1 := add 0 0 a1 b1 (by omega) (by omega) (by omega) (by omega) (by omega) (by omega)
 have q2 := add (0 + a1) (0 + b1) a2 b2 (by omega) (by omega) (by omega) (by omega) (by omega) (by omega)
 have q3 := add (0 + a1 + a2) (0 + b1 + b2) a3 b3 (by omega) (by omega) (by omega) (by omega) (by omega) (by omega)
 simp only [bound_SumF, q1, q2, q3, Option.getD_some, Bool.false_eq_true, if_false]
 simp
end Lf
/- A bound holds a fraction p / q (q > 0, whole numbers): what interval arithmetic keeps. -/
namespace Lf
open Go Go.Abs
set_option linter.unusedVariables false
set_option linter.unusedSimpArgs false
def hasR (b : Bound) (p q : Int) : Prop := b.Unknown = true ∨ (b.Lo * q ≤ p ∧ p ≤ b.Hi * q)
theorem hasR_none (p q : Int) : hasR noneZ p q := .inl rfl
theorem hasR_ofZ {lo hi p q : Int} (h1 : lo * q ≤ p) (h2 : p ≤ hi * q) : hasR (ofZ lo hi) p q := by
 unfold ofZ
 split
 ·exact .inr ⟨h1, h2⟩
 ·exact .inl rfl
theorem hasR_int {b : Bound} {v q : Int} (hq : 0 ≤ q) (h : hasZ b v) : hasR b (v * q) q := by
 rcases h with h | ⟨h1, h2⟩
 ·exact .inl h
 ·exact .inr ⟨Int.mul_le_mul_of_nonneg_right h1 hq, Int.mul_le_mul_of_nonneg_right h2 hq⟩
theorem hasR_up {b : Bound} {p q m : Int} (hm : 0 ≤ m) (h : hasR b p q) : hasR b (p * m) (q * m) := by
 rcases h with h | ⟨h1, h2⟩
 ·exact .inl h
 ·have a := Int.mul_le_mul_of_nonneg_right h1 hm
  have c := Int.mul_le_mul_of_nonneg_right h2 hm
  exact .inr ⟨by rw [← Int.mul_assoc]; exact a, by rw [← Int.mul_assoc]; exact c⟩
theorem hasR_down {b : Bound} {p q m : Int} (hm : 0 < m) (h : hasR b (p * m) (q * m)) : hasR b p q := by
 rcases h with h | ⟨h1, h2⟩
 ·exact .inl h
 ·rw [← Int.mul_assoc] at h1 h2
  exact .inr ⟨Int.le_of_mul_le_mul_right h1 hm, Int.le_of_mul_le_mul_right h2 hm⟩
theorem hasR_add {a b : Bound} {p r q : Int} (ha : hasR a p q) (hb : hasR b r q) : hasR (addZ a b) (p + r) q := by
 unfold addZ
 split
 ·exact .inl rfl
 ·rename_i h
  have h : a.Unknown = false ∧ b.Unknown = false := by simpa using h
  rcases ha with e | ⟨a1, a2⟩
  ·rw [h.1] at e; cases e
  ·rcases hb with e | ⟨b1, b2⟩
   ·rw [h.2] at e; cases e
   ·exact hasR_ofZ (by rw [Int.add_mul]; omega) (by rw [Int.add_mul]; omega)
theorem hasR_neg {b : Bound} {p q : Int} (h : hasR b p q) : hasR (negZ b) (-p) q := by
 rcases h with h | ⟨h1, h2⟩
 ·exact .inl h
 ·exact .inr ⟨by unfold negZ; simp only []; rw [Int.neg_mul]; omega, by unfold negZ; simp only []; rw [Int.neg_mul]; omega⟩
theorem hasR_sub {a b : Bound} {p r q : Int} (ha : hasR a p q) (hb : hasR b r q) : hasR (subZ a b) (p - r) q := by
 have := hasR_add ha (hasR_neg hb)
 rw [← Int.sub_eq_add_neg] at this
 exact this
theorem hasR_mul {a b : Bound} {p q r s u : Int} (hq : 0 ≤ q) (hs : 0 ≤ s) (ha : hasR a p q) (hb : hasR b r s) : hasR (mulZ a b u) (p * r) (q * s * u) := by
 unfold mulZ
 split
 ·exact .inl rfl
 ·rename_i h
  have hu : 1 ≤ u := by
   rcases Int.lt_or_le u 1 with g | g
   ·exact absurd (.inr g) h
   ·exact g
  have hn : ¬ (a.Unknown || b.Unknown) = true := fun g => h (.inl g)
  have hn : a.Unknown = false ∧ b.Unknown = false := by simpa using hn
  rcases ha with e | ⟨a1, a2⟩
  ·rw [hn.1] at e; cases e
  ·rcases hb with e | ⟨b1, b2⟩
   ·rw [hn.2] at e; cases e
   ·have pb := prod_between a1 a2 b1 b2
    have qs : 0 ≤ q * s := Int.mul_nonneg hq hs
    have re : ∀ x y : Int, x * q * (y * s) = x * y * (q * s) := fun x y => by
     rw [Int.mul_assoc, Int.mul_left_comm q, ← Int.mul_assoc]
    rw [re, re, re, re] at pb
    have fl : ∀ X L : Int, L ≤ X / u → L * (q * s * u) ≤ X * (q * s) := fun X L hL => by
     have t1 := Int.mul_le_mul_of_nonneg_right hL (show 0 ≤ u by omega)
     have t2 := Int.ediv_mul_le X (show u ≠ 0 by omega)
     have t3 := Int.mul_le_mul_of_nonneg_right (Int.le_trans t1 t2) qs
     have e : L * (q * s * u) = L * u * (q * s) := by rw [Int.mul_comm (q * s), ← Int.mul_assoc]
     omega
    have fh : ∀ X H : Int, cdiv X u ≤ H → X * (q * s) ≤ H * (q * s * u) := fun X H hH => by
     unfold cdiv at hH
     have t1 := Int.mul_le_mul_of_nonneg_right hH (show 0 ≤ u by omega)
     have t2 := Int.ediv_mul_le (-X) (show u ≠ 0 by omega)
     have t4 : X ≤ H * u := by rw [Int.neg_mul] at t1; omega
     have t3 := Int.mul_le_mul_of_nonneg_right t4 qs
     have e : H * (q * s * u) = H * u * (q * s) := by rw [Int.mul_comm (q * s), ← Int.mul_assoc]
     omega
    have l1 := fl (a.Lo * b.Lo) (lo4 a b u) (by unfold lo4; omega)
    have l2 := fl (a.Lo * b.Hi) (lo4 a b u) (by unfold lo4; omega)
    have l3 := fl (a.Hi * b.Lo) (lo4 a b u) (by unfold lo4; omega)
    have l4 := fl (a.Hi * b.Hi) (lo4 a b u) (by unfold lo4; omega)
    have h1 := fh (a.Lo * b.Lo) (hi4 a b u) (by unfold hi4; omega)
    have h2 := fh (a.Lo * b.Hi) (hi4 a b u) (by unfold hi4; omega)
    have h3 := fh (a.Hi * b.Lo) (hi4 a b u) (by unfold hi4; omega)
    have h4 := fh (a.Hi * b.Hi) (hi4 a b u) (by unfold hi4; omega)
    exact hasR_ofZ (by omega) (by omega)
theorem hasR_meet {a b : Bound} {p q : Int} (hq : 0 < q) (ha : hasR a p q) (hb : hasR b p q) (ua : a.Unknown = false) (ub : b.Unknown = false) : max a.Lo b.Lo ≤ min a.Hi b.Hi ∧ max a.Lo b.Lo * q ≤ p ∧ p ≤ min a.Hi b.Hi * q := by
 rcases ha with e | ⟨a1, a2⟩
 ·rw [ua] at e; cases e
 ·rcases hb with e | ⟨b1, b2⟩
  ·rw [ub] at e; cases e
  ·have l : max a.Lo b.Lo * q ≤ p := by
    rcases Int.le_total a.Lo b.Lo with g | g
    ·rw [Int.max_eq_right g]; exact b1
    ·rw [Int.max_eq_left g]; exact a1
   have h : p ≤ min a.Hi b.Hi * q := by
    rcases Int.le_total a.Hi b.Hi with g | g
    ·rw [Int.min_eq_left g]; exact a2
    ·rw [Int.min_eq_right g]; exact b2
   exact ⟨Int.le_of_mul_le_mul_right (Int.le_trans l h) hq, l, h⟩
end Lf
