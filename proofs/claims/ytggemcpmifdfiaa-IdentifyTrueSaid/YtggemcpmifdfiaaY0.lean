/- Laws of the plain functions. Conditions: as each theorem states them. -/
import Derived.Test.YtggemcpmifdfiaaD
import Derived.Test.YtggemcpmifdfiaaA4
import Derived.Lib.Mul64
/- Plain facts of streams and bounds, for the functions of IdtD. -/
namespace Lf
open Go Go.Abs
set_option linter.unusedVariables false
set_option linter.unusedSimpArgs false
/-! streams -/
/-- What a stream must be. -/
structure okS (s : spymake_Stream) : Prop where
  z : ∀ z ∈ s.L, -9223372036854775808 ≤ z ∧ z ≤ 9223372036854775807
  len : s.L.length ≤ 17592186044416
  a0 : 0 ≤ s.at_
  a1 : s.at_ ≤ 4611686018427387904
theorem okS.start {l : List Int} (h : okL l) : okS (spymake_Stream.mk l 0) := ⟨h.z, by have := h.len; simp only []; omega, Int.le_refl _, by simp only []; omega⟩
/-- What is true of a stream that another one has become. -/
structure after (s t : spymake_Stream) (k : Int) : Prop where
  L : t.L = s.L
  lo : s.at_ ≤ t.at_
  hi : t.at_ ≤ s.at_ + k
theorem after.refl (s : spymake_Stream) : after s s 0 := ⟨rfl, Int.le_refl _, by omega⟩
theorem after.trans {s t u : spymake_Stream} {k m : Int} (h : after s t k) (g : after t u m) : after s u (k + m) := ⟨g.L.trans h.L, Int.le_trans h.lo g.lo, by have := h.hi; have := g.hi; omega⟩
theorem after.more {s t : spymake_Stream} {k m : Int} (h : after s t k) (hk : k ≤ m) : after s t m := ⟨h.L, h.lo, by have := h.hi; omega⟩
theorem after.ok {s t : spymake_Stream} {k : Int} (h : after s t k) (g : okS s) (hk : s.at_ + k ≤ 4611686018427387904) : okS t := ⟨by rw [h.L]; exact g.z, by rw [h.L]; exact g.len, by have := h.lo; have := g.a0; omega, by have := h.hi; omega⟩
theorem below_ok (x n : Int) (hx : -9223372036854775808 ≤ x ∧ x ≤ 9223372036854775807) (hn : 1 ≤ n ∧ n ≤ 9223372036854775807) : Has (spymake_Below x n) fun v => 0 ≤ v ∧ v < n := by
  unfold spymake_Below
  have h1 := Int.lt_tmod_of_pos x (b := n) (by omega)
  have h2 := Int.tmod_lt_of_pos x (b := n) (by omega)
  refine Has.neg (by simp; omega) (Has.chk (by omega) (Has.ite (fun h => Has.ret ?_) fun h => Has.ret ?_))
  · simp only [decide_eq_true_eq] at h; rw [w6_in (by omega)]; omega
  · simp only [decide_eq_true_eq] at h; omega
theorem below_zero (x n : Int) (hn : n ≤ 0) : spymake_Below x n = some 0 := by unfold spymake_Below; rw [if_pos (by simp; omega)]
theorem next_ok (s : spymake_Stream) (n : Int) (hs : okS s) (ha : s.at_ < 4611686018427387904) (hn : 1 ≤ n ∧ n ≤ 9223372036854775807) : Has (Stream_Next s n) fun r => 0 ≤ r.1 ∧ r.1 < n ∧ after s r.2 1 := by
  have h0 := hs.a0
  have hl := hs.len
  have e1 : w6 (s.at_ + 1) = s.at_ + 1 := w6_in (by omega)
  have fin : after s (spymake_Stream.mk s.L (s.at_ + 1)) 1 := ⟨rfl, by simp only []; omega, Int.le_refl _⟩
  unfold Stream_Next
  simp only [e1]
  refine Has.ite (fun hz => ?_) fun hz => ?_
  · exact (below_ok _ n (w6_bd _) hn).bind fun v hv => Has.ret ⟨hv.1, hv.2, fin⟩
  · have hz : s.L.length ≠ 0 := by simpa using hz
    have e2 : w6 (s.at_ + 1 - 1) = s.at_ := by rw [w6_in (by omega)]; omega
    have b1 := Int.tmod_nonneg (s.L.length : Int) hs.a0
    have b2 := Int.tmod_lt_of_pos s.at_ (b := (s.L.length : Int)) (by omega)
    simp only [e2]
    refine Has.chk (by omega) (Has.chk ⟨b1, b2⟩ ?_)
    refine (below_ok _ 1073741824 (hs.z _ (gt_mem _ _ ⟨b1, b2⟩)) (by omega)).bind fun v hv => Has.letF (Has.letF ?_)
    exact (below_ok _ n (w6_bd _) hn).bind fun u hu => Has.ret ⟨hu.1, hu.2, fin⟩
theorem range_ok (s : spymake_Stream) (lo hi : Int) (hs : okS s) (ha : s.at_ < 4611686018427387904) (h : lo ≤ hi) (h1 : -2305843009213693952 ≤ lo) (h2 : hi ≤ 2305843009213693952) : Has (Stream_Range s lo hi) fun r => lo ≤ r.1 ∧ r.1 ≤ hi ∧ after s r.2 1 := by
  unfold Stream_Range
  rw [w6_in (n := hi - lo) (by omega), w6_in (n := hi - lo + 1) (by omega)]
  refine Has.neg (by simp; omega) ((next_ok s (hi - lo + 1) hs ha (by omega)).bind fun r hr => Has.ret ?_)
  rw [w6_in (by omega)]
  exact ⟨by omega, by omega, hr.2.2⟩
end Lf
/- Words of 64 bits: lengths, products, quotients. -/
namespace Lf
open Go Go.Abs
set_option linter.unusedVariables false
set_option linter.unusedSimpArgs false
theorem wu_in {n : Int} (h : 0 ≤ n ∧ n < 18446744073709551616) : IntKind.wrap .u64 n = n := by rw [IntKind.wrap_u64]; omega
theorem wu_def (n : Int) : IntKind.wrap .u64 n = n % 18446744073709551616 := IntKind.wrap_u64 n
theorem wu_bd (n : Int) : 0 ≤ IntKind.wrap .u64 n ∧ IntKind.wrap .u64 n < 18446744073709551616 := by rw [wu_def]; omega
theorem w8_in {n : Int} (h : 0 ≤ n ∧ n < 256) : IntKind.wrap .u8 n = n := by rw [IntKind.wrap_u8]; omega
theorem fdiv_pow (x : Int) (k : Nat) : Int.fdiv x (2 ^ k) = x / 2 ^ k := Int.fdiv_eq_ediv_of_nonneg x (Int.le_of_lt (Int.pow_pos (by decide)))
theorem u_nat {x : Int} (h : 0 ≤ x ∧ x < 18446744073709551616) : (BitVec.ofInt 64 x).toNat = x.toNat := by
  rw [BitVec.toNat_ofInt]; omega
theorem and_low {x : Int} (h : 0 ≤ x ∧ x < 18446744073709551616) : IntKind.wrap .u64 ((BitVec.ofInt 64 x &&& BitVec.ofInt 64 4294967295).toNat : Int) = x % 4294967296 := by
  rw [BitVec.toNat_and, u_nat h, u_nat (by omega), show (4294967295 : Int).toNat = 2 ^ 32 - 1 from rfl, Nat.and_two_pow_sub_one_eq_mod, wu_in (by omega)]
  omega
theorem xor_all {x : Int} (h : 0 ≤ x ∧ x < 18446744073709551616) : IntKind.wrap .u64 ((BitVec.ofInt 64 (18446744073709551615) ^^^ BitVec.ofInt 64 x).toNat : Int) = 18446744073709551615 - x := by
  have e : BitVec.ofInt 64 18446744073709551615 = BitVec.allOnes 64 := by decide
  rw [e, BitVec.allOnes_xor, BitVec.toNat_not, u_nat h, wu_in (by omega)]
  omega
theorem or_add {x y : Int} (k : Nat) (hx : 0 ≤ x) (hy : 0 ≤ y ∧ y < 2 ^ k) (h : x * 2 ^ k + y < 18446744073709551616) (hk : 0 ≤ x * 2 ^ k) : IntKind.wrap .u64 ((BitVec.ofInt 64 (x * 2 ^ k) ||| BitVec.ofInt 64 y).toNat : Int) = x * 2 ^ k + y := by
  rw [BitVec.toNat_or, u_nat (by omega), u_nat (by omega)]
  obtain ⟨a, rfl⟩ := Int.eq_ofNat_of_zero_le hx
  obtain ⟨b, rfl⟩ := Int.eq_ofNat_of_zero_le hy.1
  have e : ((a : Int) * 2 ^ k).toNat = a <<< k := by
    rw [Nat.shiftLeft_eq]
    have : (a : Int) * 2 ^ k = ((a * 2 ^ k : Nat) : Int) := by simp
    rw [this]; rfl
  have hb : b < 2 ^ k := by
    have := hy.2
    exact_mod_cast this
  rw [e, show ((b : Int)).toNat = b from rfl, ← Nat.shiftLeft_add_eq_or_of_lt hb, Nat.shiftLeft_eq]
  have e2 : ((a * 2 ^ k + b : Nat) : Int) = (a : Int) * 2 ^ k + b := by simp
  rw [e2, wu_in (by omega)]
/-! ### lengths -/
theorem tab_ok : ∀ i : Fin 256, (tab1.getD i.val 0).toNat ≤ 8 ∧ i.val < 2 ^ (tab1.getD i.val 0).toNat ∧ (0 < i.val → 1 ≤ (tab1.getD i.val 0).toNat ∧ 2 ^ ((tab1.getD i.val 0).toNat - 1) ≤ i.val) := by decide +kernel
theorem tab_len : tab1.length = 256 := by decide +kernel
theorem len_fin {x : Int} (c : Nat) (hx : 0 ≤ x) (hc : c ≤ 56) (h : x / 2 ^ c < 256) (hp : 0 < c → 2 ^ c ≤ x) : Has (if (0 : Int) ≤ IntKind.wrap .u8 (x / 2 ^ c) ∧ (IntKind.wrap .u8 (x / 2 ^ c)).toNat < tab1.length then some (w6 ((c : Int) + (w6 (tabAt tab1 (IntKind.wrap .u8 (x / 2 ^ c)))))) else none) fun n => ∃ k : Nat, n = k ∧ k ≤ 64 ∧ x < 2 ^ k ∧ (0 < x → 1 ≤ k ∧ 2 ^ (k - 1) ≤ x) := by
  have p : (0 : Int) < 2 ^ c := Int.pow_pos (by decide)
  have h0 : 0 ≤ x / 2 ^ c := Int.ediv_nonneg hx (Int.le_of_lt p)
  rw [w8_in ⟨h0, h⟩, tab_len]
  obtain ⟨t1, t2, t3⟩ := tab_ok ⟨(x / 2 ^ c).toNat, by omega⟩
  simp only [] at t1 t2 t3
  have e : tabAt tab1 (x / 2 ^ c) = ((tab1.getD (x / 2 ^ c).toNat 0).toNat : Int) := rfl
  generalize (tab1.getD (x / 2 ^ c).toNat 0).toNat = t at *
  refine Has.chk ⟨h0, by omega⟩ (Has.ret ⟨c + t, ?_, by omega, ?_, fun h1 => ?_⟩)
  · have e3 : w6 (t : Int) = t := w6_in (by omega)
    rw [e, e3, w6_in (by omega)]; omega
  · have : x / 2 ^ c < 2 ^ t := by
      have : (((x / 2 ^ c).toNat : Nat) : Int) < ((2 ^ t : Nat) : Int) := Int.ofNat_lt.2 t2
      rw [Int.toNat_of_nonneg h0] at this
      simpa using this
    have := (Int.ediv_lt_iff_lt_mul p).1 this
    rw [Nat.add_comm, Int.pow_add]; exact this
  · have h3 : 0 < (x / 2 ^ c).toNat := by
      have : 1 ≤ x / 2 ^ c := by
        rw [Int.le_ediv_iff_mul_le p]
        rcases Nat.eq_zero_or_pos c with rfl | hcp
        · simp; omega
        · have := hp hcp; omega
      omega
    obtain ⟨k1, k2⟩ := t3 h3
    refine ⟨by omega, ?_⟩
    have k2' : (2 : Int) ^ (t - 1) ≤ x / 2 ^ c := by
      have : ((2 ^ (t - 1) : Nat) : Int) ≤ (((x / 2 ^ c).toNat : Nat) : Int) := Int.ofNat_le.2 k2
      rw [Int.toNat_of_nonneg h0] at this
      simpa using this
    have := (Int.le_ediv_iff_mul_le p).1 k2'
    rw [show c + t - 1 = (t - 1) + c by omega, Int.pow_add]; exact this
theorem len64_ok (x : Int) (hx : 0 ≤ x ∧ x < 18446744073709551616) : Has (bits_Len64 x) fun n => ∃ k : Nat, n = k ∧ k ≤ 64 ∧ x < 2 ^ k ∧ (0 < x → 1 ≤ k ∧ 2 ^ (k - 1) ≤ x) := by
  have d0 : Int.fdiv x (2 ^ 32) = x / 2 ^ 32 := fdiv_pow x 32
  have d1 : Int.fdiv x (2 ^ 16) = x / 2 ^ 16 := fdiv_pow x 16
  have d2 : Int.fdiv x (2 ^ 8) = x / 2 ^ 8 := fdiv_pow x 8
  have d3 : Int.fdiv (x / 2 ^ 32) (2 ^ 16) = x / 2 ^ 48 := by rw [fdiv_pow]; omega
  have d4 : Int.fdiv (x / 2 ^ 48) (2 ^ 8) = x / 2 ^ 56 := by rw [fdiv_pow]; omega
  have d5 : Int.fdiv (x / 2 ^ 32) (2 ^ 8) = x / 2 ^ 40 := by rw [fdiv_pow]; omega
  have d6 : Int.fdiv (x / 2 ^ 16) (2 ^ 8) = x / 2 ^ 24 := by rw [fdiv_pow]; omega
  unfold bits_Len64
  simp only [d0, d1, d2, d3, d4, d5, d6, decide_eq_true_eq]
  refine Has.ite (fun h1 => Has.ite (fun h2 => Has.ite (fun h3 => ?_) fun h3 => ?_) fun h2 => Has.ite (fun h3 => ?_) fun h3 => ?_) fun h1 => Has.ite (fun h2 => Has.ite (fun h3 => ?_) fun h3 => ?_) fun h2 => Has.ite (fun h3 => ?_) fun h3 => ?_
  · exact len_fin 56 hx.1 (by omega) (by omega) (by omega)
  · exact len_fin 48 hx.1 (by omega) (by omega) (by omega)
  · exact len_fin 40 hx.1 (by omega) (by omega) (by omega)
  · exact len_fin 32 hx.1 (by omega) (by omega) (by omega)
  · exact len_fin 24 hx.1 (by omega) (by omega) (by omega)
  · exact len_fin 16 hx.1 (by omega) (by omega) (by omega)
  · exact len_fin 8 hx.1 (by omega) (by omega) (by omega)
  · have := len_fin (x := x) 0 hx.1 (by omega) (by omega) (by omega)
    simpa using this
end Lf
/- The quotient of a number of 128 bits by one of 64. -/
namespace Lf
open Go Go.Abs
set_option linter.unusedVariables false
set_option linter.unusedSimpArgs false
/-- A digit of the quotient, guessed too large or right. -/
structure Dig (a b u d q r : Int) : Prop where
  e : q * a + r = u
  r0 : 0 ≤ r
  lo : (u * 4294967296 + d) / (a * 4294967296 + b) ≤ q
  hi : q ≤ 4294967297
/-- What stands fast while a digit is sought. -/
structure Dg (a b u d : Int) : Prop where
  a0 : 2147483648 ≤ a
  a1 : a < 4294967296
  b0 : 0 ≤ b
  b1 : b < 4294967296
  d0 : 0 ≤ d
  d1 : d < 4294967296
  u0 : 0 ≤ u
  uv : u < a * 4294967296 + b
section
variable {a b u d q r : Int}
theorem Dg.q0 (g : Dg a b u d) : 0 ≤ (u * 4294967296 + d) / (a * 4294967296 + b) := Int.ediv_nonneg (by have := g.u0; have := g.d0; omega) (by have := g.a0; have := g.b0; omega)
theorem Dg.qB (g : Dg a b u d) : (u * 4294967296 + d) / (a * 4294967296 + b) < 4294967296 := by
  have := g.a0; have := g.b0; have := g.uv; have := g.d1; have := g.u0; have := g.d0
  rw [Int.ediv_lt_iff_lt_mul (by omega)]; omega
theorem Dg.test (g : Dg a b u d) (h : q * a + r = u) : (u * 4294967296 + d) / (a * 4294967296 + b) < q ↔ r * 4294967296 + d < q * b := by
  have := g.a0; have := g.b0
  rw [Int.ediv_lt_iff_lt_mul (by omega), Int.mul_add, ← Int.mul_assoc]
  omega
theorem Dg.first (g : Dg a b u d) : Dig a b u d (u / a) (u % a) := by
  have := g.a0; have := g.b0; have := g.u0; have := g.uv; have := g.d1; have := g.b1
  have e1 : u / a * a + u % a = u := by rw [Int.mul_comm]; exact Int.mul_ediv_add_emod u a
  have r0 := Int.emod_nonneg u (b := a) (by omega)
  have r1 := Int.emod_lt_of_pos u (b := a) (by omega)
  refine ⟨e1, r0, ?_, ?_⟩
  · by_cases h : u / a < (u * 4294967296 + d) / (a * 4294967296 + b)
    · have hq := (Int.le_ediv_iff_mul_le (by omega)).1 (show u / a + 1 ≤ (u * 4294967296 + d) / (a * 4294967296 + b) by omega)
      rw [Int.add_mul, Int.mul_add, ← Int.mul_assoc] at hq
      have hs : 0 ≤ u / a * b := Int.mul_nonneg (Int.ediv_nonneg g.u0 (by omega)) g.b0
      omega
    · omega
  · have : u / a < 4294967298 := by rw [Int.ediv_lt_iff_lt_mul (by omega)]; omega
    omega
theorem Dg.down (g : Dg a b u d) (h : Dig a b u d q r) (ht : (u * 4294967296 + d) / (a * 4294967296 + b) < q) : Dig a b u d (q - 1) (r + a) :=
  ⟨by have := h.e; rw [Int.sub_mul]; omega, by have := h.r0; have := g.a0; omega, by omega, by have := h.hi; omega⟩
theorem Dg.stop (g : Dg a b u d) (h : Dig a b u d q r) (hr : 4294967296 ≤ r) (hq : q ≤ 4294967296) : q = (u * 4294967296 + d) / (a * 4294967296 + b) := by
  have hn : ¬ (u * 4294967296 + d) / (a * 4294967296 + b) < q := by
    rw [g.test h.e]
    have h0 : 0 ≤ q := Int.le_trans g.q0 h.lo
    have := Int.mul_le_mul_of_nonneg_left (show b ≤ 4294967295 by have := g.b1; omega) h0
    have := g.d0
    omega
  have := h.lo
  omega
/-- One test: is the digit too large? -/
theorem Dg.asks (g : Dg a b u d) (h : Dig a b u d q r) (hr : r < 4294967296) (v : Int) (hv : v = IntKind.wrap .u64 (IntKind.wrap .u64 (4294967296 * r) + d)) : Has (if (decide (q ≥ 4294967296)) = true then some true else some (decide ((IntKind.wrap .u64 (q * b)) > v))) fun z => z = decide ((u * 4294967296 + d) / (a * 4294967296 + b) < q) := by
  have h0 : 0 ≤ q := Int.le_trans g.q0 h.lo
  refine Has.ite (fun hc => Has.ret ?_) fun hc => Has.ret ?_
  · have := g.qB
    simp only [decide_eq_true_eq] at hc
    exact (decide_eq_true (by omega)).symm
  · simp only [decide_eq_true_eq] at hc
    have h1 := Int.mul_le_mul_of_nonneg_left (show b ≤ 4294967295 by have := g.b1; omega) h0
    have h2 := Int.mul_nonneg h0 g.b0
    have := h.r0; have := g.d0; have := g.d1
    rw [hv, wu_in (n := q * b) (by omega), wu_in (n := 4294967296 * r) (by omega), wu_in (by omega)]
    have key := g.test (q := q) (r := r) h.e
    by_cases ht : (u * 4294967296 + d) / (a * 4294967296 + b) < q
    · rw [decide_eq_true ht, decide_eq_true]; have := key.1 ht; omega
    · rw [decide_eq_false ht, decide_eq_false]; have := mt key.2 ht; omega
end
theorem div_l1 {v7 b v13 u d : Int} {a : Int} (ea : Int.fdiv v7 (2 ^ 32) = a) (ed : Int.fdiv v13 (2 ^ 32) = d) (g : Dg a b u d) (s : Int × Int) (h : Dig a b u d s.1 s.2) (hr : s.2 < 4294967296) :
    Has (loopF (bits_Div64.l1 v7 b v13) s) fun o => o = (u * 4294967296 + d) / (a * 4294967296 + b) := by
  refine Has.loop (fun s : Int × Int => Dig a b u d s.1 s.2 ∧ s.2 < 4294967296) (fun s => s.1.toNat) (fun o : Int => o = (u * 4294967296 + d) / (a * 4294967296 + b)) ⟨h, hr⟩ (by have := h.hi; show s.1.toNat < _; omega) fun s ⟨h, hr⟩ => ?_
  unfold bits_Div64.l1
  simp only [ea, ed]
  have hq := h.hi; have h0 := h.r0; have a0 := g.a0; have a1 := g.a1; have q0 := g.q0; have hl := h.lo
  refine (g.asks h hr _ rfl).bind fun z hz => ?_
  subst hz
  refine Has.ite (fun ht => ?_) fun ht => ?_
  · have ht := of_decide_eq_true ht
    have k := g.down h ht
    rw [wu_in (n := s.2 + a) (by omega), wu_in (n := s.1 - 1) (by omega)]
    refine Has.letF (Has.ite (fun hc => Has.ret (.done ?_)) fun hc => Has.ret (.next ⟨k, ?_⟩ ?_))
    · exact g.stop k (by simpa using hc) (by omega)
    · simpa using hc
    · simp only []; omega
  · have ht : ¬ _ := fun x => ht (decide_eq_true x)
    exact Has.ret (.done (by omega))
theorem div_l2 {v7 b d u : Int} {a : Int} (ea : Int.fdiv v7 (2 ^ 32) = a) (g : Dg a b u d) (s : Int × Int) (h : Dig a b u d s.2 s.1) (hr : s.1 < 4294967296) :
    Has (loopF (bits_Div64.l2 v7 b d) s) fun o => o = (u * 4294967296 + d) / (a * 4294967296 + b) := by
  refine Has.loop (fun s : Int × Int => Dig a b u d s.2 s.1 ∧ s.1 < 4294967296) (fun s => s.2.toNat) (fun o : Int => o = (u * 4294967296 + d) / (a * 4294967296 + b)) ⟨h, hr⟩ (by have := h.hi; show s.2.toNat < _; omega) fun s ⟨h, hr⟩ => ?_
  unfold bits_Div64.l2
  simp only [ea]
  have hq := h.hi; have h0 := h.r0; have a0 := g.a0; have a1 := g.a1; have q0 := g.q0; have hl := h.lo
  refine (g.asks h hr _ rfl).bind fun z hz => ?_
  subst hz
  refine Has.ite (fun ht => ?_) fun ht => ?_
  · have ht := of_decide_eq_true ht
    have k := g.down h ht
    rw [wu_in (n := s.1 + a) (by omega), wu_in (n := s.2 - 1) (by omega)]
    refine Has.letF (Has.ite (fun hc => Has.ret (.done ?_)) fun hc => Has.ret (.next ⟨k, ?_⟩ ?_))
    · exact g.stop k (by simpa using hc) (by omega)
    · simpa using hc
    · simp only []; omega
  · have ht : ¬ _ := fun x => ht (decide_eq_true x)
    exact Has.ret (.done (by omega))
end Lf
/- The quotient of a number of 128 bits by one of 64: the whole. -/
namespace Lf
open Go Go.Abs
set_option linter.unusedVariables false
set_option linter.unusedSimpArgs false
theorem div_norm {hi lo y p m : Int} (hp : 0 < p) (hm : 0 < m) (hpm : p * m = 18446744073709551616) (h0 : 0 ≤ hi) (h1 : hi < y) (l0 : 0 ≤ lo) (l1 : lo < 18446744073709551616) (y0 : m ≤ y + y) (y1 : y < m) :
    9223372036854775808 ≤ y * p ∧ y * p < 18446744073709551616 ∧ 0 ≤ hi * p ∧ hi * p + p ≤ y * p ∧ 0 ≤ lo / m ∧ lo / m < p ∧ 0 ≤ lo % m * p ∧ lo % m * p < 18446744073709551616 ∧ lo * p = 18446744073709551616 * (lo / m) + lo % m * p := by
  have c : m * p = 18446744073709551616 := by rw [Int.mul_comm]; exact hpm
  have k1 := Int.mul_le_mul_of_nonneg_right y0 (Int.le_of_lt hp)
  have k2 := Int.mul_lt_mul_of_pos_right y1 hp
  have k3 := Int.mul_nonneg h0 (Int.le_of_lt hp)
  have k4 := Int.mul_le_mul_of_nonneg_right (show hi + 1 ≤ y by omega) (Int.le_of_lt hp)
  have k5 := Int.ediv_nonneg l0 (Int.le_of_lt hm)
  have k6 : lo / m < p := by rw [Int.ediv_lt_iff_lt_mul hm, hpm]; exact l1
  have e1 := Int.emod_nonneg lo (b := m) (by omega)
  have e2 := Int.emod_lt_of_pos lo hm
  have k7 := Int.mul_nonneg e1 (Int.le_of_lt hp)
  have k8 := Int.mul_lt_mul_of_pos_right e2 hp
  have k9 : lo * p = 18446744073709551616 * (lo / m) + lo % m * p := by
    have := Int.mul_ediv_add_emod lo m
    conv => lhs; rw [← this]
    rw [Int.add_mul, Int.mul_assoc, Int.mul_comm (lo / m) p, ← Int.mul_assoc, c]
  rw [Int.add_mul] at k1
  rw [Int.add_mul, Int.one_mul] at k4
  refine ⟨by omega, by omega, k3, k4, k5, k6, k7, by omega, k9⟩
theorem div_fin {U y p Q R : Int} (hp : 0 < p) (hy : 0 < y) (e : U * p = Q * (y * p) + R) (r0 : 0 ≤ R) (r1 : R < y * p) : Q = U / y ∧ R / p = U % y := by
  have e1 : (U - Q * y) * p = R := by rw [Int.sub_mul, Int.mul_assoc]; omega
  have q0 : 0 ≤ U - Q * y := by
    by_cases h : 0 ≤ U - Q * y
    · exact h
    · have := Int.mul_lt_mul_of_pos_right (show U - Q * y < 0 by omega) hp
      omega
  have q1 : U - Q * y < y := by
    by_cases h : U - Q * y < y
    · exact h
    · have := Int.mul_le_mul_of_nonneg_right (show y ≤ U - Q * y by omega) (Int.le_of_lt hp)
      omega
  obtain ⟨a, b⟩ := (Int.ediv_emod_unique hy (a := U) (q := Q) (r := U - Q * y)).2 ⟨by rw [Int.mul_comm y Q]; omega, q0, q1⟩
  refine ⟨a.symm, ?_⟩
  rw [b, ← e1, Int.mul_ediv_cancel _ (by omega)]
theorem div64_ok (hi lo y : Int) (h0 : 0 ≤ hi) (h1 : hi < y) (hy : y < 18446744073709551616) (l0 : 0 ≤ lo) (l1 : lo < 18446744073709551616) :
    Has (bits_Div64 hi lo y) fun r => r = (NU64.mk ((hi * 18446744073709551616 + lo) / y), NU64.mk ((hi * 18446744073709551616 + lo) % y)) := by
  unfold bits_Div64
  refine Has.neg (by simp; omega) (Has.neg (by simp; omega) (Has.ite (fun hz => ?_) fun hz => ?_))
  · have hz : hi = 0 := by simpa using hz
    subst hz
    have q0 := Int.ediv_nonneg l0 (show 0 ≤ y by omega)
    have q1 := Int.ediv_le_self y l0
    have q1 : lo / y ≤ lo := Int.ediv_le_self y l0
    refine Has.chk (by omega) (Has.ret ?_)
    rw [Int.tdiv_eq_ediv_of_nonneg l0, Int.tmod_eq_emod_of_nonneg l0, wu_in (by omega)]
    simp
  · unfold bits_LeadingZeros64
    refine Has.bind (P := fun r => ∃ k : Nat, r = 64 - (k : Int) ∧ k ≤ 64 ∧ y < 2 ^ k ∧ 1 ≤ k ∧ 2 ^ (k - 1) ≤ y) ((len64_ok y ⟨by omega, hy⟩).bind fun n ⟨k, hk, k64, kl, kg⟩ => Has.ret ⟨k, by rw [hk, w6_in (by omega)], k64, kl, kg (by omega)⟩) fun r ⟨k, hr, k64, kl, k1, kg⟩ => ?_
    subst hr
    have hm : (0 : Int) < 2 ^ k := Int.pow_pos (by decide)
    have hp : (0 : Int) < 2 ^ (64 - k) := Int.pow_pos (by decide)
    have hpm : (2 : Int) ^ (64 - k) * 2 ^ k = 18446744073709551616 := by rw [← Int.pow_add, Nat.sub_add_cancel k64]; rfl
    have hmy : (2 : Int) ^ k ≤ y + y := by
      have : (2 : Int) ^ k = 2 ^ (k - 1) * 2 := by rw [← Int.pow_succ]; congr 1; omega
      omega
    obtain ⟨n1, n2, n3, n4, n5, n6, n7, n8, n9⟩ := div_norm hp hm hpm h0 h1 l0 l1 hmy kl
    have s1 : IntKind.wrap .u64 (64 - (k : Int)) = 64 - (k : Int) := wu_in (by omega)
    have s2 : min (64 - (k : Int)).toNat (IntKind.bits .u64) = 64 - k := by
      show min (64 - (k : Int)).toNat 64 = _
      omega
    have s3 : IntKind.wrap .u64 (64 - (64 - (k : Int))) = (k : Int) := by rw [wu_in (by omega)]; omega
    have s4 : min (k : Int).toNat (IntKind.bits .u64) = k := by
      show min (k : Int).toNat 64 = _
      omega
    have low : ∀ x : Int, 0 ≤ x ∧ x < 18446744073709551616 → IntKind.wrap .u64 ((BitVec.ofInt 64 x &&& BitVec.ofInt 64 4294967295).toNat : Int) = x % 4294967296 := fun x h => and_low h
    simp only [s1, s2, s3, s4]
    rw [wu_in (n := y * 2 ^ (64 - k)) ⟨by omega, n2⟩, wu_in (n := hi * 2 ^ (64 - k)) ⟨n3, by omega⟩]
    have f1 : Int.fdiv lo (2 ^ k) = lo / 2 ^ k := fdiv_pow lo k
    rw [f1]
    have w13 : IntKind.wrap .u64 (lo * 2 ^ (64 - k)) = lo % 2 ^ k * 2 ^ (64 - k) := by rw [wu_def]; omega
    rw [w13]
    refine Has.chk (by omega) (Has.letF (Has.letF (Has.letF (Has.chk (by omega) (Has.letF (Has.letF (Has.letF (Has.letF ?_))))))))
    rw [low _ ⟨by omega, n2⟩, or_add (64 - k) h0 ⟨n5, n6⟩ (by omega) n3, low _ ⟨n7, n8⟩]
    generalize hv : y * 2 ^ (64 - k) = v at *
    generalize hu : hi * 2 ^ (64 - k) + lo / 2 ^ k = u at *
    generalize ht : lo % 2 ^ k * 2 ^ (64 - k) = t at *
    have ea : Int.fdiv v (2 ^ 32) = v / 4294967296 := fdiv_pow v 32
    have ed : Int.fdiv t (2 ^ 32) = t / 4294967296 := fdiv_pow t 32
    rw [ea, ed]
    have vv : v / 4294967296 * 4294967296 + v % 4294967296 = v := by omega
    have u0 : 0 ≤ u := by omega
    have uv : u < v := by omega
    have g1 : Dg (v / 4294967296) (v % 4294967296) u (t / 4294967296) := ⟨by omega, by omega, by omega, by omega, by omega, by omega, u0, by omega⟩
    have t1 : IntKind.wrap .u64 (Int.tdiv u (v / 4294967296)) = u / (v / 4294967296) := by
      rw [Int.tdiv_eq_ediv_of_nonneg u0]
      have := Int.ediv_nonneg u0 (show 0 ≤ v / 4294967296 by omega)
      have := Int.ediv_le_self (v / 4294967296) u0
      exact wu_in (by omega)
    have t2 : u / (v / 4294967296) * (v / 4294967296) + u % (v / 4294967296) = u := by rw [Int.mul_comm]; exact Int.mul_ediv_add_emod u _
    have t3 := Int.emod_nonneg u (b := v / 4294967296) (by omega)
    have t4 := Int.emod_lt_of_pos u (b := v / 4294967296) (by omega)
    rw [t1]
    refine Has.chk (by omega) (Has.letF ?_)
    have t7 : 0 ≤ u / (v / 4294967296) * (v / 4294967296) := Int.mul_nonneg (Int.ediv_nonneg u0 (by omega)) (by omega)
    have t5 : IntKind.wrap .u64 (u / (v / 4294967296) * (v / 4294967296)) = u / (v / 4294967296) * (v / 4294967296) := wu_in (by omega)
    have t6 : IntKind.wrap .u64 (u - u / (v / 4294967296) * (v / 4294967296)) = u % (v / 4294967296) := by rw [wu_in (by omega)]; omega
    rw [t5, t6]
    refine (div_l1 ea ed g1 (u / (v / 4294967296), u % (v / 4294967296)) g1.first (by have := g1.a1; show u % (v / 4294967296) < _; omega)).bind fun z hz => ?_
    rw [vv] at hz
    -- the first digit
    have z0 := g1.q0
    have zB := g1.qB
    rw [vv, ← hz] at z0 zB
    have zr := Int.mul_ediv_add_emod (u * 4294967296 + t / 4294967296) v
    rw [← hz] at zr
    have zr0 := Int.emod_nonneg (u * 4294967296 + t / 4294967296) (b := v) (by omega)
    have zr1 := Int.emod_lt_of_pos (u * 4294967296 + t / 4294967296) (b := v) (by omega)
    rw [Int.mul_comm v z] at zr
    generalize hR : (u * 4294967296 + t / 4294967296) % v = R at *
    have x1 : IntKind.wrap .u64 (IntKind.wrap .u64 (IntKind.wrap .u64 (u * 4294967296) + t / 4294967296) - IntKind.wrap .u64 (z * v)) = R := by
      simp only [wu_def]; omega
    refine Has.letF ?_
    simp only [x1]
    have g2 : Dg (v / 4294967296) (v % 4294967296) R (t % 4294967296) := ⟨by omega, by omega, by omega, by omega, by omega, by omega, zr0, by omega⟩
    have y1 : IntKind.wrap .u64 (Int.tdiv R (v / 4294967296)) = R / (v / 4294967296) := by
      rw [Int.tdiv_eq_ediv_of_nonneg zr0]
      have := Int.ediv_nonneg zr0 (show 0 ≤ v / 4294967296 by omega)
      have := Int.ediv_le_self (v / 4294967296) zr0
      exact wu_in (by omega)
    have y2 : R / (v / 4294967296) * (v / 4294967296) + R % (v / 4294967296) = R := by rw [Int.mul_comm]; exact Int.mul_ediv_add_emod R _
    have y3 := Int.emod_nonneg R (b := v / 4294967296) (by omega)
    have y4 := Int.emod_lt_of_pos R (b := v / 4294967296) (by omega)
    have y7 : 0 ≤ R / (v / 4294967296) * (v / 4294967296) := Int.mul_nonneg (Int.ediv_nonneg zr0 (by omega)) (by omega)
    have y5 : IntKind.wrap .u64 (R - IntKind.wrap .u64 (R / (v / 4294967296) * (v / 4294967296))) = R % (v / 4294967296) := by rw [wu_in (n := R / (v / 4294967296) * (v / 4294967296)) (by omega), wu_in (by omega)]; omega
    rw [y1]
    refine Has.letF (Has.letF ?_)
    simp only [y5]
    refine (div_l2 ea g2 (R % (v / 4294967296), R / (v / 4294967296)) g2.first (by have := g2.a1; show R % (v / 4294967296) < _; omega)).bind fun x hx => ?_
    rw [vv] at hx
    have x0 := g2.q0
    have xB := g2.qB
    rw [vv, ← hx] at x0 xB
    have xr := Int.mul_ediv_add_emod (R * 4294967296 + t % 4294967296) v
    rw [← hx] at xr
    have xr0 := Int.emod_nonneg (R * 4294967296 + t % 4294967296) (b := v) (by omega)
    have xr1 := Int.emod_lt_of_pos (R * 4294967296 + t % 4294967296) (b := v) (by omega)
    rw [Int.mul_comm v x] at xr
    generalize hT : (R * 4294967296 + t % 4294967296) % v = T at *
    have w1 : IntKind.wrap .u64 (IntKind.wrap .u64 (IntKind.wrap .u64 (R * 4294967296) + t % 4294967296) - IntKind.wrap .u64 (x * v)) = T := by
      simp only [wu_def]; omega
    have w2 : IntKind.wrap .u64 (IntKind.wrap .u64 (z * 4294967296) + x) = z * 4294967296 + x := by rw [wu_in (n := z * 4294967296) (by omega), wu_in (by omega)]
    refine Has.letF (Has.letF (Has.letF (Has.letF (Has.ret ?_))))
    simp only [w1, w2]
    rw [fdiv_pow T (64 - k)]
    have key : (hi * 18446744073709551616 + lo) * 2 ^ (64 - k) = (z * 4294967296 + x) * (y * 2 ^ (64 - k)) + T := by
      rw [hv, Int.add_mul, Int.add_mul, Int.mul_right_comm, Int.mul_right_comm z]
      omega
    obtain ⟨q1, q2⟩ := div_fin hp (show 0 < y by omega) key xr0 (by rw [hv]; exact xr1)
    rw [q1, q2]
end Lf
/- Products and quotients of whole numbers, by way of 128 bits. -/
namespace Lf
open Go Go.Abs
set_option linter.unusedVariables false
set_option linter.unusedSimpArgs false
theorem w6_def (n : Int) : w6 n = (n + 9223372036854775808) % 18446744073709551616 - 9223372036854775808 := by unfold w6; rw [IntKind.wrap_i64]
def okI (n : Int) : Prop := -9223372036854775808 ≤ n ∧ n ≤ 9223372036854775807
instance (n : Int) : Decidable (okI n) := inferInstanceAs (Decidable (_ ∧ _))
structure okW (w : num_Wide) : Prop where
  h : okI w.Hi
  l0 : 0 ≤ w.Lo.n
  l1 : w.Lo.n < 18446744073709551616
def wv (w : num_Wide) : Int := w.Hi * 18446744073709551616 + w.Lo.n
theorem size_ok (a : Int) (ha : okI a) : Has (num_size a) fun r => 0 ≤ r.n ∧ r.n ≤ 9223372036854775808 ∧ ((0 ≤ a ∧ r.n = a) ∨ (a < 0 ∧ r.n = -a)) := by
  unfold num_size
  have h1 := ha.1; have h2 := ha.2
  refine Has.ite (fun h => Has.ret ?_) fun h => Has.ret ?_
  · have h : a < 0 := by simpa using h
    simp only [wu_def]; omega
  · have h : 0 ≤ a := by simpa using h
    simp only [wu_def]; omega
theorem mul64_ok (x y : Int) (hx : 0 ≤ x ∧ x < 18446744073709551616) (hy : 0 ≤ y ∧ y < 18446744073709551616) : Has (bits_Mul64 x y) fun r => r = (NU64.mk (x * y / 18446744073709551616), NU64.mk (x * y % 18446744073709551616)) := by
  unfold bits_Mul64
  have e1 : Int.fdiv x (2 ^ 32) = x / 4294967296 := fdiv_pow x 32
  have e2 : Int.fdiv y (2 ^ 32) = y / 4294967296 := fdiv_pow y 32
  have bd : ∀ a b : Int, 0 ≤ a → a ≤ 4294967295 → 0 ≤ b → b ≤ 4294967295 → 0 ≤ a * b ∧ a * b ≤ 18446744065119617025 := fun a b a0 a1 b0 b1 => by
    have := Int.mul_nonneg a0 b0
    have h1 := Int.mul_le_mul_of_nonneg_right a1 b0
    omega
  have ex : x * y = x / 4294967296 * (y / 4294967296) * 18446744073709551616 + (x / 4294967296 * (y % 4294967296) + x % 4294967296 * (y / 4294967296)) * 4294967296 + x % 4294967296 * (y % 4294967296) := by
    have h1 : x = x / 4294967296 * 4294967296 + x % 4294967296 := by omega
    have h2 : y = y / 4294967296 * 4294967296 + y % 4294967296 := by omega
    generalize x / 4294967296 = a at *
    generalize x % 4294967296 = b at *
    generalize y / 4294967296 = c at *
    generalize y % 4294967296 = d at *
    subst h1; subst h2
    rw [Int.add_mul, Int.mul_add, Int.mul_add, Int.mul_right_comm a 4294967296, ← Int.mul_assoc a c, Int.mul_assoc (a * c), Int.mul_right_comm a 4294967296 d, ← Int.mul_assoc b c, Int.add_mul]
    omega
  have p1 := bd (x / 4294967296) (y / 4294967296) (by omega) (by omega) (by omega) (by omega)
  have p2 := bd (x / 4294967296) (y % 4294967296) (by omega) (by omega) (by omega) (by omega)
  have p3 := bd (x % 4294967296) (y / 4294967296) (by omega) (by omega) (by omega) (by omega)
  have p4 := bd (x % 4294967296) (y % 4294967296) (by omega) (by omega) (by omega) (by omega)
  simp only [Abs.letF]
  rw [and_low hx, and_low hy, e1, e2, ex]
  generalize x / 4294967296 * (y / 4294967296) = a at *
  generalize x / 4294967296 * (y % 4294967296) = b at *
  generalize x % 4294967296 * (y / 4294967296) = c at *
  generalize x % 4294967296 * (y % 4294967296) = d at *
  rw [wu_in (n := b) (by omega), wu_in (n := d) (by omega)]
  have e3 : Int.fdiv d (2 ^ 32) = d / 4294967296 := fdiv_pow d 32
  rw [e3, wu_in (n := b + d / 4294967296) (by omega), and_low (by omega), wu_in (n := c) (by omega), wu_in (n := (b + d / 4294967296) % 4294967296 + c) (by omega)]
  have e4 : Int.fdiv (b + d / 4294967296) (2 ^ 32) = (b + d / 4294967296) / 4294967296 := fdiv_pow _ 32
  have e5 : Int.fdiv ((b + d / 4294967296) % 4294967296 + c) (2 ^ 32) = ((b + d / 4294967296) % 4294967296 + c) / 4294967296 := fdiv_pow _ 32
  refine Has.ret ?_
  rw [e4, e5]
  clear e1 e2 e3 e4 e5 ex hx hy bd
  have q1 : d = 4294967296 * (d / 4294967296) + d % 4294967296 := by omega
  have q2 : 0 ≤ d % 4294967296 ∧ d % 4294967296 < 4294967296 := by omega
  have q3 : 0 ≤ d / 4294967296 ∧ d / 4294967296 ≤ 4294967295 := by omega
  generalize d / 4294967296 = m at *
  generalize d % 4294967296 = d1 at *
  have q4 : b + m = 4294967296 * ((b + m) / 4294967296) + (b + m) % 4294967296 := by omega
  have q5 : 0 ≤ (b + m) % 4294967296 ∧ (b + m) % 4294967296 < 4294967296 := by omega
  have q6 : 0 ≤ (b + m) / 4294967296 ∧ (b + m) / 4294967296 ≤ 4294967295 := by omega
  generalize (b + m) / 4294967296 = n at *
  generalize (b + m) % 4294967296 = r1 at *
  have q7 : r1 + c = 4294967296 * ((r1 + c) / 4294967296) + (r1 + c) % 4294967296 := by omega
  have q8 : 0 ≤ (r1 + c) % 4294967296 ∧ (r1 + c) % 4294967296 < 4294967296 := by omega
  have q9 : 0 ≤ (r1 + c) / 4294967296 ∧ (r1 + c) / 4294967296 ≤ 4294967295 := by omega
  generalize (r1 + c) / 4294967296 = o at *
  generalize (r1 + c) % 4294967296 = r2 at *
  have eT : a * 18446744073709551616 + (b + c) * 4294967296 + d = 18446744073709551616 * (a + n + o) + (r2 * 4294967296 + d1) := by omega
  rw [eT, wu_in (n := a) (by omega), wu_in (n := a + n) (by omega), wu_in (n := a + n + o) (by omega), wu_def]
  have : (18446744073709551616 * (a + n + o) + (r2 * 4294967296 + d1)) / 18446744073709551616 = a + n + o := by omega
  rw [this]
theorem wneg_ok (w : num_Wide) (hw : okW w) (hm : -170141183460469231731687303715884105728 < wv w) : Has (Wide_Neg w) fun r => okW r ∧ wv r = - wv w := by
  have h1 := hw.h.1; have h2 := hw.h.2; have h3 := hw.l0; have h4 := hw.l1
  unfold wv at hm
  unfold Wide_Neg
  have b1 := wu_bd w.Hi
  rw [xor_all ⟨h3, h4⟩, xor_all b1]
  refine Has.letF (Has.bind (P := fun r => r = ((18446744073709551615 - w.Lo.n + 1) % 18446744073709551616, (18446744073709551615 - w.Lo.n + 1) / 18446744073709551616)) ?_ fun r hr => Has.letF (Has.bind (P := fun q => q = ((18446744073709551615 - IntKind.wrap .u64 w.Hi + r.2) % 18446744073709551616, (18446744073709551615 - IntKind.wrap .u64 w.Hi + r.2) / 18446744073709551616)) ?_ fun q hq => Has.ret ?_))
  · unfold add64
    rw [if_pos (by omega)]
    exact Has.ret (by simp)
  · subst hr
    unfold add64
    simp only []
    rw [if_pos (by omega)]
    exact Has.ret (by simp)
  · subst hr; subst hq
    simp only [wu_def] at *
    refine ⟨⟨?_, ?_, ?_⟩, ?_⟩
    · exact w6_bd _
    · simp only []; omega
    · simp only []; omega
    · unfold wv
      simp only [w6_def]
      omega
theorem product_ok (a b : Int) (ha : okI a) (hb : okI b) : Has (num_Product a b) fun w => okW w ∧ wv w = a * b ∧ -85070591730234615865843651857942052864 ≤ a * b ∧ a * b ≤ 85070591730234615865843651857942052864 := by
  unfold num_Product
  refine (size_ok a ha).bind fun x ⟨x0, x1, x2⟩ => (size_ok b hb).bind fun y ⟨y0, y1, y2⟩ => ?_
  have p0 := Int.mul_nonneg x0 y0
  have p1 := Int.mul_le_mul_of_nonneg_right x1 y0
  have p : x.n * y.n ≤ 85070591730234615865843651857942052864 := by omega
  refine (mul64_ok x.n y.n (by omega) (by omega)).bind fun r hr => ?_
  subst hr
  simp only []
  have e0 : w6 (x.n * y.n / 18446744073709551616) = x.n * y.n / 18446744073709551616 := w6_in (by omega)
  rw [e0]
  have ow : okW (num_Wide.mk (x.n * y.n / 18446744073709551616) (NU64.mk (x.n * y.n % 18446744073709551616))) := ⟨⟨by simp only []; omega, by simp only []; omega⟩, by simp only []; omega, by simp only []; omega⟩
  have ew : wv (num_Wide.mk (x.n * y.n / 18446744073709551616) (NU64.mk (x.n * y.n % 18446744073709551616))) = x.n * y.n := by unfold wv; simp only []; omega
  refine Has.ite (fun h => ?_) fun h => Has.ret ?_
  · refine (wneg_ok _ ow (by rw [ew]; omega)).bind fun r ⟨h1, h2⟩ => Has.ret ⟨h1, ?_, ?_⟩
    · rw [h2, ew]
      rcases x2 with ⟨s, e⟩ | ⟨s, e⟩ <;> rcases y2 with ⟨t, f⟩ | ⟨t, f⟩
      · exfalso; simp at h; omega
      · rw [e, f, Int.mul_neg, Int.neg_neg]
      · rw [e, f, Int.neg_mul, Int.neg_neg]
      · exfalso; simp at h; omega
    · rcases x2 with ⟨s, e⟩ | ⟨s, e⟩ <;> rcases y2 with ⟨t, f⟩ | ⟨t, f⟩
      · exfalso; simp at h; omega
      · rw [e, f, Int.mul_neg] at p p0; omega
      · rw [e, f, Int.neg_mul] at p p0; omega
      · exfalso; simp at h; omega
  · refine ⟨ow, ?_, ?_⟩
    · rw [ew]
      rcases x2 with ⟨s, e⟩ | ⟨s, e⟩ <;> rcases y2 with ⟨t, f⟩ | ⟨t, f⟩
      · rw [e, f]
      · exfalso; simp at h; omega
      · exfalso; simp at h; omega
      · rw [e, f, Int.neg_mul_neg]
    · rcases x2 with ⟨s, e⟩ | ⟨s, e⟩ <;> rcases y2 with ⟨t, f⟩ | ⟨t, f⟩
      · rw [e, f] at p p0; omega
      · exfalso; simp at h; omega
      · exfalso; simp at h; omega
      · rw [e, f, Int.neg_mul_neg] at p p0; omega
end Lf
/- Quotients rounded up. -/
namespace Lf
open Go Go.Abs
set_option linter.unusedVariables false
set_option linter.unusedSimpArgs false
theorem neg_div (m d : Int) (hd : 0 < d) : (m % d = 0 ∧ (-m) / d = -(m / d) ∧ (-m) % d = 0) ∨ (0 < m % d ∧ (-m) / d = -(m / d) - 1 ∧ (-m) % d = d - m % d) := by
  have h1 := Int.mul_ediv_add_emod m d
  have h2 := Int.emod_nonneg m (b := d) (by omega)
  have h3 := Int.emod_lt_of_pos m hd
  by_cases h : m % d = 0
  · left
    have := (Int.ediv_emod_unique hd (a := -m) (q := -(m / d)) (r := 0)).2 ⟨by rw [Int.mul_neg]; omega, by omega, by omega⟩
    exact ⟨h, this.1, this.2⟩
  · right
    have := (Int.ediv_emod_unique hd (a := -m) (q := -(m / d) - 1) (r := d - m % d)).2 ⟨by rw [Int.mul_sub, Int.mul_neg]; omega, by omega, by omega⟩
    exact ⟨by omega, this.1, this.2⟩
def cdiv (x d : Int) : Int := -((-x) / d)
theorem cdiv_up {x d : Int} (hd : 0 < d) : (x % d = 0 → cdiv x d = x / d) ∧ (0 < x % d → cdiv x d = x / d + 1) := by
  unfold cdiv
  rcases neg_div x d hd with ⟨a, b, c⟩ | ⟨a, b, c⟩
  · exact ⟨fun _ => by omega, fun h => by omega⟩
  · exact ⟨fun h => by omega, fun _ => by omega⟩
theorem cdiv_mono {x y d : Int} (hd : 0 < d) (h : x ≤ y) : cdiv x d ≤ cdiv y d := by
  unfold cdiv
  have := Int.ediv_le_ediv hd (show -y ≤ -x by omega)
  omega
theorem fl_le_ce {x d : Int} (hd : 0 < d) : x / d ≤ cdiv x d ∧ cdiv x d ≤ x / d + 1 := by
  unfold cdiv
  rcases neg_div x d hd with ⟨a, b, c⟩ | ⟨a, b, c⟩ <;> omega
theorem cdiv_le {x d g : Int} (hd : 0 < d) : cdiv x d ≤ g ↔ x ≤ g * d := by
  unfold cdiv
  have h := Int.le_ediv_iff_mul_le (a := -g) (b := -x) hd
  rw [Int.neg_mul] at h
  omega
end Lf
/- a * b / c, rounded down and up. -/
namespace Lf
open Go Go.Abs
set_option linter.unusedVariables false
set_option linter.unusedSimpArgs false
theorem wdiv_ok (w : num_Wide) (d : Int) (hw : okW w) (hm : -170141183460469231731687303715884105728 < wv w) (hd : 1 ≤ d ∧ d ≤ 9223372036854775807) :
    Has (Wide_Div w d) fun r => (okI (wv w / d) ∧ r = (wv w / d, 0)) ∨ (¬ okI (wv w / d) ∧ r = (0, 2)) := by
  have h1 := hw.h.1; have h2 := hw.h.2; have h3 := hw.l0; have h4 := hw.l1
  have ed : IntKind.wrap .u64 d = d := wu_in (by omega)
  unfold Wide_Div
  simp only [ed, decide_eq_true_eq]
  refine Has.neg (by omega) (Has.ite (fun hn => ?_) fun hn => ?_)
  · refine (wneg_ok w hw hm).bind fun r ⟨r1, r2⟩ => ?_
    have g1 := r1.h.1; have g2 := r1.h.2; have g3 := r1.l0; have g4 := r1.l1
    have em : wv w = -(wv r) := by omega
    have hv : wv w < 0 := by unfold wv; omega
    have hp : 0 ≤ r.Hi := by unfold wv at *; omega
    have eh : IntKind.wrap .u64 r.Hi = r.Hi := wu_in (by omega)
    have ev : r.Hi * 18446744073709551616 + r.Lo.n = wv r := rfl
    rw [eh, em]
    have nd := neg_div (wv r) d (by omega)
    refine Has.ite (fun hc => Has.ret (.inr ⟨?_, rfl⟩)) fun hc => ?_
    · have : (18446744073709551616 : Int) ≤ wv r / d := by
        rw [Int.le_ediv_iff_mul_le (by omega)]; unfold wv; omega
      unfold okI
      omega
    · refine (div64_ok r.Hi r.Lo.n d hp (by omega) (by omega) g3 g4).bind fun q hq => ?_
      subst hq
      simp only [ev]
      have q0 : 0 ≤ wv r / d := Int.ediv_nonneg (by omega) (by omega)
      have q1 : wv r / d < 18446744073709551616 := by
        rw [Int.ediv_lt_iff_lt_mul (by omega)]; unfold wv; omega
      have q2 := Int.emod_nonneg (wv r) (b := d) (by omega)
      generalize wv r / d = q at *
      generalize wv r % d = s at *
      refine Has.pos hn (Has.ite (fun hs => Has.letF ?_) fun hs => ?_)
      · rw [wu_in (n := 9223372036854775808 - 1) (by omega)]
        simp only [decide_eq_true_eq]
        refine Has.ite (fun hb => Has.ret (.inr ⟨?_, rfl⟩)) fun hb => Has.neg (by omega) (Has.pos hs (Has.ret (.inl ⟨?_, ?_⟩)))
        · unfold okI; omega
        · unfold okI; omega
        · simp only [wu_def, w6_def, Prod.mk.injEq, and_true]
          omega
      · refine Has.ite (fun hb => Has.ret (.inr ⟨?_, rfl⟩)) fun hb => Has.neg (by omega) (Has.neg hs (Has.ret (.inl ⟨?_, ?_⟩)))
        · unfold okI; omega
        · unfold okI; omega
        · simp only [wu_def, w6_def, Prod.mk.injEq, and_true]
          omega
  · have eh : IntKind.wrap .u64 w.Hi = w.Hi := wu_in (by omega)
    have ev : w.Hi * 18446744073709551616 + w.Lo.n = wv w := rfl
    have v0 : 0 ≤ wv w := by unfold wv; omega
    rw [eh]
    refine Has.ite (fun hc => Has.ret (.inr ⟨?_, rfl⟩)) fun hc => ?_
    · have : (18446744073709551616 : Int) ≤ wv w / d := by
        rw [Int.le_ediv_iff_mul_le (by omega)]; unfold wv; omega
      unfold okI
      omega
    · refine (div64_ok w.Hi w.Lo.n d (by omega) (by omega) (by omega) h3 h4).bind fun q hq => ?_
      subst hq
      simp only [ev]
      have q0 : 0 ≤ wv w / d := Int.ediv_nonneg (by omega) (by omega)
      have q1 : wv w / d < 18446744073709551616 := by
        rw [Int.ediv_lt_iff_lt_mul (by omega)]; unfold wv; omega
      generalize wv w / d = q at *
      refine Has.neg hn (Has.ite (fun hb => Has.ret (.inr ⟨?_, rfl⟩)) fun hb => Has.pos (by omega) (Has.ret (.inl ⟨?_, ?_⟩)))
      · unfold okI; omega
      · unfold okI; omega
      · rw [w6_in (by omega)]
theorem muldiv_ok (a b c : Int) (ha : okI a) (hb : okI b) (hc : 1 ≤ c ∧ c ≤ 9223372036854775807) :
    Has (num_MulDiv a b c) fun r => (okI (a * b / c) ∧ r = (a * b / c, 0)) ∨ (¬ okI (a * b / c) ∧ r = (0, 2)) := by
  unfold num_MulDiv
  refine (product_ok a b ha hb).bind fun w ⟨w1, w2, w3, w4⟩ => (wdiv_ok w c w1 (by omega) hc).bind fun r hr => Has.ret ?_
  rw [w2] at hr
  exact hr
end Lf
/- The square root, rounded down. -/
namespace Lf
open Go Go.Abs
set_option linter.unusedVariables false
set_option linter.unusedSimpArgs false
/-- r is the square root of n, rounded down. -/
structure isRt (n r : Int) : Prop where
  r0 : 0 ≤ r
  lo : r * r ≤ n
  hi : n < (r + 1) * (r + 1)
theorem sq_lt {a b : Int} (a0 : 0 ≤ a) (b0 : 0 ≤ b) (h : a * a < b * b) : a < b := by
  rcases Int.lt_or_le a b with h1 | h1
  · exact h1
  · have p := Int.mul_le_mul h1 h1 b0 a0
    omega
theorem sq_le {a b : Int} (a0 : 0 ≤ a) (h : a ≤ b) : a * a ≤ b * b := Int.mul_le_mul h h a0 (by omega)
theorem isRt.mono {n m r s : Int} (h : isRt n r) (k : isRt m s) (hn : n ≤ m) : r ≤ s := by
  have := sq_lt (a := r) (b := s + 1) h.r0 (by have := k.r0; omega) (by have := h.lo; have := k.hi; omega)
  omega
theorem isRt.uniq {n r s : Int} (h : isRt n r) (k : isRt n s) : r = s := by
  have := h.mono k (Int.le_refl _); have := k.mono h (Int.le_refl _); omega
theorem or_bit {r : Int} (k : Nat) (hk : k ≤ 62) (h0 : 0 ≤ r) (hr : ∃ q, r = q * 2 ^ (k + 1)) (h1 : r + 2 ^ k < 18446744073709551616) : IntKind.wrap .u64 ((BitVec.ofInt 64 r ||| BitVec.ofInt 64 (2 ^ k)).toNat : Int) = r + 2 ^ k := by
  obtain ⟨q, rfl⟩ := hr
  have p : (0 : Int) < 2 ^ k := Int.pow_pos (by decide)
  have e : q * 2 ^ (k + 1) = (q * 2) * 2 ^ k := by rw [Int.pow_succ, Int.mul_comm (2 ^ k) 2, Int.mul_assoc]
  have q0 : 0 ≤ q := by
    have p2 : (0 : Int) < 2 ^ (k + 1) := Int.pow_pos (by decide)
    rcases Int.lt_or_le q 0 with h | h
    · have := Int.mul_lt_mul_of_pos_right h p2; omega
    · exact h
  have k1 : k < k + 1 := by omega
  rw [or_add (x := q) (y := 2 ^ k) (k + 1) q0 ⟨by omega, by rw [Int.pow_succ]; omega⟩ h1 h0]
theorem sqrt_step {n r : Int} {k : Nat} (hn : 0 ≤ n ∧ n ≤ 9223372036854775807) (h0 : 0 ≤ r) (hr : ∃ q, r = q * 2 ^ (k + 1)) (h1 : r * r ≤ n) (h2 : n < (r + 2 ^ (k + 1)) * (r + 2 ^ (k + 1))) (hk : k ≤ 62) (hb : r + 2 ^ k ≤ 9223372036854775808) :
    ∃ s, num_SqrtMul.l1 (NU64.mk (n / 18446744073709551616), NU64.mk (n % 18446744073709551616)) (r, 2 ^ k) = some (.next (s, Int.fdiv (2 ^ k) (2 ^ 1))) ∧ (s = r ∧ n < (r + 2 ^ k) * (r + 2 ^ k) ∨ s = r + 2 ^ k ∧ (r + 2 ^ k) * (r + 2 ^ k) ≤ n) := by
  have p : (0 : Int) < 2 ^ k := Int.pow_pos (by decide)
  have eo := or_bit k hk h0 hr (by omega)
  have e1 : n / 18446744073709551616 = 0 := by omega
  have e2 : n % 18446744073709551616 = n := by omega
  obtain ⟨m, em, rfl⟩ := mul64_ok (r + 2 ^ k) (r + 2 ^ k) ⟨by omega, by omega⟩ ⟨by omega, by omega⟩
  have sq0 : 0 ≤ (r + 2 ^ k) * (r + 2 ^ k) := Int.mul_nonneg (by omega) (by omega)
  generalize hS : (r + 2 ^ k) * (r + 2 ^ k) = S at *
  unfold num_SqrtMul.l1
  simp only []
  rw [if_pos (by simp; exact p), eo]
  simp only [letF]
  rw [em]
  simp only [Option.bind_some, e1, e2]
  by_cases hle : S ≤ n
  · have g1 : S / 18446744073709551616 = 0 := by omega
    have g2 : S % 18446744073709551616 = S := by omega
    refine ⟨r + 2 ^ k, ?_, .inr ⟨rfl, hle⟩⟩
    simp [g1, g2, hle]
  · refine ⟨r, ?_, .inl ⟨rfl, by omega⟩⟩
    have g : ¬ S / 18446744073709551616 < 0 := by omega
    by_cases g1 : S / 18446744073709551616 = 0
    · have g2 : S % 18446744073709551616 = S := by omega
      simp [g, g1, g2, hle]
    · simp [g, g1]
theorem fdiv_half (k : Nat) : Int.fdiv (2 ^ (k + 1)) (2 ^ 1) = 2 ^ k := by
  rw [fdiv_pow, Int.pow_succ]; simp
theorem pow62 {k : Nat} (h : k ≤ 62) : (2 : Int) ^ k ≤ 4611686018427387904 := by
  have h1 : 2 ^ k ≤ 4611686018427387904 := Nat.le_trans (Nat.pow_le_pow_right (n := 2) (by decide) h) (by decide)
  have e : ((2 ^ k : Nat) : Int) = 2 ^ k := by simp
  rw [← e]
  exact Int.ofNat_le.2 h1
theorem sqrt_ok (n : Int) (hn : 0 ≤ n ∧ n ≤ 9223372036854775807) : Has (num_Sqrt n) fun r => isRt n r := by
  unfold num_Sqrt
  refine Has.bind (P := fun r => isRt n r) ?_ fun r hr => Has.ret hr
  unfold num_SqrtMul
  refine Has.bind (P := fun z => z = false) (Has.neg (by simp; omega) (Has.ret (decide_eq_false (by decide)))) fun z hz => Has.neg (by rw [hz]; decide) ?_
  rw [wu_in (n := n) (by omega), wu_in (n := 1) (by decide)]
  obtain ⟨m, em, rfl⟩ := mul64_ok n 1 ⟨by omega, by omega⟩ ⟨by decide, by decide⟩
  rw [em]
  simp only [Option.bind_some, Int.mul_one]
  refine Has.bind (P := fun r => isRt n r ∧ r ≤ 9223372036854775807) ?_ fun r ⟨hr, r1⟩ => Has.ret (by have := hr.r0; rw [w6_in (by omega)]; exact hr)
  have e63 : (2 : Int) ^ (62 + 1) * 2 ^ (62 + 1) = 85070591730234615865843651857942052864 := by decide
  refine Has.loop (fun s : Int × Int => 0 ≤ s.1 ∧ s.1 * s.1 ≤ n ∧ ((∃ k : Nat, k ≤ 62 ∧ s.2 = 2 ^ k ∧ (∃ q, s.1 = q * 2 ^ (k + 1)) ∧ n < (s.1 + 2 ^ (k + 1)) * (s.1 + 2 ^ (k + 1))) ∨ (s.2 = 0 ∧ n < (s.1 + 1) * (s.1 + 1)))) (fun s => s.2.toNat) (fun r => isRt n r ∧ r ≤ 9223372036854775807) ⟨Int.le_refl _, hn.1, .inl ⟨62, Nat.le_refl _, rfl, ⟨0, rfl⟩, by simp only [Int.zero_add]; omega⟩⟩ (by decide) fun s ⟨s0, s1, s2⟩ => ?_
  have sb : s.1 < 3037000500 := sq_lt s0 (by decide) (by omega)
  rcases s2 with ⟨k, hk, e, hq, hh⟩ | ⟨e, hh⟩
  · obtain ⟨a, b⟩ := s
    simp only [] at *
    subst e
    have pk := pow62 hk
    have pp : (0 : Int) < 2 ^ k := Int.pow_pos (by decide)
    obtain ⟨t, et, ht⟩ := sqrt_step hn s0 hq s1 hh hk (by omega)
    refine Has.eq et ?_
    cases k with
    | zero =>
      have ez : Int.fdiv (2 ^ 0) (2 ^ 1) = 0 := by decide
      rw [ez]
      rcases ht with ⟨rfl, ht⟩ | ⟨rfl, ht⟩
      · exact .next ⟨s0, s1, .inr ⟨rfl, by simpa using ht⟩⟩ (by simp)
      · refine .next ⟨by simp only []; omega, ht, .inr ⟨rfl, ?_⟩⟩ (by simp)
        have e1 : (2 : Int) ^ (0 + 1) = 2 := by decide
        have e0 : (2 : Int) ^ 0 = 1 := by decide
        rw [e1] at hh
        simp only [e0]
        rw [Int.add_assoc]; exact hh
    | succ k =>
      rw [fdiv_half]
      have lt : (2 : Int) ^ k < 2 ^ (k + 1) := by rw [Int.pow_succ]; have : (0 : Int) < 2 ^ k := Int.pow_pos (by decide); omega
      have pk0 : (0 : Int) < 2 ^ k := Int.pow_pos (by decide)
      have mu : (2 ^ k : Int).toNat < (2 ^ (k + 1) : Int).toNat := by omega
      rcases ht with ⟨rfl, ht⟩ | ⟨rfl, ht⟩
      · obtain ⟨q, hq⟩ := hq
        refine .next ⟨s0, s1, .inl ⟨k, by omega, rfl, ⟨q * 2, ?_⟩, ht⟩⟩ mu
        simp only []
        rw [hq, Int.pow_succ 2 (k + 1), Int.mul_assoc, Int.mul_comm 2]
      · obtain ⟨q, hq⟩ := hq
        refine .next ⟨by simp only []; omega, ht, .inl ⟨k, by omega, rfl, ⟨q * 2 + 1, ?_⟩, ?_⟩⟩ mu
        · simp only []
          rw [hq, Int.pow_succ 2 (k + 1), Int.add_mul, Int.mul_assoc, Int.mul_comm 2, Int.one_mul]
        · simp only []
          have e2 : a + 2 ^ (k + 1) + 2 ^ (k + 1) = a + 2 ^ (k + 1 + 1) := by rw [Int.pow_succ 2 (k + 1)]; omega
          rw [e2]; exact hh
  · unfold num_SqrtMul.l1
    rw [e]
    refine Has.neg (by decide) (Has.ret (.done ⟨⟨s0, s1, hh⟩, by omega⟩))
end Lf
/- Loops of few rounds, round by round. -/
namespace Lf
open Go Go.Abs
set_option linter.unusedVariables false
inductive Run {S O : Type} (body : S → Option (Step S O)) : S → Nat → O → Prop
  | done {s : S} {o : O} : body s = some (.done o) → Run body s 0 o
  | next {s s' : S} {n : Nat} {o : O} : body s = some (.next s') → Run body s' n o → Run body s (n + 1) o
theorem Run.iter {S O : Type} {body : S → Option (Step S O)} : ∀ {n : Nat} {s : S} {o : O}, Run body s n o → ∀ k, n < k → iterF body k s = some o
  | _, _, _, .done h, 0, hk => by omega
  | _, _, _, .done h, k + 1, _ => by unfold iterF; rw [h]
  | _, _, _, .next h r, 0, hk => by omega
  | _, _, _, .next h r, k + 1, hk => by unfold iterF; rw [h]; exact r.iter k (by omega)
theorem Run.ok {S O : Type} {body : S → Option (Step S O)} {n : Nat} {s : S} {o : O} (h : Run body s n o) (hn : n < 10000000000000000000000000000000000000000) : loopF body s = some o := h.iter _ hn
end Lf
/- The smaller and the greater one of two numbers. -/
namespace Lf
open Go Go.Abs
set_option linter.unusedVariables false
set_option linter.unusedSimpArgs false
theorem mn2_min (a b : Int) : mn2 a b = min a b := by rcases mn2_def a b with ⟨e, h⟩ | ⟨e, h⟩ <;> rw [e] <;> omega
theorem mx2_max (a b : Int) : mx2 a b = max a b := by rcases mx2_def a b with ⟨e, h⟩ | ⟨e, h⟩ <;> rw [e] <;> omega
end Lf
/- The pull of the sun, and a day's step of a body. -/
namespace Lf
open Go Go.Abs
set_option linter.unusedVariables false
set_option linter.unusedSimpArgs false
/-- The pull's size along an axis. -/
def mag (a r : Int) : Int := 9007199254740992 * a / r / (r * r)
def partZ (x r : Int) : Int := if x > 0 then -mag x r else mag (-x) r
theorem div_less {x r s : Int} (x0 : 0 ≤ x) (s0 : 0 < s) (h : s ≤ r) : x / r ≤ x / s := by
  rw [Int.le_ediv_iff_mul_le s0]
  have q0 := Int.ediv_nonneg x0 (show 0 ≤ r by omega)
  have a := Int.mul_le_mul_of_nonneg_left h q0
  have b := Int.ediv_mul_le x (show r ≠ 0 by omega)
  omega
theorem mag_mono {a b r s : Int} (a0 : 0 ≤ a) (hab : a ≤ b) (s0 : 0 < s) (h : s ≤ r) : 0 ≤ mag a r ∧ mag a r ≤ mag b s := by
  unfold mag
  have rr : s * s ≤ r * r := Int.mul_le_mul h h (by omega) (by omega)
  have ss : 0 < s * s := Int.mul_pos s0 s0
  have u0 : 0 ≤ 9007199254740992 * a / r := Int.ediv_nonneg (by omega) (by omega)
  have u1 := Int.ediv_le_ediv (show 0 < r by omega) (show 9007199254740992 * a ≤ 9007199254740992 * b by omega)
  have u2 := div_less (x := 9007199254740992 * b) (by omega) s0 h
  refine ⟨Int.ediv_nonneg u0 (by omega), ?_⟩
  have v1 := Int.ediv_le_ediv (show 0 < r * r by omega) (show 9007199254740992 * a / r ≤ 9007199254740992 * b / s by omega)
  have v2 := div_less (x := 9007199254740992 * b / s) (by omega) ss rr
  omega
theorem mag_bd {a r : Int} (a0 : 0 ≤ a) (a1 : a ≤ 33554432) (r0 : 65536 ≤ r) : 0 ≤ mag a r ∧ mag a r ≤ 1073741824 := by
  have h := mag_mono a0 a1 (s := 65536) (by decide) r0
  have e : mag 33554432 65536 = 1073741824 := by decide
  omega
theorem skyPartB {x r : Int} (h1 : -33554432 ≤ x) (h2 : x ≤ 33554432) (r0 : 65536 ≤ r) (r1 : r ≤ 67108864) : sky_Pull_1 x r = some (partZ x r) ∧ -1073741824 ≤ partZ x r ∧ partZ x r ≤ 1073741824 := by
  have rr0 : 65536 * 65536 ≤ r * r := Int.mul_le_mul r0 r0 (by decide) (by omega)
  have rr1 : r * r ≤ 67108864 * 67108864 := Int.mul_le_mul r1 r1 (by omega) (by decide)
  have e : mx2 x (w6 (0 - x)) = max x (-x) := by rw [w6_in (by omega), mx2_max]; omega
  have m0 : 0 ≤ max x (-x) ∧ max x (-x) ≤ 33554432 := by omega
  have u0 : 0 ≤ 9007199254740992 * max x (-x) / r := Int.ediv_nonneg (by omega) (by omega)
  have u1 : 9007199254740992 * max x (-x) / r ≤ 4611686018427387904 := by
    have a := Int.ediv_le_ediv (show 0 < r by omega) (show 9007199254740992 * max x (-x) ≤ 9007199254740992 * 33554432 by omega)
    have b := div_less (x := 9007199254740992 * 33554432) (by decide) (show (0 : Int) < 65536 by decide) r0
    have c : (9007199254740992 : Int) * 33554432 / 65536 = 4611686018427387904 := by decide
    omega
  have v0 : 0 ≤ mag (max x (-x)) r ∧ mag (max x (-x)) r ≤ 1073741824 := mag_bd m0.1 m0.2 r0
  have pz : partZ x r = if x > 0 then -mag (max x (-x)) r else mag (max x (-x)) r := by
    unfold partZ
    split
    · rw [show max x (-x) = x from by omega]
    · rw [show max x (-x) = -x from by omega]
  refine ⟨?_, by rw [pz]; split <;> omega⟩
  apply Has.val
  unfold sky_Pull_1
  rw [e, w6_in (n := r * r) (by omega)]
  refine (muldiv_ok 9007199254740992 (max x (-x)) r (by unfold okI; omega) (by unfold okI; omega) (by omega)).bind fun q hq => ?_
  have hq : q = (9007199254740992 * max x (-x) / r, 0) := by
    rcases hq with ⟨_, h⟩ | ⟨h, _⟩
    · exact h
    · exfalso; apply h; unfold okI; omega
  rw [hq]
  simp only []
  rw [Int.tdiv_eq_ediv_of_nonneg u0]
  have em : 9007199254740992 * max x (-x) / r / (r * r) = mag (max x (-x)) r := rfl
  rw [em, w6_in (n := mag (max x (-x)) r) (by omega), pz]
  refine Has.chk (by omega) (Has.ite (fun h => ?_) fun h => ?_)
  · rw [if_pos (of_decide_eq_true h), w6_in (by omega)]; exact Has.ret (by omega)
  · rw [if_neg fun q => h (decide_eq_true q)]; exact Has.ret rfl
theorem skyPart_ok {x r : Int} (h1 : -33554432 ≤ x) (h2 : x ≤ 33554432) (r0 : 65536 ≤ r) (r1 : r ≤ 67108864) : sky_Pull_1 x r = some (partZ x r) := (skyPartB h1 h2 r0 r1).1
/-! ### one day of a body -/
def inV (v : Vec) : Prop := (-4194304 ≤ v.X ∧ v.X ≤ 4194304) ∧ (-4194304 ≤ v.Y ∧ v.Y ≤ 4194304) ∧ (-4194304 ≤ v.Z ∧ v.Z ≤ 4194304)
instance (v : Vec) : Decidable (inV v) := inferInstanceAs (Decidable (_ ∧ _))
theorem gtv_0 (a b c : Int) : gt ([a, b, c] : List Int) 0 = a := rfl
theorem gtv_1 (a b c : Int) : gt ([a, b, c] : List Int) 1 = b := rfl
theorem gtv_2 (a b c : Int) : gt ([a, b, c] : List Int) 2 = c := rfl
theorem within_round {v : Vec} {k k' x : Int} (hk : (0 : Int) ≤ k ∧ k < 3) (e : gt ([v.X, v.Y, v.Z] : List Int) k = x) (ek : w6 (k + 1) = k') :
    (-4194304 ≤ x ∧ x ≤ 4194304 → sky_within.l1 v 4194304 k = some (.next k')) ∧ (¬ (-4194304 ≤ x ∧ x ≤ 4194304) → sky_within.l1 v 4194304 k = some (.done (.done false))) := by
  have hl : k < (([v.X, v.Y, v.Z] : List Int).length : Int) := hk.2
  have em : w6 (0 - 4194304) = -4194304 := by decide
  unfold sky_within.l1
  rw [if_pos (decide_eq_true hk.2), if_pos ⟨hk.1, hl⟩, e, ek, em]
  simp only [letF]
  constructor
  · intro h
    have g1 : ¬ x < -4194304 := by omega
    have g2 : ¬ x > 4194304 := by omega
    simp [g1, g2]
  · intro h
    by_cases g1 : x < -4194304
    · simp [g1]
    · have g2 : x > 4194304 := by omega
      simp [g1, g2]
theorem within_ok (v : Vec) : sky_within v 4194304 = some (decide (inV v)) := by
  obtain ⟨x1, x2⟩ := within_round (v := v) (k := 0) (k' := 1) (x := v.X) (by decide) rfl (by decide)
  obtain ⟨y1, y2⟩ := within_round (v := v) (k := 1) (k' := 2) (x := v.Y) (by decide) rfl (by decide)
  obtain ⟨z1, z2⟩ := within_round (v := v) (k := 2) (k' := 3) (x := v.Z) (by decide) rfl (by decide)
  unfold sky_within
  by_cases n1 : -4194304 ≤ v.X ∧ v.X ≤ 4194304
  · by_cases n2 : -4194304 ≤ v.Y ∧ v.Y ≤ 4194304
    · by_cases n3 : -4194304 ≤ v.Z ∧ v.Z ≤ 4194304
      · rw [(Run.next (x1 n1) (Run.next (y1 n2) (Run.next (z1 n3) (Run.done (o := .next ()) rfl)))).ok (by decide), decide_eq_true (show inV v from ⟨n1, n2, n3⟩)]; rfl
      · rw [(Run.next (x1 n1) (Run.next (y1 n2) (Run.done (z2 n3)))).ok (by decide), decide_eq_false (show ¬ inV v from fun h => n3 h.2.2)]; rfl
    · rw [(Run.next (x1 n1) (Run.done (y2 n2))).ok (by decide), decide_eq_false (show ¬ inV v from fun h => n2 h.2.1)]; rfl
  · rw [(Run.done (x2 n1)).ok (by decide), decide_eq_false (show ¬ inV v from fun h => n1 h.1)]; rfl
/-- The pull at a place. -/
def isG (v g : Vec) : Prop := ∃ r, isRt (v.X * v.X + v.Y * v.Y + v.Z * v.Z) r ∧ ((r < 65536 ∧ g = ⟨0, 0, 0⟩) ∨ (65536 ≤ r ∧ g = ⟨partZ v.X r, partZ v.Y r, partZ v.Z r⟩))
theorem sq44 {x : Int} (h : -4194304 ≤ x ∧ x ≤ 4194304) : 0 ≤ x * x ∧ x * x ≤ 17592186044416 := by
  rcases Int.le_total 0 x with h0 | h0
  · have p := Int.mul_nonneg h0 h0
    have q := Int.mul_le_mul h.2 h.2 h0 (by decide)
    omega
  · have e : x * x = (-x) * (-x) := by rw [Int.neg_mul_neg]
    have p := Int.mul_nonneg (a := -x) (b := -x) (by omega) (by omega)
    have q := Int.mul_le_mul (a := -x) (b := -x) (c := 4194304) (d := 4194304) (by omega) (by omega) (by omega) (by decide)
    omega
theorem isG.bd {v g : Vec} (hv : inV v) (h : isG v g) : (-1073741824 ≤ g.X ∧ g.X ≤ 1073741824) ∧ (-1073741824 ≤ g.Y ∧ g.Y ≤ 1073741824) ∧ (-1073741824 ≤ g.Z ∧ g.Z ≤ 1073741824) := by
  obtain ⟨r, hr, h⟩ := h
  obtain ⟨⟨a1, a2⟩, ⟨b1, b2⟩, ⟨c1, c2⟩⟩ := hv
  have s1 := sq44 ⟨a1, a2⟩; have s2 := sq44 ⟨b1, b2⟩; have s3 := sq44 ⟨c1, c2⟩
  rcases h with ⟨_, rfl⟩ | ⟨r0, rfl⟩
  · decide
  · have r1 : r < 67108864 := sq_lt hr.r0 (by decide) (by have := hr.lo; omega)
    exact ⟨(skyPartB (by omega) (by omega) r0 (by omega)).2, (skyPartB (by omega) (by omega) r0 (by omega)).2, (skyPartB (by omega) (by omega) r0 (by omega)).2⟩
theorem skyPull_ok {v : Vec} (hv : inV v) : Has (sky_Pull v) fun g => isG v g := by
  have hv0 := hv
  obtain ⟨⟨a1, a2⟩, ⟨b1, b2⟩, ⟨c1, c2⟩⟩ := hv
  have s1 := sq44 ⟨a1, a2⟩; have s2 := sq44 ⟨b1, b2⟩; have s3 := sq44 ⟨c1, c2⟩
  unfold sky_Pull
  rw [within_ok, decide_eq_true hv0, w6_in (n := v.X * v.X) (by omega), w6_in (n := v.Y * v.Y) (by omega), w6_in (n := v.X * v.X + v.Y * v.Y) (by omega), w6_in (n := v.Z * v.Z) (by omega), w6_in (n := v.X * v.X + v.Y * v.Y + v.Z * v.Z) (by omega)]
  simp only [Option.bind_some, Bool.not_true, Bool.false_eq_true, if_false]
  refine Has.letF ((sqrt_ok _ (by omega)).bind fun r hr => ?_)
  have r1 : r < 67108864 := sq_lt hr.r0 (by decide) (by have := hr.lo; omega)
  refine Has.ite (fun h => Has.ret ⟨r, hr, .inl ⟨of_decide_eq_true h, rfl⟩⟩) fun h => ?_
  have r0 : 65536 ≤ r := by have : ¬ r < 65536 := fun q => h (decide_eq_true q); omega
  rw [skyPart_ok (by omega) (by omega) r0 (by omega), skyPart_ok (by omega) (by omega) r0 (by omega), skyPart_ok (by omega) (by omega) r0 (by omega)]
  exact Has.ret ⟨r, hr, .inr ⟨r0, rfl⟩⟩
/-- The place a day later. -/
def nextV (was here g : Vec) : Vec := ⟨2 * here.X - was.X + g.X, 2 * here.Y - was.Y + g.Y, 2 * here.Z - was.Z + g.Z⟩
theorem skyStep_ok {was here : Vec} (hw : inV was) (hh : inV here) : Has (sky_Step was here) fun r => ∃ g, isG here g ∧ ((r.2 = 0 ∧ inV (nextV was here g) ∧ r.1 = nextV was here g) ∨ (r.2 = 18 ∧ ¬ inV (nextV was here g))) := by
  unfold sky_Step
  rw [within_ok, within_ok, decide_eq_true hw, decide_eq_true hh]
  simp only [Option.bind_some, Bool.not_true, Bool.false_eq_true, if_false]
  refine (skyPull_ok hh).bind fun g hg => ?_
  have bg := hg.bd hh
  obtain ⟨⟨a1, a2⟩, ⟨b1, b2⟩, ⟨c1, c2⟩⟩ := hh
  obtain ⟨⟨d1, d2⟩, ⟨e1, e2⟩, ⟨f1, f2⟩⟩ := hw
  rw [w6_in (n := 2 * here.X) (by omega), w6_in (n := 2 * here.X - was.X) (by omega), w6_in (n := 2 * here.X - was.X + g.X) (by omega), w6_in (n := 2 * here.Y) (by omega), w6_in (n := 2 * here.Y - was.Y) (by omega), w6_in (n := 2 * here.Y - was.Y + g.Y) (by omega), w6_in (n := 2 * here.Z) (by omega), w6_in (n := 2 * here.Z - was.Z) (by omega), w6_in (n := 2 * here.Z - was.Z + g.Z) (by omega)]
  have en : Vec.mk (2 * here.X - was.X + g.X) (2 * here.Y - was.Y + g.Y) (2 * here.Z - was.Z + g.Z) = nextV was here g := rfl
  rw [en, within_ok]
  simp only [Option.bind_some]
  by_cases h : inV (nextV was here g)
  · rw [decide_eq_true h]; exact Has.ret ⟨g, hg, .inl ⟨rfl, h, rfl⟩⟩
  · rw [decide_eq_false h]; exact Has.ret ⟨g, hg, .inr ⟨rfl, h⟩⟩
theorem moves_ok {b : Body} (h1 : inV b.Was) (h2 : inV b.Here) : sky_moves b = some true := by
  unfold sky_moves
  rw [within_ok, within_ok, decide_eq_true h1, decide_eq_true h2]; rfl
end Lf
/- Places and bodies that are drawn. -/
namespace Lf
open Go Go.Abs
set_option linter.unusedVariables false
set_option linter.unusedSimpArgs false
theorem tdiv_bd {x k m : Int} (hk : 0 < k) (h1 : -m ≤ x) (h2 : x ≤ m) : -m ≤ Int.tdiv x k ∧ Int.tdiv x k ≤ m := by
  rcases Int.le_total 0 x with h | h
  · rw [Int.tdiv_eq_ediv_of_nonneg h]
    have a := Int.ediv_nonneg h (Int.le_of_lt hk)
    have b := Int.ediv_le_self k h
    omega
  · have e : Int.tdiv x k = -((-x) / k) := by rw [← Int.tdiv_eq_ediv_of_nonneg (a := -x) (by omega), Int.neg_tdiv, Int.neg_neg]
    have a := Int.ediv_nonneg (a := -x) (by omega) (Int.le_of_lt hk)
    have b := Int.ediv_le_self k (a := -x) (by omega)
    omega
theorem place_ok (s : spymake_Stream) (dist : Int) (hs : okS s) (ha : s.at_ ≤ 4611686018427000000) (d0 : 1 ≤ dist) (d1 : dist ≤ 4) :
    Has (Stream_Place s dist) fun r => inV r.1 ∧ (-(dist * 1048576) ≤ r.1.X ∧ r.1.X ≤ dist * 1048576) ∧ (-(dist * 1048576) ≤ r.1.Y ∧ r.1.Y ≤ dist * 1048576) ∧ (-(dist * 1048576) ≤ r.1.Z ∧ r.1.Z ≤ dist * 1048576) ∧ after s r.2 3 := by
  unfold Stream_Place
  rw [Int.zero_sub, w6_in (n := dist * 1048576) (by omega), w6_in (n := -(dist * 1048576)) (by omega)]
  refine (range_ok s _ _ hs (by omega) (by omega) (by omega) (by omega)).bind fun a ⟨a1, a2, a3⟩ => ?_
  have hA := a3.ok hs (by omega); have hhA := a3.hi
  refine (range_ok a.2 _ _ hA (by omega) (by omega) (by omega) (by omega)).bind fun b ⟨b1, b2, b3⟩ => ?_
  have hB := b3.ok hA (by omega); have hhB := b3.hi
  refine (range_ok b.2 _ _ hB (by omega) (by omega) (by omega) (by omega)).bind fun c ⟨c1, c2, c3⟩ => ?_
  have q1 := tdiv_bd (k := 4) (by decide) c1 c2
  rw [w6_in (by omega)]
  exact Has.ret ⟨⟨by simp only []; omega, by simp only []; omega, by simp only []; omega⟩, ⟨a1, a2⟩, ⟨b1, b2⟩, q1, ((a3.trans b3).trans c3).more (by omega)⟩
theorem rates_at (v : Int) (h : 0 ≤ v ∧ v < 6) : 50 ≤ gt ([50, 500, 5000, 5000, 40000, 1048577] : List Int) v ∧ gt ([50, 500, 5000, 5000, 40000, 1048577] : List Int) v ≤ 1048577 := by
  have : v = 0 ∨ v = 1 ∨ v = 2 ∨ v = 3 ∨ v = 4 ∨ v = 5 := by omega
  rcases this with rfl | rfl | rfl | rfl | rfl | rfl <;> decide
theorem rate_ok (s : spymake_Stream) (hs : okS s) (ha : s.at_ ≤ 4611686018427001000) : Has (Stream_rate s) fun r => 0 ≤ r.1 ∧ r.1 ≤ 1048576 ∧ after s r.2 2 := by
  unfold Stream_rate
  refine (next_ok s 6 hs (by omega) (by omega)).bind fun a ⟨a1, a2, a3⟩ => ?_
  have hA := a3.ok hs (by omega); have hhA := a3.hi
  have g := rates_at a.1 ⟨a1, a2⟩
  refine Has.chk ⟨a1, a2⟩ ((next_ok a.2 _ hA (by omega) (by omega)).bind fun b ⟨b1, b2, b3⟩ => Has.ret ⟨b1, by omega, (a3.trans b3).more (by omega)⟩)
theorem runs_at (v : Int) (h : 0 ≤ v ∧ v < 3) : 1000 ≤ gt ([1000, 90000, 150000] : List Int) v ∧ gt ([1000, 90000, 150000] : List Int) v ≤ 150000 := by
  have : v = 0 ∨ v = 1 ∨ v = 2 := by omega
  rcases this with rfl | rfl | rfl <;> decide
theorem clamp_ok (v : Vec) : Has (spymake_within v) fun r => inV r ∧ (inV v → r = v) := by
  have c : ∀ x : Int, -4194304 ≤ mx2 (-4194304) (mn2 4194304 x) ∧ mx2 (-4194304) (mn2 4194304 x) ≤ 4194304 ∧ (-4194304 ≤ x ∧ x ≤ 4194304 → mx2 (-4194304) (mn2 4194304 x) = x) := fun x => by
    rw [mx2_max, mn2_min]; omega
  unfold spymake_within spymake_within_1
  simp only [Option.bind_some]
  refine Has.ret ⟨⟨⟨(c v.X).1, (c v.X).2.1⟩, ⟨(c v.Y).1, (c v.Y).2.1⟩, ⟨(c v.Z).1, (c v.Z).2.1⟩⟩, fun h => ?_⟩
  rw [(c v.X).2.2 h.1, (c v.Y).2.2 h.2.1, (c v.Z).2.2 h.2.2]
theorem body_ok (s : spymake_Stream) (id : Int) (here : Vec) (hs : okS s) (ha : s.at_ ≤ 4611686018427000000) : Has (Stream_Body s id here) fun r => inV r.1.Was ∧ inV r.1.Here ∧ (inV here → r.1.Here = here) ∧ r.1.ID = id ∧ (0 ≤ r.1.Rate ∧ r.1.Rate ≤ 1048576) ∧ after s r.2 6 := by
  unfold Stream_Body
  refine (next_ok s 3 hs (by omega) (by omega)).bind fun a ⟨a1, a2, a3⟩ => Has.chk ⟨a1, a2⟩ ?_
  have hA := a3.ok hs (by omega); have hhA := a3.hi
  have g := runs_at a.1 ⟨a1, a2⟩
  rw [Int.zero_sub, w6_in (n := -(gt ([1000, 90000, 150000] : List Int) a.1)) (by omega)]
  refine (range_ok a.2 _ _ hA (by omega) (by omega) (by omega) (by omega)).bind fun b ⟨b1, b2, b3⟩ => ?_
  have hB := b3.ok hA (by omega); have hhB := b3.hi
  refine (range_ok b.2 _ _ hB (by omega) (by omega) (by omega) (by omega)).bind fun c ⟨c1, c2, c3⟩ => ?_
  have hC := c3.ok hB (by omega); have hhC := c3.hi
  refine (range_ok c.2 _ _ hC (by omega) (by omega) (by omega) (by omega)).bind fun d ⟨d1, d2, d3⟩ => ?_
  have hD := d3.ok hC (by omega); have hhD := d3.hi
  refine (clamp_ok _).bind fun e ⟨e1, e2⟩ => (clamp_ok here).bind fun f ⟨f1, f2⟩ => (rate_ok d.2 hD (by omega)).bind fun k ⟨k1, k2, k3⟩ => Has.ret ⟨e1, f1, f2, rfl, ⟨k1, k2⟩, ((((a3.trans b3).trans c3).trans d3).trans k3).more (by omega)⟩
end Lf
/- Where a body is at a time. -/
namespace Lf
open Go Go.Abs
set_option linter.unusedVariables false
set_option linter.unusedSimpArgs false
def stepF (w h : Vec) : Vec × Int := (sky_Step w h).getD (⟨0, 0, 0⟩, 0)
theorem isG.uniq {v g g' : Vec} (h : isG v g) (k : isG v g') : g = g' := by
  obtain ⟨r, hr, h⟩ := h
  obtain ⟨s, hs, k⟩ := k
  have e := hr.uniq hs
  subst e
  rcases h with ⟨h1, rfl⟩ | ⟨h1, rfl⟩ <;> rcases k with ⟨k1, rfl⟩ | ⟨k1, rfl⟩
  · rfl
  · omega
  · omega
  · rfl
theorem stepF_ok {w h : Vec} (hw : inV w) (hh : inV h) : sky_Step w h = some (stepF w h) ∧ ∃ g, isG h g ∧ (((stepF w h).2 = 0 ∧ inV (nextV w h g) ∧ (stepF w h).1 = nextV w h g) ∨ ((stepF w h).2 = 18 ∧ ¬ inV (nextV w h g))) := by
  obtain ⟨r, e, hr⟩ := skyStep_ok hw hh
  have : stepF w h = r := by unfold stepF; rw [e]; rfl
  rw [this]
  exact ⟨e, hr⟩
/-- A day's step can be taken back. -/
theorem step_back {w h : Vec} (hw : inV w) (hh : inV h) (e : (stepF h w).2 = 0) : stepF (stepF h w).1 w = (h, 0) := by
  obtain ⟨_, g, hg, h1⟩ := stepF_ok hh hw
  rcases h1 with ⟨_, i1, e1⟩ | ⟨e1, _⟩
  · rw [e1]
    obtain ⟨_, g', hg', h2⟩ := stepF_ok i1 hw
    have eg := hg'.uniq hg
    subst eg
    have en : nextV (nextV h w g') w g' = h := by
      obtain ⟨x, y, z⟩ := h
      unfold nextV
      simp only [Vec.mk.injEq]
      omega
    rw [en] at h2
    rcases h2 with ⟨a, _, b⟩ | ⟨_, b⟩
    · exact Prod.ext b a
    · exact absurd hh b
  · rw [e1] at e; cases e
def fwd (b : Body) : Nat → Vec × Vec × Int
  | 0 => (b.Was, b.Here, 0)
  | k + 1 => if (fwd b k).2.2 = 0 then ((fwd b k).2.1, (stepF (fwd b k).1 (fwd b k).2.1).1, (stepF (fwd b k).1 (fwd b k).2.1).2) else fwd b k
def bwd (b : Body) : Nat → Vec × Vec × Int
  | 0 => (b.Was, b.Here, 0)
  | k + 1 => if (bwd b k).2.2 = 0 then ((stepF (bwd b k).2.1 (bwd b k).1).1, (bwd b k).1, (stepF (bwd b k).2.1 (bwd b k).1).2) else bwd b k
structure okB (b : Body) : Prop where
  w : inV b.Was
  h : inV b.Here
theorem fwd_in {b : Body} (hb : okB b) : ∀ k, (fwd b k).2.2 = 0 → inV (fwd b k).1 ∧ inV (fwd b k).2.1
  | 0, _ => ⟨hb.w, hb.h⟩
  | k + 1, h => by
    unfold fwd at h ⊢
    by_cases e : (fwd b k).2.2 = 0
    · rw [if_pos e] at h ⊢
      obtain ⟨i1, i2⟩ := fwd_in hb k e
      obtain ⟨_, g, _, h1⟩ := stepF_ok i1 i2
      rcases h1 with ⟨_, i3, e3⟩ | ⟨e3, _⟩
      · exact ⟨i2, by simp only []; rw [e3]; exact i3⟩
      · simp only [] at h; rw [e3] at h; cases h
    · rw [if_neg e] at h; exact absurd h e
theorem bwd_in {b : Body} (hb : okB b) : ∀ k, (bwd b k).2.2 = 0 → inV (bwd b k).1 ∧ inV (bwd b k).2.1
  | 0, _ => ⟨hb.w, hb.h⟩
  | k + 1, h => by
    unfold bwd at h ⊢
    by_cases e : (bwd b k).2.2 = 0
    · rw [if_pos e] at h ⊢
      obtain ⟨i1, i2⟩ := bwd_in hb k e
      obtain ⟨_, g, _, h1⟩ := stepF_ok i2 i1
      rcases h1 with ⟨_, i3, e3⟩ | ⟨e3, _⟩
      · exact ⟨by simp only []; rw [e3]; exact i3, i1⟩
      · simp only [] at h; rw [e3] at h; cases h
    · rw [if_neg e] at h; exact absurd h e
theorem fwd_err {b : Body} {k : Nat} (h : (fwd b k).2.2 ≠ 0) : ∀ m, fwd b (k + m) = fwd b k
  | 0 => rfl
  | m + 1 => by
    have e := fwd_err h m
    show (if (fwd b (k + m)).2.2 = 0 then _ else fwd b (k + m)) = _
    rw [e, if_neg h]
theorem bwd_err {b : Body} {k : Nat} (h : (bwd b k).2.2 ≠ 0) : ∀ m, bwd b (k + m) = bwd b k
  | 0 => rfl
  | m + 1 => by
    have e := bwd_err h m
    show (if (bwd b (k + m)).2.2 = 0 then _ else bwd b (k + m)) = _
    rw [e, if_neg h]
def pathF (b : Body) (d : Int) : Vec × Vec × Int := if d < 0 then bwd b (-d).toNat else fwd b d.toNat
theorem pathF_in {b : Body} (hb : okB b) {d : Int} (h : (pathF b d).2.2 = 0) : inV (pathF b d).1 ∧ inV (pathF b d).2.1 := by
  unfold pathF at h ⊢
  split at h
  · rename_i hd; rw [if_pos hd]; exact bwd_in hb _ h
  · rename_i hd; rw [if_neg hd]; exact fwd_in hb _ h
theorem skyPath_eq {b : Body} (hb : okB b) {d : Int} (d0 : -400 ≤ d) (d1 : d ≤ 400) : sky_Path b d = some (if (pathF b d).2.2 = 0 then pathF b d else (⟨0, 0, 0⟩, ⟨0, 0, 0⟩, (pathF b d).2.2)) := by
  apply Has.val
  unfold sky_Path
  rw [moves_ok hb.w hb.h]
  refine Has.bind (P := fun z => z = false) (Has.neg (by simp; omega) (Has.neg (by simp; omega) (Has.ret rfl))) fun z hz => Has.neg (by rw [hz]; decide) ?_
  have ends : ∀ (z : Vec × Vec × Int), z = pathF b d → Has (if (z.2.2 != 0) = true then some (Vec.mk 0 0 0, Vec.mk 0 0 0, z.2.2) else some (z.1, z.2.1, 0)) fun r : Vec × Vec × Int => r = (if (pathF b d).2.2 = 0 then pathF b d else (⟨0, 0, 0⟩, ⟨0, 0, 0⟩, (pathF b d).2.2)) := fun z hz => by
    rw [hz]
    refine Has.ite (fun h => Has.ret ?_) fun h => Has.ret ?_
    · have h : ¬ (pathF b d).2.2 = 0 := by simpa using h
      rw [if_neg h]
    · have h : (pathF b d).2.2 = 0 := by simpa using h
      rw [if_pos h]
      exact Prod.ext rfl (Prod.ext rfl h.symm)
  by_cases hd : d < 0
  · have ep : pathF b d = bwd b (-d).toNat := by unfold pathF; rw [if_pos hd]
    refine Has.bind (P := fun z : Vec × Vec × Int => z = (b.Was, b.Here, 0)) ?_ fun z hz => ?_
    · refine Has.loop (fun s : Vec × Vec × Int × Int => s = (b.Was, b.Here, 0, d)) (fun _ => 1) _ rfl (by decide) fun s hs => ?_
      rw [hs]
      unfold sky_Path.l1
      refine Has.bind (P := fun z => z = false) (Has.neg (by simp; omega) (Has.ret rfl)) fun z hz => Has.neg (by rw [hz]; decide) (Has.ret (.done rfl))
    · rw [hz]
      simp only []
      refine Has.bind (P := fun z : Vec × Vec × Int => z = pathF b d) ?_ ends
      rw [ep]
      refine Has.loop (fun s : Vec × Vec × Int × Int => d ≤ s.2.2.2 ∧ s.2.2.2 ≤ 0 ∧ (s.1, s.2.1, s.2.2.1) = bwd b (s.2.2.2 - d).toNat) (fun s => (-s.2.2.2).toNat) _ ⟨Int.le_refl _, by simp only []; omega, by simp only [Int.sub_self]; rfl⟩ (by simp only []; omega) fun s ⟨s0, s1, s2⟩ => ?_
      have e1 : s.1 = (bwd b (s.2.2.2 - d).toNat).1 := congrArg Prod.fst s2
      have e2 : s.2.1 = (bwd b (s.2.2.2 - d).toNat).2.1 := congrArg (fun x => x.2.1) s2
      have e3 : s.2.2.1 = (bwd b (s.2.2.2 - d).toNat).2.2 := congrArg (fun x => x.2.2) s2
      unfold sky_Path.l2
      refine Has.bind (P := fun z => z = decide (s.2.2.2 < 0 ∧ s.2.2.1 = 0)) (Has.ite (fun h => Has.ret ?_) fun h => Has.ret ?_) fun z hz => ?_
      · have h : s.2.2.2 < 0 := of_decide_eq_true h
        by_cases e : s.2.2.1 = 0 <;> simp [h, e]
      · have h : ¬ s.2.2.2 < 0 := fun q => h (decide_eq_true q)
        simp [h]
      · refine Has.ite (fun h => ?_) fun h => ?_
        · rw [hz] at h
          obtain ⟨h, e⟩ : s.2.2.2 < 0 ∧ s.2.2.1 = 0 := of_decide_eq_true h
          have e0 := e3.symm.trans e
          obtain ⟨i1, i2⟩ := bwd_in hb _ e0
          rw [e1, e2, (stepF_ok i2 i1).1, w6_in (n := s.2.2.2 + 1) (by omega)]
          refine Has.ret (.next ⟨by simp only []; omega, by simp only []; omega, ?_⟩ (by simp only []; omega))
          simp only []
          rw [show (s.2.2.2 + 1 - d).toNat = (s.2.2.2 - d).toNat + 1 from by omega]
          show _ = (if (bwd b (s.2.2.2 - d).toNat).2.2 = 0 then _ else _)
          rw [if_pos e0]
        · rw [hz] at h
          have h : ¬ (s.2.2.2 < 0 ∧ s.2.2.1 = 0) := fun q => h (decide_eq_true q)
          refine Has.ret (.done ?_)
          rw [s2]
          by_cases e0 : s.2.2.2 = 0
          · rw [e0, Int.zero_sub]
          · have er : (bwd b (s.2.2.2 - d).toNat).2.2 ≠ 0 := by rw [← e3]; intro q; exact h ⟨by omega, q⟩
            rw [show (-d).toNat = (s.2.2.2 - d).toNat + (-s.2.2.2).toNat from by omega, bwd_err er]
  · have ep : pathF b d = fwd b d.toNat := by unfold pathF; rw [if_neg hd]
    refine Has.bind (P := fun z : Vec × Vec × Int => z = pathF b d) ?_ fun z hz => ?_
    · rw [ep]
      refine Has.loop (fun s : Vec × Vec × Int × Int => 0 ≤ s.2.2.2 ∧ s.2.2.2 ≤ d ∧ (s.1, s.2.1, s.2.2.1) = fwd b (d - s.2.2.2).toNat) (fun s => s.2.2.2.toNat) _ ⟨by simp only []; omega, Int.le_refl _, by simp only [Int.sub_self]; rfl⟩ (by simp only []; omega) fun s ⟨s0, s1, s2⟩ => ?_
      have e1 : s.1 = (fwd b (d - s.2.2.2).toNat).1 := congrArg Prod.fst s2
      have e2 : s.2.1 = (fwd b (d - s.2.2.2).toNat).2.1 := congrArg (fun x => x.2.1) s2
      have e3 : s.2.2.1 = (fwd b (d - s.2.2.2).toNat).2.2 := congrArg (fun x => x.2.2) s2
      unfold sky_Path.l1
      refine Has.bind (P := fun z => z = decide (s.2.2.2 > 0 ∧ s.2.2.1 = 0)) (Has.ite (fun h => Has.ret ?_) fun h => Has.ret ?_) fun z hz => ?_
      · have h : s.2.2.2 > 0 := of_decide_eq_true h
        by_cases e : s.2.2.1 = 0 <;> simp [h, e]
      · have h : ¬ s.2.2.2 > 0 := fun q => h (decide_eq_true q)
        simp [h]
      · refine Has.ite (fun h => ?_) fun h => ?_
        · rw [hz] at h
          obtain ⟨h, e⟩ : s.2.2.2 > 0 ∧ s.2.2.1 = 0 := of_decide_eq_true h
          have e0 := e3.symm.trans e
          obtain ⟨i1, i2⟩ := fwd_in hb _ e0
          rw [e1, e2, (stepF_ok i1 i2).1, w6_in (n := s.2.2.2 - 1) (by omega)]
          refine Has.ret (.next ⟨by simp only []; omega, by simp only []; omega, ?_⟩ (by simp only []; omega))
          simp only []
          rw [show (d - (s.2.2.2 - 1)).toNat = (d - s.2.2.2).toNat + 1 from by omega]
          show _ = (if (fwd b (d - s.2.2.2).toNat).2.2 = 0 then _ else _)
          rw [if_pos e0]
        · rw [hz] at h
          have h : ¬ (s.2.2.2 > 0 ∧ s.2.2.1 = 0) := fun q => h (decide_eq_true q)
          refine Has.ret (.done ?_)
          rw [s2]
          by_cases e0 : s.2.2.2 = 0
          · rw [e0, Int.sub_zero]
          · have er : (fwd b (d - s.2.2.2).toNat).2.2 ≠ 0 := by rw [← e3]; intro q; exact h ⟨by omega, q⟩
            rw [show d.toNat = (d - s.2.2.2).toNat + s.2.2.2.toNat from by omega, fwd_err er]
    · refine Has.bind (P := fun y : Vec × Vec × Int => y = z) ?_ fun y hy => ends y (by rw [hy, hz])
      refine Has.loop (fun s : Vec × Vec × Int × Int => s = (z.1, z.2.1, z.2.2, d)) (fun _ => 1) _ rfl (by decide) fun s hs => ?_
      rw [hs]
      unfold sky_Path.l2
      refine Has.bind (P := fun z => z = false) (Has.neg (by simp; omega) (Has.ret rfl)) fun z hz => Has.neg (by rw [hz]; decide) (Has.ret (.done rfl))
/-- Where a body is at the beginning and the end of a day. -/
def dayR (b : Body) (d : Int) : Option (Vec × Vec) := if (pathF b d).2.2 = 0 then (if (stepF (pathF b d).1 (pathF b d).2.1).2 = 0 then some ((pathF b d).2.1, (stepF (pathF b d).1 (pathF b d).2.1).1) else none) else none
theorem dayR_def {b : Body} {d : Int} {p : Vec × Vec} (h : dayR b d = some p) : (pathF b d).2.2 = 0 ∧ (stepF (pathF b d).1 (pathF b d).2.1).2 = 0 ∧ p.1 = (pathF b d).2.1 ∧ p.2 = (stepF (pathF b d).1 (pathF b d).2.1).1 := by
  unfold dayR at h
  split at h
  · rename_i h1
    split at h
    · rename_i h2; cases h; exact ⟨h1, h2, rfl, rfl⟩
    · cases h
  · cases h
theorem dayR_in {b : Body} (hb : okB b) {d : Int} {p : Vec × Vec} (h : dayR b d = some p) : inV p.1 ∧ inV p.2 := by
  obtain ⟨h1, h2, h3, h4⟩ := dayR_def h
  obtain ⟨i1, i2⟩ := pathF_in hb h1
  obtain ⟨_, g, _, k⟩ := stepF_ok i1 i2
  rcases k with ⟨_, i3, e3⟩ | ⟨e3, _⟩
  · rw [h3, h4, e3]; exact ⟨i2, i3⟩
  · rw [e3] at h2; cases h2
/-- A day ends where the next one begins. -/
theorem dayR_next {b : Body} (hb : okB b) {d : Int} {p q : Vec × Vec} (hp : dayR b d = some p) (hq : dayR b (d + 1) = some q) : q.1 = p.2 := by
  obtain ⟨p1, p2, p3, p4⟩ := dayR_def hp
  obtain ⟨q1, q2, q3, q4⟩ := dayR_def hq
  rw [q3, p4]
  by_cases hd : d < 0
  · have e1 : pathF b d = bwd b ((-(d + 1)).toNat + 1) := by unfold pathF; rw [if_pos hd, show (-d).toNat = (-(d + 1)).toNat + 1 from by omega]
    have e2 : pathF b (d + 1) = bwd b (-(d + 1)).toNat := by
      unfold pathF
      by_cases h : d + 1 < 0
      · rw [if_pos h]
      · rw [if_neg h, show (d + 1).toNat = 0 from by omega, show (-(d + 1)).toNat = 0 from by omega]; rfl
    rw [e2] at q1 ⊢
    have i := bwd_in hb _ q1
    have e3 : bwd b ((-(d + 1)).toNat + 1) = ((stepF (bwd b (-(d + 1)).toNat).2.1 (bwd b (-(d + 1)).toNat).1).1, (bwd b (-(d + 1)).toNat).1, (stepF (bwd b (-(d + 1)).toNat).2.1 (bwd b (-(d + 1)).toNat).1).2) := by
      show (if (bwd b (-(d + 1)).toNat).2.2 = 0 then _ else _) = _
      rw [if_pos q1]
    rw [e1, e3] at p1 ⊢
    simp only [] at p1 ⊢
    rw [step_back i.1 i.2 p1]
  · have e1 : pathF b d = fwd b d.toNat := by unfold pathF; rw [if_neg hd]
    have e2 : pathF b (d + 1) = fwd b (d.toNat + 1) := by unfold pathF; rw [if_neg (by omega), show (d + 1).toNat = d.toNat + 1 from by omega]
    rw [e2]
    rw [e1] at p1 ⊢
    show (if (fwd b d.toNat).2.2 = 0 then _ else fwd b d.toNat).2.1 = _
    rw [if_pos p1]
/-! ### between two days -/
def itp (a b r : Int) : Int := a + (b - a) * r / 86400000
def itpV (p : Vec × Vec) (r : Int) : Vec := ⟨itp p.1.X p.2.X r, itp p.1.Y p.2.Y r, itp p.1.Z p.2.Z r⟩
theorem itp_bd {a b r : Int} (r0 : 0 ≤ r) (r1 : r ≤ 86400000) : min a b ≤ itp a b r ∧ itp a b r ≤ max a b := by
  unfold itp
  rcases Int.le_total a b with h | h
  · have p := Int.mul_nonneg (show 0 ≤ b - a by omega) r0
    have q := Int.mul_le_mul_of_nonneg_left r1 (show 0 ≤ b - a by omega)
    have u := Int.ediv_nonneg p (show (0 : Int) ≤ 86400000 by decide)
    have v := Int.ediv_le_ediv (show (0 : Int) < 86400000 by decide) q
    rw [Int.mul_ediv_cancel _ (by decide)] at v
    omega
  · have p := Int.mul_le_mul_of_nonpos_left (show b - a ≤ 0 by omega) r1
    have q := Int.mul_le_mul_of_nonpos_left (show b - a ≤ 0 by omega) r0
    rw [Int.mul_zero] at q
    have u := Int.ediv_le_ediv (show (0 : Int) < 86400000 by decide) p
    have v := Int.ediv_le_ediv (show (0 : Int) < 86400000 by decide) q
    rw [Int.mul_ediv_cancel _ (by decide)] at u
    simp only [Int.zero_ediv] at v
    omega
theorem itp_mid {a b r1 r2 r3 : Int} (h12 : r1 ≤ r2) (h23 : r2 ≤ r3) : min (itp a b r1) (itp a b r3) ≤ itp a b r2 ∧ itp a b r2 ≤ max (itp a b r1) (itp a b r3) := by
  unfold itp
  have d : (0 : Int) < 86400000 := by decide
  rcases Int.le_total a b with h | h
  · have p := Int.ediv_le_ediv d (Int.mul_le_mul_of_nonneg_left h12 (show 0 ≤ b - a by omega))
    have q := Int.ediv_le_ediv d (Int.mul_le_mul_of_nonneg_left h23 (show 0 ≤ b - a by omega))
    omega
  · have p := Int.ediv_le_ediv d (Int.mul_le_mul_of_nonpos_left (show b - a ≤ 0 by omega) h12)
    have q := Int.ediv_le_ediv d (Int.mul_le_mul_of_nonpos_left (show b - a ≤ 0 by omega) h23)
    omega
theorem itp_end (a b : Int) : itp a b 0 = a ∧ itp a b 86400000 = b := by
  unfold itp
  rw [Int.mul_ediv_cancel _ (by decide)]
  simp; omega
theorem floorDiv_ok {a : Int} (ha : -9000000000000000000 ≤ a ∧ a ≤ 9000000000000000000) : num_FloorDiv a 86400000 = some (a / 86400000) := by
  apply Has.val
  unfold num_FloorDiv
  refine Has.neg (by decide) (Has.chk (by decide) ?_)
  rcases Int.le_total 0 a with h | h
  · rw [Int.tmod_eq_emod_of_nonneg h, Int.tdiv_eq_ediv_of_nonneg h, w6_in (n := a / 86400000) (by omega)]
    exact Has.neg (by simp; omega) (Has.ret rfl)
  · have e : Int.tdiv a 86400000 = -((-a) / 86400000) := by rw [← Int.tdiv_eq_ediv_of_nonneg (a := -a) (by omega), Int.neg_tdiv, Int.neg_neg]
    have e2 : Int.tmod a 86400000 = -((-a) % 86400000) := by rw [← Int.tmod_eq_emod_of_nonneg (a := -a) (by omega), Int.neg_tmod, Int.neg_neg]
    rw [e, e2, w6_in (n := -((-a) / 86400000)) (by omega)]
    refine Has.ite (fun q => ?_) fun q => ?_
    · have q : -((-a) % 86400000) < 0 := of_decide_eq_true q
      rw [w6_in (by omega)]; exact Has.ret (by omega)
    · have q : ¬ -((-a) % 86400000) < 0 := fun x => q (decide_eq_true x)
      exact Has.ret (by omega)
theorem place1_ok {a b r : Int} (ha : -4194304 ≤ a ∧ a ≤ 4194304) (hb : -4194304 ≤ b ∧ b ≤ 4194304) (r0 : 0 ≤ r) (r1 : r ≤ 86400000) : sky_Place_1 a b r = some (itp a b r) := by
  have m1 : -8388608 ≤ b - a ∧ b - a ≤ 8388608 := by omega
  have p1 := Int.mul_le_mul_of_nonneg_right m1.2 r0
  have p2 := Int.mul_le_mul_of_nonneg_right m1.1 r0
  have bd := itp_bd (a := a) (b := b) r0 r1
  unfold sky_Place_1
  rw [w6_in (n := b - a) (by omega), w6_in (n := (b - a) * r) (by omega), floorDiv_ok (by omega)]
  simp only [Option.bind_some]
  have e : a + (b - a) * r / 86400000 = itp a b r := rfl
  rw [e, w6_in (by omega)]
theorem skyPlace_ok {b : Body} (hb : okB b) {t : Int} (t0 : -34560000000 ≤ t) (t1 : t < 34560000000) :
    Has (sky_Place b t) fun r => (∀ p, dayR b (t / 86400000) = some p → r = (itpV p (t % 86400000), 0)) ∧ (dayR b (t / 86400000) = none → r.2 ≠ 0) := by
  have d0 : -400 ≤ t / 86400000 ∧ t / 86400000 < 400 := by omega
  have er : t - t / 86400000 * 86400000 = t % 86400000 := by omega
  have rr : 0 ≤ t % 86400000 ∧ t % 86400000 < 86400000 := by omega
  unfold sky_Place
  rw [floorDiv_ok (by omega)]
  simp only [Option.bind_some]
  refine Has.bind (P := fun z => z = false) (Has.neg (by simp; omega) (Has.ret (decide_eq_false (by omega)))) fun z hz => Has.neg (by rw [hz]; decide) ?_
  rw [skyPath_eq hb d0.1 (by omega)]
  simp only [Option.bind_some]
  by_cases h1 : (pathF b (t / 86400000)).2.2 = 0
  · obtain ⟨i1, i2⟩ := pathF_in hb h1
    rw [if_pos h1, h1, (stepF_ok i1 i2).1]
    simp only [Option.bind_some, bne_self_eq_false, Bool.false_eq_true, if_false]
    by_cases h2 : (stepF (pathF b (t / 86400000)).1 (pathF b (t / 86400000)).2.1).2 = 0
    · have hd : dayR b (t / 86400000) = some ((pathF b (t / 86400000)).2.1, (stepF (pathF b (t / 86400000)).1 (pathF b (t / 86400000)).2.1).1) := by unfold dayR; rw [if_pos h1, if_pos h2]
      obtain ⟨j1, j2⟩ := dayR_in hb hd
      obtain ⟨x1, y1, z1⟩ := j1
      obtain ⟨x2, y2, z2⟩ := j2
      rw [h2]
      simp only [bne_self_eq_false, Bool.false_eq_true, if_false]
      rw [w6_in (n := t / 86400000 * 86400000) (by omega), w6_in (n := t - t / 86400000 * 86400000) (by omega), er, place1_ok x1 x2 rr.1 (by omega), place1_ok y1 y2 rr.1 (by omega), place1_ok z1 z2 rr.1 (by omega)]
      refine Has.ret ⟨fun p hp => ?_, fun hn => ?_⟩
      · rw [hd] at hp; cases hp; rfl
      · rw [hd] at hn; cases hn
    · have hd : dayR b (t / 86400000) = none := by unfold dayR; rw [if_pos h1, if_neg h2]
      refine Has.pos (by simp [h2]) (Has.ret ⟨fun p hp => ?_, fun _ => h2⟩)
      rw [hd] at hp; cases hp
  · have hd : dayR b (t / 86400000) = none := by unfold dayR; rw [if_neg h1]
    rw [if_neg h1]
    refine Has.pos (by simp [h1]) (Has.ret ⟨fun p hp => ?_, fun _ => h1⟩)
    rw [hd] at hp; cases hp
end Lf
/- Plain facts of bounds. -/
namespace Lf
open Go Go.Abs
set_option linter.unusedVariables false
set_option linter.unusedSimpArgs false
/-- A valid bound. -/
structure Bound.ok (b : Bound) : Prop where
  u : b.Unknown = true → b.Lo = 0 ∧ b.Hi = 0
  lo : -1152921504606846976 ≤ b.Lo
  le : b.Lo ≤ b.Hi
  hi : b.Hi ≤ 1152921504606846976
theorem check_ok {b : Bound} (h : b.ok) : bound_Check b = some 0 := by
  obtain ⟨h1, h2, h3, h4⟩ := h
  unfold bound_Check
  rw [mn2_le h3, mx2_le h3]
  have e1 : ¬ b.Lo < -1152921504606846976 := by omega
  have e2 : ¬ b.Hi > 1152921504606846976 := by omega
  have e3 : ¬ b.Lo > b.Hi := by omega
  cases hu : b.Unknown with
  | false => simp [e1, e2, e3]
  | true => obtain ⟨q1, q2⟩ := h1 hu; simp [q1, q2]
theorem norm_ok {b : Bound} (h : b.ok) : bound_Norm b = some b := by unfold bound_Norm; rw [check_ok h]; rfl
theorem vague_ok {a b : Bound} (ha : a.ok) (hb : b.ok) : bound_vague a b = some (a.Unknown || b.Unknown) := by
  unfold bound_vague; rw [norm_ok ha, norm_ok hb]; cases h : a.Unknown <;> simp [h]
theorem none_ok : bound_None = some ⟨0, 0, true⟩ := rfl
theorem okNone : Bound.ok ⟨0, 0, true⟩ := ⟨fun _ => ⟨rfl, rfl⟩, by decide, by decide, by decide⟩
theorem okKnown {lo hi : Int} (h1 : -1152921504606846976 ≤ lo) (h2 : lo ≤ hi) (h3 : hi ≤ 1152921504606846976) : Bound.ok ⟨lo, hi, false⟩ := ⟨(fun h => nomatch h), h1, h2, h3⟩
theorem of_ok {lo hi : Int} (h1 : -1152921504606846976 ≤ lo) (h2 : lo ≤ hi) (h3 : hi ≤ 1152921504606846976) : bound_Of lo hi = some ⟨lo, hi, false⟩ := by
  unfold bound_Of; rw [norm_ok (okKnown h1 h2 h3)]; rfl
end Lf
/- Bounds as plain values: what each operation gives at whatever valid bounds. -/
namespace Lf
open Go Go.Abs
set_option linter.unusedVariables false
set_option linter.unusedSimpArgs false
def noneZ : Bound := ⟨0, 0, true⟩
def ofZ (lo hi : Int) : Bound := if lo ≤ hi ∧ -1152921504606846976 ≤ lo ∧ hi ≤ 1152921504606846976 then ⟨lo, hi, false⟩ else noneZ
theorem ofZ_eq (lo hi : Int) : bound_Of lo hi = some (ofZ lo hi) := by
  by_cases h : lo ≤ hi ∧ -1152921504606846976 ≤ lo ∧ hi ≤ 1152921504606846976
  · unfold ofZ; rw [if_pos h]; exact of_ok h.2.1 h.1 h.2.2
  · unfold ofZ; rw [if_neg h]
    have c : ∃ e, bound_Check ⟨lo, hi, false⟩ = some e ∧ e ≠ 0 := by
      unfold bound_Check
      simp only []
      by_cases h0 : lo ≤ hi
      · rw [mn2_le h0, mx2_le h0]
        by_cases g1 : lo < -1152921504606846976
        · exact ⟨4, by simp [g1], by decide⟩
        · have g2 : hi > 1152921504606846976 := by omega
          exact ⟨4, by simp [g1, g2], by decide⟩
      · rw [mn2_ge (by omega), mx2_ge (by omega)]
        have g0 : lo > hi := by omega
        by_cases g1 : hi < -1152921504606846976
        · exact ⟨4, by simp [g1], by decide⟩
        · by_cases g2 : lo > 1152921504606846976
          · exact ⟨4, by simp [g1, g2], by decide⟩
          · exact ⟨11, by simp [g0, g1, g2], by decide⟩
    obtain ⟨e, e1, e2⟩ := c
    unfold bound_Of bound_Norm
    rw [e1]
    simp [e2, bound_None, noneZ]
theorem ofZ_ok (lo hi : Int) : (ofZ lo hi).ok := by
  unfold ofZ
  split
  · rename_i h; exact ⟨(fun e => nomatch e), h.2.1, h.1, h.2.2⟩
  · exact okNone
theorem noneZ_ok : noneZ.ok := okNone
def addZ (a b : Bound) : Bound := if (a.Unknown || b.Unknown) = true then noneZ else ofZ (a.Lo + b.Lo) (a.Hi + b.Hi)
theorem addZ_eq {a b : Bound} (ha : a.ok) (hb : b.ok) : bound_Add a b = some (addZ a b) := by
  have := ha.lo; have := ha.le; have := ha.hi; have := hb.lo; have := hb.le; have := hb.hi
  unfold bound_Add addZ
  rw [vague_ok ha hb, w6_in (by omega), w6_in (by omega), ofZ_eq]
  simp only [Option.bind_some]
  split <;> rfl
theorem addZ_ok (a b : Bound) : (addZ a b).ok := by
  unfold addZ; split
  · exact noneZ_ok
  · exact ofZ_ok _ _
def negZ (b : Bound) : Bound := ⟨-b.Hi, -b.Lo, b.Unknown⟩
theorem negZ_ok {b : Bound} (h : b.ok) : (negZ b).ok := by
  obtain ⟨h1, h2, h3, h4⟩ := h
  exact ⟨fun e => by obtain ⟨p, q⟩ := h1 e; simp [negZ, p, q], by simp only [negZ]; omega, by simp only [negZ]; omega, by simp only [negZ]; omega⟩
/-- Everything that one bound admits is admitted by another one. -/
def inZ (a b : Bound) : Prop := b.Unknown = true ∨ (a.Unknown = false ∧ b.Lo ≤ a.Lo ∧ a.Hi ≤ b.Hi)
def hasZ (b : Bound) (v : Int) : Prop := b.Unknown = true ∨ (b.Lo ≤ v ∧ v ≤ b.Hi)
theorem hasZ_none (v : Int) : hasZ noneZ v := .inl rfl
theorem hasZ_of {lo hi v : Int} (h1 : lo ≤ v) (h2 : v ≤ hi) : hasZ (ofZ lo hi) v := by
  unfold ofZ; split
  · exact .inr ⟨h1, h2⟩
  · exact hasZ_none v
theorem hasZ_add {a b : Bound} {x y : Int} (ha : hasZ a x) (hb : hasZ b y) : hasZ (addZ a b) (x + y) := by
  unfold addZ; split
  · exact hasZ_none _
  · rename_i h
    have h : a.Unknown = false ∧ b.Unknown = false := by simpa using h
    rcases ha with e | ha
    · rw [h.1] at e; cases e
    · rcases hb with e | hb
      · rw [h.2] at e; cases e
      · exact hasZ_of (by omega) (by omega)
theorem hasZ_neg {b : Bound} {x : Int} (h : hasZ b x) : hasZ (negZ b) (-x) := by
  rcases h with e | h
  · exact .inl e
  · exact .inr ⟨by simp only [negZ]; omega, by simp only [negZ]; omega⟩
theorem exactZ {v : Int} (h1 : -1152921504606846976 ≤ v) (h2 : v ≤ 1152921504606846976) : ofZ v v = ⟨v, v, false⟩ := by unfold ofZ; rw [if_pos ⟨Int.le_refl _, h1, h2⟩]
theorem inZ_refl (a : Bound) : inZ a a := by
  cases h : a.Unknown with
  | true => exact .inl h
  | false => exact .inr ⟨h, Int.le_refl _, Int.le_refl _⟩
theorem inZ_none (a : Bound) : inZ a noneZ := .inl rfl
theorem inZ.trans {a b c : Bound} (h : inZ a b) (k : inZ b c) : inZ a c := by
  rcases k with k | ⟨k1, k2, k3⟩
  · exact .inl k
  · rcases h with h | ⟨h1, h2, h3⟩
    · rw [h] at k1; cases k1
    · exact .inr ⟨h1, by omega, by omega⟩
theorem inZ.has {a b : Bound} {v : Int} (h : inZ a b) (k : hasZ a v) : hasZ b v := by
  rcases h with h | ⟨h1, h2, h3⟩
  · exact .inl h
  · rcases k with k | k
    · rw [h1] at k; cases k
    · exact .inr ⟨by omega, by omega⟩
theorem inZ_of {lo hi lo' hi' : Int} (h : lo' ≤ hi') (h1 : lo ≤ lo') (h2 : hi' ≤ hi) : inZ (ofZ lo' hi') (ofZ lo hi) := by
  unfold ofZ
  by_cases g : lo ≤ hi ∧ -1152921504606846976 ≤ lo ∧ hi ≤ 1152921504606846976
  · rw [if_pos g, if_pos (by omega)]; exact .inr ⟨rfl, h1, h2⟩
  · rw [if_neg g]; exact inZ_none _
theorem inZ_add {a b a' b' : Bound} (oa : a'.ok) (ob : b'.ok) (ha : inZ a' a) (hb : inZ b' b) : inZ (addZ a' b') (addZ a b) := by
  unfold addZ
  by_cases h : (a.Unknown || b.Unknown) = true
  · rw [if_pos h]; exact inZ_none _
  · rw [if_neg h]
    have h : a.Unknown = false ∧ b.Unknown = false := by simpa using h
    rcases ha with e | ⟨u1, ha⟩
    · rw [h.1] at e; cases e
    · rcases hb with e | ⟨u2, hb⟩
      · rw [h.2] at e; cases e
      · rw [if_neg (by simp [u1, u2])]
        have := oa.le; have := ob.le
        exact inZ_of (by omega) (by omega) (by omega)
theorem inZ_neg {a b : Bound} (h : inZ a b) : inZ (negZ a) (negZ b) := by
  rcases h with e | ⟨h1, h2, h3⟩
  · exact .inl e
  · exact .inr ⟨h1, by simp only [negZ]; omega, by simp only [negZ]; omega⟩
end Lf
/- Places of which bounds are known. -/
namespace Lf
open Go Go.Abs
set_option linter.unusedVariables false
set_option linter.unusedSimpArgs false
abbrev Place3 := Bound × Bound × Bound
structure ok3 (p : Place3) : Prop where
  x : p.1.ok
  y : p.2.1.ok
  z : p.2.2.ok
theorem gt3_0 (a b c : Bound) : gt ([a, b, c] : List Bound) 0 = a := rfl
theorem gt3_1 (a b c : Bound) : gt ([a, b, c] : List Bound) 1 = b := rfl
theorem gt3_2 (a b c : Bound) : gt ([a, b, c] : List Bound) 2 = c := rfl
theorem set3_0 (a b c x : Bound) : List.set ([a, b, c] : List Bound) (0 : Int).toNat x = [x, b, c] := rfl
theorem set3_1 (a b c x : Bound) : List.set ([a, b, c] : List Bound) (1 : Int).toNat x = [a, x, c] := rfl
theorem set3_2 (a b c x : Bound) : List.set ([a, b, c] : List Bound) (2 : Int).toNat x = [a, b, x] := rfl
end Lf
/- Places that are known exactly. -/
namespace Lf
open Go Go.Abs
set_option linter.unusedVariables false
set_option linter.unusedSimpArgs false
/-! ### what is known exactly -/
def ex3 (v : Vec) : Place3 := (⟨v.X, v.X, false⟩, ⟨v.Y, v.Y, false⟩, ⟨v.Z, v.Z, false⟩)
theorem exact3_ok {v : Vec} (h : inV v) : predict_Exact v = some (ex3 v) := by
  obtain ⟨⟨a1, a2⟩, ⟨b1, b2⟩, ⟨c1, c2⟩⟩ := h
  unfold predict_Exact bound_Exact
  rw [ofZ_eq, ofZ_eq, ofZ_eq, exactZ (by omega) (by omega), exactZ (by omega) (by omega), exactZ (by omega) (by omega)]
  rfl
theorem ex3_ok {v : Vec} (h : inV v) : ok3 (ex3 v) := by
  obtain ⟨⟨a1, a2⟩, ⟨b1, b2⟩, ⟨c1, c2⟩⟩ := h
  exact ⟨okKnown (by omega) (Int.le_refl _) (by omega), okKnown (by omega) (Int.le_refl _) (by omega), okKnown (by omega) (Int.le_refl _) (by omega)⟩
end Lf
/- Whether a place can be a vector. -/
namespace Lf
open Go Go.Abs
set_option linter.unusedVariables false
set_option linter.unusedSimpArgs false
structure has3 (p : Place3) (v : Vec) : Prop where
  x : hasZ p.1 v.X
  y : hasZ p.2.1 v.Y
  z : hasZ p.2.2 v.Z
theorem boundHas_ok {b : Bound} {v : Int} (h : b.ok) (hv : hasZ b v) : bound_Has b v = some true := by
  unfold bound_Has
  rw [vague_ok h h]
  simp only [Option.bind_some, Bool.or_self]
  rcases hv with e | ⟨h1, h2⟩
  · rw [e]; rfl
  · cases b.Unknown <;> simp [h1, h2]
theorem predictHas_ok {p : Place3} {v : Vec} (h : ok3 p) (hv : has3 p v) : predict_Has p v = some true := by
  unfold predict_Has
  rw [boundHas_ok h.x hv.x, boundHas_ok h.y hv.y, boundHas_ok h.z hv.z]
  rfl
end Lf
/- Differences of bounds, as plain values. -/
namespace Lf
open Go Go.Abs
set_option linter.unusedVariables false
set_option linter.unusedSimpArgs false
theorem negZ_eq {b : Bound} (h : b.ok) : bound_Neg b = some (negZ b) := by
  obtain ⟨h1, h2, h3, h4⟩ := h
  unfold bound_Neg
  rw [norm_ok ⟨h1, h2, h3, h4⟩]
  simp only [Option.bind_some, Int.zero_sub]
  rw [w6_in (by omega), w6_in (by omega)]
  rfl
def subZ (a b : Bound) : Bound := addZ a (negZ b)
theorem subZ_eq {a b : Bound} (ha : a.ok) (hb : b.ok) : bound_Sub a b = some (subZ a b) := by
  unfold bound_Sub
  rw [negZ_eq hb]
  simp only [Option.bind_some]
  rw [addZ_eq ha (negZ_ok hb)]; rfl
theorem subZ_ok (a b : Bound) : (subZ a b).ok := addZ_ok _ _
theorem hasZ_sub {a b : Bound} {x y : Int} (ha : hasZ a x) (hb : hasZ b y) : hasZ (subZ a b) (x - y) := by
  have := hasZ_add ha (hasZ_neg hb)
  rw [Int.sub_eq_add_neg]; exact this
theorem inZ_sub {a b a' b' : Bound} (oa : a'.ok) (ob : b'.ok) (ha : inZ a' a) (hb : inZ b' b) : inZ (subZ a' b') (subZ a b) := inZ_add oa (negZ_ok ob) ha (inZ_neg hb)
end Lf
/- Whether two boxes share a direction. -/
namespace Lf
open Go Go.Abs
set_option linter.unusedVariables false
set_option linter.unusedSimpArgs false
theorem compare_ok (x y : Int) : Has (cmp_Compare x y) fun c => (x < y ∧ c = -1) ∨ (x = y ∧ c = 0) ∨ (y < x ∧ c = 1) := by
  unfold cmp_Compare cmp_isNaN
  have n : ∀ z : Int, (z != z) = false := fun z => by simp
  simp only [n, Option.bind_some, Bool.false_eq_true, if_false]
  refine Has.ite (fun h => Has.ret (.inl ⟨of_decide_eq_true h, rfl⟩)) fun h => Has.ite (fun h2 => Has.ret (.inr (.inr ⟨of_decide_eq_true h2, rfl⟩))) fun h2 => Has.ret (.inr (.inl ⟨?_, rfl⟩))
  have h : ¬ x < y := fun q => h (decide_eq_true q)
  have h2 : ¬ x > y := fun q => h2 (decide_eq_true q)
  omega
theorem or2_ok (a b : Int) : cmp_Or ([a, b] : List Int) = some (if a ≠ 0 then a else b) := by
  unfold cmp_Or
  by_cases ha : a = 0
  · subst ha
    have e1 : cmp_Or.l1 [0, b] 0 = some (.next 1) := rfl
    by_cases hb : b = 0
    · subst hb
      rw [(Run.next e1 (Run.next (s' := 2) rfl (Run.done (o := .next ()) rfl))).ok (by decide)]; rfl
    · have e2 : cmp_Or.l1 [0, b] 1 = some (.done (.done b)) := by
        have g : gt ([0, b] : List Int) 1 = b := rfl
        unfold cmp_Or.l1
        rw [if_pos (by rfl), if_pos ⟨by decide, by show (1 : Int) < 2; decide⟩, g, if_pos (by simp [hb])]
      rw [(Run.next e1 (Run.done e2)).ok (by decide)]; simp [seqF]
  · have e1 : cmp_Or.l1 [a, b] 0 = some (.done (.done a)) := by
      have g : gt ([a, b] : List Int) 0 = a := rfl
      unfold cmp_Or.l1
      rw [if_pos (by rfl), if_pos ⟨by decide, by show (0 : Int) < 2; decide⟩, g, if_pos (by simp [ha])]
    rw [(Run.done e1).ok (by decide)]; simp [seqF, ha]
theorem wcmp_ok {w v : num_Wide} (hw : okW w) (hv : okW v) : Has (Wide_Cmp w v) fun c => (c < 0 ↔ wv w < wv v) ∧ (c > 0 ↔ wv v < wv w) := by
  have w0 := hw.l0; have w1 := hw.l1; have v0 := hv.l0; have v1 := hv.l1
  unfold Wide_Cmp
  refine (compare_ok _ _).bind fun a ha => (compare_ok _ _).bind fun b hb => ?_
  rw [or2_ok]
  refine Has.ret ?_
  unfold wv
  rcases ha with ⟨h, rfl⟩ | ⟨h, rfl⟩ | ⟨h, rfl⟩
  · simp; omega
  · rcases hb with ⟨g, rfl⟩ | ⟨g, rfl⟩ | ⟨g, rfl⟩ <;> simp <;> omega
  · simp; omega
/-- The multiples that may do. -/
structure okR (r : change_ratios) : Prop where
  a : okI r.lo
  b : okI r.hi
  c : okI r.under
  d : okI r.above
structure invR (k : Int) (r : change_ratios) : Prop where
  u : 1 ≤ r.under
  a : 1 ≤ r.above
  lo : r.lo ≤ k * r.under
  hi : k * r.above ≤ r.hi
theorem w6_okI (n : Int) : okI (w6 n) := w6_bd n
theorem atMost_ok {r : change_ratios} {a b : Int} (hr : okR r) (ha : -2305843009213693952 ≤ a ∧ a ≤ 2305843009213693952) (hb : -2305843009213693952 ≤ b ∧ b ≤ 2305843009213693952) : Has (ratios_atMost r a b) fun q => okR q.2 ∧ ∀ k : Int, invR k r → k * a ≤ b → q.1 = true ∧ invR k q.2 := by
  have oa : okI a := by unfold okI; omega
  have ob : okI b := by unfold okI; omega
  unfold ratios_atMost
  rw [Int.zero_sub, Int.zero_sub, w6_in (n := -b) (by omega), w6_in (n := -a) (by omega)]
  by_cases h0 : a = 0
  · subst h0
    refine Has.eq (a := (decide (b ≥ 0), r)) (by simp [seqF]) ⟨hr, fun k hk h => ⟨decide_eq_true (by rw [Int.mul_zero] at h; exact h), hk⟩⟩
  · refine Has.seq (P := fun t : Step change_ratios (Bool × change_ratios) => ∃ q, t = .next q ∧ okR q ∧ ∀ k : Int, invR k r → k * a ≤ b → invR k q) ?_ (fun q ⟨q', e, h1, h2⟩ => by cases e; exact Has.ret ⟨h1, fun k hk h => ⟨rfl, h2 k hk h⟩⟩) (fun o ⟨q', e, _⟩ => by cases e)
    refine Has.neg (by simp [h0]) (Has.ite (fun h => ?_) fun h => ?_)
    · have h : a > 0 := of_decide_eq_true h
      refine (product_ok b r.above ob hr.d).bind fun p ⟨p1, p2, _⟩ => (product_ok r.hi a hr.b oa).bind fun q ⟨q1, q2, _⟩ => (wcmp_ok p1 q1).bind fun c ⟨c1, c2⟩ => ?_
      refine Has.ite (fun hc => Has.ret ⟨_, rfl, ⟨hr.a, ob, hr.c, oa⟩, fun k hk hkb => ⟨hk.u, by simp only []; omega, hk.lo, hkb⟩⟩) fun hc => Has.ret ⟨r, rfl, hr, fun k hk _ => hk⟩
    · have h : a < 0 := by have : ¬ a > 0 := fun q => h (decide_eq_true q); omega
      refine (product_ok (-b) r.under (by unfold okI; omega) hr.c).bind fun p ⟨p1, p2, _⟩ => (product_ok r.lo (-a) hr.a (by unfold okI; omega)).bind fun q ⟨q1, q2, _⟩ => (wcmp_ok p1 q1).bind fun c ⟨c1, c2⟩ => ?_
      refine Has.ite (fun hc => Has.ret ⟨_, rfl, ⟨by unfold okI; simp only []; omega, hr.b, by unfold okI; simp only []; omega, hr.d⟩, fun k hk hkb => ⟨by simp only []; omega, hk.a, ?_, hk.hi⟩⟩) fun hc => Has.ret ⟨r, rfl, hr, fun k hk _ => hk⟩
      simp only []
      rw [Int.mul_neg]; omega
def ax (b : Box) (i : Int) : Bound := gt ([b.X, b.Y, b.Z] : List Bound) i
def okBox (b : Box) : Prop := b.X.ok ∧ b.Y.ok ∧ b.Z.ok
theorem ax_ok {b : Box} (h : okBox b) {i : Int} (i0 : 0 ≤ i) (i1 : i < 3) : (ax b i).ok := by
  have : i = 0 ∨ i = 1 ∨ i = 2 := by omega
  rcases this with rfl | rfl | rfl
  · exact h.1
  · exact h.2.1
  · exact h.2.2
/-- A multiple of a direction of one box may lie in another one. -/
def shareK (k : Int) (a b : Box) : Prop := ∀ i : Int, 0 ≤ i → i < 3 → (ax a i).Unknown = true ∨ (ax b i).Unknown = true ∨ (k * (ax a i).Lo ≤ (ax b i).Hi ∧ (ax b i).Lo ≤ k * (ax a i).Hi)
theorem share_ok {a b : Box} (ha : okBox a) (hb : okBox b) : Has (change_Share a b) fun r => ∀ k : Int, 1 ≤ k → k ≤ 1000000 → shareK k a b → r = true := by
  unfold change_Share
  refine Has.seq (P := fun t : Step change_ratios Bool => (∃ r, t = .next r ∧ okR r ∧ ∀ k : Int, 1 ≤ k → k ≤ 1000000 → shareK k a b → invR k r) ∨ (t = .done false ∧ ∀ k : Int, 1 ≤ k → k ≤ 1000000 → ¬ shareK k a b)) ?_ (fun r hr => ?_) fun o ho => ?_
  · refine Has.loop (fun s : change_ratios × Int => 0 ≤ s.2 ∧ s.2 ≤ 3 ∧ okR s.1 ∧ ∀ k : Int, 1 ≤ k → k ≤ 1000000 → shareK k a b → invR k s.1) (fun s => (3 - s.2).toNat) _ ⟨Int.le_refl _, by decide, ⟨by unfold okI; decide, by unfold okI; decide, by unfold okI; decide, by unfold okI; decide⟩, fun k k1 k2 _ => ⟨by decide, by decide, by simp only []; omega, by simp only []; omega⟩⟩ (by decide) fun s ⟨s0, s1, s2, s3⟩ => ?_
    unfold change_Share.l1
    refine Has.ite (fun hi => ?_) fun hi => Has.ret (.done (.inl ⟨s.1, rfl, s2, s3⟩))
    have hi : s.2 < 3 := of_decide_eq_true hi
    have oA := ax_ok ha s0 hi
    have oB := ax_ok hb s0 hi
    have eA : gt ([a.X, a.Y, a.Z] : List Bound) s.2 = ax a s.2 := rfl
    have eB : gt ([b.X, b.Y, b.Z] : List Bound) s.2 = ax b s.2 := rfl
    rw [eA, eB, check_ok oA, check_ok oB, w6_in (n := s.2 + 1) (by omega)]
    simp only [Option.bind_some, bne_self_eq_false, Bool.false_eq_true, if_false]
    have a1 := oA.lo; have a2 := oA.le; have a3 := oA.hi; have b1 := oB.lo; have b2 := oB.le; have b3 := oB.hi
    refine Has.seq (P := fun t : Step change_ratios (Step (change_ratios × Int) (Step change_ratios Bool)) => (∃ r, t = .next r ∧ okR r ∧ ∀ k : Int, 1 ≤ k → k ≤ 1000000 → shareK k a b → invR k r) ∨ (t = .done (.done (.done false)) ∧ ∀ k : Int, 1 ≤ k → k ≤ 1000000 → ¬ shareK k a b)) (Has.chk ⟨s0, hi⟩ (Has.chk ⟨s0, hi⟩ ?_)) (fun r hr => ?_) fun o ho => ?_
    · refine Has.bind (P := fun z => z = ((ax a s.2).Unknown || (ax b s.2).Unknown)) (by cases (ax a s.2).Unknown <;> exact Has.ret (by simp)) fun z hz => ?_
      refine Has.ite (fun h => Has.ret (.inl ⟨s.1, rfl, s2, s3⟩)) fun h => ?_
      have hu : (ax a s.2).Unknown = false ∧ (ax b s.2).Unknown = false := by rw [hz] at h; simpa using h
      rw [Int.zero_sub, Int.zero_sub, w6_in (n := -(ax a s.2).Hi) (by omega), w6_in (n := -(ax b s.2).Lo) (by omega)]
      have two : ∀ k : Int, shareK k a b → k * (ax a s.2).Lo ≤ (ax b s.2).Hi ∧ k * -(ax a s.2).Hi ≤ -(ax b s.2).Lo := fun k hk => by
        rcases hk s.2 s0 hi with e | e | ⟨e1, e2⟩
        · rw [hu.1] at e; cases e
        · rw [hu.2] at e; cases e
        · rw [Int.mul_neg]; omega
      refine Has.bind (P := fun z : change_ratios × Bool => (z.2 = false ∧ okR z.1 ∧ ∀ k : Int, 1 ≤ k → k ≤ 1000000 → shareK k a b → invR k z.1) ∨ (z.2 = true ∧ ∀ k : Int, 1 ≤ k → k ≤ 1000000 → ¬ shareK k a b)) ?_ fun z hz => ?_
      · refine (atMost_ok (a := (ax a s.2).Lo) (b := (ax b s.2).Hi) s2 (by omega) (by omega)).bind fun q ⟨q1, q2⟩ => ?_
        refine Has.ite (fun hq => Has.ret (.inr ⟨rfl, fun k k1 k2 hk => ?_⟩)) fun hq => ?_
        · have := (q2 k (s3 k k1 k2 hk) (two k hk).1).1
          rw [this] at hq; cases hq
        · refine (atMost_ok (a := -(ax a s.2).Hi) (b := -(ax b s.2).Lo) q1 (by omega) (by omega)).bind fun p ⟨p1, p2⟩ => Has.ret ?_
          cases hp : p.1 with
          | true => exact .inl ⟨rfl, p1, fun k k1 k2 hk => (p2 k (q2 k (s3 k k1 k2 hk) (two k hk).1).2 (two k hk).2).2⟩
          | false =>
            refine .inr ⟨rfl, fun k k1 k2 hk => ?_⟩
            have := (p2 k (q2 k (s3 k k1 k2 hk) (two k hk).1).2 (two k hk).2).1
            rw [hp] at this; cases this
      · rcases hz with ⟨z1, z2, z3⟩ | ⟨z1, z2⟩
        · refine Has.neg (by rw [z1]; decide) (Has.ret (.inl ⟨z.1, rfl, z2, z3⟩))
        · refine Has.pos z1 (Has.ret (.inr ⟨rfl, z2⟩))
    · rcases hr with ⟨r', e, h1, h2⟩ | ⟨e, _⟩
      · cases e
        exact Has.ret (.next ⟨by simp only []; omega, by simp only []; omega, h1, h2⟩ (by simp only []; omega))
      · cases e
    · rcases ho with ⟨r', e, _⟩ | ⟨e, h⟩
      · cases e
      · cases e; exact .done (.inr ⟨rfl, h⟩)
  · rcases hr with ⟨r', e, h1, h2⟩ | ⟨e, _⟩
    · cases e
      refine Has.bind (P := fun z => ∀ k : Int, 1 ≤ k → k ≤ 1000000 → shareK k a b → z = true) (Has.ite (fun h => ?_) fun h => Has.ret fun k k1 k2 hk => ?_) fun z hz => Has.ret hz
      · refine (product_ok r.lo r.above h1.a h1.d).bind fun p ⟨p1, p2, _⟩ => (product_ok r.hi r.under h1.b h1.c).bind fun q ⟨q1, q2, _⟩ => (wcmp_ok p1 q1).bind fun c ⟨c1, c2⟩ => Has.ret fun k k1 k2 hk => ?_
        have iv := h2 k k1 k2 hk
        have e1 := Int.mul_le_mul_of_nonneg_right iv.lo (show 0 ≤ r.above by have := iv.a; omega)
        have e2 := Int.mul_le_mul_of_nonneg_right iv.hi (show 0 ≤ r.under by have := iv.u; omega)
        have e3 : k * r.under * r.above = k * r.above * r.under := by rw [Int.mul_assoc, Int.mul_comm r.under, ← Int.mul_assoc]
        refine decide_eq_true ?_
        rw [p2, q2] at c2
        rcases Int.lt_or_le 0 c with hc | hc
        · have := c2.1 hc; omega
        · exact hc
      · have iv := h2 k k1 k2 hk
        have := Int.mul_le_mul_of_nonneg_right k1 (show 0 ≤ r.above by have := iv.a; omega)
        have hh : ¬ r.hi > 0 := fun q => h (decide_eq_true q)
        have i1 := iv.hi; have i2 := iv.a
        omega
    · cases e
  · rcases ho with ⟨r', e, _⟩ | ⟨e, h⟩
    · cases e
    · cases e; exact fun k k1 k2 hk => absurd hk (h k k1 k2)
end Lf
