/- Laws of the plain functions. Conditions: as each theorem states them. -/
import Derived.Test.YtbldfhcnkbahaaaGreatY0
/- The length of a vector of bounds: squares, their sum, its root (times 2^20). -/
namespace Lf
open Go Go.Abs
set_option linter.unusedVariables false
set_option linter.unusedSimpArgs false
theorem squareW_known {b : Bound} (h : b.ok) (hu : b.Unknown = false) (h1 : -268435456 ≤ b.Lo) (h2 : b.Hi ≤ 268435456) : arc_Square b = some ⟨aLo b * aLo b, aHi b * aHi b, false⟩ := by
 have := h.le
 obtain ⟨p, q⟩ := aLo_aHi h.le
 have r : aHi b ≤ 268435456 := by unfold aHi; omega
 have ok1 : Bound.ok ⟨aLo b, aHi b, false⟩ := okKnown (by omega) q (by omega)
 unfold arc_Square
 rw [absZ_eq h, absZ_known h hu]
 simp only [Option.bind_some]
 rw [mulZ_eq ok1 ok1 (by decide)]
 simp only [Option.bind_some]
 have m2 : aLo b * aLo b ≤ aLo b * aHi b := Int.mul_le_mul_of_nonneg_left q p
 have m3 : aLo b * aHi b ≤ aHi b * aHi b := Int.mul_le_mul_of_nonneg_right q (by omega)
 have m4 : aHi b * aLo b = aLo b * aHi b := Int.mul_comm _ _
 have m5 : aHi b * aHi b ≤ 268435456 * 268435456 := Int.mul_le_mul r r (by omega) (by omega)
 have m6 := Int.mul_nonneg p p
 unfold mulZ lo4 hi4
 simp only [Bool.or_self, Bool.false_eq_true, false_or, Int.ediv_one, cdiv_one]
 rw [if_neg (by omega)]
 congr 1
 unfold ofZ
 rw [if_pos (by omega)]
 congr 1 <;> omega

theorem ofZ_known {lo hi : Int} (h1 : -1152921504606846976 ≤ lo) (h2 : lo ≤ hi) (h3 : hi ≤ 1152921504606846976) : ofZ lo hi = ⟨lo, hi, false⟩ := by
 unfold ofZ; rw [if_pos ⟨h2, h1, h3⟩]
theorem root_ok {a : Bound} (ha : a.ok) (hu : a.Unknown = false) (h0 : 0 ≤ a.Lo) : Has (bound_Root a 1099511627776) fun b => b.ok ∧ b.Unknown = false ∧ isRt (a.Lo * 1099511627776) b.Lo ∧ 0 ≤ b.Hi ∧ a.Hi * 1099511627776 ≤ b.Hi * b.Hi := by
 have l := ha.le; have h := ha.hi
 unfold bound_Root
 rw [vague_ok ha ha, hu]
 have n : ¬ a.Hi < 0 := by omega
 refine Has.bind (P := fun z => z = false) (Has.eq (a := false) (by simp [n]) rfl) fun z hz => Has.neg (by rw [hz]; decide) ?_
 rw [mx2_ge h0]
 refine (sqrtW_ok a.Lo 1099511627776 (by omega) (by omega)).bind fun r7 h7 => (sqrtW_ok a.Hi 1099511627776 (by omega) (by omega)).bind fun r8 h8 => ?_
 have p7 := h7.r0; have p8 := h8.r0
 have b8 : r8 < 1125899906842625 := sq_lt p8 (by decide) (by have := h8.lo; omega)
 have m := h7.mono h8 (by omega)
 refine (product_ok r8 r8 (by unfold okI; omega) (by unfold okI; omega)).bind fun w9 ⟨p1, p2, _⟩ => (product_ok a.Hi 1099511627776 (by unfold okI; omega) (by unfold okI; omega)).bind fun w10 ⟨q1, q2, _⟩ => (wcmp_ok p1 q1).bind fun c ⟨c1, c2⟩ => ?_
 rw [p2, q2] at c1
 have g8 := h8.hi
 refine Has.ite (fun hc => ?_) fun hc => ?_
 ·rw [w6_in (by omega), ofZ_eq, ofZ_known (by omega) (by omega) (by omega)]
  exact Has.ret ⟨okKnown (by omega) (by omega) (by omega), rfl, h7, by simp only []; omega, by simp only []; omega⟩
 ·have hc : ¬ c < 0 := fun q => hc (decide_eq_true q)
  have g : ¬ r8 * r8 < a.Hi * 1099511627776 := fun q => hc (c1.2 q)
  rw [ofZ_eq, ofZ_known (by omega) (by omega) (by omega)]
  exact Has.ret ⟨okKnown (by omega) (by omega) (by omega), rfl, h7, by simp only []; omega, by simp only []; omega⟩
structure coordB (b : Bound) : Prop where
 ok : b.ok
 u : b.Unknown = false
 lo : -268435456 ≤ b.Lo
 hi : b.Hi ≤ 268435456
theorem coordB.sq {b : Bound} (h : coordB b) : arc_Square b = some ⟨aLo b * aLo b, aHi b * aHi b, false⟩ := squareW_known h.ok h.u h.lo h.hi
theorem coordB.bd {b : Bound} (h : coordB b) : 0 ≤ aLo b * aLo b ∧ aLo b * aLo b ≤ aHi b * aHi b ∧ aHi b * aHi b ≤ 72057594037927936 := by
 obtain ⟨p, q⟩ := aLo_aHi h.ok.le
 have := h.lo; have := h.hi; have := h.ok.le
 have r : aHi b ≤ 268435456 := by unfold aHi; omega
 have m5 : aHi b * aHi b ≤ 268435456 * 268435456 := Int.mul_le_mul r r (by omega) (by omega)
 have m6 := Int.mul_nonneg p p
 have m7 := Int.mul_le_mul q q p (by omega)
 exact ⟨m6, m7, by omega⟩
def nLo (x y z : Bound) : Int := aLo x * aLo x + aLo y * aLo y + aLo z * aLo z
def nHi (x y z : Bound) : Int := aHi x * aHi x + aHi y * aHi y + aHi z * aHi z
theorem norm3_ok {x y z : Bound} (hx : coordB x) (hy : coordB y) (hz : coordB z) : arc_Norm (x, y, z) = some ⟨nLo x y z, nHi x y z, false⟩ := by
 obtain ⟨x1, x2, x3⟩ := hx.bd
 obtain ⟨y1, y2, y3⟩ := hy.bd
 obtain ⟨z1, z2, z3⟩ := hz.bd
 unfold arc_Norm nLo nHi
 simp only []
 rw [hx.sq, hy.sq, hz.sq]
 simp only [Option.bind_some]
 unfold bound_Sum
 rw [if_pos (by simp)]
 have add : ∀ a b c d : Int, 0 ≤ a → a ≤ b → b ≤ 300000000000000000 → 0 ≤ c → c ≤ d → d ≤ 300000000000000000 → bound_Add ⟨a, b, false⟩ ⟨c, d, false⟩ = some ⟨a + c, b + d, false⟩ := fun a b c d _ _ _ _ _ _ => by
  rw [addZ_eq (okKnown (by omega) (by omega) (by omega)) (okKnown (by omega) (by omega) (by omega))]
  unfold addZ
  rw [if_neg (by simp), ofZ_known (by simp only []; omega) (by simp only []; omega) (by simp only []; omega)]
 generalize aLo x * aLo x = a1 at *
 generalize aLo y * aLo y = a2 at *
 generalize aLo z * aLo z = a3 at *
 generalize aHi x * aHi x = b1 at *
 generalize aHi y * aHi y = b2 at *
 generalize aHi z * aHi z = b3 at *
 have q1 := add 0 0 a1 b1 (by omega) (by omega) (by omega) (by omega) (by omega) (by omega)
 have q2 := add (0 + a1) (0 + b1) a2 b2 (by omega) (by omega) (by omega) (by omega) (by omega) (by omega)
 have q3 := add (0 + a1 + a2) (0 + b1 + b2) a3 b3 (by omega) (by omega) (by omega) (by omega) (by omega) (by omega)
 simp only [bound_SumF, q1, q2, q3, Option.getD_some, Bool.false_eq_true, if_false]
 simp
end Lf
/- A bound holds a fraction p / q (q > 0, whole numbers): what interval arithmetic keeps. -/
namespace Lf
open Go Go.Abs
set_option linter.unusedVariables false
set_option linter.unusedSimpArgs false
def hasR (b : Bound) (p q : Int) : Prop := b.Unknown = true ∨ (b.Lo * q ≤ p ∧ p ≤ b.Hi * q)
theorem hasR_ofZ {lo hi p q : Int} (h1 : lo * q ≤ p) (h2 : p ≤ hi * q) : hasR (ofZ lo hi) p q := by
 unfold ofZ
 split
 ·exact .inr ⟨h1, h2⟩
 ·exact .inl rfl
theorem hasR_int {b : Bound} {v q : Int} (hq : 0 ≤ q) (h : hasZ b v) : hasR b (v * q) q := by
 rcases h with h | ⟨h1, h2⟩
 ·exact .inl h
 ·exact .inr ⟨Int.mul_le_mul_of_nonneg_right h1 hq, Int.mul_le_mul_of_nonneg_right h2 hq⟩
theorem hasR_up {b : Bound} {p q m : Int} (hm : 0 ≤ m) (h : hasR b p q) : hasR b (p * m) (q * m) := by
 rcases h with h | ⟨h1, h2⟩
 ·exact .inl h
 ·have a := Int.mul_le_mul_of_nonneg_right h1 hm
  have c := Int.mul_le_mul_of_nonneg_right h2 hm
  exact .inr ⟨by rw [← Int.mul_assoc]; exact a, by rw [← Int.mul_assoc]; exact c⟩
theorem hasR_down {b : Bound} {p q m : Int} (hm : 0 < m) (h : hasR b (p * m) (q * m)) : hasR b p q := by
 rcases h with h | ⟨h1, h2⟩
 ·exact .inl h
 ·rw [← Int.mul_assoc] at h1 h2
  exact .inr ⟨Int.le_of_mul_le_mul_right h1 hm, Int.le_of_mul_le_mul_right h2 hm⟩
theorem hasR_add {a b : Bound} {p r q : Int} (ha : hasR a p q) (hb : hasR b r q) : hasR (addZ a b) (p + r) q := by
 unfold addZ
 split
 ·exact .inl rfl
 ·rename_i h
  have h : a.Unknown = false ∧ b.Unknown = false := by simpa using h
  rcases ha with e | ⟨a1, a2⟩
  ·rw [h.1] at e; cases e
  ·rcases hb with e | ⟨b1, b2⟩
   ·rw [h.2] at e; cases e
   ·exact hasR_ofZ (by rw [Int.add_mul]; omega) (by rw [Int.add_mul]; omega)
theorem hasR_neg {b : Bound} {p q : Int} (h : hasR b p q) : hasR (negZ b) (-p) q := by
 rcases h with h | ⟨h1, h2⟩
 ·exact .inl h
 ·exact .inr ⟨by unfold negZ; simp only []; rw [Int.neg_mul]; omega, by unfold negZ; simp only []; rw [Int.neg_mul]; omega⟩
theorem hasR_sub {a b : Bound} {p r q : Int} (ha : hasR a p q) (hb : hasR b r q) : hasR (subZ a b) (p - r) q := by
 have := hasR_add ha (hasR_neg hb)
 rw [← Int.sub_eq_add_neg] at this
 exact this
theorem hasR_mul {a b : Bound} {p q r s u : Int} (hq : 0 ≤ q) (hs : 0 ≤ s) (ha : hasR a p q) (hb : hasR b r s) : hasR (mulZ a b u) (p * r) (q * s * u) := by
 unfold mulZ
 split
 ·exact .inl rfl
 ·rename_i h
  have hu : 1 ≤ u := by
   rcases Int.lt_or_le u 1 with g | g
   ·exact absurd (.inr g) h
   ·exact g
  have hn : ¬ (a.Unknown || b.Unknown) = true := fun g => h (.inl g)
  have hn : a.Unknown = false ∧ b.Unknown = false := by simpa using hn
  rcases ha with e | ⟨a1, a2⟩
  ·rw [hn.1] at e; cases e
  ·rcases hb with e | ⟨b1, b2⟩
   ·rw [hn.2] at e; cases e
   ·have pb := prod_between a1 a2 b1 b2
    have qs : 0 ≤ q * s := Int.mul_nonneg hq hs
    have re : ∀ x y : Int, x * q * (y * s) = x * y * (q * s) := fun x y => by
     rw [Int.mul_assoc, Int.mul_left_comm q, ← Int.mul_assoc]
    rw [re, re, re, re] at pb
    have fl : ∀ X L : Int, L ≤ X / u → L * (q * s * u) ≤ X * (q * s) := fun X L hL => by
     have t1 := Int.mul_le_mul_of_nonneg_right hL (show 0 ≤ u by omega)
     have t2 := Int.ediv_mul_le X (show u ≠ 0 by omega)
     have t3 := Int.mul_le_mul_of_nonneg_right (Int.le_trans t1 t2) qs
     have e : L * (q * s * u) = L * u * (q * s) := by rw [Int.mul_comm (q * s), ← Int.mul_assoc]
     omega
    have fh : ∀ X H : Int, cdiv X u ≤ H → X * (q * s) ≤ H * (q * s * u) := fun X H hH => by
     unfold cdiv at hH
     have t1 := Int.mul_le_mul_of_nonneg_right hH (show 0 ≤ u by omega)
     have t2 := Int.ediv_mul_le (-X) (show u ≠ 0 by omega)
     have t4 : X ≤ H * u := by rw [Int.neg_mul] at t1; omega
     have t3 := Int.mul_le_mul_of_nonneg_right t4 qs
     have e : H * (q * s * u) = H * u * (q * s) := by rw [Int.mul_comm (q * s), ← Int.mul_assoc]
     omega
    have l1 := fl (a.Lo * b.Lo) (lo4 a b u) (by unfold lo4; omega)
    have l2 := fl (a.Lo * b.Hi) (lo4 a b u) (by unfold lo4; omega)
    have l3 := fl (a.Hi * b.Lo) (lo4 a b u) (by unfold lo4; omega)
    have l4 := fl (a.Hi * b.Hi) (lo4 a b u) (by unfold lo4; omega)
    have h1 := fh (a.Lo * b.Lo) (hi4 a b u) (by unfold hi4; omega)
    have h2 := fh (a.Lo * b.Hi) (hi4 a b u) (by unfold hi4; omega)
    have h3 := fh (a.Hi * b.Lo) (hi4 a b u) (by unfold hi4; omega)
    have h4 := fh (a.Hi * b.Hi) (hi4 a b u) (by unfold hi4; omega)
    exact hasR_ofZ (by omega) (by omega)
theorem hasR_meet {a b : Bound} {p q : Int} (hq : 0 < q) (ha : hasR a p q) (hb : hasR b p q) (ua : a.Unknown = false) (ub : b.Unknown = false) : max a.Lo b.Lo ≤ min a.Hi b.Hi ∧ max a.Lo b.Lo * q ≤ p ∧ p ≤ min a.Hi b.Hi * q := by
 rcases ha with e | ⟨a1, a2⟩
 ·rw [ua] at e; cases e
 ·rcases hb with e | ⟨b1, b2⟩
  ·rw [ub] at e; cases e
  ·have l : max a.Lo b.Lo * q ≤ p := by
    rcases Int.le_total a.Lo b.Lo with g | g
    ·rw [Int.max_eq_right g]; exact b1
    ·rw [Int.max_eq_left g]; exact a1
   have h : p ≤ min a.Hi b.Hi * q := by
    rcases Int.le_total a.Hi b.Hi with g | g
    ·rw [Int.min_eq_left g]; exact a2
    ·rw [Int.min_eq_right g]; exact b2
   exact ⟨Int.le_of_mul_le_mul_right (Int.le_trans l h) hq, l, h⟩
end Lf
/- Quotients of bounds, as plain values; fractions in them. -/
namespace Lf
open Go Go.Abs
set_option linter.unusedVariables false
set_option linter.unusedSimpArgs false
theorem bothD_ok (x n d L H : Int) (hx : okI x) (hn : okI n) (hd : 1 ≤ d ∧ d ≤ 9223372036854775807) (hL : L ≤ x * n / d) (hH : cdiv (x * n) d ≤ H) :
  ∃ r9 r10, bound_Div_1 x d n = some r9 ∧ bound_Div_2 x d n = some r10 ∧ ((r9.2 = 0 ∧ r10.2 = 0 ∧ r9.1 = x * n / d ∧ r10.1 = cdiv (x * n) d) ∨ ((r9.2 ≠ 0 ∨ r10.2 ≠ 0) ∧ ¬ fitB L H)) := by
 obtain ⟨r9, e9, p9⟩ := muldiv_ok x n d hx hn hd
 obtain ⟨r10, e10, p10, p11⟩ := muldivup_ok x n d hx hn hd
 have hc := fl_le_ce (x := x * n) (d := d) (by omega)
 obtain ⟨u1, u2⟩ := cdiv_up (x := x * n) (d := d) (by omega)
 refine ⟨r9, r10, by unfold bound_Div_1; rw [e9]; rfl, by unfold bound_Div_2; rw [e10]; rfl, ?_⟩
 by_cases hf : fitB L H
 ·left
  obtain ⟨f1, f2⟩ := hf
  have k : okI (x * n / d) := by unfold okI; omega
  have k1 : okI (x * n / d + 1) := by unfold okI; omega
  have z := p11 ⟨k, k1⟩
  rcases p9 with ⟨_, rfl⟩ | ⟨q, _⟩
  ·refine ⟨rfl, z, rfl, ?_⟩
   rcases (p10 z).1 with ⟨a, b⟩ | ⟨a, b⟩
   ·rw [b, u1 a]
   ·rw [b, u2 a]
  ·exact absurd k q
 ·by_cases z9 : r9.2 = 0
  ·by_cases z10 : r10.2 = 0
   ·left
    refine ⟨z9, z10, ?_, ?_⟩
    ·rcases p9 with ⟨_, rfl⟩ | ⟨q, rfl⟩
     ·rfl
     ·cases z9
    ·rcases (p10 z10).1 with ⟨a, b⟩ | ⟨a, b⟩
     ·rw [b, u1 a]
     ·rw [b, u2 a]
   ·exact .inr ⟨.inr z10, hf⟩
  ·exact .inr ⟨.inl z9, hf⟩
theorem cornersDiv_ok (a b : Bound) (d : Int) (F G : Int → Int → Int) (L H : Int)
  (hb : ∀ i j : Int, 0 ≤ i → i < 2 → 0 ≤ j → j < 2 → ∃ r9 r10, bound_Div_1 (end2 a i) (end2 b j) d = some r9 ∧ bound_Div_2 (end2 a i) (end2 b j) d = some r10 ∧ ((r9.2 = 0 ∧ r10.2 = 0 ∧ r9.1 = F i j ∧ r10.1 = G i j) ∨ ((r9.2 ≠ 0 ∨ r10.2 ≠ 0) ∧ ¬ fitB L H)))
  (hall : ∀ i j : Int, 0 ≤ i → i < 2 → 0 ≤ j → j < 2 → L ≤ F i j ∧ F i j ≤ G i j ∧ G i j ≤ H)
  (hL : ∃ i j : Int, 0 ≤ i ∧ i < 2 ∧ 0 ≤ j ∧ j < 2 ∧ F i j = L) (hH : ∃ i j : Int, 0 ≤ i ∧ i < 2 ∧ 0 ≤ j ∧ j < 2 ∧ G i j = H) :
  bound_corners_bound_Div_1 a b d d = some (ofZ L H) := by
 have e2 : ∀ (c : Bound) (i : Int), 0 ≤ i → i < 2 → gt ([c.Lo, c.Hi] : List Int) i = end2 c i := fun c i i0 i1 => by
  have : i = 0 ∨ i = 1 := by omega
  rcases this with rfl | rfl <;> rfl
 have bad : ¬ fitB L H → ofZ L H = noneZ := fun h => by unfold ofZ; rw [if_neg]; unfold fitB at h; omega
 apply Has.val
 unfold bound_corners_bound_Div_1
 refine Has.seq (P := fun t : Step (List Int) Bound => (∃ l, t = .next l ∧ Cor2 F G L H l 4) ∨ (t = .done noneZ ∧ ¬ fitB L H)) ?_ (fun l hl => ?_) fun o ho => ?_
 ·refine Has.loop (fun s : List Int × Int => 0 ≤ s.2 ∧ s.2 ≤ 2 ∧ Cor2 F G L H s.1 (2 * s.2)) (fun s => (2 - s.2).toNat) _ ⟨Int.le_refl _, by simp only []; omega, rfl, (by simp), fun i j _ _ _ h => by simp only [] at h; omega⟩ (by simp only []; omega) fun s ⟨s0, s1, sc⟩ => ?_
  unfold bound_corners_bound_Div_1.l1
  refine Has.ite (fun h => ?_) fun h => Has.ret (.done (.inl ⟨s.1, rfl, ?_⟩))
  ·have h : s.2 < 2 := of_decide_eq_true h
   refine Has.chk ⟨s0, h⟩ (Has.seq (P := fun t : Step (List Int) (Step (List Int × Int) (Step (List Int) Bound)) => (∃ l, t = .next l ∧ Cor2 F G L H l (2 * (s.2 + 1))) ∨ (t = .done (.done (.done noneZ)) ∧ ¬ fitB L H)) ?_ (fun l hl => ?_) fun o ho => ?_)
   ·refine Has.loop (fun t : List Int × Int => 0 ≤ t.2 ∧ t.2 ≤ 2 ∧ Cor2 F G L H t.1 (2 * s.2 + t.2)) (fun t => (2 - t.2).toNat) _ ⟨Int.le_refl _, by simp only []; omega, by simp only [Int.add_zero]; exact sc⟩ (by simp only []; omega) fun t ⟨t0, t1, tc⟩ => ?_
    unfold bound_corners_bound_Div_1.l2
    refine Has.ite (fun h2 => ?_) fun h2 => Has.ret (.done (.inl ⟨t.1, rfl, ?_⟩))
    ·have h2 : t.2 < 2 := of_decide_eq_true h2
     have hl := tc.len
     obtain ⟨a1, a2, a3⟩ := hall s.2 t.2 s0 h t0 h2
     obtain ⟨r9, r10, e9, e10, hr⟩ := hb s.2 t.2 s0 h t0 h2
     refine Has.chk ⟨t0, h2⟩ ?_
     rw [e2 a s.2 s0 h, e2 b t.2 t0 h2, e9, e10]
     simp only [Option.bind_some, ite_or]
     rcases hr with ⟨z9, z10, v9, v10⟩ | ⟨hb, hf⟩
     ·rw [z9, z10, v9, v10, w6_in (by omega)]
      refine Has.neg (by simp) (Has.chk (roomyI (by simp; omega) (by simp; omega)) (Has.ret (.next ⟨by simp only []; omega, by simp only []; omega, by simp; omega, fun y hy => ?_, fun i j i0 j0 j1 hk => ?_⟩ (by simp only []; omega))))
      ·rcases List.mem_append.1 hy with h | h
       ·exact tc.all y h
       ·simp at h; rcases h with rfl | rfl <;> omega
      ·by_cases e : 2 * i + j < 2 * s.2 + t.2
       ·obtain ⟨m1, m2⟩ := tc.mem i j i0 j0 j1 e
        exact ⟨List.mem_append_left _ m1, List.mem_append_left _ m2⟩
       ·have e1 : i = s.2 := by simp only [] at hk; omega
        have e3 : j = t.2 := by simp only [] at hk; omega
        rw [e1, e3]
        exact ⟨List.mem_append_right _ (by simp), List.mem_append_right _ (by simp)⟩
     ·refine Has.pos (by rcases hb with hb | hb <;> simp [hb]) (Has.ret (.done (.inr ⟨rfl, hf⟩)))
    ·have h2 : t.2 = 2 := by have : ¬ t.2 < 2 := fun q => h2 (decide_eq_true q); omega
     rw [h2] at tc
     rw [show 2 * (s.2 + 1) = 2 * s.2 + 2 from by omega]; exact tc
   ·rcases hl with ⟨l', e, hl⟩ | ⟨e, _⟩
    ·cases e
     rw [w6_in (by omega)]
     exact Has.ret (.next ⟨by simp only []; omega, by simp only []; omega, hl⟩ (by simp only []; omega))
    ·cases e
   ·rcases ho with ⟨l', e, _⟩ | ⟨e, hf⟩
    ·cases e
    ·cases e; exact .done (.inr ⟨rfl, hf⟩)
  ·have h : s.2 = 2 := by have : ¬ s.2 < 2 := fun q => h (decide_eq_true q); omega
   rw [h] at sc; exact sc
 ·rcases hl with ⟨l', e, c⟩ | ⟨e, _⟩
  ·cases e
   have hlen := c.len
   have hne : l ≠ [] := fun e => by subst e; simp at hlen
   refine (min_ok l hne (by omega)).bind fun m ⟨m1, m2⟩ => (max_ok l hne (by omega)).bind fun k ⟨k1, k2⟩ => ?_
   obtain ⟨i, j, i0, i1, j0, j1, eL⟩ := hL
   obtain ⟨i', j', i0', i1', j0', j1', eH⟩ := hH
   have hLm := (c.mem i j i0 j0 j1 (by omega)).1
   have hHm := (c.mem i' j' i0' j0' j1' (by omega)).2
   rw [eL] at hLm
   rw [eH] at hHm
   have em : m = L := by have := m2 L hLm; have := c.all m m1; omega
   have ek : k = H := by have := k2 H hHm; have := c.all k k1; omega
   rw [em, ek, ofZ_eq]
   exact Has.ret rfl
  ·cases e
 ·rcases ho with ⟨l', e, _⟩ | ⟨e, hf⟩
  ·cases e
  ·cases e; exact (bad hf).symm

def dlo (a b : Bound) (u : Int) : Int := min (min (a.Lo * u / b.Lo) (a.Lo * u / b.Hi)) (min (a.Hi * u / b.Lo) (a.Hi * u / b.Hi))
def dhi (a b : Bound) (u : Int) : Int := max (max (cdiv (a.Lo * u) b.Lo) (cdiv (a.Lo * u) b.Hi)) (max (cdiv (a.Hi * u) b.Lo) (cdiv (a.Hi * u) b.Hi))
theorem divP_eq {a b : Bound} {u : Int} (ha : a.ok) (hb : b.ok) (hu : 1 ≤ u ∧ u ≤ 9223372036854775807) (b0 : 0 < b.Lo) : bound_corners_bound_Div_1 a b u u = some (ofZ (dlo a b u) (dhi a b u)) := by
 have := ha.lo; have := ha.le; have := ha.hi; have := hb.lo; have := hb.le; have := hb.hi
 have fc := fun x : Int => fl_le_ce (x := x) (d := b.Lo) (by omega)
 have fd := fun x : Int => fl_le_ce (x := x) (d := b.Hi) (by omega)
 rw [cornersDiv_ok a b u (fun i j => end2 a i * u / end2 b j) (fun i j => cdiv (end2 a i * u) (end2 b j)) (dlo a b u) (dhi a b u)]
 ·intro i j i0 i1 j0 j1
  have i01 : i = 0 ∨ i = 1 := by omega
  have j01 : j = 0 ∨ j = 1 := by omega
  refine bothD_ok _ u _ _ _ ?_ (by unfold okI; omega) ?_ ?_ ?_
  ·rcases i01 with rfl | rfl <;> simp only [end2] <;> unfold okI <;> simp <;> omega
  ·rcases j01 with rfl | rfl <;> simp only [end2] <;> simp <;> omega
  ·unfold dlo; rcases i01 with rfl | rfl <;> rcases j01 with rfl | rfl <;> simp only [end2] <;> simp <;> omega
  ·unfold dhi; rcases i01 with rfl | rfl <;> rcases j01 with rfl | rfl <;> simp only [end2] <;> simp <;> omega
 ·intro i j i0 i1 j0 j1
  have i01 : i = 0 ∨ i = 1 := by omega
  have j01 : j = 0 ∨ j = 1 := by omega
  refine ⟨?_, ?_, ?_⟩
  ·unfold dlo; rcases i01 with rfl | rfl <;> rcases j01 with rfl | rfl <;> simp only [end2] <;> simp <;> omega
  ·rcases j01 with rfl | rfl
   ·exact (fc _).1
   ·exact (fd _).1
  ·unfold dhi; rcases i01 with rfl | rfl <;> rcases j01 with rfl | rfl <;> simp only [end2] <;> simp <;> omega
 ·have : dlo a b u = a.Lo * u / b.Lo ∨ dlo a b u = a.Lo * u / b.Hi ∨ dlo a b u = a.Hi * u / b.Lo ∨ dlo a b u = a.Hi * u / b.Hi := by unfold dlo; omega
  rcases this with e | e | e | e
  ·exact ⟨0, 0, by decide, by decide, by decide, by decide, e.symm⟩
  ·exact ⟨0, 1, by decide, by decide, by decide, by decide, e.symm⟩
  ·exact ⟨1, 0, by decide, by decide, by decide, by decide, e.symm⟩
  ·exact ⟨1, 1, by decide, by decide, by decide, by decide, e.symm⟩
 ·have : dhi a b u = cdiv (a.Lo * u) b.Lo ∨ dhi a b u = cdiv (a.Lo * u) b.Hi ∨ dhi a b u = cdiv (a.Hi * u) b.Lo ∨ dhi a b u = cdiv (a.Hi * u) b.Hi := by unfold dhi; omega
  rcases this with e | e | e | e
  ·exact ⟨0, 0, by decide, by decide, by decide, by decide, e.symm⟩
  ·exact ⟨0, 1, by decide, by decide, by decide, by decide, e.symm⟩
  ·exact ⟨1, 0, by decide, by decide, by decide, by decide, e.symm⟩
  ·exact ⟨1, 1, by decide, by decide, by decide, by decide, e.symm⟩
def divZ (a b : Bound) (u : Int) : Bound := if (a.Unknown || b.Unknown) = true ∨ u < 1 ∨ (b.Lo ≤ 0 ∧ 0 ≤ b.Hi) then noneZ else if b.Hi < 0 then ofZ (dlo (negZ a) (negZ b) u) (dhi (negZ a) (negZ b) u) else ofZ (dlo a b u) (dhi a b u)
theorem divZ_ok (a b : Bound) (u : Int) : (divZ a b u).ok := by
 unfold divZ; split
 ·exact noneZ_ok
 ·split <;> exact ofZ_ok _ _
theorem divZ_eq {a b : Bound} {u : Int} (ha : a.ok) (hb : b.ok) (hu : u ≤ 9223372036854775807) : bound_Div a b u = some (divZ a b u) := by
 have := hb.le
 unfold bound_Div divZ
 rw [vague_ok ha hb]
 simp only [Option.bind_some]
 by_cases h1 : (a.Unknown || b.Unknown) = true
 ·rw [if_pos (show ((a.Unknown || b.Unknown) = true ∨ u < 1 ∨ (b.Lo ≤ 0 ∧ 0 ≤ b.Hi)) from .inl h1), if_pos h1]; rfl
 ·rw [if_neg h1]
  by_cases h2 : u < 1
  ·rw [if_pos (show ((a.Unknown || b.Unknown) = true ∨ u < 1 ∨ (b.Lo ≤ 0 ∧ 0 ≤ b.Hi)) from .inr (.inl h2)), if_pos (show decide (u < 1) = true from decide_eq_true h2)]; rfl
  ·rw [if_neg (show ¬ decide (u < 1) = true from fun q => h2 (of_decide_eq_true q))]
   by_cases h3 : b.Lo ≤ 0 ∧ 0 ≤ b.Hi
   ·rw [if_pos (show ((a.Unknown || b.Unknown) = true ∨ u < 1 ∨ (b.Lo ≤ 0 ∧ 0 ≤ b.Hi)) from .inr (.inr h3)), if_pos (show decide (b.Lo ≤ 0) = true from decide_eq_true h3.1), (show decide (b.Hi ≥ 0) = true from decide_eq_true h3.2)]; rfl
   ·rw [if_neg (show ¬ ((a.Unknown || b.Unknown) = true ∨ u < 1 ∨ (b.Lo ≤ 0 ∧ 0 ≤ b.Hi)) from fun q => by rcases q with q | q | q; exact h1 q; exact h2 q; exact h3 q)]
    have z : (if (decide (b.Lo ≤ 0)) = true then some (decide (b.Hi ≥ 0)) else some false) = some false := by
     by_cases q : b.Lo ≤ 0
     ·rw [if_pos (decide_eq_true q)]
      have : ¬ b.Hi ≥ 0 := fun g => h3 ⟨q, g⟩
      simp [this]
     ·rw [if_neg (by simpa using q)]
    rw [z]
    simp only [Option.bind_some, Bool.false_eq_true, if_false]
    by_cases h4 : b.Hi < 0
    ·rw [if_pos h4, if_pos (decide_eq_true h4), negZ_eq ha, negZ_eq hb]
     simp only [Option.bind_some]
     rw [divP_eq (negZ_ok ha) (negZ_ok hb) ⟨by omega, hu⟩ (by unfold negZ; simp only []; omega)]; rfl
    ·rw [if_neg h4, if_neg (by simpa using h4), divP_eq ha hb ⟨by omega, hu⟩ (by omega)]; rfl
theorem div_up {A B d p q r s u : Int} (h : A * u ≤ d * B) (t3 : d * q * (B * s) ≤ d * q * r) (hp : p ≤ A * q) (hq : 0 ≤ q) (hs : 0 ≤ s) (hu : 0 ≤ u) : p * s * u ≤ d * (q * r) := by
 have t1 := Int.mul_le_mul_of_nonneg_right hp (Int.mul_nonneg hs hu)
 have t2 := Int.mul_le_mul_of_nonneg_right h (Int.mul_nonneg hq hs)
 have e1 : A * q * (s * u) = A * u * (q * s) := by grind
 have e2 : d * B * (q * s) = d * q * (B * s) := by grind
 have e3 : p * s * u = p * (s * u) := by grind
 have e4 : d * (q * r) = d * q * r := by grind
 omega
theorem div_dn {A B d p q r s u : Int} (h : d * B ≤ A * u) (t3 : d * q * r ≤ d * q * (B * s)) (hp : A * q ≤ p) (hq : 0 ≤ q) (hs : 0 ≤ s) (hu : 0 ≤ u) : d * (q * r) ≤ p * s * u := by
 have t1 := Int.mul_le_mul_of_nonneg_right hp (Int.mul_nonneg hs hu)
 have t2 := Int.mul_le_mul_of_nonneg_right h (Int.mul_nonneg hq hs)
 have e1 : A * q * (s * u) = A * u * (q * s) := by grind
 have e2 : d * B * (q * s) = d * q * (B * s) := by grind
 have e3 : p * s * u = p * (s * u) := by grind
 have e4 : d * (q * r) = d * q * r := by grind
 omega
theorem cdiv_ge {x d c : Int} (hd : 0 < d) (h : cdiv x d ≤ c) : x ≤ c * d := by
 unfold cdiv at h
 have t1 := Int.mul_le_mul_of_nonneg_right h (show 0 ≤ d by omega)
 have t2 := Int.ediv_mul_le (-x) (show d ≠ 0 by omega)
 rw [Int.neg_mul] at t1; omega
theorem fl_le {x d c : Int} (hd : 0 < d) (h : c ≤ x / d) : c * d ≤ x := by
 have t1 := Int.mul_le_mul_of_nonneg_right h (show 0 ≤ d by omega)
 have t2 := Int.ediv_mul_le x (show d ≠ 0 by omega)
 omega
theorem hasR_divP {a b : Bound} {p q r s u : Int} (hq : 0 < q) (hs : 0 < s) (hu : 0 ≤ u) (a1 : a.Lo * q ≤ p) (a2 : p ≤ a.Hi * q) (b1 : b.Lo * s ≤ r) (b2 : r ≤ b.Hi * s) (b0 : 0 < b.Lo) (bl : b.Lo ≤ b.Hi) : hasR (ofZ (dlo a b u) (dhi a b u)) (p * s * u) (q * r) := by
 have l1 := fl_le (x := a.Lo * u) (d := b.Lo) (c := dlo a b u) b0 (by unfold dlo; omega)
 have l2 := fl_le (x := a.Lo * u) (d := b.Hi) (c := dlo a b u) (by omega) (by unfold dlo; omega)
 have h1 := cdiv_ge (x := a.Hi * u) (d := b.Lo) (c := dhi a b u) b0 (by unfold dhi; omega)
 have h2 := cdiv_ge (x := a.Hi * u) (d := b.Hi) (c := dhi a b u) (by omega) (by unfold dhi; omega)
 refine hasR_ofZ ?_ ?_
 ·rcases Int.le_total 0 (dlo a b u) with g | g
  ·exact div_dn l2 (Int.mul_le_mul_of_nonneg_left b2 (Int.mul_nonneg g (Int.le_of_lt hq))) a1 (Int.le_of_lt hq) (Int.le_of_lt hs) hu
  ·have n : dlo a b u * q ≤ 0 := by have := Int.mul_le_mul_of_nonneg_right g (Int.le_of_lt hq); omega
   exact div_dn l1 (Int.mul_le_mul_of_nonpos_left n b1) a1 (Int.le_of_lt hq) (Int.le_of_lt hs) hu
 ·rcases Int.le_total 0 (dhi a b u) with g | g
  ·exact div_up h1 (Int.mul_le_mul_of_nonneg_left b1 (Int.mul_nonneg g (Int.le_of_lt hq))) a2 (Int.le_of_lt hq) (Int.le_of_lt hs) hu
  ·have n : dhi a b u * q ≤ 0 := by have := Int.mul_le_mul_of_nonneg_right g (Int.le_of_lt hq); omega
   exact div_up h2 (Int.mul_le_mul_of_nonpos_left n b2) a2 (Int.le_of_lt hq) (Int.le_of_lt hs) hu
theorem hasR_div {a b : Bound} {p q r s u : Int} (oa : a.ok) (ob : b.ok) (hq : 0 < q) (hs : 0 < s) (ha : hasR a p q) (hb : hasR b r s) : (0 < r → hasR (divZ a b u) (p * s * u) (q * r)) ∧ (r < 0 → hasR (divZ a b u) (-p * s * u) (q * -r)) := by
 unfold divZ
 split
 ·exact ⟨fun _ => .inl rfl, fun _ => .inl rfl⟩
 ·rename_i h
  have hu : 1 ≤ u := by
   rcases Int.lt_or_le u 1 with g | g
   ·exact absurd (.inr (.inl g)) h
   ·exact g
  have h0 : ¬ (b.Lo ≤ 0 ∧ 0 ≤ b.Hi) := fun g => h (.inr (.inr g))
  have hn : ¬ (a.Unknown || b.Unknown) = true := fun g => h (.inl g)
  have hn : a.Unknown = false ∧ b.Unknown = false := by simpa using hn
  have bl := ob.le
  rcases ha with e | ⟨a1, a2⟩
  ·rw [hn.1] at e; cases e
  ·rcases hb with e | ⟨b1, b2⟩
   ·rw [hn.2] at e; cases e
   ·split
    ·rename_i g
     have nb := Int.mul_neg_of_neg_of_pos g hs
     refine ⟨fun r0 => by omega, fun r0 => ?_⟩
     refine hasR_divP hq hs (by omega) ?_ ?_ ?_ ?_ ?_ ?_ <;> unfold negZ <;> simp only [Int.neg_mul] <;> omega
    ·rename_i g
     have nb := Int.mul_pos (show 0 < b.Lo by omega) hs
     exact ⟨fun r0 => hasR_divP hq hs (by omega) a1 a2 b1 b2 (by omega) bl, fun r0 => by omega⟩
end Lf
/- Places of which bounds are known. -/
namespace Lf
open Go Go.Abs
set_option linter.unusedVariables false
set_option linter.unusedSimpArgs false
abbrev Place3 := Bound × Bound × Bound
structure ok3 (p : Place3) : Prop where
 x : p.1.ok
 y : p.2.1.ok
 z : p.2.2.ok
theorem gt3_0 (a b c : Bound) : gt ([a, b, c] : List Bound) 0 = a := rfl
theorem gt3_1 (a b c : Bound) : gt ([a, b, c] : List Bound) 1 = b := rfl
theorem gt3_2 (a b c : Bound) : gt ([a, b, c] : List Bound) 2 = c := rfl
theorem set3_0 (a b c x : Bound) : List.set ([a, b, c] : List Bound) (0 : Int).toNat x = [x, b, c] := rfl
theorem set3_1 (a b c x : Bound) : List.set ([a, b, c] : List Bound) (1 : Int).toNat x = [a, x, c] := rfl
theorem set3_2 (a b c x : Bound) : List.set ([a, b, c] : List Bound) (2 : Int).toNat x = [a, b, x] := rfl
end Lf
/- arc.Ray: the vectors of length 1 with a direction of a box. -/
namespace Lf
open Go Go.Abs
set_option linter.unusedVariables false
set_option linter.unusedSimpArgs false
def oneB : Bound := ⟨-1073741824, 1073741824, false⟩
theorem oneB_ok : oneB.ok := okKnown (by decide) (by decide) (by decide)
def meetOne (d : Bound) : Bound := if d.Unknown = true then oneB else if min d.Hi 1073741824 < max d.Lo (-1073741824) then ⟨0, 0, false⟩ else ⟨max d.Lo (-1073741824), min d.Hi 1073741824, false⟩
theorem meetOne_ok {d : Bound} : (meetOne d).ok := by
 unfold meetOne
 split
 ·exact oneB_ok
 ·split
  ·exact okKnown (by decide) (by decide) (by decide)
  ·exact okKnown (by omega) (by omega) (by omega)
theorem meetOne_eq {d : Bound} (h : d.ok) : Has (bound_Meet d (Bound.mk (-1073741824) 1073741824 false)) fun r => r.1 = meetOne d := by
 have hl := h.lo; have hh := h.hi
 unfold bound_Meet
 rw [norm_ok h, (show bound_Norm ⟨-1073741824, 1073741824, false⟩ = some ⟨-1073741824, 1073741824, false⟩ from norm_ok oneB_ok)]
 simp only [Option.bind_some, mx2_max, mn2_min]
 unfold meetOne
 by_cases u : d.Unknown = true
 ·rw [if_pos u, if_pos u]; exact Has.ret rfl
 ·rw [if_neg u, if_neg u]
  refine Has.neg (by decide) ?_
  by_cases g : min d.Hi 1073741824 < max d.Lo (-1073741824)
  ·rw [if_pos g]; exact Has.pos (decide_eq_true g) (Has.ret rfl)
  ·rw [if_neg g]
   refine Has.neg (fun q => g (of_decide_eq_true q)) ?_
   rw [ofZ_eq, ofZ_known (by omega) (by omega) (by omega)]
   exact Has.ret rfl
theorem hasR_meetOne {d : Bound} {p q : Int} (hq : 0 < q) (h : hasR d p q) (h1 : -(1073741824 * q) ≤ p) (h2 : p ≤ 1073741824 * q) : hasR (meetOne d) p q := by
 have ho : hasR oneB p q := .inr ⟨by unfold oneB; simp only []; omega, by unfold oneB; simp only []; omega⟩
 unfold meetOne
 split
 ·exact ho
 ·rename_i u
  have u : d.Unknown = false := by simpa using u
  obtain ⟨m1, m2, m3⟩ := hasR_meet hq h ho u rfl
  simp only [oneB] at m1 m2 m3
  rw [if_neg (by omega)]
  exact .inr ⟨m2, m3⟩
structure isRay (x y z L : Bound) (r : Bound × Bound × Bound) : Prop where
 ok : L.ok
 u : L.Unknown = false
 lo : isRt (nLo x y z * 1099511627776) L.Lo
 hi : nHi x y z * 1099511627776 ≤ L.Hi * L.Hi
 h0 : 0 ≤ L.Hi
 p : 1 ≤ L.Lo
 e1 : r.1 = meetOne (divZ x L 1125899906842624)
 e2 : r.2.1 = meetOne (divZ y L 1125899906842624)
 e3 : r.2.2 = meetOne (divZ z L 1125899906842624)
theorem ray_ok {x y z : Bound} (hx : coordB x) (hy : coordB y) (hz : coordB z) (hn : 1 ≤ nLo x y z) : Has (arc_Ray (Box.mk x y z)) fun r => r.2 = true ∧ ∃ L, isRay x y z L r.1 := by
 obtain ⟨x1, x2, x3⟩ := hx.bd
 obtain ⟨y1, y2, y3⟩ := hy.bd
 obtain ⟨z1, z2, z3⟩ := hz.bd
 have hl : nLo x y z ≤ nHi x y z := by unfold nLo nHi; omega
 have hb : nHi x y z ≤ 300000000000000000 := by unfold nHi; omega
 unfold arc_Ray
 simp only []
 rw [norm3_ok hx hy hz]
 simp only [Option.bind_some]
 refine (root_ok (a := ⟨nLo x y z, nHi x y z, false⟩) (okKnown (by omega) hl (by omega)) rfl (by simp only []; omega)).bind fun L ⟨l1, l2, l3, l4, l5⟩ => ?_
 simp only [] at l3 l5
 have lp : 1 ≤ L.Lo := by
  have := l3.hi; have r0 := l3.r0
  rcases Int.lt_or_le L.Lo 1 with g | g
  ·have e : L.Lo = 0 := by omega
   rw [e] at this; omega
  ·exact g
 refine Has.bind (P := fun w => w = false) (Has.neg (by rw [l2]; decide) (Has.ret (by simp; omega))) fun zz hzz => Has.neg (by rw [hzz]; decide) ?_
 refine Has.bind (P := fun r => isRay x y z L r) ?_ fun r hr => Has.ret ⟨rfl, L, hr⟩
 obtain ⟨m1, q1, g1⟩ := meetOne_eq (divZ_ok x L 1125899906842624)
 obtain ⟨m2, q2, g2⟩ := meetOne_eq (divZ_ok y L 1125899906842624)
 obtain ⟨m3, q3, g3⟩ := meetOne_eq (divZ_ok z L 1125899906842624)
 have d1 := divZ_eq (u := 1125899906842624) hx.ok l1 (by decide)
 have d2 := divZ_eq (u := 1125899906842624) hy.ok l1 (by decide)
 have d3 := divZ_eq (u := 1125899906842624) hz.ok l1 (by decide)
 have s1 : arc_Ray.l1 L ((x, y, z), 0) = some (.next ((m1.1, y, z), 1)) := by
  unfold arc_Ray.l1
  rw [if_pos (by rfl), if_pos ⟨by show (0 : Int) ≤ 0; decide, by show (0 : Int) < 3; decide⟩]
  have g : gt ([x, y, z] : List Bound) 0 = x := rfl
  simp only [g, d1, Option.bind_some, q1]
  rfl
 have s2 : arc_Ray.l1 L ((m1.1, y, z), 1) = some (.next ((m1.1, m2.1, z), 2)) := by
  unfold arc_Ray.l1
  rw [if_pos (by rfl), if_pos ⟨by show (0 : Int) ≤ 1; decide, by show (1 : Int) < 3; decide⟩]
  have g : gt ([m1.1, y, z] : List Bound) 1 = y := rfl
  simp only [g, d2, Option.bind_some, q2]
  rfl
 have s3 : arc_Ray.l1 L ((m1.1, m2.1, z), 2) = some (.next ((m1.1, m2.1, m3.1), 3)) := by
  unfold arc_Ray.l1
  rw [if_pos (by rfl), if_pos ⟨by show (0 : Int) ≤ 2; decide, by show (2 : Int) < 3; decide⟩]
  have g : gt ([m1.1, m2.1, z] : List Bound) 2 = z := rfl
  simp only [g, d3, Option.bind_some, q3]
  rfl
 have s4 : arc_Ray.l1 L ((m1.1, m2.1, m3.1), 3) = some (.done (m1.1, m2.1, m3.1)) := rfl
 exact Has.eq ((Run.next s1 (Run.next s2 (Run.next s3 (Run.done s4)))).ok (by decide)) ⟨l1, l2, l3, l5, l4, lp, g1, g2, g3⟩
theorem isRay.has {x y z L : Bound} {r : Bound × Bound × Bound} (h : isRay x y z L r) (hx : coordB x) (hy : coordB y) (hz : coordB z) {X Y Z t : Int} (t1 : L.Lo ≤ t) (t2 : t ≤ L.Hi)
  (ax : x.Lo ≤ X ∧ X ≤ x.Hi) (ay : y.Lo ≤ Y ∧ Y ≤ y.Hi) (az : z.Lo ≤ Z ∧ Z ≤ z.Hi) (mx : -t ≤ 1048576 * X ∧ 1048576 * X ≤ t) (my : -t ≤ 1048576 * Y ∧ 1048576 * Y ≤ t) (mz : -t ≤ 1048576 * Z ∧ 1048576 * Z ≤ t) :
  hasR r.1 (X * 1125899906842624) t ∧ hasR r.2.1 (Y * 1125899906842624) t ∧ hasR r.2.2 (Z * 1125899906842624) t := by
 have tp := h.p
 have key : ∀ (b : Bound) (V : Int), coordB b → b.Lo ≤ V ∧ V ≤ b.Hi → (-t ≤ 1048576 * V ∧ 1048576 * V ≤ t) → hasR (meetOne (divZ b L 1125899906842624)) (V * 1125899906842624) t := fun b V hb hv hm => by
  have d := (hasR_div (u := 1125899906842624) (p := V) (q := 1) (r := t) (s := 1) hb.ok h.ok (by decide) (by decide) (.inr ⟨by omega, by omega⟩) (.inr ⟨by omega, by omega⟩)).1 (by omega)
  rw [Int.mul_one, Int.one_mul] at d
  exact hasR_meetOne (by omega) d (by omega) (by omega)
 rw [h.e1, h.e2, h.e3]
 exact ⟨key x X hx ax mx, key y Y hy ay my, key z Z hz az mz⟩
end Lf
/- A whole number that serves as 2^20 times the length of a vector. -/
namespace Lf
open Go Go.Abs
set_option linter.unusedVariables false
set_option linter.unusedSimpArgs false
theorem isRay.wit {x y z L : Bound} {r : Bound × Bound × Bound} (h : isRay x y z L r) {X Y Z A : Int}
  (ax : x.Lo ≤ X ∧ X ≤ x.Hi) (ay : y.Lo ≤ Y ∧ Y ≤ y.Hi) (az : z.Lo ≤ Z ∧ Z ≤ z.Hi) (hA : A * A ≤ (X * X + Y * Y + Z * Z) * 1099511627776) :
  ∃ t : Int, L.Lo ≤ t ∧ t ≤ L.Hi ∧ (-t ≤ 1048576 * X ∧ 1048576 * X ≤ t) ∧ (-t ≤ 1048576 * Y ∧ 1048576 * Y ≤ t) ∧ (-t ≤ 1048576 * Z ∧ 1048576 * Z ≤ t) ∧ A ≤ t ∧ ∀ B : Int, 0 ≤ B → (X * X + Y * Y + Z * Z) * 1099511627776 ≤ B * B → t ≤ B := by
 have sx := square_bd ax.1 ax.2
 have sy := square_bd ay.1 ay.2
 have sz := square_bd az.1 az.2
 have n1 : nLo x y z ≤ X * X + Y * Y + Z * Z := by unfold nLo; omega
 have n2 : X * X + Y * Y + Z * Z ≤ nHi x y z := by unfold nHi; omega
 have x0 : 0 ≤ X * X := by rcases Int.le_total 0 X with q | q; exact Int.mul_nonneg q q; exact Int.mul_nonneg_of_nonpos_of_nonpos q q
 have y0 : 0 ≤ Y * Y := by rcases Int.le_total 0 Y with q | q; exact Int.mul_nonneg q q; exact Int.mul_nonneg_of_nonpos_of_nonpos q q
 have z0 : 0 ≤ Z * Z := by rcases Int.le_total 0 Z with q | q; exact Int.mul_nonneg q q; exact Int.mul_nonneg_of_nonpos_of_nonpos q q
 have hl := h.lo.lo; have lp := h.p; have hh := h.hi; have h0 := h.h0
 have ex : ∀ V : Int, (1048576 * V) * (1048576 * V) = V * V * 1099511627776 ∧ (-(1048576 * V)) * (-(1048576 * V)) = V * V * 1099511627776 := fun V => ⟨by grind, by grind⟩
 obtain ⟨ex1, ex2⟩ := ex X
 obtain ⟨ey1, ey2⟩ := ex Y
 obtain ⟨ez1, ez2⟩ := ex Z
 obtain ⟨t, ht, c1, c2, c3, c4, c5, c6, c7, c8⟩ : ∃ t : Int, (t = L.Lo ∨ t = A ∨ t = 1048576 * X ∨ t = -(1048576 * X) ∨ t = 1048576 * Y ∨ t = -(1048576 * Y) ∨ t = 1048576 * Z ∨ t = -(1048576 * Z)) ∧ L.Lo ≤ t ∧ A ≤ t ∧ 1048576 * X ≤ t ∧ -(1048576 * X) ≤ t ∧ 1048576 * Y ≤ t ∧ -(1048576 * Y) ≤ t ∧ 1048576 * Z ≤ t ∧ -(1048576 * Z) ≤ t :=
  ⟨max (max (max L.Lo A) (max (1048576 * X) (-(1048576 * X)))) (max (max (1048576 * Y) (-(1048576 * Y))) (max (1048576 * Z) (-(1048576 * Z)))), by omega, by omega, by omega, by omega, by omega, by omega, by omega, by omega, by omega⟩
 have sq : t * t ≤ (X * X + Y * Y + Z * Z) * 1099511627776 := by
  rcases ht with e | e | e | e | e | e | e | e
  ·rw [e]; omega
  ·rw [e]; exact hA
  ·rw [e, ex1]; omega
  ·rw [e, ex2]; omega
  ·rw [e, ey1]; omega
  ·rw [e, ey2]; omega
  ·rw [e, ez1]; omega
  ·rw [e, ez2]; omega
 have top : ∀ B : Int, 0 ≤ B → (X * X + Y * Y + Z * Z) * 1099511627776 ≤ B * B → t ≤ B := fun B b0 hB => by
  rcases Int.lt_or_le B t with g | g
  ·have m1 := Int.mul_le_mul (show B + 1 ≤ t by omega) (show B + 1 ≤ t by omega) (by omega) (by omega)
   have m2 : (B + 1) * (B + 1) = B * B + 2 * B + 1 := by grind
   omega
  ·exact g
 exact ⟨t, c1, top L.Hi h0 (by omega), ⟨by omega, by omega⟩, ⟨by omega, by omega⟩, ⟨by omega, by omega⟩, c2, top⟩
end Lf
/- The pull of the sun, and a day's step of a body. -/
namespace Lf
open Go Go.Abs
set_option linter.unusedVariables false
set_option linter.unusedSimpArgs false
def mag (a r : Int) : Int := 9007199254740992 * a / r / (r * r)
def partZ (x r : Int) : Int := if x > 0 then -mag x r else mag (-x) r
theorem div_less {x r s : Int} (x0 : 0 ≤ x) (s0 : 0 < s) (h : s ≤ r) : x / r ≤ x / s := by
 rw [Int.le_ediv_iff_mul_le s0]
 have q0 := Int.ediv_nonneg x0 (show 0 ≤ r by omega)
 have a := Int.mul_le_mul_of_nonneg_left h q0
 have b := Int.ediv_mul_le x (show r ≠ 0 by omega)
 omega
theorem mag_mono {a b r s : Int} (a0 : 0 ≤ a) (hab : a ≤ b) (s0 : 0 < s) (h : s ≤ r) : 0 ≤ mag a r ∧ mag a r ≤ mag b s := by
 unfold mag
 have rr : s * s ≤ r * r := Int.mul_le_mul h h (by omega) (by omega)
 have ss : 0 < s * s := Int.mul_pos s0 s0
 have u0 : 0 ≤ 9007199254740992 * a / r := Int.ediv_nonneg (by omega) (by omega)
 have u1 := Int.ediv_le_ediv (show 0 < r by omega) (show 9007199254740992 * a ≤ 9007199254740992 * b by omega)
 have u2 := div_less (x := 9007199254740992 * b) (by omega) s0 h
 refine ⟨Int.ediv_nonneg u0 (by omega), ?_⟩
 have v1 := Int.ediv_le_ediv (show 0 < r * r by omega) (show 9007199254740992 * a / r ≤ 9007199254740992 * b / s by omega)
 have v2 := div_less (x := 9007199254740992 * b / s) (by omega) ss rr
 omega
theorem mag_bd {a r : Int} (a0 : 0 ≤ a) (a1 : a ≤ 33554432) (r0 : 65536 ≤ r) : 0 ≤ mag a r ∧ mag a r ≤ 1073741824 := by
 have h := mag_mono a0 a1 (s := 65536) (by decide) r0
 have e : mag 33554432 65536 = 1073741824 := by decide
 omega
theorem skyPartB {x r : Int} (h1 : -33554432 ≤ x) (h2 : x ≤ 33554432) (r0 : 65536 ≤ r) (r1 : r ≤ 67108864) : sky_Pull_1 x r = some (partZ x r) ∧ -1073741824 ≤ partZ x r ∧ partZ x r ≤ 1073741824 := by
 have rr0 : 65536 * 65536 ≤ r * r := Int.mul_le_mul r0 r0 (by decide) (by omega)
 have rr1 : r * r ≤ 67108864 * 67108864 := Int.mul_le_mul r1 r1 (by omega) (by decide)
 have e : mx2 x (w6 (0 - x)) = max x (-x) := by rw [w6_in (by omega), mx2_max]; omega
 have m0 : 0 ≤ max x (-x) ∧ max x (-x) ≤ 33554432 := by omega
 have u0 : 0 ≤ 9007199254740992 * max x (-x) / r := Int.ediv_nonneg (by omega) (by omega)
 have u1 : 9007199254740992 * max x (-x) / r ≤ 4611686018427387904 := by
  have a := Int.ediv_le_ediv (show 0 < r by omega) (show 9007199254740992 * max x (-x) ≤ 9007199254740992 * 33554432 by omega)
  have b := div_less (x := 9007199254740992 * 33554432) (by decide) (show (0 : Int) < 65536 by decide) r0
  have c : (9007199254740992 : Int) * 33554432 / 65536 = 4611686018427387904 := by decide
  omega
 have v0 : 0 ≤ mag (max x (-x)) r ∧ mag (max x (-x)) r ≤ 1073741824 := mag_bd m0.1 m0.2 r0
 have pz : partZ x r = if x > 0 then -mag (max x (-x)) r else mag (max x (-x)) r := by
  unfold partZ
  split
  ·rw [show max x (-x) = x from by omega]
  ·rw [show max x (-x) = -x from by omega]
 refine ⟨?_, by rw [pz]; split <;> omega⟩
 apply Has.val
 unfold sky_Pull_1
 rw [e, w6_in (n := r * r) (by omega)]
 refine (muldiv_ok 9007199254740992 (max x (-x)) r (by unfold okI; omega) (by unfold okI; omega) (by omega)).bind fun q hq => ?_
 have hq : q = (9007199254740992 * max x (-x) / r, 0) := by
  rcases hq with ⟨_, h⟩ | ⟨h, _⟩
  ·exact h
  ·exfalso; apply h; unfold okI; omega
 rw [hq]
 simp only []
 rw [Int.tdiv_eq_ediv_of_nonneg u0]
 have em : 9007199254740992 * max x (-x) / r / (r * r) = mag (max x (-x)) r := rfl
 rw [em, w6_in (n := mag (max x (-x)) r) (by omega), pz]
 refine Has.chk (by omega) (Has.ite (fun h => ?_) fun h => ?_)
 ·rw [if_pos (of_decide_eq_true h), w6_in (by omega)]; exact Has.ret (by omega)
 ·rw [if_neg fun q => h (decide_eq_true q)]; exact Has.ret rfl
theorem skyPart_ok {x r : Int} (h1 : -33554432 ≤ x) (h2 : x ≤ 33554432) (r0 : 65536 ≤ r) (r1 : r ≤ 67108864) : sky_Pull_1 x r = some (partZ x r) := (skyPartB h1 h2 r0 r1).1
def inV (v : Vec) : Prop := (-4194304 ≤ v.X ∧ v.X ≤ 4194304) ∧ (-4194304 ≤ v.Y ∧ v.Y ≤ 4194304) ∧ (-4194304 ≤ v.Z ∧ v.Z ≤ 4194304)
instance (v : Vec) : Decidable (inV v) := inferInstanceAs (Decidable (_ ∧ _))
theorem within_round {v : Vec} {k k' x : Int} (hk : (0 : Int) ≤ k ∧ k < 3) (e : gt ([v.X, v.Y, v.Z] : List Int) k = x) (ek : w6 (k + 1) = k') :
  (-4194304 ≤ x ∧ x ≤ 4194304 → sky_within.l1 v 4194304 k = some (.next k')) ∧ (¬ (-4194304 ≤ x ∧ x ≤ 4194304) → sky_within.l1 v 4194304 k = some (.done (.done false))) := by
 have hl : k < (([v.X, v.Y, v.Z] : List Int).length : Int) := hk.2
 have em : w6 (0 - 4194304) = -4194304 := by decide
 unfold sky_within.l1
 rw [if_pos (decide_eq_true hk.2), if_pos ⟨hk.1, hl⟩, e, ek, em]
 simp only [letF]
 constructor
 ·intro h
  have g1 : ¬ x < -4194304 := by omega
  have g2 : ¬ x > 4194304 := by omega
  simp [g1, g2]
 ·intro h
  by_cases g1 : x < -4194304
  ·simp [g1]
  ·have g2 : x > 4194304 := by omega
   simp [g1, g2]
theorem within_ok (v : Vec) : sky_within v 4194304 = some (decide (inV v)) := by
 obtain ⟨x1, x2⟩ := within_round (v := v) (k := 0) (k' := 1) (x := v.X) (by decide) rfl (by decide)
 obtain ⟨y1, y2⟩ := within_round (v := v) (k := 1) (k' := 2) (x := v.Y) (by decide) rfl (by decide)
 obtain ⟨z1, z2⟩ := within_round (v := v) (k := 2) (k' := 3) (x := v.Z) (by decide) rfl (by decide)
 unfold sky_within
 by_cases n1 : -4194304 ≤ v.X ∧ v.X ≤ 4194304
 ·by_cases n2 : -4194304 ≤ v.Y ∧ v.Y ≤ 4194304
  ·by_cases n3 : -4194304 ≤ v.Z ∧ v.Z ≤ 4194304
   ·rw [(Run.next (x1 n1) (Run.next (y1 n2) (Run.next (z1 n3) (Run.done (o := .next ()) rfl)))).ok (by decide), decide_eq_true (show inV v from ⟨n1, n2, n3⟩)]; rfl
   ·rw [(Run.next (x1 n1) (Run.next (y1 n2) (Run.done (z2 n3)))).ok (by decide), decide_eq_false (show ¬ inV v from fun h => n3 h.2.2)]; rfl
  ·rw [(Run.next (x1 n1) (Run.done (y2 n2))).ok (by decide), decide_eq_false (show ¬ inV v from fun h => n2 h.2.1)]; rfl
 ·rw [(Run.done (x2 n1)).ok (by decide), decide_eq_false (show ¬ inV v from fun h => n1 h.1)]; rfl
def isG (v g : Vec) : Prop := ∃ r, isRt (v.X * v.X + v.Y * v.Y + v.Z * v.Z) r ∧ ((r < 65536 ∧ g = ⟨0, 0, 0⟩) ∨ (65536 ≤ r ∧ g = ⟨partZ v.X r, partZ v.Y r, partZ v.Z r⟩))
theorem sq44 {x : Int} (h : -4194304 ≤ x ∧ x ≤ 4194304) : 0 ≤ x * x ∧ x * x ≤ 17592186044416 := by
 rcases Int.le_total 0 x with h0 | h0
 ·have p := Int.mul_nonneg h0 h0
  have q := Int.mul_le_mul h.2 h.2 h0 (by decide)
  omega
 ·have e : x * x = (-x) * (-x) := by rw [Int.neg_mul_neg]
  have p := Int.mul_nonneg (a := -x) (b := -x) (by omega) (by omega)
  have q := Int.mul_le_mul (a := -x) (b := -x) (c := 4194304) (d := 4194304) (by omega) (by omega) (by omega) (by decide)
  omega
theorem isG.bd {v g : Vec} (hv : inV v) (h : isG v g) : (-1073741824 ≤ g.X ∧ g.X ≤ 1073741824) ∧ (-1073741824 ≤ g.Y ∧ g.Y ≤ 1073741824) ∧ (-1073741824 ≤ g.Z ∧ g.Z ≤ 1073741824) := by
 obtain ⟨r, hr, h⟩ := h
 obtain ⟨⟨a1, a2⟩, ⟨b1, b2⟩, ⟨c1, c2⟩⟩ := hv
 have s1 := sq44 ⟨a1, a2⟩; have s2 := sq44 ⟨b1, b2⟩; have s3 := sq44 ⟨c1, c2⟩
 rcases h with ⟨_, rfl⟩ | ⟨r0, rfl⟩
 ·decide
 ·have r1 : r < 67108864 := sq_lt hr.r0 (by decide) (by have := hr.lo; omega)
  exact ⟨(skyPartB (by omega) (by omega) r0 (by omega)).2, (skyPartB (by omega) (by omega) r0 (by omega)).2, (skyPartB (by omega) (by omega) r0 (by omega)).2⟩
theorem skyPull_ok {v : Vec} (hv : inV v) : Has (sky_Pull v) fun g => isG v g := by
 have hv0 := hv
 obtain ⟨⟨a1, a2⟩, ⟨b1, b2⟩, ⟨c1, c2⟩⟩ := hv
 have s1 := sq44 ⟨a1, a2⟩; have s2 := sq44 ⟨b1, b2⟩; have s3 := sq44 ⟨c1, c2⟩
 unfold sky_Pull
 rw [within_ok, decide_eq_true hv0, w6_in (n := v.X * v.X) (by omega), w6_in (n := v.Y * v.Y) (by omega), w6_in (n := v.X * v.X + v.Y * v.Y) (by omega), w6_in (n := v.Z * v.Z) (by omega), w6_in (n := v.X * v.X + v.Y * v.Y + v.Z * v.Z) (by omega)]
 simp only [Option.bind_some, Bool.not_true, Bool.false_eq_true, if_false]
 refine Has.letF ((sqrt_ok _ (by omega)).bind fun r hr => ?_)
 have r1 : r < 67108864 := sq_lt hr.r0 (by decide) (by have := hr.lo; omega)
 refine Has.ite (fun h => Has.ret ⟨r, hr, .inl ⟨of_decide_eq_true h, rfl⟩⟩) fun h => ?_
 have r0 : 65536 ≤ r := by have : ¬ r < 65536 := fun q => h (decide_eq_true q); omega
 rw [skyPart_ok (by omega) (by omega) r0 (by omega), skyPart_ok (by omega) (by omega) r0 (by omega), skyPart_ok (by omega) (by omega) r0 (by omega)]
 exact Has.ret ⟨r, hr, .inr ⟨r0, rfl⟩⟩
def nextV (was here g : Vec) : Vec := ⟨2 * here.X - was.X + g.X, 2 * here.Y - was.Y + g.Y, 2 * here.Z - was.Z + g.Z⟩
theorem skyStep_ok {was here : Vec} (hw : inV was) (hh : inV here) : Has (sky_Step was here) fun r => ∃ g, isG here g ∧ ((r.2 = 0 ∧ inV (nextV was here g) ∧ r.1 = nextV was here g) ∨ (r.2 = 18 ∧ ¬ inV (nextV was here g))) := by
 unfold sky_Step
 rw [within_ok, within_ok, decide_eq_true hw, decide_eq_true hh]
 simp only [Option.bind_some, Bool.not_true, Bool.false_eq_true, if_false]
 refine (skyPull_ok hh).bind fun g hg => ?_
 have bg := hg.bd hh
 obtain ⟨⟨a1, a2⟩, ⟨b1, b2⟩, ⟨c1, c2⟩⟩ := hh
 obtain ⟨⟨d1, d2⟩, ⟨e1, e2⟩, ⟨f1, f2⟩⟩ := hw
 rw [w6_in (n := 2 * here.X) (by omega), w6_in (n := 2 * here.X - was.X) (by omega), w6_in (n := 2 * here.X - was.X + g.X) (by omega), w6_in (n := 2 * here.Y) (by omega), w6_in (n := 2 * here.Y - was.Y) (by omega), w6_in (n := 2 * here.Y - was.Y + g.Y) (by omega), w6_in (n := 2 * here.Z) (by omega), w6_in (n := 2 * here.Z - was.Z) (by omega), w6_in (n := 2 * here.Z - was.Z + g.Z) (by omega)]
 have en : Vec.mk (2 * here.X - was.X + g.X) (2 * here.Y - was.Y + g.Y) (2 * here.Z - was.Z + g.Z) = nextV was here g := rfl
 rw [en, within_ok]
 simp only [Option.bind_some]
 by_cases h : inV (nextV was here g)
 ·rw [decide_eq_true h]; exact Has.ret ⟨g, hg, .inl ⟨rfl, h, rfl⟩⟩
 ·rw [decide_eq_false h]; exact Has.ret ⟨g, hg, .inr ⟨rfl, h⟩⟩
theorem moves_ok {b : Body} (h1 : inV b.Was) (h2 : inV b.Here) : sky_moves b = some true := by
 unfold sky_moves
 rw [within_ok, within_ok, decide_eq_true h1, decide_eq_true h2]; rfl
end Lf
/- Sightings: the box holds a multiple of the vector; their rays. -/
namespace Lf
open Go Go.Abs
set_option linter.unusedVariables false
set_option linter.unusedSimpArgs false
theorem three {i : Int} (i0 : 0 ≤ i) (i1 : i < 3) : i = 0 ∨ i = 1 ∨ i = 2 := by omega
def at3 (p : Place3) (i : Int) : Bound := gt ([p.1, p.2.1, p.2.2] : List Bound) i
theorem at3_ok {p : Place3} (h : ok3 p) {i : Int} (i0 : 0 ≤ i) (i1 : i < 3) : (at3 p i).ok := by
 have : i = 0 ∨ i = 1 ∨ i = 2 := by omega
 rcases this with rfl | rfl | rfl
 ·exact h.x
 ·exact h.y
 ·exact h.z
def set3 (p : Place3) (i : Int) (b : Bound) : Place3 := (gt (List.set ([p.1, p.2.1, p.2.2] : List Bound) i.toNat b) 0, gt (List.set ([p.1, p.2.1, p.2.2] : List Bound) i.toNat b) 1, gt (List.set ([p.1, p.2.1, p.2.2] : List Bound) i.toNat b) 2)
theorem loop3 {body : Place3 × Int → Option (Step (Place3 × Int) Place3)} (f : Int → Bound) (init : Place3) (round : ∀ st i, 0 ≤ i → i < 3 → body (st, i) = some (.next (set3 st i (f i), i + 1))) (fin : ∀ st, body (st, 3) = some (.done st)) : loopF body (init, 0) = some (f 0, f 1, f 2) := by
 have r := (Run.next (round init 0 (by decide) (by decide)) (Run.next (round (set3 init 0 (f 0)) 1 (by decide) (by decide)) (Run.next (round (set3 (set3 init 0 (f 0)) 1 (f 1)) 2 (by decide) (by decide)) (Run.done (fin _))))).ok (by decide)
 exact r
theorem set3_twice (p : Place3) {i : Int} (i0 : 0 ≤ i) (i1 : i < 3) (a b : Bound) : set3 (set3 p i a) i b = set3 p i b := by
 rcases three i0 i1 with rfl | rfl | rfl <;> rfl
theorem at3_set3 (p : Place3) {i : Int} (i0 : 0 ≤ i) (i1 : i < 3) (a : Bound) : at3 (set3 p i a) i = a := by
 rcases three i0 i1 with rfl | rfl | rfl <;> rfl
theorem at3_def (p : Place3) (k : Int) : gt ([p.1, p.2.1, p.2.2] : List Bound) k = at3 p k := rfl
theorem at3_mk (a b c : Bound) (k : Int) : gt ([a, b, c] : List Bound) k = at3 (a, b, c) k := rfl
def addV (a b : Vec) : Vec := ⟨a.X + b.X, a.Y + b.Y, a.Z + b.Z⟩
def subV (a b : Vec) : Vec := ⟨a.X - b.X, a.Y - b.Y, a.Z - b.Z⟩
structure sighted (b : Box) (v : Vec) (k : Int) : Prop where
 cx : coordB b.X
 cy : coordB b.Y
 cz : coordB b.Z
 k1 : 1 ≤ k
 x : b.X.Lo ≤ k * v.X ∧ k * v.X ≤ b.X.Hi
 y : b.Y.Lo ≤ k * v.Y ∧ k * v.Y ≤ b.Y.Hi
 z : b.Z.Lo ≤ k * v.Z ∧ k * v.Z ≤ b.Z.Hi
 n : 1 ≤ nLo b.X b.Y b.Z
def sqs (v : Vec) : Int := v.X * v.X + v.Y * v.Y + v.Z * v.Z
def coV (v : Vec) (i : Int) : Int := if i = 0 then v.X else if i = 1 then v.Y else v.Z
theorem sighted.ray {b : Box} {v : Vec} {k : Int} (h : sighted b v k) : Has (arc_Ray b) fun r => r.2 = true ∧ ok3 r.1 ∧ ∀ A : Int, 0 ≤ A → A * A ≤ sqs v → ∃ t : Int, 1 ≤ t ∧ 1048576 * k * A ≤ t ∧ (∀ B : Int, 0 ≤ B → sqs v ≤ B * B → t ≤ 1048576 * k * B) ∧ ∀ i : Int, 0 ≤ i → i < 3 → hasR (at3 r.1 i) (k * coV v i * 1125899906842624) t := by
 refine (ray_ok h.cx h.cy h.cz h.n).mono fun r ⟨r1, L, hr⟩ => ⟨r1, ⟨by rw [hr.e1]; exact meetOne_ok, by rw [hr.e2]; exact meetOne_ok, by rw [hr.e3]; exact meetOne_ok⟩, fun A A0 hA => ?_⟩
 have e : (k * v.X * (k * v.X) + k * v.Y * (k * v.Y) + k * v.Z * (k * v.Z)) * 1099511627776 = 1048576 * k * (1048576 * k) * sqs v := by unfold sqs; grind
 have kk : 0 ≤ 1048576 * k * (1048576 * k) := Int.mul_nonneg (by have := h.k1; omega) (by have := h.k1; omega)
 obtain ⟨t, c1, c2, c3, c4, c5, c6, c7⟩ := hr.wit (A := 1048576 * k * A) h.x h.y h.z (by
  rw [e]
  have m := Int.mul_le_mul_of_nonneg_left hA kk
  have e2 : 1048576 * k * A * (1048576 * k * A) = 1048576 * k * (1048576 * k) * (A * A) := by grind
  omega)
 have has := hr.has h.cx h.cy h.cz c1 c2 h.x h.y h.z c3 c4 c5
 refine ⟨t, by have := hr.p; omega, c6, fun B b0 hB => c7 _ (Int.mul_nonneg (by have := h.k1; omega) b0) ?_, fun i i0 i1 => ?_⟩
 ·rw [e]
  have m := Int.mul_le_mul_of_nonneg_left hB kk
  have e2 : 1048576 * k * B * (1048576 * k * B) = 1048576 * k * (1048576 * k) * (B * B) := by grind
  omega
 ·have : i = 0 ∨ i = 1 ∨ i = 2 := by omega
  rcases this with rfl | rfl | rfl
  ·exact has.1
  ·exact has.2.1
  ·exact has.2.2
theorem sqs_nonneg (v : Vec) : 0 ≤ sqs v := by
 have q : ∀ x : Int, 0 ≤ x * x := fun x => by rcases Int.le_total 0 x with q | q; exact Int.mul_nonneg q q; exact Int.mul_nonneg_of_nonpos_of_nonpos q q
 have := q v.X; have := q v.Y; have := q v.Z
 unfold sqs; omega
end Lf
/- tracklet.CheckSeen of a sighting, arc.Check of three. -/
namespace Lf
open Go Go.Abs
set_option linter.unusedVariables false
set_option linter.unusedSimpArgs false
structure seenOK (s : Seen) (v : Vec) (k : Int) : Prop where
 b : sighted s.Box v k
 a : s.At.ok
 au : s.At.Unknown = false
 al : -17592186044416 ≤ s.At.Lo
 ah : s.At.Hi ≤ 17592186044416
 ae : s.At.Lo = s.At.Hi
 ad : Int.tmod s.At.Lo 86400000 = 0
 f : inV s.From
 x : s.Flux.ok
structure plainSeen (s : Seen) : Prop where
 cx : coordB s.Box.X
 cy : coordB s.Box.Y
 cz : coordB s.Box.Z
 a : s.At.ok
 au : s.At.Unknown = false
 al : -17592186044416 ≤ s.At.Lo
 ah : s.At.Hi ≤ 17592186044416
 f : inV s.From
 x : s.Flux.ok
theorem plainSeen.at {s : Seen} (h : plainSeen s) {i : Int} (i0 : 0 ≤ i) (i1 : i < 3) : coordB (at3 (s.Box.X, s.Box.Y, s.Box.Z) i) := by
 rcases three i0 i1 with rfl | rfl | rfl
 ·exact h.cx
 ·exact h.cy
 ·exact h.cz
theorem checkSeenP_ok {s : Seen} (h : plainSeen s) : tracklet_CheckSeen s = some 0 := by
 obtain ⟨⟨fx1, fx2⟩, ⟨fy1, fy2⟩, fz1, fz2⟩ := h.f
 have al := h.al; have ah := h.ah
 apply Has.val
 unfold tracklet_CheckSeen
 rw [check_ok h.a, h.au]
 simp only [Option.bind_some, bne_self_eq_false, Bool.false_eq_true, if_false]
 refine Has.bind (P := fun z => z = false) (Has.neg (fun q => by have := of_decide_eq_true q; omega) (Has.ret (decide_eq_false (by omega)))) fun z hz => Has.neg (by rw [hz]; decide) ?_
 rw [mx2_max, mx2_max, mn2_min, mn2_min]
 refine Has.bind (P := fun z => z = false) (Has.neg (fun q => by have := of_decide_eq_true q; omega) (Has.ret (decide_eq_false (by omega)))) fun z hz => Has.neg (by rw [hz]; decide) ?_
 refine Has.seq (P := fun t : Step Unit Int => t = .next ()) ?_ (fun _ _ => ?_) fun o ho => by cases ho
 ·refine Has.loop (fun i : Int => 0 ≤ i ∧ i ≤ 3) (fun i => (3 - i).toNat) _ ⟨Int.le_refl _, by decide⟩ (by decide) fun i ⟨i0, i1⟩ => ?_
  unfold tracklet_CheckSeen.l1
  refine Has.letF (Has.ite (fun hi => ?_) fun hi => Has.ret (.done rfl))
  have hi : i < 3 := of_decide_eq_true hi
  have c := h.at i0 hi
  refine Has.chk ⟨i0, hi⟩ ?_
  simp only [at3_mk]
  have cl := c.lo; have ch := c.hi
  rw [check_ok c.ok, w6_in (n := i + 1) (by omega)]
  simp only [Option.bind_some, bne_self_eq_false, Bool.false_eq_true, if_false]
  refine Has.bind (P := fun z => z = false) (Has.letF (Has.neg (fun q => by have := of_decide_eq_true q; omega) (Has.letF (Has.ret (decide_eq_false (by omega)))))) fun z hz => Has.neg (by rw [hz]; decide) (Has.ret (.next ⟨by omega, by omega⟩ (by omega)))
 ·rw [check_ok h.x]; exact Has.ret rfl
theorem checkSeen_ok {s : Seen} {v : Vec} {k : Int} (h : seenOK s v k) : tracklet_CheckSeen s = some 0 := checkSeenP_ok ⟨h.b.cx, h.b.cy, h.b.cz, h.a, h.au, h.al, h.ah, h.f, h.x⟩
theorem arcCheck_ok {s : Seen × Seen × Seen} {v0 v1 v2 : Vec} {k0 k1 k2 : Int} (h0 : seenOK s.1 v0 k0) (h1 : seenOK s.2.1 v1 k1) (h2 : seenOK s.2.2 v2 k2) (d1 : s.2.1.At.Lo - s.1.At.Lo = 86400000) (d2 : s.2.2.At.Lo - s.2.1.At.Lo = 86400000) : arc_Check s = some 0 := by
 have one : ∀ i : Int, 0 ≤ i → i < 3 → ∃ v k, seenOK (gt ([s.1, s.2.1, s.2.2] : List Seen) i) v k := fun i i0 i1 => by
  rcases three i0 i1 with rfl | rfl | rfl
  ·exact ⟨v0, k0, h0⟩
  ·exact ⟨v1, k1, h1⟩
  ·exact ⟨v2, k2, h2⟩
 apply Has.val
 unfold arc_Check
 refine Has.seq (P := fun t : Step Unit Int => t = .next ()) ?_ (fun _ _ => ?_) fun o ho => by cases ho
 ·refine Has.loop (fun i : Int => 0 ≤ i ∧ i ≤ 3) (fun i => (3 - i).toNat) _ ⟨Int.le_refl _, by decide⟩ (by decide) fun i ⟨i0, i1⟩ => ?_
  unfold arc_Check.l1
  refine Has.ite (fun hi => ?_) fun hi => Has.ret (.done rfl)
  have hi : i < 3 := of_decide_eq_true hi
  obtain ⟨v, k, h⟩ := one i i0 hi
  refine Has.chk ⟨i0, hi⟩ ?_
  rw [checkSeen_ok h, w6_in (n := i + 1) (by omega)]
  generalize gt ([s.1, s.2.1, s.2.2] : List Seen) i = q at h
  simp only [Option.bind_some, bne_self_eq_false, Bool.false_eq_true, if_false]
  refine Has.bind (P := fun z => z = false) (Has.letF (Has.neg (by rw [h.ae]; simp) (Has.letF (Has.ret (by rw [h.ad]; rfl))))) fun z hz => Has.neg (by rw [hz]; decide) ?_
  refine Has.bind (P := fun z => z = false) (Has.neg (by rw [h.b.cx.u]; decide) (Has.neg (by rw [h.b.cy.u]; decide) (Has.ret h.b.cz.u))) fun z hz => Has.neg (by rw [hz]; decide) ?_
  exact Has.ret (.next ⟨by omega, by omega⟩ (by omega))
 ·rw [d1, d2]
  refine Has.bind (P := fun z => z = false) (Has.neg (by decide) (Has.ret (by decide))) fun z hz => Has.neg (by rw [hz]; decide) ?_
  refine Has.seq (P := fun t : Step Unit Int => t = .next ()) ?_ (fun _ _ => Has.ret rfl) fun o ho => by cases ho
  refine Has.loop (fun i : Int => 0 ≤ i ∧ i ≤ 3) (fun i => (3 - i).toNat) _ ⟨Int.le_refl _, by decide⟩ (by decide) fun i ⟨i0, i1⟩ => ?_
  unfold arc_Check.l2
  refine Has.ite (fun hi => ?_) fun hi => Has.ret (.done rfl)
  have hi : i < 3 := of_decide_eq_true hi
  obtain ⟨v, k, h⟩ := one i i0 hi
  refine Has.chk ⟨i0, hi⟩ (h.b.ray.bind fun r ⟨r1, _, _⟩ => ?_)
  rw [w6_in (n := i + 1) (by omega)]
  exact Has.neg (by rw [r1]; decide) (Has.ret (.next ⟨by omega, by omega⟩ (by omega)))
end Lf
/- A bound that is drawn. -/
namespace Lf
open Go Go.Abs
set_option linter.unusedVariables false
set_option linter.unusedSimpArgs false
theorem bnd_ok (s : spymake_Stream) (most : Int) (hs : okS s) (ha : s.at_ ≤ 4611686018427380000) (hm : 0 ≤ most ∧ most ≤ 4294967296) :
  Has (spymake_Bound s most) fun r => r.1.ok ∧ after s r.2 3 := by
 unfold spymake_Bound
 refine (next_ok s 8 hs (by omega) (by omega)).bind fun r ⟨g1, g2, g3⟩ => ?_
 have ht := g3.ok hs (by omega)
 have hh := g3.hi
 rw [w6_in (by omega), Int.zero_sub]
 refine Has.ite (fun _ => Has.ret ⟨okNone, g3.more (by omega)⟩) fun _ => Has.ite (fun _ => ?_) fun _ => ?_
 ·exact (range_ok r.2 (-most) most ht (by omega) (by omega) (by omega) (by omega)).bind fun q ⟨k1, k2, k3⟩ => Has.ret ⟨okKnown (by omega) (Int.le_refl _) (by omega), (g3.trans k3).more (by omega)⟩
 ·refine (range_ok r.2 (-most) most ht (by omega) (by omega) (by omega) (by omega)).bind fun q ⟨k1, k2, k3⟩ => ?_
  have hr := k3.ok ht (by omega)
  have hh' := k3.hi
  refine (range_ok q.2 (-most) most hr (by omega) (by omega) (by omega) (by omega)).bind fun u ⟨q1, q2, q3⟩ => Has.ret ⟨okKnown ?_ ?_ ?_, (g3.trans k3).trans q3 |>.more (by omega)⟩
  ·unfold mn2; split <;> omega
  ·unfold mn2 mx2; split <;> split <;> omega
  ·unfold mx2; split <;> omega
end Lf
/- Places and bodies that are drawn. -/
namespace Lf
open Go Go.Abs
set_option linter.unusedVariables false
set_option linter.unusedSimpArgs false
theorem tdiv_bd {x k m : Int} (hk : 0 < k) (h1 : -m ≤ x) (h2 : x ≤ m) : -m ≤ Int.tdiv x k ∧ Int.tdiv x k ≤ m := by
 rcases Int.le_total 0 x with h | h
 ·rw [Int.tdiv_eq_ediv_of_nonneg h]
  have a := Int.ediv_nonneg h (Int.le_of_lt hk)
  have b := Int.ediv_le_self k h
  omega
 ·have e : Int.tdiv x k = -((-x) / k) := by rw [← Int.tdiv_eq_ediv_of_nonneg (a := -x) (by omega), Int.neg_tdiv, Int.neg_neg]
  have a := Int.ediv_nonneg (a := -x) (by omega) (Int.le_of_lt hk)
  have b := Int.ediv_le_self k (a := -x) (by omega)
  omega
theorem place_ok (s : spymake_Stream) (dist : Int) (hs : okS s) (ha : s.at_ ≤ 4611686018427000000) (d0 : 1 ≤ dist) (d1 : dist ≤ 4) :
  Has (Stream_Place s dist) fun r => inV r.1 ∧ (-(dist * 1048576) ≤ r.1.X ∧ r.1.X ≤ dist * 1048576) ∧ (-(dist * 1048576) ≤ r.1.Y ∧ r.1.Y ≤ dist * 1048576) ∧ (-(dist * 1048576) ≤ r.1.Z ∧ r.1.Z ≤ dist * 1048576) ∧ after s r.2 3 := by
 unfold Stream_Place
 rw [Int.zero_sub, w6_in (n := dist * 1048576) (by omega), w6_in (n := -(dist * 1048576)) (by omega)]
 refine (range_ok s _ _ hs (by omega) (by omega) (by omega) (by omega)).bind fun a ⟨a1, a2, a3⟩ => ?_
 have hA := a3.ok hs (by omega); have hhA := a3.hi
 refine (range_ok a.2 _ _ hA (by omega) (by omega) (by omega) (by omega)).bind fun b ⟨b1, b2, b3⟩ => ?_
 have hB := b3.ok hA (by omega); have hhB := b3.hi
 refine (range_ok b.2 _ _ hB (by omega) (by omega) (by omega) (by omega)).bind fun c ⟨c1, c2, c3⟩ => ?_
 have q1 := tdiv_bd (k := 4) (by decide) c1 c2
 rw [w6_in (by omega)]
 exact Has.ret ⟨⟨by simp only []; omega, by simp only []; omega, by simp only []; omega⟩, ⟨a1, a2⟩, ⟨b1, b2⟩, q1, ((a3.trans b3).trans c3).more (by omega)⟩
theorem rates_at (v : Int) (h : 0 ≤ v ∧ v < 6) : 50 ≤ gt ([50, 500, 5000, 5000, 40000, 1048577] : List Int) v ∧ gt ([50, 500, 5000, 5000, 40000, 1048577] : List Int) v ≤ 1048577 := by
 have : v = 0 ∨ v = 1 ∨ v = 2 ∨ v = 3 ∨ v = 4 ∨ v = 5 := by omega
 rcases this with rfl | rfl | rfl | rfl | rfl | rfl <;> decide
theorem rate_ok (s : spymake_Stream) (hs : okS s) (ha : s.at_ ≤ 4611686018427001000) : Has (Stream_rate s) fun r => 0 ≤ r.1 ∧ r.1 ≤ 1048576 ∧ after s r.2 2 := by
 unfold Stream_rate
 refine (next_ok s 6 hs (by omega) (by omega)).bind fun a ⟨a1, a2, a3⟩ => ?_
 have hA := a3.ok hs (by omega); have hhA := a3.hi
 have g := rates_at a.1 ⟨a1, a2⟩
 refine Has.chk ⟨a1, a2⟩ ((next_ok a.2 _ hA (by omega) (by omega)).bind fun b ⟨b1, b2, b3⟩ => Has.ret ⟨b1, by omega, (a3.trans b3).more (by omega)⟩)
theorem runs_at (v : Int) (h : 0 ≤ v ∧ v < 3) : 1000 ≤ gt ([1000, 90000, 150000] : List Int) v ∧ gt ([1000, 90000, 150000] : List Int) v ≤ 150000 := by
 have : v = 0 ∨ v = 1 ∨ v = 2 := by omega
 rcases this with rfl | rfl | rfl <;> decide
theorem clamp_ok (v : Vec) : Has (spymake_within v) fun r => inV r ∧ (inV v → r = v) := by
 have c : ∀ x : Int, -4194304 ≤ mx2 (-4194304) (mn2 4194304 x) ∧ mx2 (-4194304) (mn2 4194304 x) ≤ 4194304 ∧ (-4194304 ≤ x ∧ x ≤ 4194304 → mx2 (-4194304) (mn2 4194304 x) = x) := fun x => by
  rw [mx2_max, mn2_min]; omega
 unfold spymake_within spymake_within_1
 simp only [Option.bind_some]
 refine Has.ret ⟨⟨⟨(c v.X).1, (c v.X).2.1⟩, ⟨(c v.Y).1, (c v.Y).2.1⟩, ⟨(c v.Z).1, (c v.Z).2.1⟩⟩, fun h => ?_⟩
 rw [(c v.X).2.2 h.1, (c v.Y).2.2 h.2.1, (c v.Z).2.2 h.2.2]
theorem body_ok (s : spymake_Stream) (id : Int) (here : Vec) (hs : okS s) (ha : s.at_ ≤ 4611686018427000000) : Has (Stream_Body s id here) fun r => inV r.1.Was ∧ inV r.1.Here ∧ (inV here → r.1.Here = here) ∧ r.1.ID = id ∧ (0 ≤ r.1.Rate ∧ r.1.Rate ≤ 1048576) ∧ after s r.2 6 := by
 unfold Stream_Body
 refine (next_ok s 3 hs (by omega) (by omega)).bind fun a ⟨a1, a2, a3⟩ => Has.chk ⟨a1, a2⟩ ?_
 have hA := a3.ok hs (by omega); have hhA := a3.hi
 have g := runs_at a.1 ⟨a1, a2⟩
 rw [Int.zero_sub, w6_in (n := -(gt ([1000, 90000, 150000] : List Int) a.1)) (by omega)]
 refine (range_ok a.2 _ _ hA (by omega) (by omega) (by omega) (by omega)).bind fun b ⟨b1, b2, b3⟩ => ?_
 have hB := b3.ok hA (by omega); have hhB := b3.hi
 refine (range_ok b.2 _ _ hB (by omega) (by omega) (by omega) (by omega)).bind fun c ⟨c1, c2, c3⟩ => ?_
 have hC := c3.ok hB (by omega); have hhC := c3.hi
 refine (range_ok c.2 _ _ hC (by omega) (by omega) (by omega) (by omega)).bind fun d ⟨d1, d2, d3⟩ => ?_
 have hD := d3.ok hC (by omega); have hhD := d3.hi
 refine (clamp_ok _).bind fun e ⟨e1, e2⟩ => (clamp_ok here).bind fun f ⟨f1, f2⟩ => (rate_ok d.2 hD (by omega)).bind fun k ⟨k1, k2, k3⟩ => Has.ret ⟨e1, f1, f2, rfl, ⟨k1, k2⟩, ((((a3.trans b3).trans c3).trans d3).trans k3).more (by omega)⟩
end Lf
/- Boxes around multiples of a vector. -/
namespace Lf
open Go Go.Abs
set_option linter.unusedVariables false
set_option linter.unusedSimpArgs false
theorem held1_ok (c p1 p3 : Int) (s : spymake_Stream) (hs : okS s) (ha : s.at_ ≤ 4611686018427000000) (hc : -1152921504606846976 ≤ p1 * c ∧ p1 * c ≤ 1152921504606846976) (h3 : 0 ≤ p3 ∧ p3 ≤ 1000000000) :
  Has (Stream_Held_1 c p1 s p3) fun r => r.1.Unknown = false ∧ p1 * c - p3 ≤ r.1.Lo ∧ r.1.Lo ≤ p1 * c ∧ p1 * c ≤ r.1.Hi ∧ r.1.Hi ≤ p1 * c + p3 ∧ after s r.2 2 := by
 unfold Stream_Held_1
 rw [w6_in (n := p3 + 1) (by omega), w6_in (n := p1 * c) (by omega)]
 refine (next_ok s (p3 + 1) hs (by omega) (by omega)).bind fun a ⟨a1, a2, a3⟩ => ?_
 have hA := a3.ok hs (by omega); have hhA := a3.hi
 refine (next_ok a.2 (p3 + 1) hA (by omega) (by omega)).bind fun b ⟨b1, b2, b3⟩ => ?_
 rw [w6_in (by omega), w6_in (by omega)]
 exact Has.ret ⟨rfl, by simp only []; omega, by simp only []; omega, by simp only []; omega, by simp only []; omega, (a3.trans b3).more (by omega)⟩
structure heldB (b : Bound) (k c most : Int) : Prop where
 u : b.Unknown = false
 l0 : k * c - most ≤ b.Lo
 l1 : b.Lo ≤ k * c
 h0 : k * c ≤ b.Hi
 h1 : b.Hi ≤ k * c + most
def smallV (v : Vec) : Prop := (-1099511627776 ≤ v.X ∧ v.X ≤ 1099511627776) ∧ (-1099511627776 ≤ v.Y ∧ v.Y ≤ 1099511627776) ∧ (-1099511627776 ≤ v.Z ∧ v.Z ≤ 1099511627776)
theorem mul8 {k c : Int} (h1 : 1 ≤ k) (h8 : k ≤ 8) (hc : -1099511627776 ≤ c ∧ c ≤ 1099511627776) : -8796093022208 ≤ k * c ∧ k * c ≤ 8796093022208 := by
 have : k = 1 ∨ k = 2 ∨ k = 3 ∨ k = 4 ∨ k = 5 ∨ k = 6 ∨ k = 7 ∨ k = 8 := by omega
 rcases this with rfl | rfl | rfl | rfl | rfl | rfl | rfl | rfl <;> omega
theorem held_ok (s : spymake_Stream) (v : Vec) (most : Int) (hs : okS s) (ha : s.at_ ≤ 4611686018426000000) (hv : smallV v) (hm : 0 ≤ most ∧ most ≤ 1000000000) :
  Has (Stream_Held s v most) fun r => (∃ k : Int, 1 ≤ k ∧ k ≤ 8 ∧ heldB r.1.X k v.X most ∧ heldB r.1.Y k v.Y most ∧ heldB r.1.Z k v.Z most) ∧ after s r.2 7 := by
 unfold Stream_Held
 refine (range_ok s 1 8 hs (by omega) (by omega) (by omega) (by omega)).bind fun a ⟨a1, a2, a3⟩ => ?_
 have hA := a3.ok hs (by omega); have hhA := a3.hi
 have mx := mul8 a1 a2 hv.1; have my := mul8 a1 a2 hv.2.1; have mz := mul8 a1 a2 hv.2.2
 refine (held1_ok v.X a.1 most a.2 hA (by omega) (by omega) hm).bind fun b ⟨b0, b1, b2, b3, b4, b5⟩ => ?_
 have hB := b5.ok hA (by omega); have hhB := b5.hi
 refine (held1_ok v.Y a.1 most b.2 hB (by omega) (by omega) hm).bind fun c ⟨c0, c1, c2, c3, c4, c5⟩ => ?_
 have hC := c5.ok hB (by omega); have hhC := c5.hi
 refine (held1_ok v.Z a.1 most c.2 hC (by omega) (by omega) hm).bind fun d ⟨d0, d1, d2, d3, d4, d5⟩ => ?_
 exact Has.ret ⟨⟨a.1, a1, a2, ⟨b0, b1, b2, b3, b4⟩, ⟨c0, c1, c2, c3, c4⟩, ⟨d0, d1, d2, d3, d4⟩⟩, (((a3.trans b5).trans c5).trans d5).more (by omega)⟩
end Lf
/- Three sightings of a body that moves by sky.Step, as they are drawn. -/
namespace Lf
open Go Go.Abs
set_option linter.unusedVariables false
set_option linter.unusedSimpArgs false
def at3S (p : Seen × Seen × Seen) (i : Int) : Seen := gt ([p.1, p.2.1, p.2.2] : List Seen) i
def at3V (p : Vec × Vec × Vec) (i : Int) : Vec := gt ([p.1, p.2.1, p.2.2] : List Vec) i
theorem at3V_def (p : Vec × Vec × Vec) (i : Int) : gt ([p.1, p.2.1, p.2.2] : List Vec) i = at3V p i := rfl
def set3S (p : Seen × Seen × Seen) (i : Int) (x : Seen) : Seen × Seen × Seen := (gt (List.set ([p.1, p.2.1, p.2.2] : List Seen) i.toNat x) 0, gt (List.set ([p.1, p.2.1, p.2.2] : List Seen) i.toNat x) 1, gt (List.set ([p.1, p.2.1, p.2.2] : List Seen) i.toNat x) 2)
theorem at3S_same (p : Seen × Seen × Seen) {i : Int} (i0 : 0 ≤ i) (i1 : i < 3) (x : Seen) : at3S (set3S p i x) i = x := by
 rcases three i0 i1 with rfl | rfl | rfl <;> rfl
theorem at3S_other (p : Seen × Seen × Seen) {i j : Int} (i0 : 0 ≤ i) (i1 : i < 3) (j0 : 0 ≤ j) (j1 : j < 3) (h : j ≠ i) (x : Seen) : at3S (set3S p i x) j = at3S p j := by
 rcases three i0 i1 with rfl | rfl | rfl <;> rcases three j0 j1 with rfl | rfl | rfl <;> first | rfl | exact absurd rfl h
theorem at3V_in {p : Vec × Vec × Vec} (h0 : inV p.1) (h1 : inV p.2.1) (h2 : inV p.2.2) {i : Int} (i0 : 0 ≤ i) (i1 : i < 3) : inV (at3V p i) := by
 rcases three i0 i1 with rfl | rfl | rfl
 ·exact h0
 ·exact h1
 ·exact h2
structure night (x : Seen) (f a : Vec) (d most : Int) : Prop where
 t : x.At = ⟨d * 86400000, d * 86400000, false⟩
 place : x.From = f
 held : ∃ k : Int, 1 ≤ k ∧ k ≤ 8 ∧ heldB x.Box.X k (subV a f).X most ∧ heldB x.Box.Y k (subV a f).Y most ∧ heldB x.Box.Z k (subV a f).Z most
 flux : x.Flux.ok
theorem nights_ok (s : spymake_Stream) (day most : Int) (F A : Vec × Vec × Vec) (hs : okS s) (ha : s.at_ ≤ 4611686018425000000) (d0 : -1000 ≤ day) (d1 : day ≤ 1000) (f0 : inV F.1) (f1 : inV F.2.1) (f2 : inV F.2.2) (a0 : inV A.1) (a1 : inV A.2.1) (a2 : inV A.2.2) (m0 : 0 ≤ most) (m1 : most ≤ 1000) :
  Has (Stream_Nights s day F A most) fun r => after s r.2 30 ∧ ∀ i : Int, 0 ≤ i → i < 3 → night (at3S r.1 i) (at3V F i) (at3V A i) (day + i) most := by
 unfold Stream_Nights
 refine Has.bind (P := fun z : spymake_Stream × (Seen × Seen × Seen) => after s z.1 30 ∧ ∀ i : Int, 0 ≤ i → i < 3 → night (at3S z.2 i) (at3V F i) (at3V A i) (day + i) most) ?_ fun z hz => Has.ret hz
 refine Has.loop (fun q : spymake_Stream × (Seen × Seen × Seen) × Int => 0 ≤ q.2.2 ∧ q.2.2 ≤ 3 ∧ after s q.1 (10 * q.2.2) ∧ ∀ i : Int, 0 ≤ i → i < q.2.2 → night (at3S q.2.1 i) (at3V F i) (at3V A i) (day + i) most) (fun q => (3 - q.2.2).toNat) _ ⟨by simp only []; omega, by simp only []; omega, after.refl s, fun i i0 i1 => absurd i1 (by simp only []; omega)⟩ (by simp only []; decide) fun q ⟨q0, q1, q2, q3⟩ => ?_
 obtain ⟨t, p, i⟩ := q
 simp only [] at q0 q1 q2 q3
 unfold Stream_Nights.l1
 simp only []
 rw [at3V_def A, at3V_def F]
 refine Has.ite (fun hi => ?_) fun hi => Has.ret (.done ?_)
 ·have hi : i < 3 := of_decide_eq_true hi
  have fi := at3V_in f0 f1 f2 q0 hi
  have ai := at3V_in a0 a1 a2 q0 hi
  generalize ef : at3V F i = f at fi
  generalize ea : at3V A i = a at ai
  obtain ⟨⟨fx1, fx2⟩, ⟨fy1, fy2⟩, fz1, fz2⟩ := fi
  obtain ⟨⟨ax1, ax2⟩, ⟨ay1, ay2⟩, az1, az2⟩ := ai
  refine Has.chk ⟨q0, hi⟩ (Has.chk ⟨q0, hi⟩ (Has.letF (Has.letF (Has.letF ?_))))
  rw [w6_in (n := a.X - f.X) (by omega), w6_in (n := a.Y - f.Y) (by omega), w6_in (n := a.Z - f.Z) (by omega)]
  have hh := q2.hi
  have ht := q2.ok hs (by omega)
  refine (held_ok t (subV a f) most ht (by omega) ⟨by simp only [subV]; omega, by simp only [subV]; omega, by simp only [subV]; omega⟩ ⟨m0, by omega⟩).bind fun b ⟨hk, hb⟩ => ?_
  have hu := hb.ok ht (by omega)
  have hh2 := hb.hi
  refine (bnd_ok b.2 1000 hu (by omega) ⟨by decide, by decide⟩).bind fun c ⟨hc, hd⟩ => Has.chk ⟨q0, hi⟩ (Has.letF ?_)
  rw [w6_in (n := day + i) (by omega), w6_in (n := (day + i) * 86400000) (by omega), w6_in (n := i + 1) (by omega)]
  refine Has.ret (.next ⟨by simp only []; omega, by simp only []; omega, ((q2.trans hb).trans hd).more (by simp only []; omega), fun j j0 j1 => ?_⟩ (by simp only []; omega))
  show night (at3S (set3S p i _) j) (at3V F j) (at3V A j) (day + j) most
  by_cases e : j = i
  ·subst e
   rw [at3S_same p q0 hi, ef, ea]
   exact ⟨rfl, rfl, hk, hc⟩
  ·have j1 : j < i + 1 := j1
   rw [at3S_other p q0 hi j0 (by omega) e]
   exact q3 j j0 (by omega)
 ·have hi : ¬ i < 3 := fun g => hi (decide_eq_true g)
  have e : i = 3 := by omega
  subst e
  exact ⟨q2, q3⟩
def farB (x : Vec) : Bool := decide (mx2 (mx2 (mx2 (mx2 (mx2 x.X (-x.X)) x.Y) (-x.Y)) x.Z) (-x.Z) > 40000)
theorem farB_some {x : Vec} (h : farB x = true) : 40000 < x.X ∨ x.X < -40000 ∨ 40000 < x.Y ∨ x.Y < -40000 ∨ 40000 < x.Z ∨ x.Z < -40000 := by
 unfold farB at h
 rw [mx2_max, mx2_max, mx2_max, mx2_max, mx2_max] at h
 have := of_decide_eq_true h
 omega
theorem apart_loop {body : Bool × Int → Option (Step (Bool × Int) Bool)} {F A : Vec × Vec × Vec} (c : Bool) (round : ∀ b i, 0 ≤ i → i < 3 → body (b, i) = some (.next (b && farB (subV (at3V A i) (at3V F i)), i + 1))) (fin : ∀ b, body (b, 3) = some (.done b)) :
  Has (loopF body (c, 0)) fun z => z = true → c = true ∧ ∀ i : Int, 0 ≤ i → i < 3 → farB (subV (at3V A i) (at3V F i)) = true := by
 have r := (Run.next (round c 0 (by decide) (by decide)) (Run.next (round _ 1 (by decide) (by decide)) (Run.next (round _ 2 (by decide) (by decide)) (Run.done (fin _))))).ok (by decide)
 refine Has.eq r fun h => ?_
 simp only [Bool.and_eq_true] at h
 obtain ⟨⟨⟨h0, h1⟩, h2⟩, h3⟩ := h
 refine ⟨h0, fun i i0 i1 => ?_⟩
 rcases three i0 i1 with rfl | rfl | rfl
 ·exact h1
 ·exact h2
 ·exact h3
theorem apart_round {f a : Vec} (hf : inV f) (ha : inV a) (b : Bool) (i : Int) (i0 : 0 ≤ i) (i1 : i < 3) :
  (Option.bind (spykeep4_from f a) fun r18 => if b = true then letF (mx2 (mx2 (mx2 (mx2 (mx2 r18.X (w6 (0 - r18.X))) r18.Y) (w6 (0 - r18.Y))) r18.Z) (w6 (0 - r18.Z))) fun v20 => some (Step.next (O := Bool) (decide (v20 > 40000), w6 (i + 1))) else some (.next (false, w6 (i + 1)))) = some (.next (b && farB (subV a f), i + 1)) := by
 obtain ⟨⟨fx1, fx2⟩, ⟨fy1, fy2⟩, fz1, fz2⟩ := hf
 obtain ⟨⟨ax1, ax2⟩, ⟨ay1, ay2⟩, az1, az2⟩ := ha
 unfold spykeep4_from
 rw [w6_in (n := a.X - f.X) (by omega), w6_in (n := a.Y - f.Y) (by omega), w6_in (n := a.Z - f.Z) (by omega), w6_in (n := i + 1) (by omega)]
 simp only [Option.bind_some, Int.zero_sub]
 rw [w6_in (n := -(a.X - f.X)) (by omega), w6_in (n := -(a.Y - f.Y)) (by omega), w6_in (n := -(a.Z - f.Z)) (by omega)]
 cases b <;> rfl
theorem skyStep_in {was here : Vec} (hw : inV was) (hh : inV here) : Has (sky_Step was here) fun r => inV r.1 ∧ (r.2 = 0 → ∃ g, isG here g ∧ r.1 = nextV was here g) := by
 obtain ⟨r, e, g, hg, hr⟩ := skyStep_ok hw hh
 refine Has.eq e ?_
 rcases hr with ⟨r1, r2, r3⟩ | ⟨r1, r2⟩
 ·exact ⟨by rw [r3]; exact r2, fun _ => ⟨g, hg, r3⟩⟩
 ·refine ⟨?_, fun q => by rw [r1] at q; cases q⟩
  have e2 : sky_Step was here = some (⟨0, 0, 0⟩, 18) := by
   obtain ⟨q, eq, hq⟩ := skyPull_ok hh
   have bq := hq.bd hh
   have same : isG here q → isG here g → q = g := fun x y => by
    obtain ⟨a, ha, ka⟩ := x
    obtain ⟨b, hb, kb⟩ := y
    have := ha.uniq hb
    subst this
    rcases ka with ⟨k1, rfl⟩ | ⟨k1, rfl⟩ <;> rcases kb with ⟨k2, rfl⟩ | ⟨k2, rfl⟩ <;> first | rfl | omega
   have eqg := same hq hg
   subst eqg
   obtain ⟨⟨a1, a2⟩, ⟨b1, b2⟩, ⟨c1, c2⟩⟩ := hh
   obtain ⟨⟨d1, d2⟩, ⟨e1, e2⟩, ⟨f1, f2⟩⟩ := hw
   unfold sky_Step
   rw [within_ok, within_ok, decide_eq_true (p := inV was) ⟨⟨d1, d2⟩, ⟨e1, e2⟩, ⟨f1, f2⟩⟩, decide_eq_true (p := inV here) ⟨⟨a1, a2⟩, ⟨b1, b2⟩, ⟨c1, c2⟩⟩]
   simp only [Option.bind_some, Bool.not_true, Bool.false_eq_true, if_false]
   rw [eq]
   simp only [Option.bind_some]
   rw [w6_in (n := 2 * here.X) (by omega), w6_in (n := 2 * here.X - was.X) (by omega), w6_in (n := 2 * here.X - was.X + q.X) (by omega), w6_in (n := 2 * here.Y) (by omega), w6_in (n := 2 * here.Y - was.Y) (by omega), w6_in (n := 2 * here.Y - was.Y + q.Y) (by omega), w6_in (n := 2 * here.Z) (by omega), w6_in (n := 2 * here.Z - was.Z) (by omega), w6_in (n := 2 * here.Z - was.Z + q.Z) (by omega)]
   have en : Vec.mk (2 * here.X - was.X + q.X) (2 * here.Y - was.Y + q.Y) (2 * here.Z - was.Z + q.Z) = nextV was here q := rfl
   rw [en, within_ok, decide_eq_false r2]
   rfl
  rw [e] at e2
  rw [Option.some.inj e2]
  exact ⟨⟨by decide, by decide⟩, ⟨by decide, by decide⟩, by decide, by decide⟩
structure orbitOK (r : (Seen × Seen × Seen) × (Vec × Vec × Vec) × Bool × spymake_Stream) (F : Vec × Vec × Vec) (day most : Int) : Prop where
 f0 : inV F.1
 f1 : inV F.2.1
 f2 : inV F.2.2
 a0 : inV r.2.1.1
 a1 : inV r.2.1.2.1
 a2 : inV r.2.1.2.2
 d0 : -300 ≤ day
 d1 : day ≤ 300
 seen : ∀ i : Int, 0 ≤ i → i < 3 → night (at3S r.1 i) (at3V F i) (at3V r.2.1 i) (day + i) most
 next : r.2.2.1 = true → ∃ g, isG r.2.1.2.1 g ∧ r.2.1.2.2 = nextV r.2.1.1 r.2.1.2.1 g
 far : r.2.2.1 = true → ∀ i : Int, 0 ≤ i → i < 3 → farB (subV (at3V r.2.1 i) (at3V F i)) = true
theorem orbit_end {s t : spymake_Stream} {F : Vec × Vec × Vec} {w h n : Vec} {e most : Int} {ok : Option Bool} (hs : okS s) (ha : s.at_ ≤ 4611686018424000000) (ht : after s t 30) (f0 : inV F.1) (f1 : inV F.2.1) (f2 : inV F.2.2) (a0 : inV w) (a1 : inV h) (a2 : inV n) (m0 : 0 ≤ most) (m1 : most ≤ 1000)
  (hn : e = 0 → ∃ g, isG h g ∧ n = nextV w h g) (hz : Has ok fun z => z = true → (e == 0) = true ∧ ∀ i : Int, 0 ≤ i → i < 3 → farB (subV (at3V (w, h, n) i) (at3V F i)) = true) :
  Has (Option.bind ok fun z14 : Bool => Option.bind (Stream_Range t (-300) 300) fun r21 => Option.bind (Stream_Nights r21.2 r21.1 F (w, h, n) most) fun r22 => some (r22.1, (w, h, n), z14, r22.2)) fun r => after s r.2.2.2 70 ∧ ∃ F day, orbitOK r F day most := by
 refine hz.bind fun z hz => ?_
 have h1 := ht.ok hs (by omega)
 have hh := ht.hi
 refine (range_ok t (-300) 300 h1 (by omega) (by omega) (by omega) (by omega)).bind fun d ⟨d0, d1, d2⟩ => ?_
 have h2 := d2.ok h1 (by omega)
 have hh2 := d2.hi
 refine (nights_ok d.2 d.1 most F (w, h, n) h2 (by omega) (by omega) (by omega) f0 f1 f2 a0 a1 a2 m0 m1).bind fun q ⟨q1, q2⟩ => Has.ret ⟨((ht.trans d2).trans q1).more (by omega), F, d.1, ?_⟩
 exact ⟨f0, f1, f2, a0, a1, a2, d0, d1, q2, fun hy => hn (by simpa using (hz hy).1), fun hy => (hz hy).2⟩
theorem orbit_ok (s : spymake_Stream) (most : Int) (hs : okS s) (ha : s.at_ ≤ 4611686018424000000) (m0 : 0 ≤ most) (m1 : most ≤ 1000) : Has (spykeep4_orbit s most) fun r => after s r.2.2.2 70 ∧ ∃ F day, orbitOK r F day most := by
 unfold spykeep4_orbit
 refine (place_ok s 2 hs (by omega) (by omega) (by omega)).bind fun r1 ⟨_, _, _, _, s1⟩ => ?_
 have o1 := s1.ok hs (by omega); have b1 := s1.hi
 refine (body_ok _ 1 r1.1 o1 (by omega)).bind fun r2 ⟨w1, w2, _, _, _, s2⟩ => ?_
 have o2 := s2.ok o1 (by omega); have b2 := s2.hi
 refine (skyStep_in w1 w2).bind fun r3 ⟨n1, n2⟩ => ?_
 refine (place_ok _ 1 o2 (by omega) (by omega) (by omega)).bind fun r4 ⟨p4, _, _, _, s4⟩ => ?_
 have o4 := s4.ok o2 (by omega); have b4 := s4.hi
 refine (place_ok _ 1 o4 (by omega) (by omega) (by omega)).bind fun r5 ⟨p5, _, _, _, s5⟩ => ?_
 have o5 := s5.ok o4 (by omega); have b5 := s5.hi
 refine (place_ok _ 1 o5 (by omega) (by omega) (by omega)).bind fun r6 ⟨p6, _, _, _, s6⟩ => ?_
 have o6 := s6.ok o5 (by omega); have b6 := s6.hi
 refine (next_ok _ 2 o6 (by omega) (by omega)).bind fun r7 ⟨_, _, s7⟩ => ?_
 have o7 := s7.ok o6 (by omega); have b7 := s7.hi
 have t7 := ((((s1.trans s2).trans s4).trans s5).trans s6).trans s7
 have fin : ∀ A : Vec × Vec × Vec, inV A.1 → inV A.2.1 → inV A.2.2 → ∀ F : Vec × Vec × Vec, inV F.1 → inV F.2.1 → inV F.2.2 → ∀ (b : Bool) (i : Int) (i0 : 0 ≤ i) (i1 : i < 3), _ := fun A a0 a1 a2 F f0 f1 f2 b i i0 i1 => apart_round (at3V_in f0 f1 f2 i0 i1) (at3V_in a0 a1 a2 i0 i1) b i i0 i1
 refine Has.ite (fun _ => ?_) fun _ => ?_
 ·refine (place_ok _ 1 o7 (by omega) (by omega) (by omega)).bind fun r9 ⟨p9, _, _, _, s9⟩ => ?_
  have o9 := s9.ok o7 (by omega); have b9 := s9.hi
  refine (body_ok _ 0 r9.1 o9 (by omega)).bind fun r10 ⟨w3, w4, _, _, _, s10⟩ => ?_
  have o10 := s10.ok o9 (by omega); have b10 := s10.hi
  refine (skyStep_in w3 w4).bind fun r11 ⟨n3, n4⟩ => Has.ite (fun _ => ?_) fun _ => ?_
  ·refine orbit_end hs ha (((t7.trans s9).trans s10).more (by omega)) (F := (r10.1.Was, r10.1.Here, r11.1)) w3 w4 n3 w1 w2 n1 m0 m1 n2 (apart_loop (r3.2 == 0) (fun b i i0 i1 => ?_) fun b => rfl)
   have := fin (r2.1.Was, r2.1.Here, r3.1) w1 w2 n1 (r10.1.Was, r10.1.Here, r11.1) w3 w4 n3 b i i0 i1
   unfold spykeep4_orbit.l1
   rw [if_pos (decide_eq_true i1), if_pos ⟨i0, i1⟩, if_pos ⟨i0, i1⟩]
   exact this
  ·refine orbit_end hs ha (((t7.trans s9).trans s10).more (by omega)) (F := (r4.1, r5.1, r6.1)) p4 p5 p6 w1 w2 n1 m0 m1 n2 (apart_loop (r3.2 == 0) (fun b i i0 i1 => ?_) fun b => rfl)
   have := fin (r2.1.Was, r2.1.Here, r3.1) w1 w2 n1 (r4.1, r5.1, r6.1) p4 p5 p6 b i i0 i1
   unfold spykeep4_orbit.l2
   rw [if_pos (decide_eq_true i1), if_pos ⟨i0, i1⟩, if_pos ⟨i0, i1⟩]
   exact this
 ·refine orbit_end hs ha (t7.more (by omega)) (F := (r4.1, r5.1, r6.1)) p4 p5 p6 w1 w2 n1 m0 m1 n2 (apart_loop (r3.2 == 0) (fun b i i0 i1 => ?_) fun b => rfl)
  have := fin (r2.1.Was, r2.1.Here, r3.1) w1 w2 n1 (r4.1, r5.1, r6.1) p4 p5 p6 b i i0 i1
  unfold spykeep4_orbit.l3
  rw [if_pos (decide_eq_true i1), if_pos ⟨i0, i1⟩, if_pos ⟨i0, i1⟩]
  exact this
end Lf
/- predict.first: the place at the first sighting: products across, and the length along the first ray. -/
namespace Lf
open Go Go.Abs
set_option linter.unusedVariables false
set_option linter.unusedSimpArgs false
theorem minus_eq {a b : Place3} (ha : ok3 a) (hb : ok3 b) : predict_minus a b = some (subZ a.1 b.1, subZ a.2.1 b.2.1, subZ a.2.2 b.2.2) := by
 unfold predict_minus
 rw [subZ_eq ha.x hb.x, subZ_eq ha.y hb.y, subZ_eq ha.z hb.z]; rfl
def crossZ (a b : Place3) (i j : Int) : Bound := subZ (mulZ (at3 a i) (at3 b j) 1073741824) (mulZ (at3 a j) (at3 b i) 1073741824)
theorem cross1_eq {a b : Place3} (ha : ok3 a) (hb : ok3 b) {i j : Int} (i0 : 0 ≤ i) (i1 : i < 3) (j0 : 0 ≤ j) (j1 : j < 3) : predict_cross_1 i j a b = some (crossZ a b i j) := by
 unfold predict_cross_1
 rw [if_pos ⟨i0, i1⟩, if_pos ⟨j0, j1⟩]
 have e : ∀ (p : Place3) (k : Int), gt ([p.1, p.2.1, p.2.2] : List Bound) k = at3 p k := fun _ _ => rfl
 simp only [e]
 rw [mulZ_eq (at3_ok ha i0 i1) (at3_ok hb j0 j1) (by decide)]
 simp only [Option.bind_some]
 rw [if_pos ⟨j0, j1⟩, if_pos ⟨i0, i1⟩, mulZ_eq (at3_ok ha j0 j1) (at3_ok hb i0 i1) (by decide)]
 simp only [Option.bind_some]
 rw [subZ_eq (mulZ_ok _ _ _) (mulZ_ok _ _ _)]; rfl
theorem cross_eq {a b : Place3} (ha : ok3 a) (hb : ok3 b) : predict_cross a b = some (crossZ a b 1 2, crossZ a b 2 0, crossZ a b 0 1) := by
 unfold predict_cross
 rw [cross1_eq ha hb (by decide) (by decide) (by decide) (by decide), cross1_eq ha hb (by decide) (by decide) (by decide) (by decide), cross1_eq ha hb (by decide) (by decide) (by decide) (by decide)]; rfl
def away (b : Bound) : Prop := b.Unknown = false ∧ (0 < b.Lo ∨ b.Hi < 0)
theorem best_ok {n : Place3} (hn : ok3 n) : Has (loopF (predict_first.l2 n) ((-1), 0, 0)) fun b => b = -1 ∨ (0 ≤ b ∧ b < 3 ∧ away (at3 n b)) := by
 refine Has.loop (fun s : Int × Int × Int => 0 ≤ s.2.2 ∧ s.2.2 ≤ 3 ∧ 0 ≤ s.2.1 ∧ (s.1 = -1 ∨ (0 ≤ s.1 ∧ s.1 < 3 ∧ away (at3 n s.1)))) (fun s => (3 - s.2.2).toNat) _ ⟨Int.le_refl _, by decide, Int.le_refl _, .inl rfl⟩ (by decide) fun s ⟨s0, s1, s2, s3⟩ => ?_
 unfold predict_first.l2
 refine Has.ite (fun hi => ?_) fun hi => Has.ret (.done s3)
 have hi : s.2.2 < 3 := of_decide_eq_true hi
 have e : gt ([n.1, n.2.1, n.2.2] : List Bound) s.2.2 = at3 n s.2.2 := rfl
 have o := at3_ok hn s0 hi
 have l := o.lo; have h := o.hi; have le := o.le
 rw [e, w6_in (n := s.2.2 + 1) (by omega)]
 refine Has.bind (P := fun z : Int × Int => 0 ≤ z.2 ∧ (z.1 = -1 ∨ (0 ≤ z.1 ∧ z.1 < 3 ∧ away (at3 n z.1)))) (Has.chk ⟨s0, hi⟩ (Has.letF (Has.letF ?_))) fun z ⟨z1, z2⟩ => Has.ret (.next ⟨by simp only []; omega, by simp only []; omega, z1, z2⟩ (by simp only []; omega))
 rw [Int.zero_sub, w6_in (by omega)]
 have hm := mx2_def (at3 n s.2.2).Lo (-(at3 n s.2.2).Hi)
 generalize mx2 (at3 n s.2.2).Lo (-(at3 n s.2.2).Hi) = m at *
 refine Has.bind (P := fun z => z = true → away (at3 n s.2.2) ∧ s.2.1 < m) ?_ fun z hz => Has.ite (fun q => Has.ret ⟨by have := (hz q).2; simp only []; omega, .inr ⟨s0, hi, (hz q).1⟩⟩) fun q => Has.ret ⟨s2, s3⟩
 unfold letF
 refine Has.ite (fun q => Has.ret fun g => ?_) fun q => Has.ret fun g => nomatch g
 have g : m > s.2.1 := of_decide_eq_true g
 refine ⟨⟨by simpa using q, ?_⟩, g⟩
 rcases hm with ⟨e1, _⟩ | ⟨e1, _⟩
 ·left; omega
 ·right; omega
theorem crossR {a b : Place3} {i j : Int} {pi pj q ri rj s : Int} (hq : 0 ≤ q) (hs : 0 ≤ s) (ai : hasR (at3 a i) pi q) (aj : hasR (at3 a j) pj q) (bi : hasR (at3 b i) ri s) (bj : hasR (at3 b j) rj s) : hasR (crossZ a b i j) (pi * rj - pj * ri) (q * s * 1073741824) :=
 hasR_sub (hasR_mul hq hs ai bj) (hasR_mul hq hs aj bi)
theorem longR {n w : Bound} {k C D t u : Int} (on : n.ok) (ow : w.ok) (hw : away n) (k1 : 1 ≤ k) (C1 : 1 ≤ C) (t1 : 1 ≤ t) (u1 : 1 ≤ u)
  (hn : hasR n (k * 1125899906842624 * C * t * D) (t * (t * u) * 1073741824)) (hW : hasR w (C * D) (u * 1073741824)) : hasR (divZ w n 1073741824) t (1048576 * k) := by
 have tu : 0 < t * u := Int.mul_pos (by omega) (by omega)
 have ttu : 0 < t * (t * u) := Int.mul_pos (by omega) tu
 have kC : 0 < k * 1125899906842624 * C * t := Int.mul_pos (Int.mul_pos (by omega) (by omega)) (by omega)
 have M0 : 0 < C * (t * u) := Int.mul_pos (by omega) tu
 have d := hasR_div (u := 1073741824) ow on (q := u * 1073741824) (s := t * (t * u) * 1073741824) (by omega) (by omega) hW hn
 rcases Int.lt_trichotomy D 0 with g | g | g
 ·have neg := Int.mul_neg_of_pos_of_neg kC g
  have h := d.2 neg
  have M : 0 < C * (t * u) * -D := Int.mul_pos M0 (by omega)
  have e1 : -(C * D) * (t * (t * u) * 1073741824) * 1073741824 = t * (C * (t * u) * -D * 1152921504606846976) := by grind
  have e2 : u * 1073741824 * -(k * 1125899906842624 * C * t * D) = 1048576 * k * (C * (t * u) * -D * 1152921504606846976) := by grind
  rw [e1, e2] at h
  exact hasR_down (by omega) h
 ·subst g
  rw [Int.mul_zero] at hn
  exfalso
  rcases hn with e | ⟨h1, h2⟩
  ·rw [hw.1] at e; cases e
  ·rcases hw.2 with q | q
   ·have := Int.mul_pos q (show 0 < t * (t * u) * 1073741824 by omega); omega
   ·have := Int.mul_neg_of_neg_of_pos q (show 0 < t * (t * u) * 1073741824 by omega); omega
 ·have pos := Int.mul_pos kC g
  have h := d.1 pos
  have M : 0 < C * (t * u) * D := Int.mul_pos M0 g
  have e1 : C * D * (t * (t * u) * 1073741824) * 1073741824 = t * (C * (t * u) * D * 1152921504606846976) := by grind
  have e2 : u * 1073741824 * (k * 1125899906842624 * C * t * D) = 1048576 * k * (C * (t * u) * D * 1152921504606846976) := by grind
  rw [e1, e2] at h
  exact hasR_down (by omega) h
theorem meetTop_ok {d : Bound} {p q : Int} (od : d.ok) (h : hasR d p q) (hq : 0 < q) (p0 : 0 ≤ p) (p1 : p ≤ 16777216 * q) : Has (bound_Meet d (Bound.mk 0 16777216 false)) fun r => r.2 = true ∧ r.1.ok ∧ hasR r.1 p q := by
 have hl := od.lo; have hh := od.hi
 have ot : Bound.ok ⟨0, 16777216, false⟩ := okKnown (by decide) (by decide) (by decide)
 have ht : hasR ⟨0, 16777216, false⟩ p q := .inr ⟨by simp only []; omega, p1⟩
 unfold bound_Meet
 rw [norm_ok od, norm_ok ot]
 simp only [Option.bind_some, mx2_max, mn2_min]
 by_cases u : d.Unknown = true
 ·rw [if_pos u]; exact Has.ret ⟨rfl, ot, ht⟩
 ·rw [if_neg u]
  have u : d.Unknown = false := by simpa using u
  obtain ⟨m1, m2, m3⟩ := hasR_meet hq h ht u rfl
  simp only [] at m1 m2 m3
  refine Has.neg (by decide) (Has.neg (fun g => ?_) ?_)
  ·have := of_decide_eq_true g; omega
  ·rw [ofZ_eq, ofZ_known (by omega) (by omega) (by omega)]
   exact Has.ret ⟨rfl, okKnown (by omega) (by omega) (by omega), .inr ⟨m2, m3⟩⟩
theorem alongR {q s : Bound} {v k t : Int} (k1 : 1 ≤ k) (t1 : 1 ≤ t) (hq : hasR q (k * v * 1125899906842624) t) (hs : hasR s t (1048576 * k)) : hasZ (mulZ q s 1073741824) v := by
 have m := hasR_mul (u := 1073741824) (by omega) (show 0 ≤ 1048576 * k by omega) hq hs
 have e1 : k * v * 1125899906842624 * t = v * (k * t * 1125899906842624) := by grind
 have e2 : t * (1048576 * k) * 1073741824 = 1 * (k * t * 1125899906842624) := by grind
 rw [e1, e2] at m
 have kt : 0 < k * t := Int.mul_pos (by omega) (by omega)
 rcases hasR_down (by omega) m with h | ⟨h1, h2⟩
 ·exact .inl h
 ·exact .inr ⟨by omega, by omega⟩
end Lf
/- The pull of the sun at a place of which bounds are known. -/
namespace Lf
open Go Go.Abs
set_option linter.unusedVariables false
set_option linter.unusedSimpArgs false
theorem part_ok {x r : Int} (h1 : -33554432 ≤ x) (h2 : x ≤ 33554432) (r0 : 65536 ≤ r) (r1 : r ≤ 67108864) : predict_part x r = some (partZ x r) ∧ -1073741824 ≤ partZ x r ∧ partZ x r ≤ 1073741824 := skyPartB h1 h2 r0 r1
def pullZ (lo hi : Int) (ok : Bool) (b : Bound) : Bound :=
 if ok = false then noneZ else if hi < 65536 then ⟨0, 0, false⟩ else
 let down := if b.Hi > 0 then partZ b.Hi (max lo 65536) else partZ b.Hi hi
 let up := if b.Lo < 0 then partZ b.Lo (max lo 65536) else partZ b.Lo hi
 if lo < 65536 then ofZ (min down 0) (max up 0) else ofZ down up
theorem pullZ_ok (lo hi : Int) (ok : Bool) (b : Bound) : (pullZ lo hi ok b).ok := by
 unfold pullZ
 split
 ·exact noneZ_ok
 ·split
  ·exact okKnown (by decide) (by decide) (by decide)
  ·simp only []
   split <;> exact ofZ_ok _ _
def near25 (b : Bound) : Prop := b.Unknown = false ∧ -33554432 ≤ b.Lo ∧ b.Hi ≤ 33554432
instance (b : Bound) : Decidable (near25 b) := inferInstanceAs (Decidable (_ ∧ _))
structure isFar (p : Place3) (r : Int × Int × Bool) : Prop where
 yes : r.2.2 = true → near25 p.1 ∧ near25 p.2.1 ∧ near25 p.2.2 ∧ isRt (aLo p.1 * aLo p.1 + aLo p.2.1 * aLo p.2.1 + aLo p.2.2 * aLo p.2.2) r.1 ∧ isRt (aHi p.1 * aHi p.1 + aHi p.2.1 * aHi p.2.1 + aHi p.2.2 * aHi p.2.2) r.2.1 ∧ r.2.1 ≤ 67108864
 no : r.2.2 = false → ¬ (near25 p.1 ∧ near25 p.2.1 ∧ near25 p.2.2)
theorem sq50 {b : Bound} (h : b.Lo ≤ b.Hi) (n : near25 b) : 0 ≤ aLo b * aLo b ∧ aLo b * aLo b ≤ aHi b * aHi b ∧ aHi b * aHi b ≤ 1125899906842624 := by
 obtain ⟨p, q⟩ := aLo_aHi h
 have r : aHi b ≤ 33554432 := by unfold aHi; have := n.2; omega
 have m6 := Int.mul_nonneg p p
 have m1 : aLo b * aLo b ≤ aHi b * aHi b := Int.mul_le_mul q q p (by omega)
 have m5 : aHi b * aHi b ≤ 33554432 * 33554432 := Int.mul_le_mul r r (by omega) (by omega)
 omega
theorem far_round {p : Place3} {b : Bound} (a c k k' : Int) (hb : b.ok) (hk : (0 : Int) ≤ k ∧ k < 3) (eb : gt ([p.1, p.2.1, p.2.2] : List Bound) k = b) (ek : w6 (k + 1) = k') (a0 : 0 ≤ a ∧ a ≤ 4503599627370496) (c0 : 0 ≤ c ∧ c ≤ 4503599627370496) :
  (near25 b → predict_far.l1 p (a, c, k) = some (.next (a + aLo b * aLo b, c + aHi b * aHi b, k'))) ∧ (¬ near25 b → predict_far.l1 p (a, c, k) = some (.done (.done (0, 0, false)))) := by
 have hl : k < (([p.1, p.2.1, p.2.2] : List Bound).length : Int) := hk.2
 unfold predict_far.l1
 simp only [eb, ek, check_ok hb, Option.bind_some]
 rw [if_pos (decide_eq_true hk.2), if_pos ⟨hk.1, hl⟩]
 constructor
 ·intro n
  have s := sq50 hb.le n
  have g1 : ¬ b.Lo < -33554432 := by have := n.2; omega
  have g2 : ¬ b.Hi > 33554432 := by have := n.2; omega
  rw [square_known hb n.1 n.2.1 n.2.2]
  simp only [n.1, g1, g2, letF, bne_self_eq_false, Bool.false_eq_true, if_false, decide_false, Option.bind_some]
  rw [w6_in (by omega), w6_in (by omega)]
 ·intro n
  by_cases hu : b.Unknown = true
  ·simp [hu]
  ·by_cases g1 : b.Lo < -33554432
   ·simp [hu, g1, letF]
   ·have g2 : b.Hi > 33554432 := Int.not_le.1 fun q => n ⟨by simpa using hu, by omega, q⟩
    simp [hu, g1, g2, letF]
theorem far_ok {p : Place3} (hp : ok3 p) : Has (predict_far p) fun r => isFar p r := by
 have bad : ∀ {x : Step (Int × Int) (Int × Int × Bool)}, x = .done (0, 0, false) → ¬ (near25 p.1 ∧ near25 p.2.1 ∧ near25 p.2.2) → Has (seqF (some x) fun z2 => Option.bind (num_Sqrt z2.1) fun r14 => Option.bind (num_Sqrt z2.2) fun r15 => some (r14, r15, true)) fun r => isFar p r := fun e h => by
  subst e; exact Has.ret ⟨(fun e => nomatch e), fun _ => h⟩
 unfold predict_far
 obtain ⟨x1, x2⟩ := far_round (p := p) (b := p.1) 0 0 0 1 hp.x (by decide) rfl (by decide) (by decide) (by decide)
 by_cases n1 : near25 p.1
 ·have s1 := sq50 hp.x.le n1
  obtain ⟨y1, y2⟩ := far_round (p := p) (b := p.2.1) (0 + aLo p.1 * aLo p.1) (0 + aHi p.1 * aHi p.1) 1 2 hp.y (by decide) rfl (by decide) (by omega) (by omega)
  by_cases n2 : near25 p.2.1
  ·have s2 := sq50 hp.y.le n2
   obtain ⟨z1, z2⟩ := far_round (p := p) (b := p.2.2) (0 + aLo p.1 * aLo p.1 + aLo p.2.1 * aLo p.2.1) (0 + aHi p.1 * aHi p.1 + aHi p.2.1 * aHi p.2.1) 2 3 hp.z (by decide) rfl (by decide) (by omega) (by omega)
   by_cases n3 : near25 p.2.2
   ·have s3 := sq50 hp.z.le n3
    rw [(Run.next (x1 n1) (Run.next (y1 n2) (Run.next (z1 n3) (Run.done (o := .next (0 + aLo p.1 * aLo p.1 + aLo p.2.1 * aLo p.2.1 + aLo p.2.2 * aLo p.2.2, 0 + aHi p.1 * aHi p.1 + aHi p.2.1 * aHi p.2.1 + aHi p.2.2 * aHi p.2.2)) rfl)))).ok (by decide)]
    refine (sqrt_ok _ (by simp only []; omega)).bind fun u hu => (sqrt_ok _ (by simp only []; omega)).bind fun v hv => Has.ret ⟨fun _ => ⟨n1, n2, n3, ?_, ?_, ?_⟩, (fun e => nomatch e)⟩
    ·simp only [Int.zero_add] at hu; exact hu
    ·simp only [Int.zero_add] at hv; exact hv
    ·have := sq_lt (a := v) (b := 67108865) hv.r0 (by decide) (by have := hv.lo; simp only [] at this; omega)
     simp only []; omega
   ·rw [(Run.next (x1 n1) (Run.next (y1 n2) (Run.done (z2 n3)))).ok (by decide)]
    exact bad rfl fun h => n3 h.2.2
  ·rw [(Run.next (x1 n1) (Run.done (y2 n2))).ok (by decide)]
   exact bad rfl fun h => n2 h.2.1
 ·rw [(Run.done (x2 n1)).ok (by decide)]
  exact bad rfl fun h => n1 h.1
theorem pull_round0 {p : Place3} {lo hi : Int} {ok : Bool} (hp : p.1.ok) (hr : ok = true → near25 p.1 ∧ 0 ≤ lo ∧ lo ≤ 67108864 ∧ hi ≤ 67108864) (b c : Bound) : predict_Pull.l1 p (lo, hi, ok) ((⟨0, 0, false⟩, b, c), 0) = some (.next ((pullZ lo hi ok p.1, b, c), 1)) := by
 unfold predict_Pull.l1
 simp only [gt3_0, gt3_1, gt3_2, set3_0, set3_1, set3_2, letF]
 rw [if_pos (decide_eq_true (show (0 : Int) < 3 by decide))]
 have g3 : ((0 : Int) ≤ 0 ∧ (0 : Int) < (([p.1, p.2.1, p.2.2] : List Bound).length : Int)) := ⟨by decide, by simp⟩
 have g4 : ∀ u v w : Bound, ((0 : Int) ≤ 0 ∧ (0 : Int) < (([u, v, w] : List Bound).length : Int)) := fun u v w => ⟨by decide, by simp⟩
 have l0 : ((0 : Int) ≤ 0) = True := by simp
 have ew : w6 (0 + 1) = 1 := by decide
 rw [if_pos g3, ew]
 cases ok with
 | false =>
  have e : pullZ lo hi false p.1 = noneZ := by unfold pullZ; rw [if_pos rfl]
  simp only [Bool.not_false, if_true, none_ok, Option.bind_some, l0, g4, and_self, e]
  rfl
 | true =>
  obtain ⟨⟨n1, n2, n3⟩, n4, n5, n6⟩ := hr rfl
  have hle := hp.le
  unfold pullZ
  simp only [Bool.not_true, Bool.false_eq_true, if_false, Bool.true_eq_false]
  by_cases h1 : hi < 65536
  ·simp only [h1, decide_true, if_true, Option.bind_some]
  ·have ph := fun x a b => (part_ok (x := x) (r := hi) a b (by omega) n6).1
   have pn := fun x a b => (part_ok (x := x) (r := max lo 65536) a b (by omega) (by omega)).1
   simp only [h1, decide_false, if_false, Bool.false_eq_true, mx2_max, mn2_min]
   rw [ph _ (by omega) n3, ph _ n2 (by omega)]
   by_cases h2 : p.1.Hi > 0 <;> by_cases h3 : p.1.Lo < 0 <;> by_cases h4 : lo < 65536 <;>
    simp only [h2, h3, h4, decide_true, decide_false, if_true, if_false, Option.bind_some, Bool.false_eq_true, pn _ n2 (show p.1.Lo ≤ 33554432 by omega), pn _ (show -33554432 ≤ p.1.Hi by omega) n3, ofZ_eq, l0, g4, and_self]

theorem pull_round1 {p : Place3} {lo hi : Int} {ok : Bool} (hp : p.2.1.ok) (hr : ok = true → near25 p.2.1 ∧ 0 ≤ lo ∧ lo ≤ 67108864 ∧ hi ≤ 67108864) (a c : Bound) : predict_Pull.l1 p (lo, hi, ok) ((a, ⟨0, 0, false⟩, c), 1) = some (.next ((a, pullZ lo hi ok p.2.1, c), 2)) := by
 unfold predict_Pull.l1
 simp only [gt3_0, gt3_1, gt3_2, set3_0, set3_1, set3_2, letF]
 rw [if_pos (decide_eq_true (show (1 : Int) < 3 by decide))]
 have g3 : ((0 : Int) ≤ 1 ∧ (1 : Int) < (([p.1, p.2.1, p.2.2] : List Bound).length : Int)) := ⟨by decide, by simp⟩
 have g4 : ∀ u v w : Bound, ((0 : Int) ≤ 1 ∧ (1 : Int) < (([u, v, w] : List Bound).length : Int)) := fun u v w => ⟨by decide, by simp⟩
 have l0 : ((0 : Int) ≤ 1) = True := by simp
 have ew : w6 (1 + 1) = 2 := by decide
 rw [if_pos g3, ew]
 cases ok with
 | false =>
  have e : pullZ lo hi false p.2.1 = noneZ := by unfold pullZ; rw [if_pos rfl]
  simp only [Bool.not_false, if_true, none_ok, Option.bind_some, l0, g4, and_self, e]
  rfl
 | true =>
  obtain ⟨⟨n1, n2, n3⟩, n4, n5, n6⟩ := hr rfl
  have hle := hp.le
  unfold pullZ
  simp only [Bool.not_true, Bool.false_eq_true, if_false, Bool.true_eq_false]
  by_cases h1 : hi < 65536
  ·simp only [h1, decide_true, if_true, Option.bind_some]
  ·have ph := fun x a b => (part_ok (x := x) (r := hi) a b (by omega) n6).1
   have pn := fun x a b => (part_ok (x := x) (r := max lo 65536) a b (by omega) (by omega)).1
   simp only [h1, decide_false, if_false, Bool.false_eq_true, mx2_max, mn2_min]
   rw [ph _ (by omega) n3, ph _ n2 (by omega)]
   by_cases h2 : p.2.1.Hi > 0 <;> by_cases h3 : p.2.1.Lo < 0 <;> by_cases h4 : lo < 65536 <;>
    simp only [h2, h3, h4, decide_true, decide_false, if_true, if_false, Option.bind_some, Bool.false_eq_true, pn _ n2 (show p.2.1.Lo ≤ 33554432 by omega), pn _ (show -33554432 ≤ p.2.1.Hi by omega) n3, ofZ_eq, l0, g4, and_self]

theorem pull_round2 {p : Place3} {lo hi : Int} {ok : Bool} (hp : p.2.2.ok) (hr : ok = true → near25 p.2.2 ∧ 0 ≤ lo ∧ lo ≤ 67108864 ∧ hi ≤ 67108864) (a b : Bound) : predict_Pull.l1 p (lo, hi, ok) ((a, b, ⟨0, 0, false⟩), 2) = some (.next ((a, b, pullZ lo hi ok p.2.2), 3)) := by
 unfold predict_Pull.l1
 simp only [gt3_0, gt3_1, gt3_2, set3_0, set3_1, set3_2, letF]
 rw [if_pos (decide_eq_true (show (2 : Int) < 3 by decide))]
 have g3 : ((0 : Int) ≤ 2 ∧ (2 : Int) < (([p.1, p.2.1, p.2.2] : List Bound).length : Int)) := ⟨by decide, by simp⟩
 have g4 : ∀ u v w : Bound, ((0 : Int) ≤ 2 ∧ (2 : Int) < (([u, v, w] : List Bound).length : Int)) := fun u v w => ⟨by decide, by simp⟩
 have l0 : ((0 : Int) ≤ 2) = True := by simp
 have ew : w6 (2 + 1) = 3 := by decide
 rw [if_pos g3, ew]
 cases ok with
 | false =>
  have e : pullZ lo hi false p.2.2 = noneZ := by unfold pullZ; rw [if_pos rfl]
  simp only [Bool.not_false, if_true, none_ok, Option.bind_some, l0, g4, and_self, e]
  rfl
 | true =>
  obtain ⟨⟨n1, n2, n3⟩, n4, n5, n6⟩ := hr rfl
  have hle := hp.le
  unfold pullZ
  simp only [Bool.not_true, Bool.false_eq_true, if_false, Bool.true_eq_false]
  by_cases h1 : hi < 65536
  ·simp only [h1, decide_true, if_true, Option.bind_some]
  ·have ph := fun x a b => (part_ok (x := x) (r := hi) a b (by omega) n6).1
   have pn := fun x a b => (part_ok (x := x) (r := max lo 65536) a b (by omega) (by omega)).1
   simp only [h1, decide_false, if_false, Bool.false_eq_true, mx2_max, mn2_min]
   rw [ph _ (by omega) n3, ph _ n2 (by omega)]
   by_cases h2 : p.2.2.Hi > 0 <;> by_cases h3 : p.2.2.Lo < 0 <;> by_cases h4 : lo < 65536 <;>
    simp only [h2, h3, h4, decide_true, decide_false, if_true, if_false, Option.bind_some, Bool.false_eq_true, pn _ n2 (show p.2.2.Lo ≤ 33554432 by omega), pn _ (show -33554432 ≤ p.2.2.Hi by omega) n3, ofZ_eq, l0, g4, and_self]

theorem pull_ok {p : Place3} (hp : ok3 p) : Has (predict_Pull p) fun q => ∃ r, isFar p r ∧ q = (pullZ r.1 r.2.1 r.2.2 p.1, pullZ r.1 r.2.1 r.2.2 p.2.1, pullZ r.1 r.2.1 r.2.2 p.2.2) := by
 unfold predict_Pull
 refine (far_ok hp).bind fun r hr => ?_
 obtain ⟨lo, hi, ok⟩ := r
 have hz : ok = true → (near25 p.1 ∧ 0 ≤ lo ∧ lo ≤ 67108864 ∧ hi ≤ 67108864) ∧ (near25 p.2.1 ∧ 0 ≤ lo ∧ lo ≤ 67108864 ∧ hi ≤ 67108864) ∧ (near25 p.2.2 ∧ 0 ≤ lo ∧ lo ≤ 67108864 ∧ hi ≤ 67108864) := fun e => by
  obtain ⟨n1, n2, n3, l, h, b⟩ := hr.yes e
  have s1 := sq50 hp.x.le n1; have s2 := sq50 hp.y.le n2; have s3 := sq50 hp.z.le n3
  have := l.mono h (by omega)
  have := l.r0
  simp only [] at *
  exact ⟨⟨n1, by omega, by omega, b⟩, ⟨n2, by omega, by omega, b⟩, ⟨n3, by omega, by omega, b⟩⟩
 rw [(Run.next (pull_round0 (p := p) (lo := lo) (hi := hi) (ok := ok) hp.x (fun e => (hz e).1) _ _) (Run.next (pull_round1 hp.y (fun e => (hz e).2.1) _ _) (Run.next (pull_round2 hp.z (fun e => (hz e).2.2) _ _) (Run.done rfl)))).ok (by decide)]
 exact Has.ret ⟨_, hr, rfl⟩
end Lf
/- A day's step of bounds of places. -/
namespace Lf
open Go Go.Abs
set_option linter.unusedVariables false
set_option linter.unusedSimpArgs false
theorem ofZ22 : ofZ 2 2 = ⟨2, 2, false⟩ := by decide
def stepZ (here was pull : Bound) : Bound := addZ (subZ (mulZ here ⟨2, 2, false⟩ 1) was) pull
theorem stepZ_ok (here was pull : Bound) : (stepZ here was pull).ok := addZ_ok _ _
theorem scale2_eq {b : Bound} (h : b.ok) : bound_Scale b 2 1 = some (mulZ b ⟨2, 2, false⟩ 1) := by
 unfold bound_Scale bound_Exact
 rw [ofZ_eq, ofZ22]
 simp only [Option.bind_some]
 rw [mulZ_eq h (okKnown (by decide) (by decide) (by decide)) (by decide)]
 rfl
theorem step_round0 {was here r1 : Place3} (hh : here.1.ok) (hw : was.1.ok) (hr : r1.1.ok) (a b c : Bound) : predict_Step.l1 was here r1 ((a, b, c), 0) = some (.next ((stepZ here.1 was.1 r1.1, b, c), 1)) := by
 unfold predict_Step.l1
 have l0 : ((0 : Int) ≤ 0) = True := by simp
 have g4 : ∀ u v w : Bound, ((0 : Int) ≤ 0 ∧ (0 : Int) < (([u, v, w] : List Bound).length : Int)) := fun u v w => ⟨by decide, by simp⟩
 simp only [gt3_0, gt3_1, gt3_2, set3_0, set3_1, set3_2, letF]
 rw [if_pos (decide_eq_true (show (0 : Int) < 3 by decide)), if_pos (g4 _ _ _), scale2_eq hh, show w6 (0 + 1) = 1 from by decide]
 simp only [Option.bind_some]
 rw [if_pos (g4 _ _ _), subZ_eq (mulZ_ok _ _ _) hw]
 simp only [Option.bind_some]
 rw [if_pos (g4 _ _ _), addZ_eq (subZ_ok _ _) hr]
 simp only [Option.bind_some]
 rw [if_pos (g4 _ _ _)]
 rfl
theorem step_round1 {was here r1 : Place3} (hh : here.2.1.ok) (hw : was.2.1.ok) (hr : r1.2.1.ok) (a b c : Bound) : predict_Step.l1 was here r1 ((a, b, c), 1) = some (.next ((a, stepZ here.2.1 was.2.1 r1.2.1, c), 2)) := by
 unfold predict_Step.l1
 have g4 : ∀ u v w : Bound, ((0 : Int) ≤ 1 ∧ (1 : Int) < (([u, v, w] : List Bound).length : Int)) := fun u v w => ⟨by decide, by simp⟩
 simp only [gt3_0, gt3_1, gt3_2, set3_0, set3_1, set3_2, letF]
 rw [if_pos (decide_eq_true (show (1 : Int) < 3 by decide)), if_pos (g4 _ _ _), scale2_eq hh, show w6 (1 + 1) = 2 from by decide]
 simp only [Option.bind_some]
 rw [if_pos (g4 _ _ _), subZ_eq (mulZ_ok _ _ _) hw]
 simp only [Option.bind_some]
 rw [if_pos (g4 _ _ _), addZ_eq (subZ_ok _ _) hr]
 simp only [Option.bind_some]
 rw [if_pos (g4 _ _ _)]
 rfl
theorem step_round2 {was here r1 : Place3} (hh : here.2.2.ok) (hw : was.2.2.ok) (hr : r1.2.2.ok) (a b c : Bound) : predict_Step.l1 was here r1 ((a, b, c), 2) = some (.next ((a, b, stepZ here.2.2 was.2.2 r1.2.2), 3)) := by
 unfold predict_Step.l1
 have g4 : ∀ u v w : Bound, ((0 : Int) ≤ 2 ∧ (2 : Int) < (([u, v, w] : List Bound).length : Int)) := fun u v w => ⟨by decide, by simp⟩
 simp only [gt3_0, gt3_1, gt3_2, set3_0, set3_1, set3_2, letF]
 rw [if_pos (decide_eq_true (show (2 : Int) < 3 by decide)), if_pos (g4 _ _ _), scale2_eq hh, show w6 (2 + 1) = 3 from by decide]
 simp only [Option.bind_some]
 rw [if_pos (g4 _ _ _), subZ_eq (mulZ_ok _ _ _) hw]
 simp only [Option.bind_some]
 rw [if_pos (g4 _ _ _), addZ_eq (subZ_ok _ _) hr]
 simp only [Option.bind_some]
 rw [if_pos (g4 _ _ _)]
 rfl
def isPull (p : Place3) (q : Place3) : Prop := ∃ r, isFar p r ∧ q = (pullZ r.1 r.2.1 r.2.2 p.1, pullZ r.1 r.2.1 r.2.2 p.2.1, pullZ r.1 r.2.1 r.2.2 p.2.2)
theorem isPull.ok {p q : Place3} (h : isPull p q) : ok3 q := by obtain ⟨r, _, rfl⟩ := h; exact ⟨pullZ_ok _ _ _ _, pullZ_ok _ _ _ _, pullZ_ok _ _ _ _⟩
theorem step_ok {was here : Place3} (hw : ok3 was) (hh : ok3 here) : Has (predict_Step was here) fun n => ok3 n ∧ ∃ q, isPull here q ∧ n = (stepZ here.1 was.1 q.1, stepZ here.2.1 was.2.1 q.2.1, stepZ here.2.2 was.2.2 q.2.2) := by
 unfold predict_Step
 refine (pull_ok hh).bind fun q hq => ?_
 have hq : isPull here q := hq
 have oq := hq.ok
 rw [(Run.next (step_round0 hh.x hw.x oq.x _ _ _) (Run.next (step_round1 hh.y hw.y oq.y _ _ _) (Run.next (step_round2 hh.z hw.z oq.z _ _ _) (Run.done rfl)))).ok (by decide)]
 exact Has.ret ⟨⟨stepZ_ok _ _ _, stepZ_ok _ _ _, stepZ_ok _ _ _⟩, q, hq, rfl⟩
end Lf
/- Places that are known exactly. -/
namespace Lf
open Go Go.Abs
set_option linter.unusedVariables false
set_option linter.unusedSimpArgs false
def ex3 (v : Vec) : Place3 := (⟨v.X, v.X, false⟩, ⟨v.Y, v.Y, false⟩, ⟨v.Z, v.Z, false⟩)
theorem exact3_ok {v : Vec} (h : inV v) : predict_Exact v = some (ex3 v) := by
 obtain ⟨⟨a1, a2⟩, ⟨b1, b2⟩, ⟨c1, c2⟩⟩ := h
 unfold predict_Exact bound_Exact
 rw [ofZ_eq, ofZ_eq, ofZ_eq, exactZ (by omega) (by omega), exactZ (by omega) (by omega), exactZ (by omega) (by omega)]
 rfl
theorem ex3_ok {v : Vec} (h : inV v) : ok3 (ex3 v) := by
 obtain ⟨⟨a1, a2⟩, ⟨b1, b2⟩, ⟨c1, c2⟩⟩ := h
 exact ⟨okKnown (by omega) (Int.le_refl _) (by omega), okKnown (by omega) (Int.le_refl _) (by omega), okKnown (by omega) (Int.le_refl _) (by omega)⟩
end Lf
