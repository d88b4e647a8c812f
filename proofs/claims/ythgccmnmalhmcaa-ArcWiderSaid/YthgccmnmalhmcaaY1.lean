/- Laws of the plain functions. Conditions: as each theorem states them. -/
import Derived.Test.YthgccmnmalhmcaaY0
/- Quotients of bounds, as plain values; fractions in them. -/
namespace Lf
open Go Go.Abs
set_option linter.unusedVariables false
set_option linter.unusedSimpArgs false
theorem bothD_ok (x n d L H : Int) (hx : okI x) (hn : okI n) (hd : 1 ≤ d ∧ d ≤ 9223372036854775807) (hL : L ≤ x * n / d) (hH : cdiv (x * n) d ≤ H) :
  ∃ r9 r10, bound_Div_1 x d n = some r9 ∧ bound_Div_2 x d n = some r10 ∧ ((r9.2 = 0 ∧ r10.2 = 0 ∧ r9.1 = x * n / d ∧ r10.1 = cdiv (x * n) d) ∨ ((r9.2 ≠ 0 ∨ r10.2 ≠ 0) ∧ ¬ fitB L H)) := by
 obtain ⟨r9, e9, p9⟩ := muldiv_ok x n d hx hn hd
 obtain ⟨r10, e10, p10, p11⟩ := muldivup_ok x n d hx hn hd
 have hc := fl_le_ce (x := x * n) (d := d) (by omega)
 obtain ⟨u1, u2⟩ := cdiv_up (x := x * n) (d := d) (by omega)
 refine ⟨r9, r10, by unfold bound_Div_1; rw [e9]; rfl, by unfold bound_Div_2; rw [e10]; rfl, ?_⟩
 by_cases hf : fitB L H
 ·left
  obtain ⟨f1, f2⟩ := hf
  have k : okI (x * n / d) := by unfold okI; omega
  have k1 : okI (x * n / d + 1) := by unfold okI; omega
  have z := p11 ⟨k, k1⟩
  rcases p9 with ⟨_, rfl⟩ | ⟨q, _⟩
  ·refine ⟨rfl, z, rfl, ?_⟩
   rcases (p10 z).1 with ⟨a, b⟩ | ⟨a, b⟩
   ·rw [b, u1 a]
   ·rw [b, u2 a]
  ·exact absurd k q
 ·by_cases z9 : r9.2 = 0
  ·by_cases z10 : r10.2 = 0
   ·left
    refine ⟨z9, z10, ?_, ?_⟩
    ·rcases p9 with ⟨_, rfl⟩ | ⟨q, rfl⟩
     ·rfl
     ·cases z9
    ·rcases (p10 z10).1 with ⟨a, b⟩ | ⟨a, b⟩
     ·rw [b, u1 a]
     ·rw [b, u2 a]
   ·exact .inr ⟨.inr z10, hf⟩
  ·exact .inr ⟨.inl z9, hf⟩
theorem cornersDiv_ok (a b : Bound) (d : Int) (F G : Int → Int → Int) (L H : Int)
  (hb : ∀ i j : Int, 0 ≤ i → i < 2 → 0 ≤ j → j < 2 → ∃ r9 r10, bound_Div_1 (end2 a i) (end2 b j) d = some r9 ∧ bound_Div_2 (end2 a i) (end2 b j) d = some r10 ∧ ((r9.2 = 0 ∧ r10.2 = 0 ∧ r9.1 = F i j ∧ r10.1 = G i j) ∨ ((r9.2 ≠ 0 ∨ r10.2 ≠ 0) ∧ ¬ fitB L H)))
  (hall : ∀ i j : Int, 0 ≤ i → i < 2 → 0 ≤ j → j < 2 → L ≤ F i j ∧ F i j ≤ G i j ∧ G i j ≤ H)
  (hL : ∃ i j : Int, 0 ≤ i ∧ i < 2 ∧ 0 ≤ j ∧ j < 2 ∧ F i j = L) (hH : ∃ i j : Int, 0 ≤ i ∧ i < 2 ∧ 0 ≤ j ∧ j < 2 ∧ G i j = H) :
  bound_corners_bound_Div_1 a b d d = some (ofZ L H) := by
 have e2 : ∀ (c : Bound) (i : Int), 0 ≤ i → i < 2 → gt ([c.Lo, c.Hi] : List Int) i = end2 c i := fun c i i0 i1 => by
  have : i = 0 ∨ i = 1 := by omega
  rcases this with rfl | rfl <;> rfl
 have bad : ¬ fitB L H → ofZ L H = noneZ := fun h => by unfold ofZ; rw [if_neg]; unfold fitB at h; omega
 apply Has.val
 unfold bound_corners_bound_Div_1
 refine Has.seq (P := fun t : Step (List Int) Bound => (∃ l, t = .next l ∧ Cor2 F G L H l 4) ∨ (t = .done noneZ ∧ ¬ fitB L H)) ?_ (fun l hl => ?_) fun o ho => ?_
 ·refine Has.loop (fun s : List Int × Int => 0 ≤ s.2 ∧ s.2 ≤ 2 ∧ Cor2 F G L H s.1 (2 * s.2)) (fun s => (2 - s.2).toNat) _ ⟨Int.le_refl _, by simp only []; omega, rfl, (by simp), fun i j _ _ _ h => by simp only [] at h; omega⟩ (by simp only []; omega) fun s ⟨s0, s1, sc⟩ => ?_
  unfold bound_corners_bound_Div_1.l1
  refine Has.ite (fun h => ?_) fun h => Has.ret (.done (.inl ⟨s.1, rfl, ?_⟩))
  ·have h : s.2 < 2 := of_decide_eq_true h
   refine Has.chk ⟨s0, h⟩ (Has.seq (P := fun t : Step (List Int) (Step (List Int × Int) (Step (List Int) Bound)) => (∃ l, t = .next l ∧ Cor2 F G L H l (2 * (s.2 + 1))) ∨ (t = .done (.done (.done noneZ)) ∧ ¬ fitB L H)) ?_ (fun l hl => ?_) fun o ho => ?_)
   ·refine Has.loop (fun t : List Int × Int => 0 ≤ t.2 ∧ t.2 ≤ 2 ∧ Cor2 F G L H t.1 (2 * s.2 + t.2)) (fun t => (2 - t.2).toNat) _ ⟨Int.le_refl _, by simp only []; omega, by simp only [Int.add_zero]; exact sc⟩ (by simp only []; omega) fun t ⟨t0, t1, tc⟩ => ?_
    unfold bound_corners_bound_Div_1.l2
    refine Has.ite (fun h2 => ?_) fun h2 => Has.ret (.done (.inl ⟨t.1, rfl, ?_⟩))
    ·have h2 : t.2 < 2 := of_decide_eq_true h2
     have hl := tc.len
     obtain ⟨a1, a2, a3⟩ := hall s.2 t.2 s0 h t0 h2
     obtain ⟨r9, r10, e9, e10, hr⟩ := hb s.2 t.2 s0 h t0 h2
     refine Has.chk ⟨t0, h2⟩ ?_
     rw [e2 a s.2 s0 h, e2 b t.2 t0 h2, e9, e10]
     simp only [Option.bind_some, ite_or]
     rcases hr with ⟨z9, z10, v9, v10⟩ | ⟨hb, hf⟩
     ·rw [z9, z10, v9, v10, w6_in (by omega)]
      refine Has.neg (by simp) (Has.chk (roomyI (by simp; omega) (by simp; omega)) (Has.ret (.next ⟨by simp only []; omega, by simp only []; omega, by simp; omega, fun y hy => ?_, fun i j i0 j0 j1 hk => ?_⟩ (by simp only []; omega))))
      ·rcases List.mem_append.1 hy with h | h
       ·exact tc.all y h
       ·simp at h; rcases h with rfl | rfl <;> omega
      ·by_cases e : 2 * i + j < 2 * s.2 + t.2
       ·obtain ⟨m1, m2⟩ := tc.mem i j i0 j0 j1 e
        exact ⟨List.mem_append_left _ m1, List.mem_append_left _ m2⟩
       ·have e1 : i = s.2 := by simp only [] at hk; omega
        have e3 : j = t.2 := by simp only [] at hk; omega
        rw [e1, e3]
        exact ⟨List.mem_append_right _ (by simp), List.mem_append_right _ (by simp)⟩
     ·refine Has.pos (by rcases hb with hb | hb <;> simp [hb]) (Has.ret (.done (.inr ⟨rfl, hf⟩)))
    ·have h2 : t.2 = 2 := by have : ¬ t.2 < 2 := fun q => h2 (decide_eq_true q); omega
     rw [h2] at tc
     rw [show 2 * (s.2 + 1) = 2 * s.2 + 2 from by omega]; exact tc
   ·rcases hl with ⟨l', e, hl⟩ | ⟨e, _⟩
    ·cases e
     rw [w6_in (by omega)]
     exact Has.ret (.next ⟨by simp only []; omega, by simp only []; omega, hl⟩ (by simp only []; omega))
    ·cases e
   ·rcases ho with ⟨l', e, _⟩ | ⟨e, hf⟩
    ·cases e
    ·cases e; exact .done (.inr ⟨rfl, hf⟩)
  ·have h : s.2 = 2 := by have : ¬ s.2 < 2 := fun q => h (decide_eq_true q); omega
   rw [h] at sc; exact sc
 ·rcases hl with ⟨l', e, c⟩ | ⟨e, _⟩
  ·cases e
   have hlen := c.len
   have hne : l ≠ [] := fun e => by subst e; simp at hlen
   refine (min_ok l hne (by omega)).bind fun m ⟨m1, m2⟩ => (max_ok l hne (by omega)).bind fun k ⟨k1, k2⟩ => ?_
   obtain ⟨i, j, i0, i1, j0, j1, eL⟩ := hL
   obtain ⟨i', j', i0', i1', j0', j1', eH⟩ := hH
   have hLm := (c.mem i j i0 j0 j1 (by omega)).1
   have hHm := (c.mem i' j' i0' j0' j1' (by omega)).2
   rw [eL] at hLm
   rw [eH] at hHm
   have em : m = L := by have := m2 L hLm; have := c.all m m1; omega
   have ek : k = H := by have := k2 H hHm; have := c.all k k1; omega
   rw [em, ek, ofZ_eq]
   exact Has.ret rfl
  ·cases e
 ·rcases ho with ⟨l', e, _⟩ | ⟨e, hf⟩
  ·cases e
  ·cases e; exact (bad hf).symm

def dlo (a b : Bound) (u : Int) : Int := min (min (a.Lo * u / b.Lo) (a.Lo * u / b.Hi)) (min (a.Hi * u / b.Lo) (a.Hi * u / b.Hi))
def dhi (a b : Bound) (u : Int) : Int := max (max (cdiv (a.Lo * u) b.Lo) (cdiv (a.Lo * u) b.Hi)) (max (cdiv (a.Hi * u) b.Lo) (cdiv (a.Hi * u) b.Hi))
theorem divP_eq {a b : Bound} {u : Int} (ha : a.ok) (hb : b.ok) (hu : 1 ≤ u ∧ u ≤ 9223372036854775807) (b0 : 0 < b.Lo) : bound_corners_bound_Div_1 a b u u = some (ofZ (dlo a b u) (dhi a b u)) := by
 have := ha.lo; have := ha.le; have := ha.hi; have := hb.lo; have := hb.le; have := hb.hi
 have fc := fun x : Int => fl_le_ce (x := x) (d := b.Lo) (by omega)
 have fd := fun x : Int => fl_le_ce (x := x) (d := b.Hi) (by omega)
 rw [cornersDiv_ok a b u (fun i j => end2 a i * u / end2 b j) (fun i j => cdiv (end2 a i * u) (end2 b j)) (dlo a b u) (dhi a b u)]
 ·intro i j i0 i1 j0 j1
  have i01 : i = 0 ∨ i = 1 := by omega
  have j01 : j = 0 ∨ j = 1 := by omega
  refine bothD_ok _ u _ _ _ ?_ (by unfold okI; omega) ?_ ?_ ?_
  ·rcases i01 with rfl | rfl <;> simp only [end2] <;> unfold okI <;> simp <;> omega
  ·rcases j01 with rfl | rfl <;> simp only [end2] <;> simp <;> omega
  ·unfold dlo; rcases i01 with rfl | rfl <;> rcases j01 with rfl | rfl <;> simp only [end2] <;> simp <;> omega
  ·unfold dhi; rcases i01 with rfl | rfl <;> rcases j01 with rfl | rfl <;> simp only [end2] <;> simp <;> omega
 ·intro i j i0 i1 j0 j1
  have i01 : i = 0 ∨ i = 1 := by omega
  have j01 : j = 0 ∨ j = 1 := by omega
  refine ⟨?_, ?_, ?_⟩
  ·unfold dlo; rcases i01 with rfl | rfl <;> rcases j01 with rfl | rfl <;> simp only [end2] <;> simp <;> omega
  ·rcases j01 with rfl | rfl
   ·exact (fc _).1
   ·exact (fd _).1
  ·unfold dhi; rcases i01 with rfl | rfl <;> rcases j01 with rfl | rfl <;> simp only [end2] <;> simp <;> omega
 ·have : dlo a b u = a.Lo * u / b.Lo ∨ dlo a b u = a.Lo * u / b.Hi ∨ dlo a b u = a.Hi * u / b.Lo ∨ dlo a b u = a.Hi * u / b.Hi := by unfold dlo; omega
  rcases this with e | e | e | e
  ·exact ⟨0, 0, by decide, by decide, by decide, by decide, e.symm⟩
  ·exact ⟨0, 1, by decide, by decide, by decide, by decide, e.symm⟩
  ·exact ⟨1, 0, by decide, by decide, by decide, by decide, e.symm⟩
  ·exact ⟨1, 1, by decide, by decide, by decide, by decide, e.symm⟩
 ·have : dhi a b u = cdiv (a.Lo * u) b.Lo ∨ dhi a b u = cdiv (a.Lo * u) b.Hi ∨ dhi a b u = cdiv (a.Hi * u) b.Lo ∨ dhi a b u = cdiv (a.Hi * u) b.Hi := by unfold dhi; omega
  rcases this with e | e | e | e
  ·exact ⟨0, 0, by decide, by decide, by decide, by decide, e.symm⟩
  ·exact ⟨0, 1, by decide, by decide, by decide, by decide, e.symm⟩
  ·exact ⟨1, 0, by decide, by decide, by decide, by decide, e.symm⟩
  ·exact ⟨1, 1, by decide, by decide, by decide, by decide, e.symm⟩
def divZ (a b : Bound) (u : Int) : Bound := if (a.Unknown || b.Unknown) = true ∨ u < 1 ∨ (b.Lo ≤ 0 ∧ 0 ≤ b.Hi) then noneZ else if b.Hi < 0 then ofZ (dlo (negZ a) (negZ b) u) (dhi (negZ a) (negZ b) u) else ofZ (dlo a b u) (dhi a b u)
theorem divZ_ok (a b : Bound) (u : Int) : (divZ a b u).ok := by
 unfold divZ; split
 ·exact noneZ_ok
 ·split <;> exact ofZ_ok _ _
theorem divZ_eq {a b : Bound} {u : Int} (ha : a.ok) (hb : b.ok) (hu : u ≤ 9223372036854775807) : bound_Div a b u = some (divZ a b u) := by
 have := hb.le
 unfold bound_Div divZ
 rw [vague_ok ha hb]
 simp only [Option.bind_some]
 by_cases h1 : (a.Unknown || b.Unknown) = true
 ·rw [if_pos (show ((a.Unknown || b.Unknown) = true ∨ u < 1 ∨ (b.Lo ≤ 0 ∧ 0 ≤ b.Hi)) from .inl h1), if_pos h1]; rfl
 ·rw [if_neg h1]
  by_cases h2 : u < 1
  ·rw [if_pos (show ((a.Unknown || b.Unknown) = true ∨ u < 1 ∨ (b.Lo ≤ 0 ∧ 0 ≤ b.Hi)) from .inr (.inl h2)), if_pos (show decide (u < 1) = true from decide_eq_true h2)]; rfl
  ·rw [if_neg (show ¬ decide (u < 1) = true from fun q => h2 (of_decide_eq_true q))]
   by_cases h3 : b.Lo ≤ 0 ∧ 0 ≤ b.Hi
   ·rw [if_pos (show ((a.Unknown || b.Unknown) = true ∨ u < 1 ∨ (b.Lo ≤ 0 ∧ 0 ≤ b.Hi)) from .inr (.inr h3)), if_pos (show decide (b.Lo ≤ 0) = true from decide_eq_true h3.1), (show decide (b.Hi ≥ 0) = true from decide_eq_true h3.2)]; rfl
   ·rw [if_neg (show ¬ ((a.Unknown || b.Unknown) = true ∨ u < 1 ∨ (b.Lo ≤ 0 ∧ 0 ≤ b.Hi)) from fun q => by rcases q with q | q | q; exact h1 q; exact h2 q; exact h3 q)]
    have z : (if (decide (b.Lo ≤ 0)) = true then some (decide (b.Hi ≥ 0)) else some false) = some false := by
     by_cases q : b.Lo ≤ 0
     ·rw [if_pos (decide_eq_true q)]
      have : ¬ b.Hi ≥ 0 := fun g => h3 ⟨q, g⟩
      simp [this]
     ·rw [if_neg (by simpa using q)]
    rw [z]
    simp only [Option.bind_some, Bool.false_eq_true, if_false]
    by_cases h4 : b.Hi < 0
    ·rw [if_pos h4, if_pos (decide_eq_true h4), negZ_eq ha, negZ_eq hb]
     simp only [Option.bind_some]
     rw [divP_eq (negZ_ok ha) (negZ_ok hb) ⟨by omega, hu⟩ (by unfold negZ; simp only []; omega)]; rfl
    ·rw [if_neg h4, if_neg (by simpa using h4), divP_eq ha hb ⟨by omega, hu⟩ (by omega)]; rfl
theorem div_up {A B d p q r s u : Int} (h : A * u ≤ d * B) (t3 : d * q * (B * s) ≤ d * q * r) (hp : p ≤ A * q) (hq : 0 ≤ q) (hs : 0 ≤ s) (hu : 0 ≤ u) : p * s * u ≤ d * (q * r) := by
 have t1 := Int.mul_le_mul_of_nonneg_right hp (Int.mul_nonneg hs hu)
 have t2 := Int.mul_le_mul_of_nonneg_right h (Int.mul_nonneg hq hs)
 have e1 : A * q * (s * u) = A * u * (q * s) := by grind
 have e2 : d * B * (q * s) = d * q * (B * s) := by grind
 have e3 : p * s * u = p * (s * u) := by grind
 have e4 : d * (q * r) = d * q * r := by grind
 omega
theorem div_dn {A B d p q r s u : Int} (h : d * B ≤ A * u) (t3 : d * q * r ≤ d * q * (B * s)) (hp : A * q ≤ p) (hq : 0 ≤ q) (hs : 0 ≤ s) (hu : 0 ≤ u) : d * (q * r) ≤ p * s * u := by
 have t1 := Int.mul_le_mul_of_nonneg_right hp (Int.mul_nonneg hs hu)
 have t2 := Int.mul_le_mul_of_nonneg_right h (Int.mul_nonneg hq hs)
 have e1 : A * q * (s * u) = A * u * (q * s) := by grind
 have e2 : d * B * (q * s) = d * q * (B * s) := by grind
 have e3 : p * s * u = p * (s * u) := by grind
 have e4 : d * (q * r) = d * q * r := by grind
 omega
theorem cdiv_ge {x d c : Int} (hd : 0 < d) (h : cdiv x d ≤ c) : x ≤ c * d := by
 unfold cdiv at h
 have t1 := Int.mul_le_mul_of_nonneg_right h (show 0 ≤ d by omega)
 have t2 := Int.ediv_mul_le (-x) (show d ≠ 0 by omega)
 rw [Int.neg_mul] at t1; omega
theorem fl_le {x d c : Int} (hd : 0 < d) (h : c ≤ x / d) : c * d ≤ x := by
 have t1 := Int.mul_le_mul_of_nonneg_right h (show 0 ≤ d by omega)
 have t2 := Int.ediv_mul_le x (show d ≠ 0 by omega)
 omega
theorem hasR_divP {a b : Bound} {p q r s u : Int} (hq : 0 < q) (hs : 0 < s) (hu : 0 ≤ u) (a1 : a.Lo * q ≤ p) (a2 : p ≤ a.Hi * q) (b1 : b.Lo * s ≤ r) (b2 : r ≤ b.Hi * s) (b0 : 0 < b.Lo) (bl : b.Lo ≤ b.Hi) : hasR (ofZ (dlo a b u) (dhi a b u)) (p * s * u) (q * r) := by
 have l1 := fl_le (x := a.Lo * u) (d := b.Lo) (c := dlo a b u) b0 (by unfold dlo; omega)
 have l2 := fl_le (x := a.Lo * u) (d := b.Hi) (c := dlo a b u) (by omega) (by unfold dlo; omega)
 have h1 := cdiv_ge (x := a.Hi * u) (d := b.Lo) (c := dhi a b u) b0 (by unfold dhi; omega)
 have h2 := cdiv_ge (x := a.Hi * u) (d := b.Hi) (c := dhi a b u) (by omega) (by unfold dhi; omega)
 refine hasR_ofZ ?_ ?_
 ·rcases Int.le_total 0 (dlo a b u) with g | g
  ·exact div_dn l2 (Int.mul_le_mul_of_nonneg_left b2 (Int.mul_nonneg g (Int.le_of_lt hq))) a1 (Int.le_of_lt hq) (Int.le_of_lt hs) hu
  ·have n : dlo a b u * q ≤ 0 := by have := Int.mul_le_mul_of_nonneg_right g (Int.le_of_lt hq); omega
   exact div_dn l1 (Int.mul_le_mul_of_nonpos_left n b1) a1 (Int.le_of_lt hq) (Int.le_of_lt hs) hu
 ·rcases Int.le_total 0 (dhi a b u) with g | g
  ·exact div_up h1 (Int.mul_le_mul_of_nonneg_left b1 (Int.mul_nonneg g (Int.le_of_lt hq))) a2 (Int.le_of_lt hq) (Int.le_of_lt hs) hu
  ·have n : dhi a b u * q ≤ 0 := by have := Int.mul_le_mul_of_nonneg_right g (Int.le_of_lt hq); omega
   exact div_up h2 (Int.mul_le_mul_of_nonpos_left n b2) a2 (Int.le_of_lt hq) (Int.le_of_lt hs) hu
theorem hasR_div {a b : Bound} {p q r s u : Int} (oa : a.ok) (ob : b.ok) (hq : 0 < q) (hs : 0 < s) (ha : hasR a p q) (hb : hasR b r s) : (0 < r → hasR (divZ a b u) (p * s * u) (q * r)) ∧ (r < 0 → hasR (divZ a b u) (-p * s * u) (q * -r)) := by
 unfold divZ
 split
 ·exact ⟨fun _ => .inl rfl, fun _ => .inl rfl⟩
 ·rename_i h
  have hu : 1 ≤ u := by
   rcases Int.lt_or_le u 1 with g | g
   ·exact absurd (.inr (.inl g)) h
   ·exact g
  have h0 : ¬ (b.Lo ≤ 0 ∧ 0 ≤ b.Hi) := fun g => h (.inr (.inr g))
  have hn : ¬ (a.Unknown || b.Unknown) = true := fun g => h (.inl g)
  have hn : a.Unknown = false ∧ b.Unknown = false := by simpa using hn
  have bl := ob.le
  rcases ha with e | ⟨a1, a2⟩
  ·rw [hn.1] at e; cases e
  ·rcases hb with e | ⟨b1, b2⟩
   ·rw [hn.2] at e; cases e
   ·split
    ·rename_i g
     have nb := Int.mul_neg_of_neg_of_pos g hs
     refine ⟨fun r0 => by omega, fun r0 => ?_⟩
     refine hasR_divP hq hs (by omega) ?_ ?_ ?_ ?_ ?_ ?_ <;> unfold negZ <;> simp only [Int.neg_mul] <;> omega
    ·rename_i g
     have nb := Int.mul_pos (show 0 < b.Lo by omega) hs
     exact ⟨fun r0 => hasR_divP hq hs (by omega) a1 a2 b1 b2 (by omega) bl, fun r0 => by omega⟩
end Lf
/- Places of which bounds are known. -/
namespace Lf
open Go Go.Abs
set_option linter.unusedVariables false
set_option linter.unusedSimpArgs false
abbrev Place3 := Bound × Bound × Bound
structure ok3 (p : Place3) : Prop where
 x : p.1.ok
 y : p.2.1.ok
 z : p.2.2.ok
theorem gt3_0 (a b c : Bound) : gt ([a, b, c] : List Bound) 0 = a := rfl
theorem gt3_1 (a b c : Bound) : gt ([a, b, c] : List Bound) 1 = b := rfl
theorem gt3_2 (a b c : Bound) : gt ([a, b, c] : List Bound) 2 = c := rfl
theorem set3_0 (a b c x : Bound) : List.set ([a, b, c] : List Bound) (0 : Int).toNat x = [x, b, c] := rfl
theorem set3_1 (a b c x : Bound) : List.set ([a, b, c] : List Bound) (1 : Int).toNat x = [a, x, c] := rfl
theorem set3_2 (a b c x : Bound) : List.set ([a, b, c] : List Bound) (2 : Int).toNat x = [a, b, x] := rfl
end Lf
/- arc.Ray: the vectors of length 1 with a direction of a box. -/
namespace Lf
open Go Go.Abs
set_option linter.unusedVariables false
set_option linter.unusedSimpArgs false
def oneB : Bound := ⟨-1073741824, 1073741824, false⟩
theorem oneB_ok : oneB.ok := okKnown (by decide) (by decide) (by decide)
def meetOne (d : Bound) : Bound := if d.Unknown = true then oneB else if min d.Hi 1073741824 < max d.Lo (-1073741824) then ⟨0, 0, false⟩ else ⟨max d.Lo (-1073741824), min d.Hi 1073741824, false⟩
theorem meetOne_ok {d : Bound} : (meetOne d).ok := by
 unfold meetOne
 split
 ·exact oneB_ok
 ·split
  ·exact okKnown (by decide) (by decide) (by decide)
  ·exact okKnown (by omega) (by omega) (by omega)
theorem meetOne_known (d : Bound) : (meetOne d).Unknown = false ∧ -1073741824 ≤ (meetOne d).Lo ∧ (meetOne d).Lo ≤ (meetOne d).Hi ∧ (meetOne d).Hi ≤ 1073741824 := by
 unfold meetOne
 split
 ·exact ⟨rfl, by decide, by decide, by decide⟩
 ·split
  ·exact ⟨rfl, by decide, by decide, by decide⟩
  ·exact ⟨rfl, by simp only []; omega, by simp only []; omega, by simp only []; omega⟩
theorem meetOne_eq {d : Bound} (h : d.ok) : Has (bound_Meet d (Bound.mk (-1073741824) 1073741824 false)) fun r => r.1 = meetOne d := by
 have hl := h.lo; have hh := h.hi
 unfold bound_Meet
 rw [norm_ok h, (show bound_Norm ⟨-1073741824, 1073741824, false⟩ = some ⟨-1073741824, 1073741824, false⟩ from norm_ok oneB_ok)]
 simp only [Option.bind_some, mx2_max, mn2_min]
 unfold meetOne
 by_cases u : d.Unknown = true
 ·rw [if_pos u, if_pos u]; exact Has.ret rfl
 ·rw [if_neg u, if_neg u]
  refine Has.neg (by decide) ?_
  by_cases g : min d.Hi 1073741824 < max d.Lo (-1073741824)
  ·rw [if_pos g]; exact Has.pos (decide_eq_true g) (Has.ret rfl)
  ·rw [if_neg g]
   refine Has.neg (fun q => g (of_decide_eq_true q)) ?_
   rw [ofZ_eq, ofZ_known (by omega) (by omega) (by omega)]
   exact Has.ret rfl
theorem hasR_meetOne {d : Bound} {p q : Int} (hq : 0 < q) (h : hasR d p q) (h1 : -(1073741824 * q) ≤ p) (h2 : p ≤ 1073741824 * q) : hasR (meetOne d) p q := by
 have ho : hasR oneB p q := .inr ⟨by unfold oneB; simp only []; omega, by unfold oneB; simp only []; omega⟩
 unfold meetOne
 split
 ·exact ho
 ·rename_i u
  have u : d.Unknown = false := by simpa using u
  obtain ⟨m1, m2, m3⟩ := hasR_meet hq h ho u rfl
  simp only [oneB] at m1 m2 m3
  rw [if_neg (by omega)]
  exact .inr ⟨m2, m3⟩
structure isRay (x y z L : Bound) (r : Bound × Bound × Bound) : Prop where
 ok : L.ok
 u : L.Unknown = false
 lo : isRt (nLo x y z * 1099511627776) L.Lo
 hi : nHi x y z * 1099511627776 ≤ L.Hi * L.Hi
 h0 : 0 ≤ L.Hi
 p : 1 ≤ L.Lo
 e1 : r.1 = meetOne (divZ x L 1125899906842624)
 e2 : r.2.1 = meetOne (divZ y L 1125899906842624)
 e3 : r.2.2 = meetOne (divZ z L 1125899906842624)
theorem ray_ok {x y z : Bound} (hx : coordB x) (hy : coordB y) (hz : coordB z) (hn : 1 ≤ nLo x y z) : Has (arc_Ray (Box.mk x y z)) fun r => r.2 = true ∧ ∃ L, isRay x y z L r.1 := by
 obtain ⟨x1, x2, x3⟩ := hx.bd
 obtain ⟨y1, y2, y3⟩ := hy.bd
 obtain ⟨z1, z2, z3⟩ := hz.bd
 have hl : nLo x y z ≤ nHi x y z := by unfold nLo nHi; omega
 have hb : nHi x y z ≤ 300000000000000000 := by unfold nHi; omega
 unfold arc_Ray
 simp only []
 rw [norm3_ok hx hy hz]
 simp only [Option.bind_some]
 refine (root_ok (a := ⟨nLo x y z, nHi x y z, false⟩) (okKnown (by omega) hl (by omega)) rfl (by simp only []; omega)).bind fun L ⟨l1, l2, l3, l4, l5⟩ => ?_
 simp only [] at l3 l5
 have lp : 1 ≤ L.Lo := by
  have := l3.hi; have r0 := l3.r0
  rcases Int.lt_or_le L.Lo 1 with g | g
  ·have e : L.Lo = 0 := by omega
   rw [e] at this; omega
  ·exact g
 refine Has.bind (P := fun w => w = false) (Has.neg (by rw [l2]; decide) (Has.ret (by simp; omega))) fun zz hzz => Has.neg (by rw [hzz]; decide) ?_
 refine Has.bind (P := fun r => isRay x y z L r) ?_ fun r hr => Has.ret ⟨rfl, L, hr⟩
 obtain ⟨m1, q1, g1⟩ := meetOne_eq (divZ_ok x L 1125899906842624)
 obtain ⟨m2, q2, g2⟩ := meetOne_eq (divZ_ok y L 1125899906842624)
 obtain ⟨m3, q3, g3⟩ := meetOne_eq (divZ_ok z L 1125899906842624)
 have d1 := divZ_eq (u := 1125899906842624) hx.ok l1 (by decide)
 have d2 := divZ_eq (u := 1125899906842624) hy.ok l1 (by decide)
 have d3 := divZ_eq (u := 1125899906842624) hz.ok l1 (by decide)
 have s1 : arc_Ray.l1 L ((x, y, z), 0) = some (.next ((m1.1, y, z), 1)) := by
  unfold arc_Ray.l1
  rw [if_pos (by rfl), if_pos ⟨by show (0 : Int) ≤ 0; decide, by show (0 : Int) < 3; decide⟩]
  have g : gt ([x, y, z] : List Bound) 0 = x := rfl
  simp only [g, d1, Option.bind_some, q1]
  rfl
 have s2 : arc_Ray.l1 L ((m1.1, y, z), 1) = some (.next ((m1.1, m2.1, z), 2)) := by
  unfold arc_Ray.l1
  rw [if_pos (by rfl), if_pos ⟨by show (0 : Int) ≤ 1; decide, by show (1 : Int) < 3; decide⟩]
  have g : gt ([m1.1, y, z] : List Bound) 1 = y := rfl
  simp only [g, d2, Option.bind_some, q2]
  rfl
 have s3 : arc_Ray.l1 L ((m1.1, m2.1, z), 2) = some (.next ((m1.1, m2.1, m3.1), 3)) := by
  unfold arc_Ray.l1
  rw [if_pos (by rfl), if_pos ⟨by show (0 : Int) ≤ 2; decide, by show (2 : Int) < 3; decide⟩]
  have g : gt ([m1.1, m2.1, z] : List Bound) 2 = z := rfl
  simp only [g, d3, Option.bind_some, q3]
  rfl
 have s4 : arc_Ray.l1 L ((m1.1, m2.1, m3.1), 3) = some (.done (m1.1, m2.1, m3.1)) := rfl
 exact Has.eq ((Run.next s1 (Run.next s2 (Run.next s3 (Run.done s4)))).ok (by decide)) ⟨l1, l2, l3, l5, l4, lp, g1, g2, g3⟩
theorem isRay.has {x y z L : Bound} {r : Bound × Bound × Bound} (h : isRay x y z L r) (hx : coordB x) (hy : coordB y) (hz : coordB z) {X Y Z t : Int} (t1 : L.Lo ≤ t) (t2 : t ≤ L.Hi)
  (ax : x.Lo ≤ X ∧ X ≤ x.Hi) (ay : y.Lo ≤ Y ∧ Y ≤ y.Hi) (az : z.Lo ≤ Z ∧ Z ≤ z.Hi) (mx : -t ≤ 1048576 * X ∧ 1048576 * X ≤ t) (my : -t ≤ 1048576 * Y ∧ 1048576 * Y ≤ t) (mz : -t ≤ 1048576 * Z ∧ 1048576 * Z ≤ t) :
  hasR r.1 (X * 1125899906842624) t ∧ hasR r.2.1 (Y * 1125899906842624) t ∧ hasR r.2.2 (Z * 1125899906842624) t := by
 have tp := h.p
 have key : ∀ (b : Bound) (V : Int), coordB b → b.Lo ≤ V ∧ V ≤ b.Hi → (-t ≤ 1048576 * V ∧ 1048576 * V ≤ t) → hasR (meetOne (divZ b L 1125899906842624)) (V * 1125899906842624) t := fun b V hb hv hm => by
  have d := (hasR_div (u := 1125899906842624) (p := V) (q := 1) (r := t) (s := 1) hb.ok h.ok (by decide) (by decide) (.inr ⟨by omega, by omega⟩) (.inr ⟨by omega, by omega⟩)).1 (by omega)
  rw [Int.mul_one, Int.one_mul] at d
  exact hasR_meetOne (by omega) d (by omega) (by omega)
 rw [h.e1, h.e2, h.e3]
 exact ⟨key x X hx ax mx, key y Y hy ay my, key z Z hz az mz⟩
end Lf
/- A whole number that serves as 2^20 times the length of a vector. -/
namespace Lf
open Go Go.Abs
set_option linter.unusedVariables false
set_option linter.unusedSimpArgs false
theorem isRay.wit {x y z L : Bound} {r : Bound × Bound × Bound} (h : isRay x y z L r) {X Y Z A : Int}
  (ax : x.Lo ≤ X ∧ X ≤ x.Hi) (ay : y.Lo ≤ Y ∧ Y ≤ y.Hi) (az : z.Lo ≤ Z ∧ Z ≤ z.Hi) (hA : A * A ≤ (X * X + Y * Y + Z * Z) * 1099511627776) :
  ∃ t : Int, L.Lo ≤ t ∧ t ≤ L.Hi ∧ (-t ≤ 1048576 * X ∧ 1048576 * X ≤ t) ∧ (-t ≤ 1048576 * Y ∧ 1048576 * Y ≤ t) ∧ (-t ≤ 1048576 * Z ∧ 1048576 * Z ≤ t) ∧ A ≤ t ∧ ∀ B : Int, 0 ≤ B → (X * X + Y * Y + Z * Z) * 1099511627776 ≤ B * B → t ≤ B := by
 have sx := square_bd ax.1 ax.2
 have sy := square_bd ay.1 ay.2
 have sz := square_bd az.1 az.2
 have n1 : nLo x y z ≤ X * X + Y * Y + Z * Z := by unfold nLo; omega
 have n2 : X * X + Y * Y + Z * Z ≤ nHi x y z := by unfold nHi; omega
 have x0 : 0 ≤ X * X := by rcases Int.le_total 0 X with q | q; exact Int.mul_nonneg q q; exact Int.mul_nonneg_of_nonpos_of_nonpos q q
 have y0 : 0 ≤ Y * Y := by rcases Int.le_total 0 Y with q | q; exact Int.mul_nonneg q q; exact Int.mul_nonneg_of_nonpos_of_nonpos q q
 have z0 : 0 ≤ Z * Z := by rcases Int.le_total 0 Z with q | q; exact Int.mul_nonneg q q; exact Int.mul_nonneg_of_nonpos_of_nonpos q q
 have hl := h.lo.lo; have lp := h.p; have hh := h.hi; have h0 := h.h0
 have ex : ∀ V : Int, (1048576 * V) * (1048576 * V) = V * V * 1099511627776 ∧ (-(1048576 * V)) * (-(1048576 * V)) = V * V * 1099511627776 := fun V => ⟨by grind, by grind⟩
 obtain ⟨ex1, ex2⟩ := ex X
 obtain ⟨ey1, ey2⟩ := ex Y
 obtain ⟨ez1, ez2⟩ := ex Z
 obtain ⟨t, ht, c1, c2, c3, c4, c5, c6, c7, c8⟩ : ∃ t : Int, (t = L.Lo ∨ t = A ∨ t = 1048576 * X ∨ t = -(1048576 * X) ∨ t = 1048576 * Y ∨ t = -(1048576 * Y) ∨ t = 1048576 * Z ∨ t = -(1048576 * Z)) ∧ L.Lo ≤ t ∧ A ≤ t ∧ 1048576 * X ≤ t ∧ -(1048576 * X) ≤ t ∧ 1048576 * Y ≤ t ∧ -(1048576 * Y) ≤ t ∧ 1048576 * Z ≤ t ∧ -(1048576 * Z) ≤ t :=
  ⟨max (max (max L.Lo A) (max (1048576 * X) (-(1048576 * X)))) (max (max (1048576 * Y) (-(1048576 * Y))) (max (1048576 * Z) (-(1048576 * Z)))), by omega, by omega, by omega, by omega, by omega, by omega, by omega, by omega, by omega⟩
 have sq : t * t ≤ (X * X + Y * Y + Z * Z) * 1099511627776 := by
  rcases ht with e | e | e | e | e | e | e | e
  ·rw [e]; omega
  ·rw [e]; exact hA
  ·rw [e, ex1]; omega
  ·rw [e, ex2]; omega
  ·rw [e, ey1]; omega
  ·rw [e, ey2]; omega
  ·rw [e, ez1]; omega
  ·rw [e, ez2]; omega
 have top : ∀ B : Int, 0 ≤ B → (X * X + Y * Y + Z * Z) * 1099511627776 ≤ B * B → t ≤ B := fun B b0 hB => by
  rcases Int.lt_or_le B t with g | g
  ·have m1 := Int.mul_le_mul (show B + 1 ≤ t by omega) (show B + 1 ≤ t by omega) (by omega) (by omega)
   have m2 : (B + 1) * (B + 1) = B * B + 2 * B + 1 := by grind
   omega
  ·exact g
 exact ⟨t, c1, top L.Hi h0 (by omega), ⟨by omega, by omega⟩, ⟨by omega, by omega⟩, ⟨by omega, by omega⟩, c2, top⟩
theorem along {q s : Bound} {v k t : Int} (k1 : 1 ≤ k) (t1 : 1 ≤ t) (hq : hasR q (k * v * 1125899906842624) t) (hs : s.Lo * (1048576 * k) ≤ t ∧ t ≤ s.Hi * (1048576 * k)) : hasZ (mulZ q s 1073741824) v := by
 have m := hasR_mul (u := 1073741824) (by omega) (show 0 ≤ 1048576 * k by omega) hq (.inr hs : hasR s t (1048576 * k))
 have e1 : k * v * 1125899906842624 * t = v * (k * t * 1125899906842624) := by grind
 have e2 : t * (1048576 * k) * 1073741824 = 1 * (k * t * 1125899906842624) := by grind
 rw [e1, e2] at m
 have kt : 0 < k * t := Int.mul_pos (by omega) (by omega)
 rcases hasR_down (by omega) m with h | ⟨h1, h2⟩
 ·exact .inl h
 ·exact .inr ⟨by omega, by omega⟩
end Lf
/- The pull of the sun, and a day's step of a body. -/
namespace Lf
open Go Go.Abs
set_option linter.unusedVariables false
set_option linter.unusedSimpArgs false
def mag (a r : Int) : Int := 9007199254740992 * a / r / (r * r)
def partZ (x r : Int) : Int := if x > 0 then -mag x r else mag (-x) r
theorem div_less {x r s : Int} (x0 : 0 ≤ x) (s0 : 0 < s) (h : s ≤ r) : x / r ≤ x / s := by
 rw [Int.le_ediv_iff_mul_le s0]
 have q0 := Int.ediv_nonneg x0 (show 0 ≤ r by omega)
 have a := Int.mul_le_mul_of_nonneg_left h q0
 have b := Int.ediv_mul_le x (show r ≠ 0 by omega)
 omega
theorem mag_mono {a b r s : Int} (a0 : 0 ≤ a) (hab : a ≤ b) (s0 : 0 < s) (h : s ≤ r) : 0 ≤ mag a r ∧ mag a r ≤ mag b s := by
 unfold mag
 have rr : s * s ≤ r * r := Int.mul_le_mul h h (by omega) (by omega)
 have ss : 0 < s * s := Int.mul_pos s0 s0
 have u0 : 0 ≤ 9007199254740992 * a / r := Int.ediv_nonneg (by omega) (by omega)
 have u1 := Int.ediv_le_ediv (show 0 < r by omega) (show 9007199254740992 * a ≤ 9007199254740992 * b by omega)
 have u2 := div_less (x := 9007199254740992 * b) (by omega) s0 h
 refine ⟨Int.ediv_nonneg u0 (by omega), ?_⟩
 have v1 := Int.ediv_le_ediv (show 0 < r * r by omega) (show 9007199254740992 * a / r ≤ 9007199254740992 * b / s by omega)
 have v2 := div_less (x := 9007199254740992 * b / s) (by omega) ss rr
 omega
theorem mag_bd {a r : Int} (a0 : 0 ≤ a) (a1 : a ≤ 33554432) (r0 : 65536 ≤ r) : 0 ≤ mag a r ∧ mag a r ≤ 1073741824 := by
 have h := mag_mono a0 a1 (s := 65536) (by decide) r0
 have e : mag 33554432 65536 = 1073741824 := by decide
 omega
theorem skyPartB {x r : Int} (h1 : -33554432 ≤ x) (h2 : x ≤ 33554432) (r0 : 65536 ≤ r) (r1 : r ≤ 67108864) : sky_Pull_1 x r = some (partZ x r) ∧ -1073741824 ≤ partZ x r ∧ partZ x r ≤ 1073741824 := by
 have rr0 : 65536 * 65536 ≤ r * r := Int.mul_le_mul r0 r0 (by decide) (by omega)
 have rr1 : r * r ≤ 67108864 * 67108864 := Int.mul_le_mul r1 r1 (by omega) (by decide)
 have e : mx2 x (w6 (0 - x)) = max x (-x) := by rw [w6_in (by omega), mx2_max]; omega
 have m0 : 0 ≤ max x (-x) ∧ max x (-x) ≤ 33554432 := by omega
 have u0 : 0 ≤ 9007199254740992 * max x (-x) / r := Int.ediv_nonneg (by omega) (by omega)
 have u1 : 9007199254740992 * max x (-x) / r ≤ 4611686018427387904 := by
  have a := Int.ediv_le_ediv (show 0 < r by omega) (show 9007199254740992 * max x (-x) ≤ 9007199254740992 * 33554432 by omega)
  have b := div_less (x := 9007199254740992 * 33554432) (by decide) (show (0 : Int) < 65536 by decide) r0
  have c : (9007199254740992 : Int) * 33554432 / 65536 = 4611686018427387904 := by decide
  omega
 have v0 : 0 ≤ mag (max x (-x)) r ∧ mag (max x (-x)) r ≤ 1073741824 := mag_bd m0.1 m0.2 r0
 have pz : partZ x r = if x > 0 then -mag (max x (-x)) r else mag (max x (-x)) r := by
  unfold partZ
  split
  ·rw [show max x (-x) = x from by omega]
  ·rw [show max x (-x) = -x from by omega]
 refine ⟨?_, by rw [pz]; split <;> omega⟩
 apply Has.val
 unfold sky_Pull_1
 rw [e, w6_in (n := r * r) (by omega)]
 refine (muldiv_ok 9007199254740992 (max x (-x)) r (by unfold okI; omega) (by unfold okI; omega) (by omega)).bind fun q hq => ?_
 have hq : q = (9007199254740992 * max x (-x) / r, 0) := by
  rcases hq with ⟨_, h⟩ | ⟨h, _⟩
  ·exact h
  ·exfalso; apply h; unfold okI; omega
 rw [hq]
 simp only []
 rw [Int.tdiv_eq_ediv_of_nonneg u0]
 have em : 9007199254740992 * max x (-x) / r / (r * r) = mag (max x (-x)) r := rfl
 rw [em, w6_in (n := mag (max x (-x)) r) (by omega), pz]
 refine Has.chk (by omega) (Has.ite (fun h => ?_) fun h => ?_)
 ·rw [if_pos (of_decide_eq_true h), w6_in (by omega)]; exact Has.ret (by omega)
 ·rw [if_neg fun q => h (decide_eq_true q)]; exact Has.ret rfl
theorem skyPart_ok {x r : Int} (h1 : -33554432 ≤ x) (h2 : x ≤ 33554432) (r0 : 65536 ≤ r) (r1 : r ≤ 67108864) : sky_Pull_1 x r = some (partZ x r) := (skyPartB h1 h2 r0 r1).1
def inV (v : Vec) : Prop := (-4194304 ≤ v.X ∧ v.X ≤ 4194304) ∧ (-4194304 ≤ v.Y ∧ v.Y ≤ 4194304) ∧ (-4194304 ≤ v.Z ∧ v.Z ≤ 4194304)
instance (v : Vec) : Decidable (inV v) := inferInstanceAs (Decidable (_ ∧ _))
theorem gtv_0 (a b c : Int) : gt ([a, b, c] : List Int) 0 = a := rfl
theorem gtv_1 (a b c : Int) : gt ([a, b, c] : List Int) 1 = b := rfl
theorem gtv_2 (a b c : Int) : gt ([a, b, c] : List Int) 2 = c := rfl
theorem within_round {v : Vec} {k k' x : Int} (hk : (0 : Int) ≤ k ∧ k < 3) (e : gt ([v.X, v.Y, v.Z] : List Int) k = x) (ek : w6 (k + 1) = k') :
  (-4194304 ≤ x ∧ x ≤ 4194304 → sky_within.l1 v 4194304 k = some (.next k')) ∧ (¬ (-4194304 ≤ x ∧ x ≤ 4194304) → sky_within.l1 v 4194304 k = some (.done (.done false))) := by
 have hl : k < (([v.X, v.Y, v.Z] : List Int).length : Int) := hk.2
 have em : w6 (0 - 4194304) = -4194304 := by decide
 unfold sky_within.l1
 rw [if_pos (decide_eq_true hk.2), if_pos ⟨hk.1, hl⟩, e, ek, em]
 simp only [letF]
 constructor
 ·intro h
  have g1 : ¬ x < -4194304 := by omega
  have g2 : ¬ x > 4194304 := by omega
  simp [g1, g2]
 ·intro h
  by_cases g1 : x < -4194304
  ·simp [g1]
  ·have g2 : x > 4194304 := by omega
   simp [g1, g2]
theorem within_ok (v : Vec) : sky_within v 4194304 = some (decide (inV v)) := by
 obtain ⟨x1, x2⟩ := within_round (v := v) (k := 0) (k' := 1) (x := v.X) (by decide) rfl (by decide)
 obtain ⟨y1, y2⟩ := within_round (v := v) (k := 1) (k' := 2) (x := v.Y) (by decide) rfl (by decide)
 obtain ⟨z1, z2⟩ := within_round (v := v) (k := 2) (k' := 3) (x := v.Z) (by decide) rfl (by decide)
 unfold sky_within
 by_cases n1 : -4194304 ≤ v.X ∧ v.X ≤ 4194304
 ·by_cases n2 : -4194304 ≤ v.Y ∧ v.Y ≤ 4194304
  ·by_cases n3 : -4194304 ≤ v.Z ∧ v.Z ≤ 4194304
   ·rw [(Run.next (x1 n1) (Run.next (y1 n2) (Run.next (z1 n3) (Run.done (o := .next ()) rfl)))).ok (by decide), decide_eq_true (show inV v from ⟨n1, n2, n3⟩)]; rfl
   ·rw [(Run.next (x1 n1) (Run.next (y1 n2) (Run.done (z2 n3)))).ok (by decide), decide_eq_false (show ¬ inV v from fun h => n3 h.2.2)]; rfl
  ·rw [(Run.next (x1 n1) (Run.done (y2 n2))).ok (by decide), decide_eq_false (show ¬ inV v from fun h => n2 h.2.1)]; rfl
 ·rw [(Run.done (x2 n1)).ok (by decide), decide_eq_false (show ¬ inV v from fun h => n1 h.1)]; rfl
def isG (v g : Vec) : Prop := ∃ r, isRt (v.X * v.X + v.Y * v.Y + v.Z * v.Z) r ∧ ((r < 65536 ∧ g = ⟨0, 0, 0⟩) ∨ (65536 ≤ r ∧ g = ⟨partZ v.X r, partZ v.Y r, partZ v.Z r⟩))
theorem sq44 {x : Int} (h : -4194304 ≤ x ∧ x ≤ 4194304) : 0 ≤ x * x ∧ x * x ≤ 17592186044416 := by
 rcases Int.le_total 0 x with h0 | h0
 ·have p := Int.mul_nonneg h0 h0
  have q := Int.mul_le_mul h.2 h.2 h0 (by decide)
  omega
 ·have e : x * x = (-x) * (-x) := by rw [Int.neg_mul_neg]
  have p := Int.mul_nonneg (a := -x) (b := -x) (by omega) (by omega)
  have q := Int.mul_le_mul (a := -x) (b := -x) (c := 4194304) (d := 4194304) (by omega) (by omega) (by omega) (by decide)
  omega
theorem isG.bd {v g : Vec} (hv : inV v) (h : isG v g) : (-1073741824 ≤ g.X ∧ g.X ≤ 1073741824) ∧ (-1073741824 ≤ g.Y ∧ g.Y ≤ 1073741824) ∧ (-1073741824 ≤ g.Z ∧ g.Z ≤ 1073741824) := by
 obtain ⟨r, hr, h⟩ := h
 obtain ⟨⟨a1, a2⟩, ⟨b1, b2⟩, ⟨c1, c2⟩⟩ := hv
 have s1 := sq44 ⟨a1, a2⟩; have s2 := sq44 ⟨b1, b2⟩; have s3 := sq44 ⟨c1, c2⟩
 rcases h with ⟨_, rfl⟩ | ⟨r0, rfl⟩
 ·decide
 ·have r1 : r < 67108864 := sq_lt hr.r0 (by decide) (by have := hr.lo; omega)
  exact ⟨(skyPartB (by omega) (by omega) r0 (by omega)).2, (skyPartB (by omega) (by omega) r0 (by omega)).2, (skyPartB (by omega) (by omega) r0 (by omega)).2⟩
theorem skyPull_ok {v : Vec} (hv : inV v) : Has (sky_Pull v) fun g => isG v g := by
 have hv0 := hv
 obtain ⟨⟨a1, a2⟩, ⟨b1, b2⟩, ⟨c1, c2⟩⟩ := hv
 have s1 := sq44 ⟨a1, a2⟩; have s2 := sq44 ⟨b1, b2⟩; have s3 := sq44 ⟨c1, c2⟩
 unfold sky_Pull
 rw [within_ok, decide_eq_true hv0, w6_in (n := v.X * v.X) (by omega), w6_in (n := v.Y * v.Y) (by omega), w6_in (n := v.X * v.X + v.Y * v.Y) (by omega), w6_in (n := v.Z * v.Z) (by omega), w6_in (n := v.X * v.X + v.Y * v.Y + v.Z * v.Z) (by omega)]
 simp only [Option.bind_some, Bool.not_true, Bool.false_eq_true, if_false]
 refine Has.letF ((sqrt_ok _ (by omega)).bind fun r hr => ?_)
 have r1 : r < 67108864 := sq_lt hr.r0 (by decide) (by have := hr.lo; omega)
 refine Has.ite (fun h => Has.ret ⟨r, hr, .inl ⟨of_decide_eq_true h, rfl⟩⟩) fun h => ?_
 have r0 : 65536 ≤ r := by have : ¬ r < 65536 := fun q => h (decide_eq_true q); omega
 rw [skyPart_ok (by omega) (by omega) r0 (by omega), skyPart_ok (by omega) (by omega) r0 (by omega), skyPart_ok (by omega) (by omega) r0 (by omega)]
 exact Has.ret ⟨r, hr, .inr ⟨r0, rfl⟩⟩
def nextV (was here g : Vec) : Vec := ⟨2 * here.X - was.X + g.X, 2 * here.Y - was.Y + g.Y, 2 * here.Z - was.Z + g.Z⟩
theorem skyStep_ok {was here : Vec} (hw : inV was) (hh : inV here) : Has (sky_Step was here) fun r => ∃ g, isG here g ∧ ((r.2 = 0 ∧ inV (nextV was here g) ∧ r.1 = nextV was here g) ∨ (r.2 = 18 ∧ ¬ inV (nextV was here g))) := by
 unfold sky_Step
 rw [within_ok, within_ok, decide_eq_true hw, decide_eq_true hh]
 simp only [Option.bind_some, Bool.not_true, Bool.false_eq_true, if_false]
 refine (skyPull_ok hh).bind fun g hg => ?_
 have bg := hg.bd hh
 obtain ⟨⟨a1, a2⟩, ⟨b1, b2⟩, ⟨c1, c2⟩⟩ := hh
 obtain ⟨⟨d1, d2⟩, ⟨e1, e2⟩, ⟨f1, f2⟩⟩ := hw
 rw [w6_in (n := 2 * here.X) (by omega), w6_in (n := 2 * here.X - was.X) (by omega), w6_in (n := 2 * here.X - was.X + g.X) (by omega), w6_in (n := 2 * here.Y) (by omega), w6_in (n := 2 * here.Y - was.Y) (by omega), w6_in (n := 2 * here.Y - was.Y + g.Y) (by omega), w6_in (n := 2 * here.Z) (by omega), w6_in (n := 2 * here.Z - was.Z) (by omega), w6_in (n := 2 * here.Z - was.Z + g.Z) (by omega)]
 have en : Vec.mk (2 * here.X - was.X + g.X) (2 * here.Y - was.Y + g.Y) (2 * here.Z - was.Z + g.Z) = nextV was here g := rfl
 rw [en, within_ok]
 simp only [Option.bind_some]
 by_cases h : inV (nextV was here g)
 ·rw [decide_eq_true h]; exact Has.ret ⟨g, hg, .inl ⟨rfl, h, rfl⟩⟩
 ·rw [decide_eq_false h]; exact Has.ret ⟨g, hg, .inr ⟨rfl, h⟩⟩
end Lf
/- Sightings: the box holds a multiple of the vector; their rays. -/
namespace Lf
open Go Go.Abs
set_option linter.unusedVariables false
set_option linter.unusedSimpArgs false
theorem three {i : Int} (i0 : 0 ≤ i) (i1 : i < 3) : i = 0 ∨ i = 1 ∨ i = 2 := by omega
def at3 (p : Place3) (i : Int) : Bound := gt ([p.1, p.2.1, p.2.2] : List Bound) i
theorem at3_ok {p : Place3} (h : ok3 p) {i : Int} (i0 : 0 ≤ i) (i1 : i < 3) : (at3 p i).ok := by
 have : i = 0 ∨ i = 1 ∨ i = 2 := by omega
 rcases this with rfl | rfl | rfl
 ·exact h.x
 ·exact h.y
 ·exact h.z
def set3 (p : Place3) (i : Int) (b : Bound) : Place3 := (gt (List.set ([p.1, p.2.1, p.2.2] : List Bound) i.toNat b) 0, gt (List.set ([p.1, p.2.1, p.2.2] : List Bound) i.toNat b) 1, gt (List.set ([p.1, p.2.1, p.2.2] : List Bound) i.toNat b) 2)
theorem loop3 {body : Place3 × Int → Option (Step (Place3 × Int) Place3)} (f : Int → Bound) (init : Place3) (round : ∀ st i, 0 ≤ i → i < 3 → body (st, i) = some (.next (set3 st i (f i), i + 1))) (fin : ∀ st, body (st, 3) = some (.done st)) : loopF body (init, 0) = some (f 0, f 1, f 2) := by
 have r := (Run.next (round init 0 (by decide) (by decide)) (Run.next (round (set3 init 0 (f 0)) 1 (by decide) (by decide)) (Run.next (round (set3 (set3 init 0 (f 0)) 1 (f 1)) 2 (by decide) (by decide)) (Run.done (fin _))))).ok (by decide)
 exact r
theorem set3_twice (p : Place3) {i : Int} (i0 : 0 ≤ i) (i1 : i < 3) (a b : Bound) : set3 (set3 p i a) i b = set3 p i b := by
 rcases three i0 i1 with rfl | rfl | rfl <;> rfl
theorem at3_set3 (p : Place3) {i : Int} (i0 : 0 ≤ i) (i1 : i < 3) (a : Bound) : at3 (set3 p i a) i = a := by
 rcases three i0 i1 with rfl | rfl | rfl <;> rfl
theorem at3_def (p : Place3) (k : Int) : gt ([p.1, p.2.1, p.2.2] : List Bound) k = at3 p k := rfl
theorem at3_mk (a b c : Bound) (k : Int) : gt ([a, b, c] : List Bound) k = at3 (a, b, c) k := rfl
def addV (a b : Vec) : Vec := ⟨a.X + b.X, a.Y + b.Y, a.Z + b.Z⟩
def subV (a b : Vec) : Vec := ⟨a.X - b.X, a.Y - b.Y, a.Z - b.Z⟩
structure sighted (b : Box) (v : Vec) (k : Int) : Prop where
 cx : coordB b.X
 cy : coordB b.Y
 cz : coordB b.Z
 k1 : 1 ≤ k
 x : b.X.Lo ≤ k * v.X ∧ k * v.X ≤ b.X.Hi
 y : b.Y.Lo ≤ k * v.Y ∧ k * v.Y ≤ b.Y.Hi
 z : b.Z.Lo ≤ k * v.Z ∧ k * v.Z ≤ b.Z.Hi
 n : 1 ≤ nLo b.X b.Y b.Z
def sqs (v : Vec) : Int := v.X * v.X + v.Y * v.Y + v.Z * v.Z
def coV (v : Vec) (i : Int) : Int := if i = 0 then v.X else if i = 1 then v.Y else v.Z
theorem sq_of_mul {k v A : Int} : (k * v) * (k * v) = k * k * (v * v) := by grind
theorem sighted.ray {b : Box} {v : Vec} {k : Int} (h : sighted b v k) : Has (arc_Ray b) fun r => r.2 = true ∧ ok3 r.1 ∧ ∀ A : Int, 0 ≤ A → A * A ≤ sqs v → ∃ t : Int, 1 ≤ t ∧ 1048576 * k * A ≤ t ∧ (∀ B : Int, 0 ≤ B → sqs v ≤ B * B → t ≤ 1048576 * k * B) ∧ ∀ i : Int, 0 ≤ i → i < 3 → hasR (at3 r.1 i) (k * coV v i * 1125899906842624) t := by
 refine (ray_ok h.cx h.cy h.cz h.n).mono fun r ⟨r1, L, hr⟩ => ⟨r1, ⟨by rw [hr.e1]; exact meetOne_ok, by rw [hr.e2]; exact meetOne_ok, by rw [hr.e3]; exact meetOne_ok⟩, fun A A0 hA => ?_⟩
 have e : (k * v.X * (k * v.X) + k * v.Y * (k * v.Y) + k * v.Z * (k * v.Z)) * 1099511627776 = 1048576 * k * (1048576 * k) * sqs v := by unfold sqs; grind
 have kk : 0 ≤ 1048576 * k * (1048576 * k) := Int.mul_nonneg (by have := h.k1; omega) (by have := h.k1; omega)
 obtain ⟨t, c1, c2, c3, c4, c5, c6, c7⟩ := hr.wit (A := 1048576 * k * A) h.x h.y h.z (by
  rw [e]
  have m := Int.mul_le_mul_of_nonneg_left hA kk
  have e2 : 1048576 * k * A * (1048576 * k * A) = 1048576 * k * (1048576 * k) * (A * A) := by grind
  omega)
 have has := hr.has h.cx h.cy h.cz c1 c2 h.x h.y h.z c3 c4 c5
 refine ⟨t, by have := hr.p; omega, c6, fun B b0 hB => c7 _ (Int.mul_nonneg (by have := h.k1; omega) b0) ?_, fun i i0 i1 => ?_⟩
 ·rw [e]
  have m := Int.mul_le_mul_of_nonneg_left hB kk
  have e2 : 1048576 * k * B * (1048576 * k * B) = 1048576 * k * (1048576 * k) * (B * B) := by grind
  omega
 ·have : i = 0 ∨ i = 1 ∨ i = 2 := by omega
  rcases this with rfl | rfl | rfl
  ·exact has.1
  ·exact has.2.1
  ·exact has.2.2
theorem sqs_nonneg (v : Vec) : 0 ≤ sqs v := by
 have q : ∀ x : Int, 0 ≤ x * x := fun x => by rcases Int.le_total 0 x with q | q; exact Int.mul_nonneg q q; exact Int.mul_nonneg_of_nonpos_of_nonpos q q
 have := q v.X; have := q v.Y; have := q v.Z
 unfold sqs; omega
end Lf
/- The root of any bound; the squared length of any place. -/
namespace Lf
open Go Go.Abs
set_option linter.unusedVariables false
set_option linter.unusedSimpArgs false
theorem rootU_ok {a : Bound} {u : Int} (ha : a.ok) (u1 : 1 ≤ u) (u2 : u ≤ 1099511627776) : Has (bound_Root a u) fun b => b.ok ∧ (b.Unknown = true ∨ (a.Unknown = false ∧ isRt (max a.Lo 0 * u) b.Lo ∧ 0 ≤ b.Hi ∧ a.Hi * u ≤ b.Hi * b.Hi)) := by
 have l := ha.le; have h := ha.hi
 unfold bound_Root
 rw [vague_ok ha ha]
 refine Has.bind (P := fun z => z = true ∨ (a.Unknown = false ∧ 0 ≤ a.Hi)) ?_ fun z hz => Has.ite (fun q => ?_) fun q => ?_
 ·by_cases hu : a.Unknown = true
  ·exact Has.eq (a := true) (by simp [hu]) (.inl rfl)
  ·have hu : a.Unknown = false := by simpa using hu
   by_cases hn : a.Hi < 0
   ·exact Has.eq (a := true) (by simp [hu, hn]) (.inl rfl)
   ·exact Has.eq (a := false) (by simp [hu, hn]; omega) (.inr ⟨hu, by omega⟩)
 ·rw [none_ok]; exact Has.ret ⟨okNone, .inl rfl⟩
 ·rcases hz with hz | ⟨hu, h0⟩
  ·exact absurd hz q
  ·rw [mx2_max]
   refine (sqrtW_ok (max a.Lo 0) u (by omega) (by omega)).bind fun r7 h7 => (sqrtW_ok a.Hi u (by omega) (by omega)).bind fun r8 h8 => ?_
   have p7 := h7.r0; have p8 := h8.r0
   have x1 : a.Hi * u ≤ a.Hi * 1099511627776 := Int.mul_le_mul_of_nonneg_left u2 h0
   have x2 : max a.Lo 0 * u ≤ a.Hi * u := Int.mul_le_mul_of_nonneg_right (by omega) (by omega)
   have b8 : r8 < 1125899906842625 := sq_lt p8 (by decide) (by have := h8.lo; omega)
   have m := h7.mono h8 (by omega)
   refine (product_ok r8 r8 (by unfold okI; omega) (by unfold okI; omega)).bind fun w9 ⟨p1, p2, _⟩ => (product_ok a.Hi u (by unfold okI; omega) (by unfold okI; omega)).bind fun w10 ⟨q1, q2, _⟩ => (wcmp_ok p1 q1).bind fun c ⟨c1, c2⟩ => ?_
   rw [p2, q2] at c1
   have g8 := h8.hi
   refine Has.ite (fun hc => ?_) fun hc => ?_
   ·rw [w6_in (by omega), ofZ_eq, ofZ_known (by omega) (by omega) (by omega)]
    exact Has.ret ⟨okKnown (by omega) (by omega) (by omega), .inr ⟨hu, h7, by simp only []; omega, by simp only []; omega⟩⟩
   ·have hc : ¬ c < 0 := fun q => hc (decide_eq_true q)
    have g : ¬ r8 * r8 < a.Hi * u := fun q => hc (c1.2 q)
    rw [ofZ_eq, ofZ_known (by omega) (by omega) (by omega)]
    exact Has.ret ⟨okKnown (by omega) (by omega) (by omega), .inr ⟨hu, h7, by simp only []; omega, by simp only []; omega⟩⟩
def sqZ (b : Bound) : Bound := mulZ (absZ b) (absZ b) 1
theorem sqZ_eq {b : Bound} (h : b.ok) : arc_Square b = some (sqZ b) := by
 unfold arc_Square
 rw [absZ_eq h]
 simp only [Option.bind_some]
 rw [mulZ_eq absZ_ok absZ_ok (by decide)]; rfl
theorem sqZ_ok (b : Bound) : (sqZ b).ok := mulZ_ok _ _ _
theorem normG_ok {p : Place3} (h : ok3 p) : Has (arc_Norm p) fun n => n.ok ∧ ∀ a b c : Int, hasZ (sqZ p.1) a → hasZ (sqZ p.2.1) b → hasZ (sqZ p.2.2) c → hasZ n (a + b + c) := by
 unfold arc_Norm
 rw [sqZ_eq h.x, sqZ_eq h.y, sqZ_eq h.z]
 simp only [Option.bind_some]
 unfold bound_Sum
 rw [if_pos (by simp)]
 have o0 : Bound.ok ⟨0, 0, false⟩ := okKnown (by decide) (by decide) (by decide)
 have z0 : hasZ ⟨0, 0, false⟩ 0 := .inr ⟨Int.le_refl _, Int.le_refl _⟩
 refine Has.ret ?_
 simp only [bound_SumF, addZ_eq o0 (sqZ_ok p.1), Option.getD_some]
 split
 ·rename_i u; exact ⟨addZ_ok _ _, fun _ _ _ _ _ _ => .inl u⟩
 ·simp only [addZ_eq (addZ_ok _ _) (sqZ_ok p.2.1), Option.getD_some]
  split
  ·rename_i u; exact ⟨addZ_ok _ _, fun _ _ _ _ _ _ => .inl u⟩
  ·simp only [addZ_eq (addZ_ok _ _) (sqZ_ok p.2.2), Option.getD_some]
   have key : ∀ a b c : Int, hasZ (sqZ p.1) a → hasZ (sqZ p.2.1) b → hasZ (sqZ p.2.2) c → hasZ (addZ (addZ (addZ ⟨0, 0, false⟩ (sqZ p.1)) (sqZ p.2.1)) (sqZ p.2.2)) (a + b + c) := fun a b c ha hb hc => by
    have := hasZ_add (hasZ_add (hasZ_add z0 ha) hb) hc
    rw [Int.zero_add] at this; exact this
   split <;> exact ⟨addZ_ok _ _, key⟩
theorem hasZ_sq {b : Bound} {x : Int} (ob : b.ok) (h : hasZ b x) : hasZ (sqZ b) (x * x) := by
 unfold sqZ
 by_cases u : b.Unknown = true
 ·have e : absZ b = noneZ := by unfold absZ; rw [if_pos u]
  rw [e]; unfold mulZ; rw [if_pos (.inl rfl)]; exact .inl rfl
 ·have u : b.Unknown = false := by simpa using u
  rcases h with q | ⟨h1, h2⟩
  ·rw [u] at q; cases q
  ·have le := ob.le
   rw [absZ_known ob u]
   have y1 : aLo b ≤ max x (-x) := by unfold aLo; split <;> omega
   have y2 : max x (-x) ≤ aHi b := by unfold aHi; omega
   have e : x * x = max x (-x) * max x (-x) := by
    rcases Int.le_total 0 x with g | g
    ·rw [Int.max_eq_left (by omega)]
    ·rw [Int.max_eq_right (by omega)]; grind
   rw [e]
   refine hasZ_mul (.inr ⟨y1, y2⟩) (.inr ⟨y1, y2⟩) ?_ ?_
   ·rw [Int.ediv_one]; omega
   ·rw [cdiv_one]; omega
end Lf
/- Sums, absolute values, hulls of bounds that hold fractions; arc.Strength. -/
namespace Lf
open Go Go.Abs
set_option linter.unusedVariables false
set_option linter.unusedSimpArgs false
theorem sum3_ok {a b c : Bound} (ha : a.ok) (hb : b.ok) (hc : c.ok) : Has (bound_Sum ([a, b, c] : List Bound)) fun n => n.ok ∧ ∀ p q r t : Int, hasR a p t → hasR b q t → hasR c r t → hasR n (p + q + r) t := by
 unfold bound_Sum
 rw [if_pos (by simp)]
 have o0 : Bound.ok ⟨0, 0, false⟩ := okKnown (by decide) (by decide) (by decide)
 have z0 : ∀ t : Int, hasR ⟨0, 0, false⟩ 0 t := fun t => .inr ⟨by simp, by simp⟩
 refine Has.ret ?_
 simp only [bound_SumF, addZ_eq o0 ha, Option.getD_some]
 split
 ·rename_i u; exact ⟨addZ_ok _ _, fun _ _ _ _ _ _ _ => .inl u⟩
 ·simp only [addZ_eq (addZ_ok _ _) hb, Option.getD_some]
  split
  ·rename_i u; exact ⟨addZ_ok _ _, fun _ _ _ _ _ _ _ => .inl u⟩
  ·simp only [addZ_eq (addZ_ok _ _) hc, Option.getD_some]
   have key : ∀ p q r t : Int, hasR a p t → hasR b q t → hasR c r t → hasR (addZ (addZ (addZ ⟨0, 0, false⟩ a) b) c) (p + q + r) t := fun p q r t h1 h2 h3 => by
    have := hasR_add (hasR_add (hasR_add (z0 t) h1) h2) h3
    rw [Int.zero_add] at this; exact this
   split <;> exact ⟨addZ_ok _ _, key⟩
theorem hasR_abs {b : Bound} {p q : Int} (ob : b.ok) (hq : 0 < q) (h : hasR b p q) : hasR (absZ b) (max p (-p)) q := by
 by_cases u : b.Unknown = true
 ·exact .inl (by unfold absZ; rw [if_pos u]; rfl)
 ·have u : b.Unknown = false := by simpa using u
  rcases h with e | ⟨h1, h2⟩
  ·rw [u] at e; cases e
  ·have le := ob.le
   rw [absZ_known ob u]
   have up : ∀ z : Int, z ≤ aHi b → z * q ≤ aHi b * q := fun z hz => Int.mul_le_mul_of_nonneg_right hz (by omega)
   have a1 := up b.Hi (by unfold aHi; omega)
   have a2 := up (-b.Lo) (by unfold aHi; omega)
   rw [Int.neg_mul] at a2
   refine .inr ⟨?_, by simp only []; omega⟩
   simp only []
   unfold aLo
   split
   ·rw [Int.zero_mul]; omega
   ·rename_i g
    by_cases g0 : 0 < b.Lo
    ·have e : min (max b.Lo (-b.Lo)) (max b.Hi (-b.Hi)) = b.Lo := by omega
     rw [e]; omega
    ·have e : min (max b.Lo (-b.Lo)) (max b.Hi (-b.Hi)) = -b.Hi := by omega
     rw [e, Int.neg_mul]; omega
theorem hull_ok {a b : Bound} (ha : a.ok) (hb : b.ok) : Has (bound_Hull a b) fun h => h.ok ∧ (h.Unknown = true ∨ (a.Unknown = false ∧ b.Unknown = false ∧ h.Lo = min a.Lo b.Lo ∧ h.Hi = max a.Hi b.Hi)) := by
 have a1 := ha.lo; have a2 := ha.le; have a3 := ha.hi; have b1 := hb.lo; have b2 := hb.le; have b3 := hb.hi
 unfold bound_Hull
 rw [vague_ok ha hb, mn2_min, mx2_max]
 simp only [Option.bind_some]
 refine Has.ite (fun _ => ?_) fun h => ?_
 ·rw [none_ok]; exact Has.ret ⟨okNone, .inl rfl⟩
 ·have h : a.Unknown = false ∧ b.Unknown = false := by simpa using h
  rw [ofZ_eq, ofZ_known (by omega) (by omega) (by omega)]
  exact Has.ret ⟨okKnown (by omega) (by omega) (by omega), .inr ⟨h.1, h.2, rfl, rfl⟩⟩
theorem hasB_eq {b : Bound} (h : b.ok) (v : Int) : Has (bound_Has b v) fun r => (b.Unknown = true ∨ (b.Lo ≤ v ∧ v ≤ b.Hi)) → r = true := by
 unfold bound_Has
 rw [vague_ok h h]
 simp only [Option.bind_some, Bool.or_self]
 by_cases u : b.Unknown = true
 ·rw [u]; exact Has.ret fun _ => rfl
 ·have u : b.Unknown = false := by simpa using u
  rw [u]
  refine Has.bind (P := fun z => (b.Lo ≤ v ∧ v ≤ b.Hi) → z = true) (Has.neg (by decide) (Has.ite (fun h => Has.ret fun g => decide_eq_true g.2) fun h => Has.ret fun g => absurd (decide_eq_true g.1) h)) fun z hz => Has.ret fun g => hz ?_
  rcases g with e | g
  ·cases e
  ·exact g
theorem scaleZ_eq {b : Bound} {n : Int} (h : b.ok) (h1 : -1000 ≤ n) (h2 : n ≤ 1000) : bound_Scale b n 1 = some (mulZ b ⟨n, n, false⟩ 1) := by
 unfold bound_Scale bound_Exact
 rw [ofZ_eq, ofZ_known (by omega) (Int.le_refl _) (by omega)]
 simp only [Option.bind_some]
 rw [mulZ_eq h (okKnown (by omega) (Int.le_refl _) (by omega)) (by decide)]; rfl
theorem blur_ok {g w : Bound} {m : Int} (og : g.ok) (ow : w.ok) (m1 : 1 ≤ m) (m2 : m ≤ 1000) :
  Has (Option.bind (bound_Scale w m 1) fun r14 => Option.bind (bound_Neg r14) fun r15 => Option.bind (bound_Hull r14 r15) fun r16 => Option.bind (bound_Add g r16) fun r17 => Option.bind (bound_Has r17 0) fun r18 => some r18) fun b => ∀ P B R : Int, 0 < R → hasR g P R → hasR w B R → max P (-P) ≤ B → b = true := by
 rw [scaleZ_eq ow (by omega) m2]
 simp only [Option.bind_some]
 rw [negZ_eq (mulZ_ok _ _ _)]
 simp only [Option.bind_some]
 refine (hull_ok (mulZ_ok _ _ _) (negZ_ok (mulZ_ok _ _ _))).bind fun h ⟨oh, hh⟩ => ?_
 rw [addZ_eq og oh]
 simp only [Option.bind_some]
 refine (hasB_eq (addZ_ok _ _) 0).bind fun z hz => Has.ret fun P B R R0 hg hw hb => hz ?_
 have hm := hasR_mul (u := 1) (by omega) (by decide : (0 : Int) ≤ 1) hw (.inr ⟨by simp only []; omega, by simp only []; omega⟩ : hasR ⟨m, m, false⟩ m 1)
 rw [Int.mul_one, Int.mul_one] at hm
 have hr : hasR h (-P) R := by
  rcases hh with e | ⟨e1, e2, e3, e4⟩
  ·exact .inl e
  ·rcases hm with e | ⟨h1, h2⟩
   ·rw [e1] at e; cases e
   ·refine .inr ?_
    have B0 : 0 ≤ B := by omega
    have mB : B ≤ B * m := by have := Int.mul_le_mul_of_nonneg_left m1 B0; omega
    have hi : (mulZ w ⟨m, m, false⟩ 1).Hi * R ≤ h.Hi * R := Int.mul_le_mul_of_nonneg_right (by rw [e4]; omega) (by omega)
    have lo : h.Lo * R ≤ (negZ (mulZ w ⟨m, m, false⟩ 1)).Lo * R := Int.mul_le_mul_of_nonneg_right (by rw [e3]; omega) (by omega)
    have en : (negZ (mulZ w ⟨m, m, false⟩ 1)).Lo = -(mulZ w ⟨m, m, false⟩ 1).Hi := rfl
    rw [en, Int.neg_mul] at lo
    exact ⟨by omega, by omega⟩
 have s := hasR_add hg hr
 rw [show P + -P = 0 from by omega] at s
 rcases s with e | ⟨s1, s2⟩
 ·exact .inl e
 ·refine .inr ⟨?_, ?_⟩
  ·rcases Int.lt_or_le 0 (addZ g h).Lo with q | q
   ·have := Int.mul_pos q R0; omega
   ·exact q
  ·rcases Int.lt_or_le (addZ g h).Hi 0 with q | q
   ·have := Int.mul_neg_of_neg_of_pos q R0; omega
   ·exact q
theorem floorN_ok {a b : Int} (ha : 0 ≤ a ∧ a ≤ 9000000000000000000) (hb : 1 ≤ b) : num_FloorDiv a b = some (a / b) := by
 have q := Int.ediv_nonneg ha.1 (show 0 ≤ b by omega)
 have q2 := Int.ediv_le_self b ha.1
 have m := Int.emod_nonneg a (b := b) (by omega)
 unfold num_FloorDiv
 rw [Int.tdiv_eq_ediv_of_nonneg ha.1, Int.tmod_eq_emod_of_nonneg ha.1, if_neg (by simp; omega), if_pos (by omega), if_neg (by simp; omega), w6_in (by omega)]
theorem ceilN_ok {a b : Int} (ha : 0 ≤ a ∧ a ≤ 9000000000000000000) (hb : 1 ≤ b) : Has (num_CeilDiv a b) fun c => a ≤ c * b ∧ 0 ≤ c ∧ c ≤ a + 1 := by
 have q := Int.ediv_nonneg ha.1 (show 0 ≤ b by omega)
 have q2 := Int.ediv_le_self b ha.1
 have m := Int.emod_nonneg a (b := b) (by omega)
 have m2 := Int.emod_lt_of_pos a (show 0 < b by omega)
 have e := Int.mul_ediv_add_emod a b
 have e2 : b * (a / b) = a / b * b := Int.mul_comm _ _
 unfold num_CeilDiv
 rw [Int.tdiv_eq_ediv_of_nonneg ha.1, Int.tmod_eq_emod_of_nonneg ha.1, if_neg (by simp; omega), if_pos (by omega)]
 refine Has.ite (fun h => ?_) fun h => ?_
 ·rw [w6_in (n := a / b) (by omega), w6_in (n := a / b + 1) (by omega)]
  exact Has.ret ⟨by rw [Int.add_mul, Int.one_mul]; omega, by omega, by omega⟩
 ·have h : ¬ a % b > 0 := fun g => h (decide_eq_true g)
  rw [w6_in (n := a / b) (by omega)]
  exact Has.ret ⟨by omega, by omega, by omega⟩
theorem cube_le {x y : Int} (h0 : 0 ≤ x) (h : x ≤ y) : x * (x * x) ≤ y * (y * y) :=
 Int.mul_le_mul h (Int.mul_le_mul h h h0 (by omega)) (Int.mul_nonneg h0 h0) (by omega)
def pullS : Int := 618970019642690137449562112
theorem strength_ok {r : Bound} (hr : r.ok) : Has (arc_Strength r) fun S => S.ok ∧ (r.Unknown = true → S.Unknown = true) ∧ ∀ d : Int, 0 ≤ r.Lo → r.Lo ≤ d → d ≤ r.Hi → (65536 ≤ d → hasR S pullS (d * (d * d))) ∧ (d < 65536 → hasR S 0 1) := by
 unfold arc_Strength
 rw [check_ok hr]
 simp only [Option.bind_some, bne_self_eq_false, Bool.false_eq_true, if_false]
 have le := hr.le
 refine Has.bind (P := fun z => z = false → r.Unknown = false ∧ 0 ≤ r.Lo ∧ r.Hi < 67108864) (Has.ite (fun _ => Has.ret fun q => nomatch q) fun u => Has.ite (fun _ => Has.ret fun q => nomatch q) fun h => Has.ret fun q => ?_) fun z hz => Has.ite (fun _ => ?_) fun q => ?_
 ·have h : ¬ r.Lo < 0 := fun g => h (decide_eq_true g)
  have q : ¬ r.Hi ≥ 67108864 := of_decide_eq_false q
  exact ⟨by simpa using u, by omega, by omega⟩
 ·rw [none_ok]; exact Has.ret ⟨okNone, fun _ => rfl, fun _ _ _ _ => ⟨fun _ => .inl rfl, fun _ => .inl rfl⟩⟩
 ·obtain ⟨ru, l0, h1⟩ := hz (by simpa using q)
  have un : r.Unknown = true → ∀ (b : Bool), b = true := fun q => by rw [ru] at q; cases q
  refine Has.ite (fun g => Has.ret ⟨okKnown (by decide) (by decide) (by decide), fun q => un q _, fun d _ _ d1 => ?_⟩) fun g => ?_
  ·have g : r.Hi < 65536 := of_decide_eq_true g
   exact ⟨fun x => absurd x (by omega), fun _ => .inr ⟨by decide, by decide⟩⟩
  ·have g : ¬ r.Hi < 65536 := fun x => g (decide_eq_true x)
   rw [mx2_max]
   obtain ⟨h, eh⟩ : ∃ h, h = max r.Lo 65536 := ⟨_, rfl⟩
   rw [← eh]
   have hh0 : 65536 ≤ h := by omega
   have hh1 : h < 67108864 := by omega
   have H2a : 4294967296 ≤ r.Hi * r.Hi := Int.mul_le_mul (show 65536 ≤ r.Hi by omega) (show 65536 ≤ r.Hi by omega) (by decide) (by omega)
   have H2b : r.Hi * r.Hi ≤ 67108864 * 67108864 := Int.mul_le_mul (by omega) (by omega) (by omega) (by decide)
   have h2a : 4294967296 ≤ h * h := Int.mul_le_mul hh0 hh0 (by decide) (by omega)
   have h2b : h * h ≤ 67108864 * 67108864 := Int.mul_le_mul (by omega) (by omega) (by omega) (by decide)
   rw [w6_in (n := r.Hi * r.Hi) (by omega), w6_in (n := h * h) (by omega)]
   have e : (9007199254740992 : Int) * 68719476736 = pullS := by decide
   have qb : ∀ x : Int, 4294967296 ≤ x → 0 ≤ pullS / x ∧ pullS / x ≤ 144115188075855872 ∧ pullS / x * x ≤ pullS ∧ pullS < pullS / x * x + x := fun x hx => by
    have n := Int.ediv_nonneg (show 0 ≤ pullS by decide) (show 0 ≤ x by omega)
    have em := Int.mul_ediv_add_emod pullS x
    have m1 := Int.emod_nonneg pullS (b := x) (by omega)
    have m2 := Int.emod_lt_of_pos pullS (show 0 < x by omega)
    have e2 : x * (pullS / x) = pullS / x * x := Int.mul_comm _ _
    refine ⟨n, ?_, by omega, by omega⟩
    have mm := Int.mul_le_mul_of_nonneg_left hx n
    have : pullS = 618970019642690137449562112 := rfl
    omega
   obtain ⟨a1, a2, a3, a4⟩ := qb _ H2a
   obtain ⟨b1, b2, b3, b4⟩ := qb _ h2a
   refine (muldiv_ok 9007199254740992 68719476736 (r.Hi * r.Hi) (by unfold okI; omega) (by unfold okI; omega) ⟨by omega, by omega⟩).bind fun r9 h9 => ?_
   rw [e] at h9
   have h9 : r9 = (pullS / (r.Hi * r.Hi), 0) := by
    rcases h9 with ⟨_, x⟩ | ⟨x, _⟩
    ·exact x
    ·exact absurd (show okI (pullS / (r.Hi * r.Hi)) by unfold okI; omega) x
   refine (muldivup_ok 9007199254740992 68719476736 (h * h) (by unfold okI; omega) (by unfold okI; omega) ⟨by omega, by omega⟩).bind fun r10 ⟨x1, x2⟩ => ?_
   rw [e] at x1 x2
   have x3 := x1 (x2 ⟨by unfold okI; omega, by unfold okI; omega⟩)
   have up : pullS ≤ r10.1 * (h * h) ∧ 0 ≤ r10.1 ∧ r10.1 ≤ 144115188075855873 := by
    have em := Int.mul_ediv_add_emod pullS (h * h)
    have e2 : h * h * (pullS / (h * h)) = pullS / (h * h) * (h * h) := Int.mul_comm _ _
    rcases x3.1 with ⟨y1, y2⟩ | ⟨y1, y2⟩
    ·rw [y2]; exact ⟨by omega, by omega, by omega⟩
    ·rw [y2, Int.add_mul, Int.one_mul]; exact ⟨by omega, by omega, by omega⟩
   rw [h9]
   simp only []
   rw [floorN_ok ⟨a1, by omega⟩ (show 1 ≤ r.Hi by omega)]
   simp only [Option.bind_some]
   refine (ceilN_ok ⟨up.2.1, by omega⟩ (show 1 ≤ h by omega)).bind fun c ⟨c1, c2, c3⟩ => ?_
   -- the ends
   obtain ⟨dn, hdn⟩ : ∃ dn, dn = pullS / (r.Hi * r.Hi) / r.Hi := ⟨_, rfl⟩
   rw [← hdn]
   have dn0 : 0 ≤ dn := by rw [hdn]; exact Int.ediv_nonneg a1 (by omega)
   have dn1 : dn * r.Hi ≤ pullS / (r.Hi * r.Hi) := by rw [hdn]; exact Int.ediv_mul_le _ (by omega)
   have dnle : dn ≤ pullS / (r.Hi * r.Hi) := by rw [hdn]; exact Int.ediv_le_self _ a1
   have hH : h ≤ r.Hi := by omega
   have P1 : dn * (r.Hi * (r.Hi * r.Hi)) ≤ pullS := by
    have m := Int.mul_le_mul_of_nonneg_right dn1 (show 0 ≤ r.Hi * r.Hi by omega)
    have e2 : dn * r.Hi * (r.Hi * r.Hi) = dn * (r.Hi * (r.Hi * r.Hi)) := Int.mul_assoc _ _ _
    omega
   have P2 : pullS ≤ c * (h * (h * h)) := by
    have m := Int.mul_le_mul_of_nonneg_right c1 (show 0 ≤ h * h by omega)
    have e2 : c * h * (h * h) = c * (h * (h * h)) := Int.mul_assoc _ _ _
    omega
   have dc : dn ≤ c := by
    have m := Int.mul_le_mul_of_nonneg_left (cube_le (show 0 ≤ h by omega) hH) c2
    have p3 : 0 < r.Hi * (r.Hi * r.Hi) := Int.mul_pos (by omega) (by omega)
    exact Int.le_of_mul_le_mul_right (show dn * (r.Hi * (r.Hi * r.Hi)) ≤ c * (r.Hi * (r.Hi * r.Hi)) by omega) p3
   have key : ∀ d : Int, r.Lo ≤ d → d ≤ r.Hi → 65536 ≤ d → dn * (d * (d * d)) ≤ pullS ∧ pullS ≤ c * (d * (d * d)) := fun d d0 d1 d2 => by
    have m1 := Int.mul_le_mul_of_nonneg_left (cube_le (show 0 ≤ d by omega) d1) dn0
    have m2 := Int.mul_le_mul_of_nonneg_left (cube_le (show 0 ≤ h by omega) (show h ≤ d by omega)) c2
    exact ⟨by omega, by omega⟩
   refine Has.ite (fun q => Has.ret ⟨okKnown (by omega) c2 (by omega), fun q => un q _, fun d _ d0 d1 => ⟨fun d2 => .inr ⟨by rw [Int.zero_mul]; decide, (key d d0 d1 d2).2⟩, fun _ => .inr ⟨by simp only [Int.zero_mul]; decide, by simp only [Int.mul_one]; exact c2⟩⟩⟩) fun q => Has.ret ⟨okKnown (by omega) dc (by omega), fun q => un q _, fun d _ d0 d1 => ⟨fun d2 => .inr (key d d0 d1 d2), fun d2 => ?_⟩⟩
   have q : ¬ r.Lo < 65536 := fun x => q (decide_eq_true x)
   omega
end Lf
/- arc.plane.can: the equation of the distance admits where the body is. -/
namespace Lf
open Go Go.Abs
set_option linter.unusedVariables false
set_option linter.unusedSimpArgs false
def dotV (a b : Vec) : Int := a.X * b.X + a.Y * b.Y + a.Z * b.Z
def absV (a : Vec) : Int := max a.X (-a.X) + max a.Y (-a.Y) + max a.Z (-a.Z)
theorem mag_err {a r : Int} (a0 : 0 ≤ a) (r1 : 1 ≤ r) : 0 ≤ 9007199254740992 * a - mag a r * (r * (r * r)) ∧ 9007199254740992 * a - mag a r * (r * (r * r)) ≤ r * (r * r) := by
 unfold mag
 generalize 9007199254740992 * a = X
 obtain ⟨q1, h1⟩ : ∃ q1, q1 = X / r := ⟨_, rfl⟩
 obtain ⟨q2, h2⟩ : ∃ q2, q2 = q1 / (r * r) := ⟨_, rfl⟩
 rw [← h1, ← h2]
 have rr : 1 ≤ r * r := by have := Int.mul_le_mul r1 r1 (by decide) (by omega); omega
 have e1 := Int.mul_ediv_add_emod X r
 have e2 := Int.mul_ediv_add_emod q1 (r * r)
 have l1 := Int.emod_lt_of_pos X (show 0 < r by omega)
 have n1 := Int.emod_nonneg X (b := r) (by omega)
 have l2 := Int.emod_lt_of_pos q1 (show 0 < r * r by omega)
 have n2 := Int.emod_nonneg q1 (b := r * r) (by omega)
 rw [← h1] at e1
 rw [← h2] at e2
 have f1 : r * q1 = q1 * r := Int.mul_comm _ _
 have f2 : r * r * q2 = q2 * (r * r) := Int.mul_comm _ _
 have m1 := Int.mul_le_mul_of_nonneg_right (show q2 * (r * r) ≤ q1 by omega) (show 0 ≤ r by omega)
 have m2 := Int.mul_le_mul_of_nonneg_right (show q1 + 1 ≤ q2 * (r * r) + r * r by omega) (show 0 ≤ r by omega)
 have g1 : q2 * (r * r) * r = q2 * (r * (r * r)) := by grind
 have g2 : (q2 * (r * r) + r * r) * r = q2 * (r * (r * r)) + r * (r * r) := by grind
 have g3 : (q1 + 1) * r = q1 * r + r := by grind
 exact ⟨by omega, by omega⟩
theorem part_err {x r : Int} (r1 : 1 ≤ r) : -(r * (r * r)) ≤ partZ x r * (r * (r * r)) + 9007199254740992 * x ∧ partZ x r * (r * (r * r)) + 9007199254740992 * x ≤ r * (r * r) := by
 have rr : 0 ≤ r * (r * r) := Int.mul_nonneg (by omega) (Int.mul_nonneg (by omega) (by omega))
 unfold partZ
 split
 ·have := mag_err (a := x) (r := r) (by omega) r1
  rw [Int.neg_mul]; omega
 ·have := mag_err (a := -x) (r := r) (by omega) r1
  omega
theorem dot_small {D e : Vec} {n : Int} (n0 : 0 ≤ n) (hx : -n ≤ e.X ∧ e.X ≤ n) (hy : -n ≤ e.Y ∧ e.Y ≤ n) (hz : -n ≤ e.Z ∧ e.Z ≤ n) : max (dotV D e) (-(dotV D e)) ≤ absV D * n := by
 have one : ∀ d e : Int, -n ≤ e ∧ e ≤ n → d * e ≤ max d (-d) * n ∧ -(d * e) ≤ max d (-d) * n := fun d e ⟨h1, h2⟩ => by
  rcases Int.le_total 0 d with g | g
  ·have m1 := Int.mul_le_mul_of_nonneg_left h2 g
   have m2 := Int.mul_le_mul_of_nonneg_left h1 g
   rw [Int.mul_neg] at m2
   rw [Int.max_eq_left (by omega)]; omega
  ·have m1 := Int.mul_le_mul_of_nonneg_left h2 (show 0 ≤ -d by omega)
   have m2 := Int.mul_le_mul_of_nonneg_left h1 (show 0 ≤ -d by omega)
   rw [Int.max_eq_right (by omega)]
   simp only [Int.neg_mul, Int.mul_neg] at m1 m2 ⊢
   omega
 have x := one D.X e.X hx; have y := one D.Y e.Y hy; have z := one D.Z e.Z hz
 have e3 : absV D * n = max D.X (-D.X) * n + max D.Y (-D.Y) * n + max D.Z (-D.Z) * n := by unfold absV; rw [Int.add_mul, Int.add_mul]
 rw [e3]
 unfold dotV
 omega
structure okPlane (p : arc_plane) : Prop where
 ray : ok3 p.ray
 from_ : ok3 p.from_
 turn : p.turn.ok
 slope : p.slope.ok
 offset : p.offset.ok
 blurred : p.blurred.ok
def alongZ (f r : Place3) (far : Bound) (i : Int) : Bound := addZ (at3 f i) (mulZ (at3 r i) far 1073741824)
theorem along_ok {f r : Place3} {far : Bound} (hf : ok3 f) (hr : ok3 r) (hl : far.ok) : arc_along f r far = some (alongZ f r far 0, alongZ f r far 1, alongZ f r far 2) := by
 have l : ∀ init, loopF (arc_along.l1 f r far) (init, 0) = some (alongZ f r far 0, alongZ f r far 1, alongZ f r far 2) := fun init => by
  refine loop3 (alongZ f r far) init (fun st i i0 i1 => ?_) fun st => rfl
  apply Has.val
  unfold arc_along.l1
  simp only [at3_def]
  refine Has.pos (decide_eq_true i1) (Has.chk ⟨i0, i1⟩ (Has.chk ⟨i0, i1⟩ ?_))
  rw [mulZ_eq (at3_ok hr i0 i1) hl (by decide)]
  simp only [Option.bind_some]
  rw [addZ_eq (at3_ok hf i0 i1) (mulZ_ok _ _ _)]
  refine Has.chk ⟨i0, i1⟩ (Has.letF (Has.ret ?_))
  rw [w6_in (n := i + 1) (by omega)]; rfl
 unfold arc_along
 rw [l]; rfl
theorem sqs_sq {v : Vec} : v.X * v.X + v.Y * v.Y + v.Z * v.Z = sqs v := rfl
theorem dist_in {n L : Bound} {v : Vec} {d : Int} (hn : hasZ n (sqs v)) (hL : L.Unknown = true ∨ (n.Unknown = false ∧ isRt (max n.Lo 0 * 1) L.Lo ∧ 0 ≤ L.Hi ∧ n.Hi * 1 ≤ L.Hi * L.Hi)) (hd : isRt (sqs v) d) : L.Unknown = true ∨ (0 ≤ L.Lo ∧ L.Lo ≤ d ∧ d ≤ L.Hi) := by
 rcases hL with e | ⟨nu, lo, h0, hh⟩
 ·exact .inl e
 ·rcases hn with e | ⟨n1, n2⟩
  ·rw [nu] at e; cases e
  ·have s0 := sqs_nonneg v
   refine .inr ⟨lo.r0, lo.mono hd (by omega), ?_⟩
   rcases Int.lt_or_le L.Hi d with g | g
   ·have := Int.mul_le_mul (show L.Hi + 1 ≤ d by omega) (show L.Hi + 1 ≤ d by omega) (by omega) (by omega)
    have m2 : (L.Hi + 1) * (L.Hi + 1) = L.Hi * L.Hi + 2 * L.Hi + 1 := by grind
    have := hd.lo
    omega
   ·exact g
theorem can_ok {p : arc_plane} {far : Bound} (op : okPlane p) (of : far.ok) : Has (plane_can p far) fun b => ∀ (A Q : Int) (D g at_ y s F : Vec), 1 ≤ A → 1 ≤ Q →
  hasR p.turn (A * dotV D s) Q → hasR (mulZ far p.slope 1) (A * dotV D y) Q → hasR p.offset (A * dotV D F) Q → hasR p.blurred (A * absV D) Q →
  (∀ i : Int, 0 ≤ i → i < 3 → hasZ (alongZ p.from_ p.ray far i) (coV at_ i)) → dotV D F + dotV D y = dotV D at_ → dotV D s - 2 * dotV D y = dotV D g → isG at_ g → b = true := by
 unfold plane_can
 rw [along_ok op.from_ op.ray of]
 simp only [Option.bind_some]
 have oa : ok3 (alongZ p.from_ p.ray far 0, alongZ p.from_ p.ray far 1, alongZ p.from_ p.ray far 2) := ⟨addZ_ok _ _, addZ_ok _ _, addZ_ok _ _⟩
 refine (normG_ok oa).bind fun n ⟨on, hn⟩ => (rootU_ok on (by decide) (by decide)).bind fun L ⟨oL, hL⟩ => ?_
 rw [mulZ_eq of op.slope (by decide)]
 simp only [Option.bind_some]
 rw [scaleZ_eq (mulZ_ok _ _ _) (by decide) (by decide)]
 simp only [Option.bind_some]
 rw [subZ_eq op.turn (mulZ_ok _ _ _)]
 simp only [Option.bind_some]
 refine (strength_ok oL).bind fun S ⟨oS, uS, hS⟩ => ?_
 rw [addZ_eq op.offset (mulZ_ok _ _ _)]
 simp only [Option.bind_some]
 rw [mulZ_eq oS (addZ_ok _ _) (by decide)]
 simp only [Option.bind_some]
 rw [addZ_eq (subZ_ok _ _) (mulZ_ok _ _ _)]
 simp only [Option.bind_some]
 have key : ∀ (A Q : Int) (D g at_ y s F : Vec), 1 ≤ A → 1 ≤ Q →
  hasR p.turn (A * dotV D s) Q → hasR (mulZ far p.slope 1) (A * dotV D y) Q → hasR p.offset (A * dotV D F) Q → hasR p.blurred (A * absV D) Q →
  (∀ i : Int, 0 ≤ i → i < 3 → hasZ (alongZ p.from_ p.ray far i) (coV at_ i)) → dotV D F + dotV D y = dotV D at_ → dotV D s - 2 * dotV D y = dotV D g → isG at_ g →
  ∃ P B R : Int, 0 < R ∧ hasR (addZ (subZ p.turn (mulZ (mulZ far p.slope 1) ⟨2, 2, false⟩ 1)) (mulZ S (addZ p.offset (mulZ far p.slope 1)) 68719476736)) P R ∧ hasR p.blurred B R ∧ max P (-P) ≤ B := by
  intro A Q D g v y s F A1 Q1 ht hT ho hb hv e1 e2 hg
  obtain ⟨d, hd, hg⟩ := hg
  have hx := hasZ_sq oa.x (hv 0 (by decide) (by decide))
  have hy := hasZ_sq oa.y (hv 1 (by decide) (by decide))
  have hz := hasZ_sq oa.z (hv 2 (by decide) (by decide))
  have hN : hasZ n (sqs v) := hn _ _ _ hx hy hz
  have hdist := dist_in hN hL hd
  -- the strength as a fraction
  have hS2 : ∃ num den : Int, 1 ≤ den ∧ hasR S (num * 68719476736) den ∧ (-den ≤ g.X * den + num * v.X ∧ g.X * den + num * v.X ≤ den) ∧ (-den ≤ g.Y * den + num * v.Y ∧ g.Y * den + num * v.Y ≤ den) ∧ (-den ≤ g.Z * den + num * v.Z ∧ g.Z * den + num * v.Z ≤ den) := by
   rcases hg with ⟨d0, rfl⟩ | ⟨d0, rfl⟩
   ·refine ⟨0, 1, by decide, ?_, by simp only []; omega, by simp only []; omega, by simp only []; omega⟩
    rw [Int.zero_mul]
    rcases hdist with e | ⟨x0, x1, x2⟩
    ·exact .inl (uS e)
    ·exact (hS d x0 x1 x2).2 d0
   ·have d3 : 1 ≤ d * (d * d) := by
     have := Int.mul_le_mul (show 1 ≤ d by omega) (show 1 ≤ d by omega) (by decide) (by omega)
     have := Int.mul_le_mul (show 1 ≤ d by omega) (show 1 ≤ d * d by omega) (by decide) (by omega)
     omega
    refine ⟨9007199254740992, d * (d * d), d3, ?_, part_err (by omega), part_err (by omega), part_err (by omega)⟩
    rcases hdist with e | ⟨x0, x1, x2⟩
    ·exact .inl (uS e)
    ·exact (hS d x0 x1 x2).1 d0
  obtain ⟨num, den, den1, hs, ex, ey, ez⟩ := hS2
  have hT2 := hasR_mul (u := 1) (by omega) (by decide : (0 : Int) ≤ 1) hT (.inr ⟨by decide, by decide⟩ : hasR ⟨2, 2, false⟩ 2 1)
  rw [Int.mul_one, Int.mul_one] at hT2
  have h1 := hasR_up (m := den) (by omega) (hasR_sub ht hT2)
  have h2 := hasR_mul (u := 68719476736) (by omega) (by omega) hs (hasR_add ho hT)
  have e3 : num * 68719476736 * (A * dotV D F + A * dotV D y) = num * (A * dotV D v) * 68719476736 := by rw [← e1]; grind
  have e4 : den * Q * 68719476736 = Q * den * 68719476736 := by grind
  rw [e3, e4] at h2
  have h3 := hasR_add h1 (hasR_down (by decide) h2)
  have e5 : (A * dotV D s - A * dotV D y * 2) * den + num * (A * dotV D v) = A * dotV D ⟨g.X * den + num * v.X, g.Y * den + num * v.Y, g.Z * den + num * v.Z⟩ := by
   have : A * dotV D s - A * dotV D y * 2 = A * (dotV D s - 2 * dotV D y) := by grind
   rw [this, e2]
   unfold dotV; grind
  rw [e5] at h3
  have sm := dot_small (D := D) (e := ⟨g.X * den + num * v.X, g.Y * den + num * v.Y, g.Z * den + num * v.Z⟩) (n := den) (by omega) ex ey ez
  refine ⟨_, A * absV D * den, Q * den, Int.mul_pos (by omega) (by omega), h3, hasR_up (by omega) hb, ?_⟩
  generalize dotV D ⟨g.X * den + num * v.X, g.Y * den + num * v.Y, g.Z * den + num * v.Z⟩ = W at sm
  have m1 := Int.mul_le_mul_of_nonneg_left (show W ≤ absV D * den by omega) (show 0 ≤ A by omega)
  have m2 := Int.mul_le_mul_of_nonneg_left (show -W ≤ absV D * den by omega) (show 0 ≤ A by omega)
  rw [Int.mul_neg] at m2
  rw [Int.mul_assoc]
  omega
 refine Has.bind (P := fun _ => True) (Has.ite (fun _ => Has.ret trivial) fun _ => Has.ret trivial) fun z _ => Has.ite (fun _ => ?_) fun _ => ?_
 ·refine (blur_ok (m := 98) (addZ_ok _ _) op.blurred (by decide) (by decide)).mono fun b hb => ?_
  intro A Q D g v y s F A1 Q1 ht hT ho hbl hv e1 e2 hg
  obtain ⟨P, B, R, R0, h1, h2, h3⟩ := key A Q D g v y s F A1 Q1 ht hT ho hbl hv e1 e2 hg
  exact hb P B R R0 h1 h2 h3
 ·refine (blur_ok (m := 2) (addZ_ok _ _) op.blurred (by decide) (by decide)).mono fun b hb => ?_
  intro A Q D g v y s F A1 Q1 ht hT ho hbl hv e1 e2 hg
  obtain ⟨P, B, R, R0, h1, h2, h3⟩ := key A Q D g v y s F A1 Q1 ht hT ho hbl hv e1 e2 hg
  exact hb P B R R0 h1 h2 h3
end Lf
/- arc.begin: the equation of three sightings. -/
namespace Lf
open Go Go.Abs
set_option linter.unusedVariables false
set_option linter.unusedSimpArgs false
theorem arcMinus_eq {a b : Place3} (ha : ok3 a) (hb : ok3 b) : arc_minus a b = some (subZ a.1 b.1, subZ a.2.1 b.2.1, subZ a.2.2 b.2.2) := by
 unfold arc_minus
 rw [subZ_eq ha.x hb.x, subZ_eq ha.y hb.y, subZ_eq ha.z hb.z]; rfl
theorem ok3_sub {a b : Place3} : ok3 (subZ a.1 b.1, subZ a.2.1 b.2.1, subZ a.2.2 b.2.2) := ⟨subZ_ok _ _, subZ_ok _ _, subZ_ok _ _⟩
def crossA (a b : Place3) (i j : Int) : Bound := subZ (mulZ (at3 a i) (at3 b j) 1073741824) (mulZ (at3 a j) (at3 b i) 1073741824)
theorem arcCross1_eq {a b : Place3} (ha : ok3 a) (hb : ok3 b) {i j : Int} (i0 : 0 ≤ i) (i1 : i < 3) (j0 : 0 ≤ j) (j1 : j < 3) : arc_cross_1 i j a b = some (crossA a b i j) := by
 apply Has.val
 unfold arc_cross_1
 simp only [at3_def]
 refine Has.chk ⟨i0, i1⟩ (Has.chk ⟨j0, j1⟩ ?_)
 rw [mulZ_eq (at3_ok ha i0 i1) (at3_ok hb j0 j1) (by decide)]
 simp only [Option.bind_some]
 refine Has.chk ⟨j0, j1⟩ (Has.chk ⟨i0, i1⟩ ?_)
 rw [mulZ_eq (at3_ok ha j0 j1) (at3_ok hb i0 i1) (by decide)]
 simp only [Option.bind_some]
 rw [subZ_eq (mulZ_ok _ _ _) (mulZ_ok _ _ _)]
 exact Has.ret rfl
theorem arcCross_eq {a b : Place3} (ha : ok3 a) (hb : ok3 b) : arc_cross a b = some (crossA a b 1 2, crossA a b 2 0, crossA a b 0 1) := by
 unfold arc_cross
 rw [arcCross1_eq ha hb (by decide) (by decide) (by decide) (by decide), arcCross1_eq ha hb (by decide) (by decide) (by decide) (by decide), arcCross1_eq ha hb (by decide) (by decide) (by decide) (by decide)]; rfl
theorem dot_ok {a b : Place3} {u : Int} (ha : ok3 a) (hb : ok3 b) (hu : u ≤ 9223372036854775807) : Has (arc_dot a b u) fun n => n.ok ∧ ∀ p q r t : Int, hasR (mulZ a.1 b.1 u) p t → hasR (mulZ a.2.1 b.2.1 u) q t → hasR (mulZ a.2.2 b.2.2 u) r t → hasR n (p + q + r) t := by
 unfold arc_dot
 rw [mulZ_eq ha.x hb.x hu, mulZ_eq ha.y hb.y hu, mulZ_eq ha.z hb.z hu]
 simp only [Option.bind_some]
 exact (sum3_ok (mulZ_ok _ _ _) (mulZ_ok _ _ _) (mulZ_ok _ _ _)).bind fun n hn => Has.ret hn
def exA (v : Vec) : Place3 := (⟨v.X, v.X, false⟩, ⟨v.Y, v.Y, false⟩, ⟨v.Z, v.Z, false⟩)
theorem arcExact_eq {v : Vec} (h : inV v) : arc_exact v = some (exA v) := by
 obtain ⟨⟨a1, a2⟩, ⟨b1, b2⟩, ⟨c1, c2⟩⟩ := h
 unfold arc_exact bound_Exact
 rw [ofZ_eq, ofZ_eq, ofZ_eq, exactZ (by omega) (by omega), exactZ (by omega) (by omega), exactZ (by omega) (by omega)]
 rfl
theorem exA_ok {v : Vec} (h : inV v) : ok3 (exA v) := by
 obtain ⟨⟨a1, a2⟩, ⟨b1, b2⟩, ⟨c1, c2⟩⟩ := h
 exact ⟨okKnown (by omega) (Int.le_refl _) (by omega), okKnown (by omega) (Int.le_refl _) (by omega), okKnown (by omega) (Int.le_refl _) (by omega)⟩
def crossV (x z : Vec) : Vec := ⟨x.Y * z.Z - x.Z * z.Y, x.Z * z.X - x.X * z.Z, x.X * z.Y - x.Y * z.X⟩
def secV (a b c : Vec) : Vec := ⟨c.X - b.X - (b.X - a.X), c.Y - b.Y - (b.Y - a.Y), c.Z - b.Z - (b.Z - a.Z)⟩
theorem hasR1 {b : Bound} {v : Int} (h : hasZ b v) : hasR b v 1 := by
 have := hasR_int (q := 1) (by decide) h
 rw [Int.mul_one] at this; exact this
theorem hasZ_ex (v : Int) : hasZ ⟨v, v, false⟩ v := .inr ⟨Int.le_refl _, Int.le_refl _⟩
theorem norm_mul {n e : Bound} {A Q d v : Int} (Q0 : 0 ≤ Q) (hn : hasR n (A * d) Q) (he : hasZ e v) : hasR (mulZ n e 1) (A * (d * v)) Q := by
 have m := hasR_mul (u := 1) Q0 (by decide : (0 : Int) ≤ 1) hn (hasR1 he)
 rw [Int.mul_one, Int.mul_one, Int.mul_assoc] at m; exact m
theorem abs_mul {A d : Int} (hA : 0 ≤ A) : max (A * d) (-(A * d)) = A * max d (-d) := by
 rcases Int.le_total 0 d with g | g
 ·have := Int.mul_nonneg hA g
  rw [Int.max_eq_left (by omega), Int.max_eq_left (by omega)]
 ·have := Int.mul_nonneg hA (show 0 ≤ -d by omega)
  rw [Int.mul_neg] at this
  rw [Int.max_eq_right (by omega), Int.max_eq_right (by omega), Int.mul_neg]
theorem begin_ok {s : Seen × Seen × Seen} {x y z : Vec} {k0 k1 k2 : Int} (h0 : sighted s.1.Box x k0) (h1 : sighted s.2.1.Box y k1) (h2 : sighted s.2.2.Box z k2) (i0 : inV s.1.From) (i1 : inV s.2.1.From) (i2 : inV s.2.2.From) :
  Has (arc_begin s) fun p => okPlane p ∧ ∃ A Q : Int, 1 ≤ A ∧ 1 ≤ Q ∧ hasR p.turn (A * dotV (crossV x z) (secV s.1.From s.2.1.From s.2.2.From)) Q ∧ hasR p.offset (A * dotV (crossV x z) s.2.1.From) Q ∧ hasR p.blurred (A * absV (crossV x z)) Q ∧
   ∀ lo hi : Int, 0 ≤ lo → lo * lo ≤ sqs y → 0 ≤ hi → sqs y ≤ hi * hi → hasR (mulZ ⟨lo, hi, false⟩ p.slope 1) (A * dotV (crossV x z) y) Q ∧ ∀ i : Int, 0 ≤ i → i < 3 → hasZ (alongZ p.from_ p.ray ⟨lo, hi, false⟩ i) (coV (addV s.2.1.From y) i) := by
 unfold arc_begin
 refine h0.ray.bind fun ⟨a, af⟩ ⟨_, oa, wa⟩ => h1.ray.bind fun ⟨b, bf⟩ ⟨_, ob, wb⟩ => h2.ray.bind fun ⟨c, cf⟩ ⟨_, oc, wc⟩ => ?_
 simp only [] at oa ob oc wa wb wc
 have om : ok3 (subZ c.1 a.1, subZ c.2.1 a.2.1, subZ c.2.2 a.2.2) := ⟨subZ_ok _ _, subZ_ok _ _, subZ_ok _ _⟩
 rw [arcMinus_eq oc oa]
 simp only [Option.bind_some]
 rw [arcCross_eq oa om, arcExact_eq i0, arcExact_eq i1, arcExact_eq i2]
 simp only [Option.bind_some]
 generalize em : ((subZ c.1 a.1, subZ c.2.1 a.2.1, subZ c.2.2 a.2.2) : Place3) = m at om
 have on : ok3 (crossA a m 1 2, crossA a m 2 0, crossA a m 0 1) := ⟨subZ_ok _ _, subZ_ok _ _, subZ_ok _ _⟩
 have o1 := ok3_sub (a := exA s.2.2.From) (b := exA s.2.1.From)
 have o2 := ok3_sub (a := exA s.2.1.From) (b := exA s.1.From)
 rw [arcMinus_eq (exA_ok i2) (exA_ok i1), arcMinus_eq (exA_ok i1) (exA_ok i0)]
 simp only [Option.bind_some]
 rw [arcMinus_eq o1 o2]
 simp only [Option.bind_some]
 have od : ok3 (subZ b.1 a.1, subZ b.2.1 a.2.1, subZ b.2.2 a.2.2) := ⟨subZ_ok _ _, subZ_ok _ _, subZ_ok _ _⟩
 have os := ok3_sub (a := (subZ (exA s.2.2.From).1 (exA s.2.1.From).1, subZ (exA s.2.2.From).2.1 (exA s.2.1.From).2.1, subZ (exA s.2.2.From).2.2 (exA s.2.1.From).2.2)) (b := (subZ (exA s.2.1.From).1 (exA s.1.From).1, subZ (exA s.2.1.From).2.1 (exA s.1.From).2.1, subZ (exA s.2.1.From).2.2 (exA s.1.From).2.2))
 refine (dot_ok on os (by decide)).bind fun turn ⟨q1, hturn⟩ => ?_
 rw [arcMinus_eq ob oa]
 simp only [Option.bind_some]
 refine (dot_ok od on (by decide)).bind fun slope ⟨q2, hslope⟩ => (dot_ok on (exA_ok i1) (by decide)).bind fun off ⟨q3, hoff⟩ => ?_
 rw [absZ_eq on.x, absZ_eq on.y, absZ_eq on.z]
 simp only [Option.bind_some]
 refine (sum3_ok absZ_ok absZ_ok absZ_ok).bind fun blur ⟨q4, hblur⟩ => Has.ret ⟨⟨ob, exA_ok i1, q1, q2, q3, q4⟩, ?_⟩
 simp only []
 simp only [] at hturn hslope hoff hblur
 obtain ⟨t0, t01, _, _, ra⟩ := wa 0 (Int.le_refl _) (by have := sqs_nonneg x; omega)
 obtain ⟨t2, t21, _, _, rc⟩ := wc 0 (Int.le_refl _) (by have := sqs_nonneg z; omega)
 have rm : ∀ i : Int, 0 ≤ i → i < 3 → hasR (at3 m i) (k2 * coV z i * 1125899906842624 * t0 - k0 * coV x i * 1125899906842624 * t2) (t0 * t2) := fun i i0 i1 => by
  have u1 := hasR_up (m := t0) (by omega) (rc i i0 i1)
  rw [Int.mul_comm t2 t0] at u1
  have u2 := hasR_up (m := t2) (by omega) (ra i i0 i1)
  have s := hasR_sub u1 u2
  rw [← em]
  rcases three i0 i1 with rfl | rfl | rfl <;> exact s
 have tt : 1 ≤ t0 * t2 := by have := Int.mul_le_mul t01 t21 (by decide) (by omega); omega
 have ttt : 1 ≤ t0 * (t0 * t2) := by have := Int.mul_le_mul t01 tt (by decide) (by omega); omega
 have kk : 1 ≤ k0 * 1125899906842624 * (k2 * 1125899906842624) * t0 := by
  have a1 : 1 ≤ k0 * 1125899906842624 := by have := h0.k1; omega
  have a2 : 1 ≤ k2 * 1125899906842624 := by have := h2.k1; omega
  have a3 := Int.mul_le_mul a1 a2 (by decide) (by omega)
  have a4 := Int.mul_le_mul (show 1 ≤ k0 * 1125899906842624 * (k2 * 1125899906842624) by omega) t01 (by decide) (by omega)
  omega
 have nor : ∀ i j : Int, 0 ≤ i → i < 3 → 0 ≤ j → j < 3 → hasR (crossA a m i j) (k0 * 1125899906842624 * (k2 * 1125899906842624) * t0 * (coV x i * coV z j - coV x j * coV z i)) (t0 * (t0 * t2) * 1073741824) := fun i j i0 i1 j0 j1 => by
  have n := hasR_sub (hasR_mul (u := 1073741824) (by omega) (by omega) (ra i i0 i1) (rm j j0 j1)) (hasR_mul (u := 1073741824) (by omega) (by omega) (ra j j0 j1) (rm i i0 i1))
  have e : k0 * 1125899906842624 * (k2 * 1125899906842624) * t0 * (coV x i * coV z j - coV x j * coV z i) = k0 * coV x i * 1125899906842624 * (k2 * coV z j * 1125899906842624 * t0 - k0 * coV x j * 1125899906842624 * t2) - k0 * coV x j * 1125899906842624 * (k2 * coV z i * 1125899906842624 * t0 - k0 * coV x i * 1125899906842624 * t2) := by grind
  rw [e]; exact n
 have n0 := nor 1 2 (by decide) (by decide) (by decide) (by decide)
 have n1 := nor 2 0 (by decide) (by decide) (by decide) (by decide)
 have n2 := nor 0 1 (by decide) (by decide) (by decide) (by decide)
 obtain ⟨A, hA⟩ : ∃ A, A = k0 * 1125899906842624 * (k2 * 1125899906842624) * t0 := ⟨_, rfl⟩
 obtain ⟨Q, hQ⟩ : ∃ Q, Q = t0 * (t0 * t2) * 1073741824 := ⟨_, rfl⟩
 rw [← hA, ← hQ] at n0 n1 n2
 rw [← hA] at kk
 have Q1 : 1 ≤ Q := by omega
 have n0 : hasR (crossA a m 1 2) (A * (crossV x z).X) Q := n0
 have n1 : hasR (crossA a m 2 0) (A * (crossV x z).Y) Q := n1
 have n2 : hasR (crossA a m 0 1) (A * (crossV x z).Z) Q := n2
 have perp : dotV (crossV x z) x = 0 := by unfold dotV crossV; grind
 generalize crossV x z = D at n0 n1 n2 perp
 have dist : ∀ v : Vec, A * dotV D v = A * (D.X * v.X) + A * (D.Y * v.Y) + A * (D.Z * v.Z) := fun v => by unfold dotV; grind
 refine ⟨A, Q, kk, Q1, ?_, ?_, ?_, fun lo hi l0 l1 b0 b1 => ?_⟩
 ·have hs : ∀ u v w : Int, hasZ (subZ (subZ ⟨w, w, false⟩ ⟨v, v, false⟩) (subZ ⟨v, v, false⟩ ⟨u, u, false⟩)) (w - v - (v - u)) := fun u v w => hasZ_sub (hasZ_sub (hasZ_ex _) (hasZ_ex _)) (hasZ_sub (hasZ_ex _) (hasZ_ex _))
  rw [dist]
  exact hturn _ _ _ _ (norm_mul (by omega) n0 (hs _ _ _)) (norm_mul (by omega) n1 (hs _ _ _)) (norm_mul (by omega) n2 (hs _ _ _))
 ·rw [dist]
  exact hoff _ _ _ _ (norm_mul (by omega) n0 (hasZ_ex _)) (norm_mul (by omega) n1 (hasZ_ex _)) (norm_mul (by omega) n2 (hasZ_ex _))
 ·have := hblur _ _ _ _ (hasR_abs on.x (by omega) n0) (hasR_abs on.y (by omega) n1) (hasR_abs on.z (by omega) n2)
  rw [abs_mul (by omega), abs_mul (by omega), abs_mul (by omega)] at this
  have e : A * absV D = A * max D.X (-D.X) + A * max D.Y (-D.Y) + A * max D.Z (-D.Z) := by unfold absV; rw [Int.mul_add, Int.mul_add]
  rw [e]; exact this
 ·obtain ⟨t1, t11, tA, tB, rb⟩ := wb lo l0 l1
  have tB := tB hi b0 b1
  have k11 := h1.k1
  have hfar : hasR ⟨lo, hi, false⟩ t1 (1048576 * k1) := .inr ⟨by simp only []; rw [Int.mul_comm]; exact tA, by simp only []; rw [Int.mul_comm]; exact tB⟩
  have diff : ∀ i : Int, 0 ≤ i → i < 3 → hasR (subZ (at3 b i) (at3 a i)) (k1 * coV y i * 1125899906842624 * t0 - k0 * coV x i * 1125899906842624 * t1) (t1 * t0) := fun i i0 i1 => by
   have u1 := hasR_up (m := t0) (by omega) (rb i i0 i1)
   have u2 := hasR_up (m := t1) (by omega) (ra i i0 i1)
   rw [Int.mul_comm t0 t1] at u2
   exact hasR_sub u1 u2
  have tt1 : 0 ≤ t1 * t0 := Int.mul_nonneg (by omega) (by omega)
  have s0 := hasR_mul (u := 1073741824) tt1 (by omega) (diff 0 (by decide) (by decide)) n0
  have s1 := hasR_mul (u := 1073741824) tt1 (by omega) (diff 1 (by decide) (by decide)) n1
  have s2 := hasR_mul (u := 1073741824) tt1 (by omega) (diff 2 (by decide) (by decide)) n2
  have sl := hslope _ _ _ _ s0 s1 s2
  have e1 : (k1 * coV y 0 * 1125899906842624 * t0 - k0 * coV x 0 * 1125899906842624 * t1) * (A * D.X) + (k1 * coV y 1 * 1125899906842624 * t0 - k0 * coV x 1 * 1125899906842624 * t1) * (A * D.Y) + (k1 * coV y 2 * 1125899906842624 * t0 - k0 * coV x 2 * 1125899906842624 * t1) * (A * D.Z) = A * dotV D y * (k1 * 1125899906842624 * t0) := by
   have c0 : ∀ v : Vec, coV v 0 = v.X := fun v => rfl
   have c1 : ∀ v : Vec, coV v 1 = v.Y := fun v => rfl
   have c2 : ∀ v : Vec, coV v 2 = v.Z := fun v => rfl
   simp only [c0, c1, c2]
   have p2 : D.X * x.X + D.Y * x.Y + D.Z * x.Z = 0 := perp
   have : (k1 * y.X * 1125899906842624 * t0 - k0 * x.X * 1125899906842624 * t1) * (A * D.X) + (k1 * y.Y * 1125899906842624 * t0 - k0 * x.Y * 1125899906842624 * t1) * (A * D.Y) + (k1 * y.Z * 1125899906842624 * t0 - k0 * x.Z * 1125899906842624 * t1) * (A * D.Z) = A * (D.X * y.X + D.Y * y.Y + D.Z * y.Z) * (k1 * 1125899906842624 * t0) - k0 * 1125899906842624 * t1 * A * (D.X * x.X + D.Y * x.Y + D.Z * x.Z) := by grind
   rw [this, p2, Int.mul_zero, Int.sub_zero]; rfl
  rw [e1] at sl
  have fs := hasR_mul (u := 1) (by omega) (Int.mul_nonneg (Int.mul_nonneg tt1 (by omega)) (by decide)) hfar sl
  refine ⟨?_, fun i i0 i1 => ?_⟩
  ·have M0 : 0 < k1 * 1125899906842624 * t0 * t1 := Int.mul_pos (Int.mul_pos (by omega) (by omega)) (by omega)
   refine hasR_down M0 ?_
   have e2 : A * dotV D y * (k1 * 1125899906842624 * t0 * t1) = t1 * (A * dotV D y * (k1 * 1125899906842624 * t0)) := by grind
   have e3 : Q * (k1 * 1125899906842624 * t0 * t1) = 1048576 * k1 * (t1 * t0 * Q * 1073741824) * 1 := by grind
   rw [e2, e3]; exact fs
  ·have m := along (s := ⟨lo, hi, false⟩) h1.k1 t11 (rb i i0 i1) ⟨by simp only []; rw [Int.mul_comm]; exact tA, by simp only []; rw [Int.mul_comm]; exact tB⟩
   unfold alongZ
   have hf : hasZ (at3 (exA s.2.1.From) i) (coV s.2.1.From i) := by rcases three i0 i1 with rfl | rfl | rfl <;> exact hasZ_ex _
   have sum := hasZ_add hf m
   rcases three i0 i1 with rfl | rfl | rfl <;> exact sum
end Lf
/- tracklet.CheckSeen of a sighting, arc.Check of three. -/
namespace Lf
open Go Go.Abs
set_option linter.unusedVariables false
set_option linter.unusedSimpArgs false
structure seenOK (s : Seen) (v : Vec) (k : Int) : Prop where
 b : sighted s.Box v k
 a : s.At.ok
 au : s.At.Unknown = false
 al : -17592186044416 ≤ s.At.Lo
 ah : s.At.Hi ≤ 17592186044416
 ae : s.At.Lo = s.At.Hi
 ad : Int.tmod s.At.Lo 86400000 = 0
 f : inV s.From
 x : s.Flux.ok
theorem sighted.at {b : Box} {v : Vec} {k : Int} (h : sighted b v k) {i : Int} (i0 : 0 ≤ i) (i1 : i < 3) : coordB (at3 (b.X, b.Y, b.Z) i) := by
 rcases three i0 i1 with rfl | rfl | rfl
 ·exact h.cx
 ·exact h.cy
 ·exact h.cz
structure plainSeen (s : Seen) : Prop where
 cx : coordB s.Box.X
 cy : coordB s.Box.Y
 cz : coordB s.Box.Z
 a : s.At.ok
 au : s.At.Unknown = false
 al : -17592186044416 ≤ s.At.Lo
 ah : s.At.Hi ≤ 17592186044416
 f : inV s.From
 x : s.Flux.ok
theorem plainSeen.at {s : Seen} (h : plainSeen s) {i : Int} (i0 : 0 ≤ i) (i1 : i < 3) : coordB (at3 (s.Box.X, s.Box.Y, s.Box.Z) i) := by
 rcases three i0 i1 with rfl | rfl | rfl
 ·exact h.cx
 ·exact h.cy
 ·exact h.cz
theorem checkSeenP_ok {s : Seen} (h : plainSeen s) : tracklet_CheckSeen s = some 0 := by
 obtain ⟨⟨fx1, fx2⟩, ⟨fy1, fy2⟩, fz1, fz2⟩ := h.f
 have al := h.al; have ah := h.ah
 apply Has.val
 unfold tracklet_CheckSeen
 rw [check_ok h.a, h.au]
 simp only [Option.bind_some, bne_self_eq_false, Bool.false_eq_true, if_false]
 refine Has.bind (P := fun z => z = false) (Has.neg (fun q => by have := of_decide_eq_true q; omega) (Has.ret (decide_eq_false (by omega)))) fun z hz => Has.neg (by rw [hz]; decide) ?_
 rw [mx2_max, mx2_max, mn2_min, mn2_min]
 refine Has.bind (P := fun z => z = false) (Has.neg (fun q => by have := of_decide_eq_true q; omega) (Has.ret (decide_eq_false (by omega)))) fun z hz => Has.neg (by rw [hz]; decide) ?_
 refine Has.seq (P := fun t : Step Unit Int => t = .next ()) ?_ (fun _ _ => ?_) fun o ho => by cases ho
 ·refine Has.loop (fun i : Int => 0 ≤ i ∧ i ≤ 3) (fun i => (3 - i).toNat) _ ⟨Int.le_refl _, by decide⟩ (by decide) fun i ⟨i0, i1⟩ => ?_
  unfold tracklet_CheckSeen.l1
  refine Has.letF (Has.ite (fun hi => ?_) fun hi => Has.ret (.done rfl))
  have hi : i < 3 := of_decide_eq_true hi
  have c := h.at i0 hi
  refine Has.chk ⟨i0, hi⟩ ?_
  simp only [at3_mk]
  have cl := c.lo; have ch := c.hi
  rw [check_ok c.ok, w6_in (n := i + 1) (by omega)]
  simp only [Option.bind_some, bne_self_eq_false, Bool.false_eq_true, if_false]
  refine Has.bind (P := fun z => z = false) (Has.letF (Has.neg (fun q => by have := of_decide_eq_true q; omega) (Has.letF (Has.ret (decide_eq_false (by omega)))))) fun z hz => Has.neg (by rw [hz]; decide) (Has.ret (.next ⟨by omega, by omega⟩ (by omega)))
 ·rw [check_ok h.x]; exact Has.ret rfl
theorem checkSeen_ok {s : Seen} {v : Vec} {k : Int} (h : seenOK s v k) : tracklet_CheckSeen s = some 0 := checkSeenP_ok ⟨h.b.cx, h.b.cy, h.b.cz, h.a, h.au, h.al, h.ah, h.f, h.x⟩
theorem arcCheck_ok {s : Seen × Seen × Seen} {v0 v1 v2 : Vec} {k0 k1 k2 : Int} (h0 : seenOK s.1 v0 k0) (h1 : seenOK s.2.1 v1 k1) (h2 : seenOK s.2.2 v2 k2) (d1 : s.2.1.At.Lo - s.1.At.Lo = 86400000) (d2 : s.2.2.At.Lo - s.2.1.At.Lo = 86400000) : arc_Check s = some 0 := by
 have one : ∀ i : Int, 0 ≤ i → i < 3 → ∃ v k, seenOK (gt ([s.1, s.2.1, s.2.2] : List Seen) i) v k := fun i i0 i1 => by
  rcases three i0 i1 with rfl | rfl | rfl
  ·exact ⟨v0, k0, h0⟩
  ·exact ⟨v1, k1, h1⟩
  ·exact ⟨v2, k2, h2⟩
 apply Has.val
 unfold arc_Check
 refine Has.seq (P := fun t : Step Unit Int => t = .next ()) ?_ (fun _ _ => ?_) fun o ho => by cases ho
 ·refine Has.loop (fun i : Int => 0 ≤ i ∧ i ≤ 3) (fun i => (3 - i).toNat) _ ⟨Int.le_refl _, by decide⟩ (by decide) fun i ⟨i0, i1⟩ => ?_
  unfold arc_Check.l1
  refine Has.ite (fun hi => ?_) fun hi => Has.ret (.done rfl)
  have hi : i < 3 := of_decide_eq_true hi
  obtain ⟨v, k, h⟩ := one i i0 hi
  refine Has.chk ⟨i0, hi⟩ ?_
  rw [checkSeen_ok h, w6_in (n := i + 1) (by omega)]
  generalize gt ([s.1, s.2.1, s.2.2] : List Seen) i = q at h
  simp only [Option.bind_some, bne_self_eq_false, Bool.false_eq_true, if_false]
  refine Has.bind (P := fun z => z = false) (Has.letF (Has.neg (by rw [h.ae]; simp) (Has.letF (Has.ret (by rw [h.ad]; rfl))))) fun z hz => Has.neg (by rw [hz]; decide) ?_
  refine Has.bind (P := fun z => z = false) (Has.neg (by rw [h.b.cx.u]; decide) (Has.neg (by rw [h.b.cy.u]; decide) (Has.ret h.b.cz.u))) fun z hz => Has.neg (by rw [hz]; decide) ?_
  exact Has.ret (.next ⟨by omega, by omega⟩ (by omega))
 ·rw [d1, d2]
  refine Has.bind (P := fun z => z = false) (Has.neg (by decide) (Has.ret (by decide))) fun z hz => Has.neg (by rw [hz]; decide) ?_
  refine Has.seq (P := fun t : Step Unit Int => t = .next ()) ?_ (fun _ _ => Has.ret rfl) fun o ho => by cases ho
  refine Has.loop (fun i : Int => 0 ≤ i ∧ i ≤ 3) (fun i => (3 - i).toNat) _ ⟨Int.le_refl _, by decide⟩ (by decide) fun i ⟨i0, i1⟩ => ?_
  unfold arc_Check.l2
  refine Has.ite (fun hi => ?_) fun hi => Has.ret (.done rfl)
  have hi : i < 3 := of_decide_eq_true hi
  obtain ⟨v, k, h⟩ := one i i0 hi
  refine Has.chk ⟨i0, hi⟩ (h.b.ray.bind fun r ⟨r1, _, _⟩ => ?_)
  rw [w6_in (n := i + 1) (by omega)]
  exact Has.neg (by rw [r1]; decide) (Has.ret (.next ⟨by omega, by omega⟩ (by omega)))
end Lf
/- A bound that is drawn. -/
namespace Lf
open Go Go.Abs
set_option linter.unusedVariables false
set_option linter.unusedSimpArgs false
theorem bnd_ok (s : spymake_Stream) (most : Int) (hs : okS s) (ha : s.at_ ≤ 4611686018427380000) (hm : 0 ≤ most ∧ most ≤ 4294967296) :
  Has (spymake_Bound s most) fun r => r.1.ok ∧ after s r.2 3 := by
 unfold spymake_Bound
 refine (next_ok s 8 hs (by omega) (by omega)).bind fun r ⟨g1, g2, g3⟩ => ?_
 have ht := g3.ok hs (by omega)
 have hh := g3.hi
 rw [w6_in (by omega), Int.zero_sub]
 refine Has.ite (fun _ => Has.ret ⟨okNone, g3.more (by omega)⟩) fun _ => Has.ite (fun _ => ?_) fun _ => ?_
 ·exact (range_ok r.2 (-most) most ht (by omega) (by omega) (by omega) (by omega)).bind fun q ⟨k1, k2, k3⟩ => Has.ret ⟨okKnown (by omega) (Int.le_refl _) (by omega), (g3.trans k3).more (by omega)⟩
 ·refine (range_ok r.2 (-most) most ht (by omega) (by omega) (by omega) (by omega)).bind fun q ⟨k1, k2, k3⟩ => ?_
  have hr := k3.ok ht (by omega)
  have hh' := k3.hi
  refine (range_ok q.2 (-most) most hr (by omega) (by omega) (by omega) (by omega)).bind fun u ⟨q1, q2, q3⟩ => Has.ret ⟨okKnown ?_ ?_ ?_, (g3.trans k3).trans q3 |>.more (by omega)⟩
  ·unfold mn2; split <;> omega
  ·unfold mn2 mx2; split <;> split <;> omega
  ·unfold mx2; split <;> omega
end Lf
/- Places and bodies that are drawn. -/
namespace Lf
open Go Go.Abs
set_option linter.unusedVariables false
set_option linter.unusedSimpArgs false
theorem tdiv_bd {x k m : Int} (hk : 0 < k) (h1 : -m ≤ x) (h2 : x ≤ m) : -m ≤ Int.tdiv x k ∧ Int.tdiv x k ≤ m := by
 rcases Int.le_total 0 x with h | h
 ·rw [Int.tdiv_eq_ediv_of_nonneg h]
  have a := Int.ediv_nonneg h (Int.le_of_lt hk)
  have b := Int.ediv_le_self k h
  omega
 ·have e : Int.tdiv x k = -((-x) / k) := by rw [← Int.tdiv_eq_ediv_of_nonneg (a := -x) (by omega), Int.neg_tdiv, Int.neg_neg]
  have a := Int.ediv_nonneg (a := -x) (by omega) (Int.le_of_lt hk)
  have b := Int.ediv_le_self k (a := -x) (by omega)
  omega
theorem place_ok (s : spymake_Stream) (dist : Int) (hs : okS s) (ha : s.at_ ≤ 4611686018427000000) (d0 : 1 ≤ dist) (d1 : dist ≤ 4) :
  Has (Stream_Place s dist) fun r => inV r.1 ∧ (-(dist * 1048576) ≤ r.1.X ∧ r.1.X ≤ dist * 1048576) ∧ (-(dist * 1048576) ≤ r.1.Y ∧ r.1.Y ≤ dist * 1048576) ∧ (-(dist * 1048576) ≤ r.1.Z ∧ r.1.Z ≤ dist * 1048576) ∧ after s r.2 3 := by
 unfold Stream_Place
 rw [Int.zero_sub, w6_in (n := dist * 1048576) (by omega), w6_in (n := -(dist * 1048576)) (by omega)]
 refine (range_ok s _ _ hs (by omega) (by omega) (by omega) (by omega)).bind fun a ⟨a1, a2, a3⟩ => ?_
 have hA := a3.ok hs (by omega); have hhA := a3.hi
 refine (range_ok a.2 _ _ hA (by omega) (by omega) (by omega) (by omega)).bind fun b ⟨b1, b2, b3⟩ => ?_
 have hB := b3.ok hA (by omega); have hhB := b3.hi
 refine (range_ok b.2 _ _ hB (by omega) (by omega) (by omega) (by omega)).bind fun c ⟨c1, c2, c3⟩ => ?_
 have q1 := tdiv_bd (k := 4) (by decide) c1 c2
 rw [w6_in (by omega)]
 exact Has.ret ⟨⟨by simp only []; omega, by simp only []; omega, by simp only []; omega⟩, ⟨a1, a2⟩, ⟨b1, b2⟩, q1, ((a3.trans b3).trans c3).more (by omega)⟩
theorem rates_at (v : Int) (h : 0 ≤ v ∧ v < 6) : 50 ≤ gt ([50, 500, 5000, 5000, 40000, 1048577] : List Int) v ∧ gt ([50, 500, 5000, 5000, 40000, 1048577] : List Int) v ≤ 1048577 := by
 have : v = 0 ∨ v = 1 ∨ v = 2 ∨ v = 3 ∨ v = 4 ∨ v = 5 := by omega
 rcases this with rfl | rfl | rfl | rfl | rfl | rfl <;> decide
theorem rate_ok (s : spymake_Stream) (hs : okS s) (ha : s.at_ ≤ 4611686018427001000) : Has (Stream_rate s) fun r => 0 ≤ r.1 ∧ r.1 ≤ 1048576 ∧ after s r.2 2 := by
 unfold Stream_rate
 refine (next_ok s 6 hs (by omega) (by omega)).bind fun a ⟨a1, a2, a3⟩ => ?_
 have hA := a3.ok hs (by omega); have hhA := a3.hi
 have g := rates_at a.1 ⟨a1, a2⟩
 refine Has.chk ⟨a1, a2⟩ ((next_ok a.2 _ hA (by omega) (by omega)).bind fun b ⟨b1, b2, b3⟩ => Has.ret ⟨b1, by omega, (a3.trans b3).more (by omega)⟩)
theorem runs_at (v : Int) (h : 0 ≤ v ∧ v < 3) : 1000 ≤ gt ([1000, 90000, 150000] : List Int) v ∧ gt ([1000, 90000, 150000] : List Int) v ≤ 150000 := by
 have : v = 0 ∨ v = 1 ∨ v = 2 := by omega
 rcases this with rfl | rfl | rfl <;> decide
theorem clamp_ok (v : Vec) : Has (spymake_within v) fun r => inV r ∧ (inV v → r = v) := by
 have c : ∀ x : Int, -4194304 ≤ mx2 (-4194304) (mn2 4194304 x) ∧ mx2 (-4194304) (mn2 4194304 x) ≤ 4194304 ∧ (-4194304 ≤ x ∧ x ≤ 4194304 → mx2 (-4194304) (mn2 4194304 x) = x) := fun x => by
  rw [mx2_max, mn2_min]; omega
 unfold spymake_within spymake_within_1
 simp only [Option.bind_some]
 refine Has.ret ⟨⟨⟨(c v.X).1, (c v.X).2.1⟩, ⟨(c v.Y).1, (c v.Y).2.1⟩, ⟨(c v.Z).1, (c v.Z).2.1⟩⟩, fun h => ?_⟩
 rw [(c v.X).2.2 h.1, (c v.Y).2.2 h.2.1, (c v.Z).2.2 h.2.2]
theorem body_ok (s : spymake_Stream) (id : Int) (here : Vec) (hs : okS s) (ha : s.at_ ≤ 4611686018427000000) : Has (Stream_Body s id here) fun r => inV r.1.Was ∧ inV r.1.Here ∧ (inV here → r.1.Here = here) ∧ r.1.ID = id ∧ (0 ≤ r.1.Rate ∧ r.1.Rate ≤ 1048576) ∧ after s r.2 6 := by
 unfold Stream_Body
 refine (next_ok s 3 hs (by omega) (by omega)).bind fun a ⟨a1, a2, a3⟩ => Has.chk ⟨a1, a2⟩ ?_
 have hA := a3.ok hs (by omega); have hhA := a3.hi
 have g := runs_at a.1 ⟨a1, a2⟩
 rw [Int.zero_sub, w6_in (n := -(gt ([1000, 90000, 150000] : List Int) a.1)) (by omega)]
 refine (range_ok a.2 _ _ hA (by omega) (by omega) (by omega) (by omega)).bind fun b ⟨b1, b2, b3⟩ => ?_
 have hB := b3.ok hA (by omega); have hhB := b3.hi
 refine (range_ok b.2 _ _ hB (by omega) (by omega) (by omega) (by omega)).bind fun c ⟨c1, c2, c3⟩ => ?_
 have hC := c3.ok hB (by omega); have hhC := c3.hi
 refine (range_ok c.2 _ _ hC (by omega) (by omega) (by omega) (by omega)).bind fun d ⟨d1, d2, d3⟩ => ?_
 have hD := d3.ok hC (by omega); have hhD := d3.hi
 refine (clamp_ok _).bind fun e ⟨e1, e2⟩ => (clamp_ok here).bind fun f ⟨f1, f2⟩ => (rate_ok d.2 hD (by omega)).bind fun k ⟨k1, k2, k3⟩ => Has.ret ⟨e1, f1, f2, rfl, ⟨k1, k2⟩, ((((a3.trans b3).trans c3).trans d3).trans k3).more (by omega)⟩
end Lf
/- Boxes around multiples of a vector. -/
namespace Lf
open Go Go.Abs
set_option linter.unusedVariables false
set_option linter.unusedSimpArgs false
theorem held1_ok (c p1 p3 : Int) (s : spymake_Stream) (hs : okS s) (ha : s.at_ ≤ 4611686018427000000) (hc : -1152921504606846976 ≤ p1 * c ∧ p1 * c ≤ 1152921504606846976) (h3 : 0 ≤ p3 ∧ p3 ≤ 1000000000) :
  Has (Stream_Held_1 c p1 s p3) fun r => r.1.Unknown = false ∧ p1 * c - p3 ≤ r.1.Lo ∧ r.1.Lo ≤ p1 * c ∧ p1 * c ≤ r.1.Hi ∧ r.1.Hi ≤ p1 * c + p3 ∧ after s r.2 2 := by
 unfold Stream_Held_1
 rw [w6_in (n := p3 + 1) (by omega), w6_in (n := p1 * c) (by omega)]
 refine (next_ok s (p3 + 1) hs (by omega) (by omega)).bind fun a ⟨a1, a2, a3⟩ => ?_
 have hA := a3.ok hs (by omega); have hhA := a3.hi
 refine (next_ok a.2 (p3 + 1) hA (by omega) (by omega)).bind fun b ⟨b1, b2, b3⟩ => ?_
 rw [w6_in (by omega), w6_in (by omega)]
 exact Has.ret ⟨rfl, by simp only []; omega, by simp only []; omega, by simp only []; omega, by simp only []; omega, (a3.trans b3).more (by omega)⟩
structure heldB (b : Bound) (k c most : Int) : Prop where
 u : b.Unknown = false
 l0 : k * c - most ≤ b.Lo
 l1 : b.Lo ≤ k * c
 h0 : k * c ≤ b.Hi
 h1 : b.Hi ≤ k * c + most
def smallV (v : Vec) : Prop := (-1099511627776 ≤ v.X ∧ v.X ≤ 1099511627776) ∧ (-1099511627776 ≤ v.Y ∧ v.Y ≤ 1099511627776) ∧ (-1099511627776 ≤ v.Z ∧ v.Z ≤ 1099511627776)
theorem mul8 {k c : Int} (h1 : 1 ≤ k) (h8 : k ≤ 8) (hc : -1099511627776 ≤ c ∧ c ≤ 1099511627776) : -8796093022208 ≤ k * c ∧ k * c ≤ 8796093022208 := by
 have : k = 1 ∨ k = 2 ∨ k = 3 ∨ k = 4 ∨ k = 5 ∨ k = 6 ∨ k = 7 ∨ k = 8 := by omega
 rcases this with rfl | rfl | rfl | rfl | rfl | rfl | rfl | rfl <;> omega
theorem held_ok (s : spymake_Stream) (v : Vec) (most : Int) (hs : okS s) (ha : s.at_ ≤ 4611686018426000000) (hv : smallV v) (hm : 0 ≤ most ∧ most ≤ 1000000000) :
  Has (Stream_Held s v most) fun r => (∃ k : Int, 1 ≤ k ∧ k ≤ 8 ∧ heldB r.1.X k v.X most ∧ heldB r.1.Y k v.Y most ∧ heldB r.1.Z k v.Z most) ∧ after s r.2 7 := by
 unfold Stream_Held
 refine (range_ok s 1 8 hs (by omega) (by omega) (by omega) (by omega)).bind fun a ⟨a1, a2, a3⟩ => ?_
 have hA := a3.ok hs (by omega); have hhA := a3.hi
 have mx := mul8 a1 a2 hv.1; have my := mul8 a1 a2 hv.2.1; have mz := mul8 a1 a2 hv.2.2
 refine (held1_ok v.X a.1 most a.2 hA (by omega) (by omega) hm).bind fun b ⟨b0, b1, b2, b3, b4, b5⟩ => ?_
 have hB := b5.ok hA (by omega); have hhB := b5.hi
 refine (held1_ok v.Y a.1 most b.2 hB (by omega) (by omega) hm).bind fun c ⟨c0, c1, c2, c3, c4, c5⟩ => ?_
 have hC := c5.ok hB (by omega); have hhC := c5.hi
 refine (held1_ok v.Z a.1 most c.2 hC (by omega) (by omega) hm).bind fun d ⟨d0, d1, d2, d3, d4, d5⟩ => ?_
 exact Has.ret ⟨⟨a.1, a1, a2, ⟨b0, b1, b2, b3, b4⟩, ⟨c0, c1, c2, c3, c4⟩, ⟨d0, d1, d2, d3, d4⟩⟩, (((a3.trans b5).trans c5).trans d5).more (by omega)⟩
end Lf
/- Three sightings of a body that moves by sky.Step, as they are drawn. -/
namespace Lf
open Go Go.Abs
set_option linter.unusedVariables false
set_option linter.unusedSimpArgs false
def at3S (p : Seen × Seen × Seen) (i : Int) : Seen := gt ([p.1, p.2.1, p.2.2] : List Seen) i
def at3V (p : Vec × Vec × Vec) (i : Int) : Vec := gt ([p.1, p.2.1, p.2.2] : List Vec) i
theorem at3V_def (p : Vec × Vec × Vec) (i : Int) : gt ([p.1, p.2.1, p.2.2] : List Vec) i = at3V p i := rfl
def set3S (p : Seen × Seen × Seen) (i : Int) (x : Seen) : Seen × Seen × Seen := (gt (List.set ([p.1, p.2.1, p.2.2] : List Seen) i.toNat x) 0, gt (List.set ([p.1, p.2.1, p.2.2] : List Seen) i.toNat x) 1, gt (List.set ([p.1, p.2.1, p.2.2] : List Seen) i.toNat x) 2)
theorem at3S_same (p : Seen × Seen × Seen) {i : Int} (i0 : 0 ≤ i) (i1 : i < 3) (x : Seen) : at3S (set3S p i x) i = x := by
 rcases three i0 i1 with rfl | rfl | rfl <;> rfl
theorem at3S_other (p : Seen × Seen × Seen) {i j : Int} (i0 : 0 ≤ i) (i1 : i < 3) (j0 : 0 ≤ j) (j1 : j < 3) (h : j ≠ i) (x : Seen) : at3S (set3S p i x) j = at3S p j := by
 rcases three i0 i1 with rfl | rfl | rfl <;> rcases three j0 j1 with rfl | rfl | rfl <;> first | rfl | exact absurd rfl h
theorem at3V_in {p : Vec × Vec × Vec} (h0 : inV p.1) (h1 : inV p.2.1) (h2 : inV p.2.2) {i : Int} (i0 : 0 ≤ i) (i1 : i < 3) : inV (at3V p i) := by
 rcases three i0 i1 with rfl | rfl | rfl
 ·exact h0
 ·exact h1
 ·exact h2
structure night (x : Seen) (f a : Vec) (d most : Int) : Prop where
 t : x.At = ⟨d * 86400000, d * 86400000, false⟩
 place : x.From = f
 held : ∃ k : Int, 1 ≤ k ∧ k ≤ 8 ∧ heldB x.Box.X k (subV a f).X most ∧ heldB x.Box.Y k (subV a f).Y most ∧ heldB x.Box.Z k (subV a f).Z most
 flux : x.Flux.ok
theorem nights_ok (s : spymake_Stream) (day most : Int) (F A : Vec × Vec × Vec) (hs : okS s) (ha : s.at_ ≤ 4611686018425000000) (d0 : -1000 ≤ day) (d1 : day ≤ 1000) (f0 : inV F.1) (f1 : inV F.2.1) (f2 : inV F.2.2) (a0 : inV A.1) (a1 : inV A.2.1) (a2 : inV A.2.2) (m0 : 0 ≤ most) (m1 : most ≤ 1000) :
  Has (Stream_Nights s day F A most) fun r => after s r.2 30 ∧ ∀ i : Int, 0 ≤ i → i < 3 → night (at3S r.1 i) (at3V F i) (at3V A i) (day + i) most := by
 unfold Stream_Nights
 refine Has.bind (P := fun z : spymake_Stream × (Seen × Seen × Seen) => after s z.1 30 ∧ ∀ i : Int, 0 ≤ i → i < 3 → night (at3S z.2 i) (at3V F i) (at3V A i) (day + i) most) ?_ fun z hz => Has.ret hz
 refine Has.loop (fun q : spymake_Stream × (Seen × Seen × Seen) × Int => 0 ≤ q.2.2 ∧ q.2.2 ≤ 3 ∧ after s q.1 (10 * q.2.2) ∧ ∀ i : Int, 0 ≤ i → i < q.2.2 → night (at3S q.2.1 i) (at3V F i) (at3V A i) (day + i) most) (fun q => (3 - q.2.2).toNat) _ ⟨by simp only []; omega, by simp only []; omega, after.refl s, fun i i0 i1 => absurd i1 (by simp only []; omega)⟩ (by simp only []; decide) fun q ⟨q0, q1, q2, q3⟩ => ?_
 obtain ⟨t, p, i⟩ := q
 simp only [] at q0 q1 q2 q3
 unfold Stream_Nights.l1
 simp only []
 rw [at3V_def A, at3V_def F]
 refine Has.ite (fun hi => ?_) fun hi => Has.ret (.done ?_)
 ·have hi : i < 3 := of_decide_eq_true hi
  have fi := at3V_in f0 f1 f2 q0 hi
  have ai := at3V_in a0 a1 a2 q0 hi
  generalize ef : at3V F i = f at fi
  generalize ea : at3V A i = a at ai
  obtain ⟨⟨fx1, fx2⟩, ⟨fy1, fy2⟩, fz1, fz2⟩ := fi
  obtain ⟨⟨ax1, ax2⟩, ⟨ay1, ay2⟩, az1, az2⟩ := ai
  refine Has.chk ⟨q0, hi⟩ (Has.chk ⟨q0, hi⟩ (Has.letF (Has.letF (Has.letF ?_))))
  rw [w6_in (n := a.X - f.X) (by omega), w6_in (n := a.Y - f.Y) (by omega), w6_in (n := a.Z - f.Z) (by omega)]
  have hh := q2.hi
  have ht := q2.ok hs (by omega)
  refine (held_ok t (subV a f) most ht (by omega) ⟨by simp only [subV]; omega, by simp only [subV]; omega, by simp only [subV]; omega⟩ ⟨m0, by omega⟩).bind fun b ⟨hk, hb⟩ => ?_
  have hu := hb.ok ht (by omega)
  have hh2 := hb.hi
  refine (bnd_ok b.2 1000 hu (by omega) ⟨by decide, by decide⟩).bind fun c ⟨hc, hd⟩ => Has.chk ⟨q0, hi⟩ (Has.letF ?_)
  rw [w6_in (n := day + i) (by omega), w6_in (n := (day + i) * 86400000) (by omega), w6_in (n := i + 1) (by omega)]
  refine Has.ret (.next ⟨by simp only []; omega, by simp only []; omega, ((q2.trans hb).trans hd).more (by simp only []; omega), fun j j0 j1 => ?_⟩ (by simp only []; omega))
  show night (at3S (set3S p i _) j) (at3V F j) (at3V A j) (day + j) most
  by_cases e : j = i
  ·subst e
   rw [at3S_same p q0 hi, ef, ea]
   exact ⟨rfl, rfl, hk, hc⟩
  ·have j1 : j < i + 1 := j1
   rw [at3S_other p q0 hi j0 (by omega) e]
   exact q3 j j0 (by omega)
 ·have hi : ¬ i < 3 := fun g => hi (decide_eq_true g)
  have e : i = 3 := by omega
  subst e
  exact ⟨q2, q3⟩
def farB (x : Vec) : Bool := decide (mx2 (mx2 (mx2 (mx2 (mx2 x.X (-x.X)) x.Y) (-x.Y)) x.Z) (-x.Z) > 40000)
theorem farB_some {x : Vec} (h : farB x = true) : 40000 < x.X ∨ x.X < -40000 ∨ 40000 < x.Y ∨ x.Y < -40000 ∨ 40000 < x.Z ∨ x.Z < -40000 := by
 unfold farB at h
 rw [mx2_max, mx2_max, mx2_max, mx2_max, mx2_max] at h
 have := of_decide_eq_true h
 omega
theorem apart_loop {body : Bool × Int → Option (Step (Bool × Int) Bool)} {F A : Vec × Vec × Vec} (c : Bool) (round : ∀ b i, 0 ≤ i → i < 3 → body (b, i) = some (.next (b && farB (subV (at3V A i) (at3V F i)), i + 1))) (fin : ∀ b, body (b, 3) = some (.done b)) :
  Has (loopF body (c, 0)) fun z => z = true → c = true ∧ ∀ i : Int, 0 ≤ i → i < 3 → farB (subV (at3V A i) (at3V F i)) = true := by
 have r := (Run.next (round c 0 (by decide) (by decide)) (Run.next (round _ 1 (by decide) (by decide)) (Run.next (round _ 2 (by decide) (by decide)) (Run.done (fin _))))).ok (by decide)
 refine Has.eq r fun h => ?_
 simp only [Bool.and_eq_true] at h
 obtain ⟨⟨⟨h0, h1⟩, h2⟩, h3⟩ := h
 refine ⟨h0, fun i i0 i1 => ?_⟩
 rcases three i0 i1 with rfl | rfl | rfl
 ·exact h1
 ·exact h2
 ·exact h3
theorem apart_round {f a : Vec} (hf : inV f) (ha : inV a) (b : Bool) (i : Int) (i0 : 0 ≤ i) (i1 : i < 3) :
  (Option.bind (spykeep4_from f a) fun r18 => if b = true then letF (mx2 (mx2 (mx2 (mx2 (mx2 r18.X (w6 (0 - r18.X))) r18.Y) (w6 (0 - r18.Y))) r18.Z) (w6 (0 - r18.Z))) fun v20 => some (Step.next (O := Bool) (decide (v20 > 40000), w6 (i + 1))) else some (.next (false, w6 (i + 1)))) = some (.next (b && farB (subV a f), i + 1)) := by
 obtain ⟨⟨fx1, fx2⟩, ⟨fy1, fy2⟩, fz1, fz2⟩ := hf
 obtain ⟨⟨ax1, ax2⟩, ⟨ay1, ay2⟩, az1, az2⟩ := ha
 unfold spykeep4_from
 rw [w6_in (n := a.X - f.X) (by omega), w6_in (n := a.Y - f.Y) (by omega), w6_in (n := a.Z - f.Z) (by omega), w6_in (n := i + 1) (by omega)]
 simp only [Option.bind_some, Int.zero_sub]
 rw [w6_in (n := -(a.X - f.X)) (by omega), w6_in (n := -(a.Y - f.Y)) (by omega), w6_in (n := -(a.Z - f.Z)) (by omega)]
 cases b <;> rfl
theorem skyStep_in {was here : Vec} (hw : inV was) (hh : inV here) : Has (sky_Step was here) fun r => inV r.1 ∧ (r.2 = 0 → ∃ g, isG here g ∧ r.1 = nextV was here g) := by
 obtain ⟨r, e, g, hg, hr⟩ := skyStep_ok hw hh
 refine Has.eq e ?_
 rcases hr with ⟨r1, r2, r3⟩ | ⟨r1, r2⟩
 ·exact ⟨by rw [r3]; exact r2, fun _ => ⟨g, hg, r3⟩⟩
 ·refine ⟨?_, fun q => by rw [r1] at q; cases q⟩
  have e2 : sky_Step was here = some (⟨0, 0, 0⟩, 18) := by
   obtain ⟨q, eq, hq⟩ := skyPull_ok hh
   have bq := hq.bd hh
   have same : isG here q → isG here g → q = g := fun x y => by
    obtain ⟨a, ha, ka⟩ := x
    obtain ⟨b, hb, kb⟩ := y
    have := ha.uniq hb
    subst this
    rcases ka with ⟨k1, rfl⟩ | ⟨k1, rfl⟩ <;> rcases kb with ⟨k2, rfl⟩ | ⟨k2, rfl⟩ <;> first | rfl | omega
   have eqg := same hq hg
   subst eqg
   obtain ⟨⟨a1, a2⟩, ⟨b1, b2⟩, ⟨c1, c2⟩⟩ := hh
   obtain ⟨⟨d1, d2⟩, ⟨e1, e2⟩, ⟨f1, f2⟩⟩ := hw
   unfold sky_Step
   rw [within_ok, within_ok, decide_eq_true (p := inV was) ⟨⟨d1, d2⟩, ⟨e1, e2⟩, ⟨f1, f2⟩⟩, decide_eq_true (p := inV here) ⟨⟨a1, a2⟩, ⟨b1, b2⟩, ⟨c1, c2⟩⟩]
   simp only [Option.bind_some, Bool.not_true, Bool.false_eq_true, if_false]
   rw [eq]
   simp only [Option.bind_some]
   rw [w6_in (n := 2 * here.X) (by omega), w6_in (n := 2 * here.X - was.X) (by omega), w6_in (n := 2 * here.X - was.X + q.X) (by omega), w6_in (n := 2 * here.Y) (by omega), w6_in (n := 2 * here.Y - was.Y) (by omega), w6_in (n := 2 * here.Y - was.Y + q.Y) (by omega), w6_in (n := 2 * here.Z) (by omega), w6_in (n := 2 * here.Z - was.Z) (by omega), w6_in (n := 2 * here.Z - was.Z + q.Z) (by omega)]
   have en : Vec.mk (2 * here.X - was.X + q.X) (2 * here.Y - was.Y + q.Y) (2 * here.Z - was.Z + q.Z) = nextV was here q := rfl
   rw [en, within_ok, decide_eq_false r2]
   rfl
  rw [e] at e2
  rw [Option.some.inj e2]
  exact ⟨⟨by decide, by decide⟩, ⟨by decide, by decide⟩, by decide, by decide⟩
structure orbitOK (r : (Seen × Seen × Seen) × (Vec × Vec × Vec) × Bool × spymake_Stream) (F : Vec × Vec × Vec) (day most : Int) : Prop where
 f0 : inV F.1
 f1 : inV F.2.1
 f2 : inV F.2.2
 a0 : inV r.2.1.1
 a1 : inV r.2.1.2.1
 a2 : inV r.2.1.2.2
 d0 : -300 ≤ day
 d1 : day ≤ 300
 seen : ∀ i : Int, 0 ≤ i → i < 3 → night (at3S r.1 i) (at3V F i) (at3V r.2.1 i) (day + i) most
 next : r.2.2.1 = true → ∃ g, isG r.2.1.2.1 g ∧ r.2.1.2.2 = nextV r.2.1.1 r.2.1.2.1 g
 far : r.2.2.1 = true → ∀ i : Int, 0 ≤ i → i < 3 → farB (subV (at3V r.2.1 i) (at3V F i)) = true
theorem orbit_end {s t : spymake_Stream} {F : Vec × Vec × Vec} {w h n : Vec} {e most : Int} {ok : Option Bool} (hs : okS s) (ha : s.at_ ≤ 4611686018424000000) (ht : after s t 30) (f0 : inV F.1) (f1 : inV F.2.1) (f2 : inV F.2.2) (a0 : inV w) (a1 : inV h) (a2 : inV n) (m0 : 0 ≤ most) (m1 : most ≤ 1000)
  (hn : e = 0 → ∃ g, isG h g ∧ n = nextV w h g) (hz : Has ok fun z => z = true → (e == 0) = true ∧ ∀ i : Int, 0 ≤ i → i < 3 → farB (subV (at3V (w, h, n) i) (at3V F i)) = true) :
  Has (Option.bind ok fun z14 : Bool => Option.bind (Stream_Range t (-300) 300) fun r21 => Option.bind (Stream_Nights r21.2 r21.1 F (w, h, n) most) fun r22 => some (r22.1, (w, h, n), z14, r22.2)) fun r => after s r.2.2.2 70 ∧ ∃ F day, orbitOK r F day most := by
 refine hz.bind fun z hz => ?_
 have h1 := ht.ok hs (by omega)
 have hh := ht.hi
 refine (range_ok t (-300) 300 h1 (by omega) (by omega) (by omega) (by omega)).bind fun d ⟨d0, d1, d2⟩ => ?_
 have h2 := d2.ok h1 (by omega)
 have hh2 := d2.hi
 refine (nights_ok d.2 d.1 most F (w, h, n) h2 (by omega) (by omega) (by omega) f0 f1 f2 a0 a1 a2 m0 m1).bind fun q ⟨q1, q2⟩ => Has.ret ⟨((ht.trans d2).trans q1).more (by omega), F, d.1, ?_⟩
 exact ⟨f0, f1, f2, a0, a1, a2, d0, d1, q2, fun hy => hn (by simpa using (hz hy).1), fun hy => (hz hy).2⟩
theorem orbit_ok (s : spymake_Stream) (most : Int) (hs : okS s) (ha : s.at_ ≤ 4611686018424000000) (m0 : 0 ≤ most) (m1 : most ≤ 1000) : Has (spykeep4_orbit s most) fun r => after s r.2.2.2 70 ∧ ∃ F day, orbitOK r F day most := by
 unfold spykeep4_orbit
 refine (place_ok s 2 hs (by omega) (by omega) (by omega)).bind fun r1 ⟨_, _, _, _, s1⟩ => ?_
 have o1 := s1.ok hs (by omega); have b1 := s1.hi
 refine (body_ok _ 1 r1.1 o1 (by omega)).bind fun r2 ⟨w1, w2, _, _, _, s2⟩ => ?_
 have o2 := s2.ok o1 (by omega); have b2 := s2.hi
 refine (skyStep_in w1 w2).bind fun r3 ⟨n1, n2⟩ => ?_
 refine (place_ok _ 1 o2 (by omega) (by omega) (by omega)).bind fun r4 ⟨p4, _, _, _, s4⟩ => ?_
 have o4 := s4.ok o2 (by omega); have b4 := s4.hi
 refine (place_ok _ 1 o4 (by omega) (by omega) (by omega)).bind fun r5 ⟨p5, _, _, _, s5⟩ => ?_
 have o5 := s5.ok o4 (by omega); have b5 := s5.hi
 refine (place_ok _ 1 o5 (by omega) (by omega) (by omega)).bind fun r6 ⟨p6, _, _, _, s6⟩ => ?_
 have o6 := s6.ok o5 (by omega); have b6 := s6.hi
 refine (next_ok _ 2 o6 (by omega) (by omega)).bind fun r7 ⟨_, _, s7⟩ => ?_
 have o7 := s7.ok o6 (by omega); have b7 := s7.hi
 have t7 := ((((s1.trans s2).trans s4).trans s5).trans s6).trans s7
 have fin : ∀ A : Vec × Vec × Vec, inV A.1 → inV A.2.1 → inV A.2.2 → ∀ F : Vec × Vec × Vec, inV F.1 → inV F.2.1 → inV F.2.2 → ∀ (b : Bool) (i : Int) (i0 : 0 ≤ i) (i1 : i < 3), _ := fun A a0 a1 a2 F f0 f1 f2 b i i0 i1 => apart_round (at3V_in f0 f1 f2 i0 i1) (at3V_in a0 a1 a2 i0 i1) b i i0 i1
 refine Has.ite (fun _ => ?_) fun _ => ?_
 ·refine (place_ok _ 1 o7 (by omega) (by omega) (by omega)).bind fun r9 ⟨p9, _, _, _, s9⟩ => ?_
  have o9 := s9.ok o7 (by omega); have b9 := s9.hi
  refine (body_ok _ 0 r9.1 o9 (by omega)).bind fun r10 ⟨w3, w4, _, _, _, s10⟩ => ?_
  have o10 := s10.ok o9 (by omega); have b10 := s10.hi
  refine (skyStep_in w3 w4).bind fun r11 ⟨n3, n4⟩ => Has.ite (fun _ => ?_) fun _ => ?_
  ·refine orbit_end hs ha (((t7.trans s9).trans s10).more (by omega)) (F := (r10.1.Was, r10.1.Here, r11.1)) w3 w4 n3 w1 w2 n1 m0 m1 n2 (apart_loop (r3.2 == 0) (fun b i i0 i1 => ?_) fun b => rfl)
   have := fin (r2.1.Was, r2.1.Here, r3.1) w1 w2 n1 (r10.1.Was, r10.1.Here, r11.1) w3 w4 n3 b i i0 i1
   unfold spykeep4_orbit.l1
   rw [if_pos (decide_eq_true i1), if_pos ⟨i0, i1⟩, if_pos ⟨i0, i1⟩]
   exact this
  ·refine orbit_end hs ha (((t7.trans s9).trans s10).more (by omega)) (F := (r4.1, r5.1, r6.1)) p4 p5 p6 w1 w2 n1 m0 m1 n2 (apart_loop (r3.2 == 0) (fun b i i0 i1 => ?_) fun b => rfl)
   have := fin (r2.1.Was, r2.1.Here, r3.1) w1 w2 n1 (r4.1, r5.1, r6.1) p4 p5 p6 b i i0 i1
   unfold spykeep4_orbit.l2
   rw [if_pos (decide_eq_true i1), if_pos ⟨i0, i1⟩, if_pos ⟨i0, i1⟩]
   exact this
 ·refine orbit_end hs ha (t7.more (by omega)) (F := (r4.1, r5.1, r6.1)) p4 p5 p6 w1 w2 n1 m0 m1 n2 (apart_loop (r3.2 == 0) (fun b i i0 i1 => ?_) fun b => rfl)
  have := fin (r2.1.Was, r2.1.Here, r3.1) w1 w2 n1 (r4.1, r5.1, r6.1) p4 p5 p6 b i i0 i1
  unfold spykeep4_orbit.l3
  rw [if_pos (decide_eq_true i1), if_pos ⟨i0, i1⟩, if_pos ⟨i0, i1⟩]
  exact this
end Lf
