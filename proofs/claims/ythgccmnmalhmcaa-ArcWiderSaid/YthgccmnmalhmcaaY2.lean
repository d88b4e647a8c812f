/- Laws of the plain functions. Conditions: as each theorem states them. -/
import Derived.Test.YthgccmnmalhmcaaY1
/- arc.plane.search, arc.Solve: the intervals, and that the distance is in one. -/
namespace Lf
open Go Go.Abs
set_option linter.unusedVariables false
set_option linter.unusedSimpArgs false
structure okOut (l : List arc_Orbit) (m : Int) : Prop where
 len : (l.length : Int) ≤ m
 n0 : ∀ i : Int, 0 ≤ i → i < (l.length : Int) → 0 ≤ (gt l i).Near
 nf : ∀ i : Int, 0 ≤ i → i < (l.length : Int) → (gt l i).Near < (gt l i).Far
 fm : ∀ i : Int, 0 ≤ i → i < (l.length : Int) → (gt l i).Far ≤ m * 4096
 ap : ∀ i : Int, 1 ≤ i → i < (l.length : Int) → (gt l (i - 1)).Far < (gt l i).Near
def cov (l : List arc_Orbit) (a b : Int) : Prop := ∃ i : Int, 0 ≤ i ∧ i < (l.length : Int) ∧ (gt l i).Near ≤ a ∧ b ≤ (gt l i).Far
theorem okOut.more {l : List arc_Orbit} {m n : Int} (h : okOut l m) (g : m ≤ n) : okOut l n := ⟨by have := h.len; omega, h.n0, h.nf, fun i i0 i1 => by have := h.fm i i0 i1; omega, h.ap⟩
theorem leaf_ok {l : List arc_Orbit} {m : Int} {ver : Nat} {s : Seen × Seen × Seen} (h : okOut l m) (m0 : 0 ≤ m) (m1 : m < 4096) : Has (arc_Solve_1 m l ver s) fun r => okOut r.2 (m + 1) ∧ cov r.2 (m * 4096) ((m + 1) * 4096) ∧ ∀ a b, cov l a b → cov r.2 a b := by
 have hl := h.len
 unfold arc_Solve_1
 rw [w6_in (n := (l.length : Int) - 1) (by omega), w6_in (n := m * 4096) (by omega)]
 refine Has.bind (P := fun z => z = true ↔ (1 ≤ (l.length : Int) ∧ (gt l ((l.length : Int) - 1)).Far = m * 4096)) (Has.ite (fun g => ?_) fun g => Has.ret ?_) fun z hz => Has.ite (fun g => ?_) fun g => ?_
 ·have g : (l.length : Int) - 1 ≥ 0 := of_decide_eq_true g
  refine Has.chk ⟨by omega, by omega⟩ (Has.ret ⟨fun q => ⟨by omega, by simpa using q⟩, fun q => by simpa using q.2⟩)
 ·have g : ¬ (l.length : Int) - 1 ≥ 0 := fun q => g (decide_eq_true q)
  exact ⟨(fun q => nomatch q), fun q => absurd q.1 (by omega)⟩
 ·obtain ⟨g1, g2⟩ := hz.1 g
  refine Has.chk ⟨by omega, by omega⟩ (Has.letF (Has.ret ?_))
  rw [g2, w6_in (n := m * 4096 + 4096) (by omega)]
  obtain ⟨k, hk⟩ : ∃ k, k = (l.length : Int) - 1 := ⟨_, rfl⟩
  rw [← hk]
  rw [← hk] at g2
  have k0 : 0 ≤ k := by omega
  have k1 : k < (l.length : Int) := by omega
  have at_ : ∀ i : Int, 0 ≤ i → i < (l.length : Int) → gt (l.set k.toNat (arc_Orbit.mk (gt l k).Seen (gt l k).Near (m * 4096 + 4096))) i = if i = k then arc_Orbit.mk (gt l k).Seen (gt l k).Near (m * 4096 + 4096) else gt l i := fun i i0 i1 => by
   by_cases e : i = k
   ·subst e; rw [if_pos rfl]; exact gt_set_eq i0 i1
   ·rw [if_neg e]; exact gt_set_ne k0 i0 (fun q => e q.symm)
  have len : ((l.set k.toNat (arc_Orbit.mk (gt l k).Seen (gt l k).Near (m * 4096 + 4096))).length : Int) = (l.length : Int) := by rw [List.length_set]
  refine ⟨⟨by rw [len]; omega, fun i i0 i1 => ?_, fun i i0 i1 => ?_, fun i i0 i1 => ?_, fun i i0 i1 => ?_⟩, ⟨k, k0, by rw [len]; exact k1, ?_, ?_⟩, fun a b ⟨i, i0, i1, ha, hb⟩ => ⟨i, i0, by rw [len]; exact i1, ?_, ?_⟩⟩
  ·rw [len] at i1; rw [at_ i i0 i1]
   split
   ·exact h.n0 k k0 k1
   ·exact h.n0 i i0 i1
  ·rw [len] at i1; rw [at_ i i0 i1]
   split
   ·have := h.nf k k0 k1; simp only []; omega
   ·exact h.nf i i0 i1
  ·rw [len] at i1; rw [at_ i i0 i1]
   split
   ·simp only []; omega
   ·have := h.fm i i0 i1; omega
  ·rw [len] at i1; rw [at_ i (by omega) i1, at_ (i - 1) (by omega) (by omega), if_neg (show ¬ i - 1 = k by omega)]
   have := h.ap i i0 i1
   split
   ·rename_i e; rw [← e]; exact this
   ·exact this
  ·rw [at_ k k0 k1, if_pos rfl]; have := h.nf k k0 k1; simp only []; omega
  ·rw [at_ k k0 k1, if_pos rfl]; simp only []; omega
  ·rw [at_ i i0 i1]
   split
   ·rename_i e; rw [← e]; exact ha
   ·exact ha
  ·rw [at_ i i0 i1]
   split
   ·rename_i e; rw [e, g2] at hb; simp only []; omega
   ·exact hb
 ·refine Has.chk (roomyI (by simp; omega) (by simp; omega)) (Has.ret ?_)
  rw [w6_in (n := m + 1) (by omega), w6_in (n := (m + 1) * 4096) (by omega)]
  have far : ∀ i : Int, 0 ≤ i → i < (l.length : Int) → i = (l.length : Int) - 1 → (gt l i).Far < m * 4096 := fun i i0 i1 e => by
   have := h.fm i i0 i1
   rcases Int.lt_or_le (gt l i).Far (m * 4096) with q | q
   ·exact q
   ·exact absurd (hz.2 ⟨by omega, by rw [← e]; omega⟩) g
  have len : ((l ++ [arc_Orbit.mk s (m * 4096) ((m + 1) * 4096)]).length : Int) = (l.length : Int) + 1 := by simp
  have at_ : ∀ i : Int, 0 ≤ i → i < (l.length : Int) + 1 → gt (l ++ [arc_Orbit.mk s (m * 4096) ((m + 1) * 4096)]) i = if i = (l.length : Int) then arc_Orbit.mk s (m * 4096) ((m + 1) * 4096) else gt l i := fun i i0 i1 => by
   by_cases e : i = (l.length : Int)
   ·rw [if_pos e]; exact gt_snoc_eq e
   ·rw [if_neg e]; exact gt_snoc_lt i0 (by omega)
  refine ⟨⟨by simp only []; rw [len]; omega, fun i i0 i1 => ?_, fun i i0 i1 => ?_, fun i i0 i1 => ?_, fun i i0 i1 => ?_⟩, ⟨(l.length : Int), by omega, by simp only []; rw [len]; omega, ?_, ?_⟩, fun a b ⟨i, i0, i1, ha, hb⟩ => ⟨i, i0, by simp only []; rw [len]; omega, ?_, ?_⟩⟩
  ·simp only [] at i1 ⊢; rw [len] at i1; rw [at_ i i0 i1]
   split
   ·simp only []; omega
   ·exact h.n0 i i0 (by omega)
  ·simp only [] at i1 ⊢; rw [len] at i1; rw [at_ i i0 i1]
   split
   ·simp only []; omega
   ·exact h.nf i i0 (by omega)
  ·simp only [] at i1 ⊢; rw [len] at i1; rw [at_ i i0 i1]
   split
   ·simp only []; omega
   ·have := h.fm i i0 (by omega); omega
  ·simp only [] at i1 ⊢; rw [len] at i1; rw [at_ i (by omega) i1, at_ (i - 1) (by omega) (by omega), if_neg (show ¬ i - 1 = (l.length : Int) by omega)]
   split
   ·have := far (i - 1) (by omega) (by omega) (by omega); simp only []; omega
   ·exact h.ap i i0 (by omega)
  ·simp only []; rw [at_ _ (by omega) (by omega), if_pos rfl]; simp only []; omega
  ·simp only []; rw [at_ _ (by omega) (by omega), if_pos rfl]; simp only []; omega
  ·simp only []; rw [at_ i i0 (by omega), if_neg (by omega)]; exact ha
  ·simp only []; rw [at_ i i0 (by omega), if_neg (by omega)]; exact hb
theorem search_ok {p : arc_plane} {s : Seen × Seen × Seen} {M : Int} (hcan : ∀ m n : Int, 0 ≤ m → m < n → n ≤ 4096 → Has (plane_can p ⟨m * 4096, n * 4096, false⟩) fun b => m ≤ M → M < n → b = true) :
  ∀ (fuel : Nat) (m n : Int) (l : List arc_Orbit) (ver : Nat), 0 ≤ m → m < n → n ≤ 4096 → n - m ≤ 2 ^ fuel → okOut l m → Has (plane_search_arc_Solve_1_2 (fuel + 1) p m n l ver s) fun r => okOut r.2.1 n ∧ r.2.2 = s ∧ (m ≤ M → M < n → cov r.2.1 (M * 4096) ((M + 1) * 4096)) ∧ ∀ a b, cov l a b → cov r.2.1 a b := by
 intro fuel
 induction fuel with
 | zero =>
  intro m n l ver m0 mn n1 hp hl
  have e : n = m + 1 := by simp at hp; omega
  subst e
  unfold plane_search_arc_Solve_1_2 arc_steps
  rw [w6_in (n := m * 4096) (by omega), w6_in (n := (m + 1) * 4096) (by omega), w6_in (n := m + 1) (by omega)]
  simp only [Option.bind_some]
  refine (hcan m (m + 1) m0 mn n1).bind fun b hb => Has.ite (fun g => Has.ret ⟨hl.more (by omega), rfl, fun x y => ?_, fun _ _ q => q⟩) fun g => Has.pos (by simp) ?_
  ·rw [hb x y] at g; cases g
  ·exact (leaf_ok hl m0 (by omega)).bind fun r ⟨r1, r2, r3⟩ => Has.ret ⟨r1, rfl, fun x y => by rw [show M = m from by omega]; exact r2, r3⟩
 | succ fuel ih =>
  intro m n l ver m0 mn n1 hp hl
  unfold plane_search_arc_Solve_1_2 arc_steps
  rw [w6_in (n := m * 4096) (by omega), w6_in (n := n * 4096) (by omega), w6_in (n := m + 1) (by omega)]
  simp only [Option.bind_some]
  refine (hcan m n m0 mn n1).bind fun b hb => Has.ite (fun g => Has.ret ⟨hl.more (by omega), rfl, fun x y => ?_, fun _ _ q => q⟩) fun g => Has.ite (fun e => ?_) fun e => ?_
  ·rw [hb x y] at g; cases g
  ·have e : n = m + 1 := by simpa using e
   subst e
   exact (leaf_ok hl m0 (by omega)).bind fun r ⟨r1, r2, r3⟩ => Has.ret ⟨r1, rfl, fun x y => by rw [show M = m from by omega]; exact r2, r3⟩
  ·have e : ¬ n = m + 1 := by simpa using e
   have hp2 : n - m ≤ 2 * 2 ^ fuel := by rw [Int.pow_succ] at hp; omega
   rw [w6_in (n := m + n) (by omega), Int.tdiv_eq_ediv_of_nonneg (by omega), w6_in (n := (m + n) / 2) (by omega)]
   refine (ih m ((m + n) / 2) l ver m0 (by omega) (by omega) (by omega) hl).bind fun r ⟨r1, r2, r3, r4⟩ => ?_
   rw [r2]
   refine (ih ((m + n) / 2) n r.2.1 r.1 (by omega) (by omega) n1 (by omega) r1).bind fun q ⟨q1, q2, q3, q4⟩ => Has.ret ⟨q1, q2, fun x y => ?_, fun a b h => q4 _ _ (r4 _ _ h)⟩
   rcases Int.lt_or_le M ((m + n) / 2) with z | z
   ·exact q4 _ _ (r3 x z)
   ·exact q3 z y
theorem solve_ok {s : Seen × Seen × Seen} {x y z g : Vec} {k0 k1 k2 M : Int} (hA : arc_Check s = some 0) (h0 : sighted s.1.Box x k0) (h1 : sighted s.2.1.Box y k1) (h2 : sighted s.2.2.Box z k2) (i0 : inV s.1.From) (i1 : inV s.2.1.From) (i2 : inV s.2.2.From)
  (hg : isG (addV s.2.1.From y) g) (eq : dotV (crossV x z) (secV s.1.From s.2.1.From s.2.2.From) - 2 * dotV (crossV x z) y = dotV (crossV x z) g)
  (M0 : 0 ≤ M) (M1 : M < 4096) (d1 : M * 4096 * (M * 4096) ≤ sqs y) (d2 : sqs y ≤ (M + 1) * 4096 * ((M + 1) * 4096)) : Has (arc_Solve s) fun r => r.2 = 0 ∧ okOut r.1 4096 ∧ cov r.1 (M * 4096) ((M + 1) * 4096) := by
 unfold arc_Solve
 rw [hA]
 simp only [Option.bind_some, bne_self_eq_false, Bool.false_eq_true, if_false]
 refine (begin_ok h0 h1 h2 i0 i1 i2).bind fun p ⟨op, A, Q, A1, Q1, ht, ho, hb, hw⟩ => ?_
 have hcan : ∀ m n : Int, 0 ≤ m → m < n → n ≤ 4096 → Has (plane_can p ⟨m * 4096, n * 4096, false⟩) fun b => m ≤ M → M < n → b = true := fun m n m0 mn n1 => by
  refine (can_ok op (okKnown (by omega) (by omega) (by omega))).mono fun b hc mM Mn => ?_
  have c1 : m * 4096 * (m * 4096) ≤ sqs y := by
   have := Int.mul_le_mul (show m * 4096 ≤ M * 4096 by omega) (show m * 4096 ≤ M * 4096 by omega) (by omega) (by omega); omega
  have c2 : sqs y ≤ n * 4096 * (n * 4096) := by
   have := Int.mul_le_mul (show (M + 1) * 4096 ≤ n * 4096 by omega) (show (M + 1) * 4096 ≤ n * 4096 by omega) (by omega) (by omega); omega
  obtain ⟨w1, w2⟩ := hw (m * 4096) (n * 4096) (by omega) c1 (by omega) c2
  exact hc A Q (crossV x z) g (addV s.2.1.From y) y (secV s.1.From s.2.1.From s.2.2.From) s.2.1.From A1 Q1 ht w1 ho hb w2 (by unfold dotV addV; grind) eq hg
 refine (search_ok (s := s) hcan 63 0 4096 [] 0 (by decide) (by decide) (by decide) (by decide) ⟨by simp, fun i i0 i1 => absurd i1 (by simp; omega), fun i i0 i1 => absurd i1 (by simp; omega), fun i i0 i1 => absurd i1 (by simp; omega), fun i i0 i1 => absurd i1 (by simp; omega)⟩).bind fun r ⟨r1, _, r3, _⟩ => Has.ret ⟨rfl, r1, r3 M0 M1⟩
end Lf
/- Narrower bounds give narrower results: sums, absolute values, roots, quotients. -/
namespace Lf
open Go Go.Abs
set_option linter.unusedVariables false
set_option linter.unusedSimpArgs false
theorem inZ.known {a b : Bound} (h : inZ a b) (u : b.Unknown = false) : a.Unknown = false ∧ b.Lo ≤ a.Lo ∧ a.Hi ≤ b.Hi := by
 rcases h with e | h
 ·rw [u] at e; cases e
 ·exact h
theorem inZ.mk {a b : Bound} (h : b.Unknown = false → a.Unknown = false ∧ b.Lo ≤ a.Lo ∧ a.Hi ≤ b.Hi) : inZ a b := by
 by_cases u : b.Unknown = true
 ·exact .inl u
 ·exact .inr (h (by simpa using u))
def zeroB : Bound := ⟨0, 0, false⟩
theorem zeroB_ok : zeroB.ok := okKnown (by decide) (by decide) (by decide)
def sum3Z (a b c : Bound) : Bound := if (addZ zeroB a).Unknown = true then addZ zeroB a else if (addZ (addZ zeroB a) b).Unknown = true then addZ (addZ zeroB a) b else addZ (addZ (addZ zeroB a) b) c
theorem sum3_eq {a b c : Bound} (ha : a.ok) (hb : b.ok) (hc : c.ok) : bound_Sum ([a, b, c] : List Bound) = some (sum3Z a b c) := by
 unfold bound_Sum
 rw [if_pos (by simp)]
 have e0 : (Bound.mk 0 0 false) = zeroB := rfl
 congr 1
 unfold sum3Z
 simp only [bound_SumF, e0, addZ_eq zeroB_ok ha, Option.getD_some]
 split
 ·rfl
 ·simp only [addZ_eq (addZ_ok _ _) hb, Option.getD_some]
  split
  ·rfl
  ·simp only [addZ_eq (addZ_ok _ _) hc, Option.getD_some]
   split <;> rfl
theorem sum3Z_ok (a b c : Bound) : (sum3Z a b c).ok := by
 unfold sum3Z
 split
 ·exact addZ_ok _ _
 ·split <;> exact addZ_ok _ _
theorem inZ_sum3 {a b c a' b' c' : Bound} (oa : a'.ok) (ob : b'.ok) (oc : c'.ok) (ha : inZ a' a) (hb : inZ b' b) (hc : inZ c' c) : inZ (sum3Z a' b' c') (sum3Z a b c) := by
 have h1 := inZ_add zeroB_ok oa (inZ_refl zeroB) ha
 have h2 := inZ_add (addZ_ok zeroB a') ob h1 hb
 have h3 := inZ_add (addZ_ok (addZ zeroB a') b') oc h2 hc
 unfold sum3Z
 by_cases u1 : (addZ zeroB a).Unknown = true
 ·rw [if_pos u1]; exact .inl u1
 ·rw [if_neg u1]
  have k1 := (h1.known (by simpa using u1)).1
  by_cases u2 : (addZ (addZ zeroB a) b).Unknown = true
  ·rw [if_pos u2]; exact .inl u2
  ·rw [if_neg u2]
   have k2 := (h2.known (by simpa using u2)).1
   rw [if_neg (by rw [k1]; decide), if_neg (by rw [k2]; decide)]
   exact h3
def posZ (b : Bound) : Prop := b.Unknown = true ∨ 0 ≤ b.Lo
theorem posZ_abs {b : Bound} (h : b.ok) : posZ (absZ b) := by
 by_cases u : b.Unknown = true
 ·exact .inl (by unfold absZ; rw [if_pos u]; rfl)
 ·rw [absZ_known h (by simpa using u)]; exact .inr (aLo_aHi h.le).1
theorem posZ_of {lo hi : Int} (h : 0 ≤ lo) : posZ (ofZ lo hi) := by
 unfold ofZ; split
 ·exact .inr h
 ·exact .inl rfl
theorem posZ_add {a b : Bound} (ha : posZ a) (hb : posZ b) : posZ (addZ a b) := by
 unfold addZ
 split
 ·exact .inl rfl
 ·rename_i h
  have h : a.Unknown = false ∧ b.Unknown = false := by simpa using h
  rcases ha with e | ha
  ·rw [h.1] at e; cases e
  ·rcases hb with e | hb
   ·rw [h.2] at e; cases e
   ·exact posZ_of (by omega)
theorem posZ_sum3 {a b c : Bound} (ha : posZ a) (hb : posZ b) (hc : posZ c) : posZ (sum3Z a b c) := by
 have z : posZ zeroB := .inr (Int.le_refl _)
 unfold sum3Z
 split
 ·exact posZ_add z ha
 ·split
  ·exact posZ_add (posZ_add z ha) hb
  ·exact posZ_add (posZ_add (posZ_add z ha) hb) hc
theorem posZ_sq {b : Bound} (h : b.ok) : posZ (sqZ b) := by
 unfold sqZ
 by_cases u : b.Unknown = true
 ·have e : absZ b = noneZ := by unfold absZ; rw [if_pos u]
  rw [e]; unfold mulZ; rw [if_pos (.inl rfl)]; exact .inl rfl
 ·rw [absZ_known h (by simpa using u)]
  obtain ⟨p, q⟩ := aLo_aHi h.le
  have m1 := Int.mul_nonneg p p
  have m2 := Int.mul_nonneg p (show 0 ≤ aHi b by omega)
  have m3 := Int.mul_nonneg (show 0 ≤ aHi b by omega) p
  have m4 := Int.mul_nonneg (show 0 ≤ aHi b by omega) (show 0 ≤ aHi b by omega)
  unfold mulZ
  split
  ·exact .inl rfl
  ·refine posZ_of ?_
   unfold lo4
   simp only [Int.ediv_one]
   omega
theorem inZ_abs {a b : Bound} (oa : a.ok) (ob : b.ok) (h : inZ a b) : inZ (absZ a) (absZ b) := by
 by_cases u : b.Unknown = true
 ·exact .inl (by unfold absZ; rw [if_pos u]; rfl)
 ·have u : b.Unknown = false := by simpa using u
  obtain ⟨k, l, r⟩ := h.known u
  rw [absZ_known oa k, absZ_known ob u]
  have := oa.le; have := ob.le
  refine .inr ⟨rfl, ?_, ?_⟩
  ·simp only []
   unfold aLo
   split <;> split <;> omega
  ·simp only []
   unfold aHi; omega
theorem inZ_sq {a b : Bound} (oa : a.ok) (ob : b.ok) (h : inZ a b) : inZ (sqZ a) (sqZ b) := inZ_mul absZ_ok absZ_ok (inZ_abs oa ob h) (inZ_abs oa ob h)
def normZ (p : Place3) : Bound := sum3Z (sqZ p.1) (sqZ p.2.1) (sqZ p.2.2)
theorem norm_eq {p : Place3} (h : ok3 p) : arc_Norm p = some (normZ p) := by
 unfold arc_Norm
 rw [sqZ_eq h.x, sqZ_eq h.y, sqZ_eq h.z]
 simp only [Option.bind_some]
 rw [sum3_eq (sqZ_ok _) (sqZ_ok _) (sqZ_ok _)]; rfl
theorem normZ_ok (p : Place3) : (normZ p).ok := sum3Z_ok _ _ _
theorem normZ_pos {p : Place3} (h : ok3 p) : posZ (normZ p) := posZ_sum3 (posZ_sq h.x) (posZ_sq h.y) (posZ_sq h.z)
structure in3 (a b : Place3) : Prop where
 x : inZ a.1 b.1
 y : inZ a.2.1 b.2.1
 z : inZ a.2.2 b.2.2
theorem in3.at {a b : Place3} (h : in3 a b) {i : Int} (i0 : 0 ≤ i) (i1 : i < 3) : inZ (at3 a i) (at3 b i) := by
 rcases three i0 i1 with rfl | rfl | rfl
 ·exact h.x
 ·exact h.y
 ·exact h.z
theorem inZ_norm {a b : Place3} (oa : ok3 a) (ob : ok3 b) (h : in3 a b) : inZ (normZ a) (normZ b) :=
 inZ_sum3 (sqZ_ok _) (sqZ_ok _) (sqZ_ok _) (inZ_sq oa.x ob.x h.x) (inZ_sq oa.y ob.y h.y) (inZ_sq oa.z ob.z h.z)
structure isRoot (a : Bound) (u : Int) (b : Bound) : Prop where
 ok : b.ok
 no : a.Unknown = true ∨ a.Hi < 0 → b.Unknown = true
 u : ¬ (a.Unknown = true ∨ a.Hi < 0) → b.Unknown = false ∧ isRt (max a.Lo 0 * u) b.Lo ∧ 0 ≤ b.Hi ∧ a.Hi * u ≤ b.Hi * b.Hi ∧ (b.Hi = 0 ∨ (b.Hi - 1) * (b.Hi - 1) < a.Hi * u)
theorem rootX_ok {a : Bound} {u : Int} (ha : a.ok) (u1 : 1 ≤ u) (u2 : u ≤ 1099511627776) : Has (bound_Root a u) fun b => isRoot a u b := by
 have l := ha.le; have h := ha.hi
 unfold bound_Root
 rw [vague_ok ha ha]
 refine Has.bind (P := fun z => (z = true ∧ (a.Unknown = true ∨ a.Hi < 0)) ∨ (z = false ∧ a.Unknown = false ∧ 0 ≤ a.Hi)) ?_ fun z hz => Has.ite (fun q => ?_) fun q => ?_
 ·by_cases hu : a.Unknown = true
  ·exact Has.eq (a := true) (by simp [hu]) (.inl ⟨rfl, .inl hu⟩)
  ·have hu : a.Unknown = false := by simpa using hu
   by_cases hn : a.Hi < 0
   ·exact Has.eq (a := true) (by simp [hu, hn]) (.inl ⟨rfl, .inr hn⟩)
   ·exact Has.eq (a := false) (by simp [hu, hn]; omega) (.inr ⟨rfl, hu, by omega⟩)
 ·rw [none_ok]
  rcases hz with ⟨_, hz⟩ | ⟨e, _⟩
  ·exact Has.ret ⟨okNone, fun _ => rfl, fun n => absurd hz n⟩
  ·rw [e] at q; cases q
 ·rcases hz with ⟨e, _⟩ | ⟨_, hu, h0⟩
  ·rw [e] at q; exact absurd rfl q
  ·rw [mx2_max]
   refine (sqrtW_ok (max a.Lo 0) u (by omega) (by omega)).bind fun r7 h7 => (sqrtW_ok a.Hi u (by omega) (by omega)).bind fun r8 h8 => ?_
   have p7 := h7.r0; have p8 := h8.r0
   have x1 : a.Hi * u ≤ a.Hi * 1099511627776 := Int.mul_le_mul_of_nonneg_left u2 h0
   have x2 : max a.Lo 0 * u ≤ a.Hi * u := Int.mul_le_mul_of_nonneg_right (by omega) (by omega)
   have b8 : r8 < 1125899906842625 := sq_lt p8 (by decide) (by have := h8.lo; omega)
   have m := h7.mono h8 (by omega)
   refine (product_ok r8 r8 (by unfold okI; omega) (by unfold okI; omega)).bind fun w9 ⟨p1, p2, _⟩ => (product_ok a.Hi u (by unfold okI; omega) (by unfold okI; omega)).bind fun w10 ⟨q1, q2, _⟩ => (wcmp_ok p1 q1).bind fun c ⟨c1, c2⟩ => ?_
   rw [p2, q2] at c1
   have g8 := h8.hi
   have n : ¬ (a.Unknown = true ∨ a.Hi < 0) := by rw [hu]; rintro (x | x); cases x; omega
   refine Has.ite (fun hc => ?_) fun hc => ?_
   ·have hc := c1.1 (of_decide_eq_true hc)
    rw [w6_in (by omega), ofZ_eq, ofZ_known (by omega) (by omega) (by omega)]
    refine Has.ret ⟨okKnown (by omega) (by omega) (by omega), fun x => absurd x n, fun _ => ⟨rfl, h7, by simp only []; omega, by simp only []; omega, .inr ?_⟩⟩
    simp only [Int.add_sub_cancel]; exact hc
   ·have hc : ¬ c < 0 := fun q => hc (decide_eq_true q)
    have g : ¬ r8 * r8 < a.Hi * u := fun q => hc (c1.2 q)
    rw [ofZ_eq, ofZ_known (by omega) (by omega) (by omega)]
    refine Has.ret ⟨okKnown (by omega) (by omega) (by omega), fun x => absurd x n, fun _ => ⟨rfl, h7, by simp only []; omega, by simp only []; omega, ?_⟩⟩
    simp only []
    rcases Int.lt_or_le r8 1 with z | z
    ·left; omega
    ·right
     have e : (r8 - 1) * (r8 - 1) = r8 * r8 - 2 * r8 + 1 := by grind
     have := h8.lo
     omega
theorem inZ_root {a b ra rb : Bound} {u : Int} (u1 : 1 ≤ u) (oa : a.ok) (ha : isRoot a u ra) (hb : isRoot b u rb) (p : posZ a) (h : inZ a b) : inZ ra rb := by
 refine inZ.mk fun k => ?_
 have nb : ¬ (b.Unknown = true ∨ b.Hi < 0) := fun q => by rw [hb.no q] at k; cases k
 obtain ⟨ku, kl, kr⟩ := h.known (by cases e : b.Unknown with | true => exact absurd (.inl e) nb | false => rfl)
 have le := oa.le
 have pa : 0 ≤ a.Lo := by
  rcases p with e | p
  ·rw [ku] at e; cases e
  ·exact p
 obtain ⟨a1, a2, a3, a4, a5⟩ := ha.u (by rw [ku]; rintro (x | x); cases x; omega)
 obtain ⟨b1, b2, b3, b4, b5⟩ := hb.u nb
 refine ⟨a1, b2.mono a2 (Int.mul_le_mul_of_nonneg_right (by omega) (by omega)), ?_⟩
 rcases a5 with e | a5
 ·omega
 ·have m := Int.mul_le_mul_of_nonneg_right kr (show 0 ≤ u by omega)
  have := sq_lt (a := ra.Hi - 1) (b := rb.Hi)
  rcases Int.lt_or_le rb.Hi ra.Hi with z | z
  ·have := Int.mul_le_mul (show rb.Hi ≤ ra.Hi - 1 by omega) (show rb.Hi ≤ ra.Hi - 1 by omega) b3 (by omega)
   omega
  ·exact z
theorem ofZ_unk {lo hi : Int} (h : (ofZ lo hi).Unknown = false) : ofZ lo hi = ⟨lo, hi, false⟩ ∧ lo ≤ hi := by
 unfold ofZ at h ⊢
 split
 ·rename_i g; exact ⟨rfl, g.1⟩
 ·rename_i g; rw [if_neg g] at h; cases h
theorem inZ_div {a b a' b' : Bound} {u : Int} (u1 : 1 ≤ u) (oa : a'.ok) (ob : b'.ok) (oa2 : a.ok) (ob2 : b.ok) (ha : inZ a' a) (hb : inZ b' b) (p : 0 < b.Lo) : inZ (divZ a' b' u) (divZ a b u) := by
 refine inZ.mk fun k => ?_
 have n : ¬ ((a.Unknown || b.Unknown) = true ∨ u < 1 ∨ (b.Lo ≤ 0 ∧ 0 ≤ b.Hi)) := fun q => by unfold divZ at k; rw [if_pos q] at k; cases k
 have hu : a.Unknown = false ∧ b.Unknown = false := by
  have : ¬ (a.Unknown || b.Unknown) = true := fun q => n (.inl q)
  simpa using this
 obtain ⟨a0, a1, a2⟩ := ha.known hu.1
 obtain ⟨b0, b1, b2⟩ := hb.known hu.2
 have la := oa.le; have lb := ob.le; have lb2 := ob2.le; have la2 := oa2.le
 have e1 : divZ a b u = ofZ (dlo a b u) (dhi a b u) := by unfold divZ; rw [if_neg n, if_neg (by omega)]
 have e2 : divZ a' b' u = ofZ (dlo a' b' u) (dhi a' b' u) := by unfold divZ; rw [if_neg (by simp [a0, b0]; omega), if_neg (by omega)]
 rw [e1] at k ⊢
 obtain ⟨e3, le⟩ := ofZ_unk k
 have bd : ∀ x y : Int, a.Lo ≤ x → x ≤ a.Hi → b.Lo ≤ y → y ≤ b.Hi → dlo a b u ≤ x * u / y ∧ cdiv (x * u) y ≤ dhi a b u := fun x y x1 x2 y1 y2 => by
  have h := hasR_divP (a := a) (b := b) (p := x) (q := 1) (r := y) (s := 1) (u := u) (by decide) (by decide) (by omega) (by omega) (by omega) (by omega) (by omega) p lb2
  rw [e3] at h
  rcases h with e | ⟨h1, h2⟩
  ·cases e
  ·simp only [Int.mul_one, Int.one_mul] at h1 h2
   exact ⟨(Int.le_ediv_iff_mul_le (by omega)).2 h1, (cdiv_le (by omega)).2 h2⟩
 obtain ⟨c1, d1⟩ := bd a'.Lo b'.Lo (by omega) (by omega) (by omega) (by omega)
 obtain ⟨c2, d2⟩ := bd a'.Lo b'.Hi (by omega) (by omega) (by omega) (by omega)
 obtain ⟨c3, d3⟩ := bd a'.Hi b'.Lo (by omega) (by omega) (by omega) (by omega)
 obtain ⟨c4, d4⟩ := bd a'.Hi b'.Hi (by omega) (by omega) (by omega) (by omega)
 have fc := fl_le_ce (x := a'.Lo * u) (d := b'.Lo) (by omega)
 have g1 : dlo a' b' u ≤ dhi a' b' u := by
  have x1 : dlo a' b' u ≤ a'.Lo * u / b'.Lo := by unfold dlo; omega
  have x2 : cdiv (a'.Lo * u) b'.Lo ≤ dhi a' b' u := by unfold dhi; omega
  omega
 have g2 : dlo a b u ≤ dlo a' b' u := by
  have : dlo a' b' u = a'.Lo * u / b'.Lo ∨ dlo a' b' u = a'.Lo * u / b'.Hi ∨ dlo a' b' u = a'.Hi * u / b'.Lo ∨ dlo a' b' u = a'.Hi * u / b'.Hi := by unfold dlo; omega
  omega
 have g3 : dhi a' b' u ≤ dhi a b u := by
  have : dhi a' b' u = cdiv (a'.Lo * u) b'.Lo ∨ dhi a' b' u = cdiv (a'.Lo * u) b'.Hi ∨ dhi a' b' u = cdiv (a'.Hi * u) b'.Lo ∨ dhi a' b' u = cdiv (a'.Hi * u) b'.Hi := by unfold dhi; omega
  omega
 rw [e2]
 rcases inZ_of (lo := dlo a b u) (hi := dhi a b u) g1 g2 g3 with q | q
 ·rw [k] at q; cases q
 ·exact q
end Lf
/- Narrower bounds give narrower results: rays, the strength of the pull, the equation of the distance. -/
namespace Lf
open Go Go.Abs
set_option linter.unusedVariables false
set_option linter.unusedSimpArgs false
def rayZ (p : Place3) (L : Bound) : Place3 := (meetOne (divZ p.1 L 1125899906842624), meetOne (divZ p.2.1 L 1125899906842624), meetOne (divZ p.2.2 L 1125899906842624))
def over (d : Bound) : Prop := d.Unknown = true ∨ max d.Lo (-1073741824) ≤ min d.Hi 1073741824
theorem over_of {d : Bound} {p q : Int} (od : d.ok) (hq : 0 < q) (h : hasR d p q) (h1 : -(1073741824 * q) ≤ p) (h2 : p ≤ 1073741824 * q) : over d := by
 rcases h with e | ⟨a, b⟩
 ·exact .inl e
 ·have le := od.le
  have x1 : d.Lo ≤ 1073741824 := Int.le_of_mul_le_mul_right (show d.Lo * q ≤ 1073741824 * q by omega) hq
  have x2 : -1073741824 ≤ d.Hi := Int.le_of_mul_le_mul_right (show -1073741824 * q ≤ d.Hi * q by omega) hq
  exact .inr (by omega)
theorem rayX_ok {p : Place3} (h : ok3 p) : Has (arc_Ray (Box.mk p.1 p.2.1 p.2.2)) fun r => r.2 = true → ∃ L, isRoot (normZ p) 1099511627776 L ∧ L.Unknown = false ∧ 1 ≤ L.Lo ∧ r.1 = rayZ p L ∧ ∀ v : Vec, (∀ i : Int, 0 ≤ i → i < 3 → hasZ (at3 p i) (coV v i)) → ∀ i : Int, 0 ≤ i → i < 3 → over (divZ (at3 p i) L 1125899906842624) := by
 unfold arc_Ray
 simp only []
 have en : arc_Norm ((p.1, p.2.1, p.2.2) : Place3) = some (normZ p) := norm_eq h
 rw [en]
 simp only [Option.bind_some]
 refine (rootX_ok (normZ_ok p) (by decide) (by decide)).bind fun L hL => ?_
 refine Has.bind (P := fun z => z = (L.Unknown || (L.Lo == 0))) (by cases L.Unknown <;> exact Has.ret (by simp)) fun zz hz => Has.ite (fun q => Has.ret fun g => nomatch g) fun q => ?_
 have q : L.Unknown = false ∧ (L.Lo == 0) = false := by rw [hz] at q; simpa using q
 have l1 := hL.ok
 obtain ⟨m1, q1, g1⟩ := meetOne_eq (divZ_ok p.1 L 1125899906842624)
 obtain ⟨m2, q2, g2⟩ := meetOne_eq (divZ_ok p.2.1 L 1125899906842624)
 obtain ⟨m3, q3, g3⟩ := meetOne_eq (divZ_ok p.2.2 L 1125899906842624)
 have d1 := divZ_eq (u := 1125899906842624) h.x l1 (by decide)
 have d2 := divZ_eq (u := 1125899906842624) h.y l1 (by decide)
 have d3 := divZ_eq (u := 1125899906842624) h.z l1 (by decide)
 have s1 : arc_Ray.l1 L ((p.1, p.2.1, p.2.2), 0) = some (.next ((m1.1, p.2.1, p.2.2), 1)) := by
  unfold arc_Ray.l1
  rw [if_pos (by rfl), if_pos ⟨by show (0 : Int) ≤ 0; decide, by show (0 : Int) < 3; decide⟩]
  have g : gt ([p.1, p.2.1, p.2.2] : List Bound) 0 = p.1 := rfl
  simp only [g, d1, Option.bind_some, q1]
  rfl
 have s2 : arc_Ray.l1 L ((m1.1, p.2.1, p.2.2), 1) = some (.next ((m1.1, m2.1, p.2.2), 2)) := by
  unfold arc_Ray.l1
  rw [if_pos (by rfl), if_pos ⟨by show (0 : Int) ≤ 1; decide, by show (1 : Int) < 3; decide⟩]
  have g : gt ([m1.1, p.2.1, p.2.2] : List Bound) 1 = p.2.1 := rfl
  simp only [g, d2, Option.bind_some, q2]
  rfl
 have s3 : arc_Ray.l1 L ((m1.1, m2.1, p.2.2), 2) = some (.next ((m1.1, m2.1, m3.1), 3)) := by
  unfold arc_Ray.l1
  rw [if_pos (by rfl), if_pos ⟨by show (0 : Int) ≤ 2; decide, by show (2 : Int) < 3; decide⟩]
  have g : gt ([m1.1, m2.1, p.2.2] : List Bound) 2 = p.2.2 := rfl
  simp only [g, d3, Option.bind_some, q3]
  rfl
 have s4 : arc_Ray.l1 L ((m1.1, m2.1, m3.1), 3) = some (.done (m1.1, m2.1, m3.1)) := rfl
 rw [(Run.next s1 (Run.next s2 (Run.next s3 (Run.done s4)))).ok (by decide)]
 have nn : ¬ ((normZ p).Unknown = true ∨ (normZ p).Hi < 0) := fun x => by have := hL.no x; rw [q.1] at this; cases this
 obtain ⟨_, lo, h0, hh, _⟩ := hL.u nn
 have lp : 1 ≤ L.Lo := by
  have r0 := lo.r0
  have : ¬ L.Lo = 0 := fun e => by rw [e] at q; exact absurd q.2 (by decide)
  omega
 refine Has.ret fun _ => ⟨L, hL, q.1, lp, by unfold rayZ; rw [g1, g2, g3], fun v hv => ?_⟩
 have hN : hasZ (normZ p) (sqs v) := by
  obtain ⟨n, en2, on, hn⟩ := normG_ok h
  have e3 : arc_Norm p = some (normZ p) := norm_eq h
  rw [e3] at en2; cases en2
  exact hn _ _ _ (hasZ_sq h.x (hv 0 (by decide) (by decide))) (hasZ_sq h.y (hv 1 (by decide) (by decide))) (hasZ_sq h.z (hv 2 (by decide) (by decide)))
 rcases hN with e | ⟨n1, n2⟩
 ·exact absurd (.inl e) nn
 ·have sq0 : ∀ x : Int, 0 ≤ x * x := fun x => by rcases Int.le_total 0 x with q | q; exact Int.mul_nonneg q q; exact Int.mul_nonneg_of_nonpos_of_nonpos q q
  have x0 := sq0 v.X; have y0 := sq0 v.Y; have z0 := sq0 v.Z
  unfold sqs at n1 n2
  have ll := lo.lo
  have ex : ∀ V : Int, (1048576 * V) * (1048576 * V) = V * V * 1099511627776 ∧ (-(1048576 * V)) * (-(1048576 * V)) = V * V * 1099511627776 := fun V => ⟨by grind, by grind⟩
  obtain ⟨ex1, ex2⟩ := ex v.X
  obtain ⟨ey1, ey2⟩ := ex v.Y
  obtain ⟨ez1, ez2⟩ := ex v.Z
  obtain ⟨t, ht, c1, c3, c4, c5, c6, c7, c8⟩ : ∃ t : Int, (t = L.Lo ∨ t = 1048576 * v.X ∨ t = -(1048576 * v.X) ∨ t = 1048576 * v.Y ∨ t = -(1048576 * v.Y) ∨ t = 1048576 * v.Z ∨ t = -(1048576 * v.Z)) ∧ L.Lo ≤ t ∧ 1048576 * v.X ≤ t ∧ -(1048576 * v.X) ≤ t ∧ 1048576 * v.Y ≤ t ∧ -(1048576 * v.Y) ≤ t ∧ 1048576 * v.Z ≤ t ∧ -(1048576 * v.Z) ≤ t :=
   ⟨max (max L.Lo (max (1048576 * v.X) (-(1048576 * v.X)))) (max (max (1048576 * v.Y) (-(1048576 * v.Y))) (max (1048576 * v.Z) (-(1048576 * v.Z)))), by omega, by omega, by omega, by omega, by omega, by omega, by omega, by omega⟩
  have sq : t * t ≤ L.Hi * L.Hi := by
   rcases ht with e | e | e | e | e | e | e
   ·rw [e]; omega
   ·rw [e, ex1]; omega
   ·rw [e, ex2]; omega
   ·rw [e, ey1]; omega
   ·rw [e, ey2]; omega
   ·rw [e, ez1]; omega
   ·rw [e, ez2]; omega
  have th : t ≤ L.Hi := by
   rcases Int.lt_or_le L.Hi t with g | g
   ·have := Int.mul_le_mul (show L.Hi + 1 ≤ t by omega) (show L.Hi + 1 ≤ t by omega) (by omega) (by omega)
    have m2 : (L.Hi + 1) * (L.Hi + 1) = L.Hi * L.Hi + 2 * L.Hi + 1 := by grind
    omega
   ·exact g
  have key : ∀ (b : Bound) (V : Int), b.ok → hasZ b V → (-t ≤ 1048576 * V ∧ 1048576 * V ≤ t) → over (divZ b L 1125899906842624) := fun b V ob hb hm => by
   have hb1 := hasR_int (q := 1) (by decide) hb
   rw [Int.mul_one] at hb1
   have d := (hasR_div (u := 1125899906842624) (p := V) (q := 1) (r := t) (s := 1) ob l1 (by decide) (by decide) hb1 (.inr ⟨by omega, by omega⟩)).1 (by omega)
   rw [Int.mul_one, Int.one_mul] at d
   exact over_of (divZ_ok _ _ _) (by omega) d (by omega) (by omega)
  intro i i0 i1
  have hvi := hv i i0 i1
  rcases three i0 i1 with rfl | rfl | rfl
  ·exact key p.1 v.X h.x hvi ⟨by omega, by omega⟩
  ·exact key p.2.1 v.Y h.y hvi ⟨by omega, by omega⟩
  ·exact key p.2.2 v.Z h.z hvi ⟨by omega, by omega⟩
theorem inZ_meetOne {a b : Bound} (h : inZ a b) (oa : over a) : inZ (meetOne a) (meetOne b) := by
 have ka := meetOne_known a
 by_cases u : b.Unknown = true
 ·have : meetOne b = oneB := by unfold meetOne; rw [if_pos u]
  rw [this]; exact .inr ⟨ka.1, ka.2.1, ka.2.2.2⟩
 ·have u : b.Unknown = false := by simpa using u
  obtain ⟨k, l, r⟩ := h.known u
  rcases oa with e | oa
  ·rw [k] at e; cases e
  ·have ea : meetOne a = ⟨max a.Lo (-1073741824), min a.Hi 1073741824, false⟩ := by unfold meetOne; rw [if_neg (by rw [k]; decide), if_neg (by omega)]
   have eb : meetOne b = ⟨max b.Lo (-1073741824), min b.Hi 1073741824, false⟩ := by unfold meetOne; rw [if_neg (by rw [u]; decide), if_neg (by omega)]
   rw [ea, eb]
   exact .inr ⟨rfl, by simp only []; omega, by simp only []; omega⟩
theorem ray_mono {p q : Place3} {L M : Bound} (op : ok3 p) (oq : ok3 q) (h : in3 p q) (hL : isRoot (normZ p) 1099511627776 L) (hM : isRoot (normZ q) 1099511627776 M) (l1 : 1 ≤ M.Lo) (ov : ∀ i : Int, 0 ≤ i → i < 3 → over (divZ (at3 p i) L 1125899906842624)) : in3 (rayZ p L) (rayZ q M) := by
 have hr := inZ_root (by decide) (normZ_ok p) hL hM (normZ_pos op) (inZ_norm op oq h)
 have one : ∀ a b : Bound, a.ok → b.ok → inZ a b → inZ (divZ a L 1125899906842624) (divZ b M 1125899906842624) := fun a b oa ob hab => inZ_div (by decide) oa hL.ok ob hM.ok hab hr (by omega)
 exact ⟨inZ_meetOne (one _ _ op.x oq.x h.x) (ov 0 (by decide) (by decide)), inZ_meetOne (one _ _ op.y oq.y h.y) (ov 1 (by decide) (by decide)), inZ_meetOne (one _ _ op.z oq.z h.z) (ov 2 (by decide) (by decide))⟩
theorem rayZ_ok (p : Place3) (L : Bound) : ok3 (rayZ p L) := ⟨meetOne_ok, meetOne_ok, meetOne_ok⟩
def nrmZ (a c : Place3) : Place3 := (crossA a (subZ c.1 a.1, subZ c.2.1 a.2.1, subZ c.2.2 a.2.2) 1 2, crossA a (subZ c.1 a.1, subZ c.2.1 a.2.1, subZ c.2.2 a.2.2) 2 0, crossA a (subZ c.1 a.1, subZ c.2.1 a.2.1, subZ c.2.2 a.2.2) 0 1)
def dotZ (a b : Place3) (u : Int) : Bound := sum3Z (mulZ a.1 b.1 u) (mulZ a.2.1 b.2.1 u) (mulZ a.2.2 b.2.2 u)
def subP (a b : Place3) : Place3 := (subZ a.1 b.1, subZ a.2.1 b.2.1, subZ a.2.2 b.2.2)
theorem subP_ok (a b : Place3) : ok3 (subP a b) := ok3_sub
theorem nrmZ_ok (a c : Place3) : ok3 (nrmZ a c) := ⟨subZ_ok _ _, subZ_ok _ _, subZ_ok _ _⟩
theorem dot_eq {a b : Place3} {u : Int} (ha : ok3 a) (hb : ok3 b) (hu : u ≤ 9223372036854775807) : arc_dot a b u = some (dotZ a b u) := by
 unfold arc_dot
 rw [mulZ_eq ha.x hb.x hu, mulZ_eq ha.y hb.y hu, mulZ_eq ha.z hb.z hu]
 simp only [Option.bind_some]
 rw [sum3_eq (mulZ_ok _ _ _) (mulZ_ok _ _ _) (mulZ_ok _ _ _)]; rfl
def planeZ (a b c e0 e1 e2 : Place3) : arc_plane := arc_plane.mk b e1 (nrmZ a c) (dotZ (nrmZ a c) (subP (subP e2 e1) (subP e1 e0)) 1) (dotZ (subP b a) (nrmZ a c) 1073741824) (dotZ (nrmZ a c) e1 1) (sum3Z (absZ (nrmZ a c).1) (absZ (nrmZ a c).2.1) (absZ (nrmZ a c).2.2))
theorem begin_eq {s : Seen × Seen × Seen} {a b c : Place3} {fa fb fc : Bool} (ha : arc_Ray s.1.Box = some (a, fa)) (hb : arc_Ray s.2.1.Box = some (b, fb)) (hc : arc_Ray s.2.2.Box = some (c, fc)) (oa : ok3 a) (ob : ok3 b) (oc : ok3 c) (i0 : inV s.1.From) (i1 : inV s.2.1.From) (i2 : inV s.2.2.From) :
  arc_begin s = some (planeZ a b c (exA s.1.From) (exA s.2.1.From) (exA s.2.2.From)) := by
 unfold arc_begin
 rw [ha, hb, hc]
 simp only [Option.bind_some]
 rw [arcMinus_eq oc oa]
 simp only [Option.bind_some]
 rw [arcCross_eq oa ok3_sub, arcExact_eq i0, arcExact_eq i1, arcExact_eq i2]
 simp only [Option.bind_some]
 have e1 : arc_minus (exA s.2.2.From) (exA s.2.1.From) = some (subP (exA s.2.2.From) (exA s.2.1.From)) := arcMinus_eq (exA_ok i2) (exA_ok i1)
 have e2 : arc_minus (exA s.2.1.From) (exA s.1.From) = some (subP (exA s.2.1.From) (exA s.1.From)) := arcMinus_eq (exA_ok i1) (exA_ok i0)
 rw [e1, e2]
 simp only [Option.bind_some]
 have e3 : arc_minus (subP (exA s.2.2.From) (exA s.2.1.From)) (subP (exA s.2.1.From) (exA s.1.From)) = some (subP (subP (exA s.2.2.From) (exA s.2.1.From)) (subP (exA s.2.1.From) (exA s.1.From))) := arcMinus_eq (subP_ok _ _) (subP_ok _ _)
 rw [e3]
 simp only [Option.bind_some]
 have en : ((crossA a (subZ c.1 a.1, subZ c.2.1 a.2.1, subZ c.2.2 a.2.2) 1 2, crossA a (subZ c.1 a.1, subZ c.2.1 a.2.1, subZ c.2.2 a.2.2) 2 0, crossA a (subZ c.1 a.1, subZ c.2.1 a.2.1, subZ c.2.2 a.2.2) 0 1) : Place3) = nrmZ a c := rfl
 rw [en, dot_eq (nrmZ_ok a c) (subP_ok _ _) (by decide)]
 simp only [Option.bind_some]
 have e4 : arc_minus b a = some (subP b a) := arcMinus_eq ob oa
 rw [e4]
 simp only [Option.bind_some]
 rw [dot_eq (subP_ok _ _) (nrmZ_ok a c) (by decide), dot_eq (nrmZ_ok a c) (exA_ok i1) (by decide)]
 simp only [Option.bind_some]
 have ox : ∀ m i j, (crossA a m i j).ok := fun m i j => subZ_ok _ _
 rw [absZ_eq (ox _ 1 2), absZ_eq (ox _ 2 0), absZ_eq (ox _ 0 1)]
 simp only [Option.bind_some]
 rw [sum3_eq absZ_ok absZ_ok absZ_ok]
 rfl
theorem in3_sub {a b a' b' : Place3} (oa : ok3 a') (ob : ok3 b') (ha : in3 a' a) (hb : in3 b' b) : in3 (subP a' b') (subP a b) := ⟨inZ_sub oa.x ob.x ha.x hb.x, inZ_sub oa.y ob.y ha.y hb.y, inZ_sub oa.z ob.z ha.z hb.z⟩
theorem in3_refl (a : Place3) : in3 a a := ⟨inZ_refl _, inZ_refl _, inZ_refl _⟩
theorem inZ_cross {a b a' b' : Place3} (oa : ok3 a') (ob : ok3 b') (ha : in3 a' a) (hb : in3 b' b) {i j : Int} (i0 : 0 ≤ i) (i1 : i < 3) (j0 : 0 ≤ j) (j1 : j < 3) : inZ (crossA a' b' i j) (crossA a b i j) :=
 inZ_sub (mulZ_ok _ _ _) (mulZ_ok _ _ _) (inZ_mul (at3_ok oa i0 i1) (at3_ok ob j0 j1) (ha.at i0 i1) (hb.at j0 j1)) (inZ_mul (at3_ok oa j0 j1) (at3_ok ob i0 i1) (ha.at j0 j1) (hb.at i0 i1))
theorem in3_nrm {a c a' c' : Place3} (oa : ok3 a') (oc : ok3 c') (ha : in3 a' a) (hc : in3 c' c) : in3 (nrmZ a' c') (nrmZ a c) := by
 have m := in3_sub oc oa hc ha
 have om : ok3 (subP c' a') := subP_ok _ _
 exact ⟨inZ_cross oa om ha m (by decide) (by decide) (by decide) (by decide), inZ_cross oa om ha m (by decide) (by decide) (by decide) (by decide), inZ_cross oa om ha m (by decide) (by decide) (by decide) (by decide)⟩
theorem inZ_dot {a b a' b' : Place3} {u : Int} (oa : ok3 a') (ob : ok3 b') (ha : in3 a' a) (hb : in3 b' b) : inZ (dotZ a' b' u) (dotZ a b u) :=
 inZ_sum3 (mulZ_ok _ _ _) (mulZ_ok _ _ _) (mulZ_ok _ _ _) (inZ_mul oa.x ob.x ha.x hb.x) (inZ_mul oa.y ob.y ha.y hb.y) (inZ_mul oa.z ob.z ha.z hb.z)
structure inP (p q : arc_plane) : Prop where
 ray : in3 p.ray q.ray
 from_ : in3 p.from_ q.from_
 turn : inZ p.turn q.turn
 slope : inZ p.slope q.slope
 offset : inZ p.offset q.offset
 blurred : inZ p.blurred q.blurred
 pos : posZ p.blurred
 pos2 : posZ q.blurred
theorem plane_mono {a b c a' b' c' e0 e1 e2 : Place3} (oa : ok3 a') (ob : ok3 b') (oc : ok3 c') (o1 : ok3 e1) (ha : in3 a' a) (hb : in3 b' b) (hc : in3 c' c) : inP (planeZ a' b' c' e0 e1 e2) (planeZ a b c e0 e1 e2) := by
 have n := in3_nrm oa oc ha hc
 have on : ok3 (nrmZ a' c') := nrmZ_ok _ _
 have on2 : ok3 (nrmZ a c) := nrmZ_ok _ _
 exact ⟨hb, in3_refl _, inZ_dot on (subP_ok _ _) n (in3_refl _), inZ_dot (subP_ok _ _) on (in3_sub ob oa hb ha) n, inZ_dot on o1 n (in3_refl _),
  inZ_sum3 absZ_ok absZ_ok absZ_ok (inZ_abs on.x on2.x n.x) (inZ_abs on.y on2.y n.y) (inZ_abs on.z on2.z n.z), posZ_sum3 (posZ_abs on.x) (posZ_abs on.y) (posZ_abs on.z), posZ_sum3 (posZ_abs on2.x) (posZ_abs on2.y) (posZ_abs on2.z)⟩
theorem planeZ_ok {a b c e0 e1 e2 : Place3} (ob : ok3 b) (o1 : ok3 e1) : okPlane (planeZ a b c e0 e1 e2) := ⟨ob, o1, sum3Z_ok _ _ _, sum3Z_ok _ _ _, sum3Z_ok _ _ _, sum3Z_ok _ _ _⟩
end Lf
/- Wider planes admit what narrower ones admit. -/
namespace Lf
open Go Go.Abs
set_option linter.unusedVariables false
set_option linter.unusedSimpArgs false
def downS (H : Int) : Int := pullS / (H * H) / H
def upS (h : Int) : Int := cdiv (cdiv pullS (h * h)) h
def strengthZ (r : Bound) : Bound := if r.Unknown = true ∨ r.Lo < 0 ∨ 67108864 ≤ r.Hi then noneZ else if r.Hi < 65536 then zeroB else ⟨if r.Lo < 65536 then 0 else downS r.Hi, upS (max r.Lo 65536), false⟩
theorem sq_bd {x : Int} (h0 : 65536 ≤ x) (h1 : x < 67108864) : 4294967296 ≤ x * x ∧ x * x ≤ 4503599627370496 := by
 have a := Int.mul_le_mul h0 h0 (by decide) (by omega)
 have b := Int.mul_le_mul (show x ≤ 67108864 by omega) (show x ≤ 67108864 by omega) (by omega) (by decide)
 omega
theorem pull_div {x : Int} (hx : 4294967296 ≤ x) : 0 ≤ pullS / x ∧ pullS / x ≤ 144115188075855872 := by
 have n := Int.ediv_nonneg (show 0 ≤ pullS by decide) (show 0 ≤ x by omega)
 have em := Int.mul_ediv_add_emod pullS x
 have m1 := Int.emod_nonneg pullS (b := x) (by omega)
 have e2 : x * (pullS / x) = pullS / x * x := Int.mul_comm _ _
 refine ⟨n, ?_⟩
 have mm := Int.mul_le_mul_of_nonneg_left hx n
 have : pullS = 618970019642690137449562112 := rfl
 omega
theorem cdiv_bd {a b : Int} (ha : 0 ≤ a) (hb : 1 ≤ b) : 0 ≤ cdiv a b ∧ cdiv a b ≤ a / b + 1 ∧ a / b ≤ cdiv a b := by
 have f := fl_le_ce (x := a) (d := b) (by omega)
 have n := Int.ediv_nonneg ha (show 0 ≤ b by omega)
 omega
theorem ceilX_ok {a b : Int} (ha : 0 ≤ a ∧ a ≤ 9000000000000000000) (hb : 1 ≤ b) : num_CeilDiv a b = some (cdiv a b) := by
 have q := Int.ediv_nonneg ha.1 (show 0 ≤ b by omega)
 have q2 := Int.ediv_le_self b ha.1
 obtain ⟨u1, u2⟩ := cdiv_up (x := a) (d := b) (by omega)
 have m := Int.emod_nonneg a (b := b) (by omega)
 unfold num_CeilDiv
 rw [Int.tdiv_eq_ediv_of_nonneg ha.1, Int.tmod_eq_emod_of_nonneg ha.1, if_neg (by simp; omega), if_pos (by omega), w6_in (n := a / b) (by omega), w6_in (n := a / b + 1) (by omega)]
 by_cases h : a % b > 0
 ·rw [if_pos (decide_eq_true h), u2 h]
 ·rw [if_neg (fun q => h (of_decide_eq_true q)), u1 (by omega)]
theorem strength_eq {r : Bound} (hr : r.ok) : arc_Strength r = some (strengthZ r) := by
 apply Has.val
 unfold arc_Strength
 rw [check_ok hr]
 simp only [Option.bind_some, bne_self_eq_false, Bool.false_eq_true, if_false]
 have le := hr.le
 refine Has.bind (P := fun z => z = decide (r.Unknown = true ∨ r.Lo < 0 ∨ 67108864 ≤ r.Hi)) (Has.ite (fun u => Has.ret (decide_eq_true (.inl u)).symm) fun u => Has.ite (fun h => Has.ret (decide_eq_true (.inr (.inl (of_decide_eq_true h)))).symm) fun h => Has.ret ?_) fun z hz => Has.ite (fun q => ?_) fun q => ?_
 ·have h : ¬ r.Lo < 0 := fun g => h (decide_eq_true g)
  simp [u, h]
 ·rw [none_ok]
  have q := of_decide_eq_true (by rw [← hz]; exact q)
  exact Has.ret (by unfold strengthZ; rw [if_pos q]; rfl)
 ·have q : ¬ (r.Unknown = true ∨ r.Lo < 0 ∨ 67108864 ≤ r.Hi) := fun g => q (by rw [hz]; exact decide_eq_true g)
  have l0 : 0 ≤ r.Lo := by omega
  have h1 : r.Hi < 67108864 := by omega
  refine Has.ite (fun g => Has.ret ?_) fun g => ?_
  ·have g : r.Hi < 65536 := of_decide_eq_true g
   unfold strengthZ; rw [if_neg q, if_pos g]; rfl
  ·have g : ¬ r.Hi < 65536 := fun x => g (decide_eq_true x)
   rw [mx2_max]
   have sz : strengthZ r = ⟨if r.Lo < 65536 then 0 else downS r.Hi, upS (max r.Lo 65536), false⟩ := by unfold strengthZ; rw [if_neg q, if_neg g]
   rw [sz]
   obtain ⟨h, eh⟩ : ∃ h, h = max r.Lo 65536 := ⟨_, rfl⟩
   rw [← eh]
   obtain ⟨a1, a2⟩ := sq_bd (x := r.Hi) (by omega) h1
   obtain ⟨b1, b2⟩ := sq_bd (x := h) (by omega) (by omega)
   rw [w6_in (n := r.Hi * r.Hi) (by omega), w6_in (n := h * h) (by omega)]
   have e : (9007199254740992 : Int) * 68719476736 = pullS := by decide
   obtain ⟨c1, c2⟩ := pull_div a1
   obtain ⟨d1, d2⟩ := pull_div b1
   refine (muldiv_ok 9007199254740992 68719476736 (r.Hi * r.Hi) (by unfold okI; omega) (by unfold okI; omega) ⟨by omega, by omega⟩).bind fun r9 h9 => ?_
   rw [e] at h9
   have h9 : r9 = (pullS / (r.Hi * r.Hi), 0) := by
    rcases h9 with ⟨_, x⟩ | ⟨x, _⟩
    ·exact x
    ·exact absurd (show okI (pullS / (r.Hi * r.Hi)) by unfold okI; omega) x
   refine (muldivup_ok 9007199254740992 68719476736 (h * h) (by unfold okI; omega) (by unfold okI; omega) ⟨by omega, by omega⟩).bind fun r10 ⟨x1, x2⟩ => ?_
   rw [e] at x1 x2
   have x3 := x1 (x2 ⟨by unfold okI; omega, by unfold okI; omega⟩)
   obtain ⟨u1, u2⟩ := cdiv_up (x := pullS) (d := h * h) (by omega)
   have e10 : r10.1 = cdiv pullS (h * h) := by
    rcases x3.1 with ⟨y1, y2⟩ | ⟨y1, y2⟩
    ·rw [y2, u1 y1]
    ·rw [y2, u2 y1]
   have cb := cdiv_bd (a := pullS) (b := h * h) (by decide) (by omega)
   rw [h9, e10]
   simp only []
   rw [floorN_ok ⟨c1, by omega⟩ (show 1 ≤ r.Hi by omega), ceilX_ok ⟨cb.1, by omega⟩ (show 1 ≤ h by omega)]
   simp only [Option.bind_some]
   refine Has.ite (fun q => Has.ret ?_) fun q => Has.ret ?_
   ·rw [if_pos (of_decide_eq_true q)]; rfl
   ·rw [if_neg (fun x => q (decide_eq_true x))]; rfl
theorem div_anti {a x y : Int} (ha : 0 ≤ a) (hx : 0 < x) (h : x ≤ y) : a / y ≤ a / x := by
 refine (Int.le_ediv_iff_mul_le hx).2 ?_
 have n := Int.ediv_nonneg ha (show 0 ≤ y by omega)
 have m := Int.mul_le_mul_of_nonneg_left h n
 have e := Int.ediv_mul_le a (show y ≠ 0 by omega)
 omega
theorem cdiv_anti {a x y : Int} (ha : 0 ≤ a) (hx : 0 < x) (h : x ≤ y) : cdiv a y ≤ cdiv a x := by
 refine (cdiv_le (by omega)).2 ?_
 have n := (cdiv_bd ha (show 1 ≤ x by omega)).1
 have m := Int.mul_le_mul_of_nonneg_left h n
 have e := (cdiv_le (x := a) (d := x) (g := cdiv a x) hx).1 (Int.le_refl _)
 omega
theorem downS_anti {x y : Int} (h0 : 65536 ≤ x) (h : x ≤ y) (h1 : y < 67108864) : downS y ≤ downS x := by
 have m := Int.mul_le_mul h h (by omega) (by omega)
 obtain ⟨a, _⟩ := sq_bd h0 (show x < 67108864 by omega)
 obtain ⟨b, _⟩ := sq_bd (show 65536 ≤ y by omega) h1
 have d := div_anti (a := pullS) (by decide) (show 0 < x * x by omega) m
 have d2 := div_anti (a := pullS / (y * y)) (pull_div b).1 (show 0 < x by omega) h
 have d3 := Int.ediv_le_ediv (show 0 < x by omega) d
 unfold downS; omega
theorem upS_anti {x y : Int} (h0 : 65536 ≤ x) (h : x ≤ y) (h1 : y < 67108864) : upS y ≤ upS x := by
 have m := Int.mul_le_mul h h (by omega) (by omega)
 obtain ⟨a, _⟩ := sq_bd h0 (show x < 67108864 by omega)
 obtain ⟨b, _⟩ := sq_bd (show 65536 ≤ y by omega) h1
 have d := cdiv_anti (a := pullS) (by decide) (show 0 < x * x by omega) m
 have n := (cdiv_bd (a := pullS) (b := y * y) (by decide) (by omega)).1
 have d2 := cdiv_anti n (show 0 < x by omega) h
 have d3 := cdiv_mono (d := x) (by omega) d
 unfold upS; omega
theorem downS_nonneg {x : Int} (h0 : 65536 ≤ x) (h1 : x < 67108864) : 0 ≤ downS x := by
 obtain ⟨a, _⟩ := sq_bd h0 h1
 exact Int.ediv_nonneg (pull_div a).1 (by omega)
theorem upS_nonneg {x : Int} (h0 : 65536 ≤ x) (h1 : x < 67108864) : 0 ≤ upS x := by
 obtain ⟨a, _⟩ := sq_bd h0 h1
 exact (cdiv_bd (cdiv_bd (a := pullS) (by decide) (show 1 ≤ x * x by omega)).1 (by omega)).1
theorem inZ_strength {r s : Bound} (or : r.ok) (os : s.ok) (h : inZ r s) : inZ (strengthZ r) (strengthZ s) := by
 have lr := or.le; have ls := os.le
 by_cases q : s.Unknown = true ∨ s.Lo < 0 ∨ 67108864 ≤ s.Hi
 ·exact .inl (by unfold strengthZ; rw [if_pos q]; rfl)
 ·obtain ⟨k, l, u⟩ := h.known (by cases e : s.Unknown with | true => exact absurd (.inl e) q | false => rfl)
  have qr : ¬ (r.Unknown = true ∨ r.Lo < 0 ∨ 67108864 ≤ r.Hi) := by rw [k]; rintro (x | x | x); cases x; omega; omega
  unfold strengthZ
  rw [if_neg q, if_neg qr]
  by_cases g : s.Hi < 65536
  ·rw [if_pos g, if_pos (by omega)]; exact inZ_refl _
  ·rw [if_neg g]
   by_cases gr : r.Hi < 65536
   ·rw [if_pos gr, if_pos (by omega)]
    exact .inr ⟨rfl, Int.le_refl _, upS_nonneg (by omega) (by omega)⟩
   ·rw [if_neg gr]
    refine .inr ⟨rfl, ?_, upS_anti (by omega) (by omega) (by omega)⟩
    simp only []
    have d := downS_anti (x := r.Hi) (y := s.Hi) (by omega) u (by omega)
    have n := downS_nonneg (x := r.Hi) (by omega) (by omega)
    split <;> split <;> omega
def hullN (w : Bound) : Bound := if w.Unknown = true then noneZ else ⟨min w.Lo (-w.Hi), max w.Hi (-w.Lo), false⟩
theorem hullN_eq {w : Bound} (h : w.ok) : bound_Hull w (negZ w) = some (hullN w) := by
 have a1 := h.lo; have a2 := h.le; have a3 := h.hi
 unfold bound_Hull hullN
 rw [vague_ok h (negZ_ok h), mn2_min, mx2_max]
 simp only [Option.bind_some]
 have e : (negZ w).Unknown = w.Unknown := rfl
 have e1 : (negZ w).Lo = -w.Hi := rfl
 have e2 : (negZ w).Hi = -w.Lo := rfl
 rw [e, e1, e2, Bool.or_self]
 by_cases u : w.Unknown = true
 ·rw [if_pos u, if_pos u, none_ok]; rfl
 ·rw [if_neg u, if_neg u, ofZ_eq, ofZ_known (by omega) (by omega) (by omega)]; rfl
theorem hullN_ok {w : Bound} (h : w.ok) : (hullN w).ok := by
 have a1 := h.lo; have a2 := h.le; have a3 := h.hi
 unfold hullN; split
 ·exact noneZ_ok
 ·exact okKnown (by omega) (by omega) (by omega)
theorem mul_pos_eq {w : Bound} {m : Int} (m0 : 0 ≤ m) (hu : w.Unknown = false) (le : w.Lo ≤ w.Hi) : mulZ w ⟨m, m, false⟩ 1 = ofZ (w.Lo * m) (w.Hi * m) := by
 have h := Int.mul_le_mul_of_nonneg_right le m0
 unfold mulZ lo4 hi4
 rw [if_neg (by simp [hu])]
 simp only [Int.ediv_one, cdiv_one]
 congr 1 <;> omega
theorem inZ_blur {v w : Bound} {m n : Int} (ov : v.ok) (ow : w.ok) (pv : posZ v) (h : inZ v w) (m1 : 0 ≤ m) (mn : m ≤ n) : inZ (hullN (mulZ v ⟨m, m, false⟩ 1)) (hullN (mulZ w ⟨n, n, false⟩ 1)) := by
 refine inZ.mk fun k => ?_
 have ku : (mulZ w ⟨n, n, false⟩ 1).Unknown = false := by
  cases e : (mulZ w ⟨n, n, false⟩ 1).Unknown with
  | true => unfold hullN at k; rw [if_pos e] at k; cases k
  | false => rfl
 have wu : w.Unknown = false := by
  cases e : w.Unknown with
  | true => unfold mulZ at ku; rw [if_pos (.inl (by rw [e]; rfl))] at ku; cases ku
  | false => rfl
 obtain ⟨vu, l, u⟩ := h.known wu
 have lv := ov.le; have lw := ow.le
 have v0 : 0 ≤ v.Lo := by
  rcases pv with e | e
  ·rw [vu] at e; cases e
  ·exact e
 rw [mul_pos_eq (by omega) wu lw] at ku ⊢
 obtain ⟨e1, _⟩ := ofZ_unk ku
 rw [mul_pos_eq m1 vu lv]
 have x1 : v.Hi * m ≤ w.Hi * n := Int.mul_le_mul u mn m1 (by omega)
 have x2 : 0 ≤ v.Lo * m := Int.mul_nonneg v0 m1
 have x3 : v.Lo * m ≤ v.Hi * m := Int.mul_le_mul_of_nonneg_right lv m1
 have hi := (ofZ_ok (w.Lo * n) (w.Hi * n)).hi
 have lo := (ofZ_ok (w.Lo * n) (w.Hi * n)).lo
 have le := (ofZ_ok (w.Lo * n) (w.Hi * n)).le
 rw [e1] at hi lo le ⊢
 simp only [] at hi lo le
 rw [ofZ_known (by omega) x3 (by omega)]
 unfold hullN
 simp only [Bool.false_eq_true, if_false]
 exact ⟨trivial, by omega, by omega⟩
def alongP (p : arc_plane) (far : Bound) : Place3 := (alongZ p.from_ p.ray far 0, alongZ p.from_ p.ray far 1, alongZ p.from_ p.ray far 2)
theorem alongP_ok (p : arc_plane) (far : Bound) : ok3 (alongP p far) := ⟨addZ_ok _ _, addZ_ok _ _, addZ_ok _ _⟩
def sumZ (p : arc_plane) (far L : Bound) : Bound := addZ (subZ p.turn (mulZ (mulZ far p.slope 1) ⟨2, 2, false⟩ 1)) (mulZ (strengthZ L) (addZ p.offset (mulZ far p.slope 1)) 68719476736)
def missZ (L : Bound) : Int := if L.Unknown = true ∨ L.Lo < 524288 then 98 else 2
theorem missZ_bd (L : Bound) : 2 ≤ missZ L ∧ missZ L ≤ 98 := by unfold missZ; split <;> omega
def wholeZ (p : arc_plane) (far L : Bound) : Bound := addZ (sumZ p far L) (hullN (mulZ p.blurred ⟨missZ L, missZ L, false⟩ 1))
theorem strengthZ_ok {r : Bound} (h : r.ok) : (strengthZ r).ok := by
 obtain ⟨S, e, oS, _⟩ := strength_ok h
 rw [strength_eq h] at e; cases e; exact oS
theorem blurX_ok {g w : Bound} {m : Int} (og : g.ok) (ow : w.ok) (m1 : 1 ≤ m) (m2 : m ≤ 1000) :
  Has (Option.bind (bound_Scale w m 1) fun r14 => Option.bind (bound_Neg r14) fun r15 => Option.bind (bound_Hull r14 r15) fun r16 => Option.bind (bound_Add g r16) fun r17 => Option.bind (bound_Has r17 0) fun r18 => some r18) fun b => b = true ↔ hasZ (addZ g (hullN (mulZ w ⟨m, m, false⟩ 1))) 0 := by
 rw [scaleZ_eq ow (by omega) m2]
 simp only [Option.bind_some]
 rw [negZ_eq (mulZ_ok _ _ _)]
 simp only [Option.bind_some]
 rw [hullN_eq (mulZ_ok _ _ _)]
 simp only [Option.bind_some]
 rw [addZ_eq og (hullN_ok (mulZ_ok _ _ _))]
 simp only [Option.bind_some]
 have oB := addZ_ok g (hullN (mulZ w ⟨m, m, false⟩ 1))
 generalize addZ g (hullN (mulZ w ⟨m, m, false⟩ 1)) = B at oB
 unfold bound_Has
 rw [vague_ok oB oB]
 simp only [Option.bind_some, Bool.or_self]
 by_cases u : B.Unknown = true
 ·rw [u]; exact Has.ret ⟨fun _ => .inl u, fun _ => rfl⟩
 ·have u : B.Unknown = false := by simpa using u
  rw [u]
  refine Has.bind (P := fun z => z = true ↔ hasZ B 0) (Has.bind (P := fun z => z = true ↔ hasZ B 0) (Has.neg (by decide) (Has.ite (fun h => Has.ret ?_) fun h => Has.ret ?_)) fun z hz => Has.ret hz) fun z hz => Has.ret hz
  ·have h := of_decide_eq_true h
   exact ⟨fun q => .inr ⟨h, of_decide_eq_true q⟩, fun q => by rcases q with e | q; rw [u] at e; cases e; exact decide_eq_true q.2⟩
  ·exact ⟨(fun q => nomatch q), fun q => by rcases q with e | q; rw [u] at e; cases e; exact absurd (decide_eq_true q.1) h⟩
theorem canX_ok {p : arc_plane} {far : Bound} (op : okPlane p) (of : far.ok) : Has (plane_can p far) fun b => ∃ L, isRoot (normZ (alongP p far)) 1 L ∧ (b = true ↔ hasZ (wholeZ p far L) 0) := by
 unfold plane_can
 rw [along_ok op.from_ op.ray of]
 simp only [Option.bind_some]
 have en : arc_Norm ((alongZ p.from_ p.ray far 0, alongZ p.from_ p.ray far 1, alongZ p.from_ p.ray far 2) : Place3) = some (normZ (alongP p far)) := norm_eq (alongP_ok p far)
 rw [en]
 simp only [Option.bind_some]
 refine (rootX_ok (normZ_ok _) (by decide) (by decide)).bind fun L hL => ?_
 have oL := hL.ok
 rw [mulZ_eq of op.slope (by decide)]
 simp only [Option.bind_some]
 rw [scaleZ_eq (mulZ_ok _ _ _) (by decide) (by decide)]
 simp only [Option.bind_some]
 rw [subZ_eq op.turn (mulZ_ok _ _ _)]
 simp only [Option.bind_some]
 rw [strength_eq oL]
 simp only [Option.bind_some]
 rw [addZ_eq op.offset (mulZ_ok _ _ _)]
 simp only [Option.bind_some]
 rw [mulZ_eq (strengthZ_ok oL) (addZ_ok _ _) (by decide)]
 simp only [Option.bind_some]
 rw [addZ_eq (subZ_ok _ _) (mulZ_ok _ _ _)]
 simp only [Option.bind_some]
 refine Has.bind (P := fun z => z = decide (L.Unknown = true ∨ L.Lo < 524288)) (Has.ite (fun h => Has.ret (decide_eq_true (.inl h)).symm) fun h => Has.ret ?_) fun z hz => Has.ite (fun q => ?_) fun q => ?_
 ·simp [h]
 ·have q : missZ L = 98 := by unfold missZ; rw [if_pos (of_decide_eq_true (by rw [← hz]; exact q))]
  refine (blurX_ok (m := 98) (addZ_ok _ _) op.blurred (by decide) (by decide)).mono fun b hb => ⟨L, hL, ?_⟩
  unfold wholeZ sumZ; rw [q]; exact hb
 ·have q : missZ L = 2 := by unfold missZ; rw [if_neg (fun g => q (by rw [hz]; exact decide_eq_true g))]
  refine (blurX_ok (m := 2) (addZ_ok _ _) op.blurred (by decide) (by decide)).mono fun b hb => ⟨L, hL, ?_⟩
  unfold wholeZ sumZ; rw [q]; exact hb
theorem can_mono {p q : arc_plane} {far : Bound} (op : okPlane p) (oq : okPlane q) (of : far.ok) (h : inP p q) {b c : Bool} (hb : plane_can p far = some b) (hc : plane_can q far = some c) (b1 : b = true) : c = true := by
 obtain ⟨b', e1, L, hL, x⟩ := canX_ok op of
 rw [hb] at e1; cases e1
 obtain ⟨c', e2, M, hM, y⟩ := canX_ok oq of
 rw [hc] at e2; cases e2
 have al : in3 (alongP p far) (alongP q far) := by
  have one : ∀ i : Int, 0 ≤ i → i < 3 → inZ (alongZ p.from_ p.ray far i) (alongZ q.from_ q.ray far i) := fun i i0 i1 => inZ_add (at3_ok op.from_ i0 i1) (mulZ_ok _ _ _) (h.from_.at i0 i1) (inZ_mul (at3_ok op.ray i0 i1) of (h.ray.at i0 i1) (inZ_refl _))
  exact ⟨one 0 (by decide) (by decide), one 1 (by decide) (by decide), one 2 (by decide) (by decide)⟩
 have hr := inZ_root (by decide) (normZ_ok _) hL hM (normZ_pos (alongP_ok p far)) (inZ_norm (alongP_ok p far) (alongP_ok q far) al)
 have hs := inZ_strength hL.ok hM.ok hr
 have ht : inZ (mulZ far p.slope 1) (mulZ far q.slope 1) := inZ_mul of op.slope (inZ_refl _) h.slope
 have two : Bound.ok ⟨2, 2, false⟩ := okKnown (by decide) (by decide) (by decide)
 have g : inZ (sumZ p far L) (sumZ q far M) := inZ_add (subZ_ok _ _) (mulZ_ok _ _ _) (inZ_sub op.turn (mulZ_ok _ _ _) h.turn (inZ_mul (mulZ_ok _ _ _) two ht (inZ_refl _))) (inZ_mul (strengthZ_ok hL.ok) (addZ_ok _ _) hs (inZ_add op.offset (mulZ_ok _ _ _) h.offset ht))
 have mm : missZ L ≤ missZ M := by
  unfold missZ
  by_cases u : M.Unknown = true ∨ M.Lo < 524288
  ·rw [if_pos u]; split <;> omega
  ·obtain ⟨k, l, _⟩ := hr.known (by cases e : M.Unknown with | true => exact absurd (.inl e) u | false => rfl)
   rw [if_neg u, if_neg (by rw [k]; rintro (x | x); cases x; omega)]
   omega
 have bl := inZ_blur op.blurred oq.blurred h.pos h.blurred (show 0 ≤ missZ L by have := missZ_bd L; omega) mm
 have w : inZ (wholeZ p far L) (wholeZ q far M) := inZ_add (addZ_ok _ _) (hullN_ok (mulZ_ok _ _ _)) g bl
 exact y.2 (w.has (x.1 b1))
end Lf
/- The intervals hold just the steps that are admitted. -/
namespace Lf
open Go Go.Abs
set_option linter.unusedVariables false
set_option linter.unusedSimpArgs false
def multL (l : List arc_Orbit) : Prop := ∀ i : Int, 0 ≤ i → i < (l.length : Int) → ∃ a b : Int, (gt l i).Near = a * 4096 ∧ (gt l i).Far = b * 4096
theorem leaf2_ok {l : List arc_Orbit} {m : Int} {ver : Nat} {s : Seen × Seen × Seen} (h : okOut l m) (hm : multL l) (m0 : 0 ≤ m) (m1 : m < 4096) : Has (arc_Solve_1 m l ver s) fun r => okOut r.2 (m + 1) ∧ cov r.2 (m * 4096) ((m + 1) * 4096) ∧ (∀ a b, cov l a b → cov r.2 a b) ∧ multL r.2 ∧ ∀ M : Int, cov r.2 (M * 4096) ((M + 1) * 4096) → M = m ∨ cov l (M * 4096) ((M + 1) * 4096) := by
 obtain ⟨r, er, r1, r2, r3⟩ := leaf_ok (ver := ver) (s := s) h m0 m1
 refine Has.eq er ⟨r1, r2, r3, ?_⟩
 have hl := h.len
 have x : Has (arc_Solve_1 m l ver s) fun r => multL r.2 ∧ ∀ M : Int, cov r.2 (M * 4096) ((M + 1) * 4096) → M = m ∨ cov l (M * 4096) ((M + 1) * 4096) := by
  unfold arc_Solve_1
  rw [w6_in (n := (l.length : Int) - 1) (by omega), w6_in (n := m * 4096) (by omega)]
  refine Has.bind (P := fun z => z = true → (1 ≤ (l.length : Int) ∧ (gt l ((l.length : Int) - 1)).Far = m * 4096)) (Has.ite (fun g => ?_) fun g => Has.ret fun q => nomatch q) fun z hz => Has.ite (fun g => ?_) fun g => ?_
  ·have g : (l.length : Int) - 1 ≥ 0 := of_decide_eq_true g
   exact Has.chk ⟨by omega, by omega⟩ (Has.ret fun q => ⟨by omega, by simpa using q⟩)
  ·obtain ⟨g1, g2⟩ := hz g
   refine Has.chk ⟨by omega, by omega⟩ (Has.letF (Has.ret ?_))
   rw [g2, w6_in (n := m * 4096 + 4096) (by omega)]
   obtain ⟨k, hk⟩ : ∃ k, k = (l.length : Int) - 1 := ⟨_, rfl⟩
   rw [← hk]
   rw [← hk] at g2
   have k0 : 0 ≤ k := by omega
   have k1 : k < (l.length : Int) := by omega
   have at_ : ∀ i : Int, 0 ≤ i → i < (l.length : Int) → gt (l.set k.toNat (arc_Orbit.mk (gt l k).Seen (gt l k).Near (m * 4096 + 4096))) i = if i = k then arc_Orbit.mk (gt l k).Seen (gt l k).Near (m * 4096 + 4096) else gt l i := fun i i0 i1 => by
    by_cases e : i = k
    ·subst e; rw [if_pos rfl]; exact gt_set_eq i0 i1
    ·rw [if_neg e]; exact gt_set_ne k0 i0 (fun q => e q.symm)
   have len : ((l.set k.toNat (arc_Orbit.mk (gt l k).Seen (gt l k).Near (m * 4096 + 4096))).length : Int) = (l.length : Int) := by rw [List.length_set]
   refine ⟨fun i i0 i1 => ?_, fun M ⟨i, i0, i1, a1, a2⟩ => ?_⟩
   ·rw [len] at i1; rw [at_ i i0 i1]
    split
    ·obtain ⟨a, b, ha, hb⟩ := hm k k0 k1
     exact ⟨a, m + 1, ha, by simp only []; omega⟩
    ·exact hm i i0 i1
   ·rw [len] at i1; rw [at_ i i0 i1] at a1 a2
    split at a1
    ·rename_i e
     rw [if_pos e] at a2
     simp only [] at a1 a2
     by_cases f : M = m
     ·exact .inl f
     ·exact .inr ⟨k, k0, k1, a1, by omega⟩
    ·rename_i e
     rw [if_neg e] at a2
     exact .inr ⟨i, i0, i1, a1, a2⟩
  ·refine Has.chk (roomyI (by simp; omega) (by simp; omega)) (Has.ret ?_)
   rw [w6_in (n := m + 1) (by omega), w6_in (n := (m + 1) * 4096) (by omega)]
   have len : ((l ++ [arc_Orbit.mk s (m * 4096) ((m + 1) * 4096)]).length : Int) = (l.length : Int) + 1 := by simp
   have at_ : ∀ i : Int, 0 ≤ i → i < (l.length : Int) + 1 → gt (l ++ [arc_Orbit.mk s (m * 4096) ((m + 1) * 4096)]) i = if i = (l.length : Int) then arc_Orbit.mk s (m * 4096) ((m + 1) * 4096) else gt l i := fun i i0 i1 => by
    by_cases e : i = (l.length : Int)
    ·rw [if_pos e]; exact gt_snoc_eq e
    ·rw [if_neg e]; exact gt_snoc_lt i0 (by omega)
   refine ⟨fun i i0 i1 => ?_, fun M ⟨i, i0, i1, a1, a2⟩ => ?_⟩
   ·simp only [] at i1 ⊢; rw [len] at i1; rw [at_ i i0 i1]
    split
    ·exact ⟨m, m + 1, rfl, rfl⟩
    ·exact hm i i0 (by omega)
   ·simp only [] at i1 a1 a2; rw [len] at i1; rw [at_ i i0 i1] at a1 a2
    split at a1
    ·rename_i e
     rw [if_pos e] at a2
     simp only [] at a1 a2
     exact .inl (by omega)
    ·rename_i e
     rw [if_neg e] at a2
     exact .inr ⟨i, i0, by omega, a1, a2⟩
 obtain ⟨q, eq, hq⟩ := x
 rw [er] at eq; cases eq
 exact hq
def adm (p : arc_plane) (M : Int) : Nat → Int → Int → Prop
 | 0, _, _ => False
 | f + 1, m, n => plane_can p ⟨m * 4096, n * 4096, false⟩ = some true ∧ (n = m + 1 ∨ (¬ n = m + 1 ∧ (M < (m + n) / 2 → adm p M f m ((m + n) / 2)) ∧ ((m + n) / 2 ≤ M → adm p M f ((m + n) / 2) n)))
theorem search2_ok {p : arc_plane} {s : Seen × Seen × Seen} (hcan : ∀ m n : Int, 0 ≤ m → m < n → n ≤ 4096 → Has (plane_can p ⟨m * 4096, n * 4096, false⟩) fun _ => True) :
  ∀ (fuel : Nat) (m n : Int) (l : List arc_Orbit) (ver : Nat), 0 ≤ m → m < n → n ≤ 4096 → n - m ≤ 2 ^ fuel → okOut l m → multL l → Has (plane_search_arc_Solve_1_2 (fuel + 1) p m n l ver s) fun r => okOut r.2.1 n ∧ r.2.2 = s ∧ multL r.2.1 ∧ (∀ M, m ≤ M → M < n → adm p M (fuel + 1) m n → cov r.2.1 (M * 4096) ((M + 1) * 4096)) ∧ (∀ a b, cov l a b → cov r.2.1 a b) ∧ ∀ M, cov r.2.1 (M * 4096) ((M + 1) * 4096) → (m ≤ M ∧ M < n ∧ adm p M (fuel + 1) m n) ∨ cov l (M * 4096) ((M + 1) * 4096) := by
 intro fuel
 induction fuel with
 | zero =>
  intro m n l ver m0 mn n1 hp hl hm
  have e : n = m + 1 := by simp at hp; omega
  subst e
  unfold plane_search_arc_Solve_1_2 arc_steps
  rw [w6_in (n := m * 4096) (by omega), w6_in (n := (m + 1) * 4096) (by omega), w6_in (n := m + 1) (by omega)]
  simp only [Option.bind_some]
  obtain ⟨b, eb, _⟩ := hcan m (m + 1) m0 mn n1
  rw [eb]
  simp only [Option.bind_some]
  refine Has.ite (fun g => Has.ret ⟨hl.more (by omega), rfl, hm, fun M _ _ q => ?_, fun _ _ q => q, fun M q => .inr q⟩) fun g => Has.pos (by simp) ?_
  ·have q := q.1; rw [eb] at q; cases q; cases g
  ·have gb : b = true := by simpa using g
   subst gb
   exact (leaf2_ok hl hm m0 (by omega)).bind fun r ⟨r1, r2, r3, r4, r5⟩ => Has.ret ⟨r1, rfl, r4, fun M x y _ => by rw [show M = m from by omega]; exact r2, r3, fun M q => by
    rcases r5 M q with e | q
    ·exact .inl ⟨by omega, by omega, eb, .inl rfl⟩
    ·exact .inr q⟩
 | succ fuel ih =>
  intro m n l ver m0 mn n1 hp hl hm
  unfold plane_search_arc_Solve_1_2 arc_steps
  rw [w6_in (n := m * 4096) (by omega), w6_in (n := n * 4096) (by omega), w6_in (n := m + 1) (by omega)]
  simp only [Option.bind_some]
  obtain ⟨b, eb, _⟩ := hcan m n m0 mn n1
  rw [eb]
  simp only [Option.bind_some]
  refine Has.ite (fun g => Has.ret ⟨hl.more (by omega), rfl, hm, fun M _ _ q => ?_, fun _ _ q => q, fun M q => .inr q⟩) fun g => Has.ite (fun e => ?_) fun e => ?_
  ·have q := q.1; rw [eb] at q; cases q; cases g
  ·have gb : b = true := by simpa using g
   subst gb
   have e : n = m + 1 := by simpa using e
   subst e
   exact (leaf2_ok hl hm m0 (by omega)).bind fun r ⟨r1, r2, r3, r4, r5⟩ => Has.ret ⟨r1, rfl, r4, fun M x y _ => by rw [show M = m from by omega]; exact r2, r3, fun M q => by
    rcases r5 M q with e | q
    ·exact .inl ⟨by omega, by omega, eb, .inl rfl⟩
    ·exact .inr q⟩
  ·have gb : b = true := by simpa using g
   subst gb
   have e : ¬ n = m + 1 := by simpa using e
   have hp2 : n - m ≤ 2 * 2 ^ fuel := by rw [Int.pow_succ] at hp; omega
   rw [w6_in (n := m + n) (by omega), Int.tdiv_eq_ediv_of_nonneg (by omega), w6_in (n := (m + n) / 2) (by omega)]
   refine (ih m ((m + n) / 2) l ver m0 (by omega) (by omega) (by omega) hl hm).bind fun r ⟨r1, r2, r3, r4, r5, r6⟩ => ?_
   rw [r2]
   refine (ih ((m + n) / 2) n r.2.1 r.1 (by omega) (by omega) n1 (by omega) r1 r3).bind fun q ⟨q1, q2, q3, q4, q5, q6⟩ => Has.ret ⟨q1, q2, q3, fun M x y a => ?_, fun a b h => q5 _ _ (r5 _ _ h), fun M h => ?_⟩
   ·rcases a.2 with a2 | ⟨_, a2, a3⟩
    ·exact absurd a2 e
    ·rcases Int.lt_or_le M ((m + n) / 2) with z | z
     ·exact q5 _ _ (r4 M x z (a2 z))
     ·exact q4 M z y (a3 z)
   ·rcases q6 M h with ⟨x, y, a⟩ | h
    ·exact .inl ⟨by omega, y, eb, .inr ⟨e, fun z => absurd z (by omega), fun _ => a⟩⟩
    ·rcases r6 M h with ⟨x, y, a⟩ | h
     ·exact .inl ⟨x, by omega, eb, .inr ⟨e, fun _ => a, fun z => absurd z (by omega)⟩⟩
     ·exact .inr h
theorem apart_far {l : List arc_Orbit} {m : Int} (h : okOut l m) : ∀ (k : Nat) (i : Int), 0 ≤ i → i + 1 + k < (l.length : Int) → (gt l i).Far < (gt l (i + 1 + k)).Near
 | 0, i, i0, i1 => by
  have := h.ap (i + 1) (by omega) (by omega)
  rw [show i + 1 - 1 = i from by omega] at this
  rw [show i + 1 + ((0 : Nat) : Int) = i + 1 from by omega]; exact this
 | k + 1, i, i0, i1 => by
  have a := apart_far h k i i0 (by omega)
  have b := h.nf (i + 1 + k) (by omega) (by omega)
  have c := h.ap (i + 1 + k + 1) (by omega) (by omega)
  rw [show i + 1 + (k : Int) + 1 - 1 = i + 1 + k from by omega] at c
  rw [show i + 1 + ((k + 1 : Nat) : Int) = i + 1 + k + 1 from by omega]; omega
theorem apart2 {l : List arc_Orbit} {m : Int} (h : okOut l m) {i j : Int} (i0 : 0 ≤ i) (ij : i < j) (j1 : j < (l.length : Int)) : (gt l i).Far < (gt l j).Near := by
 have := apart_far h (j - i - 1).toNat i i0 (by omega)
 rw [show i + 1 + ((j - i - 1).toNat : Int) = j from by omega] at this; exact this
theorem cov_run {l : List arc_Orbit} {m a : Int} (h : okOut l m) : ∀ (k : Nat), (∀ M : Int, a ≤ M → M ≤ a + k → cov l (M * 4096) ((M + 1) * 4096)) → cov l (a * 4096) ((a + k + 1) * 4096)
 | 0, hc => by have := hc a (Int.le_refl _) (by omega); rw [show a + ((0 : Nat) : Int) + 1 = a + 1 from by omega]; exact this
 | k + 1, hc => by
  obtain ⟨i, i0, i1, x1, x2⟩ := cov_run h k fun M x y => hc M x (by omega)
  obtain ⟨j, j0, j1, y1, y2⟩ := hc (a + k + 1) (by omega) (by omega)
  have e : i = j := by
   rcases Int.lt_trichotomy i j with z | z | z
   ·have := apart2 h i0 z j1; omega
   ·exact z
   ·have := apart2 h j0 z i1; omega
  subst e
  exact ⟨i, i0, i1, x1, by rw [show a + ((k + 1 : Nat) : Int) + 1 = a + k + 1 + 1 from by omega]; exact y2⟩
theorem adm_mono {p q : arc_plane} {M : Int} (h : ∀ m n : Int, 0 ≤ m → m < n → n ≤ 4096 → plane_can p ⟨m * 4096, n * 4096, false⟩ = some true → plane_can q ⟨m * 4096, n * 4096, false⟩ = some true) : ∀ (f : Nat) (m n : Int), 0 ≤ m → m < n → n ≤ 4096 → adm p M f m n → adm q M f m n
 | 0, _, _, _, _, _, a => a
 | f + 1, m, n, m0, mn, n1, ⟨a, b⟩ => ⟨h m n m0 mn n1 a, by
  rcases b with b | ⟨b, c, d⟩
  ·exact .inl b
  ·exact .inr ⟨b, fun x => adm_mono h f _ _ m0 (by omega) (by omega) (c x), fun x => adm_mono h f _ _ (by omega) (by omega) n1 (d x)⟩⟩
theorem solve2_ok {s : Seen × Seen × Seen} {p : arc_plane} (hA : arc_Check s = some 0) (hp : arc_begin s = some p) (op : okPlane p) : Has (arc_Solve s) fun r => r.2 = 0 ∧ okOut r.1 4096 ∧ multL r.1 ∧ (∀ M, 0 ≤ M → M < 4096 → adm p M 64 0 4096 → cov r.1 (M * 4096) ((M + 1) * 4096)) ∧ ∀ M, cov r.1 (M * 4096) ((M + 1) * 4096) → 0 ≤ M ∧ M < 4096 ∧ adm p M 64 0 4096 := by
 unfold arc_Solve
 rw [hA, hp]
 simp only [Option.bind_some, bne_self_eq_false, Bool.false_eq_true, if_false]
 have hcan : ∀ m n : Int, 0 ≤ m → m < n → n ≤ 4096 → Has (plane_can p ⟨m * 4096, n * 4096, false⟩) fun _ => True := fun m n m0 mn n1 => (canX_ok op (okKnown (by omega) (by omega) (by omega))).mono fun _ _ => trivial
 refine (search2_ok (s := s) hcan 63 0 4096 [] 0 (by decide) (by decide) (by decide) (by decide) ⟨by simp, fun i i0 i1 => absurd i1 (by simp; omega), fun i i0 i1 => absurd i1 (by simp; omega), fun i i0 i1 => absurd i1 (by simp; omega), fun i i0 i1 => absurd i1 (by simp; omega)⟩ (fun i i0 i1 => absurd i1 (by simp; omega))).bind fun r ⟨r1, _, r3, r4, _, r6⟩ => Has.ret ⟨rfl, r1, r3, r4, fun M h => ?_⟩
 rcases r6 M h with h | ⟨i, i0, i1, _⟩
 ·exact h
 ·exact absurd i1 (by simp; omega)
theorem intervals {x y : List arc_Orbit} {p q : arc_plane} (hx : okOut x 4096) (hy : okOut y 4096) (mx : multL x) (ax : ∀ M, cov x (M * 4096) ((M + 1) * 4096) → 0 ≤ M ∧ M < 4096 ∧ adm p M 64 0 4096) (ay : ∀ M, 0 ≤ M → M < 4096 → adm q M 64 0 4096 → cov y (M * 4096) ((M + 1) * 4096))
  (h : ∀ M, adm p M 64 0 4096 → adm q M 64 0 4096) {i : Int} (i0 : 0 ≤ i) (i1 : i < (x.length : Int)) : cov y (gt x i).Near (gt x i).Far := by
 obtain ⟨a, b, ha, hb⟩ := mx i i0 i1
 have lt := hx.nf i i0 i1
 rw [ha, hb]
 have c := cov_run (a := a) hy (b - a - 1).toNat fun M x1 x2 => by
  obtain ⟨m0, m1, m2⟩ := ax M ⟨i, i0, i1, by omega, by omega⟩
  exact ay M m0 m1 (h M m2)
 rw [show a + ((b - a - 1).toNat : Int) + 1 = b from by omega] at c; exact c
end Lf
/- Sightings that are drawn satisfy what arc.Check asks for. -/
namespace Lf
open Go Go.Abs
set_option linter.unusedVariables false
set_option linter.unusedSimpArgs false
theorem night.seen {x : Seen} {f a : Vec} {d most : Int} (h : night x f a d most) (hf : inV f) (ha : inV a) (d0 : -1000 ≤ d) (d1 : d ≤ 1000) (m0 : 0 ≤ most) (m1 : most ≤ 1000) (far : farB (subV a f) = true) : ∃ k, seenOK x (subV a f) k := by
 obtain ⟨⟨fx1, fx2⟩, ⟨fy1, fy2⟩, fz1, fz2⟩ := hf
 obtain ⟨⟨ax1, ax2⟩, ⟨ay1, ay2⟩, az1, az2⟩ := ha
 obtain ⟨k, k1, k8, hx, hy, hz⟩ := h.held
 have bd : ∀ c : Int, -8388608 ≤ c → c ≤ 8388608 → -67108864 ≤ k * c ∧ k * c ≤ 67108864 ∧ (40000 < c → 40000 < k * c) ∧ (c < -40000 → k * c < -40000) := fun c c0 c1 => by
  have : k = 1 ∨ k = 2 ∨ k = 3 ∨ k = 4 ∨ k = 5 ∨ k = 6 ∨ k = 7 ∨ k = 8 := by omega
  rcases this with rfl | rfl | rfl | rfl | rfl | rfl | rfl | rfl <;> omega
 have bx := bd (subV a f).X (by simp only [subV]; omega) (by simp only [subV]; omega)
 have bY := bd (subV a f).Y (by simp only [subV]; omega) (by simp only [subV]; omega)
 have bz := bd (subV a f).Z (by simp only [subV]; omega) (by simp only [subV]; omega)
 have one : ∀ (b : Bound) (c : Int), heldB b k c most → (-67108864 ≤ k * c ∧ k * c ≤ 67108864) → coordB b ∧ 0 ≤ aLo b ∧ ((40000 < k * c ∨ k * c < -40000) → 1 ≤ aLo b) := fun b c hb hc => by
  have l0 := hb.l0; have l1 := hb.l1; have h0 := hb.h0; have h1 := hb.h1
  obtain ⟨p, q⟩ := aLo_aHi (b := b) (by omega)
  refine ⟨⟨⟨(fun q => by rw [hb.u] at q; cases q), by omega, by omega, by omega⟩, hb.u, by omega, by omega⟩, p, fun g => ?_⟩
  unfold aLo; split <;> omega
 obtain ⟨cx, px, gx⟩ := one _ _ hx ⟨bx.1, bx.2.1⟩
 obtain ⟨cy, py, gy⟩ := one _ _ hy ⟨bY.1, bY.2.1⟩
 obtain ⟨cz, pz, gz⟩ := one _ _ hz ⟨bz.1, bz.2.1⟩
 have sq : ∀ z : Int, 0 ≤ z → 0 ≤ z * z ∧ (1 ≤ z → 1 ≤ z * z) := fun z z0 => ⟨Int.mul_nonneg z0 z0, fun z1 => by have := Int.mul_le_mul z1 z1 (by decide) z0; omega⟩
 have n : 1 ≤ nLo x.Box.X x.Box.Y x.Box.Z := by
  have sx := sq _ px; have sy := sq _ py; have sz := sq _ pz
  unfold nLo
  rcases farB_some far with g | g | g | g | g | g
  ·have := sx.2 (gx (.inl (bx.2.2.1 g))); omega
  ·have := sx.2 (gx (.inr (bx.2.2.2 g))); omega
  ·have := sy.2 (gy (.inl (bY.2.2.1 g))); omega
  ·have := sy.2 (gy (.inr (bY.2.2.2 g))); omega
  ·have := sz.2 (gz (.inl (bz.2.2.1 g))); omega
  ·have := sz.2 (gz (.inr (bz.2.2.2 g))); omega
 refine ⟨k, ⟨⟨cx, cy, cz, k1, ⟨hx.l1, hx.h0⟩, ⟨hy.l1, hy.h0⟩, ⟨hz.l1, hz.h0⟩, n⟩, ?_, ?_, ?_, ?_, ?_, ?_, ?_, h.flux⟩⟩
 ·rw [h.t]; exact okKnown (by omega) (Int.le_refl _) (by omega)
 ·rw [h.t]
 ·rw [h.t]; simp only []; omega
 ·rw [h.t]; simp only []; omega
 ·rw [h.t]
 ·rw [h.t]; exact Int.mul_tmod_left _ _
 ·rw [h.place]; exact ⟨⟨fx1, fx2⟩, ⟨fy1, fy2⟩, fz1, fz2⟩
theorem sqs_bd {v : Vec} {m : Int} (m0 : 0 ≤ m) (hx : -m ≤ v.X ∧ v.X ≤ m) (hy : -m ≤ v.Y ∧ v.Y ≤ m) (hz : -m ≤ v.Z ∧ v.Z ≤ m) : sqs v ≤ 3 * (m * m) := by
 have one : ∀ x : Int, -m ≤ x ∧ x ≤ m → x * x ≤ m * m := fun x ⟨h1, h2⟩ => by
  rcases Int.le_total 0 x with g | g
  ·exact Int.mul_le_mul h2 h2 g m0
  ·have := Int.mul_le_mul (show -x ≤ m by omega) (show -x ≤ m by omega) (by omega) m0
   have e : -x * -x = x * x := by grind
   omega
 have := one _ hx; have := one _ hy; have := one _ hz
 unfold sqs; omega
theorem sub_bd {a f : Vec} (hf : inV f) (ha : inV a) : 0 ≤ sqs (subV a f) ∧ sqs (subV a f) ≤ 211106232532992 := by
 obtain ⟨⟨fx1, fx2⟩, ⟨fy1, fy2⟩, fz1, fz2⟩ := hf
 obtain ⟨⟨ax1, ax2⟩, ⟨ay1, ay2⟩, az1, az2⟩ := ha
 refine ⟨sqs_nonneg _, ?_⟩
 have := sqs_bd (v := subV a f) (m := 8388608) (by decide) (by simp only [subV]; omega) (by simp only [subV]; omega) (by simp only [subV]; omega)
 omega
theorem addV_subV (a f : Vec) : addV f (subV a f) = a := by
 unfold addV subV
 obtain ⟨x, y, z⟩ := a
 simp only [Vec.mk.injEq]
 exact ⟨by omega, by omega, by omega⟩
theorem from_eq {a f : Vec} (hf : inV f) (ha : inV a) : spykeep4_from f a = some (subV a f) := by
 obtain ⟨⟨fx1, fx2⟩, ⟨fy1, fy2⟩, fz1, fz2⟩ := hf
 obtain ⟨⟨ax1, ax2⟩, ⟨ay1, ay2⟩, az1, az2⟩ := ha
 unfold spykeep4_from
 rw [w6_in (n := a.X - f.X) (by omega), w6_in (n := a.Y - f.Y) (by omega), w6_in (n := a.Z - f.Z) (by omega)]; rfl
theorem far_sqs {v : Vec} (h : farB v = true) : 1 ≤ sqs v := by
 have sq : ∀ x : Int, 0 ≤ x * x ∧ (40000 < x ∨ x < -40000 → 1 ≤ x * x) := fun x => by
  rcases Int.le_total 0 x with g | g
  ·exact ⟨Int.mul_nonneg g g, fun q => by have := Int.mul_le_mul (show 1 ≤ x by omega) (show 1 ≤ x by omega) (by decide) g; omega⟩
  ·have e : -x * -x = x * x := by grind
   refine ⟨Int.mul_nonneg_of_nonpos_of_nonpos g g, fun q => ?_⟩
   have := Int.mul_le_mul (show 1 ≤ -x by omega) (show 1 ≤ -x by omega) (by decide) (by omega); omega
 have sx := sq v.X; have sy := sq v.Y; have sz := sq v.Z
 unfold sqs
 rcases farB_some h with g | g | g | g | g | g
 ·have := sx.2 (.inl g); omega
 ·have := sx.2 (.inr g); omega
 ·have := sy.2 (.inl g); omega
 ·have := sy.2 (.inr g); omega
 ·have := sz.2 (.inl g); omega
 ·have := sz.2 (.inr g); omega
end Lf
/- ArcWider: wider boxes never exclude what narrower ones admit. -/
namespace Lf
open Go Go.Abs
set_option linter.unusedVariables false
set_option linter.unusedSimpArgs false
theorem rayedFact : spykeep4_rayed = some true := by kernel_rfl
def wideB (b : Bound) (k : Int) : Bound := ⟨b.Lo - k, b.Hi + k, b.Unknown⟩
def wideS (x : Seen) (k : Int) : Seen := Seen.mk x.At x.From (Box.mk (wideB x.Box.X k) (wideB x.Box.Y k) (wideB x.Box.Z k)) x.Flux
theorem night.wide {x : Seen} {f a : Vec} {d most k : Int} (h : night x f a d most) (k0 : 0 ≤ k) : night (wideS x k) f a d (most + k) := by
 obtain ⟨K, k1, k8, hx, hy, hz⟩ := h.held
 have one : ∀ (b : Bound) (c : Int), heldB b K c most → heldB (wideB b k) K c (most + k) := fun b c hb => ⟨hb.u, by have := hb.l0; simp only [wideB]; omega, by have := hb.l1; simp only [wideB]; omega, by have := hb.h0; simp only [wideB]; omega, by have := hb.h1; simp only [wideB]; omega⟩
 exact ⟨h.t, h.place, ⟨K, k1, k8, one _ _ hx, one _ _ hy, one _ _ hz⟩, h.flux⟩
theorem rays_ok {b c : Box} {v w : Vec} {k m : Int} (hb : sighted b v k) (hc : sighted c w m) (h : in3 (b.X, b.Y, b.Z) (c.X, c.Y, c.Z)) : ∃ a e, arc_Ray b = some (a, true) ∧ arc_Ray c = some (e, true) ∧ ok3 a ∧ ok3 e ∧ in3 a e := by
 have ob : ok3 (b.X, b.Y, b.Z) := ⟨hb.cx.ok, hb.cy.ok, hb.cz.ok⟩
 have oc : ok3 (c.X, c.Y, c.Z) := ⟨hc.cx.ok, hc.cy.ok, hc.cz.ok⟩
 obtain ⟨⟨a, fa⟩, ea, ta, oa, _⟩ := hb.ray
 obtain ⟨⟨e, fe⟩, ee, te, oe, _⟩ := hc.ray
 simp only [] at ta te oa oe
 subst ta; subst te
 obtain ⟨r, er, hr⟩ := rayX_ok ob
 have er : arc_Ray b = some r := er
 rw [ea] at er; cases er
 obtain ⟨L, hL, _, l1, e1, ov⟩ := hr rfl
 obtain ⟨q, eq, hq⟩ := rayX_ok oc
 have eq : arc_Ray c = some q := eq
 rw [ee] at eq; cases eq
 obtain ⟨M, hM, _, m1, e2, _⟩ := hq rfl
 simp only [] at e1 e2
 refine ⟨a, e, ea, ee, oa, oe, ?_⟩
 rw [e1, e2]
 refine ray_mono ob oc h hL hM m1 (ov ⟨k * v.X, k * v.Y, k * v.Z⟩ fun i i0 i1 => ?_)
 rcases three i0 i1 with rfl | rfl | rfl
 ·exact .inr hb.x
 ·exact .inr hb.y
 ·exact .inr hb.z
theorem in3_wide {x : Seen} {k : Int} (k0 : 0 ≤ k) (ux : x.Box.X.Unknown = false) (uy : x.Box.Y.Unknown = false) (uz : x.Box.Z.Unknown = false) : in3 (x.Box.X, x.Box.Y, x.Box.Z) ((wideS x k).Box.X, (wideS x k).Box.Y, (wideS x k).Box.Z) :=
 ⟨.inr ⟨ux, by simp only [wideS, wideB]; omega, by simp only [wideS, wideB]; omega⟩, .inr ⟨uy, by simp only [wideS, wideB]; omega, by simp only [wideS, wideB]; omega⟩, .inr ⟨uz, by simp only [wideS, wideB]; omega, by simp only [wideS, wideB]; omega⟩⟩
theorem contains_ok {l : List arc_Orbit} {o : arc_Orbit} (hl : (l.length : Int) ≤ 4096) (h : cov l o.Near o.Far) : slices_ContainsFunc_arc_Orbit_spykeep4_ArcWider_1 l o = some true := by
 obtain ⟨j, j0, j1, a, b⟩ := h
 apply Has.val
 unfold slices_ContainsFunc_arc_Orbit_spykeep4_ArcWider_1 slices_IndexFunc_arc_Orbit_spykeep4_ArcWider_1
 refine Has.bind (P := fun r => 0 ≤ r) ?_ fun r hr => Has.ret (decide_eq_true hr)
 refine Has.seq (P := fun t : Step Unit Int => ∃ v, t = .done v ∧ 0 ≤ v) ?_ (fun _ ⟨_, e, _⟩ => nomatch e) fun v ⟨_, e, g⟩ => by cases e; exact g
 refine Has.loop (fun i : Int => 0 ≤ i ∧ i ≤ j) (fun i => (4097 - i).toNat) _ ⟨Int.le_refl _, j0⟩ (by simp) fun i ⟨i0, i1⟩ => ?_
 unfold slices_IndexFunc_arc_Orbit_spykeep4_ArcWider_1.l1 spykeep4_ArcWider_1
 refine Has.pos (decide_eq_true (by omega)) (Has.chk ⟨i0, by omega⟩ ?_)
 refine Has.bind (P := fun z => i = j → z = true) (Has.bind (P := fun z => i = j → z = true) (Has.ite (fun _ => Has.ret fun e => ?_) fun q => Has.ret fun e => ?_) fun z hz => Has.ret hz) fun z hz => Has.ite (fun _ => Has.ret (.done ⟨i, rfl, i0⟩)) fun q => Has.ret (.next ?_ ?_)
 ·rw [e]; exact decide_eq_true b
 ·rw [e] at q; exact absurd (decide_eq_true a) q
 ·have : ¬ i = j := fun e => q (hz e)
  rw [w6_in (n := i + 1) (by omega)]; omega
 ·rw [w6_in (n := i + 1) (by omega)]; omega
theorem ArcWider_true (l : List Int) (most wide : Int) (hl : okL l) (hm : -9223372036854775808 ≤ most ∧ most ≤ 9223372036854775807) (hw : -9223372036854775808 ≤ wide ∧ wide ≤ 9223372036854775807) : spykeep4_ArcWider l most wide = some true := by
 apply Has.val
 have h0 := okS.start hl
 unfold spykeep4_ArcWider
 refine (below_ok most 200 hm (by omega)).bind fun r1 ⟨m0, m1⟩ => ?_
 refine (orbit_ok _ r1 h0 (by simp only []; omega) m0 (by omega)).bind fun r2 ⟨s2, F, day, orb⟩ => ?_
 rw [rayedFact]
 simp only [Option.bind_some, Bool.not_true, Bool.false_eq_true, if_false]
 refine Has.ite (fun _ => Has.ret rfl) fun ok => ?_
 have ok : r2.2.2.1 = true := by simpa using ok
 have fr := orb.far ok
 have D0 := orb.d0; have D1 := orb.d1
 have n0 := orb.seen 0 (by decide) (by decide)
 have n1 := orb.seen 1 (by decide) (by decide)
 have n2 := orb.seen 2 (by decide) (by decide)
 refine (below_ok wide 300 hw (by omega)).bind fun k0 ⟨a0, a1⟩ => (below_ok wide 300 hw (by omega)).bind fun k1 ⟨b0, b1⟩ => (below_ok wide 300 hw (by omega)).bind fun k2 ⟨c0, c1⟩ => ?_
 obtain ⟨_, s0⟩ := n0.seen orb.f0 orb.a0 (by omega) (by omega) m0 (by omega) (fr 0 (by decide) (by decide))
 obtain ⟨_, s1⟩ := n1.seen orb.f1 orb.a1 (by omega) (by omega) m0 (by omega) (fr 1 (by decide) (by decide))
 obtain ⟨_, s2'⟩ := n2.seen orb.f2 orb.a2 (by omega) (by omega) m0 (by omega) (fr 2 (by decide) (by decide))
 obtain ⟨_, w0⟩ := (n0.wide a0).seen orb.f0 orb.a0 (by omega) (by omega) (by omega) (by omega) (fr 0 (by decide) (by decide))
 obtain ⟨_, w1⟩ := (n1.wide b0).seen orb.f1 orb.a1 (by omega) (by omega) (by omega) (by omega) (fr 1 (by decide) (by decide))
 obtain ⟨_, w2⟩ := (n2.wide c0).seen orb.f2 orb.a2 (by omega) (by omega) (by omega) (by omega) (fr 2 (by decide) (by decide))
 have t0 : r2.1.1.At = ⟨(day + 0) * 86400000, (day + 0) * 86400000, false⟩ := n0.t
 have t1 : r2.1.2.1.At = ⟨(day + 1) * 86400000, (day + 1) * 86400000, false⟩ := n1.t
 have t2 : r2.1.2.2.At = ⟨(day + 2) * 86400000, (day + 2) * 86400000, false⟩ := n2.t
 have p0 : r2.1.1.From = F.1 := n0.place
 have p1 : r2.1.2.1.From = F.2.1 := n1.place
 have p2 : r2.1.2.2.From = F.2.2 := n2.place
 have hA : arc_Check r2.1 = some 0 := arcCheck_ok s0 s1 s2' (by rw [t0, t1]; simp only []; omega) (by rw [t1, t2]; simp only []; omega)
 have hB : arc_Check (wideS r2.1.1 k0, wideS r2.1.2.1 k1, wideS r2.1.2.2 k2) = some 0 := arcCheck_ok (s := (wideS r2.1.1 k0, wideS r2.1.2.1 k1, wideS r2.1.2.2 k2)) w0 w1 w2 (by simp only [wideS]; rw [t0, t1]; simp only []; omega) (by simp only [wideS]; rw [t1, t2]; simp only []; omega)
 have S0 : sighted r2.1.1.Box _ _ := s0.b
 have S1 : sighted r2.1.2.1.Box _ _ := s1.b
 have S2 : sighted r2.1.2.2.Box _ _ := s2'.b
 obtain ⟨a, a', ea, ea', oa, oa', ia⟩ := rays_ok S0 w0.b (in3_wide a0 S0.cx.u S0.cy.u S0.cz.u)
 obtain ⟨b, b', eb, eb', ob, ob', ib⟩ := rays_ok S1 w1.b (in3_wide b0 S1.cx.u S1.cy.u S1.cz.u)
 obtain ⟨c, c', ec, ec', oc, oc', ic⟩ := rays_ok S2 w2.b (in3_wide c0 S2.cx.u S2.cy.u S2.cz.u)
 have e1 := begin_eq (s := r2.1) ea eb ec oa ob oc (by rw [p0]; exact orb.f0) (by rw [p1]; exact orb.f1) (by rw [p2]; exact orb.f2)
 have e2 := begin_eq (s := (wideS r2.1.1 k0, wideS r2.1.2.1 k1, wideS r2.1.2.2 k2)) ea' eb' ec' oa' ob' oc' (by simp only [wideS]; rw [p0]; exact orb.f0) (by simp only [wideS]; rw [p1]; exact orb.f1) (by simp only [wideS]; rw [p2]; exact orb.f2)
 have oF : ok3 (exA r2.1.2.1.From) := exA_ok (by rw [p1]; exact orb.f1)
 have op1 := planeZ_ok (a := a) (c := c) (e0 := exA r2.1.1.From) (e2 := exA r2.1.2.2.From) ob oF
 have op2 := planeZ_ok (a := a') (c := c') (e0 := exA r2.1.1.From) (e2 := exA r2.1.2.2.From) ob' oF
 have pm := plane_mono (e0 := exA r2.1.1.From) (e2 := exA r2.1.2.2.From) oa ob oc oF ia ib ic
 have bx : ∀ (b : Bound) (k : Int), coordB b → 0 ≤ k → k < 300 → Bound.mk (w6 (b.Lo - k)) (w6 (b.Hi + k)) b.Unknown = wideB b k := fun b k cb x y => by
  have := cb.lo; have := cb.hi; have := cb.ok.le
  rw [w6_in (by omega), w6_in (by omega)]; rfl
 rw [bx _ _ S0.cx a0 a1, bx _ _ S0.cy a0 a1, bx _ _ S0.cz a0 a1, bx _ _ S1.cx b0 b1, bx _ _ S1.cy b0 b1, bx _ _ S1.cz b0 b1, bx _ _ S2.cx c0 c1, bx _ _ S2.cy c0 c1, bx _ _ S2.cz c0 c1]
 refine (solve2_ok hA e1 op1).bind fun x ⟨x0, x1, x2, _, x4⟩ => ?_
 have sb := solve2_ok hB e2 op2
 refine sb.bind fun y ⟨y0, y1, _, y3, _⟩ => ?_
 refine Has.bind (P := fun z => z = false) (Has.neg (by rw [x0]; decide) (Has.ret (by rw [y0]; rfl))) fun z hz => Has.neg (by rw [hz]; decide) ?_
 have hadm : ∀ M, adm (planeZ a b c (exA r2.1.1.From) (exA r2.1.2.1.From) (exA r2.1.2.2.From)) M 64 0 4096 → adm (planeZ a' b' c' (exA r2.1.1.From) (exA r2.1.2.1.From) (exA r2.1.2.2.From)) M 64 0 4096 := fun M => adm_mono (fun m n q0 q1 q2 hp => by
  have of : Bound.ok ⟨m * 4096, n * 4096, false⟩ := okKnown (by omega) (by omega) (by omega)
  obtain ⟨v, ev, _⟩ := canX_ok op2 of
  rw [ev]
  exact congrArg some (can_mono op1 op2 of pm hp ev rfl)) 64 0 4096 (by decide) (by decide) (by decide)
 have xl := x1.len
 refine Has.seq (P := fun t : Step Unit Bool => t = .next ()) ?_ (fun _ _ => Has.ret rfl) fun o ho => by cases ho
 refine Has.loop (fun i : Int => 0 ≤ i ∧ i ≤ (x.1.length : Int)) (fun i => ((x.1.length : Int) - i).toNat) _ ⟨Int.le_refl _, by omega⟩ (by omega) fun i ⟨i0, i1⟩ => ?_
 unfold spykeep4_ArcWider.l1
 refine Has.ite (fun hi => ?_) fun hi => Has.ret (.done rfl)
 have hi : i < (x.1.length : Int) := of_decide_eq_true hi
 refine Has.chk ⟨i0, hi⟩ ?_
 rw [contains_ok y1.len (intervals x1 y1 x2 x4 y3 hadm i0 hi), w6_in (n := i + 1) (by omega)]
 simp only [Option.bind_some]
 exact Has.neg (by decide) (Has.ret (.next ⟨by omega, by omega⟩ (by omega)))
end Lf
