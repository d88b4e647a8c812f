/- Laws of the plain functions. Conditions: as each theorem states them. -/
import Derived.Test.YtmcianinlcialaaY1
/- arc.plane.search, arc.Solve: the intervals, and that the distance is in one. -/
namespace Lf
open Go Go.Abs
set_option linter.unusedVariables false
set_option linter.unusedSimpArgs false
/-- Intervals before step m that do not touch. -/
structure okOut (l : List arc_Orbit) (m : Int) : Prop where
  len : (l.length : Int) ≤ m
  n0 : ∀ i : Int, 0 ≤ i → i < (l.length : Int) → 0 ≤ (gt l i).Near
  nf : ∀ i : Int, 0 ≤ i → i < (l.length : Int) → (gt l i).Near < (gt l i).Far
  fm : ∀ i : Int, 0 ≤ i → i < (l.length : Int) → (gt l i).Far ≤ m * 4096
  ap : ∀ i : Int, 1 ≤ i → i < (l.length : Int) → (gt l (i - 1)).Far < (gt l i).Near
def cov (l : List arc_Orbit) (a b : Int) : Prop := ∃ i : Int, 0 ≤ i ∧ i < (l.length : Int) ∧ (gt l i).Near ≤ a ∧ b ≤ (gt l i).Far
theorem okOut.more {l : List arc_Orbit} {m n : Int} (h : okOut l m) (g : m ≤ n) : okOut l n := ⟨by have := h.len; omega, h.n0, h.nf, fun i i0 i1 => by have := h.fm i i0 i1; omega, h.ap⟩
theorem leaf_ok {l : List arc_Orbit} {m : Int} {ver : Nat} {s : Seen × Seen × Seen} (h : okOut l m) (m0 : 0 ≤ m) (m1 : m < 4096) : Has (arc_Solve_1 m l ver s) fun r => okOut r.2 (m + 1) ∧ cov r.2 (m * 4096) ((m + 1) * 4096) ∧ ∀ a b, cov l a b → cov r.2 a b := by
  have hl := h.len
  unfold arc_Solve_1
  rw [w6_in (n := (l.length : Int) - 1) (by omega), w6_in (n := m * 4096) (by omega)]
  refine Has.bind (P := fun z => z = true ↔ (1 ≤ (l.length : Int) ∧ (gt l ((l.length : Int) - 1)).Far = m * 4096)) (Has.ite (fun g => ?_) fun g => Has.ret ?_) fun z hz => Has.ite (fun g => ?_) fun g => ?_
  · have g : (l.length : Int) - 1 ≥ 0 := of_decide_eq_true g
    refine Has.chk ⟨by omega, by omega⟩ (Has.ret ⟨fun q => ⟨by omega, by simpa using q⟩, fun q => by simpa using q.2⟩)
  · have g : ¬ (l.length : Int) - 1 ≥ 0 := fun q => g (decide_eq_true q)
    exact ⟨(fun q => nomatch q), fun q => absurd q.1 (by omega)⟩
  · obtain ⟨g1, g2⟩ := hz.1 g
    refine Has.chk ⟨by omega, by omega⟩ (Has.letF (Has.ret ?_))
    rw [g2, w6_in (n := m * 4096 + 4096) (by omega)]
    obtain ⟨k, hk⟩ : ∃ k, k = (l.length : Int) - 1 := ⟨_, rfl⟩
    rw [← hk]
    rw [← hk] at g2
    have k0 : 0 ≤ k := by omega
    have k1 : k < (l.length : Int) := by omega
    have at_ : ∀ i : Int, 0 ≤ i → i < (l.length : Int) → gt (l.set k.toNat (arc_Orbit.mk (gt l k).Seen (gt l k).Near (m * 4096 + 4096))) i = if i = k then arc_Orbit.mk (gt l k).Seen (gt l k).Near (m * 4096 + 4096) else gt l i := fun i i0 i1 => by
      by_cases e : i = k
      · subst e; rw [if_pos rfl]; exact gt_set_eq i0 i1
      · rw [if_neg e]; exact gt_set_ne k0 i0 (fun q => e q.symm)
    have len : ((l.set k.toNat (arc_Orbit.mk (gt l k).Seen (gt l k).Near (m * 4096 + 4096))).length : Int) = (l.length : Int) := by rw [List.length_set]
    refine ⟨⟨by rw [len]; omega, fun i i0 i1 => ?_, fun i i0 i1 => ?_, fun i i0 i1 => ?_, fun i i0 i1 => ?_⟩, ⟨k, k0, by rw [len]; exact k1, ?_, ?_⟩, fun a b ⟨i, i0, i1, ha, hb⟩ => ⟨i, i0, by rw [len]; exact i1, ?_, ?_⟩⟩
    · rw [len] at i1; rw [at_ i i0 i1]
      split
      · exact h.n0 k k0 k1
      · exact h.n0 i i0 i1
    · rw [len] at i1; rw [at_ i i0 i1]
      split
      · have := h.nf k k0 k1; simp only []; omega
      · exact h.nf i i0 i1
    · rw [len] at i1; rw [at_ i i0 i1]
      split
      · simp only []; omega
      · have := h.fm i i0 i1; omega
    · rw [len] at i1; rw [at_ i (by omega) i1, at_ (i - 1) (by omega) (by omega), if_neg (show ¬ i - 1 = k by omega)]
      have := h.ap i i0 i1
      split
      · rename_i e; rw [← e]; exact this
      · exact this
    · rw [at_ k k0 k1, if_pos rfl]; have := h.nf k k0 k1; simp only []; omega
    · rw [at_ k k0 k1, if_pos rfl]; simp only []; omega
    · rw [at_ i i0 i1]
      split
      · rename_i e; rw [← e]; exact ha
      · exact ha
    · rw [at_ i i0 i1]
      split
      · rename_i e; rw [e, g2] at hb; simp only []; omega
      · exact hb
  · refine Has.chk (roomyI (by simp; omega) (by simp; omega)) (Has.ret ?_)
    rw [w6_in (n := m + 1) (by omega), w6_in (n := (m + 1) * 4096) (by omega)]
    have far : ∀ i : Int, 0 ≤ i → i < (l.length : Int) → i = (l.length : Int) - 1 → (gt l i).Far < m * 4096 := fun i i0 i1 e => by
      have := h.fm i i0 i1
      rcases Int.lt_or_le (gt l i).Far (m * 4096) with q | q
      · exact q
      · exact absurd (hz.2 ⟨by omega, by rw [← e]; omega⟩) g
    have len : ((l ++ [arc_Orbit.mk s (m * 4096) ((m + 1) * 4096)]).length : Int) = (l.length : Int) + 1 := by simp
    have at_ : ∀ i : Int, 0 ≤ i → i < (l.length : Int) + 1 → gt (l ++ [arc_Orbit.mk s (m * 4096) ((m + 1) * 4096)]) i = if i = (l.length : Int) then arc_Orbit.mk s (m * 4096) ((m + 1) * 4096) else gt l i := fun i i0 i1 => by
      by_cases e : i = (l.length : Int)
      · rw [if_pos e]; exact gt_snoc_eq e
      · rw [if_neg e]; exact gt_snoc_lt i0 (by omega)
    refine ⟨⟨by simp only []; rw [len]; omega, fun i i0 i1 => ?_, fun i i0 i1 => ?_, fun i i0 i1 => ?_, fun i i0 i1 => ?_⟩, ⟨(l.length : Int), by omega, by simp only []; rw [len]; omega, ?_, ?_⟩, fun a b ⟨i, i0, i1, ha, hb⟩ => ⟨i, i0, by simp only []; rw [len]; omega, ?_, ?_⟩⟩
    · simp only [] at i1 ⊢; rw [len] at i1; rw [at_ i i0 i1]
      split
      · simp only []; omega
      · exact h.n0 i i0 (by omega)
    · simp only [] at i1 ⊢; rw [len] at i1; rw [at_ i i0 i1]
      split
      · simp only []; omega
      · exact h.nf i i0 (by omega)
    · simp only [] at i1 ⊢; rw [len] at i1; rw [at_ i i0 i1]
      split
      · simp only []; omega
      · have := h.fm i i0 (by omega); omega
    · simp only [] at i1 ⊢; rw [len] at i1; rw [at_ i (by omega) i1, at_ (i - 1) (by omega) (by omega), if_neg (show ¬ i - 1 = (l.length : Int) by omega)]
      split
      · have := far (i - 1) (by omega) (by omega) (by omega); simp only []; omega
      · exact h.ap i i0 (by omega)
    · simp only []; rw [at_ _ (by omega) (by omega), if_pos rfl]; simp only []; omega
    · simp only []; rw [at_ _ (by omega) (by omega), if_pos rfl]; simp only []; omega
    · simp only []; rw [at_ i i0 (by omega), if_neg (by omega)]; exact ha
    · simp only []; rw [at_ i i0 (by omega), if_neg (by omega)]; exact hb
theorem search_ok {p : arc_plane} {s : Seen × Seen × Seen} {M : Int} (hcan : ∀ m n : Int, 0 ≤ m → m < n → n ≤ 4096 → Has (plane_can p ⟨m * 4096, n * 4096, false⟩) fun b => m ≤ M → M < n → b = true) :
    ∀ (fuel : Nat) (m n : Int) (l : List arc_Orbit) (ver : Nat), 0 ≤ m → m < n → n ≤ 4096 → n - m ≤ 2 ^ fuel → okOut l m → Has (plane_search_arc_Solve_1_2 (fuel + 1) p m n l ver s) fun r => okOut r.2.1 n ∧ r.2.2 = s ∧ (m ≤ M → M < n → cov r.2.1 (M * 4096) ((M + 1) * 4096)) ∧ ∀ a b, cov l a b → cov r.2.1 a b := by
  intro fuel
  induction fuel with
  | zero =>
    intro m n l ver m0 mn n1 hp hl
    have e : n = m + 1 := by simp at hp; omega
    subst e
    unfold plane_search_arc_Solve_1_2 arc_steps
    rw [w6_in (n := m * 4096) (by omega), w6_in (n := (m + 1) * 4096) (by omega), w6_in (n := m + 1) (by omega)]
    simp only [Option.bind_some]
    refine (hcan m (m + 1) m0 mn n1).bind fun b hb => Has.ite (fun g => Has.ret ⟨hl.more (by omega), rfl, fun x y => ?_, fun _ _ q => q⟩) fun g => Has.pos (by simp) ?_
    · rw [hb x y] at g; cases g
    · exact (leaf_ok hl m0 (by omega)).bind fun r ⟨r1, r2, r3⟩ => Has.ret ⟨r1, rfl, fun x y => by rw [show M = m from by omega]; exact r2, r3⟩
  | succ fuel ih =>
    intro m n l ver m0 mn n1 hp hl
    unfold plane_search_arc_Solve_1_2 arc_steps
    rw [w6_in (n := m * 4096) (by omega), w6_in (n := n * 4096) (by omega), w6_in (n := m + 1) (by omega)]
    simp only [Option.bind_some]
    refine (hcan m n m0 mn n1).bind fun b hb => Has.ite (fun g => Has.ret ⟨hl.more (by omega), rfl, fun x y => ?_, fun _ _ q => q⟩) fun g => Has.ite (fun e => ?_) fun e => ?_
    · rw [hb x y] at g; cases g
    · have e : n = m + 1 := by simpa using e
      subst e
      exact (leaf_ok hl m0 (by omega)).bind fun r ⟨r1, r2, r3⟩ => Has.ret ⟨r1, rfl, fun x y => by rw [show M = m from by omega]; exact r2, r3⟩
    · have e : ¬ n = m + 1 := by simpa using e
      have hp2 : n - m ≤ 2 * 2 ^ fuel := by rw [Int.pow_succ] at hp; omega
      rw [w6_in (n := m + n) (by omega), Int.tdiv_eq_ediv_of_nonneg (by omega), w6_in (n := (m + n) / 2) (by omega)]
      refine (ih m ((m + n) / 2) l ver m0 (by omega) (by omega) (by omega) hl).bind fun r ⟨r1, r2, r3, r4⟩ => ?_
      rw [r2]
      refine (ih ((m + n) / 2) n r.2.1 r.1 (by omega) (by omega) n1 (by omega) r1).bind fun q ⟨q1, q2, q3, q4⟩ => Has.ret ⟨q1, q2, fun x y => ?_, fun a b h => q4 _ _ (r4 _ _ h)⟩
      rcases Int.lt_or_le M ((m + n) / 2) with z | z
      · exact q4 _ _ (r3 x z)
      · exact q3 z y
theorem solve_ok {s : Seen × Seen × Seen} {x y z g : Vec} {k0 k1 k2 M : Int} (hA : arc_Check s = some 0) (h0 : sighted s.1.Box x k0) (h1 : sighted s.2.1.Box y k1) (h2 : sighted s.2.2.Box z k2) (i0 : inV s.1.From) (i1 : inV s.2.1.From) (i2 : inV s.2.2.From)
    (hg : isG (addV s.2.1.From y) g) (eq : dotV (crossV x z) (secV s.1.From s.2.1.From s.2.2.From) - 2 * dotV (crossV x z) y = dotV (crossV x z) g)
    (M0 : 0 ≤ M) (M1 : M < 4096) (d1 : M * 4096 * (M * 4096) ≤ sqs y) (d2 : sqs y ≤ (M + 1) * 4096 * ((M + 1) * 4096)) : Has (arc_Solve s) fun r => r.2 = 0 ∧ okOut r.1 4096 ∧ cov r.1 (M * 4096) ((M + 1) * 4096) := by
  unfold arc_Solve
  rw [hA]
  simp only [Option.bind_some, bne_self_eq_false, Bool.false_eq_true, if_false]
  refine (begin_ok h0 h1 h2 i0 i1 i2).bind fun p ⟨op, A, Q, A1, Q1, ht, ho, hb, hw⟩ => ?_
  have hcan : ∀ m n : Int, 0 ≤ m → m < n → n ≤ 4096 → Has (plane_can p ⟨m * 4096, n * 4096, false⟩) fun b => m ≤ M → M < n → b = true := fun m n m0 mn n1 => by
    refine (can_ok op (okKnown (by omega) (by omega) (by omega))).mono fun b hc mM Mn => ?_
    have c1 : m * 4096 * (m * 4096) ≤ sqs y := by
      have := Int.mul_le_mul (show m * 4096 ≤ M * 4096 by omega) (show m * 4096 ≤ M * 4096 by omega) (by omega) (by omega); omega
    have c2 : sqs y ≤ n * 4096 * (n * 4096) := by
      have := Int.mul_le_mul (show (M + 1) * 4096 ≤ n * 4096 by omega) (show (M + 1) * 4096 ≤ n * 4096 by omega) (by omega) (by omega); omega
    obtain ⟨w1, w2⟩ := hw (m * 4096) (n * 4096) (by omega) c1 (by omega) c2
    exact hc A Q (crossV x z) g (addV s.2.1.From y) y (secV s.1.From s.2.1.From s.2.2.From) s.2.1.From A1 Q1 ht w1 ho hb w2 (by unfold dotV addV; grind) eq hg
  refine (search_ok (s := s) hcan 63 0 4096 [] 0 (by decide) (by decide) (by decide) (by decide) ⟨by simp, fun i i0 i1 => absurd i1 (by simp; omega), fun i i0 i1 => absurd i1 (by simp; omega), fun i i0 i1 => absurd i1 (by simp; omega), fun i i0 i1 => absurd i1 (by simp; omega)⟩).bind fun r ⟨r1, _, r3, _⟩ => Has.ret ⟨rfl, r1, r3 M0 M1⟩
end Lf
/- Sightings that are drawn satisfy what arc.Check asks for. -/
namespace Lf
open Go Go.Abs
set_option linter.unusedVariables false
set_option linter.unusedSimpArgs false
theorem night.seen {x : Seen} {f a : Vec} {d most : Int} (h : night x f a d most) (hf : inV f) (ha : inV a) (d0 : -1000 ≤ d) (d1 : d ≤ 1000) (m0 : 0 ≤ most) (m1 : most ≤ 1000) (far : farB (subV a f) = true) : ∃ k, seenOK x (subV a f) k := by
  obtain ⟨⟨fx1, fx2⟩, ⟨fy1, fy2⟩, fz1, fz2⟩ := hf
  obtain ⟨⟨ax1, ax2⟩, ⟨ay1, ay2⟩, az1, az2⟩ := ha
  obtain ⟨k, k1, k8, hx, hy, hz⟩ := h.held
  have bd : ∀ c : Int, -8388608 ≤ c → c ≤ 8388608 → -67108864 ≤ k * c ∧ k * c ≤ 67108864 ∧ (40000 < c → 40000 < k * c) ∧ (c < -40000 → k * c < -40000) := fun c c0 c1 => by
    have : k = 1 ∨ k = 2 ∨ k = 3 ∨ k = 4 ∨ k = 5 ∨ k = 6 ∨ k = 7 ∨ k = 8 := by omega
    rcases this with rfl | rfl | rfl | rfl | rfl | rfl | rfl | rfl <;> omega
  have bx := bd (subV a f).X (by simp only [subV]; omega) (by simp only [subV]; omega)
  have bY := bd (subV a f).Y (by simp only [subV]; omega) (by simp only [subV]; omega)
  have bz := bd (subV a f).Z (by simp only [subV]; omega) (by simp only [subV]; omega)
  have one : ∀ (b : Bound) (c : Int), heldB b k c most → (-67108864 ≤ k * c ∧ k * c ≤ 67108864) → coordB b ∧ 0 ≤ aLo b ∧ ((40000 < k * c ∨ k * c < -40000) → 1 ≤ aLo b) := fun b c hb hc => by
    have l0 := hb.l0; have l1 := hb.l1; have h0 := hb.h0; have h1 := hb.h1
    obtain ⟨p, q⟩ := aLo_aHi (b := b) (by omega)
    refine ⟨⟨⟨(fun q => by rw [hb.u] at q; cases q), by omega, by omega, by omega⟩, hb.u, by omega, by omega⟩, p, fun g => ?_⟩
    unfold aLo; split <;> omega
  obtain ⟨cx, px, gx⟩ := one _ _ hx ⟨bx.1, bx.2.1⟩
  obtain ⟨cy, py, gy⟩ := one _ _ hy ⟨bY.1, bY.2.1⟩
  obtain ⟨cz, pz, gz⟩ := one _ _ hz ⟨bz.1, bz.2.1⟩
  have sq : ∀ z : Int, 0 ≤ z → 0 ≤ z * z ∧ (1 ≤ z → 1 ≤ z * z) := fun z z0 => ⟨Int.mul_nonneg z0 z0, fun z1 => by have := Int.mul_le_mul z1 z1 (by decide) z0; omega⟩
  have n : 1 ≤ nLo x.Box.X x.Box.Y x.Box.Z := by
    have sx := sq _ px; have sy := sq _ py; have sz := sq _ pz
    unfold nLo
    rcases farB_some far with g | g | g | g | g | g
    · have := sx.2 (gx (.inl (bx.2.2.1 g))); omega
    · have := sx.2 (gx (.inr (bx.2.2.2 g))); omega
    · have := sy.2 (gy (.inl (bY.2.2.1 g))); omega
    · have := sy.2 (gy (.inr (bY.2.2.2 g))); omega
    · have := sz.2 (gz (.inl (bz.2.2.1 g))); omega
    · have := sz.2 (gz (.inr (bz.2.2.2 g))); omega
  refine ⟨k, ⟨⟨cx, cy, cz, k1, ⟨hx.l1, hx.h0⟩, ⟨hy.l1, hy.h0⟩, ⟨hz.l1, hz.h0⟩, n⟩, ?_, ?_, ?_, ?_, ?_, ?_, ?_, h.flux⟩⟩
  · rw [h.t]; exact okKnown (by omega) (Int.le_refl _) (by omega)
  · rw [h.t]
  · rw [h.t]; simp only []; omega
  · rw [h.t]; simp only []; omega
  · rw [h.t]
  · rw [h.t]; exact Int.mul_tmod_left _ _
  · rw [h.place]; exact ⟨⟨fx1, fx2⟩, ⟨fy1, fy2⟩, fz1, fz2⟩
theorem sqs_bd {v : Vec} {m : Int} (m0 : 0 ≤ m) (hx : -m ≤ v.X ∧ v.X ≤ m) (hy : -m ≤ v.Y ∧ v.Y ≤ m) (hz : -m ≤ v.Z ∧ v.Z ≤ m) : sqs v ≤ 3 * (m * m) := by
  have one : ∀ x : Int, -m ≤ x ∧ x ≤ m → x * x ≤ m * m := fun x ⟨h1, h2⟩ => by
    rcases Int.le_total 0 x with g | g
    · exact Int.mul_le_mul h2 h2 g m0
    · have := Int.mul_le_mul (show -x ≤ m by omega) (show -x ≤ m by omega) (by omega) m0
      have e : -x * -x = x * x := by grind
      omega
  have := one _ hx; have := one _ hy; have := one _ hz
  unfold sqs; omega
theorem sub_bd {a f : Vec} (hf : inV f) (ha : inV a) : 0 ≤ sqs (subV a f) ∧ sqs (subV a f) ≤ 211106232532992 := by
  obtain ⟨⟨fx1, fx2⟩, ⟨fy1, fy2⟩, fz1, fz2⟩ := hf
  obtain ⟨⟨ax1, ax2⟩, ⟨ay1, ay2⟩, az1, az2⟩ := ha
  refine ⟨sqs_nonneg _, ?_⟩
  have := sqs_bd (v := subV a f) (m := 8388608) (by decide) (by simp only [subV]; omega) (by simp only [subV]; omega) (by simp only [subV]; omega)
  omega
theorem addV_subV (a f : Vec) : addV f (subV a f) = a := by
  unfold addV subV
  obtain ⟨x, y, z⟩ := a
  simp only [Vec.mk.injEq]
  exact ⟨by omega, by omega, by omega⟩
theorem from_eq {a f : Vec} (hf : inV f) (ha : inV a) : spykeep4_from f a = some (subV a f) := by
  obtain ⟨⟨fx1, fx2⟩, ⟨fy1, fy2⟩, fz1, fz2⟩ := hf
  obtain ⟨⟨ax1, ax2⟩, ⟨ay1, ay2⟩, az1, az2⟩ := ha
  unfold spykeep4_from
  rw [w6_in (n := a.X - f.X) (by omega), w6_in (n := a.Y - f.Y) (by omega), w6_in (n := a.Z - f.Z) (by omega)]; rfl
theorem square_eq {v : Vec} (hx : -8388608 ≤ v.X ∧ v.X ≤ 8388608) (hy : -8388608 ≤ v.Y ∧ v.Y ≤ 8388608) (hz : -8388608 ≤ v.Z ∧ v.Z ≤ 8388608) : spykeep4_square v = some (sqs v) := by
  have one : ∀ x : Int, -8388608 ≤ x ∧ x ≤ 8388608 → 0 ≤ x * x ∧ x * x ≤ 70368744177664 := fun x ⟨h1, h2⟩ => by
    rcases Int.le_total 0 x with g | g
    · have := Int.mul_le_mul h2 h2 g (by decide); exact ⟨Int.mul_nonneg g g, by omega⟩
    · have := Int.mul_le_mul (show -x ≤ 8388608 by omega) (show -x ≤ 8388608 by omega) (by omega) (by decide)
      have e : -x * -x = x * x := by grind
      have := Int.mul_nonneg (show 0 ≤ -x by omega) (show 0 ≤ -x by omega)
      omega
  have := one _ hx; have := one _ hy; have := one _ hz
  unfold spykeep4_square
  rw [w6_in (n := v.X * v.X) (by omega), w6_in (n := v.Y * v.Y) (by omega), w6_in (n := v.Z * v.Z) (by omega), w6_in (n := v.X * v.X + v.Y * v.Y) (by omega), w6_in (n := v.X * v.X + v.Y * v.Y + v.Z * v.Z) (by omega)]; rfl
theorem squareD_eq {a f : Vec} (hf : inV f) (ha : inV a) : spykeep4_square (subV a f) = some (sqs (subV a f)) := by
  obtain ⟨⟨fx1, fx2⟩, ⟨fy1, fy2⟩, fz1, fz2⟩ := hf
  obtain ⟨⟨ax1, ax2⟩, ⟨ay1, ay2⟩, az1, az2⟩ := ha
  exact square_eq (by simp only [subV]; omega) (by simp only [subV]; omega) (by simp only [subV]; omega)
theorem far_sqs {v : Vec} (h : farB v = true) : 1 ≤ sqs v := by
  have sq : ∀ x : Int, 0 ≤ x * x ∧ (40000 < x ∨ x < -40000 → 1 ≤ x * x) := fun x => by
    rcases Int.le_total 0 x with g | g
    · exact ⟨Int.mul_nonneg g g, fun q => by have := Int.mul_le_mul (show 1 ≤ x by omega) (show 1 ≤ x by omega) (by decide) g; omega⟩
    · have e : -x * -x = x * x := by grind
      refine ⟨Int.mul_nonneg_of_nonpos_of_nonpos g g, fun q => ?_⟩
      have := Int.mul_le_mul (show 1 ≤ -x by omega) (show 1 ≤ -x by omega) (by decide) (by omega); omega
  have sx := sq v.X; have sy := sq v.Y; have sz := sq v.Z
  unfold sqs
  rcases farB_some h with g | g | g | g | g | g
  · have := sx.2 (.inl g); omega
  · have := sx.2 (.inr g); omega
  · have := sy.2 (.inl g); omega
  · have := sy.2 (.inr g); omega
  · have := sz.2 (.inl g); omega
  · have := sz.2 (.inr g); omega
end Lf
/- ArcTrue: the distance of a body that moves by sky.Step lies in one of the intervals, which do not touch. -/
namespace Lf
open Go Go.Abs
set_option linter.unusedVariables false
set_option linter.unusedSimpArgs false
theorem rayedFact : spykeep4_rayed = some true := by kernel_rfl
theorem sqrt_ex {n : Int} (h0 : 0 ≤ n) (h1 : n ≤ 9223372036854775807) : ∃ r, isRt n r := by
  obtain ⟨r, _, h⟩ := sqrt_ok n ⟨h0, h1⟩
  exact ⟨r, h⟩
theorem ArcTrue_true (l : List Int) (most : Int) (hl : okL l) (hm : -9223372036854775808 ≤ most ∧ most ≤ 9223372036854775807) : spykeep4_ArcTrue l most = some true := by
  apply Has.val
  have h0 := okS.start hl
  unfold spykeep4_ArcTrue
  refine (below_ok most 200 hm (by omega)).bind fun r1 ⟨m0, m1⟩ => ?_
  refine (orbit_ok _ r1 h0 (by simp only []; omega) m0 (by omega)).bind fun r2 ⟨s2, F, day, orb⟩ => ?_
  rw [rayedFact]
  simp only [Option.bind_some, Bool.not_true, Bool.false_eq_true, if_false]
  refine Has.ite (fun _ => Has.ret rfl) fun ok => ?_
  have ok : r2.2.2.1 = true := by simpa using ok
  obtain ⟨g, hg, en⟩ := orb.next ok
  have fr := orb.far ok
  have D0 := orb.d0; have D1 := orb.d1
  have n0 := orb.seen 0 (by decide) (by decide)
  have n1 := orb.seen 1 (by decide) (by decide)
  have n2 := orb.seen 2 (by decide) (by decide)
  obtain ⟨k0, s0⟩ := n0.seen orb.f0 orb.a0 (by omega) (by omega) m0 (by omega) (fr 0 (by decide) (by decide))
  obtain ⟨k1, s1⟩ := n1.seen orb.f1 orb.a1 (by omega) (by omega) m0 (by omega) (fr 1 (by decide) (by decide))
  obtain ⟨k2, s2'⟩ := n2.seen orb.f2 orb.a2 (by omega) (by omega) m0 (by omega) (fr 2 (by decide) (by decide))
  have t0 : r2.1.1.At = ⟨(day + 0) * 86400000, (day + 0) * 86400000, false⟩ := n0.t
  have t1 : r2.1.2.1.At = ⟨(day + 1) * 86400000, (day + 1) * 86400000, false⟩ := n1.t
  have t2 : r2.1.2.2.At = ⟨(day + 2) * 86400000, (day + 2) * 86400000, false⟩ := n2.t
  have p0 : r2.1.1.From = F.1 := n0.place
  have p1 : r2.1.2.1.From = F.2.1 := n1.place
  have p2 : r2.1.2.2.From = F.2.2 := n2.place
  have hA : arc_Check r2.1 = some 0 := arcCheck_ok s0 s1 s2' (by rw [t0, t1]; simp only []; omega) (by rw [t1, t2]; simp only []; omega)
  obtain ⟨b0, b1⟩ := sub_bd orb.f1 orb.a1
  obtain ⟨d, hd⟩ := sqrt_ex b0 (by omega)
  have d0 := hd.r0
  have dlo := hd.lo
  have dhi := hd.hi
  have dm : d < 16777216 := sq_lt d0 (by decide) (by omega)
  obtain ⟨M, hM⟩ : ∃ M, M = d / 4096 := ⟨_, rfl⟩
  have M0 : 0 ≤ M := by omega
  have M1 : M < 4096 := by omega
  have q1 : M * 4096 * (M * 4096) ≤ sqs (subV r2.2.1.2.1 F.2.1) := by
    have := Int.mul_le_mul (show M * 4096 ≤ d by omega) (show M * 4096 ≤ d by omega) (by omega) (by omega); omega
  have q2 : sqs (subV r2.2.1.2.1 F.2.1) ≤ (M + 1) * 4096 * ((M + 1) * 4096) := by
    have := Int.mul_le_mul (show d + 1 ≤ (M + 1) * 4096 by omega) (show d + 1 ≤ (M + 1) * 4096 by omega) (by omega) (by omega); omega
  have eqn : dotV (crossV (subV r2.2.1.1 F.1) (subV r2.2.1.2.2 F.2.2)) (secV F.1 F.2.1 F.2.2) - 2 * dotV (crossV (subV r2.2.1.1 F.1) (subV r2.2.1.2.2 F.2.2)) (subV r2.2.1.2.1 F.2.1) = dotV (crossV (subV r2.2.1.1 F.1) (subV r2.2.1.2.2 F.2.2)) g := by
    rw [en]
    unfold dotV crossV secV subV nextV
    simp only []
    grind
  have sol := solve_ok (s := r2.1) (g := g) (x := subV r2.2.1.1 F.1) (y := subV r2.2.1.2.1 F.2.1) (z := subV r2.2.1.2.2 F.2.2) hA s0.b s1.b s2'.b (by rw [p0]; exact orb.f0) (by rw [p1]; exact orb.f1) (by rw [p2]; exact orb.f2) (by rw [p1, addV_subV]; exact hg) (by rw [p0, p1, p2]; exact eqn) M0 M1 q1 q2
  refine sol.bind fun r8 ⟨e8, out, j, j0, j1, c1, c2⟩ => Has.neg (by rw [e8]; decide) ?_
  rw [p1, from_eq orb.f1 orb.a1]
  simp only [Option.bind_some]
  rw [squareD_eq orb.f1 orb.a1]
  simp only [Option.bind_some]
  have ll := out.len
  refine Has.seq (P := fun t : Step Bool Bool => t = .next true) ?_ (fun z hz => by cases hz; exact Has.ret rfl) fun o ho => by cases ho
  refine Has.loop (fun s : Bool × Int => 0 ≤ s.2 ∧ s.2 ≤ (r8.1.length : Int) ∧ (j < s.2 → s.1 = true)) (fun s => ((r8.1.length : Int) - s.2).toNat) _ ⟨Int.le_refl _, by simp only []; omega, fun q => absurd q (by simp only []; omega)⟩ (by simp only []; omega) fun s ⟨i0, i1, hf⟩ => ?_
  unfold spykeep4_ArcTrue.l1
  refine Has.ite (fun hi => Has.chk ⟨i0, of_decide_eq_true hi⟩ ?_) fun hi => Has.ret (.done ?_)
  · have hi : s.2 < (r8.1.length : Int) := of_decide_eq_true hi
    have a1 := out.n0 s.2 i0 hi; have a2 := out.nf s.2 i0 hi; have a3 := out.fm s.2 i0 hi
    refine Has.bind (P := fun z => z = false) (Has.neg (fun q => by have := of_decide_eq_true q; omega) (Has.neg (fun q => by have := of_decide_eq_true q; omega) (Has.neg (fun q => by have := of_decide_eq_true q; omega) (Has.ite (fun q => ?_) fun _ => Has.ret rfl)))) fun z hz => Has.neg (by rw [hz]; decide) ?_
    · have q : s.2 > 0 := of_decide_eq_true q
      rw [w6_in (n := s.2 - 1) (by omega)]
      have := out.ap s.2 (by omega) hi
      exact Has.chk ⟨by omega, by omega⟩ (Has.letF (Has.ret (decide_eq_false (by omega))))
    · rw [w6_in (n := s.2 + 1) (by omega)]
      have sqN : 0 ≤ (gt r8.1 s.2).Near * (gt r8.1 s.2).Near ∧ (gt r8.1 s.2).Near * (gt r8.1 s.2).Near ≤ 16777216 * 16777216 := ⟨Int.mul_nonneg a1 a1, Int.mul_le_mul (by omega) (by omega) a1 (by decide)⟩
      have sqF : 0 ≤ (gt r8.1 s.2).Far * (gt r8.1 s.2).Far ∧ (gt r8.1 s.2).Far * (gt r8.1 s.2).Far ≤ 16777216 * 16777216 := ⟨Int.mul_nonneg (by omega) (by omega), Int.mul_le_mul (by omega) (by omega) (by omega) (by decide)⟩
      rw [w6_in (n := (gt r8.1 s.2).Near * (gt r8.1 s.2).Near) (by omega), w6_in (n := (gt r8.1 s.2).Far * (gt r8.1 s.2).Far) (by omega)]
      have good : s.2 = j → (gt r8.1 s.2).Near * (gt r8.1 s.2).Near ≤ sqs (subV r2.2.1.2.1 F.2.1) ∧ sqs (subV r2.2.1.2.1 F.2.1) ≤ (gt r8.1 s.2).Far * (gt r8.1 s.2).Far := fun e => by
        rw [← e] at c1 c2
        have x1 := Int.mul_le_mul c1 c1 a1 (by omega)
        have x2 := Int.mul_le_mul c2 c2 (by omega) (by omega)
        exact ⟨by omega, by omega⟩
      refine Has.ite (fun q => Has.ret (.next ⟨by simp only []; omega, by simp only []; omega, fun _ => rfl⟩ (by simp only []; omega))) fun q => Has.letF (Has.ite (fun g1 => Has.letF (Has.ret (.next ⟨by simp only []; omega, by simp only []; omega, fun hj => ?_⟩ (by simp only []; omega)))) fun g1 => Has.ret (.next ⟨by simp only []; omega, by simp only []; omega, fun hj => ?_⟩ (by simp only []; omega)))
      · simp only [] at hj
        by_cases e : s.2 = j
        · exact decide_eq_true (good e).2
        · exact absurd (hf (by omega)) q
      · simp only [] at hj
        by_cases e : s.2 = j
        · exact absurd (decide_eq_true (good e).1) g1
        · exact absurd (hf (by omega)) q
  · have hi : ¬ s.2 < (r8.1.length : Int) := fun q => hi (decide_eq_true q)
    rw [hf (by omega)]
end Lf
