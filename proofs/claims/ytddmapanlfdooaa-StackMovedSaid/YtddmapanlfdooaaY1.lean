/- Laws of the plain functions. Conditions: as each theorem states them. -/
import Derived.Test.YtddmapanlfdooaaY0
/- StackMoved: two shifts in one direction are one; a shift back leaves what was not lost; sliding by nothing changes nothing, and sliding contains the mean of the light. -/
namespace Lf
open Go Go.Abs
set_option linter.unusedVariables false
set_option linter.unusedSimpArgs false
theorem piledFact : spykeep4_piled = some true := by kernel_rfl
theorem place_xy {w x y : Int} (x0 : 0 ≤ x) (x1 : x < w) : (y * w + x) % w = x ∧ (y * w + x) / w = y := by
  obtain ⟨a, b⟩ := (Int.ediv_emod_unique (show 0 < w by omega) (a := y * w + x) (q := y) (r := x)).2 ⟨by rw [Int.mul_comm]; omega, x0, x1⟩
  exact ⟨b, a⟩
theorem moved_at {a c : Cells} {w h dx dy : Int} (ha : fld w h a) (fa : isF a w h fun i => atF c (i % w - dx) (i / w - dy)) (x y : Int) : atF a x y = if x < 0 ∨ x ≥ w ∨ y < 0 ∨ y ≥ h then ⟨0, 0, true⟩ else atF c (x - dx) (y - dy) := by
  by_cases ho : x < 0 ∨ x ≥ w ∨ y < 0 ∨ y ≥ h
  · unfold atF; rw [ha.ew, ha.eh, if_pos ho, if_pos ho]
  · rw [if_neg ho]
    have hin := atIn ha (x := x) (y := y) (by rw [ha.ew, ha.eh]; exact ho)
    have e : atF a x y = gt a.At (y * a.W + x) := by unfold atF; rw [if_neg (by rw [ha.ew, ha.eh]; exact ho)]
    rw [e, fa.at_ _ hin.1 hin.2, ha.ew]
    obtain ⟨e1, e2⟩ := place_xy (w := w) (x := x) (y := y) (by omega) (by omega)
    simp only [e1, e2]
theorem atF_self {c : Cells} {w h i : Int} (z : size w h) (hc : fld w h c) (i0 : 0 ≤ i) (i1 : i < w * h) : atF c (i % w) (i / w) = gt c.At i := by
  have z1 := z.w0
  have m0 := Int.emod_nonneg i (b := w) (by omega)
  have m1 := Int.emod_lt_of_pos i (b := w) (by omega)
  have q0 := Int.ediv_nonneg i0 (show 0 ≤ w by omega)
  have q1 : i / w < h := by rw [Int.ediv_lt_iff_lt_mul (by omega), Int.mul_comm]; exact i1
  unfold atF
  rw [hc.ew, hc.eh, if_neg (by omega)]
  congr 1
  rw [Int.mul_comm]
  exact Int.mul_ediv_add_emod i w
theorem slF_zero {c : Cells} {w h i : Int} (z : size w h) (hc : fld w h c) (i0 : 0 ≤ i) (i1 : i < w * h) : slF c 0 0 i = gt c.At i := by
  have e := atF_self z hc i0 i1
  have hb := (hc.f.cell _ (gt_mem c.At i ⟨i0, by rw [hc.f.len, hc.ew, hc.eh]; exact i1⟩)).1
  have p0 : partOf c 0 0 i 0 = if (gt c.At i).Unknown = true then none else some ((gt c.At i).Lo * 65536, (gt c.At i).Hi * 65536) := by
    unfold partOf
    have : gt (ws 0 0) 0 = 65536 := rfl
    rw [this, hc.ew]
    simp only [Int.sub_zero, show (0 : Int) % 2 = 0 from rfl, show (0 : Int) / 2 = 0 from rfl, e]
    rw [if_neg (by omega)]
  have p1 : partOf c 0 0 i 1 = some (0, 0) := by unfold partOf; rw [if_pos (by decide)]
  have p2 : partOf c 0 0 i 2 = some (0, 0) := by unfold partOf; rw [if_pos (by decide)]
  have p3 : partOf c 0 0 i 3 = some (0, 0) := by unfold partOf; rw [if_pos (by decide)]
  have ea : accS c 0 0 i 4 = if (gt c.At i).Unknown = true then none else some ((gt c.At i).Lo * 65536, (gt c.At i).Hi * 65536) := by
    have : accS c 0 0 i 4 = plus2 (plus2 (plus2 (plus2 (some (0, 0)) (partOf c 0 0 i 0)) (partOf c 0 0 i 1)) (partOf c 0 0 i 2)) (partOf c 0 0 i 3) := rfl
    rw [this, p0, p1, p2, p3]
    split
    · rfl
    · simp [plus2]
  unfold slF
  rw [ea]
  cases hu : (gt c.At i).Unknown with
  | true =>
    obtain ⟨a, b⟩ := hb.u hu
    simp only [if_true]
    cases hg : gt c.At i
    rw [hg] at a b hu
    simp only [] at a b hu
    rw [a, b, hu]
  | false =>
    simp only [Bool.false_eq_true, if_false]
    have e1 : (gt c.At i).Lo * 65536 / 65536 = (gt c.At i).Lo := by omega
    have e2 : cdiv ((gt c.At i).Hi * 65536) 65536 = (gt c.At i).Hi := by unfold cdiv; omega
    rw [e1, e2]
    cases hg : gt c.At i
    rw [hg] at hu
    simp only [] at hu ⊢
    rw [hu]
theorem StackMoved_true (l : List Int) (dx dy ux uy : Int) (hl : okL l) (hdx : -9223372036854775808 ≤ dx ∧ dx ≤ 9223372036854775807) (hdy : -9223372036854775808 ≤ dy ∧ dy ≤ 9223372036854775807) (hux : -9223372036854775808 ≤ ux ∧ ux ≤ 9223372036854775807) (huy : -9223372036854775808 ≤ uy ∧ uy ≤ 9223372036854775807) : spykeep4_StackMoved l dx dy ux uy = some true := by
  apply Has.val
  have h0 := okS.start hl
  unfold spykeep4_StackMoved
  refine (range_ok _ 1 7 h0 (by simp only []; omega) (by omega) (by omega) (by omega)).bind fun r1 ⟨w0, w1, s1⟩ => ?_
  have o1 := s1.ok h0 (by simp only []; omega); have b1 := s1.hi
  simp only [] at b1
  refine (range_ok _ 1 7 o1 (by omega) (by omega) (by omega) (by omega)).bind fun r2 ⟨g0, g1, s2⟩ => ?_
  have o2 := s2.ok o1 (by omega); have b2 := s2.hi
  refine (lights_ok _ r1.1 r2.1 2 o2 (by omega) w0 (by omega) g0 (by omega) (by omega) (by omega)).bind fun r3 ⟨v1, v2, v3, s3⟩ => ?_
  have o3 := s3.ok o2 (by omega); have b3 := s3.hi
  have z : size r1.1 r2.1 := ⟨w0, by omega, g0, by omega⟩
  have zn := z.n
  have vl := v1.len
  have vb : ∀ z ∈ r3.1, 0 ≤ z ∧ z ≤ 100000 := fun z hz => by have := v1.v z hz; omega
  refine (veil_ok _ r1.1 r2.1 r3.1 true o3 (by omega) (by omega) (fun z hz => by have := vb z hz; omega)).bind fun r4 ⟨a1, a2, a3, a4, s4⟩ => ?_
  have a4 : allI r4.1.At fun i b => veils (gt r3.1 i) b := allI_mono a4 fun i x _ _ h => h.1
  have fc := veil_fld z a1 a2 a3 vl vb a4
  refine (below_ok dx 15 hdx (by omega)).bind fun p ⟨p0, p1⟩ => (below_ok dy 15 hdy (by omega)).bind fun q ⟨q0, q1⟩ => ?_
  rw [w6_in (n := p - 7) (by omega), w6_in (n := q - 7) (by omega), w6_in (n := 2 * (p - 7)) (by omega), w6_in (n := 2 * (q - 7)) (by omega), w6_in (n := 0 - (p - 7)) (by omega), w6_in (n := 0 - (q - 7)) (by omega), w6_in (n := r1.1 * r2.1) (by omega)]
  generalize hX : p - 7 = X at *
  generalize hY : q - 7 = Y at *
  refine (move_ok (dx := X) (dy := Y) z fc (by omega) (by omega)).bind fun r7 ⟨e7, f7, i7⟩ => ?_
  refine (move_ok (dx := X) (dy := Y) z f7 (by omega) (by omega)).bind fun r8 ⟨e8, f8, i8⟩ => ?_
  refine (move_ok (dx := 2 * X) (dy := 2 * Y) z fc (by omega) (by omega)).bind fun r9 ⟨e9, f9, i9⟩ => ?_
  refine (move_ok (dx := 0 - X) (dy := 0 - Y) z f7 (by omega) (by omega)).bind fun r10 ⟨e10, f10, i10⟩ => ?_
  refine (below_ok ux 256 hux (by omega)).bind fun r11 ⟨x0, x1⟩ => (below_ok uy 256 huy (by omega)).bind fun r12 ⟨y0, y1⟩ => ?_
  refine (slide_ok z fc (x := 0) (y := 0) (by omega) (by omega)).bind fun r13 ⟨e13, i13⟩ => (slide_ok z fc (x := r11) (y := r12) ⟨x0, x1⟩ ⟨y0, y1⟩).bind fun r14 ⟨e14, i14⟩ => ?_
  have xy : ∀ i : Int, 0 ≤ i → i < r1.1 * r2.1 → 0 ≤ i % r1.1 ∧ i % r1.1 < r1.1 ∧ 0 ≤ i / r1.1 ∧ i / r1.1 < r2.1 := fun i i0 i1 =>
    ⟨Int.emod_nonneg i (by omega), Int.emod_lt_of_pos i (by omega), Int.ediv_nonneg i0 (by omega), by rw [Int.ediv_lt_iff_lt_mul (by omega), Int.mul_comm]; exact i1⟩
  have eq1 : r8.1 = r9.1 := i8.eq i9 fun i i0 i1 => by
    obtain ⟨m0, m1, n0, n1⟩ := xy i i0 i1
    rw [moved_at f7 i7]
    by_cases ho : i % r1.1 - X < 0 ∨ i % r1.1 - X ≥ r1.1 ∨ i / r1.1 - Y < 0 ∨ i / r1.1 - Y ≥ r2.1
    · rw [if_pos ho]
      unfold atF
      rw [fc.ew, fc.eh, if_pos (by omega)]
    · rw [if_neg ho]
      congr 1 <;> omega
  have eq2 : r13.1 = r4.1 := i13.eq (g := fun i => gt r4.1.At i) ⟨fc.ew, fc.eh, by rw [a3]; exact vl, fun i _ _ => rfl⟩ fun i i0 i1 => slF_zero z fc i0 i1
  have l4 : (r4.1.At.length : Int) = r1.1 * r2.1 := by rw [a3]; exact vl
  have l9 := i9.len; have l10 := i10.len; have l14 := i14.len
  rw [piledFact, e7, e8, e9, e10, e13, e14, eq1, eq2, same_ok r9.1 (by omega), same_ok r4.1 (by omega), l10, l14]
  simp only [Option.bind_some, Bool.not_true, Bool.false_eq_true, if_false, bne_self_eq_false]
  refine Has.seq (P := fun t : Step Unit Bool => t = .next ()) ?_ (fun _ _ => Has.seq (P := fun t : Step Unit Bool => t = .next ()) ?_ (fun _ _ => Has.ret rfl) (fun o ho => by cases ho)) (fun o ho => by cases ho)
  · refine Has.loop (fun i : Int => 0 ≤ i ∧ i ≤ r1.1 * r2.1) (fun i => (r1.1 * r2.1 - i).toNat) (fun t : Step Unit Bool => t = .next ()) ⟨Int.le_refl _, by omega⟩ (by omega) fun i ⟨i0, i1⟩ => ?_
    unfold spykeep4_StackMoved.l1
    rw [l10, l4]
    refine Has.ite (fun hi => ?_) fun hi => Has.ret (.done rfl)
    have hi : i < r1.1 * r2.1 := of_decide_eq_true hi
    obtain ⟨m0, m1, n0, n1⟩ := xy i i0 hi
    rw [Int.tmod_eq_emod_of_nonneg i0, Int.tdiv_eq_ediv_of_nonneg i0, hX, hY, w6_in (n := X) (by omega), w6_in (n := Y) (by omega), w6_in (n := i / r1.1) (by omega), w6_in (n := i % r1.1 + X) (by omega), w6_in (n := i / r1.1 + Y) (by omega), w6_in (n := i + 1) (by omega)]
    have eb : gt r10.1.At i = if i % r1.1 + X < 0 ∨ i % r1.1 + X ≥ r1.1 ∨ i / r1.1 + Y < 0 ∨ i / r1.1 + Y ≥ r2.1 then ⟨0, 0, true⟩ else gt r4.1.At i := by
      rw [i10.at_ i i0 (by omega), moved_at f7 i7, ← atF_self z fc i0 hi]
      have t1 : i % r1.1 - (0 - X) = i % r1.1 + X := by omega
      have t2 : i / r1.1 - (0 - Y) = i / r1.1 + Y := by omega
      rw [t1, t2]
      congr 2 <;> omega
    refine Has.chk ⟨i0, hi⟩ (Has.chk (by omega) (Has.bind (P := fun z => z = decide (i % r1.1 + X < 0 ∨ i % r1.1 + X ≥ r1.1 ∨ i / r1.1 + Y < 0 ∨ i / r1.1 + Y ≥ r2.1)) ?_ fun z hz => ?_))
    · simp only [Abs.letF, ite_or]
      refine Has.ret ?_
      simp only [Bool.decide_or]
    · subst hz
      refine Has.bind (P := fun z => z = false) ?_ fun z hz => Has.neg (by rw [hz]; simp) (Has.ret (.next ⟨by omega, by omega⟩ (by omega)))
      rw [eb]
      by_cases ho : i % r1.1 + X < 0 ∨ i % r1.1 + X ≥ r1.1 ∨ i / r1.1 + Y < 0 ∨ i / r1.1 + Y ≥ r2.1
      · rw [if_pos ho, decide_eq_true ho]
        exact Has.pos rfl (Has.neg (by simp) (Has.neg (by simp) (Has.ret rfl)))
      · rw [if_neg ho, decide_eq_false ho]
        exact Has.neg (by simp) (Has.pos rfl (Has.chk ⟨i0, hi⟩ (Has.ret (by simp))))
  · refine Has.loop (fun i : Int => 0 ≤ i ∧ i ≤ r1.1 * r2.1) (fun i => (r1.1 * r2.1 - i).toNat) (fun t : Step Unit Bool => t = .next ()) ⟨Int.le_refl _, by omega⟩ (by omega) fun i ⟨i0, i1⟩ => ?_
    unfold spykeep4_StackMoved.l2
    rw [l14]
    refine Has.ite (fun hi => ?_) fun hi => Has.ret (.done rfl)
    have hi : i < r1.1 * r2.1 := of_decide_eq_true hi
    obtain ⟨m0, m1, n0, n1⟩ := xy i i0 hi
    have es : gt r14.1.At i = slF r4.1 r11 r12 i := i14.at_ i i0 (by omega)
    rw [es, w6_in (n := i + 1) (by omega)]
    refine Has.seq (P := fun t : Step Unit (Step Int (Step Unit Bool)) => t = .next ()) (Has.chk ⟨i0, hi⟩ (Has.ite (fun hu => Has.ret rfl) fun hu => ?_)) (fun _ _ => Has.ret (.next ⟨by omega, by omega⟩ (by omega))) (fun o ho => by cases ho)
    cases hacc : accS r4.1 r11 r12 i 4 with
    | none => exact absurd (by unfold slF; rw [hacc]) hu
    | some lh =>
      have esl : slF r4.1 r11 r12 i = ⟨lh.1 / 65536, cdiv lh.2 65536, false⟩ := by unfold slF; rw [hacc]
      rw [esl]
      obtain ⟨k1, k2, k3, k4⟩ := ws_bd (x := r11) (y := r12) ⟨x0, x1⟩ ⟨y0, y1⟩
      have hab := accS_bd fc ⟨x0, x1⟩ ⟨y0, y1⟩ 4 (Nat.le_refl _) (l := lh.1) (u := lh.2) hacc
      refine Has.seq (P := fun t : Step Int (Step Unit (Step Int (Step Unit Bool))) => ∃ S, t = .next S ∧ lh.1 ≤ S ∧ S ≤ lh.2) ?_ (fun S ⟨S', e, c1, c2⟩ => ?_) (fun o ⟨S', e, _⟩ => by cases e)
      · refine Has.loop (fun s : Int × Int => 0 ≤ s.2 ∧ s.2 ≤ 4 ∧ ∃ q, accS r4.1 r11 r12 i s.2.toNat = some q ∧ q.1 ≤ s.1 ∧ s.1 ≤ q.2) (fun s => (4 - s.2).toNat) (fun t : Step Int (Step Unit (Step Int (Step Unit Bool))) => ∃ S, t = .next S ∧ lh.1 ≤ S ∧ S ≤ lh.2) ⟨Int.le_refl _, by simp only []; omega, (0, 0), rfl, Int.le_refl _, Int.le_refl _⟩ (by simp only []; omega) fun s ⟨s1, s2, q', t1, t2, t3⟩ => ?_
        unfold spykeep4_StackMoved.l3
        rw [w6_in (n := 256 - r11) (by omega), w6_in (n := 256 - r12) (by omega), w6_in (n := (256 - r11) * (256 - r12)) (by omega), w6_in (n := r11 * (256 - r12)) (by omega), w6_in (n := (256 - r11) * r12) (by omega), w6_in (n := r11 * r12) (by omega), show ([(256 - r11) * (256 - r12), r11 * (256 - r12), (256 - r11) * r12, r11 * r12] : List Int) = ws r11 r12 from rfl]
        refine Has.ite (fun hj => ?_) fun hj => ?_
        · have hj : s.2 < 4 := of_decide_eq_true hj
          have hw := ws_at (x := r11) (y := r12) ⟨x0, x1⟩ ⟨y0, y1⟩ s1 hj
          cases hn : accS r4.1 r11 r12 i (s.2.toNat + 1) with
          | none => rw [accS_none hn (by omega)] at hacc; cases hacc
          | some q2 =>
            have esucc : accS r4.1 r11 r12 i (s.2.toNat + 1) = plus2 (accS r4.1 r11 r12 i s.2.toNat) (partOf r4.1 r11 r12 i s.2) := by
              rw [accS]; congr 2; omega
            rw [t1, hn] at esucc
            cases hp : partOf r4.1 r11 r12 i s.2 with
            | none => rw [hp, plus2_none] at esucc; cases esucc
            | some e =>
              rw [hp] at esucc
              have eq' : q2 = (q'.1 + e.1, q'.2 + e.2) := Option.some.inj esucc
              have ab := accS_bd fc ⟨x0, x1⟩ ⟨y0, y1⟩ s.2.toNat (by omega) (l := q'.1) (u := q'.2) t1
              have pb := part_bd fc ⟨x0, x1⟩ ⟨y0, y1⟩ s1 hj hp
              have j0 := Int.emod_nonneg s.2 (b := 2) (by omega)
              have j1 := Int.emod_lt_of_pos s.2 (b := 2) (by omega)
              have j2 := Int.ediv_nonneg s1 (show (0 : Int) ≤ 2 by omega)
              have j3 := Int.ediv_le_self r1.1 i0
              rw [Int.tmod_eq_emod_of_nonneg s1, Int.tdiv_eq_ediv_of_nonneg s1, Int.tmod_eq_emod_of_nonneg i0, Int.tdiv_eq_ediv_of_nonneg i0, w6_in (n := s.2 / 2) (by omega), w6_in (n := i / r1.1) (by omega), w6_in (n := i % r1.1 - s.2 % 2) (by omega), w6_in (n := i / r1.1 - s.2 / 2) (by omega), w6_in (n := s.2 + 1) (by omega)]
              refine Has.seq (P := fun t : Step Int (Step (Int × Int) (Step Int (Step Unit (Step Int (Step Unit Bool))))) => ∃ S, t = .next S ∧ q'.1 + e.1 ≤ S ∧ S ≤ q'.2 + e.2) (Has.chk ⟨s1, hj⟩ (Has.chk (by omega) ?_)) (fun S ⟨S', e1, e2, e3⟩ => ?_) (fun o ⟨S', e1, _⟩ => by cases e1)
              · by_cases hz : gt (ws r11 r12) s.2 ≤ 0
                · have e0 : e = (0, 0) := by unfold partOf at hp; rw [if_pos hz] at hp; exact (Option.some.inj hp).symm
                  have dz : decide (gt (ws r11 r12) s.2 > 0) = false := decide_eq_false (by omega)
                  rw [dz, e0]
                  refine Has.bind (P := fun z => z = false) (Has.letF (Has.neg (by simp) (Has.ret rfl))) fun z hz => Has.neg (by rw [hz]; simp) (Has.letF (Has.neg (by simp) (Has.ret ⟨s.1, rfl, by simp only []; omega, by simp only []; omega⟩)))
                · have dz : decide (gt (ws r11 r12) s.2 > 0) = true := decide_eq_true (by omega)
                  unfold partOf at hp
                  rw [if_neg hz, fc.ew] at hp
                  split at hp
                  · cases hp
                  · rename_i hu2
                    have hin : ¬ (i % r1.1 - s.2 % 2 < 0 ∨ i % r1.1 - s.2 % 2 ≥ r1.1 ∨ i / r1.1 - s.2 / 2 < 0 ∨ i / r1.1 - s.2 / 2 ≥ r2.1) := fun ho => hu2 (by unfold atF; rw [fc.ew, fc.eh, if_pos ho])
                    have eat : atF r4.1 (i % r1.1 - s.2 % 2) (i / r1.1 - s.2 / 2) = gt r4.1.At ((i / r1.1 - s.2 / 2) * r1.1 + (i % r1.1 - s.2 % 2)) := by unfold atF; rw [fc.ew, fc.eh, if_neg hin]
                    have hidx := atIn fc (x := i % r1.1 - s.2 % 2) (y := i / r1.1 - s.2 / 2) (by rw [fc.ew, fc.eh]; exact hin)
                    rw [fc.ew] at hidx
                    have hm0 := Int.mul_nonneg (show 0 ≤ i / r1.1 - s.2 / 2 by omega) (show 0 ≤ r1.1 by omega)
                    rw [eat] at hp hu2
                    have x1' : w6 ((i / r1.1 - s.2 / 2) * r1.1) = (i / r1.1 - s.2 / 2) * r1.1 := w6_in (by omega)
                    have x2' : w6 ((i / r1.1 - s.2 / 2) * r1.1 + (i % r1.1 - s.2 % 2)) = (i / r1.1 - s.2 / 2) * r1.1 + (i % r1.1 - s.2 % 2) := w6_in (by omega)
                    rw [dz]
                    refine Has.bind (P := fun z => z = false) (Has.letF (Has.pos rfl (Has.neg (by simp; omega) (Has.letF (Has.ret (decide_eq_false (by omega))))))) fun z hz => Has.neg (by rw [hz]; simp) (Has.letF (Has.pos rfl (Has.letF ?_)))
                    simp only [x1', x2']
                    clear x1' x2'
                    generalize (i / r1.1 - s.2 / 2) * r1.1 + (i % r1.1 - s.2 % 2) = at_ at *
                    have hv := a4 at_ hidx.1 hidx.2
                    have vv := vb _ (gt_mem r3.1 at_ ⟨hidx.1, by omega⟩)
                    rcases hv with hv | ⟨hu3, c1, c2, c3, c4⟩
                    · rw [hv] at hu2; exact absurd rfl hu2
                    · have ee := Option.some.inj hp
                      have ee1 : (gt r4.1.At at_).Lo * gt (ws r11 r12) s.2 = e.1 := by rw [← ee]
                      have ee2 : (gt r4.1.At at_).Hi * gt (ws r11 r12) s.2 = e.2 := by rw [← ee]
                      have n1 := Int.mul_le_mul_of_nonneg_right c2 hw.1
                      have n2 := Int.mul_le_mul_of_nonneg_right c3 hw.1
                      rw [ee1] at n1; rw [ee2] at n2
                      rw [Int.mul_comm (gt (ws r11 r12) s.2) (gt r3.1 at_)]
                      generalize gt r3.1 at_ * gt (ws r11 r12) s.2 = pr at *
                      refine Has.chk ⟨hidx.1, by omega⟩ (Has.letF ?_)
                      rw [w6_in (n := pr) (by omega), w6_in (n := s.1 + pr) (by omega)]
                      exact Has.ret ⟨s.1 + pr, rfl, by omega, by omega⟩
              · cases e1
                refine Has.ret (.next ⟨by simp only []; omega, by simp only []; omega, q2, ?_, ?_⟩ (by simp only []; omega))
                · simp only []; rw [← hn]; congr 1; omega
                · rw [eq']; exact ⟨e2, e3⟩
        · have hj : ¬ s.2 < 4 := fun z => hj (decide_eq_true z)
          have e : s.2.toNat = 4 := by omega
          rw [e, hacc] at t1
          cases t1
          exact Has.ret (.done ⟨s.1, rfl, t2, t3⟩)
      · cases e
        simp only []
        have c3 : lh.1 / 65536 * 65536 ≤ S := by omega
        have c4 : S ≤ cdiv lh.2 65536 * 65536 := by unfold cdiv; omega
        have c5 : w6 (lh.1 / 65536 * 65536) = lh.1 / 65536 * 65536 := w6_in (by omega)
        have c6 : w6 (cdiv lh.2 65536 * 65536) = cdiv lh.2 65536 * 65536 := w6_in (by unfold cdiv; omega)
        rw [c5, c6]
        refine Has.bind (P := fun z => z = false) (Has.neg (by simp; omega) (Has.ret (decide_eq_false (by omega)))) fun z hz => Has.neg (by rw [hz]; simp) (Has.ret rfl)
end Lf
