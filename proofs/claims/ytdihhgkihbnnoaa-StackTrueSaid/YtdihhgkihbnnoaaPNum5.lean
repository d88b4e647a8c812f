/- Laws of the plain functions. Conditions: as each theorem states them. -/
import Derived.Test.YtdihhgkihbnnoaaPNum4
/- a * b / c, rounded down and up. -/
namespace Lf
open Go Go.Abs
set_option linter.unusedVariables false
set_option linter.unusedSimpArgs false
theorem neg_div (m d : Int) (hd : 0 < d) : (m % d = 0 ∧ (-m) / d = -(m / d) ∧ (-m) % d = 0) ∨ (0 < m % d ∧ (-m) / d = -(m / d) - 1 ∧ (-m) % d = d - m % d) := by
  have h1 := Int.mul_ediv_add_emod m d
  have h2 := Int.emod_nonneg m (b := d) (by omega)
  have h3 := Int.emod_lt_of_pos m hd
  by_cases h : m % d = 0
  · left
    have := (Int.ediv_emod_unique hd (a := -m) (q := -(m / d)) (r := 0)).2 ⟨by rw [Int.mul_neg]; omega, by omega, by omega⟩
    exact ⟨h, this.1, this.2⟩
  · right
    have := (Int.ediv_emod_unique hd (a := -m) (q := -(m / d) - 1) (r := d - m % d)).2 ⟨by rw [Int.mul_sub, Int.mul_neg]; omega, by omega, by omega⟩
    exact ⟨by omega, this.1, this.2⟩
theorem wdiv_ok (w : num_Wide) (d : Int) (hw : okW w) (hm : -170141183460469231731687303715884105728 < wv w) (hd : 1 ≤ d ∧ d ≤ 9223372036854775807) :
    Has (Wide_Div w d) fun r => (okI (wv w / d) ∧ r = (wv w / d, 0)) ∨ (¬ okI (wv w / d) ∧ r = (0, 2)) := by
  have h1 := hw.h.1; have h2 := hw.h.2; have h3 := hw.l0; have h4 := hw.l1
  have ed : IntKind.wrap .u64 d = d := wu_in (by omega)
  unfold Wide_Div
  simp only [ed, decide_eq_true_eq]
  refine Has.neg (by omega) (Has.ite (fun hn => ?_) fun hn => ?_)
  · refine (wneg_ok w hw hm).bind fun r ⟨r1, r2⟩ => ?_
    have g1 := r1.h.1; have g2 := r1.h.2; have g3 := r1.l0; have g4 := r1.l1
    have em : wv w = -(wv r) := by omega
    have hv : wv w < 0 := by unfold wv; omega
    have hp : 0 ≤ r.Hi := by unfold wv at *; omega
    have eh : IntKind.wrap .u64 r.Hi = r.Hi := wu_in (by omega)
    have ev : r.Hi * 18446744073709551616 + r.Lo.n = wv r := rfl
    rw [eh, em]
    have nd := neg_div (wv r) d (by omega)
    refine Has.ite (fun hc => Has.ret (.inr ⟨?_, rfl⟩)) fun hc => ?_
    · have : (18446744073709551616 : Int) ≤ wv r / d := by
        rw [Int.le_ediv_iff_mul_le (by omega)]; unfold wv; omega
      unfold okI
      omega
    · refine (div64_ok r.Hi r.Lo.n d hp (by omega) (by omega) g3 g4).bind fun q hq => ?_
      subst hq
      simp only [ev]
      have q0 : 0 ≤ wv r / d := Int.ediv_nonneg (by omega) (by omega)
      have q1 : wv r / d < 18446744073709551616 := by
        rw [Int.ediv_lt_iff_lt_mul (by omega)]; unfold wv; omega
      have q2 := Int.emod_nonneg (wv r) (b := d) (by omega)
      generalize wv r / d = q at *
      generalize wv r % d = s at *
      refine Has.pos hn (Has.ite (fun hs => Has.letF ?_) fun hs => ?_)
      · rw [wu_in (n := 9223372036854775808 - 1) (by omega)]
        simp only [decide_eq_true_eq]
        refine Has.ite (fun hb => Has.ret (.inr ⟨?_, rfl⟩)) fun hb => Has.neg (by omega) (Has.pos hs (Has.ret (.inl ⟨?_, ?_⟩)))
        · unfold okI; omega
        · unfold okI; omega
        · simp only [wu_def, w6_def, Prod.mk.injEq, and_true]
          omega
      · refine Has.ite (fun hb => Has.ret (.inr ⟨?_, rfl⟩)) fun hb => Has.neg (by omega) (Has.neg hs (Has.ret (.inl ⟨?_, ?_⟩)))
        · unfold okI; omega
        · unfold okI; omega
        · simp only [wu_def, w6_def, Prod.mk.injEq, and_true]
          omega
  · have eh : IntKind.wrap .u64 w.Hi = w.Hi := wu_in (by omega)
    have ev : w.Hi * 18446744073709551616 + w.Lo.n = wv w := rfl
    have v0 : 0 ≤ wv w := by unfold wv; omega
    rw [eh]
    refine Has.ite (fun hc => Has.ret (.inr ⟨?_, rfl⟩)) fun hc => ?_
    · have : (18446744073709551616 : Int) ≤ wv w / d := by
        rw [Int.le_ediv_iff_mul_le (by omega)]; unfold wv; omega
      unfold okI
      omega
    · refine (div64_ok w.Hi w.Lo.n d (by omega) (by omega) (by omega) h3 h4).bind fun q hq => ?_
      subst hq
      simp only [ev]
      have q0 : 0 ≤ wv w / d := Int.ediv_nonneg (by omega) (by omega)
      have q1 : wv w / d < 18446744073709551616 := by
        rw [Int.ediv_lt_iff_lt_mul (by omega)]; unfold wv; omega
      generalize wv w / d = q at *
      refine Has.neg hn (Has.ite (fun hb => Has.ret (.inr ⟨?_, rfl⟩)) fun hb => Has.pos (by omega) (Has.ret (.inl ⟨?_, ?_⟩)))
      · unfold okI; omega
      · unfold okI; omega
      · rw [w6_in (by omega)]
theorem wmod_ok (w : num_Wide) (d : Int) (hw : okW w) (hm : -170141183460469231731687303715884105728 < wv w) (hd : 1 ≤ d ∧ d ≤ 9223372036854775807) :
    Has (Wide_Mod w d) fun r => r = wv w % d := by
  have h1 := hw.h.1; have h2 := hw.h.2; have h3 := hw.l0; have h4 := hw.l1
  have ed : IntKind.wrap .u64 d = d := wu_in (by omega)
  unfold Wide_Mod
  simp only [ed, decide_eq_true_eq]
  have red : ∀ h l : Int, (h % d * 18446744073709551616 + l) % d = (h * 18446744073709551616 + l) % d := fun h l => by
    rw [Int.add_emod, Int.mul_emod, Int.emod_emod, ← Int.mul_emod, ← Int.add_emod]
  refine Has.neg (by omega) (Has.ite (fun hn => ?_) fun hn => ?_)
  · refine (wneg_ok w hw hm).bind fun r ⟨r1, r2⟩ => ?_
    have g1 := r1.h.1; have g2 := r1.h.2; have g3 := r1.l0; have g4 := r1.l1
    have em : wv w = -(wv r) := by omega
    have hv : wv w < 0 := by unfold wv; omega
    have hp : 0 ≤ r.Hi := by unfold wv at *; omega
    have eh : IntKind.wrap .u64 r.Hi = r.Hi := wu_in (by omega)
    have ev : r.Hi * 18446744073709551616 + r.Lo.n = wv r := rfl
    have nd := neg_div (wv r) d (by omega)
    rw [eh, em]
    refine Has.chk (by omega) ?_
    rw [Int.tmod_eq_emod_of_nonneg hp]
    refine (div64_ok (r.Hi % d) r.Lo.n d (Int.emod_nonneg _ (by omega)) (Int.emod_lt_of_pos _ (by omega)) (by omega) g3 g4).bind fun q hq => ?_
    subst hq
    simp only [red, ev]
    have q2 := Int.emod_nonneg (wv r) (b := d) (by omega)
    have q3 := Int.emod_lt_of_pos (wv r) (b := d) (by omega)
    refine Has.bind (P := fun _ => True) (Has.ret trivial) fun _ _ => Has.ite (fun hs => Has.ret ?_) fun hs => Has.ret ?_
    · rw [wu_in (by omega), w6_in (by omega)]; omega
    · rw [w6_in (by omega)]; omega
  · have eh : IntKind.wrap .u64 w.Hi = w.Hi := wu_in (by omega)
    have ev : w.Hi * 18446744073709551616 + w.Lo.n = wv w := rfl
    rw [eh]
    refine Has.chk (by omega) ?_
    rw [Int.tmod_eq_emod_of_nonneg (by omega)]
    refine (div64_ok (w.Hi % d) w.Lo.n d (Int.emod_nonneg _ (by omega)) (Int.emod_lt_of_pos _ (by omega)) (by omega) h3 h4).bind fun q hq => ?_
    subst hq
    simp only [red, ev]
    have q2 := Int.emod_nonneg (wv w) (b := d) (by omega)
    have q3 := Int.emod_lt_of_pos (wv w) (b := d) (by omega)
    exact Has.bind (P := fun _ => True) (Has.ret trivial) fun _ _ => Has.ret (w6_in (by omega))
theorem muldiv_ok (a b c : Int) (ha : okI a) (hb : okI b) (hc : 1 ≤ c ∧ c ≤ 9223372036854775807) :
    Has (num_MulDiv a b c) fun r => (okI (a * b / c) ∧ r = (a * b / c, 0)) ∨ (¬ okI (a * b / c) ∧ r = (0, 2)) := by
  unfold num_MulDiv
  refine (product_ok a b ha hb).bind fun w ⟨w1, w2, w3, w4⟩ => (wdiv_ok w c w1 (by omega) hc).bind fun r hr => Has.ret ?_
  rw [w2] at hr
  exact hr
theorem muldivup_ok (a b c : Int) (ha : okI a) (hb : okI b) (hc : 1 ≤ c ∧ c ≤ 9223372036854775807) :
    Has (num_MulDivUp a b c) fun r => (r.2 = 0 → (a * b % c = 0 ∧ r.1 = a * b / c ∨ 0 < a * b % c ∧ r.1 = a * b / c + 1) ∧ okI r.1) ∧ ((okI (a * b / c) ∧ okI (a * b / c + 1)) → r.2 = 0) := by
  unfold num_MulDivUp
  refine (product_ok a b ha hb).bind fun w ⟨w1, w2, w3, w4⟩ => (wdiv_ok w c w1 (by omega) hc).bind fun r hr => ?_
  rw [w2] at hr
  rcases hr with ⟨hk, rfl⟩ | ⟨hk, rfl⟩
  · refine Has.bind (P := fun z => z = decide (a * b % c = 0)) (Has.neg (by simp) ((wmod_ok w c w1 (by omega) hc).bind fun m hm => Has.ret ?_)) fun z hz => ?_
    · rw [hm, w2]; rfl
    · subst hz
      have m0 := Int.emod_nonneg (a * b) (b := c) (by omega)
      refine Has.ite (fun h => Has.ret ⟨fun _ => ⟨.inl ⟨of_decide_eq_true h, rfl⟩, hk⟩, fun _ => rfl⟩) fun h => ?_
      have h : ¬ a * b % c = 0 := fun x => h (decide_eq_true x)
      have k1 := hk.1; have k2 := hk.2
      refine Has.ite (fun h2 => Has.ret ⟨(fun x => by cases x), fun h3 => ?_⟩) fun h2 => Has.ret ⟨fun _ => ?_, fun _ => rfl⟩
      · have h2 : a * b / c = 9223372036854775807 := by simpa using h2
        have := h3.2.2; omega
      · have h2 : a * b / c ≠ 9223372036854775807 := by simpa using h2
        rw [w6_in (by omega)]
        exact ⟨.inr ⟨by omega, rfl⟩, by unfold okI; simp only []; omega⟩
  · refine Has.bind (P := fun z => z = true) (Has.pos (by simp) (Has.ret rfl)) fun z hz => Has.pos hz (Has.ret ⟨(fun x => by cases x), fun h => absurd h.1 hk⟩)
end Lf
