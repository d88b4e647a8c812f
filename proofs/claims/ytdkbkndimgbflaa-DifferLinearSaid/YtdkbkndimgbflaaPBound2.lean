/- Laws of the plain functions. Conditions: as each theorem states them. -/
import Derived.Test.YtdkbkndimgbflaaPBound
/- Sums and differences of bounds; what both admit. -/
namespace Lf
open Go Go.Abs
set_option linter.unusedVariables false
set_option linter.unusedSimpArgs false
theorem neg_ok {b : Bound} (h : b.ok) : bound_Neg b = some ⟨-b.Hi, -b.Lo, b.Unknown⟩ := by
  obtain ⟨h1, h2, h3, h4⟩ := h
  unfold bound_Neg
  rw [norm_ok ⟨h1, h2, h3, h4⟩]
  simp only [Option.bind_some, Int.zero_sub]
  rw [w6_in (by omega), w6_in (by omega)]
theorem add_known {a b : Bound} (ha : a.ok) (hb : b.ok) (ua : a.Unknown = false) (ub : b.Unknown = false) (h1 : -1152921504606846976 ≤ a.Lo + b.Lo) (h2 : a.Hi + b.Hi ≤ 1152921504606846976) : bound_Add a b = some ⟨a.Lo + b.Lo, a.Hi + b.Hi, false⟩ := by
  have := ha.le; have := hb.le
  unfold bound_Add
  rw [vague_ok ha hb, ua, ub]
  simp only [Option.bind_some, Bool.or_self, Bool.false_eq_true, if_false]
  rw [w6_in (by omega), w6_in (by omega), of_ok h1 (by omega) h2]; rfl
theorem add_vague {a b : Bound} (ha : a.ok) (hb : b.ok) (u : (a.Unknown || b.Unknown) = true) : bound_Add a b = some ⟨0, 0, true⟩ := by
  unfold bound_Add
  rw [vague_ok ha hb, u]; rfl
theorem sub_known {a b : Bound} (ha : a.ok) (hb : b.ok) (ua : a.Unknown = false) (ub : b.Unknown = false) (h1 : -1152921504606846976 ≤ a.Lo - b.Hi) (h2 : a.Hi - b.Lo ≤ 1152921504606846976) : bound_Sub a b = some ⟨a.Lo - b.Hi, a.Hi - b.Lo, false⟩ := by
  unfold bound_Sub
  rw [neg_ok hb]
  simp only [Option.bind_some]
  rw [add_known ha (b := ⟨-b.Hi, -b.Lo, b.Unknown⟩) ⟨(fun h => by rw [ub] at h; cases h), by have := hb.hi; simp only []; omega, by have := hb.le; simp only []; omega, by have := hb.lo; simp only []; omega⟩ ua ub (by simp only []; omega) (by simp only []; omega)]
  rfl
end Lf
