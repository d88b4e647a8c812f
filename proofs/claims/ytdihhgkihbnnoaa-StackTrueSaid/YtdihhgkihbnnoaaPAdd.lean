/- Laws of the plain functions. Conditions: as each theorem states them. -/
import Derived.Test.YtdihhgkihbnnoaaPBound
/- Sums of bounds; what both admit. -/
namespace Lf
open Go Go.Abs
set_option linter.unusedVariables false
set_option linter.unusedSimpArgs false
theorem add_known {a b : Bound} (ha : a.ok) (hb : b.ok) (ua : a.Unknown = false) (ub : b.Unknown = false) (h1 : -1152921504606846976 ≤ a.Lo + b.Lo) (h2 : a.Hi + b.Hi ≤ 1152921504606846976) : bound_Add a b = some ⟨a.Lo + b.Lo, a.Hi + b.Hi, false⟩ := by
  have := ha.le; have := hb.le
  unfold bound_Add
  rw [vague_ok ha hb, ua, ub]
  simp only [Option.bind_some, Bool.or_self, Bool.false_eq_true, if_false]
  rw [w6_in (by omega), w6_in (by omega), of_ok h1 (by omega) h2]; rfl
theorem add_vague {a b : Bound} (ha : a.ok) (hb : b.ok) (u : (a.Unknown || b.Unknown) = true) : bound_Add a b = some ⟨0, 0, true⟩ := by
  unfold bound_Add
  rw [vague_ok ha hb, u]; rfl
end Lf
