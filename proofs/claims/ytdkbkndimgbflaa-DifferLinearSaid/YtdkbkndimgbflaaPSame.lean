/- Laws of the plain functions. Conditions: as each theorem states them. -/
import Derived.Test.YtdkbkndimgbflaaPField
/- A field is the same as itself. -/
namespace Lf
open Go Go.Abs
set_option linter.unusedVariables false
set_option linter.unusedSimpArgs false
theorem equal_ok (l : List Bound) (hl : l.length ≤ 1000000000) : slices_Equal l l = some true := by
  apply Has.val
  unfold slices_Equal
  refine Has.neg (by simp) (Has.seq (P := fun t : Step Unit Bool => t = .next ()) ?_ (fun _ _ => Has.ret rfl) (fun o ho => by cases ho))
  refine Has.loop (fun i : Int => 0 ≤ i ∧ i ≤ l.length) (fun i => (l.length - i).toNat) (fun t : Step Unit Bool => t = .next ()) ⟨Int.le_refl _, by omega⟩ (by omega) fun i ⟨i1, i2⟩ => ?_
  unfold slices_Equal.l1
  refine Has.ite (fun hi => ?_) fun hi => Has.ret (.done rfl)
  have hi : i < l.length := of_decide_eq_true hi
  rw [w6_in (by omega)]
  exact Has.chk ⟨i1, hi⟩ (Has.chk ⟨i1, hi⟩ (Has.neg (by simp) (Has.ret (.next ⟨by omega, by omega⟩ (by omega)))))
theorem same_ok (c : Cells) (hl : c.At.length ≤ 1000000000) : spykeep4_same c c = some true := by
  unfold spykeep4_same
  rw [equal_ok _ hl]
  simp
end Lf
