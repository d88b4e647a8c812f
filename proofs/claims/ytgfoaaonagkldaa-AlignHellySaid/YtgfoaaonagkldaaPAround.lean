/- Laws of the plain functions. Conditions: as each theorem states them. -/
import Derived.Test.YtgfoaaonagkldaaPBound2
/- Bounds and places drawn from a stream. -/
namespace Lf
open Go Go.Abs
set_option linter.unusedVariables false
set_option linter.unusedSimpArgs false
theorem around_ok (s : spymake_Stream) (x most : Int) (hs : okS s) (ha : s.at_ ≤ 4611686018427380000) (hx : -4294967296 ≤ x ∧ x ≤ 4294967296) (hm : 0 ≤ most ∧ most ≤ 4294967296) :
    Has (Stream_Around s x most) fun r => r.1.Unknown = false ∧ x - most ≤ r.1.Lo ∧ r.1.Lo ≤ x ∧ x ≤ r.1.Hi ∧ r.1.Hi ≤ x + most ∧ after s r.2 2 := by
  unfold Stream_Around
  rw [w6_in (by omega)]
  refine (next_ok s (most + 1) hs (by omega) (by omega)).bind fun r ⟨g1, g2, g3⟩ => ?_
  have ht := g3.ok hs (by omega)
  have := g3.hi
  refine (next_ok r.2 (most + 1) ht (by omega) (by omega)).bind fun q ⟨k1, k2, k3⟩ => Has.ret ?_
  rw [w6_in (by omega), w6_in (by omega)]
  exact ⟨rfl, by simp only []; omega, by simp only []; omega, by simp only []; omega, by simp only []; omega, g3.trans k3⟩
theorem bnd_ok (s : spymake_Stream) (most : Int) (hs : okS s) (ha : s.at_ ≤ 4611686018427380000) (hm : 0 ≤ most ∧ most ≤ 4294967296) :
    Has (spymake_Bound s most) fun r => r.1.ok ∧ after s r.2 3 := by
  unfold spymake_Bound
  refine (next_ok s 8 hs (by omega) (by omega)).bind fun r ⟨g1, g2, g3⟩ => ?_
  have ht := g3.ok hs (by omega)
  have hh := g3.hi
  rw [w6_in (by omega), Int.zero_sub]
  refine Has.ite (fun _ => Has.ret ⟨okNone, g3.more (by omega)⟩) fun _ => Has.ite (fun _ => ?_) fun _ => ?_
  · exact (range_ok r.2 (-most) most ht (by omega) (by omega) (by omega) (by omega)).bind fun q ⟨k1, k2, k3⟩ => Has.ret ⟨okKnown (by omega) (Int.le_refl _) (by omega), (g3.trans k3).more (by omega)⟩
  · refine (range_ok r.2 (-most) most ht (by omega) (by omega) (by omega) (by omega)).bind fun q ⟨k1, k2, k3⟩ => ?_
    have hr := k3.ok ht (by omega)
    have hh' := k3.hi
    refine (range_ok q.2 (-most) most hr (by omega) (by omega) (by omega) (by omega)).bind fun u ⟨q1, q2, q3⟩ => Has.ret ⟨okKnown ?_ ?_ ?_, (g3.trans k3).trans q3 |>.more (by omega)⟩
    · unfold mn2; split <;> omega
    · unfold mn2 mx2; split <;> split <;> omega
    · unfold mx2; split <;> omega
end Lf
