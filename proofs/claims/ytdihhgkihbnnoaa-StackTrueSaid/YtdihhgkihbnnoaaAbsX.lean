/- Laws about heaps and calls that the walks use. Conditions: as each theorem states them. -/
import Derived.Test.YtdihhgkihbnnoaaAbsW
namespace Go.Abs
set_option linter.unusedVariables false
/-- Rows of things that hold lists, too. -/
structure Celled {α : Type} (e : Nat) (f : α → List V) : Prop where
  len : ∀ x, (f x).length = e
  no : ∀ x, V.nors (f x) = true
  wf : ∀ x, V.wfs (f x) = true
  le : ∀ x, (f x).all V.leaf = true
  fr : ∀ x, V.freshs (f x) = true
  li : ∀ n x, V.lims n (f x) = true
section
variable {α : Type} {e : Nat} {f : α → List V} (h : Celled e f) (xs : List α)
include h
theorem Celled.nors : V.nors (xs.flatMap f) = true := by rw [nors_eq]; exact all_flatMap (fun x => by rw [← nors_eq]; exact h.no x) xs
theorem Celled.wfs : V.wfs (xs.flatMap f) = true := by rw [wfs_eq]; exact all_flatMap (fun x => by rw [← wfs_eq]; exact h.wf x) xs
theorem Celled.leaf : (xs.flatMap f).all V.leaf = true := all_flatMap h.le xs
theorem Celled.freshs : V.freshs (xs.flatMap f) = true := by rw [freshs_eq]; exact all_flatMap (fun x => by rw [← freshs_eq]; exact h.fr x) xs
theorem Celled.lims (n : Nat) : V.lims n (xs.flatMap f) = true := by rw [lims_eq]; exact all_flatMap (fun x => by rw [← lims_eq]; exact h.li n x) xs
theorem Celled.length : (xs.flatMap f).length = xs.length * e := flat_length h.len xs
theorem Celled.takeAll : (xs.flatMap f).take (xs.length * e) = xs.flatMap f := List.take_of_length_le (by rw [flat_length h.len xs]; exact Nat.le_refl _)
theorem Celled.at (i : Nat) (hi : i < xs.length) : ((xs.flatMap f).drop (i * e)).take e = f xs[i] := cellsAt_flat h.len xs i hi
end
end Go.Abs
