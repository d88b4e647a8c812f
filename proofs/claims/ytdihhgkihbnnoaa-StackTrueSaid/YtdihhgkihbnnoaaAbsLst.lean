/- Laws about heaps and calls that the walks use. Conditions: as each theorem states them. -/
import Derived.Test.YtdihhgkihbnnoaaAbsHas
/-! Lists by whole-number places. -/
namespace Lf
open Go Go.Abs
set_option linter.unusedVariables false
section
variable {α : Type} [Cl α] {xs ys : List α} {P Q : Int → α → Prop}
def allI (xs : List α) (P : Int → α → Prop) : Prop := ∀ i : Int, 0 ≤ i → i < (xs.length : Int) → P i (gt xs i)
theorem gt_snoc_lt {y : α} {i : Int} (h : 0 ≤ i) (h2 : i < (xs.length : Int)) : gt (xs ++ [y]) i = gt xs i := by
  unfold gt; rw [List.getD_eq_getElem?_getD, List.getD_eq_getElem?_getD, List.getElem?_append_left (by omega)]
theorem gt_snoc_eq {y : α} {i : Int} (h : i = (xs.length : Int)) : gt (xs ++ [y]) i = y := by
  unfold gt; subst h; simp
theorem gt_set_eq {y : α} {i : Int} (h : 0 ≤ i) (h2 : i < (xs.length : Int)) : gt (xs.set i.toNat y) i = y := by
  unfold gt; rw [List.getD_eq_getElem?_getD, List.getElem?_set_self (by omega)]; rfl
theorem gt_set_ne {y : α} {i j : Int} (h : 0 ≤ i) (h1 : 0 ≤ j) (h2 : i ≠ j) : gt (xs.set i.toNat y) j = gt xs j := by
  unfold gt; rw [List.getD_eq_getElem?_getD, List.getD_eq_getElem?_getD, List.getElem?_set_ne (by omega)]
theorem gt_rep {n : Nat} {y : α} {i : Int} (h : 0 ≤ i) (h2 : i < (n : Int)) : gt (List.replicate n y) i = y := by
  unfold gt; rw [List.getD_eq_getElem?_getD, List.getElem?_replicate, if_pos (by omega)]; rfl
theorem allI_nil : allI ([] : List α) P := fun i h h2 => by simp at h2; omega
theorem allI_snoc {y : α} (h : allI xs P) (hy : P (xs.length : Int) y) : allI (xs ++ [y]) P := fun i h1 h2 => by
  by_cases e : i = (xs.length : Int)
  · rw [gt_snoc_eq e, e]; exact hy
  · have : i < (xs.length : Int) := by simp at h2; omega
    rw [gt_snoc_lt h1 this]; exact h i h1 this
theorem allI_set {y : α} {i : Int} (h : allI xs P) (h0 : 0 ≤ i) (hy : P i y) : allI (xs.set i.toNat y) P := fun j h1 h2 => by
  simp only [List.length_set] at h2
  by_cases e : i = j
  · subst e; rw [gt_set_eq h0 h2]; exact hy
  · rw [gt_set_ne h0 h1 e]; exact h j h1 h2
/-- A row of which one place is changed. -/
theorem allI_upd {y : α} {i : Int} (h : allI xs P) (h0 : 0 ≤ i) (k : ∀ j x, 0 ≤ j → j < (xs.length : Int) → i ≠ j → P j x → Q j x) (hy : Q i y) : allI (xs.set i.toNat y) Q := fun j h1 h2 => by
  simp only [List.length_set] at h2
  by_cases e : i = j
  · subst e; rw [gt_set_eq h0 h2]; exact hy
  · rw [gt_set_ne h0 h1 e]; exact k j _ h1 h2 e (h j h1 h2)
theorem allI_of {R : α → Prop} (h : ∀ x ∈ xs, R x) : allI xs fun _ x => R x := fun i h1 h2 => h _ (gt_mem xs i ⟨h1, h2⟩)
theorem allI_rep {n : Nat} {y : α} (h : ∀ i : Int, 0 ≤ i → i < n → P i y) : allI (List.replicate n y) P := fun i h1 h2 => by
  simp only [List.length_replicate] at h2
  rw [gt_rep h1 h2]; exact h i h1 h2
theorem allI_mono (h : allI xs P) (k : ∀ i x, 0 ≤ i → i < (xs.length : Int) → P i x → Q i x) : allI xs Q := fun i h1 h2 => k i _ h1 h2 (h i h1 h2)
theorem allI_mem {R : α → Prop} (h : allI xs fun _ x => R x) : ∀ x ∈ xs, R x := fun x hx => by
  obtain ⟨n, hn, rfl⟩ := List.getElem_of_mem hx
  have := h n (by omega) (by omega)
  rw [gt_def xs n ⟨by omega, by omega⟩] at this
  exact this
/-- Two lists that agree everywhere are equal. -/
theorem gt_ext (h : xs.length = ys.length) (k : ∀ i : Int, 0 ≤ i → i < (xs.length : Int) → gt xs i = gt ys i) : xs = ys := by
  refine List.ext_getElem h fun n h1 h2 => ?_
  have := k n (by omega) (by omega)
  rw [gt_def xs n ⟨by omega, by omega⟩, gt_def ys n ⟨by omega, by omega⟩] at this
  exact this
end
end Lf
