/- Laws about heaps and calls that the walks use. Conditions: as each theorem states them. -/
import Derived.Test.YtdihhgkihbnnoaaAbsTop
import Derived.KernelRfl
/-! Facts of plain functions: what they return, and what is true of it. -/
namespace Lf
open Go Go.Abs
set_option linter.unusedVariables false
def Has {α : Type} (x : Option α) (P : α → Prop) : Prop := ∃ a, x = some a ∧ P a
section
variable {α β : Type} {x y : Option α} {P Q : α → Prop} {c : Prop} [Decidable c]
theorem Has.bind {f : α → Option β} {R : β → Prop} (h : Has x P) (k : ∀ a, P a → Has (f a) R) : Has (Option.bind x f) R := by
  obtain ⟨a, rfl, ha⟩ := h; exact k a ha
theorem Has.ret {a : α} (h : P a) : Has (some a) P := ⟨a, rfl, h⟩
theorem Has.mono (h : Has x P) (k : ∀ a, P a → Q a) : Has x Q := by obtain ⟨a, e, ha⟩ := h; exact ⟨a, e, k a ha⟩
theorem Has.chk (hc : c) (h : Has x P) : Has (if c then x else none) P := by rw [if_pos hc]; exact h
theorem Has.pos (hc : c) (h : Has x P) : Has (if c then x else y) P := by rw [if_pos hc]; exact h
theorem Has.neg (hc : ¬ c) (h : Has y P) : Has (if c then x else y) P := by rw [if_neg hc]; exact h
theorem Has.ite (h : c → Has x P) (k : ¬ c → Has y P) : Has (if c then x else y) P := by
  by_cases hc : c
  · rw [if_pos hc]; exact h hc
  · rw [if_neg hc]; exact k hc
theorem Has.letF {a : β} {f : β → Option α} (h : Has (f a) P) : Has (Abs.letF a f) P := h
theorem Has.eq {a : α} (h : x = some a) (k : P a) : Has x P := ⟨a, h, k⟩
theorem Has.val {a : α} (h : Has x (fun b => b = a)) : x = some a := by obtain ⟨b, e, rfl⟩ := h; exact e
end
inductive StepOK {S O : Type} (I : S → Prop) (μ : S → Nat) (P : O → Prop) (m : Nat) : Step S O → Prop
  | next {s : S} : I s → μ s < m → StepOK I μ P m (.next s)
  | done {o : O} : P o → StepOK I μ P m (.done o)
/-- A loop, by what holds at each round's head. -/
theorem Has.loop {S O : Type} {body : S → Option (Step S O)} {s : S} (I : S → Prop) (μ : S → Nat) (P : O → Prop) (h0 : I s) (hμ : μ s < 10000000000000000000000000000000000000000) (round : ∀ s, I s → Has (body s) (StepOK I μ P (μ s))) : Has (loopF body s) P := by
  obtain ⟨o, h1, h2⟩ := loopF_ok (body := body) I μ P (fun s hs => by
    obtain ⟨t, e, h⟩ := round s hs
    refine ⟨t, e, fun s' es => ?_, fun o eo => ?_⟩
    · subst es; cases h with | next a b => exact ⟨a, b⟩
    · subst eo; cases h with | done a => exact a) h0 hμ
  exact ⟨o, h1, h2⟩
theorem Has.seq {S O : Type} {g : Option (Step S O)} {k : S → Option O} {P : Step S O → Prop} {Q : O → Prop} (h : Has g P) (hn : ∀ s, P (.next s) → Has (k s) Q) (hd : ∀ o, P (.done o) → Q o) : Has (seqF g k) Q := by
  obtain ⟨t, rfl, ht⟩ := h
  cases t with
  | next s => exact hn s ht
  | done o => exact ⟨o, rfl, hd o ht⟩
theorem ite_and (b c : Bool) : (if b = true then some c else some false) = some (b && c) := by cases b <;> rfl
theorem ite_or (b c : Bool) : (if b = true then some true else some c) = some (b || c) := by cases b <;> rfl
theorem w6_in {n : Int} (h : -9223372036854775808 ≤ n ∧ n ≤ 9223372036854775807) : w6 n = n := IntWalk.i64_in n h
theorem w6_bd (n : Int) : -9223372036854775808 ≤ w6 n ∧ w6 n ≤ 9223372036854775807 := by unfold w6; rw [IntKind.wrap_i64]; omega
theorem gt_def {α : Type} [Cl α] (xs : List α) (i : Int) (h : 0 ≤ i ∧ i < xs.length) : gt xs i = xs[i.toNat]'(by omega) := by
  unfold gt; rw [List.getD_eq_getElem?_getD, List.getElem?_eq_getElem (by omega)]; rfl
theorem gt_mem {α : Type} [Cl α] (xs : List α) (i : Int) (h : 0 ≤ i ∧ i < xs.length) : gt xs i ∈ xs := by rw [gt_def xs i h]; exact List.getElem_mem _
theorem roomyI {n b : Nat} (h1 : n * b ≤ 140737488355328) (h2 : n ≤ 140737488355328) : roomy n b = true := by unfold roomy; simp [h1, h2]
theorem mn2_le {a b : Int} (h : a ≤ b) : mn2 a b = a := by unfold mn2; split <;> omega
theorem mx2_le {a b : Int} (h : a ≤ b) : mx2 a b = b := by unfold mx2; split <;> omega
theorem mn2_ge {a b : Int} (h : b ≤ a) : mn2 a b = b := by unfold mn2; split <;> omega
theorem mx2_ge {a b : Int} (h : b ≤ a) : mx2 a b = a := by unfold mx2; split <;> omega
theorem mn2_def (a b : Int) : (mn2 a b = a ∧ a ≤ b) ∨ (mn2 a b = b ∧ b ≤ a) := by unfold mn2; split <;> omega
theorem mx2_def (a b : Int) : (mx2 a b = a ∧ b ≤ a) ∨ (mx2 a b = b ∧ a ≤ b) := by unfold mx2; split <;> omega
end Lf
