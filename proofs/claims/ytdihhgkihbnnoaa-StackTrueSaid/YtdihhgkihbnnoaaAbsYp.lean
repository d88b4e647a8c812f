/- Laws about heaps and calls that the walks use. Conditions: as each theorem states them. -/
import Derived.Test.YtdihhgkihbnnoaaAbsX
/-! Plain words of lifted functions: steps, loops, checks. -/
namespace Go.Abs
inductive Step (S O : Type) where
  | next (s : S)
  | done (o : O)
  deriving DecidableEq
def iterF {S O : Type} (body : S → Option (Step S O)) : Nat → S → Option O
  | 0, _ => none
  | k + 1, s => match body s with
    | none => none
    | some (.next s') => iterF body k s'
    | some (.done o) => some o
/-- A loop: as many rounds as it takes. -/
def loopF {S O : Type} (body : S → Option (Step S O)) (s : S) : Option O := iterF body 10000000000000000000000000000000000000000 s
/-- What comes behind a statement that may leave. -/
def seqF {S O : Type} (g : Option (Step S O)) (k : S → Option O) : Option O :=
  match g with
  | none => none
  | some (.next s) => k s
  | some (.done o) => some o
def letF {α β : Type} (a : α) (f : α → β) : β := f a
theorem letE {α β : Type} {a : α} {f : α → β} {r : β} (h : letF a f = r) : ∃ x, a = x ∧ f x = r := ⟨a, rfl, h⟩
theorem chkE {α : Type} {c : Prop} [Decidable c] {x : Option α} {r : α} (h : (if c then x else none) = some r) : c ∧ x = some r := by
  split at h
  · exact ⟨‹_›, h⟩
  · cases h
theorem bindE {α β : Type} {x : Option α} {f : α → Option β} {r : β} (h : x.bind f = some r) : ∃ y, x = some y ∧ f y = some r := by
  cases x with
  | none => cases h
  | some y => exact ⟨y, rfl, h⟩
theorem seqE {S O : Type} {g : Option (Step S O)} {k : S → Option O} {r : O} (h : seqF g k = some r) : ∃ y, g = some y ∧ (∀ s, y = .next s → k s = some r) ∧ ∀ o, y = .done o → o = r := by
  cases g with
  | none => cases h
  | some y =>
    refine ⟨y, rfl, fun s e => ?_, fun o e => ?_⟩
    · subst e; exact h
    · subst e; exact Option.some.inj h
/-- A loop's end, by what holds at each round's head. -/
theorem loopF_ok {S O : Type} {body : S → Option (Step S O)} (I : S → Prop) (μ : S → Nat) (Post : O → Prop)
    (hB : ∀ s, I s → ∃ t, body s = some t ∧ (∀ s', t = .next s' → I s' ∧ μ s' < μ s) ∧ ∀ o, t = .done o → Post o) {s : S} (h : I s) (hμ : μ s < 10000000000000000000000000000000000000000) : ∃ o, loopF body s = some o ∧ Post o := by
  have key : ∀ k s, I s → μ s < k → ∃ o, iterF body k s = some o ∧ Post o := by
    intro k
    induction k with
    | zero => intro s _ h; omega
    | succ k ih =>
      intro s hs hk
      obtain ⟨t, h1, h2, h3⟩ := hB s hs
      unfold iterF
      rw [h1]
      cases t with
      | next s' => obtain ⟨h4, h5⟩ := h2 s' rfl; exact ih s' h4 (by omega)
      | done o => exact ⟨o, rfl, h3 o rfl⟩
  exact key _ s h hμ
end Go.Abs
