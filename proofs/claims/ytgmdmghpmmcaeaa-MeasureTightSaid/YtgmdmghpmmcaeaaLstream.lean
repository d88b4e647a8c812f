import Derived.Test.YtgmdmghpmmcaeaaPMeasureTightx
namespace Go.Proofs.Ytgmdmghpmmcaeaa.Pure
open Go.RowKit Go.Proofs.Ytgmdmghpmmcaeaa.PMeasureTight Go.Proofs.YtgmdmghpmmcaeaaW.PrintWords Go.Proofs.YtgmdmghpmmcaeaaW.PrintLast Go.Proofs.YtgmdmghpmmcaeaaW.PrintMore
set_option linter.unusedVariables false

theorem wr {n : Int} (h1 : -9223372036854775808 ≤ n) (h2 : n ≤ 9223372036854775807) : wrap64 n = n := by
  unfold wrap64; omega
theorem wr_bd (n : Int) : -9223372036854775808 ≤ wrap64 n ∧ wrap64 n ≤ 9223372036854775807 := by
  unfold wrap64; omega

theorem below_ok (a n : Int) (h1 : 1 ≤ n) (h2 : n ≤ 9223372036854775807) : ∃ v, spymake_Below.f a n = some v ∧ 0 ≤ v ∧ v < n := by
  have ha := Int.tmod_lt_of_pos a (b := n) (by omega)
  have hb := Int.lt_tmod_of_pos a (b := n) (by omega)
  unfold spymake_Below.f
  rw [if_neg (by omega), if_neg (by omega)]
  by_cases h : Int.tmod a n < 0
  · exact ⟨_, by rw [if_pos h], by rw [wr (by omega) (by omega)]; omega, by rw [wr (by omega) (by omega)]; omega⟩
  · exact ⟨_, by rw [if_neg h], by omega, by omega⟩

/-- A stream's next number. -/
theorem next_ok (L : List Int) (s n : Int) (hs0 : 0 ≤ s) (hs1 : s < 4611686018427387904) (h1 : 1 ≤ n) (h2 : n ≤ 9223372036854775807) :
    ∃ v, spymake_Stream_Next.f L s n = some (v, s + 1) ∧ 0 ≤ v ∧ v < n := by
  have e1 : wrap64 (s + 1) = s + 1 := wr (by omega) (by omega)
  have e2 : wrap64 (s + 1 - 1) = s := by rw [wr (by omega) (by omega)]; omega
  unfold spymake_Stream_Next.f
  simp only [e1, e2]
  by_cases hl : (L.length : Int) = 0
  · obtain ⟨v, hv, a, b⟩ := below_ok (wrap64 ((s + 1) * 7919)) n h1 h2
    exact ⟨v, by rw [if_pos hl, hv]; rfl, a, b⟩
  · rw [if_neg hl]
    have ht0 : 0 ≤ Int.tmod s (L.length : Int) := Int.tmod_nonneg _ hs0
    have ht1 : Int.tmod s (L.length : Int) < (L.length : Int) := Int.tmod_lt_of_pos _ (by omega)
    rw [if_pos ht0, if_pos ht1]
    obtain ⟨u, hu, _, _⟩ := below_ok (rd L (Int.tmod s (L.length : Int))) 1073741824 (by omega) (by omega)
    rw [hu]; simp only [Option.bind_some]
    obtain ⟨v, hv, a, b⟩ := below_ok (wrap64 (u + wrap64 (wrap64 (Int.tdiv s (L.length : Int)) * wrap64 (7919 + Int.tmod s (L.length : Int))))) n h1 h2
    exact ⟨v, by rw [hv]; rfl, a, b⟩

theorem range_ok (L : List Int) (s lo hi : Int) (hs0 : 0 ≤ s) (hs1 : s < 4611686018427387904) (h1 : -2305843009213693952 ≤ lo) (h2 : lo ≤ hi) (h3 : hi ≤ 2305843009213693952) :
    ∃ v, spymake_Stream_Range.f L s lo hi = some (v, s + 1) ∧ lo ≤ v ∧ v ≤ hi := by
  obtain ⟨v, hv, a, b⟩ := next_ok L s (hi - lo + 1) hs0 hs1 (by omega) (by omega)
  refine ⟨lo + v, ?_, by omega, by omega⟩
  unfold spymake_Stream_Range.f
  rw [if_neg (by omega), wr (n := hi - lo) (by omega) (by omega), wr (n := hi - lo + 1) (by omega) (by omega), hv]
  simp only [Option.bind_some]
  rw [wr (by omega) (by omega)]

theorem Ev.some_bind {α β : Type} {g : Option α} {a : α} {f : Nat → α → Option β} {r : β} (h : g = some a) (k : Ev (fun n => f n a) r) : Ev (fun n => g.bind (f n)) r := by
  subst h; exact k
theorem Ev.pos {α : Type} {c : Prop} [Decidable c] {g f : Nat → Option α} {r : α} (h : c) (k : Ev g r) : Ev (fun n => if c then g n else f n) r :=
  Ev.congr (fun _ => if_pos h) k
theorem Ev.neg {α : Type} {c : Prop} [Decidable c] {g f : Nat → Option α} {r : α} (h : ¬ c) (k : Ev f r) : Ev (fun n => if c then g n else f n) r :=
  Ev.congr (fun _ => if_neg h) k
end Go.Proofs.Ytgmdmghpmmcaeaa.Pure
