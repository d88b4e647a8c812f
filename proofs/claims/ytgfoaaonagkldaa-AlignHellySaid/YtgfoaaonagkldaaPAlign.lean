/- Laws of the plain functions. Conditions: as each theorem states them. -/
import Derived.Test.YtgfoaaonagkldaaPSpots
/- What a shift must be that brings a pair together; what Common returns. -/
namespace Lf
open Go Go.Abs
set_option linter.unusedVariables false
set_option linter.unusedSimpArgs false
theorem acheck_ok (l : List Measured) (most : Int) (hl : (l.length : Int) ≤ most) (hm : most ≤ 1000000) (h : ∀ m ∈ l, okSpot m) : align_check l most = some 0 := by
  refine Has.val ?_
  unfold align_check
  refine Has.neg (by simp; omega) ((Has.loop (fun i : Int => 0 ≤ i ∧ i ≤ l.length) (fun i => ((l.length : Int) - i).toNat) (fun o => o = .next ()) ⟨Int.le_refl _, by omega⟩ (by omega) ?_).seq (fun s _ => Has.ret rfl) (fun o ho => nomatch ho))
  rintro i ⟨h0, h1⟩
  unfold align_check.l1
  refine Has.ite (fun hi => ?_) fun hi => Has.ret (.done rfl)
  have hi : i < l.length := by simpa using hi
  have hg := h _ (gt_mem l i ⟨h0, hi⟩)
  refine Has.chk ⟨h0, hi⟩ ?_
  rw [check_ok hg.xok]
  simp only [Option.bind_some]
  refine Has.neg (by decide) ?_
  rw [check_ok hg.yok]
  simp only [Option.bind_some]
  rw [w6_in (by omega)]
  exact Has.neg (by decide) (Has.ret (.next ⟨by omega, by omega⟩ (by omega)))
theorem achecks_ok (a b : List Measured) (most least : Int) (ha : (a.length : Int) ≤ most) (hb : (b.length : Int) ≤ most) (hm : most ≤ 1000000) (h1 : 1 ≤ least) (hxa : ∀ m ∈ a, okSpot m) (hxb : ∀ m ∈ b, okSpot m) : align_checks a b most least = some 0 := by
  unfold align_checks
  rw [acheck_ok a most ha hm hxa]
  simp only [Option.bind_some]
  rw [acheck_ok b most hb hm hxb]
  simp; omega
/-- The bounds of the shift of a pair. -/
structure Sft where
  xl : Int
  xh : Int
  yl : Int
  yh : Int
def sft (m n : Measured) : Sft := ⟨n.X.Lo - m.X.Hi, n.X.Hi - m.X.Lo, n.Y.Lo - m.Y.Hi, n.Y.Hi - m.Y.Lo⟩
theorem between_ok {m n : Measured} (hm : okSpot m) (hn : okSpot n) : align_between m n = some (⟨(sft m n).xl, (sft m n).xh, false⟩, ⟨(sft m n).yl, (sft m n).yh, false⟩, true) := by
  obtain ⟨xu, yu, x1, x2, x3, y1, y2, y3⟩ := id hm
  obtain ⟨xu', yu', x1', x2', x3', y1', y2', y3'⟩ := id hn
  unfold align_between
  rw [sub_known hn.xok hm.xok xu' xu (by omega) (by omega)]
  simp only [Option.bind_some]
  rw [sub_known hn.yok hm.yok yu' yu (by omega) (by omega)]
  rfl
/-- What is true of a pair's shift. -/
theorem sft_bd {m n : Measured} (hm : okSpot m) (hn : okSpot n) : -20000 ≤ (sft m n).xl ∧ (sft m n).xl ≤ (sft m n).xh ∧ (sft m n).xh ≤ 20000 ∧ -20000 ≤ (sft m n).yl ∧ (sft m n).yl ≤ (sft m n).yh ∧ (sft m n).yh ≤ 20000 := by
  obtain ⟨xu, yu, x1, x2, x3, y1, y2, y3⟩ := hm
  obtain ⟨xu', yu', x1', x2', x3', y1', y2', y3'⟩ := hn
  unfold sft
  simp only []
  omega
def sp (a b : List Measured) (p : align_Pair) : Sft := sft (gt a p.A) (gt b p.B)
def okPairs (a b : List Measured) (l : List align_Pair) : Prop := ∀ p ∈ l, 0 ≤ p.A ∧ p.A < a.length ∧ 0 ≤ p.B ∧ p.B < b.length
/-- Two pairs have a common shift. -/
def both (s t : Sft) : Prop := s.xl ≤ t.xh ∧ t.xl ≤ s.xh ∧ s.yl ≤ t.yh ∧ t.yl ≤ s.yh
/-- What is known behind some pairs. -/
structure Fits (a b : List Measured) (l : List align_Pair) (u v : Bound) : Prop where
  nil : l = [] → u = ⟨0, 0, true⟩ ∧ v = ⟨0, 0, true⟩
  some : l ≠ [] → u.Unknown = false ∧ v.Unknown = false ∧ u.Lo ≤ u.Hi ∧ v.Lo ≤ v.Hi ∧ (∃ p ∈ l, u.Lo = (sp a b p).xl) ∧ (∃ p ∈ l, u.Hi = (sp a b p).xh) ∧ (∃ p ∈ l, v.Lo = (sp a b p).yl) ∧ (∃ p ∈ l, v.Hi = (sp a b p).yh)
  all : ∀ p ∈ l, (sp a b p).xl ≤ u.Lo ∧ u.Hi ≤ (sp a b p).xh ∧ (sp a b p).yl ≤ v.Lo ∧ v.Hi ≤ (sp a b p).yh
theorem Fits.snoc {a b : List Measured} {l : List align_Pair} {u v : Bound} {p : align_Pair} (h : Fits a b l u v) {u' v' : Bound} (hu : u'.Unknown = false) (hv : v'.Unknown = false) (hu' : u'.Lo ≤ u'.Hi) (hv' : v'.Lo ≤ v'.Hi)
    (e : if l = [] then u' = ⟨(sp a b p).xl, (sp a b p).xh, false⟩ ∧ v' = ⟨(sp a b p).yl, (sp a b p).yh, false⟩ else u' = ⟨mx2 u.Lo (sp a b p).xl, mn2 u.Hi (sp a b p).xh, false⟩ ∧ v' = ⟨mx2 v.Lo (sp a b p).yl, mn2 v.Hi (sp a b p).yh, false⟩) : Fits a b (l ++ [p]) u' v' := by
  by_cases hl : l = []
  · rw [if_pos hl] at e
    obtain ⟨rfl, rfl⟩ := e
    subst hl
    refine ⟨fun h => by simp at h, fun _ => ⟨rfl, rfl, hu', hv', ⟨p, by simp, rfl⟩, ⟨p, by simp, rfl⟩, ⟨p, by simp, rfl⟩, ⟨p, by simp, rfl⟩⟩, fun q hq => ?_⟩
    simp at hq; subst hq
    exact ⟨Int.le_refl _, Int.le_refl _, Int.le_refl _, Int.le_refl _⟩
  · rw [if_neg hl] at e
    obtain ⟨rfl, rfl⟩ := e
    obtain ⟨_, _, _, _, ⟨p1, m1, q1⟩, ⟨p2, m2, q2⟩, ⟨p3, m3, q3⟩, ⟨p4, m4, q4⟩⟩ := h.some hl
    have d1 := mx2_def u.Lo (sp a b p).xl
    have d2 := mn2_def u.Hi (sp a b p).xh
    have d3 := mx2_def v.Lo (sp a b p).yl
    have d4 := mn2_def v.Hi (sp a b p).yh
    have pick : ∀ {P : align_Pair → Prop} {q : align_Pair}, q ∈ l → P q → ∃ r ∈ l ++ [p], P r := fun {P q} hq hp => ⟨q, List.mem_append_left _ hq, hp⟩
    have last : ∀ {P : align_Pair → Prop}, P p → ∃ r ∈ l ++ [p], P r := fun {P} hp => ⟨p, by simp, hp⟩
    refine ⟨fun h => by simp at h, fun _ => ⟨rfl, rfl, hu', hv', ?_, ?_, ?_, ?_⟩, fun q hq => ?_⟩
    · rcases d1 with d | d
      · exact pick (P := fun r => _ = (sp a b r).xl) m1 (d.1.trans q1)
      · exact last (P := fun r => _ = (sp a b r).xl) d.1
    · rcases d2 with d | d
      · exact pick (P := fun r => _ = (sp a b r).xh) m2 (d.1.trans q2)
      · exact last (P := fun r => _ = (sp a b r).xh) d.1
    · rcases d3 with d | d
      · exact pick (P := fun r => _ = (sp a b r).yl) m3 (d.1.trans q3)
      · exact last (P := fun r => _ = (sp a b r).yl) d.1
    · rcases d4 with d | d
      · exact pick (P := fun r => _ = (sp a b r).yh) m4 (d.1.trans q4)
      · exact last (P := fun r => _ = (sp a b r).yh) d.1
    · simp only []
      rcases List.mem_append.1 hq with hq | hq
      · have := h.all q hq; omega
      · simp at hq; subst hq; omega
end Lf
