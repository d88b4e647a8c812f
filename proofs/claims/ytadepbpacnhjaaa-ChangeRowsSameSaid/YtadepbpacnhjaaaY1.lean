/- Laws of the plain functions. Conditions: as each theorem states them. -/
import Derived.Test.YtadepbpacnhjaaaY0
import Derived.Test.YtadepbpacnhjaaaD
import Derived.Test.YtadepbpacnhjaaaA4
import Derived.KernelRfl
/- find.Sure: the sure cells, the brightest first. -/
namespace Lf
open Go Go.Abs
set_option linter.unusedVariables false
set_option linter.unusedSimpArgs false
/-- A level as it is made. -/
structure okLv (b : Bound) : Prop where
  ok : b.ok
  u : b.Unknown = false
  lo : -1099511627776 ≤ b.Lo
  hi : b.Hi ≤ 1099511627776
theorem checkLevel_ok {b : Bound} (h : okLv b) : find_CheckLevel b = some 0 := by
  have h1 := h.lo; have h2 := h.hi
  unfold find_CheckLevel
  rw [check_ok h.ok, h.u]
  have g1 : decide (b.Lo < (-1099511627776)) = false := decide_eq_false (by omega)
  have g2 : decide (b.Hi > 1099511627776) = false := decide_eq_false (by omega)
  simp [g1, g2]
def sureC (c : Cells) (level : Bound) (x : Int) : Prop := (gt c.At x).Unknown = false ∧ level.Hi < (gt c.At x).Lo
structure SureL (c : Cells) (level : Bound) (l : List Int) : Prop where
  mem : ∀ x, x ∈ l ↔ 0 ≤ x ∧ x < c.At.length ∧ sureC c level x
  nd : l.Nodup
  ord : l.Pairwise (leF c)
theorem inc_len (l : List Int) (n : Int) (hp : l.Pairwise (· < ·)) (h : ∀ x ∈ l, 0 ≤ x ∧ x < n) (hn : 0 ≤ n) : (l.length : Int) ≤ n := by
  have key : ∀ (l : List Int) (a : Int), l.Pairwise (· < ·) → (∀ x ∈ l, a ≤ x ∧ x < n) → a ≤ n → (l.length : Int) ≤ n - a := fun l => by
    induction l with
    | nil => intro a _ _ h; simp; omega
    | cons x l ih =>
      intro a hp h ha
      obtain ⟨h1, h2⟩ := List.pairwise_cons.1 hp
      obtain ⟨x0, x1⟩ := h x (List.mem_cons_self ..)
      have := ih (x + 1) h2 (fun y hy => ⟨by have := h1 y hy; omega, (h y (List.mem_cons_of_mem _ hy)).2⟩) (by omega)
      simp only [List.length_cons]; omega
  have := key l 0 hp h hn; omega
theorem pw_gt {R : Int → Int → Prop} {l : List Int} : l.Pairwise R ↔ ∀ p q : Int, 0 ≤ p → p < q → q < l.length → R (gt l p) (gt l q) := by
  rw [List.pairwise_iff_getElem]
  constructor
  · intro h p q p0 pq q1
    rw [gt_def l p ⟨p0, by omega⟩, gt_def l q ⟨by omega, q1⟩]
    exact h _ _ _ _ (by omega)
  · intro h i j hi hj ij
    have := h i j (by omega) (by omega) (by omega)
    rwa [gt_def l i ⟨by omega, by omega⟩, gt_def l j ⟨by omega, by omega⟩] at this
theorem sure_ok {c : Cells} {level : Bound} (hc : okF c) (hn : c.At.length ≤ 900) (hv : okLv level) : Has (find_Sure c level) fun r => r.2 = 0 ∧ SureL c level r.1 := by
  have n1 := hc.n1
  unfold find_Sure
  rw [findCheck_ok hc, checkLevel_ok hv]
  simp only [Option.bind_some]
  rw [or2_ok]
  simp only [ne_eq, not_true_eq_false, if_false, Option.bind_some, bne_self_eq_false, Bool.false_eq_true]
  refine Has.bind (P := fun z : List Int => (∀ x, x ∈ z ↔ 0 ≤ x ∧ x < c.At.length ∧ sureC c level x) ∧ z.Pairwise (· < ·)) ?_ fun z ⟨z1, z2⟩ => ?_
  · refine Has.loop (fun t : List Int × Int => 0 ≤ t.2 ∧ t.2 ≤ c.At.length ∧ (∀ x, x ∈ t.1 ↔ 0 ≤ x ∧ x < t.2 ∧ sureC c level x) ∧ t.1.Pairwise (· < ·)) (fun t => (c.At.length - t.2).toNat) _
      ⟨Int.le_refl _, by simp only []; omega, fun x => by simp; omega, List.Pairwise.nil⟩ (by simp only []; omega) fun t ⟨t1, t2, t3, t4⟩ => ?_
    unfold find_Sure.l1
    refine Has.ite (fun hi => ?_) fun hi => ?_
    · have hi : t.2 < c.At.length := of_decide_eq_true hi
      have tl := inc_len t.1 t.2 t4 (fun x hx => by have := (t3 x).1 hx; omega) t1
      rw [w6_in (n := t.2 + 1) (by omega)]
      refine Has.bind (P := fun z : List Int => (∀ x, x ∈ z ↔ 0 ≤ x ∧ x < t.2 + 1 ∧ sureC c level x) ∧ z.Pairwise (· < ·)) (Has.chk ⟨t1, hi⟩ ?_) fun z ⟨z1, z2⟩ => Has.ret (.next ⟨by simp only []; omega, by simp only []; omega, z1, z2⟩ (by simp only []; omega))
      simp only [ite_and, Option.bind_some]
      refine Has.ite (fun hs => ?_) fun hs => Has.ret ⟨fun x => ?_, t4⟩
      · have hs : sureC c level t.2 := by simp only [Bool.and_eq_true, Bool.not_eq_true', decide_eq_true_eq] at hs; exact hs
        refine Has.chk (roomyI (by simp; omega) (by simp; omega)) (Has.ret ⟨fun x => ?_, List.pairwise_append.2 ⟨t4, by simp, fun a ha b hb => by rw [List.mem_singleton.1 hb]; exact ((t3 a).1 ha).2.1⟩⟩)
        rw [List.mem_append, List.mem_singleton, t3]
        constructor
        · rintro (⟨a, b, d⟩ | rfl)
          · exact ⟨a, by omega, d⟩
          · exact ⟨t1, by omega, hs⟩
        · rintro ⟨a, b, d⟩
          by_cases e : x = t.2
          · exact .inr e
          · exact .inl ⟨a, by omega, d⟩
      · have hs : ¬ sureC c level t.2 := fun q => hs (by simp only [Bool.and_eq_true, Bool.not_eq_true', decide_eq_true_eq]; exact q)
        rw [t3]
        constructor
        · rintro ⟨a, b, d⟩; exact ⟨a, by omega, d⟩
        · rintro ⟨a, b, d⟩
          have : x ≠ t.2 := fun e => hs (by rw [← e]; exact d)
          exact ⟨a, by omega, d⟩
    · have hi : ¬ t.2 < c.At.length := fun q => hi (decide_eq_true q)
      exact Has.ret (.done ⟨fun x => by rw [t3]; constructor <;> (rintro ⟨a, b, d⟩; exact ⟨a, by omega, d⟩), t4⟩)
  · have zl := inc_len z c.At.length z2 (fun x hx => by have := (z1 x).1 hx; omega) (by omega)
    refine (sortStable_ok (c := c) z (by omega) (fun x hx => by have := (z1 x).1 hx; exact ⟨this.1, this.2.1⟩) (pw_gt.1 z2)).bind fun r ⟨r1, r2⟩ => Has.chk r1.length_eq.symm (Has.ret ⟨rfl, fun x => by rw [r1.mem_iff]; exact z1 x, ?_, pw_gt.2 fun p q p0 pq q1 => r2 p q p0 pq (by rw [← r1.length_eq]; exact q1)⟩)
    exact r1.symm.nodup (z2.imp fun h => Int.ne_of_lt h)
end Lf
/- The heap of steps: what a push and a pop do. -/
namespace Lf
open Go Go.Abs
set_option linter.unusedVariables false
set_option linter.unusedSimpArgs false
theorem atS_get (xs : List HpSt) (i : Nat) (hi : i < xs.length) : atS xs i = xs[i] := by unfold atS; simp [List.getD_eq_getElem?_getD, List.getElem?_eq_getElem hi]
theorem swS_len (xs : List HpSt) (i j : Nat) : (swS xs i j).length = xs.length := by unfold swS; simp
theorem atS_sw (xs : List HpSt) (i j k : Nat) (hi : i < xs.length) (hj : j < xs.length) : atS (swS xs i j) k = if k = j then atS xs i else if k = i then atS xs j else atS xs k := by
  have e : ∀ k, atS (swS xs i j) k = ((((xs.set i (atS xs j)).set j (atS xs i))[k]?).getD (0, 0)) := fun k => by unfold swS; rw [show ∀ (l : List HpSt) m, atS l m = (l[m]?).getD (0, 0) from fun l m => List.getD_eq_getElem?_getD ..]
  rw [e, List.getElem?_set]
  by_cases h1 : k = j
  · subst h1; rw [if_pos rfl, if_pos (by simpa using hj), if_pos rfl]; rfl
  · rw [if_neg (Ne.symm h1), if_neg h1, List.getElem?_set]
    by_cases h2 : k = i
    · subst h2; rw [if_pos rfl, if_pos hi, if_pos rfl]; rfl
    · rw [if_neg (Ne.symm h2), if_neg h2]; unfold atS; rw [List.getD_eq_getElem?_getD]
theorem swS_perm (xs : List HpSt) (i j : Nat) (hi : i < xs.length) (hj : j < xs.length) : (swS xs i j).Perm xs := by
  unfold swS; rw [atS_get xs i hi, atS_get xs j hj]; exact List.set_set_perm hi hj
/-- A heap: no entry is above the one over it. -/
def IsHp (xs : List HpSt) (n : Nat) : Prop := ∀ k, 0 < k → k < n → (atS xs k).2 ≤ (atS xs ((k - 1) / 2)).2
theorem IsHp.top {xs : List HpSt} {n : Nat} (h : IsHp xs n) : ∀ k, k < n → (atS xs k).2 ≤ (atS xs 0).2 := fun k => by
  induction k using Nat.strongRecOn with
  | ind k ih =>
    intro hk
    by_cases h0 : k = 0
    · rw [h0]; exact Int.le_refl _
    · exact Int.le_trans (h k (by omega) hk) (ih ((k - 1) / 2) (by omega) (by omega))
theorem upS_ok : ∀ (f : Nat) (xs : List HpSt) (j : Nat), j < xs.length → j < f → (∀ k, 0 < k → k < xs.length → k ≠ j → (atS xs k).2 ≤ (atS xs ((k - 1) / 2)).2) →
    (∀ k, 0 < k → k < xs.length → (k - 1) / 2 = j → 0 < j → (atS xs k).2 ≤ (atS xs ((j - 1) / 2)).2) → IsHp (upS f xs j) xs.length ∧ (upS f xs j).Perm xs
  | 0, xs, j, hj, hf, h1, h2 => by omega
  | f + 1, xs, j, hj, hf, h1, h2 => by
    rw [upS]
    by_cases e0 : j = 0
    · rw [if_pos e0]
      exact ⟨fun k k0 k1 => h1 k k0 k1 (by omega), List.Perm.refl _⟩
    · rw [if_neg e0]
      by_cases hlt : (atS xs ((j - 1) / 2)).2 < (atS xs j).2
      · rw [if_pos hlt]
        have hp : (j - 1) / 2 < xs.length := by omega
        have sw := atS_sw xs ((j - 1) / 2) j
        have := upS_ok f (swS xs ((j - 1) / 2) j) ((j - 1) / 2) (by rw [swS_len]; exact hp) (by omega) (fun k k0 k1 kn => ?_) (fun k k0 k1 ke j0 => ?_)
        · rw [swS_len] at this
          exact ⟨this.1, this.2.trans (swS_perm xs _ _ hp hj)⟩
        · rw [swS_len] at k1
          rw [sw k hp hj, sw _ hp hj]
          by_cases c1 : k = j
          · rw [if_pos c1, c1, if_neg (by omega), if_pos rfl]; omega
          · rw [if_neg c1, if_neg kn]
            by_cases c2 : (k - 1) / 2 = j
            · rw [if_pos c2]; exact h2 k k0 k1 c2 (by omega)
            · rw [if_neg c2]
              by_cases c3 : (k - 1) / 2 = (j - 1) / 2
              · rw [if_pos c3]
                have := h1 k k0 k1 c1
                rw [c3] at this; omega
              · rw [if_neg c3]; exact h1 k k0 k1 c1
        · rw [swS_len] at k1
          rw [sw k hp hj, sw _ hp hj, if_neg (show ¬ ((j - 1) / 2 - 1) / 2 = j by omega), if_neg (show ¬ ((j - 1) / 2 - 1) / 2 = (j - 1) / 2 by omega)]
          have hpp := h1 ((j - 1) / 2) (by omega) hp (by omega)
          by_cases c1 : k = j
          · rw [if_pos c1]; exact hpp
          · rw [if_neg c1, if_neg (by omega)]
            have := h1 k k0 k1 c1
            rw [ke] at this; omega
      · rw [if_neg hlt]
        refine ⟨fun k k0 k1 => ?_, List.Perm.refl _⟩
        by_cases c : k = j
        · rw [c]; omega
        · exact h1 k k0 k1 c
theorem downS_ok : ∀ (f : Nat) (xs : List HpSt) (i n : Nat), n ≤ xs.length → n - i < f → (∀ k, 0 < k → k < n → (k - 1) / 2 ≠ i → (atS xs k).2 ≤ (atS xs ((k - 1) / 2)).2) →
    (∀ k, 0 < k → k < n → (k - 1) / 2 = i → 0 < i → (atS xs k).2 ≤ (atS xs ((i - 1) / 2)).2) → IsHp (downS f xs i n) n ∧ (downS f xs i n).Perm xs ∧ ∀ k, n ≤ k → atS (downS f xs i n) k = atS xs k
  | 0, xs, i, n, hn, hf, h1, h2 => by omega
  | f + 1, xs, i, n, hn, hf, h1, h2 => by
    rw [downS]
    by_cases e0 : n ≤ 2 * i + 1
    · rw [if_pos e0]
      exact ⟨fun k k0 k1 => h1 k k0 k1 (by omega), List.Perm.refl _, fun _ _ => rfl⟩
    · rw [if_neg e0]
      have main : ∀ c, (c = 2 * i + 1 ∨ c = 2 * i + 2) → c < n → (∀ k, k < n → (k - 1) / 2 = i → 0 < k → (atS xs k).2 ≤ (atS xs c).2) →
          IsHp (if (atS xs i).2 < (atS xs c).2 then downS f (swS xs i c) c n else xs) n ∧ (if (atS xs i).2 < (atS xs c).2 then downS f (swS xs i c) c n else xs).Perm xs ∧ ∀ k, n ≤ k → atS (if (atS xs i).2 < (atS xs c).2 then downS f (swS xs i c) c n else xs) k = atS xs k := fun c hc hcn hmx => by
        have ec : (c - 1) / 2 = i := by omega
        have hi : i < xs.length := by omega
        have hcl : c < xs.length := by omega
        have sw := atS_sw xs i c
        by_cases hlt : (atS xs i).2 < (atS xs c).2
        · simp only [if_pos hlt]
          have := downS_ok f (swS xs i c) c n (by rw [swS_len]; exact hn) (by omega) (fun k k0 k1 kn => ?_) (fun k k0 k1 ke c0 => ?_)
          · refine ⟨this.1, this.2.1.trans (swS_perm xs _ _ hi hcl), fun k hk => ?_⟩
            rw [this.2.2 k hk, sw k hi hcl, if_neg (by omega), if_neg (by omega)]
          · rw [sw k hi hcl, sw _ hi hcl]
            by_cases c1 : k = c
            · rw [if_pos c1, if_neg kn, if_pos (by rw [c1]; exact ec)]; omega
            · rw [if_neg c1, if_neg kn]
              by_cases c2 : k = i
              · rw [if_pos c2, if_neg (by omega)]
                rw [c2]
                exact h2 c (by omega) hcn ec (by omega)
              · rw [if_neg c2]
                by_cases c3 : (k - 1) / 2 = i
                · rw [if_pos c3]; exact hmx k k1 c3 k0
                · rw [if_neg c3]; exact h1 k k0 k1 c3
          · rw [sw k hi hcl, sw _ hi hcl, ec, if_neg (by omega), if_neg (by omega), if_neg (by omega), if_pos rfl]
            have := h1 k k0 k1 (by omega)
            rw [ke] at this; exact this
        · simp only [if_neg hlt]
          refine ⟨fun k k0 k1 => ?_, List.Perm.refl _, by intros; trivial⟩
          by_cases c3 : (k - 1) / 2 = i
          · rw [c3]; have := hmx k k1 c3 k0; omega
          · exact h1 k k0 k1 c3
      by_cases h3 : 2 * i + 2 < n ∧ (atS xs (2 * i + 1)).2 < (atS xs (2 * i + 2)).2
      · rw [if_pos h3]
        exact main (2 * i + 2) (.inr rfl) h3.1 fun k k1 ke k0 => by
          have : k = 2 * i + 1 ∨ k = 2 * i + 2 := by omega
          rcases this with rfl | rfl <;> omega
      · rw [if_neg h3]
        exact main (2 * i + 1) (.inl rfl) (by omega) fun k k1 ke k0 => by
          have : k = 2 * i + 1 ∨ k = 2 * i + 2 := by omega
          rcases this with rfl | rfl
          · omega
          · have : ¬ (atS xs (2 * i + 1)).2 < (atS xs (2 * i + 2)).2 := fun q => h3 ⟨k1, q⟩
            omega
theorem push_ok (xs : List HpSt) (s : HpSt) (h : IsHp xs xs.length) : IsHp (pushS xs s) (pushS xs s).length ∧ (pushS xs s).Perm (xs ++ [s]) := by
  have at' : ∀ k, k < xs.length → atS (xs ++ [s]) k = atS xs k := fun k hk => by rw [atS_get _ k (by simp; omega), atS_get _ k hk, List.getElem_append_left hk]
  have := upS_ok (xs.length + 1) (xs ++ [s]) xs.length (by simp) (by omega) (fun k k0 k1 kn => ?_) (fun k k0 k1 ke _ => ?_)
  · unfold pushS
    exact ⟨by rw [this.2.length_eq]; exact this.1, this.2⟩
  · simp only [List.length_append, List.length_cons, List.length_nil] at k1
    rw [at' k (by omega), at' _ (by omega)]
    exact h k k0 (by omega)
  · simp only [List.length_append, List.length_cons, List.length_nil] at k1
    omega
theorem pop_ok (xs : List HpSt) (h : IsHp xs xs.length) (hn : 0 < xs.length) :
    IsHp ((popY xs).take (xs.length - 1)) ((popY xs).take (xs.length - 1)).length ∧ (atS (popY xs) (xs.length - 1) :: (popY xs).take (xs.length - 1)).Perm xs ∧ ((popY xs).take (xs.length - 1)).length = xs.length - 1 ∧ ∀ e ∈ xs, e.2 ≤ (atS (popY xs) (xs.length - 1)).2 := by
  have h0 : 0 < xs.length := hn
  have h1 : xs.length - 1 < xs.length := by omega
  have sw := fun k => atS_sw xs 0 (xs.length - 1) k h0 h1
  have D := downS_ok (popN xs + 1) (swS xs 0 (popN xs)) 0 (popN xs) (by rw [swS_len]; unfold popN; omega) (by omega) (fun k k0 k1 kn => by
    unfold popN at *
    rw [sw, sw, if_neg (by omega), if_neg (by omega), if_neg (by omega), if_neg (by omega)]
    exact h k k0 (by omega)) (fun k k0 k1 ke c => by omega)
  obtain ⟨d1, d2, d3⟩ := D
  have hp : (popY xs).Perm xs := d2.trans (swS_perm xs _ _ h0 h1)
  have hl : (popY xs).length = xs.length := hp.length_eq
  have hl2 : ((popY xs).take (xs.length - 1)).length = xs.length - 1 := by simp; omega
  have et : ∀ k, k < xs.length - 1 → atS ((popY xs).take (xs.length - 1)) k = atS (popY xs) k := fun k hk => by
    rw [atS_get _ k (by omega), atS_get _ k (by omega), List.getElem_take]
  have es : atS (popY xs) (xs.length - 1) = atS xs 0 := by
    show atS (downS (popN xs + 1) (swS xs 0 (popN xs)) 0 (popN xs)) (xs.length - 1) = _
    rw [d3 _ (by unfold popN; omega)]
    show atS (swS xs 0 (xs.length - 1)) _ = _
    rw [sw, if_pos rfl]
  refine ⟨fun k k0 k1 => ?_, ?_, hl2, fun e he => ?_⟩
  · rw [hl2] at k1
    rw [et k k1, et _ (by omega)]
    exact d1 k k0 k1
  · have e2 : popY xs = (popY xs).take (xs.length - 1) ++ [atS (popY xs) (xs.length - 1)] := by
      rw [atS_get _ _ (by omega)]
      have e3 : (popY xs).drop (xs.length - 1) = [(popY xs)[xs.length - 1]] := by
        rw [List.drop_eq_getElem_cons (by omega), List.drop_eq_nil_of_le (by omega)]
      rw [← e3, List.take_append_drop]
    have : (atS (popY xs) (xs.length - 1) :: (popY xs).take (xs.length - 1)).Perm (popY xs) := by
      conv => rhs; rw [e2]
      exact (List.perm_append_singleton _ _).symm
    exact this.trans hp
  · rw [es]
    obtain ⟨k, hk, rfl⟩ := List.getElem_of_mem he
    rw [← atS_get xs k hk]
    exact h.top k hk
end Lf
/- The neighbours of a cell. -/
namespace Lf
open Go Go.Abs
set_option linter.unusedVariables false
set_option linter.unusedSimpArgs false
theorem mem_nbU (w x y v : Nat) : ∀ (m u j : Nat), j ∈ nbU w x y v u m ↔ ∃ a, u ≤ a ∧ a < u + m ∧ ¬ (a = x ∧ v = y) ∧ j = v * w + a
  | 0, u, j => by simp only [nbU, List.not_mem_nil, false_iff]; rintro ⟨a, h1, h2, _⟩; omega
  | m + 1, u, j => by
    rw [nbU]
    have ih := mem_nbU w x y v m (u + 1) j
    by_cases h : u = x ∧ v = y
    · rw [if_pos h, ih]
      constructor
      · rintro ⟨a, h1, h2, h3, h4⟩; exact ⟨a, by omega, by omega, h3, h4⟩
      · rintro ⟨a, h1, h2, h3, h4⟩
        have : a ≠ u := fun e => h3 (by rw [e]; exact h)
        exact ⟨a, by omega, by omega, h3, h4⟩
    · rw [if_neg h, List.mem_cons, ih]
      constructor
      · rintro (rfl | ⟨a, h1, h2, h3, h4⟩)
        · exact ⟨u, by omega, by omega, h, rfl⟩
        · exact ⟨a, by omega, by omega, h3, h4⟩
      · rintro ⟨a, h1, h2, h3, h4⟩
        by_cases e : a = u
        · left; rw [h4, e]
        · right; exact ⟨a, by omega, by omega, h3, h4⟩
theorem mem_nbV (w x y u0 m : Nat) : ∀ (k v j : Nat), j ∈ nbV w x y u0 m v k ↔ ∃ b a, v ≤ b ∧ b < v + k ∧ u0 ≤ a ∧ a < u0 + m ∧ ¬ (a = x ∧ b = y) ∧ j = b * w + a
  | 0, v, j => by simp only [nbV, List.not_mem_nil, false_iff]; rintro ⟨b, a, h1, h2, _⟩; omega
  | k + 1, v, j => by
    rw [nbV, List.mem_append, mem_nbU, mem_nbV w x y u0 m k (v + 1) j]
    constructor
    · rintro (⟨a, h1, h2, h3, h4⟩ | ⟨b, a, h1, h2, h3⟩)
      · exact ⟨v, a, by omega, by omega, h1, h2, h3, h4⟩
      · exact ⟨b, a, by omega, by omega, h3⟩
    · rintro ⟨b, a, h1, h2, h3, h4, h5, h6⟩
      by_cases e : b = v
      · subst e; left; exact ⟨a, h3, h4, h5, h6⟩
      · right; exact ⟨b, a, by omega, by omega, h3, h4, h5, h6⟩
theorem len_nbU (w x y v : Nat) : ∀ (m u : Nat), (nbU w x y v u m).length ≤ m ∧ (v = y → u ≤ x → x < u + m → (nbU w x y v u m).length + 1 ≤ m)
  | 0, u => ⟨by simp [nbU], fun _ _ h => by omega⟩
  | m + 1, u => by
    have ih := len_nbU w x y v m (u + 1)
    rw [nbU]
    by_cases h : u = x ∧ v = y
    · rw [if_pos h]; exact ⟨by omega, fun _ _ _ => by omega⟩
    · rw [if_neg h]
      simp only [List.length_cons]
      refine ⟨by omega, fun e h1 h2 => ?_⟩
      have : u ≠ x := fun q => h ⟨q, e⟩
      have := ih.2 e (by omega) (by omega)
      omega
theorem len_nbV (w x y u0 m : Nat) : ∀ (k v : Nat), (nbV w x y u0 m v k).length ≤ k * m ∧ (v ≤ y → y < v + k → u0 ≤ x → x < u0 + m → (nbV w x y u0 m v k).length + 1 ≤ k * m)
  | 0, v => ⟨by simp [nbV], fun _ h => by omega⟩
  | k + 1, v => by
    have ih := len_nbV w x y u0 m k (v + 1)
    have iu := len_nbU w x y v m u0
    rw [nbV, List.length_append, Nat.succ_mul]
    refine ⟨by omega, fun h1 h2 h3 h4 => ?_⟩
    by_cases e : v = y
    · have := iu.2 e h3 h4; omega
    · have := ih.2 (by omega) (by omega) h3 h4; omega
theorem nbs_len (w h i : Nat) (hi : i < w * h) : (nbs w h i).length ≤ 8 := by
  have w0 : 0 < w := by cases w with | zero => simp at hi | succ n => omega
  have hx : i % w < w := Nat.mod_lt _ w0
  have hy : i / w < h := by rw [Nat.div_lt_iff_lt_mul w0, Nat.mul_comm]; exact hi
  unfold nbs
  simp only []
  generalize i % w = x at *
  generalize i / w = y at *
  have := (len_nbV w x y (x - 1) (min (x + 1) (w - 1) + 1 - (x - 1)) (min (y + 1) (h - 1) + 1 - (y - 1)) (y - 1)).2 (by omega) (by omega) (by omega) (by omega)
  generalize hk : min (y + 1) (h - 1) + 1 - (y - 1) = k at *
  generalize hm : min (x + 1) (w - 1) + 1 - (x - 1) = m at *
  have h1 : k ≤ 3 := by omega
  have h2 : m ≤ 3 := by omega
  have := Nat.mul_le_mul h1 h2
  omega
/-- Two cells that touch. -/
def adj (w i j : Nat) : Prop := i ≠ j ∧ i % w ≤ j % w + 1 ∧ j % w ≤ i % w + 1 ∧ i / w ≤ j / w + 1 ∧ j / w ≤ i / w + 1
theorem adj.symm {w i j : Nat} (h : adj w i j) : adj w j i := ⟨Ne.symm h.1, h.2.2.1, h.2.1, h.2.2.2.2, h.2.2.2.1⟩
theorem mem_nbs (w h i j : Nat) (hi : i < w * h) : j ∈ nbs w h i ↔ j < w * h ∧ adj w i j := by
  have w0 : 0 < w := by cases w with | zero => simp at hi | succ n => omega
  have hx : i % w < w := Nat.mod_lt _ w0
  have hy : i / w < h := by rw [Nat.div_lt_iff_lt_mul w0, Nat.mul_comm]; exact hi
  unfold nbs
  simp only []
  rw [mem_nbV]
  have ei := Nat.div_add_mod i w
  unfold adj
  constructor
  · rintro ⟨b, a, h1, h2, h3, h4, h5, rfl⟩
    have haw : a < w := by clear ei hy h1 h2 h5; generalize i % w = x at *; omega
    have hb : b + 1 ≤ h := by clear ei hx h3 h4 h5; generalize i / w = x at *; omega
    have k1 : i / w ≤ b + 1 ∧ b ≤ i / w + 1 := by clear ei hx h3 h4 h5; generalize i / w = x at *; omega
    have k2 : i % w ≤ a + 1 ∧ a ≤ i % w + 1 := by clear ei hy h1 h2 h5; generalize i % w = x at *; omega
    clear h1 h2 h3 h4
    have ea : (b * w + a) % w = a := by rw [Nat.mul_comm, Nat.mul_add_mod]; exact Nat.mod_eq_of_lt haw
    have eb : (b * w + a) / w = b := by rw [Nat.mul_comm, Nat.mul_add_div w0, Nat.div_eq_of_lt haw]; omega
    have h6 := Nat.mul_le_mul_right w hb
    rw [Nat.succ_mul, Nat.mul_comm h w] at h6
    refine ⟨by generalize b * w = q at *; generalize w * h = r at *; omega, fun e => h5 ?_, ?_⟩
    · rw [← e] at ea eb; exact ⟨ea.symm, eb.symm⟩
    · rw [ea, eb]; exact ⟨k2.1, k2.2, k1.1, k1.2⟩
  · rintro ⟨hj, hne, h1, h2, h3, h4⟩
    have hjx : j % w < w := Nat.mod_lt _ w0
    have hjy : j / w < h := by rw [Nat.div_lt_iff_lt_mul w0, Nat.mul_comm]; exact hj
    have ej := Nat.div_add_mod j w
    refine ⟨j / w, j % w, ?_, ?_, ?_, ?_, fun q => hne ?_, by rw [Nat.mul_comm]; exact ej.symm⟩
    · generalize i / w = y at *; generalize j / w = z at *; omega
    · generalize i / w = y at *; generalize j / w = z at *; omega
    · generalize i % w = y at *; generalize j % w = z at *; omega
    · generalize i % w = y at *; generalize j % w = z at *; omega
    · rw [← ei, ← ej, q.1, q.2]
end Lf
/- Saddles: the greatest least height of a way. -/
namespace Lf
open Go Go.Abs
set_option linter.unusedVariables false
set_option linter.unusedSimpArgs false
/-- A way over cells of at least a height. -/
inductive Way (w h : Nat) (l : List Bound) (θ : Int) (a : Nat) : Nat → Prop
  | start : a < w * h → θ ≤ hgtB (atB l a) → Way w h l θ a a
  | step {i j : Nat} : Way w h l θ a i → j < w * h → adj w i j → θ ≤ hgtB (atB l j) → Way w h l θ a j
section
variable {w h : Nat} {l : List Bound} {θ θ' : Int} {a b c : Nat}
theorem Way.lt (k : Way w h l θ a b) : b < w * h := by cases k <;> assumption
theorem Way.top (k : Way w h l θ a b) : θ ≤ hgtB (atB l b) := by cases k <;> assumption
theorem Way.mono (k : Way w h l θ a b) (e : θ' ≤ θ) : Way w h l θ' a b := by
  induction k with
  | start h1 h2 => exact .start h1 (Int.le_trans e h2)
  | step k h1 h2 h3 ih => exact .step ih h1 h2 (Int.le_trans e h3)
theorem Way.trans (k : Way w h l θ a b) (m : Way w h l θ b c) : Way w h l θ a c := by
  induction m with
  | start h1 h2 => exact k
  | step m h1 h2 h3 ih => exact .step ih h1 h2 h3
theorem Way.symm (k : Way w h l θ a b) : Way w h l θ b a := by
  induction k with
  | start h1 h2 => exact .start h1 h2
  | step k h1 h2 h3 ih => exact (Way.step (.start h1 h3) k.lt h2.symm k.top).trans ih
end
theorem cell_mod {w x : Nat} (y : Nat) (hx : x < w) : (y * w + x) % w = x := by rw [Nat.mul_comm, Nat.mul_add_mod]; exact Nat.mod_eq_of_lt hx
theorem cell_div {w x : Nat} (y : Nat) (hx : x < w) : (y * w + x) / w = y := by rw [Nat.mul_comm, Nat.mul_add_div (by omega), Nat.div_eq_of_lt hx]; omega
theorem cell_lt {w h x y : Nat} (hx : x < w) (hy : y < h) : y * w + x < w * h := by
  have := Nat.mul_le_mul_right w (show y + 1 ≤ h by omega)
  rw [Nat.succ_mul, Nat.mul_comm h w] at this; omega
theorem cell_adj {w x y x' y' : Nat} (hx : x < w) (hx' : x' < w) (h : ¬ (x = x' ∧ y = y')) (h1 : x ≤ x' + 1 ∧ x' ≤ x + 1) (h2 : y ≤ y' + 1 ∧ y' ≤ y + 1) : adj w (y * w + x) (y' * w + x') := by
  unfold adj
  rw [cell_mod y hx, cell_mod y' hx', cell_div y hx, cell_div y' hx']
  refine ⟨fun e => h ?_, h1.1, h1.2, h2.1, h2.2⟩
  have e1 := congrArg (· % w) e; have e2 := congrArg (· / w) e
  simp only [cell_mod y hx, cell_mod y' hx', cell_div y hx, cell_div y' hx'] at e1 e2
  exact ⟨e1, e2⟩
/-- All cells are joined. -/
theorem way_all {w h : Nat} {l : List Bound} {θ : Int} (hθ : ∀ k, θ ≤ hgtB (atB l k)) {a : Nat} (ha : a < w * h) (j : Nat) (hj : j < w * h) : Way w h l θ a j := by
  have w0 : 0 < w := by cases w with | zero => simp at hj | succ n => omega
  have row : ∀ x y x', x < w → y < h → x' < w → Way w h l θ (y * w + x) (y * w + x') := fun x y x' hx hy hx' => by
    have up : ∀ d x, x + d < w → Way w h l θ (y * w + x) (y * w + (x + d)) := fun d => by
      induction d with
      | zero => exact fun x hx => .start (cell_lt (by omega) hy) (hθ _)
      | succ d ih => exact fun x hx => .step (ih x (by omega)) (cell_lt (by omega) hy) (cell_adj (by omega) (by omega) (by omega) (by omega) (by omega)) (hθ _)
    rcases Nat.le_total x x' with q | q
    · have := up (x' - x) x (by omega); rwa [show x + (x' - x) = x' by omega] at this
    · have := up (x - x') x' (by omega); rw [show x' + (x - x') = x by omega] at this; exact this.symm
  have col : ∀ x y y', x < w → y < h → y' < h → Way w h l θ (y * w + x) (y' * w + x) := fun x y y' hx hy hy' => by
    have up : ∀ d y, y + d < h → Way w h l θ (y * w + x) ((y + d) * w + x) := fun d => by
      induction d with
      | zero => exact fun y hy => .start (cell_lt hx (by omega)) (hθ _)
      | succ d ih => exact fun y hy => .step (ih y (by omega)) (cell_lt hx (by omega)) (cell_adj hx hx (by omega) (by omega) (by omega)) (hθ _)
    rcases Nat.le_total y y' with q | q
    · have := up (y' - y) y (by omega); rwa [show y + (y' - y) = y' by omega] at this
    · have := up (y - y') y' (by omega); rw [show y' + (y - y') = y by omega] at this; exact this.symm
  have ax : a % w < w := Nat.mod_lt _ w0
  have jx : j % w < w := Nat.mod_lt _ w0
  have ay : a / w < h := by rw [Nat.div_lt_iff_lt_mul w0, Nat.mul_comm]; exact ha
  have jy : j / w < h := by rw [Nat.div_lt_iff_lt_mul w0, Nat.mul_comm]; exact hj
  have ea := Nat.div_add_mod a w; have ej := Nat.div_add_mod j w
  rw [Nat.mul_comm] at ea ej
  have := (row (a % w) (a / w) (j % w) ax ay jx).trans (col (j % w) (a / w) (j / w) jx ay jy)
  rwa [ea, ej] at this
theorem hgt_low (l : List Bound) : ∃ θ : Int, ∀ k, θ ≤ hgtB (atB l k) := by
  induction l with
  | nil => exact ⟨0, fun k => by unfold atB; simp [hgtB, hgt]⟩
  | cons x l ih =>
    obtain ⟨θ, hθ⟩ := ih
    refine ⟨min θ (hgtB x), fun k => ?_⟩
    cases k with
    | zero => have : atB (x :: l) 0 = x := rfl
              rw [this]; omega
    | succ k => have : atB (x :: l) (k + 1) = atB l k := rfl
                rw [this]; have := hθ k; omega
theorem pushN_ok (l : List Bound) (done : List Bool) (ht : Int) : ∀ (is : List Nat) (q : List HpSt), IsHp q q.length →
    IsHp (pushN l done ht is q) (pushN l done ht is q).length ∧ (∀ e, e ∈ pushN l done ht is q ↔ e ∈ q ∨ ∃ i ∈ is, done.getD i false = false ∧ e = ((i : Int), min ht (hgtB (atB l i)))) ∧ (pushN l done ht is q).length ≤ q.length + is.length
  | [], q, hq => ⟨hq, fun e => by simp [pushN], by simp [pushN]⟩
  | i :: is, q, hq => by
    rw [pushN]
    by_cases hd : done.getD i false = true
    · rw [if_pos hd]
      obtain ⟨h1, h2, h3⟩ := pushN_ok l done ht is q hq
      refine ⟨h1, fun e => ?_, by simp only [List.length_cons]; omega⟩
      rw [h2 e]
      constructor
      · rintro (h | ⟨j, hj, h⟩)
        · exact .inl h
        · exact .inr ⟨j, List.mem_cons_of_mem _ hj, h⟩
      · rintro (h | ⟨j, hj, h, e⟩)
        · exact .inl h
        · rcases List.mem_cons.1 hj with rfl | hj
          · rw [hd] at h; cases h
          · exact .inr ⟨j, hj, h, e⟩
    · rw [if_neg hd]
      have hd : done.getD i false = false := by simpa using hd
      obtain ⟨p1, p2⟩ := push_ok q ((i : Int), min ht (hgtB (atB l i))) hq
      obtain ⟨h1, h2, h3⟩ := pushN_ok l done ht is _ p1
      refine ⟨h1, fun e => ?_, by have := p2.length_eq; simp only [List.length_append, List.length_cons, List.length_nil] at this ⊢; omega⟩
      rw [h2 e, p2.mem_iff, List.mem_append, List.mem_singleton]
      constructor
      · rintro ((h | rfl) | ⟨j, hj, h⟩)
        · exact .inl h
        · exact .inr ⟨i, List.mem_cons_self .., hd, rfl⟩
        · exact .inr ⟨j, List.mem_cons_of_mem _ hj, h⟩
      · rintro (h | ⟨j, hj, h, e⟩)
        · exact .inl (.inl h)
        · rcases List.mem_cons.1 hj with rfl | hj
          · exact .inl (.inr e)
          · exact .inr ⟨j, hj, h, e⟩
/-- What holds at each round of the search. -/
structure SadI (w h : Nat) (l : List Bound) (a : Nat) (q : List HpSt) (out : List Int) (done : List Bool) : Prop where
  hp : IsHp q q.length
  ol : out.length = w * h
  dl : done.length = w * h
  E : ∀ e ∈ q, 0 ≤ e.1 ∧ e.1 < (w * h : Nat) ∧ Way w h l e.2 a e.1.toNat
  S : ∀ j, done.getD j false = true → Way w h l (out.getD j 0) a j
  C : ∀ j θ, done.getD j false = true → Way w h l θ a j → θ ≤ out.getD j 0
  F : done.getD a false = true ∨ ∃ e ∈ q, hgtB (atB l a) ≤ e.2 ∧ e.1 = a
  N : ∀ i j, done.getD i false = true → j < w * h → adj w i j → done.getD j false = true ∨ ∃ e ∈ q, min (out.getD i 0) (hgtB (atB l j)) ≤ e.2 ∧ e.1 = j
theorem SadI.seen {w h : Nat} {l : List Bound} {a : Nat} {q : List HpSt} {out : List Int} {done : List Bool} (I : SadI w h l a q out done) {θ : Int} {j : Nat} (k : Way w h l θ a j) : done.getD j false = true ∨ ∃ e ∈ q, θ ≤ e.2 := by
  induction k with
  | start h1 h2 =>
    rcases I.F with f | ⟨e, he, f, _⟩
    · exact .inl f
    · exact .inr ⟨e, he, Int.le_trans h2 f⟩
  | step k h1 h2 h3 ih =>
    rcases ih with ih | ih
    · rcases I.N _ _ ih h1 h2 with n | ⟨e, he, n, _⟩
      · exact .inl n
      · have := I.C _ _ ih k
        exact .inr ⟨e, he, by omega⟩
    · exact .inr ih
def undone (done : List Bool) : Nat := done.countP fun b => !b
theorem getD_set {α : Type} (xs : List α) (i j : Nat) (v d : α) (hi : i < xs.length) : (xs.set i v).getD j d = if j = i then v else xs.getD j d := by
  simp only [List.getD_eq_getElem?_getD, List.getElem?_set]
  by_cases e : j = i
  · subst e; simp [hi]
  · rw [if_neg (Ne.symm e), if_neg e]
theorem undone_set (done : List Bool) (i : Nat) (hi : i < done.length) (h : done.getD i false = false) : undone (done.set i true) + 1 = undone done := by
  have e : done[i] = false := by simpa [List.getD_eq_getElem?_getD, List.getElem?_eq_getElem hi] using h
  have pos : 0 < done.countP fun b => !b := List.countP_pos_iff.2 ⟨done[i], List.getElem_mem hi, by simp [e]⟩
  unfold undone
  rw [List.countP_set hi]
  simp only [e, Bool.not_false, if_true, Bool.not_true, Bool.false_eq_true, if_false]
  omega
theorem sadL_ok {w h : Nat} {l : List Bound} {a : Nat} (hl : l.length = w * h) : ∀ (f : Nat) (q : List HpSt) (out : List Int) (done : List Bool), SadI w h l a q out done → q.length + 8 * undone done < f → f ≤ 20000 →
    Has (sadL w h l f q out done) fun R => R.length = w * h ∧ (∀ j θ, Way w h l θ a j → θ ≤ R.getD j 0 ∧ Way w h l (R.getD j 0) a j)
  | 0, q, out, done, I, hf, hf2 => by omega
  | f + 1, q, out, done, I, hf, hf2 => by
    rw [sadL]
    refine Has.ite (fun h0 => Has.ret ⟨I.ol, fun j θ k => ?_⟩) fun h0 => Has.pos (by omega) ?_
    · have hq : q = [] := List.length_eq_zero_iff.1 h0
      have d := (I.seen k).resolve_right (by rw [hq]; rintro ⟨e, he, _⟩; cases he)
      exact ⟨I.C j θ d k, I.S j d⟩
    · obtain ⟨p1, p2, p3, p4⟩ := pop_ok q I.hp (by omega)
      generalize (popY q).take (q.length - 1) = q' at p1 p2 p3 ⊢
      generalize atS (popY q) (q.length - 1) = s at p2 p4 ⊢
      obtain ⟨sc, sh⟩ := s
      simp only [] at p4 ⊢
      have ms : ∀ e, e ∈ q ↔ e = (sc, sh) ∨ e ∈ q' := fun e => by rw [← p2.mem_iff, List.mem_cons]
      obtain ⟨s0, s1, sw⟩ := I.E (sc, sh) ((ms _).2 (.inl rfl))
      simp only [] at s0 s1 sw
      refine Has.pos ⟨s0, by rw [hl]; exact s1⟩ ?_
      have s2 : sc.toNat < w * h := by omega
      refine Has.ite (fun hd => ?_) fun hd => ?_
      · refine sadL_ok hl f q' out done ⟨p1, I.ol, I.dl, fun e he => I.E e ((ms e).2 (.inr he)), I.S, I.C, ?_, fun i j di hj hij => ?_⟩ (by omega) (by omega)
        · rcases I.F with q1 | ⟨e, he, q1, q2⟩
          · exact .inl q1
          · rcases (ms e).1 he with rfl | he
            · left
              simp only [] at q2
              rw [q2] at hd; simpa using hd
            · exact .inr ⟨e, he, q1, q2⟩
        · rcases I.N i j di hj hij with q1 | ⟨e, he, q1, q2⟩
          · exact .inl q1
          · rcases (ms e).1 he with rfl | he
            · left
              simp only [] at q2
              rw [q2] at hd; simpa using hd
            · exact .inr ⟨e, he, q1, q2⟩
      · have hd : done.getD sc.toNat false = false := by simpa using hd
        have hsd : sc.toNat < done.length := by rw [I.dl]; exact s2
        have hso : sc.toNat < out.length := by rw [I.ol]; exact s2
        have hsc : (sc.toNat : Int) = sc := by omega
        generalize sc.toNat = s at *
        obtain ⟨n1, n2, n3⟩ := pushN_ok l (done.set s true) sh (nbs w h s) q' p1
        have nl := nbs_len w h s s2
        have un := undone_set done s hsd hd
        have gd : ∀ j, (done.set s true).getD j false = if j = s then true else done.getD j false := fun j => getD_set done s j true false hsd
        have go : ∀ j, (out.set s sh).getD j 0 = if j = s then sh else out.getD j 0 := fun j => getD_set out s j sh 0 hso
        refine sadL_ok hl f _ _ _ ⟨n1, by rw [List.length_set]; exact I.ol, by rw [List.length_set]; exact I.dl, fun e he => ?_, fun j hj => ?_, fun j θ hj k => ?_, ?_, fun i j di hj hij => ?_⟩ (by omega) (by omega)
        · rcases (n2 e).1 he with he | ⟨i, hi, hdi, rfl⟩
          · exact I.E e ((ms e).2 (.inr he))
          · obtain ⟨i1, i2⟩ := (mem_nbs w h s i s2).1 hi
            simp only [Int.toNat_natCast]
            exact ⟨by omega, by omega, .step (sw.mono (by omega)) i1 i2 (by omega)⟩
        · rw [gd] at hj
          rw [go]
          by_cases e : j = s
          · rw [if_pos e, e]; exact sw
          · rw [if_neg e] at hj ⊢; exact I.S j hj
        · rw [gd] at hj
          rw [go]
          by_cases e : j = s
          · rw [if_pos e]
            rw [e] at k
            rcases I.seen k with d | ⟨x, hx, q1⟩
            · rw [hd] at d; cases d
            · exact Int.le_trans q1 (p4 x hx)
          · rw [if_neg e] at hj ⊢; exact I.C j θ hj k
        · rw [gd]
          by_cases e : a = s
          · left; rw [if_pos e]
          · rw [if_neg e]
            rcases I.F with q1 | ⟨x, hx, q1, q2⟩
            · exact .inl q1
            · rcases (ms x).1 hx with rfl | hx
              · simp only [] at q2; omega
              · exact .inr ⟨x, (n2 x).2 (.inl hx), q1, q2⟩
        · rw [gd] at di
          rw [gd, go]
          by_cases ej : j = s
          · left; rw [if_pos ej]
          · rw [if_neg ej]
            by_cases ei : i = s
            · rw [if_pos ei]
              by_cases dj : done.getD j false = true
              · exact .inl dj
              · right
                have dj' : done.getD j false = false := by simpa using dj
                exact ⟨((j : Int), min sh (hgtB (atB l j))), (n2 _).2 (.inr ⟨j, (mem_nbs w h s j s2).2 ⟨hj, by rw [← ei]; exact hij⟩, by rw [gd, if_neg ej]; exact dj', rfl⟩), Int.le_refl _, rfl⟩
            · rw [if_neg ei] at di ⊢
              rcases I.N i j di hj hij with q1 | ⟨x, hx, q1, q2⟩
              · exact .inl q1
              · rcases (ms x).1 hx with rfl | hx
                · simp only [] at q2; omega
                · exact .inr ⟨x, (n2 x).2 (.inl hx), q1, q2⟩
theorem sadR_ok {w h : Nat} {l : List Bound} {a : Nat} (hl : l.length = w * h) (hn : w * h ≤ 1024) (ha : a < w * h) : Has (sadR w h l a) fun R => R.length = w * h ∧ ∀ j, j < w * h → ∀ θ, θ ≤ R.getD j 0 ↔ Way w h l θ a j := by
  unfold sadR
  have rep : ∀ j, (List.replicate l.length false).getD j false = false := fun j => by
    simp only [List.getD_eq_getElem?_getD, List.getElem?_replicate]; split <;> rfl
  have un : undone (List.replicate l.length false) = w * h := by unfold undone; rw [hl, List.countP_replicate]; rfl
  refine (sadL_ok hl (9 * l.length + 1) _ _ _ ⟨fun k k0 k1 => by simp at k1; omega, by simp [hl], by simp [hl], fun e he => ?_, fun j hj => (by rw [rep] at hj; cases hj), fun j θ hj => (by rw [rep] at hj; cases hj), .inr ⟨_, List.mem_cons_self .., Int.le_refl _, rfl⟩, fun i j di => (by rw [rep] at di; cases di)⟩ (by rw [un]; simp only [List.length_cons, List.length_nil]; omega) (by omega)).mono fun R ⟨r1, r2⟩ => ⟨r1, fun j hj θ => ⟨fun e => ?_, fun k => (r2 j θ k).1⟩⟩
  · rw [List.mem_singleton] at he
    rw [he]
    simp only [Int.toNat_natCast]
    exact ⟨by omega, by omega, .start ha (Int.le_refl _)⟩
  · obtain ⟨μ, hμ⟩ := hgt_low l
    exact (r2 j μ (way_all hμ ha j hj)).2.mono e
end Lf
/- The sources that find.Find finds. -/
namespace Lf
open Go Go.Abs
set_option linter.unusedVariables false
set_option linter.unusedSimpArgs false
def SadOf (w h : Nat) (t : List Bound) (p : Int) (R : List Int) : Prop := R.length = w * h ∧ ∀ j, j < w * h → ∀ θ, θ ≤ R.getD j 0 ↔ Way w h t θ p.toNat j
def loB (t : List Bound) (x : Int) : Int := (atB t x.toNat).Lo
theorem getD_snoc {α : Type} (xs : List α) (x d : α) (k : Nat) : (xs ++ [x]).getD k d = if k < xs.length then xs.getD k d else if k = xs.length then x else d := by
  simp only [List.getD_eq_getElem?_getD, List.getElem?_append]
  by_cases h : k < xs.length
  · rw [if_pos h, if_pos h]
  · rw [if_neg h, if_neg h]
    by_cases e : k = xs.length
    · rw [if_pos e, e]; simp
    · rw [if_neg e, List.getElem?_eq_none (by simp; omega)]; rfl
theorem mem_getD {α : Type} (xs : List α) (d : α) (k : Nat) (h : k < xs.length) : xs.getD k d ∈ xs := by
  rw [List.getD_eq_getElem?_getD, List.getElem?_eq_getElem h]; exact List.getElem_mem h
theorem getD_of_mem {α : Type} (xs : List α) (d x : α) (h : x ∈ xs) : ∃ k, k < xs.length ∧ xs.getD k d = x := by
  obtain ⟨k, hk, e⟩ := List.getElem_of_mem h
  exact ⟨k, hk, by rw [List.getD_eq_getElem?_getD, List.getElem?_eq_getElem hk]; exact e⟩
theorem any_way (ws : List (List Int)) (x : Nat) (v : Int) : (ws.any fun R => decide (v ≤ R.getD x 0)) = true ↔ ∃ k, k < ws.length ∧ v ≤ wayG ws k x := by
  rw [List.any_eq_true]
  constructor
  · rintro ⟨R, hR, h⟩
    obtain ⟨k, hk, e⟩ := getD_of_mem ws [] R hR
    exact ⟨k, hk, by unfold wayG; rw [e]; exact of_decide_eq_true h⟩
  · rintro ⟨k, hk, h⟩
    exact ⟨_, mem_getD ws [] k hk, decide_eq_true h⟩
/-- What holds behind a part of the sure cells. -/
structure FdI (w h : Nat) (t : List Bound) (pre ps : List Int) (ws : List (List Int)) : Prop where
  len : ps.length = ws.length
  sad : ∀ k, k < ps.length → SadOf w h t (ps.getD k 0) (ws.getD k [])
  sub : ps.Sublist pre
  new : ∀ j k, j < k → k < ps.length → wayG ws j (ps.getD k 0).toNat < loB t (ps.getD k 0)
  cov : ∀ x ∈ pre, ∃ k, k < ps.length ∧ loB t x ≤ wayG ws k x.toNat
theorem FdI.nil (w h : Nat) (t : List Bound) : FdI w h t [] [] [] := ⟨rfl, fun k hk => by simp at hk, List.Sublist.refl _, fun j k _ hk => by simp at hk, fun x hx => by cases hx⟩
theorem fd1_ok {w h : Nat} {t : List Bound} (hl : t.length = w * h) (hn : w * h ≤ 1024) (L : List Int) (hL : ∀ x ∈ L, 0 ≤ x ∧ x < (w * h : Nat) ∧ loB t x ≤ hgtB (atB t x.toNat))
    (hc : ∀ pre ps ws, pre <+: L → FdI w h t pre ps ws → ps.length < 24) : ∀ (l pre ps : List Int) (ws : List (List Int)), pre ++ l = L → FdI w h t pre ps ws → Has (fd1 w h t l ps ws) fun r => ∃ ps' ws', r = some (ps', ws') ∧ FdI w h t L ps' ws'
  | [], pre, ps, ws, e, I => by
    rw [fd1]
    rw [List.append_nil] at e
    subst e
    exact Has.ret ⟨ps, ws, rfl, I⟩
  | x :: l, pre, ps, ws, e, I => by
    have e' : (pre ++ [x]) ++ l = L := by rw [← e]; simp
    obtain ⟨x0, x1, x2⟩ := hL x (by rw [← e]; simp)
    rw [fd1]
    refine Has.ite (fun ha => ?_) fun ha => Has.neg (by have := hc pre ps ws ⟨x :: l, e⟩ I; omega) ?_
    · obtain ⟨k, hk, hv⟩ := (any_way ws x.toNat _).1 ha
      refine fd1_ok hl hn L hL hc l (pre ++ [x]) ps ws e' ⟨I.len, I.sad, I.sub.trans (List.sublist_append_left _ _), I.new, fun y hy => ?_⟩
      rcases List.mem_append.1 hy with hy | hy
      · exact I.cov y hy
      · rw [List.mem_singleton.1 hy]; exact ⟨k, by rw [I.len]; exact hk, hv⟩
    · have ha : ∀ k, k < ws.length → wayG ws k x.toNat < loB t x := fun k hk => by
        by_cases q : loB t x ≤ wayG ws k x.toNat
        · exact absurd ((any_way ws x.toNat _).2 ⟨k, hk, q⟩) ha
        · omega
      refine (sadR_ok hl hn (show x.toNat < w * h by omega)).bind fun R hR => ?_
      have il := I.len
      have gp : ∀ k, (ps ++ [x]).getD k 0 = if k < ps.length then ps.getD k 0 else if k = ps.length then x else 0 := getD_snoc ps x 0
      have gw : ∀ k, (ws ++ [R]).getD k [] = if k < ws.length then ws.getD k [] else if k = ws.length then R else [] := getD_snoc ws R []
      refine fd1_ok hl hn L hL hc l (pre ++ [x]) (ps ++ [x]) (ws ++ [R]) e' ⟨by simp [il], fun k hk => ?_, I.sub.append (List.Sublist.refl _), fun j k jk hk => ?_, fun y hy => ?_⟩
      · rw [List.length_append, List.length_singleton] at hk
        rw [gp, gw]
        by_cases q : k < ps.length
        · rw [if_pos q, if_pos (by omega)]; exact I.sad k q
        · rw [if_neg q, if_pos (show k = ps.length by omega), if_neg (show ¬ k < ws.length by omega), if_pos (show k = ws.length by omega)]; exact hR
      · rw [List.length_append, List.length_singleton] at hk
        have ej : wayG (ws ++ [R]) j = wayG ws j := by unfold wayG; rw [gw, if_pos (by omega)]
        rw [ej, gp]
        by_cases q : k < ps.length
        · rw [if_pos q]; exact I.new j k jk q
        · rw [if_neg q, if_pos (by omega)]; exact ha j (by omega)
      · have keep : ∀ k, k < ws.length → wayG (ws ++ [R]) k = wayG ws k := fun k hk => by unfold wayG; rw [gw, if_pos hk]
        rcases List.mem_append.1 hy with hy | hy
        · obtain ⟨k, hk, hv⟩ := I.cov y hy
          exact ⟨k, by simp; omega, by rw [keep k (by omega)]; exact hv⟩
        · rw [List.mem_singleton.1 hy]
          refine ⟨ps.length, by simp, ?_⟩
          have : wayG (ws ++ [R]) ps.length x.toNat = R.getD x.toNat 0 := by unfold wayG; rw [gw, if_neg (by omega), if_pos il]
          rw [this, hR.2 x.toNat (by omega)]
          exact .start (by omega) x2
/-- A source is not where another one's light goes down from. -/
theorem FdI.far {w h : Nat} {t : List Bound} {pre ps : List Int} {ws : List (List Int)} (I : FdI w h t pre ps ws) (hp : ∀ x ∈ pre, 0 ≤ x ∧ x < (w * h : Nat)) {j k : Nat} (jk : j < k) (hk : k < ps.length) : ¬ Way w h t (loB t (ps.getD k 0)) (ps.getD j 0).toNat (ps.getD k 0).toNat := fun q => by
  have a := I.new j k jk hk
  have hm := I.sub.subset (mem_getD ps 0 k hk)
  obtain ⟨h0, h1⟩ := hp _ hm
  have := ((I.sad j (by omega)).2 (ps.getD k 0).toNat (by omega) (loB t (ps.getD k 0))).2 q
  have e : wayG ws j (ps.getD k 0).toNat = (ws.getD j []).getD (ps.getD k 0).toNat 0 := rfl
  omega
end Lf
/- find.Find: the sources. -/
namespace Lf
open Go Go.Abs
set_option linter.unusedVariables false
set_option linter.unusedSimpArgs false
theorem gt_atB (l : List Bound) (x : Int) : gt l x = atB l x.toNat := rfl
theorem kyF_lo (c : Cells) (x : Int) : kyF c x = loB c.At x := rfl
/-- What is known of sure cells. -/
theorem SureL.at {c : Cells} {level : Bound} {l : List Int} (h : SureL c level l) (hc : okF c) (x : Int) (hx : x ∈ l) : 0 ≤ x ∧ x < (c.W.toNat * c.H.toNat : Nat) ∧ loB c.At x ≤ hgtB (atB c.At x.toNat) ∧ hgtB (atB c.At x.toNat) = (gt c.At x).Hi := by
  obtain ⟨x0, x1, u, v⟩ := (h.mem x).1 hx
  have b := (hc.cell _ (gt_mem c.At x ⟨x0, x1⟩)).1.le
  have hl := hc.len; have w0 := hc.w0; have h0 := hc.h0
  have e : ((c.W.toNat * c.H.toNat : Nat) : Int) = c.W * c.H := by rw [Int.natCast_mul, Int.toNat_of_nonneg (by omega), Int.toNat_of_nonneg (by omega)]
  have e2 : hgtB (atB c.At x.toNat) = (gt c.At x).Hi := by
    show hgt _ _ (gt c.At x).Unknown = _
    rw [u]; rfl
  exact ⟨x0, by omega, by rw [e2]; exact b, e2⟩
theorem okF.nat {c : Cells} (hc : okF c) : c.At.length = c.W.toNat * c.H.toNat ∧ c.W.toNat * c.H.toNat ≤ 1024 := by
  have hl := hc.len; have w0 := hc.w0; have h0 := hc.h0; have n := hc.n1
  have e : ((c.W.toNat * c.H.toNat : Nat) : Int) = c.W * c.H := by rw [Int.natCast_mul, Int.toNat_of_nonneg (by omega), Int.toNat_of_nonneg (by omega)]
  omega
theorem fd2_len (w : Nat) (ps : List Int) (ws : List (List Int)) : ∀ (l : List Int) (parts : List (List Int)), (fd2 w ps ws l parts).length = parts.length
  | [], parts => rfl
  | x :: l, parts => by rw [fd2, fd2_len]; simp
/-- The sources, as find.Find gives them. -/
def srcs (w : Nat) (l ps : List Int) (ws : List (List Int)) : List Source_ := (ps.zip (fd2 w ps ws (l.mergeSort fun x y => decide (x ≤ y)) (ps.map fun _ => []))).map fun p => Source_.mk p.1 p.2
theorem srcs_len (w : Nat) (l ps : List Int) (ws : List (List Int)) : (srcs w l ps ws).length = ps.length := by unfold srcs; simp [fd2_len]
theorem srcs_at (w : Nat) (l ps : List Int) (ws : List (List Int)) (k : Int) (k0 : 0 ≤ k) (k1 : k < ps.length) : gt (srcs w l ps ws) k = Source_.mk (ps.getD k.toNat 0) ((fd2 w ps ws (l.mergeSort fun x y => decide (x ≤ y)) (ps.map fun _ => [])).getD k.toNat []) := by
  have hk : k.toNat < ps.length := by omega
  have hk2 : k.toNat < (fd2 w ps ws (l.mergeSort fun x y => decide (x ≤ y)) (ps.map fun _ => [])).length := by rw [fd2_len]; simpa using hk
  rw [gt_def _ k ⟨k0, by rw [srcs_len]; exact k1⟩]
  unfold srcs
  simp only [List.getElem_map, List.getElem_zip, List.getD_eq_getElem?_getD, List.getElem?_eq_getElem hk, List.getElem?_eq_getElem hk2, Option.getD_some]
structure FindL (c : Cells) (level : Bound) (l ps : List Int) (ws : List (List Int)) : Prop where
  sure : SureL c level l
  fd : FdI c.W.toNat c.H.toNat c.At l ps ws
  run : fd1 c.W.toNat c.H.toNat c.At l [] [] = some (some (ps, ws))
theorem find_ok {c : Cells} {level : Bound} (hc : okF c) (hn : c.At.length ≤ 900) (hv : okLv level) (hcount : ∀ l, SureL c level l → ∀ pre ps ws, pre <+: l → FdI c.W.toNat c.H.toNat c.At pre ps ws → ps.length < 24) :
    Has (find_Find c level) fun r => r.2 = 0 ∧ ∃ l ps ws, find_Sure c level = some (l, 0) ∧ FindL c level l ps ws ∧ r.1 = srcs c.W.toNat l ps ws := by
  unfold find_Find
  obtain ⟨⟨l, e⟩, hs, rfl, hS⟩ := sure_ok hc hn hv
  rw [hs]
  obtain ⟨n1, n2⟩ := hc.nat
  simp only [Option.bind_some] at hS ⊢
  have hll : l.length ≤ 1024 := by
    have key : ∀ (n : Nat) (l : List Int), l.Nodup → (∀ x ∈ l, 0 ≤ x ∧ x < n) → l.length ≤ n := fun n => by
      induction n with
      | zero => intro l _ h; cases l with
        | nil => simp
        | cons x l => have := h x (List.mem_cons_self ..); omega
      | succ n ih =>
        intro l nd h
        by_cases hm : (n : Int) ∈ l
        · have := ih (l.erase n) (nd.erase _) fun x hx => by
            have h1 := (nd.mem_erase_iff).1 hx
            have := h x h1.2; have := h1.1; omega
          rw [List.length_erase_of_mem hm] at this; omega
        · have := ih l nd fun x hx => by
            have := h x hx
            have : x ≠ n := fun e => hm (by rw [← e]; exact hx)
            omega
          omega
    have := key (c.W.toNat * c.H.toNat) l hS.nd fun x hx => by have := hS.at hc x hx; omega
    omega
  refine Has.pos ⟨hc.w0, hc.w1, hc.h0, hc.h1, hc.len, fun x hx => by have := hS.at hc x hx; omega, hll⟩ ?_
  unfold fdL
  rw [if_neg (by simp)]
  obtain ⟨r, hr, ps, ws, rfl, hI⟩ := fd1_ok n1 n2 l (fun x hx => by have := hS.at hc x hx; exact ⟨this.1, this.2.1, this.2.2.1⟩) (hcount l hS) l [] [] [] rfl (FdI.nil _ _ _)
  rw [hr]
  exact Has.ret ⟨rfl, l, ps, ws, rfl, ⟨hS, hI, hr⟩, rfl⟩
section
variable {c : Cells} {level : Bound} {l pre ps : List Int} {ws : List (List Int)}
theorem sub_ord (hS : SureL c level l) (hp : ps.Sublist l) : ps.Pairwise (leF c) := hS.ord.sublist hp
theorem pw_getD {R : Int → Int → Prop} {l : List Int} (h : l.Pairwise R) {j k : Nat} (jk : j < k) (hk : k < l.length) : R (l.getD j 0) (l.getD k 0) := by
  have := List.pairwise_iff_getElem.1 h j k (by omega) hk jk
  rwa [show l.getD j 0 = l[j] by simp [List.getD_eq_getElem?_getD, List.getElem?_eq_getElem (show j < l.length by omega)], show l.getD k 0 = l[k] by simp [List.getD_eq_getElem?_getD, List.getElem?_eq_getElem hk]]
/-- Two sources do not touch. -/
theorem src_apart (hc : okF c) (hS : SureL c level l) (hpre : pre <+: l) (I : FdI c.W.toNat c.H.toNat c.At pre ps ws) {j k : Nat} (jk : j < k) (hk : k < ps.length) : ps.getD j 0 ≠ ps.getD k 0 ∧ ¬ adj c.W.toNat (ps.getD j 0).toNat (ps.getD k 0).toNat := by
  have hsub : ps.Sublist l := I.sub.trans hpre.sublist
  have mj := hS.at hc _ (hsub.subset (mem_getD ps 0 j (by omega)))
  have mk := hS.at hc _ (hsub.subset (mem_getD ps 0 k hk))
  have hf := I.far (fun x hx => by have := hS.at hc x (hpre.subset hx); omega) jk hk
  have ho : leF c (ps.getD j 0) (ps.getD k 0) := pw_getD (sub_ord hS hsub) jk hk
  have hlo : loB c.At (ps.getD k 0) ≤ loB c.At (ps.getD j 0) := by rw [← kyF_lo, ← kyF_lo]; unfold leF at ho; omega
  have st : Way c.W.toNat c.H.toNat c.At (loB c.At (ps.getD k 0)) (ps.getD j 0).toNat (ps.getD j 0).toNat := .start (by omega) (by omega)
  refine ⟨fun e => hf ?_, fun a => hf (.step st (by omega) a (by omega))⟩
  rw [← e]; rw [← e] at st; exact st
theorem nodup_lt : ∀ (n : Nat) (l : List Nat), l.Nodup → (∀ x ∈ l, x < n) → l.length ≤ n
  | 0, l, _, h => by
    cases l with
    | nil => simp
    | cons x l => have := h x (List.mem_cons_self ..); omega
  | n + 1, l, nd, h => by
    by_cases hm : n ∈ l
    · have := nodup_lt n (l.erase n) (nd.erase _) fun x hx => by
        have h1 := (nd.mem_erase_iff).1 hx
        have := h x h1.2; have := h1.1; omega
      rw [List.length_erase_of_mem hm] at this; omega
    · have := nodup_lt n l nd fun x hx => by
        have := h x hx
        have : x ≠ n := fun e => hm (by rw [← e]; exact hx)
        omega
      omega
/-- A small field has few sources. -/
theorem few8 (hc : okF c) (hw : c.W ≤ 8) (hh : c.H ≤ 8) (hS : SureL c level l) (hpre : pre <+: l) (I : FdI c.W.toNat c.H.toNat c.At pre ps ws) : ps.length < 24 := by
  have w0 := hc.w0
  have hsub : ps.Sublist l := I.sub.trans hpre.sublist
  obtain ⟨w, hw'⟩ : ∃ w, w = c.W.toNat := ⟨_, rfl⟩
  have hw8 : 0 < w ∧ w ≤ 8 := by omega
  have pos : ∀ x ∈ ps, x.toNat % w < 8 ∧ x.toNat / w < 8 := fun x hx => by
    have m := hS.at hc x (hsub.subset hx)
    rw [← hw'] at m
    have := Nat.mod_lt x.toNat (show w > 0 by omega)
    refine ⟨by omega, ?_⟩
    rw [Nat.div_lt_iff_lt_mul hw8.1, Nat.mul_comm]
    have : w * c.H.toNat ≤ w * 8 := Nat.mul_le_mul_left w (by omega)
    omega
  have nd : (ps.map fun x => x.toNat % w / 2 + 4 * (x.toNat / w / 2)).Nodup := by
    rw [List.Nodup, List.pairwise_map, List.pairwise_iff_getElem]
    intro j k hj hk jk e
    have ap := src_apart hc hS hpre I jk hk
    rw [← hw'] at ap
    have gj : ps.getD j 0 = ps[j] := by simp [List.getD_eq_getElem?_getD, List.getElem?_eq_getElem hj]
    have gk : ps.getD k 0 = ps[k] := by simp [List.getD_eq_getElem?_getD, List.getElem?_eq_getElem hk]
    rw [gj, gk] at ap
    have pj := pos _ (List.getElem_mem hj)
    have pk := pos _ (List.getElem_mem hk)
    have mj := hS.at hc _ (hsub.subset (List.getElem_mem hj))
    have mk := hS.at hc _ (hsub.subset (List.getElem_mem hk))
    refine ap.2 ⟨fun q => ap.1 (by omega), ?_⟩
    generalize ps[j].toNat % w = a at *
    generalize ps[j].toNat / w = b at *
    generalize ps[k].toNat % w = a' at *
    generalize ps[k].toNat / w = b' at *
    omega
  have := nodup_lt 16 _ nd fun x hx => by
    obtain ⟨y, hy, rfl⟩ := List.mem_map.1 hx
    have := pos y hy
    generalize y.toNat % w = a at *
    generalize y.toNat / w = b at *
    omega
  rw [List.length_map] at this
  omega
end
end Lf
/- Which source a sure cell belongs to; fields that have more light by the same amount. -/
namespace Lf
open Go Go.Abs
set_option linter.unusedVariables false
set_option linter.unusedSimpArgs false
/-- The source that a cell is a part of. -/
def bst (w : Nat) (ps : List Int) (ws : List (List Int)) (x : Int) : Nat := bestF w ps ws x.toNat 0 ps.length 0
section
variable {c : Cells} {level : Bound} {l ps : List Int} {ws : List (List Int)}
end
/-- Light that is more by the same amount. -/
structure moreF (c d : Cells) (up : Int) : Prop where
  W : d.W = c.W
  H : d.H = c.H
  len : d.At.length = c.At.length
  v : ∀ i : Int, 0 ≤ i → i < c.At.length → (gt c.At i).Unknown = true ∧ (gt d.At i).Unknown = true ∨ ((gt c.At i).Unknown = false ∧ (gt d.At i).Unknown = false ∧ (gt d.At i).Lo = (gt c.At i).Lo + up ∧ (gt d.At i).Hi = (gt c.At i).Hi + up)
  b : -536870912 ≤ up ∧ up ≤ 536870912
section
variable {c d : Cells} {up : Int} (M : moreF c d up) (hc : okF c)
include M hc
theorem moreF.hgt (i : Nat) (hi : i < c.W.toNat * c.H.toNat) : (hgtB (atB c.At i) = 4611686018427387904 ∧ hgtB (atB d.At i) = 4611686018427387904) ∨ (hgtB (atB d.At i) = hgtB (atB c.At i) + up ∧ hgtB (atB c.At i) ≤ 1099511627776 ∧ -1099511627776 ≤ hgtB (atB c.At i)) := by
  have n := hc.nat
  have eg : ∀ l : List Bound, gt l (i : Int) = atB l i := fun l => by rw [gt_atB]; simp
  have hv := M.v i (by omega) (by omega)
  have hb := hc.cell _ (gt_mem c.At (i : Int) ⟨by omega, by omega⟩)
  rw [eg, eg] at hv
  rw [eg] at hb
  have f : ∀ b : Bound, hgtB b = if b.Unknown = true then 4611686018427387904 else b.Hi := fun b => rfl
  rw [f, f]
  rcases hv with ⟨a, b⟩ | ⟨a, b, _, e⟩
  · left; rw [a, b]; exact ⟨rfl, rfl⟩
  · right; rw [a, b]
    have := hb.1.le
    exact ⟨e, hb.2.2, Int.le_trans hb.2.1 this⟩
theorem moreF.way {θ : Int} (h1 : -2305843009213693952 ≤ θ) (h2 : θ ≤ 2305843009213693952) {a b : Nat} : Way c.W.toNat c.H.toNat c.At θ a b ↔ Way c.W.toNat c.H.toNat d.At (θ + up) a b := by
  have hb := M.b
  have key : ∀ i, i < c.W.toNat * c.H.toNat → (θ ≤ hgtB (atB c.At i) ↔ θ + up ≤ hgtB (atB d.At i)) := fun i hi => by
    rcases M.hgt hc i hi with ⟨e1, e2⟩ | ⟨e1, _, _⟩
    · rw [e1, e2]; omega
    · rw [e1]; omega
  constructor
  · intro k
    induction k with
    | start h1 h2 => exact .start h1 ((key _ h1).1 h2)
    | step k h1 h2 h3 ih => exact .step ih h1 h2 ((key _ h1).1 h3)
  · intro k
    induction k with
    | start h1 h2 => exact .start h1 ((key _ h1).2 h2)
    | step k h1 h2 h3 ih => exact .step ih h1 h2 ((key _ h1).2 h3)
/-- Saddles at a known cell are more by the same amount. -/
theorem moreF.sad {p : Int} (hp : 0 ≤ p ∧ p < (c.W.toNat * c.H.toNat : Nat)) {R Q : List Int} (h1 : SadOf c.W.toNat c.H.toNat c.At p R) (h2 : SadOf c.W.toNat c.H.toNat d.At p Q) {x : Nat} (hx : x < c.W.toNat * c.H.toNat) (hk : hgtB (atB c.At x) ≤ 1099511627776) : Q.getD x 0 = R.getD x 0 + up := by
  have hb := M.b
  have low : ∀ i, i < c.W.toNat * c.H.toNat → -1099511627776 ≤ hgtB (atB c.At i) := fun i hi => by
    rcases M.hgt hc i hi with ⟨e1, e2⟩ | ⟨e1, _, e2⟩ <;> omega
  have n := hc.nat
  have low' : ∀ i, -1099511627776 ≤ hgtB (atB c.At i) := fun i => by
    by_cases hi : i < c.W.toNat * c.H.toNat
    · exact low i hi
    · have : atB c.At i = ⟨0, 0, false⟩ := by unfold atB; rw [List.getD_eq_getElem?_getD, List.getElem?_eq_none (by omega)]; rfl
      rw [this]; decide
  have r1 := (h1.2 x hx (R.getD x 0)).1 (Int.le_refl _)
  have rl := (h1.2 x hx (-1099511627776)).2 (way_all low' (by omega) x hx)
  have rt := r1.top
  have q1 := (h2.2 x hx (R.getD x 0 + up)).2 ((M.way hc (by omega) (by omega)).1 r1)
  have s1 := (h2.2 x hx (Q.getD x 0)).1 (Int.le_refl _)
  have st := s1.top
  have hx' := M.hgt hc x hx
  have e : Q.getD x 0 = (Q.getD x 0 - up) + up := by omega
  rw [e] at s1
  have s2 := (h1.2 x hx (Q.getD x 0 - up)).2 ((M.way hc (by omega) (by omega)).2 s1)
  omega
theorem moreF.fd1 (l : List Int) : ∀ (ps : List Int) (ws vs : List (List Int)), (∀ x ∈ l, 0 ≤ x ∧ x < (c.W.toNat * c.H.toNat : Nat) ∧ (gt c.At x).Unknown = false) → ps.length = ws.length → ps.length = vs.length →
    (∀ p ∈ ps, 0 ≤ p ∧ p < (c.W.toNat * c.H.toNat : Nat)) → (∀ k, k < ps.length → SadOf c.W.toNat c.H.toNat c.At (ps.getD k 0) (ws.getD k []) ∧ SadOf c.W.toNat c.H.toNat d.At (ps.getD k 0) (vs.getD k [])) →
    ∀ ps' ws' qs' vs', Lf.fd1 c.W.toNat c.H.toNat c.At l ps ws = some (some (ps', ws')) → Lf.fd1 c.W.toNat c.H.toNat d.At l ps vs = some (some (qs', vs')) → ps' = qs' := by
  have n := hc.nat
  induction l with
  | nil =>
    intro ps ws vs _ _ _ _ _ ps' ws' qs' vs' h1 h2
    rw [Lf.fd1] at h1 h2
    cases h1; cases h2; rfl
  | cons x l ih =>
    intro ps ws vs hl e1 e2 hp hs ps' ws' qs' vs' h1 h2
    rw [Lf.fd1] at h1 h2
    obtain ⟨x0, x1, xu⟩ := hl x (List.mem_cons_self ..)
    have hl' : ∀ y ∈ l, 0 ≤ y ∧ y < (c.W.toNat * c.H.toNat : Nat) ∧ (gt c.At y).Unknown = false := fun y hy => hl y (List.mem_cons_of_mem _ hy)
    have hx : x.toNat < c.W.toNat * c.H.toNat := by omega
    have kn : hgtB (atB c.At x.toNat) ≤ 1099511627776 := by
      have hb := hc.cell _ (gt_mem c.At x ⟨x0, by omega⟩)
      show Lf.hgt _ _ (gt c.At x).Unknown ≤ _
      rw [xu]; exact hb.2.2
    have vx := M.v x x0 (by omega)
    have lo : (atB d.At x.toNat).Lo = (atB c.At x.toNat).Lo + up := by
      rcases vx with ⟨a, _⟩ | ⟨_, _, e, _⟩
      · rw [a] at xu; cases xu
      · exact e
    have sd : ∀ k, k < ps.length → wayG vs k x.toNat = wayG ws k x.toNat + up := fun k hk => M.sad hc (hp _ (mem_getD ps 0 k hk)) (hs k hk).1 (hs k hk).2 hx kn
    have any : ((ws.any fun R => decide ((atB c.At x.toNat).Lo ≤ R.getD x.toNat 0)) = true) ↔ ((vs.any fun R => decide ((atB d.At x.toNat).Lo ≤ R.getD x.toNat 0)) = true) := by
      rw [any_way, any_way]
      constructor
      · rintro ⟨k, hk, h⟩; exact ⟨k, by omega, by rw [sd k (by omega), lo]; omega⟩
      · rintro ⟨k, hk, h⟩; rw [sd k (by omega), lo] at h; exact ⟨k, by omega, by omega⟩
    by_cases ha : (ws.any fun R => decide ((atB c.At x.toNat).Lo ≤ R.getD x.toNat 0)) = true
    · rw [if_pos ha] at h1
      rw [if_pos (any.1 ha)] at h2
      exact ih ps ws vs hl' e1 e2 hp hs ps' ws' qs' vs' h1 h2
    · rw [if_neg ha] at h1
      rw [if_neg (fun q => ha (any.2 q))] at h2
      by_cases h24 : ps.length = 24
      · rw [if_pos h24] at h1; cases h1
      · rw [if_neg h24] at h1 h2
        obtain ⟨R, hR, h1⟩ := Option.bind_eq_some_iff.1 h1
        obtain ⟨Q, hQ, h2⟩ := Option.bind_eq_some_iff.1 h2
        have cR : SadOf c.W.toNat c.H.toNat c.At x R := by
          obtain ⟨R', e, h⟩ := sadR_ok (a := x.toNat) n.1 n.2 hx
          rw [hR] at e; cases e; exact h
        have hdl : d.At.length = c.W.toNat * c.H.toNat → SadOf c.W.toNat c.H.toNat d.At x Q := fun hd => by
          obtain ⟨Q', e, h⟩ := sadR_ok (a := x.toNat) hd n.2 hx
          rw [hQ] at e; cases e; exact h
        refine ih (ps ++ [x]) (ws ++ [R]) (vs ++ [Q]) hl' (by simp [e1]) (by simp [e2]) (fun p hp' => ?_) (fun k hk => ?_) ps' ws' qs' vs' h1 h2
        · rcases List.mem_append.1 hp' with q | q
          · exact hp p q
          · rw [List.mem_singleton.1 q]; exact ⟨x0, x1⟩
        · rw [List.length_append, List.length_singleton] at hk
          rw [getD_snoc ps, getD_snoc ws, getD_snoc vs]
          by_cases q : k < ps.length
          · rw [if_pos q, if_pos (show k < ws.length by omega), if_pos (show k < vs.length by omega)]; exact hs k q
          · rw [if_neg q, if_pos (show k = ps.length by omega), if_neg (show ¬ k < ws.length by omega), if_pos (show k = ws.length by omega), if_neg (show ¬ k < vs.length by omega), if_pos (show k = vs.length by omega)]
            exact ⟨cR, hdl (by rw [M.len]; exact n.1)⟩
theorem moreF.bst {ps : List Int} {ws vs : List (List Int)} (hp : ∀ p ∈ ps, 0 ≤ p ∧ p < (c.W.toNat * c.H.toNat : Nat)) (hs : ∀ k, k < ps.length → SadOf c.W.toNat c.H.toNat c.At (ps.getD k 0) (ws.getD k []) ∧ SadOf c.W.toNat c.H.toNat d.At (ps.getD k 0) (vs.getD k []))
    (x : Int) (x0 : 0 ≤ x) (x1 : x < (c.W.toNat * c.H.toNat : Nat)) (xu : (gt c.At x).Unknown = false) : Lf.bst c.W.toNat ps vs x = Lf.bst c.W.toNat ps ws x := by
  have n := hc.nat
  have kn : hgtB (atB c.At x.toNat) ≤ 1099511627776 := by
    have hb := hc.cell _ (gt_mem c.At x ⟨x0, by omega⟩)
    show Lf.hgt _ _ (gt c.At x).Unknown ≤ _
    rw [xu]; exact hb.2.2
  have sd : ∀ k, k < ps.length → wayG vs k x.toNat = wayG ws k x.toNat + up := fun k hk => M.sad hc (hp _ (mem_getD ps 0 k hk)) (hs k hk).1 (hs k hk).2 (by omega) kn
  have key : ∀ m k b, k + m ≤ ps.length → b < ps.length → bestF c.W.toNat ps vs x.toNat k m b = bestF c.W.toNat ps ws x.toNat k m b := fun m => by
    induction m with
    | zero => intro k b _ _; rfl
    | succ m ih =>
      intro k b hk hb
      rw [bestF, bestF]
      have e : better c.W.toNat ps vs x.toNat k b = better c.W.toNat ps ws x.toNat k b := by
        unfold better
        rw [sd k (by omega), sd b hb]
        have q1 : decide (wayG ws b x.toNat + up < wayG ws k x.toNat + up) = decide (wayG ws b x.toNat < wayG ws k x.toNat) := by rw [decide_eq_decide]; omega
        have q2 : decide (wayG ws k x.toNat + up = wayG ws b x.toNat + up) = decide (wayG ws k x.toNat = wayG ws b x.toNat) := by rw [decide_eq_decide]; omega
        rw [q1, q2]
      rw [e]
      refine ih (k + 1) _ (by omega) ?_
      split <;> omega
  by_cases h0 : ps.length = 0
  · unfold Lf.bst; rw [h0]; rfl
  · exact key ps.length 0 0 (by omega) (by omega)
/-- The sources are the same. -/
theorem moreF.srcs {level up' : Bound} {l ps qs : List Int} {ws vs : List (List Int)} (L : FindL c level l ps ws) (K : FindL d up' l qs vs) : srcs d.W.toNat l qs vs = srcs c.W.toNat l ps ws := by
  have hx : ∀ x ∈ l, 0 ≤ x ∧ x < (c.W.toNat * c.H.toNat : Nat) ∧ (gt c.At x).Unknown = false := fun x hx => by
    have a := L.sure.at hc x hx
    exact ⟨a.1, a.2.1, ((L.sure.mem x).1 hx).2.2.1⟩
  have r2 := K.run
  rw [M.W, M.H] at r2
  have e := M.fd1 hc l [] [] [] hx rfl rfl (fun p hp => by cases hp) (fun k hk => by simp at hk) _ _ _ _ L.run r2
  subst e
  have k2 := K.fd
  rw [M.W, M.H] at k2
  have hp : ∀ p ∈ ps, 0 ≤ p ∧ p < (c.W.toNat * c.H.toNat : Nat) := fun p hp => by have := hx p (L.fd.sub.subset hp); exact ⟨this.1, this.2.1⟩
  have hs := fun k hk => (And.intro (L.fd.sad k hk) (k2.sad k hk))
  have key : ∀ (m : List Int) (parts : List (List Int)), (∀ x ∈ m, x ∈ l) → fd2 c.W.toNat ps vs m parts = fd2 c.W.toNat ps ws m parts := fun m => by
    induction m with
    | nil => intro parts _; rfl
    | cons x m ih =>
      intro parts hm
      rw [fd2, fd2]
      have a := hx x (hm x (List.mem_cons_self ..))
      have e : bestF c.W.toNat ps vs x.toNat 0 ps.length 0 = bestF c.W.toNat ps ws x.toNat 0 ps.length 0 := M.bst hc hp hs x a.1 a.2.1 a.2.2
      rw [e]
      exact ih _ fun y hy => hm y (List.mem_cons_of_mem _ hy)
  unfold Lf.srcs
  rw [M.W, key _ _ fun x hx => List.mem_mergeSort.1 hx]
end
end Lf
/- change.In: what changed between two fields. -/
namespace Lf
open Go Go.Abs
set_option linter.unusedVariables false
set_option linter.unusedSimpArgs false
theorem inside_ok {a b : Bound} (ha : a.ok) (hb : b.ok) (ua : a.Unknown = false) (ub : b.Unknown = false) : bound_Inside a b = some (decide (b.Lo ≤ a.Lo) && decide (a.Hi ≤ b.Hi)) := by
  unfold bound_Inside
  rw [vague_ok hb hb, vague_ok ha ha, ua, ub]
  simp only [Option.bind_some, Bool.or_self, Bool.false_eq_true, if_false, Bool.not_false, if_true, ite_and, Bool.true_and]
/-- The difference of two fields. -/
structure diffF (a b d : Cells) (M : Int) : Prop where
  ok : okF d
  W : d.W = a.W
  H : d.H = a.H
  len : d.At.length = a.At.length
  v : ∀ i : Int, 0 ≤ i → i < a.At.length → gt d.At i = subB (gt a.At i) (gt b.At i)
  s : ∀ i : Int, 0 ≤ i → i < a.At.length → (gt d.At i).ok
theorem diff_ok {a b : Cells} {M : Int} (ha : okF a) (hb : okF b) (hw : a.W = b.W) (hh : a.H = b.H) (sa : small a M) (sb : small b M) (M0 : 0 ≤ M) (hM : 2 * M ≤ 1099511627776) : Has (differ_Sub a b) fun r => r.2 = 0 ∧ diffF a b r.1 M := by
  have hl : a.At.length = b.At.length := by have := ha.len; have := hb.len; rw [hw, hh] at *; omega
  refine (dsub_ok ha hb hw hh sa sb M0 hM).mono fun r ⟨r1, r2, r3, r4, r5⟩ => ⟨r1, ?_⟩
  have each : ∀ i : Int, 0 ≤ i → i < a.At.length → (subB (gt a.At i) (gt b.At i)).ok ∧ -(2 * M) ≤ (subB (gt a.At i) (gt b.At i)).Lo ∧ (subB (gt a.At i) (gt b.At i)).Hi ≤ 2 * M := fun i i0 i1 =>
    (subB_ok (sa _ (gt_mem a.At i ⟨i0, i1⟩)) (sb _ (gt_mem b.At i ⟨i0, by omega⟩)) M0 (by omega)).2
  refine ⟨⟨by rw [r2]; exact ha.w0, by rw [r2]; exact ha.w1, by rw [r3]; exact ha.h0, by rw [r3]; exact ha.h1, by rw [r4, r2, r3]; exact ha.len, allI_mem (allI_mono r5 fun i c i0 i1 e => ?_)⟩, r2, r3, r4, fun i i0 i1 => r5 i i0 (by omega), fun i i0 i1 => ?_⟩
  · rw [e]
    have := each i i0 (by omega)
    exact ⟨this.1, by omega, by omega⟩
  · rw [r5 i i0 (by omega)]; exact (each i i0 i1).1
/-- Sources of a field, found. -/
def found (d : Cells) (level : Bound) (s : List Source_) : Prop := ∃ l ps ws, FindL d level l ps ws ∧ s = srcs d.W.toNat l ps ws
/-- Cells that are the same. -/
structure sameL (d : Cells) (cut : Int) (l : List Int) : Prop where
  mem : ∀ x, x ∈ l ↔ 0 ≤ x ∧ x < d.At.length ∧ (gt d.At x).Unknown = false ∧ -cut ≤ (gt d.At x).Lo ∧ (gt d.At x).Hi ≤ cut
  inc : l.Pairwise (· < ·)
theorem in_ok {old now : Cells} {M cut : Int} (ho : okF old) (hn : okF now) (hw : old.W = now.W) (hh : old.H = now.H) (so : small old M) (sn : small now M) (M0 : 0 ≤ M) (hM : 2 * M ≤ 1099511627776) (c0 : 0 ≤ cut) (c1 : cut ≤ 1000000) (w8 : old.W ≤ 8) (h8 : old.H ≤ 8) :
    Has (change_In old now cut) fun r => r.2 = 0 ∧ ∃ d b, diffF now old d M ∧ diffF old now b M ∧ found d ⟨-cut, cut, false⟩ r.1.Up ∧ found b ⟨-cut, cut, false⟩ r.1.Down ∧ sameL d cut r.1.Same := by
  unfold change_In
  have lv : okLv ⟨-cut, cut, false⟩ := ⟨okKnown (by omega) (by omega) (by omega), rfl, by simp only []; omega, by simp only []; omega⟩
  refine (diff_ok hn ho hw.symm hh.symm sn so M0 hM).bind fun r1 ⟨e1, D⟩ => ?_
  rw [e1]
  have g1 : decide (cut < 0) = false := decide_eq_false (by omega)
  have g2 : decide (cut > 1099511627776) = false := decide_eq_false (by omega)
  simp only [bne_self_eq_false, Bool.false_eq_true, if_false, g1, g2, Option.bind_some]
  refine (diff_ok ho hn hw hh so sn M0 hM).bind fun r6 ⟨e6, B⟩ => ?_
  rw [w6_in (n := 0 - cut) (by omega), Int.zero_sub]
  have dW := D.W; have dH := D.H; have bW := B.W; have bH := B.H
  have dn := D.ok.n1
  have area8 : r1.1.W * r1.1.H ≤ 64 := by
    have a := Int.mul_le_mul_of_nonneg_right (show r1.1.W ≤ 8 by omega) (show 0 ≤ r1.1.H by have := D.ok.h0; omega)
    omega
  have bn := B.ok.n1
  have areab : r6.1.W * r6.1.H ≤ 64 := by
    have a := Int.mul_le_mul_of_nonneg_right (show r6.1.W ≤ 8 by omega) (show 0 ≤ r6.1.H by have := B.ok.h0; omega)
    omega
  have dl := D.ok.len; have bl := B.ok.len
  obtain ⟨⟨s1, z1⟩, f1, rfl, l1, ps1, ws1, _, L1, rfl⟩ := find_ok D.ok (by omega) lv fun sl hS pre ps ws hpre I => few8 D.ok (by omega) (by omega) hS hpre I
  obtain ⟨⟨s2, z2⟩, f2, rfl, l2, ps2, ws2, _, L2, rfl⟩ := find_ok B.ok (by omega) lv fun sl hS pre ps ws hpre I => few8 B.ok (by omega) (by omega) hS hpre I
  rw [f1, f2]
  simp only [bne_self_eq_false, Bool.false_eq_true, if_false, Option.bind_some]
  refine Has.bind (P := fun z : List Int => sameL r1.1 cut z) ?_ fun z hz => Has.ret ⟨rfl, r1.1, r6.1, D, B, ⟨_, _, _, L1, rfl⟩, ⟨_, _, _, L2, rfl⟩, hz⟩
  refine Has.loop (fun t : List Int × Int => 0 ≤ t.2 ∧ t.2 ≤ r1.1.At.length ∧ (∀ x, x ∈ t.1 ↔ 0 ≤ x ∧ x < t.2 ∧ (gt r1.1.At x).Unknown = false ∧ -cut ≤ (gt r1.1.At x).Lo ∧ (gt r1.1.At x).Hi ≤ cut) ∧ t.1.Pairwise (· < ·)) (fun t => (r1.1.At.length - t.2).toNat) _
    ⟨Int.le_refl _, by simp only []; omega, fun x => by simp; omega, List.Pairwise.nil⟩ (by simp only []; omega) fun t ⟨t1, t2, t3, t4⟩ => ?_
  unfold change_In.l1
  refine Has.ite (fun hi => ?_) fun hi => ?_
  · have hi : t.2 < r1.1.At.length := of_decide_eq_true hi
    have tl := inc_len t.1 t.2 t4 (fun x hx => by have := (t3 x).1 hx; omega) t1
    have dln := D.len
    rw [w6_in (n := 0 - cut) (by omega), w6_in (n := t.2 + 1) (by omega), Int.zero_sub]
    refine Has.bind (P := fun z : List Int => (∀ x, x ∈ z ↔ 0 ≤ x ∧ x < t.2 + 1 ∧ (gt r1.1.At x).Unknown = false ∧ -cut ≤ (gt r1.1.At x).Lo ∧ (gt r1.1.At x).Hi ≤ cut) ∧ z.Pairwise (· < ·)) (Has.chk ⟨t1, hi⟩ ?_) fun z ⟨z1, z2⟩ => Has.ret (.next ⟨by simp only []; omega, by simp only []; omega, z1, z2⟩ (by simp only []; omega))
    refine Has.bind (P := fun q : Bool => q = true ↔ (gt r1.1.At t.2).Unknown = false ∧ -cut ≤ (gt r1.1.At t.2).Lo ∧ (gt r1.1.At t.2).Hi ≤ cut) (Has.ite (fun hu => ?_) fun hu => Has.ret ⟨(fun e => nomatch e), fun e => absurd (by simpa using e.1) hu⟩) fun q hq => ?_
    · have hu : (gt r1.1.At t.2).Unknown = false := by simpa using hu
      rw [inside_ok (D.s t.2 t1 (by omega)) lv.ok hu rfl]
      exact Has.ret ⟨fun e => by simp only [Bool.and_eq_true, decide_eq_true_eq] at e; exact ⟨hu, e.1, e.2⟩, fun e => by simp only [Bool.and_eq_true, decide_eq_true_eq]; exact e.2⟩
    · refine Has.ite (fun hs => ?_) fun hs => Has.ret ⟨fun x => ?_, t4⟩
      · have hs := hq.1 hs
        refine Has.chk (roomyI (by simp; omega) (by simp; omega)) (Has.ret ⟨fun x => ?_, List.pairwise_append.2 ⟨t4, by simp, fun a ha b hb => by rw [List.mem_singleton.1 hb]; exact ((t3 a).1 ha).2.1⟩⟩)
        rw [List.mem_append, List.mem_singleton, t3]
        constructor
        · rintro (⟨a, b, e⟩ | rfl)
          · exact ⟨a, by omega, e⟩
          · exact ⟨t1, by omega, hs⟩
        · rintro ⟨a, b, e⟩
          by_cases h : x = t.2
          · exact .inr h
          · exact .inl ⟨a, by omega, e⟩
      · have hs : ¬ ((gt r1.1.At t.2).Unknown = false ∧ -cut ≤ (gt r1.1.At t.2).Lo ∧ (gt r1.1.At t.2).Hi ≤ cut) := fun e => hs (hq.2 e)
        rw [t3]
        constructor
        · rintro ⟨a, b, e⟩; exact ⟨a, by omega, e⟩
        · rintro ⟨a, b, e⟩
          have : x ≠ t.2 := fun h => hs (by rw [← h]; exact e)
          exact ⟨a, by omega, e⟩
  · have hi : ¬ t.2 < r1.1.At.length := fun q => hi (decide_eq_true q)
    exact Has.ret (.done ⟨fun x => by rw [t3]; constructor <;> (rintro ⟨a, b, e⟩; exact ⟨a, by omega, e⟩), t4⟩)
/-- Two increasing lists of the same numbers. -/
theorem inc_eq {a b : List Int} (ha : a.Pairwise (· < ·)) (hb : b.Pairwise (· < ·)) (h : ∀ x, x ∈ a ↔ x ∈ b) : a = b :=
  ((List.perm_ext_iff_of_nodup (ha.imp fun h => Int.ne_of_lt h) (hb.imp fun h => Int.ne_of_lt h)).2 h).eq_of_pairwise (le := fun x y => x < y) (fun a b _ _ h k => by omega) ha hb
/-- Where nothing is sure there is no source. -/
theorem found.none {d : Cells} {level : Bound} {s : List Source_} (h : found d level s) (hn : ∀ i : Int, 0 ≤ i → i < d.At.length → ¬ sureC d level i) : s = [] := by
  obtain ⟨l, ps, ws, L, rfl⟩ := h
  have : l = [] := by
    cases l with
    | nil => rfl
    | cons x t =>
      obtain ⟨x0, x1, q⟩ := (L.sure.mem x).1 (List.mem_cons_self ..)
      exact absurd q (hn x x0 x1)
  subst this
  have : ps = [] := List.sublist_nil.1 L.fd.sub
  subst this
  exact List.length_eq_zero_iff.1 (srcs_len _ _ _ _)
end Lf
/- A row of whole numbers is equal to itself. -/
namespace Lf
open Go Go.Abs
set_option linter.unusedVariables false
set_option linter.unusedSimpArgs false
theorem equalI_ok (l : List Int) (hl : l.length ≤ 1000000000) : slices_Equal_Int l l = some true := by
  apply Has.val
  unfold slices_Equal_Int
  refine Has.neg (by simp) (Has.seq (P := fun t : Step Unit Bool => t = .next ()) ?_ (fun _ _ => Has.ret rfl) (fun o ho => by cases ho))
  refine Has.loop (fun i : Int => 0 ≤ i ∧ i ≤ l.length) (fun i => (l.length - i).toNat) (fun t : Step Unit Bool => t = .next ()) ⟨Int.le_refl _, by omega⟩ (by omega) fun i ⟨i1, i2⟩ => ?_
  unfold slices_Equal_Int.l1
  refine Has.ite (fun hi => ?_) fun hi => Has.ret (.done rfl)
  have hi : i < l.length := of_decide_eq_true hi
  rw [w6_in (by omega)]
  exact Has.chk ⟨i1, hi⟩ (Has.chk ⟨i1, hi⟩ (Has.neg (by simp) (Has.ret (.next ⟨by omega, by omega⟩ (by omega)))))
end Lf
/- The fact of a change that is noticed. -/
namespace Lf
open Go Go.Abs
set_option linter.unusedVariables false
set_option linter.unusedSimpArgs false
theorem pair_ok (a b : Bound) (ha : a.ok ∧ -100 ≤ a.Lo ∧ a.Hi ≤ 100) (hb : b.ok ∧ -100 ≤ b.Lo ∧ b.Hi ≤ 100) : okF (Cells.mk 2 1 [a, b]) ∧ small (Cells.mk 2 1 [a, b]) 100 := by
  have key : ∀ x ∈ [a, b], x.ok ∧ -100 ≤ x.Lo ∧ x.Hi ≤ 100 := fun x hx => by
    simp only [List.mem_cons, List.not_mem_nil, or_false] at hx
    rcases hx with rfl | rfl
    · exact ha
    · exact hb
  exact ⟨⟨by simp, by simp, by simp, by simp, rfl, fun x hx => by have := key x hx; exact ⟨this.1, by omega, by omega⟩⟩, key⟩
theorem noticed_ok : spykeep4_noticed = some true := by
  unfold spykeep4_noticed spykeep4_noticed_1
  simp only [Option.bind_some]
  have k12 : Bound.ok ⟨1, 2, false⟩ ∧ -100 ≤ (1 : Int) ∧ (2 : Int) ≤ 100 := ⟨okKnown (by decide) (by decide) (by decide), by decide, by decide⟩
  have k1112 : Bound.ok ⟨11, 12, false⟩ ∧ -100 ≤ (11 : Int) ∧ (12 : Int) ≤ 100 := ⟨okKnown (by decide) (by decide) (by decide), by decide, by decide⟩
  obtain ⟨o1, o2⟩ := pair_ok ⟨1, 2, false⟩ ⟨1, 2, false⟩ k12 k12
  obtain ⟨n1, n2⟩ := pair_ok ⟨1, 2, false⟩ ⟨11, 12, false⟩ k12 k1112
  obtain ⟨⟨r, e⟩, hr, rfl, d, b, D, B, U, Dn, S⟩ := in_ok (cut := 3) o1 n1 rfl rfl o2 n2 (by decide) (by decide) (by decide) (by decide) (by decide) (by decide)
  rw [hr]
  simp only [] at U Dn S
  have d0 : gt d.At 0 = ⟨-1, 1, false⟩ := (D.v 0 (by decide) (by decide)).trans rfl
  have d1 : gt d.At 1 = ⟨9, 11, false⟩ := (D.v 1 (by decide) (by decide)).trans rfl
  have b0 : gt b.At 0 = ⟨-1, 1, false⟩ := (B.v 0 (by decide) (by decide)).trans rfl
  have b1 : gt b.At 1 = ⟨-11, -9, false⟩ := (B.v 1 (by decide) (by decide)).trans rfl
  have dl : (d.At.length : Int) = 2 := by rw [D.len]; rfl
  have bl : (b.At.length : Int) = 2 := by rw [B.len]; rfl
  have two : ∀ x : Int, 0 ≤ x → x < 2 → x = 0 ∨ x = 1 := fun x _ _ => by omega
  have down : r.Down = [] := Dn.none fun i i0 i1 h => by
    rcases two i i0 (by omega) with rfl | rfl
    · have := h.2; rw [b0] at this; exact absurd this (by decide)
    · have := h.2; rw [b1] at this; exact absurd this (by decide)
  have same : r.Same = [0] := inc_eq S.inc (by simp) fun x => by
    rw [S.mem, List.mem_singleton]
    constructor
    · rintro ⟨x0, x1, _, _, h⟩
      rcases two x x0 (by omega) with rfl | rfl
      · rfl
      · rw [d1] at h; exact absurd h (by decide)
    · rintro rfl
      rw [d0]
      exact ⟨by decide, by omega, rfl, by decide, by decide⟩
  obtain ⟨l, ps, ws, L, up⟩ := U
  have hl : l = [1] := List.perm_singleton.1 ((List.perm_ext_iff_of_nodup L.sure.nd (by simp)).2 fun x => by
    rw [L.sure.mem, List.mem_singleton]
    constructor
    · rintro ⟨x0, x1, h⟩
      rcases two x x0 (by omega) with rfl | rfl
      · have := h.2; rw [d0] at this; exact absurd this (by decide)
      · rfl
    · rintro rfl
      refine ⟨by decide, by omega, ?_⟩
      unfold sureC
      rw [d1]; exact ⟨rfl, by decide⟩)
  subst hl
  have hps : ps = [1] := by
    have hs := L.fd.sub
    obtain ⟨k, hk, _⟩ := L.fd.cov 1 (List.mem_singleton.2 rfl)
    rcases List.sublist_cons_iff.1 hs with h | ⟨t, rfl, h⟩
    · rw [List.sublist_nil.1 h] at hk; simp at hk
    · rw [List.sublist_nil.1 h]
  subst hps
  have ul : (r.Up.length : Int) = 1 := by rw [up, srcs_len]; rfl
  have u0 : (gt r.Up 0).Peak = 1 := by rw [up, srcs_at _ _ _ _ 0 (by decide) (by decide)]; rfl
  simp only [Option.bind_some, ul, u0, down, same, equalI_ok [0] (by decide)]
  rfl
end Lf
/- Boxes around multiples of a vector. -/
namespace Lf
open Go Go.Abs
set_option linter.unusedVariables false
set_option linter.unusedSimpArgs false
/-! ### boxes around multiples of a vector -/
theorem held1_ok (c p1 p3 : Int) (s : spymake_Stream) (hs : okS s) (ha : s.at_ ≤ 4611686018427000000) (hc : -1152921504606846976 ≤ p1 * c ∧ p1 * c ≤ 1152921504606846976) (h3 : 0 ≤ p3 ∧ p3 ≤ 1000000000) :
    Has (Stream_Held_1 c p1 s p3) fun r => r.1.Unknown = false ∧ p1 * c - p3 ≤ r.1.Lo ∧ r.1.Lo ≤ p1 * c ∧ p1 * c ≤ r.1.Hi ∧ r.1.Hi ≤ p1 * c + p3 ∧ after s r.2 2 := by
  unfold Stream_Held_1
  rw [w6_in (n := p3 + 1) (by omega), w6_in (n := p1 * c) (by omega)]
  refine (next_ok s (p3 + 1) hs (by omega) (by omega)).bind fun a ⟨a1, a2, a3⟩ => ?_
  have hA := a3.ok hs (by omega); have hhA := a3.hi
  refine (next_ok a.2 (p3 + 1) hA (by omega) (by omega)).bind fun b ⟨b1, b2, b3⟩ => ?_
  rw [w6_in (by omega), w6_in (by omega)]
  exact Has.ret ⟨rfl, by simp only []; omega, by simp only []; omega, by simp only []; omega, by simp only []; omega, (a3.trans b3).more (by omega)⟩
/-- A box around a multiple of a vector. -/
structure heldB (b : Bound) (k c most : Int) : Prop where
  u : b.Unknown = false
  l0 : k * c - most ≤ b.Lo
  l1 : b.Lo ≤ k * c
  h0 : k * c ≤ b.Hi
  h1 : b.Hi ≤ k * c + most
def smallV (v : Vec) : Prop := (-1099511627776 ≤ v.X ∧ v.X ≤ 1099511627776) ∧ (-1099511627776 ≤ v.Y ∧ v.Y ≤ 1099511627776) ∧ (-1099511627776 ≤ v.Z ∧ v.Z ≤ 1099511627776)
theorem mul8 {k c : Int} (h1 : 1 ≤ k) (h8 : k ≤ 8) (hc : -1099511627776 ≤ c ∧ c ≤ 1099511627776) : -8796093022208 ≤ k * c ∧ k * c ≤ 8796093022208 := by
  have : k = 1 ∨ k = 2 ∨ k = 3 ∨ k = 4 ∨ k = 5 ∨ k = 6 ∨ k = 7 ∨ k = 8 := by omega
  rcases this with rfl | rfl | rfl | rfl | rfl | rfl | rfl | rfl <;> omega
theorem held_ok (s : spymake_Stream) (v : Vec) (most : Int) (hs : okS s) (ha : s.at_ ≤ 4611686018426000000) (hv : smallV v) (hm : 0 ≤ most ∧ most ≤ 1000000000) :
    Has (Stream_Held s v most) fun r => (∃ k : Int, 1 ≤ k ∧ k ≤ 8 ∧ heldB r.1.X k v.X most ∧ heldB r.1.Y k v.Y most ∧ heldB r.1.Z k v.Z most) ∧ after s r.2 7 := by
  unfold Stream_Held
  refine (range_ok s 1 8 hs (by omega) (by omega) (by omega) (by omega)).bind fun a ⟨a1, a2, a3⟩ => ?_
  have hA := a3.ok hs (by omega); have hhA := a3.hi
  have mx := mul8 a1 a2 hv.1; have my := mul8 a1 a2 hv.2.1; have mz := mul8 a1 a2 hv.2.2
  refine (held1_ok v.X a.1 most a.2 hA (by omega) (by omega) hm).bind fun b ⟨b0, b1, b2, b3, b4, b5⟩ => ?_
  have hB := b5.ok hA (by omega); have hhB := b5.hi
  refine (held1_ok v.Y a.1 most b.2 hB (by omega) (by omega) hm).bind fun c ⟨c0, c1, c2, c3, c4, c5⟩ => ?_
  have hC := c5.ok hB (by omega); have hhC := c5.hi
  refine (held1_ok v.Z a.1 most c.2 hC (by omega) (by omega) hm).bind fun d ⟨d0, d1, d2, d3, d4, d5⟩ => ?_
  exact Has.ret ⟨⟨a.1, a1, a2, ⟨b0, b1, b2, b3, b4⟩, ⟨c0, c1, c2, c3, c4⟩, ⟨d0, d1, d2, d3, d4⟩⟩, (((a3.trans b5).trans c5).trans d5).more (by omega)⟩
end Lf
/- Directions that are drawn. -/
namespace Lf
open Go Go.Abs
set_option linter.unusedVariables false
set_option linter.unusedSimpArgs false
/-- A direction that is drawn. -/
structure okV (v : Vec) : Prop where
  x : -1048576 ≤ v.X ∧ v.X ≤ 1048576
  y : -1048576 ≤ v.Y ∧ v.Y ≤ 1048576
  z : -1048576 ≤ v.Z ∧ v.Z ≤ 1048576
  n : ¬ (v.X = 0 ∧ v.Y = 0 ∧ v.Z = 0)
theorem vec_ok (s : spymake_Stream) (hs : okS s) (ha : s.at_ ≤ 4611686018427000000) : Has (Stream_Vec s) fun r => okV r.1 ∧ after s r.2 4 := by
  unfold Stream_Vec
  refine (next_ok s 4 hs (by omega) (by omega)).bind fun a ⟨a1, a2, a3⟩ => Has.chk ⟨a1, a2⟩ ?_
  have hA := a3.ok hs (by omega); have hh := a3.hi
  have hm : 1 ≤ gt ([3, 100, 5000, 1048576] : List Int) a.1 ∧ gt ([3, 100, 5000, 1048576] : List Int) a.1 ≤ 1048576 := by
    have : a.1 = 0 ∨ a.1 = 1 ∨ a.1 = 2 ∨ a.1 = 3 := by omega
    rcases this with e | e | e | e <;> rw [e] <;> decide
  generalize gt ([3, 100, 5000, 1048576] : List Int) a.1 = m at *
  rw [w6_in (n := 0 - m) (by omega)]
  refine (range_ok a.2 (0 - m) m hA (by omega) (by omega) (by omega) (by omega)).bind fun b ⟨b1, b2, b3⟩ => ?_
  have hB := b3.ok hA (by omega); have hhb := b3.hi
  refine (range_ok b.2 (0 - m) m hB (by omega) (by omega) (by omega) (by omega)).bind fun c ⟨c1, c2, c3⟩ => ?_
  have hC := c3.ok hB (by omega); have hhc := c3.hi
  refine (range_ok c.2 (0 - m) m hC (by omega) (by omega) (by omega) (by omega)).bind fun d ⟨d1, d2, d3⟩ => ?_
  have af := ((a3.trans b3).trans c3).trans d3
  refine Has.ite (fun h => Has.ret ⟨⟨by simp only []; omega, by simp only []; omega, by simp only []; omega, by simp only []; omega⟩, af.more (by omega)⟩) fun h => Has.ret ⟨⟨by simp only []; omega, by simp only []; omega, by simp only []; omega, fun ⟨e1, e2, e3⟩ => h ?_⟩, af.more (by omega)⟩
  simp only [] at e1 e2 e3
  simp [e1, e2, e3]
end Lf
/- ChangeRowsSame: rows of stars that did not change are Steady or Unclear. -/
namespace Lf
open Go Go.Abs
set_option linter.unusedVariables false
set_option linter.unusedSimpArgs false
theorem clone_ok (s : List Row) (h : s.length ≤ 100) : slices_Clone_Row s = some s := by
  unfold slices_Clone_Row
  rw [if_pos (roomyI (by simp; omega) (by simp; omega))]
  unfold nilF
  cases s with
  | nil => rfl
  | cons a t => rfl
theorem heldB.ok {b : Bound} {k c most : Int} (h : heldB b k c most) (k1 : 1 ≤ k) (k8 : k ≤ 8) (hc : -1048576 ≤ c ∧ c ≤ 1048576) (m : 0 ≤ most ∧ most ≤ 4000) : b.ok := by
  have m8 := mul8 k1 k8 (c := c) (by omega)
  have := h.l0; have := h.l1; have := h.h0; have := h.h1
  exact ⟨fun e => (by rw [h.u] at e; cases e), by omega, by omega, by omega⟩
theorem heldB.share {x y : Bound} {k1 k2 c most : Int} (ha : heldB x k1 c most) (hb : heldB y k2 c most) (h1 : 1 ≤ k1) (h2 : 1 ≤ k2) : k2 * x.Lo ≤ y.Hi * k1 ∧ y.Lo * k1 ≤ k2 * x.Hi := by
  have e : k2 * (k1 * c) = k2 * c * k1 := by rw [Int.mul_comm k1, Int.mul_assoc]
  have a1 := Int.mul_le_mul_of_nonneg_left ha.l1 (show 0 ≤ k2 by omega)
  have a2 := Int.mul_le_mul_of_nonneg_right hb.h0 (show 0 ≤ k1 by omega)
  have a3 := Int.mul_le_mul_of_nonneg_left ha.h0 (show 0 ≤ k2 by omega)
  have a4 := Int.mul_le_mul_of_nonneg_right hb.l1 (show 0 ≤ k1 by omega)
  omega
/-- A row of a star. -/
structure rowOf (v : Vec) (light most : Int) (r : Row) : Prop where
  k : ∃ k : Int, 1 ≤ k ∧ k ≤ 8 ∧ heldB r.Box.X k v.X most ∧ heldB r.Box.Y k v.Y most ∧ heldB r.Box.Z k v.Z most
  u : r.Flux.Unknown = false
  lo : r.Flux.Lo ≤ light
  hi : light ≤ r.Flux.Hi
  bl : -100 ≤ r.Flux.Lo
  bh : r.Flux.Hi ≤ 10000
theorem rowOf.ok {v : Vec} {light most : Int} {r : Row} (h : rowOf v light most r) (hv : okV v) (m : 0 ≤ most ∧ most ≤ 4000) : okRow r := by
  obtain ⟨k, k1, k8, hx, hy, hz⟩ := h.k
  have := h.lo; have := h.hi; have := h.bl; have := h.bh
  exact ⟨⟨hx.ok k1 k8 hv.x m, hy.ok k1 k8 hv.y m, hz.ok k1 k8 hv.z m⟩, ⟨fun e => (by rw [h.u] at e; cases e), by omega, by omega, by omega⟩⟩
theorem rowOf.forced {v : Vec} {light most : Int} {r s : Row} (h : rowOf v light most r) (g : rowOf v light most s) : Lf.forced r.Box s.Box := by
  obtain ⟨k, k1, k8, hx, hy, hz⟩ := h.k
  obtain ⟨d, d1, d8, gx, gy, gz⟩ := g.k
  refine ⟨d, k, ⟨d1, by omega, k1⟩, fun i i0 i1 => .inr (.inr ?_)⟩
  have : i = 0 ∨ i = 1 ∨ i = 2 := by omega
  rcases this with rfl | rfl | rfl
  · exact hx.share gx k1 d1
  · exact hy.share gy k1 d1
  · exact hz.share gz k1 d1
theorem rowOf.pair {v : Vec} {light most : Int} {r s : Row} (h : rowOf v light most r) (g : rowOf v light most s) (hv : okV v) (m : 0 ≤ most ∧ most ≤ 4000) : pairOK r s :=
  ⟨h.ok hv m, g.ok hv m, h.forced g, g.forced h, h.u, g.u, by have := h.lo; have := g.hi; omega, by have := g.lo; have := h.hi; omega⟩
theorem nights.snoc {n : Int} {old now : List Row} (h : nights n old now) {a b : Row} (p : pairOK a b) : nights (n + 1) (old ++ [a]) (now ++ [b]) := by
  have lo := h.lo; have ln := h.ln
  refine ⟨by simp; omega, by simp; omega, fun i i0 i1 => ?_⟩
  by_cases e : i < n
  · rw [gt_snoc_lt i0 (by omega), gt_snoc_lt i0 (by omega)]; exact h.p i i0 e
  · rw [gt_snoc_eq (by omega), gt_snoc_eq (by omega)]; exact p
theorem l2_ok (r2 : Int × spymake_Stream) (r7 : Vec × spymake_Stream) (r8 : Int × spymake_Stream) (old now : List Row) (hm : 0 ≤ gt ([0, 5, 4000] : List Int) r2.1 ∧ gt ([0, 5, 4000] : List Int) r2.1 ≤ 4000) (hv : okV r7.1) (h0 : 0 ≤ r8.1) (h1 : r8.1 < 5000) (hs : okS r8.2) (ha : r8.2.at_ ≤ 4611686018425000000) (n : Int) (hN : nights n old now) (hn : n ≤ 64) :
    Has (loopF (spykeep4_ChangeRowsSame.l2 r2 r7 r8) (r8.2, old, now, 0)) fun z => after r8.2 z.1 20 ∧ nights (n + 1) z.2.1 z.2.2 := by
  have lo := hN.lo; have ln := hN.ln
  refine Has.loop (fun u : spymake_Stream × (List Row) × (List Row) × Int => after r8.2 u.1 (10 * u.2.2.2) ∧ ((u.2.2.2 = 0 ∧ u.2.1 = old ∧ u.2.2.1 = now) ∨ (u.2.2.2 = 1 ∧ u.2.1 = now ∧ ∃ a, u.2.2.1 = old ++ [a] ∧ rowOf r7.1 r8.1 (gt ([0, 5, 4000] : List Int) r2.1) a) ∨ (u.2.2.2 = 2 ∧ ∃ a b, u.2.1 = old ++ [a] ∧ u.2.2.1 = now ++ [b] ∧ rowOf r7.1 r8.1 (gt ([0, 5, 4000] : List Int) r2.1) a ∧ rowOf r7.1 r8.1 (gt ([0, 5, 4000] : List Int) r2.1) b))) (fun u => (2 - u.2.2.2).toNat) _ ⟨by simpa using after.refl r8.2, .inl ⟨rfl, rfl, rfl⟩⟩ (by simp) fun u ⟨u1, u2⟩ => ?_
  have ub : 0 ≤ u.2.2.2 ∧ u.2.2.2 ≤ 2 := by rcases u2 with ⟨q, _⟩ | ⟨q, _⟩ | ⟨q, _⟩ <;> omega
  have oU := u1.ok hs (by omega); have bU := u1.hi
  unfold spykeep4_ChangeRowsSame.l2
  refine Has.ite (fun hi => ?_) fun hi => ?_
  · have hi : u.2.2.2 < 2 := of_decide_eq_true hi
    refine (next_ok u.1 50 oU (by omega) (by omega)).bind fun a ⟨a0, a1, a2⟩ => ?_
    have oA := a2.ok oU (by omega); have bA := a2.hi
    refine (next_ok a.2 50 oA (by omega) (by omega)).bind fun b ⟨b0, b1, b2⟩ => ?_
    have oB := b2.ok oA (by omega); have bB := b2.hi
    have cl : u.2.1.length ≤ 100 := by
      rcases u2 with ⟨_, q, _⟩ | ⟨_, q, _⟩ | ⟨q, _⟩
      · rw [q]; omega
      · rw [q]; omega
      · omega
    rw [clone_ok _ cl]
    simp only [Option.bind_some]
    refine (held_ok b.2 r7.1 _ oB (by omega) ⟨by have := hv.x; omega, by have := hv.y; omega, by have := hv.z; omega⟩ (by omega)).bind fun c ⟨c1, c2⟩ => ?_
    rw [w6_in (n := r8.1 - a.1) (by omega), w6_in (n := r8.1 + b.1) (by omega), w6_in (n := u.2.2.2 + 1) (by omega)]
    have row : rowOf r7.1 r8.1 (gt ([0, 5, 4000] : List Int) r2.1) (Row.mk 0 c.1 (Bound.mk (r8.1 - a.1) (r8.1 + b.1) false) (Bound.mk 0 0 false) NilS.mk 0) := ⟨c1, rfl, by simp only []; omega, by simp only []; omega, by simp only []; omega, by simp only []; omega⟩
    refine Has.chk (roomyI (by simp; omega) (by simp; omega)) (Has.ret (.next ⟨(((u1.trans a2).trans b2).trans c2).more (by simp only []; omega), ?_⟩ (by simp only []; omega)))
    rcases u2 with ⟨q, e1, e2⟩ | ⟨q, e1, x, e2, hx⟩ | ⟨q, _⟩
    · exact .inr (.inl ⟨by simp only []; omega, e2, _, by simp only []; rw [e1], row⟩)
    · exact .inr (.inr ⟨by simp only []; omega, x, _, e2, by simp only []; rw [e1], hx, row⟩)
    · omega
  · have hi : ¬ u.2.2.2 < 2 := fun q => hi (decide_eq_true q)
    refine Has.ret (.done ⟨u1.more (by omega), ?_⟩)
    rcases u2 with ⟨q, _⟩ | ⟨q, _⟩ | ⟨q, a, b, e1, e2, ra, rb⟩
    · omega
    · omega
    · simp only []; rw [e1, e2]; exact hN.snoc (ra.pair rb hv hm)
theorem contains_ok (s : List change_Change) (h : ∀ c ∈ s, c.Kind = 7 ∨ c.Kind = 8) (hl : s.length ≤ 1000000) : slices_ContainsFunc_change_Change_spykeep4_ChangeRowsSame_1 s = some false := by
  apply Has.val
  unfold slices_ContainsFunc_change_Change_spykeep4_ChangeRowsSame_1 slices_IndexFunc_change_Change_spykeep4_ChangeRowsSame_1
  refine Has.bind (P := fun r => r = -1) ?_ fun r hr => Has.ret (by rw [hr]; rfl)
  refine Has.seq (P := fun t : Step Unit Int => t = .next ()) ?_ (fun _ _ => Has.ret rfl) fun o ho => by cases ho
  refine Has.loop (fun i : Int => 0 ≤ i ∧ i ≤ s.length) (fun i => (s.length - i).toNat) _ ⟨Int.le_refl _, by omega⟩ (by omega) fun i ⟨s0, s1⟩ => ?_
  unfold slices_IndexFunc_change_Change_spykeep4_ChangeRowsSame_1.l1
  refine Has.ite (fun hi => ?_) fun hi => Has.ret (.done rfl)
  have hi : i < s.length := of_decide_eq_true hi
  have k := h _ (gt_mem s i ⟨s0, hi⟩)
  have e : spykeep4_ChangeRowsSame_1 (gt s i) = some false := by
    unfold spykeep4_ChangeRowsSame_1
    rcases k with q | q <;> rw [q] <;> rfl
  refine Has.chk ⟨s0, hi⟩ ?_
  rw [e, w6_in (n := i + 1) (by omega)]
  exact Has.ret (.next ⟨by omega, by omega⟩ (by omega))
theorem ChangeRowsSame_true (l : List Int) (hl : okL l) : spykeep4_ChangeRowsSame l = some true := by
  apply Has.val
  have h0 := okS.start hl
  unfold spykeep4_ChangeRowsSame
  refine (range_ok _ 1 6 h0 (by simp only []; omega) (by omega) (by omega) (by omega)).bind fun r1 ⟨n0, n1, s1⟩ => ?_
  have o1 := s1.ok h0 (by simp only []; omega); have b1 := s1.hi
  refine (next_ok r1.2 3 o1 (by simp only [] at b1; omega) (by omega)).bind fun r2 ⟨m0, m1, s2⟩ => Has.chk ⟨m0, m1⟩ ?_
  have o2 := s2.ok o1 (by simp only [] at b1; omega); have b2 := s2.hi
  have hm : 0 ≤ gt ([0, 5, 4000] : List Int) r2.1 ∧ gt ([0, 5, 4000] : List Int) r2.1 ≤ 4000 := by
    have : r2.1 = 0 ∨ r2.1 = 1 ∨ r2.1 = 2 := by omega
    rcases this with e | e | e <;> rw [e] <;> decide
  refine Has.bind (P := fun z : (List Row) × (List Row) => nights r1.1 z.1 z.2) ?_ fun z hz => ?_
  · refine Has.loop (fun u : spymake_Stream × (List Row) × (List Row) × Int => 0 ≤ u.2.2.2 ∧ u.2.2.2 ≤ r1.1 ∧ after r2.2 u.1 (30 * u.2.2.2) ∧ nights u.2.2.2 u.2.1 u.2.2.1) (fun u => (r1.1 - u.2.2.2).toNat) _ ⟨Int.le_refl _, by simp only []; omega, by simpa using after.refl r2.2, ⟨rfl, rfl, fun i i0 i1 => by simp only [] at i1; omega⟩⟩ (by simp only []; omega) fun u ⟨u0, u1, u2, u3⟩ => ?_
    have oU := u2.ok o2 (by simp only [] at b1; omega); have bU := u2.hi
    unfold spykeep4_ChangeRowsSame.l1
    refine Has.ite (fun hi => ?_) fun hi => Has.ret (.done ?_)
    · have hi : u.2.2.2 < r1.1 := of_decide_eq_true hi
      refine (vec_ok u.1 oU (by simp only [] at b1; omega)).bind fun r7 ⟨v1, s7⟩ => ?_
      have o7 := s7.ok oU (by simp only [] at b1; omega); have b7 := s7.hi
      refine (next_ok r7.2 5000 o7 (by simp only [] at b1; omega) (by omega)).bind fun r8 ⟨l0, l1, s8⟩ => ?_
      have o8 := s8.ok o7 (by simp only [] at b1; omega); have b8 := s8.hi
      refine (l2_ok r2 r7 r8 u.2.1 u.2.2.1 hm v1 l0 l1 o8 (by simp only [] at b1; omega) _ u3 (by omega)).bind fun z ⟨z1, z2⟩ => ?_
      rw [w6_in (n := u.2.2.2 + 1) (by omega)]
      exact Has.ret (.next ⟨by simp only []; omega, by simp only []; omega, (((u2.trans s7).trans s8).trans z1).more (by simp only []; omega), z2⟩ (by simp only []; omega))
    · have hi : ¬ u.2.2.2 < r1.1 := fun q => hi (decide_eq_true q)
      have e : u.2.2.2 = r1.1 := by omega
      rw [← e]; exact u3
  · have lo := hz.lo; have ln := hz.ln
    refine Has.seq (P := fun t : Step Unit Bool => t = .next ()) ?_ (fun _ _ => ?_) fun o ho => by cases ho
    · refine Has.loop (fun i : Int => 0 ≤ i ∧ i ≤ r1.1) (fun i => (r1.1 - i).toNat) _ ⟨Int.le_refl _, by omega⟩ (by omega) fun i ⟨i0, i1⟩ => ?_
      unfold spykeep4_ChangeRowsSame.l3
      refine Has.ite (fun hi => ?_) fun hi => Has.ret (.done rfl)
      have hi : i < r1.1 := of_decide_eq_true hi
      have pp := hz.p i i0 hi
      refine Has.bind (P := fun z => z = false) (Has.chk ⟨i0, by omega⟩ (Has.chk ⟨i0, by omega⟩ ((share_ok pp.ro.1 pp.rw_.1).bind fun a ha => ?_))) fun z hz => ?_
      · obtain ⟨k, d, kd, sh⟩ := pp.f
        have ea := ha k d kd sh
        subst ea
        refine Has.neg (by decide) ((share_ok pp.rw_.1 pp.ro.1).bind fun b hb => Has.ret ?_)
        obtain ⟨k, d, kd, sh⟩ := pp.b
        rw [hb k d kd sh]; rfl
      · subst hz
        rw [w6_in (n := i + 1) (by omega)]
        exact Has.neg (by decide) (Has.ret (.next ⟨by omega, by omega⟩ (by omega)))
    · refine (between_ok hz (by omega)).bind fun r ⟨e0, e1, e2⟩ => ?_
      rw [noticed_ok, contains_ok r.1 e2 (by omega), e0, e1]
      simp only [Option.bind_some, Bool.not_true, Bool.false_eq_true, if_false, bne_self_eq_false]
      exact Has.ret rfl
end Lf
