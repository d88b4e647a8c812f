/- Laws about heaps and calls that the walks use. Conditions: as each theorem states them. -/
import Derived.Test.YtdihhgkihbnnoaaAbsO
namespace Go.Abs
set_option linter.unusedVariables false
set_option linter.unusedSimpArgs false

/-! ### turning what is known -/
def Weak (C : Cx) (s s' : St) : Prop := ∀ (E : Env) (a : Act) (W : World), Inv C E s a W → ∃ E', E.lep C.p E' ∧ Inv C E' s' a W
theorem AWP.weaken {P : Program} {r : Option Nat} {C : Cx} {s s' : St} {Q : Exit → St → Prop} {c : Code} (hw : Weak C s s') (h : AWP P r C c s' Q) : AWP P r C c s Q := fun E a W hI => by
  obtain ⟨E', h1, h2⟩ := hw E a W hI
  exact wpIn_mono (h E' a W h2) fun e a' W' ⟨E2, s2, g1, g2, g3⟩ => ⟨E2, s2, Env.lep_trans h1 g1, g2, g3⟩
theorem Weak.refl (C : Cx) (s : St) : Weak C s s := fun E a W h => ⟨E, Env.lep_refl _ _, h⟩
theorem Weak.trans {C : Cx} {s s' s'' : St} (h : Weak C s s') (k : Weak C s' s'') : Weak C s s'' := fun E a W hI => by
  obtain ⟨E', h1, h2⟩ := h E a W hI
  obtain ⟨E2, h3, h4⟩ := k E' a W h2
  exact ⟨E2, Env.lep_trans h1 h3, h4⟩

mutual
/-- All the blocks that a value names lie below a number. -/
def V.lim (n : Nat) : V → Bool
  | .sc _ => true
  | .agg cs => V.lims n cs
  | .tup cs => V.lims n cs
  | .lst _ _ _ cs => V.lims n cs
  | .rp cs => V.lims n cs
  | .sl b .. => b < n
  | .ptr b .. => b < n
  | .fn _ cs => V.lims n cs
  | .any => true
def V.lims (n : Nat) : List V → Bool
  | [] => true
  | x :: xs => V.lim n x && V.lims n xs
end
mutual
theorem RL.lim {E E2 : Env} {n : Nat} (hn : E2.n0 ≤ E.n0) (hF : ∀ B o d, E.F B o = some d → E2.F B o = some d) (hσ : ∀ b, b < n → E2.σ b = E.σ b) : ∀ (v : V) (c : Value), V.lim n v = true → RL E v c → RL E2 v c
  | .sc v, c, f, r => by simpa only [RL] using r
  | .agg cs, c, f, r => by
    simp only [RL] at r ⊢
    simp only [V.lim] at f
    obtain ⟨ds, rfl, r1, r2⟩ := r
    exact ⟨ds, rfl, RLs.lim hn hF hσ cs ds f r1, r2⟩
  | .tup cs, c, f, r => by
    simp only [RL] at r ⊢
    simp only [V.lim] at f
    obtain ⟨ds, rfl, r1⟩ := r
    exact ⟨ds, rfl, RLs.lim hn hF hσ cs ds f r1⟩
  | .lst new e m cs, c, f, r => by
    simp only [RL] at r ⊢
    simp only [V.lim] at f
    obtain ⟨a, cap, rfl, r1, r2, r3, r4⟩ := r
    refine ⟨a, cap, rfl, r1, r2, r3, ?_⟩
    rcases r4 with r4 | ⟨B, o, rfl, r5, r6⟩
    · exact .inl r4
    · exact .inr ⟨B, o, rfl, fun q => Nat.le_trans hn (r5 q), RF.lim hn hF hσ B cs o f r6⟩
  | .rp cs, c, f, r => by
    simp only [RL] at r ⊢
    simp only [V.lim] at f
    obtain ⟨B, o, rfl, r1, r2⟩ := r
    exact ⟨B, o, rfl, RF.lim hn hF hσ B cs o f r1, r2⟩
  | .sl b ver e off len, c, f, r => by
    simp only [V.lim, decide_eq_true_eq] at f
    simp only [RL] at r ⊢
    rw [hσ b f]; exact r
  | .ptr b ver o, c, f, r => by
    simp only [V.lim, decide_eq_true_eq] at f
    simp only [RL] at r ⊢
    rw [hσ b f]; exact r
  | .fn g cs, c, f, r => by
    simp only [RL] at r ⊢
    simp only [V.lim] at f
    obtain ⟨ds, rfl, r1⟩ := r
    exact ⟨ds, rfl, RLs.lim hn hF hσ cs ds f r1⟩
  | .any, c, f, r => by simp only [RL]
theorem RLs.lim {E E2 : Env} {n : Nat} (hn : E2.n0 ≤ E.n0) (hF : ∀ B o d, E.F B o = some d → E2.F B o = some d) (hσ : ∀ b, b < n → E2.σ b = E.σ b) : ∀ (vs : List V) (ds : List Value), V.lims n vs = true → RLs E vs ds → RLs E2 vs ds
  | [], ds, f, r => by simpa only [RLs] using r
  | x :: xs, ds, f, r => by
    simp only [RLs] at r ⊢
    simp only [V.lims, Bool.and_eq_true] at f
    obtain ⟨d, ds', rfl, r1, r2⟩ := r
    exact ⟨d, ds', rfl, RL.lim hn hF hσ x d f.1 r1, RLs.lim hn hF hσ xs ds' f.2 r2⟩
theorem RF.lim {E E2 : Env} {n : Nat} (hn : E2.n0 ≤ E.n0) (hF : ∀ B o d, E.F B o = some d → E2.F B o = some d) (hσ : ∀ b, b < n → E2.σ b = E.σ b) (B : Nat) : ∀ (vs : List V) (o : Nat), V.lims n vs = true → RF E B o vs → RF E2 B o vs
  | [], o, f, r => by simp only [RF]
  | x :: xs, o, f, r => by
    simp only [RF] at r ⊢
    simp only [V.lims, Bool.and_eq_true] at f
    obtain ⟨⟨d, r1, r2⟩, r3⟩ := r
    exact ⟨⟨d, hF B o d r1, RL.lim hn hF hσ x d f.1 r2⟩, RF.lim hn hF hσ B xs (o + 1) f.2 r3⟩
end

def Blk.lim (n : Nat) : Blk → Bool
  | .box cs | .arr _ _ _ cs => V.lims n cs
  | .dead => true

theorem BlkOK.lim {E E2 : Env} {W : World} {I : Info} {n : Nat} {k : Blk} (hn : E2.n0 ≤ E.n0) (hF : ∀ B o d, E.F B o = some d → E2.F B o = some d) (hσ : ∀ b, b < n → E2.σ b = E.σ b) (hk : Blk.lim n k = true) (h : BlkOK E W I k) : BlkOK E2 W I k := by
  cases k with
  | dead => exact h
  | box cs =>
    obtain ⟨h1, h2, h3, B, cur, t, h4, h5, h6, h7, h8⟩ := h
    exact ⟨h1, h2, h3, B, cur, t, h4, h5, h6, h7, RLs.lim hn hF hσ _ _ hk h8⟩
  | arr te e ver cs =>
    obtain ⟨h1, h2, h3, h4, h5, h6, h7⟩ := h
    refine ⟨h1, h2, h3, h4, h5, h6, ?_⟩
    rcases h7 with h7 | ⟨B, cur, a1, a2, a3, a4, a5, a6⟩
    · exact .inl h7
    · exact .inr ⟨B, cur, a1, a2, a3, a4, a5, RLs.lim hn hF hσ _ _ hk a6⟩

/-- Slots and blocks are forgotten. -/
theorem Weak.cut {C : Cx} {s s' : St} (n : Nat) (hp : C.p ≤ n) (hnx : s'.nx = n) (ht : ∀ t, s'.tm t = .any ∨ (s'.tm t = s.tm t ∧ V.lim n (s'.tm t) = true))
    (hm : ∀ b, s'.mem b = if b < n then s.mem b else none) (hb : ∀ b k, s'.mem b = some k → Blk.lim n k = true) : Weak C s s' := fun E a W h => by
  have hm' : ∀ b k, s'.mem b = some k → b < n ∧ s.mem b = some k := by
    intro b k hk
    rw [hm b] at hk
    split at hk
    · exact ⟨by assumption, hk⟩
    · cases hk
  refine ⟨{ E with σ := fun b => if b < n then E.σ b else none }, ⟨Nat.le_refl _, fun _ _ _ x => x, fun b I hb hI => ⟨I, by simp [Nat.lt_of_lt_of_le hb hp, hI], I.le_refl⟩⟩, ?_, ?_, h.size, h.defs⟩
  · refine ⟨h.m.n0, h.m.frz, ?_, ?_, ?_, ?_, ?_, ?_, h.m.old, h.m.keep⟩
    · intro b k hk
      obtain ⟨h1, h2⟩ := hm' b k hk
      obtain ⟨I, g1, g2⟩ := h.m.blk b k h2
      exact ⟨I, by simp [h1, g1], g2.lim (E := E) (Nat.le_refl _) (fun _ _ _ x => x) (fun b' hb' => by simp [hb']) (hb b k hk)⟩
    · intro b I hI
      simp only [] at hI
      split at hI
      · rename_i hlt
        obtain ⟨k, hk⟩ := h.m.dom b I hI
        exact ⟨k, by rw [hm b, if_pos hlt]; exact hk⟩
      · cases hI
    · intro b k hk; rw [hnx]; exact (hm' b k hk).1
    · intro b b' I I' B h1 h2
      simp only [] at h1 h2
      split at h1
      · split at h2
        · exact h.m.inj b b' I I' B h1 h2
        · cases h2
      · cases h1
    · intro b I B h1
      simp only [] at h1
      split at h1
      · exact h.m.sep b I B h1
      · cases h1
    · intro b I B h1
      simp only [] at h1
      split at h1
      · exact h.m.own b I B h1
      · cases h1
  · intro t
    rcases ht t with e | ⟨e, hl⟩
    · rw [e]; simp only [RL]
    · have := h.tms t
      rw [← e] at this
      refine RL.lim (E := E) ?_ ?_ ?_ _ _ hl this
      · exact Nat.le_refl _
      · exact fun _ _ _ x => x
      · intro b' hb'; simp [hb']

/-- A nil slice is the function's own empty row. -/
theorem InvM.nilRow {C : Cx} {E : Env} {mem : Nat → Option Blk} {nx : Nat} {W : World} (h : InvM C E mem nx W) (te e : Nat) (he : 0 < e) :
    ∃ E', E.le E' ∧ InvM C E' (upd mem nx (some (.arr te e 0 []))) (nx + 1) W ∧ RL E' (.sl nx 0 e 0 0) (.slice none 0 0) := by
  have hid : mem nx = none := by
    cases hm : mem nx with
    | none => rfl
    | some k => have := h.nx nx k hm; omega
  have hs : ∀ J, E.σ nx = some J → J.le ⟨false, none, e, 0, 0⟩ := fun J hJ => by
    obtain ⟨k', hk'⟩ := h.dom nx J hJ
    rw [hid] at hk'; cases hk'
  have put := h.put (W' := W) nx ⟨false, none, e, 0, 0⟩ (.arr te e 0 []) none hs rfl (fun B hB => by cases hB) ⟨rfl, rfl, rfl, Nat.le_refl _, fun _ _ _ => rfl⟩ (fun B hB => by cases hB)
    ⟨rfl, rfl, rfl, he, rfl, ⟨0, by simp⟩, .inl ⟨rfl, rfl⟩⟩
  rw [Nat.max_eq_right (by omega)] at put
  refine ⟨_, Env.put_le hs, put, ?_⟩
  simp only [RL]
  exact ⟨none, 0, rfl, Nat.le_refl _, he, .inl ⟨rfl, by simp⟩, ⟨false, none, e, 0, 0⟩, by simp [Env.put, upd], .inr ⟨Nat.le_refl _, fun _ => ⟨rfl, .inl ⟨rfl, rfl⟩⟩⟩⟩
theorem Weak.nilRow {C : Cx} {s : St} (t te e : Nat) (he : 0 < e) (ht : s.tm t = .sc (.slice none 0 0)) :
    Weak C s { tm := upd s.tm t (.sl s.nx 0 e 0 0), mem := upd s.mem s.nx (some (.arr te e 0 [])), nx := s.nx + 1 } := fun E a W h => by
  obtain ⟨E', h1, h2, h3⟩ := h.m.nilRow te e he
  refine ⟨E', h1.lep, h2, fun t' => ?_, h.size, h.defs⟩
  show RL E' (upd s.tm t (.sl s.nx 0 e 0 0) t') _
  unfold upd
  split
  · rename_i e'
    subst e'
    have := h.tms t'
    rw [ht] at this
    simp only [RL] at this
    rw [this]; exact h3
  · exact RL.mono h1 _ _ (h.tms t')
/-- .. in a struct that is a variable. -/
theorem Weak.nilRowIn {C : Cx} {s : St} (b i te e : Nat) (cs : List V) (he : 0 < e) (hb : s.mem b = some (.box cs)) (hi : cs[i]? = some (.sc (.slice none 0 0))) :
    Weak C s { tm := s.tm, mem := upd (upd s.mem s.nx (some (.arr te e 0 []))) b (some (.box (cs.set i (.sl s.nx 0 e 0 0)))), nx := s.nx + 1 } := fun E a W h => by
  obtain ⟨E', h1, h2, h3⟩ := h.m.nilRow te e he
  have hbn := h.m.nx b _ hb
  obtain ⟨I, g1, g2⟩ := h2.blk b (.box cs) (by unfold upd; rw [if_neg (by omega)]; exact hb)
  obtain ⟨a1, a2, a3, B, cur, t, a4, a5, a6, a7, a8⟩ := g2
  have hs : ∀ J, E'.σ b = some J → J.le I := fun J hJ => by rw [g1] at hJ; cases hJ; exact I.le_refl
  have put := h2.put (W' := W) b I (.box (cs.set i (.sl s.nx 0 e 0 0))) none hs a1 (fun B hB => by cases hB) ⟨rfl, rfl, rfl, Nat.le_refl _, fun _ _ _ => rfl⟩ (fun B hB => .inr ⟨I, g1, a1, hB⟩)
    ⟨a1, a2, a3, B, cur, t, a4, a5, by simpa using a6, by
      rw [List.all_eq_true] at a7 ⊢
      intro x hx
      rcases List.mem_or_eq_of_mem_set hx with hx | rfl
      · exact a7 x hx
      · rfl, by
      refine RLs.of_get _ _ (by have := RLs.length _ _ a8; simpa using this) fun j x hx => ?_
      rw [List.getElem?_set] at hx
      split at hx
      · rename_i hij
        subst hij
        split at hx
        · cases hx
          obtain ⟨d, d1, d2⟩ := RLs.get _ _ a8 i _ hi
          simp only [RL] at d2
          subst d2
          exact ⟨_, by simpa using d1, RL.mono (Env.put_le hs) _ _ h3⟩
        · cases hx
      · obtain ⟨d, d1, d2⟩ := RLs.get _ _ a8 j x hx
        exact ⟨d, by simpa using d1, RL.mono (Env.put_le hs) _ _ d2⟩⟩
  rw [Nat.max_eq_left (by omega)] at put
  exact ⟨_, (Env.le_trans h1 (Env.put_le hs)).lep, put, fun t' => RL.mono (Env.le_trans h1 (Env.put_le hs)) _ _ (h.tms t'), h.size, h.defs⟩
end Go.Abs
