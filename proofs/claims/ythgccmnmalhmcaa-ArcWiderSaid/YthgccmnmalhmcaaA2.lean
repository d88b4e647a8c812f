/- Laws about heaps and calls that the walks use. Conditions: as each theorem states them. -/
import Derived.Test.YthgccmnmalhmcaaA1
import Derived.IntWalk
namespace Go.Abs
set_option linter.unusedVariables false
set_option linter.unusedSimpArgs false

def Weak (C : Cx) (s s' : St) : Prop := ∀ (E : Env) (a : Act) (W : World), Inv C E s a W → ∃ E', E.lep C.p E' ∧ Inv C E' s' a W
theorem AWP.weaken {P : Program} {r : Option Nat} {C : Cx} {s s' : St} {Q : Exit → St → Prop} {c : Code} (hw : Weak C s s') (h : AWP P r C c s' Q) : AWP P r C c s Q := fun E a W hI => by
 obtain ⟨E', h1, h2⟩ := hw E a W hI
 exact wpIn_mono (h E' a W h2) fun e a' W' ⟨E2, s2, g1, g2, g3⟩ => ⟨E2, s2, Env.lep_trans h1 g1, g2, g3⟩
theorem Weak.refl (C : Cx) (s : St) : Weak C s s := fun E a W h => ⟨E, Env.lep_refl _ _, h⟩
theorem Weak.trans {C : Cx} {s s' s'' : St} (h : Weak C s s') (k : Weak C s' s'') : Weak C s s'' := fun E a W hI => by
 obtain ⟨E', h1, h2⟩ := h E a W hI
 obtain ⟨E2, h3, h4⟩ := k E' a W h2
 exact ⟨E2, Env.lep_trans h1 h3, h4⟩

mutual
def V.lim (n : Nat) : V → Bool
 | .sc _ => true
 | .agg cs => V.lims n cs
 | .tup cs => V.lims n cs
 | .lst _ _ _ cs => V.lims n cs
 | .rp cs => V.lims n cs
 | .sl b .. => b < n
 | .ptr b .. => b < n
 | .fn _ cs => V.lims n cs
 | .any => true
def V.lims (n : Nat) : List V → Bool
 | [] => true
 | x :: xs => V.lim n x && V.lims n xs
end
mutual
theorem RL.lim {E E2 : Env} {n : Nat} (hn : E2.n0 ≤ E.n0) (hF : ∀ B o d, E.F B o = some d → E2.F B o = some d) (hσ : ∀ b, b < n → E2.σ b = E.σ b) : ∀ (v : V) (c : Value), V.lim n v = true → RL E v c → RL E2 v c
 | .sc v, c, f, r => by simpa only [RL] using r
 | .agg cs, c, f, r => by
  simp only [RL] at r ⊢
  simp only [V.lim] at f
  obtain ⟨ds, rfl, r1, r2⟩ := r
  exact ⟨ds, rfl, RLs.lim hn hF hσ cs ds f r1, r2⟩
 | .tup cs, c, f, r => by
  simp only [RL] at r ⊢
  simp only [V.lim] at f
  obtain ⟨ds, rfl, r1⟩ := r
  exact ⟨ds, rfl, RLs.lim hn hF hσ cs ds f r1⟩
 | .lst new e m cs, c, f, r => by
  simp only [RL] at r ⊢
  simp only [V.lim] at f
  obtain ⟨a, cap, rfl, r1, r2, r3, r4⟩ := r
  refine ⟨a, cap, rfl, r1, r2, r3, ?_⟩
  rcases r4 with r4 | ⟨B, o, rfl, r5, r6⟩
  ·exact .inl r4
  ·exact .inr ⟨B, o, rfl, fun q => Nat.le_trans hn (r5 q), RF.lim hn hF hσ B cs o f r6⟩
 | .rp cs, c, f, r => by
  simp only [RL] at r ⊢
  simp only [V.lim] at f
  obtain ⟨B, o, rfl, r1, r2⟩ := r
  exact ⟨B, o, rfl, RF.lim hn hF hσ B cs o f r1, r2⟩
 | .sl b ver e off len, c, f, r => by
  simp only [V.lim, decide_eq_true_eq] at f
  simp only [RL] at r ⊢
  rw [hσ b f]; exact r
 | .ptr b ver o, c, f, r => by
  simp only [V.lim, decide_eq_true_eq] at f
  simp only [RL] at r ⊢
  rw [hσ b f]; exact r
 | .fn g cs, c, f, r => by
  simp only [RL] at r ⊢
  simp only [V.lim] at f
  obtain ⟨ds, rfl, r1⟩ := r
  exact ⟨ds, rfl, RLs.lim hn hF hσ cs ds f r1⟩
 | .any, c, f, r => by simp only [RL]
theorem RLs.lim {E E2 : Env} {n : Nat} (hn : E2.n0 ≤ E.n0) (hF : ∀ B o d, E.F B o = some d → E2.F B o = some d) (hσ : ∀ b, b < n → E2.σ b = E.σ b) : ∀ (vs : List V) (ds : List Value), V.lims n vs = true → RLs E vs ds → RLs E2 vs ds
 | [], ds, f, r => by simpa only [RLs] using r
 | x :: xs, ds, f, r => by
  simp only [RLs] at r ⊢
  simp only [V.lims, Bool.and_eq_true] at f
  obtain ⟨d, ds', rfl, r1, r2⟩ := r
  exact ⟨d, ds', rfl, RL.lim hn hF hσ x d f.1 r1, RLs.lim hn hF hσ xs ds' f.2 r2⟩
theorem RF.lim {E E2 : Env} {n : Nat} (hn : E2.n0 ≤ E.n0) (hF : ∀ B o d, E.F B o = some d → E2.F B o = some d) (hσ : ∀ b, b < n → E2.σ b = E.σ b) (B : Nat) : ∀ (vs : List V) (o : Nat), V.lims n vs = true → RF E B o vs → RF E2 B o vs
 | [], o, f, r => by simp only [RF]
 | x :: xs, o, f, r => by
  simp only [RF] at r ⊢
  simp only [V.lims, Bool.and_eq_true] at f
  obtain ⟨⟨d, r1, r2⟩, r3⟩ := r
  exact ⟨⟨d, hF B o d r1, RL.lim hn hF hσ x d f.1 r2⟩, RF.lim hn hF hσ B xs (o + 1) f.2 r3⟩
end

def Blk.lim (n : Nat) : Blk → Bool
 | .box cs | .arr _ _ _ cs => V.lims n cs
 | .dead => true

theorem BlkOK.lim {E E2 : Env} {W : World} {I : Info} {n : Nat} {k : Blk} (hn : E2.n0 ≤ E.n0) (hF : ∀ B o d, E.F B o = some d → E2.F B o = some d) (hσ : ∀ b, b < n → E2.σ b = E.σ b) (hk : Blk.lim n k = true) (h : BlkOK E W I k) : BlkOK E2 W I k := by
 cases k with
 | dead => exact h
 | box cs =>
  obtain ⟨h1, h2, h3, B, cur, t, h4, h5, h6, h7, h8⟩ := h
  exact ⟨h1, h2, h3, B, cur, t, h4, h5, h6, h7, RLs.lim hn hF hσ _ _ hk h8⟩
 | arr te e ver cs =>
  obtain ⟨h1, h2, h3, h4, h5, h6, h7⟩ := h
  refine ⟨h1, h2, h3, h4, h5, h6, ?_⟩
  rcases h7 with h7 | ⟨B, cur, a1, a2, a3, a4, a5, a6⟩
  ·exact .inl h7
  ·exact .inr ⟨B, cur, a1, a2, a3, a4, a5, RLs.lim hn hF hσ _ _ hk a6⟩

theorem Weak.cut {C : Cx} {s s' : St} (n : Nat) (hp : C.p ≤ n) (hnx : s'.nx = n) (ht : ∀ t, s'.tm t = .any ∨ (s'.tm t = s.tm t ∧ V.lim n (s'.tm t) = true))
  (hm : ∀ b, s'.mem b = if b < n then s.mem b else none) (hb : ∀ b k, s'.mem b = some k → Blk.lim n k = true) : Weak C s s' := fun E a W h => by
 have hm' : ∀ b k, s'.mem b = some k → b < n ∧ s.mem b = some k := by
  intro b k hk
  rw [hm b] at hk
  split at hk
  ·exact ⟨by assumption, hk⟩
  ·cases hk
 refine ⟨{ E with σ := fun b => if b < n then E.σ b else none }, ⟨Nat.le_refl _, fun _ _ _ x => x, fun b I hb hI => ⟨I, by simp [Nat.lt_of_lt_of_le hb hp, hI], I.le_refl⟩⟩, ?_, ?_, h.size, h.defs⟩
 ·refine ⟨h.m.n0, h.m.frz, ?_, ?_, ?_, ?_, ?_, ?_, h.m.old, h.m.keep⟩
  ·intro b k hk
   obtain ⟨h1, h2⟩ := hm' b k hk
   obtain ⟨I, g1, g2⟩ := h.m.blk b k h2
   exact ⟨I, by simp [h1, g1], g2.lim (E := E) (Nat.le_refl _) (fun _ _ _ x => x) (fun b' hb' => by simp [hb']) (hb b k hk)⟩
  ·intro b I hI
   simp only [] at hI
   split at hI
   ·rename_i hlt
    obtain ⟨k, hk⟩ := h.m.dom b I hI
    exact ⟨k, by rw [hm b, if_pos hlt]; exact hk⟩
   ·cases hI
  ·intro b k hk; rw [hnx]; exact (hm' b k hk).1
  ·intro b b' I I' B h1 h2
   simp only [] at h1 h2
   split at h1
   ·split at h2
    ·exact h.m.inj b b' I I' B h1 h2
    ·cases h2
   ·cases h1
  ·intro b I B h1
   simp only [] at h1
   split at h1
   ·exact h.m.sep b I B h1
   ·cases h1
  ·intro b I B h1
   simp only [] at h1
   split at h1
   ·exact h.m.own b I B h1
   ·cases h1
 ·intro t
  rcases ht t with e | ⟨e, hl⟩
  ·rw [e]; simp only [RL]
  ·have := h.tms t
   rw [← e] at this
   refine RL.lim (E := E) ?_ ?_ ?_ _ _ hl this
   ·exact Nat.le_refl _
   ·exact fun _ _ _ x => x
   ·intro b' hb'; simp [hb']

theorem InvM.nilRow {C : Cx} {E : Env} {mem : Nat → Option Blk} {nx : Nat} {W : World} (h : InvM C E mem nx W) (te e : Nat) (he : 0 < e) :
  ∃ E', E.le E' ∧ InvM C E' (upd mem nx (some (.arr te e 0 []))) (nx + 1) W ∧ RL E' (.sl nx 0 e 0 0) (.slice none 0 0) := by
 have hid : mem nx = none := by
  cases hm : mem nx with
  | none => rfl
  | some k => have := h.nx nx k hm; omega
 have hs : ∀ J, E.σ nx = some J → J.le ⟨false, none, e, 0, 0⟩ := fun J hJ => by
  obtain ⟨k', hk'⟩ := h.dom nx J hJ
  rw [hid] at hk'; cases hk'
 have put := h.put (W' := W) nx ⟨false, none, e, 0, 0⟩ (.arr te e 0 []) none hs rfl (fun B hB => by cases hB) ⟨rfl, rfl, rfl, Nat.le_refl _, fun _ _ _ => rfl⟩ (fun B hB => by cases hB)
  ⟨rfl, rfl, rfl, he, rfl, ⟨0, by simp⟩, .inl ⟨rfl, rfl⟩⟩
 rw [Nat.max_eq_right (by omega)] at put
 refine ⟨_, Env.put_le hs, put, ?_⟩
 simp only [RL]
 exact ⟨none, 0, rfl, Nat.le_refl _, he, .inl ⟨rfl, by simp⟩, ⟨false, none, e, 0, 0⟩, by simp [Env.put, upd], .inr ⟨Nat.le_refl _, fun _ => ⟨rfl, .inl ⟨rfl, rfl⟩⟩⟩⟩
theorem Weak.nilRow {C : Cx} {s : St} (t te e : Nat) (he : 0 < e) (ht : s.tm t = .sc (.slice none 0 0)) :
  Weak C s { tm := upd s.tm t (.sl s.nx 0 e 0 0), mem := upd s.mem s.nx (some (.arr te e 0 [])), nx := s.nx + 1 } := fun E a W h => by
 obtain ⟨E', h1, h2, h3⟩ := h.m.nilRow te e he
 refine ⟨E', h1.lep, h2, fun t' => ?_, h.size, h.defs⟩
 show RL E' (upd s.tm t (.sl s.nx 0 e 0 0) t') _
 unfold upd
 split
 ·rename_i e'
  subst e'
  have := h.tms t'
  rw [ht] at this
  simp only [RL] at this
  rw [this]; exact h3
 ·exact RL.mono h1 _ _ (h.tms t')
theorem Weak.nilRowIn {C : Cx} {s : St} (b i te e : Nat) (cs : List V) (he : 0 < e) (hb : s.mem b = some (.box cs)) (hi : cs[i]? = some (.sc (.slice none 0 0))) :
  Weak C s { tm := s.tm, mem := upd (upd s.mem s.nx (some (.arr te e 0 []))) b (some (.box (cs.set i (.sl s.nx 0 e 0 0)))), nx := s.nx + 1 } := fun E a W h => by
 obtain ⟨E', h1, h2, h3⟩ := h.m.nilRow te e he
 have hbn := h.m.nx b _ hb
 obtain ⟨I, g1, g2⟩ := h2.blk b (.box cs) (by unfold upd; rw [if_neg (by omega)]; exact hb)
 obtain ⟨a1, a2, a3, B, cur, t, a4, a5, a6, a7, a8⟩ := g2
 have hs : ∀ J, E'.σ b = some J → J.le I := fun J hJ => by rw [g1] at hJ; cases hJ; exact I.le_refl
 have put := h2.put (W' := W) b I (.box (cs.set i (.sl s.nx 0 e 0 0))) none hs a1 (fun B hB => by cases hB) ⟨rfl, rfl, rfl, Nat.le_refl _, fun _ _ _ => rfl⟩ (fun B hB => .inr ⟨I, g1, a1, hB⟩)
  ⟨a1, a2, a3, B, cur, t, a4, a5, by simpa using a6, by
   rw [List.all_eq_true] at a7 ⊢
   intro x hx
   rcases List.mem_or_eq_of_mem_set hx with hx | rfl
   ·exact a7 x hx
   ·rfl, by
   refine RLs.of_get _ _ (by have := RLs.length _ _ a8; simpa using this) fun j x hx => ?_
   rw [List.getElem?_set] at hx
   split at hx
   ·rename_i hij
    subst hij
    split at hx
    ·cases hx
     obtain ⟨d, d1, d2⟩ := RLs.get _ _ a8 i _ hi
     simp only [RL] at d2
     subst d2
     exact ⟨_, by simpa using d1, RL.mono (Env.put_le hs) _ _ h3⟩
    ·cases hx
   ·obtain ⟨d, d1, d2⟩ := RLs.get _ _ a8 j x hx
    exact ⟨d, by simpa using d1, RL.mono (Env.put_le hs) _ _ d2⟩⟩
 rw [Nat.max_eq_left (by omega)] at put
 exact ⟨_, (Env.le_trans h1 (Env.put_le hs)).lep, put, fun t' => RL.mono (Env.le_trans h1 (Env.put_le hs)) _ _ (h.tms t'), h.size, h.defs⟩
end Go.Abs
namespace Go.Abs
set_option linter.unusedVariables false
set_option linter.unusedSimpArgs false

def resV (P : Program) (s : St) : ResultVar → Option V
 | .tmp t => some (s.tm t)
 | .cell a t => (fxLoad P t (s.tm a) s.mem).map (·.val)
def resVs (P : Program) (s : St) : List ResultVar → Option (List V)
 | [] => some []
 | r :: rs => match resV P s r, resVs P s rs with
  | some v, some vs => some (v :: vs)
  | _, _ => none
def resOf (P : Program) (s : St) (rs : List ResultVar) : Option V :=
 match resVs P s rs with
 | some [v] => some v
 | some vs => some (.tup vs)
 | none => none

def resSem (a : Act) : ResultVar → Sem Value
 | .tmp t => pure (a.tmps.getD t undef)
 | .cell b t => do loadVar t (← asAddr (a.tmps.getD b undef))
theorem resV_ok {P : Program} {C : Cx} {E : Env} {s : St} {a : Act} {W : World} (h : Inv C E s a W) {x : ResultVar} {v : V} (hv : resV P s x = some v) :
  ∃ c, (resSem a x).run P W = .ok c W ∧ RL E v c := by
 cases x with
 | tmp t => simp [resV] at hv; subst hv; exact ⟨_, by simp [resSem], h.tms t⟩
 | cell b t =>
  simp only [resV] at hv
  cases hf : fxLoad P t (s.tm b) s.mem with
  | none => rw [hf] at hv; cases hv
  | some fx =>
   rw [hf] at hv; simp at hv; subst hv
   obtain ⟨c, W', E', r1, r2, r3, r4⟩ := load_ok h.m (h.tms b) hf
   -- a load leaves the world as it is
   have hp : ∃ ad, a.tmps.getD b undef = .pointer (some ad) := by
    have ht := h.tms b
    unfold fxLoad at hf
    split at hf
    ·split at hf
     ·rename_i b' ver o hb
      rw [hb] at ht; simp only [RL] at ht
      obtain ⟨B, e, _⟩ := ht; exact ⟨_, e⟩
     ·rename_i cs hb
      rw [hb] at ht; simp only [RL] at ht
      obtain ⟨B, o, e, _⟩ := ht; exact ⟨_, e⟩
     ·cases hf
    ·cases hf
   obtain ⟨ad, had⟩ := hp
   have hrun : ∃ c, (loadVar t ad).run P W = .ok c W ∧ RL E fx.val c := by
    have ho := load_ok h.m (h.tms b) hf
    rw [had] at ho
    unfold fxLoad at hf
    split at hf
    ·rename_i ti hti
     split at hf
     ·rename_i b' ver o hb
      split at hf
      ·rename_i k hk
       split at hf
       ·rename_i hver
        cases hl : loadV ti (k.cells.drop o) with
        | none => rw [hl] at hf; cases hf
        | some v =>
         rw [hl] at hf; cases hf
         have ht := h.tms b
         rw [hb] at ht
         obtain ⟨I, B, cur, t', g1, g2, g3, g4, e, g5, g6, g7, g8, g9⟩ := h.m.at_ ht hk hver
         rw [had] at e; cases e
         by_cases hne : k.cells = []
         ·rw [hne] at hl
          unfold loadV at hl
          simp at hl
          obtain ⟨hz1, hz2, rfl⟩ := hl
          exact ⟨.agg #[], by simp [loadVar, run_isAgg hti, hz1, run_sizeOf hti, hz2, Result.andThen, loadCells, loadCellsFrom], by simp only [RL]; exact ⟨[], rfl, by simp [RLs], by simp⟩⟩
         ·rcases g8 with g8 | g8
          ·exact absurd g8 hne
          exact run_loadVar (P := P) (E := E) hti (cellsAt_heap (g5 hne) o k.cells.length) (g8.drop o) (all_drop g7 o) hl
       ·cases hf
      ·cases hf
     ·rename_i cs hb
      cases hl : loadV ti cs with
      | none => rw [hl] at hf; cases hf
      | some v =>
       rw [hl] at hf; cases hf
       have ht := h.tms b
       rw [hb] at ht; simp only [RL] at ht
       obtain ⟨B, o, e, g1, g2⟩ := ht
       rw [had] at e; cases e
       obtain ⟨ds, g3, g4⟩ := RF.list cs o g1
       exact run_loadVar (P := P) (E := E) (W := W) hti (B := B) (o := o) (fun j d hj => h.m.frz _ _ _ (g4 j d hj)) g3 g2 hl
     ·cases hf
    ·cases hf
   obtain ⟨c', q1, q2⟩ := hrun
   exact ⟨c', by simp [resSem, had, asAddr, Result.andThen, q1], q2⟩
theorem resVs_ok {P : Program} {C : Cx} {E : Env} {s : St} {a : Act} {W : World} (h : Inv C E s a W) : ∀ {rs : List ResultVar} {vs : List V}, resVs P s rs = some vs →
  ∃ cs, (rs.mapM (resSem a)).run P W = .ok cs W ∧ RLs E vs cs
 | [], vs, hv => by simp [resVs] at hv; subst hv; exact ⟨[], by simp, by simp [RLs]⟩
 | x :: rs, vs, hv => by
  simp only [resVs] at hv
  split at hv
  ·rename_i v vs' h1 h2
   cases hv
   obtain ⟨c, c1, c2⟩ := resV_ok h h1
   obtain ⟨cs, d1, d2⟩ := resVs_ok h h2
   exact ⟨c :: cs, by simp only [List.mapM_cons, Sem.run_bind, c1, Result.andThen, d1, Sem.run_pure], by simp only [RLs]; exact ⟨c, cs, rfl, c2, d2⟩⟩
  ·cases hv
theorem resOf_ok {P : Program} {C : Cx} {E : Env} {s : St} {a : Act} {W : World} (h : Inv C E s a W) {fn : Func} {v : V} (hv : resOf P s fn.results.toList = some v) : ∃ c, (results fn a.tmps).run P W = .ok c W ∧ RL E v c := by
 unfold resOf at hv
 have run : ∀ {vs : List V} {cs : List Value}, RLs E vs cs → (fn.results.toList.mapM (resSem a)).run P W = .ok cs W →
   (results fn a.tmps).run P W = .ok (if h : cs.toArray.size = 1 then cs.toArray[0] else .tuple cs.toArray) W := by
  intro vs cs h1 h2
  have e : results fn a.tmps = (do let vs ← fn.results.mapM (resSem a); pure (if h : vs.size = 1 then vs[0] else .tuple vs)) := by
   unfold results
   congr 2
  rw [e, Array.mapM_eq_mapM_toList]
  simp only [Sem.run_bind, Sem.run_map, bind_map_left]
  rw [h2]
  rfl
 split at hv
 ·rename_i v' hvs
  cases hv
  obtain ⟨cs, c1, c2⟩ := resVs_ok h hvs
  have c3 := c2
  simp only [RLs] at c2
  obtain ⟨d, ds, rfl, d1, rfl⟩ := c2
  exact ⟨d, by rw [run c3 c1]; rfl, d1⟩
 ·rename_i vs hne hvs
  cases hv
  obtain ⟨cs, c1, c2⟩ := resVs_ok h hvs
  refine ⟨.tuple cs.toArray, ?_, by simp only [RL]; exact ⟨cs, rfl, c2⟩⟩
  rw [run c2 c1]
  have : ¬ cs.toArray.size = 1 := by
   intro e
   have hl := RLs.length _ _ c2
   have : vs.length = 1 := by rw [← hl]; simpa using e
   match vs, this with
   | [x], _ => exact hne x rfl
  rw [dif_neg this]
 ·cases hv

def retHow (mem : Nat → Option Blk) (L : Nat → Bool) (ids : Nat → Nat) (q : Nat) : How := ⟨mem, L, ids, q, id, true⟩
structure Leaves (p : Nat) (s : St) (v res : V) (m' : Nat → Option Blk) : Prop where
 out : ∃ (L : Nat → Bool) (ids : Nat → Nat) (q : Nat), p ≤ q ∧ (∀ b, L b = true → p ≤ b) ∧ (∀ j, j < p → ids j = j) ∧ (∀ j, p ≤ j → j < q → p ≤ ids j) ∧ (∀ i j, i < q → j < q → ids i = ids j → i = j) ∧ (∀ j, j < q → L (ids j) = false) ∧
  (∀ j, j < q → ∃ k k', s.mem (ids j) = some k ∧ m' j = some k' ∧ BLend (retHow s.mem L ids q) k k') ∧ (∀ j, q ≤ j → m' j = none) ∧ Lend (retHow s.mem L ids q) v res

theorem Leaves.ok {W0 : World} {S : Nat → Prop} {p N : Nat} {F0 : Nat → Nat → Option Value} {D : List Deferred} {E0 E : Env} {s : St} {a : Act} {W : World} {v res : V} {m' : Nat → Option Blk} {c : Value} {m0 : Nat → Option Blk} {nx0 : Nat} (h : Inv ⟨W0, S, p, F0, N, D⟩ E s a W)
  (hm0 : InvM (cx W0 S p F0) E0 m0 nx0 W0) (hp0 : ∀ b k, m0 b = some k → b < p) (hle : E0.lep p E) (hl : Leaves p s v res m') (hc : RL E v c) : ∃ E' nx', E0.le E' ∧ InvM (cx W0 S p F0) E' m' nx' W ∧ RL E' res c := by
 obtain ⟨L, ids, q, l1, l2, l3, l4, l5, l6, l7, l8, l9⟩ := hl.out
 have htg : ∀ x, (retHow s.mem L ids q).tg x = true → x = true ∧ E.n0 ≤ E.n0 := fun x hx => ⟨hx, Nat.le_refl _⟩
 have htn : (retHow s.mem L ids q).tn = true → ∀ b I B, (retHow s.mem L ids q).L b = true → E.σ b = some I → I.dead = false → I.blk = some B → E.n0 ≤ B := fun _ b I B hb hI hd hB => by
  rcases h.m.own b I B hI hd hB with h1 | ⟨h1, _⟩
  ·rw [h.m.n0]; exact h1
  ·have := l2 b hb; simp at h1; omega
 have hn0 : E.n0 = W0.heap.size := h.m.n0
 have hres := Lend.ok (H := retHow s.mem L ids q) rfl h.m htg htn (n := E.n0) l9 c hc
 refine ⟨E.view W L q ids E.n0, q, ⟨by show E.n0 ≤ E0.n0; rw [hn0, hm0.n0]; exact Nat.le_refl _, fun B o d hd => lentF_le _ _ _ (hle.F B o d hd), fun b I hI => ?_⟩, ?_, hres⟩
 ·obtain ⟨k, hk⟩ := hm0.dom b I hI
  have hb := hp0 b k hk
  obtain ⟨J, j1, j2⟩ := hle.σ b I hb hI
  exact ⟨J, by simp [Env.view, l3 b hb, j1]; omega, j2⟩
 ·refine ⟨hn0, ?_, ?_, ?_, ?_, ?_, ?_, ?_, ?_, ?_⟩
  ·intro B o d hF
   simp only [Env.view] at hF
   unfold lentF at hF
   split at hF
   ·rename_i d' hd; cases hF; exact h.m.frz B o d hd
   ·split at hF
    ·exact hF
    ·cases hF
  ·intro j k' hk'
   have hj : j < q := by
    rcases Nat.lt_or_ge j q with hj | hj
    ·exact hj
    ·rw [l8 j hj] at hk'; cases hk'
   obtain ⟨k, k2, e1, e2, e3⟩ := l7 j hj
   rw [hk'] at e2; cases e2
   obtain ⟨I, g1, g2⟩ := h.m.blk _ _ e1
   exact ⟨I, by simp [Env.view, hj, g1], BLend.ok (H := retHow s.mem L ids q) rfl h.m htg htn e3 g2⟩
  ·intro j I hI
   simp only [Env.view] at hI
   split at hI
   ·rename_i hj
    obtain ⟨k, k2, e1, e2, e3⟩ := l7 j hj
    exact ⟨k2, e2⟩
   ·cases hI
  ·intro j k' hk'
   rcases Nat.lt_or_ge j q with hj | hj
   ·exact hj
   ·rw [l8 j hj] at hk'; cases hk'
  ·intro i j I J B h1 h2 h3 h4 h5 h6
   simp only [Env.view] at h1 h2
   split at h1
   ·rename_i hi
    split at h2
    ·rename_i hj
     exact l5 i j hi hj (h.m.inj _ _ I J B h1 h2 h3 h4 h5 h6)
    ·cases h2
   ·cases h1
  ·intro j I B h1 h2 h3 o
   simp only [Env.view] at h1
   split at h1
   ·rename_i hj
    simp only [Env.view]
    unfold lentF
    rw [h.m.sep _ I B h1 h2 h3 o]
    simp only []
    rw [if_neg]
    rintro ⟨b', I', g1, g2, g3, g4⟩
    have := h.m.inj _ _ I I' B h1 g2 h2 g3 h3 g4
    subst this
    rw [l6 j hj] at g1; cases g1
   ·cases h1
  ·intro j I B h1 h2 h3
   simp only [Env.view] at h1
   split at h1
   ·rename_i hj
    rcases h.m.own _ I B h1 h2 h3 with g | ⟨g1, g2⟩
    ·exact .inl g
    ·rcases Nat.lt_or_ge j p with hjp | hjp
     ·exact .inr ⟨hjp, g2⟩
     ·have := l4 j hjp hj; simp at g1; omega
   ·cases h1
  ·intro B o hB
   show lentF E W L B o = F0 B o
   have ho : E.F B o = F0 B o := h.m.old B o hB
   rw [← ho]
   unfold lentF
   cases hf : E.F B o with
   | some d => rfl
   | none =>
    simp only []
    rw [if_neg]
    rintro ⟨b', I', g1, g2, g3, g4⟩
    have := htn rfl b' I' B g1 g2 g3 g4
    rw [hn0] at this
    simp [cx] at hB
    omega
  ·exact ⟨h.m.keep.os, h.m.keep.tape, h.m.keep.output, h.m.keep.size, h.m.keep.block⟩

def tl (l : List (Nat × V)) : Nat → V := fun t => match l.find? (fun x => x.1 == t) with | some x => x.2 | none => .any
def argsT (args : List V) : Nat → V := fun t => match args[t]? with | some v => v | none => .any

theorem FnM.of_awp {P : Program} {f : FuncId} {fn : Func} {c : Code} {p : Nat} {m : Nat → Option Blk} {args : List V} {Q : V → (Nat → Option Blk) → Prop} (hf : P.funcs[f]? = some fn) (hb : fn.body = some c) (hp : ∀ b k, m b = some k → b < p)
  (h : ∀ (W : World) (S : Nat → Prop) (F : Nat → Nat → Option Value), AWP P none ⟨W, S, p, F, args.length + (fn.ntmps - args.length), []⟩ c ⟨argsT args, m, p⟩
   (fun e s => (e = .normal ∨ e = .ret) ∧ ∃ v res m', resOf P s fn.results.toList = some v ∧ Leaves p s v res m' ∧ Q res m')) : FnM P f p m args Q := by
 intro E W S cargs hm hargs
 have hlen := RLs.length _ _ hargs
 refine calls_of_wp hf hb ((wpIn_wide (n := 0)).1 ?_)
 have h0 : Inv ⟨W, S, p, E.F, args.length + (fn.ntmps - args.length), []⟩ E ⟨argsT args, m, p⟩ { tmps := cargs.toArray ++ Array.replicate (fn.ntmps - cargs.toArray.size) undef, defers := [] } W := by
  refine ⟨⟨hm.n0, hm.frz, hm.blk, hm.dom, hp, hm.inj, hm.sep, hm.own, fun B o _ => rfl, hm.keep⟩, fun t => ?_, by simp [hlen], rfl⟩
  show RL E (argsT args t) _
  unfold argsT
  cases ht : args[t]? with
  | none => simp only [RL]
  | some v =>
   obtain ⟨d, d1, d2⟩ := RLs.get _ _ hargs t v ht
   have : (cargs.toArray ++ Array.replicate (fn.ntmps - cargs.toArray.size) undef).getD t undef = d := by
    have hlt : t < cargs.length := (List.getElem?_eq_some_iff.1 d1).1
    simp only [Array.getD_eq_getD_getElem?]
    rw [Array.getElem?_append_left (by simpa using hlt)]
    simp [d1]
   simp only []
   rw [this]; exact d2
 refine wpIn_mono (h W S E.F E _ W h0) ?_
 rintro e a' W' ⟨E', s', h1, h2, he, v, res, m', h3, h4, h5⟩
 have hdone : a'.defers = [] ∧ ∃ v, (results fn a'.tmps).run P W' = .ok v W' ∧ ∃ c E' res m' nx', (Ending.returned v) = .returned c ∧ E.le E' ∧ InvM (cx W S p E.F) E' m' nx' W' ∧ RL E' res c ∧ Q res m' := by
  obtain ⟨cv, c1, c2⟩ := resOf_ok h2 h3
  obtain ⟨E2, nx', e1, e2, e3⟩ := Leaves.ok h2 hm hp h1 h4 c2
  exact ⟨h2.defs, cv, c1, cv, E2, res, m', nx', rfl, e1, e2, e3, h5⟩
 rcases he with rfl | rfl
 ·exact hdone
 ·exact hdone
end Go.Abs
namespace Go.Abs
set_option linter.unusedVariables false
set_option linter.unusedSimpArgs false

def lget {α : Type} : List (Nat × α) → Nat → Option α
 | [], _ => none
 | (a, x) :: r, k => if a = k then some x else lget r k
def lput {α : Type} : List (Nat × α) → Nat → α → List (Nat × α)
 | [], k, x => [(k, x)]
 | (a, y) :: r, k, x => if a = k then (a, x) :: r else (a, y) :: lput r k x
theorem lget_lput {α : Type} : ∀ (l : List (Nat × α)) (k : Nat) (x : α) (j : Nat), lget (lput l k x) j = if j = k then some x else lget l j
 | [], k, x, j => by simp [lput, lget, eq_comm]
 | (a, y) :: r, k, x, j => by
  unfold lput
  by_cases h : a = k
  ·subst h
   simp only [if_true, lget]
   by_cases hj : a = j
   ·simp [hj]
   ·simp [hj, Ne.symm hj]
  ·simp only [h, if_false, lget]
   by_cases hj : a = j
   ·subst hj; simp [h]
   ·simp only [hj, if_false]; exact lget_lput r k x j

structure LS where
 tm : List (Nat × V)
 mem : List (Nat × Blk)
 nx : Nat
def LS.slot (s : LS) (t : Nat) : V := (lget s.tm t).getD .any
def LS.st (s : LS) : St := ⟨s.slot, lget s.mem, s.nx⟩
def LS.ev (s : LS) : Operand → V
 | .tmp t => s.slot t
 | .const v => cv v
 | .global _ => .any
 | .func f => .fn (.func f) []
def lputs (m : List (Nat × Blk)) : List (Nat × Blk) → List (Nat × Blk)
 | [] => m
 | x :: l => lputs (lput m x.1 x.2) l
def LS.app (s : LS) (dst : Option Tmp) (v : V) (ups : List (Nat × Blk)) : LS :=
 { tm := match dst with | some d => lput s.tm d v | none => s.tm, mem := lputs s.mem ups, nx := s.nx }
theorem lget_lputs : ∀ (l m : List (Nat × Blk)), lget (lputs m l) = upds (lget m) l
 | [], m => rfl
 | x :: l, m => by
  unfold lputs
  rw [lget_lputs l, upds_cons]
  congr 1
  funext j
  rw [lget_lput]
  rfl
theorem LS.st_app (s : LS) (o : Oper) (e : Eff) : (s.app o.dst e.val e.ups).st = s.st.app o e := by
 unfold LS.app LS.st St.app
 congr 1
 ·funext t
  unfold putT LS.slot
  cases o.dst with
  | none => rfl
  | some d =>
   simp only [lget_lput]
   unfold upd
   by_cases h : t = d
   ·simp [h]
   ·simp [h]
 ·exact lget_lputs _ _
theorem LS.st_ev (s : LS) : s.st.ev = s.ev := by
 funext x; cases x <;> rfl

def wantedL (ops : Array Oper) (s : LS) (o : Oper) : Option Bool :=
 match o.guard with
 | none => some true
 | some (j, w) => match (ops[j]?).bind (·.dst) with
  | some d => match s.slot d with
   | .sc (.bool b) => some (b == w)
   | .tup [] => some false
   | _ => none
  | none => some false
theorem wantedL_eq (ops : Array Oper) (s : LS) (o : Oper) : wantedV ops s.st o = wantedL ops s o := rfl

def dstOK (N : Nat) : Option Tmp → Bool
 | some d => d < N
 | none => true
def lstep (P : Program) (N : Nat) (ops : Array Oper) (id : Nat) (o : Oper) (s : LS) : Option LS :=
 if dstOK N o.dst = true then
  match wantedL ops s o with
  | some true => match opFx P o.op s.ev (lget s.mem) id with
   | some fx => if (lget s.mem id).isNone then some (s.app o.dst fx.val fx.up.toList) else none
   | none => none
  | some false => some (s.app o.dst (.tup []) [])
  | none => none
 else none
def tchk (kl : Kl) (i : Nat) : List Nat → Bool
 | [] => true
 | t => match kl.at i with
  | some l => t.all fun b => l.contains b
  | none => true
theorem tchk_nil (kl : Kl) (i : Nat) : tchk kl i [] = true := rfl
theorem tchk_ok {kl : Kl} {i : Nat} {t : List Nat} (h : tchk kl i t = true) : ∀ l, kl.at i = some l → ∀ b ∈ t, b ∈ l := by
 intro l hl b hb
 unfold tchk at h
 split at h
 ·cases hb
 ·rw [hl] at h
  simp only [List.all_eq_true] at h
  simpa using h b hb
def lchk (base : Nat) (masks : Option (List Nat)) (kl : Kl) (i : Nat) (t : List Nat) : Bool :=
 match masks with
 | none => true
 | some ms => (t.all fun b => b < base || (ms.getD i 0).testBit ((b - base) / 4)) && tchk kl i t

inductive RunL (P : Program) (N p : Nat) (ops : Array Oper) (base : Nat) (masks : Option (List Nat)) (kl : Kl) : List Nat → LS → LS → Prop
 | nil {s : LS} : RunL P N p ops base masks kl [] s s
 | op {i : Nat} {l : List Nat} {s s1 s' : LS} {o : Oper} : ops[i]? = some o → lstep P N ops (base + 4 * i) o s = some s1 → lchk base masks kl i (opTouch o.op s.ev) = true → RunL P N p ops base masks kl l s1 s' → RunL P N p ops base masks kl (i :: l) s s'
 | call {i : Nat} {l : List Nat} {s s' : LS} {o : Oper} {f : Operand} {args : Array Operand} {ts : Array TypeId} {fid : FuncId} {caps args' : List V} {ks : List Nat} {res : V} :
   ops[i]? = some o → dstOK N o.dst = true → wantedL ops s o = some true → o.op = .call { callee := .value f, args, argTypes := ts } → s.ev f = .fn (.func fid) caps →
   Lends (callHow (lget s.mem) ks) (args.toList.map s.ev ++ caps) args' → callable P fid = true → FnP P fid args' res → (V.fresh res = true ∨ ks = []) → lchk base masks kl i ks = true →
   RunL P N p ops base masks kl l (s.app o.dst res []) s' → RunL P N p ops base masks kl (i :: l) s s'
 | share {i : Nat} {l : List Nat} {s s' : LS} {o : Oper} {f : Operand} {args : Array Operand} {ts : Array TypeId} {fid : FuncId} {caps args' : List V} {ks : List Nat} {res : V} :
   ops[i]? = some o → dstOK N o.dst = true → wantedL ops s o = some true → o.op = .call { callee := .value f, args, argTypes := ts } → s.ev f = .fn (.func fid) caps →
   Lends (callHow (lget s.mem) ks) (args.toList.map s.ev ++ caps) args' → callable P fid = true → FnP P fid args' res → (ks.all fun b => decide (p ≤ b) && (lget s.mem b).isSome) = true → (masks.isNone || kl.contains i) = true → lchk base masks kl i ks = true →
   RunL P N p ops base masks kl l (s.app o.dst res (ks.map (·, .dead))) s' → RunL P N p ops base masks kl (i :: l) s s'
 | pass {i : Nat} {l : List Nat} {s s' : LS} {o : Oper} {f : Operand} {args : Array Operand} {ts : Array TypeId} {fid : FuncId} {caps args' : List V} {bs : List Nat} {m m' : List Blk} {res : V} :
   ops[i]? = some o → dstOK N o.dst = true → wantedL ops s o = some true → o.op = .call { callee := .value f, args, argTypes := ts } → s.ev f = .fn (.func fid) caps →
   Lends (passHow (lget s.mem) bs) (args.toList.map s.ev ++ caps) args' → callable P fid = true → FnD P fid m args' res m' → bs.Nodup → (∀ b ∈ bs, (lget s.mem b).isSome = true) → lget s.mem (base + 4 * i) = none → ((∀ b ∈ bs, b < p) ∨ (∀ b ∈ bs, p ≤ b) ∨ boxes bs.length m') →
   m.length = bs.length → bs.length ≤ m'.length → m'.length ≤ bs.length + 1 → (∀ j k', m[j]? = some k' → ∃ k, lget s.mem (bs.getD j 0) = some k ∧ BLend (passHow (lget s.mem) bs) k k') → (masks.isNone || kl.contains i) = true → lchk base masks kl i bs = true →
   RunL P N p ops base masks kl l (s.app o.dst (res.ren (passIds bs (base + 4 * i))) (passUps (passIds bs (base + 4 * i)) 0 m')) s' → RunL P N p ops base masks kl (i :: l) s s'

section
variable {P : Program} {N p : Nat} {ops : Array Oper} {base : Nat} {masks : Option (List Nat)} {kl : Kl}
def chkL (ops : Array Oper) (base : Nat) (masks : Option (List Nat)) (kl : Kl) : Nat → List Nat → Bool → Prop :=
 match masks with
 | none => chk0
 | some ms => chkD ops base ms kl
theorem chkL_of {i : Nat} {o : Oper} {t : List Nat} {w : Bool} (ho : ops[i]? = some o) (h : lchk base masks kl i t = true) (hw : w = true → wrOp o.op = true ∨ (masks.isNone || kl.contains i) = true) : chkL ops base masks kl i t w := by
 unfold chkL
 unfold lchk at h
 cases masks with
 | none => trivial
 | some ms =>
  simp only [Bool.and_eq_true] at h
  refine ⟨fun b hb => ?_, fun e => ⟨o, ho, ?_⟩, tchk_ok h.2⟩
  ·have h := h.1
   simp only [List.all_eq_true, Bool.or_eq_true, decide_eq_true_eq] at h
   exact h b hb
  ·unfold wrS
   rcases hw e with h | h
   ·simp [h]
   ·simp only [Option.isNone_some, Bool.false_or] at h; rw [h]; simp
theorem dst_lt {o : Oper} (h : dstOK N o.dst = true) : ∀ d, o.dst = some d → d < N := by
 intro d hd; rw [hd] at h; simpa [dstOK] using h

theorem RunL.run : ∀ {l : List Nat} {s s' : LS}, RunL P N p ops base masks kl l s s' → Run P N p ops base (chkL ops base masks kl) l s.st s'.st
 | _, _, _, .nil => .nil
 | _, _, _, .op (s := s) (o := o) ho hs hc hr => by
  have ih := RunL.run hr
  unfold lstep at hs
  split at hs
  ·rename_i hd
   split at hs
   ·rename_i hw
    split at hs
    ·rename_i fx hfx
     split at hs
     ·rename_i hn
      cases hs
      rw [show s.app o.dst fx.val fx.up.toList = s.app o.dst (Eff.mk fx.val fx.up.toList).val (Eff.mk fx.val fx.up.toList).ups from rfl, LS.st_app] at ih
      refine .cons ho (dst_lt hd) (.op (fx := fx) (by rw [wantedL_eq]; exact hw) (by rw [LS.st_ev]; exact hfx) (by have hn' : lget s.mem _ = none := Option.isNone_iff_eq_none.1 hn; exact hn')) ?_ ih
      rw [LS.st_ev]
      exact chkL_of ho hc .inl
     ·cases hs
    ·cases hs
   ·rename_i hw
    cases hs
    rw [show s.app o.dst (.tup []) [] = s.app o.dst (Eff.mk (.tup []) []).val (Eff.mk (.tup []) []).ups from rfl, LS.st_app] at ih
    exact .cons ho (dst_lt hd) (.skip (by rw [wantedL_eq]; exact hw)) (chkL_of (masks := masks) ho (by unfold lchk; split <;> simp [tchk]) (fun e => by cases e)) ih
   ·cases hs
  ·cases hs
 | _, _, _, .call (s := s) (o := o) (res := res) ho hd hw hop hf hl hcb hfn hfr hc hr => by
  have ih := RunL.run hr
  rw [show s.app o.dst res [] = s.app o.dst (Eff.mk res []).val (Eff.mk res []).ups from rfl, LS.st_app] at ih
  exact .cons ho (dst_lt hd) (.call (by rw [wantedL_eq]; exact hw) hop (by rw [LS.st_ev]; exact hf) (by rw [LS.st_ev]; exact hl) hcb hfn hfr) (chkL_of ho hc (fun e => by cases e)) ih
 | _, _, _, .share (s := s) (o := o) (res := res) (ks := ks) ho hd hw hop hf hl hcb hfn hks hkl hc hr => by
  have ih := RunL.run hr
  rw [show s.app o.dst res (ks.map (·, .dead)) = s.app o.dst (Eff.mk res (ks.map (·, .dead))).val (Eff.mk res (ks.map (·, .dead))).ups from rfl, LS.st_app] at ih
  refine .cons ho (dst_lt hd) (.share (by rw [wantedL_eq]; exact hw) hop (by rw [LS.st_ev]; exact hf) (by rw [LS.st_ev]; exact hl) hcb hfn (fun b hb => ?_)) (chkL_of ho hc (fun _ => .inr hkl)) ih
  rw [List.all_eq_true] at hks
  have := hks b hb
  simp only [Bool.and_eq_true, decide_eq_true_eq] at this
  exact this
 | _, _, _, .pass (i := i) (s := s) (o := o) (bs := bs) (m' := m') (res := res) ho hd hw hop hf hl hcb hfn h7 h8 h9 h10 h11 h12 h13 h14 hkl hc hr => by
  have ih := RunL.run hr
  rw [show s.app o.dst (res.ren (passIds bs (base + 4 * i))) (passUps (passIds bs (base + 4 * i)) 0 m') = s.app o.dst (Eff.mk (res.ren (passIds bs (base + 4 * i))) (passUps (passIds bs (base + 4 * i)) 0 m')).val (Eff.mk (res.ren (passIds bs (base + 4 * i))) (passUps (passIds bs (base + 4 * i)) 0 m')).ups from rfl, LS.st_app] at ih
  exact .cons ho (dst_lt hd) (.pass (by rw [wantedL_eq]; exact hw) hop (by rw [LS.st_ev]; exact hf) (by rw [LS.st_ev]; exact hl) hcb hfn h7 h8 h9 h10 h11 h12 h13 h14) (chkL_of ho hc (fun _ => .inr hkl)) ih
end

section
variable {P : Program} {r : Option Nat} {C : Cx} {s s' : LS} {Q : Exit → St → Prop} {id : Nat} {l : List Oper}
theorem AWP.regionL (hr : RunL P C.N C.p l.toArray s.nx none ⟨[], []⟩ (List.range l.length) { s with nx := s.nx + 4 * l.length } s') (h : Q .normal s'.st) : AWP P r C (.region id l.toArray false) s.st Q :=
 AWP.region (s := s.st) hr.run h
theorem AWP.drawL {masks : List Nat} {kl : Kl} (hm : P.follows .mixedOrders = true) (hok : okDraw l.toArray masks kl = true) (hr : RunL P C.N C.p l.toArray s.nx (some masks) kl (List.range l.length) { s with nx := s.nx + 4 * l.length } s') (h : Q .normal s'.st) : AWP P r C (.region id l.toArray true) s.st Q :=
 AWP.draw (s := s.st) hm hok hr.run h
theorem AWP.condL {x : Operand} {c d : Code} {t : Bool} (hx : s.ev x = .sc (.bool t)) (ht : t = true → AWP P r C c s.st Q) (hf : t = false → AWP P r C d s.st Q) : AWP P r C (.cond x c d) s.st Q :=
 AWP.cond (by rw [LS.st_ev]; exact hx) ht hf
end
def largs : Nat → List V → List (Nat × V)
 | _, [] => []
 | i, v :: vs => (i, v) :: largs (i + 1) vs
theorem lget_largs : ∀ (vs : List V) (i t : Nat), lget (largs i vs) t = if t < i then none else vs[t - i]?
 | [], i, t => by simp [largs, lget]
 | v :: vs, i, t => by
  unfold largs lget
  by_cases h : i = t
  ·subst h; simp
  ·rw [if_neg h, lget_largs vs (i + 1) t]
   by_cases h1 : t < i
   ·rw [if_pos (by omega), if_pos h1]
   ·rw [if_neg (by omega), if_neg h1]
    rw [show t - i = (t - (i + 1)) + 1 by omega]
    simp
theorem argsT_st (args : List V) (m : List (Nat × Blk)) (p : Nat) : (⟨argsT args, lget m, p⟩ : St) = (⟨largs 0 args, m, p⟩ : LS).st := by
 unfold LS.st
 congr 1
 funext t
 unfold argsT LS.slot
 rw [lget_largs]
 simp
 cases args[t]? <;> rfl

theorem FnP.of {P : Program} {f : FuncId} {fn : Func} {c : Code} {args : List V} {res : V} (hf : P.funcs[f]? = some fn) (hb : fn.body = some c)
  (h : ∀ (W : World) (S : Nat → Prop) (F : Nat → Nat → Option Value), AWP P none ⟨W, S, 0, F, args.length + (fn.ntmps - args.length), []⟩ c (⟨largs 0 args, [], 0⟩ : LS).st
   (fun e s => (e = .normal ∨ e = .ret) ∧ ∃ v L, resOf P s fn.results.toList = some v ∧ Lend (retHow s.mem L id 0) v res)) : FnP P f args res := by
 refine FnM.of_awp hf hb (fun b k hk => by cases hk) fun W S F => ?_
 have := h W S F
 rw [← argsT_st] at this
 refine this.mono ?_
 rintro e s ⟨he, v, L, hv, hl⟩
 refine ⟨he, v, res, none', hv, ⟨L, id, 0, Nat.le_refl _, fun b _ => Nat.zero_le _, fun j hj => by omega, fun j _ hj => by omega, fun i j hi => by omega, fun j hj => by omega, fun j hj => by omega, fun j _ => rfl, hl⟩, rfl, rfl⟩
end Go.Abs
namespace Go.Abs
set_option linter.unusedVariables false
set_option linter.unusedSimpArgs false

def RunK (P : Program) (N p : Nat) (ops : Array Oper) (base : Nat) (masks : Option (List Nat)) (kl : Kl) (i : Nat) (l : List Oper) (s : LS) (Q : LS → Prop) : Prop :=
 (∀ k o, l[k]? = some o → ops[i + k]? = some o) → ∃ s', RunL P N p ops base masks kl (List.range' i l.length) s s' ∧ Q s'
section
variable {P : Program} {N p : Nat} {ops : Array Oper} {base : Nat} {masks : Option (List Nat)} {kl : Kl} {i : Nat} {l : List Oper} {s : LS} {Q : LS → Prop} {o : Oper}
theorem RunK.nil (h : Q s) : RunK P N p ops base masks kl i [] s Q := fun _ => ⟨s, .nil, h⟩
theorem RunK.head (hl : ∀ k o', (o :: l)[k]? = some o' → ops[i + k]? = some o') : ops[i]? = some o ∧ ∀ k o', l[k]? = some o' → ops[i + 1 + k]? = some o' :=
 ⟨by simpa using hl 0 o (by simp), fun k o' hk => by have := hl (k + 1) o' (by simpa using hk); rwa [show i + (k + 1) = i + 1 + k by omega] at this⟩
theorem RunK.op (h : (lstep P N ops (base + 4 * i) o s).elim False fun s1 => lchk base masks kl i (opTouch o.op s.ev) = true ∧ RunK P N p ops base masks kl (i + 1) l s1 Q) : RunK P N p ops base masks kl i (o :: l) s Q := fun hl => by
 obtain ⟨h1, h2⟩ := RunK.head hl
 cases hs : lstep P N ops (base + 4 * i) o s with
 | none => rw [hs] at h; exact h.elim
 | some s1 =>
  rw [hs] at h
  obtain ⟨h3, h4⟩ := h
  obtain ⟨s', r1, r2⟩ := h4 h2
  exact ⟨s', .op h1 hs h3 r1, r2⟩
theorem RunK.call {f : Operand} {args : Array Operand} {ts : Array TypeId} {fid : FuncId} {caps args' : List V} (ks : List Nat) {res : V}
  (hfn : FnP P fid args' res) (hop : o.op = .call { callee := .value f, args, argTypes := ts }) (hd : dstOK N o.dst = true) (hw : wantedL ops s o = some true) (hf : s.ev f = .fn (.func fid) caps) (hcb : callable P fid = true)
  (hl : Lends (callHow (lget s.mem) ks) (args.toList.map s.ev ++ caps) args') (hfr : V.fresh res = true ∨ ks = []) (hc : lchk base masks kl i ks = true) (h : RunK P N p ops base masks kl (i + 1) l (s.app o.dst res []) Q) : RunK P N p ops base masks kl i (o :: l) s Q := fun hls => by
 obtain ⟨h1, h2⟩ := RunK.head hls
 obtain ⟨s', r1, r2⟩ := h h2
 exact ⟨s', .call h1 hd hw hop hf hl hcb hfn hfr hc r1, r2⟩
theorem RunK.share {f : Operand} {args : Array Operand} {ts : Array TypeId} {fid : FuncId} {caps args' : List V} (ks : List Nat) {res : V}
  (hfn : FnP P fid args' res) (hop : o.op = .call { callee := .value f, args, argTypes := ts }) (hd : dstOK N o.dst = true) (hw : wantedL ops s o = some true) (hf : s.ev f = .fn (.func fid) caps) (hcb : callable P fid = true)
  (hl : Lends (callHow (lget s.mem) ks) (args.toList.map s.ev ++ caps) args') (hks : (ks.all fun b => decide (p ≤ b) && (lget s.mem b).isSome) = true) (hkl : (masks.isNone || kl.contains i) = true) (hc : lchk base masks kl i ks = true)
  (h : RunK P N p ops base masks kl (i + 1) l (s.app o.dst res (ks.map (·, .dead))) Q) : RunK P N p ops base masks kl i (o :: l) s Q := fun hls => by
 obtain ⟨h1, h2⟩ := RunK.head hls
 obtain ⟨s', r1, r2⟩ := h h2
 exact ⟨s', .share h1 hd hw hop hf hl hcb hfn hks hkl hc r1, r2⟩
end
section
variable {P : Program} {r : Option Nat} {W0 : World} {S : Nat → Prop} {p : Nat} {F0 : Nat → Nat → Option Value} {N : Nat} {D : List Deferred} {s : LS} {Q : Exit → St → Prop} {id : Nat} {l : List Oper}
theorem AWP.regionK (h : RunK P N p l.toArray s.nx none ⟨[], []⟩ 0 l { s with nx := s.nx + 4 * l.length } fun s' => Q .normal s'.st) : AWP P r ⟨W0, S, p, F0, N, D⟩ (.region id l.toArray false) s.st Q := by
 obtain ⟨s', h1, h2⟩ := h (fun k o hk => by simpa using hk)
 rw [← List.range_eq_range'] at h1
 exact AWP.regionL h1 h2
theorem AWP.drawK (masks : List Nat) (kl : Kl) (hm : P.follows .mixedOrders = true) (hok : okDraw l.toArray masks kl = true) (h : RunK P N p l.toArray s.nx (some masks) kl 0 l { s with nx := s.nx + 4 * l.length } fun s' => Q .normal s'.st) : AWP P r ⟨W0, S, p, F0, N, D⟩ (.region id l.toArray true) s.st Q := by
 obtain ⟨s', h1, h2⟩ := h (fun k o hk => by simpa using hk)
 rw [← List.range_eq_range'] at h1
 exact AWP.drawL hm hok h1 h2
end
end Go.Abs
namespace Go.Abs
def Cont (P : Program) (r : Option Nat) (C : Cx) (y : Code) (Q : Exit → St → Prop) (K : St → Prop) : Prop := ∀ s', AWP P r C y s' Q → K s'
theorem Cont.go {P : Program} {r : Option Nat} {C : Cx} {y : Code} {Q : Exit → St → Prop} {K : St → Prop} {s : St} (h : Cont P r C y Q K) (k : AWP P r C y s Q) : K s := h s k
theorem AWP.seqK {P : Program} {r : Option Nat} {C : Cx} {s : St} {Q : Exit → St → Prop} {x y : Code} (h : ∀ K : St → Prop, Cont P r C y Q K → AWP P r C x s (thn K Q)) : AWP P r C (.seq x y) s Q :=
 AWP.seq (h _ fun _ h => h)
def onBool (v : V) (f : Bool → Prop) : Prop := match v with | .sc (.bool t) => f t | _ => False
theorem AWP.condK {P : Program} {r : Option Nat} {C : Cx} {s : LS} {Q : Exit → St → Prop} {x : Operand} {c d : Code} (h : onBool (s.ev x) fun t => (t = true → AWP P r C c s.st Q) ∧ (t = false → AWP P r C d s.st Q)) : AWP P r C (.cond x c d) s.st Q := by
 unfold onBool at h
 split at h
 ·rename_i t ht; exact AWP.condL ht h.1 h.2
 ·exact h.elim
theorem FnP.ofK {P : Program} {f : FuncId} {fn : Func} {c : Code} {args : List V} {res : V} (hf : P.funcs[f]? = some fn) (hb : fn.body = some c) (N : Nat) (hN : args.length + (fn.ntmps - args.length) = N)
  (h : ∀ (W : World) (S : Nat → Prop) (F : Nat → Nat → Option Value) (Q : Exit → St → Prop), (∀ e s, (e = .normal ∨ e = .ret) → (∃ v L, resOf P s fn.results.toList = some v ∧ Lend (retHow s.mem L id 0) v res) → Q e s) →
   AWP P none ⟨W, S, 0, F, N, []⟩ c (⟨largs 0 args, [], 0⟩ : LS).st Q) : FnP P f args res :=
 FnP.of hf hb fun W S F => by rw [hN]; exact h W S F _ fun e s he hv => ⟨he, hv⟩
theorem RunK.here {P : Program} {N p : Nat} {ops : Array Oper} {base : Nat} {masks : Option (List Nat)} {kl : Kl} {i : Nat} {l : List Oper} {s : LS} {Q : LS → Prop} (h : RunK P N p ops base masks kl i l s Q) : RunK P N p ops base masks kl i l s Q := h
end Go.Abs
namespace Go.Abs
theorem Lend.sc' {H : How} {v v' : Value} (h : v = v') : Lend H (.sc v) (.sc v') := by subst h; exact .sc v
theorem Lend.int {H : How} {k : IntKind} {a b : Int} (h : a = b) : Lend H (.sc (.int k a)) (.sc (.int k b)) := by subst h; exact .sc _
end Go.Abs
namespace Go.Abs
@[congr] theorem RunK.cg {P : Program} {N p : Nat} {ops : Array Oper} {base base' : Nat} {masks : Option (List Nat)} {kl : Kl} {i i' : Nat} {l : List Oper} {s s' : LS} {Q : LS → Prop} (hb : base = base') (hi : i = i') (hs : s = s') : RunK P N p ops base masks kl i l s Q = RunK P N p ops base' masks kl i' l s' Q := by subst hb; subst hi; subst hs; rfl
@[congr] theorem AWP.cg {P : Program} {r : Option Nat} {C : Cx} {c : Code} {s s' : St} {Q : Exit → St → Prop} (hs : s = s') : AWP P r C c s Q = AWP P r C c s' Q := by subst hs; rfl
end Go.Abs
namespace Go.Abs
set_option linter.unusedVariables false
set_option linter.unusedSimpArgs false

mutual
def V.nor : V → Bool
 | .sc _ => true
 | .agg cs => V.nors cs
 | .tup cs => V.nors cs
 | .lst _ _ _ cs => V.nors cs
 | .rp cs => V.nors cs
 | .sl .. => false
 | .ptr .. => false
 | .fn _ cs => V.nors cs
 | .any => true
def V.nors : List V → Bool
 | [] => true
 | x :: xs => V.nor x && V.nors xs
end
mutual
def V.old : V → V
 | .sc v => .sc v
 | .agg cs => .agg (V.olds cs)
 | .tup cs => .tup (V.olds cs)
 | .lst _ e n cs => .lst false e n (V.olds cs)
 | .rp cs => .rp (V.olds cs)
 | .sl b v e o l => .sl b v e o l
 | .ptr b v o => .ptr b v o
 | .fn f cs => .fn f (V.olds cs)
 | .any => .any
def V.olds : List V → List V
 | [] => []
 | x :: xs => V.old x :: V.olds xs
end
theorem V.old_leaf (v : V) : v.old.leaf = v.leaf := by cases v <;> simp [V.old, V.leaf]
theorem V.olds_leaf : ∀ (vs : List V), (V.olds vs).all V.leaf = vs.all V.leaf
 | [] => by simp [V.olds]
 | v :: vs => by simp [V.olds, V.old_leaf, V.olds_leaf vs]

mutual
def V.wf : V → Bool
 | .sc _ => true
 | .agg cs => cs.all V.leaf && V.wfs cs
 | .tup cs => V.wfs cs
 | .lst _ _ _ cs => cs.all V.leaf && V.wfs cs
 | .rp cs => cs.all V.leaf && V.wfs cs
 | .sl .. => true
 | .ptr .. => true
 | .fn _ cs => V.wfs cs
 | .any => true
def V.wfs : List V → Bool
 | [] => true
 | x :: xs => V.wf x && V.wfs xs
end
def V.good (cs : List V) : Bool := V.nors cs && V.wfs cs && cs.all V.leaf

mutual
theorem Lend.oldI {H : How} (hH : ∀ b, H.tg b = false) : ∀ (v : V), V.nor v = true → V.wf v = true → Lend H v v.old
 | .sc v, _, _ => by simp only [V.old]; exact .sc v
 | .agg cs, h, w => by
  simp only [V.old]; simp only [V.nor] at h; simp only [V.wf, Bool.and_eq_true] at w
  exact .agg (Lends.oldI hH cs h w.2) (by rw [V.olds_leaf]; exact w.1)
 | .tup cs, h, w => by simp only [V.old]; simp only [V.nor] at h; simp only [V.wf] at w; exact .tup (Lends.oldI hH cs h w)
 | .lst new e n cs, h, w => by
  simp only [V.old]; simp only [V.nor] at h; simp only [V.wf, Bool.and_eq_true] at w
  have := Lend.lst (H := H) (new := new) (e := e) (n := n) (Lends.oldI hH cs h w.2) (by rw [V.olds_leaf]; exact w.1)
  rwa [hH] at this
 | .rp cs, h, w => by
  simp only [V.old]; simp only [V.nor] at h; simp only [V.wf, Bool.and_eq_true] at w
  exact .rp (Lends.oldI hH cs h w.2) (by rw [V.olds_leaf]; exact w.1)
 | .sl .., h, _ => by simp [V.nor] at h
 | .ptr .., h, _ => by simp [V.nor] at h
 | .fn f cs, h, w => by simp only [V.old]; simp only [V.nor] at h; simp only [V.wf] at w; exact .fn (Lends.oldI hH cs h w)
 | .any, _, _ => by simp only [V.old]; exact .any _
theorem Lends.oldI {H : How} (hH : ∀ b, H.tg b = false) : ∀ (vs : List V), V.nors vs = true → V.wfs vs = true → Lends H vs (V.olds vs)
 | [], _, _ => by simp only [V.olds]; exact .nil
 | x :: xs, h, w => by
  simp only [V.olds]
  simp only [V.nors, Bool.and_eq_true] at h
  simp only [V.wfs, Bool.and_eq_true] at w
  exact .cons (Lend.oldI hH x h.1 w.1) (Lends.oldI hH xs h.2 w.2)
end

mutual
theorem Lend.selfI {H : How} (hH : ∀ b, H.tg b = b) : ∀ (v : V), V.nor v = true → V.wf v = true → Lend H v v
 | .sc v, _, _ => .sc v
 | .agg cs, h, w => by
  simp only [V.nor] at h; simp only [V.wf, Bool.and_eq_true] at w
  exact .agg (Lends.selfI hH cs h w.2) w.1
 | .tup cs, h, w => by simp only [V.nor] at h; simp only [V.wf] at w; exact .tup (Lends.selfI hH cs h w)
 | .lst new e n cs, h, w => by
  simp only [V.nor] at h; simp only [V.wf, Bool.and_eq_true] at w
  have := Lend.lst (H := H) (new := new) (e := e) (n := n) (Lends.selfI hH cs h w.2) w.1
  rwa [hH] at this
 | .rp cs, h, w => by
  simp only [V.nor] at h; simp only [V.wf, Bool.and_eq_true] at w
  exact .rp (Lends.selfI hH cs h w.2) w.1
 | .sl .., h, _ => by simp [V.nor] at h
 | .ptr .., h, _ => by simp [V.nor] at h
 | .fn f cs, h, w => by simp only [V.nor] at h; simp only [V.wf] at w; exact .fn (Lends.selfI hH cs h w)
 | .any, _, _ => .any _
theorem Lends.selfI {H : How} (hH : ∀ b, H.tg b = b) : ∀ (vs : List V), V.nors vs = true → V.wfs vs = true → Lends H vs vs
 | [], _, _ => .nil
 | x :: xs, h, w => by
  simp only [V.nors, Bool.and_eq_true] at h
  simp only [V.wfs, Bool.and_eq_true] at w
  exact .cons (Lend.selfI hH x h.1 w.1) (Lends.selfI hH xs h.2 w.2)
end

mutual
def lendK (mem : Nat → Option Blk) (ks : List Nat) : V → (V → Prop) → Prop
 | .sc v, k => k (.sc v)
 | .agg cs, k => lendsK mem ks cs fun cs' => cs'.all V.leaf = true ∧ k (.agg cs')
 | .tup _, _ => False
 | .lst _ e n cs, k => V.good cs = true ∧ k (.lst false e n (V.olds cs))
 | .rp cs, k => V.good cs = true ∧ k (.rp (V.olds cs))
 | .sl b ver e off len, k => ks.contains b = true ∧ (match mem b with
  | some (.arr _ e' v cs) => v = ver ∧ e' = e ∧ off * e + len * e ≤ cs.length ∧ V.good ((cs.drop (off * e)).take (len * e)) = true ∧ k (.lst false e len (V.olds ((cs.drop (off * e)).take (len * e))))
  | _ => False)
 | .ptr b ver o, k => ks.contains b = true ∧ (match mem b with
  | some bk => bk.hasVer ver = true ∧ V.good (bk.cells.drop o) = true ∧ k (.rp (V.olds (bk.cells.drop o)))
  | none => False)
 | .fn f cs, k => lendsK mem ks cs fun cs' => k (.fn f cs')
 | .any, k => k .any
def lendsK (mem : Nat → Option Blk) (ks : List Nat) : List V → (List V → Prop) → Prop
 | [], k => k []
 | x :: xs, k => lendK mem ks x fun x' => lendsK mem ks xs fun xs' => k (x' :: xs')
end
theorem good_spec {cs : List V} (h : V.good cs = true) : V.nors cs = true ∧ V.wfs cs = true ∧ cs.all V.leaf = true := by
 unfold V.good at h
 simp only [Bool.and_eq_true] at h
 exact ⟨h.1.1, h.1.2, h.2⟩
mutual
theorem lendK_ok {mem : Nat → Option Blk} {ks : List Nat} : ∀ (v : V) (k : V → Prop), lendK mem ks v k → ∃ v', Lend (callHow mem ks) v v' ∧ k v'
 | .sc v, k, h => by simp only [lendK] at h; exact ⟨_, .sc v, h⟩
 | .agg cs, k, h => by
  simp only [lendK] at h
  obtain ⟨cs', h1, h2, h3⟩ := lendsK_ok cs _ h
  exact ⟨_, .agg h1 h2, h3⟩
 | .tup _, k, h => by simp only [lendK] at h
 | .lst new e n cs, k, h => by
  simp only [lendK] at h
  obtain ⟨g1, g2, g3⟩ := good_spec h.1
  exact ⟨_, .lst (H := callHow mem ks) (Lends.oldI (fun _ => rfl) cs g1 g2) (by rw [V.olds_leaf]; exact g3), h.2⟩
 | .rp cs, k, h => by
  simp only [lendK] at h
  obtain ⟨g1, g2, g3⟩ := good_spec h.1
  exact ⟨_, .rp (Lends.oldI (fun _ => rfl) cs g1 g2) (by rw [V.olds_leaf]; exact g3), h.2⟩
 | .sl b ver e off len, k, h => by
  simp only [lendK] at h
  obtain ⟨h1, h2⟩ := h
  split at h2
  ·rename_i te e' v cs hm
   obtain ⟨rfl, rfl, h3, h4, h5⟩ := h2
   obtain ⟨g1, g2, g3⟩ := good_spec h4
   exact ⟨_, .slLend (H := callHow mem ks) h1 hm h3 (Lends.oldI (fun _ => rfl) _ g1 g2) (by rw [V.olds_leaf]; exact g3), h5⟩
  ·exact h2.elim
 | .ptr b ver o, k, h => by
  simp only [lendK] at h
  obtain ⟨h1, h2⟩ := h
  split at h2
  ·rename_i bk hm
   obtain ⟨h3, h4, h5⟩ := h2
   obtain ⟨g1, g2, g3⟩ := good_spec h4
   exact ⟨_, .ptrLend (H := callHow mem ks) h1 hm h3 (Lends.oldI (fun _ => rfl) _ g1 g2) (by rw [V.olds_leaf]; exact g3), h5⟩
  ·exact h2.elim
 | .fn f cs, k, h => by
  simp only [lendK] at h
  obtain ⟨cs', h1, h2⟩ := lendsK_ok cs _ h
  exact ⟨_, .fn h1, h2⟩
 | .any, k, h => by simp only [lendK] at h; exact ⟨_, .any _, h⟩
theorem lendsK_ok {mem : Nat → Option Blk} {ks : List Nat} : ∀ (vs : List V) (k : List V → Prop), lendsK mem ks vs k → ∃ vs', Lends (callHow mem ks) vs vs' ∧ k vs'
 | [], k, h => by simp only [lendsK] at h; exact ⟨[], .nil, h⟩
 | x :: xs, k, h => by
  simp only [lendsK] at h
  obtain ⟨x', h1, h2⟩ := lendK_ok x _ h
  obtain ⟨xs', h3, h4⟩ := lendsK_ok xs _ h2
  exact ⟨_, .cons h1 h3, h4⟩
end

mutual
def retK (mem : Nat → Option Blk) : V → (V → Prop) → Prop
 | .sc v, k => k (.sc v)
 | .agg cs, k => retsK mem cs fun cs' => cs'.all V.leaf = true ∧ k (.agg cs')
 | .tup cs, k => retsK mem cs fun cs' => k (.tup cs')
 | .lst new e n cs, k => V.good cs = true ∧ k (.lst new e n cs)
 | .rp _, _ => False
 | .sl b ver e off len, k => (match mem b with
  | some (.arr _ e' v cs) => v = ver ∧ e' = e ∧ off * e + len * e ≤ cs.length ∧ V.good ((cs.drop (off * e)).take (len * e)) = true ∧ k (.lst true e len ((cs.drop (off * e)).take (len * e)))
  | _ => False)
 | .ptr .., _ => False
 | .fn f cs, k => retsK mem cs fun cs' => k (.fn f cs')
 | .any, k => k .any
def retsK (mem : Nat → Option Blk) : List V → (List V → Prop) → Prop
 | [], k => k []
 | x :: xs, k => retK mem x fun x' => retsK mem xs fun xs' => k (x' :: xs')
end
mutual
theorem retK_ok {mem : Nat → Option Blk} {ids : Nat → Nat} {q : Nat} {L : Nat → Bool} : ∀ (v : V) (k : V → Prop), (∀ b, (mem b).isSome = true → L b = true) → retK mem v k → ∃ v', Lend (retHow mem L ids q) v v' ∧ k v'
 | .sc v, k, hL, h => by simp only [retK] at h; exact ⟨_, .sc v, h⟩
 | .agg cs, k, hL, h => by
  simp only [retK] at h
  obtain ⟨cs', h1, h2, h3⟩ := retsK_ok cs _ hL h
  exact ⟨_, .agg h1 h2, h3⟩
 | .tup cs, k, hL, h => by
  simp only [retK] at h
  obtain ⟨cs', h1, h2⟩ := retsK_ok cs _ hL h
  exact ⟨_, .tup h1, h2⟩
 | .lst new e n cs, k, hL, h => by
  simp only [retK] at h
  obtain ⟨g1, g2, g3⟩ := good_spec h.1
  exact ⟨_, .lst (H := retHow mem L ids q) (Lends.selfI (fun _ => rfl) cs g1 g2) g3, h.2⟩
 | .rp cs, k, hL, h => by simp only [retK] at h
 | .sl b ver e off len, k, hL, h => by
  simp only [retK] at h
  split at h
  ·rename_i te e' v cs hm
   obtain ⟨rfl, rfl, h3, h4, h5⟩ := h
   obtain ⟨g1, g2, g3⟩ := good_spec h4
   exact ⟨_, .slLend (H := retHow mem L ids q) (hL b (by rw [hm]; rfl)) hm h3 (Lends.selfI (fun _ => rfl) _ g1 g2) g3, h5⟩
  ·exact h.elim
 | .ptr .., k, hL, h => by simp only [retK] at h
 | .fn f cs, k, hL, h => by
  simp only [retK] at h
  obtain ⟨cs', h1, h2⟩ := retsK_ok cs _ hL h
  exact ⟨_, .fn h1, h2⟩
 | .any, k, hL, h => by simp only [retK] at h; exact ⟨_, .any _, h⟩
theorem retsK_ok {mem : Nat → Option Blk} {ids : Nat → Nat} {q : Nat} {L : Nat → Bool} : ∀ (vs : List V) (k : List V → Prop), (∀ b, (mem b).isSome = true → L b = true) → retsK mem vs k → ∃ vs', Lends (retHow mem L ids q) vs vs' ∧ k vs'
 | [], k, hL, h => by simp only [retsK] at h; exact ⟨[], .nil, h⟩
 | x :: xs, k, hL, h => by
  simp only [retsK] at h
  obtain ⟨x', h1, h2⟩ := retK_ok x _ hL h
  obtain ⟨xs', h3, h4⟩ := retsK_ok xs _ hL h2
  exact ⟨_, .cons h1 h3, h4⟩
end

def resL (P : Program) (s : LS) : List ResultVar → Option V := resOf P s.st
def RetP (P : Program) (fn : Func) (res : V) (Q : Exit → St → Prop) : Prop := ∀ e (s : LS), (e = .normal ∨ e = .ret) → ((resOf P s.st fn.results.toList).elim False fun v => retK (lget s.mem) v fun r => r = res) → Q e s.st
theorem RetP.go {P : Program} {fn : Func} {res : V} {Q : Exit → St → Prop} {e : Exit} {s : LS} (h : RetP P fn res Q) (he : e = .normal ∨ e = .ret) (k : (resOf P s.st fn.results.toList).elim False fun v => retK (lget s.mem) v fun r => r = res) : Q e s.st := h e s he k
theorem FnP.walk {P : Program} {f : FuncId} {fn : Func} {c : Code} {args : List V} {res : V} (hf : P.funcs[f]? = some fn) (hb : fn.body = some c) (N : Nat) (hN : args.length + (fn.ntmps - args.length) = N)
  (h : ∀ (W : World) (S : Nat → Prop) (F : Nat → Nat → Option Value) (Q : Exit → St → Prop), RetP P fn res Q →
   AWP P none ⟨W, S, 0, F, N, []⟩ c (⟨largs 0 args, [], 0⟩ : LS).st Q) : FnP P f args res := by
 refine FnP.ofK hf hb N hN fun W S F Q hQ => h W S F Q fun e s he hr => hQ e s.st he ?_
 cases hv : resOf P s.st fn.results.toList with
 | none => rw [hv] at hr; exact hr.elim
 | some v =>
  rw [hv] at hr
  obtain ⟨r, r1, r2⟩ := retK_ok (ids := id) (q := 0) (L := fun _ => true) v _ (fun _ _ => rfl) hr
  subst r2
  exact ⟨v, fun _ => true, rfl, r1⟩

section
variable {P : Program} {N p : Nat} {ops : Array Oper} {base : Nat} {masks : Option (List Nat)} {kl : Kl} {i : Nat} {l : List Oper} {s : LS} {Q : LS → Prop} {o : Oper}
def onFn (v : V) (fid : FuncId) (k : List V → Prop) : Prop := match v with | .fn (.func f) caps => f = fid ∧ k caps | _ => False
theorem RunK.callK (ks : List Nat) {f : Operand} {args : Array Operand} {ts : Array TypeId} {fid : FuncId} (hop : o.op = .call { callee := .value f, args, argTypes := ts }) (hcb : callable P fid = true)
  (h : dstOK N o.dst = true ∧ wantedL ops s o = some true ∧ lchk base masks kl i ks = true ∧ onFn (s.ev f) fid fun caps => lendsK (lget s.mem) ks (args.toList.map s.ev ++ caps) fun args' =>
   ∃ res, FnP P fid args' res ∧ (V.fresh res = true ∨ ks = []) ∧ RunK P N p ops base masks kl (i + 1) l (s.app o.dst res []) Q) : RunK P N p ops base masks kl i (o :: l) s Q := by
 obtain ⟨h1, h2, h3, h4⟩ := h
 unfold onFn at h4
 split at h4
 ·rename_i f' caps hf
  obtain ⟨rfl, h4⟩ := h4
  obtain ⟨args', h5, res, h6, h7, h8⟩ := lendsK_ok _ _ h4
  exact RunK.call ks h6 hop h1 h2 hf hcb h5 h7 h3 h8
 ·exact h4.elim
theorem RunK.shareK (ks : List Nat) {f : Operand} {args : Array Operand} {ts : Array TypeId} {fid : FuncId} (hop : o.op = .call { callee := .value f, args, argTypes := ts }) (hcb : callable P fid = true)
  (h : dstOK N o.dst = true ∧ wantedL ops s o = some true ∧ lchk base masks kl i ks = true ∧ (masks.isNone || kl.contains i) = true ∧ (ks.all fun b => decide (p ≤ b) && (lget s.mem b).isSome) = true ∧ onFn (s.ev f) fid fun caps => lendsK (lget s.mem) ks (args.toList.map s.ev ++ caps) fun args' =>
   ∃ res, FnP P fid args' res ∧ RunK P N p ops base masks kl (i + 1) l (s.app o.dst res (ks.map (·, .dead))) Q) : RunK P N p ops base masks kl i (o :: l) s Q := by
 obtain ⟨h1, h2, h3, h3', h3'', h4⟩ := h
 unfold onFn at h4
 split at h4
 ·rename_i f' caps hf
  obtain ⟨rfl, h4⟩ := h4
  obtain ⟨args', h5, res, h6, h8⟩ := lendsK_ok _ _ h4
  exact RunK.share ks h6 hop h1 h2 hf hcb h5 h3'' h3' h3 h8
 ·exact h4.elim
end
end Go.Abs
namespace Go.Abs
theorem RunK.guardK {P : Program} {N p : Nat} {ops : Array Oper} {base : Nat} {masks : Option (List Nat)} {kl : Kl} {i : Nat} {l : List Oper} {s : LS} {Q : LS → Prop} {o : Oper} {j : Nat} {w : Bool} {d : Tmp}
  (hg : o.guard = some (j, w)) (hd : (ops[j]?).bind (·.dst) = some d) (h : onBool (s.slot d) fun b => (b = true → RunK P N p ops base masks kl i (o :: l) s Q) ∧ (b = false → RunK P N p ops base masks kl i (o :: l) s Q)) : RunK P N p ops base masks kl i (o :: l) s Q := by
 unfold onBool at h
 split at h
 ·rename_i t ht
  cases t
  ·exact h.2 rfl
  ·exact h.1 rfl
 ·exact h.elim
end Go.Abs
namespace Go.Abs
set_option linter.unusedVariables false
set_option linter.unusedSimpArgs false

mutual
def V.refs : V → List Nat
 | .sc _ => []
 | .agg cs => V.refss cs
 | .tup cs => V.refss cs
 | .lst _ _ _ cs => V.refss cs
 | .rp cs => V.refss cs
 | .sl b .. => [b]
 | .ptr b .. => [b]
 | .fn _ cs => V.refss cs
 | .any => []
def V.refss : List V → List Nat
 | [] => []
 | x :: xs => V.refs x ++ V.refss xs
end
def nubA (acc : List Nat) : List Nat → List Nat
 | [] => acc
 | x :: xs => if acc.contains x then nubA acc xs else nubA (acc ++ [x]) xs
def blkRefs (mem : Nat → Option Blk) : List Nat → List Nat
 | [] => []
 | b :: bs => (match mem b with | some k => V.refss k.cells | none => []) ++ blkRefs mem bs
def passesOf (mem : Nat → Option Blk) (vs : List V) : List Nat :=
 let a := nubA [] (V.refss vs)
 let b := nubA a (blkRefs mem a)
 nubA b (blkRefs mem b)
def idxN (b : Nat) : List Nat → Nat → Nat
 | [], j => j
 | x :: xs, j => if x = b then j else idxN b xs (j + 1)
mutual
def V.passed (bs : List Nat) : V → V
 | .sc v => .sc v
 | .agg cs => .agg (V.passeds bs cs)
 | .tup cs => .tup (V.passeds bs cs)
 | .lst _ e n cs => .lst false e n (V.passeds bs cs)
 | .rp cs => .rp (V.passeds bs cs)
 | .sl b v e o l => .sl (idxN b bs 0) v e o l
 | .ptr b v o => .ptr (idxN b bs 0) v o
 | .fn f cs => .fn f (V.passeds bs cs)
 | .any => .any
def V.passeds (bs : List Nat) : List V → List V
 | [] => []
 | x :: xs => V.passed bs x :: V.passeds bs xs
end
mutual
def V.passOK (bs : List Nat) : V → Bool
 | .sc _ => true
 | .agg cs => cs.all V.leaf && V.passOKs bs cs
 | .tup cs => V.passOKs bs cs
 | .lst _ _ _ cs => cs.all V.leaf && V.passOKs bs cs
 | .rp cs => cs.all V.leaf && V.passOKs bs cs
 | .sl b .. => bs.contains b
 | .ptr b .. => bs.contains b
 | .fn _ cs => V.passOKs bs cs
 | .any => true
def V.passOKs (bs : List Nat) : List V → Bool
 | [] => true
 | x :: xs => V.passOK bs x && V.passOKs bs xs
end
theorem V.passed_leaf (bs : List Nat) (v : V) : (v.passed bs).leaf = v.leaf := by cases v <;> simp [V.passed, V.leaf]
theorem V.passeds_leaf (bs : List Nat) : ∀ (vs : List V), (V.passeds bs vs).all V.leaf = vs.all V.leaf
 | [] => by simp [V.passeds]
 | v :: vs => by simp [V.passeds, V.passed_leaf, V.passeds_leaf bs vs]
theorem idxN_spec (b : Nat) : ∀ (bs : List Nat) (j : Nat), b ∈ bs → idxN b bs j - j < bs.length ∧ j ≤ idxN b bs j ∧ bs.getD (idxN b bs j - j) 0 = b
 | [], j, h => by cases h
 | x :: xs, j, h => by
  unfold idxN
  by_cases hx : x = b
  ·rw [if_pos hx]; simp [hx]
  ·rw [if_neg hx]
   obtain ⟨h1, h2, h3⟩ := idxN_spec b xs (j + 1) (by simpa [Ne.symm hx] using h)
   refine ⟨by simp; omega, by omega, ?_⟩
   rw [show idxN b xs (j + 1) - j = (idxN b xs (j + 1) - (j + 1)) + 1 by omega]
   simpa using h3
mutual
theorem Lend.passI {mem : Nat → Option Blk} {bs : List Nat} : ∀ (v : V), V.passOK bs v = true → Lend (passHow mem bs) v (v.passed bs)
 | .sc v, h => by simp only [V.passed]; exact .sc v
 | .agg cs, h => by
  simp only [V.passed]; simp only [V.passOK, Bool.and_eq_true] at h
  exact .agg (Lends.passI cs h.2) (by rw [V.passeds_leaf]; exact h.1)
 | .tup cs, h => by simp only [V.passed]; simp only [V.passOK] at h; exact .tup (Lends.passI cs h)
 | .lst new e n cs, h => by
  simp only [V.passed]; simp only [V.passOK, Bool.and_eq_true] at h
  exact .lst (H := passHow mem bs) (Lends.passI cs h.2) (by rw [V.passeds_leaf]; exact h.1)
 | .rp cs, h => by
  simp only [V.passed]; simp only [V.passOK, Bool.and_eq_true] at h
  exact .rp (Lends.passI cs h.2) (by rw [V.passeds_leaf]; exact h.1)
 | .sl b ver e o l, h => by
  simp only [V.passed]; simp only [V.passOK, List.contains_iff_mem] at h
  obtain ⟨h1, h2, h3⟩ := idxN_spec b bs 0 h
  exact .slPass (H := passHow mem bs) h1 h3
 | .ptr b ver o, h => by
  simp only [V.passed]; simp only [V.passOK, List.contains_iff_mem] at h
  obtain ⟨h1, h2, h3⟩ := idxN_spec b bs 0 h
  exact .ptrPass (H := passHow mem bs) h1 h3
 | .fn f cs, h => by simp only [V.passed]; simp only [V.passOK] at h; exact .fn (Lends.passI cs h)
 | .any, _ => .any _
theorem Lends.passI {mem : Nat → Option Blk} {bs : List Nat} : ∀ (vs : List V), V.passOKs bs vs = true → Lends (passHow mem bs) vs (V.passeds bs vs)
 | [], _ => by simp only [V.passeds]; exact .nil
 | x :: xs, h => by
  simp only [V.passeds]
  simp only [V.passOKs, Bool.and_eq_true] at h
  exact .cons (Lend.passI x h.1) (Lends.passI xs h.2)
end
def Blk.passed (bs : List Nat) : Blk → Blk
 | .box cs => .box (V.passeds bs cs)
 | .arr te e v cs => .arr te e v (V.passeds bs cs)
 | .dead => .dead
def passBlks (mem : Nat → Option Blk) (bs : List Nat) : List Nat → (List Blk → Prop) → Prop
 | [], k => k []
 | b :: l, k => match mem b with
  | some (.box cs) => V.passOKs bs cs = true ∧ cs.all V.leaf = true ∧ passBlks mem bs l fun r => k (.box (V.passeds bs cs) :: r)
  | some (.arr te e v cs) => V.passOKs bs cs = true ∧ cs.all V.leaf = true ∧ passBlks mem bs l fun r => k (.arr te e v (V.passeds bs cs) :: r)
  | _ => False
theorem passBlks_ok {mem : Nat → Option Blk} {bs : List Nat} : ∀ (l : List Nat) (k : List Blk → Prop), passBlks mem bs l k → ∃ m, k m ∧ m.length = l.length ∧ (∀ b ∈ l, (mem b).isSome = true) ∧ ∀ j k', m[j]? = some k' → ∃ k, mem (l.getD j 0) = some k ∧ BLend (passHow mem bs) k k'
 | [], k, h => ⟨[], h, rfl, fun b hb => (by cases hb), fun j k' hk => by simp at hk⟩
 | b :: l, k, h => by
  unfold passBlks at h
  have key : ∀ (k0 k0' : Blk), mem b = some k0 → BLend (passHow mem bs) k0 k0' → (∃ m, k (k0' :: m) ∧ m.length = l.length ∧ (∀ b ∈ l, (mem b).isSome = true) ∧ ∀ j k', m[j]? = some k' → ∃ k, mem (l.getD j 0) = some k ∧ BLend (passHow mem bs) k k') →
    ∃ m, k m ∧ m.length = (b :: l).length ∧ (∀ b' ∈ b :: l, (mem b').isSome = true) ∧ ∀ j k', m[j]? = some k' → ∃ k, mem ((b :: l).getD j 0) = some k ∧ BLend (passHow mem bs) k k' := by
   rintro k0 k0' h0 h1 ⟨m, m1, m2, m3, m4⟩
   refine ⟨k0' :: m, m1, by simp [m2], fun b' hb' => ?_, fun j k' hk' => ?_⟩
   ·rcases List.mem_cons.1 hb' with rfl | hb'
    ·rw [h0]; rfl
    ·exact m3 b' hb'
   ·cases j with
    | zero => simp at hk'; subst hk'; exact ⟨k0, by simpa using h0, h1⟩
    | succ j => simp at hk'; simpa using m4 j k' hk'
  split at h
  ·rename_i cs hm
   obtain ⟨h1, h2, h3⟩ := h
   exact key _ _ hm (.box (Lends.passI cs h1) (by rw [V.passeds_leaf]; exact h2)) (passBlks_ok l _ h3)
  ·rename_i te e v cs hm
   obtain ⟨h1, h2, h3⟩ := h
   exact key _ _ hm (.arr (Lends.passI cs h1) (by rw [V.passeds_leaf]; exact h2)) (passBlks_ok l _ h3)
  ·exact h.elim
def nodupB : List Nat → Bool
 | [] => true
 | x :: xs => !xs.contains x && nodupB xs
theorem nodupB_ok : ∀ (l : List Nat), nodupB l = true → l.Nodup
 | [], _ => List.nodup_nil
 | x :: xs, h => by
  simp only [nodupB, Bool.and_eq_true, Bool.not_eq_true', List.contains_eq_mem, decide_eq_false_iff_not] at h
  exact List.nodup_cons.2 ⟨h.1, nodupB_ok xs h.2⟩
def sideB (p : Nat) (bs : List Nat) : Bool := bs.all (fun b => decide (p ≤ b)) || bs.all fun b => decide (b < p)
def Blk.isBox : Blk → Bool
 | .box _ => true
 | _ => false
def sideBB (p : Nat) (bs : List Nat) (m' : List Blk) : Bool := sideB p bs || (Nat.beq m'.length bs.length && m'.all Blk.isBox)
theorem sideBB_ok {p : Nat} {bs : List Nat} {m' : List Blk} (h : sideBB p bs m' = true) : (∀ b ∈ bs, b < p) ∨ (∀ b ∈ bs, p ≤ b) ∨ boxes bs.length m' := by
 unfold sideBB sideB at h
 simp only [Bool.or_eq_true, List.all_eq_true, decide_eq_true_eq, Bool.and_eq_true] at h
 rcases h with (h | h) | ⟨h1, h2⟩
 ·exact .inr (.inl h)
 ·exact .inl h
 ·refine .inr (.inr ⟨Nat.eq_of_beq_eq_true h1, fun k hk => ?_⟩)
  have := h2 k hk
  cases k with
  | box cs => exact ⟨cs, rfl⟩
  | dead => cases this
  | arr => cases this

section
variable {P : Program} {N p : Nat} {ops : Array Oper} {base : Nat} {masks : Option (List Nat)} {kl : Kl} {i : Nat} {l : List Oper} {s : LS} {Q : LS → Prop} {o : Oper}
theorem RunK.passK {f : Operand} {args : Array Operand} {ts : Array TypeId} {fid : FuncId} (hop : o.op = .call { callee := .value f, args, argTypes := ts }) (hcb : callable P fid = true)
  (h : dstOK N o.dst = true ∧ wantedL ops s o = some true ∧ (masks.isNone || kl.contains i) = true ∧ (lget s.mem (base + 4 * i)).isNone = true ∧ onFn (s.ev f) fid fun caps =>
   nodupB (passesOf (lget s.mem) (args.toList.map s.ev ++ caps)) = true ∧ sideB p (passesOf (lget s.mem) (args.toList.map s.ev ++ caps)) = true ∧ lchk base masks kl i (passesOf (lget s.mem) (args.toList.map s.ev ++ caps)) = true ∧
   V.passOKs (passesOf (lget s.mem) (args.toList.map s.ev ++ caps)) (args.toList.map s.ev ++ caps) = true ∧
   passBlks (lget s.mem) (passesOf (lget s.mem) (args.toList.map s.ev ++ caps)) (passesOf (lget s.mem) (args.toList.map s.ev ++ caps)) fun m =>
   ∃ res m', FnD P fid m (V.passeds (passesOf (lget s.mem) (args.toList.map s.ev ++ caps)) (args.toList.map s.ev ++ caps)) res m' ∧ (m.length ≤ m'.length ∧ m'.length ≤ m.length + 1) ∧
    RunK P N p ops base masks kl (i + 1) l (s.app o.dst (res.ren (passIds (passesOf (lget s.mem) (args.toList.map s.ev ++ caps)) (base + 4 * i))) (passUps (passIds (passesOf (lget s.mem) (args.toList.map s.ev ++ caps)) (base + 4 * i)) 0 m')) Q) : RunK P N p ops base masks kl i (o :: l) s Q := fun hls => by
 obtain ⟨hd, hw, hkl, hid, h4⟩ := h
 unfold onFn at h4
 split at h4
 ·rename_i f' caps hf
  obtain ⟨rfl, h5, h6, h7, h8, h9⟩ := h4
  obtain ⟨m, ⟨res, m', g1, ⟨g2, g2'⟩, g3⟩, m1, m2, m3⟩ := passBlks_ok _ _ h9
  obtain ⟨q1, q2⟩ := RunK.head hls
  obtain ⟨s', r1, r2⟩ := g3 q2
  have hside : (∀ b ∈ passesOf (lget s.mem) (args.toList.map s.ev ++ caps), b < p) ∨ ∀ b ∈ passesOf (lget s.mem) (args.toList.map s.ev ++ caps), p ≤ b := by
   unfold sideB at h6
   simp only [Bool.or_eq_true, List.all_eq_true, decide_eq_true_eq] at h6
   exact h6.symm
  have hside := hside.imp_right (fun x => Or.inl (b := boxes (passesOf (lget s.mem) (args.toList.map s.ev ++ caps)).length m') x)
  exact ⟨s', .pass q1 hd hw hop hf (Lends.passI _ h8) hcb g1 (nodupB_ok _ h5) m2 (Option.isNone_iff_eq_none.1 hid) hside m1 (by rw [← m1]; exact g2) (by rw [← m1]; exact g2') m3 hkl h7 r1, r2⟩
 ·exact h4.elim
end

mutual
def outK (mem : Nat → Option Blk) (p : Nat) (ex : List Nat) : V → (V → Prop) → Prop
 | .sc v, k => k (.sc v)
 | .agg cs, k => outsK mem p ex cs fun cs' => cs'.all V.leaf = true ∧ k (.agg cs')
 | .tup cs, k => outsK mem p ex cs fun cs' => k (.tup cs')
 | .lst new e n cs, k => V.good cs = true ∧ k (.lst new e n cs)
 | .rp _, _ => False
 | .sl b ver e off len, k => if b < p then k (.sl b ver e off len) else if ex.contains b then k (.sl (p + idxN b ex 0) ver e off len) else (match mem b with
  | some (.arr _ e' v cs) => v = ver ∧ e' = e ∧ off * e + len * e ≤ cs.length ∧ V.good ((cs.drop (off * e)).take (len * e)) = true ∧ k (.lst true e len ((cs.drop (off * e)).take (len * e)))
  | _ => False)
 | .ptr b ver o, k => if b < p then k (.ptr b ver o) else if ex.contains b then k (.ptr (p + idxN b ex 0) ver o) else False
 | .fn f cs, k => outsK mem p ex cs fun cs' => k (.fn f cs')
 | .any, k => k .any
def outsK (mem : Nat → Option Blk) (p : Nat) (ex : List Nat) : List V → (List V → Prop) → Prop
 | [], k => k []
 | x :: xs, k => outK mem p ex x fun x' => outsK mem p ex xs fun xs' => k (x' :: xs')
end
def outIds (p : Nat) (ex : List Nat) (j : Nat) : Nat := if j < p then j else ex.getD (j - p) 0
def outL (mem : Nat → Option Blk) (p : Nat) (ex : List Nat) (b : Nat) : Bool := (mem b).isSome && decide (p ≤ b) && !ex.contains b
mutual
theorem outK_ok {mem : Nat → Option Blk} {p : Nat} {ex : List Nat} : ∀ (v : V) (k : V → Prop), outK mem p ex v k → ∃ v', Lend (retHow mem (outL mem p ex) (outIds p ex) (p + ex.length)) v v' ∧ k v'
 | .sc v, k, h => by simp only [outK] at h; exact ⟨_, .sc v, h⟩
 | .agg cs, k, h => by
  simp only [outK] at h
  obtain ⟨cs', h1, h2, h3⟩ := outsK_ok cs _ h
  exact ⟨_, .agg h1 h2, h3⟩
 | .tup cs, k, h => by
  simp only [outK] at h
  obtain ⟨cs', h1, h2⟩ := outsK_ok cs _ h
  exact ⟨_, .tup h1, h2⟩
 | .lst new e n cs, k, h => by
  simp only [outK] at h
  obtain ⟨g1, g2, g3⟩ := good_spec h.1
  exact ⟨_, .lst (H := retHow mem _ _ _) (Lends.selfI (fun _ => rfl) cs g1 g2) g3, h.2⟩
 | .rp cs, k, h => by simp only [outK] at h
 | .sl b ver e off len, k, h => by
  simp only [outK] at h
  split at h
  ·rename_i hb
   exact ⟨_, .slPass (H := retHow mem _ _ _) (show b < p + ex.length by omega) (by show outIds p ex b = b; simp [outIds, hb]), h⟩
  ·rename_i hb
   split at h
   ·rename_i hx
    obtain ⟨i1, i2, i3⟩ := idxN_spec b ex 0 (by simpa using hx)
    exact ⟨_, .slPass (H := retHow mem _ _ _) (show p + idxN b ex 0 < p + ex.length by omega) (by show outIds p ex _ = b; unfold outIds; rw [if_neg (by omega), show p + idxN b ex 0 - p = idxN b ex 0 by omega]; exact i3), h⟩
   ·rename_i hx
    split at h
    ·rename_i te e' v cs hm
     obtain ⟨rfl, rfl, h3, h4, h5⟩ := h
     obtain ⟨g1, g2, g3⟩ := good_spec h4
     have hL : outL mem p ex b = true := by
      unfold outL; rw [hm]; simp only [Option.isSome_some, Bool.true_and, Bool.and_eq_true, decide_eq_true_eq, Bool.not_eq_true']
      exact ⟨by omega, by simpa using hx⟩
     exact ⟨_, .slLend (H := retHow mem _ _ _) hL hm h3 (Lends.selfI (fun _ => rfl) _ g1 g2) g3, h5⟩
    ·exact h.elim
 | .ptr b ver o, k, h => by
  simp only [outK] at h
  split at h
  ·rename_i hb
   exact ⟨_, .ptrPass (H := retHow mem _ _ _) (show b < p + ex.length by omega) (by show outIds p ex b = b; simp [outIds, hb]), h⟩
  ·rename_i hb
   split at h
   ·rename_i hx
    obtain ⟨i1, i2, i3⟩ := idxN_spec b ex 0 (by simpa using hx)
    exact ⟨_, .ptrPass (H := retHow mem _ _ _) (show p + idxN b ex 0 < p + ex.length by omega) (by show outIds p ex _ = b; unfold outIds; rw [if_neg (by omega), show p + idxN b ex 0 - p = idxN b ex 0 by omega]; exact i3), h⟩
   ·exact h.elim
 | .fn f cs, k, h => by
  simp only [outK] at h
  obtain ⟨cs', h1, h2⟩ := outsK_ok cs _ h
  exact ⟨_, .fn h1, h2⟩
 | .any, k, h => by simp only [outK] at h; exact ⟨_, .any _, h⟩
theorem outsK_ok {mem : Nat → Option Blk} {p : Nat} {ex : List Nat} : ∀ (vs : List V) (k : List V → Prop), outsK mem p ex vs k → ∃ vs', Lends (retHow mem (outL mem p ex) (outIds p ex) (p + ex.length)) vs vs' ∧ k vs'
 | [], k, h => by simp only [outsK] at h; exact ⟨[], .nil, h⟩
 | x :: xs, k, h => by
  simp only [outsK] at h
  obtain ⟨x', h1, h2⟩ := outK_ok x _ h
  obtain ⟨xs', h3, h4⟩ := outsK_ok xs _ h2
  exact ⟨_, .cons h1 h3, h4⟩
end
def outBlks (mem : Nat → Option Blk) (p : Nat) (ex : List Nat) : List Nat → (List Blk → Prop) → Prop
 | [], k => k []
 | b :: l, k => match mem b with
  | some (.box cs) => outsK mem p ex cs fun cs' => cs'.all V.leaf = true ∧ outBlks mem p ex l fun r => k (.box cs' :: r)
  | some (.arr te e v cs) => outsK mem p ex cs fun cs' => cs'.all V.leaf = true ∧ outBlks mem p ex l fun r => k (.arr te e v cs' :: r)
  | _ => False
theorem outBlks_ok {mem : Nat → Option Blk} {p : Nat} {ex : List Nat} : ∀ (l : List Nat) (k : List Blk → Prop), outBlks mem p ex l k → ∃ m, k m ∧ m.length = l.length ∧ ∀ j, j < l.length → ∃ k k', mem (l.getD j 0) = some k ∧ m[j]? = some k' ∧ BLend (retHow mem (outL mem p ex) (outIds p ex) (p + ex.length)) k k'
 | [], k, h => ⟨[], h, rfl, fun j hj => by simp at hj⟩
 | b :: l, k, h => by
  unfold outBlks at h
  have key : ∀ (k0 k0' : Blk), mem b = some k0 → BLend (retHow mem (outL mem p ex) (outIds p ex) (p + ex.length)) k0 k0' → (∃ m, k (k0' :: m) ∧ m.length = l.length ∧ ∀ j, j < l.length → ∃ k k', mem (l.getD j 0) = some k ∧ m[j]? = some k' ∧ BLend (retHow mem (outL mem p ex) (outIds p ex) (p + ex.length)) k k') →
    ∃ m, k m ∧ m.length = (b :: l).length ∧ ∀ j, j < (b :: l).length → ∃ k k', mem ((b :: l).getD j 0) = some k ∧ m[j]? = some k' ∧ BLend (retHow mem (outL mem p ex) (outIds p ex) (p + ex.length)) k k' := by
   rintro k0 k0' h0 h1 ⟨m, m1, m2, m3⟩
   refine ⟨k0' :: m, m1, by simp [m2], fun j hj => ?_⟩
   cases j with
   | zero => exact ⟨k0, k0', by simpa using h0, by simp, h1⟩
   | succ j => simp at hj; simpa using m3 j hj
  split at h
  ·rename_i cs hm
   obtain ⟨cs', h1, h2, h3⟩ := outsK_ok cs _ h
   exact key _ _ hm (.box h1 h2) (outBlks_ok l _ h3)
  ·rename_i te e v cs hm
   obtain ⟨cs', h1, h2, h3⟩ := outsK_ok cs _ h
   exact key _ _ hm (.arr h1 h2) (outBlks_ok l _ h3)
  ·exact h.elim
def lblks : Nat → List Blk → List (Nat × Blk)
 | _, [] => []
 | j, k :: ks => (j, k) :: lblks (j + 1) ks
theorem lget_lblks : ∀ (vs : List Blk) (i t : Nat), lget (lblks i vs) t = if t < i then none else vs[t - i]?
 | [], i, t => by simp [lblks, lget]
 | v :: vs, i, t => by
  unfold lblks lget
  by_cases h : i = t
  ·subst h; simp
  ·rw [if_neg h, lget_lblks vs (i + 1) t]
   by_cases h1 : t < i
   ·rw [if_pos (by omega), if_pos h1]
   ·rw [if_neg (by omega), if_neg h1]
    rw [show t - i = (t - (i + 1)) + 1 by omega]
    simp
def RetD (P : Program) (fn : Func) (p : Nat) (res : V) (bs' : List Blk) (Q : Exit → St → Prop) : Prop := ∀ e (s : LS), (e = .normal ∨ e = .ret) → ((resOf P s.st fn.results.toList).elim False fun v => ∃ ex : List Nat, nodupB ex = true ∧ (ex.all fun b => decide (p ≤ b)) = true ∧ outK (lget s.mem) p ex v fun r => outBlks (lget s.mem) p ex (List.range p ++ ex) fun m => r = res ∧ m = bs') → Q e s.st
theorem RetD.go {P : Program} {fn : Func} {p : Nat} {res : V} {bs' : List Blk} {Q : Exit → St → Prop} {e : Exit} {s : LS} (h : RetD P fn p res bs' Q) (ex : List Nat) (he : e = .normal ∨ e = .ret) (h1 : nodupB ex = true) (h2 : (ex.all fun b => decide (p ≤ b)) = true)
  (k : (resOf P s.st fn.results.toList).elim False fun v => outK (lget s.mem) p ex v fun r => outBlks (lget s.mem) p ex (List.range p ++ ex) fun m => r = res ∧ m = bs') : Q e s.st := by
 refine h e s he ?_
 cases hv : resOf P s.st fn.results.toList with
 | none => rw [hv] at k; exact k.elim
 | some v => rw [hv] at k; exact ⟨ex, h1, h2, k⟩
theorem FnD.walk {P : Program} {f : FuncId} {fn : Func} {c : Code} {bs bs' : List Blk} {args : List V} {res : V} (hf : P.funcs[f]? = some fn) (hb : fn.body = some c) (N p : Nat) (hN : args.length + (fn.ntmps - args.length) = N) (hp : bs.length = p)
  (h : ∀ (W : World) (S : Nat → Prop) (F : Nat → Nat → Option Value) (Q : Exit → St → Prop), RetD P fn p res bs' Q →
   AWP P none ⟨W, S, p, F, N, []⟩ c (⟨largs 0 args, lblks 0 bs, p⟩ : LS).st Q) : FnD P f bs args res bs' := by
 unfold FnD
 subst hp
 refine FnM.of_awp hf hb (fun b k hk => (List.getElem?_eq_some_iff.1 hk).1) fun W S F => ?_
 have := h W S F (fun e s => (e = .normal ∨ e = .ret) ∧ ∃ v res_1 m', resOf P s fn.results.toList = some v ∧ Leaves bs.length s v res_1 m' ∧ res_1 = res ∧ m' = fun j => bs'[j]?) fun e s he hr => by
  refine ⟨he, ?_⟩
  cases hv : resOf P s.st fn.results.toList with
  | none => rw [hv] at hr; exact hr.elim
  | some v =>
   rw [hv] at hr
   obtain ⟨ex, x1, x2, x3⟩ := hr
   obtain ⟨r, r1, r2⟩ := outK_ok v _ x3
   obtain ⟨m, ⟨rfl, rfl⟩, m1, m2⟩ := outBlks_ok _ _ r2
   have hex : ∀ b ∈ ex, bs.length ≤ b := by simpa using x2
   have hnd := nodupB_ok _ x1
   refine ⟨v, r, _, rfl, ⟨outL (lget s.mem) bs.length ex, outIds bs.length ex, bs.length + ex.length, by omega, fun b hb => ?_, fun j hj => by simp [outIds, hj], fun j h1 h2 => ?_, fun i j hi hj e => ?_, fun j hj => ?_, fun j hj => ?_, fun j hj => ?_, r1⟩, rfl, rfl⟩
   ·unfold outL at hb; simp only [Bool.and_eq_true, decide_eq_true_eq] at hb; exact hb.1.2
   ·have hlt : j - bs.length < ex.length := by omega
    simp only [outIds, if_neg (Nat.not_lt.2 h1), List.getD_eq_getElem?_getD, List.getElem?_eq_getElem hlt, Option.getD_some]
    exact hex _ (List.getElem_mem hlt)
   ·unfold outIds at e
    split at e <;> split at e
    ·exact e
    ·rename_i g1 g2
     have hlt : j - bs.length < ex.length := by omega
     simp only [List.getD_eq_getElem?_getD, List.getElem?_eq_getElem hlt, Option.getD_some] at e
     have := hex _ (List.getElem_mem hlt); omega
    ·rename_i g1 g2
     have hlt : i - bs.length < ex.length := by omega
     simp only [List.getD_eq_getElem?_getD, List.getElem?_eq_getElem hlt, Option.getD_some] at e
     have := hex _ (List.getElem_mem hlt); omega
    ·have hlt : j - bs.length < ex.length := by omega
     have hlt' : i - bs.length < ex.length := by omega
     simp only [List.getD_eq_getElem?_getD, List.getElem?_eq_getElem hlt, List.getElem?_eq_getElem hlt', Option.getD_some] at e
     have := nodup_inj hnd e; omega
   ·unfold outL outIds
    split
    ·rename_i hj'; simp; intro _ hx; omega
    ·have hlt : j - bs.length < ex.length := by omega
     simp only [List.getD_eq_getElem?_getD, List.getElem?_eq_getElem hlt, Option.getD_some]
     have := List.getElem_mem hlt
     simp [this]
   ·obtain ⟨k, k', e1, e2, e3⟩ := m2 j (by simpa using hj)
    refine ⟨k, k', ?_, e2, e3⟩
    have : (List.range bs.length ++ ex).getD j 0 = outIds bs.length ex j := by
     unfold outIds
     simp only [List.getD_eq_getElem?_getD, List.getElem?_append, List.length_range]
     split
     ·rename_i hj'; simp [hj']
     ·rfl
    rw [← this]; exact e1
   ·have : m.length = bs.length + ex.length := by rw [m1]; simp
    simp; omega
 have e : (⟨largs 0 args, lblks 0 bs, bs.length⟩ : LS).st = ⟨argsT args, fun j => bs[j]?, bs.length⟩ := by
  rw [← argsT_st]
  have : lget (lblks 0 bs) = fun j => bs[j]? := by
   funext j
   rw [lget_lblks]; simp
  rw [this]
 rw [e] at this
 rw [show (⟨W, S, bs.length, F, args.length + (fn.ntmps - args.length), []⟩ : Cx) = ⟨W, S, bs.length, F, N, []⟩ by rw [hN]]
 exact this
end Go.Abs
namespace Go.Abs
set_option linter.unusedVariables false
set_option linter.unusedSimpArgs false

open Classical in
theorem AWP.loopW {P : Program} {r : Option Nat} {C : Cx} {s : St} {Q : Exit → St → Prop} {c : Code} {α : Type} (st : α → LS) (inv : α → Prop) (μ : α → Nat) (x0 : α) (h0 : inv x0) (hw : Weak C s (st x0).st)
  (round : ∀ x, inv x → AWP P r C c (st x).st (thn (fun s' => ∃ x', inv x' ∧ μ x' < μ x ∧ Weak C s' (st x').st) Q)) : AWP P r C (.loop c) s Q := by
 let J : St → Nat → Prop := fun s j => ∃ x, inv x ∧ Weak C s (st x).st ∧ μ x = j
 let m : St → Nat := fun s => if h : ∃ j, J s j then Classical.choose (exists_least h) else 0
 refine AWP.loop (fun s => ∃ j, J s j) m ⟨_, x0, h0, hw, rfl⟩ ?_
 intro s hJ
 have hm : m s = Classical.choose (exists_least hJ) := by simp only [m]; rw [dif_pos hJ]
 obtain ⟨x, h1, h2, h3⟩ := (Classical.choose_spec (exists_least hJ)).1
 refine AWP.weaken h2 ((round x h1).mono ?_)
 intro e s' he
 cases e with
 | normal =>
  obtain ⟨x', g1, g2, g3⟩ := he
  have hJ' : ∃ j, J s' j := ⟨μ x', x', g1, g3, rfl⟩
  refine ⟨hJ', ?_⟩
  have : m s' ≤ μ x' := by
   simp only [m]; rw [dif_pos hJ']
   exact (Classical.choose_spec (exists_least hJ')).2 _ ⟨x', g1, g3, rfl⟩
  rw [hm, ← h3]
  omega
 | _ => exact he
theorem AWP.seqJ {P : Program} {r : Option Nat} {C : Cx} {s : St} {Q : Exit → St → Prop} {x y : Code} {α : Type} (st : α → LS) (inv : α → Prop)
  (h : AWP P r C x s (thn (fun s' => ∃ x, inv x ∧ Weak C s' (st x).st) Q)) (hy : ∀ x, inv x → AWP P r C y (st x).st Q) : AWP P r C (.seq x y) s Q :=
 AWP.seq (h.mono fun e s' he => by
  cases e with
  | normal =>
   obtain ⟨x, g1, g2⟩ := he
   exact AWP.weaken g2 (hy x g1)
  | _ => exact he)

def cutTm (s : LS) : List Nat → List (Nat × V)
 | [] => []
 | t :: ts => (t, s.slot t) :: cutTm s ts
def cutMem (n : Nat) : List (Nat × Blk) → List (Nat × Blk)
 | [] => []
 | x :: xs => if x.1 < n then x :: cutMem n xs else cutMem n xs
def LS.cut (n : Nat) (keep : List Nat) (s : LS) : LS := ⟨cutTm s keep, cutMem n s.mem, n⟩
theorem lget_cutTm (s : LS) : ∀ (ts : List Nat) (t : Nat), lget (cutTm s ts) t = if ts.contains t then some (s.slot t) else none
 | [], t => by simp [cutTm, lget]
 | x :: ts, t => by
  unfold cutTm lget
  by_cases h : x = t
  ·subst h; simp
  ·rw [if_neg h, lget_cutTm s ts t]
   have : t ≠ x := fun e => h e.symm
   simp [this]
theorem lget_cutMem (n : Nat) : ∀ (m : List (Nat × Blk)) (b : Nat), lget (cutMem n m) b = if b < n then lget m b else none
 | [], b => by simp [cutMem, lget]
 | x :: m, b => by
  unfold cutMem
  split
  ·rename_i hx
   simp only [lget]
   by_cases h : x.1 = b
   ·subst h; simp [hx]
   ·simp only [h, if_false]; exact lget_cutMem n m b
  ·rename_i hx
   rw [lget_cutMem n m b]
   split
   ·rename_i hb
    simp only [lget]
    rw [if_neg (by omega)]
   ·rfl
def limsB (n : Nat) : List (Nat × V) → Bool
 | [] => true
 | x :: xs => V.lim n x.2 && limsB n xs
def limsM (n : Nat) : List (Nat × Blk) → Bool
 | [] => true
 | x :: xs => Blk.lim n x.2 && limsM n xs
theorem limsB_ok (n : Nat) : ∀ (l : List (Nat × V)) (t : Nat) (v : V), limsB n l = true → lget l t = some v → V.lim n v = true
 | [], t, v, h, hv => by simp [lget] at hv
 | x :: xs, t, v, h, hv => by
  simp only [limsB, Bool.and_eq_true] at h
  simp only [lget] at hv
  split at hv
  ·cases hv; exact h.1
  ·exact limsB_ok n xs t v h.2 hv
theorem limsM_ok (n : Nat) : ∀ (l : List (Nat × Blk)) (t : Nat) (v : Blk), limsM n l = true → lget l t = some v → Blk.lim n v = true
 | [], t, v, h, hv => by simp [lget] at hv
 | x :: xs, t, v, h, hv => by
  simp only [limsM, Bool.and_eq_true] at h
  simp only [lget] at hv
  split at hv
  ·cases hv; exact h.1
  ·exact limsM_ok n xs t v h.2 hv
theorem Weak.cutL {W0 : World} {S : Nat → Prop} {p : Nat} {F0 : Nat → Nat → Option Value} {N : Nat} {D : List Deferred} {s s' : LS} (n : Nat) (keep : List Nat) (hp : p ≤ n) (he : s.cut n keep = s') (h1 : limsB n s'.tm = true) (h2 : limsM n s'.mem = true) : Weak ⟨W0, S, p, F0, N, D⟩ s.st s'.st := by
 subst he
 refine Weak.cut n hp rfl (fun t => ?_) (fun b => ?_) (fun b k hk => limsM_ok n _ b k h2 hk)
 ·show (LS.slot _ t) = .any ∨ (LS.slot _ t) = s.slot t ∧ V.lim n (LS.slot _ t) = true
  unfold LS.slot
  show (lget (cutTm s keep) t).getD .any = .any ∨ (lget (cutTm s keep) t).getD .any = _ ∧ _
  have := lget_cutTm s keep t
  split at this
  ·right
   rw [this]
   refine ⟨rfl, ?_⟩
   have h3 : V.lim n (s.slot t) = true := limsB_ok n _ t _ h1 this
   have h4 : lget (LS.cut n keep s).tm t = some (s.slot t) := this
   rw [h4]; exact h3
  ·left; rw [this]; rfl
 ·exact lget_cutMem n s.mem b
theorem Weak.nilL {C : Cx} {s : LS} (t te e : Nat) (he : 0 < e) (ht : s.slot t = .sc (.slice none 0 0)) :
  Weak C s.st (⟨lput s.tm t (.sl s.nx 0 e 0 0), lput s.mem s.nx (.arr te e 0 []), s.nx + 1⟩ : LS).st := by
 have := Weak.nilRow (C := C) (s := s.st) t te e he ht
 have e1 : (⟨lput s.tm t (.sl s.nx 0 e 0 0), lput s.mem s.nx (.arr te e 0 []), s.nx + 1⟩ : LS).st = { tm := upd s.st.tm t (.sl s.st.nx 0 e 0 0), mem := upd s.st.mem s.st.nx (some (.arr te e 0 [])), nx := s.st.nx + 1 } := by
  unfold LS.st
  congr 1
  ·funext j
   simp only [LS.slot, lget_lput, upd]
   split <;> rfl
  ·funext j
   simp only [lget_lput, upd]
 rw [e1]; exact this
theorem AWP.nilL {P : Program} {r : Option Nat} {C : Cx} {s : LS} {Q : Exit → St → Prop} {c : Code} (t te e : Nat) (he : 0 < e) (ht : s.slot t = .sc (.slice none 0 0))
  (h : AWP P r C c (⟨lput s.tm t (.sl s.nx 0 e 0 0), lput s.mem s.nx (.arr te e 0 []), s.nx + 1⟩ : LS).st Q) : AWP P r C c s.st Q := AWP.weaken (Weak.nilL t te e he ht) h
theorem AWP.cutL {P : Program} {r : Option Nat} {W0 : World} {S : Nat → Prop} {p : Nat} {F0 : Nat → Nat → Option Value} {N : Nat} {D : List Deferred} {s : LS} {Q : Exit → St → Prop} {c : Code} (n : Nat) (keep : List Nat) (hp : p ≤ n) (h1 : limsB n (s.cut n keep).tm = true) (h2 : limsM n (s.cut n keep).mem = true)
  (h : AWP P r ⟨W0, S, p, F0, N, D⟩ c (s.cut n keep).st Q) : AWP P r ⟨W0, S, p, F0, N, D⟩ c s.st Q := AWP.weaken (Weak.cutL n keep hp rfl h1 h2) h

def cellsAt (cs : List V) (e i : Nat) : List V := (cs.drop (i * e)).take e
theorem cellsAt_flat {α : Type} {f : α → List V} {e : Nat} (hf : ∀ x, (f x).length = e) : ∀ (xs : List α) (i : Nat) (hi : i < xs.length), ((xs.flatMap f).drop (i * e)).take e = f xs[i]
 | [], i, hi => by simp at hi
 | x :: xs, 0, hi => by
  simp only [List.flatMap_cons, Nat.zero_mul, List.drop_zero, List.getElem_cons_zero]
  rw [List.take_append_of_le_length (by rw [hf]; exact Nat.le_refl _), List.take_of_length_le (by rw [hf]; exact Nat.le_refl _)]
 | x :: xs, i + 1, hi => by
  simp only [List.flatMap_cons, List.getElem_cons_succ]
  rw [List.drop_append, hf, List.drop_of_length_le (by rw [hf, Nat.succ_mul]; omega), List.nil_append, Nat.succ_mul, Nat.add_sub_cancel]
  exact cellsAt_flat hf xs i (by simpa using hi)
theorem flat_length {α : Type} {f : α → List V} {e : Nat} (hf : ∀ x, (f x).length = e) : ∀ (xs : List α), (xs.flatMap f).length = xs.length * e
 | [] => by simp
 | x :: xs => by rw [List.flatMap_cons, List.length_append, hf, flat_length hf xs, List.length_cons, Nat.succ_mul, Nat.add_comm]
def row {α : Type} (new : Bool) (e : Nat) (f : α → List V) (xs : List α) : V := .lst new e xs.length (xs.flatMap f)
theorem all_flatMap {α : Type} {f : α → List V} {q : V → Bool} (hf : ∀ x, (f x).all q = true) (xs : List α) : (xs.flatMap f).all q = true := by
 rw [List.all_flatMap]
 simp [hf]
theorem nors_eq : ∀ (vs : List V), V.nors vs = vs.all V.nor
 | [] => by simp [V.nors]
 | v :: vs => by simp [V.nors, nors_eq vs]
theorem wfs_eq : ∀ (vs : List V), V.wfs vs = vs.all V.wf
 | [] => by simp [V.wfs]
 | v :: vs => by simp [V.wfs, wfs_eq vs]
theorem olds_eq : ∀ (vs : List V), V.olds vs = vs.map V.old
 | [] => by simp [V.olds]
 | v :: vs => by simp [V.olds, olds_eq vs]
theorem rens_eq (r : Nat → Nat) : ∀ (vs : List V), V.rens r vs = vs.map (V.ren r)
 | [] => by simp [V.rens]
 | v :: vs => by simp [V.rens, rens_eq r vs]
theorem passeds_eq (r : List Nat) : ∀ (vs : List V), V.passeds r vs = vs.map (V.passed r)
 | [] => by simp [V.passeds]
 | v :: vs => by simp [V.passeds, passeds_eq r vs]
theorem passOKs_eq (r : List Nat) : ∀ (vs : List V), V.passOKs r vs = vs.all (V.passOK r)
 | [] => by simp [V.passOKs]
 | v :: vs => by simp [V.passOKs, passOKs_eq r vs]
theorem refss_eq : ∀ (vs : List V), V.refss vs = vs.flatMap V.refs
 | [] => by simp [V.refss]
 | v :: vs => by simp [V.refss, refss_eq vs]
theorem lims_eq (n : Nat) : ∀ (vs : List V), V.lims n vs = vs.all (V.lim n)
 | [] => by simp [V.lims]
 | v :: vs => by simp [V.lims, lims_eq n vs]
theorem freshs_eq : ∀ (vs : List V), V.freshs vs = vs.all V.fresh
 | [] => by simp [V.freshs]
 | v :: vs => by simp [V.freshs, freshs_eq vs]
def V.plain : V → Bool
 | .sc v => v.flat1
 | _ => false
theorem plain_nor {v : V} (h : v.plain = true) : v.nor = true ∧ v.wf = true ∧ v.leaf = true ∧ v.old = v ∧ v.refs = [] ∧ v.fresh = true ∧ (∀ r, v.ren r = v) ∧ (∀ r, v.passed r = v) ∧ (∀ r, v.passOK r = true) ∧ (∀ n, v.lim n = true) := by
 cases v <;> simp [V.plain] at h
 simp [V.nor, V.wf, V.leaf, h, V.old, V.refs, V.fresh, V.ren, V.passed, V.passOK, V.lim]
structure Plain {α : Type} (e : Nat) (f : α → List V) : Prop where
 len : ∀ x, (f x).length = e
 pl : ∀ x, (f x).all V.plain = true
section
variable {α : Type} {e : Nat} {f : α → List V} (h : Plain e f) (xs : List α)
include h
theorem Plain.mem {v : V} (hv : v ∈ xs.flatMap f) : v.plain = true := by
 obtain ⟨x, _, hx⟩ := List.mem_flatMap.1 hv
 exact List.all_eq_true.1 (h.pl x) v hx
theorem Plain.allOf {q : V → Bool} (hq : ∀ v, v.plain = true → q v = true) : (xs.flatMap f).all q = true := List.all_eq_true.2 fun v hv => hq v (h.mem xs hv)
theorem Plain.nors : V.nors (xs.flatMap f) = true := by rw [nors_eq]; exact h.allOf xs fun v hv => (plain_nor hv).1
theorem Plain.wfs : V.wfs (xs.flatMap f) = true := by rw [wfs_eq]; exact h.allOf xs fun v hv => (plain_nor hv).2.1
theorem Plain.leaf : (xs.flatMap f).all V.leaf = true := h.allOf xs fun v hv => (plain_nor hv).2.2.1
theorem Plain.good : V.good (xs.flatMap f) = true := by unfold V.good; rw [h.nors, h.wfs, h.leaf]; rfl
theorem Plain.mapId {g : V → V} (hg : ∀ v, v.plain = true → g v = v) : (xs.flatMap f).map g = xs.flatMap f := by
 conv => rhs; rw [← List.map_id (xs.flatMap f)]
 exact List.map_congr_left fun v hv => hg v (h.mem xs hv)
theorem Plain.olds : V.olds (xs.flatMap f) = xs.flatMap f := by rw [olds_eq]; exact h.mapId xs fun v hv => (plain_nor hv).2.2.2.1
theorem Plain.freshs : V.freshs (xs.flatMap f) = true := by rw [freshs_eq]; exact h.allOf xs fun v hv => (plain_nor hv).2.2.2.2.2.1
theorem Plain.rens (r : Nat → Nat) : V.rens r (xs.flatMap f) = xs.flatMap f := by rw [rens_eq]; exact h.mapId xs fun v hv => (plain_nor hv).2.2.2.2.2.2.1 r
theorem Plain.passeds (r : List Nat) : V.passeds r (xs.flatMap f) = xs.flatMap f := by rw [passeds_eq]; exact h.mapId xs fun v hv => (plain_nor hv).2.2.2.2.2.2.2.1 r
theorem Plain.passOKs (r : List Nat) : V.passOKs r (xs.flatMap f) = true := by rw [passOKs_eq]; exact h.allOf xs fun v hv => (plain_nor hv).2.2.2.2.2.2.2.2.1 r
theorem Plain.lims (n : Nat) : V.lims n (xs.flatMap f) = true := by rw [lims_eq]; exact h.allOf xs fun v hv => (plain_nor hv).2.2.2.2.2.2.2.2.2 n
theorem Plain.refss : V.refss (xs.flatMap f) = [] := by
 rw [refss_eq]
 refine List.flatMap_eq_nil_iff.2 fun v hv => (plain_nor (h.mem xs hv)).2.2.2.2.1
theorem Plain.at (i : Nat) (hi : i < xs.length) : ((xs.flatMap f).drop (i * e)).take e = f xs[i] := cellsAt_flat h.len xs i hi
theorem Plain.takeAll : (xs.flatMap f).take (xs.length * e) = xs.flatMap f := List.take_of_length_le (by rw [flat_length h.len xs]; exact Nat.le_refl _)
theorem Plain.length : (xs.flatMap f).length = xs.length * e := flat_length h.len xs
end
theorem range_0 : List.range 0 = [] := rfl
theorem range_1 : List.range 1 = [0] := rfl
theorem range_2 : List.range 2 = [0, 1] := rfl
theorem range_3 : List.range 3 = [0, 1, 2] := rfl
end Go.Abs
namespace Go.Abs
def callOf : Oper → Option FuncId
 | { op := .call { callee := .value (.func f), .. }, .. } => some f
 | _ => none
def callIdxA (fids : List FuncId) : Nat → List Oper → List Nat
 | _, [] => []
 | i, o :: l => match callOf o with
  | some f => if fids.contains f then i :: callIdxA fids (i + 1) l else callIdxA fids (i + 1) l
  | none => callIdxA fids (i + 1) l
def tmapOf (l : List Oper) (s : LS) : List (Option (List Nat)) := l.map fun o =>
 match o.op with
 | .load _ (.tmp t) | .store _ (.tmp t) _ => if (l.any fun o' => o'.dst == some t) then none else some (refs1 (s.slot t))
 | _ => none
def callIdx (fids : List FuncId) (i : Nat) (l : List Oper) : List Nat := callIdxA fids i l
end Go.Abs
namespace Go.Abs
section
variable {P : Program} {r : Option Nat} {W0 : World} {S : Nat → Prop} {p : Nat} {F0 : Nat → Nat → Option Value} {N : Nat} {D : List Deferred} {s : LS} {Q : Exit → St → Prop} {id : Nat} {l : List Oper}
theorem AWP.drawC (fids : List FuncId) (hm : P.follows .mixedOrders = true) (hok : okDraw l.toArray (Region.before l.toArray).toList ⟨callIdx fids 0 l, tmapOf l s⟩ = true)
  (h : ∀ ms kl, ms = (Region.before l.toArray).toList → kl = ⟨callIdx fids 0 l, tmapOf l s⟩ → RunK P N p l.toArray s.nx (some ms) kl 0 l { s with nx := s.nx + 4 * l.length } fun s' => Q .normal s'.st) : AWP P r ⟨W0, S, p, F0, N, D⟩ (.region id l.toArray true) s.st Q :=
 AWP.drawK _ _ hm hok (h _ _ rfl rfl)
end
end Go.Abs
namespace Go.Abs
theorem beqT (b : Bool) : (b == true) = b := by cases b <;> rfl
theorem beqF (b : Bool) : (b == false) = !b := by cases b <;> rfl
end Go.Abs
namespace Go.Abs
def LoopEnd {α : Type} (C : Cx) (st : α → LS) (inv : α → Prop) (μ : α → Nat) (m : Nat) (s' : St) : Prop := ∃ x', inv x' ∧ μ x' < m ∧ Weak C s' (st x').st
theorem LoopEnd.here {α : Type} {C : Cx} {st : α → LS} {inv : α → Prop} {μ : α → Nat} {m : Nat} {s' : St} (h : LoopEnd C st inv μ m s') : LoopEnd C st inv μ m s' := h
@[congr] theorem LoopEnd.cg {α : Type} {C : Cx} {st : α → LS} {inv : α → Prop} {μ : α → Nat} {m : Nat} {s s' : St} (h : s = s') : LoopEnd C st inv μ m s = LoopEnd C st inv μ m s' := by subst h; rfl
theorem AWP.loopK {P : Program} {r : Option Nat} {W0 : World} {S : Nat → Prop} {p : Nat} {F0 : Nat → Nat → Option Value} {N : Nat} {D : List Deferred} {s : LS} {Q : Exit → St → Prop} {c : Code} {α : Type} (st : α → LS) (inv : α → Prop) (μ : α → Nat) (n : Nat) (keep : List Nat) (x0 : α) (h0 : inv x0)
  (hp : p ≤ n) (he : s.cut n keep = st x0) (h1 : limsB n (st x0).tm = true) (h2 : limsM n (st x0).mem = true)
  (round : ∀ x, inv x → AWP P r ⟨W0, S, p, F0, N, D⟩ c (st x).st (thn (LoopEnd ⟨W0, S, p, F0, N, D⟩ st inv μ (μ x)) Q)) : AWP P r ⟨W0, S, p, F0, N, D⟩ (.loop c) s.st Q :=
 AWP.loopW st inv μ x0 h0 (Weak.cutL n keep hp he h1 h2) round
theorem LoopEnd.cut {W0 : World} {S : Nat → Prop} {p : Nat} {F0 : Nat → Nat → Option Value} {N : Nat} {D : List Deferred} {α : Type} {st : α → LS} {inv : α → Prop} {μ : α → Nat} {m : Nat} {s : LS} (n : Nat) (keep : List Nat) (x' : α) (hi : inv x') (hμ : μ x' < m) (hp : p ≤ n) (he : s.cut n keep = st x') (h1 : limsB n (st x').tm = true) (h2 : limsM n (st x').mem = true) : LoopEnd ⟨W0, S, p, F0, N, D⟩ st inv μ m s.st :=
 ⟨x', hi, hμ, Weak.cutL n keep hp he h1 h2⟩
end Go.Abs
namespace Go.Abs
theorem nors_app (a b : List V) : V.nors (a ++ b) = (V.nors a && V.nors b) := by simp [nors_eq]
theorem wfs_app (a b : List V) : V.wfs (a ++ b) = (V.wfs a && V.wfs b) := by simp [wfs_eq]
theorem olds_app (a b : List V) : V.olds (a ++ b) = V.olds a ++ V.olds b := by simp [olds_eq]
theorem rens_app (r : Nat → Nat) (a b : List V) : V.rens r (a ++ b) = V.rens r a ++ V.rens r b := by simp [rens_eq]
theorem passeds_app (r : List Nat) (a b : List V) : V.passeds r (a ++ b) = V.passeds r a ++ V.passeds r b := by simp [passeds_eq]
theorem passOKs_app (r : List Nat) (a b : List V) : V.passOKs r (a ++ b) = (V.passOKs r a && V.passOKs r b) := by simp [passOKs_eq]
theorem refss_app (a b : List V) : V.refss (a ++ b) = V.refss a ++ V.refss b := by simp [refss_eq]
theorem lims_app (n : Nat) (a b : List V) : V.lims n (a ++ b) = (V.lims n a && V.lims n b) := by simp [lims_eq]
theorem freshs_app (a b : List V) : V.freshs (a ++ b) = (V.freshs a && V.freshs b) := by simp [freshs_eq]
end Go.Abs
namespace Go.Abs
section
variable {P : Program} {N p : Nat} {ops : Array Oper} {base : Nat} {masks : Option (List Nat)} {kl : Kl} {i : Nat} {l : List Oper} {s : LS} {Q : LS → Prop} {o : Oper}
theorem RunK.callA {f : Operand} {args : Array Operand} {ts : Array TypeId} {fid : FuncId} (hop : o.op = .call { callee := .value f, args, argTypes := ts }) (hcb : callable P fid = true)
  (h : dstOK N o.dst = true ∧ wantedL ops s o = some true ∧ onFn (s.ev f) fid fun caps => lchk base masks kl i (nubA [] (V.refss (args.toList.map s.ev ++ caps))) = true ∧ lendsK (lget s.mem) (nubA [] (V.refss (args.toList.map s.ev ++ caps))) (args.toList.map s.ev ++ caps) fun args' =>
   ∃ res, FnP P fid args' res ∧ (V.fresh res = true ∨ nubA [] (V.refss (args.toList.map s.ev ++ caps)) = []) ∧ RunK P N p ops base masks kl (i + 1) l (s.app o.dst res []) Q) : RunK P N p ops base masks kl i (o :: l) s Q := by
 obtain ⟨h1, h2, h4⟩ := h
 unfold onFn at h4
 split at h4
 ·rename_i f' caps hf
  obtain ⟨rfl, h3, h4⟩ := h4
  obtain ⟨args', h5, res, h6, h7, h8⟩ := lendsK_ok _ _ h4
  exact RunK.call _ h6 hop h1 h2 hf hcb h5 h7 h3 h8
 ·exact h4.elim
end
end Go.Abs
namespace Go.Abs
open Go.IntWalk
open Go.RowKit (wrap64)
set_option linter.unusedVariables false

abbrev i64 (n : Int) : V := .sc (.int .i64 n)
abbrev bl (b : Bool) : V := .sc (.bool b)
theorem wrap64_bd (n : Int) : -9223372036854775808 ≤ wrap64 n ∧ wrap64 n ≤ 9223372036854775807 := by unfold wrap64; omega
abbrev inI (z : Int) : Prop := -9223372036854775808 ≤ z ∧ z ≤ 9223372036854775807

structure Bd where
 lo : Int
 hi : Int
 u : Bool
 deriving DecidableEq, Inhabited
theorem Bd.eta (b : Bd) : (⟨b.lo, b.hi, b.u⟩ : Bd) = b := rfl
abbrev mxN : Int := 1152921504606846976
def Bd.cells (b : Bd) : List V := [i64 b.lo, i64 b.hi, bl b.u]
def Bd.v (b : Bd) : V := .agg b.cells
def Bd.chk (b : Bd) : Int :=
 if b.u = true ∧ (b.lo ≠ 0 ∨ b.hi ≠ 0) then 3 else if mn2 b.lo b.hi < -1152921504606846976 ∨ 1152921504606846976 < mx2 b.lo b.hi then 4 else if b.hi < b.lo then 11 else 0
structure Bd.ok (b : Bd) : Prop where
 u0 : b.u = true → b.lo = 0 ∧ b.hi = 0
 h1 : -1152921504606846976 ≤ b.lo
 h2 : b.lo ≤ b.hi
 h3 : b.hi ≤ 1152921504606846976
theorem Bd.chk_ok {b : Bd} : b.chk = 0 ↔ b.ok := by
 obtain ⟨lo, hi, u⟩ := b
 unfold Bd.chk mn2 mx2
 constructor
 ·intro h
  refine ⟨fun hu => ?_, ?_, ?_, ?_⟩ <;> (revert h; cases u <;> simp_all <;> (repeat' split) <;> omega)
 ·rintro ⟨h1, h2, h3, h4⟩
  cases u <;> simp_all <;> (repeat' split) <;> omega
def Bd.none : Bd := ⟨0, 0, true⟩
def Bd.norm (b : Bd) : Bd := if b.chk = 0 then b else .none
theorem Bd.norm_of {b : Bd} (h : b.ok) : b.norm = b := by unfold Bd.norm; rw [if_pos (Bd.chk_ok.2 h)]
theorem Bd.none_ok : Bd.none.ok := ⟨fun _ => ⟨rfl, rfl⟩, by decide, by decide, by decide⟩
theorem Bd.norm_ok (b : Bd) : b.norm.ok := by
 unfold Bd.norm; split
 ·rename_i h; exact Bd.chk_ok.1 h
 ·exact Bd.none_ok
def Bd.of (lo hi : Int) : Bd := Bd.norm ⟨lo, hi, false⟩
def Bd.vague (a b : Bd) : Bool := a.norm.u || b.norm.u
def Bd.add (a b : Bd) : Bd := if Bd.vague a b = true then .none else .of (a.lo + b.lo) (a.hi + b.hi)
def Bd.neg (b : Bd) : Bd := ⟨-b.norm.hi, -b.norm.lo, b.norm.u⟩
def Bd.sub (a b : Bd) : Bd := a.add b.neg
def Bd.min (a b : Bd) : Bd := if Bd.vague a b = true then .none else .of (mn2 a.lo b.lo) (mn2 a.hi b.hi)
def Bd.max (a b : Bd) : Bd := (a.neg.min b.neg).neg
def Bd.has (b : Bd) (v : Int) : Bool := b.norm.u || (decide (b.lo ≤ v) && decide (v ≤ b.hi))
def Bd.meet (a b : Bd) : Bd × Bool :=
 if a.norm.u = true then (b.norm, true) else if b.norm.u = true then (a.norm, true) else
 if mn2 a.norm.hi b.norm.hi < mx2 a.norm.lo b.norm.lo then (⟨0, 0, false⟩, false) else (Bd.of (mx2 a.norm.lo b.norm.lo) (mn2 a.norm.hi b.norm.hi), true)
theorem Bd.vague_spec {a b : Bd} (h : Bd.vague a b = false) : a.ok ∧ b.ok ∧ a.u = false ∧ b.u = false := by
 unfold Bd.vague at h
 simp only [Bool.or_eq_false_iff] at h
 have key : ∀ c : Bd, c.norm.u = false → c.ok ∧ c.u = false := fun c hc => by
  unfold Bd.norm at hc
  split at hc
  ·rename_i h; exact ⟨Bd.chk_ok.1 h, hc⟩
  ·cases hc
 exact ⟨(key a h.1).1, (key b h.2).1, (key a h.1).2, (key b h.2).2⟩
theorem Bd.vague_of {a b : Bd} (ha : a.ok) (hb : b.ok) : Bd.vague a b = (a.u || b.u) := by unfold Bd.vague; rw [Bd.norm_of ha, Bd.norm_of hb]
theorem Bd.neg_ok (b : Bd) : b.neg.ok := by
 have h := b.norm_ok
 obtain ⟨h0, h1, h2, h3⟩ := h
 unfold Bd.neg
 refine ⟨fun hu => ?_, ?_, ?_, ?_⟩ <;> simp only [] at *
 ·have := h0 hu; omega
 ·omega
 ·omega
 ·omega
theorem Bd.add_ok (a b : Bd) : (a.add b).ok := by
 unfold Bd.add; split
 ·exact Bd.none_ok
 ·exact Bd.norm_ok _
theorem Bd.sub_ok (a b : Bd) : (a.sub b).ok := Bd.add_ok _ _
theorem pBd : Plain 3 Bd.cells := ⟨fun _ => rfl, fun _ => rfl⟩

def below (x n : Int) : Int := if n < 1 then 0 else x % n
theorem below_range (x n : Int) (h : 1 ≤ n) : 0 ≤ below x n ∧ below x n < n := by
 unfold below; rw [if_neg (by omega)]; exact ⟨Int.emod_nonneg _ (by omega), Int.emod_lt_of_pos _ (by omega)⟩
abbrev ints (zs : List Int) : List V := zs.flatMap fun z => [i64 z]
theorem pInts : Plain 1 (fun z : Int => [i64 z]) := ⟨fun _ => rfl, fun _ => rfl⟩
abbrev stm (zs : List Int) (at_ : Int) : Blk := .box [.lst false 1 zs.length (ints zs), i64 at_]
def rawN (zs : List Int) (a : Int) : Int :=
 if zs.length = 0 then wrap64 ((a + 1) * 7919) else
  wrap64 (below (zs.getD (a.tmod zs.length).toNat 0) 1073741824 + wrap64 (a.tdiv zs.length * (7919 + a.tmod zs.length)))
theorem rawN_bd (zs : List Int) (a : Int) : inI (rawN zs a) := by unfold rawN; split <;> exact wrap64_bd _
def nexN (zs : List Int) (a n : Int) : Int := below (rawN zs a) n
theorem nexN_bd (zs : List Int) (a n : Int) (h : 1 ≤ n) : 0 ≤ nexN zs a n ∧ nexN zs a n < n := below_range _ _ h
def ranN (zs : List Int) (a lo hi : Int) : Int := lo + nexN zs a (hi - lo + 1)
theorem ranN_bd (zs : List Int) (a lo hi : Int) (h : lo ≤ hi) : lo ≤ ranN zs a lo hi ∧ ranN zs a lo hi ≤ hi := by
 have := nexN_bd zs a (hi - lo + 1) (by omega)
 unfold ranN; omega
structure okS (zs : List Int) (a : Int) : Prop where
 z : ∀ z ∈ zs, inI z
 l : zs.length < 140737488355328
 a0 : 0 ≤ a
 a1 : a < 4611686018427387904
end Go.Abs
namespace Go.Abs
theorem roomy_ok {n b : Nat} (h1 : n ≤ 1048576) (h2 : b ≤ 65536) : roomy n b = true := by
 unfold roomy
 have : n * b ≤ 1048576 * 65536 := Nat.mul_le_mul h1 h2
 simp; omega
end Go.Abs
namespace Go.Abs
set_option linter.unusedVariables false
structure Celled {α : Type} (e : Nat) (f : α → List V) : Prop where
 len : ∀ x, (f x).length = e
 no : ∀ x, V.nors (f x) = true
 wf : ∀ x, V.wfs (f x) = true
 le : ∀ x, (f x).all V.leaf = true
 fr : ∀ x, V.freshs (f x) = true
 li : ∀ n x, V.lims n (f x) = true
section
variable {α : Type} {e : Nat} {f : α → List V} (h : Celled e f) (xs : List α)
include h
theorem Celled.nors : V.nors (xs.flatMap f) = true := by rw [nors_eq]; exact all_flatMap (fun x => by rw [← nors_eq]; exact h.no x) xs
theorem Celled.wfs : V.wfs (xs.flatMap f) = true := by rw [wfs_eq]; exact all_flatMap (fun x => by rw [← wfs_eq]; exact h.wf x) xs
theorem Celled.leaf : (xs.flatMap f).all V.leaf = true := all_flatMap h.le xs
theorem Celled.freshs : V.freshs (xs.flatMap f) = true := by rw [freshs_eq]; exact all_flatMap (fun x => by rw [← freshs_eq]; exact h.fr x) xs
theorem Celled.lims (n : Nat) : V.lims n (xs.flatMap f) = true := by rw [lims_eq]; exact all_flatMap (fun x => by rw [← lims_eq]; exact h.li n x) xs
theorem Celled.length : (xs.flatMap f).length = xs.length * e := flat_length h.len xs
theorem Celled.takeAll : (xs.flatMap f).take (xs.length * e) = xs.flatMap f := List.take_of_length_le (by rw [flat_length h.len xs]; exact Nat.le_refl _)
theorem Celled.at (i : Nat) (hi : i < xs.length) : ((xs.flatMap f).drop (i * e)).take e = f xs[i] := cellsAt_flat h.len xs i hi
end
end Go.Abs
namespace Go.Abs
inductive Step (S O : Type) where
 | next (s : S)
 | done (o : O)
 deriving DecidableEq
def iterF {S O : Type} (body : S → Option (Step S O)) : Nat → S → Option O
 | 0, _ => none
 | k + 1, s => match body s with
  | none => none
  | some (.next s') => iterF body k s'
  | some (.done o) => some o
def loopF {S O : Type} (body : S → Option (Step S O)) (s : S) : Option O := iterF body 10000000000000000000000000000000000000000 s
def seqF {S O : Type} (g : Option (Step S O)) (k : S → Option O) : Option O :=
 match g with
 | none => none
 | some (.next s) => k s
 | some (.done o) => some o
def letF {α β : Type} (a : α) (f : α → β) : β := f a
theorem letE {α β : Type} {a : α} {f : α → β} {r : β} (h : letF a f = r) : ∃ x, a = x ∧ f x = r := ⟨a, rfl, h⟩
theorem chkE {α : Type} {c : Prop} [Decidable c] {x : Option α} {r : α} (h : (if c then x else none) = some r) : c ∧ x = some r := by
 split at h
 ·exact ⟨‹_›, h⟩
 ·cases h
theorem bindE {α β : Type} {x : Option α} {f : α → Option β} {r : β} (h : x.bind f = some r) : ∃ y, x = some y ∧ f y = some r := by
 cases x with
 | none => cases h
 | some y => exact ⟨y, rfl, h⟩
theorem seqE {S O : Type} {g : Option (Step S O)} {k : S → Option O} {r : O} (h : seqF g k = some r) : ∃ y, g = some y ∧ (∀ s, y = .next s → k s = some r) ∧ ∀ o, y = .done o → o = r := by
 cases g with
 | none => cases h
 | some y =>
  refine ⟨y, rfl, fun s e => ?_, fun o e => ?_⟩
  ·subst e; exact h
  ·subst e; exact Option.some.inj h
theorem loopF_ok {S O : Type} {body : S → Option (Step S O)} (I : S → Prop) (μ : S → Nat) (Post : O → Prop)
  (hB : ∀ s, I s → ∃ t, body s = some t ∧ (∀ s', t = .next s' → I s' ∧ μ s' < μ s) ∧ ∀ o, t = .done o → Post o) {s : S} (h : I s) (hμ : μ s < 10000000000000000000000000000000000000000) : ∃ o, loopF body s = some o ∧ Post o := by
 have key : ∀ k s, I s → μ s < k → ∃ o, iterF body k s = some o ∧ Post o := by
  intro k
  induction k with
  | zero => intro s _ h; omega
  | succ k ih =>
   intro s hs hk
   obtain ⟨t, h1, h2, h3⟩ := hB s hs
   unfold iterF
   rw [h1]
   cases t with
   | next s' => obtain ⟨h4, h5⟩ := h2 s' rfl; exact ih s' h4 (by omega)
   | done o => exact ⟨o, rfl, h3 o rfl⟩
 exact key _ s h hμ
end Go.Abs
