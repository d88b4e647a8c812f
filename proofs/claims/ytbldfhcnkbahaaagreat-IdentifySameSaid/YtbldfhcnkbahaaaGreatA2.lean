/- Laws about heaps and calls that the walks use. Conditions: as each theorem states them. -/
import Derived.Test.YtbldfhcnkbahaaaGreatA1
import Derived.IntWalk
namespace Go.Abs
set_option linter.unusedVariables false
set_option linter.unusedSimpArgs false

def Weak (C : Cx) (s s' : St) : Prop := ∀ (E : Env) (a : Act) (W : World), Inv C E s a W → ∃ E', E.lep C.p E' ∧ Inv C E' s' a W
theorem AWP.weaken {P : Program} {r : Option Nat} {C : Cx} {s s' : St} {Q : Exit → St → Prop} {c : Code} (hw : Weak C s s') (h : AWP P r C c s' Q) : AWP P r C c s Q := fun E a W hI => by
 obtain ⟨E', h1, h2⟩ := hw E a W hI
 exact wpIn_mono (h E' a W h2) fun e a' W' ⟨E2, s2, g1, g2, g3⟩ => ⟨E2, s2, Env.lep_trans h1 g1, g2, g3⟩
theorem Weak.refl (C : Cx) (s : St) : Weak C s s := fun E a W h => ⟨E, Env.lep_refl _ _, h⟩
mutual
def V.lim (n : Nat) : V → Bool
 | .sc _ => true
 | .agg cs => V.lims n cs
 | .tup cs => V.lims n cs
 | .lst _ _ _ cs => V.lims n cs
 | .rp cs => V.lims n cs
 | .sl b .. => b < n
 | .ptr b .. => b < n
 | .fn _ cs => V.lims n cs
 | .any => true
def V.lims (n : Nat) : List V → Bool
 | [] => true
 | x :: xs => V.lim n x && V.lims n xs
end
mutual
theorem RL.lim {E E2 : Env} {n : Nat} (hn : E2.n0 ≤ E.n0) (hF : ∀ B o d, E.F B o = some d → E2.F B o = some d) (hσ : ∀ b, b < n → E2.σ b = E.σ b) : ∀ (v : V) (c : Value), V.lim n v = true → RL E v c → RL E2 v c
 | .sc v, c, f, r => by simpa only [RL] using r
 | .agg cs, c, f, r => by
  simp only [RL] at r ⊢
  simp only [V.lim] at f
  obtain ⟨ds, rfl, r1, r2⟩ := r
  exact ⟨ds, rfl, RLs.lim hn hF hσ cs ds f r1, r2⟩
 | .tup cs, c, f, r => by
  simp only [RL] at r ⊢
  simp only [V.lim] at f
  obtain ⟨ds, rfl, r1⟩ := r
  exact ⟨ds, rfl, RLs.lim hn hF hσ cs ds f r1⟩
 | .lst new e m cs, c, f, r => by
  simp only [RL] at r ⊢
  simp only [V.lim] at f
  obtain ⟨a, cap, rfl, r1, r2, r3, r4⟩ := r
  refine ⟨a, cap, rfl, r1, r2, r3, ?_⟩
  rcases r4 with r4 | ⟨B, o, rfl, r5, r6⟩
  ·exact .inl r4
  ·exact .inr ⟨B, o, rfl, fun q => Nat.le_trans hn (r5 q), RF.lim hn hF hσ B cs o f r6⟩
 | .rp cs, c, f, r => by
  simp only [RL] at r ⊢
  simp only [V.lim] at f
  obtain ⟨B, o, rfl, r1, r2⟩ := r
  exact ⟨B, o, rfl, RF.lim hn hF hσ B cs o f r1, r2⟩
 | .sl b ver e off len, c, f, r => by
  simp only [V.lim, decide_eq_true_eq] at f
  simp only [RL] at r ⊢
  rw [hσ b f]; exact r
 | .ptr b ver o, c, f, r => by
  simp only [V.lim, decide_eq_true_eq] at f
  simp only [RL] at r ⊢
  rw [hσ b f]; exact r
 | .fn g cs, c, f, r => by
  simp only [RL] at r ⊢
  simp only [V.lim] at f
  obtain ⟨ds, rfl, r1⟩ := r
  exact ⟨ds, rfl, RLs.lim hn hF hσ cs ds f r1⟩
 | .any, c, f, r => by simp only [RL]
theorem RLs.lim {E E2 : Env} {n : Nat} (hn : E2.n0 ≤ E.n0) (hF : ∀ B o d, E.F B o = some d → E2.F B o = some d) (hσ : ∀ b, b < n → E2.σ b = E.σ b) : ∀ (vs : List V) (ds : List Value), V.lims n vs = true → RLs E vs ds → RLs E2 vs ds
 | [], ds, f, r => by simpa only [RLs] using r
 | x :: xs, ds, f, r => by
  simp only [RLs] at r ⊢
  simp only [V.lims, Bool.and_eq_true] at f
  obtain ⟨d, ds', rfl, r1, r2⟩ := r
  exact ⟨d, ds', rfl, RL.lim hn hF hσ x d f.1 r1, RLs.lim hn hF hσ xs ds' f.2 r2⟩
theorem RF.lim {E E2 : Env} {n : Nat} (hn : E2.n0 ≤ E.n0) (hF : ∀ B o d, E.F B o = some d → E2.F B o = some d) (hσ : ∀ b, b < n → E2.σ b = E.σ b) (B : Nat) : ∀ (vs : List V) (o : Nat), V.lims n vs = true → RF E B o vs → RF E2 B o vs
 | [], o, f, r => by simp only [RF]
 | x :: xs, o, f, r => by
  simp only [RF] at r ⊢
  simp only [V.lims, Bool.and_eq_true] at f
  obtain ⟨⟨d, r1, r2⟩, r3⟩ := r
  exact ⟨⟨d, hF B o d r1, RL.lim hn hF hσ x d f.1 r2⟩, RF.lim hn hF hσ B xs (o + 1) f.2 r3⟩
end

theorem InvM.nilRow {C : Cx} {E : Env} {mem : Nat → Option Blk} {nx : Nat} {W : World} (h : InvM C E mem nx W) (te e : Nat) (he : 0 < e) :
  ∃ E', E.le E' ∧ InvM C E' (upd mem nx (some (.arr te e 0 []))) (nx + 1) W ∧ RL E' (.sl nx 0 e 0 0) (.slice none 0 0) := by
 have hid : mem nx = none := by
  cases hm : mem nx with
  | none => rfl
  | some k => have := h.nx nx k hm; omega
 have hs : ∀ J, E.σ nx = some J → J.le ⟨false, none, e, 0, 0⟩ := fun J hJ => by
  obtain ⟨k', hk'⟩ := h.dom nx J hJ
  rw [hid] at hk'; cases hk'
 have put := h.put (W' := W) nx ⟨false, none, e, 0, 0⟩ (.arr te e 0 []) none hs rfl (fun B hB => by cases hB) ⟨rfl, rfl, rfl, Nat.le_refl _, fun _ _ _ => rfl⟩ (fun B hB => by cases hB)
  ⟨rfl, rfl, rfl, he, rfl, ⟨0, by simp⟩, .inl ⟨rfl, rfl⟩⟩
 rw [Nat.max_eq_right (by omega)] at put
 refine ⟨_, Env.put_le hs, put, ?_⟩
 simp only [RL]
 exact ⟨none, 0, rfl, Nat.le_refl _, he, .inl ⟨rfl, by simp⟩, ⟨false, none, e, 0, 0⟩, by simp [Env.put, upd], .inr ⟨Nat.le_refl _, fun _ => ⟨rfl, .inl ⟨rfl, rfl⟩⟩⟩⟩
theorem Weak.nilRow {C : Cx} {s : St} (t te e : Nat) (he : 0 < e) (ht : s.tm t = .sc (.slice none 0 0)) :
  Weak C s { tm := upd s.tm t (.sl s.nx 0 e 0 0), mem := upd s.mem s.nx (some (.arr te e 0 [])), nx := s.nx + 1 } := fun E a W h => by
 obtain ⟨E', h1, h2, h3⟩ := h.m.nilRow te e he
 refine ⟨E', h1.lep, h2, fun t' => ?_, h.size, h.defs⟩
 show RL E' (upd s.tm t (.sl s.nx 0 e 0 0) t') _
 unfold upd
 split
 ·rename_i e'
  subst e'
  have := h.tms t'
  rw [ht] at this
  simp only [RL] at this
  rw [this]; exact h3
 ·exact RL.mono h1 _ _ (h.tms t')
end Go.Abs
namespace Go.Abs
set_option linter.unusedVariables false
set_option linter.unusedSimpArgs false

def resV (P : Program) (s : St) : ResultVar → Option V
 | .tmp t => some (s.tm t)
 | .cell a t => (fxLoad P t (s.tm a) s.mem).map (·.val)
def resVs (P : Program) (s : St) : List ResultVar → Option (List V)
 | [] => some []
 | r :: rs => match resV P s r, resVs P s rs with
  | some v, some vs => some (v :: vs)
  | _, _ => none
def resOf (P : Program) (s : St) (rs : List ResultVar) : Option V :=
 match resVs P s rs with
 | some [v] => some v
 | some vs => some (.tup vs)
 | none => none

def resSem (a : Act) : ResultVar → Sem Value
 | .tmp t => pure (a.tmps.getD t undef)
 | .cell b t => do loadVar t (← asAddr (a.tmps.getD b undef))
theorem resV_ok {P : Program} {C : Cx} {E : Env} {s : St} {a : Act} {W : World} (h : Inv C E s a W) {x : ResultVar} {v : V} (hv : resV P s x = some v) :
  ∃ c, (resSem a x).run P W = .ok c W ∧ RL E v c := by
 cases x with
 | tmp t => simp [resV] at hv; subst hv; exact ⟨_, by simp [resSem], h.tms t⟩
 | cell b t =>
  simp only [resV] at hv
  cases hf : fxLoad P t (s.tm b) s.mem with
  | none => rw [hf] at hv; cases hv
  | some fx =>
   rw [hf] at hv; simp at hv; subst hv
   obtain ⟨c, W', E', r1, r2, r3, r4⟩ := load_ok h.m (h.tms b) hf
   -- a load leaves the world as it is
   have hp : ∃ ad, a.tmps.getD b undef = .pointer (some ad) := by
    have ht := h.tms b
    unfold fxLoad at hf
    split at hf
    ·split at hf
     ·rename_i b' ver o hb
      rw [hb] at ht; simp only [RL] at ht
      obtain ⟨B, e, _⟩ := ht; exact ⟨_, e⟩
     ·rename_i cs hb
      rw [hb] at ht; simp only [RL] at ht
      obtain ⟨B, o, e, _⟩ := ht; exact ⟨_, e⟩
     ·cases hf
    ·cases hf
   obtain ⟨ad, had⟩ := hp
   have hrun : ∃ c, (loadVar t ad).run P W = .ok c W ∧ RL E fx.val c := by
    have ho := load_ok h.m (h.tms b) hf
    rw [had] at ho
    unfold fxLoad at hf
    split at hf
    ·rename_i ti hti
     split at hf
     ·rename_i b' ver o hb
      split at hf
      ·rename_i k hk
       split at hf
       ·rename_i hver
        cases hl : loadV ti (k.cells.drop o) with
        | none => rw [hl] at hf; cases hf
        | some v =>
         rw [hl] at hf; cases hf
         have ht := h.tms b
         rw [hb] at ht
         obtain ⟨I, B, cur, t', g1, g2, g3, g4, e, g5, g6, g7, g8, g9⟩ := h.m.at_ ht hk hver
         rw [had] at e; cases e
         by_cases hne : k.cells = []
         ·rw [hne] at hl
          unfold loadV at hl
          simp at hl
          obtain ⟨hz1, hz2, rfl⟩ := hl
          exact ⟨.agg #[], by simp [loadVar, run_isAgg hti, hz1, run_sizeOf hti, hz2, Result.andThen, loadCells, loadCellsFrom], by simp only [RL]; exact ⟨[], rfl, by simp [RLs], by simp⟩⟩
         ·rcases g8 with g8 | g8
          ·exact absurd g8 hne
          exact run_loadVar (P := P) (E := E) hti (cellsAt_heap (g5 hne) o k.cells.length) (g8.drop o) (all_drop g7 o) hl
       ·cases hf
      ·cases hf
     ·rename_i cs hb
      cases hl : loadV ti cs with
      | none => rw [hl] at hf; cases hf
      | some v =>
       rw [hl] at hf; cases hf
       have ht := h.tms b
       rw [hb] at ht; simp only [RL] at ht
       obtain ⟨B, o, e, g1, g2⟩ := ht
       rw [had] at e; cases e
       obtain ⟨ds, g3, g4⟩ := RF.list cs o g1
       exact run_loadVar (P := P) (E := E) (W := W) hti (B := B) (o := o) (fun j d hj => h.m.frz _ _ _ (g4 j d hj)) g3 g2 hl
     ·cases hf
    ·cases hf
   obtain ⟨c', q1, q2⟩ := hrun
   exact ⟨c', by simp [resSem, had, asAddr, Result.andThen, q1], q2⟩
theorem resVs_ok {P : Program} {C : Cx} {E : Env} {s : St} {a : Act} {W : World} (h : Inv C E s a W) : ∀ {rs : List ResultVar} {vs : List V}, resVs P s rs = some vs →
  ∃ cs, (rs.mapM (resSem a)).run P W = .ok cs W ∧ RLs E vs cs
 | [], vs, hv => by simp [resVs] at hv; subst hv; exact ⟨[], by simp, by simp [RLs]⟩
 | x :: rs, vs, hv => by
  simp only [resVs] at hv
  split at hv
  ·rename_i v vs' h1 h2
   cases hv
   obtain ⟨c, c1, c2⟩ := resV_ok h h1
   obtain ⟨cs, d1, d2⟩ := resVs_ok h h2
   exact ⟨c :: cs, by simp only [List.mapM_cons, Sem.run_bind, c1, Result.andThen, d1, Sem.run_pure], by simp only [RLs]; exact ⟨c, cs, rfl, c2, d2⟩⟩
  ·cases hv
theorem resOf_ok {P : Program} {C : Cx} {E : Env} {s : St} {a : Act} {W : World} (h : Inv C E s a W) {fn : Func} {v : V} (hv : resOf P s fn.results.toList = some v) : ∃ c, (results fn a.tmps).run P W = .ok c W ∧ RL E v c := by
 unfold resOf at hv
 have run : ∀ {vs : List V} {cs : List Value}, RLs E vs cs → (fn.results.toList.mapM (resSem a)).run P W = .ok cs W →
   (results fn a.tmps).run P W = .ok (if h : cs.toArray.size = 1 then cs.toArray[0] else .tuple cs.toArray) W := by
  intro vs cs h1 h2
  have e : results fn a.tmps = (do let vs ← fn.results.mapM (resSem a); pure (if h : vs.size = 1 then vs[0] else .tuple vs)) := by
   unfold results
   congr 2
  rw [e, Array.mapM_eq_mapM_toList]
  simp only [Sem.run_bind, Sem.run_map, bind_map_left]
  rw [h2]
  rfl
 split at hv
 ·rename_i v' hvs
  cases hv
  obtain ⟨cs, c1, c2⟩ := resVs_ok h hvs
  have c3 := c2
  simp only [RLs] at c2
  obtain ⟨d, ds, rfl, d1, rfl⟩ := c2
  exact ⟨d, by rw [run c3 c1]; rfl, d1⟩
 ·rename_i vs hne hvs
  cases hv
  obtain ⟨cs, c1, c2⟩ := resVs_ok h hvs
  refine ⟨.tuple cs.toArray, ?_, by simp only [RL]; exact ⟨cs, rfl, c2⟩⟩
  rw [run c2 c1]
  have : ¬ cs.toArray.size = 1 := by
   intro e
   have hl := RLs.length _ _ c2
   have : vs.length = 1 := by rw [← hl]; simpa using e
   match vs, this with
   | [x], _ => exact hne x rfl
  rw [dif_neg this]
 ·cases hv

def retHow (mem : Nat → Option Blk) (L : Nat → Bool) (ids : Nat → Nat) (q : Nat) : How := ⟨mem, L, ids, q, id, true⟩
structure Leaves (p : Nat) (s : St) (v res : V) (m' : Nat → Option Blk) : Prop where
 out : ∃ (L : Nat → Bool) (ids : Nat → Nat) (q : Nat), p ≤ q ∧ (∀ b, L b = true → p ≤ b) ∧ (∀ j, j < p → ids j = j) ∧ (∀ j, p ≤ j → j < q → p ≤ ids j) ∧ (∀ i j, i < q → j < q → ids i = ids j → i = j) ∧ (∀ j, j < q → L (ids j) = false) ∧
  (∀ j, j < q → ∃ k k', s.mem (ids j) = some k ∧ m' j = some k' ∧ BLend (retHow s.mem L ids q) k k') ∧ (∀ j, q ≤ j → m' j = none) ∧ Lend (retHow s.mem L ids q) v res

theorem Leaves.ok {W0 : World} {S : Nat → Prop} {p N : Nat} {F0 : Nat → Nat → Option Value} {D : List Deferred} {E0 E : Env} {s : St} {a : Act} {W : World} {v res : V} {m' : Nat → Option Blk} {c : Value} {m0 : Nat → Option Blk} {nx0 : Nat} (h : Inv ⟨W0, S, p, F0, N, D⟩ E s a W)
  (hm0 : InvM (cx W0 S p F0) E0 m0 nx0 W0) (hp0 : ∀ b k, m0 b = some k → b < p) (hle : E0.lep p E) (hl : Leaves p s v res m') (hc : RL E v c) : ∃ E' nx', E0.le E' ∧ InvM (cx W0 S p F0) E' m' nx' W ∧ RL E' res c := by
 obtain ⟨L, ids, q, l1, l2, l3, l4, l5, l6, l7, l8, l9⟩ := hl.out
 have htg : ∀ x, (retHow s.mem L ids q).tg x = true → x = true ∧ E.n0 ≤ E.n0 := fun x hx => ⟨hx, Nat.le_refl _⟩
 have htn : (retHow s.mem L ids q).tn = true → ∀ b I B, (retHow s.mem L ids q).L b = true → E.σ b = some I → I.dead = false → I.blk = some B → E.n0 ≤ B := fun _ b I B hb hI hd hB => by
  rcases h.m.own b I B hI hd hB with h1 | ⟨h1, _⟩
  ·rw [h.m.n0]; exact h1
  ·have := l2 b hb; simp at h1; omega
 have hn0 : E.n0 = W0.heap.size := h.m.n0
 have hres := Lend.ok (H := retHow s.mem L ids q) rfl h.m htg htn (n := E.n0) l9 c hc
 refine ⟨E.view W L q ids E.n0, q, ⟨by show E.n0 ≤ E0.n0; rw [hn0, hm0.n0]; exact Nat.le_refl _, fun B o d hd => lentF_le _ _ _ (hle.F B o d hd), fun b I hI => ?_⟩, ?_, hres⟩
 ·obtain ⟨k, hk⟩ := hm0.dom b I hI
  have hb := hp0 b k hk
  obtain ⟨J, j1, j2⟩ := hle.σ b I hb hI
  exact ⟨J, by simp [Env.view, l3 b hb, j1]; omega, j2⟩
 ·refine ⟨hn0, ?_, ?_, ?_, ?_, ?_, ?_, ?_, ?_, ?_⟩
  ·intro B o d hF
   simp only [Env.view] at hF
   unfold lentF at hF
   split at hF
   ·rename_i d' hd; cases hF; exact h.m.frz B o d hd
   ·split at hF
    ·exact hF
    ·cases hF
  ·intro j k' hk'
   have hj : j < q := by
    rcases Nat.lt_or_ge j q with hj | hj
    ·exact hj
    ·rw [l8 j hj] at hk'; cases hk'
   obtain ⟨k, k2, e1, e2, e3⟩ := l7 j hj
   rw [hk'] at e2; cases e2
   obtain ⟨I, g1, g2⟩ := h.m.blk _ _ e1
   exact ⟨I, by simp [Env.view, hj, g1], BLend.ok (H := retHow s.mem L ids q) rfl h.m htg htn e3 g2⟩
  ·intro j I hI
   simp only [Env.view] at hI
   split at hI
   ·rename_i hj
    obtain ⟨k, k2, e1, e2, e3⟩ := l7 j hj
    exact ⟨k2, e2⟩
   ·cases hI
  ·intro j k' hk'
   rcases Nat.lt_or_ge j q with hj | hj
   ·exact hj
   ·rw [l8 j hj] at hk'; cases hk'
  ·intro i j I J B h1 h2 h3 h4 h5 h6
   simp only [Env.view] at h1 h2
   split at h1
   ·rename_i hi
    split at h2
    ·rename_i hj
     exact l5 i j hi hj (h.m.inj _ _ I J B h1 h2 h3 h4 h5 h6)
    ·cases h2
   ·cases h1
  ·intro j I B h1 h2 h3 o
   simp only [Env.view] at h1
   split at h1
   ·rename_i hj
    simp only [Env.view]
    unfold lentF
    rw [h.m.sep _ I B h1 h2 h3 o]
    simp only []
    rw [if_neg]
    rintro ⟨b', I', g1, g2, g3, g4⟩
    have := h.m.inj _ _ I I' B h1 g2 h2 g3 h3 g4
    subst this
    rw [l6 j hj] at g1; cases g1
   ·cases h1
  ·intro j I B h1 h2 h3
   simp only [Env.view] at h1
   split at h1
   ·rename_i hj
    rcases h.m.own _ I B h1 h2 h3 with g | ⟨g1, g2⟩
    ·exact .inl g
    ·rcases Nat.lt_or_ge j p with hjp | hjp
     ·exact .inr ⟨hjp, g2⟩
     ·have := l4 j hjp hj; simp at g1; omega
   ·cases h1
  ·intro B o hB
   show lentF E W L B o = F0 B o
   have ho : E.F B o = F0 B o := h.m.old B o hB
   rw [← ho]
   unfold lentF
   cases hf : E.F B o with
   | some d => rfl
   | none =>
    simp only []
    rw [if_neg]
    rintro ⟨b', I', g1, g2, g3, g4⟩
    have := htn rfl b' I' B g1 g2 g3 g4
    rw [hn0] at this
    simp [cx] at hB
    omega
  ·exact ⟨h.m.keep.os, h.m.keep.tape, h.m.keep.output, h.m.keep.size, h.m.keep.block⟩

def argsT (args : List V) : Nat → V := fun t => match args[t]? with | some v => v | none => .any

theorem FnM.of_awp {P : Program} {f : FuncId} {fn : Func} {c : Code} {p : Nat} {m : Nat → Option Blk} {args : List V} {Q : V → (Nat → Option Blk) → Prop} (hf : P.funcs[f]? = some fn) (hb : fn.body = some c) (hp : ∀ b k, m b = some k → b < p)
  (h : ∀ (W : World) (S : Nat → Prop) (F : Nat → Nat → Option Value), AWP P none ⟨W, S, p, F, args.length + (fn.ntmps - args.length), []⟩ c ⟨argsT args, m, p⟩
   (fun e s => (e = .normal ∨ e = .ret) ∧ ∃ v res m', resOf P s fn.results.toList = some v ∧ Leaves p s v res m' ∧ Q res m')) : FnM P f p m args Q := by
 intro E W S cargs hm hargs
 have hlen := RLs.length _ _ hargs
 refine calls_of_wp hf hb ((wpIn_wide (n := 0)).1 ?_)
 have h0 : Inv ⟨W, S, p, E.F, args.length + (fn.ntmps - args.length), []⟩ E ⟨argsT args, m, p⟩ { tmps := cargs.toArray ++ Array.replicate (fn.ntmps - cargs.toArray.size) undef, defers := [] } W := by
  refine ⟨⟨hm.n0, hm.frz, hm.blk, hm.dom, hp, hm.inj, hm.sep, hm.own, fun B o _ => rfl, hm.keep⟩, fun t => ?_, by simp [hlen], rfl⟩
  show RL E (argsT args t) _
  unfold argsT
  cases ht : args[t]? with
  | none => simp only [RL]
  | some v =>
   obtain ⟨d, d1, d2⟩ := RLs.get _ _ hargs t v ht
   have : (cargs.toArray ++ Array.replicate (fn.ntmps - cargs.toArray.size) undef).getD t undef = d := by
    have hlt : t < cargs.length := (List.getElem?_eq_some_iff.1 d1).1
    simp only [Array.getD_eq_getD_getElem?]
    rw [Array.getElem?_append_left (by simpa using hlt)]
    simp [d1]
   simp only []
   rw [this]; exact d2
 refine wpIn_mono (h W S E.F E _ W h0) ?_
 rintro e a' W' ⟨E', s', h1, h2, he, v, res, m', h3, h4, h5⟩
 have hdone : a'.defers = [] ∧ ∃ v, (results fn a'.tmps).run P W' = .ok v W' ∧ ∃ c E' res m' nx', (Ending.returned v) = .returned c ∧ E.le E' ∧ InvM (cx W S p E.F) E' m' nx' W' ∧ RL E' res c ∧ Q res m' := by
  obtain ⟨cv, c1, c2⟩ := resOf_ok h2 h3
  obtain ⟨E2, nx', e1, e2, e3⟩ := Leaves.ok h2 hm hp h1 h4 c2
  exact ⟨h2.defs, cv, c1, cv, E2, res, m', nx', rfl, e1, e2, e3, h5⟩
 rcases he with rfl | rfl
 ·exact hdone
 ·exact hdone
end Go.Abs
namespace Go.Abs
set_option linter.unusedVariables false
set_option linter.unusedSimpArgs false

def lget {α : Type} : List (Nat × α) → Nat → Option α
 | [], _ => none
 | (a, x) :: r, k => if a = k then some x else lget r k
def lput {α : Type} : List (Nat × α) → Nat → α → List (Nat × α)
 | [], k, x => [(k, x)]
 | (a, y) :: r, k, x => if a = k then (a, x) :: r else (a, y) :: lput r k x
structure LS where
 tm : List (Nat × V)
 mem : List (Nat × Blk)
 nx : Nat
def LS.slot (s : LS) (t : Nat) : V := (lget s.tm t).getD .any
def LS.st (s : LS) : St := ⟨s.slot, lget s.mem, s.nx⟩
def LS.ev (s : LS) : Operand → V
 | .tmp t => s.slot t
 | .const v => cv v
 | .global _ => .any
 | .func f => .fn (.func f) []
def lputs (m : List (Nat × Blk)) : List (Nat × Blk) → List (Nat × Blk)
 | [] => m
 | x :: l => lputs (lput m x.1 x.2) l
def LS.app (s : LS) (dst : Option Tmp) (v : V) (ups : List (Nat × Blk)) : LS :=
 { tm := match dst with | some d => lput s.tm d v | none => s.tm, mem := lputs s.mem ups, nx := s.nx }
theorem LS.st_ev (s : LS) : s.st.ev = s.ev := by
 funext x; cases x <;> rfl

def wantedL (ops : Array Oper) (s : LS) (o : Oper) : Option Bool :=
 match o.guard with
 | none => some true
 | some (j, w) => match (ops[j]?).bind (·.dst) with
  | some d => match s.slot d with
   | .sc (.bool b) => some (b == w)
   | .tup [] => some false
   | _ => none
  | none => some false
def dstOK (N : Nat) : Option Tmp → Bool
 | some d => d < N
 | none => true
def lstep (P : Program) (N : Nat) (ops : Array Oper) (id : Nat) (o : Oper) (s : LS) : Option LS :=
 if dstOK N o.dst = true then
  match wantedL ops s o with
  | some true => match opFx P o.op s.ev (lget s.mem) id with
   | some fx => if (lget s.mem id).isNone then some (s.app o.dst fx.val fx.up.toList) else none
   | none => none
  | some false => some (s.app o.dst (.tup []) [])
  | none => none
 else none
def tchk (kl : Kl) (i : Nat) : List Nat → Bool
 | [] => true
 | t => match kl.at i with
  | some l => t.all fun b => l.contains b
  | none => true
theorem tchk_ok {kl : Kl} {i : Nat} {t : List Nat} (h : tchk kl i t = true) : ∀ l, kl.at i = some l → ∀ b ∈ t, b ∈ l := by
 intro l hl b hb
 unfold tchk at h
 split at h
 ·cases hb
 ·rw [hl] at h
  simp only [List.all_eq_true] at h
  simpa using h b hb
def lchk (base : Nat) (masks : Option (List Nat)) (kl : Kl) (i : Nat) (t : List Nat) : Bool :=
 match masks with
 | none => true
 | some ms => (t.all fun b => b < base || (ms.getD i 0).testBit ((b - base) / 4)) && tchk kl i t

inductive RunL (P : Program) (N p : Nat) (ops : Array Oper) (base : Nat) (masks : Option (List Nat)) (kl : Kl) : List Nat → LS → LS → Prop
 | nil {s : LS} : RunL P N p ops base masks kl [] s s
 | op {i : Nat} {l : List Nat} {s s1 s' : LS} {o : Oper} : ops[i]? = some o → lstep P N ops (base + 4 * i) o s = some s1 → lchk base masks kl i (opTouch o.op s.ev) = true → RunL P N p ops base masks kl l s1 s' → RunL P N p ops base masks kl (i :: l) s s'
 | call {i : Nat} {l : List Nat} {s s' : LS} {o : Oper} {f : Operand} {args : Array Operand} {ts : Array TypeId} {fid : FuncId} {caps args' : List V} {ks : List Nat} {res : V} :
   ops[i]? = some o → dstOK N o.dst = true → wantedL ops s o = some true → o.op = .call { callee := .value f, args, argTypes := ts } → s.ev f = .fn (.func fid) caps →
   Lends (callHow (lget s.mem) ks) (args.toList.map s.ev ++ caps) args' → callable P fid = true → FnP P fid args' res → (V.fresh res = true ∨ ks = []) → lchk base masks kl i ks = true →
   RunL P N p ops base masks kl l (s.app o.dst res []) s' → RunL P N p ops base masks kl (i :: l) s s'
 | share {i : Nat} {l : List Nat} {s s' : LS} {o : Oper} {f : Operand} {args : Array Operand} {ts : Array TypeId} {fid : FuncId} {caps args' : List V} {ks : List Nat} {res : V} :
   ops[i]? = some o → dstOK N o.dst = true → wantedL ops s o = some true → o.op = .call { callee := .value f, args, argTypes := ts } → s.ev f = .fn (.func fid) caps →
   Lends (callHow (lget s.mem) ks) (args.toList.map s.ev ++ caps) args' → callable P fid = true → FnP P fid args' res → (ks.all fun b => decide (p ≤ b) && (lget s.mem b).isSome) = true → (masks.isNone || kl.contains i) = true → lchk base masks kl i ks = true →
   RunL P N p ops base masks kl l (s.app o.dst res (ks.map (·, .dead))) s' → RunL P N p ops base masks kl (i :: l) s s'
 | pass {i : Nat} {l : List Nat} {s s' : LS} {o : Oper} {f : Operand} {args : Array Operand} {ts : Array TypeId} {fid : FuncId} {caps args' : List V} {bs : List Nat} {m m' : List Blk} {res : V} :
   ops[i]? = some o → dstOK N o.dst = true → wantedL ops s o = some true → o.op = .call { callee := .value f, args, argTypes := ts } → s.ev f = .fn (.func fid) caps →
   Lends (passHow (lget s.mem) bs) (args.toList.map s.ev ++ caps) args' → callable P fid = true → FnD P fid m args' res m' → bs.Nodup → (∀ b ∈ bs, (lget s.mem b).isSome = true) → lget s.mem (base + 4 * i) = none → ((∀ b ∈ bs, b < p) ∨ (∀ b ∈ bs, p ≤ b) ∨ boxes bs.length m') →
   m.length = bs.length → bs.length ≤ m'.length → m'.length ≤ bs.length + 1 → (∀ j k', m[j]? = some k' → ∃ k, lget s.mem (bs.getD j 0) = some k ∧ BLend (passHow (lget s.mem) bs) k k') → (masks.isNone || kl.contains i) = true → lchk base masks kl i bs = true →
   RunL P N p ops base masks kl l (s.app o.dst (res.ren (passIds bs (base + 4 * i))) (passUps (passIds bs (base + 4 * i)) 0 m')) s' → RunL P N p ops base masks kl (i :: l) s s'

section
variable {P : Program} {N p : Nat} {ops : Array Oper} {base : Nat} {masks : Option (List Nat)} {kl : Kl}
def chkL (ops : Array Oper) (base : Nat) (masks : Option (List Nat)) (kl : Kl) : Nat → List Nat → Bool → Prop :=
 match masks with
 | none => chk0
 | some ms => chkD ops base ms kl
theorem chkL_of {i : Nat} {o : Oper} {t : List Nat} {w : Bool} (ho : ops[i]? = some o) (h : lchk base masks kl i t = true) (hw : w = true → wrOp o.op = true ∨ (masks.isNone || kl.contains i) = true) : chkL ops base masks kl i t w := by
 unfold chkL
 unfold lchk at h
 cases masks with
 | none => trivial
 | some ms =>
  simp only [Bool.and_eq_true] at h
  refine ⟨fun b hb => ?_, fun e => ⟨o, ho, ?_⟩, tchk_ok h.2⟩
  ·have h := h.1
   simp only [List.all_eq_true, Bool.or_eq_true, decide_eq_true_eq] at h
   exact h b hb
  ·unfold wrS
   rcases hw e with h | h
   ·simp [h]
   ·simp only [Option.isNone_some, Bool.false_or] at h; rw [h]; simp
end

section
variable {P : Program} {r : Option Nat} {C : Cx} {s s' : LS} {Q : Exit → St → Prop} {id : Nat} {l : List Oper}
end
def largs : Nat → List V → List (Nat × V)
 | _, [] => []
 | i, v :: vs => (i, v) :: largs (i + 1) vs
theorem lget_largs : ∀ (vs : List V) (i t : Nat), lget (largs i vs) t = if t < i then none else vs[t - i]?
 | [], i, t => by simp [largs, lget]
 | v :: vs, i, t => by
  unfold largs lget
  by_cases h : i = t
  ·subst h; simp
  ·rw [if_neg h, lget_largs vs (i + 1) t]
   by_cases h1 : t < i
   ·rw [if_pos (by omega), if_pos h1]
   ·rw [if_neg (by omega), if_neg h1]
    rw [show t - i = (t - (i + 1)) + 1 by omega]
    simp
theorem argsT_st (args : List V) (m : List (Nat × Blk)) (p : Nat) : (⟨argsT args, lget m, p⟩ : St) = (⟨largs 0 args, m, p⟩ : LS).st := by
 unfold LS.st
 congr 1
 funext t
 unfold argsT LS.slot
 rw [lget_largs]
 simp
 cases args[t]? <;> rfl

end Go.Abs
namespace Go.Abs
set_option linter.unusedVariables false
set_option linter.unusedSimpArgs false

def RunK (P : Program) (N p : Nat) (ops : Array Oper) (base : Nat) (masks : Option (List Nat)) (kl : Kl) (i : Nat) (l : List Oper) (s : LS) (Q : LS → Prop) : Prop :=
 (∀ k o, l[k]? = some o → ops[i + k]? = some o) → ∃ s', RunL P N p ops base masks kl (List.range' i l.length) s s' ∧ Q s'
section
variable {P : Program} {N p : Nat} {ops : Array Oper} {base : Nat} {masks : Option (List Nat)} {kl : Kl} {i : Nat} {l : List Oper} {s : LS} {Q : LS → Prop} {o : Oper}
theorem RunK.head (hl : ∀ k o', (o :: l)[k]? = some o' → ops[i + k]? = some o') : ops[i]? = some o ∧ ∀ k o', l[k]? = some o' → ops[i + 1 + k]? = some o' :=
 ⟨by simpa using hl 0 o (by simp), fun k o' hk => by have := hl (k + 1) o' (by simpa using hk); rwa [show i + (k + 1) = i + 1 + k by omega] at this⟩
end
section
variable {P : Program} {r : Option Nat} {W0 : World} {S : Nat → Prop} {p : Nat} {F0 : Nat → Nat → Option Value} {N : Nat} {D : List Deferred} {s : LS} {Q : Exit → St → Prop} {id : Nat} {l : List Oper}
end
end Go.Abs
namespace Go.Abs
end Go.Abs
namespace Go.Abs
end Go.Abs
namespace Go.Abs
@[congr] theorem RunK.cg {P : Program} {N p : Nat} {ops : Array Oper} {base base' : Nat} {masks : Option (List Nat)} {kl : Kl} {i i' : Nat} {l : List Oper} {s s' : LS} {Q : LS → Prop} (hb : base = base') (hi : i = i') (hs : s = s') : RunK P N p ops base masks kl i l s Q = RunK P N p ops base' masks kl i' l s' Q := by subst hb; subst hi; subst hs; rfl
@[congr] theorem AWP.cg {P : Program} {r : Option Nat} {C : Cx} {c : Code} {s s' : St} {Q : Exit → St → Prop} (hs : s = s') : AWP P r C c s Q = AWP P r C c s' Q := by subst hs; rfl
end Go.Abs
namespace Go.Abs
set_option linter.unusedVariables false
set_option linter.unusedSimpArgs false

mutual
def V.nor : V → Bool
 | .sc _ => true
 | .agg cs => V.nors cs
 | .tup cs => V.nors cs
 | .lst _ _ _ cs => V.nors cs
 | .rp cs => V.nors cs
 | .sl .. => false
 | .ptr .. => false
 | .fn _ cs => V.nors cs
 | .any => true
def V.nors : List V → Bool
 | [] => true
 | x :: xs => V.nor x && V.nors xs
end
mutual
def V.old : V → V
 | .sc v => .sc v
 | .agg cs => .agg (V.olds cs)
 | .tup cs => .tup (V.olds cs)
 | .lst _ e n cs => .lst false e n (V.olds cs)
 | .rp cs => .rp (V.olds cs)
 | .sl b v e o l => .sl b v e o l
 | .ptr b v o => .ptr b v o
 | .fn f cs => .fn f (V.olds cs)
 | .any => .any
def V.olds : List V → List V
 | [] => []
 | x :: xs => V.old x :: V.olds xs
end
theorem V.old_leaf (v : V) : v.old.leaf = v.leaf := by cases v <;> simp [V.old, V.leaf]
theorem V.olds_leaf : ∀ (vs : List V), (V.olds vs).all V.leaf = vs.all V.leaf
 | [] => by simp [V.olds]
 | v :: vs => by simp [V.olds, V.old_leaf, V.olds_leaf vs]

mutual
def V.wf : V → Bool
 | .sc _ => true
 | .agg cs => cs.all V.leaf && V.wfs cs
 | .tup cs => V.wfs cs
 | .lst _ _ _ cs => cs.all V.leaf && V.wfs cs
 | .rp cs => cs.all V.leaf && V.wfs cs
 | .sl .. => true
 | .ptr .. => true
 | .fn _ cs => V.wfs cs
 | .any => true
def V.wfs : List V → Bool
 | [] => true
 | x :: xs => V.wf x && V.wfs xs
end
def V.good (cs : List V) : Bool := V.nors cs && V.wfs cs && cs.all V.leaf

mutual
theorem Lend.oldI {H : How} (hH : ∀ b, H.tg b = false) : ∀ (v : V), V.nor v = true → V.wf v = true → Lend H v v.old
 | .sc v, _, _ => by simp only [V.old]; exact .sc v
 | .agg cs, h, w => by
  simp only [V.old]; simp only [V.nor] at h; simp only [V.wf, Bool.and_eq_true] at w
  exact .agg (Lends.oldI hH cs h w.2) (by rw [V.olds_leaf]; exact w.1)
 | .tup cs, h, w => by simp only [V.old]; simp only [V.nor] at h; simp only [V.wf] at w; exact .tup (Lends.oldI hH cs h w)
 | .lst new e n cs, h, w => by
  simp only [V.old]; simp only [V.nor] at h; simp only [V.wf, Bool.and_eq_true] at w
  have := Lend.lst (H := H) (new := new) (e := e) (n := n) (Lends.oldI hH cs h w.2) (by rw [V.olds_leaf]; exact w.1)
  rwa [hH] at this
 | .rp cs, h, w => by
  simp only [V.old]; simp only [V.nor] at h; simp only [V.wf, Bool.and_eq_true] at w
  exact .rp (Lends.oldI hH cs h w.2) (by rw [V.olds_leaf]; exact w.1)
 | .sl .., h, _ => by simp [V.nor] at h
 | .ptr .., h, _ => by simp [V.nor] at h
 | .fn f cs, h, w => by simp only [V.old]; simp only [V.nor] at h; simp only [V.wf] at w; exact .fn (Lends.oldI hH cs h w)
 | .any, _, _ => by simp only [V.old]; exact .any _
theorem Lends.oldI {H : How} (hH : ∀ b, H.tg b = false) : ∀ (vs : List V), V.nors vs = true → V.wfs vs = true → Lends H vs (V.olds vs)
 | [], _, _ => by simp only [V.olds]; exact .nil
 | x :: xs, h, w => by
  simp only [V.olds]
  simp only [V.nors, Bool.and_eq_true] at h
  simp only [V.wfs, Bool.and_eq_true] at w
  exact .cons (Lend.oldI hH x h.1 w.1) (Lends.oldI hH xs h.2 w.2)
end

mutual
theorem Lend.selfI {H : How} (hH : ∀ b, H.tg b = b) : ∀ (v : V), V.nor v = true → V.wf v = true → Lend H v v
 | .sc v, _, _ => .sc v
 | .agg cs, h, w => by
  simp only [V.nor] at h; simp only [V.wf, Bool.and_eq_true] at w
  exact .agg (Lends.selfI hH cs h w.2) w.1
 | .tup cs, h, w => by simp only [V.nor] at h; simp only [V.wf] at w; exact .tup (Lends.selfI hH cs h w)
 | .lst new e n cs, h, w => by
  simp only [V.nor] at h; simp only [V.wf, Bool.and_eq_true] at w
  have := Lend.lst (H := H) (new := new) (e := e) (n := n) (Lends.selfI hH cs h w.2) w.1
  rwa [hH] at this
 | .rp cs, h, w => by
  simp only [V.nor] at h; simp only [V.wf, Bool.and_eq_true] at w
  exact .rp (Lends.selfI hH cs h w.2) w.1
 | .sl .., h, _ => by simp [V.nor] at h
 | .ptr .., h, _ => by simp [V.nor] at h
 | .fn f cs, h, w => by simp only [V.nor] at h; simp only [V.wf] at w; exact .fn (Lends.selfI hH cs h w)
 | .any, _, _ => .any _
theorem Lends.selfI {H : How} (hH : ∀ b, H.tg b = b) : ∀ (vs : List V), V.nors vs = true → V.wfs vs = true → Lends H vs vs
 | [], _, _ => .nil
 | x :: xs, h, w => by
  simp only [V.nors, Bool.and_eq_true] at h
  simp only [V.wfs, Bool.and_eq_true] at w
  exact .cons (Lend.selfI hH x h.1 w.1) (Lends.selfI hH xs h.2 w.2)
end

mutual
def lendK (mem : Nat → Option Blk) (ks : List Nat) : V → (V → Prop) → Prop
 | .sc v, k => k (.sc v)
 | .agg cs, k => lendsK mem ks cs fun cs' => cs'.all V.leaf = true ∧ k (.agg cs')
 | .tup _, _ => False
 | .lst _ e n cs, k => V.good cs = true ∧ k (.lst false e n (V.olds cs))
 | .rp cs, k => V.good cs = true ∧ k (.rp (V.olds cs))
 | .sl b ver e off len, k => ks.contains b = true ∧ (match mem b with
  | some (.arr _ e' v cs) => v = ver ∧ e' = e ∧ off * e + len * e ≤ cs.length ∧ V.good ((cs.drop (off * e)).take (len * e)) = true ∧ k (.lst false e len (V.olds ((cs.drop (off * e)).take (len * e))))
  | _ => False)
 | .ptr b ver o, k => ks.contains b = true ∧ (match mem b with
  | some bk => bk.hasVer ver = true ∧ V.good (bk.cells.drop o) = true ∧ k (.rp (V.olds (bk.cells.drop o)))
  | none => False)
 | .fn f cs, k => lendsK mem ks cs fun cs' => k (.fn f cs')
 | .any, k => k .any
def lendsK (mem : Nat → Option Blk) (ks : List Nat) : List V → (List V → Prop) → Prop
 | [], k => k []
 | x :: xs, k => lendK mem ks x fun x' => lendsK mem ks xs fun xs' => k (x' :: xs')
end
theorem good_spec {cs : List V} (h : V.good cs = true) : V.nors cs = true ∧ V.wfs cs = true ∧ cs.all V.leaf = true := by
 unfold V.good at h
 simp only [Bool.and_eq_true] at h
 exact ⟨h.1.1, h.1.2, h.2⟩
mutual
theorem lendK_ok {mem : Nat → Option Blk} {ks : List Nat} : ∀ (v : V) (k : V → Prop), lendK mem ks v k → ∃ v', Lend (callHow mem ks) v v' ∧ k v'
 | .sc v, k, h => by simp only [lendK] at h; exact ⟨_, .sc v, h⟩
 | .agg cs, k, h => by
  simp only [lendK] at h
  obtain ⟨cs', h1, h2, h3⟩ := lendsK_ok cs _ h
  exact ⟨_, .agg h1 h2, h3⟩
 | .tup _, k, h => by simp only [lendK] at h
 | .lst new e n cs, k, h => by
  simp only [lendK] at h
  obtain ⟨g1, g2, g3⟩ := good_spec h.1
  exact ⟨_, .lst (H := callHow mem ks) (Lends.oldI (fun _ => rfl) cs g1 g2) (by rw [V.olds_leaf]; exact g3), h.2⟩
 | .rp cs, k, h => by
  simp only [lendK] at h
  obtain ⟨g1, g2, g3⟩ := good_spec h.1
  exact ⟨_, .rp (Lends.oldI (fun _ => rfl) cs g1 g2) (by rw [V.olds_leaf]; exact g3), h.2⟩
 | .sl b ver e off len, k, h => by
  simp only [lendK] at h
  obtain ⟨h1, h2⟩ := h
  split at h2
  ·rename_i te e' v cs hm
   obtain ⟨rfl, rfl, h3, h4, h5⟩ := h2
   obtain ⟨g1, g2, g3⟩ := good_spec h4
   exact ⟨_, .slLend (H := callHow mem ks) h1 hm h3 (Lends.oldI (fun _ => rfl) _ g1 g2) (by rw [V.olds_leaf]; exact g3), h5⟩
  ·exact h2.elim
 | .ptr b ver o, k, h => by
  simp only [lendK] at h
  obtain ⟨h1, h2⟩ := h
  split at h2
  ·rename_i bk hm
   obtain ⟨h3, h4, h5⟩ := h2
   obtain ⟨g1, g2, g3⟩ := good_spec h4
   exact ⟨_, .ptrLend (H := callHow mem ks) h1 hm h3 (Lends.oldI (fun _ => rfl) _ g1 g2) (by rw [V.olds_leaf]; exact g3), h5⟩
  ·exact h2.elim
 | .fn f cs, k, h => by
  simp only [lendK] at h
  obtain ⟨cs', h1, h2⟩ := lendsK_ok cs _ h
  exact ⟨_, .fn h1, h2⟩
 | .any, k, h => by simp only [lendK] at h; exact ⟨_, .any _, h⟩
theorem lendsK_ok {mem : Nat → Option Blk} {ks : List Nat} : ∀ (vs : List V) (k : List V → Prop), lendsK mem ks vs k → ∃ vs', Lends (callHow mem ks) vs vs' ∧ k vs'
 | [], k, h => by simp only [lendsK] at h; exact ⟨[], .nil, h⟩
 | x :: xs, k, h => by
  simp only [lendsK] at h
  obtain ⟨x', h1, h2⟩ := lendK_ok x _ h
  obtain ⟨xs', h3, h4⟩ := lendsK_ok xs _ h2
  exact ⟨_, .cons h1 h3, h4⟩
end

mutual
def retK (mem : Nat → Option Blk) : V → (V → Prop) → Prop
 | .sc v, k => k (.sc v)
 | .agg cs, k => retsK mem cs fun cs' => cs'.all V.leaf = true ∧ k (.agg cs')
 | .tup cs, k => retsK mem cs fun cs' => k (.tup cs')
 | .lst new e n cs, k => V.good cs = true ∧ k (.lst new e n cs)
 | .rp _, _ => False
 | .sl b ver e off len, k => (match mem b with
  | some (.arr _ e' v cs) => v = ver ∧ e' = e ∧ off * e + len * e ≤ cs.length ∧ V.good ((cs.drop (off * e)).take (len * e)) = true ∧ k (.lst true e len ((cs.drop (off * e)).take (len * e)))
  | _ => False)
 | .ptr .., _ => False
 | .fn f cs, k => retsK mem cs fun cs' => k (.fn f cs')
 | .any, k => k .any
def retsK (mem : Nat → Option Blk) : List V → (List V → Prop) → Prop
 | [], k => k []
 | x :: xs, k => retK mem x fun x' => retsK mem xs fun xs' => k (x' :: xs')
end
mutual
theorem retK_ok {mem : Nat → Option Blk} {ids : Nat → Nat} {q : Nat} {L : Nat → Bool} : ∀ (v : V) (k : V → Prop), (∀ b, (mem b).isSome = true → L b = true) → retK mem v k → ∃ v', Lend (retHow mem L ids q) v v' ∧ k v'
 | .sc v, k, hL, h => by simp only [retK] at h; exact ⟨_, .sc v, h⟩
 | .agg cs, k, hL, h => by
  simp only [retK] at h
  obtain ⟨cs', h1, h2, h3⟩ := retsK_ok cs _ hL h
  exact ⟨_, .agg h1 h2, h3⟩
 | .tup cs, k, hL, h => by
  simp only [retK] at h
  obtain ⟨cs', h1, h2⟩ := retsK_ok cs _ hL h
  exact ⟨_, .tup h1, h2⟩
 | .lst new e n cs, k, hL, h => by
  simp only [retK] at h
  obtain ⟨g1, g2, g3⟩ := good_spec h.1
  exact ⟨_, .lst (H := retHow mem L ids q) (Lends.selfI (fun _ => rfl) cs g1 g2) g3, h.2⟩
 | .rp cs, k, hL, h => by simp only [retK] at h
 | .sl b ver e off len, k, hL, h => by
  simp only [retK] at h
  split at h
  ·rename_i te e' v cs hm
   obtain ⟨rfl, rfl, h3, h4, h5⟩ := h
   obtain ⟨g1, g2, g3⟩ := good_spec h4
   exact ⟨_, .slLend (H := retHow mem L ids q) (hL b (by rw [hm]; rfl)) hm h3 (Lends.selfI (fun _ => rfl) _ g1 g2) g3, h5⟩
  ·exact h.elim
 | .ptr .., k, hL, h => by simp only [retK] at h
 | .fn f cs, k, hL, h => by
  simp only [retK] at h
  obtain ⟨cs', h1, h2⟩ := retsK_ok cs _ hL h
  exact ⟨_, .fn h1, h2⟩
 | .any, k, hL, h => by simp only [retK] at h; exact ⟨_, .any _, h⟩
theorem retsK_ok {mem : Nat → Option Blk} {ids : Nat → Nat} {q : Nat} {L : Nat → Bool} : ∀ (vs : List V) (k : List V → Prop), (∀ b, (mem b).isSome = true → L b = true) → retsK mem vs k → ∃ vs', Lends (retHow mem L ids q) vs vs' ∧ k vs'
 | [], k, hL, h => by simp only [retsK] at h; exact ⟨[], .nil, h⟩
 | x :: xs, k, hL, h => by
  simp only [retsK] at h
  obtain ⟨x', h1, h2⟩ := retK_ok x _ hL h
  obtain ⟨xs', h3, h4⟩ := retsK_ok xs _ hL h2
  exact ⟨_, .cons h1 h3, h4⟩
end

section
variable {P : Program} {N p : Nat} {ops : Array Oper} {base : Nat} {masks : Option (List Nat)} {kl : Kl} {i : Nat} {l : List Oper} {s : LS} {Q : LS → Prop} {o : Oper}
end
end Go.Abs
namespace Go.Abs
end Go.Abs
namespace Go.Abs
set_option linter.unusedVariables false
set_option linter.unusedSimpArgs false

mutual
def V.refs : V → List Nat
 | .sc _ => []
 | .agg cs => V.refss cs
 | .tup cs => V.refss cs
 | .lst _ _ _ cs => V.refss cs
 | .rp cs => V.refss cs
 | .sl b .. => [b]
 | .ptr b .. => [b]
 | .fn _ cs => V.refss cs
 | .any => []
def V.refss : List V → List Nat
 | [] => []
 | x :: xs => V.refs x ++ V.refss xs
end
def nubA (acc : List Nat) : List Nat → List Nat
 | [] => acc
 | x :: xs => if acc.contains x then nubA acc xs else nubA (acc ++ [x]) xs
def idxN (b : Nat) : List Nat → Nat → Nat
 | [], j => j
 | x :: xs, j => if x = b then j else idxN b xs (j + 1)
mutual
def V.passed (bs : List Nat) : V → V
 | .sc v => .sc v
 | .agg cs => .agg (V.passeds bs cs)
 | .tup cs => .tup (V.passeds bs cs)
 | .lst _ e n cs => .lst false e n (V.passeds bs cs)
 | .rp cs => .rp (V.passeds bs cs)
 | .sl b v e o l => .sl (idxN b bs 0) v e o l
 | .ptr b v o => .ptr (idxN b bs 0) v o
 | .fn f cs => .fn f (V.passeds bs cs)
 | .any => .any
def V.passeds (bs : List Nat) : List V → List V
 | [] => []
 | x :: xs => V.passed bs x :: V.passeds bs xs
end
mutual
def V.passOK (bs : List Nat) : V → Bool
 | .sc _ => true
 | .agg cs => cs.all V.leaf && V.passOKs bs cs
 | .tup cs => V.passOKs bs cs
 | .lst _ _ _ cs => cs.all V.leaf && V.passOKs bs cs
 | .rp cs => cs.all V.leaf && V.passOKs bs cs
 | .sl b .. => bs.contains b
 | .ptr b .. => bs.contains b
 | .fn _ cs => V.passOKs bs cs
 | .any => true
def V.passOKs (bs : List Nat) : List V → Bool
 | [] => true
 | x :: xs => V.passOK bs x && V.passOKs bs xs
end
theorem V.passed_leaf (bs : List Nat) (v : V) : (v.passed bs).leaf = v.leaf := by cases v <;> simp [V.passed, V.leaf]
theorem V.passeds_leaf (bs : List Nat) : ∀ (vs : List V), (V.passeds bs vs).all V.leaf = vs.all V.leaf
 | [] => by simp [V.passeds]
 | v :: vs => by simp [V.passeds, V.passed_leaf, V.passeds_leaf bs vs]
theorem idxN_spec (b : Nat) : ∀ (bs : List Nat) (j : Nat), b ∈ bs → idxN b bs j - j < bs.length ∧ j ≤ idxN b bs j ∧ bs.getD (idxN b bs j - j) 0 = b
 | [], j, h => by cases h
 | x :: xs, j, h => by
  unfold idxN
  by_cases hx : x = b
  ·rw [if_pos hx]; simp [hx]
  ·rw [if_neg hx]
   obtain ⟨h1, h2, h3⟩ := idxN_spec b xs (j + 1) (by simpa [Ne.symm hx] using h)
   refine ⟨by simp; omega, by omega, ?_⟩
   rw [show idxN b xs (j + 1) - j = (idxN b xs (j + 1) - (j + 1)) + 1 by omega]
   simpa using h3
mutual
theorem Lend.passI {mem : Nat → Option Blk} {bs : List Nat} : ∀ (v : V), V.passOK bs v = true → Lend (passHow mem bs) v (v.passed bs)
 | .sc v, h => by simp only [V.passed]; exact .sc v
 | .agg cs, h => by
  simp only [V.passed]; simp only [V.passOK, Bool.and_eq_true] at h
  exact .agg (Lends.passI cs h.2) (by rw [V.passeds_leaf]; exact h.1)
 | .tup cs, h => by simp only [V.passed]; simp only [V.passOK] at h; exact .tup (Lends.passI cs h)
 | .lst new e n cs, h => by
  simp only [V.passed]; simp only [V.passOK, Bool.and_eq_true] at h
  exact .lst (H := passHow mem bs) (Lends.passI cs h.2) (by rw [V.passeds_leaf]; exact h.1)
 | .rp cs, h => by
  simp only [V.passed]; simp only [V.passOK, Bool.and_eq_true] at h
  exact .rp (Lends.passI cs h.2) (by rw [V.passeds_leaf]; exact h.1)
 | .sl b ver e o l, h => by
  simp only [V.passed]; simp only [V.passOK, List.contains_iff_mem] at h
  obtain ⟨h1, h2, h3⟩ := idxN_spec b bs 0 h
  exact .slPass (H := passHow mem bs) h1 h3
 | .ptr b ver o, h => by
  simp only [V.passed]; simp only [V.passOK, List.contains_iff_mem] at h
  obtain ⟨h1, h2, h3⟩ := idxN_spec b bs 0 h
  exact .ptrPass (H := passHow mem bs) h1 h3
 | .fn f cs, h => by simp only [V.passed]; simp only [V.passOK] at h; exact .fn (Lends.passI cs h)
 | .any, _ => .any _
theorem Lends.passI {mem : Nat → Option Blk} {bs : List Nat} : ∀ (vs : List V), V.passOKs bs vs = true → Lends (passHow mem bs) vs (V.passeds bs vs)
 | [], _ => by simp only [V.passeds]; exact .nil
 | x :: xs, h => by
  simp only [V.passeds]
  simp only [V.passOKs, Bool.and_eq_true] at h
  exact .cons (Lend.passI x h.1) (Lends.passI xs h.2)
end
def nodupB : List Nat → Bool
 | [] => true
 | x :: xs => !xs.contains x && nodupB xs
theorem nodupB_ok : ∀ (l : List Nat), nodupB l = true → l.Nodup
 | [], _ => List.nodup_nil
 | x :: xs, h => by
  simp only [nodupB, Bool.and_eq_true, Bool.not_eq_true', List.contains_eq_mem, decide_eq_false_iff_not] at h
  exact List.nodup_cons.2 ⟨h.1, nodupB_ok xs h.2⟩
def sideB (p : Nat) (bs : List Nat) : Bool := bs.all (fun b => decide (p ≤ b)) || bs.all fun b => decide (b < p)
def Blk.isBox : Blk → Bool
 | .box _ => true
 | _ => false
def sideBB (p : Nat) (bs : List Nat) (m' : List Blk) : Bool := sideB p bs || (Nat.beq m'.length bs.length && m'.all Blk.isBox)
theorem sideBB_ok {p : Nat} {bs : List Nat} {m' : List Blk} (h : sideBB p bs m' = true) : (∀ b ∈ bs, b < p) ∨ (∀ b ∈ bs, p ≤ b) ∨ boxes bs.length m' := by
 unfold sideBB sideB at h
 simp only [Bool.or_eq_true, List.all_eq_true, decide_eq_true_eq, Bool.and_eq_true] at h
 rcases h with (h | h) | ⟨h1, h2⟩
 ·exact .inr (.inl h)
 ·exact .inl h
 ·refine .inr (.inr ⟨Nat.eq_of_beq_eq_true h1, fun k hk => ?_⟩)
  have := h2 k hk
  cases k with
  | box cs => exact ⟨cs, rfl⟩
  | dead => cases this
  | arr => cases this

section
variable {P : Program} {N p : Nat} {ops : Array Oper} {base : Nat} {masks : Option (List Nat)} {kl : Kl} {i : Nat} {l : List Oper} {s : LS} {Q : LS → Prop} {o : Oper}
end

mutual
def outK (mem : Nat → Option Blk) (p : Nat) (ex : List Nat) : V → (V → Prop) → Prop
 | .sc v, k => k (.sc v)
 | .agg cs, k => outsK mem p ex cs fun cs' => cs'.all V.leaf = true ∧ k (.agg cs')
 | .tup cs, k => outsK mem p ex cs fun cs' => k (.tup cs')
 | .lst new e n cs, k => V.good cs = true ∧ k (.lst new e n cs)
 | .rp _, _ => False
 | .sl b ver e off len, k => if b < p then k (.sl b ver e off len) else if ex.contains b then k (.sl (p + idxN b ex 0) ver e off len) else (match mem b with
  | some (.arr _ e' v cs) => v = ver ∧ e' = e ∧ off * e + len * e ≤ cs.length ∧ V.good ((cs.drop (off * e)).take (len * e)) = true ∧ k (.lst true e len ((cs.drop (off * e)).take (len * e)))
  | _ => False)
 | .ptr b ver o, k => if b < p then k (.ptr b ver o) else if ex.contains b then k (.ptr (p + idxN b ex 0) ver o) else False
 | .fn f cs, k => outsK mem p ex cs fun cs' => k (.fn f cs')
 | .any, k => k .any
def outsK (mem : Nat → Option Blk) (p : Nat) (ex : List Nat) : List V → (List V → Prop) → Prop
 | [], k => k []
 | x :: xs, k => outK mem p ex x fun x' => outsK mem p ex xs fun xs' => k (x' :: xs')
end
def outIds (p : Nat) (ex : List Nat) (j : Nat) : Nat := if j < p then j else ex.getD (j - p) 0
def outL (mem : Nat → Option Blk) (p : Nat) (ex : List Nat) (b : Nat) : Bool := (mem b).isSome && decide (p ≤ b) && !ex.contains b
mutual
theorem outK_ok {mem : Nat → Option Blk} {p : Nat} {ex : List Nat} : ∀ (v : V) (k : V → Prop), outK mem p ex v k → ∃ v', Lend (retHow mem (outL mem p ex) (outIds p ex) (p + ex.length)) v v' ∧ k v'
 | .sc v, k, h => by simp only [outK] at h; exact ⟨_, .sc v, h⟩
 | .agg cs, k, h => by
  simp only [outK] at h
  obtain ⟨cs', h1, h2, h3⟩ := outsK_ok cs _ h
  exact ⟨_, .agg h1 h2, h3⟩
 | .tup cs, k, h => by
  simp only [outK] at h
  obtain ⟨cs', h1, h2⟩ := outsK_ok cs _ h
  exact ⟨_, .tup h1, h2⟩
 | .lst new e n cs, k, h => by
  simp only [outK] at h
  obtain ⟨g1, g2, g3⟩ := good_spec h.1
  exact ⟨_, .lst (H := retHow mem _ _ _) (Lends.selfI (fun _ => rfl) cs g1 g2) g3, h.2⟩
 | .rp cs, k, h => by simp only [outK] at h
 | .sl b ver e off len, k, h => by
  simp only [outK] at h
  split at h
  ·rename_i hb
   exact ⟨_, .slPass (H := retHow mem _ _ _) (show b < p + ex.length by omega) (by show outIds p ex b = b; simp [outIds, hb]), h⟩
  ·rename_i hb
   split at h
   ·rename_i hx
    obtain ⟨i1, i2, i3⟩ := idxN_spec b ex 0 (by simpa using hx)
    exact ⟨_, .slPass (H := retHow mem _ _ _) (show p + idxN b ex 0 < p + ex.length by omega) (by show outIds p ex _ = b; unfold outIds; rw [if_neg (by omega), show p + idxN b ex 0 - p = idxN b ex 0 by omega]; exact i3), h⟩
   ·rename_i hx
    split at h
    ·rename_i te e' v cs hm
     obtain ⟨rfl, rfl, h3, h4, h5⟩ := h
     obtain ⟨g1, g2, g3⟩ := good_spec h4
     have hL : outL mem p ex b = true := by
      unfold outL; rw [hm]; simp only [Option.isSome_some, Bool.true_and, Bool.and_eq_true, decide_eq_true_eq, Bool.not_eq_true']
      exact ⟨by omega, by simpa using hx⟩
     exact ⟨_, .slLend (H := retHow mem _ _ _) hL hm h3 (Lends.selfI (fun _ => rfl) _ g1 g2) g3, h5⟩
    ·exact h.elim
 | .ptr b ver o, k, h => by
  simp only [outK] at h
  split at h
  ·rename_i hb
   exact ⟨_, .ptrPass (H := retHow mem _ _ _) (show b < p + ex.length by omega) (by show outIds p ex b = b; simp [outIds, hb]), h⟩
  ·rename_i hb
   split at h
   ·rename_i hx
    obtain ⟨i1, i2, i3⟩ := idxN_spec b ex 0 (by simpa using hx)
    exact ⟨_, .ptrPass (H := retHow mem _ _ _) (show p + idxN b ex 0 < p + ex.length by omega) (by show outIds p ex _ = b; unfold outIds; rw [if_neg (by omega), show p + idxN b ex 0 - p = idxN b ex 0 by omega]; exact i3), h⟩
   ·exact h.elim
 | .fn f cs, k, h => by
  simp only [outK] at h
  obtain ⟨cs', h1, h2⟩ := outsK_ok cs _ h
  exact ⟨_, .fn h1, h2⟩
 | .any, k, h => by simp only [outK] at h; exact ⟨_, .any _, h⟩
theorem outsK_ok {mem : Nat → Option Blk} {p : Nat} {ex : List Nat} : ∀ (vs : List V) (k : List V → Prop), outsK mem p ex vs k → ∃ vs', Lends (retHow mem (outL mem p ex) (outIds p ex) (p + ex.length)) vs vs' ∧ k vs'
 | [], k, h => by simp only [outsK] at h; exact ⟨[], .nil, h⟩
 | x :: xs, k, h => by
  simp only [outsK] at h
  obtain ⟨x', h1, h2⟩ := outK_ok x _ h
  obtain ⟨xs', h3, h4⟩ := outsK_ok xs _ h2
  exact ⟨_, .cons h1 h3, h4⟩
end
def lblks : Nat → List Blk → List (Nat × Blk)
 | _, [] => []
 | j, k :: ks => (j, k) :: lblks (j + 1) ks
theorem lget_lblks : ∀ (vs : List Blk) (i t : Nat), lget (lblks i vs) t = if t < i then none else vs[t - i]?
 | [], i, t => by simp [lblks, lget]
 | v :: vs, i, t => by
  unfold lblks lget
  by_cases h : i = t
  ·subst h; simp
  ·rw [if_neg h, lget_lblks vs (i + 1) t]
   by_cases h1 : t < i
   ·rw [if_pos (by omega), if_pos h1]
   ·rw [if_neg (by omega), if_neg h1]
    rw [show t - i = (t - (i + 1)) + 1 by omega]
    simp
end Go.Abs
namespace Go.Abs
set_option linter.unusedVariables false
set_option linter.unusedSimpArgs false

open Classical in
theorem AWP.loopW {P : Program} {r : Option Nat} {C : Cx} {s : St} {Q : Exit → St → Prop} {c : Code} {α : Type} (st : α → LS) (inv : α → Prop) (μ : α → Nat) (x0 : α) (h0 : inv x0) (hw : Weak C s (st x0).st)
  (round : ∀ x, inv x → AWP P r C c (st x).st (thn (fun s' => ∃ x', inv x' ∧ μ x' < μ x ∧ Weak C s' (st x').st) Q)) : AWP P r C (.loop c) s Q := by
 let J : St → Nat → Prop := fun s j => ∃ x, inv x ∧ Weak C s (st x).st ∧ μ x = j
 let m : St → Nat := fun s => if h : ∃ j, J s j then Classical.choose (exists_least h) else 0
 refine AWP.loop (fun s => ∃ j, J s j) m ⟨_, x0, h0, hw, rfl⟩ ?_
 intro s hJ
 have hm : m s = Classical.choose (exists_least hJ) := by simp only [m]; rw [dif_pos hJ]
 obtain ⟨x, h1, h2, h3⟩ := (Classical.choose_spec (exists_least hJ)).1
 refine AWP.weaken h2 ((round x h1).mono ?_)
 intro e s' he
 cases e with
 | normal =>
  obtain ⟨x', g1, g2, g3⟩ := he
  have hJ' : ∃ j, J s' j := ⟨μ x', x', g1, g3, rfl⟩
  refine ⟨hJ', ?_⟩
  have : m s' ≤ μ x' := by
   simp only [m]; rw [dif_pos hJ']
   exact (Classical.choose_spec (exists_least hJ')).2 _ ⟨x', g1, g3, rfl⟩
  rw [hm, ← h3]
  omega
 | _ => exact he
theorem cellsAt_flat {α : Type} {f : α → List V} {e : Nat} (hf : ∀ x, (f x).length = e) : ∀ (xs : List α) (i : Nat) (hi : i < xs.length), ((xs.flatMap f).drop (i * e)).take e = f xs[i]
 | [], i, hi => by simp at hi
 | x :: xs, 0, hi => by
  simp only [List.flatMap_cons, Nat.zero_mul, List.drop_zero, List.getElem_cons_zero]
  rw [List.take_append_of_le_length (by rw [hf]; exact Nat.le_refl _), List.take_of_length_le (by rw [hf]; exact Nat.le_refl _)]
 | x :: xs, i + 1, hi => by
  simp only [List.flatMap_cons, List.getElem_cons_succ]
  rw [List.drop_append, hf, List.drop_of_length_le (by rw [hf, Nat.succ_mul]; omega), List.nil_append, Nat.succ_mul, Nat.add_sub_cancel]
  exact cellsAt_flat hf xs i (by simpa using hi)
theorem flat_length {α : Type} {f : α → List V} {e : Nat} (hf : ∀ x, (f x).length = e) : ∀ (xs : List α), (xs.flatMap f).length = xs.length * e
 | [] => by simp
 | x :: xs => by rw [List.flatMap_cons, List.length_append, hf, flat_length hf xs, List.length_cons, Nat.succ_mul, Nat.add_comm]
theorem all_flatMap {α : Type} {f : α → List V} {q : V → Bool} (hf : ∀ x, (f x).all q = true) (xs : List α) : (xs.flatMap f).all q = true := by
 rw [List.all_flatMap]
 simp [hf]
theorem nors_eq : ∀ (vs : List V), V.nors vs = vs.all V.nor
 | [] => by simp [V.nors]
 | v :: vs => by simp [V.nors, nors_eq vs]
theorem wfs_eq : ∀ (vs : List V), V.wfs vs = vs.all V.wf
 | [] => by simp [V.wfs]
 | v :: vs => by simp [V.wfs, wfs_eq vs]
theorem freshs_eq : ∀ (vs : List V), V.freshs vs = vs.all V.fresh
 | [] => by simp [V.freshs]
 | v :: vs => by simp [V.freshs, freshs_eq vs]
def V.plain : V → Bool
 | .sc v => v.flat1
 | _ => false
theorem plain_nor {v : V} (h : v.plain = true) : v.nor = true ∧ v.wf = true ∧ v.leaf = true ∧ v.old = v ∧ v.refs = [] ∧ v.fresh = true ∧ (∀ r, v.ren r = v) ∧ (∀ r, v.passed r = v) ∧ (∀ r, v.passOK r = true) ∧ (∀ n, v.lim n = true) := by
 cases v <;> simp [V.plain] at h
 simp [V.nor, V.wf, V.leaf, h, V.old, V.refs, V.fresh, V.ren, V.passed, V.passOK, V.lim]
structure Plain {α : Type} (e : Nat) (f : α → List V) : Prop where
 len : ∀ x, (f x).length = e
 pl : ∀ x, (f x).all V.plain = true
section
variable {α : Type} {e : Nat} {f : α → List V} (h : Plain e f) (xs : List α)
include h
theorem Plain.mem {v : V} (hv : v ∈ xs.flatMap f) : v.plain = true := by
 obtain ⟨x, _, hx⟩ := List.mem_flatMap.1 hv
 exact List.all_eq_true.1 (h.pl x) v hx
theorem Plain.allOf {q : V → Bool} (hq : ∀ v, v.plain = true → q v = true) : (xs.flatMap f).all q = true := List.all_eq_true.2 fun v hv => hq v (h.mem xs hv)
theorem Plain.nors : V.nors (xs.flatMap f) = true := by rw [nors_eq]; exact h.allOf xs fun v hv => (plain_nor hv).1
theorem Plain.wfs : V.wfs (xs.flatMap f) = true := by rw [wfs_eq]; exact h.allOf xs fun v hv => (plain_nor hv).2.1
theorem Plain.leaf : (xs.flatMap f).all V.leaf = true := h.allOf xs fun v hv => (plain_nor hv).2.2.1
theorem Plain.good : V.good (xs.flatMap f) = true := by unfold V.good; rw [h.nors, h.wfs, h.leaf]; rfl
end
end Go.Abs
namespace Go.Abs
end Go.Abs
namespace Go.Abs
section
variable {P : Program} {r : Option Nat} {W0 : World} {S : Nat → Prop} {p : Nat} {F0 : Nat → Nat → Option Value} {N : Nat} {D : List Deferred} {s : LS} {Q : Exit → St → Prop} {id : Nat} {l : List Oper}
end
end Go.Abs
namespace Go.Abs
end Go.Abs
namespace Go.Abs
def LoopEnd {α : Type} (C : Cx) (st : α → LS) (inv : α → Prop) (μ : α → Nat) (m : Nat) (s' : St) : Prop := ∃ x', inv x' ∧ μ x' < m ∧ Weak C s' (st x').st
@[congr] theorem LoopEnd.cg {α : Type} {C : Cx} {st : α → LS} {inv : α → Prop} {μ : α → Nat} {m : Nat} {s s' : St} (h : s = s') : LoopEnd C st inv μ m s = LoopEnd C st inv μ m s' := by subst h; rfl
end Go.Abs
namespace Go.Abs
theorem nors_app (a b : List V) : V.nors (a ++ b) = (V.nors a && V.nors b) := by simp [nors_eq]
end Go.Abs
namespace Go.Abs
section
variable {P : Program} {N p : Nat} {ops : Array Oper} {base : Nat} {masks : Option (List Nat)} {kl : Kl} {i : Nat} {l : List Oper} {s : LS} {Q : LS → Prop} {o : Oper}
end
end Go.Abs
namespace Go.Abs
open Go.IntWalk
open Go.RowKit (wrap64)
set_option linter.unusedVariables false

abbrev i64 (n : Int) : V := .sc (.int .i64 n)
abbrev bl (b : Bool) : V := .sc (.bool b)
abbrev inI (z : Int) : Prop := -9223372036854775808 ≤ z ∧ z ≤ 9223372036854775807

structure Bd where
 lo : Int
 hi : Int
 u : Bool
 deriving DecidableEq, Inhabited
abbrev mxN : Int := 1152921504606846976
structure Bd.ok (b : Bd) : Prop where
 u0 : b.u = true → b.lo = 0 ∧ b.hi = 0
 h1 : -1152921504606846976 ≤ b.lo
 h2 : b.lo ≤ b.hi
 h3 : b.hi ≤ 1152921504606846976
abbrev ints (zs : List Int) : List V := zs.flatMap fun z => [i64 z]
abbrev stm (zs : List Int) (at_ : Int) : Blk := .box [.lst false 1 zs.length (ints zs), i64 at_]
structure okS (zs : List Int) (a : Int) : Prop where
 z : ∀ z ∈ zs, inI z
 l : zs.length < 140737488355328
 a0 : 0 ≤ a
 a1 : a < 4611686018427387904
end Go.Abs
namespace Go.Abs
end Go.Abs
namespace Go.Abs
set_option linter.unusedVariables false
structure Celled {α : Type} (e : Nat) (f : α → List V) : Prop where
 len : ∀ x, (f x).length = e
 no : ∀ x, V.nors (f x) = true
 wf : ∀ x, V.wfs (f x) = true
 le : ∀ x, (f x).all V.leaf = true
 fr : ∀ x, V.freshs (f x) = true
 li : ∀ n x, V.lims n (f x) = true
section
variable {α : Type} {e : Nat} {f : α → List V} (h : Celled e f) (xs : List α)
include h
theorem Celled.nors : V.nors (xs.flatMap f) = true := by rw [nors_eq]; exact all_flatMap (fun x => by rw [← nors_eq]; exact h.no x) xs
theorem Celled.wfs : V.wfs (xs.flatMap f) = true := by rw [wfs_eq]; exact all_flatMap (fun x => by rw [← wfs_eq]; exact h.wf x) xs
theorem Celled.leaf : (xs.flatMap f).all V.leaf = true := all_flatMap h.le xs
end
end Go.Abs
namespace Go.Abs
inductive Step (S O : Type) where
 | next (s : S)
 | done (o : O)
 deriving DecidableEq
def iterF {S O : Type} (body : S → Option (Step S O)) : Nat → S → Option O
 | 0, _ => none
 | k + 1, s => match body s with
  | none => none
  | some (.next s') => iterF body k s'
  | some (.done o) => some o
def loopF {S O : Type} (body : S → Option (Step S O)) (s : S) : Option O := iterF body 10000000000000000000000000000000000000000 s
def seqF {S O : Type} (g : Option (Step S O)) (k : S → Option O) : Option O :=
 match g with
 | none => none
 | some (.next s) => k s
 | some (.done o) => some o
def letF {α β : Type} (a : α) (f : α → β) : β := f a
theorem letE {α β : Type} {a : α} {f : α → β} {r : β} (h : letF a f = r) : ∃ x, a = x ∧ f x = r := ⟨a, rfl, h⟩
theorem chkE {α : Type} {c : Prop} [Decidable c] {x : Option α} {r : α} (h : (if c then x else none) = some r) : c ∧ x = some r := by
 split at h
 ·exact ⟨‹_›, h⟩
 ·cases h
theorem bindE {α β : Type} {x : Option α} {f : α → Option β} {r : β} (h : x.bind f = some r) : ∃ y, x = some y ∧ f y = some r := by
 cases x with
 | none => cases h
 | some y => exact ⟨y, rfl, h⟩
theorem seqE {S O : Type} {g : Option (Step S O)} {k : S → Option O} {r : O} (h : seqF g k = some r) : ∃ y, g = some y ∧ (∀ s, y = .next s → k s = some r) ∧ ∀ o, y = .done o → o = r := by
 cases g with
 | none => cases h
 | some y =>
  refine ⟨y, rfl, fun s e => ?_, fun o e => ?_⟩
  ·subst e; exact h
  ·subst e; exact Option.some.inj h
theorem loopF_ok {S O : Type} {body : S → Option (Step S O)} (I : S → Prop) (μ : S → Nat) (Post : O → Prop)
  (hB : ∀ s, I s → ∃ t, body s = some t ∧ (∀ s', t = .next s' → I s' ∧ μ s' < μ s) ∧ ∀ o, t = .done o → Post o) {s : S} (h : I s) (hμ : μ s < 10000000000000000000000000000000000000000) : ∃ o, loopF body s = some o ∧ Post o := by
 have key : ∀ k s, I s → μ s < k → ∃ o, iterF body k s = some o ∧ Post o := by
  intro k
  induction k with
  | zero => intro s _ h; omega
  | succ k ih =>
   intro s hs hk
   obtain ⟨t, h1, h2, h3⟩ := hB s hs
   unfold iterF
   rw [h1]
   cases t with
   | next s' => obtain ⟨h4, h5⟩ := h2 s' rfl; exact ih s' h4 (by omega)
   | done o => exact ⟨o, rfl, h3 o rfl⟩
 exact key _ s h hμ
end Go.Abs
