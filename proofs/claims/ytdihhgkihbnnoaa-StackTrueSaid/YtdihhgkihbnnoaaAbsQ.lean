/- Laws about heaps and calls that the walks use. Conditions: as each theorem states them. -/
import Derived.Test.YtdihhgkihbnnoaaAbsP
namespace Go.Abs
set_option linter.unusedVariables false
set_option linter.unusedSimpArgs false

/-! ### a function as a whole -/
def resV (P : Program) (s : St) : ResultVar → Option V
  | .tmp t => some (s.tm t)
  | .cell a t => (fxLoad P t (s.tm a) s.mem).map (·.val)
def resVs (P : Program) (s : St) : List ResultVar → Option (List V)
  | [] => some []
  | r :: rs => match resV P s r, resVs P s rs with
    | some v, some vs => some (v :: vs)
    | _, _ => none
def resOf (P : Program) (s : St) (rs : List ResultVar) : Option V :=
  match resVs P s rs with
  | some [v] => some v
  | some vs => some (.tup vs)
  | none => none

def resSem (a : Act) : ResultVar → Sem Value
  | .tmp t => pure (a.tmps.getD t undef)
  | .cell b t => do loadVar t (← asAddr (a.tmps.getD b undef))
theorem resV_ok {P : Program} {C : Cx} {E : Env} {s : St} {a : Act} {W : World} (h : Inv C E s a W) {x : ResultVar} {v : V} (hv : resV P s x = some v) :
    ∃ c, (resSem a x).run P W = .ok c W ∧ RL E v c := by
  cases x with
  | tmp t => simp [resV] at hv; subst hv; exact ⟨_, by simp [resSem], h.tms t⟩
  | cell b t =>
    simp only [resV] at hv
    cases hf : fxLoad P t (s.tm b) s.mem with
    | none => rw [hf] at hv; cases hv
    | some fx =>
      rw [hf] at hv; simp at hv; subst hv
      obtain ⟨c, W', E', r1, r2, r3, r4⟩ := load_ok h.m (h.tms b) hf
      -- a load leaves the world as it is
      have hp : ∃ ad, a.tmps.getD b undef = .pointer (some ad) := by
        have ht := h.tms b
        unfold fxLoad at hf
        split at hf
        · split at hf
          · rename_i b' ver o hb
            rw [hb] at ht; simp only [RL] at ht
            obtain ⟨B, e, _⟩ := ht; exact ⟨_, e⟩
          · rename_i cs hb
            rw [hb] at ht; simp only [RL] at ht
            obtain ⟨B, o, e, _⟩ := ht; exact ⟨_, e⟩
          · cases hf
        · cases hf
      obtain ⟨ad, had⟩ := hp
      have hrun : ∃ c, (loadVar t ad).run P W = .ok c W ∧ RL E fx.val c := by
        have ho := load_ok h.m (h.tms b) hf
        rw [had] at ho
        unfold fxLoad at hf
        split at hf
        · rename_i ti hti
          split at hf
          · rename_i b' ver o hb
            split at hf
            · rename_i k hk
              split at hf
              · rename_i hver
                cases hl : loadV ti (k.cells.drop o) with
                | none => rw [hl] at hf; cases hf
                | some v =>
                  rw [hl] at hf; cases hf
                  have ht := h.tms b
                  rw [hb] at ht
                  obtain ⟨I, B, cur, t', g1, g2, g3, g4, e, g5, g6, g7, g8, g9⟩ := h.m.at_ ht hk hver
                  rw [had] at e; cases e
                  by_cases hne : k.cells = []
                  · rw [hne] at hl
                    unfold loadV at hl
                    simp at hl
                    obtain ⟨hz1, hz2, rfl⟩ := hl
                    exact ⟨.agg #[], by simp [loadVar, run_isAgg hti, hz1, run_sizeOf hti, hz2, Result.andThen, loadCells, loadCellsFrom], by simp only [RL]; exact ⟨[], rfl, by simp [RLs], by simp⟩⟩
                  · rcases g8 with g8 | g8
                    · exact absurd g8 hne
                    exact run_loadVar (P := P) (E := E) hti (cellsAt_heap (g5 hne) o k.cells.length) (g8.drop o) (all_drop g7 o) hl
              · cases hf
            · cases hf
          · rename_i cs hb
            cases hl : loadV ti cs with
            | none => rw [hl] at hf; cases hf
            | some v =>
              rw [hl] at hf; cases hf
              have ht := h.tms b
              rw [hb] at ht; simp only [RL] at ht
              obtain ⟨B, o, e, g1, g2⟩ := ht
              rw [had] at e; cases e
              obtain ⟨ds, g3, g4⟩ := RF.list cs o g1
              exact run_loadVar (P := P) (E := E) (W := W) hti (B := B) (o := o) (fun j d hj => h.m.frz _ _ _ (g4 j d hj)) g3 g2 hl
          · cases hf
        · cases hf
      obtain ⟨c', q1, q2⟩ := hrun
      exact ⟨c', by simp [resSem, had, asAddr, Result.andThen, q1], q2⟩
theorem resVs_ok {P : Program} {C : Cx} {E : Env} {s : St} {a : Act} {W : World} (h : Inv C E s a W) : ∀ {rs : List ResultVar} {vs : List V}, resVs P s rs = some vs →
    ∃ cs, (rs.mapM (resSem a)).run P W = .ok cs W ∧ RLs E vs cs
  | [], vs, hv => by simp [resVs] at hv; subst hv; exact ⟨[], by simp, by simp [RLs]⟩
  | x :: rs, vs, hv => by
    simp only [resVs] at hv
    split at hv
    · rename_i v vs' h1 h2
      cases hv
      obtain ⟨c, c1, c2⟩ := resV_ok h h1
      obtain ⟨cs, d1, d2⟩ := resVs_ok h h2
      exact ⟨c :: cs, by simp only [List.mapM_cons, Sem.run_bind, c1, Result.andThen, d1, Sem.run_pure], by simp only [RLs]; exact ⟨c, cs, rfl, c2, d2⟩⟩
    · cases hv
theorem resOf_ok {P : Program} {C : Cx} {E : Env} {s : St} {a : Act} {W : World} (h : Inv C E s a W) {fn : Func} {v : V} (hv : resOf P s fn.results.toList = some v) : ∃ c, (results fn a.tmps).run P W = .ok c W ∧ RL E v c := by
  unfold resOf at hv
  have run : ∀ {vs : List V} {cs : List Value}, RLs E vs cs → (fn.results.toList.mapM (resSem a)).run P W = .ok cs W →
      (results fn a.tmps).run P W = .ok (if h : cs.toArray.size = 1 then cs.toArray[0] else .tuple cs.toArray) W := by
    intro vs cs h1 h2
    have e : results fn a.tmps = (do let vs ← fn.results.mapM (resSem a); pure (if h : vs.size = 1 then vs[0] else .tuple vs)) := by
      unfold results
      congr 2
    rw [e, Array.mapM_eq_mapM_toList]
    simp only [Sem.run_bind, Sem.run_map, bind_map_left]
    rw [h2]
    rfl
  split at hv
  · rename_i v' hvs
    cases hv
    obtain ⟨cs, c1, c2⟩ := resVs_ok h hvs
    have c3 := c2
    simp only [RLs] at c2
    obtain ⟨d, ds, rfl, d1, rfl⟩ := c2
    exact ⟨d, by rw [run c3 c1]; rfl, d1⟩
  · rename_i vs hne hvs
    cases hv
    obtain ⟨cs, c1, c2⟩ := resVs_ok h hvs
    refine ⟨.tuple cs.toArray, ?_, by simp only [RL]; exact ⟨cs, rfl, c2⟩⟩
    rw [run c2 c1]
    have : ¬ cs.toArray.size = 1 := by
      intro e
      have hl := RLs.length _ _ c2
      have : vs.length = 1 := by rw [← hl]; simpa using e
      match vs, this with
      | [x], _ => exact hne x rfl
    rw [dif_neg this]
  · cases hv

/-- How a function's own is seen from outside, when it returns. -/
def retHow (mem : Nat → Option Blk) (L : Nat → Bool) (ids : Nat → Nat) (q : Nat) : How := ⟨mem, L, ids, q, id, true⟩
/-- What a function leaves: its result, and the blocks that are handed on. -/
structure Leaves (p : Nat) (s : St) (v res : V) (m' : Nat → Option Blk) : Prop where
  out : ∃ (L : Nat → Bool) (ids : Nat → Nat) (q : Nat), p ≤ q ∧ (∀ b, L b = true → p ≤ b) ∧ (∀ j, j < p → ids j = j) ∧ (∀ j, p ≤ j → j < q → p ≤ ids j) ∧ (∀ i j, i < q → j < q → ids i = ids j → i = j) ∧ (∀ j, j < q → L (ids j) = false) ∧
    (∀ j, j < q → ∃ k k', s.mem (ids j) = some k ∧ m' j = some k' ∧ BLend (retHow s.mem L ids q) k k') ∧ (∀ j, q ≤ j → m' j = none) ∧ Lend (retHow s.mem L ids q) v res

theorem Leaves.ok {W0 : World} {S : Nat → Prop} {p N : Nat} {F0 : Nat → Nat → Option Value} {D : List Deferred} {E0 E : Env} {s : St} {a : Act} {W : World} {v res : V} {m' : Nat → Option Blk} {c : Value} {m0 : Nat → Option Blk} {nx0 : Nat} (h : Inv ⟨W0, S, p, F0, N, D⟩ E s a W)
    (hm0 : InvM (cx W0 S p F0) E0 m0 nx0 W0) (hp0 : ∀ b k, m0 b = some k → b < p) (hle : E0.lep p E) (hl : Leaves p s v res m') (hc : RL E v c) : ∃ E' nx', E0.le E' ∧ InvM (cx W0 S p F0) E' m' nx' W ∧ RL E' res c := by
  obtain ⟨L, ids, q, l1, l2, l3, l4, l5, l6, l7, l8, l9⟩ := hl.out
  have htg : ∀ x, (retHow s.mem L ids q).tg x = true → x = true ∧ E.n0 ≤ E.n0 := fun x hx => ⟨hx, Nat.le_refl _⟩
  have htn : (retHow s.mem L ids q).tn = true → ∀ b I B, (retHow s.mem L ids q).L b = true → E.σ b = some I → I.dead = false → I.blk = some B → E.n0 ≤ B := fun _ b I B hb hI hd hB => by
    rcases h.m.own b I B hI hd hB with h1 | ⟨h1, _⟩
    · rw [h.m.n0]; exact h1
    · have := l2 b hb; simp at h1; omega
  have hn0 : E.n0 = W0.heap.size := h.m.n0
  have hres := Lend.ok (H := retHow s.mem L ids q) rfl h.m htg htn (n := E.n0) l9 c hc
  refine ⟨E.view W L q ids E.n0, q, ⟨by show E.n0 ≤ E0.n0; rw [hn0, hm0.n0]; exact Nat.le_refl _, fun B o d hd => lentF_le _ _ _ (hle.F B o d hd), fun b I hI => ?_⟩, ?_, hres⟩
  · obtain ⟨k, hk⟩ := hm0.dom b I hI
    have hb := hp0 b k hk
    obtain ⟨J, j1, j2⟩ := hle.σ b I hb hI
    exact ⟨J, by simp [Env.view, l3 b hb, j1]; omega, j2⟩
  · refine ⟨hn0, ?_, ?_, ?_, ?_, ?_, ?_, ?_, ?_, ?_⟩
    · intro B o d hF
      simp only [Env.view] at hF
      unfold lentF at hF
      split at hF
      · rename_i d' hd; cases hF; exact h.m.frz B o d hd
      · split at hF
        · exact hF
        · cases hF
    · intro j k' hk'
      have hj : j < q := by
        rcases Nat.lt_or_ge j q with hj | hj
        · exact hj
        · rw [l8 j hj] at hk'; cases hk'
      obtain ⟨k, k2, e1, e2, e3⟩ := l7 j hj
      rw [hk'] at e2; cases e2
      obtain ⟨I, g1, g2⟩ := h.m.blk _ _ e1
      exact ⟨I, by simp [Env.view, hj, g1], BLend.ok (H := retHow s.mem L ids q) rfl h.m htg htn e3 g2⟩
    · intro j I hI
      simp only [Env.view] at hI
      split at hI
      · rename_i hj
        obtain ⟨k, k2, e1, e2, e3⟩ := l7 j hj
        exact ⟨k2, e2⟩
      · cases hI
    · intro j k' hk'
      rcases Nat.lt_or_ge j q with hj | hj
      · exact hj
      · rw [l8 j hj] at hk'; cases hk'
    · intro i j I J B h1 h2 h3 h4 h5 h6
      simp only [Env.view] at h1 h2
      split at h1
      · rename_i hi
        split at h2
        · rename_i hj
          exact l5 i j hi hj (h.m.inj _ _ I J B h1 h2 h3 h4 h5 h6)
        · cases h2
      · cases h1
    · intro j I B h1 h2 h3 o
      simp only [Env.view] at h1
      split at h1
      · rename_i hj
        simp only [Env.view]
        unfold lentF
        rw [h.m.sep _ I B h1 h2 h3 o]
        simp only []
        rw [if_neg]
        rintro ⟨b', I', g1, g2, g3, g4⟩
        have := h.m.inj _ _ I I' B h1 g2 h2 g3 h3 g4
        subst this
        rw [l6 j hj] at g1; cases g1
      · cases h1
    · intro j I B h1 h2 h3
      simp only [Env.view] at h1
      split at h1
      · rename_i hj
        rcases h.m.own _ I B h1 h2 h3 with g | ⟨g1, g2⟩
        · exact .inl g
        · rcases Nat.lt_or_ge j p with hjp | hjp
          · exact .inr ⟨hjp, g2⟩
          · have := l4 j hjp hj; simp at g1; omega
      · cases h1
    · intro B o hB
      show lentF E W L B o = F0 B o
      have ho : E.F B o = F0 B o := h.m.old B o hB
      rw [← ho]
      unfold lentF
      cases hf : E.F B o with
      | some d => rfl
      | none =>
        simp only []
        rw [if_neg]
        rintro ⟨b', I', g1, g2, g3, g4⟩
        have := htn rfl b' I' B g1 g2 g3 g4
        rw [hn0] at this
        simp [cx] at hB
        omega
    · exact ⟨h.m.keep.os, h.m.keep.tape, h.m.keep.output, h.m.keep.size, h.m.keep.block⟩

/-- A list as slots, blocks. -/
def tl (l : List (Nat × V)) : Nat → V := fun t => match l.find? (fun x => x.1 == t) with | some x => x.2 | none => .any
def argsT (args : List V) : Nat → V := fun t => match args[t]? with | some v => v | none => .any

theorem FnM.of_awp {P : Program} {f : FuncId} {fn : Func} {c : Code} {p : Nat} {m : Nat → Option Blk} {args : List V} {Q : V → (Nat → Option Blk) → Prop} (hf : P.funcs[f]? = some fn) (hb : fn.body = some c) (hp : ∀ b k, m b = some k → b < p)
    (h : ∀ (W : World) (S : Nat → Prop) (F : Nat → Nat → Option Value), AWP P none ⟨W, S, p, F, args.length + (fn.ntmps - args.length), []⟩ c ⟨argsT args, m, p⟩
      (fun e s => (e = .normal ∨ e = .ret) ∧ ∃ v res m', resOf P s fn.results.toList = some v ∧ Leaves p s v res m' ∧ Q res m')) : FnM P f p m args Q := by
  intro E W S cargs hm hargs
  have hlen := RLs.length _ _ hargs
  refine calls_of_wp hf hb ((wpIn_wide (n := 0)).1 ?_)
  have h0 : Inv ⟨W, S, p, E.F, args.length + (fn.ntmps - args.length), []⟩ E ⟨argsT args, m, p⟩ { tmps := cargs.toArray ++ Array.replicate (fn.ntmps - cargs.toArray.size) undef, defers := [] } W := by
    refine ⟨⟨hm.n0, hm.frz, hm.blk, hm.dom, hp, hm.inj, hm.sep, hm.own, fun B o _ => rfl, hm.keep⟩, fun t => ?_, by simp [hlen], rfl⟩
    show RL E (argsT args t) _
    unfold argsT
    cases ht : args[t]? with
    | none => simp only [RL]
    | some v =>
      obtain ⟨d, d1, d2⟩ := RLs.get _ _ hargs t v ht
      have : (cargs.toArray ++ Array.replicate (fn.ntmps - cargs.toArray.size) undef).getD t undef = d := by
        have hlt : t < cargs.length := (List.getElem?_eq_some_iff.1 d1).1
        simp only [Array.getD_eq_getD_getElem?]
        rw [Array.getElem?_append_left (by simpa using hlt)]
        simp [d1]
      simp only []
      rw [this]; exact d2
  refine wpIn_mono (h W S E.F E _ W h0) ?_
  rintro e a' W' ⟨E', s', h1, h2, he, v, res, m', h3, h4, h5⟩
  have hdone : a'.defers = [] ∧ ∃ v, (results fn a'.tmps).run P W' = .ok v W' ∧ ∃ c E' res m' nx', (Ending.returned v) = .returned c ∧ E.le E' ∧ InvM (cx W S p E.F) E' m' nx' W' ∧ RL E' res c ∧ Q res m' := by
    obtain ⟨cv, c1, c2⟩ := resOf_ok h2 h3
    obtain ⟨E2, nx', e1, e2, e3⟩ := Leaves.ok h2 hm hp h1 h4 c2
    exact ⟨h2.defs, cv, c1, cv, E2, res, m', nx', rfl, e1, e2, e3, h5⟩
  rcases he with rfl | rfl
  · exact hdone
  · exact hdone
end Go.Abs
