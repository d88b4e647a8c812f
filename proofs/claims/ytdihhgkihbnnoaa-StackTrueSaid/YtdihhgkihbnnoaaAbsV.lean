/- Laws about heaps and calls that the walks use. Conditions: as each theorem states them. -/
import Derived.Test.YtdihhgkihbnnoaaAbsU
namespace Go.Abs
set_option linter.unusedVariables false
set_option linter.unusedSimpArgs false

/-! ### loops, joins -/
open Classical in
theorem AWP.loopW {P : Program} {r : Option Nat} {C : Cx} {s : St} {Q : Exit → St → Prop} {c : Code} {α : Type} (st : α → LS) (inv : α → Prop) (μ : α → Nat) (x0 : α) (h0 : inv x0) (hw : Weak C s (st x0).st)
    (round : ∀ x, inv x → AWP P r C c (st x).st (thn (fun s' => ∃ x', inv x' ∧ μ x' < μ x ∧ Weak C s' (st x').st) Q)) : AWP P r C (.loop c) s Q := by
  let J : St → Nat → Prop := fun s j => ∃ x, inv x ∧ Weak C s (st x).st ∧ μ x = j
  let m : St → Nat := fun s => if h : ∃ j, J s j then Classical.choose (exists_least h) else 0
  refine AWP.loop (fun s => ∃ j, J s j) m ⟨_, x0, h0, hw, rfl⟩ ?_
  intro s hJ
  have hm : m s = Classical.choose (exists_least hJ) := by simp only [m]; rw [dif_pos hJ]
  obtain ⟨x, h1, h2, h3⟩ := (Classical.choose_spec (exists_least hJ)).1
  refine AWP.weaken h2 ((round x h1).mono ?_)
  intro e s' he
  cases e with
  | normal =>
    obtain ⟨x', g1, g2, g3⟩ := he
    have hJ' : ∃ j, J s' j := ⟨μ x', x', g1, g3, rfl⟩
    refine ⟨hJ', ?_⟩
    have : m s' ≤ μ x' := by
      simp only [m]; rw [dif_pos hJ']
      exact (Classical.choose_spec (exists_least hJ')).2 _ ⟨x', g1, g3, rfl⟩
    rw [hm, ← h3]
    omega
  | _ => exact he
theorem AWP.seqJ {P : Program} {r : Option Nat} {C : Cx} {s : St} {Q : Exit → St → Prop} {x y : Code} {α : Type} (st : α → LS) (inv : α → Prop)
    (h : AWP P r C x s (thn (fun s' => ∃ x, inv x ∧ Weak C s' (st x).st) Q)) (hy : ∀ x, inv x → AWP P r C y (st x).st Q) : AWP P r C (.seq x y) s Q :=
  AWP.seq (h.mono fun e s' he => by
    cases e with
    | normal =>
      obtain ⟨x, g1, g2⟩ := he
      exact AWP.weaken g2 (hy x g1)
    | _ => exact he)

def cutTm (s : LS) : List Nat → List (Nat × V)
  | [] => []
  | t :: ts => (t, s.slot t) :: cutTm s ts
def cutMem (n : Nat) : List (Nat × Blk) → List (Nat × Blk)
  | [] => []
  | x :: xs => if x.1 < n then x :: cutMem n xs else cutMem n xs
/-- Only some slots are kept, and the blocks below a number. -/
def LS.cut (n : Nat) (keep : List Nat) (s : LS) : LS := ⟨cutTm s keep, cutMem n s.mem, n⟩
theorem lget_cutTm (s : LS) : ∀ (ts : List Nat) (t : Nat), lget (cutTm s ts) t = if ts.contains t then some (s.slot t) else none
  | [], t => by simp [cutTm, lget]
  | x :: ts, t => by
    unfold cutTm lget
    by_cases h : x = t
    · subst h; simp
    · rw [if_neg h, lget_cutTm s ts t]
      have : t ≠ x := fun e => h e.symm
      simp [this]
theorem lget_cutMem (n : Nat) : ∀ (m : List (Nat × Blk)) (b : Nat), lget (cutMem n m) b = if b < n then lget m b else none
  | [], b => by simp [cutMem, lget]
  | x :: m, b => by
    unfold cutMem
    split
    · rename_i hx
      simp only [lget]
      by_cases h : x.1 = b
      · subst h; simp [hx]
      · simp only [h, if_false]; exact lget_cutMem n m b
    · rename_i hx
      rw [lget_cutMem n m b]
      split
      · rename_i hb
        simp only [lget]
        rw [if_neg (by omega)]
      · rfl
def limsB (n : Nat) : List (Nat × V) → Bool
  | [] => true
  | x :: xs => V.lim n x.2 && limsB n xs
def limsM (n : Nat) : List (Nat × Blk) → Bool
  | [] => true
  | x :: xs => Blk.lim n x.2 && limsM n xs
theorem limsB_ok (n : Nat) : ∀ (l : List (Nat × V)) (t : Nat) (v : V), limsB n l = true → lget l t = some v → V.lim n v = true
  | [], t, v, h, hv => by simp [lget] at hv
  | x :: xs, t, v, h, hv => by
    simp only [limsB, Bool.and_eq_true] at h
    simp only [lget] at hv
    split at hv
    · cases hv; exact h.1
    · exact limsB_ok n xs t v h.2 hv
theorem limsM_ok (n : Nat) : ∀ (l : List (Nat × Blk)) (t : Nat) (v : Blk), limsM n l = true → lget l t = some v → Blk.lim n v = true
  | [], t, v, h, hv => by simp [lget] at hv
  | x :: xs, t, v, h, hv => by
    simp only [limsM, Bool.and_eq_true] at h
    simp only [lget] at hv
    split at hv
    · cases hv; exact h.1
    · exact limsM_ok n xs t v h.2 hv
theorem Weak.cutL {W0 : World} {S : Nat → Prop} {p : Nat} {F0 : Nat → Nat → Option Value} {N : Nat} {D : List Deferred} {s s' : LS} (n : Nat) (keep : List Nat) (hp : p ≤ n) (he : s.cut n keep = s') (h1 : limsB n s'.tm = true) (h2 : limsM n s'.mem = true) : Weak ⟨W0, S, p, F0, N, D⟩ s.st s'.st := by
  subst he
  refine Weak.cut n hp rfl (fun t => ?_) (fun b => ?_) (fun b k hk => limsM_ok n _ b k h2 hk)
  · show (LS.slot _ t) = .any ∨ (LS.slot _ t) = s.slot t ∧ V.lim n (LS.slot _ t) = true
    unfold LS.slot
    show (lget (cutTm s keep) t).getD .any = .any ∨ (lget (cutTm s keep) t).getD .any = _ ∧ _
    have := lget_cutTm s keep t
    split at this
    · right
      rw [this]
      refine ⟨rfl, ?_⟩
      have h3 : V.lim n (s.slot t) = true := limsB_ok n _ t _ h1 this
      have h4 : lget (LS.cut n keep s).tm t = some (s.slot t) := this
      rw [h4]; exact h3
    · left; rw [this]; rfl
  · exact lget_cutMem n s.mem b
/-- A nil slice is an own empty row. -/
theorem Weak.nilL {C : Cx} {s : LS} (t te e : Nat) (he : 0 < e) (ht : s.slot t = .sc (.slice none 0 0)) :
    Weak C s.st (⟨lput s.tm t (.sl s.nx 0 e 0 0), lput s.mem s.nx (.arr te e 0 []), s.nx + 1⟩ : LS).st := by
  have := Weak.nilRow (C := C) (s := s.st) t te e he ht
  have e1 : (⟨lput s.tm t (.sl s.nx 0 e 0 0), lput s.mem s.nx (.arr te e 0 []), s.nx + 1⟩ : LS).st = { tm := upd s.st.tm t (.sl s.st.nx 0 e 0 0), mem := upd s.st.mem s.st.nx (some (.arr te e 0 [])), nx := s.st.nx + 1 } := by
    unfold LS.st
    congr 1
    · funext j
      simp only [LS.slot, lget_lput, upd]
      split <;> rfl
    · funext j
      simp only [lget_lput, upd]
  rw [e1]; exact this
theorem AWP.nilL {P : Program} {r : Option Nat} {C : Cx} {s : LS} {Q : Exit → St → Prop} {c : Code} (t te e : Nat) (he : 0 < e) (ht : s.slot t = .sc (.slice none 0 0))
    (h : AWP P r C c (⟨lput s.tm t (.sl s.nx 0 e 0 0), lput s.mem s.nx (.arr te e 0 []), s.nx + 1⟩ : LS).st Q) : AWP P r C c s.st Q := AWP.weaken (Weak.nilL t te e he ht) h
theorem AWP.cutL {P : Program} {r : Option Nat} {W0 : World} {S : Nat → Prop} {p : Nat} {F0 : Nat → Nat → Option Value} {N : Nat} {D : List Deferred} {s : LS} {Q : Exit → St → Prop} {c : Code} (n : Nat) (keep : List Nat) (hp : p ≤ n) (h1 : limsB n (s.cut n keep).tm = true) (h2 : limsM n (s.cut n keep).mem = true)
    (h : AWP P r ⟨W0, S, p, F0, N, D⟩ c (s.cut n keep).st Q) : AWP P r ⟨W0, S, p, F0, N, D⟩ c s.st Q := AWP.weaken (Weak.cutL n keep hp rfl h1 h2) h

/-! ### rows of elements -/
def cellsAt (cs : List V) (e i : Nat) : List V := (cs.drop (i * e)).take e
theorem cellsAt_flat {α : Type} {f : α → List V} {e : Nat} (hf : ∀ x, (f x).length = e) : ∀ (xs : List α) (i : Nat) (hi : i < xs.length), ((xs.flatMap f).drop (i * e)).take e = f xs[i]
  | [], i, hi => by simp at hi
  | x :: xs, 0, hi => by
    simp only [List.flatMap_cons, Nat.zero_mul, List.drop_zero, List.getElem_cons_zero]
    rw [List.take_append_of_le_length (by rw [hf]; exact Nat.le_refl _), List.take_of_length_le (by rw [hf]; exact Nat.le_refl _)]
  | x :: xs, i + 1, hi => by
    simp only [List.flatMap_cons, List.getElem_cons_succ]
    rw [List.drop_append, hf, List.drop_of_length_le (by rw [hf, Nat.succ_mul]; omega), List.nil_append, Nat.succ_mul, Nat.add_sub_cancel]
    exact cellsAt_flat hf xs i (by simpa using hi)
theorem flat_length {α : Type} {f : α → List V} {e : Nat} (hf : ∀ x, (f x).length = e) : ∀ (xs : List α), (xs.flatMap f).length = xs.length * e
  | [] => by simp
  | x :: xs => by rw [List.flatMap_cons, List.length_append, hf, flat_length hf xs, List.length_cons, Nat.succ_mul, Nat.add_comm]
/-- The read-only row of things. -/
def row {α : Type} (new : Bool) (e : Nat) (f : α → List V) (xs : List α) : V := .lst new e xs.length (xs.flatMap f)
theorem all_flatMap {α : Type} {f : α → List V} {q : V → Bool} (hf : ∀ x, (f x).all q = true) (xs : List α) : (xs.flatMap f).all q = true := by
  rw [List.all_flatMap]
  simp [hf]
theorem nors_eq : ∀ (vs : List V), V.nors vs = vs.all V.nor
  | [] => by simp [V.nors]
  | v :: vs => by simp [V.nors, nors_eq vs]
theorem wfs_eq : ∀ (vs : List V), V.wfs vs = vs.all V.wf
  | [] => by simp [V.wfs]
  | v :: vs => by simp [V.wfs, wfs_eq vs]
theorem olds_eq : ∀ (vs : List V), V.olds vs = vs.map V.old
  | [] => by simp [V.olds]
  | v :: vs => by simp [V.olds, olds_eq vs]
theorem rens_eq (r : Nat → Nat) : ∀ (vs : List V), V.rens r vs = vs.map (V.ren r)
  | [] => by simp [V.rens]
  | v :: vs => by simp [V.rens, rens_eq r vs]
theorem passeds_eq (r : List Nat) : ∀ (vs : List V), V.passeds r vs = vs.map (V.passed r)
  | [] => by simp [V.passeds]
  | v :: vs => by simp [V.passeds, passeds_eq r vs]
theorem passOKs_eq (r : List Nat) : ∀ (vs : List V), V.passOKs r vs = vs.all (V.passOK r)
  | [] => by simp [V.passOKs]
  | v :: vs => by simp [V.passOKs, passOKs_eq r vs]
theorem refss_eq : ∀ (vs : List V), V.refss vs = vs.flatMap V.refs
  | [] => by simp [V.refss]
  | v :: vs => by simp [V.refss, refss_eq vs]
theorem lims_eq (n : Nat) : ∀ (vs : List V), V.lims n vs = vs.all (V.lim n)
  | [] => by simp [V.lims]
  | v :: vs => by simp [V.lims, lims_eq n vs]
theorem freshs_eq : ∀ (vs : List V), V.freshs vs = vs.all V.fresh
  | [] => by simp [V.freshs]
  | v :: vs => by simp [V.freshs, freshs_eq vs]
/-- Plain scalars: no rewriting changes them. -/
def V.plain : V → Bool
  | .sc v => v.flat1
  | _ => false
theorem plain_nor {v : V} (h : v.plain = true) : v.nor = true ∧ v.wf = true ∧ v.leaf = true ∧ v.old = v ∧ v.refs = [] ∧ v.fresh = true ∧ (∀ r, v.ren r = v) ∧ (∀ r, v.passed r = v) ∧ (∀ r, v.passOK r = true) ∧ (∀ n, v.lim n = true) := by
  cases v <;> simp [V.plain] at h
  simp [V.nor, V.wf, V.leaf, h, V.old, V.refs, V.fresh, V.ren, V.passed, V.passOK, V.lim]
/-- Rows of plain things. -/
structure Plain {α : Type} (e : Nat) (f : α → List V) : Prop where
  len : ∀ x, (f x).length = e
  pl : ∀ x, (f x).all V.plain = true
section
variable {α : Type} {e : Nat} {f : α → List V} (h : Plain e f) (xs : List α)
include h
theorem Plain.mem {v : V} (hv : v ∈ xs.flatMap f) : v.plain = true := by
  obtain ⟨x, _, hx⟩ := List.mem_flatMap.1 hv
  exact List.all_eq_true.1 (h.pl x) v hx
theorem Plain.allOf {q : V → Bool} (hq : ∀ v, v.plain = true → q v = true) : (xs.flatMap f).all q = true := List.all_eq_true.2 fun v hv => hq v (h.mem xs hv)
theorem Plain.nors : V.nors (xs.flatMap f) = true := by rw [nors_eq]; exact h.allOf xs fun v hv => (plain_nor hv).1
theorem Plain.wfs : V.wfs (xs.flatMap f) = true := by rw [wfs_eq]; exact h.allOf xs fun v hv => (plain_nor hv).2.1
theorem Plain.leaf : (xs.flatMap f).all V.leaf = true := h.allOf xs fun v hv => (plain_nor hv).2.2.1
theorem Plain.good : V.good (xs.flatMap f) = true := by unfold V.good; rw [h.nors, h.wfs, h.leaf]; rfl
theorem Plain.mapId {g : V → V} (hg : ∀ v, v.plain = true → g v = v) : (xs.flatMap f).map g = xs.flatMap f := by
  conv => rhs; rw [← List.map_id (xs.flatMap f)]
  exact List.map_congr_left fun v hv => hg v (h.mem xs hv)
theorem Plain.olds : V.olds (xs.flatMap f) = xs.flatMap f := by rw [olds_eq]; exact h.mapId xs fun v hv => (plain_nor hv).2.2.2.1
theorem Plain.freshs : V.freshs (xs.flatMap f) = true := by rw [freshs_eq]; exact h.allOf xs fun v hv => (plain_nor hv).2.2.2.2.2.1
theorem Plain.rens (r : Nat → Nat) : V.rens r (xs.flatMap f) = xs.flatMap f := by rw [rens_eq]; exact h.mapId xs fun v hv => (plain_nor hv).2.2.2.2.2.2.1 r
theorem Plain.passeds (r : List Nat) : V.passeds r (xs.flatMap f) = xs.flatMap f := by rw [passeds_eq]; exact h.mapId xs fun v hv => (plain_nor hv).2.2.2.2.2.2.2.1 r
theorem Plain.passOKs (r : List Nat) : V.passOKs r (xs.flatMap f) = true := by rw [passOKs_eq]; exact h.allOf xs fun v hv => (plain_nor hv).2.2.2.2.2.2.2.2.1 r
theorem Plain.lims (n : Nat) : V.lims n (xs.flatMap f) = true := by rw [lims_eq]; exact h.allOf xs fun v hv => (plain_nor hv).2.2.2.2.2.2.2.2.2 n
theorem Plain.refss : V.refss (xs.flatMap f) = [] := by
  rw [refss_eq]
  refine List.flatMap_eq_nil_iff.2 fun v hv => (plain_nor (h.mem xs hv)).2.2.2.2.1
theorem Plain.at (i : Nat) (hi : i < xs.length) : ((xs.flatMap f).drop (i * e)).take e = f xs[i] := cellsAt_flat h.len xs i hi
theorem Plain.takeAll : (xs.flatMap f).take (xs.length * e) = xs.flatMap f := List.take_of_length_le (by rw [flat_length h.len xs]; exact Nat.le_refl _)
theorem Plain.length : (xs.flatMap f).length = xs.length * e := flat_length h.len xs
end
theorem range_0 : List.range 0 = [] := rfl
theorem range_1 : List.range 1 = [0] := rfl
theorem range_2 : List.range 2 = [0, 1] := rfl
theorem range_3 : List.range 3 = [0, 1, 2] := rfl
end Go.Abs
namespace Go.Abs
def callOf : Oper → Option FuncId
  | { op := .call { callee := .value (.func f), .. }, .. } => some f
  | _ => none
/-- Where a region calls one of these. -/
def callIdxA (fids : List FuncId) : Nat → List Oper → List Nat
  | _, [] => []
  | i, o :: l => match callOf o with
    | some f => if fids.contains f then i :: callIdxA fids (i + 1) l else callIdxA fids (i + 1) l
    | none => callIdxA fids (i + 1) l
/-- What the loads and stores of a region touch whose address stands in a slot that the region leaves alone. -/
def tmapOf (l : List Oper) (s : LS) : List (Option (List Nat)) := l.map fun o =>
  match o.op with
  | .load _ (.tmp t) | .store _ (.tmp t) _ => if (l.any fun o' => o'.dst == some t) then none else some (refs1 (s.slot t))
  | _ => none
def callIdx (fids : List FuncId) (i : Nat) (l : List Oper) : List Nat := callIdxA fids i l
end Go.Abs
namespace Go.Abs
section
variable {P : Program} {r : Option Nat} {W0 : World} {S : Nat → Prop} {p : Nat} {F0 : Nat → Nat → Option Value} {N : Nat} {D : List Deferred} {s : LS} {Q : Exit → St → Prop} {id : Nat} {l : List Oper}
theorem AWP.drawC (fids : List FuncId) (hm : P.follows .mixedOrders = true) (hok : okDraw l.toArray (Region.before l.toArray).toList ⟨callIdx fids 0 l, tmapOf l s⟩ = true)
    (h : ∀ ms kl, ms = (Region.before l.toArray).toList → kl = ⟨callIdx fids 0 l, tmapOf l s⟩ → RunK P N p l.toArray s.nx (some ms) kl 0 l { s with nx := s.nx + 4 * l.length } fun s' => Q .normal s'.st) : AWP P r ⟨W0, S, p, F0, N, D⟩ (.region id l.toArray true) s.st Q :=
  AWP.drawK _ _ hm hok (h _ _ rfl rfl)
end
end Go.Abs
namespace Go.Abs
theorem beqT (b : Bool) : (b == true) = b := by cases b <;> rfl
theorem beqF (b : Bool) : (b == false) = !b := by cases b <;> rfl
end Go.Abs
namespace Go.Abs
/-- What the end of a round owes. -/
def LoopEnd {α : Type} (C : Cx) (st : α → LS) (inv : α → Prop) (μ : α → Nat) (m : Nat) (s' : St) : Prop := ∃ x', inv x' ∧ μ x' < m ∧ Weak C s' (st x').st
theorem LoopEnd.here {α : Type} {C : Cx} {st : α → LS} {inv : α → Prop} {μ : α → Nat} {m : Nat} {s' : St} (h : LoopEnd C st inv μ m s') : LoopEnd C st inv μ m s' := h
@[congr] theorem LoopEnd.cg {α : Type} {C : Cx} {st : α → LS} {inv : α → Prop} {μ : α → Nat} {m : Nat} {s s' : St} (h : s = s') : LoopEnd C st inv μ m s = LoopEnd C st inv μ m s' := by subst h; rfl
theorem AWP.loopK {P : Program} {r : Option Nat} {W0 : World} {S : Nat → Prop} {p : Nat} {F0 : Nat → Nat → Option Value} {N : Nat} {D : List Deferred} {s : LS} {Q : Exit → St → Prop} {c : Code} {α : Type} (st : α → LS) (inv : α → Prop) (μ : α → Nat) (n : Nat) (keep : List Nat) (x0 : α) (h0 : inv x0)
    (hp : p ≤ n) (he : s.cut n keep = st x0) (h1 : limsB n (st x0).tm = true) (h2 : limsM n (st x0).mem = true)
    (round : ∀ x, inv x → AWP P r ⟨W0, S, p, F0, N, D⟩ c (st x).st (thn (LoopEnd ⟨W0, S, p, F0, N, D⟩ st inv μ (μ x)) Q)) : AWP P r ⟨W0, S, p, F0, N, D⟩ (.loop c) s.st Q :=
  AWP.loopW st inv μ x0 h0 (Weak.cutL n keep hp he h1 h2) round
theorem LoopEnd.cut {W0 : World} {S : Nat → Prop} {p : Nat} {F0 : Nat → Nat → Option Value} {N : Nat} {D : List Deferred} {α : Type} {st : α → LS} {inv : α → Prop} {μ : α → Nat} {m : Nat} {s : LS} (n : Nat) (keep : List Nat) (x' : α) (hi : inv x') (hμ : μ x' < m) (hp : p ≤ n) (he : s.cut n keep = st x') (h1 : limsB n (st x').tm = true) (h2 : limsM n (st x').mem = true) : LoopEnd ⟨W0, S, p, F0, N, D⟩ st inv μ m s.st :=
  ⟨x', hi, hμ, Weak.cutL n keep hp he h1 h2⟩
end Go.Abs
namespace Go.Abs
theorem nors_app (a b : List V) : V.nors (a ++ b) = (V.nors a && V.nors b) := by simp [nors_eq]
theorem wfs_app (a b : List V) : V.wfs (a ++ b) = (V.wfs a && V.wfs b) := by simp [wfs_eq]
theorem olds_app (a b : List V) : V.olds (a ++ b) = V.olds a ++ V.olds b := by simp [olds_eq]
theorem rens_app (r : Nat → Nat) (a b : List V) : V.rens r (a ++ b) = V.rens r a ++ V.rens r b := by simp [rens_eq]
theorem passeds_app (r : List Nat) (a b : List V) : V.passeds r (a ++ b) = V.passeds r a ++ V.passeds r b := by simp [passeds_eq]
theorem passOKs_app (r : List Nat) (a b : List V) : V.passOKs r (a ++ b) = (V.passOKs r a && V.passOKs r b) := by simp [passOKs_eq]
theorem refss_app (a b : List V) : V.refss (a ++ b) = V.refss a ++ V.refss b := by simp [refss_eq]
theorem lims_app (n : Nat) (a b : List V) : V.lims n (a ++ b) = (V.lims n a && V.lims n b) := by simp [lims_eq]
theorem freshs_app (a b : List V) : V.freshs (a ++ b) = (V.freshs a && V.freshs b) := by simp [freshs_eq]
end Go.Abs
namespace Go.Abs
section
variable {P : Program} {N p : Nat} {ops : Array Oper} {base : Nat} {masks : Option (List Nat)} {kl : Kl} {i : Nat} {l : List Oper} {s : LS} {Q : LS → Prop} {o : Oper}
/-- A call: what it names of our own is lent. -/
theorem RunK.callA {f : Operand} {args : Array Operand} {ts : Array TypeId} {fid : FuncId} (hop : o.op = .call { callee := .value f, args, argTypes := ts }) (hcb : callable P fid = true)
    (h : dstOK N o.dst = true ∧ wantedL ops s o = some true ∧ onFn (s.ev f) fid fun caps => lchk base masks kl i (nubA [] (V.refss (args.toList.map s.ev ++ caps))) = true ∧ lendsK (lget s.mem) (nubA [] (V.refss (args.toList.map s.ev ++ caps))) (args.toList.map s.ev ++ caps) fun args' =>
      ∃ res, FnP P fid args' res ∧ (V.fresh res = true ∨ nubA [] (V.refss (args.toList.map s.ev ++ caps)) = []) ∧ RunK P N p ops base masks kl (i + 1) l (s.app o.dst res []) Q) : RunK P N p ops base masks kl i (o :: l) s Q := by
  obtain ⟨h1, h2, h4⟩ := h
  unfold onFn at h4
  split at h4
  · rename_i f' caps hf
    obtain ⟨rfl, h3, h4⟩ := h4
    obtain ⟨args', h5, res, h6, h7, h8⟩ := lendsK_ok _ _ h4
    exact RunK.call _ h6 hop h1 h2 hf hcb h5 h7 h3 h8
  · exact h4.elim
end
end Go.Abs
