/- Laws about heaps and calls that the walks use. Conditions: as each theorem states them. -/
import Derived.Test.YtdihhgkihbnnoaaAbsYc
import Derived.Laws.StructEq
namespace Go.Abs
open Go.RowKit
set_option linter.unusedVariables false
set_option linter.unusedSimpArgs false
/-! ### equality of structs -/
def partsOf (P : Program) (t : TypeId) (cs : List V) (off : Nat) : Option (List V) :=
  match tiOf P t with
  | some ti => if off + ti.size ≤ cs.length then some ((cs.drop off).take ti.size) else none
  | none => none
def foldEq (f : Field → Option Bool) : List Field → Option Bool
  | [] => some true
  | g :: r => if g.name == "_" then none else match f g, foldEq f r with
    | some a, some b => some (a && b)
    | _, _ => none
/-- Whether two things that lie in cells are equal. -/
def eqCells (P : Program) : Nat → TypeId → List V → List V → Option Bool
  | 0, _, _, _ => none
  | d + 1, t, xs, ys => match P.underlying t with
    | some .bool => match xs, ys with
      | [.sc (.bool a)], [.sc (.bool b)] => some (a == b)
      | _, _ => none
    | some (.int _) => match xs, ys with
      | [.sc (.int k a)], [.sc (.int k' b)] => if k = k' then some (a == b) else none
      | _, _ => none
    | some (.struct fs) => if P.stoodInHeld t = true then none else
        foldEq (fun g => match partsOf P g.type xs g.offset, partsOf P g.type ys g.offset with
          | some x, some y => eqCells P d g.type x y
          | _, _ => none) fs.toList
    | _ => none
/-- A thing as it is handed on, by its cells. -/
def asV (P : Program) (t : TypeId) (cs : List V) : Option V :=
  match tiOf P t with
  | some ti => if ti.k.isAgg then some (.agg cs) else match cs with
    | [x] => some x
    | _ => none
  | none => none
section
variable {P : Program} {W : World} {E : Env}
theorem ti_und {t : TypeId} {ti : TI} {d : TypeDesc} (h : tiOf P t = some ti) (hu : P.underlying t = some d) : ti.k = tkOf d := by
  obtain ⟨i, d', z, h1, h2, h3, h4, h5, h6, h7⟩ := ti_info h
  rw [hu] at h2; cases h2; exact h7
/-- A part, as a value. -/
theorem parts_asV {t : TypeId} {cs x : List V} {off : Nat} {v : V} {ds : List Value} (h : partsOf P t cs off = some x) (hv : asV P t x = some v) (hr : RLs E cs ds) (hl : cs.all V.leaf = true) :
    ∃ c, (part t ds.toArray off).run P W = .ok c W ∧ RL E v c := by
  unfold partsOf at h
  unfold asV at hv
  split at h
  · rename_i ti hti
    rw [hti] at hv
    simp only [] at hv
    split at h
    · rename_i hle
      cases h
      refine part_ok (P := P) (W := W) hti hr hl ?_
      split at hv
      · rename_i ha; rw [if_pos ha, if_pos hle]; exact hv
      · rename_i ha
        rw [if_neg ha]
        split at hv
        · rename_i y hy
          cases hv
          cases hc : cs.drop off with
          | nil => rw [hc] at hy; simp at hy
          | cons z zs =>
            rw [hc] at hy
            cases hs : ti.size with
            | zero => rw [hs] at hy; simp at hy
            | succ n =>
              rw [hs] at hy
              simp at hy
              have : cs[off]? = (cs.drop off)[0]? := by rw [List.getElem?_drop]; simp
              rw [this, hc, ← hy.1]; rfl
        · cases hv
    · cases h
  · cases h
theorem asV_some {t : TypeId} {xs : List V} {d : Nat} {ys : List V} {r : Bool} (h : eqCells P d t xs ys = some r) {ti : TI} (hti : tiOf P t = some ti) : (∃ v, asV P t xs = some v) ∧ ∃ w, asV P t ys = some w := by
  unfold asV
  rw [hti]
  simp only []
  by_cases ha : ti.k.isAgg = true
  · rw [if_pos ha, if_pos ha]; exact ⟨⟨_, rfl⟩, _, rfl⟩
  · rw [if_neg ha, if_neg ha]
    cases d with
    | zero => cases h
    | succ d =>
      unfold eqCells at h
      split at h
      · split at h
        · exact ⟨⟨_, rfl⟩, _, rfl⟩
        · cases h
      · split at h
        · exact ⟨⟨_, rfl⟩, _, rfl⟩
        · cases h
      · rename_i fs hu
        have := ti_und hti hu
        rw [this] at ha
        exact absurd rfl ha
      · cases h
theorem eqCells_ok : ∀ (d : Nat) (t : TypeId) (xs ys : List V) (r : Bool) (v w : V) (c e : Value), eqCells P d t xs ys = some r → asV P t xs = some v → asV P t ys = some w → RL E v c → RL E w e → (Op.equalIn d t c e).run P W = .ok r W
  | 0, t, xs, ys, r, v, w, c, e, h, _, _, _, _ => by cases h
  | d + 1, t, xs, ys, r, v, w, c, e, h, hv, hw, hc, he => by
    unfold asV at hv hw
    cases hti : tiOf P t with
    | none => rw [hti] at hv; cases hv
    | some ti =>
    rw [hti] at hv hw
    simp only [] at hv hw
    unfold eqCells at h
    split at h
    · rename_i hu
      have hk := ti_und hti hu
      have ha : ¬ ti.k.isAgg = true := by rw [hk]; decide
      rw [if_neg ha] at hv hw
      split at h
      · rename_i a b
        cases h; cases hv; cases hw
        simp only [RL] at hc he
        subst hc; subst he
        rw [Op.equalIn]
        simp only [Sem.run_bind, run_underlying hu, Result.andThen, Sem.run_pure]
      · cases h
    · rename_i k0 hu
      have hk := ti_und hti hu
      have ha : ¬ ti.k.isAgg = true := by rw [hk]; simp [tkOf, TK.isAgg]
      rw [if_neg ha] at hv hw
      split at h
      · rename_i k a k' b
        split at h
        · rename_i hkk
          cases h; cases hv; cases hw
          simp only [RL] at hc he
          subst hc; subst he; subst hkk
          rw [Op.equalIn]
          simp only [Sem.run_bind, run_underlying hu, Result.andThen, Sem.run_pure, if_true]
        · cases h
      · cases h
    · rename_i fs hu
      have hk := ti_und hti hu
      have ha : ti.k.isAgg = true := by rw [hk]; rfl
      rw [if_pos ha] at hv hw
      cases hv; cases hw
      split at h
      · cases h
      · rename_i hp
        simp only [RL] at hc he
        obtain ⟨cs, rfl, c1, c2⟩ := hc
        obtain ⟨es, rfl, e1, e2⟩ := he
        have hf : P.fieldsOf t = fs := by simp [Program.fieldsOf, hu]
        rw [run_equalIn_struct (P := P) W d t _ _ (by rw [hf]; exact hu) (by simpa using hp), hf]
        generalize fs.toList = l at h
        clear hu hk hf
        induction l generalizing r with
        | nil => simp only [foldEq] at h; cases h; simp [Op.eqFields]
        | cons f l ih =>
          unfold foldEq at h
          split at h
          · cases h
          · rename_i hn
            have hn' : f.name ≠ "_" := by simpa using hn
            split at h
            · rename_i q s hq hs
              cases h
              split at hq
              · rename_i x y hx hy
                have ih' := ih s hs
                obtain ⟨tj, htj⟩ : ∃ tj, tiOf P f.type = some tj := by
                  unfold partsOf at hx
                  split at hx
                  · exact ⟨_, ‹_›⟩
                  · cases hx
                obtain ⟨⟨vx, hvx⟩, vy, hvy⟩ := asV_some hq htj
                obtain ⟨a, a1, a2⟩ := parts_asV (W := W) hx hvx c1 c2
                obtain ⟨b, b1, b2⟩ := parts_asV (W := W) hy hvy e1 e2
                have he := eqCells_ok d f.type x y q vx vy a b hq hvx hvy a2 b2
                rw [Op.eqFields]
                simp only [if_pos hn', Sem.run_bind, a1, b1, he, Result.andThen_ok]
                cases q
                · simp
                · simpa using ih'
              · cases hq
            · cases h
    · cases h
end
section
variable {c : RX} {i : Nat} {l : List Oper} {tm : List (Nat × V)} {mem : List (Nat × Blk)} {nx : Nat} {Q : LS → Prop} {d : Tmp} {op : Op} {ty : TypeId} {ps : String} {af : Array Edge} {g : Option (Nat × Bool)}
theorem rawC {v : V} (hw : Wt c ⟨tm, mem, nx⟩ ⟨some d, op, ty, ps, af, g⟩) (hro : rawOp op = true) (hs : ∀ (ρ : Operand → Value) (E : Env) (W : World), (∀ x ∈ op.operands, RL E ((LS.mk tm mem nx).ev x) (ρ x)) → ∃ e, (execOp ρ ⟨some d, op, ty, ps, af, g⟩).run c.P W = .ok (.value e) W ∧ RL E v e)
    (h : RunC c (i + 1) l ⟨(d, v) :: tm, mem, nx⟩ Q) : RunC c i (⟨some d, op, ty, ps, af, g⟩ :: l) ⟨tm, mem, nx⟩ Q :=
  RunC.act (e := ⟨v, []⟩) (t := []) (w := false) (fun _ => Act1.raw hw hro fun ρ E W hρ => hs ρ E W fun x hx => by rw [← LS.st_ev]; exact hρ x hx) (fun ho => chk_nil ho rfl) (fun x hx => by cases hx) h
theorem eqG {P : Program} {bop : BinOp} {t : TypeId} {x y : Operand} {a b : Array Value} {W : World} (hg : P.eqGuardType P.depth t = false) : (eqGuard bop t x y (.agg a) (.agg b)).run P W = .ok () W := by
  unfold eqGuard; split <;> simp [hg]
/-- Equality of structs. -/
theorem es {t t' : TypeId} {x y : Operand} {cs ds : List V} {r : Bool} (hw : Wt c ⟨tm, mem, nx⟩ ⟨some d, .binOp .eql t x y t', ty, ps, af, g⟩) (hx : (LS.mk tm mem nx).ev x = .agg cs) (hy : (LS.mk tm mem nx).ev y = .agg ds) (ht : ((tiOf c.P t).map fun ti => ti.k.isAgg) = some true) (hg : c.P.eqGuardType c.P.depth t = false) (he : eqCells c.P 10000 t cs ds = some r)
    (h : RunC c (i + 1) l ⟨(d, .sc (.bool r)) :: tm, mem, nx⟩ Q) : RunC c i (⟨some d, .binOp .eql t x y t', ty, ps, af, g⟩ :: l) ⟨tm, mem, nx⟩ Q :=
  rawC hw rfl (fun ρ E W hρ => by
    have h1 := hρ x (by simp [Op.operands])
    have h2 := hρ y (by simp [Op.operands])
    rw [hx] at h1; rw [hy] at h2
    have hv : ∀ q, asV c.P t q = some (.agg q) := fun q => by
      unfold asV
      cases hti : tiOf c.P t with
      | none => rw [hti] at ht; cases ht
      | some ti => rw [hti] at ht; simp at ht; simp [ht]
    have key := eqCells_ok (P := c.P) (W := W) (E := E) 10000 t cs ds r _ _ _ _ he (hv _) (hv _) h1 h2
    simp only [RL] at h1 h2
    obtain ⟨as_, e1, _⟩ := h1
    obtain ⟨bs_, e2, _⟩ := h2
    refine ⟨.bool r, ?_, by simp only [RL]⟩
    rw [e1, e2] at key
    have key' : (Op.equal t (.agg as_.toArray) (.agg bs_.toArray)).run c.P W = .ok r W := key
    simp [execOp, e1, e2, eqG hg, binOp, key', Result.andThen]) h
theorem ns {t t' : TypeId} {x y : Operand} {cs ds : List V} {r : Bool} (hw : Wt c ⟨tm, mem, nx⟩ ⟨some d, .binOp .neq t x y t', ty, ps, af, g⟩) (hx : (LS.mk tm mem nx).ev x = .agg cs) (hy : (LS.mk tm mem nx).ev y = .agg ds) (ht : ((tiOf c.P t).map fun ti => ti.k.isAgg) = some true) (hg : c.P.eqGuardType c.P.depth t = false) (he : eqCells c.P 10000 t cs ds = some r)
    (h : RunC c (i + 1) l ⟨(d, .sc (.bool !r)) :: tm, mem, nx⟩ Q) : RunC c i (⟨some d, .binOp .neq t x y t', ty, ps, af, g⟩ :: l) ⟨tm, mem, nx⟩ Q :=
  rawC hw rfl (fun ρ E W hρ => by
    have h1 := hρ x (by simp [Op.operands])
    have h2 := hρ y (by simp [Op.operands])
    rw [hx] at h1; rw [hy] at h2
    have hv : ∀ q, asV c.P t q = some (.agg q) := fun q => by
      unfold asV
      cases hti : tiOf c.P t with
      | none => rw [hti] at ht; cases ht
      | some ti => rw [hti] at ht; simp at ht; simp [ht]
    have key := eqCells_ok (P := c.P) (W := W) (E := E) 10000 t cs ds r _ _ _ _ he (hv _) (hv _) h1 h2
    simp only [RL] at h1 h2
    obtain ⟨as_, e1, _⟩ := h1
    obtain ⟨bs_, e2, _⟩ := h2
    refine ⟨.bool !r, ?_, by simp only [RL]⟩
    rw [e1, e2] at key
    have key' : (Op.equal t (.agg as_.toArray) (.agg bs_.toArray)).run c.P W = .ok r W := key
    simp [execOp, e1, e2, eqG hg, binOp, key', Result.andThen]) h
/-! comparing a slice with nil -/
/-- What a piece does whose slice may or may not be nil. -/
def nilF {α β : Type} [DecidableEq α] (xs : List β) (a b : Option α) : Option α := if xs.isEmpty = true then (if a = b then b else none) else b
theorem nilFE {α β : Type} [DecidableEq α] {xs : List β} {a b : Option α} {r : α} (h : nilF xs a b = some r) : (xs = [] → a = some r) ∧ b = some r := by
  unfold nilF at h
  split at h
  · split at h
    · rename_i e; exact ⟨fun _ => by rw [e]; exact h, h⟩
    · cases h
  · rename_i hn; exact ⟨fun e => by subst e; exact absurd rfl hn, h⟩
theorem RunC.nd {o : Oper} {f : Bool → V} {p : Bool → Prop} (hm : c.masks = none) (ho : o.dst = some d) (hg : o.guard = none) (hro : rawOp o.op = true)
    (hs : ∀ (ρ : Operand → Value) (E : Env) (W : World), (∀ x ∈ o.op.operands, RL E ((LS.mk tm mem nx).ev x) (ρ x)) → ∃ b e, p b ∧ (execOp ρ o).run c.P W = .ok (.value e) W ∧ RL E (f b) e)
    (h : ∀ b, p b → RunC c (i + 1) l ⟨(d, f b) :: tm, mem, nx⟩ Q) : RunC c i (o :: l) ⟨tm, mem, nx⟩ Q := by
  intro hl hd hf
  obtain ⟨h1, h2⟩ := RunK.head hl
  have hdst : ∀ d, o.dst = some d → d < c.N := fun d hdd => by
    have := hd o List.mem_cons_self
    rw [hdd] at this
    simpa [dstOK] using this
  simp only [hm]
  intro r W0 S F0 D E a W Qc hI hn hQ
  show wpOpsIn _ _ _ _ _ (List.range' i (l.length + 1)) _ _
  rw [List.range'_succ, wpOpsIn_cons]
  have hn' : c.base + 4 * (i + (l.length + 1)) ≤ nx := hn
  obtain ⟨b, e, hp, he, hv⟩ := hs a.eval E W fun x _ => by rw [← LS.st_ev]; exact hI.ev x
  have h' := h b hp h2 (fun o' ho' => hd o' (List.mem_cons_of_mem _ ho')) (fun b hb => hf b (by have : c.base + 4 * (i + 1) ≤ b := hb; omega))
  simp only [hm] at h'
  unfold wpOpIn
  rw [h1]
  simp only []
  have hwt : wantedV c.ops (LS.mk tm mem nx).st o = some true := by unfold wantedV; rw [hg]
  rw [wanted_ok hI hwt]
  simp only [if_true]
  have hdef : ∀ c, o.op ≠ .defer c := fun c hc => by rw [hc] at hro; simp [rawOp] at hro
  refine ⟨fun _ _ => trivial, ?_⟩
  rw [Oper.semAt_eq _ _ _ hdef, he]
  have hI' := hI.put (o := o) (e := ⟨f b, []⟩) hdst E.le_refl hI.m hv
  have est : (LS.mk tm mem nx).st.app o ⟨f b, []⟩ = (LS.mk ((d, f b) :: tm) mem nx).st := by
    have := LS.with_st (LS.mk tm mem nx) o ⟨f b, []⟩
    rw [← this, ho]; rfl
  rw [est] at hI'
  exact h' r W0 S F0 D E _ W Qc hI' (show c.base + 4 * (i + 1 + l.length) ≤ nx by omega) hQ
/-- A row against nil. -/
theorem nilE {α β : Type} [DecidableEq α] [Cl β] {t t' te : TypeId} {x y : Operand} {nw : Bool} {xs : List β} {A B : Option α} {R : α} (hR : nilF xs A B = some R) (hm : c.masks = none) (hx : (LS.mk tm mem nx).ev x = rowV nw xs) (hy : y = .const (.slice none 0 0)) (hti : ((tiOf c.P t).map TI.k) = some (.sli te))
    (hT : A = some R → xs = [] → RunC c (i + 1) l ⟨(d, .sc (.bool true)) :: tm, mem, nx⟩ Q) (hF : B = some R → RunC c (i + 1) l ⟨(d, .sc (.bool false)) :: tm, mem, nx⟩ Q) : RunC c i (⟨some d, .binOp .eql t x y t', ty, ps, af, none⟩ :: l) ⟨tm, mem, nx⟩ Q := by
  subst hy
  obtain ⟨h1, h2⟩ := nilFE hR
  refine RunC.nd (f := fun b => .sc (.bool b)) (p := fun b => b = true → xs = []) hm rfl rfl rfl (fun ρ E W hρ => ?_) fun b hb => ?_
  · have q1 := hρ x (by simp [Op.operands])
    have q2 := hρ (.const (.slice none 0 0)) (by simp [Op.operands])
    rw [hx] at q1
    have q2 : ρ (.const (.slice none 0 0)) = .slice none 0 0 := by
      have : RL E (cv (.slice none 0 0)) (ρ (.const (.slice none 0 0))) := q2
      simpa [cv, RL] using this
    unfold rowV at q1
    simp only [RL] at q1
    obtain ⟨a, cap, r1, r2, r3, r4, r5⟩ := q1
    obtain ⟨ti, hti', hk⟩ : ∃ ti, tiOf c.P t = some ti ∧ ti.k = .sli te := by
      cases hq : tiOf c.P t with
      | none => rw [hq] at hti; cases hti
      | some ti => rw [hq] at hti; exact ⟨ti, rfl, by simpa using hti⟩
    obtain ⟨i', dd, z, g1, g2, g3, g4, g5, g6, g7⟩ := ti_info hti'
    have hdd : dd = .slice te := by
      rw [hk] at g7
      cases dd <;> simp [tkOf] at g7
      rw [g7]
    subst hdd
    refine ⟨a.isNone, .bool a.isNone, fun hn => ?_, ?_, by simp only [RL]⟩
    · rcases r5 with r5 | ⟨B', o', r5, _⟩
      · exact List.eq_nil_of_length_eq_zero r5
      · subst r5; cases hn
    · have key : (Op.equal t (.slice a xs.length cap) (.slice none 0 0)).run c.P W = .ok a.isNone W := by
        show (Op.equalIn (9999 + 1) t _ _).run c.P W = _
        rw [Op.equalIn]
        simp only [Sem.run_bind, run_underlying g2, Result.andThen]
        cases a <;> simp
      have hg : ((eqGuard .eql t x (.const (.slice none 0 0)) (.slice a xs.length cap) (.slice none 0 0))).run c.P W = .ok () W := by
        unfold eqGuard; split <;> simp
      simp [execOp, r1, q2, hg, binOp, key, Result.andThen]
  · cases b
    · exact hF h2
    · exact hT (h1 (hb rfl)) (hb rfl)
end
end Go.Abs
