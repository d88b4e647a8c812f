/- Laws about heaps and calls that the walks use. Conditions: as each theorem states them. -/
import Derived.Test.YtadepbpacnhjaaaA3
import Derived.Laws.StructEq
import Derived.ChangeKeysEq
import Derived.WalkKit
import Derived.ProofKit
import Derived.OpenShut
import Derived.ChangeOld
import Derived.SizedLaws
import Derived.Carry
import Derived.Laws.Externs
import Derived.RangeFuncNested
import Derived.RangeFuncBound
import Derived.RangeFuncCalls
import Derived.RangeFuncLeaves
import Derived.RangeFuncBox
import Derived.Shelf.Abstract
import Derived.OwnWalkIn
import Derived.TacticsInMore
import Derived.LoopNIn
import Derived.LoopIn
import Derived.Lib.Hide
import Derived.Maps.AppendAt
import Derived.KernelRfl
namespace Go.Abs
open Go.RowKit
set_option linter.unusedVariables false
set_option linter.unusedSimpArgs false
/-! ### equality of structs -/
def partsOf (P : Program) (t : TypeId) (cs : List V) (off : Nat) : Option (List V) :=
  match tiOf P t with
  | some ti => if off + ti.size ≤ cs.length then some ((cs.drop off).take ti.size) else none
  | none => none
def foldEq (f : Field → Option Bool) : List Field → Option Bool
  | [] => some true
  | g :: r => if g.name == "_" then none else match f g, foldEq f r with
    | some a, some b => some (a && b)
    | _, _ => none
def foldItems (f : Nat → Option Bool) : List Nat → Option Bool
  | [] => some true
  | i :: r => match f i, foldItems f r with
    | some a, some b => some (a && b)
    | _, _ => none
/-- Whether two things that lie in cells are equal. -/
def eqCells (P : Program) : Nat → TypeId → List V → List V → Option Bool
  | 0, _, _, _ => none
  | d + 1, t, xs, ys => match P.underlying t with
    | some .bool => match xs, ys with
      | [.sc (.bool a)], [.sc (.bool b)] => some (a == b)
      | _, _ => none
    | some (.int _) => match xs, ys with
      | [.sc (.int k a)], [.sc (.int k' b)] => if k = k' then some (a == b) else none
      | _, _ => none
    | some (.struct fs) => if P.stoodInHeld t = true then none else
        foldEq (fun g => match partsOf P g.type xs g.offset, partsOf P g.type ys g.offset with
          | some x, some y => eqCells P d g.type x y
          | _, _ => none) fs.toList
    | some (.array n e) => match tiOf P e with
      | some ti => foldItems (fun i => match partsOf P e xs (i * ti.size), partsOf P e ys (i * ti.size) with
          | some x, some y => eqCells P d e x y
          | _, _ => none) (List.range n)
      | none => none
    | _ => none
/-- A thing as it is handed on, by its cells. -/
def asV (P : Program) (t : TypeId) (cs : List V) : Option V :=
  match tiOf P t with
  | some ti => if ti.k.isAgg then some (.agg cs) else match cs with
    | [x] => some x
    | _ => none
  | none => none
section
variable {P : Program} {W : World} {E : Env}
theorem ti_und {t : TypeId} {ti : TI} {d : TypeDesc} (h : tiOf P t = some ti) (hu : P.underlying t = some d) : ti.k = tkOf d := by
  obtain ⟨i, d', z, h1, h2, h3, h4, h5, h6, h7⟩ := ti_info h
  rw [hu] at h2; cases h2; exact h7
/-- A part, as a value. -/
theorem parts_asV {t : TypeId} {cs x : List V} {off : Nat} {v : V} {ds : List Value} (h : partsOf P t cs off = some x) (hv : asV P t x = some v) (hr : RLs E cs ds) (hl : cs.all V.leaf = true) :
    ∃ c, (part t ds.toArray off).run P W = .ok c W ∧ RL E v c := by
  unfold partsOf at h
  unfold asV at hv
  split at h
  · rename_i ti hti
    rw [hti] at hv
    simp only [] at hv
    split at h
    · rename_i hle
      cases h
      refine part_ok (P := P) (W := W) hti hr hl ?_
      split at hv
      · rename_i ha; rw [if_pos ha, if_pos hle]; exact hv
      · rename_i ha
        rw [if_neg ha]
        split at hv
        · rename_i y hy
          cases hv
          cases hc : cs.drop off with
          | nil => rw [hc] at hy; simp at hy
          | cons z zs =>
            rw [hc] at hy
            cases hs : ti.size with
            | zero => rw [hs] at hy; simp at hy
            | succ n =>
              rw [hs] at hy
              simp at hy
              have : cs[off]? = (cs.drop off)[0]? := by rw [List.getElem?_drop]; simp
              rw [this, hc, ← hy.1]; rfl
        · cases hv
    · cases h
  · cases h
theorem asV_some {t : TypeId} {xs : List V} {d : Nat} {ys : List V} {r : Bool} (h : eqCells P d t xs ys = some r) {ti : TI} (hti : tiOf P t = some ti) : (∃ v, asV P t xs = some v) ∧ ∃ w, asV P t ys = some w := by
  unfold asV
  rw [hti]
  simp only []
  by_cases ha : ti.k.isAgg = true
  · rw [if_pos ha, if_pos ha]; exact ⟨⟨_, rfl⟩, _, rfl⟩
  · rw [if_neg ha, if_neg ha]
    cases d with
    | zero => cases h
    | succ d =>
      unfold eqCells at h
      split at h
      · split at h
        · exact ⟨⟨_, rfl⟩, _, rfl⟩
        · cases h
      · split at h
        · exact ⟨⟨_, rfl⟩, _, rfl⟩
        · cases h
      · rename_i fs hu
        have := ti_und hti hu
        rw [this] at ha
        exact absurd rfl ha
      · rename_i n e hu
        have := ti_und hti hu
        rw [this] at ha
        exact absurd rfl ha
      · cases h
theorem eqCells_ok : ∀ (d : Nat) (t : TypeId) (xs ys : List V) (r : Bool) (v w : V) (c e : Value), eqCells P d t xs ys = some r → asV P t xs = some v → asV P t ys = some w → RL E v c → RL E w e → (Op.equalIn d t c e).run P W = .ok r W
  | 0, t, xs, ys, r, v, w, c, e, h, _, _, _, _ => by cases h
  | d + 1, t, xs, ys, r, v, w, c, e, h, hv, hw, hc, he => by
    unfold asV at hv hw
    cases hti : tiOf P t with
    | none => rw [hti] at hv; cases hv
    | some ti =>
    rw [hti] at hv hw
    simp only [] at hv hw
    unfold eqCells at h
    split at h
    · rename_i hu
      have hk := ti_und hti hu
      have ha : ¬ ti.k.isAgg = true := by rw [hk]; decide
      rw [if_neg ha] at hv hw
      split at h
      · rename_i a b
        cases h; cases hv; cases hw
        simp only [RL] at hc he
        subst hc; subst he
        rw [Op.equalIn]
        simp only [Sem.run_bind, run_underlying hu, Result.andThen, Sem.run_pure]
      · cases h
    · rename_i k0 hu
      have hk := ti_und hti hu
      have ha : ¬ ti.k.isAgg = true := by rw [hk]; simp [tkOf, TK.isAgg]
      rw [if_neg ha] at hv hw
      split at h
      · rename_i k a k' b
        split at h
        · rename_i hkk
          cases h; cases hv; cases hw
          simp only [RL] at hc he
          subst hc; subst he; subst hkk
          rw [Op.equalIn]
          simp only [Sem.run_bind, run_underlying hu, Result.andThen, Sem.run_pure, if_true]
        · cases h
      · cases h
    · rename_i fs hu
      have hk := ti_und hti hu
      have ha : ti.k.isAgg = true := by rw [hk]; rfl
      rw [if_pos ha] at hv hw
      cases hv; cases hw
      split at h
      · cases h
      · rename_i hp
        simp only [RL] at hc he
        obtain ⟨cs, rfl, c1, c2⟩ := hc
        obtain ⟨es, rfl, e1, e2⟩ := he
        have hf : P.fieldsOf t = fs := by simp [Program.fieldsOf, hu]
        rw [run_equalIn_struct (P := P) W d t _ _ (by rw [hf]; exact hu) (by simpa using hp), hf]
        generalize fs.toList = l at h
        clear hu hk hf
        induction l generalizing r with
        | nil => simp only [foldEq] at h; cases h; simp [Op.eqFields]
        | cons f l ih =>
          unfold foldEq at h
          split at h
          · cases h
          · rename_i hn
            have hn' : f.name ≠ "_" := by simpa using hn
            split at h
            · rename_i q s hq hs
              cases h
              split at hq
              · rename_i x y hx hy
                have ih' := ih s hs
                obtain ⟨tj, htj⟩ : ∃ tj, tiOf P f.type = some tj := by
                  unfold partsOf at hx
                  split at hx
                  · exact ⟨_, ‹_›⟩
                  · cases hx
                obtain ⟨⟨vx, hvx⟩, vy, hvy⟩ := asV_some hq htj
                obtain ⟨a, a1, a2⟩ := parts_asV (W := W) hx hvx c1 c2
                obtain ⟨b, b1, b2⟩ := parts_asV (W := W) hy hvy e1 e2
                have he := eqCells_ok d f.type x y q vx vy a b hq hvx hvy a2 b2
                rw [Op.eqFields]
                simp only [if_pos hn', Sem.run_bind, a1, b1, he, Result.andThen_ok]
                cases q
                · simp
                · simpa using ih'
              · cases hq
            · cases h
    · rename_i n el hu
      have hk := ti_und hti hu
      have ha : ti.k.isAgg = true := by rw [hk]; rfl
      rw [if_pos ha] at hv hw
      cases hv; cases hw
      simp only [RL] at hc he
      obtain ⟨cs, rfl, c1, c2⟩ := hc
      obtain ⟨es, rfl, e1, e2⟩ := he
      split at h
      · rename_i tj htj
        obtain ⟨i', dd, z, g1, g2, g3, g4, g5, g6, g7⟩ := ti_info htj
        have hsz : P.cellsOf el = tj.size := by simp [Program.cellsOf, g1, g4]
        rw [run_equalIn_array (P := P) (w := W) d _ _ hu g1, hsz]
        generalize List.range n = is at h
        clear hu hk
        induction is generalizing r with
        | nil => simp only [foldItems] at h; cases h; simp [Op.eqItems]
        | cons j is ih =>
          unfold foldItems at h
          split at h
          · rename_i q s hq hs
            cases h
            split at hq
            · rename_i x y hx hy
              have ih' := ih s hs
              obtain ⟨⟨vx, hvx⟩, vy, hvy⟩ := asV_some hq htj
              obtain ⟨a, a1, a2⟩ := parts_asV (W := W) hx hvx c1 c2
              obtain ⟨b, b1, b2⟩ := parts_asV (W := W) hy hvy e1 e2
              have he := eqCells_ok d el x y q vx vy a b hq hvx hvy a2 b2
              rw [Op.eqItems]
              simp only [Sem.run_bind, a1, b1, he, Result.andThen_ok]
              cases q
              · simp
              · simpa using ih'
            · cases hq
          · cases h
      · cases h
    · cases h
end
section
variable {c : RX} {i : Nat} {l : List Oper} {tm : List (Nat × V)} {mem : List (Nat × Blk)} {nx : Nat} {Q : LS → Prop} {d : Tmp} {op : Op} {ty : TypeId} {ps : String} {af : Array Edge} {g : Option (Nat × Bool)}
theorem rawC {v : V} (hw : Wt c ⟨tm, mem, nx⟩ ⟨some d, op, ty, ps, af, g⟩) (hro : rawOp op = true) (hs : ∀ (ρ : Operand → Value) (E : Env) (W : World), (∀ x ∈ op.operands, RL E ((LS.mk tm mem nx).ev x) (ρ x)) → ∃ e, (execOp ρ ⟨some d, op, ty, ps, af, g⟩).run c.P W = .ok (.value e) W ∧ RL E v e)
    (h : RunC c (i + 1) l ⟨(d, v) :: tm, mem, nx⟩ Q) : RunC c i (⟨some d, op, ty, ps, af, g⟩ :: l) ⟨tm, mem, nx⟩ Q :=
  RunC.act (e := ⟨v, []⟩) (t := []) (w := false) (fun _ => Act1.raw hw hro fun ρ E W hρ => hs ρ E W fun x hx => by rw [← LS.st_ev]; exact hρ x hx) (fun ho => chk_nil ho rfl) (fun x hx => by cases hx) h
theorem eqG {P : Program} {bop : BinOp} {t : TypeId} {x y : Operand} {a b : Array Value} {W : World} (hg : P.eqGuardType P.depth t = false) : (eqGuard bop t x y (.agg a) (.agg b)).run P W = .ok () W := by
  unfold eqGuard; split <;> simp [hg]
/-- Equality of structs. -/
theorem es {t t' : TypeId} {x y : Operand} {cs ds : List V} {r : Bool} (hw : Wt c ⟨tm, mem, nx⟩ ⟨some d, .binOp .eql t x y t', ty, ps, af, g⟩) (hx : (LS.mk tm mem nx).ev x = .agg cs) (hy : (LS.mk tm mem nx).ev y = .agg ds) (ht : ((tiOf c.P t).map fun ti => ti.k.isAgg) = some true) (hg : c.P.eqGuardType c.P.depth t = false) (he : eqCells c.P 10000 t cs ds = some r)
    (h : RunC c (i + 1) l ⟨(d, .sc (.bool r)) :: tm, mem, nx⟩ Q) : RunC c i (⟨some d, .binOp .eql t x y t', ty, ps, af, g⟩ :: l) ⟨tm, mem, nx⟩ Q :=
  rawC hw rfl (fun ρ E W hρ => by
    have h1 := hρ x (by simp [Op.operands])
    have h2 := hρ y (by simp [Op.operands])
    rw [hx] at h1; rw [hy] at h2
    have hv : ∀ q, asV c.P t q = some (.agg q) := fun q => by
      unfold asV
      cases hti : tiOf c.P t with
      | none => rw [hti] at ht; cases ht
      | some ti => rw [hti] at ht; simp at ht; simp [ht]
    have key := eqCells_ok (P := c.P) (W := W) (E := E) 10000 t cs ds r _ _ _ _ he (hv _) (hv _) h1 h2
    simp only [RL] at h1 h2
    obtain ⟨as_, e1, _⟩ := h1
    obtain ⟨bs_, e2, _⟩ := h2
    refine ⟨.bool r, ?_, by simp only [RL]⟩
    rw [e1, e2] at key
    have key' : (Op.equal t (.agg as_.toArray) (.agg bs_.toArray)).run c.P W = .ok r W := key
    simp [execOp, e1, e2, eqG hg, binOp, key', Result.andThen]) h
/-! comparing a slice with nil -/
/-- What a piece does whose slice may or may not be nil. -/
def nilF {α β : Type} [DecidableEq α] (xs : List β) (a b : Option α) : Option α := if xs.isEmpty = true then (if a = b then b else none) else b
theorem nilFE {α β : Type} [DecidableEq α] {xs : List β} {a b : Option α} {r : α} (h : nilF xs a b = some r) : (xs = [] → a = some r) ∧ b = some r := by
  unfold nilF at h
  split at h
  · split at h
    · rename_i e; exact ⟨fun _ => by rw [e]; exact h, h⟩
    · cases h
  · rename_i hn; exact ⟨fun e => by subst e; exact absurd rfl hn, h⟩
theorem RunC.nd {o : Oper} {f : Bool → V} {p : Bool → Prop} (hm : c.masks = none) (ho : o.dst = some d) (hg : o.guard = none) (hro : rawOp o.op = true)
    (hs : ∀ (ρ : Operand → Value) (E : Env) (W : World), (∀ x ∈ o.op.operands, RL E ((LS.mk tm mem nx).ev x) (ρ x)) → ∃ b e, p b ∧ (execOp ρ o).run c.P W = .ok (.value e) W ∧ RL E (f b) e)
    (h : ∀ b, p b → RunC c (i + 1) l ⟨(d, f b) :: tm, mem, nx⟩ Q) : RunC c i (o :: l) ⟨tm, mem, nx⟩ Q := by
  intro hl hd hf
  obtain ⟨h1, h2⟩ := RunK.head hl
  have hdst : ∀ d, o.dst = some d → d < c.N := fun d hdd => by
    have := hd o List.mem_cons_self
    rw [hdd] at this
    simpa [dstOK] using this
  simp only [hm]
  intro r W0 S F0 D E a W Qc hI hn hQ
  show wpOpsIn _ _ _ _ _ (List.range' i (l.length + 1)) _ _
  rw [List.range'_succ, wpOpsIn_cons]
  have hn' : c.base + 4 * (i + (l.length + 1)) ≤ nx := hn
  obtain ⟨b, e, hp, he, hv⟩ := hs a.eval E W fun x _ => by rw [← LS.st_ev]; exact hI.ev x
  have h' := h b hp h2 (fun o' ho' => hd o' (List.mem_cons_of_mem _ ho')) (fun b hb => hf b (by have : c.base + 4 * (i + 1) ≤ b := hb; omega))
  simp only [hm] at h'
  unfold wpOpIn
  rw [h1]
  simp only []
  have hwt : wantedV c.ops (LS.mk tm mem nx).st o = some true := by unfold wantedV; rw [hg]
  rw [wanted_ok hI hwt]
  simp only [if_true]
  have hdef : ∀ c, o.op ≠ .defer c := fun c hc => by rw [hc] at hro; simp [rawOp] at hro
  refine ⟨fun _ _ => trivial, ?_⟩
  rw [Oper.semAt_eq _ _ _ hdef, he]
  have hI' := hI.put (o := o) (e := ⟨f b, []⟩) hdst E.le_refl hI.m hv
  have est : (LS.mk tm mem nx).st.app o ⟨f b, []⟩ = (LS.mk ((d, f b) :: tm) mem nx).st := by
    have := LS.with_st (LS.mk tm mem nx) o ⟨f b, []⟩
    rw [← this, ho]; rfl
  rw [est] at hI'
  exact h' r W0 S F0 D E _ W Qc hI' (show c.base + 4 * (i + 1 + l.length) ≤ nx by omega) hQ
/-- A row against nil. -/
theorem nilE {α β : Type} [DecidableEq α] [Cl β] {t t' te : TypeId} {x y : Operand} {nw : Bool} {xs : List β} {A B : Option α} {R : α} (hR : nilF xs A B = some R) (hm : c.masks = none) (hx : (LS.mk tm mem nx).ev x = rowV nw xs) (hy : y = .const (.slice none 0 0)) (hti : ((tiOf c.P t).map TI.k) = some (.sli te))
    (hT : A = some R → xs = [] → RunC c (i + 1) l ⟨(d, .sc (.bool true)) :: tm, mem, nx⟩ Q) (hF : B = some R → RunC c (i + 1) l ⟨(d, .sc (.bool false)) :: tm, mem, nx⟩ Q) : RunC c i (⟨some d, .binOp .eql t x y t', ty, ps, af, none⟩ :: l) ⟨tm, mem, nx⟩ Q := by
  subst hy
  obtain ⟨h1, h2⟩ := nilFE hR
  refine RunC.nd (f := fun b => .sc (.bool b)) (p := fun b => b = true → xs = []) hm rfl rfl rfl (fun ρ E W hρ => ?_) fun b hb => ?_
  · have q1 := hρ x (by simp [Op.operands])
    have q2 := hρ (.const (.slice none 0 0)) (by simp [Op.operands])
    rw [hx] at q1
    have q2 : ρ (.const (.slice none 0 0)) = .slice none 0 0 := by
      have : RL E (cv (.slice none 0 0)) (ρ (.const (.slice none 0 0))) := q2
      simpa [cv, RL] using this
    unfold rowV at q1
    simp only [RL] at q1
    obtain ⟨a, cap, r1, r2, r3, r4, r5⟩ := q1
    obtain ⟨ti, hti', hk⟩ : ∃ ti, tiOf c.P t = some ti ∧ ti.k = .sli te := by
      cases hq : tiOf c.P t with
      | none => rw [hq] at hti; cases hti
      | some ti => rw [hq] at hti; exact ⟨ti, rfl, by simpa using hti⟩
    obtain ⟨i', dd, z, g1, g2, g3, g4, g5, g6, g7⟩ := ti_info hti'
    have hdd : dd = .slice te := by
      rw [hk] at g7
      cases dd <;> simp [tkOf] at g7
      rw [g7]
    subst hdd
    refine ⟨a.isNone, .bool a.isNone, fun hn => ?_, ?_, by simp only [RL]⟩
    · rcases r5 with r5 | ⟨B', o', r5, _⟩
      · exact List.eq_nil_of_length_eq_zero r5
      · subst r5; cases hn
    · have key : (Op.equal t (.slice a xs.length cap) (.slice none 0 0)).run c.P W = .ok a.isNone W := by
        show (Op.equalIn (9999 + 1) t _ _).run c.P W = _
        rw [Op.equalIn]
        simp only [Sem.run_bind, run_underlying g2, Result.andThen]
        cases a <;> simp
      have hg : ((eqGuard .eql t x (.const (.slice none 0 0)) (.slice a xs.length cap) (.slice none 0 0))).run c.P W = .ok () W := by
        unfold eqGuard; split <;> simp
      simp [execOp, r1, q2, hg, binOp, key, Result.andThen]
  · cases b
    · exact hF h2
    · exact hT (h1 (hb rfl)) (hb rfl)
end
end Go.Abs
namespace Go.Abs
set_option linter.unusedVariables false
set_option linter.unusedSimpArgs false
/-! ### calls that make more than one block -/
theorem renS {α : Type} [Cl α] {b v o l : Nat} {r : Nat → Nat} : (slV α b v o l).ren r = slV α (r b) v o l := by simp only [slV, V.ren]

def pidN (bs : List Nat) (id : Nat) : Nat → Nat := fun j => if j < bs.length then bs.getD j 0 else id + (j - bs.length)
section
variable {P : Program} {C : Cx} {E : Env} {mem : Nat → Option Blk} {nx : Nat} {W : World}
open Classical in
end
section
variable {c : RX} {i : Nat} {l : List Oper} {tm : List (Nat × V)} {mem : List (Nat × Blk)} {nx : Nat} {Q : LS → Prop} {d : Tmp} {op : Op} {ty : TypeId} {ps : String} {af : Array Edge} {g : Option (Nat × Bool)}
end
end Go.Abs
namespace Go.Abs
open Go.ChangeShapes Go.WideShapes Go.RowKit
set_option linter.unusedVariables false
set_option linter.unusedSimpArgs false

/-! ### from a function of values to a call -/
def topE (W : World) : Env := ⟨W.heap.size, fun B o => W.cell? ⟨B, o, none⟩, fun _ => none⟩
theorem topM (W : World) : InvM (cx W (fun _ => False) 0 (topE W).F) (topE W) none' 0 W where
  n0 := rfl
  frz := fun B o d h => h
  blk := fun b k hk => by cases hk
  dom := fun b I hI => by cases hI
  nx := fun b k hk => by cases hk
  inj := fun b b' I I' B h1 => by cases h1
  sep := fun b I B h1 => by cases h1
  own := fun b I B h1 => by cases h1
  old := fun B o hB => rfl
  keep := Keeps.refl _ _
theorem fnP_top {P : Program} {f : FuncId} {args : List V} {v : Value} (h : FnP P f args (.sc v)) {W : World} {cargs : List Value} (ha : RLs (topE W) args cargs) :
    Calls P f cargs.toArray W fun e W' => e = .returned v ∧ Below W.heap.size W W' := by
  refine (h (topE W) W (fun _ => False) cargs (topM W) ha).mono ?_
  rintro e W' ⟨c, E', res, m', nx', rfl, h1, h2, h3, rfl, h5⟩
  simp only [RL] at h3
  subst h3
  have k := h2.keep
  exact ⟨rfl, k.os, k.tape, k.output, k.size, fun b hb => k.block b hb (fun h => h)⟩
/-- A row of whole numbers in memory. -/
def IntRow (w : World) (a : Option Addr) (len cap : Nat) (zs : List Int) : Prop :=
  len ≤ cap ∧ zs.length = len ∧ (len = 0 ∨ ∃ B o, a = some ⟨B, o, none⟩ ∧ ∀ i, i < zs.length → w.cell? ⟨B, o + i, none⟩ = some (.int .i64 (zs.getD i 0)))
theorem IntRow.rl {w : World} {a : Option Addr} {len cap : Nat} {zs : List Int} (h : IntRow w a len cap zs) : RL (topE w) (rowV false zs) (.slice a len cap) := by
  obtain ⟨h1, h2, h3⟩ := h
  unfold rowV
  simp only [RL]
  subst h2
  refine ⟨a, cap, rfl, h1, flat_len' false zs, flat_leaf false zs, ?_⟩
  rcases h3 with h3 | ⟨B, o, rfl, h3⟩
  · exact .inl h3
  · refine .inr ⟨B, o, rfl, (fun h => nomatch h), RF.of_get _ _ fun i x hx => ?_⟩
    have e : (zs.flatMap (Cl.c false)) = zs.map fun z => V.sc (.int .i64 z) := by
      have key : ∀ l : List Int, (l.flatMap (Cl.c false)) = l.map fun z => V.sc (.int .i64 z) := by
        intro l; induction l with
        | nil => rfl
        | cons z l ih => rw [List.flatMap_cons, List.map_cons, ih]; rfl
      exact key zs
    rw [e, List.getElem?_map] at hx
    cases hz : zs[i]? with
    | none => rw [hz] at hx; cases hx
    | some z =>
      rw [hz] at hx; cases hx
      have hlt := (List.getElem?_eq_some_iff.1 hz).1
      refine ⟨.int .i64 z, ?_, by simp only [RL]⟩
      have := h3 i hlt
      rw [List.getD_eq_getElem?_getD, hz] at this
      exact this
/-- What a row of whole numbers that comes in is: its numbers, their size. -/
theorem open_row {H : Type} {enc : TypeId × Value → H} {P : Program} {W : World} {t e : TypeId} {a : Option Addr} {len cap : Nat} {d : DataW H} {ps : List MemPlace} {ts : List TypeId} {ds : List (DataW H)} {j : Nat}
    (hsz : (DataW.weightsEach P ts ds).all (· ≤ reachBytes) = true) (ht : ts[j]? = some t) (hd : ds[j]? = some d) (hu : P.underlying t = some (.slice e)) (he : P.underlying e = some (.int .i64)) (hc : P.cellsOf e = 1) (hB : P.bytesOf e = 8)
    (h : DataW.Trod enc P W 0 (fun _ => true) true t (.slice a len cap) d ps) : ∃ zs : List Int, IntRow W a len cap zs ∧ (∀ z ∈ zs, -9223372036854775808 ≤ z ∧ z ≤ 9223372036854775807) ∧ zs.length * 8 ≤ 140737488351232 := by
  obtain ⟨fuel, hf⟩ := h
  rcases open_ints hu he hc hf with ⟨hcs, _⟩ | ⟨x, l, c, zs, hcs, _, hl, _, hz, hx, hcell, hwz⟩
  · simp [Value.cells] at hcs
    obtain ⟨rfl, rfl, rfl⟩ := hcs
    exact ⟨[], ⟨Nat.le_refl _, rfl, .inl rfl⟩, (fun z hz => nomatch hz), by simp⟩
  · simp [Value.cells] at hcs
    obtain ⟨rfl, rfl, rfl⟩ := hcs
    obtain ⟨hx, _⟩ := Prod.mk.inj hx
    subst hx
    have hz' : zs.length = cap := by simpa using hz
    have w := sized_slice hsz ht hd hu
    rw [hB] at w
    have h1 : (lits (H := H) .i64 (zs.take len)).length + (lits (H := H) .i64 (zs.drop len)).length = zs.length := by
      simp [lits]
      omega
    rw [h1] at w
    have hlen : (zs.take len).length = len := by simp; omega
    refine ⟨zs.take len, ⟨hl, hlen, ?_⟩, fun z hz2 => ?_, ?_⟩
    · rcases Nat.eq_zero_or_pos len with h0 | h0
      · exact .inl h0
      · right
        have c0 := hcell 0 (by omega)
        obtain ⟨B, o, sp⟩ := x
        have hsp : sp = none := by
          cases sp with
          | none => rfl
          | some q =>
            exfalso
            simp only [Addr.add, if_true, World.cell?] at c0
            split at c0
            · simp at c0
            · cases c0
        subst hsp
        refine ⟨B, o, rfl, fun i hi => ?_⟩
        rw [hlen] at hi
        have := hcell i (by omega)
        rw [addr_add] at this
        rw [this]
        congr 2
        simp only [List.getD_eq_getElem?_getD, List.getElem?_take]
        rw [if_pos hi]
    · have := hwz z (List.mem_of_mem_take hz2)
      simp only [Lit.wf, IntKind.min, IntKind.max, IntKind.signed, IntKind.bits, Bool.and_eq_true, decide_eq_true_eq, if_true] at this
      simp at this
      omega
    · have h3 : zs.length * 8 ≤ reachBytes := w
      have h4 : reachBytes = 140737488351232 := by decide
      rw [hlen]
      have : len ≤ zs.length := by omega
      omega
theorem rls_nil {E : Env} : RLs E [] [] := by simp only [RLs]
theorem rls_cons {E : Env} {x : V} {d : Value} {xs : List V} {ds : List Value} (h : RL E x d) (k : RLs E xs ds) : RLs E (x :: xs) (d :: ds) := by simp only [RLs]; exact ⟨d, ds, rfl, h, k⟩
theorem rl_sc {E : Env} {v : Value} : RL E (.sc v) v := by simp only [RL]
/-- What a law asks of its row. -/
structure okL (l : List Int) : Prop where
  z : ∀ z ∈ l, -9223372036854775808 ≤ z ∧ z ≤ 9223372036854775807
  len : l.length * 8 ≤ 140737488351232
def inR (n : Int) : Prop := -9223372036854775808 ≤ n ∧ n ≤ 9223372036854775807
end Go.Abs
namespace Go.Abs
open Go.RowKit
set_option linter.unusedVariables false
set_option linter.unusedSimpArgs false
/-! ### functions that the model stands in for; shifts by a variable; a string's byte -/
structure IsAdd64 (P : Program) (f : FuncId) : Prop where
  ex : ∃ fn, P.funcs[f]? = some fn ∧ (fn.name == "runtime.NumGoroutine") = false ∧ fn.body.isNone = true ∧ Extern.findNext fn = none ∧ Extern.find fn = some add64Entry
/-- math/bits.Add64: sum and carry. -/
def add64 (a b k : Int) : Option (Int × Int) := if 0 ≤ a ∧ 0 ≤ b ∧ 0 ≤ k ∧ k ≤ 1 then some ((a + b + k) % 18446744073709551616, (a + b + k) / 18446744073709551616) else none
/-- A table of bytes at a place. -/
def tabAt (l : List UInt8) (n : Int) : Int := ((l.getD n.toNat 0).toNat : Int)
theorem srcR2 {α : Type} [Cl α] {m : Nat → Option Blk} {nw nw' : Bool} {ys : List α} {v : V} (hv : v = rowV nw ys) (hf : ∀ x : α, Cl.c nw x = Cl.c nw' x) : srcV m (Cl.e α) v = some (ys.length, ys.flatMap (Cl.c nw')) := by
  rw [srcR' hv, show (Cl.c nw : α → List V) = Cl.c nw' from funext hf]
section
variable {c : RX} {i : Nat} {l : List Oper} {tm : List (Nat × V)} {mem : List (Nat × Blk)} {nx : Nat} {Q : LS → Prop} {d : Tmp} {op : Op} {ty : TypeId} {ps : String} {af : Array Edge} {g : Option (Nat × Bool)}
theorem xa {f : FuncId} {x y z : Operand} {ts : Array TypeId} {a b k : Int} {r : Int × Int} (hw : Wt c ⟨tm, mem, nx⟩ ⟨some d, .call { callee := .value (.func f), args := #[x, y, z], argTypes := ts }, ty, ps, af, g⟩)
    (hf : IsAdd64 c.P f) (hx : (LS.mk tm mem nx).ev x = .sc (.int .u64 a)) (hy : (LS.mk tm mem nx).ev y = .sc (.int .u64 b)) (hz : (LS.mk tm mem nx).ev z = .sc (.int .u64 k)) (hr : add64 a b k = some r)
    (h : RunC c (i + 1) l ⟨(d, .tup [.sc (.int .u64 r.1), .sc (.int .u64 r.2)]) :: tm, mem, nx⟩ Q) : RunC c i (⟨some d, .call { callee := .value (.func f), args := #[x, y, z], argTypes := ts }, ty, ps, af, g⟩ :: l) ⟨tm, mem, nx⟩ Q :=
  rawC hw rfl (fun ρ E W hρ => by
    have h0 := hρ (.func f) (by simp [Op.operands, Call.operands])
    have h1 := hρ x (by simp [Op.operands, Call.operands])
    have h2 := hρ y (by simp [Op.operands, Call.operands])
    have h3 := hρ z (by simp [Op.operands, Call.operands])
    rw [hx] at h1; rw [hy] at h2; rw [hz] at h3
    simp only [RL] at h1 h2 h3
    have e0 : ρ (.func f) = .func (.func f) #[] #[] := by
      have : RL E (V.fn (.func f) []) (ρ (.func f)) := h0
      simp only [RL, RLs] at this
      obtain ⟨cs, e1, e2⟩ := this
      subst e2
      exact e1
    unfold add64 at hr
    split at hr
    · rename_i hc
      obtain ⟨c1, c2, c3, c4⟩ := hc
      cases hr
      obtain ⟨fn, q1, q2, q3, q4, q5⟩ := hf.ex
      refine ⟨.tuple #[.int .u64 ((a + b + k) % 18446744073709551616), .int .u64 ((a + b + k) / 18446744073709551616)], ?_, by simp only [RL, RLs]; exact ⟨_, rfl, _, _, rfl, rfl, _, _, rfl, rfl, rfl⟩⟩
      have hrun : (execOp ρ ⟨some d, .call { callee := .value (.func f), args := #[x, y, z], argTypes := ts }, ty, ps, af, g⟩).run c.P W = (callFunc f #[.int .u64 a, .int .u64 b, .int .u64 k]).run c.P W := by
        simp [execOp, resolve, Deferred.ofValue, e0, invoke, Result.andThen, h1, h2, h3]
      rw [hrun, run_callFunc_extern q1 q2 q3 q4 q5, run_add64 a b k c1 c2 c3 c4]
      rfl
    · cases hr) h
end
end Go.Abs
namespace Go.Abs
open Go.RowKit
set_option linter.unusedVariables false
set_option linter.unusedSimpArgs false
/-! ### arrays -/
section
variable {c : RX} {i : Nat} {l : List Oper} {tm : List (Nat × V)} {mem : List (Nat × Blk)} {nx : Nat} {Q : LS → Prop} {d : Tmp} {op : Op} {ty : TypeId} {ps : String} {af : Array Edge} {g : Option (Nat × Bool)}
/-- An array's literal. -/
theorem buA {t : TypeId} {parts : Array (Nat × Operand)} {cs : List V} {ti j : TI} {n : Nat} {e : TypeId} (hw : Wt c ⟨tm, mem, nx⟩ ⟨some d, .build t parts, ty, ps, af, g⟩) (hti : tiOf c.P t = some ti) (hk : ti.k = .arr n e) (htj : tiOf c.P e = some j) (hz : ti.zero.all Value.flat1 = true)
    (hf : fillV (fun i => some (i * j.size, j.size)) (ti.zero.map .sc) (parts.toList.map fun p => (p.1, (LS.mk tm mem nx).ev p.2)) = some cs)
    (h : RunC c (i + 1) l ⟨(d, .agg cs) :: tm, mem, nx⟩ Q) : RunC c i (⟨some d, .build t parts, ty, ps, af, g⟩ :: l) ⟨tm, mem, nx⟩ Q :=
  fxC hw rfl (fun _ => by simp only [opFx, fxBuild, hti, hz, if_true, hk, htj, hf, Option.map_some]) h
/-- The address of an element. -/
theorem iaP {t te : TypeId} {x y : Operand} {k : IntKind} {n : Int} {len : Nat} {ti j : TI} {b ver o o' : Nat} (hw : Wt c ⟨tm, mem, nx⟩ ⟨some d, .indexAddr t x y, ty, ps, af, g⟩) (hx : (LS.mk tm mem nx).ev x = .ptr b ver o) (hy : (LS.mk tm mem nx).ev y = .sc (.int k n))
    (hti : tiOf c.P t = some ti) (hk : ti.k = .arr len te) (htj : tiOf c.P te = some j) (hn : 0 ≤ n ∧ n < len) (ho : o + n.toNat * j.size = o')
    (h : RunC c (i + 1) l ⟨(d, .ptr b ver o') :: tm, mem, nx⟩ Q) : RunC c i (⟨some d, .indexAddr t x y, ty, ps, af, g⟩ :: l) ⟨tm, mem, nx⟩ Q :=
  fxC hw rfl (fun _ => by
    simp only [opFx, fxIndexAddr, hx, hy, tkAt, hti, hk, htj, Option.map_some]
    rw [if_pos hn, ho]) h
/-- What lies at a variable place of an array in a variable. -/
theorem ldD {α : Type} [Cl α] {t : TypeId} {a : Operand} {v : V} {b ver o m off : Nat} {nw : Bool} {cs pre post : List V} {xs : List α} {ti : TI} (hw : Wt c ⟨tm, mem, nx⟩ ⟨some d, .load t a, ty, ps, af, g⟩) (hx : (LS.mk tm mem nx).ev a = .ptr b ver (o + m * Cl.e α + off)) (hm : lget mem b = some (.box cs)) (hv : (ver == 0) = true) (hcs : cs = pre ++ (xs.flatMap (Cl.c nw) ++ post)) (hpre : pre.length = o) (hlt : m < xs.length) (hti : tiOf c.P t = some ti)
    (hl : loadV ti ((Cl.c nw (xs.getD m Cl.d)).drop off) = some v) (h1 : Nat.blt 0 ti.size = true) (hs : Nat.ble (off + ti.size) (Cl.e α) = true) (hc : lchk c.base c.masks c.kl i [b] = true) (h : RunC c (i + 1) l ⟨(d, v) :: tm, mem, nx⟩ Q) : RunC c i (⟨some d, .load t a, ty, ps, af, g⟩ :: l) ⟨tm, mem, nx⟩ Q := by
  have hs' := Nat.le_of_ble_eq_true hs
  have h1' : 0 < ti.size := by simp [Nat.blt] at h1; omega
  refine ldB hw hx hm hv hti ?_ hc h
  subst hcs hpre
  have hle : m * Cl.e α ≤ (xs.flatMap (Cl.c nw)).length := by rw [flat_len']; exact Nat.mul_le_mul_right _ (Nat.le_of_lt hlt)
  rw [Nat.add_assoc, ← List.drop_drop, List.drop_left, ← List.drop_drop, List.drop_append_of_le_length hle, elem_split nw xs m hlt, List.append_assoc]
  exact loadV_app (by rw [Cl.len]; exact hs') h1' hl
end
end Go.Abs
/-! Words for loops over an iterator of a row of bounds: cells of blocks; a row that is lent, as cells. -/
namespace Go.Abs
open Go.RowKit
set_option linter.unusedVariables false
set_option linter.unusedSimpArgs false
theorem blk_set {w : World} {g : Nat} {t : TypeId} {cs : Array Value} (h : w.heap[g]? = some (.cells cs t (0, 0))) (i : Nat) (u : Value) : (w.setCell ⟨g, i, none⟩ u).heap[g]? = some (.cells (cs.setIfInBounds i u) t (0, 0)) := by
  have hlt := (Array.getElem?_eq_some_iff.1 h).1
  unfold World.setCell
  have e := (Array.getElem?_eq_some_iff.1 h).2
  simp [Array.getElem_modify, hlt, e]
theorem blk_far {w : World} {g : Nat} {t : TypeId} {cs : Array Value} (h : w.heap[g]? = some (.cells cs t (0, 0))) {p : Addr} (hp : g ≠ p.block) (u : Value) : (w.setCell p u).heap[g]? = some (.cells cs t (0, 0)) := (Below.heap_setCell w p u g hp).trans h
theorem blk_lt {w : World} {g : Nat} {o : Obj} (h : w.heap[g]? = some o) : g < w.heap.size := (Array.getElem?_eq_some_iff.1 h).1
theorem blk_alloc {w : World} {g : Nat} {o : Obj} (h : w.heap[g]? = some o) (o' : Obj) : (w.alloc o').heap[g]? = some o := (Below.heap_alloc w o' g (blk_lt h)).trans h
theorem cel_get {w : World} {B : Nat} {t : TypeId} {cs : Array Value} (h : w.heap[B]? = some (.cells cs t (0, 0))) (i : Nat) {v : Value} (hv : cs[i]? = some v) : w.cell? ⟨B, i, none⟩ = some v ∧ w.frozen? ⟨B, i, none⟩ = false := by
  constructor
  · unfold World.cell?; simp only [h]; exact hv
  · unfold World.frozen?; simp only [h]
    have : i < cs.size := (Array.getElem?_eq_some_iff.1 hv).1
    simp
theorem cel1 {w : World} {B : Nat} {t : TypeId} {a : Value} (h : w.heap[B]? = some (.cells #[a] t (0, 0))) : w.cell? ⟨B, 0, none⟩ = some a ∧ w.frozen? ⟨B, 0, none⟩ = false := cel_get h 0 rfl
/-- A row of things of three cells in memory. -/
def Row3 {α : Type} (f0 f1 f2 : α → Value) (w : World) (A : Option Addr) (zs : List α) : Prop :=
  ∀ k (hk : k < zs.length), ∃ ad, A = some ad ∧ ad.block < w.heap.size ∧ w.cell? (ad.add (k * 3)) = some (f0 zs[k]) ∧ w.cell? ⟨(ad.add (k * 3)).block, (ad.add (k * 3)).off + 1, none⟩ = some (f1 zs[k]) ∧ w.cell? ⟨(ad.add (k * 3)).block, (ad.add (k * 3)).off + 2, none⟩ = some (f2 zs[k])
theorem add_blk (ad : Addr) (n : Nat) : (ad.add n).block = ad.block := by unfold Addr.add; split <;> rfl
theorem Row3.below {α : Type} {f0 f1 f2 : α → Value} {w w' : World} {A : Option Addr} {zs : List α} (h : Row3 f0 f1 f2 w A zs) (hb : Below w.heap.size w w') : Row3 f0 f1 f2 w' A zs := fun k hk => by
  obtain ⟨ad, e, h0, h1, h2, h3⟩ := h k hk
  refine ⟨ad, e, Nat.lt_of_lt_of_le h0 hb.size, ?_, ?_, ?_⟩
  · exact (hb.cell (p := ad.add (k * 3)) (by rw [add_blk]; exact h0)).trans h1
  · exact (hb.cell (p := ⟨(ad.add (k * 3)).block, (ad.add (k * 3)).off + 1, none⟩) (by show (ad.add (k * 3)).block < _; rw [add_blk]; exact h0)).trans h2
  · exact (hb.cell (p := ⟨(ad.add (k * 3)).block, (ad.add (k * 3)).off + 2, none⟩) (by show (ad.add (k * 3)).block < _; rw [add_blk]; exact h0)).trans h3
theorem fnP_out {P : Program} {f : FuncId} {args : List V} {res : V} (h : FnP P f args res) {W : World} {cargs : List Value} (ha : RLs (topE W) args cargs) :
    Calls P f cargs.toArray W fun e W' => ∃ c E', e = .returned c ∧ RL E' res c ∧ Below W.heap.size W W' := by
  refine (h (topE W) W (fun _ => False) cargs (topM W) ha).mono ?_
  rintro e W' ⟨c, E', res, m', nx', rfl, h1, h2, h3, rfl, h5⟩
  have k := h2.keep
  exact ⟨c, E', rfl, h3, k.os, k.tape, k.output, k.size, fun b hb => k.block b hb (fun h => h)⟩
end Go.Abs
/-! Rows of rows that a function makes: each row is nil or its own block. -/
namespace Go.Abs
open Go.RowKit
set_option linter.unusedVariables false
set_option linter.unusedSimpArgs false
/-- Behind a call all that is new is frozen. -/
def froz (E : Env) (n0 : Nat) (W : World) : Env := { E with F := fun B o => if B < n0 then E.F B o else W.cell? ⟨B, o, none⟩ }
theorem fnP_inF {P : Program} {f : FuncId} {args : List V} {res : V}
    (h : ∀ (E : Env) (W : World) (cargs : List Value), E.n0 = W.heap.size → (∀ B o d, E.F B o = some d → W.cell? ⟨B, o, none⟩ = some d) → RLs E args cargs → Calls P f cargs.toArray W fun e W' => ∃ c, e = .returned c ∧ RL (froz E W.heap.size W') res c ∧ Below W.heap.size W W') : FnP P f args res := by
  intro E W S cargs hM ha
  refine (h E W cargs hM.n0 hM.frz ha).mono ?_
  rintro e W' ⟨c, rfl, h1, h2⟩
  have lt : ∀ B o d, E.F B o = some d → B < W.heap.size := fun B o d hd => World.block_lt_of_cell? W ⟨B, o, none⟩ (hM.frz B o d hd)
  have none_ : ∀ b, E.σ b = none := fun b => by
    cases e : E.σ b with
    | none => rfl
    | some I => obtain ⟨k, hk⟩ := hM.dom b I e; cases hk
  refine ⟨c, froz E W.heap.size W', res, none', 0, rfl, ⟨Nat.le_refl _, fun B o d hd => ?_, fun b I hI => ?_⟩, ⟨hM.n0, fun B o d hd => ?_, fun b k hk => (by cases hk), fun b I hI => ?_, fun b k hk => (by cases hk), fun b b' I I' B e1 => ?_, fun b I B e1 => ?_, fun b I B e1 => ?_, fun B o hB => ?_, ?_⟩, h1, rfl, rfl⟩
  · show (if B < W.heap.size then E.F B o else _) = some d
    rw [if_pos (lt B o d hd)]; exact hd
  · rw [none_] at hI; cases hI
  · have hd : (if B < W.heap.size then E.F B o else W'.cell? ⟨B, o, none⟩) = some d := hd
    split at hd
    · rename_i hb; exact (h2.cell (p := ⟨B, o, none⟩) hb).trans (hM.frz B o d hd)
    · exact hd
  · exact hM.dom b I hI
  · have e1 : E.σ b = some I := e1
    rw [none_] at e1; cases e1
  · have e1 : E.σ b = some I := e1
    rw [none_] at e1; cases e1
  · have e1 : E.σ b = some I := e1
    rw [none_] at e1; cases e1
  · show (if B < W.heap.size then E.F B o else _) = E.F B o
    exact if_pos hB
  · exact ⟨h2.os, h2.tape, h2.output, h2.size, fun k hk hS => h2.block k hk⟩
/-- A block of rows of whole numbers. -/
def RowsOf (W : World) (O : Nat) (tS tE : TypeId) (vs : List Value) (rows : List (List Int)) : Prop :=
  vs.length = rows.length ∧ W.heap[O]? = some (.cells vs.toArray tS (0, 0)) ∧ (∀ (j : Nat) v xs, vs[j]? = some v → rows[j]? = some xs → W.ownsRow (O + 1) tE 1 v xs.length (xs.map fun x => .int .i64 x)) ∧
    (∀ (j j' : Nat) v v', j ≠ j' → vs[j]? = some v → vs[j']? = some v' → v.ownBlock = none ∨ v.ownBlock ≠ v'.ownBlock)
theorem RowsOf.kept {W W' : World} {O : Nat} {tS tE : TypeId} {vs : List Value} {rows : List (List Int)} (h : RowsOf W O tS tE vs rows) (hg : W.grownBy W' none) : RowsOf W' O tS tE vs rows := by
  obtain ⟨h1, h2, h3, h4⟩ := h
  refine ⟨h1, (hg.block O (blk_lt h2) (by simp)).trans h2, fun j v xs hv hx => (h3 j v xs hv hx).kept hg ?_, h4⟩
  cases v.ownBlock <;> simp
theorem RowsOf.step {W W2 : World} {O : Nat} {tS tE : TypeId} {vs : List Value} {rows : List (List Int)} (h : RowsOf W O tS tE vs rows) {j : Nat} {v v' : Value} {xs : List Int} {x : Int} (hv : vs[j]? = some v) (hx : rows[j]? = some xs)
    (hg : W.grownBy W2 v.ownBlock) (ho : W2.ownsRow (O + 1) tE 1 v' (xs.length + 1) (xs.map (fun x => .int .i64 x) ++ [.int .i64 x])) (hb : v'.ownBlock = v.ownBlock ∨ v'.ownBlock = some W.heap.size) :
    RowsOf (W2.setCell ⟨O, j, none⟩ v') O tS tE (vs.set j v') (rows.set j (xs ++ [x])) ∧ W.heap.size ≤ (W2.setCell ⟨O, j, none⟩ v').heap.size := by
  obtain ⟨h1, h2, h3, h4⟩ := h
  have hO := blk_lt h2
  have hj : j < vs.length := (List.getElem?_eq_some_iff.1 hv).1
  have own := h3 j v xs hv hx
  have nO : v.ownBlock ≠ some O := fun e => by have := (own.lt O e).1; omega
  have b2 : W2.heap[O]? = some (.cells vs.toArray tS (0, 0)) := (hg.block O hO (fun e => nO e.symm)).trans h2
  have b3 := blk_set b2 j v'
  have setg : W2.grownBy (W2.setCell ⟨O, j, none⟩ v') (some O) := by
    refine ⟨rfl, rfl, rfl, by unfold World.setCell; simp, fun i hi hr => ?_⟩
    exact Below.heap_setCell W2 ⟨O, j, none⟩ v' i (fun e => hr (by rw [e]))
  have far : ∀ (u : Value) n zs, W2.ownsRow (O + 1) tE 1 u n zs → (W2.setCell ⟨O, j, none⟩ v').ownsRow (O + 1) tE 1 u n zs := fun u n zs hu => hu.kept setg (by
    cases e : u.ownBlock with
    | none => exact .inl rfl
    | some g => right; intro e2; have := (hu.lt g e).1; cases e2; omega)
  have ub : ∀ (j' : Nat) u, j' ≠ j → vs[j']? = some u → u.ownBlock = none ∨ u.ownBlock ≠ v'.ownBlock := fun j' u ne hu => by
    rcases hb with e | e
    · rw [e]; exact h4 j' j u v ne hu hv
    · rw [e]
      cases e3 : u.ownBlock with
      | none => exact .inl rfl
      | some g =>
        right; intro e4; cases e4
        have hj' : j' < rows.length := by rw [← h1]; exact (List.getElem?_eq_some_iff.1 hu).1
        have := ((h3 j' u rows[j'] hu (List.getElem?_eq_getElem hj')).lt _ e3).2
        omega
  refine ⟨⟨by simp [h1], ?_, fun j' u ys hu hy => ?_, fun a b u u' ne hu hu' => ?_⟩, Nat.le_trans hg.size setg.size⟩
  · rw [b3]; simp
  · by_cases e : j' = j
    · subst e
      rw [List.getElem?_set_self (by omega)] at hu hy
      cases hu; cases hy
      have := far _ _ _ ho
      simpa using this
    · rw [List.getElem?_set_ne (fun q => e q.symm)] at hu hy
      refine far _ _ _ ((h3 j' u ys hu hy).kept hg ?_)
      rcases h4 j' j u v e hu hv with q | q
      · exact .inl q
      · exact .inr q
  · by_cases ea : a = j
    · subst ea
      rw [List.getElem?_set_self (by omega)] at hu
      rw [List.getElem?_set_ne (fun q => ne q)] at hu'
      cases hu
      rcases ub b u' (fun q => ne q.symm) hu' with q | q
      · cases e : v'.ownBlock with
        | none => exact .inl rfl
        | some g => right; rw [q]; simp
      · exact .inr fun e => q e.symm
    · rw [List.getElem?_set_ne (fun q => ea q.symm)] at hu
      by_cases eb : b = j
      · subst eb
        rw [List.getElem?_set_self (by omega)] at hu'
        cases hu'
        exact ub a u ea hu
      · rw [List.getElem?_set_ne (fun q => eb q.symm)] at hu'
        exact h4 a b u u' ne hu hu'
theorem flat_ints (nw : Bool) : ∀ xs : List Int, xs.flatMap (Cl.c nw) = xs.map fun z => V.sc (.int .i64 z)
  | [] => rfl
  | z :: l => by rw [List.flatMap_cons, List.map_cons, flat_ints nw l]; rfl
theorem RowsOf.rl {E : Env} {n0 : Nat} {W : World} {O : Nat} {tS tE : TypeId} {vs : List Value} {rows : List (List Int)} (h : RowsOf W O tS tE vs rows) (hO : n0 ≤ O) (hn : E.n0 = n0) {cap : Nat} (hc : rows.length ≤ cap) : RL (froz E n0 W) (rowV true rows) (.slice (some ⟨O, 0, none⟩) rows.length cap) := by
  obtain ⟨h1, h2, h3, h4⟩ := h
  have hF : ∀ B o, n0 ≤ B → (froz E n0 W).F B o = W.cell? ⟨B, o, none⟩ := fun B o hB => by
    show (if B < n0 then _ else _) = _
    rw [if_neg (by omega)]
  have e1 : rows.flatMap (Cl.c true) = rows.map fun xs => V.lst true 1 xs.length (xs.flatMap (Cl.c true)) := by
    clear h1 h3 hc
    induction rows with
    | nil => rfl
    | cons x l ih => rw [List.flatMap_cons, List.map_cons, ih]; rfl
  unfold rowV
  simp only [RL]
  refine ⟨some ⟨O, 0, none⟩, cap, rfl, hc, flat_len' true rows, flat_leaf true rows, .inr ⟨O, 0, rfl, fun _ => by show E.n0 ≤ O; omega, RF.of_get _ _ fun i x hx => ?_⟩⟩
  rw [e1, List.getElem?_map] at hx
  cases hr : rows[i]? with
  | none => rw [hr] at hx; cases hx
  | some xs =>
    rw [hr] at hx; cases hx
    have hi : i < vs.length := by rw [h1]; exact (List.getElem?_eq_some_iff.1 hr).1
    have own := h3 i vs[i] xs (List.getElem?_eq_getElem hi) hr
    refine ⟨vs[i], ?_, ?_⟩
    · rw [Nat.zero_add, hF O i hO]
      exact (cel_get h2 i (by simp [hi])).1
    · simp only [RL]
      have own' := own
      obtain ⟨_, o2⟩ := own
      have e2 := flat_ints true xs
      rcases o2 with ⟨o2, o3⟩ | ⟨g, c, cur, o2, o3, o4, o5, o6, o7, o8⟩
      · exact ⟨none, 0, by rw [o2, o3], by omega, flat_len' true xs, flat_leaf true xs, .inl o3⟩
      · refine ⟨_, c, o2, o5, flat_len' true xs, flat_leaf true xs, .inr ⟨g, 0, rfl, fun _ => by show E.n0 ≤ g; omega, RF.of_get _ _ fun j y hy => ?_⟩⟩
        rw [e2, List.getElem?_map] at hy
        cases hz : xs[j]? with
        | none => rw [hz] at hy; cases hy
        | some z =>
          rw [hz] at hy; cases hy
          refine ⟨.int .i64 z, ?_, by simp only [RL]⟩
          rw [Nat.zero_add, hF g j (by omega)]
          have := own'.cells (g := g) (by rw [o2]; rfl) j (.int .i64 z) (by rw [List.getElem?_map, hz]; rfl)
          rw [Addr.add_lit, Nat.zero_add] at this
          exact this
end Go.Abs
/-! Facts of plain functions: what they return, and what is true of it. -/
namespace Lf
open Go Go.Abs
set_option linter.unusedVariables false
def Has {α : Type} (x : Option α) (P : α → Prop) : Prop := ∃ a, x = some a ∧ P a
section
variable {α β : Type} {x y : Option α} {P Q : α → Prop} {c : Prop} [Decidable c]
theorem Has.bind {f : α → Option β} {R : β → Prop} (h : Has x P) (k : ∀ a, P a → Has (f a) R) : Has (Option.bind x f) R := by
  obtain ⟨a, rfl, ha⟩ := h; exact k a ha
theorem Has.ret {a : α} (h : P a) : Has (some a) P := ⟨a, rfl, h⟩
theorem Has.mono (h : Has x P) (k : ∀ a, P a → Q a) : Has x Q := by obtain ⟨a, e, ha⟩ := h; exact ⟨a, e, k a ha⟩
theorem Has.chk (hc : c) (h : Has x P) : Has (if c then x else none) P := by rw [if_pos hc]; exact h
theorem Has.pos (hc : c) (h : Has x P) : Has (if c then x else y) P := by rw [if_pos hc]; exact h
theorem Has.neg (hc : ¬ c) (h : Has y P) : Has (if c then x else y) P := by rw [if_neg hc]; exact h
theorem Has.ite (h : c → Has x P) (k : ¬ c → Has y P) : Has (if c then x else y) P := by
  by_cases hc : c
  · rw [if_pos hc]; exact h hc
  · rw [if_neg hc]; exact k hc
theorem Has.letF {a : β} {f : β → Option α} (h : Has (f a) P) : Has (Abs.letF a f) P := h
theorem Has.eq {a : α} (h : x = some a) (k : P a) : Has x P := ⟨a, h, k⟩
theorem Has.val {a : α} (h : Has x (fun b => b = a)) : x = some a := by obtain ⟨b, e, rfl⟩ := h; exact e
end
inductive StepOK {S O : Type} (I : S → Prop) (μ : S → Nat) (P : O → Prop) (m : Nat) : Step S O → Prop
  | next {s : S} : I s → μ s < m → StepOK I μ P m (.next s)
  | done {o : O} : P o → StepOK I μ P m (.done o)
/-- A loop, by what holds at each round's head. -/
theorem Has.loop {S O : Type} {body : S → Option (Step S O)} {s : S} (I : S → Prop) (μ : S → Nat) (P : O → Prop) (h0 : I s) (hμ : μ s < 10000000000000000000000000000000000000000) (round : ∀ s, I s → Has (body s) (StepOK I μ P (μ s))) : Has (loopF body s) P := by
  obtain ⟨o, h1, h2⟩ := loopF_ok (body := body) I μ P (fun s hs => by
    obtain ⟨t, e, h⟩ := round s hs
    refine ⟨t, e, fun s' es => ?_, fun o eo => ?_⟩
    · subst es; cases h with | next a b => exact ⟨a, b⟩
    · subst eo; cases h with | done a => exact a) h0 hμ
  exact ⟨o, h1, h2⟩
theorem Has.seq {S O : Type} {g : Option (Step S O)} {k : S → Option O} {P : Step S O → Prop} {Q : O → Prop} (h : Has g P) (hn : ∀ s, P (.next s) → Has (k s) Q) (hd : ∀ o, P (.done o) → Q o) : Has (seqF g k) Q := by
  obtain ⟨t, rfl, ht⟩ := h
  cases t with
  | next s => exact hn s ht
  | done o => exact ⟨o, rfl, hd o ht⟩
theorem ite_and (b c : Bool) : (if b = true then some c else some false) = some (b && c) := by cases b <;> rfl
theorem ite_or (b c : Bool) : (if b = true then some true else some c) = some (b || c) := by cases b <;> rfl
theorem w6_in {n : Int} (h : -9223372036854775808 ≤ n ∧ n ≤ 9223372036854775807) : w6 n = n := IntWalk.i64_in n h
theorem w6_bd (n : Int) : -9223372036854775808 ≤ w6 n ∧ w6 n ≤ 9223372036854775807 := by unfold w6; rw [IntKind.wrap_i64]; omega
theorem gt_def {α : Type} [Cl α] (xs : List α) (i : Int) (h : 0 ≤ i ∧ i < xs.length) : gt xs i = xs[i.toNat]'(by omega) := by
  unfold gt; rw [List.getD_eq_getElem?_getD, List.getElem?_eq_getElem (by omega)]; rfl
theorem gt_mem {α : Type} [Cl α] (xs : List α) (i : Int) (h : 0 ≤ i ∧ i < xs.length) : gt xs i ∈ xs := by rw [gt_def xs i h]; exact List.getElem_mem _
theorem roomyI {n b : Nat} (h1 : n * b ≤ 140737488355328) (h2 : n ≤ 140737488355328) : roomy n b = true := by unfold roomy; simp [h1, h2]
theorem mn2_le {a b : Int} (h : a ≤ b) : mn2 a b = a := by unfold mn2; split <;> omega
theorem mx2_le {a b : Int} (h : a ≤ b) : mx2 a b = b := by unfold mx2; split <;> omega
end Lf
/-! Lists by whole-number places. -/
namespace Lf
open Go Go.Abs
set_option linter.unusedVariables false
section
variable {α : Type} [Cl α] {xs ys : List α} {P Q : Int → α → Prop}
def allI (xs : List α) (P : Int → α → Prop) : Prop := ∀ i : Int, 0 ≤ i → i < (xs.length : Int) → P i (gt xs i)
theorem gt_snoc_lt {y : α} {i : Int} (h : 0 ≤ i) (h2 : i < (xs.length : Int)) : gt (xs ++ [y]) i = gt xs i := by
  unfold gt; rw [List.getD_eq_getElem?_getD, List.getD_eq_getElem?_getD, List.getElem?_append_left (by omega)]
theorem gt_snoc_eq {y : α} {i : Int} (h : i = (xs.length : Int)) : gt (xs ++ [y]) i = y := by
  unfold gt; subst h; simp
theorem gt_set_eq {y : α} {i : Int} (h : 0 ≤ i) (h2 : i < (xs.length : Int)) : gt (xs.set i.toNat y) i = y := by
  unfold gt; rw [List.getD_eq_getElem?_getD, List.getElem?_set_self (by omega)]; rfl
theorem gt_set_ne {y : α} {i j : Int} (h : 0 ≤ i) (h1 : 0 ≤ j) (h2 : i ≠ j) : gt (xs.set i.toNat y) j = gt xs j := by
  unfold gt; rw [List.getD_eq_getElem?_getD, List.getD_eq_getElem?_getD, List.getElem?_set_ne (by omega)]
theorem allI_nil : allI ([] : List α) P := fun i h h2 => by simp at h2; omega
theorem allI_snoc {y : α} (h : allI xs P) (hy : P (xs.length : Int) y) : allI (xs ++ [y]) P := fun i h1 h2 => by
  by_cases e : i = (xs.length : Int)
  · rw [gt_snoc_eq e, e]; exact hy
  · have : i < (xs.length : Int) := by simp at h2; omega
    rw [gt_snoc_lt h1 this]; exact h i h1 this
theorem allI_mono (h : allI xs P) (k : ∀ i x, 0 ≤ i → i < (xs.length : Int) → P i x → Q i x) : allI xs Q := fun i h1 h2 => k i _ h1 h2 (h i h1 h2)
theorem allI_mem {R : α → Prop} (h : allI xs fun _ x => R x) : ∀ x ∈ xs, R x := fun x hx => by
  obtain ⟨n, hn, rfl⟩ := List.getElem_of_mem hx
  have := h n (by omega) (by omega)
  rw [gt_def xs n ⟨by omega, by omega⟩] at this
  exact this
end
end Lf
namespace Go.Abs
open Go.RowKit
set_option linter.unusedVariables false
set_option linter.unusedSimpArgs false
/-! ### a read-only array by a variable -/
section
variable {c : RX} {i : Nat} {l : List Oper} {tm : List (Nat × V)} {mem : List (Nat × Blk)} {nx : Nat} {Q : LS → Prop} {d : Tmp} {op : Op} {ty : TypeId} {ps : String} {af : Array Edge} {g : Option (Nat × Bool)}
end
/-- An own row is handed on, its length in another form. -/
theorem ldM2 {α : Type} [Cl α] {H : How} {j b ver off ln ln' : Nat} (h1 : Nat.blt j H.p = true) (h2 : H.ids j = b) (hl : ln = ln') : Lend H (slV α b ver off ln) (slV α j ver off ln') := by
  subst hl; exact ldM h1 h2
end Go.Abs
/-! A nil slice within a value, seen as an empty row. -/
namespace Go.Abs
set_option linter.unusedVariables false
set_option linter.unusedSimpArgs false
inductive Wk : V → V → Prop
  | refl (v : V) : Wk v v
  | nil {α : Type} [Cl α] (nw : Bool) : Wk (.sc (.slice none 0 0)) (rowV nw ([] : List α))
inductive WkL : List V → List V → Prop
  | nil : WkL [] []
  | cons {v v' : V} {vs vs' : List V} : Wk v v' → WkL vs vs' → WkL (v :: vs) (v' :: vs')
theorem Wk.leaf {v v' : V} (h : Wk v v') (k : v.leaf = true) : v'.leaf = true := by
  cases h with
  | refl => exact k
  | nil nw => rfl
theorem Wk.rl {E : Env} {v v' : V} {x : Value} (h : Wk v v') (k : RL E v x) : RL E v' x := by
  cases h with
  | refl => exact k
  | nil nw =>
    simp only [RL] at k
    subst k
    unfold rowV
    simp only [RL]
    exact ⟨none, 0, rfl, Nat.le_refl _, flat_len' nw _, flat_leaf nw _, .inl rfl⟩
theorem WkL.leaf {vs vs' : List V} (h : WkL vs vs') (k : vs.all V.leaf = true) : vs'.all V.leaf = true := by
  induction h with
  | nil => rfl
  | cons h _ ih =>
    simp only [List.all_cons, Bool.and_eq_true] at k ⊢
    exact ⟨h.leaf k.1, ih k.2⟩
theorem WkL.rls {E : Env} {vs vs' : List V} (h : WkL vs vs') : ∀ {ds : List Value}, RLs E vs ds → RLs E vs' ds := by
  induction h with
  | nil => exact fun k => k
  | cons h _ ih =>
    intro ds k
    simp only [RLs] at k ⊢
    obtain ⟨d, ds', rfl, k1, k2⟩ := k
    exact ⟨d, ds', rfl, h.rl k1, ih k2⟩
theorem WkL.agg {E : Env} {vs vs' : List V} {x : Value} (h : WkL vs vs') (k : RL E (.agg vs) x) : RL E (.agg vs') x := by
  simp only [RL] at k ⊢
  obtain ⟨ds, rfl, k1, k2⟩ := k
  exact ⟨ds, rfl, h.rls k1, h.leaf k2⟩
section
variable {c : RX} {i : Nat} {l : List Oper} {tm : List (Nat × V)} {mem : List (Nat × Blk)} {nx : Nat} {Q : LS → Prop}
end
/-- A slice that is nil wherever it stands. -/
structure NilS where
  deriving DecidableEq
instance : Cl NilS where
  e := 1
  c _ _ := [.sc (.slice none 0 0)]
  d := ⟨⟩
  pos := by decide
  len _ _ := rfl
  leaf _ _ := rfl
  nors _ _ := rfl
  fresh _ := rfl
  tr H nw nw' x h := .cons (.sc _) .nil
  ld H nw x := .cons (.sc _) .nil
end Go.Abs
/-! An own row of whole numbers that a call returns, as a row in memory. -/
namespace Go.Abs
open Go.RowKit
set_option linter.unusedVariables false
set_option linter.unusedSimpArgs false
theorem rls_scs {E : Env} : ∀ (vs ds : List Value), RLs E (vs.map V.sc) ds → ds = vs
  | [], ds, h => by simpa only [List.map_nil, RLs] using h
  | v :: vs, ds, h => by
    simp only [List.map_cons, RLs, RL] at h
    obtain ⟨d0, ds', rfl, rfl, h2⟩ := h
    rw [rls_scs vs _ h2]
theorem fnD_own_ints {P : Program} {f : FuncId} {args : List V} {r : List Int} {x : Value} {te : TypeId} {nw : Bool} (h : FnD P f [] args (.tup [slV Int 0 0 0 r.length, .sc x]) [arrB te 0 nw r]) {W : World} {cargs : List Value} (ha : RLs (topE W) args cargs) :
    Calls P f cargs.toArray W fun e W' => ∃ v, e = .returned (.tuple #[v, x]) ∧ W'.ownsRow W.heap.size te 1 v r.length (r.map (Value.int .i64)) ∧ Below W.heap.size W W' := by
  have hm : (fun j => ([] : List Blk)[j]?) = none' := by funext j; simp [none']
  unfold FnD at h
  rw [hm] at h
  refine (h (topE W) W (fun _ => False) cargs (topM W) ha).mono ?_
  rintro e W' ⟨c, E', res, m', nx', rfl, h1, h2, h3, ⟨rfl, rfl⟩⟩
  have hB : Below W.heap.size W W' := ⟨h2.keep.os, h2.keep.tape, h2.keep.output, h2.keep.size, fun b hb => h2.keep.block b hb (fun h => h)⟩
  simp only [RL, RLs] at h3
  obtain ⟨ds, rfl, d0, d1, rfl, h4, d2, d3, rfl, rfl, rfl⟩ := h3
  unfold slV at h4
  simp only [RL] at h4
  obtain ⟨a, cap, rfl, c1, c2, c3, I, hI, c4⟩ := h4
  obtain ⟨I', hI', hk⟩ := h2.blk 0 (arrB te 0 nw r) rfl
  rw [hI] at hI'; cases hI'
  unfold arrB at hk
  obtain ⟨k1, k2, k3, k4, k5, k6, k7⟩ := hk
  have c5 := c4.resolve_left (by rw [k1]; exact fun e => nomatch e)
  obtain ⟨c5, c6⟩ := c5
  obtain ⟨c7, c8⟩ := c6 k2.symm
  refine ⟨_, rfl, ⟨by simp, ?_⟩, hB⟩
  have e1 : Cl.e Int = 1 := rfl
  rcases k7 with ⟨q1, q2⟩ | ⟨B, cur, g1, g2, g3, g4, g5, g6⟩
  · left
    obtain ⟨_, rfl⟩ := c8.resolve_right (fun ⟨B, e, _⟩ => by rw [q1] at e; cases e)
    obtain ⟨_, _, e2, e3⟩ := c3.resolve_right (fun ⟨B, e⟩ => by cases e)
    rw [e2, e3]; exact ⟨rfl, rfl⟩
  · right
    obtain ⟨B', b1, b2, b3⟩ := c8.resolve_left (fun q => by rw [g1] at q; cases q.1)
    rw [g1] at b1; cases b1
    have hb := (h2.own 0 I B hI k1 g1).resolve_right (fun q => absurd q.1 (Nat.lt_irrefl 0))
    rw [e1] at g3 b2
    simp only [Nat.zero_mul] at b2
    refine ⟨B, cap, cur, by rw [b2], hb, g2, c1, by omega, by omega, ?_⟩
    rw [flat_ints] at g6
    have := rls_scs (r.map (Value.int .i64)) _ (by rw [List.map_map]; exact g6)
    rw [List.length_map] at this
    rw [Nat.mul_one]; exact this
end Go.Abs
/-! slices.Sort of an own row of whole numbers, as a function of values. -/
namespace Go.Abs
open Go.RowKit
set_option linter.unusedVariables false
set_option linter.unusedSimpArgs false
def sortZ (l : List Int) : List Int := l.mergeSort fun x y => decide (x ≤ y)
end Go.Abs
