/- Laws about heaps and calls that the walks use. Conditions: as each theorem states them. -/
import Derived.Test.YthgccmnmalhmcaaA3
import Derived.Laws.StructEq
import Derived.ChangeKeysEq
import Derived.WalkKit
import Derived.ProofKit
import Derived.OpenShut
import Derived.ChangeOld
import Derived.SizedLaws
import Derived.Carry
import Derived.Laws.Externs
import Derived.RangeFuncNested
import Derived.RangeFuncBound
import Derived.RangeFuncCalls
import Derived.RangeFuncLeaves
import Derived.RangeFuncBox
import Derived.Shelf.Abstract
import Derived.OwnWalkIn
import Derived.TacticsInMore
import Derived.LoopNIn
import Derived.LoopIn
import Derived.Lib.Hide
import Derived.KernelRfl
namespace Go.Abs
open Go.RowKit
set_option linter.unusedVariables false
set_option linter.unusedSimpArgs false
def partsOf (P : Program) (t : TypeId) (cs : List V) (off : Nat) : Option (List V) :=
 match tiOf P t with
 | some ti => if off + ti.size ≤ cs.length then some ((cs.drop off).take ti.size) else none
 | none => none
def foldEq (f : Field → Option Bool) : List Field → Option Bool
 | [] => some true
 | g :: r => if g.name == "_" then none else match f g, foldEq f r with
  | some a, some b => some (a && b)
  | _, _ => none
def foldItems (f : Nat → Option Bool) : List Nat → Option Bool
 | [] => some true
 | i :: r => match f i, foldItems f r with
  | some a, some b => some (a && b)
  | _, _ => none
def eqCells (P : Program) : Nat → TypeId → List V → List V → Option Bool
 | 0, _, _, _ => none
 | d + 1, t, xs, ys => match P.underlying t with
  | some .bool => match xs, ys with
   | [.sc (.bool a)], [.sc (.bool b)] => some (a == b)
   | _, _ => none
  | some (.int _) => match xs, ys with
   | [.sc (.int k a)], [.sc (.int k' b)] => if k = k' then some (a == b) else none
   | _, _ => none
  | some (.struct fs) => if P.stoodInHeld t = true then none else
    foldEq (fun g => match partsOf P g.type xs g.offset, partsOf P g.type ys g.offset with
     | some x, some y => eqCells P d g.type x y
     | _, _ => none) fs.toList
  | some (.array n e) => match tiOf P e with
   | some ti => foldItems (fun i => match partsOf P e xs (i * ti.size), partsOf P e ys (i * ti.size) with
     | some x, some y => eqCells P d e x y
     | _, _ => none) (List.range n)
   | none => none
  | _ => none
def asV (P : Program) (t : TypeId) (cs : List V) : Option V :=
 match tiOf P t with
 | some ti => if ti.k.isAgg then some (.agg cs) else match cs with
  | [x] => some x
  | _ => none
 | none => none
section
variable {P : Program} {W : World} {E : Env}
theorem ti_und {t : TypeId} {ti : TI} {d : TypeDesc} (h : tiOf P t = some ti) (hu : P.underlying t = some d) : ti.k = tkOf d := by
 obtain ⟨i, d', z, h1, h2, h3, h4, h5, h6, h7⟩ := ti_info h
 rw [hu] at h2; cases h2; exact h7
theorem parts_asV {t : TypeId} {cs x : List V} {off : Nat} {v : V} {ds : List Value} (h : partsOf P t cs off = some x) (hv : asV P t x = some v) (hr : RLs E cs ds) (hl : cs.all V.leaf = true) :
  ∃ c, (part t ds.toArray off).run P W = .ok c W ∧ RL E v c := by
 unfold partsOf at h
 unfold asV at hv
 split at h
 ·rename_i ti hti
  rw [hti] at hv
  simp only [] at hv
  split at h
  ·rename_i hle
   cases h
   refine part_ok (P := P) (W := W) hti hr hl ?_
   split at hv
   ·rename_i ha; rw [if_pos ha, if_pos hle]; exact hv
   ·rename_i ha
    rw [if_neg ha]
    split at hv
    ·rename_i y hy
     cases hv
     cases hc : cs.drop off with
     | nil => rw [hc] at hy; simp at hy
     | cons z zs =>
      rw [hc] at hy
      cases hs : ti.size with
      | zero => rw [hs] at hy; simp at hy
      | succ n =>
       rw [hs] at hy
       simp at hy
       have : cs[off]? = (cs.drop off)[0]? := by rw [List.getElem?_drop]; simp
       rw [this, hc, ← hy.1]; rfl
    ·cases hv
  ·cases h
 ·cases h
theorem asV_some {t : TypeId} {xs : List V} {d : Nat} {ys : List V} {r : Bool} (h : eqCells P d t xs ys = some r) {ti : TI} (hti : tiOf P t = some ti) : (∃ v, asV P t xs = some v) ∧ ∃ w, asV P t ys = some w := by
 unfold asV
 rw [hti]
 simp only []
 by_cases ha : ti.k.isAgg = true
 ·rw [if_pos ha, if_pos ha]; exact ⟨⟨_, rfl⟩, _, rfl⟩
 ·rw [if_neg ha, if_neg ha]
  cases d with
  | zero => cases h
  | succ d =>
   unfold eqCells at h
   split at h
   ·split at h
    ·exact ⟨⟨_, rfl⟩, _, rfl⟩
    ·cases h
   ·split at h
    ·exact ⟨⟨_, rfl⟩, _, rfl⟩
    ·cases h
   ·rename_i fs hu
    have := ti_und hti hu
    rw [this] at ha
    exact absurd rfl ha
   ·rename_i n e hu
    have := ti_und hti hu
    rw [this] at ha
    exact absurd rfl ha
   ·cases h
theorem eqCells_ok : ∀ (d : Nat) (t : TypeId) (xs ys : List V) (r : Bool) (v w : V) (c e : Value), eqCells P d t xs ys = some r → asV P t xs = some v → asV P t ys = some w → RL E v c → RL E w e → (Op.equalIn d t c e).run P W = .ok r W
 | 0, t, xs, ys, r, v, w, c, e, h, _, _, _, _ => by cases h
 | d + 1, t, xs, ys, r, v, w, c, e, h, hv, hw, hc, he => by
  unfold asV at hv hw
  cases hti : tiOf P t with
  | none => rw [hti] at hv; cases hv
  | some ti =>
  rw [hti] at hv hw
  simp only [] at hv hw
  unfold eqCells at h
  split at h
  ·rename_i hu
   have hk := ti_und hti hu
   have ha : ¬ ti.k.isAgg = true := by rw [hk]; decide
   rw [if_neg ha] at hv hw
   split at h
   ·rename_i a b
    cases h; cases hv; cases hw
    simp only [RL] at hc he
    subst hc; subst he
    rw [Op.equalIn]
    simp only [Sem.run_bind, run_underlying hu, Result.andThen, Sem.run_pure]
   ·cases h
  ·rename_i k0 hu
   have hk := ti_und hti hu
   have ha : ¬ ti.k.isAgg = true := by rw [hk]; simp [tkOf, TK.isAgg]
   rw [if_neg ha] at hv hw
   split at h
   ·rename_i k a k' b
    split at h
    ·rename_i hkk
     cases h; cases hv; cases hw
     simp only [RL] at hc he
     subst hc; subst he; subst hkk
     rw [Op.equalIn]
     simp only [Sem.run_bind, run_underlying hu, Result.andThen, Sem.run_pure, if_true]
    ·cases h
   ·cases h
  ·rename_i fs hu
   have hk := ti_und hti hu
   have ha : ti.k.isAgg = true := by rw [hk]; rfl
   rw [if_pos ha] at hv hw
   cases hv; cases hw
   split at h
   ·cases h
   ·rename_i hp
    simp only [RL] at hc he
    obtain ⟨cs, rfl, c1, c2⟩ := hc
    obtain ⟨es, rfl, e1, e2⟩ := he
    have hf : P.fieldsOf t = fs := by simp [Program.fieldsOf, hu]
    rw [run_equalIn_struct (P := P) W d t _ _ (by rw [hf]; exact hu) (by simpa using hp), hf]
    generalize fs.toList = l at h
    clear hu hk hf
    induction l generalizing r with
    | nil => simp only [foldEq] at h; cases h; simp [Op.eqFields]
    | cons f l ih =>
     unfold foldEq at h
     split at h
     ·cases h
     ·rename_i hn
      have hn' : f.name ≠ "_" := by simpa using hn
      split at h
      ·rename_i q s hq hs
       cases h
       split at hq
       ·rename_i x y hx hy
        have ih' := ih s hs
        obtain ⟨tj, htj⟩ : ∃ tj, tiOf P f.type = some tj := by
         unfold partsOf at hx
         split at hx
         ·exact ⟨_, ‹_›⟩
         ·cases hx
        obtain ⟨⟨vx, hvx⟩, vy, hvy⟩ := asV_some hq htj
        obtain ⟨a, a1, a2⟩ := parts_asV (W := W) hx hvx c1 c2
        obtain ⟨b, b1, b2⟩ := parts_asV (W := W) hy hvy e1 e2
        have he := eqCells_ok d f.type x y q vx vy a b hq hvx hvy a2 b2
        rw [Op.eqFields]
        simp only [if_pos hn', Sem.run_bind, a1, b1, he, Result.andThen_ok]
        cases q
        ·simp
        ·simpa using ih'
       ·cases hq
      ·cases h
  ·rename_i n el hu
   have hk := ti_und hti hu
   have ha : ti.k.isAgg = true := by rw [hk]; rfl
   rw [if_pos ha] at hv hw
   cases hv; cases hw
   simp only [RL] at hc he
   obtain ⟨cs, rfl, c1, c2⟩ := hc
   obtain ⟨es, rfl, e1, e2⟩ := he
   split at h
   ·rename_i tj htj
    obtain ⟨i', dd, z, g1, g2, g3, g4, g5, g6, g7⟩ := ti_info htj
    have hsz : P.cellsOf el = tj.size := by simp [Program.cellsOf, g1, g4]
    rw [run_equalIn_array (P := P) (w := W) d _ _ hu g1, hsz]
    generalize List.range n = is at h
    clear hu hk
    induction is generalizing r with
    | nil => simp only [foldItems] at h; cases h; simp [Op.eqItems]
    | cons j is ih =>
     unfold foldItems at h
     split at h
     ·rename_i q s hq hs
      cases h
      split at hq
      ·rename_i x y hx hy
       have ih' := ih s hs
       obtain ⟨⟨vx, hvx⟩, vy, hvy⟩ := asV_some hq htj
       obtain ⟨a, a1, a2⟩ := parts_asV (W := W) hx hvx c1 c2
       obtain ⟨b, b1, b2⟩ := parts_asV (W := W) hy hvy e1 e2
       have he := eqCells_ok d el x y q vx vy a b hq hvx hvy a2 b2
       rw [Op.eqItems]
       simp only [Sem.run_bind, a1, b1, he, Result.andThen_ok]
       cases q
       ·simp
       ·simpa using ih'
      ·cases hq
     ·cases h
   ·cases h
  ·cases h
end
section
variable {c : RX} {i : Nat} {l : List Oper} {tm : List (Nat × V)} {mem : List (Nat × Blk)} {nx : Nat} {Q : LS → Prop} {d : Tmp} {op : Op} {ty : TypeId} {ps : String} {af : Array Edge} {g : Option (Nat × Bool)}
theorem rawC {v : V} (hw : Wt c ⟨tm, mem, nx⟩ ⟨some d, op, ty, ps, af, g⟩) (hro : rawOp op = true) (hs : ∀ (ρ : Operand → Value) (E : Env) (W : World), (∀ x ∈ op.operands, RL E ((LS.mk tm mem nx).ev x) (ρ x)) → ∃ e, (execOp ρ ⟨some d, op, ty, ps, af, g⟩).run c.P W = .ok (.value e) W ∧ RL E v e)
  (h : RunC c (i + 1) l ⟨(d, v) :: tm, mem, nx⟩ Q) : RunC c i (⟨some d, op, ty, ps, af, g⟩ :: l) ⟨tm, mem, nx⟩ Q :=
 RunC.act (e := ⟨v, []⟩) (t := []) (w := false) (fun _ => Act1.raw hw hro fun ρ E W hρ => hs ρ E W fun x hx => by rw [← LS.st_ev]; exact hρ x hx) (fun ho => chk_nil ho rfl) (fun x hx => by cases hx) h
theorem eqG {P : Program} {bop : BinOp} {t : TypeId} {x y : Operand} {a b : Array Value} {W : World} (hg : P.eqGuardType P.depth t = false) : (eqGuard bop t x y (.agg a) (.agg b)).run P W = .ok () W := by
 unfold eqGuard; split <;> simp [hg]
theorem es {t t' : TypeId} {x y : Operand} {cs ds : List V} {r : Bool} (hw : Wt c ⟨tm, mem, nx⟩ ⟨some d, .binOp .eql t x y t', ty, ps, af, g⟩) (hx : (LS.mk tm mem nx).ev x = .agg cs) (hy : (LS.mk tm mem nx).ev y = .agg ds) (ht : ((tiOf c.P t).map fun ti => ti.k.isAgg) = some true) (hg : c.P.eqGuardType c.P.depth t = false) (he : eqCells c.P 10000 t cs ds = some r)
  (h : RunC c (i + 1) l ⟨(d, .sc (.bool r)) :: tm, mem, nx⟩ Q) : RunC c i (⟨some d, .binOp .eql t x y t', ty, ps, af, g⟩ :: l) ⟨tm, mem, nx⟩ Q :=
 rawC hw rfl (fun ρ E W hρ => by
  have h1 := hρ x (by simp [Op.operands])
  have h2 := hρ y (by simp [Op.operands])
  rw [hx] at h1; rw [hy] at h2
  have hv : ∀ q, asV c.P t q = some (.agg q) := fun q => by
   unfold asV
   cases hti : tiOf c.P t with
   | none => rw [hti] at ht; cases ht
   | some ti => rw [hti] at ht; simp at ht; simp [ht]
  have key := eqCells_ok (P := c.P) (W := W) (E := E) 10000 t cs ds r _ _ _ _ he (hv _) (hv _) h1 h2
  simp only [RL] at h1 h2
  obtain ⟨as_, e1, _⟩ := h1
  obtain ⟨bs_, e2, _⟩ := h2
  refine ⟨.bool r, ?_, by simp only [RL]⟩
  rw [e1, e2] at key
  have key' : (Op.equal t (.agg as_.toArray) (.agg bs_.toArray)).run c.P W = .ok r W := key
  simp [execOp, e1, e2, eqG hg, binOp, key', Result.andThen]) h
theorem ns {t t' : TypeId} {x y : Operand} {cs ds : List V} {r : Bool} (hw : Wt c ⟨tm, mem, nx⟩ ⟨some d, .binOp .neq t x y t', ty, ps, af, g⟩) (hx : (LS.mk tm mem nx).ev x = .agg cs) (hy : (LS.mk tm mem nx).ev y = .agg ds) (ht : ((tiOf c.P t).map fun ti => ti.k.isAgg) = some true) (hg : c.P.eqGuardType c.P.depth t = false) (he : eqCells c.P 10000 t cs ds = some r)
  (h : RunC c (i + 1) l ⟨(d, .sc (.bool !r)) :: tm, mem, nx⟩ Q) : RunC c i (⟨some d, .binOp .neq t x y t', ty, ps, af, g⟩ :: l) ⟨tm, mem, nx⟩ Q :=
 rawC hw rfl (fun ρ E W hρ => by
  have h1 := hρ x (by simp [Op.operands])
  have h2 := hρ y (by simp [Op.operands])
  rw [hx] at h1; rw [hy] at h2
  have hv : ∀ q, asV c.P t q = some (.agg q) := fun q => by
   unfold asV
   cases hti : tiOf c.P t with
   | none => rw [hti] at ht; cases ht
   | some ti => rw [hti] at ht; simp at ht; simp [ht]
  have key := eqCells_ok (P := c.P) (W := W) (E := E) 10000 t cs ds r _ _ _ _ he (hv _) (hv _) h1 h2
  simp only [RL] at h1 h2
  obtain ⟨as_, e1, _⟩ := h1
  obtain ⟨bs_, e2, _⟩ := h2
  refine ⟨.bool !r, ?_, by simp only [RL]⟩
  rw [e1, e2] at key
  have key' : (Op.equal t (.agg as_.toArray) (.agg bs_.toArray)).run c.P W = .ok r W := key
  simp [execOp, e1, e2, eqG hg, binOp, key', Result.andThen]) h
def nilF {α β : Type} [DecidableEq α] (xs : List β) (a b : Option α) : Option α := if xs.isEmpty = true then (if a = b then b else none) else b
theorem nilFE {α β : Type} [DecidableEq α] {xs : List β} {a b : Option α} {r : α} (h : nilF xs a b = some r) : (xs = [] → a = some r) ∧ b = some r := by
 unfold nilF at h
 split at h
 ·split at h
  ·rename_i e; exact ⟨fun _ => by rw [e]; exact h, h⟩
  ·cases h
 ·rename_i hn; exact ⟨fun e => by subst e; exact absurd rfl hn, h⟩
theorem RunC.nd {o : Oper} {f : Bool → V} {p : Bool → Prop} (hm : c.masks = none) (ho : o.dst = some d) (hg : o.guard = none) (hro : rawOp o.op = true)
  (hs : ∀ (ρ : Operand → Value) (E : Env) (W : World), (∀ x ∈ o.op.operands, RL E ((LS.mk tm mem nx).ev x) (ρ x)) → ∃ b e, p b ∧ (execOp ρ o).run c.P W = .ok (.value e) W ∧ RL E (f b) e)
  (h : ∀ b, p b → RunC c (i + 1) l ⟨(d, f b) :: tm, mem, nx⟩ Q) : RunC c i (o :: l) ⟨tm, mem, nx⟩ Q := by
 intro hl hd hf
 obtain ⟨h1, h2⟩ := RunK.head hl
 have hdst : ∀ d, o.dst = some d → d < c.N := fun d hdd => by
  have := hd o List.mem_cons_self
  rw [hdd] at this
  simpa [dstOK] using this
 simp only [hm]
 intro r W0 S F0 D E a W Qc hI hn hQ
 show wpOpsIn _ _ _ _ _ (List.range' i (l.length + 1)) _ _
 rw [List.range'_succ, wpOpsIn_cons]
 have hn' : c.base + 4 * (i + (l.length + 1)) ≤ nx := hn
 obtain ⟨b, e, hp, he, hv⟩ := hs a.eval E W fun x _ => by rw [← LS.st_ev]; exact hI.ev x
 have h' := h b hp h2 (fun o' ho' => hd o' (List.mem_cons_of_mem _ ho')) (fun b hb => hf b (by have : c.base + 4 * (i + 1) ≤ b := hb; omega))
 simp only [hm] at h'
 unfold wpOpIn
 rw [h1]
 simp only []
 have hwt : wantedV c.ops (LS.mk tm mem nx).st o = some true := by unfold wantedV; rw [hg]
 rw [wanted_ok hI hwt]
 simp only [if_true]
 have hdef : ∀ c, o.op ≠ .defer c := fun c hc => by rw [hc] at hro; simp [rawOp] at hro
 refine ⟨fun _ _ => trivial, ?_⟩
 rw [Oper.semAt_eq _ _ _ hdef, he]
 have hI' := hI.put (o := o) (e := ⟨f b, []⟩) hdst E.le_refl hI.m hv
 have est : (LS.mk tm mem nx).st.app o ⟨f b, []⟩ = (LS.mk ((d, f b) :: tm) mem nx).st := by
  have := LS.with_st (LS.mk tm mem nx) o ⟨f b, []⟩
  rw [← this, ho]; rfl
 rw [est] at hI'
 exact h' r W0 S F0 D E _ W Qc hI' (show c.base + 4 * (i + 1 + l.length) ≤ nx by omega) hQ
theorem nilE {α β : Type} [DecidableEq α] [Cl β] {t t' te : TypeId} {x y : Operand} {nw : Bool} {xs : List β} {A B : Option α} {R : α} (hR : nilF xs A B = some R) (hm : c.masks = none) (hx : (LS.mk tm mem nx).ev x = rowV nw xs) (hy : y = .const (.slice none 0 0)) (hti : ((tiOf c.P t).map TI.k) = some (.sli te))
  (hT : A = some R → xs = [] → RunC c (i + 1) l ⟨(d, .sc (.bool true)) :: tm, mem, nx⟩ Q) (hF : B = some R → RunC c (i + 1) l ⟨(d, .sc (.bool false)) :: tm, mem, nx⟩ Q) : RunC c i (⟨some d, .binOp .eql t x y t', ty, ps, af, none⟩ :: l) ⟨tm, mem, nx⟩ Q := by
 subst hy
 obtain ⟨h1, h2⟩ := nilFE hR
 refine RunC.nd (f := fun b => .sc (.bool b)) (p := fun b => b = true → xs = []) hm rfl rfl rfl (fun ρ E W hρ => ?_) fun b hb => ?_
 ·have q1 := hρ x (by simp [Op.operands])
  have q2 := hρ (.const (.slice none 0 0)) (by simp [Op.operands])
  rw [hx] at q1
  have q2 : ρ (.const (.slice none 0 0)) = .slice none 0 0 := by
   have : RL E (cv (.slice none 0 0)) (ρ (.const (.slice none 0 0))) := q2
   simpa [cv, RL] using this
  unfold rowV at q1
  simp only [RL] at q1
  obtain ⟨a, cap, r1, r2, r3, r4, r5⟩ := q1
  obtain ⟨ti, hti', hk⟩ : ∃ ti, tiOf c.P t = some ti ∧ ti.k = .sli te := by
   cases hq : tiOf c.P t with
   | none => rw [hq] at hti; cases hti
   | some ti => rw [hq] at hti; exact ⟨ti, rfl, by simpa using hti⟩
  obtain ⟨i', dd, z, g1, g2, g3, g4, g5, g6, g7⟩ := ti_info hti'
  have hdd : dd = .slice te := by
   rw [hk] at g7
   cases dd <;> simp [tkOf] at g7
   rw [g7]
  subst hdd
  refine ⟨a.isNone, .bool a.isNone, fun hn => ?_, ?_, by simp only [RL]⟩
  ·rcases r5 with r5 | ⟨B', o', r5, _⟩
   ·exact List.eq_nil_of_length_eq_zero r5
   ·subst r5; cases hn
  ·have key : (Op.equal t (.slice a xs.length cap) (.slice none 0 0)).run c.P W = .ok a.isNone W := by
    show (Op.equalIn (9999 + 1) t _ _).run c.P W = _
    rw [Op.equalIn]
    simp only [Sem.run_bind, run_underlying g2, Result.andThen]
    cases a <;> simp
   have hg : ((eqGuard .eql t x (.const (.slice none 0 0)) (.slice a xs.length cap) (.slice none 0 0))).run c.P W = .ok () W := by
    unfold eqGuard; split <;> simp
   simp [execOp, r1, q2, hg, binOp, key, Result.andThen]
 ·cases b
  ·exact hF h2
  ·exact hT (h1 (hb rfl)) (hb rfl)
end
end Go.Abs
namespace Go.Abs
set_option linter.unusedVariables false
set_option linter.unusedSimpArgs false
theorem renS {α : Type} [Cl α] {b v o l : Nat} {r : Nat → Nat} : (slV α b v o l).ren r = slV α (r b) v o l := by simp only [slV, V.ren]

def pidN (bs : List Nat) (id : Nat) : Nat → Nat := fun j => if j < bs.length then bs.getD j 0 else id + (j - bs.length)
section
variable {P : Program} {C : Cx} {E : Env} {mem : Nat → Option Blk} {nx : Nat} {W : World}
open Classical in
theorem InvM.outofN (h : InvM C E mem nx W) {bs : List Nat} {id : Nat} (hnd : bs.Nodup) (hsome : ∀ b ∈ bs, (mem b).isSome = true) (n : Nat) (hid : ∀ q, q < n → mem (id + q) = none) (hlt : id + n ≤ nx) {m' : List Blk} (hside : (∀ b ∈ bs, b < C.p) ∨ (∀ b ∈ bs, C.p ≤ b) ∨ boxes bs.length m') (hl1 : bs.length ≤ m'.length) (hl2 : m'.length ≤ bs.length + n)
  {E' : Env} {nx' : Nat} {W' : World} (hle : (E.view W (fun _ => false) bs.length (fun j => bs.getD j 0) W.heap.size).le E')
  (h' : InvM (cx W (passS E bs) bs.length (E.view W (fun _ => false) bs.length (fun j => bs.getD j 0) W.heap.size).F) E' (fun j => m'[j]?) nx' W') :
  ∃ E2, E.le E2 ∧ InvM C E2 ((passUps (pidN bs id) 0 m').foldl (fun m p => fun i => if i = p.1 then some p.2 else m i) mem) nx W' ∧ ∀ v c, RL E' v c → RL E2 (v.ren (pidN bs id)) c := by
 have hidb : ∀ q, q < n → id + q ∉ bs := fun q hq hx => by have := hsome _ hx; rw [hid q hq] at this; cases this
 have hE'n0 : E'.n0 = W.heap.size := h'.n0
 -- the places of the blocks
 have hr : ∀ j (hj : j < bs.length), pidN bs id j = bs[j] := fun j hj => by unfold pidN; rw [if_pos hj]; simp [hj]
 have hrn : ∀ j, bs.length ≤ j → pidN bs id j = id + (j - bs.length) := fun j hj => by unfold pidN; rw [if_neg (Nat.not_lt.2 hj)]
 have rinj : ∀ i j, i < m'.length → j < m'.length → pidN bs id i = pidN bs id j → i = j := by
  intro i j hi hj e
  rcases Nat.lt_or_ge i bs.length with h1 | h1 <;> rcases Nat.lt_or_ge j bs.length with h2 | h2
  ·rw [hr i h1, hr j h2] at e
   exact nodup_inj hnd e
  ·rw [hr i h1, hrn j h2] at e
   exact absurd (e ▸ List.getElem_mem h1) (hidb _ (by omega))
  ·rw [hr j h2, hrn i h1] at e
   exact absurd (e ▸ List.getElem_mem h2) (hidb _ (by omega))
  ·rw [hrn i h1, hrn j h2] at e; omega
 have σ' : ∀ j I, E'.σ j = some I → j < m'.length := fun j I hI => by
  obtain ⟨k, hk⟩ := h'.dom j I hI
  exact (List.getElem?_eq_some_iff.1 hk).1
 let inv : Nat → Option Nat := fun b => if hx : ∃ j, j < m'.length ∧ pidN bs id j = b then some (Classical.choose hx) else none
 have inv1 : ∀ j, j < m'.length → inv (pidN bs id j) = some j := fun j hj => by
  have hx : ∃ i, i < m'.length ∧ pidN bs id i = pidN bs id j := ⟨j, hj, rfl⟩
  simp only [inv]
  rw [dif_pos hx]
  have := Classical.choose_spec hx
  rw [rinj _ _ this.1 hj this.2]
 have inv2 : ∀ b j, inv b = some j → j < m'.length ∧ pidN bs id j = b := fun b j hb => by
  simp only [inv] at hb
  split at hb
  ·rename_i hx; cases hb; exact Classical.choose_spec hx
  ·cases hb
 have inv3 : ∀ b, inv b = none → ∀ j, j < m'.length → b ≠ pidN bs id j := fun b hb j hj e => by
  rw [e, inv1 j hj] at hb; cases hb
 have inbs : ∀ b ∈ bs, ∃ j, j < bs.length ∧ inv b = some j ∧ bs.getD j 0 = b := fun b hb => by
  obtain ⟨j, hj, e⟩ := List.getElem_of_mem hb
  exact ⟨j, hj, by rw [← e, ← hr j hj]; exact inv1 j (by omega), by simp [hj, e]⟩
 have hFE : ∀ B o d, E.F B o = some d → E'.F B o = some d := fun B o d hd => hle.F B o d (by simp only [Env.view, lentF_no]; exact hd)
 have hFo : ∀ B o, B < W.heap.size → E'.F B o = E.F B o := fun B o hB => by
  have := h'.old B o hB
  rw [this]; simp only [cx, Env.view, lentF_no]
 have same : ∀ B, B < W.heap.size → ¬ passS E bs B → W'.heap[B]? = W.heap[B]? := fun B hB hn => h'.keep.block B hB hn
 have out_ : ∀ b, inv b = none → b ∉ bs := fun b hb hx => by
  obtain ⟨j, _, e, _⟩ := inbs b hx
  rw [hb] at e; cases e
 have hE : E.le ⟨E.n0, E'.F, fun b => match inv b with | some j => E'.σ j | none => E.σ b⟩ := ⟨Nat.le_refl _, hFE, fun b I hI => by
  cases hb : inv b with
  | none => exact ⟨I, by simp [hb, hI], I.le_refl⟩
  | some j =>
   obtain ⟨j1, j2⟩ := inv2 b j hb
   have hj : j < bs.length := by
    rcases Nat.lt_or_ge j bs.length with h1 | h1
    ·exact h1
    ·rw [hrn j h1] at j2; subst j2
     obtain ⟨k, hk⟩ := h.dom _ I hI
     rw [hid _ (by omega)] at hk; cases hk
   rw [hr j hj] at j2
   obtain ⟨J, e1, e2⟩ := hle.σ j I (by simp [Env.view, hj, j2, hI])
   exact ⟨J, by simp [hb, e1], e2⟩⟩
 have hσr : ∀ j I, E'.σ j = some I → (fun b => match inv b with | some j => E'.σ j | none => E.σ b) (pidN bs id j) = some I := fun j I hI => by
  simp only [inv1 j (σ' j I hI), hI]
 have hn2 : (Env.mk E.n0 E'.F (fun b => match inv b with | some j => E'.σ j | none => E.σ b)).n0 ≤ E'.n0 := by
  rw [hE'n0]; show E.n0 ≤ _; rw [h.n0]; exact h.keep.size
 -- blocks outside of what was handed on
 have live : ∀ b I B, inv b = none → E.σ b = some I → I.dead = false → I.blk = some B → B < W.heap.size ∧ ¬ passS E bs B := by
  intro b I B hb hI hd hB
  refine ⟨h.lt hI hd hB, ?_⟩
  rintro ⟨b', I', g1, g2, g3, g4⟩
  have := h.inj b b' I I' B hI g2 hd g3 hB g4
  subst this
  exact out_ b hb g1
 have ups := fun b => passUps_get (pidN bs id) m' 0 mem b (fun i j _ hi _ hj => rinj i j (by omega) (by omega))
 refine ⟨_, hE, ?_, fun v c hv => RL.ren hn2 (fun _ _ _ x => x) hσr v c hv⟩
 refine ⟨h.n0, h'.frz, ?_, ?_, ?_, ?_, ?_, ?_, ?_, ?_⟩
 ·intro b k hk
  cases hb : inv b with
  | none =>
   rw [(ups b).2 fun j hj => by rw [Nat.zero_add]; exact inv3 b hb j hj] at hk
   obtain ⟨I, g1, g2⟩ := h.blk b k hk
   refine ⟨I, by simp [hb, g1], ?_⟩
   by_cases hd : I.dead = true
   ·cases k with
    | dead => exact hd
    | box cs => obtain ⟨h3, _⟩ := g2; rw [hd] at h3; cases h3
    | arr te e ver cs => obtain ⟨h3, _⟩ := g2; rw [hd] at h3; cases h3
   ·have hd : I.dead = false := by simpa using hd
    exact g2.mono hE fun B hB => by
     obtain ⟨l1, l2⟩ := live b I B hb g1 hd hB
     exact same B l1 l2
  | some j =>
   obtain ⟨j1, j2⟩ := inv2 b j hb
   rw [(ups b).1 j m'[j] (by simp [j1]) (by rw [Nat.zero_add]; exact j2.symm)] at hk
   cases hk
   obtain ⟨I, g1, g2⟩ := h'.blk j m'[j] (by simp [j1])
   exact ⟨I, by simp [hb, g1], g2.ren hn2 (fun _ _ _ x => x) hσr⟩
 ·intro b I hI
  cases hb : inv b with
  | none =>
   simp only [hb] at hI
   rw [(ups b).2 fun j hj => by rw [Nat.zero_add]; exact inv3 b hb j hj]
   exact h.dom b I hI
  | some j =>
   obtain ⟨j1, j2⟩ := inv2 b j hb
   exact ⟨_, (ups b).1 j m'[j] (by simp [j1]) (by rw [Nat.zero_add]; exact j2.symm)⟩
 ·intro b k hk
  cases hb : inv b with
  | none =>
   rw [(ups b).2 fun j hj => by rw [Nat.zero_add]; exact inv3 b hb j hj] at hk
   exact h.nx b k hk
  | some j =>
   obtain ⟨j1, j2⟩ := inv2 b j hb
   rcases Nat.lt_or_ge j bs.length with hj | hj
   ·rw [hr j hj] at j2
    have := hsome b (j2 ▸ List.getElem_mem hj)
    obtain ⟨k', hk'⟩ := Option.isSome_iff_exists.1 this
    exact h.nx b k' hk'
   ·rw [hrn j hj] at j2
    omega
 ·intro b b' I I' B h1 h2 d1 d2 e1 e2
  cases hb : inv b with
  | none =>
   simp only [hb] at h1
   cases hb' : inv b' with
   | none => simp only [hb'] at h2; exact h.inj b b' I I' B h1 h2 d1 d2 e1 e2
   | some j =>
    simp only [hb'] at h2
    exfalso
    obtain ⟨l1, l2⟩ := live b I B hb h1 d1 e1
    rcases h'.own j I' B h2 d2 e2 with g | ⟨_, g⟩
    ·simp [cx] at g; omega
    ·exact l2 g
  | some i =>
   simp only [hb] at h1
   cases hb' : inv b' with
   | none =>
    simp only [hb'] at h2
    exfalso
    obtain ⟨l1, l2⟩ := live b' I' B hb' h2 d2 e2
    rcases h'.own i I B h1 d1 e1 with g | ⟨_, g⟩
    ·simp [cx] at g; omega
    ·exact l2 g
   | some j =>
    simp only [hb'] at h2
    have := h'.inj i j I I' B h1 h2 d1 d2 e1 e2
    subst this
    rw [← (inv2 b i hb).2, ← (inv2 b' i hb').2]
 ·intro b I B h1 d1 e1 o
  cases hb : inv b with
  | none =>
   simp only [hb] at h1
   show E'.F B o = none
   rw [hFo B o (h.lt h1 d1 e1)]
   exact h.sep b I B h1 d1 e1 o
  | some j => simp only [hb] at h1; exact h'.sep j I B h1 d1 e1 o
 ·intro b I B h1 d1 e1
  cases hb : inv b with
  | none => simp only [hb] at h1; exact h.own b I B h1 d1 e1
  | some j =>
   simp only [hb] at h1
   obtain ⟨j1, j2⟩ := inv2 b j hb
   rcases h'.own j I B h1 d1 e1 with g | ⟨_, b', I', g1, g2, g3, g4⟩
   ·left; have := h.keep.size; simp [cx] at g; omega
   ·rcases h.own b' I' B g2 g3 g4 with q | ⟨q1, q2⟩
    ·exact .inl q
    ·rcases hside with hs | hs | hs
     ·right
      refine ⟨?_, q2⟩
      rcases Nat.lt_or_ge j bs.length with hj | hj
      ·rw [hr j hj] at j2
       exact hs b (j2 ▸ List.getElem_mem hj)
      ·exfalso
       rename_i hjj
       simp [cx] at hjj
       omega
     ·right; have := hs b' g1; omega
     ·have hj : j < bs.length := by rw [← hs.1]; exact j1
      rw [hr j hj] at j2
      obtain ⟨k0, e0⟩ := Option.isSome_iff_exists.1 (hsome b (j2 ▸ List.getElem_mem hj))
      obtain ⟨I0, i1, _⟩ := h.blk b k0 e0
      obtain ⟨J, r1, r2⟩ := hle.σ j I0 (by simp [Env.view, hj, j2, i1])
      rw [h1] at r1; cases r1
      have := boxes_stay hs h'.blk hj r2 h1 d1
      subst this
      exact h.own b I B i1 d1 e1
 ·intro B o hB
  have := h.keep.size
  show E'.F B o = _
  rw [hFo B o (by omega)]
  exact h.old B o hB
 ·refine ⟨h'.keep.os.trans h.keep.os, h'.keep.tape.trans h.keep.tape, h'.keep.output.trans h.keep.output, Nat.le_trans h.keep.size h'.keep.size, fun k hk hS => ?_⟩
  rw [← h.keep.block k hk hS]
  refine same k (Nat.lt_of_lt_of_le hk h.keep.size) ?_
  rintro ⟨b', I', g1, g2, g3, g4⟩
  rcases h.own b' I' k g2 g3 g4 with q | ⟨q1, q2⟩
  ·omega
  ·exact hS q2
end
section
variable {c : RX} {i : Nat} {l : List Oper} {tm : List (Nat × V)} {mem : List (Nat × Blk)} {nx : Nat} {Q : LS → Prop} {d : Tmp} {op : Op} {ty : TypeId} {ps : String} {af : Array Edge} {g : Option (Nat × Bool)}
theorem cpx {f : Operand} {args : Array Operand} {ts : Array TypeId} {fid : FuncId} {caps args' : List V} {m m' : List Blk} {res res' : V} {ups : List (Nat × Blk)} (bs : List Nat) (id : Nat) (hm : c.masks = none) (hid : c.base + 4 * i = id) (hf : (LS.mk tm mem nx).ev f = .fn (.func fid) caps)
  (hcb : callable c.P fid = true) (hfn : FnD c.P fid m args' res m') (ha : Lends (passHow (lget mem) bs) (args.toList.map (LS.mk tm mem nx).ev ++ caps) args') (hb : PassB (passHow (lget mem) bs) mem bs m) (hn : nodupB bs = true) (hs : sideBB c.p bs m' = true) (hl : (Nat.ble bs.length m'.length && Nat.ble m'.length (bs.length + 4)) = true)
  (hres : res.ren (pidN bs id) = res') (hups : passUps (pidN bs id) 0 m' = ups)
  (h : RunC c (i + 1) l ⟨(d, res') :: tm, pushes mem ups, nx⟩ Q) : RunC c i (⟨some d, .call { callee := .value f, args, argTypes := ts }, ty, ps, af, none⟩ :: l) ⟨tm, mem, nx⟩ Q := by
 subst hres hups
 intro hlo hd hfr
 obtain ⟨h1, h2⟩ := RunK.head hlo
 have hdst : d < c.N := by
  have := hd _ List.mem_cons_self
  simpa [dstOK] using this
 have hsome : ∀ b ∈ bs, (lget mem b).isSome = true := fun b hb' => by
  obtain ⟨j, hj, rfl⟩ := List.mem_iff_getElem.1 hb'
  have hjm : j < m.length := by rw [hb.len]; exact hj
  obtain ⟨k, e, _⟩ := hb.get j m[j] (by simp [hjm])
  have : bs.getD j 0 = bs[j] := by simp [hj]
  rw [this] at e; rw [e]; rfl
 simp only [Bool.and_eq_true] at hl
 have hl1 := Nat.le_of_ble_eq_true hl.1
 have hl2 := Nat.le_of_ble_eq_true hl.2
 have hside := sideBB_ok hs
 have hfree : ∀ q, q < 4 → lget mem (id + q) = none := fun q hq => hfr _ (show c.base + 4 * i ≤ id + q by omega)
 simp only [hm]
 intro r W0 S F0 D E a W Qc hI hnx hQ
 show wpOpsIn _ _ _ _ _ (List.range' i (l.length + 1)) _ _
 rw [List.range'_succ, wpOpsIn_cons]
 have hnx' : c.base + 4 * (i + (l.length + 1)) ≤ nx := hnx
 unfold wpOpIn
 rw [h1]
 simp only []
 have hwt : wantedV c.ops (LS.mk tm mem nx).st ⟨some d, .call { callee := .value f, args, argTypes := ts }, ty, ps, af, none⟩ = some true := rfl
 rw [wanted_ok hI hwt]
 simp only [if_true]
 have hfv := hI.ev f
 rw [LS.st_ev, hf] at hfv
 simp only [RL] at hfv
 obtain ⟨cs, f1, f2⟩ := hfv
 have hev := hI.ev
 rw [LS.st_ev] at hev
 have hargs := RLs.append (evs_ok hev args) f2
 have hv := Lends.ok (H := passHow (lget mem) bs) rfl hI.m (fun x hx => by simp [passHow] at hx) (fun hx => by simp [passHow] at hx) (n := W.heap.size) ha _ hargs
 have hlen := hb.len
 have hcall := hfn (E.view W (fun _ => false) bs.length (fun j => bs.getD j 0) W.heap.size) W (passS E bs) _ (by rw [hlen]; exact hI.m.into (nodupB_ok _ hn) hlen (fun j k' e => hb.get j k' e)) hv
 refine ⟨fun _ _ => trivial, ?_⟩
 rw [Oper.semAt_eq _ _ _ (fun c hc => by cases hc)]
 have hrun : (execOp a.eval ⟨some d, .call { callee := .value f, args, argTypes := ts }, ty, ps, af, none⟩).run c.P W = .ok (.enter fid (args.map a.eval ++ cs.toArray)) W := by
  simp [execOp, resolve, Deferred.ofValue, f1, invoke, Result.andThen, run_callFunc hcb]
 rw [hrun]
 have e1 : (args.map a.eval ++ cs.toArray) = ((args.map a.eval).toList ++ cs).toArray := by simp
 rw [e1]
 refine ⟨fun hx => (by cases hx), callsIn_fe (hcall.mono ?_)⟩
 rintro en W' ⟨cv, E', res2, m2, nx2, rfl, q1, q2, q3, hres2, hm2⟩
 subst hres2 hm2
 rw [hlen] at q2
 obtain ⟨E2, b1, b2, b3⟩ := hI.m.outofN (nodupB_ok _ hn) hsome 4 hfree (show id + 4 ≤ nx by omega) hside hl1 hl2 q1 q2
 have hI' := hI.put (o := ⟨some d, .call { callee := .value f, args, argTypes := ts }, ty, ps, af, none⟩) (e := ⟨res2.ren (pidN bs id), passUps (pidN bs id) 0 m'⟩) (fun d' e => by cases e; exact hdst) b1 b2 (b3 _ _ q3)
 have est := LS.with_st (LS.mk tm mem nx) ⟨some d, .call { callee := .value f, args, argTypes := ts }, ty, ps, af, none⟩ ⟨res2.ren (pidN bs id), passUps (pidN bs id) 0 m'⟩
 rw [← est] at hI'
 have h' := h h2 (fun o' ho' => hd o' (List.mem_cons_of_mem _ ho')) (fun b hb' => by
  have hb' : c.base + 4 * (i + 1) ≤ b := hb'
  show lget (pushes mem _) b = none
  rw [lget_pushes, upds_other _ _ _ fun x hx hxb => ?_]
  ·exact hfr b (by omega)
  ·obtain ⟨j, j1, j2, j3⟩ := passUps_keys _ _ _ x hx
   subst hxb
   rw [j3] at hb'
   unfold pidN at hb' j3
   split at hb'
   ·rename_i hj
    have : bs.getD j 0 = bs[j] := by simp [hj]
    rw [this] at hb'
    have := hsome _ (List.getElem_mem hj)
    rw [hfr _ (by omega)] at this; cases this
   ·omega)
 simp only [hm] at h'
 exact h' r W0 S F0 D E2 _ W' Qc hI' (show c.base + 4 * (i + 1 + l.length) ≤ nx by omega) fun E3 a3 W3 s3 hE3 hI3 hq => hQ E3 a3 W3 s3 (Env.le_trans b1 hE3) hI3 hq
end
end Go.Abs
namespace Go.Abs
open Go.ChangeShapes Go.WideShapes Go.RowKit
set_option linter.unusedVariables false
set_option linter.unusedSimpArgs false

def topE (W : World) : Env := ⟨W.heap.size, fun B o => W.cell? ⟨B, o, none⟩, fun _ => none⟩
theorem topM (W : World) : InvM (cx W (fun _ => False) 0 (topE W).F) (topE W) none' 0 W where
 n0 := rfl
 frz := fun B o d h => h
 blk := fun b k hk => by cases hk
 dom := fun b I hI => by cases hI
 nx := fun b k hk => by cases hk
 inj := fun b b' I I' B h1 => by cases h1
 sep := fun b I B h1 => by cases h1
 own := fun b I B h1 => by cases h1
 old := fun B o hB => rfl
 keep := Keeps.refl _ _
theorem fnP_top {P : Program} {f : FuncId} {args : List V} {v : Value} (h : FnP P f args (.sc v)) {W : World} {cargs : List Value} (ha : RLs (topE W) args cargs) :
  Calls P f cargs.toArray W fun e W' => e = .returned v ∧ Below W.heap.size W W' := by
 refine (h (topE W) W (fun _ => False) cargs (topM W) ha).mono ?_
 rintro e W' ⟨c, E', res, m', nx', rfl, h1, h2, h3, rfl, h5⟩
 simp only [RL] at h3
 subst h3
 have k := h2.keep
 exact ⟨rfl, k.os, k.tape, k.output, k.size, fun b hb => k.block b hb (fun h => h)⟩
def IntRow (w : World) (a : Option Addr) (len cap : Nat) (zs : List Int) : Prop :=
 len ≤ cap ∧ zs.length = len ∧ (len = 0 ∨ ∃ B o, a = some ⟨B, o, none⟩ ∧ ∀ i, i < zs.length → w.cell? ⟨B, o + i, none⟩ = some (.int .i64 (zs.getD i 0)))
theorem IntRow.rl {w : World} {a : Option Addr} {len cap : Nat} {zs : List Int} (h : IntRow w a len cap zs) : RL (topE w) (rowV false zs) (.slice a len cap) := by
 obtain ⟨h1, h2, h3⟩ := h
 unfold rowV
 simp only [RL]
 subst h2
 refine ⟨a, cap, rfl, h1, flat_len' false zs, flat_leaf false zs, ?_⟩
 rcases h3 with h3 | ⟨B, o, rfl, h3⟩
 ·exact .inl h3
 ·refine .inr ⟨B, o, rfl, (fun h => nomatch h), RF.of_get _ _ fun i x hx => ?_⟩
  have e : (zs.flatMap (Cl.c false)) = zs.map fun z => V.sc (.int .i64 z) := by
   have key : ∀ l : List Int, (l.flatMap (Cl.c false)) = l.map fun z => V.sc (.int .i64 z) := by
    intro l; induction l with
    | nil => rfl
    | cons z l ih => rw [List.flatMap_cons, List.map_cons, ih]; rfl
   exact key zs
  rw [e, List.getElem?_map] at hx
  cases hz : zs[i]? with
  | none => rw [hz] at hx; cases hx
  | some z =>
   rw [hz] at hx; cases hx
   have hlt := (List.getElem?_eq_some_iff.1 hz).1
   refine ⟨.int .i64 z, ?_, by simp only [RL]⟩
   have := h3 i hlt
   rw [List.getD_eq_getElem?_getD, hz] at this
   exact this
theorem open_row {H : Type} {enc : TypeId × Value → H} {P : Program} {W : World} {t e : TypeId} {a : Option Addr} {len cap : Nat} {d : DataW H} {ps : List MemPlace} {ts : List TypeId} {ds : List (DataW H)} {j : Nat}
  (hsz : (DataW.weightsEach P ts ds).all (· ≤ reachBytes) = true) (ht : ts[j]? = some t) (hd : ds[j]? = some d) (hu : P.underlying t = some (.slice e)) (he : P.underlying e = some (.int .i64)) (hc : P.cellsOf e = 1) (hB : P.bytesOf e = 8)
  (h : DataW.Trod enc P W 0 (fun _ => true) true t (.slice a len cap) d ps) : ∃ zs : List Int, IntRow W a len cap zs ∧ (∀ z ∈ zs, -9223372036854775808 ≤ z ∧ z ≤ 9223372036854775807) ∧ zs.length * 8 ≤ 140737488351232 := by
 obtain ⟨fuel, hf⟩ := h
 rcases open_ints hu he hc hf with ⟨hcs, _⟩ | ⟨x, l, c, zs, hcs, _, hl, _, hz, hx, hcell, hwz⟩
 ·simp [Value.cells] at hcs
  obtain ⟨rfl, rfl, rfl⟩ := hcs
  exact ⟨[], ⟨Nat.le_refl _, rfl, .inl rfl⟩, (fun z hz => nomatch hz), by simp⟩
 ·simp [Value.cells] at hcs
  obtain ⟨rfl, rfl, rfl⟩ := hcs
  obtain ⟨hx, _⟩ := Prod.mk.inj hx
  subst hx
  have hz' : zs.length = cap := by simpa using hz
  have w := sized_slice hsz ht hd hu
  rw [hB] at w
  have h1 : (lits (H := H) .i64 (zs.take len)).length + (lits (H := H) .i64 (zs.drop len)).length = zs.length := by
   simp [lits]
   omega
  rw [h1] at w
  have hlen : (zs.take len).length = len := by simp; omega
  refine ⟨zs.take len, ⟨hl, hlen, ?_⟩, fun z hz2 => ?_, ?_⟩
  ·rcases Nat.eq_zero_or_pos len with h0 | h0
   ·exact .inl h0
   ·right
    have c0 := hcell 0 (by omega)
    obtain ⟨B, o, sp⟩ := x
    have hsp : sp = none := by
     cases sp with
     | none => rfl
     | some q =>
      exfalso
      simp only [Addr.add, if_true, World.cell?] at c0
      split at c0
      ·simp at c0
      ·cases c0
    subst hsp
    refine ⟨B, o, rfl, fun i hi => ?_⟩
    rw [hlen] at hi
    have := hcell i (by omega)
    rw [addr_add] at this
    rw [this]
    congr 2
    simp only [List.getD_eq_getElem?_getD, List.getElem?_take]
    rw [if_pos hi]
  ·have := hwz z (List.mem_of_mem_take hz2)
   simp only [Lit.wf, IntKind.min, IntKind.max, IntKind.signed, IntKind.bits, Bool.and_eq_true, decide_eq_true_eq, if_true] at this
   simp at this
   omega
  ·have h3 : zs.length * 8 ≤ reachBytes := w
   have h4 : reachBytes = 140737488351232 := by decide
   rw [hlen]
   have : len ≤ zs.length := by omega
   omega
theorem rls_nil {E : Env} : RLs E [] [] := by simp only [RLs]
theorem rls_cons {E : Env} {x : V} {d : Value} {xs : List V} {ds : List Value} (h : RL E x d) (k : RLs E xs ds) : RLs E (x :: xs) (d :: ds) := by simp only [RLs]; exact ⟨d, ds, rfl, h, k⟩
theorem rl_sc {E : Env} {v : Value} : RL E (.sc v) v := by simp only [RL]
theorem wf_i64 {n : Int} (h : (Lit.int .i64 n).wf = true) : -9223372036854775808 ≤ n ∧ n ≤ 9223372036854775807 := by
 simp only [Lit.wf, IntKind.min, IntKind.max, IntKind.signed, IntKind.bits, Bool.and_eq_true, decide_eq_true_eq, if_true] at h
 simp at h
 omega
structure okL (l : List Int) : Prop where
 z : ∀ z ∈ l, -9223372036854775808 ≤ z ∧ z ≤ 9223372036854775807
 len : l.length * 8 ≤ 140737488351232
def inR (n : Int) : Prop := -9223372036854775808 ≤ n ∧ n ≤ 9223372036854775807
end Go.Abs
namespace Go.Abs
open Go.RowKit
set_option linter.unusedVariables false
set_option linter.unusedSimpArgs false
structure IsAdd64 (P : Program) (f : FuncId) : Prop where
 ex : ∃ fn, P.funcs[f]? = some fn ∧ (fn.name == "runtime.NumGoroutine") = false ∧ fn.body.isNone = true ∧ Extern.findNext fn = none ∧ Extern.find fn = some add64Entry
def add64 (a b k : Int) : Option (Int × Int) := if 0 ≤ a ∧ 0 ≤ b ∧ 0 ≤ k ∧ k ≤ 1 then some ((a + b + k) % 18446744073709551616, (a + b + k) / 18446744073709551616) else none
def tabAt (l : List UInt8) (n : Int) : Int := ((l.getD n.toNat 0).toNat : Int)
theorem srcR2 {α : Type} [Cl α] {m : Nat → Option Blk} {nw nw' : Bool} {ys : List α} {v : V} (hv : v = rowV nw ys) (hf : ∀ x : α, Cl.c nw x = Cl.c nw' x) : srcV m (Cl.e α) v = some (ys.length, ys.flatMap (Cl.c nw')) := by
 rw [srcR' hv, show (Cl.c nw : α → List V) = Cl.c nw' from funext hf]
theorem srcS2 {α : Type} [Cl α] {mem : List (Nat × Blk)} {b ver te ln : Nat} {nw nw' : Bool} {ys : List α} {v : V} (hv : v = slV α b ver 0 ln) (hm : lget mem b = some (arrB te ver nw ys)) (hl : ln = ys.length) (hf : ∀ x : α, Cl.c nw x = Cl.c nw' x) : srcV (lget mem) (Cl.e α) v = some (ys.length, ys.flatMap (Cl.c nw')) := by
 rw [srcS' hv hm hl, show (Cl.c nw : α → List V) = Cl.c nw' from funext hf]
section
variable {c : RX} {i : Nat} {l : List Oper} {tm : List (Nat × V)} {mem : List (Nat × Blk)} {nx : Nat} {Q : LS → Prop} {d : Tmp} {op : Op} {ty : TypeId} {ps : String} {af : Array Edge} {g : Option (Nat × Bool)}
theorem xa {f : FuncId} {x y z : Operand} {ts : Array TypeId} {a b k : Int} {r : Int × Int} (hw : Wt c ⟨tm, mem, nx⟩ ⟨some d, .call { callee := .value (.func f), args := #[x, y, z], argTypes := ts }, ty, ps, af, g⟩)
  (hf : IsAdd64 c.P f) (hx : (LS.mk tm mem nx).ev x = .sc (.int .u64 a)) (hy : (LS.mk tm mem nx).ev y = .sc (.int .u64 b)) (hz : (LS.mk tm mem nx).ev z = .sc (.int .u64 k)) (hr : add64 a b k = some r)
  (h : RunC c (i + 1) l ⟨(d, .tup [.sc (.int .u64 r.1), .sc (.int .u64 r.2)]) :: tm, mem, nx⟩ Q) : RunC c i (⟨some d, .call { callee := .value (.func f), args := #[x, y, z], argTypes := ts }, ty, ps, af, g⟩ :: l) ⟨tm, mem, nx⟩ Q :=
 rawC hw rfl (fun ρ E W hρ => by
  have h0 := hρ (.func f) (by simp [Op.operands, Call.operands])
  have h1 := hρ x (by simp [Op.operands, Call.operands])
  have h2 := hρ y (by simp [Op.operands, Call.operands])
  have h3 := hρ z (by simp [Op.operands, Call.operands])
  rw [hx] at h1; rw [hy] at h2; rw [hz] at h3
  simp only [RL] at h1 h2 h3
  have e0 : ρ (.func f) = .func (.func f) #[] #[] := by
   have : RL E (V.fn (.func f) []) (ρ (.func f)) := h0
   simp only [RL, RLs] at this
   obtain ⟨cs, e1, e2⟩ := this
   subst e2
   exact e1
  unfold add64 at hr
  split at hr
  ·rename_i hc
   obtain ⟨c1, c2, c3, c4⟩ := hc
   cases hr
   obtain ⟨fn, q1, q2, q3, q4, q5⟩ := hf.ex
   refine ⟨.tuple #[.int .u64 ((a + b + k) % 18446744073709551616), .int .u64 ((a + b + k) / 18446744073709551616)], ?_, by simp only [RL, RLs]; exact ⟨_, rfl, _, _, rfl, rfl, _, _, rfl, rfl, rfl⟩⟩
   have hrun : (execOp ρ ⟨some d, .call { callee := .value (.func f), args := #[x, y, z], argTypes := ts }, ty, ps, af, g⟩).run c.P W = (callFunc f #[.int .u64 a, .int .u64 b, .int .u64 k]).run c.P W := by
    simp [execOp, resolve, Deferred.ofValue, e0, invoke, Result.andThen, h1, h2, h3]
   rw [hrun, run_callFunc_extern q1 q2 q3 q4 q5, run_add64 a b k c1 c2 c3 c4]
   rfl
  ·cases hr) h
theorem ixT {s : List UInt8} {n : Int} {t : TypeId} {x y : Operand} {k : IntKind} (hw : Wt c ⟨tm, mem, nx⟩ ⟨some d, .index t x y, ty, ps, af, g⟩) (hx : (LS.mk tm mem nx).ev x = .sc (.string ⟨s.toArray⟩)) (hy : (LS.mk tm mem nx).ev y = .sc (.int k n)) {ti : TI} (hti : tiOf c.P t = some ti) (hk : ti.k = .str8) (hn : 0 ≤ n ∧ n.toNat < s.length)
  (h : RunC c (i + 1) l ⟨(d, .sc (.int .u8 (tabAt s n))) :: tm, mem, nx⟩ Q) : RunC c i (⟨some d, .index t x y, ty, ps, af, g⟩ :: l) ⟨tm, mem, nx⟩ Q :=
 fxC hw rfl (fun _ => by
  have e : (ByteArray.get! ⟨s.toArray⟩ n.toNat) = s.getD n.toNat 0 := by
   simp [ByteArray.get!, List.getD_eq_getElem?_getD]
   simp [getElem!_def, hn.2]
  have e2 : n.toNat < (ByteArray.size ⟨s.toArray⟩) := by simpa [ByteArray.size] using hn.2
  simp only [opFx, fxIndex, hx, hy, tkAt, hti, hk, Option.map_some]
  rw [if_pos ⟨hn.1, e2⟩, e]; rfl) h
theorem shL {t t' : TypeId} {x y : Operand} {k k' : IntKind} {n m r : Int} (hw : Wt c ⟨tm, mem, nx⟩ ⟨some d, .binOp .shl t x y t', ty, ps, af, g⟩) (hx : (LS.mk tm mem nx).ev x = .sc (.int k n)) (hy : (LS.mk tm mem nx).ev y = .sc (.int k' m)) (hm : 0 ≤ m) (hr : k.wrap (n * 2 ^ (min m.toNat k.bits)) = r)
  (h : RunC c (i + 1) l ⟨(d, .sc (.int k r)) :: tm, mem, nx⟩ Q) : RunC c i (⟨some d, .binOp .shl t x y t', ty, ps, af, g⟩ :: l) ⟨tm, mem, nx⟩ Q :=
 fxC hw rfl (fun _ => by simp [opFx, evBin, BinOp.isShift, evShift, hx, hy, Int.not_lt.2 hm, hr]) h
theorem shR {t t' : TypeId} {x y : Operand} {k k' : IntKind} {n m r : Int} (hw : Wt c ⟨tm, mem, nx⟩ ⟨some d, .binOp .shr t x y t', ty, ps, af, g⟩) (hx : (LS.mk tm mem nx).ev x = .sc (.int k n)) (hy : (LS.mk tm mem nx).ev y = .sc (.int k' m)) (hm : 0 ≤ m) (hr : Int.fdiv n (2 ^ (min m.toNat k.bits)) = r)
  (h : RunC c (i + 1) l ⟨(d, .sc (.int k r)) :: tm, mem, nx⟩ Q) : RunC c i (⟨some d, .binOp .shr t x y t', ty, ps, af, g⟩ :: l) ⟨tm, mem, nx⟩ Q :=
 fxC hw rfl (fun _ => by simp [opFx, evBin, BinOp.isShift, evShift, hx, hy, Int.not_lt.2 hm, hr]) h
end
end Go.Abs
namespace Go.Abs
open Go.RowKit
set_option linter.unusedVariables false
set_option linter.unusedSimpArgs false
section
variable {c : RX} {i : Nat} {l : List Oper} {tm : List (Nat × V)} {mem : List (Nat × Blk)} {nx : Nat} {Q : LS → Prop} {d : Tmp} {op : Op} {ty : TypeId} {ps : String} {af : Array Edge} {g : Option (Nat × Bool)}
theorem buA {t : TypeId} {parts : Array (Nat × Operand)} {cs : List V} {ti j : TI} {n : Nat} {e : TypeId} (hw : Wt c ⟨tm, mem, nx⟩ ⟨some d, .build t parts, ty, ps, af, g⟩) (hti : tiOf c.P t = some ti) (hk : ti.k = .arr n e) (htj : tiOf c.P e = some j) (hz : ti.zero.all Value.flat1 = true)
  (hf : fillV (fun i => some (i * j.size, j.size)) (ti.zero.map .sc) (parts.toList.map fun p => (p.1, (LS.mk tm mem nx).ev p.2)) = some cs)
  (h : RunC c (i + 1) l ⟨(d, .agg cs) :: tm, mem, nx⟩ Q) : RunC c i (⟨some d, .build t parts, ty, ps, af, g⟩ :: l) ⟨tm, mem, nx⟩ Q :=
 fxC hw rfl (fun _ => by simp only [opFx, fxBuild, hti, hz, if_true, hk, htj, hf, Option.map_some]) h
theorem ixA {t te : TypeId} {x y : Operand} {k : IntKind} {n : Int} {len : Nat} {ti j : TI} {cs : List V} {v : V} (hw : Wt c ⟨tm, mem, nx⟩ ⟨some d, .index t x y, ty, ps, af, g⟩) (hx : (LS.mk tm mem nx).ev x = .agg cs) (hy : (LS.mk tm mem nx).ev y = .sc (.int k n))
  (hti : tiOf c.P t = some ti) (hk : ti.k = .arr len te) (htj : tiOf c.P te = some j) (hn : 0 ≤ n ∧ n < len) (hv : fieldV j cs (n.toNat * j.size) = some v)
  (h : RunC c (i + 1) l ⟨(d, v) :: tm, mem, nx⟩ Q) : RunC c i (⟨some d, .index t x y, ty, ps, af, g⟩ :: l) ⟨tm, mem, nx⟩ Q :=
 fxC hw rfl (fun _ => by
  simp only [opFx, fxIndex, hx, hy, tkAt, hti, hk, htj, Option.map_some]
  rw [if_pos hn]
  unfold fieldV at hv
  split at hv
  ·rename_i ha; rw [if_pos ha]
   split at hv
   ·rename_i hl; rw [if_pos hl]; cases hv; rfl
   ·cases hv
  ·rename_i ha; rw [if_neg ha, hv]; rfl) h
theorem fieldV_of {j : TI} {cs : List V} {off : Nat} {v : V} (h1 : 0 < j.size) (h : loadV j (cs.drop off) = some v) : fieldV j cs off = some v := by
 unfold loadV at h
 unfold fieldV
 split at h
 ·rename_i ha; rw [if_pos ha]
  split at h
  ·rename_i hl; rw [List.length_drop] at hl; rw [if_pos (by omega)]; exact h
  ·cases h
 ·rename_i ha; rw [if_neg ha]
  rw [List.head?_drop] at h; exact h
theorem ixD {α : Type} [Cl α] {t te : TypeId} {x y : Operand} {k : IntKind} {n : Int} {len : Nat} {ti j : TI} {cs : List V} {v : V} {nw : Bool} {xs : List α} (hw : Wt c ⟨tm, mem, nx⟩ ⟨some d, .index t x y, ty, ps, af, g⟩) (hx : (LS.mk tm mem nx).ev x = .agg cs) (hcs : cs = xs.flatMap (Cl.c nw)) (hy : (LS.mk tm mem nx).ev y = .sc (.int k n))
  (hti : tiOf c.P t = some ti) (hk : ti.k = .arr len te) (htj : tiOf c.P te = some j) (hn : 0 ≤ n ∧ n < (xs.length : Int)) (hlen : xs.length = len) (hs : j.size = Cl.e α) (hv : loadV j (Cl.c nw (xs.getD n.toNat Cl.d)) = some v)
  (h : RunC c (i + 1) l ⟨(d, v) :: tm, mem, nx⟩ Q) : RunC c i (⟨some d, .index t x y, ty, ps, af, g⟩ :: l) ⟨tm, mem, nx⟩ Q := by
 have hp : 0 < j.size := by rw [hs]; exact Cl.pos
 refine ixA hw hx hy hti hk htj ⟨hn.1, by omega⟩ (fieldV_of hp ?_) h
 subst hcs
 rw [hs, elem_split nw xs n.toNat (by omega)]
 have := loadV_app (ti := j) (a := Cl.c nw (xs.getD n.toNat Cl.d)) (b := (xs.drop (n.toNat + 1)).flatMap (Cl.c nw)) (off := 0) (v := v) (by rw [Cl.len]; omega) hp (by rw [List.drop_zero]; exact hv)
 simpa using this
theorem iaP {t te : TypeId} {x y : Operand} {k : IntKind} {n : Int} {len : Nat} {ti j : TI} {b ver o o' : Nat} (hw : Wt c ⟨tm, mem, nx⟩ ⟨some d, .indexAddr t x y, ty, ps, af, g⟩) (hx : (LS.mk tm mem nx).ev x = .ptr b ver o) (hy : (LS.mk tm mem nx).ev y = .sc (.int k n))
  (hti : tiOf c.P t = some ti) (hk : ti.k = .arr len te) (htj : tiOf c.P te = some j) (hn : 0 ≤ n ∧ n < len) (ho : o + n.toNat * j.size = o')
  (h : RunC c (i + 1) l ⟨(d, .ptr b ver o') :: tm, mem, nx⟩ Q) : RunC c i (⟨some d, .indexAddr t x y, ty, ps, af, g⟩ :: l) ⟨tm, mem, nx⟩ Q :=
 fxC hw rfl (fun _ => by
  simp only [opFx, fxIndexAddr, hx, hy, tkAt, hti, hk, htj, Option.map_some]
  rw [if_pos hn, ho]) h
theorem iaR {t te : TypeId} {x y : Operand} {k : IntKind} {n : Int} {len : Nat} {ti j : TI} {cs ds : List V} (hw : Wt c ⟨tm, mem, nx⟩ ⟨some d, .indexAddr t x y, ty, ps, af, g⟩) (hx : (LS.mk tm mem nx).ev x = .rp cs) (hy : (LS.mk tm mem nx).ev y = .sc (.int k n))
  (hti : tiOf c.P t = some ti) (hk : ti.k = .arr len te) (htj : tiOf c.P te = some j) (hn : 0 ≤ n ∧ n < len) (ho : cs.drop (n.toNat * j.size) = ds)
  (h : RunC c (i + 1) l ⟨(d, .rp ds) :: tm, mem, nx⟩ Q) : RunC c i (⟨some d, .indexAddr t x y, ty, ps, af, g⟩ :: l) ⟨tm, mem, nx⟩ Q :=
 fxC hw rfl (fun _ => by
  simp only [opFx, fxIndexAddr, hx, hy, tkAt, hti, hk, htj, Option.map_some]
  rw [if_pos hn, ho]) h
theorem ldD {α : Type} [Cl α] {t : TypeId} {a : Operand} {v : V} {b ver o m off : Nat} {nw : Bool} {cs pre post : List V} {xs : List α} {ti : TI} (hw : Wt c ⟨tm, mem, nx⟩ ⟨some d, .load t a, ty, ps, af, g⟩) (hx : (LS.mk tm mem nx).ev a = .ptr b ver (o + m * Cl.e α + off)) (hm : lget mem b = some (.box cs)) (hv : (ver == 0) = true) (hcs : cs = pre ++ (xs.flatMap (Cl.c nw) ++ post)) (hpre : pre.length = o) (hlt : m < xs.length) (hti : tiOf c.P t = some ti)
  (hl : loadV ti ((Cl.c nw (xs.getD m Cl.d)).drop off) = some v) (h1 : Nat.blt 0 ti.size = true) (hs : Nat.ble (off + ti.size) (Cl.e α) = true) (hc : lchk c.base c.masks c.kl i [b] = true) (h : RunC c (i + 1) l ⟨(d, v) :: tm, mem, nx⟩ Q) : RunC c i (⟨some d, .load t a, ty, ps, af, g⟩ :: l) ⟨tm, mem, nx⟩ Q := by
 have hs' := Nat.le_of_ble_eq_true hs
 have h1' : 0 < ti.size := by simp [Nat.blt] at h1; omega
 refine ldB hw hx hm hv hti ?_ hc h
 subst hcs hpre
 have hle : m * Cl.e α ≤ (xs.flatMap (Cl.c nw)).length := by rw [flat_len']; exact Nat.mul_le_mul_right _ (Nat.le_of_lt hlt)
 rw [Nat.add_assoc, ← List.drop_drop, List.drop_left, ← List.drop_drop, List.drop_append_of_le_length hle, elem_split nw xs m hlt, List.append_assoc]
 exact loadV_app (by rw [Cl.len]; exact hs') h1' hl
theorem splice_mid {A pre post ds : List V} {k : Nat} (h : k + ds.length ≤ A.length) : splice (pre ++ (A ++ post)) (pre.length + k) ds = pre ++ (splice A k ds ++ post) := by
 unfold splice
 rw [List.take_length_add_append, List.take_append_of_le_length (by omega), Nat.add_assoc, List.drop_length_add_append, List.drop_append_of_le_length h]
 simp only [List.append_assoc]
theorem etaS {α : Type} [Cl α] {xs v ys : List α} {y : α} {m n : Nat} (ev : xs.set m y = v) (hn : xs.length = n) (h : (List.range n).map (fun k : Nat => gt v (k : Int)) = ys) : xs.set m y = ys := by
 rw [← h, ev]
 have hl : v.length = n := by rw [← ev, List.length_set, hn]
 refine List.ext_getElem (by simp [hl]) fun k h1 h2 => ?_
 simp only [List.getElem_map, List.getElem_range]
 unfold gt
 rw [List.getD_eq_getElem?_getD, Int.toNat_natCast, List.getElem?_eq_getElem h1]; rfl
theorem stD {α : Type} [Cl α] {t : TypeId} {a x : Operand} {b ver o m off : Nat} {nw : Bool} {cs cs' pre post ds : List V} {xs ys : List α} {y : α} {ti : TI} (hw : Wt c ⟨tm, mem, nx⟩ ⟨none, .store t a x, ty, ps, af, g⟩) (hx : (LS.mk tm mem nx).ev a = .ptr b ver (o + m * Cl.e α + off)) (hm : lget mem b = some (.box cs)) (hv : (ver == 0) = true) (hcs : cs = pre ++ (xs.flatMap (Cl.c nw) ++ post)) (hpre : pre.length = o) (hlt : m < xs.length) (hti : tiOf c.P t = some ti)
  (hy : ((LS.mk tm mem nx).ev x).cellsOf = some ds) (hd : (ds.length == ti.size) = true) (hf : Nat.ble (off + ds.length) (Cl.e α) = true) (hs : splice (Cl.c nw (xs.getD m Cl.d)) off ds = Cl.c nw y) (hys : xs.set m y = ys) (hcs' : pre ++ (ys.flatMap (Cl.c nw) ++ post) = cs') (hc : lchk c.base c.masks c.kl i [b] = true)
  (h : RunC c (i + 1) l ⟨tm, (b, .box cs') :: mem, nx⟩ Q) : RunC c i (⟨none, .store t a x, ty, ps, af, g⟩ :: l) ⟨tm, mem, nx⟩ Q := by
 have hf' := Nat.le_of_ble_eq_true hf
 have hfit : m * Cl.e α + off + ds.length ≤ (xs.flatMap (Cl.c nw)).length := by
  rw [flat_len']
  have := Nat.mul_le_mul_right (Cl.e α) (Nat.succ_le_of_lt hlt)
  rw [Nat.succ_mul] at this; omega
 have hsp : splice cs (o + m * Cl.e α + off) ds = cs' := by
  rw [hcs, ← hpre, Nat.add_assoc, splice_mid hfit, splice_elem hlt hf' hs, hys, hcs']
 refine stB hw hx hm hv hti hy hd ?_ hsp hc h
 rw [hcs, ← hpre]
 apply Nat.ble_eq_true_of_le
 simp only [List.length_append]; omega
end
end Go.Abs
namespace Go.Abs
open Go.RowKit
set_option linter.unusedVariables false
set_option linter.unusedSimpArgs false
theorem blk_set {w : World} {g : Nat} {t : TypeId} {cs : Array Value} (h : w.heap[g]? = some (.cells cs t (0, 0))) (i : Nat) (u : Value) : (w.setCell ⟨g, i, none⟩ u).heap[g]? = some (.cells (cs.setIfInBounds i u) t (0, 0)) := by
 have hlt := (Array.getElem?_eq_some_iff.1 h).1
 unfold World.setCell
 have e := (Array.getElem?_eq_some_iff.1 h).2
 simp [Array.getElem_modify, hlt, e]
theorem blk_far {w : World} {g : Nat} {t : TypeId} {cs : Array Value} (h : w.heap[g]? = some (.cells cs t (0, 0))) {p : Addr} (hp : g ≠ p.block) (u : Value) : (w.setCell p u).heap[g]? = some (.cells cs t (0, 0)) := (Below.heap_setCell w p u g hp).trans h
theorem blk_lt {w : World} {g : Nat} {o : Obj} (h : w.heap[g]? = some o) : g < w.heap.size := (Array.getElem?_eq_some_iff.1 h).1
theorem blk_alloc {w : World} {g : Nat} {o : Obj} (h : w.heap[g]? = some o) (o' : Obj) : (w.alloc o').heap[g]? = some o := (Below.heap_alloc w o' g (blk_lt h)).trans h
theorem blk_below {w w1 : World} {g : Nat} {o : Obj} (h : w.heap[g]? = some o) (hb : Below w.heap.size w w1) : w1.heap[g]? = some o := (hb.block g (blk_lt h)).trans h
theorem cel_get {w : World} {B : Nat} {t : TypeId} {cs : Array Value} (h : w.heap[B]? = some (.cells cs t (0, 0))) (i : Nat) {v : Value} (hv : cs[i]? = some v) : w.cell? ⟨B, i, none⟩ = some v ∧ w.frozen? ⟨B, i, none⟩ = false := by
 constructor
 ·unfold World.cell?; simp only [h]; exact hv
 ·unfold World.frozen?; simp only [h]
  have : i < cs.size := (Array.getElem?_eq_some_iff.1 hv).1
  simp
theorem cel3 {w : World} {B : Nat} {t : TypeId} {a b c : Value} (h : w.heap[B]? = some (.cells #[a, b, c] t (0, 0))) : w.cell? ⟨B, 0, none⟩ = some a ∧ w.cell? ⟨B, 1, none⟩ = some b ∧ w.cell? ⟨B, 2, none⟩ = some c ∧ w.frozen? ⟨B, 0, none⟩ = false ∧ w.frozen? ⟨B, 1, none⟩ = false ∧ w.frozen? ⟨B, 2, none⟩ = false :=
 ⟨(cel_get h 0 rfl).1, (cel_get h 1 rfl).1, (cel_get h 2 rfl).1, (cel_get h 0 rfl).2, (cel_get h 1 rfl).2, (cel_get h 2 rfl).2⟩
theorem cel1 {w : World} {B : Nat} {t : TypeId} {a : Value} (h : w.heap[B]? = some (.cells #[a] t (0, 0))) : w.cell? ⟨B, 0, none⟩ = some a ∧ w.frozen? ⟨B, 0, none⟩ = false := cel_get h 0 rfl
theorem own3 {β : Type} (B b : Nat) (cs : Array Value) (t : TypeId) : OwnFrom B (fun (_ : β) W => W.heap[b]? = some (.cells cs t (0, 0))) := fun s W W' row hs hg hr =>
 (hg.block b (Array.getElem?_eq_some_iff.1 hs).1 (fun e => by
  obtain ⟨_, o, ho, hc⟩ := hr b e.symm
  rw [hs] at ho; cases ho; simp [Obj.isCells] at hc)).trans hs
theorem put3 {w : World} {B : Nat} {t : TypeId} {a b c : Value} (a' b' c' : Value) (h : w.heap[B]? = some (.cells #[a, b, c] t (0, 0))) : (((w.setCell ⟨B, 0, none⟩ a').setCell ⟨B, 1, none⟩ b').setCell ⟨B, 2, none⟩ c').heap[B]? = some (.cells #[a', b', c'] t (0, 0)) :=
 blk_set (blk_set (blk_set h 0 a') 1 b') 2 c'
theorem round3 {w w2 W w5 : World} {B : Nat} (h2 : w.heap.size ≤ w2.heap.size) (h5 : Below w.heap.size w W) (hb5 : Below W.heap.size W w5) (hB : w.heap.size ≤ B) (a b c : Value) :
  KeepsFrom w2.heap.size W (((w5.setCell ⟨B, 0, none⟩ a).setCell ⟨B, 1, none⟩ b).setCell ⟨B, 2, none⟩ c) ∧ Below w.heap.size W (((w5.setCell ⟨B, 0, none⟩ a).setCell ⟨B, 1, none⟩ b).setCell ⟨B, 2, none⟩ c) := by
 have kf : KeepsFrom w2.heap.size W w5 := ⟨hb5.size, fun k o _ hk _ => (hb5.block k (blk_lt hk)).trans hk⟩
 refine ⟨kf.trans (((KeepsOthers.setCell _ _ _).trans ((KeepsOthers.setCell _ _ _).trans (KeepsOthers.setCell _ _ _))).from _), ?_⟩
 exact (((hb5.mono h5.size).setCell (p := ⟨B, 0, none⟩) hB _).setCell (p := ⟨B, 1, none⟩) hB _).setCell (p := ⟨B, 2, none⟩) hB _
theorem far3 {w : World} {r B : Nat} {t : TypeId} {cs : Array Value} (h : w.heap[r]? = some (.cells cs t (0, 0))) (hr : r ≠ B) (a b c : Value) : (((w.setCell ⟨B, 0, none⟩ a).setCell ⟨B, 1, none⟩ b).setCell ⟨B, 2, none⟩ c).heap[r]? = some (.cells cs t (0, 0)) :=
 blk_far (blk_far (blk_far h (p := ⟨B, 0, none⟩) hr _) (p := ⟨B, 1, none⟩) hr _) (p := ⟨B, 2, none⟩) hr _
def Row3 {α : Type} (f0 f1 f2 : α → Value) (w : World) (A : Option Addr) (zs : List α) : Prop :=
 ∀ k (hk : k < zs.length), ∃ ad, A = some ad ∧ ad.block < w.heap.size ∧ w.cell? (ad.add (k * 3)) = some (f0 zs[k]) ∧ w.cell? ⟨(ad.add (k * 3)).block, (ad.add (k * 3)).off + 1, none⟩ = some (f1 zs[k]) ∧ w.cell? ⟨(ad.add (k * 3)).block, (ad.add (k * 3)).off + 2, none⟩ = some (f2 zs[k])
theorem add_blk (ad : Addr) (n : Nat) : (ad.add n).block = ad.block := by unfold Addr.add; split <;> rfl
theorem Row3.below {α : Type} {f0 f1 f2 : α → Value} {w w' : World} {A : Option Addr} {zs : List α} (h : Row3 f0 f1 f2 w A zs) (hb : Below w.heap.size w w') : Row3 f0 f1 f2 w' A zs := fun k hk => by
 obtain ⟨ad, e, h0, h1, h2, h3⟩ := h k hk
 refine ⟨ad, e, Nat.lt_of_lt_of_le h0 hb.size, ?_, ?_, ?_⟩
 ·exact (hb.cell (p := ad.add (k * 3)) (by rw [add_blk]; exact h0)).trans h1
 ·exact (hb.cell (p := ⟨(ad.add (k * 3)).block, (ad.add (k * 3)).off + 1, none⟩) (by show (ad.add (k * 3)).block < _; rw [add_blk]; exact h0)).trans h2
 ·exact (hb.cell (p := ⟨(ad.add (k * 3)).block, (ad.add (k * 3)).off + 2, none⟩) (by show (ad.add (k * 3)).block < _; rw [add_blk]; exact h0)).trans h3
theorem fnP_out {P : Program} {f : FuncId} {args : List V} {res : V} (h : FnP P f args res) {W : World} {cargs : List Value} (ha : RLs (topE W) args cargs) :
  Calls P f cargs.toArray W fun e W' => ∃ c E', e = .returned c ∧ RL E' res c ∧ Below W.heap.size W W' := by
 refine (h (topE W) W (fun _ => False) cargs (topM W) ha).mono ?_
 rintro e W' ⟨c, E', res, m', nx', rfl, h1, h2, h3, rfl, h5⟩
 have k := h2.keep
 exact ⟨c, E', rfl, h3, k.os, k.tape, k.output, k.size, fun b hb => k.block b hb (fun h => h)⟩
theorem fnP_in {P : Program} {f : FuncId} {args : List V} {res : V}
  (h : ∀ (E : Env) (W : World) (cargs : List Value), (∀ B o d, E.F B o = some d → W.cell? ⟨B, o, none⟩ = some d) → RLs E args cargs → Calls P f cargs.toArray W fun e W' => ∃ c, e = .returned c ∧ RL E res c ∧ Below W.heap.size W W') : FnP P f args res := by
 intro E W S cargs hM ha
 refine (h E W cargs hM.frz ha).mono ?_
 rintro e W' ⟨c, rfl, h1, h2⟩
 have lt : ∀ B o d, E.F B o = some d → B < W.heap.size := fun B o d hd => by
  have := hM.frz B o d hd
  exact World.block_lt_of_cell? W ⟨B, o, none⟩ this
 refine ⟨c, E, res, none', 0, rfl, Env.le_refl E, ⟨hM.n0, fun B o d hd => ?_, fun b k hk => (by cases hk), fun b I hI => ?_, fun b k hk => (by cases hk), hM.inj, hM.sep, hM.own, hM.old, ?_⟩, h1, rfl, rfl⟩
 ·have := hM.frz B o d hd
  exact (h2.cell (p := ⟨B, o, none⟩) (lt B o d hd)).trans this
 ·exact hM.dom b I hI
 ·exact ⟨h2.os, h2.tape, h2.output, h2.size, fun k hk hS => h2.block k hk⟩
end Go.Abs
namespace Go.Abs
open Go.RowKit
set_option linter.unusedVariables false
set_option linter.unusedSimpArgs false
section
variable {c : RX} {i : Nat} {l : List Oper} {tm : List (Nat × V)} {mem : List (Nat × Blk)} {nx : Nat} {Q : LS → Prop} {d : Tmp} {op : Op} {ty : TypeId} {ps : String} {af : Array Edge} {g : Option (Nat × Bool)}
theorem iaRd {α : Type} [Cl α] {t te : TypeId} {x y : Operand} {k : IntKind} {n : Int} {len : Nat} {ti j : TI} {cs post : List V} {nw : Bool} {xs : List α} (hw : Wt c ⟨tm, mem, nx⟩ ⟨some d, .indexAddr t x y, ty, ps, af, g⟩) (hx : (LS.mk tm mem nx).ev x = .rp cs) (hcs : cs = xs.flatMap (Cl.c nw) ++ post) (hy : (LS.mk tm mem nx).ev y = .sc (.int k n))
  (hti : tiOf c.P t = some ti) (hk : ti.k = .arr len te) (htj : tiOf c.P te = some j) (hn : 0 ≤ n ∧ n < (xs.length : Int)) (hlen : xs.length = len) (hs : j.size = Cl.e α)
  (h : RunC c (i + 1) l ⟨(d, .rp (Cl.c nw (xs.getD n.toNat Cl.d) ++ ((xs.drop (n.toNat + 1)).flatMap (Cl.c nw) ++ post))) :: tm, mem, nx⟩ Q) : RunC c i (⟨some d, .indexAddr t x y, ty, ps, af, g⟩ :: l) ⟨tm, mem, nx⟩ Q := by
 refine iaR hw hx hy hti hk htj ⟨hn.1, by omega⟩ ?_ h
 subst hcs
 rw [hs, List.drop_append_of_le_length (by rw [flat_len']; exact Nat.mul_le_mul_right _ (by omega)), elem_split nw xs n.toNat (by omega), List.append_assoc]
theorem ldRt {α : Type} [Cl α] {t : TypeId} {a : Operand} {v : V} {nw : Bool} {y : α} {tl : List V} {off : Nat} {ti : TI} (hw : Wt c ⟨tm, mem, nx⟩ ⟨some d, .load t a, ty, ps, af, g⟩) (hx : (LS.mk tm mem nx).ev a = .rp ((Cl.c nw y ++ tl).drop off)) (hti : tiOf c.P t = some ti)
  (hl : loadV ti ((Cl.c nw y).drop off) = some v) (h1 : Nat.blt 0 ti.size = true) (hs : Nat.ble (off + ti.size) (Cl.e α) = true) (h : RunC c (i + 1) l ⟨(d, v) :: tm, mem, nx⟩ Q) : RunC c i (⟨some d, .load t a, ty, ps, af, g⟩ :: l) ⟨tm, mem, nx⟩ Q := by
 have hs' := Nat.le_of_ble_eq_true hs
 have h1' : 0 < ti.size := by simp [Nat.blt] at h1; omega
 exact ldR hw hx hti (loadV_app (by rw [Cl.len]; exact hs') h1' hl) h
end
theorem ldM2 {α : Type} [Cl α] {H : How} {j b ver off ln ln' : Nat} (h1 : Nat.blt j H.p = true) (h2 : H.ids j = b) (hl : ln = ln') : Lend H (slV α b ver off ln) (slV α j ver off ln') := by
 subst hl; exact ldM h1 h2
end Go.Abs
namespace Lf
open Go Go.Abs
set_option linter.unusedVariables false
def Has {α : Type} (x : Option α) (P : α → Prop) : Prop := ∃ a, x = some a ∧ P a
section
variable {α β : Type} {x y : Option α} {P Q : α → Prop} {c : Prop} [Decidable c]
theorem Has.bind {f : α → Option β} {R : β → Prop} (h : Has x P) (k : ∀ a, P a → Has (f a) R) : Has (Option.bind x f) R := by
 obtain ⟨a, rfl, ha⟩ := h; exact k a ha
theorem Has.ret {a : α} (h : P a) : Has (some a) P := ⟨a, rfl, h⟩
theorem Has.mono (h : Has x P) (k : ∀ a, P a → Q a) : Has x Q := by obtain ⟨a, e, ha⟩ := h; exact ⟨a, e, k a ha⟩
theorem Has.chk (hc : c) (h : Has x P) : Has (if c then x else none) P := by rw [if_pos hc]; exact h
theorem Has.pos (hc : c) (h : Has x P) : Has (if c then x else y) P := by rw [if_pos hc]; exact h
theorem Has.neg (hc : ¬ c) (h : Has y P) : Has (if c then x else y) P := by rw [if_neg hc]; exact h
theorem Has.ite (h : c → Has x P) (k : ¬ c → Has y P) : Has (if c then x else y) P := by
 by_cases hc : c
 ·rw [if_pos hc]; exact h hc
 ·rw [if_neg hc]; exact k hc
theorem Has.letF {a : β} {f : β → Option α} (h : Has (f a) P) : Has (Abs.letF a f) P := h
theorem Has.eq {a : α} (h : x = some a) (k : P a) : Has x P := ⟨a, h, k⟩
theorem Has.val {a : α} (h : Has x (fun b => b = a)) : x = some a := by obtain ⟨b, e, rfl⟩ := h; exact e
end
inductive StepOK {S O : Type} (I : S → Prop) (μ : S → Nat) (P : O → Prop) (m : Nat) : Step S O → Prop
 | next {s : S} : I s → μ s < m → StepOK I μ P m (.next s)
 | done {o : O} : P o → StepOK I μ P m (.done o)
theorem Has.loop {S O : Type} {body : S → Option (Step S O)} {s : S} (I : S → Prop) (μ : S → Nat) (P : O → Prop) (h0 : I s) (hμ : μ s < 10000000000000000000000000000000000000000) (round : ∀ s, I s → Has (body s) (StepOK I μ P (μ s))) : Has (loopF body s) P := by
 obtain ⟨o, h1, h2⟩ := loopF_ok (body := body) I μ P (fun s hs => by
  obtain ⟨t, e, h⟩ := round s hs
  refine ⟨t, e, fun s' es => ?_, fun o eo => ?_⟩
  ·subst es; cases h with | next a b => exact ⟨a, b⟩
  ·subst eo; cases h with | done a => exact a) h0 hμ
 exact ⟨o, h1, h2⟩
theorem Has.seq {S O : Type} {g : Option (Step S O)} {k : S → Option O} {P : Step S O → Prop} {Q : O → Prop} (h : Has g P) (hn : ∀ s, P (.next s) → Has (k s) Q) (hd : ∀ o, P (.done o) → Q o) : Has (seqF g k) Q := by
 obtain ⟨t, rfl, ht⟩ := h
 cases t with
 | next s => exact hn s ht
 | done o => exact ⟨o, rfl, hd o ht⟩
theorem ite_and (b c : Bool) : (if b = true then some c else some false) = some (b && c) := by cases b <;> rfl
theorem ite_or (b c : Bool) : (if b = true then some true else some c) = some (b || c) := by cases b <;> rfl
theorem w6_in {n : Int} (h : -9223372036854775808 ≤ n ∧ n ≤ 9223372036854775807) : w6 n = n := IntWalk.i64_in n h
theorem w6_bd (n : Int) : -9223372036854775808 ≤ w6 n ∧ w6 n ≤ 9223372036854775807 := by unfold w6; rw [IntKind.wrap_i64]; omega
theorem gt_def {α : Type} [Cl α] (xs : List α) (i : Int) (h : 0 ≤ i ∧ i < xs.length) : gt xs i = xs[i.toNat]'(by omega) := by
 unfold gt; rw [List.getD_eq_getElem?_getD, List.getElem?_eq_getElem (by omega)]; rfl
theorem gt_mem {α : Type} [Cl α] (xs : List α) (i : Int) (h : 0 ≤ i ∧ i < xs.length) : gt xs i ∈ xs := by rw [gt_def xs i h]; exact List.getElem_mem _
theorem roomyI {n b : Nat} (h1 : n * b ≤ 140737488355328) (h2 : n ≤ 140737488355328) : roomy n b = true := by unfold roomy; simp [h1, h2]
theorem mn2_le {a b : Int} (h : a ≤ b) : mn2 a b = a := by unfold mn2; split <;> omega
theorem mx2_le {a b : Int} (h : a ≤ b) : mx2 a b = b := by unfold mx2; split <;> omega
theorem mn2_ge {a b : Int} (h : b ≤ a) : mn2 a b = b := by unfold mn2; split <;> omega
theorem mx2_ge {a b : Int} (h : b ≤ a) : mx2 a b = a := by unfold mx2; split <;> omega
theorem mn2_def (a b : Int) : (mn2 a b = a ∧ a ≤ b) ∨ (mn2 a b = b ∧ b ≤ a) := by unfold mn2; split <;> omega
theorem mx2_def (a b : Int) : (mx2 a b = a ∧ b ≤ a) ∨ (mx2 a b = b ∧ a ≤ b) := by unfold mx2; split <;> omega
end Lf
namespace Lf
open Go Go.Abs
set_option linter.unusedVariables false
section
variable {α : Type} [Cl α] {xs ys : List α} {P Q : Int → α → Prop}
def allI (xs : List α) (P : Int → α → Prop) : Prop := ∀ i : Int, 0 ≤ i → i < (xs.length : Int) → P i (gt xs i)
theorem gt_snoc_lt {y : α} {i : Int} (h : 0 ≤ i) (h2 : i < (xs.length : Int)) : gt (xs ++ [y]) i = gt xs i := by
 unfold gt; rw [List.getD_eq_getElem?_getD, List.getD_eq_getElem?_getD, List.getElem?_append_left (by omega)]
theorem gt_snoc_eq {y : α} {i : Int} (h : i = (xs.length : Int)) : gt (xs ++ [y]) i = y := by
 unfold gt; subst h; simp
theorem gt_set_eq {y : α} {i : Int} (h : 0 ≤ i) (h2 : i < (xs.length : Int)) : gt (xs.set i.toNat y) i = y := by
 unfold gt; rw [List.getD_eq_getElem?_getD, List.getElem?_set_self (by omega)]; rfl
theorem gt_set_ne {y : α} {i j : Int} (h : 0 ≤ i) (h1 : 0 ≤ j) (h2 : i ≠ j) : gt (xs.set i.toNat y) j = gt xs j := by
 unfold gt; rw [List.getD_eq_getElem?_getD, List.getD_eq_getElem?_getD, List.getElem?_set_ne (by omega)]
theorem gt_rep {n : Nat} {y : α} {i : Int} (h : 0 ≤ i) (h2 : i < (n : Int)) : gt (List.replicate n y) i = y := by
 unfold gt; rw [List.getD_eq_getElem?_getD, List.getElem?_replicate, if_pos (by omega)]; rfl
theorem allI_nil : allI ([] : List α) P := fun i h h2 => by simp at h2; omega
theorem allI_snoc {y : α} (h : allI xs P) (hy : P (xs.length : Int) y) : allI (xs ++ [y]) P := fun i h1 h2 => by
 by_cases e : i = (xs.length : Int)
 ·rw [gt_snoc_eq e, e]; exact hy
 ·have : i < (xs.length : Int) := by simp at h2; omega
  rw [gt_snoc_lt h1 this]; exact h i h1 this
theorem allI_set {y : α} {i : Int} (h : allI xs P) (h0 : 0 ≤ i) (hy : P i y) : allI (xs.set i.toNat y) P := fun j h1 h2 => by
 simp only [List.length_set] at h2
 by_cases e : i = j
 ·subst e; rw [gt_set_eq h0 h2]; exact hy
 ·rw [gt_set_ne h0 h1 e]; exact h j h1 h2
theorem allI_upd {y : α} {i : Int} (h : allI xs P) (h0 : 0 ≤ i) (k : ∀ j x, 0 ≤ j → j < (xs.length : Int) → i ≠ j → P j x → Q j x) (hy : Q i y) : allI (xs.set i.toNat y) Q := fun j h1 h2 => by
 simp only [List.length_set] at h2
 by_cases e : i = j
 ·subst e; rw [gt_set_eq h0 h2]; exact hy
 ·rw [gt_set_ne h0 h1 e]; exact k j _ h1 h2 e (h j h1 h2)
theorem allI_of {R : α → Prop} (h : ∀ x ∈ xs, R x) : allI xs fun _ x => R x := fun i h1 h2 => h _ (gt_mem xs i ⟨h1, h2⟩)
theorem allI_rep {n : Nat} {y : α} (h : ∀ i : Int, 0 ≤ i → i < n → P i y) : allI (List.replicate n y) P := fun i h1 h2 => by
 simp only [List.length_replicate] at h2
 rw [gt_rep h1 h2]; exact h i h1 h2
theorem allI_mono (h : allI xs P) (k : ∀ i x, 0 ≤ i → i < (xs.length : Int) → P i x → Q i x) : allI xs Q := fun i h1 h2 => k i _ h1 h2 (h i h1 h2)
theorem allI_mem {R : α → Prop} (h : allI xs fun _ x => R x) : ∀ x ∈ xs, R x := fun x hx => by
 obtain ⟨n, hn, rfl⟩ := List.getElem_of_mem hx
 have := h n (by omega) (by omega)
 rw [gt_def xs n ⟨by omega, by omega⟩] at this
 exact this
theorem gt_ext (h : xs.length = ys.length) (k : ∀ i : Int, 0 ≤ i → i < (xs.length : Int) → gt xs i = gt ys i) : xs = ys := by
 refine List.ext_getElem h fun n h1 h2 => ?_
 have := k n (by omega) (by omega)
 rw [gt_def xs n ⟨by omega, by omega⟩, gt_def ys n ⟨by omega, by omega⟩] at this
 exact this
end
end Lf
