/- Laws about heaps and calls that the walks use. Conditions: as each theorem states them. -/
import Derived.Test.YtdihhgkihbnnoaaAbsZc
namespace Go.Abs
set_option linter.unusedVariables false
set_option linter.unusedSimpArgs false

/-! ### regions, operation by operation, in states whose newest slot stands first -/
structure RX where
  P : Program
  N : Nat
  p : Nat
  ops : Array Oper
  base : Nat
  masks : Option (List Nat)
  kl : Kl
/-- Operations run one by one: in an order that is open, or (masks = none) in the text's. -/
def RunC (c : RX) (i : Nat) (l : List Oper) (s : LS) (Q : LS → Prop) : Prop :=
  (∀ k o', l[k]? = some o' → c.ops[i + k]? = some o') → (∀ o ∈ l, dstOK c.N o.dst = true) → (∀ b, c.base + 4 * i ≤ b → lget s.mem b = none) →
  match c.masks with
  | some _ => ∃ s' : LS, Run c.P c.N c.p c.ops c.base (chkL c.ops c.base c.masks c.kl) (List.range' i l.length) s.st s'.st ∧ Q s'
  | none => ∀ (r : Option Nat) (W0 : World) (S : Nat → Prop) (F0 : Nat → Nat → Option Value) (D : List Deferred) (E : Env) (a : Act) (W : World) (Qc : Exit → Act → World → Prop), Inv ⟨W0, S, c.p, F0, c.N, D⟩ E s.st a W → c.base + 4 * (i + l.length) ≤ s.nx →
      (∀ E' a' W' (s' : LS), E.le E' → Inv ⟨W0, S, c.p, F0, c.N, D⟩ E' s'.st a' W' → Q s' → Qc .normal a' W') → wpOpsIn (fe r) 0 c.P c.ops Qc (List.range' i l.length) a W
theorem RunC.nil {c : RX} {i : Nat} {s : LS} {Q : LS → Prop} (h : Q s) : RunC c i [] s Q := fun _ _ _ => by
  split
  · exact ⟨s, .nil, h⟩
  · intro r W0 S F0 D E a W Qc hI _ hQ
    exact hQ E a W s E.le_refl hI h
def pushes : List (Nat × Blk) → List (Nat × Blk) → List (Nat × Blk)
  | m, [] => m
  | m, x :: l => pushes (x :: m) l
theorem lget_pushes : ∀ (l m : List (Nat × Blk)), lget (pushes m l) = upds (lget m) l
  | [], m => rfl
  | x :: l, m => by
    unfold pushes
    rw [lget_pushes l, upds_cons]
    congr 1
    funext j
    simp [lget, upd, eq_comm]
def LS.with (s : LS) (d : Option Tmp) (v : V) (mem : List (Nat × Blk)) : LS := ⟨match d with | some d => (d, v) :: s.tm | none => s.tm, mem, s.nx⟩
theorem LS.with_st (s : LS) (o : Oper) (e : Eff) : (s.with o.dst e.val (pushes s.mem e.ups)).st = s.st.app o e := by
  unfold LS.with LS.st St.app
  congr 1
  · funext t
    unfold putT LS.slot
    cases o.dst with
    | none => rfl
    | some d =>
      simp only [lget, upd]
      by_cases h : d = t
      · subst h; simp
      · simp [h, Ne.symm h]
  · exact lget_pushes _ _
section
variable {c : RX} {i : Nat} {o : Oper} {l : List Oper} {s : LS} {Q : LS → Prop}
theorem RunC.act {e : Eff} {t : List Nat} {w : Bool} (ha : lget s.mem (c.base + 4 * i) = none → Act1 c.P c.N c.p c.ops (c.base + 4 * i) o s.st e t w)
    (hc : c.ops[i]? = some o → chkL c.ops c.base c.masks c.kl i t w) (hu : ∀ x ∈ e.ups, x.1 < c.base + 4 * i + 4 ∨ (lget s.mem x.1).isSome = true)
    (h : RunC c (i + 1) l (s.with o.dst e.val (pushes s.mem e.ups)) Q) : RunC c i (o :: l) s Q := by
  intro hl hd hf
  obtain ⟨h1, h2⟩ := RunK.head hl
  have h' := h h2 (fun o' ho' => hd o' (List.mem_cons_of_mem _ ho')) (fun b hb => by
    show lget (pushes s.mem e.ups) b = none
    rw [lget_pushes, upds_other _ _ _ fun x hx hxb => ?_]
    · exact hf b (by omega)
    · subst hxb
      rcases hu x hx with h | h
      · omega
      · rw [hf _ (by omega)] at h; cases h)
  have hdst : ∀ d, o.dst = some d → d < c.N := fun d hdd => by
    have := hd o List.mem_cons_self
    rw [hdd] at this
    simpa [dstOK] using this
  cases hm : c.masks with
  | some ms =>
    simp only [hm] at h'
    obtain ⟨s', r1, r2⟩ := h'
    refine ⟨s', ?_, r2⟩
    show Run _ _ _ _ _ _ (List.range' i (l.length + 1)) _ _
    rw [List.range'_succ]
    rw [LS.with_st] at r1
    have hc1 := hc h1
    rw [hm] at hc1
    exact .cons h1 hdst (ha (hf _ (Nat.le_refl _))) hc1 r1
  | none =>
    simp only [hm] at h'
    intro r W0 S F0 D E a W Qc hI hn hQ
    show wpOpsIn _ _ _ _ _ (List.range' i (l.length + 1)) _ _
    rw [List.range'_succ, wpOpsIn_cons]
    have hn' : c.base + 4 * (i + (l.length + 1)) ≤ s.nx := hn
    refine Act1.ok (C := ⟨W0, S, c.p, F0, c.N, D⟩) hI h1 hdst (show c.base + 4 * i < s.nx by omega) (ha (hf _ (Nat.le_refl _))) fun E' a' W' hE hI' => ?_
    rw [← LS.with_st] at hI'
    exact h' r W0 S F0 D E' a' W' Qc hI' (show c.base + 4 * (i + 1 + l.length) ≤ s.nx by omega) fun E2 a2 W2 s2 hE2 hI2 hq => hQ E2 a2 W2 s2 (Env.le_trans hE hE2) hI2 hq

theorem chk_nil (ho : c.ops[i]? = some o) {w : Bool} (hw : w = false) : chkL c.ops c.base c.masks c.kl i [] w :=
  chkL_of ho (by unfold lchk; cases c.masks <;> simp [tchk]) (fun h => by rw [hw] at h; cases h)


/-- Kinds of operations that touch no memory. -/
def quietOp : Op → Bool
  | .load .. | .store .. => false
  | .call { callee := .builtin .append, .. } => false
  | _ => true
theorem quiet_spec {op : Op} (h : quietOp op = true) (ev : Operand → V) : opTouch op ev = [] ∧ wrOp op = false := by
  unfold quietOp at h
  unfold opTouch wrOp
  split at h
  · cases h
  · cases h
  · cases h
  · rename_i h1 h2 h3
    constructor
    · split
      · rename_i t a; exact absurd rfl (h1 t a)
      · rename_i t a x; exact absurd rfl (h2 t a x)
      · rename_i args ts; exact absurd rfl (h3 args ts)
      · rfl
    · split
      · rename_i t a x; exact absurd rfl (h2 t a x)
      · rename_i args ts; exact absurd rfl (h3 args ts)
      · rfl
end
section
variable {c : RX} {i : Nat} {l : List Oper} {tm : List (Nat × V)} {mem : List (Nat × Blk)} {nx : Nat} {Q : LS → Prop} {d : Tmp} {op : Op} {ty : TypeId} {ps : String} {af : Array Edge} {g : Option (Nat × Bool)}
abbrev Wt (c : RX) (s : LS) (o : Oper) : Prop := wantedV c.ops s.st o = some true
theorem fxC (hw : Wt c ⟨tm, mem, nx⟩ ⟨some d, op, ty, ps, af, g⟩) {v : V} (hq : quietOp op = true) (hfx : lget mem (c.base + 4 * i) = none → opFx c.P op (LS.mk tm mem nx).ev (lget mem) (c.base + 4 * i) = some ⟨v, none⟩)
    (h : RunC c (i + 1) l ⟨(d, v) :: tm, mem, nx⟩ Q) : RunC c i (⟨some d, op, ty, ps, af, g⟩ :: l) ⟨tm, mem, nx⟩ Q :=
  RunC.act (e := ⟨v, []⟩) (t := []) (w := false) (fun hid => by
    obtain ⟨q1, q2⟩ := quiet_spec hq (LS.mk tm mem nx).ev
    have := Act1.op (P := c.P) (N := c.N) (p := c.p) (ops := c.ops) (id := c.base + 4 * i) (o := ⟨some d, op, ty, ps, af, g⟩) (s := (LS.mk tm mem nx).st) (fx := ⟨v, none⟩) hw (by rw [LS.st_ev]; exact hfx hid) hid
    rw [LS.st_ev] at this
    simp only [q1, q2] at this
    exact this) (fun ho => chk_nil ho rfl) (fun x hx => by cases hx) h

section lemmas
variable (hw : Wt c ⟨tm, mem, nx⟩ ⟨some d, op, ty, ps, af, g⟩)
/-- An operation that only computes. -/
theorem pu {v : V} (hw : Wt c ⟨tm, mem, nx⟩ ⟨some d, op, ty, ps, af, g⟩) (hq : quietOp op = true) (hfx : ∀ id, opFx c.P op (LS.mk tm mem nx).ev (lget mem) id = some ⟨v, none⟩)
    (h : RunC c (i + 1) l ⟨(d, v) :: tm, mem, nx⟩ Q) : RunC c i (⟨some d, op, ty, ps, af, g⟩ :: l) ⟨tm, mem, nx⟩ Q := fxC hw hq (fun _ => hfx _) h
theorem puI {k : IntKind} {e x : Int} (h : e = x) : some (Fx.mk (.sc (.int k e)) none) = some ⟨.sc (.int k x), none⟩ := by rw [h]
theorem puB {e x : Bool} (h : e = x) : some (Fx.mk (.sc (.bool e)) none) = some ⟨.sc (.bool x), none⟩ := by rw [h]
/-- A field's address. -/
theorem fa {t ft : TypeId} {x : Operand} {f : Nat} {ti tj : TI} {fs : List (Nat × TypeId)} {off b ver o : Nat} (hw : Wt c ⟨tm, mem, nx⟩ ⟨some d, .fieldAddr t x f, ty, ps, af, g⟩) (hx : (LS.mk tm mem nx).ev x = .ptr b ver o)
    (hti : tiOf c.P t = some ti) (hk : ti.k = .str fs) (hf : fs[f]? = some (off, ft)) (htj : tiOf c.P ft = some tj) (hj : (tj.size == 0) = false)
    (h : RunC c (i + 1) l ⟨(d, .ptr b ver (o + off)) :: tm, mem, nx⟩ Q) : RunC c i (⟨some d, .fieldAddr t x f, ty, ps, af, g⟩ :: l) ⟨tm, mem, nx⟩ Q :=
  fxC hw rfl (fun _ => by
    simp only [opFx, fxFieldAddr, tkAt, hti, Option.map_some, hk, hf, htj, hx]
    simp at hj; simp [hj]) h
theorem fr {t ft : TypeId} {x : Operand} {f : Nat} {ti tj : TI} {fs : List (Nat × TypeId)} {off : Nat} {cs : List V} (hw : Wt c ⟨tm, mem, nx⟩ ⟨some d, .fieldAddr t x f, ty, ps, af, g⟩) (hx : (LS.mk tm mem nx).ev x = .rp cs)
    (hti : tiOf c.P t = some ti) (hk : ti.k = .str fs) (hf : fs[f]? = some (off, ft)) (htj : tiOf c.P ft = some tj) (hj : (tj.size == 0) = false)
    (h : RunC c (i + 1) l ⟨(d, .rp (cs.drop off)) :: tm, mem, nx⟩ Q) : RunC c i (⟨some d, .fieldAddr t x f, ty, ps, af, g⟩ :: l) ⟨tm, mem, nx⟩ Q :=
  fxC hw rfl (fun _ => by
    simp only [opFx, fxFieldAddr, tkAt, hti, Option.map_some, hk, hf, htj, hx]
    simp at hj; simp [hj]) h
def fieldV (ti : TI) (cs : List V) (off : Nat) : Option V := if ti.k.isAgg then (if off + ti.size ≤ cs.length then some (.agg ((cs.drop off).take ti.size)) else none) else cs[off]?
theorem fi {t ft : TypeId} {x : Operand} {f : Nat} {ti tj : TI} {fs : List (Nat × TypeId)} {off : Nat} {cs : List V} {v : V} (hw : Wt c ⟨tm, mem, nx⟩ ⟨some d, .field t x f, ty, ps, af, g⟩) (hx : (LS.mk tm mem nx).ev x = .agg cs)
    (hti : tiOf c.P t = some ti) (hk : ti.k = .str fs) (hf : fs[f]? = some (off, ft)) (htj : tiOf c.P ft = some tj) (hv : fieldV tj cs off = some v)
    (h : RunC c (i + 1) l ⟨(d, v) :: tm, mem, nx⟩ Q) : RunC c i (⟨some d, .field t x f, ty, ps, af, g⟩ :: l) ⟨tm, mem, nx⟩ Q :=
  fxC hw rfl (fun _ => by
    simp only [opFx, fxField, tkAt, hti, Option.map_some, hk, hf, htj, hx]
    unfold fieldV at hv
    split at hv
    · rename_i ha; rw [if_pos ha]
      split at hv
      · rename_i hb; rw [if_pos hb]; cases hv; rfl
      · cases hv
    · rename_i ha; rw [if_neg ha, hv]; rfl) h

theorem actM {e : Eff} {o : Oper} {t : List Nat} {w : Bool} {d' : Option Tmp} (ho : o.dst = d') (ha : lget mem (c.base + 4 * i) = none → Act1 c.P c.N c.p c.ops (c.base + 4 * i) o (LS.mk tm mem nx).st e t w) (hc : lchk c.base c.masks c.kl i t = true) (hw : w = true → wrOp o.op = true ∨ (c.masks.isNone || c.kl.contains i) = true)
    (hu : ∀ x ∈ e.ups, x.1 < c.base + 4 * i + 4 ∨ (lget mem x.1).isSome = true)
    (h : RunC c (i + 1) l ((LS.mk tm mem nx).with d' e.val (pushes mem e.ups)) Q) : RunC c i (o :: l) ⟨tm, mem, nx⟩ Q := by
  subst ho
  exact RunC.act ha (fun ho => chkL_of ho hc hw) hu h
theorem loadC {t : TypeId} {a : Operand} {v : V} (hw : Wt c ⟨tm, mem, nx⟩ ⟨some d, .load t a, ty, ps, af, g⟩) (hfx : fxLoad c.P t ((LS.mk tm mem nx).ev a) (lget mem) = some ⟨v, none⟩) (hc : lchk c.base c.masks c.kl i (refs1 ((LS.mk tm mem nx).ev a)) = true)
    (h : RunC c (i + 1) l ⟨(d, v) :: tm, mem, nx⟩ Q) : RunC c i (⟨some d, .load t a, ty, ps, af, g⟩ :: l) ⟨tm, mem, nx⟩ Q :=
  actM (e := ⟨v, []⟩) (t := refs1 ((LS.mk tm mem nx).ev a)) (w := false) rfl (fun hid => by
    have := Act1.op (P := c.P) (N := c.N) (p := c.p) (ops := c.ops) (id := c.base + 4 * i) (o := ⟨some d, .load t a, ty, ps, af, g⟩) (s := (LS.mk tm mem nx).st) (fx := ⟨v, none⟩) hw (by rw [LS.st_ev]; exact hfx) hid
    rw [LS.st_ev] at this
    exact this) hc (fun e => by cases e) (fun x hx => by cases hx) h
theorem ldB {t : TypeId} {a : Operand} {v : V} {b ver o : Nat} {cs : List V} {ti : TI} (hw : Wt c ⟨tm, mem, nx⟩ ⟨some d, .load t a, ty, ps, af, g⟩) (hx : (LS.mk tm mem nx).ev a = .ptr b ver o) (hm : lget mem b = some (.box cs)) (hv : (ver == 0) = true) (hti : tiOf c.P t = some ti)
    (hl : loadV ti (cs.drop o) = some v) (hc : lchk c.base c.masks c.kl i [b] = true) (h : RunC c (i + 1) l ⟨(d, v) :: tm, mem, nx⟩ Q) : RunC c i (⟨some d, .load t a, ty, ps, af, g⟩ :: l) ⟨tm, mem, nx⟩ Q :=
  loadC hw (by rw [hx]; simp only [fxLoad, hti, hm, Blk.hasVer, hv, if_true, Blk.cells, hl]; rfl) (by rw [hx]; exact hc) h
theorem ldR {t : TypeId} {a : Operand} {v : V} {cs : List V} {ti : TI} (hw : Wt c ⟨tm, mem, nx⟩ ⟨some d, .load t a, ty, ps, af, g⟩) (hx : (LS.mk tm mem nx).ev a = .rp cs) (hti : tiOf c.P t = some ti)
    (hl : loadV ti cs = some v) (h : RunC c (i + 1) l ⟨(d, v) :: tm, mem, nx⟩ Q) : RunC c i (⟨some d, .load t a, ty, ps, af, g⟩ :: l) ⟨tm, mem, nx⟩ Q :=
  loadC hw (by rw [hx]; simp only [fxLoad, hti, hl]; rfl) (by rw [hx]; unfold lchk refs1; cases c.masks <;> rfl) h
theorem take_drop_app {α : Type} {a b : List α} {off n : Nat} (h : off + n ≤ a.length) : ((a ++ b).drop off).take n = (a.drop off).take n := by
  rw [List.drop_append_of_le_length (by omega), List.take_append_of_le_length (by simp; omega)]
theorem elem_split {α : Type} [Cl α] (nw : Bool) (xs : List α) (m : Nat) (hm : m < xs.length) : (xs.flatMap (Cl.c nw)).drop (m * Cl.e α) = Cl.c nw (xs.getD m Cl.d) ++ (xs.drop (m + 1)).flatMap (Cl.c nw) := by
  rw [flat_drop, List.drop_eq_getElem_cons hm, List.flatMap_cons, List.getD_eq_getElem?_getD, List.getElem?_eq_getElem hm]; rfl
theorem loadV_app {ti : TI} {a b : List V} {v : V} {off : Nat} (hs : off + ti.size ≤ a.length) (h1 : 0 < ti.size) (hl : loadV ti (a.drop off) = some v) : loadV ti ((a ++ b).drop off) = some v := by
  unfold loadV at hl ⊢
  split at hl
  · rename_i ha
    rw [if_pos ha]
    rw [if_pos (by simp; omega), take_drop_app hs]
    rw [if_pos (by simp; omega)] at hl
    exact hl
  · rename_i ha
    rw [if_neg ha, List.drop_append_of_le_length (by omega)]
    cases hd : a.drop off with
    | nil => have : (a.drop off).length = 0 := by rw [hd]; rfl
             simp at this; omega
    | cons x xs => rw [hd] at hl; simpa using hl
theorem ldE {α : Type} [Cl α] {t : TypeId} {a : Operand} {v : V} {b ver m off te : Nat} {nw : Bool} {xs : List α} {ti : TI} (hw : Wt c ⟨tm, mem, nx⟩ ⟨some d, .load t a, ty, ps, af, g⟩) (hx : (LS.mk tm mem nx).ev a = .ptr b ver (m * Cl.e α + off)) (hm : lget mem b = some (arrB te ver nw xs)) (hlt : m < xs.length) (hti : tiOf c.P t = some ti)
    (hl : loadV ti ((Cl.c nw (xs.getD m Cl.d)).drop off) = some v) (h1 : Nat.blt 0 ti.size = true) (hs : Nat.ble (off + ti.size) (Cl.e α) = true) (hc : lchk c.base c.masks c.kl i [b] = true) (h : RunC c (i + 1) l ⟨(d, v) :: tm, mem, nx⟩ Q) : RunC c i (⟨some d, .load t a, ty, ps, af, g⟩ :: l) ⟨tm, mem, nx⟩ Q :=
  loadC hw (by
    rw [hx]
    have hs' := Nat.le_of_ble_eq_true hs
    have h1' : 0 < ti.size := by simp [Nat.blt] at h1; omega
    have : loadV ti ((xs.flatMap (Cl.c nw)).drop (m * Cl.e α + off)) = some v := by
      rw [← List.drop_drop, elem_split nw xs m hlt]
      exact loadV_app (by rw [Cl.len]; exact hs') h1' hl
    simp only [fxLoad, hti, hm, arrB, Blk.hasVer, beq_self_eq_true, if_true, Blk.cells, this]; rfl) (by rw [hx]; exact hc) h

theorem storeC {t : TypeId} {a x : Operand} {b : Nat} {k : Blk} (hw : Wt c ⟨tm, mem, nx⟩ ⟨none, .store t a x, ty, ps, af, g⟩) (hfx : fxStore c.P t ((LS.mk tm mem nx).ev a) ((LS.mk tm mem nx).ev x) (lget mem) = some ⟨.any, some (b, k)⟩) (hb : (lget mem b).isSome = true)
    (hc : lchk c.base c.masks c.kl i (refs1 ((LS.mk tm mem nx).ev a)) = true)
    (h : RunC c (i + 1) l ⟨tm, (b, k) :: mem, nx⟩ Q) : RunC c i (⟨none, .store t a x, ty, ps, af, g⟩ :: l) ⟨tm, mem, nx⟩ Q :=
  actM (e := ⟨.any, [(b, k)]⟩) (t := refs1 ((LS.mk tm mem nx).ev a)) (w := true) rfl (fun hid => by
    have := Act1.op (P := c.P) (N := c.N) (p := c.p) (ops := c.ops) (id := c.base + 4 * i) (o := ⟨none, .store t a x, ty, ps, af, g⟩) (s := (LS.mk tm mem nx).st) (fx := ⟨.any, some (b, k)⟩) hw (by rw [LS.st_ev]; exact hfx) hid
    rw [LS.st_ev] at this
    exact this) hc (fun e => .inl rfl) (fun x hx => by simp at hx; subst hx; exact .inr hb) h
theorem stB {t : TypeId} {a x : Operand} {b ver o : Nat} {cs ds cs' : List V} {ti : TI} (hw : Wt c ⟨tm, mem, nx⟩ ⟨none, .store t a x, ty, ps, af, g⟩) (hx : (LS.mk tm mem nx).ev a = .ptr b ver o) (hm : lget mem b = some (.box cs)) (hv : (ver == 0) = true) (hti : tiOf c.P t = some ti)
    (hy : ((LS.mk tm mem nx).ev x).cellsOf = some ds) (hd : (ds.length == ti.size) = true) (hf : Nat.ble (o + ds.length) cs.length = true) (hs : splice cs o ds = cs') (hc : lchk c.base c.masks c.kl i [b] = true)
    (h : RunC c (i + 1) l ⟨tm, (b, .box cs') :: mem, nx⟩ Q) : RunC c i (⟨none, .store t a x, ty, ps, af, g⟩ :: l) ⟨tm, mem, nx⟩ Q :=
  storeC hw (by
    rw [hx]
    have hf' := Nat.le_of_ble_eq_true hf
    have hd' : ds.length = ti.size := by simpa using hd
    simp only [fxStore, hti, hy, hm, Blk.hasVer, hv, Blk.cells]
    rw [if_pos ⟨trivial, hd', hf'⟩, hs]; rfl) (by rw [hm]; rfl) (by rw [hx]; exact hc) h
theorem splice_elem {α : Type} [Cl α] {nw : Bool} {xs : List α} {m off : Nat} {ds : List V} {y : α} (hm : m < xs.length) (hf : off + ds.length ≤ Cl.e α) (hs : splice (Cl.c nw (xs.getD m Cl.d)) off ds = Cl.c nw y) :
    splice (xs.flatMap (Cl.c nw)) (m * Cl.e α + off) ds = (xs.set m y).flatMap (Cl.c nw) := by
  have e1 : xs.set m y = xs.take m ++ y :: xs.drop (m + 1) := List.set_eq_take_append_cons_drop.trans (by rw [if_pos hm])
  rw [e1, List.flatMap_append, List.flatMap_cons, ← hs, ← flat_take]
  have hx : (xs.flatMap (Cl.c nw)) = (xs.flatMap (Cl.c nw)).take (m * Cl.e α) ++ (Cl.c nw (xs.getD m Cl.d) ++ (xs.drop (m + 1)).flatMap (Cl.c nw)) := by
    rw [← elem_split nw xs m hm, List.take_append_drop]
  have hl : ((xs.flatMap (Cl.c nw)).take (m * Cl.e α)).length = m * Cl.e α := by
    rw [List.length_take, flat_len']; exact Nat.min_eq_left (Nat.mul_le_mul_right _ (Nat.le_of_lt hm))
  have hc := Cl.len nw (xs.getD m Cl.d)
  generalize hA : (xs.flatMap (Cl.c nw)).take (m * Cl.e α) = A at *
  generalize hB : Cl.c nw (xs.getD m Cl.d) = B at *
  rw [hx]
  unfold splice
  rw [List.take_append, List.drop_append, hl]
  rw [List.take_of_length_le (by omega), Nat.add_sub_cancel_left]
  rw [List.drop_of_length_le (l := A) (by omega), List.nil_append, show m * Cl.e α + off + ds.length - m * Cl.e α = off + ds.length by omega]
  rw [List.take_append_of_le_length (by omega), List.drop_append_of_le_length (by omega)]
  simp [List.append_assoc]
theorem stE {α : Type} [Cl α] {t : TypeId} {a x : Operand} {b ver m off te : Nat} {nw : Bool} {xs : List α} {y : α} {ds : List V} {ti : TI} (hw : Wt c ⟨tm, mem, nx⟩ ⟨none, .store t a x, ty, ps, af, g⟩) (hx : (LS.mk tm mem nx).ev a = .ptr b ver (m * Cl.e α + off)) (hm : lget mem b = some (arrB te ver nw xs)) (hlt : m < xs.length) (hti : tiOf c.P t = some ti)
    (hy : ((LS.mk tm mem nx).ev x).cellsOf = some ds) (hd : (ds.length == ti.size) = true) (hf : Nat.ble (off + ds.length) (Cl.e α) = true) (hs : splice (Cl.c nw (xs.getD m Cl.d)) off ds = Cl.c nw y) (hc : lchk c.base c.masks c.kl i [b] = true)
    (h : RunC c (i + 1) l ⟨tm, (b, arrB te ver nw (xs.set m y)) :: mem, nx⟩ Q) : RunC c i (⟨none, .store t a x, ty, ps, af, g⟩ :: l) ⟨tm, mem, nx⟩ Q :=
  storeC hw (by
    rw [hx]
    have hf' := Nat.le_of_ble_eq_true hf
    have hd' : ds.length = ti.size := by simpa using hd
    have hfit : m * Cl.e α + off + ds.length ≤ (xs.flatMap (Cl.c nw)).length := by
      rw [flat_len']
      have := Nat.mul_le_mul_right (Cl.e α) (Nat.succ_le_of_lt hlt)
      rw [Nat.succ_mul] at this; omega
    simp only [fxStore, hti, hy, hm, arrB, Blk.hasVer, beq_self_eq_true, Blk.cells]
    rw [if_pos ⟨trivial, hd', hfit⟩, splice_elem hlt hf' hs]; rfl) (by rw [hm]; rfl) (by rw [hx]; exact hc) h

theorem newC {id : Nat} {v : V} {k : Blk} (hw : Wt c ⟨tm, mem, nx⟩ ⟨some d, op, ty, ps, af, g⟩) (hq : quietOp op = true) (hid : c.base + 4 * i = id) (hfx : opFx c.P op (LS.mk tm mem nx).ev (lget mem) id = some ⟨v, some (id, k)⟩)
    (h : RunC c (i + 1) l ⟨(d, v) :: tm, (id, k) :: mem, nx⟩ Q) : RunC c i (⟨some d, op, ty, ps, af, g⟩ :: l) ⟨tm, mem, nx⟩ Q :=
  RunC.act (e := ⟨v, [(id, k)]⟩) (t := []) (w := false) (fun hid' => by
    obtain ⟨q1, q2⟩ := quiet_spec hq (LS.mk tm mem nx).ev
    have := Act1.op (P := c.P) (N := c.N) (p := c.p) (ops := c.ops) (id := c.base + 4 * i) (o := ⟨some d, op, ty, ps, af, g⟩) (s := (LS.mk tm mem nx).st) (fx := ⟨v, some (id, k)⟩) hw (by rw [LS.st_ev, hid]; exact hfx) hid'
    rw [LS.st_ev] at this
    simp only [q1, q2] at this
    exact this) (fun ho => chk_nil ho rfl) (fun x hx => by simp at hx; subst hx; left; show id < _; omega) h
/-- A new variable. -/
theorem al {t : TypeId} {ti : TI} {cs : List V} (id : Nat) (hw : Wt c ⟨tm, mem, nx⟩ ⟨some d, .alloc t, ty, ps, af, g⟩) (hid : c.base + 4 * i = id) (hti : tiOf c.P t = some ti) (hz : ti.zero.all Value.flat1 = true) (hcs : ti.zero.map .sc = cs)
    (h : RunC c (i + 1) l ⟨(d, .ptr id 0 0) :: tm, (id, .box cs) :: mem, nx⟩ Q) : RunC c i (⟨some d, .alloc t, ty, ps, af, g⟩ :: l) ⟨tm, mem, nx⟩ Q :=
  newC hw rfl hid (by simp only [opFx, fxAlloc, hti, hz, if_true, hcs]) h
theorem bx {t : TypeId} {x : Operand} {cs : List V} (id : Nat) (hw : Wt c ⟨tm, mem, nx⟩ ⟨some d, .box t x, ty, ps, af, g⟩) (hid : c.base + 4 * i = id) (hx : ((LS.mk tm mem nx).ev x).cellsOf = some cs)
    (h : RunC c (i + 1) l ⟨(d, .ptr id 0 0) :: tm, (id, .box cs) :: mem, nx⟩ Q) : RunC c i (⟨some d, .box t x, ty, ps, af, g⟩ :: l) ⟨tm, mem, nx⟩ Q :=
  newC hw rfl hid (by simp only [opFx, fxBox, hx]) h
/-- A struct out of its parts. -/
def bTab (P : Program) (t : TypeId) : Option (List V × List (Nat × Nat)) :=
  match tiOf P t with
  | some ti => if ti.zero.all Value.flat1 then match ti.k with
    | .str fs => if fs.all (fun f => (tiOf P f.2).isSome) then some (ti.zero.map .sc, fs.map fun f => (f.1, ((tiOf P f.2).map TI.size).getD 0)) else none
    | _ => none
    else none
  | none => none
theorem fillV_congr {p q : Nat → Option (Nat × Nat)} (h : ∀ i, p i = q i) : ∀ (parts : List (Nat × V)) (cells : List V), fillV p cells parts = fillV q cells parts
  | [], cells => rfl
  | (i, v) :: r, cells => by
    unfold fillV; rw [h i]
    split
    · split
      · exact fillV_congr h r _
      · rfl
    · rfl
theorem bu {t : TypeId} {parts : Array (Nat × Operand)} {z cs : List V} {tab : List (Nat × Nat)} (hw : Wt c ⟨tm, mem, nx⟩ ⟨some d, .build t parts, ty, ps, af, g⟩) (ht : bTab c.P t = some (z, tab)) (hf : fillV (fun i => tab[i]?) z (parts.toList.map fun p => (p.1, (LS.mk tm mem nx).ev p.2)) = some cs)
    (h : RunC c (i + 1) l ⟨(d, .agg cs) :: tm, mem, nx⟩ Q) : RunC c i (⟨some d, .build t parts, ty, ps, af, g⟩ :: l) ⟨tm, mem, nx⟩ Q :=
  fxC hw rfl (fun _ => by
    unfold bTab at ht
    split at ht
    · rename_i ti hti
      split at ht
      · rename_i hz
        split at ht
        · rename_i fs hk
          split at ht
          · rename_i ha
            cases ht
            simp only [opFx, fxBuild, hti, hz, if_true, hk, ha]
            rw [fillV_congr (q := fun i => (fs.map fun f => (f.1, ((tiOf c.P f.2).map TI.size).getD 0))[i]?) (fun i => ?_), hf]
            · rfl
            · rw [List.getElem?_map]
              cases hfi : fs[i]? with
              | none => rfl
              | some f =>
                have := List.all_eq_true.1 ha f (List.mem_of_getElem? hfi)
                cases hj : tiOf c.P f.2 with
                | none => rw [hj] at this; cases this
                | some j => simp [hj]
          · cases ht
        · cases ht
      · cases ht
    · cases ht) h
/-- A slice of given things. -/
theorem bs {α : Type} [Cl α] {t te : TypeId} {len : Nat} {parts : Array (Nat × Operand)} {ti tj : TI} (id : Nat) (nw : Bool) (ys : List α) (hw : Wt c ⟨tm, mem, nx⟩ ⟨some d, .buildSlice t len parts, ty, ps, af, g⟩) (hid : c.base + 4 * i = id) (hti : tiOf c.P t = some ti) (hk : ti.k = .sli te) (htj : tiOf c.P te = some tj)
    (he : (tj.size == Cl.e α) = true) (hlen : (len == ys.length) = true) (hsz : Nat.ble (len * tj.size) 16777216 = true) (hz : (tj.zero.all Value.flat1 && tj.zero.length == tj.size) = true)
    (hf : fillV (fun i => some (i * tj.size, tj.size)) ((List.replicate len (tj.zero.map V.sc)).flatten) (parts.toList.map fun p => (p.1, (LS.mk tm mem nx).ev p.2)) = some (ys.flatMap (Cl.c nw)))
    (h : RunC c (i + 1) l ⟨(d, slV α id 0 0 ys.length) :: tm, (id, arrB te 0 nw ys) :: mem, nx⟩ Q) : RunC c i (⟨some d, .buildSlice t len parts, ty, ps, af, g⟩ :: l) ⟨tm, mem, nx⟩ Q :=
  newC hw rfl hid (by
    have he' : tj.size = Cl.e α := by simpa using he
    have hlen' : len = ys.length := by simpa using hlen
    have hsz' := Nat.le_of_ble_eq_true hsz
    simp only [Bool.and_eq_true, beq_iff_eq] at hz
    have hp := Cl.pos (α := α)
    simp only [opFx, fxBuildSlice, tkAt, hti, Option.map_some, hk, htj, hf]
    rw [if_pos ⟨by omega, hsz', hz.1, hz.2⟩]
    simp only [Option.map_some, slV, arrB, he', hlen']) h
/-- An element's address, in an own row. -/
theorem ixS {α : Type} [Cl α] {t te : TypeId} {x j : Operand} {b ver off len : Nat} {k : IntKind} {n : Int} {ti tj : TI} (hw : Wt c ⟨tm, mem, nx⟩ ⟨some d, .indexAddr t x j, ty, ps, af, g⟩) (hx : (LS.mk tm mem nx).ev x = slV α b ver off len) (hi : (LS.mk tm mem nx).ev j = .sc (.int k n))
    (hti : tiOf c.P t = some ti) (hk : ti.k = .sli te) (htj : tiOf c.P te = some tj) (he : (tj.size == Cl.e α) = true) (hn : 0 ≤ n ∧ n < len)
    (h : RunC c (i + 1) l ⟨(d, .ptr b ver ((off + n.toNat) * Cl.e α + 0)) :: tm, mem, nx⟩ Q) : RunC c i (⟨some d, .indexAddr t x j, ty, ps, af, g⟩ :: l) ⟨tm, mem, nx⟩ Q :=
  fxC hw rfl (fun _ => by
    have he' : tj.size = Cl.e α := by simpa using he
    simp only [opFx, fxIndexAddr, tkAt, hti, Option.map_some, hk, htj, hx, hi, slV]
    rw [if_pos ⟨he'.symm, hn.1, hn.2⟩]; rfl) h
/-- .. in a row that is read only. -/
theorem ixL {α : Type} [Cl α] {t te : TypeId} {x j : Operand} {nw : Bool} {xs : List α} {k : IntKind} {n : Int} {ti tj : TI} (hw : Wt c ⟨tm, mem, nx⟩ ⟨some d, .indexAddr t x j, ty, ps, af, g⟩) (hx : (LS.mk tm mem nx).ev x = rowV nw xs) (hi : (LS.mk tm mem nx).ev j = .sc (.int k n))
    (hti : tiOf c.P t = some ti) (hk : ti.k = .sli te) (htj : tiOf c.P te = some tj) (he : (tj.size == Cl.e α) = true) (hn : 0 ≤ n ∧ n < xs.length)
    (h : RunC c (i + 1) l ⟨(d, .rp (Cl.c nw (xs.getD n.toNat Cl.d))) :: tm, mem, nx⟩ Q) : RunC c i (⟨some d, .indexAddr t x j, ty, ps, af, g⟩ :: l) ⟨tm, mem, nx⟩ Q :=
  fxC hw rfl (fun _ => by
    have he' : tj.size = Cl.e α := by simpa using he
    simp only [opFx, fxIndexAddr, tkAt, hti, Option.map_some, hk, htj, hx, hi, rowV]
    rw [if_pos ⟨hn.1, hn.2, he'.symm⟩, flat_at nw xs n.toNat (by omega)]) h
theorem lenL {α : Type} [Cl α] {t te : TypeId} {x : Operand} {nw : Bool} {xs : List α} {ti : TI} (hw : Wt c ⟨tm, mem, nx⟩ ⟨some d, .call { callee := .builtin .len, args := #[x], argTypes := #[t] }, ty, ps, af, g⟩) (hx : (LS.mk tm mem nx).ev x = rowV nw xs) (hti : tiOf c.P t = some ti) (hk : ti.k = .sli te)
    (h : RunC c (i + 1) l ⟨(d, .sc (.int .i64 xs.length)) :: tm, mem, nx⟩ Q) : RunC c i (⟨some d, .call { callee := .builtin .len, args := #[x], argTypes := #[t] }, ty, ps, af, g⟩ :: l) ⟨tm, mem, nx⟩ Q :=
  fxC hw rfl (fun _ => by simp [opFx, evBuiltin, hx, rowV, lenV, tkAt, hti, hk]) h
theorem lenS {α : Type} [Cl α] {t te : TypeId} {x : Operand} {b ver off len : Nat} {ti : TI} (hw : Wt c ⟨tm, mem, nx⟩ ⟨some d, .call { callee := .builtin .len, args := #[x], argTypes := #[t] }, ty, ps, af, g⟩) (hx : (LS.mk tm mem nx).ev x = slV α b ver off len) (hti : tiOf c.P t = some ti) (hk : ti.k = .sli te)
    (h : RunC c (i + 1) l ⟨(d, .sc (.int .i64 len)) :: tm, mem, nx⟩ Q) : RunC c i (⟨some d, .call { callee := .builtin .len, args := #[x], argTypes := #[t] }, ty, ps, af, g⟩ :: l) ⟨tm, mem, nx⟩ Q :=
  fxC hw rfl (fun _ => by simp [opFx, evBuiltin, hx, slV, lenV, tkAt, hti, hk]) h
theorem lenN {t te : TypeId} {x : Operand} {ti : TI} (hw : Wt c ⟨tm, mem, nx⟩ ⟨some d, .call { callee := .builtin .len, args := #[x], argTypes := #[t] }, ty, ps, af, g⟩) (hx : (LS.mk tm mem nx).ev x = .sc (.slice none 0 0)) (hti : tiOf c.P t = some ti) (hk : ti.k = .sli te)
    (h : RunC c (i + 1) l ⟨(d, .sc (.int .i64 0)) :: tm, mem, nx⟩ Q) : RunC c i (⟨some d, .call { callee := .builtin .len, args := #[x], argTypes := #[t] }, ty, ps, af, g⟩ :: l) ⟨tm, mem, nx⟩ Q :=
  fxC hw rfl (fun _ => by simp [opFx, evBuiltin, hx, lenV, tkAt, hti, hk]) h
theorem bd_int {d : Nat} {k : IntKind} {n : Int} (h : 0 ≤ n) : bdV d (some (.sc (.int k n))) = some n.toNat := by unfold bdV; simp [h]
theorem slL {α : Type} [Cl α] {t te : TypeId} {x : Operand} {lo hi : Option Operand} {nw : Bool} {xs : List α} {ti tj : TI} (l' h' : Nat) (hw : Wt c ⟨tm, mem, nx⟩ ⟨some d, .slice t x lo hi none, ty, ps, af, g⟩) (hx : (LS.mk tm mem nx).ev x = rowV nw xs)
    (hti : tiOf c.P t = some ti) (hk : ti.k = .sli te) (htj : tiOf c.P te = some tj) (he : (tj.size == Cl.e α) = true) (hl : bdV 0 (lo.map (LS.mk tm mem nx).ev) = some l') (hh : bdV xs.length (hi.map (LS.mk tm mem nx).ev) = some h') (hb : l' ≤ h' ∧ h' ≤ xs.length)
    (h : RunC c (i + 1) l ⟨(d, rowV nw ((xs.drop l').take (h' - l'))) :: tm, mem, nx⟩ Q) : RunC c i (⟨some d, .slice t x lo hi none, ty, ps, af, g⟩ :: l) ⟨tm, mem, nx⟩ Q :=
  fxC hw rfl (fun _ => by
    have he' : tj.size = Cl.e α := by simpa using he
    simp only [opFx, fxSlice, tkAt, hti, Option.map_some, hk, htj, hx, rowV, hl, hh]
    rw [if_pos ⟨he'.symm, hb.1, hb.2⟩, flat_drop, flat_take, show ((xs.drop l').take (h' - l')).length = h' - l' by simp; omega]) h
/-- Things are put behind an own row. -/
theorem ap {α : Type} [Cl α] {t te : TypeId} {x y : Operand} {b ver : Nat} {nw : Bool} {xs ys : List α} {ti tj : TI} (hw : Wt c ⟨tm, mem, nx⟩ ⟨some d, .call { callee := .builtin .append, args := #[x, y], argTypes := #[t, t] }, ty, ps, af, g⟩) (hx : (LS.mk tm mem nx).ev x = slV α b ver 0 xs.length) (hm : lget mem b = some (arrB te ver nw xs))
    (hy : srcV (lget mem) (Cl.e α) ((LS.mk tm mem nx).ev y) = some (ys.length, ys.flatMap (Cl.c nw))) (hti : tiOf c.P t = some ti) (hk : ti.k = .sli te) (htj : tiOf c.P te = some tj) (he : (tj.size == Cl.e α && tj.zero.length == tj.size) = true)
    (hr : roomy (xs.length + ys.length) tj.bytes = true) (hc : lchk c.base c.masks c.kl i (b :: (refs1 ((LS.mk tm mem nx).ev y) ++ [])) = true)
    (h : RunC c (i + 1) l ⟨(d, slV α b (ver + 1) 0 (xs ++ ys).length) :: tm, (b, arrB te (ver + 1) nw (xs ++ ys)) :: mem, nx⟩ Q) : RunC c i (⟨some d, .call { callee := .builtin .append, args := #[x, y], argTypes := #[t, t] }, ty, ps, af, g⟩ :: l) ⟨tm, mem, nx⟩ Q :=
  actM (e := ⟨slV α b (ver + 1) 0 (xs ++ ys).length, [(b, arrB te (ver + 1) nw (xs ++ ys))]⟩) (t := b :: (refs1 ((LS.mk tm mem nx).ev y) ++ [])) (w := true) rfl (fun hid => by
    simp only [Bool.and_eq_true, beq_iff_eq] at he
    have hfx : opFx c.P (.call { callee := .builtin .append, args := #[x, y], argTypes := #[t, t] }) (LS.mk tm mem nx).ev (lget mem) (c.base + 4 * i) = some ⟨slV α b (ver + 1) 0 (xs ++ ys).length, some (b, arrB te (ver + 1) nw (xs ++ ys))⟩ := by
      have hp := Cl.pos (α := α)
      have hA : evAppend c.P t (slV α b ver 0 xs.length) ((LS.mk tm mem nx).ev y) (lget mem) (c.base + 4 * i) = some ⟨slV α b (ver + 1) 0 (xs ++ ys).length, some (b, arrB te (ver + 1) nw (xs ++ ys))⟩ := by
        simp only [evAppend, tkAt, hti, Option.map_some, hk, htj, he.1]
        rw [if_pos ⟨hp, by rw [he.2, he.1]⟩, hy]
        simp only [slV, hm, arrB]
        rw [if_pos ⟨trivial, trivial, trivial, trivial, flat_len' nw xs, hr⟩]
        simp
      rw [← hA, ← hx]
      simp [opFx, evBuiltin]
    have := Act1.op (P := c.P) (N := c.N) (p := c.p) (ops := c.ops) (id := c.base + 4 * i) (o := ⟨some d, .call { callee := .builtin .append, args := #[x, y], argTypes := #[t, t] }, ty, ps, af, g⟩) (s := (LS.mk tm mem nx).st) hw (by rw [LS.st_ev]; exact hfx) hid
    rw [LS.st_ev] at this
    have ht : opTouch (.call { callee := .builtin .append, args := #[x, y], argTypes := #[t, t] }) (LS.mk tm mem nx).ev = b :: (refs1 ((LS.mk tm mem nx).ev y) ++ []) := by
      show refs1 ((LS.mk tm mem nx).ev x) ++ (refs1 ((LS.mk tm mem nx).ev y) ++ []) = _
      rw [hx]; rfl
    simp only [ht] at this
    exact this) hc (fun e => .inl rfl) (fun x hx => by simp at hx; subst hx; right; show (lget mem b).isSome = true; rw [hm]; rfl) h
theorem srcR {α : Type} [Cl α] {m : Nat → Option Blk} {nw : Bool} {ys : List α} : srcV m (Cl.e α) (rowV nw ys) = some (ys.length, ys.flatMap (Cl.c nw)) := by simp [srcV, rowV]
theorem srcN {α : Type} [Cl α] {m : Nat → Option Blk} {nw : Bool} : srcV m (Cl.e α) (.sc (.slice none 0 0)) = some (([] : List α).length, ([] : List α).flatMap (Cl.c nw)) := rfl
theorem srcS {α : Type} [Cl α] {mem : List (Nat × Blk)} {b ver te : Nat} {nw : Bool} {ys : List α} (hm : lget mem b = some (arrB te ver nw ys)) : srcV (lget mem) (Cl.e α) (slV α b ver 0 ys.length) = some (ys.length, ys.flatMap (Cl.c nw)) := by
  simp only [srcV, slV, hm, arrB]
  rw [if_pos ⟨trivial, trivial, trivial, by rw [flat_len']; omega⟩]
  rw [Nat.zero_mul, List.drop_zero, List.take_of_length_le (by rw [flat_len']; exact Nat.le_refl _)]
/-- make([]T, n). -/
theorem mk {α : Type} [Cl α] {t te : TypeId} {x y : Operand} {n m : Int} {k k' : IntKind} {ti tj : TI} (id : Nat) (nw : Bool) (z : α) (hw : Wt c ⟨tm, mem, nx⟩ ⟨some d, .makeSlice t x y, ty, ps, af, g⟩) (hid : c.base + 4 * i = id) (hx : (LS.mk tm mem nx).ev x = .sc (.int k n)) (hy : (LS.mk tm mem nx).ev y = .sc (.int k' m))
    (hti : tiOf c.P t = some ti) (hk : ti.k = .sli te) (htj : tiOf c.P te = some tj) (he : (tj.size == Cl.e α && tj.zero.all Value.flat1 && tj.zero.length == tj.size) = true) (hz : tj.zero.map V.sc = Cl.c nw z) (hn : 0 ≤ n ∧ n ≤ m ∧ roomy m.toNat tj.bytes = true)
    (h : RunC c (i + 1) l ⟨(d, slV α id 0 0 (List.replicate n.toNat z).length) :: tm, (id, arrB te 0 nw (List.replicate n.toNat z)) :: mem, nx⟩ Q) : RunC c i (⟨some d, .makeSlice t x y, ty, ps, af, g⟩ :: l) ⟨tm, mem, nx⟩ Q :=
  newC hw rfl hid (by
    simp only [Bool.and_eq_true, beq_iff_eq] at he
    have hp := Cl.pos (α := α)
    simp only [opFx, fxMakeSlice, tkAt, hti, Option.map_some, hk, htj, hx, hy, hz]
    rw [if_pos ⟨by omega, hn.1, hn.2.1, hn.2.2, he.1.2, he.2⟩]
    simp only [slV, arrB, he.1.1, List.length_replicate]
    congr 3
    rw [List.flatMap_replicate]) h
/-- Conversions of whole numbers. -/
theorem cn {t t' : TypeId} {x : Operand} {k k0 k' : IntKind} {n m : Int} {ti tj : TI} (hw : Wt c ⟨tm, mem, nx⟩ ⟨some d, .convert t t' x, ty, ps, af, g⟩) (hx : (LS.mk tm mem nx).ev x = .sc (.int k0 n)) (hti : tiOf c.P t = some ti) (hk : ti.k = .int k') (htj : tiOf c.P t' = some tj) (hk' : tj.k = .int k) (hm : k.wrap n = m)
    (h : RunC c (i + 1) l ⟨(d, .sc (.int k m)) :: tm, mem, nx⟩ Q) : RunC c i (⟨some d, .convert t t' x, ty, ps, af, g⟩ :: l) ⟨tm, mem, nx⟩ Q :=
  fxC hw rfl (fun _ => by simp only [opFx, fxConvert, tkAt, hti, htj, Option.map_some, hk, hk', hx, hm]) h
/-- Quotients and rests. -/
theorem qu {t t' : TypeId} {x y : Operand} {k : IntKind} {n m r : Int} (hw : Wt c ⟨tm, mem, nx⟩ ⟨some d, .binOp .quo t x y t', ty, ps, af, g⟩) (hx : (LS.mk tm mem nx).ev x = .sc (.int k n)) (hy : (LS.mk tm mem nx).ev y = .sc (.int k m)) (hm : m ≠ 0) (hr : k.wrap (n.tdiv m) = r)
    (h : RunC c (i + 1) l ⟨(d, .sc (.int k r)) :: tm, mem, nx⟩ Q) : RunC c i (⟨some d, .binOp .quo t x y t', ty, ps, af, g⟩ :: l) ⟨tm, mem, nx⟩ Q :=
  fxC hw rfl (fun _ => by simp [opFx, evBin, BinOp.isShift, evInt, hx, hy, hm, hr]) h
theorem rm {t t' : TypeId} {x y : Operand} {k : IntKind} {n m r : Int} (hw : Wt c ⟨tm, mem, nx⟩ ⟨some d, .binOp .rem t x y t', ty, ps, af, g⟩) (hx : (LS.mk tm mem nx).ev x = .sc (.int k n)) (hy : (LS.mk tm mem nx).ev y = .sc (.int k m)) (hm : m ≠ 0) (hr : n.tmod m = r)
    (h : RunC c (i + 1) l ⟨(d, .sc (.int k r)) :: tm, mem, nx⟩ Q) : RunC c i (⟨some d, .binOp .rem t x y t', ty, ps, af, g⟩ :: l) ⟨tm, mem, nx⟩ Q :=
  fxC hw rfl (fun _ => by simp [opFx, evBin, BinOp.isShift, evInt, hx, hy, hm, hr]) h
/-- Equality of bools. -/
theorem eb {t t' : TypeId} {x y : Operand} {n m r : Bool} {ti : TI} (hw : Wt c ⟨tm, mem, nx⟩ ⟨some d, .binOp .eql t x y t', ty, ps, af, g⟩) (hx : (LS.mk tm mem nx).ev x = .sc (.bool n)) (hy : (LS.mk tm mem nx).ev y = .sc (.bool m)) (hti : tiOf c.P t = some ti) (hk : ti.k = .bool) (hr : (n == m) = r)
    (h : RunC c (i + 1) l ⟨(d, .sc (.bool r)) :: tm, mem, nx⟩ Q) : RunC c i (⟨some d, .binOp .eql t x y t', ty, ps, af, g⟩ :: l) ⟨tm, mem, nx⟩ Q :=
  fxC hw rfl (fun _ => by simp [opFx, evBin, tkAt, hti, hk, hx, hy, hr]) h
theorem nb {t t' : TypeId} {x y : Operand} {n m r : Bool} {ti : TI} (hw : Wt c ⟨tm, mem, nx⟩ ⟨some d, .binOp .neq t x y t', ty, ps, af, g⟩) (hx : (LS.mk tm mem nx).ev x = .sc (.bool n)) (hy : (LS.mk tm mem nx).ev y = .sc (.bool m)) (hti : tiOf c.P t = some ti) (hk : ti.k = .bool) (hr : (n != m) = r)
    (h : RunC c (i + 1) l ⟨(d, .sc (.bool r)) :: tm, mem, nx⟩ Q) : RunC c i (⟨some d, .binOp .neq t x y t', ty, ps, af, g⟩ :: l) ⟨tm, mem, nx⟩ Q :=
  fxC hw rfl (fun _ => by simp [opFx, evBin, tkAt, hti, hk, hx, hy, hr]) h
end lemmas
end
end Go.Abs
