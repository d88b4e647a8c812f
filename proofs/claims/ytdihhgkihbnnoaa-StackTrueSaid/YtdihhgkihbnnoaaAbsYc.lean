/- Laws about heaps and calls that the walks use. Conditions: as each theorem states them. -/
import Derived.Test.YtdihhgkihbnnoaaAbsYb
namespace Go.Abs
set_option linter.unusedVariables false
set_option linter.unusedSimpArgs false
theorem fnP_of {P : Program} {f : FuncId} {args : List V} {res : V} (h : FnD P f [] args res []) : FnP P f args res := by
  have e : (fun j => ([] : List Blk)[j]?) = none' := by funext j; simp [none']
  unfold FnD at h
  unfold FnP
  rw [e] at h
  exact h
/-! ### ends of pieces of code -/
section
variable {P : Program} {r : Option Nat} {C : Cx} {c : RX} {i : Nat} {s : LS} {t : St} {Q : Exit → St → Prop} {K : St → Prop} {id id' : Nat} {x y z : Code}
theorem RunC.fin (h : K s.st) : RunC c i [] s fun s' => thn K Q .normal s'.st := RunC.nil h
theorem RunC.blk (h : RunC c i [] s fun s' => Q .normal s'.st) : RunC c i [] s fun s' => inBlk id Q .normal s'.st := h
theorem exT (h : Q (.exit id) t) : thn K Q (.exit id) t := h
theorem exB (hn : (id == id') = false) (h : Q (.exit id) t) : inBlk id' Q (.exit id) t := by
  have : ¬ id = id' := by simpa using hn
  simp only [inBlk]; rw [if_neg this]; exact h
theorem exH (h : Q .normal t) : inBlk id Q (.exit id) t := by simp only [inBlk, if_true]; exact h
theorem skT (h : K t) : thn K Q .normal t := h
theorem skB (h : Q .normal t) : inBlk id Q .normal t := h
theorem rtT (h : Q .ret t) : thn K Q .ret t := h
theorem rtB (h : Q .ret t) : inBlk id Q .ret t := h
/-- A loop with one end, and what comes behind it. -/
theorem AWP.loopJ {A X R' : Type} (st : A → LS) (stA : X → LS) (body : A → Option (Step A X)) {k : X → Option R'} {R : R'} {s0 : A} (hR : (loopF body s0).bind k = some R) (hw : Weak C t (st s0).st)
    (round : ∀ s1 out, body s1 = some out → AWP P r C x (st s1).st (thn (fun s' => ∃ s2, out = .next s2 ∧ Weak C s' (st s2).st) (inBlk id (thn (fun s' => ∃ z, out = .done z ∧ Weak C s' (stA z).st) Q))))
    (after : ∀ z, k z = some R → Q .normal (stA z).st) : AWP P r C (.block id (.loop x)) t Q := by
  refine AWP.monoW (AWP.block (AWP.loopX st body hR hw fun s1 out hb hd => (round s1 out hb).mono fun e s' he => ?_))
  cases e with
  | normal => exact he
  | exit id' =>
    simp only [thn, inBlk] at he ⊢
    split
    · rename_i h; rw [if_pos h] at he
      obtain ⟨z, h1, h2⟩ := he
      exact ⟨_, h2, after z (hd z h1)⟩
    · rename_i h; rw [if_neg h] at he; exact ⟨_, Weak.refl _ _, he⟩
  | _ => exact ⟨_, Weak.refl _ _, he⟩
/-- .. that can be left in other ways, too. -/
theorem AWP.loopK' {A X R' : Type} (st : A → LS) (stA : X → LS) (body : A → Option (Step A (Step X R'))) {k : X → Option R'} {R : R'} {s0 : A} (hR : seqF (loopF body s0) k = some R) (hw : Weak C t (st s0).st)
    (round : ∀ s1 out, body s1 = some out → (∀ o, out = .done (.done o) → o = R) → AWP P r C x (st s1).st (thn (fun s' => ∃ s2, out = .next s2 ∧ Weak C s' (st s2).st) (inBlk id (thn (fun s' => ∃ z, out = .done (.next z) ∧ Weak C s' (stA z).st) Q))))
    (after : ∀ z, k z = some R → Q .normal (stA z).st) : AWP P r C (.block id (.loop x)) t Q := by
  refine AWP.monoW (AWP.block (AWP.loopS st body hR hw fun s1 out hb hd hd2 => (round s1 out hb hd2).mono fun e s' he => ?_))
  cases e with
  | normal => exact he
  | exit id' =>
    simp only [thn, inBlk] at he ⊢
    split
    · rename_i h; rw [if_pos h] at he
      obtain ⟨z, h1, h2⟩ := he
      exact ⟨_, h2, after z (hd z h1)⟩
    · rename_i h; rw [if_neg h] at he; exact ⟨_, Weak.refl _ _, he⟩
  | _ => exact ⟨_, Weak.refl _ _, he⟩
theorem joinEnd {X : Type} {st : X → LS} {a z : X} (h : some a = some z) (hw : Weak C t (st a).st) : Weak C t (st z).st := by cases h; exact hw
theorem stepEnd {A O : Type} {st : A → LS} {a : A} {out : Step A O} (h : some (Step.next a) = some out) (hw : Weak C t (st a).st) : ∃ s2, out = .next s2 ∧ Weak C t (st s2).st := ⟨a, (Option.some.inj h).symm, hw⟩
theorem doneEnd {A O : Type} {st : O → LS} {a : O} {out : Step A O} (h : some (Step.done a) = some out) (hw : Weak C t (st a).st) : ∃ s2, out = .done s2 ∧ Weak C t (st s2).st := ⟨a, (Option.some.inj h).symm, hw⟩
theorem doneEnd' {A O X : Type} {st : O → LS} {a : O} {out : Step A (Step O X)} (h : some (Step.done (Step.next a)) = some out) (hw : Weak C t (st a).st) : ∃ s2, out = .done (.next s2) ∧ Weak C t (st s2).st := ⟨a, (Option.some.inj h).symm, hw⟩
theorem escL {A X O : Type} {a : O} {out : Step A (Step X O)} {R : O} (h : some (Step.done (Step.done a)) = some out) (hE : ∀ o, out = .done (.done o) → o = R) : some a = some R := congrArg some (hE a (Option.some.inj h).symm)
theorem escJ {X O : Type} {a : O} {out : Step X O} {R : O} (h : some (Step.done a) = some out) (hE : ∀ o, out = .done o → o = R) : some a = some R := congrArg some (hE a (Option.some.inj h).symm)
theorem brR {α : Type} {p : Prop} {b : Bool} {A B : Option α} {R : α} (hR : (if b = true then A else B) = some R) (ht : b = true → A = some R → p) (hf : b = false → B = some R → p) : p := by
  cases b
  · exact hf rfl hR
  · exact ht rfl hR
end
/-! a choice between two values, decided -/
section
variable {c : RX} {i : Nat} {l : List Oper} {tm : List (Nat × V)} {mem : List (Nat × Blk)} {nx : Nat} {Q : LS → Prop} {d : Tmp} {ty : TypeId} {ps : String} {af : Array Edge} {g : Option (Nat × Bool)}
theorem pkT {x a b : Operand} {t : Bool} {v : V} (hw : Wt c ⟨tm, mem, nx⟩ ⟨some d, .pick x a b, ty, ps, af, g⟩) (hx : (LS.mk tm mem nx).ev x = .sc (.bool t)) (ht : t = true) (hv : (LS.mk tm mem nx).ev a = v)
    (h : RunC c (i + 1) l ⟨(d, v) :: tm, mem, nx⟩ Q) : RunC c i (⟨some d, .pick x a b, ty, ps, af, g⟩ :: l) ⟨tm, mem, nx⟩ Q :=
  fxC hw rfl (fun _ => by simp only [opFx, fxPick, hx, ht, if_true, hv]) h
theorem pkF {x a b : Operand} {t : Bool} {v : V} (hw : Wt c ⟨tm, mem, nx⟩ ⟨some d, .pick x a b, ty, ps, af, g⟩) (hx : (LS.mk tm mem nx).ev x = .sc (.bool t)) (ht : t = false) (hv : (LS.mk tm mem nx).ev b = v)
    (h : RunC c (i + 1) l ⟨(d, v) :: tm, mem, nx⟩ Q) : RunC c i (⟨some d, .pick x a b, ty, ps, af, g⟩ :: l) ⟨tm, mem, nx⟩ Q :=
  fxC hw rfl (fun _ => by simp only [opFx, fxPick, hx, ht, hv]; rfl) h
end
section
variable {α : Type} [Cl α] {H : Hw} {s : LS}
theorem tn : TrTm H s [] := trivial
theorem tc {t : Nat} {v : V} {l : List (Nat × V)} (h : Tr H (s.slot t) v) (k : TrTm H s l) : TrTm H s ((t, v) :: l) := ⟨h, k⟩
theorem mn {mem : List (Nat × Blk)} {j : Nat} : TrMem H mem j [] := trivial
theorem mc {mem : List (Nat × Blk)} {j : Nat} {k k' : Blk} {l : List Blk} (e : lget mem (H.ids j) = some k) (h : BTr H j k k') (m : TrMem H mem (j + 1) l) : TrMem H mem j (k' :: l) := ⟨⟨k, e, h⟩, m⟩
theorem pn {H : How} {mem : List (Nat × Blk)} : PassB H mem [] [] := trivial
theorem pc {H : How} {mem : List (Nat × Blk)} {b : Nat} {bs : List Nat} {k k' : Blk} {m : List Blk} (e : lget mem b = some k) (h : BLend H k k') (q : PassB H mem bs m) : PassB H mem (b :: bs) (k' :: m) := ⟨⟨k, e, h⟩, q⟩
theorem trR0 {nw : Bool} {xs : List α} : Tr H (rowV nw xs) (rowV false xs) := trR fun h => nomatch h
theorem trR1 {nw : Bool} {xs : List α} : Tr H (rowV nw xs) (rowV nw xs) := trR id
theorem trS' {j b ver ver' off ln ln' te : Nat} {nw : Bool} {xs : List α} (h1 : Nat.blt j H.q = true) (h2 : H.ids j = b) (h3 : H.nv j = ver') (hm : H.mem b = some (arrB te ver nw xs)) (hl : ln = ln') : Tr H (slV α b ver off ln) (slV α j ver' off ln') := by
  subst hl; exact trS (Nat.le_of_ble_eq_true h1) h2 h3 hm
theorem trP' {j b o : Nat} {cs : List V} (h1 : Nat.blt j H.q = true) (h2 : H.ids j = b) (h3 : H.nv j = 0) (hm : H.mem b = some (.box cs)) : Tr H (.ptr b 0 o) (.ptr j 0 o) := .ptrBox (Nat.le_of_ble_eq_true h1) h2 h3 hm
theorem trF' {b ver te ln : Nat} {nw new : Bool} {xs : List α} (hL : H.L b = true) (hm : H.mem b = some (arrB te ver nw xs)) (h : new = true → nw = true) (hl : ln = xs.length) : Tr H (slV α b ver 0 ln) (rowV new xs) := by
  subst hl; exact trF hL hm h rfl
theorem btrA' {j te ver ver' : Nat} {nw : Bool} {xs : List α} (h : H.nv j = ver') : BTr H j (arrB te ver nw xs) (arrB te ver' nw xs) := btrA h id
theorem ldP {H : How} {j b ver o : Nat} (h1 : Nat.blt j H.p = true) (h2 : H.ids j = b) : Lend H (.ptr b ver o) (.ptr j ver o) := .ptrPass (Nat.le_of_ble_eq_true h1) h2
theorem ldM {H : How} {j b ver off ln : Nat} (h1 : Nat.blt j H.p = true) (h2 : H.ids j = b) : Lend H (slV α b ver off ln) (slV α j ver off ln) := .slPass (Nat.le_of_ble_eq_true h1) h2
theorem ldS' {H : How} {b ver te ln : Nat} {nw : Bool} {xs : List α} (hL : H.L b = true) (hm : H.mem b = some (arrB te ver nw xs)) (ht : H.tn = H.tg nw) (hl : ln = xs.length) : Lend H (slV α b ver 0 ln) (rowV (H.tg nw) xs) := by
  subst hl; exact ldS hL hm ht
theorem ldX {H : How} {b o : Nat} {cs cs' : List V} (hL : H.L b = true) (hm : H.mem b = some (.box cs)) (h : Lends H (cs.drop o) cs') (hl : cs'.all V.leaf = true) : Lend H (.ptr b 0 o) (.rp cs') := .ptrLend hL hm rfl h hl
theorem ixlt {n : Int} {m : Nat} (h : 0 ≤ n ∧ n < m) : n.toNat < m := by omega
end
section
variable {c : RX} {i : Nat} {l : List Oper} {tm : List (Nat × V)} {mem : List (Nat × Blk)} {nx : Nat} {Q : LS → Prop} {d : Tmp} {op : Op} {ty : TypeId} {ps : String} {af : Array Edge} {g : Option (Nat × Bool)}
theorem ixS0 {α : Type} [Cl α] {t te : TypeId} {x j : Operand} {b ver len : Nat} {k : IntKind} {n : Int} {ti tj : TI} (hw : Wt c ⟨tm, mem, nx⟩ ⟨some d, .indexAddr t x j, ty, ps, af, g⟩) (hx : (LS.mk tm mem nx).ev x = slV α b ver 0 len) (hi : (LS.mk tm mem nx).ev j = .sc (.int k n))
    (hti : tiOf c.P t = some ti) (hk : ti.k = .sli te) (htj : tiOf c.P te = some tj) (he : (tj.size == Cl.e α) = true) (hn : 0 ≤ n ∧ n < len)
    (h : RunC c (i + 1) l ⟨(d, .ptr b ver (n.toNat * Cl.e α + 0)) :: tm, mem, nx⟩ Q) : RunC c i (⟨some d, .indexAddr t x j, ty, ps, af, g⟩ :: l) ⟨tm, mem, nx⟩ Q :=
  ixS hw hx hi hti hk htj he hn (by rw [Nat.zero_add]; exact h)
theorem ap' {α : Type} [Cl α] {t te : TypeId} {x y : Operand} {b ver ln : Nat} {nw : Bool} {xs ys : List α} {ti tj : TI} (hw : Wt c ⟨tm, mem, nx⟩ ⟨some d, .call { callee := .builtin .append, args := #[x, y], argTypes := #[t, t] }, ty, ps, af, g⟩) (hx : (LS.mk tm mem nx).ev x = slV α b ver 0 ln) (hm : lget mem b = some (arrB te ver nw xs)) (hl : ln = xs.length)
    (hy : srcV (lget mem) (Cl.e α) ((LS.mk tm mem nx).ev y) = some (ys.length, ys.flatMap (Cl.c nw))) (hti : tiOf c.P t = some ti) (hk : ti.k = .sli te) (htj : tiOf c.P te = some tj) (he : (tj.size == Cl.e α && tj.zero.length == tj.size) = true)
    (hr : roomy (xs.length + ys.length) tj.bytes = true) (hc : lchk c.base c.masks c.kl i (b :: (refs1 ((LS.mk tm mem nx).ev y) ++ [])) = true)
    (h : RunC c (i + 1) l ⟨(d, slV α b (ver + 1) 0 (xs ++ ys).length) :: tm, (b, arrB te (ver + 1) nw (xs ++ ys)) :: mem, nx⟩ Q) : RunC c i (⟨some d, .call { callee := .builtin .append, args := #[x, y], argTypes := #[t, t] }, ty, ps, af, g⟩ :: l) ⟨tm, mem, nx⟩ Q := by
  subst hl; exact ap hw hx hm hy hti hk htj he hr hc h
theorem srcS' {α : Type} [Cl α] {mem : List (Nat × Blk)} {b ver te ln : Nat} {nw : Bool} {ys : List α} {v : V} (hv : v = slV α b ver 0 ln) (hm : lget mem b = some (arrB te ver nw ys)) (hl : ln = ys.length) : srcV (lget mem) (Cl.e α) v = some (ys.length, ys.flatMap (Cl.c nw)) := by
  subst hv hl; exact srcS hm
theorem srcR' {α : Type} [Cl α] {m : Nat → Option Blk} {nw : Bool} {ys : List α} {v : V} (hv : v = rowV nw ys) : srcV m (Cl.e α) v = some (ys.length, ys.flatMap (Cl.c nw)) := by subst hv; exact srcR
theorem srcN' {α : Type} [Cl α] {m : Nat → Option Blk} {nw : Bool} {v : V} (hv : v = .sc (.slice none 0 0)) : srcV m (Cl.e α) v = some (([] : List α).length, ([] : List α).flatMap (Cl.c nw)) := by subst hv; exact srcN
end
section
variable {P : Program} {r : Option Nat} {C : Cx} {tm : List (Nat × V)} {mem : List (Nat × Blk)} {nx : Nat} {Q : Exit → St → Prop} {x : Code}
theorem st_cons {t : Nat} {v : V} : (LS.mk ((t, v) :: tm) mem nx).slot = upd (LS.mk tm mem nx).slot t v := by
  funext j; unfold LS.slot upd; simp only [lget]
  by_cases h : t = j
  · subst h; simp
  · simp [h, Ne.symm h]
theorem lget_cons {b : Nat} {k : Blk} : lget ((b, k) :: mem) = upd (lget mem) b (some k) := by
  funext j; unfold upd; simp only [lget]
  by_cases h : b = j
  · subst h; simp
  · simp [h, Ne.symm h]
/-- A nil slice is an own empty row. -/
theorem AWP.nilT (α : Type) [Cl α] (t te : Nat) (ht : (LS.mk tm mem nx).slot t = .sc (.slice none 0 0)) (h : AWP P r C x (LS.mk ((t, slV α nx 0 0 0) :: tm) ((nx, arrB te 0 true ([] : List α)) :: mem) (nx + 1)).st Q) : AWP P r C x (LS.mk tm mem nx).st Q := by
  refine AWP.weaken (Weak.nilRow (C := C) (s := (LS.mk tm mem nx).st) t te (Cl.e α) Cl.pos ht) ?_
  have e : (LS.mk ((t, slV α nx 0 0 0) :: tm) ((nx, arrB te 0 true ([] : List α)) :: mem) (nx + 1)).st = { tm := upd (LS.mk tm mem nx).st.tm t (.sl (LS.mk tm mem nx).st.nx 0 (Cl.e α) 0 0), mem := upd (LS.mk tm mem nx).st.mem (LS.mk tm mem nx).st.nx (some (.arr te (Cl.e α) 0 [])), nx := (LS.mk tm mem nx).st.nx + 1 } := by
    unfold LS.st; rw [st_cons, lget_cons]; rfl
  rw [← e]; exact h
/-- .. in a variable's cells. -/
theorem AWP.nilB (α : Type) [Cl α] (b i te : Nat) {cs : List V} (hb : lget mem b = some (.box cs)) (hi : cs[i]? = some (.sc (.slice none 0 0))) {cs' : List V} (hc : cs.set i (slV α nx 0 0 0) = cs') (h : AWP P r C x (LS.mk tm ((b, .box cs') :: (nx, arrB te 0 true ([] : List α)) :: mem) (nx + 1)).st Q) : AWP P r C x (LS.mk tm mem nx).st Q := by
  subst hc
  refine AWP.weaken (Weak.nilRowIn (C := C) (s := (LS.mk tm mem nx).st) b i te (Cl.e α) cs Cl.pos hb hi) ?_
  have e : (LS.mk tm ((b, .box (cs.set i (slV α nx 0 0 0))) :: (nx, arrB te 0 true ([] : List α)) :: mem) (nx + 1)).st = { tm := (LS.mk tm mem nx).st.tm, mem := upd (upd (LS.mk tm mem nx).st.mem (LS.mk tm mem nx).st.nx (some (.arr te (Cl.e α) 0 []))) b (some (.box (cs.set i (.sl (LS.mk tm mem nx).st.nx 0 (Cl.e α) 0 0)))), nx := (LS.mk tm mem nx).st.nx + 1 } := by
    unfold LS.st; rw [lget_cons, lget_cons]; rfl
  rw [← e]; exact h
end
def gt {α : Type} [Cl α] (xs : List α) (i : Int) : α := xs.getD i.toNat Cl.d
abbrev w6 (n : Int) : Int := IntKind.wrap .i64 n
theorem w6_w6 (n : Int) : IntKind.wrap .i64 (IntKind.wrap .i64 n) = IntKind.wrap .i64 n := by
  rw [IntKind.wrap_i64, IntKind.wrap_i64]; omega
end Go.Abs
