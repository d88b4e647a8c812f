/- Laws about heaps and calls that the walks use. Conditions: as each theorem states them. -/
import Derived.Test.YtdihhgkihbnnoaaAbsX2
import Derived.Laws.Externs
namespace Go.Abs
open Go.RowKit
set_option linter.unusedVariables false
set_option linter.unusedSimpArgs false
/-! ### functions that the model stands in for; shifts by a variable; a string's byte -/
structure IsAdd64 (P : Program) (f : FuncId) : Prop where
  ex : ∃ fn, P.funcs[f]? = some fn ∧ (fn.name == "runtime.NumGoroutine") = false ∧ fn.body.isNone = true ∧ Extern.findNext fn = none ∧ Extern.find fn = some add64Entry
/-- math/bits.Add64: sum and carry. -/
def add64 (a b k : Int) : Option (Int × Int) := if 0 ≤ a ∧ 0 ≤ b ∧ 0 ≤ k ∧ k ≤ 1 then some ((a + b + k) % 18446744073709551616, (a + b + k) / 18446744073709551616) else none
/-- A table of bytes at a place. -/
def tabAt (l : List UInt8) (n : Int) : Int := ((l.getD n.toNat 0).toNat : Int)
theorem srcR2 {α : Type} [Cl α] {m : Nat → Option Blk} {nw nw' : Bool} {ys : List α} {v : V} (hv : v = rowV nw ys) (hf : ∀ x : α, Cl.c nw x = Cl.c nw' x) : srcV m (Cl.e α) v = some (ys.length, ys.flatMap (Cl.c nw')) := by
  rw [srcR' hv, show (Cl.c nw : α → List V) = Cl.c nw' from funext hf]
theorem srcS2 {α : Type} [Cl α] {mem : List (Nat × Blk)} {b ver te ln : Nat} {nw nw' : Bool} {ys : List α} {v : V} (hv : v = slV α b ver 0 ln) (hm : lget mem b = some (arrB te ver nw ys)) (hl : ln = ys.length) (hf : ∀ x : α, Cl.c nw x = Cl.c nw' x) : srcV (lget mem) (Cl.e α) v = some (ys.length, ys.flatMap (Cl.c nw')) := by
  rw [srcS' hv hm hl, show (Cl.c nw : α → List V) = Cl.c nw' from funext hf]
section
variable {c : RX} {i : Nat} {l : List Oper} {tm : List (Nat × V)} {mem : List (Nat × Blk)} {nx : Nat} {Q : LS → Prop} {d : Tmp} {op : Op} {ty : TypeId} {ps : String} {af : Array Edge} {g : Option (Nat × Bool)}
theorem xa {f : FuncId} {x y z : Operand} {ts : Array TypeId} {a b k : Int} {r : Int × Int} (hw : Wt c ⟨tm, mem, nx⟩ ⟨some d, .call { callee := .value (.func f), args := #[x, y, z], argTypes := ts }, ty, ps, af, g⟩)
    (hf : IsAdd64 c.P f) (hx : (LS.mk tm mem nx).ev x = .sc (.int .u64 a)) (hy : (LS.mk tm mem nx).ev y = .sc (.int .u64 b)) (hz : (LS.mk tm mem nx).ev z = .sc (.int .u64 k)) (hr : add64 a b k = some r)
    (h : RunC c (i + 1) l ⟨(d, .tup [.sc (.int .u64 r.1), .sc (.int .u64 r.2)]) :: tm, mem, nx⟩ Q) : RunC c i (⟨some d, .call { callee := .value (.func f), args := #[x, y, z], argTypes := ts }, ty, ps, af, g⟩ :: l) ⟨tm, mem, nx⟩ Q :=
  rawC hw rfl (fun ρ E W hρ => by
    have h0 := hρ (.func f) (by simp [Op.operands, Call.operands])
    have h1 := hρ x (by simp [Op.operands, Call.operands])
    have h2 := hρ y (by simp [Op.operands, Call.operands])
    have h3 := hρ z (by simp [Op.operands, Call.operands])
    rw [hx] at h1; rw [hy] at h2; rw [hz] at h3
    simp only [RL] at h1 h2 h3
    have e0 : ρ (.func f) = .func (.func f) #[] #[] := by
      have : RL E (V.fn (.func f) []) (ρ (.func f)) := h0
      simp only [RL, RLs] at this
      obtain ⟨cs, e1, e2⟩ := this
      subst e2
      exact e1
    unfold add64 at hr
    split at hr
    · rename_i hc
      obtain ⟨c1, c2, c3, c4⟩ := hc
      cases hr
      obtain ⟨fn, q1, q2, q3, q4, q5⟩ := hf.ex
      refine ⟨.tuple #[.int .u64 ((a + b + k) % 18446744073709551616), .int .u64 ((a + b + k) / 18446744073709551616)], ?_, by simp only [RL, RLs]; exact ⟨_, rfl, _, _, rfl, rfl, _, _, rfl, rfl, rfl⟩⟩
      have hrun : (execOp ρ ⟨some d, .call { callee := .value (.func f), args := #[x, y, z], argTypes := ts }, ty, ps, af, g⟩).run c.P W = (callFunc f #[.int .u64 a, .int .u64 b, .int .u64 k]).run c.P W := by
        simp [execOp, resolve, Deferred.ofValue, e0, invoke, Result.andThen, h1, h2, h3]
      rw [hrun, run_callFunc_extern q1 q2 q3 q4 q5, run_add64 a b k c1 c2 c3 c4]
      rfl
    · cases hr) h
/-- A byte of a text. -/
theorem ixT {s : List UInt8} {n : Int} {t : TypeId} {x y : Operand} {k : IntKind} (hw : Wt c ⟨tm, mem, nx⟩ ⟨some d, .index t x y, ty, ps, af, g⟩) (hx : (LS.mk tm mem nx).ev x = .sc (.string ⟨s.toArray⟩)) (hy : (LS.mk tm mem nx).ev y = .sc (.int k n)) {ti : TI} (hti : tiOf c.P t = some ti) (hk : ti.k = .str8) (hn : 0 ≤ n ∧ n.toNat < s.length)
    (h : RunC c (i + 1) l ⟨(d, .sc (.int .u8 (tabAt s n))) :: tm, mem, nx⟩ Q) : RunC c i (⟨some d, .index t x y, ty, ps, af, g⟩ :: l) ⟨tm, mem, nx⟩ Q :=
  fxC hw rfl (fun _ => by
    have e : (ByteArray.get! ⟨s.toArray⟩ n.toNat) = s.getD n.toNat 0 := by
      simp [ByteArray.get!, List.getD_eq_getElem?_getD]
      simp [getElem!_def, hn.2]
    have e2 : n.toNat < (ByteArray.size ⟨s.toArray⟩) := by simpa [ByteArray.size] using hn.2
    simp only [opFx, fxIndex, hx, hy, tkAt, hti, hk, Option.map_some]
    rw [if_pos ⟨hn.1, e2⟩, e]; rfl) h
theorem shL {t t' : TypeId} {x y : Operand} {k k' : IntKind} {n m r : Int} (hw : Wt c ⟨tm, mem, nx⟩ ⟨some d, .binOp .shl t x y t', ty, ps, af, g⟩) (hx : (LS.mk tm mem nx).ev x = .sc (.int k n)) (hy : (LS.mk tm mem nx).ev y = .sc (.int k' m)) (hm : 0 ≤ m) (hr : k.wrap (n * 2 ^ (min m.toNat k.bits)) = r)
    (h : RunC c (i + 1) l ⟨(d, .sc (.int k r)) :: tm, mem, nx⟩ Q) : RunC c i (⟨some d, .binOp .shl t x y t', ty, ps, af, g⟩ :: l) ⟨tm, mem, nx⟩ Q :=
  fxC hw rfl (fun _ => by simp [opFx, evBin, BinOp.isShift, evShift, hx, hy, Int.not_lt.2 hm, hr]) h
theorem shR {t t' : TypeId} {x y : Operand} {k k' : IntKind} {n m r : Int} (hw : Wt c ⟨tm, mem, nx⟩ ⟨some d, .binOp .shr t x y t', ty, ps, af, g⟩) (hx : (LS.mk tm mem nx).ev x = .sc (.int k n)) (hy : (LS.mk tm mem nx).ev y = .sc (.int k' m)) (hm : 0 ≤ m) (hr : Int.fdiv n (2 ^ (min m.toNat k.bits)) = r)
    (h : RunC c (i + 1) l ⟨(d, .sc (.int k r)) :: tm, mem, nx⟩ Q) : RunC c i (⟨some d, .binOp .shr t x y t', ty, ps, af, g⟩ :: l) ⟨tm, mem, nx⟩ Q :=
  fxC hw rfl (fun _ => by simp [opFx, evBin, BinOp.isShift, evShift, hx, hy, Int.not_lt.2 hm, hr]) h
end
end Go.Abs
