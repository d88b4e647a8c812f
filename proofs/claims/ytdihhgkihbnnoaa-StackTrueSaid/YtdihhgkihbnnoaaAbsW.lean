/- Laws about heaps and calls that the walks use. Conditions: as each theorem states them. -/
import Derived.Test.YtdihhgkihbnnoaaAbsV
import Derived.IntWalk
namespace Go.Abs
open Go.IntWalk
open Go.RowKit (wrap64)
set_option linter.unusedVariables false

/-! ### the program's things, as values -/
abbrev i64 (n : Int) : V := .sc (.int .i64 n)
abbrev bl (b : Bool) : V := .sc (.bool b)
theorem wrap64_bd (n : Int) : -9223372036854775808 ≤ wrap64 n ∧ wrap64 n ≤ 9223372036854775807 := by unfold wrap64; omega
abbrev inI (z : Int) : Prop := -9223372036854775808 ≤ z ∧ z ≤ 9223372036854775807

/-! ### bounds -/
structure Bd where
  lo : Int
  hi : Int
  u : Bool
  deriving DecidableEq, Inhabited
theorem Bd.eta (b : Bd) : (⟨b.lo, b.hi, b.u⟩ : Bd) = b := rfl
abbrev mxN : Int := 1152921504606846976
def Bd.cells (b : Bd) : List V := [i64 b.lo, i64 b.hi, bl b.u]
def Bd.v (b : Bd) : V := .agg b.cells
def Bd.chk (b : Bd) : Int :=
  if b.u = true ∧ (b.lo ≠ 0 ∨ b.hi ≠ 0) then 3 else if mn2 b.lo b.hi < -1152921504606846976 ∨ 1152921504606846976 < mx2 b.lo b.hi then 4 else if b.hi < b.lo then 11 else 0
structure Bd.ok (b : Bd) : Prop where
  u0 : b.u = true → b.lo = 0 ∧ b.hi = 0
  h1 : -1152921504606846976 ≤ b.lo
  h2 : b.lo ≤ b.hi
  h3 : b.hi ≤ 1152921504606846976
theorem Bd.chk_ok {b : Bd} : b.chk = 0 ↔ b.ok := by
  obtain ⟨lo, hi, u⟩ := b
  unfold Bd.chk mn2 mx2
  constructor
  · intro h
    refine ⟨fun hu => ?_, ?_, ?_, ?_⟩ <;> (revert h; cases u <;> simp_all <;> (repeat' split) <;> omega)
  · rintro ⟨h1, h2, h3, h4⟩
    cases u <;> simp_all <;> (repeat' split) <;> omega
def Bd.none : Bd := ⟨0, 0, true⟩
def Bd.norm (b : Bd) : Bd := if b.chk = 0 then b else .none
theorem Bd.norm_of {b : Bd} (h : b.ok) : b.norm = b := by unfold Bd.norm; rw [if_pos (Bd.chk_ok.2 h)]
theorem Bd.none_ok : Bd.none.ok := ⟨fun _ => ⟨rfl, rfl⟩, by decide, by decide, by decide⟩
theorem Bd.norm_ok (b : Bd) : b.norm.ok := by
  unfold Bd.norm; split
  · rename_i h; exact Bd.chk_ok.1 h
  · exact Bd.none_ok
def Bd.of (lo hi : Int) : Bd := Bd.norm ⟨lo, hi, false⟩
def Bd.vague (a b : Bd) : Bool := a.norm.u || b.norm.u
def Bd.add (a b : Bd) : Bd := if Bd.vague a b = true then .none else .of (a.lo + b.lo) (a.hi + b.hi)
def Bd.neg (b : Bd) : Bd := ⟨-b.norm.hi, -b.norm.lo, b.norm.u⟩
def Bd.sub (a b : Bd) : Bd := a.add b.neg
def Bd.min (a b : Bd) : Bd := if Bd.vague a b = true then .none else .of (mn2 a.lo b.lo) (mn2 a.hi b.hi)
def Bd.max (a b : Bd) : Bd := (a.neg.min b.neg).neg
def Bd.has (b : Bd) (v : Int) : Bool := b.norm.u || (decide (b.lo ≤ v) && decide (v ≤ b.hi))
/-- What both admit. -/
def Bd.meet (a b : Bd) : Bd × Bool :=
  if a.norm.u = true then (b.norm, true) else if b.norm.u = true then (a.norm, true) else
  if mn2 a.norm.hi b.norm.hi < mx2 a.norm.lo b.norm.lo then (⟨0, 0, false⟩, false) else (Bd.of (mx2 a.norm.lo b.norm.lo) (mn2 a.norm.hi b.norm.hi), true)
theorem Bd.vague_spec {a b : Bd} (h : Bd.vague a b = false) : a.ok ∧ b.ok ∧ a.u = false ∧ b.u = false := by
  unfold Bd.vague at h
  simp only [Bool.or_eq_false_iff] at h
  have key : ∀ c : Bd, c.norm.u = false → c.ok ∧ c.u = false := fun c hc => by
    unfold Bd.norm at hc
    split at hc
    · rename_i h; exact ⟨Bd.chk_ok.1 h, hc⟩
    · cases hc
  exact ⟨(key a h.1).1, (key b h.2).1, (key a h.1).2, (key b h.2).2⟩
theorem Bd.vague_of {a b : Bd} (ha : a.ok) (hb : b.ok) : Bd.vague a b = (a.u || b.u) := by unfold Bd.vague; rw [Bd.norm_of ha, Bd.norm_of hb]
theorem Bd.neg_ok (b : Bd) : b.neg.ok := by
  have h := b.norm_ok
  obtain ⟨h0, h1, h2, h3⟩ := h
  unfold Bd.neg
  refine ⟨fun hu => ?_, ?_, ?_, ?_⟩ <;> simp only [] at *
  · have := h0 hu; omega
  · omega
  · omega
  · omega
theorem Bd.add_ok (a b : Bd) : (a.add b).ok := by
  unfold Bd.add; split
  · exact Bd.none_ok
  · exact Bd.norm_ok _
theorem Bd.sub_ok (a b : Bd) : (a.sub b).ok := Bd.add_ok _ _
theorem pBd : Plain 3 Bd.cells := ⟨fun _ => rfl, fun _ => rfl⟩

/-! ### streams -/
def below (x n : Int) : Int := if n < 1 then 0 else x % n
theorem below_range (x n : Int) (h : 1 ≤ n) : 0 ≤ below x n ∧ below x n < n := by
  unfold below; rw [if_neg (by omega)]; exact ⟨Int.emod_nonneg _ (by omega), Int.emod_lt_of_pos _ (by omega)⟩
abbrev ints (zs : List Int) : List V := zs.flatMap fun z => [i64 z]
theorem pInts : Plain 1 (fun z : Int => [i64 z]) := ⟨fun _ => rfl, fun _ => rfl⟩
/-- A stream: its numbers, its place. -/
abbrev stm (zs : List Int) (at_ : Int) : Blk := .box [.lst false 1 zs.length (ints zs), i64 at_]
def rawN (zs : List Int) (a : Int) : Int :=
  if zs.length = 0 then wrap64 ((a + 1) * 7919) else
    wrap64 (below (zs.getD (a.tmod zs.length).toNat 0) 1073741824 + wrap64 (a.tdiv zs.length * (7919 + a.tmod zs.length)))
theorem rawN_bd (zs : List Int) (a : Int) : inI (rawN zs a) := by unfold rawN; split <;> exact wrap64_bd _
/-- The next number below n. -/
def nexN (zs : List Int) (a n : Int) : Int := below (rawN zs a) n
theorem nexN_bd (zs : List Int) (a n : Int) (h : 1 ≤ n) : 0 ≤ nexN zs a n ∧ nexN zs a n < n := below_range _ _ h
/-- A number in a range. -/
def ranN (zs : List Int) (a lo hi : Int) : Int := lo + nexN zs a (hi - lo + 1)
theorem ranN_bd (zs : List Int) (a lo hi : Int) (h : lo ≤ hi) : lo ≤ ranN zs a lo hi ∧ ranN zs a lo hi ≤ hi := by
  have := nexN_bd zs a (hi - lo + 1) (by omega)
  unfold ranN; omega
/-- What a stream must be. -/
structure okS (zs : List Int) (a : Int) : Prop where
  z : ∀ z ∈ zs, inI z
  l : zs.length < 140737488355328
  a0 : 0 ≤ a
  a1 : a < 4611686018427387904
end Go.Abs
namespace Go.Abs
theorem roomy_ok {n b : Nat} (h1 : n ≤ 1048576) (h2 : b ≤ 65536) : roomy n b = true := by
  unfold roomy
  have : n * b ≤ 1048576 * 65536 := Nat.mul_le_mul h1 h2
  simp; omega
end Go.Abs
