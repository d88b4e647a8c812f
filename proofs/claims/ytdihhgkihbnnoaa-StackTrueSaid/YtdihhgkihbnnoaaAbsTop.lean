/- Laws about heaps and calls that the walks use. Conditions: as each theorem states them. -/
import Derived.Test.YtdihhgkihbnnoaaAbsX2
import Derived.WalkKit
import Derived.ProofKit
import Derived.OpenShut
import Derived.ChangeOld
import Derived.SizedLaws
import Derived.Carry
namespace Go.Abs
open Go.ChangeShapes Go.WideShapes Go.RowKit
set_option linter.unusedVariables false
set_option linter.unusedSimpArgs false

/-! ### from a function of values to a call -/
def topE (W : World) : Env := ⟨W.heap.size, fun B o => W.cell? ⟨B, o, none⟩, fun _ => none⟩
theorem topM (W : World) : InvM (cx W (fun _ => False) 0 (topE W).F) (topE W) none' 0 W where
  n0 := rfl
  frz := fun B o d h => h
  blk := fun b k hk => by cases hk
  dom := fun b I hI => by cases hI
  nx := fun b k hk => by cases hk
  inj := fun b b' I I' B h1 => by cases h1
  sep := fun b I B h1 => by cases h1
  own := fun b I B h1 => by cases h1
  old := fun B o hB => rfl
  keep := Keeps.refl _ _
theorem fnP_top {P : Program} {f : FuncId} {args : List V} {v : Value} (h : FnP P f args (.sc v)) {W : World} {cargs : List Value} (ha : RLs (topE W) args cargs) :
    Calls P f cargs.toArray W fun e W' => e = .returned v ∧ Below W.heap.size W W' := by
  refine (h (topE W) W (fun _ => False) cargs (topM W) ha).mono ?_
  rintro e W' ⟨c, E', res, m', nx', rfl, h1, h2, h3, rfl, h5⟩
  simp only [RL] at h3
  subst h3
  have k := h2.keep
  exact ⟨rfl, k.os, k.tape, k.output, k.size, fun b hb => k.block b hb (fun h => h)⟩
/-- A row of whole numbers in memory. -/
def IntRow (w : World) (a : Option Addr) (len cap : Nat) (zs : List Int) : Prop :=
  len ≤ cap ∧ zs.length = len ∧ (len = 0 ∨ ∃ B o, a = some ⟨B, o, none⟩ ∧ ∀ i, i < zs.length → w.cell? ⟨B, o + i, none⟩ = some (.int .i64 (zs.getD i 0)))
theorem IntRow.rl {w : World} {a : Option Addr} {len cap : Nat} {zs : List Int} (h : IntRow w a len cap zs) : RL (topE w) (rowV false zs) (.slice a len cap) := by
  obtain ⟨h1, h2, h3⟩ := h
  unfold rowV
  simp only [RL]
  subst h2
  refine ⟨a, cap, rfl, h1, flat_len' false zs, flat_leaf false zs, ?_⟩
  rcases h3 with h3 | ⟨B, o, rfl, h3⟩
  · exact .inl h3
  · refine .inr ⟨B, o, rfl, (fun h => nomatch h), RF.of_get _ _ fun i x hx => ?_⟩
    have e : (zs.flatMap (Cl.c false)) = zs.map fun z => V.sc (.int .i64 z) := by
      have key : ∀ l : List Int, (l.flatMap (Cl.c false)) = l.map fun z => V.sc (.int .i64 z) := by
        intro l; induction l with
        | nil => rfl
        | cons z l ih => rw [List.flatMap_cons, List.map_cons, ih]; rfl
      exact key zs
    rw [e, List.getElem?_map] at hx
    cases hz : zs[i]? with
    | none => rw [hz] at hx; cases hx
    | some z =>
      rw [hz] at hx; cases hx
      have hlt := (List.getElem?_eq_some_iff.1 hz).1
      refine ⟨.int .i64 z, ?_, by simp only [RL]⟩
      have := h3 i hlt
      rw [List.getD_eq_getElem?_getD, hz] at this
      exact this
/-- What a row of whole numbers that comes in is: its numbers, their size. -/
theorem open_row {H : Type} {enc : TypeId × Value → H} {P : Program} {W : World} {t e : TypeId} {a : Option Addr} {len cap : Nat} {d : DataW H} {ps : List MemPlace} {ts : List TypeId} {ds : List (DataW H)} {j : Nat}
    (hsz : (DataW.weightsEach P ts ds).all (· ≤ reachBytes) = true) (ht : ts[j]? = some t) (hd : ds[j]? = some d) (hu : P.underlying t = some (.slice e)) (he : P.underlying e = some (.int .i64)) (hc : P.cellsOf e = 1) (hB : P.bytesOf e = 8)
    (h : DataW.Trod enc P W 0 (fun _ => true) true t (.slice a len cap) d ps) : ∃ zs : List Int, IntRow W a len cap zs ∧ (∀ z ∈ zs, -9223372036854775808 ≤ z ∧ z ≤ 9223372036854775807) ∧ zs.length * 8 ≤ 140737488351232 := by
  obtain ⟨fuel, hf⟩ := h
  rcases open_ints hu he hc hf with ⟨hcs, _⟩ | ⟨x, l, c, zs, hcs, _, hl, _, hz, hx, hcell, hwz⟩
  · simp [Value.cells] at hcs
    obtain ⟨rfl, rfl, rfl⟩ := hcs
    exact ⟨[], ⟨Nat.le_refl _, rfl, .inl rfl⟩, (fun z hz => nomatch hz), by simp⟩
  · simp [Value.cells] at hcs
    obtain ⟨rfl, rfl, rfl⟩ := hcs
    obtain ⟨hx, _⟩ := Prod.mk.inj hx
    subst hx
    have hz' : zs.length = cap := by simpa using hz
    have w := sized_slice hsz ht hd hu
    rw [hB] at w
    have h1 : (lits (H := H) .i64 (zs.take len)).length + (lits (H := H) .i64 (zs.drop len)).length = zs.length := by
      simp [lits]
      omega
    rw [h1] at w
    have hlen : (zs.take len).length = len := by simp; omega
    refine ⟨zs.take len, ⟨hl, hlen, ?_⟩, fun z hz2 => ?_, ?_⟩
    · rcases Nat.eq_zero_or_pos len with h0 | h0
      · exact .inl h0
      · right
        have c0 := hcell 0 (by omega)
        obtain ⟨B, o, sp⟩ := x
        have hsp : sp = none := by
          cases sp with
          | none => rfl
          | some q =>
            exfalso
            simp only [Addr.add, if_true, World.cell?] at c0
            split at c0
            · simp at c0
            · cases c0
        subst hsp
        refine ⟨B, o, rfl, fun i hi => ?_⟩
        rw [hlen] at hi
        have := hcell i (by omega)
        rw [addr_add] at this
        rw [this]
        congr 2
        simp only [List.getD_eq_getElem?_getD, List.getElem?_take]
        rw [if_pos hi]
    · have := hwz z (List.mem_of_mem_take hz2)
      simp only [Lit.wf, IntKind.min, IntKind.max, IntKind.signed, IntKind.bits, Bool.and_eq_true, decide_eq_true_eq, if_true] at this
      simp at this
      omega
    · have h3 : zs.length * 8 ≤ reachBytes := w
      have h4 : reachBytes = 140737488351232 := by decide
      rw [hlen]
      have : len ≤ zs.length := by omega
      omega
theorem rls_nil {E : Env} : RLs E [] [] := by simp only [RLs]
theorem rls_cons {E : Env} {x : V} {d : Value} {xs : List V} {ds : List Value} (h : RL E x d) (k : RLs E xs ds) : RLs E (x :: xs) (d :: ds) := by simp only [RLs]; exact ⟨d, ds, rfl, h, k⟩
theorem rl_sc {E : Env} {v : Value} : RL E (.sc v) v := by simp only [RL]
theorem wf_i64 {n : Int} (h : (Lit.int .i64 n).wf = true) : -9223372036854775808 ≤ n ∧ n ≤ 9223372036854775807 := by
  simp only [Lit.wf, IntKind.min, IntKind.max, IntKind.signed, IntKind.bits, Bool.and_eq_true, decide_eq_true_eq, if_true] at h
  simp at h
  omega
/-- What a law asks of its row. -/
structure okL (l : List Int) : Prop where
  z : ∀ z ∈ l, -9223372036854775808 ≤ z ∧ z ≤ 9223372036854775807
  len : l.length * 8 ≤ 140737488351232
def inR (n : Int) : Prop := -9223372036854775808 ≤ n ∧ n ≤ 9223372036854775807
end Go.Abs
