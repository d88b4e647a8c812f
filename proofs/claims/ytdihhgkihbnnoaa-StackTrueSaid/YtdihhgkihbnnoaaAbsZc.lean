/- Laws about heaps and calls that the walks use. Conditions: as each theorem states them. -/
import Derived.Test.YtdihhgkihbnnoaaAbsZb
namespace Go.Abs
set_option linter.unusedVariables false
set_option linter.unusedSimpArgs false

/-! ### turning a state that is given as lists -/
def aggV {α : Type} [Cl α] (nw : Bool) (x : α) : V := .agg (Cl.c nw x)
def slV (α : Type) [Cl α] (b ver off len : Nat) : V := .sl b ver (Cl.e α) off len
def arrB {α : Type} [Cl α] (te ver : Nat) (nw : Bool) (xs : List α) : Blk := .arr te (Cl.e α) ver (xs.flatMap (Cl.c nw))
def boxB {α : Type} [Cl α] (nw : Bool) (x : α) : Blk := .box (Cl.c nw x)

def hwL (mem : List (Nat × Blk)) (kp : List (Nat × Nat)) (fz : List Nat) : Hw := ⟨lget mem, fun b => fz.contains b, fun j => (kp.getD j (0, 0)).1, fun j => (kp.getD j (0, 0)).2, kp.length⟩
def TrTm (H : Hw) (s : LS) : List (Nat × V) → Prop
  | [] => True
  | (t, v) :: l => Tr H (s.slot t) v ∧ TrTm H s l
def TrMem (H : Hw) (mem : List (Nat × Blk)) : Nat → List Blk → Prop
  | _, [] => True
  | j, k' :: l => (∃ k, lget mem (H.ids j) = some k ∧ BTr H j k k') ∧ TrMem H mem (j + 1) l
def kpOK (p : Nat) (mem : List (Nat × Blk)) (kp : List (Nat × Nat)) (fz : List Nat) : Bool :=
  decide (p ≤ kp.length) && fz.all (fun b => decide (p ≤ b)) && nodupB (kp.map (·.1)) && ((List.range kp.length).all fun j =>
    if j < p then (kp.getD j (0, 0)).1 == j && (match lget mem j with | some k => k.hasVer (kp.getD j (0, 0)).2 | none => false) else decide (p ≤ (kp.getD j (0, 0)).1)) && kp.all fun x => !fz.contains x.1
theorem TrTm.get {H : Hw} {s : LS} : ∀ {l : List (Nat × V)}, TrTm H s l → ∀ t v, lget l t = some v → Tr H (s.slot t) v
  | [], h, t, v, e => by cases e
  | (t', v') :: l, h, t, v, e => by
    unfold lget at e
    split at e
    · rename_i hq; subst hq; cases e; exact h.1
    · exact TrTm.get h.2 t v e
theorem TrMem.get {H : Hw} {mem : List (Nat × Blk)} : ∀ {l : List Blk} {j0 : Nat}, TrMem H mem j0 l → ∀ j k', l[j]? = some k' → ∃ k, lget mem (H.ids (j0 + j)) = some k ∧ BTr H (j0 + j) k k'
  | [], j0, h, j, k', e => by simp at e
  | x :: l, j0, h, j, k', e => by
    cases j with
    | zero => simp at e; subst e; exact h.1
    | succ j => have := TrMem.get h.2 j k' (by simpa using e); rwa [show j0 + 1 + j = j0 + (j + 1) by omega] at this
theorem Weak.turnL {W0 : World} {S : Nat → Prop} {p N : Nat} {F0 : Nat → Nat → Option Value} {D : List Deferred} {tm tm' : List (Nat × V)} {mem : List (Nat × Blk)} {nx : Nat} {ks : List Blk} (kp : List (Nat × Nat)) (fz : List Nat)
    (hk : kpOK p mem kp fz = true) (hl : ks.length = kp.length) (ht : TrTm (hwL mem kp fz) ⟨tm, mem, nx⟩ tm') (hb : TrMem (hwL mem kp fz) mem 0 ks) :
    Weak ⟨W0, S, p, F0, N, D⟩ (LS.mk tm mem nx).st (LS.mk tm' (lblks 0 ks) ks.length).st := by
  unfold kpOK at hk
  simp only [Bool.and_eq_true, decide_eq_true_eq, List.all_eq_true, List.mem_range, Bool.not_eq_true'] at hk
  obtain ⟨⟨⟨⟨k1, k2⟩, k3⟩, k4⟩, k5⟩ := hk
  have hnd := nodupB_ok _ k3
  have hget : ∀ j (hj : j < kp.length), (kp.getD j (0, 0)) = kp[j] := fun j hj => by simp [hj]
  refine Weak.turn (hwL mem kp fz) rfl k1 (fun b hb => k2 b (by simpa [hwL] using hb)) (fun j hj => ?_) (fun j hj => ?_) (fun j h1 h2 => ?_) (fun i j hi hj e => ?_) (fun j hj => ?_) (fun j hj => ?_) (fun j hj => ?_) hl (fun t => ?_)
  · have := k4 j (by omega); rw [if_pos hj] at this
    simp only [Bool.and_eq_true, beq_iff_eq] at this
    exact this.1
  · have := k4 j (by omega); rw [if_pos hj] at this
    simp only [Bool.and_eq_true, beq_iff_eq] at this
    have h2 := this.2
    split at h2
    · rename_i k hk; exact ⟨k, hk, h2⟩
    · cases h2
  · have := k4 j h2; rw [if_neg (by omega)] at this
    simpa [hwL] using this
  · have hi : i < kp.length := hi
    have hj : j < kp.length := hj
    simp only [hwL] at e
    rw [hget i hi, hget j hj] at e
    exact nodup_inj (l := kp.map (·.1)) (hi := by simpa using hi) (hj := by simpa using hj) hnd (by simpa using e)
  · have hj : j < kp.length := hj
    simp only [hwL]
    rw [hget j hj]
    exact k5 _ (List.getElem_mem hj)
  · have hj : j < kp.length := hj
    have hj' : j < ks.length := by omega
    obtain ⟨k, e1, e2⟩ := TrMem.get hb j ks[j] (by simp [hj'])
    rw [Nat.zero_add] at e1 e2
    exact ⟨k, ks[j], e1, by show lget (lblks 0 ks) j = _; rw [lget_lblks]; simp [hj'], e2⟩
  · have hj : kp.length ≤ j := hj
    show lget (lblks 0 ks) j = none
    rw [lget_lblks]; simp; omega
  · show Tr _ (LS.slot _ t) (LS.slot ⟨tm', _, _⟩ t)
    conv => arg 3; unfold LS.slot
    simp only []
    cases e : lget tm' t with
    | none => exact .any _
    | some v => exact ht.get t v e
theorem AWP.turn {P : Program} {r : Option Nat} {W0 : World} {S : Nat → Prop} {p N : Nat} {F0 : Nat → Nat → Option Value} {D : List Deferred} {tm tm' : List (Nat × V)} {mem : List (Nat × Blk)} {nx : Nat} {ks : List Blk} {c : Code} {Q : Exit → St → Prop} (kp : List (Nat × Nat)) (fz : List Nat)
    (hk : kpOK p mem kp fz = true) (hl : ks.length = kp.length) (ht : TrTm (hwL mem kp fz) ⟨tm, mem, nx⟩ tm') (hb : TrMem (hwL mem kp fz) mem 0 ks)
    (h : AWP P r ⟨W0, S, p, F0, N, D⟩ c (LS.mk tm' (lblks 0 ks) ks.length).st Q) : AWP P r ⟨W0, S, p, F0, N, D⟩ c (LS.mk tm mem nx).st Q := AWP.weaken (Weak.turnL kp fz hk hl ht hb) h
section
variable {α : Type} [Cl α] {H : Hw}
theorem trR {nw nw' : Bool} {xs : List α} (h : nw' = true → nw = true) : Tr H (rowV nw xs) (rowV nw' xs) := .lst h (flat_tr H nw nw' h xs) (flat_leaf _ _)
theorem trA {nw nw' : Bool} {x : α} (h : nw' = true → nw = true) : Tr H (aggV nw x) (aggV nw' x) := .agg (Cl.tr H nw nw' x h) (Cl.leaf _ _)
/-- A nil slice is an empty one. -/
theorem trN {nw : Bool} : Tr H (.sc (.slice none 0 0)) (rowV nw ([] : List α)) := .nil
/-- An own row is kept. -/
theorem trS {j b ver ver' off len te : Nat} {nw : Bool} {xs : List α} (h1 : j < H.q) (h2 : H.ids j = b) (h3 : H.nv j = ver') (hm : H.mem b = some (arrB te ver nw xs)) : Tr H (slV α b ver off len) (slV α j ver' off len) := .slKeep h1 h2 h3 hm
theorem trP {j b o : Nat} {cs : List V} (h1 : j < H.q) (h2 : H.ids j = b) (h3 : H.nv j = 0) (hm : H.mem b = some (.box cs)) : Tr H (.ptr b 0 o) (.ptr j 0 o) := .ptrBox h1 h2 h3 hm
/-- An own row is frozen. -/
theorem trF {b ver te : Nat} {nw nw' new : Bool} {xs : List α} (hL : H.L b = true) (hm : H.mem b = some (arrB te ver nw xs)) (h : nw' = true → nw = true) (hn : new = nw') : Tr H (slV α b ver 0 xs.length) (rowV new xs) := by
  subst hn
  refine .slFree hL hm ?_ ?_ (flat_leaf _ _)
  · rw [flat_len']; omega
  · rw [Nat.zero_mul, List.drop_zero, List.take_of_length_le (by rw [flat_len']; exact Nat.le_refl _)]
    exact flat_tr H nw _ h xs
theorem trFs {b ver te off len : Nat} {nw nw' new : Bool} {xs : List α} (hL : H.L b = true) (hm : H.mem b = some (arrB te ver nw xs)) (hfit : off + len ≤ xs.length) (h : nw' = true → nw = true) (hn : new = nw') : Tr H (slV α b ver off len) (rowV new ((xs.drop off).take len)) := by
  subst hn
  unfold rowV
  rw [show ((xs.drop off).take len).length = len by simp; omega]
  refine .slFree hL hm ?_ ?_ (flat_leaf _ _)
  · rw [flat_len', ← Nat.add_mul]; exact Nat.mul_le_mul_right _ hfit
  · rw [flat_drop, flat_take]
    exact flat_tr H nw _ h _
theorem btrA {j te ver ver' : Nat} {nw nw' : Bool} {xs : List α} (h : H.nv j = ver') (hn : nw' = true → nw = true) : BTr H j (arrB te ver nw xs) (arrB te ver' nw' xs) := .arr h (flat_tr H nw nw' hn xs) (flat_leaf _ _)
theorem btrB {j : Nat} {nw nw' : Bool} {x : α} (h : H.nv j = 0) (hn : nw' = true → nw = true) : BTr H j (boxB nw x) (boxB nw' x) := .box h (Cl.tr H nw nw' x hn) (Cl.leaf _ _)
end
end Go.Abs
