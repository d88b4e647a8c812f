/- Laws about heaps and calls that the walks use. Conditions: as each theorem states them. -/
import Derived.Test.YtdihhgkihbnnoaaAbsZ
namespace Go.Abs
set_option linter.unusedVariables false
set_option linter.unusedSimpArgs false

mutual
theorem ren_nor (r : Nat → Nat) : ∀ (v : V), V.nor v = true → v.ren r = v
  | .sc v, h => by simp only [V.ren]
  | .agg cs, h => by simp only [V.ren]; rw [rens_nor r cs (by simpa only [V.nor] using h)]
  | .tup cs, h => by simp only [V.ren]; rw [rens_nor r cs (by simpa only [V.nor] using h)]
  | .lst new e n cs, h => by simp only [V.ren]; rw [rens_nor r cs (by simpa only [V.nor] using h)]
  | .rp cs, h => by simp only [V.ren]; rw [rens_nor r cs (by simpa only [V.nor] using h)]
  | .sl .., h => by simp [V.nor] at h
  | .ptr .., h => by simp [V.nor] at h
  | .fn f cs, h => by simp only [V.ren]; rw [rens_nor r cs (by simpa only [V.nor] using h)]
  | .any, h => by simp only [V.ren]
theorem rens_nor (r : Nat → Nat) : ∀ (vs : List V), V.nors vs = true → V.rens r vs = vs
  | [], h => by simp only [V.rens]
  | x :: xs, h => by
    simp only [V.nors, Bool.and_eq_true] at h
    simp only [V.rens]; rw [ren_nor r x h.1, rens_nor r xs h.2]
end
theorem Lends.append {H : How} : ∀ {xs ys xs' ys' : List V}, Lends H xs xs' → Lends H ys ys' → Lends H (xs ++ ys) (xs' ++ ys')
  | _, _, _, _, .nil, k => k
  | _, _, _, _, .cons h1 h2, k => .cons h1 (Lends.append h2 k)

/-- Types whose values lie in cells. -/
class Cl (α : Type) where
  e : Nat
  c : Bool → α → List V
  d : α
  pos : 0 < e
  len : ∀ nw x, (c nw x).length = e
  leaf : ∀ nw x, (c nw x).all V.leaf = true
  nors : ∀ nw x, V.nors (c nw x) = true
  fresh : ∀ x, V.freshs (c true x) = true
  tr : ∀ (H : Hw) nw nw' x, (nw' = true → nw = true) → Trs H (c nw x) (c nw' x)
  ld : ∀ (H : How) nw x, Lends H (c nw x) (c (H.tg nw) x)
section
variable {α : Type} [Cl α]
theorem flat_len' (nw : Bool) (xs : List α) : (xs.flatMap (Cl.c nw)).length = xs.length * Cl.e α := flat_length (Cl.len nw) xs
theorem flat_leaf (nw : Bool) (xs : List α) : (xs.flatMap (Cl.c nw)).all V.leaf = true := all_flatMap (Cl.leaf nw) xs
theorem flat_nors (nw : Bool) (xs : List α) : V.nors (xs.flatMap (Cl.c nw)) = true := by
  rw [nors_eq]; exact all_flatMap (fun x => by rw [← nors_eq]; exact Cl.nors nw x) xs
theorem flat_fresh (xs : List α) : V.freshs (xs.flatMap (Cl.c true)) = true := by
  rw [freshs_eq]; exact all_flatMap (fun x => by rw [← freshs_eq]; exact Cl.fresh x) xs
theorem flat_tr (H : Hw) (nw nw' : Bool) (h : nw' = true → nw = true) : ∀ (xs : List α), Trs H (xs.flatMap (Cl.c nw)) (xs.flatMap (Cl.c nw'))
  | [] => .nil
  | x :: xs => by rw [List.flatMap_cons, List.flatMap_cons]; exact (Cl.tr H nw nw' x h).append (flat_tr H nw nw' h xs)
theorem flat_ld (H : How) (nw : Bool) : ∀ (xs : List α), Lends H (xs.flatMap (Cl.c nw)) (xs.flatMap (Cl.c (H.tg nw)))
  | [] => .nil
  | x :: xs => by rw [List.flatMap_cons, List.flatMap_cons]; exact (Cl.ld H nw x).append (flat_ld H nw xs)
theorem flat_at (nw : Bool) (xs : List α) (i : Nat) (hi : i < xs.length) : ((xs.flatMap (Cl.c nw)).drop (i * Cl.e α)).take (Cl.e α) = Cl.c nw (xs.getD i Cl.d) := by
  rw [cellsAt_flat (Cl.len nw) xs i hi, List.getD_eq_getElem?_getD, List.getElem?_eq_getElem hi]; rfl
theorem flat_drop (nw : Bool) : ∀ (xs : List α) (i : Nat), (xs.flatMap (Cl.c nw)).drop (i * Cl.e α) = (xs.drop i).flatMap (Cl.c nw)
  | [], i => by simp
  | x :: xs, 0 => by simp
  | x :: xs, i + 1 => by
    rw [List.flatMap_cons, List.drop_succ_cons, ← flat_drop nw xs i, List.drop_append, Cl.len, Nat.succ_mul, Nat.add_sub_cancel, List.drop_of_length_le (by rw [Cl.len]; exact Nat.le_add_left _ _), List.nil_append]
theorem flat_take (nw : Bool) : ∀ (xs : List α) (i : Nat), (xs.flatMap (Cl.c nw)).take (i * Cl.e α) = (xs.take i).flatMap (Cl.c nw)
  | [], i => by simp
  | x :: xs, 0 => by simp
  | x :: xs, i + 1 => by
    rw [List.flatMap_cons, List.take_succ_cons, List.flatMap_cons, ← flat_take nw xs i, List.take_append, Cl.len, Nat.succ_mul, Nat.add_sub_cancel]
    rw [List.take_of_length_le (by rw [Cl.len]; exact Nat.le_add_left _ _)]
end
instance : Cl Int where
  e := 1
  c _ n := [.sc (.int .i64 n)]
  d := 0
  pos := by decide
  len _ _ := rfl
  leaf _ _ := rfl
  nors _ _ := rfl
  fresh _ := rfl
  tr _ _ _ _ _ := .cons (.sc _) .nil
  ld _ _ _ := .cons (.sc _) .nil
instance : Cl Bool where
  e := 1
  c _ b := [.sc (.bool b)]
  d := false
  pos := by decide
  len _ _ := rfl
  leaf _ _ := rfl
  nors _ _ := rfl
  fresh _ := rfl
  tr _ _ _ _ _ := .cons (.sc _) .nil
  ld _ _ _ := .cons (.sc _) .nil
/-- Numbers of another kind. -/
structure NU64 where
  n : Int
  deriving DecidableEq
instance : Cl NU64 where
  e := 1
  c _ x := [.sc (.int .u64 x.n)]
  d := ⟨0⟩
  pos := by decide
  len _ _ := rfl
  leaf _ _ := rfl
  nors _ _ := rfl
  fresh _ := rfl
  tr _ _ _ _ _ := .cons (.sc _) .nil
  ld _ _ _ := .cons (.sc _) .nil
/-- Numbers of another kind. -/
structure NU32 where
  n : Int
  deriving DecidableEq
instance : Cl NU32 where
  e := 1
  c _ x := [.sc (.int .u32 x.n)]
  d := ⟨0⟩
  pos := by decide
  len _ _ := rfl
  leaf _ _ := rfl
  nors _ _ := rfl
  fresh _ := rfl
  tr _ _ _ _ _ := .cons (.sc _) .nil
  ld _ _ _ := .cons (.sc _) .nil
/-- Numbers of another kind. -/
structure NU16 where
  n : Int
  deriving DecidableEq
instance : Cl NU16 where
  e := 1
  c _ x := [.sc (.int .u16 x.n)]
  d := ⟨0⟩
  pos := by decide
  len _ _ := rfl
  leaf _ _ := rfl
  nors _ _ := rfl
  fresh _ := rfl
  tr _ _ _ _ _ := .cons (.sc _) .nil
  ld _ _ _ := .cons (.sc _) .nil
/-- Numbers of another kind. -/
structure NU8 where
  n : Int
  deriving DecidableEq
instance : Cl NU8 where
  e := 1
  c _ x := [.sc (.int .u8 x.n)]
  d := ⟨0⟩
  pos := by decide
  len _ _ := rfl
  leaf _ _ := rfl
  nors _ _ := rfl
  fresh _ := rfl
  tr _ _ _ _ _ := .cons (.sc _) .nil
  ld _ _ _ := .cons (.sc _) .nil
/-- Numbers of another kind. -/
structure NI32 where
  n : Int
  deriving DecidableEq
instance : Cl NI32 where
  e := 1
  c _ x := [.sc (.int .i32 x.n)]
  d := ⟨0⟩
  pos := by decide
  len _ _ := rfl
  leaf _ _ := rfl
  nors _ _ := rfl
  fresh _ := rfl
  tr _ _ _ _ _ := .cons (.sc _) .nil
  ld _ _ _ := .cons (.sc _) .nil
/-- Numbers of another kind. -/
structure NI16 where
  n : Int
  deriving DecidableEq
instance : Cl NI16 where
  e := 1
  c _ x := [.sc (.int .i16 x.n)]
  d := ⟨0⟩
  pos := by decide
  len _ _ := rfl
  leaf _ _ := rfl
  nors _ _ := rfl
  fresh _ := rfl
  tr _ _ _ _ _ := .cons (.sc _) .nil
  ld _ _ _ := .cons (.sc _) .nil
/-- Numbers of another kind. -/
structure NI8 where
  n : Int
  deriving DecidableEq
instance : Cl NI8 where
  e := 1
  c _ x := [.sc (.int .i8 x.n)]
  d := ⟨0⟩
  pos := by decide
  len _ _ := rfl
  leaf _ _ := rfl
  nors _ _ := rfl
  fresh _ := rfl
  tr _ _ _ _ _ := .cons (.sc _) .nil
  ld _ _ _ := .cons (.sc _) .nil
theorem freshs_app' (a b : List V) : V.freshs (a ++ b) = (V.freshs a && V.freshs b) := by simp [freshs_eq]
instance {α β : Type} [Cl α] [Cl β] : Cl (α × β) where
  e := Cl.e α + Cl.e β
  c nw x := Cl.c nw x.1 ++ Cl.c nw x.2
  d := (Cl.d, Cl.d)
  pos := by have := Cl.pos (α := α); omega
  len nw x := by rw [List.length_append, Cl.len, Cl.len]
  leaf nw x := by rw [List.all_append, Cl.leaf, Cl.leaf]; rfl
  nors nw x := by rw [nors_app, Cl.nors, Cl.nors]; rfl
  fresh x := by rw [freshs_app', Cl.fresh, Cl.fresh]; rfl
  tr H nw nw' x h := (Cl.tr H nw nw' _ h).append (Cl.tr H nw nw' _ h)
  ld H nw x := (Cl.ld H nw _).append (Cl.ld H nw _)
/-- A slice of things: its length, its cells. -/
def rowV {α : Type} [Cl α] (nw : Bool) (xs : List α) : V := .lst nw (Cl.e α) xs.length (xs.flatMap (Cl.c nw))
instance {α : Type} [Cl α] : Cl (List α) where
  e := 1
  c nw xs := [.lst nw (Cl.e α) xs.length (xs.flatMap (Cl.c nw))]
  d := []
  pos := by decide
  len _ _ := rfl
  leaf _ _ := rfl
  nors nw xs := by simp [V.nors, V.nor, flat_nors]
  fresh xs := by simp [V.freshs, V.fresh, flat_fresh]
  tr H nw nw' xs h := .cons (.lst h (flat_tr H nw nw' h xs) (flat_leaf _ _)) .nil
  ld H nw xs := .cons (.lst (flat_ld H nw xs) (flat_leaf _ _)) .nil
/-- A type that is another one, by other names. -/
@[reducible] def Cl.iso {α β : Type} [Cl β] (f : α → β) (d0 : α) : Cl α where
  e := Cl.e β
  c nw x := Cl.c nw (f x)
  d := d0
  pos := Cl.pos
  len nw x := Cl.len nw _
  leaf nw x := Cl.leaf nw _
  nors nw x := Cl.nors nw _
  fresh x := Cl.fresh _
  tr H nw nw' x h := Cl.tr H nw nw' _ h
  ld H nw x := Cl.ld H nw _
end Go.Abs
