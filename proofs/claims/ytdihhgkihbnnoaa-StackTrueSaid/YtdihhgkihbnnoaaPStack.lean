/- Laws of the plain functions. Conditions: as each theorem states them. -/
import Derived.Test.YtdihhgkihbnnoaaPField
/- Stacks of fields. -/
namespace Lf
open Go Go.Abs
set_option linter.unusedVariables false
set_option linter.unusedSimpArgs false
def sumI (f : Int → Int) : Nat → Int
  | 0 => 0
  | n + 1 => sumI f n + f n
theorem sumI_congr {f g : Int → Int} : ∀ {n : Nat}, (∀ j : Int, 0 ≤ j → j < n → f j = g j) → sumI f n = sumI g n
  | 0, _ => rfl
  | n + 1, h => by
    unfold sumI
    rw [sumI_congr fun j j0 j1 => h j j0 (by omega), h n (by omega) (by omega)]
theorem sumI_snoc {α : Type} [Cl α] (g : α → Int) (a : List α) (c : α) : sumI (fun j => g (gt (a ++ [c]) j)) (a ++ [c]).length = sumI (fun j => g (gt a j)) a.length + g c := by
  have e : (a ++ [c]).length = a.length + 1 := by simp
  rw [e, sumI, gt_snoc_eq rfl]
  congr 1
  exact sumI_congr fun j j0 j1 => by rw [gt_snoc_lt j0 j1]
def unk (i : Int) (c : Cells) : Int := if (gt c.At i).Unknown = true then 1 else 0
def klo (i : Int) (c : Cells) : Int := if (gt c.At i).Unknown = true then 0 else (gt c.At i).Lo
def khi (i : Int) (c : Cells) : Int := if (gt c.At i).Unknown = true then 0 else (gt c.At i).Hi
def hol (a : List Cells) (i : Int) : Int := sumI (fun j => unk i (gt a j)) a.length
def slo (a : List Cells) (i : Int) : Int := sumI (fun j => klo i (gt a j)) a.length
def shi (a : List Cells) (i : Int) : Int := sumI (fun j => khi i (gt a j)) a.length
/-- A valid field of a size. -/
structure fld (w h : Int) (c : Cells) : Prop where
  f : okF c
  ew : c.W = w
  eh : c.H = h
/-- A stack of some fields. -/
structure stk (s : stack_Stack) (w h : Int) (a : List Cells) : Prop where
  ew : s.W = w
  eh : s.H = h
  n : s.N = a.length
  hl : (s.Holes.length : Int) = w * h
  al : (s.At.length : Int) = w * h
  hole : allI s.Holes fun i x => x = hol a i
  at_ : allI s.At fun i b => b = ⟨slo a i, shi a i, false⟩
/-- What is known of sums of so many cells. -/
theorem sums_bd {a : List Cells} {w h i : Int} (hf : ∀ c ∈ a, fld w h c) (i0 : 0 ≤ i) (i1 : i < w * h) : ∀ n : Nat, n ≤ a.length →
    0 ≤ sumI (fun j => unk i (gt a j)) n ∧ sumI (fun j => unk i (gt a j)) n ≤ n ∧ -(1099511627776 * (n - sumI (fun j => unk i (gt a j)) n)) ≤ sumI (fun j => klo i (gt a j)) n ∧ sumI (fun j => klo i (gt a j)) n ≤ sumI (fun j => khi i (gt a j)) n ∧ sumI (fun j => khi i (gt a j)) n ≤ 1099511627776 * (n - sumI (fun j => unk i (gt a j)) n)
  | 0, _ => by simp [sumI]
  | n + 1, hn => by
    have ih := sums_bd hf i0 i1 n (by omega)
    have fc := hf _ (gt_mem a n ⟨by omega, by omega⟩)
    have hc := fc.f.cell _ (gt_mem (gt a (n : Int)).At i ⟨i0, by rw [fc.f.len, fc.ew, fc.eh]; exact i1⟩)
    have hle := hc.1.le
    simp only [sumI]
    have e : (gt (gt a (n : Int)).At i).Unknown = true ∨ (gt (gt a (n : Int)).At i).Unknown = false := by cases (gt (gt a (n : Int)).At i).Unknown <;> simp
    unfold unk klo khi at *
    rcases e with e | e
    · simp only [e, if_true]
      omega
    · simp only [e, Bool.false_eq_true, if_false]
      omega
theorem stk_bd {a : List Cells} {w h i : Int} (hf : ∀ c ∈ a, fld w h c) (i0 : 0 ≤ i) (i1 : i < w * h) :
    0 ≤ hol a i ∧ hol a i ≤ a.length ∧ -(1099511627776 * (a.length - hol a i)) ≤ slo a i ∧ slo a i ≤ shi a i ∧ shi a i ≤ 1099511627776 * (a.length - hol a i) := sums_bd hf i0 i1 a.length (Nat.le_refl _)
/-- A size that fields may have. -/
structure size (w h : Int) : Prop where
  w0 : 1 ≤ w
  w1 : w ≤ 32
  h0 : 1 ≤ h
  h1 : h ≤ 32
theorem size.n {w h : Int} (z : size w h) : 1 ≤ w * h ∧ w * h ≤ 1024 := area z.w0 z.w1 z.h0 z.h1
theorem stackCheck_ok {s : stack_Stack} {w h : Int} {a : List Cells} (z : size w h) (hs : stk s w h a) (hf : ∀ c ∈ a, fld w h c) (ha : a.length ≤ 8) : stack_Check s = some 0 := by
  have zn := z.n
  have e : w6 (s.W * s.H) = w * h := by rw [hs.ew, hs.eh]; exact w6_in (by omega)
  apply Has.val
  unfold stack_Check
  rw [e, hs.al, hs.hl, hs.ew, hs.eh, hs.n]
  have z1 := z.w0; have z2 := z.w1; have z3 := z.h0; have z4 := z.h1
  have g1 : decide (w < 1) = false := decide_eq_false (by omega)
  have g2 : decide (w > 32) = false := decide_eq_false (by omega)
  have g3 : decide (h < 1) = false := decide_eq_false (by omega)
  have g4 : decide (h > 32) = false := decide_eq_false (by omega)
  have g5 : decide ((a.length : Int) < 0) = false := decide_eq_false (by omega)
  have g6 : decide ((a.length : Int) > 8) = false := decide_eq_false (by omega)
  simp only [g1, g2, g3, g4, g5, g6, ite_or, Bool.false_or, bne_self_eq_false, Option.bind_some, Bool.false_eq_true, if_false]
  refine Has.seq (P := fun t : Step Unit Int => t = .next ()) ?_ (fun _ _ => Has.ret rfl) (fun o ho => by cases ho)
  refine Has.loop (fun i : Int => 0 ≤ i ∧ i ≤ s.At.length) (fun i => (s.At.length - i).toNat) (fun t : Step Unit Int => t = .next ()) ⟨Int.le_refl _, by omega⟩ (by have := hs.al; omega) fun i ⟨i1, i2⟩ => ?_
  unfold stack_Check.l1
  refine Has.ite (fun hi => ?_) fun hi => Has.ret (.done rfl)
  have hi : i < s.At.length := of_decide_eq_true hi
  have hal := hs.al; have hhl := hs.hl
  have eb : gt s.At i = ⟨slo a i, shi a i, false⟩ := hs.at_ i i1 hi
  have eh : gt s.Holes i = hol a i := hs.hole i i1 (by omega)
  obtain ⟨b1, b2, b3, b4, b5⟩ := stk_bd hf i1 (show i < w * h by omega)
  rw [eb, eh, hs.n]
  have ok : Bound.ok ⟨slo a i, shi a i, false⟩ := okKnown (by omega) b4 (by omega)
  rw [check_ok ok]
  refine Has.chk ⟨i1, hi⟩ ?_
  simp only [Option.bind_some, bne_self_eq_false, Bool.false_eq_true, if_false]
  refine Has.chk ⟨i1, by omega⟩ ?_
  rw [w6_in (n := (a.length : Int) - hol a i) (by omega), w6_in (n := ((a.length : Int) - hol a i) * 1099511627776) (by omega), w6_in (n := 0 - ((a.length : Int) - hol a i) * 1099511627776) (by omega), w6_in (n := i + 1) (by omega)]
  have k1 : decide ((a.length : Int) - hol a i < 0) = false := decide_eq_false (by omega)
  have k2 : decide ((a.length : Int) - hol a i > a.length) = false := decide_eq_false (by omega)
  have k3 : decide (slo a i < 0 - ((a.length : Int) - hol a i) * 1099511627776) = false := decide_eq_false (by omega)
  have k4 : decide (shi a i > ((a.length : Int) - hol a i) * 1099511627776) = false := decide_eq_false (by omega)
  simp only [Abs.letF, k1, k2, k3, k4, Bool.false_eq_true, if_false, Option.bind_some]
  exact Has.ret (.next ⟨by omega, by omega⟩ (by omega))
theorem stackFit_ok {s : stack_Stack} {w h : Int} {a : List Cells} {c : Cells} (z : size w h) (hs : stk s w h a) (hf : ∀ c ∈ a, fld w h c) (ha : a.length ≤ 8) (hc : fld w h c) : stack_fit s c = some 0 := by
  unfold stack_fit
  rw [stackCheck_ok z hs hf ha, findCheck_ok hc.f, hs.ew, hs.eh, hc.ew, hc.eh]
  simp
theorem cloneI_ok {l : List Int} (h : l ≠ []) (hl : l.length ≤ 1000000) : slices_Clone_Int l = some l := by
  apply Has.val
  unfold slices_Clone_Int nilF
  cases l with
  | nil => exact absurd rfl h
  | cons x xs =>
    refine Has.bind (P := fun z => z = false) (Has.ret rfl) fun z hz => Has.neg (by rw [hz]; simp) (Has.chk (roomyI (by simp only [List.length_nil]; omega) (by simp only [List.length_nil]; omega)) (Has.ret rfl))
theorem cloneB_ok {l : List Bound} (h : l ≠ []) (hl : l.length ≤ 1000000) : slices_Clone_Bound l = some l := by
  apply Has.val
  unfold slices_Clone_Bound nilF
  cases l with
  | nil => exact absurd rfl h
  | cons x xs =>
    refine Has.bind (P := fun z => z = false) (Has.ret rfl) fun z hz => Has.neg (by rw [hz]; simp) (Has.chk (roomyI (by simp only [List.length_nil]; omega) (by simp only [List.length_nil]; omega)) (Has.ret rfl))
theorem copied_ok {s : stack_Stack} {w h : Int} {a : List Cells} (z : size w h) (hs : stk s w h a) : stack_copied s = some s := by
  have zn := z.n
  have h1 := hs.hl; have h2 := hs.al
  unfold stack_copied
  rw [cloneI_ok (fun e => by rw [e] at h1; simp at h1; omega) (by omega), cloneB_ok (fun e => by rw [e] at h2; simp at h2; omega) (by omega)]
  rfl
theorem stackNew_ok {w h : Int} (z : size w h) : Has (stack_New w h) fun r => r.2 = 0 ∧ stk r.1 w h [] := by
  have zn := z.n
  have z1 := z.w0; have z2 := z.w1; have z3 := z.h0; have z4 := z.h1
  unfold stack_New
  rw [w6_in (n := w * h) (by omega)]
  have g1 : decide (w < 1) = false := decide_eq_false (by omega)
  have g2 : decide (w > 32) = false := decide_eq_false (by omega)
  have g3 : decide (h < 1) = false := decide_eq_false (by omega)
  have g4 : decide (h > 32) = false := decide_eq_false (by omega)
  simp only [g1, g2, g3, g4, ite_or, Bool.false_or, Option.bind_some, Bool.false_eq_true, if_false]
  exact Has.chk ⟨by omega, Int.le_refl _, roomyI (by omega) (by omega)⟩ (Has.chk ⟨by omega, Int.le_refl _, roomyI (by omega) (by omega)⟩ (Has.ret ⟨rfl, rfl, rfl, rfl, by simp; omega, by simp; omega, allI_rep fun i _ _ => rfl, allI_rep fun i _ _ => rfl⟩))
theorem stackAdd_ok {s : stack_Stack} {w h : Int} {a : List Cells} {c : Cells} (z : size w h) (hs : stk s w h a) (hf : ∀ c ∈ a, fld w h c) (ha : a.length < 8) (hc : fld w h c) :
    Has (stack_Add s c) fun r => r.2 = 0 ∧ stk r.1 w h (a ++ [c]) := by
  have zn := z.n
  have hal := hs.al; have hhl := hs.hl
  have hcl : (c.At.length : Int) = w * h := by rw [hc.f.len, hc.ew, hc.eh]
  unfold stack_Add
  rw [stackFit_ok z hs hf (by omega) hc, copied_ok z hs, hs.n]
  simp only [Option.bind_some, bne_self_eq_false, Bool.false_eq_true, if_false]
  refine Has.neg (by simp; omega) ?_
  have sh : ∀ i, hol (a ++ [c]) i = hol a i + unk i c := fun i => sumI_snoc (unk i) a c
  have sl : ∀ i, slo (a ++ [c]) i = slo a i + klo i c := fun i => sumI_snoc (klo i) a c
  have su : ∀ i, shi (a ++ [c]) i = shi a i + khi i c := fun i => sumI_snoc (khi i) a c
  refine (Has.loop (fun t : List Int × List Bound × Int => 0 ≤ t.2.2 ∧ t.2.2 ≤ c.At.length ∧ (t.1.length : Int) = w * h ∧ (t.2.1.length : Int) = w * h ∧ (allI t.1 fun i x => x = if i < t.2.2 then hol (a ++ [c]) i else hol a i) ∧ allI t.2.1 fun i b => b = if i < t.2.2 then ⟨slo (a ++ [c]) i, shi (a ++ [c]) i, false⟩ else ⟨slo a i, shi a i, false⟩) (fun t => (c.At.length - t.2.2).toNat)
    (fun o : List Int × List Bound => (o.1.length : Int) = w * h ∧ (o.2.length : Int) = w * h ∧ (allI o.1 fun i x => x = hol (a ++ [c]) i) ∧ allI o.2 fun i b => b = ⟨slo (a ++ [c]) i, shi (a ++ [c]) i, false⟩) ⟨Int.le_refl _, by simp only []; omega, hhl, hal, allI_mono hs.hole fun i x i0 i1 hx => by rw [if_neg (by simp only []; omega)]; exact hx, allI_mono hs.at_ fun i x i0 i1 hx => by rw [if_neg (by simp only []; omega)]; exact hx⟩ (by simp only []; omega) fun t ⟨t1, t2, t3, t4, t5, t6⟩ => ?_).bind
    fun o ⟨o1, o2, o3, o4⟩ => Has.ret ⟨rfl, hs.ew, hs.eh, by simp only []; rw [hs.n, w6_in (by omega)]; simp, o1, o2, o3, o4⟩
  unfold stack_Add.l1
  refine Has.ite (fun hi => ?_) fun hi => ?_
  · have hi : t.2.2 < c.At.length := of_decide_eq_true hi
    obtain ⟨b1, b2, b3, b4, b5⟩ := stk_bd hf t1 (show t.2.2 < w * h by omega)
    obtain ⟨c1, c2, c3⟩ := hc.f.cell _ (gt_mem c.At t.2.2 ⟨t1, hi⟩)
    have cle := c1.le
    have e5 : gt t.1 t.2.2 = hol a t.2.2 := by rw [t5 t.2.2 t1 (by omega), if_neg (by omega)]
    have e6 : gt t.2.1 t.2.2 = ⟨slo a t.2.2, shi a t.2.2, false⟩ := by rw [t6 t.2.2 t1 (by omega), if_neg (by omega)]
    rw [e5, e6]
    refine Has.bind (P := fun o : List Int × List Bound => (o.1.length : Int) = w * h ∧ (o.2.length : Int) = w * h ∧ (allI o.1 fun i x => x = if i < t.2.2 + 1 then hol (a ++ [c]) i else hol a i) ∧ allI o.2 fun i b => b = if i < t.2.2 + 1 then ⟨slo (a ++ [c]) i, shi (a ++ [c]) i, false⟩ else ⟨slo a i, shi a i, false⟩) (Has.chk ⟨t1, hi⟩ (Has.ite (fun hu => ?_) fun hu => ?_)) fun o ⟨o1, o2, o3, o4⟩ => ?_
    · have hu : (gt c.At t.2.2).Unknown = true := hu
      refine Has.chk ⟨t1, by omega⟩ (Has.ret ⟨by simp only [List.length_set]; exact t3, t4, ?_, ?_⟩)
      · refine allI_upd t5 t1 (fun j x j0 j1 jn hx => ?_) ?_
        · rw [hx]
          by_cases e : j < t.2.2
          · rw [if_pos e, if_pos (by omega)]
          · rw [if_neg e, if_neg (by omega)]
        · rw [if_pos (by omega), w6_in (by omega), sh]
          unfold unk; rw [if_pos hu]
      · refine allI_mono t6 fun j x j0 j1 hx => ?_
        rw [hx]
        by_cases e : j < t.2.2
        · rw [if_pos e, if_pos (by omega)]
        · rw [if_neg e]
          by_cases e2 : j = t.2.2
          · rw [e2, if_pos (by omega), sl, su]
            unfold klo khi
            rw [if_pos hu, if_pos hu]; simp
          · rw [if_neg (by omega)]
    · have hu : (gt c.At t.2.2).Unknown = false := by simpa using hu
      have hun : ¬ (gt c.At t.2.2).Unknown = true := by rw [hu]; simp
      refine Has.chk ⟨t1, by omega⟩ ?_
      rw [add_known (okKnown (by omega) b4 (by omega)) c1 rfl hu (by simp only []; omega) (by simp only []; omega)]
      refine Has.ret ⟨t3, by simp only [List.length_set]; exact t4, ?_, ?_⟩
      · refine allI_mono t5 fun j x j0 j1 hx => ?_
        rw [hx]
        by_cases e : j < t.2.2
        · rw [if_pos e, if_pos (by omega)]
        · rw [if_neg e]
          by_cases e2 : j = t.2.2
          · rw [e2, if_pos (by omega), sh]
            unfold unk; rw [if_neg hun]; simp
          · rw [if_neg (by omega)]
      · refine allI_upd t6 t1 (fun j x j0 j1 jn hx => ?_) ?_
        · rw [hx]
          by_cases e : j < t.2.2
          · rw [if_pos e, if_pos (by omega)]
          · rw [if_neg e, if_neg (by omega)]
        · rw [if_pos (by omega), sl, su]
          unfold klo khi
          rw [if_neg hun, if_neg hun]
    · rw [w6_in (by omega)]
      exact Has.ret (.next ⟨by simp only []; omega, by simp only []; omega, o1, o2, o3, o4⟩ (by simp only []; omega))
  · have hi : ¬ t.2.2 < c.At.length := fun q => hi (decide_eq_true q)
    exact Has.ret (.done ⟨t3, t4, allI_mono t5 fun i x i0 i1 hx => by rw [hx, if_pos (by have : i < (t.1.length : Int) := i1; omega)], allI_mono t6 fun i x i0 i1 hx => by rw [hx, if_pos (by have : i < (t.2.1.length : Int) := i1; omega)]⟩)
end Lf
