/- Laws of the plain functions. Conditions: as each theorem states them. -/
import Derived.Test.YtdihhgkihbnnoaaPStack
import Derived.Test.YtdihhgkihbnnoaaPScale
/- Stacks of fields: what is read off them. -/
namespace Lf
open Go Go.Abs
set_option linter.unusedVariables false
set_option linter.unusedSimpArgs false
theorem take_snoc {α : Type} [Cl α] (l : List α) {i : Int} (i0 : 0 ≤ i) (i1 : i < l.length) : l.take (i + 1).toNat = l.take i.toNat ++ [gt l i] := by
  have e : (i + 1).toNat = i.toNat + 1 := by omega
  rw [e, gt_def l i ⟨i0, i1⟩, List.take_add_one, List.getElem?_eq_getElem (by omega)]
  rfl
theorem mem_take {α : Type} {l : List α} {n : Nat} {x : α} (h : x ∈ l.take n) : x ∈ l := List.mem_of_mem_take h
theorem added_ok {w h : Int} {l : List Cells} (z : size w h) (hf : ∀ c ∈ l, fld w h c) (hl : l.length ≤ 8) : Has (spykeep4_added w h l) fun r => r.2 = 0 ∧ stk r.1 w h l := by
  unfold spykeep4_added
  refine (stackNew_ok z).bind fun r ⟨r1, r2⟩ => ?_
  refine (Has.loop (fun s : stack_Stack × Int × Int => 0 ≤ s.2.2 ∧ s.2.2 ≤ l.length ∧ s.2.1 = 0 ∧ stk s.1 w h (l.take s.2.2.toNat)) (fun s => (l.length - s.2.2).toNat) (fun o : stack_Stack × Int => o.2 = 0 ∧ stk o.1 w h l) ⟨Int.le_refl _, by simp only []; omega, r1, r2⟩ (by simp only []; omega) fun s ⟨s1, s2, s3, s4⟩ => ?_).bind fun o ho => Has.ret ho
  unfold spykeep4_added.l1
  refine Has.ite (fun hi => ?_) fun hi => ?_
  · have hi : s.2.2 < l.length := of_decide_eq_true hi
    rw [s3, w6_in (n := s.2.2 + 1) (by omega)]
    refine Has.bind (P := fun o : stack_Stack × Int => o.2 = 0 ∧ stk o.1 w h (l.take (s.2.2 + 1).toNat)) (Has.chk ⟨s1, hi⟩ (Has.pos rfl ((stackAdd_ok z s4 (fun c hc => hf c (mem_take hc)) (by simp; omega) (hf _ (gt_mem l s.2.2 ⟨s1, hi⟩))).bind fun q ⟨q1, q2⟩ => Has.ret ⟨q1, ?_⟩))) fun o ⟨o1, o2⟩ => Has.ret (.next ⟨by simp only []; omega, by simp only []; omega, o1, o2⟩ (by simp only []; omega))
    rw [take_snoc l s1 hi]; exact q2
  · have hi : ¬ s.2.2 < l.length := fun q => hi (decide_eq_true q)
    rw [List.take_of_length_le (by omega)] at s4
    exact Has.ret (.done ⟨s3, s4⟩)
def totB (a : List Cells) (i : Int) : Bound := if hol a i > 0 then ⟨0, 0, true⟩ else ⟨slo a i, shi a i, false⟩
def meanB (a : List Cells) (i : Int) : Bound := if hol a i = a.length then ⟨0, 0, true⟩ else ⟨slo a i / (a.length - hol a i), cdiv (shi a i) (a.length - hol a i), false⟩
/-- A field, cell by cell. -/
structure isF (c : Cells) (w h : Int) (f : Int → Bound) : Prop where
  ew : c.W = w
  eh : c.H = h
  len : (c.At.length : Int) = w * h
  at_ : allI c.At fun i b => b = f i
theorem isF.eq {c d : Cells} {w h : Int} {f g : Int → Bound} (hc : isF c w h f) (hd : isF d w h g) (e : ∀ i : Int, 0 ≤ i → i < w * h → f i = g i) : c = d := by
  have e1 : c.W = d.W := by rw [hc.ew, hd.ew]
  have e2 : c.H = d.H := by rw [hc.eh, hd.eh]
  have e3 : c.At = d.At := gt_ext (by have := hc.len; have := hd.len; omega) fun i i0 i1 => by
    have l1 := hc.len; have l2 := hd.len
    rw [hc.at_ i i0 i1, hd.at_ i i0 (by omega), e i i0 (by omega)]
  cases c; cases d
  simp only [] at e1 e2 e3
  rw [e1, e2, e3]
theorem total_ok {s : stack_Stack} {w h : Int} {a : List Cells} (z : size w h) (hs : stk s w h a) (hf : ∀ c ∈ a, fld w h c) (ha : a.length ≤ 8) : Has (stack_Total s) fun r => r.2 = 0 ∧ isF r.1 w h (totB a) := by
  have zn := z.n
  have hal := hs.al; have hhl := hs.hl
  unfold stack_Total stack_each_stack_Total_1
  rw [stackCheck_ok z hs hf ha]
  simp only [Option.bind_some, bne_self_eq_false, Bool.false_eq_true, if_false]
  refine Has.bind (P := fun r : Cells × Int => r.2 = 0 ∧ isF r.1 w h (totB a)) (Has.bind (P := fun l : List Bound => (l.length : Int) = w * h ∧ allI l fun i b => b = totB a i) ?_ fun l ⟨l1, l2⟩ => Has.ret ⟨rfl, hs.ew, hs.eh, l1, l2⟩) fun r hr => Has.ret hr
  refine Has.loop (fun t : List Bound × Int => 0 ≤ t.2 ∧ t.2 ≤ s.At.length ∧ (t.1.length : Int) = t.2 ∧ allI t.1 fun i b => b = totB a i) (fun t => (s.At.length - t.2).toNat) _ ⟨Int.le_refl _, by simp only []; omega, rfl, allI_nil⟩ (by simp only []; omega) fun t ⟨t1, t2, t3, t4⟩ => ?_
  unfold stack_each_stack_Total_1.l1
  refine Has.ite (fun hi => ?_) fun hi => ?_
  · have hi : t.2 < s.At.length := of_decide_eq_true hi
    rw [w6_in (n := t.2 + 1) (by omega)]
    refine Has.bind (P := fun b => b = totB a t.2) ?_ fun b hb => Has.chk (roomyI (by simp; omega) (by simp; omega)) (Has.ret (.next ⟨by simp only []; omega, by simp only []; omega, by simp; omega, allI_snoc t4 (by rw [hb, t3])⟩ (by simp only []; omega)))
    unfold stack_Total_1 totB
    rw [hs.hole t.2 t1 (by omega), hs.at_ t.2 t1 hi]
    refine Has.chk ⟨t1, by omega⟩ (Has.ite (fun hh => ?_) fun hh => ?_)
    · rw [if_pos (of_decide_eq_true hh)]; exact Has.ret rfl
    · rw [if_neg fun q => hh (decide_eq_true q)]; exact Has.chk ⟨t1, hi⟩ (Has.ret rfl)
  · have hi : ¬ t.2 < s.At.length := fun q => hi (decide_eq_true q)
    exact Has.ret (.done ⟨by omega, t4⟩)
theorem mean_ok {s : stack_Stack} {w h : Int} {a : List Cells} (z : size w h) (hs : stk s w h a) (hf : ∀ c ∈ a, fld w h c) (ha : a.length ≤ 8) : Has (stack_Mean s) fun r => r.2 = 0 ∧ isF r.1 w h (meanB a) := by
  have zn := z.n
  have hal := hs.al; have hhl := hs.hl
  unfold stack_Mean stack_each_stack_Mean_1
  rw [stackCheck_ok z hs hf ha]
  simp only [Option.bind_some, bne_self_eq_false, Bool.false_eq_true, if_false]
  refine Has.bind (P := fun r : Cells × Int => r.2 = 0 ∧ isF r.1 w h (meanB a)) (Has.bind (P := fun l : List Bound => (l.length : Int) = w * h ∧ allI l fun i b => b = meanB a i) ?_ fun l ⟨l1, l2⟩ => Has.ret ⟨rfl, hs.ew, hs.eh, l1, l2⟩) fun r hr => Has.ret hr
  refine Has.loop (fun t : List Bound × Int => 0 ≤ t.2 ∧ t.2 ≤ s.At.length ∧ (t.1.length : Int) = t.2 ∧ allI t.1 fun i b => b = meanB a i) (fun t => (s.At.length - t.2).toNat) _ ⟨Int.le_refl _, by simp only []; omega, rfl, allI_nil⟩ (by simp only []; omega) fun t ⟨t1, t2, t3, t4⟩ => ?_
  unfold stack_each_stack_Mean_1.l1
  refine Has.ite (fun hi => ?_) fun hi => ?_
  · have hi : t.2 < s.At.length := of_decide_eq_true hi
    rw [w6_in (n := t.2 + 1) (by omega)]
    refine Has.bind (P := fun b => b = meanB a t.2) ?_ fun b hb => Has.chk (roomyI (by simp; omega) (by simp; omega)) (Has.ret (.next ⟨by simp only []; omega, by simp only []; omega, by simp; omega, allI_snoc t4 (by rw [hb, t3])⟩ (by simp only []; omega)))
    obtain ⟨b1, b2, b3, b4, b5⟩ := stk_bd hf t1 (show t.2 < w * h by omega)
    unfold stack_Mean_1 meanB
    rw [hs.hole t.2 t1 (by omega), hs.at_ t.2 t1 hi, hs.n]
    refine Has.chk ⟨t1, by omega⟩ (Has.ite (fun hh => ?_) fun hh => ?_)
    · rw [if_pos (by simpa using hh)]; exact Has.ret rfl
    · have hh : ¬ hol a t.2 = a.length := by simpa using hh
      have hk : 1 ≤ (a.length : Int) - hol a t.2 := by omega
      rw [if_neg hh, w6_in (n := (a.length : Int) - hol a t.2) (by omega), scale_known _ 1 _ (okKnown (by omega) b4 (by omega)) rfl (by omega) ⟨hk, by omega⟩]
      simp only [Int.mul_one]
      have q1 : -8796093022208 ≤ slo a t.2 / (a.length - hol a t.2) := by
        rw [Int.le_ediv_iff_mul_le (by omega)]
        omega
      have q2 : cdiv (shi a t.2) (a.length - hol a t.2) ≤ 8796093022208 := by
        unfold cdiv
        have : -8796093022208 ≤ (-(shi a t.2)) / (a.length - hol a t.2) := by
          rw [Int.le_ediv_iff_mul_le (by omega)]
          omega
        omega
      rw [if_pos (show fitB (slo a t.2 / (a.length - hol a t.2)) (cdiv (shi a t.2) (a.length - hol a t.2)) from ⟨by omega, by omega⟩)]
      exact Has.chk ⟨t1, hi⟩ (Has.ret rfl)
  · have hi : ¬ t.2 < s.At.length := fun q => hi (decide_eq_true q)
    exact Has.ret (.done ⟨by omega, t4⟩)
theorem all_ok {w h : Int} {l : List Cells} (z : size w h) (hf : ∀ c ∈ l, fld w h c) (hn : 1 ≤ l.length) (hl : l.length ≤ 8) : Has (stack_All l) fun r => r.2 = 0 ∧ isF r.1 w h (totB l) := by
  have f0 := hf _ (gt_mem l 0 ⟨by omega, by omega⟩)
  unfold stack_All
  rw [f0.ew, f0.eh]
  refine Has.neg (by simp only [beq_iff_eq]; omega) (Has.neg (by simp; omega) (Has.chk ⟨by omega, by omega⟩ ((stackNew_ok z).bind fun r ⟨r1, r2⟩ => ?_)))
  refine Has.seq (P := fun t : Step (stack_Stack × Int) (Cells × Int) => ∃ o, t = .next o ∧ o.2 = 0 ∧ stk o.1 w h l) ?_ (fun o ⟨o', e, o1, o2⟩ => ?_) (fun o ⟨o', e, _⟩ => by cases e)
  · refine Has.loop (fun s : stack_Stack × Int × Int => 0 ≤ s.2.2 ∧ s.2.2 ≤ l.length ∧ s.2.1 = 0 ∧ stk s.1 w h (l.take s.2.2.toNat)) (fun s => (l.length - s.2.2).toNat) _ ⟨Int.le_refl _, by simp only []; omega, r1, r2⟩ (by simp only []; omega) fun s ⟨s1, s2, s3, s4⟩ => ?_
    unfold stack_All.l1
    refine Has.ite (fun hi => ?_) fun hi => ?_
    · have hi : s.2.2 < l.length := of_decide_eq_true hi
      rw [s3, w6_in (n := s.2.2 + 1) (by omega)]
      refine Has.chk ⟨s1, hi⟩ (Has.neg (by simp) ((stackAdd_ok z s4 (fun c hc => hf c (mem_take hc)) (by simp; omega) (hf _ (gt_mem l s.2.2 ⟨s1, hi⟩))).bind fun q ⟨q1, q2⟩ => Has.ret (.next ⟨by simp only []; omega, by simp only []; omega, q1, ?_⟩ (by simp only []; omega))))
      simp only []
      rw [take_snoc l s1 hi]; exact q2
    · have hi : ¬ s.2.2 < l.length := fun q => hi (decide_eq_true q)
      rw [List.take_of_length_le (by omega)] at s4
      exact Has.ret (.done ⟨_, rfl, s3, s4⟩)
  · cases e
    rw [o1]
    exact Has.neg (by simp) ((total_ok z o2 hf hl).bind fun r hr => Has.ret hr)
end Lf
