/- Laws of the plain functions. Conditions: as each theorem states them. -/
import Derived.Test.YtfkpgkaalaobbaaD
import Derived.Test.YtfkpgkaalaobbaaA4
/- Plain facts of streams and bounds, for the functions of CgrD. -/
namespace Lf
open Go Go.Abs
set_option linter.unusedVariables false
set_option linter.unusedSimpArgs false
/-! streams -/
/-- What a stream must be. -/
structure okS (s : spymake_Stream) : Prop where
  z : ∀ z ∈ s.L, -9223372036854775808 ≤ z ∧ z ≤ 9223372036854775807
  len : s.L.length ≤ 17592186044416
  a0 : 0 ≤ s.at_
  a1 : s.at_ ≤ 4611686018427387904
theorem okS.start {l : List Int} (h : okL l) : okS (spymake_Stream.mk l 0) := ⟨h.z, by have := h.len; simp only []; omega, Int.le_refl _, by simp only []; omega⟩
/-- What is true of a stream that another one has become. -/
structure after (s t : spymake_Stream) (k : Int) : Prop where
  L : t.L = s.L
  lo : s.at_ ≤ t.at_
  hi : t.at_ ≤ s.at_ + k
theorem after.refl (s : spymake_Stream) : after s s 0 := ⟨rfl, Int.le_refl _, by omega⟩
theorem after.trans {s t u : spymake_Stream} {k m : Int} (h : after s t k) (g : after t u m) : after s u (k + m) := ⟨g.L.trans h.L, Int.le_trans h.lo g.lo, by have := h.hi; have := g.hi; omega⟩
theorem after.more {s t : spymake_Stream} {k m : Int} (h : after s t k) (hk : k ≤ m) : after s t m := ⟨h.L, h.lo, by have := h.hi; omega⟩
theorem after.ok {s t : spymake_Stream} {k : Int} (h : after s t k) (g : okS s) (hk : s.at_ + k ≤ 4611686018427387904) : okS t := ⟨by rw [h.L]; exact g.z, by rw [h.L]; exact g.len, by have := h.lo; have := g.a0; omega, by have := h.hi; omega⟩
theorem below_ok (x n : Int) (hx : -9223372036854775808 ≤ x ∧ x ≤ 9223372036854775807) (hn : 1 ≤ n ∧ n ≤ 9223372036854775807) : Has (spymake_Below x n) fun v => 0 ≤ v ∧ v < n := by
  unfold spymake_Below
  have h1 := Int.lt_tmod_of_pos x (b := n) (by omega)
  have h2 := Int.tmod_lt_of_pos x (b := n) (by omega)
  refine Has.neg (by simp; omega) (Has.chk (by omega) (Has.ite (fun h => Has.ret ?_) fun h => Has.ret ?_))
  · simp only [decide_eq_true_eq] at h; rw [w6_in (by omega)]; omega
  · simp only [decide_eq_true_eq] at h; omega
theorem next_ok (s : spymake_Stream) (n : Int) (hs : okS s) (ha : s.at_ < 4611686018427387904) (hn : 1 ≤ n ∧ n ≤ 9223372036854775807) : Has (Stream_Next s n) fun r => 0 ≤ r.1 ∧ r.1 < n ∧ after s r.2 1 := by
  have h0 := hs.a0
  have hl := hs.len
  have e1 : w6 (s.at_ + 1) = s.at_ + 1 := w6_in (by omega)
  have fin : after s (spymake_Stream.mk s.L (s.at_ + 1)) 1 := ⟨rfl, by simp only []; omega, Int.le_refl _⟩
  unfold Stream_Next
  simp only [e1]
  refine Has.ite (fun hz => ?_) fun hz => ?_
  · exact (below_ok _ n (w6_bd _) hn).bind fun v hv => Has.ret ⟨hv.1, hv.2, fin⟩
  · have hz : s.L.length ≠ 0 := by simpa using hz
    have e2 : w6 (s.at_ + 1 - 1) = s.at_ := by rw [w6_in (by omega)]; omega
    have b1 := Int.tmod_nonneg (s.L.length : Int) hs.a0
    have b2 := Int.tmod_lt_of_pos s.at_ (b := (s.L.length : Int)) (by omega)
    simp only [e2]
    refine Has.chk (by omega) (Has.chk ⟨b1, b2⟩ ?_)
    refine (below_ok _ 1073741824 (hs.z _ (gt_mem _ _ ⟨b1, b2⟩)) (by omega)).bind fun v hv => Has.letF (Has.letF ?_)
    exact (below_ok _ n (w6_bd _) hn).bind fun u hu => Has.ret ⟨hu.1, hu.2, fin⟩
theorem range_ok (s : spymake_Stream) (lo hi : Int) (hs : okS s) (ha : s.at_ < 4611686018427387904) (h : lo ≤ hi) (h1 : -2305843009213693952 ≤ lo) (h2 : hi ≤ 2305843009213693952) : Has (Stream_Range s lo hi) fun r => lo ≤ r.1 ∧ r.1 ≤ hi ∧ after s r.2 1 := by
  unfold Stream_Range
  rw [w6_in (n := hi - lo) (by omega), w6_in (n := hi - lo + 1) (by omega)]
  refine Has.neg (by simp; omega) ((next_ok s (hi - lo + 1) hs ha (by omega)).bind fun r hr => Has.ret ?_)
  rw [w6_in (by omega)]
  exact ⟨by omega, by omega, hr.2.2⟩
end Lf
/- Plain facts of bounds. -/
namespace Lf
open Go Go.Abs
set_option linter.unusedVariables false
set_option linter.unusedSimpArgs false
/-- A valid bound. -/
structure Bound.ok (b : Bound) : Prop where
  u : b.Unknown = true → b.Lo = 0 ∧ b.Hi = 0
  lo : -1152921504606846976 ≤ b.Lo
  le : b.Lo ≤ b.Hi
  hi : b.Hi ≤ 1152921504606846976
theorem check_ok {b : Bound} (h : b.ok) : bound_Check b = some 0 := by
  obtain ⟨h1, h2, h3, h4⟩ := h
  unfold bound_Check
  rw [mn2_le h3, mx2_le h3]
  have e1 : ¬ b.Lo < -1152921504606846976 := by omega
  have e2 : ¬ b.Hi > 1152921504606846976 := by omega
  have e3 : ¬ b.Lo > b.Hi := by omega
  cases hu : b.Unknown with
  | false => simp [e1, e2, e3]
  | true => obtain ⟨q1, q2⟩ := h1 hu; simp [q1, q2]
theorem okNone : Bound.ok ⟨0, 0, true⟩ := ⟨fun _ => ⟨rfl, rfl⟩, by decide, by decide, by decide⟩
theorem okKnown {lo hi : Int} (h1 : -1152921504606846976 ≤ lo) (h2 : lo ≤ hi) (h3 : hi ≤ 1152921504606846976) : Bound.ok ⟨lo, hi, false⟩ := ⟨(fun h => nomatch h), h1, h2, h3⟩
end Lf
/- Plain facts of bounds that are made. -/
namespace Lf
open Go Go.Abs
set_option linter.unusedVariables false
set_option linter.unusedSimpArgs false
theorem norm_ok {b : Bound} (h : b.ok) : bound_Norm b = some b := by unfold bound_Norm; rw [check_ok h]; rfl
theorem none_ok : bound_None = some ⟨0, 0, true⟩ := rfl
theorem of_ok {lo hi : Int} (h1 : -1152921504606846976 ≤ lo) (h2 : lo ≤ hi) (h3 : hi ≤ 1152921504606846976) : bound_Of lo hi = some ⟨lo, hi, false⟩ := by
  unfold bound_Of; rw [norm_ok (okKnown h1 h2 h3)]; rfl
end Lf
/- Two bounds of which one is unknown. -/
namespace Lf
open Go Go.Abs
set_option linter.unusedVariables false
set_option linter.unusedSimpArgs false
theorem vague_ok {a b : Bound} (ha : a.ok) (hb : b.ok) : bound_vague a b = some (a.Unknown || b.Unknown) := by
  unfold bound_vague; rw [norm_ok ha, norm_ok hb]; cases h : a.Unknown <;> simp [h]
end Lf
/- Sums of bounds; what both admit. -/
namespace Lf
open Go Go.Abs
set_option linter.unusedVariables false
set_option linter.unusedSimpArgs false
theorem add_known {a b : Bound} (ha : a.ok) (hb : b.ok) (ua : a.Unknown = false) (ub : b.Unknown = false) (h1 : -1152921504606846976 ≤ a.Lo + b.Lo) (h2 : a.Hi + b.Hi ≤ 1152921504606846976) : bound_Add a b = some ⟨a.Lo + b.Lo, a.Hi + b.Hi, false⟩ := by
  have := ha.le; have := hb.le
  unfold bound_Add
  rw [vague_ok ha hb, ua, ub]
  simp only [Option.bind_some, Bool.or_self, Bool.false_eq_true, if_false]
  rw [w6_in (by omega), w6_in (by omega), of_ok h1 (by omega) h2]; rfl
theorem add_vague {a b : Bound} (ha : a.ok) (hb : b.ok) (u : (a.Unknown || b.Unknown) = true) : bound_Add a b = some ⟨0, 0, true⟩ := by
  unfold bound_Add
  rw [vague_ok ha hb, u]; rfl
end Lf
/- Differences of bounds; what both admit. -/
namespace Lf
open Go Go.Abs
set_option linter.unusedVariables false
set_option linter.unusedSimpArgs false
theorem neg_ok {b : Bound} (h : b.ok) : bound_Neg b = some ⟨-b.Hi, -b.Lo, b.Unknown⟩ := by
  obtain ⟨h1, h2, h3, h4⟩ := h
  unfold bound_Neg
  rw [norm_ok ⟨h1, h2, h3, h4⟩]
  simp only [Option.bind_some, Int.zero_sub]
  rw [w6_in (by omega), w6_in (by omega)]
theorem sub_known {a b : Bound} (ha : a.ok) (hb : b.ok) (ua : a.Unknown = false) (ub : b.Unknown = false) (h1 : -1152921504606846976 ≤ a.Lo - b.Hi) (h2 : a.Hi - b.Lo ≤ 1152921504606846976) : bound_Sub a b = some ⟨a.Lo - b.Hi, a.Hi - b.Lo, false⟩ := by
  unfold bound_Sub
  rw [neg_ok hb]
  simp only [Option.bind_some]
  rw [add_known ha (b := ⟨-b.Hi, -b.Lo, b.Unknown⟩) ⟨(fun h => by rw [ub] at h; cases h), by have := hb.hi; simp only []; omega, by have := hb.le; simp only []; omega, by have := hb.lo; simp only []; omega⟩ ua ub (by simp only []; omega) (by simp only []; omega)]
  rfl
end Lf
/- Fields of light, and bounds of it. -/
namespace Lf
open Go Go.Abs
set_option linter.unusedVariables false
set_option linter.unusedSimpArgs false
/-- A valid field. -/
structure okF (c : Cells) : Prop where
  w0 : 1 ≤ c.W
  w1 : c.W ≤ 32
  h0 : 1 ≤ c.H
  h1 : c.H ≤ 32
  len : (c.At.length : Int) = c.W * c.H
  cell : ∀ b ∈ c.At, b.ok ∧ -1099511627776 ≤ b.Lo ∧ b.Hi ≤ 1099511627776
theorem area {w h : Int} (w0 : 1 ≤ w) (w1 : w ≤ 32) (h0 : 1 ≤ h) (h1 : h ≤ 32) : 1 ≤ w * h ∧ w * h ≤ 1024 := by
  have a := Int.mul_le_mul_of_nonneg_right w1 (show 0 ≤ h by omega)
  have b := Int.mul_le_mul_of_nonneg_right w0 (show 0 ≤ h by omega)
  omega
theorem okF.n1 {c : Cells} (h : okF c) : 1 ≤ (c.At.length : Int) ∧ (c.At.length : Int) ≤ 1024 := by rw [h.len]; exact area h.w0 h.w1 h.h0 h.h1
theorem findCheck_ok {c : Cells} (h : okF c) : find_Check c = some 0 := by
  have hw0 := h.w0; have hw1 := h.w1; have hh0 := h.h0; have hh1 := h.h1
  have hn := h.n1
  have e : w6 (c.W * c.H) = (c.At.length : Int) := by rw [← h.len]; exact w6_in (by omega)
  apply Has.val
  unfold find_Check
  rw [e]
  have g1 : decide (c.W < 1) = false := decide_eq_false (by omega)
  have g2 : decide (c.W > 32) = false := decide_eq_false (by omega)
  have g3 : decide (c.H < 1) = false := decide_eq_false (by omega)
  have g4 : decide (c.H > 32) = false := decide_eq_false (by omega)
  simp only [g1, g2, g3, g4, ite_or, Bool.false_or, bne_self_eq_false, Option.bind_some, Bool.false_eq_true, if_false]
  refine Has.seq (P := fun t : Step Unit Int => t = .next ()) ?_ (fun _ _ => Has.ret rfl) (fun o ho => by cases ho)
  refine Has.loop (fun i : Int => 0 ≤ i ∧ i ≤ c.At.length) (fun i => (c.At.length - i).toNat) (fun t : Step Unit Int => t = .next ()) ⟨Int.le_refl _, by omega⟩ (by omega) fun i ⟨i1, i2⟩ => ?_
  unfold find_Check.l1
  refine Has.ite (fun hi => ?_) fun hi => Has.ret (.done rfl)
  have hi : i < c.At.length := of_decide_eq_true hi
  obtain ⟨b1, b2, b3⟩ := h.cell _ (gt_mem c.At i ⟨i1, hi⟩)
  refine Has.chk ⟨i1, hi⟩ ?_
  rw [check_ok b1]
  have g5 : decide ((gt c.At i).Lo < (-1099511627776)) = false := decide_eq_false (by omega)
  have g6 : decide ((gt c.At i).Hi > 1099511627776) = false := decide_eq_false (by omega)
  simp only [Option.bind_some, bne_self_eq_false, Bool.false_eq_true, if_false, g5, g6, ite_or, Bool.false_or]
  rw [w6_in (by omega)]
  exact Has.ret (.next ⟨by omega, by omega⟩ (by omega))
end Lf
/- Differences of whole fields. -/
namespace Lf
open Go Go.Abs
set_option linter.unusedVariables false
set_option linter.unusedSimpArgs false
def small (c : Cells) (M : Int) : Prop := ∀ b ∈ c.At, b.ok ∧ -M ≤ b.Lo ∧ b.Hi ≤ M
theorem limited_ok {b : Bound} {B : Int} (h1 : -B ≤ b.Lo) (h2 : b.Hi ≤ B) (hB : B ≤ 1099511627776) : differ_limited b = some b := by
  have g1 : decide (b.Lo < (-1099511627776)) = false := decide_eq_false (by omega)
  have g2 : decide (b.Hi > 1099511627776) = false := decide_eq_false (by omega)
  unfold differ_limited
  simp [g1, g2]
/-- The difference of two bounds. -/
def subB (a b : Bound) : Bound := if (a.Unknown || b.Unknown) = true then ⟨0, 0, true⟩ else ⟨a.Lo - b.Hi, a.Hi - b.Lo, false⟩
theorem subB_ok {a b : Bound} {M : Int} (ha : a.ok ∧ -M ≤ a.Lo ∧ a.Hi ≤ M) (hb : b.ok ∧ -M ≤ b.Lo ∧ b.Hi ≤ M) (M0 : 0 ≤ M) (hM : 2 * M ≤ 1152921504606846976) : bound_Sub a b = some (subB a b) ∧ (subB a b).ok ∧ -(2 * M) ≤ (subB a b).Lo ∧ (subB a b).Hi ≤ 2 * M := by
  obtain ⟨a1, a2, a3⟩ := ha
  obtain ⟨b1, b2, b3⟩ := hb
  have al := a1.le; have bl := b1.le
  unfold subB
  by_cases hu : (a.Unknown || b.Unknown) = true
  · rw [if_pos hu]
    refine ⟨?_, okNone, by simp only []; omega, by simp only []; omega⟩
    unfold bound_Sub
    rw [neg_ok b1]
    simp only [Option.bind_some]
    rw [add_vague (b := ⟨-b.Hi, -b.Lo, b.Unknown⟩) a1 ⟨fun e => by obtain ⟨p, q⟩ := b1.u e; simp only [p, q]; decide, by have := b1.hi; simp only []; omega, by simp only []; omega, by have := b1.lo; simp only []; omega⟩ hu]
    rfl
  · rw [if_neg hu]
    have hu : a.Unknown = false ∧ b.Unknown = false := by simpa using hu
    exact ⟨sub_known a1 b1 hu.1 hu.2 (by omega) (by omega), okKnown (by omega) (by omega) (by omega), by simp only []; omega, by simp only []; omega⟩
theorem dsub_ok {a b : Cells} {M : Int} (ha : okF a) (hb : okF b) (hw : a.W = b.W) (hh : a.H = b.H) (sa : small a M) (sb : small b M) (M0 : 0 ≤ M) (hM : 2 * M ≤ 1099511627776) :
    Has (differ_Sub a b) fun r => r.2 = 0 ∧ r.1.W = a.W ∧ r.1.H = a.H ∧ r.1.At.length = a.At.length ∧ allI r.1.At fun i c => c = subB (gt a.At i) (gt b.At i) := by
  have hn := ha.n1
  have hl : a.At.length = b.At.length := by have := ha.len; have := hb.len; rw [hw, hh] at *; omega
  unfold differ_Sub
  rw [findCheck_ok ha, findCheck_ok hb, hw, hh]
  simp only [Option.bind_some, bne_self_eq_false, Bool.false_eq_true, if_false]
  refine (Has.loop (fun s : List Bound × Int => 0 ≤ s.2 ∧ s.2 ≤ a.At.length ∧ (s.1.length : Int) = s.2 ∧ allI s.1 fun i c => c = subB (gt a.At i) (gt b.At i)) (fun s => (a.At.length - s.2).toNat)
    (fun l : List Bound => l.length = a.At.length ∧ allI l fun i c => c = subB (gt a.At i) (gt b.At i)) ⟨Int.le_refl _, by simp only []; omega, rfl, allI_nil⟩ (by simp only []; omega) fun s ⟨s1, s2, s3, s4⟩ => ?_).bind fun l ⟨l1, l2⟩ => Has.ret ⟨rfl, rfl, rfl, l1, l2⟩
  unfold differ_Sub.l1
  refine Has.ite (fun hi => ?_) fun hi => ?_
  · have hi : s.2 < a.At.length := of_decide_eq_true hi
    obtain ⟨e1, e2, e3, e4⟩ := subB_ok (sa _ (gt_mem a.At s.2 ⟨s1, hi⟩)) (sb _ (gt_mem b.At s.2 ⟨s1, by omega⟩)) M0 (by omega)
    rw [e1]
    simp only [Option.bind_some]
    rw [limited_ok e3 e4 hM, w6_in (n := s.2 + 1) (by omega)]
    refine Has.chk ⟨s1, hi⟩ (Has.chk ⟨s1, by omega⟩ (Has.chk (roomyI (by simp; omega) (by simp; omega)) (Has.ret (.next ⟨by simp only []; omega, by simp only []; omega, by simp; omega, allI_snoc s4 ?_⟩ (by simp only []; omega)))))
    rw [s3]
  · have hi : ¬ s.2 < a.At.length := fun q => hi (decide_eq_true q)
    exact Has.ret (.done ⟨by omega, s4⟩)
end Lf
/- Loops of few rounds, round by round. -/
namespace Lf
open Go Go.Abs
set_option linter.unusedVariables false
inductive Run {S O : Type} (body : S → Option (Step S O)) : S → Nat → O → Prop
  | done {s : S} {o : O} : body s = some (.done o) → Run body s 0 o
  | next {s s' : S} {n : Nat} {o : O} : body s = some (.next s') → Run body s' n o → Run body s (n + 1) o
theorem Run.iter {S O : Type} {body : S → Option (Step S O)} : ∀ {n : Nat} {s : S} {o : O}, Run body s n o → ∀ k, n < k → iterF body k s = some o
  | _, _, _, .done h, 0, hk => by omega
  | _, _, _, .done h, k + 1, _ => by unfold iterF; rw [h]
  | _, _, _, .next h r, 0, hk => by omega
  | _, _, _, .next h r, k + 1, hk => by unfold iterF; rw [h]; exact r.iter k (by omega)
theorem Run.ok {S O : Type} {body : S → Option (Step S O)} {n : Nat} {s : S} {o : O} (h : Run body s n o) (hn : n < 10000000000000000000000000000000000000000) : loopF body s = some o := h.iter _ hn
end Lf
/- The order in which find.Sure puts cells. -/
namespace Lf
open Go Go.Abs
set_option linter.unusedVariables false
set_option linter.unusedSimpArgs false
theorem or2_ok (a b : Int) : cmp_Or [a, b] = some (if a ≠ 0 then a else b) := by
  unfold cmp_Or
  by_cases ha : a = 0
  · subst ha
    by_cases hb : b = 0
    · subst hb
      rw [(Run.next (s' := 1) (by rfl) (Run.next (s' := 2) (by rfl) (Run.done (by rfl))) : Run (cmp_Or.l1 [0, 0]) 0 2 (Step.next ())).ok (by decide)]; rfl
    · have e : cmp_Or.l1 [0, b] 1 = some (.done (.done b)) := by
        unfold cmp_Or.l1
        have g : gt ([0, b] : List Int) 1 = b := rfl
        rw [g]; simp [hb]
      rw [(Run.next (s' := 1) (by rfl) (Run.done e) : Run (cmp_Or.l1 [0, b]) 0 1 (Step.done b)).ok (by decide)]; rfl
  · have e : cmp_Or.l1 [a, b] 0 = some (.done (.done a)) := by
      unfold cmp_Or.l1
      have g : gt ([a, b] : List Int) 0 = a := rfl
      rw [g]; simp [ha]
    rw [(Run.done e : Run (cmp_Or.l1 [a, b]) 0 0 (Step.done a)).ok (by decide), if_pos ha]; rfl
theorem compare_ok (a b : Int) : cmp_Compare a b = some (if a < b then -1 else if b < a then 1 else 0) := by
  unfold cmp_Compare cmp_isNaN
  simp only [Option.bind_some, bne_self_eq_false, Bool.false_eq_true, if_false, gt_iff_lt, decide_eq_true_eq]
  split
  · rfl
  · split <;> rfl
def kyF (c : Cells) (x : Int) : Int := (gt c.At x).Lo
def inF (c : Cells) (x : Int) : Prop := 0 ≤ x ∧ x < c.At.length
/-- The brighter cell first, of two alike the one that stands first. -/
def leF (c : Cells) (a b : Int) : Prop := kyF c b < kyF c a ∨ (kyF c a = kyF c b ∧ a ≤ b)
theorem leF.trans {c : Cells} {x y z : Int} (h : leF c x y) (k : leF c y z) : leF c x z := by unfold leF at *; omega
theorem leF.refl {c : Cells} (a : Int) : leF c a a := by unfold leF; omega
theorem order_lt {c : Cells} {a b : Int} (ha : inF c a) (hb : inF c b) : Has (find_Sure_1 a b c) fun r => (r < 0 → leF c a b) ∧ (¬ r < 0 → b ≤ a → leF c b a) := by
  unfold find_Sure_1
  refine Has.chk hb (Has.chk ha ?_)
  rw [compare_ok]
  simp only [Option.bind_some]
  refine Has.ret ?_
  unfold leF kyF
  split <;> (try split) <;> refine ⟨fun _ => ?_, fun _ _ => ?_⟩ <;> omega
end Lf
/- Insertion sort of a range by find.Sure's order: a permutation, sorted, nothing else touched. -/
namespace Lf
open Go Go.Abs
set_option linter.unusedVariables false
set_option linter.unusedSimpArgs false
/-- Sorted in a range. -/
def sortedIn (c : Cells) (xs : List Int) (a b : Int) : Prop := ∀ p q : Int, a ≤ p → p < q → q < b → leF c (gt xs p) (gt xs q)
/-- Another order of a range alone. -/
structure turnIn (xs ys : List Int) (a b : Int) : Prop where
  perm : ys.Perm xs
  out : ∀ p : Int, 0 ≤ p → (p < a ∨ b ≤ p) → gt ys p = gt xs p
  into : ∀ p : Int, a ≤ p → p < b → ∃ q : Int, a ≤ q ∧ q < b ∧ gt ys p = gt xs q
theorem turnIn.refl (xs : List Int) (a b : Int) : turnIn xs xs a b := ⟨List.Perm.refl _, fun _ _ _ => rfl, fun p p0 p1 => ⟨p, p0, p1, rfl⟩⟩
theorem turnIn.trans {xs ys zs : List Int} {a b : Int} (h : turnIn xs ys a b) (k : turnIn ys zs a b) : turnIn xs zs a b := ⟨k.perm.trans h.perm, fun p p0 hp => (k.out p p0 hp).trans (h.out p p0 hp), fun p p0 p1 => by
  obtain ⟨q, q0, q1, e⟩ := k.into p p0 p1
  obtain ⟨r, r0, r1, e'⟩ := h.into q q0 q1
  exact ⟨r, r0, r1, e.trans e'⟩⟩
theorem turnIn.len {xs ys : List Int} {a b : Int} (h : turnIn xs ys a b) : ys.length = xs.length := h.perm.length_eq
theorem turnIn.wide {xs ys : List Int} {a b c d : Int} (h : turnIn xs ys a b) (h0 : 0 ≤ c) (h1 : c ≤ a) (h2 : b ≤ d) : turnIn xs ys c d := ⟨h.perm, fun p p0 hp => h.out p p0 (by omega), fun p p0 p1 => by
  by_cases hp : a ≤ p ∧ p < b
  · obtain ⟨q, q0, q1, e⟩ := h.into p hp.1 hp.2
    exact ⟨q, by omega, by omega, e⟩
  · exact ⟨p, p0, p1, h.out p (by omega) (by omega)⟩⟩
theorem swap_turn (xs : List Int) {i j a b : Int} (i0 : 0 ≤ i) (j0 : 0 ≤ j) (i1 : i < xs.length) (j1 : j < xs.length) (ai : a ≤ i) (ib : i < b) (aj : a ≤ j) (jb : j < b) : turnIn xs ((xs.set i.toNat (gt xs j)).set j.toNat (gt xs i)) a b := by
  refine ⟨?_, fun p p0 hp => ?_, fun p p0 p1 => ?_⟩
  · rw [gt_def xs i ⟨i0, i1⟩, gt_def xs j ⟨j0, j1⟩]
    exact List.set_set_perm (by omega) (by omega)
  · rw [gt_set_ne j0 p0 (by omega), gt_set_ne i0 p0 (by omega)]
  · by_cases e1 : p = j
    · exact ⟨i, ai, ib, by rw [e1, gt_set_eq j0 (by simp only [List.length_set]; omega)]⟩
    · by_cases p00 : 0 ≤ p
      · by_cases e2 : p = i
        · exact ⟨j, aj, jb, by rw [e2, gt_set_ne j0 i0 (by omega), gt_set_eq i0 i1]⟩
        · exact ⟨p, p0, p1, by rw [gt_set_ne j0 p00 (Ne.symm e1), gt_set_ne i0 p00 (Ne.symm e2)]⟩
      · have hz : ∀ zs : List Int, gt zs p = gt zs 0 := fun zs => by simp only [gt]; congr 1; omega
        by_cases f1 : (0 : Int) = j
        · exact ⟨i, ai, ib, by rw [hz, f1, gt_set_eq j0 (by simp only [List.length_set]; omega)]⟩
        · by_cases f2 : (0 : Int) = i
          · exact ⟨j, aj, jb, by rw [hz, gt_set_ne j0 (Int.le_refl _) (Ne.symm f1), f2, gt_set_eq i0 i1]⟩
          · exact ⟨p, p0, p1, by rw [hz, gt_set_ne j0 (Int.le_refl _) (Ne.symm f1), gt_set_ne i0 (Int.le_refl _) (Ne.symm f2), hz]⟩
theorem insO_ok {c : Cells} (xs : List Int) (a b : Int) (a0 : 0 ≤ a) (ab : a ≤ b) (hb : b ≤ xs.length) (hl : xs.length ≤ 1000) (hx : ∀ x ∈ xs, inF c x) (hinc : ∀ p q : Int, a ≤ p → p < q → q < b → gt xs p < gt xs q) :
    Has (slices_insertionSortCmpFunc_Int_find_Sure_1 xs a b c) fun r => turnIn xs r a b ∧ sortedIn c r a b := by
  unfold slices_insertionSortCmpFunc_Int_find_Sure_1
  rw [w6_in (n := a + 1) (by omega)]
  refine Has.bind (P := fun r : List Int => turnIn xs r a b ∧ sortedIn c r a b) ?_ fun r hr => Has.ret hr
  refine Has.loop (fun t : List Int × Int => a + 1 ≤ t.2 ∧ (t.2 ≤ b ∨ t.2 = a + 1) ∧ turnIn xs t.1 a b ∧ sortedIn c t.1 a t.2 ∧ (∀ p, t.2 ≤ p → p < b → gt t.1 p = gt xs p) ∧ (∀ p, a ≤ p → p < t.2 → p < b → ∃ q, a ≤ q ∧ q < t.2 ∧ q < b ∧ gt t.1 p = gt xs q)) (fun t => (b - t.2).toNat) _
    ⟨Int.le_refl _, .inr rfl, turnIn.refl _ _ _, fun p q p0 pq q1 => (by have q1 : q < a + 1 := q1; omega), fun _ _ _ => rfl, fun p p0 p1 p2 => ⟨p, p0, p1, p2, rfl⟩⟩ (by simp only []; omega) fun t ⟨t1, t2, t3, t5, t6, t7⟩ => ?_
  unfold slices_insertionSortCmpFunc_Int_find_Sure_1.l1
  refine Has.ite (fun hi => ?_) fun hi => ?_
  · have hi : t.2 < b := of_decide_eq_true hi
    have tl := t3.len
    rw [w6_in (n := t.2 + 1) (by omega)]
    refine Has.bind (P := fun r : List Int => turnIn t.1 r a (t.2 + 1) ∧ sortedIn c r a (t.2 + 1)) ?_ fun r ⟨r1, r2⟩ => Has.ret (.next ⟨by simp only []; omega, by simp only []; omega, t3.trans (r1.wide a0 (Int.le_refl _) (by omega)), r2, fun p p0 p1 => ?_, fun p p0 p1 p2 => ?_⟩ (by simp only []; omega))
    · refine Has.loop (fun u : List Int × Int => a ≤ u.2 ∧ u.2 ≤ t.2 ∧ turnIn t.1 u.1 a (t.2 + 1) ∧ (∀ p q : Int, a ≤ p → p < q → q < t.2 + 1 → p ≠ u.2 → q ≠ u.2 → leF c (gt u.1 p) (gt u.1 q)) ∧ (∀ q : Int, u.2 < q → q < t.2 + 1 → leF c (gt u.1 u.2) (gt u.1 q)) ∧ (∀ p, a ≤ p → p < u.2 → gt u.1 p = gt t.1 p) ∧ gt u.1 u.2 = gt t.1 t.2) (fun u => u.2.toNat) _
        ⟨by simp only []; omega, Int.le_refl _, turnIn.refl _ _ _, fun p q p0 pq q1 n1 n2 => t5 p q p0 pq (by simp only [] at n2; omega), fun q q0 q1 => by simp only [] at q0; omega, fun _ _ _ => rfl, rfl⟩ (by simp only []; omega) fun u ⟨u0, u1, u2, u4, u5, u6, u7⟩ => ?_
      have ul := u2.len
      have hxu : ∀ x ∈ u.1, inF c x := fun x h => hx x (t3.perm.mem_iff.1 (u2.perm.mem_iff.1 h))
      unfold slices_insertionSortCmpFunc_Int_find_Sure_1.l2
      refine Has.bind (P := fun b : Bool => (b = true → a < u.2 ∧ leF c (gt u.1 u.2) (gt u.1 (u.2 - 1))) ∧ (b = false → u.2 = a ∨ leF c (gt u.1 (u.2 - 1)) (gt u.1 u.2))) (Has.ite (fun h0 => ?_) fun h0 => Has.ret ⟨(fun e => nomatch e), fun _ => .inl (by have : ¬ u.2 > a := fun q => h0 (decide_eq_true q); omega)⟩) fun cc ⟨b1, b2⟩ => ?_
      · have h0 : a < u.2 := of_decide_eq_true h0
        rw [w6_in (n := u.2 - 1) (by omega)]
        have hle : gt u.1 (u.2 - 1) ≤ gt u.1 u.2 := by
          rw [u6 (u.2 - 1) (by omega) (by omega), u7, t6 t.2 (Int.le_refl _) hi]
          obtain ⟨q, q0, q1, q2, e⟩ := t7 (u.2 - 1) (by omega) (by omega) (by omega)
          rw [e]
          exact Int.le_of_lt (hinc q t.2 q0 q1 hi)
        refine Has.chk ⟨by omega, by omega⟩ (Has.chk ⟨by omega, by omega⟩ ((order_lt (hxu _ (gt_mem _ _ ⟨by omega, by omega⟩)) (hxu _ (gt_mem _ _ ⟨by omega, by omega⟩))).bind fun r ⟨r1, r2⟩ => Has.ret ⟨fun e => ⟨h0, r1 (of_decide_eq_true e)⟩, fun e => .inr (r2 (of_decide_eq_false e) hle)⟩))
      · refine Has.ite (fun hc => ?_) fun hc => Has.ret (.done ⟨u2, fun p q p0 pq q1 => ?_⟩)
        · obtain ⟨h0, hle⟩ := b1 hc
          rw [w6_in (n := u.2 - 1) (by omega)]
          have c0 : 0 ≤ u.2 - 1 := by omega
          have c1 : u.2 - 1 < u.1.length := by omega
          have e1 : gt ((u.1.set u.2.toNat (gt u.1 (u.2 - 1))).set (u.2 - 1).toNat (gt u.1 u.2)) (u.2 - 1) = gt u.1 u.2 := gt_set_eq c0 (by simp only [List.length_set]; omega)
          have e2 : gt ((u.1.set u.2.toNat (gt u.1 (u.2 - 1))).set (u.2 - 1).toNat (gt u.1 u.2)) u.2 = gt u.1 (u.2 - 1) := by rw [gt_set_ne c0 (by omega) (by omega), gt_set_eq (by omega) (by omega)]
          have e3 : ∀ q : Int, 0 ≤ q → q ≠ u.2 → q ≠ u.2 - 1 → gt ((u.1.set u.2.toNat (gt u.1 (u.2 - 1))).set (u.2 - 1).toNat (gt u.1 u.2)) q = gt u.1 q := fun q q0 n1 n2 => by rw [gt_set_ne c0 q0 (by omega), gt_set_ne (by omega) q0 (by omega)]
          have st := swap_turn u.1 (i := u.2) (j := u.2 - 1) (a := a) (b := t.2 + 1) (by omega) c0 (by omega) c1 u0 (by omega) (by omega) (by omega)
          refine Has.chk ⟨c0, c1⟩ (Has.chk ⟨by omega, by omega⟩ (Has.letF (Has.ret (.next ⟨by simp only []; omega, by simp only []; omega, u2.trans st, fun p q p0 pq q1 n1 n2 => ?_, fun q q0 q1 => ?_, fun p p0 p1 => ?_, ?_⟩ (by simp only []; omega)))))
          · simp only [] at n1 n2 ⊢
            by_cases ep : p = u.2
            · rw [ep, e2, e3 q (by omega) (by omega) n2]
              exact u4 (u.2 - 1) q (by omega) (by omega) q1 (by omega) (by omega)
            · by_cases eq : q = u.2
              · rw [eq, e2, e3 p (by omega) ep n1]
                exact u4 p (u.2 - 1) p0 (by omega) (by omega) (by omega) (by omega)
              · rw [e3 p (by omega) ep n1, e3 q (by omega) eq n2]
                exact u4 p q p0 pq q1 ep eq
          · simp only [] at q0 ⊢
            rw [e1]
            by_cases eq : q = u.2
            · rw [eq, e2]; exact hle
            · rw [e3 q (by omega) eq (by omega)]
              exact u5 q (by omega) q1
          · simp only [] at p1 ⊢
            rw [e3 p (by omega) (by omega) (by omega)]
            exact u6 p p0 (by omega)
          · simp only []
            rw [e1]; exact u7
        · have hc : cc = false := by simpa using hc
          by_cases ep : p = u.2
          · rw [ep]; exact u5 q (by omega) q1
          · by_cases eq : q = u.2
            · rcases b2 hc with h | h
              · omega
              · rw [eq]
                by_cases e : p = u.2 - 1
                · rw [e]; exact h
                · exact (u4 p (u.2 - 1) p0 (by omega) (by omega) ep (by omega)).trans h
            · exact u4 p q p0 pq q1 ep eq
    · simp only [] at p0 ⊢
      rw [r1.out p (by omega) (by omega)]; exact t6 p (by omega) p1
    · simp only [] at p1 ⊢
      obtain ⟨q, q0, q1, e⟩ := r1.into p p0 p1
      by_cases eq : q = t.2
      · exact ⟨t.2, by omega, by omega, hi, by rw [e, eq]; exact t6 t.2 (Int.le_refl _) hi⟩
      · obtain ⟨z, z0, z1, z2, ez⟩ := t7 q q0 (by omega) (by omega)
        exact ⟨z, z0, by omega, z2, e.trans ez⟩
  · have hi : ¬ t.2 < b := fun q => hi (decide_eq_true q)
    exact Has.ret (.done ⟨t3, fun p q p0 pq q1 => t5 p q p0 pq (by omega)⟩)
end Lf
/- slices.swapRange and slices.rotate, told by places. -/
namespace Lf
open Go Go.Abs
set_option linter.unusedVariables false
set_option linter.unusedSimpArgs false
/-- Two stretches of n changed for each other. -/
def swapAt (xs : List Int) (a b n : Int) (p : Int) : Int :=
  if a ≤ p ∧ p < a + n then gt xs (p - a + b) else if b ≤ p ∧ p < b + n then gt xs (p - b + a) else gt xs p
/-- [a, m) and [m, b) turned about. -/
def rotAt (xs : List Int) (a m b : Int) (p : Int) : Int :=
  if a ≤ p ∧ p < a + (b - m) then gt xs (p + (m - a)) else if a + (b - m) ≤ p ∧ p < b then gt xs (p - (b - m)) else gt xs p
theorem swap_ok {c : Cells} (xs : List Int) (a b n : Int) (a0 : 0 ≤ a) (n0 : 0 ≤ n) (ab : a + n ≤ b) (hb : b + n ≤ xs.length) (hl : xs.length ≤ 1000) :
    Has (slices_swapRangeCmpFunc_Int_find_Sure_1 xs a b n c) fun r => r.Perm xs ∧ ∀ p : Int, 0 ≤ p → gt r p = swapAt xs a b n p := by
  unfold slices_swapRangeCmpFunc_Int_find_Sure_1
  refine Has.bind (P := fun r : List Int => r.Perm xs ∧ ∀ p : Int, 0 ≤ p → gt r p = swapAt xs a b n p) ?_ fun r hr => Has.ret hr
  refine Has.loop (fun t : List Int × Int => 0 ≤ t.2 ∧ t.2 ≤ n ∧ t.1.Perm xs ∧ ∀ p : Int, 0 ≤ p → gt t.1 p = swapAt xs a b t.2 p) (fun t => (n - t.2).toNat) _
    ⟨Int.le_refl _, n0, List.Perm.refl _, fun p p0 => by simp only [swapAt]; split <;> (try split) <;> first | rfl | omega⟩ (by simp only []; omega) fun t ⟨t0, t1, t2, t3⟩ => ?_
  have tl := t2.length_eq
  unfold slices_swapRangeCmpFunc_Int_find_Sure_1.l1
  refine Has.ite (fun hi => ?_) fun hi => ?_
  · have hi : t.2 < n := of_decide_eq_true hi
    rw [w6_in (n := b + t.2) (by omega), w6_in (n := a + t.2) (by omega), w6_in (n := t.2 + 1) (by omega)]
    have st := swap_turn t.1 (i := a + t.2) (j := b + t.2) (a := 0) (b := xs.length) (by omega) (by omega) (by omega) (by omega) (by omega) (by omega) (by omega) (by omega)
    refine Has.chk ⟨by omega, by omega⟩ (Has.chk ⟨by omega, by omega⟩ (Has.letF (Has.ret (.next ⟨by simp only []; omega, by simp only []; omega, st.perm.trans t2, fun p p0 => ?_⟩ (by simp only []; omega)))))
    simp only []
    by_cases e1 : p = b + t.2
    · rw [e1, gt_set_eq (by omega) (by simp only [List.length_set]; omega), t3 _ (by omega)]
      simp only [swapAt]
      rw [if_neg (by omega), if_neg (by omega), if_neg (by omega), if_pos (by omega)]
      congr 1; omega
    · rw [gt_set_ne (by omega) p0 (by omega)]
      by_cases e2 : p = a + t.2
      · rw [e2, gt_set_eq (by omega) (by omega), t3 _ (by omega)]
        simp only [swapAt]
        rw [if_neg (by omega), if_neg (by omega), if_pos (by omega)]
        congr 1; omega
      · rw [gt_set_ne (by omega) p0 (by omega), t3 _ p0]
        simp only [swapAt]
        split <;> split <;> (try split) <;> (try split) <;> first | rfl | omega
  · have hi : ¬ t.2 < n := fun q => hi (decide_eq_true q)
    have : t.2 = n := by omega
    exact Has.ret (.done ⟨t2, fun p p0 => by rw [t3 p p0, this]⟩)
theorem rot_step1 (xs ys : List Int) (m i j : Int) (i0 : 0 < j) (ij : j < i) (h : i ≤ m) (hs : ∀ p : Int, 0 ≤ p → gt ys p = swapAt xs (m - i) m j p) (p : Int) (p0 : 0 ≤ p) :
    rotAt ys (m - (i - j)) m (m + j) p = rotAt xs (m - i) m (m + j) p := by
  simp only [rotAt]
  split
  · rw [hs _ (by omega)]
    simp only [swapAt]
    rw [if_neg (by omega), if_pos (by omega), if_neg (by omega), if_pos (by omega)]
    congr 1; omega
  · split
    · rw [hs _ (by omega)]
      simp only [swapAt]
      rw [if_neg (by omega), if_neg (by omega), if_neg (by omega), if_pos (by omega)]
    · rw [hs _ p0]
      simp only [swapAt]
      split <;> (try split) <;> (try split) <;> (try split) <;> first | rfl | omega | (congr 1; omega)
theorem rot_step2 (xs ys : List Int) (m i j : Int) (i0 : 0 < i) (ij : i < j) (h : i ≤ m) (hs : ∀ p : Int, 0 ≤ p → gt ys p = swapAt xs (m - i) (m + j - i) i p) (p : Int) (p0 : 0 ≤ p) :
    rotAt ys (m - i) m (m + (j - i)) p = rotAt xs (m - i) m (m + j) p := by
  simp only [rotAt]
  split
  · rw [hs _ (by omega)]
    simp only [swapAt]
    split <;> (try split) <;> (try split) <;> (try split) <;> first | rfl | omega | (congr 1; omega)
  · split
    · rw [hs _ (by omega)]
      simp only [swapAt]
      split <;> (try split) <;> (try split) <;> (try split) <;> first | rfl | omega | (congr 1; omega)
    · rw [hs _ p0]
      simp only [swapAt]
      split <;> (try split) <;> (try split) <;> (try split) <;> first | rfl | omega | (congr 1; omega)
theorem rot_last (xs : List Int) (m i : Int) (i0 : 0 < i) (h : i ≤ m) (p : Int) : swapAt xs (m - i) m i p = rotAt xs (m - i) m (m + i) p := by
  simp only [swapAt, rotAt]
  split <;> (try split) <;> (try split) <;> (try split) <;> first | rfl | omega | (congr 1; omega)
theorem rot_ok {c : Cells} (xs : List Int) (a m b : Int) (a0 : 0 ≤ a) (am : a < m) (mb : m < b) (hb : b ≤ xs.length) (hl : xs.length ≤ 1000) :
    Has (slices_rotateCmpFunc_Int_find_Sure_1 xs a m b c) fun r => r.Perm xs ∧ ∀ p : Int, 0 ≤ p → gt r p = rotAt xs a m b p := by
  unfold slices_rotateCmpFunc_Int_find_Sure_1
  rw [w6_in (n := m - a) (by omega), w6_in (n := b - m) (by omega)]
  refine Has.bind (P := fun z : List Int × Int => 0 < z.2 ∧ z.2 ≤ m - a ∧ z.2 ≤ b - m ∧ z.1.Perm xs ∧ ∀ p : Int, 0 ≤ p → rotAt z.1 (m - z.2) m (m + z.2) p = rotAt xs a m b p) ?_ fun z ⟨z0, z1, z2, z3, z4⟩ => ?_
  · refine Has.loop (fun t : List Int × Int × Int => 0 < t.2.1 ∧ t.2.1 ≤ m - a ∧ 0 < t.2.2 ∧ t.2.2 ≤ b - m ∧ t.1.Perm xs ∧ ∀ p : Int, 0 ≤ p → rotAt t.1 (m - t.2.1) m (m + t.2.2) p = rotAt xs a m b p) (fun t => (t.2.1 + t.2.2).toNat) _
      ⟨by simp only []; omega, Int.le_refl _, by simp only []; omega, Int.le_refl _, List.Perm.refl _, fun p p0 => by simp only []; congr 1 <;> omega⟩ (by simp only []; omega) fun t ⟨t0, t1, t2, t3, t4, t5⟩ => ?_
    have tl := t4.length_eq
    unfold slices_rotateCmpFunc_Int_find_Sure_1.l1
    refine Has.ite (fun hi => ?_) fun hi => ?_
    · have hi : t.2.1 ≠ t.2.2 := by simpa using hi
      refine Has.ite (fun hg => ?_) fun hg => ?_
      · have hg : t.2.1 > t.2.2 := of_decide_eq_true hg
        rw [w6_in (n := m - t.2.1) (by omega), w6_in (n := t.2.1 - t.2.2) (by omega)]
        refine (swap_ok t.1 (m - t.2.1) m t.2.2 (by omega) (by omega) (by omega) (by omega) (by omega)).bind fun r ⟨r1, r2⟩ => ?_
        refine Has.chk r1.length_eq.symm (Has.ret (.next ⟨by simp only []; omega, by simp only []; omega, t2, t3, r1.trans t4, fun p p0 => ?_⟩ (by simp only []; omega)))
        exact (rot_step1 t.1 r m t.2.1 t.2.2 t2 hg (by omega) r2 p p0).trans (t5 p p0)
      · have hg : ¬ t.2.1 > t.2.2 := fun q => hg (decide_eq_true q)
        rw [w6_in (n := m - t.2.1) (by omega), w6_in (n := m + t.2.2) (by omega), w6_in (n := m + t.2.2 - t.2.1) (by omega), w6_in (n := t.2.2 - t.2.1) (by omega)]
        refine (swap_ok t.1 (m - t.2.1) (m + t.2.2 - t.2.1) t.2.1 (by omega) (by omega) (by omega) (by omega) (by omega)).bind fun r ⟨r1, r2⟩ => ?_
        refine Has.chk r1.length_eq.symm (Has.ret (.next ⟨t0, t1, by simp only []; omega, by simp only []; omega, r1.trans t4, fun p p0 => ?_⟩ (by simp only []; omega)))
        exact (rot_step2 t.1 r m t.2.1 t.2.2 t0 (by omega) (by omega) r2 p p0).trans (t5 p p0)
    · have hi : t.2.1 = t.2.2 := by simpa using hi
      exact Has.ret (.done ⟨t0, t1, by simp only []; omega, t4, fun p p0 => by simp only []; rw [← t5 p p0, ← hi]⟩)
  · have zl := z3.length_eq
    rw [w6_in (n := m - z.2) (by omega)]
    refine (swap_ok z.1 (m - z.2) m z.2 (by omega) (by omega) (by omega) (by omega) (by omega)).bind fun r ⟨r1, r2⟩ => ?_
    exact Has.chk r1.length_eq.symm (Has.ret ⟨r1.trans z3, fun p p0 => by rw [r2 p p0, rot_last _ _ _ z0 (by omega), z4 p p0]⟩)
end Lf
/- What a turn about a cut does to two sorted stretches. -/
namespace Lf
open Go Go.Abs
set_option linter.unusedVariables false
set_option linter.unusedSimpArgs false
theorem sortedIn.le {c : Cells} {xs : List Int} {a b p q : Int} (h : sortedIn c xs a b) (p0 : a ≤ p) (pq : p ≤ q) (q1 : q < b) : leF c (gt xs p) (gt xs q) := by
  by_cases e : p = q
  · rw [e]; exact leF.refl _
  · exact h p q p0 (by omega) q1
theorem sortedIn.short {c : Cells} (xs : List Int) {a b : Int} (h : b ≤ a + 1) : sortedIn c xs a b := fun p q p0 pq q1 => by omega
theorem sortedIn.sub {c : Cells} {xs : List Int} {a b k d : Int} (h : sortedIn c xs a b) (ac : a ≤ k) (db : d ≤ b) : sortedIn c xs k d := fun p q p0 pq q1 => h p q (by omega) pq (by omega)
theorem sortedIn.join {c : Cells} {xs : List Int} {a m b : Int} (h : sortedIn c xs a m) (k : sortedIn c xs m b) (hx : ∀ p q : Int, a ≤ p → p < m → m ≤ q → q < b → leF c (gt xs p) (gt xs q)) : sortedIn c xs a b := fun p q p0 pq q1 => by
  by_cases e : q < m
  · exact h p q p0 pq e
  · by_cases f : p < m
    · exact hx p q p0 f (by omega) q1
    · exact k p q (by omega) pq q1
/-- Two halves, the one not above the other, each sorted anew. -/
theorem sortedIn.halves {c : Cells} {xs ys zs : List Int} {a m b : Int} (a0 : 0 ≤ a) (ac : a ≤ m) (cb : m ≤ b) (hx : ∀ p q : Int, a ≤ p → p < m → m ≤ q → q < b → leF c (gt xs p) (gt xs q))
    (h1 : turnIn xs ys a m) (s1 : sortedIn c ys a m) (h2 : turnIn ys zs m b) (s2 : sortedIn c zs m b) : turnIn xs zs a b ∧ sortedIn c zs a b := by
  refine ⟨(h1.wide a0 (Int.le_refl _) cb).trans (h2.wide a0 ac (Int.le_refl _)), ?_⟩
  refine sortedIn.join (m := m) (fun p q p0 pq q1 => ?_) s2 fun p q p0 p1 q0 q1 => ?_
  · rw [h2.out p (by omega) (by omega), h2.out q (by omega) (by omega)]; exact s1 p q p0 pq q1
  · obtain ⟨p', p0', p1', e⟩ := h1.into p p0 p1
    obtain ⟨q', q0', q1', f⟩ := h2.into q q0 q1
    rw [h2.out p (by omega) (by omega), e, f, h1.out q' (by omega) (by omega)]
    exact hx p' q' p0' p1' q0' q1'
/-- What stands left of a cut stood ahead of what stands right of it. -/
def apart (xs : List Int) (a m b : Int) : Prop := ∀ p q : Int, a ≤ p → p < m → m ≤ q → q < b → gt xs p < gt xs q
theorem rot_turn {xs ys : List Int} {a z m e b : Int} (a0 : 0 ≤ a) (az : a ≤ z) (zm : z ≤ m) (me : m ≤ e) (eb : e ≤ b) (hp : ys.Perm xs) (h : ∀ p : Int, 0 ≤ p → gt ys p = rotAt xs z m e p) : turnIn xs ys a b := by
  refine ⟨hp, fun p p0 h1 => ?_, fun p p0 p1 => ?_⟩
  · rw [h p p0]; simp only [rotAt]; rw [if_neg (by omega), if_neg (by omega)]
  · rw [h p (by omega)]; simp only [rotAt]
    split
    · exact ⟨_, by omega, by omega, rfl⟩
    · split
      · exact ⟨_, by omega, by omega, rfl⟩
      · exact ⟨p, p0, p1, rfl⟩
/-- The cut of a merge: what is left of it is not above what is right of it. -/
structure cutAt (c : Cells) (xs : List Int) (a z m e b : Int) : Prop where
  x : z = a ∨ e = b ∨ leF c (gt xs (z - 1)) (gt xs e)
  y : z = m ∨ e = m ∨ leF c (gt xs (e - 1)) (gt xs z)
theorem rot_sorted {c : Cells} {xs ys : List Int} {a z m e b : Int} (a0 : 0 ≤ a) (az : a ≤ z) (zm : z ≤ m) (me : m ≤ e) (eb : e ≤ b) (h : ∀ p : Int, 0 ≤ p → gt ys p = rotAt xs z m e p) (s1 : sortedIn c xs a m) (s2 : sortedIn c xs m b) (hc : cutAt c xs a z m e b) :
    sortedIn c ys a z ∧ sortedIn c ys z (z + e - m) ∧ sortedIn c ys (z + e - m) e ∧ sortedIn c ys e b ∧ ∀ p q : Int, a ≤ p → p < z + e - m → z + e - m ≤ q → q < b → leF c (gt ys p) (gt ys q) := by
  have hA : ∀ p, 0 ≤ p → p < z → gt ys p = gt xs p := fun p p0 p1 => by rw [h p p0]; simp only [rotAt]; rw [if_neg (by omega), if_neg (by omega)]
  have hB : ∀ p, z ≤ p → p < z + e - m → gt ys p = gt xs (p + (m - z)) := fun p p0 p1 => by rw [h p (by omega)]; simp only [rotAt]; rw [if_pos (by omega)]
  have hC : ∀ p, z + e - m ≤ p → p < e → gt ys p = gt xs (p - (e - m)) := fun p p0 p1 => by rw [h p (by omega)]; simp only [rotAt]; rw [if_neg (by omega), if_pos (by omega)]
  have hD : ∀ p, e ≤ p → gt ys p = gt xs p := fun p p0 => by rw [h p (by omega)]; simp only [rotAt]; rw [if_neg (by omega), if_neg (by omega)]
  refine ⟨fun p q p0 pq q1 => ?_, fun p q p0 pq q1 => ?_, fun p q p0 pq q1 => ?_, fun p q p0 pq q1 => ?_, fun p q p0 p1 q0 q1 => ?_⟩
  · rw [hA p (by omega) (by omega), hA q (by omega) (by omega)]; exact s1 p q p0 pq (by omega)
  · rw [hB p (by omega) (by omega), hB q (by omega) (by omega)]; exact s2 _ _ (by omega) (by omega) (by omega)
  · rw [hC p (by omega) (by omega), hC q (by omega) (by omega)]; exact s1 _ _ (by omega) (by omega) (by omega)
  · rw [hD p (by omega), hD q (by omega)]; exact s2 _ _ (by omega) (by omega) (by omega)
  · by_cases p2 : p < z
    · rw [hA p (by omega) p2]
      by_cases q2 : q < e
      · rw [hC q q0 q2]; exact s1 _ _ p0 (by omega) (by omega)
      · rw [hD q (by omega)]
        rcases hc.x with k | k | k
        · omega
        · omega
        · exact (s1.le p0 (by omega : p ≤ z - 1) (by omega)).trans (k.trans (s2.le (by omega) (by omega : e ≤ q) q1))
    · rw [hB p (by omega) p1]
      by_cases q2 : q < e
      · rw [hC q q0 q2]
        rcases hc.y with k | k | k
        · omega
        · omega
        · exact (s2.le (by omega) (by omega : p + (m - z) ≤ e - 1) (by omega)).trans (k.trans (s1.le (by omega) (by omega : z ≤ q - (e - m)) (by omega)))
      · rw [hD q (by omega)]; exact s2.le (by omega) (by omega) q1
theorem rot_apart {xs ys : List Int} {a z m e b : Int} (a0 : 0 ≤ a) (az : a ≤ z) (zm : z ≤ m) (me : m ≤ e) (eb : e ≤ b) (h : ∀ p : Int, 0 ≤ p → gt ys p = rotAt xs z m e p) (k : apart xs a m b) : apart ys a z (z + e - m) ∧ apart ys (z + e - m) e b := by
  have hA : ∀ p, 0 ≤ p → p < z → gt ys p = gt xs p := fun p p0 p1 => by rw [h p p0]; simp only [rotAt]; rw [if_neg (by omega), if_neg (by omega)]
  have hB : ∀ p, z ≤ p → p < z + e - m → gt ys p = gt xs (p + (m - z)) := fun p p0 p1 => by rw [h p (by omega)]; simp only [rotAt]; rw [if_pos (by omega)]
  have hC : ∀ p, z + e - m ≤ p → p < e → gt ys p = gt xs (p - (e - m)) := fun p p0 p1 => by rw [h p (by omega)]; simp only [rotAt]; rw [if_neg (by omega), if_pos (by omega)]
  have hD : ∀ p, e ≤ p → gt ys p = gt xs p := fun p p0 => by rw [h p (by omega)]; simp only [rotAt]; rw [if_neg (by omega), if_neg (by omega)]
  refine ⟨fun p q p0 p1 q0 q1 => ?_, fun p q p0 p1 q0 q1 => ?_⟩
  · rw [hA p (by omega) p1, hB q q0 q1]; exact k _ _ p0 (by omega) (by omega) (by omega)
  · rw [hC p p0 p1, hD q q0]; exact k _ _ (by omega) (by omega) (by omega) q1
end Lf
/- slices.symMerge with find.Sure's order. -/
namespace Lf
open Go Go.Abs
set_option linter.unusedVariables false
set_option linter.unusedSimpArgs false
theorem half_ok {x y : Int} (h : 0 ≤ x + y ∧ x + y ≤ 4000) : w6 (Int.fdiv (IntKind.wrap .u64 (w6 (x + y))) (2 ^ 1)) = (x + y) / 2 := by
  rw [w6_in (n := x + y) (by omega), IntKind.wrap_u64, show (2 : Int) ^ 1 = 2 from rfl, Int.fdiv_eq_ediv_of_nonneg _ (by omega)]
  rw [w6_in (by omega)]
  omega
def tailR (f : Nat) (d : List Int) (cc : Cells) (mid e b : Int) : Option (List Int × Cells) :=
  Option.bind (letF (decide (mid < e)) fun v => if v = true then some (decide (e < b)) else some false) fun z : Bool => if z = true then Option.bind (slices_symMergeCmpFunc_Int_find_Sure_1_2 f d mid e b cc) fun r => if d.length = r.1.length then some (r.1, r.2) else none else some (d, cc)
def tailL (f : Nat) (d : List Int) (cc : Cells) (a z mid e b : Int) : Option (List Int × Cells) :=
  Option.bind (if (decide (a < z)) = true then letF (decide (z < mid)) fun v => some v else some false) fun q : Bool => if q = true then Option.bind (slices_symMergeCmpFunc_Int_find_Sure_1_2 f d a z mid cc) fun r => if d.length = r.1.length then tailR f r.1 r.2 mid e b else none else tailR f d cc mid e b
def mergesAt (c : Cells) (f : Nat) : Prop := ∀ (xs : List Int) (a m b : Int), 0 ≤ a → a < m → m < b → b ≤ xs.length → xs.length ≤ 1000 → b - a ≤ 2 ^ f → (∀ x ∈ xs, inF c x) → apart xs a m b → sortedIn c xs a m → sortedIn c xs m b →
    Has (slices_symMergeCmpFunc_Int_find_Sure_1_2 f xs a m b c) fun r => (turnIn xs r.1 a b ∧ sortedIn c r.1 a b) ∧ r.2 = c
theorem turnIn.all {c : Cells} {xs ys : List Int} {a b : Int} (h : turnIn xs ys a b) (k : ∀ x ∈ xs, inF c x) : ∀ x ∈ ys, inF c x := fun x hx => k x (h.perm.mem_iff.1 hx)
theorem turnIn.apart {xs ys : List Int} {a b k m n : Int} (h : turnIn xs ys a b) (ho : ∀ p, k ≤ p → p < n → 0 ≤ p ∧ (p < a ∨ b ≤ p)) (q : apart xs k m n) (km : k ≤ m) (mn : m ≤ n) : apart ys k m n := fun p r p0 p1 r0 r1 => by
  obtain ⟨u0, u1⟩ := ho p p0 (by omega)
  obtain ⟨v0, v1⟩ := ho r (by omega) r1
  rw [h.out p u0 u1, h.out r v0 v1]; exact q p r p0 p1 r0 r1
theorem tailR_ok {c : Cells} {f : Nat} (ih : mergesAt c f) (xs : List Int) (m e b : Int) (m0 : 0 ≤ m) (me : m ≤ e) (eb : e ≤ b) (hb : b ≤ xs.length) (hl : xs.length ≤ 1000) (hf : b - m ≤ 2 ^ f) (hx : ∀ x ∈ xs, inF c x) (ap : apart xs m e b) (s1 : sortedIn c xs m e) (s2 : sortedIn c xs e b) :
    Has (tailR f xs c m e b) fun r => (turnIn xs r.1 m b ∧ sortedIn c r.1 m b) ∧ r.2 = c := by
  unfold tailR
  refine Has.bind (P := fun q : Bool => (q = true → m < e ∧ e < b) ∧ (q = false → m = e ∨ e = b)) ?_ fun q ⟨q1, q2⟩ => ?_
  · refine Has.letF (Has.ite (fun h => Has.ret ⟨fun h' => ⟨of_decide_eq_true h, of_decide_eq_true h'⟩, fun h' => .inr ?_⟩) fun h => Has.ret ⟨(fun h' => nomatch h'), fun _ => .inl ?_⟩)
    · have := of_decide_eq_false h'; omega
    · have : ¬ m < e := fun k => h (decide_eq_true k)
      omega
  · refine Has.ite (fun h => ?_) fun h => ?_
    · obtain ⟨h1, h2⟩ := q1 h
      refine (ih xs m e b m0 h1 h2 hb hl hf hx ap s1 s2).bind fun r ⟨⟨r1, r2⟩, r3⟩ => Has.chk r1.len.symm (Has.ret ⟨⟨r1, r2⟩, r3⟩)
    · refine Has.ret ⟨⟨turnIn.refl _ _ _, ?_⟩, rfl⟩
      rcases q2 (by simpa using h) with k | k
      · rw [k]; exact s2
      · rw [← k]; exact s1
theorem tailL_ok {c : Cells} {f : Nat} (ih : mergesAt c f) (xs : List Int) (a z m e b : Int) (a0 : 0 ≤ a) (az : a ≤ z) (zm : z ≤ m) (me : m ≤ e) (eb : e ≤ b) (hb : b ≤ xs.length) (hl : xs.length ≤ 1000) (hf1 : b - m ≤ 2 ^ f) (hf2 : m - a ≤ 2 ^ f) (hI : ∀ x ∈ xs, inF c x) (p1' : apart xs a z m) (p2' : apart xs m e b)
    (s1 : sortedIn c xs a z) (s2 : sortedIn c xs z m) (s3 : sortedIn c xs m e) (s4 : sortedIn c xs e b) (hx : ∀ p q : Int, a ≤ p → p < m → m ≤ q → q < b → leF c (gt xs p) (gt xs q)) :
    Has (tailL f xs c a z m e b) fun r => (turnIn xs r.1 a b ∧ sortedIn c r.1 a b) ∧ r.2 = c := by
  unfold tailL
  refine Has.bind (P := fun q : Bool => (q = true → a < z ∧ z < m) ∧ (q = false → a = z ∨ z = m)) ?_ fun q ⟨q1, q2⟩ => ?_
  · refine Has.ite (fun h => Has.letF (Has.ret ⟨fun h' => ⟨of_decide_eq_true h, of_decide_eq_true h'⟩, fun h' => .inr ?_⟩)) fun h => Has.ret ⟨(fun h' => nomatch h'), fun _ => .inl ?_⟩
    · have := of_decide_eq_false h'; omega
    · have : ¬ a < z := fun k => h (decide_eq_true k)
      omega
  · refine Has.ite (fun h => ?_) fun h => ?_
    · obtain ⟨h1, h2⟩ := q1 h
      refine (ih xs a z m a0 h1 h2 (by omega) hl hf2 hI p1' s1 s2).bind fun r ⟨⟨r1, r2⟩, r3⟩ => Has.chk r1.len.symm ?_
      rw [r3]
      have rl := r1.len
      refine (tailR_ok ih r.1 m e b (by omega) me eb (by omega) (by omega) hf1 (r1.all hI) (r1.apart (fun p p0 p1 => by omega) p2' me eb) (fun p q p0 pq q1 => ?_) fun p q p0 pq q1 => ?_).mono fun y ⟨⟨y1, y2⟩, y3⟩ => ⟨sortedIn.halves a0 (by omega) (by omega) hx r1 r2 y1 y2, y3⟩
      · rw [r1.out p (by omega) (by omega), r1.out q (by omega) (by omega)]; exact s3 p q p0 pq q1
      · rw [r1.out p (by omega) (by omega), r1.out q (by omega) (by omega)]; exact s4 p q p0 pq q1
    · have sL : sortedIn c xs a m := by
        rcases q2 (by simpa using h) with k | k
        · rw [k]; exact s2
        · rw [← k]; exact s1
      exact (tailR_ok ih xs m e b (by omega) me eb hb hl hf1 hI p2' s3 s4).mono fun y ⟨⟨y1, y2⟩, y3⟩ => ⟨sortedIn.halves a0 (by omega) (by omega) hx (turnIn.refl _ _ _) sL y1 y2, y3⟩
end Lf
/- slices.symMerge with find.Sure's order: the searches. -/
namespace Lf
open Go Go.Abs
set_option linter.unusedVariables false
set_option linter.unusedSimpArgs false
theorem seek6 {c : Cells} (xs : List Int) (n lo hi : Int) (h0 : 0 ≤ lo) (h1 : lo ≤ hi) (hh : hi ≤ xs.length) (hl : xs.length ≤ 1000) (hn : n ≤ 2000) (hp : ∀ k, lo ≤ k → k < hi → 0 ≤ n - 1 - k ∧ n - 1 - k < xs.length) (hI : ∀ x ∈ xs, inF c x) (hle : ∀ k, lo ≤ k → k < hi → gt xs k ≤ gt xs (n - 1 - k)) :
    Has (loopF (slices_symMergeCmpFunc_Int_find_Sure_1_2.l6 xs c n) (lo, hi)) fun z => lo ≤ z ∧ z ≤ hi ∧ (z = lo ∨ leF c (gt xs (z - 1)) (gt xs (n - z))) ∧ (z = hi ∨ leF c (gt xs (n - 1 - z)) (gt xs z)) := by
  refine Has.loop (fun t : Int × Int => lo ≤ t.1 ∧ t.1 ≤ t.2 ∧ t.2 ≤ hi ∧ (t.1 = lo ∨ leF c (gt xs (t.1 - 1)) (gt xs (n - t.1))) ∧ (t.2 = hi ∨ leF c (gt xs (n - 1 - t.2)) (gt xs t.2))) (fun t => (t.2 - t.1).toNat) _
    ⟨Int.le_refl _, h1, Int.le_refl _, .inl rfl, .inl rfl⟩ (by simp only []; omega) fun t ⟨t1, t2, t3, t4, t5⟩ => ?_
  unfold slices_symMergeCmpFunc_Int_find_Sure_1_2.l6
  rw [half_ok (by omega)]
  refine Has.ite (fun hi' => ?_) fun hi' => ?_
  · have hi' : t.1 < t.2 := of_decide_eq_true hi'
    have b := hp ((t.1 + t.2) / 2) (by omega) (by omega)
    rw [w6_in (n := n - 1) (by omega), w6_in (n := n - 1 - (t.1 + t.2) / 2) (by omega), w6_in (n := (t.1 + t.2) / 2 + 1) (by omega)]
    refine Has.letF (Has.chk b (Has.chk ⟨by omega, by omega⟩ ((order_lt (hI _ (gt_mem _ _ (by omega))) (hI _ (gt_mem _ _ (by omega)))).bind fun r ⟨r1, r2⟩ => Has.ite (fun h => ?_) fun h => ?_)))
    · have h : ¬ r < 0 := by simpa using h
      refine Has.letF (Has.ret (.next ⟨by simp only []; omega, by simp only []; omega, t3, .inr ?_, t5⟩ (by simp only []; omega)))
      have := r2 h (hle _ (by omega) (by omega))
      simp only []
      rw [show (t.1 + t.2) / 2 + 1 - 1 = (t.1 + t.2) / 2 by omega, show n - ((t.1 + t.2) / 2 + 1) = n - 1 - (t.1 + t.2) / 2 by omega]
      exact this
    · have h : r < 0 := by simpa using h
      exact Has.ret (.next ⟨t1, by simp only []; omega, by simp only []; omega, t4, .inr (r1 h)⟩ (by simp only []; omega))
  · have hi' : ¬ t.1 < t.2 := fun q => hi' (decide_eq_true q)
    have e : t.1 = t.2 := by omega
    exact Has.ret (.done ⟨t1, by omega, t4, by rw [e]; exact t5⟩)
theorem seek5 {c : Cells} (xs : List Int) (n lo hi : Int) (h0 : 0 ≤ lo) (h1 : lo ≤ hi) (hh : hi ≤ xs.length) (hl : xs.length ≤ 1000) (hn : n ≤ 2000) (hp : ∀ k, lo ≤ k → k < hi → 0 ≤ n - 1 - k ∧ n - 1 - k < xs.length) (hI : ∀ x ∈ xs, inF c x) (hle : ∀ k, lo ≤ k → k < hi → gt xs k ≤ gt xs (n - 1 - k)) :
    Has (loopF (slices_symMergeCmpFunc_Int_find_Sure_1_2.l5 xs c n) (lo, hi)) fun z => lo ≤ z ∧ z ≤ hi ∧ (z = lo ∨ leF c (gt xs (z - 1)) (gt xs (n - z))) ∧ (z = hi ∨ leF c (gt xs (n - 1 - z)) (gt xs z)) := seek6 xs n lo hi h0 h1 hh hl hn hp hI hle
theorem seek1 {c : Cells} (xs : List Int) (a m b : Int) (h0 : 0 ≤ m) (h1 : m ≤ b) (hh : b ≤ xs.length) (hl : xs.length ≤ 1000) (ha : 0 ≤ a ∧ a < xs.length) (hI : ∀ x ∈ xs, inF c x) (hle : ∀ k, m ≤ k → k < b → gt xs a ≤ gt xs k) :
    Has (loopF (slices_symMergeCmpFunc_Int_find_Sure_1_2.l1 xs a c) (m, b)) fun z => m ≤ z ∧ z ≤ b ∧ (z = m ∨ leF c (gt xs (z - 1)) (gt xs a)) ∧ (z = b ∨ leF c (gt xs a) (gt xs z)) := by
  refine Has.loop (fun t : Int × Int => m ≤ t.1 ∧ t.1 ≤ t.2 ∧ t.2 ≤ b ∧ (t.1 = m ∨ leF c (gt xs (t.1 - 1)) (gt xs a)) ∧ (t.2 = b ∨ leF c (gt xs a) (gt xs t.2))) (fun t => (t.2 - t.1).toNat) _
    ⟨Int.le_refl _, h1, Int.le_refl _, .inl rfl, .inl rfl⟩ (by simp only []; omega) fun t ⟨t1, t2, t3, t4, t5⟩ => ?_
  unfold slices_symMergeCmpFunc_Int_find_Sure_1_2.l1
  rw [half_ok (by omega)]
  refine Has.ite (fun hi' => ?_) fun hi' => ?_
  · have hi' : t.1 < t.2 := of_decide_eq_true hi'
    rw [w6_in (n := (t.1 + t.2) / 2 + 1) (by omega)]
    refine Has.chk ⟨by omega, by omega⟩ (Has.chk ha ((order_lt (hI _ (gt_mem _ _ (by omega))) (hI _ (gt_mem _ _ (by omega)))).bind fun r ⟨r1, r2⟩ => Has.ite (fun h => ?_) fun h => ?_))
    · have h : r < 0 := by simpa using h
      refine Has.letF (Has.ret (.next ⟨by simp only []; omega, by simp only []; omega, t3, .inr ?_, t5⟩ (by simp only []; omega)))
      simp only []
      rw [show (t.1 + t.2) / 2 + 1 - 1 = (t.1 + t.2) / 2 by omega]
      exact r1 h
    · have h : ¬ r < 0 := by simpa using h
      exact Has.ret (.next ⟨t1, by simp only []; omega, by simp only []; omega, t4, .inr (r2 h (hle _ (by omega) (by omega)))⟩ (by simp only []; omega))
  · have hi' : ¬ t.1 < t.2 := fun q => hi' (decide_eq_true q)
    have e : t.1 = t.2 := by omega
    exact Has.ret (.done ⟨t1, by omega, t4, by rw [e]; exact t5⟩)
theorem seek3 {c : Cells} (xs : List Int) (a m : Int) (h0 : 0 ≤ a) (h1 : a ≤ m) (hh : m ≤ xs.length) (hl : xs.length ≤ 1000) (ha : 0 ≤ m ∧ m < xs.length) (hI : ∀ x ∈ xs, inF c x) (hle : ∀ k, a ≤ k → k < m → gt xs k ≤ gt xs m) :
    Has (loopF (slices_symMergeCmpFunc_Int_find_Sure_1_2.l3 xs m c) (a, m)) fun z => a ≤ z ∧ z ≤ m ∧ (z = a ∨ leF c (gt xs (z - 1)) (gt xs m)) ∧ (z = m ∨ leF c (gt xs m) (gt xs z)) := by
  refine Has.loop (fun t : Int × Int => a ≤ t.1 ∧ t.1 ≤ t.2 ∧ t.2 ≤ m ∧ (t.1 = a ∨ leF c (gt xs (t.1 - 1)) (gt xs m)) ∧ (t.2 = m ∨ leF c (gt xs m) (gt xs t.2))) (fun t => (t.2 - t.1).toNat) _
    ⟨Int.le_refl _, h1, Int.le_refl _, .inl rfl, .inl rfl⟩ (by simp only []; omega) fun t ⟨t1, t2, t3, t4, t5⟩ => ?_
  unfold slices_symMergeCmpFunc_Int_find_Sure_1_2.l3
  rw [half_ok (by omega)]
  refine Has.ite (fun hi' => ?_) fun hi' => ?_
  · have hi' : t.1 < t.2 := of_decide_eq_true hi'
    rw [w6_in (n := (t.1 + t.2) / 2 + 1) (by omega)]
    refine Has.chk ha (Has.chk ⟨by omega, by omega⟩ ((order_lt (hI _ (gt_mem _ _ (by omega))) (hI _ (gt_mem _ _ (by omega)))).bind fun r ⟨r1, r2⟩ => Has.ite (fun h => ?_) fun h => ?_))
    · have h : ¬ r < 0 := by simpa using h
      refine Has.letF (Has.ret (.next ⟨by simp only []; omega, by simp only []; omega, t3, .inr ?_, t5⟩ (by simp only []; omega)))
      simp only []
      rw [show (t.1 + t.2) / 2 + 1 - 1 = (t.1 + t.2) / 2 by omega]
      exact r2 h (hle _ (by omega) (by omega))
    · have h : r < 0 := by simpa using h
      exact Has.ret (.next ⟨t1, by simp only []; omega, by simp only []; omega, t4, .inr (r1 h)⟩ (by simp only []; omega))
  · have hi' : ¬ t.1 < t.2 := fun q => hi' (decide_eq_true q)
    have e : t.1 = t.2 := by omega
    exact Has.ret (.done ⟨t1, by omega, t4, by rw [e]; exact t5⟩)
end Lf
/- slices.symMerge with find.Sure's order: one element into a stretch, and the whole. -/
namespace Lf
open Go Go.Abs
set_option linter.unusedVariables false
set_option linter.unusedSimpArgs false
theorem ins2 (xs : List Int) (a z : Int) (a0 : 0 ≤ a) (az : a + 1 ≤ z) (hz : z ≤ xs.length) (hl : xs.length ≤ 1000) :
    Has (loopF (slices_symMergeCmpFunc_Int_find_Sure_1_2.l2 z) (xs, a)) fun r => r.Perm xs ∧ ∀ p : Int, 0 ≤ p → gt r p = rotAt xs a (a + 1) z p := by
  refine Has.loop (fun t : List Int × Int => a ≤ t.2 ∧ t.2 + 1 ≤ z ∧ t.1.Perm xs ∧ ∀ p : Int, 0 ≤ p → gt t.1 p = rotAt xs a (a + 1) (t.2 + 1) p) (fun t => (z - t.2).toNat) _
    ⟨Int.le_refl _, az, List.Perm.refl _, fun p p0 => by simp only [rotAt]; split <;> (try split) <;> first | rfl | omega | (congr 1; omega)⟩ (by simp only []; omega) fun t ⟨t0, t1, t2, t3⟩ => ?_
  have tl := t2.length_eq
  unfold slices_symMergeCmpFunc_Int_find_Sure_1_2.l2
  rw [w6_in (n := z - 1) (by omega)]
  refine Has.ite (fun hi => ?_) fun hi => ?_
  · have hi : t.2 < z - 1 := of_decide_eq_true hi
    rw [w6_in (n := t.2 + 1) (by omega)]
    have st := swap_turn t.1 (i := t.2) (j := t.2 + 1) (a := 0) (b := xs.length) (by omega) (by omega) (by omega) (by omega) (by omega) (by omega) (by omega) (by omega)
    refine Has.chk ⟨by omega, by omega⟩ (Has.chk ⟨by omega, by omega⟩ (Has.letF (Has.ret (.next ⟨by simp only []; omega, by simp only []; omega, st.perm.trans t2, fun p p0 => ?_⟩ (by simp only []; omega)))))
    simp only []
    by_cases e1 : p = t.2 + 1
    · rw [e1, gt_set_eq (by omega) (by simp only [List.length_set]; omega), t3 _ (by omega)]
      simp only [rotAt]
      rw [if_neg (by omega), if_pos (by omega), if_neg (by omega), if_pos (by omega)]
      congr 1; omega
    · rw [gt_set_ne (by omega) p0 (by omega)]
      by_cases e2 : p = t.2
      · rw [e2, gt_set_eq (by omega) (by omega), t3 _ (by omega)]
        simp only [rotAt]
        rw [if_neg (by omega), if_neg (by omega), if_pos (by omega)]
        congr 1; omega
      · rw [gt_set_ne (by omega) p0 (by omega), t3 _ p0]
        simp only [rotAt]
        split <;> split <;> (try split) <;> (try split) <;> first | rfl | omega | (congr 1; omega)
  · have hi : ¬ t.2 < z - 1 := fun q => hi (decide_eq_true q)
    have : t.2 + 1 = z := by omega
    exact Has.ret (.done ⟨t2, fun p p0 => by rw [t3 p p0, this]⟩)
theorem ins4 (xs : List Int) (z m : Int) (z0 : 0 ≤ z) (zm : z ≤ m) (hz : m < xs.length) (hl : xs.length ≤ 1000) :
    Has (loopF (slices_symMergeCmpFunc_Int_find_Sure_1_2.l4 z) (xs, m)) fun r => r.Perm xs ∧ ∀ p : Int, 0 ≤ p → gt r p = rotAt xs z m (m + 1) p := by
  refine Has.loop (fun t : List Int × Int => z ≤ t.2 ∧ t.2 ≤ m ∧ t.1.Perm xs ∧ ∀ p : Int, 0 ≤ p → gt t.1 p = rotAt xs t.2 m (m + 1) p) (fun t => t.2.toNat) _
    ⟨zm, Int.le_refl _, List.Perm.refl _, fun p p0 => by simp only [rotAt]; split <;> (try split) <;> first | rfl | omega | (congr 1; omega)⟩ (by simp only []; omega) fun t ⟨t0, t1, t2, t3⟩ => ?_
  have tl := t2.length_eq
  unfold slices_symMergeCmpFunc_Int_find_Sure_1_2.l4
  refine Has.ite (fun hi => ?_) fun hi => ?_
  · have hi : t.2 > z := of_decide_eq_true hi
    rw [w6_in (n := t.2 - 1) (by omega)]
    have st := swap_turn t.1 (i := t.2) (j := t.2 - 1) (a := 0) (b := xs.length) (by omega) (by omega) (by omega) (by omega) (by omega) (by omega) (by omega) (by omega)
    refine Has.chk ⟨by omega, by omega⟩ (Has.chk ⟨by omega, by omega⟩ (Has.letF (Has.ret (.next ⟨by simp only []; omega, by simp only []; omega, st.perm.trans t2, fun p p0 => ?_⟩ (by simp only []; omega)))))
    simp only []
    by_cases e1 : p = t.2 - 1
    · rw [e1, gt_set_eq (by omega) (by simp only [List.length_set]; omega), t3 _ (by omega)]
      simp only [rotAt]
      rw [if_pos (by omega), if_pos (by omega)]
      congr 1; omega
    · rw [gt_set_ne (by omega) p0 (by omega)]
      by_cases e2 : p = t.2
      · rw [e2, gt_set_eq (by omega) (by omega), t3 _ (by omega)]
        simp only [rotAt]
        rw [if_neg (by omega), if_neg (by omega), if_neg (by omega), if_pos (by omega)]
        congr 1; omega
      · rw [gt_set_ne (by omega) p0 (by omega), t3 _ p0]
        simp only [rotAt]
        split <;> split <;> (try split) <;> (try split) <;> first | rfl | omega | (congr 1; omega)
  · have hi : ¬ t.2 > z := fun q => hi (decide_eq_true q)
    have : t.2 = z := by omega
    exact Has.ret (.done ⟨t2, fun p p0 => by rw [t3 p p0, this]⟩)
end Lf
/- slices.symMerge with find.Sure's order: the whole. -/
namespace Lf
open Go Go.Abs
set_option linter.unusedVariables false
set_option linter.unusedSimpArgs false
theorem after_ok {c : Cells} {f : Nat} (ih : mergesAt c f) (xs : List Int) (a z m e b mid : Int) (a0 : 0 ≤ a) (az : a ≤ z) (zm : z ≤ m) (me : m ≤ e) (eb : e ≤ b) (hb : b ≤ xs.length) (hl : xs.length ≤ 1000) (hm : mid = z + e - m) (hf1 : b - mid ≤ 2 ^ f) (hf2 : mid - a ≤ 2 ^ f)
    (s1 : sortedIn c xs a m) (s2 : sortedIn c xs m b) (hI : ∀ x ∈ xs, inF c x) (ap : apart xs a m b) (hc : cutAt c xs a z m e b) :
    Has (Option.bind (if (decide (z < m)) = true then some (decide (m < e)) else some false) fun q : Bool => if q = true then Option.bind (slices_rotateCmpFunc_Int_find_Sure_1 xs z m e c) fun r => if xs.length = r.length then tailL f r c a z mid e b else none else tailL f xs c a z mid e b) fun r => (turnIn xs r.1 a b ∧ sortedIn c r.1 a b) ∧ r.2 = c := by
  have go : ∀ ys : List Int, ys.Perm xs → (∀ p : Int, 0 ≤ p → gt ys p = rotAt xs z m e p) → Has (tailL f ys c a z mid e b) fun r => (turnIn xs r.1 a b ∧ sortedIn c r.1 a b) ∧ r.2 = c := fun ys hp hy => by
    have t := rot_turn a0 az zm me eb hp hy
    obtain ⟨k1, k2, k3, k4, k5⟩ := rot_sorted a0 az zm me eb hy s1 s2 hc
    obtain ⟨q1, q2⟩ := rot_apart a0 az zm me eb hy ap
    rw [← hm] at k2 k3 k5 q1 q2
    have yl := t.len
    exact (tailL_ok ih ys a z mid e b a0 az (by omega) (by omega) eb (by omega) (by omega) hf1 hf2 (t.all hI) q1 q2 k1 k2 k3 k4 k5).mono fun r ⟨⟨r1, r2⟩, r3⟩ => ⟨⟨t.trans r1, r2⟩, r3⟩
  refine Has.bind (P := fun q : Bool => (q = true → z < m ∧ m < e) ∧ (q = false → z = m ∨ m = e)) ?_ fun q ⟨q1, q2⟩ => ?_
  · refine Has.ite (fun h => Has.ret ⟨fun h' => ⟨of_decide_eq_true h, of_decide_eq_true h'⟩, fun h' => .inr ?_⟩) fun h => Has.ret ⟨(fun h' => nomatch h'), fun _ => .inl ?_⟩
    · have := of_decide_eq_false h'; omega
    · have : ¬ z < m := fun k => h (decide_eq_true k)
      omega
  · refine Has.ite (fun h => ?_) fun h => ?_
    · obtain ⟨h1, h2⟩ := q1 h
      exact (rot_ok xs z m e (by omega) h1 h2 (by omega) hl).bind fun r ⟨r1, r2⟩ => Has.chk r1.length_eq.symm (go r r1 r2)
    · refine go xs (List.Perm.refl _) fun p p0 => ?_
      simp only [rotAt]
      rcases q2 (by simpa using h) with k | k <;> split <;> (try split) <;> first | rfl | omega | (congr 1; omega)
theorem symM_ok {c : Cells} : ∀ f : Nat, mergesAt c f
  | 0 => fun xs a m b a0 am mb hb hl hf hI ap s1 s2 => by rw [Int.pow_zero] at hf; omega
  | f + 1 => fun xs a m b a0 am mb hb hl hf hI ap s1 s2 => by
    have ih := symM_ok (c := c) f
    have hp : (2 : Int) ^ (f + 1) = 2 ^ f * 2 := Int.pow_succ ..
    rw [hp] at hf
    generalize hz : (2 : Int) ^ f = pw at hf
    unfold slices_symMergeCmpFunc_Int_find_Sure_1_2
    rw [w6_in (n := m - a) (by omega), w6_in (n := b - m) (by omega)]
    refine Has.ite (fun h1 => ?_) fun h1 => Has.ite (fun h2 => ?_) fun h2 => ?_
    · have h1 : m - a = 1 := by simpa using h1
      have em : m = a + 1 := by omega
      refine (seek1 xs a m b (by omega) (by omega) hb hl ⟨a0, by omega⟩ hI fun k k0 k1 => Int.le_of_lt (ap a k (Int.le_refl _) am k0 k1)).bind fun z ⟨z0, z1, z2, z3⟩ => ?_
      refine (ins2 xs a z a0 (by omega) (by omega) hl).bind fun r ⟨r1, r2⟩ => Has.ret ?_
      rw [← em] at r2
      obtain ⟨k1, k2, k3, k4, k5⟩ := rot_sorted (e := z) (z := a) a0 (Int.le_refl _) (by omega) (by omega) z1 r2 s1 s2 ⟨.inl rfl, .inr z2⟩
      refine ⟨⟨rot_turn a0 (Int.le_refl _) (by omega) (by omega) z1 r1 r2, sortedIn.join k2 (sortedIn.join k3 k4 fun p q p0 p1 q0 q1 => ?_) k5⟩, rfl⟩
      rw [r2 p (by omega), r2 q (by omega)]
      simp only [rotAt]
      rw [if_neg (by omega), if_pos (by omega), if_neg (by omega), if_neg (by omega), show p - (z - m) = a by omega]
      rcases z3 with k | k
      · omega
      · exact k.trans (s2.le z0 q0 q1)
    · have h2 : b - m = 1 := by simpa using h2
      refine (seek3 xs a m a0 (by omega) (by omega) hl ⟨by omega, by omega⟩ hI fun k k0 k1 => Int.le_of_lt (ap k m k0 k1 (Int.le_refl _) mb)).bind fun z ⟨z0, z1, z2, z3⟩ => ?_
      refine (ins4 xs z m (by omega) z1 (by omega) hl).bind fun r ⟨r1, r2⟩ => Has.ret ?_
      obtain ⟨k1, k2, k3, k4, k5⟩ := rot_sorted (e := m + 1) (b := b) (z := z) a0 z0 z1 (by omega) (by omega) r2 s1 s2 ⟨.inr (.inl (by omega)), by
        rcases z3 with k | k
        · exact .inl k
        · exact .inr (.inr (by rw [show m + 1 - 1 = m by omega]; exact k))⟩
      refine ⟨⟨rot_turn a0 z0 z1 (by omega) (by omega) r1 r2, sortedIn.join (sortedIn.join k1 k2 fun p q p0 p1 q0 q1 => ?_) (sortedIn.join k3 k4 fun p q p0 p1 q0 q1 => by omega) k5⟩, rfl⟩
      rw [r2 p (by omega), r2 q (by omega)]
      simp only [rotAt]
      rw [if_neg (by omega), if_neg (by omega), if_pos (by omega), show q + (m - z) = m by omega]
      rcases z2 with k | k
      · omega
      · exact (s1.le p0 (by omega : p ≤ z - 1) (by omega)).trans k
    · have h1 : ¬ m - a = 1 := by simpa using h1
      have h2 : ¬ b - m = 1 := by simpa using h2
      rw [half_ok (x := a) (y := b) (by omega), w6_in (n := (a + b) / 2 + m) (by omega)]
      refine Has.letF (Has.letF (Has.ite (fun h => ?_) fun h => ?_))
      · have h : m > (a + b) / 2 := of_decide_eq_true h
        rw [w6_in (n := (a + b) / 2 + m - b) (by omega)]
        refine (seek5 xs ((a + b) / 2 + m) ((a + b) / 2 + m - b) ((a + b) / 2) (by omega) (by omega) (by omega) hl (by omega) (fun k c0 c1 => by omega) hI fun k c0 c1 => Int.le_of_lt (ap _ _ (by omega) (by omega) (by omega) (by omega))).bind fun z ⟨z0, z1, z2, z3⟩ => ?_
        rw [w6_in (n := (a + b) / 2 + m - z) (by omega)]
        refine after_ok ih xs a z m ((a + b) / 2 + m - z) b ((a + b) / 2) a0 (by omega) (by omega) (by omega) (by omega) hb hl (by omega) (by rw [hz]; omega) (by rw [hz]; omega) s1 s2 hI ap ⟨?_, ?_⟩
        · rcases z2 with k | k
          · exact .inr (.inl (by omega))
          · exact .inr (.inr k)
        · rcases z3 with k | k
          · exact .inr (.inl (by omega))
          · exact .inr (.inr (by rw [show (a + b) / 2 + m - z - 1 = (a + b) / 2 + m - 1 - z by omega]; exact k))
      · have h : ¬ m > (a + b) / 2 := fun k => h (decide_eq_true k)
        refine (seek6 xs ((a + b) / 2 + m) a m a0 (by omega) (by omega) hl (by omega) (fun k c0 c1 => by omega) hI fun k c0 c1 => Int.le_of_lt (ap _ _ (by omega) (by omega) (by omega) (by omega))).bind fun z ⟨z0, z1, z2, z3⟩ => ?_
        rw [w6_in (n := (a + b) / 2 + m - z) (by omega)]
        refine after_ok ih xs a z m ((a + b) / 2 + m - z) b ((a + b) / 2) a0 (by omega) (by omega) (by omega) (by omega) hb hl (by omega) (by rw [hz]; omega) (by rw [hz]; omega) s1 s2 hI ap ⟨?_, ?_⟩
        · rcases z2 with k | k
          · exact .inl k
          · exact .inr (.inr k)
        · rcases z3 with k | k
          · exact .inl k
          · exact .inr (.inr (by rw [show (a + b) / 2 + m - z - 1 = (a + b) / 2 + m - 1 - z by omega]; exact k))
end Lf
/- find.Sure's stable sort: the whole. -/
namespace Lf
open Go Go.Abs
set_option linter.unusedVariables false
set_option linter.unusedSimpArgs false
/-- A list that is sorted between cuts, each place's element from between the same cuts. -/
structure StC (c : Cells) (C : Int → Prop) (xs ys : List Int) : Prop where
  perm : ys.Perm xs
  inn : ∀ p : Int, 0 ≤ p → p < xs.length → ∃ q : Int, 0 ≤ q ∧ q < xs.length ∧ gt ys p = gt xs q ∧ ∀ m, C m → (p < m ↔ q < m)
  srt : ∀ p q : Int, 0 ≤ p → p < q → q < xs.length → (∀ m, C m → (p < m ↔ q < m)) → leF c (gt ys p) (gt ys q)
section
variable {c : Cells} {C D : Int → Prop} {xs ys zs : List Int}
theorem StC.congr (h : StC c C xs ys) (e : ∀ k : Int, 0 < k → k < xs.length → (C k ↔ D k)) : StC c D xs ys := by
  refine ⟨h.perm, fun p p0 p1 => ?_, fun p q p0 pq q1 hm => ?_⟩
  · obtain ⟨q, q0, q1, q2, q3⟩ := h.inn p p0 p1
    refine ⟨q, q0, q1, q2, fun m hm => ?_⟩
    by_cases h1 : 0 < m ∧ m < xs.length
    · exact q3 m ((e m h1.1 h1.2).2 hm)
    · omega
  · refine h.srt p q p0 pq q1 fun m hm' => ?_
    by_cases h1 : 0 < m ∧ m < xs.length
    · exact hm m ((e m h1.1 h1.2).1 hm')
    · omega
theorem StC.sorted (h : StC c C xs ys) {a b : Int} (a0 : 0 ≤ a) (ab : a ≤ b) (hb : b ≤ xs.length) (t : turnIn ys zs a b) (s : sortedIn c zs a b) (ca : a = 0 ∨ C a) (cb : b = xs.length ∨ C b) : StC c (fun k => C k ∧ ¬ (a < k ∧ k < b)) xs zs := by
  refine ⟨t.perm.trans h.perm, fun p p0 p1 => ?_, fun p q p0 pq q1 hm => ?_⟩
  · by_cases hp : a ≤ p ∧ p < b
    · obtain ⟨r, r0, r1, e⟩ := t.into p hp.1 hp.2
      obtain ⟨q, q0, q1, e2, q3⟩ := h.inn r (by omega) (by omega)
      exact ⟨q, q0, q1, e.trans e2, fun m ⟨hm, hn⟩ => by have := q3 m hm; omega⟩
    · obtain ⟨q, q0, q1, e2, q3⟩ := h.inn p p0 p1
      exact ⟨q, q0, q1, (t.out p p0 (by omega)).trans e2, fun m ⟨hm, hn⟩ => q3 m hm⟩
  · have ha : ¬ (p < a ∧ a ≤ q) := fun ⟨u, v⟩ => by
      rcases ca with e | e
      · omega
      · have := hm a ⟨e, by omega⟩; omega
    have hb' : ¬ (p < b ∧ b ≤ q) := fun ⟨u, v⟩ => by
      rcases cb with e | e
      · omega
      · have := hm b ⟨e, by omega⟩; omega
    by_cases hp : a ≤ p ∧ q < b
    · exact s p q hp.1 pq hp.2
    · rw [t.out p p0 (by omega), t.out q (by omega) (by omega)]
      refine h.srt p q p0 pq q1 fun m hm' => ?_
      by_cases hi : a < m ∧ m < b
      · omega
      · exact hm m ⟨hm', hi⟩
theorem StC.part (h : StC c C xs ys) {a b : Int} (a0 : 0 ≤ a) (hb : b ≤ xs.length) (hn : ∀ k, C k → ¬ (a < k ∧ k < b)) : sortedIn c ys a b := fun p q p0 pq q1 =>
  h.srt p q (by omega) pq (by omega) fun m hm => by have := hn m hm; omega
theorem StC.apart (h : StC c C xs ys) {a m b : Int} (a0 : 0 ≤ a) (hb : b ≤ xs.length) (hm : C m) (hinc : ∀ p q : Int, 0 ≤ p → p < q → q < xs.length → gt xs p < gt xs q) : apart ys a m b := fun p q p0 p1 q0 q1 => by
  obtain ⟨p', u0, u1, e, f⟩ := h.inn p (by omega) (by omega)
  obtain ⟨q', v0, v1, e', f'⟩ := h.inn q (by omega) (by omega)
  rw [e, e']
  have := f m hm; have := f' m hm
  exact hinc p' q' u0 (by omega) v1
end
theorem mult_one {s a k : Int} (hs : 0 < s) (ha : s ∣ a) (hk : s ∣ k) (h1 : a < k) (h2 : k < a + 2 * s) : k = a + s := by
  obtain ⟨u, rfl⟩ := ha
  obtain ⟨v, rfl⟩ := hk
  have h3 : u < v := Int.lt_of_mul_lt_mul_left h1 (Int.le_of_lt hs)
  have h4 : v < u + 2 := by
    refine Int.lt_of_mul_lt_mul_left (a := s) ?_ (Int.le_of_lt hs)
    rw [Int.mul_add, Int.mul_comm s 2]; exact h2
  have : v = u + 1 := by omega
  rw [this, Int.mul_add, Int.mul_one]
theorem mult_none {s a k : Int} (hs : 0 < s) (ha : s ∣ a) (hk : s ∣ k) (h1 : a < k) (h2 : k < a + s) : False := by
  have := mult_one hs ha hk h1 (by omega); omega
/-- The merges of one size. -/
theorem pass_ok {c : Cells} (xs ys : List Int) (s : Int) (s0 : 20 ≤ s) (s1 : s < xs.length) (hl : xs.length ≤ 1000) (hI : ∀ x ∈ xs, inF c x) (hinc : ∀ p q : Int, 0 ≤ p → p < q → q < xs.length → gt xs p < gt xs q) (h : StC c (fun k => s ∣ k) xs ys) :
    Has (slices_stableCmpFunc_Int_find_Sure_1_2.l2 xs.length (ys, c, s)) fun t => ∃ zs, t = .next (zs, c, s * 2) ∧ StC c (fun k => s * 2 ∣ k) xs zs := by
  unfold slices_stableCmpFunc_Int_find_Sure_1_2.l2
  simp only []
  refine Has.pos (decide_eq_true s1) ?_
  rw [w6_in (n := 2 * s) (by omega), w6_in (n := s * 2) (by omega)]
  have d2 : ∀ k : Int, s * 2 ∣ k → s ∣ k := fun k hk => Int.dvd_trans ⟨2, rfl⟩ hk
  refine Has.bind (P := fun z : List Int × Cells × Int => z.2.1 = c ∧ 0 ≤ z.2.2 ∧ s * 2 ∣ z.2.2 ∧ z.2.2 ≤ xs.length ∧ xs.length < z.2.2 + 2 * s ∧ StC c (fun k => s * 2 ∣ k ∨ (z.2.2 ≤ k ∧ s ∣ k)) xs z.1) ?_ fun z ⟨z1, z2, z3, z4, z5, z6⟩ => ?_
  · refine Has.loop (fun t : List Int × Cells × Int × Int => t.2.1 = c ∧ 0 ≤ t.2.2.1 ∧ t.2.2.2 = t.2.2.1 + 2 * s ∧ t.2.2.1 ≤ xs.length ∧ s * 2 ∣ t.2.2.1 ∧ StC c (fun k => s * 2 ∣ k ∨ (t.2.2.1 ≤ k ∧ s ∣ k)) xs t.1) (fun t => (xs.length - t.2.2.1).toNat) _
      ⟨rfl, Int.le_refl _, by simp only []; omega, by simp only []; omega, ⟨0, by simp⟩, h.congr fun k k0 k1 => ⟨fun q => .inr ⟨by simp only []; omega, q⟩, fun q => q.elim (d2 k) fun q => q.2⟩⟩ (by simp only []; omega) fun t ⟨t1, t2, t3, t4, t5, t6⟩ => ?_
    unfold slices_stableCmpFunc_Int_find_Sure_1_2.l3
    simp only []
    refine Has.ite (fun hi => ?_) fun hi => ?_
    · have hi : t.2.2.2 ≤ xs.length := of_decide_eq_true hi
      rw [w6_in (n := t.2.2.1 + s) (by omega), w6_in (n := 2 * s) (by omega), w6_in (n := t.2.2.2 + 2 * s) (by omega), t1]
      have tl := t6.perm.length_eq
      have sa : s ∣ t.2.2.1 := d2 _ t5
      have sm : s ∣ t.2.2.1 + s := Int.dvd_add sa ⟨1, by simp⟩
      have none1 : ∀ k, (s * 2 ∣ k ∨ (t.2.2.1 ≤ k ∧ s ∣ k)) → ¬ (t.2.2.1 < k ∧ k < t.2.2.1 + s) := fun k hk ⟨k0, k1⟩ => mult_none (by omega) sa (hk.elim (d2 k) fun q => q.2) k0 k1
      have none2 : ∀ k, (s * 2 ∣ k ∨ (t.2.2.1 ≤ k ∧ s ∣ k)) → ¬ (t.2.2.1 + s < k ∧ k < t.2.2.2) := fun k hk ⟨k0, k1⟩ => mult_none (by omega) sm (hk.elim (d2 k) fun q => q.2) k0 (by omega)
      refine (symM_ok (c := c) 64 t.1 t.2.2.1 (t.2.2.1 + s) t.2.2.2 t2 (by omega) (by omega) (by omega) (by omega) (by omega) (fun x hx => hI x (t6.perm.mem_iff.1 hx)) (t6.apart t2 (by omega) (.inr ⟨by omega, sm⟩) hinc) (t6.part t2 (by omega) none1) (t6.part (by omega) hi none2)).bind fun r ⟨⟨r1, r2⟩, r3⟩ => Has.chk r1.len.symm (Has.ret (.next ⟨r3, by simp only []; omega, by simp only [], by simp only []; omega, ?_, ?_⟩ (by simp only []; omega)))
      · simp only []; rw [t3]; exact Int.dvd_add t5 ⟨1, by rw [Int.mul_one, Int.mul_comm]⟩
      · have k1 : s * 2 ∣ t.2.2.2 := by rw [t3]; exact Int.dvd_add t5 ⟨1, by rw [Int.mul_one, Int.mul_comm]⟩
        refine (t6.sorted t2 (by omega) (by omega) r1 r2 (.inr (.inl t5)) (.inr (.inl k1))).congr fun k k0 kn => ?_
        simp only []
        constructor
        · rintro ⟨q | ⟨q, q'⟩, n⟩
          · exact .inl q
          · by_cases e : k = t.2.2.1
            · left; rw [e]; exact t5
            · exact .inr ⟨by omega, q'⟩
        · rintro (q | ⟨q, q'⟩)
          · refine ⟨.inl q, fun ⟨u, v⟩ => ?_⟩
            exact mult_none (s := s * 2) (by omega) t5 q u (by omega)
          · exact ⟨.inr ⟨by omega, q'⟩, by omega⟩
    · have hi : ¬ t.2.2.2 ≤ xs.length := fun q => hi (decide_eq_true q)
      exact Has.ret (.done ⟨t1, t2, t5, t4, by simp only []; omega, t6⟩)
  · rw [w6_in (n := z.2.2 + s) (by omega), z1]
    have zl := z6.perm.length_eq
    have sa : s ∣ z.2.2 := d2 _ z3
    have sm : s ∣ z.2.2 + s := Int.dvd_add sa ⟨1, by simp⟩
    refine Has.ite (fun hi => ?_) fun hi => ?_
    · have hi : z.2.2 + s < xs.length := of_decide_eq_true hi
      have none1 : ∀ k, (s * 2 ∣ k ∨ (z.2.2 ≤ k ∧ s ∣ k)) → ¬ (z.2.2 < k ∧ k < z.2.2 + s) := fun k hk ⟨k0, k1⟩ => mult_none (by omega) sa (hk.elim (d2 k) fun q => q.2) k0 k1
      have none2 : ∀ k, (s * 2 ∣ k ∨ (z.2.2 ≤ k ∧ s ∣ k)) → ¬ (z.2.2 + s < k ∧ k < xs.length) := fun k hk ⟨k0, k1⟩ => mult_none (by omega) sm (hk.elim (d2 k) fun q => q.2) k0 (by omega)
      refine (symM_ok (c := c) 64 z.1 z.2.2 (z.2.2 + s) xs.length z2 (by omega) (by omega) (by omega) (by omega) (by omega) (fun x hx => hI x (z6.perm.mem_iff.1 hx)) (z6.apart z2 (Int.le_refl _) (.inr ⟨by omega, sm⟩) hinc) (z6.part z2 (by omega) none1) (z6.part (by omega) (Int.le_refl _) none2)).bind fun r ⟨⟨r1, r2⟩, r3⟩ => Has.chk r1.len.symm (Has.ret ⟨r.1, by rw [r3], ?_⟩)
      refine (z6.sorted z2 (by omega) (Int.le_refl _) r1 r2 (.inr (.inl z3)) (.inl rfl)).congr fun k k0 kn => ?_
      constructor
      · rintro ⟨q | ⟨q, q'⟩, n⟩
        · exact q
        · by_cases e : k = z.2.2
          · rw [e]; exact z3
          · omega
      · exact fun q => ⟨.inl q, fun ⟨u, v⟩ => mult_none (s := s * 2) (by omega) z3 q u (by omega)⟩
    · have hi : ¬ z.2.2 + s < xs.length := fun q => hi (decide_eq_true q)
      refine Has.ret ⟨z.1, rfl, z6.congr fun k k0 kn => ⟨fun q => ?_, .inl⟩⟩
      rcases q with q | ⟨q, q'⟩
      · exact q
      · by_cases e : k = z.2.2
        · rw [e]; exact z3
        · exact (mult_none (by omega) sa q' (by omega) (by omega)).elim
theorem stab_ok {c : Cells} (xs : List Int) (hl : xs.length ≤ 900) (hI : ∀ x ∈ xs, inF c x) (hinc : ∀ p q : Int, 0 ≤ p → p < q → q < xs.length → gt xs p < gt xs q) :
    Has (slices_stableCmpFunc_Int_find_Sure_1_2 xs xs.length c) fun r => (r.1.Perm xs ∧ sortedIn c r.1 0 xs.length) ∧ r.2 = c := by
  unfold slices_stableCmpFunc_Int_find_Sure_1_2
  have d20 : ∀ a : Int, 20 ∣ a → 20 ∣ a + 20 := fun a h => by omega
  refine Has.bind (P := fun o : List Int × Int => 0 ≤ o.2 ∧ 20 ∣ o.2 ∧ o.2 ≤ xs.length ∧ xs.length < o.2 + 20 ∧ StC c (fun k => 20 ∣ k ∨ o.2 ≤ k) xs o.1) ?_ fun o ⟨o1, o2, o3, o4, o5⟩ => ?_
  · refine Has.loop (fun t : List Int × Int × Int => 0 ≤ t.2.1 ∧ t.2.2 = t.2.1 + 20 ∧ 20 ∣ t.2.1 ∧ t.2.1 ≤ xs.length ∧ StC c (fun k => 20 ∣ k ∨ t.2.1 ≤ k) xs t.1) (fun t => (xs.length - t.2.1).toNat) _
      ⟨Int.le_refl _, rfl, ⟨0, rfl⟩, by simp only []; omega, List.Perm.refl _, fun p p0 p1 => ⟨p, p0, p1, rfl, fun _ _ => Iff.rfl⟩, fun p q p0 pq q1 hm => by have := hm q (.inr (by simp only []; omega)); omega⟩ (by simp only []; omega) fun t ⟨t1, t2, t3, t4, t5⟩ => ?_
    unfold slices_stableCmpFunc_Int_find_Sure_1_2.l1
    have tl := t5.perm.length_eq
    refine Has.ite (fun hi => ?_) fun hi => ?_
    · have hi : t.2.2 ≤ xs.length := of_decide_eq_true hi
      have same : ∀ p, t.2.1 ≤ p → p < xs.length → gt t.1 p = gt xs p := fun p p0 p1 => by
        obtain ⟨q, q0, q1, e, f⟩ := t5.inn p (by omega) p1
        have f1 := f p (.inr p0); have f2 := f (p + 1) (.inr (by omega))
        rw [e, show q = p by omega]
      refine (insO_ok t.1 t.2.1 t.2.2 t1 (by omega) (by omega) (by omega) (fun x hx => hI x (t5.perm.mem_iff.1 hx)) (fun p q p0 pq q1 => by rw [same p p0 (by omega), same q (by omega) (by omega)]; exact hinc p q (by omega) pq (by omega))).bind fun r ⟨r1, r2⟩ => ?_
      rw [w6_in (n := t.2.2 + 20) (by omega)]
      refine Has.chk r1.len.symm (Has.ret (.next ⟨by simp only []; omega, rfl, by simp only []; omega, by simp only []; omega, ?_⟩ (by simp only []; omega)))
      refine (t5.sorted t1 (by omega) hi r1 r2 (.inr (.inl t3)) (.inr (.inr (by omega)))).congr fun k k0 kn => ?_
      simp only []
      omega
    · have hi : ¬ t.2.2 ≤ xs.length := fun q => hi (decide_eq_true q)
      exact Has.ret (.done ⟨t1, t3, t4, by simp only []; omega, t5⟩)
  · have ol := o5.perm.length_eq
    have same : ∀ p, o.2 ≤ p → p < xs.length → gt o.1 p = gt xs p := fun p p0 p1 => by
      obtain ⟨q, q0, q1, e, f⟩ := o5.inn p (by omega) p1
      have f1 := f p (.inr p0); have f2 := f (p + 1) (.inr (by omega))
      rw [e, show q = p by omega]
    refine (insO_ok o.1 o.2 xs.length o1 o3 (by omega) (by omega) (fun x hx => hI x (o5.perm.mem_iff.1 hx)) (fun p q p0 pq q1 => by rw [same p p0 (by omega), same q (by omega) q1]; exact hinc p q (by omega) pq q1)).bind fun r ⟨r1, r2⟩ => Has.chk r1.len.symm ?_
    have R : StC c (fun k => (20 : Int) ∣ k) xs r := (o5.sorted o1 o3 (Int.le_refl _) r1 r2 (.inr (.inl o2)) (.inl rfl)).congr fun k k0 kn => by omega
    refine Has.bind (P := fun z : List Int × Cells => (z.1.Perm xs ∧ sortedIn c z.1 0 xs.length) ∧ z.2 = c) ?_ fun z hz => Has.ret hz
    refine Has.loop (fun t : List Int × Cells × Int => t.2.1 = c ∧ 20 ≤ t.2.2 ∧ StC c (fun k => t.2.2 ∣ k) xs t.1) (fun t => (xs.length - t.2.2).toNat) _ ⟨rfl, Int.le_refl _, R⟩ (by simp only []; omega) fun t ⟨t1, t2, t3⟩ => ?_
    obtain ⟨ys, c', s⟩ := t
    simp only [] at t1 t2 t3
    subst t1
    by_cases hi : s < xs.length
    · exact (pass_ok xs ys s t2 hi (by omega) hI hinc t3).mono fun u ⟨zs, e, h⟩ => by rw [e]; exact .next ⟨rfl, by simp only []; omega, h⟩ (by simp only []; omega)
    · unfold slices_stableCmpFunc_Int_find_Sure_1_2.l2
      refine Has.neg (by simpa using hi) (Has.ret (.done ⟨⟨t3.perm, t3.part (Int.le_refl _) (Int.le_refl _) fun k hk ⟨k0, k1⟩ => ?_⟩, rfl⟩))
      exact mult_none (s := s) (a := 0) (by omega) ⟨0, by simp⟩ hk k0 (by omega)
theorem sortStable_ok {c : Cells} (xs : List Int) (hl : xs.length ≤ 900) (hI : ∀ x ∈ xs, inF c x) (hinc : ∀ p q : Int, 0 ≤ p → p < q → q < xs.length → gt xs p < gt xs q) : Has (slices_SortStableFunc_Int_find_Sure_1_2 xs c) fun r => r.1.Perm xs ∧ sortedIn c r.1 0 xs.length := by
  unfold slices_SortStableFunc_Int_find_Sure_1_2
  exact (stab_ok xs hl hI hinc).bind fun r ⟨⟨r1, r2⟩, r3⟩ => Has.chk r1.length_eq.symm (Has.ret ⟨r1, r2⟩)
end Lf
/- find.Sure: the sure cells, the brightest first. -/
namespace Lf
open Go Go.Abs
set_option linter.unusedVariables false
set_option linter.unusedSimpArgs false
/-- A level as it is made. -/
structure okLv (b : Bound) : Prop where
  ok : b.ok
  u : b.Unknown = false
  lo : -1099511627776 ≤ b.Lo
  hi : b.Hi ≤ 1099511627776
theorem checkLevel_ok {b : Bound} (h : okLv b) : find_CheckLevel b = some 0 := by
  have h1 := h.lo; have h2 := h.hi
  unfold find_CheckLevel
  rw [check_ok h.ok, h.u]
  have g1 : decide (b.Lo < (-1099511627776)) = false := decide_eq_false (by omega)
  have g2 : decide (b.Hi > 1099511627776) = false := decide_eq_false (by omega)
  simp [g1, g2]
def sureC (c : Cells) (level : Bound) (x : Int) : Prop := (gt c.At x).Unknown = false ∧ level.Hi < (gt c.At x).Lo
structure SureL (c : Cells) (level : Bound) (l : List Int) : Prop where
  mem : ∀ x, x ∈ l ↔ 0 ≤ x ∧ x < c.At.length ∧ sureC c level x
  nd : l.Nodup
  ord : l.Pairwise (leF c)
theorem inc_len (l : List Int) (n : Int) (hp : l.Pairwise (· < ·)) (h : ∀ x ∈ l, 0 ≤ x ∧ x < n) (hn : 0 ≤ n) : (l.length : Int) ≤ n := by
  have key : ∀ (l : List Int) (a : Int), l.Pairwise (· < ·) → (∀ x ∈ l, a ≤ x ∧ x < n) → a ≤ n → (l.length : Int) ≤ n - a := fun l => by
    induction l with
    | nil => intro a _ _ h; simp; omega
    | cons x l ih =>
      intro a hp h ha
      obtain ⟨h1, h2⟩ := List.pairwise_cons.1 hp
      obtain ⟨x0, x1⟩ := h x (List.mem_cons_self ..)
      have := ih (x + 1) h2 (fun y hy => ⟨by have := h1 y hy; omega, (h y (List.mem_cons_of_mem _ hy)).2⟩) (by omega)
      simp only [List.length_cons]; omega
  have := key l 0 hp h hn; omega
theorem pw_gt {R : Int → Int → Prop} {l : List Int} : l.Pairwise R ↔ ∀ p q : Int, 0 ≤ p → p < q → q < l.length → R (gt l p) (gt l q) := by
  rw [List.pairwise_iff_getElem]
  constructor
  · intro h p q p0 pq q1
    rw [gt_def l p ⟨p0, by omega⟩, gt_def l q ⟨by omega, q1⟩]
    exact h _ _ _ _ (by omega)
  · intro h i j hi hj ij
    have := h i j (by omega) (by omega) (by omega)
    rwa [gt_def l i ⟨by omega, by omega⟩, gt_def l j ⟨by omega, by omega⟩] at this
theorem sure_ok {c : Cells} {level : Bound} (hc : okF c) (hn : c.At.length ≤ 900) (hv : okLv level) : Has (find_Sure c level) fun r => r.2 = 0 ∧ SureL c level r.1 := by
  have n1 := hc.n1
  unfold find_Sure
  rw [findCheck_ok hc, checkLevel_ok hv]
  simp only [Option.bind_some]
  rw [or2_ok]
  simp only [ne_eq, not_true_eq_false, if_false, Option.bind_some, bne_self_eq_false, Bool.false_eq_true]
  refine Has.bind (P := fun z : List Int => (∀ x, x ∈ z ↔ 0 ≤ x ∧ x < c.At.length ∧ sureC c level x) ∧ z.Pairwise (· < ·)) ?_ fun z ⟨z1, z2⟩ => ?_
  · refine Has.loop (fun t : List Int × Int => 0 ≤ t.2 ∧ t.2 ≤ c.At.length ∧ (∀ x, x ∈ t.1 ↔ 0 ≤ x ∧ x < t.2 ∧ sureC c level x) ∧ t.1.Pairwise (· < ·)) (fun t => (c.At.length - t.2).toNat) _
      ⟨Int.le_refl _, by simp only []; omega, fun x => by simp; omega, List.Pairwise.nil⟩ (by simp only []; omega) fun t ⟨t1, t2, t3, t4⟩ => ?_
    unfold find_Sure.l1
    refine Has.ite (fun hi => ?_) fun hi => ?_
    · have hi : t.2 < c.At.length := of_decide_eq_true hi
      have tl := inc_len t.1 t.2 t4 (fun x hx => by have := (t3 x).1 hx; omega) t1
      rw [w6_in (n := t.2 + 1) (by omega)]
      refine Has.bind (P := fun z : List Int => (∀ x, x ∈ z ↔ 0 ≤ x ∧ x < t.2 + 1 ∧ sureC c level x) ∧ z.Pairwise (· < ·)) (Has.chk ⟨t1, hi⟩ ?_) fun z ⟨z1, z2⟩ => Has.ret (.next ⟨by simp only []; omega, by simp only []; omega, z1, z2⟩ (by simp only []; omega))
      simp only [ite_and, Option.bind_some]
      refine Has.ite (fun hs => ?_) fun hs => Has.ret ⟨fun x => ?_, t4⟩
      · have hs : sureC c level t.2 := by simp only [Bool.and_eq_true, Bool.not_eq_true', decide_eq_true_eq] at hs; exact hs
        refine Has.chk (roomyI (by simp; omega) (by simp; omega)) (Has.ret ⟨fun x => ?_, List.pairwise_append.2 ⟨t4, by simp, fun a ha b hb => by rw [List.mem_singleton.1 hb]; exact ((t3 a).1 ha).2.1⟩⟩)
        rw [List.mem_append, List.mem_singleton, t3]
        constructor
        · rintro (⟨a, b, d⟩ | rfl)
          · exact ⟨a, by omega, d⟩
          · exact ⟨t1, by omega, hs⟩
        · rintro ⟨a, b, d⟩
          by_cases e : x = t.2
          · exact .inr e
          · exact .inl ⟨a, by omega, d⟩
      · have hs : ¬ sureC c level t.2 := fun q => hs (by simp only [Bool.and_eq_true, Bool.not_eq_true', decide_eq_true_eq]; exact q)
        rw [t3]
        constructor
        · rintro ⟨a, b, d⟩; exact ⟨a, by omega, d⟩
        · rintro ⟨a, b, d⟩
          have : x ≠ t.2 := fun e => hs (by rw [← e]; exact d)
          exact ⟨a, by omega, d⟩
    · have hi : ¬ t.2 < c.At.length := fun q => hi (decide_eq_true q)
      exact Has.ret (.done ⟨fun x => by rw [t3]; constructor <;> (rintro ⟨a, b, d⟩; exact ⟨a, by omega, d⟩), t4⟩)
  · have zl := inc_len z c.At.length z2 (fun x hx => by have := (z1 x).1 hx; omega) (by omega)
    refine (sortStable_ok (c := c) z (by omega) (fun x hx => by have := (z1 x).1 hx; exact ⟨this.1, this.2.1⟩) (pw_gt.1 z2)).bind fun r ⟨r1, r2⟩ => Has.chk r1.length_eq.symm (Has.ret ⟨rfl, fun x => by rw [r1.mem_iff]; exact z1 x, ?_, pw_gt.2 fun p q p0 pq q1 => r2 p q p0 pq (by rw [← r1.length_eq]; exact q1)⟩)
    exact r1.symm.nodup (z2.imp fun h => Int.ne_of_lt h)
end Lf
/- The heap of steps: what a push and a pop do. -/
namespace Lf
open Go Go.Abs
set_option linter.unusedVariables false
set_option linter.unusedSimpArgs false
theorem atS_get (xs : List HpSt) (i : Nat) (hi : i < xs.length) : atS xs i = xs[i] := by unfold atS; simp [List.getD_eq_getElem?_getD, List.getElem?_eq_getElem hi]
theorem swS_len (xs : List HpSt) (i j : Nat) : (swS xs i j).length = xs.length := by unfold swS; simp
theorem atS_sw (xs : List HpSt) (i j k : Nat) (hi : i < xs.length) (hj : j < xs.length) : atS (swS xs i j) k = if k = j then atS xs i else if k = i then atS xs j else atS xs k := by
  have e : ∀ k, atS (swS xs i j) k = ((((xs.set i (atS xs j)).set j (atS xs i))[k]?).getD (0, 0)) := fun k => by unfold swS; rw [show ∀ (l : List HpSt) m, atS l m = (l[m]?).getD (0, 0) from fun l m => List.getD_eq_getElem?_getD ..]
  rw [e, List.getElem?_set]
  by_cases h1 : k = j
  · subst h1; rw [if_pos rfl, if_pos (by simpa using hj), if_pos rfl]; rfl
  · rw [if_neg (Ne.symm h1), if_neg h1, List.getElem?_set]
    by_cases h2 : k = i
    · subst h2; rw [if_pos rfl, if_pos hi, if_pos rfl]; rfl
    · rw [if_neg (Ne.symm h2), if_neg h2]; unfold atS; rw [List.getD_eq_getElem?_getD]
theorem swS_perm (xs : List HpSt) (i j : Nat) (hi : i < xs.length) (hj : j < xs.length) : (swS xs i j).Perm xs := by
  unfold swS; rw [atS_get xs i hi, atS_get xs j hj]; exact List.set_set_perm hi hj
/-- A heap: no entry is above the one over it. -/
def IsHp (xs : List HpSt) (n : Nat) : Prop := ∀ k, 0 < k → k < n → (atS xs k).2 ≤ (atS xs ((k - 1) / 2)).2
theorem IsHp.top {xs : List HpSt} {n : Nat} (h : IsHp xs n) : ∀ k, k < n → (atS xs k).2 ≤ (atS xs 0).2 := fun k => by
  induction k using Nat.strongRecOn with
  | ind k ih =>
    intro hk
    by_cases h0 : k = 0
    · rw [h0]; exact Int.le_refl _
    · exact Int.le_trans (h k (by omega) hk) (ih ((k - 1) / 2) (by omega) (by omega))
theorem upS_ok : ∀ (f : Nat) (xs : List HpSt) (j : Nat), j < xs.length → j < f → (∀ k, 0 < k → k < xs.length → k ≠ j → (atS xs k).2 ≤ (atS xs ((k - 1) / 2)).2) →
    (∀ k, 0 < k → k < xs.length → (k - 1) / 2 = j → 0 < j → (atS xs k).2 ≤ (atS xs ((j - 1) / 2)).2) → IsHp (upS f xs j) xs.length ∧ (upS f xs j).Perm xs
  | 0, xs, j, hj, hf, h1, h2 => by omega
  | f + 1, xs, j, hj, hf, h1, h2 => by
    rw [upS]
    by_cases e0 : j = 0
    · rw [if_pos e0]
      exact ⟨fun k k0 k1 => h1 k k0 k1 (by omega), List.Perm.refl _⟩
    · rw [if_neg e0]
      by_cases hlt : (atS xs ((j - 1) / 2)).2 < (atS xs j).2
      · rw [if_pos hlt]
        have hp : (j - 1) / 2 < xs.length := by omega
        have sw := atS_sw xs ((j - 1) / 2) j
        have := upS_ok f (swS xs ((j - 1) / 2) j) ((j - 1) / 2) (by rw [swS_len]; exact hp) (by omega) (fun k k0 k1 kn => ?_) (fun k k0 k1 ke j0 => ?_)
        · rw [swS_len] at this
          exact ⟨this.1, this.2.trans (swS_perm xs _ _ hp hj)⟩
        · rw [swS_len] at k1
          rw [sw k hp hj, sw _ hp hj]
          by_cases c1 : k = j
          · rw [if_pos c1, c1, if_neg (by omega), if_pos rfl]; omega
          · rw [if_neg c1, if_neg kn]
            by_cases c2 : (k - 1) / 2 = j
            · rw [if_pos c2]; exact h2 k k0 k1 c2 (by omega)
            · rw [if_neg c2]
              by_cases c3 : (k - 1) / 2 = (j - 1) / 2
              · rw [if_pos c3]
                have := h1 k k0 k1 c1
                rw [c3] at this; omega
              · rw [if_neg c3]; exact h1 k k0 k1 c1
        · rw [swS_len] at k1
          rw [sw k hp hj, sw _ hp hj, if_neg (show ¬ ((j - 1) / 2 - 1) / 2 = j by omega), if_neg (show ¬ ((j - 1) / 2 - 1) / 2 = (j - 1) / 2 by omega)]
          have hpp := h1 ((j - 1) / 2) (by omega) hp (by omega)
          by_cases c1 : k = j
          · rw [if_pos c1]; exact hpp
          · rw [if_neg c1, if_neg (by omega)]
            have := h1 k k0 k1 c1
            rw [ke] at this; omega
      · rw [if_neg hlt]
        refine ⟨fun k k0 k1 => ?_, List.Perm.refl _⟩
        by_cases c : k = j
        · rw [c]; omega
        · exact h1 k k0 k1 c
theorem downS_ok : ∀ (f : Nat) (xs : List HpSt) (i n : Nat), n ≤ xs.length → n - i < f → (∀ k, 0 < k → k < n → (k - 1) / 2 ≠ i → (atS xs k).2 ≤ (atS xs ((k - 1) / 2)).2) →
    (∀ k, 0 < k → k < n → (k - 1) / 2 = i → 0 < i → (atS xs k).2 ≤ (atS xs ((i - 1) / 2)).2) → IsHp (downS f xs i n) n ∧ (downS f xs i n).Perm xs ∧ ∀ k, n ≤ k → atS (downS f xs i n) k = atS xs k
  | 0, xs, i, n, hn, hf, h1, h2 => by omega
  | f + 1, xs, i, n, hn, hf, h1, h2 => by
    rw [downS]
    by_cases e0 : n ≤ 2 * i + 1
    · rw [if_pos e0]
      exact ⟨fun k k0 k1 => h1 k k0 k1 (by omega), List.Perm.refl _, fun _ _ => rfl⟩
    · rw [if_neg e0]
      have main : ∀ c, (c = 2 * i + 1 ∨ c = 2 * i + 2) → c < n → (∀ k, k < n → (k - 1) / 2 = i → 0 < k → (atS xs k).2 ≤ (atS xs c).2) →
          IsHp (if (atS xs i).2 < (atS xs c).2 then downS f (swS xs i c) c n else xs) n ∧ (if (atS xs i).2 < (atS xs c).2 then downS f (swS xs i c) c n else xs).Perm xs ∧ ∀ k, n ≤ k → atS (if (atS xs i).2 < (atS xs c).2 then downS f (swS xs i c) c n else xs) k = atS xs k := fun c hc hcn hmx => by
        have ec : (c - 1) / 2 = i := by omega
        have hi : i < xs.length := by omega
        have hcl : c < xs.length := by omega
        have sw := atS_sw xs i c
        by_cases hlt : (atS xs i).2 < (atS xs c).2
        · simp only [if_pos hlt]
          have := downS_ok f (swS xs i c) c n (by rw [swS_len]; exact hn) (by omega) (fun k k0 k1 kn => ?_) (fun k k0 k1 ke c0 => ?_)
          · refine ⟨this.1, this.2.1.trans (swS_perm xs _ _ hi hcl), fun k hk => ?_⟩
            rw [this.2.2 k hk, sw k hi hcl, if_neg (by omega), if_neg (by omega)]
          · rw [sw k hi hcl, sw _ hi hcl]
            by_cases c1 : k = c
            · rw [if_pos c1, if_neg kn, if_pos (by rw [c1]; exact ec)]; omega
            · rw [if_neg c1, if_neg kn]
              by_cases c2 : k = i
              · rw [if_pos c2, if_neg (by omega)]
                rw [c2]
                exact h2 c (by omega) hcn ec (by omega)
              · rw [if_neg c2]
                by_cases c3 : (k - 1) / 2 = i
                · rw [if_pos c3]; exact hmx k k1 c3 k0
                · rw [if_neg c3]; exact h1 k k0 k1 c3
          · rw [sw k hi hcl, sw _ hi hcl, ec, if_neg (by omega), if_neg (by omega), if_neg (by omega), if_pos rfl]
            have := h1 k k0 k1 (by omega)
            rw [ke] at this; exact this
        · simp only [if_neg hlt]
          refine ⟨fun k k0 k1 => ?_, List.Perm.refl _, by intros; trivial⟩
          by_cases c3 : (k - 1) / 2 = i
          · rw [c3]; have := hmx k k1 c3 k0; omega
          · exact h1 k k0 k1 c3
      by_cases h3 : 2 * i + 2 < n ∧ (atS xs (2 * i + 1)).2 < (atS xs (2 * i + 2)).2
      · rw [if_pos h3]
        exact main (2 * i + 2) (.inr rfl) h3.1 fun k k1 ke k0 => by
          have : k = 2 * i + 1 ∨ k = 2 * i + 2 := by omega
          rcases this with rfl | rfl <;> omega
      · rw [if_neg h3]
        exact main (2 * i + 1) (.inl rfl) (by omega) fun k k1 ke k0 => by
          have : k = 2 * i + 1 ∨ k = 2 * i + 2 := by omega
          rcases this with rfl | rfl
          · omega
          · have : ¬ (atS xs (2 * i + 1)).2 < (atS xs (2 * i + 2)).2 := fun q => h3 ⟨k1, q⟩
            omega
theorem push_ok (xs : List HpSt) (s : HpSt) (h : IsHp xs xs.length) : IsHp (pushS xs s) (pushS xs s).length ∧ (pushS xs s).Perm (xs ++ [s]) := by
  have at' : ∀ k, k < xs.length → atS (xs ++ [s]) k = atS xs k := fun k hk => by rw [atS_get _ k (by simp; omega), atS_get _ k hk, List.getElem_append_left hk]
  have := upS_ok (xs.length + 1) (xs ++ [s]) xs.length (by simp) (by omega) (fun k k0 k1 kn => ?_) (fun k k0 k1 ke _ => ?_)
  · unfold pushS
    exact ⟨by rw [this.2.length_eq]; exact this.1, this.2⟩
  · simp only [List.length_append, List.length_cons, List.length_nil] at k1
    rw [at' k (by omega), at' _ (by omega)]
    exact h k k0 (by omega)
  · simp only [List.length_append, List.length_cons, List.length_nil] at k1
    omega
theorem pop_ok (xs : List HpSt) (h : IsHp xs xs.length) (hn : 0 < xs.length) :
    IsHp ((popY xs).take (xs.length - 1)) ((popY xs).take (xs.length - 1)).length ∧ (atS (popY xs) (xs.length - 1) :: (popY xs).take (xs.length - 1)).Perm xs ∧ ((popY xs).take (xs.length - 1)).length = xs.length - 1 ∧ ∀ e ∈ xs, e.2 ≤ (atS (popY xs) (xs.length - 1)).2 := by
  have h0 : 0 < xs.length := hn
  have h1 : xs.length - 1 < xs.length := by omega
  have sw := fun k => atS_sw xs 0 (xs.length - 1) k h0 h1
  have D := downS_ok (popN xs + 1) (swS xs 0 (popN xs)) 0 (popN xs) (by rw [swS_len]; unfold popN; omega) (by omega) (fun k k0 k1 kn => by
    unfold popN at *
    rw [sw, sw, if_neg (by omega), if_neg (by omega), if_neg (by omega), if_neg (by omega)]
    exact h k k0 (by omega)) (fun k k0 k1 ke c => by omega)
  obtain ⟨d1, d2, d3⟩ := D
  have hp : (popY xs).Perm xs := d2.trans (swS_perm xs _ _ h0 h1)
  have hl : (popY xs).length = xs.length := hp.length_eq
  have hl2 : ((popY xs).take (xs.length - 1)).length = xs.length - 1 := by simp; omega
  have et : ∀ k, k < xs.length - 1 → atS ((popY xs).take (xs.length - 1)) k = atS (popY xs) k := fun k hk => by
    rw [atS_get _ k (by omega), atS_get _ k (by omega), List.getElem_take]
  have es : atS (popY xs) (xs.length - 1) = atS xs 0 := by
    show atS (downS (popN xs + 1) (swS xs 0 (popN xs)) 0 (popN xs)) (xs.length - 1) = _
    rw [d3 _ (by unfold popN; omega)]
    show atS (swS xs 0 (xs.length - 1)) _ = _
    rw [sw, if_pos rfl]
  refine ⟨fun k k0 k1 => ?_, ?_, hl2, fun e he => ?_⟩
  · rw [hl2] at k1
    rw [et k k1, et _ (by omega)]
    exact d1 k k0 k1
  · have e2 : popY xs = (popY xs).take (xs.length - 1) ++ [atS (popY xs) (xs.length - 1)] := by
      rw [atS_get _ _ (by omega)]
      have e3 : (popY xs).drop (xs.length - 1) = [(popY xs)[xs.length - 1]] := by
        rw [List.drop_eq_getElem_cons (by omega), List.drop_eq_nil_of_le (by omega)]
      rw [← e3, List.take_append_drop]
    have : (atS (popY xs) (xs.length - 1) :: (popY xs).take (xs.length - 1)).Perm (popY xs) := by
      conv => rhs; rw [e2]
      exact (List.perm_append_singleton _ _).symm
    exact this.trans hp
  · rw [es]
    obtain ⟨k, hk, rfl⟩ := List.getElem_of_mem he
    rw [← atS_get xs k hk]
    exact h.top k hk
end Lf
/- The neighbours of a cell. -/
namespace Lf
open Go Go.Abs
set_option linter.unusedVariables false
set_option linter.unusedSimpArgs false
theorem mem_nbU (w x y v : Nat) : ∀ (m u j : Nat), j ∈ nbU w x y v u m ↔ ∃ a, u ≤ a ∧ a < u + m ∧ ¬ (a = x ∧ v = y) ∧ j = v * w + a
  | 0, u, j => by simp only [nbU, List.not_mem_nil, false_iff]; rintro ⟨a, h1, h2, _⟩; omega
  | m + 1, u, j => by
    rw [nbU]
    have ih := mem_nbU w x y v m (u + 1) j
    by_cases h : u = x ∧ v = y
    · rw [if_pos h, ih]
      constructor
      · rintro ⟨a, h1, h2, h3, h4⟩; exact ⟨a, by omega, by omega, h3, h4⟩
      · rintro ⟨a, h1, h2, h3, h4⟩
        have : a ≠ u := fun e => h3 (by rw [e]; exact h)
        exact ⟨a, by omega, by omega, h3, h4⟩
    · rw [if_neg h, List.mem_cons, ih]
      constructor
      · rintro (rfl | ⟨a, h1, h2, h3, h4⟩)
        · exact ⟨u, by omega, by omega, h, rfl⟩
        · exact ⟨a, by omega, by omega, h3, h4⟩
      · rintro ⟨a, h1, h2, h3, h4⟩
        by_cases e : a = u
        · left; rw [h4, e]
        · right; exact ⟨a, by omega, by omega, h3, h4⟩
theorem mem_nbV (w x y u0 m : Nat) : ∀ (k v j : Nat), j ∈ nbV w x y u0 m v k ↔ ∃ b a, v ≤ b ∧ b < v + k ∧ u0 ≤ a ∧ a < u0 + m ∧ ¬ (a = x ∧ b = y) ∧ j = b * w + a
  | 0, v, j => by simp only [nbV, List.not_mem_nil, false_iff]; rintro ⟨b, a, h1, h2, _⟩; omega
  | k + 1, v, j => by
    rw [nbV, List.mem_append, mem_nbU, mem_nbV w x y u0 m k (v + 1) j]
    constructor
    · rintro (⟨a, h1, h2, h3, h4⟩ | ⟨b, a, h1, h2, h3⟩)
      · exact ⟨v, a, by omega, by omega, h1, h2, h3, h4⟩
      · exact ⟨b, a, by omega, by omega, h3⟩
    · rintro ⟨b, a, h1, h2, h3, h4, h5, h6⟩
      by_cases e : b = v
      · subst e; left; exact ⟨a, h3, h4, h5, h6⟩
      · right; exact ⟨b, a, by omega, by omega, h3, h4, h5, h6⟩
theorem len_nbU (w x y v : Nat) : ∀ (m u : Nat), (nbU w x y v u m).length ≤ m ∧ (v = y → u ≤ x → x < u + m → (nbU w x y v u m).length + 1 ≤ m)
  | 0, u => ⟨by simp [nbU], fun _ _ h => by omega⟩
  | m + 1, u => by
    have ih := len_nbU w x y v m (u + 1)
    rw [nbU]
    by_cases h : u = x ∧ v = y
    · rw [if_pos h]; exact ⟨by omega, fun _ _ _ => by omega⟩
    · rw [if_neg h]
      simp only [List.length_cons]
      refine ⟨by omega, fun e h1 h2 => ?_⟩
      have : u ≠ x := fun q => h ⟨q, e⟩
      have := ih.2 e (by omega) (by omega)
      omega
theorem len_nbV (w x y u0 m : Nat) : ∀ (k v : Nat), (nbV w x y u0 m v k).length ≤ k * m ∧ (v ≤ y → y < v + k → u0 ≤ x → x < u0 + m → (nbV w x y u0 m v k).length + 1 ≤ k * m)
  | 0, v => ⟨by simp [nbV], fun _ h => by omega⟩
  | k + 1, v => by
    have ih := len_nbV w x y u0 m k (v + 1)
    have iu := len_nbU w x y v m u0
    rw [nbV, List.length_append, Nat.succ_mul]
    refine ⟨by omega, fun h1 h2 h3 h4 => ?_⟩
    by_cases e : v = y
    · have := iu.2 e h3 h4; omega
    · have := ih.2 (by omega) (by omega) h3 h4; omega
theorem nbs_len (w h i : Nat) (hi : i < w * h) : (nbs w h i).length ≤ 8 := by
  have w0 : 0 < w := by cases w with | zero => simp at hi | succ n => omega
  have hx : i % w < w := Nat.mod_lt _ w0
  have hy : i / w < h := by rw [Nat.div_lt_iff_lt_mul w0, Nat.mul_comm]; exact hi
  unfold nbs
  simp only []
  generalize i % w = x at *
  generalize i / w = y at *
  have := (len_nbV w x y (x - 1) (min (x + 1) (w - 1) + 1 - (x - 1)) (min (y + 1) (h - 1) + 1 - (y - 1)) (y - 1)).2 (by omega) (by omega) (by omega) (by omega)
  generalize hk : min (y + 1) (h - 1) + 1 - (y - 1) = k at *
  generalize hm : min (x + 1) (w - 1) + 1 - (x - 1) = m at *
  have h1 : k ≤ 3 := by omega
  have h2 : m ≤ 3 := by omega
  have := Nat.mul_le_mul h1 h2
  omega
/-- Two cells that touch. -/
def adj (w i j : Nat) : Prop := i ≠ j ∧ i % w ≤ j % w + 1 ∧ j % w ≤ i % w + 1 ∧ i / w ≤ j / w + 1 ∧ j / w ≤ i / w + 1
theorem adj.symm {w i j : Nat} (h : adj w i j) : adj w j i := ⟨Ne.symm h.1, h.2.2.1, h.2.1, h.2.2.2.2, h.2.2.2.1⟩
theorem mem_nbs (w h i j : Nat) (hi : i < w * h) : j ∈ nbs w h i ↔ j < w * h ∧ adj w i j := by
  have w0 : 0 < w := by cases w with | zero => simp at hi | succ n => omega
  have hx : i % w < w := Nat.mod_lt _ w0
  have hy : i / w < h := by rw [Nat.div_lt_iff_lt_mul w0, Nat.mul_comm]; exact hi
  unfold nbs
  simp only []
  rw [mem_nbV]
  have ei := Nat.div_add_mod i w
  unfold adj
  constructor
  · rintro ⟨b, a, h1, h2, h3, h4, h5, rfl⟩
    have haw : a < w := by clear ei hy h1 h2 h5; generalize i % w = x at *; omega
    have hb : b + 1 ≤ h := by clear ei hx h3 h4 h5; generalize i / w = x at *; omega
    have k1 : i / w ≤ b + 1 ∧ b ≤ i / w + 1 := by clear ei hx h3 h4 h5; generalize i / w = x at *; omega
    have k2 : i % w ≤ a + 1 ∧ a ≤ i % w + 1 := by clear ei hy h1 h2 h5; generalize i % w = x at *; omega
    clear h1 h2 h3 h4
    have ea : (b * w + a) % w = a := by rw [Nat.mul_comm, Nat.mul_add_mod]; exact Nat.mod_eq_of_lt haw
    have eb : (b * w + a) / w = b := by rw [Nat.mul_comm, Nat.mul_add_div w0, Nat.div_eq_of_lt haw]; omega
    have h6 := Nat.mul_le_mul_right w hb
    rw [Nat.succ_mul, Nat.mul_comm h w] at h6
    refine ⟨by generalize b * w = q at *; generalize w * h = r at *; omega, fun e => h5 ?_, ?_⟩
    · rw [← e] at ea eb; exact ⟨ea.symm, eb.symm⟩
    · rw [ea, eb]; exact ⟨k2.1, k2.2, k1.1, k1.2⟩
  · rintro ⟨hj, hne, h1, h2, h3, h4⟩
    have hjx : j % w < w := Nat.mod_lt _ w0
    have hjy : j / w < h := by rw [Nat.div_lt_iff_lt_mul w0, Nat.mul_comm]; exact hj
    have ej := Nat.div_add_mod j w
    refine ⟨j / w, j % w, ?_, ?_, ?_, ?_, fun q => hne ?_, by rw [Nat.mul_comm]; exact ej.symm⟩
    · generalize i / w = y at *; generalize j / w = z at *; omega
    · generalize i / w = y at *; generalize j / w = z at *; omega
    · generalize i % w = y at *; generalize j % w = z at *; omega
    · generalize i % w = y at *; generalize j % w = z at *; omega
    · rw [← ei, ← ej, q.1, q.2]
end Lf
/- Saddles: the greatest least height of a way. -/
namespace Lf
open Go Go.Abs
set_option linter.unusedVariables false
set_option linter.unusedSimpArgs false
/-- A way over cells of at least a height. -/
inductive Way (w h : Nat) (l : List Bound) (θ : Int) (a : Nat) : Nat → Prop
  | start : a < w * h → θ ≤ hgtB (atB l a) → Way w h l θ a a
  | step {i j : Nat} : Way w h l θ a i → j < w * h → adj w i j → θ ≤ hgtB (atB l j) → Way w h l θ a j
section
variable {w h : Nat} {l : List Bound} {θ θ' : Int} {a b c : Nat}
theorem Way.lt (k : Way w h l θ a b) : b < w * h := by cases k <;> assumption
theorem Way.top (k : Way w h l θ a b) : θ ≤ hgtB (atB l b) := by cases k <;> assumption
theorem Way.mono (k : Way w h l θ a b) (e : θ' ≤ θ) : Way w h l θ' a b := by
  induction k with
  | start h1 h2 => exact .start h1 (Int.le_trans e h2)
  | step k h1 h2 h3 ih => exact .step ih h1 h2 (Int.le_trans e h3)
theorem Way.trans (k : Way w h l θ a b) (m : Way w h l θ b c) : Way w h l θ a c := by
  induction m with
  | start h1 h2 => exact k
  | step m h1 h2 h3 ih => exact .step ih h1 h2 h3
theorem Way.symm (k : Way w h l θ a b) : Way w h l θ b a := by
  induction k with
  | start h1 h2 => exact .start h1 h2
  | step k h1 h2 h3 ih => exact (Way.step (.start h1 h3) k.lt h2.symm k.top).trans ih
end
theorem cell_mod {w x : Nat} (y : Nat) (hx : x < w) : (y * w + x) % w = x := by rw [Nat.mul_comm, Nat.mul_add_mod]; exact Nat.mod_eq_of_lt hx
theorem cell_div {w x : Nat} (y : Nat) (hx : x < w) : (y * w + x) / w = y := by rw [Nat.mul_comm, Nat.mul_add_div (by omega), Nat.div_eq_of_lt hx]; omega
theorem cell_lt {w h x y : Nat} (hx : x < w) (hy : y < h) : y * w + x < w * h := by
  have := Nat.mul_le_mul_right w (show y + 1 ≤ h by omega)
  rw [Nat.succ_mul, Nat.mul_comm h w] at this; omega
theorem cell_adj {w x y x' y' : Nat} (hx : x < w) (hx' : x' < w) (h : ¬ (x = x' ∧ y = y')) (h1 : x ≤ x' + 1 ∧ x' ≤ x + 1) (h2 : y ≤ y' + 1 ∧ y' ≤ y + 1) : adj w (y * w + x) (y' * w + x') := by
  unfold adj
  rw [cell_mod y hx, cell_mod y' hx', cell_div y hx, cell_div y' hx']
  refine ⟨fun e => h ?_, h1.1, h1.2, h2.1, h2.2⟩
  have e1 := congrArg (· % w) e; have e2 := congrArg (· / w) e
  simp only [cell_mod y hx, cell_mod y' hx', cell_div y hx, cell_div y' hx'] at e1 e2
  exact ⟨e1, e2⟩
/-- All cells are joined. -/
theorem way_all {w h : Nat} {l : List Bound} {θ : Int} (hθ : ∀ k, θ ≤ hgtB (atB l k)) {a : Nat} (ha : a < w * h) (j : Nat) (hj : j < w * h) : Way w h l θ a j := by
  have w0 : 0 < w := by cases w with | zero => simp at hj | succ n => omega
  have row : ∀ x y x', x < w → y < h → x' < w → Way w h l θ (y * w + x) (y * w + x') := fun x y x' hx hy hx' => by
    have up : ∀ d x, x + d < w → Way w h l θ (y * w + x) (y * w + (x + d)) := fun d => by
      induction d with
      | zero => exact fun x hx => .start (cell_lt (by omega) hy) (hθ _)
      | succ d ih => exact fun x hx => .step (ih x (by omega)) (cell_lt (by omega) hy) (cell_adj (by omega) (by omega) (by omega) (by omega) (by omega)) (hθ _)
    rcases Nat.le_total x x' with q | q
    · have := up (x' - x) x (by omega); rwa [show x + (x' - x) = x' by omega] at this
    · have := up (x - x') x' (by omega); rw [show x' + (x - x') = x by omega] at this; exact this.symm
  have col : ∀ x y y', x < w → y < h → y' < h → Way w h l θ (y * w + x) (y' * w + x) := fun x y y' hx hy hy' => by
    have up : ∀ d y, y + d < h → Way w h l θ (y * w + x) ((y + d) * w + x) := fun d => by
      induction d with
      | zero => exact fun y hy => .start (cell_lt hx (by omega)) (hθ _)
      | succ d ih => exact fun y hy => .step (ih y (by omega)) (cell_lt hx (by omega)) (cell_adj hx hx (by omega) (by omega) (by omega)) (hθ _)
    rcases Nat.le_total y y' with q | q
    · have := up (y' - y) y (by omega); rwa [show y + (y' - y) = y' by omega] at this
    · have := up (y - y') y' (by omega); rw [show y' + (y - y') = y by omega] at this; exact this.symm
  have ax : a % w < w := Nat.mod_lt _ w0
  have jx : j % w < w := Nat.mod_lt _ w0
  have ay : a / w < h := by rw [Nat.div_lt_iff_lt_mul w0, Nat.mul_comm]; exact ha
  have jy : j / w < h := by rw [Nat.div_lt_iff_lt_mul w0, Nat.mul_comm]; exact hj
  have ea := Nat.div_add_mod a w; have ej := Nat.div_add_mod j w
  rw [Nat.mul_comm] at ea ej
  have := (row (a % w) (a / w) (j % w) ax ay jx).trans (col (j % w) (a / w) (j / w) jx ay jy)
  rwa [ea, ej] at this
theorem hgt_low (l : List Bound) : ∃ θ : Int, ∀ k, θ ≤ hgtB (atB l k) := by
  induction l with
  | nil => exact ⟨0, fun k => by unfold atB; simp [hgtB, hgt]⟩
  | cons x l ih =>
    obtain ⟨θ, hθ⟩ := ih
    refine ⟨min θ (hgtB x), fun k => ?_⟩
    cases k with
    | zero => have : atB (x :: l) 0 = x := rfl
              rw [this]; omega
    | succ k => have : atB (x :: l) (k + 1) = atB l k := rfl
                rw [this]; have := hθ k; omega
theorem pushN_ok (l : List Bound) (done : List Bool) (ht : Int) : ∀ (is : List Nat) (q : List HpSt), IsHp q q.length →
    IsHp (pushN l done ht is q) (pushN l done ht is q).length ∧ (∀ e, e ∈ pushN l done ht is q ↔ e ∈ q ∨ ∃ i ∈ is, done.getD i false = false ∧ e = ((i : Int), min ht (hgtB (atB l i)))) ∧ (pushN l done ht is q).length ≤ q.length + is.length
  | [], q, hq => ⟨hq, fun e => by simp [pushN], by simp [pushN]⟩
  | i :: is, q, hq => by
    rw [pushN]
    by_cases hd : done.getD i false = true
    · rw [if_pos hd]
      obtain ⟨h1, h2, h3⟩ := pushN_ok l done ht is q hq
      refine ⟨h1, fun e => ?_, by simp only [List.length_cons]; omega⟩
      rw [h2 e]
      constructor
      · rintro (h | ⟨j, hj, h⟩)
        · exact .inl h
        · exact .inr ⟨j, List.mem_cons_of_mem _ hj, h⟩
      · rintro (h | ⟨j, hj, h, e⟩)
        · exact .inl h
        · rcases List.mem_cons.1 hj with rfl | hj
          · rw [hd] at h; cases h
          · exact .inr ⟨j, hj, h, e⟩
    · rw [if_neg hd]
      have hd : done.getD i false = false := by simpa using hd
      obtain ⟨p1, p2⟩ := push_ok q ((i : Int), min ht (hgtB (atB l i))) hq
      obtain ⟨h1, h2, h3⟩ := pushN_ok l done ht is _ p1
      refine ⟨h1, fun e => ?_, by have := p2.length_eq; simp only [List.length_append, List.length_cons, List.length_nil] at this ⊢; omega⟩
      rw [h2 e, p2.mem_iff, List.mem_append, List.mem_singleton]
      constructor
      · rintro ((h | rfl) | ⟨j, hj, h⟩)
        · exact .inl h
        · exact .inr ⟨i, List.mem_cons_self .., hd, rfl⟩
        · exact .inr ⟨j, List.mem_cons_of_mem _ hj, h⟩
      · rintro (h | ⟨j, hj, h, e⟩)
        · exact .inl (.inl h)
        · rcases List.mem_cons.1 hj with rfl | hj
          · exact .inl (.inr e)
          · exact .inr ⟨j, hj, h, e⟩
/-- What holds at each round of the search. -/
structure SadI (w h : Nat) (l : List Bound) (a : Nat) (q : List HpSt) (out : List Int) (done : List Bool) : Prop where
  hp : IsHp q q.length
  ol : out.length = w * h
  dl : done.length = w * h
  E : ∀ e ∈ q, 0 ≤ e.1 ∧ e.1 < (w * h : Nat) ∧ Way w h l e.2 a e.1.toNat
  S : ∀ j, done.getD j false = true → Way w h l (out.getD j 0) a j
  C : ∀ j θ, done.getD j false = true → Way w h l θ a j → θ ≤ out.getD j 0
  F : done.getD a false = true ∨ ∃ e ∈ q, hgtB (atB l a) ≤ e.2 ∧ e.1 = a
  N : ∀ i j, done.getD i false = true → j < w * h → adj w i j → done.getD j false = true ∨ ∃ e ∈ q, min (out.getD i 0) (hgtB (atB l j)) ≤ e.2 ∧ e.1 = j
theorem SadI.seen {w h : Nat} {l : List Bound} {a : Nat} {q : List HpSt} {out : List Int} {done : List Bool} (I : SadI w h l a q out done) {θ : Int} {j : Nat} (k : Way w h l θ a j) : done.getD j false = true ∨ ∃ e ∈ q, θ ≤ e.2 := by
  induction k with
  | start h1 h2 =>
    rcases I.F with f | ⟨e, he, f, _⟩
    · exact .inl f
    · exact .inr ⟨e, he, Int.le_trans h2 f⟩
  | step k h1 h2 h3 ih =>
    rcases ih with ih | ih
    · rcases I.N _ _ ih h1 h2 with n | ⟨e, he, n, _⟩
      · exact .inl n
      · have := I.C _ _ ih k
        exact .inr ⟨e, he, by omega⟩
    · exact .inr ih
def undone (done : List Bool) : Nat := done.countP fun b => !b
theorem getD_set {α : Type} (xs : List α) (i j : Nat) (v d : α) (hi : i < xs.length) : (xs.set i v).getD j d = if j = i then v else xs.getD j d := by
  simp only [List.getD_eq_getElem?_getD, List.getElem?_set]
  by_cases e : j = i
  · subst e; simp [hi]
  · rw [if_neg (Ne.symm e), if_neg e]
theorem undone_set (done : List Bool) (i : Nat) (hi : i < done.length) (h : done.getD i false = false) : undone (done.set i true) + 1 = undone done := by
  have e : done[i] = false := by simpa [List.getD_eq_getElem?_getD, List.getElem?_eq_getElem hi] using h
  have pos : 0 < done.countP fun b => !b := List.countP_pos_iff.2 ⟨done[i], List.getElem_mem hi, by simp [e]⟩
  unfold undone
  rw [List.countP_set hi]
  simp only [e, Bool.not_false, if_true, Bool.not_true, Bool.false_eq_true, if_false]
  omega
theorem sadL_ok {w h : Nat} {l : List Bound} {a : Nat} (hl : l.length = w * h) : ∀ (f : Nat) (q : List HpSt) (out : List Int) (done : List Bool), SadI w h l a q out done → q.length + 8 * undone done < f → f ≤ 20000 →
    Has (sadL w h l f q out done) fun R => R.length = w * h ∧ (∀ j θ, Way w h l θ a j → θ ≤ R.getD j 0 ∧ Way w h l (R.getD j 0) a j)
  | 0, q, out, done, I, hf, hf2 => by omega
  | f + 1, q, out, done, I, hf, hf2 => by
    rw [sadL]
    refine Has.ite (fun h0 => Has.ret ⟨I.ol, fun j θ k => ?_⟩) fun h0 => Has.pos (by omega) ?_
    · have hq : q = [] := List.length_eq_zero_iff.1 h0
      have d := (I.seen k).resolve_right (by rw [hq]; rintro ⟨e, he, _⟩; cases he)
      exact ⟨I.C j θ d k, I.S j d⟩
    · obtain ⟨p1, p2, p3, p4⟩ := pop_ok q I.hp (by omega)
      generalize (popY q).take (q.length - 1) = q' at p1 p2 p3 ⊢
      generalize atS (popY q) (q.length - 1) = s at p2 p4 ⊢
      obtain ⟨sc, sh⟩ := s
      simp only [] at p4 ⊢
      have ms : ∀ e, e ∈ q ↔ e = (sc, sh) ∨ e ∈ q' := fun e => by rw [← p2.mem_iff, List.mem_cons]
      obtain ⟨s0, s1, sw⟩ := I.E (sc, sh) ((ms _).2 (.inl rfl))
      simp only [] at s0 s1 sw
      refine Has.pos ⟨s0, by rw [hl]; exact s1⟩ ?_
      have s2 : sc.toNat < w * h := by omega
      refine Has.ite (fun hd => ?_) fun hd => ?_
      · refine sadL_ok hl f q' out done ⟨p1, I.ol, I.dl, fun e he => I.E e ((ms e).2 (.inr he)), I.S, I.C, ?_, fun i j di hj hij => ?_⟩ (by omega) (by omega)
        · rcases I.F with q1 | ⟨e, he, q1, q2⟩
          · exact .inl q1
          · rcases (ms e).1 he with rfl | he
            · left
              simp only [] at q2
              rw [q2] at hd; simpa using hd
            · exact .inr ⟨e, he, q1, q2⟩
        · rcases I.N i j di hj hij with q1 | ⟨e, he, q1, q2⟩
          · exact .inl q1
          · rcases (ms e).1 he with rfl | he
            · left
              simp only [] at q2
              rw [q2] at hd; simpa using hd
            · exact .inr ⟨e, he, q1, q2⟩
      · have hd : done.getD sc.toNat false = false := by simpa using hd
        have hsd : sc.toNat < done.length := by rw [I.dl]; exact s2
        have hso : sc.toNat < out.length := by rw [I.ol]; exact s2
        have hsc : (sc.toNat : Int) = sc := by omega
        generalize sc.toNat = s at *
        obtain ⟨n1, n2, n3⟩ := pushN_ok l (done.set s true) sh (nbs w h s) q' p1
        have nl := nbs_len w h s s2
        have un := undone_set done s hsd hd
        have gd : ∀ j, (done.set s true).getD j false = if j = s then true else done.getD j false := fun j => getD_set done s j true false hsd
        have go : ∀ j, (out.set s sh).getD j 0 = if j = s then sh else out.getD j 0 := fun j => getD_set out s j sh 0 hso
        refine sadL_ok hl f _ _ _ ⟨n1, by rw [List.length_set]; exact I.ol, by rw [List.length_set]; exact I.dl, fun e he => ?_, fun j hj => ?_, fun j θ hj k => ?_, ?_, fun i j di hj hij => ?_⟩ (by omega) (by omega)
        · rcases (n2 e).1 he with he | ⟨i, hi, hdi, rfl⟩
          · exact I.E e ((ms e).2 (.inr he))
          · obtain ⟨i1, i2⟩ := (mem_nbs w h s i s2).1 hi
            simp only [Int.toNat_natCast]
            exact ⟨by omega, by omega, .step (sw.mono (by omega)) i1 i2 (by omega)⟩
        · rw [gd] at hj
          rw [go]
          by_cases e : j = s
          · rw [if_pos e, e]; exact sw
          · rw [if_neg e] at hj ⊢; exact I.S j hj
        · rw [gd] at hj
          rw [go]
          by_cases e : j = s
          · rw [if_pos e]
            rw [e] at k
            rcases I.seen k with d | ⟨x, hx, q1⟩
            · rw [hd] at d; cases d
            · exact Int.le_trans q1 (p4 x hx)
          · rw [if_neg e] at hj ⊢; exact I.C j θ hj k
        · rw [gd]
          by_cases e : a = s
          · left; rw [if_pos e]
          · rw [if_neg e]
            rcases I.F with q1 | ⟨x, hx, q1, q2⟩
            · exact .inl q1
            · rcases (ms x).1 hx with rfl | hx
              · simp only [] at q2; omega
              · exact .inr ⟨x, (n2 x).2 (.inl hx), q1, q2⟩
        · rw [gd] at di
          rw [gd, go]
          by_cases ej : j = s
          · left; rw [if_pos ej]
          · rw [if_neg ej]
            by_cases ei : i = s
            · rw [if_pos ei]
              by_cases dj : done.getD j false = true
              · exact .inl dj
              · right
                have dj' : done.getD j false = false := by simpa using dj
                exact ⟨((j : Int), min sh (hgtB (atB l j))), (n2 _).2 (.inr ⟨j, (mem_nbs w h s j s2).2 ⟨hj, by rw [← ei]; exact hij⟩, by rw [gd, if_neg ej]; exact dj', rfl⟩), Int.le_refl _, rfl⟩
            · rw [if_neg ei] at di ⊢
              rcases I.N i j di hj hij with q1 | ⟨x, hx, q1, q2⟩
              · exact .inl q1
              · rcases (ms x).1 hx with rfl | hx
                · simp only [] at q2; omega
                · exact .inr ⟨x, (n2 x).2 (.inl hx), q1, q2⟩
theorem sadR_ok {w h : Nat} {l : List Bound} {a : Nat} (hl : l.length = w * h) (hn : w * h ≤ 1024) (ha : a < w * h) : Has (sadR w h l a) fun R => R.length = w * h ∧ ∀ j, j < w * h → ∀ θ, θ ≤ R.getD j 0 ↔ Way w h l θ a j := by
  unfold sadR
  have rep : ∀ j, (List.replicate l.length false).getD j false = false := fun j => by
    simp only [List.getD_eq_getElem?_getD, List.getElem?_replicate]; split <;> rfl
  have un : undone (List.replicate l.length false) = w * h := by unfold undone; rw [hl, List.countP_replicate]; rfl
  refine (sadL_ok hl (9 * l.length + 1) _ _ _ ⟨fun k k0 k1 => by simp at k1; omega, by simp [hl], by simp [hl], fun e he => ?_, fun j hj => (by rw [rep] at hj; cases hj), fun j θ hj => (by rw [rep] at hj; cases hj), .inr ⟨_, List.mem_cons_self .., Int.le_refl _, rfl⟩, fun i j di => (by rw [rep] at di; cases di)⟩ (by rw [un]; simp only [List.length_cons, List.length_nil]; omega) (by omega)).mono fun R ⟨r1, r2⟩ => ⟨r1, fun j hj θ => ⟨fun e => ?_, fun k => (r2 j θ k).1⟩⟩
  · rw [List.mem_singleton] at he
    rw [he]
    simp only [Int.toNat_natCast]
    exact ⟨by omega, by omega, .start ha (Int.le_refl _)⟩
  · obtain ⟨μ, hμ⟩ := hgt_low l
    exact (r2 j μ (way_all hμ ha j hj)).2.mono e
end Lf
