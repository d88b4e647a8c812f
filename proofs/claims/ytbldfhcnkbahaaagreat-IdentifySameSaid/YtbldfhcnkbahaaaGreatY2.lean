/- Laws of the plain functions. Conditions: as each theorem states them. -/
import Derived.Test.YtbldfhcnkbahaaaGreatY1
import Derived.Test.YtbldfhcnkbahaaaGreatY0
/- The way of a body, and of bounds of its places. -/
namespace Lf
open Go Go.Abs
set_option linter.unusedVariables false
set_option linter.unusedSimpArgs false
def seqP (w h : Place3) : Nat → Place3 × Place3
 | 0 => (w, h)
 | k + 1 => ((seqP w h k).2, (predict_Step (seqP w h k).1 (seqP w h k).2).getD (seqP w h k).2)
theorem seqP_ok {w h : Place3} (hw : ok3 w) (hh : ok3 h) : ∀ k, ok3 (seqP w h k).1 ∧ ok3 (seqP w h k).2
 | 0 => ⟨hw, hh⟩
 | k + 1 => by
  obtain ⟨a, b⟩ := seqP_ok hw hh k
  obtain ⟨n, e, hn, _⟩ := step_ok a b
  refine ⟨b, ?_⟩
  simp only [seqP]
  rw [e]; exact hn
theorem seqP_step {w h : Place3} (hw : ok3 w) (hh : ok3 h) (k : Nat) : predict_Step (seqP w h k).1 (seqP w h k).2 = some (seqP w h (k + 1)).2 := by
 obtain ⟨a, b⟩ := seqP_ok hw hh k
 obtain ⟨n, e, hn, _⟩ := step_ok a b
 simp only [seqP]
 rw [e]; rfl
theorem ahead_ok {w h : Place3} (hw : ok3 w) (hh : ok3 h) {days : Int} (d0 : -32 ≤ days) (d1 : days ≤ 32) :
  predict_Ahead w h days = some (if days < 0 then (seqP h w (-days - 1).toNat).2 else (seqP w h days.toNat).2, 0) := by
 apply Has.val
 unfold predict_Ahead
 refine Has.bind (P := fun z => z = false) (Has.neg (by simp; omega) (Has.ret (decide_eq_false (by omega)))) fun z hz => Has.neg (by rw [hz]; decide) ?_
 refine Has.ite (fun hd => ?_) fun hd => ?_
 ·have hd : days < 0 := of_decide_eq_true hd
  rw [if_pos hd]
  refine Has.bind (P := fun p => p = (seqP h w (-days - 1).toNat).2) ?_ fun p hp => Has.ret (by rw [hp])
  refine Has.loop (fun s : Place3 × Place3 × Int => 0 ≤ s.2.2 ∧ s.2.2 ≤ -days - 1 ∧ (s.1, s.2.1) = seqP h w s.2.2.toNat) (fun s => (-days - 1 - s.2.2).toNat) _ ⟨Int.le_refl _, by simp only []; omega, rfl⟩ (by simp only []; omega) fun s ⟨s0, s1, s2⟩ => ?_
  unfold predict_Ahead.l1
  rw [Int.zero_sub, w6_in (n := -days) (by omega), w6_in (n := -days - 1) (by omega)]
  have e1 : s.1 = (seqP h w s.2.2.toNat).1 := congrArg Prod.fst s2
  have e2 : s.2.1 = (seqP h w s.2.2.toNat).2 := congrArg Prod.snd s2
  refine Has.ite (fun hi => ?_) fun hi => ?_
  ·have hi : s.2.2 < -days - 1 := of_decide_eq_true hi
   rw [e1, e2, seqP_step hh hw, w6_in (n := s.2.2 + 1) (by omega)]
   refine Has.ret (.next ⟨by simp only []; omega, by simp only []; omega, ?_⟩ (by simp only []; omega))
   have : (s.2.2 + 1).toNat = s.2.2.toNat + 1 := by omega
   simp only [this]; rfl
  ·have hi : ¬ s.2.2 < -days - 1 := fun q => hi (decide_eq_true q)
   exact Has.ret (.done (by rw [e2, show s.2.2 = -days - 1 from by omega]))
 ·have hd : ¬ days < 0 := fun q => hd (decide_eq_true q)
  rw [if_neg hd]
  refine Has.bind (P := fun p => p = (seqP w h days.toNat).2) ?_ fun p hp => Has.ret (by rw [hp])
  refine Has.loop (fun s : Place3 × Place3 × Int => 0 ≤ s.2.2 ∧ s.2.2 ≤ days ∧ (s.1, s.2.1) = seqP w h s.2.2.toNat) (fun s => (days - s.2.2).toNat) _ ⟨Int.le_refl _, by simp only []; omega, rfl⟩ (by simp only []; omega) fun s ⟨s0, s1, s2⟩ => ?_
  unfold predict_Ahead.l2
  have e1 : s.1 = (seqP w h s.2.2.toNat).1 := congrArg Prod.fst s2
  have e2 : s.2.1 = (seqP w h s.2.2.toNat).2 := congrArg Prod.snd s2
  refine Has.ite (fun hi => ?_) fun hi => ?_
  ·have hi : s.2.2 < days := of_decide_eq_true hi
   rw [e1, e2, seqP_step hw hh, w6_in (n := s.2.2 + 1) (by omega)]
   refine Has.ret (.next ⟨by simp only []; omega, by simp only []; omega, ?_⟩ (by simp only []; omega))
   have : (s.2.2 + 1).toNat = s.2.2.toNat + 1 := by omega
   simp only [this]; rfl
  ·have hi : ¬ s.2.2 < days := fun q => hi (decide_eq_true q)
   exact Has.ret (.done (by rw [e2, show s.2.2 = days from by omega]))
structure Keeps3 (R : Vec → Place3 → Prop) : Prop where
 ok : ∀ {v p}, R v p → ok3 p
 inn : ∀ {v p}, R v p → inV v
 step : ∀ {was here g w h q}, R was w → R here h → isG here g → isPull h q → inV (nextV was here g) → R (nextV was here g) (stepZ h.1 w.1 q.1, stepZ h.2.1 w.2.1 q.2.1, stepZ h.2.2 w.2.2 q.2.2)
section
variable {R : Vec → Place3 → Prop}
theorem Keeps3.seq (hR : Keeps3 R) {was here : Vec} {w h : Place3} (hw : ok3 w) (hh : ok3 h) (k : Nat) (h1 : R was (seqP w h k).1) (h2 : R here (seqP w h k).2) :
  Has (sky_Step was here) fun r => r.2 = 0 ∧ R r.1 (seqP w h (k + 1)).2 ∨ r.2 = 18 := by
 refine (skyStep_ok (hR.inn h1) (hR.inn h2)).mono fun r ⟨g, hg, hr⟩ => ?_
 rcases hr with ⟨r1, r2, r3⟩ | ⟨r1, _⟩
 ·refine .inl ⟨r1, ?_⟩
  obtain ⟨a, b⟩ := seqP_ok hw hh k
  obtain ⟨n, e, hn, q, hq, en⟩ := step_ok a b
  have := seqP_step hw hh k
  rw [e] at this
  have en2 : (seqP w h (k + 1)).2 = n := (Option.some.inj this).symm
  rw [en2, en, r3]
  exact hR.step h1 h2 hg hq r2
 ·exact .inr r1
theorem path_ok (hR : Keeps3 R) {b : Body} {w h : Place3} (h1 : R b.Was w) (h2 : R b.Here h) {day : Int} (d0 : -400 ≤ day) (d1 : day ≤ 400) :
  Has (sky_Path b day) fun r => r.2.2 = 0 → R r.2.1 (if day < 0 then (seqP h w (-day - 1).toNat).2 else (seqP w h day.toNat).2) := by
 have hw := hR.ok h1; have hh := hR.ok h2
 unfold sky_Path
 rw [moves_ok (hR.inn h1) (hR.inn h2)]
 refine Has.bind (P := fun z => z = false) (Has.neg (by simp; omega) (Has.neg (by simp; omega) (Has.ret rfl))) fun z hz => Has.neg (by rw [hz]; decide) ?_
 have ends : ∀ (z : Vec × Vec × Int) (X : Place3), (z.2.2 = 0 → R z.2.1 X) → Has (if (z.2.2 != 0) = true then some (Vec.mk 0 0 0, Vec.mk 0 0 0, z.2.2) else some (z.1, z.2.1, 0)) fun r : Vec × Vec × Int => r.2.2 = 0 → R r.2.1 X := fun z X hz => by
  refine Has.ite (fun h => Has.ret fun e => ?_) fun h => Has.ret fun _ => hz (by simpa using h)
  simp only [] at e; rw [e] at h; exact absurd h (by decide)
 by_cases hd : day < 0
 ·rw [if_pos hd]
  refine Has.bind (P := fun z : Vec × Vec × Int => z = (b.Was, b.Here, 0)) ?_ fun z hz => ?_
  ·refine Has.loop (fun s : Vec × Vec × Int × Int => s = (b.Was, b.Here, 0, day)) (fun _ => 1) _ rfl (by decide) fun s hs => ?_
   rw [hs]
   unfold sky_Path.l1
   refine Has.bind (P := fun z => z = false) (Has.neg (by simp; omega) (Has.ret rfl)) fun z hz => Has.neg (by rw [hz]; decide) (Has.ret (.done rfl))
  ·rw [hz]
   simp only []
   refine Has.bind (P := fun z : Vec × Vec × Int => z.2.2 = 0 → R z.2.1 (seqP h w (-day - 1).toNat).2) ?_ fun z hz => ends z _ hz
   refine Has.loop (fun s : Vec × Vec × Int × Int => day ≤ s.2.2.2 ∧ s.2.2.2 ≤ 0 ∧ (s.2.2.1 = 0 → R s.2.1 (seqP h w (s.2.2.2 - day).toNat).1 ∧ R s.1 (seqP h w (s.2.2.2 - day).toNat).2)) (fun s => (-s.2.2.2).toNat) _ ⟨Int.le_refl _, by simp only []; omega, fun _ => ?_⟩ (by simp only []; omega) fun s ⟨s0, s1, s2⟩ => ?_
   ·simp only [Int.sub_self]; exact ⟨h2, h1⟩
   unfold sky_Path.l2
   refine Has.bind (P := fun z => z = decide (s.2.2.2 < 0 ∧ s.2.2.1 = 0)) (Has.ite (fun h => Has.ret ?_) fun h => Has.ret ?_) fun z hz => ?_
   ·have h : s.2.2.2 < 0 := of_decide_eq_true h
    by_cases e : s.2.2.1 = 0 <;> simp [h, e]
   ·have h : ¬ s.2.2.2 < 0 := fun q => h (decide_eq_true q)
    simp [h]
   ·refine Has.ite (fun h => ?_) fun h => ?_
    ·rw [hz] at h
     obtain ⟨h, e⟩ : s.2.2.2 < 0 ∧ s.2.2.1 = 0 := of_decide_eq_true h
     obtain ⟨g1, g2⟩ := s2 e
     refine (hR.seq hh hw _ g1 g2).bind fun r hr => ?_
     rw [w6_in (n := s.2.2.2 + 1) (by omega)]
     refine Has.ret (.next ⟨by simp only []; omega, by simp only []; omega, fun e2 => ?_⟩ (by simp only []; omega))
     simp only [] at e2
     have en : (s.2.2.2 + 1 - day).toNat = (s.2.2.2 - day).toNat + 1 := by omega
     rcases hr with ⟨_, hr⟩ | hr
     ·simp only [en]; exact ⟨g2, hr⟩
     ·rw [hr] at e2; cases e2
    ·rw [hz] at h
     have h : ¬ (s.2.2.2 < 0 ∧ s.2.2.1 = 0) := fun q => h (decide_eq_true q)
     refine Has.ret (.done fun e => ?_)
     simp only [] at e ⊢
     have e0 : s.2.2.2 = 0 := by omega
     have := (s2 e).1
     rw [e0, show (0 - day).toNat = (-day - 1).toNat + 1 from by omega] at this
     exact this
 ·rw [if_neg hd]
  refine Has.bind (P := fun z : Vec × Vec × Int => z.2.2 = 0 → R z.2.1 (seqP w h day.toNat).2) ?_ fun z hz => ?_
  ·refine Has.loop (fun s : Vec × Vec × Int × Int => 0 ≤ s.2.2.2 ∧ s.2.2.2 ≤ day ∧ (s.2.2.1 = 0 → R s.1 (seqP w h (day - s.2.2.2).toNat).1 ∧ R s.2.1 (seqP w h (day - s.2.2.2).toNat).2)) (fun s => s.2.2.2.toNat) _ ⟨by simp only []; omega, Int.le_refl _, fun _ => ?_⟩ (by simp only []; omega) fun s ⟨s0, s1, s2⟩ => ?_
   ·simp only [Int.sub_self]; exact ⟨h1, h2⟩
   unfold sky_Path.l1
   refine Has.bind (P := fun z => z = decide (s.2.2.2 > 0 ∧ s.2.2.1 = 0)) (Has.ite (fun h => Has.ret ?_) fun h => Has.ret ?_) fun z hz => ?_
   ·have h : s.2.2.2 > 0 := of_decide_eq_true h
    by_cases e : s.2.2.1 = 0 <;> simp [h, e]
   ·have h : ¬ s.2.2.2 > 0 := fun q => h (decide_eq_true q)
    simp [h]
   ·refine Has.ite (fun h => ?_) fun h => ?_
    ·rw [hz] at h
     obtain ⟨h, e⟩ : s.2.2.2 > 0 ∧ s.2.2.1 = 0 := of_decide_eq_true h
     obtain ⟨g1, g2⟩ := s2 e
     refine (hR.seq hw hh _ g1 g2).bind fun r hr => ?_
     rw [w6_in (n := s.2.2.2 - 1) (by omega)]
     refine Has.ret (.next ⟨by simp only []; omega, by simp only []; omega, fun e2 => ?_⟩ (by simp only []; omega))
     simp only [] at e2
     have en : (day - (s.2.2.2 - 1)).toNat = (day - s.2.2.2).toNat + 1 := by omega
     rcases hr with ⟨_, hr⟩ | hr
     ·simp only [en]; exact ⟨g2, hr⟩
     ·rw [hr] at e2; cases e2
    ·rw [hz] at h
     have h : ¬ (s.2.2.2 > 0 ∧ s.2.2.1 = 0) := fun q => h (decide_eq_true q)
     refine Has.ret (.done fun e => ?_)
     simp only [] at e ⊢
     have e0 : s.2.2.2 = 0 := by omega
     have := (s2 e).2
     rw [e0, Int.sub_zero] at this
     exact this
  ·refine Has.bind (P := fun y : Vec × Vec × Int => y = z) ?_ fun y hy => ends y _ (by rw [hy]; exact hz)
   refine Has.loop (fun s : Vec × Vec × Int × Int => s = (z.1, z.2.1, z.2.2, day)) (fun _ => 1) _ rfl (by decide) fun s hs => ?_
   rw [hs]
   unfold sky_Path.l2
   refine Has.bind (P := fun z => z = false) (Has.neg (by simp; omega) (Has.ret rfl)) fun z hz => Has.neg (by rw [hz]; decide) (Has.ret (.done rfl))
end
end Lf
/- A place can be a vector. -/
namespace Lf
open Go Go.Abs
set_option linter.unusedVariables false
set_option linter.unusedSimpArgs false
structure has3 (p : Place3) (v : Vec) : Prop where
 x : hasZ p.1 v.X
 y : hasZ p.2.1 v.Y
 z : hasZ p.2.2 v.Z
end Lf
/- Bounds of a place lead to bounds of the places on later days. -/
namespace Lf
open Go Go.Abs
set_option linter.unusedVariables false
set_option linter.unusedSimpArgs false
theorem mag_zero (r : Int) : mag 0 r = 0 := by unfold mag; simp
theorem part_down {x H r near hi : Int} (hx : x ≤ H) (n0 : 0 < near) (h1 : near ≤ r) (h2 : r ≤ hi) : (if H > 0 then partZ H near else partZ H hi) ≤ partZ x r := by
 by_cases hH : H > 0
 ·rw [if_pos hH]
  have e : partZ H near = -mag H near := by unfold partZ; rw [if_pos hH]
  have m := (mag_mono (a := H) (b := H) (by omega) (Int.le_refl _) n0 (Int.le_refl near)).1
  rw [e]
  by_cases hx0 : x > 0
  ·have := (mag_mono (a := x) (b := H) (by omega) hx n0 h1).2
   unfold partZ; rw [if_pos hx0]; omega
  ·have := (mag_mono (a := -x) (b := -x) (by omega) (Int.le_refl _) (show 0 < r by omega) (Int.le_refl r)).1
   unfold partZ; rw [if_neg hx0]; omega
 ·rw [if_neg hH]
  have hx0 : ¬ x > 0 := by omega
  have := (mag_mono (a := -H) (b := -x) (by omega) (by omega) (show 0 < r by omega) h2).2
  unfold partZ; rw [if_neg hH, if_neg hx0]; exact this
theorem part_up {x L r near hi : Int} (hx : L ≤ x) (n0 : 0 < near) (h1 : near ≤ r) (h2 : r ≤ hi) : partZ x r ≤ (if L < 0 then partZ L near else partZ L hi) := by
 by_cases hL : L < 0
 ·rw [if_pos hL]
  have e : partZ L near = mag (-L) near := by unfold partZ; rw [if_neg (by omega)]
  have m := (mag_mono (a := -L) (b := -L) (by omega) (Int.le_refl _) n0 (Int.le_refl near)).1
  rw [e]
  by_cases hx0 : x > 0
  ·have := (mag_mono (a := x) (b := x) (by omega) (Int.le_refl _) (show 0 < r by omega) (Int.le_refl r)).1
   unfold partZ; rw [if_pos hx0]; omega
  ·have := (mag_mono (a := -x) (b := -L) (by omega) (by omega) n0 h1).2
   unfold partZ; rw [if_neg hx0]; exact this
 ·rw [if_neg hL]
  by_cases hL0 : L > 0
  ·have := (mag_mono (a := L) (b := x) (by omega) hx (show 0 < r by omega) h2).2
   unfold partZ; rw [if_pos hL0, if_pos (by omega)]; omega
  ·have e : L = 0 := by omega
   subst e
   have e0 : partZ 0 hi = 0 := by unfold partZ; rw [if_neg (by omega)]; exact mag_zero hi
   rw [e0]
   by_cases hx0 : x > 0
   ·have := (mag_mono (a := x) (b := x) (by omega) (Int.le_refl _) (show 0 < r by omega) (Int.le_refl r)).1
    unfold partZ; rw [if_pos hx0]; omega
   ·have e1 : x = 0 := by omega
    subst e1
    unfold partZ; rw [if_neg (by omega)]; simp [mag_zero]
theorem pullZ_has {lo hi rt x : Int} {b : Bound} (h1 : b.Lo ≤ x) (h2 : x ≤ b.Hi) (l : lo ≤ rt) (u : rt ≤ hi) : hasZ (pullZ lo hi true b) (if rt < 65536 then 0 else partZ x rt) := by
 unfold pullZ
 simp only [Bool.true_eq_false, if_false]
 by_cases hh : hi < 65536
 ·rw [if_pos hh, if_pos (by omega)]; exact .inr ⟨Int.le_refl _, Int.le_refl _⟩
 ·rw [if_neg hh]
  by_cases hr : rt < 65536
  ·rw [if_pos hr, if_pos (by omega)]
   exact hasZ_of (by omega) (by omega)
  ·rw [if_neg hr]
   have d := part_down (x := x) (H := b.Hi) (r := rt) (near := max lo 65536) (hi := hi) h2 (by omega) (by omega) u
   have p := part_up (x := x) (L := b.Lo) (r := rt) (near := max lo 65536) (hi := hi) h1 (by omega) (by omega) u
   split
   ·exact hasZ_of (by omega) (by omega)
   ·exact hasZ_of d p
theorem near_has {b : Bound} {x : Int} (n : near25 b) (h : hasZ b x) : b.Lo ≤ x ∧ x ≤ b.Hi := by
 rcases h with h | h
 ·rw [n.1] at h; cases h
 ·exact h
theorem pull_has {h q : Place3} {v g : Vec} (hq : isPull h q) (hv : has3 h v) (hg : isG v g) : has3 q g := by
 obtain ⟨f, hf, rfl⟩ := hq
 obtain ⟨r, hr, hg⟩ := hg
 cases e : f.2.2 with
 | false =>
  have z : ∀ b, pullZ f.1 f.2.1 false b = noneZ := fun b => by unfold pullZ; rw [if_pos rfl]
  refine ⟨?_, ?_, ?_⟩ <;> simp only [z] <;> exact hasZ_none _
 | true =>
  obtain ⟨n1, n2, n3, l, u, _⟩ := hf.yes e
  obtain ⟨x1, x2⟩ := near_has n1 hv.x
  obtain ⟨y1, y2⟩ := near_has n2 hv.y
  obtain ⟨z1, z2⟩ := near_has n3 hv.z
  have sx := square_bd x1 x2; have sy := square_bd y1 y2; have sz := square_bd z1 z2
  have lr := l.mono hr (by omega)
  have ru := hr.mono u (by omega)
  have px := pullZ_has (lo := f.1) (hi := f.2.1) x1 x2 lr ru
  have py := pullZ_has (lo := f.1) (hi := f.2.1) y1 y2 lr ru
  have pz := pullZ_has (lo := f.1) (hi := f.2.1) z1 z2 lr ru
  rcases hg with ⟨r0, rfl⟩ | ⟨r0, rfl⟩
  ·rw [if_pos r0] at px py pz; exact ⟨px, py, pz⟩
  ·rw [if_neg (by omega)] at px py pz; exact ⟨px, py, pz⟩
theorem stepZ_has {h w q : Bound} {x y g : Int} (hx : hasZ h x) (hy : hasZ w y) (hg : hasZ q g) : hasZ (stepZ h w q) (2 * x - y + g) := by
 unfold stepZ
 refine hasZ_add (hasZ_sub (hasZ_mul (x := x) (y := 2) hx (.inr ⟨Int.le_refl _, Int.le_refl _⟩) ?_ ?_) hy) hg
 ·rw [Int.ediv_one]; omega
 ·rw [cdiv_one]; omega
theorem has_keeps : Keeps3 fun v p => inV v ∧ ok3 p ∧ has3 p v where
 ok h := h.2.1
 inn h := h.1
 step := by
  rintro was here g w h q ⟨i1, o1, h1⟩ ⟨i2, o2, h2⟩ hg hq hn
  have p := pull_has hq h2 hg
  exact ⟨hn, ⟨stepZ_ok _ _ _, stepZ_ok _ _ _, stepZ_ok _ _ _⟩, ⟨stepZ_has h2.x h1.x p.x, stepZ_has h2.y h1.y p.y, stepZ_has h2.z h1.z p.z⟩⟩
end Lf
/- predict.first whole: it holds the place of the first sighting. -/
namespace Lf
open Go Go.Abs
set_option linter.unusedVariables false
set_option linter.unusedSimpArgs false
def vZ (here pull e0 e2 : Place3) (i : Int) : Bound := subZ (subZ (addZ (mulZ (at3 here i) ⟨2, 2, false⟩ 1) (at3 pull i)) (at3 e0 i)) (at3 e2 i)
theorem v_ok {here pull e0 e2 : Place3} (hh : ok3 here) (hp : ok3 pull) (h0 : ok3 e0) (h2 : ok3 e2) (init : Place3) : loopF (predict_first.l1 here e0 e2 pull) (init, 0) = some (vZ here pull e0 e2 0, vZ here pull e0 e2 1, vZ here pull e0 e2 2) := by
 refine loop3 (vZ here pull e0 e2) init (fun st i i0 i1 => ?_) fun st => rfl
 apply Has.val
 unfold predict_first.l1
 simp only [at3_def]
 refine Has.pos (decide_eq_true i1) (Has.chk ⟨i0, i1⟩ ?_)
 rw [scale2_eq (at3_ok hh i0 i1)]
 refine Has.chk ⟨i0, i1⟩ ?_
 rw [addZ_eq (mulZ_ok _ _ _) (at3_ok hp i0 i1)]
 refine Has.chk ⟨i0, i1⟩ ?_
 rw [subZ_eq (addZ_ok _ _) (at3_ok h0 i0 i1)]
 refine Has.chk ⟨i0, i1⟩ ?_
 rw [subZ_eq (subZ_ok _ _) (at3_ok h2 i0 i1)]
 refine Has.chk ⟨i0, i1⟩ (Has.letF (Has.ret ?_))
 rw [w6_in (n := i + 1) (by omega)]; rfl
def outZ (a e0 : Place3) (long : Bound) (i : Int) : Bound := addZ (at3 e0 i) (mulZ (at3 a i) long 1073741824)
theorem out_ok {a e0 : Place3} {f g : Bool} {long : Bound} (ha : ok3 a) (h0 : ok3 e0) (hl : long.ok) (init : Place3) : loopF (predict_first.l3 (a, f) e0 (long, g)) (init, 0) = some (outZ a e0 long 0, outZ a e0 long 1, outZ a e0 long 2) := by
 refine loop3 (outZ a e0 long) init (fun st i i0 i1 => ?_) fun st => rfl
 apply Has.val
 unfold predict_first.l3
 simp only [at3_def]
 refine Has.pos (decide_eq_true i1) (Has.chk ⟨i0, i1⟩ (Has.chk ⟨i0, i1⟩ ?_))
 rw [mulZ_eq (at3_ok ha i0 i1) hl (by decide)]
 simp only [Option.bind_some]
 rw [addZ_eq (at3_ok h0 i0 i1) (mulZ_ok _ _ _)]
 refine Has.chk ⟨i0, i1⟩ (Has.letF (Has.ret ?_))
 rw [w6_in (n := i + 1) (by omega)]; rfl
end Lf
/- predict.first: the place at the first sighting. -/
namespace Lf
open Go Go.Abs
set_option linter.unusedVariables false
set_option linter.unusedSimpArgs false
theorem has3.at {p : Place3} {v : Vec} (h : has3 p v) {i : Int} (i0 : 0 ≤ i) (i1 : i < 3) : hasZ (at3 p i) (coV v i) := by
 rcases three i0 i1 with rfl | rfl | rfl
 ·exact h.x
 ·exact h.y
 ·exact h.z
theorem ex3_has (v : Vec) {i : Int} (i0 : 0 ≤ i) (i1 : i < 3) : hasZ (at3 (ex3 v) i) (coV v i) := by
 rcases three i0 i1 with rfl | rfl | rfl <;> exact .inr ⟨Int.le_refl _, Int.le_refl _⟩
theorem vZ_has {here pull e0 e2 : Place3} {i a b c d : Int} (ha : hasZ (at3 here i) a) (hb : hasZ (at3 pull i) b) (hc : hasZ (at3 e0 i) c) (hd : hasZ (at3 e2 i) d) : hasZ (vZ here pull e0 e2 i) (2 * a + b - c - d) := by
 unfold vZ
 refine hasZ_sub (hasZ_sub (hasZ_add (hasZ_mul (x := a) (y := 2) ha (.inr ⟨Int.le_refl _, Int.le_refl _⟩) ?_ ?_) hb) hc) hd
 ·rw [Int.ediv_one]; omega
 ·rw [cdiv_one]; omega
theorem first_long {a c vv : Place3} {x z : Vec} {k0 k2 t0 t2 : Int} (oa : ok3 a) (oc : ok3 c) (k01 : 1 ≤ k0) (k21 : 1 ≤ k2) (t01 : 1 ≤ t0) (t21 : 1 ≤ t2)
  (ra : ∀ i : Int, 0 ≤ i → i < 3 → hasR (at3 a i) (k0 * coV x i * 1125899906842624) t0) (rc : ∀ i : Int, 0 ≤ i → i < 3 → hasR (at3 c i) (k2 * coV z i * 1125899906842624) t2)
  (rv : ∀ i : Int, 0 ≤ i → i < 3 → hasZ (at3 vv i) (coV x i + coV z i)) {b : Int} (b0 : 0 ≤ b) (b1 : b < 3)
  (aw : away (at3 (crossZ a (subZ c.1 a.1, subZ c.2.1 a.2.1, subZ c.2.2 a.2.2) 1 2, crossZ a (subZ c.1 a.1, subZ c.2.1 a.2.1, subZ c.2.2 a.2.2) 2 0, crossZ a (subZ c.1 a.1, subZ c.2.1 a.2.1, subZ c.2.2 a.2.2) 0 1) b)) :
  hasR (divZ (at3 (crossZ vv c 1 2, crossZ vv c 2 0, crossZ vv c 0 1) b) (at3 (crossZ a (subZ c.1 a.1, subZ c.2.1 a.2.1, subZ c.2.2 a.2.2) 1 2, crossZ a (subZ c.1 a.1, subZ c.2.1 a.2.1, subZ c.2.2 a.2.2) 2 0, crossZ a (subZ c.1 a.1, subZ c.2.1 a.2.1, subZ c.2.2 a.2.2) 0 1) b) 1073741824) t0 (1048576 * k0) := by
 obtain ⟨i, j, i0, i1, j0, j1, en, ew⟩ : ∃ i j : Int, 0 ≤ i ∧ i < 3 ∧ 0 ≤ j ∧ j < 3 ∧ at3 (crossZ a (subZ c.1 a.1, subZ c.2.1 a.2.1, subZ c.2.2 a.2.2) 1 2, crossZ a (subZ c.1 a.1, subZ c.2.1 a.2.1, subZ c.2.2 a.2.2) 2 0, crossZ a (subZ c.1 a.1, subZ c.2.1 a.2.1, subZ c.2.2 a.2.2) 0 1) b = crossZ a (subZ c.1 a.1, subZ c.2.1 a.2.1, subZ c.2.2 a.2.2) i j ∧ at3 (crossZ vv c 1 2, crossZ vv c 2 0, crossZ vv c 0 1) b = crossZ vv c i j := by
  rcases three b0 b1 with rfl | rfl | rfl
  ·exact ⟨1, 2, by decide, by decide, by decide, by decide, rfl, rfl⟩
  ·exact ⟨2, 0, by decide, by decide, by decide, by decide, rfl, rfl⟩
  ·exact ⟨0, 1, by decide, by decide, by decide, by decide, rfl, rfl⟩
 rw [en] at aw
 rw [en, ew]
 have rm : ∀ i : Int, 0 ≤ i → i < 3 → hasR (at3 (subZ c.1 a.1, subZ c.2.1 a.2.1, subZ c.2.2 a.2.2) i) (k2 * coV z i * 1125899906842624 * t0 - k0 * coV x i * 1125899906842624 * t2) (t0 * t2) := fun i i0 i1 => by
  have u1 := hasR_up (m := t0) (by omega) (rc i i0 i1)
  rw [Int.mul_comm t2 t0] at u1
  have u2 := hasR_up (m := t2) (by omega) (ra i i0 i1)
  have s := hasR_sub u1 u2
  rcases three i0 i1 with rfl | rfl | rfl <;> exact s
 have tt : 0 ≤ t0 * t2 := Int.mul_nonneg (by omega) (by omega)
 have n := crossR (by omega) tt (ra i i0 i1) (ra j j0 j1) (rm i i0 i1) (rm j j0 j1)
 have rv1 : ∀ i : Int, 0 ≤ i → i < 3 → hasR (at3 vv i) (coV x i + coV z i) 1 := fun i i0 i1 => by
  have := hasR_int (q := 1) (by decide) (rv i i0 i1)
  rw [Int.mul_one] at this; exact this
 have w := crossR (by decide) (by omega) (rv1 i i0 i1) (rv1 j j0 j1) (rc i i0 i1) (rc j j0 j1)
 refine longR (C := k2 * 1125899906842624) (D := coV x i * coV z j - coV x j * coV z i) (u := t2) (subZ_ok _ _) (subZ_ok _ _) aw k01 (by omega) t01 t21 ?_ ?_
 ·have e : k0 * 1125899906842624 * (k2 * 1125899906842624) * t0 * (coV x i * coV z j - coV x j * coV z i) = k0 * coV x i * 1125899906842624 * (k2 * coV z j * 1125899906842624 * t0 - k0 * coV x j * 1125899906842624 * t2) - k0 * coV x j * 1125899906842624 * (k2 * coV z i * 1125899906842624 * t0 - k0 * coV x i * 1125899906842624 * t2) := by grind
  rw [e]; exact n
 ·have e : k2 * 1125899906842624 * (coV x i * coV z j - coV x j * coV z i) = (coV x i + coV z i) * (k2 * coV z j * 1125899906842624) - (coV x j + coV z j) * (k2 * coV z i * 1125899906842624) := by grind
  rw [e]
  rw [Int.one_mul] at w
  exact w
end Lf
/- predict.first holds the place of the first sighting: the whole. -/
namespace Lf
open Go Go.Abs
set_option linter.unusedVariables false
set_option linter.unusedSimpArgs false
theorem first_ok {s : Seen × Seen × Seen} {here : Place3} {m g v0 v2 : Vec} {k0 k2 : Int} (oh : ok3 here) (h0 : sighted s.1.Box v0 k0) (h2 : sighted s.2.2.Box v2 k2) (i0 : inV s.1.From) (i2 : inV s.2.2.From)
  (hm : has3 here m) (hg : isG m g) (top : sqs v0 ≤ 281474976710656) (eq : ∀ i : Int, 2 * coV m i + coV g i - coV s.1.From i - coV s.2.2.From i = coV v0 i + coV v2 i) :
  Has (predict_first s here) fun r => r.2 = true ∧ ok3 r.1 ∧ has3 r.1 (addV s.1.From v0) := by
 unfold predict_first
 refine h0.ray.bind fun ⟨a, af⟩ ⟨_, oa, wa⟩ => h2.ray.bind fun ⟨c, cf⟩ ⟨_, oc, wc⟩ => ?_
 rw [exact3_ok i0, exact3_ok i2]
 simp only [Option.bind_some]
 refine (pull_ok oh).bind fun q hq => ?_
 have hq : isPull here q := hq
 have oq := hq.ok
 have hp := pull_has hq hm hg
 simp only [] at oa oc wa wc
 rw [v_ok oh oq (ex3_ok i0) (ex3_ok i2)]
 simp only [Option.bind_some]
 have ov : ok3 (vZ here q (ex3 s.1.From) (ex3 s.2.2.From) 0, vZ here q (ex3 s.1.From) (ex3 s.2.2.From) 1, vZ here q (ex3 s.1.From) (ex3 s.2.2.From) 2) := ⟨subZ_ok _ _, subZ_ok _ _, subZ_ok _ _⟩
 have om : ok3 (subZ c.1 a.1, subZ c.2.1 a.2.1, subZ c.2.2 a.2.2) := ⟨subZ_ok _ _, subZ_ok _ _, subZ_ok _ _⟩
 rw [minus_eq oc oa]
 simp only [Option.bind_some]
 rw [cross_eq oa om, cross_eq ov oc]
 simp only [Option.bind_some, none_ok]
 have on : ok3 (crossZ a (subZ c.1 a.1, subZ c.2.1 a.2.1, subZ c.2.2 a.2.2) 1 2, crossZ a (subZ c.1 a.1, subZ c.2.1 a.2.1, subZ c.2.2 a.2.2) 2 0, crossZ a (subZ c.1 a.1, subZ c.2.1 a.2.1, subZ c.2.2 a.2.2) 0 1) := ⟨subZ_ok _ _, subZ_ok _ _, subZ_ok _ _⟩
 refine (best_ok on).bind fun b hb => ?_
 rcases hb with rfl | ⟨b0, b1, aw⟩
 ·exact Has.pos (by decide) (Has.ret ⟨rfl, ⟨okNone, okNone, okNone⟩, ⟨.inl rfl, .inl rfl, .inl rfl⟩⟩)
 ·refine Has.neg (by simp; omega) (Has.chk ⟨b0, b1⟩ (Has.chk ⟨b0, b1⟩ ?_))
  obtain ⟨t0, t01, _, tB, ra⟩ := wa 0 (Int.le_refl _) (by have := sqs_nonneg v0; omega)
  obtain ⟨t2, t21, _, _, rc⟩ := wc 0 (Int.le_refl _) (by have := sqs_nonneg v2; omega)
  have rv : ∀ i : Int, 0 ≤ i → i < 3 → hasZ (at3 (vZ here q (ex3 s.1.From) (ex3 s.2.2.From) 0, vZ here q (ex3 s.1.From) (ex3 s.2.2.From) 1, vZ here q (ex3 s.1.From) (ex3 s.2.2.From) 2) i) (coV v0 i + coV v2 i) := fun i j0 j1 => by
   have := vZ_has (hm.at j0 j1) (hp.at j0 j1) (ex3_has s.1.From j0 j1) (ex3_has s.2.2.From j0 j1)
   rw [eq i] at this
   rcases three j0 j1 with rfl | rfl | rfl <;> exact this
  have long := first_long oa oc h0.k1 h2.k1 t01 t21 ra rc rv b0 b1 aw
  simp only [at3_mk]
  rw [divZ_eq (by rcases three b0 b1 with rfl | rfl | rfl <;> exact subZ_ok _ _) (by rcases three b0 b1 with rfl | rfl | rfl <;> exact subZ_ok _ _) (by decide)]
  simp only [Option.bind_some]
  have tt := tB 16777216 (by decide) (by omega)
  refine (meetTop_ok (divZ_ok _ _ _) long (by have := h0.k1; omega) (by omega) (by omega)).bind fun ⟨lg, lf⟩ ⟨l1, l2, l3⟩ => ?_
  simp only [] at l1 l2 l3
  rw [out_ok oa (ex3_ok i0) l2]
  have ho : ∀ i : Int, 0 ≤ i → i < 3 → hasZ (outZ a (ex3 s.1.From) lg i) (coV s.1.From i + coV v0 i) := fun i j0 j1 => by
   unfold outZ
   exact hasZ_add (ex3_has s.1.From j0 j1) (alongR h0.k1 t01 (ra i j0 j1) l3)
  exact Has.ret ⟨l1, ⟨addZ_ok _ _, addZ_ok _ _, addZ_ok _ _⟩, ⟨ho 0 (by decide) (by decide), ho 1 (by decide) (by decide), ho 2 (by decide) (by decide)⟩⟩
end Lf
/- predict.Starts at an orbit of one step. -/
namespace Lf
open Go Go.Abs
set_option linter.unusedVariables false
set_option linter.unusedSimpArgs false
theorem step_bd {m : Int} (h0 : 0 ≤ m) (h1 : m ≤ 16777216) : Bound.ok ⟨m, m + 4096, false⟩ := okKnown (by omega) (by omega) (by omega)
theorem here_ok {a e : Place3} {f : Bool} {s5 : (List (Place3 × Place3)) × Int} (ha : ok3 a) (he : ok3 e) (m0 : 0 ≤ s5.2) (m1 : s5.2 ≤ 16777216) (init : Place3) : loopF (predict_Starts.l2 (a, f) e s5) (init, 0) = some (outZ a e ⟨s5.2, s5.2 + 4096, false⟩ 0, outZ a e ⟨s5.2, s5.2 + 4096, false⟩ 1, outZ a e ⟨s5.2, s5.2 + 4096, false⟩ 2) := by
 refine loop3 (outZ a e ⟨s5.2, s5.2 + 4096, false⟩) init (fun st i i0 i1 => ?_) fun st => rfl
 apply Has.val
 unfold predict_Starts.l2
 simp only [at3_def]
 rw [w6_in (n := s5.2 + 4096) (by omega)]
 refine Has.pos (decide_eq_true i1) (Has.chk ⟨i0, i1⟩ (Has.chk ⟨i0, i1⟩ ?_))
 rw [mulZ_eq (at3_ok ha i0 i1) (step_bd m0 m1) (by decide)]
 simp only [Option.bind_some]
 rw [addZ_eq (at3_ok he i0 i1) (mulZ_ok _ _ _)]
 refine Has.chk ⟨i0, i1⟩ (Has.letF (Has.ret ?_))
 rw [w6_in (n := i + 1) (by omega)]; rfl
theorem starts_ok {o : arc_Orbit} {g v0 v1 v2 : Vec} {k0 k1 k2 : Int} (hC : predict_Check o = some 0) (n0 : 0 ≤ o.Near) (hf : o.Far = o.Near + 4096) (nf : o.Far ≤ 16777216)
  (h0 : sighted o.Seen.1.Box v0 k0) (h1 : sighted o.Seen.2.1.Box v1 k1) (h2 : sighted o.Seen.2.2.Box v2 k2) (i0 : inV o.Seen.1.From) (i1 : inV o.Seen.2.1.From) (i2 : inV o.Seen.2.2.From)
  (d1 : o.Near * o.Near ≤ sqs v1) (d2 : sqs v1 ≤ o.Far * o.Far) (hg : isG (addV o.Seen.2.1.From v1) g) (top : sqs v0 ≤ 281474976710656)
  (eq : ∀ i : Int, 2 * coV (addV o.Seen.2.1.From v1) i + coV g i - coV o.Seen.1.From i - coV o.Seen.2.2.From i = coV v0 i + coV v2 i) :
  Has (predict_Starts o) fun r => r.2 = 0 ∧ ∃ w h : Place3, r.1 = [(w, h)] ∧ ok3 w ∧ ok3 h ∧ has3 w (addV o.Seen.1.From v0) ∧ has3 h (addV o.Seen.2.1.From v1) := by
 unfold predict_Starts
 rw [hC]
 simp only [Option.bind_some, bne_self_eq_false, Bool.false_eq_true, if_false]
 refine h1.ray.bind fun ⟨a, af⟩ ⟨_, oa, wa⟩ => ?_
 simp only [] at oa wa
 rw [exact3_ok i1]
 simp only [Option.bind_some]
 refine Has.bind (P := fun l : List (Place3 × Place3) => ∃ w h : Place3, l = [(w, h)] ∧ ok3 w ∧ ok3 h ∧ has3 w (addV o.Seen.1.From v0) ∧ has3 h (addV o.Seen.2.1.From v1)) ?_ fun l hl => Has.ret ⟨rfl, hl⟩
 refine Has.loop (fun s : (List (Place3 × Place3)) × Int => (s.2 = o.Near ∧ s.1 = []) ∨ (s.2 = o.Far ∧ ∃ w h : Place3, s.1 = [(w, h)] ∧ ok3 w ∧ ok3 h ∧ has3 w (addV o.Seen.1.From v0) ∧ has3 h (addV o.Seen.2.1.From v1))) (fun s => (o.Far - s.2).toNat) _ (.inl ⟨rfl, rfl⟩) (by simp only []; omega) fun s hs => ?_
 unfold predict_Starts.l1
 refine Has.ite (fun hi => ?_) fun hi => ?_
 ·have hi : s.2 < o.Far := of_decide_eq_true hi
  rcases hs with ⟨e, en⟩ | ⟨e, _⟩
  ·rw [here_ok oa (ex3_ok i1) (by omega) (by omega)]
   simp only [Option.bind_some]
   obtain ⟨t, t1, tA, tB, ra⟩ := wa o.Near n0 d1
   have tF := tB o.Far (by omega) d2
   have hh : ∀ i : Int, 0 ≤ i → i < 3 → hasZ (outZ a (ex3 o.Seen.2.1.From) ⟨s.2, s.2 + 4096, false⟩ i) (coV o.Seen.2.1.From i + coV v1 i) := fun i j0 j1 => by
    unfold outZ
    refine hasZ_add (ex3_has o.Seen.2.1.From j0 j1) (alongR h1.k1 t1 (ra i j0 j1) (.inr ⟨?_, ?_⟩))
    ·simp only []; rw [e, Int.mul_comm]; exact tA
    ·simp only []; rw [e, ← hf, Int.mul_comm]; exact tF
   have oh : ok3 (outZ a (ex3 o.Seen.2.1.From) ⟨s.2, s.2 + 4096, false⟩ 0, outZ a (ex3 o.Seen.2.1.From) ⟨s.2, s.2 + 4096, false⟩ 1, outZ a (ex3 o.Seen.2.1.From) ⟨s.2, s.2 + 4096, false⟩ 2) := ⟨addZ_ok _ _, addZ_ok _ _, addZ_ok _ _⟩
   have hm : has3 (outZ a (ex3 o.Seen.2.1.From) ⟨s.2, s.2 + 4096, false⟩ 0, outZ a (ex3 o.Seen.2.1.From) ⟨s.2, s.2 + 4096, false⟩ 1, outZ a (ex3 o.Seen.2.1.From) ⟨s.2, s.2 + 4096, false⟩ 2) (addV o.Seen.2.1.From v1) := ⟨hh 0 (by decide) (by decide), hh 1 (by decide) (by decide), hh 2 (by decide) (by decide)⟩
   refine Has.bind (P := fun l : List (Place3 × Place3) => ∃ w h : Place3, l = [(w, h)] ∧ ok3 w ∧ ok3 h ∧ has3 w (addV o.Seen.1.From v0) ∧ has3 h (addV o.Seen.2.1.From v1)) ((first_ok oh h0 h2 i0 i2 hm hg top eq).bind fun r ⟨r1, r2, r3⟩ => Has.pos r1 (Has.chk (roomyI (by rw [en]; simp) (by rw [en]; simp)) (Has.ret ⟨_, _, by rw [en]; rfl, r2, oh, r3, hm⟩))) fun l hl => ?_
   rw [w6_in (n := s.2 + 4096) (by omega)]
   exact Has.ret (.next (.inr ⟨by simp only []; omega, hl⟩) (by simp only []; omega))
  ·omega
 ·have hi : ¬ s.2 < o.Far := fun q => hi (decide_eq_true q)
  rcases hs with ⟨e, en⟩ | ⟨e, h⟩
  ·omega
  ·exact Has.ret (.done h)
end Lf
/- predict.Check of three sightings. -/
namespace Lf
open Go Go.Abs
set_option linter.unusedVariables false
set_option linter.unusedSimpArgs false
theorem predictCheck_ok {o : arc_Orbit} (hA : arc_Check o.Seen = some 0) (n0 : 0 ≤ o.Near) (hf : o.Far = o.Near + 4096) (nf : o.Far ≤ 16777216) (m : Int.tmod o.Near 4096 = 0) : predict_Check o = some 0 := by
 have m2 : Int.tmod o.Far 4096 = 0 := by
  rw [Int.tmod_eq_emod_of_nonneg n0] at m
  rw [Int.tmod_eq_emod_of_nonneg (by omega)]; omega
 apply Has.val
 unfold predict_Check
 rw [hA]
 simp only [Option.bind_some, bne_self_eq_false, Bool.false_eq_true, if_false]
 refine Has.bind (P := fun z => z = false) (Has.neg (fun q => by have := of_decide_eq_true q; omega) (Has.neg (by rw [m]; decide) (Has.neg (fun q => by have := of_decide_eq_true q; omega) (Has.ret (by rw [m2]; rfl))))) fun z hz => Has.neg (by rw [hz]; decide) ?_
 exact Has.neg (fun q => by have := of_decide_eq_true q; omega) (Has.ret rfl)
end Lf
/- arc.Ray at any box: if it answers true, it holds every direction of the box. -/
namespace Lf
open Go Go.Abs
set_option linter.unusedVariables false
set_option linter.unusedSimpArgs false
theorem rootG_ok {a : Bound} (ha : a.ok) : Has (bound_Root a 1099511627776) fun b => b.ok ∧ (b.Unknown = true ∨ (a.Unknown = false ∧ isRt (max a.Lo 0 * 1099511627776) b.Lo ∧ 0 ≤ b.Hi ∧ a.Hi * 1099511627776 ≤ b.Hi * b.Hi)) := by
 have l := ha.le; have h := ha.hi
 unfold bound_Root
 rw [vague_ok ha ha]
 refine Has.bind (P := fun z => z = true ∨ (a.Unknown = false ∧ 0 ≤ a.Hi)) ?_ fun z hz => Has.ite (fun q => ?_) fun q => ?_
 ·by_cases hu : a.Unknown = true
  ·exact Has.eq (a := true) (by simp [hu]) (.inl rfl)
  ·have hu : a.Unknown = false := by simpa using hu
   by_cases hn : a.Hi < 0
   ·exact Has.eq (a := true) (by simp [hu, hn]) (.inl rfl)
   ·exact Has.eq (a := false) (by simp [hu, hn]) (.inr ⟨hu, by omega⟩)
 ·rw [none_ok]; exact Has.ret ⟨okNone, .inl rfl⟩
 ·rcases hz with hz | ⟨hu, h0⟩
  ·exact absurd hz q
  ·rw [mx2_max]
   refine (sqrtW_ok (max a.Lo 0) 1099511627776 (by omega) (by omega)).bind fun r7 h7 => (sqrtW_ok a.Hi 1099511627776 (by omega) (by omega)).bind fun r8 h8 => ?_
   have p7 := h7.r0; have p8 := h8.r0
   have b8 : r8 < 1125899906842625 := sq_lt p8 (by decide) (by have := h8.lo; omega)
   have m := h7.mono h8 (by omega)
   refine (product_ok r8 r8 (by unfold okI; omega) (by unfold okI; omega)).bind fun w9 ⟨p1, p2, _⟩ => (product_ok a.Hi 1099511627776 (by unfold okI; omega) (by unfold okI; omega)).bind fun w10 ⟨q1, q2, _⟩ => (wcmp_ok p1 q1).bind fun c ⟨c1, c2⟩ => ?_
   rw [p2, q2] at c1
   have g8 := h8.hi
   refine Has.ite (fun hc => ?_) fun hc => ?_
   ·rw [w6_in (by omega), ofZ_eq, ofZ_known (by omega) (by omega) (by omega)]
    exact Has.ret ⟨okKnown (by omega) (by omega) (by omega), .inr ⟨hu, h7, by simp only []; omega, by simp only []; omega⟩⟩
   ·have hc : ¬ c < 0 := fun q => hc (decide_eq_true q)
    have g : ¬ r8 * r8 < a.Hi * 1099511627776 := fun q => hc (c1.2 q)
    rw [ofZ_eq, ofZ_known (by omega) (by omega) (by omega)]
    exact Has.ret ⟨okKnown (by omega) (by omega) (by omega), .inr ⟨hu, h7, by simp only []; omega, by simp only []; omega⟩⟩
def sqZ (b : Bound) : Bound := mulZ (absZ b) (absZ b) 1
theorem sqZ_eq {b : Bound} (h : b.ok) : arc_Square b = some (sqZ b) := by
 unfold arc_Square
 rw [absZ_eq h]
 simp only [Option.bind_some]
 rw [mulZ_eq absZ_ok absZ_ok (by decide)]; rfl
theorem sqZ_ok (b : Bound) : (sqZ b).ok := mulZ_ok _ _ _
theorem normG_ok {p : Place3} (h : ok3 p) : Has (arc_Norm p) fun n => n.ok ∧ ∀ a b c : Int, hasZ (sqZ p.1) a → hasZ (sqZ p.2.1) b → hasZ (sqZ p.2.2) c → hasZ n (a + b + c) := by
 unfold arc_Norm
 rw [sqZ_eq h.x, sqZ_eq h.y, sqZ_eq h.z]
 simp only [Option.bind_some]
 unfold bound_Sum
 rw [if_pos (by simp)]
 have o0 : Bound.ok ⟨0, 0, false⟩ := okKnown (by decide) (by decide) (by decide)
 have z0 : hasZ ⟨0, 0, false⟩ 0 := .inr ⟨Int.le_refl _, Int.le_refl _⟩
 refine Has.ret ?_
 simp only [bound_SumF, addZ_eq o0 (sqZ_ok p.1), Option.getD_some]
 split
 ·rename_i u; exact ⟨addZ_ok _ _, fun _ _ _ _ _ _ => .inl u⟩
 ·simp only [addZ_eq (addZ_ok _ _) (sqZ_ok p.2.1), Option.getD_some]
  split
  ·rename_i u; exact ⟨addZ_ok _ _, fun _ _ _ _ _ _ => .inl u⟩
  ·simp only [addZ_eq (addZ_ok _ _) (sqZ_ok p.2.2), Option.getD_some]
   have key : ∀ a b c : Int, hasZ (sqZ p.1) a → hasZ (sqZ p.2.1) b → hasZ (sqZ p.2.2) c → hasZ (addZ (addZ (addZ ⟨0, 0, false⟩ (sqZ p.1)) (sqZ p.2.1)) (sqZ p.2.2)) (a + b + c) := fun a b c ha hb hc => by
    have := hasZ_add (hasZ_add (hasZ_add z0 ha) hb) hc
    rw [Int.zero_add] at this; exact this
   split <;> exact ⟨addZ_ok _ _, key⟩
end Lf
/- arc.Ray at any box: a direction that the box holds is in the ray. -/
namespace Lf
open Go Go.Abs
set_option linter.unusedVariables false
set_option linter.unusedSimpArgs false
theorem hasZ_sq {b : Bound} {x : Int} (ob : b.ok) (h : hasZ b x) : hasZ (sqZ b) (x * x) := by
 unfold sqZ
 by_cases u : b.Unknown = true
 ·have e : absZ b = noneZ := by unfold absZ; rw [if_pos u]
  rw [e]; unfold mulZ; rw [if_pos (.inl rfl)]; exact .inl rfl
 ·have u : b.Unknown = false := by simpa using u
  rcases h with q | ⟨h1, h2⟩
  ·rw [u] at q; cases q
  ·have le := ob.le
   rw [absZ_known ob u]
   have y1 : aLo b ≤ max x (-x) := by unfold aLo; split <;> omega
   have y2 : max x (-x) ≤ aHi b := by unfold aHi; omega
   have e : x * x = max x (-x) * max x (-x) := by
    rcases Int.le_total 0 x with g | g
    ·rw [Int.max_eq_left (by omega)]
    ·rw [Int.max_eq_right (by omega)]; grind
   rw [e]
   refine hasZ_mul (.inr ⟨y1, y2⟩) (.inr ⟨y1, y2⟩) ?_ ?_
   ·rw [Int.ediv_one]; omega
   ·rw [cdiv_one]; omega
theorem rayG_ok {p : Place3} (h : ok3 p) : Has (arc_Ray (Box.mk p.1 p.2.1 p.2.2)) fun r => r.2 = true → ok3 r.1 ∧ ∀ v : Vec, has3 p v → ∃ t : Int, 1 ≤ t ∧ t ≤ 1152921504606846976 ∧ ∀ i : Int, 0 ≤ i → i < 3 → hasR (at3 r.1 i) (coV v i * 1125899906842624) t := by
 unfold arc_Ray
 simp only []
 refine (normG_ok (p := (p.1, p.2.1, p.2.2)) h).bind fun n ⟨on, hn⟩ => (rootG_ok on).bind fun L ⟨l1, l2⟩ => ?_
 refine Has.bind (P := fun z => z = (L.Unknown || (L.Lo == 0))) (by cases L.Unknown <;> exact Has.ret (by simp)) fun zz hz => Has.ite (fun q => Has.ret fun g => nomatch g) fun q => ?_
 have q : L.Unknown = false ∧ (L.Lo == 0) = false := by rw [hz] at q; simpa using q
 obtain ⟨m1, q1, g1⟩ := meetOne_eq (divZ_ok p.1 L 1125899906842624)
 obtain ⟨m2, q2, g2⟩ := meetOne_eq (divZ_ok p.2.1 L 1125899906842624)
 obtain ⟨m3, q3, g3⟩ := meetOne_eq (divZ_ok p.2.2 L 1125899906842624)
 have d1 := divZ_eq (u := 1125899906842624) h.x l1 (by decide)
 have d2 := divZ_eq (u := 1125899906842624) h.y l1 (by decide)
 have d3 := divZ_eq (u := 1125899906842624) h.z l1 (by decide)
 have s1 : arc_Ray.l1 L ((p.1, p.2.1, p.2.2), 0) = some (.next ((m1.1, p.2.1, p.2.2), 1)) := by
  unfold arc_Ray.l1
  rw [if_pos (by rfl), if_pos ⟨by show (0 : Int) ≤ 0; decide, by show (0 : Int) < 3; decide⟩]
  have g : gt ([p.1, p.2.1, p.2.2] : List Bound) 0 = p.1 := rfl
  simp only [g, d1, Option.bind_some, q1]
  rfl
 have s2 : arc_Ray.l1 L ((m1.1, p.2.1, p.2.2), 1) = some (.next ((m1.1, m2.1, p.2.2), 2)) := by
  unfold arc_Ray.l1
  rw [if_pos (by rfl), if_pos ⟨by show (0 : Int) ≤ 1; decide, by show (1 : Int) < 3; decide⟩]
  have g : gt ([m1.1, p.2.1, p.2.2] : List Bound) 1 = p.2.1 := rfl
  simp only [g, d2, Option.bind_some, q2]
  rfl
 have s3 : arc_Ray.l1 L ((m1.1, m2.1, p.2.2), 2) = some (.next ((m1.1, m2.1, m3.1), 3)) := by
  unfold arc_Ray.l1
  rw [if_pos (by rfl), if_pos ⟨by show (0 : Int) ≤ 2; decide, by show (2 : Int) < 3; decide⟩]
  have g : gt ([m1.1, m2.1, p.2.2] : List Bound) 2 = p.2.2 := rfl
  simp only [g, d3, Option.bind_some, q3]
  rfl
 have s4 : arc_Ray.l1 L ((m1.1, m2.1, m3.1), 3) = some (.done (m1.1, m2.1, m3.1)) := rfl
 rw [(Run.next s1 (Run.next s2 (Run.next s3 (Run.done s4)))).ok (by decide)]
 refine Has.ret fun _ => ⟨⟨by rw [g1]; exact meetOne_ok, by rw [g2]; exact meetOne_ok, by rw [g3]; exact meetOne_ok⟩, fun v hv => ?_⟩
 rcases l2 with e | ⟨nu, lo, h0, hh⟩
 ·rw [q.1] at e; cases e
 ·have hN := hn _ _ _ (hasZ_sq h.x hv.x) (hasZ_sq h.y hv.y) (hasZ_sq h.z hv.z)
  rcases hN with e | ⟨n1, n2⟩
  ·rw [nu] at e; cases e
  ·have sq0 : ∀ x : Int, 0 ≤ x * x := fun x => by rcases Int.le_total 0 x with q | q; exact Int.mul_nonneg q q; exact Int.mul_nonneg_of_nonpos_of_nonpos q q
   have x0 := sq0 v.X; have y0 := sq0 v.Y; have z0 := sq0 v.Z
   have lp : 1 ≤ L.Lo := by
    have r0 := lo.r0
    have : ¬ L.Lo = 0 := fun e => by rw [e] at q; exact absurd q.2 (by decide)
    omega
   have ll := lo.lo
   have ex : ∀ V : Int, (1048576 * V) * (1048576 * V) = V * V * 1099511627776 ∧ (-(1048576 * V)) * (-(1048576 * V)) = V * V * 1099511627776 := fun V => ⟨by grind, by grind⟩
   obtain ⟨ex1, ex2⟩ := ex v.X
   obtain ⟨ey1, ey2⟩ := ex v.Y
   obtain ⟨ez1, ez2⟩ := ex v.Z
   obtain ⟨t, ht, c1, c3, c4, c5, c6, c7, c8⟩ : ∃ t : Int, (t = L.Lo ∨ t = 1048576 * v.X ∨ t = -(1048576 * v.X) ∨ t = 1048576 * v.Y ∨ t = -(1048576 * v.Y) ∨ t = 1048576 * v.Z ∨ t = -(1048576 * v.Z)) ∧ L.Lo ≤ t ∧ 1048576 * v.X ≤ t ∧ -(1048576 * v.X) ≤ t ∧ 1048576 * v.Y ≤ t ∧ -(1048576 * v.Y) ≤ t ∧ 1048576 * v.Z ≤ t ∧ -(1048576 * v.Z) ≤ t :=
    ⟨max (max L.Lo (max (1048576 * v.X) (-(1048576 * v.X)))) (max (max (1048576 * v.Y) (-(1048576 * v.Y))) (max (1048576 * v.Z) (-(1048576 * v.Z)))), by omega, by omega, by omega, by omega, by omega, by omega, by omega, by omega⟩
   have sq : t * t ≤ L.Hi * L.Hi := by
    rcases ht with e | e | e | e | e | e | e
    ·rw [e]; omega
    ·rw [e, ex1]; omega
    ·rw [e, ex2]; omega
    ·rw [e, ey1]; omega
    ·rw [e, ey2]; omega
    ·rw [e, ez1]; omega
    ·rw [e, ez2]; omega
   have th : t ≤ L.Hi := by
    rcases Int.lt_or_le L.Hi t with g | g
    ·have := Int.mul_le_mul (show L.Hi + 1 ≤ t by omega) (show L.Hi + 1 ≤ t by omega) (by omega) (by omega)
     have m2 : (L.Hi + 1) * (L.Hi + 1) = L.Hi * L.Hi + 2 * L.Hi + 1 := by grind
     omega
    ·exact g
   have key : ∀ (b : Bound) (V : Int), b.ok → hasZ b V → (-t ≤ 1048576 * V ∧ 1048576 * V ≤ t) → hasR (meetOne (divZ b L 1125899906842624)) (V * 1125899906842624) t := fun b V ob hb hm => by
    have hb1 := hasR_int (q := 1) (by decide) hb
    rw [Int.mul_one] at hb1
    have d := (hasR_div (u := 1125899906842624) (p := V) (q := 1) (r := t) (s := 1) ob l1 (by decide) (by decide) hb1 (.inr ⟨by omega, by omega⟩)).1 (by omega)
    rw [Int.mul_one, Int.one_mul] at d
    exact hasR_meetOne (by omega) d (by omega) (by omega)
   refine ⟨t, by omega, by have := l1.hi; omega, fun i i0 i1 => ?_⟩
   rcases three i0 i1 with rfl | rfl | rfl
   ·show hasR m1.1 (v.X * 1125899906842624) t; rw [g1]; exact key _ _ h.x hv.x ⟨by omega, by omega⟩
   ·show hasR m2.1 (v.Y * 1125899906842624) t; rw [g2]; exact key _ _ h.y hv.y ⟨by omega, by omega⟩
   ·show hasR m3.1 (v.Z * 1125899906842624) t; rw [g3]; exact key _ _ h.z hv.z ⟨by omega, by omega⟩
end Lf
/- predict.At: its loops over a place. -/
namespace Lf
open Go Go.Abs
set_option linter.unusedVariables false
set_option linter.unusedSimpArgs false
theorem eye_ok {p e : Place3} (hp : ok3 p) (he : ok3 e) : Has (loopF (predict_At.l2 e) (p, 0)) fun r => r = (subZ p.1 e.1, subZ p.2.1 e.2.1, subZ p.2.2 e.2.2) := by
 have s1 : predict_At.l2 e ((p.1, p.2.1, p.2.2), 0) = some (.next ((subZ p.1 e.1, p.2.1, p.2.2), 1)) := by
  unfold predict_At.l2
  rw [if_pos (by rfl), if_pos ⟨by show (0 : Int) ≤ 0; decide, by show (0 : Int) < 3; decide⟩, if_pos ⟨by show (0 : Int) ≤ 0; decide, by show (0 : Int) < 3; decide⟩]
  simp only [gt3_0, subZ_eq hp.x he.x, Option.bind_some]
  rfl
 have s2 : predict_At.l2 e ((subZ p.1 e.1, p.2.1, p.2.2), 1) = some (.next ((subZ p.1 e.1, subZ p.2.1 e.2.1, p.2.2), 2)) := by
  unfold predict_At.l2
  rw [if_pos (by rfl), if_pos ⟨by show (0 : Int) ≤ 1; decide, by show (1 : Int) < 3; decide⟩, if_pos ⟨by show (0 : Int) ≤ 1; decide, by show (1 : Int) < 3; decide⟩]
  simp only [gt3_1, subZ_eq hp.y he.y, Option.bind_some]
  rfl
 have s3 : predict_At.l2 e ((subZ p.1 e.1, subZ p.2.1 e.2.1, p.2.2), 2) = some (.next ((subZ p.1 e.1, subZ p.2.1 e.2.1, subZ p.2.2 e.2.2), 3)) := by
  unfold predict_At.l2
  rw [if_pos (by rfl), if_pos ⟨by show (0 : Int) ≤ 2; decide, by show (2 : Int) < 3; decide⟩, if_pos ⟨by show (0 : Int) ≤ 2; decide, by show (2 : Int) < 3; decide⟩]
  simp only [gt3_2, subZ_eq hp.z he.z, Option.bind_some]
  rfl
 exact Has.eq ((Run.next s1 (Run.next s2 (Run.next s3 (Run.done rfl)))).ok (by decide)) rfl
def hullZ (b : Bound) : Bound := if b.Unknown = true then noneZ else b
theorem hullZ_ok {b : Bound} (h : b.ok) : (hullZ b).ok := by
 unfold hullZ; split
 ·exact noneZ_ok
 ·exact h
theorem hull_eq {b : Bound} (h : b.ok) : bound_Hull b b = some (hullZ b) := by
 have h1 := h.lo; have h2 := h.le; have h3 := h.hi
 unfold bound_Hull hullZ
 rw [vague_ok h h, mn2_min, mx2_max]
 by_cases u : b.Unknown = true
 ·rw [if_pos u]; simp only [Option.bind_some, Bool.or_self, u, if_true]; rfl
 ·rw [if_neg u]
  have u : b.Unknown = false := by simpa using u
  simp only [Option.bind_some, Bool.or_self, u, Bool.false_eq_true, if_false, ofZ_eq]
  rw [ofZ_known (by omega) (by omega) (by omega)]
  have e1 : min b.Lo b.Lo = b.Lo := by omega
  have e2 : max b.Hi b.Hi = b.Hi := by omega
  rw [e1, e2]
  obtain ⟨lo, hi, un⟩ := b
  simp only [] at u
  subst u; rfl
def halfZ (b : Bound) : Bound := mulZ b ⟨1, 1, false⟩ 2
theorem half_eq {b : Bound} (h : b.ok) : bound_Scale b 1 2 = some (halfZ b) := by
 unfold bound_Scale bound_Exact
 rw [ofZ_eq, ofZ_known (by decide) (by decide) (by decide)]
 simp only [Option.bind_some]
 rw [mulZ_eq h (okKnown (by decide) (by decide) (by decide)) (by decide)]; rfl
theorem hasR_half {b : Bound} {p q : Int} (hq : 0 ≤ q) (h : hasR b p q) : hasR (halfZ b) p (q * 2) := by
 have m := hasR_mul (u := 2) (r := 1) (s := 1) hq (by decide) h (.inr ⟨Int.le_refl _, Int.le_refl _⟩ : hasR ⟨1, 1, false⟩ 1 1)
 rw [Int.mul_one, Int.mul_one] at m; exact m
end Lf
/- change.Share of a box that holds a direction and the vector itself. -/
namespace Lf
open Go Go.Abs
set_option linter.unusedVariables false
set_option linter.unusedSimpArgs false
end Lf
/- predict.At at an orbit of one step: the box holds the direction in which the body is. -/
namespace Lf
open Go Go.Abs
set_option linter.unusedVariables false
set_option linter.unusedSimpArgs false
theorem join4_ok {all r : Place3} {f : Bool} (hr : ok3 r) : loopF (predict_At.l4 (all, 0) (r, f)) (all, 0) = some (hullZ (at3 r 0), hullZ (at3 r 1), hullZ (at3 r 2)) := by
 refine loop3 (fun i => hullZ (at3 r i)) all (fun st i i0 i1 => ?_) fun st => rfl
 apply Has.val
 unfold predict_At.l4
 simp only [at3_def]
 refine Has.pos (decide_eq_true i1) (Has.pos rfl (Has.chk ⟨i0, i1⟩ (Has.chk ⟨i0, i1⟩ (Has.letF (Has.chk ⟨i0, i1⟩ ?_)))))
 have e : at3 (gt (List.set ([st.1, st.2.1, st.2.2] : List Bound) i.toNat (at3 r i)) 0, gt (List.set ([st.1, st.2.1, st.2.2] : List Bound) i.toNat (at3 r i)) 1, gt (List.set ([st.1, st.2.1, st.2.2] : List Bound) i.toNat (at3 r i)) 2) i = at3 r i := at3_set3 st i0 i1 _
 rw [at3_mk, e, hull_eq (at3_ok hr i0 i1)]
 refine Has.bind (Has.ret rfl) fun h eh => Has.letF (Has.ret ?_)
 rw [w6_in (n := i + 1) (by omega), eh, ← set3_twice st i0 i1 (at3 r i)]; rfl
theorem join3_ok {all : Place3} {a b c : Bound} (hr : ok3 (a, b, c)) : loopF (predict_At.l3 (all, 0) a b c) (all, 0) = some (hullZ (at3 (a, b, c) 0), hullZ (at3 (a, b, c) 1), hullZ (at3 (a, b, c) 2)) := by
 refine loop3 (fun i => hullZ (at3 (a, b, c) i)) all (fun st i i0 i1 => ?_) fun st => rfl
 apply Has.val
 unfold predict_At.l3
 simp only [at3_mk]
 refine Has.pos (decide_eq_true i1) (Has.pos rfl (Has.chk ⟨i0, i1⟩ (Has.chk ⟨i0, i1⟩ (Has.letF (Has.chk ⟨i0, i1⟩ ?_)))))
 have e : at3 (gt (List.set ([st.1, st.2.1, st.2.2] : List Bound) i.toNat (at3 (a, b, c) i)) 0, gt (List.set ([st.1, st.2.1, st.2.2] : List Bound) i.toNat (at3 (a, b, c) i)) 1, gt (List.set ([st.1, st.2.1, st.2.2] : List Bound) i.toNat (at3 (a, b, c) i)) 2) i = at3 (a, b, c) i := at3_set3 st i0 i1 _
 rw [e, hull_eq (at3_ok hr i0 i1)]
 refine Has.bind (Has.ret rfl) fun h eh => Has.letF (Has.ret ?_)
 rw [w6_in (n := i + 1) (by omega), eh, ← set3_twice st i0 i1 (at3 (a, b, c) i)]; rfl
theorem halves_ok {p : Place3} (hp : ok3 p) : loopF predict_At.l5 (p, 0) = some (halfZ p.1, halfZ p.2.1, halfZ p.2.2) := by
 have s1 : predict_At.l5 ((p.1, p.2.1, p.2.2), 0) = some (.next ((halfZ p.1, p.2.1, p.2.2), 1)) := by
  unfold predict_At.l5
  rw [if_pos (by rfl), if_pos ⟨by show (0 : Int) ≤ 0; decide, by show (0 : Int) < 3; decide⟩]
  simp only [gt3_0, half_eq hp.x, Option.bind_some]
  rfl
 have s2 : predict_At.l5 ((halfZ p.1, p.2.1, p.2.2), 1) = some (.next ((halfZ p.1, halfZ p.2.1, p.2.2), 2)) := by
  unfold predict_At.l5
  rw [if_pos (by rfl), if_pos ⟨by show (0 : Int) ≤ 1; decide, by show (1 : Int) < 3; decide⟩]
  simp only [gt3_1, half_eq hp.y, Option.bind_some]
  rfl
 have s3 : predict_At.l5 ((halfZ p.1, halfZ p.2.1, p.2.2), 2) = some (.next ((halfZ p.1, halfZ p.2.1, halfZ p.2.2), 3)) := by
  unfold predict_At.l5
  rw [if_pos (by rfl), if_pos ⟨by show (0 : Int) ≤ 2; decide, by show (2 : Int) < 3; decide⟩]
  simp only [gt3_2, half_eq hp.z, Option.bind_some]
  rfl
 exact (Run.next s1 (Run.next s2 (Run.next s3 (Run.done rfl)))).ok (by decide)
theorem halfZ_ok (b : Bound) : (halfZ b).ok := mulZ_ok _ _ _
theorem hasR_hull {b : Bound} {p q : Int} (h : hasR b p q) : hasR (hullZ b) p q := by
 unfold hullZ; split
 ·exact .inl rfl
 ·exact h
def followed (w h : Place3) (days : Int) : Place3 := if days < 0 then (seqP h w (-days - 1).toNat).2 else (seqP w h days.toNat).2
theorem followed_ok {w h : Place3} (hw : ok3 w) (hh : ok3 h) (days : Int) : ok3 (followed w h days) := by
 unfold followed; split
 ·exact (seqP_ok hh hw _).2
 ·exact (seqP_ok hw hh _).2
theorem at_ok {o : arc_Orbit} {days : Int} {eye v was here : Vec} (hs : Has (predict_Starts o) fun r => r.2 = 0 ∧ ∃ w h : Place3, r.1 = [(w, h)] ∧ ok3 w ∧ ok3 h ∧ has3 w was ∧ has3 h here)
  (d0 : -32 ≤ days) (d1 : days ≤ 32) (ie : inV eye) (hv : ∀ w h : Place3, ok3 w → ok3 h → has3 w was → has3 h here → has3 (followed w h days) v) :
  Has (predict_At o days eye) fun r => r.2 = 0 ∧ okBox r.1 ∧ ∃ t : Int, 1 ≤ t ∧ t ≤ 1152921504606846976 ∧ ∀ i : Int, 0 ≤ i → i < 3 → hasR (at3 (r.1.X, r.1.Y, r.1.Z) i) (coV (subV v eye) i * 1125899906842624) (t * 2) := by
 unfold predict_At
 refine hs.bind fun r ⟨r0, w, h, r1, ow, oh, hw, hh⟩ => ?_
 obtain ⟨ra, rb⟩ := r
 simp only [] at r0 r1
 subst r0
 subst r1
 obtain ⟨⟨fx1, fx2⟩, ⟨fy1, fy2⟩, fz1, fz2⟩ := ie
 refine Has.neg (by show ¬ ((0 : Int) != 0) = true; decide) ?_
 rw [mx2_max, mx2_max, mn2_min, mn2_min]
 refine Has.bind (P := fun z => z = false) (Has.neg (fun q => by have := of_decide_eq_true q; omega) (Has.neg (fun q => by have := of_decide_eq_true q; omega) (Has.neg (fun q => by have := of_decide_eq_true q; omega) (Has.ret (decide_eq_false (by omega)))))) fun z hz => Has.neg (by rw [hz]; decide) (Has.neg (fun q => nomatch q) ?_)
 rw [exact3_ok ⟨⟨fx1, fx2⟩, ⟨fy1, fy2⟩, fz1, fz2⟩]
 have oe : ok3 (ex3 eye) := ex3_ok ⟨⟨fx1, fx2⟩, ⟨fy1, fy2⟩, fz1, fz2⟩
 simp only [Option.bind_some]
 have of := followed_ok ow oh days
 have hf := hv w h ow oh hw hh
 have ea : predict_Ahead w h days = some (followed w h days, 0) := ahead_ok ow oh d0 d1
 refine Has.bind (P := fun z : Place3 => ok3 z ∧ ∃ t : Int, 1 ≤ t ∧ t ≤ 1152921504606846976 ∧ ∀ i : Int, 0 ≤ i → i < 3 → hasR (at3 z i) (coV (subV v eye) i * 1125899906842624) t) ?_ fun z ⟨oz, t, t1, t2, ht⟩ => ?_
 ·refine Has.loop (fun s : Place3 × Int => s.2 = 0 ∨ (s.2 = 1 ∧ ok3 s.1 ∧ ∃ t : Int, 1 ≤ t ∧ t ≤ 1152921504606846976 ∧ ∀ i : Int, 0 ≤ i → i < 3 → hasR (at3 s.1 i) (coV (subV v eye) i * 1125899906842624) t)) (fun s => (1 - s.2).toNat) _ (.inl rfl) (by decide) fun s hs => ?_
  obtain ⟨all, k⟩ := s
  rcases hs with e | ⟨e, h1, h2⟩
  ·simp only [] at e
   subst e
   unfold predict_At.l1
   refine Has.pos rfl (Has.chk ⟨by show (0 : Int) ≤ 0; decide, by show (0 : Int) < 1; decide⟩ ?_)
   have g : gt ([(w, h)] : List (Place3 × Place3)) 0 = (w, h) := rfl
   simp only [g]
   rw [ea]
   simp only [Option.bind_some]
   refine (eye_ok of oe).bind fun d hd => ?_
   have od : ok3 d := by rw [hd]; exact ⟨subZ_ok _ _, subZ_ok _ _, subZ_ok _ _⟩
   have hd3 : has3 d (subV v eye) := by
    rw [hd]
    exact ⟨hasZ_sub hf.x (.inr ⟨Int.le_refl _, Int.le_refl _⟩), hasZ_sub hf.y (.inr ⟨Int.le_refl _, Int.le_refl _⟩), hasZ_sub hf.z (.inr ⟨Int.le_refl _, Int.le_refl _⟩)⟩
   refine (rayG_ok od).bind fun r hr => Has.ite (fun q => ?_) fun q => ?_
   ·rw [none_ok]
    simp only [Option.bind_some]
    rw [join3_ok ⟨okNone, okNone, okNone⟩]
    simp only [Option.bind_some]
    refine Has.ret (.next (.inr ⟨rfl, ⟨hullZ_ok okNone, hullZ_ok okNone, hullZ_ok okNone⟩, 1, by decide, by decide, fun i i0 i1 => ?_⟩) (by show (0 : Nat) < 1; decide))
    rcases three i0 i1 with rfl | rfl | rfl <;> exact .inl rfl
   ·have q : r.2 = true := by simpa using q
    obtain ⟨or, hr⟩ := hr q
    obtain ⟨t, t1, t2, ht⟩ := hr _ hd3
    obtain ⟨r1, r2⟩ := r
    rw [join4_ok or]
    simp only [Option.bind_some]
    refine Has.ret (.next (.inr ⟨rfl, ⟨hullZ_ok or.x, hullZ_ok or.y, hullZ_ok or.z⟩, t, t1, t2, fun i i0 i1 => ?_⟩) (by show (0 : Nat) < 1; decide))
    have := hasR_hull (ht i i0 i1)
    rcases three i0 i1 with rfl | rfl | rfl <;> exact this
  ·simp only [] at e
   subst e
   unfold predict_At.l1
   exact Has.neg (by show ¬ decide ((1 : Int) < 1) = true; decide) (Has.ret (.done ⟨h1, h2⟩))
 ·rw [halves_ok oz]
  simp only [Option.bind_some]
  refine Has.ret ⟨rfl, ⟨halfZ_ok _, halfZ_ok _, halfZ_ok _⟩, t, t1, t2, fun i i0 i1 => ?_⟩
  have := hasR_half (by omega) (ht i i0 i1)
  rcases three i0 i1 with rfl | rfl | rfl <;> exact this
end Lf
/- Sightings that are drawn satisfy what predict.Starts and predict.At ask for. -/
namespace Lf
open Go Go.Abs
set_option linter.unusedVariables false
set_option linter.unusedSimpArgs false
theorem night.seen {x : Seen} {f a : Vec} {d most : Int} (h : night x f a d most) (hf : inV f) (ha : inV a) (d0 : -1000 ≤ d) (d1 : d ≤ 1000) (m0 : 0 ≤ most) (m1 : most ≤ 1000) (far : farB (subV a f) = true) : ∃ k, seenOK x (subV a f) k := by
 obtain ⟨⟨fx1, fx2⟩, ⟨fy1, fy2⟩, fz1, fz2⟩ := hf
 obtain ⟨⟨ax1, ax2⟩, ⟨ay1, ay2⟩, az1, az2⟩ := ha
 obtain ⟨k, k1, k8, hx, hy, hz⟩ := h.held
 have bd : ∀ c : Int, -8388608 ≤ c → c ≤ 8388608 → -67108864 ≤ k * c ∧ k * c ≤ 67108864 ∧ (40000 < c → 40000 < k * c) ∧ (c < -40000 → k * c < -40000) := fun c c0 c1 => by
  have : k = 1 ∨ k = 2 ∨ k = 3 ∨ k = 4 ∨ k = 5 ∨ k = 6 ∨ k = 7 ∨ k = 8 := by omega
  rcases this with rfl | rfl | rfl | rfl | rfl | rfl | rfl | rfl <;> omega
 have bx := bd (subV a f).X (by simp only [subV]; omega) (by simp only [subV]; omega)
 have bY := bd (subV a f).Y (by simp only [subV]; omega) (by simp only [subV]; omega)
 have bz := bd (subV a f).Z (by simp only [subV]; omega) (by simp only [subV]; omega)
 have one : ∀ (b : Bound) (c : Int), heldB b k c most → (-67108864 ≤ k * c ∧ k * c ≤ 67108864) → coordB b ∧ 0 ≤ aLo b ∧ ((40000 < k * c ∨ k * c < -40000) → 1 ≤ aLo b) := fun b c hb hc => by
  have l0 := hb.l0; have l1 := hb.l1; have h0 := hb.h0; have h1 := hb.h1
  obtain ⟨p, q⟩ := aLo_aHi (b := b) (by omega)
  refine ⟨⟨⟨(fun q => by rw [hb.u] at q; cases q), by omega, by omega, by omega⟩, hb.u, by omega, by omega⟩, p, fun g => ?_⟩
  unfold aLo; split <;> omega
 obtain ⟨cx, px, gx⟩ := one _ _ hx ⟨bx.1, bx.2.1⟩
 obtain ⟨cy, py, gy⟩ := one _ _ hy ⟨bY.1, bY.2.1⟩
 obtain ⟨cz, pz, gz⟩ := one _ _ hz ⟨bz.1, bz.2.1⟩
 have sq : ∀ z : Int, 0 ≤ z → 0 ≤ z * z ∧ (1 ≤ z → 1 ≤ z * z) := fun z z0 => ⟨Int.mul_nonneg z0 z0, fun z1 => by have := Int.mul_le_mul z1 z1 (by decide) z0; omega⟩
 have n : 1 ≤ nLo x.Box.X x.Box.Y x.Box.Z := by
  have sx := sq _ px; have sy := sq _ py; have sz := sq _ pz
  unfold nLo
  rcases farB_some far with g | g | g | g | g | g
  ·have := sx.2 (gx (.inl (bx.2.2.1 g))); omega
  ·have := sx.2 (gx (.inr (bx.2.2.2 g))); omega
  ·have := sy.2 (gy (.inl (bY.2.2.1 g))); omega
  ·have := sy.2 (gy (.inr (bY.2.2.2 g))); omega
  ·have := sz.2 (gz (.inl (bz.2.2.1 g))); omega
  ·have := sz.2 (gz (.inr (bz.2.2.2 g))); omega
 refine ⟨k, ⟨⟨cx, cy, cz, k1, ⟨hx.l1, hx.h0⟩, ⟨hy.l1, hy.h0⟩, ⟨hz.l1, hz.h0⟩, n⟩, ?_, ?_, ?_, ?_, ?_, ?_, ?_, h.flux⟩⟩
 ·rw [h.t]; exact okKnown (by omega) (Int.le_refl _) (by omega)
 ·rw [h.t]
 ·rw [h.t]; simp only []; omega
 ·rw [h.t]; simp only []; omega
 ·rw [h.t]
 ·rw [h.t]; exact Int.mul_tmod_left _ _
 ·rw [h.place]; exact ⟨⟨fx1, fx2⟩, ⟨fy1, fy2⟩, fz1, fz2⟩
theorem sqs_bd {v : Vec} {m : Int} (m0 : 0 ≤ m) (hx : -m ≤ v.X ∧ v.X ≤ m) (hy : -m ≤ v.Y ∧ v.Y ≤ m) (hz : -m ≤ v.Z ∧ v.Z ≤ m) : sqs v ≤ 3 * (m * m) := by
 have one : ∀ x : Int, -m ≤ x ∧ x ≤ m → x * x ≤ m * m := fun x ⟨h1, h2⟩ => by
  rcases Int.le_total 0 x with g | g
  ·exact Int.mul_le_mul h2 h2 g m0
  ·have := Int.mul_le_mul (show -x ≤ m by omega) (show -x ≤ m by omega) (by omega) m0
   have e : -x * -x = x * x := by grind
   omega
 have := one _ hx; have := one _ hy; have := one _ hz
 unfold sqs; omega
theorem sub_bd {a f : Vec} (hf : inV f) (ha : inV a) : 0 ≤ sqs (subV a f) ∧ sqs (subV a f) ≤ 211106232532992 := by
 obtain ⟨⟨fx1, fx2⟩, ⟨fy1, fy2⟩, fz1, fz2⟩ := hf
 obtain ⟨⟨ax1, ax2⟩, ⟨ay1, ay2⟩, az1, az2⟩ := ha
 refine ⟨sqs_nonneg _, ?_⟩
 have := sqs_bd (v := subV a f) (m := 8388608) (by decide) (by simp only [subV]; omega) (by simp only [subV]; omega) (by simp only [subV]; omega)
 omega
theorem addV_subV (a f : Vec) : addV f (subV a f) = a := by
 unfold addV subV
 obtain ⟨x, y, z⟩ := a
 simp only [Vec.mk.injEq]
 exact ⟨by omega, by omega, by omega⟩
theorem from_eq {a f : Vec} (hf : inV f) (ha : inV a) : spykeep4_from f a = some (subV a f) := by
 obtain ⟨⟨fx1, fx2⟩, ⟨fy1, fy2⟩, fz1, fz2⟩ := hf
 obtain ⟨⟨ax1, ax2⟩, ⟨ay1, ay2⟩, az1, az2⟩ := ha
 unfold spykeep4_from
 rw [w6_in (n := a.X - f.X) (by omega), w6_in (n := a.Y - f.Y) (by omega), w6_in (n := a.Z - f.Z) (by omega)]; rfl
theorem square_eq {v : Vec} (hx : -8388608 ≤ v.X ∧ v.X ≤ 8388608) (hy : -8388608 ≤ v.Y ∧ v.Y ≤ 8388608) (hz : -8388608 ≤ v.Z ∧ v.Z ≤ 8388608) : spykeep4_square v = some (sqs v) := by
 have one : ∀ x : Int, -8388608 ≤ x ∧ x ≤ 8388608 → 0 ≤ x * x ∧ x * x ≤ 70368744177664 := fun x ⟨h1, h2⟩ => by
  rcases Int.le_total 0 x with g | g
  ·have := Int.mul_le_mul h2 h2 g (by decide); exact ⟨Int.mul_nonneg g g, by omega⟩
  ·have := Int.mul_le_mul (show -x ≤ 8388608 by omega) (show -x ≤ 8388608 by omega) (by omega) (by decide)
   have e : -x * -x = x * x := by grind
   have := Int.mul_nonneg (show 0 ≤ -x by omega) (show 0 ≤ -x by omega)
   omega
 have := one _ hx; have := one _ hy; have := one _ hz
 unfold spykeep4_square
 rw [w6_in (n := v.X * v.X) (by omega), w6_in (n := v.Y * v.Y) (by omega), w6_in (n := v.Z * v.Z) (by omega), w6_in (n := v.X * v.X + v.Y * v.Y) (by omega), w6_in (n := v.X * v.X + v.Y * v.Y + v.Z * v.Z) (by omega)]; rfl
theorem squareD_eq {a f : Vec} (hf : inV f) (ha : inV a) : spykeep4_square (subV a f) = some (sqs (subV a f)) := by
 obtain ⟨⟨fx1, fx2⟩, ⟨fy1, fy2⟩, fz1, fz2⟩ := hf
 obtain ⟨⟨ax1, ax2⟩, ⟨ay1, ay2⟩, az1, az2⟩ := ha
 exact square_eq (by simp only [subV]; omega) (by simp only [subV]; omega) (by simp only [subV]; omega)
structure stepO (o : arc_Orbit) (s : Seen × Seen × Seen) (d : Int) : Prop where
 s : o.Seen = s
 n0 : 0 ≤ o.Far - 4096
 nf : o.Far ≤ 16777216
 m : Int.tmod (o.Far - 4096) 4096 = 0
 d1 : (o.Far - 4096) * (o.Far - 4096) ≤ d
 d2 : d ≤ o.Far * o.Far
theorem stepO_ok {body : arc_Orbit → Option (Step arc_Orbit arc_Orbit)} {s : Seen × Seen × Seen} {d : Int} (d1 : 1 ≤ d) (d2 : d ≤ 211106232532992) (hb : ∀ o, body o = if decide (w6 (o.Far * o.Far) < d) = true then some (.next (arc_Orbit.mk o.Seen o.Near (w6 (o.Far + 4096)))) else some (.done o)) :
  Has (loopF body (arc_Orbit.mk s 0 0)) fun o => stepO o s d := by
 refine Has.loop (fun o : arc_Orbit => o.Seen = s ∧ 0 ≤ o.Far ∧ o.Far ≤ 16777216 ∧ (∃ q, o.Far = 4096 * q) ∧ (o.Far = 0 ∨ (o.Far - 4096) * (o.Far - 4096) < d)) (fun o => (16777216 - o.Far).toNat) _ ⟨rfl, Int.le_refl _, by simp only []; omega, ⟨0, rfl⟩, .inl rfl⟩ (by simp only []; decide) fun o ⟨e, n0, n1, ⟨q, hq⟩, hd⟩ => ?_
 have sq : o.Far * o.Far ≤ 16777216 * 16777216 := Int.mul_le_mul n1 n1 n0 (by decide)
 have sq0 := Int.mul_nonneg n0 n0
 rw [hb, w6_in (n := o.Far * o.Far) (by omega)]
 refine Has.ite (fun g => ?_) fun g => Has.ret (.done ?_)
 ·have g : o.Far * o.Far < d := of_decide_eq_true g
  have lt : o.Far < 16777216 := sq_lt n0 (by decide) (by omega)
  rw [w6_in (n := o.Far + 4096) (by omega)]
  refine Has.ret (.next ⟨e, by simp only []; omega, by simp only []; omega, ⟨q + 1, by simp only []; omega⟩, .inr ?_⟩ (by simp only []; omega))
  have e2 : o.Far + 4096 - 4096 = o.Far := by omega
  simp only [e2]; exact g
 ·have g : d ≤ o.Far * o.Far := by have : ¬ o.Far * o.Far < d := fun q => g (decide_eq_true q); omega
  rcases hd with z | hd
  ·rw [z] at g; omega
  ·have q1 : 1 ≤ q := by
    rcases Int.lt_or_le 0 q with x | x
    ·omega
    ·have : o.Far = 0 := by omega
     rw [this] at g; omega
   refine ⟨e, by omega, n1, ?_, by omega, g⟩
   have e2 : o.Far - 4096 = (q - 1) * 4096 := by omega
   rw [e2]; exact Int.mul_tmod_left _ _
theorem far_sqs {v : Vec} (h : farB v = true) : 1 ≤ sqs v := by
 have sq : ∀ x : Int, 0 ≤ x * x ∧ (40000 < x ∨ x < -40000 → 1 ≤ x * x) := fun x => by
  rcases Int.le_total 0 x with g | g
  ·exact ⟨Int.mul_nonneg g g, fun q => by have := Int.mul_le_mul (show 1 ≤ x by omega) (show 1 ≤ x by omega) (by decide) g; omega⟩
  ·have e : -x * -x = x * x := by grind
   refine ⟨Int.mul_nonneg_of_nonpos_of_nonpos g g, fun q => ?_⟩
   have := Int.mul_le_mul (show 1 ≤ -x by omega) (show 1 ≤ -x by omega) (by decide) (by omega); omega
 have sx := sq v.X; have sy := sq v.Y; have sz := sq v.Z
 unfold sqs
 rcases farB_some h with g | g | g | g | g | g
 ·have := sx.2 (.inl g); omega
 ·have := sx.2 (.inr g); omega
 ·have := sy.2 (.inl g); omega
 ·have := sy.2 (.inr g); omega
 ·have := sz.2 (.inl g); omega
 ·have := sz.2 (.inr g); omega
theorem orbit_starts {r : (Seen × Seen × Seen) × (Vec × Vec × Vec) × Bool × spymake_Stream} {F : Vec × Vec × Vec} {day most : Int} (h : orbitOK r F day most) (ok : r.2.2.1 = true) (m0 : 0 ≤ most) (m1 : most ≤ 1000) {o : arc_Orbit} (ho : stepO o r.1 (sqs (subV r.2.1.2.1 F.2.1))) :
  predict_Check (arc_Orbit.mk o.Seen (o.Far - 4096) o.Far) = some 0 ∧ (∃ k, seenOK r.1.1 (subV r.2.1.1 F.1) k) ∧ (∃ k, seenOK r.1.2.1 (subV r.2.1.2.1 F.2.1) k) ∧ Has (predict_Starts (arc_Orbit.mk o.Seen (o.Far - 4096) o.Far)) fun q => q.2 = 0 ∧ ∃ w h : Place3, q.1 = [(w, h)] ∧ ok3 w ∧ ok3 h ∧ has3 w r.2.1.1 ∧ has3 h r.2.1.2.1 := by
 obtain ⟨g, hg, en⟩ := h.next ok
 have fr := h.far ok
 have D0 := h.d0; have D1 := h.d1
 have n0 := h.seen 0 (by decide) (by decide)
 have n1 := h.seen 1 (by decide) (by decide)
 have n2 := h.seen 2 (by decide) (by decide)
 obtain ⟨k0, s0⟩ := n0.seen h.f0 h.a0 (by omega) (by omega) m0 m1 (fr 0 (by decide) (by decide))
 obtain ⟨k1, s1⟩ := n1.seen h.f1 h.a1 (by omega) (by omega) m0 m1 (fr 1 (by decide) (by decide))
 obtain ⟨k2, s2⟩ := n2.seen h.f2 h.a2 (by omega) (by omega) m0 m1 (fr 2 (by decide) (by decide))
 have t0 : r.1.1.At = ⟨(day + 0) * 86400000, (day + 0) * 86400000, false⟩ := n0.t
 have t1 : r.1.2.1.At = ⟨(day + 1) * 86400000, (day + 1) * 86400000, false⟩ := n1.t
 have t2 : r.1.2.2.At = ⟨(day + 2) * 86400000, (day + 2) * 86400000, false⟩ := n2.t
 have p0 : r.1.1.From = F.1 := n0.place
 have p1 : r.1.2.1.From = F.2.1 := n1.place
 have p2 : r.1.2.2.From = F.2.2 := n2.place
 have hA : arc_Check r.1 = some 0 := arcCheck_ok s0 s1 s2 (by rw [t0, t1]; simp only []; omega) (by rw [t1, t2]; simp only []; omega)
 have oN := ho.n0; have oF := ho.nf
 have hC : predict_Check (arc_Orbit.mk o.Seen (o.Far - 4096) o.Far) = some 0 := predictCheck_ok (by simp only []; rw [ho.s]; exact hA) ho.n0 (by simp only []; omega) ho.nf ho.m
 refine ⟨hC, ⟨k0, s0⟩, ⟨k1, s1⟩, ?_⟩
 have b0 := sub_bd h.f0 h.a0
 have st := starts_ok (o := arc_Orbit.mk o.Seen (o.Far - 4096) o.Far) (g := g) (v0 := subV r.2.1.1 F.1) (v1 := subV r.2.1.2.1 F.2.1) (v2 := subV r.2.1.2.2 F.2.2) (k0 := k0) (k1 := k1) (k2 := k2) hC ho.n0 (by simp only []; omega) ho.nf
  (by simp only []; rw [ho.s]; exact s0.b) (by simp only []; rw [ho.s]; exact s1.b) (by simp only []; rw [ho.s]; exact s2.b) (by simp only []; rw [ho.s, p0]; exact h.f0) (by simp only []; rw [ho.s, p1]; exact h.f1) (by simp only []; rw [ho.s, p2]; exact h.f2)
  ho.d1 ho.d2 (by simp only []; rw [ho.s, p1, addV_subV]; exact hg) (by omega) (fun i => by
   simp only []
   rw [ho.s, p0, p1, p2, addV_subV, en]
   unfold coV subV nextV
   by_cases e0 : i = 0
   ·subst e0; simp only [if_true]; omega
   ·by_cases e1 : i = 1
    ·subst e1; simp only [if_true, if_neg e0]; omega
    ·simp only [if_neg e0, if_neg e1]; omega)
 simp only [] at st
 rw [ho.s, p0, p1, addV_subV, addV_subV] at st
 rw [ho.s]
 exact st
end Lf
/- change.Share of a box that holds a direction and a box around a multiple of the vector. -/
namespace Lf
open Go Go.Abs
set_option linter.unusedVariables false
set_option linter.unusedSimpArgs false
theorem share_held {b c : Box} {y : Vec} {t K : Int} (t1 : 1 ≤ t) (t2 : t ≤ 1152921504606846976) (k1 : 1 ≤ K) (k8 : K ≤ 8) (ob : okBox b) (oc : okBox c) (hc : ∀ i : Int, 0 ≤ i → i < 3 → (ax c i).Lo ≤ K * coV y i ∧ K * coV y i ≤ (ax c i).Hi) (h : ∀ i : Int, 0 ≤ i → i < 3 → hasR (at3 (b.X, b.Y, b.Z) i) (coV y i * 1125899906842624) (t * 2)) : change_Share b c = some true := by
 apply Has.val
 have kt : 1 ≤ t * 2 * K ∧ t * 2 * K ≤ 18446744073709551616 := by
  have : K = 1 ∨ K = 2 ∨ K = 3 ∨ K = 4 ∨ K = 5 ∨ K = 6 ∨ K = 7 ∨ K = 8 := by omega
  rcases this with rfl | rfl | rfl | rfl | rfl | rfl | rfl | rfl <;> omega
 refine (share_ok ob oc).mono fun r hr => hr (t * 2 * K) 1125899906842624 ⟨kt.1, by omega, by decide⟩ fun i i0 i1 => ?_
 rcases h i i0 i1 with e | ⟨h1, h2⟩
 ·exact .inl e
 ·refine .inr (.inr ?_)
  obtain ⟨c1, c2⟩ := hc i i0 i1
  have ea : ax b i = at3 (b.X, b.Y, b.Z) i := rfl
  rw [ea]
  have m1 := Int.mul_le_mul_of_nonneg_left h1 (show 0 ≤ K by omega)
  have m2 := Int.mul_le_mul_of_nonneg_left h2 (show 0 ≤ K by omega)
  have n1 := Int.mul_le_mul_of_nonneg_right c1 (show (0 : Int) ≤ 1125899906842624 by decide)
  have n2 := Int.mul_le_mul_of_nonneg_right c2 (show (0 : Int) ≤ 1125899906842624 by decide)
  generalize at3 (b.X, b.Y, b.Z) i = B at *
  generalize coV y i = Y at *
  have e1 : K * (B.Lo * (t * 2)) = t * 2 * K * B.Lo := by grind
  have e2 : K * (B.Hi * (t * 2)) = t * 2 * K * B.Hi := by grind
  have e3 : K * (Y * 1125899906842624) = K * Y * 1125899906842624 := by grind
  exact ⟨by omega, by omega⟩
end Lf
/- IdentifySame: a sighting of a body on another day can be of the orbit that three sightings have. -/
namespace Lf
open Go Go.Abs
set_option linter.unusedVariables false
set_option linter.unusedSimpArgs false
theorem namedFact : spykeep4_named = some true := by kernel_rfl
theorem same_ok {o : arc_Orbit} {days K most : Int} {eye v was here : Vec} {s : Seen} (hC : predict_Check o = some 0) (hs : Has (predict_Starts o) fun r => r.2 = 0 ∧ ∃ w h : Place3, r.1 = [(w, h)] ∧ ok3 w ∧ ok3 h ∧ has3 w was ∧ has3 h here)
  (d0 : -32 ≤ days) (d1 : days ≤ 32) (ie : inV eye) (hv : ∀ w h : Place3, ok3 w → ok3 h → has3 w was → has3 h here → has3 (followed w h days) v)
  (sl : s.At = ⟨o.Seen.2.1.At.Lo + days * 86400000, o.Seen.2.1.At.Lo + days * 86400000, false⟩) (al : -100000000000 ≤ o.Seen.2.1.At.Lo) (ah : o.Seen.2.1.At.Lo ≤ 100000000000) (ad : Int.tmod o.Seen.2.1.At.Lo 86400000 = 0) (sf : s.From = eye) (sp : plainSeen s)
  (k1 : 1 ≤ K) (k8 : K ≤ 8) (hx : heldB s.Box.X K (subV v eye).X most) (hy : heldB s.Box.Y K (subV v eye).Y most) (hz : heldB s.Box.Z K (subV v eye).Z most) : identify_Same o s = some (true, 0) := by
 apply Has.val
 unfold identify_Same
 rw [hC, checkSeenP_ok sp, sl]
 simp only [Option.bind_some, bne_self_eq_false, Bool.false_eq_true, if_false, sf]
 have e : Int.tmod (o.Seen.2.1.At.Lo + days * 86400000) 86400000 = 0 := by
  obtain ⟨q, hq⟩ := Int.dvd_of_tmod_eq_zero ad
  rw [hq, show 86400000 * q + days * 86400000 = (q + days) * 86400000 from by omega]
  exact Int.mul_tmod_left _ _
 rw [e]
 simp only [bne_self_eq_false, Bool.false_eq_true, if_false]
 rw [show o.Seen.2.1.At.Lo + days * 86400000 - o.Seen.2.1.At.Lo = days * 86400000 from by omega, w6_in (n := days * 86400000) (by omega), Int.mul_tdiv_cancel _ (by decide), w6_in (n := days) (by omega)]
 refine Has.bind (P := fun z => z = false) (Has.letF (Has.neg (fun q => by have := of_decide_eq_true q; omega) (Has.letF (Has.ret (decide_eq_false (by omega)))))) fun z hzz => Has.neg (by rw [hzz]; decide) ?_
 refine (at_ok (v := v) hs d0 d1 ie hv).bind fun r ⟨q0, ob, t, t1, t2, ht⟩ => ?_
 refine Has.neg (by rw [q0]; decide) ?_
 rw [share_held t1 t2 k1 k8 ob ⟨sp.cx.ok, sp.cy.ok, sp.cz.ok⟩ (fun i i0 i1 => ?_) ht]
 ·exact Has.ret rfl
 ·rcases three i0 i1 with rfl | rfl | rfl
  ·exact ⟨hx.l1, hx.h0⟩
  ·exact ⟨hy.l1, hy.h0⟩
  ·exact ⟨hz.l1, hz.h0⟩
theorem IdentifySame_true (l : List Int) (days : Int) (hl : okL l) (hd : -9223372036854775808 ≤ days ∧ days ≤ 9223372036854775807) : spykeep4_IdentifySame l days = some true := by
 apply Has.val
 have h0 := okS.start hl
 unfold spykeep4_IdentifySame
 refine (next_ok _ 40 h0 (by simp only []; omega) (by omega)).bind fun r1 ⟨m0, m1, s1⟩ => ?_
 have o1 := s1.ok h0 (by simp only []; omega); have b1 := s1.hi
 simp only [] at b1
 refine (orbit_ok r1.2 r1.1 o1 (by omega) m0 (by omega)).bind fun r2 ⟨s2, F, day, orb⟩ => ?_
 have o2 := s2.ok o1 (by omega); have b2 := s2.hi
 refine (below_ok days 21 hd (by omega)).bind fun r3 ⟨e0, e1⟩ => ?_
 rw [namedFact]
 simp only [Option.bind_some, Bool.not_true, Bool.false_eq_true, if_false]
 refine Has.ite (fun _ => Has.ret rfl) fun ok => ?_
 have ok : r2.2.2.1 = true := by simpa using ok
 refine (place_ok _ 1 o2 (by omega) (by omega) (by omega)).bind fun r9 ⟨i9, _, _, _, s9⟩ => ?_
 have o9 := s9.ok o2 (by omega); have b9 := s9.hi
 rw [w6_in (n := r3 - 10) (by omega)]
 obtain ⟨dd, ed⟩ : ∃ dd, dd = r3 - 10 := ⟨_, rfl⟩
 rw [← ed]
 have path := fun (w h : Place3) (a : ok3 w) (b : ok3 h) (c : has3 w r2.2.1.1) (d : has3 h r2.2.1.2.1) => path_ok has_keeps (b := Body.mk 1 r2.2.1.1 r2.2.1.2.1 0) (w := w) (h := h) ⟨orb.a0, a, c⟩ ⟨orb.a1, b, d⟩ (day := dd) (by omega) (by omega)
 have ee : ∀ v : Vec, has3 (ex3 v) v := fun v => ⟨.inr ⟨Int.le_refl _, Int.le_refl _⟩, .inr ⟨Int.le_refl _, Int.le_refl _⟩, .inr ⟨Int.le_refl _, Int.le_refl _⟩⟩
 obtain ⟨r10, e10, h10⟩ := path _ _ (ex3_ok orb.a0) (ex3_ok orb.a1) (ee _) (ee _)
 rw [e10]
 simp only [Option.bind_some]
 refine Has.bind (P := fun z => z = false → r10.2.2 = 0) (Has.ite (fun _ => Has.ret fun q => nomatch q) fun z => Has.ret fun _ => by simpa using z) fun z hz => Has.ite (fun _ => Has.ret rfl) fun q => ?_
 have z : r10.2.2 = 0 := hz (by simpa using q)
 have iv := (h10 z).1
 have n1 := orb.seen 1 (by decide) (by decide)
 have p1 : r2.1.2.1.From = F.2.1 := n1.place
 have q1 : r2.1.2.1.At = ⟨(day + 1) * 86400000, (day + 1) * 86400000, false⟩ := n1.t
 have D0 := orb.d0; have D1 := orb.d1
 rw [p1, from_eq orb.f1 orb.a1]
 simp only [Option.bind_some]
 rw [squareD_eq orb.f1 orb.a1]
 simp only [Option.bind_some]
 have fr : farB (subV r2.2.1.2.1 F.2.1) = true := orb.far ok 1 (by decide) (by decide)
 refine (stepO_ok (far_sqs fr) (sub_bd orb.f1 orb.a1).2 fun o => rfl).bind fun o ho => ?_
 obtain ⟨hC, _, _, hs⟩ := orbit_starts orb ok m0 (by omega) ho
 have n0 := ho.n0; have nf := ho.nf
 rw [w6_in (n := o.Far - 4096) (by omega), from_eq i9 iv]
 simp only [Option.bind_some]
 refine (next_ok _ 100 o9 (by omega) (by omega)).bind fun r20 ⟨c0, c1, s20⟩ => ?_
 have o20 := s20.ok o9 (by omega); have b20 := s20.hi
 obtain ⟨⟨fx1, fx2⟩, ⟨fy1, fy2⟩, fz1, fz2⟩ := i9
 obtain ⟨⟨ax1, ax2⟩, ⟨ay1, ay2⟩, az1, az2⟩ := iv
 refine (held_ok r20.2 (subV r10.2.1 r9.1) r20.1 o20 (by omega) ⟨by simp only [subV]; omega, by simp only [subV]; omega, by simp only [subV]; omega⟩ ⟨c0, by omega⟩).bind fun r21 ⟨⟨K, k1, k8, hx, hy, hz⟩, _⟩ => ?_
 rw [q1]
 simp only []
 rw [w6_in (n := dd * 86400000) (by omega), w6_in (n := (day + 1) * 86400000 + dd * 86400000) (by omega)]
 have one : ∀ (b : Bound) (c : Int), heldB b K c r20.1 → -8388608 ≤ c → c ≤ 8388608 → coordB b := fun b c hb c1 c2 => by
  have l0 := hb.l0; have l1 := hb.l1; have h0 := hb.h0; have h1 := hb.h1
  have kc : -67108864 ≤ K * c ∧ K * c ≤ 67108864 := by
   have : K = 1 ∨ K = 2 ∨ K = 3 ∨ K = 4 ∨ K = 5 ∨ K = 6 ∨ K = 7 ∨ K = 8 := by omega
   rcases this with rfl | rfl | rfl | rfl | rfl | rfl | rfl | rfl <;> omega
  exact ⟨⟨(fun q => by rw [hb.u] at q; cases q), by omega, by omega, by omega⟩, hb.u, by omega, by omega⟩
 have sm := same_ok (o := arc_Orbit.mk o.Seen (o.Far - 4096) o.Far) (days := dd) (K := K) (most := r20.1) (eye := r9.1) (v := r10.2.1) (s := Seen.mk (Bound.mk ((day + 1) * 86400000 + dd * 86400000) ((day + 1) * 86400000 + dd * 86400000) false) r9.1 r21.1 (Bound.mk 0 0 false)) hC hs (by omega) (by omega) ⟨⟨fx1, fx2⟩, ⟨fy1, fy2⟩, fz1, fz2⟩
  (fun w h ow oh hw hh => by
   obtain ⟨q, e, hq⟩ := path w h ow oh hw hh
   rw [e10] at e; cases e
   exact (hq z).2.2)
  (by simp only []; rw [ho.s, q1]) (by simp only []; rw [ho.s, q1]; simp only []; omega) (by simp only []; rw [ho.s, q1]; simp only []; omega) (by simp only []; rw [ho.s, q1]; exact Int.mul_tmod_left _ _) rfl
  ⟨one _ _ hx (by simp only [subV]; omega) (by simp only [subV]; omega), one _ _ hy (by simp only [subV]; omega) (by simp only [subV]; omega), one _ _ hz (by simp only [subV]; omega) (by simp only [subV]; omega), okKnown (by omega) (Int.le_refl _) (by omega), rfl, by simp only []; omega, by simp only []; omega, ⟨⟨fx1, fx2⟩, ⟨fy1, fy2⟩, fz1, fz2⟩, okKnown (by decide) (by decide) (by decide)⟩
  k1 k8 hx hy hz
 rw [sm]
 exact Has.ret rfl
end Lf
