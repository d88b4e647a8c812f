/- Laws of the plain functions. Conditions: as each theorem states them. -/
import Derived.Test.YtmcknemnbkajmaaY0
/- The share of the light of a window that lies near the peak; narrower bounds give narrower results. -/
namespace Lf
open Go Go.Abs
set_option linter.unusedVariables false
set_option linter.unusedSimpArgs false
/-- Bounds that lie within those of another row. -/
structure within (v' v : List Bound) : Prop where
  len : v'.length = v.length
  b : ∀ k : Int, 0 ≤ k → k < v.length → (gt v k).Lo ≤ (gt v' k).Lo ∧ (gt v' k).Hi ≤ (gt v k).Hi
theorem gr_mono {a : List Int} {v v' : List Bound} (h : okA a v) (h' : okA a v') (hw : within v' v) (hs : ∃ k : Int, 0 ≤ k ∧ k < v.length ∧ 0 < (gt v k).Lo) {g g' : Int} (hg : isGr a v g) (hg' : isGr a v' g') : g' ≤ g := by
  obtain ⟨c, c0, c1, rfl⟩ := hg'.ex
  have hs' : ∃ k : Int, 0 ≤ k ∧ k < v'.length ∧ 0 < (gt v' k).Lo := by
    obtain ⟨k, k0, k1, k2⟩ := hs
    exact ⟨k, k0, by rw [hw.len]; exact k1, by have := (hw.b k k0 k1).1; omega⟩
  have hp := gW_pos h' hs' c
  rw [cdiv_le (by omega)]
  refine mean_le h hs hg (qW a v' c) fun i i0 i1 => ?_
  obtain ⟨q1, q2, _⟩ := qW_bd h' (c := c) i0 i1
  obtain ⟨w1, w2⟩ := hw.b i i0 (by have := h.len; omega)
  omega
theorem mean_mono {a a' : List Int} {v v' : List Bound} (ea : a' = a) (h : okA a v) (h' : okA a' v') (hw : within v' v) {b b' : Bound} (hm : isMean a v b) (hm' : isMean a' v' b') : b.Unknown = true ∨ (b'.Unknown = false ∧ b.Lo ≤ b'.Lo ∧ b'.Hi ≤ b.Hi) := by
  subst ea
  by_cases hs : ∃ k : Int, 0 ≤ k ∧ k < v.length ∧ 0 < (gt v k).Lo
  · have hs' : ∃ k : Int, 0 ≤ k ∧ k < v'.length ∧ 0 < (gt v' k).Lo := by
      obtain ⟨k, k0, k1, k2⟩ := hs
      exact ⟨k, k0, by rw [hw.len]; exact k1, by have := (hw.b k k0 k1).1; omega⟩
    obtain ⟨u, g1, ⟨z, z1, z2, g2⟩, _⟩ := hm.yes hs
    obtain ⟨u', g1', ⟨z', z1', z2', g2'⟩, _⟩ := hm'.yes hs'
    have ez : z' = z := gt_ext (by rw [z1, z1']) fun i i0 i1 => by rw [z2' i i0 i1, z2 i i0 (by rw [z1, ← z1']; exact i1)]
    subst ez
    have r1 := gr_mono h h' hw hs g1 g1'
    have r2 := gr_mono (h.neg z1 z2) (h'.neg z1' z2') hw hs g2 g2'
    exact .inr ⟨u', by omega, r1⟩
  · exact .inl (hm.no hs)
theorem sums_mono {v v' : List Bound} (hw : within v' v) : sLo v ≤ sLo v' ∧ sHi v' ≤ sHi v := by
  unfold sLo sHi
  rw [hw.len]
  exact ⟨sumN_le fun k k0 k1 => (hw.b k k0 k1).1, sumN_le fun k k0 k1 => (hw.b k k0 k1).2⟩
/-! ### the share -/
def selLo (N : Int → Bool) (v : List Bound) (n : Nat) : Int := sumN (fun k => if N k = true then (gt v k).Lo else 0) n
def selHi (N : Int → Bool) (v : List Bound) (n : Nat) : Int := sumN (fun k => if N k = true then (gt v k).Hi else 0) n
theorem sel_bd {N : Int → Bool} {v : List Bound} (h : allI v fun _ b => 0 ≤ b.Lo ∧ b.Lo ≤ b.Hi ∧ b.Hi ≤ 2199023255552) : ∀ n : Nat, n ≤ v.length → 0 ≤ selLo N v n ∧ selLo N v n ≤ selHi N v n ∧ selHi N v n ≤ n * 2199023255552
  | 0, _ => by simp [selLo, selHi, sumN]
  | n + 1, hn => by
    obtain ⟨p, q, r⟩ := sel_bd (N := N) h n (by omega)
    obtain ⟨a, b, c⟩ := h n (by omega) (by omega)
    unfold selLo selHi at *
    simp only [sumN]
    rw [show ((n + 1 : Nat) : Int) = n + 1 from by omega, Int.add_mul]
    cases N n <;> simp <;> omega
theorem sel_mono {N : Int → Bool} {v v' : List Bound} (hw : within v' v) : selLo N v v.length ≤ selLo N v' v'.length ∧ selHi N v' v'.length ≤ selHi N v v.length := by
  unfold selLo selHi
  rw [hw.len]
  refine ⟨sumN_le fun k k0 k1 => ?_, sumN_le fun k k0 k1 => ?_⟩ <;> have := hw.b k k0 k1 <;> cases N k <;> simp <;> omega
theorem contains_tot (l : List Int) (x : Int) (hl : l.length ≤ 1000000) : ∃ b, slices_Contains_Int l x = some b := by
  have : Has (slices_Contains_Int l x) fun _ => True := by
    unfold slices_Contains_Int slices_Index_Int
    refine Has.bind (P := fun _ => True) (Has.seq (P := fun _ => True) ?_ (fun _ _ => Has.ret trivial) (fun _ _ => trivial)) fun _ _ => Has.ret trivial
    refine Has.loop (fun i : Int => 0 ≤ i ∧ i ≤ l.length) (fun i => (l.length - i).toNat) _ ⟨Int.le_refl _, by omega⟩ (by omega) fun i ⟨i0, i1⟩ => ?_
    unfold slices_Index_Int.l1
    refine Has.ite (fun h => ?_) fun h => Has.ret (.done trivial)
    have h : i < l.length := of_decide_eq_true h
    rw [w6_in (n := i + 1) (by omega)]
    exact Has.chk ⟨i0, h⟩ (Has.ite (fun _ => Has.ret (.done trivial)) fun _ => Has.ret (.next ⟨by omega, by omega⟩ (by omega)))
  obtain ⟨b, e, _⟩ := this
  exact ⟨b, e⟩
def nearN (near cells : List Int) (k : Int) : Bool := (slices_Contains_Int near (gt cells k)).getD false
/-- What a share is. -/
structure isShare (aL aH bL bH : Int) (q : Bound) : Prop where
  no : aL + bL ≤ 0 → q.Unknown = true
  yes : 0 < aL + bL → q.Unknown = false ∧ q.Lo = aL * 1073741824 / (aL + bH) ∧ q.Hi = cdiv (aH * 1073741824) (aH + bL)
theorem share_ok {aL aH bL bH : Int} (a0 : 0 ≤ aL) (a1 : aL ≤ aH) (a2 : aH ≤ 1125899906842624) (b0 : 0 ≤ bL) (b1 : bL ≤ bH) (b2 : bH ≤ 1125899906842624) : Has (measure_share ⟨aL, aH, false⟩ ⟨bL, bH, false⟩) fun q => isShare aL aH bL bH q := by
  unfold measure_share
  simp only [Bool.false_eq_true, if_false, Option.bind_some]
  rw [w6_in (n := aL + bL) (by omega), w6_in (n := aL + bH) (by omega), w6_in (n := aH + bL) (by omega)]
  refine Has.ite (fun h => ?_) fun h => ?_
  · have h : aL + bL ≤ 0 := of_decide_eq_true h
    exact Has.ret ⟨fun _ => rfl, fun x => by omega⟩
  · have h : ¬ aL + bL ≤ 0 := fun q => h (decide_eq_true q)
    have k1 : 0 ≤ aL * 1073741824 / (aL + bH) := Int.ediv_nonneg (by omega) (by omega)
    have k2 : aL * 1073741824 / (aL + bH) ≤ aL * 1073741824 := Int.ediv_le_self _ (by omega)
    have k3 : 0 ≤ aH * 1073741824 / (aH + bL) := Int.ediv_nonneg (by omega) (by omega)
    have k4 : aH * 1073741824 / (aH + bL) ≤ 1073741824 := by
      have := Int.ediv_le_ediv (show 0 < aH + bL by omega) (show aH * 1073741824 ≤ 1073741824 * (aH + bL) by omega)
      rw [Int.mul_ediv_cancel _ (by omega)] at this; exact this
    have k5 : aL * 1073741824 / (aL + bH) ≤ 1073741824 := by
      have := Int.ediv_le_ediv (show 0 < aL + bH by omega) (show aL * 1073741824 ≤ 1073741824 * (aL + bH) by omega)
      rw [Int.mul_ediv_cancel _ (by omega)] at this; exact this
    refine (muldiv_ok aL 1073741824 (aL + bH) (by unfold okI; omega) (by unfold okI; omega) (by omega)).bind fun r hr => ?_
    have hr : r = (aL * 1073741824 / (aL + bH), 0) := by
      rcases hr with ⟨_, h⟩ | ⟨h, _⟩
      · exact h
      · exfalso; apply h; unfold okI; omega
    refine (muldivup_ok aH 1073741824 (aH + bL) (by unfold okI; omega) (by unfold okI; omega) (by omega)).bind fun t ⟨t1, t2⟩ => ?_
    have z := t2 ⟨by unfold okI; omega, by unfold okI; omega⟩
    obtain ⟨u1, u2⟩ := cdiv_up (x := aH * 1073741824) (d := aH + bL) (by omega)
    have e : t.1 = cdiv (aH * 1073741824) (aH + bL) := by
      rcases (t1 z).1 with ⟨p, q⟩ | ⟨p, q⟩
      · rw [q, u1 p]
      · rw [q, u2 p]
    rw [hr]
    exact Has.ret ⟨fun x => by omega, fun _ => ⟨rfl, rfl, e⟩⟩
/-- A quotient that is no greater, rounded down. -/
theorem frac_le {p q p' q' : Int} (hq : 0 < q) (hq' : 0 < q') (h : p * q' ≤ p' * q) : p / q ≤ p' / q' := by
  rw [Int.le_ediv_iff_mul_le hq']
  have a := Int.ediv_mul_le p (show q ≠ 0 by omega)
  have b := Int.mul_le_mul_of_nonneg_right a (show 0 ≤ q' by omega)
  have c : (p / q * q') * q ≤ p' * q := by rw [Int.mul_assoc, Int.mul_comm q' q, ← Int.mul_assoc]; omega
  exact Int.le_of_mul_le_mul_right c hq
theorem frac_up {p q p' q' : Int} (hq : 0 < q) (hq' : 0 < q') (h : p * q' ≤ p' * q) : cdiv p q ≤ cdiv p' q' := by
  unfold cdiv
  have := frac_le (p := -p') (q := q') (p' := -p) (q' := q) hq' hq (by rw [Int.neg_mul, Int.neg_mul]; omega)
  omega
theorem share_mono {aL aH bL bH aL' aH' bL' bH' : Int} {q q' : Bound} (h : isShare aL aH bL bH q) (h' : isShare aL' aH' bL' bH' q') (a0 : 0 ≤ aL) (b0 : 0 ≤ bL) (p1 : aL ≤ aL') (p2 : aL' ≤ aH') (p3 : aH' ≤ aH) (r1 : bL ≤ bL') (r2 : bL' ≤ bH') (r3 : bH' ≤ bH) : q.Unknown = true ∨ (q'.Unknown = false ∧ q.Lo ≤ q'.Lo ∧ q'.Hi ≤ q.Hi) := by
  by_cases hs : aL + bL ≤ 0
  · exact .inl (h.no hs)
  · obtain ⟨u, l, m⟩ := h.yes (by omega)
    obtain ⟨u', l', m'⟩ := h'.yes (by omega)
    refine .inr ⟨u', ?_, ?_⟩
    · rw [l, l']
      refine frac_le (by omega) (by omega) ?_
      have e1 := Int.mul_le_mul_of_nonneg_left r3 (show 0 ≤ aL by omega)
      have e2 := Int.mul_le_mul_of_nonneg_right p1 (show 0 ≤ bH by omega)
      have e3 : aL * (aL' + bH') ≤ aL' * (aL + bH) := by rw [Int.mul_add, Int.mul_add, Int.mul_comm aL' aL]; omega
      have e4 := Int.mul_le_mul_of_nonneg_right e3 (show (0 : Int) ≤ 1073741824 by decide)
      rw [Int.mul_right_comm, Int.mul_right_comm aL']; exact e4
    · rw [m, m']
      refine frac_up (by omega) (by omega) ?_
      have e1 := Int.mul_le_mul_of_nonneg_left r1 (show 0 ≤ aH' by omega)
      have e2 := Int.mul_le_mul_of_nonneg_right p3 (show 0 ≤ bL' by omega)
      have e3 : aH' * (aH + bL) ≤ aH * (aH' + bL') := by rw [Int.mul_add, Int.mul_add, Int.mul_comm aH' aH]; omega
      have e4 := Int.mul_le_mul_of_nonneg_right e3 (show (0 : Int) ≤ 1073741824 by decide)
      rw [Int.mul_right_comm, Int.mul_right_comm aH]; exact e4
theorem sharp_ok {c : Cells} {lv : Bound} {s : Source_} {r : Int} (hc : okF c) (hk : ∀ b ∈ c.At, b.Unknown = false) (hl : lvl lv) (hh : ∀ b ∈ c.At, lv.Lo ≤ b.Hi) (p0 : 0 ≤ s.Peak) (p1 : s.Peak < c.At.length) (r0 : 0 ≤ r) (r1 : r ≤ 10) (hw : r ≤ s.Peak % c.W ∧ s.Peak % c.W + r < c.W ∧ r ≤ s.Peak / c.W ∧ s.Peak / c.W + r < c.H) :
    Has (measure_Sharp c lv s r) fun m => m.2 = 0 ∧ ∃ (cells near : List Int) (v : List Bound), measure_Cells s c.W c.H r = some cells ∧ measure_Cells s c.W c.H 1 = some near ∧ isWin c lv cells v ∧ isShare (selLo (nearN near cells) v v.length) (selHi (nearN near cells) v v.length) (selLo (fun k => !nearN near cells k) v v.length) (selHi (fun k => !nearN near cells k) v v.length) m.1 := by
  unfold measure_Sharp
  refine (window_ok hc hk hl hh p0 p1 r0 r1).bind fun q ⟨q1, q2, q3, q4, q5⟩ => ?_
  have win : isWin c lv q.1 q.2.1 := ⟨q3, q4, q5⟩
  have va := win.all hc hk hl
  have vb : allI q.2.1 fun _ b => 0 ≤ b.Lo ∧ b.Lo ≤ b.Hi ∧ b.Hi ≤ 2199023255552 := allI_mono va fun k b _ _ ⟨_, _, a, b, c⟩ => ⟨a, b, c⟩
  have ql := q3.len
  obtain ⟨near, en, hn, _⟩ := cells_ok (s := s) (r := 1) ⟨hc.w0, hc.w1, hc.h0, hc.h1, p0, by rw [← hc.len]; exact p1, by decide, by decide⟩
  have nl := hn.len
  rw [q2, whole_ok hc p0 p1 r0 r1, decide_eq_true hw, en]
  simp only [Option.bind_some, bne_self_eq_false, Bool.false_eq_true, if_false, Bool.not_true]
  refine Has.bind (P := fun z : Bound × Bound => z.1 = ⟨selLo (nearN near q.1) q.2.1 q.2.1.length, selHi (nearN near q.1) q.2.1 q.2.1.length, false⟩ ∧ z.2 = ⟨selLo (fun k => !nearN near q.1 k) q.2.1 q.2.1.length, selHi (fun k => !nearN near q.1 k) q.2.1 q.2.1.length, false⟩) ?_ fun z ⟨z1, z2⟩ => ?_
  · refine Has.loop (fun t : Bound × Bound × Int => 0 ≤ t.2.2 ∧ t.2.2 ≤ q.2.1.length ∧ t.1 = ⟨selLo (nearN near q.1) q.2.1 t.2.2.toNat, selHi (nearN near q.1) q.2.1 t.2.2.toNat, false⟩ ∧ t.2.1 = ⟨selLo (fun k => !nearN near q.1 k) q.2.1 t.2.2.toNat, selHi (fun k => !nearN near q.1 k) q.2.1 t.2.2.toNat, false⟩) (fun t => (q.2.1.length - t.2.2).toNat) _ ⟨Int.le_refl _, by simp only []; omega, rfl, rfl⟩ (by simp only []; omega) fun t ⟨t0, t1, t2, t3⟩ => ?_
    unfold measure_Sharp.l1
    refine Has.ite (fun hi => ?_) fun hi => ?_
    · have hi : t.2.2 < q.1.length := of_decide_eq_true hi
      have hv : t.2.2 < q.2.1.length := by omega
      obtain ⟨ok1, u1, v0, v1, v2⟩ := va t.2.2 t0 hv
      obtain ⟨n, hn⟩ := contains_tot near (gt q.1 t.2.2) (by omega)
      have en2 : nearN near q.1 t.2.2 = n := by unfold nearN; rw [hn]; rfl
      have es : (t.2.2 + 1).toNat = t.2.2.toNat + 1 := by omega
      have et : ((t.2.2.toNat : Nat) : Int) = t.2.2 := by omega
      have s1 := sel_bd (N := nearN near q.1) vb t.2.2.toNat (by omega)
      have s2 := sel_bd (N := fun k => !nearN near q.1 k) vb t.2.2.toNat (by omega)
      have f2 : (t.2.2.toNat : Int) * 2199023255552 ≤ 441 * 2199023255552 := Int.mul_le_mul_of_nonneg_right (by omega) (by decide)
      rw [hn, t2, t3, w6_in (n := t.2.2 + 1) (by omega)]
      simp only [Option.bind_some]
      refine Has.bind (P := fun z : Bound × Bound => z = (⟨selLo (nearN near q.1) q.2.1 (t.2.2 + 1).toNat, selHi (nearN near q.1) q.2.1 (t.2.2 + 1).toNat, false⟩, ⟨selLo (fun k => !nearN near q.1 k) q.2.1 (t.2.2 + 1).toNat, selHi (fun k => !nearN near q.1 k) q.2.1 (t.2.2 + 1).toNat, false⟩)) (Has.chk ⟨t0, hi⟩ (Has.ite (fun hb => ?_) fun hb => ?_)) fun z hz => ?_
      · subst hb
        refine Has.chk ⟨t0, hv⟩ ?_
        rw [addZ_eq (okKnown (by omega) s1.2.1 (by omega)) ok1, addZ_known rfl u1 (by simp only []; omega) (by simp only []; omega) (by simp only []; omega)]
        refine Has.ret ?_
        unfold selLo selHi
        simp only [es, sumN, et, en2, Bool.not_true, Bool.false_eq_true, if_true, if_false, Int.add_zero]
      · have hb : n = false := by simpa using hb
        subst hb
        refine Has.chk ⟨t0, hv⟩ ?_
        rw [addZ_eq (okKnown (by omega) s2.2.1 (by omega)) ok1, addZ_known rfl u1 (by simp only []; omega) (by simp only []; omega) (by simp only []; omega)]
        refine Has.ret ?_
        unfold selLo selHi
        simp only [es, sumN, et, en2, Bool.not_false, Bool.false_eq_true, if_true, if_false, Int.add_zero]
      · rw [hz]; exact Has.ret (.next ⟨by simp only []; omega, by simp only []; omega, rfl, rfl⟩ (by simp only []; omega))
    · have hi : ¬ t.2.2 < q.1.length := fun x => hi (decide_eq_true x)
      have e : t.2.2.toNat = q.2.1.length := by omega
      rw [e] at t2 t3
      exact Has.ret (.done ⟨t2, t3⟩)
  · have s1 := sel_bd (N := nearN near q.1) vb q.2.1.length (Nat.le_refl _)
    have s2 := sel_bd (N := fun k => !nearN near q.1 k) vb q.2.1.length (Nat.le_refl _)
    have f2 : (q.2.1.length : Int) * 2199023255552 ≤ 441 * 2199023255552 := Int.mul_le_mul_of_nonneg_right (by omega) (by decide)
    rw [z1, z2]
    refine (share_ok (by omega) s1.2.1 (by omega) (by omega) s2.2.1 (by omega)).bind fun w hw => Has.ret ⟨rfl, q.1, near, q.2.1, q1, rfl, win, hw⟩
end Lf
/- Lights, and bounds of them. -/
namespace Lf
open Go Go.Abs
set_option linter.unusedVariables false
set_option linter.unusedSimpArgs false
/-- One point's light at a cell. -/
theorem point_ok {top k dx dy : Int} (h0 : 0 ≤ top) (h1 : top ≤ 4999) (k1 : 1 ≤ k) (k3 : k ≤ 3) (x0 : 0 ≤ dx) (x1 : dx ≤ k) (y0 : 0 ≤ dy) (y1 : dy ≤ k) :
    w6 ((w6 (top * (w6 ((w6 (k + 1)) - dx)))) * (w6 ((w6 (k + 1)) - dy))) = top * (k + 1 - dx) * (k + 1 - dy) ∧ w6 ((w6 (k + 1)) * (w6 (k + 1))) = (k + 1) * (k + 1) ∧ (k + 1) * (k + 1) ≠ 0 ∧
    w6 (Int.tdiv (top * (k + 1 - dx) * (k + 1 - dy)) ((k + 1) * (k + 1))) = top * (k + 1 - dx) * (k + 1 - dy) / ((k + 1) * (k + 1)) ∧ 0 ≤ top * (k + 1 - dx) * (k + 1 - dy) / ((k + 1) * (k + 1)) ∧ top * (k + 1 - dx) * (k + 1 - dy) / ((k + 1) * (k + 1)) ≤ top := by
  rw [w6_in (n := k + 1) (by omega), w6_in (n := k + 1 - dx) (by omega), w6_in (n := k + 1 - dy) (by omega)]
  have a0 := Int.mul_nonneg h0 (show 0 ≤ k + 1 - dx by omega)
  have a1 := Int.mul_le_mul_of_nonneg_left (show k + 1 - dx ≤ k + 1 by omega) h0
  have a2 := Int.mul_le_mul_of_nonneg_left (show k + 1 ≤ 4 by omega) h0
  have b0 := Int.mul_nonneg a0 (show 0 ≤ k + 1 - dy by omega)
  have b1 := Int.mul_le_mul_of_nonneg_left (show k + 1 - dy ≤ k + 1 by omega) a0
  have b2 := Int.mul_le_mul_of_nonneg_right a1 (show 0 ≤ k + 1 by omega)
  have b3 := Int.mul_le_mul_of_nonneg_left (show k + 1 ≤ 4 by omega) a0
  have c0 : 4 ≤ (k + 1) * (k + 1) ∧ (k + 1) * (k + 1) ≤ 16 := by
    have : k = 1 ∨ k = 2 ∨ k = 3 := by omega
    rcases this with rfl | rfl | rfl <;> decide
  have d0 : 0 ≤ top * (k + 1 - dx) * (k + 1 - dy) / ((k + 1) * (k + 1)) := Int.ediv_nonneg b0 (by omega)
  have d1 : top * (k + 1 - dx) * (k + 1 - dy) / ((k + 1) * (k + 1)) ≤ top := by
    have : top * (k + 1 - dx) * (k + 1 - dy) / ((k + 1) * (k + 1)) < top + 1 := by
      rw [Int.ediv_lt_iff_lt_mul (by omega), Int.add_mul, ← Int.mul_assoc]; omega
    omega
  refine ⟨?_, w6_in (by omega), by omega, ?_, d0, d1⟩
  · rw [w6_in (n := top * (k + 1 - dx)) (by omega)]; exact w6_in (by omega)
  · rw [Int.tdiv_eq_ediv_of_nonneg b0]; exact w6_in (by omega)
theorem tops_at (v : Int) (h : 0 ≤ v ∧ v < 3) : 1 ≤ gt ([30, 400, 5000] : List Int) v ∧ gt ([30, 400, 5000] : List Int) v ≤ 5000 := by
  have : v = 0 ∨ v = 1 ∨ v = 2 := by omega
  rcases this with rfl | rfl | rfl <;> decide
/-- What the light of a field is, of which the background is given. -/
structure okLt (n b : Int) (back : Int) (l : List Int) : Prop where
  len : (l.length : Int) = n
  v : ∀ x ∈ l, back ≤ x ∧ x ≤ b
theorem lights_ok (s : spymake_Stream) (w h points : Int) (hs : okS s) (ha : s.at_ ≤ 4611686018427000000) (w0 : 1 ≤ w) (w1 : w ≤ 32) (h0 : 1 ≤ h) (h1 : h ≤ 32) (p0 : 0 ≤ points) (p1 : points ≤ 10) :
    Has (Stream_Lights s w h points) fun r => okLt (w * h) (39 + 4999 * points) r.2.1 r.1 ∧ 0 ≤ r.2.1 ∧ r.2.1 ≤ 39 ∧ after s r.2.2 (1 + 5 * points) := by
  have hA := area w0 w1 h0 h1
  unfold Stream_Lights
  have eA : w6 (w * h) = w * h := w6_in (by omega)
  rw [eA]
  refine (next_ok s 40 hs (by omega) (by omega)).bind fun r ⟨r1, r2, r3⟩ => ?_
  refine Has.chk ⟨by omega, Int.le_refl _, roomyI (by omega) (by omega)⟩ ?_
  refine Has.bind (P := fun l : List Int => (l.length : Int) = w * h ∧ ∀ x ∈ l, x = r.1) ?_ fun l ⟨l1, l2⟩ => ?_
  · refine Has.loop (fun t : List Int × Int => (t.1.length : Int) = w * h ∧ 0 ≤ t.2 ∧ t.2 ≤ w * h ∧ allI t.1 fun j x => j < t.2 → x = r.1) (fun t => (w * h - t.2).toNat) _ ⟨by simp; omega, Int.le_refl _, by simp only []; omega, fun j j1 j2 j3 => by simp only [] at j3; omega⟩ (by simp only []; omega) fun t ⟨t1, t2, t3, t4⟩ => ?_
    unfold Stream_Lights.l1
    rw [eA]
    refine Has.letF (Has.ite (fun hc => ?_) fun hc => ?_)
    · have hc : t.2 < w * h := by simp at hc; omega
      rw [w6_in (by omega)]
      refine Has.chk ⟨t2, by omega⟩ (Has.ret (.next ⟨by simp only [List.length_set]; exact t1, by simp only []; omega, by simp only []; omega, ?_⟩ (by simp only []; omega)))
      exact allI_upd t4 t2 (fun j x j1 j2 j3 hx hj => by simp only [] at hj; exact hx (by omega)) fun _ => rfl
    · have hc : ¬ t.2 < w * h := by simp at hc; omega
      exact Has.ret (.done ⟨t1, allI_mem (allI_mono t4 fun j x j1 j2 hx => hx (by omega))⟩)
  · have hsr := r3.ok hs (by omega)
    have hh := r3.hi
    refine (Has.loop (fun t : spymake_Stream × List Int × Int => after r.2 t.1 (5 * t.2.2) ∧ 0 ≤ t.2.2 ∧ t.2.2 ≤ points ∧ (t.2.1.length : Int) = w * h ∧ ∀ x ∈ t.2.1, r.1 ≤ x ∧ x ≤ 39 + 4999 * t.2.2) (fun t => (points - t.2.2).toNat)
      (fun o : spymake_Stream × List Int => after r.2 o.1 (5 * points) ∧ okLt (w * h) (39 + 4999 * points) r.1 o.2) ⟨after.refl _, Int.le_refl _, p0, l1, fun x hx => by have := l2 x hx; simp only []; omega⟩ (by simp only []; omega) fun t ⟨t1, t2, t3, t4, t5⟩ => ?_).bind
      fun o ⟨o1, o2⟩ => Has.ret ⟨o2, r1, by simp only []; omega, (r3.trans o1).more (by omega)⟩
    unfold Stream_Lights.l2
    refine Has.ite (fun hc => ?_) fun hc => ?_
    · have hc : t.2.2 < points := of_decide_eq_true hc
      have hst := t1.ok hsr (by omega)
      have hht := t1.hi
      refine (next_ok t.1 w hst (by omega) (by omega)).bind fun x ⟨x1, x2, x3⟩ => ?_
      have hx := x3.ok hst (by omega); have hhx := x3.hi
      refine (next_ok x.2 h hx (by omega) (by omega)).bind fun y ⟨y1, y2, y3⟩ => ?_
      have hy := y3.ok hx (by omega); have hhy := y3.hi
      refine (range_ok y.2 1 3 hy (by omega) (by omega) (by omega) (by omega)).bind fun k ⟨k1, k2, k3⟩ => ?_
      have hk := k3.ok hy (by omega); have hhk := k3.hi
      refine (next_ok k.2 3 hk (by omega) (by omega)).bind fun g ⟨g1, g2, g3⟩ => ?_
      have hg := g3.ok hk (by omega); have hhg := g3.hi
      have ht := tops_at g.1 ⟨g1, g2⟩
      refine Has.chk ⟨g1, by simpa using g2⟩ ((next_ok g.2 _ hg (by omega) (by omega)).bind fun z ⟨z1, z2, z3⟩ => ?_)
      have hhz := z3.hi
      generalize gt ([30, 400, 5000] : List Int) g.1 = most at *
      refine Has.bind (P := fun l : List Int => (l.length : Int) = w * h ∧ ∀ x ∈ l, r.1 ≤ x ∧ x ≤ 39 + 4999 * (t.2.2 + 1)) ?_ fun l ⟨m1, m2⟩ => ?_
      · have ini : ∀ v : Int, r.1 ≤ v ∧ v ≤ 39 + 4999 * t.2.2 → ∀ {q : Prop}, r.1 ≤ v ∧ v ≤ 39 + 4999 * (t.2.2 + 1) ∧ (q → v ≤ 39 + 4999 * t.2.2) := fun v ⟨a, b⟩ _ => ⟨a, by omega, fun _ => b⟩
        refine Has.loop (fun u : List Int × Int => (u.1.length : Int) = w * h ∧ 0 ≤ u.2 ∧ u.2 ≤ w * h ∧ allI u.1 fun j x => r.1 ≤ x ∧ x ≤ 39 + 4999 * (t.2.2 + 1) ∧ (u.2 ≤ j → x ≤ 39 + 4999 * t.2.2)) (fun u => (w * h - u.2).toNat) _ ⟨t4, Int.le_refl _, by simp only []; omega, fun j j1 j2 => ini _ (t5 _ (gt_mem t.2.1 j ⟨j1, j2⟩))⟩ (by simp only []; omega) fun u ⟨u1, u2, u3, u4⟩ => ?_
        unfold Stream_Lights.l3
        rw [t4]
        refine Has.ite (fun hd => ?_) fun hd => ?_
        · have hd : u.2 < w * h := of_decide_eq_true hd
          have q0 := Int.tmod_nonneg w u2
          have q1 := Int.tmod_lt_of_pos u.2 (b := w) (by omega)
          have q2 : 0 ≤ Int.tdiv u.2 w := Int.tdiv_nonneg u2 (by omega)
          have q3 : Int.tdiv u.2 w < h := by rw [Int.tdiv_eq_ediv_of_nonneg u2, Int.ediv_lt_iff_lt_mul (by omega), Int.mul_comm]; exact hd
          refine Has.bind (P := fun l : List Int => (l.length : Int) = w * h ∧ allI l fun j x => r.1 ≤ x ∧ x ≤ 39 + 4999 * (t.2.2 + 1) ∧ (u.2 + 1 ≤ j → x ≤ 39 + 4999 * t.2.2)) ?_ fun l ⟨n1, n2⟩ => ?_
          · rw [w6_in (n := Int.tdiv u.2 w) (by omega), w6_in (n := Int.tmod u.2 w - x.1) (by omega), w6_in (n := x.1 - Int.tmod u.2 w) (by omega), w6_in (n := Int.tdiv u.2 w - y.1) (by omega), w6_in (n := y.1 - Int.tdiv u.2 w) (by omega)]
            refine Has.chk (by omega) (Has.letF (Has.letF ?_))
            have d1 := mx2_def (Int.tmod u.2 w - x.1) (x.1 - Int.tmod u.2 w)
            have d2 := mx2_def (Int.tdiv u.2 w - y.1) (y.1 - Int.tdiv u.2 w)
            generalize mx2 (Int.tmod u.2 w - x.1) (x.1 - Int.tmod u.2 w) = dx at *
            generalize mx2 (Int.tdiv u.2 w - y.1) (y.1 - Int.tdiv u.2 w) = dy at *
            simp only [ite_and, Option.bind_some]
            refine Has.ite (fun he => ?_) fun he => Has.ret ⟨u1, allI_mono u4 fun j v j1 j2 ⟨v1, v2, v3⟩ => ⟨v1, v2, fun h => v3 (by omega)⟩⟩
            simp only [Bool.and_eq_true, decide_eq_true_eq] at he
            obtain ⟨e1, e2, e3, e4, e5, e6⟩ := point_ok (top := z.1) (k := k.1) (dx := dx) (dy := dy) z1 (by omega) k1 k2 (by omega) he.1 (by omega) he.2
            rw [e1, e2]
            obtain ⟨v1, v2, v3⟩ := u4 u.2 u2 (by omega)
            have v3 := v3 (Int.le_refl _)
            refine Has.chk ⟨u2, by omega⟩ (Has.letF (Has.chk e3 (Has.letF (Has.ret ⟨by simp only [List.length_set]; exact u1, ?_⟩))))
            rw [e4]
            generalize z.1 * (k.1 + 1 - dx) * (k.1 + 1 - dy) / ((k.1 + 1) * (k.1 + 1)) = add at *
            rw [w6_in (n := gt u.1 u.2 + add) (by omega)]
            exact allI_upd u4 u2 (fun j v j1 j2 j3 ⟨v1, v2, v3⟩ => ⟨v1, v2, fun h => v3 (by omega)⟩) ⟨by omega, by omega, fun h => by omega⟩
          · rw [w6_in (by omega)]
            exact Has.ret (.next ⟨n1, by simp only []; omega, by simp only []; omega, n2⟩ (by simp only []; omega))
        · have hd : ¬ u.2 < w * h := fun q => hd (decide_eq_true q)
          exact Has.ret (.done ⟨u1, allI_mem (allI_mono u4 fun j v j1 j2 ⟨v1, v2, v3⟩ => ⟨v1, v2⟩)⟩)
      · rw [w6_in (by omega)]
        exact Has.ret (.next ⟨(((((t1.trans x3).trans y3).trans k3).trans g3).trans z3).more (by simp only []; omega), by simp only []; omega, by simp only []; omega, m1, m2⟩ (by simp only []; omega))
    · have hc : ¬ t.2.2 < points := fun q => hc (decide_eq_true q)
      have e : t.2.2 = points := by omega
      rw [e] at t1 t5
      exact Has.ret (.done ⟨t1, t4, t5⟩)
/-- A bound of a light, or none. -/
def veils (v : Int) (b : Bound) : Prop := b = ⟨0, 0, true⟩ ∨ (b.Unknown = false ∧ v - 200 ≤ b.Lo ∧ b.Lo ≤ v ∧ v ≤ b.Hi ∧ b.Hi ≤ v + 200)
theorem mosts_at (v : Int) (h : 0 ≤ v ∧ v < 4) : 0 ≤ gt ([0, 3, 30, 200] : List Int) v ∧ gt ([0, 3, 30, 200] : List Int) v ≤ 200 := by
  have : v = 0 ∨ v = 1 ∨ v = 2 ∨ v = 3 := by omega
  rcases this with rfl | rfl | rfl | rfl <;> decide
theorem veil_ok (s : spymake_Stream) (w h : Int) (light : List Int) (holes : Bool) (hs : okS s) (ha : s.at_ ≤ 4611686018427000000) (hn : light.length ≤ 1024) (hl : ∀ x ∈ light, -1000000000000 ≤ x ∧ x ≤ 1000000000000) :
    Has (Stream_Veil s w h light holes) fun r => r.1.W = w ∧ r.1.H = h ∧ r.1.At.length = light.length ∧ allI r.1.At (fun i b => veils (gt light i) b ∧ (holes = false → b.Unknown = false)) ∧ after s r.2 (1 + 3 * light.length) := by
  unfold Stream_Veil
  refine (next_ok s 4 hs (by omega) (by omega)).bind fun r ⟨r1, r2, r3⟩ => ?_
  have hr := r3.ok hs (by omega); have hh := r3.hi
  have hm := mosts_at r.1 ⟨r1, r2⟩
  refine Has.chk ⟨r1, by simpa using r2⟩ ?_
  refine (Has.loop (fun t : spymake_Stream × List Bound × Int => after r.2 t.1 (3 * t.2.2) ∧ 0 ≤ t.2.2 ∧ t.2.2 ≤ light.length ∧ (t.2.1.length : Int) = t.2.2 ∧ allI t.2.1 fun i b => veils (gt light i) b ∧ (holes = false → b.Unknown = false)) (fun t => (light.length - t.2.2).toNat)
    (fun o : spymake_Stream × List Bound => after r.2 o.1 (3 * light.length) ∧ o.2.length = light.length ∧ allI o.2 fun i b => veils (gt light i) b ∧ (holes = false → b.Unknown = false)) ⟨after.refl _, Int.le_refl _, by simp only []; omega, rfl, allI_nil⟩ (by simp only []; omega) fun t ⟨t1, t2, t3, t4, t5⟩ => ?_).bind
    fun o ⟨o1, o2, o3⟩ => Has.ret ⟨rfl, rfl, o2, o3, (r3.trans o1).more (by omega)⟩
  unfold Stream_Veil.l1
  refine Has.ite (fun hc => ?_) fun hc => ?_
  · have hc : t.2.2 < light.length := of_decide_eq_true hc
    have ht := t1.ok hr (by omega); have hht := t1.hi
    have hv := hl _ (gt_mem light t.2.2 ⟨t2, hc⟩)
    generalize gt ([0, 3, 30, 200] : List Int) r.1 = most at *
    rw [w6_in (n := most + 1) (by omega), w6_in (n := t.2.2 + 1) (by omega)]
    refine Has.chk ⟨t2, hc⟩ ((next_ok t.1 (most + 1) ht (by omega) (by omega)).bind fun a ⟨a1, a2, a3⟩ => ?_)
    have hA := a3.ok ht (by omega); have hha := a3.hi
    refine (next_ok a.2 (most + 1) hA (by omega) (by omega)).bind fun b ⟨b1, b2, b3⟩ => ?_
    have hB := b3.ok hA (by omega); have hhb := b3.hi
    rw [w6_in (n := gt light t.2.2 - a.1) (by omega), w6_in (n := gt light t.2.2 + b.1) (by omega)]
    refine Has.bind (P := fun z : spymake_Stream × Bool => after b.2 z.1 1 ∧ (holes = false → z.2 = false)) ?_ fun z ⟨z1, z2⟩ => ?_
    · refine Has.ite (fun hx => ?_) fun hx => Has.ret ⟨(after.refl _).more (by omega), fun _ => rfl⟩
      exact (next_ok b.2 9 hB (by omega) (by omega)).bind fun c ⟨c1, c2, c3⟩ => Has.ret ⟨c3, fun e => by rw [e] at hx; cases hx⟩
    have af : after r.2 z.1 (3 * (t.2.2 + 1)) := (((t1.trans a3).trans b3).trans z1).more (by omega)
    refine Has.ite (fun hz => ?_) fun hz => ?_
    · refine Has.chk (roomyI (by simp; omega) (by simp; omega)) (Has.ret (.next ⟨af, by simp only []; omega, by simp only []; omega, by simp; omega, allI_snoc t5 ⟨.inl rfl, fun e => ?_⟩⟩ (by simp only []; omega)))
      rw [z2 e] at hz; cases hz
    · refine Has.chk (roomyI (by simp; omega) (by simp; omega)) (Has.ret (.next ⟨af, by simp only []; omega, by simp only []; omega, by simp; omega, allI_snoc t5 ⟨.inr ⟨rfl, ?_⟩, fun _ => rfl⟩⟩ (by simp only []; omega)))
      rw [t4]
      simp only []
      omega
  · have hc : ¬ t.2.2 < light.length := fun q => hc (decide_eq_true q)
    have e : t.2.2 = light.length := by omega
    rw [e] at t1 t4
    exact Has.ret (.done ⟨t1, by simp only []; omega, t5⟩)
theorem veils.ok {v : Int} {b : Bound} (h : veils v b) (h1 : -1000000000000 ≤ v) (h2 : v ≤ 1000000000000) : b.ok ∧ -1099511627776 ≤ b.Lo ∧ b.Hi ≤ 1099511627776 := by
  rcases h with rfl | ⟨u, a, b', c, d⟩
  · exact ⟨okNone, by decide, by decide⟩
  · exact ⟨⟨(fun e => by rw [u] at e; cases e), by omega, by omega, by omega⟩, by omega, by omega⟩
end Lf
/- Levels that are drawn. -/
namespace Lf
open Go Go.Abs
set_option linter.unusedVariables false
set_option linter.unusedSimpArgs false
theorem level_ok (s : spymake_Stream) (back : Int) (hs : okS s) (ha : s.at_ ≤ 4611686018427000000) (hb : 0 ≤ back ∧ back ≤ 1000000000) : Has (Stream_Level s back) fun r => r.1.Unknown = false ∧ back - 5 ≤ r.1.Lo ∧ r.1.Lo ≤ back ∧ back ≤ r.1.Hi ∧ r.1.Hi ≤ back + 5 ∧ after s r.2 2 := by
  unfold Stream_Level
  refine (next_ok s 6 hs (by omega) (by omega)).bind fun a ⟨a1, a2, a3⟩ => ?_
  have hA := a3.ok hs (by omega); have hhA := a3.hi
  refine (next_ok a.2 6 hA (by omega) (by omega)).bind fun b ⟨b1, b2, b3⟩ => ?_
  rw [w6_in (by omega), w6_in (by omega)]
  exact Has.ret ⟨rfl, by simp only []; omega, by simp only []; omega, by simp only []; omega, by simp only []; omega, (a3.trans b3).more (by omega)⟩
end Lf
/- MeasureSharper: with narrower bounds, and a narrower level, the results lie within those of wider ones. -/
namespace Lf
open Go Go.Abs
set_option linter.unusedVariables false
set_option linter.unusedSimpArgs false
theorem weighedFact : spykeep4_weighed = some true := by kernel_rfl
theorem in_ok {b a : Bound} (h : a.Unknown = true ∨ (b.Unknown = false ∧ a.Lo ≤ b.Lo ∧ b.Hi ≤ a.Hi)) : spykeep4_MeasureSharper_1 b a = some true := by
  unfold spykeep4_MeasureSharper_1
  rcases h with h | ⟨u, g1, g2⟩
  · rw [h]; rfl
  · cases a.Unknown <;> simp [u, g1, g2]
/-- A bound that is made narrower around a light. -/
def closer (v : Int) (b : Bound) : Bound := ⟨v - Int.tdiv (v - b.Lo) 2, v + Int.tdiv (b.Hi - v) 2, false⟩
theorem closer_bd {v : Int} {b : Bound} (h1 : b.Lo ≤ v) (h2 : v ≤ b.Hi) : b.Lo ≤ (closer v b).Lo ∧ (closer v b).Lo ≤ v ∧ v ≤ (closer v b).Hi ∧ (closer v b).Hi ≤ b.Hi := by
  unfold closer
  simp only []
  rw [Int.tdiv_eq_ediv_of_nonneg (show 0 ≤ v - b.Lo by omega), Int.tdiv_eq_ediv_of_nonneg (show 0 ≤ b.Hi - v by omega)]
  omega
theorem MeasureSharper_true (l : List Int) (hl : okL l) : spykeep4_MeasureSharper l = some true := by
  apply Has.val
  have h0 := okS.start hl
  unfold spykeep4_MeasureSharper
  refine (range_ok _ 0 2 h0 (by simp only []; omega) (by omega) (by omega) (by omega)).bind fun r1 ⟨e0, e1, s1⟩ => ?_
  have o1 := s1.ok h0 (by simp only []; omega); have b1 := s1.hi
  rw [w6_in (n := 2 * r1.1) (by omega), w6_in (n := 2 * r1.1 + 1) (by omega)]
  refine (range_ok _ _ 7 o1 (by simp only [] at b1; omega) (by omega) (by omega) (by omega)).bind fun r2 ⟨w0, w1, s2⟩ => ?_
  have o2 := s2.ok o1 (by simp only [] at b1; omega); have b2 := s2.hi
  refine (range_ok _ _ 7 o2 (by simp only [] at b1; omega) (by omega) (by omega) (by omega)).bind fun r3 ⟨g0, g1, s3⟩ => ?_
  have o3 := s3.ok o2 (by simp only [] at b1; omega); have b3 := s3.hi
  refine (range_ok _ 1 3 o3 (by simp only [] at b1; omega) (by omega) (by omega) (by omega)).bind fun r4 ⟨k0, k1, s4⟩ => ?_
  have o4 := s4.ok o3 (by simp only [] at b1; omega); have b4 := s4.hi
  refine (lights_ok _ r2.1 r3.1 r4.1 o4 (by simp only [] at b1; omega) (by omega) (by omega) (by omega) (by omega) (by omega) (by omega)).bind fun r5 ⟨v1, v2, v3, s5⟩ => ?_
  have o5 := s5.ok o4 (by simp only [] at b1; omega); have b5 := s5.hi
  have hA := area (show 1 ≤ r2.1 by omega) (show r2.1 ≤ 32 by omega) (show 1 ≤ r3.1 by omega) (show r3.1 ≤ 32 by omega)
  have vl := v1.len
  have vb : ∀ z ∈ r5.1, r5.2.1 ≤ z ∧ z ≤ 15036 := fun z hz => by have := v1.v z hz; omega
  refine (veil_ok _ r2.1 r3.1 r5.1 false o5 (by simp only [] at b1; omega) (by omega) (fun z hz => by have := vb z hz; omega)).bind fun r6 ⟨a1, a2, a3, a4, s6⟩ => ?_
  have o6 := s6.ok o5 (by simp only [] at b1; omega); have b6 := s6.hi
  refine (level_ok _ r5.2.1 o6 (by simp only [] at b1; omega) (by omega)).bind fun r7 ⟨l1, l2, l3, l4, l5, s7⟩ => ?_
  have o7 := s7.ok o6 (by simp only [] at b1; omega); have b7 := s7.hi
  have cell : ∀ i : Int, 0 ≤ i → i < r6.1.At.length → (gt r6.1.At i).Unknown = false ∧ -1000 ≤ (gt r6.1.At i).Lo ∧ (gt r6.1.At i).Lo ≤ gt r5.1 i ∧ gt r5.1 i ≤ (gt r6.1.At i).Hi ∧ (gt r6.1.At i).Hi ≤ 16000 ∧ r5.2.1 ≤ gt r5.1 i ∧ gt r5.1 i ≤ 15036 := fun i i0 i1 => by
    have q := vb _ (gt_mem r5.1 i ⟨i0, by omega⟩)
    obtain ⟨p, u⟩ := a4 i i0 i1
    rcases p with e | ⟨_, p⟩
    · have := u rfl; rw [e] at this; cases this
    · exact ⟨u rfl, by omega, by omega, by omega, by omega, by omega, by omega⟩
  have cellM := fun (R : Bound → Prop) (h : ∀ i : Int, 0 ≤ i → i < r6.1.At.length → R (gt r6.1.At i)) => allI_mem (R := R) (xs := r6.1.At) h
  -- the narrower field
  refine Has.bind (P := fun z : List Bound => z.length = r6.1.At.length ∧ allI z fun i b => b = closer (gt r5.1 i) (gt r6.1.At i)) ?_ fun z9 ⟨z1, z2⟩ => ?_
  · refine Has.loop (fun t : List Bound × Int => 0 ≤ t.2 ∧ t.2 ≤ r6.1.At.length ∧ (t.1.length : Int) = t.2 ∧ allI t.1 fun i b => b = closer (gt r5.1 i) (gt r6.1.At i)) (fun t => (r6.1.At.length - t.2).toNat) _ ⟨Int.le_refl _, by simp only []; omega, rfl, allI_nil⟩ (by simp only []; omega) fun t ⟨t0, t1, t2, t3⟩ => ?_
    unfold spykeep4_MeasureSharper.l1
    refine Has.ite (fun hi => ?_) fun hi => ?_
    · have hi : t.2 < r6.1.At.length := of_decide_eq_true hi
      have q := cell t.2 t0 hi
      have cb := closer_bd (v := gt r5.1 t.2) (b := gt r6.1.At t.2) (by omega) (by omega)
      have ec : closer (gt r5.1 t.2) (gt r6.1.At t.2) = ⟨gt r5.1 t.2 - Int.tdiv (gt r5.1 t.2 - (gt r6.1.At t.2).Lo) 2, gt r5.1 t.2 + Int.tdiv ((gt r6.1.At t.2).Hi - gt r5.1 t.2) 2, false⟩ := rfl
      rw [ec] at cb
      simp only [] at cb
      rw [w6_in (n := gt r5.1 t.2 - (gt r6.1.At t.2).Lo) (by omega), w6_in (n := Int.tdiv (gt r5.1 t.2 - (gt r6.1.At t.2).Lo) 2) (by omega), w6_in (n := gt r5.1 t.2 - Int.tdiv (gt r5.1 t.2 - (gt r6.1.At t.2).Lo) 2) (by omega), w6_in (n := (gt r6.1.At t.2).Hi - gt r5.1 t.2) (by omega), w6_in (n := Int.tdiv ((gt r6.1.At t.2).Hi - gt r5.1 t.2) 2) (by omega), w6_in (n := gt r5.1 t.2 + Int.tdiv ((gt r6.1.At t.2).Hi - gt r5.1 t.2) 2) (by omega), w6_in (n := t.2 + 1) (by omega)]
      refine Has.chk ⟨t0, hi⟩ (Has.chk ⟨t0, by omega⟩ (Has.letF (Has.letF (Has.chk (roomyI (by simp; omega) (by simp; omega)) (Has.ret (.next ⟨by simp only []; omega, by simp only []; omega, by simp; omega, allI_snoc t3 ?_⟩ (by simp only []; omega)))))))
      rw [t2]; exact ec.symm
    · have hi : ¬ t.2 < r6.1.At.length := fun x => hi (decide_eq_true x)
      exact Has.ret (.done ⟨by omega, t3⟩)
  rw [w6_in (n := r3.1 - 1) (by omega), w6_in (n := r3.1 - 1 - r1.1) (by omega), w6_in (n := r2.1 - 1) (by omega), w6_in (n := r2.1 - 1 - r1.1) (by omega)]
  refine (range_ok _ _ _ o7 (by simp only [] at b1; omega) (by omega) (by omega) (by omega)).bind fun r8 ⟨y0, y1, s8⟩ => ?_
  have o8 := s8.ok o7 (by simp only [] at b1; omega); have b8 := s8.hi
  refine (range_ok _ _ _ o8 (by simp only [] at b1; omega) (by omega) (by omega) (by omega)).bind fun r9 ⟨x0, x1, s9⟩ => ?_
  have fc : okF r6.1 := ⟨by omega, by omega, by omega, by omega, by rw [a3, vl, a1, a2], cellM _ fun i i0 i1 => by
    obtain ⟨u, p⟩ := cell i i0 i1
    exact ⟨⟨fun e => (by rw [u] at e; cases e), by omega, by omega, by omega⟩, by omega, by omega⟩⟩
  have hk : ∀ b ∈ r6.1.At, b.Unknown = false := cellM _ fun i i0 i1 => (cell i i0 i1).1
  have celd : ∀ i : Int, 0 ≤ i → i < z9.length → (gt z9 i).Unknown = false ∧ (gt r6.1.At i).Lo ≤ (gt z9 i).Lo ∧ (gt z9 i).Lo ≤ gt r5.1 i ∧ gt r5.1 i ≤ (gt z9 i).Hi ∧ (gt z9 i).Hi ≤ (gt r6.1.At i).Hi := fun i i0 i1 => by
    have q := cell i i0 (by omega)
    have cb := closer_bd (v := gt r5.1 i) (b := gt r6.1.At i) (by omega) (by omega)
    rw [z2 i i0 i1]
    exact ⟨rfl, cb⟩
  generalize hd : Cells.mk r2.1 r3.1 z9 = d
  have dw : d.W = r2.1 := by rw [← hd]
  have dh : d.H = r3.1 := by rw [← hd]
  have da : d.At = z9 := by rw [← hd]
  have celM2 := fun (R : Bound → Prop) (h : ∀ i : Int, 0 ≤ i → i < z9.length → R (gt z9 i)) => allI_mem (R := R) (xs := z9) h
  have fd : okF d := ⟨by omega, by omega, by omega, by omega, by rw [da, z1, a3, vl, dw, dh], by
    rw [da]
    exact celM2 _ fun i i0 i1 => by
      have p := cell i i0 (by omega)
      obtain ⟨u, q⟩ := celd i i0 i1
      exact ⟨⟨fun e => (by rw [u] at e; cases e), by omega, by omega, by omega⟩, by omega, by omega⟩⟩
  have hkd : ∀ b ∈ d.At, b.Unknown = false := by rw [da]; exact celM2 _ fun i i0 i1 => (celd i i0 i1).1
  generalize hlv : Bound.mk (mn2 r7.1.Lo r5.2.1) (mx2 r7.1.Hi r5.2.1) r7.1.Unknown = lv
  have elv : lv.Unknown = false ∧ r5.2.1 - 5 ≤ lv.Lo ∧ lv.Lo ≤ r5.2.1 ∧ r5.2.1 ≤ lv.Hi ∧ lv.Hi ≤ r5.2.1 + 5 := by
    rw [← hlv]
    simp only []
    rw [mn2_min, mx2_max]
    exact ⟨l1, by omega, by omega, by omega, by omega⟩
  have lvo : lvl lv := ⟨elv.1, by omega, by omega, by omega⟩
  have lvn : lvl ⟨r5.2.1, r5.2.1, false⟩ := ⟨rfl, by simp only []; omega, Int.le_refl _, by simp only []; omega⟩
  have hh : ∀ b ∈ r6.1.At, lv.Lo ≤ b.Hi := cellM _ fun i i0 i1 => by have := cell i i0 i1; omega
  have hhd : ∀ b ∈ d.At, (Bound.mk r5.2.1 r5.2.1 false).Lo ≤ b.Hi := by
    rw [da]; exact celM2 _ fun i i0 i1 => by have := cell i i0 (by omega); have := celd i i0 i1; simp only []; omega
  have pw : 0 ≤ r8.1 * r2.1 := Int.mul_nonneg (by omega) (by omega)
  have pw2 : r8.1 * r2.1 + r2.1 ≤ r2.1 * r3.1 := by
    have := Int.mul_le_mul_of_nonneg_right (show r8.1 + 1 ≤ r3.1 by omega) (show 0 ≤ r2.1 by omega)
    rw [Int.add_mul, Int.one_mul, Int.mul_comm r3.1] at this; exact this
  rw [w6_in (n := r8.1 * r2.1) (by omega), w6_in (n := r8.1 * r2.1 + r9.1) (by omega)]
  generalize hp : r8.1 * r2.1 + r9.1 = p at *
  obtain ⟨pd, pm⟩ := (Int.ediv_emod_unique (show 0 < r2.1 by omega) (a := p) (q := r8.1) (r := r9.1)).2 ⟨by rw [Int.mul_comm]; omega, by omega, by omega⟩
  have wc : r1.1 ≤ (Source_.mk p []).Peak % r6.1.W ∧ (Source_.mk p []).Peak % r6.1.W + r1.1 < r6.1.W ∧ r1.1 ≤ (Source_.mk p []).Peak / r6.1.W ∧ (Source_.mk p []).Peak / r6.1.W + r1.1 < r6.1.H := by simp only [a1, a2, pd, pm]; omega
  have wd : r1.1 ≤ (Source_.mk p []).Peak % d.W ∧ (Source_.mk p []).Peak % d.W + r1.1 < d.W ∧ r1.1 ≤ (Source_.mk p []).Peak / d.W ∧ (Source_.mk p []).Peak / d.W + r1.1 < d.H := by simp only [dw, dh, pd, pm]; omega
  have pc : (Source_.mk p []).Peak < r6.1.At.length := by simp only []; omega
  have pd2 : (Source_.mk p []).Peak < d.At.length := by rw [da]; simp only []; omega
  refine (measure_ok (s := Source_.mk p []) (r := r1.1) fc hk lvo hh (by simp only []; omega) pc (by omega) (by omega) wc).bind fun m ⟨m1, cs, v, xs, ys, c1, win, m2, xl, xa, yl, ya, ox, oy, mx, my⟩ => ?_
  refine (measure_ok (s := Source_.mk p []) (r := r1.1) fd hkd lvn hhd (by simp only []; omega) pd2 (by omega) (by omega) wd).bind fun m' ⟨m1', cs', v', xs', ys', c1', win', m2', xl', xa', yl', ya', ox', oy', mx', my'⟩ => ?_
  refine (sharp_ok (s := Source_.mk p []) (r := r1.1) fc hk lvo hh (by simp only []; omega) pc (by omega) (by omega) wc).bind fun q ⟨q1, cs2, nr, v2, d1, d2, win2, sh⟩ => ?_
  refine (sharp_ok (s := Source_.mk p []) (r := r1.1) fd hkd lvn hhd (by simp only []; omega) pd2 (by omega) (by omega) wd).bind fun q' ⟨q1', cs2', nr', v2', d1', d2', win2', sh'⟩ => ?_
  -- all windows have the same cells
  have ec : cs' = cs := by rw [dw, dh, ← a1, ← a2, c1] at c1'; exact (Option.some.inj c1').symm
  have ec2 : cs2 = cs := by rw [c1] at d1; exact (Option.some.inj d1).symm
  have ec3 : cs2' = cs := by rw [dw, dh, ← a1, ← a2, c1] at d1'; exact (Option.some.inj d1').symm
  have en : nr' = nr := by rw [dw, dh, ← a1, ← a2, d2] at d2'; exact (Option.some.inj d2').symm
  subst ec; subst ec2; subst ec3; subst en
  have ev : v2 = v := gt_ext (by rw [win2.len, win.len]) fun i i0 i1 => by rw [win2.v i i0 i1, win.v i i0 (by rw [win.len, ← win2.len]; exact i1)]
  have ev' : v2' = v' := gt_ext (by rw [win2'.len, win'.len]) fun i i0 i1 => by rw [win2'.v i i0 i1, win'.v i i0 (by rw [win'.len, ← win2'.len]; exact i1)]
  subst ev; subst ev'
  have wi : within v2' v2 := ⟨by rw [win'.len, win.len], fun k k0 k1 => by
    have lk := win.len
    obtain ⟨i0, i1⟩ := win.cl.rng k k0 (by omega)
    have p1 := cell _ i0 i1
    have p2 := celd _ i0 (by omega)
    have e1 : gt v2 k = aboveB (gt r6.1.At (gt cs2' k)) lv := win.v k k0 k1
    have e2 : gt v2' k = aboveB (gt d.At (gt cs2' k)) ⟨r5.2.1, r5.2.1, false⟩ := win'.v k k0 (by rw [win'.len]; omega)
    rw [e1, e2, da]
    unfold aboveB
    simp only []
    omega⟩
  have exs : xs' = xs := gt_ext (by rw [xl, xl']) fun i i0 i1 => by rw [xa' i i0 i1, xa i i0 (by rw [xl, ← xl']; exact i1), dw, a1]
  have eys : ys' = ys := gt_ext (by rw [yl, yl']) fun i i0 i1 => by rw [ya' i i0 i1, ya i i0 (by rw [yl, ← yl']; exact i1), dw, a1]
  have gx := mean_mono exs ox ox' wi mx mx'
  have gy := mean_mono eys oy oy' wi my my'
  obtain ⟨f1, f2⟩ := sums_mono wi
  have vb1 : ∀ n : Nat, n ≤ v2.length → _ := sel_bd (N := nearN nr' cs2') (allI_mono (win.all fc hk lvo) fun k b _ _ ⟨_, _, a, b, c⟩ => ⟨a, b, c⟩)
  have vb2 : ∀ n : Nat, n ≤ v2.length → _ := sel_bd (N := fun k => !nearN nr' cs2' k) (allI_mono (win.all fc hk lvo) fun k b _ _ ⟨_, _, a, b, c⟩ => ⟨a, b, c⟩)
  have vb3 : ∀ n : Nat, n ≤ v2'.length → _ := sel_bd (N := nearN nr' cs2') (allI_mono (win'.all fd hkd lvn) fun k b _ _ ⟨_, _, a, b, c⟩ => ⟨a, b, c⟩)
  have vb4 : ∀ n : Nat, n ≤ v2'.length → _ := sel_bd (N := fun k => !nearN nr' cs2' k) (allI_mono (win'.all fd hkd lvn) fun k b _ _ ⟨_, _, a, b, c⟩ => ⟨a, b, c⟩)
  have n1 := vb1 v2.length (Nat.le_refl _)
  have n2 := vb2 v2.length (Nat.le_refl _)
  have n3 := vb3 v2'.length (Nat.le_refl _)
  have n4 := vb4 v2'.length (Nat.le_refl _)
  have sm1 := sel_mono (N := nearN nr' cs2') wi
  have sm2 := sel_mono (N := fun k => !nearN nr' cs2' k) wi
  have gs := share_mono sh sh' n1.1 n2.1 sm1.1 n3.2.1 sm1.2 sm2.1 n4.2.1 sm2.2
  rw [weighedFact, m1, m1', q1, q1', in_ok gx, in_ok gy, m2, m2']
  simp only [Option.bind_some, Bool.not_true, Bool.false_eq_true, if_false, bne_self_eq_false, if_true, f1, f2, decide_true]
  rcases gs with gs | ⟨g1, g2, g3⟩
  · rw [gs]; exact Has.ret rfl
  · cases hu : q.1.Unknown with
    | true => exact Has.ret rfl
    | false => simp only [g1, g2, g3, decide_true, Bool.not_false, if_true, Bool.false_eq_true, if_false]; exact Has.ret rfl
end Lf
