/- Each function of the program computes its plain function. Conditions: as each theorem states them. -/
import Derived.Test.YtadepbpacnhjaaaA4
import Derived.WalkKit
import Derived.KernelRfl
import Derived.Deep.RegionLaw
import Derived.Deep.RegionHeld3
import Derived.BigRegionIn
import Derived.RangeFuncLeaves
import Derived.RangeFuncNested
import Derived.RangeFuncBound
import Derived.RangeFuncCalls
import Derived.OwnWalkIn
import Derived.TacticsInMore
import Derived.LoopNIn
import Derived.LoopIn
import Derived.OrdersHeld
import Derived.OrdersIn
import Derived.Test.YtadepbpacnhjaaaT
namespace Go.Proofs.Crs
open Go Go.Abs Lf
set_option linter.unusedVariables false
set_option linter.unusedSimpArgs false
set_option maxRecDepth 100000
set_option maxHeartbeats 1000000
section
open Go.RowKit Go.Shelf
attribute [local go_sem] Oper.semAt_some
/-- A row of steps in a block. -/
def RowS (W : World) (g : Nat) (cap : Nat) (xs : List HpSt) : Prop :=
  ∃ cur : Array Value, W.heap[g]? = some (.cells cur 127 (0, 0)) ∧ xs.length ≤ cap ∧ cap ≤ maxLen ∧ cur.size = cap * 2 ∧ ∀ k, k < xs.length → cur[k * 2]? = some (.int .i64 (atS xs k).1) ∧ cur[k * 2 + 1]? = some (.int .i64 (atS xs k).2)
theorem RowS.at {W : World} {g cap : Nat} {xs : List HpSt} (h : RowS W g cap xs) (k : Nat) (hk : k < xs.length) : W.cell? ⟨g, k * 2, none⟩ = some (.int .i64 (atS xs k).1) ∧ W.cell? ⟨g, k * 2 + 1, none⟩ = some (.int .i64 (atS xs k).2) ∧ W.frozen? ⟨g, k * 2, none⟩ = false ∧ W.frozen? ⟨g, k * 2 + 1, none⟩ = false := by
  obtain ⟨cur, h1, _, _, _, h2⟩ := h
  obtain ⟨a, b⟩ := h2 k hk
  exact ⟨(cel_get h1 _ a).1, (cel_get h1 _ b).1, (cel_get h1 _ a).2, (cel_get h1 _ b).2⟩
theorem RowS.drew {W : World} {g cap : Nat} {xs : List HpSt} (h : RowS W g cap xs) : RowS W.drew g cap xs := h
theorem RowS.lt {W : World} {g cap : Nat} {xs : List HpSt} (h : RowS W g cap xs) : g < W.heap.size := by
  obtain ⟨cur, h1, _⟩ := h; exact blk_lt h1
theorem RowS.set2 {W : World} {g cap : Nat} {xs : List HpSt} (h : RowS W g cap xs) (k : Nat) (hk : k < xs.length) (a b : Int) : RowS ((W.setCell ⟨g, k * 2, none⟩ (.int .i64 a)).setCell ⟨g, k * 2 + 1, none⟩ (.int .i64 b)) g cap (xs.set k (a, b)) := by
  obtain ⟨cur, h1, h2, h3, h4, h5⟩ := h
  refine ⟨_, blk_set (blk_set h1 (k * 2) _) (k * 2 + 1) _, by simpa using h2, h3, by simpa using h4, fun m hm => ?_⟩
  have hm : m < xs.length := by simpa using hm
  obtain ⟨c0, c1⟩ := h5 m hm
  have s0 := (Array.getElem?_eq_some_iff.1 c0).1
  have s1 := (Array.getElem?_eq_some_iff.1 c1).1
  by_cases e : m = k
  · subst e
    have e1 : atS (xs.set m (a, b)) m = (a, b) := by unfold atS; rw [List.getD_eq_getElem?_getD, List.getElem?_set_self hk]; rfl
    rw [e1]
    constructor
    · rw [Array.getElem?_setIfInBounds_ne (by omega), Array.getElem?_setIfInBounds_self_of_lt s0]
    · rw [Array.getElem?_setIfInBounds_self_of_lt (by simpa using s1)]
  · have e1 : atS (xs.set k (a, b)) m = atS xs m := by unfold atS; rw [List.getD_eq_getElem?_getD, List.getElem?_set_ne (fun q => e q.symm), ← List.getD_eq_getElem?_getD]
    rw [e1]
    exact ⟨by rw [Array.getElem?_setIfInBounds_ne (by omega), Array.getElem?_setIfInBounds_ne (by omega)]; exact c0, by rw [Array.getElem?_setIfInBounds_ne (by omega), Array.getElem?_setIfInBounds_ne (by omega)]; exact c1⟩
theorem grownBy_set (W : World) (g : Nat) (p : Addr) (hp : p.block = g) (u : Value) : W.grownBy (W.setCell p u) (some g) :=
  ⟨rfl, rfl, rfl, by simp, fun k hk hr => Below.heap_setCell W p u k (fun e => hr (by rw [e, hp]))⟩
theorem grownBy_drew (W : World) (r : Option Nat) : W.grownBy W.drew r := ⟨rfl, rfl, rfl, Nat.le_refl _, fun _ _ _ => rfl⟩
theorem RowS.sw {W : World} {g cap : Nat} {xs : List HpSt} (h : RowS W g cap xs) {i j : Nat} (hi : i < xs.length) (hj : j < xs.length) :
    RowS ((((W.setCell ⟨g, i * 2, none⟩ (.int .i64 (atS xs j).1)).setCell ⟨g, i * 2 + 1, none⟩ (.int .i64 (atS xs j).2)).setCell ⟨g, j * 2, none⟩ (.int .i64 (atS xs i).1)).setCell ⟨g, j * 2 + 1, none⟩ (.int .i64 (atS xs i).2)) g cap (swS xs i j) ∧
    W.grownBy ((((W.setCell ⟨g, i * 2, none⟩ (.int .i64 (atS xs j).1)).setCell ⟨g, i * 2 + 1, none⟩ (.int .i64 (atS xs j).2)).setCell ⟨g, j * 2, none⟩ (.int .i64 (atS xs i).1)).setCell ⟨g, j * 2 + 1, none⟩ (.int .i64 (atS xs i).2)) (some g) :=
  ⟨(h.set2 i hi _ _).set2 j (by simpa using hj) _ _, ((grownBy_set W g ⟨g, i * 2, none⟩ rfl _).trans (grownBy_set _ g ⟨g, i * 2 + 1, none⟩ rfl _)).trans ((grownBy_set _ g ⟨g, j * 2, none⟩ rfl _).trans (grownBy_set _ g ⟨g, j * 2 + 1, none⟩ rfl _))⟩
theorem swap_raw (W : World) (g cap : Nat) (xs : List HpSt) (h : RowS W g cap xs) (i j : Nat) (hi : i < xs.length) (hj : j < xs.length) :
    Calls Try.prog 117 #[.slice (some ⟨g, 0, none⟩) xs.length cap, .int .i64 i, .int .i64 j] W fun e W' => e = .returned (.tuple #[]) ∧ RowS W' g cap (swS xs i j) ∧ W.grownBy W' (some g) := by
  obtain ⟨a0, a1, a2, a3⟩ := h.at i hi
  obtain ⟨b0, b1, b2, b3⟩ := h.at j hj
  have HR := Lib.hid h
  clear h
  by_cases hij : i = j
  · subst hij
    go_enter Try.func117, Try.ntmps117
    go_wp2
    go_region
    go_end0
    exact ⟨rfl, (HR.out.sw hi hi).1, (HR.out.sw hi hi).2.trans (grownBy_drew _ _)⟩
  · go_enter Try.func117, Try.ntmps117
    go_wp2
    go_region
    go_end0
    exact ⟨rfl, (HR.out.sw hi hj).1, (HR.out.sw hi hj).2.trans (grownBy_drew _ _)⟩
theorem less_raw (W : World) (g cap : Nat) (xs : List HpSt) (h : RowS W g cap xs) (i j : Nat) (hi : i < xs.length) (hj : j < xs.length) :
    Calls Try.prog 114 #[.slice (some ⟨g, 0, none⟩) xs.length cap, .int .i64 i, .int .i64 j] W fun e W' => e = .returned (.bool (decide ((atS xs j).2 < (atS xs i).2))) ∧ W' = W.drew := by
  obtain ⟨a0, a1, a2, a3⟩ := h.at i hi
  obtain ⟨b0, b1, b2, b3⟩ := h.at j hj
  clear h
  go_enter Try.func114, Try.ntmps114
  go_wp2
  go_region
  go_wp2
  go_ret
  exact ⟨rfl, rfl⟩
theorem len_raw (W : World) (g cap n : Nat) :
    Calls Try.prog 62 #[.slice (some ⟨g, 0, none⟩) n cap] W fun e W' => e = .returned (.int .i64 n) ∧ W' = W := by
  go_enter Try.func62, Try.ntmps62
  go_wp2
  go_ret
  exact ⟨rfl, rfl⟩
theorem run_wrapNil {P : Program} {w : World} (xt : TypeId) (a : Addr) (s t : String) : (Builtin.ssaWrapNilChk_ #[xt] xt #[.pointer (some a), strVal s, strVal t]).run P w = .ok (.pointer (some a)) w := rfl
theorem meth_val {P : Program} {T E : TypeId} {name : String} {f : Nat} {d : TypeDesc} (ht : ((P.info? T).bind fun i => (i.methods.find? (·.name == name)).map fun m => (m.path, m.func)) = some (#[], some (f, false))) (hu : P.underlying T = some (.pointer E)) (hE : P.underlying E = some d) (hd : (match d with | .struct _ | .array _ _ => true | _ => false) = false)
    (w : World) (b : Nat) (v : Value) (h : w.cell? ⟨b, 0, none⟩ = some v) (n : Nat) : (method (n + 1) T (.pointer (some ⟨b, 0, none⟩)) name).run P w = .ok (f, v) w := by
  obtain ⟨i, hi, hm⟩ := Option.bind_eq_some_iff.1 ht
  obtain ⟨m, hm, he⟩ := Option.map_eq_some_iff.1 hm
  obtain ⟨nm, sg, pt, fn⟩ := m
  simp only [Prod.mk.injEq] at he
  obtain ⟨rfl, rfl⟩ := he
  have ha := run_isAgg_plain (P := P) hE hd w
  simp [method, typeInfo, hi, hm, follow, receiverAt, Place.get, run_underlying hu, run_wrapNil, loadVar, asAddr, ha, h]
theorem meth_ptr {P : Program} {T E : TypeId} {name : String} {f : Nat} (ht : ((P.info? T).bind fun i => (i.methods.find? (·.name == name)).map fun m => (m.path, m.func)) = some (#[], some (f, true))) (hu : P.underlying T = some (.pointer E))
    (w : World) (v : Value) (n : Nat) : (method (n + 1) T v name).run P w = .ok (f, v) w := by
  obtain ⟨i, hi, hm⟩ := Option.bind_eq_some_iff.1 ht
  obtain ⟨m, hm, he⟩ := Option.map_eq_some_iff.1 hm
  obtain ⟨nm, sg, pt, fn⟩ := m
  simp only [Prod.mk.injEq] at he
  obtain ⟨rfl, rfl⟩ := he
  simp [method, typeInfo, hi, hm, follow, receiverAt, Place.get, run_underlying hu]
theorem meth_less (w : World) (b : Nat) (v : Value) (h : w.cell? ⟨b, 0, none⟩ = some v) : Sem.run Try.prog (method 289 124 (.pointer (some ⟨b, 0, none⟩)) "Less") w = .ok (114, v) w :=
  meth_val (E := 129) (by kernel_rfl) Try.underlying124 Try.underlying129 rfl w b v h _
theorem meth_swap (w : World) (b : Nat) (v : Value) (h : w.cell? ⟨b, 0, none⟩ = some v) : Sem.run Try.prog (method 289 124 (.pointer (some ⟨b, 0, none⟩)) "Swap") w = .ok (117, v) w :=
  meth_val (E := 129) (by kernel_rfl) Try.underlying124 Try.underlying129 rfl w b v h _
theorem meth_len (w : World) (b : Nat) (v : Value) (h : w.cell? ⟨b, 0, none⟩ = some v) : Sem.run Try.prog (method 289 124 (.pointer (some ⟨b, 0, none⟩)) "Len") w = .ok (62, v) w :=
  meth_val (E := 129) (by kernel_rfl) Try.underlying124 Try.underlying129 rfl w b v h _
theorem meth_push (w : World) (v : Value) : Sem.run Try.prog (method 289 124 v "Push") w = .ok (116, v) w :=
  meth_ptr (E := 129) (by kernel_rfl) Try.underlying124 w v _
theorem meth_pop (w : World) (v : Value) : Sem.run Try.prog (method 289 124 v "Pop") w = .ok (115, v) w :=
  meth_ptr (E := 129) (by kernel_rfl) Try.underlying124 w v _
theorem swS_len (xs : List HpSt) (i j : Nat) : (swS xs i j).length = xs.length := by unfold swS; simp
theorem up_raw (W : World) (b g cap : Nat) (xs : List HpSt) (hb : W.heap[b]? = some (.cells #[.slice (some ⟨g, 0, none⟩) xs.length cap] 129 (0, 0))) (hbg : b ≠ g) (h : RowS W g cap xs) (j0 : Nat) (hj0 : j0 < xs.length) (hlen : xs.length < 4611686018427387904) :
    Calls Try.prog 73 #[.iface 124 (.pointer (some ⟨b, 0, none⟩)), .int .i64 j0] W fun e W' => e = .returned (.tuple #[]) ∧ RowS W' g cap (upS (j0 + 1) xs j0) ∧ W.grownBy W' (some g) := by
  have eL := enters_of Try.func114 (by kernel_rfl) rfl
  have eS := enters_of Try.func117 (by kernel_rfl) rfl
  go_enter Try.func73, Try.ntmps73
  go_wp2
  go_loopw [1] (fun vj wr => ∃ (j f : Nat) (ys : List HpSt), vj = .int .i64 j ∧ j < ys.length ∧ ys.length = xs.length ∧ j < f ∧ upS f ys j = upS (j0 + 1) xs j0 ∧ RowS wr g cap ys ∧ W.grownBy wr (some g)) (fun vj _ => (intOf vj).toNat)
  case atStart => exact ⟨j0, j0 + 1, xs, rfl, hj0, rfl, by omega, rfl, h, World.grownBy.refl _ _⟩
  case round =>
    obtain ⟨j, f, ys, rfl, hj, hl, hf, hU, hR, hG⟩ := hrel
    have hb' : wr.heap[b]? = some (.cells #[.slice (some ⟨g, 0, none⟩) ys.length cap] 129 (0, 0)) := by rw [hl]; exact (hG.block b (blk_lt hb) (by simpa using hbg)).trans hb
    have hc := (cel1 hb').1
    have mL := meth_less wr b _ hc
    have mS := meth_swap wr.drew b _ hc
    obtain ⟨f, rfl⟩ : ∃ f', f = f' + 1 := ⟨f - 1, by omega⟩
    rw [upS] at hU
    by_cases hz : j = 0
    · subst hz
      rw [if_pos rfl] at hU
      go_wp2
      go_end0
      exact ⟨rfl, by rw [← hU]; exact hR, hG⟩
    · rw [if_neg hz] at hU
      have e2 : (((j - 1) / 2 : Nat) : Int) = ((j : Int) - 1) / 2 := by omega
      have hLess := less_raw wr g cap ys hR j ((j - 1) / 2) hj (by omega)
      have hSw := swap_raw wr.drew g cap ys hR.drew ((j - 1) / 2) j (by omega) hj
      rw [e2] at hLess hSw
      have HR := Lib.hid hR
      have HG := Lib.hid hG
      have HL := Lib.hid hl
      have hl2 : ys.length < 4611686018427387904 := by omega
      have hz2 : 0 < j := by omega
      clear e2 hl hR hG hb hb' h
      by_cases hq : (atS ys ((j - 1) / 2)).2 < (atS ys j).2
      · rw [if_pos hq] at hU
        rw [decide_eq_true hq] at hLess
        have HU := Lib.hid hU
        clear hU hq
        go_wp2_with (first | (go_at_call 114; refine hLess.mono ?_; rintro e w1 ⟨rfl, rfl⟩) | (go_at_call 117; refine hSw.mono ?_; rintro e w1 ⟨rfl, hR1, hG1⟩; have HR1 := Lib.hid hR1; have HG1 := Lib.hid hG1; clear hR1 hG1))
        go_roundw
        case rel => exact ⟨(j - 1) / 2, f, swS ys ((j - 1) / 2) j, by congr 1; omega, by rw [swS_len]; omega, (swS_len _ _ _).trans HL.out, by omega, HU.out, HR1.out, HG.out.trans ((grownBy_drew _ _).trans HG1.out)⟩
        case measure => simp [intOf]; omega
      · rw [if_neg hq] at hU
        rw [decide_eq_false hq] at hLess
        have HU := Lib.hid hU
        clear hU hq
        go_wp2_with (go_at_call 114; refine hLess.mono ?_; rintro e w1 ⟨rfl, rfl⟩)
        go_end0
        exact ⟨rfl, by rw [← HU.out]; exact HR.out.drew, HG.out.trans (grownBy_drew _ _)⟩
theorem down_raw (W : World) (b g cap : Nat) (xs : List HpSt) (hb : W.heap[b]? = some (.cells #[.slice (some ⟨g, 0, none⟩) xs.length cap] 129 (0, 0))) (hbg : b ≠ g) (h : RowS W g cap xs) (i0 n : Nat) (hn : n ≤ xs.length) (hlen : xs.length < 1152921504606846976) (hi0 : i0 < 1152921504606846976) :
    Calls Try.prog 71 #[.iface 124 (.pointer (some ⟨b, 0, none⟩)), .int .i64 i0, .int .i64 n] W fun e W' => (∃ r, e = .returned (.bool r)) ∧ RowS W' g cap (downS (n + 1) xs i0 n) ∧ W.grownBy W' (some g) := by
  have eL := enters_of Try.func114 (by kernel_rfl) rfl
  have eS := enters_of Try.func117 (by kernel_rfl) rfl
  go_enter Try.func71, Try.ntmps71
  go_wp2
  go_loopw [7] (fun vj wr => ∃ (i f : Nat) (ys : List HpSt), vj = .int .i64 i ∧ i < 1152921504606846976 ∧ ys.length = xs.length ∧ n < f + i ∧ 0 < f ∧ downS f ys i n = downS (n + 1) xs i0 n ∧ RowS wr g cap ys ∧ W.grownBy wr (some g)) (fun vj _ => n - (intOf vj).toNat)
  case atStart => exact ⟨i0, n + 1, xs, rfl, hi0, rfl, by omega, by omega, rfl, h, World.grownBy.refl _ _⟩
  case round =>
    obtain ⟨i, f, ys, rfl, hi, hl, hf, hf0, hU, hR, hG⟩ := hrel
    have hb' : wr.heap[b]? = some (.cells #[.slice (some ⟨g, 0, none⟩) ys.length cap] 129 (0, 0)) := by rw [hl]; exact (hG.block b (blk_lt hb) (by simpa using hbg)).trans hb
    have hc := (cel1 hb').1
    obtain ⟨f, rfl⟩ : ∃ f', f = f' + 1 := ⟨f - 1, by omega⟩
    rw [downS] at hU
    have hn2 : n ≤ ys.length := by omega
    have hl2 : ys.length < 1152921504606846976 := by omega
    have HL := Lib.hid hl
    have HG := Lib.hid hG
    clear hl hG hb hb' h
    by_cases hz : n ≤ 2 * i + 1
    · rw [if_pos hz] at hU
      have HU := Lib.hid hU
      have HR := Lib.hid hR
      clear hU hR
      have hz2 : (n : Int) ≤ 2 * (i : Int) + 1 := by omega
      go_wp2
      go_ret
      exact ⟨⟨_, rfl⟩, by rw [← HU.out]; exact HR.out, HG.out⟩
    · rw [if_neg hz] at hU
      have hz2 : 2 * (i : Int) + 1 < n := by omega
      have mL := meth_less wr b _ hc
      have mS := meth_swap wr.drew b _ hc
      have mL2 := meth_less wr.drew b _ hc
      have mS2 := meth_swap wr.drew.drew b _ hc
      have p1 : ((2 * i + 1 : Nat) : Int) = 2 * (i : Int) + 1 := by omega
      have p2 : ((2 * i + 2 : Nat) : Int) = 2 * (i : Int) + 1 + 1 := by omega
      by_cases hz3 : 2 * i + 2 < n
      · have hz4 : 2 * (i : Int) + 1 + 1 < n := by omega
        have hLess := less_raw wr g cap ys hR (2 * i + 2) (2 * i + 1) (by omega) (by omega)
        by_cases hq : (atS ys (2 * i + 1)).2 < (atS ys (2 * i + 2)).2
        · rw [if_pos ⟨hz3, hq⟩] at hU
          rw [decide_eq_true hq] at hLess
          have hLess2 := less_raw wr.drew g cap ys hR.drew (2 * i + 2) i (by omega) (by omega)
          have hSw := swap_raw wr.drew.drew g cap ys hR.drew.drew i (2 * i + 2) (by omega) (by omega)
          rw [p1, p2] at hLess
          rw [p2] at hLess2 hSw
          have HR := Lib.hid hR
          by_cases hs : (atS ys i).2 < (atS ys (2 * i + 2)).2
          · rw [if_pos hs] at hU
            rw [decide_eq_true hs] at hLess2
            have HU := Lib.hid hU
            clear hU hR hq hs p1 p2 hz hz3
            go_wp2_with (first | (go_at_call 114; refine hLess.mono ?_; clear hLess; rintro e w1 ⟨rfl, rfl⟩) | (go_at_call 114; refine hLess2.mono ?_; clear hLess2; rintro e w1 ⟨rfl, rfl⟩) | (go_at_call 117; refine hSw.mono ?_; rintro e w1 ⟨rfl, hR1, hG1⟩; have HR1 := Lib.hid hR1; have HG1 := Lib.hid hG1; clear hR1 hG1))
            go_roundw
            case rel => exact ⟨2 * i + 2, f, swS ys i (2 * i + 2), by congr 1 <;> omega, by omega, (swS_len _ _ _).trans HL.out, by omega, by omega, HU.out, HR1.out, HG.out.trans ((grownBy_drew _ _).trans ((grownBy_drew _ _).trans HG1.out))⟩
            case measure => (simp [intOf] <;> omega)
          · rw [if_neg hs] at hU
            rw [decide_eq_false hs] at hLess2
            have HU := Lib.hid hU
            clear hU hR hq hs p1 p2 hz hz3
            go_wp2_with (first | (go_at_call 114; refine hLess.mono ?_; clear hLess; rintro e w1 ⟨rfl, rfl⟩) | (go_at_call 114; refine hLess2.mono ?_; clear hLess2; rintro e w1 ⟨rfl, rfl⟩))
            go_ret
            exact ⟨⟨_, rfl⟩, by rw [← HU.out]; exact HR.out.drew.drew, HG.out.trans ((grownBy_drew _ _).trans (grownBy_drew _ _))⟩
        · rw [if_neg (fun q => hq q.2)] at hU
          rw [decide_eq_false hq] at hLess
          have hLess2 := less_raw wr.drew g cap ys hR.drew (2 * i + 1) i (by omega) (by omega)
          have hSw := swap_raw wr.drew.drew g cap ys hR.drew.drew i (2 * i + 1) (by omega) (by omega)
          rw [p1, p2] at hLess
          rw [p1] at hLess2 hSw
          have HR := Lib.hid hR
          by_cases hs : (atS ys i).2 < (atS ys (2 * i + 1)).2
          · rw [if_pos hs] at hU
            rw [decide_eq_true hs] at hLess2
            have HU := Lib.hid hU
            clear hU hR hq hs p1 p2 hz hz3
            go_wp2_with (first | (go_at_call 114; refine hLess.mono ?_; clear hLess; rintro e w1 ⟨rfl, rfl⟩) | (go_at_call 114; refine hLess2.mono ?_; clear hLess2; rintro e w1 ⟨rfl, rfl⟩) | (go_at_call 117; refine hSw.mono ?_; rintro e w1 ⟨rfl, hR1, hG1⟩; have HR1 := Lib.hid hR1; have HG1 := Lib.hid hG1; clear hR1 hG1))
            go_roundw
            case rel => exact ⟨2 * i + 1, f, swS ys i (2 * i + 1), by congr 1 <;> omega, by omega, (swS_len _ _ _).trans HL.out, by omega, by omega, HU.out, HR1.out, HG.out.trans ((grownBy_drew _ _).trans ((grownBy_drew _ _).trans HG1.out))⟩
            case measure => (simp [intOf] <;> omega)
          · rw [if_neg hs] at hU
            rw [decide_eq_false hs] at hLess2
            have HU := Lib.hid hU
            clear hU hR hq hs p1 p2 hz hz3
            go_wp2_with (first | (go_at_call 114; refine hLess.mono ?_; clear hLess; rintro e w1 ⟨rfl, rfl⟩) | (go_at_call 114; refine hLess2.mono ?_; clear hLess2; rintro e w1 ⟨rfl, rfl⟩))
            go_ret
            exact ⟨⟨_, rfl⟩, by rw [← HU.out]; exact HR.out.drew.drew, HG.out.trans ((grownBy_drew _ _).trans (grownBy_drew _ _))⟩
      · have hz4 : ¬ (2 * (i : Int) + 1 + 1 < n) := by omega
        rw [if_neg (fun q => hz3 q.1)] at hU
        have hLess2 := less_raw wr g cap ys hR (2 * i + 1) i (by omega) (by omega)
        have hSw := swap_raw wr.drew g cap ys hR.drew i (2 * i + 1) (by omega) (by omega)
        rw [p1] at hLess2 hSw
        have HR := Lib.hid hR
        by_cases hs : (atS ys i).2 < (atS ys (2 * i + 1)).2
        · rw [if_pos hs] at hU
          rw [decide_eq_true hs] at hLess2
          have HU := Lib.hid hU
          clear hU hR hs p1 p2 hz hz3
          go_wp2_with (first | (go_at_call 114; refine hLess2.mono ?_; clear hLess2; rintro e w1 ⟨rfl, rfl⟩) | (go_at_call 117; refine hSw.mono ?_; rintro e w1 ⟨rfl, hR1, hG1⟩; have HR1 := Lib.hid hR1; have HG1 := Lib.hid hG1; clear hR1 hG1))
          go_roundw
          case rel => exact ⟨2 * i + 1, f, swS ys i (2 * i + 1), by congr 1 <;> omega, by omega, (swS_len _ _ _).trans HL.out, by omega, by omega, HU.out, HR1.out, HG.out.trans ((grownBy_drew _ _).trans HG1.out)⟩
          case measure => (simp [intOf] <;> omega)
        · rw [if_neg hs] at hU
          rw [decide_eq_false hs] at hLess2
          have HU := Lib.hid hU
          clear hU hR hs p1 p2 hz hz3
          go_wp2_with (go_at_call 114; refine hLess2.mono ?_; clear hLess2; rintro e w1 ⟨rfl, rfl⟩)
          go_ret
          exact ⟨⟨_, rfl⟩, by rw [← HU.out]; exact HR.out.drew, HG.out.trans (grownBy_drew _ _)⟩
def stV (xs : List HpSt) : List Value := xs.flatMap fun s => [.int .i64 s.1, .int .i64 s.2]
theorem stV_len : ∀ xs : List HpSt, (stV xs).length = xs.length * 2
  | [] => rfl
  | x :: xs => by
    have := stV_len xs
    unfold stV at this ⊢
    rw [List.flatMap_cons, List.length_append, this]; simp; omega
theorem stV_at : ∀ (xs : List HpSt) (k : Nat), k < xs.length → (stV xs)[k * 2]? = some (.int .i64 (atS xs k).1) ∧ (stV xs)[k * 2 + 1]? = some (.int .i64 (atS xs k).2)
  | x :: xs, 0, _ => ⟨rfl, rfl⟩
  | x :: xs, k + 1, h => by
    have := stV_at xs k (by simpa using h)
    have e : stV (x :: xs) = .int .i64 x.1 :: .int .i64 x.2 :: stV xs := rfl
    rw [e, show (k + 1) * 2 = k * 2 + 1 + 1 by omega, List.getElem?_cons_succ, List.getElem?_cons_succ, List.getElem?_cons_succ, List.getElem?_cons_succ]
    exact this
theorem RowS.owns {W : World} {g cap : Nat} {xs : List HpSt} (h : RowS W g cap xs) : W.ownsRow 0 127 2 (.slice (some ⟨g, 0, none⟩) xs.length cap) xs.length (stV xs) := by
  obtain ⟨cur, h1, h2, h3, h4, h5⟩ := h
  refine ⟨stV_len xs, .inr ⟨g, cap, cur, rfl, Nat.zero_le _, h1, h2, h3, h4, ?_⟩⟩
  apply List.ext_getElem?
  intro i
  rw [List.getElem?_take]
  split
  · rename_i hi
    have hk : i / 2 < xs.length := by omega
    obtain ⟨a, b⟩ := h5 _ hk
    obtain ⟨c, d⟩ := stV_at xs _ hk
    rcases Nat.mod_two_eq_zero_or_one i with e | e
    · rw [show i / 2 * 2 = i by omega] at a c
      rw [c]; simpa using a
    · rw [show i / 2 * 2 + 1 = i by omega] at b d
      rw [d]; simpa using b
  · rw [List.getElem?_eq_none (by rw [stV_len]; omega)]
theorem RowS.of_owns {W : World} {v : Value} {xs : List HpSt} (h : W.ownsRow 0 127 2 v xs.length (stV xs)) (hx : xs ≠ []) : ∃ g cap, v = .slice (some ⟨g, 0, none⟩) xs.length cap ∧ RowS W g cap xs := by
  rcases h.2 with ⟨_, h0⟩ | ⟨g, cap, cur, rfl, _, h1, h2, h3, h4, h5⟩
  · exact absurd (List.length_eq_zero_iff.1 h0) hx
  · refine ⟨g, cap, rfl, cur, h1, h2, h3, h4, fun k hk => ?_⟩
    obtain ⟨c, d⟩ := stV_at xs k hk
    rw [← h5, List.getElem?_take, if_pos (by omega)] at c d
    exact ⟨by simpa using c, by simpa using d⟩
theorem step_append_own_at {P : Program} {ops : Array Oper} {o : Oper} {a : Act} {w : World} {K : Act → World → Prop} {Q : Exit → Act → World → Prop} {E : Prop}
    (hg : o.guard = none) (s x : Operand) (t : TypeId) (hop : o.op = Op.call { callee := Callee.builtin Builtin.append, args := #[s, x], argTypes := #[t, t] })
    (base : Nat) (e : TypeId) (i : TypeInfo) (z : Value) (size bytes : Nat) (h1 : P.underlying t = some (.slice e)) (h2 : P.info? e = some i) (h3 : i.zero = some z) (h4 : i.size = size) (h5 : i.bytes = bytes) (h6 : z.cells.size = size) (h7 : 0 < size)
    (v : Value) (n : Nat) (xs : List Value) (hs : a.eval s = v) (hown : w.ownsRow base e size v n xs)
    (ad : Addr) (m c : Nat) (news : List Value) (hx : a.eval x = .slice (some ad) m c) (hn : news.length = m * size) (hc : ∀ j u, news[j]? = some u → w.cell? (ad.add j) = some u) (h1c : ∀ u ∈ news, u.oneCell' = true)
    (b1 : n + m ≤ maxLen) (b2 : (n + m) * bytes ≤ 140737488355328) (b3 : base ≤ w.heap.size)
    (hK : ∀ v' w', w'.ownsRow base e size v' (n + m) (xs ++ news) → w.grownBy w' v.ownBlock → (v'.ownBlock = v.ownBlock ∨ v'.ownBlock = some w.heap.size) → K (a.put o.dst v') w') :
    if Region.wanted o (yielded ops a.tmps) = true then Oper.wp P o a w K Q else E := by
  have hw : Region.wanted o (yielded ops a.tmps) = true := by simp [Region.wanted, hg]
  rw [if_pos hw]
  obtain ⟨v', w', hrun, r1, r2, _, r3⟩ := run_append_own_at (P := P) w base t o.type e i z size bytes h1 h2 h3 h4 h5 h6 h7 v n xs hown ad m c news hn hc h1c b1 b2 b3
  unfold Oper.wp
  simp [execOp, hop, resolve, invoke, builtin, hs, hx, hrun, Result.andThen]
  exact hK v' w' r1 r2 r3
theorem assert_st (w : World) (x : Value) : Sem.run Try.prog (Instr.typeAssert (.iface 127 x) 20 127 false) w = .ok x w := by
  unfold Instr.typeAssert
  simp [run_underlying Try.underlying127]
structure Keep2 (W W' : World) (b g : Nat) : Prop where
  os : W'.os = W.os
  tape : W'.tape = W.tape
  output : W'.output = W.output
  size : W.heap.size ≤ W'.heap.size
  block : ∀ k, k < W.heap.size → k ≠ b → k ≠ g → W'.heap[k]? = W.heap[k]?
theorem Keep2.of {W W1 W2 : World} {b g : Nat} (h : W.grownBy W1 (some g)) (k : W1.grownBy W2 (some b)) : Keep2 W W2 b g :=
  ⟨k.os.trans h.os, k.tape.trans h.tape, k.output.trans h.output, Nat.le_trans h.size k.size, fun i hi nb ng => (k.block i (Nat.lt_of_lt_of_le hi h.size) (by simpa using nb)).trans (h.block i hi (by simpa using ng))⟩
theorem cells2_new (w : World) (x y : Value) (t : TypeId) : ∀ j u, [x, y][j]? = some u → (w.alloc (.cells #[x, y] t)).cell? ((⟨w.heap.size, 0, none⟩ : Addr).add j) = some u := by
  intro j u hu
  rw [Addr.add_lit, Nat.zero_add]
  have h := World.alloc_heap_new w (.cells #[x, y] t)
  exact (cel_get h j (by simpa using hu)).1
theorem stV_snoc (xs : List HpSt) (c h : Int) : stV (xs ++ [(c, h)]) = stV xs ++ [.int .i64 c, .int .i64 h] := by unfold stV; rw [List.flatMap_append]; rfl
theorem pushed {w w' : World} {b g cap : Nat} {xs : List HpSt} {c ht : Int} {v v' : Value} (hv : v = .slice (some ⟨g, 0, none⟩) xs.length cap) (hb : w.heap[b]? = some (.cells #[.slice (some ⟨g, 0, none⟩) xs.length cap] 129 (0, 0))) (hbg : b ≠ g)
    (ho : w'.ownsRow 0 127 2 v' (xs.length + 1) (stV xs ++ [.int .i64 c, .int .i64 ht])) (hg : w.grownBy w' v.ownBlock) (hl : v'.ownBlock = v.ownBlock ∨ v'.ownBlock = some w.heap.size) :
    ∃ g' cap', v' = .slice (some ⟨g', 0, none⟩) (xs.length + 1) cap' ∧ w'.heap[b]? = some (.cells #[.slice (some ⟨g, 0, none⟩) xs.length cap] 129 (0, 0)) ∧ RowS w' g' cap' (xs ++ [(c, ht)]) ∧ (g' = g ∨ g' = w.heap.size) ∧ w.grownBy w' (some g) := by
  subst hv
  have ho : w'.ownsRow 0 127 2 v' (xs ++ [(c, ht)]).length (stV (xs ++ [(c, ht)])) := by rw [stV_snoc, List.length_append]; exact ho
  obtain ⟨g', cap', rfl, hR⟩ := RowS.of_owns ho (by simp)
  refine ⟨g', cap', by simp, (hg.block b (blk_lt hb) (by simpa [Value.ownBlock] using hbg)).trans hb, hR, ?_, hg⟩
  simpa [Value.ownBlock] using hl
def PushQ (W : World) (b g : Nat) (xs : List HpSt) (c ht : Int) (W' : World) : Prop :=
  ∃ g' cap', W'.heap[b]? = some (.cells #[.slice (some ⟨g', 0, none⟩) (xs.length + 1) cap'] 129 (0, 0)) ∧ RowS W' g' cap' (xs ++ [(c, ht)]) ∧ b ≠ g' ∧ (g' = g ∨ W.heap.size ≤ g') ∧ Keep2 W W' b g
theorem PushQ.drew {W W' : World} {b g : Nat} {xs : List HpSt} {c ht : Int} (h : PushQ W b g xs c ht W') : PushQ W b g xs c ht W'.drew := by
  obtain ⟨g', cap', h1, h2, h3, h4, h5⟩ := h
  exact ⟨g', cap', h1, h2, h3, h4, ⟨h5.os, h5.tape, h5.output, h5.size, h5.block⟩⟩
theorem push_end {W w' : World} {b g g' cap cap' : Nat} {xs : List HpSt} {c ht : Int} {X : Obj} (hb : W.heap[b]? = some (.cells #[.slice (some ⟨g, 0, none⟩) xs.length cap] 129 (0, 0))) (hbg : b ≠ g)
    (h1 : w'.heap[b]? = some (.cells #[.slice (some ⟨g, 0, none⟩) xs.length cap] 129 (0, 0))) (h2 : RowS w' g' cap' (xs ++ [(c, ht)])) (h3 : (W.alloc X).grownBy w' (some g)) (h4 : g' = g ∨ g' = (W.alloc X).heap.size) :
    PushQ W b g xs c ht (w'.setCell ⟨b, 0, none⟩ (.slice (some ⟨g', 0, none⟩) (xs.length + 1) cap')) := by
  have hlt := blk_lt hb
  have hbg' : b ≠ g' := by
    rcases h4 with e | e
    · rw [e]; exact hbg
    · rw [e]; simp; omega
  have hs := grownBy_set w' b ⟨b, 0, none⟩ rfl (.slice (some ⟨g', 0, none⟩) (xs.length + 1) cap')
  refine ⟨g', cap', blk_set h1 0 _, ?_, hbg', ?_, Keep2.of (((World.grownBy_alloc W X (some g))).trans h3) hs⟩
  · obtain ⟨cur, k1, k2⟩ := h2
    exact ⟨cur, (hs.block g' (blk_lt k1) (by simpa using fun e => hbg' e.symm)).trans k1, k2⟩
  · rcases h4 with e | e
    · exact .inl e
    · right; rw [e]; simp
theorem push_meth (W : World) (b g cap : Nat) (xs : List HpSt) (hb : W.heap[b]? = some (.cells #[.slice (some ⟨g, 0, none⟩) xs.length cap] 129 (0, 0))) (hbg : b ≠ g) (h : RowS W g cap xs) (c ht : Int) (hlen : xs.length < 100000) :
    Calls Try.prog 116 #[.pointer (some ⟨b, 0, none⟩), .iface 127 (.agg #[.int .i64 c, .int .i64 ht])] W fun e W' => e = .returned (.tuple #[]) ∧
      PushQ W b g xs c ht W' := by
  have hc := (cel1 hb).1
  have hf := (cel1 hb).2
  have hta := fun w => assert_st w (.agg #[.int .i64 c, .int .i64 ht])
  have hbA := blk_alloc hb (.cells #[.int .i64 c, .int .i64 ht] 127)
  have hcA := (cel1 hbA).1
  have hoA := h.owns.alloc (.cells #[.int .i64 c, .int .i64 ht] 127)
  obtain ⟨i0, hi, hz0, hz1, hz2⟩ := info_parts (show (Try.prog.info? 127).map (fun i => (i.zero, i.size, i.bytes)) = some (some (.agg #[.int .i64 0, .int .i64 0]), 2, 16) by kernel_rfl)
  have HO := Lib.hid hoA
  have HBA := Lib.hid hbA
  have HI := Lib.hid hi
  have HZ0 := Lib.hid hz0
  have HZ1 := Lib.hid hz1
  have HZ2 := Lib.hid hz2
  clear hoA hbA h hi hz0 hz1 hz2
  go_enter Try.func116, Try.ntmps116
  go_wp2
  go_region_law (refine step_append_own_at rfl (.tmp 7) (.tmp 10) 129 rfl 0 127 i0 (.agg #[.int .i64 0, .int .i64 0]) 2 16 Try.underlying129 HI.out HZ0.out HZ1.out HZ2.out rfl (by decide) (.slice (some ⟨g, 0, none⟩) xs.length cap) xs.length (stV xs) (by simp [Act.eval, Act.put]) HO.out ⟨W.heap.size, 0, none⟩ 1 1 [.int .i64 c, .int .i64 ht] (by simp [Act.eval, Act.put]) rfl (cells2_new W _ _ _) (by simp [Value.oneCell']) (by unfold maxLen; omega) (by omega) (Nat.zero_le _) ?_; intro v' w' hown hgrow hloc; obtain ⟨g', cap', rfl, hb1, hR1, hl1, hg1⟩ := pushed rfl HBA.out hbg hown (by first | exact hgrow | exact (grownBy_drew _ _).trans hgrow) hloc; obtain ⟨hc1, hf1⟩ := cel1 hb1; have HB1 := Lib.hid hb1; have HR1 := Lib.hid hR1; have HG1 := Lib.hid hg1; have HL1 := Lib.hid hl1; clear hb1 hR1 hg1 hl1 hown hgrow hloc)
  all_goals (go_end0; first | exact ⟨rfl, push_end hb hbg HB1.out HR1.out HG1.out HL1.out⟩ | exact ⟨rfl, (push_end hb hbg HB1.out HR1.out HG1.out HL1.out).drew⟩)
/-- What a heap in block b is: its row, and what else has turned since W. -/
def HeapQ (W : World) (b g : Nat) (ys : List HpSt) (W' : World) : Prop :=
  ∃ g' cap', W'.heap[b]? = some (.cells #[.slice (some ⟨g', 0, none⟩) ys.length cap'] 129 (0, 0)) ∧ RowS W' g' cap' ys ∧ b ≠ g' ∧ (g' = g ∨ W.heap.size ≤ g') ∧ Keep2 W W' b g
theorem upS_len : ∀ (f : Nat) (xs : List HpSt) (j : Nat), (upS f xs j).length = xs.length
  | 0, xs, j => rfl
  | f + 1, xs, j => by
    unfold upS
    split
    · rfl
    · split
      · rw [upS_len, swS_len]
      · rfl
theorem Keep2.of' {W W1 W2 : World} {b g : Nat} (h : W.grownBy W1 (some b)) (k : W1.grownBy W2 (some g)) : Keep2 W W2 b g :=
  ⟨k.os.trans h.os, k.tape.trans h.tape, k.output.trans h.output, Nat.le_trans h.size k.size, fun i hi nb ng => (k.block i (Nat.lt_of_lt_of_le hi h.size) (by simpa using ng)).trans (h.block i hi (by simpa using nb))⟩
theorem Keep2.grown {W W1 W2 : World} {b g g1 : Nat} (h : Keep2 W W1 b g) (k : W1.grownBy W2 (some g1)) (hg : g1 = g ∨ W.heap.size ≤ g1) : Keep2 W W2 b g :=
  ⟨k.os.trans h.os, k.tape.trans h.tape, k.output.trans h.output, Nat.le_trans h.size k.size, fun i hi nb ng => (k.block i (Nat.lt_of_lt_of_le hi h.size) (by simp; omega)).trans (h.block i hi nb ng)⟩
theorem hpush_raw (W : World) (b g cap : Nat) (xs : List HpSt) (hb : W.heap[b]? = some (.cells #[.slice (some ⟨g, 0, none⟩) xs.length cap] 129 (0, 0))) (hbg : b ≠ g) (h : RowS W g cap xs) (c ht : Int) (hlen : xs.length < 100000) :
    Calls Try.prog 65 #[.iface 124 (.pointer (some ⟨b, 0, none⟩)), .iface 127 (.agg #[.int .i64 c, .int .i64 ht])] W fun e W' => e = .returned (.tuple #[]) ∧ HeapQ W b g (pushS xs (c, ht)) W' := by
  have eP := enters_of Try.func116 (by kernel_rfl) rfl
  have eN := enters_of Try.func62 (by kernel_rfl) rfl
  have mP := meth_push W (.pointer (some ⟨b, 0, none⟩))
  have hP := push_meth W b g cap xs hb hbg h c ht hlen
  clear hb h
  go_enter Try.func65, Try.ntmps65
  go_wp2_with (first
    | (go_at_call 116; refine hP.mono ?_; clear hP; rintro e w1 ⟨rfl, g1, cap1, hb1, hR1, ne1, hl1, hk1⟩; have mN := meth_len w1 b _ (cel1 hb1).1; have hN := len_raw w1 g1 cap1 (xs.length + 1); have hU := up_raw w1 b g1 cap1 (xs ++ [(c, ht)]) (by simpa using hb1) ne1 hR1 xs.length (by simp) (by simp; omega); have HB1 := Lib.hid hb1; have HR1 := Lib.hid hR1; have HK1 := Lib.hid hk1; have HL1 := Lib.hid hl1; clear hb1 hR1 hk1 hl1)
    | (go_at_call 62; refine hN.mono ?_; clear hN; rintro e w2 ⟨rfl, hw⟩; have hw := hw.symm; subst hw)
    | (go_at_call 73; refine hU.mono ?_; clear hU; rintro e w3 ⟨rfl, hR3, hG3⟩; have HR3 := Lib.hid hR3; have HG3 := Lib.hid hG3; clear hR3 hG3))
  go_end0
  refine ⟨rfl, g1, cap1, ?_, HR3.out, ne1, HL1.out, HK1.out.grown HG3.out HL1.out⟩
  have e : (pushS xs (c, ht)).length = xs.length + 1 := by unfold pushS; rw [upS_len]; simp
  rw [e]
  exact (HG3.out.block b (blk_lt HB1.out) (by simpa using ne1)).trans HB1.out
theorem pop_meth (W : World) (b g cap : Nat) (xs : List HpSt) (n : Nat) (hn : xs.length = n + 1) (hb : W.heap[b]? = some (.cells #[.slice (some ⟨g, 0, none⟩) xs.length cap] 129 (0, 0))) (hbg : b ≠ g) (h : RowS W g cap xs) (hlen : xs.length < 1000000) :
    Calls Try.prog 115 #[.pointer (some ⟨b, 0, none⟩)] W fun e W' => e = .returned (.iface 127 (.agg #[.int .i64 (atS xs n).1, .int .i64 (atS xs n).2])) ∧ HeapQ W b g (xs.take n) W' := by
  obtain ⟨hc, hf⟩ := cel1 hb
  obtain ⟨a0, a1, _, _⟩ := h.at n (by omega)
  rw [hn] at hc
  have hcap : n + 1 ≤ cap := by obtain ⟨cur, _, h2, _⟩ := h; omega
  have hcap2 : cap ≤ maxLen := by obtain ⟨cur, _, _, h3, _⟩ := h; exact h3
  have hX := blk_alloc hb (.cells #[.int .i64 (atS xs n).1, .int .i64 (atS xs n).2] 127)
  obtain ⟨hcA, hfA⟩ := cel1 hX
  rw [hn] at hcA
  have hlt := blk_lt hb
  have hne : ¬ b = W.heap.size := by omega
  have hne2 : ¬ W.heap.size = b := by omega
  have HB := Lib.hid hb
  have HR := Lib.hid h
  clear hb h hX
  go_enter Try.func115, Try.ntmps115
  go_wp2
  go_ret
  refine ⟨rfl, g, cap, ?_, ?_, hbg, .inl rfl, Keep2.of' (grownBy_set _ b ⟨b, 0, none⟩ rfl _) (World.grownBy_alloc _ _ (some g))⟩
  · have e : (xs.take n).length = n := by simp; omega
    rw [e]; exact blk_alloc (blk_set HB.out 0 _) _
  · obtain ⟨cur, k1, k2, k3, k4, k5⟩ := HR.out
    have e : (xs.take n).length = n := by simp; omega
    refine ⟨cur, ?_, by rw [e]; omega, k3, k4, fun k hk => ?_⟩
    · exact blk_alloc ((Below.heap_setCell _ ⟨b, 0, none⟩ _ g (fun q => hbg q.symm)).trans k1) _
    · have e2 : atS (xs.take n) k = atS xs k := by unfold atS; rw [List.getD_eq_getElem?_getD, List.getElem?_take, if_pos (by omega), ← List.getD_eq_getElem?_getD]
      rw [e2]; exact k5 k (by omega)
theorem downS_len : ∀ (f : Nat) (xs : List HpSt) (i n : Nat), (downS f xs i n).length = xs.length
  | 0, xs, i, n => rfl
  | f + 1, xs, i, n => by
    unfold downS
    split
    · rfl
    · split <;> split <;> first | rfl | rw [downS_len, swS_len]
theorem popY_len (xs : List HpSt) : (popY xs).length = xs.length := by unfold popY; rw [downS_len, swS_len]
theorem hpop_raw (W : World) (b g cap : Nat) (xs : List HpSt) (n : Nat) (hn : xs.length = n + 1) (hb : W.heap[b]? = some (.cells #[.slice (some ⟨g, 0, none⟩) xs.length cap] 129 (0, 0))) (hbg : b ≠ g) (h : RowS W g cap xs) (hlen : xs.length < 1000000) :
    Calls Try.prog 63 #[.iface 124 (.pointer (some ⟨b, 0, none⟩))] W fun e W' => e = .returned (.iface 127 (.agg #[.int .i64 (atS (popY xs) n).1, .int .i64 (atS (popY xs) n).2])) ∧ HeapQ W b g ((popY xs).take n) W' := by
  have eN := enters_of Try.func62 (by kernel_rfl) rfl
  have eS := enters_of Try.func117 (by kernel_rfl) rfl
  have eP := enters_of Try.func115 (by kernel_rfl) rfl
  have hc := (cel1 hb).1
  have mN := meth_len W b _ hc
  have hN := len_raw W g cap xs.length
  have mS := meth_swap W b _ hc
  have hS := swap_raw W g cap xs h 0 n (by omega) (by omega)
  have eN1 : popN xs = n := by unfold popN; omega
  rw [hn] at mN hN mS hS
  have HB := Lib.hid hb
  have HN := Lib.hid hn
  have HE := Lib.hid eN1
  have hn9 : n + 1 < 1000000 := by omega
  clear hb h hn hc eN1 hlen
  go_enter Try.func63, Try.ntmps63
  go_wp2_with (first
    | (go_at_call 62; refine hN.mono ?_; clear hN; rintro e w2 ⟨rfl, hw⟩; have hw := hw.symm; subst hw)
    | (go_at_call 117; refine hS.mono ?_; clear hS; rintro e w1 ⟨rfl, hR1, hG1⟩; have hb1 := (hG1.block b (blk_lt HB.out) (by simpa using hbg)).trans HB.out; have hD := down_raw w1 b g cap (swS xs 0 n) (by rw [swS_len]; exact hb1) hbg hR1 0 n (by rw [swS_len, HN.out]; omega) (by rw [swS_len, HN.out]; omega) (by omega); have HG1 := Lib.hid hG1; have HR1 := Lib.hid hR1; have HB1 := Lib.hid hb1; clear hG1 hR1 hb1)
    | (go_at_call 71; (refine hD.mono ?_; clear hD; rintro e w3 ⟨⟨r, rfl⟩, hR3, hG3⟩; have hb3 := (hG3.block b (blk_lt HB1.out) (by simpa using hbg)).trans HB1.out; have hY : popY xs = downS (n + 1) (swS xs 0 n) 0 n := (by unfold popY; rw [HE.out]); rw [← hY] at hR3; have mP := meth_pop w3 (.pointer (some ⟨b, 0, none⟩)); have hP := pop_meth w3 b g cap (popY xs) n (by rw [popY_len]; exact HN.out) (by rw [popY_len]; exact hb3) hbg hR3 (by rw [popY_len, HN.out]; omega); have HG3 := Lib.hid hG3; have HR3 := Lib.hid hR3; have HB3 := Lib.hid hb3; clear hG3 hR3 hb3 hY))
    | (go_at_call 115; refine hP.mono ?_; clear hP; rintro e w4 ⟨rfl, hQ⟩; have HQ := Lib.hid hQ; clear hQ))
  go_ret
  obtain ⟨g', cap', q1, q2, q3, q4, q5⟩ := HQ.out
  have hk : W.grownBy w3 (some g) := HG1.out.trans HG3.out
  refine ⟨rfl, g', cap', q1, q2, q3, ?_, q5.os.trans hk.os, q5.tape.trans hk.tape, q5.output.trans hk.output, Nat.le_trans hk.size q5.size, fun k hk1 nb ng => (q5.block k (Nat.lt_of_lt_of_le hk1 hk.size) nb ng).trans (hk.block k hk1 (by simpa using ng))⟩
  rcases q4 with e | e
  · exact .inl e
  · exact .inr (Nat.le_trans hk.size e)
theorem around_raw (w h i : Int) (W : World) : Calls Try.prog 64 #[.int .i64 w, .int .i64 h, .int .i64 i] W fun e W' =>
    e = .returned (.func (.func 72) #[] #[.pointer (some ⟨W.heap.size, 0, none⟩), .pointer (some ⟨W.heap.size + 1, 0, none⟩), .pointer (some ⟨W.heap.size + 2, 0, none⟩)]) ∧ W' = ((W.alloc (.cells #[.int .i64 w] 3)).alloc (.cells #[.int .i64 h] 3)).alloc (.cells #[.int .i64 i] 3) := by
  go_enter Try.func64, Try.ntmps64
  go_wp2
  go_ret
  exact ⟨rfl, rfl⟩
/-- A cell's number, as a loop is handed it. -/
abbrev Cell (N : Nat) := { x : Nat // x < N }
def encN {N : Nat} (x : Cell N) : Array Value := #[.int .i64 (x.1 : Int)]
def KpB (a b c : Nat) (W W' : World) : Prop := W'.heap[a]? = W.heap[a]? ∧ W'.heap[b]? = W.heap[b]? ∧ W'.heap[c]? = W.heap[c]?
theorem KpB.t {a b c : Nat} {A B C : World} (h : KpB a b c A B) (k : KpB a b c B C) : KpB a b c A C := ⟨k.1.trans h.1, k.2.1.trans h.2.1, k.2.2.trans h.2.2⟩
theorem KpB.refl {a b c : Nat} {A : World} : KpB a b c A A := ⟨rfl, rfl, rfl⟩
set_option maxHeartbeats 4000000 in
theorem around1_in (n : Nat) (hn : 1 ≤ n) (l Bw Bh Bi N : Nat) (w r i : Nat) (hw : 1 ≤ w ∧ w ≤ 32) (hh : 1 ≤ r ∧ r ≤ 32) (hi : i < w * r) (zs : List (Cell N)) (hz : zs.map (·.1) = nbs w r i) (J Jx : List (Cell N) → World → Prop)
    (hY : ∀ pre x W, J pre W → pre.length < zs.length → YieldAt Fence.wide (n - 1) Try.prog l (encN x) W fun e W' =>
      (e = .returned (.bool true) ∧ J (pre ++ [x]) W' ∧ KpB Bw Bh Bi W W') ∨ (e = .returned (.bool false) ∧ Jx (pre ++ [x]) W'))
    (W : World) (hJ : AbidesFrom W.heap.size J) (c1 : W.heap[Bw]? = some (.cells #[.int .i64 w] 3 (0, 0))) (c2 : W.heap[Bh]? = some (.cells #[.int .i64 r] 3 (0, 0))) (c3 : W.heap[Bi]? = some (.cells #[.int .i64 i] 3 (0, 0))) (h0 : J [] W) :
    CallsIn Fence.wide n Try.prog 72 #[.func (.yield l) #[] #[], .pointer (some ⟨Bw, 0, none⟩), .pointer (some ⟨Bh, 0, none⟩), .pointer (some ⟨Bi, 0, none⟩)] W fun e W' => (∃ v, e = .returned v) ∧
      ((∃ ys, ys = zs ∧ J ys W') ∨ (∃ pre, pre <+: zs ∧ Jx pre W')) := by
  refine callsIn_of_wp Try.func72 rfl trivial ?_ rfl
  simp only [Try.ntmps72, List.size_toArray, List.length_cons, List.length_nil, Nat.reduceAdd, Nat.reduceSub, Array.replicate_succ, Array.replicate_zero, List.push_toArray, List.append_toArray, List.nil_append, List.cons_append]
  have d1 := (cel1 c1).1
  have d2 := (cel1 c2).1
  have d3 := (cel1 c3).1
  have p0 : 0 < w := by omega
  have hx : i % w < w := Nat.mod_lt _ p0
  have hy : i / w < r := Nat.div_lt_of_lt_mul hi
  have hi9 : i < 1024 := Nat.lt_of_lt_of_le hi (Nat.le_trans (Nat.mul_le_mul hw.2 hh.2) (by decide))
  have q1 : (w : Int) * r = ((w * r : Nat) : Int) := by push_cast; rfl
  have q2 : w * r ≤ 1024 := Nat.le_trans (Nat.mul_le_mul hw.2 hh.2) (by decide)
  have q3 : (w : Int) * r ≤ 1024 := by omega
  have q4 : (i : Int) < (w : Int) * r := by omega
  have q5 : (0 : Int) ≤ (w : Int) * r := by omega
  have w1 := hw.1
  have w2 := hw.2
  have h1 := hh.1
  have h2 := hh.2
  clear q1
  have q6 : (w : Int) ≠ 0 := by omega
  have q7 : ¬ ((w : Int) = 0) := by omega
  have q8 : (0 : Int) ≤ (i : Int) / w := Int.ediv_nonneg (by omega) (by omega)
  have q9 : (i : Int) / w ≤ 1024 := Int.le_trans (Int.ediv_le_self _ (by omega)) (by omega)
  have qa : IntKind.i64.wrap ((i : Int) / w) = (i : Int) / w := IntWalk.i64_in _ (by omega)
  gi_wp2
  gi_region
  have ex : (i : Int) % w = ((i % w : Nat) : Int) := by push_cast; rfl
  have ey : (i : Int) / w = ((i / w : Nat) : Int) := by push_cast; rfl
  rw [ex, ey]
  unfold nbs at hz
  simp only at hz
  clear ex ey q3 q4 q5 q6 q7 q8 q9 qa hi9 q2
  generalize i % w = x at hx hz ⊢
  generalize i / w = y at hy hz ⊢
  have hJd : J [] W.drew := hJ [] W W.drew none h0 (grownBy_drew _ _) (fun r e => by cases e)
  obtain ⟨top, htop⟩ : ∃ t : Nat, t = min (y + 1) (r - 1) := ⟨_, rfl⟩
  obtain ⟨rt, hrt⟩ : ∃ t : Nat, t = min (x + 1) (w - 1) := ⟨_, rfl⟩
  rw [← htop, ← hrt] at hz
  have e1 : (if (y : Int) - 1 < 0 then (0 : Int) else (y : Int) - 1) = ((y - 1 : Nat) : Int) := by split <;> omega
  have e2 : (if (x : Int) - 1 < 0 then (0 : Int) else (x : Int) - 1) = ((x - 1 : Nat) : Int) := by split <;> omega
  have e3 : (if (r : Int) - 1 < (y : Int) + 1 then (r : Int) - 1 else (y : Int) + 1) = (top : Int) := by split <;> omega
  have e4 : (if (w : Int) - 1 < (x : Int) + 1 then (w : Int) - 1 else (x : Int) + 1) = (rt : Int) := by split <;> omega
  have ht9 : top ≤ 31 := by omega
  have hr9 : rt ≤ 31 := by omega
  clear htop hrt
  have HZ := Lib.hid hz
  have HJ := Lib.hid hJ
  have HD := Lib.hid hJd
  have HY := Lib.hid hY
  clear hz hJ hJd hY h0
  gi_wp2
  have c1d : W.drew.heap[Bw]? = some (.cells #[.int .i64 w] 3 (0, 0)) := c1
  have c2d : W.drew.heap[Bh]? = some (.cells #[.int .i64 r] 3 (0, 0)) := c2
  have c3d : W.drew.heap[Bi]? = some (.cells #[.int .i64 i] 3 (0, 0)) := c3
  have hsz : W.heap.size ≤ W.drew.heap.size := Nat.le_refl _
  obtain ⟨V, hV⟩ : ∃ V, V = W.drew := ⟨_, rfl⟩
  rw [← hV] at HD c1d c2d c3d hsz ⊢
  clear hV c1 c2 c3 d1 d2 d3
  gi_loopw [7] (fun vv wr => ∃ (v k : Nat) (pre rest : List (Cell N)), vv = .int .i64 v ∧ v + k = top + 1 ∧ y - 1 ≤ v ∧ zs = pre ++ rest ∧ rest.map (·.1) = nbV w x y (x - 1) (rt + 1 - (x - 1)) v k ∧ J pre wr ∧ KpB Bw Bh Bi V wr) (fun vv _ => top + 1 - (intOf vv).toNat)
  case atStart => exact ⟨y - 1, top + 1 - (y - 1), [], zs, rfl, by omega, Nat.le_refl _, rfl, HZ.out, HD.out, KpB.refl⟩
  case round =>
    obtain ⟨v, k, pre, rest, rfl, hk, hv, hzs, hrest, hJr, hKr⟩ := hrel
    have e1v := (hKr.1).trans c1d
    have e2v := (hKr.2.1).trans c2d
    have e3v := (hKr.2.2).trans c3d
    have d1 := (cel1 e1v).1
    have d2 := (cel1 e2v).1
    have d3 := (cel1 e3v).1
    have HR := Lib.hid hrest
    have HZS := Lib.hid hzs
    have HJR := Lib.hid hJr
    have HKR := Lib.hid hKr
    clear hrest hzs hJr hKr e1v e2v e3v c1d c2d c3d
    by_cases hlt : v ≤ top
    · obtain ⟨k, rfl⟩ : ∃ k', k = k' + 1 := ⟨k - 1, by omega⟩
      have hvy : v ≤ 32 := by omega
      have hvw0 : (0 : Int) ≤ (v : Int) * w := Int.mul_nonneg (by omega) (by omega)
      have hvw1 : (v : Int) * w ≤ 1024 := by
        have := Nat.mul_le_mul hvy hw.2
        have e : (v : Int) * w = ((v * w : Nat) : Int) := by push_cast; rfl
        omega
      gi_wp2
      obtain ⟨wo, hwo⟩ : ∃ wo : World, wo = wr := ⟨_, rfl⟩
      rw [← hwo] at HJR HKR d1 d2 d3 ⊢
      clear hwo
      gi_loopw [8] (fun uu wi => ∃ (u m : Nat) (pre2 rest2 : List (Cell N)), uu = .int .i64 u ∧ u + m = rt + 1 ∧ x - 1 ≤ u ∧ zs = pre2 ++ rest2 ∧ rest2.map (·.1) = nbU w x y v u m ++ nbV w x y (x - 1) (rt + 1 - (x - 1)) (v + 1) k ∧ J pre2 wi ∧ KpB Bw Bh Bi wo wi) (fun uu _ => rt + 1 - (intOf uu).toNat)
      case atStart => exact ⟨x - 1, rt + 1 - (x - 1), pre, rest, rfl, by omega, Nat.le_refl _, HZS.out, HR.out, HJR.out, KpB.refl⟩
      case round =>
        obtain ⟨u, m, pre2, rest2, rfl, hm, hu, hzs2, hrest2, hJ2, hK2⟩ := hrel
        have g1 := (World.cell?_of_block (a := ⟨Bw, 0, none⟩) hK2.1).trans d1
        have g2 := (World.cell?_of_block (a := ⟨Bh, 0, none⟩) hK2.2.1).trans d2
        have g3 := (World.cell?_of_block (a := ⟨Bi, 0, none⟩) hK2.2.2).trans d3
        by_cases hut : u ≤ rt
        · obtain ⟨m, rfl⟩ : ∃ m', m = m' + 1 := ⟨m - 1, by omega⟩
          have hu9 : u ≤ 32 := by omega
          rw [nbU] at hrest2
          by_cases hs : u = x ∧ v = y
          · rw [if_pos hs] at hrest2
            obtain ⟨rfl, rfl⟩ := hs
            have HR2 := Lib.hid hrest2
            have HZ2 := Lib.hid hzs2
            have HJ2 := Lib.hid hJ2
            have HK2 := Lib.hid hK2
            clear hrest2 hzs2 hJ2 hK2 d1 d2 d3
            gi_wp2
            refine ⟨fun _ h => (by cases h), ?_⟩
            gi_wp2
            go_roundw
            case rel => first
              | exact ⟨u + 1, m, pre2, rest2, by (congr 1 <;> omega), by omega, by omega, HZ2.out, HR2.out, HJ2.out, HK2.out⟩
              | ((repeat apply Exists.intro); refine And.intro ?_ ?_; rotate_left; rfl; exact ⟨u + 1, m, pre2, rest2, by (congr 1 <;> omega), by omega, by omega, HZ2.out, HR2.out, HJ2.out, HK2.out⟩; all_goals exact undef)
            case measure => simp [intOf] <;> omega
          · rw [if_neg hs] at hrest2
            obtain ⟨z, rest3, rfl⟩ : ∃ z rest3, rest2 = z :: rest3 := by
              cases rest2 with
              | nil => simp at hrest2
              | cons z t => exact ⟨z, t, rfl⟩
            rw [List.map_cons, List.cons_append] at hrest2
            obtain ⟨ez, hrest3⟩ := List.cons.inj hrest2
            have ezi : (z.1 : Int) = (v : Int) * w + u := by rw [ez]; push_cast; rfl
            obtain ⟨fn, tmps, assign, body, hy, hY2⟩ := HY.out pre2 z wr hJ2 (by rw [hzs2]; simp)
            simp only [encN] at hy
            rw [ezi] at hy
            have HR2 := Lib.hid hrest3
            have HZ2 := Lib.hid hzs2
            have HK2 := Lib.hid hK2
            clear hrest2 hrest3 hzs2 hJ2 hK2 d1 d2 d3 ez ezi
            by_cases hux : u = x
            · subst hux
              have s3 : ¬ ((v : Int) = y) := fun e => hs ⟨rfl, by omega⟩
              clear hs
              gi_wp2
              refine hY2.mono ?_
              rintro e W3 (⟨rfl, hJ3, hK3⟩ | ⟨rfl, hJx3⟩)
              · gi_wp2
                go_roundw
                case rel => first
                  | exact ⟨u + 1, m, pre2 ++ [z], rest3, by (congr 1 <;> omega), by omega, by omega, by rw [HZ2.out]; simp, HR2.out, hJ3, HK2.out.t hK3⟩
                  | ((repeat apply Exists.intro); refine And.intro ?_ ?_; rotate_left; rfl; exact ⟨u + 1, m, pre2 ++ [z], rest3, by (congr 1 <;> omega), by omega, by omega, by rw [HZ2.out]; simp, HR2.out, hJ3, HK2.out.t hK3⟩; all_goals exact undef)
                case measure => simp [intOf] <;> omega
              · gi_wp2
                refine bodyPost_ret (results_none rfl _ _ _) rfl ?_
                exact ⟨⟨_, rfl⟩, .inr ⟨_, ⟨rest3, by rw [HZ2.out]; simp⟩, hJx3⟩⟩
            · have s3 : ¬ ((u : Int) = x) := by omega
              clear hs
              gi_wp2
              refine hY2.mono ?_
              rintro e W3 (⟨rfl, hJ3, hK3⟩ | ⟨rfl, hJx3⟩)
              · gi_wp2
                go_roundw
                case rel => first
                  | exact ⟨u + 1, m, pre2 ++ [z], rest3, by (congr 1 <;> omega), by omega, by omega, by rw [HZ2.out]; simp, HR2.out, hJ3, HK2.out.t hK3⟩
                  | ((repeat apply Exists.intro); refine And.intro ?_ ?_; rotate_left; rfl; exact ⟨u + 1, m, pre2 ++ [z], rest3, by (congr 1 <;> omega), by omega, by omega, by rw [HZ2.out]; simp, HR2.out, hJ3, HK2.out.t hK3⟩; all_goals exact undef)
                case measure => simp [intOf] <;> omega
              · gi_wp2
                refine bodyPost_ret (results_none rfl _ _ _) rfl ?_
                exact ⟨⟨_, rfl⟩, .inr ⟨_, ⟨rest3, by rw [HZ2.out]; simp⟩, hJx3⟩⟩
        · obtain rfl : m = 0 := by omega
          rw [nbU, List.nil_append] at hrest2
          have HR2 := Lib.hid hrest2
          have HZ2 := Lib.hid hzs2
          have HJ2 := Lib.hid hJ2
          have HK2 := Lib.hid hK2
          clear hrest2 hzs2 hJ2 hK2 d1 d2 d3
          gi_wp2
          go_roundw
          case rel => exact ⟨v + 1, k, pre2, rest2, by (congr 1 <;> omega), by omega, by omega, HZ2.out, HR2.out, HJ2.out, HKR.out.t HK2.out⟩
          case measure => simp [intOf] <;> omega
    · gi_wp2
      go_end0
      have : k = 0 := by omega
      subst this
      have hr := HR.out
      rw [nbV] at hr
      have hr : rest = [] := List.map_eq_nil_iff.1 hr
      have hz := HZS.out
      rw [hr, List.append_nil] at hz
      exact ⟨⟨_, rfl⟩, .inl ⟨zs, rfl, by rw [hz]; exact HJR.out⟩⟩
theorem around_stops (n : Nat) (hn : 1 ≤ n) (Bw Bh Bi N : Nat) (w r i : Nat) (hw : 1 ≤ w ∧ w ≤ 32) (hh : 1 ≤ r ∧ r ≤ 32) (hi : i < w * r) (zs : List (Cell N)) (hz : zs.map (·.1) = nbs w r i) (w0 : World)
    (c1 : w0.heap[Bw]? = some (.cells #[.int .i64 w] 3 (0, 0))) (c2 : w0.heap[Bh]? = some (.cells #[.int .i64 r] 3 (0, 0))) (c3 : w0.heap[Bi]? = some (.cells #[.int .i64 i] 3 (0, 0))) :
    SeqStopsK Fence.wide n Try.prog 72 #[.pointer (some ⟨Bw, 0, none⟩), .pointer (some ⟨Bh, 0, none⟩), .pointer (some ⟨Bi, 0, none⟩)] encN (KpB Bw Bh Bi) (fun ys => ys = zs) (fun pre => pre <+: zs) zs.length w0 := fun l J Jx W hW hJ _ hY h0 =>
  around1_in n hn l Bw Bh Bi N w r i hw hh hi zs hz J Jx hY W hJ ((hW.block Bw (blk_lt c1)).trans c1) ((hW.block Bh (blk_lt c2)).trans c2) ((hW.block Bi (blk_lt c3)).trans c3) h0
theorem height_raw (lo hi : Int) (u : Bool) (W : World) : Calls Try.prog 61 #[.agg #[.int .i64 lo, .int .i64 hi, .bool u]] W fun e W' => e = .returned (.int .i64 (hgt lo hi u)) ∧ ∃ X, W' = W.alloc X := by
  cases u
  · go_enter Try.func61, Try.ntmps61
    go_wp2
    go_ret
    exact ⟨rfl, _, rfl⟩
  · go_enter Try.func61, Try.ntmps61
    go_wp2
    go_ret
    exact ⟨rfl, _, rfl⟩
/-- Marks of loops that are over: nothing is deferred. -/
def Marks (W : World) (ds : List Deferred) (Ds : List Nat) : Prop := ds = Ds.map (fun D => { target := .collected D, args := #[] }) ∧ Ds.Pairwise (· ≠ ·) ∧ ∀ D ∈ Ds, W.heap[D]? = some (.deferred (some []))
theorem leaves_marks {F : Fence} {n : Nat} {P : Program} {fn : Func} {tmps : Array Value} {R : Ending → World → Prop} (B : Nat) :
    ∀ (Ds : List Nat) (W : World), Ds.Pairwise (· ≠ ·) → (∀ D ∈ Ds, B ≤ D ∧ W.heap[D]? = some (.deferred (some []))) →
      (∀ W', W'.os = W.os → W'.tape = W.tape → W'.output = W.output → W.heap.size ≤ W'.heap.size → (∀ (k : Nat) (o : Obj), W.heap[k]? = some o → o.isCells = true → W'.heap[k]? = some o) → (∀ k, k < B → W'.heap[k]? = W.heap[k]?) → LeavesIn F n P fn tmps R [] .returning W') →
      LeavesInM F n P fn tmps R (Ds.map fun D => { target := .collected D, args := #[] }) .returning W
  | [], W, _, _, h => h W rfl rfl rfl (Nat.le_refl _) (fun _ _ h _ => h) (fun k _ => rfl)
  | D :: Ds, W, hp, hd, h => by
    obtain ⟨p1, p2⟩ := List.pairwise_cons.1 hp
    obtain ⟨q1, q2⟩ := hd D List.mem_cons_self
    have hg := grownBy_putObj' W D (.deferred none)
    refine ⟨by simp, .inl ⟨D, _, rfl, run_takeDeferred q2, ?_⟩⟩
    refine leaves_marks B Ds _ p2 (fun E hE => ?_) fun W' a1 a2 a3 a4 a5 a6 => ?_
    · obtain ⟨r1, r2⟩ := hd E (List.mem_cons_of_mem _ hE)
      exact ⟨r1, (hg.block E (blk_lt r2) (by simpa using fun e => p1 E hE e.symm)).trans r2⟩
    · refine h W' (a1.trans hg.os) (a2.trans hg.tape) (a3.trans hg.output) (Nat.le_trans hg.size a4) (fun k o ho hc => a5 k o ((hg.block k (blk_lt ho) ?_).trans ho) hc) fun k hk => ?_
      · simp only [ne_eq, Option.some.injEq]
        intro e; subst e
        rw [q2] at ho; cases ho; simp [Obj.isCells] at hc
      · rw [a6 k hk]
        by_cases hs : k < W.heap.size
        · exact hg.block k hs (by simp; omega)
        · have := blk_lt q2; omega
/-- A row of bounds in memory. -/
def RowB (W : World) (A : Option Addr) (l : List Bound) : Prop := ∀ k, k < l.length → ∃ B o, A = some ⟨B, o, none⟩ ∧ W.cell? ⟨B, o + k * 3, none⟩ = some (.int .i64 (atB l k).Lo) ∧ W.cell? ⟨B, o + k * 3 + 1, none⟩ = some (.int .i64 (atB l k).Hi) ∧ W.cell? ⟨B, o + k * 3 + 2, none⟩ = some (.bool (atB l k).Unknown)
theorem made1 (v : Value) (n : Nat) (hv : v.cells = #[v]) : madeCells v.cells (n * 1) = Array.replicate n v := by
  rw [hv]
  unfold madeCells
  apply Array.ext
  · simp
  · intro i h1 h2
    simp [Nat.mod_one]
theorem mkQ (w : World) (n : Nat) (h : n ≤ 1024) : Sem.run Try.prog (Instr.makeSlice 113 (.int .i64 (n : Int)) (.int .i64 (n : Int))) w = .ok (.slice (some ⟨w.heap.size, 0, none⟩) n n) (w.alloc (.cells (Array.replicate n (.int .i64 0)) 32)) := by
  obtain ⟨i0, hi, hz0, hz1, hz2⟩ := info_parts (show (Try.prog.info? 32).map (fun i => (i.zero, i.size, i.bytes)) = some (some (.int .i64 0), 1, 8) by kernel_rfl)
  have := run_make (P := Try.prog) w 113 32 i0 _ (by kernel_rfl) hi hz0 .i64 .i64 (n : Int) (n : Int) (by omega) (Int.le_refl _) (by rw [hz2]; omega) (by omega)
  simp only [Int.toNat_natCast, hz1] at this
  rw [made1 _ _ rfl] at this
  exact this
theorem mkB (w : World) (n : Nat) (h : n ≤ 1024) : Sem.run Try.prog (Instr.makeSlice 123 (.int .i64 (n : Int)) (.int .i64 (n : Int))) w = .ok (.slice (some ⟨w.heap.size, 0, none⟩) n n) (w.alloc (.cells (Array.replicate n (.bool false)) 4)) := by
  obtain ⟨i0, hi, hz0, hz1, hz2⟩ := info_parts (show (Try.prog.info? 4).map (fun i => (i.zero, i.size, i.bytes)) = some (some (.bool false), 1, 1) by kernel_rfl)
  have := run_make (P := Try.prog) w 123 4 i0 _ (by kernel_rfl) hi hz0 .i64 .i64 (n : Int) (n : Int) (by omega) (Int.le_refl _) (by rw [hz2]; omega) (by omega)
  simp only [Int.toNat_natCast, hz1] at this
  rw [made1 _ _ rfl] at this
  exact this
def seqL : Code → Code | .seq a _ => a | c => c
def seqR : Code → Code | .seq _ b => b | c => c
def blockB : Code → Code | .block _ b => b | c => c
def loopB : Code → Code | .loop b => b | c => c
/-- The loop's state in memory. -/
structure SadS (W0 : World) (w h : Nat) (l : List Bound) (B o cap b Qv : Nat) (W : World) (q : List HpSt) (out : List Int) (done : List Bool) (g : Nat) : Prop where
  below : Below W0.heap.size W0 W
  c : W.heap[W0.heap.size]? = some (.cells #[.int .i64 w, .int .i64 h, .slice (some ⟨B, o, none⟩) l.length cap] 77 (0, 0))
  o : W.heap[W0.heap.size + 1]? = some (.cells (out.map (Value.int .i64)).toArray 32 (0, 0))
  d : W.heap[W0.heap.size + 2]? = some (.cells (done.map Value.bool).toArray 4 (0, 0))
  db : W.heap[W0.heap.size + 3]? = some (.cells #[.slice (some ⟨W0.heap.size + 2, 0, none⟩) l.length l.length] 123 (0, 0))
  qv : W.heap[Qv]? = some (.cells #[.pointer (some ⟨b, 0, none⟩)] 124 (0, 0))
  hp : ∃ cap', W.heap[b]? = some (.cells #[.slice (some ⟨g, 0, none⟩) q.length cap'] 129 (0, 0)) ∧ RowS W g cap' q
  lo : out.length = l.length
  ld : done.length = l.length
  ne : W0.heap.size + 4 ≤ g ∧ W0.heap.size + 4 ≤ b ∧ W0.heap.size + 4 ≤ Qv ∧ g ≠ b ∧ g ≠ Qv ∧ b ≠ Qv
def mk (D : Nat) : Deferred := { target := .collected D, args := #[] }
theorem Keep2.mark {W W' : World} {b g : Nat} (h : Keep2 W W' b g) {k : Nat} {o : Obj} (hk : W.heap[k]? = some o) (ho : o.isCells = false) (hb : ∃ cs t fr, W.heap[b]? = some (.cells cs t fr)) (hg : ∃ cs t fr, W.heap[g]? = some (.cells cs t fr)) : W'.heap[k]? = some o := by
  refine (h.block k (blk_lt hk) (fun e => ?_) fun e => ?_).trans hk
  · subst e; obtain ⟨cs, t, fr, hb⟩ := hb; rw [hb] at hk; cases hk; simp [Obj.isCells] at ho
  · subst e; obtain ⟨cs, t, fr, hg⟩ := hg; rw [hg] at hk; cases hk; simp [Obj.isCells] at ho
theorem SadS.cellsB {W0 : World} {w h : Nat} {l : List Bound} {B o cap b Qv : Nat} {W : World} {q : List HpSt} {out : List Int} {done : List Bool} {g : Nat} (hS : SadS W0 w h l B o cap b Qv W q out done g) : (∃ cs t fr, W.heap[b]? = some (.cells cs t fr)) ∧ (∃ cs t fr, W.heap[g]? = some (.cells cs t fr)) := by
  obtain ⟨c', h1, cur, h2, _⟩ := hS.hp
  exact ⟨⟨_, _, _, h1⟩, ⟨_, _, _, h2⟩⟩
theorem HeapQ.mark {W W' : World} {b g : Nat} {q' : List HpSt} (hQ : HeapQ W b g q' W') {k : Nat} {o : Obj} (hk : W.heap[k]? = some o) (ho : o.isCells = false) (hc : (∃ cs t fr, W.heap[b]? = some (.cells cs t fr)) ∧ (∃ cs t fr, W.heap[g]? = some (.cells cs t fr))) : W'.heap[k]? = some o := by
  obtain ⟨_, _, _, _, _, _, h5⟩ := hQ
  exact h5.mark hk ho hc.1 hc.2
theorem SadS.heap {W0 : World} {w h : Nat} {l : List Bound} {B o cap b Qv : Nat} {W W' : World} {q q' : List HpSt} {out : List Int} {done : List Bool} {g : Nat} (hS : SadS W0 w h l B o cap b Qv W q out done g) (hQ : HeapQ W b g q' W') : ∃ g', SadS W0 w h l B o cap b Qv W' q' out done g' ∧ (g' = g ∨ W.heap.size ≤ g') := by
  obtain ⟨g', cap', h1, h2, h3, h4, h5⟩ := hQ
  obtain ⟨n1, n2, n3, n4, n5, n6⟩ := hS.ne
  have hsz := hS.below.size
  have hq := blk_lt hS.qv
  refine ⟨g', ⟨?_, (h5.block _ (blk_lt hS.c) (by omega) (by omega)).trans hS.c, (h5.block _ (blk_lt hS.o) (by omega) (by omega)).trans hS.o, (h5.block _ (blk_lt hS.d) (by omega) (by omega)).trans hS.d, (h5.block _ (blk_lt hS.db) (by omega) (by omega)).trans hS.db, (h5.block _ hq (fun e => n6 e.symm) (fun e => n5 e.symm)).trans hS.qv, ⟨cap', h1, h2⟩, hS.lo, hS.ld, ?_⟩, h4⟩
  · exact hS.below.trans ⟨h5.os, h5.tape, h5.output, Nat.le_trans hsz h5.size |> fun _ => h5.size, fun k hk => h5.block k (by omega) (by omega) (by omega)⟩
  · exact ⟨by rcases h4 with e | e <;> omega, n2, n3, fun e => h3 e.symm, by rcases h4 with e | e <;> omega, n6⟩
theorem SadS.grown {W0 : World} {w h : Nat} {l : List Bound} {B o cap b Qv : Nat} {W W' : World} {q : List HpSt} {out : List Int} {done : List Bool} {g : Nat} (hS : SadS W0 w h l B o cap b Qv W q out done g) (hg : W.grownBy W' none) : SadS W0 w h l B o cap b Qv W' q out done g := by
  have bl : ∀ (k : Nat) (o : Obj), W.heap[k]? = some o → W'.heap[k]? = some o := fun k o hk => (hg.block k (blk_lt hk) (by simp)).trans hk
  obtain ⟨c', h1, cur, h2, h3⟩ := hS.hp
  exact ⟨hS.below.trans ⟨hg.os, hg.tape, hg.output, hg.size, fun k hk => hg.block k (Nat.lt_of_lt_of_le hk hS.below.size) (by simp)⟩, bl _ _ hS.c, bl _ _ hS.o, bl _ _ hS.d, bl _ _ hS.db, bl _ _ hS.qv, ⟨c', bl _ _ h1, cur, bl _ _ h2, h3⟩, hS.lo, hS.ld, hS.ne⟩
theorem toA_set (xs : List Value) (i : Nat) (v : Value) : xs.toArray.setIfInBounds i v = (xs.set i v).toArray := by simp
theorem SadS.put {W0 : World} {w h : Nat} {l : List Bound} {B o cap b Qv : Nat} {W : World} {q : List HpSt} {out : List Int} {done : List Bool} {g : Nat} (hS : SadS W0 w h l B o cap b Qv W q out done g) (s0 : Nat) (sh : Int) :
    SadS W0 w h l B o cap b Qv (((W.setCell ⟨W0.heap.size + 2, s0, none⟩ (.bool true)).setCell ⟨W0.heap.size + 1, s0, none⟩ (.int .i64 sh)).drew) q (out.set s0 sh) (done.set s0 true) g := by
  obtain ⟨n1, n2, n3, n4, n5, n6⟩ := hS.ne
  have far : ∀ (k : Nat) (o : Obj), k ≠ W0.heap.size + 2 → k ≠ W0.heap.size + 1 → W.heap[k]? = some o → (((W.setCell ⟨W0.heap.size + 2, s0, none⟩ (.bool true)).setCell ⟨W0.heap.size + 1, s0, none⟩ (.int .i64 sh)).drew).heap[k]? = some o := fun k o h1 h2 hk => by
    show ((W.setCell ⟨W0.heap.size + 2, s0, none⟩ (.bool true)).setCell ⟨W0.heap.size + 1, s0, none⟩ (.int .i64 sh)).heap[k]? = some o
    rw [Below.heap_setCell _ _ _ k h2, Below.heap_setCell _ _ _ k h1]; exact hk
  obtain ⟨c', h1, cur, h2, h3⟩ := hS.hp
  refine ⟨?_, far _ _ (by omega) (by omega) hS.c, ?_, ?_, far _ _ (by omega) (by omega) hS.db, far _ _ (by omega) (by omega) hS.qv, ⟨c', far _ _ (by omega) (by omega) h1, cur, far _ _ (by omega) (by omega) h2, h3⟩, by simpa using hS.lo, by simpa using hS.ld, hS.ne⟩
  · exact (((hS.below.setCell (p := ⟨W0.heap.size + 2, s0, none⟩) (by simp) _).setCell (p := ⟨W0.heap.size + 1, s0, none⟩) (by simp) _).drew)
  · have := blk_set (blk_far hS.o (p := ⟨W0.heap.size + 2, s0, none⟩) (by simp) (.bool true)) s0 (.int .i64 sh)
    rw [toA_set, ← List.map_set] at this
    exact this
  · have := blk_far (blk_set hS.d s0 (.bool true)) (p := ⟨W0.heap.size + 1, s0, none⟩) (by simp) (.int .i64 sh)
    rw [toA_set, ← List.map_set] at this
    exact this
/-- What a region does in whatever order outside a round it does within a round, if it defers nothing. -/
theorem conv_op {P : Program} {ops : Array Oper} {Q : Exit → Act → World → Prop} {l n : Nat} (hnd : ∀ (i : Nat) (o : Oper), ops[i]? = some o → ∀ c, o.op ≠ .defer c) (hL : ¬ LetsOut Q) {i : Nat} {K K' : Act → World → Prop} {a : Act} {w : World}
    (hk : ∀ a w, K a w → K' a w) (h : wpOp P ops Q i K a w) : wpOpIn (Fence.wide.inRound l) n P ops Q i K' a w := by
  unfold wpOp at h
  unfold wpOpIn
  cases ho : ops[i]? with
  | none => rw [ho] at h; exact hk _ _ h
  | some o =>
    rw [ho] at h
    simp only at h ⊢
    split at h
    · rename_i hw
      rw [if_pos hw]
      rcases h with h | ⟨_, h⟩
      · unfold Oper.wp at h
        unfold Oper.wpIn
        refine ⟨fun _ _ => trivial, ?_⟩
        rw [show (Fence.wide.inRound l).round = some l from rfl, Oper.semAt_some l a.eval o (hnd i o ho)]
        generalize (execOp a.eval o).run P w = r at h
        cases r with
        | ok x w' =>
          cases x <;> simp only [Oper.upon] at h <;> simp only [Oper.uponIn]
          all_goals first
            | exact hk _ _ h
            | exact h.elim
            | exact ⟨fun e => (by cases e), CallsIn.inRound l (CallsIn.mono (callsIn_wide.2 h) (fun e w'' he => by cases e <;> first | exact hk _ _ he | exact he))⟩
            | exact ⟨fun e => (by cases e), fun c cs _ => let ⟨v, w', q, s⟩ := h c cs; ⟨v, w', hk _ _ q, stepsIn_wide.2 s⟩⟩
        | halt x w' => cases x <;> simp only [Oper.upon] at h <;> simp only [Oper.uponIn] <;> exact h
      · exact absurd h hL
    · rename_i hw
      rw [if_neg hw]
      exact ⟨fun _ _ => trivial, hk _ _ h⟩
theorem conv_any {P : Program} {ops : Array Oper} {Q : Exit → Act → World → Prop} {md : Region.Mode} {l n : Nat} (hnd : ∀ (i : Nat) (o : Oper), ops[i]? = some o → ∀ c, o.op ≠ .defer c) (hL : ¬ LetsOut Q) :
    ∀ (fuel : Nat) (listed : Array Bool) (a : Act) (w : World), wpAny P md ops Q fuel listed a w → wpAnyIn (Fence.wide.inRound l) n P md ops Q fuel listed a w
  | 0, _, _, _, h => h
  | fuel + 1, _, _, _, h => ⟨h.1, fun i hi => conv_op hnd hL (fun a' w' h' => conv_any hnd hL fuel _ a' w' h') (h.2 i hi)⟩
theorem region_round {P : Program} {ops : Array Oper} {Q : Exit → Act → World → Prop} {S : World → Prop} {l n id : Nat} {a : Act} {w : World} (hm : P.follows .mixedOrders = true) (hnd : ∀ (i : Nat) (o : Oper), ops[i]? = some o → ∀ c, o.op ≠ .defer c) (hL : ¬ LetsOut Q)
    (h : wpAnyH P .any ops Q S ops.size (Array.replicate ops.size false) a w.drew) : (Code.region id ops true).wpIn (Fence.wide.inRound l) n P Q a w :=
  wpIn_region_any hm (conv_any hnd hL _ _ _ _ (wpAny_of_held _ _ _ _ h))
/-- One step of a region, taken first. -/
theorem wpAnyH_quiet {P : Program} {ops : Array Oper} {Q : Exit → Act → World → Prop} {S : World → Prop} {md : Region.Mode} (i : Nat) {oi : Oper} (v : Value) {fuel : Nat} {listed : Array Bool} {a a' : Act} {w : World} (hi : ops[i]? = some oi)
    (hs : Region.noSelect ops = true) (hf : Region.free md ops listed i = true) (hr : (Region.ready md ops listed).contains i = true) (hg : oi.guard = none)
    (hQ : ∀ c a w, Q (.panic c) (a.put oi.dst v) w → Q (.panic c) a w) (hy : ∀ w, S w → (execOp a.eval oi).run P w = .ok (.value v) w) (hS : S w) (ha : a' = a.put oi.dst v)
    (h : wpAnyH P md ops Q S fuel (listed.setIfInBounds i true) a' w) : wpAnyH P md ops Q S (fuel + 1) listed a w := by
  subst ha
  exact wpAnyH_take hi hs hf hr hQ (.inl ⟨by simp [Region.wanted, hg], hy⟩) hS h
/-- One step that is alone. -/
theorem wpAnyH_one {P : Program} {ops : Array Oper} {Q : Exit → Act → World → Prop} {S : World → Prop} {md : Region.Mode} (i : Nat) {oi : Oper} {fuel : Nat} {listed : Array Bool} {a : Act} {w : World} (hi : ops[i]? = some oi)
    (hr : Region.ready md ops listed = [i]) (hg : oi.guard = none) (h : Oper.wp P oi a w (fun a' w' => S w' ∧ wpAnyH P md ops Q S fuel (listed.setIfInBounds i true) a' w') Q) : wpAnyH P md ops Q S (fuel + 1) listed a w := by
  refine wpAnyH_all hr (by simp) fun j hj => ?_
  obtain rfl : j = i := by simpa using hj
  unfold wpOp
  rw [hi]
  show if Region.wanted oi (yielded ops a.tmps) = true then _ else _
  rw [if_pos (by simp [Region.wanted, hg])]
  exact .inl h
def noDefer (ops : Array Oper) : Bool := ops.toList.all fun o => match o.op with | .defer _ => false | _ => true
theorem noDefer_spec {ops : Array Oper} (h : noDefer ops = true) : ∀ (i : Nat) (o : Oper), ops[i]? = some o → ∀ c, o.op ≠ .defer c := fun i o ho c hc => by
  have hm : o ∈ ops.toList := by
    rw [← Array.getElem?_toList] at ho
    exact List.mem_of_getElem? ho
  have := List.all_eq_true.1 h o hm
  rw [hc] at this
  cases this
theorem wp_call {P : Program} {o : Oper} {a : Act} {w : World} {K : Act → World → Prop} {Q : Exit → Act → World → Prop} {f : FuncId} {args : Array Value} (hx : (execOp a.eval o).run P w = .ok (.enter f args) w)
    (h : Calls P f args w fun e w' => ∃ v, e = .returned v ∧ K (a.put o.dst v) w') : Oper.wp P o a w K Q := by
  unfold Oper.wp
  rw [hx]
  refine h.mono ?_
  rintro e w' ⟨v, rfl, h⟩
  exact h
theorem pushN_snoc (l : List Bound) (done : List Bool) (ht : Int) (i : Nat) : ∀ (is : List Nat) (q : List HpSt), pushN l done ht (is ++ [i]) q = if done.getD i false = true then pushN l done ht is q else pushS (pushN l done ht is q) ((i : Int), min ht (hgtB (atB l i)))
  | [], q => by simp only [List.nil_append, pushN]
  | j :: is, q => by
    rw [List.cons_append, pushN, pushN]
    split <;> exact pushN_snoc l done ht i is _
theorem pushS_len (q : List HpSt) (s : HpSt) : (pushS q s).length = q.length + 1 := by unfold pushS; rw [upS_len]; simp
theorem pushN_len (l : List Bound) (done : List Bool) (ht : Int) : ∀ (is : List Nat) (q : List HpSt), (pushN l done ht is q).length ≤ q.length + is.length
  | [], q => by simp [pushN]
  | i :: is, q => by
    rw [pushN]
    split
    · have := pushN_len l done ht is q
      simp; omega
    · have := pushN_len l done ht is (pushS q ((i : Int), min ht (hgtB (atB l i))))
      rw [pushS_len] at this
      simp; omega
theorem nbU_len (w x y v : Nat) : ∀ (u m : Nat), (nbU w x y v u m).length ≤ m
  | u, 0 => by simp [nbU]
  | u, m + 1 => by
    rw [nbU]
    have := nbU_len w x y v (u + 1) m
    split
    · omega
    · simp; omega
theorem nbV_len (w x y u0 m : Nat) : ∀ (v k : Nat), (nbV w x y u0 m v k).length ≤ m * k
  | v, 0 => by simp [nbV]
  | v, k + 1 => by
    rw [nbV, List.length_append, Nat.mul_succ]
    have := nbV_len w x y u0 m (v + 1) k
    have := nbU_len w x y v u0 m
    omega
theorem nbs_len (w h i : Nat) : (nbs w h i).length ≤ 9 := by
  unfold nbs
  simp only
  refine Nat.le_trans (nbV_len _ _ _ _ _ _ _) (Nat.le_trans (Nat.mul_le_mul (show _ ≤ 3 by omega) (show _ ≤ 3 by omega)) (by decide))
theorem nbU_lt (w x y v h : Nat) (hv : v < h) : ∀ (u m : Nat), u + m ≤ w → ∀ z ∈ nbU w x y v u m, z < w * h
  | u, 0, _, z, hz => by simp [nbU] at hz
  | u, m + 1, hu, z, hz => by
    rw [nbU] at hz
    have ih := nbU_lt w x y v h hv (u + 1) m (by omega)
    split at hz
    · exact ih z hz
    · rcases List.mem_cons.1 hz with e | e
      · subst e
        have : (v + 1) * w ≤ h * w := Nat.mul_le_mul_right w hv
        rw [Nat.succ_mul] at this
        rw [Nat.mul_comm w h]; omega
      · exact ih z e
theorem nbV_lt (w x y u0 m h : Nat) (hu : u0 + m ≤ w) : ∀ (v k : Nat), v + k ≤ h → ∀ z ∈ nbV w x y u0 m v k, z < w * h
  | v, 0, _, z, hz => by simp [nbV] at hz
  | v, k + 1, hv, z, hz => by
    rw [nbV] at hz
    rcases List.mem_append.1 hz with e | e
    · exact nbU_lt w x y v h (by omega) u0 m hu z e
    · exact nbV_lt w x y u0 m h hu (v + 1) k (by omega) z e
theorem nbs_lt (w h i : Nat) (hw : 1 ≤ w) (hh : 1 ≤ h) (hi : i < w * h) : ∀ z ∈ nbs w h i, z < w * h := by
  have hx : i % w < w := Nat.mod_lt _ hw
  have hy : i / w < h := Nat.div_lt_of_lt_mul hi
  unfold nbs
  exact nbV_lt w _ _ _ _ h (by omega) _ _ (by omega)
theorem sub_list {N : Nat} : ∀ L : List Nat, (∀ x ∈ L, x < N) → ∃ zs : List (Cell N), zs.map (·.1) = L
  | [], _ => ⟨[], rfl⟩
  | x :: L, h => by
    obtain ⟨zs, hz⟩ := sub_list L fun y hy => h y (List.mem_cons_of_mem _ hy)
    exact ⟨⟨x, h x List.mem_cons_self⟩ :: zs, by rw [List.map_cons, hz]⟩
def valN {N : Nat} (zs : List (Cell N)) : List Nat := zs.map (·.1)
theorem valN_snoc {N : Nat} (zs : List (Cell N)) (x : Cell N) : valN (zs ++ [x]) = valN zs ++ [x.1] := by unfold valN; simp
theorem valN_len {N : Nat} (zs : List (Cell N)) : (valN zs).length = zs.length := by unfold valN; simp
theorem SadS.own {W0 : World} {w h : Nat} {l : List Bound} {B o cap b Qv : Nat} {W W' : World} {q : List HpSt} {out : List Int} {done : List Bool} {g : Nat} (hS : SadS W0 w h l B o cap b Qv W q out done g) {row : Option Nat} (hg : W.grownBy W' row) (hr : ∀ r, row = some r → W0.heap.size ≤ r ∧ ∃ ob : Obj, W.heap[r]? = some ob ∧ ob.isCells = false) : SadS W0 w h l B o cap b Qv W' q out done g := by
  have bl : ∀ (k : Nat) (cs : Array Value) (t : TypeId) (f : Nat × Nat), W.heap[k]? = some (.cells cs t f) → W'.heap[k]? = some (.cells cs t f) := fun k cs t f hk => (hg.block k (blk_lt hk) (fun e => by
    obtain ⟨_, ob, h1, h2⟩ := hr k e.symm
    rw [hk] at h1; cases h1; simp [Obj.isCells] at h2)).trans hk
  obtain ⟨c', h1, cur, h2, h3⟩ := hS.hp
  exact ⟨hS.below.trans ⟨hg.os, hg.tape, hg.output, hg.size, fun k hk => hg.block k (Nat.lt_of_lt_of_le hk hS.below.size) (fun e => by have := (hr k e.symm).1; omega)⟩, bl _ _ _ _ hS.c, bl _ _ _ _ hS.o, bl _ _ _ _ hS.d, bl _ _ _ _ hS.db, bl _ _ _ _ hS.qv, ⟨c', bl _ _ _ _ h1, cur, bl _ _ _ _ h2, h3⟩, hS.lo, hS.ld, hS.ne⟩
theorem HeapQ.keepsFrom {W W' : World} {b g : Nat} {q' : List HpSt} (hQ : HeapQ W b g q' W') (hc : (∃ cs t fr, W.heap[b]? = some (.cells cs t fr)) ∧ (∃ cs t fr, W.heap[g]? = some (.cells cs t fr))) (B : Nat) : KeepsFrom B W W' := by
  have hQ' := hQ
  obtain ⟨_, _, _, _, _, _, h5⟩ := hQ'
  exact ⟨h5.size, fun k ob _ hk ho => hQ.mark hk ho hc⟩
set_option maxHeartbeats 4000000 in
theorem sad_range (W0 : World) (w h : Nat) (hw : 1 ≤ w ∧ w ≤ 32) (hh : 1 ≤ h ∧ h ≤ 32) (l : List Bound) (hl : l.length = w * h) (B o cap b Qv : Nat) (hA : RowB W0 (some ⟨B, o, none⟩) l) (hcap : l.length ≤ cap) (n0 : Nat) (hn0 : W0.heap.size = n0) (rc : Code) (hrc : rc = blockB (seqR (seqR (seqR (seqR (blockB (seqR (loopB (blockB (seqL (seqR (seqR (seqR (seqR (Try.f48.body.getD .skip)))))))))))))))
    (t0 t1 t3 t4 t5 t9 t10 t11 t12 t13 t14 t15 t16 t17 t18 t19 t20 t21 t22 t23 t24 t25 t26 t27 t28 t29 t30 t31 t32 t33 t34 t35 t36 t37 t38 t39 t40 t41 t42 t43 t44 t45 t46 t47 t48 t49 t50 t51 t52 t53 t54 t55 t56 t57 t59 t60 t61 t62 t63 t64 t65 t66 t67 t68 t69 t70 t71 t72 t73 t74 t75 t76 t77 t78 t79 t80 : Value) (Qr : Exit → Act → World → Prop) (dsv : List Deferred) (Ds : List Nat) (W4 : World) (q1 : List HpSt) (out1 : List Int) (done1 : List Bool) (g1 s0 : Nat) (sh : Int) (Sx Bw Bh Bi : Nat) (hS4 : SadS W0 w h l B o cap b Qv W4 q1 out1 done1 g1) (hSx : W4.heap[Sx]? = some (.cells #[.int .i64 s0, .int .i64 sh] 127 (0, 0)))
    (c1 : W4.heap[Bw]? = some (.cells #[.int .i64 w] 3 (0, 0))) (c2 : W4.heap[Bh]? = some (.cells #[.int .i64 h] 3 (0, 0))) (c3 : W4.heap[Bi]? = some (.cells #[.int .i64 s0] 3 (0, 0))) (hE : ∀ D ∈ Ds, W4.heap[D]? = some (.deferred (some []))) (hq : q1.length < 90000) (hs0 : s0 < l.length) (hd : g1 ≠ Sx ∧ g1 ≠ Bw ∧ g1 ≠ Bh ∧ g1 ≠ Bi ∧ b ≠ Sx ∧ b ≠ Bw ∧ b ≠ Bh ∧ b ≠ Bi)
    (hK : ∀ (D : Nat) (W : World) (g' : Nat), W4.heap.size ≤ D → SadS W0 w h l B o cap b Qv W (pushN l done1 sh (nbs w h s0) q1) out1 done1 g' → (∀ D' ∈ Ds, W.heap[D']? = some (.deferred (some []))) → W.heap[D]? = some (.deferred (some [])) → Qr .normal { tmps := #[t0, t1, .pointer (some ⟨n0, 0, none⟩), t3, t4, t5, .pointer (some ⟨n0 + 3, 0, none⟩), .pointer (some ⟨Qv, 0, none⟩), .pointer (some ⟨Sx, 0, none⟩), t9, t10, t11, t12, t13, t14, t15, t16, t17, t18, t19, t20, t21, t22, t23, t24, t25, t26, t27, t28, t29, t30, t31, t32, t33, t34, t35, t36, t37, t38, t39, t40, t41, t42, t43, t44, t45, t46, t47, t48, t49, t50, t51, t52, t53, t54, t55, t56, t57, .func (.func 72) #[] #[.pointer (some ⟨Bw, 0, none⟩), .pointer (some ⟨Bh, 0, none⟩), .pointer (some ⟨Bi, 0, none⟩)], t59, t60, t61, t62, t63, t64, t65, t66, t67, t68, t69, t70, t71, t72, t73, t74, t75, t76, t77, t78, t79, t80], defers := mk D :: dsv } W) :
    rc.wpIn Fence.wide 8 Try.prog Qr { tmps := #[t0, t1, .pointer (some ⟨n0, 0, none⟩), t3, t4, t5, .pointer (some ⟨n0 + 3, 0, none⟩), .pointer (some ⟨Qv, 0, none⟩), .pointer (some ⟨Sx, 0, none⟩), t9, t10, t11, t12, t13, t14, t15, t16, t17, t18, t19, t20, t21, t22, t23, t24, t25, t26, t27, t28, t29, t30, t31, t32, t33, t34, t35, t36, t37, t38, t39, t40, t41, t42, t43, t44, t45, t46, t47, t48, t49, t50, t51, t52, t53, t54, t55, t56, t57, .func (.func 72) #[] #[.pointer (some ⟨Bw, 0, none⟩), .pointer (some ⟨Bh, 0, none⟩), .pointer (some ⟨Bi, 0, none⟩)], t59, t60, t61, t62, t63, t64, t65, t66, t67, t68, t69, t70, t71, t72, t73, t74, t75, t76, t77, t78, t79, t80], defers := dsv } W4 := by
  subst hrc
  simp only [Try.f48, Option.getD_some, seqL, seqR, blockB, loopB]
  obtain ⟨zs, hz⟩ := sub_list (N := l.length) (nbs w h s0) (by rw [hl]; exact nbs_lt w h s0 hw.1 hh.1 (by rw [← hl]; exact hs0))
  have hzl : zs.length ≤ 9 := by
    have := congrArg List.length hz
    rw [List.length_map] at this; rw [this]; exact nbs_len w h s0
  have hN : l.length ≤ 1024 := by rw [hl]; exact Nat.le_trans (Nat.mul_le_mul hw.2 hh.2) (by decide)
  have hlt : ∀ D ∈ Ds, D < W4.heap.size := fun D hD => blk_lt (hE D hD)
  have b1 := blk_lt c1
  have b2 := blk_lt c2
  have b3 := blk_lt c3
  have b4 := blk_lt hSx
  have fresh : ∀ (k : Nat) (cs : Array Value) (t : TypeId) (f : Nat × Nat) (A B : World) (row : Option Nat), A.heap[k]? = some (.cells cs t f) → A.grownBy B row → (∀ r, row = some r → W4.heap.size ≤ r ∧ ∃ ob : Obj, A.heap[r]? = some ob ∧ ob.isCells = false) → B.heap[k]? = some (.cells cs t f) := fun k cs t f A B row hk hg hr => (hg.block k (blk_lt hk) (fun e => by
    obtain ⟨_, ob, h1, h2⟩ := hr k e.symm
    rw [hk] at h1; cases h1; simp [Obj.isCells] at h2)).trans hk
  refine wpIn_rangeFunc_ownG (α := Cell l.length) rfl (by omega) (gf := 72) (lb := #[.pointer (some ⟨Bw, 0, none⟩), .pointer (some ⟨Bh, 0, none⟩), .pointer (some ⟨Bi, 0, none⟩)]) rfl trivial (enters_of Try.func72 (by kernel_rfl) rfl)
    (around_stops 7 (by omega) Bw Bh Bi l.length w h s0 hw hh (by rw [← hl]; exact hs0) zs hz W4 c1 c2 c3) (fun h k => h.t k)
    (fun W l' ob ob' hle hk _ _ => ⟨(grownBy_putObj' W l' ob').block Bw (by have := blk_lt hk; omega) (by simp; omega), (grownBy_putObj' W l' ob').block Bh (by have := blk_lt hk; omega) (by simp; omega), (grownBy_putObj' W l' ob').block Bi (by have := blk_lt hk; omega) (by simp; omega)⟩) (Below.refl _ _) (fun _ => rfl)
    (fun pre W => (∃ g', SadS W0 w h l B o cap b Qv W (pushN l done1 sh (valN pre) q1) out1 done1 g' ∧ (g' = g1 ∨ W4.heap.size ≤ g')) ∧ W.heap[Sx]? = some (.cells #[.int .i64 s0, .int .i64 sh] 127 (0, 0)) ∧ W4.heap.size ≤ W.heap.size ∧ ∀ D ∈ Ds, W.heap[D]? = some (.deferred (some [])))
    (fun _ _ _ => False)
    (fun pre A B' row hs hg hr => by
      obtain ⟨⟨g', h1, h2⟩, h3, h4, h5⟩ := hs
      refine ⟨⟨g', h1.own hg (fun r e => ⟨Nat.le_trans hS4.below.size (hr r e).1, (hr r e).2⟩), h2⟩, fresh _ _ _ _ A B' row h3 hg hr, Nat.le_trans h4 hg.size, fun D hD => ?_⟩
      refine (hg.block D (blk_lt (h5 D hD)) (fun e => ?_)).trans (h5 D hD)
      have := (hr D e.symm).1
      have := hlt D hD
      omega)
    (fun _ _ _ _ _ hs _ _ => hs)
    ⟨⟨g1, hS4, .inl rfl⟩, hSx, Nat.le_refl _, hE⟩
    (fun x => { tmps := #[t0, t1, .pointer (some ⟨n0, 0, none⟩), t3, t4, t5, .pointer (some ⟨n0 + 3, 0, none⟩), .pointer (some ⟨Qv, 0, none⟩), .pointer (some ⟨Sx, 0, none⟩), .int .i64 (x.1 : Int), t10, t11, t12, t13, t14, t15, t16, t17, t18, t19, t20, t21, t22, t23, t24, t25, t26, t27, t28, t29, t30, t31, t32, t33, t34, t35, t36, t37, t38, t39, t40, t41, t42, t43, t44, t45, t46, t47, t48, t49, t50, t51, t52, t53, t54, t55, t56, t57, .func (.func 72) #[] #[.pointer (some ⟨Bw, 0, none⟩), .pointer (some ⟨Bh, 0, none⟩), .pointer (some ⟨Bi, 0, none⟩)], .int .i64 (x.1 : Int), t60, t61, t62, t63, t64, t65, t66, t67, t68, t69, t70, t71, t72, t73, t74, t75, t76, t77, t78, t79, t80], defers := [] }) ?assign ?body ?done ?stop
  case assign =>
    intro l' x W K hK
    simp only [encN]
    gi_wp2
    exact hK
  case body =>
    rintro l' pre x W ⟨⟨g', hS, hg'⟩, hSx', hsz, hE'⟩ hlen
    have hx := x.2
    have zd := (cel1 hS.db).1
    have zdn := (cel_get hS.d x.1 (v := .bool (done1.getD x.1 false)) (by have := hS.ld; simp [List.getElem?_map]; rw [List.getElem?_eq_getElem (show x.1 < done1.length by omega)]; rfl)).1
    rw [hn0] at zd zdn
    have HS := Lib.hid hS
    have HSX := Lib.hid hSx'
    have HE := Lib.hid hE'
    have HG := Lib.hid hg'
    have HZ := Lib.hid hz
    have HK := Lib.hid hK
    have HS4 := Lib.hid hS4
    have HE4 := Lib.hid hE
    have HLT := Lib.hid hlt
    have HF := Lib.hid fresh
    have HL := Lib.hid hl
    have HA := Lib.hid hA
    clear hS hSx' hE' hg' hz hK hS4 hE hlt fresh hl hA c1 c2 c3 hSx
    cases hdv : done1.getD x.1 false with
    | true =>
      rw [hdv] at zdn
      gi_wp2
      refine ⟨KeepsFrom.refl _ _, KpB.refl, ⟨g', ?_, HG.out⟩, HSX.out, hsz, HE.out⟩
      rw [valN_snoc, pushN_snoc, hdv, if_pos rfl]
      exact HS.out
    | false =>
      rw [hdv] at zdn
      have hmix : Try.prog.follows .mixedOrders = true := by kernel_rfl
      have hxl : (valN pre).length ≤ 9 := by rw [valN_len]; omega
      have hpl := pushN_len l done1 sh (valN pre) q1
      obtain ⟨cap', hp1, hp2⟩ := HS.out.hp
      have zq := (cel1 HS.out.qv).1
      have zs' := (cel_get HSX.out 1 rfl).1
      have zc := (cel_get HS.out.c 2 rfl).1
      rw [hn0] at zc
      obtain ⟨_, _, rr, hb0, hb1, hb2⟩ := HA.out x.1 hx
      cases rr
      have hBl := World.block_lt_of_cell? W0 ⟨B, o + x.1 * 3, none⟩ hb0
      have zb0 := (HS.out.below.cell (p := ⟨B, o + x.1 * 3, none⟩) hBl).trans hb0
      have zb1 := (HS.out.below.cell (p := ⟨B, o + x.1 * 3 + 1, none⟩) hBl).trans hb1
      have zb2 := (HS.out.below.cell (p := ⟨B, o + x.1 * 3 + 2, none⟩) hBl).trans hb2
      have HP1 := Lib.hid hp1
      have HP2 := Lib.hid hp2
      clear hp1 hp2
      have emin : (if hgt (atB l x.1).Lo (atB l x.1).Hi (atB l x.1).Unknown < sh then hgt (atB l x.1).Lo (atB l x.1).Hi (atB l x.1).Unknown else sh) = min sh (hgt (atB l x.1).Lo (atB l x.1).Hi (atB l x.1).Unknown) := by split <;> omega
      have hne := HS.out.ne
      have SW : W.drew.cell? ⟨Qv, 0, none⟩ = some (.pointer (some ⟨b, 0, none⟩)) ∧ W.drew.cell? ⟨Sx, 1, none⟩ = some (.int .i64 sh) ∧ W.drew.cell? ⟨n0, 2, none⟩ = some (.slice (some ⟨B, o, none⟩) l.length cap) ∧ W.drew.cell? ⟨B, o + x.1 * 3, none⟩ = some (.int .i64 (atB l x.1).Lo) ∧ W.drew.cell? ⟨B, o + x.1 * 3 + 1, none⟩ = some (.int .i64 (atB l x.1).Hi) ∧ W.drew.cell? ⟨B, o + x.1 * 3 + 2, none⟩ = some (.bool (atB l x.1).Unknown) := ⟨zq, zs', zc, zb0, zb1, zb2⟩
      have HSW := Lib.hid SW
      clear SW
      gi_wp2
      have SW := HSW.out
      clear zd zdn zq zs' zc zb0 zb1 zb2
      refine region_round (S := fun w' => w'.cell? ⟨Qv, 0, none⟩ = some (.pointer (some ⟨b, 0, none⟩)) ∧ w'.cell? ⟨Sx, 1, none⟩ = some (.int .i64 sh) ∧ w'.cell? ⟨n0, 2, none⟩ = some (.slice (some ⟨B, o, none⟩) l.length cap) ∧ w'.cell? ⟨B, o + x.1 * 3, none⟩ = some (.int .i64 (atB l x.1).Lo) ∧ w'.cell? ⟨B, o + x.1 * 3 + 1, none⟩ = some (.int .i64 (atB l x.1).Hi) ∧ w'.cell? ⟨B, o + x.1 * 3 + 2, none⟩ = some (.bool (atB l x.1).Unknown)) hmix (noDefer_spec (by kernel_rfl)) (fun ⟨_, _, h⟩ => h) ?_
      refine wpAnyH_quiet 0 (.pointer (some ⟨b, 0, none⟩)) (a' := { tmps := #[t0, t1, .pointer (some ⟨n0, 0, none⟩), t3, t4, t5, .pointer (some ⟨n0 + 3, 0, none⟩), .pointer (some ⟨Qv, 0, none⟩), .pointer (some ⟨Sx, 0, none⟩), .int .i64 (x.1 : Int), t10, t11, t12, t13, t14, t15, t16, t17, t18, t19, t20, t21, t22, t23, t24, t25, t26, t27, t28, t29, t30, t31, t32, t33, t34, t35, t36, t37, t38, t39, t40, t41, t42, t43, t44, t45, t46, t47, t48, t49, t50, t51, t52, t53, t54, t55, t56, t57, .func (.func 72) #[] #[.pointer (some ⟨Bw, 0, none⟩), .pointer (some ⟨Bh, 0, none⟩), .pointer (some ⟨Bi, 0, none⟩)], .int .i64 (x.1 : Int), .slice (some ⟨n0 + 2, 0, none⟩) l.length l.length, .int .i64 (x.1 : Int), .pointer (some ⟨n0 + 2, x.1, none⟩), .bool false, .bool true, .pointer (some ⟨b, 0, none⟩), t66, t67, t68, t69, t70, t71, t72, t73, t74, t75, t76, t77, t78, t79, t80], defers := [] }) rfl (by kernel_rfl) (by kernel_rfl) (by kernel_rfl) rfl (fun _ _ _ h => h) ?_ SW rfl ?_
      · rintro w' ⟨s1, s2, s3, s4, s5, s6⟩; go_simp
      refine wpAnyH_quiet 1 (.iface 124 (.pointer (some ⟨b, 0, none⟩))) (a' := { tmps := #[t0, t1, .pointer (some ⟨n0, 0, none⟩), t3, t4, t5, .pointer (some ⟨n0 + 3, 0, none⟩), .pointer (some ⟨Qv, 0, none⟩), .pointer (some ⟨Sx, 0, none⟩), .int .i64 (x.1 : Int), t10, t11, t12, t13, t14, t15, t16, t17, t18, t19, t20, t21, t22, t23, t24, t25, t26, t27, t28, t29, t30, t31, t32, t33, t34, t35, t36, t37, t38, t39, t40, t41, t42, t43, t44, t45, t46, t47, t48, t49, t50, t51, t52, t53, t54, t55, t56, t57, .func (.func 72) #[] #[.pointer (some ⟨Bw, 0, none⟩), .pointer (some ⟨Bh, 0, none⟩), .pointer (some ⟨Bi, 0, none⟩)], .int .i64 (x.1 : Int), .slice (some ⟨n0 + 2, 0, none⟩) l.length l.length, .int .i64 (x.1 : Int), .pointer (some ⟨n0 + 2, x.1, none⟩), .bool false, .bool true, .pointer (some ⟨b, 0, none⟩), .iface 124 (.pointer (some ⟨b, 0, none⟩)), t67, t68, t69, t70, t71, t72, t73, t74, t75, t76, t77, t78, t79, t80], defers := [] }) rfl (by kernel_rfl) (by kernel_rfl) (by kernel_rfl) rfl (fun _ _ _ h => h) ?_ SW rfl ?_
      · rintro w' ⟨s1, s2, s3, s4, s5, s6⟩; go_simp
      refine wpAnyH_quiet 2 (.int .i64 (x.1 : Int)) (a' := { tmps := #[t0, t1, .pointer (some ⟨n0, 0, none⟩), t3, t4, t5, .pointer (some ⟨n0 + 3, 0, none⟩), .pointer (some ⟨Qv, 0, none⟩), .pointer (some ⟨Sx, 0, none⟩), .int .i64 (x.1 : Int), t10, t11, t12, t13, t14, t15, t16, t17, t18, t19, t20, t21, t22, t23, t24, t25, t26, t27, t28, t29, t30, t31, t32, t33, t34, t35, t36, t37, t38, t39, t40, t41, t42, t43, t44, t45, t46, t47, t48, t49, t50, t51, t52, t53, t54, t55, t56, t57, .func (.func 72) #[] #[.pointer (some ⟨Bw, 0, none⟩), .pointer (some ⟨Bh, 0, none⟩), .pointer (some ⟨Bi, 0, none⟩)], .int .i64 (x.1 : Int), .slice (some ⟨n0 + 2, 0, none⟩) l.length l.length, .int .i64 (x.1 : Int), .pointer (some ⟨n0 + 2, x.1, none⟩), .bool false, .bool true, .pointer (some ⟨b, 0, none⟩), .iface 124 (.pointer (some ⟨b, 0, none⟩)), .int .i64 (x.1 : Int), t68, t69, t70, t71, t72, t73, t74, t75, t76, t77, t78, t79, t80], defers := [] }) rfl (by kernel_rfl) (by kernel_rfl) (by kernel_rfl) rfl (fun _ _ _ h => h) ?_ SW rfl ?_
      · rintro w' ⟨s1, s2, s3, s4, s5, s6⟩; go_simp
      refine wpAnyH_quiet 3 (.pointer (some ⟨Sx, 1, none⟩)) (a' := { tmps := #[t0, t1, .pointer (some ⟨n0, 0, none⟩), t3, t4, t5, .pointer (some ⟨n0 + 3, 0, none⟩), .pointer (some ⟨Qv, 0, none⟩), .pointer (some ⟨Sx, 0, none⟩), .int .i64 (x.1 : Int), t10, t11, t12, t13, t14, t15, t16, t17, t18, t19, t20, t21, t22, t23, t24, t25, t26, t27, t28, t29, t30, t31, t32, t33, t34, t35, t36, t37, t38, t39, t40, t41, t42, t43, t44, t45, t46, t47, t48, t49, t50, t51, t52, t53, t54, t55, t56, t57, .func (.func 72) #[] #[.pointer (some ⟨Bw, 0, none⟩), .pointer (some ⟨Bh, 0, none⟩), .pointer (some ⟨Bi, 0, none⟩)], .int .i64 (x.1 : Int), .slice (some ⟨n0 + 2, 0, none⟩) l.length l.length, .int .i64 (x.1 : Int), .pointer (some ⟨n0 + 2, x.1, none⟩), .bool false, .bool true, .pointer (some ⟨b, 0, none⟩), .iface 124 (.pointer (some ⟨b, 0, none⟩)), .int .i64 (x.1 : Int), .pointer (some ⟨Sx, 1, none⟩), t69, t70, t71, t72, t73, t74, t75, t76, t77, t78, t79, t80], defers := [] }) rfl (by kernel_rfl) (by kernel_rfl) (by kernel_rfl) rfl (fun _ _ _ h => h) ?_ SW rfl ?_
      · rintro w' ⟨s1, s2, s3, s4, s5, s6⟩; go_simp
      refine wpAnyH_quiet 4 (.int .i64 sh) (a' := { tmps := #[t0, t1, .pointer (some ⟨n0, 0, none⟩), t3, t4, t5, .pointer (some ⟨n0 + 3, 0, none⟩), .pointer (some ⟨Qv, 0, none⟩), .pointer (some ⟨Sx, 0, none⟩), .int .i64 (x.1 : Int), t10, t11, t12, t13, t14, t15, t16, t17, t18, t19, t20, t21, t22, t23, t24, t25, t26, t27, t28, t29, t30, t31, t32, t33, t34, t35, t36, t37, t38, t39, t40, t41, t42, t43, t44, t45, t46, t47, t48, t49, t50, t51, t52, t53, t54, t55, t56, t57, .func (.func 72) #[] #[.pointer (some ⟨Bw, 0, none⟩), .pointer (some ⟨Bh, 0, none⟩), .pointer (some ⟨Bi, 0, none⟩)], .int .i64 (x.1 : Int), .slice (some ⟨n0 + 2, 0, none⟩) l.length l.length, .int .i64 (x.1 : Int), .pointer (some ⟨n0 + 2, x.1, none⟩), .bool false, .bool true, .pointer (some ⟨b, 0, none⟩), .iface 124 (.pointer (some ⟨b, 0, none⟩)), .int .i64 (x.1 : Int), .pointer (some ⟨Sx, 1, none⟩), .int .i64 sh, t70, t71, t72, t73, t74, t75, t76, t77, t78, t79, t80], defers := [] }) rfl (by kernel_rfl) (by kernel_rfl) (by kernel_rfl) rfl (fun _ _ _ h => h) ?_ SW rfl ?_
      · rintro w' ⟨s1, s2, s3, s4, s5, s6⟩; go_simp
      refine wpAnyH_quiet 5 (.pointer (some ⟨n0, 2, none⟩)) (a' := { tmps := #[t0, t1, .pointer (some ⟨n0, 0, none⟩), t3, t4, t5, .pointer (some ⟨n0 + 3, 0, none⟩), .pointer (some ⟨Qv, 0, none⟩), .pointer (some ⟨Sx, 0, none⟩), .int .i64 (x.1 : Int), t10, t11, t12, t13, t14, t15, t16, t17, t18, t19, t20, t21, t22, t23, t24, t25, t26, t27, t28, t29, t30, t31, t32, t33, t34, t35, t36, t37, t38, t39, t40, t41, t42, t43, t44, t45, t46, t47, t48, t49, t50, t51, t52, t53, t54, t55, t56, t57, .func (.func 72) #[] #[.pointer (some ⟨Bw, 0, none⟩), .pointer (some ⟨Bh, 0, none⟩), .pointer (some ⟨Bi, 0, none⟩)], .int .i64 (x.1 : Int), .slice (some ⟨n0 + 2, 0, none⟩) l.length l.length, .int .i64 (x.1 : Int), .pointer (some ⟨n0 + 2, x.1, none⟩), .bool false, .bool true, .pointer (some ⟨b, 0, none⟩), .iface 124 (.pointer (some ⟨b, 0, none⟩)), .int .i64 (x.1 : Int), .pointer (some ⟨Sx, 1, none⟩), .int .i64 sh, .pointer (some ⟨n0, 2, none⟩), t71, t72, t73, t74, t75, t76, t77, t78, t79, t80], defers := [] }) rfl (by kernel_rfl) (by kernel_rfl) (by kernel_rfl) rfl (fun _ _ _ h => h) ?_ SW rfl ?_
      · rintro w' ⟨s1, s2, s3, s4, s5, s6⟩; go_simp
      refine wpAnyH_quiet 6 (.slice (some ⟨B, o, none⟩) l.length cap) (a' := { tmps := #[t0, t1, .pointer (some ⟨n0, 0, none⟩), t3, t4, t5, .pointer (some ⟨n0 + 3, 0, none⟩), .pointer (some ⟨Qv, 0, none⟩), .pointer (some ⟨Sx, 0, none⟩), .int .i64 (x.1 : Int), t10, t11, t12, t13, t14, t15, t16, t17, t18, t19, t20, t21, t22, t23, t24, t25, t26, t27, t28, t29, t30, t31, t32, t33, t34, t35, t36, t37, t38, t39, t40, t41, t42, t43, t44, t45, t46, t47, t48, t49, t50, t51, t52, t53, t54, t55, t56, t57, .func (.func 72) #[] #[.pointer (some ⟨Bw, 0, none⟩), .pointer (some ⟨Bh, 0, none⟩), .pointer (some ⟨Bi, 0, none⟩)], .int .i64 (x.1 : Int), .slice (some ⟨n0 + 2, 0, none⟩) l.length l.length, .int .i64 (x.1 : Int), .pointer (some ⟨n0 + 2, x.1, none⟩), .bool false, .bool true, .pointer (some ⟨b, 0, none⟩), .iface 124 (.pointer (some ⟨b, 0, none⟩)), .int .i64 (x.1 : Int), .pointer (some ⟨Sx, 1, none⟩), .int .i64 sh, .pointer (some ⟨n0, 2, none⟩), .slice (some ⟨B, o, none⟩) l.length cap, t72, t73, t74, t75, t76, t77, t78, t79, t80], defers := [] }) rfl (by kernel_rfl) (by kernel_rfl) (by kernel_rfl) rfl (fun _ _ _ h => h) ?_ SW rfl ?_
      · rintro w' ⟨s1, s2, s3, s4, s5, s6⟩; go_simp
      refine wpAnyH_quiet 7 (.int .i64 (x.1 : Int)) (a' := { tmps := #[t0, t1, .pointer (some ⟨n0, 0, none⟩), t3, t4, t5, .pointer (some ⟨n0 + 3, 0, none⟩), .pointer (some ⟨Qv, 0, none⟩), .pointer (some ⟨Sx, 0, none⟩), .int .i64 (x.1 : Int), t10, t11, t12, t13, t14, t15, t16, t17, t18, t19, t20, t21, t22, t23, t24, t25, t26, t27, t28, t29, t30, t31, t32, t33, t34, t35, t36, t37, t38, t39, t40, t41, t42, t43, t44, t45, t46, t47, t48, t49, t50, t51, t52, t53, t54, t55, t56, t57, .func (.func 72) #[] #[.pointer (some ⟨Bw, 0, none⟩), .pointer (some ⟨Bh, 0, none⟩), .pointer (some ⟨Bi, 0, none⟩)], .int .i64 (x.1 : Int), .slice (some ⟨n0 + 2, 0, none⟩) l.length l.length, .int .i64 (x.1 : Int), .pointer (some ⟨n0 + 2, x.1, none⟩), .bool false, .bool true, .pointer (some ⟨b, 0, none⟩), .iface 124 (.pointer (some ⟨b, 0, none⟩)), .int .i64 (x.1 : Int), .pointer (some ⟨Sx, 1, none⟩), .int .i64 sh, .pointer (some ⟨n0, 2, none⟩), .slice (some ⟨B, o, none⟩) l.length cap, .int .i64 (x.1 : Int), t73, t74, t75, t76, t77, t78, t79, t80], defers := [] }) rfl (by kernel_rfl) (by kernel_rfl) (by kernel_rfl) rfl (fun _ _ _ h => h) ?_ SW rfl ?_
      · rintro w' ⟨s1, s2, s3, s4, s5, s6⟩; go_simp
      refine wpAnyH_quiet 8 (.pointer (some ⟨B, o + x.1 * 3, none⟩)) (a' := { tmps := #[t0, t1, .pointer (some ⟨n0, 0, none⟩), t3, t4, t5, .pointer (some ⟨n0 + 3, 0, none⟩), .pointer (some ⟨Qv, 0, none⟩), .pointer (some ⟨Sx, 0, none⟩), .int .i64 (x.1 : Int), t10, t11, t12, t13, t14, t15, t16, t17, t18, t19, t20, t21, t22, t23, t24, t25, t26, t27, t28, t29, t30, t31, t32, t33, t34, t35, t36, t37, t38, t39, t40, t41, t42, t43, t44, t45, t46, t47, t48, t49, t50, t51, t52, t53, t54, t55, t56, t57, .func (.func 72) #[] #[.pointer (some ⟨Bw, 0, none⟩), .pointer (some ⟨Bh, 0, none⟩), .pointer (some ⟨Bi, 0, none⟩)], .int .i64 (x.1 : Int), .slice (some ⟨n0 + 2, 0, none⟩) l.length l.length, .int .i64 (x.1 : Int), .pointer (some ⟨n0 + 2, x.1, none⟩), .bool false, .bool true, .pointer (some ⟨b, 0, none⟩), .iface 124 (.pointer (some ⟨b, 0, none⟩)), .int .i64 (x.1 : Int), .pointer (some ⟨Sx, 1, none⟩), .int .i64 sh, .pointer (some ⟨n0, 2, none⟩), .slice (some ⟨B, o, none⟩) l.length cap, .int .i64 (x.1 : Int), .pointer (some ⟨B, o + x.1 * 3, none⟩), t74, t75, t76, t77, t78, t79, t80], defers := [] }) rfl (by kernel_rfl) (by kernel_rfl) (by kernel_rfl) rfl (fun _ _ _ h => h) ?_ SW rfl ?_
      · rintro w' ⟨s1, s2, s3, s4, s5, s6⟩; go_simp
      refine wpAnyH_quiet 9 (.agg #[.int .i64 (atB l x.1).Lo, .int .i64 (atB l x.1).Hi, .bool (atB l x.1).Unknown]) (a' := { tmps := #[t0, t1, .pointer (some ⟨n0, 0, none⟩), t3, t4, t5, .pointer (some ⟨n0 + 3, 0, none⟩), .pointer (some ⟨Qv, 0, none⟩), .pointer (some ⟨Sx, 0, none⟩), .int .i64 (x.1 : Int), t10, t11, t12, t13, t14, t15, t16, t17, t18, t19, t20, t21, t22, t23, t24, t25, t26, t27, t28, t29, t30, t31, t32, t33, t34, t35, t36, t37, t38, t39, t40, t41, t42, t43, t44, t45, t46, t47, t48, t49, t50, t51, t52, t53, t54, t55, t56, t57, .func (.func 72) #[] #[.pointer (some ⟨Bw, 0, none⟩), .pointer (some ⟨Bh, 0, none⟩), .pointer (some ⟨Bi, 0, none⟩)], .int .i64 (x.1 : Int), .slice (some ⟨n0 + 2, 0, none⟩) l.length l.length, .int .i64 (x.1 : Int), .pointer (some ⟨n0 + 2, x.1, none⟩), .bool false, .bool true, .pointer (some ⟨b, 0, none⟩), .iface 124 (.pointer (some ⟨b, 0, none⟩)), .int .i64 (x.1 : Int), .pointer (some ⟨Sx, 1, none⟩), .int .i64 sh, .pointer (some ⟨n0, 2, none⟩), .slice (some ⟨B, o, none⟩) l.length cap, .int .i64 (x.1 : Int), .pointer (some ⟨B, o + x.1 * 3, none⟩), .agg #[.int .i64 (atB l x.1).Lo, .int .i64 (atB l x.1).Hi, .bool (atB l x.1).Unknown], t75, t76, t77, t78, t79, t80], defers := [] }) rfl (by kernel_rfl) (by kernel_rfl) (by kernel_rfl) rfl (fun _ _ _ h => h) ?_ SW rfl ?_
      · rintro w' ⟨s1, s2, s3, s4, s5, s6⟩; go_simp
      have eH := enters_of Try.func61 (by kernel_rfl) rfl
      have eP := enters_of Try.func65 (by kernel_rfl) rfl
      refine wpAnyH_one 10 rfl (by kernel_rfl) rfl (wp_call (f := 61) (args := #[.agg #[.int .i64 (atB l x.1).Lo, .int .i64 (atB l x.1).Hi, .bool (atB l x.1).Unknown]]) (by go_simp) ?_)
      refine (height_raw (atB l x.1).Lo (atB l x.1).Hi (atB l x.1).Unknown _).mono ?_
      rintro e Wh ⟨rfl, Xh, hXh⟩
      have hg : W.grownBy Wh none := by rw [hXh]; exact (grownBy_drew W none).trans (World.grownBy_alloc _ _ _)
      have hSh := HS.out.grown hg
      obtain ⟨caph, hh1, hh2⟩ := hSh.hp
      have zqh := (cel1 hSh.qv).1
      have zxh := (hg.block Sx (blk_lt HSX.out) (by simp)).trans HSX.out
      have zsh := (cel_get zxh 1 rfl).1
      have zch := (cel_get hSh.c 2 rfl).1
      rw [hn0] at zch
      have SH : Wh.cell? ⟨Qv, 0, none⟩ = some (.pointer (some ⟨b, 0, none⟩)) ∧ Wh.cell? ⟨Sx, 1, none⟩ = some (.int .i64 sh) ∧ Wh.cell? ⟨n0, 2, none⟩ = some (.slice (some ⟨B, o, none⟩) l.length cap) ∧ Wh.cell? ⟨B, o + x.1 * 3, none⟩ = some (.int .i64 (atB l x.1).Lo) ∧ Wh.cell? ⟨B, o + x.1 * 3 + 1, none⟩ = some (.int .i64 (atB l x.1).Hi) ∧ Wh.cell? ⟨B, o + x.1 * 3 + 2, none⟩ = some (.bool (atB l x.1).Unknown) := ⟨zqh, zsh, zch, (hSh.below.cell (p := ⟨B, o + x.1 * 3, none⟩) hBl).trans hb0, (hSh.below.cell (p := ⟨B, o + x.1 * 3 + 1, none⟩) hBl).trans hb1, (hSh.below.cell (p := ⟨B, o + x.1 * 3 + 2, none⟩) hBl).trans hb2⟩
      refine ⟨_, rfl, SH, ?_⟩
      refine wpAnyH_quiet 11 (.int .i64 (min sh (hgt (atB l x.1).Lo (atB l x.1).Hi (atB l x.1).Unknown))) (a' := { tmps := #[t0, t1, .pointer (some ⟨n0, 0, none⟩), t3, t4, t5, .pointer (some ⟨n0 + 3, 0, none⟩), .pointer (some ⟨Qv, 0, none⟩), .pointer (some ⟨Sx, 0, none⟩), .int .i64 (x.1 : Int), t10, t11, t12, t13, t14, t15, t16, t17, t18, t19, t20, t21, t22, t23, t24, t25, t26, t27, t28, t29, t30, t31, t32, t33, t34, t35, t36, t37, t38, t39, t40, t41, t42, t43, t44, t45, t46, t47, t48, t49, t50, t51, t52, t53, t54, t55, t56, t57, .func (.func 72) #[] #[.pointer (some ⟨Bw, 0, none⟩), .pointer (some ⟨Bh, 0, none⟩), .pointer (some ⟨Bi, 0, none⟩)], .int .i64 (x.1 : Int), .slice (some ⟨n0 + 2, 0, none⟩) l.length l.length, .int .i64 (x.1 : Int), .pointer (some ⟨n0 + 2, x.1, none⟩), .bool false, .bool true, .pointer (some ⟨b, 0, none⟩), .iface 124 (.pointer (some ⟨b, 0, none⟩)), .int .i64 (x.1 : Int), .pointer (some ⟨Sx, 1, none⟩), .int .i64 sh, .pointer (some ⟨n0, 2, none⟩), .slice (some ⟨B, o, none⟩) l.length cap, .int .i64 (x.1 : Int), .pointer (some ⟨B, o + x.1 * 3, none⟩), .agg #[.int .i64 (atB l x.1).Lo, .int .i64 (atB l x.1).Hi, .bool (atB l x.1).Unknown], .int .i64 (hgt (atB l x.1).Lo (atB l x.1).Hi (atB l x.1).Unknown), .int .i64 (min sh (hgt (atB l x.1).Lo (atB l x.1).Hi (atB l x.1).Unknown)), t77, t78, t79, t80], defers := [] }) rfl (by kernel_rfl) (by kernel_rfl) (by kernel_rfl) rfl (fun _ _ _ h => h) ?_ SH rfl ?_
      · rintro w' ⟨s1, s2, s3, s4, s5, s6⟩; go_simp
      refine wpAnyH_quiet 12 (.agg #[.int .i64 (x.1 : Int), .int .i64 (min sh (hgt (atB l x.1).Lo (atB l x.1).Hi (atB l x.1).Unknown))]) (a' := { tmps := #[t0, t1, .pointer (some ⟨n0, 0, none⟩), t3, t4, t5, .pointer (some ⟨n0 + 3, 0, none⟩), .pointer (some ⟨Qv, 0, none⟩), .pointer (some ⟨Sx, 0, none⟩), .int .i64 (x.1 : Int), t10, t11, t12, t13, t14, t15, t16, t17, t18, t19, t20, t21, t22, t23, t24, t25, t26, t27, t28, t29, t30, t31, t32, t33, t34, t35, t36, t37, t38, t39, t40, t41, t42, t43, t44, t45, t46, t47, t48, t49, t50, t51, t52, t53, t54, t55, t56, t57, .func (.func 72) #[] #[.pointer (some ⟨Bw, 0, none⟩), .pointer (some ⟨Bh, 0, none⟩), .pointer (some ⟨Bi, 0, none⟩)], .int .i64 (x.1 : Int), .slice (some ⟨n0 + 2, 0, none⟩) l.length l.length, .int .i64 (x.1 : Int), .pointer (some ⟨n0 + 2, x.1, none⟩), .bool false, .bool true, .pointer (some ⟨b, 0, none⟩), .iface 124 (.pointer (some ⟨b, 0, none⟩)), .int .i64 (x.1 : Int), .pointer (some ⟨Sx, 1, none⟩), .int .i64 sh, .pointer (some ⟨n0, 2, none⟩), .slice (some ⟨B, o, none⟩) l.length cap, .int .i64 (x.1 : Int), .pointer (some ⟨B, o + x.1 * 3, none⟩), .agg #[.int .i64 (atB l x.1).Lo, .int .i64 (atB l x.1).Hi, .bool (atB l x.1).Unknown], .int .i64 (hgt (atB l x.1).Lo (atB l x.1).Hi (atB l x.1).Unknown), .int .i64 (min sh (hgt (atB l x.1).Lo (atB l x.1).Hi (atB l x.1).Unknown)), .agg #[.int .i64 (x.1 : Int), .int .i64 (min sh (hgt (atB l x.1).Lo (atB l x.1).Hi (atB l x.1).Unknown))], t78, t79, t80], defers := [] }) rfl (by kernel_rfl) (by kernel_rfl) (by kernel_rfl) rfl (fun _ _ _ h => h) ?_ SH rfl ?_
      · rintro w' ⟨s1, s2, s3, s4, s5, s6⟩; go_simp
      refine wpAnyH_quiet 13 (.iface 127 (.agg #[.int .i64 (x.1 : Int), .int .i64 (min sh (hgt (atB l x.1).Lo (atB l x.1).Hi (atB l x.1).Unknown))])) (a' := { tmps := #[t0, t1, .pointer (some ⟨n0, 0, none⟩), t3, t4, t5, .pointer (some ⟨n0 + 3, 0, none⟩), .pointer (some ⟨Qv, 0, none⟩), .pointer (some ⟨Sx, 0, none⟩), .int .i64 (x.1 : Int), t10, t11, t12, t13, t14, t15, t16, t17, t18, t19, t20, t21, t22, t23, t24, t25, t26, t27, t28, t29, t30, t31, t32, t33, t34, t35, t36, t37, t38, t39, t40, t41, t42, t43, t44, t45, t46, t47, t48, t49, t50, t51, t52, t53, t54, t55, t56, t57, .func (.func 72) #[] #[.pointer (some ⟨Bw, 0, none⟩), .pointer (some ⟨Bh, 0, none⟩), .pointer (some ⟨Bi, 0, none⟩)], .int .i64 (x.1 : Int), .slice (some ⟨n0 + 2, 0, none⟩) l.length l.length, .int .i64 (x.1 : Int), .pointer (some ⟨n0 + 2, x.1, none⟩), .bool false, .bool true, .pointer (some ⟨b, 0, none⟩), .iface 124 (.pointer (some ⟨b, 0, none⟩)), .int .i64 (x.1 : Int), .pointer (some ⟨Sx, 1, none⟩), .int .i64 sh, .pointer (some ⟨n0, 2, none⟩), .slice (some ⟨B, o, none⟩) l.length cap, .int .i64 (x.1 : Int), .pointer (some ⟨B, o + x.1 * 3, none⟩), .agg #[.int .i64 (atB l x.1).Lo, .int .i64 (atB l x.1).Hi, .bool (atB l x.1).Unknown], .int .i64 (hgt (atB l x.1).Lo (atB l x.1).Hi (atB l x.1).Unknown), .int .i64 (min sh (hgt (atB l x.1).Lo (atB l x.1).Hi (atB l x.1).Unknown)), .agg #[.int .i64 (x.1 : Int), .int .i64 (min sh (hgt (atB l x.1).Lo (atB l x.1).Hi (atB l x.1).Unknown))], .iface 127 (.agg #[.int .i64 (x.1 : Int), .int .i64 (min sh (hgt (atB l x.1).Lo (atB l x.1).Hi (atB l x.1).Unknown))]), t79, t80], defers := [] }) rfl (by kernel_rfl) (by kernel_rfl) (by kernel_rfl) rfl (fun _ _ _ h => h) ?_ SH rfl ?_
      · rintro w' ⟨s1, s2, s3, s4, s5, s6⟩; go_simp
      have hPu := hpush_raw Wh b g' caph (pushN l done1 sh (valN pre) q1) hh1 (fun e => hSh.ne.2.2.2.1 e.symm) hh2 (x.1 : Int) (min sh (hgt (atB l x.1).Lo (atB l x.1).Hi (atB l x.1).Unknown)) (by omega)
      refine wpAnyH_one 14 rfl (by kernel_rfl) rfl (wp_call (f := 65) (args := #[.iface 124 (.pointer (some ⟨b, 0, none⟩)), .iface 127 (.agg #[.int .i64 (x.1 : Int), .int .i64 (min sh (hgt (atB l x.1).Lo (atB l x.1).Hi (atB l x.1).Unknown))])]) (by go_simp) ?_)
      refine hPu.mono ?_
      rintro e Wp ⟨rfl, hQ⟩
      obtain ⟨g2, hSp, hg2⟩ := hSh.heap hQ
      have hkf := hQ.keepsFrom hSh.cellsB W4.heap.size
      have hkg : KeepsFrom W4.heap.size W Wh := ⟨hg.size, fun k ob _ hk _ => (hg.block k (blk_lt hk) (by simp)).trans hk⟩
      have hQ5 := hQ
      obtain ⟨_, _, _, _, _, _, h5⟩ := hQ5
      have far : ∀ (k : Nat), k < W4.heap.size → k ≠ b → k ≠ g1 → Wp.heap[k]? = W.heap[k]? := fun k h1 h2 h3 => by
        have hkw : k < W.heap.size := Nat.lt_of_lt_of_le h1 hsz
        refine (h5.block k (Nat.lt_of_lt_of_le hkw hg.size) h2 ?_).trans (hg.block k hkw (by simp))
        rcases HG.out with e | e
        · rw [e]; exact h3
        · omega
      have zxp := (far Sx b4 (fun e => hd.2.2.2.2.1 e.symm) (fun e => hd.1 e.symm)).trans HSX.out
      have zqp := (cel1 hSp.qv).1
      have zsp := (cel_get zxp 1 rfl).1
      have zcp := (cel_get hSp.c 2 rfl).1
      rw [hn0] at zcp
      refine ⟨_, rfl, ⟨zqp, zsp, zcp, (hSp.below.cell (p := ⟨B, o + x.1 * 3, none⟩) hBl).trans hb0, (hSp.below.cell (p := ⟨B, o + x.1 * 3 + 1, none⟩) hBl).trans hb1, (hSp.below.cell (p := ⟨B, o + x.1 * 3 + 2, none⟩) hBl).trans hb2⟩, wpAnyH_done (by kernel_rfl) ?_ 0⟩
      refine ⟨hkg.trans hkf, ⟨far Bw b1 (fun e => hd.2.2.2.2.2.1 e.symm) (fun e => hd.2.1 e.symm), far Bh b2 (fun e => hd.2.2.2.2.2.2.1 e.symm) (fun e => hd.2.2.1 e.symm), far Bi b3 (fun e => hd.2.2.2.2.2.2.2 e.symm) (fun e => hd.2.2.2.1 e.symm)⟩, ⟨g2, ?_, ?_⟩, zxp, Nat.le_trans hsz (Nat.le_trans hg.size h5.size), fun D hD => ?_⟩
      · rw [valN_snoc, pushN_snoc, hdv, if_neg (by simp)]
        exact hSp
      · rcases hg2 with e | e
        · rw [e]; exact HG.out
        · exact .inr (Nat.le_trans hsz (Nat.le_trans hg.size e))
      · exact hQ.mark ((hg.block D (blk_lt (HE.out D hD)) (by simp)).trans (HE.out D hD)) rfl hSh.cellsB
  case done =>
    rintro D ys W hD rfl ⟨⟨g', h1, h2⟩, h3, h4, h5⟩ hKD
    have hz' : valN ys = nbs w h s0 := hz
    rw [hz'] at h1
    exact hK D W g' hD h1 h5 hKD
  case stop =>
    rintro D c pre W hD _ h _
    exact h.elim
theorem sad_loop (W0 : World) (w h : Nat) (hw : 1 ≤ w ∧ w ≤ 32) (hh : 1 ≤ h ∧ h ≤ 32) (l : List Bound) (hl : l.length = w * h) (B o cap b Qv : Nat) (hA : RowB W0 (some ⟨B, o, none⟩) l) (hcap : l.length ≤ cap) (body : Code) (hbody : body = loopB (blockB (seqL (seqR (seqR (seqR (seqR (Try.f48.body.getD .skip)))))))) (n0 : Nat) (hn0 : n0 = W0.heap.size) (R : List Int) (t0 t1 t3 t4 t10 t11 t12 t13 t14 t15 t16 t17 t18 t19 t20 t21 t22 t23 t24 t25 t26 t27 : Value) (Qx : Exit → Act → World → Prop)
    (hexit : ∀ (u8 u9 u28 u29 u30 u31 u32 u33 u34 u35 u36 u37 u38 u39 u40 u41 u42 u43 u44 u45 u46 u47 u48 u49 u50 u51 u52 u53 u54 u55 u56 u57 u58 u59 u60 u61 u62 u63 u64 u65 u66 u67 u68 u69 u70 u71 u72 u73 u74 u75 u76 u77 u78 u79 u80 : Value) (W : World) (g : Nat) (done : List Bool) (Ds : List Nat), SadS W0 w h l B o cap b Qv W [] R done g → Ds.Pairwise (· ≠ ·) → (∀ D ∈ Ds, n0 ≤ D ∧ W.heap[D]? = some (.deferred (some []))) → Qx (.exit 0) { tmps := #[t0, t1, .pointer (some ⟨n0, 0, none⟩), t3, t4, .slice (some ⟨n0 + 1, 0, none⟩) l.length l.length, .pointer (some ⟨n0 + 3, 0, none⟩), .pointer (some ⟨Qv, 0, none⟩), u8, u9, t10, t11, t12, t13, t14, t15, t16, t17, t18, t19, t20, t21, t22, t23, t24, t25, t26, t27, u28, u29, u30, u31, u32, u33, u34, u35, u36, u37, u38, u39, u40, u41, u42, u43, u44, u45, u46, u47, u48, u49, u50, u51, u52, u53, u54, u55, u56, u57, u58, u59, u60, u61, u62, u63, u64, u65, u66, u67, u68, u69, u70, u71, u72, u73, u74, u75, u76, u77, u78, u79, u80], defers := Ds.map mk } W) :
    ∀ (f : Nat) (q : List HpSt) (out : List Int) (done : List Bool) (g : Nat) (Ds : List Nat) (u8 u9 u28 u29 u30 u31 u32 u33 u34 u35 u36 u37 u38 u39 u40 u41 u42 u43 u44 u45 u46 u47 u48 u49 u50 u51 u52 u53 u54 u55 u56 u57 u58 u59 u60 u61 u62 u63 u64 u65 u66 u67 u68 u69 u70 u71 u72 u73 u74 u75 u76 u77 u78 u79 u80 : Value) (W : World), sadL w h l f q out done = some R → SadS W0 w h l B o cap b Qv W q out done g → Ds.Pairwise (· ≠ ·) → (∀ D ∈ Ds, n0 ≤ D ∧ W.heap[D]? = some (.deferred (some []))) →
      Code.roundsIn Fence.wide 8 Try.prog body Qx f { tmps := #[t0, t1, .pointer (some ⟨n0, 0, none⟩), t3, t4, .slice (some ⟨n0 + 1, 0, none⟩) l.length l.length, .pointer (some ⟨n0 + 3, 0, none⟩), .pointer (some ⟨Qv, 0, none⟩), u8, u9, t10, t11, t12, t13, t14, t15, t16, t17, t18, t19, t20, t21, t22, t23, t24, t25, t26, t27, u28, u29, u30, u31, u32, u33, u34, u35, u36, u37, u38, u39, u40, u41, u42, u43, u44, u45, u46, u47, u48, u49, u50, u51, u52, u53, u54, u55, u56, u57, u58, u59, u60, u61, u62, u63, u64, u65, u66, u67, u68, u69, u70, u71, u72, u73, u74, u75, u76, u77, u78, u79, u80], defers := Ds.map mk } W
  | 0, q, out, done, g, Ds, u8, u9, u28, u29, u30, u31, u32, u33, u34, u35, u36, u37, u38, u39, u40, u41, u42, u43, u44, u45, u46, u47, u48, u49, u50, u51, u52, u53, u54, u55, u56, u57, u58, u59, u60, u61, u62, u63, u64, u65, u66, u67, u68, u69, u70, u71, u72, u73, u74, u75, u76, u77, u78, u79, u80, W, hR, _, _, _ => by cases hR
  | f + 1, q, out, done, g, Ds, u8, u9, u28, u29, u30, u31, u32, u33, u34, u35, u36, u37, u38, u39, u40, u41, u42, u43, u44, u45, u46, u47, u48, u49, u50, u51, u52, u53, u54, u55, u56, u57, u58, u59, u60, u61, u62, u63, u64, u65, u66, u67, u68, u69, u70, u71, u72, u73, u74, u75, u76, u77, u78, u79, u80, W, hR, hS, hD, hE => by
    rw [roundsIn_succ]
    generalize hKK : Code.roundsIn Fence.wide 8 Try.prog body Qx f = KK
    rw [hbody]
    have HKK := Lib.hid hKK
    have HBD := Lib.hid hbody
    clear hKK hbody
    simp only [Try.f48, Option.getD_some, seqL, seqR, blockB, loopB]
    rw [sadL] at hR
    subst hn0
    obtain ⟨cap', hp1, hp2⟩ := hS.hp
    obtain ⟨cq, fq⟩ := cel1 hS.qv
    obtain ⟨cb, fb⟩ := cel1 hp1
    have hN : l.length ≤ 1024 := by rw [hl]; exact Nat.le_trans (Nat.mul_le_mul hw.2 hh.2) (by decide)
    have HS := Lib.hid hS
    have HP1 := Lib.hid hp1
    have HP2 := Lib.hid hp2
    have HE := Lib.hid hE
    have HL := Lib.hid hl
    have HA := Lib.hid hA
    have HX := Lib.hid hexit
    clear hS hp1 hp2 hE hl hA hexit
    by_cases hq : q.length = 0
    · rw [if_pos hq] at hR
      have hR := Option.some.inj hR
      have HR := Lib.hid hR
      clear hR
      rw [hq] at cb
      have hN0 := fun w => callsIn_wide (n := 7) |>.2 (len_raw w g cap' 0)
      gi_wp2_with (refine ⟨trivial, ?_⟩; gi_at_call 62; refine (hN0 _).mono ?_; rintro e w2 ⟨rfl, hw2⟩; have hw2 := hw2.symm; subst hw2)
      have hq0 : q = [] := List.length_eq_zero_iff.1 hq
      subst hq0
      exact HX.out u8 u9 (.pointer (some ⟨b, 0, none⟩)) (.pointer (some ⟨b, 0, none⟩)) (.slice (some ⟨g, 0, none⟩) 0 cap') (.int .i64 0) (.bool false) u33 u34 u35 u36 u37 u38 u39 u40 u41 u42 u43 u44 u45 u46 u47 u48 u49 u50 u51 u52 u53 u54 u55 u56 u57 u58 u59 u60 u61 u62 u63 u64 u65 u66 u67 u68 u69 u70 u71 u72 u73 u74 u75 u76 u77 u78 u79 u80 W g done Ds (by rw [← HR.out]; exact HS.out) hD HE.out
    · rw [if_neg hq] at hR
      split at hR
      · rename_i hq9
        obtain ⟨n, hn⟩ : ∃ n, q.length = n + 1 := ⟨q.length - 1, by omega⟩
        have hn1 : q.length - 1 = n := by omega
        simp only [hn1] at hR
        rw [hn] at cb
        have hNe := HS.out.ne
        have hLen := len_raw W g cap' (n + 1)
        have hPop := hpop_raw W b g cap' q n hn HP1.out (fun e => hNe.2.2.2.1 e.symm) HP2.out (by omega)
        have hcat := fun w => assert_st w (.agg #[.int .i64 (atS (popY q) n).1, .int .i64 (atS (popY q) n).2])
        split at hR
        · rename_i hr1
          obtain ⟨s0, hs0⟩ : ∃ s0 : Nat, (atS (popY q) n).1 = s0 := ⟨(atS (popY q) n).1.toNat, by omega⟩
          have hs1 : s0 < l.length := by omega
          simp only [hs0, Int.toNat_natCast] at hR
          rw [hs0] at hPop hcat
          generalize (atS (popY q) n).2 = sh at hPop hcat hR
          have HN := Lib.hid hn
          have hn9 : n < 90000 := by omega
          clear hq hn hn1 hr1 hq9 hNe hs0
          cases hdv : done.getD s0 false with
          | true =>
            rw [hdv, if_pos rfl] at hR
            have HR := Lib.hid hR
            clear hR
            gi_wp2_with (first
              | (refine ⟨trivial, ?_⟩; gi_at_call 62; refine (callsIn_wide.2 hLen).mono ?_; clear hLen; rintro e w2 ⟨rfl, hw2⟩; have hw2 := hw2.symm; subst hw2)
              | (refine ⟨trivial, ?_⟩; gi_at_call 63; refine (callsIn_wide.2 hPop).mono ?_; clear hPop; rintro e W1 ⟨rfl, hQ⟩; have HQ := Lib.hid hQ; obtain ⟨g1, hS1, hg1⟩ := HS.out.heap hQ; have HG1 := Lib.hid hg1; clear hg1; clear hQ; have hS2 := hS1.grown (World.grownBy_alloc W1 (.cells #[.int .i64 s0, .int .i64 sh] 127) none); have hlt1 := blk_lt hS1.db; obtain ⟨zd, fd⟩ := cel1 hS2.db; have hdn := cel_get hS2.d s0 (v := .bool true) (by have := hS2.ld; simp [List.getElem?_map, List.getElem?_eq_getElem (show s0 < done.length by omega)]; rw [List.getD_eq_getElem?_getD, List.getElem?_eq_getElem (show s0 < done.length by omega)] at hdv; simpa using hdv); obtain ⟨zdn, fdn⟩ := hdn; have hon := cel_get hS2.o s0 (v := .int .i64 (out.getD s0 0)) (by have := hS2.lo; simp [List.getElem?_map, List.getD_eq_getElem?_getD, List.getElem?_eq_getElem (show s0 < out.length by omega)]); obtain ⟨zon, fon⟩ := hon; have HS1 := Lib.hid hS1; have HS2 := Lib.hid hS2; clear hS1 hS2))

            rw [← HKK.out]
            exact sad_loop W0 w h hw hh l HL.out B o cap b Qv HA.out hcap body HBD.out W0.heap.size rfl R t0 t1 t3 t4 t10 t11 t12 t13 t14 t15 t16 t17 t18 t19 t20 t21 t22 t23 t24 t25 t26 t27 Qx HX.out f _ _ _ _ _ _ _ _ _ _ _ _ _ _ _ _ _ _ _ _ _ _ _ _ _ _ _ _ _ _ _ _ _ _ _ _ _ _ _ _ _ _ _ _ _ _ _ _ _ _ _ _ _ _ _ _ _ _ _ _ _ HR.out HS2.out hD fun D hDD => ⟨(HE.out D hDD).1, blk_alloc (HQ.out.mark (HE.out D hDD).2 rfl HS.out.cellsB) _⟩
          | false =>
            rw [hdv, if_neg (by simp)] at hR
            have HR := Lib.hid hR
            clear hR
            gi_wp2_with (first
              | (refine ⟨trivial, ?_⟩; gi_at_call 62; refine (callsIn_wide.2 hLen).mono ?_; clear hLen; rintro e w2 ⟨rfl, hw2⟩; have hw2 := hw2.symm; subst hw2)
              | (refine ⟨trivial, ?_⟩; gi_at_call 63; refine (callsIn_wide.2 hPop).mono ?_; clear hPop; rintro e W1 ⟨rfl, hQ⟩; have HQ := Lib.hid hQ; obtain ⟨g1, hS1, hg1⟩ := HS.out.heap hQ; have HG1 := Lib.hid hg1; clear hg1; clear hQ; have hS2 := hS1.grown (World.grownBy_alloc W1 (.cells #[.int .i64 s0, .int .i64 sh] 127) none); have hlt1 := blk_lt hS1.db; obtain ⟨zd, fd⟩ := cel1 hS2.db; have hdn := cel_get hS2.d s0 (v := .bool false) (by have := hS2.ld; simp [List.getElem?_map, List.getElem?_eq_getElem (show s0 < done.length by omega)]; rw [List.getD_eq_getElem?_getD, List.getElem?_eq_getElem (show s0 < done.length by omega)] at hdv; simpa using hdv); obtain ⟨zdn, fdn⟩ := hdn; have hon := cel_get hS2.o s0 (v := .int .i64 (out.getD s0 0)) (by have := hS2.lo; simp [List.getElem?_map, List.getD_eq_getElem?_getD, List.getElem?_eq_getElem (show s0 < out.length by omega)]); obtain ⟨zon, fon⟩ := hon; have HS1 := Lib.hid hS1; have HS2 := Lib.hid hS2; clear hS1 hS2))

            have e3 : W1.heap.size ≠ W0.heap.size + 2 ∧ W1.heap.size ≠ W0.heap.size + 1 := by omega
            obtain ⟨zs, _⟩ := cel_get (World.alloc_heap_new W1 (.cells #[.int .i64 s0, .int .i64 sh] 127)) 0 rfl
            obtain ⟨zt, _⟩ := cel_get (World.alloc_heap_new W1 (.cells #[.int .i64 s0, .int .i64 sh] 127)) 1 rfl
            obtain ⟨W2, hW2⟩ : ∃ W2, W2 = W1.alloc (.cells #[.int .i64 s0, .int .i64 sh] 127) := ⟨_, rfl⟩
            rw [← hW2] at zd fd zdn fdn zon fon zs zt ⊢
            have HW2 := Lib.hid hW2
            have hS3 := HS2.out
            rw [← hW2] at hS3
            have hS3 := hS3.put s0 sh
            have HS3 := Lib.hid hS3
            clear hS3
            generalize hSx : W1.heap.size = Sx at *
            generalize hn0 : W0.heap.size = n0 at *
            have HSx := Lib.hid hSx
            have Hn0 := Lib.hid hn0
            clear hW2 hSx hn0
            obtain ⟨e4, e5⟩ := e3
            have e6 : ¬ (n0 + 2 = Sx) := fun e => e4 e.symm
            have e7 : ¬ (n0 + 1 = Sx) := fun e => e5 e.symm
            refine wpIn_wide.2 ?_
            go_region_held3 (fun w' => w'.cell? ⟨n0 + 3, 0, none⟩ = some (.slice (some ⟨n0 + 2, 0, none⟩) l.length l.length) ∧ w'.cell? ⟨Sx, 0, none⟩ = some (.int .i64 s0) ∧ w'.cell? ⟨Sx, 1, none⟩ = some (.int .i64 sh)) (go_keep) (fail)
            have zs3 : ((W2.setCell ⟨n0 + 2, s0, none⟩ (.bool true)).setCell ⟨n0 + 1, s0, none⟩ (.int .i64 sh)).drew.heap[Sx]? = some (.cells #[.int .i64 s0, .int .i64 sh] 127 (0, 0)) := by
              show ((W2.setCell ⟨n0 + 2, s0, none⟩ (.bool true)).setCell ⟨n0 + 1, s0, none⟩ (.int .i64 sh)).heap[Sx]? = _
              rw [Below.heap_setCell _ _ _ Sx e5, Below.heap_setCell _ _ _ Sx e4, HW2.out, ← HSx.out]
              exact World.alloc_heap_new W1 _
            have ze3 : ∀ D ∈ Ds, n0 ≤ D ∧ ((W2.setCell ⟨n0 + 2, s0, none⟩ (.bool true)).setCell ⟨n0 + 1, s0, none⟩ (.int .i64 sh)).drew.heap[D]? = some (.deferred (some [])) := fun D hDD => by
              have h1 : W2.heap[D]? = some (.deferred (some [])) := by rw [HW2.out]; exact blk_alloc (HQ.out.mark (HE.out D hDD).2 rfl HS.out.cellsB) _
              have n1 : D ≠ n0 + 2 := fun e => by
                have := HS2.out.d
                rw [← HW2.out, Hn0.out, ← e, h1] at this; cases this
              have n2 : D ≠ n0 + 1 := fun e => by
                have := HS2.out.o
                rw [← HW2.out, Hn0.out, ← e, h1] at this; cases this
              refine ⟨(HE.out D hDD).1, ?_⟩
              show ((W2.setCell ⟨n0 + 2, s0, none⟩ (.bool true)).setCell ⟨n0 + 1, s0, none⟩ (.int .i64 sh)).heap[D]? = _
              rw [Below.heap_setCell _ _ _ D n2, Below.heap_setCell _ _ _ D n1]; exact h1
            obtain ⟨W3, hW3⟩ : ∃ W3, W3 = ((W2.setCell ⟨n0 + 2, s0, none⟩ (.bool true)).setCell ⟨n0 + 1, s0, none⟩ (.int .i64 sh)).drew := ⟨_, rfl⟩
            have hS3 := HS3.out
            rw [← hW3] at hS3 zs3 ze3 ⊢
            have c3 := hS3.c
            rw [Hn0.out] at c3
            obtain ⟨x0, _⟩ := cel_get c3 0 rfl
            obtain ⟨x1, _⟩ := cel_get c3 1 rfl
            obtain ⟨y0, _⟩ := cel_get zs3 0 rfl
            have HS3' := Lib.hid hS3
            have lg : g1 < Sx ∧ b < Sx := by
              obtain ⟨c', h1, cur, h2, _⟩ := HS1.out.hp
              have := blk_lt h1; have := blk_lt h2; have := HSx.out
              omega
            have lw : W3.heap.size = Sx + 1 := by
              rw [hW3, ← HSx.out]
              show ((W2.setCell ⟨n0 + 2, s0, none⟩ (.bool true)).setCell ⟨n0 + 1, s0, none⟩ (.int .i64 sh)).heap.size = _
              rw [World.size_setCell, World.size_setCell, HW2.out, World.size_alloc]
            have HZS3 := Lib.hid zs3
            have HZE3 := Lib.hid ze3
            clear hW3 hS3 c3 zs3 ze3 HS3 zd fd zdn fdn zon fon zs zt e4 e5 e6 e7 HS2 HS1 HQ HP1 HP2 cq fq cb fb hcat
            have hAr := around_raw (w : Int) (h : Int) (s0 : Int) W3
            gi_wp2_with (refine ⟨trivial, ?_⟩; gi_at_call 64; refine (callsIn_wide.2 hAr).mono ?_; clear hAr; rintro e W4 ⟨rfl, hW4⟩; have HW4 := Lib.hid hW4; clear hW4)
            have g4 : W3.grownBy W4 none := by
              rw [HW4.out]
              exact ((World.grownBy_alloc W3 _ none).trans (World.grownBy_alloc _ _ none)).trans (World.grownBy_alloc _ _ none)
            have hS4 := HS3'.out.grown g4
            have w4 : W4.heap.size = Sx + 4 := by rw [HW4.out, World.size_alloc, World.size_alloc, World.size_alloc, lw]
            have b1 : W4.heap[W3.heap.size]? = some (.cells #[.int .i64 w] 3 (0, 0)) := by
              rw [HW4.out]; exact blk_alloc (blk_alloc (World.alloc_heap_new W3 _) _) _
            have b2 : W4.heap[W3.heap.size + 1]? = some (.cells #[.int .i64 h] 3 (0, 0)) := by
              have := World.alloc_heap_new (W3.alloc (.cells #[.int .i64 w] 3)) (.cells #[.int .i64 h] 3)
              rw [World.size_alloc] at this
              rw [HW4.out]; exact blk_alloc this _
            have b3 : W4.heap[W3.heap.size + 2]? = some (.cells #[.int .i64 s0] 3 (0, 0)) := by
              have := World.alloc_heap_new ((W3.alloc (.cells #[.int .i64 w] 3)).alloc (.cells #[.int .i64 h] 3)) (.cells #[.int .i64 s0] 3)
              rw [World.size_alloc, World.size_alloc] at this
              rw [HW4.out]; exact this
            rw [lw] at b1 b2 b3
            have e4' : ∀ D ∈ Ds, W4.heap[D]? = some (.deferred (some [])) := fun D hDD => (g4.block D (blk_lt (HZE3.out D hDD).2) (by simp)).trans (HZE3.out D hDD).2
            have hlq : ((popY q).take n).length < 90000 := by
              have := List.length_take_le n (popY q); omega
            refine sad_range W0 w h hw hh l HL.out B o cap b Qv HA.out hcap n0 Hn0.out _ (by simp only [Try.f48, Option.getD_some, seqL, seqR, blockB, loopB]) _ _ _ _ _ _ _ _ _ _ _ _ _ _ _ _ _ _ _ _ _ _ _ _ _ _ _ _ _ _ _ _ _ _ _ _ _ _ _ _ _ _ _ _ _ _ _ _ _ _ _ _ _ _ _ _ _ _ _ _ _ _ _ _ _ _ _ _ _ _ _ _ _ _ _ _ _ _ Ds W4 ((popY q).take n) (out.set s0 sh) (done.set s0 true) g1 s0 sh Sx _ _ _ hS4 ((g4.block Sx (blk_lt HZS3.out) (by simp)).trans HZS3.out) b1 b2 b3 e4' hlq hs1 (by omega) ?_
            intro D W9 g9 hD9 hS9 hE9 hm9
            show KK _ _
            rw [← HKK.out]
            have hw0 := hS4.below.size
            have en0 := Hn0.out
            subst en0
            refine sad_loop W0 w h hw hh l HL.out B o cap b Qv HA.out hcap body HBD.out W0.heap.size rfl R t0 t1 t3 t4 t10 t11 t12 t13 t14 t15 t16 t17 t18 t19 t20 t21 t22 t23 t24 t25 t26 t27 Qx HX.out f _ _ _ g9 (D :: Ds) _ _ _ _ _ _ _ _ _ _ _ _ _ _ _ _ _ _ _ _ _ _ _ _ _ _ _ _ _ _ _ _ _ _ _ _ _ _ _ _ _ _ _ _ _ _ _ _ _ _ _ _ _ _ _ W9 HR.out hS9 (List.pairwise_cons.2 ⟨fun E hEE e => ?_, hD⟩) fun E hEE => ?_
            · have := blk_lt (e4' E hEE); omega
            · rcases List.mem_cons.1 hEE with e | e
              · rw [e]; exact ⟨by omega, hm9⟩
              · exact ⟨(HZE3.out E e).1, hE9 E e⟩
        · cases hR
      · cases hR
theorem sad_raw (w h : Nat) (hw : 1 ≤ w ∧ w ≤ 32) (hh : 1 ≤ h ∧ h ≤ 32) (l : List Bound) (hl : l.length = w * h) (from_ : Nat) (hfr : from_ < l.length) (R : List Int)
    (hR : sadL w h l (9 * l.length + 1) [((from_ : Int), hgtB (atB l from_))] (List.replicate l.length 0) (List.replicate l.length false) = some R) (W : World) (A : Option Addr) (cap : Nat) (hA : RowB W A l) (hcap : l.length ≤ cap) :
    Calls Try.prog 48 #[.agg #[.int .i64 w, .int .i64 h, .slice A l.length cap], .int .i64 from_] W fun e W' => ∃ O, W.heap.size ≤ O ∧ e = .returned (.slice (some ⟨O, 0, none⟩) l.length l.length) ∧ W'.heap[O]? = some (.cells (R.map (Value.int .i64)).toArray 32 (0, 0)) ∧ Below W.heap.size W W' := by
  have hN : l.length ≤ 1024 := by rw [hl]; exact Nat.le_trans (Nat.mul_le_mul hw.2 hh.2) (by decide)
  have hmq := fun w => mkQ w l.length hN
  have hmb := fun w => mkB w l.length hN
  obtain ⟨B, o, rfl, hx0, hx1, hx2⟩ := hA from_ hfr
  have hBl : B < W.heap.size := World.block_lt_of_cell? W ⟨B, o + from_ * 3, none⟩ hx0
  obtain ⟨W4, hW4⟩ : ∃ W4, W4 = (((W.alloc (.cells #[.int .i64 w, .int .i64 h, .slice (some ⟨B, o, none⟩) l.length cap] 77)).alloc (.cells (Array.replicate l.length (.int .i64 0)) 32)).alloc (.cells (Array.replicate l.length (.bool false)) 4)).alloc (.cells #[.slice (some ⟨W.heap.size + 1 + 1, 0, none⟩) l.length l.length] 123) := ⟨_, rfl⟩
  have hB4 : Below W.heap.size W W4 := by
    rw [hW4]
    exact ((((Below.refl _ W).alloc (Nat.le_refl _) _).alloc (by simp) _).alloc (by simp; omega) _).alloc (by simp; omega) _
  have hs4 : W4.heap.size = W.heap.size + 4 := by rw [hW4]; simp
  have k0 : W4.heap[W.heap.size]? = some (.cells #[.int .i64 w, .int .i64 h, .slice (some ⟨B, o, none⟩) l.length cap] 77 (0, 0)) := by
    rw [hW4]; exact blk_alloc (blk_alloc (blk_alloc (World.alloc_heap_new W _) _) _) _
  have k1 : W4.heap[W.heap.size + 1]? = some (.cells (Array.replicate l.length (.int .i64 0)) 32 (0, 0)) := by
    have := World.alloc_heap_new (W.alloc (.cells #[.int .i64 w, .int .i64 h, .slice (some ⟨B, o, none⟩) l.length cap] 77)) (.cells (Array.replicate l.length (.int .i64 0)) 32)
    rw [World.size_alloc] at this
    rw [hW4]; exact blk_alloc (blk_alloc this _) _
  have k2 : W4.heap[W.heap.size + 2]? = some (.cells (Array.replicate l.length (.bool false)) 4 (0, 0)) := by
    have := World.alloc_heap_new ((W.alloc (.cells #[.int .i64 w, .int .i64 h, .slice (some ⟨B, o, none⟩) l.length cap] 77)).alloc (.cells (Array.replicate l.length (.int .i64 0)) 32)) (.cells (Array.replicate l.length (.bool false)) 4)
    rw [World.size_alloc, World.size_alloc] at this
    rw [hW4]; exact blk_alloc this _
  have k3 : W4.heap[W.heap.size + 3]? = some (.cells #[.slice (some ⟨W.heap.size + 2, 0, none⟩) l.length l.length] 123 (0, 0)) := by
    have := World.alloc_heap_new (((W.alloc (.cells #[.int .i64 w, .int .i64 h, .slice (some ⟨B, o, none⟩) l.length cap] 77)).alloc (.cells (Array.replicate l.length (.int .i64 0)) 32)).alloc (.cells (Array.replicate l.length (.bool false)) 4)) (.cells #[.slice (some ⟨W.heap.size + 2, 0, none⟩) l.length l.length] 123)
    rw [World.size_alloc, World.size_alloc, World.size_alloc] at this
    rw [hW4]; exact this
  have hy0 := (hB4.cell (p := ⟨B, o + from_ * 3, none⟩) hBl).trans hx0
  have hy1 := (hB4.cell (p := ⟨B, o + from_ * 3 + 1, none⟩) hBl).trans hx1
  have hy2 := (hB4.cell (p := ⟨B, o + from_ * 3 + 2, none⟩) hBl).trans hx2
  rw [hW4] at hy0 hy1 hy2
  have HW4 := Lib.hid hW4
  have HB4 := Lib.hid hB4
  have HS4 := Lib.hid hs4
  have K0 := Lib.hid k0
  have K1 := Lib.hid k1
  have K2 := Lib.hid k2
  have K3 := Lib.hid k3
  clear hW4 hB4 hs4 k0 k1 k2 k3 hx0 hx1 hx2
  have HLL := Lib.hid hl
  have HRR := Lib.hid hR
  have HAA := Lib.hid hA
  clear hl hR hA
  refine (callsIn_wide (n := 8)).1 ?_
  refine callsIn_of_wp_marks Try.func48 rfl trivial ?_ rfl
  simp only [Try.ntmps48, List.size_toArray, List.length_cons, List.length_nil, Nat.reduceAdd, Nat.reduceSub, Array.replicate_succ, Array.replicate_zero, List.push_toArray, List.append_toArray, List.nil_append, List.cons_append]
  gi_wp2_with (refine ⟨trivial, ?_⟩; gi_at_call 61; rw [← HW4.out]; refine (callsIn_wide.2 (height_raw _ _ _ W4)).mono ?_; rintro e W5 ⟨rfl, X5, hX5⟩; have HX5 := Lib.hid hX5; clear hX5)
  have h5s : W5.heap.size = W.heap.size + 5 := by rw [HX5.out, World.size_alloc, HS4.out]
  have g5 : W4.grownBy W5 none := by rw [HX5.out]; exact World.grownBy_alloc _ _ _
  obtain ⟨W8, hW8⟩ : ∃ W8, W8 = ((W5.alloc (.cells #[.int .i64 from_, .int .i64 (hgt (atB l from_).Lo (atB l from_).Hi (atB l from_).Unknown)] 127)).alloc (.cells #[.slice (some ⟨W5.heap.size, 0, none⟩) 1 1] 129)).alloc (.cells #[.pointer (some ⟨W5.heap.size + 1, 0, none⟩)] 124) := ⟨_, rfl⟩
  have g8 : W4.grownBy W8 none := by
    rw [hW8]
    exact g5.trans (((World.grownBy_alloc W5 _ none).trans (World.grownBy_alloc _ _ none)).trans (World.grownBy_alloc _ _ none))
  have k8 : ∀ (k : Nat) (ob : Obj), W4.heap[k]? = some ob → W8.heap[k]? = some ob := fun k ob hk => (g8.block k (blk_lt hk) (by simp)).trans hk
  have r0 : W8.heap[W5.heap.size]? = some (.cells #[.int .i64 from_, .int .i64 (hgt (atB l from_).Lo (atB l from_).Hi (atB l from_).Unknown)] 127 (0, 0)) := by
    rw [hW8]; exact blk_alloc (blk_alloc (World.alloc_heap_new W5 _) _) _
  have r1 : W8.heap[W5.heap.size + 1]? = some (.cells #[.slice (some ⟨W5.heap.size, 0, none⟩) 1 1] 129 (0, 0)) := by
    have := World.alloc_heap_new (W5.alloc (.cells #[.int .i64 from_, .int .i64 (hgt (atB l from_).Lo (atB l from_).Hi (atB l from_).Unknown)] 127)) (.cells #[.slice (some ⟨W5.heap.size, 0, none⟩) 1 1] 129)
    rw [World.size_alloc] at this
    rw [hW8]; exact blk_alloc this _
  have r2 : W8.heap[W5.heap.size + 2]? = some (.cells #[.pointer (some ⟨W5.heap.size + 1, 0, none⟩)] 124 (0, 0)) := by
    have := World.alloc_heap_new ((W5.alloc (.cells #[.int .i64 from_, .int .i64 (hgt (atB l from_).Lo (atB l from_).Hi (atB l from_).Unknown)] 127)).alloc (.cells #[.slice (some ⟨W5.heap.size, 0, none⟩) 1 1] 129)) (.cells #[.pointer (some ⟨W5.heap.size + 1, 0, none⟩)] 124)
    rw [World.size_alloc, World.size_alloc] at this
    rw [hW8]; exact this
  have hS : SadS W w h l B o cap (W5.heap.size + 1) (W5.heap.size + 2) W8 [((from_ : Int), hgtB (atB l from_))] (List.replicate l.length 0) (List.replicate l.length false) W5.heap.size := by
    refine ⟨HB4.out.trans ⟨g8.os, g8.tape, g8.output, g8.size, fun k hk => g8.block k (Nat.lt_of_lt_of_le hk HB4.out.size) (by simp)⟩, k8 _ _ K0.out, ?_, ?_, k8 _ _ K3.out, r2, ⟨1, r1, _, r0, by simp, by decide, rfl, fun k hk => ?_⟩, by simp, by simp, by rw [h5s]; omega⟩
    · rw [List.map_replicate, List.toArray_replicate]; exact k8 _ _ K1.out
    · rw [List.map_replicate, List.toArray_replicate]; exact k8 _ _ K2.out
    · obtain rfl : k = 0 := by simpa using hk
      exact ⟨rfl, rfl⟩
  rw [← hW8]
  have HS := Lib.hid hS
  clear hS r0 r1 r2 k8 g8 g5 hW8 hmq hmb hy0 hy1 hy2
  refine wpIn_loop_rounds (9 * l.length + 1) ?_
  refine sad_loop W w h hw hh l HLL.out B o cap (W5.heap.size + 1) (W5.heap.size + 2) HAA.out hcap _ (by simp only [Try.f48, Option.getD_some, seqL, seqR, blockB, loopB]) W.heap.size rfl R _ _ _ _ _ _ _ _ _ _ _ _ _ _ _ _ _ _ _ _ _ _ _ ?_ (9 * l.length + 1) _ _ _ W5.heap.size [] _ _ _ _ _ _ _ _ _ _ _ _ _ _ _ _ _ _ _ _ _ _ _ _ _ _ _ _ _ _ _ _ _ _ _ _ _ _ _ _ _ _ _ _ _ _ _ _ _ _ _ _ _ _ _ W8 HRR.out HS.out List.Pairwise.nil (fun D hD => (by cases hD))
  intro u8 u9 u28 u29 u30 u31 u32 u33 u34 u35 u36 u37 u38 u39 u40 u41 u42 u43 u44 u45 u46 u47 u48 u49 u50 u51 u52 u53 u54 u55 u56 u57 u58 u59 u60 u61 u62 u63 u64 u65 u66 u67 u68 u69 u70 u71 u72 u73 u74 u75 u76 u77 u78 u79 u80 W9 g9 done9 Ds hS9 hD9 hE9
  have HS9 := Lib.hid hS9
  have HD9 := Lib.hid hD9
  have HE9 := Lib.hid hE9
  clear hS9 hD9 hE9
  gi_wp2
  show LeavesInM _ _ _ _ _ _ (Ds.map fun D => { target := .collected D, args := #[] }) .returning W9
  refine leaves_marks W.heap.size Ds W9 HD9.out HE9.out fun W' e1 e2 e3 e4 e5 e6 => ?_
  exact ⟨_, results_tmp rfl _ _ _, W.heap.size + 1, by omega, rfl, e5 _ _ HS9.out.o rfl, HS9.out.below.trans ⟨e1, e2, e3, e4, e6⟩⟩
theorem sadL_len (w h : Nat) (l : List Bound) : ∀ (f : Nat) (q : List HpSt) (out : List Int) (done : List Bool) (R : List Int), sadL w h l f q out done = some R → R.length = out.length
  | 0, q, out, done, R, hR => by cases hR
  | f + 1, q, out, done, R, hR => by
    rw [sadL] at hR
    split at hR
    · cases hR; rfl
    · split at hR
      · simp only at hR
        split at hR
        · split at hR
          · exact sadL_len w h l f _ _ _ _ hR
          · have := sadL_len w h l f _ _ _ _ hR
            simpa using this
        · cases hR
      · cases hR
theorem rowB_of {E : Env} {W : World} (hf : ∀ B o d, E.F B o = some d → W.cell? ⟨B, o, none⟩ = some d) {A : Option Addr} {l : List Bound}
    (h : l.length = 0 ∨ ∃ B o, A = some ⟨B, o, none⟩ ∧ (false = true → E.n0 ≤ B) ∧ RF E B o (l.flatMap (Cl.c false))) : RowB W A l := fun k hk => by
  rcases h with h | ⟨B, o, rfl, _, h⟩
  · omega
  · have e : l.getD k Cl.d = atB l k := by unfold atB; rw [List.getD_eq_getElem?_getD, List.getD_eq_getElem?_getD, List.getElem?_eq_getElem hk]; rfl
    have g := flat_at false l k hk
    rw [e] at g
    have g : ((l.flatMap (Cl.c false)).drop (k * 3)).take 3 = [.sc (.int .i64 (atB l k).Lo), .sc (.int .i64 (atB l k).Hi), .sc (.bool (atB l k).Unknown)] := g
    have key : ∀ j v, j < 3 → ([.sc (.int .i64 (atB l k).Lo), .sc (.int .i64 (atB l k).Hi), .sc (.bool (atB l k).Unknown)] : List V)[j]? = some (.sc v) → W.cell? ⟨B, o + k * 3 + j, none⟩ = some v := fun j v hj hv => by
      have h1 : (l.flatMap (Cl.c false))[k * 3 + j]? = some (.sc v) := by rw [← hv, ← g, List.getElem?_take, if_pos hj, List.getElem?_drop]
      obtain ⟨d, h2, h3⟩ := RF.get _ _ h _ _ h1
      simp only [RL] at h3
      subst h3
      rw [Nat.add_assoc]; exact hf _ _ _ h2
    exact ⟨B, o, rfl, key 0 _ (by decide) rfl, key 1 _ (by decide) rfl, key 2 _ (by decide) rfl⟩
end

end Go.Proofs.Crs
