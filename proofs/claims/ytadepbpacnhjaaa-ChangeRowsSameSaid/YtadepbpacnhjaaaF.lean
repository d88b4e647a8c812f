/- Each function of the program computes its plain function. Conditions: as each theorem states them. -/
import Derived.Test.YtadepbpacnhjaaaH
import Derived.Test.YtadepbpacnhjaaaS
import Derived.Deep.RegionHeld3
import Derived.Deep.QuietTactic
import Derived.BigQuiet
import Derived.Test.YtadepbpacnhjaaaT
namespace Go.Proofs.Crs
open Go Go.Abs Lf
set_option linter.unusedVariables false
set_option linter.unusedSimpArgs false
set_option maxRecDepth 100000
set_option maxHeartbeats 1000000
section
open Go.RowKit Go.Shelf Go.IntWalk
def cmpI (a b : Int) : Int := if a < b then -1 else if b < a then 1 else 0
theorem nan_raw (a : Int) (w : World) : Calls Try.prog 68 #[.int .i64 a] w fun e w' => e = .returned (.bool false) ∧ w' = w := by
  go_enter Try.func68, Try.ntmps68
  go_wp2
  go_ret
  exact ⟨rfl, rfl⟩
theorem cmp_raw (a b : Int) (w : World) : Calls Try.prog 50 #[.int .i64 a, .int .i64 b] w fun e w' => e = .returned (.int .i64 (cmpI a b)) ∧ w' = w := by
  unfold cmpI
  by_cases h1 : a < b
  · rw [if_pos h1]
    go_enter Try.func50, Try.ntmps50
    go_wp2_with (go_at_call 68; refine (nan_raw _ _).mono ?_; rintro e w' ⟨rfl, rfl⟩)
    go_ret
    exact ⟨rfl, rfl⟩
  · rw [if_neg h1]
    by_cases h2 : b < a
    · rw [if_pos h2]
      go_enter Try.func50, Try.ntmps50
      go_wp2_with (go_at_call 68; refine (nan_raw _ _).mono ?_; rintro e w' ⟨rfl, rfl⟩)
      go_ret
      exact ⟨rfl, rfl⟩
    · rw [if_neg h2]
      go_enter Try.func50, Try.ntmps50
      go_wp2_with (go_at_call 68; refine (nan_raw _ _).mono ?_; rintro e w' ⟨rfl, rfl⟩)
      go_ret
      exact ⟨rfl, rfl⟩
theorem mul_self_nonneg' (x : Int) : 0 ≤ x * x := by
  rcases Int.le_total 0 x with h | h
  · exact Int.mul_nonneg h h
  · rw [← Int.neg_mul_neg]; exact Int.mul_nonneg (by omega) (by omega)
theorem sq_raw (w i j : Nat) (hw : 1 ≤ w ∧ w ≤ 32) (hi : i < 1024) (hj : j < 1024) (W : World) : Calls Try.prog 51 #[.int .i64 w, .int .i64 i, .int .i64 j] W fun e w' => e = .returned (.int .i64 (sqI w i j)) ∧ ∃ q, w' = W.drewN q := by
  unfold sqI
  have h0 : (w : Int) ≠ 0 := by omega
  have h1 : (w : Int) ≠ -1 := by omega
  have e1 : Int.tmod (i : Int) w = (i : Int) % w := Int.tmod_eq_emod_of_nonneg (by omega)
  have e2 : Int.tmod (j : Int) w = (j : Int) % w := Int.tmod_eq_emod_of_nonneg (by omega)
  have e3 : Int.tdiv (i : Int) w = (i : Int) / w := Int.tdiv_eq_ediv_of_nonneg (by omega)
  have e4 : Int.tdiv (j : Int) w = (j : Int) / w := Int.tdiv_eq_ediv_of_nonneg (by omega)
  have b1 : 0 ≤ (i : Int) % w ∧ (i : Int) % w < 1024 := ⟨Int.emod_nonneg _ h0, by have := Int.emod_lt_of_pos (i : Int) (show (0 : Int) < w by omega); omega⟩
  have b2 : 0 ≤ (j : Int) % w ∧ (j : Int) % w < 1024 := ⟨Int.emod_nonneg _ h0, by have := Int.emod_lt_of_pos (j : Int) (show (0 : Int) < w by omega); omega⟩
  have b3 : 0 ≤ (i : Int) / w ∧ (i : Int) / w < 1024 := ⟨Int.ediv_nonneg (by omega) (by omega), by have := Int.ediv_le_self (a := i) w (by omega); omega⟩
  have b4 : 0 ≤ (j : Int) / w ∧ (j : Int) / w < 1024 := ⟨Int.ediv_nonneg (by omega) (by omega), by have := Int.ediv_le_self (a := j) w (by omega); omega⟩
  have key : ∀ a b c d : Int, 0 ≤ a ∧ a < 1024 → 0 ≤ b ∧ b < 1024 → 0 ≤ c ∧ c < 1024 → 0 ≤ d ∧ d < 1024 → wrap64 (wrap64 (wrap64 (a - b) * wrap64 (a - b)) + wrap64 (wrap64 (wrap64 c - wrap64 d) * wrap64 (wrap64 c - wrap64 d))) = (a - b) * (a - b) + (c - d) * (c - d) := fun a b c d ha hb hc hd => by
    have m : ∀ x : Int, -1024 ≤ x → x ≤ 1024 → 0 ≤ x * x ∧ x * x ≤ 1048576 := fun x h1 h2 => ⟨mul_self_nonneg' x, by
      have h := Int.natAbs_mul_self (a := x)
      have h3 : x.natAbs * x.natAbs ≤ 1024 * 1024 := Nat.mul_le_mul (by omega) (by omega)
      omega⟩
    rw [wrap64_in c (by omega), wrap64_in d (by omega), wrap64_in (a - b) (by omega), wrap64_in (c - d) (by omega)]
    have := m (a - b) (by omega) (by omega)
    have := m (c - d) (by omega) (by omega)
    rw [wrap64_in ((a - b) * (a - b)) (by omega), wrap64_in ((c - d) * (c - d)) (by omega), wrap64_in ((a - b) * (a - b) + (c - d) * (c - d)) (by omega)]
  rw [e1, e2, e3, e4, ← key _ _ _ _ b1 b2 b3 b4]
  clear key b1 b2 b3 b4
  go_enter Try.func51, Try.ntmps51
  go_wp2
  go_quiet (fail)
  all_goals
    go_wp2
    go_ret
    refine ⟨?_, _, rfl⟩
    simp [e1, e2, e3, e4, i64_left]
def WayOK (W : World) (s : Value) (R : List Int) : Prop := ∃ B, s = .slice (some ⟨B, 0, none⟩) R.length R.length ∧ W.heap[B]? = some (.cells (R.map (Value.int .i64)).toArray 32 (0, 0))
theorem find1_raw (W : World) (R : List Int) (s : Value) (hs : WayOK W s R) (i : Nat) (hi : i < R.length) (Bi Bc Bb ob n cap : Nat) (lo : Int) (hBi : W.cell? ⟨Bi, 0, none⟩ = some (.int .i64 i)) (hBc : W.cell? ⟨Bc, 2, none⟩ = some (.slice (some ⟨Bb, ob, none⟩) n cap)) (hn : i < n)
    (hlo : W.cell? ⟨Bb, ob + i * 3, none⟩ = some (.int .i64 lo)) : Calls Try.prog 47 #[s, .pointer (some ⟨Bi, 0, none⟩), .pointer (some ⟨Bc, 0, none⟩)] W fun e w' => e = .returned (.bool (decide (lo ≤ R.getD i 0))) ∧ w' = W.drew := by
  obtain ⟨B, rfl, hB⟩ := hs
  have hx := (cel_get hB i (v := .int .i64 (R.getD i 0)) (by simp [List.getD_eq_getElem?_getD, List.getElem?_eq_getElem hi])).1
  have z1 : (0 : Int) ≤ i := by omega
  have z2 : (i : Int) ≤ R.length := by omega
  have z3 : (i : Int) < R.length := by omega
  have z4 : (i : Int) < n := by omega
  clear hB
  generalize R.getD i 0 = x at hx ⊢
  generalize R.length = m at *
  go_enter Try.func47, Try.ntmps47
  go_wp2
  go_region_held3 (fun w' => w'.cell? ⟨Bi, 0, none⟩ = some (.int .i64 i) ∧ w'.cell? ⟨Bc, 2, none⟩ = some (.slice (some ⟨Bb, ob, none⟩) n cap) ∧ w'.cell? ⟨Bb, ob + i * 3, none⟩ = some (.int .i64 lo) ∧ w'.cell? ⟨B, i, none⟩ = some (.int .i64 x)) (go_keep) (fail)
  go_wp2
  go_ret
  exact ⟨rfl, rfl⟩
structure SameH (W W' : World) : Prop where
  heap : W'.heap = W.heap
  below : Below W.heap.size W W'
theorem SameH.refl (W : World) : SameH W W := ⟨rfl, Below.refl _ _⟩
theorem SameH.drew {W W' : World} (h : SameH W W') : SameH W W'.drew := ⟨h.heap, h.below.trans (by rw [← h.heap]; exact (Below.refl _ W').drew)⟩
theorem SameH.trans {W W' W'' : World} (h : SameH W W') (h' : SameH W' W'') : SameH W W'' := ⟨h'.heap.trans h.heap, h.below.trans (by rw [← h.heap]; exact h'.below)⟩
theorem SameH.cell {W W' : World} (h : SameH W W') (p : Addr) : W'.cell? p = W.cell? p := by unfold World.cell?; rw [h.heap]
theorem SameH.way {W W' : World} (h : SameH W W') {s : Value} {R : List Int} (hs : WayOK W s R) : WayOK W' s R := by
  obtain ⟨B, e, h1⟩ := hs
  exact ⟨B, e, by rw [h.heap]; exact h1⟩
/-- Rows of heights, as a slice of them. -/
def WaysAt (W : World) (A : Option Addr) (ss : List Value) (ws : List (List Int)) : Prop := ss.length = ws.length ∧ ∀ k s R, ss[k]? = some s → ws[k]? = some R → WayOK W s R ∧ ∃ B o, A = some ⟨B, o, none⟩ ∧ W.cell? ⟨B, o + k, none⟩ = some s
theorem index_raw (W : World) (A : Option Addr) (ss : List Value) (ws : List (List Int)) (cap : Nat) (hA : WaysAt W A ss ws) (hlen : ws.length < 1000) (i : Nat) (hi : ∀ R ∈ ws, i < R.length) (Bi Bc Bb ob n cp : Nat) (lo : Int) (hBi : W.cell? ⟨Bi, 0, none⟩ = some (.int .i64 i)) (hBc : W.cell? ⟨Bc, 2, none⟩ = some (.slice (some ⟨Bb, ob, none⟩) n cp)) (hn : i < n)
    (hlo : W.cell? ⟨Bb, ob + i * 3, none⟩ = some (.int .i64 lo)) : Calls Try.prog 60 #[.slice A ws.length cap, .func (.func 47) #[] #[.pointer (some ⟨Bi, 0, none⟩), .pointer (some ⟨Bc, 0, none⟩)]] W fun e w' => (∃ r : Int, e = .returned (.int .i64 r) ∧ (decide (0 ≤ r) = ws.any fun R => decide (lo ≤ R.getD i 0))) ∧ SameH W w' := by
  have eF := enters_of Try.func47 (by kernel_rfl) rfl
  go_enter Try.func60, Try.ntmps60
  go_wp2
  go_loopw [8] (fun vj wr => ∃ k : Nat, vj = .int .i64 k ∧ k ≤ ws.length ∧ ((ws.drop k).any fun R => decide (lo ≤ R.getD i 0)) = (ws.any fun R => decide (lo ≤ R.getD i 0)) ∧ SameH W wr) (fun vj _ => ws.length - (intOf vj).toNat)
  case atStart => exact ⟨0, rfl, by omega, rfl, SameH.refl _⟩
  case round =>
    obtain ⟨k, rfl, hk, hany, hS⟩ := hrel
    by_cases hlt : k < ws.length
    · obtain ⟨hw, B, o, rfl, hc⟩ := hA.2 k (ss[k]'(by rw [hA.1]; exact hlt)) ws[k] (List.getElem?_eq_getElem _) (List.getElem?_eq_getElem _)
      have hw' := hS.way hw
      have FR := find1_raw wr ws[k] _ hw' i (hi _ (List.getElem_mem _)) Bi Bc Bb ob n cp lo ((hS.cell _).trans hBi) ((hS.cell _).trans hBc) hn ((hS.cell _).trans hlo)
      have hc' := (hS.cell _).trans hc
      rw [List.drop_eq_getElem_cons hlt, List.any_cons] at hany
      generalize ss[k]'(by rw [hA.1]; exact hlt) = s at *
      have HS := Lib.hid hS
      have HA := Lib.hid hany
      clear hw hw' hBi hBc hlo hc hA hi hany hS
      have z1 : (k : Int) < ws.length := by omega
      generalize hq : decide (lo ≤ ws[k].getD i 0) = q at *
      cases q with
      | true =>
        go_wp2_with (go_at_call 47; refine FR.mono ?_; rintro e w' ⟨rfl, rfl⟩)
        go_ret
        refine ⟨⟨k, rfl, ?_⟩, HS.out.drew⟩
        rw [← HA.out]; simp
      | false =>
        go_wp2_with (go_at_call 47; refine FR.mono ?_; rintro e w' ⟨rfl, rfl⟩)
        exact ⟨⟨k + 1, by simp, by omega, by rw [← HA.out]; simp, HS.out.drew⟩, by simp [intOf]; omega⟩
    · obtain rfl : k = ws.length := by omega
      rw [List.drop_length] at hany
      have HS := Lib.hid hS
      clear hS hA
      go_wp2
      go_ret
      exact ⟨⟨-1, rfl, by rw [← hany]; rfl⟩, HS.out⟩
theorem contains_raw (W : World) (A : Option Addr) (ss : List Value) (ws : List (List Int)) (cap : Nat) (hA : WaysAt W A ss ws) (hlen : ws.length < 1000) (i : Nat) (hi : ∀ R ∈ ws, i < R.length) (Bi Bc Bb ob n cp : Nat) (lo : Int) (hBi : W.cell? ⟨Bi, 0, none⟩ = some (.int .i64 i)) (hBc : W.cell? ⟨Bc, 2, none⟩ = some (.slice (some ⟨Bb, ob, none⟩) n cp)) (hn : i < n)
    (hlo : W.cell? ⟨Bb, ob + i * 3, none⟩ = some (.int .i64 lo)) : Calls Try.prog 46 #[.slice A ws.length cap, .func (.func 47) #[] #[.pointer (some ⟨Bi, 0, none⟩), .pointer (some ⟨Bc, 0, none⟩)]] W fun e w' => e = .returned (.bool (ws.any fun R => decide (lo ≤ R.getD i 0))) ∧ SameH W w' := by
  have I := index_raw W A ss ws cap hA hlen i hi Bi Bc Bb ob n cp lo hBi hBc hn hlo
  clear hA hBi hBc hlo
  go_enter Try.func46, Try.ntmps46
  go_wp2_with (go_at_call 60; refine I.mono ?_; rintro e w' ⟨⟨r, rfl, hr⟩, hS⟩; have HR := Lib.hid hr; clear hr)
  go_ret
  refine ⟨?_, hS⟩
  rw [← HR.out]
  rfl
def srcC (ps : List Int) : List Value := ps.flatMap fun p => [.int .i64 p, .slice none 0 0]
theorem srcC_snoc (ps : List Int) (x : Int) : srcC (ps ++ [x]) = srcC ps ++ [.int .i64 x, .slice none 0 0] := by unfold srcC; simp
structure FdS (W0 : World) (B1 N : Nat) (w : World) (vo vw : Value) (ps : List Int) (ws : List (List Int)) (ss : List Value) : Prop where
  out : w.ownsRow B1 84 2 vo ps.length (srcC ps)
  ways : w.ownsRow B1 113 1 vw ws.length ss
  way : ∀ (k : Nat) (s : Value) (R : List Int), ss[k]? = some s → ws[k]? = some R → WayOK w s R
  len : ∀ R ∈ ws, R.length = N
  psb : ∀ p ∈ ps, 0 ≤ p ∧ p < N
  below : Below W0.heap.size W0 w
  base : W0.heap.size ≤ B1
theorem own_type {w : World} {base n size : Nat} {e : TypeId} {v : Value} {xs : List Value} (h : w.ownsRow base e size v n xs) {g : Nat} (hg : v.ownBlock = some g) : ∃ cur, w.heap[g]? = some (.cells cur e (0, 0)) := by
  rcases h.2 with ⟨h, _⟩ | ⟨g', c, cur, h, _, h2, _⟩
  · subst h; cases hg
  · subst h; cases hg; exact ⟨cur, h2⟩
theorem own_far {w : World} {b1 b2 n1 n2 s1 s2 : Nat} {e1 e2 : TypeId} {v1 v2 : Value} {x1 x2 : List Value} (h1 : w.ownsRow b1 e1 s1 v1 n1 x1) (h2 : w.ownsRow b2 e2 s2 v2 n2 x2) (ne : e1 ≠ e2) : v1.ownBlock = none ∨ v1.ownBlock ≠ v2.ownBlock := by
  cases e : v1.ownBlock with
  | none => exact .inl rfl
  | some g =>
    right; intro q
    obtain ⟨c1, k1⟩ := own_type h1 e
    obtain ⟨c2, k2⟩ := own_type h2 q.symm
    rw [k1] at k2; cases k2; exact ne rfl
theorem way_grown {w w' : World} {row : Option Nat} (hg : w.grownBy w' row) (hr : ∀ r, row = some r → ∃ cur e, w.heap[r]? = some (.cells cur e (0, 0)) ∧ e ≠ 32) {s : Value} {R : List Int} (h : WayOK w s R) : WayOK w' s R := by
  obtain ⟨B, e, h1⟩ := h
  refine ⟨B, e, (hg.block B (blk_lt h1) (fun q => ?_)).trans h1⟩
  obtain ⟨cur, e, h2, h3⟩ := hr B q.symm
  rw [h1] at h2; cases h2; exact h3 rfl
theorem FdS.kept {W0 : World} {B1 N : Nat} {w w' : World} {vo vw : Value} {ps : List Int} {ws : List (List Int)} {ss : List Value} (h : FdS W0 B1 N w vo vw ps ws ss) (hg : w.grownBy w' none) : FdS W0 B1 N w' vo vw ps ws ss :=
  ⟨h.out.kept hg (by cases vo.ownBlock <;> simp), h.ways.kept hg (by cases vw.ownBlock <;> simp), fun k s R a b => way_grown hg (fun r e => by cases e) (h.way k s R a b), h.len, h.psb, h.below.grown hg h.below.size (fun j hj => by cases hj), h.base⟩
theorem FdS.same {W0 : World} {B1 N : Nat} {w w' : World} {vo vw : Value} {ps : List Int} {ws : List (List Int)} {ss : List Value} (h : FdS W0 B1 N w vo vw ps ws ss) (hg : SameH w w') : FdS W0 B1 N w' vo vw ps ws ss :=
  h.kept ⟨hg.below.os, hg.below.tape, hg.below.output, hg.below.size, fun i hi _ => by rw [hg.heap]⟩
theorem FdS.addOut {W0 : World} {B1 N : Nat} {w w' : World} {vo vw vo' : Value} {ps : List Int} {ws : List (List Int)} {ss : List Value} (h : FdS W0 B1 N w vo vw ps ws ss) {x : Int} (hx : 0 ≤ x ∧ x < N)
    (ho : w'.ownsRow B1 84 2 vo' (ps.length + 1) (srcC ps ++ [.int .i64 x, .slice none 0 0])) (hg : w.grownBy w' vo.ownBlock) : FdS W0 B1 N w' vo' vw (ps ++ [x]) ws ss :=
  ⟨by rw [srcC_snoc, List.length_append]; exact ho, h.ways.kept hg (own_far h.ways h.out (by decide)), fun k s R a b => way_grown hg (fun r e => (own_type h.out e).elim fun c hc => ⟨c, 84, hc, by decide⟩) (h.way k s R a b), h.len, fun p hp => (List.mem_append.1 hp).elim (h.psb p) (fun q => by rw [List.mem_singleton.1 q]; exact hx),
    h.below.grown hg h.below.size (fun j hj => by have := (h.out.lt j hj).1; have := h.base; omega), h.base⟩
theorem FdS.addWay {W0 : World} {B1 N : Nat} {w w' : World} {vo vw vw' : Value} {ps : List Int} {ws : List (List Int)} {ss : List Value} (h : FdS W0 B1 N w vo vw ps ws ss) {s : Value} {R : List Int} (hs : WayOK w s R) (hR : R.length = N)
    (ho : w'.ownsRow B1 113 1 vw' (ws.length + 1) (ss ++ [s])) (hg : w.grownBy w' vw.ownBlock) : FdS W0 B1 N w' vo vw' ps (ws ++ [R]) (ss ++ [s]) := by
  have hl : ss.length = ws.length := by have := h.ways.1; omega
  have hr : ∀ r, vw.ownBlock = some r → ∃ cur e, w.heap[r]? = some (.cells cur e (0, 0)) ∧ e ≠ 32 := fun r e => (own_type h.ways e).elim fun c hc => ⟨c, 113, hc, by decide⟩
  refine ⟨h.out.kept hg (own_far h.out h.ways (by decide)), by rw [List.length_append]; exact ho, fun k t Q a b => ?_, fun Q hQ => (List.mem_append.1 hQ).elim (h.len Q) (fun q => by rw [List.mem_singleton.1 q]; exact hR), h.psb,
    h.below.grown hg h.below.size (fun j hj => by have := (h.ways.lt j hj).1; have := h.base; omega), h.base⟩
  by_cases hk : k < ss.length
  · rw [List.getElem?_append_left hk] at a
    rw [List.getElem?_append_left (by omega)] at b
    exact way_grown hg hr (h.way k t Q a b)
  · have hk2 : k < (ss ++ [s]).length := (List.getElem?_eq_some_iff.1 a).1
    obtain rfl : k = ss.length := by simp at hk2; omega
    rw [List.getElem?_append_right (by omega)] at a b
    simp at a
    rw [show ss.length - ws.length = 0 by omega] at b
    cases a; cases b
    exact way_grown hg hr hs
theorem FdS.waysAt {W0 : World} {B1 N : Nat} {w : World} {vo vw : Value} {ps : List Int} {ws : List (List Int)} {ss : List Value} (h : FdS W0 B1 N w vo vw ps ws ss) : ∃ A cap, vw = .slice A ws.length cap ∧ WaysAt w A ss ws := by
  have hl : ss.length = ws.length := by have := h.ways.1; omega
  rcases h.ways.2 with ⟨e, e0⟩ | ⟨g, c, cur, e, _⟩
  · exact ⟨none, 0, by rw [e, e0], hl, fun k s R a b => by have := (List.getElem?_eq_some_iff.1 b).1; omega⟩
  · refine ⟨_, c, e, hl, fun k s R a b => ⟨h.way k s R a b, g, 0, rfl, ?_⟩⟩
    have := h.ways.cells (g := g) (by rw [e]; rfl) k s a
    rw [Addr.add_lit] at this
    exact this
/-- The second loop's state: what each source's parts are. -/
structure Fd2S (w2 : World) (O : Nat) (ps : List Int) (w : World) (vs : List Value) (parts : List (List Int)) : Prop where
  g : w2.grownBy w (some O)
  lt : ps ≠ [] → O < w2.heap.size
  blk : ps ≠ [] → ∃ cur : Array Value, w.heap[O]? = some (.cells cur 84 (0, 0)) ∧ ∀ (k : Nat) p v, ps[k]? = some p → vs[k]? = some v → cur[k * 2]? = some (.int .i64 p) ∧ cur[k * 2 + 1]? = some v
  vlen : vs.length = ps.length
  plen : parts.length = ps.length
  own : ∀ (k : Nat) v xs, vs[k]? = some v → parts[k]? = some xs → w.ownsRow w2.heap.size 3 1 v xs.length (xs.map fun x => .int .i64 x)
  sep : ∀ (j j' : Nat) v v', j ≠ j' → vs[j]? = some v → vs[j']? = some v' → v.ownBlock = none ∨ v.ownBlock ≠ v'.ownBlock
theorem grownBy_trans' {a b c : World} {r s t : Option Nat} (h1 : a.grownBy b r) (h2 : b.grownBy c s) (hr : ∀ k, r = some k → k < a.heap.size → t = some k) (hs : ∀ k, s = some k → k < a.heap.size → t = some k) : a.grownBy c t :=
  ⟨h2.os.trans h1.os, h2.tape.trans h1.tape, h2.output.trans h1.output, Nat.le_trans h1.size h2.size, fun k hk hn => by
    rw [h2.block k (Nat.lt_of_lt_of_le hk h1.size) (fun e => hn (hs k e.symm hk).symm), h1.block k hk (fun e => hn (hr k e.symm hk).symm)]⟩
theorem Fd2S.kept {w2 w w' : World} {O : Nat} {ps : List Int} {vs : List Value} {parts : List (List Int)} (h : Fd2S w2 O ps w vs parts) (hg : w.grownBy w' none) : Fd2S w2 O ps w' vs parts :=
  ⟨grownBy_trans' h.g hg (fun k e _ => e) (fun k e => by cases e), h.lt, fun hp => by
    obtain ⟨cur, h1, h2⟩ := h.blk hp
    exact ⟨cur, (hg.block O (blk_lt h1) (by simp)).trans h1, h2⟩, h.vlen, h.plen, fun k v xs hv hx => (h.own k v xs hv hx).kept hg (by cases v.ownBlock <;> simp), h.sep⟩
theorem Fd2S.step {w2 w w5 : World} {O : Nat} {ps : List Int} {vs : List Value} {parts : List (List Int)} (h : Fd2S w2 O ps w vs parts) {j : Nat} {v v' : Value} {xs : List Int} {x : Int} (hv : vs[j]? = some v) (hx : parts[j]? = some xs)
    (hg : w.grownBy w5 v.ownBlock) (ho : w5.ownsRow w2.heap.size 3 1 v' (xs.length + 1) (xs.map (fun x => .int .i64 x) ++ [.int .i64 x])) (hb : v'.ownBlock = v.ownBlock ∨ v'.ownBlock = some w.heap.size) :
    Fd2S w2 O ps (w5.setCell ⟨O, j * 2 + 1, none⟩ v') (vs.set j v') (parts.set j (xs ++ [x])) := by
  have hj : j < vs.length := (List.getElem?_eq_some_iff.1 hv).1
  have hp : ps ≠ [] := fun e => by have := h.vlen; rw [e] at this; simp at this; rw [this] at hj; simp at hj
  have hO := h.lt hp
  have own := h.own j v xs hv hx
  obtain ⟨cur, b1, b2⟩ := h.blk hp
  have nO : v.ownBlock ≠ some O := fun e => by have := (own.lt O e).1; omega
  have b3 : w5.heap[O]? = some (.cells cur 84 (0, 0)) := (hg.block O (blk_lt b1) (fun e => nO e.symm)).trans b1
  have setg : w5.grownBy (w5.setCell ⟨O, j * 2 + 1, none⟩ v') (some O) := by
    refine ⟨rfl, rfl, rfl, by unfold World.setCell; simp, fun i hi hr => ?_⟩
    exact Below.heap_setCell w5 ⟨O, j * 2 + 1, none⟩ v' i (fun e => hr (by rw [e]))
  have far : ∀ (u : Value) n zs, w5.ownsRow w2.heap.size 3 1 u n zs → (w5.setCell ⟨O, j * 2 + 1, none⟩ v').ownsRow w2.heap.size 3 1 u n zs := fun u n zs hu => hu.kept setg (by
    cases e : u.ownBlock with
    | none => exact .inl rfl
    | some g => right; intro e2; have := (hu.lt g e).1; cases e2; omega)
  have ub : ∀ (j' : Nat) u, j' ≠ j → vs[j']? = some u → u.ownBlock = none ∨ u.ownBlock ≠ v'.ownBlock := fun j' u ne hu => by
    rcases hb with e | e
    · rw [e]; exact h.sep j' j u v ne hu hv
    · rw [e]
      cases e3 : u.ownBlock with
      | none => exact .inl rfl
      | some g =>
        right; intro e4; cases e4
        have hj' : j' < parts.length := by rw [h.plen, ← h.vlen]; exact (List.getElem?_eq_some_iff.1 hu).1
        have := ((h.own j' u parts[j'] hu (List.getElem?_eq_getElem hj')).lt _ e3).2
        omega
  refine ⟨grownBy_trans' (grownBy_trans' h.g hg (t := some O) (fun k e _ => e) (fun k e hk => by have := (own.lt k e).1; omega)) setg (fun k e _ => e) (fun k e _ => e), h.lt, fun _ => ⟨_, blk_set b3 (j * 2 + 1) v', fun k p u hk hu => ?_⟩, by simp [h.vlen], by simp [h.plen], fun j' u ys hu hy => ?_, fun a b u u' ne hu hu' => ?_⟩
  · by_cases e : k = j
    · subst e
      rw [List.getElem?_set_self (by omega)] at hu
      cases hu
      obtain ⟨c0, c1⟩ := b2 k p v hk hv
      have s1 := (Array.getElem?_eq_some_iff.1 c1).1
      exact ⟨by rw [Array.getElem?_setIfInBounds_ne (by omega)]; exact c0, by rw [Array.getElem?_setIfInBounds_self_of_lt s1]⟩
    · rw [List.getElem?_set_ne (fun q => e q.symm)] at hu
      obtain ⟨c0, c1⟩ := b2 k p u hk hu
      exact ⟨by rw [Array.getElem?_setIfInBounds_ne (by omega)]; exact c0, by rw [Array.getElem?_setIfInBounds_ne (by omega)]; exact c1⟩
  · by_cases e : j' = j
    · subst e
      rw [List.getElem?_set_self (by omega)] at hu
      rw [List.getElem?_set_self (by have := h.plen; have := h.vlen; omega)] at hy
      cases hu; cases hy
      have := far _ _ _ ho
      simpa using this
    · rw [List.getElem?_set_ne (fun q => e q.symm)] at hu hy
      refine far _ _ _ ((h.own j' u ys hu hy).kept hg ?_)
      rcases h.sep j' j u v e hu hv with q | q
      · exact .inl q
      · exact .inr q
  · by_cases ea : a = j
    · subst ea
      rw [List.getElem?_set_self (by omega)] at hu
      rw [List.getElem?_set_ne (fun q => ne q)] at hu'
      cases hu
      rcases ub b u' (fun q => ne q.symm) hu' with q | q
      · cases e : v'.ownBlock with
        | none => exact .inl rfl
        | some g => right; rw [q]; simp
      · exact .inr fun e => q e.symm
    · rw [List.getElem?_set_ne (fun q => ea q.symm)] at hu
      by_cases eb : b = j
      · subst eb
        rw [List.getElem?_set_self (by omega)] at hu'
        cases hu'
        exact ub a u ea hu
      · rw [List.getElem?_set_ne (fun q => eb q.symm)] at hu'
        exact h.sep a b u u' ne hu hu'
/-- A row of sources that a call made. -/
def SrcV (W : World) (base : Nat) (v : Value) (ss : List (Int × List Int)) : Prop :=
  (ss = [] ∧ ∃ a c, v = .slice a 0 c) ∨ ∃ (g cap : Nat) (cur : Array Value) (vs : List Value), v = .slice (some ⟨g, 0, none⟩) ss.length cap ∧ base ≤ g ∧ ss.length ≤ cap ∧ W.heap[g]? = some (.cells cur 84 (0, 0)) ∧ vs.length = ss.length ∧
    ∀ (k : Nat) p xs v, ss[k]? = some (p, xs) → vs[k]? = some v → cur[k * 2]? = some (.int .i64 p) ∧ cur[k * 2 + 1]? = some v ∧ W.ownsRow base 3 1 v xs.length (xs.map (Value.int .i64))
theorem srcC_get : ∀ (ps : List Int) (k : Nat) (p : Int), ps[k]? = some p → (srcC ps)[k * 2]? = some (.int .i64 p) ∧ (srcC ps)[k * 2 + 1]? = some (.slice none 0 0)
  | [], k, p, h => by simp at h
  | q :: ps, 0, p, h => by
    simp at h; subst h
    exact ⟨rfl, rfl⟩
  | q :: ps, k + 1, p, h => by
    have := srcC_get ps k p (by simpa using h)
    unfold srcC at *
    rw [List.flatMap_cons, Nat.succ_mul]
    exact ⟨this.1, this.2⟩
/-- The second loop's start: behind the sort. -/
theorem fd2S_start {w2 : World} {B1 oc : Nat} {oa : Option Addr} {ps : List Int} (h : w2.ownsRow B1 84 2 (.slice oa ps.length oc) ps.length (srcC ps)) : ∃ O, B1 ≤ O ∧ (ps ≠ [] → oa = some ⟨O, 0, none⟩ ∧ B1 ≤ O) ∧ Fd2S w2 O ps w2 (ps.map fun _ => .slice none 0 0) (ps.map fun _ => []) := by
  have own : ∀ (k : Nat) v (xs : List Int), (ps.map fun _ => Value.slice none 0 0)[k]? = some v → (ps.map fun _ => ([] : List Int))[k]? = some xs → w2.ownsRow w2.heap.size 3 1 v xs.length (xs.map fun x => .int .i64 x) := fun k v xs hv hx => by
    rw [List.getElem?_map] at hv hx
    cases e : ps[k]? with
    | none => rw [e] at hv; cases hv
    | some p => rw [e] at hv hx; cases hv; cases hx; exact ⟨rfl, .inl ⟨rfl, rfl⟩⟩
  have sep : ∀ (j j' : Nat) (v v' : Value), j ≠ j' → (ps.map fun _ => Value.slice none 0 0)[j]? = some v → (ps.map fun _ => Value.slice none 0 0)[j']? = some v' → v.ownBlock = none ∨ v.ownBlock ≠ v'.ownBlock := fun j j' v v' _ hv _ => by
    rw [List.getElem?_map] at hv
    cases e : ps[j]? with
    | none => rw [e] at hv; cases hv
    | some p => rw [e] at hv; cases hv; exact .inl rfl
  have refl : ∀ O, w2.grownBy w2 (some O) := fun O => ⟨rfl, rfl, rfl, Nat.le_refl _, fun _ _ _ => rfl⟩
  rcases h.2 with ⟨_, h0⟩ | ⟨g, c, cur, e, hb, hc, h1, h2, h3, h4⟩
  · have hp := List.length_eq_zero_iff.1 h0
    subst hp
    exact ⟨B1, Nat.le_refl _, fun q => absurd rfl q, refl _, fun q => absurd rfl q, fun q => absurd rfl q, by simp, by simp, own, sep⟩
  · cases e
    refine ⟨g, hb, fun _ => ⟨rfl, hb⟩, refl _, fun _ => blk_lt hc, fun _ => ⟨cur, hc, fun k p v hp hv => ?_⟩, by simp, by simp, own, sep⟩
    rw [List.getElem?_map, hp] at hv
    cases hv
    obtain ⟨s0, s1⟩ := srcC_get ps k p hp
    have hk : k < ps.length := (List.getElem?_eq_some_iff.1 hp).1
    rw [← h4] at s0 s1
    rw [List.getElem?_take_of_lt (by omega), Array.getElem?_toList] at s0 s1
    exact ⟨s0, s1⟩
theorem Fd2S.same {w2 w w' : World} {O : Nat} {ps : List Int} {vs : List Value} {parts : List (List Int)} (h : Fd2S w2 O ps w vs parts) (hg : SameH w w') : Fd2S w2 O ps w' vs parts :=
  h.kept ⟨hg.below.os, hg.below.tape, hg.below.output, hg.below.size, fun i hi _ => by rw [hg.heap]⟩
theorem WaysAt.get {W : World} {A : Option Addr} {ss : List Value} {ws : List (List Int)} (h : WaysAt W A ss ws) {N : Nat} (hl : ∀ R ∈ ws, R.length = N) (k x : Nat) (hk : k < ws.length) (hx : x < N) : ∃ B o C, A = some ⟨B, o, none⟩ ∧ W.cell? ⟨B, o + k, none⟩ = some (.slice (some ⟨C, 0, none⟩) N N) ∧ W.cell? ⟨C, x, none⟩ = some (.int .i64 (wayG ws k x)) := by
  obtain ⟨hw, B, o, rfl, hc⟩ := h.2 k (ss[k]'(by rw [h.1]; exact hk)) ws[k] (List.getElem?_eq_getElem _) (List.getElem?_eq_getElem _)
  obtain ⟨C, e, hC⟩ := hw
  have hn := hl _ (List.getElem_mem hk)
  have hg : wayG ws k x = ws[k].getD x 0 := by unfold wayG; rw [show ws.getD k [] = ws[k] by simp [List.getD_eq_getElem?_getD, List.getElem?_eq_getElem hk]]
  rw [e, hn] at hc
  exact ⟨B, o, C, rfl, hc, (cel_get hC x (v := .int .i64 (wayG ws k x)) (by rw [hg]; simp [List.getD_eq_getElem?_getD, List.getElem?_eq_getElem (show x < ws[k].length by omega)])).1⟩
/-- What the second loop leaves. -/
theorem Fd2S.srcV {w2 w : World} {O B oc : Nat} {oa : Option Addr} {ps : List Int} {vs : List Value} {parts : List (List Int)} (h : Fd2S w2 O ps w vs parts) (hO : ps ≠ [] → oa = some ⟨O, 0, none⟩ ∧ B ≤ O) (hB : B ≤ w2.heap.size) (hc : ps.length ≤ oc) : SrcV w B (.slice oa ps.length oc) (ps.zip parts) := by
  by_cases hp : ps = []
  · left; exact ⟨by subst hp; rfl, oa, oc, by subst hp; rfl⟩
  · right
    obtain ⟨rfl, hb⟩ := hO hp
    obtain ⟨cur, h1, h2⟩ := h.blk hp
    have hl : (ps.zip parts).length = ps.length := by rw [List.length_zip, h.plen]; omega
    refine ⟨O, oc, cur, vs, by rw [hl], hb, by omega, h1, by rw [hl]; exact h.vlen, fun k p xs v hk hv => ?_⟩
    rw [List.getElem?_zip_eq_some] at hk
    obtain ⟨c0, c1⟩ := h2 k p v hk.1 hv
    have ow := h.own k v xs hv hk.2
    refine ⟨c0, c1, ow.1, ?_⟩
    rcases ow.2 with q | ⟨g, c, cur, e, q, r⟩
    · exact .inl q
    · exact .inr ⟨g, c, cur, e, by omega, r⟩
/-- The rows of heights, as the second loop reads them. -/
structure WaysS (B1 : Nat) (w : World) (vw : Value) (ws : List (List Int)) (ss : List Value) : Prop where
  ways : w.ownsRow B1 113 1 vw ws.length ss
  way : ∀ (k : Nat) (s : Value) (R : List Int), ss[k]? = some s → ws[k]? = some R → WayOK w s R
theorem WaysS.grown {B1 : Nat} {w w' : World} {vw : Value} {ws : List (List Int)} {ss : List Value} (h : WaysS B1 w vw ws ss) {row : Option Nat} (hg : w.grownBy w' row) (hr : ∀ r cur e, row = some r → w.heap[r]? = some (.cells cur e (0, 0)) → e ≠ 113 ∧ e ≠ 32) : WaysS B1 w' vw ws ss := by
  refine ⟨h.ways.kept hg ?_, fun k s R a b => ?_⟩
  · cases e : vw.ownBlock with
    | none => exact .inl rfl
    | some g =>
      right; intro q
      obtain ⟨c, hc⟩ := own_type h.ways e
      exact (hr g c 113 q.symm hc).1 rfl
  · obtain ⟨B, e, h1⟩ := h.way k s R a b
    refine ⟨B, e, (hg.block B (blk_lt h1) (fun q => ?_)).trans h1⟩
    exact (hr B _ 32 q.symm h1).2 rfl
theorem WaysS.at {B1 : Nat} {w : World} {vw : Value} {ws : List (List Int)} {ss : List Value} (h : WaysS B1 w vw ws ss) : ss.length = ws.length ∧ ∃ A cap, vw = .slice A ws.length cap ∧ WaysAt w A ss ws := by
  have hl : ss.length = ws.length := by have := h.ways.1; omega
  refine ⟨hl, ?_⟩
  rcases h.ways.2 with ⟨e, e0⟩ | ⟨g, c, cur, e, _⟩
  · exact ⟨none, 0, by rw [e, e0], hl, fun k s R a b => by have := (List.getElem?_eq_some_iff.1 b).1; omega⟩
  · refine ⟨_, c, e, hl, fun k s R a b => ⟨h.way k s R a b, g, 0, rfl, ?_⟩⟩
    have := h.ways.cells (g := g) (by rw [e]; rfl) k s a
    rw [Addr.add_lit] at this
    exact this
theorem FdS.waysS {W0 : World} {B1 N : Nat} {w : World} {vo vw : Value} {ps : List Int} {ws : List (List Int)} {ss : List Value} (h : FdS W0 B1 N w vo vw ps ws ss) : WaysS B1 w vw ws ss := ⟨h.ways, h.way⟩
/-- A block of another type than the one that changes. -/
theorem blk_other {w w' : World} {row : Option Nat} (hg : w.grownBy w' row) {k : Nat} {cur : Array Value} {e : TypeId} (h : w.heap[k]? = some (.cells cur e (0, 0))) (hr : ∀ r cur e', row = some r → w.heap[r]? = some (.cells cur e' (0, 0)) → e' ≠ e) : w'.heap[k]? = some (.cells cur e (0, 0)) :=
  (hg.block k (blk_lt h) (fun q => hr k cur e q.symm h rfl)).trans h
/-- A row of whole numbers in memory. -/
def IntsAt (w : World) (A : Option Addr) (l : List Int) : Prop := ∀ k (hk : k < l.length), ∃ g, A = some ⟨g, 0, none⟩ ∧ w.cell? ⟨g, k, none⟩ = some (.int .i64 l[k])
theorem IntsAt.below {w w' : World} {A : Option Addr} {l : List Int} (h : IntsAt w A l) (hb : Below w.heap.size w w') : IntsAt w' A l := fun k hk => by
  obtain ⟨g, e, h1⟩ := h k hk
  exact ⟨g, e, (hb.cell (p := ⟨g, k, none⟩) (World.block_lt_of_cell? w ⟨g, k, none⟩ h1)).trans h1⟩
theorem own_slice {w : World} {base n size : Nat} {e : TypeId} {v : Value} {xs : List Value} (h : w.ownsRow base e size v n xs) : ∃ a c, v = .slice a n c := by
  rcases h.2 with ⟨h, h0⟩ | ⟨g, c, cur, h, _⟩
  · exact ⟨none, 0, by rw [h, h0]⟩
  · exact ⟨_, _, h⟩
theorem own_ints {w : World} {base : Nat} {e : TypeId} {A : Option Addr} {c : Nat} {l : List Int} (h : w.ownsRow base e 1 (.slice A l.length c) l.length (l.map (Value.int .i64))) : IntsAt w A l := fun k hk => by
  rcases h.2 with ⟨_, h0⟩ | ⟨g, c', cur, e', _⟩
  · omega
  · cases e'
    refine ⟨g, rfl, ?_⟩
    have := h.cells (g := g) rfl k (.int .i64 l[k]) (by rw [List.getElem?_map, List.getElem?_eq_getElem hk]; rfl)
    rw [Addr.add_lit, Nat.zero_add] at this
    exact this
theorem fdS0 {w1 : World} {N : Nat} : FdS w1 w1.heap.size N w1 (.slice none 0 0) (.slice none 0 0) [] [] [] :=
  ⟨⟨rfl, .inl ⟨rfl, rfl⟩⟩, ⟨rfl, .inl ⟨rfl, rfl⟩⟩, fun k s R a => by simp at a, fun R hR => by simp at hR, fun p hp => by simp at hp, Below.refl _ _, Nat.le_refl _⟩
theorem rowB_below {w w' : World} {A : Option Addr} {l : List Bound} (h : RowB w A l) (hb : Below w.heap.size w w') : RowB w' A l := fun k hk => by
  obtain ⟨B, o, e, h0, h1, h2⟩ := h k hk
  have hB := World.block_lt_of_cell? w ⟨B, o + k * 3, none⟩ h0
  exact ⟨B, o, e, (hb.cell (p := ⟨B, o + k * 3, none⟩) hB).trans h0, (hb.cell (p := ⟨B, o + k * 3 + 1, none⟩) hB).trans h1, (hb.cell (p := ⟨B, o + k * 3 + 2, none⟩) hB).trans h2⟩
theorem blk_grown {w w' : World} {row : Option Nat} (hg : w.grownBy w' row) {k : Nat} {cur : Array Value} {e : TypeId} (h : w.heap[k]? = some (.cells cur e (0, 0))) (hr : ∀ r, row = some r → ∃ cur' e', w.heap[r]? = some (.cells cur' e' (0, 0)) ∧ e' ≠ e) : w'.heap[k]? = some (.cells cur e (0, 0)) :=
  (hg.block k (blk_lt h) (fun q => by
    obtain ⟨c, e', h1, h2⟩ := hr k q.symm
    rw [h] at h1; cases h1; exact h2 rfl)).trans h
theorem cells_two_new (w : World) (a b : Value) (t : TypeId) : ∀ (j : Nat) (u : Value), [a, b][j]? = some u → (w.alloc (.cells #[a, b] t)).cell? ((⟨w.heap.size, 0, none⟩ : Addr).add j) = some u := fun j u hu => by
  have h := World.alloc_heap_new w (.cells #[a, b] t)
  rw [Addr.add_lit, Nat.zero_add]
  exact (cel_get h j (by simpa using hu)).1
theorem two_oneCell (x : Int) : ∀ u ∈ [Value.int .i64 x, .slice none 0 0], u.oneCell' = true := fun u hu => by
  simp only [List.mem_cons, List.not_mem_nil, or_false] at hu
  rcases hu with rfl | rfl <;> rfl
theorem one_oneCell (a : Option Addr) (n c : Nat) : ∀ u ∈ [Value.slice a n c], u.oneCell' = true := fun u hu => by
  simp only [List.mem_cons, List.not_mem_nil, or_false] at hu
  subst hu; rfl
theorem sadR_len {w h : Nat} {l : List Bound} {x : Nat} {R : List Int} (hR : sadR w h l x = some R) : R.length = l.length := by
  have := sadL_len w h l _ _ _ _ _ hR
  simpa using this
theorem fd1_len (w h : Nat) (t : List Bound) : ∀ (l ps : List Int) (ws : List (List Int)) (ps' : List Int) (ws' : List (List Int)), fd1 w h t l ps ws = some (some (ps', ws')) → ps.length ≤ ps'.length
  | [], ps, ws, ps', ws', h0 => by rw [fd1] at h0; cases h0; exact Nat.le_refl _
  | x :: l, ps, ws, ps', ws', h0 => by
    rw [fd1] at h0
    split at h0
    · exact fd1_len w h t l ps ws ps' ws' h0
    · split at h0
      · cases h0
      · obtain ⟨R, _, h1⟩ := Option.bind_eq_some_iff.1 h0
        have := fd1_len w h t l _ _ ps' ws' h1
        simp at this; omega
theorem fd1_ne {w h : Nat} {t : List Bound} {l ps : List Int} {ws : List (List Int)} (h0 : fd1 w h t l [] [] = some (some (ps, ws))) (hl : l ≠ []) : ps ≠ [] := by
  cases l with
  | nil => exact absurd rfl hl
  | cons x l =>
    rw [fd1, if_neg (by simp), if_neg (by simp)] at h0
    obtain ⟨R, _, h1⟩ := Option.bind_eq_some_iff.1 h0
    have := fd1_len w h t l _ _ ps ws h1
    intro e; rw [e] at this; simp at this
theorem boxes2 {W w1 : World} {o1 o2 : Obj} (hb : Below ((W.alloc o1).alloc o2).heap.size ((W.alloc o1).alloc o2) w1) : w1.heap[W.heap.size]? = some o1 ∧ Below W.heap.size W w1 ∧ W.heap.size + 2 ≤ w1.heap.size := by
  have hsz : ((W.alloc o1).alloc o2).heap.size = W.heap.size + 2 := by simp
  refine ⟨?_, (((Below.refl W.heap.size W).alloc (Nat.le_refl _) _).alloc (by simp) _).trans (hb.mono (by rw [hsz]; omega)), by rw [← hsz]; exact hb.size⟩
  exact (hb.block W.heap.size (by rw [hsz]; omega)).trans ((Below.heap_alloc (W.alloc o1) o2 W.heap.size (by simp)).trans (World.alloc_heap_new W o1))
theorem SameH.drewN {W W' : World} (h : SameH W W') (n : Nat) : SameH W (W'.drewN n) := ⟨h.heap, h.below.trans ⟨rfl, rfl, rfl, by show W'.heap.size ≤ W'.heap.size; exact Nat.le_refl _, fun _ _ => rfl⟩⟩
theorem own_cap {w : World} {base n size c : Nat} {e : TypeId} {a : Option Addr} {xs : List Value} (h : w.ownsRow base e size (.slice a n c) n xs) : n ≤ c := by
  rcases h.2 with ⟨h, h0⟩ | ⟨g, c', cur, e', hb, hc, h1, _⟩
  · omega
  · cases e'; exact h1
set_option maxHeartbeats 40000000 in
theorem find_raw (w h : Nat) (hw : 1 ≤ w ∧ w ≤ 32) (hh : 1 ≤ h ∧ h ≤ 32) (t : List Bound) (ht : t.length = w * h) (lv : Bound) (er : Int) (l : List Int) (hl : ∀ x ∈ l, 0 ≤ x ∧ x < t.length) (hll : l.length ≤ 1024) (R : List (Int × List Int) × Int) (hR : fdL w h t er l = some R) (W : World) (A : Option Addr) (cap : Nat) (hA : RowB W A t) (hcap : t.length ≤ cap)
    (hS : ∀ W', Below W.heap.size W W' → Calls Try.prog 45 #[.agg #[.int .i64 w, .int .i64 h, .slice A t.length cap], .agg #[.int .i64 lv.Lo, .int .i64 lv.Hi, .bool lv.Unknown]] W' fun e w' => ∃ v, e = .returned (.tuple #[v, .int .i64 er]) ∧ w'.ownsRow W'.heap.size 3 1 v l.length (l.map (Value.int .i64)) ∧ Below W'.heap.size W' w') :
    Calls Try.prog 36 #[.agg #[.int .i64 w, .int .i64 h, .slice A t.length cap], .agg #[.int .i64 lv.Lo, .int .i64 lv.Hi, .bool lv.Unknown]] W fun e w' => ∃ v, e = .returned (.tuple #[v, .int .i64 R.2]) ∧ SrcV w' W.heap.size v R.1 ∧ Below W.heap.size W w' := by
  have hN : t.length ≤ 1024 := by rw [ht]; exact Nat.le_trans (Nat.mul_le_mul hw.2 hh.2) (by decide)
  unfold fdL at hR
  obtain ⟨n0, hn0⟩ : ∃ n0, W.heap.size = n0 := ⟨_, rfl⟩
  have S1 := hS _ (((Below.refl W.heap.size W).alloc (Nat.le_refl _) (.cells #[.int .i64 w, .int .i64 h, .slice A t.length cap] 77)).alloc (by simp) (.cells #[.int .i64 lv.Lo, .int .i64 lv.Hi, .bool lv.Unknown] 34))
  clear hS
  by_cases he : er = 0
  · subst he
    rw [if_neg (by simp)] at hR
    obtain ⟨r, hF, hR'⟩ := Option.bind_eq_some_iff.1 hR
    clear hR
    have hR := hR'
    clear hR'
    have HT := Lib.hid ht
    have HN := Lib.hid hn0
    have HRR := Lib.hid hR
    have HA := Lib.hid hA
    clear ht hn0 hR hA
    go_enter Try.func36, Try.ntmps36
    go_wp2_with (go_at_call 45; refine S1.mono ?_; rintro e w1 ⟨v, rfl, hown1, hb1⟩; obtain ⟨sa, sc, rfl⟩ := own_slice hown1)
    have hr1 := own_ints hown1
    obtain ⟨hc0, hbW, hsz⟩ := boxes2 hb1
    have hA1 : RowB w1 A t := rowB_below HA.out hbW
    have HO := Lib.hid hown1
    have HBW := Lib.hid hbW
    clear hown1 hb1 hbW S1 HA
    have HF0 := Lib.hid hF
    go_loopw [28, 8, 9] (fun vi vo vw wr => ∃ (k : Nat) (ps : List Int) (ws : List (List Int)) (ss : List Value), vi = .int .i64 k ∧ k ≤ l.length ∧ fd1 w h t (l.drop k) ps ws = some r ∧ ps.length = ws.length ∧ ps.length ≤ 24 ∧ FdS w1 w1.heap.size t.length wr vo vw ps ws ss) (fun vi _ _ _ => l.length - (intOf vi).toNat)
    case atStart => exact ⟨0, [], [], [], rfl, by omega, by simpa using hF, rfl, by decide, fdS0⟩
    case round =>
      obtain ⟨k, ps, ws, ss, rfl, hk, hF, hpw, hp24, hS⟩ := hrel
      obtain ⟨oa, oc, rfl⟩ := own_slice hS.out
      obtain ⟨wa, wc, rfl, hW⟩ := hS.waysAt
      by_cases hlt : k < l.length
      · rw [List.drop_eq_getElem_cons hlt, fd1] at hF
        obtain ⟨g, rfl, hx⟩ := (hr1.below hS.below) k hlt
        have hxb := hl _ (List.getElem_mem hlt)
        generalize l[k] = x at hF hx hxb
        obtain ⟨x, rfl⟩ : ∃ n : Nat, x = n := ⟨x.toNat, by omega⟩
        simp only [Int.toNat_natCast] at hF
        obtain ⟨w2, hw2⟩ : ∃ w2, w2 = wr.alloc (.cells #[.int .i64 x] 3) := ⟨_, rfl⟩
        have g2 : wr.grownBy w2 none := by rw [hw2]; exact World.grownBy_alloc _ _ _
        have h2 := hS.kept g2
        have hA2 := rowB_below hA1 h2.below
        obtain ⟨Bb, ob, rfl, hlo, _, _⟩ := hA2 x (by omega)
        have hbx : w2.heap[wr.heap.size]? = some (.cells #[.int .i64 x] 3 (0, 0)) := by rw [hw2]; exact World.alloc_heap_new wr _
        have hcb : w2.heap[W.heap.size]? = some (.cells #[.int .i64 w, .int .i64 h, .slice (some ⟨Bb, ob, none⟩) t.length cap] 77 (0, 0)) := (h2.below.block W.heap.size (by omega)).trans hc0
        have hcw : wr.heap[W.heap.size]? = some (.cells #[.int .i64 w, .int .i64 h, .slice (some ⟨Bb, ob, none⟩) t.length cap] 77 (0, 0)) := (hS.below.block W.heap.size (by omega)).trans hc0
        have CT := contains_raw w2 wa ss ws wc (by obtain ⟨a, c, e, q⟩ := h2.waysAt; cases e; exact q) (by omega) x (fun R hR => by rw [h2.len R hR]; omega) wr.heap.size W.heap.size Bb ob t.length cap _ (cel1 hbx).1 (cel_get hcb 2 rfl).1 (by omega) hlo
        generalize hq : (ws.any fun R => decide ((atB t x).Lo ≤ R.getD x 0)) = q at CT hF
        rw [hw2] at CT
        have HS := Lib.hid hS
        have H2 := Lib.hid h2
        have HF := Lib.hid hF
        have HA1 := Lib.hid hA1
        have HC0 := Lib.hid hc0
        have HR1 := Lib.hid hr1
        have HL := Lib.hid hl
        have HSZ := Lib.hid hsz
        have HW2 := Lib.hid hw2
        have HPW := Lib.hid hpw
        have HLL := Lib.hid hll
        clear hS h2 hF hA1 hc0 hr1 hl hsz hA2 hlo hbx hcb hcw hq g2 hw2 hW hpw hll
        have z1 : (k : Int) < l.length := by omega
        have z2 : (k : Int) < 1024 := by have := HLL.out; omega
        cases q with
        | true =>
          go_wp2_with (go_at_call 46; refine CT.mono ?_; rintro e w3 ⟨rfl, hs3⟩)
          exact ⟨⟨k + 1, ps, ws, ss, by simp, by omega, by simpa using HF.out, HPW.out, hp24, H2.out.same (by rw [HW2.out]; exact hs3)⟩, by simp [intOf]; omega⟩
        | false =>
          have hF2 := HF.out
          rw [if_neg (by simp)] at hF2
          by_cases h24 : ps.length = 24
          · rw [if_pos h24] at hF2
            cases hF2
            have z24 : (ps.length : Int) = 24 := by omega
            go_wp2_with (go_at_call 46; refine CT.mono ?_; rintro e w3 ⟨rfl, hs3⟩)
            go_ret2
            have h3 := H2.out.same (show SameH _ w3 by rw [HW2.out]; exact hs3)
            cases HRR.out
            exact ⟨_, rfl, .inl ⟨rfl, _, _, rfl⟩, HBW.out.trans (h3.below.mono (by have := HSZ.out; omega))⟩
          · rw [if_neg h24] at hF2
            obtain ⟨Q, hQ, hF3⟩ := Option.bind_eq_some_iff.1 hF2
            have z24 : ¬ ((ps.length : Int) = 24) := by omega
            have HQ := Lib.hid hQ
            have HF3 := Lib.hid hF3
            obtain ⟨i0, hi, hy0, hy1, hy2⟩ := info_parts (show (Try.prog.info? 84).map (fun i => (i.zero, i.size, i.bytes)) = some (some (.agg #[.int .i64 0, .slice none 0 0]), 2, 32) by kernel_rfl)
            obtain ⟨i1, hj, hy3, hy4, hy5⟩ := info_parts (show (Try.prog.info? 113).map (fun i => (i.zero, i.size, i.bytes)) = some (some (.slice none 0 0), 1, 24) by kernel_rfl)
            clear hQ hF3 hF2 HF
            have HX := Lib.hid hxb
            clear hxb
            go_wp2_with (first
              | (go_at_call 46; refine CT.mono ?_; rintro e w3 ⟨rfl, hs3⟩; have h3 := Lib.hid (H2.out.same (show SameH _ w3 by rw [HW2.out]; exact hs3)); have bx3 : w3.heap[wr.heap.size]? = some (.cells #[.int .i64 x] 3 (0, 0)) := (by rw [hs3.heap]; exact World.alloc_heap_new wr _); have cx3 := (cel1 bx3).1; have BX3 := Lib.hid bx3; clear hs3 bx3)
              | (at_builtin; refine wpList_append_own_at _ rfl _ _ 78 rfl w1.heap.size 84 i0 (.agg #[.int .i64 0, .slice none 0 0]) 2 32 (by kernel_rfl) hi hy0 hy1 hy2 rfl (by decide) _ _ _ rfl (h3.out.kept (World.grownBy_alloc _ _ _)).out ⟨w3.heap.size, 0, none⟩ 1 1 [.int .i64 (x : Int), .slice none 0 0] rfl rfl (cells_two_new _ _ _ _) (two_oneCell _) (by unfold maxLen; omega) (by omega) (by have := h3.out.below.size; simp; omega) ?_; intro v' w5 hown' hgrow hnil hloc; obtain ⟨oa', oc', rfl⟩ := own_slice hown'; have h4 := h3.out.kept (World.grownBy_alloc w3 (.cells #[.int .i64 (x : Int), .slice none 0 0] 84) none); have h5 := h4.addOut HX.out hown' hgrow; have bx5 := blk_grown hgrow ((World.grownBy_alloc w3 (.cells #[.int .i64 (x : Int), .slice none 0 0] 84) none).block _ (blk_lt BX3.out) (by simp) |>.trans BX3.out) (fun r e => (own_type h4.out e).elim fun c hc => ⟨c, 84, hc, by decide⟩); have bc5 := (h5.below.block W.heap.size (by have := HSZ.out; omega)).trans HC0.out; have cx5 := (cel1 bx5).1; have cc0 := (cel_get bc5 0 rfl).1; have cc1 := (cel_get bc5 1 rfl).1; have cc2 := (cel_get bc5 2 rfl).1; have H5 := Lib.hid h5; clear h5 h4 bx5 bc5 hown' hgrow hnil hloc)
              | (go_at_call 48; refine (sad_raw w h hw hh t HT.out x (by have := HX.out; omega) Q HQ.out _ (some ⟨Bb, ob, none⟩) cap (rowB_below HA1.out H5.out.below) hcap).mono ?_; rintro e w6 ⟨O, hO, rfl, hkO, hb6⟩; have H6 := Lib.hid (H5.out.kept (w' := w6) ⟨hb6.os, hb6.tape, hb6.output, hb6.size, fun i hi _ => hb6.block i hi⟩); have HW6 := Lib.hid (show WayOK w6 (.slice (some ⟨O, 0, none⟩) t.length t.length) Q from ⟨O, by rw [sadR_len HQ.out], hkO⟩); clear hO hkO hb6)
              | (at_builtin; refine wpList_append_own_at _ rfl _ _ 111 rfl w1.heap.size 113 i1 (.slice none 0 0) 1 24 (by kernel_rfl) hj hy3 hy4 hy5 rfl (by decide) _ _ _ rfl (H6.out.kept (World.grownBy_alloc _ _ _)).ways ⟨w6.heap.size, 0, none⟩ 1 1 [.slice (some ⟨O, 0, none⟩) t.length t.length] rfl rfl (cell_one_new _ _ _) (one_oneCell _ _ _) (by have := HPW.out; unfold maxLen; omega) (by have := HPW.out; omega) (by have := H6.out.below.size; simp; omega) ?_; intro v' w8 hown' hgrow hnil hloc; obtain ⟨wa', wc', rfl⟩ := own_slice hown'; have h7 := H6.out.kept (World.grownBy_alloc w6 (.cells #[.slice (some ⟨O, 0, none⟩) t.length t.length] 113) none); have H8 := Lib.hid (h7.addWay (way_grown (World.grownBy_alloc w6 (.cells #[.slice (some ⟨O, 0, none⟩) t.length t.length] 113) none) (fun r e => by cases e) HW6.out) (sadR_len HQ.out) hown' hgrow); clear h7 hown' hgrow hnil hloc))
            exact ⟨⟨k + 1, _, _, _, by simp, by omega, by simpa using HF3.out, by simp [HPW.out], by simp; omega, H8.out⟩, by simp [intOf]; omega⟩
      · obtain rfl : k = l.length := by omega
        rw [List.drop_length, fd1] at hF
        cases hF
        have ownS := HO.out.kept (show w1.grownBy wr none from ⟨hS.below.os, hS.below.tape, hS.below.output, hS.below.size, fun i hi _ => hS.below.block i hi⟩) (by cases (Value.slice sa l.length sc).ownBlock <;> simp)
        have SRT := sortI_own ownS (by omega)
        have HS := Lib.hid hS
        have HW := Lib.hid hW
        have HOW := Lib.hid ownS
        have HRR2 := Lib.hid HRR.out
        have HC0 := Lib.hid hc0
        have HSZ := Lib.hid hsz
        have HL := Lib.hid hl
        have HLL := Lib.hid hll
        have HPW := Lib.hid hpw
        clear hS hW ownS HRR hr1 hA1 hc0 hsz hl hll hpw
        have z1 : ¬ ((l.length : Int) < l.length) := by omega
        go_wp2_with (go_at_call 49; refine SRT.mono ?_; rintro e w2 ⟨rfl, hown2, hg2⟩)
        have hso : ∀ r cur e', (Value.slice sa l.length sc).ownBlock = some r → wr.heap[r]? = some (.cells cur e' (0, 0)) → e' = 3 := fun r cur e' q hc => by
          obtain ⟨c, hc'⟩ := own_type HOW.out q
          rw [hc] at hc'; cases hc'; rfl
        have hout := HS.out.out.kept hg2 (own_far HS.out.out HOW.out (by decide))
        have hways := HS.out.waysS.grown hg2 (fun r cur e q hc => by rw [hso r cur e q hc]; decide)
        have hbox := blk_other hg2 ((HS.out.below.block W.heap.size (by have := HSZ.out; omega)).trans HC0.out) (fun r cur e q hc => by rw [hso r cur e q hc]; decide)
        have hbW2 : Below W.heap.size W w2 := (HBW.out.trans (HS.out.below.mono (by have := HSZ.out; omega))).grown hg2 (by have := HSZ.out; have := HS.out.below.size; omega) (fun j hj => by have := (HOW.out.lt j hj).1; simp at this; omega)
        obtain ⟨O, hOB, hO, h0⟩ := fd2S_start hout
        obtain ⟨l2, hl2⟩ : ∃ l2, l2 = l.mergeSort fun x y => decide (x ≤ y) := ⟨_, rfl⟩
        rw [← hl2] at hown2
        have hn2 : l2.length = l.length := by rw [hl2]; exact List.length_mergeSort l
        have hb2 : ∀ x ∈ l2, 0 ≤ x ∧ x < t.length := fun x hx => HL.out x (by rw [hl2] at hx; exact (List.mem_mergeSort).1 hx)
        have hi2 : IntsAt w2 sa l2 := own_ints (c := sc) (by rw [hn2]; exact hown2)
        have HOWN2 := Lib.hid hown2
        have HO2 := Lib.hid hO
        have HWY := Lib.hid hways
        have HBX := Lib.hid hbox
        have HBW2 := Lib.hid hbW2
        have HI2 := Lib.hid hi2
        have HB2 := Lib.hid hb2
        have HN2 := Lib.hid hn2
        have HL2 := Lib.hid hl2
        have HOUT := Lib.hid hout
        clear hO hways hbox hbW2 hi2 hb2 hn2 hl2 hout hown2 hg2 hso
        go_loopw [54] (fun vi wr2 => ∃ (k : Nat) (vs : List Value) (parts : List (List Int)), vi = .int .i64 k ∧ k ≤ l.length ∧ fd2 w ps ws (l2.drop k) parts = fd2 w ps ws l2 (ps.map fun _ => []) ∧ (∀ xs ∈ parts, xs.length ≤ k) ∧ Fd2S w2 O ps wr2 vs parts) (fun vi _ => l.length - (intOf vi).toNat)
        case atStart => exact ⟨0, _, _, rfl, by omega, by simp, by simp, h0⟩
        case round =>
          obtain ⟨k, vs, parts, rfl, hk, hF2, hpl, hS2⟩ := hrel
          by_cases hlt : k < l.length
          · have hlt2 : k < l2.length := by have := HN2.out; omega
            obtain ⟨g, hsa, hx⟩ := HI2.out k hlt2
            have hxb := HB2.out _ (List.getElem_mem hlt2)
            rw [List.drop_eq_getElem_cons hlt2, fd2] at hF2
            generalize l2[k] = x at hF2 hx hxb
            obtain ⟨x, rfl⟩ : ∃ n : Nat, x = n := ⟨x.toNat, by omega⟩
            simp only [Int.toNat_natCast] at hF2
            have hp0 : ps ≠ [] := fd1_ne HF0.out (fun e => by rw [e] at hlt; simp at hlt)
            obtain ⟨rfl, hBO⟩ := HO2.out hp0
            obtain ⟨curO, hcO, _⟩ := h0.blk hp0
            have t56 : ∀ r cur e, some O = some r → w2.heap[r]? = some (.cells cur e (0, 0)) → e = 84 := fun r cur e q hc => by cases q; rw [hcO] at hc; cases hc; rfl
            have hx2 : wr.cell? ⟨g, k, none⟩ = some (.int .i64 x) := by
              obtain ⟨cg, hcg⟩ := own_type HOWN2.out (g := g) (by rw [hsa]; rfl)
              have := blk_other hS2.g hcg (fun r cur e q hc => by rw [t56 r cur e q hc]; decide)
              rw [show wr.cell? ⟨g, k, none⟩ = w2.cell? ⟨g, k, none⟩ by unfold World.cell?; rw [this, hcg]]
              exact hx
            have hways := HWY.out.grown hS2.g (fun r cur e q hc => by rw [t56 r cur e q hc]; decide)
            obtain ⟨hsl, _, _, ew, hWA⟩ := hways.at
            cases ew
            have hbox := blk_other hS2.g HBX.out (fun r cur e q hc => by rw [t56 r cur e q hc]; decide)
            obtain ⟨cur, hcu, hcur⟩ := hS2.blk hp0
            have hp1 : 0 < ps.length := List.length_pos_iff.2 hp0
            have hx1 : x < t.length := by omega
            have HS2 := Lib.hid hS2
            have HF2 := Lib.hid hF2
            have HPL := Lib.hid hpl
            have HXB := Lib.hid hxb
            have HHX := Lib.hid hx
            have HSA := Lib.hid hsa
            have HH0 := Lib.hid h0
            have HCO := Lib.hid hcO
            have HT56 := Lib.hid t56
            have HWA := Lib.hid hWA
            have HBOX := Lib.hid hbox
            have HCU := Lib.hid hcu
            have HCUR := Lib.hid hcur
            have HPS := Lib.hid HS.out.psb
            have HWL := Lib.hid HS.out.len
            have z2 : (k : Int) < l.length := by omega
            have z5 : (k : Int) < 1024 := by have := HLL.out; omega
            clear hS2 hF2 hpl hxb hx h0 hcO t56 hways hWA hbox hcu hcur
            subst hsa
            go_wp2
            go_loopw [60, 14] (fun vj vb wi => ∃ (m b : Nat), vj = .int .i64 m ∧ vb = .int .i64 b ∧ m ≤ ps.length ∧ b < ps.length ∧ bestF w ps ws x m (ps.length - m) b = bestF w ps ws x 0 ps.length 0 ∧ SameH wr wi) (fun vj _ _ => ps.length - (intOf vj).toNat)
            case atStart => exact ⟨0, 0, rfl, rfl, by omega, hp1, by simp, SameH.refl _⟩
            case round =>
              obtain ⟨m, b, rfl, rfl, hm, hb, hbest, hSI⟩ := hrel
              by_cases hml : m < ps.length
              · obtain ⟨Bw, ow, Cm, rfl, hm1, hm2⟩ := HWA.out.get HWL.out m x (by have := HPW.out; omega) hx1
                obtain ⟨Bw', ow', Cb, q, hb1, hb2⟩ := HWA.out.get HWL.out b x (by have := HPW.out; omega) hx1
                cases q
                have hpm : ps[m]? = some (ps.getD m 0) := by rw [List.getD_eq_getElem?_getD, List.getElem?_eq_getElem hml]; rfl
                have hpb : ps[b]? = some (ps.getD b 0) := by rw [List.getD_eq_getElem?_getD, List.getElem?_eq_getElem hb]; rfl
                have hvl := HS2.out.vlen
                have om := (cel_get HCU.out (m * 2) (HCUR.out m _ _ hpm (List.getElem?_eq_getElem (by omega))).1).1
                have ob := (cel_get HCU.out (b * 2) (HCUR.out b _ _ hpb (List.getElem?_eq_getElem (by omega))).1).1
                have bm := HPS.out _ (List.mem_of_getElem? hpm)
                have bb := HPS.out _ (List.mem_of_getElem? hpb)
                have SQ : ∀ p : Int, 0 ≤ p ∧ p < t.length → ∀ W, Calls Try.prog 51 #[.int .i64 w, .int .i64 p, .int .i64 x] W fun e w' => e = .returned (.int .i64 (sqI w p x)) ∧ ∃ q, w' = W.drewN q := fun p hp W => by
                  have := sq_raw w p.toNat x hw (by omega) (by omega) W
                  rwa [Int.toNat_of_nonneg hp.1] at this
                have hm1 := (hSI.cell _).trans hm1
                have hm2 := (hSI.cell _).trans hm2
                have hb1 := (hSI.cell _).trans hb1
                have hb2 := (hSI.cell _).trans hb2
                have om := (hSI.cell _).trans om
                have ob := (hSI.cell _).trans ob
                have cw := (hSI.cell _).trans (cel_get HBOX.out 0 rfl).1
                rw [show ps.length - m = (ps.length - (m + 1)) + 1 by omega, bestF] at hbest
                unfold better at hbest
                have hx3 : (x : Int) < t.length := by omega
                have hb3 : (b : Int) < ps.length := by omega
                have hm3 : (m : Int) < ps.length := by omega
                have hb4 : (b : Int) < ws.length := by have := HPW.out; omega
                have hm4 : (m : Int) < ws.length := by have := HPW.out; omega
                generalize wayG ws m x = gm at hm2 hbest
                generalize wayG ws b x = gb at hb2 hbest
                generalize hsm : sqI w (ps.getD m 0) x = sm at hbest
                generalize hsb : sqI w (ps.getD b 0) x = sb at hbest
                generalize ps.getD m 0 = pm at *
                generalize ps.getD b 0 = pb at *
                have HSI := Lib.hid hSI
                have HB := Lib.hid hbest
                have HP1 := Lib.hid hpm
                have HP2 := Lib.hid hpb
                have HV := Lib.hid hvl
                have HSM := Lib.hid hsm
                have HSB := Lib.hid hsb
                clear hSI hbest hpm hpb hvl hsm hsb
                have CM := fun W => cmp_raw gm gb W
                unfold cmpI at CM
                by_cases h1 : gb < gm
                · rw [if_neg (by omega), if_pos h1] at CM
                  have hb' := HB.out
                  rw [decide_eq_true h1, Bool.true_or, if_pos rfl] at hb'
                  have HB' := Lib.hid hb'
                  clear hb' h1 SQ bm bb
                  go_wp2
                  go_region_held3 (fun w' => w'.cell? ⟨Bw, ow + m, none⟩ = some (.slice (some ⟨Cm, 0, none⟩) t.length t.length) ∧ w'.cell? ⟨Bw, ow + b, none⟩ = some (.slice (some ⟨Cb, 0, none⟩) t.length t.length) ∧ w'.cell? ⟨Cm, x, none⟩ = some (.int .i64 gm) ∧ w'.cell? ⟨Cb, x, none⟩ = some (.int .i64 gb)) (go_keep) (first | (go_at_call 50; refine (CM _).mono ?_; rintro e w' ⟨rfl, rfl⟩))
                  go_wp2
                  go_quiet (fail)
                  go_wp2
                  exact ⟨⟨m + 1, m, by simp, rfl, by omega, hml, HB'.out, (by repeat (first | exact HSI.out | apply SameH.drew | apply SameH.drewN))⟩, by simp [intOf]; omega⟩
                · by_cases h2 : gm < gb
                  · rw [if_pos h2] at CM
                    have hb' := HB.out
                    rw [decide_eq_false h1, Bool.false_or, decide_eq_false (show ¬ gm = gb by omega), Bool.false_and, if_neg (by simp)] at hb'
                    have HB' := Lib.hid hb'
                    clear hb' h1 h2 SQ bm bb
                    go_wp2
                    go_region_held3 (fun w' => w'.cell? ⟨Bw, ow + m, none⟩ = some (.slice (some ⟨Cm, 0, none⟩) t.length t.length) ∧ w'.cell? ⟨Bw, ow + b, none⟩ = some (.slice (some ⟨Cb, 0, none⟩) t.length t.length) ∧ w'.cell? ⟨Cm, x, none⟩ = some (.int .i64 gm) ∧ w'.cell? ⟨Cb, x, none⟩ = some (.int .i64 gb)) (go_keep) (first | (go_at_call 50; refine (CM _).mono ?_; rintro e w' ⟨rfl, rfl⟩))
                    go_wp2
                    go_quiet (fail)
                    go_wp2
                    exact ⟨⟨m + 1, b, by simp, rfl, by omega, hb, HB'.out, (by repeat (first | exact HSI.out | apply SameH.drew | apply SameH.drewN))⟩, by simp [intOf]; omega⟩
                  · rw [if_neg h2, if_neg h1] at CM
                    have hb' := HB.out
                    rw [decide_eq_false h1, Bool.false_or, decide_eq_true (show gm = gb by omega), Bool.true_and] at hb'
                    by_cases h3 : sm < sb
                    · rw [if_pos (by simpa using h3)] at hb'
                      rw [← HSM.out, ← HSB.out] at h3
                      have HB' := Lib.hid hb'
                      clear hb' h1 h2
                      go_wp2
                      go_region_held3 (fun w' => w'.cell? ⟨Bw, ow + m, none⟩ = some (.slice (some ⟨Cm, 0, none⟩) t.length t.length) ∧ w'.cell? ⟨Bw, ow + b, none⟩ = some (.slice (some ⟨Cb, 0, none⟩) t.length t.length) ∧ w'.cell? ⟨Cm, x, none⟩ = some (.int .i64 gm) ∧ w'.cell? ⟨Cb, x, none⟩ = some (.int .i64 gb)) (go_keep) (first | (go_at_call 50; refine (CM _).mono ?_; rintro e w' ⟨rfl, rfl⟩))
                      go_wp2
                      go_region_held3 (fun w' => w'.cell? ⟨W.heap.size, 0, none⟩ = some (.int .i64 w) ∧ w'.cell? ⟨O, m * 2, none⟩ = some (.int .i64 pm) ∧ w'.cell? ⟨O, b * 2, none⟩ = some (.int .i64 pb)) (go_keep) (first | (go_at_call 51; refine (SQ _ (by assumption) _).mono ?_; rintro e w' ⟨rfl, q, rfl⟩))
                      all_goals go_wp2
                      all_goals exact ⟨⟨m + 1, m, by simp, rfl, by omega, hml, HB'.out, (by repeat (first | exact HSI.out | apply SameH.drew | apply SameH.drewN))⟩, by simp [intOf]; omega⟩
                    · rw [if_neg (by simpa using h3)] at hb'
                      rw [← HSM.out, ← HSB.out] at h3
                      have HB' := Lib.hid hb'
                      clear hb' h1 h2
                      go_wp2
                      go_region_held3 (fun w' => w'.cell? ⟨Bw, ow + m, none⟩ = some (.slice (some ⟨Cm, 0, none⟩) t.length t.length) ∧ w'.cell? ⟨Bw, ow + b, none⟩ = some (.slice (some ⟨Cb, 0, none⟩) t.length t.length) ∧ w'.cell? ⟨Cm, x, none⟩ = some (.int .i64 gm) ∧ w'.cell? ⟨Cb, x, none⟩ = some (.int .i64 gb)) (go_keep) (first | (go_at_call 50; refine (CM _).mono ?_; rintro e w' ⟨rfl, rfl⟩))
                      go_wp2
                      go_region_held3 (fun w' => w'.cell? ⟨W.heap.size, 0, none⟩ = some (.int .i64 w) ∧ w'.cell? ⟨O, m * 2, none⟩ = some (.int .i64 pm) ∧ w'.cell? ⟨O, b * 2, none⟩ = some (.int .i64 pb)) (go_keep) (first | (go_at_call 51; refine (SQ _ (by assumption) _).mono ?_; rintro e w' ⟨rfl, q, rfl⟩))
                      all_goals go_wp2
                      all_goals exact ⟨⟨m + 1, b, by simp, rfl, by omega, hb, HB'.out, (by repeat (first | exact HSI.out | apply SameH.drew | apply SameH.drewN))⟩, by simp [intOf]; omega⟩
              · obtain rfl : m = ps.length := by omega
                rw [Nat.sub_self, bestF] at hbest
                have hs := HS2.out.same hSI
                have hb1 : b < vs.length := by rw [hs.vlen]; exact hb
                have hb2 : b < parts.length := by rw [hs.plen]; exact hb
                have ev : vs[b]? = some vs[b] := List.getElem?_eq_getElem hb1
                have ex : parts[b]? = some parts[b] := List.getElem?_eq_getElem hb2
                have hxl : parts[b].length ≤ k := HPL.out _ (List.getElem_mem hb2)
                have hF3 := HF2.out
                rw [← hbest, show parts.getD b [] = parts[b] by simp [List.getD_eq_getElem?_getD, List.getElem?_eq_getElem hb2]] at hF3
                generalize parts[b] = xs at ex hxl hF3
                generalize vs[b] = v at ev
                obtain ⟨cu2, hc2, hcr2⟩ := hs.blk hp0
                have hpb : ps[b]? = some ps[b] := List.getElem?_eq_getElem hb
                have co := (cel_get hc2 (b * 2 + 1) (hcr2 b _ _ hpb ev).2).1
                obtain ⟨i0, hi, hz0, hz1, hz2⟩ := info_parts (show (Try.prog.info? 3).map (fun i => (i.zero, i.size, i.bytes)) = some (some (.int .i64 0), 1, 8) by kernel_rfl)
                have HS3 := Lib.hid hs
                have HF3 := Lib.hid hF3
                have HC2 := Lib.hid hc2
                have HCR2 := Lib.hid hcr2
                have HPB := Lib.hid hpb
                have HSI := Lib.hid hSI
                have hb3 : (b : Int) < ps.length := by omega
                clear hs hF3 hbest hc2 hcr2 hpb hSI
                go_wp2_with (first | (at_builtin; refine wpList_append_own_at _ rfl _ _ 22 rfl w2.heap.size 3 i0 (.int .i64 0) 1 8 (by kernel_rfl) hi hz0 hz1 hz2 rfl (by decide) _ _ _ rfl ((HS3.out.own b v xs ev ex).alloc _) ⟨wr.heap.size, 0, none⟩ 1 1 [.int .i64 (x : Int)] rfl rfl (cell_one_new _ _ _) (ints_oneCell .i64 [(x : Int)]) (by have := HLL.out; unfold maxLen; omega) (by have := HLL.out; omega) (by have := HS3.out.g.size; simp; omega) ?_; intro v' w5 hown' hgrow hnil hloc; obtain ⟨sa', sc', rfl⟩ := own_slice hown'; have gA := HS3.out.kept (World.grownBy_alloc wr (.cells #[.int .i64 (x : Int)] 3) none); have b5 := blk_grown hgrow ((World.grownBy_alloc wr (.cells #[.int .i64 (x : Int)] 3) none).block _ (blk_lt HC2.out) (by simp) |>.trans HC2.out) (fun r e => (own_type (gA.own b v xs ev ex) e).elim fun c hc => ⟨c, 3, hc, by decide⟩); obtain ⟨cc, ff⟩ := cel_get b5 (b * 2 + 1) (HCR2.out b _ _ HPB.out ev).2; have GA := Lib.hid gA; have HG5 := Lib.hid hgrow; have HO5 := Lib.hid hown'; have HL5 := Lib.hid hloc; clear gA hgrow hown' hloc hnil b5))
                have st := GA.out.step ev ex HG5.out HO5.out HL5.out
                refine ⟨⟨k + 1, _, _, by simp, by omega, HF3.out, fun ys hy => ?_, st⟩, by simp [intOf]; omega⟩
                rcases List.mem_or_eq_of_mem_set hy with h | h
                · exact Nat.le_succ_of_le (HPL.out ys h)
                · rw [h]; simp; omega
          · obtain rfl : k = l.length := by omega
            rw [← HN2.out, List.drop_length, fd2] at hF2
            subst hF2
            have HRR3 := HRR2.out
            rw [← HL2.out] at HRR3
            cases HRR3
            have HS2 := Lib.hid hS2
            have HH0 := Lib.hid h0
            clear hS2 h0 hpl
            go_wp2
            go_ret2
            have hsz := HSZ.out
            have hs2 := HBW2.out.size
            refine ⟨_, rfl, HS2.out.srcV (fun hp => ⟨(HO2.out hp).1, by omega⟩) hs2 (own_cap HOUT.out), HBW2.out.grown HS2.out.g hs2 (fun j hj => by cases hj; omega)⟩
  · rw [if_pos he] at hR
    cases hR
    clear ht hn0 hl hll hA hN hcap hw hh
    go_enter Try.func36, Try.ntmps36
    go_wp2_with (go_at_call 45; refine S1.mono ?_; rintro e w1 ⟨v, rfl, hown1, hb1⟩; have HB1 := Lib.hid hb1; clear hb1 hown1)
    go_ret2
    exact ⟨_, rfl, .inl ⟨rfl, _, _, rfl⟩, (boxes2 HB1.out).2.1⟩
theorem rowB_rl {w : World} {A : Option Addr} {cap : Nat} {l : List Bound} (h : RowB w A l) (hc : l.length ≤ cap) : RL (topE w) (rowV false l) (.slice A l.length cap) := by
  unfold rowV
  simp only [RL]
  refine ⟨A, cap, rfl, hc, flat_len' false l, flat_leaf false l, ?_⟩
  by_cases e : l.length = 0
  · exact .inl e
  · right
    obtain ⟨B, o, rfl, _⟩ := h 0 (by omega)
    refine ⟨B, o, rfl, (fun q => nomatch q), RF.of_get _ _ fun i x hx => ?_⟩
    have hl : l.length * 3 = (l.flatMap (Cl.c false)).length := (flat_len' false l).symm
    have hi : i < l.length * 3 := by rw [hl]; exact (List.getElem?_eq_some_iff.1 hx).1
    have hk : i / 3 < l.length := by omega
    obtain ⟨B', o', e', h0, h1, h2⟩ := h (i / 3) hk
    cases e'
    have key : (l.flatMap (Cl.c false))[i]? = (Cl.c false l[i / 3])[i % 3]? := by
      have := elem_split (α := Bound) false l (i / 3) hk
      have e6 : Cl.e Bound = 3 := rfl
      rw [e6] at this
      have t2 := congrArg (fun z => z[i % 3]?) this
      simp only [List.getElem?_drop] at t2
      rw [show i / 3 * 3 + i % 3 = i by omega] at t2
      rw [t2, List.getElem?_append_left (by rw [Cl.len]; show i % 3 < 3; omega), List.getD_eq_getElem?_getD, List.getElem?_eq_getElem hk]
      rfl
    have ea : atB l (i / 3) = l[i / 3] := by unfold atB; rw [List.getD_eq_getElem?_getD, List.getElem?_eq_getElem hk]; rfl
    rw [ea] at h0 h1 h2
    rw [key] at hx
    have hx : ([.sc (.int .i64 l[i / 3].Lo), .sc (.int .i64 l[i / 3].Hi), .sc (.bool l[i / 3].Unknown)] : List V)[i % 3]? = some x := hx
    have hm : i % 3 = 0 ∨ i % 3 = 1 ∨ i % 3 = 2 := by omega
    show ∃ d, w.cell? ⟨B, o + i, none⟩ = some d ∧ RL (topE w) x d
    rcases hm with hm | hm | hm
    · rw [hm] at hx; cases hx
      exact ⟨_, by rw [show o + i = o + i / 3 * 3 by omega]; exact h0, by simp only [RL]⟩
    · rw [hm] at hx; cases hx
      exact ⟨_, by rw [show o + i = o + i / 3 * 3 + 1 by omega]; exact h1, by simp only [RL]⟩
    · rw [hm] at hx; cases hx
      exact ⟨_, by rw [show o + i = o + i / 3 * 3 + 2 by omega]; exact h2, by simp only [RL]⟩
theorem srcV_rl {E : Env} {n0 : Nat} {W : World} {v : Value} {ss : List (Int × List Int)} (h : SrcV W n0 v ss) (hn : E.n0 = n0) : RL (froz E n0 W) (rowV true (ss.map fun p => Source_.mk p.1 p.2)) v := by
  have hF : ∀ B o, n0 ≤ B → (froz E n0 W).F B o = W.cell? ⟨B, o, none⟩ := fun B o hB => by
    show (if B < n0 then _ else _) = _
    rw [if_neg (by omega)]
  unfold rowV
  simp only [RL]
  rcases h with ⟨rfl, a, c, rfl⟩ | ⟨g, cap, cur, vs, rfl, hg, hc, h1, h2, h3⟩
  · exact ⟨a, c, rfl, Nat.zero_le _, flat_len' true _, flat_leaf true _, .inl rfl⟩
  · refine ⟨some ⟨g, 0, none⟩, cap, by rw [List.length_map], by rw [List.length_map]; exact hc, flat_len' true _, flat_leaf true _, .inr ⟨g, 0, rfl, fun _ => by show E.n0 ≤ g; omega, RF.of_get _ _ fun i x hx => ?_⟩⟩
    have hl : (ss.map fun p => Source_.mk p.1 p.2).length * 2 = ((ss.map fun p => Source_.mk p.1 p.2).flatMap (Cl.c true)).length := (flat_len' true _).symm
    have hi : i < ss.length * 2 := by rw [List.length_map] at hl; rw [hl]; exact (List.getElem?_eq_some_iff.1 hx).1
    have hk : i / 2 < ss.length := by omega
    have key : ((ss.map fun p => Source_.mk p.1 p.2).flatMap (Cl.c true))[i]? = (Cl.c true (Source_.mk ss[i / 2].1 ss[i / 2].2))[i % 2]? := by
      have := elem_split (α := Source_) true (ss.map fun p => Source_.mk p.1 p.2) (i / 2) (by rw [List.length_map]; exact hk)
      have e6 : Cl.e Source_ = 2 := rfl
      rw [e6] at this
      have t2 := congrArg (fun z => z[i % 2]?) this
      simp only [List.getElem?_drop] at t2
      rw [show i / 2 * 2 + i % 2 = i by omega] at t2
      rw [t2, List.getElem?_append_left (by rw [Cl.len]; show i % 2 < 2; omega), List.getD_eq_getElem?_getD, List.getElem?_map, List.getElem?_eq_getElem hk]
      rfl
    rw [key] at hx
    have hv : i / 2 < vs.length := by omega
    obtain ⟨c0, c1, own⟩ := h3 (i / 2) ss[i / 2].1 ss[i / 2].2 vs[i / 2] (List.getElem?_eq_getElem hk) (List.getElem?_eq_getElem hv)
    generalize ss[i / 2].1 = p at hx c0
    generalize ss[i / 2].2 = xs at hx own
    generalize vs[i / 2] = u at c1 own
    have hx : ([.sc (.int .i64 p), V.lst true 1 xs.length (xs.flatMap (Cl.c true))] : List V)[i % 2]? = some x := hx
    have hm : i % 2 = 0 ∨ i % 2 = 1 := by omega
    rw [Nat.zero_add, hF g i hg]
    rcases hm with hm | hm
    · rw [hm] at hx; cases hx
      refine ⟨.int .i64 p, ?_, by simp only [RL]⟩
      exact (cel_get h1 i (by rw [show i = i / 2 * 2 by omega]; exact c0)).1
    · rw [hm] at hx; cases hx
      refine ⟨u, (cel_get h1 i (by rw [show i = i / 2 * 2 + 1 by omega]; exact c1)).1, ?_⟩
      simp only [RL]
      have own' := own
      obtain ⟨_, o2⟩ := own
      have e2 := flat_ints true xs
      rcases o2 with ⟨o2, o3⟩ | ⟨g', c, cur', o2, o3, o4, o5, o6, o7, o8⟩
      · exact ⟨none, 0, by rw [o2, o3], by omega, flat_len' true xs, flat_leaf true xs, .inl o3⟩
      · refine ⟨_, c, o2, o5, flat_len' true xs, flat_leaf true xs, .inr ⟨g', 0, rfl, fun _ => by show E.n0 ≤ g'; omega, RF.of_get _ _ fun j y hy => ?_⟩⟩
        rw [e2, List.getElem?_map] at hy
        cases hz : xs[j]? with
        | none => rw [hz] at hy; cases hy
        | some z =>
          rw [hz] at hy; cases hy
          refine ⟨.int .i64 z, ?_, by simp only [RL]⟩
          rw [Nat.zero_add, hF g' j (by omega)]
          have := own'.cells (g := g') (by rw [o2]; rfl) j (.int .i64 z) (by rw [List.getElem?_map, hz]; rfl)
          rw [Addr.add_lit, Nat.zero_add] at this
          exact this
end

end Go.Proofs.Crs
