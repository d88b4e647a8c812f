/- Each function of the program computes its plain function. Conditions: as each theorem states them. -/
import Derived.Test.YthgccmnmalhmcaaA3
import Derived.Test.YthgccmnmalhmcaaA4
import Derived.Test.YthgccmnmalhmcaaT
import Derived.Test.YthgccmnmalhmcaaP1
namespace Go.Proofs.Arw
open Go Go.Abs Lf
set_option linter.unusedVariables false
set_option linter.unusedSimpArgs false
set_option maxRecDepth 100000
set_option maxHeartbeats 1000000
section
open Go.RowKit Go.Shelf
attribute [local go_sem] Oper.semAt_some
theorem tot_bindx40 {α β : Type} {x : Option α} {f : α → Option β} (h : ∃ r, x = some r) (k : ∀ r, ∃ q, f r = some q) : ∃ q, x.bind f = some q := by
 obtain ⟨r, rfl⟩ := h; exact k r
theorem tot_itex40 {α : Type} {c : Prop} [Decidable c] {x y : Option α} (h : ∃ r, x = some r) (k : ∃ r, y = some r) : ∃ r, (if c then x else y) = some r := by
 split
 ·exact h
 ·exact k
theorem check_totx40 (b : Bound) : ∃ r, bound_Check b = some r := by
 unfold bound_Check
 refine tot_bindx40 (tot_itex40 (tot_itex40 ⟨_, rfl⟩ ⟨_, rfl⟩) ⟨_, rfl⟩) fun z => tot_itex40 ⟨_, rfl⟩ (tot_bindx40 (tot_itex40 ⟨_, rfl⟩ ⟨_, rfl⟩) fun y => tot_itex40 ⟨_, rfl⟩ (tot_itex40 ⟨_, rfl⟩ ⟨_, rfl⟩))
theorem norm_totx40 (b : Bound) : ∃ r, bound_Norm b = some r := by
 unfold bound_Norm bound_None
 exact tot_bindx40 (check_totx40 b) fun r => tot_itex40 ⟨_, rfl⟩ ⟨_, rfl⟩
theorem add_totx40 (a b : Bound) : ∃ r, bound_Add a b = some r := by
 unfold bound_Add bound_vague bound_Of bound_None
 refine tot_bindx40 (tot_bindx40 (tot_bindx40 (norm_totx40 a) fun r => tot_itex40 ⟨_, rfl⟩ (tot_bindx40 (norm_totx40 b) fun r => ⟨_, rfl⟩)) fun r => ⟨_, rfl⟩) fun r => tot_itex40 ⟨_, rfl⟩ (tot_bindx40 (tot_bindx40 (norm_totx40 _) fun r => ⟨_, rfl⟩) fun r => ⟨_, rfl⟩)
def addTx40 (s x : Bound) : Bound := (bound_Add s x).getD s
theorem addT_specx40 (s x : Bound) : bound_Add s x = some (addTx40 s x) := by
 obtain ⟨r, h⟩ := add_totx40 s x
 unfold addTx40; rw [h]; rfl
theorem add_callsx40 (s x : Bound) (w : World) : Calls Try.prog 74 #[.agg #[.int .i64 s.Lo, .int .i64 s.Hi, .bool s.Unknown], .agg #[.int .i64 x.Lo, .int .i64 x.Hi, .bool x.Unknown]] w fun e w' => e = .returned (.agg #[.int .i64 (addTx40 s x).Lo, .int .i64 (addTx40 s x).Hi, .bool (addTx40 s x).Unknown]) ∧ Below w.heap.size w w' := by
 have ag : ∀ (E : Env) (b : Bound), RL E (aggV false b) (.agg #[.int .i64 b.Lo, .int .i64 b.Hi, .bool b.Unknown]) := fun E b => by
  unfold aggV
  simp only [RL]
  exact ⟨[.int .i64 b.Lo, .int .i64 b.Hi, .bool b.Unknown], rfl, rls_cons rl_sc (rls_cons rl_sc (rls_cons rl_sc rls_nil)), Cl.leaf false b⟩
 refine (fnP_out (ok74 s x _ (addT_specx40 s x)) (cargs := [.agg #[.int .i64 s.Lo, .int .i64 s.Hi, .bool s.Unknown], .agg #[.int .i64 x.Lo, .int .i64 x.Hi, .bool x.Unknown]]) (rls_cons (ag _ s) (rls_cons (ag _ x) rls_nil))).mono ?_
 rintro e w' ⟨c, E', rfl, h1, h2⟩
 unfold aggV at h1
 simp only [RL] at h1
 obtain ⟨ds, rfl, h3, _⟩ := h1
 have h3 : RLs E' [iV (addTx40 s x).Lo, iV (addTx40 s x).Hi, bV (addTx40 s x).Unknown] ds := h3
 simp only [RLs, RL] at h3
 obtain ⟨_, _, rfl, rfl, _, _, rfl, rfl, _, _, rfl, rfl, rfl⟩ := h3
 exact ⟨rfl, h2⟩
def encBx40 (x : Bound) : Array Value := #[.agg #[.int .i64 x.Lo, .int .i64 x.Hi, .bool x.Unknown]]
abbrev RowBx40 := Row3 (fun x : Bound => .int .i64 x.Lo) (fun x : Bound => .int .i64 x.Hi) (fun x : Bound => .bool x.Unknown)
theorem values_Bx40 (a : Option Addr) (len cap : Nat) (w : World) :
  Calls Try.prog 70 #[.slice a len cap] w fun e w' => e = .returned (.func (.func 90) #[] #[.pointer (some ⟨w.heap.size, 0, none⟩)]) ∧ w' = w.alloc (.cells #[.slice a len cap] 97) := by
 go_enter Try.func70, Try.ntmps70
 go_wp2
 go_ret
 exact ⟨rfl, rfl⟩
set_option maxHeartbeats 2000000 in
theorem values1_Bx40 (F : Fence) (n : Nat) (h7 : F.fn 90) (hro : F.round = none) (hn : 1 ≤ n) (l Bs n₀ : Nat) (A : Option Addr) (cap : Nat) (zs : List Bound) (hreach : zs.length * 24 ≤ 140737488351232) (hb0 : ∀ ad, A = some ad → 0 < zs.length → ad.block < n₀) (J Jx : List Bound → World → Prop)
  (hY : ∀ pre x W, J pre W → pre.length < zs.length → YieldAt F (n - 1) Try.prog l (encBx40 x) W fun e W' =>
   (e = .returned (.bool true) ∧ J (pre ++ [x]) W' ∧ Below n₀ W W') ∨ (e = .returned (.bool false) ∧ Jx (pre ++ [x]) W'))
  (W : World) (hJ : AbidesFrom W.heap.size J) (hBs : W.cell? ⟨Bs, 0, none⟩ = some (.slice A zs.length cap)) (hn0 : n₀ ≤ W.heap.size) (hc : RowBx40 W A zs) (h0 : J [] W) :
  CallsIn F n Try.prog 90 #[.func (.yield l) #[] #[], .pointer (some ⟨Bs, 0, none⟩)] W fun e W' => (∃ v, e = .returned v) ∧
   ((∃ ys, ys = zs ∧ J ys W') ∨ (∃ pre, (∃ k, k ≤ zs.length ∧ pre = zs.take k) ∧ Jx pre W')) := by
 refine callsIn_of_wp Try.func90 rfl h7 ?_ hro
 simp only [Try.ntmps90, List.size_toArray, List.length_cons, List.length_nil, Nat.reduceAdd, Nat.reduceSub, Array.replicate_succ, Array.replicate_zero, List.push_toArray, List.append_toArray, List.nil_append, List.cons_append]
 gi_wp2
 gi_loopw [7] (fun i wr => ∃ k : Nat, k ≤ zs.length ∧ i = .int .i64 k ∧ J (zs.take k) wr ∧ Below n₀ W wr ∧ W.heap.size ≤ wr.heap.size)
  (fun i _ => zs.length - (intOf i).toNat)
 case atStart => exact ⟨0, Nat.zero_le _, rfl, by simpa using h0, Below.refl _ _, Nat.le_refl _⟩
 case round =>
  obtain ⟨k, hk, rfl, hJs, hnx, hsz⟩ := hrel
  by_cases hlt : k < zs.length
  ·obtain ⟨ad, rfl, _, hx0, hx1, hx2⟩ := hc k hlt
   have hb := hb0 ad rfl (by omega)
   have ht : zs.take (k + 1) = zs.take k ++ [zs[k]] := by rw [List.take_succ_eq_append_getElem hlt]
   generalize zs[k] = x at hx0 hx1 hx2 ht
   replace hx0 := (hnx.cell (p := ad.add (k * 3)) (by rw [add_blk]; exact hb)).trans hx0
   replace hx1 := (hnx.cell (p := ⟨(ad.add (k * 3)).block, (ad.add (k * 3)).off + 1, none⟩) (by show (ad.add (k * 3)).block < n₀; rw [add_blk]; exact hb)).trans hx1
   replace hx2 := (hnx.cell (p := ⟨(ad.add (k * 3)).block, (ad.add (k * 3)).off + 2, none⟩) (by show (ad.add (k * 3)).block < n₀; rw [add_blk]; exact hb)).trans hx2
   have hJ1 := hJ (zs.take k) wr (wr.alloc (.cells #[.int .i64 x.Lo, .int .i64 x.Hi, .bool x.Unknown] 33)) none hJs (World.grownBy_alloc wr _ none) (fun r e => by cases e)
   have hb1 : Below n₀ wr (wr.alloc (.cells #[.int .i64 x.Lo, .int .i64 x.Hi, .bool x.Unknown] 33)) := (Below.refl n₀ wr).alloc (by omega) _
   have hs1 : wr.heap.size ≤ (wr.alloc (.cells #[.int .i64 x.Lo, .int .i64 x.Hi, .bool x.Unknown] 33)).heap.size := by simp
   obtain ⟨fn, tmps, assign, body, hy, hR⟩ := hY (zs.take k) x _ hJ1 (by simp; omega)
   simp only [encBx40] at hy
   have HT := Lib.hid ht
   clear ht
   gi_wp2
   refine hR.mono ?_
   rintro e W3 (⟨rfl, hJ3, hk3⟩ | ⟨rfl, hJx3⟩)
   ·gi_wp2
    go_roundw
    case rel => exact ⟨k + 1, by omega, by simp, by rw [HT.out]; exact hJ3, (hnx.trans hb1).trans hk3, Nat.le_trans hsz (Nat.le_trans hs1 hk3.size)⟩
    case measure => simp [intOf]; omega
   ·gi_wp2
    refine bodyPost_ret (results_none rfl _ _ _) rfl ?_
    exact ⟨⟨_, rfl⟩, .inr ⟨_, ⟨k + 1, by omega, HT.out.symm⟩, hJx3⟩⟩
  ·obtain rfl : k = zs.length := by omega
   gi_wp2
   go_end0
   exact ⟨⟨_, rfl⟩, .inl ⟨_, rfl, by simpa using hJs⟩⟩
theorem values_stops_Bx40 (F : Fence) (n : Nat) (h7 : F.fn 90) (hro : F.round = none) (hn : 1 ≤ n) (Bs n₀ : Nat) (A : Option Addr) (cap : Nat) (zs : List Bound) (hreach : zs.length * 24 ≤ 140737488351232) (w : World) (hBs : Bs < w.heap.size) (hn₀ : n₀ ≤ w.heap.size)
  (hc : w.cell? ⟨Bs, 0, none⟩ = some (.slice A zs.length cap)) (hC : RowBx40 w A zs) (hb0 : ∀ ad, A = some ad → 0 < zs.length → ad.block < n₀) :
  SeqStopsK F n Try.prog 90 #[.pointer (some ⟨Bs, 0, none⟩)] encBx40 (Below n₀) (fun ys => ys = zs) (fun pre => pre <+: zs) zs.length w := fun l J Jx W hW hJ _ hY h0 => by
 have hc' := (hW.cell (p := ⟨Bs, 0, none⟩) hBs).trans hc
 refine (values1_Bx40 F n h7 hro hn l Bs n₀ A cap zs hreach hb0 J Jx hY W hJ hc' (Nat.le_trans hn₀ hW.size) (hC.below hW) h0).mono ?_
 rintro e W' ⟨he, ⟨ys, rfl, hj⟩ | ⟨pre, ⟨k, hk, rfl⟩, hj⟩⟩
 ·exact ⟨he, .inl ⟨_, rfl, hj⟩⟩
 ·exact ⟨he, .inr ⟨_, List.take_prefix _ _, hj⟩⟩
theorem sumF_consx40 (x : Bound) (xs : List Bound) (s : Bound) : bound_SumF (x :: xs) s = if (addTx40 s x).Unknown = true then addTx40 s x else bound_SumF xs (addTx40 s x) := rfl
set_option maxHeartbeats 2000000 in
theorem total_Bx40 (A : Option Addr) (cap : Nat) (zs : List Bound) (hreach : zs.length * 24 ≤ 140737488351232) (w : World) (Bs : Nat) (hBs : Bs < w.heap.size) (hc : w.cell? ⟨Bs, 0, none⟩ = some (.slice A zs.length cap)) (hC : RowBx40 w A zs) (hb0 : ∀ ad, A = some ad → 0 < zs.length → ad.block < w.heap.size) :
  Calls Try.prog 69 #[.func (.func 90) #[] #[.pointer (some ⟨Bs, 0, none⟩)]] w fun e w' => e = .returned (.agg #[.int .i64 (bound_SumF zs ⟨0, 0, false⟩).Lo, .int .i64 (bound_SumF zs ⟨0, 0, false⟩).Hi, .bool (bound_SumF zs ⟨0, 0, false⟩).Unknown]) ∧ Below w.heap.size w w' := by
 refine (callsIn_wide (n := 6)).1 ?_
 refine callsIn_of_wp_marks Try.func69 rfl trivial ?_ rfl
 simp only [Try.ntmps69, List.size_toArray, List.length_cons, List.length_nil, Nat.reduceAdd, Nat.reduceSub, Array.replicate_succ, Array.replicate_zero, List.push_toArray, List.append_toArray, List.nil_append, List.cons_append]
 gi_wp2
 have hz : ((w.alloc (.cells #[.int .i64 0, .int .i64 0, .bool false] 33)).alloc (.cells #[.int .i64 0, .int .i64 0, .bool false] 33)).heap.size = w.heap.size + 2 := by simp
 have hr2 : ((w.alloc (.cells #[.int .i64 0, .int .i64 0, .bool false] 33)).alloc (.cells #[.int .i64 0, .int .i64 0, .bool false] 33)).heap[w.heap.size]? = some (.cells #[.int .i64 0, .int .i64 0, .bool false] 33 (0, 0)) := blk_alloc (World.alloc_heap_new w _) _
 have hs2 : ((w.alloc (.cells #[.int .i64 0, .int .i64 0, .bool false] 33)).alloc (.cells #[.int .i64 0, .int .i64 0, .bool false] 33)).heap[w.heap.size + 1]? = some (.cells #[.int .i64 0, .int .i64 0, .bool false] 33 (0, 0)) := by
  have := World.alloc_heap_new (w.alloc (.cells #[.int .i64 0, .int .i64 0, .bool false] 33)) (.cells #[.int .i64 0, .int .i64 0, .bool false] 33)
  rwa [World.size_alloc] at this
 have hb2 : Below w.heap.size w ((w.alloc (.cells #[.int .i64 0, .int .i64 0, .bool false] 33)).alloc (.cells #[.int .i64 0, .int .i64 0, .bool false] 33)) := ((Below.refl _ w).alloc (Nat.le_refl _) _).alloc (by simp) _
 obtain ⟨w2, hw2⟩ : ∃ w2, (w.alloc (.cells #[.int .i64 0, .int .i64 0, .bool false] 33)).alloc (.cells #[.int .i64 0, .int .i64 0, .bool false] 33) = w2 := ⟨_, rfl⟩
 rw [hw2] at hz hr2 hs2 hb2 ⊢
 refine wpIn_rangeFunc_ownH (α := Bound) rfl (by omega) (gf := 90) (lb := #[.pointer (some ⟨Bs, 0, none⟩)]) rfl trivial (enters_of Try.func90 (by kernel_rfl) rfl)
  (values_stops_Bx40 Fence.wide 5 trivial rfl (by omega) Bs w.heap.size A cap zs hreach w2 (by omega) (by omega) ((hb2.cell (p := ⟨Bs, 0, none⟩) hBs).trans hc) (hC.below hb2) hb0) belowK_t (belowK_b (by omega)) (Below.refl _ _) (fun _ => rfl)
  (fun pre W => (∃ s : Bound, W.heap[w.heap.size + 1]? = some (.cells #[.int .i64 s.Lo, .int .i64 s.Hi, .bool s.Unknown] 33 (0, 0)) ∧ s.Unknown = false ∧ ∀ rest, bound_SumF (pre ++ rest) ⟨0, 0, false⟩ = bound_SumF rest s) ∧ W.heap[w.heap.size]? = some (.cells #[.int .i64 0, .int .i64 0, .bool false] 33 (0, 0)) ∧ Below w.heap.size w W)
  (fun c pre W => c = .exit 0 ∧ (∃ s : Bound, W.heap[w.heap.size + 1]? = some (.cells #[.int .i64 s.Lo, .int .i64 s.Hi, .bool s.Unknown] 33 (0, 0)) ∧ ∀ rest, bound_SumF (pre ++ rest) ⟨0, 0, false⟩ = s) ∧ W.heap[w.heap.size]? = some (.cells #[.int .i64 0, .int .i64 0, .bool false] 33 (0, 0)) ∧ Below w.heap.size w W)
  (fun s A B row hs hg hr => ⟨by obtain ⟨⟨u, h1, h2⟩, _⟩ := hs; exact ⟨u, own3 (β := Unit) _ _ _ _ () A B row h1 hg hr, h2⟩, own3 (β := Unit) _ _ _ _ () A B row hs.2.1 hg hr, ownFrom_below (β := Unit) (Nat.le_refl _) (by omega) () A B row hs.2.2 hg hr⟩)
  (fun c s A B row hs hg hr => ⟨hs.1, by obtain ⟨_, ⟨u, h1, h2⟩, _⟩ := hs; exact ⟨u, own3 (β := Unit) _ _ _ _ () A B row h1 hg hr, h2⟩, own3 (β := Unit) _ _ _ _ () A B row hs.2.2.1 hg hr, ownFrom_below (β := Unit) (Nat.le_refl _) (by omega) () A B row hs.2.2.2 hg hr⟩)
  ⟨⟨⟨0, 0, false⟩, hs2, rfl, fun rest => rfl⟩, hr2, hb2⟩
  (fun x a' W => ∃ Bx, w.heap.size + 1 < Bx ∧ W.heap[Bx]? = some (.cells #[.int .i64 x.Lo, .int .i64 x.Hi, .bool x.Unknown] 33 (0, 0)) ∧ a' = { tmps := #[.func (.func 90) #[] #[.pointer (some ⟨Bs, 0, none⟩)], undef, .pointer (some ⟨w.heap.size, 0, none⟩), .pointer (some ⟨w.heap.size + 1, 0, none⟩), .pointer (some ⟨Bx, 0, none⟩), .func (.func 90) #[] #[.pointer (some ⟨Bs, 0, none⟩)], .agg #[.int .i64 x.Lo, .int .i64 x.Hi, .bool x.Unknown], undef, undef, undef, undef, undef, undef], defers := [] })
  (fun x a' _ A B row hs hg hr => by obtain ⟨Bx, h1, h2, h3⟩ := hs; exact ⟨Bx, h1, own3 (β := Unit) _ _ _ _ () A B row h2 hg hr, h3⟩) ?assign ?body ?done ?stop
 case assign =>
  rintro l pre x W K ⟨⟨s, h1, h2⟩, h3, h4⟩ hK
  simp only [encBx40]
  gi_wp2
  exact hK _ _ ((KeepsOthers.alloc _ _).from _) ((Below.refl _ W).alloc h4.size _) ⟨⟨s, blk_alloc h1 _, h2⟩, blk_alloc h3 _, h4.alloc h4.size _⟩ ⟨W.heap.size, blk_lt h1, World.alloc_heap_new W _, rfl⟩
 case body =>
  rintro l pre x a' W hl hr ⟨⟨s, h1, h2, h3⟩, h4, h5⟩ ⟨Bx, hBx, bX, rfl⟩ hlt
  have hl1 := blk_lt h1
  obtain ⟨hc0, hc1, hc2, hf0, hf1, hf2⟩ := cel3 h1
  obtain ⟨hd0, hd1, hd2, _, _, _⟩ := cel3 bX
  have H1 := Lib.hid h1
  have H3 := Lib.hid h3
  have H4 := Lib.hid h4
  have HX := Lib.hid bX
  clear h1 h3 h4 bX h2 hr
  by_cases hu : (addTx40 s x).Unknown = true
  ·gi_wp2_with (refine ⟨trivial, ?_⟩; gi_at_call 74; refine (CallsIn.inRound l (callsIn_wide.2 (add_callsx40 s x _))).mono ?_; rintro e w5 ⟨rfl, hb5⟩; have hs5 := blk_below H1.out hb5; obtain ⟨hg0, hg1, hg2, hk0, hk1, hk2⟩ := cel3 hs5; have HS5 := Lib.hid hs5; clear hs5; have HB5 := Lib.hid hb5; clear hb5)
   have g := round3 (w2 := w2) (by omega) h5 HB5.out (Nat.le_succ w.heap.size) (.int .i64 (addTx40 s x).Lo) (.int .i64 (addTx40 s x).Hi) (.bool true)
   refine ⟨g.1, rfl, ⟨addTx40 s x, by rw [hu]; exact put3 _ _ _ HS5.out, fun rest => ?_⟩, far3 (blk_below H4.out HB5.out) (by omega) _ _ _, h5.trans g.2⟩
   rw [List.append_assoc, H3.out]
   exact if_pos hu
  ·have hu' : (addTx40 s x).Unknown = false := by simpa using hu
   gi_wp2_with (refine ⟨trivial, ?_⟩; gi_at_call 74; refine (CallsIn.inRound l (callsIn_wide.2 (add_callsx40 s x _))).mono ?_; rintro e w5 ⟨rfl, hb5⟩; have hs5 := blk_below H1.out hb5; obtain ⟨hg0, hg1, hg2, hk0, hk1, hk2⟩ := cel3 hs5; have HS5 := Lib.hid hs5; clear hs5; have HB5 := Lib.hid hb5; clear hb5)
   have g := round3 (w2 := w2) (by omega) h5 HB5.out (Nat.le_succ w.heap.size) (.int .i64 (addTx40 s x).Lo) (.int .i64 (addTx40 s x).Hi) (.bool false)
   refine ⟨g.1, g.2, ⟨addTx40 s x, by rw [hu']; exact put3 _ _ _ HS5.out, hu', fun rest => ?_⟩, far3 (blk_below H4.out HB5.out) (by omega) _ _ _, h5.trans g.2⟩
   rw [List.append_assoc, H3.out]
   exact if_neg hu
 case done =>
  rintro D ys W hD rfl ⟨⟨s, h1, h2, h3⟩, h4, h5⟩ hK
  obtain ⟨hc0, hc1, hc2, hf0, hf1, hf2⟩ := cel3 h1
  obtain ⟨hd0, hd1, hd2, he0, he1, he2⟩ := cel3 h4
  gi_wp2
  have hS : bound_SumF ys ⟨0, 0, false⟩ = s := by have := h3 []; rwa [List.append_nil] at this
  have hK3 := ((KeepsOthers.setCell W ⟨w.heap.size, 0, none⟩ (.int .i64 s.Lo)).trans ((KeepsOthers.setCell _ ⟨w.heap.size, 1, none⟩ (.int .i64 s.Hi)).trans (KeepsOthers.setCell _ ⟨w.heap.size, 2, none⟩ (.bool false)))).same D _ hK rfl
  have hR := put3 (.int .i64 s.Lo) (.int .i64 s.Hi) (.bool false) h4
  have hB3 := (((Below.refl w.heap.size W).setCell (p := ⟨w.heap.size, 0, none⟩) (Nat.le_refl _) (.int .i64 s.Lo)).setCell (p := ⟨w.heap.size, 1, none⟩) (Nat.le_refl _) (.int .i64 s.Hi)).setCell (p := ⟨w.heap.size, 2, none⟩) (Nat.le_refl _) (.bool false)
  have hB4 := belowK_b (w := w) (n₀ := w.heap.size) (Nat.le_refl _) _ D _ (.deferred none) (by omega) hK3 rfl rfl
  have hR4 := ((grownBy_putObj' _ D (.deferred none)).block w.heap.size (blk_lt hR) (fun e => by cases e; omega)).trans hR
  refine ⟨by simp, .inl ⟨_, _, rfl, run_takeDeferred hK3, ?_⟩⟩
  refine ⟨_, results_cell_row rfl _ _ w.heap.size 33 _ (0, 0) _ rfl hR4 Try.underlying33 rfl (by kernel_rfl), ?_, (h5.trans hB3).trans hB4⟩
  rw [hS, h2]
 case stop =>
  rintro D c pre W hD hpre ⟨rfl, ⟨s, h1, h2⟩, h4, h5⟩ hK
  obtain ⟨rest, rfl⟩ := hpre
  have hS := h2 rest
  clear h2
  obtain ⟨hc0, hc1, hc2, hf0, hf1, hf2⟩ := cel3 h1
  obtain ⟨hd0, hd1, hd2, he0, he1, he2⟩ := cel3 h4
  have HS := Lib.hid hS
  clear hS
  gi_wp2
  have hK3 := ((KeepsOthers.setCell W ⟨w.heap.size, 0, none⟩ (.int .i64 s.Lo)).trans ((KeepsOthers.setCell _ ⟨w.heap.size, 1, none⟩ (.int .i64 s.Hi)).trans (KeepsOthers.setCell _ ⟨w.heap.size, 2, none⟩ (.bool s.Unknown)))).same D _ hK rfl
  have hR := put3 (.int .i64 s.Lo) (.int .i64 s.Hi) (.bool s.Unknown) h4
  have hB3 := (((Below.refl w.heap.size W).setCell (p := ⟨w.heap.size, 0, none⟩) (Nat.le_refl _) (.int .i64 s.Lo)).setCell (p := ⟨w.heap.size, 1, none⟩) (Nat.le_refl _) (.int .i64 s.Hi)).setCell (p := ⟨w.heap.size, 2, none⟩) (Nat.le_refl _) (.bool s.Unknown)
  have hB4 := belowK_b (w := w) (n₀ := w.heap.size) (Nat.le_refl _) _ D _ (.deferred none) (by omega) hK3 rfl rfl
  have hR4 := ((grownBy_putObj' _ D (.deferred none)).block w.heap.size (blk_lt hR) (fun e => by cases e; omega)).trans hR
  refine ⟨by simp, .inl ⟨_, _, rfl, run_takeDeferred hK3, ?_⟩⟩
  refine ⟨_, results_cell_row rfl _ _ w.heap.size 33 _ (0, 0) _ rfl hR4 Try.underlying33 rfl (by kernel_rfl), ?_, (h5.trans hB3).trans hB4⟩
  rw [HS.out]
theorem sum_callsx40 (A0 : Option Addr) (c0 : Nat) (l0 : List Bound) (hreach : l0.length * 24 ≤ 140737488351232) (w : World) (hr0 : RowBx40 w A0 l0) (hc0 : l0.length ≤ c0) :
  Calls Try.prog 40 #[.slice A0 l0.length c0] w fun e w' => e = .returned (.agg #[.int .i64 (bound_SumF l0 ⟨0, 0, false⟩).Lo, .int .i64 (bound_SumF l0 ⟨0, 0, false⟩).Hi, .bool (bound_SumF l0 ⟨0, 0, false⟩).Unknown]) ∧ Below w.heap.size w w' := by
 have hB : Below w.heap.size w ((w.alloc (.cells #[.int .i64 0, .int .i64 0, .bool false] 33)).alloc (.cells #[.slice A0 l0.length c0] 97)) := ((Below.refl _ w).alloc (Nat.le_refl _) _).alloc (by simp) _
 have h1 : ((w.alloc (.cells #[.int .i64 0, .int .i64 0, .bool false] 33)).alloc (.cells #[.slice A0 l0.length c0] 97)).heap[w.heap.size]? = some (.cells #[.int .i64 0, .int .i64 0, .bool false] 33 (0, 0)) := blk_alloc (World.alloc_heap_new w _) _
 have h2 : ((w.alloc (.cells #[.int .i64 0, .int .i64 0, .bool false] 33)).alloc (.cells #[.slice A0 l0.length c0] 97)).heap[w.heap.size + 1]? = some (.cells #[.slice A0 l0.length c0] 97 (0, 0)) := by
  have := World.alloc_heap_new (w.alloc (.cells #[.int .i64 0, .int .i64 0, .bool false] 33)) (.cells #[.slice A0 l0.length c0] 97)
  rwa [World.size_alloc] at this
 have hb0 : ∀ ad, A0 = some ad → 0 < l0.length → ad.block < w.heap.size := by
  intro ad e hp
  obtain ⟨ad', e', hx, _⟩ := hr0 0 hp
  rw [e] at e'; cases e'
  exact hx
 have T := total_Bx40 A0 c0 l0 hreach _ (w.heap.size + 1) (by simp) ((cel1 h2).1) (hr0.below hB) (fun ad e hp => Nat.lt_of_lt_of_le (hb0 ad e hp) hB.size)
 have H1 := Lib.hid h1
 have HB := Lib.hid hB
 clear h1 h2 hB hb0
 go_enter Try.func40, Try.ntmps40
 go_wp2_with (first | (go_at_call 70; refine (values_Bx40 _ _ _ _).mono ?_; rintro e w1 ⟨rfl, rfl⟩) | (go_at_call 69; refine T.mono ?_; rintro e w1 ⟨rfl, hb1⟩; have h3 := blk_below H1.out hb1; obtain ⟨hc0_, hc1_, hc2_, hf0, hf1, hf2⟩ := cel3 h3; have H3 := Lib.hid h3; have HB1 := Lib.hid hb1; clear h3 hb1))
 have hR := put3 (.int .i64 (bound_SumF l0 ⟨0, 0, false⟩).Lo) (.int .i64 (bound_SumF l0 ⟨0, 0, false⟩).Hi) (.bool (bound_SumF l0 ⟨0, 0, false⟩).Unknown) H3.out
 refine bodyPost_ret (results_cell_row rfl _ _ w.heap.size 33 _ (0, 0) _ rfl hR Try.underlying33 rfl (by kernel_rfl)) rfl ?_
 exact ⟨rfl, (((HB.out.trans (HB1.out.mono HB.out.size)).setCell (p := ⟨w.heap.size, 0, none⟩) (Nat.le_refl _) _).setCell (p := ⟨w.heap.size, 1, none⟩) (Nat.le_refl _) _).setCell (p := ⟨w.heap.size, 2, none⟩) (Nat.le_refl _) _⟩
theorem row_cellsx40 (l : List Bound) (k : Nat) (hk : k < l.length) : (l.flatMap (Cl.c false))[k * 3]? = some (.sc (.int .i64 l[k].Lo)) ∧ (l.flatMap (Cl.c false))[k * 3 + 1]? = some (.sc (.int .i64 l[k].Hi)) ∧ (l.flatMap (Cl.c false))[k * 3 + 2]? = some (.sc (.bool l[k].Unknown)) := by
 have h := flat_at false l k hk
 have e : l.getD k Cl.d = l[k] := by rw [List.getD_eq_getElem?_getD, List.getElem?_eq_getElem hk]; rfl
 rw [e] at h
 have h : ((l.flatMap (Cl.c false)).drop (k * 3)).take 3 = [iV l[k].Lo, iV l[k].Hi, bV l[k].Unknown] := h
 have g : ∀ i : Nat, i < 3 → (l.flatMap (Cl.c false))[k * 3 + i]? = ([iV l[k].Lo, iV l[k].Hi, bV l[k].Unknown] : List V)[i]? := fun i hi => by
  rw [← h, List.getElem?_take, if_pos hi, List.getElem?_drop]
 exact ⟨g 0 (by decide), g 1 (by decide), g 2 (by decide)⟩
theorem ok40 (l : List Bound) (r : Bound) (hR : bound_Sum l = some r) : FnP Try.prog 40 [rowV false l] (aggV (α := Bound) true r) := by
 unfold bound_Sum at hR
 split at hR
 ·rename_i hreach
  have hR := Option.some.inj hR
  subst hR
  refine fnP_in fun E W cargs hF ha => ?_
  simp only [RLs] at ha
  obtain ⟨c, ds, rfl, h1, rfl⟩ := ha
  unfold rowV at h1
  simp only [RL] at h1
  obtain ⟨a, cap, rfl, h2, h3, h4, h5⟩ := h1
  refine (sum_callsx40 a cap l hreach W (fun k hk => ?_) h2).mono ?_
  ·rcases h5 with h5 | ⟨B, o, rfl, _, h6⟩
   ·omega
   ·obtain ⟨g0, g1, g2⟩ := row_cellsx40 l k hk
    obtain ⟨d0, e0, f0⟩ := RF.get _ _ h6 _ _ g0
    obtain ⟨d1, e1, f1⟩ := RF.get _ _ h6 _ _ g1
    obtain ⟨d2, e2, f2⟩ := RF.get _ _ h6 _ _ g2
    simp only [RL] at f0 f1 f2
    subst f0; subst f1; subst f2
    have c0 := hF _ _ _ e0
    have c1 := hF _ _ _ e1
    have c2 := hF _ _ _ e2
    refine ⟨⟨B, o, none⟩, rfl, World.block_lt_of_cell? W ⟨B, o + k * 3, none⟩ c0, ?_, ?_, ?_⟩
    ·rw [addr_add]; exact c0
    ·rw [addr_add]; exact c1
    ·rw [addr_add]; exact c2
  ·rintro e w' ⟨rfl, hb⟩
   refine ⟨_, rfl, ?_, hb⟩
   unfold aggV
   simp only [RL]
   exact ⟨[.int .i64 (bound_SumF l ⟨0, 0, false⟩).Lo, .int .i64 (bound_SumF l ⟨0, 0, false⟩).Hi, .bool (bound_SumF l ⟨0, 0, false⟩).Unknown], rfl, rls_cons rl_sc (rls_cons rl_sc (rls_cons rl_sc rls_nil)), Cl.leaf true _⟩
 ·cases hR
end

theorem ok31 (v : Bound × Bound × Bound) (r : Bound) (hR : arc_Norm v = some r) : FnP Try.prog 31 [aggV false v] (aggV (α := Bound) true r) := by
 refine fnP_of (FnX.walk Try.func31 rfl 14 0 (by simp [Try.ntmps31]) rfl fun W S F Q hQ => ?_)
 unfold arc_Norm at hR
 refine AWP.sq (AWP.rgC 8 rfl rfl (bx (cs := _) 0 rfl rfl rfl (al (cs := [iV 0, iV 0, bV false]) 4 rfl rfl ti33 rfl rfl (RunC.fin (AWP.sq (AWP.rgD 56 [0, 1, 3, 0, 8, 31, 0, 64, 255, 511, 1023, 2047] ⟨[], [none, some [0], none, none, some [0], none, none, some [0], none, none, none, some [4]]⟩ hmix (by kernel_rfl) rfl rfl ?_))))))
 refine iaP (o' := 0) rfl rfl rfl ti68 rfl ti33 (by decide) rfl (ldB (v := .agg _) rfl rfl rfl rfl ti33 rfl rfl ?_)
 obtain ⟨r1, hr1, hR⟩ := bindE hR
 refine cls [] rfl rfl cb55 (ok55 v.1 _ hr1) (.cons (.agg .z3 rfl) (.nil)) (.inr rfl) rfl (iaP (o' := 3) rfl rfl rfl ti68 rfl ti33 (by decide) rfl (ldB (v := .agg _) rfl rfl rfl rfl ti33 rfl rfl ?_))
 obtain ⟨r2, hr2, hR⟩ := bindE hR
 refine cls [] rfl rfl cb55 (ok55 v.2.1 _ hr2) (.cons (.agg .z3 rfl) (.nil)) (.inr rfl) rfl (iaP (o' := 6) rfl rfl rfl ti68 rfl ti33 (by decide) rfl (ldB (v := .agg _) rfl rfl rfl rfl ti33 rfl rfl ?_))
 obtain ⟨r3, hr3, hR⟩ := bindE hR
 refine cls [] rfl rfl cb55 (ok55 v.2.2 _ hr3) (.cons (.agg .z3 rfl) (.nil)) (.inr rfl) rfl (bs (α := Bound) 44 true ([r1, r2, r3] : List Bound) rfl rfl ti97 rfl ti33 rfl rfl rfl rfl rfl ?_)
 obtain ⟨r4, hr4, hR⟩ := bindE hR
 refine cls [44] rfl rfl cb40 (ok40 ([r1, r2, r3] : List Bound) _ hr4) (.cons (ldS' rfl rfl rfl rfl) (.nil)) (.inl (by first | rfl | exact freshR | exact freshA | (simp only [V.fresh, V.freshs, freshR, freshA, Bool.and_self]))) rfl (stB (cs' := [iV r4.Lo, iV r4.Hi, bV r4.Unknown]) rfl rfl rfl rfl ti33 rfl rfl rfl rfl rfl (RunC.fin (AWP.ret ?_)))
 have hR := Option.some.inj hR; subst hR
 exact hQ _ _ (LS.mk [(2, .ptr 0 0 0)] (lblks 0 [boxB (α := Bound) true r4]) 1) (aggV (α := Bound) true r4) [] (.inr rfl) (Weak.turnL [(4, 0)] [] rfl rfl (tc (trP' rfl rfl rfl rfl) tn) (mc rfl (.box rfl .z3 rfl) mn)) (ro1 (rvC (v := aggV (α := Bound) true r4) rfl rfl ti33 rfl)) rfl rfl ldA pn
theorem ok96 (x : Int) (r : Bool) (hR : cmp_isNaN x = some r) : FnP Try.prog 96 [.sc (.int .i64 x)] (.sc (.bool r)) := by
 refine fnP_of (FnX.walk Try.func96 rfl 6 0 (by simp [Try.ntmps96]) rfl fun W S F Q hQ => ?_)
 unfold cmp_isNaN at hR
 refine AWP.sq (AWP.rgC 4 rfl rfl (pS rfl (RunC.fin (AWP.sq (AWP.rgC 20 rfl rfl (pS rfl (pS rfl (pS rfl (pS rfl (RunC.fin (AWP.ret ?_)))))))))))
 have hR := Option.some.inj hR; subst hR
 exact hQ _ _ (LS.mk [(2, bV (x != x))] (lblks 0 []) 0) (bV (x != x)) [] (.inr rfl) (Weak.turnL [] [] rfl rfl (tc (.sc _) tn) mn) (ro1 (rvT (v := bV (x != x)) rfl)) rfl rfl (.sc _) pn
theorem ok83 (x : Int) (y : Int) (r : Int) (hR : cmp_Compare x y = some r) : FnP Try.prog 83 [.sc (.int .i64 x), .sc (.int .i64 y)] (.sc (.int .i64 r)) := by
 refine fnP_of (FnX.walk Try.func83 rfl 20 0 (by simp [Try.ntmps83]) rfl fun W S F Q hQ => ?_)
 unfold cmp_Compare at hR
 refine AWP.sq (AWP.rgC 4 rfl rfl (pS rfl (RunC.fin (AWP.sq (AWP.rgC 16 rfl rfl (pS rfl ?_))))))
 obtain ⟨r1, hr1, hR⟩ := bindE hR
 refine cls [] rfl rfl cb96 (ok96 x _ hr1) (.cons (.sc _) .nil) (.inr rfl) rfl (pS rfl (RunC.fin (AWP.sq (AWP.rgC 28 rfl rfl (pS rfl ?_)))))
 obtain ⟨r2, hr2, hR⟩ := bindE hR
 refine cls [] rfl rfl cb96 (ok96 y _ hr2) (.cons (.sc _) .nil) (.inr rfl) rfl (pS rfl (RunC.fin (AWP.sq (AWP.sq (AWP.rgC 32 rfl rfl (pS rfl (RunC.fin (AWP.cd hR rfl (fun h3 hR => ?_) fun h3 hR => ?_))))))))
 ·refine AWP.sq (AWP.sq (AWP.rgC 36 rfl rfl (pS rfl (RunC.fin (AWP.cd hR rfl (fun h4 hR => ?_) fun h4 hR => ?_)))))
  ·refine AWP.sq (AWP.rgC 40 rfl rfl (pS rfl (RunC.fin (AWP.ret (rtT (rtT ?_))))))
   have hR := Option.some.inj hR; subst hR
   exact hQ _ _ (LS.mk [(4, iV 0)] (lblks 0 []) 0) (iV 0) [] (.inr rfl) (Weak.turnL [] [] rfl rfl (tc (.sc _) tn) mn) (ro1 (rvT (v := iV 0) rfl)) rfl rfl (.sc _) pn
  ·refine AWP.skip (skT (AWP.sq (AWP.rgC 40 rfl rfl (pS rfl (RunC.fin (AWP.ret (rtT ?_)))))))
   have hR := Option.some.inj hR; subst hR
   exact hQ _ _ (LS.mk [(4, iV (-1))] (lblks 0 []) 0) (iV (-1)) [] (.inr rfl) (Weak.turnL [] [] rfl rfl (tc (.sc _) tn) mn) (ro1 (rvT (v := iV (-1)) rfl)) rfl rfl (.sc _) pn
 ·refine AWP.skip (skT (AWP.sq (AWP.sq (AWP.rgC 36 rfl rfl (pS rfl (RunC.fin (AWP.cd hR rfl (fun h5 hR => ?_) fun h5 hR => ?_)))))))
  ·refine AWP.sq (AWP.rgC 40 rfl rfl (pS rfl (RunC.fin (AWP.ret (rtT ?_)))))
   have hR := Option.some.inj hR; subst hR
   exact hQ _ _ (LS.mk [(4, iV 1)] (lblks 0 []) 0) (iV 1) [] (.inr rfl) (Weak.turnL [] [] rfl rfl (tc (.sc _) tn) mn) (ro1 (rvT (v := iV 1) rfl)) rfl rfl (.sc _) pn
  ·refine AWP.skip (skT (AWP.sq (AWP.sq (AWP.rgC 48 rfl rfl (pS rfl (pS rfl (pS rfl (RunC.fin (AWP.cd hR rfl (fun h6 hR => ?_) fun h6 hR => ?_)))))))))
   ·refine AWP.sq (AWP.rgC 52 rfl rfl (pS rfl (RunC.fin (AWP.ret (rtT ?_)))))
    have hR := Option.some.inj hR; subst hR
    exact hQ _ _ (LS.mk [(4, iV (-1))] (lblks 0 []) 0) (iV (-1)) [] (.inr rfl) (Weak.turnL [] [] rfl rfl (tc (.sc _) tn) mn) (ro1 (rvT (v := iV (-1)) rfl)) rfl rfl (.sc _) pn
   ·refine AWP.skip (skT (AWP.sq (AWP.sq (AWP.rgC 60 rfl rfl (pS rfl (pS rfl (pS rfl (RunC.fin (AWP.cd hR rfl (fun h7 hR => ?_) fun h7 hR => ?_)))))))))
    ·refine AWP.sq (AWP.rgC 64 rfl rfl (pS rfl (RunC.fin (AWP.ret (rtT ?_)))))
     have hR := Option.some.inj hR; subst hR
     exact hQ _ _ (LS.mk [(4, iV 1)] (lblks 0 []) 0) (iV 1) [] (.inr rfl) (Weak.turnL [] [] rfl rfl (tc (.sc _) tn) mn) (ro1 (rvT (v := iV 1) rfl)) rfl rfl (.sc _) pn
    ·refine AWP.skip (skT (AWP.sq (AWP.rgC 64 rfl rfl (pS rfl (RunC.fin (AWP.ret ?_))))))
     have hR := Option.some.inj hR; subst hR
     exact hQ _ _ (LS.mk [(4, iV 0)] (lblks 0 []) 0) (iV 0) [] (.inr rfl) (Weak.turnL [] [] rfl rfl (tc (.sc _) tn) mn) (ro1 (rvT (v := iV 0) rfl)) rfl rfl (.sc _) pn
theorem ok97 (x : Int) (r : Bool) (hR : cmp_isNaN x = some r) : FnP Try.prog 97 [.sc (.int .u64 x)] (.sc (.bool r)) := by
 refine fnP_of (FnX.walk Try.func97 rfl 6 0 (by simp [Try.ntmps97]) rfl fun W S F Q hQ => ?_)
 unfold cmp_isNaN at hR
 refine AWP.sq (AWP.rgC 4 rfl rfl (pS rfl (RunC.fin (AWP.sq (AWP.rgC 20 rfl rfl (pS rfl (pS rfl (pS rfl (pS rfl (RunC.fin (AWP.ret ?_)))))))))))
 have hR := Option.some.inj hR; subst hR
 exact hQ _ _ (LS.mk [(2, bV (x != x))] (lblks 0 []) 0) (bV (x != x)) [] (.inr rfl) (Weak.turnL [] [] rfl rfl (tc (.sc _) tn) mn) (ro1 (rvT (v := bV (x != x)) rfl)) rfl rfl (.sc _) pn
theorem ok84 (x : Int) (y : Int) (r : Int) (hR : cmp_Compare x y = some r) : FnP Try.prog 84 [.sc (.int .u64 x), .sc (.int .u64 y)] (.sc (.int .i64 r)) := by
 refine fnP_of (FnX.walk Try.func84 rfl 20 0 (by simp [Try.ntmps84]) rfl fun W S F Q hQ => ?_)
 unfold cmp_Compare at hR
 refine AWP.sq (AWP.rgC 4 rfl rfl (pS rfl (RunC.fin (AWP.sq (AWP.rgC 16 rfl rfl (pS rfl ?_))))))
 obtain ⟨r1, hr1, hR⟩ := bindE hR
 refine cls [] rfl rfl cb97 (ok97 x _ hr1) (.cons (.sc _) .nil) (.inr rfl) rfl (pS rfl (RunC.fin (AWP.sq (AWP.rgC 28 rfl rfl (pS rfl ?_)))))
 obtain ⟨r2, hr2, hR⟩ := bindE hR
 refine cls [] rfl rfl cb97 (ok97 y _ hr2) (.cons (.sc _) .nil) (.inr rfl) rfl (pS rfl (RunC.fin (AWP.sq (AWP.sq (AWP.rgC 32 rfl rfl (pS rfl (RunC.fin (AWP.cd hR rfl (fun h3 hR => ?_) fun h3 hR => ?_))))))))
 ·refine AWP.sq (AWP.sq (AWP.rgC 36 rfl rfl (pS rfl (RunC.fin (AWP.cd hR rfl (fun h4 hR => ?_) fun h4 hR => ?_)))))
  ·refine AWP.sq (AWP.rgC 40 rfl rfl (pS rfl (RunC.fin (AWP.ret (rtT (rtT ?_))))))
   have hR := Option.some.inj hR; subst hR
   exact hQ _ _ (LS.mk [(4, iV 0)] (lblks 0 []) 0) (iV 0) [] (.inr rfl) (Weak.turnL [] [] rfl rfl (tc (.sc _) tn) mn) (ro1 (rvT (v := iV 0) rfl)) rfl rfl (.sc _) pn
  ·refine AWP.skip (skT (AWP.sq (AWP.rgC 40 rfl rfl (pS rfl (RunC.fin (AWP.ret (rtT ?_)))))))
   have hR := Option.some.inj hR; subst hR
   exact hQ _ _ (LS.mk [(4, iV (-1))] (lblks 0 []) 0) (iV (-1)) [] (.inr rfl) (Weak.turnL [] [] rfl rfl (tc (.sc _) tn) mn) (ro1 (rvT (v := iV (-1)) rfl)) rfl rfl (.sc _) pn
 ·refine AWP.skip (skT (AWP.sq (AWP.sq (AWP.rgC 36 rfl rfl (pS rfl (RunC.fin (AWP.cd hR rfl (fun h5 hR => ?_) fun h5 hR => ?_)))))))
  ·refine AWP.sq (AWP.rgC 40 rfl rfl (pS rfl (RunC.fin (AWP.ret (rtT ?_)))))
   have hR := Option.some.inj hR; subst hR
   exact hQ _ _ (LS.mk [(4, iV 1)] (lblks 0 []) 0) (iV 1) [] (.inr rfl) (Weak.turnL [] [] rfl rfl (tc (.sc _) tn) mn) (ro1 (rvT (v := iV 1) rfl)) rfl rfl (.sc _) pn
  ·refine AWP.skip (skT (AWP.sq (AWP.sq (AWP.rgC 48 rfl rfl (pS rfl (pS rfl (pS rfl (RunC.fin (AWP.cd hR rfl (fun h6 hR => ?_) fun h6 hR => ?_)))))))))
   ·refine AWP.sq (AWP.rgC 52 rfl rfl (pS rfl (RunC.fin (AWP.ret (rtT ?_)))))
    have hR := Option.some.inj hR; subst hR
    exact hQ _ _ (LS.mk [(4, iV (-1))] (lblks 0 []) 0) (iV (-1)) [] (.inr rfl) (Weak.turnL [] [] rfl rfl (tc (.sc _) tn) mn) (ro1 (rvT (v := iV (-1)) rfl)) rfl rfl (.sc _) pn
   ·refine AWP.skip (skT (AWP.sq (AWP.sq (AWP.rgC 60 rfl rfl (pS rfl (pS rfl (pS rfl (RunC.fin (AWP.cd hR rfl (fun h7 hR => ?_) fun h7 hR => ?_)))))))))
    ·refine AWP.sq (AWP.rgC 64 rfl rfl (pS rfl (RunC.fin (AWP.ret (rtT ?_)))))
     have hR := Option.some.inj hR; subst hR
     exact hQ _ _ (LS.mk [(4, iV 1)] (lblks 0 []) 0) (iV 1) [] (.inr rfl) (Weak.turnL [] [] rfl rfl (tc (.sc _) tn) mn) (ro1 (rvT (v := iV 1) rfl)) rfl rfl (.sc _) pn
    ·refine AWP.skip (skT (AWP.sq (AWP.rgC 64 rfl rfl (pS rfl (RunC.fin (AWP.ret ?_))))))
     have hR := Option.some.inj hR; subst hR
     exact hQ _ _ (LS.mk [(4, iV 0)] (lblks 0 []) 0) (iV 0) [] (.inr rfl) (Weak.turnL [] [] rfl rfl (tc (.sc _) tn) mn) (ro1 (rvT (v := iV 0) rfl)) rfl rfl (.sc _) pn
theorem ok82 (vals : List Int) (r : Int) (hR : cmp_Or vals = some r) : FnP Try.prog 82 [rowV false vals] (.sc (.int .i64 r)) := by
 refine fnP_of (FnX.walk Try.func82 rfl 18 0 (by simp [Try.ntmps82]) rfl fun W S F Q hQ => ?_)
 unfold cmp_Or at hR
 refine AWP.sq (AWP.rgC 4 rfl rfl (pS rfl (RunC.fin (AWP.sq (AWP.rgC 8 rfl rfl (pS rfl (RunC.fin (AWP.sq (AWP.sq (AWP.rgC 20 rfl rfl (pu (v := rowV _ vals) rfl rfl (fun _ => rfl) (lenL (α := Int) rfl rfl ti22 rfl ?_))))))))))))
 refine pS rfl (RunC.fin (AWP.loopK' (fun s1 : Int => LS.mk [(3, iV 0), (6, rowV (α := Int) false vals), (7, iV (vals.length : Int)), (8, iV s1)] (lblks 0 []) 0) (fun z2 : Unit => LS.mk [(3, iV 0)] (lblks 0 []) 0) (cmp_Or.l1 vals) hR (s0 := 0) (Weak.turnL [] [] rfl rfl (tc (.sc _) (tc trR1 (tc (.sc _) (tc (.sc _) tn)))) mn) (fun s1 o1 hR hE1 => ?_) fun z2 hR => ?_))
 ·unfold cmp_Or.l1 at hR
  refine AWP.sq (AWP.rgC 4 rfl rfl (pS rfl (RunC.fin (AWP.sq (AWP.cd hR rfl (fun h3 hR => ?_) fun h3 hR => ?_)))))
  ·refine AWP.skip (skT (AWP.sq (AWP.block (AWP.sq (AWP.rgC 16 rfl rfl ?_)))))
   obtain ⟨h4, hR⟩ := chkE hR
   refine ixL (α := Int) rfl rfl rfl ti22 rfl ti3 rfl h4 ?_
   refine ldR (v := .sc _) rfl rfl ti3 rfl ?_
   refine pS rfl (RunC.fin (AWP.sq (AWP.rgC 28 rfl rfl (pS rfl (pS rfl (pS rfl (RunC.fin (AWP.cd hR rfl (fun h5 hR => ?_) fun h5 hR => ?_))))))))
   ·refine AWP.sq (AWP.rgC 36 rfl rfl (pS rfl (pS rfl (RunC.fin (AWP.ret (rtB (rtT (rtT (rtB (rtT ?_))))))))))
    replace hR := escL hR hE1
    refine rtT ?_
    have hR := Option.some.inj hR; subst hR
    exact hQ _ _ (LS.mk [(2, iV (gt vals s1))] (lblks 0 []) 0) (iV (gt vals s1)) [] (.inr rfl) (Weak.turnL [] [] rfl rfl (tc (.sc _) tn) mn) (ro1 (rvT (v := iV (gt vals s1)) rfl)) rfl rfl (.sc _) pn
   ·refine AWP.skip (skB ?_)
    refine skT (AWP.rgC 36 rfl rfl (pS rfl (pS rfl (RunC.fin (⟨(w6 (s1 + 1)), (Option.some.inj hR).symm, ?_⟩)))))
    exact Weak.turnL [] [] rfl rfl (tc (.sc _) (tc trR1 (tc (.sc _) (tc (.sc _) tn)))) mn
  ·refine AWP.exit (exT (exT (exH (skT (⟨(), (Option.some.inj hR).symm, ?_⟩)))))
   exact Weak.turnL [] [] rfl rfl (tc (.sc _) tn) mn
 ·refine skT (AWP.sq (AWP.rgC 8 rfl rfl (pS rfl (pS rfl (RunC.fin (AWP.ret ?_))))))
  have hR := Option.some.inj hR; subst hR
  exact hQ _ _ (LS.mk [(2, iV 0)] (lblks 0 []) 0) (iV 0) [] (.inr rfl) (Weak.turnL [] [] rfl rfl (tc (.sc _) tn) mn) (ro1 (rvT (v := iV 0) rfl)) rfl rfl (.sc _) pn
theorem ok53 (w : num_Wide) (v : num_Wide) (r : Int) (hR : Wide_Cmp w v = some r) : FnP Try.prog 53 [aggV false w, aggV false v] (.sc (.int .i64 r)) := by
 refine fnP_of (FnX.walk Try.func53 rfl 17 0 (by simp [Try.ntmps53]) rfl fun W S F Q hQ => ?_)
 unfold Wide_Cmp at hR
 refine AWP.sq (AWP.rgC 12 rfl rfl (bx (cs := _) 0 rfl rfl rfl (bx (cs := _) 4 rfl rfl rfl (pS rfl (RunC.fin (AWP.sq (AWP.rgD 64 [0, 1, 0, 4, 15, 0, 32, 0, 128, 511, 1023, 2047, 4095] ⟨[], [none, some [0], none, some [4], none, none, some [0], none, some [4], none, none, none, none]⟩ hmix (by kernel_rfl) rfl rfl ?_)))))))
 refine fa rfl rfl ti109 rfl rfl ti2 rfl (ldB (v := .sc _) rfl rfl rfl rfl ti2 rfl rfl (fa rfl rfl ti109 rfl rfl ti2 rfl (ldB (v := .sc _) rfl rfl rfl rfl ti2 rfl rfl ?_)))
 obtain ⟨r1, hr1, hR⟩ := bindE hR
 refine cls [] rfl rfl cb83 (ok83 w.Hi v.Hi _ hr1) .z2 (.inr rfl) rfl (fa rfl rfl ti109 rfl rfl ti107 rfl (ldB (v := .sc _) rfl rfl rfl rfl ti107 rfl rfl (fa rfl rfl ti109 rfl rfl ti107 rfl (ldB (v := .sc _) rfl rfl rfl rfl ti107 rfl rfl ?_))))
 obtain ⟨r2, hr2, hR⟩ := bindE hR
 refine cls [] rfl rfl cb84 (ok84 w.Lo.n v.Lo.n _ hr2) .z2 (.inr rfl) rfl (bs (α := Int) 52 true ([r1, r2] : List Int) rfl rfl ti22 rfl ti3 rfl rfl rfl rfl rfl ?_)
 obtain ⟨r3, hr3, hR⟩ := bindE hR
 refine cls [52] rfl rfl cb82 (ok82 ([r1, r2] : List Int) _ hr3) (.cons (ldS' rfl rfl rfl rfl) (.nil)) (.inl (by first | rfl | exact freshR | exact freshA | (simp only [V.fresh, V.freshs, freshR, freshA, Bool.and_self]))) rfl (pS rfl (RunC.fin (AWP.ret ?_)))
 have hR := Option.some.inj hR; subst hR
 exact hQ _ _ (LS.mk [(4, iV r3)] (lblks 0 []) 0) (iV r3) [] (.inr rfl) (Weak.turnL [] [] rfl rfl (tc (.sc _) tn) mn) (ro1 (rvT (v := iV r3) rfl)) rfl rfl (.sc _) pn
theorem ok30 (a : Bound) (unit : Int) (r : Bound) (hR : bound_Root a unit = some r) : FnP Try.prog 30 [aggV false a, .sc (.int .i64 unit)] (aggV (α := Bound) true r) := by
 refine fnP_of (FnX.walk Try.func30 rfl 43 0 (by simp [Try.ntmps30]) rfl fun W S F Q hQ => ?_)
 unfold bound_Root at hR
 refine AWP.sq (AWP.rgC 8 rfl rfl (bx (cs := _) 0 rfl rfl rfl (al (cs := [iV 0, iV 0, bV false]) 4 rfl rfl ti33 rfl rfl (RunC.fin (AWP.sq (AWP.joinX (fun z1 : Bool => LS.mk [(1, iV unit), (2, .ptr 0 0 0), (4, .ptr 1 0 0), (18, bV z1)] (lblks 0 [boxB (α := Bound) true a, boxB (α := Bound) true (Bound.mk 0 0 false)]) 2) hR (fun o1 hR => ?_) fun z1 hR => ?_))))))
 ·refine AWP.rgC 56 rfl rfl (ldB (v := .agg _) rfl rfl rfl rfl ti33 rfl rfl (ldB (v := .agg _) rfl rfl rfl rfl ti33 rfl rfl ?_))
  obtain ⟨r2, hr2, hR⟩ := bindE hR
  refine cls [] rfl rfl cb49 (ok49 a a _ hr2) (.cons (.agg .z3 rfl) (.cons (.agg .z3 rfl) (.nil))) (.inr rfl) rfl (pS rfl (brR hR (fun h3 hR => ?_) fun h3 hR => ?_))
  ·refine sk (skW rfl rfl rfl h3) (sk (skW rfl rfl rfl h3) (pkT (v := bV true) rfl rfl h3 rfl (pS rfl (sk (skW rfl rfl rfl rfl) (sk (skW rfl rfl rfl rfl) (sk (skW rfl rfl rfl rfl) (pkT (v := bV true) rfl rfl rfl rfl (RunC.fin ?_))))))))
   have hR := Option.some.inj hR; subst hR
   exact Weak.turnL [(0, 0), (4, 0)] [] rfl rfl (tc (.sc _) (tc (trP' rfl rfl rfl rfl) (tc (trP' rfl rfl rfl rfl) (tc (.sc _) tn)))) (mc rfl (.box rfl .z3 rfl) (mc rfl (.box rfl .z3 rfl) mn))
  ·refine pu (v := .sc _) (wtG rfl rfl rfl h3) rfl (fun _ => rfl) (pu (v := .sc _) (wtG rfl rfl rfl h3) rfl (fun _ => rfl) (pkF (v := bV (decide (unit < 1))) rfl rfl h3 rfl (pS rfl (brR hR (fun h4 hR => ?_) fun h4 hR => ?_))))
   ·refine sk (skW rfl rfl rfl h4) (sk (skW rfl rfl rfl h4) (sk (skW rfl rfl rfl h4) (pkT (v := bV true) rfl rfl h4 rfl (RunC.fin ?_))))
    have hR := Option.some.inj hR; subst hR
    exact Weak.turnL [(0, 0), (4, 0)] [] rfl rfl (tc (.sc _) (tc (trP' rfl rfl rfl rfl) (tc (trP' rfl rfl rfl rfl) (tc (.sc _) tn)))) (mc rfl (.box rfl .z3 rfl) (mc rfl (.box rfl .z3 rfl) mn))
   ·refine fa (wtG rfl rfl rfl h4) rfl ti33 rfl rfl ti31 rfl (ldB (v := .sc _) (wtG rfl rfl rfl h4) rfl rfl rfl ti31 rfl rfl (pu (v := .sc _) (wtG rfl rfl rfl h4) rfl (fun _ => rfl) (pkF (v := bV (decide (a.Hi < 0))) rfl rfl h4 rfl (RunC.fin ?_))))
    have hR := Option.some.inj hR; subst hR
    exact Weak.turnL [(0, 0), (4, 0)] [] rfl rfl (tc (.sc _) (tc (trP' rfl rfl rfl rfl) (tc (trP' rfl rfl rfl rfl) (tc (.sc _) tn)))) (mc rfl (.box rfl .z3 rfl) (mc rfl (.box rfl .z3 rfl) mn))
 ·refine AWP.cd hR rfl (fun h5 hR => ?_) fun h5 hR => ?_
  ·refine AWP.sq (AWP.rgC 10 rfl rfl ?_)
   obtain ⟨r6, hr6, hR⟩ := bindE hR
   refine cls [] rfl rfl cb50 (ok50 _ hr6) (.nil) (.inr rfl) rfl (stB (cs' := [iV r6.Lo, iV r6.Hi, bV r6.Unknown]) rfl rfl rfl rfl ti33 rfl rfl rfl rfl rfl (RunC.fin (AWP.ret (rtT ?_))))
   have hR := Option.some.inj hR; subst hR
   exact hQ _ _ (LS.mk [(4, .ptr 0 0 0)] (lblks 0 [boxB (α := Bound) true r6]) 1) (aggV (α := Bound) true r6) [] (.inr rfl) (Weak.turnL [(1, 0)] [] rfl rfl (tc (trP' rfl rfl rfl rfl) tn) (mc rfl (.box rfl .z3 rfl) mn)) (ro1 (rvC (v := aggV (α := Bound) true r6) rfl rfl ti33 rfl)) rfl rfl ldA pn
  ·refine AWP.skip (skT (AWP.sq (AWP.rgD 46 [0, 1, 3, 0, 15, 0, 32, 0, 255, 511, 1023] ⟨[], [none, some [0], none, none, none, none, some [0], none, none, none, none]⟩ hmix (by kernel_rfl) rfl rfl ?_)))
   refine fa rfl rfl ti33 rfl rfl ti31 rfl (ldB (v := .sc _) rfl rfl rfl rfl ti31 rfl rfl (pS rfl (pS rfl ?_)))
   obtain ⟨r7, hr7, hR⟩ := bindE hR
   refine cls [] rfl rfl cb51 (ok51 (mx2 a.Lo 0) unit _ hr7) .z2 (.inr rfl) rfl (fa rfl rfl ti33 rfl rfl ti31 rfl (ldB (v := .sc _) rfl rfl rfl rfl ti31 rfl rfl (pS rfl ?_)))
   obtain ⟨r8, hr8, hR⟩ := bindE hR
   refine cls [] rfl rfl cb51 (ok51 a.Hi unit _ hr8) .z2 (.inr rfl) rfl (pS rfl (pS rfl (RunC.fin (AWP.sq (AWP.sq (AWP.rgD 82 [0, 0, 3, 0, 8, 0, 63, 127, 255] ⟨[], [none, none, none, none, some [0], none, none, none, none]⟩ hmix (by kernel_rfl) rfl rfl ?_))))))
   refine pS rfl (pS rfl ?_)
   obtain ⟨r9, hr9, hR⟩ := bindE hR
   refine cls [] rfl rfl cb52 (ok52 r8 r8 _ hr9) .z2 (.inr rfl) rfl (fa rfl rfl ti33 rfl rfl ti31 rfl (ldB (v := .sc _) rfl rfl rfl rfl ti31 rfl rfl (pS rfl ?_)))
   obtain ⟨r10, hr10, hR⟩ := bindE hR
   refine cls [] rfl rfl cb52 (ok52 a.Hi unit _ hr10) .z2 (.inr rfl) rfl ?_
   obtain ⟨r11, hr11, hR⟩ := bindE hR
   refine cls [] rfl rfl cb53 (ok53 r9 r10 _ hr11) (.cons (.agg .z2 rfl) (.cons (.agg .z2 rfl) (.nil))) (.inr rfl) rfl (pS rfl (RunC.fin (AWP.cd hR rfl (fun h12 hR => ?_) fun h12 hR => ?_)))
   ·refine AWP.rgC 94 rfl rfl (pS rfl (pS rfl (pS rfl (RunC.fin (AWP.sq (AWP.rgC 110 rfl rfl (pS rfl (pS rfl ?_))))))))
    obtain ⟨r13, hr13, hR⟩ := bindE hR
    refine cls [] rfl rfl cb54 (ok54 r7 (w6 (r8 + 1)) _ hr13) .z2 (.inr rfl) rfl (stB (cs' := [iV r13.Lo, iV r13.Hi, bV r13.Unknown]) rfl rfl rfl rfl ti33 rfl rfl rfl rfl rfl (RunC.fin (AWP.ret ?_)))
    have hR := Option.some.inj hR; subst hR
    exact hQ _ _ (LS.mk [(4, .ptr 0 0 0)] (lblks 0 [boxB (α := Bound) true r13]) 1) (aggV (α := Bound) true r13) [] (.inr rfl) (Weak.turnL [(1, 0)] [] rfl rfl (tc (trP' rfl rfl rfl rfl) tn) (mc rfl (.box rfl .z3 rfl) mn)) (ro1 (rvC (v := aggV (α := Bound) true r13) rfl rfl ti33 rfl)) rfl rfl ldA pn
   ·refine AWP.skip (skT (AWP.sq (AWP.rgC 98 rfl rfl (pS rfl (pS rfl ?_)))))
    obtain ⟨r14, hr14, hR⟩ := bindE hR
    refine cls [] rfl rfl cb54 (ok54 r7 r8 _ hr14) .z2 (.inr rfl) rfl (stB (cs' := [iV r14.Lo, iV r14.Hi, bV r14.Unknown]) rfl rfl rfl rfl ti33 rfl rfl rfl rfl rfl (RunC.fin (AWP.ret ?_)))
    have hR := Option.some.inj hR; subst hR
    exact hQ _ _ (LS.mk [(4, .ptr 0 0 0)] (lblks 0 [boxB (α := Bound) true r14]) 1) (aggV (α := Bound) true r14) [] (.inr rfl) (Weak.turnL [(1, 0)] [] rfl rfl (tc (trP' rfl rfl rfl rfl) tn) (mc rfl (.box rfl .z3 rfl) mn)) (ro1 (rvC (v := aggV (α := Bound) true r14) rfl rfl ti33 rfl)) rfl rfl ldA pn
theorem ok58 (x : Int) (y : Int) (p2 : Int) (r : Int × Int) (hR : bound_Div_1 x y p2 = some r) : FnP Try.prog 58 [.sc (.int .i64 x), .sc (.int .i64 y), .rp (Cl.c false p2)] (.tup [.sc (.int .i64 r.1), .sc (.int .i64 r.2)]) := by
 refine fnP_of (FnX.walk Try.func58 rfl 13 0 (by simp [Try.ntmps58]) rfl fun W S F Q hQ => ?_)
 unfold bound_Div_1 at hR
 refine AWP.sq (AWP.rgC 8 rfl rfl (pS rfl (pS rfl (RunC.fin (AWP.sq (AWP.rgC 40 rfl rfl (pS rfl (ldR (v := .sc _) rfl rfl ti2 rfl ?_))))))))
 refine pS rfl ?_
 obtain ⟨r1, hr1, hR⟩ := bindE hR
 refine cls [] rfl rfl cb47 (ok47 x p2 y _ hr1) .z3 (.inr rfl) rfl (pS rfl (pS rfl (pS rfl (pS rfl (RunC.fin (AWP.ret ?_))))))
 have hR := Option.some.inj hR; subst hR
 exact hQ _ _ (LS.mk [(5, iV r1.1), (6, iV r1.2)] (lblks 0 []) 0) (.tup [iV r1.1, iV r1.2]) [] (.inr rfl) (Weak.turnL [] [] rfl rfl (tc (.sc _) (tc (.sc _) tn)) mn) (ro2 (rvT (v := iV r1.1) rfl) (rvT (v := iV r1.2) rfl)) rfl rfl (.tup .z2) pn
theorem ok59 (x : Int) (y : Int) (p2 : Int) (r : Int × Int) (hR : bound_Div_2 x y p2 = some r) : FnP Try.prog 59 [.sc (.int .i64 x), .sc (.int .i64 y), .rp (Cl.c false p2)] (.tup [.sc (.int .i64 r.1), .sc (.int .i64 r.2)]) := by
 refine fnP_of (FnX.walk Try.func59 rfl 13 0 (by simp [Try.ntmps59]) rfl fun W S F Q hQ => ?_)
 unfold bound_Div_2 at hR
 refine AWP.sq (AWP.rgC 8 rfl rfl (pS rfl (pS rfl (RunC.fin (AWP.sq (AWP.rgC 40 rfl rfl (pS rfl (ldR (v := .sc _) rfl rfl ti2 rfl ?_))))))))
 refine pS rfl ?_
 obtain ⟨r1, hr1, hR⟩ := bindE hR
 refine cls [] rfl rfl cb60 (ok60 x p2 y _ hr1) .z3 (.inr rfl) rfl (pS rfl (pS rfl (pS rfl (pS rfl (RunC.fin (AWP.ret ?_))))))
 have hR := Option.some.inj hR; subst hR
 exact hQ _ _ (LS.mk [(5, iV r1.1), (6, iV r1.2)] (lblks 0 []) 0) (.tup [iV r1.1, iV r1.2]) [] (.inr rfl) (Weak.turnL [] [] rfl rfl (tc (.sc _) (tc (.sc _) tn)) mn) (ro2 (rvT (v := iV r1.1) rfl) (rvT (v := iV r1.2) rfl)) rfl rfl (.tup .z2) pn
theorem ok57_62 (a : Bound) (b : Bound) (down_c0 : Int) (up_c0 : Int) (r : Bound) (hR : bound_corners_bound_Div_1 a b down_c0 up_c0 = some r) : FnP Try.prog 57 [aggV false a, aggV false b, .fn (.func 58) [.rp (Cl.c false down_c0)], .fn (.func 59) [.rp (Cl.c false up_c0)]] (aggV (α := Bound) true r) := by
 refine fnP_of (FnX.walk Try.func57 rfl 71 0 (by simp [Try.ntmps57]) rfl fun W S F Q hQ => ?_)
 unfold bound_corners_bound_Div_1 at hR
 refine AWP.sq (AWP.rgC 12 rfl rfl (bx (cs := _) 0 rfl rfl rfl (bx (cs := _) 4 rfl rfl rfl (al (cs := [iV 0, iV 0, bV false]) 8 rfl rfl ti33 rfl rfl (RunC.fin (AWP.sq (AWP.rgC 16 rfl rfl (pS rfl (RunC.fin (AWP.sq (AWP.sq (AWP.rgC 44 rfl rfl (fa rfl rfl ti33 rfl rfl ti31 rfl (ldB (v := .sc _) rfl rfl rfl rfl ti31 rfl rfl (fa rfl rfl ti33 rfl rfl ti31 rfl (ldB (v := .sc _) rfl rfl rfl rfl ti31 rfl rfl ?_))))))))))))))))
 refine bs (α := Int) 32 true ([a.Lo, a.Hi] : List Int) rfl rfl ti137 rfl ti31 rfl rfl rfl rfl rfl ?_
 refine lenS (α := Int) rfl rfl ti137 rfl ?_
 refine pS rfl (RunC.fin (AWP.nilT Int 9 31 rfl ?_))
 refine AWP.loopK' (fun s1 : (List Int) × Int => LS.mk [(2, .fn (.func 58) [.rp (Cl.c false (down_c0 : Int))]), (3, .fn (.func 59) [.rp (Cl.c false (up_c0 : Int))]), (5, .ptr 0 0 0), (8, .ptr 1 0 0), (9, slV Int 2 0 0 s1.1.length), (22, slV Int 3 0 0 ([a.Lo, a.Hi] : List Int).length), (23, iV (([a.Lo, a.Hi] : List Int).length : Int)), (24, iV s1.2)] (lblks 0 [boxB (α := Bound) true b, boxB (α := Bound) true (Bound.mk 0 0 false), arrB (α := Int) 31 0 true s1.1, arrB (α := Int) 31 0 true ([a.Lo, a.Hi] : List Int)]) 4) (fun z2 : (List Int) => LS.mk [(8, .ptr 0 0 0), (9, slV Int 1 0 0 z2.length)] (lblks 0 [boxB (α := Bound) true (Bound.mk 0 0 false), arrB (α := Int) 31 0 true z2]) 2) (bound_corners_bound_Div_1.l1 a b down_c0 up_c0) hR (s0 := (([] : List Int), 0)) (Weak.turnL [(4, 0), (8, 0), (44, 0), (32, 0)] [] rfl rfl (tc (.fn (.cons (.rp (Cl.tr _ _ _ _ id) (Cl.leaf _ _)) (.nil))) (tc (.fn (.cons (.rp (Cl.tr _ _ _ _ id) (Cl.leaf _ _)) (.nil))) (tc (trP' rfl rfl rfl rfl) (tc (trP' rfl rfl rfl rfl) (tc (trS' rfl rfl rfl rfl rfl) (tc (trS' rfl rfl rfl rfl rfl) (tc (.sc _) (tc (.sc _) tn)))))))) (mc rfl (.box rfl .z3 rfl) (mc rfl (.box rfl .z3 rfl) (mc rfl (btrA' rfl) (mc rfl (btrA' rfl) mn))))) (fun s1 o1 hR hE1 => ?_) fun z2 hR => ?_
 ·unfold bound_corners_bound_Div_1.l1 at hR
  refine AWP.sq (AWP.rgC 8 rfl rfl (pS rfl (RunC.fin (AWP.sq (AWP.cd hR rfl (fun h3 hR => ?_) fun h3 hR => ?_)))))
  ·refine AWP.skip (skT (AWP.sq (AWP.block (AWP.sq (AWP.rgC 20 rfl rfl ?_)))))
   obtain ⟨h4, hR⟩ := chkE hR
   refine ixS0 (α := Int) rfl rfl rfl ti137 rfl ti31 rfl h4 ?_
   refine ldE (α := Int) (v := .sc _) rfl rfl rfl (ixlt h4) ti31 rfl rfl rfl rfl ?_
   refine pS rfl (RunC.fin (AWP.sq (AWP.rgC 48 rfl rfl (fa rfl rfl ti33 rfl rfl ti31 rfl (ldB (v := .sc _) rfl rfl rfl rfl ti31 rfl rfl (fa rfl rfl ti33 rfl rfl ti31 rfl (ldB (v := .sc _) rfl rfl rfl rfl ti31 rfl rfl (bs (α := Int) 36 true ([b.Lo, b.Hi] : List Int) rfl rfl ti137 rfl ti31 rfl rfl rfl rfl rfl ?_))))))))
   refine lenS (α := Int) rfl rfl ti137 rfl ?_
   refine pS rfl (RunC.fin (AWP.loopK' (fun s5 : (List Int) × Int => LS.mk [(2, .fn (.func 58) [.rp (Cl.c false (down_c0 : Int))]), (3, .fn (.func 59) [.rp (Cl.c false (up_c0 : Int))]), (5, .ptr 0 0 0), (8, .ptr 1 0 0), (9, slV Int 2 0 0 s5.1.length), (11, iV (gt ([a.Lo, a.Hi] : List Int) s1.2)), (22, slV Int 3 0 0 ([a.Lo, a.Hi] : List Int).length), (23, iV (([a.Lo, a.Hi] : List Int).length : Int)), (24, iV s1.2), (32, slV Int 4 0 0 ([b.Lo, b.Hi] : List Int).length), (33, iV (([b.Lo, b.Hi] : List Int).length : Int)), (34, iV s5.2)] (lblks 0 [boxB (α := Bound) true b, boxB (α := Bound) true (Bound.mk 0 0 false), arrB (α := Int) 31 0 true s5.1, arrB (α := Int) 31 0 true ([a.Lo, a.Hi] : List Int), arrB (α := Int) 31 0 true ([b.Lo, b.Hi] : List Int)]) 5) (fun z6 : (List Int) => LS.mk [(2, .fn (.func 58) [.rp (Cl.c false (down_c0 : Int))]), (3, .fn (.func 59) [.rp (Cl.c false (up_c0 : Int))]), (5, .ptr 0 0 0), (8, .ptr 1 0 0), (9, slV Int 2 0 0 z6.length), (22, slV Int 3 0 0 ([a.Lo, a.Hi] : List Int).length), (23, iV (([a.Lo, a.Hi] : List Int).length : Int)), (24, iV s1.2)] (lblks 0 [boxB (α := Bound) true b, boxB (α := Bound) true (Bound.mk 0 0 false), arrB (α := Int) 31 0 true z6, arrB (α := Int) 31 0 true ([a.Lo, a.Hi] : List Int)]) 4) (bound_corners_bound_Div_1.l2 a b down_c0 up_c0 s1) hR (s0 := (s1.1, 0)) (Weak.turnL [(0, 0), (1, 0), (2, 0), (3, 0), (36, 0)] [] rfl rfl (tc (.fn (.cons (.rp (Cl.tr _ _ _ _ id) (Cl.leaf _ _)) (.nil))) (tc (.fn (.cons (.rp (Cl.tr _ _ _ _ id) (Cl.leaf _ _)) (.nil))) (tc (trP' rfl rfl rfl rfl) (tc (trP' rfl rfl rfl rfl) (tc (trS' rfl rfl rfl rfl rfl) (tc (.sc _) (tc (trS' rfl rfl rfl rfl rfl) (tc (.sc _) (tc (.sc _) (tc (trS' rfl rfl rfl rfl rfl) (tc (.sc _) (tc (.sc _) tn)))))))))))) (mc rfl (.box rfl .z3 rfl) (mc rfl (.box rfl .z3 rfl) (mc rfl (btrA' rfl) (mc rfl (btrA' rfl) (mc rfl (btrA' rfl) mn)))))) (fun s5 o5 hR hE5 => ?_) fun z6 hR => ?_))
   ·unfold bound_corners_bound_Div_1.l2 at hR
    refine AWP.sq (AWP.rgC 9 rfl rfl (pS rfl (RunC.fin (AWP.sq (AWP.cd hR rfl (fun h7 hR => ?_) fun h7 hR => ?_)))))
    ·refine AWP.skip (skT (AWP.sq (AWP.block (AWP.sq (AWP.rgC 21 rfl rfl ?_)))))
     obtain ⟨h8, hR⟩ := chkE hR
     refine ixS0 (α := Int) rfl rfl rfl ti137 rfl ti31 rfl h8 ?_
     refine ldE (α := Int) (v := .sc _) rfl rfl rfl (ixlt h8) ti31 rfl rfl rfl rfl ?_
     refine pS rfl (RunC.fin (AWP.sq (AWP.rgC 57 rfl rfl (pu (v := .fn _ _) rfl rfl (fun _ => rfl) (pS rfl (pS rfl ?_))))))
     obtain ⟨r9, hr9, hR⟩ := bindE hR
     refine cls [] rfl rfl cb58 (ok58 (gt ([a.Lo, a.Hi] : List Int) s1.2) (gt ([b.Lo, b.Hi] : List Int) s5.2) down_c0 _ hr9) (.c2 (.cons (.rp (Cl.ld _ _ _) (Cl.leaf _ _)) (.nil))) (.inr rfl) rfl (pu (v := .tup _) rfl rfl (fun _ => rfl) (pS rfl (pS rfl (pS rfl (pS rfl (RunC.fin (AWP.sq (AWP.rgC 93 rfl rfl (pu (v := .fn _ _) rfl rfl (fun _ => rfl) (pS rfl (pS rfl ?_)))))))))))
     obtain ⟨r10, hr10, hR⟩ := bindE hR
     refine cls [] rfl rfl cb59 (ok59 (gt ([a.Lo, a.Hi] : List Int) s1.2) (gt ([b.Lo, b.Hi] : List Int) s5.2) up_c0 _ hr10) (.c2 (.cons (.rp (Cl.ld _ _ _) (Cl.leaf _ _)) (.nil))) (.inr rfl) rfl (pu (v := .tup _) rfl rfl (fun _ => rfl) (pS rfl (pS rfl (pS rfl (pS rfl (RunC.fin (AWP.sq (AWP.joinX (fun z11 : Bool => LS.mk [(2, .fn (.func 58) [.rp (Cl.c false (down_c0 : Int))]), (3, .fn (.func 59) [.rp (Cl.c false (up_c0 : Int))]), (5, .ptr 0 0 0), (8, .ptr 1 0 0), (9, slV Int 2 0 0 s5.1.length), (11, iV (gt ([a.Lo, a.Hi] : List Int) s1.2)), (14, iV r9.1), (16, iV r10.1), (22, slV Int 3 0 0 ([a.Lo, a.Hi] : List Int).length), (23, iV (([a.Lo, a.Hi] : List Int).length : Int)), (24, iV s1.2), (32, slV Int 4 0 0 ([b.Lo, b.Hi] : List Int).length), (33, iV (([b.Lo, b.Hi] : List Int).length : Int)), (34, iV s5.2), (57, bV z11)] (lblks 0 [boxB (α := Bound) true b, boxB (α := Bound) true (Bound.mk 0 0 false), arrB (α := Int) 31 0 true s5.1, arrB (α := Int) 31 0 true ([a.Lo, a.Hi] : List Int), arrB (α := Int) 31 0 true ([b.Lo, b.Hi] : List Int)]) 5) hR (fun o11 hR => ?_) fun z11 hR => ?_))))))))
     ·refine AWP.rgC 117 rfl rfl (pS rfl (pS rfl (pS rfl (brR hR (fun h12 hR => ?_) fun h12 hR => ?_))))
      ·refine sk (skW rfl rfl rfl h12) (sk (skW rfl rfl rfl h12) (pkT (v := bV true) rfl rfl h12 rfl (RunC.fin ?_)))
       have hR := Option.some.inj hR; subst hR
       exact Weak.turnL [(0, 0), (1, 0), (2, 0), (3, 0), (4, 0)] [] rfl rfl (tc (.fn (.cons (.rp (Cl.tr _ _ _ _ id) (Cl.leaf _ _)) (.nil))) (tc (.fn (.cons (.rp (Cl.tr _ _ _ _ id) (Cl.leaf _ _)) (.nil))) (tc (trP' rfl rfl rfl rfl) (tc (trP' rfl rfl rfl rfl) (tc (trS' rfl rfl rfl rfl rfl) (tc (.sc _) (tc (.sc _) (tc (.sc _) (tc (trS' rfl rfl rfl rfl rfl) (tc (.sc _) (tc (.sc _) (tc (trS' rfl rfl rfl rfl rfl) (tc (.sc _) (tc (.sc _) (tc (.sc _) tn))))))))))))))) (mc rfl (.box rfl .z3 rfl) (mc rfl (.box rfl .z3 rfl) (mc rfl (btrA' rfl) (mc rfl (btrA' rfl) (mc rfl (btrA' rfl) mn)))))
      ·refine pu (v := .sc _) (wtG rfl rfl rfl h12) rfl (fun _ => rfl) (pu (v := .sc _) (wtG rfl rfl rfl h12) rfl (fun _ => rfl) (pkF (v := bV (r10.2 != 0)) rfl rfl h12 rfl (RunC.fin ?_)))
       have hR := Option.some.inj hR; subst hR
       exact Weak.turnL [(0, 0), (1, 0), (2, 0), (3, 0), (4, 0)] [] rfl rfl (tc (.fn (.cons (.rp (Cl.tr _ _ _ _ id) (Cl.leaf _ _)) (.nil))) (tc (.fn (.cons (.rp (Cl.tr _ _ _ _ id) (Cl.leaf _ _)) (.nil))) (tc (trP' rfl rfl rfl rfl) (tc (trP' rfl rfl rfl rfl) (tc (trS' rfl rfl rfl rfl rfl) (tc (.sc _) (tc (.sc _) (tc (.sc _) (tc (trS' rfl rfl rfl rfl rfl) (tc (.sc _) (tc (.sc _) (tc (trS' rfl rfl rfl rfl rfl) (tc (.sc _) (tc (.sc _) (tc (.sc _) tn))))))))))))))) (mc rfl (.box rfl .z3 rfl) (mc rfl (.box rfl .z3 rfl) (mc rfl (btrA' rfl) (mc rfl (btrA' rfl) (mc rfl (btrA' rfl) mn)))))
     ·refine AWP.cd hR rfl (fun h13 hR => ?_) fun h13 hR => ?_
      ·refine AWP.sq (AWP.rgC 13 rfl rfl ?_)
       obtain ⟨r14, hr14, hR⟩ := bindE hR
       refine cls [] rfl rfl cb50 (ok50 _ hr14) (.nil) (.inr rfl) rfl (stB (cs' := [iV r14.Lo, iV r14.Hi, bV r14.Unknown]) rfl rfl rfl rfl ti33 rfl rfl rfl rfl rfl (RunC.fin (AWP.ret (rtT (rtB (rtT (rtT (rtB (rtT ?_)))))))))
       replace hR := escL hR hE5
       refine rtB (rtT (rtT (rtB (rtT ?_))))
       replace hR := escL hR hE1
       refine rtT ?_
       have hR := Option.some.inj hR; subst hR
       exact hQ _ _ (LS.mk [(8, .ptr 0 0 0)] (lblks 0 [boxB (α := Bound) true r14]) 1) (aggV (α := Bound) true r14) [] (.inr rfl) (Weak.turnL [(1, 0)] [] rfl rfl (tc (trP' rfl rfl rfl rfl) tn) (mc rfl (.box rfl .z3 rfl) mn)) (ro1 (rvC (v := aggV (α := Bound) true r14) rfl rfl ti33 rfl)) rfl rfl ldA pn
      ·refine AWP.skip (skT (AWP.rgC 29 rfl rfl (pu (v := slV Int _ _ _ _) rfl rfl (fun _ => rfl) (pS rfl (pS rfl (bs (α := Int) 17 true ([r9.1, r10.1] : List Int) rfl rfl ti137 rfl ti31 rfl rfl rfl rfl rfl ?_))))))
       obtain ⟨h15, hR⟩ := chkE hR
       refine ap' (α := Int) (nw := true) (xs := s5.1) (ys := ([r9.1, r10.1] : List Int)) rfl rfl rfl rfl (srcS' rfl rfl rfl) ti137 rfl ti31 rfl h15 rfl ?_
       refine pu (v := slV Int _ _ _ _) rfl rfl (fun _ => rfl) (RunC.blk (RunC.fin (AWP.rgC 37 rfl rfl (pS rfl (pS rfl (RunC.fin (⟨(s5.1 ++ ([r9.1, r10.1] : List Int), w6 (s5.2 + 1)), (Option.some.inj hR).symm, ?_⟩)))))))
       exact Weak.turnL [(0, 0), (1, 0), (2, 0), (3, 0), (4, 0)] [] rfl rfl (tc (.fn (.cons (.rp (Cl.tr _ _ _ _ id) (Cl.leaf _ _)) (.nil))) (tc (.fn (.cons (.rp (Cl.tr _ _ _ _ id) (Cl.leaf _ _)) (.nil))) (tc (trP' rfl rfl rfl rfl) (tc (trP' rfl rfl rfl rfl) (tc (trS' rfl rfl rfl rfl rfl) (tc (.sc _) (tc (trS' rfl rfl rfl rfl rfl) (tc (.sc _) (tc (.sc _) (tc (trS' rfl rfl rfl rfl rfl) (tc (.sc _) (tc (.sc _) tn)))))))))))) (mc rfl (.box rfl .z3 rfl) (mc rfl (.box rfl .z3 rfl) (mc rfl (btrA' rfl) (mc rfl (btrA' rfl) (mc rfl (btrA' rfl) mn)))))
    ·refine AWP.exit (exT (exT (exH (skT (⟨s5.1, (Option.some.inj hR).symm, ?_⟩)))))
     exact Weak.turnL [(0, 0), (1, 0), (2, 0), (3, 0)] [] rfl rfl (tc (.fn (.cons (.rp (Cl.tr _ _ _ _ id) (Cl.leaf _ _)) (.nil))) (tc (.fn (.cons (.rp (Cl.tr _ _ _ _ id) (Cl.leaf _ _)) (.nil))) (tc (trP' rfl rfl rfl rfl) (tc (trP' rfl rfl rfl rfl) (tc (trS' rfl rfl rfl rfl rfl) (tc (trS' rfl rfl rfl rfl rfl) (tc (.sc _) (tc (.sc _) tn)))))))) (mc rfl (.box rfl .z3 rfl) (mc rfl (.box rfl .z3 rfl) (mc rfl (btrA' rfl) (mc rfl (btrA' rfl) mn))))
   ·refine skB ?_
    refine skT (AWP.rgC 12 rfl rfl (pS rfl (pS rfl (RunC.fin (⟨(z6, w6 (s1.2 + 1)), (Option.some.inj hR).symm, ?_⟩)))))
    exact Weak.turnL [(0, 0), (1, 0), (2, 0), (3, 0)] [] rfl rfl (tc (.fn (.cons (.rp (Cl.tr _ _ _ _ id) (Cl.leaf _ _)) (.nil))) (tc (.fn (.cons (.rp (Cl.tr _ _ _ _ id) (Cl.leaf _ _)) (.nil))) (tc (trP' rfl rfl rfl rfl) (tc (trP' rfl rfl rfl rfl) (tc (trS' rfl rfl rfl rfl rfl) (tc (trS' rfl rfl rfl rfl rfl) (tc (.sc _) (tc (.sc _) tn)))))))) (mc rfl (.box rfl .z3 rfl) (mc rfl (.box rfl .z3 rfl) (mc rfl (btrA' rfl) (mc rfl (btrA' rfl) mn))))
  ·refine AWP.exit (exT (exT (exH (skT (⟨s1.1, (Option.some.inj hR).symm, ?_⟩)))))
   exact Weak.turnL [(1, 0), (2, 0)] [] rfl rfl (tc (trP' rfl rfl rfl rfl) (tc (trS' rfl rfl rfl rfl rfl) tn)) (mc rfl (.box rfl .z3 rfl) (mc rfl (btrA' rfl) mn))
 ·refine skT (AWP.sq (AWP.rgC 26 rfl rfl (pu (v := slV Int _ _ _ _) rfl rfl (fun _ => rfl) ?_)))
  obtain ⟨r16, hr16, hR⟩ := bindE hR
  refine cls [1] rfl rfl cb85 (ok85 z2 _ hr16) (.cons (ldS' rfl rfl rfl rfl) (.nil)) (.inl (by first | rfl | exact freshR | exact freshA | (simp only [V.fresh, V.freshs, freshR, freshA, Bool.and_self]))) rfl (pu (v := slV Int _ _ _ _) rfl rfl (fun _ => rfl) ?_)
  obtain ⟨r17, hr17, hR⟩ := bindE hR
  refine cls [1] rfl rfl cb86 (ok86 z2 _ hr17) (.cons (ldS' rfl rfl rfl rfl) (.nil)) (.inl (by first | rfl | exact freshR | exact freshA | (simp only [V.fresh, V.freshs, freshR, freshA, Bool.and_self]))) rfl ?_
  obtain ⟨r18, hr18, hR⟩ := bindE hR
  refine cls [] rfl rfl cb54 (ok54 r16 r17 _ hr18) .z2 (.inr rfl) rfl (stB (cs' := [iV r18.Lo, iV r18.Hi, bV r18.Unknown]) rfl rfl rfl rfl ti33 rfl rfl rfl rfl rfl (RunC.fin (AWP.ret ?_)))
  have hR := Option.some.inj hR; subst hR
  exact hQ _ _ (LS.mk [(8, .ptr 0 0 0)] (lblks 0 [boxB (α := Bound) true r18]) 1) (aggV (α := Bound) true r18) [] (.inr rfl) (Weak.turnL [(0, 0)] [] rfl rfl (tc (trP' rfl rfl rfl rfl) tn) (mc rfl (.box rfl .z3 rfl) mn)) (ro1 (rvC (v := aggV (α := Bound) true r18) rfl rfl ti33 rfl)) rfl rfl ldA pn
theorem ok32 (a : Bound) (b : Bound) (unit : Int) (r : Bound) (hR : bound_Div a b unit = some r) : FnP Try.prog 32 [aggV false a, aggV false b, .sc (.int .i64 unit)] (aggV (α := Bound) true r) := by
 refine fnP_of (FnX.walk Try.func32 rfl 37 0 (by simp [Try.ntmps32]) rfl fun W S F Q hQ => ?_)
 unfold bound_Div at hR
 refine AWP.sq (AWP.rgC 16 rfl rfl (bx (cs := _) 0 rfl rfl rfl (bx (cs := _) 4 rfl rfl rfl (bx (cs := [iV unit]) 8 rfl rfl rfl (al (cs := [iV 0, iV 0, bV false]) 12 rfl rfl ti33 rfl rfl (RunC.fin (AWP.sq (AWP.joinX (fun z1 : Bool => LS.mk [(3, .ptr 0 0 0), (4, .ptr 1 0 0), (5, .ptr 2 0 0), (6, .ptr 3 0 0), (23, bV z1)] (lblks 0 [boxB (α := Bound) true a, boxB (α := Bound) true b, boxB (α := Int) true unit, boxB (α := Bound) true (Bound.mk 0 0 false)]) 4) hR (fun o1 hR => ?_) fun z1 hR => ?_))))))))
 ·refine AWP.rgC 84 rfl rfl (ldB (v := .agg _) rfl rfl rfl rfl ti33 rfl rfl (ldB (v := .agg _) rfl rfl rfl rfl ti33 rfl rfl ?_))
  obtain ⟨r2, hr2, hR⟩ := bindE hR
  refine cls [] rfl rfl cb49 (ok49 a b _ hr2) (.cons (.agg .z3 rfl) (.cons (.agg .z3 rfl) (.nil))) (.inr rfl) rfl (pS rfl (brR hR (fun h3 hR => ?_) fun h3 hR => ?_))
  ·refine sk (skW rfl rfl rfl h3) (sk (skW rfl rfl rfl h3) (pkT (v := bV true) rfl rfl h3 rfl (pS rfl (sk (skW rfl rfl rfl rfl) (sk (skW rfl rfl rfl rfl) (sk (skW rfl rfl rfl rfl) (sk (skW rfl rfl rfl rfl) (sk (skW2 rfl rfl rfl) (sk (skW2 rfl rfl rfl) (sk (skW2 rfl rfl rfl) (sk (skW rfl rfl rfl rfl) (pkT (v := bV true) rfl rfl rfl rfl (RunC.fin ?_)))))))))))))
   have hR := Option.some.inj hR; subst hR
   exact Weak.turnL [(0, 0), (4, 0), (8, 0), (12, 0)] [] rfl rfl (tc (trP' rfl rfl rfl rfl) (tc (trP' rfl rfl rfl rfl) (tc (trP' rfl rfl rfl rfl) (tc (trP' rfl rfl rfl rfl) (tc (.sc _) tn))))) (mc rfl (.box rfl .z3 rfl) (mc rfl (.box rfl .z3 rfl) (mc rfl (.box rfl (.cons (.sc _) .nil) rfl) (mc rfl (.box rfl .z3 rfl) mn))))
  ·refine ldB (v := .sc _) (wtG rfl rfl rfl h3) rfl rfl rfl ti2 rfl rfl (pu (v := .sc _) (wtG rfl rfl rfl h3) rfl (fun _ => rfl) (pkF (v := bV (decide (unit < 1))) rfl rfl h3 rfl (pS rfl (brR hR (fun h4 hR => ?_) fun h4 hR => ?_))))
   ·refine sk (skW rfl rfl rfl h4) (sk (skW rfl rfl rfl h4) (sk (skW rfl rfl rfl h4) (sk (skW rfl rfl rfl h4) (sk (skW2 rfl rfl rfl) (sk (skW2 rfl rfl rfl) (sk (skW2 rfl rfl rfl) (sk (skW rfl rfl rfl h4) (pkT (v := bV true) rfl rfl h4 rfl (RunC.fin ?_)))))))))
    have hR := Option.some.inj hR; subst hR
    exact Weak.turnL [(0, 0), (4, 0), (8, 0), (12, 0)] [] rfl rfl (tc (trP' rfl rfl rfl rfl) (tc (trP' rfl rfl rfl rfl) (tc (trP' rfl rfl rfl rfl) (tc (trP' rfl rfl rfl rfl) (tc (.sc _) tn))))) (mc rfl (.box rfl .z3 rfl) (mc rfl (.box rfl .z3 rfl) (mc rfl (.box rfl (.cons (.sc _) .nil) rfl) (mc rfl (.box rfl .z3 rfl) mn))))
   ·refine fa (wtG rfl rfl rfl h4) rfl ti33 rfl rfl ti31 rfl (ldB (v := .sc _) (wtG rfl rfl rfl h4) rfl rfl rfl ti31 rfl rfl (pu (v := .sc _) (wtG rfl rfl rfl h4) rfl (fun _ => rfl) (pu (v := .sc _) (wtG rfl rfl rfl h4) rfl (fun _ => rfl) (brR hR (fun h5 hR => ?_) fun h5 hR => ?_))))
    ·refine fa (wtG rfl rfl rfl h5) rfl ti33 rfl rfl ti31 rfl (ldB (v := .sc _) (wtG rfl rfl rfl h5) rfl rfl rfl ti31 rfl rfl (pu (v := .sc _) (wtG rfl rfl rfl h5) rfl (fun _ => rfl) (pkT (v := bV (decide (b.Hi ≥ 0))) (wtG rfl rfl rfl h4) rfl h5 rfl (pkF (v := bV (decide (b.Hi ≥ 0))) rfl rfl h4 rfl (RunC.fin ?_)))))
     have hR := Option.some.inj hR; subst hR
     exact Weak.turnL [(0, 0), (4, 0), (8, 0), (12, 0)] [] rfl rfl (tc (trP' rfl rfl rfl rfl) (tc (trP' rfl rfl rfl rfl) (tc (trP' rfl rfl rfl rfl) (tc (trP' rfl rfl rfl rfl) (tc (.sc _) tn))))) (mc rfl (.box rfl .z3 rfl) (mc rfl (.box rfl .z3 rfl) (mc rfl (.box rfl (.cons (.sc _) .nil) rfl) (mc rfl (.box rfl .z3 rfl) mn))))
    ·refine sk (skW rfl rfl rfl h5) (sk (skW rfl rfl rfl h5) (sk (skW rfl rfl rfl h5) (pkF (v := bV false) (wtG rfl rfl rfl h4) rfl h5 rfl (pkF (v := bV false) rfl rfl h4 rfl (RunC.fin ?_)))))
     have hR := Option.some.inj hR; subst hR
     exact Weak.turnL [(0, 0), (4, 0), (8, 0), (12, 0)] [] rfl rfl (tc (trP' rfl rfl rfl rfl) (tc (trP' rfl rfl rfl rfl) (tc (trP' rfl rfl rfl rfl) (tc (trP' rfl rfl rfl rfl) (tc (.sc _) tn))))) (mc rfl (.box rfl .z3 rfl) (mc rfl (.box rfl .z3 rfl) (mc rfl (.box rfl (.cons (.sc _) .nil) rfl) (mc rfl (.box rfl .z3 rfl) mn))))
 ·refine AWP.cd hR rfl (fun h6 hR => ?_) fun h6 hR => ?_
  ·refine AWP.sq (AWP.rgC 12 rfl rfl ?_)
   obtain ⟨r7, hr7, hR⟩ := bindE hR
   refine cls [] rfl rfl cb50 (ok50 _ hr7) (.nil) (.inr rfl) rfl (stB (cs' := [iV r7.Lo, iV r7.Hi, bV r7.Unknown]) rfl rfl rfl rfl ti33 rfl rfl rfl rfl rfl (RunC.fin (AWP.ret (rtT ?_))))
   have hR := Option.some.inj hR; subst hR
   exact hQ _ _ (LS.mk [(6, .ptr 0 0 0)] (lblks 0 [boxB (α := Bound) true r7]) 1) (aggV (α := Bound) true r7) [] (.inr rfl) (Weak.turnL [(3, 0)] [] rfl rfl (tc (trP' rfl rfl rfl rfl) tn) (mc rfl (.box rfl .z3 rfl) mn)) (ro1 (rvC (v := aggV (α := Bound) true r7) rfl rfl ti33 rfl)) rfl rfl ldA pn
  ·refine AWP.skip (skT (AWP.sq (AWP.sq (AWP.rgC 16 rfl rfl (fa rfl rfl ti33 rfl rfl ti31 rfl (ldB (v := .sc _) rfl rfl rfl rfl ti31 rfl rfl (pS rfl (RunC.fin (AWP.cd hR rfl (fun h8 hR => ?_) fun h8 hR => ?_)))))))))
   ·refine AWP.rgD 40 [0, 1, 0, 7, 15, 31] ⟨[], [some [0], none, some [1], none, some [0], some [1]]⟩ hmix (by kernel_rfl) rfl rfl ?_
    refine ldB (v := .agg _) rfl rfl rfl rfl ti33 rfl rfl ?_
    obtain ⟨r9, hr9, hR⟩ := bindE hR
    refine cls [] rfl rfl cb56 (ok56 a _ hr9) (.cons (.agg .z3 rfl) (.nil)) (.inr rfl) rfl (ldB (v := .agg _) rfl rfl rfl rfl ti33 rfl rfl ?_)
    obtain ⟨r10, hr10, hR⟩ := bindE hR
    refine cls [] rfl rfl cb56 (ok56 b _ hr10) (.cons (.agg .z3 rfl) (.nil)) (.inr rfl) rfl (stB (cs' := [iV r9.Lo, iV r9.Hi, bV r9.Unknown]) rfl rfl rfl rfl ti33 rfl rfl rfl rfl rfl (stB (cs' := [iV r10.Lo, iV r10.Hi, bV r10.Unknown]) rfl rfl rfl rfl ti33 rfl rfl rfl rfl rfl (RunC.fin (AWP.sq (AWP.rgC 64 rfl rfl (ldB (v := .agg _) rfl rfl rfl rfl ti33 rfl rfl (ldB (v := .agg _) rfl rfl rfl rfl ti33 rfl rfl (pu (v := .fn _ _) rfl rfl (fun _ => rfl) (pu (v := .fn _ _) rfl rfl (fun _ => rfl) ?_)))))))))
    obtain ⟨r11, hr11, hR⟩ := bindE hR
    refine cls [2] rfl rfl cb57 (ok57_62 r9 r10 unit unit _ hr11) (.cons (.agg .z3 rfl) (.cons (.agg .z3 rfl) (.cons (.fn (.cons (ldX rfl rfl (.cons (.sc _) .nil) rfl) (.nil))) (.cons (.fn (.cons (ldX rfl rfl (.cons (.sc _) .nil) rfl) (.nil))) (.nil))))) (.inl (by first | rfl | exact freshR | exact freshA | (simp only [V.fresh, V.freshs, freshR, freshA, Bool.and_self]))) rfl (stB (cs' := [iV r11.Lo, iV r11.Hi, bV r11.Unknown]) rfl rfl rfl rfl ti33 rfl rfl rfl rfl rfl (RunC.fin (AWP.ret ?_)))
    have hR := Option.some.inj hR; subst hR
    exact hQ _ _ (LS.mk [(6, .ptr 0 0 0)] (lblks 0 [boxB (α := Bound) true r11]) 1) (aggV (α := Bound) true r11) [] (.inr rfl) (Weak.turnL [(3, 0)] [] rfl rfl (tc (trP' rfl rfl rfl rfl) tn) (mc rfl (.box rfl .z3 rfl) mn)) (ro1 (rvC (v := aggV (α := Bound) true r11) rfl rfl ti33 rfl)) rfl rfl ldA pn
   ·refine AWP.skip (skT (AWP.sq (AWP.rgC 40 rfl rfl (ldB (v := .agg _) rfl rfl rfl rfl ti33 rfl rfl (ldB (v := .agg _) rfl rfl rfl rfl ti33 rfl rfl (pu (v := .fn _ _) rfl rfl (fun _ => rfl) (pu (v := .fn _ _) rfl rfl (fun _ => rfl) ?_)))))))
    obtain ⟨r12, hr12, hR⟩ := bindE hR
    refine cls [2] rfl rfl cb57 (ok57_62 a b unit unit _ hr12) (.cons (.agg .z3 rfl) (.cons (.agg .z3 rfl) (.cons (.fn (.cons (ldX rfl rfl (.cons (.sc _) .nil) rfl) (.nil))) (.cons (.fn (.cons (ldX rfl rfl (.cons (.sc _) .nil) rfl) (.nil))) (.nil))))) (.inl (by first | rfl | exact freshR | exact freshA | (simp only [V.fresh, V.freshs, freshR, freshA, Bool.and_self]))) rfl (stB (cs' := [iV r12.Lo, iV r12.Hi, bV r12.Unknown]) rfl rfl rfl rfl ti33 rfl rfl rfl rfl rfl (RunC.fin (AWP.ret ?_)))
    have hR := Option.some.inj hR; subst hR
    exact hQ _ _ (LS.mk [(6, .ptr 0 0 0)] (lblks 0 [boxB (α := Bound) true r12]) 1) (aggV (α := Bound) true r12) [] (.inr rfl) (Weak.turnL [(3, 0)] [] rfl rfl (tc (trP' rfl rfl rfl rfl) tn) (mc rfl (.box rfl .z3 rfl) mn)) (ro1 (rvC (v := aggV (α := Bound) true r12) rfl rfl ti33 rfl)) rfl rfl ldA pn
theorem ok33 (a : Bound) (b : Bound) (r : Bound × Bool) (hR : bound_Meet a b = some r) : FnP Try.prog 33 [aggV false a, aggV false b] (.tup [aggV (α := Bound) true r.1, .sc (.bool r.2)]) := by
 refine fnP_of (FnX.walk Try.func33 rfl 42 0 (by simp [Try.ntmps33]) rfl fun W S F Q hQ => ?_)
 unfold bound_Meet at hR
 refine AWP.sq (AWP.rgC 16 rfl rfl (bx (cs := _) 0 rfl rfl rfl (bx (cs := _) 4 rfl rfl rfl (al (cs := [iV 0, iV 0, bV false]) 8 rfl rfl ti33 rfl rfl (pS rfl (RunC.fin (AWP.sq (AWP.rgD 40 [0, 1, 0, 7, 15, 31] ⟨[], [some [0], none, some [4], none, some [0], some [4]]⟩ hmix (by kernel_rfl) rfl rfl ?_))))))))
 refine ldB (v := .agg _) rfl rfl rfl rfl ti33 rfl rfl ?_
 obtain ⟨r1, hr1, hR⟩ := bindE hR
 refine cls [] rfl rfl cb61 (ok61 a _ hr1) (.cons (.agg .z3 rfl) (.nil)) (.inr rfl) rfl (ldB (v := .agg _) rfl rfl rfl rfl ti33 rfl rfl ?_)
 obtain ⟨r2, hr2, hR⟩ := bindE hR
 refine cls [] rfl rfl cb61 (ok61 b _ hr2) (.cons (.agg .z3 rfl) (.nil)) (.inr rfl) rfl (stB (cs' := [iV r1.Lo, iV r1.Hi, bV r1.Unknown]) rfl rfl rfl rfl ti33 rfl rfl rfl rfl rfl (stB (cs' := [iV r2.Lo, iV r2.Hi, bV r2.Unknown]) rfl rfl rfl rfl ti33 rfl rfl rfl rfl rfl (RunC.fin (AWP.sq (AWP.block (AWP.sq (AWP.rgC 52 rfl rfl (fa rfl rfl ti33 rfl rfl ti4 rfl (ldB (v := .sc _) rfl rfl rfl rfl ti4 rfl rfl (pS rfl (RunC.fin (AWP.cd hR rfl (fun h3 hR => ?_) fun h3 hR => ?_))))))))))))
 ·refine AWP.sq (AWP.rgC 64 rfl rfl (ldB (v := .agg _) rfl rfl rfl rfl ti33 rfl rfl (stB (cs' := [iV r2.Lo, iV r2.Hi, bV r2.Unknown]) rfl rfl rfl rfl ti33 rfl rfl rfl rfl rfl (pS rfl (RunC.fin (AWP.ret (rtB (rtT ?_))))))))
  have hR := Option.some.inj hR; subst hR
  exact hQ _ _ (LS.mk [(4, .ptr 0 0 0), (5, bV true)] (lblks 0 [boxB (α := Bound) true r2]) 1) (.tup [aggV (α := Bound) true r2, bV true]) [] (.inr rfl) (Weak.turnL [(8, 0)] [] rfl rfl (tc (trP' rfl rfl rfl rfl) (tc (.sc _) tn)) (mc rfl (.box rfl .z3 rfl) mn)) (ro2 (rvC (v := aggV (α := Bound) true r2) rfl rfl ti33 rfl) (rvT (v := bV true) rfl)) rfl rfl (.tup (.cons ldA (.cons (.sc _) .nil))) pn
 ·refine AWP.sq (AWP.rgC 64 rfl rfl (fa rfl rfl ti33 rfl rfl ti4 rfl (ldB (v := .sc _) rfl rfl rfl rfl ti4 rfl rfl (pS rfl (RunC.fin (AWP.cd hR rfl (fun h4 hR => ?_) fun h4 hR => ?_))))))
  ·refine AWP.sq (AWP.rgC 76 rfl rfl (ldB (v := .agg _) rfl rfl rfl rfl ti33 rfl rfl (stB (cs' := [iV r1.Lo, iV r1.Hi, bV r1.Unknown]) rfl rfl rfl rfl ti33 rfl rfl rfl rfl rfl (pS rfl (RunC.fin (AWP.ret (rtB (rtT ?_))))))))
   have hR := Option.some.inj hR; subst hR
   exact hQ _ _ (LS.mk [(4, .ptr 0 0 0), (5, bV true)] (lblks 0 [boxB (α := Bound) true r1]) 1) (.tup [aggV (α := Bound) true r1, bV true]) [] (.inr rfl) (Weak.turnL [(8, 0)] [] rfl rfl (tc (trP' rfl rfl rfl rfl) (tc (.sc _) tn)) (mc rfl (.box rfl .z3 rfl) mn)) (ro2 (rvC (v := aggV (α := Bound) true r1) rfl rfl ti33 rfl) (rvT (v := bV true) rfl)) rfl rfl (.tup (.cons ldA (.cons (.sc _) .nil))) pn
  ·refine AWP.sq (AWP.rgC 112 rfl rfl (fa rfl rfl ti33 rfl rfl ti31 rfl (ldB (v := .sc _) rfl rfl rfl rfl ti31 rfl rfl (fa rfl rfl ti33 rfl rfl ti31 rfl (ldB (v := .sc _) rfl rfl rfl rfl ti31 rfl rfl (pS rfl (fa rfl rfl ti33 rfl rfl ti31 rfl (ldB (v := .sc _) rfl rfl rfl rfl ti31 rfl rfl (fa rfl rfl ti33 rfl rfl ti31 rfl (ldB (v := .sc _) rfl rfl rfl rfl ti31 rfl rfl (pS rfl (pS rfl (pS rfl (RunC.fin (AWP.cd hR rfl (fun h5 hR => ?_) fun h5 hR => ?_)))))))))))))))
   ·refine AWP.sq (AWP.rgC 124 rfl rfl (bu (cs := [iV 0, iV 0, bV false]) rfl bt33 rfl (stB (cs' := [iV 0, iV 0, bV false]) rfl rfl rfl rfl ti33 rfl rfl rfl rfl rfl (pS rfl (RunC.fin (AWP.ret (rtB (rtT ?_))))))))
    have hR := Option.some.inj hR; subst hR
    exact hQ _ _ (LS.mk [(4, .ptr 0 0 0), (5, bV false)] (lblks 0 [boxB (α := Bound) true (Bound.mk 0 0 false)]) 1) (.tup [aggV (α := Bound) true (Bound.mk 0 0 false), bV false]) [] (.inr rfl) (Weak.turnL [(8, 0)] [] rfl rfl (tc (trP' rfl rfl rfl rfl) (tc (.sc _) tn)) (mc rfl (.box rfl .z3 rfl) mn)) (ro2 (rvC (v := aggV (α := Bound) true (Bound.mk 0 0 false)) rfl rfl ti33 rfl) (rvT (v := bV false) rfl)) rfl rfl (.tup (.cons ldA (.cons (.sc _) .nil))) pn
   ·refine AWP.skip (skB ?_)
    refine skT (AWP.sq (AWP.rgC 164 rfl rfl (fa rfl rfl ti33 rfl rfl ti31 rfl (ldB (v := .sc _) rfl rfl rfl rfl ti31 rfl rfl (fa rfl rfl ti33 rfl rfl ti31 rfl (ldB (v := .sc _) rfl rfl rfl rfl ti31 rfl rfl (pS rfl (fa rfl rfl ti33 rfl rfl ti31 rfl (ldB (v := .sc _) rfl rfl rfl rfl ti31 rfl rfl (fa rfl rfl ti33 rfl rfl ti31 rfl (ldB (v := .sc _) rfl rfl rfl rfl ti31 rfl rfl (pS rfl ?_))))))))))))
    obtain ⟨r6, hr6, hR⟩ := bindE hR
    refine cls [] rfl rfl cb54 (ok54 (mx2 r1.Lo r2.Lo) (mn2 r1.Hi r2.Hi) _ hr6) .z2 (.inr rfl) rfl (stB (cs' := [iV r6.Lo, iV r6.Hi, bV r6.Unknown]) rfl rfl rfl rfl ti33 rfl rfl rfl rfl rfl (pS rfl (RunC.fin (AWP.ret ?_))))
    have hR := Option.some.inj hR; subst hR
    exact hQ _ _ (LS.mk [(4, .ptr 0 0 0), (5, bV true)] (lblks 0 [boxB (α := Bound) true r6]) 1) (.tup [aggV (α := Bound) true r6, bV true]) [] (.inr rfl) (Weak.turnL [(8, 0)] [] rfl rfl (tc (trP' rfl rfl rfl rfl) (tc (.sc _) tn)) (mc rfl (.box rfl .z3 rfl) mn)) (ro2 (rvC (v := aggV (α := Bound) true r6) rfl rfl ti33 rfl) (rvT (v := bV true) rfl)) rfl rfl (.tup (.cons ldA (.cons (.sc _) .nil))) pn
theorem ok17 (b : Box) (r : (Bound × Bound × Bound) × Bool) (hR : arc_Ray b = some r) : FnP Try.prog 17 [aggV false b] (.tup [aggV (α := Bound × Bound × Bound) true r.1, .sc (.bool r.2)]) := by
 refine fnP_of (FnX.walk Try.func17 rfl 44 0 (by simp [Try.ntmps17]) rfl fun W S F Q hQ => ?_)
 unfold arc_Ray at hR
 refine AWP.sq (AWP.rgC 12 rfl rfl (bx (cs := _) 0 rfl rfl rfl (al (cs := [iV 0, iV 0, bV false, iV 0, iV 0, bV false, iV 0, iV 0, bV false]) 4 rfl rfl ti68 rfl rfl (pS rfl (RunC.fin (AWP.sq (AWP.rgC 48 rfl rfl (fa rfl rfl ti35 rfl rfl ti33 rfl (ldB (v := .agg _) rfl rfl rfl rfl ti33 rfl rfl (fa rfl rfl ti35 rfl rfl ti33 rfl (ldB (v := .agg _) rfl rfl rfl rfl ti33 rfl rfl (fa rfl rfl ti35 rfl rfl ti33 rfl (ldB (v := .agg _) rfl rfl rfl rfl ti33 rfl rfl (buA (cs := [iV b.X.Lo, iV b.X.Hi, bV b.X.Unknown, iV b.Y.Lo, iV b.Y.Hi, bV b.Y.Unknown, iV b.Z.Lo, iV b.Z.Hi, bV b.Z.Unknown]) rfl ti68 rfl ti33 rfl rfl ?_))))))))))))))
 refine al (cs := [iV 0, iV 0, bV false, iV 0, iV 0, bV false, iV 0, iV 0, bV false]) 40 rfl rfl ti68 rfl rfl (stB (cs' := [iV b.X.Lo, iV b.X.Hi, bV b.X.Unknown, iV b.Y.Lo, iV b.Y.Hi, bV b.Y.Unknown, iV b.Z.Lo, iV b.Z.Hi, bV b.Z.Unknown]) rfl rfl rfl rfl ti68 rfl rfl rfl rfl rfl (RunC.fin (AWP.sq (AWP.rgC 68 rfl rfl (ldB (v := .agg _) rfl rfl rfl rfl ti68 rfl rfl ?_)))))
 obtain ⟨r1, hr1, hR⟩ := bindE hR
 refine cls [] rfl rfl cb31 (ok31 (b.X, b.Y, b.Z) _ hr1) (.cons (.agg .z9 rfl) (.nil)) (.inr rfl) rfl ?_
 obtain ⟨r2, hr2, hR⟩ := bindE hR
 refine cls [] rfl rfl cb30 (ok30 r1 1099511627776 _ hr2) (.cons (.agg .z3 rfl) (.cons (.sc _) .nil)) (.inr rfl) rfl (al (cs := [iV 0, iV 0, bV false]) 60 rfl rfl ti33 rfl rfl (stB (cs' := [iV r2.Lo, iV r2.Hi, bV r2.Unknown]) rfl rfl rfl rfl ti33 rfl rfl rfl rfl rfl (RunC.fin (AWP.sq (AWP.joinX (fun z3 : Bool => LS.mk [(2, .ptr 0 0 0), (4, .ptr 1 0 0), (5, .ptr 2 0 0), (24, bV z3)] (lblks 0 [boxB (α := Bound × Bound × Bound) true (Bound.mk 0 0 false, Bound.mk 0 0 false, Bound.mk 0 0 false), boxB (α := Bound × Bound × Bound) true (b.X, b.Y, b.Z), boxB (α := Bound) true r2]) 3) hR (fun o3 hR => ?_) fun z3 hR => ?_)))))
 ·refine AWP.rgC 96 rfl rfl (fa rfl rfl ti33 rfl rfl ti4 rfl (ldB (v := .sc _) rfl rfl rfl rfl ti4 rfl rfl (pS rfl (brR hR (fun h4 hR => ?_) fun h4 hR => ?_))))
  ·refine sk (skW rfl rfl rfl h4) (sk (skW rfl rfl rfl h4) (sk (skW rfl rfl rfl h4) (pkT (v := bV true) rfl rfl h4 rfl (RunC.fin ?_))))
   have hR := Option.some.inj hR; subst hR
   exact Weak.turnL [(4, 0), (40, 0), (60, 0)] [] rfl rfl (tc (trP' rfl rfl rfl rfl) (tc (trP' rfl rfl rfl rfl) (tc (trP' rfl rfl rfl rfl) (tc (.sc _) tn)))) (mc rfl (.box rfl .z9 rfl) (mc rfl (.box rfl .z9 rfl) (mc rfl (.box rfl .z3 rfl) mn)))
  ·refine fa (wtG rfl rfl rfl h4) rfl ti33 rfl rfl ti31 rfl (ldB (v := .sc _) (wtG rfl rfl rfl h4) rfl rfl rfl ti31 rfl rfl (pu (v := .sc _) (wtG rfl rfl rfl h4) rfl (fun _ => rfl) (pkF (v := bV (r2.Lo == 0)) rfl rfl h4 rfl (RunC.fin ?_))))
   have hR := Option.some.inj hR; subst hR
   exact Weak.turnL [(4, 0), (40, 0), (60, 0)] [] rfl rfl (tc (trP' rfl rfl rfl rfl) (tc (trP' rfl rfl rfl rfl) (tc (trP' rfl rfl rfl rfl) (tc (.sc _) tn)))) (mc rfl (.box rfl .z9 rfl) (mc rfl (.box rfl .z9 rfl) (mc rfl (.box rfl .z3 rfl) mn)))
 ·refine AWP.cd hR rfl (fun h5 hR => ?_) fun h5 hR => ?_
  ·refine AWP.sq (AWP.rgC 15 rfl rfl (buA (cs := [iV 0, iV 0, bV false, iV 0, iV 0, bV false, iV 0, iV 0, bV false]) rfl ti68 rfl ti33 rfl rfl ?_))
   refine stB (cs' := [iV 0, iV 0, bV false, iV 0, iV 0, bV false, iV 0, iV 0, bV false]) rfl rfl rfl rfl ti68 rfl rfl rfl rfl rfl (pS rfl (RunC.fin (AWP.ret (rtT ?_))))
   have hR := Option.some.inj hR; subst hR
   exact hQ _ _ (LS.mk [(2, .ptr 0 0 0), (3, bV false)] (lblks 0 [boxB (α := Bound × Bound × Bound) true (Bound.mk 0 0 false, Bound.mk 0 0 false, Bound.mk 0 0 false)]) 1) (.tup [aggV (α := Bound × Bound × Bound) true (Bound.mk 0 0 false, Bound.mk 0 0 false, Bound.mk 0 0 false), bV false]) [] (.inr rfl) (Weak.turnL [(0, 0)] [] rfl rfl (tc (trP' rfl rfl rfl rfl) (tc (.sc _) tn)) (mc rfl (.box rfl .z9 rfl) mn)) (ro2 (rvC (v := aggV (α := Bound × Bound × Bound) true (Bound.mk 0 0 false, Bound.mk 0 0 false, Bound.mk 0 0 false)) rfl rfl ti68 rfl) (rvT (v := bV false) rfl)) rfl rfl (.tup (.cons ldA (.cons (.sc _) .nil))) pn
  ·refine AWP.skip (skT (AWP.sq (AWP.sq (AWP.rgC 7 rfl rfl (pS rfl (RunC.fin (AWP.loopJ (fun s6 : (Bound × Bound × Bound) × Int => LS.mk [(2, .ptr 0 0 0), (4, .ptr 1 0 0), (5, .ptr 2 0 0), (26, iV s6.2)] (lblks 0 [boxB (α := Bound × Bound × Bound) true (Bound.mk 0 0 false, Bound.mk 0 0 false, Bound.mk 0 0 false), boxB (α := Bound × Bound × Bound) true s6.1, boxB (α := Bound) true r2]) 3) (fun z7 : (Bound × Bound × Bound) => LS.mk [(2, .ptr 0 0 0), (4, .ptr 1 0 0)] (lblks 0 [boxB (α := Bound × Bound × Bound) true (Bound.mk 0 0 false, Bound.mk 0 0 false, Bound.mk 0 0 false), boxB (α := Bound × Bound × Bound) true z7]) 2) (arc_Ray.l1 r2) hR (s0 := ((b.X, b.Y, b.Z), 0)) (Weak.turnL [(0, 0), (1, 0), (2, 0)] [] rfl rfl (tc (trP' rfl rfl rfl rfl) (tc (trP' rfl rfl rfl rfl) (tc (trP' rfl rfl rfl rfl) (tc (.sc _) tn)))) (mc rfl (.box rfl .z9 rfl) (mc rfl (.box rfl .z9 rfl) (mc rfl (.box rfl .z3 rfl) mn)))) (fun s6 o6 hR => ?_) fun z7 hR => ?_)))))))
   ·unfold arc_Ray.l1 at hR
    refine AWP.sq (AWP.rgC 7 rfl rfl (pS rfl (RunC.fin (AWP.sq (AWP.cd hR rfl (fun h8 hR => ?_) fun h8 hR => ?_)))))
    ·refine AWP.skip (skT (AWP.sq (AWP.block (AWP.sq (AWP.rgC 15 rfl rfl (pS rfl (pS rfl (RunC.fin (AWP.sq (AWP.rgD 43 [0, 1, 3, 0, 15, 0, 63] ⟨[], [none, none, some [1], some [2], none, none, some [35]]⟩ hmix (by kernel_rfl) rfl rfl ?_))))))))))
     refine pS rfl ?_
     obtain ⟨h9, hR⟩ := chkE hR
     refine iaP (o' := 0 + s6.2.toNat * Cl.e Bound + 0) rfl rfl rfl ti68 rfl ti33 h9 rfl (ldD (α := Bound) (nw := true) (pre := []) (post := []) (xs := ([s6.1.1, s6.1.2.1, s6.1.2.2] : List Bound)) (m := s6.2.toNat) (off := 0) (v := .agg _) rfl rfl rfl rfl rfl rfl (ixlt h9) ti33 rfl rfl rfl rfl (ldB (v := .agg _) rfl rfl rfl rfl ti33 rfl rfl ?_))
     obtain ⟨r10, hr10, hR⟩ := bindE hR
     refine cls [] rfl rfl cb32 (ok32 (gt ([s6.1.1, s6.1.2.1, s6.1.2.2] : List Bound) s6.2) r2 1125899906842624 _ hr10) (.cons (.agg .z3 rfl) (.cons (.agg .z3 rfl) (.cons (.sc _) .nil))) (.inr rfl) rfl (al (cs := [iV 0, iV 0, bV false]) 35 rfl rfl ti33 rfl rfl (stB (cs' := [iV r10.Lo, iV r10.Hi, bV r10.Unknown]) rfl rfl rfl rfl ti33 rfl rfl rfl rfl rfl (RunC.fin (AWP.rgC 79 rfl rfl (pS rfl (ldB (v := .agg _) rfl rfl rfl rfl ti33 rfl rfl (bu (cs := [iV (-1073741824), iV 1073741824, bV false]) rfl bt33 rfl ?_)))))))
     obtain ⟨r11, hr11, hR⟩ := bindE hR
     refine cls [] rfl rfl cb33 (ok33 r10 (Bound.mk (-1073741824) 1073741824 false) _ hr11) (.cons (.agg .z3 rfl) (.cons (.agg .z3 rfl) (.nil))) (.inr rfl) rfl (pu (v := .tup _) rfl rfl (fun _ => rfl) (pu (v := .agg _) rfl rfl (fun _ => rfl) (pS rfl (iaP (o' := 0 + s6.2.toNat * Cl.e Bound + 0) rfl rfl rfl ti68 rfl ti33 h9 rfl ?_))))
     obtain ⟨v12, ev12, hR⟩ := letE hR
     refine stD (α := Bound) (nw := true) (pre := []) (post := []) (xs := ([s6.1.1, s6.1.2.1, s6.1.2.2] : List Bound)) (m := s6.2.toNat) (off := 0) (ys := [gt v12 0, gt v12 1, gt v12 2]) (y := r11.1) (cs' := [iV (gt v12 0).Lo, iV (gt v12 0).Hi, bV (gt v12 0).Unknown, iV (gt v12 1).Lo, iV (gt v12 1).Hi, bV (gt v12 1).Unknown, iV (gt v12 2).Lo, iV (gt v12 2).Hi, bV (gt v12 2).Unknown]) rfl rfl rfl rfl rfl rfl (ixlt h9) ti33 rfl rfl rfl rfl (etaS ev12 rfl rfl) rfl rfl (RunC.blk (RunC.fin (AWP.rgC 87 rfl rfl (pS rfl (pS rfl (RunC.fin (⟨((gt v12 0, gt v12 1, gt v12 2), w6 (s6.2 + 1)), (Option.some.inj hR).symm, ?_⟩)))))))
     exact Weak.turnL [(0, 0), (1, 0), (2, 0)] [] rfl rfl (tc (trP' rfl rfl rfl rfl) (tc (trP' rfl rfl rfl rfl) (tc (trP' rfl rfl rfl rfl) (tc (.sc _) tn)))) (mc rfl (.box rfl .z9 rfl) (mc rfl (.box rfl .z9 rfl) (mc rfl (.box rfl .z3 rfl) mn)))
    ·refine AWP.exit (exT (exT (exH (skT (⟨s6.1, (Option.some.inj hR).symm, ?_⟩)))))
     exact Weak.turnL [(0, 0), (1, 0)] [] rfl rfl (tc (trP' rfl rfl rfl rfl) (tc (trP' rfl rfl rfl rfl) tn)) (mc rfl (.box rfl .z9 rfl) (mc rfl (.box rfl .z9 rfl) mn))
   ·refine skT (AWP.sq (AWP.rgC 14 rfl rfl (ldB (v := .agg _) rfl rfl rfl rfl ti68 rfl rfl (stB (cs' := [iV z7.1.Lo, iV z7.1.Hi, bV z7.1.Unknown, iV z7.2.1.Lo, iV z7.2.1.Hi, bV z7.2.1.Unknown, iV z7.2.2.Lo, iV z7.2.2.Hi, bV z7.2.2.Unknown]) rfl rfl rfl rfl ti68 rfl rfl rfl rfl rfl (pS rfl (RunC.fin (AWP.ret ?_)))))))
    have hR := Option.some.inj hR; subst hR
    exact hQ _ _ (LS.mk [(2, .ptr 0 0 0), (3, bV true)] (lblks 0 [boxB (α := Bound × Bound × Bound) true z7]) 1) (.tup [aggV (α := Bound × Bound × Bound) true z7, bV true]) [] (.inr rfl) (Weak.turnL [(0, 0)] [] rfl rfl (tc (trP' rfl rfl rfl rfl) (tc (.sc _) tn)) (mc rfl (.box rfl .z9 rfl) mn)) (ro2 (rvC (v := aggV (α := Bound × Bound × Bound) true z7) rfl rfl ti68 rfl) (rvT (v := bV true) rfl)) rfl rfl (.tup (.cons ldA (.cons (.sc _) .nil))) pn
theorem ok6 (r : Bool) (hR : spykeep4_rayed = some r) : FnP Try.prog 6 [] (.sc (.bool r)) := by
 refine fnP_of (FnX.walk Try.func6 rfl 18 0 (by simp [Try.ntmps6]) rfl fun W S F Q hQ => ?_)
 unfold spykeep4_rayed at hR
 refine AWP.sq (AWP.rgC 4 rfl rfl (pS rfl (RunC.fin (AWP.sq (AWP.rgC 40 rfl rfl (bu (cs := [iV 0, iV 7, iV 0]) rfl bt30 rfl ?_))))))
 obtain ⟨r1, hr1, hR⟩ := bindE hR
 refine cls [] rfl rfl cb18 (ok18 (Vec.mk 0 7 0) _ hr1) (.cons (.agg .z3 rfl) (.nil)) (.inr rfl) rfl ?_
 obtain ⟨r2, hr2, hR⟩ := bindE hR
 refine cls [] rfl rfl cb17 (ok17 r1 _ hr2) (.cons (.agg .z9 rfl) (.nil)) (.inr rfl) rfl (pu (v := .tup _) rfl rfl (fun _ => rfl) (pu (v := .agg _) rfl rfl (fun _ => rfl) (pS rfl (al (cs := [iV 0, iV 0, bV false, iV 0, iV 0, bV false, iV 0, iV 0, bV false]) 28 rfl rfl ti68 rfl rfl (stB (cs' := [iV r2.1.1.Lo, iV r2.1.1.Hi, bV r2.1.1.Unknown, iV r2.1.2.1.Lo, iV r2.1.2.1.Hi, bV r2.1.2.1.Unknown, iV r2.1.2.2.Lo, iV r2.1.2.2.Hi, bV r2.1.2.2.Unknown]) rfl rfl rfl rfl ti68 rfl rfl rfl rfl rfl (pS rfl (RunC.fin (AWP.joinX (fun z3 : Bool => LS.mk [(0, bV z3)] (lblks 0 []) 0) hR (fun o3 hR => ?_) fun z3 hR => ?_))))))))
 ·refine AWP.rgC 80 rfl rfl (pS rfl (pS rfl (brR hR (fun h4 hR => ?_) fun h4 hR => ?_)))
  ·refine ldB (v := .agg _) (wtG rfl rfl rfl h4) rfl rfl rfl ti68 rfl rfl (bu (cs := [iV 0, iV 0, bV false]) (wtG rfl rfl rfl h4) bt33 rfl (bu (cs := [iV 1073741824, iV 1073741824, bV false]) (wtG rfl rfl rfl h4) bt33 rfl (bu (cs := [iV 0, iV 0, bV false]) (wtG rfl rfl rfl h4) bt33 rfl (buA (cs := [iV 0, iV 0, bV false, iV 1073741824, iV 1073741824, bV false, iV 0, iV 0, bV false]) (wtG rfl rfl rfl h4) ti68 rfl ti33 rfl rfl ?_))))
   refine es (cs := [iV r2.1.1.Lo, iV r2.1.1.Hi, bV r2.1.1.Unknown, iV r2.1.2.1.Lo, iV r2.1.2.1.Hi, bV r2.1.2.1.Unknown, iV r2.1.2.2.Lo, iV r2.1.2.2.Hi, bV r2.1.2.2.Unknown]) (ds := [iV 0, iV 0, bV false, iV 1073741824, iV 1073741824, bV false, iV 0, iV 0, bV false]) (wtG rfl rfl rfl h4) rfl rfl qa68 qg68 (qe68 _ _ _ _ _ _ _ _ _ _ _ _ _ _ _ _ _ _) ?_
   refine pkT (v := bV (((r2.1.1.Lo == 0) && ((r2.1.1.Hi == 0) && ((r2.1.1.Unknown == false) && (true)))) && (((r2.1.2.1.Lo == 1073741824) && ((r2.1.2.1.Hi == 1073741824) && ((r2.1.2.1.Unknown == false) && (true)))) && (((r2.1.2.2.Lo == 0) && ((r2.1.2.2.Hi == 0) && ((r2.1.2.2.Unknown == false) && (true)))) && (true))))) rfl rfl h4 rfl (pS rfl (RunC.fin ?_))
   have hR := Option.some.inj hR; subst hR
   exact Weak.turnL [] [] rfl rfl (tc (.sc _) tn) mn
  ·refine sk (skW rfl rfl rfl h4) (sk (skW rfl rfl rfl h4) (sk (skW rfl rfl rfl h4) (sk (skW rfl rfl rfl h4) (sk (skW rfl rfl rfl h4) (sk (skW rfl rfl rfl h4) (pkF (v := bV false) rfl rfl h4 rfl (pS rfl (RunC.fin ?_))))))))
   have hR := Option.some.inj hR; subst hR
   exact Weak.turnL [] [] rfl rfl (tc (.sc _) tn) mn
 ·refine AWP.ret ?_
  have hR := Option.some.inj hR; subst hR
  exact hQ _ _ (LS.mk [(0, bV z3)] (lblks 0 []) 0) (bV z3) [] (.inr rfl) (Weak.turnL [] [] rfl rfl (tc (.sc _) tn) mn) (ro1 (rvT (v := bV z3) rfl)) rfl rfl (.sc _) pn
theorem ok62 (b : Bound) (r : Int) (hR : bound_Check b = some r) : FnP Try.prog 62 [aggV false b] (.sc (.int .i64 r)) := by
 refine fnP_of (FnX.walk Try.func62 rfl 37 0 (by simp [Try.ntmps62]) rfl fun W S F Q hQ => ?_)
 unfold bound_Check at hR
 refine AWP.sq (AWP.rgC 8 rfl rfl (bx (cs := _) 0 rfl rfl rfl (pS rfl (RunC.fin (AWP.sq (AWP.block (AWP.joinX (fun z1 : Bool => LS.mk [(1, .ptr 0 0 0), (3, bV z1)] (lblks 0 [boxB (α := Bound) true b]) 1) hR (fun o1 hR => ?_) fun z1 hR => ?_)))))))
 ·refine AWP.rgC 60 rfl rfl (fa rfl rfl ti28 rfl rfl ti4 rfl (ldB (v := .sc _) rfl rfl rfl rfl ti4 rfl rfl (pS rfl (brR hR (fun h2 hR => ?_) fun h2 hR => ?_))))
  ·refine fa (wtG rfl rfl rfl h2) rfl ti28 rfl rfl ti26 rfl (ldB (v := .sc _) (wtG rfl rfl rfl h2) rfl rfl rfl ti26 rfl rfl (pu (v := .sc _) (wtG rfl rfl rfl h2) rfl (fun _ => rfl) (pu (v := .sc _) (wtG rfl rfl rfl h2) rfl (fun _ => rfl) (brR hR (fun h3 hR => ?_) fun h3 hR => ?_))))
   ·refine sk (skW rfl rfl rfl h3) (sk (skW rfl rfl rfl h3) (sk (skW rfl rfl rfl h3) (pkT (v := bV true) (wtG rfl rfl rfl h2) rfl h3 rfl (pkT (v := bV true) rfl rfl h2 rfl (pS rfl (RunC.fin ?_))))))
    have hR := Option.some.inj hR; subst hR
    exact Weak.turnL [(0, 0)] [] rfl rfl (tc (trP' rfl rfl rfl rfl) (tc (.sc _) tn)) (mc rfl (.box rfl .z3 rfl) mn)
   ·refine fa (wtG rfl rfl rfl h3) rfl ti28 rfl rfl ti26 rfl (ldB (v := .sc _) (wtG rfl rfl rfl h3) rfl rfl rfl ti26 rfl rfl (pu (v := .sc _) (wtG rfl rfl rfl h3) rfl (fun _ => rfl) (pkF (v := bV (b.Hi != 0)) (wtG rfl rfl rfl h2) rfl h3 rfl (pkT (v := bV (b.Hi != 0)) rfl rfl h2 rfl (pS rfl (RunC.fin ?_))))))
    have hR := Option.some.inj hR; subst hR
    exact Weak.turnL [(0, 0)] [] rfl rfl (tc (trP' rfl rfl rfl rfl) (tc (.sc _) tn)) (mc rfl (.box rfl .z3 rfl) mn)
  ·refine sk (skW rfl rfl rfl h2) (sk (skW rfl rfl rfl h2) (sk (skW rfl rfl rfl h2) (sk (skW rfl rfl rfl h2) (sk (skW2 rfl rfl rfl) (sk (skW2 rfl rfl rfl) (sk (skW2 rfl rfl rfl) (sk (skW rfl rfl rfl h2) (pkF (v := bV false) rfl rfl h2 rfl (pS rfl (RunC.fin ?_))))))))))
   have hR := Option.some.inj hR; subst hR
   exact Weak.turnL [(0, 0)] [] rfl rfl (tc (trP' rfl rfl rfl rfl) (tc (.sc _) tn)) (mc rfl (.box rfl .z3 rfl) mn)
 ·refine AWP.cd hR rfl (fun h4 hR => ?_) fun h4 hR => ?_
  ·refine AWP.sq (AWP.rgC 5 rfl rfl (pS rfl (RunC.fin (AWP.ret (rtB (rtT ?_))))))
   have hR := Option.some.inj hR; subst hR
   exact hQ _ _ (LS.mk [(2, iV 3)] (lblks 0 []) 0) (iV 3) [] (.inr rfl) (Weak.turnL [] [] rfl rfl (tc (.sc _) tn) mn) (ro1 (rvT (v := iV 3) rfl)) rfl rfl (.sc _) pn
  ·refine AWP.joinX (fun z5 : Bool => LS.mk [(1, .ptr 0 0 0), (16, bV z5)] (lblks 0 [boxB (α := Bound) true b]) 1) hR (fun o5 hR => ?_) fun z5 hR => ?_
   ·refine AWP.rgC 61 rfl rfl (fa rfl rfl ti28 rfl rfl ti26 rfl (ldB (v := .sc _) rfl rfl rfl rfl ti26 rfl rfl (fa rfl rfl ti28 rfl rfl ti26 rfl (ldB (v := .sc _) rfl rfl rfl rfl ti26 rfl rfl (pS rfl (pS rfl (pS rfl (brR hR (fun h6 hR => ?_) fun h6 hR => ?_))))))))
    ·refine sk (skW rfl rfl rfl h6) (sk (skW rfl rfl rfl h6) (sk (skW rfl rfl rfl h6) (sk (skW rfl rfl rfl h6) (sk (skW rfl rfl rfl h6) (sk (skW rfl rfl rfl h6) (pkT (v := bV true) rfl rfl h6 rfl (pS rfl (RunC.fin ?_))))))))
     have hR := Option.some.inj hR; subst hR
     exact Weak.turnL [(0, 0)] [] rfl rfl (tc (trP' rfl rfl rfl rfl) (tc (.sc _) tn)) (mc rfl (.box rfl .z3 rfl) mn)
    ·refine fa (wtG rfl rfl rfl h6) rfl ti28 rfl rfl ti26 rfl (ldB (v := .sc _) (wtG rfl rfl rfl h6) rfl rfl rfl ti26 rfl rfl (fa (wtG rfl rfl rfl h6) rfl ti28 rfl rfl ti26 rfl (ldB (v := .sc _) (wtG rfl rfl rfl h6) rfl rfl rfl ti26 rfl rfl (pu (v := .sc _) (wtG rfl rfl rfl h6) rfl (fun _ => rfl) (pu (v := .sc _) (wtG rfl rfl rfl h6) rfl (fun _ => rfl) (pkF (v := bV (decide ((mx2 b.Lo b.Hi) > 1152921504606846976))) rfl rfl h6 rfl (pS rfl (RunC.fin ?_))))))))
     have hR := Option.some.inj hR; subst hR
     exact Weak.turnL [(0, 0)] [] rfl rfl (tc (trP' rfl rfl rfl rfl) (tc (.sc _) tn)) (mc rfl (.box rfl .z3 rfl) mn)
   ·refine AWP.cd hR rfl (fun h7 hR => ?_) fun h7 hR => ?_
    ·refine AWP.sq (AWP.rgC 5 rfl rfl (pS rfl (RunC.fin (AWP.ret (rtB (rtT ?_))))))
     have hR := Option.some.inj hR; subst hR
     exact hQ _ _ (LS.mk [(2, iV 4)] (lblks 0 []) 0) (iV 4) [] (.inr rfl) (Weak.turnL [] [] rfl rfl (tc (.sc _) tn) mn) (ro1 (rvT (v := iV 4) rfl)) rfl rfl (.sc _) pn
    ·refine AWP.sq (AWP.rgC 25 rfl rfl (fa rfl rfl ti28 rfl rfl ti26 rfl (ldB (v := .sc _) rfl rfl rfl rfl ti26 rfl rfl (fa rfl rfl ti28 rfl rfl ti26 rfl (ldB (v := .sc _) rfl rfl rfl rfl ti26 rfl rfl (pS rfl (pS rfl (RunC.fin (AWP.cd hR rfl (fun h8 hR => ?_) fun h8 hR => ?_)))))))))
     ·refine AWP.sq (AWP.rgC 29 rfl rfl (pS rfl (RunC.fin (AWP.ret (rtB (rtT ?_))))))
      have hR := Option.some.inj hR; subst hR
      exact hQ _ _ (LS.mk [(2, iV 11)] (lblks 0 []) 0) (iV 11) [] (.inr rfl) (Weak.turnL [] [] rfl rfl (tc (.sc _) tn) mn) (ro1 (rvT (v := iV 11) rfl)) rfl rfl (.sc _) pn
     ·refine AWP.skip (skB ?_)
      refine skT (AWP.sq (AWP.rgC 29 rfl rfl (pS rfl (RunC.fin (AWP.ret ?_)))))
      have hR := Option.some.inj hR; subst hR
      exact hQ _ _ (LS.mk [(2, iV 0)] (lblks 0 []) 0) (iV 0) [] (.inr rfl) (Weak.turnL [] [] rfl rfl (tc (.sc _) tn) mn) (ro1 (rvT (v := iV 0) rfl)) rfl rfl (.sc _) pn
theorem ok64 (b : Bound) (r : Int) (hR : bound_Check b = some r) : FnP Try.prog 64 [aggV false b] (.sc (.int .i64 r)) := by
 refine fnP_of (FnX.walk Try.func64 rfl 37 0 (by simp [Try.ntmps64]) rfl fun W S F Q hQ => ?_)
 unfold bound_Check at hR
 refine AWP.sq (AWP.rgC 8 rfl rfl (bx (cs := _) 0 rfl rfl rfl (pS rfl (RunC.fin (AWP.sq (AWP.block (AWP.joinX (fun z1 : Bool => LS.mk [(1, .ptr 0 0 0), (3, bV z1)] (lblks 0 [boxB (α := Bound) true b]) 1) hR (fun o1 hR => ?_) fun z1 hR => ?_)))))))
 ·refine AWP.rgC 60 rfl rfl (fa rfl rfl ti38 rfl rfl ti4 rfl (ldB (v := .sc _) rfl rfl rfl rfl ti4 rfl rfl (pS rfl (brR hR (fun h2 hR => ?_) fun h2 hR => ?_))))
  ·refine fa (wtG rfl rfl rfl h2) rfl ti38 rfl rfl ti36 rfl (ldB (v := .sc _) (wtG rfl rfl rfl h2) rfl rfl rfl ti36 rfl rfl (pu (v := .sc _) (wtG rfl rfl rfl h2) rfl (fun _ => rfl) (pu (v := .sc _) (wtG rfl rfl rfl h2) rfl (fun _ => rfl) (brR hR (fun h3 hR => ?_) fun h3 hR => ?_))))
   ·refine sk (skW rfl rfl rfl h3) (sk (skW rfl rfl rfl h3) (sk (skW rfl rfl rfl h3) (pkT (v := bV true) (wtG rfl rfl rfl h2) rfl h3 rfl (pkT (v := bV true) rfl rfl h2 rfl (pS rfl (RunC.fin ?_))))))
    have hR := Option.some.inj hR; subst hR
    exact Weak.turnL [(0, 0)] [] rfl rfl (tc (trP' rfl rfl rfl rfl) (tc (.sc _) tn)) (mc rfl (.box rfl .z3 rfl) mn)
   ·refine fa (wtG rfl rfl rfl h3) rfl ti38 rfl rfl ti36 rfl (ldB (v := .sc _) (wtG rfl rfl rfl h3) rfl rfl rfl ti36 rfl rfl (pu (v := .sc _) (wtG rfl rfl rfl h3) rfl (fun _ => rfl) (pkF (v := bV (b.Hi != 0)) (wtG rfl rfl rfl h2) rfl h3 rfl (pkT (v := bV (b.Hi != 0)) rfl rfl h2 rfl (pS rfl (RunC.fin ?_))))))
    have hR := Option.some.inj hR; subst hR
    exact Weak.turnL [(0, 0)] [] rfl rfl (tc (trP' rfl rfl rfl rfl) (tc (.sc _) tn)) (mc rfl (.box rfl .z3 rfl) mn)
  ·refine sk (skW rfl rfl rfl h2) (sk (skW rfl rfl rfl h2) (sk (skW rfl rfl rfl h2) (sk (skW rfl rfl rfl h2) (sk (skW2 rfl rfl rfl) (sk (skW2 rfl rfl rfl) (sk (skW2 rfl rfl rfl) (sk (skW rfl rfl rfl h2) (pkF (v := bV false) rfl rfl h2 rfl (pS rfl (RunC.fin ?_))))))))))
   have hR := Option.some.inj hR; subst hR
   exact Weak.turnL [(0, 0)] [] rfl rfl (tc (trP' rfl rfl rfl rfl) (tc (.sc _) tn)) (mc rfl (.box rfl .z3 rfl) mn)
 ·refine AWP.cd hR rfl (fun h4 hR => ?_) fun h4 hR => ?_
  ·refine AWP.sq (AWP.rgC 5 rfl rfl (pS rfl (RunC.fin (AWP.ret (rtB (rtT ?_))))))
   have hR := Option.some.inj hR; subst hR
   exact hQ _ _ (LS.mk [(2, iV 3)] (lblks 0 []) 0) (iV 3) [] (.inr rfl) (Weak.turnL [] [] rfl rfl (tc (.sc _) tn) mn) (ro1 (rvT (v := iV 3) rfl)) rfl rfl (.sc _) pn
  ·refine AWP.joinX (fun z5 : Bool => LS.mk [(1, .ptr 0 0 0), (16, bV z5)] (lblks 0 [boxB (α := Bound) true b]) 1) hR (fun o5 hR => ?_) fun z5 hR => ?_
   ·refine AWP.rgC 61 rfl rfl (fa rfl rfl ti38 rfl rfl ti36 rfl (ldB (v := .sc _) rfl rfl rfl rfl ti36 rfl rfl (fa rfl rfl ti38 rfl rfl ti36 rfl (ldB (v := .sc _) rfl rfl rfl rfl ti36 rfl rfl (pS rfl (pS rfl (pS rfl (brR hR (fun h6 hR => ?_) fun h6 hR => ?_))))))))
    ·refine sk (skW rfl rfl rfl h6) (sk (skW rfl rfl rfl h6) (sk (skW rfl rfl rfl h6) (sk (skW rfl rfl rfl h6) (sk (skW rfl rfl rfl h6) (sk (skW rfl rfl rfl h6) (pkT (v := bV true) rfl rfl h6 rfl (pS rfl (RunC.fin ?_))))))))
     have hR := Option.some.inj hR; subst hR
     exact Weak.turnL [(0, 0)] [] rfl rfl (tc (trP' rfl rfl rfl rfl) (tc (.sc _) tn)) (mc rfl (.box rfl .z3 rfl) mn)
    ·refine fa (wtG rfl rfl rfl h6) rfl ti38 rfl rfl ti36 rfl (ldB (v := .sc _) (wtG rfl rfl rfl h6) rfl rfl rfl ti36 rfl rfl (fa (wtG rfl rfl rfl h6) rfl ti38 rfl rfl ti36 rfl (ldB (v := .sc _) (wtG rfl rfl rfl h6) rfl rfl rfl ti36 rfl rfl (pu (v := .sc _) (wtG rfl rfl rfl h6) rfl (fun _ => rfl) (pu (v := .sc _) (wtG rfl rfl rfl h6) rfl (fun _ => rfl) (pkF (v := bV (decide ((mx2 b.Lo b.Hi) > 1152921504606846976))) rfl rfl h6 rfl (pS rfl (RunC.fin ?_))))))))
     have hR := Option.some.inj hR; subst hR
     exact Weak.turnL [(0, 0)] [] rfl rfl (tc (trP' rfl rfl rfl rfl) (tc (.sc _) tn)) (mc rfl (.box rfl .z3 rfl) mn)
   ·refine AWP.cd hR rfl (fun h7 hR => ?_) fun h7 hR => ?_
    ·refine AWP.sq (AWP.rgC 5 rfl rfl (pS rfl (RunC.fin (AWP.ret (rtB (rtT ?_))))))
     have hR := Option.some.inj hR; subst hR
     exact hQ _ _ (LS.mk [(2, iV 4)] (lblks 0 []) 0) (iV 4) [] (.inr rfl) (Weak.turnL [] [] rfl rfl (tc (.sc _) tn) mn) (ro1 (rvT (v := iV 4) rfl)) rfl rfl (.sc _) pn
    ·refine AWP.sq (AWP.rgC 25 rfl rfl (fa rfl rfl ti38 rfl rfl ti36 rfl (ldB (v := .sc _) rfl rfl rfl rfl ti36 rfl rfl (fa rfl rfl ti38 rfl rfl ti36 rfl (ldB (v := .sc _) rfl rfl rfl rfl ti36 rfl rfl (pS rfl (pS rfl (RunC.fin (AWP.cd hR rfl (fun h8 hR => ?_) fun h8 hR => ?_)))))))))
     ·refine AWP.sq (AWP.rgC 29 rfl rfl (pS rfl (RunC.fin (AWP.ret (rtB (rtT ?_))))))
      have hR := Option.some.inj hR; subst hR
      exact hQ _ _ (LS.mk [(2, iV 11)] (lblks 0 []) 0) (iV 11) [] (.inr rfl) (Weak.turnL [] [] rfl rfl (tc (.sc _) tn) mn) (ro1 (rvT (v := iV 11) rfl)) rfl rfl (.sc _) pn
     ·refine AWP.skip (skB ?_)
      refine skT (AWP.sq (AWP.rgC 29 rfl rfl (pS rfl (RunC.fin (AWP.ret ?_)))))
      have hR := Option.some.inj hR; subst hR
      exact hQ _ _ (LS.mk [(2, iV 0)] (lblks 0 []) 0) (iV 0) [] (.inr rfl) (Weak.turnL [] [] rfl rfl (tc (.sc _) tn) mn) (ro1 (rvT (v := iV 0) rfl)) rfl rfl (.sc _) pn
theorem ok35 (s : Seen) (r : Int) (hR : tracklet_CheckSeen s = some r) : FnP Try.prog 35 [aggV false s] (.sc (.int .i64 r)) := by
 refine fnP_of (FnX.walk Try.func35 rfl 85 0 (by simp [Try.ntmps35]) rfl fun W S F Q hQ => ?_)
 unfold tracklet_CheckSeen at hR
 refine AWP.sq (AWP.rgC 8 rfl rfl (bx (cs := _) 0 rfl rfl rfl (pS rfl (RunC.fin (AWP.sq (AWP.sq (AWP.rgC 24 rfl rfl (fa rfl rfl ti40 rfl rfl ti28 rfl (ldB (v := .agg _) rfl rfl rfl rfl ti28 rfl rfl ?_)))))))))
 obtain ⟨r1, hr1, hR⟩ := bindE hR
 refine cls [] rfl rfl cb62 (ok62 s.At _ hr1) (.cons (.agg .z3 rfl) (.nil)) (.inr rfl) rfl (pS rfl (RunC.fin (AWP.sq (AWP.rgC 32 rfl rfl (pS rfl (pS rfl (RunC.fin (AWP.cd hR rfl (fun h2 hR => ?_) fun h2 hR => ?_))))))))
 ·refine AWP.sq (AWP.rgC 40 rfl rfl (pS rfl (pS rfl (RunC.fin (AWP.ret (rtT ?_))))))
  have hR := Option.some.inj hR; subst hR
  exact hQ _ _ (LS.mk [(2, iV r1)] (lblks 0 []) 0) (iV r1) [] (.inr rfl) (Weak.turnL [] [] rfl rfl (tc (.sc _) tn) mn) (ro1 (rvT (v := iV r1) rfl)) rfl rfl (.sc _) pn
 ·refine AWP.skip (skT (AWP.sq (AWP.block (AWP.sq (AWP.rgC 48 rfl rfl (fa rfl rfl ti40 rfl rfl ti28 rfl (fa rfl rfl ti28 rfl rfl ti4 rfl (ldB (v := .sc _) rfl rfl rfl rfl ti4 rfl rfl (pS rfl (RunC.fin (AWP.cd hR rfl (fun h3 hR => ?_) fun h3 hR => ?_)))))))))))
  ·refine AWP.sq (AWP.rgC 52 rfl rfl (pS rfl (RunC.fin (AWP.ret (rtB (rtT ?_))))))
   have hR := Option.some.inj hR; subst hR
   exact hQ _ _ (LS.mk [(2, iV 1)] (lblks 0 []) 0) (iV 1) [] (.inr rfl) (Weak.turnL [] [] rfl rfl (tc (.sc _) tn) mn) (ro1 (rvT (v := iV 1) rfl)) rfl rfl (.sc _) pn
  ·refine AWP.joinX (fun z4 : Bool => LS.mk [(1, .ptr 0 0 0), (17, bV z4)] (lblks 0 [boxB (α := Seen) true s]) 1) hR (fun o4 hR => ?_) fun z4 hR => ?_
   ·refine AWP.rgC 92 rfl rfl (fa rfl rfl ti40 rfl rfl ti28 rfl (fa rfl rfl ti28 rfl rfl ti26 rfl (ldB (v := .sc _) rfl rfl rfl rfl ti26 rfl rfl (pS rfl (pS rfl (brR hR (fun h5 hR => ?_) fun h5 hR => ?_))))))
    ·refine sk (skW rfl rfl rfl h5) (sk (skW rfl rfl rfl h5) (sk (skW rfl rfl rfl h5) (sk (skW rfl rfl rfl h5) (pkT (v := bV true) rfl rfl h5 rfl (pS rfl (RunC.fin ?_))))))
     have hR := Option.some.inj hR; subst hR
     exact Weak.turnL [(0, 0)] [] rfl rfl (tc (trP' rfl rfl rfl rfl) (tc (.sc _) tn)) (mc rfl (.box rfl (.c9 .z9) rfl) mn)
    ·refine fa (wtG rfl rfl rfl h5) rfl ti40 rfl rfl ti28 rfl (fa (wtG rfl rfl rfl h5) rfl ti28 rfl rfl ti26 rfl (ldB (v := .sc _) (wtG rfl rfl rfl h5) rfl rfl rfl ti26 rfl rfl (pu (v := .sc _) (wtG rfl rfl rfl h5) rfl (fun _ => rfl) (pkF (v := bV (decide (s.At.Hi > 17592186044416))) rfl rfl h5 rfl (pS rfl (RunC.fin ?_))))))
     have hR := Option.some.inj hR; subst hR
     exact Weak.turnL [(0, 0)] [] rfl rfl (tc (trP' rfl rfl rfl rfl) (tc (.sc _) tn)) (mc rfl (.box rfl (.c9 .z9) rfl) mn)
   ·refine AWP.cd hR rfl (fun h6 hR => ?_) fun h6 hR => ?_
    ·refine AWP.sq (AWP.rgC 5 rfl rfl (pS rfl (RunC.fin (AWP.ret (rtB (rtT ?_))))))
     have hR := Option.some.inj hR; subst hR
     exact hQ _ _ (LS.mk [(2, iV 4)] (lblks 0 []) 0) (iV 4) [] (.inr rfl) (Weak.turnL [] [] rfl rfl (tc (.sc _) tn) mn) (ro1 (rvT (v := iV 4) rfl)) rfl rfl (.sc _) pn
    ·refine AWP.joinX (fun z7 : Bool => LS.mk [(1, .ptr 0 0 0), (28, bV z7)] (lblks 0 [boxB (α := Seen) true s]) 1) hR (fun o7 hR => ?_) fun z7 hR => ?_
     ·refine AWP.rgC 101 rfl rfl (fa rfl rfl ti40 rfl rfl ti30 rfl (fa rfl rfl ti30 rfl rfl ti2 rfl (ldB (v := .sc _) rfl rfl rfl rfl ti2 rfl rfl (fa rfl rfl ti40 rfl rfl ti30 rfl (fa rfl rfl ti30 rfl rfl ti2 rfl (ldB (v := .sc _) rfl rfl rfl rfl ti2 rfl rfl (fa rfl rfl ti40 rfl rfl ti30 rfl (fa rfl rfl ti30 rfl rfl ti2 rfl (ldB (v := .sc _) rfl rfl rfl rfl ti2 rfl rfl (pS rfl (pS rfl (pS rfl (brR hR (fun h8 hR => ?_) fun h8 hR => ?_)))))))))))))
      ·refine sk (skW rfl rfl rfl h8) (sk (skW rfl rfl rfl h8) (sk (skW rfl rfl rfl h8) (sk (skW rfl rfl rfl h8) (sk (skW rfl rfl rfl h8) (sk (skW rfl rfl rfl h8) (sk (skW rfl rfl rfl h8) (sk (skW rfl rfl rfl h8) (sk (skW rfl rfl rfl h8) (sk (skW rfl rfl rfl h8) (sk (skW rfl rfl rfl h8) (pkT (v := bV true) rfl rfl h8 rfl (pS rfl (RunC.fin ?_)))))))))))))
       have hR := Option.some.inj hR; subst hR
       exact Weak.turnL [(0, 0)] [] rfl rfl (tc (trP' rfl rfl rfl rfl) (tc (.sc _) tn)) (mc rfl (.box rfl (.c9 .z9) rfl) mn)
      ·refine fa (wtG rfl rfl rfl h8) rfl ti40 rfl rfl ti30 rfl (fa (wtG rfl rfl rfl h8) rfl ti30 rfl rfl ti2 rfl (ldB (v := .sc _) (wtG rfl rfl rfl h8) rfl rfl rfl ti2 rfl rfl (fa (wtG rfl rfl rfl h8) rfl ti40 rfl rfl ti30 rfl (fa (wtG rfl rfl rfl h8) rfl ti30 rfl rfl ti2 rfl (ldB (v := .sc _) (wtG rfl rfl rfl h8) rfl rfl rfl ti2 rfl rfl (fa (wtG rfl rfl rfl h8) rfl ti40 rfl rfl ti30 rfl (fa (wtG rfl rfl rfl h8) rfl ti30 rfl rfl ti2 rfl (ldB (v := .sc _) (wtG rfl rfl rfl h8) rfl rfl rfl ti2 rfl rfl (pu (v := .sc _) (wtG rfl rfl rfl h8) rfl (fun _ => rfl) (pu (v := .sc _) (wtG rfl rfl rfl h8) rfl (fun _ => rfl) (pkF (v := bV (decide ((mn2 (mn2 s.From.X s.From.Y) s.From.Z) < (-4194304)))) rfl rfl h8 rfl (pS rfl (RunC.fin ?_)))))))))))))
       have hR := Option.some.inj hR; subst hR
       exact Weak.turnL [(0, 0)] [] rfl rfl (tc (trP' rfl rfl rfl rfl) (tc (.sc _) tn)) (mc rfl (.box rfl (.c9 .z9) rfl) mn)
     ·refine AWP.cd hR rfl (fun h9 hR => ?_) fun h9 hR => ?_
      ·refine AWP.sq (AWP.rgC 5 rfl rfl (pS rfl (RunC.fin (AWP.ret (rtB (rtT ?_))))))
       have hR := Option.some.inj hR; subst hR
       exact hQ _ _ (LS.mk [(2, iV 4)] (lblks 0 []) 0) (iV 4) [] (.inr rfl) (Weak.turnL [] [] rfl rfl (tc (.sc _) tn) mn) (ro1 (rvT (v := iV 4) rfl)) rfl rfl (.sc _) pn
      ·refine AWP.skip (skB ?_)
       refine skT (AWP.sq (AWP.sq (AWP.rgC 49 rfl rfl (fa rfl rfl ti40 rfl rfl ti35 rfl (fa rfl rfl ti35 rfl rfl ti33 rfl (ldB (v := .agg _) rfl rfl rfl rfl ti33 rfl rfl (fa rfl rfl ti40 rfl rfl ti35 rfl (fa rfl rfl ti35 rfl rfl ti33 rfl (ldB (v := .agg _) rfl rfl rfl rfl ti33 rfl rfl (fa rfl rfl ti40 rfl rfl ti35 rfl (fa rfl rfl ti35 rfl rfl ti33 rfl (ldB (v := .agg _) rfl rfl rfl rfl ti33 rfl rfl (bs (α := Bound) 37 true ([s.Box.X, s.Box.Y, s.Box.Z] : List Bound) rfl rfl ti97 rfl ti33 rfl rfl rfl rfl rfl ?_)))))))))))))
       refine lenS (α := Bound) rfl rfl ti97 rfl ?_
       refine pS rfl (RunC.fin (AWP.loopK' (fun s10 : Int => LS.mk [(1, .ptr 0 0 0), (62, slV Bound 1 0 0 ([s.Box.X, s.Box.Y, s.Box.Z] : List Bound).length), (63, iV (([s.Box.X, s.Box.Y, s.Box.Z] : List Bound).length : Int)), (64, iV s10)] (lblks 0 [boxB (α := Seen) true s, arrB (α := Bound) 33 0 true ([s.Box.X, s.Box.Y, s.Box.Z] : List Bound)]) 2) (fun z11 : Unit => LS.mk [(1, .ptr 0 0 0)] (lblks 0 [boxB (α := Seen) true s]) 1) (tracklet_CheckSeen.l1 s) hR (s0 := 0) (Weak.turnL [(0, 0), (37, 0)] [] rfl rfl (tc (trP' rfl rfl rfl rfl) (tc (trS' rfl rfl rfl rfl rfl) (tc (.sc _) (tc (.sc _) tn)))) (mc rfl (.box rfl (.c9 .z9) rfl) (mc rfl (btrA' rfl) mn))) (fun s10 o10 hR hE10 => ?_) fun z11 hR => ?_))
       ·unfold tracklet_CheckSeen.l1 at hR
        refine AWP.sq (AWP.rgC 6 rfl rfl ?_)
        obtain ⟨v12, ev12, hR⟩ := letE hR
        refine pu (v := .sc _) rfl rfl (fun _ => puB ev12) (RunC.fin (AWP.sq (AWP.cd hR rfl (fun h13 hR => ?_) fun h13 hR => ?_)))
        ·refine AWP.skip (skT (AWP.sq (AWP.block (AWP.sq (AWP.rgC 22 rfl rfl ?_)))))
         obtain ⟨h14, hR⟩ := chkE hR
         refine ixS0 (α := Bound) rfl rfl rfl ti97 rfl ti33 rfl h14 ?_
         refine ldE (α := Bound) (v := .agg _) rfl rfl rfl (ixlt h14) ti33 rfl rfl rfl rfl ?_
         refine al (cs := [iV 0, iV 0, bV false]) 14 rfl rfl ti33 rfl rfl (stB (cs' := [iV (gt ([s.Box.X, s.Box.Y, s.Box.Z] : List Bound) s10).Lo, iV (gt ([s.Box.X, s.Box.Y, s.Box.Z] : List Bound) s10).Hi, bV (gt ([s.Box.X, s.Box.Y, s.Box.Z] : List Bound) s10).Unknown]) rfl rfl rfl rfl ti33 rfl rfl rfl rfl rfl (RunC.fin (AWP.sq (AWP.sq (AWP.rgC 34 rfl rfl (ldB (v := .agg _) rfl rfl rfl rfl ti33 rfl rfl ?_))))))
         obtain ⟨r15, hr15, hR⟩ := bindE hR
         refine cls [] rfl rfl cb63 (ok63 (gt ([s.Box.X, s.Box.Y, s.Box.Z] : List Bound) s10) _ hr15) (.cons (.agg .z3 rfl) (.nil)) (.inr rfl) rfl (pS rfl (RunC.fin (AWP.sq (AWP.rgC 42 rfl rfl (pS rfl (pS rfl (RunC.fin (AWP.cd hR rfl (fun h16 hR => ?_) fun h16 hR => ?_))))))))
         ·refine AWP.sq (AWP.rgC 50 rfl rfl (pS rfl (pS rfl (RunC.fin (AWP.ret (rtT (rtB (rtT (rtT (rtB (rtT ?_)))))))))))
          replace hR := escL hR hE10
          refine rtT ?_
          have hR := Option.some.inj hR; subst hR
          exact hQ _ _ (LS.mk [(2, iV r15)] (lblks 0 []) 0) (iV r15) [] (.inr rfl) (Weak.turnL [] [] rfl rfl (tc (.sc _) tn) mn) (ro1 (rvT (v := iV r15) rfl)) rfl rfl (.sc _) pn
         ·refine AWP.skip (skT (AWP.joinX (fun z17 : Bool => LS.mk [(1, .ptr 0 0 0), (62, slV Bound 1 0 0 ([s.Box.X, s.Box.Y, s.Box.Z] : List Bound).length), (63, iV (([s.Box.X, s.Box.Y, s.Box.Z] : List Bound).length : Int)), (64, iV s10), (80, bV z17)] (lblks 0 [boxB (α := Seen) true s, arrB (α := Bound) 33 0 true ([s.Box.X, s.Box.Y, s.Box.Z] : List Bound)]) 2) hR (fun o17 hR => ?_) fun z17 hR => ?_))
          ·refine AWP.rgC 74 rfl rfl (fa rfl rfl ti33 rfl rfl ti31 rfl (ldB (v := .sc _) rfl rfl rfl rfl ti31 rfl rfl ?_))
           obtain ⟨v18, ev18, hR⟩ := letE hR
           refine pu (v := .sc _) rfl rfl (fun _ => puB ev18) (pS rfl (brR hR (fun h19 hR => ?_) fun h19 hR => ?_))
           ·refine sk (skW rfl rfl rfl h19) (sk (skW rfl rfl rfl h19) (sk (skW rfl rfl rfl h19) (pkT (v := bV true) rfl rfl h19 rfl (RunC.fin ?_))))
            have hR := Option.some.inj hR; subst hR
            exact Weak.turnL [(0, 0), (1, 0)] [] rfl rfl (tc (trP' rfl rfl rfl rfl) (tc (trS' rfl rfl rfl rfl rfl) (tc (.sc _) (tc (.sc _) (tc (.sc _) tn))))) (mc rfl (.box rfl (.c9 .z9) rfl) (mc rfl (btrA' rfl) mn))
           ·refine fa (wtG rfl rfl rfl h19) rfl ti33 rfl rfl ti31 rfl (ldB (v := .sc _) (wtG rfl rfl rfl h19) rfl rfl rfl ti31 rfl rfl ?_)
            obtain ⟨v20, ev20, hR⟩ := letE hR
            refine pu (v := .sc _) (wtG rfl rfl rfl h19) rfl (fun _ => puB ev20) (pkF (v := bV v20) rfl rfl h19 rfl (RunC.fin ?_))
            have hR := Option.some.inj hR; subst hR
            exact Weak.turnL [(0, 0), (1, 0)] [] rfl rfl (tc (trP' rfl rfl rfl rfl) (tc (trS' rfl rfl rfl rfl rfl) (tc (.sc _) (tc (.sc _) (tc (.sc _) tn))))) (mc rfl (.box rfl (.c9 .z9) rfl) (mc rfl (btrA' rfl) mn))
          ·refine AWP.cd hR rfl (fun h21 hR => ?_) fun h21 hR => ?_
           ·refine AWP.sq (AWP.rgC 6 rfl rfl (pS rfl (RunC.fin (AWP.ret (rtB (rtT (rtT (rtB (rtT ?_)))))))))
            replace hR := escL hR hE10
            refine rtT ?_
            have hR := Option.some.inj hR; subst hR
            exact hQ _ _ (LS.mk [(2, iV 4)] (lblks 0 []) 0) (iV 4) [] (.inr rfl) (Weak.turnL [] [] rfl rfl (tc (.sc _) tn) mn) (ro1 (rvT (v := iV 4) rfl)) rfl rfl (.sc _) pn
           ·refine AWP.skip (skB ?_)
            refine skT (AWP.rgC 10 rfl rfl (pS rfl (pS rfl (RunC.fin (⟨(w6 (s10 + 1)), (Option.some.inj hR).symm, ?_⟩)))))
            exact Weak.turnL [(0, 0), (1, 0)] [] rfl rfl (tc (trP' rfl rfl rfl rfl) (tc (trS' rfl rfl rfl rfl rfl) (tc (.sc _) (tc (.sc _) tn)))) (mc rfl (.box rfl (.c9 .z9) rfl) (mc rfl (btrA' rfl) mn))
        ·refine AWP.exit (exT (exT (exH (skT (⟨(), (Option.some.inj hR).symm, ?_⟩)))))
         exact Weak.turnL [(0, 0)] [] rfl rfl (tc (trP' rfl rfl rfl rfl) tn) (mc rfl (.box rfl (.c9 .z9) rfl) mn)
       ·refine skT (AWP.sq (AWP.rgC 17 rfl rfl (fa rfl rfl ti40 rfl rfl ti38 rfl (ldB (v := .agg _) rfl rfl rfl rfl ti38 rfl rfl ?_))))
        obtain ⟨r22, hr22, hR⟩ := bindE hR
        refine cls [] rfl rfl cb64 (ok64 s.Flux _ hr22) (.cons (.agg .z3 rfl) (.nil)) (.inr rfl) rfl (pS rfl (RunC.fin (AWP.ret ?_)))
        have hR := Option.some.inj hR; subst hR
        exact hQ _ _ (LS.mk [(2, iV r22)] (lblks 0 []) 0) (iV r22) [] (.inr rfl) (Weak.turnL [] [] rfl rfl (tc (.sc _) tn) mn) (ro1 (rvT (v := iV r22) rfl)) rfl rfl (.sc _) pn
theorem ok19 (s : Seen × Seen × Seen) (r : Int) (hR : arc_Check s = some r) : FnP Try.prog 19 [aggV false s] (.sc (.int .i64 r)) := by
 refine fnP_of (FnX.walk Try.func19 rfl 87 0 (by simp [Try.ntmps19]) rfl fun W S F Q hQ => ?_)
 unfold arc_Check at hR
 refine AWP.sq (AWP.rgC 8 rfl rfl (bx (cs := _) 0 rfl rfl rfl (pS rfl (RunC.fin (AWP.sq (AWP.sq (AWP.rgC 16 rfl rfl (ldB (v := .agg _) rfl rfl rfl rfl ti41 rfl rfl (pS rfl (RunC.fin (AWP.loopK' (fun s1 : Int => LS.mk [(1, .ptr 0 0 0), (10, aggV (α := Seen × Seen × Seen) true s), (11, iV s1)] (lblks 0 [boxB (α := Seen × Seen × Seen) true s]) 1) (fun z2 : Unit => LS.mk [(1, .ptr 0 0 0)] (lblks 0 [boxB (α := Seen × Seen × Seen) true s]) 1) (arc_Check.l1 s) hR (s0 := 0) (Weak.turnL [(0, 0)] [] rfl rfl (tc (trP' rfl rfl rfl rfl) (tc (.agg (.c9 (.c9 (.c9 (.c9 (.c9 .z9))))) rfl) (tc (.sc _) tn))) (mc rfl (.box rfl (.c9 (.c9 (.c9 (.c9 (.c9 .z9))))) rfl) mn)) (fun s1 o1 hR hE1 => ?_) fun z2 hR => ?_)))))))))))
 ·unfold arc_Check.l1 at hR
  refine AWP.sq (AWP.rgC 5 rfl rfl (pS rfl (RunC.fin (AWP.sq (AWP.cd hR rfl (fun h3 hR => ?_) fun h3 hR => ?_)))))
  ·refine AWP.skip (skT (AWP.sq (AWP.block (AWP.sq (AWP.rgC 17 rfl rfl ?_)))))
   obtain ⟨h4, hR⟩ := chkE hR
   refine ixD (α := Seen) (nw := true) (xs := ([s.1, s.2.1, s.2.2] : List Seen)) (v := .agg _) rfl rfl rfl rfl ti41 rfl ti40 h4 rfl rfl rfl ?_
   refine al (cs := [iV 0, iV 0, bV false, iV 0, iV 0, iV 0, iV 0, iV 0, bV false, iV 0, iV 0, bV false, iV 0, iV 0, bV false, iV 0, iV 0, bV false]) 9 rfl rfl ti40 rfl rfl (stB (cs' := [iV (gt ([s.1, s.2.1, s.2.2] : List Seen) s1).At.Lo, iV (gt ([s.1, s.2.1, s.2.2] : List Seen) s1).At.Hi, bV (gt ([s.1, s.2.1, s.2.2] : List Seen) s1).At.Unknown, iV (gt ([s.1, s.2.1, s.2.2] : List Seen) s1).From.X, iV (gt ([s.1, s.2.1, s.2.2] : List Seen) s1).From.Y, iV (gt ([s.1, s.2.1, s.2.2] : List Seen) s1).From.Z, iV (gt ([s.1, s.2.1, s.2.2] : List Seen) s1).Box.X.Lo, iV (gt ([s.1, s.2.1, s.2.2] : List Seen) s1).Box.X.Hi, bV (gt ([s.1, s.2.1, s.2.2] : List Seen) s1).Box.X.Unknown, iV (gt ([s.1, s.2.1, s.2.2] : List Seen) s1).Box.Y.Lo, iV (gt ([s.1, s.2.1, s.2.2] : List Seen) s1).Box.Y.Hi, bV (gt ([s.1, s.2.1, s.2.2] : List Seen) s1).Box.Y.Unknown, iV (gt ([s.1, s.2.1, s.2.2] : List Seen) s1).Box.Z.Lo, iV (gt ([s.1, s.2.1, s.2.2] : List Seen) s1).Box.Z.Hi, bV (gt ([s.1, s.2.1, s.2.2] : List Seen) s1).Box.Z.Unknown, iV (gt ([s.1, s.2.1, s.2.2] : List Seen) s1).Flux.Lo, iV (gt ([s.1, s.2.1, s.2.2] : List Seen) s1).Flux.Hi, bV (gt ([s.1, s.2.1, s.2.2] : List Seen) s1).Flux.Unknown]) rfl rfl rfl rfl ti40 rfl rfl rfl rfl rfl (RunC.fin (AWP.sq (AWP.sq (AWP.rgC 29 rfl rfl (ldB (v := .agg _) rfl rfl rfl rfl ti40 rfl rfl ?_))))))
   obtain ⟨r5, hr5, hR⟩ := bindE hR
   refine cls [] rfl rfl cb35 (ok35 (gt ([s.1, s.2.1, s.2.2] : List Seen) s1) _ hr5) (.cons (.agg (.c9 .z9) rfl) (.nil)) (.inr rfl) rfl (pS rfl (RunC.fin (AWP.sq (AWP.rgC 37 rfl rfl (pS rfl (pS rfl (RunC.fin (AWP.cd hR rfl (fun h6 hR => ?_) fun h6 hR => ?_))))))))
   ·refine AWP.sq (AWP.rgC 45 rfl rfl (pS rfl (pS rfl (RunC.fin (AWP.ret (rtT (rtB (rtT (rtT (rtB (rtT ?_)))))))))))
    replace hR := escL hR hE1
    refine rtT ?_
    have hR := Option.some.inj hR; subst hR
    exact hQ _ _ (LS.mk [(2, iV r5)] (lblks 0 []) 0) (iV r5) [] (.inr rfl) (Weak.turnL [] [] rfl rfl (tc (.sc _) tn) mn) (ro1 (rvT (v := iV r5) rfl)) rfl rfl (.sc _) pn
   ·refine AWP.skip (skT (AWP.block (AWP.joinX (fun z7 : Bool => LS.mk [(1, .ptr 0 0 0), (4, .ptr 1 0 0), (10, aggV (α := Seen × Seen × Seen) true s), (11, iV s1), (19, bV z7)] (lblks 0 [boxB (α := Seen × Seen × Seen) true s, boxB (α := Seen) true (gt ([s.1, s.2.1, s.2.2] : List Seen) s1)]) 2) hR (fun o7 hR => ?_) fun z7 hR => ?_)))
    ·refine AWP.rgC 97 rfl rfl (fa rfl rfl ti40 rfl rfl ti28 rfl (fa rfl rfl ti28 rfl rfl ti26 rfl (ldB (v := .sc _) rfl rfl rfl rfl ti26 rfl rfl (fa rfl rfl ti40 rfl rfl ti28 rfl (fa rfl rfl ti28 rfl rfl ti26 rfl (ldB (v := .sc _) rfl rfl rfl rfl ti26 rfl rfl ?_))))))
     obtain ⟨v8, ev8, hR⟩ := letE hR
     refine pu (v := .sc _) rfl rfl (fun _ => puB ev8) (pS rfl (brR hR (fun h9 hR => ?_) fun h9 hR => ?_))
     ·refine sk (skW rfl rfl rfl h9) (sk (skW rfl rfl rfl h9) (sk (skW rfl rfl rfl h9) (sk (skW rfl rfl rfl h9) (sk (skW rfl rfl rfl h9) (pkT (v := bV true) rfl rfl h9 rfl (pS rfl (RunC.fin ?_)))))))
      have hR := Option.some.inj hR; subst hR
      exact Weak.turnL [(0, 0), (9, 0)] [] rfl rfl (tc (trP' rfl rfl rfl rfl) (tc (trP' rfl rfl rfl rfl) (tc (.agg (.c9 (.c9 (.c9 (.c9 (.c9 .z9))))) rfl) (tc (.sc _) (tc (.sc _) tn))))) (mc rfl (.box rfl (.c9 (.c9 (.c9 (.c9 (.c9 .z9))))) rfl) (mc rfl (.box rfl (.c9 .z9) rfl) mn))
     ·refine fa (wtG rfl rfl rfl h9) rfl ti40 rfl rfl ti28 rfl (fa (wtG rfl rfl rfl h9) rfl ti28 rfl rfl ti26 rfl (ldB (v := .sc _) (wtG rfl rfl rfl h9) rfl rfl rfl ti26 rfl rfl ?_))
      obtain ⟨v10, ev10, hR⟩ := letE hR
      refine rm (wtG rfl rfl rfl h9) rfl rfl (by decide) ev10 ?_
      refine pu (v := .sc _) (wtG rfl rfl rfl h9) rfl (fun _ => rfl) (pkF (v := bV (v10 != 0)) rfl rfl h9 rfl (pS rfl (RunC.fin ?_)))
      have hR := Option.some.inj hR; subst hR
      exact Weak.turnL [(0, 0), (9, 0)] [] rfl rfl (tc (trP' rfl rfl rfl rfl) (tc (trP' rfl rfl rfl rfl) (tc (.agg (.c9 (.c9 (.c9 (.c9 (.c9 .z9))))) rfl) (tc (.sc _) (tc (.sc _) tn))))) (mc rfl (.box rfl (.c9 (.c9 (.c9 (.c9 (.c9 .z9))))) rfl) (mc rfl (.box rfl (.c9 .z9) rfl) mn))
    ·refine AWP.cd hR rfl (fun h11 hR => ?_) fun h11 hR => ?_
     ·refine AWP.sq (AWP.rgC 6 rfl rfl (pS rfl (RunC.fin (AWP.ret (rtB (rtB (rtT (rtT (rtB (rtT ?_))))))))))
      replace hR := escL hR hE1
      refine rtT ?_
      have hR := Option.some.inj hR; subst hR
      exact hQ _ _ (LS.mk [(2, iV 1)] (lblks 0 []) 0) (iV 1) [] (.inr rfl) (Weak.turnL [] [] rfl rfl (tc (.sc _) tn) mn) (ro1 (rvT (v := iV 1) rfl)) rfl rfl (.sc _) pn
     ·refine AWP.joinX (fun z12 : Bool => LS.mk [(1, .ptr 0 0 0), (10, aggV (α := Seen × Seen × Seen) true s), (11, iV s1), (34, bV z12)] (lblks 0 [boxB (α := Seen × Seen × Seen) true s]) 1) hR (fun o12 hR => ?_) fun z12 hR => ?_
      ·refine AWP.rgC 70 rfl rfl (fa rfl rfl ti40 rfl rfl ti35 rfl (fa rfl rfl ti35 rfl rfl ti33 rfl (fa rfl rfl ti33 rfl rfl ti4 rfl (ldB (v := .sc _) rfl rfl rfl rfl ti4 rfl rfl (pS rfl (brR hR (fun h13 hR => ?_) fun h13 hR => ?_))))))
       ·refine sk (skW rfl rfl rfl h13) (sk (skW rfl rfl rfl h13) (sk (skW rfl rfl rfl h13) (sk (skW rfl rfl rfl h13) (pkT (v := bV true) rfl rfl h13 rfl (pS rfl (sk (skW rfl rfl rfl rfl) (sk (skW rfl rfl rfl rfl) (sk (skW rfl rfl rfl rfl) (sk (skW rfl rfl rfl rfl) (pkT (v := bV true) rfl rfl rfl rfl (pS rfl (RunC.fin ?_))))))))))))
        have hR := Option.some.inj hR; subst hR
        exact Weak.turnL [(0, 0)] [] rfl rfl (tc (trP' rfl rfl rfl rfl) (tc (.agg (.c9 (.c9 (.c9 (.c9 (.c9 .z9))))) rfl) (tc (.sc _) (tc (.sc _) tn)))) (mc rfl (.box rfl (.c9 (.c9 (.c9 (.c9 (.c9 .z9))))) rfl) mn)
       ·refine fa (wtG rfl rfl rfl h13) rfl ti40 rfl rfl ti35 rfl (fa (wtG rfl rfl rfl h13) rfl ti35 rfl rfl ti33 rfl (fa (wtG rfl rfl rfl h13) rfl ti33 rfl rfl ti4 rfl (ldB (v := .sc _) (wtG rfl rfl rfl h13) rfl rfl rfl ti4 rfl rfl (pkF (v := bV (gt ([s.1, s.2.1, s.2.2] : List Seen) s1).Box.Y.Unknown) rfl rfl h13 rfl (pS rfl (brR hR (fun h14 hR => ?_) fun h14 hR => ?_))))))
        ·refine sk (skW rfl rfl rfl h14) (sk (skW rfl rfl rfl h14) (sk (skW rfl rfl rfl h14) (sk (skW rfl rfl rfl h14) (pkT (v := bV true) rfl rfl h14 rfl (pS rfl (RunC.fin ?_))))))
         have hR := Option.some.inj hR; subst hR
         exact Weak.turnL [(0, 0)] [] rfl rfl (tc (trP' rfl rfl rfl rfl) (tc (.agg (.c9 (.c9 (.c9 (.c9 (.c9 .z9))))) rfl) (tc (.sc _) (tc (.sc _) tn)))) (mc rfl (.box rfl (.c9 (.c9 (.c9 (.c9 (.c9 .z9))))) rfl) mn)
        ·refine fa (wtG rfl rfl rfl h14) rfl ti40 rfl rfl ti35 rfl (fa (wtG rfl rfl rfl h14) rfl ti35 rfl rfl ti33 rfl (fa (wtG rfl rfl rfl h14) rfl ti33 rfl rfl ti4 rfl (ldB (v := .sc _) (wtG rfl rfl rfl h14) rfl rfl rfl ti4 rfl rfl (pkF (v := bV (gt ([s.1, s.2.1, s.2.2] : List Seen) s1).Box.Z.Unknown) rfl rfl h14 rfl (pS rfl (RunC.fin ?_))))))
         have hR := Option.some.inj hR; subst hR
         exact Weak.turnL [(0, 0)] [] rfl rfl (tc (trP' rfl rfl rfl rfl) (tc (.agg (.c9 (.c9 (.c9 (.c9 (.c9 .z9))))) rfl) (tc (.sc _) (tc (.sc _) tn)))) (mc rfl (.box rfl (.c9 (.c9 (.c9 (.c9 (.c9 .z9))))) rfl) mn)
      ·refine AWP.cd hR rfl (fun h15 hR => ?_) fun h15 hR => ?_
       ·refine AWP.sq (AWP.rgC 5 rfl rfl (pS rfl (RunC.fin (AWP.ret (rtB (rtB (rtT (rtT (rtB (rtT ?_))))))))))
        replace hR := escL hR hE1
        refine rtT ?_
        have hR := Option.some.inj hR; subst hR
        exact hQ _ _ (LS.mk [(2, iV 10)] (lblks 0 []) 0) (iV 10) [] (.inr rfl) (Weak.turnL [] [] rfl rfl (tc (.sc _) tn) mn) (ro1 (rvT (v := iV 10) rfl)) rfl rfl (.sc _) pn
       ·refine AWP.skip (skB ?_)
        refine skB ?_
        refine skT (AWP.rgC 9 rfl rfl (pS rfl (pS rfl (RunC.fin (⟨(w6 (s1 + 1)), (Option.some.inj hR).symm, ?_⟩)))))
        exact Weak.turnL [(0, 0)] [] rfl rfl (tc (trP' rfl rfl rfl rfl) (tc (.agg (.c9 (.c9 (.c9 (.c9 (.c9 .z9))))) rfl) (tc (.sc _) tn))) (mc rfl (.box rfl (.c9 (.c9 (.c9 (.c9 (.c9 .z9))))) rfl) mn)
  ·refine AWP.exit (exT (exT (exH (skT (⟨(), (Option.some.inj hR).symm, ?_⟩)))))
   exact Weak.turnL [(0, 0)] [] rfl rfl (tc (trP' rfl rfl rfl rfl) tn) (mc rfl (.box rfl (.c9 (.c9 (.c9 (.c9 (.c9 .z9))))) rfl) mn)
 ·refine skT (AWP.sq (AWP.joinX (fun z16 : Bool => LS.mk [(1, .ptr 0 0 0), (73, bV z16)] (lblks 0 [boxB (α := Seen × Seen × Seen) true s]) 1) hR (fun o16 hR => ?_) fun z16 hR => ?_))
  ·refine AWP.rgC 89 rfl rfl (iaP (o' := 18) rfl rfl rfl ti41 rfl ti40 (by decide) rfl (fa rfl rfl ti40 rfl rfl ti28 rfl (fa rfl rfl ti28 rfl rfl ti26 rfl (ldB (v := .sc _) rfl rfl rfl rfl ti26 rfl rfl (iaP (o' := 0) rfl rfl rfl ti41 rfl ti40 (by decide) rfl (fa rfl rfl ti40 rfl rfl ti28 rfl (fa rfl rfl ti28 rfl rfl ti26 rfl (ldB (v := .sc _) rfl rfl rfl rfl ti26 rfl rfl (pS rfl (pS rfl (pS rfl (brR hR (fun h17 hR => ?_) fun h17 hR => ?_))))))))))))
   ·refine sk (skW rfl rfl rfl h17) (sk (skW rfl rfl rfl h17) (sk (skW rfl rfl rfl h17) (sk (skW rfl rfl rfl h17) (sk (skW rfl rfl rfl h17) (sk (skW rfl rfl rfl h17) (sk (skW rfl rfl rfl h17) (sk (skW rfl rfl rfl h17) (sk (skW rfl rfl rfl h17) (sk (skW rfl rfl rfl h17) (pkT (v := bV true) rfl rfl h17 rfl (RunC.fin ?_)))))))))))
    have hR := Option.some.inj hR; subst hR
    exact Weak.turnL [(0, 0)] [] rfl rfl (tc (trP' rfl rfl rfl rfl) (tc (.sc _) tn)) (mc rfl (.box rfl (.c9 (.c9 (.c9 (.c9 (.c9 .z9))))) rfl) mn)
   ·refine iaP (o' := 36) (wtG rfl rfl rfl h17) rfl rfl ti41 rfl ti40 (by decide) rfl (fa (wtG rfl rfl rfl h17) rfl ti40 rfl rfl ti28 rfl (fa (wtG rfl rfl rfl h17) rfl ti28 rfl rfl ti26 rfl (ldB (v := .sc _) (wtG rfl rfl rfl h17) rfl rfl rfl ti26 rfl rfl (iaP (o' := 18) (wtG rfl rfl rfl h17) rfl rfl ti41 rfl ti40 (by decide) rfl (fa (wtG rfl rfl rfl h17) rfl ti40 rfl rfl ti28 rfl (fa (wtG rfl rfl rfl h17) rfl ti28 rfl rfl ti26 rfl (ldB (v := .sc _) (wtG rfl rfl rfl h17) rfl rfl rfl ti26 rfl rfl (pu (v := .sc _) (wtG rfl rfl rfl h17) rfl (fun _ => rfl) (pu (v := .sc _) (wtG rfl rfl rfl h17) rfl (fun _ => rfl) (pkF (v := bV ((w6 (s.2.2.At.Lo - s.2.1.At.Lo)) != 86400000)) rfl rfl h17 rfl (RunC.fin ?_)))))))))))
    have hR := Option.some.inj hR; subst hR
    exact Weak.turnL [(0, 0)] [] rfl rfl (tc (trP' rfl rfl rfl rfl) (tc (.sc _) tn)) (mc rfl (.box rfl (.c9 (.c9 (.c9 (.c9 (.c9 .z9))))) rfl) mn)
  ·refine AWP.cd hR rfl (fun h18 hR => ?_) fun h18 hR => ?_
   ·refine AWP.sq (AWP.rgC 5 rfl rfl (pS rfl (RunC.fin (AWP.ret (rtT ?_)))))
    have hR := Option.some.inj hR; subst hR
    exact hQ _ _ (LS.mk [(2, iV 11)] (lblks 0 []) 0) (iV 11) [] (.inr rfl) (Weak.turnL [] [] rfl rfl (tc (.sc _) tn) mn) (ro1 (rvT (v := iV 11) rfl)) rfl rfl (.sc _) pn
   ·refine AWP.skip (skT (AWP.sq (AWP.sq (AWP.rgC 9 rfl rfl (ldB (v := .agg _) rfl rfl rfl rfl ti41 rfl rfl (pS rfl (RunC.fin (AWP.loopK' (fun s19 : Int => LS.mk [(74, aggV (α := Seen × Seen × Seen) true s), (75, iV s19)] (lblks 0 []) 0) (fun z20 : Unit => LS.mk [] (lblks 0 []) 0) (arc_Check.l2 s) hR (s0 := 0) (Weak.turnL [] [] rfl rfl (tc (.agg (.c9 (.c9 (.c9 (.c9 (.c9 .z9))))) rfl) (tc (.sc _) tn)) mn) (fun s19 o19 hR hE19 => ?_) fun z20 hR => ?_))))))))
    ·unfold arc_Check.l2 at hR
     refine AWP.sq (AWP.rgC 4 rfl rfl (pS rfl (RunC.fin (AWP.sq (AWP.cd hR rfl (fun h21 hR => ?_) fun h21 hR => ?_)))))
     ·refine AWP.skip (skT (AWP.sq (AWP.block (AWP.sq (AWP.rgC 16 rfl rfl ?_)))))
      obtain ⟨h22, hR⟩ := chkE hR
      refine ixD (α := Seen) (nw := true) (xs := ([s.1, s.2.1, s.2.2] : List Seen)) (v := .agg _) rfl rfl rfl rfl ti41 rfl ti40 h22 rfl rfl rfl ?_
      refine al (cs := [iV 0, iV 0, bV false, iV 0, iV 0, iV 0, iV 0, iV 0, bV false, iV 0, iV 0, bV false, iV 0, iV 0, bV false, iV 0, iV 0, bV false]) 8 rfl rfl ti40 rfl rfl (stB (cs' := [iV (gt ([s.1, s.2.1, s.2.2] : List Seen) s19).At.Lo, iV (gt ([s.1, s.2.1, s.2.2] : List Seen) s19).At.Hi, bV (gt ([s.1, s.2.1, s.2.2] : List Seen) s19).At.Unknown, iV (gt ([s.1, s.2.1, s.2.2] : List Seen) s19).From.X, iV (gt ([s.1, s.2.1, s.2.2] : List Seen) s19).From.Y, iV (gt ([s.1, s.2.1, s.2.2] : List Seen) s19).From.Z, iV (gt ([s.1, s.2.1, s.2.2] : List Seen) s19).Box.X.Lo, iV (gt ([s.1, s.2.1, s.2.2] : List Seen) s19).Box.X.Hi, bV (gt ([s.1, s.2.1, s.2.2] : List Seen) s19).Box.X.Unknown, iV (gt ([s.1, s.2.1, s.2.2] : List Seen) s19).Box.Y.Lo, iV (gt ([s.1, s.2.1, s.2.2] : List Seen) s19).Box.Y.Hi, bV (gt ([s.1, s.2.1, s.2.2] : List Seen) s19).Box.Y.Unknown, iV (gt ([s.1, s.2.1, s.2.2] : List Seen) s19).Box.Z.Lo, iV (gt ([s.1, s.2.1, s.2.2] : List Seen) s19).Box.Z.Hi, bV (gt ([s.1, s.2.1, s.2.2] : List Seen) s19).Box.Z.Unknown, iV (gt ([s.1, s.2.1, s.2.2] : List Seen) s19).Flux.Lo, iV (gt ([s.1, s.2.1, s.2.2] : List Seen) s19).Flux.Hi, bV (gt ([s.1, s.2.1, s.2.2] : List Seen) s19).Flux.Unknown]) rfl rfl rfl rfl ti40 rfl rfl rfl rfl rfl (RunC.fin (AWP.sq (AWP.rgC 52 rfl rfl (fa rfl rfl ti40 rfl rfl ti35 rfl (ldB (v := .agg _) rfl rfl rfl rfl ti35 rfl rfl ?_))))))
      obtain ⟨r23, hr23, hR⟩ := bindE hR
      refine cls [] rfl rfl cb17 (ok17 (gt ([s.1, s.2.1, s.2.2] : List Seen) s19).Box _ hr23) (.cons (.agg .z9 rfl) (.nil)) (.inr rfl) rfl (pu (v := .tup _) rfl rfl (fun _ => rfl) (pu (v := .agg _) rfl rfl (fun _ => rfl) (pS rfl (al (cs := [iV 0, iV 0, bV false, iV 0, iV 0, bV false, iV 0, iV 0, bV false]) 40 rfl rfl ti68 rfl rfl (stB (cs' := [iV r23.1.1.Lo, iV r23.1.1.Hi, bV r23.1.1.Unknown, iV r23.1.2.1.Lo, iV r23.1.2.1.Hi, bV r23.1.2.1.Unknown, iV r23.1.2.2.Lo, iV r23.1.2.2.Hi, bV r23.1.2.2.Unknown]) rfl rfl rfl rfl ti68 rfl rfl rfl rfl rfl (pS rfl (RunC.fin (AWP.sq (AWP.rgC 60 rfl rfl (pS rfl (pS rfl (RunC.fin (AWP.cd hR rfl (fun h24 hR => ?_) fun h24 hR => ?_)))))))))))))
      ·refine AWP.sq (AWP.rgC 64 rfl rfl (pS rfl (RunC.fin (AWP.ret (rtB (rtT (rtT (rtB (rtT ?_)))))))))
       replace hR := escL hR hE19
       refine rtT ?_
       have hR := Option.some.inj hR; subst hR
       exact hQ _ _ (LS.mk [(2, iV 3)] (lblks 0 []) 0) (iV 3) [] (.inr rfl) (Weak.turnL [] [] rfl rfl (tc (.sc _) tn) mn) (ro1 (rvT (v := iV 3) rfl)) rfl rfl (.sc _) pn
      ·refine AWP.skip (skB ?_)
       refine skT (AWP.rgC 68 rfl rfl (pS rfl (pS rfl (RunC.fin (⟨(w6 (s19 + 1)), (Option.some.inj hR).symm, ?_⟩)))))
       exact Weak.turnL [] [] rfl rfl (tc (.agg (.c9 (.c9 (.c9 (.c9 (.c9 .z9))))) rfl) (tc (.sc _) tn)) mn
     ·refine AWP.exit (exT (exT (exH (skT (⟨(), (Option.some.inj hR).symm, ?_⟩)))))
      exact Weak.turnL [] [] rfl rfl tn mn
    ·refine skT (AWP.sq (AWP.rgC 4 rfl rfl (pS rfl (RunC.fin (AWP.ret ?_)))))
     have hR := Option.some.inj hR; subst hR
     exact hQ _ _ (LS.mk [(2, iV 0)] (lblks 0 []) 0) (iV 0) [] (.inr rfl) (Weak.turnL [] [] rfl rfl (tc (.sc _) tn) mn) (ro1 (rvT (v := iV 0) rfl)) rfl rfl (.sc _) pn
theorem ok66 (a : Bound) (b : Bound) (r : Bound) (hR : bound_Sub a b = some r) : FnP Try.prog 66 [aggV false a, aggV false b] (aggV (α := Bound) true r) := by
 refine fnP_of (FnX.walk Try.func66 rfl 9 0 (by simp [Try.ntmps66]) rfl fun W S F Q hQ => ?_)
 unfold bound_Sub at hR
 refine AWP.sq (AWP.rgC 12 rfl rfl (bx (cs := _) 0 rfl rfl rfl (bx (cs := _) 4 rfl rfl rfl (al (cs := [iV 0, iV 0, bV false]) 8 rfl rfl ti33 rfl rfl (RunC.fin (AWP.sq (AWP.rgD 32 [0, 0, 2, 7, 15] ⟨[], [some [0], some [4], none, none, some [8]]⟩ hmix (by kernel_rfl) rfl rfl ?_)))))))
 refine ldB (v := .agg _) rfl rfl rfl rfl ti33 rfl rfl (ldB (v := .agg _) rfl rfl rfl rfl ti33 rfl rfl ?_)
 obtain ⟨r1, hr1, hR⟩ := bindE hR
 refine cls [] rfl rfl cb56 (ok56 b _ hr1) (.cons (.agg .z3 rfl) (.nil)) (.inr rfl) rfl ?_
 obtain ⟨r2, hr2, hR⟩ := bindE hR
 refine cls [] rfl rfl cb74 (ok74 a r1 _ hr2) (.cons (.agg .z3 rfl) (.cons (.agg .z3 rfl) (.nil))) (.inr rfl) rfl (stB (cs' := [iV r2.Lo, iV r2.Hi, bV r2.Unknown]) rfl rfl rfl rfl ti33 rfl rfl rfl rfl rfl (RunC.fin (AWP.ret ?_)))
 have hR := Option.some.inj hR; subst hR
 exact hQ _ _ (LS.mk [(4, .ptr 0 0 0)] (lblks 0 [boxB (α := Bound) true r2]) 1) (aggV (α := Bound) true r2) [] (.inr rfl) (Weak.turnL [(8, 0)] [] rfl rfl (tc (trP' rfl rfl rfl rfl) tn) (mc rfl (.box rfl .z3 rfl) mn)) (ro1 (rvC (v := aggV (α := Bound) true r2) rfl rfl ti33 rfl)) rfl rfl ldA pn
theorem ok37 (a : Bound × Bound × Bound) (b : Bound × Bound × Bound) (r : (Bound × Bound × Bound)) (hR : arc_minus a b = some r) : FnP Try.prog 37 [aggV false a, aggV false b] (aggV (α := Bound × Bound × Bound) true r) := by
 refine fnP_of (FnX.walk Try.func37 rfl 21 0 (by simp [Try.ntmps37]) rfl fun W S F Q hQ => ?_)
 unfold arc_minus at hR
 refine AWP.sq (AWP.rgC 12 rfl rfl (bx (cs := _) 0 rfl rfl rfl (bx (cs := _) 4 rfl rfl rfl (al (cs := [iV 0, iV 0, bV false, iV 0, iV 0, bV false, iV 0, iV 0, bV false]) 8 rfl rfl ti68 rfl rfl (RunC.fin (AWP.sq (AWP.rgD 80 [0, 1, 0, 4, 15, 0, 32, 0, 128, 511, 0, 1024, 0, 4096, 16383, 32767, 65535] ⟨[], [none, some [0], none, some [4], none, none, some [0], none, some [4], none, none, some [0], none, some [4], none, none, some [8]]⟩ hmix (by kernel_rfl) rfl rfl ?_)))))))
 refine iaP (o' := 0) rfl rfl rfl ti68 rfl ti33 (by decide) rfl (ldB (v := .agg _) rfl rfl rfl rfl ti33 rfl rfl (iaP (o' := 0) rfl rfl rfl ti68 rfl ti33 (by decide) rfl (ldB (v := .agg _) rfl rfl rfl rfl ti33 rfl rfl ?_)))
 obtain ⟨r1, hr1, hR⟩ := bindE hR
 refine cls [] rfl rfl cb66 (ok66 a.1 b.1 _ hr1) (.cons (.agg .z3 rfl) (.cons (.agg .z3 rfl) (.nil))) (.inr rfl) rfl (iaP (o' := 3) rfl rfl rfl ti68 rfl ti33 (by decide) rfl (ldB (v := .agg _) rfl rfl rfl rfl ti33 rfl rfl (iaP (o' := 3) rfl rfl rfl ti68 rfl ti33 (by decide) rfl (ldB (v := .agg _) rfl rfl rfl rfl ti33 rfl rfl ?_))))
 obtain ⟨r2, hr2, hR⟩ := bindE hR
 refine cls [] rfl rfl cb66 (ok66 a.2.1 b.2.1 _ hr2) (.cons (.agg .z3 rfl) (.cons (.agg .z3 rfl) (.nil))) (.inr rfl) rfl (iaP (o' := 6) rfl rfl rfl ti68 rfl ti33 (by decide) rfl (ldB (v := .agg _) rfl rfl rfl rfl ti33 rfl rfl (iaP (o' := 6) rfl rfl rfl ti68 rfl ti33 (by decide) rfl (ldB (v := .agg _) rfl rfl rfl rfl ti33 rfl rfl ?_))))
 obtain ⟨r3, hr3, hR⟩ := bindE hR
 refine cls [] rfl rfl cb66 (ok66 a.2.2 b.2.2 _ hr3) (.cons (.agg .z3 rfl) (.cons (.agg .z3 rfl) (.nil))) (.inr rfl) rfl (buA (cs := [iV r1.Lo, iV r1.Hi, bV r1.Unknown, iV r2.Lo, iV r2.Hi, bV r2.Unknown, iV r3.Lo, iV r3.Hi, bV r3.Unknown]) rfl ti68 rfl ti33 rfl rfl ?_)
 refine stB (cs' := [iV r1.Lo, iV r1.Hi, bV r1.Unknown, iV r2.Lo, iV r2.Hi, bV r2.Unknown, iV r3.Lo, iV r3.Hi, bV r3.Unknown]) rfl rfl rfl rfl ti68 rfl rfl rfl rfl rfl (RunC.fin (AWP.ret ?_))
 have hR := Option.some.inj hR; subst hR
 exact hQ _ _ (LS.mk [(4, .ptr 0 0 0)] (lblks 0 [boxB (α := Bound × Bound × Bound) true (r1, r2, r3)]) 1) (aggV (α := Bound × Bound × Bound) true (r1, r2, r3)) [] (.inr rfl) (Weak.turnL [(8, 0)] [] rfl rfl (tc (trP' rfl rfl rfl rfl) tn) (mc rfl (.box rfl .z9 rfl) mn)) (ro1 (rvC (v := aggV (α := Bound × Bound × Bound) true (r1, r2, r3)) rfl rfl ti68 rfl)) rfl rfl ldA pn
theorem ok65 (i : Int) (j : Int) (p2 : Bound × Bound × Bound) (p3 : Bound × Bound × Bound) (r : Bound) (hR : arc_cross_1 i j p2 p3 = some r) : FnP Try.prog 65 [.sc (.int .i64 i), .sc (.int .i64 j), .rp (Cl.c false p2), .rp (Cl.c false p3)] (aggV (α := Bound) true r) := by
 refine fnP_of (FnX.walk Try.func65 rfl 22 0 (by simp [Try.ntmps65]) rfl fun W S F Q hQ => ?_)
 unfold arc_cross_1 at hR
 refine AWP.sq (AWP.rgC 4 rfl rfl (al (cs := [iV 0, iV 0, bV false]) 0 rfl rfl ti33 rfl rfl (RunC.fin (AWP.sq (AWP.rgD 68 [0, 1, 3, 0, 8, 24, 63, 0, 128, 384, 0, 1024, 3072, 8191, 16383, 32767] ⟨[], [none, none, some [], none, none, some [], none, none, none, some [], none, none, some [], none, none, some [0]]⟩ hmix (by kernel_rfl) rfl rfl ?_)))))
 refine pS rfl ?_
 obtain ⟨h1, hR⟩ := chkE hR
 refine iaRd (α := Bound) (nw := false) (xs := ([p2.1, p2.2.1, p2.2.2] : List Bound)) rfl rfl rfl rfl ti68 rfl ti33 h1 rfl rfl ?_
 refine ldRt (α := Bound) (nw := false) (y := (gt ([p2.1, p2.2.1, p2.2.2] : List Bound) i)) (off := 0) (v := .agg _) rfl rfl ti33 rfl rfl rfl ?_
 refine pS rfl ?_
 obtain ⟨h2, hR⟩ := chkE hR
 refine iaRd (α := Bound) (nw := false) (xs := ([p3.1, p3.2.1, p3.2.2] : List Bound)) rfl rfl rfl rfl ti68 rfl ti33 h2 rfl rfl ?_
 refine ldRt (α := Bound) (nw := false) (y := (gt ([p3.1, p3.2.1, p3.2.2] : List Bound) j)) (off := 0) (v := .agg _) rfl rfl ti33 rfl rfl rfl ?_
 obtain ⟨r3, hr3, hR⟩ := bindE hR
 refine cls [] rfl rfl cb67 (ok67 (gt ([p2.1, p2.2.1, p2.2.2] : List Bound) i) (gt ([p3.1, p3.2.1, p3.2.2] : List Bound) j) 1073741824 _ hr3) (.cons (.agg .z3 rfl) (.cons (.agg .z3 rfl) (.cons (.sc _) .nil))) (.inr rfl) rfl (pS rfl ?_)
 obtain ⟨h4, hR⟩ := chkE hR
 refine iaRd (α := Bound) (nw := false) (xs := ([p2.1, p2.2.1, p2.2.2] : List Bound)) rfl rfl rfl rfl ti68 rfl ti33 h4 rfl rfl ?_
 refine ldRt (α := Bound) (nw := false) (y := (gt ([p2.1, p2.2.1, p2.2.2] : List Bound) j)) (off := 0) (v := .agg _) rfl rfl ti33 rfl rfl rfl ?_
 refine pS rfl ?_
 obtain ⟨h5, hR⟩ := chkE hR
 refine iaRd (α := Bound) (nw := false) (xs := ([p3.1, p3.2.1, p3.2.2] : List Bound)) rfl rfl rfl rfl ti68 rfl ti33 h5 rfl rfl ?_
 refine ldRt (α := Bound) (nw := false) (y := (gt ([p3.1, p3.2.1, p3.2.2] : List Bound) i)) (off := 0) (v := .agg _) rfl rfl ti33 rfl rfl rfl ?_
 obtain ⟨r6, hr6, hR⟩ := bindE hR
 refine cls [] rfl rfl cb67 (ok67 (gt ([p2.1, p2.2.1, p2.2.2] : List Bound) j) (gt ([p3.1, p3.2.1, p3.2.2] : List Bound) i) 1073741824 _ hr6) (.cons (.agg .z3 rfl) (.cons (.agg .z3 rfl) (.cons (.sc _) .nil))) (.inr rfl) rfl ?_
 obtain ⟨r7, hr7, hR⟩ := bindE hR
 refine cls [] rfl rfl cb66 (ok66 r3 r6 _ hr7) (.cons (.agg .z3 rfl) (.cons (.agg .z3 rfl) (.nil))) (.inr rfl) rfl (stB (cs' := [iV r7.Lo, iV r7.Hi, bV r7.Unknown]) rfl rfl rfl rfl ti33 rfl rfl rfl rfl rfl (RunC.fin (AWP.ret ?_)))
 have hR := Option.some.inj hR; subst hR
 exact hQ _ _ (LS.mk [(6, .ptr 0 0 0)] (lblks 0 [boxB (α := Bound) true r7]) 1) (aggV (α := Bound) true r7) [] (.inr rfl) (Weak.turnL [(0, 0)] [] rfl rfl (tc (trP' rfl rfl rfl rfl) tn) (mc rfl (.box rfl .z3 rfl) mn)) (ro1 (rvC (v := aggV (α := Bound) true r7) rfl rfl ti33 rfl)) rfl rfl ldA pn
end Go.Proofs.Arw
