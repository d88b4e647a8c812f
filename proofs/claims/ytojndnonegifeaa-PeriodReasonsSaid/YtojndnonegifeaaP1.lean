/- Each function of the program computes its plain function. Conditions: as each theorem states them. -/
import Derived.Test.YtojndnonegifeaaA4
import Derived.WalkKit
import Derived.Maps.Own
import Derived.Test.YtojndnonegifeaaT
import Derived.Test.YtojndnonegifeaaP0
namespace Go.Proofs.Per
open Go Go.Abs Lf
set_option linter.unusedVariables false
set_option linter.unusedSimpArgs false
set_option maxRecDepth 100000
set_option maxHeartbeats 1000000
section
open Go.RowKit
def sampVf25 (s : curve_Sample) : List Value := [.int .i64 s.At.Lo, .int .i64 s.At.Hi, .bool s.At.Unknown, .int .i64 s.Light.Lo, .int .i64 s.Light.Hi, .bool s.Light.Unknown]
def Sampf25 (w : World) (A : Option Addr) (l : List curve_Sample) : Prop := ∀ k (hk : k < l.length), ∃ B o, A = some ⟨B, o, none⟩ ∧ ∀ (j : Nat) v, (sampVf25 l[k])[j]? = some v → w.cell? ⟨B, o + k * 6 + j, none⟩ = some v
theorem Sampf25.below {w w' : World} {A : Option Addr} {l : List curve_Sample} (h : Sampf25 w A l) (hb : Below w.heap.size w w') : Sampf25 w' A l := fun k hk => by
  obtain ⟨B, o, e, h1⟩ := h k hk
  exact ⟨B, o, e, fun j v hv => (hb.cell (p := ⟨B, o + k * 6 + j, none⟩) (World.block_lt_of_cell? w ⟨B, o + k * 6 + j, none⟩ (h1 j v hv))).trans (h1 j v hv)⟩
theorem sampCf25 (nw : Bool) (s : curve_Sample) : Cl.c nw s = (sampVf25 s).map V.sc := rfl
theorem sampRLf25 {w : World} {A : Option Addr} {cap : Nat} {l : List curve_Sample} (h : Sampf25 w A l) (hc : l.length ≤ cap) : RL (topE w) (rowV false l) (.slice A l.length cap) := by
  unfold rowV
  simp only [RL]
  refine ⟨A, cap, rfl, hc, flat_len' false l, flat_leaf false l, ?_⟩
  by_cases e : l.length = 0
  · exact .inl e
  · right
    obtain ⟨B, o, rfl, _⟩ := h 0 (by omega)
    refine ⟨B, o, rfl, (fun q => nomatch q), RF.of_get _ _ fun i x hx => ?_⟩
    have hl : l.length * 6 = (l.flatMap (Cl.c false)).length := (flat_len' false l).symm
    have hi : i < l.length * 6 := by rw [hl]; exact (List.getElem?_eq_some_iff.1 hx).1
    have hk : i / 6 < l.length := by omega
    obtain ⟨B', o', e', h2⟩ := h (i / 6) hk
    cases e'
    have key : (l.flatMap (Cl.c false))[i]? = (Cl.c false l[i / 6])[i % 6]? := by
      have := elem_split (α := curve_Sample) false l (i / 6) hk
      have e6 : Cl.e curve_Sample = 6 := rfl
      rw [e6] at this
      have t2 := congrArg (fun z => z[i % 6]?) this
      simp only [List.getElem?_drop] at t2
      rw [show i / 6 * 6 + i % 6 = i by omega] at t2
      rw [t2, List.getElem?_append_left (by rw [Cl.len]; show i % 6 < 6; omega), List.getD_eq_getElem?_getD, List.getElem?_eq_getElem hk]
      rfl
    rw [key, sampCf25, List.getElem?_map] at hx
    cases hv : (sampVf25 l[i / 6])[i % 6]? with
    | none => rw [hv] at hx; cases hx
    | some v =>
      rw [hv] at hx; cases hx
      refine ⟨v, ?_, by simp only [RL]⟩
      have := h2 (i % 6) v hv
      rw [show o + i = o + i / 6 * 6 + i % 6 by omega]
      exact this
theorem ckCallsf25 (l : List curve_Sample) (r : Int) (hr : curve_Check l = some r) {w : World} {A : Option Addr} {cap : Nat} (h : Sampf25 w A l) (hc : l.length ≤ cap) :
    Calls Try.prog 20 #[.slice A l.length cap] w fun e w' => e = .returned (.int .i64 r) ∧ Below w.heap.size w w' := by
  refine (fnP_out (ok20 l r hr) (rls_cons (sampRLf25 h hc) rls_nil)).mono ?_
  rintro e w' ⟨c, E', rfl, h1, h2⟩
  simp only [RL] at h1
  subst h1
  exact ⟨rfl, h2⟩
theorem phCallsf25 (t : Bound) (period phases : Int) (r : Int × Bool) (hr : curve_Phase t period phases = some r) (w : World) :
    Calls Try.prog 36 #[.agg #[.int .i64 t.Lo, .int .i64 t.Hi, .bool t.Unknown], .int .i64 period, .int .i64 phases] w fun e w' => e = .returned (.tuple #[.int .i64 r.1, .bool r.2]) ∧ Below w.heap.size w w' := by
  refine (fnP_out (ok36 t period phases r hr) (cargs := [.agg #[.int .i64 t.Lo, .int .i64 t.Hi, .bool t.Unknown], .int .i64 period, .int .i64 phases]) (rls_cons ?_ (rls_cons rl_sc (rls_cons rl_sc rls_nil)))).mono ?_
  · unfold aggV
    simp only [RL]
    exact ⟨[.int .i64 t.Lo, .int .i64 t.Hi, .bool t.Unknown], rfl, rls_cons rl_sc (rls_cons rl_sc (rls_cons rl_sc rls_nil)), Cl.leaf false t⟩
  · rintro e w' ⟨c, E', rfl, h1, h2⟩
    simp only [RL, RLs] at h1
    obtain ⟨_, rfl, _, _, rfl, rfl, _, _, rfl, rfl, rfl⟩ := h1
    exact ⟨rfl, h2⟩
theorem rowsStartf25 (w : World) (n : Nat) : RowsOf (w.alloc (.cells (Array.replicate n (.slice none 0 0)) 22)) w.heap.size 22 3 (List.replicate n (.slice none 0 0)) (List.replicate n []) := by
  refine ⟨by simp, ?_, fun j v xs hv hx => ?_, fun j j' v v' ne hv hv' => ?_⟩
  · have := World.alloc_heap_new w (.cells (Array.replicate n (.slice none 0 0)) 22)
    rw [this]; simp
  · rw [List.getElem?_replicate] at hv hx
    by_cases h : j < n
    · rw [if_pos h] at hv hx
      cases hv; cases hx; exact ⟨by simp, .inl ⟨rfl, rfl⟩⟩
    · rw [if_neg h] at hv; cases hv
  · rw [List.getElem?_replicate] at hv
    split at hv
    · cases hv; exact .inl rfl
    · cases hv
theorem madef25 (v : Value) (n : Nat) (hv : v.cells = #[v]) : madeCells v.cells (n * 1) = Array.replicate n v := by
  rw [hv]
  unfold madeCells
  apply Array.ext
  · simp
  · intro i h1 h2
    simp [Nat.mod_one]
theorem mkf25 (w : World) (ph : Nat) (h : ph ≤ 16) : (Instr.makeSlice 81 (.int .i64 (ph : Int)) (.int .i64 (ph : Int))).run Try.prog w = .ok (.slice (some ⟨w.heap.size, 0, none⟩) ph ph) (w.alloc (.cells (Array.replicate ph (.slice none 0 0)) 22)) := by
  obtain ⟨i0, hi, hz0, hz1, hz2⟩ := info_parts (show (Try.prog.info? 22).map (fun i => (i.zero, i.size, i.bytes)) = some (some (.slice none 0 0), 1, 24) by kernel_rfl)
  have := run_make (P := Try.prog) w 81 22 i0 _ (by kernel_rfl) hi hz0 .i64 .i64 (ph : Int) (ph : Int) (by omega) (Int.le_refl _) (by rw [hz2]; omega) (by omega)
  simp only [Int.toNat_natCast, hz1] at this
  rw [madef25 _ _ rfl] at this
  exact this
theorem grownBf25 {w w' : World} (h : Below w.heap.size w w') : w.grownBy w' none := ⟨h.os, h.tape, h.output, h.size, fun i hi _ => h.block i hi⟩
theorem ownsSlicef25 {w : World} {base n size : Nat} {e : TypeId} {v : Value} {xs : List Value} (h : w.ownsRow base e size v n xs) : ∃ a m c, v = .slice a m c := by
  rcases h.2 with ⟨h, _⟩ | ⟨g, c, cur, h, _⟩
  · exact ⟨_, _, _, h⟩
  · exact ⟨_, _, _, h⟩
theorem foldf25 (l : List curve_Sample) (period : Int) (ph : Nat) (R : List (List Int)) (hC : curve_Check l = some 0) (hF : curve_FoldL period ph l 0 (List.replicate ph []) = some R) (h1 : 1 ≤ ph) (h2 : ph ≤ 16) (h3 : 1 ≤ period) (h4 : period ≤ 17592186044416) (h5 : Int.tmod period ph = 0)
    (w : World) (A : Option Addr) (cap : Nat) (hl : l.length ≤ 64) (hc : l.length ≤ cap) (hA : Sampf25 w A l) :
    Calls Try.prog 25 #[.slice A l.length cap, .int .i64 period, .int .i64 ph] w fun e w' => ∃ O vs, w.heap.size ≤ O ∧ e = .returned (.tuple #[.slice (some ⟨O, 0, none⟩) ph ph, .int .i64 0]) ∧ RowsOf w' O 22 3 vs R ∧ Below w.heap.size w w' := by
  have CK := ckCallsf25 l 0 hC hA hc
  have n1 : ¬ ((ph : Int) < 1) := by omega
  have n2 : ¬ (16 < (ph : Int)) := by omega
  have n3 : ¬ (period < 1) := by omega
  have n4 : ¬ (17592186044416 < period) := by omega
  have n5 : (ph : Int) ≠ 0 := by omega
  have hmk := fun w => mkf25 w ph h2
  go_enter Try.func25, Try.ntmps25
  go_wp2_with (go_at_call 20; refine CK.mono ?_; rintro e w1 ⟨rfl, hb1⟩)
  have hR0 := rowsStartf25 w1 ph
  have hbO : Below w.heap.size w (w1.alloc (.cells (Array.replicate ph (.slice none 0 0)) 22)) := hb1.alloc hb1.size _
  have hwO : w.heap.size ≤ w1.heap.size := hb1.size
  clear hmk
  go_loopw [43] (fun i wr => ∃ k : Nat, k ≤ l.length ∧ i = .int .i64 k ∧ ∃ rows vs, curve_FoldL period ph (l.drop k) k rows = some R ∧ rows.length = ph ∧ (∀ xs ∈ rows, xs.length ≤ k) ∧ RowsOf wr w1.heap.size 22 3 vs rows ∧ Below w.heap.size w wr) (fun i _ => l.length - (intOf i).toNat)
  case atStart => exact ⟨0, by omega, rfl, List.replicate ph [], _, by simpa using hF, by simp, by simp, hR0, hbO⟩
  case round =>
    obtain ⟨k, hk, rfl, rows, vs, hR, hn, hm, hRo, hb⟩ := hrel
    clear hR0 hbO hb1 hF hC
    by_cases hlt : k < l.length
    · rw [List.drop_eq_getElem_cons hlt, curve_FoldL] at hR
      obtain ⟨B, o, rfl, hcell⟩ := (hA.below hb) k hlt
      generalize l[k] = s at hR hcell
      obtain ⟨rr, hP, hR⟩ := Option.bind_eq_some_iff.1 hR
      have c0 : wr.cell? ⟨B, o + k * 6, none⟩ = some (.int .i64 s.At.Lo) := hcell 0 _ rfl
      have c1 : wr.cell? ⟨B, o + k * 6 + 1, none⟩ = some (.int .i64 s.At.Hi) := hcell 1 _ rfl
      have c2 : wr.cell? ⟨B, o + k * 6 + 2, none⟩ = some (.bool s.At.Unknown) := hcell 2 _ rfl
      have c3 : wr.cell? ⟨B, o + k * 6 + 3, none⟩ = some (.int .i64 s.Light.Lo) := hcell 3 _ rfl
      have c4 : wr.cell? ⟨B, o + k * 6 + 4, none⟩ = some (.int .i64 s.Light.Hi) := hcell 4 _ rfl
      have c5 : wr.cell? ⟨B, o + k * 6 + 5, none⟩ = some (.bool s.Light.Unknown) := hcell 5 _ rfl
      clear hcell
      have PH := phCallsf25 s.At period ph rr hP (wr.alloc (.cells #[.int .i64 s.At.Lo, .int .i64 s.At.Hi, .bool s.At.Unknown, .int .i64 s.Light.Lo, .int .i64 s.Light.Hi, .bool s.Light.Unknown] 70))
      obtain ⟨r1, r2⟩ := rr
      have HR := Lib.hid hR
      have HRo := Lib.hid hRo
      have HB := Lib.hid hb
      have HM := Lib.hid hm
      have HA := Lib.hid hA
      clear hR hRo hb hm hA hP CK
      cases r2 with
      | false =>
        go_wp2_with (go_at_call 36; refine PH.mono ?_; rintro e w3 ⟨rfl, hb3⟩)
        have g3 := (World.grownBy_alloc wr (.cells #[.int .i64 s.At.Lo, .int .i64 s.At.Hi, .bool s.At.Unknown, .int .i64 s.Light.Lo, .int .i64 s.Light.Hi, .bool s.Light.Unknown] 70) none).trans (grownBf25 hb3)
        exact ⟨⟨k + 1, by omega, by simp, rows, vs, by simpa using HR.out, hn, fun xs h => Nat.le_succ_of_le (HM.out xs h), HRo.out.kept g3, HB.out.grown g3 HB.out.size (fun j hj => by cases hj)⟩, by simp [intOf]; omega⟩
      | true =>
        have hR2 := HR.out
        simp only [if_true] at hR2
        split at hR2
        · rename_i hq
          obtain ⟨q, rfl⟩ : ∃ q : Nat, r1 = q := ⟨r1.toNat, by omega⟩
          have hq1 : q < rows.length := by omega
          have hq2 : q < vs.length := by rw [HRo.out.1]; exact hq1
          have ex : rows[q]? = some rows[q] := List.getElem?_eq_getElem hq1
          have ev : vs[q]? = some vs[q] := List.getElem?_eq_getElem hq2
          have hxl : rows[q].length ≤ k := HM.out _ (List.getElem_mem hq1)
          have eg : gt rows (q : Int) = rows[q] := by rw [gt_def rows (q : Int) ⟨by omega, by omega⟩]; simp
          rw [eg, Int.toNat_natCast] at hR2
          generalize rows[q] = xs at ex hxl hR2 eg
          generalize vs[q] = v at ev
          have HR2 := Lib.hid hR2
          obtain ⟨i0, hi, hz0, hz1, hz2⟩ := info_parts (show (Try.prog.info? 3).map (fun i => (i.zero, i.size, i.bytes)) = some (some (.int .i64 0), 1, 8) by kernel_rfl)
          clear hR2 HR eg hq
          obtain ⟨w2, hw2⟩ : ∃ w2, w2 = wr.alloc (.cells #[.int .i64 s.At.Lo, .int .i64 s.At.Hi, .bool s.At.Unknown, .int .i64 s.Light.Lo, .int .i64 s.Light.Hi, .bool s.Light.Unknown] 70) := ⟨_, rfl⟩
          have g2 : wr.grownBy w2 none := by rw [hw2]; exact World.grownBy_alloc _ _ _
          rw [← hw2] at PH
          have HW2 := Lib.hid hw2
          have HG2 := Lib.hid g2
          clear hw2 g2
          go_wp2_with (first | (go_at_call 36; rw [← HW2.out]; refine PH.mono ?_; rintro e w3 ⟨rfl, hb3⟩; have h3 := HRo.out.kept (HG2.out.trans (grownBf25 hb3)); have HG3 := Lib.hid (grownBf25 hb3); have co := (cel_get h3.2.1 q (by simpa using ev)).1; have H3 := Lib.hid h3; clear h3 hb3) | (at_builtin; refine wpList_append_own_at _ rfl _ _ 22 rfl (w1.heap.size + 1) 3 i0 (.int .i64 0) 1 8 (by kernel_rfl) hi hz0 hz1 hz2 rfl (by decide) _ _ _ rfl ((H3.out.2.2.1 q v xs ev ex).alloc _) ⟨w3.heap.size, 0, none⟩ 1 1 [.int .i64 (k : Int)] rfl rfl (cell_one_new _ _ _) (ints_oneCell .i64 [(k : Int)]) (by unfold maxLen; omega) (by omega) (by have := blk_lt H3.out.2.1; simp; omega) ?_; intro v' w5 hown' hgrow hnil hloc; obtain ⟨sa, sn, sc, rfl⟩ := ownsSlicef25 hown'; have h4 := H3.out.kept (World.grownBy_alloc w3 (.cells #[.int .i64 (k : Int)] 3) none); have b5 := (hgrow.block w1.heap.size (blk_lt h4.2.1) (fun e => by have := ((H3.out.2.2.1 q v xs ev ex).lt _ e.symm).1; omega)).trans h4.2.1; obtain ⟨cc, ff⟩ := cel_get b5 q (by simpa using ev); have HO5 := Lib.hid hown'; have HG5 := Lib.hid hgrow; have HL5 := Lib.hid hloc; have H4 := Lib.hid h4; clear hown' hgrow hloc hnil b5 h4))
          have st := H4.out.step ev ex HG5.out HO5.out HL5.out
          have B4 : Below w.heap.size w (w3.alloc (.cells #[.int .i64 (k : Int)] 3)) := ((HB.out.grown HG2.out HB.out.size (fun j hj => by cases hj)).grown HG3.out (Nat.le_trans HB.out.size HG2.out.size) (fun j hj => by cases hj)).alloc (Nat.le_trans HB.out.size (Nat.le_trans HG2.out.size HG3.out.size)) _
          have B5 := B4.grown HG5.out B4.size (fun j hj => by have := ((H3.out.2.2.1 q v xs ev ex).lt j hj).1; omega)
          have B6 := B5.setCell (p := ⟨w1.heap.size, q, none⟩) hwO (.slice sa sn sc)
          refine ⟨⟨k + 1, by omega, by simp, _, _, by simpa using HR2.out, by simp [hn], fun ys hy => ?_, st.1, B6⟩, by simp [intOf]; omega⟩
          rcases List.mem_or_eq_of_mem_set hy with h | h
          · exact Nat.le_succ_of_le (HM.out ys h)
          · rw [h]; simp; omega
        · cases hR2
    · obtain rfl : k = l.length := by omega
      rw [List.drop_length, curve_FoldL] at hR
      cases hR
      have HRo := Lib.hid hRo
      have HB := Lib.hid hb
      clear hRo hb
      go_wp2
      go_ret2
      exact ⟨w1.heap.size, vs, hwO, rfl, HRo.out, HB.out⟩
theorem rfSampf25 {E : Env} {W : World} (hf : ∀ B o d, E.F B o = some d → W.cell? ⟨B, o, none⟩ = some d) {A : Option Addr} {l : List curve_Sample}
    (h : l.length = 0 ∨ ∃ B o, A = some ⟨B, o, none⟩ ∧ (false = true → E.n0 ≤ B) ∧ RF E B o (l.flatMap (Cl.c false))) : Sampf25 W A l := fun k hk => by
  rcases h with h | ⟨B, o, rfl, _, h⟩
  · omega
  · refine ⟨B, o, rfl, fun j v hv => ?_⟩
    have hj : j < 6 := (List.getElem?_eq_some_iff.1 hv).1
    have key : (l.flatMap (Cl.c false))[k * 6 + j]? = some (.sc v) := by
      have := elem_split (α := curve_Sample) false l k hk
      have e6 : Cl.e curve_Sample = 6 := rfl
      rw [e6] at this
      have t2 := congrArg (fun z => z[j]?) this
      simp only [List.getElem?_drop] at t2
      rw [t2, List.getElem?_append_left (by rw [Cl.len]; exact hj), List.getD_eq_getElem?_getD, List.getElem?_eq_getElem hk]
      show (Cl.c false l[k])[j]? = _
      rw [sampCf25, List.getElem?_map, hv]
      rfl
    obtain ⟨d, h1, h2⟩ := RF.get _ _ h _ _ key
    simp only [RL] at h2
    subst h2
    rw [Nat.add_assoc]
    exact hf _ _ _ h1
theorem ok25 (l : List curve_Sample) (period phases : Int) (r : List (List Int) × Int) (hR : curve_Fold l period phases = some r) : FnP Try.prog 25 [rowV false l, .sc (.int .i64 period), .sc (.int .i64 phases)] (.tup [rowV true r.1, .sc (.int .i64 r.2)]) := by
  unfold curve_Fold at hR
  obtain ⟨e, hC, hR⟩ := Option.bind_eq_some_iff.1 hR
  split at hR
  · rename_i he
    subst he
    split at hR
    · rename_i h
      obtain ⟨h0, h1, h2, h3, h4, h5⟩ := h
      obtain ⟨R, hF, hR⟩ := Option.bind_eq_some_iff.1 hR
      cases hR
      obtain ⟨ph, rfl⟩ : ∃ ph : Nat, phases = ph := ⟨phases.toNat, by omega⟩
      rw [Int.toNat_natCast] at hF
      refine fnP_inF fun E W cargs hn hf ha => ?_
      unfold rowV at ha
      simp only [RLs, RL] at ha
      obtain ⟨_, _, rfl, ⟨A, cap, rfl, q1, _, _, q2⟩, _, _, rfl, rfl, _, _, rfl, rfl, rfl⟩ := ha
      refine (foldf25 l period ph R hC hF (by omega) (by omega) h3 h4 h5 W A cap h0 q1 (rfSampf25 hf q2)).mono ?_
      rintro e w' ⟨O, vs, hO, rfl, hRo, hB⟩
      refine ⟨_, rfl, ?_, hB⟩
      have hlen : R.length = ph := by
        have : ∀ (l : List curve_Sample) (i : Int) (rows R : List (List Int)), curve_FoldL period ph l i rows = some R → R.length = rows.length := by
          intro l
          induction l with
          | nil => intro i rows R h; rw [curve_FoldL] at h; cases h; rfl
          | cons s l ih =>
            intro i rows R h
            rw [curve_FoldL] at h
            obtain ⟨r, _, h⟩ := Option.bind_eq_some_iff.1 h
            split at h
            · split at h
              · rw [ih _ _ _ h]; simp
              · cases h
            · exact ih _ _ _ h
        rw [this _ _ _ _ hF]; simp
      have hrl := hRo.rl (E := E) (n0 := W.heap.size) hO hn (cap := ph) (by omega)
      rw [hlen] at hrl
      simp only [RL]
      exact ⟨[_, _], rfl, rls_cons hrl (rls_cons rl_sc rls_nil)⟩
    · cases hR
  · cases hR
end

theorem ok24 (s1_ : List Int) (s2_ : List Int) (r : Bool) (hR : slices_Equal_Int s1_ s2_ = some r) : FnP Try.prog 24 [rowV false s1_, rowV false s2_] (.sc (.bool r)) := by
  refine fnP_of (FnX.walk Try.func24 rfl 26 0 (by simp [Try.ntmps24]) rfl fun W S F Q hQ => ?_)
  unfold slices_Equal_Int at hR
  refine AWP.sq ?_
  refine AWP.rgC 4 rfl rfl ?_
  refine pu (v := .sc _) rfl rfl (fun _ => rfl) ?_
  refine RunC.fin ?_
  refine AWP.sq ?_
  refine AWP.sq ?_
  refine AWP.rgC 24 rfl rfl ?_
  refine pu (v := rowV _ s1_) rfl rfl (fun _ => rfl) ?_
  refine lenL (α := Int) rfl rfl ti42 rfl ?_
  refine pu (v := rowV _ s2_) rfl rfl (fun _ => rfl) ?_
  refine lenL (α := Int) rfl rfl ti42 rfl ?_
  refine pu (v := .sc _) rfl rfl (fun _ => rfl) ?_
  refine RunC.fin ?_
  refine AWP.cd hR rfl (fun h1 hR => ?_) fun h1 hR => ?_
  · refine AWP.sq ?_
    refine AWP.rgC 28 rfl rfl ?_
    refine pu (v := .sc _) rfl rfl (fun _ => rfl) ?_
    refine RunC.fin ?_
    refine AWP.ret ?_
    refine rtT ?_
    have hR := Option.some.inj hR; subst hR
    exact hQ _ _ (LS.mk [(4, .sc (.bool false))] (lblks 0 []) 0) (.sc (.bool false)) [] (.inr rfl) (Weak.turnL [] [] rfl rfl (tc (.sc _) tn) mn) (ro1 (rvT (v := .sc (.bool false)) rfl)) rfl rfl (.sc _) pn
  · refine AWP.skip ?_
    refine skT ?_
    refine AWP.sq ?_
    refine AWP.sq ?_
    refine AWP.rgC 36 rfl rfl ?_
    refine pu (v := rowV _ s1_) rfl rfl (fun _ => rfl) ?_
    refine lenL (α := Int) rfl rfl ti42 rfl ?_
    refine pu (v := .sc _) rfl rfl (fun _ => rfl) ?_
    refine RunC.fin ?_
    refine AWP.loopK' (fun s2 : Int => LS.mk [(0, rowV (α := Int) false s1_), (1, rowV (α := Int) false s2_), (12, .sc (.int .i64 (s1_.length : Int))), (13, .sc (.int .i64 s2))] (lblks 0 []) 0) (fun z3 : Unit => LS.mk [] (lblks 0 []) 0) (slices_Equal_Int.l1 s1_ s2_) hR (s0 := 0) (Weak.turnL [] [] rfl rfl (tc trR1 (tc trR1 (tc (.sc _) (tc (.sc _) tn)))) mn) (fun s2 o2 hR hE2 => ?_) fun z3 hR => ?_
    · unfold slices_Equal_Int.l1 at hR
      refine AWP.sq ?_
      refine AWP.rgC 4 rfl rfl ?_
      refine pu (v := .sc _) rfl rfl (fun _ => rfl) ?_
      refine RunC.fin ?_
      refine AWP.sq ?_
      refine AWP.cd hR rfl (fun h4 hR => ?_) fun h4 hR => ?_
      · refine AWP.skip ?_
        refine skT ?_
        refine AWP.sq ?_
        refine AWP.block ?_
        refine AWP.sq ?_
        refine AWP.rgC 12 rfl rfl ?_
        refine pu (v := .sc _) rfl rfl (fun _ => rfl) ?_
        refine pu (v := .sc _) rfl rfl (fun _ => rfl) ?_
        refine RunC.fin ?_
        refine AWP.sq ?_
        refine AWP.rgD 48 [0, 0, 3, 7, 0, 0, 48, 112, 255] ⟨[], [none, none, none, some [], none, none, none, some [], none]⟩ hmix (by kernel_rfl) rfl rfl ?_
        refine pu (v := rowV _ s1_) rfl rfl (fun _ => rfl) ?_
        refine pu (v := .sc _) rfl rfl (fun _ => rfl) ?_
        obtain ⟨h5, hR⟩ := chkE hR
        refine ixL (α := Int) rfl rfl rfl ti42 rfl ti33 rfl h5 ?_
        refine ldR (v := .sc _) rfl rfl ti33 rfl ?_
        refine pu (v := rowV _ s2_) rfl rfl (fun _ => rfl) ?_
        refine pu (v := .sc _) rfl rfl (fun _ => rfl) ?_
        obtain ⟨h6, hR⟩ := chkE hR
        refine ixL (α := Int) rfl rfl rfl ti42 rfl ti33 rfl h6 ?_
        refine ldR (v := .sc _) rfl rfl ti33 rfl ?_
        refine pu (v := .sc _) rfl rfl (fun _ => rfl) ?_
        refine RunC.fin ?_
        refine AWP.cd hR rfl (fun h7 hR => ?_) fun h7 hR => ?_
        · refine AWP.sq ?_
          refine AWP.rgC 52 rfl rfl ?_
          refine pu (v := .sc _) rfl rfl (fun _ => rfl) ?_
          refine RunC.fin ?_
          refine AWP.ret ?_
          refine rtB ?_
          refine rtT ?_
          refine rtT ?_
          refine rtB (rtT ?_)
          replace hR := escL hR hE2
          refine rtT ?_
          have hR := Option.some.inj hR; subst hR
          exact hQ _ _ (LS.mk [(4, .sc (.bool false))] (lblks 0 []) 0) (.sc (.bool false)) [] (.inr rfl) (Weak.turnL [] [] rfl rfl (tc (.sc _) tn) mn) (ro1 (rvT (v := .sc (.bool false)) rfl)) rfl rfl (.sc _) pn
        · refine AWP.skip ?_
          refine skB ?_
          refine skT ?_
          refine AWP.rgC 56 rfl rfl ?_
          refine pu (v := .sc _) rfl rfl (fun _ => rfl) ?_
          refine pu (v := .sc _) rfl rfl (fun _ => rfl) ?_
          refine RunC.fin ?_
          refine ⟨(w6 (s2 + 1)), (Option.some.inj hR).symm, ?_⟩
          exact Weak.turnL [] [] rfl rfl (tc trR1 (tc trR1 (tc (.sc _) (tc (.sc _) tn)))) mn
      · refine AWP.exit ?_
        refine exT ?_
        refine exT ?_
        refine exH (skT ?_)
        refine ⟨(), (Option.some.inj hR).symm, ?_⟩
        exact Weak.turnL [] [] rfl rfl tn mn
    · refine skT ?_
      refine AWP.sq ?_
      refine AWP.rgC 4 rfl rfl ?_
      refine pu (v := .sc _) rfl rfl (fun _ => rfl) ?_
      refine RunC.fin ?_
      refine AWP.ret ?_
      have hR := Option.some.inj hR; subst hR
      exact hQ _ _ (LS.mk [(4, .sc (.bool true))] (lblks 0 []) 0) (.sc (.bool true)) [] (.inr rfl) (Weak.turnL [] [] rfl rfl (tc (.sc _) tn) mn) (ro1 (rvT (v := .sc (.bool true)) rfl)) rfl rfl (.sc _) pn
theorem ok23 (t : Int) (q : Int) (r : curve_Sample) (hR : spykeep4_fitted_1 t q = some r) : FnP Try.prog 23 [.sc (.int .i64 t), .sc (.int .i64 q)] (aggV (α := curve_Sample) true r) := by
  refine fnP_of (FnX.walk Try.func23 rfl 12 0 (by simp [Try.ntmps23]) rfl fun W S F Q hQ => ?_)
  unfold spykeep4_fitted_1 at hR
  refine AWP.sq ?_
  refine AWP.rgC 4 rfl rfl ?_
  refine al (cs := [.sc (.int .i64 0), .sc (.int .i64 0), .sc (.bool false), .sc (.int .i64 0), .sc (.int .i64 0), .sc (.bool false)]) 0 rfl rfl ti70 rfl rfl ?_
  refine RunC.fin ?_
  refine AWP.sq ?_
  refine AWP.rgC 36 rfl rfl ?_
  refine pu (v := .sc _) rfl rfl (fun _ => rfl) ?_
  refine pu (v := .sc _) rfl rfl (fun _ => rfl) ?_
  refine bu (cs := [.sc (.int .i64 t), .sc (.int .i64 t), .sc (.bool false)]) rfl bt68 rfl ?_
  refine pu (v := .sc _) rfl rfl (fun _ => rfl) ?_
  refine pu (v := .sc _) rfl rfl (fun _ => rfl) ?_
  refine bu (cs := [.sc (.int .i64 q), .sc (.int .i64 q), .sc (.bool false)]) rfl bt66 rfl ?_
  refine bu (cs := [.sc (.int .i64 t), .sc (.int .i64 t), .sc (.bool false), .sc (.int .i64 q), .sc (.int .i64 q), .sc (.bool false)]) rfl bt70 rfl ?_
  refine stB (cs' := [.sc (.int .i64 t), .sc (.int .i64 t), .sc (.bool false), .sc (.int .i64 q), .sc (.int .i64 q), .sc (.bool false)]) rfl rfl rfl rfl ti70 rfl rfl rfl rfl rfl ?_
  refine RunC.fin ?_
  refine AWP.ret ?_
  have hR := Option.some.inj hR; subst hR
  exact hQ _ _ (LS.mk [(4, .ptr 0 0 0)] (lblks 0 [boxB (α := curve_Sample) true (curve_Sample.mk (Bound.mk t t false) (Bound.mk q q false))]) 1) (aggV (α := curve_Sample) true (curve_Sample.mk (Bound.mk t t false) (Bound.mk q q false))) [] (.inr rfl) (Weak.turnL [(0, 0)] [] rfl rfl (tc (trP' rfl rfl rfl rfl) tn) (mc rfl (.box rfl (.cons (.sc _) (.cons (.sc _) (.cons (.sc _) (.cons (.sc _) (.cons (.sc _) (.cons (.sc _) (.nil))))))) rfl) mn)) (ro1 (rvC (v := aggV (α := curve_Sample) true (curve_Sample.mk (Bound.mk t t false) (Bound.mk q q false))) rfl rfl ti70 rfl)) rfl rfl ldA pn
theorem ok22 (l : List curve_Sample) (period : Int) (phases : Int) (r : (List Bound) × Int) (hR : curve_Table l period phases = some r) : FnP Try.prog 22 [rowV false l, .sc (.int .i64 period), .sc (.int .i64 phases)] (.tup [rowV (α := Bound) true r.1, .sc (.int .i64 r.2)]) := by
  refine fnP_of (FnX.walk Try.func22 rfl 59 0 (by simp [Try.ntmps22]) rfl fun W S F Q hQ => ?_)
  unfold curve_Table at hR
  refine AWP.sq ?_
  refine AWP.rgC 8 rfl rfl ?_
  refine pu (v := .sc _) rfl rfl (fun _ => rfl) ?_
  refine pu (v := .sc _) rfl rfl (fun _ => rfl) ?_
  refine RunC.fin ?_
  refine AWP.sq ?_
  refine AWP.rgC 44 rfl rfl ?_
  refine pu (v := rowV _ l) rfl rfl (fun _ => rfl) ?_
  refine pu (v := .sc _) rfl rfl (fun _ => rfl) ?_
  refine pu (v := .sc _) rfl rfl (fun _ => rfl) ?_
  obtain ⟨r1, hr1, hR⟩ := bindE hR
  refine cls [] rfl rfl cb25 (ok25 l period phases _ hr1) (.cons ldR' (.cons (.sc _) (.cons (.sc _) (.nil)))) (.inr rfl) rfl ?_
  refine pu (v := .tup _) rfl rfl (fun _ => rfl) ?_
  refine pu (v := rowV _ r1.1) rfl rfl (fun _ => rfl) ?_
  refine pu (v := .sc _) rfl rfl (fun _ => rfl) ?_
  refine pu (v := rowV _ r1.1) rfl rfl (fun _ => rfl) ?_
  refine pu (v := .sc _) rfl rfl (fun _ => rfl) ?_
  refine RunC.fin ?_
  refine AWP.sq ?_
  refine AWP.sq ?_
  refine AWP.rgC 52 rfl rfl ?_
  refine pu (v := .sc _) rfl rfl (fun _ => rfl) ?_
  refine pu (v := .sc _) rfl rfl (fun _ => rfl) ?_
  refine RunC.fin ?_
  refine AWP.cd hR rfl (fun h2 hR => ?_) fun h2 hR => ?_
  · refine AWP.sq ?_
    refine AWP.rgC 64 rfl rfl ?_
    refine pu (v := .sc _) rfl rfl (fun _ => rfl) ?_
    refine pu (v := .sc _) rfl rfl (fun _ => rfl) ?_
    refine pu (v := .sc _) rfl rfl (fun _ => rfl) ?_
    refine RunC.fin ?_
    refine AWP.ret ?_
    refine rtT ?_
    have hR := Option.some.inj hR; subst hR
    exact hQ _ _ (LS.mk [(6, rowV (α := Bound) true []), (7, .sc (.int .i64 r1.2))] (lblks 0 []) 0) (.tup [rowV (α := Bound) true [], .sc (.int .i64 r1.2)]) [] (.inr rfl) (Weak.turnL [] [] rfl rfl (tc trN (tc (.sc _) tn)) mn) (ro2 (rvT (v := rowV (α := Bound) true []) rfl) (rvT (v := .sc (.int .i64 r1.2)) rfl)) rfl rfl (.tup (.cons ldR' (.cons (.sc _) .nil))) pn
  · refine AWP.skip ?_
    refine skT ?_
    refine AWP.sq ?_
    refine AWP.rgC 56 rfl rfl ?_
    refine pu (v := .sc _) rfl rfl (fun _ => rfl) ?_
    refine RunC.fin ?_
    refine AWP.sq ?_
    refine AWP.sq ?_
    refine AWP.rgC 68 rfl rfl ?_
    refine pu (v := rowV _ r1.1) rfl rfl (fun _ => rfl) ?_
    refine lenL (α := List Int) rfl rfl ti81 rfl ?_
    refine pu (v := .sc _) rfl rfl (fun _ => rfl) ?_
    refine RunC.fin ?_
    refine AWP.nilT Bound 10 66 rfl ?_
    refine AWP.loopK' (fun s3 : (List Bound) × Int => LS.mk [(0, rowV (α := curve_Sample) false l), (10, slV Bound 0 0 0 s3.1.length), (27, rowV (α := List Int) true r1.1), (28, .sc (.int .i64 (r1.1.length : Int))), (29, .sc (.int .i64 s3.2))] (lblks 0 [arrB (α := Bound) 66 0 true s3.1]) 1) (fun z4 : (List Bound) => LS.mk [(10, slV Bound 0 0 0 z4.length)] (lblks 0 [arrB (α := Bound) 66 0 true z4]) 1) (curve_Table.l1 l r1) hR (s0 := (([] : List Bound), 0)) (Weak.turnL [(68, 0)] [] rfl rfl (tc trR1 (tc (trS' rfl rfl rfl rfl rfl) (tc trR1 (tc (.sc _) (tc (.sc _) tn))))) (mc rfl (btrA' rfl) mn)) (fun s3 o3 hR hE3 => ?_) fun z4 hR => ?_
    · unfold curve_Table.l1 at hR
      refine AWP.sq ?_
      refine AWP.rgC 5 rfl rfl ?_
      refine pu (v := .sc _) rfl rfl (fun _ => rfl) ?_
      refine RunC.fin ?_
      refine AWP.sq ?_
      refine AWP.cd hR rfl (fun h5 hR => ?_) fun h5 hR => ?_
      · refine AWP.skip ?_
        refine skT ?_
        refine AWP.sq ?_
        refine AWP.block ?_
        refine AWP.sq ?_
        refine AWP.rgC 17 rfl rfl ?_
        obtain ⟨h6, hR⟩ := chkE hR
        refine ixL (α := List Int) rfl rfl rfl ti81 rfl ti22 rfl h6 ?_
        refine ldR (v := rowV _ (gt r1.1 s3.2)) rfl rfl ti22 rfl ?_
        refine pu (v := rowV _ (gt r1.1 s3.2)) rfl rfl (fun _ => rfl) ?_
        refine RunC.fin ?_
        refine AWP.sq ?_
        refine AWP.rgC 29 rfl rfl ?_
        obtain ⟨r7, hr7, hR⟩ := bindE hR
        refine cls [] rfl rfl cb44 (ok44 _ hr7) (.nil) (.inr rfl) rfl ?_
        refine al (cs := [.sc (.int .i64 0), .sc (.int .i64 0), .sc (.bool false)]) 21 rfl rfl ti66 rfl rfl ?_
        refine stB (cs' := [.sc (.int .i64 r7.Lo), .sc (.int .i64 r7.Hi), .sc (.bool r7.Unknown)]) rfl rfl rfl rfl ti66 rfl rfl rfl rfl rfl ?_
        refine RunC.fin ?_
        refine AWP.sq ?_
        refine AWP.sq ?_
        refine AWP.rgC 41 rfl rfl ?_
        refine pu (v := rowV _ (gt r1.1 s3.2)) rfl rfl (fun _ => rfl) ?_
        refine lenL (α := Int) rfl rfl ti22 rfl ?_
        refine pu (v := .sc _) rfl rfl (fun _ => rfl) ?_
        refine RunC.fin ?_
        refine AWP.loopK' (fun s8 : Bound × Int => LS.mk [(0, rowV (α := curve_Sample) false l), (10, slV Bound 0 0 0 s3.1.length), (13, .ptr 1 0 0), (27, rowV (α := List Int) true r1.1), (28, .sc (.int .i64 (r1.1.length : Int))), (29, .sc (.int .i64 s3.2)), (34, rowV (α := Int) true (gt r1.1 s3.2)), (35, .sc (.int .i64 ((gt r1.1 s3.2).length : Int))), (36, .sc (.int .i64 s8.2))] (lblks 0 [arrB (α := Bound) 66 0 true s3.1, boxB (α := Bound) true s8.1]) 2) (fun z9 : Bound => LS.mk [(0, rowV (α := curve_Sample) false l), (10, slV Bound 0 0 0 s3.1.length), (13, .ptr 1 0 0), (27, rowV (α := List Int) true r1.1), (28, .sc (.int .i64 (r1.1.length : Int))), (29, .sc (.int .i64 s3.2))] (lblks 0 [arrB (α := Bound) 66 0 true s3.1, boxB (α := Bound) true z9]) 2) (curve_Table.l2 l r1 s3) hR (s0 := (r7, 0)) (Weak.turnL [(0, 0), (21, 0)] [] rfl rfl (tc trR1 (tc (trS' rfl rfl rfl rfl rfl) (tc (trP' rfl rfl rfl rfl) (tc trR1 (tc (.sc _) (tc (.sc _) (tc trR1 (tc (.sc _) (tc (.sc _) tn))))))))) (mc rfl (btrA' rfl) (mc rfl (.box rfl (.cons (.sc _) (.cons (.sc _) (.cons (.sc _) (.nil)))) rfl) mn))) (fun s8 o8 hR hE8 => ?_) fun z9 hR => ?_
        · unfold curve_Table.l2 at hR
          refine AWP.sq ?_
          refine AWP.rgC 6 rfl rfl ?_
          refine pu (v := .sc _) rfl rfl (fun _ => rfl) ?_
          refine RunC.fin ?_
          refine AWP.sq ?_
          refine AWP.cd hR rfl (fun h10 hR => ?_) fun h10 hR => ?_
          · refine AWP.skip ?_
            refine skT ?_
            refine AWP.sq ?_
            refine AWP.block ?_
            refine AWP.sq ?_
            refine AWP.rgC 18 rfl rfl ?_
            obtain ⟨h11, hR⟩ := chkE hR
            refine ixL (α := Int) rfl rfl rfl ti22 rfl ti3 rfl h11 ?_
            refine ldR (v := .sc _) rfl rfl ti3 rfl ?_
            refine pu (v := .sc _) rfl rfl (fun _ => rfl) ?_
            refine RunC.fin ?_
            refine AWP.sq ?_
            refine AWP.rgC 22 rfl rfl ?_
            refine pu (v := .sc _) rfl rfl (fun _ => rfl) ?_
            refine RunC.fin ?_
            refine AWP.sq ?_
            refine AWP.rgD 70 [0, 0, 0, 6, 14, 30, 63, 127, 255, 255, 511, 2047] ⟨[], [some [1], none, none, none, none, some [], none, none, none, none, some [1], none]⟩ hmix (by kernel_rfl) rfl rfl ?_
            refine ldB (v := .agg _) rfl rfl rfl rfl ti66 rfl rfl ?_
            refine pu (v := rowV _ l) rfl rfl (fun _ => rfl) ?_
            refine pu (v := .sc _) rfl rfl (fun _ => rfl) ?_
            obtain ⟨h12, hR⟩ := chkE hR
            refine ixL (α := curve_Sample) rfl rfl rfl ti26 rfl ti70 rfl h12 ?_
            refine fr rfl rfl ti70 rfl rfl ti66 rfl ?_
            refine ldR (v := .agg _) rfl rfl ti66 rfl ?_
            obtain ⟨r13, hr13, hR⟩ := bindE hR
            refine cls [] rfl rfl cb26 (ok26 s8.1 (gt l (gt (gt r1.1 s3.2) s8.2)).Light _ hr13) (.cons (.agg (.cons (.sc _) (.cons (.sc _) (.cons (.sc _) (.nil)))) rfl) (.cons (.agg (.cons (.sc _) (.cons (.sc _) (.cons (.sc _) (.nil)))) rfl) (.nil))) (.inr rfl) rfl ?_
            refine pu (v := .tup _) rfl rfl (fun _ => rfl) ?_
            refine pu (v := .agg _) rfl rfl (fun _ => rfl) ?_
            refine pu (v := .sc _) rfl rfl (fun _ => rfl) ?_
            refine stB (cs' := [.sc (.int .i64 r13.1.Lo), .sc (.int .i64 r13.1.Hi), .sc (.bool r13.1.Unknown)]) rfl rfl rfl rfl ti66 rfl rfl rfl rfl rfl ?_
            refine pu (v := .sc _) rfl rfl (fun _ => rfl) ?_
            refine RunC.fin ?_
            refine AWP.sq ?_
            refine AWP.rgC 78 rfl rfl ?_
            refine pu (v := .sc _) rfl rfl (fun _ => rfl) ?_
            refine pu (v := .sc _) rfl rfl (fun _ => rfl) ?_
            refine RunC.fin ?_
            refine AWP.cd hR rfl (fun h14 hR => ?_) fun h14 hR => ?_
            · refine AWP.sq ?_
              refine AWP.rgC 86 rfl rfl ?_
              refine pu (v := .sc _) rfl rfl (fun _ => rfl) ?_
              refine pu (v := .sc _) rfl rfl (fun _ => rfl) ?_
              refine RunC.fin ?_
              refine AWP.ret ?_
              refine rtB ?_
              refine rtT ?_
              refine rtT ?_
              refine rtB (rtT ?_)
              replace hR := escL hR hE8
              refine rtT ?_
              refine rtB ?_
              refine rtT ?_
              refine rtT ?_
              refine rtB (rtT ?_)
              replace hR := escL hR hE3
              refine rtT ?_
              have hR := Option.some.inj hR; subst hR
              exact hQ _ _ (LS.mk [(6, rowV (α := Bound) true []), (7, .sc (.int .i64 15))] (lblks 0 []) 0) (.tup [rowV (α := Bound) true [], .sc (.int .i64 15)]) [] (.inr rfl) (Weak.turnL [] [] rfl rfl (tc trN (tc (.sc _) tn)) mn) (ro2 (rvT (v := rowV (α := Bound) true []) rfl) (rvT (v := .sc (.int .i64 15)) rfl)) rfl rfl (.tup (.cons ldR' (.cons (.sc _) .nil))) pn
            · refine AWP.skip ?_
              refine skB ?_
              refine skT ?_
              refine AWP.rgC 86 rfl rfl ?_
              refine pu (v := .sc _) rfl rfl (fun _ => rfl) ?_
              refine pu (v := .sc _) rfl rfl (fun _ => rfl) ?_
              refine RunC.fin ?_
              refine ⟨(r13.1, w6 (s8.2 + 1)), (Option.some.inj hR).symm, ?_⟩
              exact Weak.turnL [(0, 0), (1, 0)] [] rfl rfl (tc trR1 (tc (trS' rfl rfl rfl rfl rfl) (tc (trP' rfl rfl rfl rfl) (tc trR1 (tc (.sc _) (tc (.sc _) (tc trR1 (tc (.sc _) (tc (.sc _) tn))))))))) (mc rfl (btrA' rfl) (mc rfl (.box rfl (.cons (.sc _) (.cons (.sc _) (.cons (.sc _) (.nil)))) rfl) mn))
          · refine AWP.exit ?_
            refine exT ?_
            refine exT ?_
            refine exH (skT ?_)
            refine ⟨s8.1, (Option.some.inj hR).symm, ?_⟩
            exact Weak.turnL [(0, 0), (1, 0)] [] rfl rfl (tc trR1 (tc (trS' rfl rfl rfl rfl rfl) (tc (trP' rfl rfl rfl rfl) (tc trR1 (tc (.sc _) (tc (.sc _) tn)))))) (mc rfl (btrA' rfl) (mc rfl (.box rfl (.cons (.sc _) (.cons (.sc _) (.cons (.sc _) (.nil)))) rfl) mn))
        · refine skT ?_
          refine AWP.rgC 22 rfl rfl ?_
          refine pu (v := slV Bound _ _ _ _) rfl rfl (fun _ => rfl) ?_
          refine ldB (v := .agg _) rfl rfl rfl rfl ti66 rfl rfl ?_
          refine bs (α := Bound) 10 true ([z9] : List Bound) rfl rfl ti76 rfl ti66 rfl rfl rfl rfl rfl ?_
          obtain ⟨h15, hR⟩ := chkE hR
          refine ap' (α := Bound) (nw := true) (xs := s3.1) (ys := ([z9] : List Bound)) rfl rfl rfl rfl (srcS' rfl rfl rfl) ti76 rfl ti66 rfl h15 rfl ?_
          refine pu (v := slV Bound _ _ _ _) rfl rfl (fun _ => rfl) ?_
          refine RunC.blk ?_
          refine RunC.fin ?_
          refine AWP.rgC 30 rfl rfl ?_
          refine pu (v := .sc _) rfl rfl (fun _ => rfl) ?_
          refine pu (v := .sc _) rfl rfl (fun _ => rfl) ?_
          refine RunC.fin ?_
          refine ⟨(s3.1 ++ ([z9] : List Bound), w6 (s3.2 + 1)), (Option.some.inj hR).symm, ?_⟩
          exact Weak.turnL [(0, 0)] [] rfl rfl (tc trR1 (tc (trS' rfl rfl rfl rfl rfl) (tc trR1 (tc (.sc _) (tc (.sc _) tn))))) (mc rfl (btrA' rfl) mn)
      · refine AWP.exit ?_
        refine exT ?_
        refine exT ?_
        refine exH (skT ?_)
        refine ⟨s3.1, (Option.some.inj hR).symm, ?_⟩
        exact Weak.turnL [(0, 0)] [] rfl rfl (tc (trS' rfl rfl rfl rfl rfl) tn) (mc rfl (btrA' rfl) mn)
    · refine skT ?_
      refine AWP.sq ?_
      refine AWP.rgC 13 rfl rfl ?_
      refine pu (v := slV Bound _ _ _ _) rfl rfl (fun _ => rfl) ?_
      refine pu (v := slV Bound _ _ _ _) rfl rfl (fun _ => rfl) ?_
      refine pu (v := .sc _) rfl rfl (fun _ => rfl) ?_
      refine RunC.fin ?_
      refine AWP.ret ?_
      have hR := Option.some.inj hR; subst hR
      exact hQ _ _ (LS.mk [(6, rowV (α := Bound) true z4), (7, .sc (.int .i64 0))] (lblks 0 []) 0) (.tup [rowV (α := Bound) true z4, .sc (.int .i64 0)]) [] (.inr rfl) (Weak.turnL [] [0] rfl rfl (tc (trF' rfl rfl id rfl) (tc (.sc _) tn)) mn) (ro2 (rvT (v := rowV (α := Bound) true z4) rfl) (rvT (v := .sc (.int .i64 0)) rfl)) rfl rfl (.tup (.cons ldR' (.cons (.sc _) .nil))) pn
theorem ok21 (a : period_Ask) (r : Int) (hR : period_Check a = some r) : FnP Try.prog 21 [aggV false a] (.sc (.int .i64 r)) := by
  refine fnP_of (FnX.walk Try.func21 rfl 63 0 (by simp [Try.ntmps21]) rfl fun W S F Q hQ => ?_)
  unfold period_Check at hR
  refine AWP.sq ?_
  refine AWP.rgC 8 rfl rfl ?_
  refine bx (cs := _) 0 rfl rfl rfl ?_
  refine pu (v := .sc _) rfl rfl (fun _ => rfl) ?_
  refine RunC.fin ?_
  refine AWP.sq ?_
  refine AWP.rgC 20 rfl rfl ?_
  refine fa rfl rfl ti40 rfl rfl ti3 rfl ?_
  refine ldB (v := .sc _) rfl rfl rfl rfl ti3 rfl rfl ?_
  refine pu (v := .sc _) rfl rfl (fun _ => rfl) ?_
  refine RunC.fin ?_
  refine AWP.sq ?_
  refine AWP.block ?_
  refine AWP.joinX (fun z1 : Bool => LS.mk [(1, .ptr 0 0 0), (3, .sc (.int .i64 a.Phases)), (6, .sc (.bool z1))] (lblks 0 [boxB (α := period_Ask) true a]) 1) hR (fun o1 hR => ?_) fun z1 hR => ?_
  · refine AWP.rgC 56 rfl rfl ?_
    refine fa rfl rfl ti40 rfl rfl ti3 rfl ?_
    refine ldB (v := .sc _) rfl rfl rfl rfl ti3 rfl rfl ?_
    refine pu (v := .sc _) rfl rfl (fun _ => rfl) ?_
    refine pu (v := .sc _) rfl rfl (fun _ => rfl) ?_
    refine brR hR (fun h2 hR => ?_) fun h2 hR => ?_
    · refine sk (skW rfl rfl rfl h2) ?_
      refine sk (skW rfl rfl rfl h2) ?_
      refine sk (skW rfl rfl rfl h2) ?_
      refine pkT (v := .sc (.bool true)) rfl rfl h2 rfl ?_
      refine pu (v := .sc _) rfl rfl (fun _ => rfl) ?_
      refine RunC.fin ?_
      have hR := Option.some.inj hR; subst hR
      exact Weak.turnL [(0, 0)] [] rfl rfl (tc (trP' rfl rfl rfl rfl) (tc (.sc _) (tc (.sc _) tn))) (mc rfl (.box rfl (.cons (.sc _) (.cons (.sc _) (.cons (.sc _) (.cons (.sc _) (.nil))))) rfl) mn)
    · refine fa (wtG rfl rfl rfl h2) rfl ti40 rfl rfl ti3 rfl ?_
      refine ldB (v := .sc _) (wtG rfl rfl rfl h2) rfl rfl rfl ti3 rfl rfl ?_
      refine pu (v := .sc _) (wtG rfl rfl rfl h2) rfl (fun _ => rfl) ?_
      refine pkF (v := .sc (.bool (decide (a.Phases > 16)))) rfl rfl h2 rfl ?_
      refine pu (v := .sc _) rfl rfl (fun _ => rfl) ?_
      refine RunC.fin ?_
      have hR := Option.some.inj hR; subst hR
      exact Weak.turnL [(0, 0)] [] rfl rfl (tc (trP' rfl rfl rfl rfl) (tc (.sc _) (tc (.sc _) tn))) (mc rfl (.box rfl (.cons (.sc _) (.cons (.sc _) (.cons (.sc _) (.cons (.sc _) (.nil))))) rfl) mn)
  · refine AWP.cd hR rfl (fun h3 hR => ?_) fun h3 hR => ?_
    · refine AWP.sq ?_
      refine AWP.rgC 5 rfl rfl ?_
      refine pu (v := .sc _) rfl rfl (fun _ => rfl) ?_
      refine RunC.fin ?_
      refine AWP.ret ?_
      refine rtB ?_
      refine rtT ?_
      have hR := Option.some.inj hR; subst hR
      exact hQ _ _ (LS.mk [(2, .sc (.int .i64 1))] (lblks 0 []) 0) (.sc (.int .i64 1)) [] (.inr rfl) (Weak.turnL [] [] rfl rfl (tc (.sc _) tn) mn) (ro1 (rvT (v := .sc (.int .i64 1)) rfl)) rfl rfl (.sc _) pn
    · refine AWP.joinX (fun z4 : Bool => LS.mk [(1, .ptr 0 0 0), (3, .sc (.int .i64 a.Phases)), (15, .sc (.bool z4))] (lblks 0 [boxB (α := period_Ask) true a]) 1) hR (fun o4 hR => ?_) fun z4 hR => ?_
      · refine AWP.rgC 77 rfl rfl ?_
        refine fa rfl rfl ti40 rfl rfl ti33 rfl ?_
        refine ldB (v := .sc _) rfl rfl rfl rfl ti33 rfl rfl ?_
        refine pu (v := .sc _) rfl rfl (fun _ => rfl) ?_
        refine pu (v := .sc _) rfl rfl (fun _ => rfl) ?_
        refine brR hR (fun h5 hR => ?_) fun h5 hR => ?_
        · refine sk (skW rfl rfl rfl h5) ?_
          refine sk (skW rfl rfl rfl h5) ?_
          refine sk (skW rfl rfl rfl h5) ?_
          refine pkT (v := .sc (.bool true)) rfl rfl h5 rfl ?_
          refine pu (v := .sc _) rfl rfl (fun _ => rfl) ?_
          refine sk (skW rfl rfl rfl rfl) ?_
          refine sk (skW rfl rfl rfl rfl) ?_
          refine sk (skW rfl rfl rfl rfl) ?_
          refine pkT (v := .sc (.bool true)) rfl rfl rfl rfl ?_
          refine pu (v := .sc _) rfl rfl (fun _ => rfl) ?_
          refine sk (skW rfl rfl rfl rfl) ?_
          refine sk (skW rfl rfl rfl rfl) ?_
          refine sk (skW rfl rfl rfl rfl) ?_
          refine pkT (v := .sc (.bool true)) rfl rfl rfl rfl ?_
          refine pu (v := .sc _) rfl rfl (fun _ => rfl) ?_
          refine RunC.fin ?_
          have hR := Option.some.inj hR; subst hR
          exact Weak.turnL [(0, 0)] [] rfl rfl (tc (trP' rfl rfl rfl rfl) (tc (.sc _) (tc (.sc _) tn))) (mc rfl (.box rfl (.cons (.sc _) (.cons (.sc _) (.cons (.sc _) (.cons (.sc _) (.nil))))) rfl) mn)
        · refine fa (wtG rfl rfl rfl h5) rfl ti40 rfl rfl ti33 rfl ?_
          refine ldB (v := .sc _) (wtG rfl rfl rfl h5) rfl rfl rfl ti33 rfl rfl ?_
          refine pu (v := .sc _) (wtG rfl rfl rfl h5) rfl (fun _ => rfl) ?_
          refine pkF (v := .sc (.bool (decide (a.Most > 17592186044416)))) rfl rfl h5 rfl ?_
          refine pu (v := .sc _) rfl rfl (fun _ => rfl) ?_
          refine brR hR (fun h6 hR => ?_) fun h6 hR => ?_
          · refine sk (skW rfl rfl rfl h6) ?_
            refine sk (skW rfl rfl rfl h6) ?_
            refine sk (skW rfl rfl rfl h6) ?_
            refine pkT (v := .sc (.bool true)) rfl rfl h6 rfl ?_
            refine pu (v := .sc _) rfl rfl (fun _ => rfl) ?_
            refine sk (skW rfl rfl rfl rfl) ?_
            refine sk (skW rfl rfl rfl rfl) ?_
            refine sk (skW rfl rfl rfl rfl) ?_
            refine pkT (v := .sc (.bool true)) rfl rfl rfl rfl ?_
            refine pu (v := .sc _) rfl rfl (fun _ => rfl) ?_
            refine RunC.fin ?_
            have hR := Option.some.inj hR; subst hR
            exact Weak.turnL [(0, 0)] [] rfl rfl (tc (trP' rfl rfl rfl rfl) (tc (.sc _) (tc (.sc _) tn))) (mc rfl (.box rfl (.cons (.sc _) (.cons (.sc _) (.cons (.sc _) (.cons (.sc _) (.nil))))) rfl) mn)
          · refine fa (wtG rfl rfl rfl h6) rfl ti40 rfl rfl ti33 rfl ?_
            refine ldB (v := .sc _) (wtG rfl rfl rfl h6) rfl rfl rfl ti33 rfl rfl ?_
            refine pu (v := .sc _) (wtG rfl rfl rfl h6) rfl (fun _ => rfl) ?_
            refine pkF (v := .sc (.bool (decide (a.Step < 1)))) rfl rfl h6 rfl ?_
            refine pu (v := .sc _) rfl rfl (fun _ => rfl) ?_
            refine brR hR (fun h7 hR => ?_) fun h7 hR => ?_
            · refine sk (skW rfl rfl rfl h7) ?_
              refine sk (skW rfl rfl rfl h7) ?_
              refine sk (skW rfl rfl rfl h7) ?_
              refine pkT (v := .sc (.bool true)) rfl rfl h7 rfl ?_
              refine pu (v := .sc _) rfl rfl (fun _ => rfl) ?_
              refine RunC.fin ?_
              have hR := Option.some.inj hR; subst hR
              exact Weak.turnL [(0, 0)] [] rfl rfl (tc (trP' rfl rfl rfl rfl) (tc (.sc _) (tc (.sc _) tn))) (mc rfl (.box rfl (.cons (.sc _) (.cons (.sc _) (.cons (.sc _) (.cons (.sc _) (.nil))))) rfl) mn)
            · refine fa (wtG rfl rfl rfl h7) rfl ti40 rfl rfl ti33 rfl ?_
              refine ldB (v := .sc _) (wtG rfl rfl rfl h7) rfl rfl rfl ti33 rfl rfl ?_
              refine pu (v := .sc _) (wtG rfl rfl rfl h7) rfl (fun _ => rfl) ?_
              refine pkF (v := .sc (.bool (decide (a.Step > 17592186044416)))) rfl rfl h7 rfl ?_
              refine pu (v := .sc _) rfl rfl (fun _ => rfl) ?_
              refine RunC.fin ?_
              have hR := Option.some.inj hR; subst hR
              exact Weak.turnL [(0, 0)] [] rfl rfl (tc (trP' rfl rfl rfl rfl) (tc (.sc _) (tc (.sc _) tn))) (mc rfl (.box rfl (.cons (.sc _) (.cons (.sc _) (.cons (.sc _) (.cons (.sc _) (.nil))))) rfl) mn)
      · refine AWP.cd hR rfl (fun h8 hR => ?_) fun h8 hR => ?_
        · refine AWP.sq ?_
          refine AWP.rgC 5 rfl rfl ?_
          refine pu (v := .sc _) rfl rfl (fun _ => rfl) ?_
          refine RunC.fin ?_
          refine AWP.ret ?_
          refine rtB ?_
          refine rtT ?_
          have hR := Option.some.inj hR; subst hR
          exact hQ _ _ (LS.mk [(2, .sc (.int .i64 4))] (lblks 0 []) 0) (.sc (.int .i64 4)) [] (.inr rfl) (Weak.turnL [] [] rfl rfl (tc (.sc _) tn) mn) (ro1 (rvT (v := .sc (.int .i64 4)) rfl)) rfl rfl (.sc _) pn
        · refine AWP.sq ?_
          refine AWP.rgC 25 rfl rfl ?_
          refine fa rfl rfl ti40 rfl rfl ti33 rfl ?_
          refine ldB (v := .sc _) rfl rfl rfl rfl ti33 rfl rfl ?_
          refine fa rfl rfl ti40 rfl rfl ti33 rfl ?_
          refine ldB (v := .sc _) rfl rfl rfl rfl ti33 rfl rfl ?_
          refine pu (v := .sc _) rfl rfl (fun _ => rfl) ?_
          refine pu (v := .sc _) rfl rfl (fun _ => rfl) ?_
          refine RunC.fin ?_
          refine AWP.cd hR rfl (fun h9 hR => ?_) fun h9 hR => ?_
          · refine AWP.sq ?_
            refine AWP.rgC 29 rfl rfl ?_
            refine pu (v := .sc _) rfl rfl (fun _ => rfl) ?_
            refine RunC.fin ?_
            refine AWP.ret ?_
            refine rtB ?_
            refine rtT ?_
            have hR := Option.some.inj hR; subst hR
            exact hQ _ _ (LS.mk [(2, .sc (.int .i64 11))] (lblks 0 []) 0) (.sc (.int .i64 11)) [] (.inr rfl) (Weak.turnL [] [] rfl rfl (tc (.sc _) tn) mn) (ro1 (rvT (v := .sc (.int .i64 11)) rfl)) rfl rfl (.sc _) pn
          · refine AWP.joinX (fun z10 : Bool => LS.mk [(1, .ptr 0 0 0), (40, .sc (.bool z10))] (lblks 0 [boxB (α := period_Ask) true a]) 1) hR (fun o10 hR => ?_) fun z10 hR => ?_
            · refine AWP.rgC 77 rfl rfl ?_
              refine fa rfl rfl ti40 rfl rfl ti33 rfl ?_
              refine ldB (v := .sc _) rfl rfl rfl rfl ti33 rfl rfl ?_
              refine pu (v := .sc _) rfl rfl (fun _ => rfl) ?_
              obtain ⟨h11, hR⟩ := chkE hR
              refine rm rfl rfl rfl h11 rfl ?_
              refine pu (v := .sc _) rfl rfl (fun _ => rfl) ?_
              refine pu (v := .sc _) rfl rfl (fun _ => rfl) ?_
              refine brR hR (fun h12 hR => ?_) fun h12 hR => ?_
              · refine sk (skW rfl rfl rfl h12) ?_
                refine sk (skW rfl rfl rfl h12) ?_
                refine sk (skW rfl rfl rfl h12) ?_
                refine sk (skW rfl rfl rfl h12) ?_
                refine sk (skW rfl rfl rfl h12) ?_
                refine pkT (v := .sc (.bool true)) rfl rfl h12 rfl ?_
                refine pu (v := .sc _) rfl rfl (fun _ => rfl) ?_
                refine RunC.fin ?_
                have hR := Option.some.inj hR; subst hR
                exact Weak.turnL [(0, 0)] [] rfl rfl (tc (trP' rfl rfl rfl rfl) (tc (.sc _) tn)) (mc rfl (.box rfl (.cons (.sc _) (.cons (.sc _) (.cons (.sc _) (.cons (.sc _) (.nil))))) rfl) mn)
              · refine fa (wtG rfl rfl rfl h12) rfl ti40 rfl rfl ti33 rfl ?_
                refine ldB (v := .sc _) (wtG rfl rfl rfl h12) rfl rfl rfl ti33 rfl rfl ?_
                refine pu (v := .sc _) (wtG rfl rfl rfl h12) rfl (fun _ => rfl) ?_
                refine rm (wtG rfl rfl rfl h12) rfl rfl h11 rfl ?_
                refine pu (v := .sc _) (wtG rfl rfl rfl h12) rfl (fun _ => rfl) ?_
                refine pkF (v := .sc (.bool ((Int.tmod a.Step a.Phases) != 0))) rfl rfl h12 rfl ?_
                refine pu (v := .sc _) rfl rfl (fun _ => rfl) ?_
                refine RunC.fin ?_
                have hR := Option.some.inj hR; subst hR
                exact Weak.turnL [(0, 0)] [] rfl rfl (tc (trP' rfl rfl rfl rfl) (tc (.sc _) tn)) (mc rfl (.box rfl (.cons (.sc _) (.cons (.sc _) (.cons (.sc _) (.cons (.sc _) (.nil))))) rfl) mn)
            · refine AWP.cd hR rfl (fun h13 hR => ?_) fun h13 hR => ?_
              · refine AWP.sq ?_
                refine AWP.rgC 5 rfl rfl ?_
                refine pu (v := .sc _) rfl rfl (fun _ => rfl) ?_
                refine RunC.fin ?_
                refine AWP.ret ?_
                refine rtB ?_
                refine rtT ?_
                have hR := Option.some.inj hR; subst hR
                exact hQ _ _ (LS.mk [(2, .sc (.int .i64 3))] (lblks 0 []) 0) (.sc (.int .i64 3)) [] (.inr rfl) (Weak.turnL [] [] rfl rfl (tc (.sc _) tn) mn) (ro1 (rvT (v := .sc (.int .i64 3)) rfl)) rfl rfl (.sc _) pn
              · refine AWP.sq ?_
                refine AWP.rgC 41 rfl rfl ?_
                refine fa rfl rfl ti40 rfl rfl ti33 rfl ?_
                refine ldB (v := .sc _) rfl rfl rfl rfl ti33 rfl rfl ?_
                refine fa rfl rfl ti40 rfl rfl ti33 rfl ?_
                refine ldB (v := .sc _) rfl rfl rfl rfl ti33 rfl rfl ?_
                refine pu (v := .sc _) rfl rfl (fun _ => rfl) ?_
                refine fa rfl rfl ti40 rfl rfl ti33 rfl ?_
                refine ldB (v := .sc _) rfl rfl rfl rfl ti33 rfl rfl ?_
                obtain ⟨h14, hR⟩ := chkE hR
                refine qu rfl rfl rfl h14 rfl ?_
                obtain ⟨v15, ev15, hR⟩ := letE hR
                refine pu (v := .sc _) rfl rfl (fun _ => puB ev15) ?_
                refine pu (v := .sc _) rfl rfl (fun _ => rfl) ?_
                refine RunC.fin ?_
                refine AWP.cd hR rfl (fun h16 hR => ?_) fun h16 hR => ?_
                · refine AWP.sq ?_
                  refine AWP.rgC 45 rfl rfl ?_
                  refine pu (v := .sc _) rfl rfl (fun _ => rfl) ?_
                  refine RunC.fin ?_
                  refine AWP.ret ?_
                  refine rtB ?_
                  refine rtT ?_
                  have hR := Option.some.inj hR; subst hR
                  exact hQ _ _ (LS.mk [(2, .sc (.int .i64 2))] (lblks 0 []) 0) (.sc (.int .i64 2)) [] (.inr rfl) (Weak.turnL [] [] rfl rfl (tc (.sc _) tn) mn) (ro1 (rvT (v := .sc (.int .i64 2)) rfl)) rfl rfl (.sc _) pn
                · refine AWP.skip ?_
                  refine skB ?_
                  refine skT ?_
                  refine AWP.sq ?_
                  refine AWP.rgC 45 rfl rfl ?_
                  refine pu (v := .sc _) rfl rfl (fun _ => rfl) ?_
                  refine RunC.fin ?_
                  refine AWP.ret ?_
                  have hR := Option.some.inj hR; subst hR
                  exact hQ _ _ (LS.mk [(2, .sc (.int .i64 0))] (lblks 0 []) 0) (.sc (.int .i64 0)) [] (.inr rfl) (Weak.turnL [] [] rfl rfl (tc (.sc _) tn) mn) (ro1 (rvT (v := .sc (.int .i64 0)) rfl)) rfl rfl (.sc _) pn
theorem ok18 (a : curve_Sample) (b : curve_Sample) (r : Int) (hR : spykeep4_samples_1 a b = some r) : FnP Try.prog 18 [aggV false a, aggV false b] (.sc (.int .i64 r)) := by
  refine fnP_of (FnX.walk Try.func18 rfl 26 0 (by simp [Try.ntmps18]) rfl fun W S F Q hQ => ?_)
  unfold spykeep4_samples_1 at hR
  refine AWP.sq ?_
  refine AWP.rgC 12 rfl rfl ?_
  refine bx (cs := _) 0 rfl rfl rfl ?_
  refine bx (cs := _) 4 rfl rfl rfl ?_
  refine pu (v := .sc _) rfl rfl (fun _ => rfl) ?_
  refine RunC.fin ?_
  refine AWP.sq ?_
  refine AWP.sq ?_
  refine AWP.rgC 40 rfl rfl ?_
  refine fa rfl rfl ti70 rfl rfl ti68 rfl ?_
  refine fa rfl rfl ti68 rfl rfl ti33 rfl ?_
  refine ldB (v := .sc _) rfl rfl rfl rfl ti33 rfl rfl ?_
  refine fa rfl rfl ti70 rfl rfl ti68 rfl ?_
  refine fa rfl rfl ti68 rfl rfl ti33 rfl ?_
  refine ldB (v := .sc _) rfl rfl rfl rfl ti33 rfl rfl ?_
  refine pu (v := .sc _) rfl rfl (fun _ => rfl) ?_
  refine RunC.fin ?_
  refine AWP.cd hR rfl (fun h1 hR => ?_) fun h1 hR => ?_
  · refine AWP.sq ?_
    refine AWP.rgC 72 rfl rfl ?_
    refine fa rfl rfl ti70 rfl rfl ti68 rfl ?_
    refine fa rfl rfl ti68 rfl rfl ti33 rfl ?_
    refine ldB (v := .sc _) rfl rfl rfl rfl ti33 rfl rfl ?_
    refine fa rfl rfl ti70 rfl rfl ti68 rfl ?_
    refine fa rfl rfl ti68 rfl rfl ti33 rfl ?_
    refine ldB (v := .sc _) rfl rfl rfl rfl ti33 rfl rfl ?_
    refine pu (v := .sc _) rfl rfl (fun _ => rfl) ?_
    refine pu (v := .sc _) rfl rfl (fun _ => rfl) ?_
    refine RunC.fin ?_
    refine AWP.ret ?_
    refine rtT ?_
    have hR := Option.some.inj hR; subst hR
    exact hQ _ _ (LS.mk [(4, .sc (.int .i64 (w6 (a.At.Lo - b.At.Lo))))] (lblks 0 []) 0) (.sc (.int .i64 (w6 (a.At.Lo - b.At.Lo)))) [] (.inr rfl) (Weak.turnL [] [] rfl rfl (tc (.sc _) tn) mn) (ro1 (rvT (v := .sc (.int .i64 (w6 (a.At.Lo - b.At.Lo)))) rfl)) rfl rfl (.sc _) pn
  · refine AWP.skip ?_
    refine skT ?_
    refine AWP.sq ?_
    refine AWP.rgC 72 rfl rfl ?_
    refine fa rfl rfl ti70 rfl rfl ti68 rfl ?_
    refine fa rfl rfl ti68 rfl rfl ti33 rfl ?_
    refine ldB (v := .sc _) rfl rfl rfl rfl ti33 rfl rfl ?_
    refine fa rfl rfl ti70 rfl rfl ti68 rfl ?_
    refine fa rfl rfl ti68 rfl rfl ti33 rfl ?_
    refine ldB (v := .sc _) rfl rfl rfl rfl ti33 rfl rfl ?_
    refine pu (v := .sc _) rfl rfl (fun _ => rfl) ?_
    refine pu (v := .sc _) rfl rfl (fun _ => rfl) ?_
    refine RunC.fin ?_
    refine AWP.ret ?_
    have hR := Option.some.inj hR; subst hR
    exact hQ _ _ (LS.mk [(4, .sc (.int .i64 (w6 (a.At.Hi - b.At.Hi))))] (lblks 0 []) 0) (.sc (.int .i64 (w6 (a.At.Hi - b.At.Hi)))) [] (.inr rfl) (Weak.turnL [] [] rfl rfl (tc (.sc _) tn) mn) (ro1 (rvT (v := .sc (.int .i64 (w6 (a.At.Hi - b.At.Hi)))) rfl)) rfl rfl (.sc _) pn
theorem ok16 (s : Sky) (id_ : Int) (t : Int) (r : Int × Int) (hR : sky_Rate s id_ t = some r) : FnP Try.prog 16 [aggV false s, .sc (.int .i64 id_), .sc (.int .i64 t)] (.tup [.sc (.int .i64 r.1), .sc (.int .i64 r.2)]) := by
  refine fnP_of (FnX.walk Try.func16 rfl 64 0 (by simp [Try.ntmps16]) rfl fun W S F Q hQ => ?_)
  unfold sky_Rate at hR
  refine AWP.sq ?_
  refine AWP.rgC 12 rfl rfl ?_
  refine bx (cs := _) 0 rfl rfl rfl ?_
  refine pu (v := .sc _) rfl rfl (fun _ => rfl) ?_
  refine pu (v := .sc _) rfl rfl (fun _ => rfl) ?_
  refine RunC.fin ?_
  refine AWP.sq ?_
  refine AWP.sq ?_
  refine AWP.rgC 28 rfl rfl ?_
  refine ldB (v := .agg _) rfl rfl rfl rfl ti62 rfl rfl ?_
  refine pu (v := .sc _) rfl rfl (fun _ => rfl) ?_
  obtain ⟨r1, hr1, hR⟩ := bindE hR
  refine cls [] rfl rfl cb37 (ok37 s t _ hr1) (.cons (.agg (.cons (.sc _) (.cons ldR' (.cons ldR' (.cons ldR' (.cons (.sc _) (.cons (.sc _) (.cons (.sc _) (.cons (.sc _) (.cons (.sc _) (.cons (.sc _) (.cons (.sc _) (.cons (.sc _) (.nil))))))))))))) rfl) (.cons (.sc _) (.nil))) (.inr rfl) rfl ?_
  refine pu (v := .sc _) rfl rfl (fun _ => rfl) ?_
  refine RunC.fin ?_
  refine AWP.sq ?_
  refine AWP.rgC 36 rfl rfl ?_
  refine pu (v := .sc _) rfl rfl (fun _ => rfl) ?_
  refine pu (v := .sc _) rfl rfl (fun _ => rfl) ?_
  refine RunC.fin ?_
  refine AWP.cd hR rfl (fun h2 hR => ?_) fun h2 hR => ?_
  · refine AWP.sq ?_
    refine AWP.rgC 48 rfl rfl ?_
    refine pu (v := .sc _) rfl rfl (fun _ => rfl) ?_
    refine pu (v := .sc _) rfl rfl (fun _ => rfl) ?_
    refine pu (v := .sc _) rfl rfl (fun _ => rfl) ?_
    refine RunC.fin ?_
    refine AWP.ret ?_
    refine rtT ?_
    have hR := Option.some.inj hR; subst hR
    exact hQ _ _ (LS.mk [(6, .sc (.int .i64 0)), (7, .sc (.int .i64 r1))] (lblks 0 []) 0) (.tup [.sc (.int .i64 0), .sc (.int .i64 r1)]) [] (.inr rfl) (Weak.turnL [] [] rfl rfl (tc (.sc _) (tc (.sc _) tn)) mn) (ro2 (rvT (v := .sc (.int .i64 0)) rfl) (rvT (v := .sc (.int .i64 r1)) rfl)) rfl rfl (.tup (.cons (.sc _) (.cons (.sc _) .nil))) pn
  · refine AWP.skip ?_
    refine skT ?_
    refine AWP.sq ?_
    refine AWP.sq ?_
    refine AWP.rgC 52 rfl rfl ?_
    refine fa rfl rfl ti62 rfl rfl ti56 rfl ?_
    refine ldB (v := rowV _ s.Stars) rfl rfl rfl rfl ti56 rfl rfl ?_
    refine lenL (α := Star) rfl rfl ti56 rfl ?_
    refine pu (v := .sc _) rfl rfl (fun _ => rfl) ?_
    refine RunC.fin ?_
    refine AWP.loopK' (fun s3 : Int => LS.mk [(1, .sc (.int .i64 id_)), (2, .sc (.int .i64 t)), (3, .ptr 0 0 0), (22, rowV (α := Star) false s.Stars), (23, .sc (.int .i64 (s.Stars.length : Int))), (24, .sc (.int .i64 s3))] (lblks 0 [boxB (α := Sky) false s]) 1) (fun z4 : Unit => LS.mk [(1, .sc (.int .i64 id_)), (3, .ptr 0 0 0)] (lblks 0 [boxB (α := Sky) false s]) 1) (sky_Rate.l1 s id_ t) hR (s0 := 0) (Weak.turnL [(0, 0)] [] rfl rfl (tc (.sc _) (tc (.sc _) (tc (trP' rfl rfl rfl rfl) (tc trR1 (tc (.sc _) (tc (.sc _) tn)))))) (mc rfl (.box rfl (.cons (.sc _) (.cons trR1 (.cons trR1 (.cons trR1 (.cons (.sc _) (.cons (.sc _) (.cons (.sc _) (.cons (.sc _) (.cons (.sc _) (.cons (.sc _) (.cons (.sc _) (.cons (.sc _) (.nil))))))))))))) rfl) mn)) (fun s3 o3 hR hE3 => ?_) fun z4 hR => ?_
    · unfold sky_Rate.l1 at hR
      refine AWP.sq ?_
      refine AWP.rgC 5 rfl rfl ?_
      refine pu (v := .sc _) rfl rfl (fun _ => rfl) ?_
      refine RunC.fin ?_
      refine AWP.sq ?_
      refine AWP.cd hR rfl (fun h5 hR => ?_) fun h5 hR => ?_
      · refine AWP.skip ?_
        refine skT ?_
        refine AWP.sq ?_
        refine AWP.block ?_
        refine AWP.sq ?_
        refine AWP.rgC 21 rfl rfl ?_
        obtain ⟨h6, hR⟩ := chkE hR
        refine ixL (α := Star) rfl rfl rfl ti56 rfl ti35 rfl h6 ?_
        refine ldR (v := .agg _) rfl rfl ti35 rfl ?_
        refine al (cs := [.sc (.int .i64 0), .sc (.int .i64 0), .sc (.int .i64 0), .sc (.int .i64 0), .sc (.int .i64 0), .sc (.slice none 0 0), .sc (.int .i64 0), .sc (.int .i64 0), .sc (.int .i64 0)]) 13 rfl rfl ti35 rfl rfl ?_
        refine stB (cs' := [.sc (.int .i64 (gt s.Stars s3).ID), .sc (.int .i64 (gt s.Stars s3).At.X), .sc (.int .i64 (gt s.Stars s3).At.Y), .sc (.int .i64 (gt s.Stars s3).At.Z), .sc (.int .i64 (gt s.Stars s3).Rate), rowV (α := Int) false (gt s.Stars s3).Wave, .sc (.int .i64 (gt s.Stars s3).Period), .sc (.int .i64 (gt s.Stars s3).From), .sc (.int .i64 (gt s.Stars s3).To)]) rfl rfl rfl rfl ti35 rfl rfl rfl rfl rfl ?_
        refine RunC.fin ?_
        refine AWP.sq ?_
        refine AWP.rgC 37 rfl rfl ?_
        refine fa rfl rfl ti35 rfl rfl ti3 rfl ?_
        refine ldB (v := .sc _) rfl rfl rfl rfl ti3 rfl rfl ?_
        refine pu (v := .sc _) rfl rfl (fun _ => rfl) ?_
        refine pu (v := .sc _) rfl rfl (fun _ => rfl) ?_
        refine RunC.fin ?_
        refine AWP.cd hR rfl (fun h7 hR => ?_) fun h7 hR => ?_
        · refine AWP.sq ?_
          refine AWP.rgC 57 rfl rfl ?_
          refine ldB (v := .agg _) rfl rfl rfl rfl ti35 rfl rfl ?_
          refine pu (v := .sc _) rfl rfl (fun _ => rfl) ?_
          obtain ⟨r8, hr8, hR⟩ := bindE hR
          refine cls [] rfl rfl cb38 (ok38 (gt s.Stars s3) t _ hr8) (.cons (.agg (.cons (.sc _) (.cons (.sc _) (.cons (.sc _) (.cons (.sc _) (.cons (.sc _) (.cons ldR' (.cons (.sc _) (.cons (.sc _) (.cons (.sc _) (.nil)))))))))) rfl) (.cons (.sc _) (.nil))) (.inr rfl) rfl ?_
          refine pu (v := .sc _) rfl rfl (fun _ => rfl) ?_
          refine pu (v := .sc _) rfl rfl (fun _ => rfl) ?_
          refine RunC.fin ?_
          refine AWP.ret ?_
          refine rtB ?_
          refine rtT ?_
          refine rtT ?_
          refine rtB (rtT ?_)
          replace hR := escL hR hE3
          refine rtT ?_
          have hR := Option.some.inj hR; subst hR
          exact hQ _ _ (LS.mk [(6, .sc (.int .i64 r8)), (7, .sc (.int .i64 0))] (lblks 0 []) 0) (.tup [.sc (.int .i64 r8), .sc (.int .i64 0)]) [] (.inr rfl) (Weak.turnL [] [] rfl rfl (tc (.sc _) (tc (.sc _) tn)) mn) (ro2 (rvT (v := .sc (.int .i64 r8)) rfl) (rvT (v := .sc (.int .i64 0)) rfl)) rfl rfl (.tup (.cons (.sc _) (.cons (.sc _) .nil))) pn
        · refine AWP.skip ?_
          refine skB ?_
          refine skT ?_
          refine AWP.rgC 45 rfl rfl ?_
          refine pu (v := .sc _) rfl rfl (fun _ => rfl) ?_
          refine pu (v := .sc _) rfl rfl (fun _ => rfl) ?_
          refine RunC.fin ?_
          refine ⟨(w6 (s3 + 1)), (Option.some.inj hR).symm, ?_⟩
          exact Weak.turnL [(0, 0)] [] rfl rfl (tc (.sc _) (tc (.sc _) (tc (trP' rfl rfl rfl rfl) (tc trR1 (tc (.sc _) (tc (.sc _) tn)))))) (mc rfl (.box rfl (.cons (.sc _) (.cons trR1 (.cons trR1 (.cons trR1 (.cons (.sc _) (.cons (.sc _) (.cons (.sc _) (.cons (.sc _) (.cons (.sc _) (.cons (.sc _) (.cons (.sc _) (.cons (.sc _) (.nil))))))))))))) rfl) mn)
      · refine AWP.exit ?_
        refine exT ?_
        refine exT ?_
        refine exH (skT ?_)
        refine ⟨(), (Option.some.inj hR).symm, ?_⟩
        exact Weak.turnL [(0, 0)] [] rfl rfl (tc (.sc _) (tc (trP' rfl rfl rfl rfl) tn)) (mc rfl (.box rfl (.cons (.sc _) (.cons trR1 (.cons trR1 (.cons trR1 (.cons (.sc _) (.cons (.sc _) (.cons (.sc _) (.cons (.sc _) (.cons (.sc _) (.cons (.sc _) (.cons (.sc _) (.cons (.sc _) (.nil))))))))))))) rfl) mn)
    · refine skT ?_
      refine AWP.sq ?_
      refine AWP.sq ?_
      refine AWP.rgC 17 rfl rfl ?_
      refine fa rfl rfl ti62 rfl rfl ti57 rfl ?_
      refine ldB (v := rowV _ s.Galaxies) rfl rfl rfl rfl ti57 rfl rfl ?_
      refine lenL (α := Galaxy) rfl rfl ti57 rfl ?_
      refine pu (v := .sc _) rfl rfl (fun _ => rfl) ?_
      refine RunC.fin ?_
      refine AWP.loopK' (fun s9 : Int => LS.mk [(1, .sc (.int .i64 id_)), (3, .ptr 0 0 0), (37, rowV (α := Galaxy) false s.Galaxies), (38, .sc (.int .i64 (s.Galaxies.length : Int))), (39, .sc (.int .i64 s9))] (lblks 0 [boxB (α := Sky) false s]) 1) (fun z10 : Unit => LS.mk [(1, .sc (.int .i64 id_)), (3, .ptr 0 0 0)] (lblks 0 [boxB (α := Sky) false s]) 1) (sky_Rate.l2 s id_) hR (s0 := 0) (Weak.turnL [(0, 0)] [] rfl rfl (tc (.sc _) (tc (trP' rfl rfl rfl rfl) (tc trR1 (tc (.sc _) (tc (.sc _) tn))))) (mc rfl (.box rfl (.cons (.sc _) (.cons trR1 (.cons trR1 (.cons trR1 (.cons (.sc _) (.cons (.sc _) (.cons (.sc _) (.cons (.sc _) (.cons (.sc _) (.cons (.sc _) (.cons (.sc _) (.cons (.sc _) (.nil))))))))))))) rfl) mn)) (fun s9 o9 hR hE9 => ?_) fun z10 hR => ?_
      · unfold sky_Rate.l2 at hR
        refine AWP.sq ?_
        refine AWP.rgC 5 rfl rfl ?_
        refine pu (v := .sc _) rfl rfl (fun _ => rfl) ?_
        refine RunC.fin ?_
        refine AWP.sq ?_
        refine AWP.cd hR rfl (fun h11 hR => ?_) fun h11 hR => ?_
        · refine AWP.skip ?_
          refine skT ?_
          refine AWP.sq ?_
          refine AWP.block ?_
          refine AWP.sq ?_
          refine AWP.rgC 21 rfl rfl ?_
          obtain ⟨h12, hR⟩ := chkE hR
          refine ixL (α := Galaxy) rfl rfl rfl ti57 rfl ti100 rfl h12 ?_
          refine ldR (v := .agg _) rfl rfl ti100 rfl ?_
          refine al (cs := [.sc (.int .i64 0), .sc (.int .i64 0), .sc (.int .i64 0), .sc (.int .i64 0), .sc (.int .i64 0), .sc (.int .i64 0), .sc (.int .i64 0)]) 13 rfl rfl ti100 rfl rfl ?_
          refine stB (cs' := [.sc (.int .i64 (gt s.Galaxies s9).ID), .sc (.int .i64 (gt s.Galaxies s9).At.X), .sc (.int .i64 (gt s.Galaxies s9).At.Y), .sc (.int .i64 (gt s.Galaxies s9).At.Z), .sc (.int .i64 (gt s.Galaxies s9).Rate), .sc (.int .i64 (gt s.Galaxies s9).Wide), .sc (.int .i64 (gt s.Galaxies s9).High)]) rfl rfl rfl rfl ti100 rfl rfl rfl rfl rfl ?_
          refine RunC.fin ?_
          refine AWP.sq ?_
          refine AWP.rgC 37 rfl rfl ?_
          refine fa rfl rfl ti100 rfl rfl ti3 rfl ?_
          refine ldB (v := .sc _) rfl rfl rfl rfl ti3 rfl rfl ?_
          refine pu (v := .sc _) rfl rfl (fun _ => rfl) ?_
          refine pu (v := .sc _) rfl rfl (fun _ => rfl) ?_
          refine RunC.fin ?_
          refine AWP.cd hR rfl (fun h13 hR => ?_) fun h13 hR => ?_
          · refine AWP.sq ?_
            refine AWP.rgC 53 rfl rfl ?_
            refine fa rfl rfl ti100 rfl rfl ti31 rfl ?_
            refine ldB (v := .sc _) rfl rfl rfl rfl ti31 rfl rfl ?_
            refine pu (v := .sc _) rfl rfl (fun _ => rfl) ?_
            refine pu (v := .sc _) rfl rfl (fun _ => rfl) ?_
            refine RunC.fin ?_
            refine AWP.ret ?_
            refine rtB ?_
            refine rtT ?_
            refine rtT ?_
            refine rtB (rtT ?_)
            replace hR := escL hR hE9
            refine rtT ?_
            have hR := Option.some.inj hR; subst hR
            exact hQ _ _ (LS.mk [(6, .sc (.int .i64 (gt s.Galaxies s9).Rate)), (7, .sc (.int .i64 0))] (lblks 0 []) 0) (.tup [.sc (.int .i64 (gt s.Galaxies s9).Rate), .sc (.int .i64 0)]) [] (.inr rfl) (Weak.turnL [] [] rfl rfl (tc (.sc _) (tc (.sc _) tn)) mn) (ro2 (rvT (v := .sc (.int .i64 (gt s.Galaxies s9).Rate)) rfl) (rvT (v := .sc (.int .i64 0)) rfl)) rfl rfl (.tup (.cons (.sc _) (.cons (.sc _) .nil))) pn
          · refine AWP.skip ?_
            refine skB ?_
            refine skT ?_
            refine AWP.rgC 45 rfl rfl ?_
            refine pu (v := .sc _) rfl rfl (fun _ => rfl) ?_
            refine pu (v := .sc _) rfl rfl (fun _ => rfl) ?_
            refine RunC.fin ?_
            refine ⟨(w6 (s9 + 1)), (Option.some.inj hR).symm, ?_⟩
            exact Weak.turnL [(0, 0)] [] rfl rfl (tc (.sc _) (tc (trP' rfl rfl rfl rfl) (tc trR1 (tc (.sc _) (tc (.sc _) tn))))) (mc rfl (.box rfl (.cons (.sc _) (.cons trR1 (.cons trR1 (.cons trR1 (.cons (.sc _) (.cons (.sc _) (.cons (.sc _) (.cons (.sc _) (.cons (.sc _) (.cons (.sc _) (.cons (.sc _) (.cons (.sc _) (.nil))))))))))))) rfl) mn)
        · refine AWP.exit ?_
          refine exT ?_
          refine exT ?_
          refine exH (skT ?_)
          refine ⟨(), (Option.some.inj hR).symm, ?_⟩
          exact Weak.turnL [(0, 0)] [] rfl rfl (tc (.sc _) (tc (trP' rfl rfl rfl rfl) tn)) (mc rfl (.box rfl (.cons (.sc _) (.cons trR1 (.cons trR1 (.cons trR1 (.cons (.sc _) (.cons (.sc _) (.cons (.sc _) (.cons (.sc _) (.cons (.sc _) (.cons (.sc _) (.cons (.sc _) (.cons (.sc _) (.nil))))))))))))) rfl) mn)
      · refine skT ?_
        refine AWP.sq ?_
        refine AWP.sq ?_
        refine AWP.rgC 17 rfl rfl ?_
        refine fa rfl rfl ti62 rfl rfl ti58 rfl ?_
        refine ldB (v := rowV _ s.Bodies) rfl rfl rfl rfl ti58 rfl rfl ?_
        refine lenL (α := Body) rfl rfl ti58 rfl ?_
        refine pu (v := .sc _) rfl rfl (fun _ => rfl) ?_
        refine RunC.fin ?_
        refine AWP.loopK' (fun s14 : Int => LS.mk [(1, .sc (.int .i64 id_)), (51, rowV (α := Body) false s.Bodies), (52, .sc (.int .i64 (s.Bodies.length : Int))), (53, .sc (.int .i64 s14))] (lblks 0 []) 0) (fun z15 : Unit => LS.mk [] (lblks 0 []) 0) (sky_Rate.l3 s id_) hR (s0 := 0) (Weak.turnL [] [] rfl rfl (tc (.sc _) (tc trR1 (tc (.sc _) (tc (.sc _) tn)))) mn) (fun s14 o14 hR hE14 => ?_) fun z15 hR => ?_
        · unfold sky_Rate.l3 at hR
          refine AWP.sq ?_
          refine AWP.rgC 4 rfl rfl ?_
          refine pu (v := .sc _) rfl rfl (fun _ => rfl) ?_
          refine RunC.fin ?_
          refine AWP.sq ?_
          refine AWP.cd hR rfl (fun h16 hR => ?_) fun h16 hR => ?_
          · refine AWP.skip ?_
            refine skT ?_
            refine AWP.sq ?_
            refine AWP.block ?_
            refine AWP.sq ?_
            refine AWP.rgC 20 rfl rfl ?_
            obtain ⟨h17, hR⟩ := chkE hR
            refine ixL (α := Body) rfl rfl rfl ti58 rfl ti60 rfl h17 ?_
            refine ldR (v := .agg _) rfl rfl ti60 rfl ?_
            refine al (cs := [.sc (.int .i64 0), .sc (.int .i64 0), .sc (.int .i64 0), .sc (.int .i64 0), .sc (.int .i64 0), .sc (.int .i64 0), .sc (.int .i64 0), .sc (.int .i64 0)]) 12 rfl rfl ti60 rfl rfl ?_
            refine stB (cs' := [.sc (.int .i64 (gt s.Bodies s14).ID), .sc (.int .i64 (gt s.Bodies s14).Was.X), .sc (.int .i64 (gt s.Bodies s14).Was.Y), .sc (.int .i64 (gt s.Bodies s14).Was.Z), .sc (.int .i64 (gt s.Bodies s14).Here.X), .sc (.int .i64 (gt s.Bodies s14).Here.Y), .sc (.int .i64 (gt s.Bodies s14).Here.Z), .sc (.int .i64 (gt s.Bodies s14).Rate)]) rfl rfl rfl rfl ti60 rfl rfl rfl rfl rfl ?_
            refine RunC.fin ?_
            refine AWP.sq ?_
            refine AWP.rgC 36 rfl rfl ?_
            refine fa rfl rfl ti60 rfl rfl ti3 rfl ?_
            refine ldB (v := .sc _) rfl rfl rfl rfl ti3 rfl rfl ?_
            refine pu (v := .sc _) rfl rfl (fun _ => rfl) ?_
            refine pu (v := .sc _) rfl rfl (fun _ => rfl) ?_
            refine RunC.fin ?_
            refine AWP.cd hR rfl (fun h18 hR => ?_) fun h18 hR => ?_
            · refine AWP.sq ?_
              refine AWP.rgC 52 rfl rfl ?_
              refine fa rfl rfl ti60 rfl rfl ti31 rfl ?_
              refine ldB (v := .sc _) rfl rfl rfl rfl ti31 rfl rfl ?_
              refine pu (v := .sc _) rfl rfl (fun _ => rfl) ?_
              refine pu (v := .sc _) rfl rfl (fun _ => rfl) ?_
              refine RunC.fin ?_
              refine AWP.ret ?_
              refine rtB ?_
              refine rtT ?_
              refine rtT ?_
              refine rtB (rtT ?_)
              replace hR := escL hR hE14
              refine rtT ?_
              have hR := Option.some.inj hR; subst hR
              exact hQ _ _ (LS.mk [(6, .sc (.int .i64 (gt s.Bodies s14).Rate)), (7, .sc (.int .i64 0))] (lblks 0 []) 0) (.tup [.sc (.int .i64 (gt s.Bodies s14).Rate), .sc (.int .i64 0)]) [] (.inr rfl) (Weak.turnL [] [] rfl rfl (tc (.sc _) (tc (.sc _) tn)) mn) (ro2 (rvT (v := .sc (.int .i64 (gt s.Bodies s14).Rate)) rfl) (rvT (v := .sc (.int .i64 0)) rfl)) rfl rfl (.tup (.cons (.sc _) (.cons (.sc _) .nil))) pn
            · refine AWP.skip ?_
              refine skB ?_
              refine skT ?_
              refine AWP.rgC 44 rfl rfl ?_
              refine pu (v := .sc _) rfl rfl (fun _ => rfl) ?_
              refine pu (v := .sc _) rfl rfl (fun _ => rfl) ?_
              refine RunC.fin ?_
              refine ⟨(w6 (s14 + 1)), (Option.some.inj hR).symm, ?_⟩
              exact Weak.turnL [] [] rfl rfl (tc (.sc _) (tc trR1 (tc (.sc _) (tc (.sc _) tn)))) mn
          · refine AWP.exit ?_
            refine exT ?_
            refine exT ?_
            refine exH (skT ?_)
            refine ⟨(), (Option.some.inj hR).symm, ?_⟩
            exact Weak.turnL [] [] rfl rfl tn mn
        · refine skT ?_
          refine AWP.sq ?_
          refine AWP.rgC 8 rfl rfl ?_
          refine pu (v := .sc _) rfl rfl (fun _ => rfl) ?_
          refine pu (v := .sc _) rfl rfl (fun _ => rfl) ?_
          refine RunC.fin ?_
          refine AWP.ret ?_
          have hR := Option.some.inj hR; subst hR
          exact hQ _ _ (LS.mk [(6, .sc (.int .i64 0)), (7, .sc (.int .i64 8))] (lblks 0 []) 0) (.tup [.sc (.int .i64 0), .sc (.int .i64 8)]) [] (.inr rfl) (Weak.turnL [] [] rfl rfl (tc (.sc _) (tc (.sc _) tn)) mn) (ro2 (rvT (v := .sc (.int .i64 0)) rfl) (rvT (v := .sc (.int .i64 8)) rfl)) rfl rfl (.tup (.cons (.sc _) (.cons (.sc _) .nil))) pn
theorem ok15 (l : List curve_Sample) (period : Int) (phases : Int) (p : period_Pair) (r : Bool) (hR : period_Holds l period phases p = some r) : FnP Try.prog 15 [rowV false l, .sc (.int .i64 period), .sc (.int .i64 phases), aggV false p] (.sc (.bool r)) := by
  refine fnP_of (FnX.walk Try.func15 rfl 90 0 (by simp [Try.ntmps15]) rfl fun W S F Q hQ => ?_)
  unfold period_Holds at hR
  refine AWP.sq ?_
  refine AWP.rgC 8 rfl rfl ?_
  refine bx (cs := _) 0 rfl rfl rfl ?_
  refine pu (v := .sc _) rfl rfl (fun _ => rfl) ?_
  refine RunC.fin ?_
  refine AWP.sq ?_
  refine AWP.joinX (fun z1 : Bool => LS.mk [(0, rowV (α := curve_Sample) false l), (1, .sc (.int .i64 period)), (2, .sc (.int .i64 phases)), (7, .ptr 0 0 0), (36, .sc (.bool z1))] (lblks 0 [boxB (α := period_Pair) true p]) 1) hR (fun o1 hR => ?_) fun z1 hR => ?_
  · refine AWP.rgC 96 rfl rfl ?_
    refine pu (v := rowV _ l) rfl rfl (fun _ => rfl) ?_
    obtain ⟨r2, hr2, hR⟩ := bindE hR
    refine cls [] rfl rfl cb20 (ok20 l _ hr2) (.cons ldR' (.nil)) (.inr rfl) rfl ?_
    refine pu (v := .sc _) rfl rfl (fun _ => rfl) ?_
    refine pu (v := .sc _) rfl rfl (fun _ => rfl) ?_
    refine brR hR (fun h3 hR => ?_) fun h3 hR => ?_
    · refine sk (skW rfl rfl rfl h3) ?_
      refine sk (skW rfl rfl rfl h3) ?_
      refine sk (skW rfl rfl rfl h3) ?_
      refine pkT (v := .sc (.bool true)) rfl rfl h3 rfl ?_
      refine pu (v := .sc _) rfl rfl (fun _ => rfl) ?_
      refine sk (skW rfl rfl rfl rfl) ?_
      refine sk (skW rfl rfl rfl rfl) ?_
      refine sk (skW rfl rfl rfl rfl) ?_
      refine sk (skW rfl rfl rfl rfl) ?_
      refine sk (skW rfl rfl rfl rfl) ?_
      refine pkT (v := .sc (.bool true)) rfl rfl rfl rfl ?_
      refine pu (v := .sc _) rfl rfl (fun _ => rfl) ?_
      refine sk (skW rfl rfl rfl rfl) ?_
      refine sk (skW rfl rfl rfl rfl) ?_
      refine sk (skW rfl rfl rfl rfl) ?_
      refine sk (skW rfl rfl rfl rfl) ?_
      refine sk (skW rfl rfl rfl rfl) ?_
      refine pkT (v := .sc (.bool true)) rfl rfl rfl rfl ?_
      refine RunC.fin ?_
      have hR := Option.some.inj hR; subst hR
      exact Weak.turnL [(0, 0)] [] rfl rfl (tc trR1 (tc (.sc _) (tc (.sc _) (tc (trP' rfl rfl rfl rfl) (tc (.sc _) tn))))) (mc rfl (.box rfl (.cons (.sc _) (.cons (.sc _) (.nil))) rfl) mn)
    · refine fa (wtG rfl rfl rfl h3) rfl ti48 rfl rfl ti3 rfl ?_
      refine ldB (v := .sc _) (wtG rfl rfl rfl h3) rfl rfl rfl ti3 rfl rfl ?_
      refine pu (v := .sc _) (wtG rfl rfl rfl h3) rfl (fun _ => rfl) ?_
      refine pkF (v := .sc (.bool (decide (p.I < 0)))) rfl rfl h3 rfl ?_
      refine pu (v := .sc _) rfl rfl (fun _ => rfl) ?_
      refine brR hR (fun h4 hR => ?_) fun h4 hR => ?_
      · refine sk (skW rfl rfl rfl h4) ?_
        refine sk (skW rfl rfl rfl h4) ?_
        refine sk (skW rfl rfl rfl h4) ?_
        refine sk (skW rfl rfl rfl h4) ?_
        refine sk (skW rfl rfl rfl h4) ?_
        refine pkT (v := .sc (.bool true)) rfl rfl h4 rfl ?_
        refine pu (v := .sc _) rfl rfl (fun _ => rfl) ?_
        refine sk (skW rfl rfl rfl rfl) ?_
        refine sk (skW rfl rfl rfl rfl) ?_
        refine sk (skW rfl rfl rfl rfl) ?_
        refine sk (skW rfl rfl rfl rfl) ?_
        refine sk (skW rfl rfl rfl rfl) ?_
        refine pkT (v := .sc (.bool true)) rfl rfl rfl rfl ?_
        refine RunC.fin ?_
        have hR := Option.some.inj hR; subst hR
        exact Weak.turnL [(0, 0)] [] rfl rfl (tc trR1 (tc (.sc _) (tc (.sc _) (tc (trP' rfl rfl rfl rfl) (tc (.sc _) tn))))) (mc rfl (.box rfl (.cons (.sc _) (.cons (.sc _) (.nil))) rfl) mn)
      · refine fa (wtG rfl rfl rfl h4) rfl ti48 rfl rfl ti3 rfl ?_
        refine ldB (v := .sc _) (wtG rfl rfl rfl h4) rfl rfl rfl ti3 rfl rfl ?_
        refine fa (wtG rfl rfl rfl h4) rfl ti48 rfl rfl ti3 rfl ?_
        refine ldB (v := .sc _) (wtG rfl rfl rfl h4) rfl rfl rfl ti3 rfl rfl ?_
        refine pu (v := .sc _) (wtG rfl rfl rfl h4) rfl (fun _ => rfl) ?_
        refine pkF (v := .sc (.bool (decide (p.J ≤ p.I)))) rfl rfl h4 rfl ?_
        refine pu (v := .sc _) rfl rfl (fun _ => rfl) ?_
        refine brR hR (fun h5 hR => ?_) fun h5 hR => ?_
        · refine sk (skW rfl rfl rfl h5) ?_
          refine sk (skW rfl rfl rfl h5) ?_
          refine sk (skW rfl rfl rfl h5) ?_
          refine sk (skW rfl rfl rfl h5) ?_
          refine sk (skW rfl rfl rfl h5) ?_
          refine pkT (v := .sc (.bool true)) rfl rfl h5 rfl ?_
          refine RunC.fin ?_
          have hR := Option.some.inj hR; subst hR
          exact Weak.turnL [(0, 0)] [] rfl rfl (tc trR1 (tc (.sc _) (tc (.sc _) (tc (trP' rfl rfl rfl rfl) (tc (.sc _) tn))))) (mc rfl (.box rfl (.cons (.sc _) (.cons (.sc _) (.nil))) rfl) mn)
        · refine fa (wtG rfl rfl rfl h5) rfl ti48 rfl rfl ti3 rfl ?_
          refine ldB (v := .sc _) (wtG rfl rfl rfl h5) rfl rfl rfl ti3 rfl rfl ?_
          refine pu (v := rowV _ l) (wtG rfl rfl rfl h5) rfl (fun _ => rfl) ?_
          refine lenL (α := curve_Sample) (wtG rfl rfl rfl h5) rfl ti26 rfl ?_
          refine pu (v := .sc _) (wtG rfl rfl rfl h5) rfl (fun _ => rfl) ?_
          refine pkF (v := .sc (.bool (decide (p.J ≥ (l.length : Int))))) rfl rfl h5 rfl ?_
          refine RunC.fin ?_
          have hR := Option.some.inj hR; subst hR
          exact Weak.turnL [(0, 0)] [] rfl rfl (tc trR1 (tc (.sc _) (tc (.sc _) (tc (trP' rfl rfl rfl rfl) (tc (.sc _) tn))))) (mc rfl (.box rfl (.cons (.sc _) (.cons (.sc _) (.nil))) rfl) mn)
  · refine AWP.cd hR rfl (fun h6 hR => ?_) fun h6 hR => ?_
    · refine AWP.sq ?_
      refine AWP.rgC 5 rfl rfl ?_
      refine pu (v := .sc _) rfl rfl (fun _ => rfl) ?_
      refine RunC.fin ?_
      refine AWP.ret ?_
      refine rtT ?_
      have hR := Option.some.inj hR; subst hR
      exact hQ _ _ (LS.mk [(8, .sc (.bool false))] (lblks 0 []) 0) (.sc (.bool false)) [] (.inr rfl) (Weak.turnL [] [] rfl rfl (tc (.sc _) tn) mn) (ro1 (rvT (v := .sc (.bool false)) rfl)) rfl rfl (.sc _) pn
    · refine AWP.skip ?_
      refine skT ?_
      refine AWP.sq ?_
      refine AWP.rgC 57 rfl rfl ?_
      refine pu (v := rowV _ l) rfl rfl (fun _ => rfl) ?_
      refine fa rfl rfl ti48 rfl rfl ti3 rfl ?_
      refine ldB (v := .sc _) rfl rfl rfl rfl ti3 rfl rfl ?_
      obtain ⟨h7, hR⟩ := chkE hR
      refine ixL (α := curve_Sample) rfl rfl rfl ti26 rfl ti70 rfl h7 ?_
      refine fr rfl rfl ti70 rfl rfl ti68 rfl ?_
      refine ldR (v := .agg _) rfl rfl ti68 rfl ?_
      refine pu (v := .sc _) rfl rfl (fun _ => rfl) ?_
      refine pu (v := .sc _) rfl rfl (fun _ => rfl) ?_
      obtain ⟨r8, hr8, hR⟩ := bindE hR
      refine cls [] rfl rfl cb36 (ok36 (gt l p.I).At period phases _ hr8) (.cons (.agg (.cons (.sc _) (.cons (.sc _) (.cons (.sc _) (.nil)))) rfl) (.cons (.sc _) (.cons (.sc _) (.nil)))) (.inr rfl) rfl ?_
      refine pu (v := .tup _) rfl rfl (fun _ => rfl) ?_
      refine pu (v := .sc _) rfl rfl (fun _ => rfl) ?_
      refine pu (v := .sc _) rfl rfl (fun _ => rfl) ?_
      refine pu (v := .sc _) rfl rfl (fun _ => rfl) ?_
      refine pu (v := .sc _) rfl rfl (fun _ => rfl) ?_
      refine RunC.fin ?_
      refine AWP.sq ?_
      refine AWP.rgC 113 rfl rfl ?_
      refine pu (v := rowV _ l) rfl rfl (fun _ => rfl) ?_
      refine fa rfl rfl ti48 rfl rfl ti3 rfl ?_
      refine ldB (v := .sc _) rfl rfl rfl rfl ti3 rfl rfl ?_
      obtain ⟨h9, hR⟩ := chkE hR
      refine ixL (α := curve_Sample) rfl rfl rfl ti26 rfl ti70 rfl h9 ?_
      refine fr rfl rfl ti70 rfl rfl ti68 rfl ?_
      refine ldR (v := .agg _) rfl rfl ti68 rfl ?_
      refine pu (v := .sc _) rfl rfl (fun _ => rfl) ?_
      refine pu (v := .sc _) rfl rfl (fun _ => rfl) ?_
      obtain ⟨r10, hr10, hR⟩ := bindE hR
      refine cls [] rfl rfl cb36 (ok36 (gt l p.J).At period phases _ hr10) (.cons (.agg (.cons (.sc _) (.cons (.sc _) (.cons (.sc _) (.nil)))) rfl) (.cons (.sc _) (.cons (.sc _) (.nil)))) (.inr rfl) rfl ?_
      refine pu (v := .tup _) rfl rfl (fun _ => rfl) ?_
      refine pu (v := .sc _) rfl rfl (fun _ => rfl) ?_
      refine pu (v := .sc _) rfl rfl (fun _ => rfl) ?_
      refine pu (v := .sc _) rfl rfl (fun _ => rfl) ?_
      refine pu (v := .sc _) rfl rfl (fun _ => rfl) ?_
      refine RunC.fin ?_
      refine AWP.sq ?_
      refine AWP.rgD 189 [0, 0, 2, 7, 15, 31, 0, 0, 128, 448, 960, 1984, 4095, 8191, 16383, 16383, 0, 98303, 262143] ⟨[], [none, none, some [0], none, none, some [], none, none, some [0], none, none, some [], none, none, none, none, none, some [177], none]⟩ hmix (by kernel_rfl) rfl rfl ?_
      refine pu (v := rowV _ l) rfl rfl (fun _ => rfl) ?_
      refine fa rfl rfl ti48 rfl rfl ti3 rfl ?_
      refine ldB (v := .sc _) rfl rfl rfl rfl ti3 rfl rfl ?_
      refine ixL (α := curve_Sample) rfl rfl rfl ti26 rfl ti70 rfl h7 ?_
      refine fr rfl rfl ti70 rfl rfl ti66 rfl ?_
      refine ldR (v := .agg _) rfl rfl ti66 rfl ?_
      refine pu (v := rowV _ l) rfl rfl (fun _ => rfl) ?_
      refine fa rfl rfl ti48 rfl rfl ti3 rfl ?_
      refine ldB (v := .sc _) rfl rfl rfl rfl ti3 rfl rfl ?_
      refine ixL (α := curve_Sample) rfl rfl rfl ti26 rfl ti70 rfl h9 ?_
      refine fr rfl rfl ti70 rfl rfl ti66 rfl ?_
      refine ldR (v := .agg _) rfl rfl ti66 rfl ?_
      obtain ⟨r11, hr11, hR⟩ := bindE hR
      refine cls [] rfl rfl cb26 (ok26 (gt l p.I).Light (gt l p.J).Light _ hr11) (.cons (.agg (.cons (.sc _) (.cons (.sc _) (.cons (.sc _) (.nil)))) rfl) (.cons (.agg (.cons (.sc _) (.cons (.sc _) (.cons (.sc _) (.nil)))) rfl) (.nil))) (.inr rfl) rfl ?_
      refine pu (v := .tup _) rfl rfl (fun _ => rfl) ?_
      refine pu (v := .agg _) rfl rfl (fun _ => rfl) ?_
      refine pu (v := .sc _) rfl rfl (fun _ => rfl) ?_
      refine al (cs := [.sc (.int .i64 0), .sc (.int .i64 0), .sc (.bool false)]) 177 rfl rfl ti66 rfl rfl ?_
      refine stB (cs' := [.sc (.int .i64 r11.1.Lo), .sc (.int .i64 r11.1.Hi), .sc (.bool r11.1.Unknown)]) rfl rfl rfl rfl ti66 rfl rfl rfl rfl rfl ?_
      refine pu (v := .sc _) rfl rfl (fun _ => rfl) ?_
      refine RunC.fin ?_
      refine AWP.joinX (fun z12 : Bool => LS.mk [(8, .sc (.bool z12))] (lblks 0 []) 0) hR (fun o12 hR => ?_) fun z12 hR => ?_
      · refine AWP.rgC 245 rfl rfl ?_
        refine pu (v := .sc _) rfl rfl (fun _ => rfl) ?_
        refine pu (v := .sc _) rfl rfl (fun _ => rfl) ?_
        refine brR hR (fun h13 hR => ?_) fun h13 hR => ?_
        · refine pu (v := .sc _) (wtG rfl rfl rfl h13) rfl (fun _ => rfl) ?_
          refine pkT (v := .sc (.bool r10.2)) rfl rfl h13 rfl ?_
          refine pu (v := .sc _) rfl rfl (fun _ => rfl) ?_
          refine brR hR (fun h14 hR => ?_) fun h14 hR => ?_
          · refine pu (v := .sc _) (wtG rfl rfl rfl h14) rfl (fun _ => rfl) ?_
            refine pu (v := .sc _) (wtG rfl rfl rfl h14) rfl (fun _ => rfl) ?_
            refine pu (v := .sc _) (wtG rfl rfl rfl h14) rfl (fun _ => rfl) ?_
            refine pkT (v := .sc (.bool (r8.1 == r10.1))) rfl rfl h14 rfl ?_
            refine pu (v := .sc _) rfl rfl (fun _ => rfl) ?_
            refine brR hR (fun h15 hR => ?_) fun h15 hR => ?_
            · refine pu (v := .sc _) (wtG rfl rfl rfl h15) rfl (fun _ => rfl) ?_
              refine pu (v := .sc _) (wtG rfl rfl rfl h15) rfl (fun _ => rfl) ?_
              refine pkT (v := .sc (.bool (!r11.2))) rfl rfl h15 rfl ?_
              refine pu (v := .sc _) rfl rfl (fun _ => rfl) ?_
              refine RunC.fin ?_
              have hR := Option.some.inj hR; subst hR
              exact Weak.turnL [] [] rfl rfl (tc (.sc _) tn) mn
            · refine sk (skW rfl rfl rfl h15) ?_
              refine sk (skW rfl rfl rfl h15) ?_
              refine pkF (v := .sc (.bool false)) rfl rfl h15 rfl ?_
              refine pu (v := .sc _) rfl rfl (fun _ => rfl) ?_
              refine RunC.fin ?_
              have hR := Option.some.inj hR; subst hR
              exact Weak.turnL [] [] rfl rfl (tc (.sc _) tn) mn
          · refine sk (skW rfl rfl rfl h14) ?_
            refine sk (skW rfl rfl rfl h14) ?_
            refine sk (skW rfl rfl rfl h14) ?_
            refine pkF (v := .sc (.bool false)) rfl rfl h14 rfl ?_
            refine pu (v := .sc _) rfl rfl (fun _ => rfl) ?_
            refine sk (skW rfl rfl rfl rfl) ?_
            refine sk (skW rfl rfl rfl rfl) ?_
            refine pkF (v := .sc (.bool false)) rfl rfl rfl rfl ?_
            refine pu (v := .sc _) rfl rfl (fun _ => rfl) ?_
            refine RunC.fin ?_
            have hR := Option.some.inj hR; subst hR
            exact Weak.turnL [] [] rfl rfl (tc (.sc _) tn) mn
        · refine sk (skW rfl rfl rfl h13) ?_
          refine pkF (v := .sc (.bool false)) rfl rfl h13 rfl ?_
          refine pu (v := .sc _) rfl rfl (fun _ => rfl) ?_
          refine sk (skW rfl rfl rfl rfl) ?_
          refine sk (skW rfl rfl rfl rfl) ?_
          refine sk (skW rfl rfl rfl rfl) ?_
          refine pkF (v := .sc (.bool false)) rfl rfl rfl rfl ?_
          refine pu (v := .sc _) rfl rfl (fun _ => rfl) ?_
          refine sk (skW rfl rfl rfl rfl) ?_
          refine sk (skW rfl rfl rfl rfl) ?_
          refine pkF (v := .sc (.bool false)) rfl rfl rfl rfl ?_
          refine pu (v := .sc _) rfl rfl (fun _ => rfl) ?_
          refine RunC.fin ?_
          have hR := Option.some.inj hR; subst hR
          exact Weak.turnL [] [] rfl rfl (tc (.sc _) tn) mn
      · refine AWP.ret ?_
        have hR := Option.some.inj hR; subst hR
        exact hQ _ _ (LS.mk [(8, .sc (.bool z12))] (lblks 0 []) 0) (.sc (.bool z12)) [] (.inr rfl) (Weak.turnL [] [] rfl rfl (tc (.sc _) tn) mn) (ro1 (rvT (v := .sc (.bool z12)) rfl)) rfl rfl (.sc _) pn
theorem ok33 (m : List Int) (p1 : List Int) (r : Bool) (hR : period_Twins_1 m p1 = some r) : FnP Try.prog 33 [rowV false m, .rp (Cl.c false p1)] (.sc (.bool r)) := by
  refine fnP_of (FnX.walk Try.func33 rfl 7 0 (by simp [Try.ntmps33]) rfl fun W S F Q hQ => ?_)
  unfold period_Twins_1 at hR
  refine AWP.sq ?_
  refine AWP.rgC 4 rfl rfl ?_
  refine pu (v := .sc _) rfl rfl (fun _ => rfl) ?_
  refine RunC.fin ?_
  refine AWP.sq ?_
  refine AWP.rgC 20 rfl rfl ?_
  refine ldR (v := rowV _ p1) rfl rfl ti22 rfl ?_
  refine pu (v := rowV _ m) rfl rfl (fun _ => rfl) ?_
  obtain ⟨r1, hr1, hR⟩ := bindE hR
  refine cls [] rfl rfl cb34 (ok34 p1 m _ hr1) (.cons ldR' (.cons ldR' (.nil))) (.inr rfl) rfl ?_
  refine pu (v := .sc _) rfl rfl (fun _ => rfl) ?_
  refine RunC.fin ?_
  refine AWP.ret ?_
  have hR := Option.some.inj hR; subst hR
  exact hQ _ _ (LS.mk [(3, .sc (.bool r1))] (lblks 0 []) 0) (.sc (.bool r1)) [] (.inr rfl) (Weak.turnL [] [] rfl rfl (tc (.sc _) tn) mn) (ro1 (rvT (v := .sc (.bool r1)) rfl)) rfl rfl (.sc _) pn
theorem ok48 (s : List (List Int)) (fc0 : List Int) (r : Int) (hR : slices_IndexFunc_ListInt_period_Twins_1 s fc0 = some r) : FnP Try.prog 48 [rowV false s, .fn (.func 33) [.rp (Cl.c false fc0)]] (.sc (.int .i64 r)) := by
  refine fnP_of (FnX.walk Try.func48 rfl 19 0 (by simp [Try.ntmps48]) rfl fun W S F Q hQ => ?_)
  unfold slices_IndexFunc_ListInt_period_Twins_1 at hR
  refine AWP.sq ?_
  refine AWP.rgC 4 rfl rfl ?_
  refine pu (v := .sc _) rfl rfl (fun _ => rfl) ?_
  refine RunC.fin ?_
  refine AWP.sq ?_
  refine AWP.sq ?_
  refine AWP.rgC 16 rfl rfl ?_
  refine pu (v := rowV _ s) rfl rfl (fun _ => rfl) ?_
  refine lenL (α := List Int) rfl rfl ti81 rfl ?_
  refine pu (v := .sc _) rfl rfl (fun _ => rfl) ?_
  refine RunC.fin ?_
  refine AWP.loopK' (fun s1 : Int => LS.mk [(0, rowV (α := List Int) false s), (1, .fn (.func 33) [.rp (Cl.c false (fc0 : List Int))]), (7, .sc (.int .i64 (s.length : Int))), (8, .sc (.int .i64 s1))] (lblks 0 []) 0) (fun z2 : Unit => LS.mk [] (lblks 0 []) 0) (slices_IndexFunc_ListInt_period_Twins_1.l1 s fc0) hR (s0 := 0) (Weak.turnL [] [] rfl rfl (tc trR1 (tc (.fn (.cons (.rp (Cl.tr _ _ _ _ id) (Cl.leaf _ _)) (.nil))) (tc (.sc _) (tc (.sc _) tn)))) mn) (fun s1 o1 hR hE1 => ?_) fun z2 hR => ?_
  · unfold slices_IndexFunc_ListInt_period_Twins_1.l1 at hR
    refine AWP.sq ?_
    refine AWP.rgC 4 rfl rfl ?_
    refine pu (v := .sc _) rfl rfl (fun _ => rfl) ?_
    refine RunC.fin ?_
    refine AWP.sq ?_
    refine AWP.cd hR rfl (fun h3 hR => ?_) fun h3 hR => ?_
    · refine AWP.skip ?_
      refine skT ?_
      refine AWP.sq ?_
      refine AWP.block ?_
      refine AWP.sq ?_
      refine AWP.rgC 12 rfl rfl ?_
      refine pu (v := .sc _) rfl rfl (fun _ => rfl) ?_
      refine pu (v := .sc _) rfl rfl (fun _ => rfl) ?_
      refine RunC.fin ?_
      refine AWP.sq ?_
      refine AWP.rgC 36 rfl rfl ?_
      refine pu (v := .fn _ _) rfl rfl (fun _ => rfl) ?_
      refine pu (v := rowV _ s) rfl rfl (fun _ => rfl) ?_
      refine pu (v := .sc _) rfl rfl (fun _ => rfl) ?_
      obtain ⟨h4, hR⟩ := chkE hR
      refine ixL (α := List Int) rfl rfl rfl ti81 rfl ti22 rfl h4 ?_
      refine ldR (v := rowV _ (gt s s1)) rfl rfl ti22 rfl ?_
      obtain ⟨r5, hr5, hR⟩ := bindE hR
      refine cls [] rfl rfl cb33 (ok33 (gt s s1) fc0 _ hr5) (.cons ldR' (.cons (.rp (Cl.ld _ _ _) (Cl.leaf _ _)) (.nil))) (.inr rfl) rfl ?_
      refine RunC.fin ?_
      refine AWP.cd hR rfl (fun h6 hR => ?_) fun h6 hR => ?_
      · refine AWP.sq ?_
        refine AWP.rgC 44 rfl rfl ?_
        refine pu (v := .sc _) rfl rfl (fun _ => rfl) ?_
        refine pu (v := .sc _) rfl rfl (fun _ => rfl) ?_
        refine RunC.fin ?_
        refine AWP.ret ?_
        refine rtB ?_
        refine rtT ?_
        refine rtT ?_
        refine rtB (rtT ?_)
        replace hR := escL hR hE1
        refine rtT ?_
        have hR := Option.some.inj hR; subst hR
        exact hQ _ _ (LS.mk [(4, .sc (.int .i64 s1))] (lblks 0 []) 0) (.sc (.int .i64 s1)) [] (.inr rfl) (Weak.turnL [] [] rfl rfl (tc (.sc _) tn) mn) (ro1 (rvT (v := .sc (.int .i64 s1)) rfl)) rfl rfl (.sc _) pn
      · refine AWP.skip ?_
        refine skB ?_
        refine skT ?_
        refine AWP.rgC 44 rfl rfl ?_
        refine pu (v := .sc _) rfl rfl (fun _ => rfl) ?_
        refine pu (v := .sc _) rfl rfl (fun _ => rfl) ?_
        refine RunC.fin ?_
        refine ⟨(w6 (s1 + 1)), (Option.some.inj hR).symm, ?_⟩
        exact Weak.turnL [] [] rfl rfl (tc trR1 (tc (.fn (.cons (.rp (Cl.tr _ _ _ _ id) (Cl.leaf _ _)) (.nil))) (tc (.sc _) (tc (.sc _) tn)))) mn
    · refine AWP.exit ?_
      refine exT ?_
      refine exT ?_
      refine exH (skT ?_)
      refine ⟨(), (Option.some.inj hR).symm, ?_⟩
      exact Weak.turnL [] [] rfl rfl tn mn
  · refine skT ?_
    refine AWP.sq ?_
    refine AWP.rgC 4 rfl rfl ?_
    refine pu (v := .sc _) rfl rfl (fun _ => rfl) ?_
    refine RunC.fin ?_
    refine AWP.ret ?_
    have hR := Option.some.inj hR; subst hR
    exact hQ _ _ (LS.mk [(4, .sc (.int .i64 (-1)))] (lblks 0 []) 0) (.sc (.int .i64 (-1))) [] (.inr rfl) (Weak.turnL [] [] rfl rfl (tc (.sc _) tn) mn) (ro1 (rvT (v := .sc (.int .i64 (-1))) rfl)) rfl rfl (.sc _) pn
theorem ok32 (s : List (List Int)) (fc0 : List Int) (r : Bool) (hR : slices_ContainsFunc_ListInt_period_Twins_1 s fc0 = some r) : FnP Try.prog 32 [rowV false s, .fn (.func 33) [.rp (Cl.c false fc0)]] (.sc (.bool r)) := by
  refine fnP_of (FnX.walk Try.func32 rfl 9 0 (by simp [Try.ntmps32]) rfl fun W S F Q hQ => ?_)
  unfold slices_ContainsFunc_ListInt_period_Twins_1 at hR
  refine AWP.sq ?_
  refine AWP.rgC 4 rfl rfl ?_
  refine pu (v := .sc _) rfl rfl (fun _ => rfl) ?_
  refine RunC.fin ?_
  refine AWP.sq ?_
  refine AWP.rgC 24 rfl rfl ?_
  refine pu (v := rowV _ s) rfl rfl (fun _ => rfl) ?_
  refine pu (v := .fn _ _) rfl rfl (fun _ => rfl) ?_
  obtain ⟨r1, hr1, hR⟩ := bindE hR
  refine cls [] rfl rfl cb48 (ok48 s fc0 _ hr1) (.cons ldR' (.cons (.fn (.cons (.rp (Cl.ld _ _ _) (Cl.leaf _ _)) (.nil))) (.nil))) (.inr rfl) rfl ?_
  refine pu (v := .sc _) rfl rfl (fun _ => rfl) ?_
  refine pu (v := .sc _) rfl rfl (fun _ => rfl) ?_
  refine RunC.fin ?_
  refine AWP.ret ?_
  have hR := Option.some.inj hR; subst hR
  exact hQ _ _ (LS.mk [(4, .sc (.bool (decide (r1 ≥ 0))))] (lblks 0 []) 0) (.sc (.bool (decide (r1 ≥ 0)))) [] (.inr rfl) (Weak.turnL [] [] rfl rfl (tc (.sc _) tn) mn) (ro1 (rvT (v := .sc (.bool (decide (r1 ≥ 0)))) rfl)) rfl rfl (.sc _) pn
theorem ok14 (l : List curve_Sample) (p : Int) (q : Int) (phases : Int) (r : Bool × Int) (hR : period_Twins l p q phases = some r) : FnP Try.prog 14 [rowV false l, .sc (.int .i64 p), .sc (.int .i64 q), .sc (.int .i64 phases)] (.tup [.sc (.bool r.1), .sc (.int .i64 r.2)]) := by
  refine fnP_of (FnX.walk Try.func14 rfl 56 0 (by simp [Try.ntmps14]) rfl fun W S F Q hQ => ?_)
  unfold period_Twins at hR
  refine AWP.sq ?_
  refine AWP.rgC 8 rfl rfl ?_
  refine pu (v := .sc _) rfl rfl (fun _ => rfl) ?_
  refine pu (v := .sc _) rfl rfl (fun _ => rfl) ?_
  refine RunC.fin ?_
  refine AWP.sq ?_
  refine AWP.rgC 44 rfl rfl ?_
  refine pu (v := rowV _ l) rfl rfl (fun _ => rfl) ?_
  refine pu (v := .sc _) rfl rfl (fun _ => rfl) ?_
  refine pu (v := .sc _) rfl rfl (fun _ => rfl) ?_
  obtain ⟨r1, hr1, hR⟩ := bindE hR
  refine cls [] rfl rfl cb25 (ok25 l p phases _ hr1) (.cons ldR' (.cons (.sc _) (.cons (.sc _) (.nil)))) (.inr rfl) rfl ?_
  refine pu (v := .tup _) rfl rfl (fun _ => rfl) ?_
  refine pu (v := rowV _ r1.1) rfl rfl (fun _ => rfl) ?_
  refine pu (v := .sc _) rfl rfl (fun _ => rfl) ?_
  refine pu (v := rowV _ r1.1) rfl rfl (fun _ => rfl) ?_
  refine pu (v := .sc _) rfl rfl (fun _ => rfl) ?_
  refine RunC.fin ?_
  refine AWP.sq ?_
  refine AWP.sq ?_
  refine AWP.rgC 52 rfl rfl ?_
  refine pu (v := .sc _) rfl rfl (fun _ => rfl) ?_
  refine pu (v := .sc _) rfl rfl (fun _ => rfl) ?_
  refine RunC.fin ?_
  refine AWP.cd hR rfl (fun h2 hR => ?_) fun h2 hR => ?_
  · refine AWP.sq ?_
    refine AWP.rgC 64 rfl rfl ?_
    refine pu (v := .sc _) rfl rfl (fun _ => rfl) ?_
    refine pu (v := .sc _) rfl rfl (fun _ => rfl) ?_
    refine pu (v := .sc _) rfl rfl (fun _ => rfl) ?_
    refine RunC.fin ?_
    refine AWP.ret ?_
    refine rtT ?_
    have hR := Option.some.inj hR; subst hR
    exact hQ _ _ (LS.mk [(8, .sc (.bool false)), (9, .sc (.int .i64 r1.2))] (lblks 0 []) 0) (.tup [.sc (.bool false), .sc (.int .i64 r1.2)]) [] (.inr rfl) (Weak.turnL [] [] rfl rfl (tc (.sc _) (tc (.sc _) tn)) mn) (ro2 (rvT (v := .sc (.bool false)) rfl) (rvT (v := .sc (.int .i64 r1.2)) rfl)) rfl rfl (.tup (.cons (.sc _) (.cons (.sc _) .nil))) pn
  · refine AWP.skip ?_
    refine skT ?_
    refine AWP.sq ?_
    refine AWP.rgC 88 rfl rfl ?_
    refine pu (v := rowV _ l) rfl rfl (fun _ => rfl) ?_
    refine pu (v := .sc _) rfl rfl (fun _ => rfl) ?_
    refine pu (v := .sc _) rfl rfl (fun _ => rfl) ?_
    obtain ⟨r3, hr3, hR⟩ := bindE hR
    refine cls [] rfl rfl cb25 (ok25 l q phases _ hr3) (.cons ldR' (.cons (.sc _) (.cons (.sc _) (.nil)))) (.inr rfl) rfl ?_
    refine pu (v := .tup _) rfl rfl (fun _ => rfl) ?_
    refine pu (v := rowV _ r3.1) rfl rfl (fun _ => rfl) ?_
    refine pu (v := .sc _) rfl rfl (fun _ => rfl) ?_
    refine pu (v := rowV _ r3.1) rfl rfl (fun _ => rfl) ?_
    refine pu (v := .sc _) rfl rfl (fun _ => rfl) ?_
    refine RunC.fin ?_
    refine AWP.sq ?_
    refine AWP.sq ?_
    refine AWP.rgC 96 rfl rfl ?_
    refine pu (v := .sc _) rfl rfl (fun _ => rfl) ?_
    refine pu (v := .sc _) rfl rfl (fun _ => rfl) ?_
    refine RunC.fin ?_
    refine AWP.cd hR rfl (fun h4 hR => ?_) fun h4 hR => ?_
    · refine AWP.sq ?_
      refine AWP.rgC 108 rfl rfl ?_
      refine pu (v := .sc _) rfl rfl (fun _ => rfl) ?_
      refine pu (v := .sc _) rfl rfl (fun _ => rfl) ?_
      refine pu (v := .sc _) rfl rfl (fun _ => rfl) ?_
      refine RunC.fin ?_
      refine AWP.ret ?_
      refine rtT ?_
      have hR := Option.some.inj hR; subst hR
      exact hQ _ _ (LS.mk [(8, .sc (.bool false)), (9, .sc (.int .i64 r3.2))] (lblks 0 []) 0) (.tup [.sc (.bool false), .sc (.int .i64 r3.2)]) [] (.inr rfl) (Weak.turnL [] [] rfl rfl (tc (.sc _) (tc (.sc _) tn)) mn) (ro2 (rvT (v := .sc (.bool false)) rfl) (rvT (v := .sc (.int .i64 r3.2)) rfl)) rfl rfl (.tup (.cons (.sc _) (.cons (.sc _) .nil))) pn
    · refine AWP.skip ?_
      refine skT ?_
      refine AWP.sq ?_
      refine AWP.sq ?_
      refine AWP.rgC 108 rfl rfl ?_
      refine pu (v := rowV _ r1.1) rfl rfl (fun _ => rfl) ?_
      refine lenL (α := List Int) rfl rfl ti81 rfl ?_
      refine pu (v := .sc _) rfl rfl (fun _ => rfl) ?_
      refine RunC.fin ?_
      refine AWP.loopK' (fun s5 : Int => LS.mk [(10, rowV (α := List Int) true r1.1), (12, rowV (α := List Int) true r3.1), (35, rowV (α := List Int) true r1.1), (36, .sc (.int .i64 (r1.1.length : Int))), (37, .sc (.int .i64 s5))] (lblks 0 []) 0) (fun z6 : Unit => LS.mk [(10, rowV (α := List Int) true r1.1), (12, rowV (α := List Int) true r3.1)] (lblks 0 []) 0) (period_Twins.l1 r1 r3) hR (s0 := 0) (Weak.turnL [] [] rfl rfl (tc trR1 (tc trR1 (tc trR1 (tc (.sc _) (tc (.sc _) tn))))) mn) (fun s5 o5 hR hE5 => ?_) fun z6 hR => ?_
      · unfold period_Twins.l1 at hR
        refine AWP.sq ?_
        refine AWP.rgC 4 rfl rfl ?_
        refine pu (v := .sc _) rfl rfl (fun _ => rfl) ?_
        refine RunC.fin ?_
        refine AWP.sq ?_
        refine AWP.cd hR rfl (fun h7 hR => ?_) fun h7 hR => ?_
        · refine AWP.skip ?_
          refine skT ?_
          refine AWP.sq ?_
          refine AWP.block ?_
          refine AWP.sq ?_
          refine AWP.rgC 20 rfl rfl ?_
          obtain ⟨h8, hR⟩ := chkE hR
          refine ixL (α := List Int) rfl rfl rfl ti81 rfl ti22 rfl h8 ?_
          refine ldR (v := rowV _ (gt r1.1 s5)) rfl rfl ti22 rfl ?_
          refine al (cs := [.sc (.slice none 0 0)]) 12 rfl rfl ti22 rfl rfl ?_
          refine stB (cs' := [rowV (α := Int) true (gt r1.1 s5)]) rfl rfl rfl rfl ti22 rfl rfl rfl rfl rfl ?_
          refine RunC.fin ?_
          refine AWP.joinX (fun z9 : Bool => LS.mk [(10, rowV (α := List Int) true r1.1), (12, rowV (α := List Int) true r3.1), (35, rowV (α := List Int) true r1.1), (36, .sc (.int .i64 (r1.1.length : Int))), (37, .sc (.int .i64 s5)), (49, .sc (.bool z9))] (lblks 0 []) 0) hR (fun o9 hR => ?_) fun z9 hR => ?_
          · refine AWP.rgC 56 rfl rfl ?_
            refine ldB (v := rowV _ (gt r1.1 s5)) rfl rfl rfl rfl ti22 rfl rfl ?_
            refine lenL (α := Int) rfl rfl ti22 rfl ?_
            refine pu (v := .sc _) rfl rfl (fun _ => rfl) ?_
            refine pu (v := .sc _) rfl rfl (fun _ => rfl) ?_
            refine brR hR (fun h10 hR => ?_) fun h10 hR => ?_
            · refine pu (v := rowV _ r3.1) (wtG rfl rfl rfl h10) rfl (fun _ => rfl) ?_
              refine pu (v := .fn _ _) (wtG rfl rfl rfl h10) rfl (fun _ => rfl) ?_
              obtain ⟨r11, hr11, hR⟩ := bindE hR
              refine cls [12] (wtG rfl rfl rfl h10) rfl cb32 (ok32 r3.1 (gt r1.1 s5) _ hr11) (.cons ldR' (.cons (.fn (.cons (ldX rfl rfl (.cons ldR' (.nil)) rfl) (.nil))) (.nil))) (.inl (by first | rfl | exact freshR | exact freshA | (simp only [V.fresh, V.freshs, freshR, freshA, Bool.and_self]))) rfl ?_
              refine pu (v := .sc _) (wtG rfl rfl rfl h10) rfl (fun _ => rfl) ?_
              refine pkT (v := .sc (.bool (!r11))) rfl rfl h10 rfl ?_
              refine RunC.fin ?_
              have hR := Option.some.inj hR; subst hR
              exact Weak.turnL [] [] rfl rfl (tc trR1 (tc trR1 (tc trR1 (tc (.sc _) (tc (.sc _) (tc (.sc _) tn)))))) mn
            · refine sk (skW rfl rfl rfl h10) ?_
              refine sk (skW rfl rfl rfl h10) ?_
              refine sk (skW rfl rfl rfl h10) ?_
              refine sk (skW rfl rfl rfl h10) ?_
              refine pkF (v := .sc (.bool false)) rfl rfl h10 rfl ?_
              refine RunC.fin ?_
              have hR := Option.some.inj hR; subst hR
              exact Weak.turnL [] [] rfl rfl (tc trR1 (tc trR1 (tc trR1 (tc (.sc _) (tc (.sc _) (tc (.sc _) tn)))))) mn
          · refine AWP.cd hR rfl (fun h12 hR => ?_) fun h12 hR => ?_
            · refine AWP.sq ?_
              refine AWP.rgC 8 rfl rfl ?_
              refine pu (v := .sc _) rfl rfl (fun _ => rfl) ?_
              refine pu (v := .sc _) rfl rfl (fun _ => rfl) ?_
              refine RunC.fin ?_
              refine AWP.ret ?_
              refine rtB ?_
              refine rtT ?_
              refine rtT ?_
              refine rtB (rtT ?_)
              replace hR := escL hR hE5
              refine rtT ?_
              have hR := Option.some.inj hR; subst hR
              exact hQ _ _ (LS.mk [(8, .sc (.bool false)), (9, .sc (.int .i64 0))] (lblks 0 []) 0) (.tup [.sc (.bool false), .sc (.int .i64 0)]) [] (.inr rfl) (Weak.turnL [] [] rfl rfl (tc (.sc _) (tc (.sc _) tn)) mn) (ro2 (rvT (v := .sc (.bool false)) rfl) (rvT (v := .sc (.int .i64 0)) rfl)) rfl rfl (.tup (.cons (.sc _) (.cons (.sc _) .nil))) pn
            · refine AWP.skip ?_
              refine skB ?_
              refine skT ?_
              refine AWP.rgC 8 rfl rfl ?_
              refine pu (v := .sc _) rfl rfl (fun _ => rfl) ?_
              refine pu (v := .sc _) rfl rfl (fun _ => rfl) ?_
              refine RunC.fin ?_
              refine ⟨(w6 (s5 + 1)), (Option.some.inj hR).symm, ?_⟩
              exact Weak.turnL [] [] rfl rfl (tc trR1 (tc trR1 (tc trR1 (tc (.sc _) (tc (.sc _) tn))))) mn
        · refine AWP.exit ?_
          refine exT ?_
          refine exT ?_
          refine exH (skT ?_)
          refine ⟨(), (Option.some.inj hR).symm, ?_⟩
          exact Weak.turnL [] [] rfl rfl (tc trR1 (tc trR1 tn)) mn
      · refine skT ?_
        refine AWP.sq ?_
        refine AWP.rgC 28 rfl rfl ?_
        refine pu (v := rowV _ r1.1) rfl rfl (fun _ => rfl) ?_
        obtain ⟨r13, hr13, hR⟩ := bindE hR
        refine cls [] rfl rfl cb35 (ok35 r1.1 _ hr13) (.cons ldR' (.nil)) (.inr rfl) rfl ?_
        refine pu (v := rowV _ r3.1) rfl rfl (fun _ => rfl) ?_
        obtain ⟨r14, hr14, hR⟩ := bindE hR
        refine cls [] rfl rfl cb35 (ok35 r3.1 _ hr14) (.cons ldR' (.nil)) (.inr rfl) rfl ?_
        refine pu (v := .sc _) rfl rfl (fun _ => rfl) ?_
        refine pu (v := .sc _) rfl rfl (fun _ => rfl) ?_
        refine pu (v := .sc _) rfl rfl (fun _ => rfl) ?_
        refine RunC.fin ?_
        refine AWP.ret ?_
        have hR := Option.some.inj hR; subst hR
        exact hQ _ _ (LS.mk [(8, .sc (.bool (r13 == r14))), (9, .sc (.int .i64 0))] (lblks 0 []) 0) (.tup [.sc (.bool (r13 == r14)), .sc (.int .i64 0)]) [] (.inr rfl) (Weak.turnL [] [] rfl rfl (tc (.sc _) (tc (.sc _) tn)) mn) (ro2 (rvT (v := .sc (.bool (r13 == r14))) rfl) (rvT (v := .sc (.int .i64 0)) rfl)) rfl rfl (.tup (.cons (.sc _) (.cons (.sc _) .nil))) pn
theorem ok13 (s : List Int) (v : Int) (r : Bool) (hR : slices_Contains_Int s v = some r) : FnP Try.prog 13 [rowV false s, .sc (.int .i64 v)] (.sc (.bool r)) := by
  refine fnP_of (FnX.walk Try.func13 rfl 9 0 (by simp [Try.ntmps13]) rfl fun W S F Q hQ => ?_)
  unfold slices_Contains_Int at hR
  refine AWP.sq ?_
  refine AWP.rgC 4 rfl rfl ?_
  refine pu (v := .sc _) rfl rfl (fun _ => rfl) ?_
  refine RunC.fin ?_
  refine AWP.sq ?_
  refine AWP.rgC 24 rfl rfl ?_
  refine pu (v := rowV _ s) rfl rfl (fun _ => rfl) ?_
  refine pu (v := .sc _) rfl rfl (fun _ => rfl) ?_
  obtain ⟨r1, hr1, hR⟩ := bindE hR
  refine cls [] rfl rfl cb31 (ok31 s v _ hr1) (.cons ldR' (.cons (.sc _) (.nil))) (.inr rfl) rfl ?_
  refine pu (v := .sc _) rfl rfl (fun _ => rfl) ?_
  refine pu (v := .sc _) rfl rfl (fun _ => rfl) ?_
  refine RunC.fin ?_
  refine AWP.ret ?_
  have hR := Option.some.inj hR; subst hR
  exact hQ _ _ (LS.mk [(4, .sc (.bool (decide (r1 ≥ 0))))] (lblks 0 []) 0) (.sc (.bool (decide (r1 ≥ 0)))) [] (.inr rfl) (Weak.turnL [] [] rfl rfl (tc (.sc _) tn) mn) (ro1 (rvT (v := .sc (.bool (decide (r1 ≥ 0)))) rfl)) rfl rfl (.sc _) pn
theorem ok27 (x : List period_Pair) (r : period_Pair) (hR : slices_MinFunc_period_Pair_period_Why_1 x = some r) : FnP Try.prog 27 [rowV false x, .fn (.func 28) []] (aggV (α := period_Pair) true r) := by
  refine fnP_of (FnX.walk Try.func27 rfl 33 0 (by simp [Try.ntmps27]) rfl fun W S F Q hQ => ?_)
  unfold slices_MinFunc_period_Pair_period_Why_1 at hR
  refine AWP.sq ?_
  refine AWP.rgC 4 rfl rfl ?_
  refine al (cs := [.sc (.int .i64 0), .sc (.int .i64 0)]) 0 rfl rfl ti48 rfl rfl ?_
  refine RunC.fin ?_
  refine AWP.sq ?_
  refine AWP.sq ?_
  refine AWP.rgC 16 rfl rfl ?_
  refine pu (v := rowV _ x) rfl rfl (fun _ => rfl) ?_
  refine lenL (α := period_Pair) rfl rfl ti84 rfl ?_
  refine pu (v := .sc _) rfl rfl (fun _ => rfl) ?_
  refine RunC.fin ?_
  refine AWP.cd hR rfl (fun h1 hR => ?_) fun h1 hR => ?_
  · cases hR
  · refine AWP.skip ?_
    refine skT ?_
    refine AWP.sq ?_
    refine AWP.rgC 36 rfl rfl ?_
    refine pu (v := rowV _ x) rfl rfl (fun _ => rfl) ?_
    obtain ⟨h2, hR⟩ := chkE hR
    refine ixL (α := period_Pair) rfl rfl rfl ti84 rfl ti48 rfl h2 ?_
    refine ldR (v := .agg _) rfl rfl ti48 rfl ?_
    refine al (cs := [.sc (.int .i64 0), .sc (.int .i64 0)]) 28 rfl rfl ti48 rfl rfl ?_
    refine stB (cs' := [.sc (.int .i64 (gt x 0).I), .sc (.int .i64 (gt x 0).J)]) rfl rfl rfl rfl ti48 rfl rfl rfl rfl rfl ?_
    refine RunC.fin ?_
    refine AWP.sq ?_
    refine AWP.sq ?_
    refine AWP.rgC 40 rfl rfl ?_
    refine pu (v := .sc _) rfl rfl (fun _ => rfl) ?_
    refine RunC.fin ?_
    refine AWP.loopJ (fun s3 : period_Pair × Int => LS.mk [(0, rowV (α := period_Pair) false x), (1, .fn (.func 28) []), (4, .ptr 0 0 0), (5, .ptr 1 0 0), (6, .sc (.int .i64 s3.2))] (lblks 0 [boxB (α := period_Pair) true (period_Pair.mk 0 0), boxB (α := period_Pair) true s3.1]) 2) (fun z4 : period_Pair => LS.mk [(4, .ptr 0 0 0), (5, .ptr 1 0 0)] (lblks 0 [boxB (α := period_Pair) true (period_Pair.mk 0 0), boxB (α := period_Pair) true z4]) 2) (slices_MinFunc_period_Pair_period_Why_1.l1 x) hR (s0 := ((gt x 0), 1)) (Weak.turnL [(0, 0), (28, 0)] [] rfl rfl (tc trR1 (tc (.fn (.nil)) (tc (trP' rfl rfl rfl rfl) (tc (trP' rfl rfl rfl rfl) (tc (.sc _) tn))))) (mc rfl (.box rfl (.cons (.sc _) (.cons (.sc _) (.nil))) rfl) (mc rfl (.box rfl (.cons (.sc _) (.cons (.sc _) (.nil))) rfl) mn))) (fun s3 o3 hR => ?_) fun z4 hR => ?_
    · unfold slices_MinFunc_period_Pair_period_Why_1.l1 at hR
      refine AWP.sq ?_
      refine AWP.sq ?_
      refine AWP.rgC 18 rfl rfl ?_
      refine pu (v := .sc _) rfl rfl (fun _ => rfl) ?_
      refine pu (v := rowV _ x) rfl rfl (fun _ => rfl) ?_
      refine lenL (α := period_Pair) rfl rfl ti84 rfl ?_
      refine pu (v := .sc _) rfl rfl (fun _ => rfl) ?_
      refine RunC.fin ?_
      refine AWP.cd hR rfl (fun h5 hR => ?_) fun h5 hR => ?_
      · refine AWP.skip ?_
        refine skT ?_
        refine AWP.joinX (fun z6 : period_Pair => LS.mk [(0, rowV (α := period_Pair) false x), (1, .fn (.func 28) []), (4, .ptr 0 0 0), (5, .ptr 1 0 0), (6, .sc (.int .i64 s3.2))] (lblks 0 [boxB (α := period_Pair) true (period_Pair.mk 0 0), boxB (α := period_Pair) true z6]) 2) hR (fun o6 hR => ?_) fun z6 hR => ?_
        · refine AWP.block ?_
          refine AWP.sq ?_
          refine AWP.rgD 50 [0, 0, 0, 6, 14, 0, 63, 127] ⟨[], [none, none, none, none, some [], some [1], none, none]⟩ hmix (by kernel_rfl) rfl rfl ?_
          refine pu (v := .fn _ _) rfl rfl (fun _ => rfl) ?_
          refine pu (v := rowV _ x) rfl rfl (fun _ => rfl) ?_
          refine pu (v := .sc _) rfl rfl (fun _ => rfl) ?_
          obtain ⟨h7, hR⟩ := chkE hR
          refine ixL (α := period_Pair) rfl rfl rfl ti84 rfl ti48 rfl h7 ?_
          refine ldR (v := .agg _) rfl rfl ti48 rfl ?_
          refine ldB (v := .agg _) rfl rfl rfl rfl ti48 rfl rfl ?_
          obtain ⟨r8, hr8, hR⟩ := bindE hR
          refine cls [] rfl rfl cb28 (ok28 (gt x s3.2) s3.1 _ hr8) (.cons (.agg (.cons (.sc _) (.cons (.sc _) (.nil))) rfl) (.cons (.agg (.cons (.sc _) (.cons (.sc _) (.nil))) rfl) (.nil))) (.inr rfl) rfl ?_
          refine pu (v := .sc _) rfl rfl (fun _ => rfl) ?_
          refine RunC.fin ?_
          refine AWP.cd hR rfl (fun h9 hR => ?_) fun h9 hR => ?_
          · refine AWP.rgC 70 rfl rfl ?_
            refine pu (v := rowV _ x) rfl rfl (fun _ => rfl) ?_
            refine pu (v := .sc _) rfl rfl (fun _ => rfl) ?_
            refine ixL (α := period_Pair) rfl rfl rfl ti84 rfl ti48 rfl h7 ?_
            refine ldR (v := .agg _) rfl rfl ti48 rfl ?_
            refine stB (cs' := [.sc (.int .i64 (gt x s3.2).I), .sc (.int .i64 (gt x s3.2).J)]) rfl rfl rfl rfl ti48 rfl rfl rfl rfl rfl ?_
            refine RunC.blk ?_
            refine RunC.fin ?_
            have hR := Option.some.inj hR; subst hR
            exact Weak.turnL [(0, 0), (1, 0)] [] rfl rfl (tc trR1 (tc (.fn (.nil)) (tc (trP' rfl rfl rfl rfl) (tc (trP' rfl rfl rfl rfl) (tc (.sc _) tn))))) (mc rfl (.box rfl (.cons (.sc _) (.cons (.sc _) (.nil))) rfl) (mc rfl (.box rfl (.cons (.sc _) (.cons (.sc _) (.nil))) rfl) mn))
          · refine AWP.skip ?_
            refine skB ?_
            refine skT ?_
            have hR := Option.some.inj hR; subst hR
            exact Weak.turnL [(0, 0), (1, 0)] [] rfl rfl (tc trR1 (tc (.fn (.nil)) (tc (trP' rfl rfl rfl rfl) (tc (trP' rfl rfl rfl rfl) (tc (.sc _) tn))))) (mc rfl (.box rfl (.cons (.sc _) (.cons (.sc _) (.nil))) rfl) (mc rfl (.box rfl (.cons (.sc _) (.cons (.sc _) (.nil))) rfl) mn))
        · refine AWP.rgC 14 rfl rfl ?_
          refine pu (v := .sc _) rfl rfl (fun _ => rfl) ?_
          refine pu (v := .sc _) rfl rfl (fun _ => rfl) ?_
          refine pu (v := .sc _) rfl rfl (fun _ => rfl) ?_
          refine RunC.fin ?_
          refine ⟨(z6, w6 (s3.2 + 1)), (Option.some.inj hR).symm, ?_⟩
          exact Weak.turnL [(0, 0), (1, 0)] [] rfl rfl (tc trR1 (tc (.fn (.nil)) (tc (trP' rfl rfl rfl rfl) (tc (trP' rfl rfl rfl rfl) (tc (.sc _) tn))))) (mc rfl (.box rfl (.cons (.sc _) (.cons (.sc _) (.nil))) rfl) (mc rfl (.box rfl (.cons (.sc _) (.cons (.sc _) (.nil))) rfl) mn))
      · refine AWP.exit ?_
        refine exT ?_
        refine exT ?_
        refine exH (skT ?_)
        refine ⟨s3.1, (Option.some.inj hR).symm, ?_⟩
        exact Weak.turnL [(0, 0), (1, 0)] [] rfl rfl (tc (trP' rfl rfl rfl rfl) (tc (trP' rfl rfl rfl rfl) tn)) (mc rfl (.box rfl (.cons (.sc _) (.cons (.sc _) (.nil))) rfl) (mc rfl (.box rfl (.cons (.sc _) (.cons (.sc _) (.nil))) rfl) mn))
    · refine skT ?_
      refine AWP.sq ?_
      refine AWP.rgC 10 rfl rfl ?_
      refine ldB (v := .agg _) rfl rfl rfl rfl ti48 rfl rfl ?_
      refine stB (cs' := [.sc (.int .i64 z4.I), .sc (.int .i64 z4.J)]) rfl rfl rfl rfl ti48 rfl rfl rfl rfl rfl ?_
      refine RunC.fin ?_
      refine AWP.ret ?_
      have hR := Option.some.inj hR; subst hR
      exact hQ _ _ (LS.mk [(4, .ptr 0 0 0)] (lblks 0 [boxB (α := period_Pair) true z4]) 1) (aggV (α := period_Pair) true z4) [] (.inr rfl) (Weak.turnL [(0, 0)] [] rfl rfl (tc (trP' rfl rfl rfl rfl) tn) (mc rfl (.box rfl (.cons (.sc _) (.cons (.sc _) (.nil))) rfl) mn)) (ro1 (rvC (v := aggV (α := period_Pair) true z4) rfl rfl ti48 rfl)) rfl rfl ldA pn
theorem ok12 (l : List curve_Sample) (period : Int) (phases : Int) (r : period_Pair × Bool × Int) (hR : period_Why l period phases = some r) : FnP Try.prog 12 [rowV false l, .sc (.int .i64 period), .sc (.int .i64 phases)] (.tup [aggV (α := period_Pair) true r.1, .sc (.bool r.2.1), .sc (.int .i64 r.2.2)]) := by
  refine fnP_of (FnX.walk Try.func12 rfl 84 0 (by simp [Try.ntmps12]) rfl fun W S F Q hQ => ?_)
  unfold period_Why at hR
  refine AWP.sq ?_
  refine AWP.rgC 12 rfl rfl ?_
  refine al (cs := [.sc (.int .i64 0), .sc (.int .i64 0)]) 0 rfl rfl ti48 rfl rfl ?_
  refine pu (v := .sc _) rfl rfl (fun _ => rfl) ?_
  refine pu (v := .sc _) rfl rfl (fun _ => rfl) ?_
  refine RunC.fin ?_
  refine AWP.sq ?_
  refine AWP.rgC 48 rfl rfl ?_
  refine pu (v := rowV _ l) rfl rfl (fun _ => rfl) ?_
  refine pu (v := .sc _) rfl rfl (fun _ => rfl) ?_
  refine pu (v := .sc _) rfl rfl (fun _ => rfl) ?_
  obtain ⟨r1, hr1, hR⟩ := bindE hR
  refine cls [] rfl rfl cb25 (ok25 l period phases _ hr1) (.cons ldR' (.cons (.sc _) (.cons (.sc _) (.nil)))) (.inr rfl) rfl ?_
  refine pu (v := .tup _) rfl rfl (fun _ => rfl) ?_
  refine pu (v := rowV _ r1.1) rfl rfl (fun _ => rfl) ?_
  refine pu (v := .sc _) rfl rfl (fun _ => rfl) ?_
  refine pu (v := rowV _ r1.1) rfl rfl (fun _ => rfl) ?_
  refine pu (v := .sc _) rfl rfl (fun _ => rfl) ?_
  refine RunC.fin ?_
  refine AWP.sq ?_
  refine AWP.sq ?_
  refine AWP.rgC 56 rfl rfl ?_
  refine pu (v := .sc _) rfl rfl (fun _ => rfl) ?_
  refine pu (v := .sc _) rfl rfl (fun _ => rfl) ?_
  refine RunC.fin ?_
  refine AWP.cd hR rfl (fun h2 hR => ?_) fun h2 hR => ?_
  · refine AWP.sq ?_
    refine AWP.rgC 76 rfl rfl ?_
    refine bu (cs := [.sc (.int .i64 0), .sc (.int .i64 0)]) rfl bt48 rfl ?_
    refine pu (v := .sc _) rfl rfl (fun _ => rfl) ?_
    refine stB (cs' := [.sc (.int .i64 0), .sc (.int .i64 0)]) rfl rfl rfl rfl ti48 rfl rfl rfl rfl rfl ?_
    refine pu (v := .sc _) rfl rfl (fun _ => rfl) ?_
    refine pu (v := .sc _) rfl rfl (fun _ => rfl) ?_
    refine RunC.fin ?_
    refine AWP.ret ?_
    refine rtT ?_
    have hR := Option.some.inj hR; subst hR
    exact hQ _ _ (LS.mk [(6, .ptr 0 0 0), (7, .sc (.bool false)), (8, .sc (.int .i64 r1.2))] (lblks 0 [boxB (α := period_Pair) true (period_Pair.mk 0 0)]) 1) (.tup [aggV (α := period_Pair) true (period_Pair.mk 0 0), .sc (.bool false), .sc (.int .i64 r1.2)]) [] (.inr rfl) (Weak.turnL [(0, 0)] [] rfl rfl (tc (trP' rfl rfl rfl rfl) (tc (.sc _) (tc (.sc _) tn))) (mc rfl (.box rfl (.cons (.sc _) (.cons (.sc _) (.nil))) rfl) mn)) (ro3 (rvC (v := aggV (α := period_Pair) true (period_Pair.mk 0 0)) rfl rfl ti48 rfl) (rvT (v := .sc (.bool false)) rfl) (rvT (v := .sc (.int .i64 r1.2)) rfl)) rfl rfl (.tup (.cons ldA (.cons (.sc _) (.cons (.sc _) .nil)))) pn
  · refine AWP.skip ?_
    refine skT ?_
    refine AWP.sq ?_
    refine AWP.rgC 60 rfl rfl ?_
    refine pu (v := .sc _) rfl rfl (fun _ => rfl) ?_
    refine RunC.fin ?_
    refine AWP.sq ?_
    refine AWP.sq ?_
    refine AWP.rgC 72 rfl rfl ?_
    refine pu (v := rowV _ r1.1) rfl rfl (fun _ => rfl) ?_
    refine lenL (α := List Int) rfl rfl ti81 rfl ?_
    refine pu (v := .sc _) rfl rfl (fun _ => rfl) ?_
    refine RunC.fin ?_
    refine AWP.nilT period_Pair 11 48 rfl ?_
    refine AWP.loopJ (fun s3 : (List period_Pair) × Int => LS.mk [(0, rowV (α := curve_Sample) false l), (6, .ptr 0 0 0), (11, slV period_Pair 1 0 0 s3.1.length), (31, rowV (α := List Int) true r1.1), (32, .sc (.int .i64 (r1.1.length : Int))), (33, .sc (.int .i64 s3.2))] (lblks 0 [boxB (α := period_Pair) true (period_Pair.mk 0 0), arrB (α := period_Pair) 48 0 true s3.1]) 2) (fun z4 : (List period_Pair) => LS.mk [(6, .ptr 0 0 0), (11, slV period_Pair 1 0 0 z4.length)] (lblks 0 [boxB (α := period_Pair) true (period_Pair.mk 0 0), arrB (α := period_Pair) 48 0 true z4]) 2) (period_Why.l1 l r1) hR (s0 := (([] : List period_Pair), 0)) (Weak.turnL [(0, 0), (72, 0)] [] rfl rfl (tc trR1 (tc (trP' rfl rfl rfl rfl) (tc (trS' rfl rfl rfl rfl rfl) (tc trR1 (tc (.sc _) (tc (.sc _) tn)))))) (mc rfl (.box rfl (.cons (.sc _) (.cons (.sc _) (.nil))) rfl) (mc rfl (btrA' rfl) mn))) (fun s3 o3 hR => ?_) fun z4 hR => ?_
    · unfold period_Why.l1 at hR
      refine AWP.sq ?_
      refine AWP.rgC 6 rfl rfl ?_
      refine pu (v := .sc _) rfl rfl (fun _ => rfl) ?_
      refine RunC.fin ?_
      refine AWP.sq ?_
      refine AWP.cd hR rfl (fun h5 hR => ?_) fun h5 hR => ?_
      · refine AWP.skip ?_
        refine skT ?_
        refine AWP.sq ?_
        refine AWP.block ?_
        refine AWP.sq ?_
        refine AWP.rgC 18 rfl rfl ?_
        obtain ⟨h6, hR⟩ := chkE hR
        refine ixL (α := List Int) rfl rfl rfl ti81 rfl ti22 rfl h6 ?_
        refine ldR (v := rowV _ (gt r1.1 s3.2)) rfl rfl ti22 rfl ?_
        refine pu (v := rowV _ (gt r1.1 s3.2)) rfl rfl (fun _ => rfl) ?_
        refine RunC.fin ?_
        refine AWP.sq ?_
        refine AWP.rgC 30 rfl rfl ?_
        refine pu (v := rowV _ (gt r1.1 s3.2)) rfl rfl (fun _ => rfl) ?_
        refine lenL (α := Int) rfl rfl ti22 rfl ?_
        refine pu (v := .sc _) rfl rfl (fun _ => rfl) ?_
        refine RunC.fin ?_
        refine AWP.loopJ (fun s7 : (List period_Pair) × Int => LS.mk [(0, rowV (α := curve_Sample) false l), (6, .ptr 0 0 0), (11, slV period_Pair 1 0 0 s7.1.length), (13, rowV (α := Int) true (gt r1.1 s3.2)), (31, rowV (α := List Int) true r1.1), (32, .sc (.int .i64 (r1.1.length : Int))), (33, .sc (.int .i64 s3.2)), (37, rowV (α := Int) true (gt r1.1 s3.2)), (38, .sc (.int .i64 ((gt r1.1 s3.2).length : Int))), (39, .sc (.int .i64 s7.2))] (lblks 0 [boxB (α := period_Pair) true (period_Pair.mk 0 0), arrB (α := period_Pair) 48 0 true s7.1]) 2) (fun z8 : (List period_Pair) => LS.mk [(0, rowV (α := curve_Sample) false l), (6, .ptr 0 0 0), (11, slV period_Pair 1 0 0 z8.length), (31, rowV (α := List Int) true r1.1), (32, .sc (.int .i64 (r1.1.length : Int))), (33, .sc (.int .i64 s3.2))] (lblks 0 [boxB (α := period_Pair) true (period_Pair.mk 0 0), arrB (α := period_Pair) 48 0 true z8]) 2) (period_Why.l2 l r1 s3) hR (s0 := (s3.1, 0)) (Weak.turnL [(0, 0), (1, 0)] [] rfl rfl (tc trR1 (tc (trP' rfl rfl rfl rfl) (tc (trS' rfl rfl rfl rfl rfl) (tc trR1 (tc trR1 (tc (.sc _) (tc (.sc _) (tc trR1 (tc (.sc _) (tc (.sc _) tn)))))))))) (mc rfl (.box rfl (.cons (.sc _) (.cons (.sc _) (.nil))) rfl) (mc rfl (btrA' rfl) mn))) (fun s7 o7 hR => ?_) fun z8 hR => ?_
        · unfold period_Why.l2 at hR
          refine AWP.sq ?_
          refine AWP.rgC 6 rfl rfl ?_
          refine pu (v := .sc _) rfl rfl (fun _ => rfl) ?_
          refine RunC.fin ?_
          refine AWP.sq ?_
          refine AWP.cd hR rfl (fun h9 hR => ?_) fun h9 hR => ?_
          · refine AWP.skip ?_
            refine skT ?_
            refine AWP.sq ?_
            refine AWP.block ?_
            refine AWP.sq ?_
            refine AWP.rgC 26 rfl rfl ?_
            refine pu (v := .sc _) rfl rfl (fun _ => rfl) ?_
            obtain ⟨h10, hR⟩ := chkE hR
            refine ixL (α := Int) rfl rfl rfl ti22 rfl ti3 rfl h10 ?_
            refine ldR (v := .sc _) rfl rfl ti3 rfl ?_
            refine pu (v := .sc _) rfl rfl (fun _ => rfl) ?_
            refine pu (v := .sc _) rfl rfl (fun _ => rfl) ?_
            refine RunC.fin ?_
            refine AWP.sq ?_
            refine AWP.rgC 50 rfl rfl ?_
            refine pu (v := rowV _ (gt r1.1 s3.2)) rfl rfl (fun _ => rfl) ?_
            refine pu (v := .sc _) rfl rfl (fun _ => rfl) ?_
            refine pu (v := .sc _) rfl rfl (fun _ => rfl) ?_
            obtain ⟨h11, hR⟩ := chkE hR
            obtain ⟨h12, hR⟩ := chkE hR
            refine slL (α := Int) (w6 (s7.2 + 1)).toNat (gt r1.1 s3.2).length rfl rfl ti22 rfl ti3 rfl (bd_int h11) rfl h12 ?_
            refine lenL (α := Int) rfl rfl ti22 rfl ?_
            refine pu (v := .sc _) rfl rfl (fun _ => rfl) ?_
            refine RunC.fin ?_
            refine AWP.loopJ (fun s13 : (List period_Pair) × Int => LS.mk [(0, rowV (α := curve_Sample) false l), (6, .ptr 0 0 0), (11, slV period_Pair 1 0 0 s13.1.length), (13, rowV (α := Int) true (gt r1.1 s3.2)), (15, .sc (.int .i64 (gt (gt r1.1 s3.2) s7.2))), (31, rowV (α := List Int) true r1.1), (32, .sc (.int .i64 (r1.1.length : Int))), (33, .sc (.int .i64 s3.2)), (37, rowV (α := Int) true (gt r1.1 s3.2)), (38, .sc (.int .i64 ((gt r1.1 s3.2).length : Int))), (39, .sc (.int .i64 s7.2)), (47, rowV (α := Int) true ((List.drop (w6 (s7.2 + 1)).toNat (gt r1.1 s3.2)).take ((gt r1.1 s3.2).length - (w6 (s7.2 + 1)).toNat))), (48, .sc (.int .i64 (((List.drop (w6 (s7.2 + 1)).toNat (gt r1.1 s3.2)).take ((gt r1.1 s3.2).length - (w6 (s7.2 + 1)).toNat)).length : Int))), (49, .sc (.int .i64 s13.2))] (lblks 0 [boxB (α := period_Pair) true (period_Pair.mk 0 0), arrB (α := period_Pair) 48 0 true s13.1]) 2) (fun z14 : (List period_Pair) => LS.mk [(0, rowV (α := curve_Sample) false l), (6, .ptr 0 0 0), (11, slV period_Pair 1 0 0 z14.length), (13, rowV (α := Int) true (gt r1.1 s3.2)), (31, rowV (α := List Int) true r1.1), (32, .sc (.int .i64 (r1.1.length : Int))), (33, .sc (.int .i64 s3.2)), (37, rowV (α := Int) true (gt r1.1 s3.2)), (38, .sc (.int .i64 ((gt r1.1 s3.2).length : Int))), (39, .sc (.int .i64 s7.2))] (lblks 0 [boxB (α := period_Pair) true (period_Pair.mk 0 0), arrB (α := period_Pair) 48 0 true z14]) 2) (period_Why.l3 l r1 s3 s7) hR (s0 := (s7.1, 0)) (Weak.turnL [(0, 0), (1, 0)] [] rfl rfl (tc trR1 (tc (trP' rfl rfl rfl rfl) (tc (trS' rfl rfl rfl rfl rfl) (tc trR1 (tc (.sc _) (tc trR1 (tc (.sc _) (tc (.sc _) (tc trR1 (tc (.sc _) (tc (.sc _) (tc trR1 (tc (.sc _) (tc (.sc _) tn)))))))))))))) (mc rfl (.box rfl (.cons (.sc _) (.cons (.sc _) (.nil))) rfl) (mc rfl (btrA' rfl) mn))) (fun s13 o13 hR => ?_) fun z14 hR => ?_
            · unfold period_Why.l3 at hR
              refine AWP.sq ?_
              refine AWP.rgC 6 rfl rfl ?_
              obtain ⟨v15, ev15, hR⟩ := letE hR
              refine pu (v := .sc _) rfl rfl (fun _ => puB ev15) ?_
              refine RunC.fin ?_
              refine AWP.sq ?_
              refine AWP.cd hR rfl (fun h16 hR => ?_) fun h16 hR => ?_
              · refine AWP.skip ?_
                refine skT ?_
                refine AWP.joinX (fun z17 : (List period_Pair) => LS.mk [(0, rowV (α := curve_Sample) false l), (6, .ptr 0 0 0), (11, slV period_Pair 1 0 0 z17.length), (13, rowV (α := Int) true (gt r1.1 s3.2)), (15, .sc (.int .i64 (gt (gt r1.1 s3.2) s7.2))), (31, rowV (α := List Int) true r1.1), (32, .sc (.int .i64 (r1.1.length : Int))), (33, .sc (.int .i64 s3.2)), (37, rowV (α := Int) true (gt r1.1 s3.2)), (38, .sc (.int .i64 ((gt r1.1 s3.2).length : Int))), (39, .sc (.int .i64 s7.2)), (47, rowV (α := Int) true ((List.drop (w6 (s7.2 + 1)).toNat (gt r1.1 s3.2)).take ((gt r1.1 s3.2).length - (w6 (s7.2 + 1)).toNat))), (48, .sc (.int .i64 (((List.drop (w6 (s7.2 + 1)).toNat (gt r1.1 s3.2)).take ((gt r1.1 s3.2).length - (w6 (s7.2 + 1)).toNat)).length : Int))), (49, .sc (.int .i64 s13.2))] (lblks 0 [boxB (α := period_Pair) true (period_Pair.mk 0 0), arrB (α := period_Pair) 48 0 true z17]) 2) hR (fun o17 hR => ?_) fun z17 hR => ?_
                · refine AWP.block ?_
                  refine AWP.sq ?_
                  refine AWP.rgC 18 rfl rfl ?_
                  obtain ⟨h18, hR⟩ := chkE hR
                  refine ixL (α := Int) rfl rfl rfl ti22 rfl ti3 rfl h18 ?_
                  refine ldR (v := .sc _) rfl rfl ti3 rfl ?_
                  refine pu (v := .sc _) rfl rfl (fun _ => rfl) ?_
                  refine RunC.fin ?_
                  refine AWP.sq ?_
                  refine AWP.rgD 86 [0, 0, 3, 7, 15, 0, 0, 96, 224, 480, 1023, 2047, 4095, 4095, 0, 24575, 65535] ⟨[], [none, none, none, none, some [], none, none, none, none, some [], none, none, none, none, none, some [74], none]⟩ hmix (by kernel_rfl) rfl rfl ?_
                  refine pu (v := rowV _ l) rfl rfl (fun _ => rfl) ?_
                  refine pu (v := .sc _) rfl rfl (fun _ => rfl) ?_
                  obtain ⟨h19, hR⟩ := chkE hR
                  refine ixL (α := curve_Sample) rfl rfl rfl ti26 rfl ti70 rfl h19 ?_
                  refine fr rfl rfl ti70 rfl rfl ti66 rfl ?_
                  refine ldR (v := .agg _) rfl rfl ti66 rfl ?_
                  refine pu (v := rowV _ l) rfl rfl (fun _ => rfl) ?_
                  refine pu (v := .sc _) rfl rfl (fun _ => rfl) ?_
                  obtain ⟨h20, hR⟩ := chkE hR
                  refine ixL (α := curve_Sample) rfl rfl rfl ti26 rfl ti70 rfl h20 ?_
                  refine fr rfl rfl ti70 rfl rfl ti66 rfl ?_
                  refine ldR (v := .agg _) rfl rfl ti66 rfl ?_
                  obtain ⟨r21, hr21, hR⟩ := bindE hR
                  refine cls [] rfl rfl cb26 (ok26 (gt l (gt (gt r1.1 s3.2) s7.2)).Light (gt l (gt ((List.drop (w6 (s7.2 + 1)).toNat (gt r1.1 s3.2)).take ((gt r1.1 s3.2).length - (w6 (s7.2 + 1)).toNat)) s13.2)).Light _ hr21) (.cons (.agg (.cons (.sc _) (.cons (.sc _) (.cons (.sc _) (.nil)))) rfl) (.cons (.agg (.cons (.sc _) (.cons (.sc _) (.cons (.sc _) (.nil)))) rfl) (.nil))) (.inr rfl) rfl ?_
                  refine pu (v := .tup _) rfl rfl (fun _ => rfl) ?_
                  refine pu (v := .agg _) rfl rfl (fun _ => rfl) ?_
                  refine pu (v := .sc _) rfl rfl (fun _ => rfl) ?_
                  refine al (cs := [.sc (.int .i64 0), .sc (.int .i64 0), .sc (.bool false)]) 74 rfl rfl ti66 rfl rfl ?_
                  refine stB (cs' := [.sc (.int .i64 r21.1.Lo), .sc (.int .i64 r21.1.Hi), .sc (.bool r21.1.Unknown)]) rfl rfl rfl rfl ti66 rfl rfl rfl rfl rfl ?_
                  refine pu (v := .sc _) rfl rfl (fun _ => rfl) ?_
                  refine RunC.fin ?_
                  refine AWP.sq ?_
                  refine AWP.rgC 94 rfl rfl ?_
                  refine pu (v := .sc _) rfl rfl (fun _ => rfl) ?_
                  refine pu (v := .sc _) rfl rfl (fun _ => rfl) ?_
                  refine RunC.fin ?_
                  refine AWP.cd hR rfl (fun h22 hR => ?_) fun h22 hR => ?_
                  · refine AWP.rgC 122 rfl rfl ?_
                    refine pu (v := slV period_Pair _ _ _ _) rfl rfl (fun _ => rfl) ?_
                    refine pu (v := .sc _) rfl rfl (fun _ => rfl) ?_
                    refine pu (v := .sc _) rfl rfl (fun _ => rfl) ?_
                    refine bu (cs := [.sc (.int .i64 (gt (gt r1.1 s3.2) s7.2)), .sc (.int .i64 (gt ((List.drop (w6 (s7.2 + 1)).toNat (gt r1.1 s3.2)).take ((gt r1.1 s3.2).length - (w6 (s7.2 + 1)).toNat)) s13.2))]) rfl bt48 rfl ?_
                    refine bs (α := period_Pair) 110 true ([period_Pair.mk (gt (gt r1.1 s3.2) s7.2) (gt ((List.drop (w6 (s7.2 + 1)).toNat (gt r1.1 s3.2)).take ((gt r1.1 s3.2).length - (w6 (s7.2 + 1)).toNat)) s13.2)] : List period_Pair) rfl rfl ti84 rfl ti48 rfl rfl rfl rfl rfl ?_
                    obtain ⟨h23, hR⟩ := chkE hR
                    refine ap' (α := period_Pair) (nw := true) (xs := s13.1) (ys := ([period_Pair.mk (gt (gt r1.1 s3.2) s7.2) (gt ((List.drop (w6 (s7.2 + 1)).toNat (gt r1.1 s3.2)).take ((gt r1.1 s3.2).length - (w6 (s7.2 + 1)).toNat)) s13.2)] : List period_Pair)) rfl rfl rfl rfl (srcS' rfl rfl rfl) ti84 rfl ti48 rfl h23 rfl ?_
                    refine pu (v := slV period_Pair _ _ _ _) rfl rfl (fun _ => rfl) ?_
                    refine RunC.blk ?_
                    refine RunC.fin ?_
                    have hR := Option.some.inj hR; subst hR
                    exact Weak.turnL [(0, 0), (1, 0)] [] rfl rfl (tc trR1 (tc (trP' rfl rfl rfl rfl) (tc (trS' rfl rfl rfl rfl rfl) (tc trR1 (tc (.sc _) (tc trR1 (tc (.sc _) (tc (.sc _) (tc trR1 (tc (.sc _) (tc (.sc _) (tc trR1 (tc (.sc _) (tc (.sc _) tn)))))))))))))) (mc rfl (.box rfl (.cons (.sc _) (.cons (.sc _) (.nil))) rfl) (mc rfl (btrA' rfl) mn))
                  · refine AWP.skip ?_
                    refine skB ?_
                    refine skT ?_
                    have hR := Option.some.inj hR; subst hR
                    exact Weak.turnL [(0, 0), (1, 0)] [] rfl rfl (tc trR1 (tc (trP' rfl rfl rfl rfl) (tc (trS' rfl rfl rfl rfl rfl) (tc trR1 (tc (.sc _) (tc trR1 (tc (.sc _) (tc (.sc _) (tc trR1 (tc (.sc _) (tc (.sc _) (tc trR1 (tc (.sc _) (tc (.sc _) tn)))))))))))))) (mc rfl (.box rfl (.cons (.sc _) (.cons (.sc _) (.nil))) rfl) (mc rfl (btrA' rfl) mn))
                · refine AWP.rgC 10 rfl rfl ?_
                  refine pu (v := .sc _) rfl rfl (fun _ => rfl) ?_
                  refine pu (v := .sc _) rfl rfl (fun _ => rfl) ?_
                  refine RunC.fin ?_
                  refine ⟨(z17, w6 (s13.2 + 1)), (Option.some.inj hR).symm, ?_⟩
                  exact Weak.turnL [(0, 0), (1, 0)] [] rfl rfl (tc trR1 (tc (trP' rfl rfl rfl rfl) (tc (trS' rfl rfl rfl rfl rfl) (tc trR1 (tc (.sc _) (tc trR1 (tc (.sc _) (tc (.sc _) (tc trR1 (tc (.sc _) (tc (.sc _) (tc trR1 (tc (.sc _) (tc (.sc _) tn)))))))))))))) (mc rfl (.box rfl (.cons (.sc _) (.cons (.sc _) (.nil))) rfl) (mc rfl (btrA' rfl) mn))
              · refine AWP.exit ?_
                refine exT ?_
                refine exT ?_
                refine exH (skT ?_)
                refine ⟨s13.1, (Option.some.inj hR).symm, ?_⟩
                exact Weak.turnL [(0, 0), (1, 0)] [] rfl rfl (tc trR1 (tc (trP' rfl rfl rfl rfl) (tc (trS' rfl rfl rfl rfl rfl) (tc trR1 (tc trR1 (tc (.sc _) (tc (.sc _) (tc trR1 (tc (.sc _) (tc (.sc _) tn)))))))))) (mc rfl (.box rfl (.cons (.sc _) (.cons (.sc _) (.nil))) rfl) (mc rfl (btrA' rfl) mn))
            · refine skB ?_
              refine skT ?_
              refine AWP.rgC 10 rfl rfl ?_
              refine pu (v := .sc _) rfl rfl (fun _ => rfl) ?_
              refine pu (v := .sc _) rfl rfl (fun _ => rfl) ?_
              refine RunC.fin ?_
              refine ⟨(z14, w6 (s7.2 + 1)), (Option.some.inj hR).symm, ?_⟩
              exact Weak.turnL [(0, 0), (1, 0)] [] rfl rfl (tc trR1 (tc (trP' rfl rfl rfl rfl) (tc (trS' rfl rfl rfl rfl rfl) (tc trR1 (tc trR1 (tc (.sc _) (tc (.sc _) (tc trR1 (tc (.sc _) (tc (.sc _) tn)))))))))) (mc rfl (.box rfl (.cons (.sc _) (.cons (.sc _) (.nil))) rfl) (mc rfl (btrA' rfl) mn))
          · refine AWP.exit ?_
            refine exT ?_
            refine exT ?_
            refine exH (skT ?_)
            refine ⟨s7.1, (Option.some.inj hR).symm, ?_⟩
            exact Weak.turnL [(0, 0), (1, 0)] [] rfl rfl (tc trR1 (tc (trP' rfl rfl rfl rfl) (tc (trS' rfl rfl rfl rfl rfl) (tc trR1 (tc (.sc _) (tc (.sc _) tn)))))) (mc rfl (.box rfl (.cons (.sc _) (.cons (.sc _) (.nil))) rfl) (mc rfl (btrA' rfl) mn))
        · refine skB ?_
          refine skT ?_
          refine AWP.rgC 10 rfl rfl ?_
          refine pu (v := .sc _) rfl rfl (fun _ => rfl) ?_
          refine pu (v := .sc _) rfl rfl (fun _ => rfl) ?_
          refine RunC.fin ?_
          refine ⟨(z8, w6 (s3.2 + 1)), (Option.some.inj hR).symm, ?_⟩
          exact Weak.turnL [(0, 0), (1, 0)] [] rfl rfl (tc trR1 (tc (trP' rfl rfl rfl rfl) (tc (trS' rfl rfl rfl rfl rfl) (tc trR1 (tc (.sc _) (tc (.sc _) tn)))))) (mc rfl (.box rfl (.cons (.sc _) (.cons (.sc _) (.nil))) rfl) (mc rfl (btrA' rfl) mn))
      · refine AWP.exit ?_
        refine exT ?_
        refine exT ?_
        refine exH (skT ?_)
        refine ⟨s3.1, (Option.some.inj hR).symm, ?_⟩
        exact Weak.turnL [(0, 0), (1, 0)] [] rfl rfl (tc (trP' rfl rfl rfl rfl) (tc (trS' rfl rfl rfl rfl rfl) tn)) (mc rfl (.box rfl (.cons (.sc _) (.cons (.sc _) (.nil))) rfl) (mc rfl (btrA' rfl) mn))
    · refine skT ?_
      refine AWP.sq ?_
      refine AWP.sq ?_
      refine AWP.rgC 14 rfl rfl ?_
      refine pu (v := slV period_Pair _ _ _ _) rfl rfl (fun _ => rfl) ?_
      refine lenS (α := period_Pair) rfl rfl ti84 rfl ?_
      refine pu (v := .sc _) rfl rfl (fun _ => rfl) ?_
      refine RunC.fin ?_
      refine AWP.cd hR rfl (fun h24 hR => ?_) fun h24 hR => ?_
      · refine AWP.sq ?_
        refine AWP.rgC 30 rfl rfl ?_
        refine bu (cs := [.sc (.int .i64 0), .sc (.int .i64 0)]) rfl bt48 rfl ?_
        refine stB (cs' := [.sc (.int .i64 0), .sc (.int .i64 0)]) rfl rfl rfl rfl ti48 rfl rfl rfl rfl rfl ?_
        refine pu (v := .sc _) rfl rfl (fun _ => rfl) ?_
        refine pu (v := .sc _) rfl rfl (fun _ => rfl) ?_
        refine RunC.fin ?_
        refine AWP.ret ?_
        refine rtT ?_
        have hR := Option.some.inj hR; subst hR
        exact hQ _ _ (LS.mk [(6, .ptr 0 0 0), (7, .sc (.bool false)), (8, .sc (.int .i64 0))] (lblks 0 [boxB (α := period_Pair) true (period_Pair.mk 0 0)]) 1) (.tup [aggV (α := period_Pair) true (period_Pair.mk 0 0), .sc (.bool false), .sc (.int .i64 0)]) [] (.inr rfl) (Weak.turnL [(0, 0)] [] rfl rfl (tc (trP' rfl rfl rfl rfl) (tc (.sc _) (tc (.sc _) tn))) (mc rfl (.box rfl (.cons (.sc _) (.cons (.sc _) (.nil))) rfl) mn)) (ro3 (rvC (v := aggV (α := period_Pair) true (period_Pair.mk 0 0)) rfl rfl ti48 rfl) (rvT (v := .sc (.bool false)) rfl) (rvT (v := .sc (.int .i64 0)) rfl)) rfl rfl (.tup (.cons ldA (.cons (.sc _) (.cons (.sc _) .nil)))) pn
      · refine AWP.skip ?_
        refine skT ?_
        refine AWP.sq ?_
        refine AWP.rgC 34 rfl rfl ?_
        refine pu (v := slV period_Pair _ _ _ _) rfl rfl (fun _ => rfl) ?_
        obtain ⟨r25, hr25, hR⟩ := bindE hR
        refine cls [1] rfl rfl cb27 (ok27 z4 _ hr25) (.cons (ldS' rfl rfl rfl rfl) (.cons (.fn (.nil)) (.nil))) (.inl (by first | rfl | exact freshR | exact freshA | (simp only [V.fresh, V.freshs, freshR, freshA, Bool.and_self]))) rfl ?_
        refine stB (cs' := [.sc (.int .i64 r25.I), .sc (.int .i64 r25.J)]) rfl rfl rfl rfl ti48 rfl rfl rfl rfl rfl ?_
        refine pu (v := .sc _) rfl rfl (fun _ => rfl) ?_
        refine pu (v := .sc _) rfl rfl (fun _ => rfl) ?_
        refine RunC.fin ?_
        refine AWP.ret ?_
        have hR := Option.some.inj hR; subst hR
        exact hQ _ _ (LS.mk [(6, .ptr 0 0 0), (7, .sc (.bool true)), (8, .sc (.int .i64 0))] (lblks 0 [boxB (α := period_Pair) true r25]) 1) (.tup [aggV (α := period_Pair) true r25, .sc (.bool true), .sc (.int .i64 0)]) [] (.inr rfl) (Weak.turnL [(0, 0)] [] rfl rfl (tc (trP' rfl rfl rfl rfl) (tc (.sc _) (tc (.sc _) tn))) (mc rfl (.box rfl (.cons (.sc _) (.cons (.sc _) (.nil))) rfl) mn)) (ro3 (rvC (v := aggV (α := period_Pair) true r25) rfl rfl ti48 rfl) (rvT (v := .sc (.bool true)) rfl) (rvT (v := .sc (.int .i64 0)) rfl)) rfl rfl (.tup (.cons ldA (.cons (.sc _) (.cons (.sc _) .nil)))) pn
theorem ok10 (l : List curve_Sample) (a : period_Ask) (r : (List Int) × Int) (hR : period_Fit l a = some r) : FnP Try.prog 10 [rowV false l, aggV false a] (.tup [rowV (α := Int) true r.1, .sc (.int .i64 r.2)]) := by
  refine fnP_of (FnX.walk Try.func10 rfl 45 0 (by simp [Try.ntmps10]) rfl fun W S F Q hQ => ?_)
  unfold period_Fit at hR
  refine AWP.sq ?_
  refine AWP.rgC 12 rfl rfl ?_
  refine bx (cs := _) 0 rfl rfl rfl ?_
  refine pu (v := .sc _) rfl rfl (fun _ => rfl) ?_
  refine pu (v := .sc _) rfl rfl (fun _ => rfl) ?_
  refine RunC.fin ?_
  refine AWP.sq ?_
  refine AWP.sq ?_
  refine AWP.rgD 40 [0, 1, 0, 7, 15, 31, 63] ⟨[], [none, none, some [0], none, none, none, none]⟩ hmix (by kernel_rfl) rfl rfl ?_
  refine pu (v := rowV _ l) rfl rfl (fun _ => rfl) ?_
  obtain ⟨r1, hr1, hR⟩ := bindE hR
  refine cls [] rfl rfl cb20 (ok20 l _ hr1) (.cons ldR' (.nil)) (.inr rfl) rfl ?_
  refine ldB (v := .agg _) rfl rfl rfl rfl ti40 rfl rfl ?_
  obtain ⟨r2, hr2, hR⟩ := bindE hR
  refine cls [] rfl rfl cb21 (ok21 a _ hr2) (.cons (.agg (.cons (.sc _) (.cons (.sc _) (.cons (.sc _) (.cons (.sc _) (.nil))))) rfl) (.nil)) (.inr rfl) rfl ?_
  refine bs (α := Int) 28 true ([r1, r2] : List Int) rfl rfl ti104 rfl ti43 rfl rfl rfl rfl rfl ?_
  obtain ⟨r3, hr3, hR⟩ := bindE hR
  refine cls [28] rfl rfl cb19 (ok19 ([r1, r2] : List Int) _ hr3) (.cons (ldS' rfl rfl rfl rfl) (.nil)) (.inl (by first | rfl | exact freshR | exact freshA | (simp only [V.fresh, V.freshs, freshR, freshA, Bool.and_self]))) rfl ?_
  refine pu (v := .sc _) rfl rfl (fun _ => rfl) ?_
  refine RunC.fin ?_
  refine AWP.sq ?_
  refine AWP.rgC 48 rfl rfl ?_
  refine pu (v := .sc _) rfl rfl (fun _ => rfl) ?_
  refine pu (v := .sc _) rfl rfl (fun _ => rfl) ?_
  refine RunC.fin ?_
  refine AWP.cd hR rfl (fun h4 hR => ?_) fun h4 hR => ?_
  · refine AWP.sq ?_
    refine AWP.rgC 60 rfl rfl ?_
    refine pu (v := .sc _) rfl rfl (fun _ => rfl) ?_
    refine pu (v := .sc _) rfl rfl (fun _ => rfl) ?_
    refine pu (v := .sc _) rfl rfl (fun _ => rfl) ?_
    refine RunC.fin ?_
    refine AWP.ret ?_
    refine rtT ?_
    have hR := Option.some.inj hR; subst hR
    exact hQ _ _ (LS.mk [(4, rowV (α := Int) true []), (5, .sc (.int .i64 r3))] (lblks 0 []) 0) (.tup [rowV (α := Int) true [], .sc (.int .i64 r3)]) [] (.inr rfl) (Weak.turnL [] [] rfl rfl (tc trN (tc (.sc _) tn)) mn) (ro2 (rvT (v := rowV (α := Int) true []) rfl) (rvT (v := .sc (.int .i64 r3)) rfl)) rfl rfl (.tup (.cons ldR' (.cons (.sc _) .nil))) pn
  · refine AWP.skip ?_
    refine skT ?_
    refine AWP.sq ?_
    refine AWP.rgC 52 rfl rfl ?_
    refine pu (v := .sc _) rfl rfl (fun _ => rfl) ?_
    refine RunC.fin ?_
    refine AWP.sq ?_
    refine AWP.sq ?_
    refine AWP.rgC 64 rfl rfl ?_
    refine fa rfl rfl ti40 rfl rfl ti33 rfl ?_
    refine ldB (v := .sc _) rfl rfl rfl rfl ti33 rfl rfl ?_
    refine pu (v := .sc _) rfl rfl (fun _ => rfl) ?_
    refine RunC.fin ?_
    refine AWP.nilT Int 7 33 rfl ?_
    refine AWP.loopJ (fun s5 : (List Int) × Int => LS.mk [(0, rowV (α := curve_Sample) false l), (3, .ptr 0 0 0), (7, slV Int 1 0 0 s5.1.length), (8, .sc (.int .i64 s5.2))] (lblks 0 [boxB (α := period_Ask) true a, arrB (α := Int) 33 0 true s5.1]) 2) (fun z6 : (List Int) => LS.mk [(7, slV Int 0 0 0 z6.length)] (lblks 0 [arrB (α := Int) 33 0 true z6]) 1) (period_Fit.l1 l a) hR (s0 := (([] : List Int), a.Least)) (Weak.turnL [(0, 0), (64, 0)] [] rfl rfl (tc trR1 (tc (trP' rfl rfl rfl rfl) (tc (trS' rfl rfl rfl rfl rfl) (tc (.sc _) tn)))) (mc rfl (.box rfl (.cons (.sc _) (.cons (.sc _) (.cons (.sc _) (.cons (.sc _) (.nil))))) rfl) (mc rfl (btrA' rfl) mn))) (fun s5 o5 hR => ?_) fun z6 hR => ?_
    · unfold period_Fit.l1 at hR
      refine AWP.sq ?_
      refine AWP.sq ?_
      refine AWP.rgC 18 rfl rfl ?_
      refine pu (v := .sc _) rfl rfl (fun _ => rfl) ?_
      refine fa rfl rfl ti40 rfl rfl ti33 rfl ?_
      refine ldB (v := .sc _) rfl rfl rfl rfl ti33 rfl rfl ?_
      refine pu (v := .sc _) rfl rfl (fun _ => rfl) ?_
      refine RunC.fin ?_
      refine AWP.cd hR rfl (fun h7 hR => ?_) fun h7 hR => ?_
      · refine AWP.skip ?_
        refine skT ?_
        refine AWP.joinX (fun z8 : (List Int) => LS.mk [(0, rowV (α := curve_Sample) false l), (3, .ptr 0 0 0), (7, slV Int 1 0 0 z8.length), (8, .sc (.int .i64 s5.2))] (lblks 0 [boxB (α := period_Ask) true a, arrB (α := Int) 33 0 true z8]) 2) hR (fun o8 hR => ?_) fun z8 hR => ?_
        · refine AWP.block ?_
          refine AWP.sq ?_
          refine AWP.rgC 58 rfl rfl ?_
          refine pu (v := rowV _ l) rfl rfl (fun _ => rfl) ?_
          refine pu (v := .sc _) rfl rfl (fun _ => rfl) ?_
          refine fa rfl rfl ti40 rfl rfl ti3 rfl ?_
          refine ldB (v := .sc _) rfl rfl rfl rfl ti3 rfl rfl ?_
          obtain ⟨r9, hr9, hR⟩ := bindE hR
          refine cls [] rfl rfl cb22 (ok22 l s5.2 a.Phases _ hr9) (.cons ldR' (.cons (.sc _) (.cons (.sc _) (.nil)))) (.inr rfl) rfl ?_
          refine pu (v := .tup _) rfl rfl (fun _ => rfl) ?_
          refine pu (v := rowV _ r9.1) rfl rfl (fun _ => rfl) ?_
          refine pu (v := .sc _) rfl rfl (fun _ => rfl) ?_
          refine pu (v := rowV _ r9.1) rfl rfl (fun _ => rfl) ?_
          refine pu (v := .sc _) rfl rfl (fun _ => rfl) ?_
          refine RunC.fin ?_
          refine AWP.sq ?_
          refine AWP.rgC 66 rfl rfl ?_
          refine pu (v := .sc _) rfl rfl (fun _ => rfl) ?_
          refine pu (v := .sc _) rfl rfl (fun _ => rfl) ?_
          refine RunC.fin ?_
          refine AWP.cd hR rfl (fun h10 hR => ?_) fun h10 hR => ?_
          · refine AWP.rgC 86 rfl rfl ?_
            refine pu (v := slV Int _ _ _ _) rfl rfl (fun _ => rfl) ?_
            refine pu (v := .sc _) rfl rfl (fun _ => rfl) ?_
            refine bs (α := Int) 74 true ([s5.2] : List Int) rfl rfl ti42 rfl ti33 rfl rfl rfl rfl rfl ?_
            obtain ⟨h11, hR⟩ := chkE hR
            refine ap' (α := Int) (nw := true) (xs := s5.1) (ys := ([s5.2] : List Int)) rfl rfl rfl rfl (srcS' rfl rfl rfl) ti42 rfl ti33 rfl h11 rfl ?_
            refine pu (v := slV Int _ _ _ _) rfl rfl (fun _ => rfl) ?_
            refine RunC.blk ?_
            refine RunC.fin ?_
            have hR := Option.some.inj hR; subst hR
            exact Weak.turnL [(0, 0), (1, 0)] [] rfl rfl (tc trR1 (tc (trP' rfl rfl rfl rfl) (tc (trS' rfl rfl rfl rfl rfl) (tc (.sc _) tn)))) (mc rfl (.box rfl (.cons (.sc _) (.cons (.sc _) (.cons (.sc _) (.cons (.sc _) (.nil))))) rfl) (mc rfl (btrA' rfl) mn))
          · refine AWP.skip ?_
            refine skB ?_
            refine skT ?_
            have hR := Option.some.inj hR; subst hR
            exact Weak.turnL [(0, 0), (1, 0)] [] rfl rfl (tc trR1 (tc (trP' rfl rfl rfl rfl) (tc (trS' rfl rfl rfl rfl rfl) (tc (.sc _) tn)))) (mc rfl (.box rfl (.cons (.sc _) (.cons (.sc _) (.cons (.sc _) (.cons (.sc _) (.nil))))) rfl) (mc rfl (btrA' rfl) mn))
        · refine AWP.rgC 22 rfl rfl ?_
          refine pu (v := .sc _) rfl rfl (fun _ => rfl) ?_
          refine fa rfl rfl ti40 rfl rfl ti33 rfl ?_
          refine ldB (v := .sc _) rfl rfl rfl rfl ti33 rfl rfl ?_
          refine pu (v := .sc _) rfl rfl (fun _ => rfl) ?_
          refine pu (v := .sc _) rfl rfl (fun _ => rfl) ?_
          refine RunC.fin ?_
          refine ⟨(z8, w6 (s5.2 + a.Step)), (Option.some.inj hR).symm, ?_⟩
          exact Weak.turnL [(0, 0), (1, 0)] [] rfl rfl (tc trR1 (tc (trP' rfl rfl rfl rfl) (tc (trS' rfl rfl rfl rfl rfl) (tc (.sc _) tn)))) (mc rfl (.box rfl (.cons (.sc _) (.cons (.sc _) (.cons (.sc _) (.cons (.sc _) (.nil))))) rfl) (mc rfl (btrA' rfl) mn))
      · refine AWP.exit ?_
        refine exT ?_
        refine exT ?_
        refine exH (skT ?_)
        refine ⟨s5.1, (Option.some.inj hR).symm, ?_⟩
        exact Weak.turnL [(1, 0)] [] rfl rfl (tc (trS' rfl rfl rfl rfl rfl) tn) (mc rfl (btrA' rfl) mn)
    · refine skT ?_
      refine AWP.sq ?_
      refine AWP.rgC 13 rfl rfl ?_
      refine pu (v := slV Int _ _ _ _) rfl rfl (fun _ => rfl) ?_
      refine pu (v := slV Int _ _ _ _) rfl rfl (fun _ => rfl) ?_
      refine pu (v := .sc _) rfl rfl (fun _ => rfl) ?_
      refine RunC.fin ?_
      refine AWP.ret ?_
      have hR := Option.some.inj hR; subst hR
      exact hQ _ _ (LS.mk [(4, rowV (α := Int) true z6), (5, .sc (.int .i64 0))] (lblks 0 []) 0) (.tup [rowV (α := Int) true z6, .sc (.int .i64 0)]) [] (.inr rfl) (Weak.turnL [] [0] rfl rfl (tc (trF' rfl rfl id rfl) (tc (.sc _) tn)) mn) (ro2 (rvT (v := rowV (α := Int) true z6) rfl) (rvT (v := .sc (.int .i64 0)) rfl)) rfl rfl (.tup (.cons ldR' (.cons (.sc _) .nil))) pn
theorem ok11 (r : Bool) (hR : spykeep4_fitted = some r) : FnP Try.prog 11 [] (.sc (.bool r)) := by
  refine fnP_of (FnX.walk Try.func11 rfl 23 0 (by simp [Try.ntmps11]) rfl fun W S F Q hQ => ?_)
  unfold spykeep4_fitted at hR
  refine AWP.sq ?_
  refine AWP.rgC 4 rfl rfl ?_
  refine pu (v := .sc _) rfl rfl (fun _ => rfl) ?_
  refine RunC.fin ?_
  refine AWP.sq ?_
  refine AWP.rgC 8 rfl rfl ?_
  refine pu (v := .fn _ _) rfl rfl (fun _ => rfl) ?_
  refine RunC.fin ?_
  refine AWP.sq ?_
  refine AWP.rgC 64 rfl rfl ?_
  refine pu (v := .fn _ _) rfl rfl (fun _ => rfl) ?_
  obtain ⟨r1, hr1, hR⟩ := bindE hR
  refine cls [] rfl rfl cb23 (ok23 0 5 _ hr1) (.cons (.sc _) (.cons (.sc _) (.nil))) (.inr rfl) rfl ?_
  refine pu (v := .fn _ _) rfl rfl (fun _ => rfl) ?_
  obtain ⟨r2, hr2, hR⟩ := bindE hR
  refine cls [] rfl rfl cb23 (ok23 3 7 _ hr2) (.cons (.sc _) (.cons (.sc _) (.nil))) (.inr rfl) rfl ?_
  refine pu (v := .fn _ _) rfl rfl (fun _ => rfl) ?_
  obtain ⟨r3, hr3, hR⟩ := bindE hR
  refine cls [] rfl rfl cb23 (ok23 4 5 _ hr3) (.cons (.sc _) (.cons (.sc _) (.nil))) (.inr rfl) rfl ?_
  refine bs (α := curve_Sample) 32 true ([r1, r2, r3] : List curve_Sample) rfl rfl ti26 rfl ti70 rfl rfl rfl rfl rfl ?_
  refine bu (cs := [.sc (.int .i64 2), .sc (.int .i64 2), .sc (.int .i64 8), .sc (.int .i64 2)]) rfl bt40 rfl ?_
  obtain ⟨r4, hr4, hR⟩ := bindE hR
  refine cls [32] rfl rfl cb10 (ok10 ([r1, r2, r3] : List curve_Sample) (period_Ask.mk 2 2 8 2) _ hr4) (.cons (ldS' rfl rfl rfl rfl) (.cons (.agg (.cons (.sc _) (.cons (.sc _) (.cons (.sc _) (.cons (.sc _) (.nil))))) rfl) (.nil))) (.inl (by first | rfl | exact freshR | exact freshA | (simp only [V.fresh, V.freshs, freshR, freshA, Bool.and_self]))) rfl ?_
  refine pu (v := .tup _) rfl rfl (fun _ => rfl) ?_
  refine pu (v := rowV _ r4.1) rfl rfl (fun _ => rfl) ?_
  refine pu (v := .sc _) rfl rfl (fun _ => rfl) ?_
  refine pu (v := rowV _ r4.1) rfl rfl (fun _ => rfl) ?_
  refine pu (v := .sc _) rfl rfl (fun _ => rfl) ?_
  refine RunC.fin ?_
  refine AWP.joinX (fun z5 : Bool => LS.mk [(0, .sc (.bool z5))] (lblks 0 []) 0) hR (fun o5 hR => ?_) fun z5 hR => ?_
  · refine AWP.rgC 96 rfl rfl ?_
    refine pu (v := .sc _) rfl rfl (fun _ => rfl) ?_
    refine pu (v := .sc _) rfl rfl (fun _ => rfl) ?_
    refine pu (v := .sc _) rfl rfl (fun _ => rfl) ?_
    refine brR hR (fun h6 hR => ?_) fun h6 hR => ?_
    · refine pu (v := rowV _ r4.1) (wtG rfl rfl rfl h6) rfl (fun _ => rfl) ?_
      refine bs (α := Int) 80 true ([2, 4] : List Int) (wtG rfl rfl rfl h6) rfl ti42 rfl ti33 rfl rfl rfl rfl rfl ?_
      obtain ⟨r7, hr7, hR⟩ := bindE hR
      refine cls [80] (wtG rfl rfl rfl h6) rfl cb24 (ok24 r4.1 ([2, 4] : List Int) _ hr7) (.cons ldR' (.cons (ldS' rfl rfl rfl rfl) (.nil))) (.inl (by first | rfl | exact freshR | exact freshA | (simp only [V.fresh, V.freshs, freshR, freshA, Bool.and_self]))) rfl ?_
      refine pkT (v := .sc (.bool r7)) rfl rfl h6 rfl ?_
      refine pu (v := .sc _) rfl rfl (fun _ => rfl) ?_
      refine RunC.fin ?_
      have hR := Option.some.inj hR; subst hR
      exact Weak.turnL [] [] rfl rfl (tc (.sc _) tn) mn
    · refine sk (skW rfl rfl rfl h6) ?_
      refine sk (skW rfl rfl rfl h6) ?_
      refine sk (skW rfl rfl rfl h6) ?_
      refine pkF (v := .sc (.bool false)) rfl rfl h6 rfl ?_
      refine pu (v := .sc _) rfl rfl (fun _ => rfl) ?_
      refine RunC.fin ?_
      have hR := Option.some.inj hR; subst hR
      exact Weak.turnL [] [] rfl rfl (tc (.sc _) tn) mn
  · refine AWP.ret ?_
    have hR := Option.some.inj hR; subst hR
    exact hQ _ _ (LS.mk [(0, .sc (.bool z5))] (lblks 0 []) 0) (.sc (.bool z5)) [] (.inr rfl) (Weak.turnL [] [] rfl rfl (tc (.sc _) tn) mn) (ro1 (rvT (v := .sc (.bool z5)) rfl)) rfl rfl (.sc _) pn
theorem ok7 (x : Int) (n : Int) (r : Int) (hR : spymake_Below x n = some r) : FnP Try.prog 7 [.sc (.int .i64 x), .sc (.int .i64 n)] (.sc (.int .i64 r)) := by
  refine fnP_of (FnX.walk Try.func7 rfl 16 0 (by simp [Try.ntmps7]) rfl fun W S F Q hQ => ?_)
  unfold spymake_Below at hR
  refine AWP.sq ?_
  refine AWP.rgC 4 rfl rfl ?_
  refine pu (v := .sc _) rfl rfl (fun _ => rfl) ?_
  refine RunC.fin ?_
  refine AWP.sq ?_
  refine AWP.sq ?_
  refine AWP.rgC 12 rfl rfl ?_
  refine pu (v := .sc _) rfl rfl (fun _ => rfl) ?_
  refine pu (v := .sc _) rfl rfl (fun _ => rfl) ?_
  refine RunC.fin ?_
  refine AWP.cd hR rfl (fun h1 hR => ?_) fun h1 hR => ?_
  · refine AWP.sq ?_
    refine AWP.rgC 16 rfl rfl ?_
    refine pu (v := .sc _) rfl rfl (fun _ => rfl) ?_
    refine RunC.fin ?_
    refine AWP.ret ?_
    refine rtT ?_
    have hR := Option.some.inj hR; subst hR
    exact hQ _ _ (LS.mk [(4, .sc (.int .i64 0))] (lblks 0 []) 0) (.sc (.int .i64 0)) [] (.inr rfl) (Weak.turnL [] [] rfl rfl (tc (.sc _) tn) mn) (ro1 (rvT (v := .sc (.int .i64 0)) rfl)) rfl rfl (.sc _) pn
  · refine AWP.skip ?_
    refine skT ?_
    refine AWP.sq ?_
    refine AWP.rgC 28 rfl rfl ?_
    refine pu (v := .sc _) rfl rfl (fun _ => rfl) ?_
    refine pu (v := .sc _) rfl rfl (fun _ => rfl) ?_
    obtain ⟨h2, hR⟩ := chkE hR
    refine rm rfl rfl rfl h2 rfl ?_
    refine pu (v := .sc _) rfl rfl (fun _ => rfl) ?_
    refine RunC.fin ?_
    refine AWP.sq ?_
    refine AWP.sq ?_
    refine AWP.rgC 36 rfl rfl ?_
    refine pu (v := .sc _) rfl rfl (fun _ => rfl) ?_
    refine pu (v := .sc _) rfl rfl (fun _ => rfl) ?_
    refine RunC.fin ?_
    refine AWP.cd hR rfl (fun h3 hR => ?_) fun h3 hR => ?_
    · refine AWP.rgC 52 rfl rfl ?_
      refine pu (v := .sc _) rfl rfl (fun _ => rfl) ?_
      refine pu (v := .sc _) rfl rfl (fun _ => rfl) ?_
      refine pu (v := .sc _) rfl rfl (fun _ => rfl) ?_
      refine pu (v := .sc _) rfl rfl (fun _ => rfl) ?_
      refine RunC.fin ?_
      refine AWP.sq ?_
      refine AWP.rgC 60 rfl rfl ?_
      refine pu (v := .sc _) rfl rfl (fun _ => rfl) ?_
      refine pu (v := .sc _) rfl rfl (fun _ => rfl) ?_
      refine RunC.fin ?_
      refine AWP.ret ?_
      have hR := Option.some.inj hR; subst hR
      exact hQ _ _ (LS.mk [(4, .sc (.int .i64 (w6 ((Int.tmod x n) + n))))] (lblks 0 []) 0) (.sc (.int .i64 (w6 ((Int.tmod x n) + n)))) [] (.inr rfl) (Weak.turnL [] [] rfl rfl (tc (.sc _) tn) mn) (ro1 (rvT (v := .sc (.int .i64 (w6 ((Int.tmod x n) + n)))) rfl)) rfl rfl (.sc _) pn
    · refine AWP.skip ?_
      refine skT ?_
      refine AWP.sq ?_
      refine AWP.rgC 44 rfl rfl ?_
      refine pu (v := .sc _) rfl rfl (fun _ => rfl) ?_
      refine pu (v := .sc _) rfl rfl (fun _ => rfl) ?_
      refine RunC.fin ?_
      refine AWP.ret ?_
      have hR := Option.some.inj hR; subst hR
      exact hQ _ _ (LS.mk [(4, .sc (.int .i64 (Int.tmod x n)))] (lblks 0 []) 0) (.sc (.int .i64 (Int.tmod x n))) [] (.inr rfl) (Weak.turnL [] [] rfl rfl (tc (.sc _) tn) mn) (ro1 (rvT (v := .sc (.int .i64 (Int.tmod x n))) rfl)) rfl rfl (.sc _) pn
theorem ok9 (s : spymake_Stream) (n : Int) (r : Int × spymake_Stream) (hR : Stream_Next s n = some r) : FnD Try.prog 9 [boxB false s] [.ptr 0 0 0, .sc (.int .i64 n)] (.sc (.int .i64 r.1)) [boxB false r.2] := by
  refine FnX.walk Try.func9 rfl 64 1 (by simp [Try.ntmps9]) rfl fun W S F Q hQ => ?_
  unfold Stream_Next at hR
  refine AWP.sq ?_
  refine AWP.rgC 5 rfl rfl ?_
  refine pu (v := .sc _) rfl rfl (fun _ => rfl) ?_
  refine RunC.fin ?_
  refine AWP.sq ?_
  refine AWP.rgC 37 rfl rfl ?_
  refine pu (v := .ptr _ _ _) rfl rfl (fun _ => rfl) ?_
  refine pu (v := .ptr _ _ _) rfl rfl (fun _ => rfl) ?_
  refine fa rfl rfl ti25 rfl rfl ti3 rfl ?_
  refine ldB (v := .sc _) rfl rfl rfl rfl ti3 rfl rfl ?_
  refine pu (v := .sc _) rfl rfl (fun _ => rfl) ?_
  refine pu (v := .ptr _ _ _) rfl rfl (fun _ => rfl) ?_
  refine fa rfl rfl ti25 rfl rfl ti3 rfl ?_
  refine stB (cs' := [rowV (α := Int) false s.L, .sc (.int .i64 (w6 (s.at_ + 1)))]) rfl rfl rfl rfl ti3 rfl rfl rfl rfl rfl ?_
  refine RunC.fin ?_
  refine AWP.sq ?_
  refine AWP.sq ?_
  refine AWP.rgC 61 rfl rfl ?_
  refine pu (v := .ptr _ _ _) rfl rfl (fun _ => rfl) ?_
  refine pu (v := .ptr _ _ _) rfl rfl (fun _ => rfl) ?_
  refine fa rfl rfl ti25 rfl rfl ti22 rfl ?_
  refine ldB (v := rowV _ s.L) rfl rfl rfl rfl ti22 rfl rfl ?_
  refine lenL (α := Int) rfl rfl ti22 rfl ?_
  refine pu (v := .sc _) rfl rfl (fun _ => rfl) ?_
  refine RunC.fin ?_
  refine AWP.cd hR rfl (fun h1 hR => ?_) fun h1 hR => ?_
  · refine AWP.sq ?_
    refine AWP.rgC 93 rfl rfl ?_
    refine pu (v := .ptr _ _ _) rfl rfl (fun _ => rfl) ?_
    refine pu (v := .ptr _ _ _) rfl rfl (fun _ => rfl) ?_
    refine fa rfl rfl ti25 rfl rfl ti3 rfl ?_
    refine ldB (v := .sc _) rfl rfl rfl rfl ti3 rfl rfl ?_
    refine pu (v := .sc _) rfl rfl (fun _ => rfl) ?_
    refine pu (v := .sc _) rfl rfl (fun _ => rfl) ?_
    obtain ⟨r2, hr2, hR⟩ := bindE hR
    refine cls [] rfl rfl cb7 (ok7 (w6 ((w6 (s.at_ + 1)) * 7919)) n _ hr2) (.cons (.sc _) (.cons (.sc _) (.nil))) (.inr rfl) rfl ?_
    refine pu (v := .sc _) rfl rfl (fun _ => rfl) ?_
    refine RunC.fin ?_
    refine AWP.ret ?_
    refine rtT ?_
    have hR := Option.some.inj hR; subst hR
    exact hQ _ _ (LS.mk [(4, .sc (.int .i64 r2))] (lblks 0 [boxB (α := spymake_Stream) false (spymake_Stream.mk s.L (w6 (s.at_ + 1)))]) 1) (.sc (.int .i64 r2)) [] (.inr rfl) (Weak.turnL [(0, 0)] [] rfl rfl (tc (.sc _) tn) (mc rfl (.box rfl (.cons trR1 (.cons (.sc _) (.nil))) rfl) mn)) (ro1 (rvT (v := .sc (.int .i64 r2)) rfl)) rfl rfl (.sc _) (pc rfl bldB pn)
  · refine AWP.skip ?_
    refine skT ?_
    refine AWP.sq ?_
    refine AWP.rgD 109 [0, 1, 3, 7, 15, 0, 32, 96, 224, 480, 1023, 2047] ⟨[], [none, none, none, some [0], none, none, none, none, some [0], none, none, none]⟩ hmix (by kernel_rfl) rfl rfl ?_
    refine pu (v := .ptr _ _ _) rfl rfl (fun _ => rfl) ?_
    refine pu (v := .ptr _ _ _) rfl rfl (fun _ => rfl) ?_
    refine fa rfl rfl ti25 rfl rfl ti3 rfl ?_
    refine ldB (v := .sc _) rfl rfl rfl rfl ti3 rfl rfl ?_
    refine pu (v := .sc _) rfl rfl (fun _ => rfl) ?_
    refine pu (v := .ptr _ _ _) rfl rfl (fun _ => rfl) ?_
    refine pu (v := .ptr _ _ _) rfl rfl (fun _ => rfl) ?_
    refine fa rfl rfl ti25 rfl rfl ti22 rfl ?_
    refine ldB (v := rowV _ s.L) rfl rfl rfl rfl ti22 rfl rfl ?_
    refine lenL (α := Int) rfl rfl ti22 rfl ?_
    obtain ⟨h3, hR⟩ := chkE hR
    refine rm rfl rfl rfl h3 rfl ?_
    refine pu (v := .sc _) rfl rfl (fun _ => rfl) ?_
    refine RunC.fin ?_
    refine AWP.sq ?_
    refine AWP.rgD 157 [0, 1, 3, 7, 15, 0, 32, 96, 224, 480, 1023, 2047] ⟨[], [none, none, none, some [0], none, none, none, none, some [0], none, none, none]⟩ hmix (by kernel_rfl) rfl rfl ?_
    refine pu (v := .ptr _ _ _) rfl rfl (fun _ => rfl) ?_
    refine pu (v := .ptr _ _ _) rfl rfl (fun _ => rfl) ?_
    refine fa rfl rfl ti25 rfl rfl ti3 rfl ?_
    refine ldB (v := .sc _) rfl rfl rfl rfl ti3 rfl rfl ?_
    refine pu (v := .sc _) rfl rfl (fun _ => rfl) ?_
    refine pu (v := .ptr _ _ _) rfl rfl (fun _ => rfl) ?_
    refine pu (v := .ptr _ _ _) rfl rfl (fun _ => rfl) ?_
    refine fa rfl rfl ti25 rfl rfl ti22 rfl ?_
    refine ldB (v := rowV _ s.L) rfl rfl rfl rfl ti22 rfl rfl ?_
    refine lenL (α := Int) rfl rfl ti22 rfl ?_
    refine qu rfl rfl rfl h3 rfl ?_
    refine pu (v := .sc _) rfl rfl (fun _ => rfl) ?_
    refine RunC.fin ?_
    refine AWP.sq ?_
    refine AWP.rgC 221 rfl rfl ?_
    refine pu (v := .ptr _ _ _) rfl rfl (fun _ => rfl) ?_
    refine pu (v := .ptr _ _ _) rfl rfl (fun _ => rfl) ?_
    refine fa rfl rfl ti25 rfl rfl ti22 rfl ?_
    refine ldB (v := rowV _ s.L) rfl rfl rfl rfl ti22 rfl rfl ?_
    refine pu (v := .sc _) rfl rfl (fun _ => rfl) ?_
    obtain ⟨h4, hR⟩ := chkE hR
    refine ixL (α := Int) rfl rfl rfl ti22 rfl ti3 rfl h4 ?_
    refine ldR (v := .sc _) rfl rfl ti3 rfl ?_
    obtain ⟨r5, hr5, hR⟩ := bindE hR
    refine cls [] rfl rfl cb7 (ok7 (gt s.L (Int.tmod (w6 ((w6 (s.at_ + 1)) - 1)) (s.L.length : Int))) 1073741824 _ hr5) (.cons (.sc _) (.cons (.sc _) (.nil))) (.inr rfl) rfl ?_
    refine pu (v := .sc _) rfl rfl (fun _ => rfl) ?_
    refine pu (v := .sc _) rfl rfl (fun _ => rfl) ?_
    obtain ⟨v6, ev6, hR⟩ := letE hR
    refine pu (v := .sc _) rfl rfl (fun _ => puI ev6) ?_
    obtain ⟨v7, ev7, hR⟩ := letE hR
    refine pu (v := .sc _) rfl rfl (fun _ => puI ev7) ?_
    refine pu (v := .sc _) rfl rfl (fun _ => rfl) ?_
    refine pu (v := .sc _) rfl rfl (fun _ => rfl) ?_
    obtain ⟨r8, hr8, hR⟩ := bindE hR
    refine cls [] rfl rfl cb7 (ok7 (w6 (r5 + v7)) n _ hr8) (.cons (.sc _) (.cons (.sc _) (.nil))) (.inr rfl) rfl ?_
    refine pu (v := .sc _) rfl rfl (fun _ => rfl) ?_
    refine RunC.fin ?_
    refine AWP.ret ?_
    have hR := Option.some.inj hR; subst hR
    exact hQ _ _ (LS.mk [(4, .sc (.int .i64 r8))] (lblks 0 [boxB (α := spymake_Stream) false (spymake_Stream.mk s.L (w6 (s.at_ + 1)))]) 1) (.sc (.int .i64 r8)) [] (.inr rfl) (Weak.turnL [(0, 0)] [] rfl rfl (tc (.sc _) tn) (mc rfl (.box rfl (.cons trR1 (.cons (.sc _) (.nil))) rfl) mn)) (ro1 (rvT (v := .sc (.int .i64 r8)) rfl)) rfl rfl (.sc _) (pc rfl bldB pn)
theorem ok8 (s : spymake_Stream) (low : Int) (high : Int) (r : Int × spymake_Stream) (hR : Stream_Range s low high = some r) : FnD Try.prog 8 [boxB false s] [.ptr 0 0 0, .sc (.int .i64 low), .sc (.int .i64 high)] (.sc (.int .i64 r.1)) [boxB false r.2] := by
  refine FnX.walk Try.func8 rfl 19 1 (by simp [Try.ntmps8]) rfl fun W S F Q hQ => ?_
  unfold Stream_Range at hR
  refine AWP.sq ?_
  refine AWP.rgC 5 rfl rfl ?_
  refine pu (v := .sc _) rfl rfl (fun _ => rfl) ?_
  refine RunC.fin ?_
  refine AWP.sq ?_
  refine AWP.sq ?_
  refine AWP.rgC 17 rfl rfl ?_
  refine pu (v := .sc _) rfl rfl (fun _ => rfl) ?_
  refine pu (v := .sc _) rfl rfl (fun _ => rfl) ?_
  refine pu (v := .sc _) rfl rfl (fun _ => rfl) ?_
  refine RunC.fin ?_
  refine AWP.cd hR rfl (fun h1 hR => ?_) fun h1 hR => ?_
  · refine AWP.sq ?_
    refine AWP.rgC 25 rfl rfl ?_
    refine pu (v := .sc _) rfl rfl (fun _ => rfl) ?_
    refine pu (v := .sc _) rfl rfl (fun _ => rfl) ?_
    refine RunC.fin ?_
    refine AWP.ret ?_
    refine rtT ?_
    have hR := Option.some.inj hR; subst hR
    exact hQ _ _ (LS.mk [(6, .sc (.int .i64 low))] (lblks 0 [boxB (α := spymake_Stream) false s]) 1) (.sc (.int .i64 low)) [] (.inr rfl) (Weak.turnL [(0, 0)] [] rfl rfl (tc (.sc _) tn) (mc rfl (.box rfl (.cons trR1 (.cons (.sc _) (.nil))) rfl) mn)) (ro1 (rvT (v := .sc (.int .i64 low)) rfl)) rfl rfl (.sc _) (pc rfl bldB pn)
  · refine AWP.skip ?_
    refine skT ?_
    refine AWP.sq ?_
    refine AWP.rgC 53 rfl rfl ?_
    refine pu (v := .sc _) rfl rfl (fun _ => rfl) ?_
    refine pu (v := .ptr _ _ _) rfl rfl (fun _ => rfl) ?_
    refine pu (v := .sc _) rfl rfl (fun _ => rfl) ?_
    refine pu (v := .sc _) rfl rfl (fun _ => rfl) ?_
    refine pu (v := .sc _) rfl rfl (fun _ => rfl) ?_
    refine pu (v := .sc _) rfl rfl (fun _ => rfl) ?_
    obtain ⟨r2, hr2, hR⟩ := bindE hR
    refine cps (res' := .sc (.int .i64 r2.1)) (ups := [(0, boxB (α := spymake_Stream) false r2.2)]) [0] 41 rfl rfl rfl cb9 (ok9 s (w6 ((w6 (high - low)) + 1)) _ hr2) (.cons (ldP rfl rfl) (.cons (.sc _) (.nil))) (pc rfl (.box (.cons ldR' (.cons (.sc _) (.nil))) rfl) pn) rfl rfl rfl rfl rfl (by first | rfl | exact renR | exact renA | exact renS | simp only [V.ren, V.rens, renR, renA, renS] | (simp only [V.ren, V.rens, renR, renA, renS]; rfl)) (by simp only [passUps, renBox, renArr]; rfl) ?_
    refine pu (v := .sc _) rfl rfl (fun _ => rfl) ?_
    refine pu (v := .sc _) rfl rfl (fun _ => rfl) ?_
    refine RunC.fin ?_
    refine AWP.ret ?_
    have hR := Option.some.inj hR; subst hR
    exact hQ _ _ (LS.mk [(6, .sc (.int .i64 (w6 (low + r2.1))))] (lblks 0 [boxB (α := spymake_Stream) false r2.2]) 1) (.sc (.int .i64 (w6 (low + r2.1)))) [] (.inr rfl) (Weak.turnL [(0, 0)] [] rfl rfl (tc (.sc _) tn) (mc rfl (.box rfl (.cons trR1 (.cons (.sc _) (.nil))) rfl) mn)) (ro1 (rvT (v := .sc (.int .i64 (w6 (low + r2.1)))) rfl)) rfl rfl (.sc _) (pc rfl bldB pn)
theorem ok52 (data : List curve_Sample) (a : Int) (b : Int) (r : (List curve_Sample)) (hR : slices_insertionSortCmpFunc_curve_Sample_spykeep4_samples_1 data a b = some r) : FnD Try.prog 52 [arrB 70 0 false data] [slV curve_Sample 0 0 0 data.length, .sc (.int .i64 a), .sc (.int .i64 b), .fn (.func 18) []] (.tup []) [arrB 70 0 false r] := by
  refine FnX.walk Try.func52 rfl 53 1 (by simp [Try.ntmps52]) rfl fun W S F Q hQ => ?_
  unfold slices_insertionSortCmpFunc_curve_Sample_spykeep4_samples_1 at hR
  refine AWP.sq ?_
  refine AWP.rgC 13 rfl rfl ?_
  refine pu (v := .sc _) rfl rfl (fun _ => rfl) ?_
  refine pu (v := .sc _) rfl rfl (fun _ => rfl) ?_
  refine pu (v := .sc _) rfl rfl (fun _ => rfl) ?_
  refine RunC.fin ?_
  refine AWP.loopJ (fun s1 : (List curve_Sample) × Int => LS.mk [(0, slV curve_Sample 0 0 0 s1.1.length), (1, .sc (.int .i64 a)), (2, .sc (.int .i64 b)), (3, .fn (.func 18) []), (8, .sc (.int .i64 s1.2))] (lblks 0 [arrB (α := curve_Sample) 70 0 false s1.1]) 1) (fun z2 : (List curve_Sample) => LS.mk [] (lblks 0 [arrB (α := curve_Sample) 70 0 false z2]) 1) (slices_insertionSortCmpFunc_curve_Sample_spykeep4_samples_1.l1 a b) hR (s0 := (data, w6 (a + 1))) (Weak.turnL [(0, 0)] [] rfl rfl (tc (trS' rfl rfl rfl rfl rfl) (tc (.sc _) (tc (.sc _) (tc (.fn (.nil)) (tc (.sc _) tn))))) (mc rfl (btrA' rfl) mn)) (fun s1 o1 hR => ?_) fun z2 hR => ?_
  · unfold slices_insertionSortCmpFunc_curve_Sample_spykeep4_samples_1.l1 at hR
    refine AWP.sq ?_
    refine AWP.sq ?_
    refine AWP.rgC 13 rfl rfl ?_
    refine pu (v := .sc _) rfl rfl (fun _ => rfl) ?_
    refine pu (v := .sc _) rfl rfl (fun _ => rfl) ?_
    refine pu (v := .sc _) rfl rfl (fun _ => rfl) ?_
    refine RunC.fin ?_
    refine AWP.cd hR rfl (fun h3 hR => ?_) fun h3 hR => ?_
    · refine AWP.skip ?_
      refine skT ?_
      refine AWP.sq ?_
      refine AWP.block ?_
      refine AWP.sq ?_
      refine AWP.rgC 21 rfl rfl ?_
      refine pu (v := .sc _) rfl rfl (fun _ => rfl) ?_
      refine pu (v := .sc _) rfl rfl (fun _ => rfl) ?_
      refine RunC.fin ?_
      refine AWP.loopJ (fun s4 : (List curve_Sample) × Int => LS.mk [(0, slV curve_Sample 0 0 0 s4.1.length), (1, .sc (.int .i64 a)), (2, .sc (.int .i64 b)), (3, .fn (.func 18) []), (8, .sc (.int .i64 s1.2)), (9, .sc (.int .i64 s4.2))] (lblks 0 [arrB (α := curve_Sample) 70 0 false s4.1]) 1) (fun z5 : (List curve_Sample) => LS.mk [(0, slV curve_Sample 0 0 0 z5.length), (1, .sc (.int .i64 a)), (2, .sc (.int .i64 b)), (3, .fn (.func 18) []), (8, .sc (.int .i64 s1.2))] (lblks 0 [arrB (α := curve_Sample) 70 0 false z5]) 1) (slices_insertionSortCmpFunc_curve_Sample_spykeep4_samples_1.l2 a) hR (s0 := (s1.1, s1.2)) (Weak.turnL [(0, 0)] [] rfl rfl (tc (trS' rfl rfl rfl rfl rfl) (tc (.sc _) (tc (.sc _) (tc (.fn (.nil)) (tc (.sc _) (tc (.sc _) tn)))))) (mc rfl (btrA' rfl) mn)) (fun s4 o4 hR => ?_) fun z5 hR => ?_
      · unfold slices_insertionSortCmpFunc_curve_Sample_spykeep4_samples_1.l2 at hR
        refine AWP.sq ?_
        refine AWP.joinX (fun z6 : Bool => LS.mk [(0, slV curve_Sample 0 0 0 s4.1.length), (1, .sc (.int .i64 a)), (2, .sc (.int .i64 b)), (3, .fn (.func 18) []), (8, .sc (.int .i64 s1.2)), (9, .sc (.int .i64 s4.2)), (34, .sc (.bool z6))] (lblks 0 [arrB (α := curve_Sample) 70 0 false s4.1]) 1) hR (fun o6 hR => ?_) fun z6 hR => ?_
        · refine AWP.rgD 69 [0, 0, 3, 7, 15, 15, 15, 111, 239, 15, 15, 1039, 3599, 7695, 16383, 32767, 65535] ⟨[], [none, none, none, none, none, none, none, none, some [0], none, none, none, none, some [0], none, none, none]⟩ hmix (by kernel_rfl) rfl rfl ?_
          refine pu (v := .sc _) rfl rfl (fun _ => rfl) ?_
          refine pu (v := .sc _) rfl rfl (fun _ => rfl) ?_
          refine pu (v := .sc _) rfl rfl (fun _ => rfl) ?_
          refine pu (v := .sc _) rfl rfl (fun _ => rfl) ?_
          refine brR hR (fun h7 hR => ?_) fun h7 hR => ?_
          · refine pu (v := .fn _ _) (wtG rfl rfl rfl h7) rfl (fun _ => rfl) ?_
            refine pu (v := slV curve_Sample _ _ _ _) (wtG rfl rfl rfl h7) rfl (fun _ => rfl) ?_
            refine pu (v := .sc _) (wtG rfl rfl rfl h7) rfl (fun _ => rfl) ?_
            obtain ⟨h8, hR⟩ := chkE hR
            refine ixS0 (α := curve_Sample) (wtG rfl rfl rfl h7) rfl rfl ti26 rfl ti70 rfl h8 ?_
            refine ldE (α := curve_Sample) (v := .agg _) (wtG rfl rfl rfl h7) rfl rfl (ixlt h8) ti70 rfl rfl rfl rfl ?_
            refine pu (v := slV curve_Sample _ _ _ _) (wtG rfl rfl rfl h7) rfl (fun _ => rfl) ?_
            refine pu (v := .sc _) (wtG rfl rfl rfl h7) rfl (fun _ => rfl) ?_
            refine pu (v := .sc _) (wtG rfl rfl rfl h7) rfl (fun _ => rfl) ?_
            obtain ⟨h9, hR⟩ := chkE hR
            refine ixS0 (α := curve_Sample) (wtG rfl rfl rfl h7) rfl rfl ti26 rfl ti70 rfl h9 ?_
            refine ldE (α := curve_Sample) (v := .agg _) (wtG rfl rfl rfl h7) rfl rfl (ixlt h9) ti70 rfl rfl rfl rfl ?_
            obtain ⟨r10, hr10, hR⟩ := bindE hR
            refine cls [] (wtG rfl rfl rfl h7) rfl cb18 (ok18 (gt s4.1 s4.2) (gt s4.1 (w6 (s4.2 - 1))) _ hr10) (.cons (.agg (.cons (.sc _) (.cons (.sc _) (.cons (.sc _) (.cons (.sc _) (.cons (.sc _) (.cons (.sc _) (.nil))))))) rfl) (.cons (.agg (.cons (.sc _) (.cons (.sc _) (.cons (.sc _) (.cons (.sc _) (.cons (.sc _) (.cons (.sc _) (.nil))))))) rfl) (.nil))) (.inr rfl) rfl ?_
            refine pu (v := .sc _) (wtG rfl rfl rfl h7) rfl (fun _ => rfl) ?_
            refine pkT (v := .sc (.bool (decide (r10 < 0)))) rfl rfl h7 rfl ?_
            refine RunC.fin ?_
            have hR := Option.some.inj hR; subst hR
            exact Weak.turnL [(0, 0)] [] rfl rfl (tc (trS' rfl rfl rfl rfl rfl) (tc (.sc _) (tc (.sc _) (tc (.fn (.nil)) (tc (.sc _) (tc (.sc _) (tc (.sc _) tn))))))) (mc rfl (btrA' rfl) mn)
          · refine sk (skW rfl rfl rfl h7) ?_
            refine sk (skW rfl rfl rfl h7) ?_
            refine sk (skW rfl rfl rfl h7) ?_
            refine sk (skW rfl rfl rfl h7) ?_
            refine sk (skW rfl rfl rfl h7) ?_
            refine sk (skW rfl rfl rfl h7) ?_
            refine sk (skW rfl rfl rfl h7) ?_
            refine sk (skW rfl rfl rfl h7) ?_
            refine sk (skW rfl rfl rfl h7) ?_
            refine sk (skW rfl rfl rfl h7) ?_
            refine sk (skW rfl rfl rfl h7) ?_
            refine sk (skW rfl rfl rfl h7) ?_
            refine pkF (v := .sc (.bool false)) rfl rfl h7 rfl ?_
            refine RunC.fin ?_
            have hR := Option.some.inj hR; subst hR
            exact Weak.turnL [(0, 0)] [] rfl rfl (tc (trS' rfl rfl rfl rfl rfl) (tc (.sc _) (tc (.sc _) (tc (.fn (.nil)) (tc (.sc _) (tc (.sc _) (tc (.sc _) tn))))))) (mc rfl (btrA' rfl) mn)
        · refine AWP.cd hR rfl (fun h11 hR => ?_) fun h11 hR => ?_
          · refine AWP.skip ?_
            refine skT ?_
            refine AWP.sq ?_
            refine AWP.block ?_
            refine AWP.rgD 73 [0, 0, 0, 0, 8, 0, 0, 64, 224, 480, 0, 0, 3072, 7168, 16355, 32739, 65535, 131071] ⟨[], [none, none, none, none, none, none, none, none, none, some [0], none, none, none, some [0], none, some [0], none, some [0]]⟩ hmix (by kernel_rfl) rfl rfl ?_
            refine pu (v := slV curve_Sample _ _ _ _) rfl rfl (fun _ => rfl) ?_
            refine pu (v := .sc _) rfl rfl (fun _ => rfl) ?_
            refine pu (v := slV curve_Sample _ _ _ _) rfl rfl (fun _ => rfl) ?_
            refine pu (v := .sc _) rfl rfl (fun _ => rfl) ?_
            refine pu (v := .sc _) rfl rfl (fun _ => rfl) ?_
            refine pu (v := slV curve_Sample _ _ _ _) rfl rfl (fun _ => rfl) ?_
            refine pu (v := .sc _) rfl rfl (fun _ => rfl) ?_
            refine pu (v := .sc _) rfl rfl (fun _ => rfl) ?_
            obtain ⟨h12, hR⟩ := chkE hR
            refine ixS0 (α := curve_Sample) rfl rfl rfl ti26 rfl ti70 rfl h12 ?_
            refine ldE (α := curve_Sample) (v := .agg _) rfl rfl rfl (ixlt h12) ti70 rfl rfl rfl rfl ?_
            refine pu (v := slV curve_Sample _ _ _ _) rfl rfl (fun _ => rfl) ?_
            refine pu (v := .sc _) rfl rfl (fun _ => rfl) ?_
            obtain ⟨h13, hR⟩ := chkE hR
            refine ixS0 (α := curve_Sample) rfl rfl rfl ti26 rfl ti70 rfl h13 ?_
            refine ldE (α := curve_Sample) (v := .agg _) rfl rfl rfl (ixlt h13) ti70 rfl rfl rfl rfl ?_
            refine ixS0 (α := curve_Sample) rfl rfl rfl ti26 rfl ti70 rfl h13 ?_
            refine stE (α := curve_Sample) (y := (gt s4.1 (w6 (s4.2 - 1)))) rfl rfl rfl (ixlt h13) ti70 rfl rfl rfl rfl rfl ?_
            refine ixS0 (α := curve_Sample) rfl rfl rfl ti26 rfl ti70 rfl h12 ?_
            obtain ⟨v14, ev14, hR⟩ := letE hR
            refine stE (α := curve_Sample) (y := (gt s4.1 s4.2)) rfl rfl rfl (by first | exact ixlt h12 | (simp only [List.length_set]; exact ixlt h12)) ti70 rfl rfl rfl rfl rfl ?_
            rw [ev14]
            refine RunC.blk ?_
            refine RunC.fin ?_
            refine AWP.rgC 85 rfl rfl ?_
            refine pu (v := .sc _) rfl rfl (fun _ => rfl) ?_
            refine pu (v := .sc _) rfl rfl (fun _ => rfl) ?_
            refine pu (v := .sc _) rfl rfl (fun _ => rfl) ?_
            refine RunC.fin ?_
            refine ⟨(v14, w6 (s4.2 - 1)), (Option.some.inj hR).symm, ?_⟩
            exact Weak.turnL [(0, 0)] [] rfl rfl (tc (trS' rfl rfl rfl rfl (by subst ev14; simp only [List.length_set])) (tc (.sc _) (tc (.sc _) (tc (.fn (.nil)) (tc (.sc _) (tc (.sc _) tn)))))) (mc rfl (btrA' rfl) mn)
          · refine AWP.exit ?_
            refine exT ?_
            refine exT ?_
            refine exH (skT ?_)
            refine ⟨s4.1, (Option.some.inj hR).symm, ?_⟩
            exact Weak.turnL [(0, 0)] [] rfl rfl (tc (trS' rfl rfl rfl rfl rfl) (tc (.sc _) (tc (.sc _) (tc (.fn (.nil)) (tc (.sc _) tn))))) (mc rfl (btrA' rfl) mn)
      · refine skB ?_
        refine skT ?_
        refine AWP.rgC 13 rfl rfl ?_
        refine pu (v := .sc _) rfl rfl (fun _ => rfl) ?_
        refine pu (v := .sc _) rfl rfl (fun _ => rfl) ?_
        refine pu (v := .sc _) rfl rfl (fun _ => rfl) ?_
        refine RunC.fin ?_
        refine ⟨(z5, w6 (s1.2 + 1)), (Option.some.inj hR).symm, ?_⟩
        exact Weak.turnL [(0, 0)] [] rfl rfl (tc (trS' rfl rfl rfl rfl rfl) (tc (.sc _) (tc (.sc _) (tc (.fn (.nil)) (tc (.sc _) tn))))) (mc rfl (btrA' rfl) mn)
    · refine AWP.exit ?_
      refine exT ?_
      refine exT ?_
      refine exH (skT ?_)
      refine ⟨s1.1, (Option.some.inj hR).symm, ?_⟩
      exact Weak.turnL [(0, 0)] [] rfl rfl tn (mc rfl (btrA' rfl) mn)
  · have hR := Option.some.inj hR; subst hR
    exact hQ _ _ (LS.mk [] (lblks 0 [arrB (α := curve_Sample) 70 0 false z2]) 1) (.tup []) [] (.inl rfl) (Weak.turnL [(0, 0)] [] rfl rfl tn (mc rfl (btrA' rfl) mn)) (ro0 ) rfl rfl (.tup .nil) (pc rfl bldA pn)
theorem ok39 (data : List curve_Sample) (a : Int) (b : Int) (limit : Int) (r : (List curve_Sample)) (hR : slices_pdqsortCmpFunc_curve_Sample_spykeep4_samples_1 data a b limit = some r) : FnD Try.prog 39 [arrB 70 0 false data] [slV curve_Sample 0 0 0 data.length, .sc (.int .i64 a), .sc (.int .i64 b), .sc (.int .i64 limit), .fn (.func 18) []] (.tup []) [arrB 70 0 false r] := by
  refine FnX.walk Try.func39 rfl 148 1 (by simp [Try.ntmps39]) rfl fun W S F Q hQ => ?_
  unfold slices_pdqsortCmpFunc_curve_Sample_spykeep4_samples_1 at hR
  refine AWP.sq ?_
  refine AWP.rgC 5 rfl rfl ?_
  refine pu (v := .sc _) rfl rfl (fun _ => rfl) ?_
  refine RunC.fin ?_
  refine AWP.sq ?_
  refine AWP.rgC 9 rfl rfl ?_
  refine pu (v := .sc _) rfl rfl (fun _ => rfl) ?_
  refine RunC.fin ?_
  refine AWP.loopK' (fun s1 : Unit => LS.mk [(0, slV curve_Sample 0 0 0 data.length), (1, .sc (.int .i64 a)), (2, .sc (.int .i64 b)), (3, .sc (.int .i64 limit)), (4, .fn (.func 18) []), (10, .sc (.bool true)), (11, .sc (.bool true))] (lblks 0 [arrB (α := curve_Sample) 70 0 false data]) 1) (fun z2 : Unit => LS.mk [] (lblks 0 []) 0) (slices_pdqsortCmpFunc_curve_Sample_spykeep4_samples_1.l1 data a b) hR (s0 := ()) (Weak.turnL [(0, 0)] [] rfl rfl (tc (trS' rfl rfl rfl rfl rfl) (tc (.sc _) (tc (.sc _) (tc (.sc _) (tc (.fn (.nil)) (tc (.sc _) (tc (.sc _) tn))))))) (mc rfl (btrA' rfl) mn)) (fun s1 o1 hR hE1 => ?_) fun z2 hR => ?_
  · unfold slices_pdqsortCmpFunc_curve_Sample_spykeep4_samples_1.l1 at hR
    refine AWP.block ?_
    refine AWP.sq ?_
    refine AWP.rgC 17 rfl rfl ?_
    refine pu (v := .sc _) rfl rfl (fun _ => rfl) ?_
    refine pu (v := .sc _) rfl rfl (fun _ => rfl) ?_
    refine pu (v := .sc _) rfl rfl (fun _ => rfl) ?_
    refine pu (v := .sc _) rfl rfl (fun _ => rfl) ?_
    refine RunC.fin ?_
    refine AWP.sq ?_
    refine AWP.sq ?_
    refine AWP.rgC 25 rfl rfl ?_
    refine pu (v := .sc _) rfl rfl (fun _ => rfl) ?_
    refine pu (v := .sc _) rfl rfl (fun _ => rfl) ?_
    refine RunC.fin ?_
    refine AWP.cd hR rfl (fun h3 hR => ?_) fun h3 hR => ?_
    · refine AWP.sq ?_
      refine AWP.rgC 45 rfl rfl ?_
      refine pu (v := slV curve_Sample _ _ _ _) rfl rfl (fun _ => rfl) ?_
      refine pu (v := .sc _) rfl rfl (fun _ => rfl) ?_
      refine pu (v := .sc _) rfl rfl (fun _ => rfl) ?_
      refine pu (v := .fn _ _) rfl rfl (fun _ => rfl) ?_
      obtain ⟨r4, hr4, hR⟩ := bindE hR
      obtain ⟨h5, hR⟩ := chkE hR
      refine cps (res' := .tup []) (ups := [(0, arrB (α := curve_Sample) 70 0 false r4)]) [0] 41 rfl rfl rfl cb52 (ok52 data a b _ hr4) (.cons (ldM rfl rfl) (.cons (.sc _) (.cons (.sc _) (.cons (.fn (.nil)) (.nil))))) (pc rfl bldA pn) rfl rfl rfl rfl rfl (by first | rfl | exact renR | exact renA | exact renS | simp only [V.ren, V.rens, renR, renA, renS] | (simp only [V.ren, V.rens, renR, renA, renS]; rfl)) (by simp only [passUps, renBox, renArr]; rfl) ?_
      refine RunC.fin ?_
      refine AWP.ret ?_
      refine rtT ?_
      refine rtB ?_
      refine rtT ?_
      refine rtB (rtT ?_)
      replace hR := escL hR hE1
      have hR := Option.some.inj hR; subst hR
      exact hQ _ _ (LS.mk [] (lblks 0 [arrB (α := curve_Sample) 70 0 false r4]) 1) (.tup []) [] (.inr rfl) (Weak.turnL [(0, 0)] [] rfl rfl tn (mc rfl (btrA' rfl) mn)) (ro0 ) rfl rfl (.tup .nil) (pc rfl bldA pn)
    · cases hR
  · cases hR
theorem ok17 (x : List curve_Sample) (r : (List curve_Sample)) (hR : slices_SortFunc_curve_Sample_spykeep4_samples_1 x = some r) : FnD Try.prog 17 [arrB 70 0 false x] [slV curve_Sample 0 0 0 x.length, .fn (.func 18) []] (.tup []) [arrB 70 0 false r] := by
  refine FnX.walk Try.func17 rfl 14 1 (by simp [Try.ntmps17]) rfl fun W S F Q hQ => ?_
  unfold slices_SortFunc_curve_Sample_spykeep4_samples_1 at hR
  refine AWP.sq ?_
  refine AWP.rgC 13 rfl rfl ?_
  refine pu (v := slV curve_Sample _ _ _ _) rfl rfl (fun _ => rfl) ?_
  refine lenS (α := curve_Sample) rfl rfl ti26 rfl ?_
  refine pu (v := .sc _) rfl rfl (fun _ => rfl) ?_
  refine RunC.fin ?_
  refine AWP.rgC 41 rfl rfl ?_
  refine pu (v := slV curve_Sample _ _ _ _) rfl rfl (fun _ => rfl) ?_
  refine pu (v := .sc _) rfl rfl (fun _ => rfl) ?_
  refine pu (v := .sc _) rfl rfl (fun _ => rfl) ?_
  refine cn rfl rfl ti3 rfl ti103 rfl rfl ?_
  obtain ⟨r1, hr1, hR⟩ := bindE hR
  refine cls [] rfl rfl cb40 (ok40 (IntKind.wrap .u64 (x.length : Int)) _ hr1) (.cons (.sc _) (.nil)) (.inr rfl) rfl ?_
  refine pu (v := .fn _ _) rfl rfl (fun _ => rfl) ?_
  obtain ⟨r2, hr2, hR⟩ := bindE hR
  obtain ⟨h3, hR⟩ := chkE hR
  refine cps (res' := .tup []) (ups := [(0, arrB (α := curve_Sample) 70 0 false r2)]) [0] 37 rfl rfl rfl cb39 (ok39 x 0 (x.length : Int) r1 _ hr2) (.cons (ldM rfl rfl) (.cons (.sc _) (.cons (.sc _) (.cons (.sc _) (.cons (.fn (.nil)) (.nil)))))) (pc rfl bldA pn) rfl rfl rfl rfl rfl (by first | rfl | exact renR | exact renA | exact renS | simp only [V.ren, V.rens, renR, renA, renS] | (simp only [V.ren, V.rens, renR, renA, renS]; rfl)) (by simp only [passUps, renBox, renArr]; rfl) ?_
  refine RunC.nil ?_
  have hR := Option.some.inj hR; subst hR
  exact hQ _ _ (LS.mk [] (lblks 0 [arrB (α := curve_Sample) 70 0 false r2]) 1) (.tup []) [] (.inl rfl) (Weak.turnL [(0, 0)] [] rfl rfl tn (mc rfl (btrA' rfl) mn)) (ro0 ) rfl rfl (.tup .nil) (pc rfl bldA pn)
theorem ok4 (s : spymake_Stream) (x : Star) (n : Int) (r : (List curve_Sample) × Bool × spymake_Stream) (hR : spykeep4_samples s x n = some r) : FnD Try.prog 4 [boxB false s] [.ptr 0 0 0, aggV false x, .sc (.int .i64 n)] (.tup [rowV (α := curve_Sample) false r.1, .sc (.bool r.2.1)]) [boxB false r.2.2] := by
  refine FnX.walk Try.func4 rfl 75 1 (by simp [Try.ntmps4]) rfl fun W S F Q hQ => ?_
  unfold spykeep4_samples at hR
  refine AWP.sq ?_
  refine AWP.rgC 13 rfl rfl ?_
  refine bx (cs := _) 1 rfl rfl rfl ?_
  refine pu (v := .sc _) rfl rfl (fun _ => rfl) ?_
  refine pu (v := .sc _) rfl rfl (fun _ => rfl) ?_
  refine RunC.fin ?_
  refine AWP.sq ?_
  refine AWP.rgC 33 rfl rfl ?_
  refine ldB (v := .agg _) rfl rfl rfl rfl ti35 rfl rfl ?_
  refine bs (α := Star) 17 false ([x] : List Star) rfl rfl ti56 rfl ti35 rfl rfl rfl rfl rfl ?_
  refine bu (cs := [.sc (.int .i64 0), slV Star 17 0 0 ([x] : List Star).length, .sc (.slice none 0 0), .sc (.slice none 0 0), .sc (.int .i64 0), .sc (.int .i64 0), .sc (.int .i64 0), .sc (.int .i64 0), .sc (.int .i64 0), .sc (.int .i64 0), .sc (.int .i64 0), .sc (.int .i64 0)]) rfl bt62 rfl ?_
  refine al (cs := [.sc (.int .i64 0), .sc (.slice none 0 0), .sc (.slice none 0 0), .sc (.slice none 0 0), .sc (.int .i64 0), .sc (.int .i64 0), .sc (.int .i64 0), .sc (.int .i64 0), .sc (.int .i64 0), .sc (.int .i64 0), .sc (.int .i64 0), .sc (.int .i64 0)]) 25 rfl rfl ti62 rfl rfl ?_
  refine stB (cs' := [.sc (.int .i64 0), slV Star 17 0 0 ([x] : List Star).length, .sc (.slice none 0 0), .sc (.slice none 0 0), .sc (.int .i64 0), .sc (.int .i64 0), .sc (.int .i64 0), .sc (.int .i64 0), .sc (.int .i64 0), .sc (.int .i64 0), .sc (.int .i64 0), .sc (.int .i64 0)]) rfl rfl rfl rfl ti62 rfl rfl rfl rfl rfl ?_
  refine RunC.fin ?_
  refine AWP.sq ?_
  refine AWP.rgC 37 rfl rfl ?_
  refine pu (v := .sc _) rfl rfl (fun _ => rfl) ?_
  refine RunC.fin ?_
  refine AWP.sq ?_
  refine AWP.rgC 49 rfl rfl ?_
  refine pu (v := .ptr _ _ _) rfl rfl (fun _ => rfl) ?_
  obtain ⟨r1, hr1, hR⟩ := bindE hR
  refine cps (res' := .sc (.int .i64 r1.1)) (ups := [(0, boxB (α := spymake_Stream) false r1.2)]) [0] 41 rfl rfl rfl cb8 (ok8 s (-5000) 5000 _ hr1) (.cons (ldP rfl rfl) (.cons (.sc _) (.cons (.sc _) (.nil)))) (pc rfl (.box (.cons ldR' (.cons (.sc _) (.nil))) rfl) pn) rfl rfl rfl rfl rfl (by first | rfl | exact renR | exact renA | exact renS | simp only [V.ren, V.rens, renR, renA, renS] | (simp only [V.ren, V.rens, renR, renA, renS]; rfl)) (by simp only [passUps, renBox, renArr]; rfl) ?_
  refine pu (v := .sc _) rfl rfl (fun _ => rfl) ?_
  refine RunC.fin ?_
  refine AWP.sq ?_
  refine AWP.sq ?_
  refine AWP.rgC 69 rfl rfl ?_
  refine pu (v := .ptr _ _ _) rfl rfl (fun _ => rfl) ?_
  refine pu (v := .sc _) rfl rfl (fun _ => rfl) ?_
  refine pu (v := .sc _) rfl rfl (fun _ => rfl) ?_
  obtain ⟨r2, hr2, hR⟩ := bindE hR
  refine cps (res' := .sc (.int .i64 r2.1)) (ups := [(0, boxB (α := spymake_Stream) false r2.2)]) [0] 61 rfl rfl rfl cb9 (ok9 r1.2 (w6 (n + 1)) _ hr2) (.cons (ldP rfl rfl) (.cons (.sc _) (.nil))) (pc rfl (.box (.cons ldR' (.cons (.sc _) (.nil))) rfl) pn) rfl rfl rfl rfl rfl (by first | rfl | exact renR | exact renA | exact renS | simp only [V.ren, V.rens, renR, renA, renS] | (simp only [V.ren, V.rens, renR, renA, renS]; rfl)) (by simp only [passUps, renBox, renArr]; rfl) ?_
  refine pu (v := .sc _) rfl rfl (fun _ => rfl) ?_
  refine RunC.fin ?_
  refine AWP.nilT curve_Sample 9 70 rfl ?_
  refine AWP.loopK' (fun s3 : spymake_Stream × (List curve_Sample) × Int × Int => LS.mk [(0, .ptr 0 0 0), (4, .ptr 1 0 0), (8, .ptr 2 0 0), (9, slV curve_Sample 4 0 0 s3.2.1.length), (10, .sc (.int .i64 s3.2.2.1)), (23, .sc (.int .i64 r2.1)), (24, .sc (.int .i64 s3.2.2.2))] (lblks 0 [boxB (α := spymake_Stream) false s3.1, boxB (α := Star) false x, .box [.sc (.int .i64 0), slV Star 3 0 0 ([x] : List Star).length, .sc (.slice none 0 0), .sc (.slice none 0 0), .sc (.int .i64 0), .sc (.int .i64 0), .sc (.int .i64 0), .sc (.int .i64 0), .sc (.int .i64 0), .sc (.int .i64 0), .sc (.int .i64 0), .sc (.int .i64 0)], arrB (α := Star) 35 0 false ([x] : List Star), arrB (α := curve_Sample) 70 0 true s3.2.1]) 5) (fun z4 : spymake_Stream × (List curve_Sample) => LS.mk [(9, slV curve_Sample 1 0 0 z4.2.length)] (lblks 0 [boxB (α := spymake_Stream) false z4.1, arrB (α := curve_Sample) 70 0 true z4.2]) 2) (spykeep4_samples.l1 x r2) hR (s0 := (r2.2, ([] : List curve_Sample), r1.1, 0)) (Weak.turnL [(0, 0), (1, 0), (25, 0), (17, 0), (69, 0)] [] rfl rfl (tc (trP' rfl rfl rfl rfl) (tc (trP' rfl rfl rfl rfl) (tc (trP' rfl rfl rfl rfl) (tc (trS' rfl rfl rfl rfl rfl) (tc (.sc _) (tc (.sc _) (tc (.sc _) tn))))))) (mc rfl (.box rfl (.cons trR1 (.cons (.sc _) (.nil))) rfl) (mc rfl (.box rfl (.cons (.sc _) (.cons (.sc _) (.cons (.sc _) (.cons (.sc _) (.cons (.sc _) (.cons trR1 (.cons (.sc _) (.cons (.sc _) (.cons (.sc _) (.nil)))))))))) rfl) (mc rfl (.box rfl (.cons (.sc _) (.cons (trS' rfl rfl rfl rfl rfl) (.cons (.sc _) (.cons (.sc _) (.cons (.sc _) (.cons (.sc _) (.cons (.sc _) (.cons (.sc _) (.cons (.sc _) (.cons (.sc _) (.cons (.sc _) (.cons (.sc _) (.nil))))))))))))) rfl) (mc rfl (btrA' rfl) (mc rfl (btrA' rfl) mn)))))) (fun s3 o3 hR hE3 => ?_) fun z4 hR => ?_
  · unfold spykeep4_samples.l1 at hR
    refine AWP.sq ?_
    refine AWP.rgC 9 rfl rfl ?_
    refine pu (v := .sc _) rfl rfl (fun _ => rfl) ?_
    refine RunC.fin ?_
    refine AWP.sq ?_
    refine AWP.cd hR rfl (fun h5 hR => ?_) fun h5 hR => ?_
    · refine AWP.skip ?_
      refine skT ?_
      refine AWP.sq ?_
      refine AWP.block ?_
      refine AWP.sq ?_
      refine AWP.rgC 29 rfl rfl ?_
      refine pu (v := .sc _) rfl rfl (fun _ => rfl) ?_
      refine pu (v := .ptr _ _ _) rfl rfl (fun _ => rfl) ?_
      obtain ⟨r6, hr6, hR⟩ := bindE hR
      refine cps (res' := .sc (.int .i64 r6.1)) (ups := [(0, boxB (α := spymake_Stream) false r6.2)]) [0] 17 rfl rfl rfl cb9 (ok9 s3.1 900 _ hr6) (.cons (ldP rfl rfl) (.cons (.sc _) (.nil))) (pc rfl (.box (.cons ldR' (.cons (.sc _) (.nil))) rfl) pn) rfl rfl rfl rfl rfl (by first | rfl | exact renR | exact renA | exact renS | simp only [V.ren, V.rens, renR, renA, renS] | (simp only [V.ren, V.rens, renR, renA, renS]; rfl)) (by simp only [passUps, renBox, renArr]; rfl) ?_
      refine pu (v := .sc _) rfl rfl (fun _ => rfl) ?_
      refine pu (v := .sc _) rfl rfl (fun _ => rfl) ?_
      refine RunC.fin ?_
      refine AWP.sq ?_
      refine AWP.rgC 69 rfl rfl ?_
      refine ldB (v := .agg _) rfl rfl rfl rfl ti62 rfl rfl ?_
      refine fa rfl rfl ti35 rfl rfl ti3 rfl ?_
      refine ldB (v := .sc _) rfl rfl rfl rfl ti3 rfl rfl ?_
      refine pu (v := .sc _) rfl rfl (fun _ => rfl) ?_
      obtain ⟨r7, hr7, hR⟩ := bindE hR
      refine cls [3] rfl rfl cb16 (ok16 (Sky.mk 0 ([x] : List Star) [] [] (Body.mk 0 (Vec.mk 0 0 0) (Vec.mk 0 0 0) 0)) x.ID (w6 (s3.2.2.1 + r6.1)) _ hr7) (.cons (.agg (.cons (.sc _) (.cons (ldS' rfl rfl rfl rfl) (.cons .nil (.cons .nil (.cons (.sc _) (.cons (.sc _) (.cons (.sc _) (.cons (.sc _) (.cons (.sc _) (.cons (.sc _) (.cons (.sc _) (.cons (.sc _) (.nil))))))))))))) rfl) (.cons (.sc _) (.cons (.sc _) (.nil)))) (.inl (by first | rfl | exact freshR | exact freshA | (simp only [V.fresh, V.freshs, freshR, freshA, Bool.and_self]))) rfl ?_
      refine pu (v := .tup _) rfl rfl (fun _ => rfl) ?_
      refine pu (v := .sc _) rfl rfl (fun _ => rfl) ?_
      refine pu (v := .sc _) rfl rfl (fun _ => rfl) ?_
      refine pu (v := .sc _) rfl rfl (fun _ => rfl) ?_
      refine pu (v := .sc _) rfl rfl (fun _ => rfl) ?_
      refine RunC.fin ?_
      refine AWP.sq ?_
      refine AWP.sq ?_
      refine AWP.rgC 77 rfl rfl ?_
      refine pu (v := .sc _) rfl rfl (fun _ => rfl) ?_
      refine pu (v := .sc _) rfl rfl (fun _ => rfl) ?_
      refine RunC.fin ?_
      refine AWP.cd hR rfl (fun h8 hR => ?_) fun h8 hR => ?_
      · refine AWP.sq ?_
        refine AWP.rgC 85 rfl rfl ?_
        refine pu (v := .sc _) rfl rfl (fun _ => rfl) ?_
        refine pu (v := .sc _) rfl rfl (fun _ => rfl) ?_
        refine RunC.fin ?_
        refine AWP.ret ?_
        refine rtT ?_
        refine rtB ?_
        refine rtT ?_
        refine rtT ?_
        refine rtB (rtT ?_)
        replace hR := escL hR hE3
        refine rtT ?_
        have hR := Option.some.inj hR; subst hR
        exact hQ _ _ (LS.mk [(6, rowV (α := curve_Sample) false []), (7, .sc (.bool false))] (lblks 0 [boxB (α := spymake_Stream) false r6.2]) 1) (.tup [rowV (α := curve_Sample) false [], .sc (.bool false)]) [] (.inr rfl) (Weak.turnL [(0, 0)] [] rfl rfl (tc trN (tc (.sc _) tn)) (mc rfl (.box rfl (.cons trR1 (.cons (.sc _) (.nil))) rfl) mn)) (ro2 (rvT (v := rowV (α := curve_Sample) false []) rfl) (rvT (v := .sc (.bool false)) rfl)) rfl rfl (.tup (.cons ldR' (.cons (.sc _) .nil))) (pc rfl bldB pn)
      · refine AWP.skip ?_
        refine skT ?_
        refine AWP.sq ?_
        refine AWP.rgC 101 rfl rfl ?_
        refine pu (v := .ptr _ _ _) rfl rfl (fun _ => rfl) ?_
        obtain ⟨r9, hr9, hR⟩ := bindE hR
        refine cps (res' := .sc (.int .i64 r9.1)) (ups := [(0, boxB (α := spymake_Stream) false r9.2)]) [0] 81 rfl rfl rfl cb9 (ok9 r6.2 2 _ hr9) (.cons (ldP rfl rfl) (.cons (.sc _) (.nil))) (pc rfl (.box (.cons ldR' (.cons (.sc _) (.nil))) rfl) pn) rfl rfl rfl rfl rfl (by first | rfl | exact renR | exact renA | exact renS | simp only [V.ren, V.rens, renR, renA, renS] | (simp only [V.ren, V.rens, renR, renA, renS]; rfl)) (by simp only [passUps, renBox, renArr]; rfl) ?_
        refine pu (v := .ptr _ _ _) rfl rfl (fun _ => rfl) ?_
        obtain ⟨r10, hr10, hR⟩ := bindE hR
        refine cps (res' := .sc (.int .i64 r10.1)) (ups := [(0, boxB (α := spymake_Stream) false r10.2)]) [0] 89 rfl rfl rfl cb9 (ok9 r9.2 40 _ hr10) (.cons (ldP rfl rfl) (.cons (.sc _) (.nil))) (pc rfl (.box (.cons ldR' (.cons (.sc _) (.nil))) rfl) pn) rfl rfl rfl rfl rfl (by first | rfl | exact renR | exact renA | exact renS | simp only [V.ren, V.rens, renR, renA, renS] | (simp only [V.ren, V.rens, renR, renA, renS]; rfl)) (by simp only [passUps, renBox, renArr]; rfl) ?_
        refine pu (v := .sc _) rfl rfl (fun _ => rfl) ?_
        refine pu (v := .sc _) rfl rfl (fun _ => rfl) ?_
        refine RunC.fin ?_
        refine AWP.sq ?_
        refine AWP.rgC 145 rfl rfl ?_
        refine pu (v := .sc _) rfl rfl (fun _ => rfl) ?_
        refine pu (v := .ptr _ _ _) rfl rfl (fun _ => rfl) ?_
        obtain ⟨r11, hr11, hR⟩ := bindE hR
        refine cps (res' := .sc (.int .i64 r11.1)) (ups := [(0, boxB (α := spymake_Stream) false r11.2)]) [0] 109 rfl rfl rfl cb9 (ok9 r10.2 30 _ hr11) (.cons (ldP rfl rfl) (.cons (.sc _) (.nil))) (pc rfl (.box (.cons ldR' (.cons (.sc _) (.nil))) rfl) pn) rfl rfl rfl rfl rfl (by first | rfl | exact renR | exact renA | exact renS | simp only [V.ren, V.rens, renR, renA, renS] | (simp only [V.ren, V.rens, renR, renA, renS]; rfl)) (by simp only [passUps, renBox, renArr]; rfl) ?_
        refine pu (v := .sc _) rfl rfl (fun _ => rfl) ?_
        refine pu (v := .sc _) rfl rfl (fun _ => rfl) ?_
        refine pu (v := .ptr _ _ _) rfl rfl (fun _ => rfl) ?_
        obtain ⟨r12, hr12, hR⟩ := bindE hR
        refine cps (res' := .sc (.int .i64 r12.1)) (ups := [(0, boxB (α := spymake_Stream) false r12.2)]) [0] 125 rfl rfl rfl cb9 (ok9 r11.2 30 _ hr12) (.cons (ldP rfl rfl) (.cons (.sc _) (.nil))) (pc rfl (.box (.cons ldR' (.cons (.sc _) (.nil))) rfl) pn) rfl rfl rfl rfl rfl (by first | rfl | exact renR | exact renA | exact renS | simp only [V.ren, V.rens, renR, renA, renS] | (simp only [V.ren, V.rens, renR, renA, renS]; rfl)) (by simp only [passUps, renBox, renArr]; rfl) ?_
        refine pu (v := .sc _) rfl rfl (fun _ => rfl) ?_
        refine bu (cs := [.sc (.int .i64 (w6 (r7.1 - r11.1))), .sc (.int .i64 (w6 (r7.1 + r12.1))), .sc (.bool false)]) rfl bt66 rfl ?_
        refine al (cs := [.sc (.int .i64 0), .sc (.int .i64 0), .sc (.bool false)]) 137 rfl rfl ti66 rfl rfl ?_
        refine stB (cs' := [.sc (.int .i64 (w6 (r7.1 - r11.1))), .sc (.int .i64 (w6 (r7.1 + r12.1))), .sc (.bool false)]) rfl rfl rfl rfl ti66 rfl rfl rfl rfl rfl ?_
        refine RunC.fin ?_
        refine AWP.sq ?_
        refine AWP.sq ?_
        refine AWP.rgC 157 rfl rfl ?_
        refine pu (v := .ptr _ _ _) rfl rfl (fun _ => rfl) ?_
        obtain ⟨r13, hr13, hR⟩ := bindE hR
        refine cps (res' := .sc (.int .i64 r13.1)) (ups := [(0, boxB (α := spymake_Stream) false r13.2)]) [0] 149 rfl rfl rfl cb9 (ok9 r12.2 12 _ hr13) (.cons (ldP rfl rfl) (.cons (.sc _) (.nil))) (pc rfl (.box (.cons ldR' (.cons (.sc _) (.nil))) rfl) pn) rfl rfl rfl rfl rfl (by first | rfl | exact renR | exact renA | exact renS | simp only [V.ren, V.rens, renR, renA, renS] | (simp only [V.ren, V.rens, renR, renA, renS]; rfl)) (by simp only [passUps, renBox, renArr]; rfl) ?_
        refine pu (v := .sc _) rfl rfl (fun _ => rfl) ?_
        refine RunC.fin ?_
        refine AWP.cd hR rfl (fun h14 hR => ?_) fun h14 hR => ?_
        · refine AWP.rgC 165 rfl rfl ?_
          refine bu (cs := [.sc (.int .i64 0), .sc (.int .i64 0), .sc (.bool true)]) rfl bt66 rfl ?_
          refine stB (cs' := [.sc (.int .i64 0), .sc (.int .i64 0), .sc (.bool true)]) rfl rfl rfl rfl ti66 rfl rfl rfl rfl rfl ?_
          refine RunC.fin ?_
          refine AWP.rgC 221 rfl rfl ?_
          refine pu (v := slV curve_Sample _ _ _ _) rfl rfl (fun _ => rfl) ?_
          refine pu (v := .sc _) rfl rfl (fun _ => rfl) ?_
          refine pu (v := .sc _) rfl rfl (fun _ => rfl) ?_
          refine pu (v := .sc _) rfl rfl (fun _ => rfl) ?_
          refine pu (v := .sc _) rfl rfl (fun _ => rfl) ?_
          refine pu (v := .sc _) rfl rfl (fun _ => rfl) ?_
          refine qu rfl rfl rfl (by decide) rfl ?_
          obtain ⟨v15, ev15, hR⟩ := letE hR
          refine pu (v := .sc _) rfl rfl (fun _ => puI ev15) ?_
          refine bu (cs := [.sc (.int .i64 (w6 ((w6 (s3.2.2.1 + r6.1)) - (w6 (r9.1 * r10.1))))), .sc (.int .i64 v15), .sc (.bool false)]) rfl bt68 rfl ?_
          refine ldB (v := .agg _) rfl rfl rfl rfl ti66 rfl rfl ?_
          refine bu (cs := [.sc (.int .i64 (w6 ((w6 (s3.2.2.1 + r6.1)) - (w6 (r9.1 * r10.1))))), .sc (.int .i64 v15), .sc (.bool false), .sc (.int .i64 0), .sc (.int .i64 0), .sc (.bool true)]) rfl bt70 rfl ?_
          refine bs (α := curve_Sample) 209 true ([curve_Sample.mk (Bound.mk (w6 ((w6 (s3.2.2.1 + r6.1)) - (w6 (r9.1 * r10.1)))) v15 false) (Bound.mk 0 0 true)] : List curve_Sample) rfl rfl ti26 rfl ti70 rfl rfl rfl rfl rfl ?_
          obtain ⟨h16, hR⟩ := chkE hR
          refine ap' (α := curve_Sample) (nw := true) (xs := s3.2.1) (ys := ([curve_Sample.mk (Bound.mk (w6 ((w6 (s3.2.2.1 + r6.1)) - (w6 (r9.1 * r10.1)))) v15 false) (Bound.mk 0 0 true)] : List curve_Sample)) rfl rfl rfl rfl (srcS' rfl rfl rfl) ti26 rfl ti70 rfl h16 rfl ?_
          refine pu (v := slV curve_Sample _ _ _ _) rfl rfl (fun _ => rfl) ?_
          refine RunC.blk ?_
          refine RunC.fin ?_
          refine AWP.rgC 229 rfl rfl ?_
          refine pu (v := .sc _) rfl rfl (fun _ => rfl) ?_
          refine pu (v := .sc _) rfl rfl (fun _ => rfl) ?_
          refine RunC.fin ?_
          refine ⟨(r13.2, s3.2.1 ++ ([curve_Sample.mk (Bound.mk (w6 ((w6 (s3.2.2.1 + r6.1)) - (w6 (r9.1 * r10.1)))) v15 false) (Bound.mk 0 0 true)] : List curve_Sample), w6 (s3.2.2.1 + r6.1), w6 (s3.2.2.2 + 1)), (Option.some.inj hR).symm, ?_⟩
          exact Weak.turnL [(0, 0), (1, 0), (2, 0), (3, 0), (4, 0)] [] rfl rfl (tc (trP' rfl rfl rfl rfl) (tc (trP' rfl rfl rfl rfl) (tc (trP' rfl rfl rfl rfl) (tc (trS' rfl rfl rfl rfl rfl) (tc (.sc _) (tc (.sc _) (tc (.sc _) tn))))))) (mc rfl (.box rfl (.cons trR1 (.cons (.sc _) (.nil))) rfl) (mc rfl (.box rfl (.cons (.sc _) (.cons (.sc _) (.cons (.sc _) (.cons (.sc _) (.cons (.sc _) (.cons trR1 (.cons (.sc _) (.cons (.sc _) (.cons (.sc _) (.nil)))))))))) rfl) (mc rfl (.box rfl (.cons (.sc _) (.cons (trS' rfl rfl rfl rfl rfl) (.cons (.sc _) (.cons (.sc _) (.cons (.sc _) (.cons (.sc _) (.cons (.sc _) (.cons (.sc _) (.cons (.sc _) (.cons (.sc _) (.cons (.sc _) (.cons (.sc _) (.nil))))))))))))) rfl) (mc rfl (btrA' rfl) (mc rfl (btrA' rfl) mn)))))
        · refine AWP.skip ?_
          refine skT ?_
          refine AWP.rgC 213 rfl rfl ?_
          refine pu (v := slV curve_Sample _ _ _ _) rfl rfl (fun _ => rfl) ?_
          refine pu (v := .sc _) rfl rfl (fun _ => rfl) ?_
          refine pu (v := .sc _) rfl rfl (fun _ => rfl) ?_
          refine pu (v := .sc _) rfl rfl (fun _ => rfl) ?_
          refine pu (v := .sc _) rfl rfl (fun _ => rfl) ?_
          refine pu (v := .sc _) rfl rfl (fun _ => rfl) ?_
          refine qu rfl rfl rfl (by decide) rfl ?_
          obtain ⟨v17, ev17, hR⟩ := letE hR
          refine pu (v := .sc _) rfl rfl (fun _ => puI ev17) ?_
          refine bu (cs := [.sc (.int .i64 (w6 ((w6 (s3.2.2.1 + r6.1)) - (w6 (r9.1 * r10.1))))), .sc (.int .i64 v17), .sc (.bool false)]) rfl bt68 rfl ?_
          refine ldB (v := .agg _) rfl rfl rfl rfl ti66 rfl rfl ?_
          refine bu (cs := [.sc (.int .i64 (w6 ((w6 (s3.2.2.1 + r6.1)) - (w6 (r9.1 * r10.1))))), .sc (.int .i64 v17), .sc (.bool false), .sc (.int .i64 (w6 (r7.1 - r11.1))), .sc (.int .i64 (w6 (r7.1 + r12.1))), .sc (.bool false)]) rfl bt70 rfl ?_
          refine bs (α := curve_Sample) 201 true ([curve_Sample.mk (Bound.mk (w6 ((w6 (s3.2.2.1 + r6.1)) - (w6 (r9.1 * r10.1)))) v17 false) (Bound.mk (w6 (r7.1 - r11.1)) (w6 (r7.1 + r12.1)) false)] : List curve_Sample) rfl rfl ti26 rfl ti70 rfl rfl rfl rfl rfl ?_
          obtain ⟨h18, hR⟩ := chkE hR
          refine ap' (α := curve_Sample) (nw := true) (xs := s3.2.1) (ys := ([curve_Sample.mk (Bound.mk (w6 ((w6 (s3.2.2.1 + r6.1)) - (w6 (r9.1 * r10.1)))) v17 false) (Bound.mk (w6 (r7.1 - r11.1)) (w6 (r7.1 + r12.1)) false)] : List curve_Sample)) rfl rfl rfl rfl (srcS' rfl rfl rfl) ti26 rfl ti70 rfl h18 rfl ?_
          refine pu (v := slV curve_Sample _ _ _ _) rfl rfl (fun _ => rfl) ?_
          refine RunC.blk ?_
          refine RunC.fin ?_
          refine AWP.rgC 221 rfl rfl ?_
          refine pu (v := .sc _) rfl rfl (fun _ => rfl) ?_
          refine pu (v := .sc _) rfl rfl (fun _ => rfl) ?_
          refine RunC.fin ?_
          refine ⟨(r13.2, s3.2.1 ++ ([curve_Sample.mk (Bound.mk (w6 ((w6 (s3.2.2.1 + r6.1)) - (w6 (r9.1 * r10.1)))) v17 false) (Bound.mk (w6 (r7.1 - r11.1)) (w6 (r7.1 + r12.1)) false)] : List curve_Sample), w6 (s3.2.2.1 + r6.1), w6 (s3.2.2.2 + 1)), (Option.some.inj hR).symm, ?_⟩
          exact Weak.turnL [(0, 0), (1, 0), (2, 0), (3, 0), (4, 0)] [] rfl rfl (tc (trP' rfl rfl rfl rfl) (tc (trP' rfl rfl rfl rfl) (tc (trP' rfl rfl rfl rfl) (tc (trS' rfl rfl rfl rfl rfl) (tc (.sc _) (tc (.sc _) (tc (.sc _) tn))))))) (mc rfl (.box rfl (.cons trR1 (.cons (.sc _) (.nil))) rfl) (mc rfl (.box rfl (.cons (.sc _) (.cons (.sc _) (.cons (.sc _) (.cons (.sc _) (.cons (.sc _) (.cons trR1 (.cons (.sc _) (.cons (.sc _) (.cons (.sc _) (.nil)))))))))) rfl) (mc rfl (.box rfl (.cons (.sc _) (.cons (trS' rfl rfl rfl rfl rfl) (.cons (.sc _) (.cons (.sc _) (.cons (.sc _) (.cons (.sc _) (.cons (.sc _) (.cons (.sc _) (.cons (.sc _) (.cons (.sc _) (.cons (.sc _) (.cons (.sc _) (.nil))))))))))))) rfl) (mc rfl (btrA' rfl) (mc rfl (btrA' rfl) mn)))))
    · refine AWP.exit ?_
      refine exT ?_
      refine exT ?_
      refine exH (skT ?_)
      refine ⟨(s3.1, s3.2.1), (Option.some.inj hR).symm, ?_⟩
      exact Weak.turnL [(0, 0), (4, 0)] [] rfl rfl (tc (trS' rfl rfl rfl rfl rfl) tn) (mc rfl (.box rfl (.cons trR1 (.cons (.sc _) (.nil))) rfl) (mc rfl (btrA' rfl) mn))
  · refine skT ?_
    refine AWP.sq ?_
    refine AWP.rgC 10 rfl rfl ?_
    refine pu (v := slV curve_Sample _ _ _ _) rfl rfl (fun _ => rfl) ?_
    obtain ⟨r19, hr19, hR⟩ := bindE hR
    obtain ⟨h20, hR⟩ := chkE hR
    refine cps (res' := .tup []) (ups := [(1, arrB (α := curve_Sample) 70 0 false r19)]) [1] 6 rfl rfl rfl cb17 (ok17 z4.2 _ hr19) (.cons (ldM rfl rfl) (.cons (.fn (.nil)) (.nil))) (pc rfl bldA pn) rfl rfl rfl rfl rfl (by first | rfl | exact renR | exact renA | exact renS | simp only [V.ren, V.rens, renR, renA, renS] | (simp only [V.ren, V.rens, renR, renA, renS]; rfl)) (by simp only [passUps, renBox, renArr]; rfl) ?_
    refine RunC.fin ?_
    refine AWP.sq ?_
    refine AWP.rgC 22 rfl rfl ?_
    refine pu (v := slV curve_Sample _ _ _ _) rfl rfl (fun _ => rfl) ?_
    refine pu (v := slV curve_Sample _ _ _ _) rfl rfl (fun _ => rfl) ?_
    refine pu (v := .sc _) rfl rfl (fun _ => rfl) ?_
    refine RunC.fin ?_
    refine AWP.ret ?_
    have hR := Option.some.inj hR; subst hR
    exact hQ _ _ (LS.mk [(6, rowV (α := curve_Sample) false r19), (7, .sc (.bool true))] (lblks 0 [boxB (α := spymake_Stream) false z4.1]) 1) (.tup [rowV (α := curve_Sample) false r19, .sc (.bool true)]) [] (.inr rfl) (Weak.turnL [(0, 0)] [1] rfl rfl (tc (trF' rfl rfl id h20) (tc (.sc _) tn)) (mc rfl (.box rfl (.cons trR1 (.cons (.sc _) (.nil))) rfl) mn)) (ro2 (rvT (v := rowV (α := curve_Sample) false r19) rfl) (rvT (v := .sc (.bool true)) rfl)) rfl rfl (.tup (.cons ldR' (.cons (.sc _) .nil))) (pc rfl bldB pn)
end Go.Proofs.Per
