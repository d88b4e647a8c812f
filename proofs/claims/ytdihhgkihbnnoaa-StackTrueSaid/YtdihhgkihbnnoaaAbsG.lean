/- Laws about heaps and calls that the walks use. Conditions: as each theorem states them. -/
import Derived.Test.YtdihhgkihbnnoaaAbsF
import Derived.IntWalk
namespace Go.Abs
set_option linter.unusedVariables false
set_option linter.unusedSimpArgs false
section
variable {P : Program} {C : Cx} {E : Env} {mem : Nat → Option Blk} {nx : Nat} {W : World}

theorem zrow_ok {E : Env} {z : Value} {zero : List Value} {size : Nat} (z2 : z.cells.toList = zero) (hzs : z.cells.size = size) (hz : zero.all Value.flat1 = true) (n : Nat) :
    RLs E ((List.replicate n (zero.map V.sc)).flatten) ((Array.range (n * size)).map (fun i => z.cells[i % z.cells.size]!)).toList ∧ ((List.replicate n (zero.map V.sc)).flatten).all V.leaf = true ∧ ((List.replicate n (zero.map V.sc)).flatten).length = n * size := by
  have hzl : zero.length = size := by rw [← z2]; simpa using hzs
  refine ⟨?_, ?_, ?_⟩
  · have : ((Array.range (n * size)).map (fun i => z.cells[i % z.cells.size]!)).toList = (List.replicate n zero).flatten := by
      rw [← z2, ← hzs]
      induction n with
      | zero => simp
      | succ n ih =>
        rw [List.replicate_succ', List.flatten_append, ← ih]
        simp only [Array.toList_map, Array.toList_range, Nat.succ_mul, List.range_add, List.map_append, List.map_map, List.flatten_cons, List.flatten_nil, List.append_nil, Nat.add_mul, Nat.one_mul]
        congr 1
        apply List.ext_getElem?
        intro i
        simp only [List.getElem?_map, Function.comp_def]
        by_cases hi : i < z.cells.size
        · rw [List.getElem?_range hi]
          simp only [Option.map_some, Nat.mul_add_mod_self_right, Nat.mod_eq_of_lt hi]
          simp [hi]
        · rw [List.getElem?_eq_none (by simp; omega), List.getElem?_eq_none (by simp; omega)]; rfl
    rw [this]
    have hm : (List.replicate n (zero.map V.sc)).flatten = ((List.replicate n zero).flatten).map V.sc := by
      rw [List.map_flatten, List.map_replicate]
    rw [hm]
    exact RLs.sc E _
  · rw [List.all_eq_true]
    intro x hx
    rw [List.mem_flatten] at hx
    obtain ⟨l, l1, l2⟩ := hx
    rw [(List.mem_replicate.1 l1).2] at l2
    exact List.all_eq_true.1 (sc_leaf_all hz) x l2
  · simp [List.length_flatten, hzl]

theorem roomy_spec {n b : Nat} (h : roomy n b = true) : n * b ≤ 140737488355328 ∧ n ≤ 140737488355328 := by simpa [roomy] using h

theorem makeSlice_ok (h : InvM C E mem nx W) {id : Nat} (hid : mem id = none) (hlt : id < nx) {t : TypeId} {l c : V} {cl cc : Value} (hl : RL E l cl) (hc : RL E c cc) {fx : Fx} (hfx : fxMakeSlice P t l c id = some fx) :
    Out C E mem nx fx ((Instr.makeSlice t cl cc).run P W) := by
  unfold fxMakeSlice at hfx
  split at hfx
  · rename_i te k1 l k2 c hk
    obtain ⟨ti, d, k1, k2, k3, k4⟩ := tk_und hk
    cases d <;> simp [tkOf] at k3
    subst k3
    simp only [RL] at hl hc
    subst hl; subst hc
    split at hfx
    · rename_i j hj
      split at hfx
      · rename_i hcc
        obtain ⟨c1, c2, c3, c4, c5, c6⟩ := hcc
        cases hfx
        obtain ⟨r1, r2⟩ := roomy_spec c4
        obtain ⟨z, z1, z2⟩ := run_zero (P := P) (W := W) hj
        obtain ⟨i, d, z', i1, i2, i3, i4, i5, i6, i7⟩ := ti_info hj
        have hzs : z.cells.size = j.size := by rw [← Array.length_toList, z2, c6]
        obtain ⟨q1, q2, q3⟩ := zrow_ok (E := E) z2 hzs (by simpa using c5) l.toNat
        obtain ⟨p1, p2, p3⟩ := zrow_ok (E := E) z2 hzs (by simpa using c5) c.toNat
        have hle : l.toNat * j.size ≤ c.toNat * j.size := Nat.mul_le_mul_right _ (by omega)
        obtain ⟨E', e1, e2, e3⟩ := h.newArr (arr := (Array.range (c.toNat * j.size)).map (fun i => z.cells[i % z.cells.size]!)) (te := te) (len := l.toNat) (cap := c.toNat) hid hlt c1 q3 (by simp) (by unfold maxLen; omega) (by omega)
          (by
            have : (((Array.range (c.toNat * j.size)).map (fun i => z.cells[i % z.cells.size]!)).toList).take (((List.replicate l.toNat (j.zero.map V.sc)).flatten).length) = ((Array.range (l.toNat * j.size)).map (fun i => z.cells[i % z.cells.size]!)).toList := by
              rw [q3]
              simp only [Array.toList_map, Array.toList_range]
              rw [← List.map_take, List.take_range, Nat.min_eq_left hle]
            rw [this]; exact q1) q2
        refine ⟨_, _, E', ?_, e1, e2, e3⟩
        have w1 : IntKind.i64.wrap l = l := IntWalk.i64_in _ (by omega)
        have w2 : IntKind.i64.wrap c = c := IntWalk.i64_in _ (by omega)
        have hb : (j.bytes : Int) * c ≤ 281474976710656 := by
          have e : ((c.toNat : Int)) = c := Int.toNat_of_nonneg (by omega)
          have this := Int.ofNat_le.2 r1
          rw [Int.natCast_mul, e, Int.mul_comm] at this
          omega
        have hcond : ¬ (c < 0 ∨ 281474976710656 < (i.bytes : Int) * c) := by rw [i5]; omega
        have n1 : ¬ (l < 0) := by omega
        have n2 : ¬ (l > c) := by omega
        have n3 : ¬ (c < 0) := by omega
        have n4 : ¬ (281474976710656 < (i.bytes : Int) * c) := by rw [i5]; omega
        by_cases h0 : c.toNat * j.size = 0
        · have hc0 : c.toNat = 0 := by
            rcases Nat.mul_eq_zero.1 h0 with h | h
            · exact h
            · omega
          have r0 : Array.range 0 = #[] := rfl
          simp [Instr.makeSlice, run_underlying k2, Result.andThen, asInt, asIntOf, run_typeInfo i1, w1, w2, n1, n2, n3, n4, run_sizeOf hj, h0, newRow, r0, hc0]
        · simp [Instr.makeSlice, run_underlying k2, Result.andThen, asInt, asIntOf, run_typeInfo i1, w1, w2, n1, n2, n3, n4, run_sizeOf hj, h0, newRow, z1]
      · cases hfx
    · cases hfx
  · cases hfx

theorem len_ok (h : InvM C E mem nx W) {ts : Array TypeId} {ty : TypeId} {x : V} {c : Value} (hx : RL E x c) {id : Nat} {fx : Fx} (hfx : evBuiltin P .len ts [x] mem id = some fx) : Out C E mem nx fx ((Builtin.len_ ts ty #[c]).run P W) := by
  unfold evBuiltin at hfx
  simp only [] at hfx
  split at hfx
  · rename_i t n ht hn
    have hslice : ∀ te, tkAt P t = some (.sli te) → P.underlying t = some (.slice te) := by
      intro te hk
      obtain ⟨ti, d, k1, k2, k3, k4⟩ := tk_und hk
      cases d <;> simp [tkOf] at k3
      subst k3; exact k2
    split at hfx
    · rename_i te hk
      cases hfx
      simp only [RL] at hx; subst hx
      simp [lenV] at hn; subst hn
      exact Out.sc h (by simp [Builtin.len_, ht, run_underlying (hslice _ hk), Result.andThen, goInt])
    · rename_i te b ver e off len hk
      cases hfx
      simp [lenV] at hn; subst hn
      simp only [RL] at hx
      obtain ⟨a, cap, rfl, _⟩ := hx
      exact Out.sc h (by simp [Builtin.len_, ht, run_underlying (hslice _ hk), Result.andThen, goInt])
    · rename_i te new e m cs hk
      cases hfx
      simp [lenV] at hn; subst hn
      simp only [RL] at hx
      obtain ⟨a, cap, rfl, _⟩ := hx
      exact Out.sc h (by simp [Builtin.len_, ht, run_underlying (hslice _ hk), Result.andThen, goInt])
    · rename_i s hk
      cases hfx
      simp only [RL] at hx; subst hx
      simp [lenV] at hn; subst hn
      have hs : P.underlying t = some .string := by
        obtain ⟨ti, d, k1, k2, k3, k4⟩ := tk_und hk
        cases d <;> simp [tkOf] at k3
        exact k2
      exact Out.sc h (by simp [Builtin.len_, ht, run_underlying hs, Result.andThen, goInt])
    · cases hfx
  · cases hfx

/-- What a source of elements is. -/
theorem src_ok (h : InvM C E mem nx W) {e : Nat} (he : 0 < e) {x : V} {c : Value} (hx : RL E x c) {n : Nat} {ys : List V} (hs : srcV mem e x = some (n, ys)) :
    ∃ a cap, c = .slice a n cap ∧ n ≤ cap ∧ ys.length = n * e ∧ ys.all V.leaf = true ∧ (n = 0 ∨ ∃ B o ds, a = some ⟨B, o, none⟩ ∧ RLs E ys ds ∧ CellsAt W B o ds) := by
  unfold srcV at hs
  split at hs
  · rename_i new e' n' cs
    split at hs
    · rename_i he'
      subst he'
      cases hs
      simp only [RL] at hx
      obtain ⟨a, cap, rfl, q1, q2, q3, q4⟩ := hx
      refine ⟨a, cap, rfl, q1, q2, q3, ?_⟩
      rcases q4 with q4 | ⟨B, o, rfl, q5, q6⟩
      · exact .inl q4
      · obtain ⟨ds, d1, d2⟩ := RF.list _ _ q6
        exact .inr ⟨B, o, ds, rfl, d1, fun j d hj => h.frz _ _ _ (d2 j d hj)⟩
    · cases hs
  · cases hs
    simp only [RL] at hx
    exact ⟨none, 0, hx, Nat.le_refl _, by simp, by simp, .inl rfl⟩
  · rename_i b ver e0 off len
    split at hs
    · rename_i te e' v cs hkk
      split at hs
      · rename_i hc
        obtain ⟨rfl, rfl, rfl, hfit⟩ := hc
        cases hs
        obtain ⟨I, g1, g2⟩ := h.blk b _ hkk
        obtain ⟨a1, a2, a3, a4, a5, a6, a7⟩ := g2
        simp only [RL] at hx
        obtain ⟨a, cap, rfl, x1, x2, x3, J, j1, j2⟩ := hx
        rw [g1] at j1; cases j1
        have hlen : ((cs.drop (off * e0)).take (n * e0)).length = n * e0 := by simp; omega
        refine ⟨a, cap, rfl, x1, hlen, all_take (all_drop a5 _) _, ?_⟩
        rcases j2 with j2 | ⟨j2, j3⟩
        · rw [a1] at j2; cases j2
        · obtain ⟨j4, j5⟩ := j3 a2.symm
          rcases j5 with ⟨j5, rfl⟩ | ⟨B, j5, rfl, j7⟩
          · rcases x3 with ⟨_, _, x3, _⟩ | ⟨B, x3⟩
            · exact .inl x3
            · cases x3
          · refine .inr ?_
            rcases a7 with ⟨a7, _⟩ | ⟨B', cur, b1, b2, b3, b4, b5, b6⟩
            · rw [a7] at j5; cases j5
            · rw [j5] at b1
              obtain rfl : B = B' := Option.some.inj b1
              refine ⟨B, off * e0, _, rfl, (b6.drop (off * e0)).take (n * e0), ?_⟩
              intro j d hj
              rw [List.getElem?_take] at hj
              split at hj
              · exact cellsAt_heap b2 (off * e0) cs.length j d hj
              · cases hj
      · cases hs
    · cases hs
  · cases hs

theorem cells_flat {E : Env} : ∀ {cs : List V} {ds : List Value}, RLs E cs ds → cs.all V.leaf = true → ∀ d ∈ ds, d.flat1 = true
  | [], ds, h, _, d, hd => by simp only [RLs] at h; subst h; cases hd
  | x :: xs, ds, h, hl, d, hd => by
    simp only [RLs] at h
    obtain ⟨d', ds', rfl, h1, h2⟩ := h
    simp only [List.all_cons, Bool.and_eq_true] at hl
    rcases List.mem_cons.1 hd with rfl | hd
    · exact RL.flat1 h1 hl.1
    · exact cells_flat h2 hl.2 d hd

theorem append_ok (h : InvM C E mem nx W) {id : Nat} (hid : mem id = none) (hlt : id < nx) {t ty : TypeId} {s x : V} {c d : Value} (hs : RL E s c) (hx : RL E x d)
    {fx : Fx} (hfx : evAppend P t s x mem id = some fx) : Out C E mem nx fx ((Builtin.append_ #[t, t] ty #[c, d]).run P W) := by
  unfold evAppend at hfx
  split at hfx
  · rename_i te ht
    obtain ⟨ti0, dd0, k1, k2, k3, k4⟩ := tk_und ht
    cases dd0 <;> simp [tkOf] at k3
    subst k3
    split at hfx
    · rename_i tie hte
      split at hfx
      · rename_i hc
        obtain ⟨c1, c2⟩ := hc
        split at hfx
        · rename_i n ys hsrc
          obtain ⟨a, capx, rfl, q1, q2, q3, q4⟩ := src_ok h c1 hx hsrc
          obtain ⟨i, dd, z, i1, i2, i3, i4, i5, i6, i7⟩ := ti_info hte
          have hzs : z.cells.size = tie.size := by rw [← Array.length_toList, i6, c2]
          -- the cells of the new elements, where there are some
          split at hfx
          · -- onto nil
            split at hfx
            · cases hfx
            · rename_i hn0
              split at hfx
              · rename_i hroom
                cases hfx
                obtain ⟨r1, r2⟩ := roomy_spec hroom
                simp only [RL] at hs
                subst hs
                rcases q4 with q4 | ⟨B, o, ds, rfl, d1, d2⟩
                · exact absurd q4 hn0
                have dl := RLs.length _ _ d1
                obtain ⟨v', W', a1, a2, a3, a4, a5⟩ := run_append_own_at (P := P) W W.heap.size t ty te i z tie.size tie.bytes k2 i1 i3 i4 i5 hzs c1 (.slice none 0 0) 0 [] (World.ownsRow_nil W _ te tie.size) ⟨B, o, none⟩ n capx ds
                  (by rw [dl, q2]) (fun j u hj => by rw [addr_add]; exact d2 j u hj) (fun u hu => by rw [← flat1_eq]; exact (cells_flat d1 q3) u hu) (by unfold maxLen; omega) (by simpa using r1) (Nat.le_refl _)
                simp only [Nat.zero_add, List.nil_append] at a2
                obtain ⟨b1, b2⟩ := a2
                rcases b2 with ⟨_, b2⟩ | ⟨g, cap, cur, rfl, g1, g2, g3, g4, g5, g6⟩
                · exact absurd b2 hn0
                have hs0 : ∀ J, E.σ id = some J → J.le ⟨false, some g, tie.size, cap, 0⟩ := fun J hJ => by
                  obtain ⟨k', hk'⟩ := h.dom id J hJ
                  rw [hid] at hk'; cases hk'
                have hcl : ys.length ≤ cur.size := by rw [q2, g5]; exact Nat.mul_le_mul_right _ g3
                have put := h.put (W' := W') id ⟨false, some g, tie.size, cap, 0⟩ (.arr te tie.size 0 ys) none hs0 rfl (fun B hB => by cases hB) a3
                  (fun B hB => by cases hB; exact .inl g1) ⟨rfl, rfl, rfl, c1, q3, ⟨n, q2⟩, .inr ⟨g, cur, rfl, g2, g5, g4, hcl, by
                    rw [q2, g6]; exact RLs.mono (Env.put_le hs0) _ _ d1⟩⟩
                rw [Nat.max_eq_left (by omega)] at put
                refine ⟨_, W', _, a1, Env.put_le hs0, put, ?_⟩
                simp only [RL]
                exact ⟨_, cap, rfl, g3, c1, .inr ⟨g, by simp⟩, ⟨false, some g, tie.size, cap, 0⟩, by simp [Env.put, upd], .inr ⟨Nat.le_refl _, fun _ => ⟨rfl, .inr ⟨g, rfl, by simp, by simp⟩⟩⟩⟩
              · cases hfx
          · rename_i b ver e0 len
            split at hfx
            · rename_i te' e v cs hkk
              split at hfx
              · rename_i hcc
                obtain ⟨rfl, rfl, rfl, rfl, hfull, hroom⟩ := hcc
                cases hfx
                obtain ⟨r1, r2⟩ := roomy_spec hroom
                obtain ⟨I, g1, g2⟩ := h.blk b _ hkk
                obtain ⟨a1, a2, a3, a4, a5, a6, a7⟩ := g2
                have hb := h.nx b _ hkk
                simp only [RL] at hs
                obtain ⟨sa, scap, rfl, s1, s2, s3, J, j1, j2⟩ := hs
                rw [g1] at j1; cases j1
                rcases j2 with j2 | ⟨j2, j3⟩
                · rw [a1] at j2; cases j2
                obtain ⟨j4, j50⟩ := j3 a2.symm
                -- nil, or at the head of its block
                have j5 : (I.blk = none ∧ sa = none ∧ len = 0 ∧ scap = 0) ∨ ∃ B, I.blk = some B ∧ sa = some ⟨B, 0, none⟩ ∧ scap = I.cap := by
                  rcases j50 with ⟨j5, rfl⟩ | ⟨B, j5, rfl, j7⟩
                  · rcases s3 with ⟨_, _, s4, s5⟩ | ⟨B, s3⟩
                    · exact .inl ⟨j5, rfl, s4, s5⟩
                    · cases s3
                  · exact .inr ⟨B, j5, by simp, by omega⟩
                clear j50 j3
                have hleaf : (cs ++ ys).all V.leaf = true := by simp only [List.all_append, a5, q3, Bool.and_self]
                have hlen : (cs ++ ys).length = (len + n) * tie.size := by rw [List.length_append, hfull, q2, Nat.add_mul]
                -- the row as it stands
                have own : ∃ ds, RLs E cs ds ∧ W.ownsRow 0 te' tie.size (.slice sa len scap) len ds ∧ Value.ownBlock (.slice sa len scap) = I.blk := by
                  rcases j5 with ⟨j5, rfl, rfl, rfl⟩ | ⟨B, j5, rfl, rfl⟩
                  · have : cs = [] := List.eq_nil_of_length_eq_zero (by rw [hfull]; simp)
                    subst this
                    exact ⟨[], by simp [RLs], World.ownsRow_nil W _ te' tie.size, by rw [j5]; rfl⟩
                  · rcases a7 with ⟨a7, _⟩ | ⟨B', cur, b1, b2, b3, b4, b5, b6⟩
                    · rw [a7] at j5; cases j5
                    · rw [j5] at b1
                      obtain rfl : B = B' := Option.some.inj b1
                      exact ⟨_, b6, ⟨by rw [RLs.length _ _ b6, hfull], .inr ⟨B, I.cap, cur, rfl, Nat.zero_le _, b2, s1, b4, b3, by rw [hfull]⟩⟩, by rw [j5]; rfl⟩
                obtain ⟨ds, o1, o2, o3⟩ := own
                by_cases hn0 : n = 0
                · -- nothing is added: the slice stays
                  subst hn0
                  have hy : ys = [] := List.eq_nil_of_length_eq_zero (by rw [q2]; simp)
                  subst hy
                  have hle' : I.le { I with ver := I.ver + 1 } := .inr (.inr ⟨a1, by simp⟩)
                  have hs0 : ∀ J, E.σ b = some J → J.le { I with ver := I.ver + 1 } := fun J hJ => by rw [g1] at hJ; cases hJ; exact hle'
                  have put := h.put (W' := W) b { I with ver := I.ver + 1 } (.arr te' tie.size (v + 1) (cs ++ [])) none hs0 a1 (fun B hB => by cases hB) ⟨rfl, rfl, rfl, Nat.le_refl _, fun _ _ _ => rfl⟩
                    (fun B hB => .inr ⟨I, g1, a1, hB⟩) ⟨a1, by simp [a2], a3, a4, by rw [List.append_nil]; exact a5, by rw [List.append_nil]; exact a6, by
                      rcases a7 with ⟨a7, a8⟩ | ⟨B', cur, b1, b2, b3, b4, b5, b6⟩
                      · exact .inl ⟨a7, by simp [a8]⟩
                      · exact .inr ⟨B', cur, b1, b2, b3, b4, by simpa using b5, by simpa using RLs.mono (Env.put_le hs0) _ _ b6⟩⟩
                  rw [Nat.max_eq_left (by omega)] at put
                  refine ⟨.slice sa len scap, W, _, ?_, Env.put_le hs0, put, ?_⟩
                  · have hfc : ∀ (w : World), (Builtin.firstCells i.size 0 (.slice a 0 capx)).run P w = .ok #[] w := by
                      intro w; cases a <;> simp [Builtin.firstCells, loadCells, loadCellsFrom]
                    cases sa <;> simp [Builtin.append_, run_underlying k2, Result.andThen, sizeOf, run_typeInfo i1, Builtin.lenOf, s1, hfc, storeCells]
                  · show RL _ (.sl b (v + 1) tie.size 0 (len + 0)) _
                    simp only [RL]
                    refine ⟨sa, scap, rfl, s1, c1, by simpa using s3, { I with ver := I.ver + 1 }, by simp [Env.put, upd], .inr ⟨by simp [a2], fun _ => ⟨a3, ?_⟩⟩⟩
                    rcases j5 with ⟨j5, rfl, _, _⟩ | ⟨B, j5, rfl, rfl⟩
                    · exact .inl ⟨j5, rfl⟩
                    · exact .inr ⟨B, j5, by simp, by simp⟩
                · rcases q4 with q4 | ⟨B, o, es, rfl, d1, d2⟩
                  · exact absurd q4 hn0
                  have dl := RLs.length _ _ d1
                  obtain ⟨v', W', x1, x2, x3, x4, x5⟩ := run_append_own_at (P := P) W 0 t ty te' i z tie.size tie.bytes k2 i1 i3 i4 i5 hzs c1 (.slice sa len scap) len ds o2 ⟨B, o, none⟩ n capx es
                    (by rw [dl, q2]) (fun j u hj => by rw [addr_add]; exact d2 j u hj) (fun u hu => by rw [← flat1_eq]; exact (cells_flat d1 q3) u hu) (by unfold maxLen; omega) r1 (Nat.zero_le _)
                  obtain ⟨b1, b2⟩ := x2
                  rcases b2 with ⟨_, b2⟩ | ⟨g, cap, cur, rfl, e1, e2, e3, e4, e5, e6⟩
                  · omega
                  have hle' : I.le ⟨false, some g, tie.size, cap, I.ver + 1⟩ := .inr (.inr ⟨a1, by simp⟩)
                  have hs0 : ∀ J, E.σ b = some J → J.le ⟨false, some g, tie.size, cap, I.ver + 1⟩ := fun J hJ => by rw [g1] at hJ; cases hJ; exact hle'
                  have hcl : (cs ++ ys).length ≤ cur.size := by rw [hlen, e5]; exact Nat.mul_le_mul_right _ e3
                  have put := h.put (W' := W') b ⟨false, some g, tie.size, cap, I.ver + 1⟩ (.arr te' tie.size (v + 1) (cs ++ ys)) (Value.ownBlock (.slice sa len scap)) hs0 rfl (fun B hB => ⟨I, g1, a1, by rw [← o3]; exact hB⟩) x3
                    (fun B hB => by
                      cases hB
                      rcases x5 with x5 | x5
                      · exact .inr ⟨I, g1, a1, by rw [← o3, ← x5]; rfl⟩
                      · cases x5; exact .inl (Nat.le_refl _))
                    ⟨rfl, by simp [a2], rfl, c1, hleaf, ⟨len + n, hlen⟩, .inr ⟨g, cur, rfl, e2, e5, e4, hcl, by
                      rw [hlen, e6]; exact RLs.mono (Env.put_le hs0) _ _ (RLs.append o1 d1)⟩⟩
                  rw [Nat.max_eq_left (by omega)] at put
                  refine ⟨_, W', _, x1, Env.put_le hs0, put, ?_⟩
                  simp only [RL]
                  exact ⟨_, cap, rfl, e3, c1, .inr ⟨g, by simp⟩, ⟨false, some g, tie.size, cap, I.ver + 1⟩, by simp [Env.put, upd], .inr ⟨by simp [a2], fun _ => ⟨rfl, .inr ⟨g, rfl, by simp, by simp⟩⟩⟩⟩
              · cases hfx
            · cases hfx
          · cases hfx
        · cases hfx
      · cases hfx
    · cases hfx
  · cases hfx
theorem bd_run {v : Option V} {c : Option Value} {d l m : Nat} (hv : ∀ x, v = some x → ∃ k, c = some k ∧ RL E x k) (hn : v = none → c = none) (hl : bdV d v = some l) (hm : l ≤ m) (code : BoundsCode) :
    (match c with | some x => Instr.sliceBound x m code | none => (pure d : Sem Nat)).run P W = .ok l W := by
  unfold bdV at hl
  split at hl
  · cases hl; rw [hn rfl]; simp
  · rename_i k n
    obtain ⟨k', rfl, hk⟩ := hv _ rfl
    simp only [RL] at hk
    subst hk
    split at hl
    · cases hl
      rename_i h0
      simp only []
      unfold Instr.sliceBound
      simp [asIntOf, Result.andThen, h0]
      omega
    · cases hl
  · cases hl
theorem bounds_run {lo hi : Option V} {cl ch : Option Value} {len cap l u : Nat} (hlo : ∀ x, lo = some x → ∃ k, cl = some k ∧ RL E x k) (hlo' : lo = none → cl = none) (hhi : ∀ x, hi = some x → ∃ k, ch = some k ∧ RL E x k) (hhi' : hi = none → ch = none)
    (hl : bdV 0 lo = some l) (hu : bdV len hi = some u) (h1 : l ≤ u) (h2 : u ≤ cap) : (Instr.sliceBounds true len cap cl ch none).run P W = .ok (l, u, cap) W := by
  unfold Instr.sliceBounds
  have r1 := bd_run (P := P) (W := W) hhi hhi' hu h2 .sliceAcap
  have r2 := bd_run (P := P) (W := W) hlo hlo' hl h1 .sliceB
  cases ch <;> cases cl <;> simp_all [Result.andThen]
theorem slice_ok (h : InvM C E mem nx W) {t : TypeId} {x : V} {lo hi : Option V} {c : Value} {cl ch : Option Value} (hx : RL E x c) (hlo : ∀ x, lo = some x → ∃ k, cl = some k ∧ RL E x k) (hlo' : lo = none → cl = none) (hhi : ∀ x, hi = some x → ∃ k, ch = some k ∧ RL E x k) (hhi' : hi = none → ch = none)
    {fx : Fx} (hfx : fxSlice P t x lo hi = some fx) : Out C E mem nx fx ((Instr.sliceAt t c cl ch none).run P W) := by
  unfold fxSlice at hfx
  split at hfx
  · rename_i te hk
    obtain ⟨ti, d, k1, k2, k3, k4⟩ := tk_und hk
    cases d <;> simp [tkOf] at k3
    subst k3
    split at hfx
    · rename_i j hj
      split at hfx
      · rename_i new e n cs
        split at hfx
        · rename_i l u hl hu
          split at hfx
          · rename_i hc
            obtain ⟨rfl, c1, c2⟩ := hc
            cases hfx
            simp only [RL] at hx
            obtain ⟨a, cap, rfl, q1, q2, q3, q4⟩ := hx
            have hb := bounds_run (P := P) (W := W) (cap := cap) hlo hlo' hhi hhi' hl hu c1 (by omega)
            refine Out.same h (c := .slice (if cap = l then a else a.map (·.add (l * j.size))) (u - l) (cap - l)) ?_ ?_
            · simp [Instr.sliceAt, Instr.slice, run_underlying k2, Result.andThen, hb, run_sizeOf hj]
            · simp only [RL]
              refine ⟨_, _, rfl, by omega, ?_, all_take (all_drop q3 _) _, ?_⟩
              · rw [List.length_take, List.length_drop, q2, ← Nat.sub_mul]
                exact Nat.min_eq_left (Nat.mul_le_mul_right _ (by omega))
              · by_cases hz : u - l = 0
                · exact .inl hz
                · right
                  rcases q4 with q4 | ⟨B, o, rfl, q5, q6⟩
                  · omega
                  · refine ⟨B, o + l * j.size, ?_, q5, (q6.drop _).take _⟩
                    rw [if_neg (by omega)]
                    simp [addr_add]
          · cases hfx
        · cases hfx
      · rename_i b ver e off len
        split at hfx
        · rename_i l u hl hu
          simp only [RL] at hx
          obtain ⟨a, cap, rfl, q1, q2, q3, I, q4, q5⟩ := hx
          split at hfx
          · rename_i hc
            obtain ⟨rfl, c1, c2⟩ := hc
            cases hfx
            have hb := bounds_run (P := P) (W := W) (cap := cap) hlo hlo' hhi hhi' hl hu (by omega) (by omega)
            refine Out.same h (c := .slice (if cap = l then a else a.map (·.add (l * j.size))) (u - l) (cap - l)) ?_ ?_
            · simp [Instr.sliceAt, Instr.slice, run_underlying k2, Result.andThen, hb, run_sizeOf hj]
            · rcases q3 with ⟨_, _, q3, _⟩ | ⟨B, rfl⟩
              · omega
              · rw [if_neg (by omega)]
                simp only [RL]
                refine ⟨_, _, rfl, by omega, q2, .inr ⟨B, by simp [addr_add, Nat.add_mul]⟩, I, q4, ?_⟩
                rcases q5 with q5 | ⟨q5, q6⟩
                · exact .inl q5
                · refine .inr ⟨q5, fun e => ?_⟩
                  obtain ⟨q7, q8⟩ := q6 e
                  refine ⟨q7, ?_⟩
                  rcases q8 with ⟨_, q8⟩ | ⟨B', q8, q9, q10⟩
                  · cases q8
                  · cases q9
                    exact .inr ⟨B, q8, by simp [addr_add, Nat.add_mul], by omega⟩
          · split at hfx
            · rename_i hc
              obtain ⟨rfl, c1, c2⟩ := hc
              cases hfx
              have hb := bounds_run (P := P) (W := W) (cap := cap) hlo hlo' hhi hhi' hl hu (by omega) (by omega)
              refine Out.same h (c := .slice (if cap = l then a else a.map (·.add (l * j.size))) (u - l) (cap - l)) ?_ ?_
              · simp [Instr.sliceAt, Instr.slice, run_underlying k2, Result.andThen, hb, run_sizeOf hj]
              · simp only [RL]
                exact ⟨_, _, by rw [show u - l = 0 by omega], by omega, by simp, by simp, by simp⟩
            · cases hfx
        · cases hfx
      · cases hfx
    · cases hfx
  · cases hfx
end
end Go.Abs
