/- Laws about heaps and calls that the walks use. Conditions: as each theorem states them. -/
import Derived.Test.YtdihhgkihbnnoaaAbsD
namespace Go.Abs
set_option linter.unusedVariables false
set_option linter.unusedSimpArgs false
section
variable {P : Program} {C : Cx} {E : Env} {mem : Nat → Option Blk} {nx : Nat} {W : World}

theorem sc_leaf_all {zs : List Value} (h : zs.all Value.flat1 = true) : (zs.map V.sc).all V.leaf = true := by
  simpa [List.all_map, Function.comp_def, V.leaf] using h
theorem RLs.sc (E : Env) : ∀ (zs : List Value), RLs E (zs.map V.sc) zs
  | [] => by simp [RLs]
  | z :: zs => by simp only [List.map_cons, RLs]; exact ⟨z, zs, rfl, by simp [RL], RLs.sc E zs⟩

theorem alloc_ok (h : InvM C E mem nx W) {id : Nat} (hid : mem id = none) (hlt : id < nx) {t : TypeId} {fx : Fx} (hfx : fxAlloc P t id = some fx) (old : Value) : Out C E mem nx fx ((Instr.alloc t true old).run P W) := by
  unfold fxAlloc at hfx
  split at hfx
  · rename_i ti hti
    split at hfx
    · rename_i hz
      cases hfx
      obtain ⟨z, z1, z2⟩ := run_zero (P := P) (W := W) hti
      obtain ⟨E', e1, e2, e3⟩ := h.newBox (arr := z.cells) hid hlt t (by rw [z2]; exact RLs.sc E _) (sc_leaf_all hz)
      exact ⟨_, _, E', by simp [Instr.alloc, z1, Result.andThen, newVar, newRow], e1, e2, e3⟩
    · cases hfx
  · cases hfx
theorem box_ok (h : InvM C E mem nx W) {id : Nat} (hid : mem id = none) (hlt : id < nx) (t : TypeId) {x : V} {c : Value} (hx : RL E x c) {fx : Fx} (hfx : fxBox x id = some fx) : Out C E mem nx fx ((Instr.box t c).run P W) := by
  unfold fxBox at hfx
  split at hfx
  · rename_i cs hcs
    cases hfx
    obtain ⟨x1, x2, x3⟩ := cells_of hx hcs
    obtain ⟨E', e1, e2, e3⟩ := h.newBox (arr := c.cells) hid hlt t x1 x2
    exact ⟨_, _, E', by simp [Instr.box, Result.andThen, newVar, newRow], e1, e2, e3⟩
  · cases hfx
theorem pick_ok (h : InvM C E mem nx W) {c a b : V} {c' a' b' : Value} (hc : RL E c c') (ha : RL E a a') (hb : RL E b b') {fx : Fx} (hfx : fxPick c a b = some fx) :
    ∃ t, c' = .bool t ∧ Out C E mem nx fx (.ok (if t then a' else b') W) := by
  unfold fxPick at hfx
  split at hfx
  · rename_i t
    cases hfx
    simp only [RL] at hc
    refine ⟨t, hc, Out.same h rfl ?_⟩
    cases t
    · exact hb
    · exact ha
  · cases hfx

/-- The places of a struct's fields, or of an array's elements. -/
theorem fill_ok {E : Env} {place : Nat → Option (Nat × Nat)} {cplace : Nat → Option (Nat × Nat)} (hp : ∀ i x, place i = some x → cplace i = some x) : ∀ (parts : List (Nat × V)) (cparts : List (Nat × Value)) (cells : List V) (arr : Array Value) (out : List V),
    RLs E cells arr.toList → cells.all V.leaf = true → cparts.length = parts.length → (∀ (k : Nat) i v, parts[k]? = some (i, v) → ∃ d, cparts[k]? = some (i, d) ∧ RL E v d) → fillV place cells parts = some out →
    ∃ arr', Instr.fill cplace arr cparts = some arr' ∧ RLs E out arr'.toList ∧ out.all V.leaf = true ∧ out.length = cells.length
  | [], cparts, cells, arr, out, h1, h2, hl, h3, hf => by
    have : cparts = [] := List.eq_nil_of_length_eq_zero (by simpa using hl)
    subst this
    simp [fillV] at hf; subst hf
    exact ⟨arr, rfl, h1, h2, rfl⟩
  | (i, v) :: rest, cparts, cells, arr, out, h1, h2, hl, h3, hf => by
    cases cparts with
    | nil => simp at hl
    | cons cp crest =>
      obtain ⟨d, g1, g2⟩ := h3 0 i v (by simp)
      simp at g1; subst g1
      unfold fillV at hf
      split at hf
      · rename_i off size ds q1 q2
        split at hf
        · rename_i hc
          obtain ⟨c1, c2⟩ := hc
          obtain ⟨x1, x2, x3⟩ := cells_of g2 q2
          have hlen := RLs.length _ _ x1
          have hlen1 := RLs.length _ _ h1
          have hds : d.cells.size = ds.length := by rw [← Array.length_toList, hlen]
          have hfold : ∀ (l : List Value) (a : Array Value) (k : Nat), off + k + l.length ≤ a.size → (l.zipIdx k).foldl (fun cs (p : Value × Nat) => cs.setIfInBounds (off + p.2) p.1) a = (a.toList.take (off + k) ++ l ++ a.toList.drop (off + k + l.length)).toArray := by
            intro l
            induction l with
            | nil => intro a k hk; simp
            | cons x xs ih =>
              intro a k hk
              simp only [List.zipIdx_cons, List.foldl_cons]
              simp at hk
              rw [ih _ _ (by simp; omega)]
              congr 1
              apply List.ext_getElem?
              intro j
              simp only [Array.toList_setIfInBounds, List.length_append, List.getElem?_append, List.getElem?_take, List.getElem?_drop, List.length_take, List.length_set, Array.length_toList, List.getElem?_set, List.length_cons, List.getElem?_cons]
              repeat' split
              all_goals first | rfl | omega | (congr 1; omega) | skip
              all_goals (exfalso; omega)
          have hsp : (d.cells.zipIdx.foldl (fun cs (c, j) => cs.setIfInBounds (off + j) c) arr) = (arr.toList.take off ++ d.cells.toList ++ arr.toList.drop (off + d.cells.toList.length)).toArray := by
            have := hfold d.cells.toList arr 0 (by simp at hlen1 ⊢; omega)
            simp only [Nat.add_zero] at this
            rw [← this, ← Array.foldl_toList]
            simp
          obtain ⟨arr', r1, r2, r3, r4⟩ := fill_ok hp rest crest _ (arr.toList.take off ++ d.cells.toList ++ arr.toList.drop (off + d.cells.toList.length)).toArray out (by simpa using RLs.splice h1 x1 off) (splice_leaf h2 x2) (by simpa using hl)
            (fun k i v hk => by simpa using h3 (k + 1) i v (by simpa using hk)) hf
          refine ⟨arr', ?_, r2, r3, by rw [r4, splice_length c2]⟩
          unfold Instr.fill
          rw [hp i _ q1]
          simp only []
          rw [if_neg (by simp at hlen1; simp; omega), hsp]
          exact r1
        · cases hf
      · cases hf

theorem getElem?_fields (fs : Array Field) (i : Nat) : (fs.toList.map fun f => (f.offset, f.type))[i]? = (fs[i]?).map fun f => (f.offset, f.type) := by simp

theorem parts_ok {a : Act} {ev : Operand → V} (hev : ∀ x, RL E (ev x) (a.eval x)) (parts : Array (Nat × Operand)) :
    ((parts.map fun (i, x) => (i, a.eval x)).toList.length = (parts.toList.map fun p => (p.1, ev p.2)).length) ∧
    ∀ (k : Nat) i v, (parts.toList.map fun p => (p.1, ev p.2))[k]? = some (i, v) → ∃ d, (parts.map fun (i, x) => (i, a.eval x)).toList[k]? = some (i, d) ∧ RL E v d := by
  refine ⟨by simp, fun k i v hk => ?_⟩
  simp at hk
  obtain ⟨j, x, h1, rfl, rfl⟩ := hk
  exact ⟨a.eval x, by simp [h1], hev x⟩

theorem run_places' : ∀ (fs : List Field), (fs.map fun f => (f.offset, f.type)).all (fun (f : Nat × TypeId) => (tiOf P f.2).isSome) = true →
    ∃ places, (fs.mapM fun f => (do pure (f.offset, ← sizeOf f.type) : Sem (Nat × Nat))).run P W = .ok places W ∧
      ∀ (i : Nat), (places : List (Nat × Nat))[i]? = ((fs.map fun f => (f.offset, f.type))[i]?).bind fun (f : Nat × TypeId) => (tiOf P f.2).map fun j => (f.1, j.size)
  | [], _ => ⟨[], by simp, by simp⟩
  | f :: fs, h => by
    simp only [List.map_cons, List.all_cons, Bool.and_eq_true] at h
    obtain ⟨h1, h2⟩ := h
    obtain ⟨places, p1, p2⟩ := run_places' fs h2
    cases hti : tiOf P f.type with
    | none => rw [hti] at h1; cases h1
    | some ti =>
      refine ⟨(f.offset, ti.size) :: places, ?_, fun i => ?_⟩
      · simp only [List.mapM_cons, Sem.run_bind, run_sizeOf hti, Result.andThen, Sem.run_pure, p1]
      · cases i with
        | zero => simp [hti]
        | succ i => simpa using p2 i

theorem build_ok (h : InvM C E mem nx W) {t : TypeId} {parts : List (Nat × V)} {cparts : Array (Nat × Value)} (hl : cparts.toList.length = parts.length) (hp : ∀ (k : Nat) i v, parts[k]? = some (i, v) → ∃ d, cparts.toList[k]? = some (i, d) ∧ RL E v d)
    {fx : Fx} (hfx : fxBuild P t parts = some fx) : Out C E mem nx fx ((Instr.build t cparts).run P W) := by
  unfold fxBuild at hfx
  split at hfx
  · rename_i ti hti
    split at hfx
    · rename_i hz
      obtain ⟨z, z1, z2⟩ := run_zero (P := P) (W := W) hti
      obtain ⟨i, d, z', i1, i2, i3, i4, i5, i6, i7⟩ := ti_info hti
      have hcells : RLs E (ti.zero.map V.sc) z.cells.toList := by rw [z2]; exact RLs.sc E _
      split at hfx
      · rename_i fs hk
        rw [i7] at hk
        cases d <;> simp [tkOf] at hk
        rename_i fields
        split at hfx
        · rename_i hall
          cases hf : fillV (fun i => (fs[i]?).bind fun f => (tiOf P f.2).map fun j => (f.1, j.size)) (ti.zero.map V.sc) parts with
          | none => rw [hf] at hfx; cases hfx
          | some cs =>
            rw [hf] at hfx; cases hfx
            subst hk
            obtain ⟨places, p1, p2⟩ := run_places' (P := P) (W := W) fields.toList hall
            obtain ⟨arr, a1, a2, a3, a4⟩ := fill_ok (E := E) (cplace := fun i => places.toArray[i]?) (fun i x hx => by simp only [List.getElem?_toArray]; rw [p2 i]; exact hx) parts cparts.toList _ z.cells cs hcells (sc_leaf_all hz) hl hp hf
            refine Out.same h (c := .agg arr) ?_ (by simp only [RL]; exact ⟨arr.toList, by simp, a2, a3⟩)
            simp only [Instr.build, Sem.run_bind, z1, Result.andThen, run_underlying i2, Array.mapM_eq_mapM_toList, Sem.run_map, p1, a1, Sem.run_pure]
        · cases hfx
      · rename_i n e hk
        rw [i7] at hk
        cases d <;> simp [tkOf] at hk
        obtain ⟨rfl, rfl⟩ := hk
        split at hfx
        · rename_i j hj
          cases hf : fillV (fun i => some (i * j.size, j.size)) (ti.zero.map V.sc) parts with
          | none => rw [hf] at hfx; cases hfx
          | some cs =>
            rw [hf] at hfx; cases hfx
            obtain ⟨arr, a1, a2, a3, a4⟩ := fill_ok (E := E) (cplace := fun i => some (i * j.size, j.size)) (fun i x hx => hx) parts cparts.toList _ z.cells cs hcells (sc_leaf_all hz) hl hp hf
            refine Out.same h (c := .agg arr) ?_ (by simp only [RL]; exact ⟨arr.toList, by simp, a2, a3⟩)
            simp only [Instr.build, Sem.run_bind, z1, Result.andThen, run_underlying i2, run_sizeOf hj, a1, Sem.run_pure]
        · cases hfx
      · cases hfx
    · cases hfx
  · cases hfx

theorem buildSlice_ok (h : InvM C E mem nx W) {id : Nat} (hid : mem id = none) (hlt : id < nx) {t : TypeId} {len : Nat} {parts : List (Nat × V)} {cparts : Array (Nat × Value)} (hl : cparts.toList.length = parts.length) (hp : ∀ (k : Nat) i v, parts[k]? = some (i, v) → ∃ d, cparts.toList[k]? = some (i, d) ∧ RL E v d)
    {fx : Fx} (hfx : fxBuildSlice P t len parts id = some fx) : Out C E mem nx fx ((Instr.buildSlice t len cparts).run P W) := by
  unfold fxBuildSlice at hfx
  split at hfx
  · rename_i te hk
    obtain ⟨ti, d, k1, k2, k3, k4⟩ := tk_und hk
    cases d <;> simp [tkOf] at k3
    subst k3
    split at hfx
    · rename_i j hj
      split at hfx
      · rename_i hc
        obtain ⟨c1, c2, c3, c4⟩ := hc
        cases hf : fillV (fun i => some (i * j.size, j.size)) ((List.replicate len (j.zero.map V.sc)).flatten) parts with
        | none => rw [hf] at hfx; cases hfx
        | some cs =>
          rw [hf] at hfx; cases hfx
          obtain ⟨z, z1, z2⟩ := run_zero (P := P) (W := W) hj
          have hzs : z.cells.size = j.size := by rw [← Array.length_toList, z2, c4]
          have hrow : ∀ n, RLs E ((List.replicate n (j.zero.map V.sc)).flatten) ((Array.range (n * j.size)).map (fun i => z.cells[i % z.cells.size]!)).toList := by
            intro n
            have : ((Array.range (n * j.size)).map (fun i => z.cells[i % z.cells.size]!)).toList = (List.replicate n j.zero).flatten := by
              rw [← z2, ← hzs]
              induction n with
              | zero => simp
              | succ n ih =>
                rw [List.replicate_succ', List.flatten_append, ← ih]
                simp only [Array.toList_map, Array.toList_range, Nat.succ_mul, List.range_add, List.map_append, List.map_map, List.flatten_cons, List.flatten_nil, List.append_nil, Nat.add_mul, Nat.one_mul]
                congr 1
                apply List.ext_getElem?
                intro i
                simp only [List.getElem?_map, Function.comp_def]
                by_cases hi : i < z.cells.size
                · rw [List.getElem?_range hi]
                  simp only [Option.map_some, Nat.mul_add_mod_self_right, Nat.mod_eq_of_lt hi]
                  simp [hi]
                · rw [List.getElem?_eq_none (by simp; omega), List.getElem?_eq_none (by simp; omega)]; rfl
            rw [this]
            have hm : (List.replicate n (j.zero.map V.sc)).flatten = ((List.replicate n j.zero).flatten).map V.sc := by
              rw [List.map_flatten, List.map_replicate]
            rw [hm]
            exact RLs.sc E _
          have hleaf : ((List.replicate len (j.zero.map V.sc)).flatten).all V.leaf = true := by
            rw [List.all_eq_true]
            intro x hx
            rw [List.mem_flatten] at hx
            obtain ⟨l, l1, l2⟩ := hx
            rw [(List.mem_replicate.1 l1).2] at l2
            exact List.all_eq_true.1 (sc_leaf_all (by simpa using c3)) x l2
          obtain ⟨arr, a1, a2, a3, a4⟩ := fill_ok (E := E) (cplace := fun i => some (i * j.size, j.size)) (fun i x hx => hx) parts cparts.toList _ _ cs (hrow len) hleaf hl hp hf
          have hcl : cs.length = len * j.size := by rw [a4]; simp [List.length_flatten, c4]
          have har : arr.size = len * j.size := by rw [← Array.length_toList, RLs.length _ _ a2, hcl]
          obtain ⟨E', e1, e2, e3⟩ := h.newArr (arr := arr) (te := te) (len := len) (cap := len) hid hlt c1 hcl har (by unfold maxLen; have := Nat.le_mul_of_pos_right len c1; omega) (Nat.le_refl _) (by rw [List.take_of_length_le (by simp; omega)]; exact a2) a3
          refine ⟨_, _, E', ?_, e1, e2, e3⟩
          have hn : ¬ (len * j.size > 2 ^ 24) := by omega
          by_cases h0 : len * j.size = 0
          · rw [h0] at a1
            have r0 : Array.range 0 = #[] := rfl
            simp only [r0, Array.map_empty] at a1
            simp [Instr.buildSlice, run_underlying k2, Result.andThen, run_sizeOf hj, h0, newRow, a1, r0]
          · simp [Instr.buildSlice, run_underlying k2, Result.andThen, run_sizeOf hj, hn, h0, z1, a1, newRow]
      · cases hfx
    · cases hfx
  · cases hfx
end
end Go.Abs
