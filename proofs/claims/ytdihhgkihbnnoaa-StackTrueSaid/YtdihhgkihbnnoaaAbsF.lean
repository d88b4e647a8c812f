/- Laws about heaps and calls that the walks use. Conditions: as each theorem states them. -/
import Derived.Test.YtdihhgkihbnnoaaAbsE
namespace Go.Abs
set_option linter.unusedVariables false
set_option linter.unusedSimpArgs false
section
variable {P : Program} {C : Cx} {E : Env} {mem : Nat → Option Blk} {nx : Nat} {W : World}

theorem Out.sc {u : Value} {r : Result Value} (h : InvM C E mem nx W) (hr : r = .ok u W) : Out C E mem nx ⟨.sc u, none⟩ r := Out.same h hr (by simp [RL])
theorem RL.ptr_shift {b ver o : Nat} {c : Value} (h : RL E (.ptr b ver o) c) : ∃ B, c = .pointer (some ⟨B, o, none⟩) ∧ ∀ o', RL E (.ptr b ver o') (.pointer (some ⟨B, o', none⟩)) := by
  simp only [RL] at h
  obtain ⟨B, rfl, I, h1, h2⟩ := h
  exact ⟨B, rfl, fun o' => by simp only [RL]; exact ⟨B, rfl, I, h1, h2⟩⟩

theorem nilCheck_ok (h : InvM C E mem nx W) {x : V} {c : Value} (hx : RL E x c) {fx : Fx} (hfx : fxNilCheck x = some fx) (ρ : Operand → Value) (o : Oper) (y : Operand) (ho : o.op = .nilCheck y) (hy : ρ y = c) :
    ∃ c', (execOp ρ o).run P W = .ok (.value c') W ∧ Out C E mem nx fx (.ok c' W) := by
  unfold fxNilCheck at hfx
  split at hfx
  · rename_i b ver off
    cases hfx
    obtain ⟨B, rfl, _⟩ := hx.ptr_shift
    exact ⟨_, by simp [execOp, ho, hy], Out.same h rfl hx⟩
  · cases hfx
    have hx' := hx
    simp only [RL] at hx
    obtain ⟨B, off, rfl, _⟩ := hx
    exact ⟨_, by simp [execOp, ho, hy], Out.same h rfl hx'⟩
  · rename_i f caps
    cases hfx
    have hx' := hx
    simp only [RL] at hx
    obtain ⟨ds, rfl, _⟩ := hx
    exact ⟨_, by simp [execOp, ho, hy], Out.same h rfl hx'⟩
  · cases hfx

theorem fields_get {fields : Array Field} {f : Nat} {off : Nat} {ft : TypeId} (h : (fields.toList.map fun f => (f.offset, f.type))[f]? = some (off, ft)) : ∃ g, fields[f]? = some g ∧ g.offset = off ∧ g.type = ft := by
  simp at h
  cases hg : fields[f]? with
  | none => rw [hg] at h; simp at h
  | some g => rw [hg] at h; simp at h; exact ⟨g, rfl, h.1, h.2⟩

theorem fieldAddr_ok (h : InvM C E mem nx W) {s : TypeId} {x : V} {f : Nat} {c : Value} (hx : RL E x c) {fx : Fx} (hfx : fxFieldAddr P s x f = some fx) : Out C E mem nx fx ((Instr.fieldAt s c f).run P W) := by
  unfold fxFieldAddr at hfx
  split at hfx
  · rename_i fs hk
    obtain ⟨ti, d, k1, k2, k3, k4⟩ := tk_und hk
    cases d <;> simp [tkOf] at k3
    rename_i fields
    subst k3
    split at hfx
    · rename_i off ft hf
      obtain ⟨g, g1, rfl, rfl⟩ := fields_get hf
      split at hfx
      · rename_i j hj
        split at hfx
        · cases hfx
        · rename_i hz
          have run : ∀ B o, (Instr.fieldAt s (.pointer (some ⟨B, o, none⟩)) f).run P W = .ok (.pointer (some ⟨B, o + g.offset, none⟩)) W := by
            intro B o
            simp [Instr.fieldAt, run_underlying k2, Result.andThen, g1, Instr.sureAddr, fieldPlace, run_sizeOf hj, hz, addr_add]
          split at hfx
          · rename_i b ver o
            cases hfx
            obtain ⟨B, rfl, q⟩ := hx.ptr_shift
            exact Out.same h (run B o) (q _)
          · rename_i cs
            cases hfx
            simp only [RL] at hx
            obtain ⟨B, o, rfl, q1, q2⟩ := hx
            refine Out.same h (run B o) ?_
            simp only [RL]
            exact ⟨B, o + g.offset, rfl, q1.drop _, all_drop q2 _⟩
          · cases hfx
      · cases hfx
    · cases hfx
  · cases hfx

theorem part_ok {t : TypeId} {ti : TI} (hti : tiOf P t = some ti) {cs : List V} {ds : List Value} (hr : RLs E cs ds) (hl : cs.all V.leaf = true) {off : Nat} {v : V}
    (hv : (if ti.k.isAgg then (if off + ti.size ≤ cs.length then some (V.agg ((cs.drop off).take ti.size)) else none) else cs[off]?) = some v) :
    ∃ c, (part t ds.toArray off).run P W = .ok c W ∧ RL E v c := by
  unfold part
  simp only [Sem.run_bind, run_isAgg hti, Result.andThen]
  by_cases ha : ti.k.isAgg = true
  · simp only [ha, if_true] at hv ⊢
    split at hv
    · cases hv
      refine ⟨.agg ((ds.drop off).take ti.size).toArray, ?_, ?_⟩
      · simp [run_sizeOf hti, Result.andThen, List.extract_eq_take_drop]
      · simp only [RL]
        exact ⟨_, rfl, (hr.drop _).take _, all_take (all_drop hl _) _⟩
    · cases hv
  · simp only [ha, Bool.false_eq_true, if_false] at hv ⊢
    obtain ⟨d, d1, d2⟩ := RLs.get _ _ hr off v hv
    exact ⟨d, by simp [d1], d2⟩

theorem field_ok (h : InvM C E mem nx W) {t : TypeId} {x : V} {f : Nat} {c : Value} (hx : RL E x c) {fx : Fx} (hfx : fxField P t x f = some fx) : Out C E mem nx fx ((Instr.field t c f).run P W) := by
  unfold fxField at hfx
  split at hfx
  · rename_i fs cs hk
    obtain ⟨ti, d, k1, k2, k3, k4⟩ := tk_und hk
    cases d <;> simp [tkOf] at k3
    rename_i fields
    subst k3
    simp only [RL] at hx
    obtain ⟨ds, rfl, x1, x2⟩ := hx
    split at hfx
    · rename_i off ft hf
      obtain ⟨g, g1, rfl, rfl⟩ := fields_get hf
      split at hfx
      · rename_i j hj
        have hv : ∃ v, (if j.k.isAgg then (if g.offset + j.size ≤ cs.length then some (V.agg ((cs.drop g.offset).take j.size)) else none) else cs[g.offset]?) = some v ∧ fx = ⟨v, none⟩ := by
          split at hfx
          · rename_i ha
            split at hfx
            · rename_i hle; cases hfx; exact ⟨_, by rw [if_pos ha, if_pos hle], rfl⟩
            · cases hfx
          · rename_i ha
            cases hc : cs[g.offset]? with
            | none => rw [hc] at hfx; cases hfx
            | some v => rw [hc] at hfx; cases hfx; exact ⟨v, by rw [if_neg ha], rfl⟩
        obtain ⟨v, hv, rfl⟩ := hv
        obtain ⟨c', r1, r2⟩ := part_ok (P := P) (W := W) hj x1 x2 hv
        refine Out.same h ?_ r2
        simp [Instr.field, run_underlying k2, Result.andThen, g1, asAgg, r1]
      · cases hfx
    · cases hfx
  · cases hfx

theorem indexAddr_ok (h : InvM C E mem nx W) {t : TypeId} {x i : V} {c ci : Value} (hx : RL E x c) (hi : RL E i ci) {fx : Fx} (hfx : fxIndexAddr P t x i = some fx) : Out C E mem nx fx ((Instr.indexAt t c ci).run P W) := by
  unfold fxIndexAddr at hfx
  split at hfx
  · rename_i kk n
    simp only [RL] at hi
    subst hi
    split at hfx
    · rename_i te hk
      obtain ⟨ti, d, k1, k2, k3, k4⟩ := tk_und hk
      cases d <;> simp [tkOf] at k3
      subst k3
      split at hfx
      · rename_i j hj
        split at hfx
        · rename_i new e m cs
          split at hfx
          · rename_i hc
            obtain ⟨c1, c2, rfl⟩ := hc
            cases hfx
            simp only [RL] at hx
            obtain ⟨a, cap, rfl, q1, q2, q3, q4⟩ := hx
            rcases q4 with q4 | ⟨B, o, rfl, q5, q6⟩
            · omega
            · refine Out.same h (c := .pointer (some ⟨B, o + n.toNat * j.size, none⟩)) ?_ ?_
              · simp [Instr.indexAt, asIntOf, run_underlying k2, Result.andThen, c1, c2, run_sizeOf hj, addr_add]
              · simp only [RL]
                exact ⟨B, _, rfl, (q6.drop _).take _, all_take (all_drop q3 _) _⟩
          · cases hfx
        · rename_i b ver e off len
          split at hfx
          · rename_i hc
            obtain ⟨rfl, c1, c2⟩ := hc
            cases hfx
            simp only [RL] at hx
            obtain ⟨a, cap, rfl, q1, q2, q3, I, q4⟩ := hx
            rcases q3 with ⟨_, _, q3, _⟩ | ⟨B, rfl⟩
            · omega
            · refine Out.same h (c := .pointer (some ⟨B, (off + n.toNat) * j.size, none⟩)) ?_ ?_
              · simp [Instr.indexAt, asIntOf, run_underlying k2, Result.andThen, c1, c2, run_sizeOf hj, addr_add, Nat.add_mul]
              · simp only [RL]
                refine ⟨B, rfl, I, q4.1, ?_⟩
                rcases q4.2 with q5 | ⟨q5, q6⟩
                · exact .inl q5
                · refine .inr ⟨q5, fun e => ?_⟩
                  obtain ⟨_, q7⟩ := q6 e
                  rcases q7 with ⟨_, q7⟩ | ⟨B', q7, q8, _⟩
                  · cases q7
                  · cases q8; exact q7
          · cases hfx
        · cases hfx
      · cases hfx
    · rename_i len te hk
      obtain ⟨ti, d, k1, k2, k3, k4⟩ := tk_und hk
      cases d <;> simp [tkOf] at k3
      obtain ⟨rfl, rfl⟩ := k3
      split at hfx
      · rename_i j hj
        split at hfx
        · rename_i hc
          obtain ⟨c1, c2⟩ := hc
          have run : ∀ B o, (Instr.indexAt t (.pointer (some ⟨B, o, none⟩)) (.int kk n)).run P W = .ok (.pointer (some ⟨B, o + n.toNat * j.size, none⟩)) W := by
            intro B o
            simp [Instr.indexAt, asIntOf, run_underlying k2, Result.andThen, Instr.sureAddr, c1, c2, run_sizeOf hj, addr_add]
          split at hfx
          · rename_i b ver o
            cases hfx
            obtain ⟨B, rfl, q⟩ := hx.ptr_shift
            exact Out.same h (run B o) (q _)
          · rename_i cs
            cases hfx
            simp only [RL] at hx
            obtain ⟨B, o, rfl, q1, q2⟩ := hx
            refine Out.same h (run B o) ?_
            simp only [RL]
            exact ⟨B, _, rfl, q1.drop _, all_drop q2 _⟩
          · cases hfx
        · cases hfx
      · cases hfx
    · cases hfx
  · cases hfx

theorem index_ok (h : InvM C E mem nx W) {t : TypeId} {x i : V} {c ci : Value} (hx : RL E x c) (hi : RL E i ci) {fx : Fx} (hfx : fxIndex P t x i = some fx) : Out C E mem nx fx ((Instr.index t c ci).run P W) := by
  unfold fxIndex at hfx
  split at hfx
  · rename_i kk n len te cs hk
    simp only [RL] at hi
    subst hi
    obtain ⟨ti, d, k1, k2, k3, k4⟩ := tk_und hk
    cases d <;> simp [tkOf] at k3
    obtain ⟨rfl, rfl⟩ := k3
    simp only [RL] at hx
    obtain ⟨ds, rfl, x1, x2⟩ := hx
    split at hfx
    · rename_i j hj
      split at hfx
      · rename_i hc
        obtain ⟨c1, c2⟩ := hc
        have hv : ∃ v, (if j.k.isAgg then (if n.toNat * j.size + j.size ≤ cs.length then some (V.agg ((cs.drop (n.toNat * j.size)).take j.size)) else none) else cs[n.toNat * j.size]?) = some v ∧ fx = ⟨v, none⟩ := by
          split at hfx
          · rename_i ha
            split at hfx
            · rename_i hle; cases hfx; exact ⟨_, by rw [if_pos ha, if_pos hle], rfl⟩
            · cases hfx
          · rename_i ha
            cases hcs : cs[n.toNat * j.size]? with
            | none => rw [hcs] at hfx; cases hfx
            | some v => rw [hcs] at hfx; cases hfx; exact ⟨v, by rw [if_neg ha], rfl⟩
        obtain ⟨v, hv, rfl⟩ := hv
        obtain ⟨c', r1, r2⟩ := part_ok (P := P) (W := W) hj x1 x2 hv
        refine Out.same h ?_ r2
        simp [Instr.index, asIntOf, run_underlying k2, Result.andThen, c1, c2, run_sizeOf hj, r1]
      · cases hfx
    · cases hfx
  · rename_i kk n s hk
    simp only [RL] at hi hx
    subst hi
    subst hx
    obtain ⟨ti, d, k1, k2, k3, k4⟩ := tk_und hk
    cases d <;> simp [tkOf] at k3
    split at hfx
    · rename_i hc
      obtain ⟨c1, c2⟩ := hc
      cases hfx
      refine Out.same h (c := .int .u8 (s.get! n.toNat).toNat) ?_ (by simp only [RL])
      have e : s[n.toNat]? = some (s.get! n.toNat) := by
        rw [getElem?_pos s n.toNat c2]
        simp [ByteArray.get!, getElem!_def, ByteArray.getElem_eq_getElem_data, c2]
      simp [Instr.index, asIntOf, run_underlying k2, Result.andThen, c1, e]
    · cases hfx
  · cases hfx

theorem extract_ok (h : InvM C E mem nx W) {x : V} {i : Nat} {c : Value} (hx : RL E x c) {fx : Fx} (hfx : fxExtract x i = some fx) : Out C E mem nx fx ((Instr.extract c i).run P W) := by
  unfold fxExtract at hfx
  split at hfx
  · rename_i vs
    simp only [RL] at hx
    obtain ⟨ds, rfl, x1⟩ := hx
    cases hv : vs[i]? with
    | none => rw [hv] at hfx; cases hfx
    | some v =>
      rw [hv] at hfx; cases hfx
      obtain ⟨d, d1, d2⟩ := RLs.get _ _ x1 i v hv
      exact Out.same h (by simp [Instr.extract, d1]) d2
  · cases hfx

theorem convert_ok (h : InvM C E mem nx W) {s d : TypeId} {x : V} {c : Value} (hx : RL E x c) {fx : Fx} (hfx : fxConvert P s d x = some fx) : Out C E mem nx fx ((convert s d c).run P W) := by
  unfold fxConvert at hfx
  split at hfx
  · rename_i k0 k kk n hs hd
    cases hfx
    simp only [RL] at hx
    subst hx
    obtain ⟨ti, ds, k1, k2, k3, k4⟩ := tk_und hs
    obtain ⟨ti', dd, k1', k2', k3', k4'⟩ := tk_und hd
    cases ds <;> simp [tkOf] at k3
    cases dd <;> simp [tkOf] at k3'
    subst k3'
    exact Out.sc h (by simp [convert, run_underlying k2, run_underlying k2', Result.andThen, Conv.intToInt])
  · cases hfx

theorem un_ok (h : InvM C E mem nx W) {op : UnOp} {x v : V} {c : Value} (hx : RL E x c) (hv : evUn op x = some v) : Out C E mem nx ⟨v, none⟩ ((Op.unary op c).run P W) := by
  unfold evUn at hv
  split at hv
  · cases hv
    simp only [RL] at hx
    subst hx
    exact Out.sc h (by simp [Op.unary, Op.intArith])
  · simp only [RL] at hx
    subst hx
    simp [evInt] at hv
    subst hv
    exact Out.sc h (by simp [Op.unary, Op.intBits])
  · cases hv
    simp only [RL] at hx
    subst hx
    exact Out.sc h (by simp [Op.unary])
  · cases hv

theorem run_eq_bool {t : TypeId} {a b : Bool} (h : P.underlying t = some .bool) : (Op.equal t (.bool a) (.bool b)).run P W = .ok (a == b) W := by
  show (Op.equalIn (9999 + 1) t (.bool a) (.bool b)).run P W = _
  rw [Op.equalIn]
  simp only [Sem.run_bind, run_underlying h, Result.andThen, Sem.run_pure]

theorem bin_ok (h : InvM C E mem nx W) {op : BinOp} {t : TypeId} {x y v : V} {c d : Value} (xo yo : Operand) (hx : RL E x c) (hy : RL E y d) (hv : evBin (tkAt P t) op x y = some v) :
    Out C E mem nx ⟨v, none⟩ ((do eqGuard op t xo yo c d; binOp op t c d : Sem Value).run P W) := by
  unfold evBin at hv
  split at hv
  · rename_i k a k' b
    simp only [RL] at hx hy
    subst hx; subst hy
    have hg : ((eqGuard op t xo yo (.int k a) (.int k' b))).run P W = .ok () W := by
      unfold eqGuard; split <;> simp
    simp only [Sem.run_bind, hg, Result.andThen]
    split at hv
    · rename_i hs
      unfold evShift at hv
      split at hv
      · cases hv
      · rename_i hy0
        cases op <;> simp [BinOp.isShift] at hs <;> simp at hv <;> subst hv
        · exact Out.sc h (by simp [binOp, Op.shift, hy0])
        · exact Out.sc h (by simp [binOp, Op.shift, hy0])
    · split at hv
      · rename_i hs hk
        subst hk
        cases op <;> simp [BinOp.isShift] at hs <;> simp [evInt] at hv
        all_goals first
          | (subst hv; exact Out.sc h (by simp [binOp, Op.intArith, Op.intCmp, Op.intBits]))
          | (obtain ⟨h0, rfl⟩ := hv; exact Out.sc h (by simp [binOp, Op.intDiv, h0]))
      · cases hv
  · rename_i a b
    simp only [RL] at hx hy
    subst hx; subst hy
    have hg : ((eqGuard op t xo yo (.bool a) (.bool b))).run P W = .ok () W := by
      unfold eqGuard; split <;> simp
    simp only [Sem.run_bind, hg, Result.andThen]
    have und : tkAt P t = some .bool → P.underlying t = some .bool := by
      intro hk
      obtain ⟨ti, d, k1, k2, k3, k4⟩ := tk_und hk
      cases d <;> simp [tkOf] at k3
      exact k2
    split at hv
    · split at hv
      · rename_i hk
        cases hv
        exact Out.sc h (by simp only [binOp, Sem.run_bind, run_eq_bool (und hk), Result.andThen, Sem.run_pure])
      · cases hv
    · split at hv
      · rename_i hk
        cases hv
        exact Out.sc h (by simp only [binOp, Sem.run_bind, run_eq_bool (und hk), Result.andThen, Sem.run_pure, bne])
      · cases hv
    · cases hv
  · cases hv
end
end Go.Abs
