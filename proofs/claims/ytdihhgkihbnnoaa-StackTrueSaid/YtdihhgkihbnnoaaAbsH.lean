/- Laws about heaps and calls that the walks use. Conditions: as each theorem states them. -/
import Derived.Test.YtdihhgkihbnnoaaAbsG
namespace Go.Abs
set_option linter.unusedVariables false
set_option linter.unusedSimpArgs false

def Fx.mem (fx : Fx) (m : Nat → Option Blk) : Nat → Option Blk := match fx.up with | none => m | some (b, k) => upd m b (some k)

section
variable {P : Program} {C : Cx} {E : Env} {mem : Nat → Option Blk} {nx : Nat} {W : World}

theorem minmax_ok {f : Int → Int → Int} {g : Value → Value → Sem Value} (hg : ∀ k x y (w : World), (g (.int k x) (.int k y)).run P w = .ok (.int k (f x y)) w) : ∀ (xs : List V) (cs : List Value) (acc : V) (c : Value) (v : V), RL E acc c → RLs E xs cs →
    xs.foldlM (fun acc y => match acc, y with | .sc (.int k' a'), .sc (.int k'' b) => if k'' = k' then some (V.sc (.int k' (f a' b))) else none | _, _ => none) acc = some v → ∃ d, (cs.foldlM g c).run P W = .ok d W ∧ RL E v d
  | [], cs, acc, c, v, h1, h2, h3 => by
    simp only [RLs] at h2; subst h2
    simp at h3; subst h3
    exact ⟨c, by simp, h1⟩
  | x :: xs, cs, acc, c, v, h1, h2, h3 => by
    simp only [RLs] at h2
    obtain ⟨d, ds, rfl, h4, h5⟩ := h2
    simp only [List.foldlM_cons] at h3
    split at h3
    · rename_i k' a' k'' b
      simp only [RL] at h1 h4
      subst h1; subst h4
      split at h3
      · rename_i hk
        subst hk
        simp at h3
        obtain ⟨e, e1, e2⟩ := minmax_ok hg xs ds (.sc (.int k'' (f a' b))) (.int k'' (f a' b)) v (by simp [RL]) h5 h3
        exact ⟨e, by simp only [List.foldlM_cons, Sem.run_bind, hg, Result.andThen, e1], e2⟩
      · simp at h3
    · simp at h3

theorem evMinMax_ok {f : Int → Int → Int} {g : Value → Value → Sem Value} (hg : ∀ k x y (w : World), (g (.int k x) (.int k y)).run P w = .ok (.int k (f x y)) w) {xs : List V} {cs : List Value} {v : V} (hr : RLs E xs cs) (hv : evMinMax f xs = some v) :
    ∃ x rest d, cs = x :: rest ∧ (rest.foldlM g x).run P W = .ok d W ∧ RL E v d := by
  unfold evMinMax at hv
  split at hv
  · rename_i k a rest
    simp only [RLs] at hr
    obtain ⟨d, ds, rfl, h1, h2⟩ := hr
    have h1' := h1
    simp only [RL] at h1; subst h1
    obtain ⟨e, e1, e2⟩ := minmax_ok (W := W) hg rest ds _ _ v h1' h2 hv
    exact ⟨_, _, e, rfl, e1, e2⟩
  · cases hv

theorem evs_ok {a : Act} {ev : Operand → V} (hev : ∀ x, RL E (ev x) (a.eval x)) (xs : Array Operand) : RLs E (xs.toList.map ev) (xs.map a.eval).toList := by
  refine RLs.of_get _ _ (by simp) fun i x hx => ?_
  simp at hx
  obtain ⟨y, y1, rfl⟩ := hx
  exact ⟨a.eval y, by simp [y1], hev y⟩

theorem builtin_ok (h : InvM C E mem nx W) {id : Nat} (hid : mem id = none) (hlt : id < nx) {b : Builtin} {ts : Array TypeId} {ty : TypeId} {consts : Array Bool} {xs : List V} {cs : Array Value} (hr : RLs E xs cs.toList)
    {fx : Fx} (hfx : evBuiltin P b ts xs mem id = some fx) : ∃ c W', (builtin b ts ty consts cs).run P W = .ok (.value c) W' ∧ Out C E mem nx fx (.ok c W') := by
  unfold evBuiltin at hfx
  split at hfx
  · rename_i x
    have hfx' : evBuiltin P .len ts [x] mem id = some fx := by unfold evBuiltin; exact hfx
    simp only [RLs] at hr
    obtain ⟨d, ds, h1, h2, rfl⟩ := hr
    have hcs : cs = #[d] := by rw [← Array.toArray_toList (xs := cs), h1]
    subst hcs
    obtain ⟨c, W', E', r1, r2⟩ := len_ok (ty := ty) h h2 hfx'
    exact ⟨c, W', by simp [builtin, r1, Result.andThen], c, W', E', rfl, r2⟩
  · rename_i s x
    simp only [RLs] at hr
    obtain ⟨d, ds, h1, h2, d', ds', rfl, h3, rfl⟩ := hr
    have hcs : cs = #[d, d'] := by rw [← Array.toArray_toList (xs := cs), h1]
    subst hcs
    split at hfx
    · rename_i hsz
      split at hfx
      · rename_i t t' ht ht'
        split at hfx
        · rename_i htt
          subst htt
          have hts : ts = #[t, t] := by
            apply Array.ext (by simpa using hsz)
            intro i hi1 hi2
            have : i = 0 ∨ i = 1 := by omega
            rcases this with rfl | rfl
            · simpa [Array.getElem?_eq_getElem hi1] using ht
            · simpa [Array.getElem?_eq_getElem hi1] using ht'
          subst hts
          obtain ⟨c, W', E', r1, r2⟩ := append_ok (ty := ty) h hid hlt h2 h3 hfx
          exact ⟨c, W', by simp [builtin, r1, Result.andThen], c, W', E', rfl, r2⟩
        · cases hfx
      · cases hfx
    · cases hfx
  · cases hv : evMinMax mx2 xs with
    | none => rw [hv] at hfx; cases hfx
    | some v =>
      rw [hv] at hfx; cases hfx
      obtain ⟨x, rest, d, e1, e2, e3⟩ := evMinMax_ok (P := P) (W := W) (g := Builtin.max2) (fun k x y w => by simp [Builtin.max2, mx2]) hr hv
      exact ⟨d, W, by simp [builtin, Builtin.max_, e1, e2, Result.andThen], Out.same h rfl e3⟩
  · cases hv : evMinMax mn2 xs with
    | none => rw [hv] at hfx; cases hfx
    | some v =>
      rw [hv] at hfx; cases hfx
      obtain ⟨x, rest, d, e1, e2, e3⟩ := evMinMax_ok (P := P) (W := W) (g := Builtin.min2) (fun k x y w => by simp [Builtin.min2, mn2]) hr hv
      exact ⟨d, W, by simp [builtin, Builtin.min_, e1, e2, Result.andThen], Out.same h rfl e3⟩
  · cases hfx

/-- An operation that makes no call. -/
theorem opFx_ok {s : St} {a : Act} (h : Inv C E s a W) (o : Oper) {id : Nat} (hid : s.mem id = none) (hlt : id < s.nx) {fx : Fx} (hfx : opFx P o.op s.ev s.mem id = some fx) :
    ∃ n c W' E', (execOp a.eval o).run P W = .ok n W' ∧ (n = .value c ∨ (n = .skip ∧ c = undef)) ∧ E.le E' ∧ InvM C E' (fx.mem s.mem) s.nx W' ∧ RL E' fx.val c := by
  have hev := h.ev
  have val : ∀ {sv : Sem Value}, (execOp a.eval o = do pure (Next.value (← sv))) → Out C E s.mem s.nx fx (sv.run P W) →
      ∃ n c W' E', (execOp a.eval o).run P W = .ok n W' ∧ (n = .value c ∨ (n = .skip ∧ c = undef)) ∧ E.le E' ∧ InvM C E' (fx.mem s.mem) s.nx W' ∧ RL E' fx.val c := by
    intro sv hsv ⟨c, W', E', r1, r2, r3, r4⟩
    exact ⟨.value c, c, W', E', by rw [hsv]; simp [r1, Result.andThen], .inl rfl, r2, r3, r4⟩
  have now : ∀ {c : Value}, (execOp a.eval o = pure (Next.value c)) → Out C E s.mem s.nx fx (.ok c W) →
      ∃ n c W' E', (execOp a.eval o).run P W = .ok n W' ∧ (n = .value c ∨ (n = .skip ∧ c = undef)) ∧ E.le E' ∧ InvM C E' (fx.mem s.mem) s.nx W' ∧ RL E' fx.val c := by
    intro c hsv ⟨c', W', E', r1, r2, r3, r4⟩
    cases r1
    exact ⟨.value c, c, W, E', by rw [hsv]; simp, .inl rfl, r2, r3, r4⟩
  unfold opFx at hfx
  split at hfx
  · rename_i x ho
    cases hfx
    exact now (by simp [execOp, ho]) (Out.same h.m rfl (hev x))
  · rename_i x ho
    cases hfx
    exact now (by simp [execOp, ho]) (Out.same h.m rfl (hev x))
  · rename_i c x y ho
    obtain ⟨t, t1, t2⟩ := pick_ok h.m (hev c) (hev x) (hev y) hfx
    refine val (sv := do pure (if ← asBool (a.eval c) then a.eval x else a.eval y)) ?_ ?_
    · simp [execOp, ho]
    · rw [t1]; simpa [asBool, Result.andThen] using t2
  · rename_i t ho
    exact val (sv := Instr.alloc t true (.tuple #[])) (by simp [execOp, ho]) (alloc_ok h.m hid hlt hfx _)
  · rename_i t x ho
    exact val (by simp [execOp, ho]) (box_ok h.m hid hlt t (hev x) hfx)
  · rename_i t parts ho
    obtain ⟨p1, p2⟩ := parts_ok hev parts
    exact val (by simp [execOp, ho]) (build_ok h.m p1 p2 hfx)
  · rename_i t len parts ho
    obtain ⟨p1, p2⟩ := parts_ok hev parts
    exact val (by simp [execOp, ho]) (buildSlice_ok h.m hid hlt p1 p2 hfx)
  · rename_i t x ho
    exact val (by simp [execOp, ho]) (load_ok h.m (hev x) hfx)
  · rename_i t x y ho
    obtain ⟨W', E', b, k, r1, r2, r3, r4⟩ := store_ok h.m (hev x) (hev y) hfx
    subst r3
    exact ⟨.skip, undef, W', E', by simp [execOp, ho, r1, Result.andThen], .inr ⟨rfl, rfl⟩, r2, r4, by simp [RL]⟩
  · rename_i x ho
    obtain ⟨c', r1, c'', W', E', r2, r3⟩ := nilCheck_ok h.m (hev x) hfx a.eval o x ho rfl
    cases r2
    exact ⟨.value c', c', W, E', r1, .inl rfl, r3⟩
  · rename_i t x f ho
    exact val (by simp [execOp, ho]) (fieldAddr_ok h.m (hev x) hfx)
  · rename_i t x f ho
    exact val (by simp [execOp, ho]) (field_ok h.m (hev x) hfx)
  · rename_i t x i ho
    exact val (by simp [execOp, ho]) (indexAddr_ok h.m (hev x) (hev i) hfx)
  · rename_i t x i ho
    exact val (by simp [execOp, ho]) (index_ok h.m (hev x) (hev i) hfx)
  · rename_i t x lo hi ho
    refine val (by simp [execOp, ho]) (slice_ok h.m (hev x) (cl := lo.map a.eval) (ch := hi.map a.eval) (fun v hv => ?_) (fun hv => ?_) (fun v hv => ?_) (fun hv => ?_) hfx)
    · cases lo with
      | none => cases hv
      | some y => cases hv; exact ⟨_, rfl, hev y⟩
    · cases lo with
      | none => rfl
      | some y => cases hv
    · cases hi with
      | none => cases hv
      | some y => cases hv; exact ⟨_, rfl, hev y⟩
    · cases hi with
      | none => rfl
      | some y => cases hv
  · rename_i x i ho
    exact val (by simp [execOp, ho]) (extract_ok h.m (hev x) hfx)
  · rename_i t l c ho
    exact val (by simp [execOp, ho]) (makeSlice_ok h.m hid hlt (hev l) (hev c) hfx)
  · rename_i f first caps ho
    split at hfx
    · rename_i he
      cases hfx
      have : first = #[] := by simpa using he
      subst this
      refine now (c := .func f #[] (caps.map a.eval)) (by simp only [execOp, ho, Array.map_empty]; rfl) (Out.same h.m rfl ?_)
      simp only [RL]
      exact ⟨(caps.map a.eval).toList, by rw [Array.toArray_toList], evs_ok hev caps⟩
    · cases hfx
  · rename_i op t x y ty ho
    cases hv : evBin (tkAt P t) op (s.ev x) (s.ev y) with
    | none => rw [hv] at hfx; cases hfx
    | some v =>
      rw [hv] at hfx; cases hfx
      exact val (by simp [execOp, ho]) (bin_ok h.m x y (hev x) (hev y) hv)
  · rename_i op t x ho
    cases hv : evUn op (s.ev x) with
    | none => rw [hv] at hfx; cases hfx
    | some v =>
      rw [hv] at hfx; cases hfx
      exact val (by simp [execOp, ho]) (un_ok h.m (hev x) hv)
  · rename_i t d x ho
    exact val (by simp [execOp, ho]) (convert_ok h.m (hev x) hfx)
  · rename_i b args ts ho
    have e : ∃ consts, execOp a.eval o = builtin b ts o.type consts (args.map a.eval) := ⟨_, by simp only [execOp, ho, resolve]; rfl⟩
    obtain ⟨consts, e⟩ := e
    obtain ⟨c, W', r1, c', W'', E', r2, r3⟩ := builtin_ok (ty := o.type) (consts := consts) h.m hid hlt (evs_ok hev args) hfx
    cases r2
    exact ⟨.value c, c, W', E', by rw [e]; exact r1, .inl rfl, r3⟩
  · cases hfx
end
end Go.Abs
