/- Laws about heaps and calls that the walks use. Conditions: as each theorem states them. -/
import Derived.Test.YthgccmnmalhmcaaA0
import Derived.OrdersIn
namespace Go.Abs
set_option linter.unusedVariables false
set_option linter.unusedSimpArgs false

def Fx.mem (fx : Fx) (m : Nat → Option Blk) : Nat → Option Blk := match fx.up with | none => m | some (b, k) => upd m b (some k)

section
variable {P : Program} {C : Cx} {E : Env} {mem : Nat → Option Blk} {nx : Nat} {W : World}

theorem minmax_ok {f : Int → Int → Int} {g : Value → Value → Sem Value} (hg : ∀ k x y (w : World), (g (.int k x) (.int k y)).run P w = .ok (.int k (f x y)) w) : ∀ (xs : List V) (cs : List Value) (acc : V) (c : Value) (v : V), RL E acc c → RLs E xs cs →
  xs.foldlM (fun acc y => match acc, y with | .sc (.int k' a'), .sc (.int k'' b) => if k'' = k' then some (V.sc (.int k' (f a' b))) else none | _, _ => none) acc = some v → ∃ d, (cs.foldlM g c).run P W = .ok d W ∧ RL E v d
 | [], cs, acc, c, v, h1, h2, h3 => by
  simp only [RLs] at h2; subst h2
  simp at h3; subst h3
  exact ⟨c, by simp, h1⟩
 | x :: xs, cs, acc, c, v, h1, h2, h3 => by
  simp only [RLs] at h2
  obtain ⟨d, ds, rfl, h4, h5⟩ := h2
  simp only [List.foldlM_cons] at h3
  split at h3
  ·rename_i k' a' k'' b
   simp only [RL] at h1 h4
   subst h1; subst h4
   split at h3
   ·rename_i hk
    subst hk
    simp at h3
    obtain ⟨e, e1, e2⟩ := minmax_ok hg xs ds (.sc (.int k'' (f a' b))) (.int k'' (f a' b)) v (by simp [RL]) h5 h3
    exact ⟨e, by simp only [List.foldlM_cons, Sem.run_bind, hg, Result.andThen, e1], e2⟩
   ·simp at h3
  ·simp at h3

theorem evMinMax_ok {f : Int → Int → Int} {g : Value → Value → Sem Value} (hg : ∀ k x y (w : World), (g (.int k x) (.int k y)).run P w = .ok (.int k (f x y)) w) {xs : List V} {cs : List Value} {v : V} (hr : RLs E xs cs) (hv : evMinMax f xs = some v) :
  ∃ x rest d, cs = x :: rest ∧ (rest.foldlM g x).run P W = .ok d W ∧ RL E v d := by
 unfold evMinMax at hv
 split at hv
 ·rename_i k a rest
  simp only [RLs] at hr
  obtain ⟨d, ds, rfl, h1, h2⟩ := hr
  have h1' := h1
  simp only [RL] at h1; subst h1
  obtain ⟨e, e1, e2⟩ := minmax_ok (W := W) hg rest ds _ _ v h1' h2 hv
  exact ⟨_, _, e, rfl, e1, e2⟩
 ·cases hv

theorem evs_ok {a : Act} {ev : Operand → V} (hev : ∀ x, RL E (ev x) (a.eval x)) (xs : Array Operand) : RLs E (xs.toList.map ev) (xs.map a.eval).toList := by
 refine RLs.of_get _ _ (by simp) fun i x hx => ?_
 simp at hx
 obtain ⟨y, y1, rfl⟩ := hx
 exact ⟨a.eval y, by simp [y1], hev y⟩

theorem builtin_ok (h : InvM C E mem nx W) {id : Nat} (hid : mem id = none) (hlt : id < nx) {b : Builtin} {ts : Array TypeId} {ty : TypeId} {consts : Array Bool} {xs : List V} {cs : Array Value} (hr : RLs E xs cs.toList)
  {fx : Fx} (hfx : evBuiltin P b ts xs mem id = some fx) : ∃ c W', (builtin b ts ty consts cs).run P W = .ok (.value c) W' ∧ Out C E mem nx fx (.ok c W') := by
 unfold evBuiltin at hfx
 split at hfx
 ·rename_i x
  have hfx' : evBuiltin P .len ts [x] mem id = some fx := by unfold evBuiltin; exact hfx
  simp only [RLs] at hr
  obtain ⟨d, ds, h1, h2, rfl⟩ := hr
  have hcs : cs = #[d] := by rw [← Array.toArray_toList (xs := cs), h1]
  subst hcs
  obtain ⟨c, W', E', r1, r2⟩ := len_ok (ty := ty) h h2 hfx'
  exact ⟨c, W', by simp [builtin, r1, Result.andThen], c, W', E', rfl, r2⟩
 ·rename_i s x
  simp only [RLs] at hr
  obtain ⟨d, ds, h1, h2, d', ds', rfl, h3, rfl⟩ := hr
  have hcs : cs = #[d, d'] := by rw [← Array.toArray_toList (xs := cs), h1]
  subst hcs
  split at hfx
  ·rename_i hsz
   split at hfx
   ·rename_i t t' ht ht'
    split at hfx
    ·rename_i htt
     subst htt
     have hts : ts = #[t, t] := by
      apply Array.ext (by simpa using hsz)
      intro i hi1 hi2
      have : i = 0 ∨ i = 1 := by omega
      rcases this with rfl | rfl
      ·simpa [Array.getElem?_eq_getElem hi1] using ht
      ·simpa [Array.getElem?_eq_getElem hi1] using ht'
     subst hts
     obtain ⟨c, W', E', r1, r2⟩ := append_ok (ty := ty) h hid hlt h2 h3 hfx
     exact ⟨c, W', by simp [builtin, r1, Result.andThen], c, W', E', rfl, r2⟩
    ·cases hfx
   ·cases hfx
  ·cases hfx
 ·cases hv : evMinMax mx2 xs with
  | none => rw [hv] at hfx; cases hfx
  | some v =>
   rw [hv] at hfx; cases hfx
   obtain ⟨x, rest, d, e1, e2, e3⟩ := evMinMax_ok (P := P) (W := W) (g := Builtin.max2) (fun k x y w => by simp [Builtin.max2, mx2]) hr hv
   exact ⟨d, W, by simp [builtin, Builtin.max_, e1, e2, Result.andThen], Out.same h rfl e3⟩
 ·cases hv : evMinMax mn2 xs with
  | none => rw [hv] at hfx; cases hfx
  | some v =>
   rw [hv] at hfx; cases hfx
   obtain ⟨x, rest, d, e1, e2, e3⟩ := evMinMax_ok (P := P) (W := W) (g := Builtin.min2) (fun k x y w => by simp [Builtin.min2, mn2]) hr hv
   exact ⟨d, W, by simp [builtin, Builtin.min_, e1, e2, Result.andThen], Out.same h rfl e3⟩
 ·cases hfx

theorem opFx_ok {s : St} {a : Act} (h : Inv C E s a W) (o : Oper) {id : Nat} (hid : s.mem id = none) (hlt : id < s.nx) {fx : Fx} (hfx : opFx P o.op s.ev s.mem id = some fx) :
  ∃ n c W' E', (execOp a.eval o).run P W = .ok n W' ∧ (n = .value c ∨ (n = .skip ∧ c = undef)) ∧ E.le E' ∧ InvM C E' (fx.mem s.mem) s.nx W' ∧ RL E' fx.val c := by
 have hev := h.ev
 have val : ∀ {sv : Sem Value}, (execOp a.eval o = do pure (Next.value (← sv))) → Out C E s.mem s.nx fx (sv.run P W) →
   ∃ n c W' E', (execOp a.eval o).run P W = .ok n W' ∧ (n = .value c ∨ (n = .skip ∧ c = undef)) ∧ E.le E' ∧ InvM C E' (fx.mem s.mem) s.nx W' ∧ RL E' fx.val c := by
  intro sv hsv ⟨c, W', E', r1, r2, r3, r4⟩
  exact ⟨.value c, c, W', E', by rw [hsv]; simp [r1, Result.andThen], .inl rfl, r2, r3, r4⟩
 have now : ∀ {c : Value}, (execOp a.eval o = pure (Next.value c)) → Out C E s.mem s.nx fx (.ok c W) →
   ∃ n c W' E', (execOp a.eval o).run P W = .ok n W' ∧ (n = .value c ∨ (n = .skip ∧ c = undef)) ∧ E.le E' ∧ InvM C E' (fx.mem s.mem) s.nx W' ∧ RL E' fx.val c := by
  intro c hsv ⟨c', W', E', r1, r2, r3, r4⟩
  cases r1
  exact ⟨.value c, c, W, E', by rw [hsv]; simp, .inl rfl, r2, r3, r4⟩
 unfold opFx at hfx
 split at hfx
 ·rename_i x ho
  cases hfx
  exact now (by simp [execOp, ho]) (Out.same h.m rfl (hev x))
 ·rename_i x ho
  cases hfx
  exact now (by simp [execOp, ho]) (Out.same h.m rfl (hev x))
 ·rename_i c x y ho
  obtain ⟨t, t1, t2⟩ := pick_ok h.m (hev c) (hev x) (hev y) hfx
  refine val (sv := do pure (if ← asBool (a.eval c) then a.eval x else a.eval y)) ?_ ?_
  ·simp [execOp, ho]
  ·rw [t1]; simpa [asBool, Result.andThen] using t2
 ·rename_i t ho
  exact val (sv := Instr.alloc t true (.tuple #[])) (by simp [execOp, ho]) (alloc_ok h.m hid hlt hfx _)
 ·rename_i t x ho
  exact val (by simp [execOp, ho]) (box_ok h.m hid hlt t (hev x) hfx)
 ·rename_i t parts ho
  obtain ⟨p1, p2⟩ := parts_ok hev parts
  exact val (by simp [execOp, ho]) (build_ok h.m p1 p2 hfx)
 ·rename_i t len parts ho
  obtain ⟨p1, p2⟩ := parts_ok hev parts
  exact val (by simp [execOp, ho]) (buildSlice_ok h.m hid hlt p1 p2 hfx)
 ·rename_i t x ho
  exact val (by simp [execOp, ho]) (load_ok h.m (hev x) hfx)
 ·rename_i t x y ho
  obtain ⟨W', E', b, k, r1, r2, r3, r4⟩ := store_ok h.m (hev x) (hev y) hfx
  subst r3
  exact ⟨.skip, undef, W', E', by simp [execOp, ho, r1, Result.andThen], .inr ⟨rfl, rfl⟩, r2, r4, by simp [RL]⟩
 ·rename_i x ho
  obtain ⟨c', r1, c'', W', E', r2, r3⟩ := nilCheck_ok h.m (hev x) hfx a.eval o x ho rfl
  cases r2
  exact ⟨.value c', c', W, E', r1, .inl rfl, r3⟩
 ·rename_i t x f ho
  exact val (by simp [execOp, ho]) (fieldAddr_ok h.m (hev x) hfx)
 ·rename_i t x f ho
  exact val (by simp [execOp, ho]) (field_ok h.m (hev x) hfx)
 ·rename_i t x i ho
  exact val (by simp [execOp, ho]) (indexAddr_ok h.m (hev x) (hev i) hfx)
 ·rename_i t x i ho
  exact val (by simp [execOp, ho]) (index_ok h.m (hev x) (hev i) hfx)
 ·rename_i t x lo hi ho
  refine val (by simp [execOp, ho]) (slice_ok h.m (hev x) (cl := lo.map a.eval) (ch := hi.map a.eval) (fun v hv => ?_) (fun hv => ?_) (fun v hv => ?_) (fun hv => ?_) hfx)
  ·cases lo with
   | none => cases hv
   | some y => cases hv; exact ⟨_, rfl, hev y⟩
  ·cases lo with
   | none => rfl
   | some y => cases hv
  ·cases hi with
   | none => cases hv
   | some y => cases hv; exact ⟨_, rfl, hev y⟩
  ·cases hi with
   | none => rfl
   | some y => cases hv
 ·rename_i x i ho
  exact val (by simp [execOp, ho]) (extract_ok h.m (hev x) hfx)
 ·rename_i t l c ho
  exact val (by simp [execOp, ho]) (makeSlice_ok h.m hid hlt (hev l) (hev c) hfx)
 ·rename_i f first caps ho
  split at hfx
  ·rename_i he
   cases hfx
   have : first = #[] := by simpa using he
   subst this
   refine now (c := .func f #[] (caps.map a.eval)) (by simp only [execOp, ho, Array.map_empty]; rfl) (Out.same h.m rfl ?_)
   simp only [RL]
   exact ⟨(caps.map a.eval).toList, by rw [Array.toArray_toList], evs_ok hev caps⟩
  ·cases hfx
 ·rename_i op t x y ty ho
  cases hv : evBin (tkAt P t) op (s.ev x) (s.ev y) with
  | none => rw [hv] at hfx; cases hfx
  | some v =>
   rw [hv] at hfx; cases hfx
   exact val (by simp [execOp, ho]) (bin_ok h.m x y (hev x) (hev y) hv)
 ·rename_i op t x ho
  cases hv : evUn op (s.ev x) with
  | none => rw [hv] at hfx; cases hfx
  | some v =>
   rw [hv] at hfx; cases hfx
   exact val (by simp [execOp, ho]) (un_ok h.m (hev x) hv)
 ·rename_i t d x ho
  exact val (by simp [execOp, ho]) (convert_ok h.m (hev x) hfx)
 ·rename_i b args ts ho
  have e : ∃ consts, execOp a.eval o = builtin b ts o.type consts (args.map a.eval) := ⟨_, by simp only [execOp, ho, resolve]; rfl⟩
  obtain ⟨consts, e⟩ := e
  obtain ⟨c, W', r1, c', W'', E', r2, r3⟩ := builtin_ok (ty := o.type) (consts := consts) h.m hid hlt (evs_ok hev args) hfx
  cases r2
  exact ⟨.value c, c, W', E', by rw [e]; exact r1, .inl rfl, r3⟩
 ·cases hfx
end
end Go.Abs
namespace Go.Abs
set_option linter.unusedVariables false
set_option linter.unusedSimpArgs false

theorem RF.of_list {E : Env} {B : Nat} : ∀ (cs : List V) (ds : List Value) (o : Nat), RLs E cs ds → (∀ j d, ds[j]? = some d → E.F B (o + j) = some d) → RF E B o cs
 | [], ds, o, h, k => by simp only [RF]
 | x :: xs, ds, o, h, k => by
  simp only [RLs] at h
  obtain ⟨d, ds', rfl, h1, h2⟩ := h
  simp only [RF]
  refine ⟨⟨d, by simpa using k 0 d (by simp), h1⟩, RF.of_list xs ds' (o + 1) h2 fun j d hj => ?_⟩
  rw [show o + 1 + j = o + (j + 1) by omega]
  exact k (j + 1) d (by simpa using hj)

open Classical in
noncomputable def lentF (E : Env) (W : World) (L : Nat → Bool) : Nat → Nat → Option Value := fun B o =>
 match E.F B o with
 | some d => some d
 | none => if ∃ b I, L b = true ∧ E.σ b = some I ∧ I.dead = false ∧ I.blk = some B then W.cell? ⟨B, o, none⟩ else none
noncomputable def Env.view (E : Env) (W : World) (L : Nat → Bool) (p : Nat) (ids : Nat → Nat) (n : Nat) : Env :=
 { n0 := n, F := lentF E W L, σ := fun j => if j < p then E.σ (ids j) else none }

structure How where
 mem : Nat → Option Blk
 L : Nat → Bool
 ids : Nat → Nat
 p : Nat
 tg : Bool → Bool
 tn : Bool

mutual
inductive Lend (H : How) : V → V → Prop
 | sc (v : Value) : Lend H (.sc v) (.sc v)
 | nil {new : Bool} {e : Nat} : Lend H (.sc (.slice none 0 0)) (.lst new e 0 [])
 | agg {cs cs' : List V} : Lends H cs cs' → cs'.all V.leaf = true → Lend H (.agg cs) (.agg cs')
 | tup {cs cs' : List V} : Lends H cs cs' → Lend H (.tup cs) (.tup cs')
 | lst {new : Bool} {e n : Nat} {cs cs' : List V} : Lends H cs cs' → cs'.all V.leaf = true → Lend H (.lst new e n cs) (.lst (H.tg new) e n cs')
 | rp {cs cs' : List V} : Lends H cs cs' → cs'.all V.leaf = true → Lend H (.rp cs) (.rp cs')
 | fn {f : Fn} {cs cs' : List V} : Lends H cs cs' → Lend H (.fn f cs) (.fn f cs')
 | any (v : V) : Lend H v .any
 | slPass {j b ver e off len : Nat} : j < H.p → H.ids j = b → Lend H (.sl b ver e off len) (.sl j ver e off len)
 | ptrPass {j b ver o : Nat} : j < H.p → H.ids j = b → Lend H (.ptr b ver o) (.ptr j ver o)
 | slLend {b ver off len : Nat} {te e : Nat} {cs cs' : List V} : H.L b = true → H.mem b = some (.arr te e ver cs) → off * e + len * e ≤ cs.length → Lends H ((cs.drop (off * e)).take (len * e)) cs' → cs'.all V.leaf = true → Lend H (.sl b ver e off len) (.lst H.tn e len cs')
 | ptrLend {b ver o : Nat} {k : Blk} {cs' : List V} : H.L b = true → H.mem b = some k → k.hasVer ver = true → Lends H (k.cells.drop o) cs' → cs'.all V.leaf = true → Lend H (.ptr b ver o) (.rp cs')
inductive Lends (H : How) : List V → List V → Prop
 | nil : Lends H [] []
 | cons {x x' : V} {xs xs' : List V} : Lend H x x' → Lends H xs xs' → Lends H (x :: xs) (x' :: xs')
end

theorem Lends.length {H : How} : ∀ {xs ys : List V}, Lends H xs ys → ys.length = xs.length
 | [], _, h => by cases h; rfl
 | x :: xs, _, h => by cases h with | cons _ h => simp [Lends.length h]

section
variable {P : Program} {C : Cx} {E : Env} {mem : Nat → Option Blk} {nx : Nat} {W : World}

theorem lentF_le (E : Env) (W : World) (L : Nat → Bool) {B o : Nat} {d : Value} (h : E.F B o = some d) : lentF E W L B o = some d := by
 unfold lentF; rw [h]
theorem lentF_own {L : Nat → Bool} (h : InvM C E mem nx W) {b : Nat} {I : Info} {B : Nat} (hL : L b = true) (hs : E.σ b = some I) (hd : I.dead = false) (hB : I.blk = some B) (o : Nat) : lentF E W L B o = W.cell? ⟨B, o, none⟩ := by
 unfold lentF
 rw [h.sep b I B hs hd hB o]
 simp only []
 rw [if_pos ⟨b, I, hL, hs, hd, hB⟩]

theorem cellsAt_lent {L : Nat → Bool} (h : InvM C E mem nx W) {b : Nat} {I : Info} {B : Nat} (hL : L b = true) (hs : E.σ b = some I) (hd : I.dead = false) (hB : I.blk = some B) {o : Nat} {ds : List Value} (hc : CellsAt W B o ds) :
  ∀ j d, ds[j]? = some d → lentF E W L B (o + j) = some d := fun j d hj => by rw [lentF_own h hL hs hd hB]; exact hc j d hj

mutual
theorem Lend.ok {H : How} {n : Nat} (hmem : H.mem = mem) (h : InvM C E mem nx W) (htg : ∀ x, H.tg x = true → x = true ∧ n ≤ E.n0)
  (htn : H.tn = true → ∀ b I B, H.L b = true → E.σ b = some I → I.dead = false → I.blk = some B → n ≤ B) :
  ∀ {v v' : V}, Lend H v v' → ∀ c, RL E v c → RL (E.view W H.L H.p H.ids n) v' c
 | _, _, .sc v, c, r => by simpa only [RL] using r
 | _, _, .nil, c, r => by
  simp only [RL] at r ⊢
  exact ⟨none, 0, r, Nat.le_refl _, by simp, rfl, .inl trivial⟩
 | _, _, .agg l hl, c, r => by
  simp only [RL] at r ⊢
  obtain ⟨ds, rfl, r1, r2⟩ := r
  exact ⟨ds, rfl, Lends.ok hmem h htg htn l ds r1, hl⟩
 | _, _, .tup l, c, r => by
  simp only [RL] at r ⊢
  obtain ⟨ds, rfl, r1⟩ := r
  exact ⟨ds, rfl, Lends.ok hmem h htg htn l ds r1⟩
 | _, _, .fn l, c, r => by
  simp only [RL] at r ⊢
  obtain ⟨ds, rfl, r1⟩ := r
  exact ⟨ds, rfl, Lends.ok hmem h htg htn l ds r1⟩
 | _, _, .lst l hl, c, r => by
  simp only [RL] at r ⊢
  obtain ⟨a, cap, rfl, r1, r2, r3, r4⟩ := r
  refine ⟨a, cap, rfl, r1, by rw [l.length, r2], hl, ?_⟩
  rcases r4 with r4 | ⟨B, o, rfl, r5, r6⟩
  ·exact .inl r4
  ·obtain ⟨ds, d1, d2⟩ := RF.list _ _ r6
   refine .inr ⟨B, o, rfl, fun q => ?_, RF.of_list _ ds o (Lends.ok hmem h htg htn l ds d1) fun j d hj => lentF_le _ _ _ (d2 j d hj)⟩
   obtain ⟨q1, q2⟩ := htg _ q
   exact Nat.le_trans q2 (r5 q1)
 | _, _, .rp l hl, c, r => by
  simp only [RL] at r ⊢
  obtain ⟨B, o, rfl, r1, r2⟩ := r
  obtain ⟨ds, d1, d2⟩ := RF.list _ _ r1
  exact ⟨B, o, rfl, RF.of_list _ ds o (Lends.ok hmem h htg htn l ds d1) fun j d hj => lentF_le _ _ _ (d2 j d hj), hl⟩
 | _, _, .any v, c, r => by simp only [RL]
 | _, _, .slPass hj hb, c, r => by
  subst hb
  simp only [RL] at r ⊢
  obtain ⟨a, cap, rfl, q1, q2, q3, I, r1, r2⟩ := r
  exact ⟨a, cap, rfl, q1, q2, q3, I, by simp [Env.view, hj, r1], r2⟩
 | _, _, .ptrPass hj hb, c, r => by
  subst hb
  simp only [RL] at r ⊢
  obtain ⟨B, rfl, I, r1, r2⟩ := r
  exact ⟨B, rfl, I, by simp [Env.view, hj, r1], r2⟩
 | _, _, .slLend hL hm hfit l hl, c, r => by
  rw [hmem] at hm
  obtain ⟨I, g1, g2⟩ := h.blk _ _ hm
  obtain ⟨a1, a2, a3, a4, a5, a6, a7⟩ := g2
  simp only [RL] at r ⊢
  obtain ⟨a, cap, rfl, q1, q2, q3, J, r1, r2⟩ := r
  rw [g1] at r1; cases r1
  have hlen := l.length
  refine ⟨a, cap, rfl, q1, by rw [hlen]; simp; omega, hl, ?_⟩
  rcases r2 with r2 | ⟨r2, r3⟩
  ·rw [a1] at r2; cases r2
  ·obtain ⟨r4, r5⟩ := r3 a2.symm
   rcases r5 with ⟨r5, rfl⟩ | ⟨B, r5, rfl, r7⟩
   ·rcases q3 with ⟨_, _, q3, _⟩ | ⟨B, q3⟩
    ·exact .inl q3
    ·cases q3
   ·refine .inr ⟨B, _, rfl, fun q => htn q _ I B hL g1 a1 r5, ?_⟩
    rcases a7 with ⟨a7, _⟩ | ⟨B', cur, b1, b2, b3, b4, b5, b6⟩
    ·rw [a7] at r5; cases r5
    ·rw [r5] at b1
     obtain rfl : B = B' := Option.some.inj b1
     refine RF.of_list _ _ _ (Lends.ok hmem h htg htn l _ ((b6.drop _).take _)) (cellsAt_lent h hL g1 a1 r5 ?_)
     intro j d hj
     rw [List.getElem?_take] at hj
     split at hj
     ·exact cellsAt_heap b2 _ _ j d hj
     ·cases hj
 | _, _, .ptrLend (o := o) (k := k) hL hm hv l hl, c, r => by
  rw [hmem] at hm
  obtain ⟨I, B, cur, t', g1, g2, g3, g4, rfl, g5, g6, g7, g8, g9⟩ := h.at_ r hm hv
  simp only [RL]
  by_cases hne : k.cells = []
  ·rw [hne] at l
   simp at l
   cases l
   exact ⟨B, o, rfl, by simp only [RF], hl⟩
  ·rcases g8 with g8 | g8
   ·exact absurd g8 hne
   ·exact ⟨B, o, rfl, RF.of_list _ _ _ (Lends.ok hmem h htg htn l _ (g8.drop _)) (cellsAt_lent h hL g1 g2 g4 (cellsAt_heap (g5 hne) _ _)), hl⟩
theorem Lends.ok {H : How} {n : Nat} (hmem : H.mem = mem) (h : InvM C E mem nx W) (htg : ∀ x, H.tg x = true → x = true ∧ n ≤ E.n0)
  (htn : H.tn = true → ∀ b I B, H.L b = true → E.σ b = some I → I.dead = false → I.blk = some B → n ≤ B) :
  ∀ {vs vs' : List V}, Lends H vs vs' → ∀ ds, RLs E vs ds → RLs (E.view W H.L H.p H.ids n) vs' ds
 | _, _, .nil, ds, r => by simpa only [RLs] using r
 | _, _, .cons h1 h2, ds, r => by
  simp only [RLs] at r ⊢
  obtain ⟨d, ds', rfl, r1, r2⟩ := r
  exact ⟨d, ds', rfl, Lend.ok hmem h htg htn h1 d r1, Lends.ok hmem h htg htn h2 ds' r2⟩
end
end
end Go.Abs
namespace Go.Abs
set_option linter.unusedVariables false
set_option linter.unusedSimpArgs false

mutual
def V.fresh : V → Bool
 | .sc _ => true
 | .agg cs => V.freshs cs
 | .tup cs => V.freshs cs
 | .lst new _ _ cs => new && V.freshs cs
 | .rp _ => false
 | .sl .. => false
 | .ptr .. => false
 | .fn _ cs => V.freshs cs
 | .any => true
def V.freshs : List V → Bool
 | [] => true
 | x :: xs => V.fresh x && V.freshs xs
end

mutual
theorem RL.fresh {E E2 : Env} (hn : E2.n0 ≤ E.n0) (hF : ∀ B o d, E.n0 ≤ B → E.F B o = some d → E2.F B o = some d) : ∀ (v : V) (c : Value), V.fresh v = true → RL E v c → RL E2 v c
 | .sc v, c, f, r => by simpa only [RL] using r
 | .agg cs, c, f, r => by
  simp only [RL] at r ⊢
  simp only [V.fresh] at f
  obtain ⟨ds, rfl, r1, r2⟩ := r
  exact ⟨ds, rfl, RLs.fresh hn hF cs ds f r1, r2⟩
 | .tup cs, c, f, r => by
  simp only [RL] at r ⊢
  simp only [V.fresh] at f
  obtain ⟨ds, rfl, r1⟩ := r
  exact ⟨ds, rfl, RLs.fresh hn hF cs ds f r1⟩
 | .lst new e n cs, c, f, r => by
  simp only [RL] at r ⊢
  simp only [V.fresh, Bool.and_eq_true] at f
  obtain ⟨a, cap, rfl, r1, r2, r3, r4⟩ := r
  refine ⟨a, cap, rfl, r1, r2, r3, ?_⟩
  rcases r4 with r4 | ⟨B, o, rfl, r5, r6⟩
  ·exact .inl r4
  ·exact .inr ⟨B, o, rfl, fun q => Nat.le_trans hn (r5 q), RF.fresh hn hF B (r5 f.1) cs o f.2 r6⟩
 | .rp _, c, f, r => by simp [V.fresh] at f
 | .sl .., c, f, r => by simp [V.fresh] at f
 | .ptr .., c, f, r => by simp [V.fresh] at f
 | .fn g cs, c, f, r => by
  simp only [RL] at r ⊢
  simp only [V.fresh] at f
  obtain ⟨ds, rfl, r1⟩ := r
  exact ⟨ds, rfl, RLs.fresh hn hF cs ds f r1⟩
 | .any, c, f, r => by simp only [RL]
theorem RLs.fresh {E E2 : Env} (hn : E2.n0 ≤ E.n0) (hF : ∀ B o d, E.n0 ≤ B → E.F B o = some d → E2.F B o = some d) : ∀ (vs : List V) (ds : List Value), V.freshs vs = true → RLs E vs ds → RLs E2 vs ds
 | [], ds, f, r => by simpa only [RLs] using r
 | x :: xs, ds, f, r => by
  simp only [RLs] at r ⊢
  simp only [V.freshs, Bool.and_eq_true] at f
  obtain ⟨d, ds', rfl, r1, r2⟩ := r
  exact ⟨d, ds', rfl, RL.fresh hn hF x d f.1 r1, RLs.fresh hn hF xs ds' f.2 r2⟩
theorem RF.fresh {E E2 : Env} (hn : E2.n0 ≤ E.n0) (hF : ∀ B o d, E.n0 ≤ B → E.F B o = some d → E2.F B o = some d) (B : Nat) (hB : E.n0 ≤ B) : ∀ (vs : List V) (o : Nat), V.freshs vs = true → RF E B o vs → RF E2 B o vs
 | [], o, f, r => by simp only [RF]
 | x :: xs, o, f, r => by
  simp only [RF] at r ⊢
  simp only [V.freshs, Bool.and_eq_true] at f
  obtain ⟨⟨d, r1, r2⟩, r3⟩ := r
  exact ⟨⟨d, hF B o d hB r1, RL.fresh hn hF x d f.1 r2⟩, RF.fresh hn hF B hB xs (o + 1) f.2 r3⟩
end

def cx (W : World) (S : Nat → Prop) (p : Nat) (F : Nat → Nat → Option Value) : Cx := ⟨W, S, p, F, 0, []⟩
def FnM (P : Program) (f : FuncId) (p : Nat) (m : Nat → Option Blk) (args : List V) (Q : V → (Nat → Option Blk) → Prop) : Prop :=
 ∀ (E : Env) (W : World) (S : Nat → Prop) (cargs : List Value), InvM (cx W S p E.F) E m p W → RLs E args cargs →
  Calls P f cargs.toArray W fun e W' => ∃ c E' res m' nx', e = .returned c ∧ E.le E' ∧ InvM (cx W S p E.F) E' m' nx' W' ∧ RL E' res c ∧ Q res m'
def none' : Nat → Option Blk := fun _ => none
def FnP (P : Program) (f : FuncId) (args : List V) (res : V) : Prop := FnM P f 0 none' args fun r m' => r = res ∧ m' = none'

def killed (L : Nat → Bool) (mem : Nat → Option Blk) : Nat → Option Blk := fun b => if L b then (mem b).map fun _ => Blk.dead else mem b
theorem killed_none (mem : Nat → Option Blk) : killed (fun _ => false) mem = mem := by funext b; simp [killed]

section
variable {P : Program} {C : Cx} {E : Env} {mem : Nat → Option Blk} {nx : Nat} {W : World}

theorem InvM.view (h : InvM C E mem nx W) (L : Nat → Bool) : InvM (cx W (fun _ => False) 0 (E.view W L 0 id W.heap.size).F) (E.view W L 0 id W.heap.size) none' 0 W where
 n0 := rfl
 frz := fun B o d hF => by
  simp only [Env.view] at hF
  unfold lentF at hF
  split at hF
  ·rename_i d' hd; cases hF; exact h.frz B o d hd
  ·split at hF
   ·exact hF
   ·cases hF
 blk := fun b k hk => by cases hk
 dom := fun b I hI => by simp [Env.view] at hI
 nx := fun b k hk => by cases hk
 inj := fun b b' I I' B h1 => by simp [Env.view] at h1
 sep := fun b I B h1 => by simp [Env.view] at h1
 own := fun b I B h1 => by simp [Env.view] at h1
 old := fun B o hB => rfl
 keep := Keeps.refl _ _

theorem InvM.back (h : InvM C E mem nx W) {L : Nat → Bool} {E' : Env} {m' : Nat → Option Blk} {nx' : Nat} {W' : World} (hle : (E.view W L 0 id W.heap.size).le E')
  (h' : InvM (cx W (fun _ => False) 0 (E.view W L 0 id W.heap.size).F) E' m' nx' W') :
  ∃ E2, E.le E2 ∧ InvM C E2 mem nx W' ∧ E2.n0 ≤ E'.n0 ∧ ∀ B o d, E'.n0 ≤ B → E'.F B o = some d → E2.F B o = some d := by
 have hn0 : E'.n0 = W.heap.size := h'.n0
 have hF : ∀ B o d, E.F B o = some d → B < W.heap.size := fun B o d hd => World.block_lt_of_cell? W _ (h.frz B o d hd)
 have same : ∀ B, B < W.heap.size → W'.heap[B]? = W.heap[B]? := fun B hB => h'.keep.block B hB (fun x => x)
 refine ⟨⟨E.n0, fun B o => if B < W.heap.size then E.F B o else E'.F B o, E.σ⟩, ⟨Nat.le_refl _, fun B o d hd => by simp [hF B o d hd, hd], fun b I hI => ⟨I, hI, I.le_refl⟩⟩, ?_, by rw [hn0, h.n0]; exact h.keep.size, fun B o d hB hd => by
  rw [hn0] at hB; simp only []; rw [if_neg (by omega)]; exact hd⟩
 have hE : E.le ⟨E.n0, fun B o => if B < W.heap.size then E.F B o else E'.F B o, E.σ⟩ := ⟨Nat.le_refl _, fun B o d hd => by simp [hF B o d hd, hd], fun b I hI => ⟨I, hI, I.le_refl⟩⟩
 refine ⟨h.n0, ?_, ?_, h.dom, h.nx, h.inj, ?_, h.own, ?_, ?_⟩
 ·intro B o d hd
  simp only [] at hd
  split at hd
  ·rename_i hB
   rw [← h.frz B o d hd]
   exact World.cell?_of_block (same B hB)
  ·exact h'.frz B o d hd
 ·intro b k hk
  obtain ⟨I, h1, h2⟩ := h.blk b k hk
  refine ⟨I, h1, ?_⟩
  by_cases hd : I.dead = true
  ·cases k with
   | dead => exact hd
   | box cs => obtain ⟨h3, _⟩ := h2; rw [hd] at h3; cases h3
   | arr te e ver cs => obtain ⟨h3, _⟩ := h2; rw [hd] at h3; cases h3
  ·exact h2.mono hE fun B hB => same B (h2.lt (by simpa using hd) hB)
 ·intro b I B h1 h2 h3 o
  simp only []
  rw [if_pos (h.lt h1 h2 h3)]
  exact h.sep b I B h1 h2 h3 o
 ·intro B o hB
  have := h.keep.size
  simp only []
  rw [if_pos (by omega)]
  exact h.old B o hB
 ·refine ⟨h'.keep.os.trans h.keep.os, h'.keep.tape.trans h.keep.tape, h'.keep.output.trans h.keep.output, Nat.le_trans h.keep.size h'.keep.size, fun k hk hS => ?_⟩
  rw [← h.keep.block k hk hS]
  exact same k (Nat.lt_of_lt_of_le hk h.keep.size)

theorem InvM.shared (h : InvM C E mem nx W) {L : Nat → Bool} (hL : ∀ b, L b = true → C.p ≤ b) {E' : Env} {nx' : Nat} {W' : World} (hle : (E.view W L 0 id W.heap.size).le E')
  (h' : InvM (cx W (fun _ => False) 0 (E.view W L 0 id W.heap.size).F) E' none' nx' W') :
  ∃ E2, E.le E2 ∧ InvM C E2 (killed L mem) nx W' ∧ E'.le E2 := by
 have hn0 : E'.n0 = W.heap.size := h'.n0
 have hσ : ∀ b, E'.σ b = none := fun b => by
  cases hs : E'.σ b with
  | none => rfl
  | some I => obtain ⟨k, hk⟩ := h'.dom b I hs; cases hk
 have same : ∀ B, B < W.heap.size → W'.heap[B]? = W.heap[B]? := fun B hB => h'.keep.block B hB (fun x => x)
 have hFo : ∀ B o, B < W.heap.size → E'.F B o = lentF E W L B o := fun B o hB => h'.old B o hB
 have hFE : ∀ B o d, E.F B o = some d → E'.F B o = some d := fun B o d hd => hle.F B o d (lentF_le _ _ _ hd)
 have hE : E.le ⟨E.n0, E'.F, fun b => if L b then (E.σ b).map fun I => { I with dead := true } else E.σ b⟩ := ⟨Nat.le_refl _, hFE, fun b I hI => by
  by_cases hb : L b = true
  ·exact ⟨{ I with dead := true }, by simp [hb, hI], .inr (.inl rfl)⟩
  ·exact ⟨I, by simp [hb, hI], I.le_refl⟩⟩
 refine ⟨_, hE, ?_, ⟨by rw [hn0, h.n0]; exact h.keep.size, fun B o d hd => hd, fun b I hI => by rw [hσ] at hI; cases hI⟩⟩
 have live : ∀ b I, (if L b then (E.σ b).map fun I => { I with dead := true } else E.σ b) = some I → I.dead = false → L b = false ∧ E.σ b = some I := by
  intro b I hI hd
  by_cases hb : L b = true
  ·rw [if_pos hb] at hI
   cases hs : E.σ b with
   | none => rw [hs] at hI; cases hI
   | some J => rw [hs] at hI; simp at hI; subst hI; cases hd
  ·rw [if_neg hb] at hI; exact ⟨by simpa using hb, hI⟩
 refine ⟨h.n0, h'.frz, ?_, ?_, ?_, ?_, ?_, ?_, ?_, ?_⟩
 ·intro b k hk
  unfold killed at hk
  by_cases hb : L b = true
  ·rw [if_pos hb] at hk
   cases hm : mem b with
   | none => rw [hm] at hk; cases hk
   | some k0 =>
    rw [hm] at hk; simp at hk; subst hk
    obtain ⟨I, h1, h2⟩ := h.blk b k0 hm
    exact ⟨{ I with dead := true }, by simp [hb, h1], rfl⟩
  ·rw [if_neg hb] at hk
   obtain ⟨I, h1, h2⟩ := h.blk b k hk
   refine ⟨I, by simp [hb, h1], ?_⟩
   by_cases hd : I.dead = true
   ·cases k with
    | dead => exact hd
    | box cs => obtain ⟨h3, _⟩ := h2; rw [hd] at h3; cases h3
    | arr te e ver cs => obtain ⟨h3, _⟩ := h2; rw [hd] at h3; cases h3
   ·exact h2.mono hE fun B hB => same B (h2.lt (by simpa using hd) hB)
 ·intro b I hI
  simp only [] at hI
  unfold killed
  by_cases hb : L b = true
  ·rw [if_pos hb] at hI ⊢
   cases hs : E.σ b with
   | none => rw [hs] at hI; cases hI
   | some J =>
    obtain ⟨k, hk⟩ := h.dom b J hs
    exact ⟨.dead, by rw [hk]; rfl⟩
  ·rw [if_neg hb] at hI ⊢
   exact h.dom b I hI
 ·intro b k hk
  unfold killed at hk
  by_cases hb : L b = true
  ·rw [if_pos hb] at hk
   cases hm : mem b with
   | none => rw [hm] at hk; cases hk
   | some k0 => exact h.nx b k0 hm
  ·rw [if_neg hb] at hk; exact h.nx b k hk
 ·intro b b' I I' B h1 h2 h3 h4 h5 h6
  exact h.inj b b' I I' B (live b I h1 h3).2 (live b' I' h2 h4).2 h3 h4 h5 h6
 ·intro b I B h1 h2 h3 o
  obtain ⟨l1, l2⟩ := live b I h1 h2
  have hB := h.lt l2 h2 h3
  show E'.F B o = none
  rw [hFo B o hB]
  unfold lentF
  rw [h.sep b I B l2 h2 h3 o]
  simp only []
  rw [if_neg]
  rintro ⟨b', I', g1, g2, g3, g4⟩
  have := h.inj b b' I I' B l2 g2 h2 g3 h3 g4
  subst this
  rw [l1] at g1; cases g1
 ·intro b I B h1 h2 h3
  exact h.own b I B (live b I h1 h2).2 h2 h3
 ·intro B o hB
  have hsz := h.keep.size
  show E'.F B o = _
  rw [hFo B o (by omega), ← h.old B o hB]
  unfold lentF
  cases hf : E.F B o with
  | some d => rfl
  | none =>
   simp only []
   rw [if_neg]
   rintro ⟨b', I', g1, g2, g3, g4⟩
   rcases h.own b' I' B g2 g3 g4 with g5 | ⟨g5, _⟩
   ·omega
   ·have := hL b' g1; omega
 ·refine ⟨h'.keep.os.trans h.keep.os, h'.keep.tape.trans h.keep.tape, h'.keep.output.trans h.keep.output, Nat.le_trans h.keep.size h'.keep.size, fun k hk hS => ?_⟩
  rw [← h.keep.block k hk hS]
  exact same k (Nat.lt_of_lt_of_le hk h.keep.size)
end
end Go.Abs

namespace Go.Abs
inductive BLend (H : How) : Blk → Blk → Prop
 | box {cs cs' : List V} : Lends H cs cs' → cs'.all V.leaf = true → BLend H (.box cs) (.box cs')
 | arr {te e ver : Nat} {cs cs' : List V} : Lends H cs cs' → cs'.all V.leaf = true → BLend H (.arr te e ver cs) (.arr te e ver cs')


theorem BLend.ok {C : Cx} {E : Env} {mem : Nat → Option Blk} {nx : Nat} {W : World} {H : How} {n : Nat} (hmem : H.mem = mem) (h : InvM C E mem nx W) (htg : ∀ x, H.tg x = true → x = true ∧ n ≤ E.n0)
  (htn : H.tn = true → ∀ b I B, H.L b = true → E.σ b = some I → I.dead = false → I.blk = some B → n ≤ B) {k k' : Blk} (hl : BLend H k k') {I : Info} (hk : BlkOK E W I k) : BlkOK (E.view W H.L H.p H.ids n) W I k' := by
 cases hl with
 | box l hl =>
  obtain ⟨h1, h2, h3, B, cur, t, h4, h5, h6, h7, h8⟩ := hk
  exact ⟨h1, h2, h3, B, cur, t, h4, h5, by rw [l.length]; exact h6, hl, by rw [l.length]; exact Lends.ok hmem h htg htn l _ h8⟩
 | arr l hl =>
  obtain ⟨h1, h2, h3, h4, h5, ⟨m, h6⟩, h7⟩ := hk
  refine ⟨h1, h2, h3, h4, hl, ⟨m, by rw [l.length]; exact h6⟩, ?_⟩
  rcases h7 with ⟨h7, h8⟩ | ⟨B, cur, a1, a2, a3, a4, a5, a6⟩
  ·subst h8
   cases l
   exact .inl ⟨h7, rfl⟩
  ·exact .inr ⟨B, cur, a1, a2, a3, a4, by rw [l.length]; exact a5, by rw [l.length]; exact Lends.ok hmem h htg htn l _ a6⟩


mutual
def V.ren (r : Nat → Nat) : V → V
 | .sc v => .sc v
 | .agg cs => .agg (V.rens r cs)
 | .tup cs => .tup (V.rens r cs)
 | .lst new e n cs => .lst new e n (V.rens r cs)
 | .rp cs => .rp (V.rens r cs)
 | .sl b v e o l => .sl (r b) v e o l
 | .ptr b v o => .ptr (r b) v o
 | .fn f cs => .fn f (V.rens r cs)
 | .any => .any
def V.rens (r : Nat → Nat) : List V → List V
 | [] => []
 | x :: xs => V.ren r x :: V.rens r xs
end
def Blk.ren (r : Nat → Nat) : Blk → Blk
 | .box cs => .box (V.rens r cs)
 | .arr te e v cs => .arr te e v (V.rens r cs)
 | .dead => .dead
theorem V.ren_leaf (r : Nat → Nat) (v : V) : (v.ren r).leaf = v.leaf := by cases v <;> simp [V.ren, V.leaf]
theorem V.rens_leaf (r : Nat → Nat) : ∀ (vs : List V), (V.rens r vs).all V.leaf = vs.all V.leaf
 | [] => by simp [V.rens]
 | v :: vs => by simp [V.rens, V.ren_leaf, V.rens_leaf r vs]
theorem V.rens_length (r : Nat → Nat) : ∀ (vs : List V), (V.rens r vs).length = vs.length
 | [] => by simp [V.rens]
 | v :: vs => by simp [V.rens, V.rens_length r vs]
mutual
theorem RL.ren {E E2 : Env} {r : Nat → Nat} (hn : E2.n0 ≤ E.n0) (hF : ∀ B o d, E.F B o = some d → E2.F B o = some d) (hσ : ∀ b I, E.σ b = some I → E2.σ (r b) = some I) : ∀ (v : V) (c : Value), RL E v c → RL E2 (v.ren r) c
 | .sc v, c, h => by simpa only [V.ren, RL] using h
 | .agg cs, c, h => by
  simp only [V.ren, RL] at h ⊢
  obtain ⟨ds, rfl, r1, r2⟩ := h
  exact ⟨ds, rfl, RLs.ren hn hF hσ cs ds r1, by rw [V.rens_leaf]; exact r2⟩
 | .tup cs, c, h => by
  simp only [V.ren, RL] at h ⊢
  obtain ⟨ds, rfl, r1⟩ := h
  exact ⟨ds, rfl, RLs.ren hn hF hσ cs ds r1⟩
 | .lst new e m cs, c, h => by
  simp only [V.ren, RL] at h ⊢
  obtain ⟨a, cap, rfl, r1, r2, r3, r4⟩ := h
  refine ⟨a, cap, rfl, r1, by rw [V.rens_length]; exact r2, by rw [V.rens_leaf]; exact r3, ?_⟩
  rcases r4 with r4 | ⟨B, o, rfl, r5, r6⟩
  ·exact .inl r4
  ·exact .inr ⟨B, o, rfl, fun q => Nat.le_trans hn (r5 q), RF.ren hn hF hσ B cs o r6⟩
 | .rp cs, c, h => by
  simp only [V.ren, RL] at h ⊢
  obtain ⟨B, o, rfl, r1, r2⟩ := h
  exact ⟨B, o, rfl, RF.ren hn hF hσ B cs o r1, by rw [V.rens_leaf]; exact r2⟩
 | .sl b ver e off len, c, h => by
  simp only [V.ren, RL] at h ⊢
  obtain ⟨a, cap, rfl, q1, q2, q3, I, h1, h2⟩ := h
  exact ⟨a, cap, rfl, q1, q2, q3, I, hσ b I h1, h2⟩
 | .ptr b ver o, c, h => by
  simp only [V.ren, RL] at h ⊢
  obtain ⟨B, rfl, I, h1, h2⟩ := h
  exact ⟨B, rfl, I, hσ b I h1, h2⟩
 | .fn g cs, c, h => by
  simp only [V.ren, RL] at h ⊢
  obtain ⟨ds, rfl, r1⟩ := h
  exact ⟨ds, rfl, RLs.ren hn hF hσ cs ds r1⟩
 | .any, c, h => by simp only [V.ren, RL]
theorem RLs.ren {E E2 : Env} {r : Nat → Nat} (hn : E2.n0 ≤ E.n0) (hF : ∀ B o d, E.F B o = some d → E2.F B o = some d) (hσ : ∀ b I, E.σ b = some I → E2.σ (r b) = some I) : ∀ (vs : List V) (ds : List Value), RLs E vs ds → RLs E2 (V.rens r vs) ds
 | [], ds, h => by simpa only [V.rens, RLs] using h
 | x :: xs, ds, h => by
  simp only [V.rens, RLs] at h ⊢
  obtain ⟨d, ds', rfl, r1, r2⟩ := h
  exact ⟨d, ds', rfl, RL.ren hn hF hσ x d r1, RLs.ren hn hF hσ xs ds' r2⟩
theorem RF.ren {E E2 : Env} {r : Nat → Nat} (hn : E2.n0 ≤ E.n0) (hF : ∀ B o d, E.F B o = some d → E2.F B o = some d) (hσ : ∀ b I, E.σ b = some I → E2.σ (r b) = some I) (B : Nat) : ∀ (vs : List V) (o : Nat), RF E B o vs → RF E2 B o (V.rens r vs)
 | [], o, h => by simp only [V.rens, RF]
 | x :: xs, o, h => by
  simp only [V.rens, RF] at h ⊢
  obtain ⟨⟨d, r1, r2⟩, r3⟩ := h
  exact ⟨⟨d, hF B o d r1, RL.ren hn hF hσ x d r2⟩, RF.ren hn hF hσ B xs (o + 1) r3⟩
end
theorem BlkOK.ren {E E2 : Env} {r : Nat → Nat} (hn : E2.n0 ≤ E.n0) (hF : ∀ B o d, E.F B o = some d → E2.F B o = some d) (hσ : ∀ b I, E.σ b = some I → E2.σ (r b) = some I) {W : World} {I : Info} {k : Blk} (h : BlkOK E W I k) : BlkOK E2 W I (k.ren r) := by
 cases k with
 | dead => exact h
 | box cs =>
  obtain ⟨h1, h2, h3, B, cur, t, h4, h5, h6, h7, h8⟩ := h
  exact ⟨h1, h2, h3, B, cur, t, h4, h5, by rw [V.rens_length]; exact h6, by rw [V.rens_leaf]; exact h7, by rw [V.rens_length]; exact RLs.ren hn hF hσ _ _ h8⟩
 | arr te e ver cs =>
  obtain ⟨h1, h2, h3, h4, h5, h6, h7⟩ := h
  refine ⟨h1, h2, h3, h4, by rw [V.rens_leaf]; exact h5, by rw [V.rens_length]; exact h6, ?_⟩
  rcases h7 with ⟨h7, h8⟩ | ⟨B, cur, a1, a2, a3, a4, a5, a6⟩
  ·subst h8; exact .inl ⟨h7, rfl⟩
  ·exact .inr ⟨B, cur, a1, a2, a3, a4, by rw [V.rens_length]; exact a5, by rw [V.rens_length]; exact RLs.ren hn hF hσ _ _ a6⟩

def FnD (P : Program) (f : FuncId) (bs : List Blk) (args : List V) (res : V) (bs' : List Blk) : Prop :=
 FnM P f bs.length (fun j => bs[j]?) args fun r m' => r = res ∧ m' = fun j => bs'[j]?
def passHow (mem : Nat → Option Blk) (bs : List Nat) : How := ⟨mem, fun _ => false, fun j => bs.getD j 0, bs.length, fun _ => false, false⟩
def passIds (bs : List Nat) (id : Nat) : Nat → Nat := fun j => bs.getD j id
def passUps (r : Nat → Nat) : Nat → List Blk → List (Nat × Blk)
 | _, [] => []
 | j, k :: ks => (r j, k.ren r) :: passUps r (j + 1) ks

section
variable {P : Program} {C : Cx} {E : Env} {mem : Nat → Option Blk} {nx : Nat} {W : World}
theorem nodup_inj {l : List Nat} (h : l.Nodup) {i j : Nat} {hi : i < l.length} {hj : j < l.length} (e : l[i] = l[j]) : i = j := by
 have := List.pairwise_iff_getElem.1 h
 rcases Nat.lt_trichotomy i j with q | q | q
 ·exact absurd e (this i j hi hj q)
 ·exact q
 ·exact absurd e.symm (this j i hj hi q)
def passS (E : Env) (bs : List Nat) (B : Nat) : Prop := ∃ b I, b ∈ bs ∧ E.σ b = some I ∧ I.dead = false ∧ I.blk = some B
theorem lentF_no (E : Env) (W : World) : lentF E W (fun _ => false) = E.F := by
 funext B o
 unfold lentF
 cases E.F B o with
 | some d => rfl
 | none => simp

theorem InvM.into (h : InvM C E mem nx W) {bs : List Nat} (hnd : bs.Nodup) {m : List Blk} (hlen : m.length = bs.length) (hm : ∀ j k', m[j]? = some k' → ∃ k, mem (bs.getD j 0) = some k ∧ BLend (passHow mem bs) k k') :
  InvM (cx W (passS E bs) bs.length (E.view W (fun _ => false) bs.length (fun j => bs.getD j 0) W.heap.size).F) (E.view W (fun _ => false) bs.length (fun j => bs.getD j 0) W.heap.size) (fun j => m[j]?) bs.length W where
 n0 := rfl
 frz := fun B o d hF => by
  simp only [Env.view, lentF_no] at hF
  exact h.frz B o d hF
 blk := fun j k' hk' => by
  obtain ⟨k, e1, e2⟩ := hm j k' hk'
  obtain ⟨I, g1, g2⟩ := h.blk _ _ e1
  have hj : j < bs.length := by rw [← hlen]; exact (List.getElem?_eq_some_iff.1 hk').1
  exact ⟨I, by show (if j < bs.length then E.σ (bs.getD j 0) else none) = some I; rw [if_pos hj]; exact g1, BLend.ok (H := passHow mem bs) rfl h (fun x hx => by simp [passHow] at hx) (fun hx => by simp [passHow] at hx) e2 g2⟩
 dom := fun j I hI => by
  simp only [Env.view] at hI
  split at hI
  ·rename_i hj; exact ⟨m[j], by simp [hlen, hj]⟩
  ·cases hI
 nx := fun j k hk => by rw [← hlen]; exact (List.getElem?_eq_some_iff.1 hk).1
 inj := fun i j I J B h1 h2 h3 h4 h5 h6 => by
  simp only [Env.view] at h1 h2
  split at h1
  ·rename_i hi
   split at h2
   ·rename_i hj
    have := h.inj _ _ I J B h1 h2 h3 h4 h5 h6
    simp only [List.getD_eq_getElem?_getD, List.getElem?_eq_getElem hi, List.getElem?_eq_getElem hj, Option.getD_some] at this
    exact nodup_inj hnd this
   ·cases h2
  ·cases h1
 sep := fun j I B h1 h2 h3 o => by
  simp only [Env.view] at h1
  split at h1
  ·simp only [Env.view, lentF_no]; exact h.sep _ I B h1 h2 h3 o
  ·cases h1
 own := fun j I B h1 h2 h3 => by
  simp only [Env.view] at h1
  split at h1
  ·rename_i hj
   refine .inr ⟨hj, bs.getD j 0, I, ?_, h1, h2, h3⟩
   simp [List.getElem?_eq_getElem hj]
  ·cases h1
 old := fun B o hB => rfl
 keep := Keeps.refl _ _

theorem passUps_get (r : Nat → Nat) : ∀ (ks : List Blk) (j0 : Nat) (m : Nat → Option Blk) (b : Nat), (∀ i j, j0 ≤ i → i < j0 + ks.length → j0 ≤ j → j < j0 + ks.length → r i = r j → i = j) →
  (∀ j k, ks[j]? = some k → b = r (j0 + j) → (passUps r j0 ks).foldl (fun m p => fun i => if i = p.1 then some p.2 else m i) m b = some (k.ren r)) ∧
  ((∀ j, j < ks.length → b ≠ r (j0 + j)) → (passUps r j0 ks).foldl (fun m p => fun i => if i = p.1 then some p.2 else m i) m b = m b)
 | [], j0, m, b, _ => ⟨fun j k hk => by simp at hk, fun _ => rfl⟩
 | k0 :: ks, j0, m, b, hinj => by
  have hi' : ∀ i j, j0 + 1 ≤ i → i < j0 + 1 + ks.length → j0 + 1 ≤ j → j < j0 + 1 + ks.length → r i = r j → i = j := fun i j h1 h2 h3 h4 => hinj i j (by omega) (by simp; omega) (by omega) (by simp; omega)
  obtain ⟨ih1, ih2⟩ := passUps_get r ks (j0 + 1) (fun i => if i = r j0 then some (k0.ren r) else m i) b hi'
  refine ⟨fun j k hk hb => ?_, fun hne => ?_⟩
  ·unfold passUps
   rw [List.foldl_cons]
   cases j with
   | zero =>
    simp at hk; subst hk
    rw [ih2]
    ·simp [hb]
    ·intro j hj e
     have := hinj j0 (j0 + 1 + j) (by omega) (by simp) (by omega) (by simp; omega) (by rw [← e, hb]; rfl)
     omega
   | succ j =>
    simp at hk
    exact ih1 j k hk (by rw [hb]; congr 1; omega)
  ·unfold passUps
   rw [List.foldl_cons]
   rw [ih2]
   ·have := hne 0 (by simp)
    simp at this
    simp [this]
   ·intro j hj e
    exact hne (j + 1) (by simp; omega) (by rw [e]; congr 1; omega)

def boxes (n : Nat) (m : List Blk) : Prop := m.length = n ∧ ∀ k ∈ m, ∃ cs, k = .box cs
theorem boxes_stay {W : World} {E' : Env} {m' : List Blk} {n j : Nat} (hb : boxes n m') (hblk : ∀ j k, m'[j]? = some k → ∃ I, E'.σ j = some I ∧ BlkOK E' W I k) (hj : j < n) {I J : Info} (h : I.le J) (hJ : E'.σ j = some J) (hd : J.dead = false) : J = I := by
 rcases h with h | h | ⟨h1, h2⟩
 ·exact h
 ·rw [hd] at h; cases h
 ·have hjm : j < m'.length := by rw [hb.1]; exact hj
  obtain ⟨cs, e⟩ := hb.2 m'[j] (List.getElem_mem hjm)
  obtain ⟨K, g1, g2⟩ := hblk j m'[j] (by simp [hjm])
  rw [hJ] at g1; cases g1
  rw [e] at g2
  obtain ⟨_, g3, _⟩ := g2
  omega
open Classical in
theorem InvM.outof (h : InvM C E mem nx W) {bs : List Nat} {id : Nat} (hnd : bs.Nodup) (hsome : ∀ b ∈ bs, (mem b).isSome = true) (hid : mem id = none) (hlt : id < nx) {m' : List Blk} (hside : (∀ b ∈ bs, b < C.p) ∨ (∀ b ∈ bs, C.p ≤ b) ∨ boxes bs.length m') (hl1 : bs.length ≤ m'.length) (hl2 : m'.length ≤ bs.length + 1)
  {E' : Env} {nx' : Nat} {W' : World} (hle : (E.view W (fun _ => false) bs.length (fun j => bs.getD j 0) W.heap.size).le E')
  (h' : InvM (cx W (passS E bs) bs.length (E.view W (fun _ => false) bs.length (fun j => bs.getD j 0) W.heap.size).F) E' (fun j => m'[j]?) nx' W') :
  ∃ E2, E.le E2 ∧ InvM C E2 ((passUps (passIds bs id) 0 m').foldl (fun m p => fun i => if i = p.1 then some p.2 else m i) mem) nx W' ∧ ∀ v c, RL E' v c → RL E2 (v.ren (passIds bs id)) c := by
 have hidb : id ∉ bs := fun hx => by have := hsome id hx; rw [hid] at this; cases this
 have hE'n0 : E'.n0 = W.heap.size := h'.n0
 -- the places of the blocks
 have hr : ∀ j (hj : j < bs.length), passIds bs id j = bs[j] := fun j hj => by simp [passIds, hj]
 have hrn : passIds bs id bs.length = id := by simp [passIds]
 have rinj : ∀ i j, i < m'.length → j < m'.length → passIds bs id i = passIds bs id j → i = j := by
  intro i j hi hj e
  rcases Nat.lt_or_ge i bs.length with h1 | h1 <;> rcases Nat.lt_or_ge j bs.length with h2 | h2
  ·rw [hr i h1, hr j h2] at e
   exact nodup_inj hnd e
  ·have : j = bs.length := by omega
   subst this
   rw [hr i h1, hrn] at e
   exact absurd (e ▸ List.getElem_mem h1) hidb
  ·have : i = bs.length := by omega
   subst this
   rw [hr j h2, hrn] at e
   exact absurd (e ▸ List.getElem_mem h2) hidb
  ·omega
 have σ' : ∀ j I, E'.σ j = some I → j < m'.length := fun j I hI => by
  obtain ⟨k, hk⟩ := h'.dom j I hI
  exact (List.getElem?_eq_some_iff.1 hk).1
 let inv : Nat → Option Nat := fun b => if hx : ∃ j, j < m'.length ∧ passIds bs id j = b then some (Classical.choose hx) else none
 have inv1 : ∀ j, j < m'.length → inv (passIds bs id j) = some j := fun j hj => by
  have hx : ∃ i, i < m'.length ∧ passIds bs id i = passIds bs id j := ⟨j, hj, rfl⟩
  simp only [inv]
  rw [dif_pos hx]
  have := Classical.choose_spec hx
  rw [rinj _ _ this.1 hj this.2]
 have inv2 : ∀ b j, inv b = some j → j < m'.length ∧ passIds bs id j = b := fun b j hb => by
  simp only [inv] at hb
  split at hb
  ·rename_i hx; cases hb; exact Classical.choose_spec hx
  ·cases hb
 have inv3 : ∀ b, inv b = none → ∀ j, j < m'.length → b ≠ passIds bs id j := fun b hb j hj e => by
  rw [e, inv1 j hj] at hb; cases hb
 have inbs : ∀ b ∈ bs, ∃ j, j < bs.length ∧ inv b = some j ∧ bs.getD j 0 = b := fun b hb => by
  obtain ⟨j, hj, e⟩ := List.getElem_of_mem hb
  exact ⟨j, hj, by rw [← e, ← hr j hj]; exact inv1 j (by omega), by simp [hj, e]⟩
 have hFE : ∀ B o d, E.F B o = some d → E'.F B o = some d := fun B o d hd => hle.F B o d (by simp only [Env.view, lentF_no]; exact hd)
 have hFo : ∀ B o, B < W.heap.size → E'.F B o = E.F B o := fun B o hB => by
  have := h'.old B o hB
  rw [this]; simp only [cx, Env.view, lentF_no]
 have same : ∀ B, B < W.heap.size → ¬ passS E bs B → W'.heap[B]? = W.heap[B]? := fun B hB hn => h'.keep.block B hB hn
 have out_ : ∀ b, inv b = none → b ∉ bs := fun b hb hx => by
  obtain ⟨j, _, e, _⟩ := inbs b hx
  rw [hb] at e; cases e
 have hE : E.le ⟨E.n0, E'.F, fun b => match inv b with | some j => E'.σ j | none => E.σ b⟩ := ⟨Nat.le_refl _, hFE, fun b I hI => by
  cases hb : inv b with
  | none => exact ⟨I, by simp [hb, hI], I.le_refl⟩
  | some j =>
   obtain ⟨j1, j2⟩ := inv2 b j hb
   have hj : j < bs.length := by
    rcases Nat.lt_or_ge j bs.length with h1 | h1
    ·exact h1
    ·have : j = bs.length := by omega
     subst this
     rw [hrn] at j2; subst j2
     obtain ⟨k, hk⟩ := h.dom _ I hI
     rw [hid] at hk; cases hk
   rw [hr j hj] at j2
   obtain ⟨J, e1, e2⟩ := hle.σ j I (by simp [Env.view, hj, j2, hI])
   exact ⟨J, by simp [hb, e1], e2⟩⟩
 have hσr : ∀ j I, E'.σ j = some I → (fun b => match inv b with | some j => E'.σ j | none => E.σ b) (passIds bs id j) = some I := fun j I hI => by
  simp only [inv1 j (σ' j I hI), hI]
 have hn2 : (Env.mk E.n0 E'.F (fun b => match inv b with | some j => E'.σ j | none => E.σ b)).n0 ≤ E'.n0 := by
  rw [hE'n0]; show E.n0 ≤ _; rw [h.n0]; exact h.keep.size
 -- blocks outside of what was handed on
 have live : ∀ b I B, inv b = none → E.σ b = some I → I.dead = false → I.blk = some B → B < W.heap.size ∧ ¬ passS E bs B := by
  intro b I B hb hI hd hB
  refine ⟨h.lt hI hd hB, ?_⟩
  rintro ⟨b', I', g1, g2, g3, g4⟩
  have := h.inj b b' I I' B hI g2 hd g3 hB g4
  subst this
  exact out_ b hb g1
 have ups := fun b => passUps_get (passIds bs id) m' 0 mem b (fun i j _ hi _ hj => rinj i j (by omega) (by omega))
 refine ⟨_, hE, ?_, fun v c hv => RL.ren hn2 (fun _ _ _ x => x) hσr v c hv⟩
 refine ⟨h.n0, h'.frz, ?_, ?_, ?_, ?_, ?_, ?_, ?_, ?_⟩
 ·intro b k hk
  cases hb : inv b with
  | none =>
   rw [(ups b).2 fun j hj => by rw [Nat.zero_add]; exact inv3 b hb j hj] at hk
   obtain ⟨I, g1, g2⟩ := h.blk b k hk
   refine ⟨I, by simp [hb, g1], ?_⟩
   by_cases hd : I.dead = true
   ·cases k with
    | dead => exact hd
    | box cs => obtain ⟨h3, _⟩ := g2; rw [hd] at h3; cases h3
    | arr te e ver cs => obtain ⟨h3, _⟩ := g2; rw [hd] at h3; cases h3
   ·have hd : I.dead = false := by simpa using hd
    exact g2.mono hE fun B hB => by
     obtain ⟨l1, l2⟩ := live b I B hb g1 hd hB
     exact same B l1 l2
  | some j =>
   obtain ⟨j1, j2⟩ := inv2 b j hb
   rw [(ups b).1 j m'[j] (by simp [j1]) (by rw [Nat.zero_add]; exact j2.symm)] at hk
   cases hk
   obtain ⟨I, g1, g2⟩ := h'.blk j m'[j] (by simp [j1])
   exact ⟨I, by simp [hb, g1], g2.ren hn2 (fun _ _ _ x => x) hσr⟩
 ·intro b I hI
  cases hb : inv b with
  | none =>
   simp only [hb] at hI
   rw [(ups b).2 fun j hj => by rw [Nat.zero_add]; exact inv3 b hb j hj]
   exact h.dom b I hI
  | some j =>
   obtain ⟨j1, j2⟩ := inv2 b j hb
   exact ⟨_, (ups b).1 j m'[j] (by simp [j1]) (by rw [Nat.zero_add]; exact j2.symm)⟩
 ·intro b k hk
  cases hb : inv b with
  | none =>
   rw [(ups b).2 fun j hj => by rw [Nat.zero_add]; exact inv3 b hb j hj] at hk
   exact h.nx b k hk
  | some j =>
   obtain ⟨j1, j2⟩ := inv2 b j hb
   rcases Nat.lt_or_ge j bs.length with hj | hj
   ·rw [hr j hj] at j2
    have := hsome b (j2 ▸ List.getElem_mem hj)
    obtain ⟨k', hk'⟩ := Option.isSome_iff_exists.1 this
    exact h.nx b k' hk'
   ·have : j = bs.length := by omega
    subst this
    rw [hrn] at j2
    omega
 ·intro b b' I I' B h1 h2 d1 d2 e1 e2
  cases hb : inv b with
  | none =>
   simp only [hb] at h1
   cases hb' : inv b' with
   | none => simp only [hb'] at h2; exact h.inj b b' I I' B h1 h2 d1 d2 e1 e2
   | some j =>
    simp only [hb'] at h2
    exfalso
    obtain ⟨l1, l2⟩ := live b I B hb h1 d1 e1
    rcases h'.own j I' B h2 d2 e2 with g | ⟨_, g⟩
    ·simp [cx] at g; omega
    ·exact l2 g
  | some i =>
   simp only [hb] at h1
   cases hb' : inv b' with
   | none =>
    simp only [hb'] at h2
    exfalso
    obtain ⟨l1, l2⟩ := live b' I' B hb' h2 d2 e2
    rcases h'.own i I B h1 d1 e1 with g | ⟨_, g⟩
    ·simp [cx] at g; omega
    ·exact l2 g
   | some j =>
    simp only [hb'] at h2
    have := h'.inj i j I I' B h1 h2 d1 d2 e1 e2
    subst this
    rw [← (inv2 b i hb).2, ← (inv2 b' i hb').2]
 ·intro b I B h1 d1 e1 o
  cases hb : inv b with
  | none =>
   simp only [hb] at h1
   show E'.F B o = none
   rw [hFo B o (h.lt h1 d1 e1)]
   exact h.sep b I B h1 d1 e1 o
  | some j => simp only [hb] at h1; exact h'.sep j I B h1 d1 e1 o
 ·intro b I B h1 d1 e1
  cases hb : inv b with
  | none => simp only [hb] at h1; exact h.own b I B h1 d1 e1
  | some j =>
   simp only [hb] at h1
   obtain ⟨j1, j2⟩ := inv2 b j hb
   rcases h'.own j I B h1 d1 e1 with g | ⟨_, b', I', g1, g2, g3, g4⟩
   ·left; have := h.keep.size; simp [cx] at g; omega
   ·rcases h.own b' I' B g2 g3 g4 with q | ⟨q1, q2⟩
    ·exact .inl q
    ·rcases hside with hs | hs | hs
     ·right
      refine ⟨?_, q2⟩
      rcases Nat.lt_or_ge j bs.length with hj | hj
      ·rw [hr j hj] at j2
       exact hs b (j2 ▸ List.getElem_mem hj)
      ·exfalso
       rename_i hjj
       simp [cx] at hjj
       omega
     ·right; have := hs b' g1; omega
     ·have hj : j < bs.length := by rw [← hs.1]; exact j1
      rw [hr j hj] at j2
      obtain ⟨k0, e0⟩ := Option.isSome_iff_exists.1 (hsome b (j2 ▸ List.getElem_mem hj))
      obtain ⟨I0, i1, _⟩ := h.blk b k0 e0
      obtain ⟨J, r1, r2⟩ := hle.σ j I0 (by simp [Env.view, hj, j2, i1])
      rw [h1] at r1; cases r1
      have := boxes_stay hs h'.blk hj r2 h1 d1
      subst this
      exact h.own b I B i1 d1 e1
 ·intro B o hB
  have := h.keep.size
  show E'.F B o = _
  rw [hFo B o (by omega)]
  exact h.old B o hB
 ·refine ⟨h'.keep.os.trans h.keep.os, h'.keep.tape.trans h.keep.tape, h'.keep.output.trans h.keep.output, Nat.le_trans h.keep.size h'.keep.size, fun k hk hS => ?_⟩
  rw [← h.keep.block k hk hS]
  refine same k (Nat.lt_of_lt_of_le hk h.keep.size) ?_
  rintro ⟨b', I', g1, g2, g3, g4⟩
  rcases h.own b' I' k g2 g3 g4 with q | ⟨q1, q2⟩
  ·omega
  ·exact hS q2
end
end Go.Abs
namespace Go.Abs
set_option linter.unusedVariables false
set_option linter.unusedSimpArgs false

def refs1 : V → List Nat
 | .sl b .. => [b]
 | .ptr b .. => [b]
 | _ => []
def opTouch (op : Op) (ev : Operand → V) : List Nat :=
 match op with
 | .load _ a => refs1 (ev a)
 | .store _ a _ => refs1 (ev a)
 | .call { callee := .builtin .append, args, .. } => (args.toList.map ev).flatMap refs1
 | _ => []
def wrOp : Op → Bool
 | .store .. => true
 | .call { callee := .builtin .append, .. } => true
 | _ => false
def tcOp : Op → Bool
 | .load .. | .store .. => true
 | .call { callee := .builtin .append, .. } => true
 | .call { callee := .value _, .. } => true
 | _ => false

theorem srcV_local {mem mem2 : Nat → Option Blk} {e : Nat} {x : V} (h : ∀ b ∈ refs1 x, mem2 b = mem b) : srcV mem2 e x = srcV mem e x := by
 cases x with
 | sl b ver e0 off len => simp only [refs1, List.mem_singleton, forall_eq] at h; simp only [srcV, h]
 | sc v =>
  unfold srcV
  split <;> simp_all
 | _ => rfl
theorem evAppend_local {P : Program} {t : TypeId} {s x : V} {mem mem2 : Nat → Option Blk} {id : Nat} (hs : ∀ b ∈ refs1 s, mem2 b = mem b) (hx : ∀ b ∈ refs1 x, mem2 b = mem b) : evAppend P t s x mem2 id = evAppend P t s x mem id := by
 unfold evAppend
 simp only [srcV_local hx]
 cases s with
 | sl b ver e0 off len =>
  simp only [refs1, List.mem_singleton, forall_eq] at hs
  cases off with
  | zero => simp only [hs]
  | succ n => rfl
 | sc v =>
  split
  ·split
   ·split
    ·split
     ·split <;> first | rfl | simp_all
     ·rfl
    ·rfl
   ·rfl
  ·rfl
 | _ => rfl
theorem opFx_local {P : Program} {op : Op} {ev : Operand → V} {mem mem2 : Nat → Option Blk} {id : Nat} (h : ∀ b ∈ opTouch op ev, mem2 b = mem b) : opFx P op ev mem2 id = opFx P op ev mem id := by
 unfold opFx
 split
 case h_23 => rfl
 all_goals try rfl
 ·rename_i t a
  simp only [opTouch] at h
  unfold fxLoad
  split
  ·split
   ·rename_i b ver o hb
    simp only [hb, refs1, List.mem_singleton, forall_eq] at h
    rw [h]
   ·rfl
   ·rfl
  ·rfl
 ·rename_i t a x
  simp only [opTouch] at h
  unfold fxStore
  split
  ·split
   ·rename_i b ver o ds hb hds
    simp only [hb, refs1, List.mem_singleton, forall_eq] at h
    rw [h]
   ·rfl
  ·rfl
 ·rename_i b args ts
  unfold evBuiltin
  split
  ·rfl
  ·rename_i s x hsx
   simp only [opTouch, hsx] at h
   split
   ·split
    ·split
     ·rw [evAppend_local (fun b hb => h b (by simp [hb])) (fun b hb => h b (by simp [hb]))]
     ·rfl
    ·rfl
   ·rfl
  ·rfl
  ·rfl
  ·rfl
theorem evAppend_up {P : Program} {t : TypeId} {s x : V} {mem : Nat → Option Blk} {id : Nat} {fx : Fx} (h : evAppend P t s x mem id = some fx) {b : Nat} {k : Blk} (hu : fx.up = some (b, k)) : b = id ∨ b ∈ refs1 s := by
 unfold evAppend at h
 split at h
 ·split at h
  ·split at h
   ·split at h
    ·split at h
     ·split at h
      ·cases h
      ·split at h
       ·cases h; simp at hu; exact .inl hu.1.symm
       ·cases h
     ·split at h
      ·split at h
       ·cases h; simp at hu; exact .inr (by simp [refs1, hu.1])
       ·cases h
      ·cases h
     ·cases h
    ·cases h
   ·cases h
  ·cases h
 ·cases h
theorem opFx_up {P : Program} {op : Op} {ev : Operand → V} {mem : Nat → Option Blk} {id : Nat} {fx : Fx} (h : opFx P op ev mem id = some fx) {b : Nat} {k : Blk} (hu : fx.up = some (b, k)) : b = id ∨ (wrOp op = true ∧ b ∈ opTouch op ev) := by
 have none_ : ∀ {v : V} {o : Option V}, o.map (fun v => (⟨v, none⟩ : Fx)) = some fx → False := by
  intro v o ho
  cases o with
  | none => cases ho
  | some x => cases ho; cases hu
 have mapNone : ∀ {α : Type} {g : α → V} {o : Option α}, o.map (fun x => (⟨g x, none⟩ : Fx)) = some fx → False := by
  intro α g o ho
  cases o with
  | none => cases ho
  | some x => cases ho; cases hu
 have fxNone : ∀ {v : V}, some (⟨v, none⟩ : Fx) = some fx → False := by
  intro v ho; cases ho; cases hu
 unfold opFx at h
 split at h
 all_goals try exact (fxNone h).elim
 ·unfold fxPick at h; split at h <;> first | exact (fxNone h).elim | cases h
 ·unfold fxAlloc at h
  split at h
  ·split at h
   ·cases h; simp at hu; exact .inl hu.1.symm
   ·cases h
  ·cases h
 ·unfold fxBox at h
  split at h
  ·cases h; simp at hu; exact .inl hu.1.symm
  ·cases h
 ·unfold fxBuild at h
  split at h
  ·split at h
   ·split at h
    ·split at h
     ·exact (mapNone h).elim
     ·cases h
    ·split at h
     ·exact (mapNone h).elim
     ·cases h
    ·cases h
   ·cases h
  ·cases h
 ·unfold fxBuildSlice at h
  split at h
  ·split at h
   ·split at h
    ·revert h; generalize fillV _ _ _ = q; cases q <;> intro h <;> cases h
     simp at hu; exact .inl hu.1.symm
    ·cases h
   ·cases h
  ·cases h
 ·unfold fxLoad at h
  split at h
  ·split at h
   ·split at h
    ·split at h
     ·exact (none_ (v := .any) h).elim
     ·cases h
    ·cases h
   ·exact (none_ (v := .any) h).elim
   ·cases h
  ·cases h
 ·rename_i t a x
  unfold fxStore at h
  split at h
  ·split at h
   ·rename_i b' ver o ds hb hds
    split at h
    ·split at h
     ·cases h; simp at hu; exact .inr ⟨rfl, by simp [opTouch, hb, refs1, hu.1]⟩
     ·cases h
    ·cases h
   ·cases h
  ·cases h
 ·unfold fxNilCheck at h
  split at h <;> first | exact (fxNone h).elim | cases h
 ·unfold fxFieldAddr at h
  split at h
  ·split at h
   ·split at h
    ·split at h
     ·cases h
     ·split at h
      ·exact (fxNone h).elim
      ·exact (fxNone h).elim
      ·cases h
    ·cases h
   ·cases h
  ·cases h
 ·unfold fxField at h
  split at h
  ·split at h
   ·split at h
    ·split at h
     ·split at h
      ·exact (fxNone h).elim
      ·cases h
     ·exact (none_ (v := .any) h).elim
    ·cases h
   ·cases h
  ·cases h
 ·unfold fxIndexAddr at h
  split at h
  ·split at h
   ·split at h
    ·split at h
     ·split at h
      ·exact (fxNone h).elim
      ·cases h
     ·split at h
      ·exact (fxNone h).elim
      ·cases h
     ·cases h
    ·cases h
   ·split at h
    ·split at h
     ·split at h
      ·exact (fxNone h).elim
      ·exact (fxNone h).elim
      ·cases h
     ·cases h
    ·cases h
   ·cases h
  ·cases h
 ·unfold fxIndex at h
  split at h
  ·split at h
   ·split at h
    ·split at h
     ·split at h
      ·exact (fxNone h).elim
      ·cases h
     ·exact (none_ (v := .any) h).elim
    ·cases h
   ·cases h
  ·split at h
   ·exact (fxNone h).elim
   ·cases h
  ·cases h
 ·unfold fxSlice at h
  split at h
  ·split at h
   ·split at h
    ·split at h
     ·split at h
      ·exact (fxNone h).elim
      ·cases h
     ·cases h
    ·split at h
     ·split at h
      ·exact (fxNone h).elim
      ·split at h
       ·exact (fxNone h).elim
       ·cases h
     ·cases h
    ·cases h
   ·cases h
  ·cases h
 ·unfold fxExtract at h
  split at h
  ·exact (none_ (v := .any) h).elim
  ·cases h
 ·unfold fxMakeSlice at h
  split at h
  ·split at h
   ·split at h
    ·cases h; simp at hu; exact .inl hu.1.symm
    ·cases h
   ·cases h
  ·cases h
 ·split at h
  ·exact (fxNone h).elim
  ·cases h
 ·exact (none_ (v := .any) h).elim
 ·exact (none_ (v := .any) h).elim
 ·unfold fxConvert at h
  split at h
  ·exact (fxNone h).elim
  ·cases h
 ·rename_i b' args ts
  unfold evBuiltin at h
  split at h
  ·split at h
   ·split at h
    all_goals first | exact (fxNone h).elim | (cases h; done)
   ·cases h
  ·rename_i s x hsx
   split at h
   ·split at h
    ·split at h
     ·rcases evAppend_up h hu with h | h
      ·exact .inl h
      ·exact .inr ⟨rfl, by simp only [opTouch, hsx]; simp [h]⟩
     ·cases h
    ·cases h
   ·cases h
  ·exact (none_ (v := .any) h).elim
  ·exact (none_ (v := .any) h).elim
  ·cases h
 ·cases h
end Go.Abs
namespace Go.Abs
set_option linter.unusedVariables false
set_option linter.unusedSimpArgs false

structure Eff where
 val : V
 ups : List (Nat × Blk)
def upds (mem : Nat → Option Blk) (l : List (Nat × Blk)) : Nat → Option Blk := l.foldl (fun m p => upd m p.1 (some p.2)) mem
def putT (tm : Nat → V) (dst : Option Tmp) (v : V) : Nat → V :=
 match dst with
 | some d => upd tm d v
 | none => tm
def St.app (s : St) (o : Oper) (e : Eff) : St := { tm := putT s.tm o.dst e.val, mem := upds s.mem e.ups, nx := s.nx }

def gdst (ops : Array Oper) (o : Oper) : Option Tmp := o.guard.bind fun g => (ops[g.1]?).bind (·.dst)
def wantedV (ops : Array Oper) (s : St) (o : Oper) : Option Bool :=
 match o.guard with
 | none => some true
 | some (j, w) => match (ops[j]?).bind (·.dst) with
  | some d => match s.tm d with
   | .sc (.bool b) => some (b == w)
   | .tup [] => some false
   | _ => none
  | none => some false

def callHow (mem : Nat → Option Blk) (ks : List Nat) : How := ⟨mem, fun b => ks.contains b, id, 0, fun _ => false, false⟩
def callable (P : Program) (f : FuncId) : Bool := match P.funcs[f]? with
 | some fn => !(fn.name == "runtime.NumGoroutine") && fn.body.isSome
 | none => false
def pos4 (id : Nat) : Nat → Prop := fun b => id ≤ b ∧ b < id + 4

def rawOp : Op → Bool
 | .binOp .. | .unOp .. | .convert .. => true
 | .call { callee := .value _, .. } => true
 | _ => false
inductive Act1 (P : Program) (N p : Nat) (ops : Array Oper) (id : Nat) (o : Oper) (s : St) : Eff → List Nat → Bool → Prop
 | op {fx : Fx} : wantedV ops s o = some true → opFx P o.op s.ev s.mem id = some fx → s.mem id = none → Act1 P N p ops id o s ⟨fx.val, fx.up.toList⟩ (opTouch o.op s.ev) (wrOp o.op)
 | skip : wantedV ops s o = some false → Act1 P N p ops id o s ⟨.tup [], []⟩ [] false
 | raw {v : V} : wantedV ops s o = some true → rawOp o.op = true → (∀ (ρ : Operand → Value) (E : Env) (W : World), (∀ x ∈ o.op.operands, RL E (s.ev x) (ρ x)) → ∃ c, (execOp ρ o).run P W = .ok (.value c) W ∧ RL E v c) → Act1 P N p ops id o s ⟨v, []⟩ [] false
 | call {f : Operand} {args : Array Operand} {ts : Array TypeId} {fid : FuncId} {caps args' : List V} {ks : List Nat} {res : V} :
   wantedV ops s o = some true → o.op = .call { callee := .value f, args, argTypes := ts } → s.ev f = .fn (.func fid) caps →
   Lends (callHow s.mem ks) (args.toList.map s.ev ++ caps) args' → callable P fid = true → FnP P fid args' res → (V.fresh res = true ∨ ks = []) → Act1 P N p ops id o s ⟨res, []⟩ ks false
 | share {f : Operand} {args : Array Operand} {ts : Array TypeId} {fid : FuncId} {caps args' : List V} {ks : List Nat} {res : V} :
   wantedV ops s o = some true → o.op = .call { callee := .value f, args, argTypes := ts } → s.ev f = .fn (.func fid) caps →
   Lends (callHow s.mem ks) (args.toList.map s.ev ++ caps) args' → callable P fid = true → FnP P fid args' res → (∀ b ∈ ks, p ≤ b ∧ (s.mem b).isSome = true) → Act1 P N p ops id o s ⟨res, ks.map (·, .dead)⟩ ks true
 | pass {f : Operand} {args : Array Operand} {ts : Array TypeId} {fid : FuncId} {caps args' : List V} {bs : List Nat} {m m' : List Blk} {res : V} :
   wantedV ops s o = some true → o.op = .call { callee := .value f, args, argTypes := ts } → s.ev f = .fn (.func fid) caps →
   Lends (passHow s.mem bs) (args.toList.map s.ev ++ caps) args' → callable P fid = true → FnD P fid m args' res m' → bs.Nodup → (∀ b ∈ bs, (s.mem b).isSome = true) → s.mem id = none → ((∀ b ∈ bs, b < p) ∨ (∀ b ∈ bs, p ≤ b) ∨ boxes bs.length m') →
   m.length = bs.length → bs.length ≤ m'.length → m'.length ≤ bs.length + 1 → (∀ j k', m[j]? = some k' → ∃ k, s.mem (bs.getD j 0) = some k ∧ BLend (passHow s.mem bs) k k') →
   Act1 P N p ops id o s ⟨res.ren (passIds bs id), passUps (passIds bs id) 0 m'⟩ bs true

theorem upds_nil (m : Nat → Option Blk) : upds m [] = m := rfl
theorem upds_cons (m : Nat → Option Blk) (x : Nat × Blk) (l : List (Nat × Blk)) : upds m (x :: l) = upds (upd m x.1 (some x.2)) l := rfl
theorem upds_other : ∀ (l : List (Nat × Blk)) (m : Nat → Option Blk) (b : Nat), (∀ x ∈ l, x.1 ≠ b) → upds m l b = m b
 | [], m, b, h => rfl
 | x :: l, m, b, h => by
  rw [upds_cons, upds_other l _ b (fun y hy => h y (List.mem_cons_of_mem _ hy))]
  unfold upd
  rw [if_neg (fun e => h x List.mem_cons_self e.symm)]
theorem upds_kill : ∀ (ks : List Nat) (m : Nat → Option Blk) , (∀ b ∈ ks, (m b).isSome = true) → upds m (ks.map (·, Blk.dead)) = killed (fun b => ks.contains b) m
 | [], m, h => by funext b; simp [upds, killed]
 | k :: ks, m, h => by
  rw [List.map_cons, upds_cons]
  have h1 : ∀ b ∈ ks, ((upd m k (some Blk.dead)) b).isSome = true := fun b hb => by
   unfold upd; split
   ·rfl
   ·exact h b (List.mem_cons_of_mem _ hb)
  rw [upds_kill ks _ h1]
  have hk := h k List.mem_cons_self
  funext b
  unfold killed upd
  by_cases hbk : b = k
  ·subst hbk
   cases hm : m b with
   | none => rw [hm] at hk; cases hk
   | some x => simp
  ·by_cases hb : b ∈ ks
   ·simp [hb, hbk]
   ·simp [hb, hbk]

section
variable {P : Program} {C : Cx} {E : Env} {W : World} {s : St} {a : Act}

theorem Inv.put {E' : Env} {W' : World} {o : Oper} {e : Eff} {c : Value} (h : Inv C E s a W) (hd : ∀ d, o.dst = some d → d < C.N) (hE : E.le E') (hm : InvM C E' (upds s.mem e.ups) s.nx W') (hc : RL E' e.val c) :
  Inv C E' (s.app o e) (a.put o.dst c) W' where
 m := hm
 tms := by
  intro t
  unfold St.app putT Act.put
  cases hdst : o.dst with
  | none => exact RL.mono hE _ _ (h.tms t)
  | some d =>
   simp only []
   unfold upd
   have hlt := hd d hdst
   by_cases ht : t = d
   ·subst ht
    rw [if_pos rfl]
    have : (a.tmps.setIfInBounds t c).getD t undef = c := by
     rw [← h.size] at hlt
     simp [Array.getD, hlt]
    rw [this]; exact hc
   ·rw [if_neg ht]
    have : (a.tmps.setIfInBounds d c).getD t undef = a.tmps.getD t undef := by
     simp only [Array.getD_eq_getD_getElem?, Array.getElem?_setIfInBounds]
     rw [if_neg (fun e => ht e.symm)]
    rw [this]; exact RL.mono hE _ _ (h.tms t)
 size := by
  unfold Act.put
  cases o.dst with
  | none => exact h.size
  | some d => simp [h.size]
 defs := by
  unfold Act.put
  cases o.dst <;> exact h.defs

theorem wanted_ok {ops : Array Oper} {o : Oper} {w : Bool} (h : Inv C E s a W) (hw : wantedV ops s o = some w) : Region.wanted o (yielded ops a.tmps) = w := by
 unfold wantedV at hw
 unfold Region.wanted
 cases hg : o.guard with
 | none => rw [hg] at hw; simp at hw; simp [hw]
 | some g =>
  obtain ⟨j, want⟩ := g
  rw [hg] at hw
  simp only [] at hw ⊢
  unfold yielded
  cases hd : (ops[j]?).bind (·.dst) with
  | none => rw [hd] at hw; simp at hw; simp [hw]
  | some d =>
   rw [hd] at hw
   simp only [] at hw
   have ht := h.tms d
   simp only [Option.bind_some]
   split at hw
   ·rename_i b hb
    rw [hb] at ht
    simp only [RL] at ht
    have : a.tmps[d]? = some (.bool b) := by
     simp only [Array.getD_eq_getD_getElem?] at ht
     cases hx : a.tmps[d]? with
     | none => rw [hx] at ht; cases ht
     | some x => rw [hx] at ht; simp at ht; rw [ht]
    rw [this]
    cases hw
    cases b <;> cases want <;> rfl
   ·rename_i hb
    rw [hb] at ht
    simp only [RL, RLs] at ht
    obtain ⟨ds, h1, rfl⟩ := ht
    cases hw
    cases hx : a.tmps[d]? with
    | none => rfl
    | some x =>
     simp only [Array.getD_eq_getD_getElem?, hx, Option.getD_some] at h1
     subst h1
     rfl
   ·cases hw

def fe (r : Option Nat) : Fence := { Fence.wide with round := r }
theorem callsIn_fe {r : Option Nat} {n : Nat} {P : Program} {f : FuncId} {args : Array Value} {w : World} {R : Ending → World → Prop} (h : Calls P f args w R) : CallsIn (fe r) n P f args w R :=
 callsIn_wide.2 h

theorem run_callFunc {f : FuncId} (h : callable P f = true) (args : Array Value) : (callFunc f args).run P W = .ok (.enter f args) W := by
 unfold callable at h
 split at h
 ·rename_i fn hfn
  simp only [Bool.and_eq_true, Bool.not_eq_true'] at h
  have hb : ¬ fn.body = none := by intro hb; rw [hb] at h; simp at h
  have hn : ¬ fn.name = "runtime.NumGoroutine" := by simpa using h.1
  simp [callFunc, hfn, hn, hb]
 ·cases h

theorem callHow_tg (mem : Nat → Option Blk) (ks : List Nat) (n : Nat) : ∀ x, (callHow mem ks).tg x = true → x = true ∧ n ≤ E.n0 := fun x h => by simp [callHow] at h
theorem callHow_tn (mem : Nat → Option Blk) (ks : List Nat) (n : Nat) : (callHow mem ks).tn = true → ∀ b I B, (callHow mem ks).L b = true → E.σ b = some I → I.dead = false → I.blk = some B → n ≤ B := fun h => by simp [callHow] at h

theorem Act1.ok {ops : Array Oper} {i id : Nat} {o : Oper} {e : Eff} {tch : List Nat} {w : Bool} {r : Option Nat} {n : Nat} {K : Act → World → Prop} {Q : Exit → Act → World → Prop}
  (h : Inv C E s a W) (hi : ops[i]? = some o) (hd : ∀ d, o.dst = some d → d < C.N) (hlt : id < s.nx) (ha : Act1 P C.N C.p ops id o s e tch w)
  (hK : ∀ E' a' W', E.le E' → Inv C E' (s.app o e) a' W' → K a' W') : wpOpIn (fe r) n P ops Q i K a W := by
 unfold wpOpIn
 rw [hi]
 simp only []
 cases ha with
 | op hw hfx hid =>
  rename_i fx
  rw [wanted_ok h hw]
  simp only [if_true]
  obtain ⟨nx, c, W', E', r1, r2, r3, r4, r5⟩ := opFx_ok (P := P) h o hid hlt hfx
  have hdef : ∀ c, o.op ≠ .defer c := fun c hc => by rw [hc] at hfx; simp [opFx] at hfx
  refine ⟨fun _ _ => trivial, ?_⟩
  rw [Oper.semAt_eq _ _ _ hdef, r1]
  have hmem : InvM C E' (upds s.mem (Eff.mk fx.val fx.up.toList).ups) s.nx W' := by
   have : upds s.mem fx.up.toList = fx.mem s.mem := by
    unfold Fx.mem
    cases fx.up with
    | none => rfl
    | some x => rfl
   rw [this]; exact r4
  have key := hK E' (a.put o.dst c) W' r3 (h.put hd r3 hmem r5)
  rcases r2 with rfl | ⟨rfl, rfl⟩
  ·exact key
  ·exact key
 | skip hw =>
  rw [wanted_ok h hw]
  simp only [Bool.false_eq_true, if_false]
  exact ⟨fun _ _ => trivial, hK E _ W E.le_refl (h.put hd E.le_refl h.m (by simp only [RL, RLs]; exact ⟨[], rfl, rfl⟩))⟩
 | raw hw hro hsem =>
  rw [wanted_ok h hw]
  simp only [if_true]
  have hdef : ∀ c, o.op ≠ .defer c := fun c hc => by rw [hc] at hro; simp [rawOp] at hro
  obtain ⟨c, c1, c2⟩ := hsem a.eval E W fun x _ => h.ev x
  refine ⟨fun _ _ => trivial, ?_⟩
  rw [Oper.semAt_eq _ _ _ hdef, c1]
  exact hK E _ W E.le_refl (h.put hd E.le_refl h.m c2)
 | call hw hop hf hl hcb hfn hfr =>
  rename_i f args ts fid caps args' res0
  rw [wanted_ok h hw]
  simp only [if_true]
  have hfv := h.ev f
  rw [hf] at hfv
  simp only [RL] at hfv
  obtain ⟨cs, f1, f2⟩ := hfv
  have hargs := RLs.append (evs_ok h.ev args) f2
  have hv := Lends.ok (H := callHow s.mem tch) rfl h.m (callHow_tg _ _ _) (callHow_tn _ _ _) (n := W.heap.size) hl _ hargs
  have hcall := hfn (E.view W (callHow s.mem tch).L 0 _root_.id W.heap.size) W (fun _ => False) _ (h.m.view _) hv
  refine ⟨fun _ _ => trivial, ?_⟩
  rw [Oper.semAt_eq _ _ _ (fun c hc => by rw [hop] at hc; cases hc)]
  have hrun : (execOp a.eval o).run P W = .ok (.enter fid (args.map a.eval ++ cs.toArray)) W := by
   simp [execOp, hop, resolve, Deferred.ofValue, f1, invoke, Result.andThen, run_callFunc hcb]
  rw [hrun]
  have e1 : (args.map a.eval ++ cs.toArray) = ((args.map a.eval).toList ++ cs).toArray := by simp
  rw [e1]
  refine ⟨fun hx => (by cases hx), callsIn_fe (hcall.mono ?_)⟩
  rintro en W' ⟨c, E', res, m', nx', rfl, q1, q2, q3, rfl, rfl⟩
  rcases hfr with hfr | hfr
  ·obtain ⟨E2, b1, b2, b3, b4⟩ := h.m.back q1 q2
   exact hK E2 _ W' b1 (h.put hd b1 b2 (RL.fresh b3 b4 _ _ hfr q3))
  ·subst hfr
   obtain ⟨E2, b1, b2, b3⟩ := h.m.shared (L := (callHow s.mem []).L) (fun b hb => by simp [callHow] at hb) q1 q2
   have : killed (callHow s.mem []).L s.mem = s.mem := by
    funext b; simp [killed, callHow]
   rw [this] at b2
   exact hK E2 _ W' b1 (h.put hd b1 b2 (RL.mono b3 _ _ q3))
 | share hw hop hf hl hcb hfn hks =>
  rename_i f args ts fid caps args' res0
  rw [wanted_ok h hw]
  simp only [if_true]
  have hfv := h.ev f
  rw [hf] at hfv
  simp only [RL] at hfv
  obtain ⟨cs, f1, f2⟩ := hfv
  have hargs := RLs.append (evs_ok h.ev args) f2
  have hv := Lends.ok (H := callHow s.mem tch) rfl h.m (callHow_tg _ _ _) (callHow_tn _ _ _) (n := W.heap.size) hl _ hargs
  have hcall := hfn (E.view W (callHow s.mem tch).L 0 _root_.id W.heap.size) W (fun _ => False) _ (h.m.view _) hv
  refine ⟨fun _ _ => trivial, ?_⟩
  rw [Oper.semAt_eq _ _ _ (fun c hc => by rw [hop] at hc; cases hc)]
  have hrun : (execOp a.eval o).run P W = .ok (.enter fid (args.map a.eval ++ cs.toArray)) W := by
   simp [execOp, hop, resolve, Deferred.ofValue, f1, invoke, Result.andThen, run_callFunc hcb]
  rw [hrun]
  have e1 : (args.map a.eval ++ cs.toArray) = ((args.map a.eval).toList ++ cs).toArray := by simp
  rw [e1]
  refine ⟨fun hx => (by cases hx), callsIn_fe (hcall.mono ?_)⟩
  rintro en W' ⟨c, E', res, m', nx', rfl, q1, q2, q3, rfl, rfl⟩
  obtain ⟨E2, b1, b2, b3⟩ := h.m.shared (L := (callHow s.mem tch).L) (fun b hb => (hks b (by simpa [callHow] using hb)).1) q1 q2
  have hk : killed (callHow s.mem tch).L s.mem = upds s.mem (tch.map (·, Blk.dead)) := (upds_kill tch s.mem fun b hb => (hks b hb).2).symm
  rw [hk] at b2
  exact hK E2 _ W' b1 (h.put hd b1 b2 (RL.mono b3 _ _ q3))
 | pass hw hop hf hl hcb hfn hnd hsome hid hside hlen hl1 hl2 hm =>
  rename_i f args ts fid caps args' m m' res0
  rw [wanted_ok h hw]
  simp only [if_true]
  have hfv := h.ev f
  rw [hf] at hfv
  simp only [RL] at hfv
  obtain ⟨cs, f1, f2⟩ := hfv
  have hargs := RLs.append (evs_ok h.ev args) f2
  have hv := Lends.ok (H := passHow s.mem tch) rfl h.m (fun x hx => by simp [passHow] at hx) (fun hx => by simp [passHow] at hx) (n := W.heap.size) hl _ hargs
  have hcall := hfn (E.view W (fun _ => false) tch.length (fun j => tch.getD j 0) W.heap.size) W (passS E tch) _ (by rw [hlen]; exact h.m.into hnd hlen hm) hv
  refine ⟨fun _ _ => trivial, ?_⟩
  rw [Oper.semAt_eq _ _ _ (fun c hc => by rw [hop] at hc; cases hc)]
  have hrun : (execOp a.eval o).run P W = .ok (.enter fid (args.map a.eval ++ cs.toArray)) W := by
   simp [execOp, hop, resolve, Deferred.ofValue, f1, invoke, Result.andThen, run_callFunc hcb]
  rw [hrun]
  have e1 : (args.map a.eval ++ cs.toArray) = ((args.map a.eval).toList ++ cs).toArray := by simp
  rw [e1]
  refine ⟨fun hx => (by cases hx), callsIn_fe (hcall.mono ?_)⟩
  rintro en W' ⟨c, E', res, m2, nx', rfl, q1, q2, q3, rfl, rfl⟩
  rw [hlen] at q2
  obtain ⟨E2, b1, b2, b3⟩ := h.m.outof hnd hsome hid hlt hside hl1 hl2 q1 q2
  exact hK E2 _ W' b1 (h.put hd b1 b2 (b3 _ _ q3))
end
end Go.Abs
namespace Go.Abs
set_option linter.unusedVariables false
set_option linter.unusedSimpArgs false

def tmpOf : Operand → Option Tmp
 | .tmp t => some t
 | _ => none
def looks (ops : Array Oper) (o : Oper) : List Nat := o.op.operands.toList.filterMap tmpOf ++ (gdst ops o).toList

theorem ev_congr {s s2 : St} {x : Operand} (h : ∀ t, tmpOf x = some t → s2.tm t = s.tm t) : s2.ev x = s.ev x := by
 cases x with
 | tmp t => exact h t rfl
 | _ => rfl
theorem evs_congr {ev ev2 : Operand → V} (xs : Array Operand) (hx : ∀ x ∈ xs, ev2 x = ev x) : xs.toList.map ev2 = xs.toList.map ev :=
 List.map_congr_left fun x hm => hx x (by simpa using hm)
theorem opTouch_ev {op : Op} {ev ev2 : Operand → V} (h : ∀ x ∈ op.operands, ev2 x = ev x) : opTouch op ev2 = opTouch op ev := by
 unfold opTouch
 split
 ·simp [Op.operands] at h; simp [h]
 ·simp [Op.operands] at h; simp [h]
 ·rename_i args ts
  rw [evs_congr args fun x hx => h x (by simp [Op.operands, Call.operands, hx])]
 ·rfl
theorem opFx_ev {P : Program} {op : Op} {ev ev2 : Operand → V} {mem : Nat → Option Blk} {id : Nat} (h : ∀ x ∈ op.operands, ev2 x = ev x) : opFx P op ev2 mem id = opFx P op ev mem id := by
 unfold opFx
 split
 all_goals try (first | rfl | (simp [Op.operands] at h; simp [h]; done))
 ·rename_i t parts
  congr 1
  refine List.map_congr_left fun p hp => ?_
  rw [h p.2 (by simp [Op.operands]; exact ⟨p.1, by simpa using hp⟩)]
 ·rename_i t len parts
  congr 1
  refine List.map_congr_left fun p hp => ?_
  rw [h p.2 (by simp [Op.operands]; exact ⟨p.1, by simpa using hp⟩)]
 ·rename_i t f lo hi
  have hl : lo.map ev2 = lo.map ev := by
   cases lo with
   | none => rfl
   | some y => simp [h y (by simp [Op.operands])]
  have hh : hi.map ev2 = hi.map ev := by
   cases hi with
   | none => rfl
   | some y => simp [h y (by simp [Op.operands])]
  rw [h f (by simp [Op.operands]), hl, hh]
 ·rename_i f first caps
  rw [evs_congr caps fun x hx => h x (by simp [Op.operands, hx])]
 ·rename_i b args ts
  rw [evs_congr args fun x hx => h x (by simp [Op.operands, Call.operands, hx])]

theorem wantedV_congr {ops : Array Oper} {s s2 : St} {o : Oper} (h : ∀ d, gdst ops o = some d → s2.tm d = s.tm d) : wantedV ops s2 o = wantedV ops s o := by
 unfold wantedV
 unfold gdst at h
 cases hg : o.guard with
 | none => rfl
 | some g =>
  obtain ⟨j, w⟩ := g
  rw [hg] at h
  simp only [Option.bind_some] at h
  simp only []
  cases hd : (ops[j]?).bind (·.dst) with
  | none => rfl
  | some d => simp only []; rw [h d hd]

mutual
theorem Lend.congr {mem mem2 : Nat → Option Blk} {ks : List Nat} (h : ∀ b ∈ ks, mem2 b = mem b) : ∀ {v v' : V}, Lend (callHow mem ks) v v' → Lend (callHow mem2 ks) v v'
 | _, _, .sc v => .sc v
 | _, _, .nil => .nil
 | _, _, .agg l hl => .agg (Lends.congr h l) hl
 | _, _, .tup l => .tup (Lends.congr h l)
 | _, _, .fn l => .fn (Lends.congr h l)
 | _, _, .lst l hl => .lst (H := callHow mem2 ks) (Lends.congr h l) hl
 | _, _, .rp l hl => .rp (Lends.congr h l) hl
 | _, _, .any v => .any v
 | _, _, .slPass hj hb => .slPass (H := callHow mem2 ks) hj hb
 | _, _, .ptrPass hj hb => .ptrPass (H := callHow mem2 ks) hj hb
 | _, _, .slLend hL hm hf l hl => .slLend (H := callHow mem2 ks) hL (by rw [← hm]; exact h _ (by simpa [callHow] using hL)) hf (Lends.congr h l) hl
 | _, _, .ptrLend hL hm hv l hl => .ptrLend (H := callHow mem2 ks) hL (by rw [← hm]; exact h _ (by simpa [callHow] using hL)) hv (Lends.congr h l) hl
theorem Lends.congr {mem mem2 : Nat → Option Blk} {ks : List Nat} (h : ∀ b ∈ ks, mem2 b = mem b) : ∀ {v v' : List V}, Lends (callHow mem ks) v v' → Lends (callHow mem2 ks) v v'
 | _, _, .nil => .nil
 | _, _, .cons l1 l2 => .cons (Lend.congr h l1) (Lends.congr h l2)
end

mutual
theorem Lend.congrP {mem mem2 : Nat → Option Blk} {bs : List Nat} : ∀ {v v' : V}, Lend (passHow mem bs) v v' → Lend (passHow mem2 bs) v v'
 | _, _, .sc v => .sc v
 | _, _, .nil => .nil
 | _, _, .agg l hl => .agg (Lends.congrP l) hl
 | _, _, .tup l => .tup (Lends.congrP l)
 | _, _, .fn l => .fn (Lends.congrP l)
 | _, _, .lst l hl => .lst (H := passHow mem2 bs) (Lends.congrP l) hl
 | _, _, .rp l hl => .rp (Lends.congrP l) hl
 | _, _, .any v => .any v
 | _, _, .slPass hj hb => .slPass (H := passHow mem2 bs) hj hb
 | _, _, .ptrPass hj hb => .ptrPass (H := passHow mem2 bs) hj hb
 | _, _, .slLend hL hm hf l hl => by cases hL
 | _, _, .ptrLend hL hm hv l hl => by cases hL
theorem Lends.congrP {mem mem2 : Nat → Option Blk} {bs : List Nat} : ∀ {v v' : List V}, Lends (passHow mem bs) v v' → Lends (passHow mem2 bs) v v'
 | _, _, .nil => .nil
 | _, _, .cons l1 l2 => .cons (Lend.congrP l1) (Lends.congrP l2)
end
theorem BLend.congrP {mem mem2 : Nat → Option Blk} {bs : List Nat} {k k' : Blk} (h : BLend (passHow mem bs) k k') : BLend (passHow mem2 bs) k k' := by
 cases h with
 | box l hl => exact .box (Lends.congrP l) hl
 | arr l hl => exact .arr (Lends.congrP l) hl

theorem mem_looks {ops : Array Oper} {o : Oper} {x : Operand} {t : Tmp} (hx : x ∈ o.op.operands) (ht : tmpOf x = some t) : t ∈ looks ops o := by
 unfold looks
 exact List.mem_append_left _ (List.mem_filterMap.2 ⟨x, by simpa using hx, ht⟩)

section
variable {P : Program} {N p : Nat} {ops : Array Oper} {id : Nat} {o : Oper} {s s2 : St} {e : Eff} {t : List Nat} {w : Bool}
theorem Act1.congr (ht : ∀ x ∈ looks ops o, s2.tm x = s.tm x) (hm : ∀ b ∈ t, s2.mem b = s.mem b) (hid : s2.mem id = s.mem id) (h : Act1 P N p ops id o s e t w) : Act1 P N p ops id o s2 e t w := by
 have hw : wantedV ops s2 o = wantedV ops s o := wantedV_congr fun d hd => ht d (by unfold looks; simp [hd])
 have hev : ∀ x ∈ o.op.operands, s2.ev x = s.ev x := fun x hx => ev_congr fun t htx => ht t (mem_looks hx htx)
 cases h with
 | op h1 h2 h3 =>
  rename_i fx
  have e1 := opTouch_ev hev
  have h2' : opFx P o.op s2.ev s2.mem id = some fx := by
   rw [opFx_ev hev, ← h2]
   exact opFx_local hm
  have := Act1.op (P := P) (N := N) (p := p) (ops := ops) (id := id) (o := o) (s := s2) (by rw [hw]; exact h1) h2' (by rw [hid]; exact h3)
  rw [e1] at this
  exact this
 | skip h1 => exact .skip (by rw [hw]; exact h1)
 | raw h1 h2 h3 => exact .raw (by rw [hw]; exact h1) h2 fun ρ E W hρ => h3 ρ E W fun x hx => by rw [← hev x hx]; exact hρ x hx
 | call h1 h2 h3 h4 h5 h6 h7 =>
  rename_i f args ts fid caps args' res
  have e1 : args.toList.map s2.ev = args.toList.map s.ev := evs_congr args fun x hx => hev x (by rw [h2]; simp [Op.operands, Call.operands, hx])
  exact .call (by rw [hw]; exact h1) h2 (by rw [hev f (by rw [h2]; simp [Op.operands, Call.operands])]; exact h3) (by rw [e1]; exact Lends.congr hm h4) h5 h6 h7
 | share h1 h2 h3 h4 h5 h6 h7 =>
  rename_i f args ts fid caps args' res
  have e1 : args.toList.map s2.ev = args.toList.map s.ev := evs_congr args fun x hx => hev x (by rw [h2]; simp [Op.operands, Call.operands, hx])
  exact .share (by rw [hw]; exact h1) h2 (by rw [hev f (by rw [h2]; simp [Op.operands, Call.operands])]; exact h3) (by rw [e1]; exact Lends.congr hm h4) h5 h6 (fun b hb => by rw [hm b hb]; exact h7 b hb)
 | pass h1 h2 h3 h4 h5 h6 h7 h8 h9 h10 h11 h12 h13 h14 =>
  rename_i f args ts fid caps args' m m' res
  have e1 : args.toList.map s2.ev = args.toList.map s.ev := evs_congr args fun x hx => hev x (by rw [h2]; simp [Op.operands, Call.operands, hx])
  refine .pass (by rw [hw]; exact h1) h2 (by rw [hev f (by rw [h2]; simp [Op.operands, Call.operands])]; exact h3) (by rw [e1]; exact Lends.congrP h4) h5 h6 h7 (fun b hb => by rw [hm b hb]; exact h8 b hb) (by rw [hid]; exact h9) h10 h11 h12 h13 fun j k' hk' => ?_
  obtain ⟨k, k1, k2⟩ := h14 j k' hk'
  refine ⟨k, ?_, k2.congrP⟩
  rw [hm, k1]
  have hj : j < t.length := by rw [← h11]; exact (List.getElem?_eq_some_iff.1 hk').1
  simp [hj]

theorem passUps_keys (r : Nat → Nat) : ∀ (ks : List Blk) (j0 : Nat), ∀ x ∈ passUps r j0 ks, ∃ j, j0 ≤ j ∧ j < j0 + ks.length ∧ x.1 = r j
 | [], j0, x, hx => by cases hx
 | k :: ks, j0, x, hx => by
  unfold passUps at hx
  rcases List.mem_cons.1 hx with rfl | hx
  ·exact ⟨j0, by omega, by simp, rfl⟩
  ·obtain ⟨j, h1, h2, h3⟩ := passUps_keys r ks (j0 + 1) x hx
   exact ⟨j, by omega, by simp; omega, h3⟩
theorem Act1.keys (h : Act1 P N p ops id o s e t w) : ∀ x ∈ e.ups, x.1 = id ∨ (w = true ∧ x.1 ∈ t) := by
 cases h with
 | op h1 h2 h3 =>
  rename_i fx
  intro x hx
  simp only [Option.mem_toList] at hx
  obtain ⟨b, k⟩ := x
  exact opFx_up h2 hx
 | skip h1 => intro x hx; cases hx
 | raw => intro x hx; cases hx
 | call => intro x hx; cases hx
 | share =>
  intro x hx
  simp only [List.mem_map] at hx
  obtain ⟨b, hb, rfl⟩ := hx
  exact .inr ⟨rfl, hb⟩
 | pass h1 h2 h3 h4 h5 h6 h7 h8 h9 h10 h11 h12 h13 h14 =>
  intro x hx
  obtain ⟨j, j1, j2, j3⟩ := passUps_keys _ _ _ x hx
  rcases Nat.lt_or_ge j t.length with hj | hj
  ·right; refine ⟨rfl, ?_⟩; rw [j3]; simp [passIds, hj]
  ·left; rw [j3]; simp [passIds, hj]
theorem Act1.touch (h : Act1 P N p ops id o s e t w) (hc : tcOp o.op = false) : t = [] := by
 cases h with
 | op h1 h2 h3 =>
  unfold opTouch
  unfold tcOp at hc
  split <;> simp_all
 | skip h1 => rfl
 | raw => rfl
 | call h1 h2 => rw [h2] at hc; simp [tcOp] at hc
 | share h1 h2 => rw [h2] at hc; simp [tcOp] at hc
 | pass h1 h2 => rw [h2] at hc; simp [tcOp] at hc
theorem Act1.writes (h : Act1 P N p ops id o s e t w) (hw : w = true) : tcOp o.op = true := by
 cases h with
 | op h1 h2 h3 => unfold wrOp at hw; unfold tcOp; split at hw <;> simp_all
 | skip h1 => cases hw
 | raw => cases hw
 | call h1 h2 => cases hw
 | share h1 h2 => rw [h2]; rfl
 | pass h1 h2 => rw [h2]; rfl
end

theorem upds_in : ∀ (l : List (Nat × Blk)) (m m2 : Nat → Option Blk) (b : Nat), (∃ x ∈ l, x.1 = b) → upds m l b = upds m2 l b
 | [], m, m2, b, h => by obtain ⟨x, hx, _⟩ := h; cases hx
 | x :: l, m, m2, b, h => by
  rw [upds_cons, upds_cons]
  by_cases hl : ∃ y ∈ l, y.1 = b
  ·exact upds_in l _ _ b hl
  ·rw [upds_other l _ b (fun y hy e => hl ⟨y, hy, e⟩), upds_other l _ b (fun y hy e => hl ⟨y, hy, e⟩)]
   obtain ⟨y, hy, e⟩ := h
   rcases List.mem_cons.1 hy with rfl | hy
   ·simp [upd, e]
   ·exact absurd ⟨y, hy, e⟩ hl
theorem upds_comm (l l' : List (Nat × Blk)) (m : Nat → Option Blk) (h : ∀ x ∈ l, ∀ y ∈ l', y.1 ≠ x.1) : upds (upds m l) l' = upds (upds m l') l := by
 funext b
 by_cases h1 : ∃ x ∈ l, x.1 = b
 ·obtain ⟨x, hx, rfl⟩ := h1
  rw [upds_other l' _ _ (fun y hy => h x hx y hy)]
  exact upds_in l _ _ _ ⟨x, hx, rfl⟩
 ·rw [upds_other l (upds m l') b (fun x hx e => h1 ⟨x, hx, e⟩)]
  by_cases h2 : ∃ y ∈ l', y.1 = b
  ·exact upds_in l' _ _ _ h2
  ·rw [upds_other l' _ b (fun y hy e => h2 ⟨y, hy, e⟩), upds_other l _ b (fun x hx e => h1 ⟨x, hx, e⟩), upds_other l' _ b (fun y hy e => h2 ⟨y, hy, e⟩)]

theorem app_tm {s : St} {o : Oper} {e : Eff} {x : Nat} (h : o.dst ≠ some x) : (s.app o e).tm x = s.tm x := by
 unfold St.app putT
 cases hd : o.dst with
 | none => rfl
 | some d => simp only []; unfold upd; rw [if_neg (fun ex => h (by rw [hd, ex]))]
theorem app_mem {s : St} {o : Oper} {e : Eff} {b : Nat} (h : ∀ x ∈ e.ups, x.1 ≠ b) : (s.app o e).mem b = s.mem b := upds_other _ _ _ h

theorem Act1.swap {P : Program} {N p : Nat} {ops : Array Oper} {idi idj : Nat} {oi oj : Oper} {s : St} {ei ej : Eff} {ti tj : List Nat} {wi wj : Bool}
  (hi : Act1 P N p ops idi oi s ei ti wi) (hj : Act1 P N p ops idj oj (s.app oi ei) ej tj wj)
  (n1 : ∀ d, oi.dst = some d → d ∉ looks ops oj ∧ oj.dst ≠ some d) (n2 : ∀ d, oj.dst = some d → d ∉ looks ops oi)
  (k1 : ∀ x ∈ ei.ups, x.1 ∉ tj ∧ x.1 ≠ idj ∧ ∀ y ∈ ej.ups, y.1 ≠ x.1) (k2 : ∀ y ∈ ej.ups, y.1 ∉ ti ∧ y.1 ≠ idi) :
  Act1 P N p ops idj oj s ej tj wj ∧ Act1 P N p ops idi oi (s.app oj ej) ei ti wi ∧ (s.app oi ei).app oj ej = (s.app oj ej).app oi ei := by
 refine ⟨hj.congr (fun x hx => (app_tm fun e => (n1 x e).1 hx).symm) (fun b hb => (app_mem fun x hx e => (k1 x hx).1 (e ▸ hb)).symm) (app_mem fun x hx => (k1 x hx).2.1).symm,
  hi.congr (fun x hx => app_tm fun e => n2 x e hx) (fun b hb => app_mem fun y hy e => (k2 y hy).1 (e ▸ hb)) (app_mem fun y hy => (k2 y hy).2), ?_⟩
 unfold St.app
 congr 1
 ·unfold putT
  cases hd : oi.dst with
  | none => rfl
  | some d =>
   cases hd' : oj.dst with
   | none => rfl
   | some d' =>
    have hne : d' ≠ d := fun e => (n1 d hd).2 (by rw [hd', e])
    funext x
    simp only [upd]
    by_cases h1 : x = d'
    ·subst h1; simp [hne]
    ·simp [h1]
 ·exact upds_comm _ _ _ fun x hx y hy => (k1 x hx).2.2 y hy
end Go.Abs
namespace Go.Abs
set_option linter.unusedVariables false
set_option linter.unusedSimpArgs false

inductive Run (P : Program) (N p : Nat) (ops : Array Oper) (base : Nat) (chk : Nat → List Nat → Bool → Prop) : List Nat → St → St → Prop
 | nil {s : St} : Run P N p ops base chk [] s s
 | cons {i : Nat} {l : List Nat} {s s' : St} {o : Oper} {e : Eff} {t : List Nat} {w : Bool} : ops[i]? = some o → (∀ d, o.dst = some d → d < N) → Act1 P N p ops (base + 4 * i) o s e t w → chk i t w →
   Run P N p ops base chk l (s.app o e) s' → Run P N p ops base chk (i :: l) s s'

section
variable {P : Program} {C : Cx} {ops : Array Oper} {base : Nat} {r : Option Nat} {n : Nat} {Q : Exit → Act → World → Prop}
theorem Run.ok {chk : Nat → List Nat → Bool → Prop} : ∀ {l : List Nat} {s s' : St}, Run P C.N C.p ops base chk l s s' → ∀ {E : Env} {a : Act} {W : World}, Inv C E s a W → (∀ i ∈ l, base + 4 * i < s.nx) →
  (∀ E' a' W', E.le E' → Inv C E' s' a' W' → Q .normal a' W') → wpOpsIn (fe r) n P ops Q l a W
 | _, _, _, .nil, E, a, W, h, hl, hQ => hQ E a W E.le_refl h
 | _, _, _, .cons ho hd ha hc hr, E, a, W, h, hl, hQ => by
  rw [wpOpsIn_cons]
  refine ha.ok h ho hd (hl _ List.mem_cons_self) fun E' a' W' hE h' => ?_
  exact Run.ok hr h' (fun i hi => hl i (List.mem_cons_of_mem _ hi)) fun E2 a2 W2 hE2 h2 => hQ E2 a2 W2 (Env.le_trans hE hE2) h2
end

structure Kl where
 k : List Nat
 t : List (Option (List Nat))
def Kl.contains (kl : Kl) (i : Nat) : Bool := kl.k.contains i
def Kl.at (kl : Kl) (i : Nat) : Option (List Nat) := kl.t.getD i none
def farM : Option (List Nat) → Option (List Nat) → Bool
 | some a, some b => a.all fun x => !b.contains x
 | _, _ => false
def wrS (kl : Kl) (i : Nat) (o : Oper) : Bool := wrOp o.op || kl.contains i
def apartS (ops : Array Oper) (kl : Kl) (i j : Nat) : Bool :=
 match ops[i]?, ops[j]? with
 | some oi, some oj =>
  (match oi.dst with | some d => !(looks ops oj).contains d && !(oj.dst == some d) | none => true) &&
  (match oj.dst with | some d => !(looks ops oi).contains d | none => true) &&
  ((!(wrS kl i oi && tcOp oj.op) && !(wrS kl j oj && tcOp oi.op)) || farM (kl.at i) (kl.at j))
 | _, _ => false
def okDraw (ops : Array Oper) (masks : List Nat) (kl : Kl) : Bool :=
 (List.range ops.size).all fun j =>
  (match ops[j]? with | some o => o.after.toList.all fun e => !Region.binds .any e || e.on < j | none => false) && (masks.getD j 0 < 2 ^ j) &&
  (List.range j).all fun i => if (masks.getD j 0).testBit i
   then (match ops[j]? with | some o => o.after.toList.any fun e => Region.binds .any e && (e.on == i || (masks.getD e.on 0).testBit i) | none => false)
   else apartS ops kl i j
def chkD (ops : Array Oper) (base : Nat) (masks : List Nat) (kl : Kl) (i : Nat) (t : List Nat) (w : Bool) : Prop :=
 (∀ b ∈ t, b < base ∨ (masks.getD i 0).testBit ((b - base) / 4) = true) ∧ (w = true → ∃ o, ops[i]? = some o ∧ wrS kl i o = true) ∧ ∀ l, kl.at i = some l → ∀ b ∈ t, b ∈ l
def chk0 : Nat → List Nat → Bool → Prop := fun _ _ _ => True

section
variable {P : Program} {N p : Nat} {ops : Array Oper} {base : Nat} {masks : List Nat} {kl : Kl}

theorem apartS_spec {i j : Nat} {oi oj : Oper} (h : apartS ops kl i j = true) (hi : ops[i]? = some oi) (hj : ops[j]? = some oj) :
  (∀ d, oi.dst = some d → d ∉ looks ops oj ∧ oj.dst ≠ some d) ∧ (∀ d, oj.dst = some d → d ∉ looks ops oi) ∧ (((wrS kl i oi = true → tcOp oj.op = false) ∧ (wrS kl j oj = true → tcOp oi.op = false)) ∨ ∃ a b, kl.at i = some a ∧ kl.at j = some b ∧ ∀ x ∈ a, x ∉ b) := by
 unfold apartS at h
 rw [hi, hj] at h
 simp only [Bool.and_eq_true, Bool.or_eq_true] at h
 obtain ⟨⟨h1, h2⟩, h3⟩ := h
 refine ⟨fun d hd => ?_, fun d hd => ?_, ?_⟩
 ·rw [hd] at h1
  simp at h1
  exact ⟨h1.1, fun e => h1.2 e⟩
 ·rw [hd] at h2
  simpa using h2
 ·rcases h3 with ⟨h3, h4⟩ | h3
  ·left
   refine ⟨fun hw => ?_, fun hw => ?_⟩
   ·rw [hw] at h3; simpa using h3
   ·rw [hw] at h4; simpa using h4
  ·right
   unfold farM at h3
   split at h3
   ·rename_i a b ha hb
    refine ⟨a, b, ha, hb, fun x hx => ?_⟩
    rw [List.all_eq_true] at h3
    simpa using h3 x hx
   ·cases h3

theorem Run.bubble {s' : St} {i : Nat} {post : List Nat} : ∀ (pre : List Nat) {s : St}, Run P N p ops base (chkD ops base masks kl) (pre ++ i :: post) s s' →
  (∀ k ∈ pre, k < i ∧ apartS ops kl k i = true ∧ (masks.getD i 0).testBit k = false ∧ masks.getD k 0 < 2 ^ k) →
  ∃ o e t w, ops[i]? = some o ∧ (∀ d, o.dst = some d → d < N) ∧ Act1 P N p ops (base + 4 * i) o s e t w ∧ chkD ops base masks kl i t w ∧ Run P N p ops base (chkD ops base masks kl) (pre ++ post) (s.app o e) s'
 | [], s, h, _ => by
  cases h with
  | cons h1 h2 h3 h4 h5 => exact ⟨_, _, _, _, h1, h2, h3, h4, h5⟩
 | k :: pre, s, h, hp => by
  cases h with
  | cons h1 h2 h3 h4 h5 =>
   rename_i ok ek tk wk
   obtain ⟨oi, ei, ti, wi, g1, g2, g3, g4, g5⟩ := Run.bubble pre h5 fun k' hk' => hp k' (List.mem_cons_of_mem _ hk')
   obtain ⟨q1, q2, q3, q4⟩ := hp k List.mem_cons_self
   obtain ⟨a1, a2, a34⟩ := apartS_spec q2 h1 g1
   -- the blocks
   have bits : ∀ x, x ≥ k → (masks.getD k 0).testBit x = false := fun x hx => Nat.testBit_lt_two_pow (Nat.lt_of_lt_of_le q4 (Nat.pow_le_pow_right (by omega) hx))
   have t1 : base + 4 * k ∉ ti := fun hx => by
    rcases g4.1 _ hx with hx | hx
    ·omega
    ·rw [show (base + 4 * k - base) / 4 = k by omega, q3] at hx; cases hx
   have t2 : base + 4 * i ∉ tk := fun hx => by
    rcases h4.1 _ hx with hx | hx
    ·omega
    ·rw [show (base + 4 * i - base) / 4 = i by omega, bits i (by omega)] at hx; cases hx
   have dis : (wk = true ∨ wi = true) → ∀ b ∈ tk, b ∉ ti := by
    intro hw b hb hb'
    rcases a34 with ⟨a3, a4⟩ | ⟨a, c, e1, e2, e3⟩
    ·rcases hw with hw | hw
     ·obtain ⟨o', e1, e2⟩ := h4.2.1 hw
      rw [h1] at e1; cases e1
      rw [g3.touch (a3 e2)] at hb'; cases hb'
     ·obtain ⟨o', e1, e2⟩ := g4.2.1 hw
      rw [g1] at e1; cases e1
      rw [h3.touch (a4 e2)] at hb; cases hb
    ·exact e3 b (h4.2.2 a e1 b hb) (g4.2.2 c e2 b hb')
   have c1 : ∀ x ∈ ek.ups, x.1 ∉ ti ∧ x.1 ≠ base + 4 * i ∧ ∀ y ∈ ei.ups, y.1 ≠ x.1 := by
    intro x hx
    rcases h3.keys x hx with e | ⟨hw, e⟩
    ·rw [e]
     refine ⟨t1, by omega, fun y hy ey => ?_⟩
     rcases g3.keys y hy with e' | ⟨hw', e'⟩
     ·omega
     ·rw [ey] at e'; exact t1 e'
    ·refine ⟨dis (.inl hw) _ e, fun ex => t2 (ex ▸ e), fun y hy ey => ?_⟩
     rcases g3.keys y hy with e' | ⟨hw', e'⟩
     ·rw [e'] at ey; exact t2 (ey ▸ e)
     ·exact dis (.inl hw) _ e (ey ▸ e')
   have c2 : ∀ y ∈ ei.ups, y.1 ∉ tk ∧ y.1 ≠ base + 4 * k := by
    intro y hy
    rcases g3.keys y hy with e' | ⟨hw', e'⟩
    ·rw [e']; exact ⟨t2, by omega⟩
    ·exact ⟨fun hx => dis (.inr hw') _ hx e', fun ey => t1 (ey ▸ e')⟩
   obtain ⟨b1, b2, b3⟩ := h3.swap g3 a1 a2 c1 c2
   refine ⟨oi, ei, ti, wi, g1, g2, b1, g4, ?_⟩
   rw [b3] at g5
   exact .cons h1 h2 b2 h4 g5
end

section
variable {P : Program} {C : Cx} {ops : Array Oper} {base : Nat} {masks : List Nat} {kl : Kl} {r : Option Nat} {n : Nat} {Q : Exit → Act → World → Prop}

theorem okDraw_spec (h : okDraw ops masks kl = true) {j : Nat} (hj : j < ops.size) :
  (∀ o, ops[j]? = some o → ∀ e ∈ o.after, Region.binds .any e = true → e.on < j) ∧ masks.getD j 0 < 2 ^ j ∧
  ∀ i, i < j → ((masks.getD j 0).testBit i = true → ∃ o, ops[j]? = some o ∧ ∃ e ∈ o.after, Region.binds .any e = true ∧ (e.on = i ∨ (masks.getD e.on 0).testBit i = true)) ∧
   ((masks.getD j 0).testBit i = false → apartS ops kl i j = true) := by
 unfold okDraw at h
 rw [List.all_eq_true] at h
 have h := h j (by simpa using hj)
 simp only [Bool.and_eq_true] at h
 obtain ⟨⟨h1, h2⟩, h3⟩ := h
 refine ⟨fun o ho e he hb => ?_, by simpa using h2, fun i hi => ?_⟩
 ·rw [ho] at h1
  simp only [List.all_eq_true] at h1
  have := h1 e (by simpa using he)
  simpa [hb] using this
 ·rw [List.all_eq_true] at h3
  have h3 := h3 i (by simpa using hi)
  constructor
  ·intro hb
   rw [if_pos hb] at h3
   cases ho : ops[j]? with
   | none => rw [ho] at h3; cases h3
   | some o =>
    rw [ho] at h3
    simp only [List.any_eq_true] at h3
    obtain ⟨e, he, h3⟩ := h3
    simp only [Bool.and_eq_true, Bool.or_eq_true, beq_iff_eq] at h3
    exact ⟨o, rfl, e, by simpa using he, h3.1, h3.2⟩
  ·intro hb
   rw [if_neg (by rw [hb]; simp)] at h3
   exact h3

def rest (ops : Array Oper) (listed : Array Bool) : List Nat := (List.range ops.size).filter fun i => !listed.getD i true

theorem Run.any (hok : okDraw ops masks kl = true) : ∀ (fuel : Nat) (listed : Array Bool) {s s' : St} {E : Env} {a : Act} {W : World}, listed.size = ops.size →
  (∀ m, m < ops.size → listed.getD m true = true → ∀ k, (masks.getD m 0).testBit k = true → listed.getD k true = true) →
  (rest ops listed).length ≤ fuel → Run P C.N C.p ops base (chkD ops base masks kl) (rest ops listed) s s' → Inv C E s a W → (∀ i, i < ops.size → base + 4 * i < s.nx) →
  (∀ E' a' W', E.le E' → Inv C E' s' a' W' → Q .normal a' W') → wpAnyIn (fe r) n P .any ops Q fuel listed a W := by
 -- while something is left, something may come up
 have stuck : ∀ (listed : Array Bool), listed.size = ops.size → Region.ready .any ops listed = [] → rest ops listed = [] := by
  intro listed hsz hr
  cases hl : rest ops listed with
  | nil => rfl
  | cons i l =>
   exfalso
   have hmem : i ∈ rest ops listed := by rw [hl]; exact List.mem_cons_self
   unfold rest at hmem
   rw [List.mem_filter, List.mem_range] at hmem
   obtain ⟨hi, hun⟩ := hmem
   obtain ⟨o, ho⟩ : ∃ o, ops[i]? = some o := ⟨ops[i], by simp [hi]⟩
   have hmin : ∀ k, k < i → listed.getD k true = true := by
    intro k hk
    cases hkl : listed.getD k true with
    | true => rfl
    | false =>
     exfalso
     have hkm : k ∈ rest ops listed := by
      unfold rest; rw [List.mem_filter, List.mem_range]; exact ⟨by omega, by rw [hkl]; rfl⟩
     have hsorted : (rest ops listed).Pairwise (· < ·) := List.Pairwise.filter _ (List.pairwise_lt_range)
     rw [hl] at hsorted hkm
     rcases List.mem_cons.1 hkm with rfl | hkm
     ·omega
     ·have := (List.pairwise_cons.1 hsorted).1 k hkm; omega
   have : i ∈ Region.ready .any ops listed := by
    rw [mem_ready]
    refine ⟨by simpa using hun, o, ho, fun e he hb => ?_⟩
    have hlt := (okDraw_spec hok hi).1 o ho e he hb
    have := hmin e.on hlt
    have hsz' : e.on < listed.size := by omega
    simpa [Array.getD, hsz'] using this
   rw [hr] at this; cases this
 intro fuel
 induction fuel with
 | zero =>
  intro listed s s' E a W hsz hcl hlen hrun h hnx hQ
  have hnil : rest ops listed = [] := List.eq_nil_of_length_eq_zero (by omega)
  rw [hnil] at hrun
  cases hrun
  refine ⟨?_, hQ E a W E.le_refl h⟩
  cases hr : Region.ready .any ops listed with
  | nil => rfl
  | cons i l =>
   have hi : i ∈ Region.ready .any ops listed := by rw [hr]; exact List.mem_cons_self
   rw [mem_ready] at hi
   obtain ⟨h0, o, ho, _⟩ := hi
   have hlt : i < ops.size := by
    rcases Nat.lt_or_ge i ops.size with h | h
    ·exact h
    ·simp [h] at ho
   have : i ∈ rest ops listed := by
    unfold rest; rw [List.mem_filter, List.mem_range]; exact ⟨hlt, by rw [h0]; rfl⟩
   rw [hnil] at this; cases this
 | succ fuel ih =>
  intro listed s s' E a W hsz hcl hlen hrun h hnx hQ
  refine ⟨fun hr => ?_, fun i hi => ?_⟩
  ·rw [stuck listed hsz hr] at hrun
   cases hrun
   exact hQ E a W E.le_refl h
  ·rw [mem_ready] at hi
   obtain ⟨h0, o, ho, hall⟩ := hi
   have hlt : i < ops.size := by
    rcases Nat.lt_or_ge i ops.size with h | h
    ·exact h
    ·simp [h] at ho
   have hmem : i ∈ rest ops listed := by
    unfold rest; rw [List.mem_filter, List.mem_range]; exact ⟨hlt, by rw [h0]; rfl⟩
   obtain ⟨pre, post, hpp⟩ := List.append_of_mem hmem
   have hsorted : (rest ops listed).Pairwise (· < ·) := List.Pairwise.filter _ (List.pairwise_lt_range)
   have hpre : ∀ k ∈ pre, k < i := by
    intro k hk
    rw [hpp, List.pairwise_append] at hsorted
    exact hsorted.2.2 k hk i List.mem_cons_self
   have getD_ft : ∀ k, k < ops.size → listed.getD k false = listed.getD k true := fun k hk => by
    have : k < listed.size := by omega
    simp [Array.getD, this]
   -- whatever is left ahead of it is not among what it waits for
   have hbit : ∀ k ∈ pre, (masks.getD i 0).testBit k = false := by
    intro k hk
    cases hb : (masks.getD i 0).testBit k with
    | false => rfl
    | true =>
     exfalso
     obtain ⟨o', ho', e, he, hbd, hek⟩ := ((okDraw_spec hok hlt).2.2 k (hpre k hk)).1 hb
     rw [ho] at ho'; cases ho'
     have hon := (okDraw_spec hok hlt).1 o ho e he hbd
     have hl := hall e he hbd
     rw [getD_ft e.on (by omega)] at hl
     have hkl : listed.getD k true = true := by
      rcases hek with rfl | hek
      ·exact hl
      ·exact hcl e.on (by omega) hl k hek
     have hkm : k ∈ rest ops listed := by rw [hpp]; exact List.mem_append_left _ hk
     unfold rest at hkm
     rw [List.mem_filter] at hkm
     rw [hkl] at hkm
     simp at hkm
   rw [hpp] at hrun
   obtain ⟨o', e, t, w, g1, g2, g3, g4, g5⟩ := Run.bubble pre hrun fun k hk => ⟨hpre k hk, ((okDraw_spec hok hlt).2.2 k (hpre k hk)).2 (hbit k hk), hbit k hk, by
    have hk' : k ∈ rest ops listed := by rw [hpp]; exact List.mem_append_left _ hk
    unfold rest at hk'
    rw [List.mem_filter, List.mem_range] at hk'
    exact (okDraw_spec hok hk'.1).2.1⟩
   have hrest : rest ops (listed.setIfInBounds i true) = pre ++ post := by
    have hnd : (rest ops listed).Nodup := hsorted.imp (fun h => Nat.ne_of_lt h)
    have e1 : rest ops (listed.setIfInBounds i true) = (rest ops listed).filter (fun j => j != i) := by
     unfold rest
     rw [List.filter_filter]
     refine List.filter_congr fun j hj => ?_
     rw [List.mem_range] at hj
     by_cases hji : j = i
     ·subst hji
      have : j < listed.size := by omega
      simp [Array.getD, this]
     ·rw [getD_set_ne true (Ne.symm hji)]
      simp [hji]
    rw [e1, hpp, List.filter_append, List.filter_cons]
    rw [hpp] at hnd
    have h1 := List.nodup_append.1 hnd
    have p1 : pre.filter (fun j => j != i) = pre := List.filter_eq_self.2 fun j hj => by
     have := hpre j hj
     simp; omega
    have p2 : post.filter (fun j => j != i) = post := List.filter_eq_self.2 fun j hj => by
     have := (List.nodup_cons.1 h1.2.1).1
     simp; intro ej; subst ej; exact this hj
    rw [p1, p2]
    simp
   refine g3.ok h g1 g2 (hnx i hlt) fun E' a' W' hE h' => ?_
   refine ih (listed.setIfInBounds i true) (s := s.app o' e) (s' := s') (E := E') (by simp [hsz]) ?_ ?_ (by rw [hrest]; exact g5) h' hnx fun E2 a2 W2 hE2 h2 => hQ E2 a2 W2 (Env.le_trans hE hE2) h2
   ·intro m hm hml k hb
    by_cases hki : k = i
    ·subst hki
     have : k < listed.size := by omega
     simp [Array.getD, this]
    ·rw [getD_set_ne true (Ne.symm hki)]
     by_cases hmi : m = i
     ·subst hmi
      have hkm : k < m := by
       rcases Nat.lt_or_ge k m with h | h
       ·exact h
       ·rw [Nat.testBit_lt_two_pow (Nat.lt_of_lt_of_le (okDraw_spec hok hm).2.1 (Nat.pow_le_pow_right (by omega) h))] at hb; cases hb
      obtain ⟨o2, ho2, e2, he2, hbd2, hek⟩ := ((okDraw_spec hok hm).2.2 k hkm).1 hb
      rw [ho] at ho2; cases ho2
      have hon := (okDraw_spec hok hm).1 o ho e2 he2 hbd2
      have hl := hall e2 he2 hbd2
      rw [getD_ft e2.on (by omega)] at hl
      rcases hek with rfl | hek
      ·exact hl
      ·exact hcl e2.on (by omega) hl k hek
     ·rw [getD_set_ne true (Ne.symm hmi)] at hml
      exact hcl m hm hml k hb
   ·rw [hrest]
    rw [hpp] at hlen
    simp at hlen ⊢
    omega
end
end Go.Abs
namespace Go.Abs
set_option linter.unusedVariables false
set_option linter.unusedSimpArgs false

structure Env.lep (p : Nat) (E E' : Env) : Prop where
 n0 : E'.n0 ≤ E.n0
 F : ∀ B o d, E.F B o = some d → E'.F B o = some d
 σ : ∀ b I, b < p → E.σ b = some I → ∃ J, E'.σ b = some J ∧ I.le J
theorem Env.lep_refl (p : Nat) (E : Env) : E.lep p E := ⟨Nat.le_refl _, fun _ _ _ h => h, fun _ I _ h => ⟨I, h, I.le_refl⟩⟩
theorem Env.lep_trans {p : Nat} {E E' E'' : Env} (h : E.lep p E') (k : E'.lep p E'') : E.lep p E'' :=
 ⟨Nat.le_trans k.n0 h.n0, fun B o d x => k.F B o d (h.F B o d x), fun b I hb x => let ⟨J, y, l⟩ := h.σ b I hb x; let ⟨K, z, m⟩ := k.σ b J hb y; ⟨K, z, Info.le_trans l m⟩⟩
theorem Env.le.lep {p : Nat} {E E' : Env} (h : E.le E') : E.lep p E' := ⟨h.n0, h.F, fun b I _ x => h.σ b I x⟩

def AWP (P : Program) (r : Option Nat) (C : Cx) (c : Code) (s : St) (Q : Exit → St → Prop) : Prop :=
 ∀ (E : Env) (a : Act) (W : World), Inv C E s a W → c.wpIn (fe r) 0 P (fun e a' W' => ∃ E' s', E.lep C.p E' ∧ Inv C E' s' a' W' ∧ Q e s') a W
def thn (K : St → Prop) (Q : Exit → St → Prop) : Exit → St → Prop
 | .normal, s => K s
 | e, s => Q e s
def inBlk (id : Nat) (Q : Exit → St → Prop) : Exit → St → Prop
 | .exit id', s => if id' = id then Q .normal s else Q (.exit id') s
 | e, s => Q e s

section
variable {P : Program} {r : Option Nat} {C : Cx} {s : St} {Q : Exit → St → Prop}
theorem AWP.mono {c : Code} {Q' : Exit → St → Prop} (h : AWP P r C c s Q) (hq : ∀ e s, Q e s → Q' e s) : AWP P r C c s Q' :=
 fun E a W hI => wpIn_mono (h E a W hI) fun e a' W' ⟨E', s', h1, h2, h3⟩ => ⟨E', s', h1, h2, hq _ _ h3⟩
theorem AWP.skip (h : Q .normal s) : AWP P r C .skip s Q := fun E a W hI => wpIn_skip ⟨E, s, Env.lep_refl _ E, hI, h⟩
theorem AWP.exit {id : Nat} (h : Q (.exit id) s) : AWP P r C (.exit id) s Q := fun E a W hI => wpIn_exit ⟨E, s, Env.lep_refl _ E, hI, h⟩
theorem AWP.ret (h : Q .ret s) : AWP P r C .ret s Q := fun E a W hI => wpIn_ret ⟨E, s, Env.lep_refl _ E, hI, h⟩
theorem AWP.seq {x y : Code} (h : AWP P r C x s (thn (fun s' => AWP P r C y s' Q) Q)) : AWP P r C (.seq x y) s Q := fun E a W hI => by
 refine wpIn_seq (wpIn_mono (h E a W hI) ?_)
 rintro e a' W' ⟨E', s', h1, h2, h3⟩
 cases e with
 | normal => exact wpIn_mono (h3 E' a' W' h2) fun e a2 W2 ⟨E2, s2, g1, g2, g3⟩ => ⟨E2, s2, Env.lep_trans h1 g1, g2, g3⟩
 | _ => exact ⟨E', s', h1, h2, h3⟩
theorem AWP.cond {x : Operand} {c d : Code} {t : Bool} (hx : s.ev x = .sc (.bool t)) (ht : t = true → AWP P r C c s Q) (hf : t = false → AWP P r C d s Q) : AWP P r C (.cond x c d) s Q := fun E a W hI => by
 have hv := hI.ev x
 rw [hx] at hv
 simp only [RL] at hv
 exact wpIn_cond_split hv (fun e => ht e E a W hI) (fun e => hf e E a W hI)
theorem AWP.block {id : Nat} {c : Code} (h : AWP P r C c s (inBlk id Q)) : AWP P r C (.block id c) s Q := fun E a W hI => by
 refine wpIn_block (wpIn_mono (h E a W hI) ?_)
 rintro e a' W' ⟨E', s', h1, h2, h3⟩
 cases e with
 | exit id' =>
  simp only [Exit.inBlock, inBlk] at h3 ⊢
  split
  ·rename_i he; rw [if_pos he] at h3; exact ⟨E', s', h1, h2, h3⟩
  ·rename_i he; rw [if_neg he] at h3; exact ⟨E', s', h1, h2, h3⟩
 | _ => exact ⟨E', s', h1, h2, h3⟩
theorem exists_least {p : Nat → Prop} (h : ∃ n, p n) : ∃ n, p n ∧ ∀ m, p m → n ≤ m := by
 obtain ⟨n, hn⟩ := h
 induction n using Nat.strongRecOn with
 | _ n ih =>
  by_cases hm : ∃ m, m < n ∧ p m
  ·obtain ⟨m, h1, h2⟩ := hm; exact ih m h1 h2
  ·exact ⟨n, hn, fun m h => Nat.le_of_not_lt fun hlt => hm ⟨m, hlt, h⟩⟩
open Classical in
theorem AWP.loop {c : Code} (I : St → Prop) (μ : St → Nat) (h0 : I s) (round : ∀ s, I s → AWP P r C c s (thn (fun s' => I s' ∧ μ s' < μ s) Q)) : AWP P r C (.loop c) s Q := fun E a W hI => by
 let J : Act → World → Nat → Prop := fun a w j => ∃ E' s', E.lep C.p E' ∧ Inv C E' s' a w ∧ I s' ∧ μ s' = j
 let m : Act → World → Nat := fun a w => if h : ∃ j, J a w j then Classical.choose (exists_least h) else 0
 refine wpIn_loop (fun a w => ∃ j, J a w j) m ⟨μ s, E, s, Env.lep_refl _ E, hI, h0, rfl⟩ ?_
 intro a w hJ
 have hm : m a w = Classical.choose (exists_least hJ) := by simp only [m]; rw [dif_pos hJ]
 obtain ⟨E1, s1, h1, h2, h3, h4⟩ := (Classical.choose_spec (exists_least hJ)).1
 refine wpIn_mono (round s1 h3 E1 a w h2) ?_
 rintro e a' W' ⟨E', s', g1, g2, g3⟩
 cases e with
 | normal =>
  obtain ⟨g3, g4⟩ := g3
  have hJ' : ∃ j, J a' W' j := ⟨μ s', E', s', Env.lep_trans h1 g1, g2, g3, rfl⟩
  refine ⟨hJ', ?_⟩
  have : m a' W' ≤ μ s' := by
   simp only [m]; rw [dif_pos hJ']
   exact (Classical.choose_spec (exists_least hJ')).2 _ ⟨E', s', Env.lep_trans h1 g1, g2, g3, rfl⟩
  rw [hm, ← h4]
  omega
 | _ => exact ⟨E', s', Env.lep_trans h1 g1, g2, g3⟩

theorem Inv.more {E : Env} {a : Act} {W : World} (h : Inv C E s a W) {nx : Nat} (hn : s.nx ≤ nx) : Inv C E { s with nx := nx } a W := ⟨h.m.more hn, h.tms, h.size, h.defs⟩

theorem AWP.region {id : Nat} {ops : Array Oper} {s' : St} (hr : Run P C.N C.p ops s.nx chk0 (List.range ops.size) { s with nx := s.nx + 4 * ops.size } s') (h : Q .normal s') : AWP P r C (.region id ops false) s Q := fun E a W hI => by
 refine wpIn_region (hr.ok (Inv.more hI (Nat.le_add_right _ _)) (fun i hi => ?_) fun E' a' W' hE h' => ⟨E', s', hE.lep, h', h⟩)
 rw [List.mem_range] at hi
 show s.nx + 4 * i < s.nx + 4 * ops.size
 omega
theorem AWP.draw {id : Nat} {ops : Array Oper} {s' : St} {masks : List Nat} {kl : Kl} (hm : P.follows .mixedOrders = true) (hok : okDraw ops masks kl = true)
  (hr : Run P C.N C.p ops s.nx (chkD ops s.nx masks kl) (List.range ops.size) { s with nx := s.nx + 4 * ops.size } s') (h : Q .normal s') : AWP P r C (.region id ops true) s Q := fun E a W hI => by
 refine wpIn_region_any hm ?_
 have h0 : rest ops (Array.replicate ops.size false) = List.range ops.size := by
  unfold rest
  refine List.filter_eq_self.2 fun i hi => ?_
  rw [List.mem_range] at hi
  simp [Array.getD, hi]
 refine Run.any hok ops.size (Array.replicate ops.size false) (by simp) (fun m hm hml => ?_) (by rw [h0]; simp) (by rw [h0]; exact hr) (E := E) ?_ (fun i hi => ?_) fun E' a' W' hE h' => ⟨E', s', hE.lep, h', h⟩
 ·simp [Array.getD, hm] at hml
 ·have := Inv.more hI (Nat.le_add_right s.nx (4 * ops.size))
  exact ⟨this.m.drew, this.tms, this.size, this.defs⟩
 ·show s.nx + 4 * i < s.nx + 4 * ops.size
  omega
end
end Go.Abs
