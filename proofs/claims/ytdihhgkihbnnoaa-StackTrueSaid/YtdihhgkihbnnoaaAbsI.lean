/- Laws about heaps and calls that the walks use. Conditions: as each theorem states them. -/
import Derived.Test.YtdihhgkihbnnoaaAbsH
namespace Go.Abs
set_option linter.unusedVariables false
set_option linter.unusedSimpArgs false

theorem RF.of_list {E : Env} {B : Nat} : ∀ (cs : List V) (ds : List Value) (o : Nat), RLs E cs ds → (∀ j d, ds[j]? = some d → E.F B (o + j) = some d) → RF E B o cs
  | [], ds, o, h, k => by simp only [RF]
  | x :: xs, ds, o, h, k => by
    simp only [RLs] at h
    obtain ⟨d, ds', rfl, h1, h2⟩ := h
    simp only [RF]
    refine ⟨⟨d, by simpa using k 0 d (by simp), h1⟩, RF.of_list xs ds' (o + 1) h2 fun j d hj => ?_⟩
    rw [show o + 1 + j = o + (j + 1) by omega]
    exact k (j + 1) d (by simpa using hj)

open Classical in
noncomputable def lentF (E : Env) (W : World) (L : Nat → Bool) : Nat → Nat → Option Value := fun B o =>
  match E.F B o with
  | some d => some d
  | none => if ∃ b I, L b = true ∧ E.σ b = some I ∧ I.dead = false ∧ I.blk = some B then W.cell? ⟨B, o, none⟩ else none
noncomputable def Env.view (E : Env) (W : World) (L : Nat → Bool) (p : Nat) (ids : Nat → Nat) (n : Nat) : Env :=
  { n0 := n, F := lentF E W L, σ := fun j => if j < p then E.σ (ids j) else none }

/-- What a function hands on of its own: a value as it is seen on the other side. -/
structure How where
  mem : Nat → Option Blk
  L : Nat → Bool
  ids : Nat → Nat
  p : Nat
  tg : Bool → Bool
  tn : Bool

mutual
inductive Lend (H : How) : V → V → Prop
  | sc (v : Value) : Lend H (.sc v) (.sc v)
  | nil {new : Bool} {e : Nat} : Lend H (.sc (.slice none 0 0)) (.lst new e 0 [])
  | agg {cs cs' : List V} : Lends H cs cs' → cs'.all V.leaf = true → Lend H (.agg cs) (.agg cs')
  | tup {cs cs' : List V} : Lends H cs cs' → Lend H (.tup cs) (.tup cs')
  | lst {new : Bool} {e n : Nat} {cs cs' : List V} : Lends H cs cs' → cs'.all V.leaf = true → Lend H (.lst new e n cs) (.lst (H.tg new) e n cs')
  | rp {cs cs' : List V} : Lends H cs cs' → cs'.all V.leaf = true → Lend H (.rp cs) (.rp cs')
  | fn {f : Fn} {cs cs' : List V} : Lends H cs cs' → Lend H (.fn f cs) (.fn f cs')
  | any (v : V) : Lend H v .any
  | slPass {j b ver e off len : Nat} : j < H.p → H.ids j = b → Lend H (.sl b ver e off len) (.sl j ver e off len)
  | ptrPass {j b ver o : Nat} : j < H.p → H.ids j = b → Lend H (.ptr b ver o) (.ptr j ver o)
  | slLend {b ver off len : Nat} {te e : Nat} {cs cs' : List V} : H.L b = true → H.mem b = some (.arr te e ver cs) → off * e + len * e ≤ cs.length → Lends H ((cs.drop (off * e)).take (len * e)) cs' → cs'.all V.leaf = true → Lend H (.sl b ver e off len) (.lst H.tn e len cs')
  | ptrLend {b ver o : Nat} {k : Blk} {cs' : List V} : H.L b = true → H.mem b = some k → k.hasVer ver = true → Lends H (k.cells.drop o) cs' → cs'.all V.leaf = true → Lend H (.ptr b ver o) (.rp cs')
inductive Lends (H : How) : List V → List V → Prop
  | nil : Lends H [] []
  | cons {x x' : V} {xs xs' : List V} : Lend H x x' → Lends H xs xs' → Lends H (x :: xs) (x' :: xs')
end

theorem Lends.length {H : How} : ∀ {xs ys : List V}, Lends H xs ys → ys.length = xs.length
  | [], _, h => by cases h; rfl
  | x :: xs, _, h => by cases h with | cons _ h => simp [Lends.length h]

section
variable {P : Program} {C : Cx} {E : Env} {mem : Nat → Option Blk} {nx : Nat} {W : World}

theorem lentF_le (E : Env) (W : World) (L : Nat → Bool) {B o : Nat} {d : Value} (h : E.F B o = some d) : lentF E W L B o = some d := by
  unfold lentF; rw [h]
theorem lentF_own {L : Nat → Bool} (h : InvM C E mem nx W) {b : Nat} {I : Info} {B : Nat} (hL : L b = true) (hs : E.σ b = some I) (hd : I.dead = false) (hB : I.blk = some B) (o : Nat) : lentF E W L B o = W.cell? ⟨B, o, none⟩ := by
  unfold lentF
  rw [h.sep b I B hs hd hB o]
  simp only []
  rw [if_pos ⟨b, I, hL, hs, hd, hB⟩]

theorem cellsAt_lent {L : Nat → Bool} (h : InvM C E mem nx W) {b : Nat} {I : Info} {B : Nat} (hL : L b = true) (hs : E.σ b = some I) (hd : I.dead = false) (hB : I.blk = some B) {o : Nat} {ds : List Value} (hc : CellsAt W B o ds) :
    ∀ j d, ds[j]? = some d → lentF E W L B (o + j) = some d := fun j d hj => by rw [lentF_own h hL hs hd hB]; exact hc j d hj

mutual
theorem Lend.ok {H : How} {n : Nat} (hmem : H.mem = mem) (h : InvM C E mem nx W) (htg : ∀ x, H.tg x = true → x = true ∧ n ≤ E.n0)
    (htn : H.tn = true → ∀ b I B, H.L b = true → E.σ b = some I → I.dead = false → I.blk = some B → n ≤ B) :
    ∀ {v v' : V}, Lend H v v' → ∀ c, RL E v c → RL (E.view W H.L H.p H.ids n) v' c
  | _, _, .sc v, c, r => by simpa only [RL] using r
  | _, _, .nil, c, r => by
    simp only [RL] at r ⊢
    exact ⟨none, 0, r, Nat.le_refl _, by simp, rfl, .inl trivial⟩
  | _, _, .agg l hl, c, r => by
    simp only [RL] at r ⊢
    obtain ⟨ds, rfl, r1, r2⟩ := r
    exact ⟨ds, rfl, Lends.ok hmem h htg htn l ds r1, hl⟩
  | _, _, .tup l, c, r => by
    simp only [RL] at r ⊢
    obtain ⟨ds, rfl, r1⟩ := r
    exact ⟨ds, rfl, Lends.ok hmem h htg htn l ds r1⟩
  | _, _, .fn l, c, r => by
    simp only [RL] at r ⊢
    obtain ⟨ds, rfl, r1⟩ := r
    exact ⟨ds, rfl, Lends.ok hmem h htg htn l ds r1⟩
  | _, _, .lst l hl, c, r => by
    simp only [RL] at r ⊢
    obtain ⟨a, cap, rfl, r1, r2, r3, r4⟩ := r
    refine ⟨a, cap, rfl, r1, by rw [l.length, r2], hl, ?_⟩
    rcases r4 with r4 | ⟨B, o, rfl, r5, r6⟩
    · exact .inl r4
    · obtain ⟨ds, d1, d2⟩ := RF.list _ _ r6
      refine .inr ⟨B, o, rfl, fun q => ?_, RF.of_list _ ds o (Lends.ok hmem h htg htn l ds d1) fun j d hj => lentF_le _ _ _ (d2 j d hj)⟩
      obtain ⟨q1, q2⟩ := htg _ q
      exact Nat.le_trans q2 (r5 q1)
  | _, _, .rp l hl, c, r => by
    simp only [RL] at r ⊢
    obtain ⟨B, o, rfl, r1, r2⟩ := r
    obtain ⟨ds, d1, d2⟩ := RF.list _ _ r1
    exact ⟨B, o, rfl, RF.of_list _ ds o (Lends.ok hmem h htg htn l ds d1) fun j d hj => lentF_le _ _ _ (d2 j d hj), hl⟩
  | _, _, .any v, c, r => by simp only [RL]
  | _, _, .slPass hj hb, c, r => by
    subst hb
    simp only [RL] at r ⊢
    obtain ⟨a, cap, rfl, q1, q2, q3, I, r1, r2⟩ := r
    exact ⟨a, cap, rfl, q1, q2, q3, I, by simp [Env.view, hj, r1], r2⟩
  | _, _, .ptrPass hj hb, c, r => by
    subst hb
    simp only [RL] at r ⊢
    obtain ⟨B, rfl, I, r1, r2⟩ := r
    exact ⟨B, rfl, I, by simp [Env.view, hj, r1], r2⟩
  | _, _, .slLend hL hm hfit l hl, c, r => by
    rw [hmem] at hm
    obtain ⟨I, g1, g2⟩ := h.blk _ _ hm
    obtain ⟨a1, a2, a3, a4, a5, a6, a7⟩ := g2
    simp only [RL] at r ⊢
    obtain ⟨a, cap, rfl, q1, q2, q3, J, r1, r2⟩ := r
    rw [g1] at r1; cases r1
    have hlen := l.length
    refine ⟨a, cap, rfl, q1, by rw [hlen]; simp; omega, hl, ?_⟩
    rcases r2 with r2 | ⟨r2, r3⟩
    · rw [a1] at r2; cases r2
    · obtain ⟨r4, r5⟩ := r3 a2.symm
      rcases r5 with ⟨r5, rfl⟩ | ⟨B, r5, rfl, r7⟩
      · rcases q3 with ⟨_, _, q3, _⟩ | ⟨B, q3⟩
        · exact .inl q3
        · cases q3
      · refine .inr ⟨B, _, rfl, fun q => htn q _ I B hL g1 a1 r5, ?_⟩
        rcases a7 with ⟨a7, _⟩ | ⟨B', cur, b1, b2, b3, b4, b5, b6⟩
        · rw [a7] at r5; cases r5
        · rw [r5] at b1
          obtain rfl : B = B' := Option.some.inj b1
          refine RF.of_list _ _ _ (Lends.ok hmem h htg htn l _ ((b6.drop _).take _)) (cellsAt_lent h hL g1 a1 r5 ?_)
          intro j d hj
          rw [List.getElem?_take] at hj
          split at hj
          · exact cellsAt_heap b2 _ _ j d hj
          · cases hj
  | _, _, .ptrLend (o := o) (k := k) hL hm hv l hl, c, r => by
    rw [hmem] at hm
    obtain ⟨I, B, cur, t', g1, g2, g3, g4, rfl, g5, g6, g7, g8, g9⟩ := h.at_ r hm hv
    simp only [RL]
    by_cases hne : k.cells = []
    · rw [hne] at l
      simp at l
      cases l
      exact ⟨B, o, rfl, by simp only [RF], hl⟩
    · rcases g8 with g8 | g8
      · exact absurd g8 hne
      · exact ⟨B, o, rfl, RF.of_list _ _ _ (Lends.ok hmem h htg htn l _ (g8.drop _)) (cellsAt_lent h hL g1 g2 g4 (cellsAt_heap (g5 hne) _ _)), hl⟩
theorem Lends.ok {H : How} {n : Nat} (hmem : H.mem = mem) (h : InvM C E mem nx W) (htg : ∀ x, H.tg x = true → x = true ∧ n ≤ E.n0)
    (htn : H.tn = true → ∀ b I B, H.L b = true → E.σ b = some I → I.dead = false → I.blk = some B → n ≤ B) :
    ∀ {vs vs' : List V}, Lends H vs vs' → ∀ ds, RLs E vs ds → RLs (E.view W H.L H.p H.ids n) vs' ds
  | _, _, .nil, ds, r => by simpa only [RLs] using r
  | _, _, .cons h1 h2, ds, r => by
    simp only [RLs] at r ⊢
    obtain ⟨d, ds', rfl, r1, r2⟩ := r
    exact ⟨d, ds', rfl, Lend.ok hmem h htg htn h1 d r1, Lends.ok hmem h htg htn h2 ds' r2⟩
end
end
end Go.Abs
