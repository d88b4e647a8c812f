/- Laws about heaps and calls that the walks use. Conditions: as each theorem states them. -/
import Derived.Test.YtdihhgkihbnnoaaAbsYp
namespace Go.Abs
set_option linter.unusedVariables false
set_option linter.unusedSimpArgs false

/-! ### turning a state: blocks get other numbers and versions, are frozen, are forgotten -/
structure Hw where
  mem : Nat → Option Blk
  L : Nat → Bool
  ids : Nat → Nat
  nv : Nat → Nat
  q : Nat

mutual
inductive Tr (H : Hw) : V → V → Prop
  | sc (v : Value) : Tr H (.sc v) (.sc v)
  | agg {cs cs' : List V} : Trs H cs cs' → cs'.all V.leaf = true → Tr H (.agg cs) (.agg cs')
  | tup {cs cs' : List V} : Trs H cs cs' → Tr H (.tup cs) (.tup cs')
  | lst {new new' : Bool} {e n : Nat} {cs cs' : List V} : (new' = true → new = true) → Trs H cs cs' → cs'.all V.leaf = true → Tr H (.lst new e n cs) (.lst new' e n cs')
  | nil {new : Bool} {e : Nat} : Tr H (.sc (.slice none 0 0)) (.lst new e 0 [])
  | rp {cs cs' : List V} : Trs H cs cs' → cs'.all V.leaf = true → Tr H (.rp cs) (.rp cs')
  | fn {f : Fn} {cs cs' : List V} : Trs H cs cs' → Tr H (.fn f cs) (.fn f cs')
  | any (v : V) : Tr H v .any
  | slKeep {j b ver ver' e off len te e0 : Nat} {cs : List V} : j < H.q → H.ids j = b → H.nv j = ver' → H.mem b = some (.arr te e0 ver cs) → Tr H (.sl b ver e off len) (.sl j ver' e off len)
  | ptrBox {j b o : Nat} {cs : List V} : j < H.q → H.ids j = b → H.nv j = 0 → H.mem b = some (.box cs) → Tr H (.ptr b 0 o) (.ptr j 0 o)
  | ptrArr {j b ver ver' o te e0 : Nat} {cs : List V} : j < H.q → H.ids j = b → H.nv j = ver' → H.mem b = some (.arr te e0 ver cs) → Tr H (.ptr b ver o) (.ptr j ver' o)
  | slFree {new : Bool} {b ver off len te e : Nat} {cs cs' : List V} : H.L b = true → H.mem b = some (.arr te e ver cs) → off * e + len * e ≤ cs.length → Trs H ((cs.drop (off * e)).take (len * e)) cs' → cs'.all V.leaf = true → Tr H (.sl b ver e off len) (.lst new e len cs')
inductive Trs (H : Hw) : List V → List V → Prop
  | nil : Trs H [] []
  | cons {x x' : V} {xs xs' : List V} : Tr H x x' → Trs H xs xs' → Trs H (x :: xs) (x' :: xs')
end
theorem Trs.length {H : Hw} : ∀ {xs ys : List V}, Trs H xs ys → ys.length = xs.length
  | [], _, h => by cases h; rfl
  | x :: xs, _, h => by cases h with | cons _ h => simp [Trs.length h]
theorem Trs.append {H : Hw} : ∀ {xs ys xs' ys' : List V}, Trs H xs xs' → Trs H ys ys' → Trs H (xs ++ ys) (xs' ++ ys')
  | _, _, _, _, .nil, k => k
  | _, _, _, _, .cons h1 h2, k => .cons h1 (Trs.append h2 k)
inductive BTr (H : Hw) (j : Nat) : Blk → Blk → Prop
  | box {cs cs' : List V} : H.nv j = 0 → Trs H cs cs' → cs'.all V.leaf = true → BTr H j (.box cs) (.box cs')
  | arr {te e ver ver' : Nat} {cs cs' : List V} : H.nv j = ver' → Trs H cs cs' → cs'.all V.leaf = true → BTr H j (.arr te e ver cs) (.arr te e ver' cs')

noncomputable def Env.turn (E : Env) (W : World) (H : Hw) : Env :=
  { n0 := E.n0, F := lentF E W H.L, σ := fun j => if j < H.q then (E.σ (H.ids j)).map fun I => { I with ver := H.nv j } else none }

section
variable {P : Program} {C : Cx} {E : Env} {mem : Nat → Option Blk} {nx : Nat} {W : World}
mutual
theorem Tr.ok {H : Hw} (hmem : H.mem = mem) (h : InvM C E mem nx W) (hL : ∀ b I B, H.L b = true → E.σ b = some I → I.dead = false → I.blk = some B → E.n0 ≤ B) :
    ∀ {v v' : V}, Tr H v v' → ∀ c, RL E v c → RL (E.turn W H) v' c
  | _, _, .sc v, c, r => by simpa only [RL] using r
  | _, _, .agg l hl, c, r => by
    simp only [RL] at r ⊢
    obtain ⟨ds, rfl, r1, r2⟩ := r
    exact ⟨ds, rfl, Trs.ok hmem h hL l ds r1, hl⟩
  | _, _, .tup l, c, r => by
    simp only [RL] at r ⊢
    obtain ⟨ds, rfl, r1⟩ := r
    exact ⟨ds, rfl, Trs.ok hmem h hL l ds r1⟩
  | _, _, .fn l, c, r => by
    simp only [RL] at r ⊢
    obtain ⟨ds, rfl, r1⟩ := r
    exact ⟨ds, rfl, Trs.ok hmem h hL l ds r1⟩
  | _, _, .lst hn l hl, c, r => by
    simp only [RL] at r ⊢
    obtain ⟨a, cap, rfl, r1, r2, r3, r4⟩ := r
    refine ⟨a, cap, rfl, r1, by rw [l.length, r2], hl, ?_⟩
    rcases r4 with r4 | ⟨B, o, rfl, r5, r6⟩
    · exact .inl r4
    · obtain ⟨ds, d1, d2⟩ := RF.list _ _ r6
      exact .inr ⟨B, o, rfl, fun q => r5 (hn q), RF.of_list _ ds o (Trs.ok hmem h hL l ds d1) fun j d hj => lentF_le _ _ _ (d2 j d hj)⟩
  | _, _, .nil, c, r => by
    simp only [RL] at r ⊢
    exact ⟨none, 0, r, Nat.le_refl _, by simp, rfl, .inl trivial⟩
  | _, _, .rp l hl, c, r => by
    simp only [RL] at r ⊢
    obtain ⟨B, o, rfl, r1, r2⟩ := r
    obtain ⟨ds, d1, d2⟩ := RF.list _ _ r1
    exact ⟨B, o, rfl, RF.of_list _ ds o (Trs.ok hmem h hL l ds d1) fun j d hj => lentF_le _ _ _ (d2 j d hj), hl⟩
  | _, _, .any v, c, r => by simp only [RL]
  | _, _, .slKeep hj hb hv hm, c, r => by
    subst hb
    rw [hmem] at hm
    obtain ⟨I, g1, g2⟩ := h.blk _ _ hm
    obtain ⟨a1, a2, a3, a4, a5, a6, a7⟩ := g2
    simp only [RL] at r ⊢
    obtain ⟨a, cap, rfl, q1, q2, q3, J, r1, r2⟩ := r
    rw [g1] at r1; cases r1
    refine ⟨a, cap, rfl, q1, q2, q3, { I with ver := H.nv _ }, by simp only [Env.turn]; rw [if_pos hj, g1]; rfl, ?_⟩
    rcases r2 with r2 | ⟨r2, r3⟩
    · exact .inl r2
    · exact .inr ⟨by simp only []; omega, fun _ => r3 a2.symm⟩
  | _, _, .ptrBox hj hb hv hm, c, r => by
    subst hb
    rw [hmem] at hm
    obtain ⟨I, g1, g2⟩ := h.blk _ _ hm
    obtain ⟨a1, a2, a3⟩ := g2
    simp only [RL] at r ⊢
    obtain ⟨B, rfl, J, r1, r2⟩ := r
    rw [g1] at r1; cases r1
    refine ⟨B, rfl, { I with ver := H.nv _ }, by simp only [Env.turn]; rw [if_pos hj, g1]; rfl, ?_⟩
    rcases r2 with r2 | ⟨r2, r3⟩
    · exact .inl r2
    · exact .inr ⟨by simp only []; omega, fun _ => r3 a2.symm⟩
  | _, _, .ptrArr hj hb hv hm, c, r => by
    subst hb
    rw [hmem] at hm
    obtain ⟨I, g1, g2⟩ := h.blk _ _ hm
    obtain ⟨a1, a2, a3⟩ := g2
    simp only [RL] at r ⊢
    obtain ⟨B, rfl, J, r1, r2⟩ := r
    rw [g1] at r1; cases r1
    refine ⟨B, rfl, { I with ver := H.nv _ }, by simp only [Env.turn]; rw [if_pos hj, g1]; rfl, ?_⟩
    rcases r2 with r2 | ⟨r2, r3⟩
    · exact .inl r2
    · exact .inr ⟨by simp only []; omega, fun _ => r3 a2.symm⟩
  | _, _, .slFree hLb hm hfit l hl, c, r => by
    rw [hmem] at hm
    obtain ⟨I, g1, g2⟩ := h.blk _ _ hm
    obtain ⟨a1, a2, a3, a4, a5, a6, a7⟩ := g2
    simp only [RL] at r ⊢
    obtain ⟨a, cap, rfl, q1, q2, q3, J, r1, r2⟩ := r
    rw [g1] at r1; cases r1
    have hlen := l.length
    refine ⟨a, cap, rfl, q1, by rw [hlen]; simp; omega, hl, ?_⟩
    rcases r2 with r2 | ⟨r2, r3⟩
    · rw [a1] at r2; cases r2
    · obtain ⟨r4, r5⟩ := r3 a2.symm
      rcases r5 with ⟨r5, rfl⟩ | ⟨B, r5, rfl, r7⟩
      · rcases q3 with ⟨_, _, q3, _⟩ | ⟨B, q3⟩
        · exact .inl q3
        · cases q3
      · refine .inr ⟨B, _, rfl, fun q => hL _ I B hLb g1 a1 r5, ?_⟩
        rcases a7 with ⟨a7, _⟩ | ⟨B', cur, b1, b2, b3, b4, b5, b6⟩
        · rw [a7] at r5; cases r5
        · rw [r5] at b1
          obtain rfl : B = B' := Option.some.inj b1
          refine RF.of_list _ _ _ (Trs.ok hmem h hL l _ ((b6.drop _).take _)) (cellsAt_lent h hLb g1 a1 r5 ?_)
          intro j d hj
          rw [List.getElem?_take] at hj
          split at hj
          · exact cellsAt_heap b2 _ _ j d hj
          · cases hj
theorem Trs.ok {H : Hw} (hmem : H.mem = mem) (h : InvM C E mem nx W) (hL : ∀ b I B, H.L b = true → E.σ b = some I → I.dead = false → I.blk = some B → E.n0 ≤ B) :
    ∀ {vs vs' : List V}, Trs H vs vs' → ∀ ds, RLs E vs ds → RLs (E.turn W H) vs' ds
  | _, _, .nil, ds, r => by simpa only [RLs] using r
  | _, _, .cons h1 h2, ds, r => by
    simp only [RLs] at r ⊢
    obtain ⟨d, ds', rfl, r1, r2⟩ := r
    exact ⟨d, ds', rfl, Tr.ok hmem h hL h1 d r1, Trs.ok hmem h hL h2 ds' r2⟩
end
theorem BTr.ok {H : Hw} (hmem : H.mem = mem) (h : InvM C E mem nx W) (hL : ∀ b I B, H.L b = true → E.σ b = some I → I.dead = false → I.blk = some B → E.n0 ≤ B) {j : Nat} {k k' : Blk} (hl : BTr H j k k') {I : Info} (hk : BlkOK E W I k) : BlkOK (E.turn W H) W { I with ver := H.nv j } k' := by
  cases hl with
  | box hv l hl =>
    obtain ⟨h1, h2, h3, B, cur, t, h4, h5, h6, h7, h8⟩ := hk
    exact ⟨h1, hv, h3, B, cur, t, h4, h5, by rw [l.length]; exact h6, hl, by rw [l.length]; exact Trs.ok hmem h hL l _ h8⟩
  | arr hv l hl =>
    obtain ⟨h1, h2, h3, h4, h5, ⟨m, h6⟩, h7⟩ := hk
    refine ⟨h1, hv, h3, h4, hl, ⟨m, by rw [l.length]; exact h6⟩, ?_⟩
    rcases h7 with ⟨h7, h8⟩ | ⟨B, cur, a1, a2, a3, a4, a5, a6⟩
    · subst h8
      cases l
      exact .inl ⟨h7, rfl⟩
    · exact .inr ⟨B, cur, a1, a2, a3, a4, by rw [l.length]; exact a5, by rw [l.length]; exact Trs.ok hmem h hL l _ a6⟩
end

theorem Weak.turn {W0 : World} {S : Nat → Prop} {p N : Nat} {F0 : Nat → Nat → Option Value} {D : List Deferred} {s s' : St} (H : Hw) (hmem : H.mem = s.mem) (hp : p ≤ H.q) (hL : ∀ b, H.L b = true → p ≤ b)
    (hi : ∀ j, j < p → H.ids j = j) (hnv : ∀ j, j < p → ∃ k, s.mem j = some k ∧ k.hasVer (H.nv j) = true) (hi2 : ∀ j, p ≤ j → j < H.q → p ≤ H.ids j) (hinj : ∀ i j, i < H.q → j < H.q → H.ids i = H.ids j → i = j) (hLi : ∀ j, j < H.q → H.L (H.ids j) = false)
    (hb : ∀ j, j < H.q → ∃ k k', s.mem (H.ids j) = some k ∧ s'.mem j = some k' ∧ BTr H j k k') (hb2 : ∀ j, H.q ≤ j → s'.mem j = none) (hnx : s'.nx = H.q) (ht : ∀ t, Tr H (s.tm t) (s'.tm t)) : Weak ⟨W0, S, p, F0, N, D⟩ s s' := fun E a W h => by
  have hn0 : E.n0 = W0.heap.size := h.m.n0
  have hL' : ∀ b I B, H.L b = true → E.σ b = some I → I.dead = false → I.blk = some B → E.n0 ≤ B := fun b I B hb hI hd hB => by
    rcases h.m.own b I B hI hd hB with h1 | ⟨h1, _⟩
    · rw [hn0]; exact h1
    · have := hL b hb; simp at h1; omega
  refine ⟨E.turn W H, ⟨Nat.le_refl _, fun B o d hd => lentF_le _ _ _ hd, fun b I hb hI => ?_⟩, ⟨?_, fun t => Tr.ok hmem h.m hL' (ht t) _ (h.tms t), h.size, h.defs⟩⟩
  · have hb : b < p := hb
    obtain ⟨k, k1, k2⟩ := hnv b hb
    obtain ⟨J, j1, j2⟩ := h.m.blk b k k1
    rw [hI] at j1; cases j1
    have hver : I.ver = H.nv b := by
      cases k with
      | dead => cases k2
      | box cs => obtain ⟨_, a2, _⟩ := j2; simp [Blk.hasVer] at k2; rw [a2, k2]
      | arr te e v cs => obtain ⟨_, a2, _⟩ := j2; simp [Blk.hasVer] at k2; rw [a2, k2]
    refine ⟨I, ?_, I.le_refl⟩
    simp only [Env.turn]
    rw [if_pos (by omega), hi b hb, hI]
    simp only [Option.map_some, ← hver]
  · refine ⟨hn0, ?_, ?_, ?_, ?_, ?_, ?_, ?_, ?_, h.m.keep⟩
    · intro B o d hF
      simp only [Env.turn] at hF
      unfold lentF at hF
      split at hF
      · rename_i d' hd; cases hF; exact h.m.frz B o d hd
      · split at hF
        · exact hF
        · cases hF
    · intro j k' hk'
      have hj : j < H.q := by
        rcases Nat.lt_or_ge j H.q with hj | hj
        · exact hj
        · rw [hb2 j hj] at hk'; cases hk'
      obtain ⟨k, k2, e1, e2, e3⟩ := hb j hj
      rw [hk'] at e2; cases e2
      obtain ⟨I, g1, g2⟩ := h.m.blk _ _ e1
      exact ⟨{ I with ver := H.nv j }, by simp only [Env.turn]; rw [if_pos hj, g1]; rfl, BTr.ok hmem h.m hL' e3 g2⟩
    · intro j I hI
      simp only [Env.turn] at hI
      split at hI
      · rename_i hj
        obtain ⟨k, k2, e1, e2, e3⟩ := hb j hj
        exact ⟨k2, e2⟩
      · cases hI
    · intro j k' hk'
      rw [hnx]
      rcases Nat.lt_or_ge j H.q with hj | hj
      · exact hj
      · rw [hb2 j hj] at hk'; cases hk'
    · intro i j I J B h1 h2 h3 h4 h5 h6
      simp only [Env.turn] at h1 h2
      split at h1
      · rename_i hi'
        split at h2
        · rename_i hj
          simp only [Option.map_eq_some_iff] at h1 h2
          obtain ⟨I1, x1, rfl⟩ := h1
          obtain ⟨J1, y1, rfl⟩ := h2
          exact hinj i j hi' hj (h.m.inj _ _ I1 J1 B x1 y1 h3 h4 h5 h6)
        · cases h2
      · cases h1
    · intro j I B h1 h2 h3 o
      simp only [Env.turn] at h1
      split at h1
      · rename_i hj
        simp only [Option.map_eq_some_iff] at h1
        obtain ⟨I1, x1, rfl⟩ := h1
        simp only [Env.turn]
        unfold lentF
        rw [h.m.sep _ I1 B x1 h2 h3 o]
        simp only []
        rw [if_neg]
        rintro ⟨b', I', g1, g2, g3, g4⟩
        have := h.m.inj _ _ I1 I' B x1 g2 h2 g3 h3 g4
        subst this
        rw [hLi j hj] at g1; cases g1
      · cases h1
    · intro j I B h1 h2 h3
      simp only [Env.turn] at h1
      split at h1
      · rename_i hj
        simp only [Option.map_eq_some_iff] at h1
        obtain ⟨I1, x1, rfl⟩ := h1
        rcases h.m.own _ I1 B x1 h2 h3 with g | ⟨g1, g2⟩
        · exact .inl g
        · rcases Nat.lt_or_ge j p with hjp | hjp
          · exact .inr ⟨hjp, g2⟩
          · have := hi2 j hjp hj; simp at g1; omega
      · cases h1
    · intro B o hB
      show lentF E W H.L B o = F0 B o
      have ho : E.F B o = F0 B o := h.m.old B o hB
      rw [← ho]
      unfold lentF
      cases hf : E.F B o with
      | some d => rfl
      | none =>
        simp only []
        rw [if_neg]
        rintro ⟨b', I', g1, g2, g3, g4⟩
        have := hL' b' I' B g1 g2 g3 g4
        rw [hn0] at this
        simp at hB
        omega
end Go.Abs
