/- Laws about heaps and calls that the walks use. Conditions: as each theorem states them. -/
import Derived.Test.YthgccmnmalhmcaaA2
import Derived.LoopNIn
namespace Go.Abs
set_option linter.unusedVariables false
set_option linter.unusedSimpArgs false

structure Hw where
 mem : Nat → Option Blk
 L : Nat → Bool
 ids : Nat → Nat
 nv : Nat → Nat
 q : Nat

mutual
inductive Tr (H : Hw) : V → V → Prop
 | sc (v : Value) : Tr H (.sc v) (.sc v)
 | agg {cs cs' : List V} : Trs H cs cs' → cs'.all V.leaf = true → Tr H (.agg cs) (.agg cs')
 | tup {cs cs' : List V} : Trs H cs cs' → Tr H (.tup cs) (.tup cs')
 | lst {new new' : Bool} {e n : Nat} {cs cs' : List V} : (new' = true → new = true) → Trs H cs cs' → cs'.all V.leaf = true → Tr H (.lst new e n cs) (.lst new' e n cs')
 | nil {new : Bool} {e : Nat} : Tr H (.sc (.slice none 0 0)) (.lst new e 0 [])
 | rp {cs cs' : List V} : Trs H cs cs' → cs'.all V.leaf = true → Tr H (.rp cs) (.rp cs')
 | fn {f : Fn} {cs cs' : List V} : Trs H cs cs' → Tr H (.fn f cs) (.fn f cs')
 | any (v : V) : Tr H v .any
 | slKeep {j b ver ver' e off len te e0 : Nat} {cs : List V} : j < H.q → H.ids j = b → H.nv j = ver' → H.mem b = some (.arr te e0 ver cs) → Tr H (.sl b ver e off len) (.sl j ver' e off len)
 | ptrBox {j b o : Nat} {cs : List V} : j < H.q → H.ids j = b → H.nv j = 0 → H.mem b = some (.box cs) → Tr H (.ptr b 0 o) (.ptr j 0 o)
 | ptrArr {j b ver ver' o te e0 : Nat} {cs : List V} : j < H.q → H.ids j = b → H.nv j = ver' → H.mem b = some (.arr te e0 ver cs) → Tr H (.ptr b ver o) (.ptr j ver' o)
 | slFree {new : Bool} {b ver off len te e : Nat} {cs cs' : List V} : H.L b = true → H.mem b = some (.arr te e ver cs) → off * e + len * e ≤ cs.length → Trs H ((cs.drop (off * e)).take (len * e)) cs' → cs'.all V.leaf = true → Tr H (.sl b ver e off len) (.lst new e len cs')
inductive Trs (H : Hw) : List V → List V → Prop
 | nil : Trs H [] []
 | cons {x x' : V} {xs xs' : List V} : Tr H x x' → Trs H xs xs' → Trs H (x :: xs) (x' :: xs')
end
theorem Trs.length {H : Hw} : ∀ {xs ys : List V}, Trs H xs ys → ys.length = xs.length
 | [], _, h => by cases h; rfl
 | x :: xs, _, h => by cases h with | cons _ h => simp [Trs.length h]
theorem Trs.append {H : Hw} : ∀ {xs ys xs' ys' : List V}, Trs H xs xs' → Trs H ys ys' → Trs H (xs ++ ys) (xs' ++ ys')
 | _, _, _, _, .nil, k => k
 | _, _, _, _, .cons h1 h2, k => .cons h1 (Trs.append h2 k)
inductive BTr (H : Hw) (j : Nat) : Blk → Blk → Prop
 | box {cs cs' : List V} : H.nv j = 0 → Trs H cs cs' → cs'.all V.leaf = true → BTr H j (.box cs) (.box cs')
 | arr {te e ver ver' : Nat} {cs cs' : List V} : H.nv j = ver' → Trs H cs cs' → cs'.all V.leaf = true → BTr H j (.arr te e ver cs) (.arr te e ver' cs')

noncomputable def Env.turn (E : Env) (W : World) (H : Hw) : Env :=
 { n0 := E.n0, F := lentF E W H.L, σ := fun j => if j < H.q then (E.σ (H.ids j)).map fun I => { I with ver := H.nv j } else none }

section
variable {P : Program} {C : Cx} {E : Env} {mem : Nat → Option Blk} {nx : Nat} {W : World}
mutual
theorem Tr.ok {H : Hw} (hmem : H.mem = mem) (h : InvM C E mem nx W) (hL : ∀ b I B, H.L b = true → E.σ b = some I → I.dead = false → I.blk = some B → E.n0 ≤ B) :
  ∀ {v v' : V}, Tr H v v' → ∀ c, RL E v c → RL (E.turn W H) v' c
 | _, _, .sc v, c, r => by simpa only [RL] using r
 | _, _, .agg l hl, c, r => by
  simp only [RL] at r ⊢
  obtain ⟨ds, rfl, r1, r2⟩ := r
  exact ⟨ds, rfl, Trs.ok hmem h hL l ds r1, hl⟩
 | _, _, .tup l, c, r => by
  simp only [RL] at r ⊢
  obtain ⟨ds, rfl, r1⟩ := r
  exact ⟨ds, rfl, Trs.ok hmem h hL l ds r1⟩
 | _, _, .fn l, c, r => by
  simp only [RL] at r ⊢
  obtain ⟨ds, rfl, r1⟩ := r
  exact ⟨ds, rfl, Trs.ok hmem h hL l ds r1⟩
 | _, _, .lst hn l hl, c, r => by
  simp only [RL] at r ⊢
  obtain ⟨a, cap, rfl, r1, r2, r3, r4⟩ := r
  refine ⟨a, cap, rfl, r1, by rw [l.length, r2], hl, ?_⟩
  rcases r4 with r4 | ⟨B, o, rfl, r5, r6⟩
  ·exact .inl r4
  ·obtain ⟨ds, d1, d2⟩ := RF.list _ _ r6
   exact .inr ⟨B, o, rfl, fun q => r5 (hn q), RF.of_list _ ds o (Trs.ok hmem h hL l ds d1) fun j d hj => lentF_le _ _ _ (d2 j d hj)⟩
 | _, _, .nil, c, r => by
  simp only [RL] at r ⊢
  exact ⟨none, 0, r, Nat.le_refl _, by simp, rfl, .inl trivial⟩
 | _, _, .rp l hl, c, r => by
  simp only [RL] at r ⊢
  obtain ⟨B, o, rfl, r1, r2⟩ := r
  obtain ⟨ds, d1, d2⟩ := RF.list _ _ r1
  exact ⟨B, o, rfl, RF.of_list _ ds o (Trs.ok hmem h hL l ds d1) fun j d hj => lentF_le _ _ _ (d2 j d hj), hl⟩
 | _, _, .any v, c, r => by simp only [RL]
 | _, _, .slKeep hj hb hv hm, c, r => by
  subst hb
  rw [hmem] at hm
  obtain ⟨I, g1, g2⟩ := h.blk _ _ hm
  obtain ⟨a1, a2, a3, a4, a5, a6, a7⟩ := g2
  simp only [RL] at r ⊢
  obtain ⟨a, cap, rfl, q1, q2, q3, J, r1, r2⟩ := r
  rw [g1] at r1; cases r1
  refine ⟨a, cap, rfl, q1, q2, q3, { I with ver := H.nv _ }, by simp only [Env.turn]; rw [if_pos hj, g1]; rfl, ?_⟩
  rcases r2 with r2 | ⟨r2, r3⟩
  ·exact .inl r2
  ·exact .inr ⟨by simp only []; omega, fun _ => r3 a2.symm⟩
 | _, _, .ptrBox hj hb hv hm, c, r => by
  subst hb
  rw [hmem] at hm
  obtain ⟨I, g1, g2⟩ := h.blk _ _ hm
  obtain ⟨a1, a2, a3⟩ := g2
  simp only [RL] at r ⊢
  obtain ⟨B, rfl, J, r1, r2⟩ := r
  rw [g1] at r1; cases r1
  refine ⟨B, rfl, { I with ver := H.nv _ }, by simp only [Env.turn]; rw [if_pos hj, g1]; rfl, ?_⟩
  rcases r2 with r2 | ⟨r2, r3⟩
  ·exact .inl r2
  ·exact .inr ⟨by simp only []; omega, fun _ => r3 a2.symm⟩
 | _, _, .ptrArr hj hb hv hm, c, r => by
  subst hb
  rw [hmem] at hm
  obtain ⟨I, g1, g2⟩ := h.blk _ _ hm
  obtain ⟨a1, a2, a3⟩ := g2
  simp only [RL] at r ⊢
  obtain ⟨B, rfl, J, r1, r2⟩ := r
  rw [g1] at r1; cases r1
  refine ⟨B, rfl, { I with ver := H.nv _ }, by simp only [Env.turn]; rw [if_pos hj, g1]; rfl, ?_⟩
  rcases r2 with r2 | ⟨r2, r3⟩
  ·exact .inl r2
  ·exact .inr ⟨by simp only []; omega, fun _ => r3 a2.symm⟩
 | _, _, .slFree hLb hm hfit l hl, c, r => by
  rw [hmem] at hm
  obtain ⟨I, g1, g2⟩ := h.blk _ _ hm
  obtain ⟨a1, a2, a3, a4, a5, a6, a7⟩ := g2
  simp only [RL] at r ⊢
  obtain ⟨a, cap, rfl, q1, q2, q3, J, r1, r2⟩ := r
  rw [g1] at r1; cases r1
  have hlen := l.length
  refine ⟨a, cap, rfl, q1, by rw [hlen]; simp; omega, hl, ?_⟩
  rcases r2 with r2 | ⟨r2, r3⟩
  ·rw [a1] at r2; cases r2
  ·obtain ⟨r4, r5⟩ := r3 a2.symm
   rcases r5 with ⟨r5, rfl⟩ | ⟨B, r5, rfl, r7⟩
   ·rcases q3 with ⟨_, _, q3, _⟩ | ⟨B, q3⟩
    ·exact .inl q3
    ·cases q3
   ·refine .inr ⟨B, _, rfl, fun q => hL _ I B hLb g1 a1 r5, ?_⟩
    rcases a7 with ⟨a7, _⟩ | ⟨B', cur, b1, b2, b3, b4, b5, b6⟩
    ·rw [a7] at r5; cases r5
    ·rw [r5] at b1
     obtain rfl : B = B' := Option.some.inj b1
     refine RF.of_list _ _ _ (Trs.ok hmem h hL l _ ((b6.drop _).take _)) (cellsAt_lent h hLb g1 a1 r5 ?_)
     intro j d hj
     rw [List.getElem?_take] at hj
     split at hj
     ·exact cellsAt_heap b2 _ _ j d hj
     ·cases hj
theorem Trs.ok {H : Hw} (hmem : H.mem = mem) (h : InvM C E mem nx W) (hL : ∀ b I B, H.L b = true → E.σ b = some I → I.dead = false → I.blk = some B → E.n0 ≤ B) :
  ∀ {vs vs' : List V}, Trs H vs vs' → ∀ ds, RLs E vs ds → RLs (E.turn W H) vs' ds
 | _, _, .nil, ds, r => by simpa only [RLs] using r
 | _, _, .cons h1 h2, ds, r => by
  simp only [RLs] at r ⊢
  obtain ⟨d, ds', rfl, r1, r2⟩ := r
  exact ⟨d, ds', rfl, Tr.ok hmem h hL h1 d r1, Trs.ok hmem h hL h2 ds' r2⟩
end
theorem BTr.ok {H : Hw} (hmem : H.mem = mem) (h : InvM C E mem nx W) (hL : ∀ b I B, H.L b = true → E.σ b = some I → I.dead = false → I.blk = some B → E.n0 ≤ B) {j : Nat} {k k' : Blk} (hl : BTr H j k k') {I : Info} (hk : BlkOK E W I k) : BlkOK (E.turn W H) W { I with ver := H.nv j } k' := by
 cases hl with
 | box hv l hl =>
  obtain ⟨h1, h2, h3, B, cur, t, h4, h5, h6, h7, h8⟩ := hk
  exact ⟨h1, hv, h3, B, cur, t, h4, h5, by rw [l.length]; exact h6, hl, by rw [l.length]; exact Trs.ok hmem h hL l _ h8⟩
 | arr hv l hl =>
  obtain ⟨h1, h2, h3, h4, h5, ⟨m, h6⟩, h7⟩ := hk
  refine ⟨h1, hv, h3, h4, hl, ⟨m, by rw [l.length]; exact h6⟩, ?_⟩
  rcases h7 with ⟨h7, h8⟩ | ⟨B, cur, a1, a2, a3, a4, a5, a6⟩
  ·subst h8
   cases l
   exact .inl ⟨h7, rfl⟩
  ·exact .inr ⟨B, cur, a1, a2, a3, a4, by rw [l.length]; exact a5, by rw [l.length]; exact Trs.ok hmem h hL l _ a6⟩
end

theorem Weak.turn {W0 : World} {S : Nat → Prop} {p N : Nat} {F0 : Nat → Nat → Option Value} {D : List Deferred} {s s' : St} (H : Hw) (hmem : H.mem = s.mem) (hp : p ≤ H.q) (hL : ∀ b, H.L b = true → p ≤ b)
  (hi : ∀ j, j < p → H.ids j = j) (hnv : ∀ j, j < p → ∃ k, s.mem j = some k ∧ k.hasVer (H.nv j) = true) (hi2 : ∀ j, p ≤ j → j < H.q → p ≤ H.ids j) (hinj : ∀ i j, i < H.q → j < H.q → H.ids i = H.ids j → i = j) (hLi : ∀ j, j < H.q → H.L (H.ids j) = false)
  (hb : ∀ j, j < H.q → ∃ k k', s.mem (H.ids j) = some k ∧ s'.mem j = some k' ∧ BTr H j k k') (hb2 : ∀ j, H.q ≤ j → s'.mem j = none) (hnx : s'.nx = H.q) (ht : ∀ t, Tr H (s.tm t) (s'.tm t)) : Weak ⟨W0, S, p, F0, N, D⟩ s s' := fun E a W h => by
 have hn0 : E.n0 = W0.heap.size := h.m.n0
 have hL' : ∀ b I B, H.L b = true → E.σ b = some I → I.dead = false → I.blk = some B → E.n0 ≤ B := fun b I B hb hI hd hB => by
  rcases h.m.own b I B hI hd hB with h1 | ⟨h1, _⟩
  ·rw [hn0]; exact h1
  ·have := hL b hb; simp at h1; omega
 refine ⟨E.turn W H, ⟨Nat.le_refl _, fun B o d hd => lentF_le _ _ _ hd, fun b I hb hI => ?_⟩, ⟨?_, fun t => Tr.ok hmem h.m hL' (ht t) _ (h.tms t), h.size, h.defs⟩⟩
 ·have hb : b < p := hb
  obtain ⟨k, k1, k2⟩ := hnv b hb
  obtain ⟨J, j1, j2⟩ := h.m.blk b k k1
  rw [hI] at j1; cases j1
  have hver : I.ver = H.nv b := by
   cases k with
   | dead => cases k2
   | box cs => obtain ⟨_, a2, _⟩ := j2; simp [Blk.hasVer] at k2; rw [a2, k2]
   | arr te e v cs => obtain ⟨_, a2, _⟩ := j2; simp [Blk.hasVer] at k2; rw [a2, k2]
  refine ⟨I, ?_, I.le_refl⟩
  simp only [Env.turn]
  rw [if_pos (by omega), hi b hb, hI]
  simp only [Option.map_some, ← hver]
 ·refine ⟨hn0, ?_, ?_, ?_, ?_, ?_, ?_, ?_, ?_, h.m.keep⟩
  ·intro B o d hF
   simp only [Env.turn] at hF
   unfold lentF at hF
   split at hF
   ·rename_i d' hd; cases hF; exact h.m.frz B o d hd
   ·split at hF
    ·exact hF
    ·cases hF
  ·intro j k' hk'
   have hj : j < H.q := by
    rcases Nat.lt_or_ge j H.q with hj | hj
    ·exact hj
    ·rw [hb2 j hj] at hk'; cases hk'
   obtain ⟨k, k2, e1, e2, e3⟩ := hb j hj
   rw [hk'] at e2; cases e2
   obtain ⟨I, g1, g2⟩ := h.m.blk _ _ e1
   exact ⟨{ I with ver := H.nv j }, by simp only [Env.turn]; rw [if_pos hj, g1]; rfl, BTr.ok hmem h.m hL' e3 g2⟩
  ·intro j I hI
   simp only [Env.turn] at hI
   split at hI
   ·rename_i hj
    obtain ⟨k, k2, e1, e2, e3⟩ := hb j hj
    exact ⟨k2, e2⟩
   ·cases hI
  ·intro j k' hk'
   rw [hnx]
   rcases Nat.lt_or_ge j H.q with hj | hj
   ·exact hj
   ·rw [hb2 j hj] at hk'; cases hk'
  ·intro i j I J B h1 h2 h3 h4 h5 h6
   simp only [Env.turn] at h1 h2
   split at h1
   ·rename_i hi'
    split at h2
    ·rename_i hj
     simp only [Option.map_eq_some_iff] at h1 h2
     obtain ⟨I1, x1, rfl⟩ := h1
     obtain ⟨J1, y1, rfl⟩ := h2
     exact hinj i j hi' hj (h.m.inj _ _ I1 J1 B x1 y1 h3 h4 h5 h6)
    ·cases h2
   ·cases h1
  ·intro j I B h1 h2 h3 o
   simp only [Env.turn] at h1
   split at h1
   ·rename_i hj
    simp only [Option.map_eq_some_iff] at h1
    obtain ⟨I1, x1, rfl⟩ := h1
    simp only [Env.turn]
    unfold lentF
    rw [h.m.sep _ I1 B x1 h2 h3 o]
    simp only []
    rw [if_neg]
    rintro ⟨b', I', g1, g2, g3, g4⟩
    have := h.m.inj _ _ I1 I' B x1 g2 h2 g3 h3 g4
    subst this
    rw [hLi j hj] at g1; cases g1
   ·cases h1
  ·intro j I B h1 h2 h3
   simp only [Env.turn] at h1
   split at h1
   ·rename_i hj
    simp only [Option.map_eq_some_iff] at h1
    obtain ⟨I1, x1, rfl⟩ := h1
    rcases h.m.own _ I1 B x1 h2 h3 with g | ⟨g1, g2⟩
    ·exact .inl g
    ·rcases Nat.lt_or_ge j p with hjp | hjp
     ·exact .inr ⟨hjp, g2⟩
     ·have := hi2 j hjp hj; simp at g1; omega
   ·cases h1
  ·intro B o hB
   show lentF E W H.L B o = F0 B o
   have ho : E.F B o = F0 B o := h.m.old B o hB
   rw [← ho]
   unfold lentF
   cases hf : E.F B o with
   | some d => rfl
   | none =>
    simp only []
    rw [if_neg]
    rintro ⟨b', I', g1, g2, g3, g4⟩
    have := hL' b' I' B g1 g2 g3 g4
    rw [hn0] at this
    simp at hB
    omega
end Go.Abs
namespace Go.Abs
set_option linter.unusedVariables false
set_option linter.unusedSimpArgs false

mutual
theorem ren_nor (r : Nat → Nat) : ∀ (v : V), V.nor v = true → v.ren r = v
 | .sc v, h => by simp only [V.ren]
 | .agg cs, h => by simp only [V.ren]; rw [rens_nor r cs (by simpa only [V.nor] using h)]
 | .tup cs, h => by simp only [V.ren]; rw [rens_nor r cs (by simpa only [V.nor] using h)]
 | .lst new e n cs, h => by simp only [V.ren]; rw [rens_nor r cs (by simpa only [V.nor] using h)]
 | .rp cs, h => by simp only [V.ren]; rw [rens_nor r cs (by simpa only [V.nor] using h)]
 | .sl .., h => by simp [V.nor] at h
 | .ptr .., h => by simp [V.nor] at h
 | .fn f cs, h => by simp only [V.ren]; rw [rens_nor r cs (by simpa only [V.nor] using h)]
 | .any, h => by simp only [V.ren]
theorem rens_nor (r : Nat → Nat) : ∀ (vs : List V), V.nors vs = true → V.rens r vs = vs
 | [], h => by simp only [V.rens]
 | x :: xs, h => by
  simp only [V.nors, Bool.and_eq_true] at h
  simp only [V.rens]; rw [ren_nor r x h.1, rens_nor r xs h.2]
end
theorem Lends.append {H : How} : ∀ {xs ys xs' ys' : List V}, Lends H xs xs' → Lends H ys ys' → Lends H (xs ++ ys) (xs' ++ ys')
 | _, _, _, _, .nil, k => k
 | _, _, _, _, .cons h1 h2, k => .cons h1 (Lends.append h2 k)

class Cl (α : Type) where
 e : Nat
 c : Bool → α → List V
 d : α
 pos : 0 < e
 len : ∀ nw x, (c nw x).length = e
 leaf : ∀ nw x, (c nw x).all V.leaf = true
 nors : ∀ nw x, V.nors (c nw x) = true
 fresh : ∀ x, V.freshs (c true x) = true
 tr : ∀ (H : Hw) nw nw' x, (nw' = true → nw = true) → Trs H (c nw x) (c nw' x)
 ld : ∀ (H : How) nw x, Lends H (c nw x) (c (H.tg nw) x)
section
variable {α : Type} [Cl α]
theorem flat_len' (nw : Bool) (xs : List α) : (xs.flatMap (Cl.c nw)).length = xs.length * Cl.e α := flat_length (Cl.len nw) xs
theorem flat_leaf (nw : Bool) (xs : List α) : (xs.flatMap (Cl.c nw)).all V.leaf = true := all_flatMap (Cl.leaf nw) xs
theorem flat_nors (nw : Bool) (xs : List α) : V.nors (xs.flatMap (Cl.c nw)) = true := by
 rw [nors_eq]; exact all_flatMap (fun x => by rw [← nors_eq]; exact Cl.nors nw x) xs
theorem flat_fresh (xs : List α) : V.freshs (xs.flatMap (Cl.c true)) = true := by
 rw [freshs_eq]; exact all_flatMap (fun x => by rw [← freshs_eq]; exact Cl.fresh x) xs
theorem flat_tr (H : Hw) (nw nw' : Bool) (h : nw' = true → nw = true) : ∀ (xs : List α), Trs H (xs.flatMap (Cl.c nw)) (xs.flatMap (Cl.c nw'))
 | [] => .nil
 | x :: xs => by rw [List.flatMap_cons, List.flatMap_cons]; exact (Cl.tr H nw nw' x h).append (flat_tr H nw nw' h xs)
theorem flat_ld (H : How) (nw : Bool) : ∀ (xs : List α), Lends H (xs.flatMap (Cl.c nw)) (xs.flatMap (Cl.c (H.tg nw)))
 | [] => .nil
 | x :: xs => by rw [List.flatMap_cons, List.flatMap_cons]; exact (Cl.ld H nw x).append (flat_ld H nw xs)
theorem flat_at (nw : Bool) (xs : List α) (i : Nat) (hi : i < xs.length) : ((xs.flatMap (Cl.c nw)).drop (i * Cl.e α)).take (Cl.e α) = Cl.c nw (xs.getD i Cl.d) := by
 rw [cellsAt_flat (Cl.len nw) xs i hi, List.getD_eq_getElem?_getD, List.getElem?_eq_getElem hi]; rfl
theorem flat_drop (nw : Bool) : ∀ (xs : List α) (i : Nat), (xs.flatMap (Cl.c nw)).drop (i * Cl.e α) = (xs.drop i).flatMap (Cl.c nw)
 | [], i => by simp
 | x :: xs, 0 => by simp
 | x :: xs, i + 1 => by
  rw [List.flatMap_cons, List.drop_succ_cons, ← flat_drop nw xs i, List.drop_append, Cl.len, Nat.succ_mul, Nat.add_sub_cancel, List.drop_of_length_le (by rw [Cl.len]; exact Nat.le_add_left _ _), List.nil_append]
theorem flat_take (nw : Bool) : ∀ (xs : List α) (i : Nat), (xs.flatMap (Cl.c nw)).take (i * Cl.e α) = (xs.take i).flatMap (Cl.c nw)
 | [], i => by simp
 | x :: xs, 0 => by simp
 | x :: xs, i + 1 => by
  rw [List.flatMap_cons, List.take_succ_cons, List.flatMap_cons, ← flat_take nw xs i, List.take_append, Cl.len, Nat.succ_mul, Nat.add_sub_cancel]
  rw [List.take_of_length_le (by rw [Cl.len]; exact Nat.le_add_left _ _)]
end
instance : Cl Int where
 e := 1
 c _ n := [.sc (.int .i64 n)]
 d := 0
 pos := by decide
 len _ _ := rfl
 leaf _ _ := rfl
 nors _ _ := rfl
 fresh _ := rfl
 tr _ _ _ _ _ := .cons (.sc _) .nil
 ld _ _ _ := .cons (.sc _) .nil
instance : Cl Bool where
 e := 1
 c _ b := [.sc (.bool b)]
 d := false
 pos := by decide
 len _ _ := rfl
 leaf _ _ := rfl
 nors _ _ := rfl
 fresh _ := rfl
 tr _ _ _ _ _ := .cons (.sc _) .nil
 ld _ _ _ := .cons (.sc _) .nil
structure NU64 where
 n : Int
 deriving DecidableEq
instance : Cl NU64 where
 e := 1
 c _ x := [.sc (.int .u64 x.n)]
 d := ⟨0⟩
 pos := by decide
 len _ _ := rfl
 leaf _ _ := rfl
 nors _ _ := rfl
 fresh _ := rfl
 tr _ _ _ _ _ := .cons (.sc _) .nil
 ld _ _ _ := .cons (.sc _) .nil
structure NU32 where
 n : Int
 deriving DecidableEq
instance : Cl NU32 where
 e := 1
 c _ x := [.sc (.int .u32 x.n)]
 d := ⟨0⟩
 pos := by decide
 len _ _ := rfl
 leaf _ _ := rfl
 nors _ _ := rfl
 fresh _ := rfl
 tr _ _ _ _ _ := .cons (.sc _) .nil
 ld _ _ _ := .cons (.sc _) .nil
structure NU16 where
 n : Int
 deriving DecidableEq
instance : Cl NU16 where
 e := 1
 c _ x := [.sc (.int .u16 x.n)]
 d := ⟨0⟩
 pos := by decide
 len _ _ := rfl
 leaf _ _ := rfl
 nors _ _ := rfl
 fresh _ := rfl
 tr _ _ _ _ _ := .cons (.sc _) .nil
 ld _ _ _ := .cons (.sc _) .nil
structure NU8 where
 n : Int
 deriving DecidableEq
instance : Cl NU8 where
 e := 1
 c _ x := [.sc (.int .u8 x.n)]
 d := ⟨0⟩
 pos := by decide
 len _ _ := rfl
 leaf _ _ := rfl
 nors _ _ := rfl
 fresh _ := rfl
 tr _ _ _ _ _ := .cons (.sc _) .nil
 ld _ _ _ := .cons (.sc _) .nil
structure NI32 where
 n : Int
 deriving DecidableEq
instance : Cl NI32 where
 e := 1
 c _ x := [.sc (.int .i32 x.n)]
 d := ⟨0⟩
 pos := by decide
 len _ _ := rfl
 leaf _ _ := rfl
 nors _ _ := rfl
 fresh _ := rfl
 tr _ _ _ _ _ := .cons (.sc _) .nil
 ld _ _ _ := .cons (.sc _) .nil
structure NI16 where
 n : Int
 deriving DecidableEq
instance : Cl NI16 where
 e := 1
 c _ x := [.sc (.int .i16 x.n)]
 d := ⟨0⟩
 pos := by decide
 len _ _ := rfl
 leaf _ _ := rfl
 nors _ _ := rfl
 fresh _ := rfl
 tr _ _ _ _ _ := .cons (.sc _) .nil
 ld _ _ _ := .cons (.sc _) .nil
structure NI8 where
 n : Int
 deriving DecidableEq
instance : Cl NI8 where
 e := 1
 c _ x := [.sc (.int .i8 x.n)]
 d := ⟨0⟩
 pos := by decide
 len _ _ := rfl
 leaf _ _ := rfl
 nors _ _ := rfl
 fresh _ := rfl
 tr _ _ _ _ _ := .cons (.sc _) .nil
 ld _ _ _ := .cons (.sc _) .nil
theorem freshs_app' (a b : List V) : V.freshs (a ++ b) = (V.freshs a && V.freshs b) := by simp [freshs_eq]
instance {α β : Type} [Cl α] [Cl β] : Cl (α × β) where
 e := Cl.e α + Cl.e β
 c nw x := Cl.c nw x.1 ++ Cl.c nw x.2
 d := (Cl.d, Cl.d)
 pos := by have := Cl.pos (α := α); omega
 len nw x := by rw [List.length_append, Cl.len, Cl.len]
 leaf nw x := by rw [List.all_append, Cl.leaf, Cl.leaf]; rfl
 nors nw x := by rw [nors_app, Cl.nors, Cl.nors]; rfl
 fresh x := by rw [freshs_app', Cl.fresh, Cl.fresh]; rfl
 tr H nw nw' x h := (Cl.tr H nw nw' _ h).append (Cl.tr H nw nw' _ h)
 ld H nw x := (Cl.ld H nw _).append (Cl.ld H nw _)
def rowV {α : Type} [Cl α] (nw : Bool) (xs : List α) : V := .lst nw (Cl.e α) xs.length (xs.flatMap (Cl.c nw))
instance {α : Type} [Cl α] : Cl (List α) where
 e := 1
 c nw xs := [.lst nw (Cl.e α) xs.length (xs.flatMap (Cl.c nw))]
 d := []
 pos := by decide
 len _ _ := rfl
 leaf _ _ := rfl
 nors nw xs := by simp [V.nors, V.nor, flat_nors]
 fresh xs := by simp [V.freshs, V.fresh, flat_fresh]
 tr H nw nw' xs h := .cons (.lst h (flat_tr H nw nw' h xs) (flat_leaf _ _)) .nil
 ld H nw xs := .cons (.lst (flat_ld H nw xs) (flat_leaf _ _)) .nil
@[reducible] def Cl.iso {α β : Type} [Cl β] (f : α → β) (d0 : α) : Cl α where
 e := Cl.e β
 c nw x := Cl.c nw (f x)
 d := d0
 pos := Cl.pos
 len nw x := Cl.len nw _
 leaf nw x := Cl.leaf nw _
 nors nw x := Cl.nors nw _
 fresh x := Cl.fresh _
 tr H nw nw' x h := Cl.tr H nw nw' _ h
 ld H nw x := Cl.ld H nw _
end Go.Abs
namespace Go.Abs
set_option linter.unusedVariables false
set_option linter.unusedSimpArgs false

def aggV {α : Type} [Cl α] (nw : Bool) (x : α) : V := .agg (Cl.c nw x)
def slV (α : Type) [Cl α] (b ver off len : Nat) : V := .sl b ver (Cl.e α) off len
def arrB {α : Type} [Cl α] (te ver : Nat) (nw : Bool) (xs : List α) : Blk := .arr te (Cl.e α) ver (xs.flatMap (Cl.c nw))
def boxB {α : Type} [Cl α] (nw : Bool) (x : α) : Blk := .box (Cl.c nw x)

def hwL (mem : List (Nat × Blk)) (kp : List (Nat × Nat)) (fz : List Nat) : Hw := ⟨lget mem, fun b => fz.contains b, fun j => (kp.getD j (0, 0)).1, fun j => (kp.getD j (0, 0)).2, kp.length⟩
def TrTm (H : Hw) (s : LS) : List (Nat × V) → Prop
 | [] => True
 | (t, v) :: l => Tr H (s.slot t) v ∧ TrTm H s l
def TrMem (H : Hw) (mem : List (Nat × Blk)) : Nat → List Blk → Prop
 | _, [] => True
 | j, k' :: l => (∃ k, lget mem (H.ids j) = some k ∧ BTr H j k k') ∧ TrMem H mem (j + 1) l
def kpOK (p : Nat) (mem : List (Nat × Blk)) (kp : List (Nat × Nat)) (fz : List Nat) : Bool :=
 decide (p ≤ kp.length) && fz.all (fun b => decide (p ≤ b)) && nodupB (kp.map (·.1)) && ((List.range kp.length).all fun j =>
  if j < p then (kp.getD j (0, 0)).1 == j && (match lget mem j with | some k => k.hasVer (kp.getD j (0, 0)).2 | none => false) else decide (p ≤ (kp.getD j (0, 0)).1)) && kp.all fun x => !fz.contains x.1
theorem TrTm.get {H : Hw} {s : LS} : ∀ {l : List (Nat × V)}, TrTm H s l → ∀ t v, lget l t = some v → Tr H (s.slot t) v
 | [], h, t, v, e => by cases e
 | (t', v') :: l, h, t, v, e => by
  unfold lget at e
  split at e
  ·rename_i hq; subst hq; cases e; exact h.1
  ·exact TrTm.get h.2 t v e
theorem TrMem.get {H : Hw} {mem : List (Nat × Blk)} : ∀ {l : List Blk} {j0 : Nat}, TrMem H mem j0 l → ∀ j k', l[j]? = some k' → ∃ k, lget mem (H.ids (j0 + j)) = some k ∧ BTr H (j0 + j) k k'
 | [], j0, h, j, k', e => by simp at e
 | x :: l, j0, h, j, k', e => by
  cases j with
  | zero => simp at e; subst e; exact h.1
  | succ j => have := TrMem.get h.2 j k' (by simpa using e); rwa [show j0 + 1 + j = j0 + (j + 1) by omega] at this
theorem Weak.turnL {W0 : World} {S : Nat → Prop} {p N : Nat} {F0 : Nat → Nat → Option Value} {D : List Deferred} {tm tm' : List (Nat × V)} {mem : List (Nat × Blk)} {nx : Nat} {ks : List Blk} (kp : List (Nat × Nat)) (fz : List Nat)
  (hk : kpOK p mem kp fz = true) (hl : ks.length = kp.length) (ht : TrTm (hwL mem kp fz) ⟨tm, mem, nx⟩ tm') (hb : TrMem (hwL mem kp fz) mem 0 ks) :
  Weak ⟨W0, S, p, F0, N, D⟩ (LS.mk tm mem nx).st (LS.mk tm' (lblks 0 ks) ks.length).st := by
 unfold kpOK at hk
 simp only [Bool.and_eq_true, decide_eq_true_eq, List.all_eq_true, List.mem_range, Bool.not_eq_true'] at hk
 obtain ⟨⟨⟨⟨k1, k2⟩, k3⟩, k4⟩, k5⟩ := hk
 have hnd := nodupB_ok _ k3
 have hget : ∀ j (hj : j < kp.length), (kp.getD j (0, 0)) = kp[j] := fun j hj => by simp [hj]
 refine Weak.turn (hwL mem kp fz) rfl k1 (fun b hb => k2 b (by simpa [hwL] using hb)) (fun j hj => ?_) (fun j hj => ?_) (fun j h1 h2 => ?_) (fun i j hi hj e => ?_) (fun j hj => ?_) (fun j hj => ?_) (fun j hj => ?_) hl (fun t => ?_)
 ·have := k4 j (by omega); rw [if_pos hj] at this
  simp only [Bool.and_eq_true, beq_iff_eq] at this
  exact this.1
 ·have := k4 j (by omega); rw [if_pos hj] at this
  simp only [Bool.and_eq_true, beq_iff_eq] at this
  have h2 := this.2
  split at h2
  ·rename_i k hk; exact ⟨k, hk, h2⟩
  ·cases h2
 ·have := k4 j h2; rw [if_neg (by omega)] at this
  simpa [hwL] using this
 ·have hi : i < kp.length := hi
  have hj : j < kp.length := hj
  simp only [hwL] at e
  rw [hget i hi, hget j hj] at e
  exact nodup_inj (l := kp.map (·.1)) (hi := by simpa using hi) (hj := by simpa using hj) hnd (by simpa using e)
 ·have hj : j < kp.length := hj
  simp only [hwL]
  rw [hget j hj]
  exact k5 _ (List.getElem_mem hj)
 ·have hj : j < kp.length := hj
  have hj' : j < ks.length := by omega
  obtain ⟨k, e1, e2⟩ := TrMem.get hb j ks[j] (by simp [hj'])
  rw [Nat.zero_add] at e1 e2
  exact ⟨k, ks[j], e1, by show lget (lblks 0 ks) j = _; rw [lget_lblks]; simp [hj'], e2⟩
 ·have hj : kp.length ≤ j := hj
  show lget (lblks 0 ks) j = none
  rw [lget_lblks]; simp; omega
 ·show Tr _ (LS.slot _ t) (LS.slot ⟨tm', _, _⟩ t)
  conv => arg 3; unfold LS.slot
  simp only []
  cases e : lget tm' t with
  | none => exact .any _
  | some v => exact ht.get t v e
theorem AWP.turn {P : Program} {r : Option Nat} {W0 : World} {S : Nat → Prop} {p N : Nat} {F0 : Nat → Nat → Option Value} {D : List Deferred} {tm tm' : List (Nat × V)} {mem : List (Nat × Blk)} {nx : Nat} {ks : List Blk} {c : Code} {Q : Exit → St → Prop} (kp : List (Nat × Nat)) (fz : List Nat)
  (hk : kpOK p mem kp fz = true) (hl : ks.length = kp.length) (ht : TrTm (hwL mem kp fz) ⟨tm, mem, nx⟩ tm') (hb : TrMem (hwL mem kp fz) mem 0 ks)
  (h : AWP P r ⟨W0, S, p, F0, N, D⟩ c (LS.mk tm' (lblks 0 ks) ks.length).st Q) : AWP P r ⟨W0, S, p, F0, N, D⟩ c (LS.mk tm mem nx).st Q := AWP.weaken (Weak.turnL kp fz hk hl ht hb) h
section
variable {α : Type} [Cl α] {H : Hw}
theorem trR {nw nw' : Bool} {xs : List α} (h : nw' = true → nw = true) : Tr H (rowV nw xs) (rowV nw' xs) := .lst h (flat_tr H nw nw' h xs) (flat_leaf _ _)
theorem trA {nw nw' : Bool} {x : α} (h : nw' = true → nw = true) : Tr H (aggV nw x) (aggV nw' x) := .agg (Cl.tr H nw nw' x h) (Cl.leaf _ _)
theorem trN {nw : Bool} : Tr H (.sc (.slice none 0 0)) (rowV nw ([] : List α)) := .nil
theorem trS {j b ver ver' off len te : Nat} {nw : Bool} {xs : List α} (h1 : j < H.q) (h2 : H.ids j = b) (h3 : H.nv j = ver') (hm : H.mem b = some (arrB te ver nw xs)) : Tr H (slV α b ver off len) (slV α j ver' off len) := .slKeep h1 h2 h3 hm
theorem trP {j b o : Nat} {cs : List V} (h1 : j < H.q) (h2 : H.ids j = b) (h3 : H.nv j = 0) (hm : H.mem b = some (.box cs)) : Tr H (.ptr b 0 o) (.ptr j 0 o) := .ptrBox h1 h2 h3 hm
theorem trF {b ver te : Nat} {nw nw' new : Bool} {xs : List α} (hL : H.L b = true) (hm : H.mem b = some (arrB te ver nw xs)) (h : nw' = true → nw = true) (hn : new = nw') : Tr H (slV α b ver 0 xs.length) (rowV new xs) := by
 subst hn
 refine .slFree hL hm ?_ ?_ (flat_leaf _ _)
 ·rw [flat_len']; omega
 ·rw [Nat.zero_mul, List.drop_zero, List.take_of_length_le (by rw [flat_len']; exact Nat.le_refl _)]
  exact flat_tr H nw _ h xs
theorem trFs {b ver te off len : Nat} {nw nw' new : Bool} {xs : List α} (hL : H.L b = true) (hm : H.mem b = some (arrB te ver nw xs)) (hfit : off + len ≤ xs.length) (h : nw' = true → nw = true) (hn : new = nw') : Tr H (slV α b ver off len) (rowV new ((xs.drop off).take len)) := by
 subst hn
 unfold rowV
 rw [show ((xs.drop off).take len).length = len by simp; omega]
 refine .slFree hL hm ?_ ?_ (flat_leaf _ _)
 ·rw [flat_len', ← Nat.add_mul]; exact Nat.mul_le_mul_right _ hfit
 ·rw [flat_drop, flat_take]
  exact flat_tr H nw _ h _
theorem btrA {j te ver ver' : Nat} {nw nw' : Bool} {xs : List α} (h : H.nv j = ver') (hn : nw' = true → nw = true) : BTr H j (arrB te ver nw xs) (arrB te ver' nw' xs) := .arr h (flat_tr H nw nw' hn xs) (flat_leaf _ _)
theorem btrB {j : Nat} {nw nw' : Bool} {x : α} (h : H.nv j = 0) (hn : nw' = true → nw = true) : BTr H j (boxB nw x) (boxB nw' x) := .box h (Cl.tr H nw nw' x hn) (Cl.leaf _ _)
end
end Go.Abs
namespace Go.Abs
set_option linter.unusedVariables false
set_option linter.unusedSimpArgs false

structure RX where
  P : Program
  N : Nat
  p : Nat
  ops : Array Oper
  base : Nat
  masks : Option (List Nat)
  kl : Kl
def RunC (c : RX) (i : Nat) (l : List Oper) (s : LS) (Q : LS → Prop) : Prop :=
  (∀ k o', l[k]? = some o' → c.ops[i + k]? = some o') → (∀ o ∈ l, dstOK c.N o.dst = true) → (∀ b, c.base + 4 * i ≤ b → lget s.mem b = none) →
  match c.masks with
  | some _ => ∃ s' : LS, Run c.P c.N c.p c.ops c.base (chkL c.ops c.base c.masks c.kl) (List.range' i l.length) s.st s'.st ∧ Q s'
  | none => ∀ (r : Option Nat) (W0 : World) (S : Nat → Prop) (F0 : Nat → Nat → Option Value) (D : List Deferred) (E : Env) (a : Act) (W : World) (Qc : Exit → Act → World → Prop), Inv ⟨W0, S, c.p, F0, c.N, D⟩ E s.st a W → c.base + 4 * (i + l.length) ≤ s.nx →
      (∀ E' a' W' (s' : LS), E.le E' → Inv ⟨W0, S, c.p, F0, c.N, D⟩ E' s'.st a' W' → Q s' → Qc .normal a' W') → wpOpsIn (fe r) 0 c.P c.ops Qc (List.range' i l.length) a W
theorem RunC.nil {c : RX} {i : Nat} {s : LS} {Q : LS → Prop} (h : Q s) : RunC c i [] s Q := fun _ _ _ => by
  split
  · exact ⟨s, .nil, h⟩
  · intro r W0 S F0 D E a W Qc hI _ hQ
    exact hQ E a W s E.le_refl hI h
def pushes : List (Nat × Blk) → List (Nat × Blk) → List (Nat × Blk)
  | m, [] => m
  | m, x :: l => pushes (x :: m) l
theorem lget_pushes : ∀ (l m : List (Nat × Blk)), lget (pushes m l) = upds (lget m) l
  | [], m => rfl
  | x :: l, m => by
    unfold pushes
    rw [lget_pushes l, upds_cons]
    congr 1
    funext j
    simp [lget, upd, eq_comm]
def LS.with (s : LS) (d : Option Tmp) (v : V) (mem : List (Nat × Blk)) : LS := ⟨match d with | some d => (d, v) :: s.tm | none => s.tm, mem, s.nx⟩
theorem LS.with_st (s : LS) (o : Oper) (e : Eff) : (s.with o.dst e.val (pushes s.mem e.ups)).st = s.st.app o e := by
  unfold LS.with LS.st St.app
  congr 1
  · funext t
    unfold putT LS.slot
    cases o.dst with
    | none => rfl
    | some d =>
      simp only [lget, upd]
      by_cases h : d = t
      · subst h; simp
      · simp [h, Ne.symm h]
  · exact lget_pushes _ _
section
variable {c : RX} {i : Nat} {o : Oper} {l : List Oper} {s : LS} {Q : LS → Prop}
theorem RunC.act {e : Eff} {t : List Nat} {w : Bool} (ha : lget s.mem (c.base + 4 * i) = none → Act1 c.P c.N c.p c.ops (c.base + 4 * i) o s.st e t w)
    (hc : c.ops[i]? = some o → chkL c.ops c.base c.masks c.kl i t w) (hu : ∀ x ∈ e.ups, x.1 < c.base + 4 * i + 4 ∨ (lget s.mem x.1).isSome = true)
    (h : RunC c (i + 1) l (s.with o.dst e.val (pushes s.mem e.ups)) Q) : RunC c i (o :: l) s Q := by
  intro hl hd hf
  obtain ⟨h1, h2⟩ := RunK.head hl
  have h' := h h2 (fun o' ho' => hd o' (List.mem_cons_of_mem _ ho')) (fun b hb => by
    show lget (pushes s.mem e.ups) b = none
    rw [lget_pushes, upds_other _ _ _ fun x hx hxb => ?_]
    · exact hf b (by omega)
    · subst hxb
      rcases hu x hx with h | h
      · omega
      · rw [hf _ (by omega)] at h; cases h)
  have hdst : ∀ d, o.dst = some d → d < c.N := fun d hdd => by
    have := hd o List.mem_cons_self
    rw [hdd] at this
    simpa [dstOK] using this
  cases hm : c.masks with
  | some ms =>
    simp only [hm] at h'
    obtain ⟨s', r1, r2⟩ := h'
    refine ⟨s', ?_, r2⟩
    show Run _ _ _ _ _ _ (List.range' i (l.length + 1)) _ _
    rw [List.range'_succ]
    rw [LS.with_st] at r1
    have hc1 := hc h1
    rw [hm] at hc1
    exact .cons h1 hdst (ha (hf _ (Nat.le_refl _))) hc1 r1
  | none =>
    simp only [hm] at h'
    intro r W0 S F0 D E a W Qc hI hn hQ
    show wpOpsIn _ _ _ _ _ (List.range' i (l.length + 1)) _ _
    rw [List.range'_succ, wpOpsIn_cons]
    have hn' : c.base + 4 * (i + (l.length + 1)) ≤ s.nx := hn
    refine Act1.ok (C := ⟨W0, S, c.p, F0, c.N, D⟩) hI h1 hdst (show c.base + 4 * i < s.nx by omega) (ha (hf _ (Nat.le_refl _))) fun E' a' W' hE hI' => ?_
    rw [← LS.with_st] at hI'
    exact h' r W0 S F0 D E' a' W' Qc hI' (show c.base + 4 * (i + 1 + l.length) ≤ s.nx by omega) fun E2 a2 W2 s2 hE2 hI2 hq => hQ E2 a2 W2 s2 (Env.le_trans hE hE2) hI2 hq

theorem chk_nil (ho : c.ops[i]? = some o) {w : Bool} (hw : w = false) : chkL c.ops c.base c.masks c.kl i [] w :=
  chkL_of ho (by unfold lchk; cases c.masks <;> simp [tchk]) (fun h => by rw [hw] at h; cases h)


def quietOp : Op → Bool
  | .load .. | .store .. => false
  | .call { callee := .builtin .append, .. } => false
  | _ => true
theorem quiet_spec {op : Op} (h : quietOp op = true) (ev : Operand → V) : opTouch op ev = [] ∧ wrOp op = false := by
  unfold quietOp at h
  unfold opTouch wrOp
  split at h
  · cases h
  · cases h
  · cases h
  · rename_i h1 h2 h3
    constructor
    · split
      · rename_i t a; exact absurd rfl (h1 t a)
      · rename_i t a x; exact absurd rfl (h2 t a x)
      · rename_i args ts; exact absurd rfl (h3 args ts)
      · rfl
    · split
      · rename_i t a x; exact absurd rfl (h2 t a x)
      · rename_i args ts; exact absurd rfl (h3 args ts)
      · rfl
end
section
variable {c : RX} {i : Nat} {l : List Oper} {tm : List (Nat × V)} {mem : List (Nat × Blk)} {nx : Nat} {Q : LS → Prop} {d : Tmp} {op : Op} {ty : TypeId} {ps : String} {af : Array Edge} {g : Option (Nat × Bool)}
abbrev Wt (c : RX) (s : LS) (o : Oper) : Prop := wantedV c.ops s.st o = some true
theorem fxC (hw : Wt c ⟨tm, mem, nx⟩ ⟨some d, op, ty, ps, af, g⟩) {v : V} (hq : quietOp op = true) (hfx : lget mem (c.base + 4 * i) = none → opFx c.P op (LS.mk tm mem nx).ev (lget mem) (c.base + 4 * i) = some ⟨v, none⟩)
    (h : RunC c (i + 1) l ⟨(d, v) :: tm, mem, nx⟩ Q) : RunC c i (⟨some d, op, ty, ps, af, g⟩ :: l) ⟨tm, mem, nx⟩ Q :=
  RunC.act (e := ⟨v, []⟩) (t := []) (w := false) (fun hid => by
    obtain ⟨q1, q2⟩ := quiet_spec hq (LS.mk tm mem nx).ev
    have := Act1.op (P := c.P) (N := c.N) (p := c.p) (ops := c.ops) (id := c.base + 4 * i) (o := ⟨some d, op, ty, ps, af, g⟩) (s := (LS.mk tm mem nx).st) (fx := ⟨v, none⟩) hw (by rw [LS.st_ev]; exact hfx hid) hid
    rw [LS.st_ev] at this
    simp only [q1, q2] at this
    exact this) (fun ho => chk_nil ho rfl) (fun x hx => by cases hx) h

section lemmas
variable (hw : Wt c ⟨tm, mem, nx⟩ ⟨some d, op, ty, ps, af, g⟩)
theorem pu {v : V} (hw : Wt c ⟨tm, mem, nx⟩ ⟨some d, op, ty, ps, af, g⟩) (hq : quietOp op = true) (hfx : ∀ id, opFx c.P op (LS.mk tm mem nx).ev (lget mem) id = some ⟨v, none⟩)
    (h : RunC c (i + 1) l ⟨(d, v) :: tm, mem, nx⟩ Q) : RunC c i (⟨some d, op, ty, ps, af, g⟩ :: l) ⟨tm, mem, nx⟩ Q := fxC hw hq (fun _ => hfx _) h
theorem puI {k : IntKind} {e x : Int} (h : e = x) : some (Fx.mk (.sc (.int k e)) none) = some ⟨.sc (.int k x), none⟩ := by rw [h]
theorem puB {e x : Bool} (h : e = x) : some (Fx.mk (.sc (.bool e)) none) = some ⟨.sc (.bool x), none⟩ := by rw [h]
theorem fa {t ft : TypeId} {x : Operand} {f : Nat} {ti tj : TI} {fs : List (Nat × TypeId)} {off b ver o : Nat} (hw : Wt c ⟨tm, mem, nx⟩ ⟨some d, .fieldAddr t x f, ty, ps, af, g⟩) (hx : (LS.mk tm mem nx).ev x = .ptr b ver o)
    (hti : tiOf c.P t = some ti) (hk : ti.k = .str fs) (hf : fs[f]? = some (off, ft)) (htj : tiOf c.P ft = some tj) (hj : (tj.size == 0) = false)
    (h : RunC c (i + 1) l ⟨(d, .ptr b ver (o + off)) :: tm, mem, nx⟩ Q) : RunC c i (⟨some d, .fieldAddr t x f, ty, ps, af, g⟩ :: l) ⟨tm, mem, nx⟩ Q :=
  fxC hw rfl (fun _ => by
    simp only [opFx, fxFieldAddr, tkAt, hti, Option.map_some, hk, hf, htj, hx]
    simp at hj; simp [hj]) h
theorem fr {t ft : TypeId} {x : Operand} {f : Nat} {ti tj : TI} {fs : List (Nat × TypeId)} {off : Nat} {cs : List V} (hw : Wt c ⟨tm, mem, nx⟩ ⟨some d, .fieldAddr t x f, ty, ps, af, g⟩) (hx : (LS.mk tm mem nx).ev x = .rp cs)
    (hti : tiOf c.P t = some ti) (hk : ti.k = .str fs) (hf : fs[f]? = some (off, ft)) (htj : tiOf c.P ft = some tj) (hj : (tj.size == 0) = false)
    (h : RunC c (i + 1) l ⟨(d, .rp (cs.drop off)) :: tm, mem, nx⟩ Q) : RunC c i (⟨some d, .fieldAddr t x f, ty, ps, af, g⟩ :: l) ⟨tm, mem, nx⟩ Q :=
  fxC hw rfl (fun _ => by
    simp only [opFx, fxFieldAddr, tkAt, hti, Option.map_some, hk, hf, htj, hx]
    simp at hj; simp [hj]) h
def fieldV (ti : TI) (cs : List V) (off : Nat) : Option V := if ti.k.isAgg then (if off + ti.size ≤ cs.length then some (.agg ((cs.drop off).take ti.size)) else none) else cs[off]?
theorem fi {t ft : TypeId} {x : Operand} {f : Nat} {ti tj : TI} {fs : List (Nat × TypeId)} {off : Nat} {cs : List V} {v : V} (hw : Wt c ⟨tm, mem, nx⟩ ⟨some d, .field t x f, ty, ps, af, g⟩) (hx : (LS.mk tm mem nx).ev x = .agg cs)
    (hti : tiOf c.P t = some ti) (hk : ti.k = .str fs) (hf : fs[f]? = some (off, ft)) (htj : tiOf c.P ft = some tj) (hv : fieldV tj cs off = some v)
    (h : RunC c (i + 1) l ⟨(d, v) :: tm, mem, nx⟩ Q) : RunC c i (⟨some d, .field t x f, ty, ps, af, g⟩ :: l) ⟨tm, mem, nx⟩ Q :=
  fxC hw rfl (fun _ => by
    simp only [opFx, fxField, tkAt, hti, Option.map_some, hk, hf, htj, hx]
    unfold fieldV at hv
    split at hv
    · rename_i ha; rw [if_pos ha]
      split at hv
      · rename_i hb; rw [if_pos hb]; cases hv; rfl
      · cases hv
    · rename_i ha; rw [if_neg ha, hv]; rfl) h

theorem actM {e : Eff} {o : Oper} {t : List Nat} {w : Bool} {d' : Option Tmp} (ho : o.dst = d') (ha : lget mem (c.base + 4 * i) = none → Act1 c.P c.N c.p c.ops (c.base + 4 * i) o (LS.mk tm mem nx).st e t w) (hc : lchk c.base c.masks c.kl i t = true) (hw : w = true → wrOp o.op = true ∨ (c.masks.isNone || c.kl.contains i) = true)
    (hu : ∀ x ∈ e.ups, x.1 < c.base + 4 * i + 4 ∨ (lget mem x.1).isSome = true)
    (h : RunC c (i + 1) l ((LS.mk tm mem nx).with d' e.val (pushes mem e.ups)) Q) : RunC c i (o :: l) ⟨tm, mem, nx⟩ Q := by
  subst ho
  exact RunC.act ha (fun ho => chkL_of ho hc hw) hu h
theorem loadC {t : TypeId} {a : Operand} {v : V} (hw : Wt c ⟨tm, mem, nx⟩ ⟨some d, .load t a, ty, ps, af, g⟩) (hfx : fxLoad c.P t ((LS.mk tm mem nx).ev a) (lget mem) = some ⟨v, none⟩) (hc : lchk c.base c.masks c.kl i (refs1 ((LS.mk tm mem nx).ev a)) = true)
    (h : RunC c (i + 1) l ⟨(d, v) :: tm, mem, nx⟩ Q) : RunC c i (⟨some d, .load t a, ty, ps, af, g⟩ :: l) ⟨tm, mem, nx⟩ Q :=
  actM (e := ⟨v, []⟩) (t := refs1 ((LS.mk tm mem nx).ev a)) (w := false) rfl (fun hid => by
    have := Act1.op (P := c.P) (N := c.N) (p := c.p) (ops := c.ops) (id := c.base + 4 * i) (o := ⟨some d, .load t a, ty, ps, af, g⟩) (s := (LS.mk tm mem nx).st) (fx := ⟨v, none⟩) hw (by rw [LS.st_ev]; exact hfx) hid
    rw [LS.st_ev] at this
    exact this) hc (fun e => by cases e) (fun x hx => by cases hx) h
theorem ldB {t : TypeId} {a : Operand} {v : V} {b ver o : Nat} {cs : List V} {ti : TI} (hw : Wt c ⟨tm, mem, nx⟩ ⟨some d, .load t a, ty, ps, af, g⟩) (hx : (LS.mk tm mem nx).ev a = .ptr b ver o) (hm : lget mem b = some (.box cs)) (hv : (ver == 0) = true) (hti : tiOf c.P t = some ti)
    (hl : loadV ti (cs.drop o) = some v) (hc : lchk c.base c.masks c.kl i [b] = true) (h : RunC c (i + 1) l ⟨(d, v) :: tm, mem, nx⟩ Q) : RunC c i (⟨some d, .load t a, ty, ps, af, g⟩ :: l) ⟨tm, mem, nx⟩ Q :=
  loadC hw (by rw [hx]; simp only [fxLoad, hti, hm, Blk.hasVer, hv, if_true, Blk.cells, hl]; rfl) (by rw [hx]; exact hc) h
theorem ldR {t : TypeId} {a : Operand} {v : V} {cs : List V} {ti : TI} (hw : Wt c ⟨tm, mem, nx⟩ ⟨some d, .load t a, ty, ps, af, g⟩) (hx : (LS.mk tm mem nx).ev a = .rp cs) (hti : tiOf c.P t = some ti)
    (hl : loadV ti cs = some v) (h : RunC c (i + 1) l ⟨(d, v) :: tm, mem, nx⟩ Q) : RunC c i (⟨some d, .load t a, ty, ps, af, g⟩ :: l) ⟨tm, mem, nx⟩ Q :=
  loadC hw (by rw [hx]; simp only [fxLoad, hti, hl]; rfl) (by rw [hx]; unfold lchk refs1; cases c.masks <;> rfl) h
theorem take_drop_app {α : Type} {a b : List α} {off n : Nat} (h : off + n ≤ a.length) : ((a ++ b).drop off).take n = (a.drop off).take n := by
  rw [List.drop_append_of_le_length (by omega), List.take_append_of_le_length (by simp; omega)]
theorem elem_split {α : Type} [Cl α] (nw : Bool) (xs : List α) (m : Nat) (hm : m < xs.length) : (xs.flatMap (Cl.c nw)).drop (m * Cl.e α) = Cl.c nw (xs.getD m Cl.d) ++ (xs.drop (m + 1)).flatMap (Cl.c nw) := by
  rw [flat_drop, List.drop_eq_getElem_cons hm, List.flatMap_cons, List.getD_eq_getElem?_getD, List.getElem?_eq_getElem hm]; rfl
theorem loadV_app {ti : TI} {a b : List V} {v : V} {off : Nat} (hs : off + ti.size ≤ a.length) (h1 : 0 < ti.size) (hl : loadV ti (a.drop off) = some v) : loadV ti ((a ++ b).drop off) = some v := by
  unfold loadV at hl ⊢
  split at hl
  · rename_i ha
    rw [if_pos ha]
    rw [if_pos (by simp; omega), take_drop_app hs]
    rw [if_pos (by simp; omega)] at hl
    exact hl
  · rename_i ha
    rw [if_neg ha, List.drop_append_of_le_length (by omega)]
    cases hd : a.drop off with
    | nil => have : (a.drop off).length = 0 := by rw [hd]; rfl
             simp at this; omega
    | cons x xs => rw [hd] at hl; simpa using hl
theorem ldE {α : Type} [Cl α] {t : TypeId} {a : Operand} {v : V} {b ver m off te : Nat} {nw : Bool} {xs : List α} {ti : TI} (hw : Wt c ⟨tm, mem, nx⟩ ⟨some d, .load t a, ty, ps, af, g⟩) (hx : (LS.mk tm mem nx).ev a = .ptr b ver (m * Cl.e α + off)) (hm : lget mem b = some (arrB te ver nw xs)) (hlt : m < xs.length) (hti : tiOf c.P t = some ti)
    (hl : loadV ti ((Cl.c nw (xs.getD m Cl.d)).drop off) = some v) (h1 : Nat.blt 0 ti.size = true) (hs : Nat.ble (off + ti.size) (Cl.e α) = true) (hc : lchk c.base c.masks c.kl i [b] = true) (h : RunC c (i + 1) l ⟨(d, v) :: tm, mem, nx⟩ Q) : RunC c i (⟨some d, .load t a, ty, ps, af, g⟩ :: l) ⟨tm, mem, nx⟩ Q :=
  loadC hw (by
    rw [hx]
    have hs' := Nat.le_of_ble_eq_true hs
    have h1' : 0 < ti.size := by simp [Nat.blt] at h1; omega
    have : loadV ti ((xs.flatMap (Cl.c nw)).drop (m * Cl.e α + off)) = some v := by
      rw [← List.drop_drop, elem_split nw xs m hlt]
      exact loadV_app (by rw [Cl.len]; exact hs') h1' hl
    simp only [fxLoad, hti, hm, arrB, Blk.hasVer, beq_self_eq_true, if_true, Blk.cells, this]; rfl) (by rw [hx]; exact hc) h

theorem storeC {t : TypeId} {a x : Operand} {b : Nat} {k : Blk} (hw : Wt c ⟨tm, mem, nx⟩ ⟨none, .store t a x, ty, ps, af, g⟩) (hfx : fxStore c.P t ((LS.mk tm mem nx).ev a) ((LS.mk tm mem nx).ev x) (lget mem) = some ⟨.any, some (b, k)⟩) (hb : (lget mem b).isSome = true)
    (hc : lchk c.base c.masks c.kl i (refs1 ((LS.mk tm mem nx).ev a)) = true)
    (h : RunC c (i + 1) l ⟨tm, (b, k) :: mem, nx⟩ Q) : RunC c i (⟨none, .store t a x, ty, ps, af, g⟩ :: l) ⟨tm, mem, nx⟩ Q :=
  actM (e := ⟨.any, [(b, k)]⟩) (t := refs1 ((LS.mk tm mem nx).ev a)) (w := true) rfl (fun hid => by
    have := Act1.op (P := c.P) (N := c.N) (p := c.p) (ops := c.ops) (id := c.base + 4 * i) (o := ⟨none, .store t a x, ty, ps, af, g⟩) (s := (LS.mk tm mem nx).st) (fx := ⟨.any, some (b, k)⟩) hw (by rw [LS.st_ev]; exact hfx) hid
    rw [LS.st_ev] at this
    exact this) hc (fun e => .inl rfl) (fun x hx => by simp at hx; subst hx; exact .inr hb) h
theorem stB {t : TypeId} {a x : Operand} {b ver o : Nat} {cs ds cs' : List V} {ti : TI} (hw : Wt c ⟨tm, mem, nx⟩ ⟨none, .store t a x, ty, ps, af, g⟩) (hx : (LS.mk tm mem nx).ev a = .ptr b ver o) (hm : lget mem b = some (.box cs)) (hv : (ver == 0) = true) (hti : tiOf c.P t = some ti)
    (hy : ((LS.mk tm mem nx).ev x).cellsOf = some ds) (hd : (ds.length == ti.size) = true) (hf : Nat.ble (o + ds.length) cs.length = true) (hs : splice cs o ds = cs') (hc : lchk c.base c.masks c.kl i [b] = true)
    (h : RunC c (i + 1) l ⟨tm, (b, .box cs') :: mem, nx⟩ Q) : RunC c i (⟨none, .store t a x, ty, ps, af, g⟩ :: l) ⟨tm, mem, nx⟩ Q :=
  storeC hw (by
    rw [hx]
    have hf' := Nat.le_of_ble_eq_true hf
    have hd' : ds.length = ti.size := by simpa using hd
    simp only [fxStore, hti, hy, hm, Blk.hasVer, hv, Blk.cells]
    rw [if_pos ⟨trivial, hd', hf'⟩, hs]; rfl) (by rw [hm]; rfl) (by rw [hx]; exact hc) h
theorem splice_elem {α : Type} [Cl α] {nw : Bool} {xs : List α} {m off : Nat} {ds : List V} {y : α} (hm : m < xs.length) (hf : off + ds.length ≤ Cl.e α) (hs : splice (Cl.c nw (xs.getD m Cl.d)) off ds = Cl.c nw y) :
    splice (xs.flatMap (Cl.c nw)) (m * Cl.e α + off) ds = (xs.set m y).flatMap (Cl.c nw) := by
  have e1 : xs.set m y = xs.take m ++ y :: xs.drop (m + 1) := List.set_eq_take_append_cons_drop.trans (by rw [if_pos hm])
  rw [e1, List.flatMap_append, List.flatMap_cons, ← hs, ← flat_take]
  have hx : (xs.flatMap (Cl.c nw)) = (xs.flatMap (Cl.c nw)).take (m * Cl.e α) ++ (Cl.c nw (xs.getD m Cl.d) ++ (xs.drop (m + 1)).flatMap (Cl.c nw)) := by
    rw [← elem_split nw xs m hm, List.take_append_drop]
  have hl : ((xs.flatMap (Cl.c nw)).take (m * Cl.e α)).length = m * Cl.e α := by
    rw [List.length_take, flat_len']; exact Nat.min_eq_left (Nat.mul_le_mul_right _ (Nat.le_of_lt hm))
  have hc := Cl.len nw (xs.getD m Cl.d)
  generalize hA : (xs.flatMap (Cl.c nw)).take (m * Cl.e α) = A at *
  generalize hB : Cl.c nw (xs.getD m Cl.d) = B at *
  rw [hx]
  unfold splice
  rw [List.take_append, List.drop_append, hl]
  rw [List.take_of_length_le (by omega), Nat.add_sub_cancel_left]
  rw [List.drop_of_length_le (l := A) (by omega), List.nil_append, show m * Cl.e α + off + ds.length - m * Cl.e α = off + ds.length by omega]
  rw [List.take_append_of_le_length (by omega), List.drop_append_of_le_length (by omega)]
  simp [List.append_assoc]
theorem stE {α : Type} [Cl α] {t : TypeId} {a x : Operand} {b ver m off te : Nat} {nw : Bool} {xs : List α} {y : α} {ds : List V} {ti : TI} (hw : Wt c ⟨tm, mem, nx⟩ ⟨none, .store t a x, ty, ps, af, g⟩) (hx : (LS.mk tm mem nx).ev a = .ptr b ver (m * Cl.e α + off)) (hm : lget mem b = some (arrB te ver nw xs)) (hlt : m < xs.length) (hti : tiOf c.P t = some ti)
    (hy : ((LS.mk tm mem nx).ev x).cellsOf = some ds) (hd : (ds.length == ti.size) = true) (hf : Nat.ble (off + ds.length) (Cl.e α) = true) (hs : splice (Cl.c nw (xs.getD m Cl.d)) off ds = Cl.c nw y) (hc : lchk c.base c.masks c.kl i [b] = true)
    (h : RunC c (i + 1) l ⟨tm, (b, arrB te ver nw (xs.set m y)) :: mem, nx⟩ Q) : RunC c i (⟨none, .store t a x, ty, ps, af, g⟩ :: l) ⟨tm, mem, nx⟩ Q :=
  storeC hw (by
    rw [hx]
    have hf' := Nat.le_of_ble_eq_true hf
    have hd' : ds.length = ti.size := by simpa using hd
    have hfit : m * Cl.e α + off + ds.length ≤ (xs.flatMap (Cl.c nw)).length := by
      rw [flat_len']
      have := Nat.mul_le_mul_right (Cl.e α) (Nat.succ_le_of_lt hlt)
      rw [Nat.succ_mul] at this; omega
    simp only [fxStore, hti, hy, hm, arrB, Blk.hasVer, beq_self_eq_true, Blk.cells]
    rw [if_pos ⟨trivial, hd', hfit⟩, splice_elem hlt hf' hs]; rfl) (by rw [hm]; rfl) (by rw [hx]; exact hc) h

theorem newC {id : Nat} {v : V} {k : Blk} (hw : Wt c ⟨tm, mem, nx⟩ ⟨some d, op, ty, ps, af, g⟩) (hq : quietOp op = true) (hid : c.base + 4 * i = id) (hfx : opFx c.P op (LS.mk tm mem nx).ev (lget mem) id = some ⟨v, some (id, k)⟩)
    (h : RunC c (i + 1) l ⟨(d, v) :: tm, (id, k) :: mem, nx⟩ Q) : RunC c i (⟨some d, op, ty, ps, af, g⟩ :: l) ⟨tm, mem, nx⟩ Q :=
  RunC.act (e := ⟨v, [(id, k)]⟩) (t := []) (w := false) (fun hid' => by
    obtain ⟨q1, q2⟩ := quiet_spec hq (LS.mk tm mem nx).ev
    have := Act1.op (P := c.P) (N := c.N) (p := c.p) (ops := c.ops) (id := c.base + 4 * i) (o := ⟨some d, op, ty, ps, af, g⟩) (s := (LS.mk tm mem nx).st) (fx := ⟨v, some (id, k)⟩) hw (by rw [LS.st_ev, hid]; exact hfx) hid'
    rw [LS.st_ev] at this
    simp only [q1, q2] at this
    exact this) (fun ho => chk_nil ho rfl) (fun x hx => by simp at hx; subst hx; left; show id < _; omega) h
theorem al {t : TypeId} {ti : TI} {cs : List V} (id : Nat) (hw : Wt c ⟨tm, mem, nx⟩ ⟨some d, .alloc t, ty, ps, af, g⟩) (hid : c.base + 4 * i = id) (hti : tiOf c.P t = some ti) (hz : ti.zero.all Value.flat1 = true) (hcs : ti.zero.map .sc = cs)
    (h : RunC c (i + 1) l ⟨(d, .ptr id 0 0) :: tm, (id, .box cs) :: mem, nx⟩ Q) : RunC c i (⟨some d, .alloc t, ty, ps, af, g⟩ :: l) ⟨tm, mem, nx⟩ Q :=
  newC hw rfl hid (by simp only [opFx, fxAlloc, hti, hz, if_true, hcs]) h
theorem bx {t : TypeId} {x : Operand} {cs : List V} (id : Nat) (hw : Wt c ⟨tm, mem, nx⟩ ⟨some d, .box t x, ty, ps, af, g⟩) (hid : c.base + 4 * i = id) (hx : ((LS.mk tm mem nx).ev x).cellsOf = some cs)
    (h : RunC c (i + 1) l ⟨(d, .ptr id 0 0) :: tm, (id, .box cs) :: mem, nx⟩ Q) : RunC c i (⟨some d, .box t x, ty, ps, af, g⟩ :: l) ⟨tm, mem, nx⟩ Q :=
  newC hw rfl hid (by simp only [opFx, fxBox, hx]) h
def bTab (P : Program) (t : TypeId) : Option (List V × List (Nat × Nat)) :=
  match tiOf P t with
  | some ti => if ti.zero.all Value.flat1 then match ti.k with
    | .str fs => if fs.all (fun f => (tiOf P f.2).isSome) then some (ti.zero.map .sc, fs.map fun f => (f.1, ((tiOf P f.2).map TI.size).getD 0)) else none
    | _ => none
    else none
  | none => none
theorem fillV_congr {p q : Nat → Option (Nat × Nat)} (h : ∀ i, p i = q i) : ∀ (parts : List (Nat × V)) (cells : List V), fillV p cells parts = fillV q cells parts
  | [], cells => rfl
  | (i, v) :: r, cells => by
    unfold fillV; rw [h i]
    split
    · split
      · exact fillV_congr h r _
      · rfl
    · rfl
theorem bu {t : TypeId} {parts : Array (Nat × Operand)} {z cs : List V} {tab : List (Nat × Nat)} (hw : Wt c ⟨tm, mem, nx⟩ ⟨some d, .build t parts, ty, ps, af, g⟩) (ht : bTab c.P t = some (z, tab)) (hf : fillV (fun i => tab[i]?) z (parts.toList.map fun p => (p.1, (LS.mk tm mem nx).ev p.2)) = some cs)
    (h : RunC c (i + 1) l ⟨(d, .agg cs) :: tm, mem, nx⟩ Q) : RunC c i (⟨some d, .build t parts, ty, ps, af, g⟩ :: l) ⟨tm, mem, nx⟩ Q :=
  fxC hw rfl (fun _ => by
    unfold bTab at ht
    split at ht
    · rename_i ti hti
      split at ht
      · rename_i hz
        split at ht
        · rename_i fs hk
          split at ht
          · rename_i ha
            cases ht
            simp only [opFx, fxBuild, hti, hz, if_true, hk, ha]
            rw [fillV_congr (q := fun i => (fs.map fun f => (f.1, ((tiOf c.P f.2).map TI.size).getD 0))[i]?) (fun i => ?_), hf]
            · rfl
            · rw [List.getElem?_map]
              cases hfi : fs[i]? with
              | none => rfl
              | some f =>
                have := List.all_eq_true.1 ha f (List.mem_of_getElem? hfi)
                cases hj : tiOf c.P f.2 with
                | none => rw [hj] at this; cases this
                | some j => simp [hj]
          · cases ht
        · cases ht
      · cases ht
    · cases ht) h
theorem bs {α : Type} [Cl α] {t te : TypeId} {len : Nat} {parts : Array (Nat × Operand)} {ti tj : TI} (id : Nat) (nw : Bool) (ys : List α) (hw : Wt c ⟨tm, mem, nx⟩ ⟨some d, .buildSlice t len parts, ty, ps, af, g⟩) (hid : c.base + 4 * i = id) (hti : tiOf c.P t = some ti) (hk : ti.k = .sli te) (htj : tiOf c.P te = some tj)
    (he : (tj.size == Cl.e α) = true) (hlen : (len == ys.length) = true) (hsz : Nat.ble (len * tj.size) 16777216 = true) (hz : (tj.zero.all Value.flat1 && tj.zero.length == tj.size) = true)
    (hf : fillV (fun i => some (i * tj.size, tj.size)) ((List.replicate len (tj.zero.map V.sc)).flatten) (parts.toList.map fun p => (p.1, (LS.mk tm mem nx).ev p.2)) = some (ys.flatMap (Cl.c nw)))
    (h : RunC c (i + 1) l ⟨(d, slV α id 0 0 ys.length) :: tm, (id, arrB te 0 nw ys) :: mem, nx⟩ Q) : RunC c i (⟨some d, .buildSlice t len parts, ty, ps, af, g⟩ :: l) ⟨tm, mem, nx⟩ Q :=
  newC hw rfl hid (by
    have he' : tj.size = Cl.e α := by simpa using he
    have hlen' : len = ys.length := by simpa using hlen
    have hsz' := Nat.le_of_ble_eq_true hsz
    simp only [Bool.and_eq_true, beq_iff_eq] at hz
    have hp := Cl.pos (α := α)
    simp only [opFx, fxBuildSlice, tkAt, hti, Option.map_some, hk, htj, hf]
    rw [if_pos ⟨by omega, hsz', hz.1, hz.2⟩]
    simp only [Option.map_some, slV, arrB, he', hlen']) h
theorem ixS {α : Type} [Cl α] {t te : TypeId} {x j : Operand} {b ver off len : Nat} {k : IntKind} {n : Int} {ti tj : TI} (hw : Wt c ⟨tm, mem, nx⟩ ⟨some d, .indexAddr t x j, ty, ps, af, g⟩) (hx : (LS.mk tm mem nx).ev x = slV α b ver off len) (hi : (LS.mk tm mem nx).ev j = .sc (.int k n))
    (hti : tiOf c.P t = some ti) (hk : ti.k = .sli te) (htj : tiOf c.P te = some tj) (he : (tj.size == Cl.e α) = true) (hn : 0 ≤ n ∧ n < len)
    (h : RunC c (i + 1) l ⟨(d, .ptr b ver ((off + n.toNat) * Cl.e α + 0)) :: tm, mem, nx⟩ Q) : RunC c i (⟨some d, .indexAddr t x j, ty, ps, af, g⟩ :: l) ⟨tm, mem, nx⟩ Q :=
  fxC hw rfl (fun _ => by
    have he' : tj.size = Cl.e α := by simpa using he
    simp only [opFx, fxIndexAddr, tkAt, hti, Option.map_some, hk, htj, hx, hi, slV]
    rw [if_pos ⟨he'.symm, hn.1, hn.2⟩]; rfl) h
theorem ixL {α : Type} [Cl α] {t te : TypeId} {x j : Operand} {nw : Bool} {xs : List α} {k : IntKind} {n : Int} {ti tj : TI} (hw : Wt c ⟨tm, mem, nx⟩ ⟨some d, .indexAddr t x j, ty, ps, af, g⟩) (hx : (LS.mk tm mem nx).ev x = rowV nw xs) (hi : (LS.mk tm mem nx).ev j = .sc (.int k n))
    (hti : tiOf c.P t = some ti) (hk : ti.k = .sli te) (htj : tiOf c.P te = some tj) (he : (tj.size == Cl.e α) = true) (hn : 0 ≤ n ∧ n < xs.length)
    (h : RunC c (i + 1) l ⟨(d, .rp (Cl.c nw (xs.getD n.toNat Cl.d))) :: tm, mem, nx⟩ Q) : RunC c i (⟨some d, .indexAddr t x j, ty, ps, af, g⟩ :: l) ⟨tm, mem, nx⟩ Q :=
  fxC hw rfl (fun _ => by
    have he' : tj.size = Cl.e α := by simpa using he
    simp only [opFx, fxIndexAddr, tkAt, hti, Option.map_some, hk, htj, hx, hi, rowV]
    rw [if_pos ⟨hn.1, hn.2, he'.symm⟩, flat_at nw xs n.toNat (by omega)]) h
theorem lenL {α : Type} [Cl α] {t te : TypeId} {x : Operand} {nw : Bool} {xs : List α} {ti : TI} (hw : Wt c ⟨tm, mem, nx⟩ ⟨some d, .call { callee := .builtin .len, args := #[x], argTypes := #[t] }, ty, ps, af, g⟩) (hx : (LS.mk tm mem nx).ev x = rowV nw xs) (hti : tiOf c.P t = some ti) (hk : ti.k = .sli te)
    (h : RunC c (i + 1) l ⟨(d, .sc (.int .i64 xs.length)) :: tm, mem, nx⟩ Q) : RunC c i (⟨some d, .call { callee := .builtin .len, args := #[x], argTypes := #[t] }, ty, ps, af, g⟩ :: l) ⟨tm, mem, nx⟩ Q :=
  fxC hw rfl (fun _ => by simp [opFx, evBuiltin, hx, rowV, lenV, tkAt, hti, hk]) h
theorem lenS {α : Type} [Cl α] {t te : TypeId} {x : Operand} {b ver off len : Nat} {ti : TI} (hw : Wt c ⟨tm, mem, nx⟩ ⟨some d, .call { callee := .builtin .len, args := #[x], argTypes := #[t] }, ty, ps, af, g⟩) (hx : (LS.mk tm mem nx).ev x = slV α b ver off len) (hti : tiOf c.P t = some ti) (hk : ti.k = .sli te)
    (h : RunC c (i + 1) l ⟨(d, .sc (.int .i64 len)) :: tm, mem, nx⟩ Q) : RunC c i (⟨some d, .call { callee := .builtin .len, args := #[x], argTypes := #[t] }, ty, ps, af, g⟩ :: l) ⟨tm, mem, nx⟩ Q :=
  fxC hw rfl (fun _ => by simp [opFx, evBuiltin, hx, slV, lenV, tkAt, hti, hk]) h
theorem lenN {t te : TypeId} {x : Operand} {ti : TI} (hw : Wt c ⟨tm, mem, nx⟩ ⟨some d, .call { callee := .builtin .len, args := #[x], argTypes := #[t] }, ty, ps, af, g⟩) (hx : (LS.mk tm mem nx).ev x = .sc (.slice none 0 0)) (hti : tiOf c.P t = some ti) (hk : ti.k = .sli te)
    (h : RunC c (i + 1) l ⟨(d, .sc (.int .i64 0)) :: tm, mem, nx⟩ Q) : RunC c i (⟨some d, .call { callee := .builtin .len, args := #[x], argTypes := #[t] }, ty, ps, af, g⟩ :: l) ⟨tm, mem, nx⟩ Q :=
  fxC hw rfl (fun _ => by simp [opFx, evBuiltin, hx, lenV, tkAt, hti, hk]) h
theorem bd_int {d : Nat} {k : IntKind} {n : Int} (h : 0 ≤ n) : bdV d (some (.sc (.int k n))) = some n.toNat := by unfold bdV; simp [h]
theorem slL {α : Type} [Cl α] {t te : TypeId} {x : Operand} {lo hi : Option Operand} {nw : Bool} {xs : List α} {ti tj : TI} (l' h' : Nat) (hw : Wt c ⟨tm, mem, nx⟩ ⟨some d, .slice t x lo hi none, ty, ps, af, g⟩) (hx : (LS.mk tm mem nx).ev x = rowV nw xs)
    (hti : tiOf c.P t = some ti) (hk : ti.k = .sli te) (htj : tiOf c.P te = some tj) (he : (tj.size == Cl.e α) = true) (hl : bdV 0 (lo.map (LS.mk tm mem nx).ev) = some l') (hh : bdV xs.length (hi.map (LS.mk tm mem nx).ev) = some h') (hb : l' ≤ h' ∧ h' ≤ xs.length)
    (h : RunC c (i + 1) l ⟨(d, rowV nw ((xs.drop l').take (h' - l'))) :: tm, mem, nx⟩ Q) : RunC c i (⟨some d, .slice t x lo hi none, ty, ps, af, g⟩ :: l) ⟨tm, mem, nx⟩ Q :=
  fxC hw rfl (fun _ => by
    have he' : tj.size = Cl.e α := by simpa using he
    simp only [opFx, fxSlice, tkAt, hti, Option.map_some, hk, htj, hx, rowV, hl, hh]
    rw [if_pos ⟨he'.symm, hb.1, hb.2⟩, flat_drop, flat_take, show ((xs.drop l').take (h' - l')).length = h' - l' by simp; omega]) h
theorem ap {α : Type} [Cl α] {t te : TypeId} {x y : Operand} {b ver : Nat} {nw : Bool} {xs ys : List α} {ti tj : TI} (hw : Wt c ⟨tm, mem, nx⟩ ⟨some d, .call { callee := .builtin .append, args := #[x, y], argTypes := #[t, t] }, ty, ps, af, g⟩) (hx : (LS.mk tm mem nx).ev x = slV α b ver 0 xs.length) (hm : lget mem b = some (arrB te ver nw xs))
    (hy : srcV (lget mem) (Cl.e α) ((LS.mk tm mem nx).ev y) = some (ys.length, ys.flatMap (Cl.c nw))) (hti : tiOf c.P t = some ti) (hk : ti.k = .sli te) (htj : tiOf c.P te = some tj) (he : (tj.size == Cl.e α && tj.zero.length == tj.size) = true)
    (hr : roomy (xs.length + ys.length) tj.bytes = true) (hc : lchk c.base c.masks c.kl i (b :: (refs1 ((LS.mk tm mem nx).ev y) ++ [])) = true)
    (h : RunC c (i + 1) l ⟨(d, slV α b (ver + 1) 0 (xs ++ ys).length) :: tm, (b, arrB te (ver + 1) nw (xs ++ ys)) :: mem, nx⟩ Q) : RunC c i (⟨some d, .call { callee := .builtin .append, args := #[x, y], argTypes := #[t, t] }, ty, ps, af, g⟩ :: l) ⟨tm, mem, nx⟩ Q :=
  actM (e := ⟨slV α b (ver + 1) 0 (xs ++ ys).length, [(b, arrB te (ver + 1) nw (xs ++ ys))]⟩) (t := b :: (refs1 ((LS.mk tm mem nx).ev y) ++ [])) (w := true) rfl (fun hid => by
    simp only [Bool.and_eq_true, beq_iff_eq] at he
    have hfx : opFx c.P (.call { callee := .builtin .append, args := #[x, y], argTypes := #[t, t] }) (LS.mk tm mem nx).ev (lget mem) (c.base + 4 * i) = some ⟨slV α b (ver + 1) 0 (xs ++ ys).length, some (b, arrB te (ver + 1) nw (xs ++ ys))⟩ := by
      have hp := Cl.pos (α := α)
      have hA : evAppend c.P t (slV α b ver 0 xs.length) ((LS.mk tm mem nx).ev y) (lget mem) (c.base + 4 * i) = some ⟨slV α b (ver + 1) 0 (xs ++ ys).length, some (b, arrB te (ver + 1) nw (xs ++ ys))⟩ := by
        simp only [evAppend, tkAt, hti, Option.map_some, hk, htj, he.1]
        rw [if_pos ⟨hp, by rw [he.2, he.1]⟩, hy]
        simp only [slV, hm, arrB]
        rw [if_pos ⟨trivial, trivial, trivial, trivial, flat_len' nw xs, hr⟩]
        simp
      rw [← hA, ← hx]
      simp [opFx, evBuiltin]
    have := Act1.op (P := c.P) (N := c.N) (p := c.p) (ops := c.ops) (id := c.base + 4 * i) (o := ⟨some d, .call { callee := .builtin .append, args := #[x, y], argTypes := #[t, t] }, ty, ps, af, g⟩) (s := (LS.mk tm mem nx).st) hw (by rw [LS.st_ev]; exact hfx) hid
    rw [LS.st_ev] at this
    have ht : opTouch (.call { callee := .builtin .append, args := #[x, y], argTypes := #[t, t] }) (LS.mk tm mem nx).ev = b :: (refs1 ((LS.mk tm mem nx).ev y) ++ []) := by
      show refs1 ((LS.mk tm mem nx).ev x) ++ (refs1 ((LS.mk tm mem nx).ev y) ++ []) = _
      rw [hx]; rfl
    simp only [ht] at this
    exact this) hc (fun e => .inl rfl) (fun x hx => by simp at hx; subst hx; right; show (lget mem b).isSome = true; rw [hm]; rfl) h
theorem srcR {α : Type} [Cl α] {m : Nat → Option Blk} {nw : Bool} {ys : List α} : srcV m (Cl.e α) (rowV nw ys) = some (ys.length, ys.flatMap (Cl.c nw)) := by simp [srcV, rowV]
theorem srcN {α : Type} [Cl α] {m : Nat → Option Blk} {nw : Bool} : srcV m (Cl.e α) (.sc (.slice none 0 0)) = some (([] : List α).length, ([] : List α).flatMap (Cl.c nw)) := rfl
theorem srcS {α : Type} [Cl α] {mem : List (Nat × Blk)} {b ver te : Nat} {nw : Bool} {ys : List α} (hm : lget mem b = some (arrB te ver nw ys)) : srcV (lget mem) (Cl.e α) (slV α b ver 0 ys.length) = some (ys.length, ys.flatMap (Cl.c nw)) := by
  simp only [srcV, slV, hm, arrB]
  rw [if_pos ⟨trivial, trivial, trivial, by rw [flat_len']; omega⟩]
  rw [Nat.zero_mul, List.drop_zero, List.take_of_length_le (by rw [flat_len']; exact Nat.le_refl _)]
theorem mk {α : Type} [Cl α] {t te : TypeId} {x y : Operand} {n m : Int} {k k' : IntKind} {ti tj : TI} (id : Nat) (nw : Bool) (z : α) (hw : Wt c ⟨tm, mem, nx⟩ ⟨some d, .makeSlice t x y, ty, ps, af, g⟩) (hid : c.base + 4 * i = id) (hx : (LS.mk tm mem nx).ev x = .sc (.int k n)) (hy : (LS.mk tm mem nx).ev y = .sc (.int k' m))
    (hti : tiOf c.P t = some ti) (hk : ti.k = .sli te) (htj : tiOf c.P te = some tj) (he : (tj.size == Cl.e α && tj.zero.all Value.flat1 && tj.zero.length == tj.size) = true) (hz : tj.zero.map V.sc = Cl.c nw z) (hn : 0 ≤ n ∧ n ≤ m ∧ roomy m.toNat tj.bytes = true)
    (h : RunC c (i + 1) l ⟨(d, slV α id 0 0 (List.replicate n.toNat z).length) :: tm, (id, arrB te 0 nw (List.replicate n.toNat z)) :: mem, nx⟩ Q) : RunC c i (⟨some d, .makeSlice t x y, ty, ps, af, g⟩ :: l) ⟨tm, mem, nx⟩ Q :=
  newC hw rfl hid (by
    simp only [Bool.and_eq_true, beq_iff_eq] at he
    have hp := Cl.pos (α := α)
    simp only [opFx, fxMakeSlice, tkAt, hti, Option.map_some, hk, htj, hx, hy, hz]
    rw [if_pos ⟨by omega, hn.1, hn.2.1, hn.2.2, he.1.2, he.2⟩]
    simp only [slV, arrB, he.1.1, List.length_replicate]
    congr 3
    rw [List.flatMap_replicate]) h
theorem cn {t t' : TypeId} {x : Operand} {k k0 k' : IntKind} {n m : Int} {ti tj : TI} (hw : Wt c ⟨tm, mem, nx⟩ ⟨some d, .convert t t' x, ty, ps, af, g⟩) (hx : (LS.mk tm mem nx).ev x = .sc (.int k0 n)) (hti : tiOf c.P t = some ti) (hk : ti.k = .int k') (htj : tiOf c.P t' = some tj) (hk' : tj.k = .int k) (hm : k.wrap n = m)
    (h : RunC c (i + 1) l ⟨(d, .sc (.int k m)) :: tm, mem, nx⟩ Q) : RunC c i (⟨some d, .convert t t' x, ty, ps, af, g⟩ :: l) ⟨tm, mem, nx⟩ Q :=
  fxC hw rfl (fun _ => by simp only [opFx, fxConvert, tkAt, hti, htj, Option.map_some, hk, hk', hx, hm]) h
theorem qu {t t' : TypeId} {x y : Operand} {k : IntKind} {n m r : Int} (hw : Wt c ⟨tm, mem, nx⟩ ⟨some d, .binOp .quo t x y t', ty, ps, af, g⟩) (hx : (LS.mk tm mem nx).ev x = .sc (.int k n)) (hy : (LS.mk tm mem nx).ev y = .sc (.int k m)) (hm : m ≠ 0) (hr : k.wrap (n.tdiv m) = r)
    (h : RunC c (i + 1) l ⟨(d, .sc (.int k r)) :: tm, mem, nx⟩ Q) : RunC c i (⟨some d, .binOp .quo t x y t', ty, ps, af, g⟩ :: l) ⟨tm, mem, nx⟩ Q :=
  fxC hw rfl (fun _ => by simp [opFx, evBin, BinOp.isShift, evInt, hx, hy, hm, hr]) h
theorem rm {t t' : TypeId} {x y : Operand} {k : IntKind} {n m r : Int} (hw : Wt c ⟨tm, mem, nx⟩ ⟨some d, .binOp .rem t x y t', ty, ps, af, g⟩) (hx : (LS.mk tm mem nx).ev x = .sc (.int k n)) (hy : (LS.mk tm mem nx).ev y = .sc (.int k m)) (hm : m ≠ 0) (hr : n.tmod m = r)
    (h : RunC c (i + 1) l ⟨(d, .sc (.int k r)) :: tm, mem, nx⟩ Q) : RunC c i (⟨some d, .binOp .rem t x y t', ty, ps, af, g⟩ :: l) ⟨tm, mem, nx⟩ Q :=
  fxC hw rfl (fun _ => by simp [opFx, evBin, BinOp.isShift, evInt, hx, hy, hm, hr]) h
theorem eb {t t' : TypeId} {x y : Operand} {n m r : Bool} {ti : TI} (hw : Wt c ⟨tm, mem, nx⟩ ⟨some d, .binOp .eql t x y t', ty, ps, af, g⟩) (hx : (LS.mk tm mem nx).ev x = .sc (.bool n)) (hy : (LS.mk tm mem nx).ev y = .sc (.bool m)) (hti : tiOf c.P t = some ti) (hk : ti.k = .bool) (hr : (n == m) = r)
    (h : RunC c (i + 1) l ⟨(d, .sc (.bool r)) :: tm, mem, nx⟩ Q) : RunC c i (⟨some d, .binOp .eql t x y t', ty, ps, af, g⟩ :: l) ⟨tm, mem, nx⟩ Q :=
  fxC hw rfl (fun _ => by simp [opFx, evBin, tkAt, hti, hk, hx, hy, hr]) h
theorem nb {t t' : TypeId} {x y : Operand} {n m r : Bool} {ti : TI} (hw : Wt c ⟨tm, mem, nx⟩ ⟨some d, .binOp .neq t x y t', ty, ps, af, g⟩) (hx : (LS.mk tm mem nx).ev x = .sc (.bool n)) (hy : (LS.mk tm mem nx).ev y = .sc (.bool m)) (hti : tiOf c.P t = some ti) (hk : ti.k = .bool) (hr : (n != m) = r)
    (h : RunC c (i + 1) l ⟨(d, .sc (.bool r)) :: tm, mem, nx⟩ Q) : RunC c i (⟨some d, .binOp .neq t x y t', ty, ps, af, g⟩ :: l) ⟨tm, mem, nx⟩ Q :=
  fxC hw rfl (fun _ => by simp [opFx, evBin, tkAt, hti, hk, hx, hy, hr]) h
end lemmas
end
end Go.Abs
namespace Go.Abs
set_option linter.unusedVariables false
set_option linter.unusedSimpArgs false
section
variable {c : RX} {i : Nat} {l : List Oper} {tm : List (Nat × V)} {mem : List (Nat × Blk)} {nx : Nat} {Q : LS → Prop} {d : Tmp} {op : Op} {ty : TypeId} {ps : String} {af : Array Edge} {g : Option (Nat × Bool)}
theorem wtG {o : Oper} {j : Nat} {w b : Bool} {d' : Tmp} (hg : o.guard = some (j, w)) (hj : (c.ops[j]?).bind (·.dst) = some d') (hs : (LS.mk tm mem nx).slot d' = .sc (.bool b)) (hb : b = w) : Wt c ⟨tm, mem, nx⟩ o := by
 subst hb
 show wantedV _ _ _ = _
 unfold wantedV
 rw [hg]
 simp only [hj]
 show (match (LS.mk tm mem nx).slot d' with | .sc (.bool b') => some (b' == b) | .tup [] => some false | _ => none) = _
 rw [hs]
 simp
theorem skC {o : Oper} {d' : Option Tmp} (ho : o.dst = d') (hw : wantedV c.ops (LS.mk tm mem nx).st o = some false) (h : RunC c (i + 1) l ((LS.mk tm mem nx).with d' (.tup []) mem) Q) : RunC c i (o :: l) ⟨tm, mem, nx⟩ Q := by
 subst ho
 exact RunC.act (e := ⟨.tup [], []⟩) (t := []) (w := false) (fun _ => .skip hw) (fun ho => chk_nil ho rfl) (fun x hx => by cases hx) h
theorem skW {o : Oper} {j : Nat} {w b : Bool} {d' : Tmp} (hg : o.guard = some (j, w)) (hj : (c.ops[j]?).bind (·.dst) = some d') (hs : (LS.mk tm mem nx).slot d' = .sc (.bool b)) (hb : b = !w) : wantedV c.ops (LS.mk tm mem nx).st o = some false := by
 subst hb
 unfold wantedV
 rw [hg]
 simp only [hj]
 show (match (LS.mk tm mem nx).slot d' with | .sc (.bool b') => some (b' == w) | .tup [] => some false | _ => none) = _
 rw [hs]
 simp
theorem skW2 {o : Oper} {j : Nat} {w : Bool} {d' : Tmp} (hg : o.guard = some (j, w)) (hj : (c.ops[j]?).bind (·.dst) = some d') (hs : (LS.mk tm mem nx).slot d' = .tup []) : wantedV c.ops (LS.mk tm mem nx).st o = some false := by
 unfold wantedV
 rw [hg]
 simp only [hj]
 show (match (LS.mk tm mem nx).slot d' with | .sc (.bool b') => some (b' == w) | .tup [] => some false | _ => none) = _
 rw [hs]
theorem sk {j : Nat} {w : Bool} (hw : wantedV c.ops (LS.mk tm mem nx).st ⟨some d, op, ty, ps, af, some (j, w)⟩ = some false)
  (h : RunC c (i + 1) l ⟨(d, .tup []) :: tm, mem, nx⟩ Q) : RunC c i (⟨some d, op, ty, ps, af, some (j, w)⟩ :: l) ⟨tm, mem, nx⟩ Q := skC rfl hw h
theorem skN {j : Nat} {w : Bool} (hw : wantedV c.ops (LS.mk tm mem nx).st ⟨none, op, ty, ps, af, some (j, w)⟩ = some false)
  (h : RunC c (i + 1) l ⟨tm, mem, nx⟩ Q) : RunC c i (⟨none, op, ty, ps, af, some (j, w)⟩ :: l) ⟨tm, mem, nx⟩ Q := skC rfl hw h
theorem bcase {p : Prop} (b : Bool) (ht : b = true → p) (hf : b = false → p) : p := by cases b; exact hf rfl; exact ht rfl

theorem cl {f : Operand} {args : Array Operand} {ts : Array TypeId} {fid : FuncId} {caps args' : List V} {res : V} {d' : Option Tmp} (ks : List Nat) (hw : Wt c ⟨tm, mem, nx⟩ ⟨d', .call { callee := .value f, args, argTypes := ts }, ty, ps, af, g⟩) (hf : (LS.mk tm mem nx).ev f = .fn (.func fid) caps)
  (hcb : callable c.P fid = true) (hfn : FnP c.P fid args' res) (ha : Lends (callHow (lget mem) ks) (args.toList.map (LS.mk tm mem nx).ev ++ caps) args') (hfr : V.fresh res = true ∨ ks = []) (hc : lchk c.base c.masks c.kl i ks = true)
  (h : RunC c (i + 1) l ((LS.mk tm mem nx).with d' res mem) Q) : RunC c i (⟨d', .call { callee := .value f, args, argTypes := ts }, ty, ps, af, g⟩ :: l) ⟨tm, mem, nx⟩ Q :=
 actM (e := ⟨res, []⟩) (t := ks) (w := false) rfl (fun hid => Act1.call hw rfl (by rw [LS.st_ev]; exact hf) (by rw [LS.st_ev]; exact ha) hcb hfn hfr) hc (fun e => by cases e) (fun x hx => by cases hx) h
def PassB (H : How) (mem : List (Nat × Blk)) : List Nat → List Blk → Prop
 | [], [] => True
 | b :: bs, k' :: m => (∃ k, lget mem b = some k ∧ BLend H k k') ∧ PassB H mem bs m
 | _, _ => False
theorem PassB.len {H : How} {mem : List (Nat × Blk)} : ∀ {bs : List Nat} {m : List Blk}, PassB H mem bs m → m.length = bs.length
 | [], [], _ => rfl
 | b :: bs, k :: m, h => by simp [PassB.len h.2]
 | [], k :: m, h => h.elim
 | b :: bs, [], h => h.elim
theorem PassB.get {H : How} {mem : List (Nat × Blk)} : ∀ {bs : List Nat} {m : List Blk}, PassB H mem bs m → ∀ j k', m[j]? = some k' → ∃ k, lget mem (bs.getD j 0) = some k ∧ BLend H k k'
 | [], [], _, j, k', e => by simp at e
 | b :: bs, k :: m, h, j, k', e => by
  cases j with
  | zero => simp at e; subst e; simpa using h.1
  | succ j => simpa using PassB.get h.2 j k' (by simpa using e)
 | [], k :: m, h, _, _, _ => h.elim
 | b :: bs, [], h, _, _, _ => h.elim
theorem cp {f : Operand} {args : Array Operand} {ts : Array TypeId} {fid : FuncId} {caps args' : List V} {m m' : List Blk} {res res' : V} {d' : Option Tmp} {ups : List (Nat × Blk)} (bs : List Nat) (id : Nat) (hw : Wt c ⟨tm, mem, nx⟩ ⟨d', .call { callee := .value f, args, argTypes := ts }, ty, ps, af, g⟩) (hid : c.base + 4 * i = id) (hf : (LS.mk tm mem nx).ev f = .fn (.func fid) caps)
  (hcb : callable c.P fid = true) (hfn : FnD c.P fid m args' res m') (ha : Lends (passHow (lget mem) bs) (args.toList.map (LS.mk tm mem nx).ev ++ caps) args') (hb : PassB (passHow (lget mem) bs) mem bs m) (hn : nodupB bs = true) (hs : sideBB c.p bs m' = true) (hl : (Nat.ble bs.length m'.length && Nat.ble m'.length (bs.length + 1)) = true)
  (hk : (c.masks.isNone || c.kl.contains i) = true) (hc : lchk c.base c.masks c.kl i bs = true) (hres : res.ren (passIds bs id) = res') (hups : passUps (passIds bs id) 0 m' = ups)
  (h : RunC c (i + 1) l ((LS.mk tm mem nx).with d' res' (pushes mem ups)) Q) : RunC c i (⟨d', .call { callee := .value f, args, argTypes := ts }, ty, ps, af, g⟩ :: l) ⟨tm, mem, nx⟩ Q := by
 subst hres hups
 have hsome : ∀ b ∈ bs, (lget mem b).isSome = true := fun b hb' => by
  obtain ⟨j, hj, rfl⟩ := List.mem_iff_getElem.1 hb'
  have hjm : j < m.length := by rw [hb.len]; exact hj
  obtain ⟨k, e, _⟩ := hb.get j m[j] (by simp [hjm])
  have : bs.getD j 0 = bs[j] := by simp [hj]
  rw [this] at e; rw [e]; rfl
 simp only [Bool.and_eq_true] at hl
 have hl1 := Nat.le_of_ble_eq_true hl.1
 have hl2 := Nat.le_of_ble_eq_true hl.2
 have hside := sideBB_ok hs
 refine actM (e := ⟨res.ren (passIds bs id), passUps (passIds bs id) 0 m'⟩) (t := bs) (w := true) rfl (fun hid' => ?_) hc (fun e => .inr hk) (fun x hx => ?_) h
 ·rw [hid] at hid' ⊢
  exact Act1.pass hw rfl (by rw [LS.st_ev]; exact hf) (by rw [LS.st_ev]; exact ha) hcb hfn (nodupB_ok _ hn) hsome hid' hside hb.len hl1 hl2 (fun j k' e => hb.get j k' e)
 ·obtain ⟨j, j1, j2, j3⟩ := passUps_keys _ _ _ x hx
  rw [j3]
  unfold passIds
  rcases Nat.lt_or_ge j bs.length with hj | hj
  ·right
   have : bs.getD j id = bs[j] := by simp [hj]
   rw [this]; exact hsome _ (List.getElem_mem hj)
  ·left
   have : bs.getD j id = id := by simp [hj]
   rw [this]; omega
theorem cls {f : Operand} {args : Array Operand} {ts : Array TypeId} {fid : FuncId} {caps args' : List V} {res : V} (ks : List Nat) (hw : Wt c ⟨tm, mem, nx⟩ ⟨some d, .call { callee := .value f, args, argTypes := ts }, ty, ps, af, g⟩) (hf : (LS.mk tm mem nx).ev f = .fn (.func fid) caps)
  (hcb : callable c.P fid = true) (hfn : FnP c.P fid args' res) (ha : Lends (callHow (lget mem) ks) (args.toList.map (LS.mk tm mem nx).ev ++ caps) args') (hfr : V.fresh res = true ∨ ks = []) (hc : lchk c.base c.masks c.kl i ks = true)
  (h : RunC c (i + 1) l ⟨(d, res) :: tm, mem, nx⟩ Q) : RunC c i (⟨some d, .call { callee := .value f, args, argTypes := ts }, ty, ps, af, g⟩ :: l) ⟨tm, mem, nx⟩ Q := cl (d' := some d) ks hw hf hcb hfn ha hfr hc h
theorem cln {f : Operand} {args : Array Operand} {ts : Array TypeId} {fid : FuncId} {caps args' : List V} {res : V} (ks : List Nat) (hw : Wt c ⟨tm, mem, nx⟩ ⟨none, .call { callee := .value f, args, argTypes := ts }, ty, ps, af, g⟩) (hf : (LS.mk tm mem nx).ev f = .fn (.func fid) caps)
  (hcb : callable c.P fid = true) (hfn : FnP c.P fid args' res) (ha : Lends (callHow (lget mem) ks) (args.toList.map (LS.mk tm mem nx).ev ++ caps) args') (hfr : V.fresh res = true ∨ ks = []) (hc : lchk c.base c.masks c.kl i ks = true)
  (h : RunC c (i + 1) l ⟨tm, mem, nx⟩ Q) : RunC c i (⟨none, .call { callee := .value f, args, argTypes := ts }, ty, ps, af, g⟩ :: l) ⟨tm, mem, nx⟩ Q := cl (d' := none) ks hw hf hcb hfn ha hfr hc h
theorem cps {f : Operand} {args : Array Operand} {ts : Array TypeId} {fid : FuncId} {caps args' : List V} {m m' : List Blk} {res res' : V} {ups : List (Nat × Blk)} (bs : List Nat) (id : Nat) (hw : Wt c ⟨tm, mem, nx⟩ ⟨some d, .call { callee := .value f, args, argTypes := ts }, ty, ps, af, g⟩) (hid : c.base + 4 * i = id) (hf : (LS.mk tm mem nx).ev f = .fn (.func fid) caps)
  (hcb : callable c.P fid = true) (hfn : FnD c.P fid m args' res m') (ha : Lends (passHow (lget mem) bs) (args.toList.map (LS.mk tm mem nx).ev ++ caps) args') (hb : PassB (passHow (lget mem) bs) mem bs m) (hn : nodupB bs = true) (hs : sideBB c.p bs m' = true) (hl : (Nat.ble bs.length m'.length && Nat.ble m'.length (bs.length + 1)) = true)
  (hk : (c.masks.isNone || c.kl.contains i) = true) (hc : lchk c.base c.masks c.kl i bs = true) (hres : res.ren (passIds bs id) = res') (hups : passUps (passIds bs id) 0 m' = ups)
  (h : RunC c (i + 1) l ⟨(d, res') :: tm, (pushes mem ups), nx⟩ Q) : RunC c i (⟨some d, .call { callee := .value f, args, argTypes := ts }, ty, ps, af, g⟩ :: l) ⟨tm, mem, nx⟩ Q := cp (d' := some d) bs id hw hid hf hcb hfn ha hb hn hs hl hk hc hres hups h
theorem cpn {f : Operand} {args : Array Operand} {ts : Array TypeId} {fid : FuncId} {caps args' : List V} {m m' : List Blk} {res res' : V} {ups : List (Nat × Blk)} (bs : List Nat) (id : Nat) (hw : Wt c ⟨tm, mem, nx⟩ ⟨none, .call { callee := .value f, args, argTypes := ts }, ty, ps, af, g⟩) (hid : c.base + 4 * i = id) (hf : (LS.mk tm mem nx).ev f = .fn (.func fid) caps)
  (hcb : callable c.P fid = true) (hfn : FnD c.P fid m args' res m') (ha : Lends (passHow (lget mem) bs) (args.toList.map (LS.mk tm mem nx).ev ++ caps) args') (hb : PassB (passHow (lget mem) bs) mem bs m) (hn : nodupB bs = true) (hs : sideBB c.p bs m' = true) (hl : (Nat.ble bs.length m'.length && Nat.ble m'.length (bs.length + 1)) = true)
  (hk : (c.masks.isNone || c.kl.contains i) = true) (hc : lchk c.base c.masks c.kl i bs = true) (hres : res.ren (passIds bs id) = res') (hups : passUps (passIds bs id) 0 m' = ups)
  (h : RunC c (i + 1) l ⟨tm, (pushes mem ups), nx⟩ Q) : RunC c i (⟨none, .call { callee := .value f, args, argTypes := ts }, ty, ps, af, g⟩ :: l) ⟨tm, mem, nx⟩ Q := cp (d' := none) bs id hw hid hf hcb hfn ha hb hn hs hl hk hc hres hups h
end
section
variable {α : Type} [Cl α]
theorem ldR' {H : How} {nw : Bool} {xs : List α} : Lend H (rowV nw xs) (rowV (H.tg nw) xs) := .lst (flat_ld H nw xs) (flat_leaf _ _)
theorem ldA {H : How} {nw : Bool} {x : α} : Lend H (aggV nw x) (aggV (H.tg nw) x) := .agg (Cl.ld H nw x) (Cl.leaf _ _)
theorem ldS {H : How} {b ver te : Nat} {nw : Bool} {xs : List α} (hL : H.L b = true) (hm : H.mem b = some (arrB te ver nw xs)) (ht : H.tn = H.tg nw) : Lend H (slV α b ver 0 xs.length) (rowV (H.tg nw) xs) := by
 unfold rowV; rw [← ht]
 refine .slLend (te := te) hL hm ?_ ?_ (flat_leaf _ _)
 ·rw [flat_len']; omega
 ·rw [Nat.zero_mul, List.drop_zero, List.take_of_length_le (by rw [flat_len']; exact Nat.le_refl _), ht]
  exact flat_ld H nw xs
theorem ldSs {H : How} {b ver te off len : Nat} {nw : Bool} {xs : List α} (hL : H.L b = true) (hm : H.mem b = some (arrB te ver nw xs)) (ht : H.tn = H.tg nw) (hfit : off + len ≤ xs.length) : Lend H (slV α b ver off len) (rowV (H.tg nw) ((xs.drop off).take len)) := by
 unfold rowV; rw [← ht, show ((xs.drop off).take len).length = len by simp; omega]
 refine .slLend (te := te) hL hm ?_ ?_ (flat_leaf _ _)
 ·rw [flat_len', ← Nat.add_mul]; exact Nat.mul_le_mul_right _ hfit
 ·rw [flat_drop, flat_take, ht]
  exact flat_ld H nw _
theorem lnilI {H : How} : Lend H (.sc (.slice none 0 0)) (.sc (.slice none 0 0)) := .sc _
theorem bldB {H : How} {nw : Bool} {x : α} : BLend H (boxB nw x) (boxB (H.tg nw) x) := .box (Cl.ld H nw x) (Cl.leaf _ _)
theorem bldA {H : How} {te ver : Nat} {nw : Bool} {xs : List α} : BLend H (arrB te ver nw xs) (arrB te ver (H.tg nw) xs) := .arr (flat_ld H nw xs) (flat_leaf _ _)
theorem renR {r : Nat → Nat} {nw : Bool} {xs : List α} : (rowV nw xs).ren r = rowV nw xs := ren_nor r _ (by simp only [rowV, V.nor]; exact flat_nors nw xs)
theorem renA {r : Nat → Nat} {nw : Bool} {x : α} : (aggV nw x).ren r = aggV nw x := ren_nor r _ (by simp only [aggV, V.nor]; exact Cl.nors nw x)
theorem renBox {r : Nat → Nat} {nw : Bool} {x : α} : (boxB nw x).ren r = boxB nw x := by simp only [boxB, Blk.ren]; rw [rens_nor r _ (Cl.nors nw x)]
theorem renArr {r : Nat → Nat} {te ver : Nat} {nw : Bool} {xs : List α} : (arrB te ver nw xs).ren r = arrB te ver nw xs := by simp only [arrB, Blk.ren]; rw [rens_nor r _ (flat_nors nw xs)]
theorem freshR {xs : List α} : V.fresh (rowV true xs) = true := by simp only [rowV, V.fresh, flat_fresh, Bool.and_self]
theorem freshA {x : α} : V.fresh (aggV true x) = true := by simp only [aggV, V.fresh, Cl.fresh]
end

section
variable {P : Program} {r : Option Nat} {W0 : World} {S : Nat → Prop} {p : Nat} {F0 : Nat → Nat → Option Value} {N : Nat} {D : List Deferred} {tm : List (Nat × V)} {mem : List (Nat × Blk)} {nx : Nat} {Q : Exit → St → Prop} {id : Nat} {l : List Oper} {x y z : Code}
theorem AWP.rgC (nx' : Nat) (hn : nx + 4 * l.length = nx') (hd : l.all (fun o => dstOK N o.dst) = true) (h : RunC ⟨P, N, p, l.toArray, nx, none, ⟨[], []⟩⟩ 0 l ⟨tm, mem, nx'⟩ fun s' => Q .normal s'.st) : AWP P r ⟨W0, S, p, F0, N, D⟩ (.region id l.toArray false) (LS.mk tm mem nx).st Q := fun E a W hI => by
 have h' := h (fun k o' hk => by simpa using hk) (fun o ho => List.all_eq_true.1 hd o ho) (fun b hb => by
  cases hm : lget mem b with
  | none => rfl
  | some k => have := hI.m.nx b k hm; have h2 : nx + 4 * 0 ≤ b := hb; have h3 : b < nx := this; omega)
 subst hn
 have h2 := h' r W0 S F0 D E a W (fun e a' W' => ∃ E' s', E.lep p E' ∧ Inv ⟨W0, S, p, F0, N, D⟩ E' s' a' W' ∧ Q e s') (Inv.more hI (Nat.le_add_right _ _)) (by show nx + 4 * (0 + l.length) ≤ nx + 4 * l.length; omega) fun E' a' W' s' hE hI' hq => ⟨E', s'.st, hE.lep, hI', hq⟩
 refine wpIn_region ?_
 rw [List.size_toArray, List.range_eq_range']
 exact h2
theorem AWP.rgD (nx' : Nat) (masks : List Nat) (kl : Kl) (hm : P.follows .mixedOrders = true) (hok : okDraw l.toArray masks kl = true) (hn : nx + 4 * l.length = nx') (hd : l.all (fun o => dstOK N o.dst) = true) (h : RunC ⟨P, N, p, l.toArray, nx, some masks, kl⟩ 0 l ⟨tm, mem, nx'⟩ fun s' => Q .normal s'.st) : AWP P r ⟨W0, S, p, F0, N, D⟩ (.region id l.toArray true) (LS.mk tm mem nx).st Q := fun E a W hI => by
 obtain ⟨s', r1, r2⟩ := h (fun k o' hk => by simpa using hk) (fun o ho => List.all_eq_true.1 hd o ho) (fun b hb => by
  cases hm : lget mem b with
  | none => rfl
  | some k => have := hI.m.nx b k hm; have h2 : nx + 4 * 0 ≤ b := hb; have h3 : b < nx := this; omega)
 subst hn
 refine AWP.draw (P := P) (r := r) (s' := s'.st) hm hok ?_ r2 E a W hI
 rw [List.size_toArray]
 rw [← List.range_eq_range'] at r1
 exact r1
theorem AWP.sq {C : Cx} {s : St} (h : AWP P r C x s (thn (fun s' => AWP P r C y s' Q) Q)) : AWP P r C (.seq x y) s Q := AWP.seq h
theorem AWP.cd {C : Cx} {α : Type} {v : Operand} {b : Bool} {A B : Option α} {R : α} (hR : (if b = true then A else B) = some R) (hx : (LS.mk tm mem nx).ev v = .sc (.bool b)) (ht : b = true → A = some R → AWP P r C x (LS.mk tm mem nx).st Q) (hf : b = false → B = some R → AWP P r C y (LS.mk tm mem nx).st Q) : AWP P r C (.cond v x y) (LS.mk tm mem nx).st Q :=
 AWP.cond (by rw [LS.st_ev]; exact hx) (fun e => ht e (by rw [if_pos e] at hR; exact hR)) (fun e => hf e (by rw [if_neg (by rw [e]; decide)] at hR; exact hR))
theorem AWP.cdT {C : Cx} {v : Operand} (hx : (LS.mk tm mem nx).ev v = .sc (.bool true)) (ht : AWP P r C x (LS.mk tm mem nx).st Q) : AWP P r C (.cond v x y) (LS.mk tm mem nx).st Q :=
 AWP.cond (by rw [LS.st_ev]; exact hx) (fun _ => ht) (fun e => by cases e)
theorem AWP.cdF {C : Cx} {v : Operand} (hx : (LS.mk tm mem nx).ev v = .sc (.bool false)) (hf : AWP P r C y (LS.mk tm mem nx).st Q) : AWP P r C (.cond v x y) (LS.mk tm mem nx).st Q :=
 AWP.cond (by rw [LS.st_ev]; exact hx) (fun e => by cases e) (fun _ => hf)
theorem bindE' {α β : Type} {x : Option α} {f : α → Option β} {r : β} (h : x.bind f = some r) : ∃ y, x = some y ∧ f y = some r := bindE h
theorem AWP.loopX {C : Cx} {s : St} {A O R' : Type} (st : A → LS) (body : A → Option (Step A O)) {k : O → Option R'} {R : R'} {s0 : A} (hR : (loopF body s0).bind k = some R) (hw : Weak C s (st s0).st)
  (round : ∀ s1 out, body s1 = some out → (∀ o, out = .done o → k o = some R) → AWP P r C x (st s1).st (thn (fun s' => ∃ s2, out = .next s2 ∧ Weak C s' (st s2).st) Q)) : AWP P r C (.loop x) s Q := by
 obtain ⟨o, ho, hk⟩ := bindE hR
 refine AWP.loopW (fun q : Nat × A => st q.2) (fun q => iterF body q.1 q.2 = some o) (fun q => q.1) (_, s0) ho hw ?_
 rintro ⟨n, s1⟩ hn
 cases n with
 | zero => cases hn
 | succ n =>
  simp only [iterF] at hn
  cases hb : body s1 with
  | none => rw [hb] at hn; cases hn
  | some out =>
   rw [hb] at hn
   refine (round s1 out hb fun o' e => ?_).mono fun e s' he => ?_
   ·subst e; cases hn; exact hk
   ·cases e with
    | normal =>
     obtain ⟨s2, rfl, h2⟩ := he
     exact ⟨(n, s2), hn, Nat.lt_succ_self _, h2⟩
    | _ => exact he
theorem AWP.loopS {C : Cx} {s : St} {A X R' : Type} (st : A → LS) (body : A → Option (Step A (Step X R'))) {k : X → Option R'} {R : R'} {s0 : A} (hR : seqF (loopF body s0) k = some R) (hw : Weak C s (st s0).st)
  (round : ∀ s1 out, body s1 = some out → (∀ o, out = .done (.next o) → k o = some R) → (∀ o, out = .done (.done o) → o = R) → AWP P r C x (st s1).st (thn (fun s' => ∃ s2, out = .next s2 ∧ Weak C s' (st s2).st) Q)) : AWP P r C (.loop x) s Q := by
 obtain ⟨y, hy, h1, h2⟩ := seqE hR
 refine AWP.loopX st body (k := fun o => match o with | .next x => k x | .done l => some l) (R := R) (s0 := s0) ?_ hw fun s1 out hb hd => round s1 out hb (fun o e => hd _ e) (fun o e => Option.some.inj (hd _ e))
 rw [hy]
 cases y with
 | next x => exact h1 x rfl
 | done l => exact congrArg some (h2 l rfl)
theorem AWP.joinX {C : Cx} {s : St} {X R' : Type} (st : X → LS) {G : Option X} {k : X → Option R'} {R : R'} (hR : G.bind k = some R) (hx : ∀ z, G = some z → AWP P r C x s (thn (fun s' => Weak C s' (st z).st) Q)) (hy : ∀ z, k z = some R → AWP P r C y (st z).st Q) : AWP P r C (.seq x y) s Q := by
 obtain ⟨z, hz, hk⟩ := bindE hR
 refine AWP.seq ((hx z hz).mono fun e s' he => ?_)
 cases e with
 | normal => exact AWP.weaken he (hy z hk)
 | _ => exact he
theorem AWP.joinS {C : Cx} {s : St} {X R' : Type} (st : X → LS) {G : Option (Step X R')} {k : X → Option R'} {R : R'} (hR : seqF G k = some R) (hx : ∀ out, G = some out → (∀ o, out = .done o → o = R) → AWP P r C x s (thn (fun s' => ∃ z, out = .next z ∧ Weak C s' (st z).st) Q)) (hy : ∀ z, k z = some R → AWP P r C y (st z).st Q) : AWP P r C (.seq x y) s Q := by
 obtain ⟨out, ho, h1, h2⟩ := seqE hR
 refine AWP.seq ((hx out ho h2).mono fun e s' he => ?_)
 cases e with
 | normal => obtain ⟨z, g1, g2⟩ := he; exact AWP.weaken g2 (hy z (h1 z g1))
 | _ => exact he
end

section
variable {P : Program} {tm : List (Nat × V)} {mem : List (Nat × Blk)} {nx : Nat}
theorem rvT {t : Tmp} {v : V} (h : (LS.mk tm mem nx).slot t = v) : resV P (LS.mk tm mem nx).st (.tmp t) = some v := by subst h; rfl
theorem rvC {a : Tmp} {t : TypeId} {ti : TI} {b o : Nat} {cs : List V} {v : V} (hx : (LS.mk tm mem nx).slot a = .ptr b 0 o) (hm : lget mem b = some (.box cs)) (hti : tiOf P t = some ti) (hl : loadV ti (cs.drop o) = some v) : resV P (LS.mk tm mem nx).st (.cell a t) = some v := by
 have : fxLoad P t (.ptr b 0 o) (lget mem) = some ⟨v, none⟩ := by simp only [fxLoad, hti, hm, Blk.hasVer, beq_self_eq_true, if_true, Blk.cells, hl]; rfl
 show (fxLoad P t ((LS.mk tm mem nx).slot a) (lget mem)).map (·.val) = _
 rw [hx, this]; rfl
theorem ro0 {s : St} : resOf P s [] = some (.tup []) := rfl
theorem ro1 {s : St} {a : ResultVar} {v : V} (h : resV P s a = some v) : resOf P s [a] = some v := by simp [resOf, resVs, h]
theorem ro2 {s : St} {a b : ResultVar} {v w : V} (h : resV P s a = some v) (k : resV P s b = some w) : resOf P s [a, b] = some (.tup [v, w]) := by simp [resOf, resVs, h, k]
theorem ro3 {s : St} {a b c : ResultVar} {v w u : V} (h : resV P s a = some v) (k : resV P s b = some w) (m : resV P s c = some u) : resOf P s [a, b, c] = some (.tup [v, w, u]) := by simp [resOf, resVs, h, k, m]
theorem ro4 {s : St} {a b c d : ResultVar} {v w u z : V} (h : resV P s a = some v) (k : resV P s b = some w) (m : resV P s c = some u) (q : resV P s d = some z) : resOf P s [a, b, c, d] = some (.tup [v, w, u, z]) := by simp [resOf, resVs, h, k, m, q]
def RetX (P : Program) (C : Cx) (fn : Func) (p : Nat) (R : V) (bs' : List Blk) (Q : Exit → St → Prop) : Prop := ∀ e (s0 : St) (s : LS) (v : V) (ex : List Nat), (e = .normal ∨ e = .ret) → Weak C s0 s.st → resOf P s.st fn.results.toList = some v → nodupB ex = true → (ex.all fun b => decide (p ≤ b)) = true →
 Lend (retHow (lget s.mem) (outL (lget s.mem) p ex) (outIds p ex) (p + ex.length)) v R → PassB (retHow (lget s.mem) (outL (lget s.mem) p ex) (outIds p ex) (p + ex.length)) s.mem (List.range p ++ ex) bs' → Q e s0
theorem AWP.monoW {P : Program} {r : Option Nat} {C : Cx} {c : Code} {s : St} {Q : Exit → St → Prop} (h : AWP P r C c s fun e s' => ∃ s2, Weak C s' s2 ∧ Q e s2) : AWP P r C c s Q := fun E a W hI =>
 wpIn_mono (h E a W hI) fun e a' W' ⟨E', s', h1, h2, s2, h3, h4⟩ => let ⟨E2, g1, g2⟩ := h3 E' a' W' h2; ⟨E2, s2, Env.lep_trans h1 g1, g2, h4⟩
theorem FnX.walk {P : Program} {f : FuncId} {fn : Func} {c : Code} {bs bs' : List Blk} {args : List V} {res : V} (hf : P.funcs[f]? = some fn) (hb : fn.body = some c) (N p : Nat) (hN : args.length + (fn.ntmps - args.length) = N) (hp : bs.length = p)
  (h : ∀ (W : World) (S : Nat → Prop) (F : Nat → Nat → Option Value) (Q : Exit → St → Prop), RetX P ⟨W, S, p, F, N, []⟩ fn p res bs' Q →
   AWP P none ⟨W, S, p, F, N, []⟩ c (⟨largs 0 args, lblks 0 bs, p⟩ : LS).st Q) : FnD P f bs args res bs' := by
 unfold FnD
 subst hp
 refine FnM.of_awp hf hb (fun b k hk => (List.getElem?_eq_some_iff.1 hk).1) fun W S F => ?_
 have := AWP.monoW <| h W S F (fun e s0 => ∃ s, Weak ⟨W, S, bs.length, F, N, []⟩ s0 s ∧ (e = .normal ∨ e = .ret) ∧ ∃ v res_1 m', resOf P s fn.results.toList = some v ∧ Leaves bs.length s v res_1 m' ∧ res_1 = res ∧ m' = fun j => bs'[j]?) fun e s0 s v ex he hwk hv x1 x2 hl hpb => by
  have hex : ∀ b ∈ ex, bs.length ≤ b := by simpa using x2
  have hnd := nodupB_ok _ x1
  refine ⟨s.st, hwk, he, v, res, _, hv, ⟨outL (lget s.mem) bs.length ex, outIds bs.length ex, bs.length + ex.length, by omega, fun b hb => ?_, fun j hj => by simp [outIds, hj], fun j h1 h2 => ?_, fun i j hi hj e => ?_, fun j hj => ?_, fun j hj => ?_, fun j hj => ?_, hl⟩, rfl, rfl⟩
  ·unfold outL at hb; simp only [Bool.and_eq_true, decide_eq_true_eq] at hb; exact hb.1.2
  ·have hlt : j - bs.length < ex.length := by omega
   simp only [outIds, if_neg (Nat.not_lt.2 h1), List.getD_eq_getElem?_getD, List.getElem?_eq_getElem hlt, Option.getD_some]
   exact hex _ (List.getElem_mem hlt)
  ·unfold outIds at e
   split at e <;> split at e
   ·exact e
   ·rename_i g1 g2
    have hlt : j - bs.length < ex.length := by omega
    simp only [List.getD_eq_getElem?_getD, List.getElem?_eq_getElem hlt, Option.getD_some] at e
    have := hex _ (List.getElem_mem hlt); omega
   ·rename_i g1 g2
    have hlt : i - bs.length < ex.length := by omega
    simp only [List.getD_eq_getElem?_getD, List.getElem?_eq_getElem hlt, Option.getD_some] at e
    have := hex _ (List.getElem_mem hlt); omega
   ·have hlt : j - bs.length < ex.length := by omega
    have hlt' : i - bs.length < ex.length := by omega
    simp only [List.getD_eq_getElem?_getD, List.getElem?_eq_getElem hlt, List.getElem?_eq_getElem hlt', Option.getD_some] at e
    have := nodup_inj hnd e; omega
  ·unfold outL outIds
   split
   ·rename_i g; simp; intro _ h; omega
   ·rename_i g
    have hlt : j - bs.length < ex.length := by omega
    simp only [List.getD_eq_getElem?_getD, List.getElem?_eq_getElem hlt, Option.getD_some]
    simp
  ·have hlen : (List.range bs.length ++ ex)[j]? = some (outIds bs.length ex j) := by
    unfold outIds
    rcases Nat.lt_or_ge j bs.length with g | g
    ·rw [List.getElem?_append_left (by simpa using g), if_pos g]; simp [g]
    ·rw [List.getElem?_append_right (by simpa using g), if_neg (by omega)]
     simp only [List.length_range]
     have hlt : j - bs.length < ex.length := by omega
     simp [hlt]
   have hlb := hpb.len
   have hlt : j < bs'.length := by rw [hlb]; simp; omega
   obtain ⟨k, k1, k2⟩ := hpb.get j bs'[j] (by simp [hlt])
   rw [List.getD_eq_getElem?_getD, hlen, Option.getD_some] at k1
   exact ⟨k, bs'[j], k1, by simp [hlt], k2⟩
  ·have hlb := hpb.len
   simp at hlb
   simp; omega
 have e : (⟨largs 0 args, lblks 0 bs, bs.length⟩ : LS).st = ⟨argsT args, fun j => bs[j]?, bs.length⟩ := by
  rw [← argsT_st]
  have : lget (lblks 0 bs) = fun j => bs[j]? := by
   funext j
   rw [lget_lblks]; simp
  rw [this]
 rw [e] at this
 rw [show (⟨W, S, bs.length, F, args.length + (fn.ntmps - args.length), []⟩ : Cx) = ⟨W, S, bs.length, F, N, []⟩ by rw [hN]]
 exact this
end
end Go.Abs
namespace Go.Abs
set_option linter.unusedVariables false
set_option linter.unusedSimpArgs false
theorem fnP_of {P : Program} {f : FuncId} {args : List V} {res : V} (h : FnD P f [] args res []) : FnP P f args res := by
 have e : (fun j => ([] : List Blk)[j]?) = none' := by funext j; simp [none']
 unfold FnD at h
 unfold FnP
 rw [e] at h
 exact h
section
variable {P : Program} {r : Option Nat} {C : Cx} {c : RX} {i : Nat} {s : LS} {t : St} {Q : Exit → St → Prop} {K : St → Prop} {id id' : Nat} {x y z : Code}
theorem RunC.fin (h : K s.st) : RunC c i [] s fun s' => thn K Q .normal s'.st := RunC.nil h
theorem RunC.blk (h : RunC c i [] s fun s' => Q .normal s'.st) : RunC c i [] s fun s' => inBlk id Q .normal s'.st := h
theorem exT (h : Q (.exit id) t) : thn K Q (.exit id) t := h
theorem exB (hn : (id == id') = false) (h : Q (.exit id) t) : inBlk id' Q (.exit id) t := by
 have : ¬ id = id' := by simpa using hn
 simp only [inBlk]; rw [if_neg this]; exact h
theorem exH (h : Q .normal t) : inBlk id Q (.exit id) t := by simp only [inBlk, if_true]; exact h
theorem skT (h : K t) : thn K Q .normal t := h
theorem skB (h : Q .normal t) : inBlk id Q .normal t := h
theorem rtT (h : Q .ret t) : thn K Q .ret t := h
theorem rtB (h : Q .ret t) : inBlk id Q .ret t := h
theorem AWP.loopJ {A X R' : Type} (st : A → LS) (stA : X → LS) (body : A → Option (Step A X)) {k : X → Option R'} {R : R'} {s0 : A} (hR : (loopF body s0).bind k = some R) (hw : Weak C t (st s0).st)
  (round : ∀ s1 out, body s1 = some out → AWP P r C x (st s1).st (thn (fun s' => ∃ s2, out = .next s2 ∧ Weak C s' (st s2).st) (inBlk id (thn (fun s' => ∃ z, out = .done z ∧ Weak C s' (stA z).st) Q))))
  (after : ∀ z, k z = some R → Q .normal (stA z).st) : AWP P r C (.block id (.loop x)) t Q := by
 refine AWP.monoW (AWP.block (AWP.loopX st body hR hw fun s1 out hb hd => (round s1 out hb).mono fun e s' he => ?_))
 cases e with
 | normal => exact he
 | exit id' =>
  simp only [thn, inBlk] at he ⊢
  split
  ·rename_i h; rw [if_pos h] at he
   obtain ⟨z, h1, h2⟩ := he
   exact ⟨_, h2, after z (hd z h1)⟩
  ·rename_i h; rw [if_neg h] at he; exact ⟨_, Weak.refl _ _, he⟩
 | _ => exact ⟨_, Weak.refl _ _, he⟩
theorem AWP.loopK' {A X R' : Type} (st : A → LS) (stA : X → LS) (body : A → Option (Step A (Step X R'))) {k : X → Option R'} {R : R'} {s0 : A} (hR : seqF (loopF body s0) k = some R) (hw : Weak C t (st s0).st)
  (round : ∀ s1 out, body s1 = some out → (∀ o, out = .done (.done o) → o = R) → AWP P r C x (st s1).st (thn (fun s' => ∃ s2, out = .next s2 ∧ Weak C s' (st s2).st) (inBlk id (thn (fun s' => ∃ z, out = .done (.next z) ∧ Weak C s' (stA z).st) Q))))
  (after : ∀ z, k z = some R → Q .normal (stA z).st) : AWP P r C (.block id (.loop x)) t Q := by
 refine AWP.monoW (AWP.block (AWP.loopS st body hR hw fun s1 out hb hd hd2 => (round s1 out hb hd2).mono fun e s' he => ?_))
 cases e with
 | normal => exact he
 | exit id' =>
  simp only [thn, inBlk] at he ⊢
  split
  ·rename_i h; rw [if_pos h] at he
   obtain ⟨z, h1, h2⟩ := he
   exact ⟨_, h2, after z (hd z h1)⟩
  ·rename_i h; rw [if_neg h] at he; exact ⟨_, Weak.refl _ _, he⟩
 | _ => exact ⟨_, Weak.refl _ _, he⟩
theorem joinEnd {X : Type} {st : X → LS} {a z : X} (h : some a = some z) (hw : Weak C t (st a).st) : Weak C t (st z).st := by cases h; exact hw
theorem stepEnd {A O : Type} {st : A → LS} {a : A} {out : Step A O} (h : some (Step.next a) = some out) (hw : Weak C t (st a).st) : ∃ s2, out = .next s2 ∧ Weak C t (st s2).st := ⟨a, (Option.some.inj h).symm, hw⟩
theorem doneEnd {A O : Type} {st : O → LS} {a : O} {out : Step A O} (h : some (Step.done a) = some out) (hw : Weak C t (st a).st) : ∃ s2, out = .done s2 ∧ Weak C t (st s2).st := ⟨a, (Option.some.inj h).symm, hw⟩
theorem doneEnd' {A O X : Type} {st : O → LS} {a : O} {out : Step A (Step O X)} (h : some (Step.done (Step.next a)) = some out) (hw : Weak C t (st a).st) : ∃ s2, out = .done (.next s2) ∧ Weak C t (st s2).st := ⟨a, (Option.some.inj h).symm, hw⟩
theorem escL {A X O : Type} {a : O} {out : Step A (Step X O)} {R : O} (h : some (Step.done (Step.done a)) = some out) (hE : ∀ o, out = .done (.done o) → o = R) : some a = some R := congrArg some (hE a (Option.some.inj h).symm)
theorem escJ {X O : Type} {a : O} {out : Step X O} {R : O} (h : some (Step.done a) = some out) (hE : ∀ o, out = .done o → o = R) : some a = some R := congrArg some (hE a (Option.some.inj h).symm)
theorem brR {α : Type} {p : Prop} {b : Bool} {A B : Option α} {R : α} (hR : (if b = true then A else B) = some R) (ht : b = true → A = some R → p) (hf : b = false → B = some R → p) : p := by
 cases b
 ·exact hf rfl hR
 ·exact ht rfl hR
end
section
variable {c : RX} {i : Nat} {l : List Oper} {tm : List (Nat × V)} {mem : List (Nat × Blk)} {nx : Nat} {Q : LS → Prop} {d : Tmp} {ty : TypeId} {ps : String} {af : Array Edge} {g : Option (Nat × Bool)}
theorem pkT {x a b : Operand} {t : Bool} {v : V} (hw : Wt c ⟨tm, mem, nx⟩ ⟨some d, .pick x a b, ty, ps, af, g⟩) (hx : (LS.mk tm mem nx).ev x = .sc (.bool t)) (ht : t = true) (hv : (LS.mk tm mem nx).ev a = v)
  (h : RunC c (i + 1) l ⟨(d, v) :: tm, mem, nx⟩ Q) : RunC c i (⟨some d, .pick x a b, ty, ps, af, g⟩ :: l) ⟨tm, mem, nx⟩ Q :=
 fxC hw rfl (fun _ => by simp only [opFx, fxPick, hx, ht, if_true, hv]) h
theorem pkF {x a b : Operand} {t : Bool} {v : V} (hw : Wt c ⟨tm, mem, nx⟩ ⟨some d, .pick x a b, ty, ps, af, g⟩) (hx : (LS.mk tm mem nx).ev x = .sc (.bool t)) (ht : t = false) (hv : (LS.mk tm mem nx).ev b = v)
  (h : RunC c (i + 1) l ⟨(d, v) :: tm, mem, nx⟩ Q) : RunC c i (⟨some d, .pick x a b, ty, ps, af, g⟩ :: l) ⟨tm, mem, nx⟩ Q :=
 fxC hw rfl (fun _ => by simp only [opFx, fxPick, hx, ht, hv]; rfl) h
end
section
variable {α : Type} [Cl α] {H : Hw} {s : LS}
theorem tn : TrTm H s [] := trivial
theorem tc {t : Nat} {v : V} {l : List (Nat × V)} (h : Tr H (s.slot t) v) (k : TrTm H s l) : TrTm H s ((t, v) :: l) := ⟨h, k⟩
theorem mn {mem : List (Nat × Blk)} {j : Nat} : TrMem H mem j [] := trivial
theorem mc {mem : List (Nat × Blk)} {j : Nat} {k k' : Blk} {l : List Blk} (e : lget mem (H.ids j) = some k) (h : BTr H j k k') (m : TrMem H mem (j + 1) l) : TrMem H mem j (k' :: l) := ⟨⟨k, e, h⟩, m⟩
theorem pn {H : How} {mem : List (Nat × Blk)} : PassB H mem [] [] := trivial
theorem pc {H : How} {mem : List (Nat × Blk)} {b : Nat} {bs : List Nat} {k k' : Blk} {m : List Blk} (e : lget mem b = some k) (h : BLend H k k') (q : PassB H mem bs m) : PassB H mem (b :: bs) (k' :: m) := ⟨⟨k, e, h⟩, q⟩
theorem trR0 {nw : Bool} {xs : List α} : Tr H (rowV nw xs) (rowV false xs) := trR fun h => nomatch h
theorem trR1 {nw : Bool} {xs : List α} : Tr H (rowV nw xs) (rowV nw xs) := trR id
theorem trS' {j b ver ver' off ln ln' te : Nat} {nw : Bool} {xs : List α} (h1 : Nat.blt j H.q = true) (h2 : H.ids j = b) (h3 : H.nv j = ver') (hm : H.mem b = some (arrB te ver nw xs)) (hl : ln = ln') : Tr H (slV α b ver off ln) (slV α j ver' off ln') := by
 subst hl; exact trS (Nat.le_of_ble_eq_true h1) h2 h3 hm
theorem trP' {j b o : Nat} {cs : List V} (h1 : Nat.blt j H.q = true) (h2 : H.ids j = b) (h3 : H.nv j = 0) (hm : H.mem b = some (.box cs)) : Tr H (.ptr b 0 o) (.ptr j 0 o) := .ptrBox (Nat.le_of_ble_eq_true h1) h2 h3 hm
theorem trF' {b ver te ln : Nat} {nw new : Bool} {xs : List α} (hL : H.L b = true) (hm : H.mem b = some (arrB te ver nw xs)) (h : new = true → nw = true) (hl : ln = xs.length) : Tr H (slV α b ver 0 ln) (rowV new xs) := by
 subst hl; exact trF hL hm h rfl
theorem btrA' {j te ver ver' : Nat} {nw : Bool} {xs : List α} (h : H.nv j = ver') : BTr H j (arrB te ver nw xs) (arrB te ver' nw xs) := btrA h id
theorem ldP {H : How} {j b ver o : Nat} (h1 : Nat.blt j H.p = true) (h2 : H.ids j = b) : Lend H (.ptr b ver o) (.ptr j ver o) := .ptrPass (Nat.le_of_ble_eq_true h1) h2
theorem ldM {H : How} {j b ver off ln : Nat} (h1 : Nat.blt j H.p = true) (h2 : H.ids j = b) : Lend H (slV α b ver off ln) (slV α j ver off ln) := .slPass (Nat.le_of_ble_eq_true h1) h2
theorem ldS' {H : How} {b ver te ln : Nat} {nw : Bool} {xs : List α} (hL : H.L b = true) (hm : H.mem b = some (arrB te ver nw xs)) (ht : H.tn = H.tg nw) (hl : ln = xs.length) : Lend H (slV α b ver 0 ln) (rowV (H.tg nw) xs) := by
 subst hl; exact ldS hL hm ht
theorem ldX {H : How} {b o : Nat} {cs cs' : List V} (hL : H.L b = true) (hm : H.mem b = some (.box cs)) (h : Lends H (cs.drop o) cs') (hl : cs'.all V.leaf = true) : Lend H (.ptr b 0 o) (.rp cs') := .ptrLend hL hm rfl h hl
theorem ixlt {n : Int} {m : Nat} (h : 0 ≤ n ∧ n < m) : n.toNat < m := by omega
end
section
variable {c : RX} {i : Nat} {l : List Oper} {tm : List (Nat × V)} {mem : List (Nat × Blk)} {nx : Nat} {Q : LS → Prop} {d : Tmp} {op : Op} {ty : TypeId} {ps : String} {af : Array Edge} {g : Option (Nat × Bool)}
theorem ixS0 {α : Type} [Cl α] {t te : TypeId} {x j : Operand} {b ver len : Nat} {k : IntKind} {n : Int} {ti tj : TI} (hw : Wt c ⟨tm, mem, nx⟩ ⟨some d, .indexAddr t x j, ty, ps, af, g⟩) (hx : (LS.mk tm mem nx).ev x = slV α b ver 0 len) (hi : (LS.mk tm mem nx).ev j = .sc (.int k n))
  (hti : tiOf c.P t = some ti) (hk : ti.k = .sli te) (htj : tiOf c.P te = some tj) (he : (tj.size == Cl.e α) = true) (hn : 0 ≤ n ∧ n < len)
  (h : RunC c (i + 1) l ⟨(d, .ptr b ver (n.toNat * Cl.e α + 0)) :: tm, mem, nx⟩ Q) : RunC c i (⟨some d, .indexAddr t x j, ty, ps, af, g⟩ :: l) ⟨tm, mem, nx⟩ Q :=
 ixS hw hx hi hti hk htj he hn (by rw [Nat.zero_add]; exact h)
theorem ap' {α : Type} [Cl α] {t te : TypeId} {x y : Operand} {b ver ln : Nat} {nw : Bool} {xs ys : List α} {ti tj : TI} (hw : Wt c ⟨tm, mem, nx⟩ ⟨some d, .call { callee := .builtin .append, args := #[x, y], argTypes := #[t, t] }, ty, ps, af, g⟩) (hx : (LS.mk tm mem nx).ev x = slV α b ver 0 ln) (hm : lget mem b = some (arrB te ver nw xs)) (hl : ln = xs.length)
  (hy : srcV (lget mem) (Cl.e α) ((LS.mk tm mem nx).ev y) = some (ys.length, ys.flatMap (Cl.c nw))) (hti : tiOf c.P t = some ti) (hk : ti.k = .sli te) (htj : tiOf c.P te = some tj) (he : (tj.size == Cl.e α && tj.zero.length == tj.size) = true)
  (hr : roomy (xs.length + ys.length) tj.bytes = true) (hc : lchk c.base c.masks c.kl i (b :: (refs1 ((LS.mk tm mem nx).ev y) ++ [])) = true)
  (h : RunC c (i + 1) l ⟨(d, slV α b (ver + 1) 0 (xs ++ ys).length) :: tm, (b, arrB te (ver + 1) nw (xs ++ ys)) :: mem, nx⟩ Q) : RunC c i (⟨some d, .call { callee := .builtin .append, args := #[x, y], argTypes := #[t, t] }, ty, ps, af, g⟩ :: l) ⟨tm, mem, nx⟩ Q := by
 subst hl; exact ap hw hx hm hy hti hk htj he hr hc h
theorem srcS' {α : Type} [Cl α] {mem : List (Nat × Blk)} {b ver te ln : Nat} {nw : Bool} {ys : List α} {v : V} (hv : v = slV α b ver 0 ln) (hm : lget mem b = some (arrB te ver nw ys)) (hl : ln = ys.length) : srcV (lget mem) (Cl.e α) v = some (ys.length, ys.flatMap (Cl.c nw)) := by
 subst hv hl; exact srcS hm
theorem srcR' {α : Type} [Cl α] {m : Nat → Option Blk} {nw : Bool} {ys : List α} {v : V} (hv : v = rowV nw ys) : srcV m (Cl.e α) v = some (ys.length, ys.flatMap (Cl.c nw)) := by subst hv; exact srcR
theorem srcN' {α : Type} [Cl α] {m : Nat → Option Blk} {nw : Bool} {v : V} (hv : v = .sc (.slice none 0 0)) : srcV m (Cl.e α) v = some (([] : List α).length, ([] : List α).flatMap (Cl.c nw)) := by subst hv; exact srcN
end
section
variable {P : Program} {r : Option Nat} {C : Cx} {tm : List (Nat × V)} {mem : List (Nat × Blk)} {nx : Nat} {Q : Exit → St → Prop} {x : Code}
theorem st_cons {t : Nat} {v : V} : (LS.mk ((t, v) :: tm) mem nx).slot = upd (LS.mk tm mem nx).slot t v := by
 funext j; unfold LS.slot upd; simp only [lget]
 by_cases h : t = j
 ·subst h; simp
 ·simp [h, Ne.symm h]
theorem lget_cons {b : Nat} {k : Blk} : lget ((b, k) :: mem) = upd (lget mem) b (some k) := by
 funext j; unfold upd; simp only [lget]
 by_cases h : b = j
 ·subst h; simp
 ·simp [h, Ne.symm h]
theorem AWP.nilT (α : Type) [Cl α] (t te : Nat) (ht : (LS.mk tm mem nx).slot t = .sc (.slice none 0 0)) (h : AWP P r C x (LS.mk ((t, slV α nx 0 0 0) :: tm) ((nx, arrB te 0 true ([] : List α)) :: mem) (nx + 1)).st Q) : AWP P r C x (LS.mk tm mem nx).st Q := by
 refine AWP.weaken (Weak.nilRow (C := C) (s := (LS.mk tm mem nx).st) t te (Cl.e α) Cl.pos ht) ?_
 have e : (LS.mk ((t, slV α nx 0 0 0) :: tm) ((nx, arrB te 0 true ([] : List α)) :: mem) (nx + 1)).st = { tm := upd (LS.mk tm mem nx).st.tm t (.sl (LS.mk tm mem nx).st.nx 0 (Cl.e α) 0 0), mem := upd (LS.mk tm mem nx).st.mem (LS.mk tm mem nx).st.nx (some (.arr te (Cl.e α) 0 [])), nx := (LS.mk tm mem nx).st.nx + 1 } := by
  unfold LS.st; rw [st_cons, lget_cons]; rfl
 rw [← e]; exact h
theorem AWP.nilB (α : Type) [Cl α] (b i te : Nat) {cs : List V} (hb : lget mem b = some (.box cs)) (hi : cs[i]? = some (.sc (.slice none 0 0))) {cs' : List V} (hc : cs.set i (slV α nx 0 0 0) = cs') (h : AWP P r C x (LS.mk tm ((b, .box cs') :: (nx, arrB te 0 true ([] : List α)) :: mem) (nx + 1)).st Q) : AWP P r C x (LS.mk tm mem nx).st Q := by
 subst hc
 refine AWP.weaken (Weak.nilRowIn (C := C) (s := (LS.mk tm mem nx).st) b i te (Cl.e α) cs Cl.pos hb hi) ?_
 have e : (LS.mk tm ((b, .box (cs.set i (slV α nx 0 0 0))) :: (nx, arrB te 0 true ([] : List α)) :: mem) (nx + 1)).st = { tm := (LS.mk tm mem nx).st.tm, mem := upd (upd (LS.mk tm mem nx).st.mem (LS.mk tm mem nx).st.nx (some (.arr te (Cl.e α) 0 []))) b (some (.box (cs.set i (.sl (LS.mk tm mem nx).st.nx 0 (Cl.e α) 0 0)))), nx := (LS.mk tm mem nx).st.nx + 1 } := by
  unfold LS.st; rw [lget_cons, lget_cons]; rfl
 rw [← e]; exact h
end
def gt {α : Type} [Cl α] (xs : List α) (i : Int) : α := xs.getD i.toNat Cl.d
abbrev w6 (n : Int) : Int := IntKind.wrap .i64 n
theorem w6_w6 (n : Int) : IntKind.wrap .i64 (IntKind.wrap .i64 n) = IntKind.wrap .i64 n := by
 rw [IntKind.wrap_i64, IntKind.wrap_i64]; omega
end Go.Abs
namespace Go.Abs
set_option linter.unusedVariables false
@[reducible] def iV (n : Int) : V := .sc (.int .i64 n)
@[reducible] def bV (b : Bool) : V := .sc (.bool b)
section
variable {H : Hw} {a b c d e f g h i : Value} {l l' : List V}
theorem Trs.c2 (k : Trs H l l') : Trs H (.sc a :: .sc b :: l) (.sc a :: .sc b :: l') := .cons (.sc _) (.cons (.sc _) k)
theorem Trs.c3 (k : Trs H l l') : Trs H (.sc a :: .sc b :: .sc c :: l) (.sc a :: .sc b :: .sc c :: l') := .cons (.sc _) (.cons (.sc _) (.cons (.sc _) k))
theorem Trs.c9 (k : Trs H l l') : Trs H (.sc a :: .sc b :: .sc c :: .sc d :: .sc e :: .sc f :: .sc g :: .sc h :: .sc i :: l) (.sc a :: .sc b :: .sc c :: .sc d :: .sc e :: .sc f :: .sc g :: .sc h :: .sc i :: l') := .c3 (.c3 (.c3 k))
theorem Trs.z2 : Trs H [.sc a, .sc b] [.sc a, .sc b] := .c2 .nil
theorem Trs.z3 : Trs H [.sc a, .sc b, .sc c] [.sc a, .sc b, .sc c] := .c3 .nil
theorem Trs.z9 : Trs H [.sc a, .sc b, .sc c, .sc d, .sc e, .sc f, .sc g, .sc h, .sc i] [.sc a, .sc b, .sc c, .sc d, .sc e, .sc f, .sc g, .sc h, .sc i] := .c9 .nil
end
section
variable {H : How} {a b c d e f g h i : Value} {l l' : List V}
theorem Lends.c2 (k : Lends H l l') : Lends H (.sc a :: .sc b :: l) (.sc a :: .sc b :: l') := .cons (.sc _) (.cons (.sc _) k)
theorem Lends.c3 (k : Lends H l l') : Lends H (.sc a :: .sc b :: .sc c :: l) (.sc a :: .sc b :: .sc c :: l') := .cons (.sc _) (.cons (.sc _) (.cons (.sc _) k))
theorem Lends.c9 (k : Lends H l l') : Lends H (.sc a :: .sc b :: .sc c :: .sc d :: .sc e :: .sc f :: .sc g :: .sc h :: .sc i :: l) (.sc a :: .sc b :: .sc c :: .sc d :: .sc e :: .sc f :: .sc g :: .sc h :: .sc i :: l') := .c3 (.c3 (.c3 k))
theorem Lends.z2 : Lends H [.sc a, .sc b] [.sc a, .sc b] := .c2 .nil
theorem Lends.z3 : Lends H [.sc a, .sc b, .sc c] [.sc a, .sc b, .sc c] := .c3 .nil
theorem Lends.z9 : Lends H [.sc a, .sc b, .sc c, .sc d, .sc e, .sc f, .sc g, .sc h, .sc i] [.sc a, .sc b, .sc c, .sc d, .sc e, .sc f, .sc g, .sc h, .sc i] := .c9 .nil
end
section
variable {c : RX} {i : Nat} {l : List Oper} {tm : List (Nat × V)} {mem : List (Nat × Blk)} {nx : Nat} {Q : LS → Prop} {d : Tmp} {op : Op} {ty : TypeId} {ps : String} {af : Array Edge} {g : Option (Nat × Bool)}
theorem pS {v : Value} (hq : (quietOp op, opFx c.P op (LS.mk tm mem nx).ev (lget mem)) = (true, fun _ => some ⟨.sc v, none⟩))
  (h : RunC c (i + 1) l ⟨(d, .sc v) :: tm, mem, nx⟩ Q) : RunC c i (⟨some d, op, ty, ps, af, none⟩ :: l) ⟨tm, mem, nx⟩ Q :=
 pu rfl (congrArg Prod.fst hq) (fun id => congrFun (congrArg Prod.snd hq) id) h
end
end Go.Abs
namespace Go.Abs
set_option linter.unusedVariables false
section
variable {P : Program} {r : Option Nat} {C : Cx} {s : St} {Q : Exit → St → Prop}
def AWPn (P : Program) (r : Option Nat) (C : Cx) (c : Code) (Q : Exit → St → Prop) : Nat → St → Prop
 | 0, _ => False
 | m + 1, s => AWP P r C c s (thn (AWPn P r C c Q m) Q)
theorem AWPn.go {c : Code} {m : Nat} (h : AWP P r C c s (thn (AWPn P r C c Q m) Q)) : AWPn P r C c Q (m + 1) s := h
theorem rounds_mono {F : Fence} {n : Nat} {c : Code} {Q Q' : Exit → Act → World → Prop} (hq : ∀ e a w, Q e a w → Q' e a w) : ∀ (m : Nat) {a : Act} {w : World}, Code.roundsIn F n P c Q m a w → Code.roundsIn F n P c Q' m a w
 | 0, _, _, h => h
 | m + 1, a, w, h => wpIn_mono h fun e a w q => by
  cases e with
  | normal => exact rounds_mono hq m q
  | _ => exact hq _ _ _ q
theorem AWPn.rounds {c : Code} : ∀ (m : Nat) {s : St}, AWPn P r C c Q m s → ∀ (E : Env) (a : Act) (W : World), Inv C E s a W → Code.roundsIn (fe r) 0 P c (fun e a' W' => ∃ E' s', E.lep C.p E' ∧ Inv C E' s' a' W' ∧ Q e s') m a W
 | 0, _, h, _, _, _, _ => h.elim
 | m + 1, s, h, E, a, W, hI => wpIn_mono (h E a W hI) fun e a' W' ⟨E', s', h1, h2, h3⟩ => by
  cases e with
  | normal => exact rounds_mono (fun e a2 W2 ⟨E2, s2, g1, g2, g3⟩ => ⟨E2, s2, Env.lep_trans h1 g1, g2, g3⟩) m (AWPn.rounds m h3 E' a' W' h2)
  | _ => exact ⟨E', s', h1, h2, h3⟩
theorem AWP.loopN {c : Code} (m : Nat) (h : AWPn P r C c Q m s) : AWP P r C (.loop c) s Q := fun E a W hI => wpIn_loop_rounds m (AWPn.rounds m h E a W hI)
end
section
variable {c : RX} {i : Nat} {l : List Oper} {tm : List (Nat × V)} {mem : List (Nat × Blk)} {nx : Nat} {Q : LS → Prop} {d : Tmp} {ty : TypeId} {ps : String} {af : Array Edge} {g : Option (Nat × Bool)}
theorem bsP {t te : TypeId} {len : Nat} {parts : Array (Nat × Operand)} {ti tj : TI} {cs : List V} (id : Nat) (hw : Wt c ⟨tm, mem, nx⟩ ⟨some d, .buildSlice t len parts, ty, ps, af, g⟩) (hid : c.base + 4 * i = id) (hti : tiOf c.P t = some ti) (hk : ti.k = .sli te) (htj : tiOf c.P te = some tj)
  (he : (tj.size == 1) = true) (hsz : Nat.ble (len * tj.size) 16777216 = true) (hz : (tj.zero.all Value.flat1 && tj.zero.length == tj.size) = true)
  (hf : fillV (fun i => some (i * tj.size, tj.size)) ((List.replicate len (tj.zero.map V.sc)).flatten) (parts.toList.map fun p => (p.1, (LS.mk tm mem nx).ev p.2)) = some cs)
  (h : RunC c (i + 1) l ⟨(d, slV Int id 0 0 len) :: tm, (id, .arr te 1 0 cs) :: mem, nx⟩ Q) : RunC c i (⟨some d, .buildSlice t len parts, ty, ps, af, g⟩ :: l) ⟨tm, mem, nx⟩ Q :=
 newC hw rfl hid (by
  have he' : tj.size = 1 := by simpa using he
  have hsz' := Nat.le_of_ble_eq_true hsz
  simp only [Bool.and_eq_true, beq_iff_eq] at hz
  simp only [opFx, fxBuildSlice, tkAt, hti, Option.map_some, hk, htj, hf]
  rw [if_pos ⟨by omega, hsz', hz.1, hz.2⟩]
  simp only [slV, he']
  rfl) h
theorem ldPA {t : TypeId} {a : Operand} {v : V} {b o te e : Nat} {cs : List V} {ti : TI} (hw : Wt c ⟨tm, mem, nx⟩ ⟨some d, .load t a, ty, ps, af, g⟩) (hx : (LS.mk tm mem nx).ev a = .ptr b 0 o) (hm : lget mem b = some (.arr te e 0 cs)) (hti : tiOf c.P t = some ti)
  (hl : loadV ti (cs.drop o) = some v) (hc : lchk c.base c.masks c.kl i [b] = true) (h : RunC c (i + 1) l ⟨(d, v) :: tm, mem, nx⟩ Q) : RunC c i (⟨some d, .load t a, ty, ps, af, g⟩ :: l) ⟨tm, mem, nx⟩ Q :=
 loadC hw (by rw [hx]; simp only [fxLoad, hti, hm, Blk.hasVer, beq_self_eq_true, if_true, Blk.cells, hl]; rfl) (by rw [hx]; exact hc) h
end
end Go.Abs
