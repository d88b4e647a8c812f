/- Laws about heaps and calls that the walks use. Conditions: as each theorem states them. -/
import Derived.Test.YtdihhgkihbnnoaaAbsI
namespace Go.Abs
set_option linter.unusedVariables false
set_option linter.unusedSimpArgs false

mutual
def V.fresh : V → Bool
  | .sc _ => true
  | .agg cs => V.freshs cs
  | .tup cs => V.freshs cs
  | .lst new _ _ cs => new && V.freshs cs
  | .rp _ => false
  | .sl .. => false
  | .ptr .. => false
  | .fn _ cs => V.freshs cs
  | .any => true
def V.freshs : List V → Bool
  | [] => true
  | x :: xs => V.fresh x && V.freshs xs
end

mutual
theorem RL.fresh {E E2 : Env} (hn : E2.n0 ≤ E.n0) (hF : ∀ B o d, E.n0 ≤ B → E.F B o = some d → E2.F B o = some d) : ∀ (v : V) (c : Value), V.fresh v = true → RL E v c → RL E2 v c
  | .sc v, c, f, r => by simpa only [RL] using r
  | .agg cs, c, f, r => by
    simp only [RL] at r ⊢
    simp only [V.fresh] at f
    obtain ⟨ds, rfl, r1, r2⟩ := r
    exact ⟨ds, rfl, RLs.fresh hn hF cs ds f r1, r2⟩
  | .tup cs, c, f, r => by
    simp only [RL] at r ⊢
    simp only [V.fresh] at f
    obtain ⟨ds, rfl, r1⟩ := r
    exact ⟨ds, rfl, RLs.fresh hn hF cs ds f r1⟩
  | .lst new e n cs, c, f, r => by
    simp only [RL] at r ⊢
    simp only [V.fresh, Bool.and_eq_true] at f
    obtain ⟨a, cap, rfl, r1, r2, r3, r4⟩ := r
    refine ⟨a, cap, rfl, r1, r2, r3, ?_⟩
    rcases r4 with r4 | ⟨B, o, rfl, r5, r6⟩
    · exact .inl r4
    · exact .inr ⟨B, o, rfl, fun q => Nat.le_trans hn (r5 q), RF.fresh hn hF B (r5 f.1) cs o f.2 r6⟩
  | .rp _, c, f, r => by simp [V.fresh] at f
  | .sl .., c, f, r => by simp [V.fresh] at f
  | .ptr .., c, f, r => by simp [V.fresh] at f
  | .fn g cs, c, f, r => by
    simp only [RL] at r ⊢
    simp only [V.fresh] at f
    obtain ⟨ds, rfl, r1⟩ := r
    exact ⟨ds, rfl, RLs.fresh hn hF cs ds f r1⟩
  | .any, c, f, r => by simp only [RL]
theorem RLs.fresh {E E2 : Env} (hn : E2.n0 ≤ E.n0) (hF : ∀ B o d, E.n0 ≤ B → E.F B o = some d → E2.F B o = some d) : ∀ (vs : List V) (ds : List Value), V.freshs vs = true → RLs E vs ds → RLs E2 vs ds
  | [], ds, f, r => by simpa only [RLs] using r
  | x :: xs, ds, f, r => by
    simp only [RLs] at r ⊢
    simp only [V.freshs, Bool.and_eq_true] at f
    obtain ⟨d, ds', rfl, r1, r2⟩ := r
    exact ⟨d, ds', rfl, RL.fresh hn hF x d f.1 r1, RLs.fresh hn hF xs ds' f.2 r2⟩
theorem RF.fresh {E E2 : Env} (hn : E2.n0 ≤ E.n0) (hF : ∀ B o d, E.n0 ≤ B → E.F B o = some d → E2.F B o = some d) (B : Nat) (hB : E.n0 ≤ B) : ∀ (vs : List V) (o : Nat), V.freshs vs = true → RF E B o vs → RF E2 B o vs
  | [], o, f, r => by simp only [RF]
  | x :: xs, o, f, r => by
    simp only [RF] at r ⊢
    simp only [V.freshs, Bool.and_eq_true] at f
    obtain ⟨⟨d, r1, r2⟩, r3⟩ := r
    exact ⟨⟨d, hF B o d hB r1, RL.fresh hn hF x d f.1 r2⟩, RF.fresh hn hF B hB xs (o + 1) f.2 r3⟩
end

/-! ### what a function does, said of values -/
def cx (W : World) (S : Nat → Prop) (p : Nat) (F : Nat → Nat → Option Value) : Cx := ⟨W, S, p, F, 0, []⟩
def FnM (P : Program) (f : FuncId) (p : Nat) (m : Nat → Option Blk) (args : List V) (Q : V → (Nat → Option Blk) → Prop) : Prop :=
  ∀ (E : Env) (W : World) (S : Nat → Prop) (cargs : List Value), InvM (cx W S p E.F) E m p W → RLs E args cargs →
    Calls P f cargs.toArray W fun e W' => ∃ c E' res m' nx', e = .returned c ∧ E.le E' ∧ InvM (cx W S p E.F) E' m' nx' W' ∧ RL E' res c ∧ Q res m'
def none' : Nat → Option Blk := fun _ => none
def FnP (P : Program) (f : FuncId) (args : List V) (res : V) : Prop := FnM P f 0 none' args fun r m' => r = res ∧ m' = none'

def killed (L : Nat → Bool) (mem : Nat → Option Blk) : Nat → Option Blk := fun b => if L b then (mem b).map fun _ => Blk.dead else mem b
theorem killed_none (mem : Nat → Option Blk) : killed (fun _ => false) mem = mem := by funext b; simp [killed]

section
variable {P : Program} {C : Cx} {E : Env} {mem : Nat → Option Blk} {nx : Nat} {W : World}

theorem InvM.view (h : InvM C E mem nx W) (L : Nat → Bool) : InvM (cx W (fun _ => False) 0 (E.view W L 0 id W.heap.size).F) (E.view W L 0 id W.heap.size) none' 0 W where
  n0 := rfl
  frz := fun B o d hF => by
    simp only [Env.view] at hF
    unfold lentF at hF
    split at hF
    · rename_i d' hd; cases hF; exact h.frz B o d hd
    · split at hF
      · exact hF
      · cases hF
  blk := fun b k hk => by cases hk
  dom := fun b I hI => by simp [Env.view] at hI
  nx := fun b k hk => by cases hk
  inj := fun b b' I I' B h1 => by simp [Env.view] at h1
  sep := fun b I B h1 => by simp [Env.view] at h1
  own := fun b I B h1 => by simp [Env.view] at h1
  old := fun B o hB => rfl
  keep := Keeps.refl _ _

/-- Behind a call of a function that touches nothing of ours: what was lent is ours again. -/
theorem InvM.back (h : InvM C E mem nx W) {L : Nat → Bool} {E' : Env} {m' : Nat → Option Blk} {nx' : Nat} {W' : World} (hle : (E.view W L 0 id W.heap.size).le E')
    (h' : InvM (cx W (fun _ => False) 0 (E.view W L 0 id W.heap.size).F) E' m' nx' W') :
    ∃ E2, E.le E2 ∧ InvM C E2 mem nx W' ∧ E2.n0 ≤ E'.n0 ∧ ∀ B o d, E'.n0 ≤ B → E'.F B o = some d → E2.F B o = some d := by
  have hn0 : E'.n0 = W.heap.size := h'.n0
  have hF : ∀ B o d, E.F B o = some d → B < W.heap.size := fun B o d hd => World.block_lt_of_cell? W _ (h.frz B o d hd)
  have same : ∀ B, B < W.heap.size → W'.heap[B]? = W.heap[B]? := fun B hB => h'.keep.block B hB (fun x => x)
  refine ⟨⟨E.n0, fun B o => if B < W.heap.size then E.F B o else E'.F B o, E.σ⟩, ⟨Nat.le_refl _, fun B o d hd => by simp [hF B o d hd, hd], fun b I hI => ⟨I, hI, I.le_refl⟩⟩, ?_, by rw [hn0, h.n0]; exact h.keep.size, fun B o d hB hd => by
    rw [hn0] at hB; simp only []; rw [if_neg (by omega)]; exact hd⟩
  have hE : E.le ⟨E.n0, fun B o => if B < W.heap.size then E.F B o else E'.F B o, E.σ⟩ := ⟨Nat.le_refl _, fun B o d hd => by simp [hF B o d hd, hd], fun b I hI => ⟨I, hI, I.le_refl⟩⟩
  refine ⟨h.n0, ?_, ?_, h.dom, h.nx, h.inj, ?_, h.own, ?_, ?_⟩
  · intro B o d hd
    simp only [] at hd
    split at hd
    · rename_i hB
      rw [← h.frz B o d hd]
      exact World.cell?_of_block (same B hB)
    · exact h'.frz B o d hd
  · intro b k hk
    obtain ⟨I, h1, h2⟩ := h.blk b k hk
    refine ⟨I, h1, ?_⟩
    by_cases hd : I.dead = true
    · cases k with
      | dead => exact hd
      | box cs => obtain ⟨h3, _⟩ := h2; rw [hd] at h3; cases h3
      | arr te e ver cs => obtain ⟨h3, _⟩ := h2; rw [hd] at h3; cases h3
    · exact h2.mono hE fun B hB => same B (h2.lt (by simpa using hd) hB)
  · intro b I B h1 h2 h3 o
    simp only []
    rw [if_pos (h.lt h1 h2 h3)]
    exact h.sep b I B h1 h2 h3 o
  · intro B o hB
    have := h.keep.size
    simp only []
    rw [if_pos (by omega)]
    exact h.old B o hB
  · refine ⟨h'.keep.os.trans h.keep.os, h'.keep.tape.trans h.keep.tape, h'.keep.output.trans h.keep.output, Nat.le_trans h.keep.size h'.keep.size, fun k hk hS => ?_⟩
    rw [← h.keep.block k hk hS]
    exact same k (Nat.lt_of_lt_of_le hk h.keep.size)

/-- Behind such a call whose result may share what was lent: it is nobody's own any more. -/
theorem InvM.shared (h : InvM C E mem nx W) {L : Nat → Bool} (hL : ∀ b, L b = true → C.p ≤ b) {E' : Env} {nx' : Nat} {W' : World} (hle : (E.view W L 0 id W.heap.size).le E')
    (h' : InvM (cx W (fun _ => False) 0 (E.view W L 0 id W.heap.size).F) E' none' nx' W') :
    ∃ E2, E.le E2 ∧ InvM C E2 (killed L mem) nx W' ∧ E'.le E2 := by
  have hn0 : E'.n0 = W.heap.size := h'.n0
  have hσ : ∀ b, E'.σ b = none := fun b => by
    cases hs : E'.σ b with
    | none => rfl
    | some I => obtain ⟨k, hk⟩ := h'.dom b I hs; cases hk
  have same : ∀ B, B < W.heap.size → W'.heap[B]? = W.heap[B]? := fun B hB => h'.keep.block B hB (fun x => x)
  have hFo : ∀ B o, B < W.heap.size → E'.F B o = lentF E W L B o := fun B o hB => h'.old B o hB
  have hFE : ∀ B o d, E.F B o = some d → E'.F B o = some d := fun B o d hd => hle.F B o d (lentF_le _ _ _ hd)
  have hE : E.le ⟨E.n0, E'.F, fun b => if L b then (E.σ b).map fun I => { I with dead := true } else E.σ b⟩ := ⟨Nat.le_refl _, hFE, fun b I hI => by
    by_cases hb : L b = true
    · exact ⟨{ I with dead := true }, by simp [hb, hI], .inr (.inl rfl)⟩
    · exact ⟨I, by simp [hb, hI], I.le_refl⟩⟩
  refine ⟨_, hE, ?_, ⟨by rw [hn0, h.n0]; exact h.keep.size, fun B o d hd => hd, fun b I hI => by rw [hσ] at hI; cases hI⟩⟩
  have live : ∀ b I, (if L b then (E.σ b).map fun I => { I with dead := true } else E.σ b) = some I → I.dead = false → L b = false ∧ E.σ b = some I := by
    intro b I hI hd
    by_cases hb : L b = true
    · rw [if_pos hb] at hI
      cases hs : E.σ b with
      | none => rw [hs] at hI; cases hI
      | some J => rw [hs] at hI; simp at hI; subst hI; cases hd
    · rw [if_neg hb] at hI; exact ⟨by simpa using hb, hI⟩
  refine ⟨h.n0, h'.frz, ?_, ?_, ?_, ?_, ?_, ?_, ?_, ?_⟩
  · intro b k hk
    unfold killed at hk
    by_cases hb : L b = true
    · rw [if_pos hb] at hk
      cases hm : mem b with
      | none => rw [hm] at hk; cases hk
      | some k0 =>
        rw [hm] at hk; simp at hk; subst hk
        obtain ⟨I, h1, h2⟩ := h.blk b k0 hm
        exact ⟨{ I with dead := true }, by simp [hb, h1], rfl⟩
    · rw [if_neg hb] at hk
      obtain ⟨I, h1, h2⟩ := h.blk b k hk
      refine ⟨I, by simp [hb, h1], ?_⟩
      by_cases hd : I.dead = true
      · cases k with
        | dead => exact hd
        | box cs => obtain ⟨h3, _⟩ := h2; rw [hd] at h3; cases h3
        | arr te e ver cs => obtain ⟨h3, _⟩ := h2; rw [hd] at h3; cases h3
      · exact h2.mono hE fun B hB => same B (h2.lt (by simpa using hd) hB)
  · intro b I hI
    simp only [] at hI
    unfold killed
    by_cases hb : L b = true
    · rw [if_pos hb] at hI ⊢
      cases hs : E.σ b with
      | none => rw [hs] at hI; cases hI
      | some J =>
        obtain ⟨k, hk⟩ := h.dom b J hs
        exact ⟨.dead, by rw [hk]; rfl⟩
    · rw [if_neg hb] at hI ⊢
      exact h.dom b I hI
  · intro b k hk
    unfold killed at hk
    by_cases hb : L b = true
    · rw [if_pos hb] at hk
      cases hm : mem b with
      | none => rw [hm] at hk; cases hk
      | some k0 => exact h.nx b k0 hm
    · rw [if_neg hb] at hk; exact h.nx b k hk
  · intro b b' I I' B h1 h2 h3 h4 h5 h6
    exact h.inj b b' I I' B (live b I h1 h3).2 (live b' I' h2 h4).2 h3 h4 h5 h6
  · intro b I B h1 h2 h3 o
    obtain ⟨l1, l2⟩ := live b I h1 h2
    have hB := h.lt l2 h2 h3
    show E'.F B o = none
    rw [hFo B o hB]
    unfold lentF
    rw [h.sep b I B l2 h2 h3 o]
    simp only []
    rw [if_neg]
    rintro ⟨b', I', g1, g2, g3, g4⟩
    have := h.inj b b' I I' B l2 g2 h2 g3 h3 g4
    subst this
    rw [l1] at g1; cases g1
  · intro b I B h1 h2 h3
    exact h.own b I B (live b I h1 h2).2 h2 h3
  · intro B o hB
    have hsz := h.keep.size
    show E'.F B o = _
    rw [hFo B o (by omega), ← h.old B o hB]
    unfold lentF
    cases hf : E.F B o with
    | some d => rfl
    | none =>
      simp only []
      rw [if_neg]
      rintro ⟨b', I', g1, g2, g3, g4⟩
      rcases h.own b' I' B g2 g3 g4 with g5 | ⟨g5, _⟩
      · omega
      · have := hL b' g1; omega
  · refine ⟨h'.keep.os.trans h.keep.os, h'.keep.tape.trans h.keep.tape, h'.keep.output.trans h.keep.output, Nat.le_trans h.keep.size h'.keep.size, fun k hk hS => ?_⟩
    rw [← h.keep.block k hk hS]
    exact same k (Nat.lt_of_lt_of_le hk h.keep.size)
end
end Go.Abs

namespace Go.Abs
inductive BLend (H : How) : Blk → Blk → Prop
  | box {cs cs' : List V} : Lends H cs cs' → cs'.all V.leaf = true → BLend H (.box cs) (.box cs')
  | arr {te e ver : Nat} {cs cs' : List V} : Lends H cs cs' → cs'.all V.leaf = true → BLend H (.arr te e ver cs) (.arr te e ver cs')


theorem BLend.ok {C : Cx} {E : Env} {mem : Nat → Option Blk} {nx : Nat} {W : World} {H : How} {n : Nat} (hmem : H.mem = mem) (h : InvM C E mem nx W) (htg : ∀ x, H.tg x = true → x = true ∧ n ≤ E.n0)
    (htn : H.tn = true → ∀ b I B, H.L b = true → E.σ b = some I → I.dead = false → I.blk = some B → n ≤ B) {k k' : Blk} (hl : BLend H k k') {I : Info} (hk : BlkOK E W I k) : BlkOK (E.view W H.L H.p H.ids n) W I k' := by
  cases hl with
  | box l hl =>
    obtain ⟨h1, h2, h3, B, cur, t, h4, h5, h6, h7, h8⟩ := hk
    exact ⟨h1, h2, h3, B, cur, t, h4, h5, by rw [l.length]; exact h6, hl, by rw [l.length]; exact Lends.ok hmem h htg htn l _ h8⟩
  | arr l hl =>
    obtain ⟨h1, h2, h3, h4, h5, ⟨m, h6⟩, h7⟩ := hk
    refine ⟨h1, h2, h3, h4, hl, ⟨m, by rw [l.length]; exact h6⟩, ?_⟩
    rcases h7 with ⟨h7, h8⟩ | ⟨B, cur, a1, a2, a3, a4, a5, a6⟩
    · subst h8
      cases l
      exact .inl ⟨h7, rfl⟩
    · exact .inr ⟨B, cur, a1, a2, a3, a4, by rw [l.length]; exact a5, by rw [l.length]; exact Lends.ok hmem h htg htn l _ a6⟩


/-! ### blocks that are handed to a function, which changes them -/
mutual
def V.ren (r : Nat → Nat) : V → V
  | .sc v => .sc v
  | .agg cs => .agg (V.rens r cs)
  | .tup cs => .tup (V.rens r cs)
  | .lst new e n cs => .lst new e n (V.rens r cs)
  | .rp cs => .rp (V.rens r cs)
  | .sl b v e o l => .sl (r b) v e o l
  | .ptr b v o => .ptr (r b) v o
  | .fn f cs => .fn f (V.rens r cs)
  | .any => .any
def V.rens (r : Nat → Nat) : List V → List V
  | [] => []
  | x :: xs => V.ren r x :: V.rens r xs
end
def Blk.ren (r : Nat → Nat) : Blk → Blk
  | .box cs => .box (V.rens r cs)
  | .arr te e v cs => .arr te e v (V.rens r cs)
  | .dead => .dead
theorem V.ren_leaf (r : Nat → Nat) (v : V) : (v.ren r).leaf = v.leaf := by cases v <;> simp [V.ren, V.leaf]
theorem V.rens_leaf (r : Nat → Nat) : ∀ (vs : List V), (V.rens r vs).all V.leaf = vs.all V.leaf
  | [] => by simp [V.rens]
  | v :: vs => by simp [V.rens, V.ren_leaf, V.rens_leaf r vs]
theorem V.rens_length (r : Nat → Nat) : ∀ (vs : List V), (V.rens r vs).length = vs.length
  | [] => by simp [V.rens]
  | v :: vs => by simp [V.rens, V.rens_length r vs]
mutual
theorem RL.ren {E E2 : Env} {r : Nat → Nat} (hn : E2.n0 ≤ E.n0) (hF : ∀ B o d, E.F B o = some d → E2.F B o = some d) (hσ : ∀ b I, E.σ b = some I → E2.σ (r b) = some I) : ∀ (v : V) (c : Value), RL E v c → RL E2 (v.ren r) c
  | .sc v, c, h => by simpa only [V.ren, RL] using h
  | .agg cs, c, h => by
    simp only [V.ren, RL] at h ⊢
    obtain ⟨ds, rfl, r1, r2⟩ := h
    exact ⟨ds, rfl, RLs.ren hn hF hσ cs ds r1, by rw [V.rens_leaf]; exact r2⟩
  | .tup cs, c, h => by
    simp only [V.ren, RL] at h ⊢
    obtain ⟨ds, rfl, r1⟩ := h
    exact ⟨ds, rfl, RLs.ren hn hF hσ cs ds r1⟩
  | .lst new e m cs, c, h => by
    simp only [V.ren, RL] at h ⊢
    obtain ⟨a, cap, rfl, r1, r2, r3, r4⟩ := h
    refine ⟨a, cap, rfl, r1, by rw [V.rens_length]; exact r2, by rw [V.rens_leaf]; exact r3, ?_⟩
    rcases r4 with r4 | ⟨B, o, rfl, r5, r6⟩
    · exact .inl r4
    · exact .inr ⟨B, o, rfl, fun q => Nat.le_trans hn (r5 q), RF.ren hn hF hσ B cs o r6⟩
  | .rp cs, c, h => by
    simp only [V.ren, RL] at h ⊢
    obtain ⟨B, o, rfl, r1, r2⟩ := h
    exact ⟨B, o, rfl, RF.ren hn hF hσ B cs o r1, by rw [V.rens_leaf]; exact r2⟩
  | .sl b ver e off len, c, h => by
    simp only [V.ren, RL] at h ⊢
    obtain ⟨a, cap, rfl, q1, q2, q3, I, h1, h2⟩ := h
    exact ⟨a, cap, rfl, q1, q2, q3, I, hσ b I h1, h2⟩
  | .ptr b ver o, c, h => by
    simp only [V.ren, RL] at h ⊢
    obtain ⟨B, rfl, I, h1, h2⟩ := h
    exact ⟨B, rfl, I, hσ b I h1, h2⟩
  | .fn g cs, c, h => by
    simp only [V.ren, RL] at h ⊢
    obtain ⟨ds, rfl, r1⟩ := h
    exact ⟨ds, rfl, RLs.ren hn hF hσ cs ds r1⟩
  | .any, c, h => by simp only [V.ren, RL]
theorem RLs.ren {E E2 : Env} {r : Nat → Nat} (hn : E2.n0 ≤ E.n0) (hF : ∀ B o d, E.F B o = some d → E2.F B o = some d) (hσ : ∀ b I, E.σ b = some I → E2.σ (r b) = some I) : ∀ (vs : List V) (ds : List Value), RLs E vs ds → RLs E2 (V.rens r vs) ds
  | [], ds, h => by simpa only [V.rens, RLs] using h
  | x :: xs, ds, h => by
    simp only [V.rens, RLs] at h ⊢
    obtain ⟨d, ds', rfl, r1, r2⟩ := h
    exact ⟨d, ds', rfl, RL.ren hn hF hσ x d r1, RLs.ren hn hF hσ xs ds' r2⟩
theorem RF.ren {E E2 : Env} {r : Nat → Nat} (hn : E2.n0 ≤ E.n0) (hF : ∀ B o d, E.F B o = some d → E2.F B o = some d) (hσ : ∀ b I, E.σ b = some I → E2.σ (r b) = some I) (B : Nat) : ∀ (vs : List V) (o : Nat), RF E B o vs → RF E2 B o (V.rens r vs)
  | [], o, h => by simp only [V.rens, RF]
  | x :: xs, o, h => by
    simp only [V.rens, RF] at h ⊢
    obtain ⟨⟨d, r1, r2⟩, r3⟩ := h
    exact ⟨⟨d, hF B o d r1, RL.ren hn hF hσ x d r2⟩, RF.ren hn hF hσ B xs (o + 1) r3⟩
end
theorem BlkOK.ren {E E2 : Env} {r : Nat → Nat} (hn : E2.n0 ≤ E.n0) (hF : ∀ B o d, E.F B o = some d → E2.F B o = some d) (hσ : ∀ b I, E.σ b = some I → E2.σ (r b) = some I) {W : World} {I : Info} {k : Blk} (h : BlkOK E W I k) : BlkOK E2 W I (k.ren r) := by
  cases k with
  | dead => exact h
  | box cs =>
    obtain ⟨h1, h2, h3, B, cur, t, h4, h5, h6, h7, h8⟩ := h
    exact ⟨h1, h2, h3, B, cur, t, h4, h5, by rw [V.rens_length]; exact h6, by rw [V.rens_leaf]; exact h7, by rw [V.rens_length]; exact RLs.ren hn hF hσ _ _ h8⟩
  | arr te e ver cs =>
    obtain ⟨h1, h2, h3, h4, h5, h6, h7⟩ := h
    refine ⟨h1, h2, h3, h4, by rw [V.rens_leaf]; exact h5, by rw [V.rens_length]; exact h6, ?_⟩
    rcases h7 with ⟨h7, h8⟩ | ⟨B, cur, a1, a2, a3, a4, a5, a6⟩
    · subst h8; exact .inl ⟨h7, rfl⟩
    · exact .inr ⟨B, cur, a1, a2, a3, a4, by rw [V.rens_length]; exact a5, by rw [V.rens_length]; exact RLs.ren hn hF hσ _ _ a6⟩

/-- A function that is handed blocks: what they are behind it; it may make one more. -/
def FnD (P : Program) (f : FuncId) (bs : List Blk) (args : List V) (res : V) (bs' : List Blk) : Prop :=
  FnM P f bs.length (fun j => bs[j]?) args fun r m' => r = res ∧ m' = fun j => bs'[j]?
def passHow (mem : Nat → Option Blk) (bs : List Nat) : How := ⟨mem, fun _ => false, fun j => bs.getD j 0, bs.length, fun _ => false, false⟩
def passIds (bs : List Nat) (id : Nat) : Nat → Nat := fun j => bs.getD j id
def passUps (r : Nat → Nat) : Nat → List Blk → List (Nat × Blk)
  | _, [] => []
  | j, k :: ks => (r j, k.ren r) :: passUps r (j + 1) ks

section
variable {P : Program} {C : Cx} {E : Env} {mem : Nat → Option Blk} {nx : Nat} {W : World}
theorem nodup_inj {l : List Nat} (h : l.Nodup) {i j : Nat} {hi : i < l.length} {hj : j < l.length} (e : l[i] = l[j]) : i = j := by
  have := List.pairwise_iff_getElem.1 h
  rcases Nat.lt_trichotomy i j with q | q | q
  · exact absurd e (this i j hi hj q)
  · exact q
  · exact absurd e.symm (this j i hj hi q)
def passS (E : Env) (bs : List Nat) (B : Nat) : Prop := ∃ b I, b ∈ bs ∧ E.σ b = some I ∧ I.dead = false ∧ I.blk = some B
theorem lentF_no (E : Env) (W : World) : lentF E W (fun _ => false) = E.F := by
  funext B o
  unfold lentF
  cases E.F B o with
  | some d => rfl
  | none => simp

theorem InvM.into (h : InvM C E mem nx W) {bs : List Nat} (hnd : bs.Nodup) {m : List Blk} (hlen : m.length = bs.length) (hm : ∀ j k', m[j]? = some k' → ∃ k, mem (bs.getD j 0) = some k ∧ BLend (passHow mem bs) k k') :
    InvM (cx W (passS E bs) bs.length (E.view W (fun _ => false) bs.length (fun j => bs.getD j 0) W.heap.size).F) (E.view W (fun _ => false) bs.length (fun j => bs.getD j 0) W.heap.size) (fun j => m[j]?) bs.length W where
  n0 := rfl
  frz := fun B o d hF => by
    simp only [Env.view, lentF_no] at hF
    exact h.frz B o d hF
  blk := fun j k' hk' => by
    obtain ⟨k, e1, e2⟩ := hm j k' hk'
    obtain ⟨I, g1, g2⟩ := h.blk _ _ e1
    have hj : j < bs.length := by rw [← hlen]; exact (List.getElem?_eq_some_iff.1 hk').1
    exact ⟨I, by show (if j < bs.length then E.σ (bs.getD j 0) else none) = some I; rw [if_pos hj]; exact g1, BLend.ok (H := passHow mem bs) rfl h (fun x hx => by simp [passHow] at hx) (fun hx => by simp [passHow] at hx) e2 g2⟩
  dom := fun j I hI => by
    simp only [Env.view] at hI
    split at hI
    · rename_i hj; exact ⟨m[j], by simp [hlen, hj]⟩
    · cases hI
  nx := fun j k hk => by rw [← hlen]; exact (List.getElem?_eq_some_iff.1 hk).1
  inj := fun i j I J B h1 h2 h3 h4 h5 h6 => by
    simp only [Env.view] at h1 h2
    split at h1
    · rename_i hi
      split at h2
      · rename_i hj
        have := h.inj _ _ I J B h1 h2 h3 h4 h5 h6
        simp only [List.getD_eq_getElem?_getD, List.getElem?_eq_getElem hi, List.getElem?_eq_getElem hj, Option.getD_some] at this
        exact nodup_inj hnd this
      · cases h2
    · cases h1
  sep := fun j I B h1 h2 h3 o => by
    simp only [Env.view] at h1
    split at h1
    · simp only [Env.view, lentF_no]; exact h.sep _ I B h1 h2 h3 o
    · cases h1
  own := fun j I B h1 h2 h3 => by
    simp only [Env.view] at h1
    split at h1
    · rename_i hj
      refine .inr ⟨hj, bs.getD j 0, I, ?_, h1, h2, h3⟩
      simp [List.getElem?_eq_getElem hj]
    · cases h1
  old := fun B o hB => rfl
  keep := Keeps.refl _ _

theorem passUps_get (r : Nat → Nat) : ∀ (ks : List Blk) (j0 : Nat) (m : Nat → Option Blk) (b : Nat), (∀ i j, j0 ≤ i → i < j0 + ks.length → j0 ≤ j → j < j0 + ks.length → r i = r j → i = j) →
    (∀ j k, ks[j]? = some k → b = r (j0 + j) → (passUps r j0 ks).foldl (fun m p => fun i => if i = p.1 then some p.2 else m i) m b = some (k.ren r)) ∧
    ((∀ j, j < ks.length → b ≠ r (j0 + j)) → (passUps r j0 ks).foldl (fun m p => fun i => if i = p.1 then some p.2 else m i) m b = m b)
  | [], j0, m, b, _ => ⟨fun j k hk => by simp at hk, fun _ => rfl⟩
  | k0 :: ks, j0, m, b, hinj => by
    have hi' : ∀ i j, j0 + 1 ≤ i → i < j0 + 1 + ks.length → j0 + 1 ≤ j → j < j0 + 1 + ks.length → r i = r j → i = j := fun i j h1 h2 h3 h4 => hinj i j (by omega) (by simp; omega) (by omega) (by simp; omega)
    obtain ⟨ih1, ih2⟩ := passUps_get r ks (j0 + 1) (fun i => if i = r j0 then some (k0.ren r) else m i) b hi'
    refine ⟨fun j k hk hb => ?_, fun hne => ?_⟩
    · unfold passUps
      rw [List.foldl_cons]
      cases j with
      | zero =>
        simp at hk; subst hk
        rw [ih2]
        · simp [hb]
        · intro j hj e
          have := hinj j0 (j0 + 1 + j) (by omega) (by simp) (by omega) (by simp; omega) (by rw [← e, hb]; rfl)
          omega
      | succ j =>
        simp at hk
        exact ih1 j k hk (by rw [hb]; congr 1; omega)
    · unfold passUps
      rw [List.foldl_cons]
      rw [ih2]
      · have := hne 0 (by simp)
        simp at this
        simp [this]
      · intro j hj e
        exact hne (j + 1) (by simp; omega) (by rw [e]; congr 1; omega)

open Classical in
theorem InvM.outof (h : InvM C E mem nx W) {bs : List Nat} {id : Nat} (hnd : bs.Nodup) (hsome : ∀ b ∈ bs, (mem b).isSome = true) (hid : mem id = none) (hlt : id < nx) (hside : (∀ b ∈ bs, b < C.p) ∨ ∀ b ∈ bs, C.p ≤ b) {m' : List Blk} (hl1 : bs.length ≤ m'.length) (hl2 : m'.length ≤ bs.length + 1)
    {E' : Env} {nx' : Nat} {W' : World} (hle : (E.view W (fun _ => false) bs.length (fun j => bs.getD j 0) W.heap.size).le E')
    (h' : InvM (cx W (passS E bs) bs.length (E.view W (fun _ => false) bs.length (fun j => bs.getD j 0) W.heap.size).F) E' (fun j => m'[j]?) nx' W') :
    ∃ E2, E.le E2 ∧ InvM C E2 ((passUps (passIds bs id) 0 m').foldl (fun m p => fun i => if i = p.1 then some p.2 else m i) mem) nx W' ∧ ∀ v c, RL E' v c → RL E2 (v.ren (passIds bs id)) c := by
  have hidb : id ∉ bs := fun hx => by have := hsome id hx; rw [hid] at this; cases this
  have hE'n0 : E'.n0 = W.heap.size := h'.n0
  -- the places of the blocks
  have hr : ∀ j (hj : j < bs.length), passIds bs id j = bs[j] := fun j hj => by simp [passIds, hj]
  have hrn : passIds bs id bs.length = id := by simp [passIds]
  have rinj : ∀ i j, i < m'.length → j < m'.length → passIds bs id i = passIds bs id j → i = j := by
    intro i j hi hj e
    rcases Nat.lt_or_ge i bs.length with h1 | h1 <;> rcases Nat.lt_or_ge j bs.length with h2 | h2
    · rw [hr i h1, hr j h2] at e
      exact nodup_inj hnd e
    · have : j = bs.length := by omega
      subst this
      rw [hr i h1, hrn] at e
      exact absurd (e ▸ List.getElem_mem h1) hidb
    · have : i = bs.length := by omega
      subst this
      rw [hr j h2, hrn] at e
      exact absurd (e ▸ List.getElem_mem h2) hidb
    · omega
  have σ' : ∀ j I, E'.σ j = some I → j < m'.length := fun j I hI => by
    obtain ⟨k, hk⟩ := h'.dom j I hI
    exact (List.getElem?_eq_some_iff.1 hk).1
  let inv : Nat → Option Nat := fun b => if hx : ∃ j, j < m'.length ∧ passIds bs id j = b then some (Classical.choose hx) else none
  have inv1 : ∀ j, j < m'.length → inv (passIds bs id j) = some j := fun j hj => by
    have hx : ∃ i, i < m'.length ∧ passIds bs id i = passIds bs id j := ⟨j, hj, rfl⟩
    simp only [inv]
    rw [dif_pos hx]
    have := Classical.choose_spec hx
    rw [rinj _ _ this.1 hj this.2]
  have inv2 : ∀ b j, inv b = some j → j < m'.length ∧ passIds bs id j = b := fun b j hb => by
    simp only [inv] at hb
    split at hb
    · rename_i hx; cases hb; exact Classical.choose_spec hx
    · cases hb
  have inv3 : ∀ b, inv b = none → ∀ j, j < m'.length → b ≠ passIds bs id j := fun b hb j hj e => by
    rw [e, inv1 j hj] at hb; cases hb
  have inbs : ∀ b ∈ bs, ∃ j, j < bs.length ∧ inv b = some j ∧ bs.getD j 0 = b := fun b hb => by
    obtain ⟨j, hj, e⟩ := List.getElem_of_mem hb
    exact ⟨j, hj, by rw [← e, ← hr j hj]; exact inv1 j (by omega), by simp [hj, e]⟩
  have hFE : ∀ B o d, E.F B o = some d → E'.F B o = some d := fun B o d hd => hle.F B o d (by simp only [Env.view, lentF_no]; exact hd)
  have hFo : ∀ B o, B < W.heap.size → E'.F B o = E.F B o := fun B o hB => by
    have := h'.old B o hB
    rw [this]; simp only [cx, Env.view, lentF_no]
  have same : ∀ B, B < W.heap.size → ¬ passS E bs B → W'.heap[B]? = W.heap[B]? := fun B hB hn => h'.keep.block B hB hn
  have out_ : ∀ b, inv b = none → b ∉ bs := fun b hb hx => by
    obtain ⟨j, _, e, _⟩ := inbs b hx
    rw [hb] at e; cases e
  have hE : E.le ⟨E.n0, E'.F, fun b => match inv b with | some j => E'.σ j | none => E.σ b⟩ := ⟨Nat.le_refl _, hFE, fun b I hI => by
    cases hb : inv b with
    | none => exact ⟨I, by simp [hb, hI], I.le_refl⟩
    | some j =>
      obtain ⟨j1, j2⟩ := inv2 b j hb
      have hj : j < bs.length := by
        rcases Nat.lt_or_ge j bs.length with h1 | h1
        · exact h1
        · have : j = bs.length := by omega
          subst this
          rw [hrn] at j2; subst j2
          obtain ⟨k, hk⟩ := h.dom _ I hI
          rw [hid] at hk; cases hk
      rw [hr j hj] at j2
      obtain ⟨J, e1, e2⟩ := hle.σ j I (by simp [Env.view, hj, j2, hI])
      exact ⟨J, by simp [hb, e1], e2⟩⟩
  have hσr : ∀ j I, E'.σ j = some I → (fun b => match inv b with | some j => E'.σ j | none => E.σ b) (passIds bs id j) = some I := fun j I hI => by
    simp only [inv1 j (σ' j I hI), hI]
  have hn2 : (Env.mk E.n0 E'.F (fun b => match inv b with | some j => E'.σ j | none => E.σ b)).n0 ≤ E'.n0 := by
    rw [hE'n0]; show E.n0 ≤ _; rw [h.n0]; exact h.keep.size
  -- blocks outside of what was handed on
  have live : ∀ b I B, inv b = none → E.σ b = some I → I.dead = false → I.blk = some B → B < W.heap.size ∧ ¬ passS E bs B := by
    intro b I B hb hI hd hB
    refine ⟨h.lt hI hd hB, ?_⟩
    rintro ⟨b', I', g1, g2, g3, g4⟩
    have := h.inj b b' I I' B hI g2 hd g3 hB g4
    subst this
    exact out_ b hb g1
  have ups := fun b => passUps_get (passIds bs id) m' 0 mem b (fun i j _ hi _ hj => rinj i j (by omega) (by omega))
  refine ⟨_, hE, ?_, fun v c hv => RL.ren hn2 (fun _ _ _ x => x) hσr v c hv⟩
  refine ⟨h.n0, h'.frz, ?_, ?_, ?_, ?_, ?_, ?_, ?_, ?_⟩
  · intro b k hk
    cases hb : inv b with
    | none =>
      rw [(ups b).2 fun j hj => by rw [Nat.zero_add]; exact inv3 b hb j hj] at hk
      obtain ⟨I, g1, g2⟩ := h.blk b k hk
      refine ⟨I, by simp [hb, g1], ?_⟩
      by_cases hd : I.dead = true
      · cases k with
        | dead => exact hd
        | box cs => obtain ⟨h3, _⟩ := g2; rw [hd] at h3; cases h3
        | arr te e ver cs => obtain ⟨h3, _⟩ := g2; rw [hd] at h3; cases h3
      · have hd : I.dead = false := by simpa using hd
        exact g2.mono hE fun B hB => by
          obtain ⟨l1, l2⟩ := live b I B hb g1 hd hB
          exact same B l1 l2
    | some j =>
      obtain ⟨j1, j2⟩ := inv2 b j hb
      rw [(ups b).1 j m'[j] (by simp [j1]) (by rw [Nat.zero_add]; exact j2.symm)] at hk
      cases hk
      obtain ⟨I, g1, g2⟩ := h'.blk j m'[j] (by simp [j1])
      exact ⟨I, by simp [hb, g1], g2.ren hn2 (fun _ _ _ x => x) hσr⟩
  · intro b I hI
    cases hb : inv b with
    | none =>
      simp only [hb] at hI
      rw [(ups b).2 fun j hj => by rw [Nat.zero_add]; exact inv3 b hb j hj]
      exact h.dom b I hI
    | some j =>
      obtain ⟨j1, j2⟩ := inv2 b j hb
      exact ⟨_, (ups b).1 j m'[j] (by simp [j1]) (by rw [Nat.zero_add]; exact j2.symm)⟩
  · intro b k hk
    cases hb : inv b with
    | none =>
      rw [(ups b).2 fun j hj => by rw [Nat.zero_add]; exact inv3 b hb j hj] at hk
      exact h.nx b k hk
    | some j =>
      obtain ⟨j1, j2⟩ := inv2 b j hb
      rcases Nat.lt_or_ge j bs.length with hj | hj
      · rw [hr j hj] at j2
        have := hsome b (j2 ▸ List.getElem_mem hj)
        obtain ⟨k', hk'⟩ := Option.isSome_iff_exists.1 this
        exact h.nx b k' hk'
      · have : j = bs.length := by omega
        subst this
        rw [hrn] at j2
        omega
  · intro b b' I I' B h1 h2 d1 d2 e1 e2
    cases hb : inv b with
    | none =>
      simp only [hb] at h1
      cases hb' : inv b' with
      | none => simp only [hb'] at h2; exact h.inj b b' I I' B h1 h2 d1 d2 e1 e2
      | some j =>
        simp only [hb'] at h2
        exfalso
        obtain ⟨l1, l2⟩ := live b I B hb h1 d1 e1
        rcases h'.own j I' B h2 d2 e2 with g | ⟨_, g⟩
        · simp [cx] at g; omega
        · exact l2 g
    | some i =>
      simp only [hb] at h1
      cases hb' : inv b' with
      | none =>
        simp only [hb'] at h2
        exfalso
        obtain ⟨l1, l2⟩ := live b' I' B hb' h2 d2 e2
        rcases h'.own i I B h1 d1 e1 with g | ⟨_, g⟩
        · simp [cx] at g; omega
        · exact l2 g
      | some j =>
        simp only [hb'] at h2
        have := h'.inj i j I I' B h1 h2 d1 d2 e1 e2
        subst this
        rw [← (inv2 b i hb).2, ← (inv2 b' i hb').2]
  · intro b I B h1 d1 e1 o
    cases hb : inv b with
    | none =>
      simp only [hb] at h1
      show E'.F B o = none
      rw [hFo B o (h.lt h1 d1 e1)]
      exact h.sep b I B h1 d1 e1 o
    | some j => simp only [hb] at h1; exact h'.sep j I B h1 d1 e1 o
  · intro b I B h1 d1 e1
    cases hb : inv b with
    | none => simp only [hb] at h1; exact h.own b I B h1 d1 e1
    | some j =>
      simp only [hb] at h1
      obtain ⟨j1, j2⟩ := inv2 b j hb
      rcases h'.own j I B h1 d1 e1 with g | ⟨_, b', I', g1, g2, g3, g4⟩
      · left; have := h.keep.size; simp [cx] at g; omega
      · rcases h.own b' I' B g2 g3 g4 with q | ⟨q1, q2⟩
        · exact .inl q
        · right
          rcases hside with hs | hs
          · refine ⟨?_, q2⟩
            rcases Nat.lt_or_ge j bs.length with hj | hj
            · rw [hr j hj] at j2
              exact hs b (j2 ▸ List.getElem_mem hj)
            · exfalso
              rename_i hjj
              simp [cx] at hjj
              omega
          · have := hs b' g1; omega
  · intro B o hB
    have := h.keep.size
    show E'.F B o = _
    rw [hFo B o (by omega)]
    exact h.old B o hB
  · refine ⟨h'.keep.os.trans h.keep.os, h'.keep.tape.trans h.keep.tape, h'.keep.output.trans h.keep.output, Nat.le_trans h.keep.size h'.keep.size, fun k hk hS => ?_⟩
    rw [← h.keep.block k hk hS]
    refine same k (Nat.lt_of_lt_of_le hk h.keep.size) ?_
    rintro ⟨b', I', g1, g2, g3, g4⟩
    rcases h.own b' I' k g2 g3 g4 with q | ⟨q1, q2⟩
    · omega
    · exact hS q2
end
end Go.Abs
