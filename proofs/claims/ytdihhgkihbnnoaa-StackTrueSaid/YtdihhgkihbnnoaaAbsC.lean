/- Laws about heaps and calls that the walks use. Conditions: as each theorem states them. -/
import Derived.Test.YtdihhgkihbnnoaaAbsB
namespace Go.Abs
set_option linter.unusedVariables false
set_option linter.unusedSimpArgs false

structure Cx where
  W0 : World
  S : Nat → Prop
  p : Nat
  F0 : Nat → Nat → Option Value
  N : Nat
  D : List Deferred

structure Keeps (S : Nat → Prop) (W W' : World) : Prop where
  os : W'.os = W.os
  tape : W'.tape = W.tape
  output : W'.output = W.output
  size : W.heap.size ≤ W'.heap.size
  block : ∀ k, k < W.heap.size → ¬ S k → W'.heap[k]? = W.heap[k]?
theorem Keeps.refl (S : Nat → Prop) (W : World) : Keeps S W W := ⟨rfl, rfl, rfl, Nat.le_refl _, fun _ _ _ => rfl⟩

def BlkOK (E : Env) (W : World) (I : Info) : Blk → Prop
  | .dead => I.dead = true
  | .box cs => I.dead = false ∧ I.ver = 0 ∧ I.e = 0 ∧ ∃ B cur t, I.blk = some B ∧ W.heap[B]? = some (.cells cur t (0, 0)) ∧ cs.length ≤ cur.size ∧ cs.all V.leaf = true ∧ RLs E cs (cur.toList.take cs.length)
  | .arr te e ver cs => I.dead = false ∧ I.ver = ver ∧ I.e = e ∧ 0 < e ∧ cs.all V.leaf = true ∧ (∃ n, cs.length = n * e) ∧
      ((I.blk = none ∧ cs = []) ∨ ∃ B cur, I.blk = some B ∧ W.heap[B]? = some (.cells cur te (0, 0)) ∧ cur.size = I.cap * e ∧ I.cap ≤ maxLen ∧ cs.length ≤ cur.size ∧ RLs E cs (cur.toList.take cs.length))

def Env.put (E : Env) (b : Nat) (I : Info) : Env := { E with σ := upd E.σ b (some I) }

structure InvM (C : Cx) (E : Env) (mem : Nat → Option Blk) (nx : Nat) (W : World) : Prop where
  n0 : E.n0 = C.W0.heap.size
  frz : ∀ B o d, E.F B o = some d → W.cell? ⟨B, o, none⟩ = some d
  blk : ∀ b k, mem b = some k → ∃ I, E.σ b = some I ∧ BlkOK E W I k
  dom : ∀ b I, E.σ b = some I → ∃ k, mem b = some k
  nx : ∀ b k, mem b = some k → b < nx
  inj : ∀ b b' I I' B, E.σ b = some I → E.σ b' = some I' → I.dead = false → I'.dead = false → I.blk = some B → I'.blk = some B → b = b'
  sep : ∀ b I B, E.σ b = some I → I.dead = false → I.blk = some B → ∀ o, E.F B o = none
  own : ∀ b I B, E.σ b = some I → I.dead = false → I.blk = some B → C.W0.heap.size ≤ B ∨ (b < C.p ∧ C.S B)
  old : ∀ B o, B < C.W0.heap.size → E.F B o = C.F0 B o
  keep : Keeps C.S C.W0 W

structure Inv (C : Cx) (E : Env) (s : St) (a : Act) (W : World) : Prop where
  m : InvM C E s.mem s.nx W
  tms : ∀ t, RL E (s.tm t) (a.tmps.getD t undef)
  size : a.tmps.size = C.N
  defs : a.defers = C.D

theorem BlkOK.mono {E E' : Env} (h : E.le E') {W W' : World} {I : Info} {k : Blk} (hw : ∀ B, I.blk = some B → W'.heap[B]? = W.heap[B]?) (hk : BlkOK E W I k) : BlkOK E' W' I k := by
  cases k with
  | dead => exact hk
  | box cs =>
    obtain ⟨h1, h2, h3, B, cur, t, h4, h5, h6, h7, h8⟩ := hk
    exact ⟨h1, h2, h3, B, cur, t, h4, by rw [hw B h4]; exact h5, h6, h7, RLs.mono h _ _ h8⟩
  | arr te e ver cs =>
    obtain ⟨h1, h2, h3, h4, h5, h6, h7⟩ := hk
    refine ⟨h1, h2, h3, h4, h5, h6, ?_⟩
    rcases h7 with h7 | ⟨B, cur, a1, a2, a3, a4, a5, a6⟩
    · exact .inl h7
    · exact .inr ⟨B, cur, a1, by rw [hw B a1]; exact a2, a3, a4, a5, RLs.mono h _ _ a6⟩
/-- A live block lies in the heap. -/
theorem BlkOK.lt {E : Env} {W : World} {I : Info} {k : Blk} (hk : BlkOK E W I k) (hd : I.dead = false) {B : Nat} (hB : I.blk = some B) : B < W.heap.size := by
  have key : ∀ (cur : Array Value) (t : TypeId), W.heap[B]? = some (.cells cur t (0, 0)) → B < W.heap.size := fun cur t h => (Array.getElem?_eq_some_iff.1 h).1
  cases k with
  | dead => rw [hk] at hd; cases hd
  | box cs =>
    obtain ⟨_, _, _, B', cur, t, h4, h5, _⟩ := hk
    rw [hB] at h4; cases h4
    exact key _ _ h5
  | arr te e ver cs =>
    obtain ⟨_, _, _, _, _, _, h7⟩ := hk
    rcases h7 with ⟨h7, _⟩ | ⟨B', cur, a1, a2, _⟩
    · rw [hB] at h7; cases h7
    · rw [hB] at a1; cases a1
      exact key _ _ a2

section
variable {C : Cx} {E : Env} {mem : Nat → Option Blk} {nx : Nat} {W W' : World}

theorem InvM.F_none (h : InvM C E mem nx W) {B : Nat} (hB : W.heap.size ≤ B) (o : Nat) : E.F B o = none := by
  cases hf : E.F B o with
  | none => rfl
  | some d =>
    have := World.block_lt_of_cell? W _ (h.frz B o d hf)
    simp at this; omega
theorem InvM.lt (h : InvM C E mem nx W) {b : Nat} {I : Info} (hs : E.σ b = some I) (hd : I.dead = false) {B : Nat} (hB : I.blk = some B) : B < W.heap.size := by
  obtain ⟨k, hk⟩ := h.dom b I hs
  obtain ⟨J, h1, h2⟩ := h.blk b k hk
  rw [hs] at h1; cases h1
  exact h2.lt hd hB

theorem Env.put_le {b : Nat} {I : Info} (hs : ∀ J, E.σ b = some J → J.le I) : E.le (E.put b I) where
  n0 := Nat.le_refl _
  F := fun _ _ _ h => h
  σ := fun b' J hJ => by
    unfold Env.put upd
    by_cases hb : b' = b
    · subst hb; exact ⟨I, by simp, hs J hJ⟩
    · exact ⟨J, by simp [hb, hJ], J.le_refl⟩

/-- A block is made or changed. -/
theorem InvM.put (h : InvM C E mem nx W) (b : Nat) (I : Info) (k : Blk) (row : Option Nat)
    (hle : ∀ J, E.σ b = some J → J.le I) (hd : I.dead = false)
    (hrow : ∀ B, row = some B → ∃ J, E.σ b = some J ∧ J.dead = false ∧ J.blk = some B)
    (hW : W.grownBy W' row)
    (hB : ∀ B, I.blk = some B → W.heap.size ≤ B ∨ ∃ J, E.σ b = some J ∧ J.dead = false ∧ J.blk = some B)
    (hk : BlkOK (E.put b I) W' I k) : InvM C (E.put b I) (upd mem b (some k)) (max nx (b + 1)) W' := by
  have hE := Env.put_le hle
  have same : ∀ B, B < W.heap.size → (∀ J, E.σ b = some J → J.dead = false → J.blk ≠ some B) → W'.heap[B]? = W.heap[B]? := by
    intro B hlt hne
    refine hW.block B hlt fun e => ?_
    obtain ⟨J, h1, h2, h3⟩ := hrow B e.symm
    exact hne J h1 h2 h3
  refine ⟨h.n0, ?_, ?_, ?_, ?_, ?_, ?_, ?_, h.old, ?_⟩
  · intro B o d hF
    have hF : E.F B o = some d := hF
    have h1 := h.frz B o d hF
    have hlt := World.block_lt_of_cell? W _ h1
    rw [← h1]
    refine World.cell?_of_block (same B hlt fun J hJ hJd hJB => ?_)
    rw [h.sep b J B hJ hJd hJB o] at hF
    cases hF
  · intro b' k' hk'
    unfold upd at hk'
    by_cases hb : b' = b
    · subst hb
      simp at hk'; subst hk'
      exact ⟨I, by simp [Env.put, upd], hk⟩
    · simp [hb] at hk'
      obtain ⟨J, h1, h2⟩ := h.blk b' k' hk'
      refine ⟨J, by simp [Env.put, upd, hb, h1], ?_⟩
      by_cases hJd : J.dead = true
      · cases k' with
        | dead => exact hJd
        | box cs => obtain ⟨h3, _⟩ := h2; rw [hJd] at h3; cases h3
        | arr te e ver cs => obtain ⟨h3, _⟩ := h2; rw [hJd] at h3; cases h3
      · have hJd : J.dead = false := by simpa using hJd
        refine h2.mono hE fun B hJB => same B (h2.lt hJd hJB) fun J' h3 h4 h5 => hb (h.inj b' b J J' B h1 h3 hJd h4 hJB h5)
  · intro b' J hJ
    unfold Env.put upd at hJ
    unfold upd
    by_cases hb : b' = b
    · exact ⟨k, by simp [hb]⟩
    · simp [hb] at hJ
      obtain ⟨k', hk'⟩ := h.dom b' J hJ
      exact ⟨k', by simp [hb, hk']⟩
  · intro b' k' hk'
    unfold upd at hk'
    by_cases hb : b' = b
    · omega
    · simp [hb] at hk'
      have := h.nx b' k' hk'
      omega
  · intro b1 b2 I1 I2 B h1 h2 d1 d2 e1 e2
    unfold Env.put upd at h1 h2
    by_cases hb1 : b1 = b
    · by_cases hb2 : b2 = b
      · rw [hb1, hb2]
      · simp [hb1] at h1; simp [hb2] at h2; subst h1
        rcases hB B e1 with hB | ⟨J, j1, j2, j3⟩
        · have := h.lt h2 d2 e2; omega
        · exact absurd (h.inj b b2 J I2 B j1 h2 j2 d2 j3 e2).symm hb2
    · by_cases hb2 : b2 = b
      · simp [hb2] at h2; simp [hb1] at h1; subst h2
        rcases hB B e2 with hB | ⟨J, j1, j2, j3⟩
        · have := h.lt h1 d1 e1; omega
        · exact absurd (h.inj b1 b I1 J B h1 j1 d1 j2 e1 j3) hb1
      · simp [hb1] at h1; simp [hb2] at h2
        exact h.inj b1 b2 I1 I2 B h1 h2 d1 d2 e1 e2
  · intro b' J B hJ hJd hJB o
    unfold Env.put upd at hJ
    by_cases hb : b' = b
    · simp [hb] at hJ; subst hJ
      rcases hB B hJB with hB | ⟨J, j1, j2, j3⟩
      · exact h.F_none hB o
      · exact h.sep b J B j1 j2 j3 o
    · simp [hb] at hJ
      exact h.sep b' J B hJ hJd hJB o
  · intro b' J B hJ hJd hJB
    unfold Env.put upd at hJ
    by_cases hb : b' = b
    · simp [hb] at hJ; subst hJ
      rcases hB B hJB with hB | ⟨J, j1, j2, j3⟩
      · left; have := h.keep.size; omega
      · rw [hb]; exact h.own b J B j1 j2 j3
    · simp [hb] at hJ
      exact h.own b' J B hJ hJd hJB
  · refine ⟨hW.os.trans h.keep.os, hW.tape.trans h.keep.tape, hW.output.trans h.keep.output, Nat.le_trans h.keep.size hW.size, fun k hk hS => ?_⟩
    rw [← h.keep.block k hk hS]
    refine same k (Nat.lt_of_lt_of_le hk h.keep.size) fun J h1 h2 h3 => ?_
    rcases h.own b J k h1 h2 h3 with h4 | h4
    · omega
    · exact hS h4.2

theorem InvM.drew (h : InvM C E mem nx W) : InvM C E mem nx { W with drawn := W.drawn + 1 } where
  n0 := h.n0
  frz := h.frz
  blk := fun b k hk => let ⟨I, h1, h2⟩ := h.blk b k hk; ⟨I, h1, h2.mono E.le_refl fun _ _ => rfl⟩
  dom := h.dom
  nx := h.nx
  inj := h.inj
  sep := h.sep
  own := h.own
  old := h.old
  keep := ⟨h.keep.os, h.keep.tape, h.keep.output, h.keep.size, h.keep.block⟩
theorem InvM.more (h : InvM C E mem nx W) {nx' : Nat} (hn : nx ≤ nx') : InvM C E mem nx' W :=
  { h with nx := fun b k hk => Nat.lt_of_lt_of_le (h.nx b k hk) hn }
end

theorem cv_ok (E : Env) (v : Value) : RL E (cv v) v := by
  unfold cv
  split
  · rename_i cs
    split
    · rename_i hf
      simp only [RL]
      refine ⟨cs.toList, by simp, ?_, ?_⟩
      · refine RLs.of_get _ _ (by simp) fun i x hx => ?_
        simp at hx
        obtain ⟨d, h1, rfl⟩ := hx
        exact ⟨d, by simpa using h1, by simp [RL]⟩
      · simpa [List.all_map, Function.comp_def, V.leaf] using hf
    · simp [RL]
  · simp [RL]
theorem Inv.ev {C : Cx} {E : Env} {s : St} {a : Act} {W : World} (h : Inv C E s a W) (x : Operand) : RL E (s.ev x) (a.eval x) := by
  cases x with
  | tmp t => exact h.tms t
  | const v => exact cv_ok E v
  | global g => simp [St.ev, RL]
  | func f => simp [St.ev, RL, RLs, Act.eval]
end Go.Abs
