/- Laws about heaps and calls that the walks use. Conditions: as each theorem states them. -/
import Derived.Test.YtdihhgkihbnnoaaAbsN
namespace Go.Abs
set_option linter.unusedVariables false
set_option linter.unusedSimpArgs false

/-- What the frames outside still know: the frozen cells, and the blocks that came in. -/
structure Env.lep (p : Nat) (E E' : Env) : Prop where
  n0 : E'.n0 ≤ E.n0
  F : ∀ B o d, E.F B o = some d → E'.F B o = some d
  σ : ∀ b I, b < p → E.σ b = some I → ∃ J, E'.σ b = some J ∧ I.le J
theorem Env.lep_refl (p : Nat) (E : Env) : E.lep p E := ⟨Nat.le_refl _, fun _ _ _ h => h, fun _ I _ h => ⟨I, h, I.le_refl⟩⟩
theorem Env.lep_trans {p : Nat} {E E' E'' : Env} (h : E.lep p E') (k : E'.lep p E'') : E.lep p E'' :=
  ⟨Nat.le_trans k.n0 h.n0, fun B o d x => k.F B o d (h.F B o d x), fun b I hb x => let ⟨J, y, l⟩ := h.σ b I hb x; let ⟨K, z, m⟩ := k.σ b J hb y; ⟨K, z, Info.le_trans l m⟩⟩
theorem Env.le.lep {p : Nat} {E E' : Env} (h : E.le E') : E.lep p E' := ⟨h.n0, h.F, fun b I _ x => h.σ b I x⟩

/-! ### code, said of values -/
def AWP (P : Program) (r : Option Nat) (C : Cx) (c : Code) (s : St) (Q : Exit → St → Prop) : Prop :=
  ∀ (E : Env) (a : Act) (W : World), Inv C E s a W → c.wpIn (fe r) 0 P (fun e a' W' => ∃ E' s', E.lep C.p E' ∧ Inv C E' s' a' W' ∧ Q e s') a W
def thn (K : St → Prop) (Q : Exit → St → Prop) : Exit → St → Prop
  | .normal, s => K s
  | e, s => Q e s
def inBlk (id : Nat) (Q : Exit → St → Prop) : Exit → St → Prop
  | .exit id', s => if id' = id then Q .normal s else Q (.exit id') s
  | e, s => Q e s

section
variable {P : Program} {r : Option Nat} {C : Cx} {s : St} {Q : Exit → St → Prop}
theorem AWP.mono {c : Code} {Q' : Exit → St → Prop} (h : AWP P r C c s Q) (hq : ∀ e s, Q e s → Q' e s) : AWP P r C c s Q' :=
  fun E a W hI => wpIn_mono (h E a W hI) fun e a' W' ⟨E', s', h1, h2, h3⟩ => ⟨E', s', h1, h2, hq _ _ h3⟩
theorem AWP.skip (h : Q .normal s) : AWP P r C .skip s Q := fun E a W hI => wpIn_skip ⟨E, s, Env.lep_refl _ E, hI, h⟩
theorem AWP.exit {id : Nat} (h : Q (.exit id) s) : AWP P r C (.exit id) s Q := fun E a W hI => wpIn_exit ⟨E, s, Env.lep_refl _ E, hI, h⟩
theorem AWP.ret (h : Q .ret s) : AWP P r C .ret s Q := fun E a W hI => wpIn_ret ⟨E, s, Env.lep_refl _ E, hI, h⟩
theorem AWP.seq {x y : Code} (h : AWP P r C x s (thn (fun s' => AWP P r C y s' Q) Q)) : AWP P r C (.seq x y) s Q := fun E a W hI => by
  refine wpIn_seq (wpIn_mono (h E a W hI) ?_)
  rintro e a' W' ⟨E', s', h1, h2, h3⟩
  cases e with
  | normal => exact wpIn_mono (h3 E' a' W' h2) fun e a2 W2 ⟨E2, s2, g1, g2, g3⟩ => ⟨E2, s2, Env.lep_trans h1 g1, g2, g3⟩
  | _ => exact ⟨E', s', h1, h2, h3⟩
theorem AWP.cond {x : Operand} {c d : Code} {t : Bool} (hx : s.ev x = .sc (.bool t)) (ht : t = true → AWP P r C c s Q) (hf : t = false → AWP P r C d s Q) : AWP P r C (.cond x c d) s Q := fun E a W hI => by
  have hv := hI.ev x
  rw [hx] at hv
  simp only [RL] at hv
  exact wpIn_cond_split hv (fun e => ht e E a W hI) (fun e => hf e E a W hI)
theorem AWP.block {id : Nat} {c : Code} (h : AWP P r C c s (inBlk id Q)) : AWP P r C (.block id c) s Q := fun E a W hI => by
  refine wpIn_block (wpIn_mono (h E a W hI) ?_)
  rintro e a' W' ⟨E', s', h1, h2, h3⟩
  cases e with
  | exit id' =>
    simp only [Exit.inBlock, inBlk] at h3 ⊢
    split
    · rename_i he; rw [if_pos he] at h3; exact ⟨E', s', h1, h2, h3⟩
    · rename_i he; rw [if_neg he] at h3; exact ⟨E', s', h1, h2, h3⟩
  | _ => exact ⟨E', s', h1, h2, h3⟩
theorem exists_least {p : Nat → Prop} (h : ∃ n, p n) : ∃ n, p n ∧ ∀ m, p m → n ≤ m := by
  obtain ⟨n, hn⟩ := h
  induction n using Nat.strongRecOn with
  | _ n ih =>
    by_cases hm : ∃ m, m < n ∧ p m
    · obtain ⟨m, h1, h2⟩ := hm; exact ih m h1 h2
    · exact ⟨n, hn, fun m h => Nat.le_of_not_lt fun hlt => hm ⟨m, hlt, h⟩⟩
open Classical in
theorem AWP.loop {c : Code} (I : St → Prop) (μ : St → Nat) (h0 : I s) (round : ∀ s, I s → AWP P r C c s (thn (fun s' => I s' ∧ μ s' < μ s) Q)) : AWP P r C (.loop c) s Q := fun E a W hI => by
  let J : Act → World → Nat → Prop := fun a w j => ∃ E' s', E.lep C.p E' ∧ Inv C E' s' a w ∧ I s' ∧ μ s' = j
  let m : Act → World → Nat := fun a w => if h : ∃ j, J a w j then Classical.choose (exists_least h) else 0
  refine wpIn_loop (fun a w => ∃ j, J a w j) m ⟨μ s, E, s, Env.lep_refl _ E, hI, h0, rfl⟩ ?_
  intro a w hJ
  have hm : m a w = Classical.choose (exists_least hJ) := by simp only [m]; rw [dif_pos hJ]
  obtain ⟨E1, s1, h1, h2, h3, h4⟩ := (Classical.choose_spec (exists_least hJ)).1
  refine wpIn_mono (round s1 h3 E1 a w h2) ?_
  rintro e a' W' ⟨E', s', g1, g2, g3⟩
  cases e with
  | normal =>
    obtain ⟨g3, g4⟩ := g3
    have hJ' : ∃ j, J a' W' j := ⟨μ s', E', s', Env.lep_trans h1 g1, g2, g3, rfl⟩
    refine ⟨hJ', ?_⟩
    have : m a' W' ≤ μ s' := by
      simp only [m]; rw [dif_pos hJ']
      exact (Classical.choose_spec (exists_least hJ')).2 _ ⟨E', s', Env.lep_trans h1 g1, g2, g3, rfl⟩
    rw [hm, ← h4]
    omega
  | _ => exact ⟨E', s', Env.lep_trans h1 g1, g2, g3⟩

theorem Inv.more {E : Env} {a : Act} {W : World} (h : Inv C E s a W) {nx : Nat} (hn : s.nx ≤ nx) : Inv C E { s with nx := nx } a W := ⟨h.m.more hn, h.tms, h.size, h.defs⟩

theorem AWP.region {id : Nat} {ops : Array Oper} {s' : St} (hr : Run P C.N C.p ops s.nx chk0 (List.range ops.size) { s with nx := s.nx + 4 * ops.size } s') (h : Q .normal s') : AWP P r C (.region id ops false) s Q := fun E a W hI => by
  refine wpIn_region (hr.ok (Inv.more hI (Nat.le_add_right _ _)) (fun i hi => ?_) fun E' a' W' hE h' => ⟨E', s', hE.lep, h', h⟩)
  rw [List.mem_range] at hi
  show s.nx + 4 * i < s.nx + 4 * ops.size
  omega
theorem AWP.draw {id : Nat} {ops : Array Oper} {s' : St} {masks : List Nat} {kl : Kl} (hm : P.follows .mixedOrders = true) (hok : okDraw ops masks kl = true)
    (hr : Run P C.N C.p ops s.nx (chkD ops s.nx masks kl) (List.range ops.size) { s with nx := s.nx + 4 * ops.size } s') (h : Q .normal s') : AWP P r C (.region id ops true) s Q := fun E a W hI => by
  refine wpIn_region_any hm ?_
  have h0 : rest ops (Array.replicate ops.size false) = List.range ops.size := by
    unfold rest
    refine List.filter_eq_self.2 fun i hi => ?_
    rw [List.mem_range] at hi
    simp [Array.getD, hi]
  refine Run.any hok ops.size (Array.replicate ops.size false) (by simp) (fun m hm hml => ?_) (by rw [h0]; simp) (by rw [h0]; exact hr) (E := E) ?_ (fun i hi => ?_) fun E' a' W' hE h' => ⟨E', s', hE.lep, h', h⟩
  · simp [Array.getD, hm] at hml
  · have := Inv.more hI (Nat.le_add_right s.nx (4 * ops.size))
    exact ⟨this.m.drew, this.tms, this.size, this.defs⟩
  · show s.nx + 4 * i < s.nx + 4 * ops.size
    omega
end
end Go.Abs
