/- Laws about heaps and calls that the walks use. Conditions: as each theorem states them. -/
import Derived.OrdersIn
import Derived.Below
namespace Go.Abs
set_option linter.unusedVariables false

/-- Values as a function sees them: what is read only bears its contents, what is a function's own bears a number. -/
inductive V where
  | sc (v : Value)
  | agg (cs : List V)
  | tup (vs : List V)
  | lst (new : Bool) (e n : Nat) (cs : List V)
  | rp (cs : List V)
  | sl (b ver e off len : Nat)
  | ptr (b ver o : Nat)
  | fn (f : Fn) (caps : List V)
  | any
  deriving Inhabited

def _root_.Go.Value.flat1 : Value → Bool
  | .agg _ | .tuple _ => false
  | _ => true

def V.leaf : V → Bool
  | .sc v => v.flat1
  | .agg _ | .tup _ | .any => false
  | _ => true

/-- What is known of one of the function's own blocks: where it lies. -/
structure Info where
  dead : Bool
  blk : Option Nat
  e : Nat
  cap : Nat
  ver : Nat

structure Env where
  n0 : Nat
  F : Nat → Nat → Option Value
  σ : Nat → Option Info

mutual
def RL (E : Env) : V → Value → Prop
  | .sc v, c => c = v
  | .agg cs, c => ∃ ds, c = .agg ds.toArray ∧ RLs E cs ds ∧ cs.all V.leaf = true
  | .tup vs, c => ∃ ds, c = .tuple ds.toArray ∧ RLs E vs ds
  | .lst new e n cs, c => ∃ a cap, c = .slice a n cap ∧ n ≤ cap ∧ cs.length = n * e ∧ cs.all V.leaf = true ∧ (n = 0 ∨ ∃ B o, a = some ⟨B, o, none⟩ ∧ (new = true → E.n0 ≤ B) ∧ RF E B o cs)
  | .rp cs, c => ∃ B o, c = .pointer (some ⟨B, o, none⟩) ∧ RF E B o cs ∧ cs.all V.leaf = true
  | .sl b ver e off len, c => ∃ a cap, c = .slice a len cap ∧ len ≤ cap ∧ 0 < e ∧ ((a = none ∧ off = 0 ∧ len = 0 ∧ cap = 0) ∨ ∃ B, a = some ⟨B, off * e, none⟩) ∧
      ∃ I, E.σ b = some I ∧ (I.dead = true ∨ (ver ≤ I.ver ∧ (ver = I.ver → I.e = e ∧ ((I.blk = none ∧ a = none) ∨ ∃ B, I.blk = some B ∧ a = some ⟨B, off * e, none⟩ ∧ off + cap = I.cap))))
  | .ptr b ver o, c => ∃ B, c = .pointer (some ⟨B, o, none⟩) ∧ ∃ I, E.σ b = some I ∧ (I.dead = true ∨ (ver ≤ I.ver ∧ (ver = I.ver → I.blk = some B)))
  | .fn f caps, c => ∃ ds, c = .func f #[] ds.toArray ∧ RLs E caps ds
  | .any, _ => True
def RLs (E : Env) : List V → List Value → Prop
  | [], ds => ds = []
  | x :: xs, ds => ∃ d ds', ds = d :: ds' ∧ RL E x d ∧ RLs E xs ds'
def RF (E : Env) (B : Nat) : Nat → List V → Prop
  | _, [] => True
  | o, x :: xs => (∃ d, E.F B o = some d ∧ RL E x d) ∧ RF E B (o + 1) xs
end

def Info.le (I J : Info) : Prop := J = I ∨ J.dead = true ∨ (I.dead = false ∧ I.ver < J.ver)

structure Env.le (E E' : Env) : Prop where
  n0 : E'.n0 ≤ E.n0
  F : ∀ B o d, E.F B o = some d → E'.F B o = some d
  σ : ∀ b I, E.σ b = some I → ∃ J, E'.σ b = some J ∧ I.le J

theorem Info.le_refl (I : Info) : I.le I := .inl rfl
theorem Info.le_trans {I J K : Info} (h : I.le J) (k : J.le K) : I.le K := by
  rcases h with rfl | h | ⟨h1, h2⟩
  · exact k
  · rcases k with rfl | k | ⟨k1, k2⟩
    · exact .inr (.inl h)
    · exact .inr (.inl k)
    · rw [h] at k1; cases k1
  · rcases k with rfl | k | ⟨k1, k2⟩
    · exact .inr (.inr ⟨h1, h2⟩)
    · exact .inr (.inl k)
    · exact .inr (.inr ⟨h1, Nat.lt_trans h2 k2⟩)
theorem Env.le_refl (E : Env) : E.le E := ⟨Nat.le_refl _, fun _ _ _ h => h, fun _ I h => ⟨I, h, I.le_refl⟩⟩
theorem Env.le_trans {E E' E'' : Env} (h : E.le E') (k : E'.le E'') : E.le E'' :=
  ⟨Nat.le_trans k.n0 h.n0, fun B o d x => k.F B o d (h.F B o d x), fun b I x => let ⟨J, y, l⟩ := h.σ b I x; let ⟨K, z, m⟩ := k.σ b J y; ⟨K, z, Info.le_trans l m⟩⟩

mutual
theorem RL.mono {E E' : Env} (h : E.le E') : ∀ (v : V) (c : Value), RL E v c → RL E' v c
  | .sc v, c, r => by simpa only [RL] using r
  | .agg cs, c, r => by
    simp only [RL] at r ⊢
    obtain ⟨ds, rfl, k, l⟩ := r
    exact ⟨ds, rfl, RLs.mono h cs ds k, l⟩
  | .tup vs, c, r => by
    simp only [RL] at r ⊢
    obtain ⟨ds, rfl, k⟩ := r
    exact ⟨ds, rfl, RLs.mono h vs ds k⟩
  | .lst new e n cs, c, r => by
    simp only [RL] at r ⊢
    obtain ⟨a, cap, rfl, h1, h2, h3, h4⟩ := r
    refine ⟨a, cap, rfl, h1, h2, h3, ?_⟩
    rcases h4 with h4 | ⟨B, o, rfl, h5, h6⟩
    · exact .inl h4
    · exact .inr ⟨B, o, rfl, fun q => Nat.le_trans h.n0 (h5 q), RF.mono h B cs o h6⟩
  | .rp cs, c, r => by
    simp only [RL] at r ⊢
    obtain ⟨B, o, rfl, h1, h2⟩ := r
    exact ⟨B, o, rfl, RF.mono h B cs o h1, h2⟩
  | .sl b ver e off len, c, r => by
    simp only [RL] at r ⊢
    obtain ⟨a, cap, rfl, q1, q2, q3, I, h1, h2⟩ := r
    obtain ⟨J, h3, h4⟩ := h.σ b I h1
    refine ⟨a, cap, rfl, q1, q2, q3, J, h3, ?_⟩
    rcases h4 with rfl | h4 | ⟨h4, h5⟩
    · exact h2
    · exact .inl h4
    · rcases h2 with h2 | ⟨h2, h6⟩
      · rw [h4] at h2; cases h2
      · exact .inr ⟨by omega, fun e => by omega⟩
  | .ptr b ver o, c, r => by
    simp only [RL] at r ⊢
    obtain ⟨B, rfl, I, h1, h2⟩ := r
    obtain ⟨J, h3, h4⟩ := h.σ b I h1
    refine ⟨B, rfl, J, h3, ?_⟩
    rcases h4 with rfl | h4 | ⟨h4, h5⟩
    · exact h2
    · exact .inl h4
    · rcases h2 with h2 | ⟨h2, h6⟩
      · rw [h4] at h2; cases h2
      · exact .inr ⟨by omega, fun e => by omega⟩
  | .fn f caps, c, r => by
    simp only [RL] at r ⊢
    obtain ⟨ds, rfl, k⟩ := r
    exact ⟨ds, rfl, RLs.mono h caps ds k⟩
  | .any, c, r => by simp only [RL]
theorem RLs.mono {E E' : Env} (h : E.le E') : ∀ (xs : List V) (ds : List Value), RLs E xs ds → RLs E' xs ds
  | [], ds, r => by simpa only [RLs] using r
  | x :: xs, ds, r => by
    simp only [RLs] at r ⊢
    obtain ⟨d, ds', rfl, h1, h2⟩ := r
    exact ⟨d, ds', rfl, RL.mono h x d h1, RLs.mono h xs ds' h2⟩
theorem RF.mono {E E' : Env} (h : E.le E') (B : Nat) : ∀ (xs : List V) (o : Nat), RF E B o xs → RF E' B o xs
  | [], o, r => by simp only [RF]
  | x :: xs, o, r => by
    simp only [RF] at r ⊢
    obtain ⟨⟨d, h1, h2⟩, h3⟩ := r
    exact ⟨⟨d, h.F B o d h1, RL.mono h x d h2⟩, RF.mono h B xs (o + 1) h3⟩
end

theorem RLs.length {E : Env} : ∀ (xs : List V) (ds : List Value), RLs E xs ds → ds.length = xs.length
  | [], ds, r => by simp only [RLs] at r; simp [r]
  | x :: xs, ds, r => by
    simp only [RLs] at r
    obtain ⟨d, ds', rfl, _, h⟩ := r
    simp [RLs.length xs ds' h]
theorem RLs.get {E : Env} : ∀ (xs : List V) (ds : List Value), RLs E xs ds → ∀ (i : Nat) (x : V), xs[i]? = some x → ∃ d, ds[i]? = some d ∧ RL E x d
  | [], ds, r, i, x, hx => by simp at hx
  | y :: xs, ds, r, i, x, hx => by
    simp only [RLs] at r
    obtain ⟨d, ds', rfl, h1, h2⟩ := r
    cases i with
    | zero => simp at hx; subst hx; exact ⟨d, by simp, h1⟩
    | succ i => simp at hx; simpa using RLs.get xs ds' h2 i x hx
theorem RLs.of_get {E : Env} : ∀ (xs : List V) (ds : List Value), ds.length = xs.length → (∀ (i : Nat) (x : V), xs[i]? = some x → ∃ d, ds[i]? = some d ∧ RL E x d) → RLs E xs ds
  | [], ds, hl, h => by simp only [RLs]; simpa using hl
  | y :: xs, ds, hl, h => by
    simp only [RLs]
    cases ds with
    | nil => simp at hl
    | cons d ds =>
      obtain ⟨d', h1, h2⟩ := h 0 y (by simp)
      simp at h1; subst h1
      exact ⟨d, ds, rfl, h2, RLs.of_get xs ds (by simpa using hl) (fun i x hx => by simpa using h (i + 1) x (by simpa using hx))⟩
theorem RF.get {E : Env} {B : Nat} : ∀ (xs : List V) (o : Nat), RF E B o xs → ∀ (i : Nat) (x : V), xs[i]? = some x → ∃ d, E.F B (o + i) = some d ∧ RL E x d
  | [], o, r, i, x, hx => by simp at hx
  | y :: xs, o, r, i, x, hx => by
    simp only [RF] at r
    obtain ⟨⟨d, h1, h2⟩, h3⟩ := r
    cases i with
    | zero => simp at hx; subst hx; exact ⟨d, h1, h2⟩
    | succ i =>
      simp at hx
      obtain ⟨d', h4, h5⟩ := RF.get xs (o + 1) h3 i x hx
      exact ⟨d', by rw [show o + (i + 1) = o + 1 + i by omega]; exact h4, h5⟩
theorem RF.of_get {E : Env} {B : Nat} : ∀ (xs : List V) (o : Nat), (∀ (i : Nat) (x : V), xs[i]? = some x → ∃ d, E.F B (o + i) = some d ∧ RL E x d) → RF E B o xs
  | [], o, h => by simp only [RF]
  | y :: xs, o, h => by
    simp only [RF]
    refine ⟨?_, RF.of_get xs (o + 1) fun i x hx => ?_⟩
    · simpa using h 0 y (by simp)
    · have := h (i + 1) x (by simpa using hx)
      rwa [show o + (i + 1) = o + 1 + i by omega] at this
theorem RF.drop {E : Env} {B : Nat} {xs : List V} {o : Nat} (h : RF E B o xs) (k : Nat) : RF E B (o + k) (xs.drop k) :=
  RF.of_get _ _ fun i x hx => by
    rw [List.getElem?_drop] at hx
    have := RF.get xs o h (k + i) x hx
    rwa [show o + (k + i) = o + k + i by omega] at this
theorem RF.take {E : Env} {B : Nat} {xs : List V} {o : Nat} (h : RF E B o xs) (k : Nat) : RF E B o (xs.take k) :=
  RF.of_get _ _ fun i x hx => by
    rw [List.getElem?_take] at hx
    split at hx
    · exact RF.get xs o h i x hx
    · cases hx
theorem RLs.drop {E : Env} {xs : List V} {ds : List Value} (h : RLs E xs ds) (k : Nat) : RLs E (xs.drop k) (ds.drop k) :=
  RLs.of_get _ _ (by simp [RLs.length _ _ h]) fun i x hx => by
    rw [List.getElem?_drop] at hx ⊢
    exact RLs.get xs ds h _ x hx
theorem RLs.take {E : Env} {xs : List V} {ds : List Value} (h : RLs E xs ds) (k : Nat) : RLs E (xs.take k) (ds.take k) :=
  RLs.of_get _ _ (by simp [RLs.length _ _ h]) fun i x hx => by
    rw [List.getElem?_take] at hx ⊢
    split at hx
    · rw [if_pos ‹_›]; exact RLs.get xs ds h _ x hx
    · cases hx
theorem RLs.append {E : Env} : ∀ {xs ys : List V} {ds es : List Value}, RLs E xs ds → RLs E ys es → RLs E (xs ++ ys) (ds ++ es)
  | [], ys, ds, es, h, k => by simp only [RLs] at h; subst h; simpa using k
  | x :: xs, ys, ds, es, h, k => by
    simp only [RLs] at h
    obtain ⟨d, ds', rfl, h1, h2⟩ := h
    simp only [List.cons_append, RLs]
    exact ⟨d, ds' ++ es, rfl, h1, RLs.append h2 k⟩
theorem RL.flat1 {E : Env} {v : V} {c : Value} (h : RL E v c) (hl : v.leaf = true) : c.flat1 = true := by
  cases v <;> simp only [RL, V.leaf] at h hl
  · subst h; exact hl
  · cases hl
  · cases hl
  · obtain ⟨a, cap, rfl, _⟩ := h; rfl
  · obtain ⟨B, o, rfl, _⟩ := h; rfl
  · obtain ⟨a, cap, rfl, _⟩ := h; rfl
  · obtain ⟨B, rfl, _⟩ := h; rfl
  · obtain ⟨ds, rfl, _⟩ := h; rfl
  · cases hl
end Go.Abs
