/- Laws about heaps and calls that the walks use. Conditions: as each theorem states them. -/
import Derived.Test.YtdihhgkihbnnoaaAbsM
namespace Go.Abs
set_option linter.unusedVariables false
set_option linter.unusedSimpArgs false

/-! ### regions -/
/-- The operations of a list of places, in that order. -/
inductive Run (P : Program) (N p : Nat) (ops : Array Oper) (base : Nat) (chk : Nat → List Nat → Bool → Prop) : List Nat → St → St → Prop
  | nil {s : St} : Run P N p ops base chk [] s s
  | cons {i : Nat} {l : List Nat} {s s' : St} {o : Oper} {e : Eff} {t : List Nat} {w : Bool} : ops[i]? = some o → (∀ d, o.dst = some d → d < N) → Act1 P N p ops (base + 4 * i) o s e t w → chk i t w →
      Run P N p ops base chk l (s.app o e) s' → Run P N p ops base chk (i :: l) s s'

section
variable {P : Program} {C : Cx} {ops : Array Oper} {base : Nat} {r : Option Nat} {n : Nat} {Q : Exit → Act → World → Prop}
theorem Run.ok {chk : Nat → List Nat → Bool → Prop} : ∀ {l : List Nat} {s s' : St}, Run P C.N C.p ops base chk l s s' → ∀ {E : Env} {a : Act} {W : World}, Inv C E s a W → (∀ i ∈ l, base + 4 * i < s.nx) →
    (∀ E' a' W', E.le E' → Inv C E' s' a' W' → Q .normal a' W') → wpOpsIn (fe r) n P ops Q l a W
  | _, _, _, .nil, E, a, W, h, hl, hQ => hQ E a W E.le_refl h
  | _, _, _, .cons ho hd ha hc hr, E, a, W, h, hl, hQ => by
    rw [wpOpsIn_cons]
    refine ha.ok h ho hd (hl _ List.mem_cons_self) fun E' a' W' hE h' => ?_
    exact Run.ok hr h' (fun i hi => hl i (List.mem_cons_of_mem _ hi)) fun E2 a2 W2 hE2 h2 => hQ E2 a2 W2 (Env.le_trans hE hE2) h2
end

/-! ### an order that is left open -/
/-- Which operations write by a call; what some operations touch. -/
structure Kl where
  k : List Nat
  t : List (Option (List Nat))
def Kl.contains (kl : Kl) (i : Nat) : Bool := kl.k.contains i
def Kl.at (kl : Kl) (i : Nat) : Option (List Nat) := kl.t.getD i none
def farM : Option (List Nat) → Option (List Nat) → Bool
  | some a, some b => a.all fun x => !b.contains x
  | _, _ => false
def wrS (kl : Kl) (i : Nat) (o : Oper) : Bool := wrOp o.op || kl.contains i
def apartS (ops : Array Oper) (kl : Kl) (i j : Nat) : Bool :=
  match ops[i]?, ops[j]? with
  | some oi, some oj =>
    (match oi.dst with | some d => !(looks ops oj).contains d && !(oj.dst == some d) | none => true) &&
    (match oj.dst with | some d => !(looks ops oi).contains d | none => true) &&
    ((!(wrS kl i oi && tcOp oj.op) && !(wrS kl j oj && tcOp oi.op)) || farM (kl.at i) (kl.at j))
  | _, _ => false
def okDraw (ops : Array Oper) (masks : List Nat) (kl : Kl) : Bool :=
  (List.range ops.size).all fun j =>
    (match ops[j]? with | some o => o.after.toList.all fun e => !Region.binds .any e || e.on < j | none => false) && (masks.getD j 0 < 2 ^ j) &&
    (List.range j).all fun i => if (masks.getD j 0).testBit i
      then (match ops[j]? with | some o => o.after.toList.any fun e => Region.binds .any e && (e.on == i || (masks.getD e.on 0).testBit i) | none => false)
      else apartS ops kl i j
/-- What is looked at while the region runs: a block that was there, or one of an operation that comes ahead. -/
def chkD (ops : Array Oper) (base : Nat) (masks : List Nat) (kl : Kl) (i : Nat) (t : List Nat) (w : Bool) : Prop :=
  (∀ b ∈ t, b < base ∨ (masks.getD i 0).testBit ((b - base) / 4) = true) ∧ (w = true → ∃ o, ops[i]? = some o ∧ wrS kl i o = true) ∧ ∀ l, kl.at i = some l → ∀ b ∈ t, b ∈ l
def chk0 : Nat → List Nat → Bool → Prop := fun _ _ _ => True

section
variable {P : Program} {N p : Nat} {ops : Array Oper} {base : Nat} {masks : List Nat} {kl : Kl}

theorem apartS_spec {i j : Nat} {oi oj : Oper} (h : apartS ops kl i j = true) (hi : ops[i]? = some oi) (hj : ops[j]? = some oj) :
    (∀ d, oi.dst = some d → d ∉ looks ops oj ∧ oj.dst ≠ some d) ∧ (∀ d, oj.dst = some d → d ∉ looks ops oi) ∧ (((wrS kl i oi = true → tcOp oj.op = false) ∧ (wrS kl j oj = true → tcOp oi.op = false)) ∨ ∃ a b, kl.at i = some a ∧ kl.at j = some b ∧ ∀ x ∈ a, x ∉ b) := by
  unfold apartS at h
  rw [hi, hj] at h
  simp only [Bool.and_eq_true, Bool.or_eq_true] at h
  obtain ⟨⟨h1, h2⟩, h3⟩ := h
  refine ⟨fun d hd => ?_, fun d hd => ?_, ?_⟩
  · rw [hd] at h1
    simp at h1
    exact ⟨h1.1, fun e => h1.2 e⟩
  · rw [hd] at h2
    simpa using h2
  · rcases h3 with ⟨h3, h4⟩ | h3
    · left
      refine ⟨fun hw => ?_, fun hw => ?_⟩
      · rw [hw] at h3; simpa using h3
      · rw [hw] at h4; simpa using h4
    · right
      unfold farM at h3
      split at h3
      · rename_i a b ha hb
        refine ⟨a, b, ha, hb, fun x hx => ?_⟩
        rw [List.all_eq_true] at h3
        simpa using h3 x hx
      · cases h3

/-- An operation that may come up is taken ahead of what stands before it. -/
theorem Run.bubble {s' : St} {i : Nat} {post : List Nat} : ∀ (pre : List Nat) {s : St}, Run P N p ops base (chkD ops base masks kl) (pre ++ i :: post) s s' →
    (∀ k ∈ pre, k < i ∧ apartS ops kl k i = true ∧ (masks.getD i 0).testBit k = false ∧ masks.getD k 0 < 2 ^ k) →
    ∃ o e t w, ops[i]? = some o ∧ (∀ d, o.dst = some d → d < N) ∧ Act1 P N p ops (base + 4 * i) o s e t w ∧ chkD ops base masks kl i t w ∧ Run P N p ops base (chkD ops base masks kl) (pre ++ post) (s.app o e) s'
  | [], s, h, _ => by
    cases h with
    | cons h1 h2 h3 h4 h5 => exact ⟨_, _, _, _, h1, h2, h3, h4, h5⟩
  | k :: pre, s, h, hp => by
    cases h with
    | cons h1 h2 h3 h4 h5 =>
      rename_i ok ek tk wk
      obtain ⟨oi, ei, ti, wi, g1, g2, g3, g4, g5⟩ := Run.bubble pre h5 fun k' hk' => hp k' (List.mem_cons_of_mem _ hk')
      obtain ⟨q1, q2, q3, q4⟩ := hp k List.mem_cons_self
      obtain ⟨a1, a2, a34⟩ := apartS_spec q2 h1 g1
      -- the blocks
      have bits : ∀ x, x ≥ k → (masks.getD k 0).testBit x = false := fun x hx => Nat.testBit_lt_two_pow (Nat.lt_of_lt_of_le q4 (Nat.pow_le_pow_right (by omega) hx))
      have t1 : base + 4 * k ∉ ti := fun hx => by
        rcases g4.1 _ hx with hx | hx
        · omega
        · rw [show (base + 4 * k - base) / 4 = k by omega, q3] at hx; cases hx
      have t2 : base + 4 * i ∉ tk := fun hx => by
        rcases h4.1 _ hx with hx | hx
        · omega
        · rw [show (base + 4 * i - base) / 4 = i by omega, bits i (by omega)] at hx; cases hx
      have dis : (wk = true ∨ wi = true) → ∀ b ∈ tk, b ∉ ti := by
        intro hw b hb hb'
        rcases a34 with ⟨a3, a4⟩ | ⟨a, c, e1, e2, e3⟩
        · rcases hw with hw | hw
          · obtain ⟨o', e1, e2⟩ := h4.2.1 hw
            rw [h1] at e1; cases e1
            rw [g3.touch (a3 e2)] at hb'; cases hb'
          · obtain ⟨o', e1, e2⟩ := g4.2.1 hw
            rw [g1] at e1; cases e1
            rw [h3.touch (a4 e2)] at hb; cases hb
        · exact e3 b (h4.2.2 a e1 b hb) (g4.2.2 c e2 b hb')
      have c1 : ∀ x ∈ ek.ups, x.1 ∉ ti ∧ x.1 ≠ base + 4 * i ∧ ∀ y ∈ ei.ups, y.1 ≠ x.1 := by
        intro x hx
        rcases h3.keys x hx with e | ⟨hw, e⟩
        · rw [e]
          refine ⟨t1, by omega, fun y hy ey => ?_⟩
          rcases g3.keys y hy with e' | ⟨hw', e'⟩
          · omega
          · rw [ey] at e'; exact t1 e'
        · refine ⟨dis (.inl hw) _ e, fun ex => t2 (ex ▸ e), fun y hy ey => ?_⟩
          rcases g3.keys y hy with e' | ⟨hw', e'⟩
          · rw [e'] at ey; exact t2 (ey ▸ e)
          · exact dis (.inl hw) _ e (ey ▸ e')
      have c2 : ∀ y ∈ ei.ups, y.1 ∉ tk ∧ y.1 ≠ base + 4 * k := by
        intro y hy
        rcases g3.keys y hy with e' | ⟨hw', e'⟩
        · rw [e']; exact ⟨t2, by omega⟩
        · exact ⟨fun hx => dis (.inr hw') _ hx e', fun ey => t1 (ey ▸ e')⟩
      obtain ⟨b1, b2, b3⟩ := h3.swap g3 a1 a2 c1 c2
      refine ⟨oi, ei, ti, wi, g1, g2, b1, g4, ?_⟩
      rw [b3] at g5
      exact .cons h1 h2 b2 h4 g5
end

section
variable {P : Program} {C : Cx} {ops : Array Oper} {base : Nat} {masks : List Nat} {kl : Kl} {r : Option Nat} {n : Nat} {Q : Exit → Act → World → Prop}

theorem okDraw_spec (h : okDraw ops masks kl = true) {j : Nat} (hj : j < ops.size) :
    (∀ o, ops[j]? = some o → ∀ e ∈ o.after, Region.binds .any e = true → e.on < j) ∧ masks.getD j 0 < 2 ^ j ∧
    ∀ i, i < j → ((masks.getD j 0).testBit i = true → ∃ o, ops[j]? = some o ∧ ∃ e ∈ o.after, Region.binds .any e = true ∧ (e.on = i ∨ (masks.getD e.on 0).testBit i = true)) ∧
      ((masks.getD j 0).testBit i = false → apartS ops kl i j = true) := by
  unfold okDraw at h
  rw [List.all_eq_true] at h
  have h := h j (by simpa using hj)
  simp only [Bool.and_eq_true] at h
  obtain ⟨⟨h1, h2⟩, h3⟩ := h
  refine ⟨fun o ho e he hb => ?_, by simpa using h2, fun i hi => ?_⟩
  · rw [ho] at h1
    simp only [List.all_eq_true] at h1
    have := h1 e (by simpa using he)
    simpa [hb] using this
  · rw [List.all_eq_true] at h3
    have h3 := h3 i (by simpa using hi)
    constructor
    · intro hb
      rw [if_pos hb] at h3
      cases ho : ops[j]? with
      | none => rw [ho] at h3; cases h3
      | some o =>
        rw [ho] at h3
        simp only [List.any_eq_true] at h3
        obtain ⟨e, he, h3⟩ := h3
        simp only [Bool.and_eq_true, Bool.or_eq_true, beq_iff_eq] at h3
        exact ⟨o, rfl, e, by simpa using he, h3.1, h3.2⟩
    · intro hb
      rw [if_neg (by rw [hb]; simp)] at h3
      exact h3

/-- What is left, in the order of the text. -/
def rest (ops : Array Oper) (listed : Array Bool) : List Nat := (List.range ops.size).filter fun i => !listed.getD i true

theorem Run.any (hok : okDraw ops masks kl = true) : ∀ (fuel : Nat) (listed : Array Bool) {s s' : St} {E : Env} {a : Act} {W : World}, listed.size = ops.size →
    (∀ m, m < ops.size → listed.getD m true = true → ∀ k, (masks.getD m 0).testBit k = true → listed.getD k true = true) →
    (rest ops listed).length ≤ fuel → Run P C.N C.p ops base (chkD ops base masks kl) (rest ops listed) s s' → Inv C E s a W → (∀ i, i < ops.size → base + 4 * i < s.nx) →
    (∀ E' a' W', E.le E' → Inv C E' s' a' W' → Q .normal a' W') → wpAnyIn (fe r) n P .any ops Q fuel listed a W := by
  -- while something is left, something may come up
  have stuck : ∀ (listed : Array Bool), listed.size = ops.size → Region.ready .any ops listed = [] → rest ops listed = [] := by
    intro listed hsz hr
    cases hl : rest ops listed with
    | nil => rfl
    | cons i l =>
      exfalso
      have hmem : i ∈ rest ops listed := by rw [hl]; exact List.mem_cons_self
      unfold rest at hmem
      rw [List.mem_filter, List.mem_range] at hmem
      obtain ⟨hi, hun⟩ := hmem
      obtain ⟨o, ho⟩ : ∃ o, ops[i]? = some o := ⟨ops[i], by simp [hi]⟩
      have hmin : ∀ k, k < i → listed.getD k true = true := by
        intro k hk
        cases hkl : listed.getD k true with
        | true => rfl
        | false =>
          exfalso
          have hkm : k ∈ rest ops listed := by
            unfold rest; rw [List.mem_filter, List.mem_range]; exact ⟨by omega, by rw [hkl]; rfl⟩
          have hsorted : (rest ops listed).Pairwise (· < ·) := List.Pairwise.filter _ (List.pairwise_lt_range)
          rw [hl] at hsorted hkm
          rcases List.mem_cons.1 hkm with rfl | hkm
          · omega
          · have := (List.pairwise_cons.1 hsorted).1 k hkm; omega
      have : i ∈ Region.ready .any ops listed := by
        rw [mem_ready]
        refine ⟨by simpa using hun, o, ho, fun e he hb => ?_⟩
        have hlt := (okDraw_spec hok hi).1 o ho e he hb
        have := hmin e.on hlt
        have hsz' : e.on < listed.size := by omega
        simpa [Array.getD, hsz'] using this
      rw [hr] at this; cases this
  intro fuel
  induction fuel with
  | zero =>
    intro listed s s' E a W hsz hcl hlen hrun h hnx hQ
    have hnil : rest ops listed = [] := List.eq_nil_of_length_eq_zero (by omega)
    rw [hnil] at hrun
    cases hrun
    refine ⟨?_, hQ E a W E.le_refl h⟩
    cases hr : Region.ready .any ops listed with
    | nil => rfl
    | cons i l =>
      have hi : i ∈ Region.ready .any ops listed := by rw [hr]; exact List.mem_cons_self
      rw [mem_ready] at hi
      obtain ⟨h0, o, ho, _⟩ := hi
      have hlt : i < ops.size := by
        rcases Nat.lt_or_ge i ops.size with h | h
        · exact h
        · simp [h] at ho
      have : i ∈ rest ops listed := by
        unfold rest; rw [List.mem_filter, List.mem_range]; exact ⟨hlt, by rw [h0]; rfl⟩
      rw [hnil] at this; cases this
  | succ fuel ih =>
    intro listed s s' E a W hsz hcl hlen hrun h hnx hQ
    refine ⟨fun hr => ?_, fun i hi => ?_⟩
    · rw [stuck listed hsz hr] at hrun
      cases hrun
      exact hQ E a W E.le_refl h
    · rw [mem_ready] at hi
      obtain ⟨h0, o, ho, hall⟩ := hi
      have hlt : i < ops.size := by
        rcases Nat.lt_or_ge i ops.size with h | h
        · exact h
        · simp [h] at ho
      have hmem : i ∈ rest ops listed := by
        unfold rest; rw [List.mem_filter, List.mem_range]; exact ⟨hlt, by rw [h0]; rfl⟩
      obtain ⟨pre, post, hpp⟩ := List.append_of_mem hmem
      have hsorted : (rest ops listed).Pairwise (· < ·) := List.Pairwise.filter _ (List.pairwise_lt_range)
      have hpre : ∀ k ∈ pre, k < i := by
        intro k hk
        rw [hpp, List.pairwise_append] at hsorted
        exact hsorted.2.2 k hk i List.mem_cons_self
      have getD_ft : ∀ k, k < ops.size → listed.getD k false = listed.getD k true := fun k hk => by
        have : k < listed.size := by omega
        simp [Array.getD, this]
      -- whatever is left ahead of it is not among what it waits for
      have hbit : ∀ k ∈ pre, (masks.getD i 0).testBit k = false := by
        intro k hk
        cases hb : (masks.getD i 0).testBit k with
        | false => rfl
        | true =>
          exfalso
          obtain ⟨o', ho', e, he, hbd, hek⟩ := ((okDraw_spec hok hlt).2.2 k (hpre k hk)).1 hb
          rw [ho] at ho'; cases ho'
          have hon := (okDraw_spec hok hlt).1 o ho e he hbd
          have hl := hall e he hbd
          rw [getD_ft e.on (by omega)] at hl
          have hkl : listed.getD k true = true := by
            rcases hek with rfl | hek
            · exact hl
            · exact hcl e.on (by omega) hl k hek
          have hkm : k ∈ rest ops listed := by rw [hpp]; exact List.mem_append_left _ hk
          unfold rest at hkm
          rw [List.mem_filter] at hkm
          rw [hkl] at hkm
          simp at hkm
      rw [hpp] at hrun
      obtain ⟨o', e, t, w, g1, g2, g3, g4, g5⟩ := Run.bubble pre hrun fun k hk => ⟨hpre k hk, ((okDraw_spec hok hlt).2.2 k (hpre k hk)).2 (hbit k hk), hbit k hk, by
        have hk' : k ∈ rest ops listed := by rw [hpp]; exact List.mem_append_left _ hk
        unfold rest at hk'
        rw [List.mem_filter, List.mem_range] at hk'
        exact (okDraw_spec hok hk'.1).2.1⟩
      have hrest : rest ops (listed.setIfInBounds i true) = pre ++ post := by
        have hnd : (rest ops listed).Nodup := hsorted.imp (fun h => Nat.ne_of_lt h)
        have e1 : rest ops (listed.setIfInBounds i true) = (rest ops listed).filter (fun j => j != i) := by
          unfold rest
          rw [List.filter_filter]
          refine List.filter_congr fun j hj => ?_
          rw [List.mem_range] at hj
          by_cases hji : j = i
          · subst hji
            have : j < listed.size := by omega
            simp [Array.getD, this]
          · rw [getD_set_ne true (Ne.symm hji)]
            simp [hji]
        rw [e1, hpp, List.filter_append, List.filter_cons]
        rw [hpp] at hnd
        have h1 := List.nodup_append.1 hnd
        have p1 : pre.filter (fun j => j != i) = pre := List.filter_eq_self.2 fun j hj => by
          have := hpre j hj
          simp; omega
        have p2 : post.filter (fun j => j != i) = post := List.filter_eq_self.2 fun j hj => by
          have := (List.nodup_cons.1 h1.2.1).1
          simp; intro ej; subst ej; exact this hj
        rw [p1, p2]
        simp
      refine g3.ok h g1 g2 (hnx i hlt) fun E' a' W' hE h' => ?_
      refine ih (listed.setIfInBounds i true) (s := s.app o' e) (s' := s') (E := E') (by simp [hsz]) ?_ ?_ (by rw [hrest]; exact g5) h' hnx fun E2 a2 W2 hE2 h2 => hQ E2 a2 W2 (Env.le_trans hE hE2) h2
      · intro m hm hml k hb
        by_cases hki : k = i
        · subst hki
          have : k < listed.size := by omega
          simp [Array.getD, this]
        · rw [getD_set_ne true (Ne.symm hki)]
          by_cases hmi : m = i
          · subst hmi
            have hkm : k < m := by
              rcases Nat.lt_or_ge k m with h | h
              · exact h
              · rw [Nat.testBit_lt_two_pow (Nat.lt_of_lt_of_le (okDraw_spec hok hm).2.1 (Nat.pow_le_pow_right (by omega) h))] at hb; cases hb
            obtain ⟨o2, ho2, e2, he2, hbd2, hek⟩ := ((okDraw_spec hok hm).2.2 k hkm).1 hb
            rw [ho] at ho2; cases ho2
            have hon := (okDraw_spec hok hm).1 o ho e2 he2 hbd2
            have hl := hall e2 he2 hbd2
            rw [getD_ft e2.on (by omega)] at hl
            rcases hek with rfl | hek
            · exact hl
            · exact hcl e2.on (by omega) hl k hek
          · rw [getD_set_ne true (Ne.symm hmi)] at hml
            exact hcl m hm hml k hb
      · rw [hrest]
        rw [hpp] at hlen
        simp at hlen ⊢
        omega
end
end Go.Abs
