/- Laws of the plain functions. Conditions: as each theorem states them. -/
import Derived.Test.YtglfdaompjkeoaaY0
import Derived.Test.YtglfdaompjkeoaaA4
import Derived.KernelRfl
/- Saddles: the greatest least height of a way. -/
namespace Lf
open Go Go.Abs
set_option linter.unusedVariables false
set_option linter.unusedSimpArgs false
/-- A way over cells of at least a height. -/
inductive Way (w h : Nat) (l : List Bound) (θ : Int) (a : Nat) : Nat → Prop
  | start : a < w * h → θ ≤ hgtB (atB l a) → Way w h l θ a a
  | step {i j : Nat} : Way w h l θ a i → j < w * h → adj w i j → θ ≤ hgtB (atB l j) → Way w h l θ a j
section
variable {w h : Nat} {l : List Bound} {θ θ' : Int} {a b c : Nat}
theorem Way.lt (k : Way w h l θ a b) : b < w * h := by cases k <;> assumption
theorem Way.top (k : Way w h l θ a b) : θ ≤ hgtB (atB l b) := by cases k <;> assumption
theorem Way.mono (k : Way w h l θ a b) (e : θ' ≤ θ) : Way w h l θ' a b := by
  induction k with
  | start h1 h2 => exact .start h1 (Int.le_trans e h2)
  | step k h1 h2 h3 ih => exact .step ih h1 h2 (Int.le_trans e h3)
theorem Way.trans (k : Way w h l θ a b) (m : Way w h l θ b c) : Way w h l θ a c := by
  induction m with
  | start h1 h2 => exact k
  | step m h1 h2 h3 ih => exact .step ih h1 h2 h3
theorem Way.symm (k : Way w h l θ a b) : Way w h l θ b a := by
  induction k with
  | start h1 h2 => exact .start h1 h2
  | step k h1 h2 h3 ih => exact (Way.step (.start h1 h3) k.lt h2.symm k.top).trans ih
end
theorem cell_mod {w x : Nat} (y : Nat) (hx : x < w) : (y * w + x) % w = x := by rw [Nat.mul_comm, Nat.mul_add_mod]; exact Nat.mod_eq_of_lt hx
theorem cell_div {w x : Nat} (y : Nat) (hx : x < w) : (y * w + x) / w = y := by rw [Nat.mul_comm, Nat.mul_add_div (by omega), Nat.div_eq_of_lt hx]; omega
theorem cell_lt {w h x y : Nat} (hx : x < w) (hy : y < h) : y * w + x < w * h := by
  have := Nat.mul_le_mul_right w (show y + 1 ≤ h by omega)
  rw [Nat.succ_mul, Nat.mul_comm h w] at this; omega
theorem cell_adj {w x y x' y' : Nat} (hx : x < w) (hx' : x' < w) (h : ¬ (x = x' ∧ y = y')) (h1 : x ≤ x' + 1 ∧ x' ≤ x + 1) (h2 : y ≤ y' + 1 ∧ y' ≤ y + 1) : adj w (y * w + x) (y' * w + x') := by
  unfold adj
  rw [cell_mod y hx, cell_mod y' hx', cell_div y hx, cell_div y' hx']
  refine ⟨fun e => h ?_, h1.1, h1.2, h2.1, h2.2⟩
  have e1 := congrArg (· % w) e; have e2 := congrArg (· / w) e
  simp only [cell_mod y hx, cell_mod y' hx', cell_div y hx, cell_div y' hx'] at e1 e2
  exact ⟨e1, e2⟩
/-- All cells are joined. -/
theorem way_all {w h : Nat} {l : List Bound} {θ : Int} (hθ : ∀ k, θ ≤ hgtB (atB l k)) {a : Nat} (ha : a < w * h) (j : Nat) (hj : j < w * h) : Way w h l θ a j := by
  have w0 : 0 < w := by cases w with | zero => simp at hj | succ n => omega
  have row : ∀ x y x', x < w → y < h → x' < w → Way w h l θ (y * w + x) (y * w + x') := fun x y x' hx hy hx' => by
    have up : ∀ d x, x + d < w → Way w h l θ (y * w + x) (y * w + (x + d)) := fun d => by
      induction d with
      | zero => exact fun x hx => .start (cell_lt (by omega) hy) (hθ _)
      | succ d ih => exact fun x hx => .step (ih x (by omega)) (cell_lt (by omega) hy) (cell_adj (by omega) (by omega) (by omega) (by omega) (by omega)) (hθ _)
    rcases Nat.le_total x x' with q | q
    · have := up (x' - x) x (by omega); rwa [show x + (x' - x) = x' by omega] at this
    · have := up (x - x') x' (by omega); rw [show x' + (x - x') = x by omega] at this; exact this.symm
  have col : ∀ x y y', x < w → y < h → y' < h → Way w h l θ (y * w + x) (y' * w + x) := fun x y y' hx hy hy' => by
    have up : ∀ d y, y + d < h → Way w h l θ (y * w + x) ((y + d) * w + x) := fun d => by
      induction d with
      | zero => exact fun y hy => .start (cell_lt hx (by omega)) (hθ _)
      | succ d ih => exact fun y hy => .step (ih y (by omega)) (cell_lt hx (by omega)) (cell_adj hx hx (by omega) (by omega) (by omega)) (hθ _)
    rcases Nat.le_total y y' with q | q
    · have := up (y' - y) y (by omega); rwa [show y + (y' - y) = y' by omega] at this
    · have := up (y - y') y' (by omega); rw [show y' + (y - y') = y by omega] at this; exact this.symm
  have ax : a % w < w := Nat.mod_lt _ w0
  have jx : j % w < w := Nat.mod_lt _ w0
  have ay : a / w < h := by rw [Nat.div_lt_iff_lt_mul w0, Nat.mul_comm]; exact ha
  have jy : j / w < h := by rw [Nat.div_lt_iff_lt_mul w0, Nat.mul_comm]; exact hj
  have ea := Nat.div_add_mod a w; have ej := Nat.div_add_mod j w
  rw [Nat.mul_comm] at ea ej
  have := (row (a % w) (a / w) (j % w) ax ay jx).trans (col (j % w) (a / w) (j / w) jx ay jy)
  rwa [ea, ej] at this
theorem hgt_low (l : List Bound) : ∃ θ : Int, ∀ k, θ ≤ hgtB (atB l k) := by
  induction l with
  | nil => exact ⟨0, fun k => by unfold atB; simp [hgtB, hgt]⟩
  | cons x l ih =>
    obtain ⟨θ, hθ⟩ := ih
    refine ⟨min θ (hgtB x), fun k => ?_⟩
    cases k with
    | zero => have : atB (x :: l) 0 = x := rfl
              rw [this]; omega
    | succ k => have : atB (x :: l) (k + 1) = atB l k := rfl
                rw [this]; have := hθ k; omega
theorem pushN_ok (l : List Bound) (done : List Bool) (ht : Int) : ∀ (is : List Nat) (q : List HpSt), IsHp q q.length →
    IsHp (pushN l done ht is q) (pushN l done ht is q).length ∧ (∀ e, e ∈ pushN l done ht is q ↔ e ∈ q ∨ ∃ i ∈ is, done.getD i false = false ∧ e = ((i : Int), min ht (hgtB (atB l i)))) ∧ (pushN l done ht is q).length ≤ q.length + is.length
  | [], q, hq => ⟨hq, fun e => by simp [pushN], by simp [pushN]⟩
  | i :: is, q, hq => by
    rw [pushN]
    by_cases hd : done.getD i false = true
    · rw [if_pos hd]
      obtain ⟨h1, h2, h3⟩ := pushN_ok l done ht is q hq
      refine ⟨h1, fun e => ?_, by simp only [List.length_cons]; omega⟩
      rw [h2 e]
      constructor
      · rintro (h | ⟨j, hj, h⟩)
        · exact .inl h
        · exact .inr ⟨j, List.mem_cons_of_mem _ hj, h⟩
      · rintro (h | ⟨j, hj, h, e⟩)
        · exact .inl h
        · rcases List.mem_cons.1 hj with rfl | hj
          · rw [hd] at h; cases h
          · exact .inr ⟨j, hj, h, e⟩
    · rw [if_neg hd]
      have hd : done.getD i false = false := by simpa using hd
      obtain ⟨p1, p2⟩ := push_ok q ((i : Int), min ht (hgtB (atB l i))) hq
      obtain ⟨h1, h2, h3⟩ := pushN_ok l done ht is _ p1
      refine ⟨h1, fun e => ?_, by have := p2.length_eq; simp only [List.length_append, List.length_cons, List.length_nil] at this ⊢; omega⟩
      rw [h2 e, p2.mem_iff, List.mem_append, List.mem_singleton]
      constructor
      · rintro ((h | rfl) | ⟨j, hj, h⟩)
        · exact .inl h
        · exact .inr ⟨i, List.mem_cons_self .., hd, rfl⟩
        · exact .inr ⟨j, List.mem_cons_of_mem _ hj, h⟩
      · rintro (h | ⟨j, hj, h, e⟩)
        · exact .inl (.inl h)
        · rcases List.mem_cons.1 hj with rfl | hj
          · exact .inl (.inr e)
          · exact .inr ⟨j, hj, h, e⟩
/-- What holds at each round of the search. -/
structure SadI (w h : Nat) (l : List Bound) (a : Nat) (q : List HpSt) (out : List Int) (done : List Bool) : Prop where
  hp : IsHp q q.length
  ol : out.length = w * h
  dl : done.length = w * h
  E : ∀ e ∈ q, 0 ≤ e.1 ∧ e.1 < (w * h : Nat) ∧ Way w h l e.2 a e.1.toNat
  S : ∀ j, done.getD j false = true → Way w h l (out.getD j 0) a j
  C : ∀ j θ, done.getD j false = true → Way w h l θ a j → θ ≤ out.getD j 0
  F : done.getD a false = true ∨ ∃ e ∈ q, hgtB (atB l a) ≤ e.2 ∧ e.1 = a
  N : ∀ i j, done.getD i false = true → j < w * h → adj w i j → done.getD j false = true ∨ ∃ e ∈ q, min (out.getD i 0) (hgtB (atB l j)) ≤ e.2 ∧ e.1 = j
theorem SadI.seen {w h : Nat} {l : List Bound} {a : Nat} {q : List HpSt} {out : List Int} {done : List Bool} (I : SadI w h l a q out done) {θ : Int} {j : Nat} (k : Way w h l θ a j) : done.getD j false = true ∨ ∃ e ∈ q, θ ≤ e.2 := by
  induction k with
  | start h1 h2 =>
    rcases I.F with f | ⟨e, he, f, _⟩
    · exact .inl f
    · exact .inr ⟨e, he, Int.le_trans h2 f⟩
  | step k h1 h2 h3 ih =>
    rcases ih with ih | ih
    · rcases I.N _ _ ih h1 h2 with n | ⟨e, he, n, _⟩
      · exact .inl n
      · have := I.C _ _ ih k
        exact .inr ⟨e, he, by omega⟩
    · exact .inr ih
def undone (done : List Bool) : Nat := done.countP fun b => !b
theorem getD_set {α : Type} (xs : List α) (i j : Nat) (v d : α) (hi : i < xs.length) : (xs.set i v).getD j d = if j = i then v else xs.getD j d := by
  simp only [List.getD_eq_getElem?_getD, List.getElem?_set]
  by_cases e : j = i
  · subst e; simp [hi]
  · rw [if_neg (Ne.symm e), if_neg e]
theorem undone_set (done : List Bool) (i : Nat) (hi : i < done.length) (h : done.getD i false = false) : undone (done.set i true) + 1 = undone done := by
  have e : done[i] = false := by simpa [List.getD_eq_getElem?_getD, List.getElem?_eq_getElem hi] using h
  have pos : 0 < done.countP fun b => !b := List.countP_pos_iff.2 ⟨done[i], List.getElem_mem hi, by simp [e]⟩
  unfold undone
  rw [List.countP_set hi]
  simp only [e, Bool.not_false, if_true, Bool.not_true, Bool.false_eq_true, if_false]
  omega
theorem sadL_ok {w h : Nat} {l : List Bound} {a : Nat} (hl : l.length = w * h) : ∀ (f : Nat) (q : List HpSt) (out : List Int) (done : List Bool), SadI w h l a q out done → q.length + 8 * undone done < f → f ≤ 20000 →
    Has (sadL w h l f q out done) fun R => R.length = w * h ∧ (∀ j θ, Way w h l θ a j → θ ≤ R.getD j 0 ∧ Way w h l (R.getD j 0) a j)
  | 0, q, out, done, I, hf, hf2 => by omega
  | f + 1, q, out, done, I, hf, hf2 => by
    rw [sadL]
    refine Has.ite (fun h0 => Has.ret ⟨I.ol, fun j θ k => ?_⟩) fun h0 => Has.pos (by omega) ?_
    · have hq : q = [] := List.length_eq_zero_iff.1 h0
      have d := (I.seen k).resolve_right (by rw [hq]; rintro ⟨e, he, _⟩; cases he)
      exact ⟨I.C j θ d k, I.S j d⟩
    · obtain ⟨p1, p2, p3, p4⟩ := pop_ok q I.hp (by omega)
      generalize (popY q).take (q.length - 1) = q' at p1 p2 p3 ⊢
      generalize atS (popY q) (q.length - 1) = s at p2 p4 ⊢
      obtain ⟨sc, sh⟩ := s
      simp only [] at p4 ⊢
      have ms : ∀ e, e ∈ q ↔ e = (sc, sh) ∨ e ∈ q' := fun e => by rw [← p2.mem_iff, List.mem_cons]
      obtain ⟨s0, s1, sw⟩ := I.E (sc, sh) ((ms _).2 (.inl rfl))
      simp only [] at s0 s1 sw
      refine Has.pos ⟨s0, by rw [hl]; exact s1⟩ ?_
      have s2 : sc.toNat < w * h := by omega
      refine Has.ite (fun hd => ?_) fun hd => ?_
      · refine sadL_ok hl f q' out done ⟨p1, I.ol, I.dl, fun e he => I.E e ((ms e).2 (.inr he)), I.S, I.C, ?_, fun i j di hj hij => ?_⟩ (by omega) (by omega)
        · rcases I.F with q1 | ⟨e, he, q1, q2⟩
          · exact .inl q1
          · rcases (ms e).1 he with rfl | he
            · left
              simp only [] at q2
              rw [q2] at hd; simpa using hd
            · exact .inr ⟨e, he, q1, q2⟩
        · rcases I.N i j di hj hij with q1 | ⟨e, he, q1, q2⟩
          · exact .inl q1
          · rcases (ms e).1 he with rfl | he
            · left
              simp only [] at q2
              rw [q2] at hd; simpa using hd
            · exact .inr ⟨e, he, q1, q2⟩
      · have hd : done.getD sc.toNat false = false := by simpa using hd
        have hsd : sc.toNat < done.length := by rw [I.dl]; exact s2
        have hso : sc.toNat < out.length := by rw [I.ol]; exact s2
        have hsc : (sc.toNat : Int) = sc := by omega
        generalize sc.toNat = s at *
        obtain ⟨n1, n2, n3⟩ := pushN_ok l (done.set s true) sh (nbs w h s) q' p1
        have nl := nbs_len w h s s2
        have un := undone_set done s hsd hd
        have gd : ∀ j, (done.set s true).getD j false = if j = s then true else done.getD j false := fun j => getD_set done s j true false hsd
        have go : ∀ j, (out.set s sh).getD j 0 = if j = s then sh else out.getD j 0 := fun j => getD_set out s j sh 0 hso
        refine sadL_ok hl f _ _ _ ⟨n1, by rw [List.length_set]; exact I.ol, by rw [List.length_set]; exact I.dl, fun e he => ?_, fun j hj => ?_, fun j θ hj k => ?_, ?_, fun i j di hj hij => ?_⟩ (by omega) (by omega)
        · rcases (n2 e).1 he with he | ⟨i, hi, hdi, rfl⟩
          · exact I.E e ((ms e).2 (.inr he))
          · obtain ⟨i1, i2⟩ := (mem_nbs w h s i s2).1 hi
            simp only [Int.toNat_natCast]
            exact ⟨by omega, by omega, .step (sw.mono (by omega)) i1 i2 (by omega)⟩
        · rw [gd] at hj
          rw [go]
          by_cases e : j = s
          · rw [if_pos e, e]; exact sw
          · rw [if_neg e] at hj ⊢; exact I.S j hj
        · rw [gd] at hj
          rw [go]
          by_cases e : j = s
          · rw [if_pos e]
            rw [e] at k
            rcases I.seen k with d | ⟨x, hx, q1⟩
            · rw [hd] at d; cases d
            · exact Int.le_trans q1 (p4 x hx)
          · rw [if_neg e] at hj ⊢; exact I.C j θ hj k
        · rw [gd]
          by_cases e : a = s
          · left; rw [if_pos e]
          · rw [if_neg e]
            rcases I.F with q1 | ⟨x, hx, q1, q2⟩
            · exact .inl q1
            · rcases (ms x).1 hx with rfl | hx
              · simp only [] at q2; omega
              · exact .inr ⟨x, (n2 x).2 (.inl hx), q1, q2⟩
        · rw [gd] at di
          rw [gd, go]
          by_cases ej : j = s
          · left; rw [if_pos ej]
          · rw [if_neg ej]
            by_cases ei : i = s
            · rw [if_pos ei]
              by_cases dj : done.getD j false = true
              · exact .inl dj
              · right
                have dj' : done.getD j false = false := by simpa using dj
                exact ⟨((j : Int), min sh (hgtB (atB l j))), (n2 _).2 (.inr ⟨j, (mem_nbs w h s j s2).2 ⟨hj, by rw [← ei]; exact hij⟩, by rw [gd, if_neg ej]; exact dj', rfl⟩), Int.le_refl _, rfl⟩
            · rw [if_neg ei] at di ⊢
              rcases I.N i j di hj hij with q1 | ⟨x, hx, q1, q2⟩
              · exact .inl q1
              · rcases (ms x).1 hx with rfl | hx
                · simp only [] at q2; omega
                · exact .inr ⟨x, (n2 x).2 (.inl hx), q1, q2⟩
theorem sadR_ok {w h : Nat} {l : List Bound} {a : Nat} (hl : l.length = w * h) (hn : w * h ≤ 1024) (ha : a < w * h) : Has (sadR w h l a) fun R => R.length = w * h ∧ ∀ j, j < w * h → ∀ θ, θ ≤ R.getD j 0 ↔ Way w h l θ a j := by
  unfold sadR
  have rep : ∀ j, (List.replicate l.length false).getD j false = false := fun j => by
    simp only [List.getD_eq_getElem?_getD, List.getElem?_replicate]; split <;> rfl
  have un : undone (List.replicate l.length false) = w * h := by unfold undone; rw [hl, List.countP_replicate]; rfl
  refine (sadL_ok hl (9 * l.length + 1) _ _ _ ⟨fun k k0 k1 => by simp at k1; omega, by simp [hl], by simp [hl], fun e he => ?_, fun j hj => (by rw [rep] at hj; cases hj), fun j θ hj => (by rw [rep] at hj; cases hj), .inr ⟨_, List.mem_cons_self .., Int.le_refl _, rfl⟩, fun i j di => (by rw [rep] at di; cases di)⟩ (by rw [un]; simp only [List.length_cons, List.length_nil]; omega) (by omega)).mono fun R ⟨r1, r2⟩ => ⟨r1, fun j hj θ => ⟨fun e => ?_, fun k => (r2 j θ k).1⟩⟩
  · rw [List.mem_singleton] at he
    rw [he]
    simp only [Int.toNat_natCast]
    exact ⟨by omega, by omega, .start ha (Int.le_refl _)⟩
  · obtain ⟨μ, hμ⟩ := hgt_low l
    exact (r2 j μ (way_all hμ ha j hj)).2.mono e
end Lf
/- The sources that find.Find finds. -/
namespace Lf
open Go Go.Abs
set_option linter.unusedVariables false
set_option linter.unusedSimpArgs false
def SadOf (w h : Nat) (t : List Bound) (p : Int) (R : List Int) : Prop := R.length = w * h ∧ ∀ j, j < w * h → ∀ θ, θ ≤ R.getD j 0 ↔ Way w h t θ p.toNat j
def loB (t : List Bound) (x : Int) : Int := (atB t x.toNat).Lo
theorem getD_snoc {α : Type} (xs : List α) (x d : α) (k : Nat) : (xs ++ [x]).getD k d = if k < xs.length then xs.getD k d else if k = xs.length then x else d := by
  simp only [List.getD_eq_getElem?_getD, List.getElem?_append]
  by_cases h : k < xs.length
  · rw [if_pos h, if_pos h]
  · rw [if_neg h, if_neg h]
    by_cases e : k = xs.length
    · rw [if_pos e, e]; simp
    · rw [if_neg e, List.getElem?_eq_none (by simp; omega)]; rfl
theorem mem_getD {α : Type} (xs : List α) (d : α) (k : Nat) (h : k < xs.length) : xs.getD k d ∈ xs := by
  rw [List.getD_eq_getElem?_getD, List.getElem?_eq_getElem h]; exact List.getElem_mem h
theorem getD_of_mem {α : Type} (xs : List α) (d x : α) (h : x ∈ xs) : ∃ k, k < xs.length ∧ xs.getD k d = x := by
  obtain ⟨k, hk, e⟩ := List.getElem_of_mem h
  exact ⟨k, hk, by rw [List.getD_eq_getElem?_getD, List.getElem?_eq_getElem hk]; exact e⟩
theorem any_way (ws : List (List Int)) (x : Nat) (v : Int) : (ws.any fun R => decide (v ≤ R.getD x 0)) = true ↔ ∃ k, k < ws.length ∧ v ≤ wayG ws k x := by
  rw [List.any_eq_true]
  constructor
  · rintro ⟨R, hR, h⟩
    obtain ⟨k, hk, e⟩ := getD_of_mem ws [] R hR
    exact ⟨k, hk, by unfold wayG; rw [e]; exact of_decide_eq_true h⟩
  · rintro ⟨k, hk, h⟩
    exact ⟨_, mem_getD ws [] k hk, decide_eq_true h⟩
/-- What holds behind a part of the sure cells. -/
structure FdI (w h : Nat) (t : List Bound) (pre ps : List Int) (ws : List (List Int)) : Prop where
  len : ps.length = ws.length
  sad : ∀ k, k < ps.length → SadOf w h t (ps.getD k 0) (ws.getD k [])
  sub : ps.Sublist pre
  new : ∀ j k, j < k → k < ps.length → wayG ws j (ps.getD k 0).toNat < loB t (ps.getD k 0)
  cov : ∀ x ∈ pre, ∃ k, k < ps.length ∧ loB t x ≤ wayG ws k x.toNat
theorem FdI.nil (w h : Nat) (t : List Bound) : FdI w h t [] [] [] := ⟨rfl, fun k hk => by simp at hk, List.Sublist.refl _, fun j k _ hk => by simp at hk, fun x hx => by cases hx⟩
theorem fd1_ok {w h : Nat} {t : List Bound} (hl : t.length = w * h) (hn : w * h ≤ 1024) (L : List Int) (hL : ∀ x ∈ L, 0 ≤ x ∧ x < (w * h : Nat) ∧ loB t x ≤ hgtB (atB t x.toNat))
    (hc : ∀ pre ps ws, pre <+: L → FdI w h t pre ps ws → ps.length < 24) : ∀ (l pre ps : List Int) (ws : List (List Int)), pre ++ l = L → FdI w h t pre ps ws → Has (fd1 w h t l ps ws) fun r => ∃ ps' ws', r = some (ps', ws') ∧ FdI w h t L ps' ws'
  | [], pre, ps, ws, e, I => by
    rw [fd1]
    rw [List.append_nil] at e
    subst e
    exact Has.ret ⟨ps, ws, rfl, I⟩
  | x :: l, pre, ps, ws, e, I => by
    have e' : (pre ++ [x]) ++ l = L := by rw [← e]; simp
    obtain ⟨x0, x1, x2⟩ := hL x (by rw [← e]; simp)
    rw [fd1]
    refine Has.ite (fun ha => ?_) fun ha => Has.neg (by have := hc pre ps ws ⟨x :: l, e⟩ I; omega) ?_
    · obtain ⟨k, hk, hv⟩ := (any_way ws x.toNat _).1 ha
      refine fd1_ok hl hn L hL hc l (pre ++ [x]) ps ws e' ⟨I.len, I.sad, I.sub.trans (List.sublist_append_left _ _), I.new, fun y hy => ?_⟩
      rcases List.mem_append.1 hy with hy | hy
      · exact I.cov y hy
      · rw [List.mem_singleton.1 hy]; exact ⟨k, by rw [I.len]; exact hk, hv⟩
    · have ha : ∀ k, k < ws.length → wayG ws k x.toNat < loB t x := fun k hk => by
        by_cases q : loB t x ≤ wayG ws k x.toNat
        · exact absurd ((any_way ws x.toNat _).2 ⟨k, hk, q⟩) ha
        · omega
      refine (sadR_ok hl hn (show x.toNat < w * h by omega)).bind fun R hR => ?_
      have il := I.len
      have gp : ∀ k, (ps ++ [x]).getD k 0 = if k < ps.length then ps.getD k 0 else if k = ps.length then x else 0 := getD_snoc ps x 0
      have gw : ∀ k, (ws ++ [R]).getD k [] = if k < ws.length then ws.getD k [] else if k = ws.length then R else [] := getD_snoc ws R []
      refine fd1_ok hl hn L hL hc l (pre ++ [x]) (ps ++ [x]) (ws ++ [R]) e' ⟨by simp [il], fun k hk => ?_, I.sub.append (List.Sublist.refl _), fun j k jk hk => ?_, fun y hy => ?_⟩
      · rw [List.length_append, List.length_singleton] at hk
        rw [gp, gw]
        by_cases q : k < ps.length
        · rw [if_pos q, if_pos (by omega)]; exact I.sad k q
        · rw [if_neg q, if_pos (show k = ps.length by omega), if_neg (show ¬ k < ws.length by omega), if_pos (show k = ws.length by omega)]; exact hR
      · rw [List.length_append, List.length_singleton] at hk
        have ej : wayG (ws ++ [R]) j = wayG ws j := by unfold wayG; rw [gw, if_pos (by omega)]
        rw [ej, gp]
        by_cases q : k < ps.length
        · rw [if_pos q]; exact I.new j k jk q
        · rw [if_neg q, if_pos (by omega)]; exact ha j (by omega)
      · have keep : ∀ k, k < ws.length → wayG (ws ++ [R]) k = wayG ws k := fun k hk => by unfold wayG; rw [gw, if_pos hk]
        rcases List.mem_append.1 hy with hy | hy
        · obtain ⟨k, hk, hv⟩ := I.cov y hy
          exact ⟨k, by simp; omega, by rw [keep k (by omega)]; exact hv⟩
        · rw [List.mem_singleton.1 hy]
          refine ⟨ps.length, by simp, ?_⟩
          have : wayG (ws ++ [R]) ps.length x.toNat = R.getD x.toNat 0 := by unfold wayG; rw [gw, if_neg (by omega), if_pos il]
          rw [this, hR.2 x.toNat (by omega)]
          exact .start (by omega) x2
/-- A source is not where another one's light goes down from. -/
theorem FdI.far {w h : Nat} {t : List Bound} {pre ps : List Int} {ws : List (List Int)} (I : FdI w h t pre ps ws) (hp : ∀ x ∈ pre, 0 ≤ x ∧ x < (w * h : Nat)) {j k : Nat} (jk : j < k) (hk : k < ps.length) : ¬ Way w h t (loB t (ps.getD k 0)) (ps.getD j 0).toNat (ps.getD k 0).toNat := fun q => by
  have a := I.new j k jk hk
  have hm := I.sub.subset (mem_getD ps 0 k hk)
  obtain ⟨h0, h1⟩ := hp _ hm
  have := ((I.sad j (by omega)).2 (ps.getD k 0).toNat (by omega) (loB t (ps.getD k 0))).2 q
  have e : wayG ws j (ps.getD k 0).toNat = (ws.getD j []).getD (ps.getD k 0).toNat 0 := rfl
  omega
end Lf
/- find.Find: the sources. -/
namespace Lf
open Go Go.Abs
set_option linter.unusedVariables false
set_option linter.unusedSimpArgs false
theorem gt_atB (l : List Bound) (x : Int) : gt l x = atB l x.toNat := rfl
theorem kyF_lo (c : Cells) (x : Int) : kyF c x = loB c.At x := rfl
/-- What is known of sure cells. -/
theorem SureL.at {c : Cells} {level : Bound} {l : List Int} (h : SureL c level l) (hc : okF c) (x : Int) (hx : x ∈ l) : 0 ≤ x ∧ x < (c.W.toNat * c.H.toNat : Nat) ∧ loB c.At x ≤ hgtB (atB c.At x.toNat) ∧ hgtB (atB c.At x.toNat) = (gt c.At x).Hi := by
  obtain ⟨x0, x1, u, v⟩ := (h.mem x).1 hx
  have b := (hc.cell _ (gt_mem c.At x ⟨x0, x1⟩)).1.le
  have hl := hc.len; have w0 := hc.w0; have h0 := hc.h0
  have e : ((c.W.toNat * c.H.toNat : Nat) : Int) = c.W * c.H := by rw [Int.natCast_mul, Int.toNat_of_nonneg (by omega), Int.toNat_of_nonneg (by omega)]
  have e2 : hgtB (atB c.At x.toNat) = (gt c.At x).Hi := by
    show hgt _ _ (gt c.At x).Unknown = _
    rw [u]; rfl
  exact ⟨x0, by omega, by rw [e2]; exact b, e2⟩
theorem okF.nat {c : Cells} (hc : okF c) : c.At.length = c.W.toNat * c.H.toNat ∧ c.W.toNat * c.H.toNat ≤ 1024 := by
  have hl := hc.len; have w0 := hc.w0; have h0 := hc.h0; have n := hc.n1
  have e : ((c.W.toNat * c.H.toNat : Nat) : Int) = c.W * c.H := by rw [Int.natCast_mul, Int.toNat_of_nonneg (by omega), Int.toNat_of_nonneg (by omega)]
  omega
theorem fd2_len (w : Nat) (ps : List Int) (ws : List (List Int)) : ∀ (l : List Int) (parts : List (List Int)), (fd2 w ps ws l parts).length = parts.length
  | [], parts => rfl
  | x :: l, parts => by rw [fd2, fd2_len]; simp
/-- The sources, as find.Find gives them. -/
def srcs (w : Nat) (l ps : List Int) (ws : List (List Int)) : List Source_ := (ps.zip (fd2 w ps ws (l.mergeSort fun x y => decide (x ≤ y)) (ps.map fun _ => []))).map fun p => Source_.mk p.1 p.2
theorem srcs_len (w : Nat) (l ps : List Int) (ws : List (List Int)) : (srcs w l ps ws).length = ps.length := by unfold srcs; simp [fd2_len]
theorem srcs_at (w : Nat) (l ps : List Int) (ws : List (List Int)) (k : Int) (k0 : 0 ≤ k) (k1 : k < ps.length) : gt (srcs w l ps ws) k = Source_.mk (ps.getD k.toNat 0) ((fd2 w ps ws (l.mergeSort fun x y => decide (x ≤ y)) (ps.map fun _ => [])).getD k.toNat []) := by
  have hk : k.toNat < ps.length := by omega
  have hk2 : k.toNat < (fd2 w ps ws (l.mergeSort fun x y => decide (x ≤ y)) (ps.map fun _ => [])).length := by rw [fd2_len]; simpa using hk
  rw [gt_def _ k ⟨k0, by rw [srcs_len]; exact k1⟩]
  unfold srcs
  simp only [List.getElem_map, List.getElem_zip, List.getD_eq_getElem?_getD, List.getElem?_eq_getElem hk, List.getElem?_eq_getElem hk2, Option.getD_some]
structure FindL (c : Cells) (level : Bound) (l ps : List Int) (ws : List (List Int)) : Prop where
  sure : SureL c level l
  fd : FdI c.W.toNat c.H.toNat c.At l ps ws
theorem find_ok {c : Cells} {level : Bound} (hc : okF c) (hn : c.At.length ≤ 900) (hv : okLv level) (hcount : ∀ l, SureL c level l → ∀ pre ps ws, pre <+: l → FdI c.W.toNat c.H.toNat c.At pre ps ws → ps.length < 24) :
    Has (find_Find c level) fun r => r.2 = 0 ∧ ∃ l ps ws, find_Sure c level = some (l, 0) ∧ FindL c level l ps ws ∧ r.1 = srcs c.W.toNat l ps ws := by
  unfold find_Find
  obtain ⟨⟨l, e⟩, hs, rfl, hS⟩ := sure_ok hc hn hv
  rw [hs]
  obtain ⟨n1, n2⟩ := hc.nat
  simp only [Option.bind_some] at hS ⊢
  have hll : l.length ≤ 1024 := by
    have key : ∀ (n : Nat) (l : List Int), l.Nodup → (∀ x ∈ l, 0 ≤ x ∧ x < n) → l.length ≤ n := fun n => by
      induction n with
      | zero => intro l _ h; cases l with
        | nil => simp
        | cons x l => have := h x (List.mem_cons_self ..); omega
      | succ n ih =>
        intro l nd h
        by_cases hm : (n : Int) ∈ l
        · have := ih (l.erase n) (nd.erase _) fun x hx => by
            have h1 := (nd.mem_erase_iff).1 hx
            have := h x h1.2; have := h1.1; omega
          rw [List.length_erase_of_mem hm] at this; omega
        · have := ih l nd fun x hx => by
            have := h x hx
            have : x ≠ n := fun e => hm (by rw [← e]; exact hx)
            omega
          omega
    have := key (c.W.toNat * c.H.toNat) l hS.nd fun x hx => by have := hS.at hc x hx; omega
    omega
  refine Has.pos ⟨hc.w0, hc.w1, hc.h0, hc.h1, hc.len, fun x hx => by have := hS.at hc x hx; omega, hll⟩ ?_
  unfold fdL
  rw [if_neg (by simp)]
  obtain ⟨r, hr, ps, ws, rfl, hI⟩ := fd1_ok n1 n2 l (fun x hx => by have := hS.at hc x hx; exact ⟨this.1, this.2.1, this.2.2.1⟩) (hcount l hS) l [] [] [] rfl (FdI.nil _ _ _)
  rw [hr]
  exact Has.ret ⟨rfl, l, ps, ws, rfl, ⟨hS, hI⟩, rfl⟩
section
variable {c : Cells} {level : Bound} {l pre ps : List Int} {ws : List (List Int)}
theorem sub_ord (hS : SureL c level l) (hp : ps.Sublist l) : ps.Pairwise (leF c) := hS.ord.sublist hp
theorem pw_getD {R : Int → Int → Prop} {l : List Int} (h : l.Pairwise R) {j k : Nat} (jk : j < k) (hk : k < l.length) : R (l.getD j 0) (l.getD k 0) := by
  have := List.pairwise_iff_getElem.1 h j k (by omega) hk jk
  rwa [show l.getD j 0 = l[j] by simp [List.getD_eq_getElem?_getD, List.getElem?_eq_getElem (show j < l.length by omega)], show l.getD k 0 = l[k] by simp [List.getD_eq_getElem?_getD, List.getElem?_eq_getElem hk]]
/-- Two sources do not touch. -/
theorem src_apart (hc : okF c) (hS : SureL c level l) (hpre : pre <+: l) (I : FdI c.W.toNat c.H.toNat c.At pre ps ws) {j k : Nat} (jk : j < k) (hk : k < ps.length) : ps.getD j 0 ≠ ps.getD k 0 ∧ ¬ adj c.W.toNat (ps.getD j 0).toNat (ps.getD k 0).toNat := by
  have hsub : ps.Sublist l := I.sub.trans hpre.sublist
  have mj := hS.at hc _ (hsub.subset (mem_getD ps 0 j (by omega)))
  have mk := hS.at hc _ (hsub.subset (mem_getD ps 0 k hk))
  have hf := I.far (fun x hx => by have := hS.at hc x (hpre.subset hx); omega) jk hk
  have ho : leF c (ps.getD j 0) (ps.getD k 0) := pw_getD (sub_ord hS hsub) jk hk
  have hlo : loB c.At (ps.getD k 0) ≤ loB c.At (ps.getD j 0) := by rw [← kyF_lo, ← kyF_lo]; unfold leF at ho; omega
  have st : Way c.W.toNat c.H.toNat c.At (loB c.At (ps.getD k 0)) (ps.getD j 0).toNat (ps.getD j 0).toNat := .start (by omega) (by omega)
  refine ⟨fun e => hf ?_, fun a => hf (.step st (by omega) a (by omega))⟩
  rw [← e]; rw [← e] at st; exact st
theorem nodup_lt : ∀ (n : Nat) (l : List Nat), l.Nodup → (∀ x ∈ l, x < n) → l.length ≤ n
  | 0, l, _, h => by
    cases l with
    | nil => simp
    | cons x l => have := h x (List.mem_cons_self ..); omega
  | n + 1, l, nd, h => by
    by_cases hm : n ∈ l
    · have := nodup_lt n (l.erase n) (nd.erase _) fun x hx => by
        have h1 := (nd.mem_erase_iff).1 hx
        have := h x h1.2; have := h1.1; omega
      rw [List.length_erase_of_mem hm] at this; omega
    · have := nodup_lt n l nd fun x hx => by
        have := h x hx
        have : x ≠ n := fun e => hm (by rw [← e]; exact hx)
        omega
      omega
/-- A small field has few sources. -/
theorem few8 (hc : okF c) (hw : c.W ≤ 8) (hh : c.H ≤ 8) (hS : SureL c level l) (hpre : pre <+: l) (I : FdI c.W.toNat c.H.toNat c.At pre ps ws) : ps.length < 24 := by
  have w0 := hc.w0
  have hsub : ps.Sublist l := I.sub.trans hpre.sublist
  obtain ⟨w, hw'⟩ : ∃ w, w = c.W.toNat := ⟨_, rfl⟩
  have hw8 : 0 < w ∧ w ≤ 8 := by omega
  have pos : ∀ x ∈ ps, x.toNat % w < 8 ∧ x.toNat / w < 8 := fun x hx => by
    have m := hS.at hc x (hsub.subset hx)
    rw [← hw'] at m
    have := Nat.mod_lt x.toNat (show w > 0 by omega)
    refine ⟨by omega, ?_⟩
    rw [Nat.div_lt_iff_lt_mul hw8.1, Nat.mul_comm]
    have : w * c.H.toNat ≤ w * 8 := Nat.mul_le_mul_left w (by omega)
    omega
  have nd : (ps.map fun x => x.toNat % w / 2 + 4 * (x.toNat / w / 2)).Nodup := by
    rw [List.Nodup, List.pairwise_map, List.pairwise_iff_getElem]
    intro j k hj hk jk e
    have ap := src_apart hc hS hpre I jk hk
    rw [← hw'] at ap
    have gj : ps.getD j 0 = ps[j] := by simp [List.getD_eq_getElem?_getD, List.getElem?_eq_getElem hj]
    have gk : ps.getD k 0 = ps[k] := by simp [List.getD_eq_getElem?_getD, List.getElem?_eq_getElem hk]
    rw [gj, gk] at ap
    have pj := pos _ (List.getElem_mem hj)
    have pk := pos _ (List.getElem_mem hk)
    have mj := hS.at hc _ (hsub.subset (List.getElem_mem hj))
    have mk := hS.at hc _ (hsub.subset (List.getElem_mem hk))
    refine ap.2 ⟨fun q => ap.1 (by omega), ?_⟩
    generalize ps[j].toNat % w = a at *
    generalize ps[j].toNat / w = b at *
    generalize ps[k].toNat % w = a' at *
    generalize ps[k].toNat / w = b' at *
    omega
  have := nodup_lt 16 _ nd fun x hx => by
    obtain ⟨y, hy, rfl⟩ := List.mem_map.1 hx
    have := pos y hy
    generalize y.toNat % w = a at *
    generalize y.toNat / w = b at *
    omega
  rw [List.length_map] at this
  omega
end
end Lf
/- Ways up to the only point. -/
namespace Lf
open Go Go.Abs
set_option linter.unusedVariables false
set_option linter.unusedSimpArgs false
theorem lit1.up {w h : Nat} {back : Int} {li : List Int} {x0 y0 top k : Int} (L : lit1 w h back li x0 y0 top k) {l : List Bound} (hH : ∀ i : Nat, i < w * h → gt li i ≤ hgtB (atB l i)) (p : Nat) (hp : p < w * h) : Way w h l (gt li p) p (y0.toNat * w + x0.toNat) := by
  have e0 := L.x0; have e1 := L.x1; have e2 := L.y0; have e3 := L.y1; have e4 := L.t0; have e5 := L.k1
  obtain ⟨X, rfl⟩ : ∃ X : Nat, x0 = X := ⟨x0.toNat, by omega⟩
  obtain ⟨Y, rfl⟩ : ∃ Y : Nat, y0 = Y := ⟨y0.toNat, by omega⟩
  simp only [Int.toNat_natCast]
  have hX : X < w := by omega
  have hY : Y < h := by omega
  have val : ∀ x y : Nat, x < w → y < h → gt li ((y * w + x : Nat) : Int) = back + addF top k (mx2 (x - X) (X - x)) (mx2 (y - Y) (Y - y)) := fun x y hx hy => by
    have hc := cell_lt hx hy
    have hc' : ((y * w + x : Nat) : Int) < (w : Int) * h := by rw [← Int.natCast_mul]; omega
    rw [L.v _ (by omega) hc']
    have m1 : ((y * w + x : Nat) : Int) % w = x := by rw [← Int.natCast_emod, cell_mod y hx]
    have m2 : ((y * w + x : Nat) : Int) / w = y := by rw [← Int.natCast_ediv, cell_div y hx]
    rw [m1, m2]
  have row : ∀ (d x y : Nat), x < w → y < h → (mx2 (x - X) (X - x) = (d : Int)) → ∀ θ, θ ≤ gt li ((y * w + x : Nat) : Int) → Way w h l θ (y * w + x) (y * w + X) ∧ θ ≤ gt li ((y * w + X : Nat) : Int) := fun d => by
    induction d with
    | zero =>
      intro x y hx hy hd θ hθ
      have := mx2_def ((x : Int) - X) (X - x)
      have : x = X := by omega
      subst this
      exact ⟨.start (cell_lt hx hy) (Int.le_trans hθ (hH _ (cell_lt hx hy))), hθ⟩
    | succ d ih =>
      intro x y hx hy hd θ hθ
      have h1 := mx2_def ((x : Int) - X) (X - x)
      have st : ∀ x' : Nat, x' < w → (x' = x + 1 ∨ x = x' + 1) → mx2 (x' - X) (X - x') = (d : Int) → Way w h l θ (y * w + x) (y * w + X) ∧ θ ≤ gt li ((y * w + X : Nat) : Int) := fun x' hx' hn hd' => by
        have v1 := val x y hx hy
        have v2 := val x' y hx' hy
        have d0 := mx2_def ((y : Int) - Y) (Y - y)
        have mo := addF_mono (top := top) (k := k) (a := mx2 (x' - X) (X - x')) (b := mx2 (y - Y) (Y - y)) (a' := mx2 (x - X) (X - x)) (b' := mx2 (y - Y) (Y - y)) e4 e5 (by omega) (by omega) (by omega) (Int.le_refl _)
        obtain ⟨k1, k2⟩ := ih x' y hx' hy hd' θ (by omega)
        exact ⟨(Way.step (.start (cell_lt hx hy) (Int.le_trans hθ (hH _ (cell_lt hx hy)))) (cell_lt hx' hy) (cell_adj hx hx' (by omega) (by omega) (by omega)) (Int.le_trans (show θ ≤ _ by omega) (hH _ (cell_lt hx' hy)))).trans k1, k2⟩
      by_cases hl : x < X
      · refine st (x + 1) (by omega) (.inl rfl) ?_
        have := mx2_def (((x + 1 : Nat) : Int) - X) (X - ((x + 1 : Nat) : Int))
        omega
      · refine st (x - 1) (by omega) (.inr (by omega)) ?_
        have := mx2_def (((x - 1 : Nat) : Int) - X) (X - ((x - 1 : Nat) : Int))
        omega
  have col : ∀ (d y : Nat), y < h → (mx2 (y - Y) (Y - y) = (d : Int)) → ∀ θ, θ ≤ gt li ((y * w + X : Nat) : Int) → Way w h l θ (y * w + X) (Y * w + X) := fun d => by
    induction d with
    | zero =>
      intro y hy hd θ hθ
      have := mx2_def ((y : Int) - Y) (Y - y)
      have : y = Y := by omega
      subst this
      exact .start (cell_lt hX hy) (Int.le_trans hθ (hH _ (cell_lt hX hy)))
    | succ d ih =>
      intro y hy hd θ hθ
      have h1 := mx2_def ((y : Int) - Y) (Y - y)
      have st : ∀ y' : Nat, y' < h → (y' = y + 1 ∨ y = y' + 1) → mx2 (y' - Y) (Y - y') = (d : Int) → Way w h l θ (y * w + X) (Y * w + X) := fun y' hy' hn hd' => by
        have v1 := val X y hX hy
        have v2 := val X y' hX hy'
        have d0 := mx2_def ((X : Int) - X) (X - X)
        have mo := addF_mono (top := top) (k := k) (a := mx2 ((X : Int) - X) (X - X)) (b := mx2 (y' - Y) (Y - y')) (a' := mx2 ((X : Int) - X) (X - X)) (b' := mx2 (y - Y) (Y - y)) e4 e5 (by omega) (by omega) (Int.le_refl _) (by omega)
        exact (Way.step (.start (cell_lt hX hy) (Int.le_trans hθ (hH _ (cell_lt hX hy)))) (cell_lt hX hy') (cell_adj hX hX (by omega) (by omega) (by omega)) (Int.le_trans (show θ ≤ _ by omega) (hH _ (cell_lt hX hy')))).trans (ih y' hy' hd' θ (by omega))
      by_cases hl : y < Y
      · refine st (y + 1) (by omega) (.inl rfl) ?_
        have := mx2_def (((y + 1 : Nat) : Int) - Y) (Y - ((y + 1 : Nat) : Int))
        omega
      · refine st (y - 1) (by omega) (.inr (by omega)) ?_
        have := mx2_def (((y - 1 : Nat) : Int) - Y) (Y - ((y - 1 : Nat) : Int))
        omega
  have w0 : 0 < w := by omega
  have px : p % w < w := Nat.mod_lt _ w0
  have py : p / w < h := by rw [Nat.div_lt_iff_lt_mul w0, Nat.mul_comm]; exact hp
  have ep : p / w * w + p % w = p := by rw [Nat.mul_comm]; exact Nat.div_add_mod p w
  have nx : ∃ d : Nat, mx2 (((p % w : Nat) : Int) - X) (X - ((p % w : Nat) : Int)) = d := ⟨_, (Int.toNat_of_nonneg (by have := mx2_def (((p % w : Nat) : Int) - X) (X - ((p % w : Nat) : Int)); omega)).symm⟩
  have ny : ∃ d : Nat, mx2 (((p / w : Nat) : Int) - Y) (Y - ((p / w : Nat) : Int)) = d := ⟨_, (Int.toNat_of_nonneg (by have := mx2_def (((p / w : Nat) : Int) - Y) (Y - ((p / w : Nat) : Int)); omega)).symm⟩
  obtain ⟨dx, hx⟩ := nx
  obtain ⟨dy, hy⟩ := ny
  obtain ⟨r1, r2⟩ := row dx (p % w) (p / w) px py hx (gt li p) (by rw [ep]; exact Int.le_refl _)
  rw [ep] at r1
  exact r1.trans (col dy (p / w) py hy _ r2)
end Lf
/- Levels that are drawn. -/
namespace Lf
open Go Go.Abs
set_option linter.unusedVariables false
set_option linter.unusedSimpArgs false
theorem level_ok (s : spymake_Stream) (back : Int) (hs : okS s) (ha : s.at_ ≤ 4611686018427000000) (hb : 0 ≤ back ∧ back ≤ 1000000000) : Has (Stream_Level s back) fun r => r.1.Unknown = false ∧ back - 5 ≤ r.1.Lo ∧ r.1.Lo ≤ back ∧ back ≤ r.1.Hi ∧ r.1.Hi ≤ back + 5 ∧ after s r.2 2 := by
  unfold Stream_Level
  refine (next_ok s 6 hs (by omega) (by omega)).bind fun a ⟨a1, a2, a3⟩ => ?_
  have hA := a3.ok hs (by omega); have hhA := a3.hi
  refine (next_ok a.2 6 hA (by omega) (by omega)).bind fun b ⟨b1, b2, b3⟩ => ?_
  rw [w6_in (by omega), w6_in (by omega)]
  exact Has.ret ⟨rfl, by simp only []; omega, by simp only []; omega, by simp only []; omega, by simp only []; omega, (a3.trans b3).more (by omega)⟩
end Lf
/- Fields that are drawn, and their levels. -/
namespace Lf
open Go Go.Abs
set_option linter.unusedVariables false
set_option linter.unusedSimpArgs false
theorem Has.and {α : Type} {x : Option α} {P Q : α → Prop} (h : Has x P) (k : Has x Q) : Has x fun a => P a ∧ Q a := by
  obtain ⟨a, e, h⟩ := h
  obtain ⟨b, e', k⟩ := k
  rw [e] at e'; cases e'
  exact ⟨a, e, h, k⟩
/-- Bounds of a light, cell by cell. -/
structure veilF (w h : Int) (light : List Int) (c : Cells) : Prop where
  ok : okF c
  W : c.W = w
  H : c.H = h
  len : (c.At.length : Int) = w * h
  v : ∀ i : Int, 0 ≤ i → i < w * h → veils (gt light i) (gt c.At i)
theorem veilF_ok (s : spymake_Stream) (w h : Int) (light : List Int) (holes : Bool) (hs : okS s) (ha : s.at_ ≤ 4611686018427000000) (w0 : 1 ≤ w) (w1 : w ≤ 32) (h0 : 1 ≤ h) (h1 : h ≤ 32) (hn : (light.length : Int) = w * h) (hl : ∀ x ∈ light, -1000000000000 ≤ x ∧ x ≤ 1000000000000) :
    Has (Stream_Veil s w h light holes) fun r => veilF w h light r.1 ∧ (holes = false → ∀ i : Int, 0 ≤ i → i < w * h → (gt r.1.At i).Unknown = false) ∧ after s r.2 (1 + 3 * light.length) := by
  have hA := area w0 w1 h0 h1
  refine (veil_ok s w h light holes hs ha (by omega) hl).mono fun r ⟨r1, r2, r3, r4, r5⟩ => ⟨⟨⟨by omega, by omega, by omega, by omega, by rw [r1, r2]; omega, ?_⟩, r1, r2, by omega, fun i i0 i1 => (r4 i i0 (by omega)).1⟩, fun e i i0 i1 => (r4 i i0 (by omega)).2 e, r5⟩
  refine allI_mem (allI_mono r4 fun i b i0 i1 hv => ?_)
  have := hl _ (gt_mem light i ⟨i0, by omega⟩)
  exact hv.1.ok this.1 this.2
section
variable {w h : Int} {light : List Int} {c : Cells} (F : veilF w h light c)
include F
theorem veilF.hi (hl : ∀ x ∈ light, x ≤ 1000000000000) (hn : (light.length : Int) = w * h) (i : Nat) (hi : (i : Int) < w * h) : gt light i ≤ hgtB (atB c.At i) := by
  have := F.v i (by omega) hi
  have e : gt c.At (i : Int) = atB c.At i := by rw [gt_atB]; simp
  rw [e] at this
  have b := hl _ (gt_mem light i ⟨by omega, by omega⟩)
  rcases this with q | ⟨u, _, _, q, _⟩
  · rw [q]; show _ ≤ (4611686018427387904 : Int); omega
  · show _ ≤ hgt _ _ (atB c.At i).Unknown
    rw [u]; exact q
theorem veilF.lo {level : Bound} {l : List Int} (hS : SureL c level l) (x : Int) (hx : x ∈ l) : loB c.At x ≤ gt light x := by
  obtain ⟨x0, x1, u, _⟩ := (hS.mem x).1 hx
  have := F.v x x0 (by have := F.len; omega)
  rcases this with q | ⟨_, _, q, _, _⟩
  · rw [q] at u; cases u
  · exact q
end
/-- A level as it is drawn. -/
theorem levelF_ok (s : spymake_Stream) (back : Int) (hs : okS s) (ha : s.at_ ≤ 4611686018427000000) (hb : 0 ≤ back ∧ back ≤ 1000000000) : Has (Stream_Level s back) fun r => okLv r.1 ∧ back - 5 ≤ r.1.Lo ∧ r.1.Hi ≤ back + 5 ∧ after s r.2 2 :=
  (level_ok s back hs ha hb).mono fun r ⟨r1, r2, r3, r4, r5, r6⟩ => ⟨⟨⟨(fun e => by rw [r1] at e; cases e), by omega, by omega, by omega⟩, r1, by omega, by omega⟩, r2, r5, r6⟩
end Lf
/- The fact of two sources. -/
namespace Lf
open Go Go.Abs
set_option linter.unusedVariables false
set_option linter.unusedSimpArgs false
def twoC : Cells := Cells.mk 5 1 [⟨3, 4, false⟩, ⟨9, 9, false⟩, ⟨1, 7, false⟩, ⟨8, 10, false⟩, ⟨1, 12, false⟩]
theorem twoC_ok : okF twoC where
  w0 := by decide
  w1 := by decide
  h0 := by decide
  h1 := by decide
  len := by decide
  cell := fun b hb => by
    simp only [twoC, List.mem_cons, List.not_mem_nil, or_false] at hb
    rcases hb with rfl | rfl | rfl | rfl | rfl <;> exact ⟨okKnown (by decide) (by decide) (by decide), by decide, by decide⟩
theorem twoC_sure : find_Sure twoC ⟨0, 2, false⟩ = some ([1, 3, 0], 0) := by
  obtain ⟨⟨l, e⟩, hs, rfl, hS⟩ := sure_ok twoC_ok (by decide) (level := ⟨0, 2, false⟩) ⟨okKnown (by decide) (by decide) (by decide), rfl, by decide, by decide⟩
  rw [hs]
  have h2 : ([1, 3, 0] : List Int).Pairwise (leF twoC) := by
    have : ∀ a b, leF twoC a b ↔ (kyF twoC b < kyF twoC a ∨ (kyF twoC a = kyF twoC b ∧ a ≤ b)) := fun a b => Iff.rfl
    refine List.pairwise_cons.2 ⟨fun a ha => (this _ _).2 ?_, List.pairwise_cons.2 ⟨fun a ha => (this _ _).2 ?_, List.pairwise_cons.2 ⟨fun a ha => (by cases ha), List.Pairwise.nil⟩⟩⟩
    · simp only [List.mem_cons, List.not_mem_nil, or_false] at ha
      rcases ha with rfl | rfl <;> decide
    · simp only [List.mem_cons, List.not_mem_nil, or_false] at ha
      subst ha; decide
  have hm : ∀ x, x ∈ l ↔ x ∈ ([1, 3, 0] : List Int) := fun x => by
    rw [hS.mem]
    constructor
    · rintro ⟨h0, h1, h2⟩
      have h1 : x < 5 := h1
      have : x = 0 ∨ x = 1 ∨ x = 2 ∨ x = 3 ∨ x = 4 := by omega
      rcases this with rfl | rfl | rfl | rfl | rfl
      · decide
      · decide
      · exact absurd h2.2 (by decide)
      · decide
      · exact absurd h2.2 (by decide)
    · intro h
      simp only [List.mem_cons, List.not_mem_nil, or_false] at h
      rcases h with rfl | rfl | rfl <;> exact ⟨by decide, by decide, rfl, by decide⟩
  have hp : l.Perm [1, 3, 0] := (List.perm_ext_iff_of_nodup hS.nd (by decide)).2 hm
  have := hp.eq_of_pairwise (fun a b _ _ h k => h.anti k) hS.ord h2
  simp only [] at this
  rw [this]
theorem twoC_fd1 : ∃ ws, fd1 5 1 twoC.At [1, 3, 0] [] [] = some (some ([1, 3], ws)) := ⟨[[4, 9, 7, 7, 7], [4, 7, 7, 10, 10]], by kernel_rfl⟩
theorem two_ok : spykeep4_two = some true := by
  unfold spykeep4_two spykeep4_two_1
  simp only [Option.bind_some]
  have hf : Has (find_Find twoC ⟨0, 2, false⟩) fun r => r.2 = 0 ∧ ∃ ws, r.1 = srcs 5 [1, 3, 0] [1, 3] ws := by
    unfold find_Find
    rw [twoC_sure]
    simp only [Option.bind_some]
    refine Has.pos (by decide) ?_
    unfold fdL
    rw [if_neg (by simp)]
    obtain ⟨ws, h⟩ := twoC_fd1
    have h' : fd1 twoC.W.toNat twoC.H.toNat twoC.At [1, 3, 0] [] [] = some (some ([1, 3], ws)) := h
    rw [h']
    exact Has.ret ⟨rfl, ws, rfl⟩
  obtain ⟨⟨s, e⟩, hr, rfl, ws, rfl⟩ := hf
  have hr : find_Find (Cells.mk 5 1 [⟨3, 4, false⟩, ⟨9, 9, false⟩, ⟨1, 7, false⟩, ⟨8, 10, false⟩, ⟨1, 12, false⟩]) ⟨0, 2, false⟩ = some (srcs 5 [1, 3, 0] [1, 3] ws, 0) := hr
  rw [hr]
  have hl : (srcs 5 [1, 3, 0] [1, 3] ws).length = 2 := srcs_len _ _ _ _
  have g0 : (gt (srcs 5 [1, 3, 0] [1, 3] ws) 0).Peak = 1 := by rw [srcs_at _ _ _ _ 0 (by decide) (by decide)]; rfl
  have g1 : (gt (srcs 5 [1, 3, 0] [1, 3] ws) 1).Peak = 3 := by rw [srcs_at _ _ _ _ 1 (by decide) (by decide)]; rfl
  simp only [Option.bind_some, hl, g0, g1]
  rfl
end Lf
/- FindOnce: a field with one point, and any bounds around its light, has one source if a cell is sure, and otherwise none. -/
namespace Lf
open Go Go.Abs
set_option linter.unusedVariables false
set_option linter.unusedSimpArgs false
theorem FindOnce_true (l : List Int) (hl : okL l) : spykeep4_FindOnce l = some true := by
  apply Has.val
  have h0 := okS.start hl
  unfold spykeep4_FindOnce
  refine (range_ok _ 1 12 h0 (by simp only []; omega) (by omega) (by omega) (by omega)).bind fun r1 ⟨w0, w1, s1⟩ => ?_
  have o1 := s1.ok h0 (by simp only []; omega); have b1 := s1.hi
  refine (range_ok _ 1 12 o1 (by simp only [] at b1; omega) (by omega) (by omega) (by omega)).bind fun r2 ⟨g0, g1, s2⟩ => ?_
  have o2 := s2.ok o1 (by simp only [] at b1; omega); have b2 := s2.hi
  have hA : r1.1 * r2.1 ≤ 144 := by
    have a := Int.mul_le_mul_of_nonneg_right w1 (show 0 ≤ r2.1 by omega)
    omega
  have hA0 := area w0 (by omega) g0 (by omega)
  refine ((lights_ok r2.2 r1.1 r2.1 1 o2 (by simp only [] at b1 b2; omega) w0 (by omega) g0 (by omega) (by omega) (by omega)).and (lights1_ok r2.2 r1.1 r2.1 o2 (by simp only [] at b1 b2; omega) w0 (by omega) g0 (by omega))).bind fun r3 ⟨⟨l1, l2, l3, s3⟩, l4, x0, y0, top, k, L⟩ => ?_
  have o3 := s3.ok o2 (by simp only [] at b1 b2; omega); have b3 := s3.hi
  have lv : ∀ x ∈ r3.1, -1000000000000 ≤ x ∧ x ≤ 1000000000000 := fun x hx => by have := l1.v x hx; omega
  refine (veilF_ok r3.2.2 r1.1 r2.1 r3.1 true o3 (by simp only [] at b1 b2 b3; omega) w0 (by omega) g0 (by omega) l4 lv).bind fun r4 ⟨F, _, s4⟩ => ?_
  have o4 := s4.ok o3 (by simp only [] at b1 b2 b3; omega); have b4 := s4.hi
  refine (levelF_ok r4.2 r3.2.1 o4 (by simp only [] at b1 b2 b3 b4; omega) (by omega)).bind fun r5 ⟨V, _, _, s5⟩ => ?_
  have hc := F.ok
  have hlen := F.len
  obtain ⟨n1, n2⟩ := hc.nat
  have eW := F.W; have eH := F.H
  have one : ∀ sl, SureL r4.1 r5.1 sl → ∀ pre ps ws, pre <+: sl → FdI r4.1.W.toNat r4.1.H.toNat r4.1.At pre ps ws → ps.length ≤ 1 := fun sl hS pre ps ws hpre I => by
    by_cases h2 : ps.length ≤ 1
    · exact h2
    · exfalso
      have hsub : ps.Sublist sl := I.sub.trans hpre.sublist
      have m0 := hsub.subset (mem_getD ps 0 0 (by omega))
      have m1 := hsub.subset (mem_getD ps 0 1 (by omega))
      have q0 := hS.at hc _ m0
      have q1 := hS.at hc _ m1
      have ho : leF r4.1 (ps.getD 0 0) (ps.getD 1 0) := pw_getD (sub_ord hS hsub) (by omega) (by omega)
      have hlo : loB r4.1.At (ps.getD 1 0) ≤ loB r4.1.At (ps.getD 0 0) := by rw [← kyF_lo, ← kyF_lo]; unfold leF at ho; omega
      have v0 := F.lo hS _ m0
      have v1 := F.lo hS _ m1
      have e : ((r4.1.W.toNat * r4.1.H.toNat : Nat) : Int) = r1.1 * r2.1 := by rw [Int.natCast_mul, Int.toNat_of_nonneg (by omega), Int.toNat_of_nonneg (by omega), eW, eH]
      have L' : lit1 r4.1.W.toNat r4.1.H.toNat r3.2.1 r3.1 x0 y0 top k := by
        rw [Int.toNat_of_nonneg (by omega), Int.toNat_of_nonneg (by omega), eW, eH]; exact L
      have up := fun p hp => L'.up (l := r4.1.At) (fun i hi => F.hi (fun x hx => (lv x hx).2) l4 i (by omega)) p hp
      have u0 := up (ps.getD 0 0).toNat (by omega)
      have u1 := up (ps.getD 1 0).toNat (by omega)
      rw [Int.toNat_of_nonneg q0.1] at u0
      rw [Int.toNat_of_nonneg q1.1] at u1
      exact I.far (fun x hx => by have := hS.at hc x (hpre.subset hx); omega) (show 0 < 1 by omega) (by omega) ((u0.mono (by omega)).trans (u1.mono v1).symm)
  obtain ⟨⟨sr, e⟩, hf, rfl, sl, ps, ws, hsu, hL, rfl⟩ := find_ok hc (by omega) V fun sl hS pre ps ws hpre I => by have := one sl hS pre ps ws hpre I; omega
  have h1 := one sl hL.sure sl ps ws (List.prefix_refl _) hL.fd
  have key : (ps.length : Int) = mn2 1 sl.length := by
    cases hsl : sl with
    | nil =>
      have := hL.fd.sub
      rw [hsl] at this
      rw [List.sublist_nil.1 this]; rfl
    | cons x t =>
      obtain ⟨k, hk, _⟩ := hL.fd.cov x (by rw [hsl]; exact List.mem_cons_self ..)
      rw [mn2_le (by simp only [List.length_cons]; omega)]
      omega
  rw [hsu]
  simp only [Option.bind_some]
  rw [hf, two_ok]
  simp only [Option.bind_some, if_true, beq_self_eq_true, srcs_len, ← key]
  exact Has.ret rfl
end Lf
