/- Laws of the plain functions. Conditions: as each theorem states them. -/
import Derived.Test.YthkoiigocmlbbaaY0
import Derived.Test.YthkoiigocmlbbaaA4
import Derived.KernelRfl
/- Saddles: the greatest least height of a way. -/
namespace Lf
open Go Go.Abs
set_option linter.unusedVariables false
set_option linter.unusedSimpArgs false
/-- A way over cells of at least a height. -/
inductive Way (w h : Nat) (l : List Bound) (θ : Int) (a : Nat) : Nat → Prop
  | start : a < w * h → θ ≤ hgtB (atB l a) → Way w h l θ a a
  | step {i j : Nat} : Way w h l θ a i → j < w * h → adj w i j → θ ≤ hgtB (atB l j) → Way w h l θ a j
section
variable {w h : Nat} {l : List Bound} {θ θ' : Int} {a b c : Nat}
theorem Way.lt (k : Way w h l θ a b) : b < w * h := by cases k <;> assumption
theorem Way.top (k : Way w h l θ a b) : θ ≤ hgtB (atB l b) := by cases k <;> assumption
theorem Way.mono (k : Way w h l θ a b) (e : θ' ≤ θ) : Way w h l θ' a b := by
  induction k with
  | start h1 h2 => exact .start h1 (Int.le_trans e h2)
  | step k h1 h2 h3 ih => exact .step ih h1 h2 (Int.le_trans e h3)
theorem Way.trans (k : Way w h l θ a b) (m : Way w h l θ b c) : Way w h l θ a c := by
  induction m with
  | start h1 h2 => exact k
  | step m h1 h2 h3 ih => exact .step ih h1 h2 h3
theorem Way.symm (k : Way w h l θ a b) : Way w h l θ b a := by
  induction k with
  | start h1 h2 => exact .start h1 h2
  | step k h1 h2 h3 ih => exact (Way.step (.start h1 h3) k.lt h2.symm k.top).trans ih
end
theorem cell_mod {w x : Nat} (y : Nat) (hx : x < w) : (y * w + x) % w = x := by rw [Nat.mul_comm, Nat.mul_add_mod]; exact Nat.mod_eq_of_lt hx
theorem cell_div {w x : Nat} (y : Nat) (hx : x < w) : (y * w + x) / w = y := by rw [Nat.mul_comm, Nat.mul_add_div (by omega), Nat.div_eq_of_lt hx]; omega
theorem cell_lt {w h x y : Nat} (hx : x < w) (hy : y < h) : y * w + x < w * h := by
  have := Nat.mul_le_mul_right w (show y + 1 ≤ h by omega)
  rw [Nat.succ_mul, Nat.mul_comm h w] at this; omega
theorem cell_adj {w x y x' y' : Nat} (hx : x < w) (hx' : x' < w) (h : ¬ (x = x' ∧ y = y')) (h1 : x ≤ x' + 1 ∧ x' ≤ x + 1) (h2 : y ≤ y' + 1 ∧ y' ≤ y + 1) : adj w (y * w + x) (y' * w + x') := by
  unfold adj
  rw [cell_mod y hx, cell_mod y' hx', cell_div y hx, cell_div y' hx']
  refine ⟨fun e => h ?_, h1.1, h1.2, h2.1, h2.2⟩
  have e1 := congrArg (· % w) e; have e2 := congrArg (· / w) e
  simp only [cell_mod y hx, cell_mod y' hx', cell_div y hx, cell_div y' hx'] at e1 e2
  exact ⟨e1, e2⟩
/-- All cells are joined. -/
theorem way_all {w h : Nat} {l : List Bound} {θ : Int} (hθ : ∀ k, θ ≤ hgtB (atB l k)) {a : Nat} (ha : a < w * h) (j : Nat) (hj : j < w * h) : Way w h l θ a j := by
  have w0 : 0 < w := by cases w with | zero => simp at hj | succ n => omega
  have row : ∀ x y x', x < w → y < h → x' < w → Way w h l θ (y * w + x) (y * w + x') := fun x y x' hx hy hx' => by
    have up : ∀ d x, x + d < w → Way w h l θ (y * w + x) (y * w + (x + d)) := fun d => by
      induction d with
      | zero => exact fun x hx => .start (cell_lt (by omega) hy) (hθ _)
      | succ d ih => exact fun x hx => .step (ih x (by omega)) (cell_lt (by omega) hy) (cell_adj (by omega) (by omega) (by omega) (by omega) (by omega)) (hθ _)
    rcases Nat.le_total x x' with q | q
    · have := up (x' - x) x (by omega); rwa [show x + (x' - x) = x' by omega] at this
    · have := up (x - x') x' (by omega); rw [show x' + (x - x') = x by omega] at this; exact this.symm
  have col : ∀ x y y', x < w → y < h → y' < h → Way w h l θ (y * w + x) (y' * w + x) := fun x y y' hx hy hy' => by
    have up : ∀ d y, y + d < h → Way w h l θ (y * w + x) ((y + d) * w + x) := fun d => by
      induction d with
      | zero => exact fun y hy => .start (cell_lt hx (by omega)) (hθ _)
      | succ d ih => exact fun y hy => .step (ih y (by omega)) (cell_lt hx (by omega)) (cell_adj hx hx (by omega) (by omega) (by omega)) (hθ _)
    rcases Nat.le_total y y' with q | q
    · have := up (y' - y) y (by omega); rwa [show y + (y' - y) = y' by omega] at this
    · have := up (y - y') y' (by omega); rw [show y' + (y - y') = y by omega] at this; exact this.symm
  have ax : a % w < w := Nat.mod_lt _ w0
  have jx : j % w < w := Nat.mod_lt _ w0
  have ay : a / w < h := by rw [Nat.div_lt_iff_lt_mul w0, Nat.mul_comm]; exact ha
  have jy : j / w < h := by rw [Nat.div_lt_iff_lt_mul w0, Nat.mul_comm]; exact hj
  have ea := Nat.div_add_mod a w; have ej := Nat.div_add_mod j w
  rw [Nat.mul_comm] at ea ej
  have := (row (a % w) (a / w) (j % w) ax ay jx).trans (col (j % w) (a / w) (j / w) jx ay jy)
  rwa [ea, ej] at this
theorem hgt_low (l : List Bound) : ∃ θ : Int, ∀ k, θ ≤ hgtB (atB l k) := by
  induction l with
  | nil => exact ⟨0, fun k => by unfold atB; simp [hgtB, hgt]⟩
  | cons x l ih =>
    obtain ⟨θ, hθ⟩ := ih
    refine ⟨min θ (hgtB x), fun k => ?_⟩
    cases k with
    | zero => have : atB (x :: l) 0 = x := rfl
              rw [this]; omega
    | succ k => have : atB (x :: l) (k + 1) = atB l k := rfl
                rw [this]; have := hθ k; omega
theorem pushN_ok (l : List Bound) (done : List Bool) (ht : Int) : ∀ (is : List Nat) (q : List HpSt), IsHp q q.length →
    IsHp (pushN l done ht is q) (pushN l done ht is q).length ∧ (∀ e, e ∈ pushN l done ht is q ↔ e ∈ q ∨ ∃ i ∈ is, done.getD i false = false ∧ e = ((i : Int), min ht (hgtB (atB l i)))) ∧ (pushN l done ht is q).length ≤ q.length + is.length
  | [], q, hq => ⟨hq, fun e => by simp [pushN], by simp [pushN]⟩
  | i :: is, q, hq => by
    rw [pushN]
    by_cases hd : done.getD i false = true
    · rw [if_pos hd]
      obtain ⟨h1, h2, h3⟩ := pushN_ok l done ht is q hq
      refine ⟨h1, fun e => ?_, by simp only [List.length_cons]; omega⟩
      rw [h2 e]
      constructor
      · rintro (h | ⟨j, hj, h⟩)
        · exact .inl h
        · exact .inr ⟨j, List.mem_cons_of_mem _ hj, h⟩
      · rintro (h | ⟨j, hj, h, e⟩)
        · exact .inl h
        · rcases List.mem_cons.1 hj with rfl | hj
          · rw [hd] at h; cases h
          · exact .inr ⟨j, hj, h, e⟩
    · rw [if_neg hd]
      have hd : done.getD i false = false := by simpa using hd
      obtain ⟨p1, p2⟩ := push_ok q ((i : Int), min ht (hgtB (atB l i))) hq
      obtain ⟨h1, h2, h3⟩ := pushN_ok l done ht is _ p1
      refine ⟨h1, fun e => ?_, by have := p2.length_eq; simp only [List.length_append, List.length_cons, List.length_nil] at this ⊢; omega⟩
      rw [h2 e, p2.mem_iff, List.mem_append, List.mem_singleton]
      constructor
      · rintro ((h | rfl) | ⟨j, hj, h⟩)
        · exact .inl h
        · exact .inr ⟨i, List.mem_cons_self .., hd, rfl⟩
        · exact .inr ⟨j, List.mem_cons_of_mem _ hj, h⟩
      · rintro (h | ⟨j, hj, h, e⟩)
        · exact .inl (.inl h)
        · rcases List.mem_cons.1 hj with rfl | hj
          · exact .inl (.inr e)
          · exact .inr ⟨j, hj, h, e⟩
/-- What holds at each round of the search. -/
structure SadI (w h : Nat) (l : List Bound) (a : Nat) (q : List HpSt) (out : List Int) (done : List Bool) : Prop where
  hp : IsHp q q.length
  ol : out.length = w * h
  dl : done.length = w * h
  E : ∀ e ∈ q, 0 ≤ e.1 ∧ e.1 < (w * h : Nat) ∧ Way w h l e.2 a e.1.toNat
  S : ∀ j, done.getD j false = true → Way w h l (out.getD j 0) a j
  C : ∀ j θ, done.getD j false = true → Way w h l θ a j → θ ≤ out.getD j 0
  F : done.getD a false = true ∨ ∃ e ∈ q, hgtB (atB l a) ≤ e.2 ∧ e.1 = a
  N : ∀ i j, done.getD i false = true → j < w * h → adj w i j → done.getD j false = true ∨ ∃ e ∈ q, min (out.getD i 0) (hgtB (atB l j)) ≤ e.2 ∧ e.1 = j
theorem SadI.seen {w h : Nat} {l : List Bound} {a : Nat} {q : List HpSt} {out : List Int} {done : List Bool} (I : SadI w h l a q out done) {θ : Int} {j : Nat} (k : Way w h l θ a j) : done.getD j false = true ∨ ∃ e ∈ q, θ ≤ e.2 := by
  induction k with
  | start h1 h2 =>
    rcases I.F with f | ⟨e, he, f, _⟩
    · exact .inl f
    · exact .inr ⟨e, he, Int.le_trans h2 f⟩
  | step k h1 h2 h3 ih =>
    rcases ih with ih | ih
    · rcases I.N _ _ ih h1 h2 with n | ⟨e, he, n, _⟩
      · exact .inl n
      · have := I.C _ _ ih k
        exact .inr ⟨e, he, by omega⟩
    · exact .inr ih
def undone (done : List Bool) : Nat := done.countP fun b => !b
theorem getD_set {α : Type} (xs : List α) (i j : Nat) (v d : α) (hi : i < xs.length) : (xs.set i v).getD j d = if j = i then v else xs.getD j d := by
  simp only [List.getD_eq_getElem?_getD, List.getElem?_set]
  by_cases e : j = i
  · subst e; simp [hi]
  · rw [if_neg (Ne.symm e), if_neg e]
theorem undone_set (done : List Bool) (i : Nat) (hi : i < done.length) (h : done.getD i false = false) : undone (done.set i true) + 1 = undone done := by
  have e : done[i] = false := by simpa [List.getD_eq_getElem?_getD, List.getElem?_eq_getElem hi] using h
  have pos : 0 < done.countP fun b => !b := List.countP_pos_iff.2 ⟨done[i], List.getElem_mem hi, by simp [e]⟩
  unfold undone
  rw [List.countP_set hi]
  simp only [e, Bool.not_false, if_true, Bool.not_true, Bool.false_eq_true, if_false]
  omega
theorem sadL_ok {w h : Nat} {l : List Bound} {a : Nat} (hl : l.length = w * h) : ∀ (f : Nat) (q : List HpSt) (out : List Int) (done : List Bool), SadI w h l a q out done → q.length + 8 * undone done < f → f ≤ 20000 →
    Has (sadL w h l f q out done) fun R => R.length = w * h ∧ (∀ j θ, Way w h l θ a j → θ ≤ R.getD j 0 ∧ Way w h l (R.getD j 0) a j)
  | 0, q, out, done, I, hf, hf2 => by omega
  | f + 1, q, out, done, I, hf, hf2 => by
    rw [sadL]
    refine Has.ite (fun h0 => Has.ret ⟨I.ol, fun j θ k => ?_⟩) fun h0 => Has.pos (by omega) ?_
    · have hq : q = [] := List.length_eq_zero_iff.1 h0
      have d := (I.seen k).resolve_right (by rw [hq]; rintro ⟨e, he, _⟩; cases he)
      exact ⟨I.C j θ d k, I.S j d⟩
    · obtain ⟨p1, p2, p3, p4⟩ := pop_ok q I.hp (by omega)
      generalize (popY q).take (q.length - 1) = q' at p1 p2 p3 ⊢
      generalize atS (popY q) (q.length - 1) = s at p2 p4 ⊢
      obtain ⟨sc, sh⟩ := s
      simp only [] at p4 ⊢
      have ms : ∀ e, e ∈ q ↔ e = (sc, sh) ∨ e ∈ q' := fun e => by rw [← p2.mem_iff, List.mem_cons]
      obtain ⟨s0, s1, sw⟩ := I.E (sc, sh) ((ms _).2 (.inl rfl))
      simp only [] at s0 s1 sw
      refine Has.pos ⟨s0, by rw [hl]; exact s1⟩ ?_
      have s2 : sc.toNat < w * h := by omega
      refine Has.ite (fun hd => ?_) fun hd => ?_
      · refine sadL_ok hl f q' out done ⟨p1, I.ol, I.dl, fun e he => I.E e ((ms e).2 (.inr he)), I.S, I.C, ?_, fun i j di hj hij => ?_⟩ (by omega) (by omega)
        · rcases I.F with q1 | ⟨e, he, q1, q2⟩
          · exact .inl q1
          · rcases (ms e).1 he with rfl | he
            · left
              simp only [] at q2
              rw [q2] at hd; simpa using hd
            · exact .inr ⟨e, he, q1, q2⟩
        · rcases I.N i j di hj hij with q1 | ⟨e, he, q1, q2⟩
          · exact .inl q1
          · rcases (ms e).1 he with rfl | he
            · left
              simp only [] at q2
              rw [q2] at hd; simpa using hd
            · exact .inr ⟨e, he, q1, q2⟩
      · have hd : done.getD sc.toNat false = false := by simpa using hd
        have hsd : sc.toNat < done.length := by rw [I.dl]; exact s2
        have hso : sc.toNat < out.length := by rw [I.ol]; exact s2
        have hsc : (sc.toNat : Int) = sc := by omega
        generalize sc.toNat = s at *
        obtain ⟨n1, n2, n3⟩ := pushN_ok l (done.set s true) sh (nbs w h s) q' p1
        have nl := nbs_len w h s s2
        have un := undone_set done s hsd hd
        have gd : ∀ j, (done.set s true).getD j false = if j = s then true else done.getD j false := fun j => getD_set done s j true false hsd
        have go : ∀ j, (out.set s sh).getD j 0 = if j = s then sh else out.getD j 0 := fun j => getD_set out s j sh 0 hso
        refine sadL_ok hl f _ _ _ ⟨n1, by rw [List.length_set]; exact I.ol, by rw [List.length_set]; exact I.dl, fun e he => ?_, fun j hj => ?_, fun j θ hj k => ?_, ?_, fun i j di hj hij => ?_⟩ (by omega) (by omega)
        · rcases (n2 e).1 he with he | ⟨i, hi, hdi, rfl⟩
          · exact I.E e ((ms e).2 (.inr he))
          · obtain ⟨i1, i2⟩ := (mem_nbs w h s i s2).1 hi
            simp only [Int.toNat_natCast]
            exact ⟨by omega, by omega, .step (sw.mono (by omega)) i1 i2 (by omega)⟩
        · rw [gd] at hj
          rw [go]
          by_cases e : j = s
          · rw [if_pos e, e]; exact sw
          · rw [if_neg e] at hj ⊢; exact I.S j hj
        · rw [gd] at hj
          rw [go]
          by_cases e : j = s
          · rw [if_pos e]
            rw [e] at k
            rcases I.seen k with d | ⟨x, hx, q1⟩
            · rw [hd] at d; cases d
            · exact Int.le_trans q1 (p4 x hx)
          · rw [if_neg e] at hj ⊢; exact I.C j θ hj k
        · rw [gd]
          by_cases e : a = s
          · left; rw [if_pos e]
          · rw [if_neg e]
            rcases I.F with q1 | ⟨x, hx, q1, q2⟩
            · exact .inl q1
            · rcases (ms x).1 hx with rfl | hx
              · simp only [] at q2; omega
              · exact .inr ⟨x, (n2 x).2 (.inl hx), q1, q2⟩
        · rw [gd] at di
          rw [gd, go]
          by_cases ej : j = s
          · left; rw [if_pos ej]
          · rw [if_neg ej]
            by_cases ei : i = s
            · rw [if_pos ei]
              by_cases dj : done.getD j false = true
              · exact .inl dj
              · right
                have dj' : done.getD j false = false := by simpa using dj
                exact ⟨((j : Int), min sh (hgtB (atB l j))), (n2 _).2 (.inr ⟨j, (mem_nbs w h s j s2).2 ⟨hj, by rw [← ei]; exact hij⟩, by rw [gd, if_neg ej]; exact dj', rfl⟩), Int.le_refl _, rfl⟩
            · rw [if_neg ei] at di ⊢
              rcases I.N i j di hj hij with q1 | ⟨x, hx, q1, q2⟩
              · exact .inl q1
              · rcases (ms x).1 hx with rfl | hx
                · simp only [] at q2; omega
                · exact .inr ⟨x, (n2 x).2 (.inl hx), q1, q2⟩
theorem sadR_ok {w h : Nat} {l : List Bound} {a : Nat} (hl : l.length = w * h) (hn : w * h ≤ 1024) (ha : a < w * h) : Has (sadR w h l a) fun R => R.length = w * h ∧ ∀ j, j < w * h → ∀ θ, θ ≤ R.getD j 0 ↔ Way w h l θ a j := by
  unfold sadR
  have rep : ∀ j, (List.replicate l.length false).getD j false = false := fun j => by
    simp only [List.getD_eq_getElem?_getD, List.getElem?_replicate]; split <;> rfl
  have un : undone (List.replicate l.length false) = w * h := by unfold undone; rw [hl, List.countP_replicate]; rfl
  refine (sadL_ok hl (9 * l.length + 1) _ _ _ ⟨fun k k0 k1 => by simp at k1; omega, by simp [hl], by simp [hl], fun e he => ?_, fun j hj => (by rw [rep] at hj; cases hj), fun j θ hj => (by rw [rep] at hj; cases hj), .inr ⟨_, List.mem_cons_self .., Int.le_refl _, rfl⟩, fun i j di => (by rw [rep] at di; cases di)⟩ (by rw [un]; simp only [List.length_cons, List.length_nil]; omega) (by omega)).mono fun R ⟨r1, r2⟩ => ⟨r1, fun j hj θ => ⟨fun e => ?_, fun k => (r2 j θ k).1⟩⟩
  · rw [List.mem_singleton] at he
    rw [he]
    simp only [Int.toNat_natCast]
    exact ⟨by omega, by omega, .start ha (Int.le_refl _)⟩
  · obtain ⟨μ, hμ⟩ := hgt_low l
    exact (r2 j μ (way_all hμ ha j hj)).2.mono e
end Lf
/- The sources that find.Find finds. -/
namespace Lf
open Go Go.Abs
set_option linter.unusedVariables false
set_option linter.unusedSimpArgs false
def SadOf (w h : Nat) (t : List Bound) (p : Int) (R : List Int) : Prop := R.length = w * h ∧ ∀ j, j < w * h → ∀ θ, θ ≤ R.getD j 0 ↔ Way w h t θ p.toNat j
def loB (t : List Bound) (x : Int) : Int := (atB t x.toNat).Lo
theorem getD_snoc {α : Type} (xs : List α) (x d : α) (k : Nat) : (xs ++ [x]).getD k d = if k < xs.length then xs.getD k d else if k = xs.length then x else d := by
  simp only [List.getD_eq_getElem?_getD, List.getElem?_append]
  by_cases h : k < xs.length
  · rw [if_pos h, if_pos h]
  · rw [if_neg h, if_neg h]
    by_cases e : k = xs.length
    · rw [if_pos e, e]; simp
    · rw [if_neg e, List.getElem?_eq_none (by simp; omega)]; rfl
theorem mem_getD {α : Type} (xs : List α) (d : α) (k : Nat) (h : k < xs.length) : xs.getD k d ∈ xs := by
  rw [List.getD_eq_getElem?_getD, List.getElem?_eq_getElem h]; exact List.getElem_mem h
theorem getD_of_mem {α : Type} (xs : List α) (d x : α) (h : x ∈ xs) : ∃ k, k < xs.length ∧ xs.getD k d = x := by
  obtain ⟨k, hk, e⟩ := List.getElem_of_mem h
  exact ⟨k, hk, by rw [List.getD_eq_getElem?_getD, List.getElem?_eq_getElem hk]; exact e⟩
theorem any_way (ws : List (List Int)) (x : Nat) (v : Int) : (ws.any fun R => decide (v ≤ R.getD x 0)) = true ↔ ∃ k, k < ws.length ∧ v ≤ wayG ws k x := by
  rw [List.any_eq_true]
  constructor
  · rintro ⟨R, hR, h⟩
    obtain ⟨k, hk, e⟩ := getD_of_mem ws [] R hR
    exact ⟨k, hk, by unfold wayG; rw [e]; exact of_decide_eq_true h⟩
  · rintro ⟨k, hk, h⟩
    exact ⟨_, mem_getD ws [] k hk, decide_eq_true h⟩
/-- What holds behind a part of the sure cells. -/
structure FdI (w h : Nat) (t : List Bound) (pre ps : List Int) (ws : List (List Int)) : Prop where
  len : ps.length = ws.length
  sad : ∀ k, k < ps.length → SadOf w h t (ps.getD k 0) (ws.getD k [])
  sub : ps.Sublist pre
  new : ∀ j k, j < k → k < ps.length → wayG ws j (ps.getD k 0).toNat < loB t (ps.getD k 0)
  cov : ∀ x ∈ pre, ∃ k, k < ps.length ∧ loB t x ≤ wayG ws k x.toNat
theorem FdI.nil (w h : Nat) (t : List Bound) : FdI w h t [] [] [] := ⟨rfl, fun k hk => by simp at hk, List.Sublist.refl _, fun j k _ hk => by simp at hk, fun x hx => by cases hx⟩
theorem fd1_ok {w h : Nat} {t : List Bound} (hl : t.length = w * h) (hn : w * h ≤ 1024) (L : List Int) (hL : ∀ x ∈ L, 0 ≤ x ∧ x < (w * h : Nat) ∧ loB t x ≤ hgtB (atB t x.toNat))
    (hc : ∀ pre ps ws, pre <+: L → FdI w h t pre ps ws → ps.length < 24) : ∀ (l pre ps : List Int) (ws : List (List Int)), pre ++ l = L → FdI w h t pre ps ws → Has (fd1 w h t l ps ws) fun r => ∃ ps' ws', r = some (ps', ws') ∧ FdI w h t L ps' ws'
  | [], pre, ps, ws, e, I => by
    rw [fd1]
    rw [List.append_nil] at e
    subst e
    exact Has.ret ⟨ps, ws, rfl, I⟩
  | x :: l, pre, ps, ws, e, I => by
    have e' : (pre ++ [x]) ++ l = L := by rw [← e]; simp
    obtain ⟨x0, x1, x2⟩ := hL x (by rw [← e]; simp)
    rw [fd1]
    refine Has.ite (fun ha => ?_) fun ha => Has.neg (by have := hc pre ps ws ⟨x :: l, e⟩ I; omega) ?_
    · obtain ⟨k, hk, hv⟩ := (any_way ws x.toNat _).1 ha
      refine fd1_ok hl hn L hL hc l (pre ++ [x]) ps ws e' ⟨I.len, I.sad, I.sub.trans (List.sublist_append_left _ _), I.new, fun y hy => ?_⟩
      rcases List.mem_append.1 hy with hy | hy
      · exact I.cov y hy
      · rw [List.mem_singleton.1 hy]; exact ⟨k, by rw [I.len]; exact hk, hv⟩
    · have ha : ∀ k, k < ws.length → wayG ws k x.toNat < loB t x := fun k hk => by
        by_cases q : loB t x ≤ wayG ws k x.toNat
        · exact absurd ((any_way ws x.toNat _).2 ⟨k, hk, q⟩) ha
        · omega
      refine (sadR_ok hl hn (show x.toNat < w * h by omega)).bind fun R hR => ?_
      have il := I.len
      have gp : ∀ k, (ps ++ [x]).getD k 0 = if k < ps.length then ps.getD k 0 else if k = ps.length then x else 0 := getD_snoc ps x 0
      have gw : ∀ k, (ws ++ [R]).getD k [] = if k < ws.length then ws.getD k [] else if k = ws.length then R else [] := getD_snoc ws R []
      refine fd1_ok hl hn L hL hc l (pre ++ [x]) (ps ++ [x]) (ws ++ [R]) e' ⟨by simp [il], fun k hk => ?_, I.sub.append (List.Sublist.refl _), fun j k jk hk => ?_, fun y hy => ?_⟩
      · rw [List.length_append, List.length_singleton] at hk
        rw [gp, gw]
        by_cases q : k < ps.length
        · rw [if_pos q, if_pos (by omega)]; exact I.sad k q
        · rw [if_neg q, if_pos (show k = ps.length by omega), if_neg (show ¬ k < ws.length by omega), if_pos (show k = ws.length by omega)]; exact hR
      · rw [List.length_append, List.length_singleton] at hk
        have ej : wayG (ws ++ [R]) j = wayG ws j := by unfold wayG; rw [gw, if_pos (by omega)]
        rw [ej, gp]
        by_cases q : k < ps.length
        · rw [if_pos q]; exact I.new j k jk q
        · rw [if_neg q, if_pos (by omega)]; exact ha j (by omega)
      · have keep : ∀ k, k < ws.length → wayG (ws ++ [R]) k = wayG ws k := fun k hk => by unfold wayG; rw [gw, if_pos hk]
        rcases List.mem_append.1 hy with hy | hy
        · obtain ⟨k, hk, hv⟩ := I.cov y hy
          exact ⟨k, by simp; omega, by rw [keep k (by omega)]; exact hv⟩
        · rw [List.mem_singleton.1 hy]
          refine ⟨ps.length, by simp, ?_⟩
          have : wayG (ws ++ [R]) ps.length x.toNat = R.getD x.toNat 0 := by unfold wayG; rw [gw, if_neg (by omega), if_pos il]
          rw [this, hR.2 x.toNat (by omega)]
          exact .start (by omega) x2
/-- A source is not where another one's light goes down from. -/
theorem FdI.far {w h : Nat} {t : List Bound} {pre ps : List Int} {ws : List (List Int)} (I : FdI w h t pre ps ws) (hp : ∀ x ∈ pre, 0 ≤ x ∧ x < (w * h : Nat)) {j k : Nat} (jk : j < k) (hk : k < ps.length) : ¬ Way w h t (loB t (ps.getD k 0)) (ps.getD j 0).toNat (ps.getD k 0).toNat := fun q => by
  have a := I.new j k jk hk
  have hm := I.sub.subset (mem_getD ps 0 k hk)
  obtain ⟨h0, h1⟩ := hp _ hm
  have := ((I.sad j (by omega)).2 (ps.getD k 0).toNat (by omega) (loB t (ps.getD k 0))).2 q
  have e : wayG ws j (ps.getD k 0).toNat = (ws.getD j []).getD (ps.getD k 0).toNat 0 := rfl
  omega
end Lf
/- find.Find: the sources. -/
namespace Lf
open Go Go.Abs
set_option linter.unusedVariables false
set_option linter.unusedSimpArgs false
theorem gt_atB (l : List Bound) (x : Int) : gt l x = atB l x.toNat := rfl
theorem kyF_lo (c : Cells) (x : Int) : kyF c x = loB c.At x := rfl
/-- What is known of sure cells. -/
theorem SureL.at {c : Cells} {level : Bound} {l : List Int} (h : SureL c level l) (hc : okF c) (x : Int) (hx : x ∈ l) : 0 ≤ x ∧ x < (c.W.toNat * c.H.toNat : Nat) ∧ loB c.At x ≤ hgtB (atB c.At x.toNat) ∧ hgtB (atB c.At x.toNat) = (gt c.At x).Hi := by
  obtain ⟨x0, x1, u, v⟩ := (h.mem x).1 hx
  have b := (hc.cell _ (gt_mem c.At x ⟨x0, x1⟩)).1.le
  have hl := hc.len; have w0 := hc.w0; have h0 := hc.h0
  have e : ((c.W.toNat * c.H.toNat : Nat) : Int) = c.W * c.H := by rw [Int.natCast_mul, Int.toNat_of_nonneg (by omega), Int.toNat_of_nonneg (by omega)]
  have e2 : hgtB (atB c.At x.toNat) = (gt c.At x).Hi := by
    show hgt _ _ (gt c.At x).Unknown = _
    rw [u]; rfl
  exact ⟨x0, by omega, by rw [e2]; exact b, e2⟩
theorem okF.nat {c : Cells} (hc : okF c) : c.At.length = c.W.toNat * c.H.toNat ∧ c.W.toNat * c.H.toNat ≤ 1024 := by
  have hl := hc.len; have w0 := hc.w0; have h0 := hc.h0; have n := hc.n1
  have e : ((c.W.toNat * c.H.toNat : Nat) : Int) = c.W * c.H := by rw [Int.natCast_mul, Int.toNat_of_nonneg (by omega), Int.toNat_of_nonneg (by omega)]
  omega
theorem fd2_len (w : Nat) (ps : List Int) (ws : List (List Int)) : ∀ (l : List Int) (parts : List (List Int)), (fd2 w ps ws l parts).length = parts.length
  | [], parts => rfl
  | x :: l, parts => by rw [fd2, fd2_len]; simp
/-- The sources, as find.Find gives them. -/
def srcs (w : Nat) (l ps : List Int) (ws : List (List Int)) : List Source_ := (ps.zip (fd2 w ps ws (l.mergeSort fun x y => decide (x ≤ y)) (ps.map fun _ => []))).map fun p => Source_.mk p.1 p.2
theorem srcs_len (w : Nat) (l ps : List Int) (ws : List (List Int)) : (srcs w l ps ws).length = ps.length := by unfold srcs; simp [fd2_len]
theorem srcs_at (w : Nat) (l ps : List Int) (ws : List (List Int)) (k : Int) (k0 : 0 ≤ k) (k1 : k < ps.length) : gt (srcs w l ps ws) k = Source_.mk (ps.getD k.toNat 0) ((fd2 w ps ws (l.mergeSort fun x y => decide (x ≤ y)) (ps.map fun _ => [])).getD k.toNat []) := by
  have hk : k.toNat < ps.length := by omega
  have hk2 : k.toNat < (fd2 w ps ws (l.mergeSort fun x y => decide (x ≤ y)) (ps.map fun _ => [])).length := by rw [fd2_len]; simpa using hk
  rw [gt_def _ k ⟨k0, by rw [srcs_len]; exact k1⟩]
  unfold srcs
  simp only [List.getElem_map, List.getElem_zip, List.getD_eq_getElem?_getD, List.getElem?_eq_getElem hk, List.getElem?_eq_getElem hk2, Option.getD_some]
structure FindL (c : Cells) (level : Bound) (l ps : List Int) (ws : List (List Int)) : Prop where
  sure : SureL c level l
  fd : FdI c.W.toNat c.H.toNat c.At l ps ws
theorem find_ok {c : Cells} {level : Bound} (hc : okF c) (hn : c.At.length ≤ 900) (hv : okLv level) (hcount : ∀ l, SureL c level l → ∀ pre ps ws, pre <+: l → FdI c.W.toNat c.H.toNat c.At pre ps ws → ps.length < 24) :
    Has (find_Find c level) fun r => r.2 = 0 ∧ ∃ l ps ws, find_Sure c level = some (l, 0) ∧ FindL c level l ps ws ∧ r.1 = srcs c.W.toNat l ps ws := by
  unfold find_Find
  obtain ⟨⟨l, e⟩, hs, rfl, hS⟩ := sure_ok hc hn hv
  rw [hs]
  obtain ⟨n1, n2⟩ := hc.nat
  simp only [Option.bind_some] at hS ⊢
  have hll : l.length ≤ 1024 := by
    have key : ∀ (n : Nat) (l : List Int), l.Nodup → (∀ x ∈ l, 0 ≤ x ∧ x < n) → l.length ≤ n := fun n => by
      induction n with
      | zero => intro l _ h; cases l with
        | nil => simp
        | cons x l => have := h x (List.mem_cons_self ..); omega
      | succ n ih =>
        intro l nd h
        by_cases hm : (n : Int) ∈ l
        · have := ih (l.erase n) (nd.erase _) fun x hx => by
            have h1 := (nd.mem_erase_iff).1 hx
            have := h x h1.2; have := h1.1; omega
          rw [List.length_erase_of_mem hm] at this; omega
        · have := ih l nd fun x hx => by
            have := h x hx
            have : x ≠ n := fun e => hm (by rw [← e]; exact hx)
            omega
          omega
    have := key (c.W.toNat * c.H.toNat) l hS.nd fun x hx => by have := hS.at hc x hx; omega
    omega
  refine Has.pos ⟨hc.w0, hc.w1, hc.h0, hc.h1, hc.len, fun x hx => by have := hS.at hc x hx; omega, hll⟩ ?_
  unfold fdL
  rw [if_neg (by simp)]
  obtain ⟨r, hr, ps, ws, rfl, hI⟩ := fd1_ok n1 n2 l (fun x hx => by have := hS.at hc x hx; exact ⟨this.1, this.2.1, this.2.2.1⟩) (hcount l hS) l [] [] [] rfl (FdI.nil _ _ _)
  rw [hr]
  exact Has.ret ⟨rfl, l, ps, ws, rfl, ⟨hS, hI⟩, rfl⟩
section
variable {c : Cells} {level : Bound} {l pre ps : List Int} {ws : List (List Int)}
theorem sub_ord (hS : SureL c level l) (hp : ps.Sublist l) : ps.Pairwise (leF c) := hS.ord.sublist hp
theorem pw_getD {R : Int → Int → Prop} {l : List Int} (h : l.Pairwise R) {j k : Nat} (jk : j < k) (hk : k < l.length) : R (l.getD j 0) (l.getD k 0) := by
  have := List.pairwise_iff_getElem.1 h j k (by omega) hk jk
  rwa [show l.getD j 0 = l[j] by simp [List.getD_eq_getElem?_getD, List.getElem?_eq_getElem (show j < l.length by omega)], show l.getD k 0 = l[k] by simp [List.getD_eq_getElem?_getD, List.getElem?_eq_getElem hk]]
/-- Two sources do not touch. -/
theorem src_apart (hc : okF c) (hS : SureL c level l) (hpre : pre <+: l) (I : FdI c.W.toNat c.H.toNat c.At pre ps ws) {j k : Nat} (jk : j < k) (hk : k < ps.length) : ps.getD j 0 ≠ ps.getD k 0 ∧ ¬ adj c.W.toNat (ps.getD j 0).toNat (ps.getD k 0).toNat := by
  have hsub : ps.Sublist l := I.sub.trans hpre.sublist
  have mj := hS.at hc _ (hsub.subset (mem_getD ps 0 j (by omega)))
  have mk := hS.at hc _ (hsub.subset (mem_getD ps 0 k hk))
  have hf := I.far (fun x hx => by have := hS.at hc x (hpre.subset hx); omega) jk hk
  have ho : leF c (ps.getD j 0) (ps.getD k 0) := pw_getD (sub_ord hS hsub) jk hk
  have hlo : loB c.At (ps.getD k 0) ≤ loB c.At (ps.getD j 0) := by rw [← kyF_lo, ← kyF_lo]; unfold leF at ho; omega
  have st : Way c.W.toNat c.H.toNat c.At (loB c.At (ps.getD k 0)) (ps.getD j 0).toNat (ps.getD j 0).toNat := .start (by omega) (by omega)
  refine ⟨fun e => hf ?_, fun a => hf (.step st (by omega) a (by omega))⟩
  rw [← e]; rw [← e] at st; exact st
theorem nodup_lt : ∀ (n : Nat) (l : List Nat), l.Nodup → (∀ x ∈ l, x < n) → l.length ≤ n
  | 0, l, _, h => by
    cases l with
    | nil => simp
    | cons x l => have := h x (List.mem_cons_self ..); omega
  | n + 1, l, nd, h => by
    by_cases hm : n ∈ l
    · have := nodup_lt n (l.erase n) (nd.erase _) fun x hx => by
        have h1 := (nd.mem_erase_iff).1 hx
        have := h x h1.2; have := h1.1; omega
      rw [List.length_erase_of_mem hm] at this; omega
    · have := nodup_lt n l nd fun x hx => by
        have := h x hx
        have : x ≠ n := fun e => hm (by rw [← e]; exact hx)
        omega
      omega
/-- A small field has few sources. -/
theorem few8 (hc : okF c) (hw : c.W ≤ 8) (hh : c.H ≤ 8) (hS : SureL c level l) (hpre : pre <+: l) (I : FdI c.W.toNat c.H.toNat c.At pre ps ws) : ps.length < 24 := by
  have w0 := hc.w0
  have hsub : ps.Sublist l := I.sub.trans hpre.sublist
  obtain ⟨w, hw'⟩ : ∃ w, w = c.W.toNat := ⟨_, rfl⟩
  have hw8 : 0 < w ∧ w ≤ 8 := by omega
  have pos : ∀ x ∈ ps, x.toNat % w < 8 ∧ x.toNat / w < 8 := fun x hx => by
    have m := hS.at hc x (hsub.subset hx)
    rw [← hw'] at m
    have := Nat.mod_lt x.toNat (show w > 0 by omega)
    refine ⟨by omega, ?_⟩
    rw [Nat.div_lt_iff_lt_mul hw8.1, Nat.mul_comm]
    have : w * c.H.toNat ≤ w * 8 := Nat.mul_le_mul_left w (by omega)
    omega
  have nd : (ps.map fun x => x.toNat % w / 2 + 4 * (x.toNat / w / 2)).Nodup := by
    rw [List.Nodup, List.pairwise_map, List.pairwise_iff_getElem]
    intro j k hj hk jk e
    have ap := src_apart hc hS hpre I jk hk
    rw [← hw'] at ap
    have gj : ps.getD j 0 = ps[j] := by simp [List.getD_eq_getElem?_getD, List.getElem?_eq_getElem hj]
    have gk : ps.getD k 0 = ps[k] := by simp [List.getD_eq_getElem?_getD, List.getElem?_eq_getElem hk]
    rw [gj, gk] at ap
    have pj := pos _ (List.getElem_mem hj)
    have pk := pos _ (List.getElem_mem hk)
    have mj := hS.at hc _ (hsub.subset (List.getElem_mem hj))
    have mk := hS.at hc _ (hsub.subset (List.getElem_mem hk))
    refine ap.2 ⟨fun q => ap.1 (by omega), ?_⟩
    generalize ps[j].toNat % w = a at *
    generalize ps[j].toNat / w = b at *
    generalize ps[k].toNat % w = a' at *
    generalize ps[k].toNat / w = b' at *
    omega
  have := nodup_lt 16 _ nd fun x hx => by
    obtain ⟨y, hy, rfl⟩ := List.mem_map.1 hx
    have := pos y hy
    generalize y.toNat % w = a at *
    generalize y.toNat / w = b at *
    omega
  rw [List.length_map] at this
  omega
end
end Lf
/- Fields that are drawn, and their levels. -/
namespace Lf
open Go Go.Abs
set_option linter.unusedVariables false
set_option linter.unusedSimpArgs false
theorem Has.and {α : Type} {x : Option α} {P Q : α → Prop} (h : Has x P) (k : Has x Q) : Has x fun a => P a ∧ Q a := by
  obtain ⟨a, e, h⟩ := h
  obtain ⟨b, e', k⟩ := k
  rw [e] at e'; cases e'
  exact ⟨a, e, h, k⟩
/-- Bounds of a light, cell by cell. -/
structure veilF (w h : Int) (light : List Int) (c : Cells) : Prop where
  ok : okF c
  W : c.W = w
  H : c.H = h
  len : (c.At.length : Int) = w * h
  v : ∀ i : Int, 0 ≤ i → i < w * h → veils (gt light i) (gt c.At i)
theorem veilF_ok (s : spymake_Stream) (w h : Int) (light : List Int) (holes : Bool) (hs : okS s) (ha : s.at_ ≤ 4611686018427000000) (w0 : 1 ≤ w) (w1 : w ≤ 32) (h0 : 1 ≤ h) (h1 : h ≤ 32) (hn : (light.length : Int) = w * h) (hl : ∀ x ∈ light, -1000000000000 ≤ x ∧ x ≤ 1000000000000) :
    Has (Stream_Veil s w h light holes) fun r => veilF w h light r.1 ∧ (holes = false → ∀ i : Int, 0 ≤ i → i < w * h → (gt r.1.At i).Unknown = false) ∧ after s r.2 (1 + 3 * light.length) := by
  have hA := area w0 w1 h0 h1
  refine (veil_ok s w h light holes hs ha (by omega) hl).mono fun r ⟨r1, r2, r3, r4, r5⟩ => ⟨⟨⟨by omega, by omega, by omega, by omega, by rw [r1, r2]; omega, ?_⟩, r1, r2, by omega, fun i i0 i1 => (r4 i i0 (by omega)).1⟩, fun e i i0 i1 => (r4 i i0 (by omega)).2 e, r5⟩
  refine allI_mem (allI_mono r4 fun i b i0 i1 hv => ?_)
  have := hl _ (gt_mem light i ⟨i0, by omega⟩)
  exact hv.1.ok this.1 this.2
section
variable {w h : Int} {light : List Int} {c : Cells} (F : veilF w h light c)
include F
theorem veilF.hi (hl : ∀ x ∈ light, x ≤ 1000000000000) (hn : (light.length : Int) = w * h) (i : Nat) (hi : (i : Int) < w * h) : gt light i ≤ hgtB (atB c.At i) := by
  have := F.v i (by omega) hi
  have e : gt c.At (i : Int) = atB c.At i := by rw [gt_atB]; simp
  rw [e] at this
  have b := hl _ (gt_mem light i ⟨by omega, by omega⟩)
  rcases this with q | ⟨u, _, _, q, _⟩
  · rw [q]; show _ ≤ (4611686018427387904 : Int); omega
  · show _ ≤ hgt _ _ (atB c.At i).Unknown
    rw [u]; exact q
theorem veilF.lo {level : Bound} {l : List Int} (hS : SureL c level l) (x : Int) (hx : x ∈ l) : loB c.At x ≤ gt light x := by
  obtain ⟨x0, x1, u, _⟩ := (hS.mem x).1 hx
  have := F.v x x0 (by have := F.len; omega)
  rcases this with q | ⟨_, _, q, _, _⟩
  · rw [q] at u; cases u
  · exact q
end
/-- A level as it is drawn. -/
theorem levelF_ok (s : spymake_Stream) (back : Int) (hs : okS s) (ha : s.at_ ≤ 4611686018427000000) (hb : 0 ≤ back ∧ back ≤ 1000000000) : Has (Stream_Level s back) fun r => okLv r.1 ∧ back - 5 ≤ r.1.Lo ∧ r.1.Hi ≤ back + 5 ∧ after s r.2 2 :=
  (level_ok s back hs ha hb).mono fun r ⟨r1, r2, r3, r4, r5, r6⟩ => ⟨⟨⟨(fun e => by rw [r1] at e; cases e), by omega, by omega, by omega⟩, r1, by omega, by omega⟩, r2, r5, r6⟩
end Lf
/- The fact of two sources. -/
namespace Lf
open Go Go.Abs
set_option linter.unusedVariables false
set_option linter.unusedSimpArgs false
def twoC : Cells := Cells.mk 5 1 [⟨3, 4, false⟩, ⟨9, 9, false⟩, ⟨1, 7, false⟩, ⟨8, 10, false⟩, ⟨1, 12, false⟩]
theorem twoC_ok : okF twoC where
  w0 := by decide
  w1 := by decide
  h0 := by decide
  h1 := by decide
  len := by decide
  cell := fun b hb => by
    simp only [twoC, List.mem_cons, List.not_mem_nil, or_false] at hb
    rcases hb with rfl | rfl | rfl | rfl | rfl <;> exact ⟨okKnown (by decide) (by decide) (by decide), by decide, by decide⟩
theorem twoC_sure : find_Sure twoC ⟨0, 2, false⟩ = some ([1, 3, 0], 0) := by
  obtain ⟨⟨l, e⟩, hs, rfl, hS⟩ := sure_ok twoC_ok (by decide) (level := ⟨0, 2, false⟩) ⟨okKnown (by decide) (by decide) (by decide), rfl, by decide, by decide⟩
  rw [hs]
  have h2 : ([1, 3, 0] : List Int).Pairwise (leF twoC) := by
    have : ∀ a b, leF twoC a b ↔ (kyF twoC b < kyF twoC a ∨ (kyF twoC a = kyF twoC b ∧ a ≤ b)) := fun a b => Iff.rfl
    refine List.pairwise_cons.2 ⟨fun a ha => (this _ _).2 ?_, List.pairwise_cons.2 ⟨fun a ha => (this _ _).2 ?_, List.pairwise_cons.2 ⟨fun a ha => (by cases ha), List.Pairwise.nil⟩⟩⟩
    · simp only [List.mem_cons, List.not_mem_nil, or_false] at ha
      rcases ha with rfl | rfl <;> decide
    · simp only [List.mem_cons, List.not_mem_nil, or_false] at ha
      subst ha; decide
  have hm : ∀ x, x ∈ l ↔ x ∈ ([1, 3, 0] : List Int) := fun x => by
    rw [hS.mem]
    constructor
    · rintro ⟨h0, h1, h2⟩
      have h1 : x < 5 := h1
      have : x = 0 ∨ x = 1 ∨ x = 2 ∨ x = 3 ∨ x = 4 := by omega
      rcases this with rfl | rfl | rfl | rfl | rfl
      · decide
      · decide
      · exact absurd h2.2 (by decide)
      · decide
      · exact absurd h2.2 (by decide)
    · intro h
      simp only [List.mem_cons, List.not_mem_nil, or_false] at h
      rcases h with rfl | rfl | rfl <;> exact ⟨by decide, by decide, rfl, by decide⟩
  have hp : l.Perm [1, 3, 0] := (List.perm_ext_iff_of_nodup hS.nd (by decide)).2 hm
  have := hp.eq_of_pairwise (fun a b _ _ h k => h.anti k) hS.ord h2
  simp only [] at this
  rw [this]
theorem twoC_fd1 : ∃ ws, fd1 5 1 twoC.At [1, 3, 0] [] [] = some (some ([1, 3], ws)) := ⟨[[4, 9, 7, 7, 7], [4, 7, 7, 10, 10]], by kernel_rfl⟩
theorem two_ok : spykeep4_two = some true := by
  unfold spykeep4_two spykeep4_two_1
  simp only [Option.bind_some]
  have hf : Has (find_Find twoC ⟨0, 2, false⟩) fun r => r.2 = 0 ∧ ∃ ws, r.1 = srcs 5 [1, 3, 0] [1, 3] ws := by
    unfold find_Find
    rw [twoC_sure]
    simp only [Option.bind_some]
    refine Has.pos (by decide) ?_
    unfold fdL
    rw [if_neg (by simp)]
    obtain ⟨ws, h⟩ := twoC_fd1
    have h' : fd1 twoC.W.toNat twoC.H.toNat twoC.At [1, 3, 0] [] [] = some (some ([1, 3], ws)) := h
    rw [h']
    exact Has.ret ⟨rfl, ws, rfl⟩
  obtain ⟨⟨s, e⟩, hr, rfl, ws, rfl⟩ := hf
  have hr : find_Find (Cells.mk 5 1 [⟨3, 4, false⟩, ⟨9, 9, false⟩, ⟨1, 7, false⟩, ⟨8, 10, false⟩, ⟨1, 12, false⟩]) ⟨0, 2, false⟩ = some (srcs 5 [1, 3, 0] [1, 3] ws, 0) := hr
  rw [hr]
  have hl : (srcs 5 [1, 3, 0] [1, 3] ws).length = 2 := srcs_len _ _ _ _
  have g0 : (gt (srcs 5 [1, 3, 0] [1, 3] ws) 0).Peak = 1 := by rw [srcs_at _ _ _ _ 0 (by decide) (by decide)]; rfl
  have g1 : (gt (srcs 5 [1, 3, 0] [1, 3] ws) 1).Peak = 3 := by rw [srcs_at _ _ _ _ 1 (by decide) (by decide)]; rfl
  simp only [Option.bind_some, hl, g0, g1]
  rfl
end Lf
/- FindSharper: in fields of at most 8 columns and rows, narrower bounds never have fewer sources. -/
namespace Lf
open Go Go.Abs
set_option linter.unusedVariables false
set_option linter.unusedSimpArgs false
theorem Way.map {w h : Nat} {l l' : List Bound} {θ : Int} {a b : Nat} (hh : ∀ k, k < w * h → hgtB (atB l k) ≤ hgtB (atB l' k)) (k : Way w h l θ a b) : Way w h l' θ a b := by
  induction k with
  | start h1 h2 => exact .start h1 (Int.le_trans h2 (hh _ h1))
  | step k h1 h2 h3 ih => exact .step ih h1 h2 (Int.le_trans h3 (hh _ h1))
theorem sharper_le {c d : Cells} {level : Bound} {l m ps qs : List Int} {ws vs : List (List Int)} (hc : okF c) (hd : okF d) (eW : d.W = c.W) (eH : d.H = c.H) (L : FindL c level l ps ws) (M : FindL d level m qs vs)
    (hs : ∀ i : Int, 0 ≤ i → i < c.At.length → (gt c.At i).Unknown = false → (gt d.At i).Unknown = false ∧ (gt c.At i).Lo ≤ (gt d.At i).Lo) (hh : ∀ k, k < c.W.toNat * c.H.toNat → hgtB (atB d.At k) ≤ hgtB (atB c.At k)) : ps.length ≤ qs.length := by
  have M2 := M.fd
  rw [eW, eH] at M2
  have n1 := hc.nat
  have n2 := hd.nat
  rw [eW, eH] at n2
  have loc : ∀ x ∈ l, x ∈ m ∧ loB c.At x ≤ loB d.At x ∧ 0 ≤ x ∧ x < (c.W.toNat * c.H.toNat : Nat) := fun x hx => by
    have a := L.sure.at hc x hx
    obtain ⟨x0, x1, u, v⟩ := (L.sure.mem x).1 hx
    obtain ⟨u', v'⟩ := hs x x0 x1 u
    exact ⟨(M.sure.mem x).2 ⟨x0, by omega, u', Int.lt_of_lt_of_le v v'⟩, v', x0, a.2.1⟩
  have cov : ∀ k, k < ps.length → ∃ j, j < qs.length ∧ Way c.W.toNat c.H.toNat d.At (loB d.At (ps.getD k 0)) (qs.getD j 0).toNat (ps.getD k 0).toNat := fun k hk => by
    have hm := loc _ (L.fd.sub.subset (mem_getD ps 0 k hk))
    obtain ⟨j, hj, hv⟩ := M2.cov _ hm.1
    exact ⟨j, hj, ((M2.sad j hj).2 _ (by omega) _).1 hv⟩
  have hf : ∃ f : Nat → Nat, ∀ k, k < ps.length → f k < qs.length ∧ Way c.W.toNat c.H.toNat d.At (loB d.At (ps.getD k 0)) (qs.getD (f k) 0).toNat (ps.getD k 0).toNat := by
    refine ⟨fun k => if hk : k < ps.length then (cov k hk).choose else 0, fun k hk => ?_⟩
    simp only [dif_pos hk]
    exact (cov k hk).choose_spec
  obtain ⟨f, hf⟩ := hf
  have nd : ((List.range ps.length).map f).Nodup := by
    rw [List.Nodup, List.pairwise_map, List.pairwise_iff_getElem]
    intro j k hj hk jk e
    simp only [List.length_range] at hj hk
    simp only [List.getElem_range] at e
    obtain ⟨_, a⟩ := hf j hj
    obtain ⟨_, b⟩ := hf k hk
    rw [e] at a
    have hmj := L.fd.sub.subset (mem_getD ps 0 j hj)
    have hmk := L.fd.sub.subset (mem_getD ps 0 k hk)
    have qj := loc _ hmj
    have qk := loc _ hmk
    have ho : leF c (ps.getD j 0) (ps.getD k 0) := pw_getD (sub_ord L.sure L.fd.sub) jk hk
    have hlo : loB c.At (ps.getD k 0) ≤ loB c.At (ps.getD j 0) := by rw [← kyF_lo, ← kyF_lo]; unfold leF at ho; omega
    refine L.fd.far (fun x hx => ⟨(loc x hx).2.2.1, (loc x hx).2.2.2⟩) jk hk ?_
    exact ((a.mono (show loB c.At (ps.getD k 0) ≤ _ by omega)).symm.trans (b.mono qk.2.1)).map hh
  have := nodup_lt qs.length _ nd fun x hx => by
    obtain ⟨k, hk, rfl⟩ := List.mem_map.1 hx
    exact (hf k (List.mem_range.1 hk)).1
  simpa using this
theorem FindSharper_true (l : List Int) (hl : okL l) : spykeep4_FindSharper l = some true := by
  apply Has.val
  have h0 := okS.start hl
  unfold spykeep4_FindSharper
  refine (range_ok _ 1 8 h0 (by simp only []; omega) (by omega) (by omega) (by omega)).bind fun r1 ⟨w0, w1, s1⟩ => ?_
  have o1 := s1.ok h0 (by simp only []; omega); have b1 := s1.hi
  refine (range_ok _ 1 8 o1 (by simp only [] at b1; omega) (by omega) (by omega) (by omega)).bind fun r2 ⟨g0, g1, s2⟩ => ?_
  have o2 := s2.ok o1 (by simp only [] at b1; omega); have b2 := s2.hi
  refine (range_ok _ 0 5 o2 (by simp only [] at b1 b2; omega) (by omega) (by omega) (by omega)).bind fun r3 ⟨p0, p1, s3⟩ => ?_
  have o3 := s3.ok o2 (by simp only [] at b1 b2; omega); have b3 := s3.hi
  have hA : r1.1 * r2.1 ≤ 64 := by
    have a := Int.mul_le_mul_of_nonneg_right w1 (show 0 ≤ r2.1 by omega)
    omega
  refine (lights_ok r3.2 r1.1 r2.1 r3.1 o3 (by simp only [] at b1 b2 b3; omega) w0 (by omega) g0 (by omega) (by omega) (by omega)).bind fun r4 ⟨l1, l2, l3, s4⟩ => ?_
  have o4 := s4.ok o3 (by simp only [] at b1 b2 b3; omega); have b4 := s4.hi
  have l4 := l1.len
  have lv : ∀ x ∈ r4.1, 0 ≤ x ∧ x ≤ 1000000 := fun x hx => by have := l1.v x hx; omega
  have lv' : ∀ x ∈ r4.1, -1000000000000 ≤ x ∧ x ≤ 1000000000000 := fun x hx => by have := lv x hx; omega
  refine (veilF_ok r4.2.2 r1.1 r2.1 r4.1 true o4 (by simp only [] at b1 b2 b3 b4; omega) w0 (by omega) g0 (by omega) l4 lv').bind fun r5 ⟨F, _, s5⟩ => ?_
  have o5 := s5.ok o4 (by simp only [] at b1 b2 b3 b4; omega); have b5 := s5.hi
  refine (levelF_ok r5.2 r4.2.1 o5 (by simp only [] at b1 b2 b3 b4 b5; omega) (by omega)).bind fun r6 ⟨V, _, _, s6⟩ => ?_
  have o6 := s6.ok o5 (by simp only [] at b1 b2 b3 b4 b5; omega); have b6 := s6.hi
  have hc := F.ok
  have hlen := F.len
  have eW := F.W; have eH := F.H
  refine Has.bind (P := fun z : List Bound => (z.length : Int) = r1.1 * r2.1 ∧ allI z fun i b => b.ok ∧ -1099511627776 ≤ b.Lo ∧ b.Hi ≤ 1099511627776 ∧ b.Unknown = false ∧ ((gt r5.1.At i).Unknown = false → (gt r5.1.At i).Lo ≤ b.Lo ∧ b.Hi ≤ (gt r5.1.At i).Hi)) ?_ fun z ⟨z1, z2⟩ => ?_
  · refine Has.loop (fun t : spymake_Stream × List Bound × Int => after r6.2 t.1 t.2.2 ∧ 0 ≤ t.2.2 ∧ t.2.2 ≤ r5.1.At.length ∧ (t.2.1.length : Int) = t.2.2 ∧ allI t.2.1 fun i b => b.ok ∧ -1099511627776 ≤ b.Lo ∧ b.Hi ≤ 1099511627776 ∧ b.Unknown = false ∧ ((gt r5.1.At i).Unknown = false → (gt r5.1.At i).Lo ≤ b.Lo ∧ b.Hi ≤ (gt r5.1.At i).Hi)) (fun t => (r5.1.At.length - t.2.2).toNat) _
      ⟨after.refl _, Int.le_refl _, by simp only []; omega, rfl, allI_nil⟩ (by simp only []; omega) fun t ⟨t1, t2, t3, t4, t5⟩ => ?_
    unfold spykeep4_FindSharper.l1
    refine Has.ite (fun hi => ?_) fun hi => ?_
    · have hi : t.2.2 < r5.1.At.length := of_decide_eq_true hi
      have ht := t1.ok o6 (by simp only [] at b1 b2 b3 b4 b5 b6; omega); have hht := t1.hi
      have hv := lv _ (gt_mem r4.1 t.2.2 ⟨t2, by omega⟩)
      have hb := F.v t.2.2 t2 (by omega)
      have room : ∀ x : Bound, roomy (t.2.1.length + [x].length) 24 = true := fun x => roomyI (by simp; omega) (by simp; omega)
      refine Has.chk ⟨t2, hi⟩ (Has.ite (fun hu => ?_) fun hu => ?_)
      · rw [w6_in (n := gt r4.1 t.2.2 - 300) (by omega), w6_in (n := gt r4.1 t.2.2 + 300) (by omega), w6_in (n := t.2.2 + 1) (by omega)]
        refine Has.chk ⟨t2, by omega⟩ (Has.chk (room _) (Has.ret (.next ⟨t1.more (by simp only []; omega), by simp only []; omega, by simp only []; omega, by simp; omega, allI_snoc t5 ?_⟩ (by simp only []; omega))))
        refine ⟨okKnown (by omega) (by omega) (by omega), by simp only []; omega, by simp only []; omega, rfl, fun e => ?_⟩
        rw [t4] at e; rw [e] at hu; cases hu
      · have hu : (gt r5.1.At t.2.2).Unknown = false := by simpa using hu
        have hb : gt r4.1 t.2.2 - 200 ≤ (gt r5.1.At t.2.2).Lo ∧ (gt r5.1.At t.2.2).Lo ≤ gt r4.1 t.2.2 ∧ gt r4.1 t.2.2 ≤ (gt r5.1.At t.2.2).Hi ∧ (gt r5.1.At t.2.2).Hi ≤ gt r4.1 t.2.2 + 200 := by
          rcases hb with q | ⟨_, q⟩
          · rw [q] at hu; cases hu
          · exact q
        refine (next_ok t.1 2 ht (by simp only [] at b1 b2 b3 b4 b5 b6 hht; omega) (by omega)).bind fun n ⟨n1, n2, n3⟩ => ?_
        rw [w6_in (n := gt r4.1 t.2.2 - (gt r5.1.At t.2.2).Lo) (by omega), w6_in (n := (gt r5.1.At t.2.2).Hi - gt r4.1 t.2.2) (by omega), w6_in (n := t.2.2 + 1) (by omega)]
        refine Has.ite (fun hz => Has.chk ⟨t2, by omega⟩ (Has.letF (Has.letF ?_))) fun hz => ?_
        · have e2 : Int.tdiv (gt r4.1 t.2.2 - (gt r5.1.At t.2.2).Lo) 2 = (gt r4.1 t.2.2 - (gt r5.1.At t.2.2).Lo) / 2 := Int.tdiv_eq_ediv_of_nonneg (by omega)
          have e3 : Int.tdiv ((gt r5.1.At t.2.2).Hi - gt r4.1 t.2.2) 3 = ((gt r5.1.At t.2.2).Hi - gt r4.1 t.2.2) / 3 := Int.tdiv_eq_ediv_of_nonneg (by omega)
          rw [e2, e3, w6_in (n := (gt r4.1 t.2.2 - (gt r5.1.At t.2.2).Lo) / 2) (by omega), w6_in (n := ((gt r5.1.At t.2.2).Hi - gt r4.1 t.2.2) / 3) (by omega), w6_in (n := gt r4.1 t.2.2 - (gt r4.1 t.2.2 - (gt r5.1.At t.2.2).Lo) / 2) (by omega), w6_in (n := gt r4.1 t.2.2 + ((gt r5.1.At t.2.2).Hi - gt r4.1 t.2.2) / 3) (by omega), hu]
          refine Has.chk (room _) (Has.ret (.next ⟨(t1.trans n3).more (by simp only []; omega), by simp only []; omega, by simp only []; omega, by simp; omega, allI_snoc t5 ?_⟩ (by simp only []; omega)))
          refine ⟨okKnown (by omega) (by omega) (by omega), by simp only []; omega, by simp only []; omega, rfl, fun e => ?_⟩
          rw [t4]
          show (gt r5.1.At t.2.2).Lo ≤ gt r4.1 t.2.2 - (gt r4.1 t.2.2 - (gt r5.1.At t.2.2).Lo) / 2 ∧ gt r4.1 t.2.2 + ((gt r5.1.At t.2.2).Hi - gt r4.1 t.2.2) / 3 ≤ (gt r5.1.At t.2.2).Hi
          omega
        · refine Has.chk (room _) (Has.ret (.next ⟨(t1.trans n3).more (by simp only []; omega), by simp only []; omega, by simp only []; omega, by simp; omega, allI_snoc t5 ?_⟩ (by simp only []; omega)))
          have := hc.cell _ (gt_mem r5.1.At t.2.2 ⟨t2, hi⟩)
          exact ⟨this.1, this.2.1, this.2.2, hu, fun _ => by rw [t4]; exact ⟨Int.le_refl _, Int.le_refl _⟩⟩
    · have hi : ¬ t.2.2 < r5.1.At.length := fun q => hi (decide_eq_true q)
      exact Has.ret (.done ⟨by omega, t5⟩)
  · have hd : okF (Cells.mk r1.1 r2.1 z) := ⟨w0, by simp only []; omega, g0, by simp only []; omega, z1, allI_mem (allI_mono z2 fun i b _ _ h => ⟨h.1, h.2.1, h.2.2.1⟩)⟩
    obtain ⟨⟨sr, e⟩, hf, rfl, sl, ps, ws, hsu, hL, rfl⟩ := find_ok hc (by omega) V fun sl hS pre ps ws hpre I => few8 hc (by omega) (by omega) hS hpre I
    obtain ⟨⟨sr', e'⟩, hf', rfl, sl', qs, vs, hsu', hM, rfl⟩ := find_ok hd (by simp only []; omega) V fun sl hS pre ps ws hpre I => few8 hd (by simp only []; omega) (by simp only []; omega) hS hpre I
    rw [hf, hf', two_ok]
    have eWn : r5.1.W.toNat * r5.1.H.toNat = z.length := by
      have := hc.nat; omega
    have key := sharper_le hc hd eW.symm eH.symm hL hM (fun i i0 i1 hu => ⟨(z2 i i0 (by omega)).2.2.2.1, ((z2 i i0 (by omega)).2.2.2.2 hu).1⟩) fun k hk => by
      have hz := z2 (k : Int) (by omega) (by omega)
      have hcc := hc.cell _ (gt_mem r5.1.At (k : Int) ⟨by omega, by omega⟩)
      have eg : gt r5.1.At (k : Int) = atB r5.1.At k := by rw [gt_atB]; simp
      have eg' : gt z (k : Int) = atB z k := by rw [gt_atB]; simp
      simp only [] at hz
      rw [eg, eg'] at hz
      have e1 : hgtB (atB z k) = (atB z k).Hi := by show hgt _ _ (atB z k).Unknown = _; rw [hz.2.2.2.1]; rfl
      show hgtB (atB z k) ≤ _
      rw [e1]
      cases hu : (atB r5.1.At k).Unknown with
      | true => show _ ≤ hgt _ _ (atB r5.1.At k).Unknown; rw [hu]; show _ ≤ (4611686018427387904 : Int); omega
      | false => show _ ≤ hgt _ _ (atB r5.1.At k).Unknown; rw [hu]; exact (hz.2.2.2.2 hu).2
    simp only [Option.bind_some, if_true, beq_self_eq_true, srcs_len]
    exact Has.ret (decide_eq_true (by omega))
end Lf
