/- Laws of the plain functions. Conditions: as each theorem states them. -/
import Derived.Test.YtfkpgkaalaobbaaY0
import Derived.KernelRfl
import Derived.Test.YtfkpgkaalaobbaaD
import Derived.Test.YtfkpgkaalaobbaaA4
/- The sources that find.Find finds. -/
namespace Lf
open Go Go.Abs
set_option linter.unusedVariables false
set_option linter.unusedSimpArgs false
def SadOf (w h : Nat) (t : List Bound) (p : Int) (R : List Int) : Prop := R.length = w * h ∧ ∀ j, j < w * h → ∀ θ, θ ≤ R.getD j 0 ↔ Way w h t θ p.toNat j
def loB (t : List Bound) (x : Int) : Int := (atB t x.toNat).Lo
theorem getD_snoc {α : Type} (xs : List α) (x d : α) (k : Nat) : (xs ++ [x]).getD k d = if k < xs.length then xs.getD k d else if k = xs.length then x else d := by
  simp only [List.getD_eq_getElem?_getD, List.getElem?_append]
  by_cases h : k < xs.length
  · rw [if_pos h, if_pos h]
  · rw [if_neg h, if_neg h]
    by_cases e : k = xs.length
    · rw [if_pos e, e]; simp
    · rw [if_neg e, List.getElem?_eq_none (by simp; omega)]; rfl
theorem mem_getD {α : Type} (xs : List α) (d : α) (k : Nat) (h : k < xs.length) : xs.getD k d ∈ xs := by
  rw [List.getD_eq_getElem?_getD, List.getElem?_eq_getElem h]; exact List.getElem_mem h
theorem getD_of_mem {α : Type} (xs : List α) (d x : α) (h : x ∈ xs) : ∃ k, k < xs.length ∧ xs.getD k d = x := by
  obtain ⟨k, hk, e⟩ := List.getElem_of_mem h
  exact ⟨k, hk, by rw [List.getD_eq_getElem?_getD, List.getElem?_eq_getElem hk]; exact e⟩
theorem any_way (ws : List (List Int)) (x : Nat) (v : Int) : (ws.any fun R => decide (v ≤ R.getD x 0)) = true ↔ ∃ k, k < ws.length ∧ v ≤ wayG ws k x := by
  rw [List.any_eq_true]
  constructor
  · rintro ⟨R, hR, h⟩
    obtain ⟨k, hk, e⟩ := getD_of_mem ws [] R hR
    exact ⟨k, hk, by unfold wayG; rw [e]; exact of_decide_eq_true h⟩
  · rintro ⟨k, hk, h⟩
    exact ⟨_, mem_getD ws [] k hk, decide_eq_true h⟩
/-- What holds behind a part of the sure cells. -/
structure FdI (w h : Nat) (t : List Bound) (pre ps : List Int) (ws : List (List Int)) : Prop where
  len : ps.length = ws.length
  sad : ∀ k, k < ps.length → SadOf w h t (ps.getD k 0) (ws.getD k [])
  sub : ps.Sublist pre
  new : ∀ j k, j < k → k < ps.length → wayG ws j (ps.getD k 0).toNat < loB t (ps.getD k 0)
  cov : ∀ x ∈ pre, ∃ k, k < ps.length ∧ loB t x ≤ wayG ws k x.toNat
theorem FdI.nil (w h : Nat) (t : List Bound) : FdI w h t [] [] [] := ⟨rfl, fun k hk => by simp at hk, List.Sublist.refl _, fun j k _ hk => by simp at hk, fun x hx => by cases hx⟩
theorem fd1_ok {w h : Nat} {t : List Bound} (hl : t.length = w * h) (hn : w * h ≤ 1024) (L : List Int) (hL : ∀ x ∈ L, 0 ≤ x ∧ x < (w * h : Nat) ∧ loB t x ≤ hgtB (atB t x.toNat))
    (hc : ∀ pre ps ws, pre <+: L → FdI w h t pre ps ws → ps.length < 24) : ∀ (l pre ps : List Int) (ws : List (List Int)), pre ++ l = L → FdI w h t pre ps ws → Has (fd1 w h t l ps ws) fun r => ∃ ps' ws', r = some (ps', ws') ∧ FdI w h t L ps' ws'
  | [], pre, ps, ws, e, I => by
    rw [fd1]
    rw [List.append_nil] at e
    subst e
    exact Has.ret ⟨ps, ws, rfl, I⟩
  | x :: l, pre, ps, ws, e, I => by
    have e' : (pre ++ [x]) ++ l = L := by rw [← e]; simp
    obtain ⟨x0, x1, x2⟩ := hL x (by rw [← e]; simp)
    rw [fd1]
    refine Has.ite (fun ha => ?_) fun ha => Has.neg (by have := hc pre ps ws ⟨x :: l, e⟩ I; omega) ?_
    · obtain ⟨k, hk, hv⟩ := (any_way ws x.toNat _).1 ha
      refine fd1_ok hl hn L hL hc l (pre ++ [x]) ps ws e' ⟨I.len, I.sad, I.sub.trans (List.sublist_append_left _ _), I.new, fun y hy => ?_⟩
      rcases List.mem_append.1 hy with hy | hy
      · exact I.cov y hy
      · rw [List.mem_singleton.1 hy]; exact ⟨k, by rw [I.len]; exact hk, hv⟩
    · have ha : ∀ k, k < ws.length → wayG ws k x.toNat < loB t x := fun k hk => by
        by_cases q : loB t x ≤ wayG ws k x.toNat
        · exact absurd ((any_way ws x.toNat _).2 ⟨k, hk, q⟩) ha
        · omega
      refine (sadR_ok hl hn (show x.toNat < w * h by omega)).bind fun R hR => ?_
      have il := I.len
      have gp : ∀ k, (ps ++ [x]).getD k 0 = if k < ps.length then ps.getD k 0 else if k = ps.length then x else 0 := getD_snoc ps x 0
      have gw : ∀ k, (ws ++ [R]).getD k [] = if k < ws.length then ws.getD k [] else if k = ws.length then R else [] := getD_snoc ws R []
      refine fd1_ok hl hn L hL hc l (pre ++ [x]) (ps ++ [x]) (ws ++ [R]) e' ⟨by simp [il], fun k hk => ?_, I.sub.append (List.Sublist.refl _), fun j k jk hk => ?_, fun y hy => ?_⟩
      · rw [List.length_append, List.length_singleton] at hk
        rw [gp, gw]
        by_cases q : k < ps.length
        · rw [if_pos q, if_pos (by omega)]; exact I.sad k q
        · rw [if_neg q, if_pos (show k = ps.length by omega), if_neg (show ¬ k < ws.length by omega), if_pos (show k = ws.length by omega)]; exact hR
      · rw [List.length_append, List.length_singleton] at hk
        have ej : wayG (ws ++ [R]) j = wayG ws j := by unfold wayG; rw [gw, if_pos (by omega)]
        rw [ej, gp]
        by_cases q : k < ps.length
        · rw [if_pos q]; exact I.new j k jk q
        · rw [if_neg q, if_pos (by omega)]; exact ha j (by omega)
      · have keep : ∀ k, k < ws.length → wayG (ws ++ [R]) k = wayG ws k := fun k hk => by unfold wayG; rw [gw, if_pos hk]
        rcases List.mem_append.1 hy with hy | hy
        · obtain ⟨k, hk, hv⟩ := I.cov y hy
          exact ⟨k, by simp; omega, by rw [keep k (by omega)]; exact hv⟩
        · rw [List.mem_singleton.1 hy]
          refine ⟨ps.length, by simp, ?_⟩
          have : wayG (ws ++ [R]) ps.length x.toNat = R.getD x.toNat 0 := by unfold wayG; rw [gw, if_neg (by omega), if_pos il]
          rw [this, hR.2 x.toNat (by omega)]
          exact .start (by omega) x2
/-- A source is not where another one's light goes down from. -/
theorem FdI.far {w h : Nat} {t : List Bound} {pre ps : List Int} {ws : List (List Int)} (I : FdI w h t pre ps ws) (hp : ∀ x ∈ pre, 0 ≤ x ∧ x < (w * h : Nat)) {j k : Nat} (jk : j < k) (hk : k < ps.length) : ¬ Way w h t (loB t (ps.getD k 0)) (ps.getD j 0).toNat (ps.getD k 0).toNat := fun q => by
  have a := I.new j k jk hk
  have hm := I.sub.subset (mem_getD ps 0 k hk)
  obtain ⟨h0, h1⟩ := hp _ hm
  have := ((I.sad j (by omega)).2 (ps.getD k 0).toNat (by omega) (loB t (ps.getD k 0))).2 q
  have e : wayG ws j (ps.getD k 0).toNat = (ws.getD j []).getD (ps.getD k 0).toNat 0 := rfl
  omega
end Lf
/- find.Find: the sources. -/
namespace Lf
open Go Go.Abs
set_option linter.unusedVariables false
set_option linter.unusedSimpArgs false
theorem gt_atB (l : List Bound) (x : Int) : gt l x = atB l x.toNat := rfl
theorem kyF_lo (c : Cells) (x : Int) : kyF c x = loB c.At x := rfl
/-- What is known of sure cells. -/
theorem SureL.at {c : Cells} {level : Bound} {l : List Int} (h : SureL c level l) (hc : okF c) (x : Int) (hx : x ∈ l) : 0 ≤ x ∧ x < (c.W.toNat * c.H.toNat : Nat) ∧ loB c.At x ≤ hgtB (atB c.At x.toNat) ∧ hgtB (atB c.At x.toNat) = (gt c.At x).Hi := by
  obtain ⟨x0, x1, u, v⟩ := (h.mem x).1 hx
  have b := (hc.cell _ (gt_mem c.At x ⟨x0, x1⟩)).1.le
  have hl := hc.len; have w0 := hc.w0; have h0 := hc.h0
  have e : ((c.W.toNat * c.H.toNat : Nat) : Int) = c.W * c.H := by rw [Int.natCast_mul, Int.toNat_of_nonneg (by omega), Int.toNat_of_nonneg (by omega)]
  have e2 : hgtB (atB c.At x.toNat) = (gt c.At x).Hi := by
    show hgt _ _ (gt c.At x).Unknown = _
    rw [u]; rfl
  exact ⟨x0, by omega, by rw [e2]; exact b, e2⟩
theorem okF.nat {c : Cells} (hc : okF c) : c.At.length = c.W.toNat * c.H.toNat ∧ c.W.toNat * c.H.toNat ≤ 1024 := by
  have hl := hc.len; have w0 := hc.w0; have h0 := hc.h0; have n := hc.n1
  have e : ((c.W.toNat * c.H.toNat : Nat) : Int) = c.W * c.H := by rw [Int.natCast_mul, Int.toNat_of_nonneg (by omega), Int.toNat_of_nonneg (by omega)]
  omega
theorem fd2_len (w : Nat) (ps : List Int) (ws : List (List Int)) : ∀ (l : List Int) (parts : List (List Int)), (fd2 w ps ws l parts).length = parts.length
  | [], parts => rfl
  | x :: l, parts => by rw [fd2, fd2_len]; simp
/-- The sources, as find.Find gives them. -/
def srcs (w : Nat) (l ps : List Int) (ws : List (List Int)) : List Source_ := (ps.zip (fd2 w ps ws (l.mergeSort fun x y => decide (x ≤ y)) (ps.map fun _ => []))).map fun p => Source_.mk p.1 p.2
theorem srcs_len (w : Nat) (l ps : List Int) (ws : List (List Int)) : (srcs w l ps ws).length = ps.length := by unfold srcs; simp [fd2_len]
theorem srcs_at (w : Nat) (l ps : List Int) (ws : List (List Int)) (k : Int) (k0 : 0 ≤ k) (k1 : k < ps.length) : gt (srcs w l ps ws) k = Source_.mk (ps.getD k.toNat 0) ((fd2 w ps ws (l.mergeSort fun x y => decide (x ≤ y)) (ps.map fun _ => [])).getD k.toNat []) := by
  have hk : k.toNat < ps.length := by omega
  have hk2 : k.toNat < (fd2 w ps ws (l.mergeSort fun x y => decide (x ≤ y)) (ps.map fun _ => [])).length := by rw [fd2_len]; simpa using hk
  rw [gt_def _ k ⟨k0, by rw [srcs_len]; exact k1⟩]
  unfold srcs
  simp only [List.getElem_map, List.getElem_zip, List.getD_eq_getElem?_getD, List.getElem?_eq_getElem hk, List.getElem?_eq_getElem hk2, Option.getD_some]
structure FindL (c : Cells) (level : Bound) (l ps : List Int) (ws : List (List Int)) : Prop where
  sure : SureL c level l
  fd : FdI c.W.toNat c.H.toNat c.At l ps ws
  run : fd1 c.W.toNat c.H.toNat c.At l [] [] = some (some (ps, ws))
theorem find_ok {c : Cells} {level : Bound} (hc : okF c) (hn : c.At.length ≤ 900) (hv : okLv level) (hcount : ∀ l, SureL c level l → ∀ pre ps ws, pre <+: l → FdI c.W.toNat c.H.toNat c.At pre ps ws → ps.length < 24) :
    Has (find_Find c level) fun r => r.2 = 0 ∧ ∃ l ps ws, find_Sure c level = some (l, 0) ∧ FindL c level l ps ws ∧ r.1 = srcs c.W.toNat l ps ws := by
  unfold find_Find
  obtain ⟨⟨l, e⟩, hs, rfl, hS⟩ := sure_ok hc hn hv
  rw [hs]
  obtain ⟨n1, n2⟩ := hc.nat
  simp only [Option.bind_some] at hS ⊢
  have hll : l.length ≤ 1024 := by
    have key : ∀ (n : Nat) (l : List Int), l.Nodup → (∀ x ∈ l, 0 ≤ x ∧ x < n) → l.length ≤ n := fun n => by
      induction n with
      | zero => intro l _ h; cases l with
        | nil => simp
        | cons x l => have := h x (List.mem_cons_self ..); omega
      | succ n ih =>
        intro l nd h
        by_cases hm : (n : Int) ∈ l
        · have := ih (l.erase n) (nd.erase _) fun x hx => by
            have h1 := (nd.mem_erase_iff).1 hx
            have := h x h1.2; have := h1.1; omega
          rw [List.length_erase_of_mem hm] at this; omega
        · have := ih l nd fun x hx => by
            have := h x hx
            have : x ≠ n := fun e => hm (by rw [← e]; exact hx)
            omega
          omega
    have := key (c.W.toNat * c.H.toNat) l hS.nd fun x hx => by have := hS.at hc x hx; omega
    omega
  refine Has.pos ⟨hc.w0, hc.w1, hc.h0, hc.h1, hc.len, fun x hx => by have := hS.at hc x hx; omega, hll⟩ ?_
  unfold fdL
  rw [if_neg (by simp)]
  obtain ⟨r, hr, ps, ws, rfl, hI⟩ := fd1_ok n1 n2 l (fun x hx => by have := hS.at hc x hx; exact ⟨this.1, this.2.1, this.2.2.1⟩) (hcount l hS) l [] [] [] rfl (FdI.nil _ _ _)
  rw [hr]
  exact Has.ret ⟨rfl, l, ps, ws, rfl, ⟨hS, hI, hr⟩, rfl⟩
section
variable {c : Cells} {level : Bound} {l pre ps : List Int} {ws : List (List Int)}
theorem sub_ord (hS : SureL c level l) (hp : ps.Sublist l) : ps.Pairwise (leF c) := hS.ord.sublist hp
theorem pw_getD {R : Int → Int → Prop} {l : List Int} (h : l.Pairwise R) {j k : Nat} (jk : j < k) (hk : k < l.length) : R (l.getD j 0) (l.getD k 0) := by
  have := List.pairwise_iff_getElem.1 h j k (by omega) hk jk
  rwa [show l.getD j 0 = l[j] by simp [List.getD_eq_getElem?_getD, List.getElem?_eq_getElem (show j < l.length by omega)], show l.getD k 0 = l[k] by simp [List.getD_eq_getElem?_getD, List.getElem?_eq_getElem hk]]
/-- Two sources do not touch. -/
theorem src_apart (hc : okF c) (hS : SureL c level l) (hpre : pre <+: l) (I : FdI c.W.toNat c.H.toNat c.At pre ps ws) {j k : Nat} (jk : j < k) (hk : k < ps.length) : ps.getD j 0 ≠ ps.getD k 0 ∧ ¬ adj c.W.toNat (ps.getD j 0).toNat (ps.getD k 0).toNat := by
  have hsub : ps.Sublist l := I.sub.trans hpre.sublist
  have mj := hS.at hc _ (hsub.subset (mem_getD ps 0 j (by omega)))
  have mk := hS.at hc _ (hsub.subset (mem_getD ps 0 k hk))
  have hf := I.far (fun x hx => by have := hS.at hc x (hpre.subset hx); omega) jk hk
  have ho : leF c (ps.getD j 0) (ps.getD k 0) := pw_getD (sub_ord hS hsub) jk hk
  have hlo : loB c.At (ps.getD k 0) ≤ loB c.At (ps.getD j 0) := by rw [← kyF_lo, ← kyF_lo]; unfold leF at ho; omega
  have st : Way c.W.toNat c.H.toNat c.At (loB c.At (ps.getD k 0)) (ps.getD j 0).toNat (ps.getD j 0).toNat := .start (by omega) (by omega)
  refine ⟨fun e => hf ?_, fun a => hf (.step st (by omega) a (by omega))⟩
  rw [← e]; rw [← e] at st; exact st
theorem nodup_lt : ∀ (n : Nat) (l : List Nat), l.Nodup → (∀ x ∈ l, x < n) → l.length ≤ n
  | 0, l, _, h => by
    cases l with
    | nil => simp
    | cons x l => have := h x (List.mem_cons_self ..); omega
  | n + 1, l, nd, h => by
    by_cases hm : n ∈ l
    · have := nodup_lt n (l.erase n) (nd.erase _) fun x hx => by
        have h1 := (nd.mem_erase_iff).1 hx
        have := h x h1.2; have := h1.1; omega
      rw [List.length_erase_of_mem hm] at this; omega
    · have := nodup_lt n l nd fun x hx => by
        have := h x hx
        have : x ≠ n := fun e => hm (by rw [← e]; exact hx)
        omega
      omega
/-- A small field has few sources. -/
theorem few8 (hc : okF c) (hw : c.W ≤ 8) (hh : c.H ≤ 8) (hS : SureL c level l) (hpre : pre <+: l) (I : FdI c.W.toNat c.H.toNat c.At pre ps ws) : ps.length < 24 := by
  have w0 := hc.w0
  have hsub : ps.Sublist l := I.sub.trans hpre.sublist
  obtain ⟨w, hw'⟩ : ∃ w, w = c.W.toNat := ⟨_, rfl⟩
  have hw8 : 0 < w ∧ w ≤ 8 := by omega
  have pos : ∀ x ∈ ps, x.toNat % w < 8 ∧ x.toNat / w < 8 := fun x hx => by
    have m := hS.at hc x (hsub.subset hx)
    rw [← hw'] at m
    have := Nat.mod_lt x.toNat (show w > 0 by omega)
    refine ⟨by omega, ?_⟩
    rw [Nat.div_lt_iff_lt_mul hw8.1, Nat.mul_comm]
    have : w * c.H.toNat ≤ w * 8 := Nat.mul_le_mul_left w (by omega)
    omega
  have nd : (ps.map fun x => x.toNat % w / 2 + 4 * (x.toNat / w / 2)).Nodup := by
    rw [List.Nodup, List.pairwise_map, List.pairwise_iff_getElem]
    intro j k hj hk jk e
    have ap := src_apart hc hS hpre I jk hk
    rw [← hw'] at ap
    have gj : ps.getD j 0 = ps[j] := by simp [List.getD_eq_getElem?_getD, List.getElem?_eq_getElem hj]
    have gk : ps.getD k 0 = ps[k] := by simp [List.getD_eq_getElem?_getD, List.getElem?_eq_getElem hk]
    rw [gj, gk] at ap
    have pj := pos _ (List.getElem_mem hj)
    have pk := pos _ (List.getElem_mem hk)
    have mj := hS.at hc _ (hsub.subset (List.getElem_mem hj))
    have mk := hS.at hc _ (hsub.subset (List.getElem_mem hk))
    refine ap.2 ⟨fun q => ap.1 (by omega), ?_⟩
    generalize ps[j].toNat % w = a at *
    generalize ps[j].toNat / w = b at *
    generalize ps[k].toNat % w = a' at *
    generalize ps[k].toNat / w = b' at *
    omega
  have := nodup_lt 16 _ nd fun x hx => by
    obtain ⟨y, hy, rfl⟩ := List.mem_map.1 hx
    have := pos y hy
    generalize y.toNat % w = a at *
    generalize y.toNat / w = b at *
    omega
  rw [List.length_map] at this
  omega
end
end Lf
/- Which source a sure cell belongs to; fields that have more light by the same amount. -/
namespace Lf
open Go Go.Abs
set_option linter.unusedVariables false
set_option linter.unusedSimpArgs false
/-- The source that a cell is a part of. -/
def bst (w : Nat) (ps : List Int) (ws : List (List Int)) (x : Int) : Nat := bestF w ps ws x.toNat 0 ps.length 0
theorem bestF_lt (w : Nat) (ps : List Int) (ws : List (List Int)) (x : Nat) : ∀ (m k b n : Nat), k + m ≤ n → b < n → bestF w ps ws x k m b < n
  | 0, k, b, n, h, hb => hb
  | m + 1, k, b, n, h, hb => by
    rw [bestF]
    refine bestF_lt w ps ws x m (k + 1) _ n (by omega) ?_
    split <;> omega
theorem fd2_get (w : Nat) (ps : List Int) (ws : List (List Int)) (k : Nat) : ∀ (l : List Int) (parts : List (List Int)), k < parts.length → (fd2 w ps ws l parts).getD k [] = parts.getD k [] ++ l.filter fun x => decide (bst w ps ws x = k)
  | [], parts, h => by simp [fd2]
  | x :: l, parts, h => by
    rw [fd2, fd2_get w ps ws k l _ (by simpa using h)]
    have e : bestF w ps ws x.toNat 0 ps.length 0 = bst w ps ws x := rfl
    rw [e]
    by_cases hk : bst w ps ws x = k
    · rw [hk, getD_set parts k k _ [] h, if_pos rfl, List.filter_cons_of_pos (by simpa using hk), List.append_assoc]; rfl
    · rw [List.filter_cons_of_neg (by simpa using hk)]
      congr 1
      by_cases hb : bst w ps ws x < parts.length
      · rw [getD_set parts _ k _ [] hb, if_neg (fun q => hk q.symm)]
      · rw [List.set_eq_of_length_le (by omega)]
section
variable {c : Cells} {level : Bound} {l ps : List Int} {ws : List (List Int)}
end
/-- Light that is more by the same amount. -/
structure moreF (c d : Cells) (up : Int) : Prop where
  W : d.W = c.W
  H : d.H = c.H
  len : d.At.length = c.At.length
  v : ∀ i : Int, 0 ≤ i → i < c.At.length → (gt c.At i).Unknown = true ∧ (gt d.At i).Unknown = true ∨ ((gt c.At i).Unknown = false ∧ (gt d.At i).Unknown = false ∧ (gt d.At i).Lo = (gt c.At i).Lo + up ∧ (gt d.At i).Hi = (gt c.At i).Hi + up)
  b : -536870912 ≤ up ∧ up ≤ 536870912
section
variable {c d : Cells} {up : Int} (M : moreF c d up) (hc : okF c)
include M hc
theorem moreF.hgt (i : Nat) (hi : i < c.W.toNat * c.H.toNat) : (hgtB (atB c.At i) = 4611686018427387904 ∧ hgtB (atB d.At i) = 4611686018427387904) ∨ (hgtB (atB d.At i) = hgtB (atB c.At i) + up ∧ hgtB (atB c.At i) ≤ 1099511627776 ∧ -1099511627776 ≤ hgtB (atB c.At i)) := by
  have n := hc.nat
  have eg : ∀ l : List Bound, gt l (i : Int) = atB l i := fun l => by rw [gt_atB]; simp
  have hv := M.v i (by omega) (by omega)
  have hb := hc.cell _ (gt_mem c.At (i : Int) ⟨by omega, by omega⟩)
  rw [eg, eg] at hv
  rw [eg] at hb
  have f : ∀ b : Bound, hgtB b = if b.Unknown = true then 4611686018427387904 else b.Hi := fun b => rfl
  rw [f, f]
  rcases hv with ⟨a, b⟩ | ⟨a, b, _, e⟩
  · left; rw [a, b]; exact ⟨rfl, rfl⟩
  · right; rw [a, b]
    have := hb.1.le
    exact ⟨e, hb.2.2, Int.le_trans hb.2.1 this⟩
theorem moreF.way {θ : Int} (h1 : -2305843009213693952 ≤ θ) (h2 : θ ≤ 2305843009213693952) {a b : Nat} : Way c.W.toNat c.H.toNat c.At θ a b ↔ Way c.W.toNat c.H.toNat d.At (θ + up) a b := by
  have hb := M.b
  have key : ∀ i, i < c.W.toNat * c.H.toNat → (θ ≤ hgtB (atB c.At i) ↔ θ + up ≤ hgtB (atB d.At i)) := fun i hi => by
    rcases M.hgt hc i hi with ⟨e1, e2⟩ | ⟨e1, _, _⟩
    · rw [e1, e2]; omega
    · rw [e1]; omega
  constructor
  · intro k
    induction k with
    | start h1 h2 => exact .start h1 ((key _ h1).1 h2)
    | step k h1 h2 h3 ih => exact .step ih h1 h2 ((key _ h1).1 h3)
  · intro k
    induction k with
    | start h1 h2 => exact .start h1 ((key _ h1).2 h2)
    | step k h1 h2 h3 ih => exact .step ih h1 h2 ((key _ h1).2 h3)
/-- Saddles at a known cell are more by the same amount. -/
theorem moreF.sad {p : Int} (hp : 0 ≤ p ∧ p < (c.W.toNat * c.H.toNat : Nat)) {R Q : List Int} (h1 : SadOf c.W.toNat c.H.toNat c.At p R) (h2 : SadOf c.W.toNat c.H.toNat d.At p Q) {x : Nat} (hx : x < c.W.toNat * c.H.toNat) (hk : hgtB (atB c.At x) ≤ 1099511627776) : Q.getD x 0 = R.getD x 0 + up := by
  have hb := M.b
  have low : ∀ i, i < c.W.toNat * c.H.toNat → -1099511627776 ≤ hgtB (atB c.At i) := fun i hi => by
    rcases M.hgt hc i hi with ⟨e1, e2⟩ | ⟨e1, _, e2⟩ <;> omega
  have n := hc.nat
  have low' : ∀ i, -1099511627776 ≤ hgtB (atB c.At i) := fun i => by
    by_cases hi : i < c.W.toNat * c.H.toNat
    · exact low i hi
    · have : atB c.At i = ⟨0, 0, false⟩ := by unfold atB; rw [List.getD_eq_getElem?_getD, List.getElem?_eq_none (by omega)]; rfl
      rw [this]; decide
  have r1 := (h1.2 x hx (R.getD x 0)).1 (Int.le_refl _)
  have rl := (h1.2 x hx (-1099511627776)).2 (way_all low' (by omega) x hx)
  have rt := r1.top
  have q1 := (h2.2 x hx (R.getD x 0 + up)).2 ((M.way hc (by omega) (by omega)).1 r1)
  have s1 := (h2.2 x hx (Q.getD x 0)).1 (Int.le_refl _)
  have st := s1.top
  have hx' := M.hgt hc x hx
  have e : Q.getD x 0 = (Q.getD x 0 - up) + up := by omega
  rw [e] at s1
  have s2 := (h1.2 x hx (Q.getD x 0 - up)).2 ((M.way hc (by omega) (by omega)).2 s1)
  omega
theorem moreF.fd1 (l : List Int) : ∀ (ps : List Int) (ws vs : List (List Int)), (∀ x ∈ l, 0 ≤ x ∧ x < (c.W.toNat * c.H.toNat : Nat) ∧ (gt c.At x).Unknown = false) → ps.length = ws.length → ps.length = vs.length →
    (∀ p ∈ ps, 0 ≤ p ∧ p < (c.W.toNat * c.H.toNat : Nat)) → (∀ k, k < ps.length → SadOf c.W.toNat c.H.toNat c.At (ps.getD k 0) (ws.getD k []) ∧ SadOf c.W.toNat c.H.toNat d.At (ps.getD k 0) (vs.getD k [])) →
    ∀ ps' ws' qs' vs', Lf.fd1 c.W.toNat c.H.toNat c.At l ps ws = some (some (ps', ws')) → Lf.fd1 c.W.toNat c.H.toNat d.At l ps vs = some (some (qs', vs')) → ps' = qs' := by
  have n := hc.nat
  induction l with
  | nil =>
    intro ps ws vs _ _ _ _ _ ps' ws' qs' vs' h1 h2
    rw [Lf.fd1] at h1 h2
    cases h1; cases h2; rfl
  | cons x l ih =>
    intro ps ws vs hl e1 e2 hp hs ps' ws' qs' vs' h1 h2
    rw [Lf.fd1] at h1 h2
    obtain ⟨x0, x1, xu⟩ := hl x (List.mem_cons_self ..)
    have hl' : ∀ y ∈ l, 0 ≤ y ∧ y < (c.W.toNat * c.H.toNat : Nat) ∧ (gt c.At y).Unknown = false := fun y hy => hl y (List.mem_cons_of_mem _ hy)
    have hx : x.toNat < c.W.toNat * c.H.toNat := by omega
    have kn : hgtB (atB c.At x.toNat) ≤ 1099511627776 := by
      have hb := hc.cell _ (gt_mem c.At x ⟨x0, by omega⟩)
      show Lf.hgt _ _ (gt c.At x).Unknown ≤ _
      rw [xu]; exact hb.2.2
    have vx := M.v x x0 (by omega)
    have lo : (atB d.At x.toNat).Lo = (atB c.At x.toNat).Lo + up := by
      rcases vx with ⟨a, _⟩ | ⟨_, _, e, _⟩
      · rw [a] at xu; cases xu
      · exact e
    have sd : ∀ k, k < ps.length → wayG vs k x.toNat = wayG ws k x.toNat + up := fun k hk => M.sad hc (hp _ (mem_getD ps 0 k hk)) (hs k hk).1 (hs k hk).2 hx kn
    have any : ((ws.any fun R => decide ((atB c.At x.toNat).Lo ≤ R.getD x.toNat 0)) = true) ↔ ((vs.any fun R => decide ((atB d.At x.toNat).Lo ≤ R.getD x.toNat 0)) = true) := by
      rw [any_way, any_way]
      constructor
      · rintro ⟨k, hk, h⟩; exact ⟨k, by omega, by rw [sd k (by omega), lo]; omega⟩
      · rintro ⟨k, hk, h⟩; rw [sd k (by omega), lo] at h; exact ⟨k, by omega, by omega⟩
    by_cases ha : (ws.any fun R => decide ((atB c.At x.toNat).Lo ≤ R.getD x.toNat 0)) = true
    · rw [if_pos ha] at h1
      rw [if_pos (any.1 ha)] at h2
      exact ih ps ws vs hl' e1 e2 hp hs ps' ws' qs' vs' h1 h2
    · rw [if_neg ha] at h1
      rw [if_neg (fun q => ha (any.2 q))] at h2
      by_cases h24 : ps.length = 24
      · rw [if_pos h24] at h1; cases h1
      · rw [if_neg h24] at h1 h2
        obtain ⟨R, hR, h1⟩ := Option.bind_eq_some_iff.1 h1
        obtain ⟨Q, hQ, h2⟩ := Option.bind_eq_some_iff.1 h2
        have cR : SadOf c.W.toNat c.H.toNat c.At x R := by
          obtain ⟨R', e, h⟩ := sadR_ok (a := x.toNat) n.1 n.2 hx
          rw [hR] at e; cases e; exact h
        have hdl : d.At.length = c.W.toNat * c.H.toNat → SadOf c.W.toNat c.H.toNat d.At x Q := fun hd => by
          obtain ⟨Q', e, h⟩ := sadR_ok (a := x.toNat) hd n.2 hx
          rw [hQ] at e; cases e; exact h
        refine ih (ps ++ [x]) (ws ++ [R]) (vs ++ [Q]) hl' (by simp [e1]) (by simp [e2]) (fun p hp' => ?_) (fun k hk => ?_) ps' ws' qs' vs' h1 h2
        · rcases List.mem_append.1 hp' with q | q
          · exact hp p q
          · rw [List.mem_singleton.1 q]; exact ⟨x0, x1⟩
        · rw [List.length_append, List.length_singleton] at hk
          rw [getD_snoc ps, getD_snoc ws, getD_snoc vs]
          by_cases q : k < ps.length
          · rw [if_pos q, if_pos (show k < ws.length by omega), if_pos (show k < vs.length by omega)]; exact hs k q
          · rw [if_neg q, if_pos (show k = ps.length by omega), if_neg (show ¬ k < ws.length by omega), if_pos (show k = ws.length by omega), if_neg (show ¬ k < vs.length by omega), if_pos (show k = vs.length by omega)]
            exact ⟨cR, hdl (by rw [M.len]; exact n.1)⟩
theorem moreF.bst {ps : List Int} {ws vs : List (List Int)} (hp : ∀ p ∈ ps, 0 ≤ p ∧ p < (c.W.toNat * c.H.toNat : Nat)) (hs : ∀ k, k < ps.length → SadOf c.W.toNat c.H.toNat c.At (ps.getD k 0) (ws.getD k []) ∧ SadOf c.W.toNat c.H.toNat d.At (ps.getD k 0) (vs.getD k []))
    (x : Int) (x0 : 0 ≤ x) (x1 : x < (c.W.toNat * c.H.toNat : Nat)) (xu : (gt c.At x).Unknown = false) : Lf.bst c.W.toNat ps vs x = Lf.bst c.W.toNat ps ws x := by
  have n := hc.nat
  have kn : hgtB (atB c.At x.toNat) ≤ 1099511627776 := by
    have hb := hc.cell _ (gt_mem c.At x ⟨x0, by omega⟩)
    show Lf.hgt _ _ (gt c.At x).Unknown ≤ _
    rw [xu]; exact hb.2.2
  have sd : ∀ k, k < ps.length → wayG vs k x.toNat = wayG ws k x.toNat + up := fun k hk => M.sad hc (hp _ (mem_getD ps 0 k hk)) (hs k hk).1 (hs k hk).2 (by omega) kn
  have key : ∀ m k b, k + m ≤ ps.length → b < ps.length → bestF c.W.toNat ps vs x.toNat k m b = bestF c.W.toNat ps ws x.toNat k m b := fun m => by
    induction m with
    | zero => intro k b _ _; rfl
    | succ m ih =>
      intro k b hk hb
      rw [bestF, bestF]
      have e : better c.W.toNat ps vs x.toNat k b = better c.W.toNat ps ws x.toNat k b := by
        unfold better
        rw [sd k (by omega), sd b hb]
        have q1 : decide (wayG ws b x.toNat + up < wayG ws k x.toNat + up) = decide (wayG ws b x.toNat < wayG ws k x.toNat) := by rw [decide_eq_decide]; omega
        have q2 : decide (wayG ws k x.toNat + up = wayG ws b x.toNat + up) = decide (wayG ws k x.toNat = wayG ws b x.toNat) := by rw [decide_eq_decide]; omega
        rw [q1, q2]
      rw [e]
      refine ih (k + 1) _ (by omega) ?_
      split <;> omega
  by_cases h0 : ps.length = 0
  · unfold Lf.bst; rw [h0]; rfl
  · exact key ps.length 0 0 (by omega) (by omega)
/-- The sources are the same. -/
theorem moreF.srcs {level up' : Bound} {l ps qs : List Int} {ws vs : List (List Int)} (L : FindL c level l ps ws) (K : FindL d up' l qs vs) : srcs d.W.toNat l qs vs = srcs c.W.toNat l ps ws := by
  have hx : ∀ x ∈ l, 0 ≤ x ∧ x < (c.W.toNat * c.H.toNat : Nat) ∧ (gt c.At x).Unknown = false := fun x hx => by
    have a := L.sure.at hc x hx
    exact ⟨a.1, a.2.1, ((L.sure.mem x).1 hx).2.2.1⟩
  have r2 := K.run
  rw [M.W, M.H] at r2
  have e := M.fd1 hc l [] [] [] hx rfl rfl (fun p hp => by cases hp) (fun k hk => by simp at hk) _ _ _ _ L.run r2
  subst e
  have k2 := K.fd
  rw [M.W, M.H] at k2
  have hp : ∀ p ∈ ps, 0 ≤ p ∧ p < (c.W.toNat * c.H.toNat : Nat) := fun p hp => by have := hx p (L.fd.sub.subset hp); exact ⟨this.1, this.2.1⟩
  have hs := fun k hk => (And.intro (L.fd.sad k hk) (k2.sad k hk))
  have key : ∀ (m : List Int) (parts : List (List Int)), (∀ x ∈ m, x ∈ l) → fd2 c.W.toNat ps vs m parts = fd2 c.W.toNat ps ws m parts := fun m => by
    induction m with
    | nil => intro parts _; rfl
    | cons x m ih =>
      intro parts hm
      rw [fd2, fd2]
      have a := hx x (hm x (List.mem_cons_self ..))
      have e : bestF c.W.toNat ps vs x.toNat 0 ps.length 0 = bestF c.W.toNat ps ws x.toNat 0 ps.length 0 := M.bst hc hp hs x a.1 a.2.1 a.2.2
      rw [e]
      exact ih _ fun y hy => hm y (List.mem_cons_of_mem _ hy)
  unfold Lf.srcs
  rw [M.W, key _ _ fun x hx => List.mem_mergeSort.1 hx]
end
end Lf
/- Lights, and bounds of them. -/
namespace Lf
open Go Go.Abs
set_option linter.unusedVariables false
set_option linter.unusedSimpArgs false
/-- One point's light at a cell. -/
theorem point_ok {top k dx dy : Int} (h0 : 0 ≤ top) (h1 : top ≤ 4999) (k1 : 1 ≤ k) (k3 : k ≤ 3) (x0 : 0 ≤ dx) (x1 : dx ≤ k) (y0 : 0 ≤ dy) (y1 : dy ≤ k) :
    w6 ((w6 (top * (w6 ((w6 (k + 1)) - dx)))) * (w6 ((w6 (k + 1)) - dy))) = top * (k + 1 - dx) * (k + 1 - dy) ∧ w6 ((w6 (k + 1)) * (w6 (k + 1))) = (k + 1) * (k + 1) ∧ (k + 1) * (k + 1) ≠ 0 ∧
    w6 (Int.tdiv (top * (k + 1 - dx) * (k + 1 - dy)) ((k + 1) * (k + 1))) = top * (k + 1 - dx) * (k + 1 - dy) / ((k + 1) * (k + 1)) ∧ 0 ≤ top * (k + 1 - dx) * (k + 1 - dy) / ((k + 1) * (k + 1)) ∧ top * (k + 1 - dx) * (k + 1 - dy) / ((k + 1) * (k + 1)) ≤ top := by
  rw [w6_in (n := k + 1) (by omega), w6_in (n := k + 1 - dx) (by omega), w6_in (n := k + 1 - dy) (by omega)]
  have a0 := Int.mul_nonneg h0 (show 0 ≤ k + 1 - dx by omega)
  have a1 := Int.mul_le_mul_of_nonneg_left (show k + 1 - dx ≤ k + 1 by omega) h0
  have a2 := Int.mul_le_mul_of_nonneg_left (show k + 1 ≤ 4 by omega) h0
  have b0 := Int.mul_nonneg a0 (show 0 ≤ k + 1 - dy by omega)
  have b1 := Int.mul_le_mul_of_nonneg_left (show k + 1 - dy ≤ k + 1 by omega) a0
  have b2 := Int.mul_le_mul_of_nonneg_right a1 (show 0 ≤ k + 1 by omega)
  have b3 := Int.mul_le_mul_of_nonneg_left (show k + 1 ≤ 4 by omega) a0
  have c0 : 4 ≤ (k + 1) * (k + 1) ∧ (k + 1) * (k + 1) ≤ 16 := by
    have : k = 1 ∨ k = 2 ∨ k = 3 := by omega
    rcases this with rfl | rfl | rfl <;> decide
  have d0 : 0 ≤ top * (k + 1 - dx) * (k + 1 - dy) / ((k + 1) * (k + 1)) := Int.ediv_nonneg b0 (by omega)
  have d1 : top * (k + 1 - dx) * (k + 1 - dy) / ((k + 1) * (k + 1)) ≤ top := by
    have : top * (k + 1 - dx) * (k + 1 - dy) / ((k + 1) * (k + 1)) < top + 1 := by
      rw [Int.ediv_lt_iff_lt_mul (by omega), Int.add_mul, ← Int.mul_assoc]; omega
    omega
  refine ⟨?_, w6_in (by omega), by omega, ?_, d0, d1⟩
  · rw [w6_in (n := top * (k + 1 - dx)) (by omega)]; exact w6_in (by omega)
  · rw [Int.tdiv_eq_ediv_of_nonneg b0]; exact w6_in (by omega)
theorem tops_at (v : Int) (h : 0 ≤ v ∧ v < 3) : 1 ≤ gt ([30, 400, 5000] : List Int) v ∧ gt ([30, 400, 5000] : List Int) v ≤ 5000 := by
  have : v = 0 ∨ v = 1 ∨ v = 2 := by omega
  rcases this with rfl | rfl | rfl <;> decide
/-- What the light of a field is, of which the background is given. -/
structure okLt (n b : Int) (back : Int) (l : List Int) : Prop where
  len : (l.length : Int) = n
  v : ∀ x ∈ l, back ≤ x ∧ x ≤ b
theorem lights_ok (s : spymake_Stream) (w h points : Int) (hs : okS s) (ha : s.at_ ≤ 4611686018427000000) (w0 : 1 ≤ w) (w1 : w ≤ 32) (h0 : 1 ≤ h) (h1 : h ≤ 32) (p0 : 0 ≤ points) (p1 : points ≤ 10) :
    Has (Stream_Lights s w h points) fun r => okLt (w * h) (39 + 4999 * points) r.2.1 r.1 ∧ 0 ≤ r.2.1 ∧ r.2.1 ≤ 39 ∧ after s r.2.2 (1 + 5 * points) := by
  have hA := area w0 w1 h0 h1
  unfold Stream_Lights
  have eA : w6 (w * h) = w * h := w6_in (by omega)
  rw [eA]
  refine (next_ok s 40 hs (by omega) (by omega)).bind fun r ⟨r1, r2, r3⟩ => ?_
  refine Has.chk ⟨by omega, Int.le_refl _, roomyI (by omega) (by omega)⟩ ?_
  refine Has.bind (P := fun l : List Int => (l.length : Int) = w * h ∧ ∀ x ∈ l, x = r.1) ?_ fun l ⟨l1, l2⟩ => ?_
  · refine Has.loop (fun t : List Int × Int => (t.1.length : Int) = w * h ∧ 0 ≤ t.2 ∧ t.2 ≤ w * h ∧ allI t.1 fun j x => j < t.2 → x = r.1) (fun t => (w * h - t.2).toNat) _ ⟨by simp; omega, Int.le_refl _, by simp only []; omega, fun j j1 j2 j3 => by simp only [] at j3; omega⟩ (by simp only []; omega) fun t ⟨t1, t2, t3, t4⟩ => ?_
    unfold Stream_Lights.l1
    rw [eA]
    refine Has.letF (Has.ite (fun hc => ?_) fun hc => ?_)
    · have hc : t.2 < w * h := by simp at hc; omega
      rw [w6_in (by omega)]
      refine Has.chk ⟨t2, by omega⟩ (Has.ret (.next ⟨by simp only [List.length_set]; exact t1, by simp only []; omega, by simp only []; omega, ?_⟩ (by simp only []; omega)))
      exact allI_upd t4 t2 (fun j x j1 j2 j3 hx hj => by simp only [] at hj; exact hx (by omega)) fun _ => rfl
    · have hc : ¬ t.2 < w * h := by simp at hc; omega
      exact Has.ret (.done ⟨t1, allI_mem (allI_mono t4 fun j x j1 j2 hx => hx (by omega))⟩)
  · have hsr := r3.ok hs (by omega)
    have hh := r3.hi
    refine (Has.loop (fun t : spymake_Stream × List Int × Int => after r.2 t.1 (5 * t.2.2) ∧ 0 ≤ t.2.2 ∧ t.2.2 ≤ points ∧ (t.2.1.length : Int) = w * h ∧ ∀ x ∈ t.2.1, r.1 ≤ x ∧ x ≤ 39 + 4999 * t.2.2) (fun t => (points - t.2.2).toNat)
      (fun o : spymake_Stream × List Int => after r.2 o.1 (5 * points) ∧ okLt (w * h) (39 + 4999 * points) r.1 o.2) ⟨after.refl _, Int.le_refl _, p0, l1, fun x hx => by have := l2 x hx; simp only []; omega⟩ (by simp only []; omega) fun t ⟨t1, t2, t3, t4, t5⟩ => ?_).bind
      fun o ⟨o1, o2⟩ => Has.ret ⟨o2, r1, by simp only []; omega, (r3.trans o1).more (by omega)⟩
    unfold Stream_Lights.l2
    refine Has.ite (fun hc => ?_) fun hc => ?_
    · have hc : t.2.2 < points := of_decide_eq_true hc
      have hst := t1.ok hsr (by omega)
      have hht := t1.hi
      refine (next_ok t.1 w hst (by omega) (by omega)).bind fun x ⟨x1, x2, x3⟩ => ?_
      have hx := x3.ok hst (by omega); have hhx := x3.hi
      refine (next_ok x.2 h hx (by omega) (by omega)).bind fun y ⟨y1, y2, y3⟩ => ?_
      have hy := y3.ok hx (by omega); have hhy := y3.hi
      refine (range_ok y.2 1 3 hy (by omega) (by omega) (by omega) (by omega)).bind fun k ⟨k1, k2, k3⟩ => ?_
      have hk := k3.ok hy (by omega); have hhk := k3.hi
      refine (next_ok k.2 3 hk (by omega) (by omega)).bind fun g ⟨g1, g2, g3⟩ => ?_
      have hg := g3.ok hk (by omega); have hhg := g3.hi
      have ht := tops_at g.1 ⟨g1, g2⟩
      refine Has.chk ⟨g1, by simpa using g2⟩ ((next_ok g.2 _ hg (by omega) (by omega)).bind fun z ⟨z1, z2, z3⟩ => ?_)
      have hhz := z3.hi
      generalize gt ([30, 400, 5000] : List Int) g.1 = most at *
      refine Has.bind (P := fun l : List Int => (l.length : Int) = w * h ∧ ∀ x ∈ l, r.1 ≤ x ∧ x ≤ 39 + 4999 * (t.2.2 + 1)) ?_ fun l ⟨m1, m2⟩ => ?_
      · have ini : ∀ v : Int, r.1 ≤ v ∧ v ≤ 39 + 4999 * t.2.2 → ∀ {q : Prop}, r.1 ≤ v ∧ v ≤ 39 + 4999 * (t.2.2 + 1) ∧ (q → v ≤ 39 + 4999 * t.2.2) := fun v ⟨a, b⟩ _ => ⟨a, by omega, fun _ => b⟩
        refine Has.loop (fun u : List Int × Int => (u.1.length : Int) = w * h ∧ 0 ≤ u.2 ∧ u.2 ≤ w * h ∧ allI u.1 fun j x => r.1 ≤ x ∧ x ≤ 39 + 4999 * (t.2.2 + 1) ∧ (u.2 ≤ j → x ≤ 39 + 4999 * t.2.2)) (fun u => (w * h - u.2).toNat) _ ⟨t4, Int.le_refl _, by simp only []; omega, fun j j1 j2 => ini _ (t5 _ (gt_mem t.2.1 j ⟨j1, j2⟩))⟩ (by simp only []; omega) fun u ⟨u1, u2, u3, u4⟩ => ?_
        unfold Stream_Lights.l3
        rw [t4]
        refine Has.ite (fun hd => ?_) fun hd => ?_
        · have hd : u.2 < w * h := of_decide_eq_true hd
          have q0 := Int.tmod_nonneg w u2
          have q1 := Int.tmod_lt_of_pos u.2 (b := w) (by omega)
          have q2 : 0 ≤ Int.tdiv u.2 w := Int.tdiv_nonneg u2 (by omega)
          have q3 : Int.tdiv u.2 w < h := by rw [Int.tdiv_eq_ediv_of_nonneg u2, Int.ediv_lt_iff_lt_mul (by omega), Int.mul_comm]; exact hd
          refine Has.bind (P := fun l : List Int => (l.length : Int) = w * h ∧ allI l fun j x => r.1 ≤ x ∧ x ≤ 39 + 4999 * (t.2.2 + 1) ∧ (u.2 + 1 ≤ j → x ≤ 39 + 4999 * t.2.2)) ?_ fun l ⟨n1, n2⟩ => ?_
          · rw [w6_in (n := Int.tdiv u.2 w) (by omega), w6_in (n := Int.tmod u.2 w - x.1) (by omega), w6_in (n := x.1 - Int.tmod u.2 w) (by omega), w6_in (n := Int.tdiv u.2 w - y.1) (by omega), w6_in (n := y.1 - Int.tdiv u.2 w) (by omega)]
            refine Has.chk (by omega) (Has.letF (Has.letF ?_))
            have d1 := mx2_def (Int.tmod u.2 w - x.1) (x.1 - Int.tmod u.2 w)
            have d2 := mx2_def (Int.tdiv u.2 w - y.1) (y.1 - Int.tdiv u.2 w)
            generalize mx2 (Int.tmod u.2 w - x.1) (x.1 - Int.tmod u.2 w) = dx at *
            generalize mx2 (Int.tdiv u.2 w - y.1) (y.1 - Int.tdiv u.2 w) = dy at *
            simp only [ite_and, Option.bind_some]
            refine Has.ite (fun he => ?_) fun he => Has.ret ⟨u1, allI_mono u4 fun j v j1 j2 ⟨v1, v2, v3⟩ => ⟨v1, v2, fun h => v3 (by omega)⟩⟩
            simp only [Bool.and_eq_true, decide_eq_true_eq] at he
            obtain ⟨e1, e2, e3, e4, e5, e6⟩ := point_ok (top := z.1) (k := k.1) (dx := dx) (dy := dy) z1 (by omega) k1 k2 (by omega) he.1 (by omega) he.2
            rw [e1, e2]
            obtain ⟨v1, v2, v3⟩ := u4 u.2 u2 (by omega)
            have v3 := v3 (Int.le_refl _)
            refine Has.chk ⟨u2, by omega⟩ (Has.letF (Has.chk e3 (Has.letF (Has.ret ⟨by simp only [List.length_set]; exact u1, ?_⟩))))
            rw [e4]
            generalize z.1 * (k.1 + 1 - dx) * (k.1 + 1 - dy) / ((k.1 + 1) * (k.1 + 1)) = add at *
            rw [w6_in (n := gt u.1 u.2 + add) (by omega)]
            exact allI_upd u4 u2 (fun j v j1 j2 j3 ⟨v1, v2, v3⟩ => ⟨v1, v2, fun h => v3 (by omega)⟩) ⟨by omega, by omega, fun h => by omega⟩
          · rw [w6_in (by omega)]
            exact Has.ret (.next ⟨n1, by simp only []; omega, by simp only []; omega, n2⟩ (by simp only []; omega))
        · have hd : ¬ u.2 < w * h := fun q => hd (decide_eq_true q)
          exact Has.ret (.done ⟨u1, allI_mem (allI_mono u4 fun j v j1 j2 ⟨v1, v2, v3⟩ => ⟨v1, v2⟩)⟩)
      · rw [w6_in (by omega)]
        exact Has.ret (.next ⟨(((((t1.trans x3).trans y3).trans k3).trans g3).trans z3).more (by simp only []; omega), by simp only []; omega, by simp only []; omega, m1, m2⟩ (by simp only []; omega))
    · have hc : ¬ t.2.2 < points := fun q => hc (decide_eq_true q)
      have e : t.2.2 = points := by omega
      rw [e] at t1 t5
      exact Has.ret (.done ⟨t1, t4, t5⟩)
/-- A bound of a light, or none. -/
def veils (v : Int) (b : Bound) : Prop := b = ⟨0, 0, true⟩ ∨ (b.Unknown = false ∧ v - 200 ≤ b.Lo ∧ b.Lo ≤ v ∧ v ≤ b.Hi ∧ b.Hi ≤ v + 200)
theorem mosts_at (v : Int) (h : 0 ≤ v ∧ v < 4) : 0 ≤ gt ([0, 3, 30, 200] : List Int) v ∧ gt ([0, 3, 30, 200] : List Int) v ≤ 200 := by
  have : v = 0 ∨ v = 1 ∨ v = 2 ∨ v = 3 := by omega
  rcases this with rfl | rfl | rfl | rfl <;> decide
theorem veil_ok (s : spymake_Stream) (w h : Int) (light : List Int) (holes : Bool) (hs : okS s) (ha : s.at_ ≤ 4611686018427000000) (hn : light.length ≤ 1024) (hl : ∀ x ∈ light, -1000000000000 ≤ x ∧ x ≤ 1000000000000) :
    Has (Stream_Veil s w h light holes) fun r => r.1.W = w ∧ r.1.H = h ∧ r.1.At.length = light.length ∧ allI r.1.At (fun i b => veils (gt light i) b ∧ (holes = false → b.Unknown = false)) ∧ after s r.2 (1 + 3 * light.length) := by
  unfold Stream_Veil
  refine (next_ok s 4 hs (by omega) (by omega)).bind fun r ⟨r1, r2, r3⟩ => ?_
  have hr := r3.ok hs (by omega); have hh := r3.hi
  have hm := mosts_at r.1 ⟨r1, r2⟩
  refine Has.chk ⟨r1, by simpa using r2⟩ ?_
  refine (Has.loop (fun t : spymake_Stream × List Bound × Int => after r.2 t.1 (3 * t.2.2) ∧ 0 ≤ t.2.2 ∧ t.2.2 ≤ light.length ∧ (t.2.1.length : Int) = t.2.2 ∧ allI t.2.1 fun i b => veils (gt light i) b ∧ (holes = false → b.Unknown = false)) (fun t => (light.length - t.2.2).toNat)
    (fun o : spymake_Stream × List Bound => after r.2 o.1 (3 * light.length) ∧ o.2.length = light.length ∧ allI o.2 fun i b => veils (gt light i) b ∧ (holes = false → b.Unknown = false)) ⟨after.refl _, Int.le_refl _, by simp only []; omega, rfl, allI_nil⟩ (by simp only []; omega) fun t ⟨t1, t2, t3, t4, t5⟩ => ?_).bind
    fun o ⟨o1, o2, o3⟩ => Has.ret ⟨rfl, rfl, o2, o3, (r3.trans o1).more (by omega)⟩
  unfold Stream_Veil.l1
  refine Has.ite (fun hc => ?_) fun hc => ?_
  · have hc : t.2.2 < light.length := of_decide_eq_true hc
    have ht := t1.ok hr (by omega); have hht := t1.hi
    have hv := hl _ (gt_mem light t.2.2 ⟨t2, hc⟩)
    generalize gt ([0, 3, 30, 200] : List Int) r.1 = most at *
    rw [w6_in (n := most + 1) (by omega), w6_in (n := t.2.2 + 1) (by omega)]
    refine Has.chk ⟨t2, hc⟩ ((next_ok t.1 (most + 1) ht (by omega) (by omega)).bind fun a ⟨a1, a2, a3⟩ => ?_)
    have hA := a3.ok ht (by omega); have hha := a3.hi
    refine (next_ok a.2 (most + 1) hA (by omega) (by omega)).bind fun b ⟨b1, b2, b3⟩ => ?_
    have hB := b3.ok hA (by omega); have hhb := b3.hi
    rw [w6_in (n := gt light t.2.2 - a.1) (by omega), w6_in (n := gt light t.2.2 + b.1) (by omega)]
    refine Has.bind (P := fun z : spymake_Stream × Bool => after b.2 z.1 1 ∧ (holes = false → z.2 = false)) ?_ fun z ⟨z1, z2⟩ => ?_
    · refine Has.ite (fun hx => ?_) fun hx => Has.ret ⟨(after.refl _).more (by omega), fun _ => rfl⟩
      exact (next_ok b.2 9 hB (by omega) (by omega)).bind fun c ⟨c1, c2, c3⟩ => Has.ret ⟨c3, fun e => by rw [e] at hx; cases hx⟩
    have af : after r.2 z.1 (3 * (t.2.2 + 1)) := (((t1.trans a3).trans b3).trans z1).more (by omega)
    refine Has.ite (fun hz => ?_) fun hz => ?_
    · refine Has.chk (roomyI (by simp; omega) (by simp; omega)) (Has.ret (.next ⟨af, by simp only []; omega, by simp only []; omega, by simp; omega, allI_snoc t5 ⟨.inl rfl, fun e => ?_⟩⟩ (by simp only []; omega)))
      rw [z2 e] at hz; cases hz
    · refine Has.chk (roomyI (by simp; omega) (by simp; omega)) (Has.ret (.next ⟨af, by simp only []; omega, by simp only []; omega, by simp; omega, allI_snoc t5 ⟨.inr ⟨rfl, ?_⟩, fun _ => rfl⟩⟩ (by simp only []; omega)))
      rw [t4]
      simp only []
      omega
  · have hc : ¬ t.2.2 < light.length := fun q => hc (decide_eq_true q)
    have e : t.2.2 = light.length := by omega
    rw [e] at t1 t4
    exact Has.ret (.done ⟨t1, by simp only []; omega, t5⟩)
theorem veils.ok {v : Int} {b : Bound} (h : veils v b) (h1 : -1000000000000 ≤ v) (h2 : v ≤ 1000000000000) : b.ok ∧ -1099511627776 ≤ b.Lo ∧ b.Hi ≤ 1099511627776 := by
  rcases h with rfl | ⟨u, a, b', c, d⟩
  · exact ⟨okNone, by decide, by decide⟩
  · exact ⟨⟨(fun e => by rw [u] at e; cases e), by omega, by omega, by omega⟩, by omega, by omega⟩
end Lf
/- Fields that are drawn, and their levels. -/
namespace Lf
open Go Go.Abs
set_option linter.unusedVariables false
set_option linter.unusedSimpArgs false
theorem Has.and {α : Type} {x : Option α} {P Q : α → Prop} (h : Has x P) (k : Has x Q) : Has x fun a => P a ∧ Q a := by
  obtain ⟨a, e, h⟩ := h
  obtain ⟨b, e', k⟩ := k
  rw [e] at e'; cases e'
  exact ⟨a, e, h, k⟩
/-- Bounds of a light, cell by cell. -/
structure veilF (w h : Int) (light : List Int) (c : Cells) : Prop where
  ok : okF c
  W : c.W = w
  H : c.H = h
  len : (c.At.length : Int) = w * h
  v : ∀ i : Int, 0 ≤ i → i < w * h → veils (gt light i) (gt c.At i)
theorem veilF_ok (s : spymake_Stream) (w h : Int) (light : List Int) (holes : Bool) (hs : okS s) (ha : s.at_ ≤ 4611686018427000000) (w0 : 1 ≤ w) (w1 : w ≤ 32) (h0 : 1 ≤ h) (h1 : h ≤ 32) (hn : (light.length : Int) = w * h) (hl : ∀ x ∈ light, -1000000000000 ≤ x ∧ x ≤ 1000000000000) :
    Has (Stream_Veil s w h light holes) fun r => veilF w h light r.1 ∧ (holes = false → ∀ i : Int, 0 ≤ i → i < w * h → (gt r.1.At i).Unknown = false) ∧ after s r.2 (1 + 3 * light.length) := by
  have hA := area w0 w1 h0 h1
  refine (veil_ok s w h light holes hs ha (by omega) hl).mono fun r ⟨r1, r2, r3, r4, r5⟩ => ⟨⟨⟨by omega, by omega, by omega, by omega, by rw [r1, r2]; omega, ?_⟩, r1, r2, by omega, fun i i0 i1 => (r4 i i0 (by omega)).1⟩, fun e i i0 i1 => (r4 i i0 (by omega)).2 e, r5⟩
  refine allI_mem (allI_mono r4 fun i b i0 i1 hv => ?_)
  have := hl _ (gt_mem light i ⟨i0, by omega⟩)
  exact hv.1.ok this.1 this.2
section
variable {w h : Int} {light : List Int} {c : Cells} (F : veilF w h light c)
include F
theorem veilF.hi (hl : ∀ x ∈ light, x ≤ 1000000000000) (hn : (light.length : Int) = w * h) (i : Nat) (hi : (i : Int) < w * h) : gt light i ≤ hgtB (atB c.At i) := by
  have := F.v i (by omega) hi
  have e : gt c.At (i : Int) = atB c.At i := by rw [gt_atB]; simp
  rw [e] at this
  have b := hl _ (gt_mem light i ⟨by omega, by omega⟩)
  rcases this with q | ⟨u, _, _, q, _⟩
  · rw [q]; show _ ≤ (4611686018427387904 : Int); omega
  · show _ ≤ hgt _ _ (atB c.At i).Unknown
    rw [u]; exact q
theorem veilF.lo {level : Bound} {l : List Int} (hS : SureL c level l) (x : Int) (hx : x ∈ l) : loB c.At x ≤ gt light x := by
  obtain ⟨x0, x1, u, _⟩ := (hS.mem x).1 hx
  have := F.v x x0 (by have := F.len; omega)
  rcases this with q | ⟨_, _, q, _, _⟩
  · rw [q] at u; cases u
  · exact q
end
end Lf
/- change.In: what changed between two fields. -/
namespace Lf
open Go Go.Abs
set_option linter.unusedVariables false
set_option linter.unusedSimpArgs false
theorem inside_ok {a b : Bound} (ha : a.ok) (hb : b.ok) (ua : a.Unknown = false) (ub : b.Unknown = false) : bound_Inside a b = some (decide (b.Lo ≤ a.Lo) && decide (a.Hi ≤ b.Hi)) := by
  unfold bound_Inside
  rw [vague_ok hb hb, vague_ok ha ha, ua, ub]
  simp only [Option.bind_some, Bool.or_self, Bool.false_eq_true, if_false, Bool.not_false, if_true, ite_and, Bool.true_and]
/-- The difference of two fields. -/
structure diffF (a b d : Cells) (M : Int) : Prop where
  ok : okF d
  W : d.W = a.W
  H : d.H = a.H
  len : d.At.length = a.At.length
  v : ∀ i : Int, 0 ≤ i → i < a.At.length → gt d.At i = subB (gt a.At i) (gt b.At i)
  s : ∀ i : Int, 0 ≤ i → i < a.At.length → (gt d.At i).ok
theorem diff_ok {a b : Cells} {M : Int} (ha : okF a) (hb : okF b) (hw : a.W = b.W) (hh : a.H = b.H) (sa : small a M) (sb : small b M) (M0 : 0 ≤ M) (hM : 2 * M ≤ 1099511627776) : Has (differ_Sub a b) fun r => r.2 = 0 ∧ diffF a b r.1 M := by
  have hl : a.At.length = b.At.length := by have := ha.len; have := hb.len; rw [hw, hh] at *; omega
  refine (dsub_ok ha hb hw hh sa sb M0 hM).mono fun r ⟨r1, r2, r3, r4, r5⟩ => ⟨r1, ?_⟩
  have each : ∀ i : Int, 0 ≤ i → i < a.At.length → (subB (gt a.At i) (gt b.At i)).ok ∧ -(2 * M) ≤ (subB (gt a.At i) (gt b.At i)).Lo ∧ (subB (gt a.At i) (gt b.At i)).Hi ≤ 2 * M := fun i i0 i1 =>
    (subB_ok (sa _ (gt_mem a.At i ⟨i0, i1⟩)) (sb _ (gt_mem b.At i ⟨i0, by omega⟩)) M0 (by omega)).2
  refine ⟨⟨by rw [r2]; exact ha.w0, by rw [r2]; exact ha.w1, by rw [r3]; exact ha.h0, by rw [r3]; exact ha.h1, by rw [r4, r2, r3]; exact ha.len, allI_mem (allI_mono r5 fun i c i0 i1 e => ?_)⟩, r2, r3, r4, fun i i0 i1 => r5 i i0 (by omega), fun i i0 i1 => ?_⟩
  · rw [e]
    have := each i i0 (by omega)
    exact ⟨this.1, by omega, by omega⟩
  · rw [r5 i i0 (by omega)]; exact (each i i0 i1).1
/-- Sources of a field, found. -/
def found (d : Cells) (level : Bound) (s : List Source_) : Prop := ∃ l ps ws, FindL d level l ps ws ∧ s = srcs d.W.toNat l ps ws
/-- Cells that are the same. -/
structure sameL (d : Cells) (cut : Int) (l : List Int) : Prop where
  mem : ∀ x, x ∈ l ↔ 0 ≤ x ∧ x < d.At.length ∧ (gt d.At x).Unknown = false ∧ -cut ≤ (gt d.At x).Lo ∧ (gt d.At x).Hi ≤ cut
  inc : l.Pairwise (· < ·)
theorem in_ok {old now : Cells} {M cut : Int} (ho : okF old) (hn : okF now) (hw : old.W = now.W) (hh : old.H = now.H) (so : small old M) (sn : small now M) (M0 : 0 ≤ M) (hM : 2 * M ≤ 1099511627776) (c0 : 0 ≤ cut) (c1 : cut ≤ 1000000) (w8 : old.W ≤ 8) (h8 : old.H ≤ 8) :
    Has (change_In old now cut) fun r => r.2 = 0 ∧ ∃ d b, diffF now old d M ∧ diffF old now b M ∧ found d ⟨-cut, cut, false⟩ r.1.Up ∧ found b ⟨-cut, cut, false⟩ r.1.Down ∧ sameL d cut r.1.Same := by
  unfold change_In
  have lv : okLv ⟨-cut, cut, false⟩ := ⟨okKnown (by omega) (by omega) (by omega), rfl, by simp only []; omega, by simp only []; omega⟩
  refine (diff_ok hn ho hw.symm hh.symm sn so M0 hM).bind fun r1 ⟨e1, D⟩ => ?_
  rw [e1]
  have g1 : decide (cut < 0) = false := decide_eq_false (by omega)
  have g2 : decide (cut > 1099511627776) = false := decide_eq_false (by omega)
  simp only [bne_self_eq_false, Bool.false_eq_true, if_false, g1, g2, Option.bind_some]
  refine (diff_ok ho hn hw hh so sn M0 hM).bind fun r6 ⟨e6, B⟩ => ?_
  rw [w6_in (n := 0 - cut) (by omega), Int.zero_sub]
  have dW := D.W; have dH := D.H; have bW := B.W; have bH := B.H
  have dn := D.ok.n1
  have area8 : r1.1.W * r1.1.H ≤ 64 := by
    have a := Int.mul_le_mul_of_nonneg_right (show r1.1.W ≤ 8 by omega) (show 0 ≤ r1.1.H by have := D.ok.h0; omega)
    omega
  have bn := B.ok.n1
  have areab : r6.1.W * r6.1.H ≤ 64 := by
    have a := Int.mul_le_mul_of_nonneg_right (show r6.1.W ≤ 8 by omega) (show 0 ≤ r6.1.H by have := B.ok.h0; omega)
    omega
  have dl := D.ok.len; have bl := B.ok.len
  obtain ⟨⟨s1, z1⟩, f1, rfl, l1, ps1, ws1, _, L1, rfl⟩ := find_ok D.ok (by omega) lv fun sl hS pre ps ws hpre I => few8 D.ok (by omega) (by omega) hS hpre I
  obtain ⟨⟨s2, z2⟩, f2, rfl, l2, ps2, ws2, _, L2, rfl⟩ := find_ok B.ok (by omega) lv fun sl hS pre ps ws hpre I => few8 B.ok (by omega) (by omega) hS hpre I
  rw [f1, f2]
  simp only [bne_self_eq_false, Bool.false_eq_true, if_false, Option.bind_some]
  refine Has.bind (P := fun z : List Int => sameL r1.1 cut z) ?_ fun z hz => Has.ret ⟨rfl, r1.1, r6.1, D, B, ⟨_, _, _, L1, rfl⟩, ⟨_, _, _, L2, rfl⟩, hz⟩
  refine Has.loop (fun t : List Int × Int => 0 ≤ t.2 ∧ t.2 ≤ r1.1.At.length ∧ (∀ x, x ∈ t.1 ↔ 0 ≤ x ∧ x < t.2 ∧ (gt r1.1.At x).Unknown = false ∧ -cut ≤ (gt r1.1.At x).Lo ∧ (gt r1.1.At x).Hi ≤ cut) ∧ t.1.Pairwise (· < ·)) (fun t => (r1.1.At.length - t.2).toNat) _
    ⟨Int.le_refl _, by simp only []; omega, fun x => by simp; omega, List.Pairwise.nil⟩ (by simp only []; omega) fun t ⟨t1, t2, t3, t4⟩ => ?_
  unfold change_In.l1
  refine Has.ite (fun hi => ?_) fun hi => ?_
  · have hi : t.2 < r1.1.At.length := of_decide_eq_true hi
    have tl := inc_len t.1 t.2 t4 (fun x hx => by have := (t3 x).1 hx; omega) t1
    have dln := D.len
    rw [w6_in (n := 0 - cut) (by omega), w6_in (n := t.2 + 1) (by omega), Int.zero_sub]
    refine Has.bind (P := fun z : List Int => (∀ x, x ∈ z ↔ 0 ≤ x ∧ x < t.2 + 1 ∧ (gt r1.1.At x).Unknown = false ∧ -cut ≤ (gt r1.1.At x).Lo ∧ (gt r1.1.At x).Hi ≤ cut) ∧ z.Pairwise (· < ·)) (Has.chk ⟨t1, hi⟩ ?_) fun z ⟨z1, z2⟩ => Has.ret (.next ⟨by simp only []; omega, by simp only []; omega, z1, z2⟩ (by simp only []; omega))
    refine Has.bind (P := fun q : Bool => q = true ↔ (gt r1.1.At t.2).Unknown = false ∧ -cut ≤ (gt r1.1.At t.2).Lo ∧ (gt r1.1.At t.2).Hi ≤ cut) (Has.ite (fun hu => ?_) fun hu => Has.ret ⟨(fun e => nomatch e), fun e => absurd (by simpa using e.1) hu⟩) fun q hq => ?_
    · have hu : (gt r1.1.At t.2).Unknown = false := by simpa using hu
      rw [inside_ok (D.s t.2 t1 (by omega)) lv.ok hu rfl]
      exact Has.ret ⟨fun e => by simp only [Bool.and_eq_true, decide_eq_true_eq] at e; exact ⟨hu, e.1, e.2⟩, fun e => by simp only [Bool.and_eq_true, decide_eq_true_eq]; exact e.2⟩
    · refine Has.ite (fun hs => ?_) fun hs => Has.ret ⟨fun x => ?_, t4⟩
      · have hs := hq.1 hs
        refine Has.chk (roomyI (by simp; omega) (by simp; omega)) (Has.ret ⟨fun x => ?_, List.pairwise_append.2 ⟨t4, by simp, fun a ha b hb => by rw [List.mem_singleton.1 hb]; exact ((t3 a).1 ha).2.1⟩⟩)
        rw [List.mem_append, List.mem_singleton, t3]
        constructor
        · rintro (⟨a, b, e⟩ | rfl)
          · exact ⟨a, by omega, e⟩
          · exact ⟨t1, by omega, hs⟩
        · rintro ⟨a, b, e⟩
          by_cases h : x = t.2
          · exact .inr h
          · exact .inl ⟨a, by omega, e⟩
      · have hs : ¬ ((gt r1.1.At t.2).Unknown = false ∧ -cut ≤ (gt r1.1.At t.2).Lo ∧ (gt r1.1.At t.2).Hi ≤ cut) := fun e => hs (hq.2 e)
        rw [t3]
        constructor
        · rintro ⟨a, b, e⟩; exact ⟨a, by omega, e⟩
        · rintro ⟨a, b, e⟩
          have : x ≠ t.2 := fun h => hs (by rw [← h]; exact e)
          exact ⟨a, by omega, e⟩
  · have hi : ¬ t.2 < r1.1.At.length := fun q => hi (decide_eq_true q)
    exact Has.ret (.done ⟨fun x => by rw [t3]; constructor <;> (rintro ⟨a, b, e⟩; exact ⟨a, by omega, e⟩), t4⟩)
/-- Two increasing lists of the same numbers. -/
theorem inc_eq {a b : List Int} (ha : a.Pairwise (· < ·)) (hb : b.Pairwise (· < ·)) (h : ∀ x, x ∈ a ↔ x ∈ b) : a = b :=
  ((List.perm_ext_iff_of_nodup (ha.imp fun h => Int.ne_of_lt h) (hb.imp fun h => Int.ne_of_lt h)).2 h).eq_of_pairwise (le := fun x y => x < y) (fun a b _ _ h k => by omega) ha hb
/-- Where nothing is sure there is no source. -/
theorem found.none {d : Cells} {level : Bound} {s : List Source_} (h : found d level s) (hn : ∀ i : Int, 0 ≤ i → i < d.At.length → ¬ sureC d level i) : s = [] := by
  obtain ⟨l, ps, ws, L, rfl⟩ := h
  have : l = [] := by
    cases l with
    | nil => rfl
    | cons x t =>
      obtain ⟨x0, x1, q⟩ := (L.sure.mem x).1 (List.mem_cons_self ..)
      exact absurd q (hn x x0 x1)
  subst this
  have : ps = [] := List.sublist_nil.1 L.fd.sub
  subst this
  exact List.length_eq_zero_iff.1 (srcs_len _ _ _ _)
end Lf
/- A row of whole numbers is equal to itself. -/
namespace Lf
open Go Go.Abs
set_option linter.unusedVariables false
set_option linter.unusedSimpArgs false
theorem equalI_ok (l : List Int) (hl : l.length ≤ 1000000000) : slices_Equal_Int l l = some true := by
  apply Has.val
  unfold slices_Equal_Int
  refine Has.neg (by simp) (Has.seq (P := fun t : Step Unit Bool => t = .next ()) ?_ (fun _ _ => Has.ret rfl) (fun o ho => by cases ho))
  refine Has.loop (fun i : Int => 0 ≤ i ∧ i ≤ l.length) (fun i => (l.length - i).toNat) (fun t : Step Unit Bool => t = .next ()) ⟨Int.le_refl _, by omega⟩ (by omega) fun i ⟨i1, i2⟩ => ?_
  unfold slices_Equal_Int.l1
  refine Has.ite (fun hi => ?_) fun hi => Has.ret (.done rfl)
  have hi : i < l.length := of_decide_eq_true hi
  rw [w6_in (by omega)]
  exact Has.chk ⟨i1, hi⟩ (Has.chk ⟨i1, hi⟩ (Has.neg (by simp) (Has.ret (.next ⟨by omega, by omega⟩ (by omega)))))
end Lf
/- The fact of a change that is noticed. -/
namespace Lf
open Go Go.Abs
set_option linter.unusedVariables false
set_option linter.unusedSimpArgs false
theorem pair_ok (a b : Bound) (ha : a.ok ∧ -100 ≤ a.Lo ∧ a.Hi ≤ 100) (hb : b.ok ∧ -100 ≤ b.Lo ∧ b.Hi ≤ 100) : okF (Cells.mk 2 1 [a, b]) ∧ small (Cells.mk 2 1 [a, b]) 100 := by
  have key : ∀ x ∈ [a, b], x.ok ∧ -100 ≤ x.Lo ∧ x.Hi ≤ 100 := fun x hx => by
    simp only [List.mem_cons, List.not_mem_nil, or_false] at hx
    rcases hx with rfl | rfl
    · exact ha
    · exact hb
  exact ⟨⟨by simp, by simp, by simp, by simp, rfl, fun x hx => by have := key x hx; exact ⟨this.1, by omega, by omega⟩⟩, key⟩
theorem noticed_ok : spykeep4_noticed = some true := by
  unfold spykeep4_noticed spykeep4_noticed_1
  simp only [Option.bind_some]
  have k12 : Bound.ok ⟨1, 2, false⟩ ∧ -100 ≤ (1 : Int) ∧ (2 : Int) ≤ 100 := ⟨okKnown (by decide) (by decide) (by decide), by decide, by decide⟩
  have k1112 : Bound.ok ⟨11, 12, false⟩ ∧ -100 ≤ (11 : Int) ∧ (12 : Int) ≤ 100 := ⟨okKnown (by decide) (by decide) (by decide), by decide, by decide⟩
  obtain ⟨o1, o2⟩ := pair_ok ⟨1, 2, false⟩ ⟨1, 2, false⟩ k12 k12
  obtain ⟨n1, n2⟩ := pair_ok ⟨1, 2, false⟩ ⟨11, 12, false⟩ k12 k1112
  obtain ⟨⟨r, e⟩, hr, rfl, d, b, D, B, U, Dn, S⟩ := in_ok (cut := 3) o1 n1 rfl rfl o2 n2 (by decide) (by decide) (by decide) (by decide) (by decide) (by decide)
  rw [hr]
  simp only [] at U Dn S
  have d0 : gt d.At 0 = ⟨-1, 1, false⟩ := (D.v 0 (by decide) (by decide)).trans rfl
  have d1 : gt d.At 1 = ⟨9, 11, false⟩ := (D.v 1 (by decide) (by decide)).trans rfl
  have b0 : gt b.At 0 = ⟨-1, 1, false⟩ := (B.v 0 (by decide) (by decide)).trans rfl
  have b1 : gt b.At 1 = ⟨-11, -9, false⟩ := (B.v 1 (by decide) (by decide)).trans rfl
  have dl : (d.At.length : Int) = 2 := by rw [D.len]; rfl
  have bl : (b.At.length : Int) = 2 := by rw [B.len]; rfl
  have two : ∀ x : Int, 0 ≤ x → x < 2 → x = 0 ∨ x = 1 := fun x _ _ => by omega
  have down : r.Down = [] := Dn.none fun i i0 i1 h => by
    rcases two i i0 (by omega) with rfl | rfl
    · have := h.2; rw [b0] at this; exact absurd this (by decide)
    · have := h.2; rw [b1] at this; exact absurd this (by decide)
  have same : r.Same = [0] := inc_eq S.inc (by simp) fun x => by
    rw [S.mem, List.mem_singleton]
    constructor
    · rintro ⟨x0, x1, _, _, h⟩
      rcases two x x0 (by omega) with rfl | rfl
      · rfl
      · rw [d1] at h; exact absurd h (by decide)
    · rintro rfl
      rw [d0]
      exact ⟨by decide, by omega, rfl, by decide, by decide⟩
  obtain ⟨l, ps, ws, L, up⟩ := U
  have hl : l = [1] := List.perm_singleton.1 ((List.perm_ext_iff_of_nodup L.sure.nd (by simp)).2 fun x => by
    rw [L.sure.mem, List.mem_singleton]
    constructor
    · rintro ⟨x0, x1, h⟩
      rcases two x x0 (by omega) with rfl | rfl
      · have := h.2; rw [d0] at this; exact absurd this (by decide)
      · rfl
    · rintro rfl
      refine ⟨by decide, by omega, ?_⟩
      unfold sureC
      rw [d1]; exact ⟨rfl, by decide⟩)
  subst hl
  have hps : ps = [1] := by
    have hs := L.fd.sub
    obtain ⟨k, hk, _⟩ := L.fd.cov 1 (List.mem_singleton.2 rfl)
    rcases List.sublist_cons_iff.1 hs with h | ⟨t, rfl, h⟩
    · rw [List.sublist_nil.1 h] at hk; simp at hk
    · rw [List.sublist_nil.1 h]
  subst hps
  have ul : (r.Up.length : Int) = 1 := by rw [up, srcs_len]; rfl
  have u0 : (gt r.Up 0).Peak = 1 := by rw [up, srcs_at _ _ _ _ 0 (by decide) (by decide)]; rfl
  simp only [Option.bind_some, ul, u0, down, same, equalI_ok [0] (by decide)]
  rfl
end Lf
/- Fields of few numbers. -/
namespace Lf
open Go Go.Abs
set_option linter.unusedVariables false
set_option linter.unusedSimpArgs false
/-- A field of a light of few numbers is small. -/
theorem veilF.small {w h : Int} {light : List Int} {c : Cells} (F : veilF w h light c) (hl : ∀ x ∈ light, -1000 ≤ x ∧ x ≤ 1000000) (hn : (light.length : Int) = w * h) : small c 2000000 := by
  have hlen := F.len
  refine allI_mem (fun i i0 i1 => ?_)
  have hv := F.v i i0 (by omega)
  have hb := hl _ (gt_mem light i ⟨i0, by omega⟩)
  have := (F.ok.cell _ (gt_mem c.At i ⟨i0, i1⟩)).1
  refine ⟨this, ?_⟩
  rcases hv with q | ⟨_, q⟩
  · rw [q]; simp
  · omega
end Lf
/- slices.Contains of whole numbers. -/
namespace Lf
open Go Go.Abs
set_option linter.unusedVariables false
set_option linter.unusedSimpArgs false
theorem contains_iff (l : List Int) (x : Int) (hn : l.length ≤ 1000000) : Has (slices_Contains_Int l x) fun r => r = true ↔ x ∈ l := by
  unfold slices_Contains_Int slices_Index_Int
  refine Has.bind (P := fun r : Int => 0 ≤ r ↔ x ∈ l) (Has.seq (P := fun t : Step Unit Int => (t = .next () ∧ ¬ x ∈ l) ∨ ∃ r, t = .done r ∧ 0 ≤ r ∧ x ∈ l) ?_ (fun s hs => ?_) (fun o ho => ?_)) fun r hr => Has.ret ⟨fun e => hr.1 (of_decide_eq_true e), fun e => decide_eq_true (hr.2 e)⟩
  · refine Has.loop (fun i : Int => 0 ≤ i ∧ i ≤ l.length ∧ ∀ j : Int, 0 ≤ j → j < i → x ≠ gt l j) (fun i => (l.length - i).toNat) _ ⟨Int.le_refl _, by omega, fun j j0 j1 => by omega⟩ (by omega) fun i ⟨i0, i1, i2⟩ => ?_
    unfold slices_Index_Int.l1
    refine Has.ite (fun hi => ?_) fun hi => ?_
    · have hi : i < l.length := of_decide_eq_true hi
      rw [w6_in (n := i + 1) (by omega)]
      refine Has.chk ⟨i0, hi⟩ (Has.ite (fun he => Has.ret (.done (.inr ⟨i, rfl, i0, ?_⟩))) fun he => Has.ret (.next ⟨by omega, by omega, fun j j0 j1 => ?_⟩ (by omega)))
      · have he := eq_of_beq he
        rw [he]; exact gt_mem l i ⟨i0, hi⟩
      · by_cases e : j = i
        · rw [e]; simpa using he
        · exact i2 j j0 (by omega)
    · have hi : ¬ i < l.length := fun q => hi (decide_eq_true q)
      refine Has.ret (.done (.inl ⟨rfl, fun hx => ?_⟩))
      obtain ⟨n, hn', e⟩ := List.getElem_of_mem hx
      refine i2 n (by omega) (by omega) ?_
      rw [gt_def l n ⟨by omega, by omega⟩]
      exact e.symm
  · rcases hs with ⟨_, h⟩ | ⟨r, e, _⟩
    · exact Has.ret ⟨fun e => by omega, fun e => absurd e h⟩
    · cases e
  · rcases ho with ⟨e, _⟩ | ⟨r, e, h1, h2⟩
    · cases e
    · cases e; exact ⟨fun _ => h2, fun _ => h1⟩
end Lf
/- ChangeGrown: a cell that grew by more than the cut and both widths is reported as brighter, and as dimmer if the nights are exchanged; what is reported as the same differs by no more than the cut. -/
namespace Lf
open Go Go.Abs
set_option linter.unusedVariables false
set_option linter.unusedSimpArgs false
theorem parts_at {c : Cells} {level : Bound} {l ps : List Int} {ws : List (List Int)} (L : FindL c level l ps ws) (k : Int) (k0 : 0 ≤ k) (k1 : k < ps.length) : (gt (srcs c.W.toNat l ps ws) k).Parts = (l.mergeSort fun x y => decide (x ≤ y)).filter fun x => decide (bst c.W.toNat ps ws x = k.toNat) := by
  rw [srcs_at _ _ _ _ k k0 k1]
  simp only []
  rw [fd2_get _ _ _ _ _ _ (by simp; omega)]
  have : (ps.map fun _ => ([] : List Int)).getD k.toNat [] = [] := by
    rw [List.getD_eq_getElem?_getD, List.getElem?_map]
    cases ps[k.toNat]? <;> rfl
  rw [this, List.nil_append]
theorem found.has {d : Cells} {level : Bound} {s : List Source_} (h : found d level s) (hd : okF d) : s.length ≤ 1024 ∧ (∀ k : Int, 0 ≤ k → k < s.length → (gt s k).Parts.length ≤ 1024) ∧ ∀ i : Int, (0 ≤ i ∧ i < d.At.length ∧ sureC d level i) ↔ ∃ k : Int, 0 ≤ k ∧ k < s.length ∧ i ∈ (gt s k).Parts := by
  obtain ⟨l, ps, ws, L, rfl⟩ := h
  have n := hd.nat
  have ll : l.length ≤ 1024 := by
    have := nodup_lt (d.W.toNat * d.H.toNat) (l.map Int.toNat) (by
      rw [List.Nodup, List.pairwise_map]
      exact L.sure.nd.imp_of_mem fun {a b} ha hb h q => h (by have := L.sure.at hd a ha; have := L.sure.at hd b hb; omega)) fun y hy => by
        obtain ⟨x, hx, rfl⟩ := List.mem_map.1 hy
        have := L.sure.at hd x hx; omega
    rw [List.length_map] at this; omega
  have pl := L.fd.sub.length_le
  have sl : (srcs d.W.toNat l ps ws).length = ps.length := srcs_len _ _ _ _
  refine ⟨by omega, fun k k0 k1 => ?_, fun i => ⟨fun hi => ?_, fun ⟨k, k0, k1, hk⟩ => ?_⟩⟩
  · rw [parts_at L k k0 (by omega)]
    have a := List.length_filter_le (fun x => decide (bst d.W.toNat ps ws x = k.toNat)) (l.mergeSort fun x y => decide (x ≤ y))
    rw [List.length_mergeSort] at a
    omega
  · have hm := (L.sure.mem i).2 hi
    obtain ⟨j, hj, _⟩ := L.fd.cov i hm
    have b : bst d.W.toNat ps ws i < ps.length := bestF_lt _ _ _ _ ps.length 0 0 ps.length (by omega) (by omega)
    refine ⟨(bst d.W.toNat ps ws i : Int), by omega, by omega, ?_⟩
    rw [parts_at L _ (by omega) (by omega), List.mem_filter]
    exact ⟨List.mem_mergeSort.2 hm, decide_eq_true (by simp)⟩
  · rw [parts_at L k k0 (by omega), List.mem_filter] at hk
    exact (L.sure.mem i).1 (List.mem_mergeSort.1 hk.1)
theorem contF_iff (s : List Source_) (x : Int) (h1 : s.length ≤ 1024) (h2 : ∀ k : Int, 0 ≤ k → k < s.length → (gt s k).Parts.length ≤ 1024) : Has (slices_ContainsFunc_Source__spykeep4_ChangeGrown_1 s x) fun r => r = true ↔ ∃ k : Int, 0 ≤ k ∧ k < s.length ∧ x ∈ (gt s k).Parts := by
  unfold slices_ContainsFunc_Source__spykeep4_ChangeGrown_1 slices_IndexFunc_Source__spykeep4_ChangeGrown_1
  refine Has.bind (P := fun r : Int => 0 ≤ r ↔ ∃ k : Int, 0 ≤ k ∧ k < s.length ∧ x ∈ (gt s k).Parts) (Has.seq (P := fun t : Step Unit Int => (t = .next () ∧ ¬ ∃ k : Int, 0 ≤ k ∧ k < s.length ∧ x ∈ (gt s k).Parts) ∨ ∃ r, t = .done r ∧ 0 ≤ r ∧ ∃ k : Int, 0 ≤ k ∧ k < s.length ∧ x ∈ (gt s k).Parts) ?_ (fun u hs => ?_) (fun o ho => ?_)) fun r hr => Has.ret ⟨fun e => hr.1 (of_decide_eq_true e), fun e => decide_eq_true (hr.2 e)⟩
  · refine Has.loop (fun i : Int => 0 ≤ i ∧ i ≤ s.length ∧ ∀ j : Int, 0 ≤ j → j < i → ¬ x ∈ (gt s j).Parts) (fun i => (s.length - i).toNat) _ ⟨Int.le_refl _, by omega, fun j j0 j1 => by omega⟩ (by omega) fun i ⟨i0, i1, i2⟩ => ?_
    unfold slices_IndexFunc_Source__spykeep4_ChangeGrown_1.l1 spykeep4_ChangeGrown_1
    refine Has.ite (fun hi => ?_) fun hi => ?_
    · have hi : i < s.length := of_decide_eq_true hi
      rw [w6_in (n := i + 1) (by omega)]
      have pl := h2 i i0 hi
      refine Has.chk ⟨i0, hi⟩ (Has.bind (P := fun r : Bool => r = true ↔ x ∈ (gt s i).Parts) ((contains_iff _ _ (by omega)).bind fun r hr => Has.ret hr) fun r hr => Has.ite (fun he => Has.ret (.done (.inr ⟨i, rfl, i0, i, i0, hi, hr.1 he⟩))) fun he => Has.ret (.next ⟨by omega, by omega, fun j j0 j1 => ?_⟩ (by omega)))
      by_cases e : j = i
      · rw [e]; exact fun q => he (hr.2 q)
      · exact i2 j j0 (by omega)
    · have hi : ¬ i < s.length := fun q => hi (decide_eq_true q)
      refine Has.ret (.done (.inl ⟨rfl, fun ⟨k, k0, k1, hk⟩ => i2 k k0 (by omega) hk⟩))
  · rcases hs with ⟨_, h⟩ | ⟨r, e, _⟩
    · exact Has.ret ⟨fun e => by omega, fun e => absurd e h⟩
    · cases e
  · rcases ho with ⟨e, _⟩ | ⟨r, e, h1, h2⟩
    · cases e
    · cases e; exact ⟨fun _ => h2, fun _ => h1⟩
theorem ChangeGrown_true (l : List Int) (cell cut more : Int) (hl : okL l) (hce : -9223372036854775808 ≤ cell ∧ cell ≤ 9223372036854775807) (hcu : -9223372036854775808 ≤ cut ∧ cut ≤ 9223372036854775807) (hmo : -9223372036854775808 ≤ more ∧ more ≤ 9223372036854775807) : spykeep4_ChangeGrown l cell cut more = some true := by
  apply Has.val
  have h0 := okS.start hl
  unfold spykeep4_ChangeGrown
  refine (range_ok _ 1 8 h0 (by simp only []; omega) (by omega) (by omega) (by omega)).bind fun r1 ⟨w0, w1, s1⟩ => ?_
  have o1 := s1.ok h0 (by simp only []; omega); have b1 := s1.hi
  refine (range_ok _ 1 8 o1 (by simp only [] at b1; omega) (by omega) (by omega) (by omega)).bind fun r2 ⟨g0, g1, s2⟩ => ?_
  have o2 := s2.ok o1 (by simp only [] at b1; omega); have b2 := s2.hi
  refine (range_ok _ 0 4 o2 (by simp only [] at b1 b2; omega) (by omega) (by omega) (by omega)).bind fun r3 ⟨p0, p1, s3⟩ => ?_
  have o3 := s3.ok o2 (by simp only [] at b1 b2; omega); have b3 := s3.hi
  have hA : r1.1 * r2.1 ≤ 64 := by
    have a := Int.mul_le_mul_of_nonneg_right w1 (show 0 ≤ r2.1 by omega)
    omega
  have hA0 := area w0 (by omega) g0 (by omega)
  refine (lights_ok r3.2 r1.1 r2.1 r3.1 o3 (by simp only [] at b1 b2 b3; omega) w0 (by omega) g0 (by omega) (by omega) (by omega)).bind fun r4 ⟨l1, l2, l3, s4⟩ => ?_
  have o4 := s4.ok o3 (by simp only [] at b1 b2 b3; omega); have b4 := s4.hi
  have l4 := l1.len
  have lv : ∀ x ∈ r4.1, 0 ≤ x ∧ x ≤ 20035 := fun x hx => by have := l1.v x hx; omega
  have lv' : ∀ x ∈ r4.1, -1000000000000 ≤ x ∧ x ≤ 1000000000000 := fun x hx => by have := lv x hx; omega
  have cl : slices_Clone_Int r4.1 = some r4.1 := by
    unfold slices_Clone_Int
    cases hr : r4.1 with
    | nil => rw [hr] at l4; simp at l4; omega
    | cons x t =>
      have : roomy (([] : List Int).length + (x :: t).length) 8 = true := roomyI (by rw [← hr]; simp; omega) (by rw [← hr]; simp; omega)
      simp only [nilF, Option.bind_some, Bool.false_eq_true, if_false]
      rw [if_pos this]; simp
  rw [cl]
  simp only [Option.bind_some]
  refine (veilF_ok r4.2.2 r1.1 r2.1 r4.1 false o4 (by simp only [] at b1 b2 b3 b4; omega) w0 (by omega) g0 (by omega) l4 lv').bind fun r6 ⟨F, Fk, s6⟩ => ?_
  have o6 := s6.ok o4 (by simp only [] at b1 b2 b3 b4; omega); have b6 := s6.hi
  rw [w6_in (n := r1.1 * r2.1) (by omega)]
  refine (below_ok cell (r1.1 * r2.1) hce (by omega)).bind fun i ⟨i0, i1⟩ => ?_
  refine (below_ok cut 100 hcu (by omega)).bind fun most ⟨m0, m1⟩ => ?_
  refine Has.chk ⟨i0, by omega⟩ ((below_ok more 1000 hmo (by omega)).bind fun mo ⟨q0, q1⟩ => ?_)
  have vi := lv _ (gt_mem r4.1 i ⟨i0, by omega⟩)
  rw [w6_in (n := most + 401) (by omega), w6_in (n := most + 401 + mo) (by omega), w6_in (n := gt r4.1 i + (most + 401 + mo)) (by omega)]
  refine Has.letF ?_
  refine Has.bind (P := fun z : spymake_Stream × List Int => after r6.2 z.1 (2 * r4.1.length) ∧ (z.2.length : Int) = r1.1 * r2.1 ∧ ∀ x ∈ z.2, -50 ≤ x ∧ x ≤ 30000) ?_ fun z ⟨z1, z2, z3⟩ => ?_
  · refine Has.loop (fun t : spymake_Stream × List Int × Int => after r6.2 t.1 (2 * t.2.2) ∧ 0 ≤ t.2.2 ∧ t.2.2 ≤ r4.1.length ∧ (t.2.1.length : Int) = r1.1 * r2.1 ∧ allI t.2.1 fun j x => -50 ≤ x ∧ x ≤ 30000 ∧ (t.2.2 ≤ j → 0 ≤ x ∧ x ≤ 25000)) (fun t => (r4.1.length - t.2.2).toNat) _
      ⟨after.refl _, Int.le_refl _, by simp only []; omega, by simp only [List.length_set]; exact l4, ?_⟩ (by simp only []; omega) fun t ⟨t1, t2, t3, t4, t5⟩ => ?_
    · refine allI_upd (P := fun _ x => 0 ≤ x ∧ x ≤ 20035) (allI_of lv) i0 (fun j x _ _ _ h => ⟨by omega, by omega, fun _ => ⟨h.1, by omega⟩⟩) ⟨by omega, by omega, fun _ => ⟨by omega, by omega⟩⟩
    · unfold spykeep4_ChangeGrown.l1
      refine Has.ite (fun hi => ?_) fun hi => ?_
      · have hi : t.2.2 < r4.1.length := of_decide_eq_true hi
        have ht := t1.ok o6 (by simp only [] at b1 b2 b3 b4 b6; omega); have hht := t1.hi
        rw [w6_in (n := t.2.2 + 1) (by omega)]
        refine Has.bind (P := fun y : spymake_Stream × List Int => after t.1 y.1 2 ∧ (y.2.length : Int) = r1.1 * r2.1 ∧ allI y.2 fun j x => -50 ≤ x ∧ x ≤ 30000 ∧ (t.2.2 + 1 ≤ j → 0 ≤ x ∧ x ≤ 25000)) ?_ fun y ⟨y1, y2, y3⟩ => Has.ret (.next ⟨(t1.trans y1).more (by simp only []; omega), by simp only []; omega, by simp only []; omega, y2, y3⟩ (by simp only []; omega))
        refine (next_ok t.1 3 ht (by simp only [] at b1 b2 b3 b4 b6 hht; omega) (by omega)).bind fun n ⟨n1, n2, n3⟩ => ?_
        have hn := n3.ok ht (by simp only [] at b1 b2 b3 b4 b6 hht; omega); have hhn := n3.hi
        refine Has.ite (fun hz => ?_) fun hz => Has.ret ⟨n3.more (by omega), t4, allI_mono t5 fun j x _ _ h => ⟨h.1, h.2.1, fun q => h.2.2 (by omega)⟩⟩
        refine Has.chk ⟨t2, by omega⟩ ((range_ok n.2 (-50) 200 hn (by simp only [] at b1 b2 b3 b4 b6 hht hhn; omega) (by omega) (by omega) (by omega)).bind fun p ⟨p0, p1, p2⟩ => Has.letF (Has.ret ⟨(n3.trans p2).more (by omega), by simp only [List.length_set]; exact t4, ?_⟩))
        obtain ⟨x0, x1, x2⟩ := t5 t.2.2 t2 (by omega)
        have x2 := x2 (Int.le_refl _)
        rw [w6_in (by omega)]
        exact allI_upd t5 t2 (fun j x _ _ _ h => ⟨h.1, h.2.1, fun q => h.2.2 (by omega)⟩) ⟨by omega, by omega, fun q => by omega⟩
      · have hi : ¬ t.2.2 < r4.1.length := fun q => hi (decide_eq_true q)
        have e : t.2.2 = r4.1.length := by omega
        rw [e] at t1
        exact Has.ret (.done ⟨t1, t4, allI_mem (allI_mono t5 fun j x _ _ h => ⟨h.1, h.2.1⟩)⟩)
  have oz := z1.ok o6 (by simp only [] at b1 b2 b3 b4 b6; omega); have bz := z1.hi
  refine Has.chk ⟨i0, by omega⟩ (Has.chk ⟨i0, by omega⟩ ?_)
  have zi := z3 _ (gt_mem z.2 i ⟨i0, by omega⟩)
  rw [w6_in (n := gt r4.1 i + most) (by omega), w6_in (n := gt r4.1 i + most + 801) (by omega)]
  have md := mx2_def (gt z.2 i) (gt r4.1 i + most + 801)
  refine Has.letF ?_
  have uv : ∀ x ∈ z.2.set i.toNat (mx2 (gt z.2 i) (gt r4.1 i + most + 801)), -50 ≤ x ∧ x ≤ 30000 := fun x hx => by
    rcases List.mem_or_eq_of_mem_set hx with h | h
    · exact z3 x h
    · rw [h]; omega
  have ul : ((z.2.set i.toNat (mx2 (gt z.2 i) (gt r4.1 i + most + 801))).length : Int) = r1.1 * r2.1 := by rw [List.length_set]; exact z2
  have ui : gt (z.2.set i.toNat (mx2 (gt z.2 i) (gt r4.1 i + most + 801))) i ≥ gt r4.1 i + most + 801 := by rw [gt_set_eq i0 (by omega)]; omega
  generalize z.2.set i.toNat (mx2 (gt z.2 i) (gt r4.1 i + most + 801)) = u at *
  refine (veilF_ok z.1 r1.1 r2.1 u false oz (by simp only [] at b1 b2 b3 b4 b6 bz; omega) w0 (by omega) g0 (by omega) ul (fun x hx => by have := uv x hx; omega)).bind fun r24 ⟨G, Gk, s24⟩ => ?_
  have eW := F.W; have eH := F.H; have eW' := G.W; have eH' := G.H
  have fl := F.len; have gl := G.len
  have sF := F.small (fun x hx => by have := lv x hx; omega) l4
  have sG := G.small (fun x hx => by have := uv x hx; omega) ul
  obtain ⟨⟨ra, ea⟩, hra, rfl, d, b, D, B, U, Dn, S⟩ := in_ok (old := r6.1) (now := r24.1) (cut := most) F.ok G.ok (by omega) (by omega) sF sG (by decide) (by decide) m0 (by omega) (by omega) (by omega)
  obtain ⟨⟨rb, eb⟩, hrb, rfl, d', b', D', B', U', Dn', S'⟩ := in_ok (old := r24.1) (now := r6.1) (cut := most) G.ok F.ok (by omega) (by omega) sG sF (by decide) (by decide) m0 (by omega) (by omega) (by omega)
  rw [hra, hrb, noticed_ok]
  simp only [] at U Dn S U' Dn' S'
  have dl := D.len; have bl := B.len; have dl' := D'.len; have bl' := B'.len
  -- the cells of the differences
  have vs : ∀ k : Int, 0 ≤ k → k < r1.1 * r2.1 → (gt r6.1.At k).Unknown = false ∧ (gt r24.1.At k).Unknown = false ∧ (gt r4.1 k - 200 ≤ (gt r6.1.At k).Lo ∧ (gt r6.1.At k).Lo ≤ gt r4.1 k ∧ gt r4.1 k ≤ (gt r6.1.At k).Hi ∧ (gt r6.1.At k).Hi ≤ gt r4.1 k + 200) ∧ (gt u k - 200 ≤ (gt r24.1.At k).Lo ∧ (gt r24.1.At k).Lo ≤ gt u k ∧ gt u k ≤ (gt r24.1.At k).Hi ∧ (gt r24.1.At k).Hi ≤ gt u k + 200) := fun k k0 k1 => by
    have f := Fk rfl k k0 k1; have g := Gk rfl k k0 k1
    refine ⟨f, g, ?_, ?_⟩
    · rcases F.v k k0 k1 with q | ⟨_, q⟩
      · rw [q] at f; cases f
      · exact q
    · rcases G.v k k0 k1 with q | ⟨_, q⟩
      · rw [q] at g; cases g
      · exact q
  have sb : ∀ x y : Bound, x.Unknown = false → y.Unknown = false → subB x y = ⟨x.Lo - y.Hi, x.Hi - y.Lo, false⟩ := fun x y hx hy => by unfold subB; rw [hx, hy]; rfl
  have cD : ∀ k : Int, 0 ≤ k → k < r1.1 * r2.1 → gt d.At k = ⟨(gt r24.1.At k).Lo - (gt r6.1.At k).Hi, (gt r24.1.At k).Hi - (gt r6.1.At k).Lo, false⟩ := fun k k0 k1 => by
    obtain ⟨f, g, _⟩ := vs k k0 k1; rw [D.v k k0 (by omega), sb _ _ g f]
  have cB : ∀ k : Int, 0 ≤ k → k < r1.1 * r2.1 → gt b.At k = ⟨(gt r6.1.At k).Lo - (gt r24.1.At k).Hi, (gt r6.1.At k).Hi - (gt r24.1.At k).Lo, false⟩ := fun k k0 k1 => by
    obtain ⟨f, g, _⟩ := vs k k0 k1; rw [B.v k k0 (by omega), sb _ _ f g]
  have cD' : ∀ k : Int, 0 ≤ k → k < r1.1 * r2.1 → gt d'.At k = ⟨(gt r6.1.At k).Lo - (gt r24.1.At k).Hi, (gt r6.1.At k).Hi - (gt r24.1.At k).Lo, false⟩ := fun k k0 k1 => by
    obtain ⟨f, g, _⟩ := vs k k0 k1; rw [D'.v k k0 (by omega), sb _ _ f g]
  have cB' : ∀ k : Int, 0 ≤ k → k < r1.1 * r2.1 → gt b'.At k = ⟨(gt r24.1.At k).Lo - (gt r6.1.At k).Hi, (gt r24.1.At k).Hi - (gt r6.1.At k).Lo, false⟩ := fun k k0 k1 => by
    obtain ⟨f, g, _⟩ := vs k k0 k1; rw [B'.v k k0 (by omega), sb _ _ g f]
  have same : rb.Same = ra.Same := inc_eq S'.inc S.inc fun x => by
    rw [S'.mem, S.mem]
    constructor
    · rintro ⟨x0, x1, _, y1, y2⟩
      rw [cD' x x0 (by omega)] at y1 y2
      rw [cD x x0 (by omega)]
      exact ⟨x0, by omega, rfl, by simp only [] at y2 ⊢; omega, by simp only [] at y1 ⊢; omega⟩
    · rintro ⟨x0, x1, _, y1, y2⟩
      rw [cD x x0 (by omega)] at y1 y2
      rw [cD' x x0 (by omega)]
      exact ⟨x0, by omega, rfl, by simp only [] at y2 ⊢; omega, by simp only [] at y1 ⊢; omega⟩
  obtain ⟨ua, uc, uh⟩ := U.has D.ok
  obtain ⟨da, dc, dh⟩ := Dn.has B.ok
  obtain ⟨da', dc', dh'⟩ := Dn'.has B'.ok
  have smem := S.mem
  have slen := inc_len ra.Same d.At.length S.inc (fun x hx => by have := (smem x).1 hx; omega) (by omega)
  obtain ⟨_, _, ia, ib⟩ := vs i i0 i1
  refine Has.bind (P := fun q : Bool => q = false) ?_ fun q hq => Has.neg (by rw [hq]; simp) ?_
  · simp only [Option.bind_some, same, equalI_ok ra.Same (by omega)]
    exact Has.neg (by simp) (Has.neg (by simp) (Has.neg (by simp) (Has.ret rfl)))
  refine Has.seq (P := fun t : Step Unit Bool => t = .next ()) ?_ (fun _ _ => ?_) (fun o ho => by cases ho)
  · refine Has.loop (fun j : Int => 0 ≤ j ∧ j ≤ ra.Same.length) (fun j => (ra.Same.length - j).toNat) _ ⟨Int.le_refl _, by omega⟩ (by omega) fun j ⟨j0, j1⟩ => ?_
    unfold spykeep4_ChangeGrown.l2
    simp only []
    refine Has.ite (fun hj => ?_) fun hj => Has.ret (.done rfl)
    have hj : j < ra.Same.length := of_decide_eq_true hj
    obtain ⟨k0, k1, _, k3, k4⟩ := (smem _).1 (gt_mem ra.Same j ⟨j0, hj⟩)
    generalize gt ra.Same j = k at *
    rw [cD k k0 (by omega)] at k3 k4
    obtain ⟨_, _, ka, kb⟩ := vs k k0 (by omega)
    have uk := uv _ (gt_mem u k ⟨k0, by omega⟩)
    have vk := lv _ (gt_mem r4.1 k ⟨k0, by omega⟩)
    rw [w6_in (n := r1.1 * r2.1) (by omega), w6_in (n := gt u k - gt r4.1 k) (by omega), w6_in (n := gt r4.1 k - gt u k) (by omega), w6_in (n := j + 1) (by omega)]
    have e1 : decide (k < 0) = false := decide_eq_false (by omega)
    have e2 : decide (k ≥ r1.1 * r2.1) = false := decide_eq_false (by omega)
    have mk := mx2_def (gt u k - gt r4.1 k) (gt r4.1 k - gt u k)
    simp only [] at k3 k4
    refine Has.chk ⟨j0, hj⟩ (Has.bind (P := fun q : Bool => q = false) (Has.neg (by rw [e1]; simp) (Has.neg (by rw [e2]; simp) (Has.chk ⟨k0, by omega⟩ (Has.chk ⟨k0, by omega⟩ (Has.letF (Has.letF (Has.ret (decide_eq_false (by omega))))))))) fun q hq => Has.neg (by rw [hq]; simp) (Has.ret (.next ⟨by omega, by omega⟩ (by omega))))
  · refine Has.bind (P := fun q : Bool => q = true) ((contF_iff ra.Up i ua uc).bind fun x hx => ?_) fun q hq => Has.ret hq
    have hx : x = true := hx.2 ((uh i).1 ⟨i0, by omega, by
      unfold sureC
      rw [cD i i0 i1]
      exact ⟨rfl, by simp only []; omega⟩⟩)
    refine Has.pos hx ((contF_iff rb.Down i da' dc').bind fun y hy => ?_)
    have hy : y = true := hy.2 ((dh' i).1 ⟨i0, by omega, by
      unfold sureC
      rw [cB' i i0 i1]
      exact ⟨rfl, by simp only []; omega⟩⟩)
    refine Has.pos hy ((contF_iff ra.Down i da dc).bind fun z hz => Has.ret ?_)
    cases z with
    | false => rfl
    | true =>
      have := (dh i).2 (hz.1 rfl)
      have h2 := this.2.2.2
      rw [cB i i0 i1] at h2
      simp only [] at h2
      omega
end Lf
