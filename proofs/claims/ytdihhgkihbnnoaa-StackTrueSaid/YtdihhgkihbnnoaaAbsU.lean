/- Laws about heaps and calls that the walks use. Conditions: as each theorem states them. -/
import Derived.Test.YtdihhgkihbnnoaaAbsT
namespace Go.Abs
set_option linter.unusedVariables false
set_option linter.unusedSimpArgs false

/-! ### calls that change blocks, by rewriting -/
mutual
def V.refs : V → List Nat
  | .sc _ => []
  | .agg cs => V.refss cs
  | .tup cs => V.refss cs
  | .lst _ _ _ cs => V.refss cs
  | .rp cs => V.refss cs
  | .sl b .. => [b]
  | .ptr b .. => [b]
  | .fn _ cs => V.refss cs
  | .any => []
def V.refss : List V → List Nat
  | [] => []
  | x :: xs => V.refs x ++ V.refss xs
end
def nubA (acc : List Nat) : List Nat → List Nat
  | [] => acc
  | x :: xs => if acc.contains x then nubA acc xs else nubA (acc ++ [x]) xs
def blkRefs (mem : Nat → Option Blk) : List Nat → List Nat
  | [] => []
  | b :: bs => (match mem b with | some k => V.refss k.cells | none => []) ++ blkRefs mem bs
def passesOf (mem : Nat → Option Blk) (vs : List V) : List Nat :=
  let a := nubA [] (V.refss vs)
  let b := nubA a (blkRefs mem a)
  nubA b (blkRefs mem b)
def idxN (b : Nat) : List Nat → Nat → Nat
  | [], j => j
  | x :: xs, j => if x = b then j else idxN b xs (j + 1)
mutual
def V.passed (bs : List Nat) : V → V
  | .sc v => .sc v
  | .agg cs => .agg (V.passeds bs cs)
  | .tup cs => .tup (V.passeds bs cs)
  | .lst _ e n cs => .lst false e n (V.passeds bs cs)
  | .rp cs => .rp (V.passeds bs cs)
  | .sl b v e o l => .sl (idxN b bs 0) v e o l
  | .ptr b v o => .ptr (idxN b bs 0) v o
  | .fn f cs => .fn f (V.passeds bs cs)
  | .any => .any
def V.passeds (bs : List Nat) : List V → List V
  | [] => []
  | x :: xs => V.passed bs x :: V.passeds bs xs
end
mutual
def V.passOK (bs : List Nat) : V → Bool
  | .sc _ => true
  | .agg cs => cs.all V.leaf && V.passOKs bs cs
  | .tup cs => V.passOKs bs cs
  | .lst _ _ _ cs => cs.all V.leaf && V.passOKs bs cs
  | .rp cs => cs.all V.leaf && V.passOKs bs cs
  | .sl b .. => bs.contains b
  | .ptr b .. => bs.contains b
  | .fn _ cs => V.passOKs bs cs
  | .any => true
def V.passOKs (bs : List Nat) : List V → Bool
  | [] => true
  | x :: xs => V.passOK bs x && V.passOKs bs xs
end
theorem V.passed_leaf (bs : List Nat) (v : V) : (v.passed bs).leaf = v.leaf := by cases v <;> simp [V.passed, V.leaf]
theorem V.passeds_leaf (bs : List Nat) : ∀ (vs : List V), (V.passeds bs vs).all V.leaf = vs.all V.leaf
  | [] => by simp [V.passeds]
  | v :: vs => by simp [V.passeds, V.passed_leaf, V.passeds_leaf bs vs]
theorem idxN_spec (b : Nat) : ∀ (bs : List Nat) (j : Nat), b ∈ bs → idxN b bs j - j < bs.length ∧ j ≤ idxN b bs j ∧ bs.getD (idxN b bs j - j) 0 = b
  | [], j, h => by cases h
  | x :: xs, j, h => by
    unfold idxN
    by_cases hx : x = b
    · rw [if_pos hx]; simp [hx]
    · rw [if_neg hx]
      obtain ⟨h1, h2, h3⟩ := idxN_spec b xs (j + 1) (by simpa [Ne.symm hx] using h)
      refine ⟨by simp; omega, by omega, ?_⟩
      rw [show idxN b xs (j + 1) - j = (idxN b xs (j + 1) - (j + 1)) + 1 by omega]
      simpa using h3
mutual
theorem Lend.passI {mem : Nat → Option Blk} {bs : List Nat} : ∀ (v : V), V.passOK bs v = true → Lend (passHow mem bs) v (v.passed bs)
  | .sc v, h => by simp only [V.passed]; exact .sc v
  | .agg cs, h => by
    simp only [V.passed]; simp only [V.passOK, Bool.and_eq_true] at h
    exact .agg (Lends.passI cs h.2) (by rw [V.passeds_leaf]; exact h.1)
  | .tup cs, h => by simp only [V.passed]; simp only [V.passOK] at h; exact .tup (Lends.passI cs h)
  | .lst new e n cs, h => by
    simp only [V.passed]; simp only [V.passOK, Bool.and_eq_true] at h
    exact .lst (H := passHow mem bs) (Lends.passI cs h.2) (by rw [V.passeds_leaf]; exact h.1)
  | .rp cs, h => by
    simp only [V.passed]; simp only [V.passOK, Bool.and_eq_true] at h
    exact .rp (Lends.passI cs h.2) (by rw [V.passeds_leaf]; exact h.1)
  | .sl b ver e o l, h => by
    simp only [V.passed]; simp only [V.passOK, List.contains_iff_mem] at h
    obtain ⟨h1, h2, h3⟩ := idxN_spec b bs 0 h
    exact .slPass (H := passHow mem bs) h1 h3
  | .ptr b ver o, h => by
    simp only [V.passed]; simp only [V.passOK, List.contains_iff_mem] at h
    obtain ⟨h1, h2, h3⟩ := idxN_spec b bs 0 h
    exact .ptrPass (H := passHow mem bs) h1 h3
  | .fn f cs, h => by simp only [V.passed]; simp only [V.passOK] at h; exact .fn (Lends.passI cs h)
  | .any, _ => .any _
theorem Lends.passI {mem : Nat → Option Blk} {bs : List Nat} : ∀ (vs : List V), V.passOKs bs vs = true → Lends (passHow mem bs) vs (V.passeds bs vs)
  | [], _ => by simp only [V.passeds]; exact .nil
  | x :: xs, h => by
    simp only [V.passeds]
    simp only [V.passOKs, Bool.and_eq_true] at h
    exact .cons (Lend.passI x h.1) (Lends.passI xs h.2)
end
def Blk.passed (bs : List Nat) : Blk → Blk
  | .box cs => .box (V.passeds bs cs)
  | .arr te e v cs => .arr te e v (V.passeds bs cs)
  | .dead => .dead
/-- The blocks as the callee sees them. -/
def passBlks (mem : Nat → Option Blk) (bs : List Nat) : List Nat → (List Blk → Prop) → Prop
  | [], k => k []
  | b :: l, k => match mem b with
    | some (.box cs) => V.passOKs bs cs = true ∧ cs.all V.leaf = true ∧ passBlks mem bs l fun r => k (.box (V.passeds bs cs) :: r)
    | some (.arr te e v cs) => V.passOKs bs cs = true ∧ cs.all V.leaf = true ∧ passBlks mem bs l fun r => k (.arr te e v (V.passeds bs cs) :: r)
    | _ => False
theorem passBlks_ok {mem : Nat → Option Blk} {bs : List Nat} : ∀ (l : List Nat) (k : List Blk → Prop), passBlks mem bs l k → ∃ m, k m ∧ m.length = l.length ∧ (∀ b ∈ l, (mem b).isSome = true) ∧ ∀ j k', m[j]? = some k' → ∃ k, mem (l.getD j 0) = some k ∧ BLend (passHow mem bs) k k'
  | [], k, h => ⟨[], h, rfl, fun b hb => (by cases hb), fun j k' hk => by simp at hk⟩
  | b :: l, k, h => by
    unfold passBlks at h
    have key : ∀ (k0 k0' : Blk), mem b = some k0 → BLend (passHow mem bs) k0 k0' → (∃ m, k (k0' :: m) ∧ m.length = l.length ∧ (∀ b ∈ l, (mem b).isSome = true) ∧ ∀ j k', m[j]? = some k' → ∃ k, mem (l.getD j 0) = some k ∧ BLend (passHow mem bs) k k') →
        ∃ m, k m ∧ m.length = (b :: l).length ∧ (∀ b' ∈ b :: l, (mem b').isSome = true) ∧ ∀ j k', m[j]? = some k' → ∃ k, mem ((b :: l).getD j 0) = some k ∧ BLend (passHow mem bs) k k' := by
      rintro k0 k0' h0 h1 ⟨m, m1, m2, m3, m4⟩
      refine ⟨k0' :: m, m1, by simp [m2], fun b' hb' => ?_, fun j k' hk' => ?_⟩
      · rcases List.mem_cons.1 hb' with rfl | hb'
        · rw [h0]; rfl
        · exact m3 b' hb'
      · cases j with
        | zero => simp at hk'; subst hk'; exact ⟨k0, by simpa using h0, h1⟩
        | succ j => simp at hk'; simpa using m4 j k' hk'
    split at h
    · rename_i cs hm
      obtain ⟨h1, h2, h3⟩ := h
      exact key _ _ hm (.box (Lends.passI cs h1) (by rw [V.passeds_leaf]; exact h2)) (passBlks_ok l _ h3)
    · rename_i te e v cs hm
      obtain ⟨h1, h2, h3⟩ := h
      exact key _ _ hm (.arr (Lends.passI cs h1) (by rw [V.passeds_leaf]; exact h2)) (passBlks_ok l _ h3)
    · exact h.elim
def nodupB : List Nat → Bool
  | [] => true
  | x :: xs => !xs.contains x && nodupB xs
theorem nodupB_ok : ∀ (l : List Nat), nodupB l = true → l.Nodup
  | [], _ => List.nodup_nil
  | x :: xs, h => by
    simp only [nodupB, Bool.and_eq_true, Bool.not_eq_true', List.contains_eq_mem, decide_eq_false_iff_not] at h
    exact List.nodup_cons.2 ⟨h.1, nodupB_ok xs h.2⟩
def sideB (p : Nat) (bs : List Nat) : Bool := bs.all (fun b => decide (p ≤ b)) || bs.all fun b => decide (b < p)

section
variable {P : Program} {N p : Nat} {ops : Array Oper} {base : Nat} {masks : Option (List Nat)} {kl : Kl} {i : Nat} {l : List Oper} {s : LS} {Q : LS → Prop} {o : Oper}
theorem RunK.passK {f : Operand} {args : Array Operand} {ts : Array TypeId} {fid : FuncId} (hop : o.op = .call { callee := .value f, args, argTypes := ts }) (hcb : callable P fid = true)
    (h : dstOK N o.dst = true ∧ wantedL ops s o = some true ∧ (masks.isNone || kl.contains i) = true ∧ (lget s.mem (base + 4 * i)).isNone = true ∧ onFn (s.ev f) fid fun caps =>
      nodupB (passesOf (lget s.mem) (args.toList.map s.ev ++ caps)) = true ∧ sideB p (passesOf (lget s.mem) (args.toList.map s.ev ++ caps)) = true ∧ lchk base masks kl i (passesOf (lget s.mem) (args.toList.map s.ev ++ caps)) = true ∧
      V.passOKs (passesOf (lget s.mem) (args.toList.map s.ev ++ caps)) (args.toList.map s.ev ++ caps) = true ∧
      passBlks (lget s.mem) (passesOf (lget s.mem) (args.toList.map s.ev ++ caps)) (passesOf (lget s.mem) (args.toList.map s.ev ++ caps)) fun m =>
      ∃ res m', FnD P fid m (V.passeds (passesOf (lget s.mem) (args.toList.map s.ev ++ caps)) (args.toList.map s.ev ++ caps)) res m' ∧ (m.length ≤ m'.length ∧ m'.length ≤ m.length + 1) ∧
        RunK P N p ops base masks kl (i + 1) l (s.app o.dst (res.ren (passIds (passesOf (lget s.mem) (args.toList.map s.ev ++ caps)) (base + 4 * i))) (passUps (passIds (passesOf (lget s.mem) (args.toList.map s.ev ++ caps)) (base + 4 * i)) 0 m')) Q) : RunK P N p ops base masks kl i (o :: l) s Q := fun hls => by
  obtain ⟨hd, hw, hkl, hid, h4⟩ := h
  unfold onFn at h4
  split at h4
  · rename_i f' caps hf
    obtain ⟨rfl, h5, h6, h7, h8, h9⟩ := h4
    obtain ⟨m, ⟨res, m', g1, ⟨g2, g2'⟩, g3⟩, m1, m2, m3⟩ := passBlks_ok _ _ h9
    obtain ⟨q1, q2⟩ := RunK.head hls
    obtain ⟨s', r1, r2⟩ := g3 q2
    have hside : (∀ b ∈ passesOf (lget s.mem) (args.toList.map s.ev ++ caps), b < p) ∨ ∀ b ∈ passesOf (lget s.mem) (args.toList.map s.ev ++ caps), p ≤ b := by
      unfold sideB at h6
      simp only [Bool.or_eq_true, List.all_eq_true, decide_eq_true_eq] at h6
      exact h6.symm
    exact ⟨s', .pass q1 hd hw hop hf (Lends.passI _ h8) hcb g1 (nodupB_ok _ h5) m2 (Option.isNone_iff_eq_none.1 hid) hside m1 (by rw [← m1]; exact g2) (by rw [← m1]; exact g2') m3 hkl h7 r1, r2⟩
  · exact h4.elim
end

/-! ### functions that are handed blocks -/
mutual
/-- To the caller: what came in stays what it is, ex is handed on, all else is a value. -/
def outK (mem : Nat → Option Blk) (p : Nat) (ex : List Nat) : V → (V → Prop) → Prop
  | .sc v, k => k (.sc v)
  | .agg cs, k => outsK mem p ex cs fun cs' => cs'.all V.leaf = true ∧ k (.agg cs')
  | .tup cs, k => outsK mem p ex cs fun cs' => k (.tup cs')
  | .lst new e n cs, k => V.good cs = true ∧ k (.lst new e n cs)
  | .rp _, _ => False
  | .sl b ver e off len, k => if b < p then k (.sl b ver e off len) else if ex.contains b then k (.sl (p + idxN b ex 0) ver e off len) else (match mem b with
    | some (.arr _ e' v cs) => v = ver ∧ e' = e ∧ off * e + len * e ≤ cs.length ∧ V.good ((cs.drop (off * e)).take (len * e)) = true ∧ k (.lst true e len ((cs.drop (off * e)).take (len * e)))
    | _ => False)
  | .ptr b ver o, k => if b < p then k (.ptr b ver o) else if ex.contains b then k (.ptr (p + idxN b ex 0) ver o) else False
  | .fn f cs, k => outsK mem p ex cs fun cs' => k (.fn f cs')
  | .any, k => k .any
def outsK (mem : Nat → Option Blk) (p : Nat) (ex : List Nat) : List V → (List V → Prop) → Prop
  | [], k => k []
  | x :: xs, k => outK mem p ex x fun x' => outsK mem p ex xs fun xs' => k (x' :: xs')
end
def outIds (p : Nat) (ex : List Nat) (j : Nat) : Nat := if j < p then j else ex.getD (j - p) 0
def outL (mem : Nat → Option Blk) (p : Nat) (ex : List Nat) (b : Nat) : Bool := (mem b).isSome && decide (p ≤ b) && !ex.contains b
mutual
theorem outK_ok {mem : Nat → Option Blk} {p : Nat} {ex : List Nat} : ∀ (v : V) (k : V → Prop), outK mem p ex v k → ∃ v', Lend (retHow mem (outL mem p ex) (outIds p ex) (p + ex.length)) v v' ∧ k v'
  | .sc v, k, h => by simp only [outK] at h; exact ⟨_, .sc v, h⟩
  | .agg cs, k, h => by
    simp only [outK] at h
    obtain ⟨cs', h1, h2, h3⟩ := outsK_ok cs _ h
    exact ⟨_, .agg h1 h2, h3⟩
  | .tup cs, k, h => by
    simp only [outK] at h
    obtain ⟨cs', h1, h2⟩ := outsK_ok cs _ h
    exact ⟨_, .tup h1, h2⟩
  | .lst new e n cs, k, h => by
    simp only [outK] at h
    obtain ⟨g1, g2, g3⟩ := good_spec h.1
    exact ⟨_, .lst (H := retHow mem _ _ _) (Lends.selfI (fun _ => rfl) cs g1 g2) g3, h.2⟩
  | .rp cs, k, h => by simp only [outK] at h
  | .sl b ver e off len, k, h => by
    simp only [outK] at h
    split at h
    · rename_i hb
      exact ⟨_, .slPass (H := retHow mem _ _ _) (show b < p + ex.length by omega) (by show outIds p ex b = b; simp [outIds, hb]), h⟩
    · rename_i hb
      split at h
      · rename_i hx
        obtain ⟨i1, i2, i3⟩ := idxN_spec b ex 0 (by simpa using hx)
        exact ⟨_, .slPass (H := retHow mem _ _ _) (show p + idxN b ex 0 < p + ex.length by omega) (by show outIds p ex _ = b; unfold outIds; rw [if_neg (by omega), show p + idxN b ex 0 - p = idxN b ex 0 by omega]; exact i3), h⟩
      · rename_i hx
        split at h
        · rename_i te e' v cs hm
          obtain ⟨rfl, rfl, h3, h4, h5⟩ := h
          obtain ⟨g1, g2, g3⟩ := good_spec h4
          have hL : outL mem p ex b = true := by
            unfold outL; rw [hm]; simp only [Option.isSome_some, Bool.true_and, Bool.and_eq_true, decide_eq_true_eq, Bool.not_eq_true']
            exact ⟨by omega, by simpa using hx⟩
          exact ⟨_, .slLend (H := retHow mem _ _ _) hL hm h3 (Lends.selfI (fun _ => rfl) _ g1 g2) g3, h5⟩
        · exact h.elim
  | .ptr b ver o, k, h => by
    simp only [outK] at h
    split at h
    · rename_i hb
      exact ⟨_, .ptrPass (H := retHow mem _ _ _) (show b < p + ex.length by omega) (by show outIds p ex b = b; simp [outIds, hb]), h⟩
    · rename_i hb
      split at h
      · rename_i hx
        obtain ⟨i1, i2, i3⟩ := idxN_spec b ex 0 (by simpa using hx)
        exact ⟨_, .ptrPass (H := retHow mem _ _ _) (show p + idxN b ex 0 < p + ex.length by omega) (by show outIds p ex _ = b; unfold outIds; rw [if_neg (by omega), show p + idxN b ex 0 - p = idxN b ex 0 by omega]; exact i3), h⟩
      · exact h.elim
  | .fn f cs, k, h => by
    simp only [outK] at h
    obtain ⟨cs', h1, h2⟩ := outsK_ok cs _ h
    exact ⟨_, .fn h1, h2⟩
  | .any, k, h => by simp only [outK] at h; exact ⟨_, .any _, h⟩
theorem outsK_ok {mem : Nat → Option Blk} {p : Nat} {ex : List Nat} : ∀ (vs : List V) (k : List V → Prop), outsK mem p ex vs k → ∃ vs', Lends (retHow mem (outL mem p ex) (outIds p ex) (p + ex.length)) vs vs' ∧ k vs'
  | [], k, h => by simp only [outsK] at h; exact ⟨[], .nil, h⟩
  | x :: xs, k, h => by
    simp only [outsK] at h
    obtain ⟨x', h1, h2⟩ := outK_ok x _ h
    obtain ⟨xs', h3, h4⟩ := outsK_ok xs _ h2
    exact ⟨_, .cons h1 h3, h4⟩
end
def outBlks (mem : Nat → Option Blk) (p : Nat) (ex : List Nat) : List Nat → (List Blk → Prop) → Prop
  | [], k => k []
  | b :: l, k => match mem b with
    | some (.box cs) => outsK mem p ex cs fun cs' => cs'.all V.leaf = true ∧ outBlks mem p ex l fun r => k (.box cs' :: r)
    | some (.arr te e v cs) => outsK mem p ex cs fun cs' => cs'.all V.leaf = true ∧ outBlks mem p ex l fun r => k (.arr te e v cs' :: r)
    | _ => False
theorem outBlks_ok {mem : Nat → Option Blk} {p : Nat} {ex : List Nat} : ∀ (l : List Nat) (k : List Blk → Prop), outBlks mem p ex l k → ∃ m, k m ∧ m.length = l.length ∧ ∀ j, j < l.length → ∃ k k', mem (l.getD j 0) = some k ∧ m[j]? = some k' ∧ BLend (retHow mem (outL mem p ex) (outIds p ex) (p + ex.length)) k k'
  | [], k, h => ⟨[], h, rfl, fun j hj => by simp at hj⟩
  | b :: l, k, h => by
    unfold outBlks at h
    have key : ∀ (k0 k0' : Blk), mem b = some k0 → BLend (retHow mem (outL mem p ex) (outIds p ex) (p + ex.length)) k0 k0' → (∃ m, k (k0' :: m) ∧ m.length = l.length ∧ ∀ j, j < l.length → ∃ k k', mem (l.getD j 0) = some k ∧ m[j]? = some k' ∧ BLend (retHow mem (outL mem p ex) (outIds p ex) (p + ex.length)) k k') →
        ∃ m, k m ∧ m.length = (b :: l).length ∧ ∀ j, j < (b :: l).length → ∃ k k', mem ((b :: l).getD j 0) = some k ∧ m[j]? = some k' ∧ BLend (retHow mem (outL mem p ex) (outIds p ex) (p + ex.length)) k k' := by
      rintro k0 k0' h0 h1 ⟨m, m1, m2, m3⟩
      refine ⟨k0' :: m, m1, by simp [m2], fun j hj => ?_⟩
      cases j with
      | zero => exact ⟨k0, k0', by simpa using h0, by simp, h1⟩
      | succ j => simp at hj; simpa using m3 j hj
    split at h
    · rename_i cs hm
      obtain ⟨cs', h1, h2, h3⟩ := outsK_ok cs _ h
      exact key _ _ hm (.box h1 h2) (outBlks_ok l _ h3)
    · rename_i te e v cs hm
      obtain ⟨cs', h1, h2, h3⟩ := outsK_ok cs _ h
      exact key _ _ hm (.arr h1 h2) (outBlks_ok l _ h3)
    · exact h.elim
def lblks : Nat → List Blk → List (Nat × Blk)
  | _, [] => []
  | j, k :: ks => (j, k) :: lblks (j + 1) ks
theorem lget_lblks : ∀ (vs : List Blk) (i t : Nat), lget (lblks i vs) t = if t < i then none else vs[t - i]?
  | [], i, t => by simp [lblks, lget]
  | v :: vs, i, t => by
    unfold lblks lget
    by_cases h : i = t
    · subst h; simp
    · rw [if_neg h, lget_lblks vs (i + 1) t]
      by_cases h1 : t < i
      · rw [if_pos (by omega), if_pos h1]
      · rw [if_neg (by omega), if_neg h1]
        rw [show t - i = (t - (i + 1)) + 1 by omega]
        simp
def RetD (P : Program) (fn : Func) (p : Nat) (res : V) (bs' : List Blk) (Q : Exit → St → Prop) : Prop := ∀ e (s : LS), (e = .normal ∨ e = .ret) → ((resOf P s.st fn.results.toList).elim False fun v => ∃ ex : List Nat, nodupB ex = true ∧ (ex.all fun b => decide (p ≤ b)) = true ∧ outK (lget s.mem) p ex v fun r => outBlks (lget s.mem) p ex (List.range p ++ ex) fun m => r = res ∧ m = bs') → Q e s.st
theorem RetD.go {P : Program} {fn : Func} {p : Nat} {res : V} {bs' : List Blk} {Q : Exit → St → Prop} {e : Exit} {s : LS} (h : RetD P fn p res bs' Q) (ex : List Nat) (he : e = .normal ∨ e = .ret) (h1 : nodupB ex = true) (h2 : (ex.all fun b => decide (p ≤ b)) = true)
    (k : (resOf P s.st fn.results.toList).elim False fun v => outK (lget s.mem) p ex v fun r => outBlks (lget s.mem) p ex (List.range p ++ ex) fun m => r = res ∧ m = bs') : Q e s.st := by
  refine h e s he ?_
  cases hv : resOf P s.st fn.results.toList with
  | none => rw [hv] at k; exact k.elim
  | some v => rw [hv] at k; exact ⟨ex, h1, h2, k⟩
/-- A function that is handed blocks: the walk ends in what it returns, and in what the blocks are then. -/
theorem FnD.walk {P : Program} {f : FuncId} {fn : Func} {c : Code} {bs bs' : List Blk} {args : List V} {res : V} (hf : P.funcs[f]? = some fn) (hb : fn.body = some c) (N p : Nat) (hN : args.length + (fn.ntmps - args.length) = N) (hp : bs.length = p)
    (h : ∀ (W : World) (S : Nat → Prop) (F : Nat → Nat → Option Value) (Q : Exit → St → Prop), RetD P fn p res bs' Q →
      AWP P none ⟨W, S, p, F, N, []⟩ c (⟨largs 0 args, lblks 0 bs, p⟩ : LS).st Q) : FnD P f bs args res bs' := by
  unfold FnD
  subst hp
  refine FnM.of_awp hf hb (fun b k hk => (List.getElem?_eq_some_iff.1 hk).1) fun W S F => ?_
  have := h W S F (fun e s => (e = .normal ∨ e = .ret) ∧ ∃ v res_1 m', resOf P s fn.results.toList = some v ∧ Leaves bs.length s v res_1 m' ∧ res_1 = res ∧ m' = fun j => bs'[j]?) fun e s he hr => by
    refine ⟨he, ?_⟩
    cases hv : resOf P s.st fn.results.toList with
    | none => rw [hv] at hr; exact hr.elim
    | some v =>
      rw [hv] at hr
      obtain ⟨ex, x1, x2, x3⟩ := hr
      obtain ⟨r, r1, r2⟩ := outK_ok v _ x3
      obtain ⟨m, ⟨rfl, rfl⟩, m1, m2⟩ := outBlks_ok _ _ r2
      have hex : ∀ b ∈ ex, bs.length ≤ b := by simpa using x2
      have hnd := nodupB_ok _ x1
      refine ⟨v, r, _, rfl, ⟨outL (lget s.mem) bs.length ex, outIds bs.length ex, bs.length + ex.length, by omega, fun b hb => ?_, fun j hj => by simp [outIds, hj], fun j h1 h2 => ?_, fun i j hi hj e => ?_, fun j hj => ?_, fun j hj => ?_, fun j hj => ?_, r1⟩, rfl, rfl⟩
      · unfold outL at hb; simp only [Bool.and_eq_true, decide_eq_true_eq] at hb; exact hb.1.2
      · have hlt : j - bs.length < ex.length := by omega
        simp only [outIds, if_neg (Nat.not_lt.2 h1), List.getD_eq_getElem?_getD, List.getElem?_eq_getElem hlt, Option.getD_some]
        exact hex _ (List.getElem_mem hlt)
      · unfold outIds at e
        split at e <;> split at e
        · exact e
        · rename_i g1 g2
          have hlt : j - bs.length < ex.length := by omega
          simp only [List.getD_eq_getElem?_getD, List.getElem?_eq_getElem hlt, Option.getD_some] at e
          have := hex _ (List.getElem_mem hlt); omega
        · rename_i g1 g2
          have hlt : i - bs.length < ex.length := by omega
          simp only [List.getD_eq_getElem?_getD, List.getElem?_eq_getElem hlt, Option.getD_some] at e
          have := hex _ (List.getElem_mem hlt); omega
        · have hlt : j - bs.length < ex.length := by omega
          have hlt' : i - bs.length < ex.length := by omega
          simp only [List.getD_eq_getElem?_getD, List.getElem?_eq_getElem hlt, List.getElem?_eq_getElem hlt', Option.getD_some] at e
          have := nodup_inj hnd e; omega
      · unfold outL outIds
        split
        · rename_i hj'; simp; intro _ hx; omega
        · have hlt : j - bs.length < ex.length := by omega
          simp only [List.getD_eq_getElem?_getD, List.getElem?_eq_getElem hlt, Option.getD_some]
          have := List.getElem_mem hlt
          simp [this]
      · obtain ⟨k, k', e1, e2, e3⟩ := m2 j (by simpa using hj)
        refine ⟨k, k', ?_, e2, e3⟩
        have : (List.range bs.length ++ ex).getD j 0 = outIds bs.length ex j := by
          unfold outIds
          simp only [List.getD_eq_getElem?_getD, List.getElem?_append, List.length_range]
          split
          · rename_i hj'; simp [hj']
          · rfl
        rw [← this]; exact e1
      · have : m.length = bs.length + ex.length := by rw [m1]; simp
        simp; omega
  have e : (⟨largs 0 args, lblks 0 bs, bs.length⟩ : LS).st = ⟨argsT args, fun j => bs[j]?, bs.length⟩ := by
    rw [← argsT_st]
    have : lget (lblks 0 bs) = fun j => bs[j]? := by
      funext j
      rw [lget_lblks]; simp
    rw [this]
  rw [e] at this
  rw [show (⟨W, S, bs.length, F, args.length + (fn.ntmps - args.length), []⟩ : Cx) = ⟨W, S, bs.length, F, N, []⟩ by rw [hN]]
  exact this
end Go.Abs
