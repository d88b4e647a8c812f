/- Laws about heaps and calls that the walks use. Conditions: as each theorem states them. -/
import Derived.Test.YtdihhgkihbnnoaaAbsS
namespace Go.Abs
set_option linter.unusedVariables false
set_option linter.unusedSimpArgs false

mutual
/-- Nothing in it is a block of the function's own. -/
def V.nor : V → Bool
  | .sc _ => true
  | .agg cs => V.nors cs
  | .tup cs => V.nors cs
  | .lst _ _ _ cs => V.nors cs
  | .rp cs => V.nors cs
  | .sl .. => false
  | .ptr .. => false
  | .fn _ cs => V.nors cs
  | .any => true
def V.nors : List V → Bool
  | [] => true
  | x :: xs => V.nor x && V.nors xs
end
mutual
def V.old : V → V
  | .sc v => .sc v
  | .agg cs => .agg (V.olds cs)
  | .tup cs => .tup (V.olds cs)
  | .lst _ e n cs => .lst false e n (V.olds cs)
  | .rp cs => .rp (V.olds cs)
  | .sl b v e o l => .sl b v e o l
  | .ptr b v o => .ptr b v o
  | .fn f cs => .fn f (V.olds cs)
  | .any => .any
def V.olds : List V → List V
  | [] => []
  | x :: xs => V.old x :: V.olds xs
end
theorem V.old_leaf (v : V) : v.old.leaf = v.leaf := by cases v <;> simp [V.old, V.leaf]
theorem V.olds_leaf : ∀ (vs : List V), (V.olds vs).all V.leaf = vs.all V.leaf
  | [] => by simp [V.olds]
  | v :: vs => by simp [V.olds, V.old_leaf, V.olds_leaf vs]

mutual
/-- Cells are leaves, all the way down. -/
def V.wf : V → Bool
  | .sc _ => true
  | .agg cs => cs.all V.leaf && V.wfs cs
  | .tup cs => V.wfs cs
  | .lst _ _ _ cs => cs.all V.leaf && V.wfs cs
  | .rp cs => cs.all V.leaf && V.wfs cs
  | .sl .. => true
  | .ptr .. => true
  | .fn _ cs => V.wfs cs
  | .any => true
def V.wfs : List V → Bool
  | [] => true
  | x :: xs => V.wf x && V.wfs xs
end
/-- Cells that are leaves and name no block. -/
def V.good (cs : List V) : Bool := V.nors cs && V.wfs cs && cs.all V.leaf

mutual
theorem Lend.oldI {H : How} (hH : ∀ b, H.tg b = false) : ∀ (v : V), V.nor v = true → V.wf v = true → Lend H v v.old
  | .sc v, _, _ => by simp only [V.old]; exact .sc v
  | .agg cs, h, w => by
    simp only [V.old]; simp only [V.nor] at h; simp only [V.wf, Bool.and_eq_true] at w
    exact .agg (Lends.oldI hH cs h w.2) (by rw [V.olds_leaf]; exact w.1)
  | .tup cs, h, w => by simp only [V.old]; simp only [V.nor] at h; simp only [V.wf] at w; exact .tup (Lends.oldI hH cs h w)
  | .lst new e n cs, h, w => by
    simp only [V.old]; simp only [V.nor] at h; simp only [V.wf, Bool.and_eq_true] at w
    have := Lend.lst (H := H) (new := new) (e := e) (n := n) (Lends.oldI hH cs h w.2) (by rw [V.olds_leaf]; exact w.1)
    rwa [hH] at this
  | .rp cs, h, w => by
    simp only [V.old]; simp only [V.nor] at h; simp only [V.wf, Bool.and_eq_true] at w
    exact .rp (Lends.oldI hH cs h w.2) (by rw [V.olds_leaf]; exact w.1)
  | .sl .., h, _ => by simp [V.nor] at h
  | .ptr .., h, _ => by simp [V.nor] at h
  | .fn f cs, h, w => by simp only [V.old]; simp only [V.nor] at h; simp only [V.wf] at w; exact .fn (Lends.oldI hH cs h w)
  | .any, _, _ => by simp only [V.old]; exact .any _
theorem Lends.oldI {H : How} (hH : ∀ b, H.tg b = false) : ∀ (vs : List V), V.nors vs = true → V.wfs vs = true → Lends H vs (V.olds vs)
  | [], _, _ => by simp only [V.olds]; exact .nil
  | x :: xs, h, w => by
    simp only [V.olds]
    simp only [V.nors, Bool.and_eq_true] at h
    simp only [V.wfs, Bool.and_eq_true] at w
    exact .cons (Lend.oldI hH x h.1 w.1) (Lends.oldI hH xs h.2 w.2)
end

mutual
theorem Lend.selfI {H : How} (hH : ∀ b, H.tg b = b) : ∀ (v : V), V.nor v = true → V.wf v = true → Lend H v v
  | .sc v, _, _ => .sc v
  | .agg cs, h, w => by
    simp only [V.nor] at h; simp only [V.wf, Bool.and_eq_true] at w
    exact .agg (Lends.selfI hH cs h w.2) w.1
  | .tup cs, h, w => by simp only [V.nor] at h; simp only [V.wf] at w; exact .tup (Lends.selfI hH cs h w)
  | .lst new e n cs, h, w => by
    simp only [V.nor] at h; simp only [V.wf, Bool.and_eq_true] at w
    have := Lend.lst (H := H) (new := new) (e := e) (n := n) (Lends.selfI hH cs h w.2) w.1
    rwa [hH] at this
  | .rp cs, h, w => by
    simp only [V.nor] at h; simp only [V.wf, Bool.and_eq_true] at w
    exact .rp (Lends.selfI hH cs h w.2) w.1
  | .sl .., h, _ => by simp [V.nor] at h
  | .ptr .., h, _ => by simp [V.nor] at h
  | .fn f cs, h, w => by simp only [V.nor] at h; simp only [V.wf] at w; exact .fn (Lends.selfI hH cs h w)
  | .any, _, _ => .any _
theorem Lends.selfI {H : How} (hH : ∀ b, H.tg b = b) : ∀ (vs : List V), V.nors vs = true → V.wfs vs = true → Lends H vs vs
  | [], _, _ => .nil
  | x :: xs, h, w => by
    simp only [V.nors, Bool.and_eq_true] at h
    simp only [V.wfs, Bool.and_eq_true] at w
    exact .cons (Lend.selfI hH x h.1 w.1) (Lends.selfI hH xs h.2 w.2)
end

/-! ### handing values on, by rewriting -/
mutual
/-- To a callee. -/
def lendK (mem : Nat → Option Blk) (ks : List Nat) : V → (V → Prop) → Prop
  | .sc v, k => k (.sc v)
  | .agg cs, k => lendsK mem ks cs fun cs' => cs'.all V.leaf = true ∧ k (.agg cs')
  | .tup _, _ => False
  | .lst _ e n cs, k => V.good cs = true ∧ k (.lst false e n (V.olds cs))
  | .rp cs, k => V.good cs = true ∧ k (.rp (V.olds cs))
  | .sl b ver e off len, k => ks.contains b = true ∧ (match mem b with
    | some (.arr _ e' v cs) => v = ver ∧ e' = e ∧ off * e + len * e ≤ cs.length ∧ V.good ((cs.drop (off * e)).take (len * e)) = true ∧ k (.lst false e len (V.olds ((cs.drop (off * e)).take (len * e))))
    | _ => False)
  | .ptr b ver o, k => ks.contains b = true ∧ (match mem b with
    | some bk => bk.hasVer ver = true ∧ V.good (bk.cells.drop o) = true ∧ k (.rp (V.olds (bk.cells.drop o)))
    | none => False)
  | .fn f cs, k => lendsK mem ks cs fun cs' => k (.fn f cs')
  | .any, k => k .any
def lendsK (mem : Nat → Option Blk) (ks : List Nat) : List V → (List V → Prop) → Prop
  | [], k => k []
  | x :: xs, k => lendK mem ks x fun x' => lendsK mem ks xs fun xs' => k (x' :: xs')
end
theorem good_spec {cs : List V} (h : V.good cs = true) : V.nors cs = true ∧ V.wfs cs = true ∧ cs.all V.leaf = true := by
  unfold V.good at h
  simp only [Bool.and_eq_true] at h
  exact ⟨h.1.1, h.1.2, h.2⟩
mutual
theorem lendK_ok {mem : Nat → Option Blk} {ks : List Nat} : ∀ (v : V) (k : V → Prop), lendK mem ks v k → ∃ v', Lend (callHow mem ks) v v' ∧ k v'
  | .sc v, k, h => by simp only [lendK] at h; exact ⟨_, .sc v, h⟩
  | .agg cs, k, h => by
    simp only [lendK] at h
    obtain ⟨cs', h1, h2, h3⟩ := lendsK_ok cs _ h
    exact ⟨_, .agg h1 h2, h3⟩
  | .tup _, k, h => by simp only [lendK] at h
  | .lst new e n cs, k, h => by
    simp only [lendK] at h
    obtain ⟨g1, g2, g3⟩ := good_spec h.1
    exact ⟨_, .lst (H := callHow mem ks) (Lends.oldI (fun _ => rfl) cs g1 g2) (by rw [V.olds_leaf]; exact g3), h.2⟩
  | .rp cs, k, h => by
    simp only [lendK] at h
    obtain ⟨g1, g2, g3⟩ := good_spec h.1
    exact ⟨_, .rp (Lends.oldI (fun _ => rfl) cs g1 g2) (by rw [V.olds_leaf]; exact g3), h.2⟩
  | .sl b ver e off len, k, h => by
    simp only [lendK] at h
    obtain ⟨h1, h2⟩ := h
    split at h2
    · rename_i te e' v cs hm
      obtain ⟨rfl, rfl, h3, h4, h5⟩ := h2
      obtain ⟨g1, g2, g3⟩ := good_spec h4
      exact ⟨_, .slLend (H := callHow mem ks) h1 hm h3 (Lends.oldI (fun _ => rfl) _ g1 g2) (by rw [V.olds_leaf]; exact g3), h5⟩
    · exact h2.elim
  | .ptr b ver o, k, h => by
    simp only [lendK] at h
    obtain ⟨h1, h2⟩ := h
    split at h2
    · rename_i bk hm
      obtain ⟨h3, h4, h5⟩ := h2
      obtain ⟨g1, g2, g3⟩ := good_spec h4
      exact ⟨_, .ptrLend (H := callHow mem ks) h1 hm h3 (Lends.oldI (fun _ => rfl) _ g1 g2) (by rw [V.olds_leaf]; exact g3), h5⟩
    · exact h2.elim
  | .fn f cs, k, h => by
    simp only [lendK] at h
    obtain ⟨cs', h1, h2⟩ := lendsK_ok cs _ h
    exact ⟨_, .fn h1, h2⟩
  | .any, k, h => by simp only [lendK] at h; exact ⟨_, .any _, h⟩
theorem lendsK_ok {mem : Nat → Option Blk} {ks : List Nat} : ∀ (vs : List V) (k : List V → Prop), lendsK mem ks vs k → ∃ vs', Lends (callHow mem ks) vs vs' ∧ k vs'
  | [], k, h => by simp only [lendsK] at h; exact ⟨[], .nil, h⟩
  | x :: xs, k, h => by
    simp only [lendsK] at h
    obtain ⟨x', h1, h2⟩ := lendK_ok x _ h
    obtain ⟨xs', h3, h4⟩ := lendsK_ok xs _ h2
    exact ⟨_, .cons h1 h3, h4⟩
end

mutual
/-- To the caller. -/
def retK (mem : Nat → Option Blk) : V → (V → Prop) → Prop
  | .sc v, k => k (.sc v)
  | .agg cs, k => retsK mem cs fun cs' => cs'.all V.leaf = true ∧ k (.agg cs')
  | .tup cs, k => retsK mem cs fun cs' => k (.tup cs')
  | .lst new e n cs, k => V.good cs = true ∧ k (.lst new e n cs)
  | .rp _, _ => False
  | .sl b ver e off len, k => (match mem b with
    | some (.arr _ e' v cs) => v = ver ∧ e' = e ∧ off * e + len * e ≤ cs.length ∧ V.good ((cs.drop (off * e)).take (len * e)) = true ∧ k (.lst true e len ((cs.drop (off * e)).take (len * e)))
    | _ => False)
  | .ptr .., _ => False
  | .fn f cs, k => retsK mem cs fun cs' => k (.fn f cs')
  | .any, k => k .any
def retsK (mem : Nat → Option Blk) : List V → (List V → Prop) → Prop
  | [], k => k []
  | x :: xs, k => retK mem x fun x' => retsK mem xs fun xs' => k (x' :: xs')
end
mutual
theorem retK_ok {mem : Nat → Option Blk} {ids : Nat → Nat} {q : Nat} {L : Nat → Bool} : ∀ (v : V) (k : V → Prop), (∀ b, (mem b).isSome = true → L b = true) → retK mem v k → ∃ v', Lend (retHow mem L ids q) v v' ∧ k v'
  | .sc v, k, hL, h => by simp only [retK] at h; exact ⟨_, .sc v, h⟩
  | .agg cs, k, hL, h => by
    simp only [retK] at h
    obtain ⟨cs', h1, h2, h3⟩ := retsK_ok cs _ hL h
    exact ⟨_, .agg h1 h2, h3⟩
  | .tup cs, k, hL, h => by
    simp only [retK] at h
    obtain ⟨cs', h1, h2⟩ := retsK_ok cs _ hL h
    exact ⟨_, .tup h1, h2⟩
  | .lst new e n cs, k, hL, h => by
    simp only [retK] at h
    obtain ⟨g1, g2, g3⟩ := good_spec h.1
    exact ⟨_, .lst (H := retHow mem L ids q) (Lends.selfI (fun _ => rfl) cs g1 g2) g3, h.2⟩
  | .rp cs, k, hL, h => by simp only [retK] at h
  | .sl b ver e off len, k, hL, h => by
    simp only [retK] at h
    split at h
    · rename_i te e' v cs hm
      obtain ⟨rfl, rfl, h3, h4, h5⟩ := h
      obtain ⟨g1, g2, g3⟩ := good_spec h4
      exact ⟨_, .slLend (H := retHow mem L ids q) (hL b (by rw [hm]; rfl)) hm h3 (Lends.selfI (fun _ => rfl) _ g1 g2) g3, h5⟩
    · exact h.elim
  | .ptr .., k, hL, h => by simp only [retK] at h
  | .fn f cs, k, hL, h => by
    simp only [retK] at h
    obtain ⟨cs', h1, h2⟩ := retsK_ok cs _ hL h
    exact ⟨_, .fn h1, h2⟩
  | .any, k, hL, h => by simp only [retK] at h; exact ⟨_, .any _, h⟩
theorem retsK_ok {mem : Nat → Option Blk} {ids : Nat → Nat} {q : Nat} {L : Nat → Bool} : ∀ (vs : List V) (k : List V → Prop), (∀ b, (mem b).isSome = true → L b = true) → retsK mem vs k → ∃ vs', Lends (retHow mem L ids q) vs vs' ∧ k vs'
  | [], k, hL, h => by simp only [retsK] at h; exact ⟨[], .nil, h⟩
  | x :: xs, k, hL, h => by
    simp only [retsK] at h
    obtain ⟨x', h1, h2⟩ := retK_ok x _ hL h
    obtain ⟨xs', h3, h4⟩ := retsK_ok xs _ hL h2
    exact ⟨_, .cons h1 h3, h4⟩
end

def resL (P : Program) (s : LS) : List ResultVar → Option V := resOf P s.st
/-- What the end of a walk owes, folded. -/
def RetP (P : Program) (fn : Func) (res : V) (Q : Exit → St → Prop) : Prop := ∀ e (s : LS), (e = .normal ∨ e = .ret) → ((resOf P s.st fn.results.toList).elim False fun v => retK (lget s.mem) v fun r => r = res) → Q e s.st
theorem RetP.go {P : Program} {fn : Func} {res : V} {Q : Exit → St → Prop} {e : Exit} {s : LS} (h : RetP P fn res Q) (he : e = .normal ∨ e = .ret) (k : (resOf P s.st fn.results.toList).elim False fun v => retK (lget s.mem) v fun r => r = res) : Q e s.st := h e s he k
/-- A function that touches nothing of ours: the walk ends in this. -/
theorem FnP.walk {P : Program} {f : FuncId} {fn : Func} {c : Code} {args : List V} {res : V} (hf : P.funcs[f]? = some fn) (hb : fn.body = some c) (N : Nat) (hN : args.length + (fn.ntmps - args.length) = N)
    (h : ∀ (W : World) (S : Nat → Prop) (F : Nat → Nat → Option Value) (Q : Exit → St → Prop), RetP P fn res Q →
      AWP P none ⟨W, S, 0, F, N, []⟩ c (⟨largs 0 args, [], 0⟩ : LS).st Q) : FnP P f args res := by
  refine FnP.ofK hf hb N hN fun W S F Q hQ => h W S F Q fun e s he hr => hQ e s.st he ?_
  cases hv : resOf P s.st fn.results.toList with
  | none => rw [hv] at hr; exact hr.elim
  | some v =>
    rw [hv] at hr
    obtain ⟨r, r1, r2⟩ := retK_ok (ids := id) (q := 0) (L := fun _ => true) v _ (fun _ _ => rfl) hr
    subst r2
    exact ⟨v, fun _ => true, rfl, r1⟩

section
variable {P : Program} {N p : Nat} {ops : Array Oper} {base : Nat} {masks : Option (List Nat)} {kl : Kl} {i : Nat} {l : List Oper} {s : LS} {Q : LS → Prop} {o : Oper}
def onFn (v : V) (fid : FuncId) (k : List V → Prop) : Prop := match v with | .fn (.func f) caps => f = fid ∧ k caps | _ => False
/-- A call, by what is known of the callee. -/
theorem RunK.callK (ks : List Nat) {f : Operand} {args : Array Operand} {ts : Array TypeId} {fid : FuncId} (hop : o.op = .call { callee := .value f, args, argTypes := ts }) (hcb : callable P fid = true)
    (h : dstOK N o.dst = true ∧ wantedL ops s o = some true ∧ lchk base masks kl i ks = true ∧ onFn (s.ev f) fid fun caps => lendsK (lget s.mem) ks (args.toList.map s.ev ++ caps) fun args' =>
      ∃ res, FnP P fid args' res ∧ (V.fresh res = true ∨ ks = []) ∧ RunK P N p ops base masks kl (i + 1) l (s.app o.dst res []) Q) : RunK P N p ops base masks kl i (o :: l) s Q := by
  obtain ⟨h1, h2, h3, h4⟩ := h
  unfold onFn at h4
  split at h4
  · rename_i f' caps hf
    obtain ⟨rfl, h4⟩ := h4
    obtain ⟨args', h5, res, h6, h7, h8⟩ := lendsK_ok _ _ h4
    exact RunK.call ks h6 hop h1 h2 hf hcb h5 h7 h3 h8
  · exact h4.elim
theorem RunK.shareK (ks : List Nat) {f : Operand} {args : Array Operand} {ts : Array TypeId} {fid : FuncId} (hop : o.op = .call { callee := .value f, args, argTypes := ts }) (hcb : callable P fid = true)
    (h : dstOK N o.dst = true ∧ wantedL ops s o = some true ∧ lchk base masks kl i ks = true ∧ (masks.isNone || kl.contains i) = true ∧ (ks.all fun b => decide (p ≤ b) && (lget s.mem b).isSome) = true ∧ onFn (s.ev f) fid fun caps => lendsK (lget s.mem) ks (args.toList.map s.ev ++ caps) fun args' =>
      ∃ res, FnP P fid args' res ∧ RunK P N p ops base masks kl (i + 1) l (s.app o.dst res (ks.map (·, .dead))) Q) : RunK P N p ops base masks kl i (o :: l) s Q := by
  obtain ⟨h1, h2, h3, h3', h3'', h4⟩ := h
  unfold onFn at h4
  split at h4
  · rename_i f' caps hf
    obtain ⟨rfl, h4⟩ := h4
    obtain ⟨args', h5, res, h6, h8⟩ := lendsK_ok _ _ h4
    exact RunK.share ks h6 hop h1 h2 hf hcb h5 h3'' h3' h3 h8
  · exact h4.elim
end
end Go.Abs
namespace Go.Abs
theorem RunK.guardK {P : Program} {N p : Nat} {ops : Array Oper} {base : Nat} {masks : Option (List Nat)} {kl : Kl} {i : Nat} {l : List Oper} {s : LS} {Q : LS → Prop} {o : Oper} {j : Nat} {w : Bool} {d : Tmp}
    (hg : o.guard = some (j, w)) (hd : (ops[j]?).bind (·.dst) = some d) (h : onBool (s.slot d) fun b => (b = true → RunK P N p ops base masks kl i (o :: l) s Q) ∧ (b = false → RunK P N p ops base masks kl i (o :: l) s Q)) : RunK P N p ops base masks kl i (o :: l) s Q := by
  unfold onBool at h
  split at h
  · rename_i t ht
    cases t
    · exact h.2 rfl
    · exact h.1 rfl
  · exact h.elim
end Go.Abs
