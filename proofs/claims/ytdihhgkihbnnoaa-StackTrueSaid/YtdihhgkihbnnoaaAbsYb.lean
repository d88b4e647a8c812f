/- Laws about heaps and calls that the walks use. Conditions: as each theorem states them. -/
import Derived.Test.YtdihhgkihbnnoaaAbsY
namespace Go.Abs
set_option linter.unusedVariables false
set_option linter.unusedSimpArgs false
section
variable {c : RX} {i : Nat} {l : List Oper} {tm : List (Nat × V)} {mem : List (Nat × Blk)} {nx : Nat} {Q : LS → Prop} {d : Tmp} {op : Op} {ty : TypeId} {ps : String} {af : Array Edge} {g : Option (Nat × Bool)}
theorem wtG {o : Oper} {j : Nat} {w b : Bool} {d' : Tmp} (hg : o.guard = some (j, w)) (hj : (c.ops[j]?).bind (·.dst) = some d') (hs : (LS.mk tm mem nx).slot d' = .sc (.bool b)) (hb : b = w) : Wt c ⟨tm, mem, nx⟩ o := by
  subst hb
  show wantedV _ _ _ = _
  unfold wantedV
  rw [hg]
  simp only [hj]
  show (match (LS.mk tm mem nx).slot d' with | .sc (.bool b') => some (b' == b) | .tup [] => some false | _ => none) = _
  rw [hs]
  simp
theorem skC {o : Oper} {d' : Option Tmp} (ho : o.dst = d') (hw : wantedV c.ops (LS.mk tm mem nx).st o = some false) (h : RunC c (i + 1) l ((LS.mk tm mem nx).with d' (.tup []) mem) Q) : RunC c i (o :: l) ⟨tm, mem, nx⟩ Q := by
  subst ho
  exact RunC.act (e := ⟨.tup [], []⟩) (t := []) (w := false) (fun _ => .skip hw) (fun ho => chk_nil ho rfl) (fun x hx => by cases hx) h
theorem skW {o : Oper} {j : Nat} {w b : Bool} {d' : Tmp} (hg : o.guard = some (j, w)) (hj : (c.ops[j]?).bind (·.dst) = some d') (hs : (LS.mk tm mem nx).slot d' = .sc (.bool b)) (hb : b = !w) : wantedV c.ops (LS.mk tm mem nx).st o = some false := by
  subst hb
  unfold wantedV
  rw [hg]
  simp only [hj]
  show (match (LS.mk tm mem nx).slot d' with | .sc (.bool b') => some (b' == w) | .tup [] => some false | _ => none) = _
  rw [hs]
  simp
theorem skW2 {o : Oper} {j : Nat} {w : Bool} {d' : Tmp} (hg : o.guard = some (j, w)) (hj : (c.ops[j]?).bind (·.dst) = some d') (hs : (LS.mk tm mem nx).slot d' = .tup []) : wantedV c.ops (LS.mk tm mem nx).st o = some false := by
  unfold wantedV
  rw [hg]
  simp only [hj]
  show (match (LS.mk tm mem nx).slot d' with | .sc (.bool b') => some (b' == w) | .tup [] => some false | _ => none) = _
  rw [hs]
/-- What stands behind a guard that does not hold is passed over. -/
theorem sk {j : Nat} {w : Bool} (hw : wantedV c.ops (LS.mk tm mem nx).st ⟨some d, op, ty, ps, af, some (j, w)⟩ = some false)
    (h : RunC c (i + 1) l ⟨(d, .tup []) :: tm, mem, nx⟩ Q) : RunC c i (⟨some d, op, ty, ps, af, some (j, w)⟩ :: l) ⟨tm, mem, nx⟩ Q := skC rfl hw h
theorem skN {j : Nat} {w : Bool} (hw : wantedV c.ops (LS.mk tm mem nx).st ⟨none, op, ty, ps, af, some (j, w)⟩ = some false)
    (h : RunC c (i + 1) l ⟨tm, mem, nx⟩ Q) : RunC c i (⟨none, op, ty, ps, af, some (j, w)⟩ :: l) ⟨tm, mem, nx⟩ Q := skC rfl hw h
theorem bcase {p : Prop} (b : Bool) (ht : b = true → p) (hf : b = false → p) : p := by cases b; exact hf rfl; exact ht rfl

/-- A call: what it names of our own is lent. -/
theorem cl {f : Operand} {args : Array Operand} {ts : Array TypeId} {fid : FuncId} {caps args' : List V} {res : V} {d' : Option Tmp} (ks : List Nat) (hw : Wt c ⟨tm, mem, nx⟩ ⟨d', .call { callee := .value f, args, argTypes := ts }, ty, ps, af, g⟩) (hf : (LS.mk tm mem nx).ev f = .fn (.func fid) caps)
    (hcb : callable c.P fid = true) (hfn : FnP c.P fid args' res) (ha : Lends (callHow (lget mem) ks) (args.toList.map (LS.mk tm mem nx).ev ++ caps) args') (hfr : V.fresh res = true ∨ ks = []) (hc : lchk c.base c.masks c.kl i ks = true)
    (h : RunC c (i + 1) l ((LS.mk tm mem nx).with d' res mem) Q) : RunC c i (⟨d', .call { callee := .value f, args, argTypes := ts }, ty, ps, af, g⟩ :: l) ⟨tm, mem, nx⟩ Q :=
  actM (e := ⟨res, []⟩) (t := ks) (w := false) rfl (fun hid => Act1.call hw rfl (by rw [LS.st_ev]; exact hf) (by rw [LS.st_ev]; exact ha) hcb hfn hfr) hc (fun e => by cases e) (fun x hx => by cases hx) h
def PassB (H : How) (mem : List (Nat × Blk)) : List Nat → List Blk → Prop
  | [], [] => True
  | b :: bs, k' :: m => (∃ k, lget mem b = some k ∧ BLend H k k') ∧ PassB H mem bs m
  | _, _ => False
theorem PassB.len {H : How} {mem : List (Nat × Blk)} : ∀ {bs : List Nat} {m : List Blk}, PassB H mem bs m → m.length = bs.length
  | [], [], _ => rfl
  | b :: bs, k :: m, h => by simp [PassB.len h.2]
  | [], k :: m, h => h.elim
  | b :: bs, [], h => h.elim
theorem PassB.get {H : How} {mem : List (Nat × Blk)} : ∀ {bs : List Nat} {m : List Blk}, PassB H mem bs m → ∀ j k', m[j]? = some k' → ∃ k, lget mem (bs.getD j 0) = some k ∧ BLend H k k'
  | [], [], _, j, k', e => by simp at e
  | b :: bs, k :: m, h, j, k', e => by
    cases j with
    | zero => simp at e; subst e; simpa using h.1
    | succ j => simpa using PassB.get h.2 j k' (by simpa using e)
  | [], k :: m, h, _, _, _ => h.elim
  | b :: bs, [], h, _, _, _ => h.elim
/-- A call that is handed blocks. -/
theorem cp {f : Operand} {args : Array Operand} {ts : Array TypeId} {fid : FuncId} {caps args' : List V} {m m' : List Blk} {res res' : V} {d' : Option Tmp} {ups : List (Nat × Blk)} (bs : List Nat) (id : Nat) (hw : Wt c ⟨tm, mem, nx⟩ ⟨d', .call { callee := .value f, args, argTypes := ts }, ty, ps, af, g⟩) (hid : c.base + 4 * i = id) (hf : (LS.mk tm mem nx).ev f = .fn (.func fid) caps)
    (hcb : callable c.P fid = true) (hfn : FnD c.P fid m args' res m') (ha : Lends (passHow (lget mem) bs) (args.toList.map (LS.mk tm mem nx).ev ++ caps) args') (hb : PassB (passHow (lget mem) bs) mem bs m) (hn : nodupB bs = true) (hs : sideB c.p bs = true) (hl : (Nat.ble bs.length m'.length && Nat.ble m'.length (bs.length + 1)) = true)
    (hk : (c.masks.isNone || c.kl.contains i) = true) (hc : lchk c.base c.masks c.kl i bs = true) (hres : res.ren (passIds bs id) = res') (hups : passUps (passIds bs id) 0 m' = ups)
    (h : RunC c (i + 1) l ((LS.mk tm mem nx).with d' res' (pushes mem ups)) Q) : RunC c i (⟨d', .call { callee := .value f, args, argTypes := ts }, ty, ps, af, g⟩ :: l) ⟨tm, mem, nx⟩ Q := by
  subst hres hups
  have hsome : ∀ b ∈ bs, (lget mem b).isSome = true := fun b hb' => by
    obtain ⟨j, hj, rfl⟩ := List.mem_iff_getElem.1 hb'
    have hjm : j < m.length := by rw [hb.len]; exact hj
    obtain ⟨k, e, _⟩ := hb.get j m[j] (by simp [hjm])
    have : bs.getD j 0 = bs[j] := by simp [hj]
    rw [this] at e; rw [e]; rfl
  simp only [Bool.and_eq_true] at hl
  have hl1 := Nat.le_of_ble_eq_true hl.1
  have hl2 := Nat.le_of_ble_eq_true hl.2
  have hside : (∀ b ∈ bs, b < c.p) ∨ ∀ b ∈ bs, c.p ≤ b := by
    unfold sideB at hs
    simp only [Bool.or_eq_true, List.all_eq_true, decide_eq_true_eq] at hs
    exact hs.symm
  refine actM (e := ⟨res.ren (passIds bs id), passUps (passIds bs id) 0 m'⟩) (t := bs) (w := true) rfl (fun hid' => ?_) hc (fun e => .inr hk) (fun x hx => ?_) h
  · rw [hid] at hid' ⊢
    exact Act1.pass hw rfl (by rw [LS.st_ev]; exact hf) (by rw [LS.st_ev]; exact ha) hcb hfn (nodupB_ok _ hn) hsome hid' hside hb.len hl1 hl2 (fun j k' e => hb.get j k' e)
  · obtain ⟨j, j1, j2, j3⟩ := passUps_keys _ _ _ x hx
    rw [j3]
    unfold passIds
    rcases Nat.lt_or_ge j bs.length with hj | hj
    · right
      have : bs.getD j id = bs[j] := by simp [hj]
      rw [this]; exact hsome _ (List.getElem_mem hj)
    · left
      have : bs.getD j id = id := by simp [hj]
      rw [this]; omega
theorem cls {f : Operand} {args : Array Operand} {ts : Array TypeId} {fid : FuncId} {caps args' : List V} {res : V} (ks : List Nat) (hw : Wt c ⟨tm, mem, nx⟩ ⟨some d, .call { callee := .value f, args, argTypes := ts }, ty, ps, af, g⟩) (hf : (LS.mk tm mem nx).ev f = .fn (.func fid) caps)
    (hcb : callable c.P fid = true) (hfn : FnP c.P fid args' res) (ha : Lends (callHow (lget mem) ks) (args.toList.map (LS.mk tm mem nx).ev ++ caps) args') (hfr : V.fresh res = true ∨ ks = []) (hc : lchk c.base c.masks c.kl i ks = true)
    (h : RunC c (i + 1) l ⟨(d, res) :: tm, mem, nx⟩ Q) : RunC c i (⟨some d, .call { callee := .value f, args, argTypes := ts }, ty, ps, af, g⟩ :: l) ⟨tm, mem, nx⟩ Q := cl (d' := some d) ks hw hf hcb hfn ha hfr hc h
theorem cln {f : Operand} {args : Array Operand} {ts : Array TypeId} {fid : FuncId} {caps args' : List V} {res : V} (ks : List Nat) (hw : Wt c ⟨tm, mem, nx⟩ ⟨none, .call { callee := .value f, args, argTypes := ts }, ty, ps, af, g⟩) (hf : (LS.mk tm mem nx).ev f = .fn (.func fid) caps)
    (hcb : callable c.P fid = true) (hfn : FnP c.P fid args' res) (ha : Lends (callHow (lget mem) ks) (args.toList.map (LS.mk tm mem nx).ev ++ caps) args') (hfr : V.fresh res = true ∨ ks = []) (hc : lchk c.base c.masks c.kl i ks = true)
    (h : RunC c (i + 1) l ⟨tm, mem, nx⟩ Q) : RunC c i (⟨none, .call { callee := .value f, args, argTypes := ts }, ty, ps, af, g⟩ :: l) ⟨tm, mem, nx⟩ Q := cl (d' := none) ks hw hf hcb hfn ha hfr hc h
theorem cps {f : Operand} {args : Array Operand} {ts : Array TypeId} {fid : FuncId} {caps args' : List V} {m m' : List Blk} {res res' : V} {ups : List (Nat × Blk)} (bs : List Nat) (id : Nat) (hw : Wt c ⟨tm, mem, nx⟩ ⟨some d, .call { callee := .value f, args, argTypes := ts }, ty, ps, af, g⟩) (hid : c.base + 4 * i = id) (hf : (LS.mk tm mem nx).ev f = .fn (.func fid) caps)
    (hcb : callable c.P fid = true) (hfn : FnD c.P fid m args' res m') (ha : Lends (passHow (lget mem) bs) (args.toList.map (LS.mk tm mem nx).ev ++ caps) args') (hb : PassB (passHow (lget mem) bs) mem bs m) (hn : nodupB bs = true) (hs : sideB c.p bs = true) (hl : (Nat.ble bs.length m'.length && Nat.ble m'.length (bs.length + 1)) = true)
    (hk : (c.masks.isNone || c.kl.contains i) = true) (hc : lchk c.base c.masks c.kl i bs = true) (hres : res.ren (passIds bs id) = res') (hups : passUps (passIds bs id) 0 m' = ups)
    (h : RunC c (i + 1) l ⟨(d, res') :: tm, (pushes mem ups), nx⟩ Q) : RunC c i (⟨some d, .call { callee := .value f, args, argTypes := ts }, ty, ps, af, g⟩ :: l) ⟨tm, mem, nx⟩ Q := cp (d' := some d) bs id hw hid hf hcb hfn ha hb hn hs hl hk hc hres hups h
theorem cpn {f : Operand} {args : Array Operand} {ts : Array TypeId} {fid : FuncId} {caps args' : List V} {m m' : List Blk} {res res' : V} {ups : List (Nat × Blk)} (bs : List Nat) (id : Nat) (hw : Wt c ⟨tm, mem, nx⟩ ⟨none, .call { callee := .value f, args, argTypes := ts }, ty, ps, af, g⟩) (hid : c.base + 4 * i = id) (hf : (LS.mk tm mem nx).ev f = .fn (.func fid) caps)
    (hcb : callable c.P fid = true) (hfn : FnD c.P fid m args' res m') (ha : Lends (passHow (lget mem) bs) (args.toList.map (LS.mk tm mem nx).ev ++ caps) args') (hb : PassB (passHow (lget mem) bs) mem bs m) (hn : nodupB bs = true) (hs : sideB c.p bs = true) (hl : (Nat.ble bs.length m'.length && Nat.ble m'.length (bs.length + 1)) = true)
    (hk : (c.masks.isNone || c.kl.contains i) = true) (hc : lchk c.base c.masks c.kl i bs = true) (hres : res.ren (passIds bs id) = res') (hups : passUps (passIds bs id) 0 m' = ups)
    (h : RunC c (i + 1) l ⟨tm, (pushes mem ups), nx⟩ Q) : RunC c i (⟨none, .call { callee := .value f, args, argTypes := ts }, ty, ps, af, g⟩ :: l) ⟨tm, mem, nx⟩ Q := cp (d' := none) bs id hw hid hf hcb hfn ha hb hn hs hl hk hc hres hups h
end
section
variable {α : Type} [Cl α]
/-! handing values on -/
theorem ldR' {H : How} {nw : Bool} {xs : List α} : Lend H (rowV nw xs) (rowV (H.tg nw) xs) := .lst (flat_ld H nw xs) (flat_leaf _ _)
theorem ldA {H : How} {nw : Bool} {x : α} : Lend H (aggV nw x) (aggV (H.tg nw) x) := .agg (Cl.ld H nw x) (Cl.leaf _ _)
/-- An own row is lent. -/
theorem ldS {H : How} {b ver te : Nat} {nw : Bool} {xs : List α} (hL : H.L b = true) (hm : H.mem b = some (arrB te ver nw xs)) (ht : H.tn = H.tg nw) : Lend H (slV α b ver 0 xs.length) (rowV (H.tg nw) xs) := by
  unfold rowV; rw [← ht]
  refine .slLend (te := te) hL hm ?_ ?_ (flat_leaf _ _)
  · rw [flat_len']; omega
  · rw [Nat.zero_mul, List.drop_zero, List.take_of_length_le (by rw [flat_len']; exact Nat.le_refl _), ht]
    exact flat_ld H nw xs
theorem ldSs {H : How} {b ver te off len : Nat} {nw : Bool} {xs : List α} (hL : H.L b = true) (hm : H.mem b = some (arrB te ver nw xs)) (ht : H.tn = H.tg nw) (hfit : off + len ≤ xs.length) : Lend H (slV α b ver off len) (rowV (H.tg nw) ((xs.drop off).take len)) := by
  unfold rowV; rw [← ht, show ((xs.drop off).take len).length = len by simp; omega]
  refine .slLend (te := te) hL hm ?_ ?_ (flat_leaf _ _)
  · rw [flat_len', ← Nat.add_mul]; exact Nat.mul_le_mul_right _ hfit
  · rw [flat_drop, flat_take, ht]
    exact flat_ld H nw _
/-- A nil slice. -/
theorem lnilI {H : How} : Lend H (.sc (.slice none 0 0)) (.sc (.slice none 0 0)) := .sc _
theorem bldB {H : How} {nw : Bool} {x : α} : BLend H (boxB nw x) (boxB (H.tg nw) x) := .box (Cl.ld H nw x) (Cl.leaf _ _)
theorem bldA {H : How} {te ver : Nat} {nw : Bool} {xs : List α} : BLend H (arrB te ver nw xs) (arrB te ver (H.tg nw) xs) := .arr (flat_ld H nw xs) (flat_leaf _ _)
theorem renR {r : Nat → Nat} {nw : Bool} {xs : List α} : (rowV nw xs).ren r = rowV nw xs := ren_nor r _ (by simp only [rowV, V.nor]; exact flat_nors nw xs)
theorem renA {r : Nat → Nat} {nw : Bool} {x : α} : (aggV nw x).ren r = aggV nw x := ren_nor r _ (by simp only [aggV, V.nor]; exact Cl.nors nw x)
theorem renBox {r : Nat → Nat} {nw : Bool} {x : α} : (boxB nw x).ren r = boxB nw x := by simp only [boxB, Blk.ren]; rw [rens_nor r _ (Cl.nors nw x)]
theorem renArr {r : Nat → Nat} {te ver : Nat} {nw : Bool} {xs : List α} : (arrB te ver nw xs).ren r = arrB te ver nw xs := by simp only [arrB, Blk.ren]; rw [rens_nor r _ (flat_nors nw xs)]
theorem freshR {xs : List α} : V.fresh (rowV true xs) = true := by simp only [rowV, V.fresh, flat_fresh, Bool.and_self]
theorem freshA {x : α} : V.fresh (aggV true x) = true := by simp only [aggV, V.fresh, Cl.fresh]
end

/-! ### code -/
section
variable {P : Program} {r : Option Nat} {W0 : World} {S : Nat → Prop} {p : Nat} {F0 : Nat → Nat → Option Value} {N : Nat} {D : List Deferred} {tm : List (Nat × V)} {mem : List (Nat × Blk)} {nx : Nat} {Q : Exit → St → Prop} {id : Nat} {l : List Oper} {x y z : Code}
theorem AWP.rgC (nx' : Nat) (hn : nx + 4 * l.length = nx') (hd : l.all (fun o => dstOK N o.dst) = true) (h : RunC ⟨P, N, p, l.toArray, nx, none, ⟨[], []⟩⟩ 0 l ⟨tm, mem, nx'⟩ fun s' => Q .normal s'.st) : AWP P r ⟨W0, S, p, F0, N, D⟩ (.region id l.toArray false) (LS.mk tm mem nx).st Q := fun E a W hI => by
  have h' := h (fun k o' hk => by simpa using hk) (fun o ho => List.all_eq_true.1 hd o ho) (fun b hb => by
    cases hm : lget mem b with
    | none => rfl
    | some k => have := hI.m.nx b k hm; have h2 : nx + 4 * 0 ≤ b := hb; have h3 : b < nx := this; omega)
  subst hn
  have h2 := h' r W0 S F0 D E a W (fun e a' W' => ∃ E' s', E.lep p E' ∧ Inv ⟨W0, S, p, F0, N, D⟩ E' s' a' W' ∧ Q e s') (Inv.more hI (Nat.le_add_right _ _)) (by show nx + 4 * (0 + l.length) ≤ nx + 4 * l.length; omega) fun E' a' W' s' hE hI' hq => ⟨E', s'.st, hE.lep, hI', hq⟩
  refine wpIn_region ?_
  rw [List.size_toArray, List.range_eq_range']
  exact h2
theorem AWP.rgD (nx' : Nat) (masks : List Nat) (kl : Kl) (hm : P.follows .mixedOrders = true) (hok : okDraw l.toArray masks kl = true) (hn : nx + 4 * l.length = nx') (hd : l.all (fun o => dstOK N o.dst) = true) (h : RunC ⟨P, N, p, l.toArray, nx, some masks, kl⟩ 0 l ⟨tm, mem, nx'⟩ fun s' => Q .normal s'.st) : AWP P r ⟨W0, S, p, F0, N, D⟩ (.region id l.toArray true) (LS.mk tm mem nx).st Q := fun E a W hI => by
  obtain ⟨s', r1, r2⟩ := h (fun k o' hk => by simpa using hk) (fun o ho => List.all_eq_true.1 hd o ho) (fun b hb => by
    cases hm : lget mem b with
    | none => rfl
    | some k => have := hI.m.nx b k hm; have h2 : nx + 4 * 0 ≤ b := hb; have h3 : b < nx := this; omega)
  subst hn
  refine AWP.draw (P := P) (r := r) (s' := s'.st) hm hok ?_ r2 E a W hI
  rw [List.size_toArray]
  rw [← List.range_eq_range'] at r1
  exact r1
theorem AWP.sq {C : Cx} {s : St} (h : AWP P r C x s (thn (fun s' => AWP P r C y s' Q) Q)) : AWP P r C (.seq x y) s Q := AWP.seq h
theorem AWP.cd {C : Cx} {α : Type} {v : Operand} {b : Bool} {A B : Option α} {R : α} (hR : (if b = true then A else B) = some R) (hx : (LS.mk tm mem nx).ev v = .sc (.bool b)) (ht : b = true → A = some R → AWP P r C x (LS.mk tm mem nx).st Q) (hf : b = false → B = some R → AWP P r C y (LS.mk tm mem nx).st Q) : AWP P r C (.cond v x y) (LS.mk tm mem nx).st Q :=
  AWP.cond (by rw [LS.st_ev]; exact hx) (fun e => ht e (by rw [if_pos e] at hR; exact hR)) (fun e => hf e (by rw [if_neg (by rw [e]; decide)] at hR; exact hR))
/-- A test whose outcome is known. -/
theorem AWP.cdT {C : Cx} {v : Operand} (hx : (LS.mk tm mem nx).ev v = .sc (.bool true)) (ht : AWP P r C x (LS.mk tm mem nx).st Q) : AWP P r C (.cond v x y) (LS.mk tm mem nx).st Q :=
  AWP.cond (by rw [LS.st_ev]; exact hx) (fun _ => ht) (fun e => by cases e)
theorem AWP.cdF {C : Cx} {v : Operand} (hx : (LS.mk tm mem nx).ev v = .sc (.bool false)) (hf : AWP P r C y (LS.mk tm mem nx).st Q) : AWP P r C (.cond v x y) (LS.mk tm mem nx).st Q :=
  AWP.cond (by rw [LS.st_ev]; exact hx) (fun e => by cases e) (fun _ => hf)
theorem bindE' {α β : Type} {x : Option α} {f : α → Option β} {r : β} (h : x.bind f = some r) : ∃ y, x = some y ∧ f y = some r := bindE h
theorem AWP.loopX {C : Cx} {s : St} {A O R' : Type} (st : A → LS) (body : A → Option (Step A O)) {k : O → Option R'} {R : R'} {s0 : A} (hR : (loopF body s0).bind k = some R) (hw : Weak C s (st s0).st)
    (round : ∀ s1 out, body s1 = some out → (∀ o, out = .done o → k o = some R) → AWP P r C x (st s1).st (thn (fun s' => ∃ s2, out = .next s2 ∧ Weak C s' (st s2).st) Q)) : AWP P r C (.loop x) s Q := by
  obtain ⟨o, ho, hk⟩ := bindE hR
  refine AWP.loopW (fun q : Nat × A => st q.2) (fun q => iterF body q.1 q.2 = some o) (fun q => q.1) (_, s0) ho hw ?_
  rintro ⟨n, s1⟩ hn
  cases n with
  | zero => cases hn
  | succ n =>
    simp only [iterF] at hn
    cases hb : body s1 with
    | none => rw [hb] at hn; cases hn
    | some out =>
      rw [hb] at hn
      refine (round s1 out hb fun o' e => ?_).mono fun e s' he => ?_
      · subst e; cases hn; exact hk
      · cases e with
        | normal =>
          obtain ⟨s2, rfl, h2⟩ := he
          exact ⟨(n, s2), hn, Nat.lt_succ_self _, h2⟩
        | _ => exact he
theorem AWP.loopS {C : Cx} {s : St} {A X R' : Type} (st : A → LS) (body : A → Option (Step A (Step X R'))) {k : X → Option R'} {R : R'} {s0 : A} (hR : seqF (loopF body s0) k = some R) (hw : Weak C s (st s0).st)
    (round : ∀ s1 out, body s1 = some out → (∀ o, out = .done (.next o) → k o = some R) → (∀ o, out = .done (.done o) → o = R) → AWP P r C x (st s1).st (thn (fun s' => ∃ s2, out = .next s2 ∧ Weak C s' (st s2).st) Q)) : AWP P r C (.loop x) s Q := by
  obtain ⟨y, hy, h1, h2⟩ := seqE hR
  refine AWP.loopX st body (k := fun o => match o with | .next x => k x | .done l => some l) (R := R) (s0 := s0) ?_ hw fun s1 out hb hd => round s1 out hb (fun o e => hd _ e) (fun o e => Option.some.inj (hd _ e))
  rw [hy]
  cases y with
  | next x => exact h1 x rfl
  | done l => exact congrArg some (h2 l rfl)
/-- Ways that meet again. -/
theorem AWP.joinX {C : Cx} {s : St} {X R' : Type} (st : X → LS) {G : Option X} {k : X → Option R'} {R : R'} (hR : G.bind k = some R) (hx : ∀ z, G = some z → AWP P r C x s (thn (fun s' => Weak C s' (st z).st) Q)) (hy : ∀ z, k z = some R → AWP P r C y (st z).st Q) : AWP P r C (.seq x y) s Q := by
  obtain ⟨z, hz, hk⟩ := bindE hR
  refine AWP.seq ((hx z hz).mono fun e s' he => ?_)
  cases e with
  | normal => exact AWP.weaken he (hy z hk)
  | _ => exact he
theorem AWP.joinS {C : Cx} {s : St} {X R' : Type} (st : X → LS) {G : Option (Step X R')} {k : X → Option R'} {R : R'} (hR : seqF G k = some R) (hx : ∀ out, G = some out → (∀ o, out = .done o → o = R) → AWP P r C x s (thn (fun s' => ∃ z, out = .next z ∧ Weak C s' (st z).st) Q)) (hy : ∀ z, k z = some R → AWP P r C y (st z).st Q) : AWP P r C (.seq x y) s Q := by
  obtain ⟨out, ho, h1, h2⟩ := seqE hR
  refine AWP.seq ((hx out ho h2).mono fun e s' he => ?_)
  cases e with
  | normal => obtain ⟨z, g1, g2⟩ := he; exact AWP.weaken g2 (hy z (h1 z g1))
  | _ => exact he
end

/-! ### functions -/
section
variable {P : Program} {tm : List (Nat × V)} {mem : List (Nat × Blk)} {nx : Nat}
theorem rvT {t : Tmp} {v : V} (h : (LS.mk tm mem nx).slot t = v) : resV P (LS.mk tm mem nx).st (.tmp t) = some v := by subst h; rfl
theorem rvC {a : Tmp} {t : TypeId} {ti : TI} {b o : Nat} {cs : List V} {v : V} (hx : (LS.mk tm mem nx).slot a = .ptr b 0 o) (hm : lget mem b = some (.box cs)) (hti : tiOf P t = some ti) (hl : loadV ti (cs.drop o) = some v) : resV P (LS.mk tm mem nx).st (.cell a t) = some v := by
  have : fxLoad P t (.ptr b 0 o) (lget mem) = some ⟨v, none⟩ := by simp only [fxLoad, hti, hm, Blk.hasVer, beq_self_eq_true, if_true, Blk.cells, hl]; rfl
  show (fxLoad P t ((LS.mk tm mem nx).slot a) (lget mem)).map (·.val) = _
  rw [hx, this]; rfl
theorem ro0 {s : St} : resOf P s [] = some (.tup []) := rfl
theorem ro1 {s : St} {a : ResultVar} {v : V} (h : resV P s a = some v) : resOf P s [a] = some v := by simp [resOf, resVs, h]
theorem ro2 {s : St} {a b : ResultVar} {v w : V} (h : resV P s a = some v) (k : resV P s b = some w) : resOf P s [a, b] = some (.tup [v, w]) := by simp [resOf, resVs, h, k]
theorem ro3 {s : St} {a b c : ResultVar} {v w u : V} (h : resV P s a = some v) (k : resV P s b = some w) (m : resV P s c = some u) : resOf P s [a, b, c] = some (.tup [v, w, u]) := by simp [resOf, resVs, h, k, m]
theorem ro4 {s : St} {a b c d : ResultVar} {v w u z : V} (h : resV P s a = some v) (k : resV P s b = some w) (m : resV P s c = some u) (q : resV P s d = some z) : resOf P s [a, b, c, d] = some (.tup [v, w, u, z]) := by simp [resOf, resVs, h, k, m, q]
/-- What a function's end owes. -/
def RetX (P : Program) (C : Cx) (fn : Func) (p : Nat) (R : V) (bs' : List Blk) (Q : Exit → St → Prop) : Prop := ∀ e (s0 : St) (s : LS) (v : V) (ex : List Nat), (e = .normal ∨ e = .ret) → Weak C s0 s.st → resOf P s.st fn.results.toList = some v → nodupB ex = true → (ex.all fun b => decide (p ≤ b)) = true →
  Lend (retHow (lget s.mem) (outL (lget s.mem) p ex) (outIds p ex) (p + ex.length)) v R → PassB (retHow (lget s.mem) (outL (lget s.mem) p ex) (outIds p ex) (p + ex.length)) s.mem (List.range p ++ ex) bs' → Q e s0
theorem AWP.monoW {P : Program} {r : Option Nat} {C : Cx} {c : Code} {s : St} {Q : Exit → St → Prop} (h : AWP P r C c s fun e s' => ∃ s2, Weak C s' s2 ∧ Q e s2) : AWP P r C c s Q := fun E a W hI =>
  wpIn_mono (h E a W hI) fun e a' W' ⟨E', s', h1, h2, s2, h3, h4⟩ => let ⟨E2, g1, g2⟩ := h3 E' a' W' h2; ⟨E2, s2, Env.lep_trans h1 g1, g2, h4⟩
theorem FnX.walk {P : Program} {f : FuncId} {fn : Func} {c : Code} {bs bs' : List Blk} {args : List V} {res : V} (hf : P.funcs[f]? = some fn) (hb : fn.body = some c) (N p : Nat) (hN : args.length + (fn.ntmps - args.length) = N) (hp : bs.length = p)
    (h : ∀ (W : World) (S : Nat → Prop) (F : Nat → Nat → Option Value) (Q : Exit → St → Prop), RetX P ⟨W, S, p, F, N, []⟩ fn p res bs' Q →
      AWP P none ⟨W, S, p, F, N, []⟩ c (⟨largs 0 args, lblks 0 bs, p⟩ : LS).st Q) : FnD P f bs args res bs' := by
  unfold FnD
  subst hp
  refine FnM.of_awp hf hb (fun b k hk => (List.getElem?_eq_some_iff.1 hk).1) fun W S F => ?_
  have := AWP.monoW <| h W S F (fun e s0 => ∃ s, Weak ⟨W, S, bs.length, F, N, []⟩ s0 s ∧ (e = .normal ∨ e = .ret) ∧ ∃ v res_1 m', resOf P s fn.results.toList = some v ∧ Leaves bs.length s v res_1 m' ∧ res_1 = res ∧ m' = fun j => bs'[j]?) fun e s0 s v ex he hwk hv x1 x2 hl hpb => by
    have hex : ∀ b ∈ ex, bs.length ≤ b := by simpa using x2
    have hnd := nodupB_ok _ x1
    refine ⟨s.st, hwk, he, v, res, _, hv, ⟨outL (lget s.mem) bs.length ex, outIds bs.length ex, bs.length + ex.length, by omega, fun b hb => ?_, fun j hj => by simp [outIds, hj], fun j h1 h2 => ?_, fun i j hi hj e => ?_, fun j hj => ?_, fun j hj => ?_, fun j hj => ?_, hl⟩, rfl, rfl⟩
    · unfold outL at hb; simp only [Bool.and_eq_true, decide_eq_true_eq] at hb; exact hb.1.2
    · have hlt : j - bs.length < ex.length := by omega
      simp only [outIds, if_neg (Nat.not_lt.2 h1), List.getD_eq_getElem?_getD, List.getElem?_eq_getElem hlt, Option.getD_some]
      exact hex _ (List.getElem_mem hlt)
    · unfold outIds at e
      split at e <;> split at e
      · exact e
      · rename_i g1 g2
        have hlt : j - bs.length < ex.length := by omega
        simp only [List.getD_eq_getElem?_getD, List.getElem?_eq_getElem hlt, Option.getD_some] at e
        have := hex _ (List.getElem_mem hlt); omega
      · rename_i g1 g2
        have hlt : i - bs.length < ex.length := by omega
        simp only [List.getD_eq_getElem?_getD, List.getElem?_eq_getElem hlt, Option.getD_some] at e
        have := hex _ (List.getElem_mem hlt); omega
      · have hlt : j - bs.length < ex.length := by omega
        have hlt' : i - bs.length < ex.length := by omega
        simp only [List.getD_eq_getElem?_getD, List.getElem?_eq_getElem hlt, List.getElem?_eq_getElem hlt', Option.getD_some] at e
        have := nodup_inj hnd e; omega
    · unfold outL outIds
      split
      · rename_i g; simp; intro _ h; omega
      · rename_i g
        have hlt : j - bs.length < ex.length := by omega
        simp only [List.getD_eq_getElem?_getD, List.getElem?_eq_getElem hlt, Option.getD_some]
        simp
    · have hlen : (List.range bs.length ++ ex)[j]? = some (outIds bs.length ex j) := by
        unfold outIds
        rcases Nat.lt_or_ge j bs.length with g | g
        · rw [List.getElem?_append_left (by simpa using g), if_pos g]; simp [g]
        · rw [List.getElem?_append_right (by simpa using g), if_neg (by omega)]
          simp only [List.length_range]
          have hlt : j - bs.length < ex.length := by omega
          simp [hlt]
      have hlb := hpb.len
      have hlt : j < bs'.length := by rw [hlb]; simp; omega
      obtain ⟨k, k1, k2⟩ := hpb.get j bs'[j] (by simp [hlt])
      rw [List.getD_eq_getElem?_getD, hlen, Option.getD_some] at k1
      exact ⟨k, bs'[j], k1, by simp [hlt], k2⟩
    · have hlb := hpb.len
      simp at hlb
      simp; omega
  have e : (⟨largs 0 args, lblks 0 bs, bs.length⟩ : LS).st = ⟨argsT args, fun j => bs[j]?, bs.length⟩ := by
    rw [← argsT_st]
    have : lget (lblks 0 bs) = fun j => bs[j]? := by
      funext j
      rw [lget_lblks]; simp
    rw [this]
  rw [e] at this
  rw [show (⟨W, S, bs.length, F, args.length + (fn.ntmps - args.length), []⟩ : Cx) = ⟨W, S, bs.length, F, N, []⟩ by rw [hN]]
  exact this
end
end Go.Abs
