/- Laws about heaps and calls that the walks use. Conditions: as each theorem states them. -/
import Derived.Test.YtdihhgkihbnnoaaAbsQ
namespace Go.Abs
set_option linter.unusedVariables false
set_option linter.unusedSimpArgs false

/-! ### states as lists -/
def lget {α : Type} : List (Nat × α) → Nat → Option α
  | [], _ => none
  | (a, x) :: r, k => if a = k then some x else lget r k
def lput {α : Type} : List (Nat × α) → Nat → α → List (Nat × α)
  | [], k, x => [(k, x)]
  | (a, y) :: r, k, x => if a = k then (a, x) :: r else (a, y) :: lput r k x
theorem lget_lput {α : Type} : ∀ (l : List (Nat × α)) (k : Nat) (x : α) (j : Nat), lget (lput l k x) j = if j = k then some x else lget l j
  | [], k, x, j => by simp [lput, lget, eq_comm]
  | (a, y) :: r, k, x, j => by
    unfold lput
    by_cases h : a = k
    · subst h
      simp only [if_true, lget]
      by_cases hj : a = j
      · simp [hj]
      · simp [hj, Ne.symm hj]
    · simp only [h, if_false, lget]
      by_cases hj : a = j
      · subst hj; simp [h]
      · simp only [hj, if_false]; exact lget_lput r k x j

structure LS where
  tm : List (Nat × V)
  mem : List (Nat × Blk)
  nx : Nat
def LS.slot (s : LS) (t : Nat) : V := (lget s.tm t).getD .any
def LS.st (s : LS) : St := ⟨s.slot, lget s.mem, s.nx⟩
def LS.ev (s : LS) : Operand → V
  | .tmp t => s.slot t
  | .const v => cv v
  | .global _ => .any
  | .func f => .fn (.func f) []
def lputs (m : List (Nat × Blk)) : List (Nat × Blk) → List (Nat × Blk)
  | [] => m
  | x :: l => lputs (lput m x.1 x.2) l
def LS.app (s : LS) (dst : Option Tmp) (v : V) (ups : List (Nat × Blk)) : LS :=
  { tm := match dst with | some d => lput s.tm d v | none => s.tm, mem := lputs s.mem ups, nx := s.nx }
theorem lget_lputs : ∀ (l m : List (Nat × Blk)), lget (lputs m l) = upds (lget m) l
  | [], m => rfl
  | x :: l, m => by
    unfold lputs
    rw [lget_lputs l, upds_cons]
    congr 1
    funext j
    rw [lget_lput]
    rfl
theorem LS.st_app (s : LS) (o : Oper) (e : Eff) : (s.app o.dst e.val e.ups).st = s.st.app o e := by
  unfold LS.app LS.st St.app
  congr 1
  · funext t
    unfold putT LS.slot
    cases o.dst with
    | none => rfl
    | some d =>
      simp only [lget_lput]
      unfold upd
      by_cases h : t = d
      · simp [h]
      · simp [h]
  · exact lget_lputs _ _
theorem LS.st_ev (s : LS) : s.st.ev = s.ev := by
  funext x; cases x <;> rfl

def wantedL (ops : Array Oper) (s : LS) (o : Oper) : Option Bool :=
  match o.guard with
  | none => some true
  | some (j, w) => match (ops[j]?).bind (·.dst) with
    | some d => match s.slot d with
      | .sc (.bool b) => some (b == w)
      | .tup [] => some false
      | _ => none
    | none => some false
theorem wantedL_eq (ops : Array Oper) (s : LS) (o : Oper) : wantedV ops s.st o = wantedL ops s o := rfl

def dstOK (N : Nat) : Option Tmp → Bool
  | some d => d < N
  | none => true
/-- One operation that makes no call. -/
def lstep (P : Program) (N : Nat) (ops : Array Oper) (id : Nat) (o : Oper) (s : LS) : Option LS :=
  if dstOK N o.dst = true then
    match wantedL ops s o with
    | some true => match opFx P o.op s.ev (lget s.mem) id with
      | some fx => if (lget s.mem id).isNone then some (s.app o.dst fx.val fx.up.toList) else none
      | none => none
    | some false => some (s.app o.dst (.tup []) [])
    | none => none
  else none
def tchk (kl : Kl) (i : Nat) : List Nat → Bool
  | [] => true
  | t => match kl.at i with
    | some l => t.all fun b => l.contains b
    | none => true
theorem tchk_nil (kl : Kl) (i : Nat) : tchk kl i [] = true := rfl
theorem tchk_ok {kl : Kl} {i : Nat} {t : List Nat} (h : tchk kl i t = true) : ∀ l, kl.at i = some l → ∀ b ∈ t, b ∈ l := by
  intro l hl b hb
  unfold tchk at h
  split at h
  · cases hb
  · rw [hl] at h
    simp only [List.all_eq_true] at h
    simpa using h b hb
def lchk (base : Nat) (masks : Option (List Nat)) (kl : Kl) (i : Nat) (t : List Nat) : Bool :=
  match masks with
  | none => true
  | some ms => (t.all fun b => b < base || (ms.getD i 0).testBit ((b - base) / 4)) && tchk kl i t

inductive RunL (P : Program) (N p : Nat) (ops : Array Oper) (base : Nat) (masks : Option (List Nat)) (kl : Kl) : List Nat → LS → LS → Prop
  | nil {s : LS} : RunL P N p ops base masks kl [] s s
  | op {i : Nat} {l : List Nat} {s s1 s' : LS} {o : Oper} : ops[i]? = some o → lstep P N ops (base + 4 * i) o s = some s1 → lchk base masks kl i (opTouch o.op s.ev) = true → RunL P N p ops base masks kl l s1 s' → RunL P N p ops base masks kl (i :: l) s s'
  | call {i : Nat} {l : List Nat} {s s' : LS} {o : Oper} {f : Operand} {args : Array Operand} {ts : Array TypeId} {fid : FuncId} {caps args' : List V} {ks : List Nat} {res : V} :
      ops[i]? = some o → dstOK N o.dst = true → wantedL ops s o = some true → o.op = .call { callee := .value f, args, argTypes := ts } → s.ev f = .fn (.func fid) caps →
      Lends (callHow (lget s.mem) ks) (args.toList.map s.ev ++ caps) args' → callable P fid = true → FnP P fid args' res → (V.fresh res = true ∨ ks = []) → lchk base masks kl i ks = true →
      RunL P N p ops base masks kl l (s.app o.dst res []) s' → RunL P N p ops base masks kl (i :: l) s s'
  | share {i : Nat} {l : List Nat} {s s' : LS} {o : Oper} {f : Operand} {args : Array Operand} {ts : Array TypeId} {fid : FuncId} {caps args' : List V} {ks : List Nat} {res : V} :
      ops[i]? = some o → dstOK N o.dst = true → wantedL ops s o = some true → o.op = .call { callee := .value f, args, argTypes := ts } → s.ev f = .fn (.func fid) caps →
      Lends (callHow (lget s.mem) ks) (args.toList.map s.ev ++ caps) args' → callable P fid = true → FnP P fid args' res → (ks.all fun b => decide (p ≤ b) && (lget s.mem b).isSome) = true → (masks.isNone || kl.contains i) = true → lchk base masks kl i ks = true →
      RunL P N p ops base masks kl l (s.app o.dst res (ks.map (·, .dead))) s' → RunL P N p ops base masks kl (i :: l) s s'
  | pass {i : Nat} {l : List Nat} {s s' : LS} {o : Oper} {f : Operand} {args : Array Operand} {ts : Array TypeId} {fid : FuncId} {caps args' : List V} {bs : List Nat} {m m' : List Blk} {res : V} :
      ops[i]? = some o → dstOK N o.dst = true → wantedL ops s o = some true → o.op = .call { callee := .value f, args, argTypes := ts } → s.ev f = .fn (.func fid) caps →
      Lends (passHow (lget s.mem) bs) (args.toList.map s.ev ++ caps) args' → callable P fid = true → FnD P fid m args' res m' → bs.Nodup → (∀ b ∈ bs, (lget s.mem b).isSome = true) → lget s.mem (base + 4 * i) = none → ((∀ b ∈ bs, b < p) ∨ ∀ b ∈ bs, p ≤ b) →
      m.length = bs.length → bs.length ≤ m'.length → m'.length ≤ bs.length + 1 → (∀ j k', m[j]? = some k' → ∃ k, lget s.mem (bs.getD j 0) = some k ∧ BLend (passHow (lget s.mem) bs) k k') → (masks.isNone || kl.contains i) = true → lchk base masks kl i bs = true →
      RunL P N p ops base masks kl l (s.app o.dst (res.ren (passIds bs (base + 4 * i))) (passUps (passIds bs (base + 4 * i)) 0 m')) s' → RunL P N p ops base masks kl (i :: l) s s'

section
variable {P : Program} {N p : Nat} {ops : Array Oper} {base : Nat} {masks : Option (List Nat)} {kl : Kl}
def chkL (ops : Array Oper) (base : Nat) (masks : Option (List Nat)) (kl : Kl) : Nat → List Nat → Bool → Prop :=
  match masks with
  | none => chk0
  | some ms => chkD ops base ms kl
theorem chkL_of {i : Nat} {o : Oper} {t : List Nat} {w : Bool} (ho : ops[i]? = some o) (h : lchk base masks kl i t = true) (hw : w = true → wrOp o.op = true ∨ (masks.isNone || kl.contains i) = true) : chkL ops base masks kl i t w := by
  unfold chkL
  unfold lchk at h
  cases masks with
  | none => trivial
  | some ms =>
    simp only [Bool.and_eq_true] at h
    refine ⟨fun b hb => ?_, fun e => ⟨o, ho, ?_⟩, tchk_ok h.2⟩
    · have h := h.1
      simp only [List.all_eq_true, Bool.or_eq_true, decide_eq_true_eq] at h
      exact h b hb
    · unfold wrS
      rcases hw e with h | h
      · simp [h]
      · simp only [Option.isNone_some, Bool.false_or] at h; rw [h]; simp
theorem dst_lt {o : Oper} (h : dstOK N o.dst = true) : ∀ d, o.dst = some d → d < N := by
  intro d hd; rw [hd] at h; simpa [dstOK] using h

theorem RunL.run : ∀ {l : List Nat} {s s' : LS}, RunL P N p ops base masks kl l s s' → Run P N p ops base (chkL ops base masks kl) l s.st s'.st
  | _, _, _, .nil => .nil
  | _, _, _, .op (s := s) (o := o) ho hs hc hr => by
    have ih := RunL.run hr
    unfold lstep at hs
    split at hs
    · rename_i hd
      split at hs
      · rename_i hw
        split at hs
        · rename_i fx hfx
          split at hs
          · rename_i hn
            cases hs
            rw [show s.app o.dst fx.val fx.up.toList = s.app o.dst (Eff.mk fx.val fx.up.toList).val (Eff.mk fx.val fx.up.toList).ups from rfl, LS.st_app] at ih
            refine .cons ho (dst_lt hd) (.op (fx := fx) (by rw [wantedL_eq]; exact hw) (by rw [LS.st_ev]; exact hfx) (by have hn' : lget s.mem _ = none := Option.isNone_iff_eq_none.1 hn; exact hn')) ?_ ih
            rw [LS.st_ev]
            exact chkL_of ho hc .inl
          · cases hs
        · cases hs
      · rename_i hw
        cases hs
        rw [show s.app o.dst (.tup []) [] = s.app o.dst (Eff.mk (.tup []) []).val (Eff.mk (.tup []) []).ups from rfl, LS.st_app] at ih
        exact .cons ho (dst_lt hd) (.skip (by rw [wantedL_eq]; exact hw)) (chkL_of (masks := masks) ho (by unfold lchk; split <;> simp [tchk]) (fun e => by cases e)) ih
      · cases hs
    · cases hs
  | _, _, _, .call (s := s) (o := o) (res := res) ho hd hw hop hf hl hcb hfn hfr hc hr => by
    have ih := RunL.run hr
    rw [show s.app o.dst res [] = s.app o.dst (Eff.mk res []).val (Eff.mk res []).ups from rfl, LS.st_app] at ih
    exact .cons ho (dst_lt hd) (.call (by rw [wantedL_eq]; exact hw) hop (by rw [LS.st_ev]; exact hf) (by rw [LS.st_ev]; exact hl) hcb hfn hfr) (chkL_of ho hc (fun e => by cases e)) ih
  | _, _, _, .share (s := s) (o := o) (res := res) (ks := ks) ho hd hw hop hf hl hcb hfn hks hkl hc hr => by
    have ih := RunL.run hr
    rw [show s.app o.dst res (ks.map (·, .dead)) = s.app o.dst (Eff.mk res (ks.map (·, .dead))).val (Eff.mk res (ks.map (·, .dead))).ups from rfl, LS.st_app] at ih
    refine .cons ho (dst_lt hd) (.share (by rw [wantedL_eq]; exact hw) hop (by rw [LS.st_ev]; exact hf) (by rw [LS.st_ev]; exact hl) hcb hfn (fun b hb => ?_)) (chkL_of ho hc (fun _ => .inr hkl)) ih
    rw [List.all_eq_true] at hks
    have := hks b hb
    simp only [Bool.and_eq_true, decide_eq_true_eq] at this
    exact this
  | _, _, _, .pass (i := i) (s := s) (o := o) (bs := bs) (m' := m') (res := res) ho hd hw hop hf hl hcb hfn h7 h8 h9 h10 h11 h12 h13 h14 hkl hc hr => by
    have ih := RunL.run hr
    rw [show s.app o.dst (res.ren (passIds bs (base + 4 * i))) (passUps (passIds bs (base + 4 * i)) 0 m') = s.app o.dst (Eff.mk (res.ren (passIds bs (base + 4 * i))) (passUps (passIds bs (base + 4 * i)) 0 m')).val (Eff.mk (res.ren (passIds bs (base + 4 * i))) (passUps (passIds bs (base + 4 * i)) 0 m')).ups from rfl, LS.st_app] at ih
    exact .cons ho (dst_lt hd) (.pass (by rw [wantedL_eq]; exact hw) hop (by rw [LS.st_ev]; exact hf) (by rw [LS.st_ev]; exact hl) hcb hfn h7 h8 h9 h10 h11 h12 h13 h14) (chkL_of ho hc (fun _ => .inr hkl)) ih
end

section
variable {P : Program} {r : Option Nat} {C : Cx} {s s' : LS} {Q : Exit → St → Prop} {id : Nat} {l : List Oper}
theorem AWP.regionL (hr : RunL P C.N C.p l.toArray s.nx none ⟨[], []⟩ (List.range l.length) { s with nx := s.nx + 4 * l.length } s') (h : Q .normal s'.st) : AWP P r C (.region id l.toArray false) s.st Q :=
  AWP.region (s := s.st) hr.run h
theorem AWP.drawL {masks : List Nat} {kl : Kl} (hm : P.follows .mixedOrders = true) (hok : okDraw l.toArray masks kl = true) (hr : RunL P C.N C.p l.toArray s.nx (some masks) kl (List.range l.length) { s with nx := s.nx + 4 * l.length } s') (h : Q .normal s'.st) : AWP P r C (.region id l.toArray true) s.st Q :=
  AWP.draw (s := s.st) hm hok hr.run h
theorem AWP.condL {x : Operand} {c d : Code} {t : Bool} (hx : s.ev x = .sc (.bool t)) (ht : t = true → AWP P r C c s.st Q) (hf : t = false → AWP P r C d s.st Q) : AWP P r C (.cond x c d) s.st Q :=
  AWP.cond (by rw [LS.st_ev]; exact hx) ht hf
end
def largs : Nat → List V → List (Nat × V)
  | _, [] => []
  | i, v :: vs => (i, v) :: largs (i + 1) vs
theorem lget_largs : ∀ (vs : List V) (i t : Nat), lget (largs i vs) t = if t < i then none else vs[t - i]?
  | [], i, t => by simp [largs, lget]
  | v :: vs, i, t => by
    unfold largs lget
    by_cases h : i = t
    · subst h; simp
    · rw [if_neg h, lget_largs vs (i + 1) t]
      by_cases h1 : t < i
      · rw [if_pos (by omega), if_pos h1]
      · rw [if_neg (by omega), if_neg h1]
        rw [show t - i = (t - (i + 1)) + 1 by omega]
        simp
theorem argsT_st (args : List V) (m : List (Nat × Blk)) (p : Nat) : (⟨argsT args, lget m, p⟩ : St) = (⟨largs 0 args, m, p⟩ : LS).st := by
  unfold LS.st
  congr 1
  funext t
  unfold argsT LS.slot
  rw [lget_largs]
  simp
  cases args[t]? <;> rfl

/-- A function that touches nothing of ours. -/
theorem FnP.of {P : Program} {f : FuncId} {fn : Func} {c : Code} {args : List V} {res : V} (hf : P.funcs[f]? = some fn) (hb : fn.body = some c)
    (h : ∀ (W : World) (S : Nat → Prop) (F : Nat → Nat → Option Value), AWP P none ⟨W, S, 0, F, args.length + (fn.ntmps - args.length), []⟩ c (⟨largs 0 args, [], 0⟩ : LS).st
      (fun e s => (e = .normal ∨ e = .ret) ∧ ∃ v L, resOf P s fn.results.toList = some v ∧ Lend (retHow s.mem L id 0) v res)) : FnP P f args res := by
  refine FnM.of_awp hf hb (fun b k hk => by cases hk) fun W S F => ?_
  have := h W S F
  rw [← argsT_st] at this
  refine this.mono ?_
  rintro e s ⟨he, v, L, hv, hl⟩
  refine ⟨he, v, res, none', hv, ⟨L, id, 0, Nat.le_refl _, fun b _ => Nat.zero_le _, fun j hj => by omega, fun j _ hj => by omega, fun i j hi => by omega, fun j hj => by omega, fun j hj => by omega, fun j _ => rfl, hl⟩, rfl, rfl⟩
end Go.Abs
