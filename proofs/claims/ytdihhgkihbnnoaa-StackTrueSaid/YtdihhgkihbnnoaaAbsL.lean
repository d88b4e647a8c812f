/- Laws about heaps and calls that the walks use. Conditions: as each theorem states them. -/
import Derived.Test.YtdihhgkihbnnoaaAbsK
import Derived.OrdersIn
namespace Go.Abs
set_option linter.unusedVariables false
set_option linter.unusedSimpArgs false

/-! ### one operation -/
structure Eff where
  val : V
  ups : List (Nat × Blk)
def upds (mem : Nat → Option Blk) (l : List (Nat × Blk)) : Nat → Option Blk := l.foldl (fun m p => upd m p.1 (some p.2)) mem
def putT (tm : Nat → V) (dst : Option Tmp) (v : V) : Nat → V :=
  match dst with
  | some d => upd tm d v
  | none => tm
def St.app (s : St) (o : Oper) (e : Eff) : St := { tm := putT s.tm o.dst e.val, mem := upds s.mem e.ups, nx := s.nx }

def gdst (ops : Array Oper) (o : Oper) : Option Tmp := o.guard.bind fun g => (ops[g.1]?).bind (·.dst)
def wantedV (ops : Array Oper) (s : St) (o : Oper) : Option Bool :=
  match o.guard with
  | none => some true
  | some (j, w) => match (ops[j]?).bind (·.dst) with
    | some d => match s.tm d with
      | .sc (.bool b) => some (b == w)
      | .tup [] => some false
      | _ => none
    | none => some false

def callHow (mem : Nat → Option Blk) (ks : List Nat) : How := ⟨mem, fun b => ks.contains b, id, 0, fun _ => false, false⟩
def callable (P : Program) (f : FuncId) : Bool := match P.funcs[f]? with
  | some fn => !(fn.name == "runtime.NumGoroutine") && fn.body.isSome
  | none => false
def pos4 (id : Nat) : Nat → Prop := fun b => id ≤ b ∧ b < id + 4

/-- Operations that only compute, whose meaning may be told by hand. -/
def rawOp : Op → Bool
  | .binOp .. | .unOp .. | .convert .. => true
  | .call { callee := .value _, .. } => true
  | _ => false
inductive Act1 (P : Program) (N p : Nat) (ops : Array Oper) (id : Nat) (o : Oper) (s : St) : Eff → List Nat → Bool → Prop
  | op {fx : Fx} : wantedV ops s o = some true → opFx P o.op s.ev s.mem id = some fx → s.mem id = none → Act1 P N p ops id o s ⟨fx.val, fx.up.toList⟩ (opTouch o.op s.ev) (wrOp o.op)
  | skip : wantedV ops s o = some false → Act1 P N p ops id o s ⟨.tup [], []⟩ [] false
  | raw {v : V} : wantedV ops s o = some true → rawOp o.op = true → (∀ (ρ : Operand → Value) (E : Env) (W : World), (∀ x ∈ o.op.operands, RL E (s.ev x) (ρ x)) → ∃ c, (execOp ρ o).run P W = .ok (.value c) W ∧ RL E v c) → Act1 P N p ops id o s ⟨v, []⟩ [] false
  | call {f : Operand} {args : Array Operand} {ts : Array TypeId} {fid : FuncId} {caps args' : List V} {ks : List Nat} {res : V} :
      wantedV ops s o = some true → o.op = .call { callee := .value f, args, argTypes := ts } → s.ev f = .fn (.func fid) caps →
      Lends (callHow s.mem ks) (args.toList.map s.ev ++ caps) args' → callable P fid = true → FnP P fid args' res → (V.fresh res = true ∨ ks = []) → Act1 P N p ops id o s ⟨res, []⟩ ks false
  | share {f : Operand} {args : Array Operand} {ts : Array TypeId} {fid : FuncId} {caps args' : List V} {ks : List Nat} {res : V} :
      wantedV ops s o = some true → o.op = .call { callee := .value f, args, argTypes := ts } → s.ev f = .fn (.func fid) caps →
      Lends (callHow s.mem ks) (args.toList.map s.ev ++ caps) args' → callable P fid = true → FnP P fid args' res → (∀ b ∈ ks, p ≤ b ∧ (s.mem b).isSome = true) → Act1 P N p ops id o s ⟨res, ks.map (·, .dead)⟩ ks true
  | pass {f : Operand} {args : Array Operand} {ts : Array TypeId} {fid : FuncId} {caps args' : List V} {bs : List Nat} {m m' : List Blk} {res : V} :
      wantedV ops s o = some true → o.op = .call { callee := .value f, args, argTypes := ts } → s.ev f = .fn (.func fid) caps →
      Lends (passHow s.mem bs) (args.toList.map s.ev ++ caps) args' → callable P fid = true → FnD P fid m args' res m' → bs.Nodup → (∀ b ∈ bs, (s.mem b).isSome = true) → s.mem id = none → ((∀ b ∈ bs, b < p) ∨ ∀ b ∈ bs, p ≤ b) →
      m.length = bs.length → bs.length ≤ m'.length → m'.length ≤ bs.length + 1 → (∀ j k', m[j]? = some k' → ∃ k, s.mem (bs.getD j 0) = some k ∧ BLend (passHow s.mem bs) k k') →
      Act1 P N p ops id o s ⟨res.ren (passIds bs id), passUps (passIds bs id) 0 m'⟩ bs true

theorem upds_nil (m : Nat → Option Blk) : upds m [] = m := rfl
theorem upds_cons (m : Nat → Option Blk) (x : Nat × Blk) (l : List (Nat × Blk)) : upds m (x :: l) = upds (upd m x.1 (some x.2)) l := rfl
theorem upds_other : ∀ (l : List (Nat × Blk)) (m : Nat → Option Blk) (b : Nat), (∀ x ∈ l, x.1 ≠ b) → upds m l b = m b
  | [], m, b, h => rfl
  | x :: l, m, b, h => by
    rw [upds_cons, upds_other l _ b (fun y hy => h y (List.mem_cons_of_mem _ hy))]
    unfold upd
    rw [if_neg (fun e => h x List.mem_cons_self e.symm)]
theorem upds_kill : ∀ (ks : List Nat) (m : Nat → Option Blk) , (∀ b ∈ ks, (m b).isSome = true) → upds m (ks.map (·, Blk.dead)) = killed (fun b => ks.contains b) m
  | [], m, h => by funext b; simp [upds, killed]
  | k :: ks, m, h => by
    rw [List.map_cons, upds_cons]
    have h1 : ∀ b ∈ ks, ((upd m k (some Blk.dead)) b).isSome = true := fun b hb => by
      unfold upd; split
      · rfl
      · exact h b (List.mem_cons_of_mem _ hb)
    rw [upds_kill ks _ h1]
    have hk := h k List.mem_cons_self
    funext b
    unfold killed upd
    by_cases hbk : b = k
    · subst hbk
      cases hm : m b with
      | none => rw [hm] at hk; cases hk
      | some x => simp
    · by_cases hb : b ∈ ks
      · simp [hb, hbk]
      · simp [hb, hbk]

section
variable {P : Program} {C : Cx} {E : Env} {W : World} {s : St} {a : Act}

theorem Inv.put {E' : Env} {W' : World} {o : Oper} {e : Eff} {c : Value} (h : Inv C E s a W) (hd : ∀ d, o.dst = some d → d < C.N) (hE : E.le E') (hm : InvM C E' (upds s.mem e.ups) s.nx W') (hc : RL E' e.val c) :
    Inv C E' (s.app o e) (a.put o.dst c) W' where
  m := hm
  tms := by
    intro t
    unfold St.app putT Act.put
    cases hdst : o.dst with
    | none => exact RL.mono hE _ _ (h.tms t)
    | some d =>
      simp only []
      unfold upd
      have hlt := hd d hdst
      by_cases ht : t = d
      · subst ht
        rw [if_pos rfl]
        have : (a.tmps.setIfInBounds t c).getD t undef = c := by
          rw [← h.size] at hlt
          simp [Array.getD, hlt]
        rw [this]; exact hc
      · rw [if_neg ht]
        have : (a.tmps.setIfInBounds d c).getD t undef = a.tmps.getD t undef := by
          simp only [Array.getD_eq_getD_getElem?, Array.getElem?_setIfInBounds]
          rw [if_neg (fun e => ht e.symm)]
        rw [this]; exact RL.mono hE _ _ (h.tms t)
  size := by
    unfold Act.put
    cases o.dst with
    | none => exact h.size
    | some d => simp [h.size]
  defs := by
    unfold Act.put
    cases o.dst <;> exact h.defs

theorem wanted_ok {ops : Array Oper} {o : Oper} {w : Bool} (h : Inv C E s a W) (hw : wantedV ops s o = some w) : Region.wanted o (yielded ops a.tmps) = w := by
  unfold wantedV at hw
  unfold Region.wanted
  cases hg : o.guard with
  | none => rw [hg] at hw; simp at hw; simp [hw]
  | some g =>
    obtain ⟨j, want⟩ := g
    rw [hg] at hw
    simp only [] at hw ⊢
    unfold yielded
    cases hd : (ops[j]?).bind (·.dst) with
    | none => rw [hd] at hw; simp at hw; simp [hw]
    | some d =>
      rw [hd] at hw
      simp only [] at hw
      have ht := h.tms d
      simp only [Option.bind_some]
      split at hw
      · rename_i b hb
        rw [hb] at ht
        simp only [RL] at ht
        have : a.tmps[d]? = some (.bool b) := by
          simp only [Array.getD_eq_getD_getElem?] at ht
          cases hx : a.tmps[d]? with
          | none => rw [hx] at ht; cases ht
          | some x => rw [hx] at ht; simp at ht; rw [ht]
        rw [this]
        cases hw
        cases b <;> cases want <;> rfl
      · rename_i hb
        rw [hb] at ht
        simp only [RL, RLs] at ht
        obtain ⟨ds, h1, rfl⟩ := ht
        cases hw
        cases hx : a.tmps[d]? with
        | none => rfl
        | some x =>
          simp only [Array.getD_eq_getD_getElem?, hx, Option.getD_some] at h1
          subst h1
          rfl
      · cases hw

def fe (r : Option Nat) : Fence := { Fence.wide with round := r }
theorem callsIn_fe {r : Option Nat} {n : Nat} {P : Program} {f : FuncId} {args : Array Value} {w : World} {R : Ending → World → Prop} (h : Calls P f args w R) : CallsIn (fe r) n P f args w R :=
  callsIn_wide.2 h

theorem run_callFunc {f : FuncId} (h : callable P f = true) (args : Array Value) : (callFunc f args).run P W = .ok (.enter f args) W := by
  unfold callable at h
  split at h
  · rename_i fn hfn
    simp only [Bool.and_eq_true, Bool.not_eq_true'] at h
    have hb : ¬ fn.body = none := by intro hb; rw [hb] at h; simp at h
    have hn : ¬ fn.name = "runtime.NumGoroutine" := by simpa using h.1
    simp [callFunc, hfn, hn, hb]
  · cases h

theorem callHow_tg (mem : Nat → Option Blk) (ks : List Nat) (n : Nat) : ∀ x, (callHow mem ks).tg x = true → x = true ∧ n ≤ E.n0 := fun x h => by simp [callHow] at h
theorem callHow_tn (mem : Nat → Option Blk) (ks : List Nat) (n : Nat) : (callHow mem ks).tn = true → ∀ b I B, (callHow mem ks).L b = true → E.σ b = some I → I.dead = false → I.blk = some B → n ≤ B := fun h => by simp [callHow] at h

/-- An operation, in a frame that is as told: what is behind it is as told. -/
theorem Act1.ok {ops : Array Oper} {i id : Nat} {o : Oper} {e : Eff} {tch : List Nat} {w : Bool} {r : Option Nat} {n : Nat} {K : Act → World → Prop} {Q : Exit → Act → World → Prop}
    (h : Inv C E s a W) (hi : ops[i]? = some o) (hd : ∀ d, o.dst = some d → d < C.N) (hlt : id < s.nx) (ha : Act1 P C.N C.p ops id o s e tch w)
    (hK : ∀ E' a' W', E.le E' → Inv C E' (s.app o e) a' W' → K a' W') : wpOpIn (fe r) n P ops Q i K a W := by
  unfold wpOpIn
  rw [hi]
  simp only []
  cases ha with
  | op hw hfx hid =>
    rename_i fx
    rw [wanted_ok h hw]
    simp only [if_true]
    obtain ⟨nx, c, W', E', r1, r2, r3, r4, r5⟩ := opFx_ok (P := P) h o hid hlt hfx
    have hdef : ∀ c, o.op ≠ .defer c := fun c hc => by rw [hc] at hfx; simp [opFx] at hfx
    refine ⟨fun _ _ => trivial, ?_⟩
    rw [Oper.semAt_eq _ _ _ hdef, r1]
    have hmem : InvM C E' (upds s.mem (Eff.mk fx.val fx.up.toList).ups) s.nx W' := by
      have : upds s.mem fx.up.toList = fx.mem s.mem := by
        unfold Fx.mem
        cases fx.up with
        | none => rfl
        | some x => rfl
      rw [this]; exact r4
    have key := hK E' (a.put o.dst c) W' r3 (h.put hd r3 hmem r5)
    rcases r2 with rfl | ⟨rfl, rfl⟩
    · exact key
    · exact key
  | skip hw =>
    rw [wanted_ok h hw]
    simp only [Bool.false_eq_true, if_false]
    exact ⟨fun _ _ => trivial, hK E _ W E.le_refl (h.put hd E.le_refl h.m (by simp only [RL, RLs]; exact ⟨[], rfl, rfl⟩))⟩
  | raw hw hro hsem =>
    rw [wanted_ok h hw]
    simp only [if_true]
    have hdef : ∀ c, o.op ≠ .defer c := fun c hc => by rw [hc] at hro; simp [rawOp] at hro
    obtain ⟨c, c1, c2⟩ := hsem a.eval E W fun x _ => h.ev x
    refine ⟨fun _ _ => trivial, ?_⟩
    rw [Oper.semAt_eq _ _ _ hdef, c1]
    exact hK E _ W E.le_refl (h.put hd E.le_refl h.m c2)
  | call hw hop hf hl hcb hfn hfr =>
    rename_i f args ts fid caps args' res0
    rw [wanted_ok h hw]
    simp only [if_true]
    have hfv := h.ev f
    rw [hf] at hfv
    simp only [RL] at hfv
    obtain ⟨cs, f1, f2⟩ := hfv
    have hargs := RLs.append (evs_ok h.ev args) f2
    have hv := Lends.ok (H := callHow s.mem tch) rfl h.m (callHow_tg _ _ _) (callHow_tn _ _ _) (n := W.heap.size) hl _ hargs
    have hcall := hfn (E.view W (callHow s.mem tch).L 0 _root_.id W.heap.size) W (fun _ => False) _ (h.m.view _) hv
    refine ⟨fun _ _ => trivial, ?_⟩
    rw [Oper.semAt_eq _ _ _ (fun c hc => by rw [hop] at hc; cases hc)]
    have hrun : (execOp a.eval o).run P W = .ok (.enter fid (args.map a.eval ++ cs.toArray)) W := by
      simp [execOp, hop, resolve, Deferred.ofValue, f1, invoke, Result.andThen, run_callFunc hcb]
    rw [hrun]
    have e1 : (args.map a.eval ++ cs.toArray) = ((args.map a.eval).toList ++ cs).toArray := by simp
    rw [e1]
    refine ⟨fun hx => (by cases hx), callsIn_fe (hcall.mono ?_)⟩
    rintro en W' ⟨c, E', res, m', nx', rfl, q1, q2, q3, rfl, rfl⟩
    rcases hfr with hfr | hfr
    · obtain ⟨E2, b1, b2, b3, b4⟩ := h.m.back q1 q2
      exact hK E2 _ W' b1 (h.put hd b1 b2 (RL.fresh b3 b4 _ _ hfr q3))
    · subst hfr
      obtain ⟨E2, b1, b2, b3⟩ := h.m.shared (L := (callHow s.mem []).L) (fun b hb => by simp [callHow] at hb) q1 q2
      have : killed (callHow s.mem []).L s.mem = s.mem := by
        funext b; simp [killed, callHow]
      rw [this] at b2
      exact hK E2 _ W' b1 (h.put hd b1 b2 (RL.mono b3 _ _ q3))
  | share hw hop hf hl hcb hfn hks =>
    rename_i f args ts fid caps args' res0
    rw [wanted_ok h hw]
    simp only [if_true]
    have hfv := h.ev f
    rw [hf] at hfv
    simp only [RL] at hfv
    obtain ⟨cs, f1, f2⟩ := hfv
    have hargs := RLs.append (evs_ok h.ev args) f2
    have hv := Lends.ok (H := callHow s.mem tch) rfl h.m (callHow_tg _ _ _) (callHow_tn _ _ _) (n := W.heap.size) hl _ hargs
    have hcall := hfn (E.view W (callHow s.mem tch).L 0 _root_.id W.heap.size) W (fun _ => False) _ (h.m.view _) hv
    refine ⟨fun _ _ => trivial, ?_⟩
    rw [Oper.semAt_eq _ _ _ (fun c hc => by rw [hop] at hc; cases hc)]
    have hrun : (execOp a.eval o).run P W = .ok (.enter fid (args.map a.eval ++ cs.toArray)) W := by
      simp [execOp, hop, resolve, Deferred.ofValue, f1, invoke, Result.andThen, run_callFunc hcb]
    rw [hrun]
    have e1 : (args.map a.eval ++ cs.toArray) = ((args.map a.eval).toList ++ cs).toArray := by simp
    rw [e1]
    refine ⟨fun hx => (by cases hx), callsIn_fe (hcall.mono ?_)⟩
    rintro en W' ⟨c, E', res, m', nx', rfl, q1, q2, q3, rfl, rfl⟩
    obtain ⟨E2, b1, b2, b3⟩ := h.m.shared (L := (callHow s.mem tch).L) (fun b hb => (hks b (by simpa [callHow] using hb)).1) q1 q2
    have hk : killed (callHow s.mem tch).L s.mem = upds s.mem (tch.map (·, Blk.dead)) := (upds_kill tch s.mem fun b hb => (hks b hb).2).symm
    rw [hk] at b2
    exact hK E2 _ W' b1 (h.put hd b1 b2 (RL.mono b3 _ _ q3))
  | pass hw hop hf hl hcb hfn hnd hsome hid hside hlen hl1 hl2 hm =>
    rename_i f args ts fid caps args' m m' res0
    rw [wanted_ok h hw]
    simp only [if_true]
    have hfv := h.ev f
    rw [hf] at hfv
    simp only [RL] at hfv
    obtain ⟨cs, f1, f2⟩ := hfv
    have hargs := RLs.append (evs_ok h.ev args) f2
    have hv := Lends.ok (H := passHow s.mem tch) rfl h.m (fun x hx => by simp [passHow] at hx) (fun hx => by simp [passHow] at hx) (n := W.heap.size) hl _ hargs
    have hcall := hfn (E.view W (fun _ => false) tch.length (fun j => tch.getD j 0) W.heap.size) W (passS E tch) _ (by rw [hlen]; exact h.m.into hnd hlen hm) hv
    refine ⟨fun _ _ => trivial, ?_⟩
    rw [Oper.semAt_eq _ _ _ (fun c hc => by rw [hop] at hc; cases hc)]
    have hrun : (execOp a.eval o).run P W = .ok (.enter fid (args.map a.eval ++ cs.toArray)) W := by
      simp [execOp, hop, resolve, Deferred.ofValue, f1, invoke, Result.andThen, run_callFunc hcb]
    rw [hrun]
    have e1 : (args.map a.eval ++ cs.toArray) = ((args.map a.eval).toList ++ cs).toArray := by simp
    rw [e1]
    refine ⟨fun hx => (by cases hx), callsIn_fe (hcall.mono ?_)⟩
    rintro en W' ⟨c, E', res, m2, nx', rfl, q1, q2, q3, rfl, rfl⟩
    rw [hlen] at q2
    obtain ⟨E2, b1, b2, b3⟩ := h.m.outof hnd hsome hid hlt hside hl1 hl2 q1 q2
    exact hK E2 _ W' b1 (h.put hd b1 b2 (b3 _ _ q3))
end
end Go.Abs
