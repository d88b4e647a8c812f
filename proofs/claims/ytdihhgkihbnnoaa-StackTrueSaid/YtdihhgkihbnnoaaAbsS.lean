/- Laws about heaps and calls that the walks use. Conditions: as each theorem states them. -/
import Derived.Test.YtdihhgkihbnnoaaAbsR
namespace Go.Abs
set_option linter.unusedVariables false
set_option linter.unusedSimpArgs false

/-! ### the walk, by rewriting -/
def RunK (P : Program) (N p : Nat) (ops : Array Oper) (base : Nat) (masks : Option (List Nat)) (kl : Kl) (i : Nat) (l : List Oper) (s : LS) (Q : LS → Prop) : Prop :=
  (∀ k o, l[k]? = some o → ops[i + k]? = some o) → ∃ s', RunL P N p ops base masks kl (List.range' i l.length) s s' ∧ Q s'
section
variable {P : Program} {N p : Nat} {ops : Array Oper} {base : Nat} {masks : Option (List Nat)} {kl : Kl} {i : Nat} {l : List Oper} {s : LS} {Q : LS → Prop} {o : Oper}
theorem RunK.nil (h : Q s) : RunK P N p ops base masks kl i [] s Q := fun _ => ⟨s, .nil, h⟩
theorem RunK.head (hl : ∀ k o', (o :: l)[k]? = some o' → ops[i + k]? = some o') : ops[i]? = some o ∧ ∀ k o', l[k]? = some o' → ops[i + 1 + k]? = some o' :=
  ⟨by simpa using hl 0 o (by simp), fun k o' hk => by have := hl (k + 1) o' (by simpa using hk); rwa [show i + (k + 1) = i + 1 + k by omega] at this⟩
theorem RunK.op (h : (lstep P N ops (base + 4 * i) o s).elim False fun s1 => lchk base masks kl i (opTouch o.op s.ev) = true ∧ RunK P N p ops base masks kl (i + 1) l s1 Q) : RunK P N p ops base masks kl i (o :: l) s Q := fun hl => by
  obtain ⟨h1, h2⟩ := RunK.head hl
  cases hs : lstep P N ops (base + 4 * i) o s with
  | none => rw [hs] at h; exact h.elim
  | some s1 =>
    rw [hs] at h
    obtain ⟨h3, h4⟩ := h
    obtain ⟨s', r1, r2⟩ := h4 h2
    exact ⟨s', .op h1 hs h3 r1, r2⟩
theorem RunK.call {f : Operand} {args : Array Operand} {ts : Array TypeId} {fid : FuncId} {caps args' : List V} (ks : List Nat) {res : V}
    (hfn : FnP P fid args' res) (hop : o.op = .call { callee := .value f, args, argTypes := ts }) (hd : dstOK N o.dst = true) (hw : wantedL ops s o = some true) (hf : s.ev f = .fn (.func fid) caps) (hcb : callable P fid = true)
    (hl : Lends (callHow (lget s.mem) ks) (args.toList.map s.ev ++ caps) args') (hfr : V.fresh res = true ∨ ks = []) (hc : lchk base masks kl i ks = true) (h : RunK P N p ops base masks kl (i + 1) l (s.app o.dst res []) Q) : RunK P N p ops base masks kl i (o :: l) s Q := fun hls => by
  obtain ⟨h1, h2⟩ := RunK.head hls
  obtain ⟨s', r1, r2⟩ := h h2
  exact ⟨s', .call h1 hd hw hop hf hl hcb hfn hfr hc r1, r2⟩
theorem RunK.share {f : Operand} {args : Array Operand} {ts : Array TypeId} {fid : FuncId} {caps args' : List V} (ks : List Nat) {res : V}
    (hfn : FnP P fid args' res) (hop : o.op = .call { callee := .value f, args, argTypes := ts }) (hd : dstOK N o.dst = true) (hw : wantedL ops s o = some true) (hf : s.ev f = .fn (.func fid) caps) (hcb : callable P fid = true)
    (hl : Lends (callHow (lget s.mem) ks) (args.toList.map s.ev ++ caps) args') (hks : (ks.all fun b => decide (p ≤ b) && (lget s.mem b).isSome) = true) (hkl : (masks.isNone || kl.contains i) = true) (hc : lchk base masks kl i ks = true)
    (h : RunK P N p ops base masks kl (i + 1) l (s.app o.dst res (ks.map (·, .dead))) Q) : RunK P N p ops base masks kl i (o :: l) s Q := fun hls => by
  obtain ⟨h1, h2⟩ := RunK.head hls
  obtain ⟨s', r1, r2⟩ := h h2
  exact ⟨s', .share h1 hd hw hop hf hl hcb hfn hks hkl hc r1, r2⟩
end
section
variable {P : Program} {r : Option Nat} {W0 : World} {S : Nat → Prop} {p : Nat} {F0 : Nat → Nat → Option Value} {N : Nat} {D : List Deferred} {s : LS} {Q : Exit → St → Prop} {id : Nat} {l : List Oper}
theorem AWP.regionK (h : RunK P N p l.toArray s.nx none ⟨[], []⟩ 0 l { s with nx := s.nx + 4 * l.length } fun s' => Q .normal s'.st) : AWP P r ⟨W0, S, p, F0, N, D⟩ (.region id l.toArray false) s.st Q := by
  obtain ⟨s', h1, h2⟩ := h (fun k o hk => by simpa using hk)
  rw [← List.range_eq_range'] at h1
  exact AWP.regionL h1 h2
theorem AWP.drawK (masks : List Nat) (kl : Kl) (hm : P.follows .mixedOrders = true) (hok : okDraw l.toArray masks kl = true) (h : RunK P N p l.toArray s.nx (some masks) kl 0 l { s with nx := s.nx + 4 * l.length } fun s' => Q .normal s'.st) : AWP P r ⟨W0, S, p, F0, N, D⟩ (.region id l.toArray true) s.st Q := by
  obtain ⟨s', h1, h2⟩ := h (fun k o hk => by simpa using hk)
  rw [← List.range_eq_range'] at h1
  exact AWP.drawL hm hok h1 h2
end
end Go.Abs
namespace Go.Abs
/-- What comes next, folded. -/
def Cont (P : Program) (r : Option Nat) (C : Cx) (y : Code) (Q : Exit → St → Prop) (K : St → Prop) : Prop := ∀ s', AWP P r C y s' Q → K s'
theorem Cont.go {P : Program} {r : Option Nat} {C : Cx} {y : Code} {Q : Exit → St → Prop} {K : St → Prop} {s : St} (h : Cont P r C y Q K) (k : AWP P r C y s Q) : K s := h s k
theorem AWP.seqK {P : Program} {r : Option Nat} {C : Cx} {s : St} {Q : Exit → St → Prop} {x y : Code} (h : ∀ K : St → Prop, Cont P r C y Q K → AWP P r C x s (thn K Q)) : AWP P r C (.seq x y) s Q :=
  AWP.seq (h _ fun _ h => h)
def onBool (v : V) (f : Bool → Prop) : Prop := match v with | .sc (.bool t) => f t | _ => False
theorem AWP.condK {P : Program} {r : Option Nat} {C : Cx} {s : LS} {Q : Exit → St → Prop} {x : Operand} {c d : Code} (h : onBool (s.ev x) fun t => (t = true → AWP P r C c s.st Q) ∧ (t = false → AWP P r C d s.st Q)) : AWP P r C (.cond x c d) s.st Q := by
  unfold onBool at h
  split at h
  · rename_i t ht; exact AWP.condL ht h.1 h.2
  · exact h.elim
theorem FnP.ofK {P : Program} {f : FuncId} {fn : Func} {c : Code} {args : List V} {res : V} (hf : P.funcs[f]? = some fn) (hb : fn.body = some c) (N : Nat) (hN : args.length + (fn.ntmps - args.length) = N)
    (h : ∀ (W : World) (S : Nat → Prop) (F : Nat → Nat → Option Value) (Q : Exit → St → Prop), (∀ e s, (e = .normal ∨ e = .ret) → (∃ v L, resOf P s fn.results.toList = some v ∧ Lend (retHow s.mem L id 0) v res) → Q e s) →
      AWP P none ⟨W, S, 0, F, N, []⟩ c (⟨largs 0 args, [], 0⟩ : LS).st Q) : FnP P f args res :=
  FnP.of hf hb fun W S F => by rw [hN]; exact h W S F _ fun e s he hv => ⟨he, hv⟩
theorem RunK.here {P : Program} {N p : Nat} {ops : Array Oper} {base : Nat} {masks : Option (List Nat)} {kl : Kl} {i : Nat} {l : List Oper} {s : LS} {Q : LS → Prop} (h : RunK P N p ops base masks kl i l s Q) : RunK P N p ops base masks kl i l s Q := h
end Go.Abs
namespace Go.Abs
theorem Lend.sc' {H : How} {v v' : Value} (h : v = v') : Lend H (.sc v) (.sc v') := by subst h; exact .sc v
theorem Lend.int {H : How} {k : IntKind} {a b : Int} (h : a = b) : Lend H (.sc (.int k a)) (.sc (.int k b)) := by subst h; exact .sc _
end Go.Abs
namespace Go.Abs
/-! what simp need not look into -/
@[congr] theorem RunK.cg {P : Program} {N p : Nat} {ops : Array Oper} {base base' : Nat} {masks : Option (List Nat)} {kl : Kl} {i i' : Nat} {l : List Oper} {s s' : LS} {Q : LS → Prop} (hb : base = base') (hi : i = i') (hs : s = s') : RunK P N p ops base masks kl i l s Q = RunK P N p ops base' masks kl i' l s' Q := by subst hb; subst hi; subst hs; rfl
@[congr] theorem AWP.cg {P : Program} {r : Option Nat} {C : Cx} {c : Code} {s s' : St} {Q : Exit → St → Prop} (hs : s = s') : AWP P r C c s Q = AWP P r C c s' Q := by subst hs; rfl
end Go.Abs
