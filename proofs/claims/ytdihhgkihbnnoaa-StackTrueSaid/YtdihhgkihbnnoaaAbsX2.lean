/- Laws about heaps and calls that the walks use. Conditions: as each theorem states them. -/
import Derived.Test.YtdihhgkihbnnoaaAbsEq
namespace Go.Abs
set_option linter.unusedVariables false
set_option linter.unusedSimpArgs false
/-! ### calls that make more than one block -/
theorem renS {α : Type} [Cl α] {b v o l : Nat} {r : Nat → Nat} : (slV α b v o l).ren r = slV α (r b) v o l := by simp only [slV, V.ren]

def pidN (bs : List Nat) (id : Nat) : Nat → Nat := fun j => if j < bs.length then bs.getD j 0 else id + (j - bs.length)
section
variable {P : Program} {C : Cx} {E : Env} {mem : Nat → Option Blk} {nx : Nat} {W : World}
open Classical in
theorem InvM.outofN (h : InvM C E mem nx W) {bs : List Nat} {id : Nat} (hnd : bs.Nodup) (hsome : ∀ b ∈ bs, (mem b).isSome = true) (n : Nat) (hid : ∀ q, q < n → mem (id + q) = none) (hlt : id + n ≤ nx) (hside : (∀ b ∈ bs, b < C.p) ∨ ∀ b ∈ bs, C.p ≤ b) {m' : List Blk} (hl1 : bs.length ≤ m'.length) (hl2 : m'.length ≤ bs.length + n)
    {E' : Env} {nx' : Nat} {W' : World} (hle : (E.view W (fun _ => false) bs.length (fun j => bs.getD j 0) W.heap.size).le E')
    (h' : InvM (cx W (passS E bs) bs.length (E.view W (fun _ => false) bs.length (fun j => bs.getD j 0) W.heap.size).F) E' (fun j => m'[j]?) nx' W') :
    ∃ E2, E.le E2 ∧ InvM C E2 ((passUps (pidN bs id) 0 m').foldl (fun m p => fun i => if i = p.1 then some p.2 else m i) mem) nx W' ∧ ∀ v c, RL E' v c → RL E2 (v.ren (pidN bs id)) c := by
  have hidb : ∀ q, q < n → id + q ∉ bs := fun q hq hx => by have := hsome _ hx; rw [hid q hq] at this; cases this
  have hE'n0 : E'.n0 = W.heap.size := h'.n0
  -- the places of the blocks
  have hr : ∀ j (hj : j < bs.length), pidN bs id j = bs[j] := fun j hj => by unfold pidN; rw [if_pos hj]; simp [hj]
  have hrn : ∀ j, bs.length ≤ j → pidN bs id j = id + (j - bs.length) := fun j hj => by unfold pidN; rw [if_neg (Nat.not_lt.2 hj)]
  have rinj : ∀ i j, i < m'.length → j < m'.length → pidN bs id i = pidN bs id j → i = j := by
    intro i j hi hj e
    rcases Nat.lt_or_ge i bs.length with h1 | h1 <;> rcases Nat.lt_or_ge j bs.length with h2 | h2
    · rw [hr i h1, hr j h2] at e
      exact nodup_inj hnd e
    · rw [hr i h1, hrn j h2] at e
      exact absurd (e ▸ List.getElem_mem h1) (hidb _ (by omega))
    · rw [hr j h2, hrn i h1] at e
      exact absurd (e ▸ List.getElem_mem h2) (hidb _ (by omega))
    · rw [hrn i h1, hrn j h2] at e; omega
  have σ' : ∀ j I, E'.σ j = some I → j < m'.length := fun j I hI => by
    obtain ⟨k, hk⟩ := h'.dom j I hI
    exact (List.getElem?_eq_some_iff.1 hk).1
  let inv : Nat → Option Nat := fun b => if hx : ∃ j, j < m'.length ∧ pidN bs id j = b then some (Classical.choose hx) else none
  have inv1 : ∀ j, j < m'.length → inv (pidN bs id j) = some j := fun j hj => by
    have hx : ∃ i, i < m'.length ∧ pidN bs id i = pidN bs id j := ⟨j, hj, rfl⟩
    simp only [inv]
    rw [dif_pos hx]
    have := Classical.choose_spec hx
    rw [rinj _ _ this.1 hj this.2]
  have inv2 : ∀ b j, inv b = some j → j < m'.length ∧ pidN bs id j = b := fun b j hb => by
    simp only [inv] at hb
    split at hb
    · rename_i hx; cases hb; exact Classical.choose_spec hx
    · cases hb
  have inv3 : ∀ b, inv b = none → ∀ j, j < m'.length → b ≠ pidN bs id j := fun b hb j hj e => by
    rw [e, inv1 j hj] at hb; cases hb
  have inbs : ∀ b ∈ bs, ∃ j, j < bs.length ∧ inv b = some j ∧ bs.getD j 0 = b := fun b hb => by
    obtain ⟨j, hj, e⟩ := List.getElem_of_mem hb
    exact ⟨j, hj, by rw [← e, ← hr j hj]; exact inv1 j (by omega), by simp [hj, e]⟩
  have hFE : ∀ B o d, E.F B o = some d → E'.F B o = some d := fun B o d hd => hle.F B o d (by simp only [Env.view, lentF_no]; exact hd)
  have hFo : ∀ B o, B < W.heap.size → E'.F B o = E.F B o := fun B o hB => by
    have := h'.old B o hB
    rw [this]; simp only [cx, Env.view, lentF_no]
  have same : ∀ B, B < W.heap.size → ¬ passS E bs B → W'.heap[B]? = W.heap[B]? := fun B hB hn => h'.keep.block B hB hn
  have out_ : ∀ b, inv b = none → b ∉ bs := fun b hb hx => by
    obtain ⟨j, _, e, _⟩ := inbs b hx
    rw [hb] at e; cases e
  have hE : E.le ⟨E.n0, E'.F, fun b => match inv b with | some j => E'.σ j | none => E.σ b⟩ := ⟨Nat.le_refl _, hFE, fun b I hI => by
    cases hb : inv b with
    | none => exact ⟨I, by simp [hb, hI], I.le_refl⟩
    | some j =>
      obtain ⟨j1, j2⟩ := inv2 b j hb
      have hj : j < bs.length := by
        rcases Nat.lt_or_ge j bs.length with h1 | h1
        · exact h1
        · rw [hrn j h1] at j2; subst j2
          obtain ⟨k, hk⟩ := h.dom _ I hI
          rw [hid _ (by omega)] at hk; cases hk
      rw [hr j hj] at j2
      obtain ⟨J, e1, e2⟩ := hle.σ j I (by simp [Env.view, hj, j2, hI])
      exact ⟨J, by simp [hb, e1], e2⟩⟩
  have hσr : ∀ j I, E'.σ j = some I → (fun b => match inv b with | some j => E'.σ j | none => E.σ b) (pidN bs id j) = some I := fun j I hI => by
    simp only [inv1 j (σ' j I hI), hI]
  have hn2 : (Env.mk E.n0 E'.F (fun b => match inv b with | some j => E'.σ j | none => E.σ b)).n0 ≤ E'.n0 := by
    rw [hE'n0]; show E.n0 ≤ _; rw [h.n0]; exact h.keep.size
  -- blocks outside of what was handed on
  have live : ∀ b I B, inv b = none → E.σ b = some I → I.dead = false → I.blk = some B → B < W.heap.size ∧ ¬ passS E bs B := by
    intro b I B hb hI hd hB
    refine ⟨h.lt hI hd hB, ?_⟩
    rintro ⟨b', I', g1, g2, g3, g4⟩
    have := h.inj b b' I I' B hI g2 hd g3 hB g4
    subst this
    exact out_ b hb g1
  have ups := fun b => passUps_get (pidN bs id) m' 0 mem b (fun i j _ hi _ hj => rinj i j (by omega) (by omega))
  refine ⟨_, hE, ?_, fun v c hv => RL.ren hn2 (fun _ _ _ x => x) hσr v c hv⟩
  refine ⟨h.n0, h'.frz, ?_, ?_, ?_, ?_, ?_, ?_, ?_, ?_⟩
  · intro b k hk
    cases hb : inv b with
    | none =>
      rw [(ups b).2 fun j hj => by rw [Nat.zero_add]; exact inv3 b hb j hj] at hk
      obtain ⟨I, g1, g2⟩ := h.blk b k hk
      refine ⟨I, by simp [hb, g1], ?_⟩
      by_cases hd : I.dead = true
      · cases k with
        | dead => exact hd
        | box cs => obtain ⟨h3, _⟩ := g2; rw [hd] at h3; cases h3
        | arr te e ver cs => obtain ⟨h3, _⟩ := g2; rw [hd] at h3; cases h3
      · have hd : I.dead = false := by simpa using hd
        exact g2.mono hE fun B hB => by
          obtain ⟨l1, l2⟩ := live b I B hb g1 hd hB
          exact same B l1 l2
    | some j =>
      obtain ⟨j1, j2⟩ := inv2 b j hb
      rw [(ups b).1 j m'[j] (by simp [j1]) (by rw [Nat.zero_add]; exact j2.symm)] at hk
      cases hk
      obtain ⟨I, g1, g2⟩ := h'.blk j m'[j] (by simp [j1])
      exact ⟨I, by simp [hb, g1], g2.ren hn2 (fun _ _ _ x => x) hσr⟩
  · intro b I hI
    cases hb : inv b with
    | none =>
      simp only [hb] at hI
      rw [(ups b).2 fun j hj => by rw [Nat.zero_add]; exact inv3 b hb j hj]
      exact h.dom b I hI
    | some j =>
      obtain ⟨j1, j2⟩ := inv2 b j hb
      exact ⟨_, (ups b).1 j m'[j] (by simp [j1]) (by rw [Nat.zero_add]; exact j2.symm)⟩
  · intro b k hk
    cases hb : inv b with
    | none =>
      rw [(ups b).2 fun j hj => by rw [Nat.zero_add]; exact inv3 b hb j hj] at hk
      exact h.nx b k hk
    | some j =>
      obtain ⟨j1, j2⟩ := inv2 b j hb
      rcases Nat.lt_or_ge j bs.length with hj | hj
      · rw [hr j hj] at j2
        have := hsome b (j2 ▸ List.getElem_mem hj)
        obtain ⟨k', hk'⟩ := Option.isSome_iff_exists.1 this
        exact h.nx b k' hk'
      · rw [hrn j hj] at j2
        omega
  · intro b b' I I' B h1 h2 d1 d2 e1 e2
    cases hb : inv b with
    | none =>
      simp only [hb] at h1
      cases hb' : inv b' with
      | none => simp only [hb'] at h2; exact h.inj b b' I I' B h1 h2 d1 d2 e1 e2
      | some j =>
        simp only [hb'] at h2
        exfalso
        obtain ⟨l1, l2⟩ := live b I B hb h1 d1 e1
        rcases h'.own j I' B h2 d2 e2 with g | ⟨_, g⟩
        · simp [cx] at g; omega
        · exact l2 g
    | some i =>
      simp only [hb] at h1
      cases hb' : inv b' with
      | none =>
        simp only [hb'] at h2
        exfalso
        obtain ⟨l1, l2⟩ := live b' I' B hb' h2 d2 e2
        rcases h'.own i I B h1 d1 e1 with g | ⟨_, g⟩
        · simp [cx] at g; omega
        · exact l2 g
      | some j =>
        simp only [hb'] at h2
        have := h'.inj i j I I' B h1 h2 d1 d2 e1 e2
        subst this
        rw [← (inv2 b i hb).2, ← (inv2 b' i hb').2]
  · intro b I B h1 d1 e1 o
    cases hb : inv b with
    | none =>
      simp only [hb] at h1
      show E'.F B o = none
      rw [hFo B o (h.lt h1 d1 e1)]
      exact h.sep b I B h1 d1 e1 o
    | some j => simp only [hb] at h1; exact h'.sep j I B h1 d1 e1 o
  · intro b I B h1 d1 e1
    cases hb : inv b with
    | none => simp only [hb] at h1; exact h.own b I B h1 d1 e1
    | some j =>
      simp only [hb] at h1
      obtain ⟨j1, j2⟩ := inv2 b j hb
      rcases h'.own j I B h1 d1 e1 with g | ⟨_, b', I', g1, g2, g3, g4⟩
      · left; have := h.keep.size; simp [cx] at g; omega
      · rcases h.own b' I' B g2 g3 g4 with q | ⟨q1, q2⟩
        · exact .inl q
        · right
          rcases hside with hs | hs
          · refine ⟨?_, q2⟩
            rcases Nat.lt_or_ge j bs.length with hj | hj
            · rw [hr j hj] at j2
              exact hs b (j2 ▸ List.getElem_mem hj)
            · exfalso
              rename_i hjj
              simp [cx] at hjj
              omega
          · have := hs b' g1; omega
  · intro B o hB
    have := h.keep.size
    show E'.F B o = _
    rw [hFo B o (by omega)]
    exact h.old B o hB
  · refine ⟨h'.keep.os.trans h.keep.os, h'.keep.tape.trans h.keep.tape, h'.keep.output.trans h.keep.output, Nat.le_trans h.keep.size h'.keep.size, fun k hk hS => ?_⟩
    rw [← h.keep.block k hk hS]
    refine same k (Nat.lt_of_lt_of_le hk h.keep.size) ?_
    rintro ⟨b', I', g1, g2, g3, g4⟩
    rcases h.own b' I' k g2 g3 g4 with q | ⟨q1, q2⟩
    · omega
    · exact hS q2
end
section
variable {c : RX} {i : Nat} {l : List Oper} {tm : List (Nat × V)} {mem : List (Nat × Blk)} {nx : Nat} {Q : LS → Prop} {d : Tmp} {op : Op} {ty : TypeId} {ps : String} {af : Array Edge} {g : Option (Nat × Bool)}
/-- A call that is handed blocks, and makes some: in the text's order. -/
theorem cpx {f : Operand} {args : Array Operand} {ts : Array TypeId} {fid : FuncId} {caps args' : List V} {m m' : List Blk} {res res' : V} {ups : List (Nat × Blk)} (bs : List Nat) (id : Nat) (hm : c.masks = none) (hid : c.base + 4 * i = id) (hf : (LS.mk tm mem nx).ev f = .fn (.func fid) caps)
    (hcb : callable c.P fid = true) (hfn : FnD c.P fid m args' res m') (ha : Lends (passHow (lget mem) bs) (args.toList.map (LS.mk tm mem nx).ev ++ caps) args') (hb : PassB (passHow (lget mem) bs) mem bs m) (hn : nodupB bs = true) (hs : sideB c.p bs = true) (hl : (Nat.ble bs.length m'.length && Nat.ble m'.length (bs.length + 4)) = true)
    (hres : res.ren (pidN bs id) = res') (hups : passUps (pidN bs id) 0 m' = ups)
    (h : RunC c (i + 1) l ⟨(d, res') :: tm, pushes mem ups, nx⟩ Q) : RunC c i (⟨some d, .call { callee := .value f, args, argTypes := ts }, ty, ps, af, none⟩ :: l) ⟨tm, mem, nx⟩ Q := by
  subst hres hups
  intro hlo hd hfr
  obtain ⟨h1, h2⟩ := RunK.head hlo
  have hdst : d < c.N := by
    have := hd _ List.mem_cons_self
    simpa [dstOK] using this
  have hsome : ∀ b ∈ bs, (lget mem b).isSome = true := fun b hb' => by
    obtain ⟨j, hj, rfl⟩ := List.mem_iff_getElem.1 hb'
    have hjm : j < m.length := by rw [hb.len]; exact hj
    obtain ⟨k, e, _⟩ := hb.get j m[j] (by simp [hjm])
    have : bs.getD j 0 = bs[j] := by simp [hj]
    rw [this] at e; rw [e]; rfl
  simp only [Bool.and_eq_true] at hl
  have hl1 := Nat.le_of_ble_eq_true hl.1
  have hl2 := Nat.le_of_ble_eq_true hl.2
  have hside : (∀ b ∈ bs, b < c.p) ∨ ∀ b ∈ bs, c.p ≤ b := by
    unfold sideB at hs
    simp only [Bool.or_eq_true, List.all_eq_true, decide_eq_true_eq] at hs
    exact hs.symm
  have hfree : ∀ q, q < 4 → lget mem (id + q) = none := fun q hq => hfr _ (show c.base + 4 * i ≤ id + q by omega)
  simp only [hm]
  intro r W0 S F0 D E a W Qc hI hnx hQ
  show wpOpsIn _ _ _ _ _ (List.range' i (l.length + 1)) _ _
  rw [List.range'_succ, wpOpsIn_cons]
  have hnx' : c.base + 4 * (i + (l.length + 1)) ≤ nx := hnx
  unfold wpOpIn
  rw [h1]
  simp only []
  have hwt : wantedV c.ops (LS.mk tm mem nx).st ⟨some d, .call { callee := .value f, args, argTypes := ts }, ty, ps, af, none⟩ = some true := rfl
  rw [wanted_ok hI hwt]
  simp only [if_true]
  have hfv := hI.ev f
  rw [LS.st_ev, hf] at hfv
  simp only [RL] at hfv
  obtain ⟨cs, f1, f2⟩ := hfv
  have hev := hI.ev
  rw [LS.st_ev] at hev
  have hargs := RLs.append (evs_ok hev args) f2
  have hv := Lends.ok (H := passHow (lget mem) bs) rfl hI.m (fun x hx => by simp [passHow] at hx) (fun hx => by simp [passHow] at hx) (n := W.heap.size) ha _ hargs
  have hlen := hb.len
  have hcall := hfn (E.view W (fun _ => false) bs.length (fun j => bs.getD j 0) W.heap.size) W (passS E bs) _ (by rw [hlen]; exact hI.m.into (nodupB_ok _ hn) hlen (fun j k' e => hb.get j k' e)) hv
  refine ⟨fun _ _ => trivial, ?_⟩
  rw [Oper.semAt_eq _ _ _ (fun c hc => by cases hc)]
  have hrun : (execOp a.eval ⟨some d, .call { callee := .value f, args, argTypes := ts }, ty, ps, af, none⟩).run c.P W = .ok (.enter fid (args.map a.eval ++ cs.toArray)) W := by
    simp [execOp, resolve, Deferred.ofValue, f1, invoke, Result.andThen, run_callFunc hcb]
  rw [hrun]
  have e1 : (args.map a.eval ++ cs.toArray) = ((args.map a.eval).toList ++ cs).toArray := by simp
  rw [e1]
  refine ⟨fun hx => (by cases hx), callsIn_fe (hcall.mono ?_)⟩
  rintro en W' ⟨cv, E', res2, m2, nx2, rfl, q1, q2, q3, hres2, hm2⟩
  subst hres2 hm2
  rw [hlen] at q2
  obtain ⟨E2, b1, b2, b3⟩ := hI.m.outofN (nodupB_ok _ hn) hsome 4 hfree (show id + 4 ≤ nx by omega) hside hl1 hl2 q1 q2
  have hI' := hI.put (o := ⟨some d, .call { callee := .value f, args, argTypes := ts }, ty, ps, af, none⟩) (e := ⟨res2.ren (pidN bs id), passUps (pidN bs id) 0 m'⟩) (fun d' e => by cases e; exact hdst) b1 b2 (b3 _ _ q3)
  have est := LS.with_st (LS.mk tm mem nx) ⟨some d, .call { callee := .value f, args, argTypes := ts }, ty, ps, af, none⟩ ⟨res2.ren (pidN bs id), passUps (pidN bs id) 0 m'⟩
  rw [← est] at hI'
  have h' := h h2 (fun o' ho' => hd o' (List.mem_cons_of_mem _ ho')) (fun b hb' => by
    have hb' : c.base + 4 * (i + 1) ≤ b := hb'
    show lget (pushes mem _) b = none
    rw [lget_pushes, upds_other _ _ _ fun x hx hxb => ?_]
    · exact hfr b (by omega)
    · obtain ⟨j, j1, j2, j3⟩ := passUps_keys _ _ _ x hx
      subst hxb
      rw [j3] at hb'
      unfold pidN at hb' j3
      split at hb'
      · rename_i hj
        have : bs.getD j 0 = bs[j] := by simp [hj]
        rw [this] at hb'
        have := hsome _ (List.getElem_mem hj)
        rw [hfr _ (by omega)] at this; cases this
      · omega)
  simp only [hm] at h'
  exact h' r W0 S F0 D E2 _ W' Qc hI' (show c.base + 4 * (i + 1 + l.length) ≤ nx by omega) fun E3 a3 W3 s3 hE3 hI3 hq => hQ E3 a3 W3 s3 (Env.le_trans b1 hE3) hI3 hq
end
end Go.Abs
