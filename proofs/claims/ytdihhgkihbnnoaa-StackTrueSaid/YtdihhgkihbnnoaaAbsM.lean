/- Laws about heaps and calls that the walks use. Conditions: as each theorem states them. -/
import Derived.Test.YtdihhgkihbnnoaaAbsL
namespace Go.Abs
set_option linter.unusedVariables false
set_option linter.unusedSimpArgs false

def tmpOf : Operand → Option Tmp
  | .tmp t => some t
  | _ => none
/-- The slots that an operation looks at. -/
def looks (ops : Array Oper) (o : Oper) : List Nat := o.op.operands.toList.filterMap tmpOf ++ (gdst ops o).toList

theorem ev_congr {s s2 : St} {x : Operand} (h : ∀ t, tmpOf x = some t → s2.tm t = s.tm t) : s2.ev x = s.ev x := by
  cases x with
  | tmp t => exact h t rfl
  | _ => rfl
theorem evs_congr {ev ev2 : Operand → V} (xs : Array Operand) (hx : ∀ x ∈ xs, ev2 x = ev x) : xs.toList.map ev2 = xs.toList.map ev :=
  List.map_congr_left fun x hm => hx x (by simpa using hm)
theorem opTouch_ev {op : Op} {ev ev2 : Operand → V} (h : ∀ x ∈ op.operands, ev2 x = ev x) : opTouch op ev2 = opTouch op ev := by
  unfold opTouch
  split
  · simp [Op.operands] at h; simp [h]
  · simp [Op.operands] at h; simp [h]
  · rename_i args ts
    rw [evs_congr args fun x hx => h x (by simp [Op.operands, Call.operands, hx])]
  · rfl
theorem opFx_ev {P : Program} {op : Op} {ev ev2 : Operand → V} {mem : Nat → Option Blk} {id : Nat} (h : ∀ x ∈ op.operands, ev2 x = ev x) : opFx P op ev2 mem id = opFx P op ev mem id := by
  unfold opFx
  split
  all_goals try (first | rfl | (simp [Op.operands] at h; simp [h]; done))
  · rename_i t parts
    congr 1
    refine List.map_congr_left fun p hp => ?_
    rw [h p.2 (by simp [Op.operands]; exact ⟨p.1, by simpa using hp⟩)]
  · rename_i t len parts
    congr 1
    refine List.map_congr_left fun p hp => ?_
    rw [h p.2 (by simp [Op.operands]; exact ⟨p.1, by simpa using hp⟩)]
  · rename_i t f lo hi
    have hl : lo.map ev2 = lo.map ev := by
      cases lo with
      | none => rfl
      | some y => simp [h y (by simp [Op.operands])]
    have hh : hi.map ev2 = hi.map ev := by
      cases hi with
      | none => rfl
      | some y => simp [h y (by simp [Op.operands])]
    rw [h f (by simp [Op.operands]), hl, hh]
  · rename_i f first caps
    rw [evs_congr caps fun x hx => h x (by simp [Op.operands, hx])]
  · rename_i b args ts
    rw [evs_congr args fun x hx => h x (by simp [Op.operands, Call.operands, hx])]

theorem wantedV_congr {ops : Array Oper} {s s2 : St} {o : Oper} (h : ∀ d, gdst ops o = some d → s2.tm d = s.tm d) : wantedV ops s2 o = wantedV ops s o := by
  unfold wantedV
  unfold gdst at h
  cases hg : o.guard with
  | none => rfl
  | some g =>
    obtain ⟨j, w⟩ := g
    rw [hg] at h
    simp only [Option.bind_some] at h
    simp only []
    cases hd : (ops[j]?).bind (·.dst) with
    | none => rfl
    | some d => simp only []; rw [h d hd]

mutual
theorem Lend.congr {mem mem2 : Nat → Option Blk} {ks : List Nat} (h : ∀ b ∈ ks, mem2 b = mem b) : ∀ {v v' : V}, Lend (callHow mem ks) v v' → Lend (callHow mem2 ks) v v'
  | _, _, .sc v => .sc v
  | _, _, .nil => .nil
  | _, _, .agg l hl => .agg (Lends.congr h l) hl
  | _, _, .tup l => .tup (Lends.congr h l)
  | _, _, .fn l => .fn (Lends.congr h l)
  | _, _, .lst l hl => .lst (H := callHow mem2 ks) (Lends.congr h l) hl
  | _, _, .rp l hl => .rp (Lends.congr h l) hl
  | _, _, .any v => .any v
  | _, _, .slPass hj hb => .slPass (H := callHow mem2 ks) hj hb
  | _, _, .ptrPass hj hb => .ptrPass (H := callHow mem2 ks) hj hb
  | _, _, .slLend hL hm hf l hl => .slLend (H := callHow mem2 ks) hL (by rw [← hm]; exact h _ (by simpa [callHow] using hL)) hf (Lends.congr h l) hl
  | _, _, .ptrLend hL hm hv l hl => .ptrLend (H := callHow mem2 ks) hL (by rw [← hm]; exact h _ (by simpa [callHow] using hL)) hv (Lends.congr h l) hl
theorem Lends.congr {mem mem2 : Nat → Option Blk} {ks : List Nat} (h : ∀ b ∈ ks, mem2 b = mem b) : ∀ {v v' : List V}, Lends (callHow mem ks) v v' → Lends (callHow mem2 ks) v v'
  | _, _, .nil => .nil
  | _, _, .cons l1 l2 => .cons (Lend.congr h l1) (Lends.congr h l2)
end

mutual
theorem Lend.congrP {mem mem2 : Nat → Option Blk} {bs : List Nat} : ∀ {v v' : V}, Lend (passHow mem bs) v v' → Lend (passHow mem2 bs) v v'
  | _, _, .sc v => .sc v
  | _, _, .nil => .nil
  | _, _, .agg l hl => .agg (Lends.congrP l) hl
  | _, _, .tup l => .tup (Lends.congrP l)
  | _, _, .fn l => .fn (Lends.congrP l)
  | _, _, .lst l hl => .lst (H := passHow mem2 bs) (Lends.congrP l) hl
  | _, _, .rp l hl => .rp (Lends.congrP l) hl
  | _, _, .any v => .any v
  | _, _, .slPass hj hb => .slPass (H := passHow mem2 bs) hj hb
  | _, _, .ptrPass hj hb => .ptrPass (H := passHow mem2 bs) hj hb
  | _, _, .slLend hL hm hf l hl => by cases hL
  | _, _, .ptrLend hL hm hv l hl => by cases hL
theorem Lends.congrP {mem mem2 : Nat → Option Blk} {bs : List Nat} : ∀ {v v' : List V}, Lends (passHow mem bs) v v' → Lends (passHow mem2 bs) v v'
  | _, _, .nil => .nil
  | _, _, .cons l1 l2 => .cons (Lend.congrP l1) (Lends.congrP l2)
end
theorem BLend.congrP {mem mem2 : Nat → Option Blk} {bs : List Nat} {k k' : Blk} (h : BLend (passHow mem bs) k k') : BLend (passHow mem2 bs) k k' := by
  cases h with
  | box l hl => exact .box (Lends.congrP l) hl
  | arr l hl => exact .arr (Lends.congrP l) hl

theorem mem_looks {ops : Array Oper} {o : Oper} {x : Operand} {t : Tmp} (hx : x ∈ o.op.operands) (ht : tmpOf x = some t) : t ∈ looks ops o := by
  unfold looks
  exact List.mem_append_left _ (List.mem_filterMap.2 ⟨x, by simpa using hx, ht⟩)

section
variable {P : Program} {N p : Nat} {ops : Array Oper} {id : Nat} {o : Oper} {s s2 : St} {e : Eff} {t : List Nat} {w : Bool}
theorem Act1.congr (ht : ∀ x ∈ looks ops o, s2.tm x = s.tm x) (hm : ∀ b ∈ t, s2.mem b = s.mem b) (hid : s2.mem id = s.mem id) (h : Act1 P N p ops id o s e t w) : Act1 P N p ops id o s2 e t w := by
  have hw : wantedV ops s2 o = wantedV ops s o := wantedV_congr fun d hd => ht d (by unfold looks; simp [hd])
  have hev : ∀ x ∈ o.op.operands, s2.ev x = s.ev x := fun x hx => ev_congr fun t htx => ht t (mem_looks hx htx)
  cases h with
  | op h1 h2 h3 =>
    rename_i fx
    have e1 := opTouch_ev hev
    have h2' : opFx P o.op s2.ev s2.mem id = some fx := by
      rw [opFx_ev hev, ← h2]
      exact opFx_local hm
    have := Act1.op (P := P) (N := N) (p := p) (ops := ops) (id := id) (o := o) (s := s2) (by rw [hw]; exact h1) h2' (by rw [hid]; exact h3)
    rw [e1] at this
    exact this
  | skip h1 => exact .skip (by rw [hw]; exact h1)
  | raw h1 h2 h3 => exact .raw (by rw [hw]; exact h1) h2 fun ρ E W hρ => h3 ρ E W fun x hx => by rw [← hev x hx]; exact hρ x hx
  | call h1 h2 h3 h4 h5 h6 h7 =>
    rename_i f args ts fid caps args' res
    have e1 : args.toList.map s2.ev = args.toList.map s.ev := evs_congr args fun x hx => hev x (by rw [h2]; simp [Op.operands, Call.operands, hx])
    exact .call (by rw [hw]; exact h1) h2 (by rw [hev f (by rw [h2]; simp [Op.operands, Call.operands])]; exact h3) (by rw [e1]; exact Lends.congr hm h4) h5 h6 h7
  | share h1 h2 h3 h4 h5 h6 h7 =>
    rename_i f args ts fid caps args' res
    have e1 : args.toList.map s2.ev = args.toList.map s.ev := evs_congr args fun x hx => hev x (by rw [h2]; simp [Op.operands, Call.operands, hx])
    exact .share (by rw [hw]; exact h1) h2 (by rw [hev f (by rw [h2]; simp [Op.operands, Call.operands])]; exact h3) (by rw [e1]; exact Lends.congr hm h4) h5 h6 (fun b hb => by rw [hm b hb]; exact h7 b hb)
  | pass h1 h2 h3 h4 h5 h6 h7 h8 h9 h10 h11 h12 h13 h14 =>
    rename_i f args ts fid caps args' m m' res
    have e1 : args.toList.map s2.ev = args.toList.map s.ev := evs_congr args fun x hx => hev x (by rw [h2]; simp [Op.operands, Call.operands, hx])
    refine .pass (by rw [hw]; exact h1) h2 (by rw [hev f (by rw [h2]; simp [Op.operands, Call.operands])]; exact h3) (by rw [e1]; exact Lends.congrP h4) h5 h6 h7 (fun b hb => by rw [hm b hb]; exact h8 b hb) (by rw [hid]; exact h9) h10 h11 h12 h13 fun j k' hk' => ?_
    obtain ⟨k, k1, k2⟩ := h14 j k' hk'
    refine ⟨k, ?_, k2.congrP⟩
    rw [hm, k1]
    have hj : j < t.length := by rw [← h11]; exact (List.getElem?_eq_some_iff.1 hk').1
    simp [hj]

theorem passUps_keys (r : Nat → Nat) : ∀ (ks : List Blk) (j0 : Nat), ∀ x ∈ passUps r j0 ks, ∃ j, j0 ≤ j ∧ j < j0 + ks.length ∧ x.1 = r j
  | [], j0, x, hx => by cases hx
  | k :: ks, j0, x, hx => by
    unfold passUps at hx
    rcases List.mem_cons.1 hx with rfl | hx
    · exact ⟨j0, by omega, by simp, rfl⟩
    · obtain ⟨j, h1, h2, h3⟩ := passUps_keys r ks (j0 + 1) x hx
      exact ⟨j, by omega, by simp; omega, h3⟩
/-- Which blocks an operation changes. -/
theorem Act1.keys (h : Act1 P N p ops id o s e t w) : ∀ x ∈ e.ups, x.1 = id ∨ (w = true ∧ x.1 ∈ t) := by
  cases h with
  | op h1 h2 h3 =>
    rename_i fx
    intro x hx
    simp only [Option.mem_toList] at hx
    obtain ⟨b, k⟩ := x
    exact opFx_up h2 hx
  | skip h1 => intro x hx; cases hx
  | raw => intro x hx; cases hx
  | call => intro x hx; cases hx
  | share =>
    intro x hx
    simp only [List.mem_map] at hx
    obtain ⟨b, hb, rfl⟩ := hx
    exact .inr ⟨rfl, hb⟩
  | pass h1 h2 h3 h4 h5 h6 h7 h8 h9 h10 h11 h12 h13 h14 =>
    intro x hx
    obtain ⟨j, j1, j2, j3⟩ := passUps_keys _ _ _ x hx
    rcases Nat.lt_or_ge j t.length with hj | hj
    · right; refine ⟨rfl, ?_⟩; rw [j3]; simp [passIds, hj]
    · left; rw [j3]; simp [passIds, hj]
theorem Act1.touch (h : Act1 P N p ops id o s e t w) (hc : tcOp o.op = false) : t = [] := by
  cases h with
  | op h1 h2 h3 =>
    unfold opTouch
    unfold tcOp at hc
    split <;> simp_all
  | skip h1 => rfl
  | raw => rfl
  | call h1 h2 => rw [h2] at hc; simp [tcOp] at hc
  | share h1 h2 => rw [h2] at hc; simp [tcOp] at hc
  | pass h1 h2 => rw [h2] at hc; simp [tcOp] at hc
theorem Act1.writes (h : Act1 P N p ops id o s e t w) (hw : w = true) : tcOp o.op = true := by
  cases h with
  | op h1 h2 h3 => unfold wrOp at hw; unfold tcOp; split at hw <;> simp_all
  | skip h1 => cases hw
  | raw => cases hw
  | call h1 h2 => cases hw
  | share h1 h2 => rw [h2]; rfl
  | pass h1 h2 => rw [h2]; rfl
end

theorem upds_in : ∀ (l : List (Nat × Blk)) (m m2 : Nat → Option Blk) (b : Nat), (∃ x ∈ l, x.1 = b) → upds m l b = upds m2 l b
  | [], m, m2, b, h => by obtain ⟨x, hx, _⟩ := h; cases hx
  | x :: l, m, m2, b, h => by
    rw [upds_cons, upds_cons]
    by_cases hl : ∃ y ∈ l, y.1 = b
    · exact upds_in l _ _ b hl
    · rw [upds_other l _ b (fun y hy e => hl ⟨y, hy, e⟩), upds_other l _ b (fun y hy e => hl ⟨y, hy, e⟩)]
      obtain ⟨y, hy, e⟩ := h
      rcases List.mem_cons.1 hy with rfl | hy
      · simp [upd, e]
      · exact absurd ⟨y, hy, e⟩ hl
theorem upds_comm (l l' : List (Nat × Blk)) (m : Nat → Option Blk) (h : ∀ x ∈ l, ∀ y ∈ l', y.1 ≠ x.1) : upds (upds m l) l' = upds (upds m l') l := by
  funext b
  by_cases h1 : ∃ x ∈ l, x.1 = b
  · obtain ⟨x, hx, rfl⟩ := h1
    rw [upds_other l' _ _ (fun y hy => h x hx y hy)]
    exact upds_in l _ _ _ ⟨x, hx, rfl⟩
  · rw [upds_other l (upds m l') b (fun x hx e => h1 ⟨x, hx, e⟩)]
    by_cases h2 : ∃ y ∈ l', y.1 = b
    · exact upds_in l' _ _ _ h2
    · rw [upds_other l' _ b (fun y hy e => h2 ⟨y, hy, e⟩), upds_other l _ b (fun x hx e => h1 ⟨x, hx, e⟩), upds_other l' _ b (fun y hy e => h2 ⟨y, hy, e⟩)]

theorem app_tm {s : St} {o : Oper} {e : Eff} {x : Nat} (h : o.dst ≠ some x) : (s.app o e).tm x = s.tm x := by
  unfold St.app putT
  cases hd : o.dst with
  | none => rfl
  | some d => simp only []; unfold upd; rw [if_neg (fun ex => h (by rw [hd, ex]))]
theorem app_mem {s : St} {o : Oper} {e : Eff} {b : Nat} (h : ∀ x ∈ e.ups, x.1 ≠ b) : (s.app o e).mem b = s.mem b := upds_other _ _ _ h

/-- Two operations that do not look at each other change places. -/
theorem Act1.swap {P : Program} {N p : Nat} {ops : Array Oper} {idi idj : Nat} {oi oj : Oper} {s : St} {ei ej : Eff} {ti tj : List Nat} {wi wj : Bool}
    (hi : Act1 P N p ops idi oi s ei ti wi) (hj : Act1 P N p ops idj oj (s.app oi ei) ej tj wj)
    (n1 : ∀ d, oi.dst = some d → d ∉ looks ops oj ∧ oj.dst ≠ some d) (n2 : ∀ d, oj.dst = some d → d ∉ looks ops oi)
    (k1 : ∀ x ∈ ei.ups, x.1 ∉ tj ∧ x.1 ≠ idj ∧ ∀ y ∈ ej.ups, y.1 ≠ x.1) (k2 : ∀ y ∈ ej.ups, y.1 ∉ ti ∧ y.1 ≠ idi) :
    Act1 P N p ops idj oj s ej tj wj ∧ Act1 P N p ops idi oi (s.app oj ej) ei ti wi ∧ (s.app oi ei).app oj ej = (s.app oj ej).app oi ei := by
  refine ⟨hj.congr (fun x hx => (app_tm fun e => (n1 x e).1 hx).symm) (fun b hb => (app_mem fun x hx e => (k1 x hx).1 (e ▸ hb)).symm) (app_mem fun x hx => (k1 x hx).2.1).symm,
    hi.congr (fun x hx => app_tm fun e => n2 x e hx) (fun b hb => app_mem fun y hy e => (k2 y hy).1 (e ▸ hb)) (app_mem fun y hy => (k2 y hy).2), ?_⟩
  unfold St.app
  congr 1
  · unfold putT
    cases hd : oi.dst with
    | none => rfl
    | some d =>
      cases hd' : oj.dst with
      | none => rfl
      | some d' =>
        have hne : d' ≠ d := fun e => (n1 d hd).2 (by rw [hd', e])
        funext x
        simp only [upd]
        by_cases h1 : x = d'
        · subst h1; simp [hne]
        · simp [h1]
  · exact upds_comm _ _ _ fun x hx y hy => (k1 x hx).2.2 y hy
end Go.Abs
