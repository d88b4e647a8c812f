/- Laws about heaps and calls that the walks use. Conditions: as each theorem states them. -/
import Derived.Test.YtdihhgkihbnnoaaAbsC
namespace Go.Abs
set_option linter.unusedVariables false
set_option linter.unusedSimpArgs false

section
variable {P : Program} {W : World}
theorem ti_info {t : TypeId} {ti : TI} (h : tiOf P t = some ti) :
    ∃ i d z, P.info? t = some i ∧ P.underlying t = some d ∧ i.zero = some z ∧ i.size = ti.size ∧ i.bytes = ti.bytes ∧ z.cells.toList = ti.zero ∧ ti.k = tkOf d := by
  unfold tiOf at h
  split at h
  · rename_i i d hi hd
    split at h
    · rename_i z hz
      cases h
      exact ⟨i, d, z, hi, hd, hz, rfl, rfl, rfl, rfl⟩
    · cases h
  · cases h
theorem run_typeInfo {t : TypeId} {i : TypeInfo} (h : P.info? t = some i) : (typeInfo t).run P W = .ok i W := by
  simp [typeInfo, h, Result.andThen]
theorem run_sizeOf {t : TypeId} {ti : TI} (h : tiOf P t = some ti) : (sizeOf t).run P W = .ok ti.size W := by
  obtain ⟨i, d, z, h1, h2, h3, h4, h5, h6, h7⟩ := ti_info h
  simp [sizeOf, run_typeInfo h1, Result.andThen, h4]
theorem run_isAgg {t : TypeId} {ti : TI} (h : tiOf P t = some ti) : (isAgg t).run P W = .ok ti.k.isAgg W := by
  obtain ⟨i, d, z, h1, h2, h3, h4, h5, h6, h7⟩ := ti_info h
  simp [isAgg, run_underlying h2, Result.andThen, h7]
  cases d <;> simp [tkOf, TK.isAgg]
theorem run_zero {t : TypeId} {ti : TI} (h : tiOf P t = some ti) : ∃ z, (zeroValue t).run P W = .ok z W ∧ z.cells.toList = ti.zero := by
  obtain ⟨i, d, z, h1, h2, h3, h4, h5, h6, h7⟩ := ti_info h
  exact ⟨z, by simp [zeroValue, run_typeInfo h1, Result.andThen, h3], h6⟩
theorem tk_und {t : TypeId} {k : TK} (h : tkAt P t = some k) : ∃ ti d, tiOf P t = some ti ∧ P.underlying t = some d ∧ k = tkOf d ∧ ti.k = k := by
  unfold tkAt at h
  cases hti : tiOf P t with
  | none => rw [hti] at h; cases h
  | some ti =>
    rw [hti] at h
    obtain ⟨i, d, z, h1, h2, h3, h4, h5, h6, h7⟩ := ti_info hti
    simp at h
    exact ⟨ti, d, rfl, h2, by rw [← h, h7], h⟩
theorem addr_add (B o j : Nat) : (⟨B, o, none⟩ : Addr).add j = ⟨B, o + j, none⟩ := by
  unfold Addr.add; split <;> simp_all

def CellsAt (W : World) (B o : Nat) (ds : List Value) : Prop := ∀ j d, ds[j]? = some d → W.cell? ⟨B, o + j, none⟩ = some d
theorem cellsAt_heap {B : Nat} {cur : Array Value} {t : TypeId} {fr : Nat × Nat} (h : W.heap[B]? = some (.cells cur t fr)) (o n : Nat) : CellsAt W B o ((cur.toList.take n).drop o) := by
  intro j d hj
  rw [List.getElem?_drop, List.getElem?_take] at hj
  split at hj
  · simp [World.cell?, h]
    simpa using hj
  · cases hj

theorem RF.list {E : Env} {B : Nat} : ∀ (cs : List V) (o : Nat), RF E B o cs → ∃ ds, RLs E cs ds ∧ ∀ j d, ds[j]? = some d → E.F B (o + j) = some d
  | [], o, h => ⟨[], by simp [RLs], fun j d hj => by simp at hj⟩
  | x :: xs, o, h => by
    simp only [RF] at h
    obtain ⟨⟨d, h1, h2⟩, h3⟩ := h
    obtain ⟨ds, h4, h5⟩ := RF.list xs (o + 1) h3
    refine ⟨d :: ds, ?_, fun j d' hj => ?_⟩
    · simp only [RLs]; exact ⟨d, ds, rfl, h2, h4⟩
    · cases j with
      | zero => simp at hj; subst hj; exact h1
      | succ j =>
        have := h5 j d' (by simpa using hj)
        rwa [show o + (j + 1) = o + 1 + j by omega]

theorem all_drop {cs : List V} (h : cs.all V.leaf = true) (n : Nat) : (cs.drop n).all V.leaf = true := by
  rw [List.all_eq_true] at h ⊢
  exact fun x hx => h x (List.mem_of_mem_drop hx)
theorem all_take {cs : List V} (h : cs.all V.leaf = true) (n : Nat) : (cs.take n).all V.leaf = true := by
  rw [List.all_eq_true] at h ⊢
  exact fun x hx => h x (List.mem_of_mem_take hx)

theorem run_loadVar {E : Env} {t : TypeId} {ti : TI} (h : tiOf P t = some ti) {B o : Nat} {cs : List V} {ds : List Value} (hc : CellsAt W B o ds) (hr : RLs E cs ds) (hl : cs.all V.leaf = true) {v : V}
    (hv : loadV ti cs = some v) : ∃ c, (loadVar t ⟨B, o, none⟩).run P W = .ok c W ∧ RL E v c := by
  unfold loadV at hv
  unfold loadVar
  simp only [Sem.run_bind, run_isAgg h, Result.andThen]
  by_cases ha : ti.k.isAgg = true
  · simp only [ha, if_true] at hv ⊢
    split at hv
    · rename_i hle
      cases hv
      have hlen := RLs.length _ _ hr
      have h1 := run_loadCells_list (P := P) W ⟨B, o, none⟩ (ds.take ti.size) (fun j d hj => by
        rw [addr_add]
        rw [List.getElem?_take] at hj
        split at hj
        · exact hc j d hj
        · cases hj)
      have hsz : (ds.take ti.size).length = ti.size := by simp; omega
      rw [hsz] at h1
      refine ⟨.agg (ds.take ti.size).toArray, by simp [run_sizeOf h, Result.andThen, h1], ?_⟩
      simp only [RL]
      exact ⟨_, rfl, hr.take _, all_take hl _⟩
    · cases hv
  · simp only [ha, Bool.false_eq_true, if_false] at hv ⊢
    cases cs with
    | nil => cases hv
    | cons x xs =>
      simp at hv; subst hv
      simp only [RLs] at hr
      obtain ⟨d, ds', rfl, h1, h2⟩ := hr
      have := hc 0 d (by simp)
      simp only [Nat.add_zero] at this
      exact ⟨d, by simp [this], h1⟩

theorem cells_of {E : Env} {v : V} {c : Value} {cs : List V} (h : RL E v c) (hv : v.cellsOf = some cs) : RLs E cs c.cells.toList ∧ cs.all V.leaf = true ∧ (∀ d ∈ c.cells.toList, d.flat1 = true) := by
  have flat : ∀ (cs : List V) (ds : List Value), RLs E cs ds → cs.all V.leaf = true → ∀ d ∈ ds, d.flat1 = true := by
    intro cs
    induction cs with
    | nil => intro ds h _ d hd; simp only [RLs] at h; subst h; cases hd
    | cons x xs ih =>
      intro ds h hl d hd
      simp only [RLs] at h
      obtain ⟨d', ds', rfl, h1, h2⟩ := h
      simp at hl
      rcases List.mem_cons.1 hd with rfl | hd
      · exact RL.flat1 h1 hl.1
      · exact ih ds' h2 (by simpa using hl.2) d hd
  unfold V.cellsOf at hv
  split at hv
  · rename_i cs'
    split at hv
    · cases hv
      simp only [RL] at h
      obtain ⟨ds, rfl, h1, h2⟩ := h
      exact ⟨by simpa [Value.cells] using h1, h2, by simpa [Value.cells] using flat _ _ h1 h2⟩
    · cases hv
  · split at hv
    · rename_i hl
      cases hv
      have hf := RL.flat1 h hl
      have : c.cells = #[c] := by cases c <;> simp_all [Value.cells, Value.flat1]
      rw [this]
      exact ⟨by simp only [RLs]; exact ⟨c, [], rfl, h, rfl⟩, by simp [hl], by simpa using hf⟩
    · cases hv

theorem flat1_eq (v : Value) : v.flat1 = v.oneCell' := by cases v <;> rfl
end

/-- What an operation's soundness says: it runs, and what it leaves is as told. -/
def Out (C : Cx) (E : Env) (mem : Nat → Option Blk) (nx : Nat) (fx : Fx) (r : Result Value) : Prop :=
  ∃ c W' E', r = .ok c W' ∧ E.le E' ∧ InvM C E' (match fx.up with | none => mem | some (b, k) => upd mem b (some k)) nx W' ∧ RL E' fx.val c

section
variable {P : Program} {C : Cx} {E : Env} {mem : Nat → Option Blk} {nx : Nat} {W : World}

theorem Out.same {v : V} {c : Value} {r : Result Value} (h : InvM C E mem nx W) (hr : r = .ok c W) (hv : RL E v c) : Out C E mem nx ⟨v, none⟩ r :=
  ⟨c, W, E, hr, E.le_refl, h, hv⟩

/-- A new block. -/
theorem InvM.new (h : InvM C E mem nx W) {id : Nat} (hid : mem id = none) (hlt : id < nx) (I : Info) (k : Blk) (o : Obj) (hd : I.dead = false) (hB : I.blk = some W.heap.size)
    (hk : BlkOK (E.put id I) (W.alloc o) I k) : E.le (E.put id I) ∧ InvM C (E.put id I) (upd mem id (some k)) nx (W.alloc o) := by
  have hs : E.σ id = none := by
    cases hs : E.σ id with
    | none => rfl
    | some J =>
      obtain ⟨k', hk'⟩ := h.dom id J hs
      rw [hid] at hk'; cases hk'
  have hle : ∀ J, E.σ id = some J → J.le I := fun J hJ => by rw [hs] at hJ; cases hJ
  have := h.put (W' := W.alloc o) id I k none hle hd (fun B hB => by cases hB) ⟨rfl, rfl, rfl, by simp, fun k hk _ => by
    simp only [World.alloc, Array.getElem?_push]
    rw [if_neg (by omega)]⟩ (fun B hB' => by rw [hB] at hB'; cases hB'; exact .inl (Nat.le_refl _)) hk
  rw [Nat.max_eq_left (by omega)] at this
  exact ⟨Env.put_le hle, this⟩
theorem alloc_get (W : World) (o : Obj) : (W.alloc o).heap[W.heap.size]? = some o := heap_alloc_new W o

/-- A new variable. -/
theorem InvM.newBox (h : InvM C E mem nx W) {id : Nat} (hid : mem id = none) (hlt : id < nx) {cs : List V} {arr : Array Value} (t : TypeId) (hr : RLs E cs arr.toList) (hl : cs.all V.leaf = true) :
    ∃ E', E.le E' ∧ InvM C E' (upd mem id (some (.box cs))) nx (W.alloc (.cells arr t)) ∧ RL E' (.ptr id 0 0) (.pointer (some ⟨W.heap.size, 0, none⟩)) := by
  have hlen := RLs.length _ _ hr
  have hs : E.le (E.put id ⟨false, some W.heap.size, 0, 0, 0⟩) := Env.put_le fun J hJ => by
    obtain ⟨k', hk'⟩ := h.dom id J hJ
    rw [hid] at hk'; cases hk'
  obtain ⟨h1, h2⟩ := h.new hid hlt ⟨false, some W.heap.size, 0, 0, 0⟩ (.box cs) (.cells arr t) rfl rfl
    ⟨rfl, rfl, rfl, W.heap.size, arr, t, rfl, alloc_get W _, by simp at hlen; omega, hl, by
      have : arr.toList.take cs.length = arr.toList := List.take_of_length_le (by omega)
      rw [this]
      exact RLs.mono hs _ _ hr⟩
  refine ⟨_, h1, h2, ?_⟩
  simp only [RL]
  exact ⟨W.heap.size, rfl, ⟨false, some W.heap.size, 0, 0, 0⟩, by simp [Env.put, upd], .inr ⟨Nat.le_refl _, fun _ => rfl⟩⟩

/-- A new row of elements. -/
theorem InvM.newArr (h : InvM C E mem nx W) {id : Nat} (hid : mem id = none) (hlt : id < nx) {cs : List V} {arr : Array Value} {te : TypeId} {e n len cap : Nat} (he : 0 < e) (hn : cs.length = n * e) (hcap : arr.size = cap * e) (hm : cap ≤ maxLen)
    (hlc : len ≤ cap) (hr : RLs E cs (arr.toList.take cs.length)) (hl : cs.all V.leaf = true) :
    ∃ E', E.le E' ∧ InvM C E' (upd mem id (some (.arr te e 0 cs))) nx (W.alloc (.cells arr te)) ∧ RL E' (.sl id 0 e 0 len) (.slice (some ⟨W.heap.size, 0, none⟩) len cap) := by
  have hlen := RLs.length _ _ hr
  have hs : E.le (E.put id ⟨false, some W.heap.size, e, cap, 0⟩) := Env.put_le fun J hJ => by
    obtain ⟨k', hk'⟩ := h.dom id J hJ
    rw [hid] at hk'; cases hk'
  obtain ⟨h1, h2⟩ := h.new hid hlt ⟨false, some W.heap.size, e, cap, 0⟩ (.arr te e 0 cs) (.cells arr te) rfl rfl
    ⟨rfl, rfl, rfl, he, hl, ⟨n, hn⟩, .inr ⟨W.heap.size, arr, rfl, alloc_get W _, hcap, hm, by simp at hlen; omega, RLs.mono hs _ _ hr⟩⟩
  refine ⟨_, h1, h2, ?_⟩
  simp only [RL]
  exact ⟨_, cap, rfl, hlc, he, .inr ⟨W.heap.size, by simp⟩, ⟨false, some W.heap.size, e, cap, 0⟩, by simp [Env.put, upd], .inr ⟨Nat.le_refl _, fun _ => ⟨rfl, .inr ⟨W.heap.size, rfl, by simp, by simp⟩⟩⟩⟩

/-- What is behind a pointer of the function's own. -/
theorem InvM.at_ (h : InvM C E mem nx W) {b ver o : Nat} {c : Value} {k : Blk} (hp : RL E (.ptr b ver o) c) (hm : mem b = some k) (hv : k.hasVer ver = true) :
    ∃ I B cur t, E.σ b = some I ∧ I.dead = false ∧ I.ver = ver ∧ I.blk = some B ∧ c = .pointer (some ⟨B, o, none⟩) ∧
      (k.cells ≠ [] → W.heap[B]? = some (.cells cur t (0, 0))) ∧ (k.cells = [] ∨ k.cells.length ≤ cur.size) ∧ k.cells.all V.leaf = true ∧ (k.cells = [] ∨ RLs E k.cells (cur.toList.take k.cells.length)) ∧ BlkOK E W I k := by
  obtain ⟨I, h1, h2⟩ := h.blk b k hm
  simp only [RL] at hp
  obtain ⟨Bp, rfl, J, h3, h4⟩ := hp
  rw [h1] at h3; cases h3
  cases k with
  | dead => cases hv
  | box cs =>
    simp [Blk.hasVer] at hv; subst hv
    have h2' := h2
    obtain ⟨a1, a2, a3, B, cur, t, a4, a5, a6, a7, a8⟩ := h2
    rcases h4 with h4 | ⟨h4, h5⟩
    · rw [a1] at h4; cases h4
    · have h6 := h5 a2.symm
      rw [a4] at h6
      obtain rfl : B = Bp := Option.some.inj h6
      exact ⟨I, B, cur, t, h1, a1, a2, a4, rfl, fun _ => a5, .inr a6, a7, .inr a8, h2'⟩
  | arr te e v cs =>
    simp [Blk.hasVer] at hv; subst hv
    have h2' := h2
    obtain ⟨a1, a2, a3, a4, a5, a6, a7⟩ := h2
    rcases h4 with h4 | ⟨h4, h5⟩
    · rw [a1] at h4; cases h4
    · have h6 := h5 a2.symm
      rcases a7 with ⟨a7, a8⟩ | ⟨B, cur, b1, b2, b3, b4, b5, b6⟩
      · rw [a7] at h6; cases h6
      · rw [b1] at h6
        obtain rfl : B = Bp := Option.some.inj h6
        exact ⟨I, B, cur, te, h1, a1, a2, b1, rfl, fun _ => b2, .inr b5, a5, .inr b6, h2'⟩

theorem load_ok (h : InvM C E mem nx W) {t : TypeId} {a : V} {c : Value} {fx : Fx} (ha : RL E a c) (hfx : fxLoad P t a mem = some fx) : Out C E mem nx fx ((Instr.loadAt t c).run P W) := by
  unfold fxLoad at hfx
  split at hfx
  · rename_i ti hti
    split at hfx
    · rename_i b ver o
      split at hfx
      · rename_i k hk
        split at hfx
        · rename_i hver
          cases hl : loadV ti (k.cells.drop o) with
          | none => rw [hl] at hfx; cases hfx
          | some v =>
            rw [hl] at hfx; cases hfx
            obtain ⟨I, B, cur, t', g1, g2, g3, g4, rfl, g5, g6, g7, g8, g9⟩ := h.at_ ha hk hver
            by_cases hne : k.cells = []
            · rw [hne] at hl
              unfold loadV at hl
              simp at hl
              -- nothing is read: an empty struct
              obtain ⟨hz1, hz2, rfl⟩ := hl
              refine Out.same h (c := .agg #[]) ?_ (by simp only [RL]; exact ⟨[], rfl, by simp [RLs], by simp⟩)
              simp [Instr.loadAt, Instr.sureAddr, loadVar, run_isAgg hti, hz1, run_sizeOf hti, hz2, Result.andThen, loadCells, loadCellsFrom]
            · rcases g8 with g8 | g8
              · exact absurd g8 hne
              obtain ⟨c', r1, r2⟩ := run_loadVar (P := P) (E := E) hti (cellsAt_heap (g5 hne) o k.cells.length) (g8.drop o) (all_drop g7 o) hl
              exact Out.same h (by simp [Instr.loadAt, Instr.sureAddr, Result.andThen, r1]) r2
        · cases hfx
      · cases hfx
    · rename_i cs
      cases hl : loadV ti cs with
      | none => rw [hl] at hfx; cases hfx
      | some v =>
        rw [hl] at hfx; cases hfx
        simp only [RL] at ha
        obtain ⟨B, o, rfl, g1, g2⟩ := ha
        obtain ⟨ds, g3, g4⟩ := RF.list cs o g1
        obtain ⟨c', r1, r2⟩ := run_loadVar (P := P) (E := E) (W := W) hti (B := B) (o := o) (fun j d hj => h.frz _ _ _ (g4 j d hj)) g3 g2 hl
        exact Out.same h (by simp [Instr.loadAt, Instr.sureAddr, Result.andThen, r1]) r2
    · cases hfx
  · cases hfx

theorem RLs.splice {cs ds : List V} {as bs : List Value} (h : RLs E cs as) (k : RLs E ds bs) (o : Nat) : RLs E (splice cs o ds) (as.take o ++ bs ++ as.drop (o + bs.length)) := by
  unfold Abs.splice
  rw [← RLs.length _ _ k]
  exact RLs.append (RLs.append (h.take o) k) (h.drop _)
theorem splice_length {cs ds : List V} {o : Nat} (h : o + ds.length ≤ cs.length) : (splice cs o ds).length = cs.length := by
  unfold splice; simp; omega
theorem splice_leaf {cs ds : List V} {o : Nat} (h : cs.all V.leaf = true) (k : ds.all V.leaf = true) : (splice cs o ds).all V.leaf = true := by
  unfold splice
  simp only [List.all_append, all_take h, all_drop h, k, Bool.and_self]

theorem store_ok (h : InvM C E mem nx W) {t : TypeId} {a x : V} {c d : Value} {fx : Fx} (ha : RL E a c) (hx : RL E x d) (hfx : fxStore P t a x mem = some fx) :
    ∃ W' E' b k, (Instr.storeAt t c d).run P W = .ok () W' ∧ E.le E' ∧ fx = ⟨.any, some (b, k)⟩ ∧ InvM C E' (upd mem b (some k)) nx W' := by
  unfold fxStore at hfx
  split at hfx
  · rename_i ti hti
    split at hfx
    · rename_i b ver o ds hds
      split at hfx
      · rename_i k hk
        split at hfx
        · rename_i hc
          obtain ⟨hver, hsz, hfit⟩ := hc
          cases hfx
          obtain ⟨I, B, cur, t', g1, g2, g3, g4, rfl, g5, g6, g7, g8, g9⟩ := h.at_ ha hk hver
          obtain ⟨x1, x2, x3⟩ := cells_of hx hds
          have hlen := RLs.length _ _ x1
          have hb := h.nx b k hk
          by_cases hne : k.cells = []
          · -- nothing is stored
            rw [hne] at hfit
            have hd0 : ds = [] := List.eq_nil_of_length_eq_zero (by have : ([] : List V).length = 0 := rfl; omega)
            subst hd0
            have ho : o = 0 := by have : ([] : List V).length = 0 := rfl; omega
            have hs : splice k.cells o [] = k.cells := by rw [hne]; simp [splice]
            have hput : k.put (splice k.cells o []) = k := by rw [hs]; cases k <;> rfl
            refine ⟨W, E, b, k, ?_, E.le_refl, by rw [hput], ?_⟩
            · have : d.cells.toList = [] := List.eq_nil_of_length_eq_zero (by simpa using hlen)
              have h0 : d.cells.size = 0 := by rw [← Array.length_toList, this]; rfl
              simp at hsz
              simp [Instr.storeAt, Instr.sureAddr, Result.andThen, storeVar, run_sizeOf hti, h0, ← hsz, this, storeCells]
            · have : upd mem b (some k) = mem := by funext i; unfold upd; split <;> simp_all
              rw [this]; exact h
          · have hh := g5 hne
            rcases g6 with g6 | g6
            · exact absurd g6 hne
            rcases g8 with g8 | g8
            · exact absurd g8 hne
            have hst := run_storeCells_at (P := P) B o t' d.cells.toList 0 cur W hh (by omega) (fun v hv => by rw [← flat1_eq]; exact x3 v hv)
            simp only [Nat.add_zero] at hst
            have hl2 : d.cells.size = ti.size := by rw [← Array.length_toList, hlen, hsz]
            refine ⟨W.setRow B ((cur.toList.take o ++ d.cells.toList ++ cur.toList.drop (o + d.cells.toList.length)).toArray), E.put b I, b, _, ?_, Env.put_le (fun J hJ => by rw [g1] at hJ; cases hJ; exact Info.le_refl _), rfl, ?_⟩
            · simp [Instr.storeAt, Instr.sureAddr, Result.andThen, storeVar, run_sizeOf hti, hl2, hst]
            · have hW' := setRow_heap W B cur ((cur.toList.take o ++ d.cells.toList ++ cur.toList.drop (o + d.cells.toList.length)).toArray) t' (0, 0) hh
              have hle : ∀ J, E.σ b = some J → J.le I := fun J hJ => by rw [g1] at hJ; cases hJ; exact Info.le_refl _
              have hEs := Env.put_le hle
              have hnew : ∀ n, n = k.cells.length → RLs (E.put b I) (splice k.cells o ds) (((cur.toList.take o ++ d.cells.toList ++ cur.toList.drop (o + d.cells.toList.length)).toArray).toList.take n) := by
                intro n hn
                subst hn
                have r1 := (RLs.splice (E := E) g8 x1 o)
                refine RLs.mono hEs _ _ ?_
                have e : (((cur.toList.take o ++ d.cells.toList ++ cur.toList.drop (o + d.cells.toList.length)).toArray).toList.take k.cells.length) =
                    ((cur.toList.take k.cells.length).take o ++ d.cells.toList ++ (cur.toList.take k.cells.length).drop (o + d.cells.toList.length)) := by
                  apply List.ext_getElem?
                  intro i
                  simp only [List.getElem?_take, List.getElem?_append, List.getElem?_drop, List.length_append, List.length_take, Array.length_toList, List.toList_toArray]
                  have hl3 : d.cells.size = ds.length := by rw [← Array.length_toList, hlen]
                  repeat' split
                  all_goals first | rfl | omega | (simp only [Array.getElem?_toList]; congr 1; omega) | skip
                  all_goals (exfalso; omega)
                rw [e]; exact r1
              have hput := h.put (W' := W.setRow B ((cur.toList.take o ++ d.cells.toList ++ cur.toList.drop (o + d.cells.toList.length)).toArray)) b I (k.put (splice k.cells o ds)) (some B) hle g2
                (fun B' e => by cases e; exact ⟨I, g1, g2, g4⟩) ⟨rfl, rfl, rfl, by simp [World.setRow], fun k' _ hk' => setRow_other W B k' _ (fun e => hk' (by rw [e]))⟩
                (fun B' e => .inr ⟨I, g1, g2, e⟩) (by
                  have hsp := splice_length (cs := k.cells) hfit
                  have hspl := splice_leaf (o := o) g7 x2
                  have hcs : ((cur.toList.take o ++ d.cells.toList ++ cur.toList.drop (o + d.cells.toList.length)).toArray).size = cur.size := by
                    have hl3 : d.cells.size = ds.length := by rw [← Array.length_toList, hlen]
                    simp; omega
                  cases k with
                  | dead => cases hver
                  | box cs =>
                    obtain ⟨a1, a2, a3, _⟩ := g9
                    simp only [Blk.put, Blk.cells] at *
                    exact ⟨a1, a2, a3, B, _, t', g4, hW', by rw [hcs, hsp]; exact g6, hspl, hnew _ hsp⟩
                  | arr te e v cs =>
                    obtain ⟨a1, a2, a3, a4, a5, ⟨n, a6⟩, a7⟩ := g9
                    simp only [Blk.put, Blk.cells] at *
                    refine ⟨a1, a2, a3, a4, hspl, ⟨n, by rw [hsp]; exact a6⟩, .inr ?_⟩
                    rcases a7 with ⟨a7, _⟩ | ⟨B', cur', b1, b2, b3, b4, b5, b6⟩
                    · rw [g4] at a7; cases a7
                    · rw [g4] at b1; cases b1
                      rw [hh] at b2; cases b2
                      exact ⟨B, _, g4, hW', by rw [hcs]; exact b3, b4, by rw [hcs, hsp]; exact b5, hnew _ hsp⟩)
              rw [Nat.max_eq_left (by omega)] at hput
              exact hput
        · cases hfx
      · cases hfx
    · cases hfx
  · cases hfx
end
end Go.Abs
