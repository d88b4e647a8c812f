/- Laws about heaps and calls that the walks use. Conditions: as each theorem states them. -/
import Derived.Test.YtdihhgkihbnnoaaAbsJ
namespace Go.Abs
set_option linter.unusedVariables false
set_option linter.unusedSimpArgs false

def refs1 : V → List Nat
  | .sl b .. => [b]
  | .ptr b .. => [b]
  | _ => []
def opTouch (op : Op) (ev : Operand → V) : List Nat :=
  match op with
  | .load _ a => refs1 (ev a)
  | .store _ a _ => refs1 (ev a)
  | .call { callee := .builtin .append, args, .. } => (args.toList.map ev).flatMap refs1
  | _ => []
def wrOp : Op → Bool
  | .store .. => true
  | .call { callee := .builtin .append, .. } => true
  | _ => false
def tcOp : Op → Bool
  | .load .. | .store .. => true
  | .call { callee := .builtin .append, .. } => true
  | .call { callee := .value _, .. } => true
  | _ => false

theorem srcV_local {mem mem2 : Nat → Option Blk} {e : Nat} {x : V} (h : ∀ b ∈ refs1 x, mem2 b = mem b) : srcV mem2 e x = srcV mem e x := by
  cases x with
  | sl b ver e0 off len => simp only [refs1, List.mem_singleton, forall_eq] at h; simp only [srcV, h]
  | sc v =>
    unfold srcV
    split <;> simp_all
  | _ => rfl
theorem evAppend_local {P : Program} {t : TypeId} {s x : V} {mem mem2 : Nat → Option Blk} {id : Nat} (hs : ∀ b ∈ refs1 s, mem2 b = mem b) (hx : ∀ b ∈ refs1 x, mem2 b = mem b) : evAppend P t s x mem2 id = evAppend P t s x mem id := by
  unfold evAppend
  simp only [srcV_local hx]
  cases s with
  | sl b ver e0 off len =>
    simp only [refs1, List.mem_singleton, forall_eq] at hs
    cases off with
    | zero => simp only [hs]
    | succ n => rfl
  | sc v =>
    split
    · split
      · split
        · split
          · split <;> first | rfl | simp_all
          · rfl
        · rfl
      · rfl
    · rfl
  | _ => rfl
theorem opFx_local {P : Program} {op : Op} {ev : Operand → V} {mem mem2 : Nat → Option Blk} {id : Nat} (h : ∀ b ∈ opTouch op ev, mem2 b = mem b) : opFx P op ev mem2 id = opFx P op ev mem id := by
  unfold opFx
  split
  case h_23 => rfl
  all_goals try rfl
  · rename_i t a
    simp only [opTouch] at h
    unfold fxLoad
    split
    · split
      · rename_i b ver o hb
        simp only [hb, refs1, List.mem_singleton, forall_eq] at h
        rw [h]
      · rfl
      · rfl
    · rfl
  · rename_i t a x
    simp only [opTouch] at h
    unfold fxStore
    split
    · split
      · rename_i b ver o ds hb hds
        simp only [hb, refs1, List.mem_singleton, forall_eq] at h
        rw [h]
      · rfl
    · rfl
  · rename_i b args ts
    unfold evBuiltin
    split
    · rfl
    · rename_i s x hsx
      simp only [opTouch, hsx] at h
      split
      · split
        · split
          · rw [evAppend_local (fun b hb => h b (by simp [hb])) (fun b hb => h b (by simp [hb]))]
          · rfl
        · rfl
      · rfl
    · rfl
    · rfl
    · rfl
theorem evAppend_up {P : Program} {t : TypeId} {s x : V} {mem : Nat → Option Blk} {id : Nat} {fx : Fx} (h : evAppend P t s x mem id = some fx) {b : Nat} {k : Blk} (hu : fx.up = some (b, k)) : b = id ∨ b ∈ refs1 s := by
  unfold evAppend at h
  split at h
  · split at h
    · split at h
      · split at h
        · split at h
          · split at h
            · cases h
            · split at h
              · cases h; simp at hu; exact .inl hu.1.symm
              · cases h
          · split at h
            · split at h
              · cases h; simp at hu; exact .inr (by simp [refs1, hu.1])
              · cases h
            · cases h
          · cases h
        · cases h
      · cases h
    · cases h
  · cases h
theorem opFx_up {P : Program} {op : Op} {ev : Operand → V} {mem : Nat → Option Blk} {id : Nat} {fx : Fx} (h : opFx P op ev mem id = some fx) {b : Nat} {k : Blk} (hu : fx.up = some (b, k)) : b = id ∨ (wrOp op = true ∧ b ∈ opTouch op ev) := by
  have none_ : ∀ {v : V} {o : Option V}, o.map (fun v => (⟨v, none⟩ : Fx)) = some fx → False := by
    intro v o ho
    cases o with
    | none => cases ho
    | some x => cases ho; cases hu
  have mapNone : ∀ {α : Type} {g : α → V} {o : Option α}, o.map (fun x => (⟨g x, none⟩ : Fx)) = some fx → False := by
    intro α g o ho
    cases o with
    | none => cases ho
    | some x => cases ho; cases hu
  have fxNone : ∀ {v : V}, some (⟨v, none⟩ : Fx) = some fx → False := by
    intro v ho; cases ho; cases hu
  unfold opFx at h
  split at h
  all_goals try exact (fxNone h).elim
  · unfold fxPick at h; split at h <;> first | exact (fxNone h).elim | cases h
  · unfold fxAlloc at h
    split at h
    · split at h
      · cases h; simp at hu; exact .inl hu.1.symm
      · cases h
    · cases h
  · unfold fxBox at h
    split at h
    · cases h; simp at hu; exact .inl hu.1.symm
    · cases h
  · unfold fxBuild at h
    split at h
    · split at h
      · split at h
        · split at h
          · exact (mapNone h).elim
          · cases h
        · split at h
          · exact (mapNone h).elim
          · cases h
        · cases h
      · cases h
    · cases h
  · unfold fxBuildSlice at h
    split at h
    · split at h
      · split at h
        · revert h; generalize fillV _ _ _ = q; cases q <;> intro h <;> cases h
          simp at hu; exact .inl hu.1.symm
        · cases h
      · cases h
    · cases h
  · unfold fxLoad at h
    split at h
    · split at h
      · split at h
        · split at h
          · exact (none_ (v := .any) h).elim
          · cases h
        · cases h
      · exact (none_ (v := .any) h).elim
      · cases h
    · cases h
  · rename_i t a x
    unfold fxStore at h
    split at h
    · split at h
      · rename_i b' ver o ds hb hds
        split at h
        · split at h
          · cases h; simp at hu; exact .inr ⟨rfl, by simp [opTouch, hb, refs1, hu.1]⟩
          · cases h
        · cases h
      · cases h
    · cases h
  · unfold fxNilCheck at h
    split at h <;> first | exact (fxNone h).elim | cases h
  · unfold fxFieldAddr at h
    split at h
    · split at h
      · split at h
        · split at h
          · cases h
          · split at h
            · exact (fxNone h).elim
            · exact (fxNone h).elim
            · cases h
        · cases h
      · cases h
    · cases h
  · unfold fxField at h
    split at h
    · split at h
      · split at h
        · split at h
          · split at h
            · exact (fxNone h).elim
            · cases h
          · exact (none_ (v := .any) h).elim
        · cases h
      · cases h
    · cases h
  · unfold fxIndexAddr at h
    split at h
    · split at h
      · split at h
        · split at h
          · split at h
            · exact (fxNone h).elim
            · cases h
          · split at h
            · exact (fxNone h).elim
            · cases h
          · cases h
        · cases h
      · split at h
        · split at h
          · split at h
            · exact (fxNone h).elim
            · exact (fxNone h).elim
            · cases h
          · cases h
        · cases h
      · cases h
    · cases h
  · unfold fxIndex at h
    split at h
    · split at h
      · split at h
        · split at h
          · split at h
            · exact (fxNone h).elim
            · cases h
          · exact (none_ (v := .any) h).elim
        · cases h
      · cases h
    · split at h
      · exact (fxNone h).elim
      · cases h
    · cases h
  · unfold fxSlice at h
    split at h
    · split at h
      · split at h
        · split at h
          · split at h
            · exact (fxNone h).elim
            · cases h
          · cases h
        · split at h
          · split at h
            · exact (fxNone h).elim
            · split at h
              · exact (fxNone h).elim
              · cases h
          · cases h
        · cases h
      · cases h
    · cases h
  · unfold fxExtract at h
    split at h
    · exact (none_ (v := .any) h).elim
    · cases h
  · unfold fxMakeSlice at h
    split at h
    · split at h
      · split at h
        · cases h; simp at hu; exact .inl hu.1.symm
        · cases h
      · cases h
    · cases h
  · split at h
    · exact (fxNone h).elim
    · cases h
  · exact (none_ (v := .any) h).elim
  · exact (none_ (v := .any) h).elim
  · unfold fxConvert at h
    split at h
    · exact (fxNone h).elim
    · cases h
  · rename_i b' args ts
    unfold evBuiltin at h
    split at h
    · split at h
      · split at h
        all_goals first | exact (fxNone h).elim | (cases h; done)
      · cases h
    · rename_i s x hsx
      split at h
      · split at h
        · split at h
          · rcases evAppend_up h hu with h | h
            · exact .inl h
            · exact .inr ⟨rfl, by simp only [opTouch, hsx]; simp [h]⟩
          · cases h
        · cases h
      · cases h
    · exact (none_ (v := .any) h).elim
    · exact (none_ (v := .any) h).elim
    · cases h
  · cases h
end Go.Abs
