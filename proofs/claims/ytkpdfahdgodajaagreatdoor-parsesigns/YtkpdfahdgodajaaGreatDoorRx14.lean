/- The reflective executor, part 14: operations keep the caller's base. -/
import Derived.Test.YtkpdfahdgodajaaGreatDoorRx13
namespace Go.Rx
open Go.RowKit
noncomputable section
section
variable {P : Program} {S : St}
def NX.st : NX → St
  | .val _ S => S
  | .unit S => S
  | .enter _ _ S => S
  | .round _ _ _ _ S => S
  | .dfr _ S => S
theorem write_base {i off : Nat} {vs : List AV} {S' : St} (hl : S.write i off vs = some S') : S'.base = S.base := by
  unfold St.write at hl
  (repeat' split at hl) <;> simp at hl
  subst hl; rfl
theorem store_base {t : TypeId} {v u : AV} {S' : St} (hl : xStore P t v u S = some S') : S'.base = S.base := by
  unfold xStore at hl
  split at hl <;> try (simp at hl; done)
  split at hl <;> try (simp at hl; done)
  split at hl <;> try (simp at hl; done)
  exact write_base hl
theorem buildSlice_base {t : TypeId} {len : Nat} {parts : List (Nat × AV)} {u : AV × St} (hl : xBuildSlice P t len parts S = some u) : u.2.base = S.base := by
  unfold xBuildSlice at hl
  (repeat' split at hl) <;> simp at hl
  subst hl; rfl
theorem makeSlice_base {t : TypeId} {l c : AV} {u : AV × St} (hl : xMakeSlice P t l c S = some u) : u.2.base = S.base := by
  unfold xMakeSlice at hl
  (repeat' split at hl) <;> simp at hl
  subst hl; rfl
theorem append_base {t xt : TypeId} {s x : AV} {u : AV × St} (hl : xAppend P t xt s x S = some u) : u.2.base = S.base := by
  unfold xAppend at hl
  split at hl <;> try (simp at hl; done)
  split at hl <;> try (simp at hl; done)
  split at hl <;> try (simp at hl; done)
  split at hl <;> try (simp at hl; done)
  split at hl <;> try (simp at hl; done)
  · split at hl
    · simp at hl; subst hl; rfl
    · split at hl <;> simp at hl
      subst hl; rfl
  · split at hl
    · split at hl <;> simp at hl
      rename_i S' hw
      subst hl
      exact write_base hw
    · split at hl <;> try (simp at hl; done)
      split at hl <;> simp at hl
      subst hl; rfl
  · split at hl <;> try (simp at hl; done)
    split at hl <;> simp at hl
    subst hl; rfl
theorem unsafeStr_base {pt : TypeId} {v n : AV} {u : AV × St} (hl : xUnsafeStr P pt v n S = some u) : u.2.base = S.base := by
  unfold xUnsafeStr at hl
  split at hl <;> try (simp at hl; done)
  · split at hl <;> try (simp at hl; done)
    split at hl <;> try (simp at hl; done)
    split at hl <;> simp at hl
    subst hl; rfl
  · simp at hl; subst hl; rfl
theorem builtin_base {b : Builtin} {ts : Array TypeId} {ty : TypeId} {args : List AV} {u : AV × St} (hl : xBuiltin P b ts ty args S = some u) : u.2.base = S.base := by
  unfold xBuiltin at hl
  split at hl <;> try (simp at hl; done)
  · split at hl <;> simp at hl; subst hl; rfl
  · split at hl <;> simp at hl; subst hl; rfl
  · exact append_base hl
  · split at hl <;> simp at hl; subst hl; rfl
  · exact unsafeStr_base hl
  · exact unsafeStr_base hl
  · (repeat' split at hl) <;> simp at hl; subst hl; rfl
  · (repeat' split at hl) <;> simp at hl; subst hl; rfl
theorem conv_base {src dst : TypeId} {v : AV} {u : AV × St} (hl : xConv P src dst v S = some u) : u.2.base = S.base := by
  unfold xConv at hl
  (repeat' split at hl) <;> simp at hl <;> (subst hl; rfl)
theorem range_base {t : TypeId} {v : AV} {u : AV × St} (hl : xRange P t v S = some u) : u.2.base = S.base := by
  unfold xRange at hl
  split at hl <;> simp at hl
  subst hl; rfl
theorem next_base {v : AV} {u : AV × St} (hl : xNext v S = some u) : u.2.base = S.base := by
  unfold xNext at hl
  (repeat' split at hl) <;> simp at hl <;> (subst hl; rfl)
/-- Handlers keep it too. -/
def EB (E : Ext) : Prop := ∀ (f : FuncId) (args : List AV) (S : St) (n : NX), E f args S = some n → n.st.base = S.base
variable {G : Nat} {E : Ext}
theorem enter_base (hE : EB E) {f : FuncId} {args : List AV} {n : NX} (hl : xEnter P G E f args S = some n) : n.st.base = S.base := by
  unfold xEnter at hl
  split at hl
  · simp at hl; subst hl; rfl
  · split at hl
    · rename_i n' hn
      simp at hl; subst hl
      exact hE _ _ _ _ hn
    · (repeat' split at hl) <;> simp at hl
      subst hl; rfl
theorem call_base (hE : EB E) {A : List AV} {c : Call} {ty : TypeId} {n : NX} (hl : xCall P G E A S c ty = some n) : n.st.base = S.base := by
  unfold xCall at hl
  split at hl <;> try (simp at hl; done)
  split at hl
  · split at hl <;> simp at hl
    rename_i hb
    subst hl
    exact builtin_base hb
  · split at hl <;> try (simp at hl; done)
    · exact enter_base hE hl
    · split at hl <;> try (simp at hl; done)
      split at hl <;> simp at hl
      subst hl; rfl
  · split at hl <;> try (simp at hl; done)
    split at hl <;> try (simp at hl; done)
    exact enter_base hE hl
theorem xop_base (hE : EB E) {A : List AV} {o : Oper} {n : NX} (hl : xop P G E A S o = some n) : n.st.base = S.base := by
  obtain ⟨dst, op, ty, pos, after, guard⟩ := o
  unfold xop at hl
  simp only at hl
  split at hl <;> try (exact call_base hE hl)
  all_goals try (simp at hl; done)
  all_goals (repeat' split at hl)
  all_goals try (simp at hl; done)
  all_goals (simp at hl; subst hl)
  all_goals first | rfl | (exact store_base (by assumption)) | (exact buildSlice_base (by assumption)) | (exact makeSlice_base (by assumption)) | (exact conv_base (by assumption)) | (exact range_base (by assumption)) | (exact next_base (by assumption))
end
end
end Go.Rx
