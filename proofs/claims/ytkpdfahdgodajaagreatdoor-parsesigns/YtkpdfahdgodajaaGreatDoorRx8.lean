/- The reflective executor, part 8: all operations. -/
import Derived.Test.YtkpdfahdgodajaaGreatDoorRx7
import Derived.Lib.UnsafeStr
namespace Go.Rx
noncomputable section
open Go.RowKit
section
variable {P : Program} {G B : Nat} {w0 w : World} {ε : Env} {S : St}

/-- What a computation yields that asks nothing but the program; marks are passed by. -/
def pureM {α : Type} (P : Program) : Sem α → Option α
  | .pure a => some a
  | .program k => pureM P (k P)
  | .mark _ k => pureM P k
  | _ => none
theorem pureM_run {α : Type} {P : Program} : ∀ {s : Sem α} {a : α}, pureM P s = some a → ∀ w, s.run P w = .ok a w
  | .pure b, a, h, w => by simp [pureM] at h; subst h; rfl
  | .program k, a, h, w => by simp only [pureM] at h; simpa [Sem.run] using pureM_run h w
  | .mark m k, a, h, w => by simp only [pureM] at h; simpa [Sem.run] using pureM_run h w
  | .load .., a, h, w => by simp [pureM] at h
  | .store .., a, h, w => by simp [pureM] at h
  | .new .., a, h, w => by simp [pureM] at h
  | .shape .., a, h, w => by simp [pureM] at h
  | .freeze .., a, h, w => by simp [pureM] at h
  | .frozen .., a, h, w => by simp [pureM] at h
  | .getObj .., a, h, w => by simp [pureM] at h
  | .setObj .., a, h, w => by simp [pureM] at h
  | .choose .., a, h, w => by simp [pureM] at h
  | .sys .., a, h, w => by simp [pureM] at h
  | .halt .., a, h, w => by simp [pureM] at h

/-- A closed value, strings too. -/
def scs : AV → Option Value
  | .int k n => some (.int k n)
  | .bool b => some (.bool b)
  | .flt k n => some (.float k n)
  | .str s => if okb s then some (.string (bs s)) else none
  | .nilslc => some (.slice none 0 0)
  | _ => none
theorem scs_γ {v : AV} {x : Value} (h : scs v = some x) : γ ε v = some x := by
  cases v <;> simp [scs] at h <;> simp [γ, h]
def scl : List AV → Option (List Value)
  | [] => some []
  | v :: l => match scs v with
    | some x => match scl l with
      | some xs => some (x :: xs)
      | none => none
    | none => none
theorem scl_γ : ∀ {l : List AV} {xs : List Value}, scl l = some xs → γs ε l = some xs
  | [], xs, h => by simp [scl] at h; subst h; rfl
  | v :: l, xs, h => by
    simp only [scl] at h
    split at h <;> try (simp at h; done)
    rename_i x hx
    split at h <;> try (simp at h; done)
    rename_i ys hy
    simp at h; subst h
    exact γs_cons.2 ⟨x, ys, scs_γ hx, scl_γ hy, rfl⟩

/-! ### Operands -/
/-- By the recursors themselves: the kernel takes fewer steps. -/
def nth (l : List AV) : Nat → AV := List.rec (motive := fun _ => Nat → AV) (fun _ => .tup []) (fun v _ ih n => Nat.rec (motive := fun _ => AV) v (fun m _ => ih m) n) l
theorem nth_eq : ∀ (l : List AV) (n : Nat), nth l n = l.getD n (.tup [])
  | [], n => rfl
  | v :: l, 0 => rfl
  | v :: l, n + 1 => (nth_eq l n).trans (by simp)
def setN (v : AV) (l : List AV) : Nat → List AV :=
  List.rec (motive := fun _ => Nat → List AV) (fun _ => []) (fun u l ih n => Nat.rec (motive := fun _ => List AV) (v :: l) (fun m _ => u :: ih m) n) l
theorem setN_eq (v : AV) : ∀ (l : List AV) (n : Nat), setN v l n = l.set n v
  | [], n => by cases n <;> rfl
  | u :: l, 0 => rfl
  | u :: l, n + 1 => by
    show u :: setN v l n = _
    rw [setN_eq v l n]; rfl
def ev (G : Nat) (A : List AV) : Operand → Option AV
  | .tmp t => some (nth A t)
  | .const v => cv 8 v
  | .global g => if g < G then some (.ptr g 0) else none
  | .func f => some (.func (.func f) [] [])
def evs (G : Nat) (A : List AV) : List Operand → Option (List AV)
  | [] => some []
  | x :: l => match ev G A x with
    | some v => match evs G A l with
      | some vs => some (v :: vs)
      | none => none
    | none => none
/-- The activation is what the list says; 'ds' are laid behind. -/
structure AR (ε : Env) (ds : List Deferred) (A : List AV) (a : Act) : Prop where
  tmps : γs ε A = some a.tmps.toList
  defers : a.defers = ds
theorem AR.mono {ε' : Env} (hle : ε.le ε') {ds : List Deferred} {A : List AV} {a : Act} (h : AR ε ds A a) : AR ε' ds A a := ⟨γs_mono hle _ _ h.tmps, h.defers⟩
theorem ev_γ (h : Rel G B w0 ε S w) {ds : List Deferred} {A : List AV} {a : Act} (ha : AR ε ds A a) {x : Operand} {v : AV} (he : ev G A x = some v) : γ ε v = some (a.eval x) := by
  cases x with
  | tmp t =>
    simp [ev, nth_eq] at he; subst he
    simp only [Act.eval]
    cases hg : A[t]? with
    | none =>
      have := γs_get_none ha.tmps hg
      have h2 : a.tmps[t]? = none := by simpa using this
      simp [Array.getD_eq_getD_getElem?, h2, γ, γs, undef, hg]
    | some v =>
      obtain ⟨y, h1, h2⟩ := γs_get ha.tmps hg
      have h3 : a.tmps[t]? = some y := by simpa using h1
      simp [List.getD, hg, Array.getD_eq_getD_getElem?, h3, h2]
  | const v => exact cv_sound ε 8 _ _ he
  | global g =>
    simp only [ev] at he
    split at he <;> simp at he
    rename_i hg
    subst he
    simp [γ, h.glob g hg, Act.eval]
  | func f => simp [ev] at he; subst he; simp [γ, γs, Act.eval]
theorem evs_γ (h : Rel G B w0 ε S w) {ds : List Deferred} {A : List AV} {a : Act} (ha : AR ε ds A a) : ∀ {l : List Operand} {vs : List AV}, evs G A l = some vs → γs ε vs = some (l.map a.eval)
  | [], vs, he => by simp [evs] at he; subst he; rfl
  | x :: l, vs, he => by
    simp only [evs] at he
    split at he <;> try (simp at he; done)
    rename_i v hv
    split at he <;> try (simp at he; done)
    rename_i us hu
    simp at he; subst he
    exact γs_cons.2 ⟨_, _, ev_γ h ha hv, evs_γ h ha hu, rfl⟩
def evo (G : Nat) (A : List AV) : Option Operand → Option (Option AV)
  | none => some none
  | some x => match ev G A x with
    | some v => some (some v)
    | none => none
theorem evo_γ (h : Rel G B w0 ε S w) {ds : List Deferred} {A : List AV} {a : Act} (ha : AR ε ds A a) {x : Option Operand} {v : Option AV} (he : evo G A x = some v) : γo ε v = some (x.map a.eval) := by
  cases x with
  | none => simp [evo] at he; subst he; rfl
  | some x =>
    simp only [evo] at he
    split at he <;> simp at he
    rename_i u hu
    subst he
    simp [γo, ev_γ h ha hu]
def evp (G : Nat) (A : List AV) : List (Nat × Operand) → Option (List (Nat × AV))
  | [] => some []
  | (i, x) :: l => match ev G A x with
    | some v => match evp G A l with
      | some vs => some ((i, v) :: vs)
      | none => none
    | none => none
theorem evp_γ (h : Rel G B w0 ε S w) {ds : List Deferred} {A : List AV} {a : Act} (ha : AR ε ds A a) : ∀ {l : List (Nat × Operand)} {vs : List (Nat × AV)}, evp G A l = some vs → γp ε vs = some (l.map fun (i, x) => (i, a.eval x))
  | [], vs, he => by simp [evp] at he; subst he; rfl
  | (i, x) :: l, vs, he => by
    simp only [evp] at he
    split at he <;> try (simp at he; done)
    rename_i v hv
    split at he <;> try (simp at he; done)
    rename_i us hu
    simp at he; subst he
    simp [γp, ev_γ h ha hv, evp_γ h ha hu]

/-! ### Builtins -/
def xLen (P : Program) (t : TypeId) (v : AV) : Option Nat :=
  match P.underlying t, v with
  | some .string, .str s => some s.length
  | some (.slice _), .slc _ _ len _ => some len
  | some (.slice _), .nilslc => some 0
  | some (.map _ _), .nilmap => some 0
  | some (.array n _), _ => some n
  | _, _ => none
theorem len_run {t ty : TypeId} {v : AV} {x : Value} {n : Nat} (hv : γ ε v = some x) (hl : xLen P t v = some n) : (Builtin.len_ #[t] ty #[x]).run P w = .ok (.int .i64 n) w := by
  unfold xLen at hl
  split at hl <;> simp at hl
  · rename_i s ht
    subst hl
    simp only [γ] at hv
    split at hv <;> simp at hv
    subst hv
    simp [Builtin.len_, run_underlying ht, goInt, bs_size]
  · rename_i e i off len c ht
    subst hl
    simp only [γ, Option.map_eq_some_iff] at hv
    obtain ⟨b, hb, rfl⟩ := hv
    simp [Builtin.len_, run_underlying ht, goInt]
  · rename_i e ht
    subst hl
    simp only [γ, Option.some.injEq] at hv
    subst hv
    simp [Builtin.len_, run_underlying ht, goInt]
  · rename_i k e ht
    subst hl
    simp only [γ, Option.some.injEq] at hv
    subst hv
    simp [Builtin.len_, run_underlying ht, goInt]
  · rename_i n0 e ht
    subst hl
    simp [Builtin.len_, run_underlying ht, goInt]
def xCap (P : Program) (t : TypeId) (v : AV) : Option Nat :=
  match P.underlying t, v with
  | some (.slice _), .slc _ _ _ (.ex c) => some c
  | some (.slice _), .nilslc => some 0
  | some (.array n _), _ => some n
  | _, _ => none
theorem cap_run {t ty : TypeId} {v : AV} {x : Value} {n : Nat} (hv : γ ε v = some x) (hl : xCap P t v = some n) : (Builtin.cap_ #[t] ty #[x]).run P w = .ok (.int .i64 n) w := by
  unfold xCap at hl
  split at hl <;> simp at hl
  · rename_i e i off len c ht
    subst hl
    simp only [γ, Option.map_eq_some_iff] at hv
    obtain ⟨b, hb, rfl⟩ := hv
    simp [Builtin.cap_, run_underlying ht, goInt, capOf]
  · rename_i e ht
    subst hl
    simp only [γ, Option.some.injEq] at hv
    subst hv
    simp [Builtin.cap_, run_underlying ht, goInt]
  · rename_i n0 e ht
    subst hl
    simp [Builtin.cap_, run_underlying ht, goInt]

/-- unsafe.SliceData of a slice that has elements. -/
def xSliceData (v : AV) (S : St) : Option AV :=
  match v with
  | .slc i off (len + 1) c => if capOk S i off (len + 1) c then some (.ptr i off) else none
  | .nilslc => some .nilptr
  | _ => none
theorem sliceData_means (h : Rel G B w0 ε S w) {ts : Array TypeId} {ty : TypeId} {v u : AV} {x : Value} (hv : γ ε v = some x) (hl : xSliceData v S = some u) :
    MeansV G B w0 ε S ((Builtin.unsafeSliceData_ ts ty #[x]).run P w) u S := by
  unfold xSliceData at hl
  split at hl <;> try (simp at hl; done)
  · rename_i i off len c
    split at hl <;> simp at hl
    rename_i hc
    subst hl
    have := capOk_le h hc
    simp only [γ, Option.map_eq_some_iff] at hv
    obtain ⟨b, hb, rfl⟩ := hv
    exact MeansV.same h (Lib.run_unsafeSliceData_row w ts ty _ _ _ (by omega)) (by simp [γ, hb])
  · simp at hl; subst hl
    simp only [γ, Option.some.injEq] at hv
    subst hv
    exact MeansV.same h rfl rfl
end
end
end Go.Rx
