/- The reflective executor, part 1: abstract values, what they stand for, abstract worlds, and what these say of a world of the model. -/
import Derived.Below
namespace Go.Rx
open Go.RowKit

inductive Cap where
  | ex (c : Nat)
  | blk (sub : Nat)

inductive AV where
  | int (k : IntKind) (n : Int)
  | bool (b : Bool)
  | flt (k : FloatKind) (n : Nat)
  | str (s : List Nat)
  | ptr (i off : Nat)
  | nilptr
  | slc (i off len : Nat) (c : Cap)
  | nilslc
  | nilmap
  | nilfunc
  | niliface
  | func (fn : Fn) (a c : List AV)
  /-- What is left of a slice of length l, of a block of unknown capacity, behind its last element. -/
  | zs (i off s l n : Nat)
  /-- The yield of loop record i. -/
  | yld (i : Nat)
  | iface (t : TypeId) (v : AV)
  | agg (l : List AV)
  | tup (l : List AV)

structure Env where
  δ : Nat → Option Nat
  κ : Nat → Nat

def okb (l : List Nat) : Bool := l.all fun n => n < 256
def bs (l : List Nat) : ByteArray := ⟨(l.map UInt8.ofNat).toArray⟩
def capOf (ε : Env) (i : Nat) : Cap → Nat
  | .ex c => c
  | .blk s => ε.κ i - s

mutual
def γ (ε : Env) : AV → Option Value
  | .int k n => some (.int k n)
  | .bool b => some (.bool b)
  | .flt k n => some (.float k n)
  | .str s => if okb s then some (.string (bs s)) else none
  | .ptr i off => (ε.δ i).map fun b => .pointer (some ⟨b, off, none⟩)
  | .nilptr => some (.pointer none)
  | .slc i off len c => (ε.δ i).map fun b => .slice (some ⟨b, off, none⟩) len (capOf ε i c)
  | .nilslc => some (.slice none 0 0)
  | .nilmap => some (.map none)
  | .nilfunc => some .nilFunc
  | .niliface => some .nilIface
  | .zs i off s l n => (ε.δ i).map fun b => .slice (some ⟨b, if ε.κ i - s = l then off else off + l * n, none⟩) 0 (ε.κ i - s - l)
  | .yld i => (ε.δ i).map fun b => .func (.yield b) #[] #[]
  | .func fn a c => (γs ε a).bind fun x => (γs ε c).map fun y => .func fn x.toArray y.toArray
  | .iface t v => (γ ε v).map (.iface t)
  | .agg l => (γs ε l).map fun xs => .agg xs.toArray
  | .tup l => (γs ε l).map fun xs => .tuple xs.toArray
def γs (ε : Env) : List AV → Option (List Value)
  | [] => some []
  | v :: l => (γ ε v).bind fun x => (γs ε l).map fun xs => x :: xs
end

/-- ε' agrees with ε wherever ε says something. -/
def Env.le (ε ε' : Env) : Prop := ∀ i b, ε.δ i = some b → ε'.δ i = some b ∧ ε'.κ i = ε.κ i
theorem Env.le_refl (ε : Env) : ε.le ε := fun _ _ h => ⟨h, rfl⟩
theorem Env.le_trans {a b c : Env} (h : a.le b) (h' : b.le c) : a.le c := fun i x hx => by
  obtain ⟨h1, h2⟩ := h i x hx
  obtain ⟨h3, h4⟩ := h' i x h1
  exact ⟨h3, h4.trans h2⟩

mutual
theorem γ_mono {ε ε' : Env} (h : ε.le ε') : ∀ (v : AV) (x : Value), γ ε v = some x → γ ε' v = some x
  | .int k n, x, hx => by simpa [γ] using hx
  | .bool b, x, hx => by simpa [γ] using hx
  | .flt k n, x, hx => by simpa [γ] using hx
  | .str s, x, hx => by simpa [γ] using hx
  | .ptr i off, x, hx => by
    simp only [γ, Option.map_eq_some_iff] at hx ⊢
    obtain ⟨b, hb, hx⟩ := hx
    exact ⟨b, (h i b hb).1, hx⟩
  | .nilptr, x, hx => by simpa [γ] using hx
  | .slc i off len c, x, hx => by
    simp only [γ, Option.map_eq_some_iff] at hx ⊢
    obtain ⟨b, hb, hx⟩ := hx
    refine ⟨b, (h i b hb).1, ?_⟩
    rw [← hx]
    cases c <;> simp [capOf, (h i b hb).2]
  | .nilslc, x, hx => by simpa [γ] using hx
  | .nilmap, x, hx => by simpa [γ] using hx
  | .nilfunc, x, hx => by simpa [γ] using hx
  | .niliface, x, hx => by simpa [γ] using hx
  | .zs i off s l n, x, hx => by
    simp only [γ, Option.map_eq_some_iff] at hx ⊢
    obtain ⟨b, hb, hx⟩ := hx
    refine ⟨b, (h i b hb).1, ?_⟩
    rw [← hx, (h i b hb).2]
  | .yld i, x, hx => by
    simp only [γ, Option.map_eq_some_iff] at hx ⊢
    obtain ⟨b, hb, hx⟩ := hx
    exact ⟨b, (h i b hb).1, hx⟩
  | .func fn a c, x, hx => by
    simp only [γ, Option.bind_eq_some_iff, Option.map_eq_some_iff] at hx ⊢
    obtain ⟨xs, h1, ys, h2, h3⟩ := hx
    exact ⟨xs, γs_mono h a xs h1, ys, γs_mono h c ys h2, h3⟩
  | .iface t v, x, hx => by
    simp only [γ, Option.map_eq_some_iff] at hx ⊢
    obtain ⟨y, h1, h2⟩ := hx
    exact ⟨y, γ_mono h v y h1, h2⟩
  | .agg l, x, hx => by
    simp only [γ, Option.map_eq_some_iff] at hx ⊢
    obtain ⟨y, h1, h2⟩ := hx
    exact ⟨y, γs_mono h l y h1, h2⟩
  | .tup l, x, hx => by
    simp only [γ, Option.map_eq_some_iff] at hx ⊢
    obtain ⟨y, h1, h2⟩ := hx
    exact ⟨y, γs_mono h l y h1, h2⟩
theorem γs_mono {ε ε' : Env} (h : ε.le ε') : ∀ (l : List AV) (xs : List Value), γs ε l = some xs → γs ε' l = some xs
  | [], xs, hx => by simpa [γs] using hx
  | v :: l, xs, hx => by
    simp only [γs, Option.bind_eq_some_iff, Option.map_eq_some_iff] at hx ⊢
    obtain ⟨x, h1, ys, h2, h3⟩ := hx
    exact ⟨x, γ_mono h v x h1, ys, γs_mono h l ys h2, h3⟩
end

section lists
variable {ε : Env}
theorem γs_cons {v : AV} {l : List AV} {xs : List Value} : γs ε (v :: l) = some xs ↔ ∃ x ys, γ ε v = some x ∧ γs ε l = some ys ∧ xs = x :: ys := by
  simp only [γs, Option.bind_eq_some_iff, Option.map_eq_some_iff]
  constructor
  · rintro ⟨x, h1, ys, h2, rfl⟩; exact ⟨x, ys, h1, h2, rfl⟩
  · rintro ⟨x, ys, h1, h2, rfl⟩; exact ⟨x, h1, ys, h2, rfl⟩
theorem γs_nil {xs : List Value} : γs ε [] = some xs ↔ xs = [] := by
  simp only [γs, Option.some.injEq]; exact eq_comm
theorem γs_length : ∀ {l : List AV} {xs : List Value}, γs ε l = some xs → xs.length = l.length
  | [], xs, h => by rw [γs_nil] at h; simp [h]
  | v :: l, xs, h => by
    obtain ⟨x, ys, _, h2, rfl⟩ := γs_cons.1 h
    simp [γs_length h2]
theorem γs_get : ∀ {l : List AV} {xs : List Value}, γs ε l = some xs → ∀ {j : Nat} {v : AV}, l[j]? = some v → ∃ x, xs[j]? = some x ∧ γ ε v = some x
  | [], xs, h, j, v, hv => by simp at hv
  | u :: l, xs, h, j, v, hv => by
    obtain ⟨x, ys, h1, h2, rfl⟩ := γs_cons.1 h
    cases j with
    | zero => simp at hv; subst hv; exact ⟨x, by simp, h1⟩
    | succ j => simp at hv ⊢; exact γs_get h2 hv
theorem γs_get_none {l : List AV} {xs : List Value} (h : γs ε l = some xs) {j : Nat} (hv : l[j]? = none) : xs[j]? = none := by
  rw [List.getElem?_eq_none_iff] at hv ⊢
  rw [γs_length h]; exact hv
theorem γs_set : ∀ {l : List AV} {xs : List Value}, γs ε l = some xs → ∀ (j : Nat) {v : AV} {x : Value}, γ ε v = some x → γs ε (l.set j v) = some (xs.set j x)
  | [], xs, h, j, v, x, hv => by rw [γs_nil] at h; subst h; simp [γs]
  | u :: l, xs, h, j, v, x, hv => by
    obtain ⟨y, ys, h1, h2, rfl⟩ := γs_cons.1 h
    cases j with
    | zero => simp only [List.set_cons_zero]; exact γs_cons.2 ⟨x, ys, hv, h2, rfl⟩
    | succ j => simp only [List.set_cons_succ]; exact γs_cons.2 ⟨y, _, h1, γs_set h2 j hv, rfl⟩
theorem γs_append : ∀ {l m : List AV} {xs ys : List Value}, γs ε l = some xs → γs ε m = some ys → γs ε (l ++ m) = some (xs ++ ys)
  | [], m, xs, ys, h, h' => by rw [γs_nil] at h; subst h; simpa using h'
  | u :: l, m, xs, ys, h, h' => by
    obtain ⟨y, zs, h1, h2, rfl⟩ := γs_cons.1 h
    exact γs_cons.2 ⟨y, _, h1, γs_append h2 h', rfl⟩
theorem γs_drop : ∀ {l : List AV} {xs : List Value}, γs ε l = some xs → ∀ n, γs ε (l.drop n) = some (xs.drop n)
  | [], xs, h, n => by rw [γs_nil] at h; subst h; simp [γs]
  | u :: l, xs, h, n => by
    obtain ⟨y, ys, h1, h2, rfl⟩ := γs_cons.1 h
    cases n with
    | zero => simpa using h
    | succ n => simpa using γs_drop h2 n
theorem γs_take : ∀ {l : List AV} {xs : List Value}, γs ε l = some xs → ∀ n, γs ε (l.take n) = some (xs.take n)
  | [], xs, h, n => by rw [γs_nil] at h; subst h; simp [γs]
  | u :: l, xs, h, n => by
    obtain ⟨y, ys, h1, h2, rfl⟩ := γs_cons.1 h
    cases n with
    | zero => simp [γs]
    | succ n => simp only [List.take_succ_cons]; exact γs_cons.2 ⟨y, _, h1, γs_take h2 n, rfl⟩
theorem γs_replicate {v : AV} {x : Value} (h : γ ε v = some x) : ∀ n, γs ε (List.replicate n v) = some (List.replicate n x)
  | 0 => rfl
  | n + 1 => by simp only [List.replicate_succ]; exact γs_cons.2 ⟨x, _, h, γs_replicate h n, rfl⟩
end lists

/-- The cells of a value. -/
def AV.cells : AV → List AV
  | .agg l => l
  | v => [v]
theorem γ_cells {ε : Env} {v : AV} {x : Value} (h : γ ε v = some x) : γs ε v.cells = some x.cells.toList := by
  cases v <;> simp only [γ, Option.map_eq_some_iff, Option.bind_eq_some_iff, Option.some.injEq] at h
  case agg l => obtain ⟨xs, h1, rfl⟩ := h; simpa [AV.cells, Value.cells] using h1
  case str s => split at h <;> simp at h; subst h; simp [AV.cells, Value.cells, γs, γ, *]
  case ptr => obtain ⟨b, h1, rfl⟩ := h; simp [AV.cells, Value.cells, γs, γ, *]
  case slc => obtain ⟨b, h1, rfl⟩ := h; simp [AV.cells, Value.cells, γs, γ, *]
  case func => obtain ⟨b, h1, c, h2, rfl⟩ := h; simp [AV.cells, Value.cells, γs, γ, *]
  case zs => obtain ⟨b, h1, rfl⟩ := h; simp [AV.cells, Value.cells, γs, γ, *]
  case yld => obtain ⟨b, h1, rfl⟩ := h; simp [AV.cells, Value.cells, γs, γ, *]
  case iface => obtain ⟨b, h1, rfl⟩ := h; simp [AV.cells, Value.cells, γs, γ, *]
  case tup => obtain ⟨b, h1, rfl⟩ := h; simp [AV.cells, Value.cells, γs, γ, *]
  all_goals (subst h; simp [AV.cells, Value.cells, γs, γ])

/-- One cell holds it. -/
def AV.one : AV → Bool
  | .agg _ | .tup _ => false
  | _ => true
theorem γ_one {ε : Env} {v : AV} {x : Value} (h : γ ε v = some x) (ho : v.one = true) : x.oneCell' = true := by
  cases v <;> simp only [γ, Option.map_eq_some_iff, Option.bind_eq_some_iff, Option.some.injEq] at h
  case agg l => simp [AV.one] at ho
  case tup l => simp [AV.one] at ho
  case str s => split at h <;> simp at h; subst h; rfl
  case ptr => obtain ⟨b, h1, rfl⟩ := h; rfl
  case slc => obtain ⟨b, h1, rfl⟩ := h; rfl
  case func => obtain ⟨b, h1, c, h2, rfl⟩ := h; rfl
  case zs => obtain ⟨b, h1, rfl⟩ := h; rfl
  case yld => obtain ⟨b, h1, rfl⟩ := h; rfl
  case iface => obtain ⟨b, h1, rfl⟩ := h; rfl
  all_goals (subst h; rfl)

/-- A closed constant as an abstract value. -/
def cvs (f : Value → Option AV) : List Value → Option (List AV)
  | [] => some []
  | v :: l => match f v with
    | some x => match cvs f l with
      | some xs => some (x :: xs)
      | none => none
    | none => none
def cv : Nat → Value → Option AV
  | 0, _ => none
  | n + 1, v => match v with
    | .int k n => some (.int k n)
    | .bool b => some (.bool b)
    | .float k b => some (.flt k b)
    | .string s => some (.str (s.data.toList.map UInt8.toNat))
    | .pointer none => some .nilptr
    | .slice none 0 0 => some .nilslc
    | .map none => some .nilmap
    | .nilFunc => some .nilfunc
    | .nilIface => some .niliface
    | .agg cs => match cvs (cv n) cs.toList with | some l => some (.agg l) | none => none
    | .tuple cs => match cvs (cv n) cs.toList with | some l => some (.tup l) | none => none
    | _ => none
theorem okb_bytes (l : List UInt8) : okb (l.map UInt8.toNat) = true := by
  simp only [okb, List.all_eq_true, List.mem_map, decide_eq_true_eq]
  rintro _ ⟨b, _, rfl⟩
  exact b.toNat_lt
theorem bs_bytes (s : ByteArray) : bs (s.data.toList.map UInt8.toNat) = s := by
  simp only [bs, List.map_map]
  have : (UInt8.ofNat ∘ UInt8.toNat) = id := by funext b; simp
  rw [this]; simp
theorem cvs_sound {ε : Env} {f : Value → Option AV} (hf : ∀ v x, f v = some x → γ ε x = some v) : ∀ (l : List Value) (xs : List AV), cvs f l = some xs → γs ε xs = some l
  | [], xs, h => by simp [cvs] at h; subst h; rfl
  | v :: l, xs, h => by
    simp only [cvs] at h
    split at h <;> try (simp at h; done)
    rename_i x hx
    split at h <;> try (simp at h; done)
    rename_i ys hy
    simp at h; subst h
    exact γs_cons.2 ⟨v, l, hf v x hx, cvs_sound hf l ys hy, rfl⟩
theorem cv_sound (ε : Env) : ∀ (n : Nat) (v : Value) (x : AV), cv n v = some x → γ ε x = some v
  | 0, v, x, h => by simp [cv] at h
  | n + 1, v, x, h => by
    simp only [cv] at h
    split at h
    case h_10 cs =>
      split at h <;> simp at h
      rename_i l hl
      subst h
      have := cvs_sound (ε := ε) (cv_sound ε n) _ _ hl
      simp [γ, this]
    case h_11 cs =>
      split at h <;> simp at h
      rename_i l hl
      subst h
      have := cvs_sound (ε := ε) (cv_sound ε n) _ _ hl
      simp [γ, this]
    case h_4 s => simp at h; subst h; simp [γ, okb_bytes, bs_bytes]
    all_goals (simp at h; try (subst h; simp [γ]))
end Go.Rx
