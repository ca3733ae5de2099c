/- The reflective executor, part 1: abstract values, what they stand for, abstract worlds, and what these say of a world of the model. -/
import Derived.Below
import Derived.Laws.AppendOwn
import Derived.Laws.Strings
import Derived.Laws.IdiomStrings
import Derived.Laws.BytesString
import Derived.Laws.StructEq
import Derived.Laws.Concat
import Derived.Laws.Tables
namespace Go.Ex
open Go.RowKit

inductive Cap where
  | ex (c : Nat)
  | blk (sub : Nat)

inductive AV where
  | int (k : IntKind) (n : Int)
  | bool (b : Bool)
  /-- A bool that is not decided yet. -/
  | sb (b : Bool)
  | flt (k : FloatKind) (n : Nat)
  | str (s : List Nat)
  | ptr (i off : Nat)
  | nilptr
  | slc (i off len : Nat) (c : Cap)
  | nilslc
  | nilmap
  | nilfunc
  | niliface
  | func (fn : Fn) (a c : List AV)
  /-- What is left of a slice of length l, of a block of unknown capacity, behind its last element. -/
  | zs (i off s l n : Nat)
  /-- The yield of loop record i. -/
  | yld (i : Nat)
  | iface (t : TypeId) (v : AV)
  | agg (l : List AV)
  | tup (l : List AV)
  /-- Whatever. -/
  | any
  /-- A slice in memory that turns no more: cells of an element; is it nil; how many; each one's cells. -/
  | snap (n : Nat) (z : Bool) (len : Nat) (at_ : Nat → List AV)
  /-- A pointer into memory that turns no more: what lies there. -/
  | pin (l : List AV)

structure Env where
  δ : Nat → Option Nat
  κ : Nat → Nat
  /-- The memory that turns no more. -/
  M : Nat → Option Obj
  /-- What of it stood at the beginning. -/
  M0 : Nat → Option Obj
  /-- So many first numbers are the package-level variables'. -/
  G : Nat
/-- What is told of memory that turns no more: of no call's own. -/
def Env.cl (ε : Env) : Env := ⟨fun g => if g < ε.G then some g else none, fun _ => 0, ε.M, ε.M0, ε.G⟩
theorem Env.cl_cl (ε : Env) : ε.cl.cl = ε.cl := rfl

def okb (l : List Nat) : Bool := l.all fun n => n < 256
def bs (l : List Nat) : ByteArray := ⟨(l.map UInt8.ofNat).toArray⟩
def capOf (ε : Env) (i : Nat) : Cap → Nat
  | .ex c => c
  | .blk s => ε.κ i - s

mutual
/-- What an abstract value stands for. -/
def γ : Env → AV → Value → Prop
  | _, .any, _ => True
  | _, .int k n, x => x = .int k n
  | _, .bool b, x => x = .bool b
  | _, .sb b, x => x = .bool b
  | _, .flt k n, x => x = .float k n
  | _, .str s, x => okb s = true ∧ x = .string (bs s)
  | ε, .ptr i off, x => ∃ b, ε.δ i = some b ∧ x = .pointer (some ⟨b, off, none⟩)
  | _, .nilptr, x => x = .pointer none
  | ε, .slc i off len c, x => ∃ b, ε.δ i = some b ∧ x = .slice (some ⟨b, off, none⟩) len (capOf ε i c)
  | _, .nilslc, x => x = .slice none 0 0
  | _, .nilmap, x => x = .map none
  | _, .nilfunc, x => x = .nilFunc
  | _, .niliface, x => x = .nilIface
  | ε, .zs i off s l n, x => ∃ b, ε.δ i = some b ∧ x = .slice (some ⟨b, if ε.κ i - s = l then off else off + l * n, none⟩) 0 (ε.κ i - s - l)
  | ε, .yld i, x => ∃ b, ε.δ i = some b ∧ x = .func (.yield b) #[] #[]
  | ε, .func fn a c, x => ∃ xs, γs ε a xs ∧ ∃ ys, γs ε c ys ∧ x = .func fn xs.toArray ys.toArray
  | ε, .iface t v, x => ∃ y, γ ε v y ∧ x = .iface t y
  | ε, .agg l, x => ∃ xs, γs ε l xs ∧ x = .agg xs.toArray
  | ε, .tup l, x => ∃ xs, γs ε l xs ∧ x = .tuple xs.toArray
  | ε, .snap n z len at_, x => (z = true ∧ len = 0 ∧ x = .slice none 0 0) ∨
      (z = false ∧ ∃ (b off cap : Nat) (sp : Option Nat), x = .slice (some ⟨b, off, sp⟩) len cap ∧ len ≤ cap ∧ (len = 0 ∨ (sp = none ∧ ∃ (cs : Array Value) (t : TypeId) (fr : Nat × Nat), ε.M b = some (.cells cs t fr) ∧
        ∀ i, i < len → ∃ xs : List Value, γs ε.cl (at_ i) xs ∧ xs.length = n ∧ ∀ (j : Nat) (v : Value), xs[j]? = some v → cs[off + i * n + j]? = some v)))
  | ε, .pin l, x => ∃ (b off : Nat) (cs : Array Value) (t : TypeId) (fr : Nat × Nat) (xs : List Value), x = .pointer (some ⟨b, off, none⟩) ∧ ε.M b = some (.cells cs t fr) ∧ γs ε.cl l xs ∧
      ∀ (j : Nat) (v : Value), xs[j]? = some v → cs[off + j]? = some v
def γs : Env → List AV → List Value → Prop
  | _, [], xs => xs = []
  | ε, v :: l, xs => ∃ x ys, γ ε v x ∧ γs ε l ys ∧ xs = x :: ys
end

/-- ε' agrees with ε wherever ε says something. -/
structure Env.le (ε ε' : Env) : Prop where
  d : ∀ i b, ε.δ i = some b → ε'.δ i = some b ∧ ε'.κ i = ε.κ i
  m : ∀ b o, ε.M b = some o → ε'.M b = some o
  g : ε'.G = ε.G
theorem Env.le_refl (ε : Env) : ε.le ε := ⟨fun _ _ h => ⟨h, rfl⟩, fun _ _ h => h, rfl⟩
theorem Env.le_trans {a b c : Env} (h : a.le b) (h' : b.le c) : a.le c := ⟨fun i x hx => by
  obtain ⟨h1, h2⟩ := h.d i x hx
  obtain ⟨h3, h4⟩ := h'.d i x h1
  exact ⟨h3, h4.trans h2⟩, fun b o hb => h'.m b o (h.m b o hb), h'.g.trans h.g⟩
theorem Env.le.cl {ε ε' : Env} (h : ε.le ε') : ε.cl.le ε'.cl := ⟨fun i b hi => by
  simp only [Env.cl] at hi ⊢
  rw [h.g]
  exact ⟨hi, trivial⟩, h.m, h.g⟩

mutual
theorem γ_mono : ∀ {ε ε' : Env}, ε.le ε' → ∀ (v : AV) (x : Value), γ ε v x → γ ε' v x
  | ε, ε_, h, .any, x, hx => by simp [γ]
  | ε, ε_, h, .int k n, x, hx => by simpa [γ] using hx
  | ε, ε_, h, .bool b, x, hx => by simpa [γ] using hx
  | ε, ε_, h, .sb b, x, hx => by simpa [γ] using hx
  | ε, ε_, h, .flt k n, x, hx => by simpa [γ] using hx
  | ε, ε_, h, .str s, x, hx => by simpa [γ] using hx
  | ε, ε_, h, .ptr i off, x, hx => by
    simp only [γ] at hx ⊢
    obtain ⟨b, hb, hx⟩ := hx
    exact ⟨b, (h.d i b hb).1, hx⟩
  | ε, ε_, h, .nilptr, x, hx => by simpa [γ] using hx
  | ε, ε_, h, .slc i off len c, x, hx => by
    simp only [γ] at hx ⊢
    obtain ⟨b, hb, hx⟩ := hx
    refine ⟨b, (h.d i b hb).1, ?_⟩
    rw [hx]
    cases c <;> simp [capOf, (h.d i b hb).2]
  | ε, ε_, h, .nilslc, x, hx => by simpa [γ] using hx
  | ε, ε_, h, .nilmap, x, hx => by simpa [γ] using hx
  | ε, ε_, h, .nilfunc, x, hx => by simpa [γ] using hx
  | ε, ε_, h, .niliface, x, hx => by simpa [γ] using hx
  | ε, ε_, h, .zs i off s l n, x, hx => by
    simp only [γ] at hx ⊢
    obtain ⟨b, hb, hx⟩ := hx
    refine ⟨b, (h.d i b hb).1, ?_⟩
    rw [hx, (h.d i b hb).2]
  | ε, ε_, h, .yld i, x, hx => by
    simp only [γ] at hx ⊢
    obtain ⟨b, hb, hx⟩ := hx
    exact ⟨b, (h.d i b hb).1, hx⟩
  | ε, ε_, h, .func fn a c, x, hx => by
    simp only [γ] at hx ⊢
    obtain ⟨xs, h1, ys, h2, h3⟩ := hx
    exact ⟨xs, γs_mono h a xs h1, ys, γs_mono h c ys h2, h3⟩
  | ε, ε_, h, .iface t v, x, hx => by
    simp only [γ] at hx ⊢
    obtain ⟨y, h1, h2⟩ := hx
    exact ⟨y, γ_mono h v y h1, h2⟩
  | ε, ε_, h, .agg l, x, hx => by
    simp only [γ] at hx ⊢
    obtain ⟨y, h1, h2⟩ := hx
    exact ⟨y, γs_mono h l y h1, h2⟩
  | ε, ε_, h, .tup l, x, hx => by
    simp only [γ] at hx ⊢
    obtain ⟨y, h1, h2⟩ := hx
    exact ⟨y, γs_mono h l y h1, h2⟩
  | ε, ε_, h, .snap n z len at_, x, hx => by
    simp only [γ] at hx ⊢
    rcases hx with hx | ⟨hz, b, off, cap, sp, h1, h2, h0 | ⟨hs, cs, t, fr, h3, h4⟩⟩
    · exact .inl hx
    · exact .inr ⟨hz, b, off, cap, sp, h1, h2, .inl h0⟩
    · refine .inr ⟨hz, b, off, cap, sp, h1, h2, .inr ⟨hs, cs, t, fr, h.m _ _ h3, fun i hi => ?_⟩⟩
      obtain ⟨xs, h5, h6⟩ := h4 i hi
      exact ⟨xs, γs_mono h.cl (at_ i) xs h5, h6⟩
  | ε, ε_, h, .pin l, x, hx => by
    simp only [γ] at hx ⊢
    obtain ⟨b, off, cs, t, fr, xs, h1, h2, h3, h4⟩ := hx
    exact ⟨b, off, cs, t, fr, xs, h1, h.m _ _ h2, γs_mono h.cl l xs h3, h4⟩
theorem γs_mono : ∀ {ε ε' : Env}, ε.le ε' → ∀ (l : List AV) (xs : List Value), γs ε l xs → γs ε' l xs
  | ε, ε_, h, [], xs, hx => by simpa [γs] using hx
  | ε, ε_, h, v :: l, xs, hx => by
    simp only [γs] at hx ⊢
    obtain ⟨x, ys, h1, h2, h3⟩ := hx
    exact ⟨x, ys, γ_mono h v x h1, γs_mono h l ys h2, h3⟩
end

section lists
variable {ε : Env}
theorem γs_cons {v : AV} {l : List AV} {xs : List Value} : γs ε (v :: l) xs ↔ ∃ x ys, γ ε v x ∧ γs ε l ys ∧ xs = x :: ys := by
  simp only [γs]
theorem γs_nil {xs : List Value} : γs ε [] xs ↔ xs = [] := by
  simp only [γs]
theorem γs_length : ∀ {l : List AV} {xs : List Value}, γs ε l xs → xs.length = l.length
  | [], xs, h => by rw [γs_nil] at h; simp [h]
  | v :: l, xs, h => by
    obtain ⟨x, ys, _, h2, rfl⟩ := γs_cons.1 h
    simp [γs_length h2]
theorem γs_get : ∀ {l : List AV} {xs : List Value}, γs ε l xs → ∀ {j : Nat} {v : AV}, l[j]? = some v → ∃ x, xs[j]? = some x ∧ γ ε v x
  | [], xs, h, j, v, hv => by simp at hv
  | u :: l, xs, h, j, v, hv => by
    obtain ⟨x, ys, h1, h2, rfl⟩ := γs_cons.1 h
    cases j with
    | zero => simp at hv; subst hv; exact ⟨x, by simp, h1⟩
    | succ j => simp at hv ⊢; exact γs_get h2 hv
theorem γs_get_none {l : List AV} {xs : List Value} (h : γs ε l xs) {j : Nat} (hv : l[j]? = none) : xs[j]? = none := by
  rw [List.getElem?_eq_none_iff] at hv ⊢
  rw [γs_length h]; exact hv
theorem γs_set : ∀ {l : List AV} {xs : List Value}, γs ε l xs → ∀ (j : Nat) {v : AV} {x : Value}, γ ε v x → γs ε (l.set j v) (xs.set j x)
  | [], xs, h, j, v, x, hv => by rw [γs_nil] at h; subst h; simp [γs]
  | u :: l, xs, h, j, v, x, hv => by
    obtain ⟨y, ys, h1, h2, rfl⟩ := γs_cons.1 h
    cases j with
    | zero => simp only [List.set_cons_zero]; exact γs_cons.2 ⟨x, ys, hv, h2, rfl⟩
    | succ j => simp only [List.set_cons_succ]; exact γs_cons.2 ⟨y, _, h1, γs_set h2 j hv, rfl⟩
theorem γs_append : ∀ {l m : List AV} {xs ys : List Value}, γs ε l xs → γs ε m ys → γs ε (l ++ m) (xs ++ ys)
  | [], m, xs, ys, h, h' => by rw [γs_nil] at h; subst h; simpa using h'
  | u :: l, m, xs, ys, h, h' => by
    obtain ⟨y, zs, h1, h2, rfl⟩ := γs_cons.1 h
    exact γs_cons.2 ⟨y, _, h1, γs_append h2 h', rfl⟩
theorem γs_drop : ∀ {l : List AV} {xs : List Value}, γs ε l xs → ∀ n, γs ε (l.drop n) (xs.drop n)
  | [], xs, h, n => by rw [γs_nil] at h; subst h; simp [γs]
  | u :: l, xs, h, n => by
    obtain ⟨y, ys, h1, h2, rfl⟩ := γs_cons.1 h
    cases n with
    | zero => simpa using h
    | succ n => simpa using γs_drop h2 n
theorem γs_take : ∀ {l : List AV} {xs : List Value}, γs ε l xs → ∀ n, γs ε (l.take n) (xs.take n)
  | [], xs, h, n => by rw [γs_nil] at h; subst h; simp [γs]
  | u :: l, xs, h, n => by
    obtain ⟨y, ys, h1, h2, rfl⟩ := γs_cons.1 h
    cases n with
    | zero => simp [γs]
    | succ n => simp only [List.take_succ_cons]; exact γs_cons.2 ⟨y, _, h1, γs_take h2 n, rfl⟩
theorem γs_replicate {v : AV} {x : Value} (h : γ ε v x) : ∀ n, γs ε (List.replicate n v) (List.replicate n x)
  | 0 => rfl
  | n + 1 => by simp only [List.replicate_succ]; exact γs_cons.2 ⟨x, _, h, γs_replicate h n, rfl⟩
end lists

/-- The cells of a value. -/
def AV.cells : AV → List AV
  | .agg l => l
  | v => [v]
/-- Something is known of it. -/
def AV.good : AV → Bool
  | .any => false
  | _ => true
theorem γs_one1 {ε : Env} {v : AV} {x : Value} (h : γ ε v x) : γs ε [v] [x] := γs_cons.2 ⟨x, [], h, γs_nil.2 rfl, rfl⟩
theorem γ_cells {ε : Env} {v : AV} {x : Value} (h : γ ε v x) (hv : v.good = true) : γs ε v.cells x.cells.toList := by
  cases v
  case agg l => simp only [γ] at h; obtain ⟨xs, h1, rfl⟩ := h; simpa [AV.cells, Value.cells] using h1
  case any => cases hv
  all_goals
    have h' := γs_one1 h
    simp only [γ] at h
  case ptr => obtain ⟨b, h1, rfl⟩ := h; exact h'
  case slc => obtain ⟨b, h1, rfl⟩ := h; exact h'
  case func => obtain ⟨b, h1, c, h2, rfl⟩ := h; exact h'
  case zs => obtain ⟨b, h1, rfl⟩ := h; exact h'
  case yld => obtain ⟨b, h1, rfl⟩ := h; exact h'
  case iface => obtain ⟨b, h1, rfl⟩ := h; exact h'
  case tup => obtain ⟨b, h1, rfl⟩ := h; exact h'
  case str => obtain ⟨h1, rfl⟩ := h; exact h'
  case snap => rcases h with ⟨_, _, rfl⟩ | ⟨_, b, off, cap, sp, rfl, _⟩ <;> exact h'
  case pin => obtain ⟨b, off, cs, t, fr, xs, rfl, _⟩ := h; exact h'
  all_goals (subst h; exact h')

theorem γ_agg {ε : Env} {l : List AV} {Y : Array Value} (h : γs ε l Y.toList) : γ ε (.agg l) (.agg Y) := by
  simp only [γ]; exact ⟨_, h, by simp⟩
theorem γ_agg' {ε : Env} {l : List AV} {xs : List Value} (h : γs ε l xs) : γ ε (.agg l) (.agg xs.toArray) := by
  simp only [γ]; exact ⟨_, h, rfl⟩
theorem γ_tup' {ε : Env} {l : List AV} {xs : List Value} (h : γs ε l xs) : γ ε (.tup l) (.tuple xs.toArray) := by
  simp only [γ]; exact ⟨_, h, rfl⟩

/-- One cell holds it. -/
def AV.one : AV → Bool
  | .agg _ | .tup _ | .any => false
  | _ => true
theorem γ_one {ε : Env} {v : AV} {x : Value} (h : γ ε v x) (ho : v.one = true) : x.oneCell' = true := by
  cases v <;> simp only [γ] at h
  case agg l => simp [AV.one] at ho
  case tup l => simp [AV.one] at ho
  case any => simp [AV.one] at ho
  case str s => obtain ⟨_, rfl⟩ := h; rfl
  case ptr => obtain ⟨b, h1, rfl⟩ := h; rfl
  case slc => obtain ⟨b, h1, rfl⟩ := h; rfl
  case func => obtain ⟨b, h1, c, h2, rfl⟩ := h; rfl
  case zs => obtain ⟨b, h1, rfl⟩ := h; rfl
  case yld => obtain ⟨b, h1, rfl⟩ := h; rfl
  case iface => obtain ⟨b, h1, rfl⟩ := h; rfl
  case snap => rcases h with ⟨_, _, rfl⟩ | ⟨_, b, off, cap, sp, rfl, _⟩ <;> rfl
  case pin => obtain ⟨b, off, cs, t, fr, xs, rfl, _⟩ := h; rfl
  all_goals (subst h; rfl)

/-- A closed constant as an abstract value. -/
def cvs (f : Value → Option AV) : List Value → Option (List AV)
  | [] => some []
  | v :: l => match f v with
    | some x => match cvs f l with
      | some xs => some (x :: xs)
      | none => none
    | none => none
def cv : Nat → Value → Option AV
  | 0, _ => none
  | n + 1, v => match v with
    | .int k n => some (.int k n)
    | .bool b => some (.bool b)
    | .float k b => some (.flt k b)
    | .string s => some (.str (s.data.toList.map UInt8.toNat))
    | .pointer none => some .nilptr
    | .slice none 0 0 => some .nilslc
    | .map none => some .nilmap
    | .nilFunc => some .nilfunc
    | .nilIface => some .niliface
    | .agg cs => match cvs (cv n) cs.toList with | some l => some (.agg l) | none => none
    | .tuple cs => match cvs (cv n) cs.toList with | some l => some (.tup l) | none => none
    | _ => none
theorem okb_bytes (l : List UInt8) : okb (l.map UInt8.toNat) = true := by
  simp only [okb, List.all_eq_true, List.mem_map, decide_eq_true_eq]
  rintro _ ⟨b, _, rfl⟩
  exact b.toNat_lt
theorem bs_bytes (s : ByteArray) : bs (s.data.toList.map UInt8.toNat) = s := by
  simp only [bs, List.map_map]
  have : (UInt8.ofNat ∘ UInt8.toNat) = id := by funext b; simp
  rw [this]; simp
theorem cvs_sound {ε : Env} {f : Value → Option AV} (hf : ∀ v x, f v = some x → γ ε x v) : ∀ (l : List Value) (xs : List AV), cvs f l = some xs → γs ε xs l
  | [], xs, h => by simp [cvs] at h; subst h; rfl
  | v :: l, xs, h => by
    simp only [cvs] at h
    split at h <;> try (simp at h; done)
    rename_i x hx
    split at h <;> try (simp at h; done)
    rename_i ys hy
    simp at h; subst h
    exact γs_cons.2 ⟨v, l, hf v x hx, cvs_sound hf l ys hy, rfl⟩
theorem cv_sound (ε : Env) : ∀ (n : Nat) (v : Value) (x : AV), cv n v = some x → γ ε x v
  | 0, v, x, h => by simp [cv] at h
  | n + 1, v, x, h => by
    simp only [cv] at h
    split at h
    case h_10 cs =>
      split at h <;> simp at h
      rename_i l hl
      subst h
      have := cvs_sound (ε := ε) (cv_sound ε n) _ _ hl
      exact ⟨_, this, by simp⟩
    case h_11 cs =>
      split at h <;> simp at h
      rename_i l hl
      subst h
      have := cvs_sound (ε := ε) (cv_sound ε n) _ _ hl
      exact ⟨_, this, by simp⟩
    case h_4 s => simp at h; subst h; simp [γ, okb_bytes, bs_bytes]
    all_goals (simp at h; try (subst h; simp [γ]))
theorem cv_good : ∀ (n : Nat) (v : Value) (x : AV), cv n v = some x → x.good = true
  | 0, v, x, h => by simp [cv] at h
  | n + 1, v, x, h => by
    simp only [cv] at h
    split at h
    case h_10 cs =>
      split at h <;> simp at h
      subst h; rfl
    case h_11 cs =>
      split at h <;> simp at h
      subst h; rfl
    all_goals (simp at h; try (subst h; rfl))
end Go.Ex
/- The reflective executor, part 2: abstract worlds, what they say of a world of the model; reading, writing, making blocks. -/
namespace Go.Ex
open Go.RowKit

/-- May a block be written: yes; no longer, but it is the call's own; no. -/
inductive Fr where
  | free
  | mine
  | other
  deriving DecidableEq
def Fr.own : Fr → Bool
  | .other => false
  | _ => true
inductive ABlk where
  | cells (cs : List AV) (elem : TypeId) (opn : Option Nat) (wr : Fr)
  | sit (s : List Nat) (pos : Nat)
  /-- The block for the deferred calls of a loop's rounds: none so far. -/
  | dfr
  /-- The record of a loop over a function. -/
  | lp (st : LoopState) (pend : Option Code) (A : List AV) (ps : Array Tmp) (assign body : Code) (D : Nat)

abbrev Bl := List (Nat × Option ABlk)

def look : Bl → Nat → Option (Option ABlk)
  | [], _ => none
  | (j, b) :: l, i => if j = i then some b else look l i
def upd : Bl → Nat → Option ABlk → Bl
  | [], i, b => [(i, b)]
  | (j, c) :: l, i, b => if j = i then (i, b) :: l else (j, c) :: upd l i b
theorem look_upd : ∀ (l : Bl) (i : Nat) (b : Option ABlk) (k : Nat), look (upd l i b) k = if i = k then some b else look l k
  | [], i, b, k => by simp [upd, look]
  | (j, c) :: l, i, b, k => by
    simp only [upd]
    split
    · rename_i h; subst h; simp only [look]; split <;> rfl
    · rename_i h
      simp only [look, look_upd l i b k]
      by_cases h1 : j = k
      · subst h1; simp [Ne.symm h]
      · simp [h1]
theorem look_append : ∀ (l m : Bl) (k : Nat), look (l ++ m) k = match look l k with | some b => some b | none => look m k
  | [], m, k => by simp [look]
  | (j, c) :: l, m, k => by
    simp only [List.cons_append, look]
    split
    · rfl
    · exact look_append l m k
theorem look_none_of_bnd {l : Bl} {n : Nat} (h : ∀ p ∈ l, p.1 < n) : ∀ k, n ≤ k → look l k = none := by
  induction l with
  | nil => intros; rfl
  | cons p l ih =>
    intro k hk
    obtain ⟨j, c⟩ := p
    have h1 : j < n := h (j, c) (by simp)
    have hne : ¬ j = k := by omega
    simp only [look, hne, if_false]
    exact ih (fun p hp => h p (by simp [hp])) k hk
theorem upd_bnd {l : Bl} {n : Nat} (h : ∀ p ∈ l, p.1 < n) {i : Nat} (hi : i < n) (b : Option ABlk) : ∀ p ∈ upd l i b, p.1 < n := by
  induction l with
  | nil => intro p hp; simp [upd] at hp; subst hp; exact hi
  | cons q l ih =>
    obtain ⟨j, c⟩ := q
    intro p hp
    simp only [upd] at hp
    split at hp
    · rcases List.mem_cons.1 hp with rfl | hp
      · exact hi
      · exact h p (by simp [hp])
    · rcases List.mem_cons.1 hp with rfl | hp
      · exact h _ (by simp)
      · exact ih (fun p hp => h p (by simp [hp])) p hp

/-- A deferred call that comes to nothing, or the mark of a loop's block. -/
inductive AD where
  | idle (f : FuncId) (n : Nat)
  | coll (i : Nat)
inductive XE where
  | normal
  | exit (id : Nat)
  | ret
/-- What the executor is told ahead: how a test comes out; that an operation's condition holds; what a call, a loop comes to; the blocks that a region of drawn order writes. -/
inductive OE where
  | br (o : Bool)
  | ok
  | ret (v : AV)
  | retS (v : AV) (ov : Bl) (nxt : Nat)
  | loop (e : XE) (A : List AV) (ov : Bl) (nxt : Nat)
  /-- The body is gone through; a round is gone through. -/
  | inl
  /-- A region of drawn order: blocks that it does not write. -/
  | draw (H : List Nat)
/-- What is to be shown of what it was told. -/
inductive Ob where
  | br (b o : Bool)
  | ok (p : Prop)
  | pure (f : FuncId) (args : List AV) (v : AV)
  | call (f : FuncId) (args : List AV) (base : Bl) (nxt : Nat) (v : AV) (ov' : Bl) (nxt' : Nat)
  | loop (c : Code) (A : List AV) (ov base : Bl) (nxt : Nat) (dl : List AD) (rnd : Option Nat) (e : XE) (A' : List AV) (ov' : Bl) (nxt' : Nat)
structure St where
  ov : Bl
  base : Bl
  nxt : Nat
  dl : List AD := []
  rnd : Option Nat := none
  orc : List OE := []
  obl : List Ob := []

def St.get (S : St) (i : Nat) : Option ABlk :=
  match look S.ov i with
  | some b => b
  | none => match look S.base i with
    | some b => b
    | none => none
def St.put (S : St) (i : Nat) (b : Option ABlk) : St := { S with ov := upd S.ov i b }
theorem St.get_put (S : St) (i : Nat) (b : Option ABlk) (k : Nat) : (S.put i b).get k = if i = k then b else S.get k := by
  simp only [St.get, St.put, look_upd]
  by_cases h : i = k <;> simp [h]
/-- A new block at the next number. -/
def St.new (S : St) (b : ABlk) : St := { S with ov := (S.nxt, some b) :: S.ov, nxt := S.nxt + 1 }
theorem St.get_new (S : St) (b : ABlk) (k : Nat) : (S.new b).get k = if S.nxt = k then some b else S.get k := by
  simp only [St.get, St.new, look]
  by_cases h : S.nxt = k <;> simp [h]

/-- A block of the model is what an abstract block says. -/
def BR (ε : Env) (i : Nat) : ABlk → Obj → Prop
  | .cells cs elem opn wr, o => ∃ xs extra fr, γs ε cs xs ∧ o = .cells (xs ++ extra).toArray elem fr ∧ (wr = .free → fr = (0, 0)) ∧
      (match opn with | none => extra = [] | some sz => (xs ++ extra).length = ε.κ i * sz)
  | .sit s pos, o => okb s = true ∧ o = .stringIter (bs s) pos
  | .dfr, o => o = .deferred (some [])
  | .lp st pend A ps assign body D, o => ∃ fn xs d, γs ε A xs ∧ ε.δ D = some d ∧ o = .loop { state := st, pending := pend, fn := fn, tmps := xs.toArray, params := ps, assign := assign, body := body, defers := d }
def ABlk.own : ABlk → Bool
  | .cells _ _ _ wr => wr.own
  | .sit _ _ => true
  | .dfr => true
  | .lp .. => true

theorem BR.mono {ε ε' : Env} {i : Nat} {b : ABlk} {o : Obj} (h : BR ε i b o) (hle : ε.le ε') (hk : ε'.κ i = ε.κ i) : BR ε' i b o := by
  cases b with
  | cells cs elem opn wr =>
    obtain ⟨xs, extra, fr, h1, h2, h3, h4⟩ := h
    exact ⟨xs, extra, fr, γs_mono hle _ _ h1, h2, h3, by cases opn <;> simp_all⟩
  | sit s pos => exact h
  | dfr => exact h
  | lp st pend A ps assign body D =>
    obtain ⟨fn, xs, d, h1, h2, h3⟩ := h
    exact ⟨fn, xs, d, γs_mono hle _ _ h1, (hle.d _ _ h2).1, h3⟩

/-- What an abstract world says of a world of the model: below block B nothing has turned since w0. -/
structure Rel (G B : Nat) (w0 : World) (ε : Env) (S : St) (w : World) : Prop where
  below : Below B w0 w
  hB : B ≤ w.heap.size
  gB : G ≤ B
  gn : G ≤ S.nxt
  glob : ∀ g, g < G → ε.δ g = some g
  free : ∀ k, S.nxt ≤ k → ε.δ k = none
  bov : ∀ p ∈ S.ov, p.1 < S.nxt
  bba : ∀ p ∈ S.base, p.1 < S.nxt
  live : ∀ i blk, S.get i = some blk → ∃ b o, ε.δ i = some b ∧ w.heap[b]? = some o ∧ BR ε i blk o ∧ (blk.own = true → B ≤ b)
  inj : ∀ i j bi bj b, S.get i = some bi → S.get j = some bj → ε.δ i = some b → ε.δ j = some b → i = j
  mem : ∀ b o, ε.M b = some o → w.heap[b]? = some o
  apart : ∀ i blk b, S.get i = some blk → blk.own = true → ε.δ i = some b → ε.M b = none
  old : ∀ b o, ε.M b = some o → b < B → ε.M0 b = some o
  eG : ε.G = G
  k0 : ∀ g, g < G → ε.κ g = 0

/-- ε' says of the numbers below n what ε says. -/
structure Env.agr (n : Nat) (ε ε' : Env) : Prop where
  d : ∀ k, k < n → ε'.δ k = ε.δ k ∧ ε'.κ k = ε.κ k
  m : ∀ b o, ε.M b = some o → ε'.M b = some o
  m0 : ε'.M0 = ε.M0
  g : ε'.G = ε.G
theorem Env.agr_refl (n : Nat) (ε : Env) : ε.agr n ε := ⟨fun _ _ => ⟨rfl, rfl⟩, fun _ _ h => h, rfl, rfl⟩
theorem Env.agr_trans {n m : Nat} {a b c : Env} (h : a.agr n b) (h' : b.agr m c) (hnm : n ≤ m) : a.agr n c := ⟨fun k hk => by
  obtain ⟨h1, h2⟩ := h.d k hk
  obtain ⟨h3, h4⟩ := h'.d k (by omega)
  exact ⟨h3.trans h1, h4.trans h2⟩, fun b o hb => h'.m b o (h.m b o hb), h'.m0.trans h.m0, h'.g.trans h.g⟩
theorem Env.agr.le {n : Nat} {ε ε' : Env} (h : ε.agr n ε') (hf : ∀ k, n ≤ k → ε.δ k = none) : ε.le ε' := ⟨fun i b hb => by
  rcases Nat.lt_or_ge i n with hi | hi
  · obtain ⟨h1, h2⟩ := h.d i hi; exact ⟨h1.trans hb, h2⟩
  · rw [hf i hi] at hb; exact absurd hb (by simp), h.m, h.g⟩
section
variable {G B : Nat} {w0 w : World} {ε : Env} {S : St}
theorem Rel.le (h : Rel G B w0 ε S w) {ε' : Env} (ha : ε.agr S.nxt ε') : ε.le ε' := ha.le h.free
theorem Rel.cl (h : Rel G B w0 ε S w) : ε.cl.le ε := ⟨fun i b hi => by
  simp only [Env.cl, h.eG] at hi
  split at hi <;> simp at hi
  rename_i hlt
  subst hi
  have h1 := h.glob i hlt
  exact ⟨h1, h.k0 i hlt⟩, fun _ _ h => h, rfl⟩
theorem Rel.lt (h : Rel G B w0 ε S w) {i b : Nat} (hi : ε.δ i = some b) : i < S.nxt := by
  rcases Nat.lt_or_ge i S.nxt with h' | h'
  · exact h'
  · rw [h.free i h'] at hi; cases hi
/-- The same of a world with the same heap. -/
theorem Rel.drew (h : Rel G B w0 ε S w) : Rel G B w0 ε S w.drew :=
  ⟨h.below.drew, h.hB, h.gB, h.gn, h.glob, h.free, h.bov, h.bba, h.live, h.inj, h.mem, h.apart, h.old, h.eG, h.k0⟩
/-- Fewer blocks are told. -/
theorem Rel.sub (h : Rel G B w0 ε S w) {S' : St} (hn : S'.nxt = S.nxt) (h1 : ∀ p ∈ S'.ov, p.1 < S'.nxt) (h2 : ∀ p ∈ S'.base, p.1 < S'.nxt)
    (hs : ∀ i b, S'.get i = some b → S.get i = some b) : Rel G B w0 ε S' w :=
  ⟨h.below, h.hB, h.gB, hn ▸ h.gn, h.glob, hn ▸ h.free, h1, h2, fun i b hb => h.live i b (hs i b hb),
   fun i j bi bj b hi hj => h.inj i j bi bj b (hs _ _ hi) (hs _ _ hj), h.mem, fun i blk b hi => h.apart i blk b (hs _ _ hi), h.old, h.eG, h.k0⟩

def Env.set (ε : Env) (i b k : Nat) : Env := ⟨fun j => if j = i then some b else ε.δ j, fun j => if j = i then k else ε.κ j, ε.M, ε.M0, ε.G⟩
theorem Env.agr_set (ε : Env) (n b k : Nat) : ε.agr n (ε.set n b k) := ⟨fun j hj => by
  have : ¬ j = n := by omega
  simp [Env.set, this], fun _ _ h => h, rfl, rfl⟩

theorem Env.set_k {ε : Env} {n b k g : Nat} (h : g < n) : (ε.set n b k).κ g = ε.κ g := by
  have : ¬ g = n := by omega
  simp [Env.set, this]
/-- A new block of the model at the next number. -/
theorem Rel.alloc (h : Rel G B w0 ε S w) (blk : ABlk) (o : Obj) (k : Nat) (hb : ∀ ε', ε.agr S.nxt ε' → ε'.κ S.nxt = k → BR ε' S.nxt blk o) :
    Rel G B w0 (ε.set S.nxt w.heap.size k) (S.new blk) (w.alloc o) := by
  have hagr := Env.agr_set ε S.nxt w.heap.size k
  have hle := h.le hagr
  have hself : (ε.set S.nxt w.heap.size k).κ S.nxt = k := by simp [Env.set]
  have old : ∀ i b, ε.δ i = some b → (ε.set S.nxt w.heap.size k).δ i = some b := fun i b hb => (hle.d i b hb).1
  have wlt : ∀ b (o' : Obj), w.heap[b]? = some o' → b < w.heap.size := fun b o' h' => (Array.getElem?_eq_some_iff.1 h').1
  refine ⟨h.below.alloc h.hB o, by simp; have := h.hB; omega, h.gB, by simp [St.new]; have := h.gn; omega, ?_, ?_, ?_, ?_, ?_, ?_, fun b o' hb => by rw [Below.heap_alloc _ _ _ (wlt _ _ (h.mem b o' hb))]; exact h.mem b o' hb, ?_, h.old, h.eG, fun g hg => (Env.set_k (Nat.lt_of_lt_of_le hg h.gn)).trans (h.k0 g hg)⟩
  · intro g hg
    exact old g g (h.glob g hg)
  · intro j hj
    have : ¬ j = S.nxt := by simp [St.new] at hj; omega
    simp only [Env.set, this, if_false]
    exact h.free j (by simp [St.new] at hj; omega)
  · intro p hp
    simp only [St.new, List.mem_cons] at hp ⊢
    rcases hp with rfl | hp
    · exact Nat.lt_succ_self _
    · exact Nat.lt_succ_of_lt (h.bov p hp)
  · intro p hp
    exact Nat.lt_succ_of_lt (h.bba p hp)
  · intro i b hget
    rw [St.get_new] at hget
    split at hget
    · rename_i hi
      subst hi
      simp only [Option.some.injEq] at hget
      subst hget
      exact ⟨w.heap.size, o, by simp [Env.set], heap_alloc_new w o, hb _ hagr hself, fun _ => h.hB⟩
    · obtain ⟨b', o', h1, h2, h3, h4⟩ := h.live i b hget
      have hlt := h.lt h1
      exact ⟨b', o', old i b' h1, by rw [Below.heap_alloc _ _ _ (wlt _ _ h2)]; exact h2, h3.mono hle (hagr.d i hlt).2, h4⟩
  · intro i j bi bj b hi hj h1 h2
    rw [St.get_new] at hi hj
    simp only [Env.set] at h1 h2
    split at hi
    · rename_i hi'
      split at hj
      · rename_i hj'; omega
      · subst hi'
        obtain ⟨b', o', h3, h4, _⟩ := h.live j bj hj
        have hjn : ¬ j = S.nxt := by have := h.lt h3; omega
        simp only [if_true, Option.some.injEq] at h1
        simp only [hjn, if_false] at h2
        rw [h3] at h2
        have := wlt _ _ h4
        simp at h2
        omega
    · split at hj
      · rename_i hj'
        subst hj'
        obtain ⟨b', o', h3, h4, _⟩ := h.live i bi hi
        have hin : ¬ i = S.nxt := by have := h.lt h3; omega
        simp only [if_true, Option.some.injEq] at h2
        simp only [hin, if_false] at h1
        rw [h3] at h1
        have := wlt _ _ h4
        simp at h1
        omega
      · obtain ⟨b', o', h3, h4, _⟩ := h.live i bi hi
        obtain ⟨b'', o'', h5, h6, _⟩ := h.live j bj hj
        have hin : ¬ i = S.nxt := by have := h.lt h3; omega
        have hjn : ¬ j = S.nxt := by have := h.lt h5; omega
        simp only [hin, hjn, if_false] at h1 h2
        exact h.inj i j bi bj b hi hj h1 h2
  · intro i bi b hi hown hib
    cases hM : (ε.set S.nxt w.heap.size k).M b with
    | none => rfl
    | some o' =>
      have hM' : ε.M b = some o' := hM
      have hlt := wlt _ _ (h.mem b o' hM')
      rw [St.get_new] at hi
      simp only [Env.set] at hib
      split at hi
      · rename_i hin
        subst hin
        simp at hib
        omega
      · obtain ⟨b', o'', h3, h4, _⟩ := h.live i bi hi
        have hin : ¬ i = S.nxt := by have := h.lt h3; omega
        simp only [hin, if_false] at hib
        rw [h.apart i bi b hi hown hib] at hM'
        cases hM'

/-- A block of the call's own is written. -/
theorem Rel.setBlk (h : Rel G B w0 ε S w) {i b : Nat} {old new : ABlk} (hget : S.get i = some old) (hown : old.own = true) (hi : ε.δ i = some b) {w' : World} {o : Obj}
    (hw : w'.os = w.os ∧ w'.tape = w.tape ∧ w'.output = w.output ∧ w'.heap.size = w.heap.size) (hother : ∀ k, k ≠ b → w'.heap[k]? = w.heap[k]?)
    (ho : w'.heap[b]? = some o) (hb : BR ε i new o) : Rel G B w0 ε (S.put i (some new)) w' := by
  have hMb := h.apart i old b hget hown hi
  obtain ⟨b', o', h1, h2, h3, h4⟩ := h.live i old hget
  rw [hi] at h1
  simp at h1
  subst h1
  have hBb := h4 hown
  have hlt := h.lt hi
  refine ⟨⟨hw.1.trans h.below.os, hw.2.1.trans h.below.tape, hw.2.2.1.trans h.below.output, by rw [hw.2.2.2]; exact h.below.size, fun k hk => (hother k (by omega)).trans (h.below.block k hk)⟩,
    by rw [hw.2.2.2]; exact h.hB, h.gB, h.gn, h.glob, h.free, ?_, h.bba, ?_, ?_, ?_, ?_, h.old, h.eG, h.k0⟩
  · exact upd_bnd h.bov hlt _
  · intro j bj hj
    rw [St.get_put] at hj
    split at hj
    · rename_i hij
      subst hij
      simp at hj
      subst hj
      exact ⟨b, o, hi, ho, hb, fun _ => hBb⟩
    · rename_i hij
      obtain ⟨b', o', h5, h6, h7, h8⟩ := h.live j bj hj
      have hne : b' ≠ b := fun e => hij (h.inj i j old bj b hget hj hi (e ▸ h5))
      exact ⟨b', o', h5, by rw [hother b' hne]; exact h6, h7, h8⟩
  · intro j k bj bk c hj hk h5 h6
    have live' : ∀ m bm, (S.put i (some new)).get m = some bm → ∃ bm', S.get m = some bm' := by
      intro m bm hm
      rw [St.get_put] at hm
      split at hm
      · rename_i him; subst him; exact ⟨old, hget⟩
      · exact ⟨bm, hm⟩
    obtain ⟨bj', hj'⟩ := live' j bj hj
    obtain ⟨bk', hk'⟩ := live' k bk hk
    exact h.inj j k bj' bk' c hj' hk' h5 h6
  · intro c o' hc
    have hne : c ≠ b := fun e => by rw [e, hMb] at hc; cases hc
    rw [hother c hne]
    exact h.mem c o' hc
  · intro j bj c hj hownj hjc
    rw [St.get_put] at hj
    split at hj
    · rename_i hij
      subst hij
      rw [hi] at hjc
      simp at hjc
      subst hjc
      exact hMb
    · exact h.apart j bj c hj hownj hjc
end

/-! ### Cells -/
def St.read (S : St) (i off n : Nat) : Option (List AV) :=
  match S.get i with
  | some (.cells cs _ _ _) => if off + n ≤ cs.length then some ((cs.drop off).take n) else none
  | _ => none
section
variable {G B : Nat} {w0 w : World} {ε : Env} {S : St}
theorem Rel.read (h : Rel G B w0 ε S w) {i off n : Nat} {vs : List AV} (hr : S.read i off n = some vs) :
    ∃ b xs, ε.δ i = some b ∧ γs ε vs xs ∧ xs.length = n ∧ ∀ j v, xs[j]? = some v → w.cell? ⟨b, off + j, none⟩ = some v := by
  unfold St.read at hr
  split at hr
  · rename_i cs elem opn wr hget
    split at hr
    · rename_i hlen
      simp at hr
      subst hr
      obtain ⟨b, o, h1, h2, ⟨xs, extra, fr, h3, h4, _⟩, _⟩ := h.live _ _ hget
      have hl := γs_length h3
      refine ⟨b, (xs.drop off).take n, h1, γs_take (γs_drop h3 off) n, by simp; omega, ?_⟩
      intro j v hj
      subst h4
      simp only [List.getElem?_take, List.getElem?_drop] at hj
      split at hj
      · simp only [World.cell?, h2]
        have : off + j < xs.length := (List.getElem?_eq_some_iff.1 hj).1
        simp [List.getElem?_append_left this, hj]
      · simp at hj
    · simp at hr
  · simp at hr

/-- Cells are written. -/
def St.write (S : St) (i off : Nat) (vs : List AV) : Option St :=
  match S.get i with
  | some (.cells cs elem opn .free) => if off + vs.length ≤ cs.length && vs.all AV.one then some (S.put i (some (.cells (cs.take off ++ vs ++ cs.drop (off + vs.length)) elem opn .free))) else none
  | _ => none
theorem γs_one {vs : List AV} {xs : List Value} (h : γs ε vs xs) (ho : vs.all AV.one = true) : ∀ x ∈ xs, x.oneCell' = true := by
  induction vs generalizing xs with
  | nil => rw [γs_nil] at h; subst h; simp
  | cons v vs ih =>
    obtain ⟨x, ys, h1, h2, rfl⟩ := γs_cons.1 h
    simp only [List.all_cons, Bool.and_eq_true] at ho
    intro y hy
    rcases List.mem_cons.1 hy with rfl | hy
    · exact γ_one h1 ho.1
    · exact ih h2 ho.2 y hy
theorem Rel.write {P : Program} (h : Rel G B w0 ε S w) {i off : Nat} {vs : List AV} {S' : St} (hw : S.write i off vs = some S') {xs : List Value} (hv : γs ε vs xs) :
    ∃ b w', ε.δ i = some b ∧ (storeCells ⟨b, off, none⟩ xs 0).run P w = .ok () w' ∧ Rel G B w0 ε S' w' ∧ S'.nxt = S.nxt := by
  unfold St.write at hw
  split at hw
  · rename_i cs elem opn hget
    split at hw
    · rename_i hc
      simp only [Bool.and_eq_true, decide_eq_true_eq] at hc
      obtain ⟨hlen, hone⟩ := hc
      simp at hw
      subst hw
      obtain ⟨b, o, h1, h2, ⟨ys, extra, fr, h3, h4, h5, h6⟩, _⟩ := h.live _ _ hget
      have hfr := h5 rfl
      subst hfr
      subst h4
      have hl := γs_length h3
      have hl2 := γs_length hv
      have hst := run_storeCells_at P b off elem xs 0 (ys ++ extra).toArray w h2 (by simp; omega) (γs_one hv hone)
      refine ⟨b, _, h1, hst, ?_, rfl⟩
      have hrow := setRow_heap w b _ ((ys ++ extra).take off ++ xs ++ (ys ++ extra).drop (off + xs.length)).toArray elem (0, 0) h2
      refine h.setBlk hget rfl h1 ⟨rfl, rfl, rfl, by simp⟩ (fun k hk => setRow_other w b k _ hk) (o := .cells ((ys ++ extra).take off ++ xs ++ (ys ++ extra).drop (off + xs.length)).toArray elem (0, 0)) ?_ ?_
      · simpa using hrow
      · refine ⟨ys.take off ++ xs ++ ys.drop (off + vs.length), extra, (0, 0), ?_, ?_, fun _ => rfl, ?_⟩
        · simpa using γs_append (γs_take h3 off) (γs_append hv (γs_drop h3 (off + vs.length)))
        · have e1 : (ys ++ extra).take off = ys.take off := by rw [List.take_append_of_le_length (by omega)]
          have e2 : (ys ++ extra).drop (off + xs.length) = ys.drop (off + vs.length) ++ extra := by rw [hl2, List.drop_append_of_le_length (by omega)]
          rw [e1, e2]; simp
        · cases opn with
          | none => simpa using h6
          | some sz =>
            simp only [List.length_append, List.length_take, List.length_drop] at h6 ⊢
            omega
    · simp at hw
  · simp at hw
end
end Go.Ex
/- The reflective executor, part 3: single operations, what they come to on abstract values, and that this is what the model does. -/
namespace Go.Ex
open Go.RowKit

/-- What a computation yields that asks nothing but the program. -/
def pureP {α : Type} (P : Program) : Sem α → Option α
  | .pure a => some a
  | .program k => pureP P (k P)
  | _ => none
theorem pureP_run {α : Type} {P : Program} : ∀ {s : Sem α} {a : α}, pureP P s = some a → ∀ w, s.run P w = .ok a w
  | .pure b, a, h, w => by simp [pureP] at h; subst h; rfl
  | .program k, a, h, w => by simp only [pureP] at h; simpa [Sem.run] using pureP_run h w
  | .load .., a, h, w => by simp [pureP] at h
  | .store .., a, h, w => by simp [pureP] at h
  | .new .., a, h, w => by simp [pureP] at h
  | .shape .., a, h, w => by simp [pureP] at h
  | .freeze .., a, h, w => by simp [pureP] at h
  | .frozen .., a, h, w => by simp [pureP] at h
  | .getObj .., a, h, w => by simp [pureP] at h
  | .setObj .., a, h, w => by simp [pureP] at h
  | .choose .., a, h, w => by simp [pureP] at h
  | .sys .., a, h, w => by simp [pureP] at h
  | .mark .., a, h, w => by simp [pureP] at h
  | .halt .., a, h, w => by simp [pureP] at h

/-- What an operation comes to. -/
inductive NX where
  | val (v : AV) (S : St)
  | unit (S : St)
  | enter (f : FuncId) (args : List AV) (S : St)
  | round (i : Nat) (A : List AV) (assign body : Code) (S : St)
  | dfr (d : AD) (S : St)

/-- What an abstract deferred call stands for. -/
def DR (ε : Env) : AD → Deferred → Prop
  | .idle f n, d => ∃ cap, d.target = .fn (.func f) cap ∧ d.args.size + cap.size = n
  | .coll i, d => ∃ r, d.target = .collected r ∧ ε.δ i = some r

def Means (G B : Nat) (w0 : World) (ε : Env) (S : St) (r : Result Next) : NX → Prop
  | .val v S' => ∃ x w' ε', r = .ok (.value x) w' ∧ ε.agr S.nxt ε' ∧ γ ε' v x ∧ Rel G B w0 ε' S' w' ∧ S.nxt ≤ S'.nxt
  | .unit S' => ∃ w' ε', r = .ok .skip w' ∧ ε.agr S.nxt ε' ∧ Rel G B w0 ε' S' w' ∧ S.nxt ≤ S'.nxt
  | .round i A assign body S' => ∃ l fn xs w' ε', r = .ok (.round l fn xs.toArray assign body) w' ∧ ε.agr S.nxt ε' ∧ ε'.δ i = some l ∧ γs ε' A xs ∧ Rel G B w0 ε' S' w' ∧ S.nxt ≤ S'.nxt
  | .dfr d S' => ∃ x w', r = .ok (.defer x) w' ∧ DR ε d x ∧ Rel G B w0 ε S' w' ∧ S.nxt ≤ S'.nxt
  | .enter f args S' => ∃ xs w' ε', r = .ok (.enter f xs.toArray) w' ∧ ε.agr S.nxt ε' ∧ γs ε' args xs ∧ Rel G B w0 ε' S' w' ∧ S.nxt ≤ S'.nxt

/-- The same of a computation of a value. -/
def MeansV (G B : Nat) (w0 : World) (ε : Env) (S : St) (r : Result Value) (v : AV) (S' : St) : Prop :=
  ∃ x w' ε', r = .ok x w' ∧ ε.agr S.nxt ε' ∧ γ ε' v x ∧ Rel G B w0 ε' S' w' ∧ S.nxt ≤ S'.nxt

section
variable {P : Program} {G B : Nat} {w0 w : World} {ε : Env} {S : St}
theorem MeansV.same (h : Rel G B w0 ε S w) {r : Result Value} {x : Value} {v : AV} (hr : r = .ok x w) (hv : γ ε v x) : MeansV G B w0 ε S r v S :=
  ⟨x, w, ε, hr, Env.agr_refl _ _, hv, h, Nat.le_refl _⟩
theorem MeansV.drewSame (h : Rel G B w0 ε S w) {r : Result Value} {x : Value} {v : AV} (hr : r = .ok x w.drew) (hv : γ ε v x) : MeansV G B w0 ε S r v S :=
  ⟨x, w.drew, ε, hr, Env.agr_refl _ _, hv, h.drew, Nat.le_refl _⟩
theorem Means.of_v {s : Sem Value} {v : AV} {S' : St} (h : MeansV G B w0 ε S (s.run P w) v S') :
    Means G B w0 ε S ((do pure (Next.value (← s)) : Sem Next).run P w) (.val v S') := by
  obtain ⟨x, w', ε', h1, h2, h3, h4, h5⟩ := h
  exact ⟨x, w', ε', by simp [h1], h2, h3, h4, h5⟩

/-! ### Scalars -/
def sc : AV → Option Value
  | .int k n => some (.int k n)
  | .bool b => some (.bool b)
  | .sb b => some (.bool b)
  | .flt k n => some (.float k n)
  | _ => none
theorem sc_γ {v : AV} {x y : Value} (h : sc v = some x) (hy : γ ε v y) : y = x := by
  cases v <;> simp [sc] at h <;> simp [γ] at hy <;> simp [← h, ← hy]

/-! ### New variables -/
def zeroOf (P : Program) (t : TypeId) : Option AV :=
  match P.info? t with
  | some i => match i.zero with
    | some z => cv 8 z
    | none => none
  | none => none
theorem zeroOf_good {t : TypeId} {z : AV} (h : zeroOf P t = some z) : z.good = true := by
  unfold zeroOf at h
  split at h <;> try (simp at h; done)
  split at h <;> try (simp at h; done)
  exact cv_good 8 _ _ h
theorem run_zeroOf {t : TypeId} {z : AV} (h : zeroOf P t = some z) : ∃ x, (zeroValue t).run P w = .ok x w ∧ ∀ ε, γ ε z x := by
  unfold zeroOf at h
  split at h <;> try (simp at h; done)
  rename_i i hi
  split at h <;> try (simp at h; done)
  rename_i x hx
  exact ⟨x, by simp [zeroValue, typeInfo, hi, hx], fun ε => cv_sound ε 8 x z h⟩
theorem newVar_run (t : TypeId) (x : Value) : (newVar t x).run P w = .ok ⟨w.heap.size, 0, none⟩ (w.alloc (.cells x.cells t)) := by
  simp [newVar, newRow]
theorem Rel.newCells (h : Rel G B w0 ε S w) {cs : List AV} {xs : Array Value} (hc : γs ε cs xs.toList) (t : TypeId) :
    ∃ ε', ε.agr S.nxt ε' ∧ ε'.δ S.nxt = some w.heap.size ∧ Rel G B w0 ε' (S.new (.cells cs t none .free)) (w.alloc (.cells xs t)) :=
  ⟨_, Env.agr_set ε S.nxt w.heap.size 0, by simp [Env.set],
   h.alloc _ _ 0 fun ε' ha _ => ⟨xs.toList, [], (0, 0), γs_mono (h.le ha) _ _ hc, by simp, fun _ => rfl, rfl⟩⟩
theorem St.nxt_new (S : St) (b : ABlk) : (S.new b).nxt = S.nxt + 1 := rfl

def xBox (t : TypeId) (v : AV) (S : St) : AV × St := (.ptr S.nxt 0, S.new (.cells v.cells t none .free))
theorem box_means (h : Rel G B w0 ε S w) {v : AV} {x : Value} (hv : γ ε v x) (hg : v.good = true) (t : TypeId) :
    MeansV G B w0 ε S ((Instr.box t x).run P w) (xBox t v S).1 (xBox t v S).2 := by
  obtain ⟨ε', h1, h2, h3⟩ := h.newCells (γ_cells hv hg) t
  refine ⟨.pointer (some ⟨w.heap.size, 0, none⟩), _, ε', by simp [Instr.box, newVar_run], h1, by simp [xBox, γ, h2], h3, by simp [xBox, St.nxt_new]⟩
theorem alloc_means (h : Rel G B w0 ε S w) {t : TypeId} {z : AV} (hz : zeroOf P t = some z) :
    MeansV G B w0 ε S ((Instr.alloc t true (.tuple #[])).run P w) (xBox t z S).1 (xBox t z S).2 := by
  obtain ⟨x, hx, hv⟩ := run_zeroOf (w := w) hz
  obtain ⟨ε', h1, h2, h3⟩ := h.newCells (γ_cells (hv ε) (zeroOf_good hz)) t
  refine ⟨.pointer (some ⟨w.heap.size, 0, none⟩), _, ε', by simp [Instr.alloc, hx, newVar_run], h1, by simp [xBox, γ, h2], h3, by simp [xBox, St.nxt_new]⟩

/-! ### Loads and stores -/
def isAggT (P : Program) (t : TypeId) : Option Bool :=
  match P.underlying t with
  | some (.struct _) | some (.array _ _) => some true
  | some _ => some false
  | none => none
def sizeT (P : Program) (t : TypeId) : Option Nat := (P.info? t).map (·.size)
theorem run_isAgg {t : TypeId} {b : Bool} (h : isAggT P t = some b) : (isAgg t).run P w = .ok b w := by
  unfold isAggT at h
  split at h
  case h_1 h' => simp at h; subst h; simp [isAgg, run_underlying h']
  case h_2 h' => simp at h; subst h; simp [isAgg, run_underlying h']
  case h_3 d h1 h2 h' =>
    simp at h; subst h
    simp only [isAgg, Sem.run_bind, run_underlying h', Result.andThen_ok]
    rfl
  case h_4 => simp at h
theorem run_sizeT {t : TypeId} {n : Nat} (h : sizeT P t = some n) : (sizeOf t).run P w = .ok n w := by
  unfold sizeT at h
  cases hi : P.info? t with
  | none => simp [hi] at h
  | some i => simp [hi] at h; simp [sizeOf, typeInfo, hi, h]

def xLoad (P : Program) (t : TypeId) (v : AV) (S : St) : Option AV :=
  match v with
  | .ptr i off =>
    match isAggT P t with
    | some true => match sizeT P t with
      | some n => match S.read i off n with
        | some vs => some (.agg vs)
        | none => none
      | none => none
    | some false => match S.read i off 1 with
      | some [x] => some x
      | _ => none
    | none => none
  | _ => none
theorem loadVar_means (h : Rel G B w0 ε S w) {t : TypeId} {i off : Nat} {u : AV} (hl : xLoad P t (.ptr i off) S = some u) {b : Nat} (hb : ε.δ i = some b) :
    ∃ y, (loadVar t ⟨b, off, none⟩).run P w = .ok y w ∧ γ ε u y := by
  simp only [xLoad] at hl
  split at hl
  · rename_i hagg
    split at hl <;> try (simp at hl; done)
    rename_i n hn
    split at hl <;> try (simp at hl; done)
    rename_i vs hr
    simp at hl; subst hl
    obtain ⟨b', xs, h1, h2, h3, h4⟩ := h.read hr
    rw [hb] at h1; simp at h1; subst h1
    have hc := run_loadCells_list (P := P) w ⟨b, off, none⟩ xs (fun j v hj => by rw [Addr.add_lit]; exact h4 j v hj)
    refine ⟨.agg xs.toArray, ?_, by simp [γ, h2]⟩
    rw [h3] at hc
    simp [loadVar, run_isAgg hagg, run_sizeT hn, hc]
  · rename_i hagg
    split at hl <;> try (simp at hl; done)
    rename_i x hr
    simp at hl; subst hl
    obtain ⟨b', xs, h1, h2, h3, h4⟩ := h.read hr
    rw [hb] at h1; simp at h1; subst h1
    obtain ⟨y, ys, h5, h6, rfl⟩ := γs_cons.1 h2
    have := h4 0 y (by simp)
    simp only [Nat.add_zero] at this
    exact ⟨y, by simp [loadVar, run_isAgg hagg, this], h5⟩
  · simp at hl
theorem load_means (h : Rel G B w0 ε S w) {t : TypeId} {v u : AV} {x : Value} (hv : γ ε v x) (hl : xLoad P t v S = some u) :
    MeansV G B w0 ε S ((Instr.loadAt t x).run P w) u S := by
  cases v <;> try (simp [xLoad] at hl; done)
  case ptr i off =>
    simp only [γ, Option.map_eq_some_iff] at hv
    obtain ⟨b, hb, rfl⟩ := hv
    obtain ⟨y, h1, h2⟩ := loadVar_means (P := P) h hl hb
    exact MeansV.same h (by simp [Instr.loadAt, Instr.sureAddr, h1]) h2

def xStore (P : Program) (t : TypeId) (v u : AV) (S : St) : Option St :=
  match v with
  | .ptr i off =>
    match sizeT P t with
    | some n => if u.good && decide (u.cells.length = n) then S.write i off u.cells else none
    | none => none
  | _ => none
theorem storeVar_means (h : Rel G B w0 ε S w) {t : TypeId} {i off : Nat} {u : AV} {y : Value} {S' : St} (hu : γ ε u y) (hl : xStore P t (.ptr i off) u S = some S') {b : Nat} (hb : ε.δ i = some b) :
    ∃ w', (storeVar t ⟨b, off, none⟩ y).run P w = .ok () w' ∧ Rel G B w0 ε S' w' ∧ S'.nxt = S.nxt := by
  simp only [xStore] at hl
  split at hl <;> try (simp at hl; done)
  rename_i n hn
  split at hl <;> try (simp at hl; done)
  rename_i hlen
  simp only [Bool.and_eq_true, decide_eq_true_eq] at hlen
  obtain ⟨hgood, hlen⟩ := hlen
  have hc := γ_cells hu hgood
  obtain ⟨b', w', h1, h2, h3, h4⟩ := h.write (P := P) hl hc
  rw [hb] at h1; simp at h1; subst h1
  have hl2 := γs_length hc
  have hsz : y.cells.size = n := by simpa [hlen] using hl2
  refine ⟨w', ?_, h3, h4⟩
  simp [storeVar, run_sizeT hn, hsz, h2]
theorem store_means (h : Rel G B w0 ε S w) {t : TypeId} {v u : AV} {x y : Value} {S' : St} (hv : γ ε v x) (hu : γ ε u y) (hl : xStore P t v u S = some S') :
    Means G B w0 ε S ((do Instr.storeAt t x y; pure Next.skip : Sem Next).run P w) (.unit S') := by
  cases v <;> try (simp [xStore] at hl; done)
  case ptr i off =>
    simp only [γ, Option.map_eq_some_iff] at hv
    obtain ⟨b, hb, rfl⟩ := hv
    obtain ⟨w', h1, h2, h3⟩ := storeVar_means (P := P) h hu hl hb
    exact ⟨w', ε, by simp [Instr.storeAt, Instr.sureAddr, h1], Env.agr_refl _ _, h2, by omega⟩

/-! ### Parts of values -/
def xPart (P : Program) (t : TypeId) (cs : List AV) (off : Nat) : Option AV :=
  match isAggT P t with
  | some true => match sizeT P t with
    | some n => some (.agg ((cs.drop off).take n))
    | none => none
  | some false => cs[off]?
  | none => none
theorem part_means {t : TypeId} {cs : List AV} {xs : Array Value} {off : Nat} {u : AV} (hc : γs ε cs xs.toList) (hp : xPart P t cs off = some u) :
    ∃ y, (∀ w, (part t xs off).run P w = .ok y w) ∧ γ ε u y := by
  simp only [xPart] at hp
  split at hp
  · rename_i hagg
    split at hp <;> try (simp at hp; done)
    rename_i n hn
    simp at hp; subst hp
    refine ⟨.agg (xs.extract off (off + n)), fun w => by simp [part, run_isAgg hagg, run_sizeT hn], ?_⟩
    have := γs_take (γs_drop hc off) n
    have e : ((xs.toList.drop off).take n).toArray = xs.extract off (off + n) := by
      apply Array.ext'
      simp
    simp [γ, this, ← e]
  · rename_i hagg
    obtain ⟨y, h1, h2⟩ := γs_get hc hp
    have h1' : xs[off]? = some y := by simpa using h1
    exact ⟨y, fun w => by simp [part, run_isAgg hagg, h1'], h2⟩
  · simp at hp

def fieldT (P : Program) (t : TypeId) (f : Nat) : Option Field :=
  match P.underlying t with
  | some (.struct fs) => fs[f]?
  | _ => none
theorem fieldT_spec {t : TypeId} {f : Nat} {fd : Field} (h : fieldT P t f = some fd) : ∃ fs, P.underlying t = some (.struct fs) ∧ fs[f]? = some fd := by
  unfold fieldT at h
  split at h <;> try (simp at h; done)
  rename_i fs hfs
  exact ⟨fs, hfs, h⟩
def xField (P : Program) (t : TypeId) (v : AV) (f : Nat) : Option AV :=
  match v, fieldT P t f with
  | .agg cs, some fd => xPart P fd.type cs fd.offset
  | _, _ => none
theorem field_means (h : Rel G B w0 ε S w) {t : TypeId} {v u : AV} {x : Value} {f : Nat} (hv : γ ε v x) (hl : xField P t v f = some u) :
    MeansV G B w0 ε S ((Instr.field t x f).run P w) u S := by
  unfold xField at hl
  split at hl <;> try (simp at hl; done)
  rename_i cs fd hfd
  obtain ⟨fs, h1, h2⟩ := fieldT_spec hfd
  simp only [γ, Option.map_eq_some_iff] at hv
  obtain ⟨xs, hxs, rfl⟩ := hv
  obtain ⟨y, h3, h4⟩ := part_means (P := P) (xs := xs.toArray) (by simpa using hxs) hl
  exact MeansV.same h (by simp [Instr.field, run_underlying h1, h2, asAgg, h3]) h4
def xFieldAddr (P : Program) (t : TypeId) (v : AV) (f : Nat) : Option AV :=
  match v, fieldT P t f with
  | .ptr i off, some fd => match sizeT P fd.type with
    | some (_ + 1) => some (.ptr i (off + fd.offset))
    | _ => none
  | _, _ => none
theorem fieldAddr_means (h : Rel G B w0 ε S w) {t : TypeId} {v u : AV} {x : Value} {f : Nat} (hv : γ ε v x) (hl : xFieldAddr P t v f = some u) :
    MeansV G B w0 ε S ((Instr.fieldAt t x f).run P w) u S := by
  unfold xFieldAddr at hl
  split at hl <;> try (simp at hl; done)
  rename_i i off fd hfd
  split at hl <;> try (simp at hl; done)
  rename_i n hn
  simp at hl; subst hl
  obtain ⟨fs, h1, h2⟩ := fieldT_spec hfd
  simp only [γ, Option.map_eq_some_iff] at hv
  obtain ⟨b, hb, rfl⟩ := hv
  refine MeansV.same h (x := .pointer (some ⟨b, off + fd.offset, none⟩)) ?_ (by simp [γ, hb])
  simp [Instr.fieldAt, run_underlying h1, h2, Instr.sureAddr, fieldPlace, run_sizeT hn, Addr.add_lit]

/-! ### Indexes and slices -/
def xIndexAddr (P : Program) (t : TypeId) (v ix : AV) : Option AV :=
  match ix with
  | .int _ j =>
    match P.underlying t, v with
    | some (.slice e), .slc i off len _ =>
      match sizeT P e with
      | some n => if 0 ≤ j ∧ j < len then some (.ptr i (off + j.toNat * n)) else none
      | none => none
    | some (.array len e), .ptr i off =>
      match sizeT P e with
      | some n => if 0 ≤ j ∧ j < len then some (.ptr i (off + j.toNat * n)) else none
      | none => none
    | _, _ => none
  | _ => none
theorem indexAddr_means (h : Rel G B w0 ε S w) {t : TypeId} {v ix u : AV} {x y : Value} (hv : γ ε v x) (hy : γ ε ix y) (hl : xIndexAddr P t v ix = some u) :
    MeansV G B w0 ε S ((Instr.indexAt t x y).run P w) u S := by
  unfold xIndexAddr at hl
  split at hl <;> try (simp at hl; done)
  rename_i k j
  simp only [γ, Option.some.injEq] at hy
  subst hy
  split at hl <;> try (simp at hl; done)
  · rename_i e i off len c ht
    split at hl <;> try (simp at hl; done)
    rename_i n hn
    split at hl <;> try (simp at hl; done)
    rename_i hj
    simp at hl; subst hl
    simp only [γ, Option.map_eq_some_iff] at hv
    obtain ⟨b, hb, rfl⟩ := hv
    refine MeansV.same h (x := .pointer (some ⟨b, off + j.toNat * n, none⟩)) ?_ (by simp [γ, hb])
    simp [Instr.indexAt, asIntOf, run_underlying ht, hj, run_sizeT hn, Addr.add_lit]
  · rename_i len e i off ht
    split at hl <;> try (simp at hl; done)
    rename_i n hn
    split at hl <;> try (simp at hl; done)
    rename_i hj
    simp at hl; subst hl
    simp only [γ, Option.map_eq_some_iff] at hv
    obtain ⟨b, hb, rfl⟩ := hv
    refine MeansV.same h (x := .pointer (some ⟨b, off + j.toNat * n, none⟩)) ?_ (by simp [γ, hb])
    simp [Instr.indexAt, asIntOf, run_underlying ht, Instr.sureAddr, hj, run_sizeT hn, Addr.add_lit]

theorem bs_size (l : List Nat) : (bs l).size = l.length := by simp [bs, ByteArray.size]
theorem bs_data (l : List Nat) : (bs l).data.toList = l.map UInt8.ofNat := by simp [bs]
def xIndex (P : Program) (t : TypeId) (v ix : AV) : Option AV :=
  match ix with
  | .int _ j =>
    match P.underlying t, v with
    | some .string, .str s =>
      if 0 ≤ j then match s[j.toNat]? with
        | some c => some (.int .u8 c)
        | none => none
      else none
    | some (.array len e), .agg cs =>
      match sizeT P e with
      | some n => if 0 ≤ j ∧ j < len then xPart P e cs (j.toNat * n) else none
      | none => none
    | _, _ => none
  | _ => none
theorem index_means (h : Rel G B w0 ε S w) {t : TypeId} {v ix u : AV} {x y : Value} (hv : γ ε v x) (hy : γ ε ix y) (hl : xIndex P t v ix = some u) :
    MeansV G B w0 ε S ((Instr.index t x y).run P w) u S := by
  unfold xIndex at hl
  split at hl <;> try (simp at hl; done)
  rename_i k j
  simp only [γ, Option.some.injEq] at hy
  subst hy
  split at hl <;> try (simp at hl; done)
  · rename_i s ht
    split at hl <;> try (simp at hl; done)
    rename_i hj
    split at hl <;> try (simp at hl; done)
    rename_i c hc
    simp at hl; subst hl
    simp only [γ] at hv
    obtain ⟨hok, rfl⟩ := hv
    have hlt : c < 256 := by
      simp only [okb, List.all_eq_true, decide_eq_true_eq] at hok
      exact hok c (List.mem_of_getElem? hc)
    have hget : (bs s)[j.toNat]? = some (UInt8.ofNat c) := by
      have hlen : j.toNat < s.length := (List.getElem?_eq_some_iff.1 hc).1
      have hlen' : j.toNat < (bs s).size := by rw [bs_size]; exact hlen
      rw [getElem?_pos (bs s) j.toNat hlen']
      congr 1
      have h1 : (bs s).data.toList[j.toNat]? = some (UInt8.ofNat c) := by rw [bs_data]; simp [hc]
      have h2 : (bs s)[j.toNat]'hlen' = (bs s).data[j.toNat]'hlen' := rfl
      rw [h2]
      rw [Array.getElem?_toList] at h1
      rw [Array.getElem?_eq_getElem (by exact hlen')] at h1
      exact Option.some.inj h1
    have hnat : (UInt8.ofNat c).toNat = c := by simp [UInt8.toNat_ofNat']; omega
    refine MeansV.same h (x := .int .u8 c) ?_ (by simp [γ])
    simp only [Instr.index, asIntOf, Sem.run_bind, Sem.run_pure, Result.andThen_ok, run_underlying ht, hj, if_true, hget, hnat]
  · rename_i len e cs ht
    split at hl <;> try (simp at hl; done)
    rename_i n hn
    split at hl <;> try (simp at hl; done)
    rename_i hj
    simp only [γ, Option.map_eq_some_iff] at hv
    obtain ⟨xs, hxs, rfl⟩ := hv
    obtain ⟨y, h3, h4⟩ := part_means (P := P) (xs := xs.toArray) (by simpa using hxs) hl
    exact MeansV.same h (by simp [Instr.index, asIntOf, run_underlying ht, hj, run_sizeT hn, h3]) h4
end
end Go.Ex
/- The reflective executor, part 4: slices of strings and slices, comparisons, arithmetic. -/
namespace Go.Ex
open Go.RowKit
section
variable {P : Program} {G B : Nat} {w0 w : World} {ε : Env} {S : St}

/-! ### Bounds -/
def bnd (d : Nat) : Option AV → Option Nat
  | none => some d
  | some (.int _ i) => if 0 ≤ i then some i.toNat else none
  | some _ => none
/-- The same of operands' values. -/
def γo (ε : Env) : Option AV → Option Value → Prop
  | none, x => x = none
  | some v, x => ∃ y, γ ε v y ∧ x = some y
theorem run_sliceBound_nat (k : IntKind) (i : Int) (y : Nat) (code : BoundsCode) (h0 : 0 ≤ i) (h1 : i.toNat ≤ y) : (Instr.sliceBound (.int k i) y code).run P w = .ok i.toNat w := by
  have : 0 ≤ i ∧ i ≤ (y : Int) := ⟨h0, by omega⟩
  simp [Instr.sliceBound, asIntOf, this]
theorem run_bounds {lo hi : Option AV} {lo' hi' : Option Value} (hlo : γo ε lo lo') (hhi : γo ε hi hi') (isSlice : Bool) {len cap l h : Nat} (h1 : bnd 0 lo = some l) (h2 : bnd len hi = some h)
    (hlh : l ≤ h) (hhc : h ≤ cap) : (Instr.sliceBounds isSlice len cap lo' hi' none).run P w = .ok (l, h, cap) w := by
  have e2 : ∀ code, (match hi' with | some v => Instr.sliceBound v cap code | none => pure len).run P w = .ok h w := by
    intro code
    cases hi with
    | none => simp only [γo] at hhi; subst hhi; simp [bnd] at h2; subst h2; rfl
    | some v =>
      cases v <;> simp [bnd] at h2
      simp only [γo, γ] at hhi
      obtain ⟨_, rfl, rfl⟩ := hhi
      obtain ⟨h2, h3⟩ := h2
      simp only []
      rw [run_sliceBound_nat _ _ _ _ h2 (by omega), h3]
  have e1 : ∀ code, (match lo' with | some v => Instr.sliceBound v h code | none => pure 0).run P w = .ok l w := by
    intro code
    cases lo with
    | none => simp only [γo] at hlo; subst hlo; simp [bnd] at h1; subst h1; rfl
    | some v =>
      cases v <;> simp [bnd] at h1
      simp only [γo, γ] at hlo
      obtain ⟨_, rfl, rfl⟩ := hlo
      obtain ⟨h1, h3⟩ := h1
      simp only []
      rw [run_sliceBound_nat _ _ _ _ h1 (by omega), h3]
  unfold Instr.sliceBounds
  cases hi' with
  | none =>
    have := e2 .sliceB
    simp only [] at this
    simp only [Sem.run_bind, Sem.run_pure, Result.andThen_ok] at this ⊢
    simp only [Result.ok.injEq, and_true] at this
    subst this
    cases lo' with
    | none => have := e1 .sliceB; simp at this; simp [← this]
    | some v => have := e1 .sliceB; simp only [] at this; simp [this]
  | some v =>
    have := e2 (if isSlice then .sliceAcap else .sliceAlen)
    simp only [] at this
    simp only [Sem.run_bind, Sem.run_pure, Result.andThen_ok, this]
    cases lo' with
    | none => have := e1 .sliceB; simp at this; simp [← this]
    | some v => have := e1 .sliceB; simp only [] at this; simp [this]

/-- Where the capacity is not known: that it is the length at least. -/
def capOk (S : St) (i off len : Nat) : Cap → Bool
  | .ex c => len ≤ c
  | .blk s => match S.get i with
    | some (.cells cs _ (some sz) _) => decide (0 < sz) && (off == s * sz) && decide ((s + len) * sz ≤ cs.length)
    | _ => false
theorem capOk_le (h : Rel G B w0 ε S w) {i off len : Nat} {c : Cap} (hc : capOk S i off len c = true) : len ≤ capOf ε i c := by
  cases c with
  | ex c => simpa [capOk, capOf] using hc
  | blk s =>
    simp only [capOk] at hc
    split at hc <;> try (simp at hc; done)
    rename_i cs elem sz wr hget
    simp only [Bool.and_eq_true, decide_eq_true_eq, beq_iff_eq] at hc
    obtain ⟨⟨h0, h1⟩, h2⟩ := hc
    obtain ⟨b, o, _, _, ⟨xs, extra, fr, h3, _, _, h5⟩, _⟩ := h.live _ _ hget
    have hl := γs_length h3
    have : (s + len) * sz ≤ ε.κ i * sz := by simp only [List.length_append] at h5; omega
    have := Nat.le_of_mul_le_mul_right this h0
    simp [capOf]; omega

def xSlice (P : Program) (t : TypeId) (v : AV) (lo hi : Option AV) (S : St) : Option AV :=
  match P.underlying t, v with
  | some .string, .str s =>
    match bnd 0 lo, bnd s.length hi with
    | some l, some h => if l ≤ h && h ≤ s.length then some (.str ((s.drop l).take (h - l))) else none
    | _, _ => none
  | some (.slice e), .slc i off len (.ex c) =>
    match bnd 0 lo, bnd len hi, sizeT P e with
    | some l, some h, some n => if l ≤ h && h ≤ c then some (.slc i (if c = l then off else off + l * n) (h - l) (.ex (c - l))) else none
    | _, _, _ => none
  | some (.slice e), .slc i off len (.blk s) =>
    match bnd 0 lo, bnd len hi, sizeT P e with
    | some l, some h, some n => if l ≤ h && h ≤ len && capOk S i off len (.blk s) && (l == 0 || l < len) then some (.slc i (off + l * n) (h - l) (.blk (s + l)))
      else if decide (l = len) && decide (h = len) && capOk S i off len (.blk s) then some (.zs i off s l n) else none
    | _, _, _ => none
  | some (.slice e), .nilslc =>
    match bnd 0 lo, bnd 0 hi, sizeT P e with
    | some 0, some 0, some _ => some .nilslc
    | _, _, _ => none
  | some (.array c e), .ptr i off =>
    match bnd 0 lo, bnd c hi, sizeT P e with
    | some l, some h, some n => if l ≤ h && h ≤ c then some (.slc i (if c = l then off else off + l * n) (h - l) (.ex (c - l))) else none
    | _, _, _ => none
  | _, _ => none
theorem bs_extract (s : List Nat) (l h : Nat) : (bs s).extract l h = bs ((s.drop l).take (h - l)) := by
  have : ((bs s).extract l h).data = (bs ((s.drop l).take (h - l))).data := by
    apply Array.ext'
    simp [bs, List.map_take, List.map_drop]
  cases e1 : (bs s).extract l h
  cases e2 : bs ((s.drop l).take (h - l))
  simp_all
theorem okb_drop {s : List Nat} (h : okb s = true) (n : Nat) : okb (s.drop n) = true := by
  simp only [okb, List.all_eq_true] at *
  exact fun x hx => h x (List.mem_of_mem_drop hx)
theorem okb_take {s : List Nat} (h : okb s = true) (n : Nat) : okb (s.take n) = true := by
  simp only [okb, List.all_eq_true] at *
  exact fun x hx => h x (List.mem_of_mem_take hx)
theorem okb_append {s t : List Nat} (h : okb s = true) (h' : okb t = true) : okb (s ++ t) = true := by
  simp only [okb, List.all_eq_true, List.mem_append] at *
  rintro x (hx | hx)
  · exact h x hx
  · exact h' x hx
theorem addr_add (b off n : Nat) : Addr.add ⟨b, off, none⟩ n = ⟨b, off + n, none⟩ := Addr.add_lit b off n
theorem slice_means (h : Rel G B w0 ε S w) {t : TypeId} {v u : AV} {x : Value} {lo hi : Option AV} {lo' hi' : Option Value} (hv : γ ε v x)
    (hlo : γo ε lo lo') (hhi : γo ε hi hi') (hl : xSlice P t v lo hi S = some u) :
    MeansV G B w0 ε S ((Instr.sliceAt t x lo' hi' none).run P w) u S := by
  unfold xSlice at hl
  split at hl <;> try (simp at hl; done)
  · rename_i s ht
    split at hl <;> try (simp at hl; done)
    rename_i l hh h1 h2
    split at hl <;> try (simp at hl; done)
    rename_i hc
    simp only [Bool.and_eq_true, decide_eq_true_eq] at hc
    simp at hl; subst hl
    simp only [γ] at hv
    obtain ⟨hok, rfl⟩ := hv
    have hb := run_bounds (P := P) (w := w) hlo hhi false (cap := s.length) h1 h2 hc.1 hc.2
    refine MeansV.same h (x := .string ((bs s).extract l hh)) ?_ (by simp [γ, bs_extract, okb_take (okb_drop hok l) (hh - l)])
    simp only [Instr.sliceAt, Instr.slice, Sem.run_bind, run_underlying ht, Result.andThen_ok, bs_size]
    simp [hb]
  · rename_i e i off len c ht
    split at hl <;> try (simp at hl; done)
    rename_i l hh n h1 h2 hn
    split at hl <;> try (simp at hl; done)
    rename_i hc
    simp only [Bool.and_eq_true, decide_eq_true_eq] at hc
    simp at hl; subst hl
    simp only [γ, Option.map_eq_some_iff] at hv
    obtain ⟨b, hb, rfl⟩ := hv
    have hbd := run_bounds (P := P) (w := w) hlo hhi true (cap := c) h1 h2 hc.1 hc.2
    refine MeansV.same h (x := .slice (some ⟨b, if c = l then off else off + l * n, none⟩) (hh - l) (c - l)) ?_ (by simp [γ, hb, capOf])
    simp only [Instr.sliceAt, Instr.slice, Sem.run_bind, run_underlying ht, Result.andThen_ok, capOf, hbd, run_sizeT hn, Sem.run_pure]
    split <;> simp [addr_add]
  · rename_i e i off len s ht
    split at hl <;> try (simp at hl; done)
    rename_i l hh n h1 h2 hn
    split at hl
    rotate_left
    · split at hl <;> simp at hl
      rename_i hc
      simp only [Bool.and_eq_true, decide_eq_true_eq] at hc
      obtain ⟨⟨h3, h4⟩, h5⟩ := hc
      subst hl
      simp only [γ, Option.map_eq_some_iff] at hv
      obtain ⟨b, hb, rfl⟩ := hv
      have hcap := capOk_le h h5
      have hbd := run_bounds (P := P) (w := w) hlo hhi true (cap := capOf ε i (.blk s)) h1 h2 (by omega) (by omega)
      refine MeansV.same h (x := .slice (some ⟨b, if ε.κ i - s = l then off else off + l * n, none⟩) 0 (ε.κ i - s - l)) ?_ (by simp [γ, hb])
      simp only [Instr.sliceAt, Instr.slice, Sem.run_bind, run_underlying ht, Result.andThen_ok, hbd, run_sizeT hn, Sem.run_pure]
      have e : hh - l = 0 := by omega
      rw [e]
      simp only [capOf]
      by_cases hc : ε.κ i - s = l
      · simp only [hc, if_true, Sem.run_pure, Nat.sub_self]
      · simp only [hc, if_false, Sem.run_pure, Option.map_some, addr_add]
    rename_i hc
    simp only [Bool.and_eq_true, decide_eq_true_eq, Bool.or_eq_true, beq_iff_eq] at hc
    obtain ⟨⟨⟨h3, h4⟩, h5⟩, h6⟩ := hc
    simp at hl; subst hl
    simp only [γ, Option.map_eq_some_iff] at hv
    obtain ⟨b, hb, rfl⟩ := hv
    have hcap := capOk_le h h5
    have hbd := run_bounds (P := P) (w := w) hlo hhi true (cap := capOf ε i (.blk s)) h1 h2 h3 (by omega)
    have e2 : capOf ε i (.blk s) - l = capOf ε i (.blk (s + l)) := by simp [capOf]; omega
    refine MeansV.same h (x := .slice (some ⟨b, off + l * n, none⟩) (hh - l) (capOf ε i (.blk (s + l)))) ?_ (by simp [γ, hb])
    simp only [Instr.sliceAt, Instr.slice, Sem.run_bind, run_underlying ht, Result.andThen_ok, hbd, run_sizeT hn, Sem.run_pure, e2]
    split
    · rename_i hcl
      rcases h6 with h6 | h6
      · subst h6; simp
      · omega
    · simp [addr_add]
  · rename_i e ht
    split at hl <;> try (simp at hl; done)
    rename_i h1 h2 hn
    simp at hl; subst hl
    simp only [γ, Option.some.injEq] at hv
    subst hv
    have hbd := run_bounds (P := P) (w := w) hlo hhi true (cap := 0) h1 h2 (Nat.le_refl _) (Nat.le_refl _)
    refine MeansV.same h (x := .slice none 0 0) ?_ (by simp [γ])
    simp [Instr.sliceAt, Instr.slice, run_underlying ht, hbd, run_sizeT hn]
  · rename_i c e i off ht
    split at hl <;> try (simp at hl; done)
    rename_i l hh n h1 h2 hn
    split at hl <;> try (simp at hl; done)
    rename_i hc
    simp only [Bool.and_eq_true, decide_eq_true_eq] at hc
    simp at hl; subst hl
    simp only [γ, Option.map_eq_some_iff] at hv
    obtain ⟨b, hb, rfl⟩ := hv
    have hbd := run_bounds (P := P) (w := w) hlo hhi false (cap := c) h1 h2 hc.1 hc.2
    refine MeansV.same h (x := .slice (some ⟨b, if c = l then off else off + l * n, none⟩) (hh - l) (c - l)) ?_ (by simp [γ, hb, capOf])
    simp only [Instr.sliceAt, Sem.run_bind, run_underlying ht, Result.andThen_ok, Instr.sureAddr, Sem.run_pure, hbd, run_sizeT hn]
    split <;> simp [addr_add]

/-! ### Strings -/
def nlt : List Nat → List Nat → Bool
  | _, [] => false
  | [], _ :: _ => true
  | a :: x, b :: y => decide (a < b) || (decide (a = b) && nlt x y)
def neq : List Nat → List Nat → Bool
  | [], [] => true
  | a :: x, b :: y => decide (a = b) && neq x y
  | _, _ => false
theorem ofNat_eq {a b : Nat} (ha : a < 256) (hb : b < 256) : (UInt8.ofNat a = UInt8.ofNat b) ↔ a = b := by
  constructor
  · intro h
    have := congrArg UInt8.toNat h
    simp [UInt8.toNat_ofNat'] at this
    omega
  · intro h; rw [h]
theorem neq_spec : ∀ {s t : List Nat}, okb s = true → okb t = true → (s.map UInt8.ofNat == t.map UInt8.ofNat) = neq s t
  | [], [], _, _ => rfl
  | [], b :: t, _, _ => rfl
  | a :: s, [], _, _ => rfl
  | a :: s, b :: t, h, h' => by
    simp only [okb, List.all_cons, Bool.and_eq_true, decide_eq_true_eq] at h h'
    have ih := neq_spec (s := s) (t := t) h.2 h'.2
    simp only [List.map_cons, neq]
    rw [← ih]
    show (UInt8.ofNat a == UInt8.ofNat b && _) = _
    congr 1
    rw [Bool.eq_iff_iff]
    simp only [beq_iff_eq, decide_eq_true_eq]
    exact ofNat_eq h.1 h'.1
theorem nlt_spec : ∀ {s t : List Nat}, okb s = true → okb t = true → Op.bytesLess (s.map UInt8.ofNat) (t.map UInt8.ofNat) = nlt s t
  | [], [], _, _ => rfl
  | [], b :: t, _, _ => rfl
  | a :: s, [], _, _ => rfl
  | a :: s, b :: t, h, h' => by
    simp only [okb, List.all_cons, Bool.and_eq_true, decide_eq_true_eq] at h h'
    have ih := nlt_spec (s := s) (t := t) h.2 h'.2
    simp only [List.map_cons, nlt, Op.bytesLess]
    rw [ih]
    have e1 : decide (UInt8.ofNat a < UInt8.ofNat b) = decide (a < b) := by
      rw [decide_eq_decide, UInt8.lt_iff_toNat_lt]
      simp [UInt8.toNat_ofNat']
      omega
    have e2 : (UInt8.ofNat a == UInt8.ofNat b) = decide (a = b) := by
      rw [Bool.eq_iff_iff]
      simp only [beq_iff_eq, decide_eq_true_eq]
      exact ofNat_eq h.1 h'.1
    rw [e1, e2]
theorem bs_toList (s : List Nat) : (bs s).toList = s.map UInt8.ofNat := by rw [ByteArray.toList_eq, bs_data]
theorem bs_append (s t : List Nat) : bs s ++ bs t = bs (s ++ t) := by
  have : (bs s ++ bs t).data = (bs (s ++ t)).data := by
    apply Array.ext'
    simp [bs]
  cases e1 : bs s ++ bs t
  cases e2 : bs (s ++ t)
  simp_all
def xStrOp (op : BinOp) (s t : List Nat) : Option AV :=
  match op with
  | .add => if s.length + t.length ≤ 9223372036854775807 then some (.str (s ++ t)) else none
  | .eql => some (.bool (neq s t))
  | .neq => some (.bool (!neq s t))
  | .lss => some (.bool (nlt s t))
  | .leq => some (.bool (nlt s t || neq s t))
  | .gtr => some (.bool (!(nlt s t || neq s t)))
  | .geq => some (.bool (!nlt s t))
  | _ => none
theorem strOp_means {op : BinOp} {s t : List Nat} {u : AV} (hs : okb s = true) (ht : okb t = true) (h : xStrOp op s t = some u) :
    ∃ y, (∀ w, (Op.stringOp op (bs s) (bs t)).run P w = .ok y w) ∧ γ ε u y := by
  have e1 := neq_spec hs ht
  have e2 := nlt_spec hs ht
  cases op <;> simp only [xStrOp] at h <;> try (simp at h; done)
  case add =>
    split at h <;> simp at h
    rename_i hl
    subst h
    exact ⟨.string (bs (s ++ t)), fun w => by rw [run_string_add_sum _ _ _ (by simpa [bs_size] using hl), bs_append], by simp [γ, okb_append hs ht]⟩
  all_goals
    simp only [Option.some.injEq] at h
    subst h
    refine ⟨_, fun w => by simp only [Op.stringOp, bs_toList, e1, e2]; rfl, by simp [γ]⟩

/-! ### Equality -/
def isBlank (P : Program) (t : TypeId) : Bool := P.stoodInHeld t
mutual
def xEq (P : Program) : Nat → TypeId → AV → AV → Option Bool
  | 0, _, _, _ => none
  | d + 1, t, a, b =>
    match P.underlying t, a, b with
    | some .bool, .bool x, .bool y => some (x == y)
    | some .bool, .sb x, .bool y => some (x == y)
    | some .bool, .bool x, .sb y => some (x == y)
    | some .bool, .sb x, .sb y => some (x == y)
    | some (.int _), .int k x, .int k' y => if k = k' then some (x == y) else none
    | some (.float _), .flt k x, .flt k' y => if k = k' then some (Op.floatEq k x y) else none
    | some .string, .str x, .str y => some (neq x y)
    | some (.pointer _), .nilptr, .nilptr => some true
    | some (.pointer _), .nilptr, .ptr _ _ => some false
    | some (.pointer _), .ptr _ _, .nilptr => some false
    | some (.pointer _), .pin _, .nilptr => some false
    | some (.pointer _), .nilptr, .pin _ => some false
    | some (.pointer e), .ptr i x, .ptr j y => match sizeT P e with
      | some (_ + 1) => if i = j then some (x == y) else none
      | _ => none
    | some (.interface _), .niliface, .niliface => some true
    | some (.interface _), .niliface, .iface _ _ => some false
    | some (.interface _), .iface _ _, .niliface => some false
    | some (.interface _), .iface tx vx, .iface ty vy =>
      if tx = ty then match P.info? tx with
        | some i => if i.comparable then xEq P d tx vx vy else none
        | none => none
      else some false
    | some (.slice _), .nilslc, .nilslc => some true
    | some (.slice _), .nilslc, .slc _ _ _ _ => some false
    | some (.slice _), .slc _ _ _ _, .nilslc => some false
    | some (.slice _), .snap _ z _ _, .nilslc => some z
    | some (.slice _), .nilslc, .snap _ z _ _ => some z
    | some (.map _ _), .nilmap, .nilmap => some true
    | some (.func _ _ _), .nilfunc, .nilfunc => some true
    | some (.func _ _ _), .func _ _ _, .nilfunc => some false
    | some (.struct fs), .agg xs, .agg ys => if P.stoodInHeld t then none else xEqs P d xs ys fs.toList
    | _, _, _ => none
def xEqs (P : Program) : Nat → List AV → List AV → List Field → Option Bool
  | 0, _, _, _ => none
  | d + 1, xs, ys, fs => match fs with
    | [] => some true
    | f :: fs =>
      if f.name ≠ "_" then
        match xPart P f.type xs f.offset, xPart P f.type ys f.offset with
        | some a, some b => match xEq P d f.type a b, xEqs P d xs ys fs with
          | some r, some r' => some (r && r')
          | _, _ => none
        | _, _ => none
      else xEqs P d xs ys fs
end
end
end Go.Ex
/- The reflective executor, part 5: equality, binary and unary operations, conversions, composite values. -/
namespace Go.Ex
open Go.RowKit
section
variable {P : Program} {G B : Nat} {w0 w : World} {ε : Env} {S : St}

theorem beq_bytes {s t : List Nat} (hs : okb s = true) (ht : okb t = true) : (bs s == bs t) = neq s t := by
  rw [beq_toListBytes, bs_toList, bs_toList, neq_spec hs ht]

set_option maxHeartbeats 2000000 in
theorem xEq_sound : ∀ (d : Nat),
    (∀ (t : TypeId) (a b : AV) (r : Bool), xEq P d t a b = some r → ∀ (x y : Value), γ ε a x → γ ε b y → ∀ d', d ≤ d' → ∀ w, (Op.equalIn d' t x y).run P w = .ok r w) ∧
    (∀ (xs ys : List AV) (fs : List Field) (r : Bool), xEqs P d xs ys fs = some r → ∀ (X Y : Array Value), γs ε xs X.toList → γs ε ys Y.toList → ∀ d', d ≤ d' → ∀ w,
      (Op.eqFields d' X Y fs).run P w = .ok r w)
  | 0 => ⟨fun t a b r h => by simp [xEq] at h, fun xs ys fs r h => by simp [xEqs] at h⟩
  | d + 1 => by
    obtain ⟨ih1, ih2⟩ := xEq_sound d
    constructor
    · intro t a b r h x y hx hy d' hd w
      obtain ⟨e, rfl⟩ : ∃ e, d' = e + 1 := ⟨d' - 1, by omega⟩
      have hde : d ≤ e := by omega
      simp only [xEq] at h
      split at h <;> try (simp at h; done)
      · rename_i p q ht
        simp [γ] at hx hy; simp at h; subst h; subst hx; subst hy
        simp [Op.equalIn, run_underlying ht]
      · rename_i p q ht
        simp [γ] at hx hy; simp at h; subst h; subst hx; subst hy
        simp [Op.equalIn, run_underlying ht]
      · rename_i p q ht
        simp [γ] at hx hy; simp at h; subst h; subst hx; subst hy
        simp [Op.equalIn, run_underlying ht]
      · rename_i p q ht
        simp [γ] at hx hy; simp at h; subst h; subst hx; subst hy
        simp [Op.equalIn, run_underlying ht]
      · rename_i k0 k p k' q ht
        split at h <;> simp at h
        rename_i hk
        simp [γ] at hx hy; subst h; subst hx; subst hy; subst hk
        simp [Op.equalIn, run_underlying ht]
      · rename_i k0 k p k' q ht
        split at h <;> simp at h
        rename_i hk
        simp [γ] at hx hy; subst h; subst hx; subst hy; subst hk
        simp [Op.equalIn, run_underlying ht]
      · rename_i p q ht
        simp only [γ] at hx hy
        obtain ⟨h1, rfl⟩ := hx
        obtain ⟨h2, rfl⟩ := hy
        simp at h; subst h
        simp [Op.equalIn, run_underlying ht, beq_bytes h1 h2]
      · rename_i ht
        simp [γ] at hx hy; simp at h; subst h; subst hx; subst hy
        simp [Op.equalIn, run_underlying ht]
      · rename_i ht
        simp only [γ, Option.map_eq_some_iff, Option.some.injEq] at hx hy; obtain ⟨b', hb, rfl⟩ := hy; simp at h; subst h; subst hx
        simp [Op.equalIn, run_underlying ht]
      · rename_i ht
        simp only [γ, Option.map_eq_some_iff, Option.some.injEq] at hx hy; obtain ⟨b', hb, rfl⟩ := hx; simp at h; subst h; subst hy
        simp [Op.equalIn, run_underlying ht]
      · rename_i ht
        simp only [γ] at hx hy; obtain ⟨b', off, cs, t', fr, xs, rfl, _⟩ := hx; simp at h; subst h; subst hy
        simp [Op.equalIn, run_underlying ht]
      · rename_i ht
        simp only [γ] at hx hy; obtain ⟨b', off, cs, t', fr, xs, rfl, _⟩ := hy; simp at h; subst h; subst hx
        simp [Op.equalIn, run_underlying ht]
      · rename_i e0 i p j q ht
        split at h <;> try (simp at h; done)
        rename_i n hn
        split at h <;> simp at h
        rename_i hij
        subst hij
        simp only [γ, Option.map_eq_some_iff] at hx hy
        obtain ⟨b', hb, rfl⟩ := hx
        obtain ⟨b'', hb', rfl⟩ := hy
        rw [hb] at hb'; simp at hb'; subst hb'
        subst h
        have e : ((⟨b', p, none⟩ : Addr) == ⟨b', q, none⟩) = (p == q) := by rw [Bool.eq_iff_iff]; simp
        simp [Op.equalIn, run_underlying ht, run_sizeT hn, sameAddr, e]
      · rename_i ht
        simp [γ] at hx hy; simp at h; subst h; subst hx; subst hy
        simp [Op.equalIn, run_underlying ht]
      · rename_i ht
        simp only [γ, Option.map_eq_some_iff, Option.some.injEq] at hx hy; obtain ⟨b', hb, rfl⟩ := hy; simp at h; subst h; subst hx
        simp [Op.equalIn, run_underlying ht]
      · rename_i ht
        simp only [γ, Option.map_eq_some_iff, Option.some.injEq] at hx hy; obtain ⟨b', hb, rfl⟩ := hx; simp at h; subst h; subst hy
        simp [Op.equalIn, run_underlying ht]
      · rename_i ms tx vx ty vy ht
        simp only [γ, Option.map_eq_some_iff] at hx hy
        obtain ⟨x', hx', rfl⟩ := hx
        obtain ⟨y', hy', rfl⟩ := hy
        split at h
        · rename_i hxy
          subst hxy
          split at h <;> try (simp at h; done)
          rename_i i hi
          split at h <;> try (simp at h; done)
          rename_i hc
          have := ih1 tx vx vy r h x' y' hx' hy' e hde w
          simp [Op.equalIn, run_underlying ht, typeInfo, hi, hc, this]
        · rename_i hxy
          simp at h; subst h
          simp [Op.equalIn, run_underlying ht, hxy]
      · rename_i ht
        simp [γ] at hx hy; simp at h; subst h; subst hx; subst hy
        simp [Op.equalIn, run_underlying ht]
      · rename_i ht
        simp only [γ, Option.map_eq_some_iff, Option.some.injEq] at hx hy; obtain ⟨b', hb, rfl⟩ := hy; simp at h; subst h; subst hx
        simp [Op.equalIn, run_underlying ht]
      · rename_i ht
        simp only [γ, Option.map_eq_some_iff, Option.some.injEq] at hx hy; obtain ⟨b', hb, rfl⟩ := hx; simp at h; subst h; subst hy
        simp [Op.equalIn, run_underlying ht]
      · rename_i ht
        simp only [γ] at hx hy; subst hy; simp at h; subst h
        rcases hx with ⟨rfl, _, rfl⟩ | ⟨rfl, b', off, cap, sp, rfl, _⟩ <;> simp [Op.equalIn, run_underlying ht]
      · rename_i ht
        simp only [γ] at hx hy; subst hx; simp at h; subst h
        rcases hy with ⟨rfl, _, rfl⟩ | ⟨rfl, b', off, cap, sp, rfl, _⟩ <;> simp [Op.equalIn, run_underlying ht]
      · rename_i ht
        simp [γ] at hx hy; simp at h; subst h; subst hx; subst hy
        simp [Op.equalIn, run_underlying ht]
      · rename_i ht
        simp [γ] at hx hy; simp at h; subst h; subst hx; subst hy
        simp [Op.equalIn, run_underlying ht]
      · rename_i ht
        simp only [γ, Option.map_eq_some_iff, Option.some.injEq, Option.bind_eq_some_iff] at hx hy; obtain ⟨b', hb, c', hc, rfl⟩ := hx; simp at h; subst h; subst hy
        simp [Op.equalIn, run_underlying ht]
      · rename_i fs xs ys ht
        split at h <;> try (simp at h; done)
        rename_i hst
        simp only [γ, Option.map_eq_some_iff] at hx hy
        obtain ⟨X, hX, rfl⟩ := hx
        obtain ⟨Y, hY, rfl⟩ := hy
        have hf : P.fieldsOf t = fs := by simp [Program.fieldsOf, ht]
        rw [run_equalIn_struct w e t _ _ (by rw [hf]; exact ht) (by simpa using hst), hf]
        exact ih2 xs ys fs.toList r h X.toArray Y.toArray (by simpa using hX) (by simpa using hY) e hde w
    · intro xs ys fs r h X Y hX hY d' hd w
      simp only [xEqs] at h
      split at h
      · simp at h; subst h; simp [Op.eqFields]
      · rename_i f fs
        split at h
        · rename_i hname
          split at h <;> try (simp at h; done)
          rename_i a b ha hb
          obtain ⟨y1, h1, h2⟩ := part_means (P := P) hX ha
          obtain ⟨y2, h3, h4⟩ := part_means (P := P) hY hb
          split at h <;> try (simp at h; done)
          rename_i r1 r2 he he2
          simp at h; subst h
          have := ih1 f.type a b r1 he y1 y2 h2 h4 d' (by omega) w
          have h5 := ih2 xs ys fs r2 he2 X Y hX hY d' (by omega) w
          cases r1 <;> simp [Op.eqFields, hname, h1, h3, this, h5]
        · rename_i hname
          have h5 := ih2 xs ys fs r h X Y hX hY d' (by omega) w
          simp [Op.eqFields, hname, h5]

/-! ### Binary operations -/
def plainEq : AV → Bool
  | .ptr _ _ | .nilptr | .iface _ _ | .niliface | .slc _ _ _ _ | .nilslc | .nilmap | .nilfunc | .func _ _ _ | .agg _ | .snap _ _ _ _ | .pin _ => true
  | _ => false
def isC : Operand → Bool
  | .const _ => true
  | _ => false
def guardOk (P : Program) (t : TypeId) (x y : Operand) : AV → AV → Bool
  | _, .any => false
  | .niliface, .niliface => isC x || isC y
  | .agg _, .agg _ => !P.eqGuardType P.depth t
  | _, _ => true
def xBin (P : Program) (op : BinOp) (t : TypeId) (xo yo : Operand) (a b : AV) : Option AV :=
  match sc a, sc b with
  | some x, some y => match pureP P (do eqGuard op t xo yo x y; binOp op t x y) with
    | some v => cv 2 v
    | none => none
  | _, _ =>
    match a, b with
    | .str s, .str s' => xStrOp op s s'
    | a, b =>
      if plainEq a && guardOk P t xo yo a b then
        match op with
        | .eql => (xEq P 100 t a b).map .bool
        | .neq => (xEq P 100 t a b).map fun r => .bool (!r)
        | _ => none
      else none
theorem eqGuard_ok {op : BinOp} {t : TypeId} {xo yo : Operand} {a b : AV} {x y : Value} (h : guardOk P t xo yo a b = true) (hx : γ ε a x) (hy : γ ε b y) (hp : plainEq a = true) :
    (eqGuard op t xo yo x y).run P w = .ok () w := by
  cases a <;> simp [plainEq] at hp <;> simp only [γ, Option.map_eq_some_iff, Option.bind_eq_some_iff, Option.some.injEq] at hx
  case ptr => obtain ⟨b', hb, rfl⟩ := hx; simp [eqGuard_at_pointer]
  case nilptr => subst hx; simp [eqGuard_at_pointer]
  case slc => obtain ⟨b', hb, rfl⟩ := hx; simp [eqGuard_at_slice]
  case snap => rcases hx with ⟨rfl, _, rfl⟩ | ⟨rfl, b', off, cap, sp, rfl, _⟩ <;> simp [eqGuard_at_slice]
  case pin => obtain ⟨b', off, cs, t', fr, xs, rfl, _⟩ := hx; simp [eqGuard_at_pointer]
  case nilslc => subst hx; simp [eqGuard_at_slice]
  case nilmap => subst hx; simp [eqGuard_at_map]
  case nilfunc => subst hx; simp [eqGuard_at_nilFunc]
  case func => obtain ⟨b', hb, c', hc, rfl⟩ := hx; simp [eqGuard_at_func]
  case iface => obtain ⟨b', hb, rfl⟩ := hx; simp [eqGuard_at_iface]
  case niliface =>
    subst hx
    cases b <;> simp only [γ, Option.map_eq_some_iff, Option.bind_eq_some_iff, Option.some.injEq] at hy
    case niliface =>
      subst hy
      simp only [guardOk, Bool.or_eq_true] at h
      cases xo <;> cases yo <;> simp [isC] at h <;> first | simp [eqGuard_nil_constR] | simp [eqGuard_nil_constL]
    case any => simp [guardOk] at h
    case str => obtain ⟨_, rfl⟩ := hy; cases op <;> rfl
    case snap => rcases hy with ⟨rfl, _, rfl⟩ | ⟨rfl, b', off, cap, sp, rfl, _⟩ <;> cases op <;> rfl
    case pin => obtain ⟨b', off, cs, t', fr, xs, rfl, _⟩ := hy; cases op <;> rfl
    case ptr => obtain ⟨b', hb, rfl⟩ := hy; cases op <;> rfl
    case slc => obtain ⟨b', hb, rfl⟩ := hy; cases op <;> rfl
    case func => obtain ⟨b', hb, c', hc, rfl⟩ := hy; cases op <;> rfl
    case iface => obtain ⟨b', hb, rfl⟩ := hy; cases op <;> rfl
    case yld => obtain ⟨b', hb, rfl⟩ := hy; cases op <;> rfl
    case zs => obtain ⟨b', hb, rfl⟩ := hy; cases op <;> rfl
    case agg => obtain ⟨b', hb, rfl⟩ := hy; cases op <;> rfl
    case tup => obtain ⟨b', hb, rfl⟩ := hy; cases op <;> rfl
    all_goals (subst hy; cases op <;> rfl)
  case agg =>
    obtain ⟨b', hb, rfl⟩ := hx
    cases b <;> simp only [γ, Option.map_eq_some_iff, Option.bind_eq_some_iff, Option.some.injEq] at hy
    case agg =>
      obtain ⟨c', hc, rfl⟩ := hy
      exact run_eqGuard_agg w op t xo yo _ _ (by simpa [guardOk] using h)
    case any => simp [guardOk] at h
    case str => obtain ⟨_, rfl⟩ := hy; cases op <;> rfl
    case snap => rcases hy with ⟨rfl, _, rfl⟩ | ⟨rfl, b', off, cap, sp, rfl, _⟩ <;> cases op <;> rfl
    case pin => obtain ⟨b', off, cs, t', fr, xs, rfl, _⟩ := hy; cases op <;> rfl
    case ptr => obtain ⟨b', hb, rfl⟩ := hy; cases op <;> rfl
    case slc => obtain ⟨b', hb, rfl⟩ := hy; cases op <;> rfl
    case func => obtain ⟨b', hb, c', hc, rfl⟩ := hy; cases op <;> rfl
    case iface => obtain ⟨b', hb, rfl⟩ := hy; cases op <;> rfl
    case yld => obtain ⟨b', hb, rfl⟩ := hy; cases op <;> rfl
    case zs => obtain ⟨b', hb, rfl⟩ := hy; cases op <;> rfl
    case tup => obtain ⟨b', hb, rfl⟩ := hy; cases op <;> rfl
    all_goals (subst hy; cases op <;> rfl)
theorem binOp_eql_plain {t : TypeId} {a : AV} {x y : Value} (hx : γ ε a x) (hp : plainEq a = true) : binOp .eql t x y = (do pure (.bool (← Op.equal t x y)) : Sem Value) := by
  cases a <;> simp [plainEq] at hp <;> simp only [γ, Option.map_eq_some_iff, Option.bind_eq_some_iff, Option.some.injEq] at hx
  case ptr => obtain ⟨b', hb, rfl⟩ := hx; cases y <;> rfl
  case slc => obtain ⟨b', hb, rfl⟩ := hx; cases y <;> rfl
  case snap => rcases hx with ⟨rfl, _, rfl⟩ | ⟨rfl, b', off, cap, sp, rfl, _⟩ <;> cases y <;> rfl
  case pin => obtain ⟨b', off, cs, t', fr, xs, rfl, _⟩ := hx; cases y <;> rfl
  case func => obtain ⟨b', hb, c', hc, rfl⟩ := hx; cases y <;> rfl
  case iface => obtain ⟨b', hb, rfl⟩ := hx; cases y <;> rfl
  case agg => obtain ⟨b', hb, rfl⟩ := hx; cases y <;> rfl
  all_goals (subst hx; cases y <;> rfl)
theorem binOp_neq_plain {t : TypeId} {a : AV} {x y : Value} (hx : γ ε a x) (hp : plainEq a = true) : binOp .neq t x y = (do pure (.bool (!(← Op.equal t x y))) : Sem Value) := by
  cases a <;> simp [plainEq] at hp <;> simp only [γ, Option.map_eq_some_iff, Option.bind_eq_some_iff, Option.some.injEq] at hx
  case ptr => obtain ⟨b', hb, rfl⟩ := hx; cases y <;> rfl
  case slc => obtain ⟨b', hb, rfl⟩ := hx; cases y <;> rfl
  case snap => rcases hx with ⟨rfl, _, rfl⟩ | ⟨rfl, b', off, cap, sp, rfl, _⟩ <;> cases y <;> rfl
  case pin => obtain ⟨b', off, cs, t', fr, xs, rfl, _⟩ := hx; cases y <;> rfl
  case func => obtain ⟨b', hb, c', hc, rfl⟩ := hx; cases y <;> rfl
  case iface => obtain ⟨b', hb, rfl⟩ := hx; cases y <;> rfl
  case agg => obtain ⟨b', hb, rfl⟩ := hx; cases y <;> rfl
  all_goals (subst hx; cases y <;> rfl)
theorem bin_run {op : BinOp} {t : TypeId} {xo yo : Operand} {a b u : AV} {x y : Value} (hx : γ ε a x) (hy : γ ε b y) (h : xBin P op t xo yo a b = some u) :
    ∃ z, (∀ w, (do eqGuard op t xo yo x y; binOp op t x y : Sem Value).run P w = .ok z w) ∧ γ ε u z := by
  unfold xBin at h
  split at h
  · rename_i x' y' h1 h2
    have e1 := sc_γ h1 hx
    have e2 := sc_γ h2 hy
    subst e1; subst e2
    split at h <;> try (simp at h; done)
    rename_i v hv
    exact ⟨v, fun w => pureP_run hv w, cv_sound ε 2 v u h⟩
  · split at h
    · rename_i s s' _
      simp only [γ] at hx hy
      obtain ⟨hs, rfl⟩ := hx
      obtain ⟨hs', rfl⟩ := hy
      obtain ⟨z, h3, h4⟩ := strOp_means (P := P) (ε := ε) hs hs' h
      refine ⟨z, fun w => ?_, h4⟩
      have e : binOp op t (.string (bs s)) (.string (bs s')) = Op.stringOp op (bs s) (bs s') := by cases op <;> rfl
      simp [eqGuard_at_string, e, h3]
    · split at h <;> try (simp at h; done)
      rename_i hc
      simp only [Bool.and_eq_true] at hc
      split at h <;> try (simp at h; done)
      · simp only [Option.map_eq_some_iff] at h
        obtain ⟨r, hr, rfl⟩ := h
        refine ⟨.bool r, fun w => ?_, by simp [γ]⟩
        have := (xEq_sound (P := P) (ε := ε) 100).1 _ _ _ r hr x y hx hy Op.maxDepth (by simp [Op.maxDepth]) w
        simp [eqGuard_ok hc.2 hx hy hc.1, binOp_eql_plain hx hc.1, Op.equal, this]
      · simp only [Option.map_eq_some_iff] at h
        obtain ⟨r, hr, rfl⟩ := h
        refine ⟨.bool (!r), fun w => ?_, by simp [γ]⟩
        have := (xEq_sound (P := P) (ε := ε) 100).1 _ _ _ r hr x y hx hy Op.maxDepth (by simp [Op.maxDepth]) w
        simp [eqGuard_ok hc.2 hx hy hc.1, binOp_neq_plain hx hc.1, Op.equal, this]
end
end Go.Ex
/- The reflective executor, part 6: composite values, new slices, conversions between strings and bytes, builtins. -/
namespace Go.Ex
open Go.RowKit
section
variable {P : Program} {G B : Nat} {w0 w : World} {ε : Env} {S : St}

/-! ### Composite values -/
def setAt : List AV → Nat → List AV → List AV
  | cs, _, [] => cs
  | cs, off, v :: vs => setAt (cs.set off v) (off + 1) vs
def xFill (place : Nat → Option (Nat × Nat)) (cells : List AV) : List (Nat × AV) → Option (List AV)
  | [] => some cells
  | (i, v) :: rest =>
    match place i with
    | none => none
    | some (off, size) => if !v.good || (v.cells.length ≠ size || off + v.cells.length > cells.length) then none else xFill place (setAt cells off v.cells) rest
def γp (ε : Env) : List (Nat × AV) → List (Nat × Value) → Prop
  | [], xs => xs = []
  | (i, v) :: l, xs => ∃ x, γ ε v x ∧ ∃ ys, γp ε l ys ∧ xs = (i, x) :: ys
theorem setAt_spec : ∀ (vs : List AV) (xs : List Value) (cs : List AV) (X : Array Value) (off k : Nat), γs ε vs xs → γs ε cs X.toList →
    γs ε (setAt cs (off + k) vs) ((xs.zipIdx k).foldl (fun cs (c, j) => cs.setIfInBounds (off + j) c) X).toList
  | [], xs, cs, X, off, k, h, h' => by rw [γs_nil] at h; subst h; simpa [setAt] using h'
  | v :: vs, xs, cs, X, off, k, h, h' => by
    obtain ⟨x, ys, h1, h2, rfl⟩ := γs_cons.1 h
    simp only [setAt, List.zipIdx_cons, List.foldl_cons]
    rw [show off + k + 1 = off + (k + 1) by omega]
    refine setAt_spec vs ys _ _ off (k + 1) h2 ?_
    rw [Array.toList_setIfInBounds]
    exact γs_set h' _ h1
theorem setAt_length : ∀ (vs cs : List AV) (off : Nat), (setAt cs off vs).length = cs.length
  | [], cs, off => rfl
  | v :: vs, cs, off => by simp [setAt, setAt_length vs]
theorem xFill_sound {place : Nat → Option (Nat × Nat)} : ∀ (ps : List (Nat × AV)) (xs : List (Nat × Value)) (cs : List AV) (X : Array Value) (r : List AV), γp ε ps xs → γs ε cs X.toList →
    xFill place cs ps = some r → ∃ Y, Instr.fill place X xs = some Y ∧ γs ε r Y.toList
  | [], xs, cs, X, r, h, h', hf => by
    simp only [γp] at h; subst h
    simp [xFill] at hf; subst hf
    exact ⟨X, rfl, h'⟩
  | (i, v) :: ps, xs, cs, X, r, h, h', hf => by
    simp only [γp, Option.bind_eq_some_iff, Option.map_eq_some_iff] at h
    obtain ⟨x, h1, ys, h2, rfl⟩ := h
    simp only [xFill] at hf
    cases hp : place i with
    | none => simp [hp] at hf
    | some q =>
      obtain ⟨off, size⟩ := q
      simp only [hp] at hf
      split at hf <;> try (simp at hf; done)
      rename_i hc0
      simp only [Bool.or_eq_true, Bool.not_eq_true', not_or, Bool.not_eq_false] at hc0
      obtain ⟨hgood, hc⟩ := hc0
      have hc : ¬ ((decide (v.cells.length ≠ size) || decide (off + v.cells.length > cs.length)) = true) := by simpa using hc
      have hcells := γ_cells h1 hgood
      have e1 := γs_length hcells
      have e2 := γs_length h'
      simp only [Array.length_toList] at e1 e2
      have hs := setAt_spec v.cells x.cells.toList cs X off 0 hcells h'
      rw [Nat.add_zero] at hs
      have heq : (x.cells.toList.zipIdx).foldl (fun cs (c, j) => cs.setIfInBounds (off + j) c) X = x.cells.zipIdx.foldl (fun cs (c, j) => cs.setIfInBounds (off + j) c) X := by
        rw [← Array.foldl_toList]; simp
      rw [heq] at hs
      obtain ⟨Y, h3, h4⟩ := xFill_sound ps ys _ _ r h2 hs hf
      refine ⟨Y, ?_, h4⟩
      simp only [Instr.fill, hp]
      rw [e1, e2]
      rw [if_neg hc]
      exact h3

def placesT (P : Program) (t : TypeId) : Option (List (Nat × Nat)) :=
  match P.underlying t with
  | some (.struct fields) => fields.toList.mapM fun f => (P.info? f.type).map fun i => (f.offset, i.size)
  | _ => none
def xBuild (P : Program) (t : TypeId) (parts : List (Nat × AV)) : Option AV :=
  match zeroOf P t, P.underlying t with
  | some z, some (.struct _) => match placesT P t with
    | some places => (xFill (fun i => places[i]?) z.cells parts).map .agg
    | none => none
  | some z, some (.array _ e) => match sizeT P e with
    | some n => (xFill (fun i => some (i * n, n)) z.cells parts).map .agg
    | none => none
  | _, _ => none
theorem zeroOf_spec {t : TypeId} {z : AV} (h : zeroOf P t = some z) : ∃ i x, P.info? t = some i ∧ i.zero = some x ∧ ∀ ε, γ ε z x := by
  unfold zeroOf at h
  split at h <;> try (simp at h; done)
  rename_i i hi
  split at h <;> try (simp at h; done)
  rename_i x hx
  exact ⟨i, x, hi, hx, fun ε => cv_sound ε 8 x z h⟩
theorem build_means (h : Rel G B w0 ε S w) {t : TypeId} {parts : List (Nat × AV)} {xs : Array (Nat × Value)} {u : AV} (hp : γp ε parts xs.toList) (hl : xBuild P t parts = some u) :
    MeansV G B w0 ε S ((Instr.build t xs).run P w) u S := by
  unfold xBuild at hl
  split at hl <;> try (simp at hl; done)
  · rename_i z fs hz ht
    obtain ⟨i, x, h1, h2, h3⟩ := zeroOf_spec hz
    cases hpl : placesT P t with
    | none => simp [hpl] at hl
    | some places =>
      simp only [hpl, Option.map_eq_some_iff] at hl
      obtain ⟨r, hr, rfl⟩ := hl
      obtain ⟨Y, h4, h5⟩ := xFill_sound parts xs.toList _ x.cells r hp (γ_cells (h3 ε) (zeroOf_good hz)) hr
      have hb : P.built t xs.toList = some Y := by
        unfold placesT at hpl
        simp only [ht] at hpl
        unfold Program.built
        simp only [h1, ht, h2, hpl]
        rw [← h4]
        congr 1
        funext i
        simp
      exact MeansV.same h (run_build w t xs Y hb) (γ_agg h5)
  · rename_i z n0 e hz ht
    obtain ⟨i, x, h1, h2, h3⟩ := zeroOf_spec hz
    split at hl <;> try (simp at hl; done)
    rename_i n hn
    simp only [Option.map_eq_some_iff] at hl
    obtain ⟨r, hr, rfl⟩ := hl
    obtain ⟨Y, h4, h5⟩ := xFill_sound parts xs.toList _ x.cells r hp (γ_cells (h3 ε) (zeroOf_good hz)) hr
    have hb : P.built t xs.toList = some Y := by
      unfold sizeT at hn
      cases hie : P.info? e with
      | none => simp [hie] at hn
      | some ie =>
        simp [hie] at hn
        unfold Program.built
        simp only [h1, ht, h2, hie, hn]
        exact h4
    exact MeansV.same h (run_build w t xs Y hb) (γ_agg h5)

/-- So many cells, again and again those of one element. -/
def many (zs : List AV) (n : Nat) : List AV := (List.range n).map fun i => zs.getD (i % zs.length) (.tup [])
theorem many_spec {zs : List AV} {Z : Array Value} (h : γs ε zs Z.toList) (n : Nat) (h0 : n = 0 ∨ 0 < zs.length) :
    γs ε (many zs n) ((Array.range n).map (fun i => Z[i % Z.size]!)).toList := by
  have hl := γs_length h
  simp only [Array.length_toList] at hl
  simp only [many, Array.toList_map, Array.toList_range]
  have key : ∀ (l : List Nat), (l = [] ∨ 0 < zs.length) → γs ε (l.map fun i => zs.getD (i % zs.length) (.tup [])) (l.map (fun i => Z[i % Z.size]!)) := by
    intro l hl0
    induction l with
    | nil => rfl
    | cons a l ih =>
      have hpos : 0 < zs.length := by rcases hl0 with h | h; · cases h
                                      · exact h
      have hlt : a % zs.length < zs.length := Nat.mod_lt _ hpos
      have hg : zs[a % zs.length]? = some zs[a % zs.length] := List.getElem?_eq_getElem hlt
      obtain ⟨x, h1, h2⟩ := γs_get h hg
      refine γs_cons.2 ⟨x, _, ?_, ih (Or.inr hpos), ?_⟩
      · simpa [List.getD, hg] using h2
      · simp only [List.map_cons, List.cons.injEq, and_true]
        rw [hl]
        have h1' : Z[a % zs.length]? = some x := by simpa using h1
        rw [getElem!_def, h1']
  exact key _ (by rcases h0 with h0 | h0; · left; simp [h0]
                  · exact Or.inr h0)
def xBuildSlice (P : Program) (t : TypeId) (len : Nat) (parts : List (Nat × AV)) (S : St) : Option (AV × St) :=
  match P.underlying t with
  | some (.slice e) =>
    match sizeT P e, zeroOf P e with
    | some n, some z =>
      if len * n ≤ 16777216 && (decide (0 < z.cells.length) && decide (0 < len * n)) then
        match xFill (fun i => some (i * n, n)) (many z.cells (len * n)) parts with
        | some cs => some (.slc S.nxt 0 len (.ex len), S.new (.cells cs e none .free))
        | none => none
      else none
    | _, _ => none
  | _ => none
theorem buildSlice_means (h : Rel G B w0 ε S w) {t : TypeId} {len : Nat} {parts : List (Nat × AV)} {xs : Array (Nat × Value)} {u : AV × St} (hp : γp ε parts xs.toList) (hl : xBuildSlice P t len parts S = some u) :
    MeansV G B w0 ε S ((Instr.buildSlice t len xs).run P w) u.1 u.2 := by
  unfold xBuildSlice at hl
  split at hl <;> try (simp at hl; done)
  rename_i e ht
  split at hl <;> try (simp at hl; done)
  rename_i n z hn hz
  split at hl <;> try (simp at hl; done)
  rename_i hc
  simp only [Bool.and_eq_true, decide_eq_true_eq] at hc
  obtain ⟨hc1, hc2, hc3⟩ := hc
  split at hl <;> try (simp at hl; done)
  rename_i cs hcs
  simp at hl; subst hl
  obtain ⟨x, hx, hv⟩ := run_zeroOf (w := w) hz
  have hm := many_spec (γ_cells (hv ε) (zeroOf_good hz)) (len * n) (Or.inr hc2)
  obtain ⟨Y, h4, h5⟩ := xFill_sound parts xs.toList _ _ cs hp hm hcs
  obtain ⟨ε', h6, h7, h8⟩ := h.newCells h5 e
  refine ⟨.slice (some ⟨w.heap.size, 0, none⟩) len len, _, ε', ?_, h6, by simp [γ, h7, capOf], h8, by simp [St.nxt_new]⟩
  have hne : ¬ len * n = 0 := by omega
  have hle : ¬ (16777216 < len * n) := by omega
  simp [Instr.buildSlice, run_underlying ht, run_sizeT hn, hle, hne, hx, h4, newRow]

def xMakeSlice (P : Program) (t : TypeId) (l c : AV) (S : St) : Option (AV × St) :=
  match P.underlying t, l, c with
  | some (.slice e), .int _ len, .int _ cap =>
    match P.info? e, zeroOf P e with
    | some i, some z =>
      if 0 ≤ len && len ≤ cap && cap ≤ 9223372036854775807 && (i.bytes : Int) * cap ≤ 281474976710656 && (decide (0 < z.cells.length) && decide (0 < cap.toNat * i.size)) then
        some (.slc S.nxt 0 len.toNat (.ex cap.toNat), S.new (.cells (many z.cells (cap.toNat * i.size)) e none .free))
      else none
    | _, _ => none
  | _, _, _ => none
theorem makeSlice_means (h : Rel G B w0 ε S w) {t : TypeId} {l c : AV} {x y : Value} {u : AV × St} (hx : γ ε l x) (hy : γ ε c y) (hl : xMakeSlice P t l c S = some u) :
    MeansV G B w0 ε S ((Instr.makeSlice t x y).run P w) u.1 u.2 := by
  unfold xMakeSlice at hl
  split at hl <;> try (simp at hl; done)
  rename_i e k1 len k2 cap ht
  split at hl <;> try (simp at hl; done)
  rename_i i z hi hz
  split at hl <;> try (simp at hl; done)
  rename_i hc
  simp only [Bool.and_eq_true, decide_eq_true_eq] at hc
  obtain ⟨⟨⟨⟨hc1, hc2⟩, hc3⟩, hc4⟩, hc5, hc6⟩ := hc
  simp at hl; subst hl
  simp only [γ, Option.some.injEq] at hx hy
  subst hx; subst hy
  obtain ⟨zv, hzx, hv⟩ := run_zeroOf (w := w) hz
  have hm := many_spec (γ_cells (hv ε) (zeroOf_good hz)) (cap.toNat * i.size) (Or.inr hc5)
  obtain ⟨ε', h6, h7, h8⟩ := h.newCells hm e
  refine ⟨.slice (some ⟨w.heap.size, 0, none⟩) len.toNat cap.toNat, _, ε', ?_, h6, by simp [γ, h7, capOf], h8, by simp [St.nxt_new]⟩
  have wl : IntKind.i64.wrap len = len := by simp [IntKind.wrap, IntKind.bits, IntKind.signed]; omega
  have wc : IntKind.i64.wrap cap = cap := by simp [IntKind.wrap, IntKind.bits, IntKind.signed]; omega
  have hne : ¬ cap.toNat * i.size = 0 := by omega
  have n1 : ¬ (cap < 0) := by omega
  have n2 : ¬ (len < 0) := by omega
  have n3 : ¬ (cap < len) := by omega
  have n4 : ¬ (281474976710656 < (i.bytes : Int) * cap) := by omega
  simp [Instr.makeSlice, run_underlying ht, asInt, asIntOf, typeInfo, hi, wl, wc, n1, n2, n3, n4, sizeOf, hne, hzx, newRow]

/-! ### The bytes of a string -/
def byteAVs (s : List Nat) : List AV := s.map fun (c : Nat) => .int .u8 (c : Int)
theorem byteAVs_spec {s : List Nat} (hs : okb s = true) : γs ε (byteAVs s) ((bs s).data.map fun b => Value.int .u8 b.toNat).toList := by
  induction s with
  | nil => simp [byteAVs, γs, bs]
  | cons a s ih =>
    simp only [okb, List.all_cons, Bool.and_eq_true, decide_eq_true_eq] at hs
    have := ih hs.2
    refine γs_cons.2 ⟨.int .u8 a, _, by simp [γ], this, ?_⟩
    simp [bs, Nat.mod_eq_of_lt hs.1]
def xToBytes (e : TypeId) (s : List Nat) (S : St) : AV × St := (.slc S.nxt 0 s.length (.blk 0), S.new (.cells (byteAVs s) e (some 1) .mine))
theorem grownCap_ge' (w : World) (need old : Nat) (e : TypeId) : need ≤ grownCap w need old e := grownCap_ge w need old e
theorem toBytes_means (h : Rel G B w0 ε S w) {src dst e : TypeId} (h1 : P.underlying src = some .string) (h2 : P.underlying dst = some (.slice e)) (h3 : P.underlying e = some (.int .u8)) {s : List Nat} (hs : okb s = true) :
    MeansV G B w0 ε S ((convert src dst (.string (bs s))).run P w) (xToBytes e s S).1 (xToBytes e s S).2 := by
  have hr := run_bytes_of_string (P := P) w src dst e (bs s) h1 h2 h3
  generalize hC : grownCap w (bs s).size 0 e = C at hr
  have hge : s.length ≤ C := by rw [← hC, ← bs_size]; exact grownCap_ge' _ _ _ _
  have hag := Env.agr_set ε S.nxt w.heap.size C
  refine ⟨_, _, ε.set S.nxt w.heap.size C, hr, hag, ?_, h.drew.alloc _ _ C ?_, by simp [xToBytes, St.nxt_new]⟩
  · simp [xToBytes, γ, Env.set, capOf, bs_size]
  · intro ε' ha hk
    refine ⟨((bs s).data.map fun b => Value.int .u8 b.toNat).toList, List.replicate (C - s.length) (.int .u8 0), ((bytesRow (bs s) C).size, (bytesRow (bs s) C).size + 1), byteAVs_spec hs, ?_, by simp, ?_⟩
    · congr 1
      simp [bytesRow, bs_size]
    · simp only [hk, List.length_append, List.length_replicate, Array.length_toList, Array.size_map, Nat.mul_one]
      have : (bs s).data.size = s.length := bs_size s
      omega
def asBytes : List AV → Option (List Nat)
  | [] => some []
  | .int .u8 n :: l => if 0 ≤ n && n < 256 then match asBytes l with
    | some r => some (n.toNat :: r)
    | none => none
    else none
  | _ => none
theorem asBytes_spec : ∀ {l : List AV} {r : List Nat} {xs : List Value}, asBytes l = some r → γs ε l xs → okb r = true ∧ r.length = l.length ∧ xs = (r.map fun (n : Nat) => Value.int .u8 (n : Int))
  | [], r, xs, h, h' => by
    simp [asBytes] at h; subst h
    rw [γs_nil] at h'; subst h'
    exact ⟨rfl, rfl, rfl⟩
  | v :: l, r, xs, h, h' => by
    obtain ⟨x, ys, h1, h2, rfl⟩ := γs_cons.1 h'
    cases v <;> try (simp [asBytes] at h; done)
    case int k n =>
      cases k <;> try (simp [asBytes] at h; done)
      simp only [asBytes] at h
      split at h <;> try (simp at h; done)
      rename_i hc
      simp only [Bool.and_eq_true, decide_eq_true_eq] at hc
      split at h <;> try (simp at h; done)
      rename_i r' hr'
      simp at h; subst h
      obtain ⟨e1, e2, e3⟩ := asBytes_spec hr' h2
      simp only [γ, Option.some.injEq] at h1
      subst h1
      refine ⟨?_, by simp [e2], ?_⟩
      · simp only [okb, List.all_cons, Bool.and_eq_true, decide_eq_true_eq] at e1 ⊢
        exact ⟨by omega, e1⟩
      · have hn : ((n.toNat : Nat) : Int) = n := by omega
        simp only [List.map_cons, e3, hn]
def xOfBytes (v : AV) (S : St) : Option AV :=
  match v with
  | .nilslc => some (.str [])
  | .slc i off len _ => match S.read i off len with
    | some vs => (asBytes vs).map .str
    | none => none
  | _ => none
theorem foldl_push (l : List Nat) (r : ByteArray) : (l.map fun (n : Nat) => (n : Int)).foldl (fun r n => r.push (UInt8.ofNat n.toNat)) r = r ++ bs l := by
  induction l generalizing r with
  | nil =>
    have : (r ++ bs []).data = r.data := by simp [bs]
    cases h : r ++ bs []
    cases r
    simp_all
  | cons a l ih =>
    simp only [List.map_cons, List.foldl_cons, ih]
    have : (r.push (UInt8.ofNat (a : Int).toNat) ++ bs l).data = (r ++ bs (a :: l)).data := by
      apply Array.ext'
      simp [bs]
    exact ByteArray.ext this
theorem ofBytes_means (h : Rel G B w0 ε S w) {src dst e : TypeId} (h1 : P.underlying src = some (.slice e)) (h2 : P.underlying dst = some .string) (h3 : P.underlying e = some (.int .u8)) {v u : AV} {x : Value} (hv : γ ε v x)
    (hl : xOfBytes v S = some u) : MeansV G B w0 ε S ((convert src dst x).run P w) u S := by
  cases v <;> try (simp [xOfBytes] at hl; done)
  case nilslc =>
    simp [xOfBytes] at hl; subst hl
    simp only [γ, Option.some.injEq] at hv
    subst hv
    refine MeansV.same h (x := .string .empty) ?_ ?_
    · simp [convert, run_underlying h1, run_underlying h2, run_underlying h3, Conv.bytesToString]
    · simp only [γ]; exact ⟨rfl, rfl⟩
  case slc i off len c =>
    simp only [xOfBytes] at hl
    split at hl <;> try (simp at hl; done)
    rename_i vs hr
    simp only [Option.map_eq_some_iff] at hl
    obtain ⟨r, hr', rfl⟩ := hl
    simp only [γ, Option.map_eq_some_iff] at hv
    obtain ⟨b, hb, rfl⟩ := hv
    obtain ⟨b', xs, h4, h5, h6, h7⟩ := h.read hr
    rw [hb] at h4; simp at h4; subst h4
    obtain ⟨e1, e2, e3⟩ := asBytes_spec hr' h5
    have hc := run_loadCells_list (P := P) w ⟨b, off, none⟩ xs (fun j v hj => by rw [Addr.add_lit]; exact h7 j v hj)
    rw [h6, e3] at hc
    have hb2 := run_bytesToString (P := P) w ⟨b, off, none⟩ len (capOf ε i c) (r.map fun (n : Nat) => (n : Int)) (by rw [hc]; simp)
    refine MeansV.same h (x := .string (bs r)) ?_ (by simp [γ, e1])
    rw [foldl_push] at hb2
    have e4 : ByteArray.empty ++ bs r = bs r := by
      have : (ByteArray.empty ++ bs r).data = (bs r).data := by simp
      cases h1 : ByteArray.empty ++ bs r
      cases h2 : bs r
      simp_all
    rw [e4] at hb2
    simp [convert, run_underlying h1, run_underlying h2, run_underlying h3, hb2]
end
end Go.Ex
