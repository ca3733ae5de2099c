/- The reflective executor, part 4: slices of strings and slices, comparisons, arithmetic. -/
import Derived.Test.YtkpdfahdgodajaaGreatDoorRx3
import Derived.Laws.StructEq
import Derived.Laws.Concat
namespace Go.Rx
open Go.RowKit
section
variable {P : Program} {G B : Nat} {w0 w : World} {ε : Env} {S : St}

/-! ### Bounds -/
def bnd (d : Nat) : Option AV → Option Nat
  | none => some d
  | some (.int _ i) => if 0 ≤ i then some i.toNat else none
  | some _ => none
/-- The same of operands' values. -/
def γo (ε : Env) : Option AV → Option (Option Value)
  | none => some none
  | some v => (γ ε v).map some
theorem run_sliceBound_nat (k : IntKind) (i : Int) (y : Nat) (code : BoundsCode) (h0 : 0 ≤ i) (h1 : i.toNat ≤ y) : (Instr.sliceBound (.int k i) y code).run P w = .ok i.toNat w := by
  have : 0 ≤ i ∧ i ≤ (y : Int) := ⟨h0, by omega⟩
  simp [Instr.sliceBound, asIntOf, this]
theorem run_bounds {lo hi : Option AV} {lo' hi' : Option Value} (hlo : γo ε lo = some lo') (hhi : γo ε hi = some hi') (isSlice : Bool) {len cap l h : Nat} (h1 : bnd 0 lo = some l) (h2 : bnd len hi = some h)
    (hlh : l ≤ h) (hhc : h ≤ cap) : (Instr.sliceBounds isSlice len cap lo' hi' none).run P w = .ok (l, h, cap) w := by
  have e2 : ∀ code, (match hi' with | some v => Instr.sliceBound v cap code | none => pure len).run P w = .ok h w := by
    intro code
    cases hi with
    | none => simp [γo] at hhi; subst hhi; simp [bnd] at h2; subst h2; rfl
    | some v =>
      cases v <;> simp [bnd] at h2
      simp [γo, γ] at hhi
      subst hhi
      obtain ⟨h2, h3⟩ := h2
      simp only []
      rw [run_sliceBound_nat _ _ _ _ h2 (by omega), h3]
  have e1 : ∀ code, (match lo' with | some v => Instr.sliceBound v h code | none => pure 0).run P w = .ok l w := by
    intro code
    cases lo with
    | none => simp [γo] at hlo; subst hlo; simp [bnd] at h1; subst h1; rfl
    | some v =>
      cases v <;> simp [bnd] at h1
      simp [γo, γ] at hlo
      subst hlo
      obtain ⟨h1, h3⟩ := h1
      simp only []
      rw [run_sliceBound_nat _ _ _ _ h1 (by omega), h3]
  unfold Instr.sliceBounds
  cases hi' with
  | none =>
    have := e2 .sliceB
    simp only [] at this
    simp only [Sem.run_bind, Sem.run_pure, Result.andThen_ok] at this ⊢
    simp only [Result.ok.injEq, and_true] at this
    subst this
    cases lo' with
    | none => have := e1 .sliceB; simp at this; simp [← this]
    | some v => have := e1 .sliceB; simp only [] at this; simp [this]
  | some v =>
    have := e2 (if isSlice then .sliceAcap else .sliceAlen)
    simp only [] at this
    simp only [Sem.run_bind, Sem.run_pure, Result.andThen_ok, this]
    cases lo' with
    | none => have := e1 .sliceB; simp at this; simp [← this]
    | some v => have := e1 .sliceB; simp only [] at this; simp [this]

/-- Where the capacity is not known: that it is the length at least. -/
def capOk (S : St) (i off len : Nat) : Cap → Bool
  | .ex c => len ≤ c
  | .blk s => match S.get i with
    | some (.cells cs _ (some sz) _) => decide (0 < sz) && (off == s * sz) && decide ((s + len) * sz ≤ cs.length)
    | _ => false
theorem capOk_le (h : Rel G B w0 ε S w) {i off len : Nat} {c : Cap} (hc : capOk S i off len c = true) : len ≤ capOf ε i c := by
  cases c with
  | ex c => simpa [capOk, capOf] using hc
  | blk s =>
    simp only [capOk] at hc
    split at hc <;> try (simp at hc; done)
    rename_i cs elem sz wr hget
    simp only [Bool.and_eq_true, decide_eq_true_eq, beq_iff_eq] at hc
    obtain ⟨⟨h0, h1⟩, h2⟩ := hc
    obtain ⟨b, o, _, _, ⟨xs, extra, fr, h3, _, _, h5⟩, _⟩ := h.live _ _ hget
    have hl := γs_length h3
    have : (s + len) * sz ≤ ε.κ i * sz := by simp only [List.length_append] at h5; omega
    have := Nat.le_of_mul_le_mul_right this h0
    simp [capOf]; omega

def xSlice (P : Program) (t : TypeId) (v : AV) (lo hi : Option AV) (S : St) : Option AV :=
  match P.underlying t, v with
  | some .string, .str s =>
    match bnd 0 lo, bnd s.length hi with
    | some l, some h => if l ≤ h && h ≤ s.length then some (.str ((s.drop l).take (h - l))) else none
    | _, _ => none
  | some (.slice e), .slc i off len (.ex c) =>
    match bnd 0 lo, bnd len hi, sizeT P e with
    | some l, some h, some n => if l ≤ h && h ≤ c then some (.slc i (if c = l then off else off + l * n) (h - l) (.ex (c - l))) else none
    | _, _, _ => none
  | some (.slice e), .slc i off len (.blk s) =>
    match bnd 0 lo, bnd len hi, sizeT P e with
    | some l, some h, some n => if l ≤ h && h ≤ len && capOk S i off len (.blk s) && (l == 0 || l < len) then some (.slc i (off + l * n) (h - l) (.blk (s + l)))
      else if decide (l = len) && decide (h = len) && capOk S i off len (.blk s) then some (.zs i off s l n) else none
    | _, _, _ => none
  | some (.slice e), .nilslc =>
    match bnd 0 lo, bnd 0 hi, sizeT P e with
    | some 0, some 0, some _ => some .nilslc
    | _, _, _ => none
  | some (.array c e), .ptr i off =>
    match bnd 0 lo, bnd c hi, sizeT P e with
    | some l, some h, some n => if l ≤ h && h ≤ c then some (.slc i (if c = l then off else off + l * n) (h - l) (.ex (c - l))) else none
    | _, _, _ => none
  | _, _ => none
theorem bs_extract (s : List Nat) (l h : Nat) : (bs s).extract l h = bs ((s.drop l).take (h - l)) := by
  have : ((bs s).extract l h).data = (bs ((s.drop l).take (h - l))).data := by
    apply Array.ext'
    simp [bs, List.map_take, List.map_drop]
  cases e1 : (bs s).extract l h
  cases e2 : bs ((s.drop l).take (h - l))
  simp_all
theorem okb_drop {s : List Nat} (h : okb s = true) (n : Nat) : okb (s.drop n) = true := by
  simp only [okb, List.all_eq_true] at *
  exact fun x hx => h x (List.mem_of_mem_drop hx)
theorem okb_take {s : List Nat} (h : okb s = true) (n : Nat) : okb (s.take n) = true := by
  simp only [okb, List.all_eq_true] at *
  exact fun x hx => h x (List.mem_of_mem_take hx)
theorem okb_append {s t : List Nat} (h : okb s = true) (h' : okb t = true) : okb (s ++ t) = true := by
  simp only [okb, List.all_eq_true, List.mem_append] at *
  rintro x (hx | hx)
  · exact h x hx
  · exact h' x hx
theorem addr_add (b off n : Nat) : Addr.add ⟨b, off, none⟩ n = ⟨b, off + n, none⟩ := Addr.add_lit b off n
theorem slice_means (h : Rel G B w0 ε S w) {t : TypeId} {v u : AV} {x : Value} {lo hi : Option AV} {lo' hi' : Option Value} (hv : γ ε v = some x)
    (hlo : γo ε lo = some lo') (hhi : γo ε hi = some hi') (hl : xSlice P t v lo hi S = some u) :
    MeansV G B w0 ε S ((Instr.sliceAt t x lo' hi' none).run P w) u S := by
  unfold xSlice at hl
  split at hl <;> try (simp at hl; done)
  · rename_i s ht
    split at hl <;> try (simp at hl; done)
    rename_i l hh h1 h2
    split at hl <;> try (simp at hl; done)
    rename_i hc
    simp only [Bool.and_eq_true, decide_eq_true_eq] at hc
    simp at hl; subst hl
    simp only [γ] at hv
    split at hv <;> simp at hv
    rename_i hok
    subst hv
    have hb := run_bounds (P := P) (w := w) hlo hhi false (cap := s.length) h1 h2 hc.1 hc.2
    refine MeansV.same h (x := .string ((bs s).extract l hh)) ?_ (by simp [γ, bs_extract, okb_take (okb_drop hok l) (hh - l)])
    simp only [Instr.sliceAt, Instr.slice, Sem.run_bind, run_underlying ht, Result.andThen_ok, bs_size]
    simp [hb]
  · rename_i e i off len c ht
    split at hl <;> try (simp at hl; done)
    rename_i l hh n h1 h2 hn
    split at hl <;> try (simp at hl; done)
    rename_i hc
    simp only [Bool.and_eq_true, decide_eq_true_eq] at hc
    simp at hl; subst hl
    simp only [γ, Option.map_eq_some_iff] at hv
    obtain ⟨b, hb, rfl⟩ := hv
    have hbd := run_bounds (P := P) (w := w) hlo hhi true (cap := c) h1 h2 hc.1 hc.2
    refine MeansV.same h (x := .slice (some ⟨b, if c = l then off else off + l * n, none⟩) (hh - l) (c - l)) ?_ (by simp [γ, hb, capOf])
    simp only [Instr.sliceAt, Instr.slice, Sem.run_bind, run_underlying ht, Result.andThen_ok, capOf, hbd, run_sizeT hn, Sem.run_pure]
    split <;> simp [addr_add]
  · rename_i e i off len s ht
    split at hl <;> try (simp at hl; done)
    rename_i l hh n h1 h2 hn
    split at hl
    rotate_left
    · split at hl <;> simp at hl
      rename_i hc
      simp only [Bool.and_eq_true, decide_eq_true_eq] at hc
      obtain ⟨⟨h3, h4⟩, h5⟩ := hc
      subst hl
      simp only [γ, Option.map_eq_some_iff] at hv
      obtain ⟨b, hb, rfl⟩ := hv
      have hcap := capOk_le h h5
      have hbd := run_bounds (P := P) (w := w) hlo hhi true (cap := capOf ε i (.blk s)) h1 h2 (by omega) (by omega)
      refine MeansV.same h (x := .slice (some ⟨b, if ε.κ i - s = l then off else off + l * n, none⟩) 0 (ε.κ i - s - l)) ?_ (by simp [γ, hb])
      simp only [Instr.sliceAt, Instr.slice, Sem.run_bind, run_underlying ht, Result.andThen_ok, hbd, run_sizeT hn, Sem.run_pure]
      have e : hh - l = 0 := by omega
      rw [e]
      simp only [capOf]
      by_cases hc : ε.κ i - s = l
      · simp only [hc, if_true, Sem.run_pure, Nat.sub_self]
      · simp only [hc, if_false, Sem.run_pure, Option.map_some, addr_add]
    rename_i hc
    simp only [Bool.and_eq_true, decide_eq_true_eq, Bool.or_eq_true, beq_iff_eq] at hc
    obtain ⟨⟨⟨h3, h4⟩, h5⟩, h6⟩ := hc
    simp at hl; subst hl
    simp only [γ, Option.map_eq_some_iff] at hv
    obtain ⟨b, hb, rfl⟩ := hv
    have hcap := capOk_le h h5
    have hbd := run_bounds (P := P) (w := w) hlo hhi true (cap := capOf ε i (.blk s)) h1 h2 h3 (by omega)
    have e2 : capOf ε i (.blk s) - l = capOf ε i (.blk (s + l)) := by simp [capOf]; omega
    refine MeansV.same h (x := .slice (some ⟨b, off + l * n, none⟩) (hh - l) (capOf ε i (.blk (s + l)))) ?_ (by simp [γ, hb])
    simp only [Instr.sliceAt, Instr.slice, Sem.run_bind, run_underlying ht, Result.andThen_ok, hbd, run_sizeT hn, Sem.run_pure, e2]
    split
    · rename_i hcl
      rcases h6 with h6 | h6
      · subst h6; simp
      · omega
    · simp [addr_add]
  · rename_i e ht
    split at hl <;> try (simp at hl; done)
    rename_i h1 h2 hn
    simp at hl; subst hl
    simp only [γ, Option.some.injEq] at hv
    subst hv
    have hbd := run_bounds (P := P) (w := w) hlo hhi true (cap := 0) h1 h2 (Nat.le_refl _) (Nat.le_refl _)
    refine MeansV.same h (x := .slice none 0 0) ?_ (by simp [γ])
    simp [Instr.sliceAt, Instr.slice, run_underlying ht, hbd, run_sizeT hn]
  · rename_i c e i off ht
    split at hl <;> try (simp at hl; done)
    rename_i l hh n h1 h2 hn
    split at hl <;> try (simp at hl; done)
    rename_i hc
    simp only [Bool.and_eq_true, decide_eq_true_eq] at hc
    simp at hl; subst hl
    simp only [γ, Option.map_eq_some_iff] at hv
    obtain ⟨b, hb, rfl⟩ := hv
    have hbd := run_bounds (P := P) (w := w) hlo hhi false (cap := c) h1 h2 hc.1 hc.2
    refine MeansV.same h (x := .slice (some ⟨b, if c = l then off else off + l * n, none⟩) (hh - l) (c - l)) ?_ (by simp [γ, hb, capOf])
    simp only [Instr.sliceAt, Sem.run_bind, run_underlying ht, Result.andThen_ok, Instr.sureAddr, Sem.run_pure, hbd, run_sizeT hn]
    split <;> simp [addr_add]

/-! ### Strings -/
def nlt : List Nat → List Nat → Bool
  | _, [] => false
  | [], _ :: _ => true
  | a :: x, b :: y => decide (a < b) || (decide (a = b) && nlt x y)
def neq : List Nat → List Nat → Bool
  | [], [] => true
  | a :: x, b :: y => decide (a = b) && neq x y
  | _, _ => false
theorem ofNat_eq {a b : Nat} (ha : a < 256) (hb : b < 256) : (UInt8.ofNat a = UInt8.ofNat b) ↔ a = b := by
  constructor
  · intro h
    have := congrArg UInt8.toNat h
    simp [UInt8.toNat_ofNat'] at this
    omega
  · intro h; rw [h]
theorem neq_spec : ∀ {s t : List Nat}, okb s = true → okb t = true → (s.map UInt8.ofNat == t.map UInt8.ofNat) = neq s t
  | [], [], _, _ => rfl
  | [], b :: t, _, _ => rfl
  | a :: s, [], _, _ => rfl
  | a :: s, b :: t, h, h' => by
    simp only [okb, List.all_cons, Bool.and_eq_true, decide_eq_true_eq] at h h'
    have ih := neq_spec (s := s) (t := t) h.2 h'.2
    simp only [List.map_cons, neq]
    rw [← ih]
    show (UInt8.ofNat a == UInt8.ofNat b && _) = _
    congr 1
    rw [Bool.eq_iff_iff]
    simp only [beq_iff_eq, decide_eq_true_eq]
    exact ofNat_eq h.1 h'.1
theorem nlt_spec : ∀ {s t : List Nat}, okb s = true → okb t = true → Op.bytesLess (s.map UInt8.ofNat) (t.map UInt8.ofNat) = nlt s t
  | [], [], _, _ => rfl
  | [], b :: t, _, _ => rfl
  | a :: s, [], _, _ => rfl
  | a :: s, b :: t, h, h' => by
    simp only [okb, List.all_cons, Bool.and_eq_true, decide_eq_true_eq] at h h'
    have ih := nlt_spec (s := s) (t := t) h.2 h'.2
    simp only [List.map_cons, nlt, Op.bytesLess]
    rw [ih]
    have e1 : decide (UInt8.ofNat a < UInt8.ofNat b) = decide (a < b) := by
      rw [decide_eq_decide, UInt8.lt_iff_toNat_lt]
      simp [UInt8.toNat_ofNat']
      omega
    have e2 : (UInt8.ofNat a == UInt8.ofNat b) = decide (a = b) := by
      rw [Bool.eq_iff_iff]
      simp only [beq_iff_eq, decide_eq_true_eq]
      exact ofNat_eq h.1 h'.1
    rw [e1, e2]
theorem bs_toList (s : List Nat) : (bs s).toList = s.map UInt8.ofNat := by rw [ByteArray.toList_eq, bs_data]
theorem bs_append (s t : List Nat) : bs s ++ bs t = bs (s ++ t) := by
  have : (bs s ++ bs t).data = (bs (s ++ t)).data := by
    apply Array.ext'
    simp [bs]
  cases e1 : bs s ++ bs t
  cases e2 : bs (s ++ t)
  simp_all
def xStrOp (op : BinOp) (s t : List Nat) : Option AV :=
  match op with
  | .add => if s.length + t.length ≤ 9223372036854775807 then some (.str (s ++ t)) else none
  | .eql => some (.bool (neq s t))
  | .neq => some (.bool (!neq s t))
  | .lss => some (.bool (nlt s t))
  | .leq => some (.bool (nlt s t || neq s t))
  | .gtr => some (.bool (!(nlt s t || neq s t)))
  | .geq => some (.bool (!nlt s t))
  | _ => none
theorem strOp_means {op : BinOp} {s t : List Nat} {u : AV} (hs : okb s = true) (ht : okb t = true) (h : xStrOp op s t = some u) :
    ∃ y, (∀ w, (Op.stringOp op (bs s) (bs t)).run P w = .ok y w) ∧ γ ε u = some y := by
  have e1 := neq_spec hs ht
  have e2 := nlt_spec hs ht
  cases op <;> simp only [xStrOp] at h <;> try (simp at h; done)
  case add =>
    split at h <;> simp at h
    rename_i hl
    subst h
    exact ⟨.string (bs (s ++ t)), fun w => by rw [run_string_add_sum _ _ _ (by simpa [bs_size] using hl), bs_append], by simp [γ, okb_append hs ht]⟩
  all_goals
    simp only [Option.some.injEq] at h
    subst h
    refine ⟨_, fun w => by simp only [Op.stringOp, bs_toList, e1, e2]; rfl, by simp [γ]⟩

/-! ### Equality -/
def isBlank (P : Program) (t : TypeId) : Bool := P.stoodInHeld t
mutual
def xEq (P : Program) : Nat → TypeId → AV → AV → Option Bool
  | 0, _, _, _ => none
  | d + 1, t, a, b =>
    match P.underlying t, a, b with
    | some .bool, .bool x, .bool y => some (x == y)
    | some (.int _), .int k x, .int k' y => if k = k' then some (x == y) else none
    | some (.float _), .flt k x, .flt k' y => if k = k' then some (Op.floatEq k x y) else none
    | some .string, .str x, .str y => some (neq x y)
    | some (.pointer _), .nilptr, .nilptr => some true
    | some (.pointer _), .nilptr, .ptr _ _ => some false
    | some (.pointer _), .ptr _ _, .nilptr => some false
    | some (.pointer e), .ptr i x, .ptr j y => match sizeT P e with
      | some (_ + 1) => if i = j then some (x == y) else none
      | _ => none
    | some (.interface _), .niliface, .niliface => some true
    | some (.interface _), .niliface, .iface _ _ => some false
    | some (.interface _), .iface _ _, .niliface => some false
    | some (.interface _), .iface tx vx, .iface ty vy =>
      if tx = ty then match P.info? tx with
        | some i => if i.comparable then xEq P d tx vx vy else none
        | none => none
      else some false
    | some (.slice _), .nilslc, .nilslc => some true
    | some (.slice _), .nilslc, .slc _ _ _ _ => some false
    | some (.slice _), .slc _ _ _ _, .nilslc => some false
    | some (.map _ _), .nilmap, .nilmap => some true
    | some (.func _ _ _), .nilfunc, .nilfunc => some true
    | some (.func _ _ _), .func _ _ _, .nilfunc => some false
    | some (.struct fs), .agg xs, .agg ys => if P.stoodInHeld t then none else xEqs P d xs ys fs.toList
    | _, _, _ => none
def xEqs (P : Program) : Nat → List AV → List AV → List Field → Option Bool
  | 0, _, _, _ => none
  | d + 1, xs, ys, fs => match fs with
    | [] => some true
    | f :: fs =>
      if f.name ≠ "_" then
        match xPart P f.type xs f.offset, xPart P f.type ys f.offset with
        | some a, some b => match xEq P d f.type a b with
          | some true => xEqs P d xs ys fs
          | some false => some false
          | none => none
        | _, _ => none
      else xEqs P d xs ys fs
end
end
end Go.Rx
