/- The reflective executor, part 5: equality, binary and unary operations, conversions, composite values. -/
import Derived.Test.YtkpdfahdgodajaaGreatDoorRx4
import Derived.Laws.Tables
namespace Go.Rx
open Go.RowKit
section
variable {P : Program} {G B : Nat} {w0 w : World} {ε : Env} {S : St}

theorem beq_bytes {s t : List Nat} (hs : okb s = true) (ht : okb t = true) : (bs s == bs t) = neq s t := by
  rw [beq_toListBytes, bs_toList, bs_toList, neq_spec hs ht]

theorem xEq_sound : ∀ (d : Nat),
    (∀ (t : TypeId) (a b : AV) (r : Bool), xEq P d t a b = some r → ∀ (x y : Value), γ ε a = some x → γ ε b = some y → ∀ d', d ≤ d' → ∀ w, (Op.equalIn d' t x y).run P w = .ok r w) ∧
    (∀ (xs ys : List AV) (fs : List Field) (r : Bool), xEqs P d xs ys fs = some r → ∀ (X Y : Array Value), γs ε xs = some X.toList → γs ε ys = some Y.toList → ∀ d', d ≤ d' → ∀ w,
      (Op.eqFields d' X Y fs).run P w = .ok r w)
  | 0 => ⟨fun t a b r h => by simp [xEq] at h, fun xs ys fs r h => by simp [xEqs] at h⟩
  | d + 1 => by
    obtain ⟨ih1, ih2⟩ := xEq_sound d
    constructor
    · intro t a b r h x y hx hy d' hd w
      obtain ⟨e, rfl⟩ : ∃ e, d' = e + 1 := ⟨d' - 1, by omega⟩
      have hde : d ≤ e := by omega
      simp only [xEq] at h
      split at h <;> try (simp at h; done)
      · rename_i p q ht
        simp [γ] at hx hy; simp at h; subst h; subst hx; subst hy
        simp [Op.equalIn, run_underlying ht]
      · rename_i k0 k p k' q ht
        split at h <;> simp at h
        rename_i hk
        simp [γ] at hx hy; subst h; subst hx; subst hy; subst hk
        simp [Op.equalIn, run_underlying ht]
      · rename_i k0 k p k' q ht
        split at h <;> simp at h
        rename_i hk
        simp [γ] at hx hy; subst h; subst hx; subst hy; subst hk
        simp [Op.equalIn, run_underlying ht]
      · rename_i p q ht
        simp only [γ] at hx hy
        split at hx <;> simp at hx
        split at hy <;> simp at hy
        rename_i h1 h2
        simp at h; subst h; subst hx; subst hy
        simp [Op.equalIn, run_underlying ht, beq_bytes h1 h2]
      · rename_i ht
        simp [γ] at hx hy; simp at h; subst h; subst hx; subst hy
        simp [Op.equalIn, run_underlying ht]
      · rename_i ht
        simp only [γ, Option.map_eq_some_iff, Option.some.injEq] at hx hy; obtain ⟨b', hb, rfl⟩ := hy; simp at h; subst h; subst hx
        simp [Op.equalIn, run_underlying ht]
      · rename_i ht
        simp only [γ, Option.map_eq_some_iff, Option.some.injEq] at hx hy; obtain ⟨b', hb, rfl⟩ := hx; simp at h; subst h; subst hy
        simp [Op.equalIn, run_underlying ht]
      · rename_i e0 i p j q ht
        split at h <;> try (simp at h; done)
        rename_i n hn
        split at h <;> simp at h
        rename_i hij
        subst hij
        simp only [γ, Option.map_eq_some_iff] at hx hy
        obtain ⟨b', hb, rfl⟩ := hx
        obtain ⟨b'', hb', rfl⟩ := hy
        rw [hb] at hb'; simp at hb'; subst hb'
        subst h
        have e : ((⟨b', p, none⟩ : Addr) == ⟨b', q, none⟩) = (p == q) := by rw [Bool.eq_iff_iff]; simp
        simp [Op.equalIn, run_underlying ht, run_sizeT hn, sameAddr, e]
      · rename_i ht
        simp [γ] at hx hy; simp at h; subst h; subst hx; subst hy
        simp [Op.equalIn, run_underlying ht]
      · rename_i ht
        simp only [γ, Option.map_eq_some_iff, Option.some.injEq] at hx hy; obtain ⟨b', hb, rfl⟩ := hy; simp at h; subst h; subst hx
        simp [Op.equalIn, run_underlying ht]
      · rename_i ht
        simp only [γ, Option.map_eq_some_iff, Option.some.injEq] at hx hy; obtain ⟨b', hb, rfl⟩ := hx; simp at h; subst h; subst hy
        simp [Op.equalIn, run_underlying ht]
      · rename_i ms tx vx ty vy ht
        simp only [γ, Option.map_eq_some_iff] at hx hy
        obtain ⟨x', hx', rfl⟩ := hx
        obtain ⟨y', hy', rfl⟩ := hy
        split at h
        · rename_i hxy
          subst hxy
          split at h <;> try (simp at h; done)
          rename_i i hi
          split at h <;> try (simp at h; done)
          rename_i hc
          have := ih1 tx vx vy r h x' y' hx' hy' e hde w
          simp [Op.equalIn, run_underlying ht, typeInfo, hi, hc, this]
        · rename_i hxy
          simp at h; subst h
          simp [Op.equalIn, run_underlying ht, hxy]
      · rename_i ht
        simp [γ] at hx hy; simp at h; subst h; subst hx; subst hy
        simp [Op.equalIn, run_underlying ht]
      · rename_i ht
        simp only [γ, Option.map_eq_some_iff, Option.some.injEq] at hx hy; obtain ⟨b', hb, rfl⟩ := hy; simp at h; subst h; subst hx
        simp [Op.equalIn, run_underlying ht]
      · rename_i ht
        simp only [γ, Option.map_eq_some_iff, Option.some.injEq] at hx hy; obtain ⟨b', hb, rfl⟩ := hx; simp at h; subst h; subst hy
        simp [Op.equalIn, run_underlying ht]
      · rename_i ht
        simp [γ] at hx hy; simp at h; subst h; subst hx; subst hy
        simp [Op.equalIn, run_underlying ht]
      · rename_i ht
        simp [γ] at hx hy; simp at h; subst h; subst hx; subst hy
        simp [Op.equalIn, run_underlying ht]
      · rename_i ht
        simp only [γ, Option.map_eq_some_iff, Option.some.injEq, Option.bind_eq_some_iff] at hx hy; obtain ⟨b', hb, c', hc, rfl⟩ := hx; simp at h; subst h; subst hy
        simp [Op.equalIn, run_underlying ht]
      · rename_i fs xs ys ht
        split at h <;> try (simp at h; done)
        rename_i hst
        simp only [γ, Option.map_eq_some_iff] at hx hy
        obtain ⟨X, hX, rfl⟩ := hx
        obtain ⟨Y, hY, rfl⟩ := hy
        have hf : P.fieldsOf t = fs := by simp [Program.fieldsOf, ht]
        rw [run_equalIn_struct w e t _ _ (by rw [hf]; exact ht) (by simpa using hst), hf]
        exact ih2 xs ys fs.toList r h X.toArray Y.toArray (by simpa using hX) (by simpa using hY) e hde w
    · intro xs ys fs r h X Y hX hY d' hd w
      simp only [xEqs] at h
      split at h
      · simp at h; subst h; simp [Op.eqFields]
      · rename_i f fs
        split at h
        · rename_i hname
          split at h <;> try (simp at h; done)
          rename_i a b ha hb
          obtain ⟨y1, h1, h2⟩ := part_means (P := P) hX ha
          obtain ⟨y2, h3, h4⟩ := part_means (P := P) hY hb
          split at h <;> try (simp at h; done)
          · rename_i he
            have := ih1 f.type a b true he y1 y2 h2 h4 d' (by omega) w
            have h5 := ih2 xs ys fs r h X Y hX hY d' (by omega) w
            simp [Op.eqFields, hname, h1, h3, this, h5]
          · rename_i he
            have := ih1 f.type a b false he y1 y2 h2 h4 d' (by omega) w
            simp at h; subst h
            simp [Op.eqFields, hname, h1, h3, this]
        · rename_i hname
          have h5 := ih2 xs ys fs r h X Y hX hY d' (by omega) w
          simp [Op.eqFields, hname, h5]

/-! ### Binary operations -/
def plainEq : AV → Bool
  | .ptr _ _ | .nilptr | .iface _ _ | .niliface | .slc _ _ _ _ | .nilslc | .nilmap | .nilfunc | .func _ _ _ | .agg _ => true
  | _ => false
def isC : Operand → Bool
  | .const _ => true
  | _ => false
def guardOk (P : Program) (t : TypeId) (x y : Operand) : AV → AV → Bool
  | .niliface, .niliface => isC x || isC y
  | .agg _, .agg _ => !P.eqGuardType P.depth t
  | _, _ => true
def xBin (P : Program) (op : BinOp) (t : TypeId) (xo yo : Operand) (a b : AV) : Option AV :=
  match sc a, sc b with
  | some x, some y => match pureP P (do eqGuard op t xo yo x y; binOp op t x y) with
    | some v => cv 2 v
    | none => none
  | _, _ =>
    match a, b with
    | .str s, .str s' => xStrOp op s s'
    | a, b =>
      if plainEq a && guardOk P t xo yo a b then
        match op with
        | .eql => (xEq P 100 t a b).map .bool
        | .neq => (xEq P 100 t a b).map fun r => .bool (!r)
        | _ => none
      else none
theorem eqGuard_ok {op : BinOp} {t : TypeId} {xo yo : Operand} {a b : AV} {x y : Value} (h : guardOk P t xo yo a b = true) (hx : γ ε a = some x) (hy : γ ε b = some y) (hp : plainEq a = true) :
    (eqGuard op t xo yo x y).run P w = .ok () w := by
  cases a <;> simp [plainEq] at hp <;> simp only [γ, Option.map_eq_some_iff, Option.bind_eq_some_iff, Option.some.injEq] at hx
  case ptr => obtain ⟨b', hb, rfl⟩ := hx; simp [eqGuard_at_pointer]
  case nilptr => subst hx; simp [eqGuard_at_pointer]
  case slc => obtain ⟨b', hb, rfl⟩ := hx; simp [eqGuard_at_slice]
  case nilslc => subst hx; simp [eqGuard_at_slice]
  case nilmap => subst hx; simp [eqGuard_at_map]
  case nilfunc => subst hx; simp [eqGuard_at_nilFunc]
  case func => obtain ⟨b', hb, c', hc, rfl⟩ := hx; simp [eqGuard_at_func]
  case iface => obtain ⟨b', hb, rfl⟩ := hx; simp [eqGuard_at_iface]
  case niliface =>
    subst hx
    cases b <;> simp only [γ, Option.map_eq_some_iff, Option.bind_eq_some_iff, Option.some.injEq] at hy
    case niliface =>
      subst hy
      simp only [guardOk, Bool.or_eq_true] at h
      cases xo <;> cases yo <;> simp [isC] at h <;> first | simp [eqGuard_nil_constR] | simp [eqGuard_nil_constL]
    case str => split at hy <;> simp at hy; subst hy; cases op <;> rfl
    case ptr => obtain ⟨b', hb, rfl⟩ := hy; cases op <;> rfl
    case slc => obtain ⟨b', hb, rfl⟩ := hy; cases op <;> rfl
    case func => obtain ⟨b', hb, c', hc, rfl⟩ := hy; cases op <;> rfl
    case iface => obtain ⟨b', hb, rfl⟩ := hy; cases op <;> rfl
    case yld => obtain ⟨b', hb, rfl⟩ := hy; cases op <;> rfl
    case zs => obtain ⟨b', hb, rfl⟩ := hy; cases op <;> rfl
    case agg => obtain ⟨b', hb, rfl⟩ := hy; cases op <;> rfl
    case tup => obtain ⟨b', hb, rfl⟩ := hy; cases op <;> rfl
    all_goals (subst hy; cases op <;> rfl)
  case agg =>
    obtain ⟨b', hb, rfl⟩ := hx
    cases b <;> simp only [γ, Option.map_eq_some_iff, Option.bind_eq_some_iff, Option.some.injEq] at hy
    case agg =>
      obtain ⟨c', hc, rfl⟩ := hy
      exact run_eqGuard_agg w op t xo yo _ _ (by simpa [guardOk] using h)
    case str => split at hy <;> simp at hy; subst hy; cases op <;> rfl
    case ptr => obtain ⟨b', hb, rfl⟩ := hy; cases op <;> rfl
    case slc => obtain ⟨b', hb, rfl⟩ := hy; cases op <;> rfl
    case func => obtain ⟨b', hb, c', hc, rfl⟩ := hy; cases op <;> rfl
    case iface => obtain ⟨b', hb, rfl⟩ := hy; cases op <;> rfl
    case yld => obtain ⟨b', hb, rfl⟩ := hy; cases op <;> rfl
    case zs => obtain ⟨b', hb, rfl⟩ := hy; cases op <;> rfl
    case tup => obtain ⟨b', hb, rfl⟩ := hy; cases op <;> rfl
    all_goals (subst hy; cases op <;> rfl)
theorem binOp_eql_plain {t : TypeId} {a : AV} {x y : Value} (hx : γ ε a = some x) (hp : plainEq a = true) : binOp .eql t x y = (do pure (.bool (← Op.equal t x y)) : Sem Value) := by
  cases a <;> simp [plainEq] at hp <;> simp only [γ, Option.map_eq_some_iff, Option.bind_eq_some_iff, Option.some.injEq] at hx
  case ptr => obtain ⟨b', hb, rfl⟩ := hx; cases y <;> rfl
  case slc => obtain ⟨b', hb, rfl⟩ := hx; cases y <;> rfl
  case func => obtain ⟨b', hb, c', hc, rfl⟩ := hx; cases y <;> rfl
  case iface => obtain ⟨b', hb, rfl⟩ := hx; cases y <;> rfl
  case agg => obtain ⟨b', hb, rfl⟩ := hx; cases y <;> rfl
  all_goals (subst hx; cases y <;> rfl)
theorem binOp_neq_plain {t : TypeId} {a : AV} {x y : Value} (hx : γ ε a = some x) (hp : plainEq a = true) : binOp .neq t x y = (do pure (.bool (!(← Op.equal t x y))) : Sem Value) := by
  cases a <;> simp [plainEq] at hp <;> simp only [γ, Option.map_eq_some_iff, Option.bind_eq_some_iff, Option.some.injEq] at hx
  case ptr => obtain ⟨b', hb, rfl⟩ := hx; cases y <;> rfl
  case slc => obtain ⟨b', hb, rfl⟩ := hx; cases y <;> rfl
  case func => obtain ⟨b', hb, c', hc, rfl⟩ := hx; cases y <;> rfl
  case iface => obtain ⟨b', hb, rfl⟩ := hx; cases y <;> rfl
  case agg => obtain ⟨b', hb, rfl⟩ := hx; cases y <;> rfl
  all_goals (subst hx; cases y <;> rfl)
theorem bin_run {op : BinOp} {t : TypeId} {xo yo : Operand} {a b u : AV} {x y : Value} (hx : γ ε a = some x) (hy : γ ε b = some y) (h : xBin P op t xo yo a b = some u) :
    ∃ z, (∀ w, (do eqGuard op t xo yo x y; binOp op t x y : Sem Value).run P w = .ok z w) ∧ γ ε u = some z := by
  unfold xBin at h
  split at h
  · rename_i x' y' h1 h2
    have e1 := sc_γ h1 hx
    have e2 := sc_γ h2 hy
    subst e1; subst e2
    split at h <;> try (simp at h; done)
    rename_i v hv
    exact ⟨v, fun w => pureP_run hv w, cv_sound ε 2 v u h⟩
  · split at h
    · rename_i s s' _
      simp only [γ] at hx hy
      split at hx <;> simp at hx
      split at hy <;> simp at hy
      rename_i hs hs'
      subst hx; subst hy
      obtain ⟨z, h3, h4⟩ := strOp_means (P := P) (ε := ε) hs hs' h
      refine ⟨z, fun w => ?_, h4⟩
      have e : binOp op t (.string (bs s)) (.string (bs s')) = Op.stringOp op (bs s) (bs s') := by cases op <;> rfl
      simp [eqGuard_at_string, e, h3]
    · split at h <;> try (simp at h; done)
      rename_i hc
      simp only [Bool.and_eq_true] at hc
      split at h <;> try (simp at h; done)
      · simp only [Option.map_eq_some_iff] at h
        obtain ⟨r, hr, rfl⟩ := h
        refine ⟨.bool r, fun w => ?_, by simp [γ]⟩
        have := (xEq_sound (P := P) (ε := ε) 100).1 _ _ _ r hr x y hx hy Op.maxDepth (by simp [Op.maxDepth]) w
        simp [eqGuard_ok hc.2 hx hy hc.1, binOp_eql_plain hx hc.1, Op.equal, this]
      · simp only [Option.map_eq_some_iff] at h
        obtain ⟨r, hr, rfl⟩ := h
        refine ⟨.bool (!r), fun w => ?_, by simp [γ]⟩
        have := (xEq_sound (P := P) (ε := ε) 100).1 _ _ _ r hr x y hx hy Op.maxDepth (by simp [Op.maxDepth]) w
        simp [eqGuard_ok hc.2 hx hy hc.1, binOp_neq_plain hx hc.1, Op.equal, this]
end
end Go.Rx
