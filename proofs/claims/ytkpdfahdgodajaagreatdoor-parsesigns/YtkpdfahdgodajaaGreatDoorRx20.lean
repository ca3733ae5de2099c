/- The reflective executor, part 20: regions of drawn order. -/
import Derived.Test.YtkpdfahdgodajaaGreatDoorRx19
namespace Go.Rx
open Go.RowKit
noncomputable section
section
variable {P : Program} {G B : Nat} {w0 w : World} {ε : Env} {S : St}

theorem mem_rdy {listed : Array Bool} : ∀ {l : List Oper} {k i : Nat}, i ∈ rdy listed l k ↔
    k ≤ i ∧ ∃ o, l[i - k]? = some o ∧ listed.getD i true = false ∧ ∀ e ∈ o.after, Region.binds .any e = true → listed.getD e.on false = true
  | [], k, i => by simp [rdy]
  | o :: l, k, i => by
    have ih := mem_rdy (listed := listed) (l := l) (k := k + 1) (i := i)
    have hcond : (!listed.getD k true && o.after.toList.all (fun e => !Region.binds .any e || listed.getD e.on false)) = true ↔
        (listed.getD k true = false ∧ ∀ e ∈ o.after, Region.binds .any e = true → listed.getD e.on false = true) := by
      simp only [Bool.and_eq_true, Bool.not_eq_true', List.all_eq_true, Bool.or_eq_true, Array.mem_toList_iff]
      constructor
      · rintro ⟨h1, h2⟩
        exact ⟨h1, fun e he hb => (h2 e he).resolve_left (by simp [hb])⟩
      · rintro ⟨h1, h2⟩
        refine ⟨h1, fun e he => ?_⟩
        cases hb : Region.binds .any e
        · exact .inl rfl
        · exact .inr (h2 e he hb)
    have tail : (k + 1 ≤ i ∧ ∃ o', l[i - (k + 1)]? = some o' ∧ listed.getD i true = false ∧ ∀ e ∈ o'.after, Region.binds .any e = true → listed.getD e.on false = true) ↔
        (k < i ∧ ∃ o', (o :: l)[i - k]? = some o' ∧ listed.getD i true = false ∧ ∀ e ∈ o'.after, Region.binds .any e = true → listed.getD e.on false = true) := by
      constructor
      · rintro ⟨h1, o', h2, h3⟩
        refine ⟨h1, o', ?_, h3⟩
        have : i - k = (i - (k + 1)) + 1 := by omega
        rw [this]; simpa using h2
      · rintro ⟨h1, o', h2, h3⟩
        refine ⟨h1, o', ?_, h3⟩
        have : i - k = (i - (k + 1)) + 1 := by omega
        rw [this] at h2; simpa using h2
    simp only [rdy]
    split
    · rename_i hc
      rw [List.mem_cons, ih, tail]
      constructor
      · rintro (rfl | ⟨h1, h2⟩)
        · exact ⟨Nat.le_refl _, o, by simp, hcond.1 hc⟩
        · exact ⟨Nat.le_of_lt h1, h2⟩
      · rintro ⟨h1, h2⟩
        rcases Nat.lt_or_eq_of_le h1 with h | h
        · exact .inr ⟨h, h2⟩
        · exact .inl h.symm
    · rename_i hc
      rw [ih, tail]
      constructor
      · rintro ⟨h1, h2⟩
        exact ⟨Nat.le_of_lt h1, h2⟩
      · rintro ⟨h1, h2⟩
        rcases Nat.lt_or_eq_of_le h1 with h | h
        · exact ⟨h, h2⟩
        · subst h
          obtain ⟨o', h3, h4⟩ := h2
          simp at h3
          subst h3
          exact absurd (hcond.2 h4) hc
theorem rdy_ready {all : Array Oper} {listed : Array Bool} {i : Nat} : i ∈ rdy listed all.toList 0 ↔ i ∈ Region.ready .any all listed := by
  rw [mem_rdy, mem_ready]
  simp only [Nat.zero_le, true_and, Nat.sub_zero, Array.getElem?_toList]
  constructor
  · rintro ⟨o, h1, h2, h3⟩; exact ⟨h2, o, h1, h3⟩
  · rintro ⟨h2, o, h1, h3⟩; exact ⟨o, h1, h2, h3⟩

theorem firstPure_spec {S0 : St} {W : List Nat} {all : Array Oper} {A : List AV} {j : Nat} {o : Oper} {v : AV} : ∀ {is : List Nat}, firstPure P G S0 W all A is = some (j, o, v) →
    j ∈ is ∧ all[j]? = some o ∧ ((xwanted all A o = true ∧ (xpure P G A o = some v ∨ xheld P G S0 W A o = some v)) ∨ (xwanted all A o = false ∧ v = .tup []))
  | [], h => by simp [firstPure] at h
  | i :: is, h => by
    simp only [firstPure] at h
    split at h
    · rename_i o1 ho
      split at h
      · rename_i hw
        split at h
        · rename_i u hu
          simp at h
          obtain ⟨rfl, rfl, rfl⟩ := h
          exact ⟨List.mem_cons_self, ho, .inl ⟨hw, .inl hu⟩⟩
        · split at h
          · rename_i u hu
            simp at h
            obtain ⟨rfl, rfl, rfl⟩ := h
            exact ⟨List.mem_cons_self, ho, .inl ⟨hw, .inr hu⟩⟩
          · obtain ⟨h1, h2⟩ := firstPure_spec h
            exact ⟨List.mem_cons_of_mem _ h1, h2⟩
      · rename_i hw
        simp at h
        obtain ⟨rfl, rfl, rfl⟩ := h
        exact ⟨List.mem_cons_self, ho, .inr ⟨by simpa using hw, rfl⟩⟩
    · obtain ⟨h1, h2⟩ := firstPure_spec h
      exact ⟨List.mem_cons_of_mem _ h1, h2⟩

theorem xLoad_kill {S0 : St} {W : List Nat} {t : TypeId} {i off : Nat} (hw : memN i W = false) : xLoad P t (.ptr i off) (kill W S0) = xLoad P t (.ptr i off) S0 := by
  have : ∀ n, (kill W S0).read i off n = S0.read i off n := by
    intro n
    simp only [St.read, get_kill, hw, Bool.false_eq_true, if_false]
  simp only [xLoad, this]
theorem held_yields {S0 : St} {W : List Nat} {all : Array Oper} {A : List AV} {a : Act} {ε0 : Env} (h0 : Rel G B w0 ε0 (kill W S0) w) (ha : ε0.agr S0.nxt ε) (h : In G B w0 ε S A a w) {o : Oper} {v : AV}
    (hl : xheld P G S0 W A o = some v) : ∃ y, γ ε v = some y ∧ ∀ w', SC G B w0 ε0 S0 W w' → (execOp a.eval o).run P w' = .ok (.value y) w' := by
  obtain ⟨dst, op, ty, pos, after, guard⟩ := o
  unfold xheld at hl
  simp only at hl
  split at hl <;> try (simp at hl; done)
  rename_i t x
  split at hl <;> try (simp at hl; done)
  rename_i i off hev
  split at hl <;> try (simp at hl; done)
  rename_i hw
  have hw : memN i W = false := by simpa using hw
  rw [← xLoad_kill hw] at hl
  have hx := ev_γ h.rel h.ar hev
  simp only [γ, Option.map_eq_some_iff] at hx
  obtain ⟨b, hb, hx⟩ := hx
  have hget : ∃ blk, (kill W S0).get i = some blk := by
    cases hg : (kill W S0).get i with
    | some blk => exact ⟨blk, rfl⟩
    | none =>
      simp only [xLoad, St.read, hg] at hl
      (repeat' split at hl) <;> simp at hl
  obtain ⟨blk, hget⟩ := hget
  obtain ⟨b0, o0, hb0, _⟩ := h0.live _ _ hget
  have hlt : i < S0.nxt := h0.lt hb0
  have hbb : ε0.δ i = some b := by rw [← (ha i hlt).1]; exact hb
  obtain ⟨y, h1, h2⟩ := loadVar_means (P := P) h0 hl hbb
  refine ⟨y, γ_mono (ha.le h0.free) _ _ h2, fun w' hs => ?_⟩
  obtain ⟨y', h3, h4⟩ := loadVar_means (P := P) hs hl hbb
  rw [h2] at h4
  simp at h4
  subst h4
  simp only [execOp, ← hx]
  simp [Instr.loadAt, Instr.sureAddr, h3]

theorem BR.back {ε0 ε1 : Env} {i : Nat} {b : ABlk} {o o0 : Obj} (h : BR ε1 i b o) (h0 : BR ε0 i b o0) (hle : ε0.le ε1) (hk : ε1.κ i = ε0.κ i) : BR ε0 i b o := by
  cases b with
  | cells cs elem opn wr =>
    obtain ⟨xs, extra, fr, h1, h2, h3, h4⟩ := h
    obtain ⟨xs0, _, _, h5, _⟩ := h0
    have := γs_mono hle _ _ h5
    rw [h1] at this
    simp at this
    subst this
    exact ⟨xs, extra, fr, h5, h2, h3, by cases opn <;> simp_all⟩
  | sit s pos => exact h
  | dfr => exact h
  | lp st pend A ps assign body D =>
    obtain ⟨fn, xs, d, h1, h2, h3⟩ := h
    obtain ⟨_, xs0, d0, h5, h6, _⟩ := h0
    have := γs_mono hle _ _ h5
    rw [h1] at this
    simp at this
    subst this
    have h7 := (hle _ _ h6).1
    rw [h2] at h7
    simp at h7
    subst h7
    exact ⟨fn, xs, d, h5, h6, h3⟩
theorem look_mem : ∀ {l : Bl} {i : Nat} {b : Option ABlk}, look l i = some b → (i, b) ∈ l
  | [], i, b, h => by simp [look] at h
  | (j, c) :: l, i, b, h => by
    simp only [look] at h
    split at h
    · rename_i hj; simp at h; subst hj; subst h; exact List.mem_cons_self
    · exact List.mem_cons_of_mem _ (look_mem h)
theorem obeq_eq {a b : Option ABlk} (h : obeq a b = true) : a = b := by
  cases a <;> cases b <;> simp [obeq] at h
  · rfl
  · rw [ABlk.beq_eq h]
theorem agree_rel {S0 : St} {W : List Nat} {ε0 : Env} {w' : World} (h0 : Rel G B w0 ε0 (kill W S0) w) (ha : ε0.agr S0.nxt ε) (h : Rel G B w0 ε S w') (hb : S.base = S0.base) (hag : agreeB S0 W S = true) :
    Rel G B w0 ε0 (kill W S0) w' := by
  simp only [agreeB, Bool.and_eq_true, List.all_eq_true] at hag
  obtain ⟨h1, h2⟩ := hag
  refine ⟨h.below, h.hB, h.gB, h0.gn, h0.glob, h0.free, h0.bov, h0.bba, ?_, h0.inj⟩
  intro i b hget
  obtain ⟨bl, o0, h3, h4, h5, h6⟩ := h0.live i b hget
  have hlt : i < S0.nxt := h0.lt h3
  rw [get_kill] at hget
  split at hget
  · simp at hget
  rename_i hw
  have hw : memN i W = false := by simpa using hw
  have hS : S.get i = some b := by
    simp only [St.get] at hget ⊢
    cases hl : look S0.ov i with
    | some x =>
      rw [hl] at hget
      simp only at hget
      subst hget
      have := h1 _ (look_mem hl)
      simp only [hw, Bool.false_or] at this
      cases hl2 : look S.ov i with
      | none => rw [hl2] at this; simp at this
      | some y =>
        rw [hl2] at this
        exact (obeq_eq this).symm
    | none =>
      rw [hl] at hget
      have hl2 : look S.ov i = none := by
        cases hl2 : look S.ov i with
        | none => rfl
        | some y =>
          have := h2 _ (look_mem hl2)
          simp only [hw, hl, Bool.or_false, decide_eq_true_eq, Option.isSome_none] at this
          omega
      rw [hl2, hb]
      exact hget
  obtain ⟨bl', o, h7, h8, h9, h10⟩ := h.live i b hS
  have hd : ε0.δ i = some bl' := by rw [← (ha i hlt).1]; exact h7
  exact ⟨bl', o, hd, h8, h9.back h5 (ha.le h0.free) (ha i hlt).2, h10⟩
end
end
end Go.Rx
