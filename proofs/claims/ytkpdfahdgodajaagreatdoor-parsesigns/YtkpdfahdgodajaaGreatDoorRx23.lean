/- The reflective executor, part 23: what a run tells of a call; facts out of runs. -/
import Derived.Test.YtkpdfahdgodajaaGreatDoorRx21
namespace Go.Rx
open Go.RowKit
noncomputable section
section
variable {P : Program} {G B : Nat} {w0 w : World} {ε : Env} {S : St}

theorem run_calls {K : Cfg} (hK : KOk K B w0) {n : Nat} {f : FuncId} {args : List AV} {v : AV} {S' : St} {e : XE} (hrun : X K n (.call f args S) = some (e, [v], S')) (h : Rel K.G B w0 ε S w) {xs : List Value}
    (hx : γs ε args = some xs) : Calls K.P f xs.toArray w (CPost K.G B w0 ε S v S') := by
  obtain ⟨v', hv, _, _, _, hc⟩ := X_ok hK n _ _ hrun
  simp at hv
  subst hv
  exact hc ε w xs h hx

/-- The package-level variables are laid, below B, as M says; that of block Ml holds some int. -/
def Gb (G Ml B : Nat) (M : St) (w0 : World) : Prop := (∃ ε, Rel G B w0 ε M w0 ∧ ∀ i b, ε.δ i = some b → b < B) ∧ Ml < B ∧ ∃ m, w0.cell? ⟨Ml, 0, none⟩ = some (.int .i64 m)
/-- None of its blocks may be written. -/
def stillB : Bl → Bool
  | [] => true
  | (_, some b) :: l => !b.own && stillB l
  | (_, none) :: l => stillB l
theorem still_look : ∀ {l : Bl} {i : Nat} {b : ABlk}, stillB l = true → look l i = some (some b) → b.own = false
  | [], i, b, _, h => by simp [look] at h
  | (j, some c) :: l, i, b, hs, h => by
    simp only [stillB, Bool.and_eq_true, Bool.not_eq_true'] at hs
    simp only [look] at h
    split at h
    · simp at h; subst h; exact hs.1
    · exact still_look hs.2 h
  | (j, none) :: l, i, b, hs, h => by
    simp only [stillB] at hs
    simp only [look] at h
    split at h
    · simp at h
    · exact still_look hs h
theorem still_get {M : St} (h1 : stillB M.ov = true) (h2 : stillB M.base = true) {i : Nat} {b : ABlk} (h : M.get i = some b) : b.own = false := by
  unfold St.get at h
  split at h
  · rename_i c hc; subst h; exact still_look h1 hc
  · split at h
    · rename_i c hc; subst h; exact still_look h2 hc
    · simp at h
theorem Gb.later {Ml : Nat} {M : St} (h : Gb G Ml B M w0) (h1 : stillB M.ov = true) (h2 : stillB M.base = true) (hb : Below B w0 w) (hs : B ≤ w.heap.size) : Gb G Ml w.heap.size M w := by
  obtain ⟨⟨ε, hr, hlt⟩, hm1, m, hm2⟩ := h
  refine ⟨⟨ε, ⟨Below.refl _ _, Nat.le_refl _, Nat.le_trans hr.gB hs, hr.gn, hr.glob, hr.free, hr.bov, hr.bba, ?_, hr.inj⟩, fun i b hi => Nat.lt_of_lt_of_le (hlt i b hi) hs⟩, Nat.lt_of_lt_of_le hm1 hs, m, by simpa only [World.cell?, hb.block Ml hm1] using hm2⟩
  intro i b hget
  obtain ⟨bl, o, h3, h4, h5, _⟩ := hr.live i b hget
  refine ⟨bl, o, h3, by rw [hb.block bl (hlt i bl h3)]; exact h4, h5, fun ho => ?_⟩
  rw [still_get h1 h2 hget] at ho
  cases ho
theorem Rel.grown (h : Rel G B w0 ε S w) {w' : World} (hb : Below w.heap.size w w') : Rel G B w0 ε S w' := by
  have hsz := hb.size
  refine ⟨⟨hb.os.trans h.below.os, hb.tape.trans h.below.tape, hb.output.trans h.below.output, Nat.le_trans h.below.size hsz, fun k hk => (hb.block k (Nat.lt_of_lt_of_le hk h.hB)).trans (h.below.block k hk)⟩,
    Nat.le_trans h.hB hsz, h.gB, h.gn, h.glob, h.free, h.bov, h.bba, ?_, h.inj⟩
  intro i b hget
  obtain ⟨bl, o, h3, h4, h5, h6⟩ := h.live i b hget
  exact ⟨bl, o, h3, (hb.block bl (Array.getElem?_eq_some_iff.1 h4).1).trans h4, h5, h6⟩

/-- A fact holds wherever the variables are laid. -/
def FOk (P : Program) (G Ml : Nat) (M : St) (p : FuncId × List AV × AV) : Prop := ∀ (B : Nat) (w0 : World), Gb G Ml B M w0 → ∀ (ε : Env) (S : St) (w : World) (xs : List Value), Rel G B w0 ε S w → γs ε p.2.1 = some xs →
  Calls P p.1 xs.toArray w (CPost G B w0 ε S p.2.2 S)
theorem kok_mk {G Ml : Nat} {M : St} {E : Ext} {F : Facts} {I : List (FuncId × Nat)} (h1 : EOk P G E) (h2 : EB E) (h3 : P.follows .mixedOrders = true) (hF : ∀ p ∈ F, FOk P G Ml M p)
    (hI : ∀ p ∈ I, ∀ (args : Array Value) (w : World), args.size = p.2 → funcOk P p.1 = true ∧ CallsDIn Fence.wide 0 P p.1 args .returning w fun e u w' => (∃ v, e = .returned v) ∧ u = .returning ∧ w' = w)
    (B : Nat) (w0 : World) (h : Gb G Ml B M w0) : KOk ⟨P, G, E, F, I⟩ B w0 :=
  ⟨h1, h2, h3, fun p hp ε S w xs hr hx => hF p hp B w0 h ε S w xs hr hx, hI⟩
theorem fact_of_run {K : Cfg} {Ml : Nat} {M : St} (h1 : stillB M.ov = true) (h2 : stillB M.base = true) (hK : ∀ B w0, Gb K.G Ml B M w0 → KOk K B w0) {n : Nat} {f : FuncId} {args : List AV} {v : AV}
    (hrun : (X K n (.call f args M)).map (fun o => AVs.beq o.2.1 [v]) = some true) {xs0 : List Value} (ha : clos K.G args = some xs0) {y0 : Value} (hv : clo K.G v = some y0) : FOk K.P K.G Ml M (f, args, v) := by
  intro B w0 hgb ε S w xs h hx
  have hx0 := clos_γ (ε := ε) h.glob args xs0 ha
  have hxe : γs ε args = some xs := hx
  rw [hx0] at hxe
  simp at hxe
  subst hxe
  have hgb' := hgb.later h1 h2 h.below h.hB
  obtain ⟨⟨εm, hm, _⟩, _⟩ := hgb'
  cases hr : X K n (.call f args M) with
  | none => rw [hr] at hrun; simp at hrun
  | some o =>
    obtain ⟨e, vs, R⟩ := o
    rw [hr] at hrun
    simp only [Option.map_some, Option.some.injEq] at hrun
    have := AVs.beq_eq _ _ hrun
    subst this
    have hc := run_calls (hK _ _ (hgb.later h1 h2 h.below h.hB)) hr hm (clos_γ (ε := εm) hm.glob args xs0 ha)
    refine Calls.mono hc fun e' w' he => ?_
    obtain ⟨y, ε', h3, h4, h5, h6, h7⟩ := he
    refine ⟨y, ε, h3, Env.agr_refl _ _, ?_, h.grown h6.below, Nat.le_refl _⟩
    have hy := clo_γ (ε := ε') h6.glob v y0 hv
    rw [h5] at hy
    simp at hy
    subst hy
    exact clo_γ h.glob v y hv
end
end
end Go.Rx
