/- The reflective executor, part 15: what its jobs mean; steps and regions in the order of their text. -/
import Derived.Test.YtkpdfahdgodajaaGreatDoorRx14
import Derived.TacticsIn
import Derived.LoopNIn
namespace Go.Rx
open Go.RowKit
noncomputable section

def FrS (r : Option Nat) : Fence := { Fence.wide with round := r }

/-! ### States -/
def DL (ε : Env) : List AD → List Deferred → Prop
  | [], [] => True
  | d :: l, x :: xs => DR ε d x ∧ DL ε l xs
  | _, _ => False
theorem DR.mono {ε ε' : Env} (hle : ε.le ε') {d : AD} {x : Deferred} (h : DR ε d x) : DR ε' d x := by
  cases d with
  | idle f n => exact h
  | coll i => obtain ⟨r, h1, h2⟩ := h; exact ⟨r, h1, (hle i r h2).1⟩
theorem DL.mono {ε ε' : Env} (hle : ε.le ε') : ∀ {l : List AD} {xs : List Deferred}, DL ε l xs → DL ε' l xs
  | [], [], _ => trivial
  | [], _ :: _, h => h.elim
  | _ :: _, [], h => h.elim
  | d :: l, x :: xs, h => ⟨h.1.mono hle, DL.mono hle h.2⟩
def RN (ε : Env) : Option Nat → Option Nat → Prop
  | none, r => r = none
  | some i, r => ∃ l, r = some l ∧ ε.δ i = some l

section
variable {P : Program} {G B : Nat} {w0 w : World} {ε : Env} {S : St}
theorem Rel.congr (h : Rel G B w0 ε S w) {S' : St} (h1 : S'.ov = S.ov) (h2 : S'.base = S.base) (h3 : S'.nxt = S.nxt) : Rel G B w0 ε S' w :=
  h.sub h3 (by rw [h1, h3]; exact h.bov) (by rw [h2, h3]; exact h.bba) (fun i b hb => by simpa only [St.get, h1, h2] using hb)
theorem RN.mono {ε' : Env} {n : Nat} (ha : ε.agr n ε') (hle : ε.le ε') {r rr : Option Nat} (h : RN ε r rr) : RN ε' r rr := by
  cases r with
  | none => exact h
  | some i => obtain ⟨l, h1, h2⟩ := h; exact ⟨l, h1, (hle i l h2).1⟩

/-- The activation and the world are what the abstract state says. -/
structure In (G B : Nat) (w0 : World) (ε : Env) (S : St) (A : List AV) (a : Act) (w : World) : Prop where
  rel : Rel G B w0 ε S w
  tmps : γs ε A = some a.tmps.toList
  dl : DL ε S.dl a.defers
theorem In.ar {A : List AV} {a : Act} (h : In G B w0 ε S A a w) : AR ε a.defers A a := ⟨h.tmps, rfl⟩
theorem In.put {A : List AV} {a : Act} (h : In G B w0 ε S A a w) {v : AV} {y : Value} (hv : γ ε v = some y) (dst : Option Tmp) : In G B w0 ε S (xput A dst v) (a.put dst y) w := by
  refine ⟨h.rel, ?_, ?_⟩
  · cases dst with
    | none => exact h.tmps
    | some d =>
      simp only [xput, setN_eq, Act.put]
      simpa using γs_set h.tmps d hv
  · cases dst <;> exact h.dl
theorem γ_undef : γ ε (.tup []) = some undef := by simp [γ, γs, undef]
theorem In.mono {A : List AV} {a : Act} (h : In G B w0 ε S A a w) {ε' : Env} {S' : St} {w' : World} (ha : ε.agr S.nxt ε') (hr : Rel G B w0 ε' S' w') (hd : S'.dl = S.dl) : In G B w0 ε' S' A a w' :=
  ⟨hr, γs_mono (h.rel.le ha) _ _ h.tmps, by rw [hd]; exact h.dl.mono (h.rel.le ha)⟩

/-- What holds behind: of a state that began in S. -/
def Post (G B : Nat) (w0 : World) (ε : Env) (S : St) (A' : List AV) (S' : St) (a' : Act) (w' : World) : Prop :=
  ∃ ε', ε.agr S.nxt ε' ∧ In G B w0 ε' S' A' a' w' ∧ S.nxt ≤ S'.nxt
theorem Post.refl {A : List AV} {a : Act} (h : In G B w0 ε S A a w) : Post G B w0 ε S A S a w := ⟨ε, Env.agr_refl _ _, h, Nat.le_refl _⟩
theorem Post.trans {ε1 : Env} {S1 S2 : St} {A2 : List AV} {a2 : Act} {w2 : World} (ha : ε.agr S.nxt ε1) (hn : S.nxt ≤ S1.nxt) (h : Post G B w0 ε1 S1 A2 S2 a2 w2) : Post G B w0 ε S A2 S2 a2 w2 := by
  obtain ⟨ε', h1, h2, h3⟩ := h
  exact ⟨ε', Env.agr_trans ha h1 hn, h2, Nat.le_trans hn h3⟩
end
end
end Go.Rx
