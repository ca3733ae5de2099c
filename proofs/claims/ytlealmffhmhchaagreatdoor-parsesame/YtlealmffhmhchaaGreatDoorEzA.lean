/- Contracts, part 1: weaker activations; what a call has made, once nobody turns it any more; pure functions out of runs; loops round by round. -/
import Derived.Test.YtlealmffhmhchaaGreatDoorEyB
namespace Go.Ex
open Go.RowKit
noncomputable section

/-! ### Weaker activations -/
def AV.le (v v' : AV) : Prop := v' = .any ∨ v = v' ∨ (∃ b, v = .bool b ∧ v' = .sb b) ∨ (∃ n f, v = .nilslc ∧ v' = .snap n true 0 f)
def Wk : List AV → List AV → Prop
  | [], [] => True
  | v :: l, v' :: l' => v.le v' ∧ Wk l l'
  | _, _ => False
theorem AV.le_any (v : AV) : v.le .any := .inl rfl
theorem AV.le_refl (v : AV) : v.le v := .inr (.inl rfl)
theorem AV.le_sb (b : Bool) : (AV.bool b).le (.sb b) := .inr (.inr (.inl ⟨b, rfl, rfl⟩))
theorem AV.le_nil (n : Nat) (f : Nat → List AV) : AV.nilslc.le (.snap n true 0 f) := .inr (.inr (.inr ⟨n, f, rfl, rfl⟩))
theorem γ_le {ε : Env} {v v' : AV} {x : Value} (h : v.le v') (hx : γ ε v x) : γ ε v' x := by
  rcases h with rfl | rfl | ⟨b, rfl, rfl⟩ | ⟨n, f, rfl, rfl⟩
  · simp [γ]
  · exact hx
  · exact hx
  · simp only [γ] at hx ⊢
    exact .inl ⟨trivial, trivial, hx⟩
theorem wk_γs {ε : Env} : ∀ {l l' : List AV} {xs : List Value}, Wk l l' → γs ε l xs → γs ε l' xs
  | [], [], xs, _, hx => hx
  | v :: l, v' :: l', xs, h, hx => by
    obtain ⟨x, ys, h1, h2, h3⟩ := γs_cons.1 hx
    exact γs_cons.2 ⟨x, ys, γ_le h.1 h1, wk_γs h.2 h2, h3⟩
  | [], _ :: _, _, h, _ => h.elim
  | _ :: _, [], _, h, _ => h.elim
theorem Wk.refl : ∀ (l : List AV), Wk l l
  | [] => trivial
  | v :: l => ⟨v.le_refl, Wk.refl l⟩

section
variable {P : Program} {G B : Nat} {w0 w : World} {ε : Env} {S : St}
theorem In.wk {A A' : List AV} {a : Act} (h : In G B w0 ε S A a w) (hw : Wk A A') : In G B w0 ε S A' a w := ⟨h.rel, wk_γs hw h.tmps, h.dl⟩
theorem Post.wk {A1 A2 : List AV} {S' : St} {a' : Act} {w' : World} (h : Post G B w0 ε S A1 S' a' w') (hw : Wk A1 A2) : Post G B w0 ε S A2 S' a' w' := by
  obtain ⟨ε', h1, h2, h3⟩ := h
  exact ⟨ε', h1, h2.wk hw, h3⟩
theorem CodeOk.wk {c : Code} {A0 A A1 A2 : List AV} {e : XE} {S' : St} (h : CodeOk P G B w0 c A S e A1 S') (h0 : Wk A0 A) (h1 : Wk A1 A2) : CodeOk P G B w0 c A0 S e A2 S' :=
  fun ε a w r hin hr => wpIn_mono (h ε a w r (hin.wk h0) hr) fun _ _ _ hq => ⟨hq.1, hq.2.wk h1⟩
theorem RoundsOk.wk {c : Code} {A0 A A1 A2 : List AV} {e : XE} {S' : St} (h : RoundsOk P G B w0 c A S e A1 S') (h0 : Wk A0 A) (h1 : Wk A1 A2) : RoundsOk P G B w0 c A0 S e A2 S' := by
  obtain ⟨m, hm⟩ := h
  exact ⟨m, fun ε a w r hin hr Q hQ => hm ε a w r (hin.wk h0) hr Q fun a' w' hp => hQ a' w' (hp.wk h1)⟩
theorem CodeOk.sm {c : Code} {A A1 : List AV} {e : XE} {S' T T' : St} (h : CodeOk P G B w0 c A S e A1 S') (h0 : Sm S T) (hr0 : T.rnd = S.rnd) (h1 : Sm S' T') : CodeOk P G B w0 c A T e A1 T' :=
  fun ε a w r hin hr => wpIn_mono (h ε a w r (hin.sm ⟨h0.ov.symm, h0.base.symm, h0.nxt.symm, h0.dl.symm⟩) (by rw [← hr0]; exact hr)) fun _ _ _ hq => ⟨hq.1, (hq.2.of h0.nxt).sm h1⟩
theorem RoundsOk.sm {c : Code} {A A1 : List AV} {e : XE} {S' T T' : St} (h : RoundsOk P G B w0 c A S e A1 S') (h0 : Sm S T) (hr0 : T.rnd = S.rnd) (h1 : Sm S' T') : RoundsOk P G B w0 c A T e A1 T' := by
  obtain ⟨m, hm⟩ := h
  exact ⟨m, fun ε a w r hin hr Q hQ => hm ε a w r (hin.sm ⟨h0.ov.symm, h0.base.symm, h0.nxt.symm, h0.dl.symm⟩) (by rw [← hr0]; exact hr) Q fun a' w' hp => hQ a' w' ((hp.of h0.nxt).sm h1)⟩
/-- A round, then the rest of them. -/
theorem RoundsOk.round {c : Code} {A A1 A2 : List AV} {e : XE} {S1 S' : St} (h1 : CodeOk P G B w0 c A S .normal A1 S1) (hr : S1.rnd = S.rnd) (h2 : RoundsOk P G B w0 c A1 S1 e A2 S') : RoundsOk P G B w0 c A S e A2 S' := by
  obtain ⟨m, hm⟩ := h2
  refine ⟨m + 1, fun ε a w rr h hrr Q hQ => ?_⟩
  show c.wpIn (FrS rr) 0 P (Exit.then (Code.roundsIn (FrS rr) 0 P c Q m) Q) a w
  refine wpIn_mono (h1 ε a w rr h hrr) fun e' a1 w1 hq => ?_
  obtain ⟨rfl, ε1, ha, hin, hn⟩ := hq
  exact hm ε1 a1 w1 rr hin (by rw [hr]; exact hrr.mono ha (h.rel.le ha)) Q fun a' w' hp => hQ a' w' (hp.trans ha hn)
/-- The last round. -/
theorem RoundsOk.last {c : Code} {A A2 : List AV} {e : XE} {S' : St} (h1 : CodeOk P G B w0 c A S e A2 S') (he : e ≠ .normal) : RoundsOk P G B w0 c A S e A2 S' := by
  refine ⟨1, fun ε a w rr h hrr Q hQ => ?_⟩
  show c.wpIn (FrS rr) 0 P (Exit.then (Code.roundsIn (FrS rr) 0 P c Q 0) Q) a w
  refine wpIn_mono (h1 ε a w rr h hrr) fun e' a1 w1 hq => ?_
  obtain ⟨rfl, hp⟩ := hq
  exact then_of_ne he (hQ _ _ hp)
theorem code_of_run {K : Cfg} (hK : KOk K) {n : Nat} {c : Code} {A A' : List AV} {e : XE} {S' : St} (hrun : X K n (.code c A S) = some (e, A', S')) (hO : Oks K.P K.G B w0 S'.obl) : CodeOk K.P K.G B w0 c A S e A' S' :=
  (X_ok hK B w0 n _ _ hrun).2 hO
end

/-! ### What a call has made -/
def fzl (f : AV → Option AV) : List AV → Option (List AV)
  | [] => some []
  | v :: l => match f v with
    | some u => match fzl f l with
      | some us => some (u :: us)
      | none => none
    | none => none
/-- A value of which nobody turns the memory any more. -/
def fz (P : Program) (G : Nat) (S : St) : Nat → AV → Option AV
  | 0, _ => none
  | n + 1, v => match v with
    | .slc i off len c => match S.get i with
      | some (.cells cs e _ wr) => if wr.own && capOk S i off len c then match sizeT P e with
        | some k => match fzl (fz P G S n) cs with
          | some l => if off + len * k ≤ l.length then some (.snap k false len (fun j => (l.drop (off + j * k)).take k)) else none
          | none => none
        | none => none
        else none
      | _ => none
    | .ptr i off => if i < G then some (.ptr i off) else match S.get i with
      | some (.cells cs _ _ wr) => if wr.own then match fzl (fz P G S n) cs with
        | some l => some (.pin (l.drop off))
        | none => none
        else none
      | _ => none
    | .zs _ _ _ _ _ => none
    | .yld _ => none
    | .func fn a c => match fzl (fz P G S n) a, fzl (fz P G S n) c with
      | some a', some c' => some (.func fn a' c')
      | _, _ => none
    | .iface t u => match fz P G S n u with
      | some u' => some (.iface t u')
      | none => none
    | .agg l => match fzl (fz P G S n) l with
      | some l' => some (.agg l')
      | none => none
    | .tup l => match fzl (fz P G S n) l with
      | some l' => some (.tup l')
      | none => none
    | v => some v
section
variable {P : Program} {G B : Nat} {w0 w : World} {ε : Env} {S : St}
theorem fzl_γ {ε2 : Env} {f : AV → Option AV} (hf : ∀ v v' x, f v = some v' → γ ε v x → γ ε2 v' x) : ∀ (l l' : List AV) (xs : List Value), fzl f l = some l' → γs ε l xs → γs ε2 l' xs ∧ l'.length = l.length
  | [], l', xs, h, hx => by simp [fzl] at h; subst h; exact ⟨hx, rfl⟩
  | v :: l, l', xs, h, hx => by
    simp only [fzl] at h
    split at h <;> try (simp at h; done)
    rename_i u hu
    split at h <;> simp at h
    rename_i us hus
    subst h
    obtain ⟨x, ys, h1, h2, h3⟩ := γs_cons.1 hx
    obtain ⟨h4, h5⟩ := fzl_γ hf l us ys hus h2
    exact ⟨γs_cons.2 ⟨x, ys, hf v u x hu h1, h4, h3⟩, by simp [h5]⟩
theorem fz_γ (h : Rel G B w0 ε S w) {ε2 : Env} (hG : ε2.G = G) (hM : ∀ b o, ε.M b = some o → ε2.M b = some o) (hM2 : ∀ b o, B ≤ b → w.heap[b]? = some o → ε2.M b = some o) :
    ∀ (n : Nat) (v v' : AV) (x : Value), fz P G S n v = some v' → γ ε v x → γ ε2.cl v' x
  | 0, v, v', x, hl, hx => by simp [fz] at hl
  | n + 1, v, v', x, hl, hx => by
    have ih := fz_γ h hG hM hM2 n
    have ihl := fzl_γ (ε := ε) (ε2 := ε2.cl) ih
    have hcl : ε.cl.le ε2.cl := ⟨fun i b hi => by
      simp only [Env.cl] at hi ⊢
      rw [hG, ← h.eG]
      exact ⟨hi, trivial⟩, hM, by rw [show ε2.cl.G = ε2.G from rfl, hG]; exact h.eG.symm⟩
    have blk : ∀ {i : Nat} {cs : List AV} {e : TypeId} {opn : Option Nat} {wr : Fr}, S.get i = some (.cells cs e opn wr) → wr.own = true → ∀ l, fzl (fz P G S n) cs = some l →
        ∃ b xs extra fr, ε.δ i = some b ∧ ε2.M b = some (.cells (xs ++ extra).toArray e fr) ∧ γs ε2.cl l xs ∧ l.length = xs.length := by
      intro i cs e opn wr hget hown l hfl
      obtain ⟨b, o, h1, h2, ⟨xs, extra, fr, h3, h4, _⟩, h5⟩ := h.live _ _ hget
      subst h4
      obtain ⟨h6, h7⟩ := ihl _ _ _ hfl h3
      exact ⟨b, xs, extra, fr, h1, hM2 b _ (h5 hown) h2, h6, (γs_length h6).symm⟩
    have cell : ∀ {xs extra : List Value} {j : Nat} {y : Value}, xs[j]? = some y → (xs ++ extra).toArray[j]? = some y := by
      intro xs extra j y hj
      have hlt := (List.getElem?_eq_some_iff.1 hj).1
      simp [List.getElem?_append_left hlt, hj]
    simp only [fz] at hl
    split at hl
    · -- slc
      rename_i i off len c
      split at hl <;> try (simp at hl; done)
      rename_i cs e opn wr hget
      split at hl <;> try (simp at hl; done)
      rename_i hc
      simp only [Bool.and_eq_true] at hc
      split at hl <;> try (simp at hl; done)
      rename_i k hk
      split at hl <;> try (simp at hl; done)
      rename_i l hfl
      split at hl <;> simp at hl
      rename_i hlen
      subst hl
      obtain ⟨b, xs, extra, fr, h1, h2, h3, h4⟩ := blk hget hc.1 l hfl
      simp only [γ] at hx ⊢
      obtain ⟨b', hb', rfl⟩ := hx
      rw [h1] at hb'; simp at hb'; subst hb'
      refine .inr ⟨trivial, b, off, _, none, rfl, capOk_le h hc.2, .inr ⟨rfl, _, _, _, h2, fun j hj => ?_⟩⟩
      have hle : off + j * k + k ≤ l.length := by
        have : (j + 1) * k ≤ len * k := Nat.mul_le_mul_right _ hj
        rw [Nat.add_mul, Nat.one_mul] at this
        omega
      refine ⟨(xs.drop (off + j * k)).take k, γs_take (γs_drop h3 _) _, by simp; omega, fun m y hm => ?_⟩
      simp only [List.getElem?_take, List.getElem?_drop] at hm
      split at hm
      · exact cell hm
      · simp at hm
    · rename_i i off
      split at hl
      · rename_i hi
        simp at hl; subst hl
        simp only [γ] at hx ⊢
        obtain ⟨b', hb', rfl⟩ := hx
        rw [h.glob i hi] at hb'; simp at hb'; subst hb'
        exact ⟨i, by simp [Env.cl, hG, hi], rfl⟩
      · split at hl <;> try (simp at hl; done)
        rename_i cs e opn wr hget
        split at hl <;> try (simp at hl; done)
        rename_i hc
        split at hl <;> simp at hl
        rename_i l hfl
        subst hl
        obtain ⟨b, xs, extra, fr, h1, h2, h3, h4⟩ := blk hget hc l hfl
        simp only [γ] at hx ⊢
        obtain ⟨b', hb', rfl⟩ := hx
        rw [h1] at hb'; simp at hb'; subst hb'
        refine ⟨b, off, _, _, _, xs.drop off, rfl, h2, γs_drop h3 _, fun m y hm => ?_⟩
        rw [List.getElem?_drop] at hm
        exact cell hm
    · simp at hl
    · simp at hl
    · rename_i fn a c
      split at hl <;> simp at hl
      rename_i a' c' ha hc
      subst hl
      simp only [γ] at hx ⊢
      obtain ⟨xs, h1, ys, h2, h3⟩ := hx
      exact ⟨xs, (ihl _ _ _ ha h1).1, ys, (ihl _ _ _ hc h2).1, h3⟩
    · rename_i t u
      split at hl <;> simp at hl
      rename_i u' hu
      subst hl
      simp only [γ] at hx ⊢
      obtain ⟨y, h1, h2⟩ := hx
      exact ⟨y, ih _ _ _ hu h1, h2⟩
    · rename_i l
      split at hl <;> simp at hl
      rename_i l' hl'
      subst hl
      simp only [γ] at hx ⊢
      obtain ⟨y, h1, h2⟩ := hx
      exact ⟨y, (ihl _ _ _ hl' h1).1, h2⟩
    · rename_i l
      split at hl <;> simp at hl
      rename_i l' hl'
      subst hl
      simp only [γ] at hx ⊢
      obtain ⟨y, h1, h2⟩ := hx
      exact ⟨y, (ihl _ _ _ hl' h1).1, h2⟩
    · rename_i h1 h2 h3 h4 h5 h6 h7 h8
      simp at hl; subst hl
      cases v
      case slc => exact absurd rfl (h1 _ _ _ _)
      case ptr => exact absurd rfl (h2 _ _)
      case zs => exact absurd rfl (h3 _ _ _ _ _)
      case yld => exact absurd rfl (h4 _)
      case func => exact absurd rfl (h5 _ _ _)
      case iface => exact absurd rfl (h6 _ _)
      case agg => exact absurd rfl (h7 _)
      case tup => exact absurd rfl (h8 _)
      case any => simp [γ]
      case snap n0 z len at_ =>
        have : γ ε.cl (.snap n0 z len at_) x := by simp only [γ] at hx ⊢; exact hx
        exact γ_mono hcl _ _ this
      case pin l =>
        have : γ ε.cl (.pin l) x := by simp only [γ] at hx ⊢; exact hx
        exact γ_mono hcl _ _ this
      all_goals (simp only [γ] at hx ⊢; exact hx)
end
end
end Go.Ex
/- Contracts, part 2: of pure functions, of loops, out of runs. -/
namespace Go.Ex
open Go.RowKit
noncomputable section

/-- What is told of package-level variables alone. -/
def cE (G : Nat) : Env := ⟨fun g => if g < G then some g else none, fun _ => 0, fun _ => none, fun _ => none, G⟩
/-- The package-level variables that are told of lie so. -/
structure GTk (G : Nat) (GT : Bl) (w0 : World) : Prop where
  lt : ∀ p ∈ GT, p.1 < G
  lie : ∀ i blk, look GT i = some (some blk) → blk.own = false ∧ ∃ o, w0.heap[i]? = some o ∧ BR (cE G) i blk o
/-- The state in which a function is looked at by itself. -/
def S0 (G : Nat) (GT : Bl) (orc : List OE) : St := { ov := [], base := GT, nxt := G, orc := orc }

def Pure (P : Program) (G : Nat) (GT : Bl) (f : FuncId) (args : List AV) (v : AV) : Prop := ∀ B w0, G ≤ B → GTk G GT w0 → PureOk P G B w0 f args v
def Lp (P : Program) (G : Nat) (GT : Bl) (c : Code) (A : List AV) (S : St) (e : XE) (A' : List AV) (S' : St) : Prop := ∀ B w0, G ≤ B → GTk G GT w0 → RoundsOk P G B w0 c A S e A' S'
def Cd (P : Program) (G : Nat) (GT : Bl) (c : Code) (A : List AV) (S : St) (e : XE) (A' : List AV) (S' : St) : Prop := ∀ B w0, G ≤ B → GTk G GT w0 → CodeOk P G B w0 c A S e A' S'
def Cl (P : Program) (G : Nat) (GT : Bl) (f : FuncId) (args : List AV) (S : St) (v : AV) (S' : St) : Prop := ∀ B w0, G ≤ B → GTk G GT w0 → CallOk P G B w0 f args S v S'
def Ob.Al (P : Program) (G : Nat) (GT : Bl) : Ob → Prop
  | .br b o => b = o
  | .ok p => p
  | .pure f args v => Pure P G GT f args v
  | .call f args base nxt v ov' nxt' => Cl P G GT f args { ov := [], base := base, nxt := nxt } v { ov := ov', base := base, nxt := nxt' }
  | .loop c A ov base nxt dl rnd e A' ov' nxt' => Lp P G GT c A { ov := ov, base := base, nxt := nxt, dl := dl, rnd := rnd } e A' { ov := ov', base := base, nxt := nxt', dl := dl, rnd := rnd }
/-- All that a run leaves to be shown. -/
def Als (P : Program) (G : Nat) (GT : Bl) : List Ob → Prop
  | [] => True
  | o :: l => o.Al P G GT ∧ Als P G GT l
section
variable {P : Program} {G B : Nat} {GT : Bl} {w0 w : World} {ε : Env} {S : St}
theorem Ob.Al.ok {o : Ob} (h : o.Al P G GT) (hB : G ≤ B) (hg : GTk G GT w0) : o.Ok P G B w0 := by
  cases o <;> first | exact h | exact h B w0 hB hg
theorem Als.oks : ∀ {l : List Ob}, Als P G GT l → G ≤ B → GTk G GT w0 → Oks P G B w0 l
  | [], _, _, _ => fun o ho => by cases ho
  | o :: l, h, hB, hg => fun o' ho => by
    rcases List.mem_cons.1 ho with rfl | ho
    · exact h.1.ok hB hg
    · exact Als.oks h.2 hB hg o' ho
theorem look_mem : ∀ {l : Bl} {i : Nat} {b : Option ABlk}, look l i = some b → (i, b) ∈ l
  | [], i, b, h => by simp [look] at h
  | (j, c) :: l, i, b, h => by
    simp only [look] at h
    split at h
    · rename_i hj; simp at h; subst hj; subst h; exact List.mem_cons_self
    · exact List.mem_cons_of_mem _ (look_mem h)
theorem GTk.later (hg : GTk G GT w0) (hB : G ≤ B) (hb : Below B w0 w) : GTk G GT w := by
  refine ⟨hg.lt, fun i blk hl => ?_⟩
  obtain ⟨h1, o, h2, h3⟩ := hg.lie i blk hl
  have hlt : i < G := by
    have : ∀ {l : Bl}, look l i = some (some blk) → (i, some blk) ∈ l := fun h => look_mem h
    exact hg.lt _ (this hl)
  exact ⟨h1, o, by rw [hb.block i (by omega)]; exact h2, h3⟩
theorem BR.of_cE {i : Nat} {blk : ABlk} {o : Obj} (h : BR (cE G) i blk o) {ε : Env} (hle : (cE G).le ε) (hk : ε.κ i = 0) : BR ε i blk o := h.mono hle (by rw [hk]; rfl)
/-- The world at a function's beginning. -/
theorem start_rel (hst : Stand G B w0 ε w) (hg : GTk G GT w0) (orc : List OE) :
    Rel G w.heap.size w ⟨fun g => if g < G then some g else none, fun _ => 0, ε.M, ε.M, G⟩ (S0 G GT orc) w := by
  have hg' := hg.later hst.gB hst.below
  have hGle : G ≤ w.heap.size := Nat.le_trans hst.gB hst.hB
  refine ⟨Below.refl _ _, Nat.le_refl _, hGle, Nat.le_refl _, fun g hg => by simp [hg], fun k hk => ?_, (fun p hp => by cases hp), hg.lt, ?_, ?_, hst.mem, ?_, fun b o hb _ => hb, rfl, fun _ _ => rfl⟩
  · have : ¬ k < G := by have : G ≤ k := hk; omega
    simp [this]
  · intro i blk hget
    have hl : look GT i = some (some blk) := by
      simp only [St.get, S0, look] at hget
      cases h : look GT i with
      | none => rw [h] at hget; simp at hget
      | some b => rw [h] at hget; simp only at hget; rw [hget]
    obtain ⟨h1, o, h2, h3⟩ := hg'.lie i blk hl
    have hlt : i < G := hg.lt _ (look_mem hl)
    refine ⟨i, o, by simp [hlt], h2, h3.of_cE ⟨fun j b hj => ?_, (fun b o hb => by cases hb), rfl⟩ rfl, fun h => by rw [h1] at h; cases h⟩
    simp only [cE] at hj ⊢
    exact ⟨hj, trivial⟩
  · intro i j bi bj b _ _ h1 h2
    simp only at h1 h2
    split at h1 <;> simp at h1
    split at h2 <;> simp at h2
    omega
  · intro i blk b hget hown _
    have hl : look GT i = some (some blk) := by
      simp only [St.get, S0, look] at hget
      cases h : look GT i with
      | none => rw [h] at hget; simp at hget
      | some b => rw [h] at hget; simp only at hget; rw [hget]
    have := (hg'.lie i blk hl).1
    rw [hown] at this
    cases this
/-- **A pure function's contract, out of one run.** -/
theorem Pure.of_run {K : Cfg} (hK : KOk K) {n m : Nat} {f : FuncId} {args : List AV} {orc : List OE} {e : XE} {v v' : AV} {S' : St}
    (hrun : X K n (.call f args (S0 K.G GT orc)) = some (e, [v], S')) (hfz : fz K.P K.G S' m v = some v') (hO : Als K.P K.G GT S'.obl) : Pure K.P K.G GT f args v' := by
  intro B w0 hB hg ε w xs hst hx
  have hrel := start_rel hst hg orc
  have hg' := hg.later hst.gB hst.below
  have hGle : K.G ≤ w.heap.size := Nat.le_trans hst.gB hst.hB
  obtain ⟨v1, hv1, _, _, hcall⟩ := X_ok hK w.heap.size w n _ _ hrun
  simp at hv1
  subst hv1
  have hx' : γs ⟨fun g => if g < K.G then some g else none, fun _ => 0, ε.M, ε.M, K.G⟩ args xs := by
    refine γs_mono (ε := ε.cl) (ε' := ⟨fun g => if g < K.G then some g else none, fun _ => 0, ε.M, ε.M, K.G⟩) ⟨fun i b hi => ?_, fun _ _ h => h, hst.eG.symm⟩ _ _ hx
    simp only [Env.cl, hst.eG] at hi
    exact ⟨hi, rfl⟩
  refine Calls.mono (hcall (hO.oks hGle hg') _ w xs hrel hx') fun e' w' he => ?_
  obtain ⟨y, ε', rfl, ha, hy, hr, _⟩ := he
  have hM0 : ε'.M0 = ε.M := ha.m0
  refine ⟨y, { ε with M := fun b => if b < w.heap.size then ε.M b else w'.heap[b]? }, rfl, ⟨rfl, rfl, ?_, ?_, rfl, rfl⟩, ?_, hr.below, ?_⟩
  · intro b o hb
    have hlt := (Array.getElem?_eq_some_iff.1 (hst.mem b o hb)).1
    simp [hlt, hb]
  · intro b o hb hn
    simp only at hb
    split at hb
    · rw [hn] at hb; cases hb
    · omega
  · refine fz_γ hr (ε2 := { ε with M := fun b => if b < w.heap.size then ε.M b else w'.heap[b]? }) hst.eG (fun b o hb => ?_) (fun b o hle hb => ?_) m v v' y hfz hy
    · simp only
      by_cases hlt : b < w.heap.size
      · have := hr.old b o hb hlt
        rw [hM0] at this
        simp [hlt, this]
      · simp only [hlt, if_false]
        exact hr.mem b o hb
    · simp only
      have : ¬ b < w.heap.size := by omega
      simp [this, hb]
  · intro b o hb
    simp only at hb
    split at hb
    · have h1 := hst.mem b o hb
      rw [hr.below.block b (by assumption)]
      exact h1
    · exact hb
/-- A pure function's answer, weaker. -/
theorem Pure.wk {f : FuncId} {args : List AV} {v v' : AV} (h : Pure P G GT f args v) (hle : v.le v') : Pure P G GT f args v' := fun B w0 hB hg ε w xs hst hx =>
  Calls.mono (h B w0 hB hg ε w xs hst hx) fun e w' he => by
    obtain ⟨y, ε', h1, h2, h3, h4, h5⟩ := he
    exact ⟨y, ε', h1, h2, γ_le hle h3, h4, h5⟩
theorem Pure.args {f : FuncId} {args args' : List AV} {v : AV} (h : Pure P G GT f args v) (hle : Wk args' args) : Pure P G GT f args' v := fun B w0 hB hg ε w xs hst hx =>
  h B w0 hB hg ε w xs hst (wk_γs hle hx)
/-! ### Loops -/
theorem Cd.of_run {K : Cfg} (hK : KOk K) {n : Nat} {c : Code} {A A' : List AV} {e : XE} {S' : St} (hrun : X K n (.code c A S) = some (e, A', S')) (hO : Als K.P K.G GT S'.obl) : Cd K.P K.G GT c A S e A' S' :=
  fun _ _ hB hg => code_of_run hK hrun (hO.oks hB hg)
theorem Lp.round {c : Code} {A A1 A1' A2 : List AV} {e : XE} {S1 S1' S' : St} (h1 : Cd P G GT c A S .normal A1 S1) (hr : S1'.rnd = S.rnd) (hs : Sm S1 S1') (hw : Wk A1 A1') (h2 : Lp P G GT c A1' S1' e A2 S') : Lp P G GT c A S e A2 S' :=
  fun B w0 hB hg => RoundsOk.round (((h1 B w0 hB hg).wk (Wk.refl _) hw).sm (Sm.refl S) rfl hs) hr (h2 B w0 hB hg)
theorem Lp.last {c : Code} {A A2 A2' : List AV} {e : XE} {S' S'' : St} (h1 : Cd P G GT c A S e A2 S') (he : e ≠ .normal) (hw : Wk A2 A2') (hs : Sm S' S'') : Lp P G GT c A S e A2' S'' :=
  fun B w0 hB hg => RoundsOk.last (((h1 B w0 hB hg).wk (Wk.refl _) hw).sm (Sm.refl S) rfl hs) he
theorem Lp.start {c : Code} {A0 A A2 : List AV} {e : XE} {S' T : St} (h : Lp P G GT c A S e A2 S') (hw : Wk A0 A) (hs : Sm S T) (hr : T.rnd = S.rnd) : Lp P G GT c A0 T e A2 S' :=
  fun B w0 hB hg => ((h B w0 hB hg).wk hw (Wk.refl _)).sm hs hr (Sm.refl _)
end
end
end Go.Ex
/- Contracts, part 3: runs looked at through what is kept of them. -/
namespace Go.Ex
open Go.RowKit
noncomputable section

/-- Of an activation's values those at the places told; nothing of the others. -/
def keepFrom (idx : List Nat) : Nat → List AV → List AV
  | _, [] => []
  | k, v :: l => (if memN k idx then v else .any) :: keepFrom idx (k + 1) l
def keep (idx : List Nat) (A : List AV) : List AV := keepFrom idx 0 A
theorem wk_keepFrom (idx : List Nat) : ∀ (k : Nat) (A : List AV), Wk A (keepFrom idx k A)
  | _, [] => trivial
  | k, v :: l => ⟨by
      show v.le (if memN k idx then v else .any)
      split
      · exact v.le_refl
      · exact v.le_any, wk_keepFrom idx (k + 1) l⟩
theorem wk_keep (idx : List Nat) (A : List AV) : Wk A (keep idx A) := wk_keepFrom idx 0 A
/-- So many values: those told at their places. -/
def mkA (n : Nat) (l : List (Nat × AV)) : List AV := l.foldl (fun A p => setN p.2 A p.1) (List.replicate n .any)
def nthLoop : Code → List Code
  | .seq a b => nthLoop a ++ nthLoop b
  | .cond _ t e => nthLoop t ++ nthLoop e
  | .block _ b => nthLoop b
  | .loop b => b :: nthLoop b
  | .scope b => nthLoop b
  | .rangeFunc _ _ a b => nthLoop a ++ nthLoop b
  | _ => []
/-- A function's loops' bodies, in the order of the text. -/
def lpOf (f : Func) (n : Nat) : Code := match f.body with | some c => (nthLoop c).getD n .skip | none => .skip
/-- What is looked at of a round. -/
def see (idx : List Nat) (o : Option Out) : Option (XE × List AV × Bl × Nat × List AD × List Ob) := o.map fun o => (o.1, keep idx o.2.1, o.2.2.ov, o.2.2.nxt, o.2.2.dl, o.2.2.obl)
/-- What is looked at of a pure function's run. -/
def seeP (P : Program) (G m : Nat) (o : Option Out) : Option (AV × List Ob) :=
  match o with
  | some (_, [v], S') => match fz P G S' m v with
    | some v' => some (v', S'.obl)
    | none => none
  | _ => none
/-! ### Small things for loops -/
def allF (p : Nat → Bool) : Nat → Nat → Bool
  | _, 0 => true
  | i, k + 1 => p i && allF p (i + 1) k
theorem allF_iff {p : Nat → Bool} : ∀ {k i : Nat}, allF p i k = true ↔ ∀ j, j < k → p (i + j) = true
  | 0, i => by simp [allF]
  | k + 1, i => by
    simp only [allF, Bool.and_eq_true, allF_iff (k := k) (i := i + 1)]
    constructor
    · rintro ⟨h0, h1⟩ j hj
      cases j with
      | zero => exact h0
      | succ j => have := h1 j (by omega); rwa [show i + (j + 1) = i + 1 + j by omega]
    · intro h
      exact ⟨h 0 (by omega), fun j hj => by have := h (j + 1) (by omega); rwa [show i + (j + 1) = i + 1 + j by omega] at this⟩
theorem allF_congr {p q : Nat → Bool} (h : ∀ i, p i = q i) : ∀ {k i : Nat}, allF p i k = allF q i k
  | 0, i => rfl
  | k + 1, i => by simp only [allF, h i, allF_congr h]
theorem wrap_nat {i : Nat} (h : i < 9223372036854775808) : IntKind.i64.wrap (i : Int) = (i : Int) := by
  simp [IntKind.wrap, IntKind.bits, IntKind.signed]; omega
theorem wrap_succ {i : Nat} (h : i < 9223372036854775807) : IntKind.i64.wrap ((i : Int) + 1) = ((i + 1 : Nat) : Int) := by
  simp [IntKind.wrap, IntKind.bits, IntKind.signed]; omega
theorem bne_int {n m : Nat} : (((n : Int) != (m : Int)) = false) ↔ n = m := by simp; omega
section
variable {G : Nat} {GT : Bl} {S : St}
theorem Cd.see {K : Cfg} (hK : KOk K) {n : Nat} {c : Code} {A A' : List AV} {idx : List Nat} {e : XE} {ov' : Bl} {nxt' : Nat} {dl' : List AD} {obl : List Ob} {orc : List OE}
    (hrun : Ex.see idx (X K n (.code c A { S with orc := orc })) = some (e, A', ov', nxt', dl', obl)) (hO : Als K.P K.G GT obl) : Cd K.P K.G GT c A S e A' { ov := ov', base := S.base, nxt := nxt', dl := dl', rnd := S.rnd } := by
  intro B w0 hB hg
  simp only [Ex.see, Option.map_eq_some_iff, Prod.mk.injEq] at hrun
  obtain ⟨⟨e1, A1, S1⟩, h1, h2, h3, h4, h5, h6, h7⟩ := hrun
  simp only at h2 h3 h4 h5 h6 h7
  subst h2; subst h3; subst h4; subst h5; subst h6; subst h7
  have hb := (X_ok hK B w0 n _ _ h1).1
  exact ((code_of_run hK h1 (hO.oks hB hg)).wk (Wk.refl _) (wk_keep idx A1)).sm ⟨rfl, rfl, rfl, rfl⟩ rfl ⟨rfl, hb.base.symm, rfl, rfl⟩
theorem Pure.see {K : Cfg} (hK : KOk K) {n m : Nat} {f : FuncId} {args : List AV} {orc : List OE} {v : AV} {obl : List Ob}
    (hrun : seeP K.P K.G m (X K n (.call f args (S0 K.G GT orc))) = some (v, obl)) (hO : Als K.P K.G GT obl) : Pure K.P K.G GT f args v := by
  unfold seeP at hrun
  split at hrun <;> try (simp at hrun; done)
  rename_i e v1 S' h1
  split at hrun <;> simp at hrun
  rename_i v' hv
  obtain ⟨rfl, rfl⟩ := hrun
  exact Pure.of_run hK h1 hv hO
end
end
end Go.Ex
/- Contracts, part 4: numbers that a round has used are used again. -/
namespace Go.Ex
open Go.RowKit
noncomputable section
mutual
/-- Its numbers are below n. -/
def idB (n : Nat) : AV → Bool
  | .ptr i _ => decide (i < n)
  | .slc i _ _ _ => decide (i < n)
  | .zs i _ _ _ _ => decide (i < n)
  | .yld i => decide (i < n)
  | .func _ a c => idBs n a && idBs n c
  | .iface _ v => idB n v
  | .agg l => idBs n l
  | .tup l => idBs n l
  | _ => true
def idBs (n : Nat) : List AV → Bool
  | [] => true
  | v :: l => idB n v && idBs n l
end
/-- What is told of the numbers below n. -/
def Env.cut (ε : Env) (n : Nat) : Env := ⟨fun k => if k < n then ε.δ k else none, ε.κ, ε.M, ε.M0, ε.G⟩
mutual
theorem idB_γ {ε : Env} {n : Nat} : ∀ (v : AV) (x : Value), idB n v = true → γ ε v x → γ (ε.cut n) v x
  | .any, x, h, hx => by simp [γ]
  | .int k m, x, h, hx => by simpa [γ] using hx
  | .bool b, x, h, hx => by simpa [γ] using hx
  | .sb b, x, h, hx => by simpa [γ] using hx
  | .flt k m, x, h, hx => by simpa [γ] using hx
  | .str s, x, h, hx => by simpa [γ] using hx
  | .ptr i off, x, h, hx => by
    simp only [idB, decide_eq_true_eq] at h
    simp only [γ, Env.cut, h, if_true] at hx ⊢
    exact hx
  | .nilptr, x, h, hx => by simpa [γ] using hx
  | .slc i off len c, x, h, hx => by
    simp only [idB, decide_eq_true_eq] at h
    simp only [γ, Env.cut, h, if_true] at hx ⊢
    obtain ⟨b, hb, hx⟩ := hx
    exact ⟨b, hb, by rw [hx]; cases c <;> rfl⟩
  | .nilslc, x, h, hx => by simpa [γ] using hx
  | .nilmap, x, h, hx => by simpa [γ] using hx
  | .nilfunc, x, h, hx => by simpa [γ] using hx
  | .niliface, x, h, hx => by simpa [γ] using hx
  | .zs i off s l m, x, h, hx => by
    simp only [idB, decide_eq_true_eq] at h
    simp only [γ, Env.cut, h, if_true] at hx ⊢
    exact hx
  | .yld i, x, h, hx => by
    simp only [idB, decide_eq_true_eq] at h
    simp only [γ, Env.cut, h, if_true] at hx ⊢
    exact hx
  | .func fn a c, x, h, hx => by
    simp only [idB, Bool.and_eq_true] at h
    simp only [γ] at hx ⊢
    obtain ⟨xs, h1, ys, h2, h3⟩ := hx
    exact ⟨xs, idBs_γ a xs h.1 h1, ys, idBs_γ c ys h.2 h2, h3⟩
  | .iface t v, x, h, hx => by
    simp only [idB] at h
    simp only [γ] at hx ⊢
    obtain ⟨y, h1, h2⟩ := hx
    exact ⟨y, idB_γ v y h h1, h2⟩
  | .agg l, x, h, hx => by
    simp only [idB] at h
    simp only [γ] at hx ⊢
    obtain ⟨y, h1, h2⟩ := hx
    exact ⟨y, idBs_γ l y h h1, h2⟩
  | .tup l, x, h, hx => by
    simp only [idB] at h
    simp only [γ] at hx ⊢
    obtain ⟨y, h1, h2⟩ := hx
    exact ⟨y, idBs_γ l y h h1, h2⟩
  | .snap m z len at_, x, h, hx => by
    simp only [γ] at hx ⊢
    exact hx
  | .pin l, x, h, hx => by
    simp only [γ] at hx ⊢
    exact hx
theorem idBs_γ {ε : Env} {n : Nat} : ∀ (l : List AV) (xs : List Value), idBs n l = true → γs ε l xs → γs (ε.cut n) l xs
  | [], xs, h, hx => by simpa [γs] using hx
  | v :: l, xs, h, hx => by
    simp only [idBs, Bool.and_eq_true] at h
    obtain ⟨x, ys, h1, h2, h3⟩ := γs_cons.1 hx
    exact γs_cons.2 ⟨x, ys, idB_γ v x h.1 h1, idBs_γ l ys h.2 h2, h3⟩
end
def blkB (n : Nat) : Nat × Option ABlk → Bool
  | (_, some (.cells cs _ _ _)) => idBs n cs
  | (_, some (.sit _ _)) => true
  | (_, none) => true
  | _ => false
/-- The blocks below n. -/
def cutB (n : Nat) (l : Bl) : Bl := l.filter fun p => decide (p.1 < n)
theorem look_cutB (n : Nat) : ∀ (l : Bl) (i : Nat), look (cutB n l) i = if i < n then look l i else none
  | [], i => by simp [cutB, look]
  | (j, b) :: l, i => by
    have ih := look_cutB n l i
    simp only [cutB] at ih
    by_cases hj : j < n
    · simp only [cutB, List.filter_cons, hj, decide_true, if_true, look]
      by_cases hji : j = i
      · subst hji; simp [hj]
      · simp only [hji, if_false]; exact ih
    · simp only [cutB, List.filter_cons, hj, decide_false, look]
      by_cases hji : j = i
      · subst hji; simpa [hj] using ih
      · simpa [hji] using ih
section
variable {P : Program} {G B : Nat} {w0 w : World} {ε : Env} {S : St}
theorem Rel.cut (h : Rel G B w0 ε S w) {n : Nat} (hG : G ≤ n) (h1 : (cutB n S.ov).all (blkB n) = true) (h2 : S.base.all (fun p => decide (p.1 < n) && blkB n p) = true) :
    Rel G B w0 (ε.cut n) { S with ov := cutB n S.ov, nxt := n } w := by
  simp only [List.all_eq_true, Bool.and_eq_true, decide_eq_true_eq] at h1 h2
  have hget : ∀ i blk, St.get { S with ov := cutB n S.ov, nxt := n } i = some blk → i < n ∧ S.get i = some blk ∧ blkB n (i, some blk) = true := by
    intro i blk hg
    simp only [St.get, look_cutB] at hg
    by_cases hi : i < n
    · simp only [hi, if_true] at hg
      refine ⟨hi, hg, ?_⟩
      cases hl : look S.ov i with
      | some b =>
        rw [hl] at hg
        simp only at hg
        subst hg
        have hm : (i, some blk) ∈ cutB n S.ov := List.mem_filter.2 ⟨look_mem hl, by simpa using hi⟩
        exact h1 _ hm
      | none =>
        rw [hl] at hg
        simp only at hg
        cases hb : look S.base i with
        | some b =>
          rw [hb] at hg
          simp only at hg
          subst hg
          exact (h2 _ (look_mem hb)).2
        | none => rw [hb] at hg; simp at hg
    · simp only [hi, if_false] at hg
      cases hb : look S.base i with
      | some b => exact absurd (h2 _ (look_mem hb)).1 hi
      | none => rw [hb] at hg; simp at hg
  refine ⟨h.below, h.hB, h.gB, hG, fun g hg => by simp only [Env.cut, Nat.lt_of_lt_of_le hg hG, if_true]; exact h.glob g hg, fun k hk => ?_, ?_, fun p hp => (h2 p hp).1, ?_, ?_, h.mem, ?_, h.old, h.eG, h.k0⟩
  · have : ¬ k < n := by have : n ≤ k := hk; omega
    simp [Env.cut, this]
  · intro p hp
    have := (List.mem_filter.1 hp).2
    simpa using this
  · intro i blk hg
    obtain ⟨hi, hg', hb⟩ := hget i blk hg
    obtain ⟨b, o, h3, h4, h5, h6⟩ := h.live i blk hg'
    refine ⟨b, o, by simp only [Env.cut, hi, if_true]; exact h3, h4, ?_, h6⟩
    cases blk with
    | cells cs e opn wr =>
      obtain ⟨xs, extra, fr, h7, h8, h9, h10⟩ := h5
      exact ⟨xs, extra, fr, idBs_γ _ _ hb h7, h8, h9, h10⟩
    | sit s pos => exact h5
    | dfr => simp [blkB] at hb
    | lp => simp [blkB] at hb
  · intro i j bi bj b hi hj h3 h4
    obtain ⟨hi1, hi2, _⟩ := hget i bi hi
    obtain ⟨hj1, hj2, _⟩ := hget j bj hj
    simp only [Env.cut, hi1, hj1, if_true] at h3 h4
    exact h.inj i j bi bj b hi2 hj2 h3 h4
  · intro i blk b hi hown hib
    obtain ⟨hi1, hi2, _⟩ := hget i blk hi
    simp only [Env.cut, hi1, if_true] at hib
    exact h.apart i blk b hi2 hown hib
theorem CodeOk.cut {c : Code} {A A1 : List AV} {e : XE} {S1 : St} (h : CodeOk P G B w0 c A S e A1 S1) {n : Nat} (hn : S.nxt ≤ n) (hG : G ≤ n) (hA : idBs n A1 = true) (hd : S1.dl = [])
    (h1 : (cutB n S1.ov).all (blkB n) = true) (h2 : S1.base.all (fun p => decide (p.1 < n) && blkB n p) = true) : CodeOk P G B w0 c A S e A1 { S1 with ov := cutB n S1.ov, nxt := n } :=
  fun ε a w r hin hr => wpIn_mono (h ε a w r hin hr) fun e' a' w' hq => by
    obtain ⟨he, ε', ha, hi, _⟩ := hq
    refine ⟨he, ε'.cut n, ⟨fun k hk => ?_, ha.m, ha.m0, ha.g⟩, ⟨hi.rel.cut hG h1 h2, idBs_γ _ _ hA hi.tmps, ?_⟩, hn⟩
    · have : k < n := by omega
      simp only [Env.cut, this, if_true]
      exact ha.d k hk
    · have := hi.dl
      rw [hd] at this
      show DL _ S1.dl _
      rw [hd]
      cases hdd : a'.defers with
      | nil => trivial
      | cons => rw [hdd] at this; exact this.elim
theorem Cd.cut {GT : Bl} {c : Code} {A A1 : List AV} {e : XE} {S1 : St} (h : Cd P G GT c A S e A1 S1) (n : Nat) (hn : S.nxt ≤ n) (hG : G ≤ n) (hA : idBs n A1 = true) (hd : S1.dl = [])
    (h1 : (cutB n S1.ov).all (blkB n) = true) (h2 : S1.base.all (fun p => decide (p.1 < n) && blkB n p) = true) : Cd P G GT c A S e A1 { S1 with ov := cutB n S1.ov, nxt := n } :=
  fun B w0 hB hg => (h B w0 hB hg).cut hn hG hA hd h1 h2
end
end
end Go.Ex
/- Contracts, part 5: small tools. -/
namespace Go.Ex
open Go.RowKit
noncomputable section
/-- An activation at a loop's first round: these are set. -/
def headOf (n : Nat) (l : List (Nat × AV)) : List AV := l.foldl (fun A p => setN p.2 A p.1) (List.replicate n (.tup []))
theorem wkK (idx : List Nat) {A A' : List AV} (h : keep idx A = A') : Wk A A' := h ▸ wk_keep idx A
/-- What is looked at of a round that has made blocks. -/
def seeC (m : Nat) (idx : List Nat) (o : Option Out) : Option (XE × List AV × Bl × List AD × Bool × List Ob) :=
  (see idx o).map fun o => (o.1, o.2.1, cutB m o.2.2.1, o.2.2.2.2.1, (cutB m o.2.2.1).all (blkB m) && idBs m o.2.1, o.2.2.2.2.2)
theorem Cd.seeC {GT : Bl} {S : St} {K : Cfg} (hK : KOk K) {n : Nat} (m : Nat) {c : Code} {A A' : List AV} {idx : List Nat} {e : XE} {ov' : Bl} {obl : List Ob} {orc : List OE}
    (hrun : Ex.seeC m idx (X K n (.code c A { S with orc := orc })) = some (e, A', ov', [], true, obl)) (hO : Als K.P K.G GT obl)
    (hn : S.nxt ≤ m) (hG : K.G ≤ m) (hb : S.base.all (fun p => decide (p.1 < m) && blkB m p) = true) : Cd K.P K.G GT c A S e A' { ov := ov', base := S.base, nxt := m, dl := [], rnd := S.rnd } := by
  simp only [Ex.seeC, Option.map_eq_some_iff, Prod.mk.injEq, Bool.and_eq_true] at hrun
  obtain ⟨⟨e1, A1, ov1, nxt1, dl1, obl1⟩, h1, h2, h3, h4, h5, ⟨h6, h7⟩, h8⟩ := hrun
  simp only at h2 h3 h4 h5 h6 h7 h8
  subst h2; subst h3; subst h5; subst h8
  have := (Cd.see hK h1 hO).cut m hn hG h7 rfl h6 hb
  rw [← h4]
  exact this
/-- Of the activations at loops' heads that which is told for each, in order. -/
def wkL : List (List Nat) → List Ob → List Ob
  | idx :: r, .loop c A ov b n dl rn e A' ov' n' :: l => .loop c (keep idx A) ov b n dl rn e A' ov' n' :: wkL r l
  | [], l => l
  | r, b :: l => b :: wkL r l
  | _, [] => []
theorem als_wkL {P : Program} {G : Nat} {GT : Bl} : ∀ {r : List (List Nat)} {l : List Ob}, Als P G GT (wkL r l) → Als P G GT l
  | [], l, h => by cases l <;> simpa only [wkL] using h
  | idx :: r, [], h => trivial
  | idx :: r, b :: l, h => by
    cases b with
    | loop c A ov bb n dl rn e A' ov' n' =>
      simp only [wkL, Als] at h
      exact ⟨Lp.start h.1 (wk_keep idx A) (Sm.refl _) rfl, als_wkL h.2⟩
    | br b o => simp only [wkL, Als] at h; exact ⟨h.1, als_wkL h.2⟩
    | ok p => simp only [wkL, Als] at h; exact ⟨h.1, als_wkL h.2⟩
    | pure f a v => simp only [wkL, Als] at h; exact ⟨h.1, als_wkL h.2⟩
    | call => simp only [wkL, Als] at h; exact ⟨h.1, als_wkL h.2⟩
def seeW (P : Program) (G m : Nat) (r : List (List Nat)) (o : Option Out) : Option (AV × List Ob) := (seeP P G m o).map fun o => (o.1, wkL r o.2)
theorem Pure.seeW {GT : Bl} {K : Cfg} (hK : KOk K) {n m : Nat} {r : List (List Nat)} {f : FuncId} {args : List AV} {orc : List OE} {v : AV} {obl : List Ob}
    (hrun : Ex.seeW K.P K.G m r (X K n (.call f args (S0 K.G GT orc))) = some (v, obl)) (hO : Als K.P K.G GT obl) : Pure K.P K.G GT f args v := by
  simp only [Ex.seeW, Option.map_eq_some_iff, Prod.mk.injEq] at hrun
  obtain ⟨⟨v1, o1⟩, h1, h2, h3⟩ := hrun
  simp only at h2 h3
  subst h2; subst h3
  exact Pure.see hK h1 (als_wkL hO)
theorem notb {p b : Bool} (h : p = b) : (!p) = !b := by rw [h]
theorem neqb {a : Bool} (h : ¬ a = true) : a = false := by simpa using h
end
end Go.Ex
/- Contracts, part 6: of a function that calls one whose contract asks something of the world. -/
namespace Go.Ex
open Go.RowKit
noncomputable section
variable {P : Program} {G B : Nat} {GT : Bl} {w0 w : World} {ε : Env} {S : St}
theorem gtk_nil : GTk G [] w0 := ⟨fun p hp => by (cases hp), fun i blk h => by simp [look] at h⟩
/-- A pure function's contract at one place, out of one run: what its run leaves is shown wherever the world has grown to. -/
theorem PureOk.of_run {K : Cfg} {B : Nat} {w0 : World} (hK : KOk K) {n m : Nat} {f : FuncId} {args : List AV} {orc : List OE} {e : XE} {v v' : AV} {S' : St}
    (hrun : X K n (.call f args (S0 K.G [] orc)) = some (e, [v], S')) (hfz : fz K.P K.G S' m v = some v') (hB : K.G ≤ B) (hO : ∀ w, Below B w0 w → B ≤ w.heap.size → Oks K.P K.G w.heap.size w S'.obl) : PureOk K.P K.G B w0 f args v' := by
  intro ε w xs hst hx
  have hg : GTk K.G [] w0 := gtk_nil
  have hrel := start_rel hst hg orc
  have hg' := hg.later hst.gB hst.below
  have hGle : K.G ≤ w.heap.size := Nat.le_trans hst.gB hst.hB
  obtain ⟨v1, hv1, _, _, hcall⟩ := X_ok hK w.heap.size w n _ _ hrun
  simp at hv1
  subst hv1
  have hx' : γs ⟨fun g => if g < K.G then some g else none, fun _ => 0, ε.M, ε.M, K.G⟩ args xs := by
    refine γs_mono (ε := ε.cl) (ε' := ⟨fun g => if g < K.G then some g else none, fun _ => 0, ε.M, ε.M, K.G⟩) ⟨fun i b hi => ?_, fun _ _ h => h, hst.eG.symm⟩ _ _ hx
    simp only [Env.cl, hst.eG] at hi
    exact ⟨hi, rfl⟩
  refine Calls.mono (hcall (hO w hst.below hst.hB) _ w xs hrel hx') fun e' w' he => ?_
  obtain ⟨y, ε', rfl, ha, hy, hr, _⟩ := he
  have hM0 : ε'.M0 = ε.M := ha.m0
  refine ⟨y, { ε with M := fun b => if b < w.heap.size then ε.M b else w'.heap[b]? }, rfl, ⟨rfl, rfl, ?_, ?_, rfl, rfl⟩, ?_, hr.below, ?_⟩
  · intro b o hb
    have hlt := (Array.getElem?_eq_some_iff.1 (hst.mem b o hb)).1
    simp [hlt, hb]
  · intro b o hb hn
    simp only at hb
    split at hb
    · rw [hn] at hb; cases hb
    · omega
  · refine fz_γ hr (ε2 := { ε with M := fun b => if b < w.heap.size then ε.M b else w'.heap[b]? }) hst.eG (fun b o hb => ?_) (fun b o hle hb => ?_) m v v' y hfz hy
    · simp only
      by_cases hlt : b < w.heap.size
      · have := hr.old b o hb hlt
        rw [hM0] at this
        simp [hlt, this]
      · simp only [hlt, if_false]
        exact hr.mem b o hb
    · simp only
      have : ¬ b < w.heap.size := by omega
      simp [this, hb]
  · intro b o hb
    simp only at hb
    split at hb
    · have h1 := hst.mem b o hb
      rw [hr.below.block b (by assumption)]
      exact h1
    · exact hb
theorem PureOk.see {K : Cfg} (hK : KOk K) {n m : Nat} {f : FuncId} {args : List AV} {orc : List OE} {v : AV} {obl : List Ob}
    (hrun : Ex.seeP K.P K.G m (X K n (.call f args (S0 K.G [] orc))) = some (v, obl)) (hB : K.G ≤ B) (hO : ∀ w, Below B w0 w → B ≤ w.heap.size → Oks K.P K.G w.heap.size w obl) : PureOk K.P K.G B w0 f args v := by
  unfold Ex.seeP at hrun
  split at hrun <;> try (simp at hrun; done)
  rename_i e v1 S' h1
  split at hrun <;> simp at hrun
  rename_i v' hv
  obtain ⟨rfl, rfl⟩ := hrun
  exact PureOk.of_run hK h1 hv hB hO
theorem PureOk.wk {f : FuncId} {args : List AV} {v v' : AV} (h : PureOk P G B w0 f args v) (hle : v.le v') : PureOk P G B w0 f args v' := fun ε w xs hst hx =>
  Calls.mono (h ε w xs hst hx) fun e w' he => by
    obtain ⟨y, ε', h1, h2, h3, h4, h5⟩ := he
    exact ⟨y, ε', h1, h2, γ_le hle h3, h4, h5⟩
theorem oks_nil : Oks P G B w0 [] := fun o ho => by cases ho
theorem oks_cons {o : Ob} {l : List Ob} (h : o.Ok P G B w0) (hl : Oks P G B w0 l) : Oks P G B w0 (o :: l) := fun o' ho => by
  rcases List.mem_cons.1 ho with rfl | ho
  · exact h
  · exact hl o' ho
/-- One that asks nothing of the world. -/
theorem oks_al {o : Ob} {l : List Ob} (h : o.Al P G []) (hB : G ≤ B) (hl : Oks P G B w0 l) : Oks P G B w0 (o :: l) := oks_cons (h.ok hB gtk_nil) hl
end
end Go.Ex
