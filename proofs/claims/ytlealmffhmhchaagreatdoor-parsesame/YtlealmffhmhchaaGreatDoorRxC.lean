/- The reflective executor, part 15: what its jobs mean; steps and regions in the order of their text. -/
import Derived.Test.YtlealmffhmhchaaGreatDoorRxB
import Derived.TacticsIn
import Derived.LoopNIn
import Derived.Scope
import Derived.Lib.ReflectliteSlice
import Derived.Test.YtlealmffhmhchaaGreatDoorRxA
import Derived.LaidLaws
import Derived.Lib.LaidTab
import Derived.HandedShaped
import Derived.Handed
namespace Go.Rx
open Go.RowKit
noncomputable section

def FrS (r : Option Nat) : Fence := { Fence.wide with round := r }

/-! ### States -/
def DL (ε : Env) : List AD → List Deferred → Prop
  | [], [] => True
  | d :: l, x :: xs => DR ε d x ∧ DL ε l xs
  | _, _ => False
theorem DR.mono {ε ε' : Env} (hle : ε.le ε') {d : AD} {x : Deferred} (h : DR ε d x) : DR ε' d x := by
  cases d with
  | idle f n => exact h
  | coll i => obtain ⟨r, h1, h2⟩ := h; exact ⟨r, h1, (hle i r h2).1⟩
theorem DL.mono {ε ε' : Env} (hle : ε.le ε') : ∀ {l : List AD} {xs : List Deferred}, DL ε l xs → DL ε' l xs
  | [], [], _ => trivial
  | [], _ :: _, h => h.elim
  | _ :: _, [], h => h.elim
  | d :: l, x :: xs, h => ⟨h.1.mono hle, DL.mono hle h.2⟩
def RN (ε : Env) : Option Nat → Option Nat → Prop
  | none, r => r = none
  | some i, r => ∃ l, r = some l ∧ ε.δ i = some l

section
variable {P : Program} {G B : Nat} {w0 w : World} {ε : Env} {S : St}
theorem Rel.congr (h : Rel G B w0 ε S w) {S' : St} (h1 : S'.ov = S.ov) (h2 : S'.base = S.base) (h3 : S'.nxt = S.nxt) : Rel G B w0 ε S' w :=
  h.sub h3 (by rw [h1, h3]; exact h.bov) (by rw [h2, h3]; exact h.bba) (fun i b hb => by simpa only [St.get, h1, h2] using hb)
theorem RN.mono {ε' : Env} {n : Nat} (ha : ε.agr n ε') (hle : ε.le ε') {r rr : Option Nat} (h : RN ε r rr) : RN ε' r rr := by
  cases r with
  | none => exact h
  | some i => obtain ⟨l, h1, h2⟩ := h; exact ⟨l, h1, (hle i l h2).1⟩

/-- The activation and the world are what the abstract state says. -/
structure In (G B : Nat) (w0 : World) (ε : Env) (S : St) (A : List AV) (a : Act) (w : World) : Prop where
  rel : Rel G B w0 ε S w
  tmps : γs ε A = some a.tmps.toList
  dl : DL ε S.dl a.defers
theorem In.ar {A : List AV} {a : Act} (h : In G B w0 ε S A a w) : AR ε a.defers A a := ⟨h.tmps, rfl⟩
theorem In.put {A : List AV} {a : Act} (h : In G B w0 ε S A a w) {v : AV} {y : Value} (hv : γ ε v = some y) (dst : Option Tmp) : In G B w0 ε S (xput A dst v) (a.put dst y) w := by
  refine ⟨h.rel, ?_, ?_⟩
  · cases dst with
    | none => exact h.tmps
    | some d =>
      simp only [xput, setN_eq, Act.put]
      simpa using γs_set h.tmps d hv
  · cases dst <;> exact h.dl
theorem γ_undef : γ ε (.tup []) = some undef := by simp [γ, γs, undef]
theorem In.mono {A : List AV} {a : Act} (h : In G B w0 ε S A a w) {ε' : Env} {S' : St} {w' : World} (ha : ε.agr S.nxt ε') (hr : Rel G B w0 ε' S' w') (hd : S'.dl = S.dl) : In G B w0 ε' S' A a w' :=
  ⟨hr, γs_mono (h.rel.le ha) _ _ h.tmps, by rw [hd]; exact h.dl.mono (h.rel.le ha)⟩

/-- What holds behind: of a state that began in S. -/
def Post (G B : Nat) (w0 : World) (ε : Env) (S : St) (A' : List AV) (S' : St) (a' : Act) (w' : World) : Prop :=
  ∃ ε', ε.agr S.nxt ε' ∧ In G B w0 ε' S' A' a' w' ∧ S.nxt ≤ S'.nxt
theorem Post.refl {A : List AV} {a : Act} (h : In G B w0 ε S A a w) : Post G B w0 ε S A S a w := ⟨ε, Env.agr_refl _ _, h, Nat.le_refl _⟩
theorem Post.trans {ε1 : Env} {S1 S2 : St} {A2 : List AV} {a2 : Act} {w2 : World} (ha : ε.agr S.nxt ε1) (hn : S.nxt ≤ S1.nxt) (h : Post G B w0 ε1 S1 A2 S2 a2 w2) : Post G B w0 ε S A2 S2 a2 w2 := by
  obtain ⟨ε', h1, h2, h3⟩ := h
  exact ⟨ε', Env.agr_trans ha h1 hn, h2, Nat.le_trans hn h3⟩
end
end
end Go.Rx
/- The reflective executor, part 16: what its jobs mean; single steps, lists of operations. -/
namespace Go.Rx
open Go.RowKit
noncomputable section
section
variable {P : Program} {G B : Nat} {w0 w : World} {ε : Env} {S : St}

/-! ### Guards -/
theorem yielded_eq {all : Array Oper} {A : List AV} {a : Act} (hA : γs ε A = some a.tmps.toList) (j : Nat) : yielded all a.tmps j = xyield all A j := by
  unfold yielded xyield
  cases hd : (all[j]?).bind (·.dst) with
  | none => rfl
  | some t =>
    simp only [Option.bind_some]
    cases hg : A[t]? with
    | none =>
      have := γs_get_none hA hg
      have h2 : a.tmps[t]? = none := by simpa using this
      simp [h2]
    | some v =>
      obtain ⟨y, h1, h2⟩ := γs_get hA hg
      have h3 : a.tmps[t]? = some y := by simpa using h1
      rw [h3]
      cases v <;> simp only [γ, Option.map_eq_some_iff, Option.bind_eq_some_iff, Option.some.injEq] at h2
      case bool b => subst h2; rfl
      case str s => split at h2 <;> simp at h2; subst h2; rfl
      case ptr => obtain ⟨_, _, rfl⟩ := h2; rfl
      case slc => obtain ⟨_, _, rfl⟩ := h2; rfl
      case zs => obtain ⟨_, _, rfl⟩ := h2; rfl
      case yld => obtain ⟨_, _, rfl⟩ := h2; rfl
      case func => obtain ⟨_, _, _, _, rfl⟩ := h2; rfl
      case iface => obtain ⟨_, _, rfl⟩ := h2; rfl
      case agg => obtain ⟨_, _, rfl⟩ := h2; rfl
      case tup => obtain ⟨_, _, rfl⟩ := h2; rfl
      all_goals (subst h2; rfl)
theorem wanted_eq {all : Array Oper} {A : List AV} {a : Act} (hA : γs ε A = some a.tmps.toList) (o : Oper) : Region.wanted o (yielded all a.tmps) = xwanted all A o := by
  unfold Region.wanted xwanted
  cases o.guard with
  | none => rfl
  | some p =>
    obtain ⟨j, want⟩ := p
    simp only [yielded_eq hA]
    cases xyield all A j <;> simp

/-! ### Jobs -/
/-- A call's end. -/
def CPost (G B : Nat) (w0 : World) (ε : Env) (S : St) (v : AV) (S' : St) (e : Ending) (w' : World) : Prop :=
  ∃ y ε', e = .returned y ∧ ε.agr S.nxt ε' ∧ γ ε' v = some y ∧ Rel G B w0 ε' S' w' ∧ S.nxt ≤ S'.nxt
/-- The blocks that are not among W. -/
def killB (W : List Nat) (l : Bl) : Bl := l.map fun p => (p.1, if memN p.1 W then none else p.2)
def kill (W : List Nat) (S : St) : St := { ov := killB W S.ov, base := killB W S.base, nxt := S.nxt }
theorem look_killB (W : List Nat) : ∀ (l : Bl) (i : Nat), look (killB W l) i = (look l i).map fun b => if memN i W then none else b
  | [], i => rfl
  | (j, b) :: l, i => by
    have ih := look_killB W l i
    simp only [killB, List.map_cons, look] at ih ⊢
    by_cases h : j = i
    · subst h; simp
    · simpa [h] using ih
theorem get_kill (W : List Nat) (S : St) (i : Nat) : (kill W S).get i = if memN i W then none else S.get i := by
  simp only [St.get, kill, look_killB]
  cases look S.ov i with
  | some b => simp
  | none =>
    simp only [Option.map_none]
    cases look S.base i with
    | some b => simp
    | none => simp
/-- What a region of drawn order keeps. -/
def SC (G B : Nat) (w0 : World) (ε : Env) (S : St) (W : List Nat) (w : World) : Prop := Rel G B w0 ε (kill W S) w

def DrawOk (K : Cfg) (B : Nat) (w0 : World) (S0 : St) (W : List Nat) (all : Array Oper) (A : List AV) (S : St) (A' : List AV) (S' : St)
    (N : Env → (Exit → Act → World → Prop) → Act → World → Prop) : Prop :=
  Region.noSelect all = true → apartAll all = true → S.base = S0.base → S.rnd = none → S0.nxt ≤ S.nxt → ∀ (ε0 ε : Env) (a : Act) (w : World) (Q : Exit → Act → World → Prop), ε0.agr S0.nxt ε → Rel K.G B w0 ε0 (kill W S0) w → In K.G B w0 ε S A a w →
    (∀ a' w', Post K.G B w0 ε S A' S' a' w' → Q .normal a' w') → (∀ c a w, ¬ Q (.panic c) a w) → N ε0 Q a w

def JobOk (K : Cfg) (B : Nat) (w0 : World) : Job → Out → Prop
  | .code c A S, (e, A', S') => S'.base = S.base ∧ S'.rnd = S.rnd ∧ ∀ (ε : Env) (a : Act) (w : World) (r : Option Nat), In K.G B w0 ε S A a w → RN ε S.rnd r →
      c.wpIn (FrS r) 0 K.P (fun e' a' w' => e' = e.out ∧ Post K.G B w0 ε S A' S' a' w') a w
  | .rounds c A S, (e, A', S') => S'.base = S.base ∧ S'.rnd = S.rnd ∧ ∃ m, ∀ (ε : Env) (a : Act) (w : World) (r : Option Nat), In K.G B w0 ε S A a w → RN ε S.rnd r →
      ∀ Q : Exit → Act → World → Prop, (∀ a' w', Post K.G B w0 ε S A' S' a' w' → Q e.out a' w') → Code.roundsIn (FrS r) 0 K.P c Q m a w
  | .call f args S, (_, vs, S') => ∃ v, vs = [v] ∧ S'.base = S.base ∧ S'.rnd = S.rnd ∧ S'.dl = S.dl ∧ ∀ (ε : Env) (w : World) (xs : List Value), Rel K.G B w0 ε S w → γs ε args = some xs →
      Calls K.P f xs.toArray w (CPost K.G B w0 ε S v S')
  | .draw S0 W all left listed A S, (e, A', S') => e = .normal ∧ S'.base = S.base ∧ S'.rnd = S.rnd ∧ S'.dl = S.dl ∧ DrawOk K B w0 S0 W all A S A' S' fun ε0 Q a w => wpAnyH K.P .any all Q (SC K.G B w0 ε0 S0 W) left listed a w
  | .rest S0 W all left listed is A S A1 S1, (e, A', S') => e = .normal ∧ A' = A1 ∧ S' = S1 ∧ (S1.base = S.base → S1.rnd = S.rnd → S1.dl = S.dl → DrawOk K B w0 S0 W all A S A' S' fun ε0 Q a w =>
      ∀ i ∈ is, wpOp K.P all Q i (fun a' w' => SC K.G B w0 ε0 S0 W w' ∧ wpAnyH K.P .any all Q (SC K.G B w0 ε0 S0 W) left (listed.setIfInBounds i true) a' w') a w)
  | .one S0 W all left listed i A S, (e, A', S') => e = .normal ∧ S'.base = S.base ∧ S'.rnd = S.rnd ∧ S'.dl = S.dl ∧ DrawOk K B w0 S0 W all A S A' S' fun ε0 Q a w =>
      wpOp K.P all Q i (fun a' w' => SC K.G B w0 ε0 S0 W w' ∧ wpAnyH K.P .any all Q (SC K.G B w0 ε0 S0 W) left (listed.setIfInBounds i true) a' w') a w
def ROk (K : Cfg) (B : Nat) (w0 : World) (r : Rec) : Prop := ∀ job out, r job = some out → JobOk K B w0 job out
/-- What is asked of the table of the executor. -/
structure KOk (K : Cfg) (B : Nat) (w0 : World) : Prop where
  ext : EOk K.P K.G K.E
  base : EB K.E
  mixed : K.P.follows .mixedOrders = true
  facts : ∀ p ∈ K.F, ∀ (ε : Env) (S : St) (w : World) (xs : List Value), Rel K.G B w0 ε S w → γs ε p.2.1 = some xs → Calls K.P p.1 xs.toArray w (CPost K.G B w0 ε S p.2.2 S)
  idle : ∀ p ∈ K.I, ∀ (args : Array Value) (w : World), args.size = p.2 → funcOk K.P p.1 = true ∧ CallsDIn Fence.wide 0 K.P p.1 args .returning w fun e u w' => (∃ v, e = .returned v) ∧ u = .returning ∧ w' = w

/-! ### One operation -/
def Does (P : Program) (rd : Bool) (rr : Option Nat) (o : Oper) (a : Act) (w : World) (N : Act → World → Prop) : Prop :=
  match (execOp a.eval o).run P w with
  | .ok (.value v) w' => N (a.put o.dst v) w'
  | .ok .skip w' => N (a.put o.dst undef) w'
  | .ok (.enter f args) w' => Calls P f args w' fun e w'' => ∃ v, e = .returned v ∧ N (a.put o.dst v) w''
  | .ok (.defer d) w' => rd = true ∧ rr = none ∧ N ({ a with defers := d :: a.defers }.put o.dst undef) w'
  | .ok (.round l f tmps assign body) w' => rd = true ∧ RoundIn Fence.wide 0 P l f tmps assign body w' fun e w'' => ∃ v, e = .returned v ∧ N (a.put o.dst v) w''
  | _ => False
theorem Does.wp {rr : Option Nat} {o : Oper} {a : Act} {N K : Act → World → Prop} {Q : Exit → Act → World → Prop} (h : Does P false rr o a w N) (hk : ∀ a w, N a w → K a w) : o.wp P a w K Q := by
  unfold Does at h
  unfold Oper.wp
  generalize (execOp a.eval o).run P w = res at *
  cases res with
  | halt x w' => exact h.elim
  | ok n w' =>
    cases n <;> simp only at h <;> try (exact h.elim)
    case value v => exact hk _ _ h
    case skip => exact hk _ _ h
    case enter f args =>
      refine Calls.mono h fun e w'' he => ?_
      obtain ⟨v, rfl, hn⟩ := he
      exact hk _ _ hn
    case defer d => simp at h
    case round => simp at h
theorem execOp_defer {ρ : Operand → Value} {o : Oper} {c : Call} (ho : o.op = .defer c) : execOp ρ o = (do pure (.defer (← resolve ρ c o.type))) := by
  obtain ⟨dst, op, ty, pos, after, guard⟩ := o
  subst ho
  rfl
theorem Does.not_defer {rd : Bool} {l : Nat} {o : Oper} {a : Act} {N : Act → World → Prop} (h : Does P rd (some l) o a w N) (c : Call) : o.op ≠ .defer c := by
  intro ho
  unfold Does at h
  rw [execOp_defer ho] at h
  simp only [Sem.run_bind] at h
  generalize (resolve a.eval c o.type).run P w = res at *
  cases res with
  | halt x w' => exact h.elim
  | ok d w' => simp at h
theorem Does.wpIn {rd : Bool} {rr : Option Nat} {o : Oper} {a : Act} {N K : Act → World → Prop} {Q : Exit → Act → World → Prop} (h : Does P rd rr o a w N) (hk : ∀ a w, N a w → K a w) :
    o.wpIn (FrS rr) 0 P a w K Q := by
  refine ⟨fun f _ => trivial, ?_⟩
  have hs : Oper.semAt (FrS rr).round a.eval o = execOp a.eval o := by
    cases rr with
    | none => rfl
    | some l => exact Oper.semAt_some l _ _ h.not_defer
  rw [hs]
  unfold Does at h
  generalize (execOp a.eval o).run P w = res at *
  cases res with
  | halt x w' => exact h.elim
  | ok n w' =>
    cases n <;> simp only at h <;> try (exact h.elim)
    case value v => exact hk _ _ h
    case skip => exact hk _ _ h
    case enter f args =>
      refine ⟨fun h0 => by simp [FrS, Fence.wide] at h0, ?_⟩
      have h1 : CallsIn (FrS rr) (0 - 1) P f args w' _ := (callsIn_wide (n := 0 - 1)).2 h
      refine CallsIn.mono h1 fun e w'' he => ?_
      obtain ⟨v, rfl, hn⟩ := he
      exact hk _ _ hn
    case defer d => exact hk _ _ h.2.2
    case round l f tmps assign body =>
      refine ⟨fun h0 => by simp [FrS, Fence.wide] at h0, ?_⟩
      refine RoundIn.mono h.2 fun e w'' he => ?_
      obtain ⟨v, rfl, hn⟩ := he
      exact hk _ _ hn
end
end
end Go.Rx
/- The reflective executor, part 17: one operation, with the calls and the rounds that it makes; a list of operations. -/
namespace Go.Rx
open Go.RowKit
noncomputable section
section
variable {P : Program} {G B : Nat} {w0 w : World} {ε : Env} {S : St}

theorem lpSet_ok (h : Rel G B w0 ε S w) {i : Nat} {st st0 : LoopState} {pend pend0 : Option Code} {S' : St} (hl : lpSet S i st pend = some S') (h0 : loopOf S i = some (st0, pend0)) :
    ∃ l r, ε.δ i = some l ∧ w.heap[l]? = some (.loop r) ∧ r.state = st0 ∧ r.pending = pend0 ∧ Rel G B w0 ε S' (w.putObj l (.loop { r with state := st, pending := pend })) ∧
      S'.nxt = S.nxt ∧ S'.base = S.base ∧ S'.rnd = S.rnd ∧ S'.dl = S.dl := by
  unfold lpSet at hl
  unfold loopOf at h0
  split at hl <;> simp at hl
  rename_i st1 pend1 A ps assign body D hget
  rw [hget] at h0
  simp at h0
  obtain ⟨rfl, rfl⟩ := h0
  obtain ⟨b, o, h1, h2, ⟨fn, xs, d, h3, h4, rfl⟩, h5⟩ := h.live _ _ hget
  subst hl
  have hlt := (Array.getElem?_eq_some_iff.1 h2).1
  refine ⟨b, _, h1, h2, rfl, rfl, ?_, rfl, rfl, rfl, rfl⟩
  exact h.setBlk hget rfl h1 ⟨rfl, rfl, rfl, by simp⟩ (fun k hk => World.putObj_heap_other hk) (World.putObj_heap_same hlt) ⟨fn, xs, d, h3, h4, rfl⟩
theorem loopOf_lpSet {i : Nat} {st : LoopState} {pend : Option Code} {S' : St} (hl : lpSet S i st pend = some S') : ∃ x, loopOf S i = some x := by
  unfold lpSet at hl
  unfold loopOf
  split at hl <;> simp at hl
  exact ⟨_, rfl⟩

theorem step_ok {K : Cfg} {r : Rec} (hK : KOk K B w0) (hr : ROk K B w0 r) {rd : Bool} {o : Oper} {A A' : List AV} {S' : St} {e : XE} (hl : stepF K r rd o A S = some (e, A', S')) :
    e = .normal ∧ S'.base = S.base ∧ S'.rnd = S.rnd ∧ (rd = false → S'.dl = S.dl) ∧ ∀ (ε : Env) (a : Act) (w : World) (rr : Option Nat), In K.G B w0 ε S A a w → RN ε S.rnd rr →
      Does K.P rd rr o a w (Post K.G B w0 ε S A' S') := by
  unfold stepF at hl
  split at hl <;> try (simp at hl; done)
  rename_i n hn
  have hbase := xop_base hK.base hn
  have means : ∀ (ε : Env) (a : Act) (w : World), In K.G B w0 ε S A a w → Means K.G B w0 ε S ((execOp a.eval o).run K.P w) n := fun ε a w h => xop_means h.rel hK.ext h.ar hn
  cases n with
  | val v S1 =>
    simp only [stepN, Option.some.injEq, Prod.mk.injEq] at hl
    obtain ⟨rfl, rfl, rfl⟩ := hl
    refine ⟨rfl, hbase, rfl, fun _ => rfl, fun ε a w rr h _ => ?_⟩
    obtain ⟨x, w', ε', h1, h2, h3, h4, h5⟩ := means ε a w h
    unfold Does
    rw [h1]
    exact ⟨ε', h2, (h.mono (S' := S.of S1) h2 (h4.congr rfl rfl rfl) rfl).put h3 _, h5⟩
  | unit S1 =>
    simp only [stepN, Option.some.injEq, Prod.mk.injEq] at hl
    obtain ⟨rfl, rfl, rfl⟩ := hl
    refine ⟨rfl, hbase, rfl, fun _ => rfl, fun ε a w rr h _ => ?_⟩
    obtain ⟨w', ε', h1, h2, h4, h5⟩ := means ε a w h
    unfold Does
    rw [h1]
    exact ⟨ε', h2, (h.mono (S' := S.of S1) h2 (h4.congr rfl rfl rfl) rfl).put γ_undef _, h5⟩
  | enter f args S1 =>
    simp only [stepN] at hl
    split at hl <;> simp at hl
    rename_i e' v S2 hc
    obtain ⟨rfl, rfl, rfl⟩ := hl
    obtain ⟨v', hv, hb, hrn, hdl, hcall⟩ := hr _ _ hc
    simp at hv
    subst hv
    refine ⟨rfl, hb.trans hbase, hrn, fun _ => hdl, fun ε a w rr h _ => ?_⟩
    obtain ⟨xs, w', ε', h1, h2, h3, h4, h5⟩ := means ε a w h
    unfold Does
    rw [h1]
    refine Calls.mono (hcall ε' w' xs (h4.congr rfl rfl rfl) h3) fun e w'' he => ?_
    obtain ⟨y, ε2, h6, h7, h8, h9, h10⟩ := he
    have h7' : ε'.agr S1.nxt ε2 := h7
    have h10' : S1.nxt ≤ S2.nxt := h10
    refine ⟨y, h6, ε2, Env.agr_trans h2 h7' h5, (h.mono (Env.agr_trans h2 h7' h5) h9 hdl).put h8 _, Nat.le_trans h5 h10'⟩
  | dfr d S1 =>
    simp only [stepN] at hl
    split at hl <;> simp at hl
    rename_i hrnd
    obtain ⟨rfl, rfl, rfl⟩ := hl
    refine ⟨rfl, hbase, rfl, fun h => by simp at h, fun ε a w rr h hrr => ?_⟩
    obtain ⟨x, w', h1, h2, h4, h5⟩ := means ε a w h
    unfold Does
    rw [h1]
    rw [hrnd] at hrr
    refine ⟨rfl, hrr, ε, Env.agr_refl _ _, ?_, h5⟩
    have hi : In K.G B w0 ε { S.of S1 with dl := d :: S.dl } A { a with defers := x :: a.defers } w' := ⟨h4.congr rfl rfl rfl, h.tmps, ⟨h2, h.dl⟩⟩
    exact hi.put γ_undef _
  | round i A1 assign body S1 =>
    simp only [stepN] at hl
    split at hl <;> try (simp at hl; done)
    rename_i A2 S2 hc1
    split at hl <;> try (simp at hl; done)
    rename_i pend hlo
    split at hl <;> try (simp at hl; done)
    rename_i S3 hs3
    split at hl <;> try (simp at hl; done)
    rename_i e4 A4 S4 hc2
    split at hl <;> simp at hl
    rename_i S5 hs5
    obtain ⟨rfl, rfl, rfl⟩ := hl
    obtain ⟨hb2, hr2, hw2⟩ := hr _ _ hc1
    obtain ⟨hb4, hr4, hw4⟩ := hr _ _ hc2
    have hb3 : S3.base = S2.base ∧ S3.rnd = S2.rnd ∧ S3.nxt = S2.nxt := by
      unfold lpSet at hs3
      split at hs3 <;> simp at hs3
      subst hs3
      exact ⟨rfl, rfl, rfl⟩
    have hb5 : S5.base = S4.base := by
      unfold lpSet at hs5
      split at hs5 <;> simp at hs5
      subst hs5
      rfl
    refine ⟨rfl, by simp only [St.of]; rw [hb5, hb4, hb3.1, hb2]; exact hbase, rfl, fun h => by simp at h, fun ε a w rr h hrr => ?_⟩
    obtain ⟨l, fn, xs, w', ε1, h1, h2, h3, h4, h5, h6⟩ := means ε a w h
    unfold Does
    rw [h1]
    refine ⟨rfl, roundIn_of_wpIn (F := Fence.wide) trivial ?_⟩
    have hin1 : In K.G B w0 ε1 { S1 with dl := [], rnd := some i } A1 { tmps := xs.toArray, defers := [] } w' := ⟨h5.congr rfl rfl rfl, by simpa using h4, trivial⟩
    have hwp := hw2 ε1 _ w' (some l) hin1 ⟨l, rfl, h3⟩
    refine wpIn_mono hwp fun e' a1 w1 hq => ?_
    obtain ⟨rfl, ε2, ha2, hin2, hn2⟩ := hq
    have ha2' : ε1.agr S1.nxt ε2 := ha2
    obtain ⟨l', rc, h7, h8, h9, h10, h11, h12, h13, h14, h15⟩ := lpSet_ok hin2.rel hs3 hlo
    have hl2 : ε2.δ i = some l := (h5.le ha2' i l h3).1
    rw [hl2] at h7
    simp at h7
    subst h7
    refine ⟨_, run_beginRound h8 h9, ?_⟩
    have e3 : ({ rc with state := .busy, pending := pend } : Loop) = { rc with state := .busy } := by rw [← h10]
    rw [e3] at h11
    have hin3 : In K.G B w0 ε2 S3 A2 a1 (w1.putObj l (.loop { rc with state := .busy })) := ⟨h11, hin2.tmps, by rw [h15]; exact hin2.dl⟩
    have hrn3 : S3.rnd = some i := by rw [h14, hr2]
    have hwp2 := hw4 ε2 a1 _ (some l) hin3 (by rw [hrn3]; exact ⟨l, rfl, hl2⟩)
    refine wpIn_mono hwp2 fun e' a2 w2 hq => ?_
    obtain ⟨rfl, ε3, ha3, hin4, hn4⟩ := hq
    obtain ⟨x0, hx0⟩ := loopOf_lpSet hs5
    obtain ⟨l', rc2, h16, h17, h18, h19, h20, h21, h22, h23, h24⟩ := lpSet_ok (st0 := x0.1) (pend0 := x0.2) hin4.rel hs5 hx0
    have ha3' : ε2.agr S3.nxt ε3 := ha3
    have hl3 : ε3.δ i = some l := (hin3.rel.le ha3' i l hl2).1
    rw [hl3] at h16
    simp at h16
    subst h16
    have hend := run_endRound (P := K.P) e4.jump h17
    have hn2' : S1.nxt ≤ S2.nxt := hn2
    have hn3 : S.nxt ≤ S3.nxt := by rw [hb3.2.2]; exact Nat.le_trans h6 hn2'
    have haT : ε.agr S.nxt ε3 := Env.agr_trans (Env.agr_trans h2 ha2' h6) ha3' hn3
    have hfin : Post K.G B w0 ε S (xput A o.dst (.bool e4.jump.isNone)) (S.of S5) (a.put o.dst (.bool e4.jump.isNone)) (w2.putObj l (.loop { rc2 with state := if e4.jump.isNone then .ready else .done, pending := e4.jump })) := by
      refine ⟨ε3, haT, (h.mono (S' := S.of S5) haT (h20.congr rfl rfl rfl) rfl).put (by simp [γ]) _, ?_⟩
      show S.nxt ≤ S5.nxt
      rw [h21]
      exact Nat.le_trans hn3 hn4
    cases e4 with
    | normal => exact ⟨_, _, hend, _, rfl, hfin⟩
    | ret => exact ⟨_, _, hend, _, rfl, hfin⟩
    | exit id => exact ⟨_, _, hend, _, rfl, hfin⟩

theorem ops_ok {K : Cfg} {r : Rec} (hK : KOk K B w0) (hr : ROk K B w0 r) {all : Array Oper} : ∀ {l : List Oper} {A A' : List AV} {S S' : St} {e : XE}, opsF K r all l A S = some (e, A', S') →
    e = .normal ∧ S'.base = S.base ∧ S'.rnd = S.rnd ∧ ∀ (ε : Env) (a : Act) (w : World) (rr : Option Nat), In K.G B w0 ε S A a w → RN ε S.rnd rr →
      ∀ Q : Exit → Act → World → Prop, (∀ a' w', Post K.G B w0 ε S A' S' a' w' → Q .normal a' w') → wpListIn (FrS rr) 0 K.P all Q l a w
  | [], A, A', S, S', e, hl => by
    simp only [opsF, Option.some.injEq, Prod.mk.injEq] at hl
    obtain ⟨rfl, rfl, rfl⟩ := hl
    exact ⟨rfl, rfl, rfl, fun ε a w rr h _ Q hQ => hQ _ _ (Post.refl h)⟩
  | o :: l, A, A', S, S', e, hl => by
    have hl : opsC K r all o (opsF K r all l) A S = some (e, A', S') := hl
    unfold opsC at hl
    split at hl
    · rename_i hw
      split at hl <;> try (simp at hl; done)
      rename_i e1 A1 S1 hs
      obtain ⟨rfl, hb1, hr1, _, hd⟩ := step_ok hK hr hs
      obtain ⟨rfl, hb2, hr2, hrest⟩ := ops_ok hK hr hl
      refine ⟨rfl, hb2.trans hb1, hr2.trans hr1, fun ε a w rr h hrr Q hQ => ?_⟩
      have hw' : Region.wanted o (yielded all a.tmps) = true := by rw [wanted_eq h.tmps]; exact hw
      simp only [wpListIn, hw', if_true]
      refine (hd ε a w rr h hrr).wpIn fun a1 w1 hp => ?_
      obtain ⟨ε1, h1, h2, h3⟩ := hp
      refine hrest ε1 a1 w1 rr h2 ?_ Q fun a' w' hp' => hQ a' w' (hp'.trans h1 h3)
      rw [hr1]
      exact hrr.mono h1 (h.rel.le h1)
    · rename_i hw
      obtain ⟨rfl, hb2, hr2, hrest⟩ := ops_ok hK hr hl
      refine ⟨rfl, hb2, hr2, fun ε a w rr h hrr Q hQ => ?_⟩
      have hw' : Region.wanted o (yielded all a.tmps) = false := by rw [wanted_eq h.tmps]; exact hw
      simp only [wpListIn, hw', Bool.false_eq_true, if_false]
      exact ⟨fun f _ => trivial, hrest ε _ w rr (h.put γ_undef _) hrr Q hQ⟩
end
end
end Go.Rx
/- The reflective executor, part 18: calls. -/
namespace Go.Rx
open Go.RowKit
noncomputable section
section
variable {P : Program} {G B : Nat} {w0 w : World} {ε : Env} {S : St}

/-! ### A function's results -/
def resultOne (tmps : Array Value) : ResultVar → Sem Value
  | .tmp t => pure (tmps.getD t undef)
  | .cell a t => do loadVar t (← asAddr (tmps.getD a undef))
theorem nth_tmps {A : List AV} {tmps : Array Value} (hA : γs ε A = some tmps.toList) (t : Nat) : γ ε (A.getD t (.tup [])) = some (tmps.getD t undef) := by
  cases hg : A[t]? with
  | none =>
    have := γs_get_none hA hg
    have h2 : tmps[t]? = none := by simpa using this
    simp [List.getD, hg, Array.getD_eq_getD_getElem?, h2, γ, γs, undef]
  | some v =>
    obtain ⟨y, h1, h2⟩ := γs_get hA hg
    have h3 : tmps[t]? = some y := by simpa using h1
    simp [List.getD, hg, Array.getD_eq_getD_getElem?, h3, h2]
theorem res_ok (h : Rel G B w0 ε S w) {A : List AV} {tmps : Array Value} (hA : γs ε A = some tmps.toList) : ∀ {l : List ResultVar} {vs : List AV}, xres P A S l = some vs →
    ∃ ys, (l.mapM (resultOne tmps)).run P w = .ok ys w ∧ γs ε vs = some ys
  | [], vs, hl => by
    simp [xres] at hl; subst hl
    exact ⟨[], rfl, rfl⟩
  | .tmp t :: l, vs, hl => by
    simp only [xres] at hl
    split at hl <;> simp at hl
    rename_i us hu
    subst hl
    obtain ⟨ys, h1, h2⟩ := res_ok h hA hu
    refine ⟨tmps.getD t undef :: ys, ?_, γs_cons.2 ⟨_, _, by simpa using nth_tmps hA t, h2, rfl⟩⟩
    simp only [List.mapM_cons, resultOne, Sem.run_bind, Sem.run_pure, Result.andThen_ok, h1]
  | .cell a t :: l, vs, hl => by
    simp only [xres] at hl
    split at hl <;> try (simp at hl; done)
    rename_i v hv
    split at hl <;> simp at hl
    rename_i us hu
    subst hl
    obtain ⟨ys, h1, h2⟩ := res_ok h hA hu
    have hn := nth_tmps hA a
    obtain ⟨i, off, hp⟩ : ∃ i off, A.getD a (.tup []) = .ptr i off := by
      cases hc : A.getD a (.tup []) <;> rw [hc] at hv <;> simp [xLoad] at hv
      exact ⟨_, _, rfl⟩
    rw [hp] at hv hn
    simp only [γ, Option.map_eq_some_iff] at hn
    obtain ⟨b, hb, hn⟩ := hn
    obtain ⟨y, h3, h4⟩ := loadVar_means (P := P) h hv hb
    refine ⟨y :: ys, ?_, γs_cons.2 ⟨_, _, h4, h2, rfl⟩⟩
    simp only [List.mapM_cons, resultOne, Sem.run_bind, ← hn, asAddr, Sem.run_pure, Result.andThen_ok, h3, h1]
theorem packRes_γ {vs : List AV} {ys : List Value} (h : γs ε vs = some ys) : γ ε (packRes vs) = some (if h : ys.toArray.size = 1 then ys.toArray[0] else .tuple ys.toArray) := by
  have hl := γs_length h
  cases vs with
  | nil => rw [γs_nil] at h; subst h; simp [packRes, γ, γs]
  | cons v vs =>
    obtain ⟨y, zs, h1, h2, rfl⟩ := γs_cons.1 h
    cases vs with
    | nil =>
      rw [γs_nil] at h2; subst h2
      simpa [packRes] using h1
    | cons u us =>
      obtain ⟨z, qs, h3, h4, rfl⟩ := γs_cons.1 h2
      simp only [packRes, γ, h, Option.map_some]
      simp
theorem results_ok (h : Rel G B w0 ε S w) {A : List AV} {tmps : Array Value} (hA : γs ε A = some tmps.toList) {fn : Func} {vs : List AV} (hl : xres P A S fn.results.toList = some vs) :
    ∃ y, (results fn tmps).run P w = .ok y w ∧ γ ε (packRes vs) = some y := by
  obtain ⟨ys, h1, h2⟩ := res_ok h hA hl
  refine ⟨_, ?_, packRes_γ h2⟩
  have e : results fn tmps = (do let vs ← fn.results.mapM (resultOne tmps); pure (if h : vs.size = 1 then vs[0] else .tuple vs)) := by
    unfold results
    congr 1
  rw [e]
  simp only [Array.mapM_eq_mapM_toList, map_eq_pure_bind, bind_assoc, Sem.run_bind, Sem.run_pure, Result.andThen_ok, h1, pure_bind]

/-! ### The deferred calls at a function's end -/
theorem Rel.forget (h : Rel G B w0 ε S w) {i b : Nat} {old : ABlk} (hget : S.get i = some old) (hown : old.own = true) (hi : ε.δ i = some b) {w' : World}
    (hw : w'.os = w.os ∧ w'.tape = w.tape ∧ w'.output = w.output ∧ w'.heap.size = w.heap.size) (hother : ∀ k, k ≠ b → w'.heap[k]? = w.heap[k]?) : Rel G B w0 ε (S.put i none) w' := by
  obtain ⟨b', o', h1, h2, h3, h4⟩ := h.live i old hget
  rw [hi] at h1
  simp at h1
  subst h1
  have hBb := h4 hown
  have hlt := h.lt hi
  have old' : ∀ m bm, (S.put i none).get m = some bm → i ≠ m ∧ S.get m = some bm := by
    intro m bm hm
    rw [St.get_put] at hm
    split at hm
    · simp at hm
    · rename_i him; exact ⟨him, hm⟩
  refine ⟨⟨hw.1.trans h.below.os, hw.2.1.trans h.below.tape, hw.2.2.1.trans h.below.output, by rw [hw.2.2.2]; exact h.below.size, fun k hk => (hother k (by omega)).trans (h.below.block k hk)⟩,
    by rw [hw.2.2.2]; exact h.hB, h.gB, h.gn, h.glob, h.free, ?_, h.bba, ?_, ?_⟩
  · exact upd_bnd h.bov hlt _
  · intro j bj hj
    obtain ⟨hij, hj⟩ := old' j bj hj
    obtain ⟨b', o', h5, h6, h7, h8⟩ := h.live j bj hj
    have hne : b' ≠ b := fun e => hij (h.inj i j old bj b hget hj hi (e ▸ h5))
    exact ⟨b', o', h5, by rw [hother b' hne]; exact h6, h7, h8⟩
  · intro j k bj bk c hj hk h5 h6
    exact h.inj j k bj bk c (old' _ _ hj).2 (old' _ _ hk).2 h5 h6
theorem leave_ok {K : Cfg} (hK : KOk K B w0) {fn : Func} {tmps : Array Value} {R : Ending → World → Prop} : ∀ {l : List AD} {ds : List Deferred} {S S' : St} {w : World},
    xLeave K.I l S = some S' → Rel K.G B w0 ε S w → DL ε l ds → (∀ w', Rel K.G B w0 ε S' w' → ∃ v, (results fn tmps).run K.P w' = .ok v w' ∧ R (.returned v) w') →
    LeavesInM Fence.wide 0 K.P fn tmps R ds .returning w
  | [], ds, S, S', w, hl, h, hd, hR => by
    simp [xLeave] at hl; subst hl
    cases ds with
    | nil => exact hR w h
    | cons => exact hd.elim
  | .idle f n :: l, ds, S, S', w, hl, h, hd, hR => by
    simp only [xLeave] at hl
    split at hl <;> try (simp at hl; done)
    rename_i hc
    rw [List.any_eq_true] at hc
    obtain ⟨p, hp, hpe⟩ := hc
    simp only [Bool.and_eq_true, decide_eq_true_eq] at hpe
    obtain ⟨rfl, rfl⟩ := hpe
    cases ds with
    | nil => exact hd.elim
    | cons d ds =>
      obtain ⟨⟨cap, hd1, hd2⟩, hd3⟩ := hd
      obtain ⟨hok, hcall⟩ := hK.idle p hp (d.args ++ cap) w (by simpa using hd2)
      refine ⟨by simp, .inr ⟨fun h0 => by simp [Fence.wide] at h0, .func p.1, cap, p.1, d.args ++ cap, hd1, ?_, fun g _ => trivial, ?_⟩⟩
      · rw [hd1]
        exact callFunc_enter hok _
      · refine CallsDIn.mono hcall fun e u' w' he => ?_
        obtain ⟨⟨v, rfl⟩, rfl, rfl⟩ := he
        exact leave_ok hK hl h hd3 hR
  | .coll i :: l, ds, S, S', w, hl, h, hd, hR => by
    simp only [xLeave] at hl
    split at hl <;> try (simp at hl; done)
    rename_i hget
    cases ds with
    | nil => exact hd.elim
    | cons d ds =>
      obtain ⟨⟨r, hd1, hd2⟩, hd3⟩ := hd
      obtain ⟨b, o, h1, h2, h3, h4⟩ := h.live _ _ hget
      rw [hd2] at h1
      simp at h1
      subst h1
      simp only [BR] at h3
      subst h3
      refine ⟨by simp, .inl ⟨r, _, hd1, run_takeDeferred h2, ?_⟩⟩
      exact leave_ok hK hl (h.forget hget rfl hd2 ⟨rfl, rfl, rfl, by simp⟩ (fun k hk => World.putObj_heap_other hk)) hd3 hR
theorem leave_base {I : List (FuncId × Nat)} : ∀ {l : List AD} {S S' : St}, xLeave I l S = some S' → S'.base = S.base ∧ S'.nxt = S.nxt
  | [], S, S', hl => by simp [xLeave] at hl; subst hl; exact ⟨rfl, rfl⟩
  | .idle f n :: l, S, S', hl => by
    simp only [xLeave] at hl
    split at hl <;> try (simp at hl; done)
    exact leave_base hl
  | .coll i :: l, S, S', hl => by
    simp only [xLeave] at hl
    split at hl <;> try (simp at hl; done)
    have := leave_base (S := S.put i none) hl
    exact this

theorem fact_mem : ∀ {F : Facts} {f : FuncId} {args : List AV} {v : AV}, fact F f args = some v → (f, args, v) ∈ F
  | [], f, args, v, h => by simp [fact] at h
  | (g, as, u) :: l, f, args, v, h => by
    simp only [fact] at h
    split at h
    · rename_i hg
      split at h
      · rename_i he
        simp at h
        subst hg; subst h
        rw [AVs.beq_eq _ _ he]
        exact List.mem_cons_self
      · exact List.mem_cons_of_mem _ (fact_mem h)
    · exact List.mem_cons_of_mem _ (fact_mem h)

theorem call_ok {K : Cfg} {r : Rec} (hK : KOk K B w0) (hr : ROk K B w0 r) {f : FuncId} {args : List AV} {out : Out} (hl : callF K r f args S = some out) : JobOk K B w0 (.call f args S) out := by
  unfold callF at hl
  split at hl
  · rename_i v hf
    simp at hl; subst hl
    refine ⟨v, rfl, rfl, rfl, rfl, fun ε w xs h hx => ?_⟩
    exact hK.facts _ (fact_mem hf) ε S w xs h hx
  · split at hl <;> try (simp at hl; done)
    rename_i fn hfn
    split at hl <;> try (simp at hl; done)
    rename_i c hc
    split at hl <;> try (simp at hl; done)
    rename_i e A1 S1 hne hrun
    unfold callRes at hl
    split at hl <;> try (simp at hl; done)
    rename_i S2 hlv
    split at hl <;> simp at hl
    rename_i vs hvs
    subst hl
    obtain ⟨hb, hrn, hw⟩ := hr _ _ hrun
    obtain ⟨hlb, hln⟩ := leave_base hlv
    refine ⟨packRes vs, rfl, rfl, rfl, rfl, fun ε w xs h hx => ?_⟩
    refine (callsIn_wide (n := 0)).1 (callsIn_of_wp_marks hfn hc trivial ?_)
    have hin : In K.G B w0 ε (into S) (args ++ List.replicate (fn.ntmps - args.length) (.tup [])) { tmps := xs.toArray ++ Array.replicate (fn.ntmps - xs.toArray.size) undef, defers := [] } w := by
      refine ⟨h.into, ?_, trivial⟩
      have hlen := γs_length hx
      simp only [Array.toList_append, Array.toList_replicate, List.size_toArray, hlen]
      exact γs_append hx (γs_replicate γ_undef _)
    refine wpIn_mono (hw ε _ w none hin rfl) fun e' a1 w1 hq => ?_
    obtain ⟨rfl, ε1, ha, hin1, hn⟩ := hq
    have key : LeavesInM Fence.wide 0 K.P fn a1.tmps (CPost K.G B w0 ε S (packRes vs) (back S vs S2)) a1.defers .returning w1 := by
      refine leave_ok hK hlv hin1.rel hin1.dl fun w' h2 => ?_
      obtain ⟨y, h3, h4⟩ := results_ok h2 hin1.tmps hvs
      refine ⟨y, h3, y, ε1, rfl, ha, h4, ?_, ?_⟩
      · exact h2.back (by rw [hlb, hb]; rfl) h.bov h.bba (by rw [hln]; exact hn)
      · show S.nxt ≤ S2.nxt
        rw [hln]; exact hn
    cases e with
    | normal => exact key
    | ret => exact key
    | exit id => exact (hne _ rfl).elim
end
end
end Go.Rx
/- The reflective executor, part 19: code. -/
namespace Go.Rx
open Go.RowKit
noncomputable section
section
variable {P : Program} {G B : Nat} {w0 w : World} {ε : Env} {S : St}

theorem XE.ne_normal {e : XE} (h : e ≠ .normal) : e.out ≠ .normal := by cases e <;> simp [XE.out] at *
theorem then_of_ne {K : Act → World → Prop} {Q : Exit → Act → World → Prop} {e : XE} (h : e ≠ .normal) {a : Act} {w : World} (hq : Q e.out a w) : Exit.then K Q e.out a w := by
  cases e <;> first | exact absurd rfl h | exact hq

theorem range_ok {K : Cfg} {r : Rec} (hK : KOk K B w0) (hr : ROk K B w0 r) {g : Operand} {ps : Array Tmp} {assign body : Code} {A : List AV} {out : Out} (hl : codeRange K r g ps assign body A S = some out) :
    JobOk K B w0 (.code (.rangeFunc g ps assign body) A S) out := by
  unfold codeRange at hl
  split at hl <;> try (simp at hl; done)
  rename_i f first captured hrnd hev
  split at hl <;> try (simp at hl; done)
  rename_i hfo
  split at hl <;> try (simp at hl; done)
  rename_i e1 vs1 S2 hc
  obtain ⟨v, rfl, hb2, hr2, hd2, hcall⟩ := hr _ _ hc
  unfold codeRange2 at hl
  split at hl <;> try (simp at hl; done)
  rename_i st pend hnb hlo
  split at hl <;> try (simp at hl; done)
  rename_i S3 hs3
  have h3 : S3.base = S2.base ∧ S3.rnd = S2.rnd ∧ S3.nxt = S2.nxt := by
    unfold lpSet at hs3
    split at hs3 <;> simp at hs3
    subst hs3
    exact ⟨rfl, rfl, rfl⟩
  have hbusy : st ≠ .busy := by rintro rfl; exact hnb rfl
  have hb3 : S3.base = S.base := h3.1.trans hb2
  have hr3 : S3.rnd = S.rnd := h3.2.1.trans hr2
  have main : ∀ (ε : Env) (a : Act) (w : World) (rr : Option Nat), In K.G B w0 ε S A a w → RN ε S.rnd rr → ∀ Q : Exit → Act → World → Prop,
      (∀ (ε3 : Env) (a' : Act) (w' : World), ε.agr S.nxt ε3 → S.nxt ≤ S3.nxt → In K.G B w0 ε3 { S3 with dl := .coll S.nxt :: S.dl } A a' w' →
        match pend with
        | none => Q .normal a' w'
        | some c => c.wpIn (FrS none) 0 K.P Q a' w') →
      (Code.rangeFunc g ps assign body).wpIn (FrS rr) 0 K.P Q a w := by
    intro ε a w rr h hrr Q hQ
    rw [hrnd] at hrr
    have hrr : rr = none := hrr
    subst hrr
    refine wpIn_rangeFunc fun fn _ => ?_
    have hfv := ev_γ h.rel h.ar hev
    simp only [γ, Option.bind_eq_some_iff, Option.map_eq_some_iff] at hfv
    obtain ⟨xs, h1, ys, h2, hfe⟩ := hfv
    have hrel1 := h.rel.alloc .dfr (.deferred (some [])) 0 (fun _ _ _ => rfl)
    have ag1 := Env.agr_set ε S.nxt w.heap.size 0
    have hD : (ε.set S.nxt w.heap.size 0).δ S.nxt = some w.heap.size := by simp [Env.set]
    have hrel2 := hrel1.alloc (.lp .ready none A ps assign body S.nxt)
      (.loop { state := .ready, pending := none, fn := fn, tmps := a.tmps, params := ps, assign := assign, body := body, defers := w.heap.size }) 0 (fun ε' ha _ => by
        have hD' : ε'.δ S.nxt = some w.heap.size := (hrel1.le ha S.nxt _ hD).1
        exact ⟨fn, a.tmps.toList, w.heap.size, γs_mono (hrel1.le ha) _ _ (γs_mono (h.rel.le ag1) _ _ h.tmps), hD', by simp⟩)
    generalize hε2 : (ε.set S.nxt w.heap.size 0).set (S.new .dfr).nxt (w.alloc (.deferred (some []))).heap.size 0 = ε2 at hrel2
    have ag2 : (ε.set S.nxt w.heap.size 0).agr (S.nxt + 1) ε2 := by rw [← hε2]; exact Env.agr_set _ _ _ _
    have agT : ε.agr S.nxt ε2 := Env.agr_trans ag1 ag2 (Nat.le_succ _)
    have hL : ε2.δ (S.nxt + 1) = some (w.heap.size + 1) := by
      rw [← hε2]
      simp [Env.set, St.nxt_new]
    have hD2 : ε2.δ S.nxt = some w.heap.size := by rw [(ag2 S.nxt (Nat.lt_succ_self _)).1, hD]
    have hargs : γs ε2 (first ++ [.yld (S.nxt + 1)] ++ captured) = some (xs ++ [Value.func (.yield (w.heap.size + 1)) #[] #[]] ++ ys) :=
      γs_append (γs_append (γs_mono (h.rel.le agT) _ _ h1) (γs_cons.2 ⟨_, [], by simp [γ, hL], rfl, rfl⟩)) (γs_mono (h.rel.le agT) _ _ h2)
    have hc2 := hcall ε2 _ _ hrel2 hargs
    refine ⟨w.heap.size + 1, _, _, { target := .fn (.func f) ys.toArray, args := xs.toArray ++ #[Value.func (.yield (w.heap.size + 1)) #[] #[]] }, (w.alloc (.deferred (some []))).alloc (.loop { state := .ready, pending := none, fn := fn, tmps := a.tmps, params := ps, assign := assign, body := body, defers := w.heap.size }), f, (xs ++ [Value.func (.yield (w.heap.size + 1)) #[] #[]] ++ ys).toArray, (w.alloc (.deferred (some []))).alloc (.loop { state := .ready, pending := none, fn := fn, tmps := a.tmps, params := ps, assign := assign, body := body, defers := w.heap.size }),
      run_enterLoop_outer fn a.tmps ps assign body, ?_, fun f' _ => trivial, ?_, fun h0 => by simp [FrS, Fence.wide] at h0, ?_⟩
    · simp only [resolve, ← hfe, Deferred.ofValue, Sem.run_pure]
      simp [Act.eval]
    · have e : (xs.toArray ++ #[Value.func (.yield (w.heap.size + 1)) #[] #[]]) ++ ys.toArray = (xs ++ [Value.func (.yield (w.heap.size + 1)) #[] #[]] ++ ys).toArray := by simp
      show (callFunc f ((xs.toArray ++ #[Value.func (.yield (w.heap.size + 1)) #[] #[]]) ++ ys.toArray)).run K.P _ = _
      rw [e]
      exact callFunc_enter hfo _
    · refine CallsIn.mono ((callsIn_wide (n := 0 - 1)).2 hc2) fun e w3 he => ?_
      obtain ⟨y, ε3, rfl, h5, h6, h7, h8⟩ := he
      have h5' : ε2.agr (S.nxt + 2) ε3 := h5
      have h8' : S.nxt + 2 ≤ S2.nxt := h8
      obtain ⟨l, rc, h9, h10, h11, h12, h13, h14, h15, h16, h17⟩ := lpSet_ok h7 hs3 hlo
      have hL3 : ε3.δ (S.nxt + 1) = some (w.heap.size + 1) := (h5' (S.nxt + 1) (by omega)).1.trans hL
      have hD3 : ε3.δ S.nxt = some w.heap.size := (h5' S.nxt (by omega)).1.trans hD2
      rw [hL3] at h9
      simp at h9
      subst h9
      have hend := run_endLoop (P := K.P) h10 (by rw [h11]; exact hbusy)
      have e3 : ({ rc with state := .exhausted, pending := pend } : Loop) = { rc with state := .exhausted } := by rw [← h12]
      rw [e3] at h13
      have ag3 : ε.agr S.nxt ε3 := Env.agr_trans agT h5' (by omega)
      have hin : In K.G B w0 ε3 { S3 with dl := .coll S.nxt :: S.dl } A { a with defers := [{ target := .collected w.heap.size, args := #[] }] ++ a.defers } (w3.putObj (w.heap.size + 1) (.loop { rc with state := .exhausted })) :=
        ⟨h13.congr rfl rfl rfl, γs_mono (h.rel.le ag3) _ _ h.tmps, ⟨⟨_, rfl, hD3⟩, h.dl.mono (h.rel.le ag3)⟩⟩
      have hq := hQ ε3 _ _ ag3 (by rw [h14]; omega) hin
      refine ⟨pend, _, by rw [← h12]; exact hend, ?_⟩
      cases pend with
      | none => exact hq
      | some c => exact hq
  split at hl
  · simp only [Option.some.injEq] at hl
    subst hl
    refine ⟨hb3, hr3, fun ε a w rr h hrr => main ε a w rr h hrr _ ?_⟩
    intro ε3 a' w' ha hn hin
    exact ⟨rfl, ε3, ha, hin, hn⟩
  · rename_i c
    obtain ⟨e, A', S'⟩ := out
    obtain ⟨hb4, hr4, hw4⟩ := hr _ _ hl
    refine ⟨hb4.trans hb3, hr4.trans hr3, fun ε a w rr h hrr => main ε a w rr h hrr _ ?_⟩
    intro ε3 a' w' ha hn hin
    refine wpIn_mono (hw4 ε3 a' w' none hin ?_) fun e' a2 w2 hq => ?_
    · show RN ε3 S3.rnd none
      rw [hr3, hrnd]; rfl
    · exact ⟨hq.1, hq.2.trans ha hn⟩

theorem rounds_ok {K : Cfg} {r : Rec} (hr : ROk K B w0 r) {c : Code} {A : List AV} {out : Out} (hl : roundsF r c (r (.code c A S)) = some out) : JobOk K B w0 (.rounds c A S) out := by
  unfold roundsF at hl
  obtain ⟨e, A', S'⟩ := out
  split at hl
  · rename_i A1 S1 h1
    obtain ⟨hb1, hr1, hw1⟩ := hr _ _ h1
    obtain ⟨hb2, hr2, m, hw2⟩ := hr _ _ hl
    refine ⟨hb2.trans hb1, hr2.trans hr1, m + 1, fun ε a w rr h hrr Q hQ => ?_⟩
    show c.wpIn (FrS rr) 0 K.P (Exit.then (Code.roundsIn (FrS rr) 0 K.P c Q m) Q) a w
    refine wpIn_mono (hw1 ε a w rr h hrr) fun e' a1 w1 hq => ?_
    obtain ⟨rfl, ε1, ha, hin, hn⟩ := hq
    refine hw2 ε1 a1 w1 rr hin (by rw [hr1]; exact hrr.mono ha (h.rel.le ha)) Q fun a' w' hp => hQ a' w' (hp.trans ha hn)
  · rename_i hne
    obtain ⟨hb1, hr1, hw1⟩ := hr _ _ hl
    have hen : e ≠ .normal := by rintro rfl; exact hne _ _ hl
    refine ⟨hb1, hr1, 1, fun ε a w rr h hrr Q hQ => ?_⟩
    show c.wpIn (FrS rr) 0 K.P (Exit.then (Code.roundsIn (FrS rr) 0 K.P c Q 0) Q) a w
    refine wpIn_mono (hw1 ε a w rr h hrr) fun e' a1 w1 hq => ?_
    obtain ⟨rfl, hp⟩ := hq
    exact then_of_ne hen (hQ _ _ hp)
end
end
end Go.Rx
/- The reflective executor, part 20: regions of drawn order. -/
namespace Go.Rx
open Go.RowKit
noncomputable section
section
variable {P : Program} {G B : Nat} {w0 w : World} {ε : Env} {S : St}

theorem mem_rdy {listed : Array Bool} : ∀ {l : List Oper} {k i : Nat}, i ∈ rdy listed l k ↔
    k ≤ i ∧ ∃ o, l[i - k]? = some o ∧ listed.getD i true = false ∧ ∀ e ∈ o.after, Region.binds .any e = true → listed.getD e.on false = true
  | [], k, i => by simp [rdy]
  | o :: l, k, i => by
    have ih := mem_rdy (listed := listed) (l := l) (k := k + 1) (i := i)
    have hcond : (!listed.getD k true && o.after.toList.all (fun e => !Region.binds .any e || listed.getD e.on false)) = true ↔
        (listed.getD k true = false ∧ ∀ e ∈ o.after, Region.binds .any e = true → listed.getD e.on false = true) := by
      simp only [Bool.and_eq_true, Bool.not_eq_true', List.all_eq_true, Bool.or_eq_true, Array.mem_toList_iff]
      constructor
      · rintro ⟨h1, h2⟩
        exact ⟨h1, fun e he hb => (h2 e he).resolve_left (by simp [hb])⟩
      · rintro ⟨h1, h2⟩
        refine ⟨h1, fun e he => ?_⟩
        cases hb : Region.binds .any e
        · exact .inl rfl
        · exact .inr (h2 e he hb)
    have tail : (k + 1 ≤ i ∧ ∃ o', l[i - (k + 1)]? = some o' ∧ listed.getD i true = false ∧ ∀ e ∈ o'.after, Region.binds .any e = true → listed.getD e.on false = true) ↔
        (k < i ∧ ∃ o', (o :: l)[i - k]? = some o' ∧ listed.getD i true = false ∧ ∀ e ∈ o'.after, Region.binds .any e = true → listed.getD e.on false = true) := by
      constructor
      · rintro ⟨h1, o', h2, h3⟩
        refine ⟨h1, o', ?_, h3⟩
        have : i - k = (i - (k + 1)) + 1 := by omega
        rw [this]; simpa using h2
      · rintro ⟨h1, o', h2, h3⟩
        refine ⟨h1, o', ?_, h3⟩
        have : i - k = (i - (k + 1)) + 1 := by omega
        rw [this] at h2; simpa using h2
    simp only [rdy]
    split
    · rename_i hc
      rw [List.mem_cons, ih, tail]
      constructor
      · rintro (rfl | ⟨h1, h2⟩)
        · exact ⟨Nat.le_refl _, o, by simp, hcond.1 hc⟩
        · exact ⟨Nat.le_of_lt h1, h2⟩
      · rintro ⟨h1, h2⟩
        rcases Nat.lt_or_eq_of_le h1 with h | h
        · exact .inr ⟨h, h2⟩
        · exact .inl h.symm
    · rename_i hc
      rw [ih, tail]
      constructor
      · rintro ⟨h1, h2⟩
        exact ⟨Nat.le_of_lt h1, h2⟩
      · rintro ⟨h1, h2⟩
        rcases Nat.lt_or_eq_of_le h1 with h | h
        · exact ⟨h, h2⟩
        · subst h
          obtain ⟨o', h3, h4⟩ := h2
          simp at h3
          subst h3
          exact absurd (hcond.2 h4) hc
theorem rdy_ready {all : Array Oper} {listed : Array Bool} {i : Nat} : i ∈ rdy listed all.toList 0 ↔ i ∈ Region.ready .any all listed := by
  rw [mem_rdy, mem_ready]
  simp only [Nat.zero_le, true_and, Nat.sub_zero, Array.getElem?_toList]
  constructor
  · rintro ⟨o, h1, h2, h3⟩; exact ⟨h2, o, h1, h3⟩
  · rintro ⟨h2, o, h1, h3⟩; exact ⟨o, h1, h2, h3⟩

theorem firstPure_spec {S0 : St} {W : List Nat} {all : Array Oper} {A : List AV} {j : Nat} {o : Oper} {v : AV} : ∀ {is : List Nat}, firstPure P G S0 W all A is = some (j, o, v) →
    j ∈ is ∧ all[j]? = some o ∧ ((xwanted all A o = true ∧ (xpure P G A o = some v ∨ xheld P G S0 W A o = some v)) ∨ (xwanted all A o = false ∧ v = .tup []))
  | [], h => by simp [firstPure] at h
  | i :: is, h => by
    simp only [firstPure] at h
    split at h
    · rename_i o1 ho
      split at h
      · rename_i hw
        split at h
        · rename_i u hu
          simp at h
          obtain ⟨rfl, rfl, rfl⟩ := h
          exact ⟨List.mem_cons_self, ho, .inl ⟨hw, .inl hu⟩⟩
        · split at h
          · rename_i u hu
            simp at h
            obtain ⟨rfl, rfl, rfl⟩ := h
            exact ⟨List.mem_cons_self, ho, .inl ⟨hw, .inr hu⟩⟩
          · obtain ⟨h1, h2⟩ := firstPure_spec h
            exact ⟨List.mem_cons_of_mem _ h1, h2⟩
      · rename_i hw
        simp at h
        obtain ⟨rfl, rfl, rfl⟩ := h
        exact ⟨List.mem_cons_self, ho, .inr ⟨by simpa using hw, rfl⟩⟩
    · obtain ⟨h1, h2⟩ := firstPure_spec h
      exact ⟨List.mem_cons_of_mem _ h1, h2⟩

theorem xLoad_kill {S0 : St} {W : List Nat} {t : TypeId} {i off : Nat} (hw : memN i W = false) : xLoad P t (.ptr i off) (kill W S0) = xLoad P t (.ptr i off) S0 := by
  have : ∀ n, (kill W S0).read i off n = S0.read i off n := by
    intro n
    simp only [St.read, get_kill, hw, Bool.false_eq_true, if_false]
  simp only [xLoad, this]
theorem held_yields {S0 : St} {W : List Nat} {all : Array Oper} {A : List AV} {a : Act} {ε0 : Env} (h0 : Rel G B w0 ε0 (kill W S0) w) (ha : ε0.agr S0.nxt ε) (h : In G B w0 ε S A a w) {o : Oper} {v : AV}
    (hl : xheld P G S0 W A o = some v) : ∃ y, γ ε v = some y ∧ ∀ w', SC G B w0 ε0 S0 W w' → (execOp a.eval o).run P w' = .ok (.value y) w' := by
  obtain ⟨dst, op, ty, pos, after, guard⟩ := o
  unfold xheld at hl
  simp only at hl
  split at hl <;> try (simp at hl; done)
  rename_i t x
  split at hl <;> try (simp at hl; done)
  rename_i i off hev
  split at hl <;> try (simp at hl; done)
  rename_i hw
  have hw : memN i W = false := by simpa using hw
  rw [← xLoad_kill hw] at hl
  have hx := ev_γ h.rel h.ar hev
  simp only [γ, Option.map_eq_some_iff] at hx
  obtain ⟨b, hb, hx⟩ := hx
  have hget : ∃ blk, (kill W S0).get i = some blk := by
    cases hg : (kill W S0).get i with
    | some blk => exact ⟨blk, rfl⟩
    | none =>
      simp only [xLoad, St.read, hg] at hl
      (repeat' split at hl) <;> simp at hl
  obtain ⟨blk, hget⟩ := hget
  obtain ⟨b0, o0, hb0, _⟩ := h0.live _ _ hget
  have hlt : i < S0.nxt := h0.lt hb0
  have hbb : ε0.δ i = some b := by rw [← (ha i hlt).1]; exact hb
  obtain ⟨y, h1, h2⟩ := loadVar_means (P := P) h0 hl hbb
  refine ⟨y, γ_mono (ha.le h0.free) _ _ h2, fun w' hs => ?_⟩
  obtain ⟨y', h3, h4⟩ := loadVar_means (P := P) hs hl hbb
  rw [h2] at h4
  simp at h4
  subst h4
  simp only [execOp, ← hx]
  simp [Instr.loadAt, Instr.sureAddr, h3]

theorem BR.back {ε0 ε1 : Env} {i : Nat} {b : ABlk} {o o0 : Obj} (h : BR ε1 i b o) (h0 : BR ε0 i b o0) (hle : ε0.le ε1) (hk : ε1.κ i = ε0.κ i) : BR ε0 i b o := by
  cases b with
  | cells cs elem opn wr =>
    obtain ⟨xs, extra, fr, h1, h2, h3, h4⟩ := h
    obtain ⟨xs0, _, _, h5, _⟩ := h0
    have := γs_mono hle _ _ h5
    rw [h1] at this
    simp at this
    subst this
    exact ⟨xs, extra, fr, h5, h2, h3, by cases opn <;> simp_all⟩
  | sit s pos => exact h
  | dfr => exact h
  | lp st pend A ps assign body D =>
    obtain ⟨fn, xs, d, h1, h2, h3⟩ := h
    obtain ⟨_, xs0, d0, h5, h6, _⟩ := h0
    have := γs_mono hle _ _ h5
    rw [h1] at this
    simp at this
    subst this
    have h7 := (hle _ _ h6).1
    rw [h2] at h7
    simp at h7
    subst h7
    exact ⟨fn, xs, d, h5, h6, h3⟩
theorem look_mem : ∀ {l : Bl} {i : Nat} {b : Option ABlk}, look l i = some b → (i, b) ∈ l
  | [], i, b, h => by simp [look] at h
  | (j, c) :: l, i, b, h => by
    simp only [look] at h
    split at h
    · rename_i hj; simp at h; subst hj; subst h; exact List.mem_cons_self
    · exact List.mem_cons_of_mem _ (look_mem h)
theorem obeq_eq {a b : Option ABlk} (h : obeq a b = true) : a = b := by
  cases a <;> cases b <;> simp [obeq] at h
  · rfl
  · rw [ABlk.beq_eq h]
theorem agree_rel {S0 : St} {W : List Nat} {ε0 : Env} {w' : World} (h0 : Rel G B w0 ε0 (kill W S0) w) (ha : ε0.agr S0.nxt ε) (h : Rel G B w0 ε S w') (hb : S.base = S0.base) (hag : agreeB S0 W S = true) :
    Rel G B w0 ε0 (kill W S0) w' := by
  simp only [agreeB, Bool.and_eq_true, List.all_eq_true] at hag
  obtain ⟨h1, h2⟩ := hag
  refine ⟨h.below, h.hB, h.gB, h0.gn, h0.glob, h0.free, h0.bov, h0.bba, ?_, h0.inj⟩
  intro i b hget
  obtain ⟨bl, o0, h3, h4, h5, h6⟩ := h0.live i b hget
  have hlt : i < S0.nxt := h0.lt h3
  rw [get_kill] at hget
  split at hget
  · simp at hget
  rename_i hw
  have hw : memN i W = false := by simpa using hw
  have hS : S.get i = some b := by
    simp only [St.get] at hget ⊢
    cases hl : look S0.ov i with
    | some x =>
      rw [hl] at hget
      simp only at hget
      subst hget
      have := h1 _ (look_mem hl)
      simp only [hw, Bool.false_or] at this
      cases hl2 : look S.ov i with
      | none => rw [hl2] at this; simp at this
      | some y =>
        rw [hl2] at this
        exact (obeq_eq this).symm
    | none =>
      rw [hl] at hget
      have hl2 : look S.ov i = none := by
        cases hl2 : look S.ov i with
        | none => rfl
        | some y =>
          have := h2 _ (look_mem hl2)
          simp only [hw, hl, Bool.or_false, decide_eq_true_eq, Option.isSome_none] at this
          omega
      rw [hl2, hb]
      exact hget
  obtain ⟨bl', o, h7, h8, h9, h10⟩ := h.live i b hS
  have hd : ε0.δ i = some bl' := by rw [← (ha i hlt).1]; exact h7
  exact ⟨bl', o, hd, h8, h9.back h5 (ha.le h0.free) (ha i hlt).2, h10⟩
end
end
end Go.Rx
/- The reflective executor, part 21: it is sound. -/
namespace Go.Rx
open Go.RowKit
noncomputable section
section
variable {P : Program} {G B : Nat} {w0 w : World} {ε : Env} {S : St}

theorem St.ext' {S S' : St} (h1 : S.ov = S'.ov) (h2 : S.base = S'.base) (h3 : S.nxt = S'.nxt) (h4 : S.dl = S'.dl) (h5 : S.rnd = S'.rnd) : S = S' := by
  cases S; cases S'; simp_all
theorem apartAll_spec {all : Array Oper} (h : apartAll all = true) {i j : Nat} {x y : Oper} (hx : all[i]? = some x) (hy : all[j]? = some y) (hne : i ≠ j) (h1 : hasEdge y i = false) (h2 : hasEdge x j = false) : x.apart all y = true := by
  simp only [apartAll, List.all_eq_true] at h
  have hxm : (x, i) ∈ all.toList.zipIdx := by
    rw [List.mem_zipIdx_iff_getElem?]; simpa using hx
  have hym : (y, j) ∈ all.toList.zipIdx := by
    rw [List.mem_zipIdx_iff_getElem?]; simpa using hy
  have := h _ hxm _ hym
  simpa [hne, h1, h2] using this
theorem hasEdge_false {o : Oper} {i : Nat} (h : ∀ e ∈ o.after, Region.binds .any e = true → e.on ≠ i) : hasEdge o i = false := by
  simp only [hasEdge, List.any_eq_false, Bool.and_eq_true, decide_eq_true_eq, not_and, Array.mem_toList_iff]
  exact h

theorem draw_ok {K : Cfg} {r : Rec} (_hK : KOk K B w0) (hr : ROk K B w0 r) {S0 : St} {W : List Nat} {all : Array Oper} {left : Nat} {listed : Array Bool} {A : List AV} {out : Out}
    (hl : drawF K r S0 W all left listed A S = some out) : JobOk K B w0 (.draw S0 W all left listed A S) out := by
  unfold drawF at hl
  split at hl
  · rename_i hrdy
    simp at hl; subst hl
    refine ⟨rfl, rfl, rfl, rfl, fun _ _ _ _ _ ε0 ε a w Q _ _ hin hQ _ => ?_⟩
    refine wpAnyH_done (Q := Q) ?_ (hQ a w (Post.refl hin)) left
    refine List.eq_nil_iff_forall_not_mem.2 fun i hi => ?_
    rw [← rdy_ready, hrdy] at hi
    cases hi
  · rename_i i is hrdy
    split at hl <;> try (simp at hl; done)
    rename_i left
    split at hl
    · rename_i j o v hfp
      obtain ⟨e, A', S'⟩ := out
      obtain ⟨he, hb, hrn, hdl, hN⟩ := hr _ _ hl
      obtain ⟨hj, ho, hcase⟩ := firstPure_spec hfp
      refine ⟨he, hb, hrn, hdl, fun hsel hap hbase hrnd hle ε0 ε a w Q ha0 h0 hin hQ hnp => ?_⟩
      obtain ⟨y, hy, hyi⟩ : ∃ y, γ ε v = some y ∧ YieldsIf K.P all (SC K.G B w0 ε0 S0 W) o y a := by
        rcases hcase with ⟨hw, hx | hx⟩ | ⟨hw, rfl⟩
        · obtain ⟨y, h1, h2⟩ := xpure_sound hin.rel hin.ar hx
          exact ⟨y, h2, .inl ⟨by rw [wanted_eq hin.tmps]; exact hw, fun w' _ => h1 w'⟩⟩
        · obtain ⟨y, h1, h2⟩ := held_yields (all := all) h0 ha0 hin hx
          exact ⟨y, h1, .inl ⟨by rw [wanted_eq hin.tmps]; exact hw, h2⟩⟩
        · exact ⟨undef, γ_undef, .inr ⟨by rw [wanted_eq hin.tmps]; exact hw, rfl⟩⟩
      have hjr : j ∈ Region.ready .any all listed := by rw [← rdy_ready, hrdy]; exact hj
      refine wpAnyH_first ho (Region.noSelect_spec hsel) (fun c a' w' h => (hnp _ _ _ h).elim) left listed a w ?_ hjr hyi h0 ?_
      · intro k ok hk hkj hun hno
        refine apartAll_spec hap ho hk (Ne.symm hkj) (hasEdge_false hno) ?_
        refine hasEdge_false fun e he' hbe heq => ?_
        obtain ⟨_, o2, ho2, hall⟩ := mem_ready.1 hjr
        rw [ho] at ho2
        simp at ho2
        subst ho2
        have h1 := hall e he' hbe
        rw [heq] at h1
        rcases Nat.lt_or_ge k listed.size with h' | h'
        · simp [h'] at h1 hun; rw [hun] at h1; cases h1
        · simp [Array.getElem?_eq_none h'] at h1
      · exact hN hsel hap hbase hrnd hle ε0 ε _ w Q ha0 h0 (hin.put hy _) hQ hnp
    · split at hl <;> try (simp at hl; done)
      rename_i e1 A1 S1 h1
      obtain ⟨he1, hb1, hr1, hd1, hN1⟩ := hr _ _ h1
      obtain ⟨e, A', S'⟩ := out
      obtain ⟨he, rfl, rfl, hN2⟩ := hr _ _ hl
      refine ⟨he, hb1, hr1, hd1, fun hsel hap hbase hrnd hle ε0 ε a w Q ha0 h0 hin hQ hnp => ?_⟩
      have hmem : ∀ k, k ∈ Region.ready .any all listed → k = i ∨ k ∈ is := by
        intro k hk
        rw [← rdy_ready, hrdy] at hk
        simpa using hk
      refine ⟨fun h => ?_, fun k hk => ?_⟩
      · have : i ∈ Region.ready .any all listed := by rw [← rdy_ready, hrdy]; exact List.mem_cons_self
        rw [h] at this
        cases this
      · rcases hmem k hk with rfl | hk'
        · exact hN1 hsel hap hbase hrnd hle ε0 ε a w Q ha0 h0 hin hQ hnp
        · exact hN2 hb1 hr1 hd1 hsel hap hbase hrnd hle ε0 ε a w Q ha0 h0 hin hQ hnp k hk'

theorem rest_ok {K : Cfg} {r : Rec} (hr : ROk K B w0 r) {S0 : St} {W : List Nat} {all : Array Oper} {left : Nat} {listed : Array Bool} {is : List Nat} {A A1 : List AV} {S1 : St} {out : Out}
    (hl : restF r S0 W all left listed is A S A1 S1 = some out) : JobOk K B w0 (.rest S0 W all left listed is A S A1 S1) out := by
  unfold restF at hl
  split at hl
  · simp at hl; subst hl
    exact ⟨rfl, rfl, rfl, fun _ _ _ _ _ _ _ _ _ _ _ _ _ _ _ _ _ _ i hi => by cases hi⟩
  · rename_i j js
    split at hl <;> try (simp at hl; done)
    rename_i e2 A2 S2 h2
    split at hl <;> try (simp at hl; done)
    rename_i hc
    simp only [Bool.and_eq_true, decide_eq_true_eq] at hc
    obtain ⟨⟨hc1, hc2⟩, hc3⟩ := hc
    obtain ⟨he2, hb2, hr2, hd2, hN⟩ := hr _ _ h2
    obtain ⟨e, A', S'⟩ := out
    obtain ⟨he, hA, hS, hN2⟩ := hr _ _ hl
    refine ⟨he, hA, hS, fun hb hrn hd hsel hap hbase hrnd hle ε0 ε a w Q ha0 h0 hin hQ hnp i hi => ?_⟩
    rcases List.mem_cons.1 hi with rfl | hi
    · have hS2 : S2 = S' := by
        rw [hS]
        exact St.ext' (Bl.beq_eq hc2) (hb2.trans hb.symm) hc3 (hd2.trans hd.symm) (hr2.trans hrn.symm)
      have hA2 : A2 = A' := by rw [hA]; exact AVs.beq_eq _ _ hc1
      subst hS2; subst hA2
      exact hN hsel hap hbase hrnd hle ε0 ε a w Q ha0 h0 hin hQ hnp
    · exact hN2 hb hrn hd hsel hap hbase hrnd hle ε0 ε a w Q ha0 h0 hin hQ hnp i hi

theorem one_ok {K : Cfg} {r : Rec} (hK : KOk K B w0) (hr : ROk K B w0 r) {S0 : St} {W : List Nat} {all : Array Oper} {left : Nat} {listed : Array Bool} {i : Nat} {A : List AV} {out : Out}
    (hl : oneF K r S0 W all left listed i A S = some out) : JobOk K B w0 (.one S0 W all left listed i A S) out := by
  unfold oneF at hl
  split at hl <;> try (simp at hl; done)
  rename_i o ho
  split at hl
  · rename_i hw
    split at hl <;> try (simp at hl; done)
    rename_i e1 A1 S1 hs
    split at hl <;> try (simp at hl; done)
    rename_i hag
    obtain ⟨e, A', S'⟩ := out
    obtain ⟨he, hb2, hr2, hd2, hN⟩ := hr _ _ hl
    obtain ⟨rfl, hb1, hr1, hd1, hd⟩ := step_ok hK hr hs
    refine ⟨he, hb2.trans hb1, hr2.trans hr1, hd2.trans (hd1 rfl), fun hsel hap hbase hrnd hle ε0 ε a w Q ha0 h0 hin hQ hnp => ?_⟩
    have hw' : Region.wanted o (yielded all a.tmps) = true := by rw [wanted_eq hin.tmps]; exact hw
    unfold wpOp
    simp only [ho, hw', if_true]
    refine .inl ((hd ε a w none hin (by rw [hrnd]; rfl)).wp fun a1 w1 hp => ?_)
    obtain ⟨ε1, h1, h2, h3⟩ := hp
    have ha1 : ε0.agr S0.nxt ε1 := Env.agr_trans ha0 h1 hle
    have h0' := agree_rel h0 ha1 h2.rel (hb1.trans hbase) hag
    exact ⟨h0', hN hsel hap (hb1.trans hbase) (hr1.trans hrnd) (Nat.le_trans hle h3) ε0 ε1 a1 w1 Q ha1 h0' h2 (fun a' w' hp' => hQ a' w' (hp'.trans h1 h3)) hnp⟩
  · rename_i hw
    obtain ⟨e, A', S'⟩ := out
    obtain ⟨he, hb2, hr2, hd2, hN⟩ := hr _ _ hl
    refine ⟨he, hb2, hr2, hd2, fun hsel hap hbase hrnd hle ε0 ε a w Q ha0 h0 hin hQ hnp => ?_⟩
    have hw' : Region.wanted o (yielded all a.tmps) = false := by rw [wanted_eq hin.tmps]; exact hw
    unfold wpOp
    simp only [ho, hw', Bool.false_eq_true, if_false]
    exact ⟨h0, hN hsel hap hbase hrnd hle ε0 ε _ w Q ha0 h0 (hin.put γ_undef _) hQ hnp⟩

theorem kill_rel (h : Rel G B w0 ε S w) (W : List Nat) : Rel G B w0 ε (kill W S) w := by
  refine h.sub rfl ?_ ?_ ?_
  · intro p hp
    simp only [kill, killB, List.mem_map] at hp
    obtain ⟨q, hq, rfl⟩ := hp
    exact h.bov q hq
  · intro p hp
    simp only [kill, killB, List.mem_map] at hp
    obtain ⟨q, hq, rfl⟩ := hp
    exact h.bba q hq
  · intro i b hb
    rw [get_kill] at hb
    split at hb
    · simp at hb
    · exact hb

theorem code_ok {K : Cfg} {r : Rec} (hK : KOk K B w0) (hr : ROk K B w0 r) {c : Code} {A : List AV} {out : Out} (hl : codeF K r c A S = some out) : JobOk K B w0 (.code c A S) out := by
  obtain ⟨e, A', S'⟩ := out
  unfold codeF at hl
  split at hl <;> try (simp at hl; done)
  · simp at hl; obtain ⟨rfl, rfl, rfl⟩ := hl
    exact ⟨rfl, rfl, fun ε a w rr h _ => wpIn_skip ⟨rfl, Post.refl h⟩⟩
  · simp at hl; obtain ⟨rfl, rfl, rfl⟩ := hl
    exact ⟨rfl, rfl, fun ε a w rr h _ => wpIn_label ⟨rfl, Post.refl h⟩⟩
  · rename_i x y
    unfold codeSeq at hl
    split at hl
    · rename_i A1 S1 h1
      obtain ⟨hb1, hr1, hw1⟩ := hr _ _ h1
      obtain ⟨hb2, hr2, hw2⟩ := hr _ _ hl
      refine ⟨hb2.trans hb1, hr2.trans hr1, fun ε a w rr h hrr => wpIn_seq ?_⟩
      refine wpIn_mono (hw1 ε a w rr h hrr) fun e' a1 w1 hq => ?_
      obtain ⟨rfl, ε1, ha, hin, hn⟩ := hq
      refine wpIn_mono (hw2 ε1 a1 w1 rr hin (by rw [hr1]; exact hrr.mono ha (h.rel.le ha))) fun e' a2 w2 hq => ?_
      exact ⟨hq.1, hq.2.trans ha hn⟩
    · rename_i hne
      obtain ⟨hb1, hr1, hw1⟩ := hr _ _ hl
      have hen : e ≠ .normal := by rintro rfl; exact hne _ _ hl
      refine ⟨hb1, hr1, fun ε a w rr h hrr => wpIn_seq ?_⟩
      refine wpIn_mono (hw1 ε a w rr h hrr) fun e' a1 w1 hq => ?_
      obtain ⟨rfl, hp⟩ := hq
      exact then_of_ne hen ⟨rfl, hp⟩
  · rename_i c x y
    unfold codeCond at hl
    split at hl <;> try (simp at hl; done)
    · rename_i hev
      obtain ⟨hb1, hr1, hw1⟩ := hr _ _ hl
      refine ⟨hb1, hr1, fun ε a w rr h hrr => ?_⟩
      have := ev_γ h.rel h.ar hev
      simp only [γ, Option.some.injEq] at this
      exact wpIn_cond_true this.symm (hw1 ε a w rr h hrr)
    · rename_i hev
      obtain ⟨hb1, hr1, hw1⟩ := hr _ _ hl
      refine ⟨hb1, hr1, fun ε a w rr h hrr => ?_⟩
      have := ev_γ h.rel h.ar hev
      simp only [γ, Option.some.injEq] at this
      exact wpIn_cond_false this.symm (hw1 ε a w rr h hrr)
  · rename_i id body
    unfold codeBlock at hl
    split at hl
    · rename_i id' A1 S1 h1
      simp only [Option.some.injEq, Prod.mk.injEq] at hl
      obtain ⟨rfl, rfl, rfl⟩ := hl
      obtain ⟨hb1, hr1, hw1⟩ := hr _ _ h1
      refine ⟨hb1, hr1, fun ε a w rr h hrr => wpIn_block ?_⟩
      refine wpIn_mono (hw1 ε a w rr h hrr) fun e' a1 w1 hq => ?_
      obtain ⟨rfl, hp⟩ := hq
      simp only [XE.out, Exit.inBlock]
      split
      · rename_i hid; simp [hid, hp]
      · rename_i hid; simp [hid, hp]
    · rename_i hne
      obtain ⟨hb1, hr1, hw1⟩ := hr _ _ hl
      refine ⟨hb1, hr1, fun ε a w rr h hrr => wpIn_block ?_⟩
      refine wpIn_mono (hw1 ε a w rr h hrr) fun e' a1 w1 hq => ?_
      obtain ⟨rfl, hp⟩ := hq
      cases e with
      | normal => exact ⟨rfl, hp⟩
      | ret => exact ⟨rfl, hp⟩
      | exit id' => exact (hne _ _ _ hl).elim
  · obtain ⟨hb1, hr1, m, hw1⟩ := hr _ _ hl
    exact ⟨hb1, hr1, fun ε a w rr h hrr => wpIn_loop_rounds m (hw1 ε a w rr h hrr _ fun a' w' hp => ⟨rfl, hp⟩)⟩
  · rename_i body
    split at hl <;> try (simp at hl; done)
    rename_i hrnd
    obtain ⟨hb1, hr1, hw1⟩ := hr _ _ hl
    refine ⟨hb1, hr1, fun ε a w rr h hrr => ?_⟩
    have hrr' := hrr
    rw [hrnd] at hrr'
    have hrr' : rr = none := hrr'
    subst hrr'
    refine (wpIn_wide (n := 0)).2 (wp_scope_straight ((wpIn_wide (n := 0)).1 ?_))
    refine wpIn_mono (hw1 ε a w none h hrr) fun e' a1 w1 hq => ?_
    obtain ⟨rfl, hp⟩ := hq
    cases e <;> exact ⟨rfl, hp⟩
  · simp at hl; obtain ⟨rfl, rfl, rfl⟩ := hl
    exact ⟨rfl, rfl, fun ε a w rr h _ => wpIn_exit ⟨rfl, Post.refl h⟩⟩
  · simp at hl; obtain ⟨rfl, rfl, rfl⟩ := hl
    exact ⟨rfl, rfl, fun ε a w rr h _ => wpIn_ret ⟨rfl, Post.refl h⟩⟩
  · obtain ⟨rfl, hb1, hr1, hw1⟩ := ops_ok hK hr hl
    exact ⟨hb1, hr1, fun ε a w rr h hrr => wpIn_region_list (hw1 ε a w rr h hrr _ fun a' w' hp => ⟨rfl, hp⟩)⟩
  · rename_i id ops
    unfold codeDraw at hl
    split at hl <;> try (simp at hl; done)
    rename_i hrnd hc
    simp only [Bool.and_eq_true] at hc
    split at hl <;> try (simp at hl; done)
    rename_i e1 A1 S1 hops
    obtain ⟨rfl, hb1, hr1, _, hN⟩ := hr _ _ hl
    refine ⟨hb1, hr1, fun ε a w rr h hrr => ?_⟩
    rw [hrnd] at hrr
    have hrr : rr = none := hrr
    subst hrr
    refine (wpIn_wide (n := 0)).2 (wp_region_held (S := SC K.G B w0 ε S (written S S1)) hK.mixed ?_)
    have hin : In K.G B w0 ε S A a w.drew := ⟨h.rel.drew, h.tmps, h.dl⟩
    exact hN hc.1 hc.2 rfl hrnd (Nat.le_refl _) ε ε a w.drew _ (Env.agr_refl _ _) (kill_rel hin.rel _) hin (fun a' w' hp => ⟨rfl, hp⟩) (fun c a w hq => by cases hq.1)
  · exact range_ok hK hr hl

/-- **The executor is sound.** -/
theorem X_ok {K : Cfg} (hK : KOk K B w0) : ∀ n, ROk K B w0 (X K n)
  | 0, job, out, h => by simp [X] at h
  | n + 1, job, out, h => by
    have hr := X_ok hK n
    have h : XF K (X K n) job = some out := h
    cases job with
    | code c A S => exact code_ok hK hr h
    | rounds c A S => exact rounds_ok hr h
    | call f args S => exact call_ok hK hr h
    | draw => exact draw_ok hK hr h
    | rest => exact rest_ok hr h
    | one => exact one_ok hK hr h
end
end
end Go.Rx
/- The reflective executor, part 22: the handlers of Ext4 are sound. -/
namespace Go.Rx
open Go.RowKit Go.Extern Go.Extern.Rtype
noncomputable section
section
variable {P : Program} {G B : Nat} {w0 w : World} {ε : Env} {S : St}

/-- f is the entry e. -/
def IsX (P : Program) (f : FuncId) (e : Array Value → Sem Value) : Prop := ∀ args w, (callFunc f args).run P w = ((e args).run P w).andThen fun v w' => .ok (.value v) w'
structure ExtIs (P : Program) (G : Nat) (no : ExtNo) : Prop where
  gs : P.globals.size < G
  same : IsX P no.same AbiNoEscape.same
  typeOf : IsX P no.typeOf ReflectliteType.typeOf
  valueOf : IsX P no.valueOf fun args => ReflectliteValue.unpack (args.getD 0 (.tuple #[]))
  typ : IsX P no.typ (ReflectliteValue.methodAny (ReflectliteValue.valueError "reflectlite.Value.Type" 0) fun t _ _ _ => ReflectliteType.toType t)
  isNil : IsX P no.isNil (ReflectliteValue.method (ReflectliteValue.valueError "reflectlite.Value.IsNil" 0) ReflectliteValue.isNil)
  elem : IsX P no.elem (ReflectliteValue.method (ReflectliteValue.valueError "reflectlite.Value.Elem" 0) ReflectliteValue.elem)
  set : IsX P no.set ReflectliteValue.set

theorem partsAny_eq (h : Value) (a : Addr) (n : Nat) : ReflectliteValue.partsAny (.agg #[h, .pointer (some a), .int .u64 (.ofNat (n + 1))]) = (do pure (some (← ofHandle h, a, n + 1))) := rfl
theorem methodAny_eq (z : Sem Value) (f : TypeId → Addr → Nat → Nat → Sem Value) (v : Value) :
    ReflectliteValue.methodAny z f #[v] = (do match ← ReflectliteValue.partsAny v with | none => z | some (t, a, fl) => f t a fl (fl % 32)) := rfl
theorem method_eq (z : Sem Value) (f : TypeId → Addr → Nat → Nat → Sem Value) (v : Value) :
    ReflectliteValue.method z f #[v] = (do match ← ReflectliteValue.parts v with | none => z | some (t, a, fl) => f t a fl (fl % 32)) := rfl
theorem same_eq (v : Value) : AbiNoEscape.same #[v] = pure v := rfl
theorem typeOf_eq (t : TypeId) (v : Value) : ReflectliteType.typeOf #[.iface t v] = ReflectliteType.toType t := rfl
theorem set_eq (v x : Value) : ReflectliteValue.set #[v, x] = (do
    let (some (dst, a, fl), some (src, b, _)) := (← ReflectliteValue.parts v, ← ReflectliteValue.parts x)
      | unsupported (.noEntry "extern/(internal/reflectlite.Value).Set.zeroValue")
    if fl / ReflectliteValue.flagAddr % 2 == 0 then unsupported (.noEntry "extern/(internal/reflectlite.Value).Set.unaddressable")
    let val ← loadVar src b
    if ← Rtype.directlyAssignable dst src then storeVar dst a val
    else if ← Rtype.implements dst src then
      if (← Rtype.kind src) == 20 then
        match val with
        | .nilIface => unsupported (.noEntry "extern/reflectlite: a nil value of one interface type handed on as a value of another")
        | _ => storeVar dst a val
      else storeVar dst a (.iface src val)
    else panicString ("reflectlite.Set: value of type " ++ (← Rtype.spelt src) ++ " is not assignable to type " ++ (← Rtype.spelt dst))
    pure (.tuple #[])) := rfl

theorem valAny_run (hgs : P.globals.size < G) (h : Rel G B w0 ε S w) {v : AV} {x : Value} (hx : γ ε v = some x) {t : TypeId} {i off fl : Nat} (hl : valAny P v = some (t, i, off, fl)) :
    ∃ b, ε.δ i = some b ∧ ∀ w, (ReflectliteValue.partsAny x).run P w = .ok (some (t, ⟨b, off, none⟩, fl)) w := by
  unfold valAny at hl
  split at hl <;> try (simp at hl; done)
  rename_i hh t' i' off' n
  split at hl <;> simp at hl
  rename_i hgl
  obtain ⟨rfl, rfl, rfl, rfl⟩ := hl
  subst hgl
  simp only [γ, Option.map_eq_some_iff] at hx
  obtain ⟨xs, h1, rfl⟩ := hx
  obtain ⟨x1, ys, h2, h3, rfl⟩ := γs_cons.1 h1
  obtain ⟨x2, zs, h4, h5, rfl⟩ := γs_cons.1 h3
  obtain ⟨x3, us, h6, h7, rfl⟩ := γs_cons.1 h5
  rw [γs_nil] at h7
  subst h7
  simp only [γ, h.glob _ hgs, Option.map_some, Option.some.injEq] at h2
  simp only [γ, Option.map_eq_some_iff] at h4
  obtain ⟨b, hb, rfl⟩ := h4
  simp only [γ, Option.some.injEq] at h6
  subst h2; subst h6
  refine ⟨b, hb, fun w => ?_⟩
  show (ReflectliteValue.partsAny (.agg #[_, _, _])).run P w = _
  rw [partsAny_eq]
  simp [ofHandle, handleType, Result.andThen]
theorem valParts_run (hgs : P.globals.size < G) (h : Rel G B w0 ε S w) {v : AV} {x : Value} (hx : γ ε v = some x) {t : TypeId} {i off fl : Nat} (hl : valParts P v = some (t, i, off, fl)) :
    ∃ b, ε.δ i = some b ∧ ∀ w, (ReflectliteValue.parts x).run P w = .ok (some (t, ⟨b, off, none⟩, fl)) w := by
  unfold valParts at hl
  split at hl <;> try (simp at hl; done)
  rename_i t' i' off' fl' hany
  split at hl <;> simp at hl
  rename_i hpk
  obtain ⟨rfl, rfl, rfl, rfl⟩ := hl
  obtain ⟨b, hb, hr⟩ := valAny_run hgs h hx hany
  refine ⟨b, hb, fun w => ?_⟩
  unfold ReflectliteValue.parts
  simp only [Sem.run_bind, hr w, Result.andThen_ok, Lib.rl_noPack _ _ hpk, Sem.run_pure]

theorem MeansX {f : FuncId} {e : Array Value → Sem Value} (he : IsX P f e) {args : Array Value} {v : AV} {S' : St} (h : MeansV G B w0 ε S ((e args).run P w) v S') : Means G B w0 ε S ((callFunc f args).run P w) (.val v S') := by
  obtain ⟨x, w', ε', h1, h2, h3, h4, h5⟩ := h
  refine ⟨x, w', ε', ?_, h2, h3, h4, h5⟩
  rw [he args w, h1]; rfl
theorem args1 {v : AV} {xs : List Value} (h : γs ε [v] = some xs) : ∃ x, xs = [x] ∧ γ ε v = some x := by
  obtain ⟨x, ys, h1, h2, rfl⟩ := γs_cons.1 h
  rw [γs_nil] at h2
  subst h2
  exact ⟨x, rfl, h1⟩

theorem ext_sound {no : ExtNo} (hN : ExtIs P G no) : EOk P G (xExt P G no) := by
  intro B w0 ε S w f args xs n h hx hl
  unfold xExt at hl
  split at hl
  · rename_i hf
    subst hf
    split at hl <;> simp at hl
    rename_i v
    subst hl
    obtain ⟨x, rfl, hv⟩ := args1 hx
    exact MeansX hN.same (MeansV.same h (by rw [show ([x] : List Value).toArray = #[x] from rfl, same_eq]; rfl) hv)
  · split at hl
    · rename_i hf
      subst hf
      split at hl <;> try (simp at hl; done)
      rename_i t v0
      split at hl <;> try (simp at hl; done)
      rename_i y hy
      split at hl <;> simp at hl
      rename_i u hu
      subst hl
      obtain ⟨x, rfl, hv⟩ := args1 hx
      simp only [γ, Option.map_eq_some_iff] at hv
      obtain ⟨z, _, rfl⟩ := hv
      have hr := pureM_run hy w
      rw [typeOf_eq] at hr
      exact MeansX hN.typeOf (MeansV.same h (by rw [show ([Value.iface t z] : List Value).toArray = #[.iface t z] from rfl, typeOf_eq]; exact hr) (cvg_sound h.glob 4 y u hu))
    · split at hl
      · rename_i hf
        subst hf
        split at hl <;> try (simp at hl; done)
        rename_i t v0
        split at hl <;> simp at hl
        rename_i k hk
        subst hl
        obtain ⟨x, rfl, hv⟩ := args1 hx
        simp only [γ, Option.map_eq_some_iff] at hv
        obtain ⟨z, hz, rfl⟩ := hv
        obtain ⟨ε', h1, h2, h3⟩ := h.newCells (γ_cells hz) t
        refine MeansX hN.valueOf ⟨.agg #[typeHandle P t, .pointer (some ⟨w.heap.size, 0, none⟩), .int .u64 (Int.ofNat (k + 128 + 0))], w.alloc (.cells z.cells t), ε', ?_, h1, ?_, h3, by simp [St.nxt_new]⟩
        · have hkr := pureM_run hk (w.alloc (.cells z.cells t))
          simp [ReflectliteValue.unpack, ReflectliteValue.mk, newVar_run, handle, hkr, Result.andThen, ReflectliteValue.flagIndir]
        · simp [γ, γs, h2, h3.glob _ hN.gs, typeHandle]
      · split at hl
        · rename_i hf
          subst hf
          split at hl <;> try (simp at hl; done)
          rename_i v0
          split at hl <;> try (simp at hl; done)
          rename_i t _ _ _ hva
          split at hl <;> try (simp at hl; done)
          rename_i y hy
          split at hl <;> simp at hl
          rename_i u hu
          subst hl
          obtain ⟨x, rfl, hv⟩ := args1 hx
          obtain ⟨b, hb, hr⟩ := valAny_run hN.gs h hv hva
          refine MeansX hN.typ (MeansV.same h ?_ (cvg_sound h.glob 4 y u hu))
          rw [show ([x] : List Value).toArray = #[x] from rfl, methodAny_eq]
          simp only [Sem.run_bind, hr w, Result.andThen_ok, pureM_run hy w]
        · split at hl
          · rename_i hf
            subst hf
            split at hl <;> try (simp at hl; done)
            rename_i v0
            split at hl <;> try (simp at hl; done)
            rename_i t i off fl hva
            split at hl <;> try (simp at hl; done)
            rename_i h22
            split at hl <;> simp at hl
            rename_i j o hld
            subst hl
            obtain ⟨x, rfl, hv⟩ := args1 hx
            obtain ⟨b, hb, hr⟩ := valParts_run hN.gs h hv hva
            obtain ⟨y, h1, h2⟩ := loadVar_means (P := P) h hld hb
            simp only [γ, Option.map_eq_some_iff] at h2
            obtain ⟨b2, _, rfl⟩ := h2
            refine MeansX hN.isNil (MeansV.same h ?_ (by simp [γ]) (x := .bool false))
            rw [show ([x] : List Value).toArray = #[x] from rfl, method_eq]
            simp only [Sem.run_bind, hr w, Result.andThen_ok, h22, ReflectliteValue.isNil]
            simp [h1]
          · split at hl
            · rename_i hf
              subst hf
              split at hl <;> try (simp at hl; done)
              rename_i v0
              split at hl <;> try (simp at hl; done)
              rename_i t i off fl hva
              split at hl <;> try (simp at hl; done)
              rename_i h22
              split at hl <;> try (simp at hl; done)
              rename_i j o e hld hel
              split at hl <;> simp at hl
              rename_i k hk
              subst hl
              obtain ⟨x, rfl, hv⟩ := args1 hx
              obtain ⟨b, hb, hr⟩ := valParts_run hN.gs h hv hva
              obtain ⟨y, h1, h2⟩ := loadVar_means (P := P) h hld hb
              simp only [γ, Option.map_eq_some_iff] at h2
              obtain ⟨b2, hb2, rfl⟩ := h2
              have hkr := pureM_run hk w
              have her := pureM_run hel w
              refine MeansX hN.elem (MeansV.same h ?_ (x := .agg #[typeHandle P e, .pointer (some ⟨b2, o, none⟩), .int .u64 (Int.ofNat (k + 128 + 256))]) (by simp [γ, γs, hb2, h.glob _ hN.gs, typeHandle]))
              rw [show ([x] : List Value).toArray = #[x] from rfl, method_eq]
              simp only [Sem.run_bind, hr w, Result.andThen_ok, h22, ReflectliteValue.elem]
              simp [h1, her, ReflectliteValue.mk, handle, hkr, ReflectliteValue.flagIndir, ReflectliteValue.flagAddr, Result.andThen]
            · split at hl
              · rename_i hf
                subst hf
                split at hl <;> try (simp at hl; done)
                rename_i v0 x0
                split at hl <;> try (simp at hl; done)
                rename_i dst i off fl src j o fl2 hv1 hv2
                split at hl <;> try (simp at hl; done)
                rename_i hfl
                split at hl <;> try (simp at hl; done)
                rename_i u hld hda
                split at hl <;> simp at hl
                rename_i S' hst
                subst hl
                obtain ⟨x, ys, h1, h2, rfl⟩ := γs_cons.1 hx
                obtain ⟨y, rfl, h3⟩ := args1 h2
                obtain ⟨b, hb, hr⟩ := valParts_run hN.gs h h1 hv1
                obtain ⟨c, hc, hr2⟩ := valParts_run hN.gs h h3 hv2
                obtain ⟨z, h4, h5⟩ := loadVar_means (P := P) h hld hc
                obtain ⟨w', h6, h7, h8⟩ := storeVar_means (P := P) h h5 hst hb
                have hdr := pureM_run hda w
                refine MeansX hN.set ⟨.tuple #[], w', ε, ?_, Env.agr_refl _ _, by simp [γ, γs], h7, by omega⟩
                rw [show ([x, y] : List Value).toArray = #[x, y] from rfl, set_eq]
                have hb1 : (fl / ReflectliteValue.flagAddr % 2 == 0) = false := by
                  simp only [ReflectliteValue.flagAddr, hfl]; rfl
                simp only [Sem.run_bind, hr w, hr2 w, Result.andThen_ok, hb1, Bool.false_eq_true, if_false, Sem.run_pure, h4, hdr, if_true, h6]
              · simp at hl
theorem ext_base {no : ExtNo} : EB (xExt P G no) := by
  intro f args S n hl
  unfold xExt at hl
  (repeat' split at hl)
  all_goals try (simp at hl; done)
  all_goals (simp at hl; subst hl)
  all_goals first | rfl | (exact store_base (by assumption))
end
end
end Go.Rx
/- The reflective executor, part 23: what a run tells of a call; facts out of runs. -/
namespace Go.Rx
open Go.RowKit
noncomputable section
section
variable {P : Program} {G B : Nat} {w0 w : World} {ε : Env} {S : St}

theorem run_calls {K : Cfg} (hK : KOk K B w0) {n : Nat} {f : FuncId} {args : List AV} {v : AV} {S' : St} {e : XE} (hrun : X K n (.call f args S) = some (e, [v], S')) (h : Rel K.G B w0 ε S w) {xs : List Value}
    (hx : γs ε args = some xs) : Calls K.P f xs.toArray w (CPost K.G B w0 ε S v S') := by
  obtain ⟨v', hv, _, _, _, hc⟩ := X_ok hK n _ _ hrun
  simp at hv
  subst hv
  exact hc ε w xs h hx

/-- The package-level variables are laid, below B, as M says; that of block Ml holds some int. -/
def Gb (G Ml B : Nat) (M : St) (w0 : World) : Prop := (∃ ε, Rel G B w0 ε M w0 ∧ ∀ i b, ε.δ i = some b → b < B) ∧ Ml < B ∧ ∃ m, w0.cell? ⟨Ml, 0, none⟩ = some (.int .i64 m)
/-- None of its blocks may be written. -/
def stillB : Bl → Bool
  | [] => true
  | (_, some b) :: l => !b.own && stillB l
  | (_, none) :: l => stillB l
theorem still_look : ∀ {l : Bl} {i : Nat} {b : ABlk}, stillB l = true → look l i = some (some b) → b.own = false
  | [], i, b, _, h => by simp [look] at h
  | (j, some c) :: l, i, b, hs, h => by
    simp only [stillB, Bool.and_eq_true, Bool.not_eq_true'] at hs
    simp only [look] at h
    split at h
    · simp at h; subst h; exact hs.1
    · exact still_look hs.2 h
  | (j, none) :: l, i, b, hs, h => by
    simp only [stillB] at hs
    simp only [look] at h
    split at h
    · simp at h
    · exact still_look hs h
theorem still_get {M : St} (h1 : stillB M.ov = true) (h2 : stillB M.base = true) {i : Nat} {b : ABlk} (h : M.get i = some b) : b.own = false := by
  unfold St.get at h
  split at h
  · rename_i c hc; subst h; exact still_look h1 hc
  · split at h
    · rename_i c hc; subst h; exact still_look h2 hc
    · simp at h
theorem Gb.later {Ml : Nat} {M : St} (h : Gb G Ml B M w0) (h1 : stillB M.ov = true) (h2 : stillB M.base = true) (hb : Below B w0 w) (hs : B ≤ w.heap.size) : Gb G Ml w.heap.size M w := by
  obtain ⟨⟨ε, hr, hlt⟩, hm1, m, hm2⟩ := h
  refine ⟨⟨ε, ⟨Below.refl _ _, Nat.le_refl _, Nat.le_trans hr.gB hs, hr.gn, hr.glob, hr.free, hr.bov, hr.bba, ?_, hr.inj⟩, fun i b hi => Nat.lt_of_lt_of_le (hlt i b hi) hs⟩, Nat.lt_of_lt_of_le hm1 hs, m, by simpa only [World.cell?, hb.block Ml hm1] using hm2⟩
  intro i b hget
  obtain ⟨bl, o, h3, h4, h5, _⟩ := hr.live i b hget
  refine ⟨bl, o, h3, by rw [hb.block bl (hlt i bl h3)]; exact h4, h5, fun ho => ?_⟩
  rw [still_get h1 h2 hget] at ho
  cases ho
theorem Rel.grown (h : Rel G B w0 ε S w) {w' : World} (hb : Below w.heap.size w w') : Rel G B w0 ε S w' := by
  have hsz := hb.size
  refine ⟨⟨hb.os.trans h.below.os, hb.tape.trans h.below.tape, hb.output.trans h.below.output, Nat.le_trans h.below.size hsz, fun k hk => (hb.block k (Nat.lt_of_lt_of_le hk h.hB)).trans (h.below.block k hk)⟩,
    Nat.le_trans h.hB hsz, h.gB, h.gn, h.glob, h.free, h.bov, h.bba, ?_, h.inj⟩
  intro i b hget
  obtain ⟨bl, o, h3, h4, h5, h6⟩ := h.live i b hget
  exact ⟨bl, o, h3, (hb.block bl (Array.getElem?_eq_some_iff.1 h4).1).trans h4, h5, h6⟩

/-- A fact holds wherever the variables are laid. -/
def FOk (P : Program) (G Ml : Nat) (M : St) (p : FuncId × List AV × AV) : Prop := ∀ (B : Nat) (w0 : World), Gb G Ml B M w0 → ∀ (ε : Env) (S : St) (w : World) (xs : List Value), Rel G B w0 ε S w → γs ε p.2.1 = some xs →
  Calls P p.1 xs.toArray w (CPost G B w0 ε S p.2.2 S)
theorem kok_mk {G Ml : Nat} {M : St} {E : Ext} {F : Facts} {I : List (FuncId × Nat)} (h1 : EOk P G E) (h2 : EB E) (h3 : P.follows .mixedOrders = true) (hF : ∀ p ∈ F, FOk P G Ml M p)
    (hI : ∀ p ∈ I, ∀ (args : Array Value) (w : World), args.size = p.2 → funcOk P p.1 = true ∧ CallsDIn Fence.wide 0 P p.1 args .returning w fun e u w' => (∃ v, e = .returned v) ∧ u = .returning ∧ w' = w)
    (B : Nat) (w0 : World) (h : Gb G Ml B M w0) : KOk ⟨P, G, E, F, I⟩ B w0 :=
  ⟨h1, h2, h3, fun p hp ε S w xs hr hx => hF p hp B w0 h ε S w xs hr hx, hI⟩
theorem fact_of_run {K : Cfg} {Ml : Nat} {M : St} (h1 : stillB M.ov = true) (h2 : stillB M.base = true) (hK : ∀ B w0, Gb K.G Ml B M w0 → KOk K B w0) {n : Nat} {f : FuncId} {args : List AV} {v : AV}
    (hrun : (X K n (.call f args M)).map (fun o => AVs.beq o.2.1 [v]) = some true) {xs0 : List Value} (ha : clos K.G args = some xs0) {y0 : Value} (hv : clo K.G v = some y0) : FOk K.P K.G Ml M (f, args, v) := by
  intro B w0 hgb ε S w xs h hx
  have hx0 := clos_γ (ε := ε) h.glob args xs0 ha
  have hxe : γs ε args = some xs := hx
  rw [hx0] at hxe
  simp at hxe
  subst hxe
  have hgb' := hgb.later h1 h2 h.below h.hB
  obtain ⟨⟨εm, hm, _⟩, _⟩ := hgb'
  cases hr : X K n (.call f args M) with
  | none => rw [hr] at hrun; simp at hrun
  | some o =>
    obtain ⟨e, vs, R⟩ := o
    rw [hr] at hrun
    simp only [Option.map_some, Option.some.injEq] at hrun
    have := AVs.beq_eq _ _ hrun
    subst this
    have hc := run_calls (hK _ _ (hgb.later h1 h2 h.below h.hB)) hr hm (clos_γ (ε := εm) hm.glob args xs0 ha)
    refine Calls.mono hc fun e' w' he => ?_
    obtain ⟨y, ε', h3, h4, h5, h6, h7⟩ := he
    refine ⟨y, ε, h3, Env.agr_refl _ _, ?_, h.grown h6.below, Nat.le_refl _⟩
    have hy := clo_γ (ε := ε') h6.glob v y0 hv
    rw [h5] at hy
    simp at hy
    subst hy
    exact clo_γ h.glob v y hv
end
end
end Go.Rx
/- What the cells of a variable are that reads as a datum without pointers: an array, a struct, of numbers and bools. -/
namespace Go.Rx
open Go.RowKit
def litV : Lit → Option Value
  | .bool b => some (.bool b)
  | .int k n => some (.int k n)
  | .float k b => some (.float k b)
  | _ => none
/-- The parts' cells, one behind the other, each of n cells. -/
def flatEach (f : DataW Unit → Option (List Value)) (n : Nat) : List (DataW Unit) → Option (List Value)
  | [] => some []
  | d :: ds => match f d with
    | some vs => if vs.length = n then match flatEach f n ds with
      | some us => some (vs ++ us)
      | none => none
      else none
    | none => none
/-- A struct's parts, the fields lying one behind the other from 'at' on. -/
def flatFields (P : Program) (f : TypeId → DataW Unit → Option (List Value)) : Nat → List Field → List (DataW Unit) → Option (List Value)
  | _, [], [] => some []
  | o, x :: xs, d :: ds => if x.offset = o then match f x.type d with
    | some vs => if vs.length = P.cellsOf x.type then match flatFields P f (o + vs.length) xs ds with
      | some us => some (vs ++ us)
      | none => none
      else none
    | none => none
    else none
  | _, _, _ => none
def flat (P : Program) : Nat → TypeId → DataW Unit → Option (List Value)
  | 0, _, _ => none
  | fuel + 1, t, d => match P.underlying t, d with
    | some .bool, .lit l => (match litV l with | some v => some [v] | none => none)
    | some (.int _), .lit l => (match litV l with | some v => some [v] | none => none)
    | some (.float _), .lit l => (match litV l with | some v => some [v] | none => none)
    | some (.array n e), .agg ds => if n * P.cellsOf e = P.cellsOf t then flatEach (flat P fuel e) (P.cellsOf e) ds else none
    | some (.struct fs), .agg ds => match flatFields P (flat P fuel) 0 fs.toList ds with
      | some vs => if vs.length = P.cellsOf t then some vs else none
      | none => none
    | _, _ => none
section
variable {P : Program} {w : World} {base : Nat} {sp : Nat → Bool} {held : Bool}
theorem each_ok {f : DataW Unit → Option (List Value)} {e : TypeId} {m : Nat} {cs : List Value}
    (hf : ∀ d vs fuel cs p, DataW.trod (fun _ => ()) P w base sp held fuel e cs = some (d, p) → f d = some vs → cs = vs) :
    ∀ (ds : List (DataW Unit)) (k : Nat) (us : List Value), (∀ (j : Nat) (d : DataW Unit), ds[j]? = some d → ∃ fuel p, DataW.trod (fun _ => ()) P w base sp held fuel e ((cs.drop ((k + j) * m)).take m) = some (d, p)) →
      flatEach f m ds = some us → us = (cs.drop (k * m)).take (ds.length * m)
  | [], k, us, _, h => by simp [flatEach] at h; subst h; simp
  | d :: ds, k, us, hd, h => by
    simp only [flatEach] at h
    split at h <;> try (simp at h; done)
    rename_i vs hvs
    split at h <;> try (simp at h; done)
    rename_i hlen
    split at h <;> simp at h
    rename_i qs hqs
    subst h
    obtain ⟨fuel, p, h0⟩ := hd 0 d rfl
    have e0 := hf d vs fuel _ p h0 hvs
    have ih := each_ok hf ds (k + 1) qs (fun j d' hj => by
      obtain ⟨fuel, p, h1⟩ := hd (j + 1) d' (by simpa using hj)
      exact ⟨fuel, p, by rw [← h1]; congr 3; rw [Nat.add_assoc, Nat.add_comm 1 j]⟩) hqs
    rw [ih, ← e0]
    simp only [Nat.add_zero, List.length_cons]
    rw [Nat.succ_mul k m, Nat.succ_mul ds.length m, Nat.add_comm (ds.length * m) m, List.take_add, List.drop_drop]
theorem fields_ok {f : TypeId → DataW Unit → Option (List Value)} {cs : List Value}
    (hf : ∀ t d vs fuel cs p, DataW.trod (fun _ => ()) P w base sp held fuel t cs = some (d, p) → f t d = some vs → cs = vs) :
    ∀ (fs : List Field) (ds : List (DataW Unit)) (o : Nat) (us : List Value),
      (∀ (j : Nat) (x : Field) (d : DataW Unit), fs[j]? = some x → ds[j]? = some d → ∃ fuel p, DataW.trod (fun _ => ()) P w base sp held fuel x.type ((cs.drop x.offset).take (P.cellsOf x.type)) = some (d, p)) →
      flatFields P f o fs ds = some us → us = (cs.drop o).take us.length
  | [], [], o, us, _, h => by simp [flatFields] at h; subst h; simp
  | [], _ :: _, o, us, _, h => by simp [flatFields] at h
  | _ :: _, [], o, us, _, h => by simp [flatFields] at h
  | x :: fs, d :: ds, o, us, hd, h => by
    simp only [flatFields] at h
    split at h <;> try (simp at h; done)
    rename_i ho
    split at h <;> try (simp at h; done)
    rename_i vs hvs
    split at h <;> try (simp at h; done)
    rename_i hlen
    split at h <;> simp at h
    rename_i qs hqs
    subst h
    obtain ⟨fuel, p, h0⟩ := hd 0 x d rfl rfl
    have e0 := hf x.type d vs fuel _ p h0 hvs
    have ih := fields_ok hf fs ds (o + vs.length) qs (fun j y d' hj hj' => hd (j + 1) y d' (by simpa using hj) (by simpa using hj')) hqs
    rw [List.length_append, List.take_add, List.drop_drop, ← ih]
    congr 1
    rw [← e0, ho]
    simp [hlen, ← e0, ho]
theorem flat_ok : ∀ (f : Nat) (t : TypeId) (d : DataW Unit) (vs : List Value) (fuel : Nat) (cs : List Value) (p : List MemPlace),
    DataW.trod (fun _ => ()) P w base sp held fuel t cs = some (d, p) → flat P f t d = some vs → cs = vs
  | 0, t, d, vs, fuel, cs, p, _, h => by simp [flat] at h
  | f + 1, t, d, vs, 0, cs, p, h, _ => by simp [DataW.trod] at h
  | f + 1, t, d, vs, fuel + 1, cs, p, ht, h => by
    simp only [flat] at h
    split at h <;> try (simp at h; done)
    · rename_i l hu
      simp only [DataW.trod, hu] at ht
      split at ht <;> try (simp_all; done)
      rename_i b heq _
      simp only [Option.some.injEq, Prod.mk.injEq, DataW.lit.injEq] at ht
      obtain ⟨rfl, rfl⟩ := ht
      simp only [litV, Option.some.injEq] at h
      exact h
    · rename_i k l hu
      simp only [DataW.trod, hu] at ht
      split at ht <;> try (simp_all; done)
      rename_i k0 k' n heq
      split at ht <;> try (simp at ht; done)
      simp only [Option.some.injEq, Prod.mk.injEq, DataW.lit.injEq] at ht
      obtain ⟨rfl, rfl⟩ := ht
      simp only [litV, Option.some.injEq] at h
      rename_i hk
      rw [← h, hk.1]
    · rename_i k l hu
      simp only [DataW.trod, hu] at ht
      split at ht <;> try (simp_all; done)
      rename_i k0 k' n heq
      split at ht <;> try (simp at ht; done)
      simp only [Option.some.injEq, Prod.mk.injEq, DataW.lit.injEq] at ht
      obtain ⟨rfl, rfl⟩ := ht
      simp only [litV, Option.some.injEq] at h
      rename_i hk
      rw [← h, hk.1]
    · rename_i n e ds hu
      split at h <;> try (simp at h; done)
      rename_i hsz
      simp only [DataW.trod, hu] at ht
      split at ht <;> try (simp at ht; done)
      rename_i hl
      obtain ⟨xs, hm, hx⟩ := Option.map_eq_some_iff.1 ht
      simp at hx
      obtain ⟨rfl, rfl⟩ := hx
      have hxl : xs.length = n := by simpa using Lib.mapM_length hm
      have := each_ok (cs := cs) (fun d vs fuel cs p => flat_ok f e d vs fuel cs p) (xs.map (·.1)) 0 vs (fun j d hj => by
        simp only [List.getElem?_map, Option.map_eq_some_iff] at hj
        obtain ⟨x, hx, rfl⟩ := hj
        have hjl : j < n := by rw [← hxl]; exact (List.getElem?_eq_some_iff.1 hx).1
        obtain ⟨b, hb1, hb2⟩ := Lib.mapM_at hm j j (by simp [hjl])
        rw [hx] at hb1
        simp at hb1
        subst hb1
        exact ⟨fuel, x.2, by simpa using hb2⟩) h
      rw [this]
      simp [hxl, hsz, ← hl]
    · rename_i fs ds hu
      split at h <;> try (simp at h; done)
      rename_i us hus
      split at h <;> simp at h
      rename_i hsz
      subst h
      simp only [DataW.trod, hu] at ht
      split at ht <;> try (simp at ht; done)
      rename_i hl
      obtain ⟨xs, hm, hx⟩ := Option.map_eq_some_iff.1 ht
      simp at hx
      obtain ⟨rfl, rfl⟩ := hx
      have := fields_ok (cs := cs) (fun t d vs fuel cs p => flat_ok f t d vs fuel cs p) fs.toList (xs.map (·.1)) 0 us (fun j x d hj hj' => by
        simp only [List.getElem?_map, Option.map_eq_some_iff] at hj'
        obtain ⟨y, hy, rfl⟩ := hj'
        obtain ⟨b, hb1, hb2⟩ := Lib.mapM_at hm j x hj
        rw [hy] at hb1
        simp at hb1
        subst hb1
        exact ⟨fuel, y.2, by simpa using hb2⟩) hus
      rw [this, hsz, ← hl]
      simp
end
end Go.Rx
/- The row's wrap where the row lists variables and the walk asks for the world's shape too. -/
namespace Go
theorem handed_and_shaped {H : Type} {enc : TypeId × Value → H} {a : Assume} {C : Checked} {os : Os} {f : FuncId} {fn : Func} {s : ChangeSpec} {conds : List PathCond} {apart fresh handsOn again : Bool} {X : World → Array Value → Prop}
    (hX : ∀ (w w' : World) (args : Array Value), w.heap = w'.heap → X w args → X w' args)
    (own : ownKnob C.prog.godebug = none) (started : os.Started) (noInit : C.prog.inits.idxOf? f = none) (hfn : C.prog.funcs[f]? = some fn)
    (witness : ∃ (w : World) (tape : Tape) (i : Input), w.os = os ∧ (w.forCall tape i).Shaped C.prog ∧ i.vars = [] ∧ Input.okWide C.prog (w.forCall tape i) .any w.heap.size f i ∧
      ((s.pre enc C.prog fn conds apart (w.forCall tape i).memory i.args ∧ X (w.forCall tape i).memory i.args) ∧ sizedMet enc C.prog fn (OpenSpec.ofChange s) apart (w.forCall tape i).memory i.args) ∧ a.holds C.prog (lone (Frame.enter C.prog f i.args .normal) [] (w.forCall tape i)))
    (contract : ∀ (W : World) (base : Nat) (args : Array Value) (ds gs : List (DataW H)) (before : List MemPlace),
      (∀ (j : Nat) t v, fn.params[j]? = some t → args[j]? = some v → Value.okWide C.prog W .any base t v) →
      DataW.Whole enc C.prog fn.params.toList s.vars apart W args.toList ds gs before →
      conds.all (PathCond.test C.prog ⟨fn.params.toList, ds, s.plain.varTypes C.prog, gs⟩) = true →
      (DataW.weightsEach C.prog (fn.params.toList ++ s.plain.varTypes C.prog) (ds ++ gs)).all (· ≤ reachBytes) = true → X W args → W.ShapedOpen C.prog →
      a.holds C.prog (lone (Frame.enter C.prog f args .normal) [] W) →
      Calls C.prog f args W fun e W' => ∃ v, e = .returned v ∧ s.post enc C.prog fn apart fresh handsOn again W args v W') :
    ReturnsInHanded a C os f .any (fun w args => (s.pre enc C.prog fn conds apart w args ∧ X w args) ∧ sizedMet enc C.prog fn (OpenSpec.ofChange s) apart w args) (s.post enc C.prog fn apart fresh handsOn again) := by
  refine returnsInHanded_of_calls own started noInit witness ?_
  intro w tape i _ hsh _ hok hpre hholds
  obtain ⟨_, _, _, fn', hfn', _, _, _, _, hval⟩ := hok
  have e : fn' = fn := Option.some.inj (hfn'.symm.trans hfn)
  subst e
  obtain ⟨⟨⟨ds, gs, before, hw, hc⟩, hx⟩, hz⟩ := hpre
  have hw' := DataW.Whole.of_heap (w' := w.forCall tape i) (by rfl) hw
  refine (contract (w.forCall tape i) w.heap.size i.args ds gs before hval hw' hc (hz.weights hw) (hX _ _ _ (by rfl) hx) hsh hholds).mono fun e W' ⟨v, he, hp⟩ => ?_
  subst he
  exact ChangeSpec.post_blind hp
end Go
