/- The reflective executor, part 16: what its jobs mean; single steps, lists of operations. -/
import Derived.Test.YtkpdfahdgodajaaGreatDoorRx15
namespace Go.Rx
open Go.RowKit
noncomputable section
section
variable {P : Program} {G B : Nat} {w0 w : World} {ε : Env} {S : St}

/-! ### Guards -/
theorem yielded_eq {all : Array Oper} {A : List AV} {a : Act} (hA : γs ε A = some a.tmps.toList) (j : Nat) : yielded all a.tmps j = xyield all A j := by
  unfold yielded xyield
  cases hd : (all[j]?).bind (·.dst) with
  | none => rfl
  | some t =>
    simp only [Option.bind_some]
    cases hg : A[t]? with
    | none =>
      have := γs_get_none hA hg
      have h2 : a.tmps[t]? = none := by simpa using this
      simp [h2]
    | some v =>
      obtain ⟨y, h1, h2⟩ := γs_get hA hg
      have h3 : a.tmps[t]? = some y := by simpa using h1
      rw [h3]
      cases v <;> simp only [γ, Option.map_eq_some_iff, Option.bind_eq_some_iff, Option.some.injEq] at h2
      case bool b => subst h2; rfl
      case str s => split at h2 <;> simp at h2; subst h2; rfl
      case ptr => obtain ⟨_, _, rfl⟩ := h2; rfl
      case slc => obtain ⟨_, _, rfl⟩ := h2; rfl
      case zs => obtain ⟨_, _, rfl⟩ := h2; rfl
      case yld => obtain ⟨_, _, rfl⟩ := h2; rfl
      case func => obtain ⟨_, _, _, _, rfl⟩ := h2; rfl
      case iface => obtain ⟨_, _, rfl⟩ := h2; rfl
      case agg => obtain ⟨_, _, rfl⟩ := h2; rfl
      case tup => obtain ⟨_, _, rfl⟩ := h2; rfl
      all_goals (subst h2; rfl)
theorem wanted_eq {all : Array Oper} {A : List AV} {a : Act} (hA : γs ε A = some a.tmps.toList) (o : Oper) : Region.wanted o (yielded all a.tmps) = xwanted all A o := by
  unfold Region.wanted xwanted
  cases o.guard with
  | none => rfl
  | some p =>
    obtain ⟨j, want⟩ := p
    simp only [yielded_eq hA]
    cases xyield all A j <;> simp

/-! ### Jobs -/
/-- A call's end. -/
def CPost (G B : Nat) (w0 : World) (ε : Env) (S : St) (v : AV) (S' : St) (e : Ending) (w' : World) : Prop :=
  ∃ y ε', e = .returned y ∧ ε.agr S.nxt ε' ∧ γ ε' v = some y ∧ Rel G B w0 ε' S' w' ∧ S.nxt ≤ S'.nxt
/-- The blocks that are not among W. -/
def killB (W : List Nat) (l : Bl) : Bl := l.map fun p => (p.1, if memN p.1 W then none else p.2)
def kill (W : List Nat) (S : St) : St := { ov := killB W S.ov, base := killB W S.base, nxt := S.nxt }
theorem look_killB (W : List Nat) : ∀ (l : Bl) (i : Nat), look (killB W l) i = (look l i).map fun b => if memN i W then none else b
  | [], i => rfl
  | (j, b) :: l, i => by
    have ih := look_killB W l i
    simp only [killB, List.map_cons, look] at ih ⊢
    by_cases h : j = i
    · subst h; simp
    · simpa [h] using ih
theorem get_kill (W : List Nat) (S : St) (i : Nat) : (kill W S).get i = if memN i W then none else S.get i := by
  simp only [St.get, kill, look_killB]
  cases look S.ov i with
  | some b => simp
  | none =>
    simp only [Option.map_none]
    cases look S.base i with
    | some b => simp
    | none => simp
/-- What a region of drawn order keeps. -/
def SC (G B : Nat) (w0 : World) (ε : Env) (S : St) (W : List Nat) (w : World) : Prop := Rel G B w0 ε (kill W S) w

def DrawOk (K : Cfg) (B : Nat) (w0 : World) (S0 : St) (W : List Nat) (all : Array Oper) (A : List AV) (S : St) (A' : List AV) (S' : St)
    (N : Env → (Exit → Act → World → Prop) → Act → World → Prop) : Prop :=
  Region.noSelect all = true → apartAll all = true → S.base = S0.base → S.rnd = none → S0.nxt ≤ S.nxt → ∀ (ε0 ε : Env) (a : Act) (w : World) (Q : Exit → Act → World → Prop), ε0.agr S0.nxt ε → Rel K.G B w0 ε0 (kill W S0) w → In K.G B w0 ε S A a w →
    (∀ a' w', Post K.G B w0 ε S A' S' a' w' → Q .normal a' w') → (∀ c a w, ¬ Q (.panic c) a w) → N ε0 Q a w

def JobOk (K : Cfg) (B : Nat) (w0 : World) : Job → Out → Prop
  | .code c A S, (e, A', S') => S'.base = S.base ∧ S'.rnd = S.rnd ∧ ∀ (ε : Env) (a : Act) (w : World) (r : Option Nat), In K.G B w0 ε S A a w → RN ε S.rnd r →
      c.wpIn (FrS r) 0 K.P (fun e' a' w' => e' = e.out ∧ Post K.G B w0 ε S A' S' a' w') a w
  | .rounds c A S, (e, A', S') => S'.base = S.base ∧ S'.rnd = S.rnd ∧ ∃ m, ∀ (ε : Env) (a : Act) (w : World) (r : Option Nat), In K.G B w0 ε S A a w → RN ε S.rnd r →
      ∀ Q : Exit → Act → World → Prop, (∀ a' w', Post K.G B w0 ε S A' S' a' w' → Q e.out a' w') → Code.roundsIn (FrS r) 0 K.P c Q m a w
  | .call f args S, (_, vs, S') => ∃ v, vs = [v] ∧ S'.base = S.base ∧ S'.rnd = S.rnd ∧ S'.dl = S.dl ∧ ∀ (ε : Env) (w : World) (xs : List Value), Rel K.G B w0 ε S w → γs ε args = some xs →
      Calls K.P f xs.toArray w (CPost K.G B w0 ε S v S')
  | .draw S0 W all left listed A S, (e, A', S') => e = .normal ∧ S'.base = S.base ∧ S'.rnd = S.rnd ∧ S'.dl = S.dl ∧ DrawOk K B w0 S0 W all A S A' S' fun ε0 Q a w => wpAnyH K.P .any all Q (SC K.G B w0 ε0 S0 W) left listed a w
  | .rest S0 W all left listed is A S A1 S1, (e, A', S') => e = .normal ∧ A' = A1 ∧ S' = S1 ∧ (S1.base = S.base → S1.rnd = S.rnd → S1.dl = S.dl → DrawOk K B w0 S0 W all A S A' S' fun ε0 Q a w =>
      ∀ i ∈ is, wpOp K.P all Q i (fun a' w' => SC K.G B w0 ε0 S0 W w' ∧ wpAnyH K.P .any all Q (SC K.G B w0 ε0 S0 W) left (listed.setIfInBounds i true) a' w') a w)
  | .one S0 W all left listed i A S, (e, A', S') => e = .normal ∧ S'.base = S.base ∧ S'.rnd = S.rnd ∧ S'.dl = S.dl ∧ DrawOk K B w0 S0 W all A S A' S' fun ε0 Q a w =>
      wpOp K.P all Q i (fun a' w' => SC K.G B w0 ε0 S0 W w' ∧ wpAnyH K.P .any all Q (SC K.G B w0 ε0 S0 W) left (listed.setIfInBounds i true) a' w') a w
def ROk (K : Cfg) (B : Nat) (w0 : World) (r : Rec) : Prop := ∀ job out, r job = some out → JobOk K B w0 job out
/-- What is asked of the table of the executor. -/
structure KOk (K : Cfg) (B : Nat) (w0 : World) : Prop where
  ext : EOk K.P K.G K.E
  base : EB K.E
  mixed : K.P.follows .mixedOrders = true
  facts : ∀ p ∈ K.F, ∀ (ε : Env) (S : St) (w : World) (xs : List Value), Rel K.G B w0 ε S w → γs ε p.2.1 = some xs → Calls K.P p.1 xs.toArray w (CPost K.G B w0 ε S p.2.2 S)
  idle : ∀ p ∈ K.I, ∀ (args : Array Value) (w : World), args.size = p.2 → funcOk K.P p.1 = true ∧ CallsDIn Fence.wide 0 K.P p.1 args .returning w fun e u w' => (∃ v, e = .returned v) ∧ u = .returning ∧ w' = w

/-! ### One operation -/
def Does (P : Program) (rd : Bool) (rr : Option Nat) (o : Oper) (a : Act) (w : World) (N : Act → World → Prop) : Prop :=
  match (execOp a.eval o).run P w with
  | .ok (.value v) w' => N (a.put o.dst v) w'
  | .ok .skip w' => N (a.put o.dst undef) w'
  | .ok (.enter f args) w' => Calls P f args w' fun e w'' => ∃ v, e = .returned v ∧ N (a.put o.dst v) w''
  | .ok (.defer d) w' => rd = true ∧ rr = none ∧ N ({ a with defers := d :: a.defers }.put o.dst undef) w'
  | .ok (.round l f tmps assign body) w' => rd = true ∧ RoundIn Fence.wide 0 P l f tmps assign body w' fun e w'' => ∃ v, e = .returned v ∧ N (a.put o.dst v) w''
  | _ => False
theorem Does.wp {rr : Option Nat} {o : Oper} {a : Act} {N K : Act → World → Prop} {Q : Exit → Act → World → Prop} (h : Does P false rr o a w N) (hk : ∀ a w, N a w → K a w) : o.wp P a w K Q := by
  unfold Does at h
  unfold Oper.wp
  generalize (execOp a.eval o).run P w = res at *
  cases res with
  | halt x w' => exact h.elim
  | ok n w' =>
    cases n <;> simp only at h <;> try (exact h.elim)
    case value v => exact hk _ _ h
    case skip => exact hk _ _ h
    case enter f args =>
      refine Calls.mono h fun e w'' he => ?_
      obtain ⟨v, rfl, hn⟩ := he
      exact hk _ _ hn
    case defer d => simp at h
    case round => simp at h
theorem execOp_defer {ρ : Operand → Value} {o : Oper} {c : Call} (ho : o.op = .defer c) : execOp ρ o = (do pure (.defer (← resolve ρ c o.type))) := by
  obtain ⟨dst, op, ty, pos, after, guard⟩ := o
  subst ho
  rfl
theorem Does.not_defer {rd : Bool} {l : Nat} {o : Oper} {a : Act} {N : Act → World → Prop} (h : Does P rd (some l) o a w N) (c : Call) : o.op ≠ .defer c := by
  intro ho
  unfold Does at h
  rw [execOp_defer ho] at h
  simp only [Sem.run_bind] at h
  generalize (resolve a.eval c o.type).run P w = res at *
  cases res with
  | halt x w' => exact h.elim
  | ok d w' => simp at h
theorem Does.wpIn {rd : Bool} {rr : Option Nat} {o : Oper} {a : Act} {N K : Act → World → Prop} {Q : Exit → Act → World → Prop} (h : Does P rd rr o a w N) (hk : ∀ a w, N a w → K a w) :
    o.wpIn (FrS rr) 0 P a w K Q := by
  refine ⟨fun f _ => trivial, ?_⟩
  have hs : Oper.semAt (FrS rr).round a.eval o = execOp a.eval o := by
    cases rr with
    | none => rfl
    | some l => exact Oper.semAt_some l _ _ h.not_defer
  rw [hs]
  unfold Does at h
  generalize (execOp a.eval o).run P w = res at *
  cases res with
  | halt x w' => exact h.elim
  | ok n w' =>
    cases n <;> simp only at h <;> try (exact h.elim)
    case value v => exact hk _ _ h
    case skip => exact hk _ _ h
    case enter f args =>
      refine ⟨fun h0 => by simp [FrS, Fence.wide] at h0, ?_⟩
      have h1 : CallsIn (FrS rr) (0 - 1) P f args w' _ := (callsIn_wide (n := 0 - 1)).2 h
      refine CallsIn.mono h1 fun e w'' he => ?_
      obtain ⟨v, rfl, hn⟩ := he
      exact hk _ _ hn
    case defer d => exact hk _ _ h.2.2
    case round l f tmps assign body =>
      refine ⟨fun h0 => by simp [FrS, Fence.wide] at h0, ?_⟩
      refine RoundIn.mono h.2 fun e w'' he => ?_
      obtain ⟨v, rfl, hn⟩ := he
      exact hk _ _ hn
end
end
end Go.Rx
