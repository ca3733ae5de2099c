/- The executor with an oracle, part 6: guards, single operations, lists of operations. -/
import Derived.Test.YtlealmffhmhchaaGreatDoorEyA
import Derived.Scope
namespace Go.Ex
open Go.RowKit
noncomputable section
section
variable {P : Program} {G B : Nat} {w0 w : World} {ε : Env} {S : St}

/-! ### Guards -/
theorem gd_ok {all : Array Oper} {A A1 : List AV} {S1 : St} {o : Oper} (hl : gd all A S o = some (A1, S1)) :
    Ahead S S1 ∧ (plains S1.obl → ∀ (G B : Nat) (w0 : World) (ε : Env) (a : Act) (w : World), In G B w0 ε S A a w → In G B w0 ε S1 A1 a w) := by
  have same : A = A1 → S = S1 → Ahead S S1 ∧ (plains S1.obl → ∀ (G B : Nat) (w0 : World) (ε : Env) (a : Act) (w : World), In G B w0 ε S A a w → In G B w0 ε S1 A1 a w) := by
    rintro rfl rfl
    exact ⟨Ahead.refl _, fun _ _ _ _ _ _ _ h => h⟩
  unfold gd at hl
  split at hl
  · rename_i t x hg
    split at hl
    · rename_i b hA
      split at hl <;> simp at hl
      rename_i o' S' hb
      obtain ⟨rfl, rfl⟩ := hl
      obtain ⟨e1, e2⟩ := takeBr_ahead hb
      refine ⟨e1, fun hp G B w0 ε a w h => ?_⟩
      have hbo := e2 hp
      subst hbo
      have h' := h.sm e1.sm
      refine ⟨h'.rel, ?_, h'.dl⟩
      obtain ⟨y, h1, h2⟩ := γs_get h'.tmps hA
      simp only [γ] at h2
      have h3 := γs_set h'.tmps t (v := .bool b) (x := y) (by simp only [γ]; exact h2)
      rw [setN_eq]
      have e : a.tmps.toList.set t y = a.tmps.toList := by
        have hlt : t < a.tmps.toList.length := (List.getElem?_eq_some_iff.1 h1).1
        have := (List.getElem?_eq_some_iff.1 h1).2
        rw [← this]
        exact List.set_getElem_self hlt
      rwa [e] at h3
    · simp at hl; exact same hl.1 hl.2
  · simp at hl; exact same hl.1 hl.2
theorem wanted_eq {all : Array Oper} {A : List AV} {a : Act} (hA : γs ε A a.tmps.toList) {o : Oper} {b : Bool} (hw : xwanted all A o = some b) : Region.wanted o (yielded all a.tmps) = b := by
  unfold xwanted at hw
  unfold Region.wanted
  cases hgd : o.guard with
  | none => rw [hgd] at hw; simpa using hw
  | some p =>
    obtain ⟨j, want⟩ := p
    rw [hgd] at hw
    simp only at hw ⊢
    unfold xyield at hw
    unfold yielded
    cases hd : (all[j]?).bind (·.dst) with
    | none => rw [hd] at hw; simp at hw; subst hw; simp
    | some t =>
      rw [hd] at hw
      simp only [Option.bind_some] at hw ⊢
      cases hg : A[t]? with
      | none => rw [hg] at hw; simp at hw
      | some v =>
        rw [hg] at hw
        obtain ⟨y, h1, h2⟩ := γs_get hA hg
        have h3 : a.tmps[t]? = some y := by simpa using h1
        rw [h3]
        cases v <;> simp at hw
        case bool c => simp only [γ] at h2; subst h2; subst hw; simp
        case sb c => simp only [γ] at h2; subst h2; subst hw; simp
        case tup l => simp only [γ] at h2; obtain ⟨_, _, rfl⟩ := h2; subst hw; simp

/-! ### One operation -/
def Does (P : Program) (rd : Bool) (rr : Option Nat) (o : Oper) (a : Act) (w : World) (N : Act → World → Prop) : Prop :=
  match (execOp a.eval o).run P w with
  | .ok (.value v) w' => N (a.put o.dst v) w'
  | .ok .skip w' => N (a.put o.dst undef) w'
  | .ok (.enter f args) w' => Calls P f args w' fun e w'' => ∃ v, e = .returned v ∧ N (a.put o.dst v) w''
  | .ok (.defer d) w' => rd = true ∧ rr = none ∧ N ({ a with defers := d :: a.defers }.put o.dst undef) w'
  | .ok (.round l f tmps assign body) w' => rd = true ∧ RoundIn Fence.wide 0 P l f tmps assign body w' fun e w'' => ∃ v, e = .returned v ∧ N (a.put o.dst v) w''
  | _ => False
theorem Does.mono {rd : Bool} {rr : Option Nat} {o : Oper} {a : Act} {N N' : Act → World → Prop} (h : Does P rd rr o a w N) (hk : ∀ a w, N a w → N' a w) : Does P rd rr o a w N' := by
  unfold Does at h ⊢
  generalize (execOp a.eval o).run P w = res at *
  cases res with
  | halt x w' => exact h.elim
  | ok n w' =>
    cases n <;> simp only at h ⊢ <;> try (exact h.elim)
    case value v => exact hk _ _ h
    case skip => exact hk _ _ h
    case enter f args => exact Calls.mono h fun e w'' ⟨v, he, hn⟩ => ⟨v, he, hk _ _ hn⟩
    case defer d => exact ⟨h.1, h.2.1, hk _ _ h.2.2⟩
    case round => exact ⟨h.1, RoundIn.mono h.2 fun e w'' ⟨v, he, hn⟩ => ⟨v, he, hk _ _ hn⟩⟩
theorem Does.wp {rr : Option Nat} {o : Oper} {a : Act} {N K : Act → World → Prop} {Q : Exit → Act → World → Prop} (h : Does P false rr o a w N) (hk : ∀ a w, N a w → K a w) : o.wp P a w K Q := by
  unfold Does at h
  unfold Oper.wp
  generalize (execOp a.eval o).run P w = res at *
  cases res with
  | halt x w' => exact h.elim
  | ok n w' =>
    cases n <;> simp only at h <;> try (exact h.elim)
    case value v => exact hk _ _ h
    case skip => exact hk _ _ h
    case enter f args =>
      refine Calls.mono h fun e w'' he => ?_
      obtain ⟨v, rfl, hn⟩ := he
      exact hk _ _ hn
    case defer d => simp at h
    case round => simp at h
theorem execOp_defer {ρ : Operand → Value} {o : Oper} {c : Call} (ho : o.op = .defer c) : execOp ρ o = (do pure (.defer (← resolve ρ c o.type))) := by
  obtain ⟨dst, op, ty, pos, after, guard⟩ := o
  subst ho
  rfl
theorem Does.not_defer {rd : Bool} {l : Nat} {o : Oper} {a : Act} {N : Act → World → Prop} (h : Does P rd (some l) o a w N) (c : Call) : o.op ≠ .defer c := by
  intro ho
  unfold Does at h
  rw [execOp_defer ho] at h
  simp only [Sem.run_bind] at h
  generalize (resolve a.eval c o.type).run P w = res at *
  cases res with
  | halt x w' => exact h.elim
  | ok d w' => simp at h
theorem Does.wpIn {rd : Bool} {rr : Option Nat} {o : Oper} {a : Act} {N K : Act → World → Prop} {Q : Exit → Act → World → Prop} (h : Does P rd rr o a w N) (hk : ∀ a w, N a w → K a w) :
    o.wpIn (FrS rr) 0 P a w K Q := by
  refine ⟨fun f _ => trivial, ?_⟩
  have hs : Oper.semAt (FrS rr).round a.eval o = execOp a.eval o := by
    cases rr with
    | none => rfl
    | some l => exact Oper.semAt_some l _ _ h.not_defer
  rw [hs]
  unfold Does at h
  generalize (execOp a.eval o).run P w = res at *
  cases res with
  | halt x w' => exact h.elim
  | ok n w' =>
    cases n <;> simp only at h <;> try (exact h.elim)
    case value v => exact hk _ _ h
    case skip => exact hk _ _ h
    case enter f args =>
      refine ⟨fun h0 => by simp [FrS, Fence.wide] at h0, ?_⟩
      have h1 : CallsIn (FrS rr) (0 - 1) P f args w' _ := (callsIn_wide (n := 0 - 1)).2 h
      refine CallsIn.mono h1 fun e w'' he => ?_
      obtain ⟨v, rfl, hn⟩ := he
      exact hk _ _ hn
    case defer d => exact hk _ _ h.2.2
    case round l f tmps assign body =>
      refine ⟨fun h0 => by simp [FrS, Fence.wide] at h0, ?_⟩
      refine RoundIn.mono h.2 fun e w'' he => ?_
      obtain ⟨v, rfl, hn⟩ := he
      exact hk _ _ hn

/-! ### Pure calls -/
theorem pureTo_run (h : Rel G B w0 ε S w) {ds : List Deferred} {A : List AV} {a : Act} (ha : AR ε ds A a) {o : Oper} {c : Call} (ho : o.op = .call c) {f : FuncId} {args : List AV} (hl : pureTo P G A c = some (f, args)) :
    ∃ xs, γs ε args xs ∧ (execOp a.eval o).run P w = .ok (.enter f xs.toArray) w := by
  obtain ⟨dst, op, ty, pos, after, guard⟩ := o
  simp only at ho
  subst ho
  unfold pureTo at hl
  split at hl <;> try (simp at hl; done)
  rename_i as hargs
  have hx := evs_γ h ha hargs
  have hmap : (c.args.map a.eval) = (c.args.toList.map a.eval).toArray := by apply Array.ext'; simp
  split at hl <;> try (simp at hl; done)
  · rename_i g hg
    split at hl <;> try (simp at hl; done)
    rename_i g' first captured hev
    split at hl <;> simp at hl
    rename_i hok
    obtain ⟨rfl, rfl⟩ := hl
    have hfv := ev_γ h ha hev
    simp only [γ] at hfv
    obtain ⟨xs, h1, ys, h2, h3⟩ := hfv
    refine ⟨xs ++ c.args.toList.map a.eval ++ ys, by rw [← List.append_assoc]; exact γs_append (γs_append h1 hx) h2, ?_⟩
    have e : ((do let d ← resolve a.eval c ty; invoke d.target d.args : Sem Next).run P w) = (callFunc g' (xs ++ c.args.toList.map a.eval ++ ys).toArray).run P w := by
      simp only [resolve, hg, Sem.run_bind, h3, Deferred.ofValue, Sem.run_pure, Result.andThen_ok, invoke, hmap]
      simp
    show (do let d ← resolve a.eval c ty; invoke d.target d.args : Sem Next).run P w = _
    rw [e]
    exact callFunc_enter hok _
  · rename_i r name hr
    split at hl <;> try (simp at hl; done)
    rename_i t v hev
    split at hl <;> try (simp at hl; done)
    rename_i f' u hm
    split at hl <;> simp at hl
    rename_i hok
    obtain ⟨rfl, rfl⟩ := hl
    have hrv := ev_γ h ha hev
    simp only [γ] at hrv
    obtain ⟨y, h1, h2⟩ := hrv
    obtain ⟨z, h4, h3⟩ := method_run (w := w) h1 hm
    refine ⟨z :: c.args.toList.map a.eval, γs_cons.2 ⟨z, _, h4, hx, rfl⟩, ?_⟩
    have e : ((do let d ← resolve a.eval c ty; invoke d.target d.args : Sem Next).run P w) = (callFunc f' (z :: c.args.toList.map a.eval).toArray).run P w := by
      have e2 : #[a.eval r] ++ c.args.map a.eval = (a.eval r :: c.args.toList.map a.eval).toArray := by rw [hmap]; simp
      simp only [resolve, hr, Sem.run_bind, Sem.run_pure, Result.andThen_ok, e2, invoke_method]
      rw [h2]
      simp only [callMethod, Sem.run_bind, run_program, Result.andThen_ok, h3]
      congr 2
      simp
    show (do let d ← resolve a.eval c ty; invoke d.target d.args : Sem Next).run P w = _
    rw [e]
    exact callFunc_enter hok _
theorem pure_ok {K : Cfg} {o : Oper} {A : List AV} {v : AV} {S' : St} (hl : pureF K o A S = some (v, S')) :
    Ahead S S' ∧ (Oks K.P K.G B w0 S'.obl → ∀ (rd : Bool) (ε : Env) (a : Act) (w : World) (rr : Option Nat), In K.G B w0 ε S A a w →
      Does K.P rd rr o a w fun a' w' => Below w.heap.size w w' ∧ Post K.G B w0 ε S (xput A o.dst v) S' a' w') := by
  unfold pureF at hl
  split at hl <;> try (simp at hl; done)
  rename_i c ho
  split at hl <;> try (simp at hl; done)
  rename_i v' rest horc
  split at hl <;> simp at hl
  rename_i f args hp
  obtain ⟨hcl, rfl, rfl⟩ := hl
  have ah : Ahead S { S with orc := rest, obl := .pure f args v' :: S.obl } := ⟨rfl, rfl, rfl, rfl, rfl, [_], rfl⟩
  refine ⟨ah, fun hO rd ε a w rr h => ?_⟩
  have hpure : PureOk K.P K.G B w0 f args v' := hO (.pure f args v') (by simp)
  obtain ⟨xs, hx, hrun⟩ := pureTo_run h.rel h.ar ho hp
  unfold Does
  rw [hrun]
  refine Calls.mono (hpure ε w xs h.rel.stand (clBs_γ (by rw [h.rel.eG]; exact h.rel.glob) _ _ (by rw [h.rel.eG]; exact hcl) hx)) fun e w' he => ?_
  obtain ⟨y, ε', rfl, hm, hy, hb, hmem⟩ := he
  refine ⟨y, rfl, hb, ε', hm.agr _, ?_, Nat.le_refl _⟩
  exact ((h.sm ah.sm).mono (S' := { S with orc := rest, obl := .pure f args v' :: S.obl }) (hm.agr _) ((h.rel.more hm hb hmem).congr rfl rfl rfl) rfl).put (γ_mono (h.rel.more hm hb hmem).cl _ _ hy) _
end
end
end Go.Ex
/- The executor with an oracle, part 7: one operation, with the calls and the rounds that it makes; a list of operations. -/
namespace Go.Ex
open Go.RowKit
noncomputable section
section
variable {P : Program} {G B : Nat} {w0 w : World} {ε : Env} {S : St}

theorem lpSet_ok (h : Rel G B w0 ε S w) {i : Nat} {st st0 : LoopState} {pend pend0 : Option Code} {S' : St} (hl : lpSet S i st pend = some S') (h0 : loopOf S i = some (st0, pend0)) :
    ∃ l r, ε.δ i = some l ∧ w.heap[l]? = some (.loop r) ∧ r.state = st0 ∧ r.pending = pend0 ∧ Rel G B w0 ε S' (w.putObj l (.loop { r with state := st, pending := pend })) ∧
      S'.nxt = S.nxt ∧ Gro S S' ∧ S'.dl = S.dl := by
  unfold lpSet at hl
  unfold loopOf at h0
  split at hl <;> simp at hl
  rename_i st1 pend1 A ps assign body D hget
  rw [hget] at h0
  simp at h0
  obtain ⟨rfl, rfl⟩ := h0
  obtain ⟨b, o, h1, h2, ⟨fn, xs, d, h3, h4, rfl⟩, h5⟩ := h.live _ _ hget
  subst hl
  have hlt := (Array.getElem?_eq_some_iff.1 h2).1
  refine ⟨b, _, h1, h2, rfl, rfl, ?_, rfl, ⟨rfl, rfl, [], rfl⟩, rfl⟩
  exact h.setBlk hget rfl h1 ⟨rfl, rfl, rfl, by simp⟩ (fun k hk => World.putObj_heap_other hk) (World.putObj_heap_same hlt) ⟨fn, xs, d, h3, h4, rfl⟩
theorem loopOf_lpSet {i : Nat} {st : LoopState} {pend : Option Code} {S' : St} (hl : lpSet S i st pend = some S') : ∃ x, loopOf S i = some x := by
  unfold lpSet at hl
  unfold loopOf
  split at hl <;> simp at hl
  exact ⟨_, rfl⟩

theorem lpSet_gro {i : Nat} {st : LoopState} {pend : Option Code} {S' : St} (hl : lpSet S i st pend = some S') : Gro S S' ∧ S'.nxt = S.nxt := by
  unfold lpSet at hl
  split at hl <;> simp at hl
  subst hl
  exact ⟨⟨rfl, rfl, [], rfl⟩, rfl⟩

theorem step_ok {K : Cfg} {r : Rec} (hK : KOk K) (hr : ROk K B w0 r) {rd : Bool} {o : Oper} {A A' : List AV} {S' : St} {e : XE} (hl : stepF K r rd o A S = some (e, A', S')) :
    e = .normal ∧ Gro S S' ∧ (rd = false → S'.dl = S.dl) ∧ (Oks K.P K.G B w0 S'.obl → ∀ (ε : Env) (a : Act) (w : World) (rr : Option Nat), In K.G B w0 ε S A a w → RN ε S.rnd rr →
      Does K.P rd rr o a w (Post K.G B w0 ε S A' S')) := by
  unfold stepF at hl
  split at hl <;> try (simp at hl; done)
  rename_i n hn
  obtain ⟨hbase, hobl, _⟩ := xop_base hK.base hn
  have means : ∀ (ε : Env) (a : Act) (w : World), In K.G B w0 ε S A a w → Means K.G B w0 ε S ((execOp a.eval o).run K.P w) n := fun ε a w h => xop_means h.rel hK.ext h.ar hn
  cases n with
  | val v S1 =>
    simp only [stepN, Option.some.injEq, Prod.mk.injEq] at hl
    obtain ⟨rfl, rfl, rfl⟩ := hl
    refine ⟨rfl, ⟨hbase, rfl, [], hobl⟩, fun _ => rfl, fun _ ε a w rr h _ => ?_⟩
    obtain ⟨x, w', ε', h1, h2, h3, h4, h5⟩ := means ε a w h
    unfold Does
    rw [h1]
    exact ⟨ε', h2, (h.mono (S' := S.of S1) h2 (h4.congr rfl rfl rfl) rfl).put h3 _, h5⟩
  | unit S1 =>
    simp only [stepN, Option.some.injEq, Prod.mk.injEq] at hl
    obtain ⟨rfl, rfl, rfl⟩ := hl
    refine ⟨rfl, ⟨hbase, rfl, [], hobl⟩, fun _ => rfl, fun _ ε a w rr h _ => ?_⟩
    obtain ⟨w', ε', h1, h2, h4, h5⟩ := means ε a w h
    unfold Does
    rw [h1]
    exact ⟨ε', h2, (h.mono (S' := S.of S1) h2 (h4.congr rfl rfl rfl) rfl).put γ_undef _, h5⟩
  | enter f args S1 =>
    simp only [stepN] at hl
    split at hl <;> simp at hl
    rename_i e' v S2 hc
    obtain ⟨rfl, rfl, rfl⟩ := hl
    obtain ⟨v', hv, hg, hdl, hcall⟩ := hr _ _ hc
    simp at hv
    subst hv
    have g1 : Gro S (S.of S1) := ⟨hbase, rfl, [], hobl⟩
    refine ⟨rfl, g1.trans hg, fun _ => hdl, fun hO ε a w rr h _ => ?_⟩
    obtain ⟨xs, w', ε', h1, h2, h3, h4, h5⟩ := means ε a w h
    unfold Does
    rw [h1]
    refine Calls.mono (hcall hO ε' w' xs (h4.congr rfl rfl rfl) h3) fun e w'' he => ?_
    obtain ⟨y, ε2, h6, h7, h8, h9, h10⟩ := he
    have h7' : ε'.agr S1.nxt ε2 := h7
    have h10' : S1.nxt ≤ S2.nxt := h10
    refine ⟨y, h6, ε2, Env.agr_trans h2 h7' h5, (h.mono (Env.agr_trans h2 h7' h5) h9 hdl).put h8 _, Nat.le_trans h5 h10'⟩
  | dfr d S1 =>
    simp only [stepN] at hl
    split at hl <;> simp at hl
    rename_i hrnd
    obtain ⟨rfl, rfl, rfl⟩ := hl
    refine ⟨rfl, ⟨hbase, rfl, [], hobl⟩, fun h => by simp at h, fun _ ε a w rr h hrr => ?_⟩
    obtain ⟨x, w', h1, h2, h4, h5⟩ := means ε a w h
    unfold Does
    rw [h1]
    rw [hrnd] at hrr
    refine ⟨rfl, hrr, ε, Env.agr_refl _ _, ?_, h5⟩
    have hi : In K.G B w0 ε { S.of S1 with dl := d :: S.dl } A { a with defers := x :: a.defers } w' := ⟨h4.congr rfl rfl rfl, h.tmps, ⟨h2, h.dl⟩⟩
    exact hi.put γ_undef _
  | round i A1 assign body S1 =>
    simp only [stepN] at hl
    split at hl <;> try (simp at hl; done)
    rename_i A2 S2 hc1
    split at hl <;> try (simp at hl; done)
    rename_i pend hlo
    split at hl <;> try (simp at hl; done)
    rename_i S3 hs3
    split at hl <;> try (simp at hl; done)
    rename_i e4 A4 S4 hc2
    split at hl <;> simp at hl
    rename_i S5 hs5
    obtain ⟨rfl, rfl, rfl⟩ := hl
    obtain ⟨hg2, hw2⟩ := hr _ _ hc1
    obtain ⟨hg4, hw4⟩ := hr _ _ hc2
    obtain ⟨hg3, hn3'⟩ := lpSet_gro hs3
    obtain ⟨hg5, hn5'⟩ := lpSet_gro hs5
    have gT : Gro { S1 with dl := [], rnd := some i } S5 := ((hg2.trans hg3).trans hg4).trans hg5
    have gF : Gro S (S.of S5) := by
      obtain ⟨l, hl⟩ := gT.obl
      exact ⟨gT.base.trans hbase, rfl, l, by show S5.obl = _; rw [hl]; show l ++ S1.obl = _; rw [show S1.obl = S.obl from hobl]⟩
    refine ⟨rfl, gF, fun h => by simp at h, fun hO ε a w rr h hrr => ?_⟩
    have hO5 : Oks K.P K.G B w0 S5.obl := hO
    have hO4 := hg5.oks hO5
    have hO2 := (hg3.trans hg4).oks hO4
    obtain ⟨l, fn, xs, w', ε1, h1, h2, h3, h4, h5, h6⟩ := means ε a w h
    unfold Does
    rw [h1]
    refine ⟨rfl, roundIn_of_wpIn (F := Fence.wide) trivial ?_⟩
    have hin1 : In K.G B w0 ε1 { S1 with dl := [], rnd := some i } A1 { tmps := xs.toArray, defers := [] } w' := ⟨h5.congr rfl rfl rfl, by simpa using h4, trivial⟩
    have hwp := hw2 hO2 ε1 _ w' (some l) hin1 ⟨l, rfl, h3⟩
    refine wpIn_mono hwp fun e' a1 w1 hq => ?_
    obtain ⟨rfl, ε2, ha2, hin2, hn2⟩ := hq
    have ha2' : ε1.agr S1.nxt ε2 := ha2
    obtain ⟨l', rc, h7, h8, h9, h10, h11, h12, h13, h15⟩ := lpSet_ok hin2.rel hs3 hlo
    have hl2 : ε2.δ i = some l := ((h5.le ha2').d i l h3).1
    rw [hl2] at h7
    simp at h7
    subst h7
    refine ⟨_, run_beginRound h8 h9, ?_⟩
    have e3 : ({ rc with state := .busy, pending := pend } : Loop) = { rc with state := .busy } := by rw [← h10]
    rw [e3] at h11
    have hin3 : In K.G B w0 ε2 S3 A2 a1 (w1.putObj l (.loop { rc with state := .busy })) := ⟨h11, hin2.tmps, by rw [h15]; exact hin2.dl⟩
    have hrn3 : S3.rnd = some i := by rw [hg3.rnd, hg2.rnd]
    have hwp2 := hw4 hO4 ε2 a1 _ (some l) hin3 (by rw [hrn3]; exact ⟨l, rfl, hl2⟩)
    refine wpIn_mono hwp2 fun e' a2 w2 hq => ?_
    obtain ⟨rfl, ε3, ha3, hin4, hn4⟩ := hq
    obtain ⟨x0, hx0⟩ := loopOf_lpSet hs5
    obtain ⟨l', rc2, h16, h17, h18, h19, h20, h21, h22, h24⟩ := lpSet_ok (st0 := x0.1) (pend0 := x0.2) hin4.rel hs5 hx0
    have ha3' : ε2.agr S3.nxt ε3 := ha3
    have hl3 : ε3.δ i = some l := ((hin3.rel.le ha3').d i l hl2).1
    rw [hl3] at h16
    simp at h16
    subst h16
    have hend := run_endRound (P := K.P) e4.jump h17
    have hn2' : S1.nxt ≤ S2.nxt := hn2
    have hn3 : S.nxt ≤ S3.nxt := by rw [hn3']; exact Nat.le_trans h6 hn2'
    have haT : ε.agr S.nxt ε3 := Env.agr_trans (Env.agr_trans h2 ha2' h6) ha3' hn3
    have hfin : Post K.G B w0 ε S (xput A o.dst (.bool e4.jump.isNone)) (S.of S5) (a.put o.dst (.bool e4.jump.isNone)) (w2.putObj l (.loop { rc2 with state := if e4.jump.isNone then .ready else .done, pending := e4.jump })) := by
      refine ⟨ε3, haT, (h.mono (S' := S.of S5) haT (h20.congr rfl rfl rfl) rfl).put (by simp [γ]) _, ?_⟩
      show S.nxt ≤ S5.nxt
      rw [h21]
      exact Nat.le_trans hn3 hn4
    cases e4 with
    | normal => exact ⟨_, _, hend, _, rfl, hfin⟩
    | ret => exact ⟨_, _, hend, _, rfl, hfin⟩
    | exit id => exact ⟨_, _, hend, _, rfl, hfin⟩

theorem st_ahead {A : List AV} {o : Oper} {v : AV} {S' : St} (hl : st P G A o S = some (v, S')) : Ahead S S' := by
  have plain : ∀ {v : AV} {S1 : St}, (stPlain P G A o).map (fun v => (v, S)) = some (v, S1) → Ahead S S1 := by
    intro v S1 hv
    simp only [Option.map_eq_some_iff, Prod.mk.injEq] at hv
    obtain ⟨_, _, _, rfl⟩ := hv
    exact Ahead.refl _
  have okay : ∀ {p : Prop} {g : St → AV × St} {v : AV} {S1 : St}, (∀ S, (g S).2 = S) → (takeOk p S).map g = some (v, S1) → Ahead S S1 := by
    intro p g v S1 hg hv
    simp only [Option.map_eq_some_iff] at hv
    obtain ⟨S2, h1, h2⟩ := hv
    have := hg S2
    rw [h2] at this
    simp only at this
    subst this
    exact (takeOk_ahead h1).1
  unfold st at hl
  split at hl
  · unfold stPick at hl
    split at hl <;> try (simp at hl; done)
    · simp only [Option.map_eq_some_iff, Prod.mk.injEq] at hl
      obtain ⟨_, _, _, rfl⟩ := hl
      exact Ahead.refl _
    · split at hl <;> try (simp at hl; done)
      rename_i o' S1 hb
      simp only [Option.map_eq_some_iff, Prod.mk.injEq] at hl
      obtain ⟨_, _, _, rfl⟩ := hl
      exact (takeBr_ahead hb).1
  · split at hl
    · split at hl
      · rename_i r hr
        simp at hl; subst hl
        unfold stOk at hr
        (repeat' split at hr) <;> first | (simp at hr; done) | exact okay (fun _ => rfl) hr
      · exact plain hl
    · exact plain hl
theorem st_ok {K : Cfg} {o : Oper} {A : List AV} {v : AV} {S' : St} (hl : st K.P K.G A o S = some (v, S')) :
    Ahead S S' ∧ (plains S'.obl → ∀ (B : Nat) (w0 : World) (ε : Env) (a : Act) (w : World), In K.G B w0 ε S A a w → ∃ y, γ ε v y ∧ (∀ w, (isLd o = true → Mem ε w) → (execOp a.eval o).run K.P w = .ok (.value y) w)) := by
  refine ⟨st_ahead hl, fun hp B w0 ε a w h => ?_⟩
  obtain ⟨y, h1, h2⟩ := (st_sound h.rel h.ar hl).2 hp
  exact ⟨y, h2, h1⟩
theorem op_ok {K : Cfg} {r : Rec} (hK : KOk K) (hr : ROk K B w0 r) {rd : Bool} {o : Oper} {A A' : List AV} {S' : St} {e : XE} (hl : opF K r rd o A S = some (e, A', S')) :
    e = .normal ∧ Gro S S' ∧ (rd = false → S'.dl = S.dl) ∧ (Oks K.P K.G B w0 S'.obl → ∀ (ε : Env) (a : Act) (w : World) (rr : Option Nat), In K.G B w0 ε S A a w → RN ε S.rnd rr →
      Does K.P rd rr o a w (Post K.G B w0 ε S A' S')) := by
  unfold opF at hl
  split at hl
  · rename_i v S1 hs
    simp only [Option.some.injEq, Prod.mk.injEq] at hl
    obtain ⟨rfl, rfl, rfl⟩ := hl
    obtain ⟨ah, h1⟩ := st_ok hs
    refine ⟨rfl, ah.gro, fun _ => ah.dl, fun hO ε a w rr h _ => ?_⟩
    obtain ⟨y, hy, hrun⟩ := h1 hO.plain B w0 ε a w h
    unfold Does
    rw [hrun w fun _ => h.rel.mem]
    exact ⟨ε, Env.agr_refl _ _, (h.sm ah.sm).put hy _, by rw [ah.nxt]; exact Nat.le_refl _⟩
  · split at hl
    · rename_i v S1 hs
      simp only [Option.some.injEq, Prod.mk.injEq] at hl
      obtain ⟨rfl, rfl, rfl⟩ := hl
      obtain ⟨ah, h1⟩ := pure_ok (B := B) (w0 := w0) hs
      exact ⟨rfl, ah.gro, fun _ => ah.dl, fun hO ε a w rr h _ => (h1 hO rd ε a w rr h).mono fun _ _ h => h.2⟩
    · exact step_ok hK hr hl

theorem ops_ok {K : Cfg} {r : Rec} (hK : KOk K) (hr : ROk K B w0 r) {all : Array Oper} : ∀ {l : List Oper} {A A' : List AV} {S S' : St} {e : XE}, opsF K r all l A S = some (e, A', S') →
    e = .normal ∧ Gro S S' ∧ (Oks K.P K.G B w0 S'.obl → ∀ (ε : Env) (a : Act) (w : World) (rr : Option Nat), In K.G B w0 ε S A a w → RN ε S.rnd rr →
      ∀ Q : Exit → Act → World → Prop, (∀ a' w', Post K.G B w0 ε S A' S' a' w' → Q .normal a' w') → wpListIn (FrS rr) 0 K.P all Q l a w)
  | [], A, A', S, S', e, hl => by
    simp only [opsF, Option.some.injEq, Prod.mk.injEq] at hl
    obtain ⟨rfl, rfl, rfl⟩ := hl
    exact ⟨rfl, Gro.refl _, fun _ ε a w rr h _ Q hQ => hQ _ _ (Post.refl h)⟩
  | o :: l, A, A', S, S', e, hl => by
    have hl : opsC K r all o (opsF K r all l) A S = some (e, A', S') := hl
    unfold opsC at hl
    split at hl <;> try (simp at hl; done)
    rename_i A1 S1 hgd
    obtain ⟨ah, hgin⟩ := gd_ok hgd
    split at hl
    · rename_i hw
      split at hl <;> try (simp at hl; done)
      rename_i e1 A2 S2 hs
      obtain ⟨rfl, hg1, _, hd⟩ := op_ok hK hr hs
      obtain ⟨rfl, hg2, hrest⟩ := ops_ok hK hr hl
      refine ⟨rfl, (ah.gro.trans hg1).trans hg2, fun hO ε a w rr h hrr Q hQ => ?_⟩
      have hO2 := hg2.oks hO
      have hO1 := hg1.oks hO2
      have h1 := hgin hO1.plain _ _ _ _ _ _ h
      have hw' : Region.wanted o (yielded all a.tmps) = true := wanted_eq h1.tmps hw
      simp only [wpListIn, hw', if_true]
      have hrr1 : RN ε S1.rnd rr := by rw [ah.rnd]; exact hrr
      refine (hd hO2 ε a w rr h1 hrr1).wpIn fun a1 w1 hp => ?_
      obtain ⟨ε1, h2, h3, h4⟩ := hp
      have hn : S1.nxt = S.nxt := ah.nxt
      rw [hn] at h2 h4
      refine hrest hO ε1 a1 w1 rr h3 ?_ Q fun a' w' hp' => hQ a' w' (hp'.trans h2 h4)
      rw [hg1.rnd, ah.rnd]
      exact hrr.mono h2 (h.rel.le h2)
    · rename_i hw
      obtain ⟨rfl, hg2, hrest⟩ := ops_ok hK hr hl
      refine ⟨rfl, ah.gro.trans hg2, fun hO ε a w rr h hrr Q hQ => ?_⟩
      have hO1 := hg2.oks hO
      have h1 := hgin hO1.plain _ _ _ _ _ _ h
      have hw' : Region.wanted o (yielded all a.tmps) = false := wanted_eq h1.tmps hw
      simp only [wpListIn, hw', Bool.false_eq_true, if_false]
      refine ⟨fun f _ => trivial, hrest hO ε _ w rr (h1.put γ_undef _) (by rw [ah.rnd]; exact hrr) Q fun a' w' hp' => hQ a' w' (hp'.of ah.nxt.symm)⟩
    · simp at hl
end
end
end Go.Ex
/- The executor with an oracle, part 8: calls. -/
namespace Go.Ex
open Go.RowKit
noncomputable section
section
variable {P : Program} {G B : Nat} {w0 w : World} {ε : Env} {S : St}

/-! ### A function's results -/
def resultOne (tmps : Array Value) : ResultVar → Sem Value
  | .tmp t => pure (tmps.getD t undef)
  | .cell a t => do loadVar t (← asAddr (tmps.getD a undef))
theorem nth_tmps {A : List AV} {tmps : Array Value} (hA : γs ε A tmps.toList) (t : Nat) : γ ε (A.getD t (.tup [])) (tmps.getD t undef) := by
  cases hg : A[t]? with
  | none =>
    have := γs_get_none hA hg
    have h2 : tmps[t]? = none := by simpa using this
    simp only [List.getD, hg, Array.getD_eq_getD_getElem?, h2, Option.getD_none]
    exact γ_undef
  | some v =>
    obtain ⟨y, h1, h2⟩ := γs_get hA hg
    have h3 : tmps[t]? = some y := by simpa using h1
    simp [List.getD, hg, Array.getD_eq_getD_getElem?, h3, h2]
theorem res_ok (h : Rel G B w0 ε S w) {A : List AV} {tmps : Array Value} (hA : γs ε A tmps.toList) : ∀ {l : List ResultVar} {vs : List AV}, xres P A S l = some vs →
    ∃ ys, (l.mapM (resultOne tmps)).run P w = .ok ys w ∧ γs ε vs ys
  | [], vs, hl => by
    simp [xres] at hl; subst hl
    exact ⟨[], rfl, rfl⟩
  | .tmp t :: l, vs, hl => by
    simp only [xres] at hl
    split at hl <;> simp at hl
    rename_i us hu
    subst hl
    obtain ⟨ys, h1, h2⟩ := res_ok h hA hu
    refine ⟨tmps.getD t undef :: ys, ?_, γs_cons.2 ⟨_, _, by simpa using nth_tmps hA t, h2, rfl⟩⟩
    simp only [List.mapM_cons, resultOne, Sem.run_bind, Sem.run_pure, Result.andThen_ok, h1]
  | .cell a t :: l, vs, hl => by
    simp only [xres] at hl
    split at hl <;> try (simp at hl; done)
    rename_i v hv
    split at hl <;> simp at hl
    rename_i us hu
    subst hl
    obtain ⟨ys, h1, h2⟩ := res_ok h hA hu
    have hn := nth_tmps hA a
    obtain ⟨i, off, hp⟩ : ∃ i off, A.getD a (.tup []) = .ptr i off := by
      cases hc : A.getD a (.tup []) <;> rw [hc] at hv <;> simp [xLoad] at hv
      exact ⟨_, _, rfl⟩
    rw [hp] at hv hn
    simp only [γ] at hn
    obtain ⟨b, hb, hn⟩ := hn
    obtain ⟨y, h3, h4⟩ := loadVar_means (P := P) h hv hb
    refine ⟨y :: ys, ?_, γs_cons.2 ⟨_, _, h4, h2, rfl⟩⟩
    simp only [List.mapM_cons, resultOne, Sem.run_bind, hn, asAddr, Sem.run_pure, Result.andThen_ok, h3, h1]
theorem packRes_γ {vs : List AV} {ys : List Value} (h : γs ε vs ys) : γ ε (packRes vs) (if h : ys.toArray.size = 1 then ys.toArray[0] else .tuple ys.toArray) := by
  have hl := γs_length h
  cases vs with
  | nil => rw [γs_nil] at h; subst h; simp only [packRes]; exact γ_tup' (γs_nil.2 rfl)
  | cons v vs =>
    obtain ⟨y, zs, h1, h2, rfl⟩ := γs_cons.1 h
    cases vs with
    | nil =>
      rw [γs_nil] at h2; subst h2
      simpa [packRes] using h1
    | cons u us =>
      obtain ⟨z, qs, h3, h4, rfl⟩ := γs_cons.1 h2
      simp only [packRes]
      have := γ_tup' h
      simpa using this
theorem results_ok (h : Rel G B w0 ε S w) {A : List AV} {tmps : Array Value} (hA : γs ε A tmps.toList) {fn : Func} {vs : List AV} (hl : xres P A S fn.results.toList = some vs) :
    ∃ y, (results fn tmps).run P w = .ok y w ∧ γ ε (packRes vs) y := by
  obtain ⟨ys, h1, h2⟩ := res_ok h hA hl
  refine ⟨_, ?_, packRes_γ h2⟩
  have e : results fn tmps = (do let vs ← fn.results.mapM (resultOne tmps); pure (if h : vs.size = 1 then vs[0] else .tuple vs)) := by
    unfold results
    congr 1
  rw [e]
  simp only [Array.mapM_eq_mapM_toList, map_eq_pure_bind, bind_assoc, Sem.run_bind, Sem.run_pure, Result.andThen_ok, h1, pure_bind]

/-! ### The deferred calls at a function's end -/
theorem Rel.forget (h : Rel G B w0 ε S w) {i b : Nat} {old : ABlk} (hget : S.get i = some old) (hown : old.own = true) (hi : ε.δ i = some b) {w' : World}
    (hw : w'.os = w.os ∧ w'.tape = w.tape ∧ w'.output = w.output ∧ w'.heap.size = w.heap.size) (hother : ∀ k, k ≠ b → w'.heap[k]? = w.heap[k]?) : Rel G B w0 ε (S.put i none) w' := by
  obtain ⟨b', o', h1, h2, h3, h4⟩ := h.live i old hget
  rw [hi] at h1
  simp at h1
  subst h1
  have hBb := h4 hown
  have hlt := h.lt hi
  have hMb := h.apart i old b hget hown hi
  have old' : ∀ m bm, (S.put i none).get m = some bm → i ≠ m ∧ S.get m = some bm := by
    intro m bm hm
    rw [St.get_put] at hm
    split at hm
    · simp at hm
    · rename_i him; exact ⟨him, hm⟩
  refine ⟨⟨hw.1.trans h.below.os, hw.2.1.trans h.below.tape, hw.2.2.1.trans h.below.output, by rw [hw.2.2.2]; exact h.below.size, fun k hk => (hother k (by omega)).trans (h.below.block k hk)⟩,
    by rw [hw.2.2.2]; exact h.hB, h.gB, h.gn, h.glob, h.free, ?_, h.bba, ?_, ?_, ?_, ?_, h.old, h.eG, h.k0⟩
  · exact upd_bnd h.bov hlt _
  · intro j bj hj
    obtain ⟨hij, hj⟩ := old' j bj hj
    obtain ⟨b', o', h5, h6, h7, h8⟩ := h.live j bj hj
    have hne : b' ≠ b := fun e => hij (h.inj i j old bj b hget hj hi (e ▸ h5))
    exact ⟨b', o', h5, by rw [hother b' hne]; exact h6, h7, h8⟩
  · intro j k bj bk c hj hk h5 h6
    exact h.inj j k bj bk c (old' _ _ hj).2 (old' _ _ hk).2 h5 h6
  · intro c o' hc
    have hne : c ≠ b := fun e => by rw [e, hMb] at hc; cases hc
    rw [hother c hne]
    exact h.mem c o' hc
  · intro j bj c hj hownj hjc
    exact h.apart j bj c (old' _ _ hj).2 hownj hjc
theorem leave_ok {K : Cfg} (hK : KOk K) {fn : Func} {tmps : Array Value} {R : Ending → World → Prop} : ∀ {l : List AD} {ds : List Deferred} {S S' : St} {w : World},
    xLeave K.I l S = some S' → Rel K.G B w0 ε S w → DL ε l ds → (∀ w', Rel K.G B w0 ε S' w' → ∃ v, (results fn tmps).run K.P w' = .ok v w' ∧ R (.returned v) w') →
    LeavesInM Fence.wide 0 K.P fn tmps R ds .returning w
  | [], ds, S, S', w, hl, h, hd, hR => by
    simp [xLeave] at hl; subst hl
    cases ds with
    | nil => exact hR w h
    | cons => exact hd.elim
  | .idle f n :: l, ds, S, S', w, hl, h, hd, hR => by
    simp only [xLeave] at hl
    split at hl <;> try (simp at hl; done)
    rename_i hc
    rw [List.any_eq_true] at hc
    obtain ⟨p, hp, hpe⟩ := hc
    simp only [Bool.and_eq_true, decide_eq_true_eq] at hpe
    obtain ⟨rfl, rfl⟩ := hpe
    cases ds with
    | nil => exact hd.elim
    | cons d ds =>
      obtain ⟨⟨cap, hd1, hd2⟩, hd3⟩ := hd
      obtain ⟨hok, hcall⟩ := hK.idle p hp (d.args ++ cap) w (by simpa using hd2)
      refine ⟨by simp, .inr ⟨fun h0 => by simp [Fence.wide] at h0, .func p.1, cap, p.1, d.args ++ cap, hd1, ?_, fun g _ => trivial, ?_⟩⟩
      · rw [hd1]
        exact callFunc_enter hok _
      · refine CallsDIn.mono hcall fun e u' w' he => ?_
        obtain ⟨⟨v, rfl⟩, rfl, rfl⟩ := he
        exact leave_ok hK hl h hd3 hR
  | .coll i :: l, ds, S, S', w, hl, h, hd, hR => by
    simp only [xLeave] at hl
    split at hl <;> try (simp at hl; done)
    rename_i hget
    cases ds with
    | nil => exact hd.elim
    | cons d ds =>
      obtain ⟨⟨r, hd1, hd2⟩, hd3⟩ := hd
      obtain ⟨b, o, h1, h2, h3, h4⟩ := h.live _ _ hget
      rw [hd2] at h1
      simp at h1
      subst h1
      simp only [BR] at h3
      subst h3
      refine ⟨by simp, .inl ⟨r, _, hd1, run_takeDeferred h2, ?_⟩⟩
      exact leave_ok hK hl (h.forget hget rfl hd2 ⟨rfl, rfl, rfl, by simp⟩ (fun k hk => World.putObj_heap_other hk)) hd3 hR
theorem leave_base {I : List (FuncId × Nat)} : ∀ {l : List AD} {S S' : St}, xLeave I l S = some S' → S'.base = S.base ∧ S'.nxt = S.nxt ∧ S'.obl = S.obl
  | [], S, S', hl => by simp [xLeave] at hl; subst hl; exact ⟨rfl, rfl, rfl⟩
  | .idle f n :: l, S, S', hl => by
    simp only [xLeave] at hl
    split at hl <;> try (simp at hl; done)
    exact leave_base hl
  | .coll i :: l, S, S', hl => by
    simp only [xLeave] at hl
    split at hl <;> try (simp at hl; done)
    have := leave_base (S := S.put i none) hl
    exact this


theorem body_ok {K : Cfg} {r : Rec} (hK : KOk K) (hr : ROk K B w0 r) {f : FuncId} {args : List AV} {out : Out} (hl : bodyF K r f args S = some out) : JobOk K B w0 (.call f args S) out := by
  unfold bodyF at hl
  split at hl <;> try (simp at hl; done)
  rename_i fn hfn
  split at hl <;> try (simp at hl; done)
  rename_i c hc
  split at hl <;> try (simp at hl; done)
  rename_i e A1 S1 hne hrun
  unfold callRes at hl
  split at hl <;> try (simp at hl; done)
  rename_i S2 hlv
  split at hl <;> simp at hl
  rename_i vs hvs
  subst hl
  obtain ⟨hg, hw⟩ := hr _ _ hrun
  obtain ⟨hlb, hln, hlo⟩ := leave_base hlv
  refine ⟨packRes vs, rfl, ⟨rfl, rfl, ?_⟩, rfl, fun hO ε w xs h hx => ?_⟩
  · obtain ⟨l, hl⟩ := hg.obl
    exact ⟨l, by show S2.obl = _; rw [hlo, hl]; rfl⟩
  have hO1 : Oks K.P K.G B w0 S1.obl := by rw [← hlo]; exact hO
  refine (callsIn_wide (n := 0)).1 (callsIn_of_wp_marks hfn hc trivial ?_)
  have hin : In K.G B w0 ε (into S) (args ++ List.replicate (fn.ntmps - args.length) (.tup [])) { tmps := xs.toArray ++ Array.replicate (fn.ntmps - xs.toArray.size) undef, defers := [] } w := by
    refine ⟨h.into.congr rfl rfl rfl, ?_, trivial⟩
    have hlen := γs_length hx
    simp only [Array.toList_append, Array.toList_replicate, List.size_toArray, hlen]
    exact γs_append hx (γs_replicate γ_undef _)
  refine wpIn_mono (hw hO1 ε _ w none hin rfl) fun e' a1 w1 hq => ?_
  obtain ⟨rfl, ε1, ha, hin1, hn⟩ := hq
  have key : LeavesInM Fence.wide 0 K.P fn a1.tmps (CPost K.G B w0 ε S (packRes vs) (back S vs S2)) a1.defers .returning w1 := by
    refine leave_ok hK hlv hin1.rel hin1.dl fun w' h2 => ?_
    obtain ⟨y, h3, h4⟩ := results_ok h2 hin1.tmps hvs
    refine ⟨y, h3, y, ε1, rfl, ha, h4, ?_, ?_⟩
    · exact h2.back (by rw [hlb, hg.base]; rfl) h.bov h.bba (by rw [hln]; exact hn)
    · show S.nxt ≤ S2.nxt
      rw [hln]; exact hn
  cases e with
  | normal => exact key
  | ret => exact key
  | exit id => exact (hne _ rfl).elim
theorem call_ok {K : Cfg} {r : Rec} (hK : KOk K) (hr : ROk K B w0 r) {f : FuncId} {args : List AV} {out : Out} (hl : callF K r f args S = some out) : JobOk K B w0 (.call f args S) out := by
  unfold callF at hl
  split at hl <;> try (simp at hl; done)
  · rename_i v ov nxt rest horc
    split at hl <;> simp at hl
    rename_i hc
    simp only [Bool.and_eq_true, decide_eq_true_eq, List.all_eq_true] at hc
    obtain ⟨hc1, hc2⟩ := hc
    subst hl
    refine ⟨v, rfl, ⟨rfl, rfl, [_], rfl⟩, rfl, fun hO ε w xs h hx => ?_⟩
    have hcall : CallOk K.P K.G B w0 f args { ov := [], base := S.ov ++ S.base, nxt := S.nxt } v { ov := ov, base := S.ov ++ S.base, nxt := nxt } := hO (.call f args (S.ov ++ S.base) S.nxt v ov nxt) (by simp)
    refine Calls.mono (hcall ε w xs (h.into.congr rfl rfl rfl) hx) fun e w' he => ?_
    obtain ⟨y, ε', h1, h2, h3, h4, h5⟩ := he
    have h5' : S.nxt ≤ nxt := h5
    refine ⟨y, ε', h1, h2, h3, ?_, h5'⟩
    refine h4.sub rfl ?_ (fun p hp => Nat.lt_of_lt_of_le (h.bba p hp) h5') ?_
    · exact mergeOv_bnd (fun p hp => Nat.lt_of_lt_of_le (h.bov p hp) h5') fun p hp => hc2 p hp
    · intro i b hget
      simp only [St.get, look_mergeOv] at hget
      simp only [St.get, look_append]
      cases hr : look ov i with
      | some c => simp only [hr] at hget ⊢; exact hget
      | none =>
        simp only [hr] at hget ⊢
        cases hs : look S.ov i with
        | some c => simp only [hs] at hget ⊢; exact hget
        | none => simp only [hs] at hget ⊢; exact hget
  · rename_i rest horc
    obtain ⟨e, vs, S'⟩ := out
    obtain ⟨v, h1, h2, h3, h4⟩ := body_ok (S := { S with orc := rest }) hK hr hl
    exact ⟨v, h1, ⟨h2.base, h2.rnd, h2.obl⟩, h3, fun hO ε w xs h hx => h4 hO ε w xs (h.congr rfl rfl rfl) hx⟩
end
end
end Go.Ex
/- The reflective executor, part 19: code. -/
namespace Go.Ex
open Go.RowKit
noncomputable section
section
variable {P : Program} {G B : Nat} {w0 w : World} {ε : Env} {S : St}

theorem XE.ne_normal {e : XE} (h : e ≠ .normal) : e.out ≠ .normal := by cases e <;> simp [XE.out] at *
theorem then_of_ne {K : Act → World → Prop} {Q : Exit → Act → World → Prop} {e : XE} (h : e ≠ .normal) {a : Act} {w : World} (hq : Q e.out a w) : Exit.then K Q e.out a w := by
  cases e <;> first | exact absurd rfl h | exact hq

theorem range_ok {K : Cfg} {r : Rec} (hK : KOk K) (hr : ROk K B w0 r) {g : Operand} {ps : Array Tmp} {assign body : Code} {A : List AV} {out : Out} (hl : codeRange K r g ps assign body A S = some out) :
    JobOk K B w0 (.code (.rangeFunc g ps assign body) A S) out := by
  unfold codeRange at hl
  split at hl <;> try (simp at hl; done)
  rename_i f first captured hrnd hev
  split at hl <;> try (simp at hl; done)
  rename_i hfo
  split at hl <;> try (simp at hl; done)
  rename_i e1 vs1 S2 hc
  obtain ⟨v, rfl, hg2, hd2, hcall⟩ := hr _ _ hc
  unfold codeRange2 at hl
  split at hl <;> try (simp at hl; done)
  rename_i st pend hnb hlo
  split at hl <;> try (simp at hl; done)
  rename_i S3 hs3
  obtain ⟨h3, hn3⟩ := lpSet_gro hs3
  have hbusy : st ≠ .busy := by rintro rfl; exact hnb rfl
  have hg3 : Gro S S3 := by
    have := hg2.trans h3
    exact ⟨this.base, this.rnd, this.obl⟩
  have main : Oks K.P K.G B w0 S3.obl → ∀ (ε : Env) (a : Act) (w : World) (rr : Option Nat), In K.G B w0 ε S A a w → RN ε S.rnd rr → ∀ Q : Exit → Act → World → Prop,
      (∀ (ε3 : Env) (a' : Act) (w' : World), ε.agr S.nxt ε3 → S.nxt ≤ S3.nxt → In K.G B w0 ε3 { S3 with dl := .coll S.nxt :: S.dl } A a' w' →
        match pend with
        | none => Q .normal a' w'
        | some c => c.wpIn (FrS none) 0 K.P Q a' w') →
      (Code.rangeFunc g ps assign body).wpIn (FrS rr) 0 K.P Q a w := by
    intro hO ε a w rr h hrr Q hQ
    rw [hrnd] at hrr
    have hrr : rr = none := hrr
    subst hrr
    refine wpIn_rangeFunc fun fn _ => ?_
    have hfv := ev_γ h.rel h.ar hev
    simp only [γ] at hfv
    obtain ⟨xs, h1, ys, h2, hfe⟩ := hfv
    have hrel1 := h.rel.alloc .dfr (.deferred (some [])) 0 (fun _ _ _ => rfl)
    have ag1 := Env.agr_set ε S.nxt w.heap.size 0
    have hD : (ε.set S.nxt w.heap.size 0).δ S.nxt = some w.heap.size := by simp [Env.set]
    have hrel2 := hrel1.alloc (.lp .ready none A ps assign body S.nxt)
      (.loop { state := .ready, pending := none, fn := fn, tmps := a.tmps, params := ps, assign := assign, body := body, defers := w.heap.size }) 0 (fun ε' ha _ => by
        have hD' : ε'.δ S.nxt = some w.heap.size := ((hrel1.le ha).d S.nxt _ hD).1
        exact ⟨fn, a.tmps.toList, w.heap.size, γs_mono (hrel1.le ha) _ _ (γs_mono (h.rel.le ag1) _ _ h.tmps), hD', by simp⟩)
    generalize hε2 : (ε.set S.nxt w.heap.size 0).set (S.new .dfr).nxt (w.alloc (.deferred (some []))).heap.size 0 = ε2 at hrel2
    have ag2 : (ε.set S.nxt w.heap.size 0).agr (S.nxt + 1) ε2 := by rw [← hε2]; exact Env.agr_set _ _ _ _
    have agT : ε.agr S.nxt ε2 := Env.agr_trans ag1 ag2 (Nat.le_succ _)
    have hL : ε2.δ (S.nxt + 1) = some (w.heap.size + 1) := by
      rw [← hε2]
      simp [Env.set, St.nxt_new]
    have hD2 : ε2.δ S.nxt = some w.heap.size := by rw [(ag2.d S.nxt (Nat.lt_succ_self _)).1, hD]
    have hargs : γs ε2 (first ++ [.yld (S.nxt + 1)] ++ captured) (xs ++ [Value.func (.yield (w.heap.size + 1)) #[] #[]] ++ ys) :=
      γs_append (γs_append (γs_mono (h.rel.le agT) _ _ h1) (γs_cons.2 ⟨_, [], by simp [γ, hL], rfl, rfl⟩)) (γs_mono (h.rel.le agT) _ _ h2)
    have hc2 := hcall (h3.oks hO) ε2 _ _ hrel2 hargs
    refine ⟨w.heap.size + 1, _, _, { target := .fn (.func f) ys.toArray, args := xs.toArray ++ #[Value.func (.yield (w.heap.size + 1)) #[] #[]] }, (w.alloc (.deferred (some []))).alloc (.loop { state := .ready, pending := none, fn := fn, tmps := a.tmps, params := ps, assign := assign, body := body, defers := w.heap.size }), f, (xs ++ [Value.func (.yield (w.heap.size + 1)) #[] #[]] ++ ys).toArray, (w.alloc (.deferred (some []))).alloc (.loop { state := .ready, pending := none, fn := fn, tmps := a.tmps, params := ps, assign := assign, body := body, defers := w.heap.size }),
      run_enterLoop_outer fn a.tmps ps assign body, ?_, fun f' _ => trivial, ?_, fun h0 => by simp [FrS, Fence.wide] at h0, ?_⟩
    · simp only [resolve, hfe, Deferred.ofValue, Sem.run_pure]
      simp [Act.eval]
    · have e : (xs.toArray ++ #[Value.func (.yield (w.heap.size + 1)) #[] #[]]) ++ ys.toArray = (xs ++ [Value.func (.yield (w.heap.size + 1)) #[] #[]] ++ ys).toArray := by simp
      show (callFunc f ((xs.toArray ++ #[Value.func (.yield (w.heap.size + 1)) #[] #[]]) ++ ys.toArray)).run K.P _ = _
      rw [e]
      exact callFunc_enter hfo _
    · refine CallsIn.mono ((callsIn_wide (n := 0 - 1)).2 hc2) fun e w3 he => ?_
      obtain ⟨y, ε3, rfl, h5, h6, h7, h8⟩ := he
      have h5' : ε2.agr (S.nxt + 2) ε3 := h5
      have h8' : S.nxt + 2 ≤ S2.nxt := h8
      obtain ⟨l, rc, h9, h10, h11, h12, h13, h14, h15, h17⟩ := lpSet_ok h7 hs3 hlo
      have hL3 : ε3.δ (S.nxt + 1) = some (w.heap.size + 1) := (h5'.d (S.nxt + 1) (by omega)).1.trans hL
      have hD3 : ε3.δ S.nxt = some w.heap.size := (h5'.d S.nxt (by omega)).1.trans hD2
      rw [hL3] at h9
      simp at h9
      subst h9
      have hend := run_endLoop (P := K.P) h10 (by rw [h11]; exact hbusy)
      have e3 : ({ rc with state := .exhausted, pending := pend } : Loop) = { rc with state := .exhausted } := by rw [← h12]
      rw [e3] at h13
      have ag3 : ε.agr S.nxt ε3 := Env.agr_trans agT h5' (by omega)
      have hin : In K.G B w0 ε3 { S3 with dl := .coll S.nxt :: S.dl } A { a with defers := [{ target := .collected w.heap.size, args := #[] }] ++ a.defers } (w3.putObj (w.heap.size + 1) (.loop { rc with state := .exhausted })) :=
        ⟨h13.congr rfl rfl rfl, γs_mono (h.rel.le ag3) _ _ h.tmps, ⟨⟨_, rfl, hD3⟩, h.dl.mono (h.rel.le ag3)⟩⟩
      have hq := hQ ε3 _ _ ag3 (by rw [h14]; omega) hin
      refine ⟨pend, _, by rw [← h12]; exact hend, ?_⟩
      cases pend with
      | none => exact hq
      | some c => exact hq
  split at hl
  · simp only [Option.some.injEq] at hl
    subst hl
    refine ⟨⟨hg3.base, hg3.rnd, hg3.obl⟩, fun hO ε a w rr h hrr => main hO ε a w rr h hrr _ ?_⟩
    intro ε3 a' w' ha hn hin
    exact ⟨rfl, ε3, ha, hin, hn⟩
  · rename_i c
    obtain ⟨e, A', S'⟩ := out
    obtain ⟨hg4, hw4⟩ := hr _ _ hl
    have hg4' : Gro S3 S' := ⟨hg4.base, hg4.rnd, hg4.obl⟩
    refine ⟨hg3.trans hg4', fun hO ε a w rr h hrr => main (hg4'.oks hO) ε a w rr h hrr _ ?_⟩
    intro ε3 a' w' ha hn hin
    refine wpIn_mono (hw4 hO ε3 a' w' none hin ?_) fun e' a2 w2 hq => ?_
    · show RN ε3 S3.rnd none
      rw [hg3.rnd, hrnd]; rfl
    · exact ⟨hq.1, hq.2.trans ha hn⟩

theorem rounds_ok {K : Cfg} {r : Rec} (hr : ROk K B w0 r) {c : Code} {A : List AV} {out : Out} (hl : roundsF r c A S = some out) : JobOk K B w0 (.rounds c A S) out := by
  unfold roundsF at hl
  split at hl <;> try (simp at hl; done)
  · rename_i e A' ov nxt rest horc
    split at hl <;> simp at hl
    subst hl
    refine ⟨⟨rfl, rfl, [_], rfl⟩, fun hO => ?_⟩
    have hloop : RoundsOk K.P K.G B w0 c A { ov := S.ov, base := S.base, nxt := S.nxt, dl := S.dl, rnd := S.rnd } e A' { ov := ov, base := S.base, nxt := nxt, dl := S.dl, rnd := S.rnd } :=
      hO (.loop c A S.ov S.base S.nxt S.dl S.rnd e A' ov nxt) (by simp)
    obtain ⟨m, hm⟩ := hloop
    refine ⟨m, fun ε a w r h hrr Q hQ => ?_⟩
    exact hm ε a w r (h.sm ⟨rfl, rfl, rfl, rfl⟩) hrr Q fun a' w' hp => hQ a' w' (Post.sm (Post.of (S0 := S) hp rfl) ⟨rfl, rfl, rfl, rfl⟩)
  · rename_i rest horc
    obtain ⟨e, A', S'⟩ := out
    split at hl
    · rename_i A1 S1 h1
      obtain ⟨hg1, hw1⟩ := hr _ _ h1
      obtain ⟨hg2, hw2⟩ := hr _ _ hl
      have hgT := hg1.trans hg2
      refine ⟨⟨hgT.base, hgT.rnd, hgT.obl⟩, fun hO => ?_⟩
      obtain ⟨m, hw2⟩ := hw2 hO
      refine ⟨m + 1, fun ε a w rr h hrr Q hQ => ?_⟩
      show c.wpIn (FrS rr) 0 K.P (Exit.then (Code.roundsIn (FrS rr) 0 K.P c Q m) Q) a w
      refine wpIn_mono (hw1 (hg2.oks hO) ε a w rr (h.sm ⟨rfl, rfl, rfl, rfl⟩) hrr) fun e' a1 w1 hq => ?_
      obtain ⟨rfl, ε1, ha, hin, hn⟩ := hq
      refine hw2 ε1 a1 w1 rr hin (by rw [hg1.rnd]; exact hrr.mono ha (h.rel.le ha)) Q fun a' w' hp => hQ a' w' (hp.trans ha hn)
    · rename_i hne
      obtain ⟨hg1, hw1⟩ := hr _ _ hl
      have hen : e ≠ .normal := by rintro rfl; exact hne _ _ hl
      refine ⟨⟨hg1.base, hg1.rnd, hg1.obl⟩, fun hO => ⟨1, fun ε a w rr h hrr Q hQ => ?_⟩⟩
      show c.wpIn (FrS rr) 0 K.P (Exit.then (Code.roundsIn (FrS rr) 0 K.P c Q 0) Q) a w
      refine wpIn_mono (hw1 hO ε a w rr (h.sm ⟨rfl, rfl, rfl, rfl⟩) hrr) fun e' a1 w1 hq => ?_
      obtain ⟨rfl, hp⟩ := hq
      exact then_of_ne hen (hQ _ _ (hp.of rfl))
end
end
end Go.Ex
/- The executor with an oracle, part 10: regions of drawn order. -/
namespace Go.Ex
open Go.RowKit
noncomputable section
section
variable {P : Program} {G B : Nat} {w0 w : World} {ε : Env} {S : St}

theorem mem_rdy {listed : Array Bool} : ∀ {l : List Oper} {k i : Nat}, i ∈ rdy listed l k ↔
    k ≤ i ∧ ∃ o, l[i - k]? = some o ∧ listed.getD i true = false ∧ ∀ e ∈ o.after, Region.binds .any e = true → listed.getD e.on false = true
  | [], k, i => by simp [rdy]
  | o :: l, k, i => by
    have ih := mem_rdy (listed := listed) (l := l) (k := k + 1) (i := i)
    have hcond : (!listed.getD k true && o.after.toList.all (fun e => !Region.binds .any e || listed.getD e.on false)) = true ↔
        (listed.getD k true = false ∧ ∀ e ∈ o.after, Region.binds .any e = true → listed.getD e.on false = true) := by
      simp only [Bool.and_eq_true, Bool.not_eq_true', List.all_eq_true, Bool.or_eq_true, Array.mem_toList_iff]
      constructor
      · rintro ⟨h1, h2⟩
        exact ⟨h1, fun e he hb => (h2 e he).resolve_left (by simp [hb])⟩
      · rintro ⟨h1, h2⟩
        refine ⟨h1, fun e he => ?_⟩
        cases hb : Region.binds .any e
        · exact .inl rfl
        · exact .inr (h2 e he hb)
    have tail : (k + 1 ≤ i ∧ ∃ o', l[i - (k + 1)]? = some o' ∧ listed.getD i true = false ∧ ∀ e ∈ o'.after, Region.binds .any e = true → listed.getD e.on false = true) ↔
        (k < i ∧ ∃ o', (o :: l)[i - k]? = some o' ∧ listed.getD i true = false ∧ ∀ e ∈ o'.after, Region.binds .any e = true → listed.getD e.on false = true) := by
      constructor
      · rintro ⟨h1, o', h2, h3⟩
        refine ⟨h1, o', ?_, h3⟩
        have : i - k = (i - (k + 1)) + 1 := by omega
        rw [this]; simpa using h2
      · rintro ⟨h1, o', h2, h3⟩
        refine ⟨h1, o', ?_, h3⟩
        have : i - k = (i - (k + 1)) + 1 := by omega
        rw [this] at h2; simpa using h2
    simp only [rdy]
    split
    · rename_i hc
      rw [List.mem_cons, ih, tail]
      constructor
      · rintro (rfl | ⟨h1, h2⟩)
        · exact ⟨Nat.le_refl _, o, by simp, hcond.1 hc⟩
        · exact ⟨Nat.le_of_lt h1, h2⟩
      · rintro ⟨h1, h2⟩
        rcases Nat.lt_or_eq_of_le h1 with h | h
        · exact .inr ⟨h, h2⟩
        · exact .inl h.symm
    · rename_i hc
      rw [ih, tail]
      constructor
      · rintro ⟨h1, h2⟩
        exact ⟨Nat.le_of_lt h1, h2⟩
      · rintro ⟨h1, h2⟩
        rcases Nat.lt_or_eq_of_le h1 with h | h
        · exact ⟨h, h2⟩
        · subst h
          obtain ⟨o', h3, h4⟩ := h2
          simp at h3
          subst h3
          exact absurd (hcond.2 h4) hc
theorem rdy_ready {all : Array Oper} {listed : Array Bool} {i : Nat} : i ∈ rdy listed all.toList 0 ↔ i ∈ Region.ready .any all listed := by
  rw [mem_rdy, mem_ready]
  simp only [Nat.zero_le, true_and, Nat.sub_zero, Array.getElem?_toList]
  constructor
  · rintro ⟨o, h1, h2, h3⟩; exact ⟨h2, o, h1, h3⟩
  · rintro ⟨h2, o, h1, h3⟩; exact ⟨o, h1, h2, h3⟩


theorem firstPure_spec {H : List Nat} {S0 : St} {fl : Bool} {all : Array Oper} {A A1 : List AV} {S1 : St} {j : Nat} {o : Oper} {v : AV} : ∀ {is : List Nat}, firstPure P G H S0 fl all A S is = some (j, o, v, A1, S1) →
    j ∈ is ∧ all[j]? = some o ∧ ∃ Sg, gd all A S o = some (A1, Sg) ∧ ((xwanted all A1 o = some true ∧ (((fl && isLd o) = false ∧ st P G A1 o Sg = some (v, S1)) ∨ (xheld P G H S0 A1 o = some v ∧ S1 = Sg))) ∨ (xwanted all A1 o = some false ∧ v = .tup [] ∧ S1 = Sg))
  | [], h => by simp [firstPure] at h
  | i :: is, h => by
    simp only [firstPure] at h
    split at h
    · rename_i o1 ho
      split at h <;> try (simp at h; done)
      rename_i A2 Sg hg
      split at h
      · rename_i hw
        split at h
        · rename_i u S2 hu
          split at hu <;> try (simp at hu; done)
          rename_i hfl
          simp at h
          obtain ⟨rfl, rfl, rfl, rfl, rfl⟩ := h
          exact ⟨List.mem_cons_self, ho, Sg, hg, .inl ⟨hw, .inl ⟨by simpa using hfl, hu⟩⟩⟩
        · split at h
          · rename_i u hu
            simp at h
            obtain ⟨rfl, rfl, rfl, rfl, rfl⟩ := h
            exact ⟨List.mem_cons_self, ho, _, hg, .inl ⟨hw, .inr ⟨hu, rfl⟩⟩⟩
          · obtain ⟨h1, h2⟩ := firstPure_spec h
            exact ⟨List.mem_cons_of_mem _ h1, h2⟩
      · rename_i hw
        simp at h
        obtain ⟨rfl, rfl, rfl, rfl, rfl⟩ := h
        exact ⟨List.mem_cons_self, ho, _, hg, .inr ⟨hw, rfl, rfl⟩⟩
      · simp at h
    · obtain ⟨h1, h2⟩ := firstPure_spec h
      exact ⟨List.mem_cons_of_mem _ h1, h2⟩

theorem loadVar_held (h : Rel G B w0 ε S w) {t : TypeId} {i off : Nat} {u : AV} (hl : xLoad P t (.ptr i off) S = some u) {b : Nat} (hb : ε.δ i = some b) :
    ∃ y, γ ε u y ∧ ∃ o, w.heap[b]? = some o ∧ ∀ w' : World, w'.heap[b]? = some o → (loadVar t ⟨b, off, none⟩).run P w' = .ok y w' := by
  have cells : ∀ {n : Nat} {vs : List AV}, S.read i off n = some vs → ∃ xs, γs ε vs xs ∧ xs.length = n ∧ ∃ o, w.heap[b]? = some o ∧ ∀ w' : World, w'.heap[b]? = some o → ∀ (j : Nat) (v : Value), xs[j]? = some v → w'.cell? ⟨b, off + j, none⟩ = some v := by
    intro n vs hr
    obtain ⟨b', xs, h1, h2, h3, h4⟩ := h.read hr
    rw [hb] at h1; simp at h1; subst h1
    have hget : ∃ blk, S.get i = some blk := by
      cases hg : S.get i with
      | some blk => exact ⟨blk, rfl⟩
      | none => simp [St.read, hg] at hr
    obtain ⟨blk, hget⟩ := hget
    obtain ⟨b', o, h5, h6, _⟩ := h.live _ _ hget
    rw [hb] at h5; simp at h5; subst h5
    refine ⟨xs, h2, h3, o, h6, fun w' hw' j v hj => ?_⟩
    have := h4 j v hj
    simp only [World.cell?, h6] at this
    simpa only [World.cell?, hw'] using this
  simp only [xLoad] at hl
  split at hl
  · rename_i hagg
    split at hl <;> try (simp at hl; done)
    rename_i n hn
    split at hl <;> try (simp at hl; done)
    rename_i vs hr
    simp at hl; subst hl
    obtain ⟨xs, h2, h3, o, h5, h4⟩ := cells hr
    refine ⟨.agg xs.toArray, γ_agg' h2, o, h5, fun w' hw' => ?_⟩
    have hc := run_loadCells_list (P := P) w' ⟨b, off, none⟩ xs (fun j v hj => by rw [Addr.add_lit]; exact h4 w' hw' j v hj)
    rw [h3] at hc
    simp [loadVar, run_isAgg hagg, run_sizeT hn, hc]
  · rename_i hagg
    split at hl <;> try (simp at hl; done)
    rename_i x hr
    simp at hl; subst hl
    obtain ⟨xs, h2, h3, o, h5, h4⟩ := cells hr
    obtain ⟨y, ys, h6, h7, rfl⟩ := γs_cons.1 h2
    refine ⟨y, h6, o, h5, fun w' hw' => ?_⟩
    have := h4 w' hw' 0 y (by simp)
    simp only [Nat.add_zero] at this
    simp [loadVar, run_isAgg hagg, this]
  · simp at hl
theorem held_yields {H : List Nat} {S0 : St} {w1 : World} {A : List AV} {a : Act} {ε0 : Env} (h0 : Rel G B w0 ε0 S0 w1) (ha : ε0.agr S0.nxt ε) (h : In G B w0 ε S A a w) {o : Oper} {v : AV}
    (hl : xheld P G H S0 A o = some v) : ∃ y, γ ε v y ∧ ∀ w', SC ε0 H w1 w' → (execOp a.eval o).run P w' = .ok (.value y) w' := by
  obtain ⟨dst, op, ty, pos, after, guard⟩ := o
  unfold xheld at hl
  simp only at hl
  split at hl <;> try (simp at hl; done)
  rename_i t x
  split at hl <;> try (simp at hl; done)
  rename_i i off hev
  split at hl <;> try (simp at hl; done)
  rename_i hH
  have hx := ev_γ h.rel h.ar hev
  simp only [γ] at hx
  obtain ⟨b, hb, hx⟩ := hx
  have hget : ∃ blk, S0.get i = some blk := by
    cases hg : S0.get i with
    | some blk => exact ⟨blk, rfl⟩
    | none =>
      simp only [xLoad, St.read, hg] at hl
      (repeat' split at hl) <;> simp at hl
  obtain ⟨blk, hget⟩ := hget
  obtain ⟨b0, o0, hb0, _⟩ := h0.live _ _ hget
  have hlt : i < S0.nxt := h0.lt hb0
  have hbb : ε0.δ i = some b := by rw [← (ha.d i hlt).1]; exact hb
  obtain ⟨y, h1, o, h2, h3⟩ := loadVar_held (P := P) h0 hl hbb
  refine ⟨y, γ_mono (ha.le h0.free) _ _ h1, fun w' hs => ?_⟩
  have := h3 w' (hs.2 i hH b o hbb h2)
  simp only [execOp, hx]
  simp [Instr.loadAt, Instr.sureAddr, this]

theorem apartAll_spec {all : Array Oper} (h : apartAll all = true) {i j : Nat} {x y : Oper} (hx : all[i]? = some x) (hy : all[j]? = some y) (hne : i ≠ j) (h1 : hasEdge y i = false) (h2 : hasEdge x j = false) : x.apart all y = true := by
  simp only [apartAll, List.all_eq_true] at h
  have hxm : (x, i) ∈ all.toList.zipIdx := by
    rw [List.mem_zipIdx_iff_getElem?]; simpa using hx
  have hym : (y, j) ∈ all.toList.zipIdx := by
    rw [List.mem_zipIdx_iff_getElem?]; simpa using hy
  have := h _ hxm _ hym
  simpa [hne, h1, h2] using this
theorem hasEdge_false {o : Oper} {i : Nat} (h : ∀ e ∈ o.after, Region.binds .any e = true → e.on ≠ i) : hasEdge o i = false := by
  simp only [hasEdge, List.any_eq_false, Bool.and_eq_true, decide_eq_true_eq, not_and, Array.mem_toList_iff]
  exact h


theorem draw_ok {K : Cfg} {r : Rec} (hr : ROk K B w0 r) {H : List Nat} {S0 : St} {fl : Bool} {all : Array Oper} {left : Nat} {listed : Array Bool} {A : List AV} {out : Out}
    (hl : drawF K r H S0 fl all left listed A S = some out) : JobOk K B w0 (.draw H S0 fl all left listed A S) out := by
  unfold drawF at hl
  split at hl
  · rename_i hrdy
    simp at hl; subst hl
    refine ⟨rfl, Gro.refl _, rfl, fun _ _ _ _ _ _ ε0 ε w1 a w Q _ _ _ _ hin hQ _ => ?_⟩
    refine wpAnyH_done (Q := Q) ?_ (hQ a w (Post.refl hin)) left
    refine List.eq_nil_iff_forall_not_mem.2 fun i hi => ?_
    rw [← rdy_ready, hrdy] at hi
    cases hi
  · rename_i i is hrdy
    split at hl <;> try (simp at hl; done)
    rename_i left
    split at hl
    · rename_i j o v A1 S1 hfp
      obtain ⟨e, A', S'⟩ := out
      obtain ⟨he, hg, hdl, hN⟩ := hr _ _ hl
      obtain ⟨hj, ho, Sg, hgd, hcase⟩ := firstPure_spec hfp
      obtain ⟨ah1, hgin⟩ := gd_ok hgd
      have ah2 : Ahead Sg S1 := by
        rcases hcase with ⟨_, ⟨_, h1⟩ | ⟨_, rfl⟩⟩ | ⟨_, _, rfl⟩
        · exact st_ahead h1
        · exact Ahead.refl _
        · exact Ahead.refl _
      have ah := ah1.trans ah2
      refine ⟨he, ah.gro.trans hg, hdl.trans ah.dl, fun hO hsel hap hbase hrnd hle ε0 ε w1 a w Q ha0 hM h0 hsc hin hQ hnp => ?_⟩
      have hO1 := hg.oks hO
      have hOg := ah2.gro.oks hO1
      have hin1 := hgin hOg.plain _ _ _ _ _ _ hin
      obtain ⟨y, hy, hyi⟩ : ∃ y, γ ε v y ∧ YieldsIf K.P all (SC ε0 H w1) o y a := by
        rcases hcase with ⟨hw, ⟨hfl, hx⟩ | ⟨hx, _⟩⟩ | ⟨hw, rfl, _⟩
        · obtain ⟨y, h1, h2⟩ := (st_ok hx).2 hO1.plain _ _ _ _ _ hin1
          refine ⟨y, h1, .inl ⟨wanted_eq hin1.tmps hw, fun w' hs => h2 w' fun hld => ?_⟩⟩
          have : fl = false := by
            rw [hld, Bool.and_true] at hfl
            exact hfl
          intro b o hb
          rw [hM this] at hb
          exact hs.1 b o hb
        · obtain ⟨y, h1, h2⟩ := held_yields h0 ha0 hin1 hx
          exact ⟨y, h1, .inl ⟨wanted_eq hin1.tmps hw, h2⟩⟩
        · exact ⟨undef, γ_undef, .inr ⟨wanted_eq hin1.tmps hw, rfl⟩⟩
      have hjr : j ∈ Region.ready .any all listed := by rw [← rdy_ready, hrdy]; exact hj
      refine wpAnyH_first ho (Region.noSelect_spec hsel) (fun c a' w' h => (hnp _ _ _ h).elim) left listed a w ?_ hjr hyi hsc ?_
      · intro k ok hk hkj hun hno
        refine apartAll_spec hap ho hk (Ne.symm hkj) (hasEdge_false hno) ?_
        refine hasEdge_false fun e he' hbe heq => ?_
        obtain ⟨_, o2, ho2, hall⟩ := mem_ready.1 hjr
        rw [ho] at ho2
        simp at ho2
        subst ho2
        have h1 := hall e he' hbe
        rw [heq] at h1
        rcases Nat.lt_or_ge k listed.size with h' | h'
        · simp [h'] at h1 hun; rw [hun] at h1; cases h1
        · simp [Array.getElem?_eq_none h'] at h1
      · refine hN hO hsel hap (ah.base.trans hbase) (ah.rnd.trans hrnd) (by rw [ah.nxt]; exact hle) ε0 ε w1 _ w Q ha0 hM h0 hsc ((hin1.sm ah2.sm).put hy _) (fun a' w' hp => hQ a' w' (hp.of ah.nxt.symm)) hnp
    · split at hl <;> try (simp at hl; done)
      rename_i e1 A1 S1 h1
      obtain ⟨he1, hg1, hd1, hN1⟩ := hr _ _ h1
      obtain ⟨e, A', S'⟩ := out
      obtain ⟨he, rfl, hg2, hs2, hN2⟩ := hr _ _ hl
      refine ⟨he, hg1.trans hg2, by rw [hs2.dl]; exact hd1, fun hO hsel hap hbase hrnd hle ε0 ε w1 a w Q ha0 hM h0 hsc hin hQ hnp => ?_⟩
      have hmem : ∀ k, k ∈ Region.ready .any all listed → k = i ∨ k ∈ is := by
        intro k hk
        rw [← rdy_ready, hrdy] at hk
        simpa using hk
      refine ⟨fun h => ?_, fun k hk => ?_⟩
      · have : i ∈ Region.ready .any all listed := by rw [← rdy_ready, hrdy]; exact List.mem_cons_self
        rw [h] at this
        cases this
      · rcases hmem k hk with rfl | hk'
        · exact hN1 (hg2.oks hO) hsel hap hbase hrnd hle ε0 ε w1 a w Q ha0 hM h0 hsc hin (fun a' w' hp => hQ a' w' (hp.sm hs2)) hnp
        · exact hN2 hO hg1.base hg1.rnd hd1 hsel hap hbase hrnd hle ε0 ε w1 a w Q ha0 hM h0 hsc hin hQ hnp k hk'

theorem rest_ok {K : Cfg} {r : Rec} (hr : ROk K B w0 r) {H : List Nat} {S0 : St} {fl : Bool} {all : Array Oper} {left : Nat} {listed : Array Bool} {is : List Nat} {A A1 : List AV} {S1 : St} {out : Out}
    (hl : restF r H S0 fl all left listed is A S A1 S1 = some out) : JobOk K B w0 (.rest H S0 fl all left listed is A S A1 S1) out := by
  unfold restF at hl
  split at hl
  · simp at hl; subst hl
    exact ⟨rfl, rfl, Gro.refl _, Sm.refl _, fun _ _ _ _ _ _ _ _ _ _ _ _ _ _ _ _ _ _ _ _ _ _ i hi => by cases hi⟩
  · rename_i j js
    split at hl <;> try (simp at hl; done)
    rename_i e2 A2 S2 h2
    obtain ⟨he2, hg2, hd2, hN⟩ := hr _ _ h2
    obtain ⟨e, A', S'⟩ := out
    obtain ⟨he, hA, hg3, hs3, hN2⟩ := hr _ _ hl
    have g12 : Gro S1 { S1 with orc := S2.orc, obl := .ok (sameEnd A2 S2 A1 S1) :: S2.obl } := by
      obtain ⟨l, hl⟩ := hg2.obl
      have hl : S2.obl = l ++ S1.obl := hl
      exact ⟨rfl, rfl, .ok (sameEnd A2 S2 A1 S1) :: l, by show _ :: S2.obl = _; rw [hl]; rfl⟩
    have s12 : Sm S1 S' := ⟨hs3.ov, hs3.base, hs3.nxt, hs3.dl⟩
    refine ⟨he, hA, g12.trans hg3, s12, fun hO hb hrn hd hsel hap hbase hrnd hle ε0 ε w1 a w Q ha0 hM h0 hsc hin hQ hnp i hi => ?_⟩
    have hO3 := hg3.oks hO
    rcases List.mem_cons.1 hi with rfl | hi
    · have hsame : sameEnd A2 S2 A1 S1 := hO3 (.ok (sameEnd A2 S2 A1 S1)) (by simp)
      have hO2 : Oks K.P K.G B w0 S2.obl := fun o ho => hO3 o (List.mem_cons_of_mem _ ho)
      obtain ⟨hA2, hov, hnx⟩ := hsame
      have sm2 : Sm S2 S' := ⟨by rw [hs3.ov]; exact hov.symm, by rw [hs3.base, hg2.base]; exact hb, by rw [hs3.nxt]; exact hnx.symm, by rw [hs3.dl, hd2]; exact hd⟩
      have := hN hO2 hsel hap hbase hrnd hle ε0 ε w1 a w Q ha0 hM h0 hsc (hin.sm ⟨rfl, rfl, rfl, rfl⟩) (fun a' w' hp => hQ a' w' (by
        have hp' : Post K.G B w0 ε S A2 S2 a' w' := hp.of rfl
        rw [hA2] at hp'
        rw [hA]
        exact hp'.sm sm2)) hnp
      exact this
    · exact hN2 hO hb hrn hd hsel hap hbase hrnd hle ε0 ε w1 a w Q ha0 hM h0 hsc hin hQ hnp i hi

theorem one_ok {K : Cfg} {r : Rec} (hK : KOk K) (hr : ROk K B w0 r) {H : List Nat} {S0 : St} {fl : Bool} {all : Array Oper} {left : Nat} {listed : Array Bool} {i : Nat} {A : List AV} {out : Out}
    (hl : oneF K r H S0 fl all left listed i A S = some out) : JobOk K B w0 (.one H S0 fl all left listed i A S) out := by
  unfold oneF at hl
  split at hl <;> try (simp at hl; done)
  rename_i o ho
  split at hl <;> try (simp at hl; done)
  rename_i A1 Sg hgd
  obtain ⟨ah1, hgin⟩ := gd_ok hgd
  obtain ⟨e, A', S'⟩ := out
  split at hl <;> try (simp at hl; done)
  · rename_i hw
    split at hl
    · -- a pure call
      rename_i v S2 hp
      obtain ⟨he, hg, hd, hN⟩ := hr _ _ hl
      obtain ⟨ah2, hdo⟩ := pure_ok (B := B) (w0 := w0) hp
      have ah := ah1.trans ah2
      refine ⟨he, ah.gro.trans hg, hd.trans ah.dl, fun hO hsel hap hbase hrnd hle ε0 ε w1 a w Q ha0 hM h0 hsc hin hQ hnp => ?_⟩
      have hO2 := hg.oks hO
      have hin1 := hgin (ah2.gro.oks hO2).plain _ _ _ _ _ _ hin
      unfold wpOp
      simp only [ho, wanted_eq hin1.tmps hw, if_true]
      refine .inl ((hdo hO2 false ε a w none hin1).wp fun a1 w2 hp => ?_)
      obtain ⟨hb, ε1, h1, h2, h3⟩ := hp
      have hn : Sg.nxt = S.nxt := ah1.nxt
      rw [hn] at h1 h3
      have ha1 : ε0.agr S0.nxt ε1 := Env.agr_trans ha0 h1 hle
      have hsc' : SC ε0 H w1 w2 := ⟨fun b o' hM' => h2.rel.mem b o' (ha1.m b o' hM'), fun i hi b o' hb1 hb2 => by
        have := hsc.2 i hi b o' hb1 hb2
        rw [hb.block b (Array.getElem?_eq_some_iff.1 this).1]
        exact this⟩
      refine ⟨hsc', hN hO hsel hap (ah.base.trans hbase) (ah.rnd.trans hrnd) (Nat.le_trans hle h3) ε0 ε1 w1 a1 w2 Q ha1 (fun h => by cases h) h0 hsc' h2 (fun a' w' hp' => hQ a' w' (hp'.trans h1 h3)) hnp⟩
    · split at hl
      · -- a steady operation
        rename_i v S2 hs
        obtain ⟨he, hg, hd, hN⟩ := hr _ _ hl
        obtain ⟨ah2, hst⟩ := st_ok hs
        have ah := ah1.trans ah2
        refine ⟨he, ah.gro.trans hg, hd.trans ah.dl, fun hO hsel hap hbase hrnd hle ε0 ε w1 a w Q ha0 hM h0 hsc hin hQ hnp => ?_⟩
        have hO2 := hg.oks hO
        have hin1 := hgin (ah2.gro.oks hO2).plain _ _ _ _ _ _ hin
        obtain ⟨y, hy, hrun⟩ := hst hO2.plain _ _ _ _ _ hin1
        unfold wpOp
        simp only [ho, wanted_eq hin1.tmps hw, if_true]
        have hdoes : Does K.P false none o a w (fun a' w' => a' = a.put o.dst y ∧ w' = w) := by
          unfold Does
          rw [hrun w fun _ => hin1.rel.mem]
          exact ⟨rfl, rfl⟩
        refine .inl (hdoes.wp fun a1 w2 hp => ?_)
        obtain ⟨rfl, rfl⟩ := hp
        refine ⟨hsc, hN hO hsel hap (ah.base.trans hbase) (ah.rnd.trans hrnd) (by rw [ah.nxt]; exact hle) ε0 ε w1 _ _ Q ha0 hM h0 hsc ((hin1.sm ah2.sm).put hy _) (fun a' w' hp => hQ a' w' (hp.of ah.nxt.symm)) hnp⟩
      · split at hl <;> try (simp at hl; done)
        split at hl <;> try (simp at hl; done)
        rename_i e1 A2 S2 hs
        obtain ⟨he, hg, hd, hN⟩ := hr _ _ hl
        obtain ⟨rfl, hg1, hd1, hdo⟩ := step_ok hK hr hs
        refine ⟨he, (ah1.gro.trans hg1).trans hg, hd.trans ((hd1 rfl).trans ah1.dl), fun hO hsel hap hbase hrnd hle ε0 ε w1 a w Q ha0 hM h0 hsc hin hQ hnp => ?_⟩
        have hO2 := hg.oks hO
        have hin1 := hgin (hg1.oks hO2).plain _ _ _ _ _ _ hin
        unfold wpOp
        simp only [ho, wanted_eq hin1.tmps hw, if_true]
        refine .inl ((hdo hO2 ε a w none hin1 (by rw [ah1.rnd, hrnd]; rfl)).wp fun a1 w2 hp => ?_)
        obtain ⟨ε1, h1, h2, h3⟩ := hp
        have hn : Sg.nxt = S.nxt := ah1.nxt
        rw [hn] at h1 h3
        have ha1 : ε0.agr S0.nxt ε1 := Env.agr_trans ha0 h1 hle
        have hsc' : SC ε0 [] w1 w2 := ⟨fun b o' hM' => h2.rel.mem b o' (ha1.m b o' hM'), fun i hi => by simp [memN] at hi⟩
        refine ⟨hsc', hN hO hsel hap ((hg1.base.trans ah1.base).trans hbase) ((hg1.rnd.trans ah1.rnd).trans hrnd) (Nat.le_trans hle h3) ε0 ε1 w1 a1 w2 Q ha1 (fun h => by cases h) h0 hsc' h2 (fun a' w' hp' => hQ a' w' (hp'.trans h1 h3)) hnp⟩
  · rename_i hw
    obtain ⟨he, hg, hd, hN⟩ := hr _ _ hl
    refine ⟨he, ah1.gro.trans hg, hd.trans ah1.dl, fun hO hsel hap hbase hrnd hle ε0 ε w1 a w Q ha0 hM h0 hsc hin hQ hnp => ?_⟩
    have hin1 := hgin (hg.oks hO).plain _ _ _ _ _ _ hin
    unfold wpOp
    simp only [ho, wanted_eq hin1.tmps hw, Bool.false_eq_true, if_false]
    exact ⟨hsc, hN hO hsel hap (ah1.base.trans hbase) (ah1.rnd.trans hrnd) (by rw [ah1.nxt]; exact hle) ε0 ε w1 _ w Q ha0 hM h0 hsc (hin1.put γ_undef _) (fun a' w' hp => hQ a' w' (hp.of ah1.nxt.symm)) hnp⟩
end
end
end Go.Ex
/- The executor with an oracle, part 11: it is sound. -/
namespace Go.Ex
open Go.RowKit
noncomputable section
section
variable {P : Program} {G B : Nat} {w0 w : World} {ε : Env} {S : St}

theorem code_ok {K : Cfg} {r : Rec} (hK : KOk K) (hr : ROk K B w0 r) {c : Code} {A : List AV} {out : Out} (hl : codeF K r c A S = some out) : JobOk K B w0 (.code c A S) out := by
  obtain ⟨e, A', S'⟩ := out
  unfold codeF at hl
  split at hl <;> try (simp at hl; done)
  · simp at hl; obtain ⟨rfl, rfl, rfl⟩ := hl
    exact ⟨Gro.refl _, fun _ ε a w rr h _ => wpIn_skip ⟨rfl, Post.refl h⟩⟩
  · simp at hl; obtain ⟨rfl, rfl, rfl⟩ := hl
    exact ⟨Gro.refl _, fun _ ε a w rr h _ => wpIn_label ⟨rfl, Post.refl h⟩⟩
  · rename_i x y
    unfold codeSeq at hl
    split at hl
    · rename_i A1 S1 h1
      obtain ⟨hg1, hw1⟩ := hr _ _ h1
      obtain ⟨hg2, hw2⟩ := hr _ _ hl
      refine ⟨hg1.trans hg2, fun hO ε a w rr h hrr => wpIn_seq ?_⟩
      refine wpIn_mono (hw1 (hg2.oks hO) ε a w rr h hrr) fun e' a1 w1 hq => ?_
      obtain ⟨rfl, ε1, ha, hin, hn⟩ := hq
      refine wpIn_mono (hw2 hO ε1 a1 w1 rr hin (by rw [hg1.rnd]; exact hrr.mono ha (h.rel.le ha))) fun e' a2 w2 hq => ?_
      exact ⟨hq.1, hq.2.trans ha hn⟩
    · rename_i hne
      obtain ⟨hg1, hw1⟩ := hr _ _ hl
      have hen : e ≠ .normal := by rintro rfl; exact hne _ _ hl
      refine ⟨hg1, fun hO ε a w rr h hrr => wpIn_seq ?_⟩
      refine wpIn_mono (hw1 hO ε a w rr h hrr) fun e' a1 w1 hq => ?_
      obtain ⟨rfl, hp⟩ := hq
      exact then_of_ne hen ⟨rfl, hp⟩
  · rename_i c x y
    unfold codeCond at hl
    split at hl <;> try (simp at hl; done)
    · rename_i hev
      obtain ⟨hg1, hw1⟩ := hr _ _ hl
      refine ⟨hg1, fun hO ε a w rr h hrr => ?_⟩
      have := ev_γ h.rel h.ar hev
      simp only [γ] at this
      exact wpIn_cond_true this (hw1 hO ε a w rr h hrr)
    · rename_i hev
      obtain ⟨hg1, hw1⟩ := hr _ _ hl
      refine ⟨hg1, fun hO ε a w rr h hrr => ?_⟩
      have := ev_γ h.rel h.ar hev
      simp only [γ] at this
      exact wpIn_cond_false this (hw1 hO ε a w rr h hrr)
    · rename_i b hev
      split at hl <;> try (simp at hl; done)
      · rename_i S1 hb
        obtain ⟨ah, hbe⟩ := takeBr_ahead hb
        obtain ⟨hg1, hw1⟩ := hr _ _ hl
        refine ⟨ah.gro.trans hg1, fun hO ε a w rr h hrr => ?_⟩
        have hbt := hbe (hg1.oks hO).plain
        have := ev_γ h.rel h.ar hev
        simp only [γ, hbt] at this
        refine wpIn_cond_true this (wpIn_mono (hw1 hO ε a w rr (h.sm ah.sm) (by rw [ah.rnd]; exact hrr)) fun e' a1 w1 hq => ⟨hq.1, hq.2.of ah.nxt.symm⟩)
      · rename_i S1 hb
        obtain ⟨ah, hbe⟩ := takeBr_ahead hb
        obtain ⟨hg1, hw1⟩ := hr _ _ hl
        refine ⟨ah.gro.trans hg1, fun hO ε a w rr h hrr => ?_⟩
        have hbt := hbe (hg1.oks hO).plain
        have := ev_γ h.rel h.ar hev
        simp only [γ, hbt] at this
        refine wpIn_cond_false this (wpIn_mono (hw1 hO ε a w rr (h.sm ah.sm) (by rw [ah.rnd]; exact hrr)) fun e' a1 w1 hq => ⟨hq.1, hq.2.of ah.nxt.symm⟩)
  · rename_i id body
    unfold codeBlock at hl
    split at hl
    · rename_i id' A1 S1 h1
      simp only [Option.some.injEq, Prod.mk.injEq] at hl
      obtain ⟨rfl, rfl, rfl⟩ := hl
      obtain ⟨hg1, hw1⟩ := hr _ _ h1
      refine ⟨hg1, fun hO ε a w rr h hrr => wpIn_block ?_⟩
      refine wpIn_mono (hw1 hO ε a w rr h hrr) fun e' a1 w1 hq => ?_
      obtain ⟨rfl, hp⟩ := hq
      simp only [XE.out, Exit.inBlock]
      split
      · rename_i hid; simp [hid, hp]
      · rename_i hid; simp [hid, hp]
    · rename_i hne
      obtain ⟨hg1, hw1⟩ := hr _ _ hl
      refine ⟨hg1, fun hO ε a w rr h hrr => wpIn_block ?_⟩
      refine wpIn_mono (hw1 hO ε a w rr h hrr) fun e' a1 w1 hq => ?_
      obtain ⟨rfl, hp⟩ := hq
      cases e with
      | normal => exact ⟨rfl, hp⟩
      | ret => exact ⟨rfl, hp⟩
      | exit id' => exact (hne _ _ _ hl).elim
  · obtain ⟨hg1, hw1⟩ := hr _ _ hl
    refine ⟨hg1, fun hO ε a w rr h hrr => ?_⟩
    obtain ⟨m, hm⟩ := hw1 hO
    exact wpIn_loop_rounds m (hm ε a w rr h hrr _ fun a' w' hp => ⟨rfl, hp⟩)
  · rename_i body
    split at hl <;> try (simp at hl; done)
    rename_i hrnd
    obtain ⟨hg1, hw1⟩ := hr _ _ hl
    refine ⟨hg1, fun hO ε a w rr h hrr => ?_⟩
    have hrr' := hrr
    rw [hrnd] at hrr'
    have hrr' : rr = none := hrr'
    subst hrr'
    refine (wpIn_wide (n := 0)).2 (wp_scope_straight ((wpIn_wide (n := 0)).1 ?_))
    refine wpIn_mono (hw1 hO ε a w none h hrr) fun e' a1 w1 hq => ?_
    obtain ⟨rfl, hp⟩ := hq
    cases e <;> exact ⟨rfl, hp⟩
  · simp at hl; obtain ⟨rfl, rfl, rfl⟩ := hl
    exact ⟨Gro.refl _, fun _ ε a w rr h _ => wpIn_exit ⟨rfl, Post.refl h⟩⟩
  · simp at hl; obtain ⟨rfl, rfl, rfl⟩ := hl
    exact ⟨Gro.refl _, fun _ ε a w rr h _ => wpIn_ret ⟨rfl, Post.refl h⟩⟩
  · obtain ⟨rfl, hg1, hw1⟩ := ops_ok hK hr hl
    exact ⟨hg1, fun hO ε a w rr h hrr => wpIn_region_list (hw1 hO ε a w rr h hrr _ fun a' w' hp => ⟨rfl, hp⟩)⟩
  · rename_i id ops
    unfold codeDraw at hl
    split at hl <;> try (simp at hl; done)
    rename_i H rest hrnd horc hc
    simp only [Bool.and_eq_true] at hc
    obtain ⟨rfl, hg1, hd1, hN⟩ := hr _ _ hl
    refine ⟨⟨hg1.base, hg1.rnd, hg1.obl⟩, fun hO ε a w rr h hrr => ?_⟩
    rw [hrnd] at hrr
    have hrr : rr = none := hrr
    subst hrr
    refine (wpIn_wide (n := 0)).2 (wp_region_held (S := SC ε H w.drew) hK.mixed ?_)
    have hin : In K.G B w0 ε { S with orc := rest } A a w.drew := ⟨h.rel.drew.congr rfl rfl rfl, h.tmps, h.dl⟩
    exact hN hO hc.1 hc.2 rfl hrnd (Nat.le_refl _) ε ε w.drew a w.drew _ (Env.agr_refl _ _) (fun _ => rfl) h.rel.drew ⟨h.rel.drew.mem, fun i _ b o _ hb => hb⟩ hin (fun a' w' hp => ⟨rfl, hp.of rfl⟩) (fun c a w hq => by cases hq.1)
  · exact range_ok hK hr hl

/-- **The executor is sound.** -/
theorem X_ok {K : Cfg} (hK : KOk K) (B : Nat) (w0 : World) : ∀ n, ROk K B w0 (X K n)
  | 0, job, out, h => by simp [X] at h
  | n + 1, job, out, h => by
    have hr := X_ok hK B w0 n
    have h : XF K (X K n) job = some out := h
    cases job with
    | code c A S => exact code_ok hK hr h
    | rounds c A S => exact rounds_ok hr h
    | call f args S => exact call_ok hK hr h
    | draw => exact draw_ok hr h
    | rest => exact rest_ok hr h
    | one => exact one_ok hK hr h
end
end
end Go.Ex
