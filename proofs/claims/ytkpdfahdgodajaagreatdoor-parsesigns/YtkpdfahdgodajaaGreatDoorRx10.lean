/- The reflective executor, part 10: one operation of whatever kind. -/
import Derived.Test.YtkpdfahdgodajaaGreatDoorRx9
import Derived.RangeFuncRecord
import Derived.Stop.Asserts
namespace Go.Rx
noncomputable section
open Go.RowKit
section
variable {P : Program} {G B : Nat} {w0 w : World} {ε : Env} {S : St}

def funcOk (P : Program) (f : FuncId) : Bool :=
  match P.funcs[f]? with
  | some fn => fn.body.isSome && !(fn.name == "runtime.NumGoroutine")
  | none => false
theorem callFunc_enter {f : FuncId} (h : funcOk P f = true) (args : Array Value) : (callFunc f args).run P w = .ok (.enter f args) w := by
  unfold funcOk at h
  split at h <;> try (simp at h; done)
  rename_i fn hf
  simp only [Bool.and_eq_true, Bool.not_eq_true'] at h
  obtain ⟨h1, h2⟩ := h
  have h3 : fn.body.isNone = false := by cases hb : fn.body <;> simp [hb] at h1 ⊢
  simp only [callFunc, Sem.run_bind, run_program, Result.andThen_ok, hf, h2, h3, Bool.false_eq_true, if_false, Sem.run_pure]
mutual
/-- A closed value: no address but of package-level variables and type handles. -/
def clo (G : Nat) : AV → Option Value
  | .int k n => some (.int k n)
  | .bool b => some (.bool b)
  | .flt k n => some (.float k n)
  | .str s => if okb s then some (.string (bs s)) else none
  | .ptr i off => if i < G then some (.pointer (some ⟨i, off, none⟩)) else none
  | .nilptr => some (.pointer none)
  | .nilslc => some (.slice none 0 0)
  | .nilmap => some (.map none)
  | .nilfunc => some .nilFunc
  | .niliface => some .nilIface
  | .iface t v => match clo G v with
    | some x => some (.iface t x)
    | none => none
  | .agg l => match clos G l with
    | some xs => some (.agg xs.toArray)
    | none => none
  | .tup l => match clos G l with
    | some xs => some (.tuple xs.toArray)
    | none => none
  | _ => none
def clos (G : Nat) : List AV → Option (List Value)
  | [] => some []
  | v :: l => match clo G v with
    | some x => match clos G l with
      | some xs => some (x :: xs)
      | none => none
    | none => none
end
mutual
theorem clo_γ (hg : ∀ g, g < G → ε.δ g = some g) : ∀ (v : AV) (x : Value), clo G v = some x → γ ε v = some x
  | .int k n, x, h => by simpa [clo, γ] using h
  | .bool b, x, h => by simpa [clo, γ] using h
  | .flt k n, x, h => by simpa [clo, γ] using h
  | .str s, x, h => by simpa [clo, γ] using h
  | .ptr i off, x, h => by
    simp only [clo] at h
    split at h <;> simp at h
    rename_i hi
    simp [γ, hg i hi, h]
  | .nilptr, x, h => by simpa [clo, γ] using h
  | .nilslc, x, h => by simpa [clo, γ] using h
  | .nilmap, x, h => by simpa [clo, γ] using h
  | .nilfunc, x, h => by simpa [clo, γ] using h
  | .niliface, x, h => by simpa [clo, γ] using h
  | .slc i off len c, x, h => by simp [clo] at h
  | .yld i, x, h => by simp [clo] at h
  | .zs .., x, h => by simp [clo] at h
  | .func fn a c, x, h => by simp [clo] at h
  | .iface t v, x, h => by
    simp only [clo] at h
    split at h <;> simp at h
    rename_i y hy
    simp [γ, clo_γ hg v y hy, h]
  | .agg l, x, h => by
    simp only [clo] at h
    split at h <;> simp at h
    rename_i y hy
    simp [γ, clos_γ hg l y hy, h]
  | .tup l, x, h => by
    simp only [clo] at h
    split at h <;> simp at h
    rename_i y hy
    simp [γ, clos_γ hg l y hy, h]
theorem clos_γ (hg : ∀ g, g < G → ε.δ g = some g) : ∀ (l : List AV) (xs : List Value), clos G l = some xs → γs ε l = some xs
  | [], xs, h => by simp [clos] at h; subst h; rfl
  | v :: l, xs, h => by
    simp only [clos] at h
    split at h <;> try (simp at h; done)
    rename_i x hx
    split at h <;> simp at h
    rename_i ys hy
    subst h
    exact γs_cons.2 ⟨x, ys, clo_γ hg v x hx, clos_γ hg l ys hy, rfl⟩
end
def cvg (G : Nat) : Nat → Value → Option AV
  | 0, _ => none
  | n + 1, v => match v with
    | .pointer (some ⟨b, off, none⟩) => if b < G then some (.ptr b off) else none
    | .iface t v => match cvg G n v with
      | some u => some (.iface t u)
      | none => none
    | .agg cs => match cvs (cvg G n) cs.toList with | some l => some (.agg l) | none => none
    | .tuple cs => match cvs (cvg G n) cs.toList with | some l => some (.tup l) | none => none
    | v => cv 2 v
theorem cvg_sound (hg : ∀ g, g < G → ε.δ g = some g) : ∀ (n : Nat) (v : Value) (u : AV), cvg G n v = some u → γ ε u = some v
  | 0, v, u, h => by simp [cvg] at h
  | n + 1, v, u, h => by
    simp only [cvg] at h
    split at h
    · split at h <;> simp at h
      rename_i b off hb
      subst h
      simp [γ, hg b hb]
    · split at h <;> simp at h
      rename_i x hx
      subst h
      simp [γ, cvg_sound hg n _ _ hx]
    · split at h <;> simp at h
      rename_i l hl
      subst h
      have := cvs_sound (ε := ε) (cvg_sound hg n) _ _ hl
      simp [γ, this]
    · split at h <;> simp at h
      rename_i l hl
      subst h
      have := cvs_sound (ε := ε) (cvg_sound hg n) _ _ hl
      simp [γ, this]
    · exact cv_sound ε 2 _ _ h

/-- Handlers of functions without a body. -/
abbrev Ext := FuncId → List AV → St → Option NX
def EOk (P : Program) (G : Nat) (E : Ext) : Prop := ∀ (B : Nat) (w0 : World) (ε : Env) (S : St) (w : World) (f : FuncId) (args : List AV) (xs : List Value) (n : NX),
  Rel G B w0 ε S w → γs ε args = some xs → E f args S = some n → Means G B w0 ε S ((callFunc f xs.toArray).run P w) n
/-- A call of function f. -/
def xEnter (P : Program) (G : Nat) (E : Ext) (f : FuncId) (args : List AV) (S : St) : Option NX :=
  if funcOk P f then some (.enter f args S)
  else match E f args S with
  | some n => some n
  | none => match clos G args with
    | some xs => match pureM P (callFunc f xs.toArray) with
      | some (.value v) => match cvg G 4 v with
        | some u => some (.val u S)
        | none => none
      | _ => none
    | none => none
theorem enter_means (h : Rel G B w0 ε S w) {E : Ext} (hE : EOk P G E) {f : FuncId} {args : List AV} {xs : List Value} {n : NX} (hx : γs ε args = some xs) (hl : xEnter P G E f args S = some n) :
    Means G B w0 ε S ((callFunc f xs.toArray).run P w) n := by
  unfold xEnter at hl
  split at hl
  · rename_i hf
    simp at hl; subst hl
    exact ⟨xs, w, ε, callFunc_enter hf _, Env.agr_refl _ _, hx, h, Nat.le_refl _⟩
  · split at hl
    · rename_i n' hn
      simp at hl; subst hl
      exact hE B w0 ε S w f args xs n' h hx hn
    · split at hl <;> try (simp at hl; done)
      rename_i ys hys
      have := clos_γ (ε := ε) h.glob args ys hys
      rw [hx] at this; simp at this; subst this
      split at hl <;> try (simp at hl; done)
      rename_i v hv
      split at hl <;> simp at hl
      rename_i u hu
      subst hl
      exact ⟨v, w, ε, pureM_run hv w, Env.agr_refl _ _, cvg_sound h.glob 4 v u hu, h, Nat.le_refl _⟩

def xFollow (P : Program) : List FieldStep → TypeId → AV → Option (TypeId × AV)
  | [], t, v => some (t, v)
  | s :: rest, _, v =>
    if s.deref then none else match v, fieldT P s.struct s.index with
    | .agg cs, some f => match xPart P f.type cs f.offset with
      | some u => xFollow P rest f.type u
      | none => none
    | _, _ => none
theorem follow_run : ∀ {l : List FieldStep} {t t' : TypeId} {v u : AV} {x : Value}, γ ε v = some x → xFollow P l t v = some (t', u) →
    ∃ y, γ ε u = some y ∧ ∀ w, (follow l t (.val x)).run P w = .ok (t', .val y) w
  | [], t, t', v, u, x, hv, h => by
    simp [xFollow] at h
    obtain ⟨rfl, rfl⟩ := h
    exact ⟨x, hv, fun w => rfl⟩
  | s :: rest, t, t', v, u, x, hv, h => by
    simp only [xFollow] at h
    split at h <;> try (simp at h; done)
    rename_i hd
    split at h <;> try (simp at h; done)
    rename_i cs f hf
    split at h <;> try (simp at h; done)
    rename_i u' hu'
    obtain ⟨fs, h1, h2⟩ := fieldT_spec hf
    simp only [γ, Option.map_eq_some_iff] at hv
    obtain ⟨xs, hxs, rfl⟩ := hv
    obtain ⟨y, h3, h4⟩ := part_means (P := P) (xs := xs.toArray) (by simpa using hxs) hu'
    obtain ⟨z, h5, h6⟩ := follow_run h4 h
    refine ⟨z, h5, fun w => ?_⟩
    simp [follow, run_underlying h1, h2, hd, h3, h6]
def xMethod (P : Program) (t : TypeId) (v : AV) (name : String) : Option (FuncId × AV) :=
  match P.info? t with
  | some i => match i.methods.find? (·.name == name) with
    | some m => match xFollow P m.path.toList t v with
      | some (xt, u) => match m.func, P.underlying xt with
        | some (f, true), some (.pointer _) => some (f, u)
        | some (_, false), some (.pointer _) => none
        | some (f, false), some _ => some (f, u)
        | _, _ => none
      | none => none
    | none => none
  | none => none
theorem method_run {t : TypeId} {v u : AV} {x : Value} {name : String} {f : FuncId} (hv : γ ε v = some x) (h : xMethod P t v name = some (f, u)) :
    ∃ y, γ ε u = some y ∧ (method (P.types.size + Made.depth) t x name).run P w = .ok (f, y) w := by
  unfold xMethod at h
  split at h <;> try (simp at h; done)
  rename_i i hi
  split at h <;> try (simp at h; done)
  rename_i m hm
  split at h <;> try (simp at h; done)
  rename_i xt u' hfo
  obtain ⟨y, hy, hfr⟩ := follow_run hv hfo
  obtain ⟨k, hk⟩ : ∃ k, P.types.size + Made.depth = k + 1 := ⟨P.types.size + Made.depth - 1, by unfold Made.depth; omega⟩
  rw [hk]
  split at h <;> simp at h
  · rename_i f' e hf ht
    obtain ⟨rfl, rfl⟩ := h
    refine ⟨y, hy, ?_⟩
    simp only [method, Sem.run_bind, typeInfo, run_program, Result.andThen_ok, hi, Sem.run_pure, hm, hfr, hf, receiverAt, run_underlying ht]
    simp [Place.get]
  · rename_i f' d hne hf ht
    obtain ⟨rfl, rfl⟩ := h
    refine ⟨y, hy, ?_⟩
    simp only [method, Sem.run_bind, typeInfo, run_program, Result.andThen_ok, hi, Sem.run_pure, hm, hfr, hf, receiverAt, run_underlying ht]
    cases d <;> first | (exact absurd rfl (hne _)) | simp [Place.get]

/-- The parameters of a round set. -/
def setAll : List (Tmp × AV) → List AV → List AV
  | [], A => A
  | (t, v) :: l, A => setAll l (A.set t v)
theorem setAll_γ : ∀ {ps : List Tmp} {args : List AV} {xs : List Value} {A : List AV} {ys : Array Value}, γs ε args = some xs → γs ε A = some ys.toList →
    γs ε (setAll (ps.zip args) A) = some ((ps.zip xs).foldl (fun tmps (t, a) => tmps.setIfInBounds t a) ys).toList
  | [], args, xs, A, ys, hx, hA => by simpa [setAll] using hA
  | p :: ps, [], xs, A, ys, hx, hA => by
    rw [γs_nil] at hx; subst hx
    simpa [setAll] using hA
  | p :: ps, v :: args, xs, A, ys, hx, hA => by
    obtain ⟨x, xs', h1, h2, rfl⟩ := γs_cons.1 hx
    simp only [List.zip_cons_cons, setAll, List.foldl_cons]
    exact setAll_γ h2 (by simpa using γs_set hA p h1)
theorem invoke_method (name : String) (x : Value) (l : List Value) : invoke (.fn (.method name) #[]) (x :: l).toArray = callMethod x name l.toArray := by simp [invoke]
def xCall (P : Program) (G : Nat) (E : Ext) (A : List AV) (S : St) (c : Call) (ty : TypeId) : Option NX :=
  match evs G A c.args.toList with
  | some args =>
    match c.callee with
    | .builtin b => match xBuiltin P b c.argTypes ty args S with
      | some (u, S') => some (.val u S')
      | none => none
    | .value f => match ev G A f with
      | some (.func (.func g) first captured) => xEnter P G E g (first ++ args ++ captured) S
      | some (.yld i) => match S.get i with
        | some (.lp _ _ A' ps assign body _) => if args.length = ps.size then some (.round i (setAll (ps.toList.zip args) A') assign body S) else none
        | _ => none
      | _ => none
    | .invoke r name => match ev G A r with
      | some (.iface t v) => match xMethod P t v name with
        | some (f, u) => xEnter P G E f (u :: args) S
        | none => none
      | _ => none
  | none => none
theorem call_means (h : Rel G B w0 ε S w) {E : Ext} (hE : EOk P G E) {ds : List Deferred} {A : List AV} {a : Act} (ha : AR ε ds A a) {c : Call} {ty : TypeId} {n : NX} (hl : xCall P G E A S c ty = some n) :
    Means G B w0 ε S ((do let d ← resolve a.eval c ty; invoke d.target d.args : Sem Next).run P w) n := by
  unfold xCall at hl
  split at hl <;> try (simp at hl; done)
  rename_i args hargs
  have hx := evs_γ h ha hargs
  have hmap : (c.args.map a.eval) = (c.args.toList.map a.eval).toArray := by apply Array.ext'; simp
  split at hl
  · rename_i b hb
    split at hl <;> simp at hl
    rename_i u S' hu
    subst hl
    have := builtin_means (cs := c.args.map fun | .const _ => true | _ => false) h hx hu
    have e : ((do let d ← resolve a.eval c ty; invoke d.target d.args : Sem Next).run P w) = (builtin b c.argTypes ty (c.args.map fun | .const _ => true | _ => false) (c.args.toList.map a.eval).toArray).run P w := by
      simp only [resolve, hb, Sem.run_bind, Sem.run_pure, Result.andThen_ok, invoke, hmap]
      rfl
    rw [e]
    exact this
  · rename_i f hf
    split at hl <;> try (simp at hl; done)
    case h_2 =>
      rename_i i hev
      split at hl <;> try (simp at hl; done)
      rename_i st pend A' ps assign body D hget
      split at hl <;> simp at hl
      rename_i hlen
      subst hl
      have hfv := ev_γ h ha hev
      simp only [γ, Option.map_eq_some_iff] at hfv
      obtain ⟨l, h1, h2⟩ := hfv
      obtain ⟨b, o, h3, h4, ⟨fn, xs, d, h5, h6, rfl⟩, _⟩ := h.live _ _ hget
      rw [h1] at h3
      simp at h3
      subst h3
      have e : ((do let d ← resolve a.eval c ty; invoke d.target d.args : Sem Next).run P w) = (Instr.yield l (c.args.toList.map a.eval).toArray).run P w := by
        simp only [resolve, hf, Sem.run_bind, ← h2, Deferred.ofValue, Sem.run_pure, Result.andThen_ok, invoke, hmap]
        simp
      rw [e, run_yield h4 (by simp [← hlen, ← γs_length hx])]
      have hA := setAll_γ (ps := ps.toList) (args := args) (ys := xs.toArray) hx (by simpa using h5)
      refine ⟨l, fn, _, w, ε, ?_, Env.agr_refl _ _, h1, hA, h, Nat.le_refl _⟩
      simp only [Result.ok.injEq, Next.round.injEq, and_self, and_true, true_and]
      have : ps.zip (c.args.toList.map a.eval).toArray = (ps.toList.zip (c.args.toList.map a.eval)).toArray := by apply Array.ext'; simp
      rw [this]
      simp
    rename_i g first captured hev
    have hfv := ev_γ h ha hev
    simp only [γ, Option.bind_eq_some_iff, Option.map_eq_some_iff] at hfv
    obtain ⟨xs, h1, ys, h2, h3⟩ := hfv
    have := enter_means h hE (γs_append (γs_append h1 hx) h2) hl
    have e : ((do let d ← resolve a.eval c ty; invoke d.target d.args : Sem Next).run P w) = (callFunc g (xs ++ c.args.toList.map a.eval ++ ys).toArray).run P w := by
      simp only [resolve, hf, Sem.run_bind, ← h3, Deferred.ofValue, Sem.run_pure, Result.andThen_ok, invoke, hmap]
      simp
    rw [e]
    exact this
  · rename_i r name hr
    split at hl <;> try (simp at hl; done)
    rename_i t v hev
    split at hl <;> try (simp at hl; done)
    rename_i f u hm
    have hrv := ev_γ h ha hev
    simp only [γ, Option.map_eq_some_iff] at hrv
    obtain ⟨y, h1, h2⟩ := hrv
    obtain ⟨z, h4, h3⟩ := method_run (w := w) h1 hm
    have := enter_means h hE (γs_cons.2 ⟨z, _, h4, hx, rfl⟩) hl
    have e : ((do let d ← resolve a.eval c ty; invoke d.target d.args : Sem Next).run P w) = (callFunc f (z :: c.args.toList.map a.eval).toArray).run P w := by
      have e2 : #[a.eval r] ++ c.args.map a.eval = (a.eval r :: c.args.toList.map a.eval).toArray := by rw [hmap]; simp
      simp only [resolve, hr, Sem.run_bind, Sem.run_pure, Result.andThen_ok, e2, invoke_method]
      rw [← h2]
      simp only [callMethod, Sem.run_bind, run_program, Result.andThen_ok, h3]
      congr 2
      simp
    rw [e]
    exact this

def xNil : AV → Bool
  | .ptr _ _ | .iface _ _ => true
  | .func (.func _) _ _ => true
  | _ => false
def xAssert (P : Program) (v : AV) (asserted : TypeId) (ok : Bool) : Option AV :=
  let res (v : AV) : AV := if ok then .tup [v, .bool true] else v
  match P.underlying asserted, v with
  | some (.interface want), .iface t v => match P.info? t with
    | some i => match lacking want i.methods with
      | [] => some (res (.iface t v))
      | _ :: _ => if ok then match zeroOf P asserted with
        | some z => some (.tup [z, .bool false])
        | none => none
        else none
    | none => none
  | some _, .niliface => if ok then match zeroOf P asserted with
    | some z => some (.tup [z, .bool false])
    | none => none
    else none
  | some (.interface _), _ => none
  | some _, .iface t v => if t = asserted then some (res v) else if ok then match zeroOf P asserted with
    | some z => some (.tup [z, .bool false])
    | none => none
    else none
  | _, _ => none
theorem assert_means (h : Rel G B w0 ε S w) {v u : AV} {x : Value} {xt asserted : TypeId} {ok : Bool} (hv : γ ε v = some x) (hl : xAssert P v asserted ok = some u) :
    MeansV G B w0 ε S ((Instr.typeAssert x xt asserted ok).run P w) u S := by
  unfold xAssert at hl
  simp only at hl
  split at hl <;> try (simp at hl; done)
  · rename_i want t v ht
    simp only [γ, Option.map_eq_some_iff] at hv
    obtain ⟨y, h1, rfl⟩ := hv
    split at hl <;> try (simp at hl; done)
    rename_i i hi
    split at hl
    · rename_i hm
      have hm := missingMethod_none hm
      simp at hl; subst hl
      cases ok
      · exact MeansV.same h (x := .iface t y) (by simp [Instr.typeAssert, run_underlying ht, typeInfo, hi, hm]) (by simp [γ, h1])
      · exact MeansV.same h (x := .tuple #[.iface t y, .bool true]) (by simp [Instr.typeAssert, run_underlying ht, typeInfo, hi, hm]) (by simp [γ, γs, h1])
    · rename_i s0 s1 hm
      obtain ⟨s, hm⟩ := missingMethod_some (want := want) (got := i.methods) (by rw [hm]; simp)
      split at hl <;> try (simp at hl; done)
      rename_i hok
      subst hok
      split at hl <;> simp at hl
      rename_i z hz
      subst hl
      obtain ⟨zx, hzx, hzγ⟩ := run_zeroOf (w := w) hz
      exact MeansV.same h (x := .tuple #[zx, .bool false]) (by simp [Instr.typeAssert, run_underlying ht, typeInfo, hi, hm, hzx]) (by simp [γ, γs, hzγ])
  · obtain ⟨d, ht⟩ : ∃ d, P.underlying asserted = some d := ⟨_, by assumption⟩
    split at hl <;> try (simp at hl; done)
    rename_i hok
    subst hok
    split at hl <;> simp at hl
    rename_i z hz
    subst hl
    simp only [γ, Option.some.injEq] at hv
    subst hv
    obtain ⟨zx, hzx, hzγ⟩ := run_zeroOf (w := w) hz
    refine MeansV.same h (x := .tuple #[zx, .bool false]) ?_ (by simp [γ, γs, hzγ])
    cases d <;> simp [Instr.typeAssert, run_underlying ht, hzx]
  · rename_i d t v hne _ ht
    simp only [γ, Option.map_eq_some_iff] at hv
    obtain ⟨y, h1, rfl⟩ := hv
    split at hl
    · rename_i hta
      subst hta
      simp at hl; subst hl
      cases ok
      · refine MeansV.same h (x := y) ?_ (by simpa using h1)
        cases d <;> first | (exact absurd rfl (hne _)) | simp [Instr.typeAssert, run_underlying ht]
      · refine MeansV.same h (x := .tuple #[y, .bool true]) ?_ (by simp [γ, γs, h1])
        cases d <;> first | (exact absurd rfl (hne _)) | simp [Instr.typeAssert, run_underlying ht]
    · rename_i hta
      split at hl <;> try (simp at hl; done)
      rename_i hok
      subst hok
      split at hl <;> simp at hl
      rename_i z hz
      subst hl
      obtain ⟨zx, hzx, hzγ⟩ := run_zeroOf (w := w) hz
      refine MeansV.same h (x := .tuple #[zx, .bool false]) ?_ (by simp [γ, γs, hzγ])
      cases d <;> first | (exact absurd rfl (hne _)) | simp [Instr.typeAssert, run_underlying ht, hzx, hta]
end
end
end Go.Rx
