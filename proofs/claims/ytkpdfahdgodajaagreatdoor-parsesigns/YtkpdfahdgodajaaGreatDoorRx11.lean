/- The reflective executor, part 11: an operation, a list of operations, code, calls. -/
import Derived.Test.YtkpdfahdgodajaaGreatDoorRx10
import Derived.Scope
import Derived.Laws.RangeString
namespace Go.Rx
noncomputable section
open Go.RowKit
section
variable {P : Program} {G B : Nat} {w0 w : World} {ε : Env} {S : St}

/-! ### Ranging over a string of ASCII -/
def xRange (P : Program) (t : TypeId) (v : AV) (S : St) : Option (AV × St) :=
  match P.underlying t, v with
  | some .string, .str s => some (.ptr S.nxt 0, S.new (.sit s 0))
  | _, _ => none
theorem range_means (h : Rel G B w0 ε S w) {t : TypeId} {v : AV} {x : Value} {u : AV × St} (hv : γ ε v = some x) (hl : xRange P t v S = some u) :
    MeansV G B w0 ε S ((Instr.range t x).run P w) u.1 u.2 := by
  unfold xRange at hl
  split at hl <;> simp at hl
  rename_i s ht
  subst hl
  simp only [γ] at hv
  split at hv <;> simp at hv
  rename_i hs
  subst hv
  refine ⟨_, _, ε.set S.nxt w.heap.size 0, run_range_string w t (bs s) ht, Env.agr_set _ _ _ _, by simp [γ, Env.set], h.alloc _ _ 0 (fun ε' _ _ => ⟨hs, rfl⟩), by simp [St.nxt_new]⟩
def xNext (v : AV) (S : St) : Option (AV × St) :=
  match v with
  | .ptr i 0 => match S.get i with
    | some (.sit s pos) => match s[pos]? with
      | some c => if c < 128 then some (.tup [.bool true, .int .i64 pos, .int .i32 c], S.put i (some (.sit s (pos + 1)))) else none
      | none => some (.tup [.bool false], S)
    | _ => none
  | _ => none
theorem next_means (h : Rel G B w0 ε S w) {ty : TypeId} {v : AV} {x : Value} {u : AV × St} (hv : γ ε v = some x) (hl : xNext v S = some u) :
    MeansV G B w0 ε S ((Instr.next x true ty).run P w) u.1 u.2 := by
  unfold xNext at hl
  split at hl <;> try (simp at hl; done)
  rename_i i
  split at hl <;> try (simp at hl; done)
  rename_i s pos hget
  obtain ⟨b, o, h1, h2, ⟨hs, rfl⟩, h4⟩ := h.live _ _ hget
  simp only [γ, h1, Option.map_some, Option.some.injEq] at hv
  subst hv
  split at hl
  · rename_i c hc
    split at hl <;> simp at hl
    rename_i h128
    subst hl
    have hlen : pos < s.length := (List.getElem?_eq_some_iff.1 hc).1
    have hlen' : pos < (bs s).size := by rw [bs_size]; exact hlen
    have hget' : (bs s)[pos]'hlen' = UInt8.ofNat c := by
      have e1 : (bs s).data.toList[pos]? = some (UInt8.ofNat c) := by rw [bs_data]; simp [hc]
      have e2 : (bs s)[pos]'hlen' = (bs s).data[pos]'hlen' := rfl
      rw [e2]
      rw [Array.getElem?_toList] at e1
      rw [Array.getElem?_eq_getElem (by exact hlen')] at e1
      exact Option.some.inj e1
    have hnat : ((bs s)[pos]'hlen').toNat = c := by rw [hget']; simp [UInt8.toNat_ofNat']; omega
    have hdec := decode_ascii (bs s) pos hlen' (by omega)
    rw [hnat] at hdec
    have hblt := (Array.getElem?_eq_some_iff.1 h2).1
    have hbne : ∀ (c' : Array Value) (e : TypeId) (f : Nat × Nat), w.heap[b]? ≠ some (.cells c' e f) := by intro c' e f; rw [h2]; simp
    refine ⟨.tuple #[.bool true, .int .i64 pos, .int .i32 c], { w with heap := w.heap.setIfInBounds b (.stringIter (bs s) (pos + 1)) }, ε, ?_, Env.agr_refl _ _, by simp [γ, γs], ?_, by simp [St.put]⟩
    · simp [Instr.next, getObj, setObj, Sem.run, h2, hlen', hdec, goInt]
    · refine h.setBlk hget rfl h1 ⟨rfl, rfl, rfl, by simp⟩ (fun k hk => by simp [Array.getElem?_setIfInBounds_ne (Ne.symm hk)]) (o := .stringIter (bs s) (pos + 1)) (by simp [hblt]) ⟨hs, rfl⟩
  · rename_i hc
    simp at hl; subst hl
    have hlen : ¬ pos < (bs s).size := by
      rw [bs_size]
      rw [List.getElem?_eq_none_iff] at hc
      omega
    exact MeansV.same h (x := .tuple #[.bool false]) (by simp [Instr.next, getObj, Sem.run, h2, hlen]) (by simp [γ, γs])

def xop (P : Program) (G : Nat) (E : Ext) (A : List AV) (S : St) (o : Oper) : Option NX :=
  match o.op with
  | .move x | .assign x => match ev G A x with
    | some v => some (.val v S)
    | none => none
  | .pick c a b => match ev G A c with
    | some (.bool t) => match ev G A (if t then a else b) with
      | some v => some (.val v S)
      | none => none
    | _ => none
  | .alloc e => match zeroOf P e with
    | some z => some (.val (xBox e z S).1 (xBox e z S).2)
    | none => none
  | .box e x => match ev G A x with
    | some v => some (.val (xBox e v S).1 (xBox e v S).2)
    | none => none
  | .build t parts => match evp G A parts.toList with
    | some ps => match xBuild P t ps with
      | some v => some (.val v S)
      | none => none
    | none => none
  | .buildSlice t len parts => match evp G A parts.toList with
    | some ps => match xBuildSlice P t len ps S with
      | some u => some (.val u.1 u.2)
      | none => none
    | none => none
  | .load t a => match ev G A a with
    | some v => match xLoad P t v S with
      | some u => some (.val u S)
      | none => none
    | none => none
  | .store t a x => match ev G A a, ev G A x with
    | some v, some u => match xStore P t v u S with
      | some S' => some (.unit S')
      | none => none
    | _, _ => none
  | .nilCheck x => match ev G A x with
    | some v => if xNil v then some (.val v S) else none
    | none => none
  | .binOp op t x y _ => match ev G A x, ev G A y with
    | some v, some u => match xBin P op t x y v u with
      | some r => some (.val r S)
      | none => none
    | _, _ => none
  | .unOp op _ x => match ev G A x with
    | some v => match sc v with
      | some y => match pureM P (Op.unary op y) with
        | some z => match cv 2 z with
          | some u => some (.val u S)
          | none => none
        | none => none
      | none => none
    | none => none
  | .convert src dst x => match ev G A x with
    | some v => match xConv P src dst v S with
      | some u => some (.val u.1 u.2)
      | none => none
    | none => none
  | .makeInterface t x => match ev G A x with
    | some v => match P.underlying t with
      | some (.interface _) => none
      | some _ => some (.val (.iface t v) S)
      | none => none
    | none => none
  | .makeFunc fn first captured => match evs G A first.toList, evs G A captured.toList with
    | some a, some c => some (.val (.func fn a c) S)
    | _, _ => none
  | .makeSlice t l c => match ev G A l, ev G A c with
    | some v, some u => match xMakeSlice P t v u S with
      | some r => some (.val r.1 r.2)
      | none => none
    | _, _ => none
  | .slice t x lo hi none => match ev G A x, evo G A lo, evo G A hi with
    | some v, some l, some h => match xSlice P t v l h S with
      | some u => some (.val u S)
      | none => none
    | _, _, _ => none
  | .fieldAddr t x f => match ev G A x with
    | some v => match xFieldAddr P t v f with
      | some u => some (.val u S)
      | none => none
    | none => none
  | .field t x f => match ev G A x with
    | some v => match xField P t v f with
      | some u => some (.val u S)
      | none => none
    | none => none
  | .indexAddr t x i => match ev G A x, ev G A i with
    | some v, some j => match xIndexAddr P t v j with
      | some u => some (.val u S)
      | none => none
    | _, _ => none
  | .index t x i => match ev G A x, ev G A i with
    | some v, some j => match xIndex P t v j with
      | some u => some (.val u S)
      | none => none
    | _, _ => none
  | .typeAssert x _ asserted ok => match ev G A x with
    | some v => match xAssert P v asserted ok with
      | some u => some (.val u S)
      | none => none
    | none => none
  | .extract t ix => match ev G A t with
    | some (.tup l) => match l[ix]? with
      | some v => some (.val v S)
      | none => none
    | _ => none
  | .range t x => match ev G A x with
    | some v => match xRange P t v S with
      | some u => some (.val u.1 u.2)
      | none => none
    | none => none
  | .next it true => match ev G A it with
    | some v => match xNext v S with
      | some u => some (.val u.1 u.2)
      | none => none
    | none => none
  | .call c => xCall P G E A S c o.type
  | .defer c => match c.callee, evs G A c.args.toList with
    | .value f, some args => match ev G A f with
      | some (.func (.func g) first captured) => some (.dfr (.idle g (first.length + args.length + captured.length)) S)
      | _ => none
    | _, _ => none
  | _ => none

theorem Means.value (h : Rel G B w0 ε S w) {s : Sem Next} {x : Value} {v : AV} (hr : s.run P w = .ok (.value x) w) (hv : γ ε v = some x) : Means G B w0 ε S (s.run P w) (.val v S) :=
  ⟨x, w, ε, hr, Env.agr_refl _ _, hv, h, Nat.le_refl _⟩
theorem xop_means (h : Rel G B w0 ε S w) {E : Ext} (hE : EOk P G E) {ds : List Deferred} {A : List AV} {a : Act} (ha : AR ε ds A a) {o : Oper} {n : NX} (hl : xop P G E A S o = some n) :
    Means G B w0 ε S ((execOp a.eval o).run P w) n := by
  obtain ⟨dst, op, ty, pos, after, guard⟩ := o
  unfold xop at hl
  simp only at hl
  split at hl
  · split at hl <;> simp at hl
    rename_i v hv
    subst hl
    exact Means.value h (by simp [execOp]) (ev_γ h ha hv)
  · split at hl <;> simp at hl
    rename_i v hv
    subst hl
    exact Means.value h (by simp [execOp]) (ev_γ h ha hv)
  · split at hl <;> try (simp at hl; done)
    rename_i c x y _ t ht
    split at hl <;> simp at hl
    rename_i v hv
    subst hl
    have h1 := ev_γ h ha ht
    have h2 := ev_γ h ha hv
    simp only [γ, Option.some.injEq] at h1
    refine Means.value h ?_ h2
    cases t <;> simp [execOp, ← h1, asBool]
  · split at hl <;> simp at hl
    rename_i z hz
    subst hl
    exact Means.of_v (alloc_means h hz)
  · split at hl <;> simp at hl
    rename_i v hv
    subst hl
    exact Means.of_v (box_means h (ev_γ h ha hv) _)
  · rename_i t parts
    split at hl <;> try (simp at hl; done)
    rename_i ps hps
    split at hl <;> simp at hl
    rename_i v hv
    subst hl
    have e : (parts.map fun (i, x) => (i, a.eval x)).toList = parts.toList.map fun (i, x) => (i, a.eval x) := by simp
    exact Means.of_v (build_means h (by rw [e]; exact evp_γ h ha hps) hv)
  · rename_i t len parts
    split at hl <;> try (simp at hl; done)
    rename_i ps hps
    split at hl <;> simp at hl
    rename_i v hv
    subst hl
    have e : (parts.map fun (i, x) => (i, a.eval x)).toList = parts.toList.map fun (i, x) => (i, a.eval x) := by simp
    exact Means.of_v (buildSlice_means h (by rw [e]; exact evp_γ h ha hps) hv)
  · split at hl <;> try (simp at hl; done)
    rename_i v hv
    split at hl <;> simp at hl
    rename_i u hu
    subst hl
    exact Means.of_v (load_means h (ev_γ h ha hv) hu)
  · split at hl <;> try (simp at hl; done)
    rename_i v u hv hu
    split at hl <;> simp at hl
    rename_i S' hS
    subst hl
    exact store_means h (ev_γ h ha hv) (ev_γ h ha hu) hS
  · split at hl <;> try (simp at hl; done)
    rename_i x v hv
    split at hl <;> simp at hl
    rename_i hn
    subst hl
    have h1 := ev_γ h ha hv
    refine Means.value h ?_ h1
    cases v <;> try (simp [xNil] at hn; done)
    case ptr => simp only [γ, Option.map_eq_some_iff] at h1; obtain ⟨b, hb, h1⟩ := h1; simp [execOp, ← h1]
    case iface => simp only [γ, Option.map_eq_some_iff] at h1; obtain ⟨b, hb, h1⟩ := h1; simp [execOp, ← h1]
    case func fn x y =>
      cases fn <;> try (simp [xNil] at hn; done)
      simp only [γ, Option.map_eq_some_iff, Option.bind_eq_some_iff] at h1; obtain ⟨b, hb, c, hc, h1⟩ := h1; simp [execOp, ← h1]
  · split at hl <;> try (simp at hl; done)
    rename_i v u hv hu
    split at hl <;> simp at hl
    rename_i r hr
    subst hl
    obtain ⟨z, h1, h2⟩ := bin_run (P := P) (ev_γ h ha hv) (ev_γ h ha hu) hr
    exact Means.of_v (MeansV.same h (h1 w) h2)
  · split at hl <;> try (simp at hl; done)
    rename_i v hv
    split at hl <;> try (simp at hl; done)
    rename_i y hy
    split at hl <;> try (simp at hl; done)
    rename_i z hz
    split at hl <;> simp at hl
    rename_i u hu
    subst hl
    have e := sc_γ hy (ev_γ h ha hv)
    subst e
    exact Means.of_v (MeansV.same h (pureM_run hz w) (cv_sound ε 2 z u hu))
  · split at hl <;> try (simp at hl; done)
    rename_i v hv
    split at hl <;> simp at hl
    rename_i u hu
    subst hl
    exact Means.of_v (conv_means h (ev_γ h ha hv) hu)
  · split at hl <;> try (simp at hl; done)
    rename_i v hv
    split at hl <;> simp at hl
    rename_i t x _ _ d hne hd
    subst hl
    refine Means.of_v (MeansV.same h ?_ (v := .iface t v) (x := .iface t (a.eval x)) (by simp [γ, ev_γ h ha hv]))
    simp only [Instr.makeInterface, Sem.run_bind, run_underlying hd, Result.andThen_ok]
    cases d <;> first | (exact absurd rfl (hne _)) | rfl
  · split at hl <;> simp at hl
    rename_i fn first captured _ _ x y hx hy
    subst hl
    have e1 : (first.map a.eval) = (first.toList.map a.eval).toArray := by apply Array.ext'; simp
    have e2 : (captured.map a.eval) = (captured.toList.map a.eval).toArray := by apply Array.ext'; simp
    refine Means.of_v (MeansV.same h (x := .func fn (first.map a.eval) (captured.map a.eval)) rfl ?_)
    rw [e1, e2]
    simp only [γ, evs_γ h ha hx, evs_γ h ha hy]
    rfl
  · split at hl <;> try (simp at hl; done)
    rename_i v u hv hu
    split at hl <;> simp at hl
    rename_i r hr
    subst hl
    exact Means.of_v (makeSlice_means h (ev_γ h ha hv) (ev_γ h ha hu) hr)
  · split at hl <;> try (simp at hl; done)
    rename_i v l hh hv hlo hhi
    split at hl <;> simp at hl
    rename_i u hu
    subst hl
    exact Means.of_v (slice_means h (ev_γ h ha hv) (evo_γ h ha hlo) (evo_γ h ha hhi) hu)
  · split at hl <;> try (simp at hl; done)
    rename_i v hv
    split at hl <;> simp at hl
    rename_i u hu
    subst hl
    exact Means.of_v (fieldAddr_means h (ev_γ h ha hv) hu)
  · split at hl <;> try (simp at hl; done)
    rename_i v hv
    split at hl <;> simp at hl
    rename_i u hu
    subst hl
    exact Means.of_v (field_means h (ev_γ h ha hv) hu)
  · split at hl <;> try (simp at hl; done)
    rename_i v u hv hu
    split at hl <;> simp at hl
    rename_i r hr
    subst hl
    exact Means.of_v (indexAddr_means h (ev_γ h ha hv) (ev_γ h ha hu) hr)
  · split at hl <;> try (simp at hl; done)
    rename_i v u hv hu
    split at hl <;> simp at hl
    rename_i r hr
    subst hl
    exact Means.of_v (index_means h (ev_γ h ha hv) (ev_γ h ha hu) hr)
  · split at hl <;> try (simp at hl; done)
    rename_i v hv
    split at hl <;> simp at hl
    rename_i u hu
    subst hl
    exact Means.of_v (assert_means h (ev_γ h ha hv) hu)
  · split at hl <;> try (simp at hl; done)
    rename_i ix _ l hv
    split at hl <;> simp at hl
    rename_i v hlv
    subst hl
    have h1 := ev_γ h ha hv
    simp only [γ, Option.map_eq_some_iff] at h1
    obtain ⟨xs, hxs, h1⟩ := h1
    obtain ⟨y, h2, h3⟩ := γs_get hxs hlv
    have h2' : xs.toArray[ix]? = some y := by simpa using h2
    exact Means.of_v (MeansV.same h (by rw [← h1]; simp [Instr.extract, h2]) h3)
  · split at hl <;> try (simp at hl; done)
    rename_i v hv
    split at hl <;> simp at hl
    rename_i u hu
    subst hl
    exact Means.of_v (range_means h (ev_γ h ha hv) hu)
  · split at hl <;> try (simp at hl; done)
    rename_i v hv
    split at hl <;> simp at hl
    rename_i u hu
    subst hl
    exact Means.of_v (next_means h (ev_γ h ha hv) hu)
  · exact call_means h hE ha hl
  · rename_i c
    split at hl <;> try (simp at hl; done)
    rename_i f args hf hargs
    split at hl <;> simp at hl
    rename_i g first captured hev
    subst hl
    have hfv := ev_γ h ha hev
    simp only [γ, Option.bind_eq_some_iff, Option.map_eq_some_iff] at hfv
    obtain ⟨xs, h1, ys, h2, h3⟩ := hfv
    have hx := evs_γ h ha hargs
    refine ⟨{ target := .fn (.func g) ys.toArray, args := xs.toArray ++ c.args.map a.eval }, w, ?_, ?_, h, Nat.le_refl _⟩
    · simp only [execOp, resolve, hf, ← h3, Deferred.ofValue, Sem.run_bind, Sem.run_pure, Result.andThen_ok]
    · refine ⟨_, rfl, ?_⟩
      have e1 := γs_length h1
      have e2 := γs_length h2
      have e3 := γs_length hx
      simp at e3
      simp [e1, e2, ← e3]
  · simp at hl
end
end
end Go.Rx
