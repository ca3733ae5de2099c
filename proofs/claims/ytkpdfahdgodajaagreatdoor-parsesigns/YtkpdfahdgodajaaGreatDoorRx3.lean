/- The reflective executor, part 3: single operations, what they come to on abstract values, and that this is what the model does. -/
import Derived.Test.YtkpdfahdgodajaaGreatDoorRx2
import Derived.Laws.Strings
import Derived.Laws.IdiomStrings
import Derived.Laws.BytesString
namespace Go.Rx
open Go.RowKit

/-- What a computation yields that asks nothing but the program. -/
def pureP {α : Type} (P : Program) : Sem α → Option α
  | .pure a => some a
  | .program k => pureP P (k P)
  | _ => none
theorem pureP_run {α : Type} {P : Program} : ∀ {s : Sem α} {a : α}, pureP P s = some a → ∀ w, s.run P w = .ok a w
  | .pure b, a, h, w => by simp [pureP] at h; subst h; rfl
  | .program k, a, h, w => by simp only [pureP] at h; simpa [Sem.run] using pureP_run h w
  | .load .., a, h, w => by simp [pureP] at h
  | .store .., a, h, w => by simp [pureP] at h
  | .new .., a, h, w => by simp [pureP] at h
  | .shape .., a, h, w => by simp [pureP] at h
  | .freeze .., a, h, w => by simp [pureP] at h
  | .frozen .., a, h, w => by simp [pureP] at h
  | .getObj .., a, h, w => by simp [pureP] at h
  | .setObj .., a, h, w => by simp [pureP] at h
  | .choose .., a, h, w => by simp [pureP] at h
  | .sys .., a, h, w => by simp [pureP] at h
  | .mark .., a, h, w => by simp [pureP] at h
  | .halt .., a, h, w => by simp [pureP] at h

/-- What an operation comes to. -/
inductive NX where
  | val (v : AV) (S : St)
  | unit (S : St)
  | enter (f : FuncId) (args : List AV) (S : St)
  | round (i : Nat) (A : List AV) (assign body : Code) (S : St)
  | dfr (d : AD) (S : St)

/-- What an abstract deferred call stands for. -/
def DR (ε : Env) : AD → Deferred → Prop
  | .idle f n, d => ∃ cap, d.target = .fn (.func f) cap ∧ d.args.size + cap.size = n
  | .coll i, d => ∃ r, d.target = .collected r ∧ ε.δ i = some r

def Means (G B : Nat) (w0 : World) (ε : Env) (S : St) (r : Result Next) : NX → Prop
  | .val v S' => ∃ x w' ε', r = .ok (.value x) w' ∧ ε.agr S.nxt ε' ∧ γ ε' v = some x ∧ Rel G B w0 ε' S' w' ∧ S.nxt ≤ S'.nxt
  | .unit S' => ∃ w' ε', r = .ok .skip w' ∧ ε.agr S.nxt ε' ∧ Rel G B w0 ε' S' w' ∧ S.nxt ≤ S'.nxt
  | .round i A assign body S' => ∃ l fn xs w' ε', r = .ok (.round l fn xs.toArray assign body) w' ∧ ε.agr S.nxt ε' ∧ ε'.δ i = some l ∧ γs ε' A = some xs ∧ Rel G B w0 ε' S' w' ∧ S.nxt ≤ S'.nxt
  | .dfr d S' => ∃ x w', r = .ok (.defer x) w' ∧ DR ε d x ∧ Rel G B w0 ε S' w' ∧ S.nxt ≤ S'.nxt
  | .enter f args S' => ∃ xs w' ε', r = .ok (.enter f xs.toArray) w' ∧ ε.agr S.nxt ε' ∧ γs ε' args = some xs ∧ Rel G B w0 ε' S' w' ∧ S.nxt ≤ S'.nxt

/-- The same of a computation of a value. -/
def MeansV (G B : Nat) (w0 : World) (ε : Env) (S : St) (r : Result Value) (v : AV) (S' : St) : Prop :=
  ∃ x w' ε', r = .ok x w' ∧ ε.agr S.nxt ε' ∧ γ ε' v = some x ∧ Rel G B w0 ε' S' w' ∧ S.nxt ≤ S'.nxt

section
variable {P : Program} {G B : Nat} {w0 w : World} {ε : Env} {S : St}
theorem MeansV.same (h : Rel G B w0 ε S w) {r : Result Value} {x : Value} {v : AV} (hr : r = .ok x w) (hv : γ ε v = some x) : MeansV G B w0 ε S r v S :=
  ⟨x, w, ε, hr, Env.agr_refl _ _, hv, h, Nat.le_refl _⟩
theorem MeansV.drewSame (h : Rel G B w0 ε S w) {r : Result Value} {x : Value} {v : AV} (hr : r = .ok x w.drew) (hv : γ ε v = some x) : MeansV G B w0 ε S r v S :=
  ⟨x, w.drew, ε, hr, Env.agr_refl _ _, hv, h.drew, Nat.le_refl _⟩
theorem Means.of_v {s : Sem Value} {v : AV} {S' : St} (h : MeansV G B w0 ε S (s.run P w) v S') :
    Means G B w0 ε S ((do pure (Next.value (← s)) : Sem Next).run P w) (.val v S') := by
  obtain ⟨x, w', ε', h1, h2, h3, h4, h5⟩ := h
  exact ⟨x, w', ε', by simp [h1], h2, h3, h4, h5⟩

/-! ### Scalars -/
def sc : AV → Option Value
  | .int k n => some (.int k n)
  | .bool b => some (.bool b)
  | .flt k n => some (.float k n)
  | _ => none
theorem sc_γ {v : AV} {x y : Value} (h : sc v = some x) (hy : γ ε v = some y) : y = x := by
  cases v <;> simp [sc] at h <;> simp [γ] at hy <;> simp [← h, ← hy]

/-! ### New variables -/
def zeroOf (P : Program) (t : TypeId) : Option AV :=
  match P.info? t with
  | some i => match i.zero with
    | some z => cv 8 z
    | none => none
  | none => none
theorem run_zeroOf {t : TypeId} {z : AV} (h : zeroOf P t = some z) : ∃ x, (zeroValue t).run P w = .ok x w ∧ ∀ ε, γ ε z = some x := by
  unfold zeroOf at h
  split at h <;> try (simp at h; done)
  rename_i i hi
  split at h <;> try (simp at h; done)
  rename_i x hx
  exact ⟨x, by simp [zeroValue, typeInfo, hi, hx], fun ε => cv_sound ε 8 x z h⟩
theorem newVar_run (t : TypeId) (x : Value) : (newVar t x).run P w = .ok ⟨w.heap.size, 0, none⟩ (w.alloc (.cells x.cells t)) := by
  simp [newVar, newRow]
theorem Rel.newCells (h : Rel G B w0 ε S w) {cs : List AV} {xs : Array Value} (hc : γs ε cs = some xs.toList) (t : TypeId) :
    ∃ ε', ε.agr S.nxt ε' ∧ ε'.δ S.nxt = some w.heap.size ∧ Rel G B w0 ε' (S.new (.cells cs t none .free)) (w.alloc (.cells xs t)) :=
  ⟨_, Env.agr_set ε S.nxt w.heap.size 0, by simp [Env.set],
   h.alloc _ _ 0 fun ε' ha _ => ⟨xs.toList, [], (0, 0), γs_mono (h.le ha) _ _ hc, by simp, fun _ => rfl, rfl⟩⟩
theorem St.nxt_new (S : St) (b : ABlk) : (S.new b).nxt = S.nxt + 1 := rfl

def xBox (t : TypeId) (v : AV) (S : St) : AV × St := (.ptr S.nxt 0, S.new (.cells v.cells t none .free))
theorem box_means (h : Rel G B w0 ε S w) {v : AV} {x : Value} (hv : γ ε v = some x) (t : TypeId) :
    MeansV G B w0 ε S ((Instr.box t x).run P w) (xBox t v S).1 (xBox t v S).2 := by
  obtain ⟨ε', h1, h2, h3⟩ := h.newCells (γ_cells hv) t
  refine ⟨.pointer (some ⟨w.heap.size, 0, none⟩), _, ε', by simp [Instr.box, newVar_run], h1, by simp [xBox, γ, h2], h3, by simp [xBox, St.nxt_new]⟩
theorem alloc_means (h : Rel G B w0 ε S w) {t : TypeId} {z : AV} (hz : zeroOf P t = some z) :
    MeansV G B w0 ε S ((Instr.alloc t true (.tuple #[])).run P w) (xBox t z S).1 (xBox t z S).2 := by
  obtain ⟨x, hx, hv⟩ := run_zeroOf (w := w) hz
  obtain ⟨ε', h1, h2, h3⟩ := h.newCells (γ_cells (hv ε)) t
  refine ⟨.pointer (some ⟨w.heap.size, 0, none⟩), _, ε', by simp [Instr.alloc, hx, newVar_run], h1, by simp [xBox, γ, h2], h3, by simp [xBox, St.nxt_new]⟩

/-! ### Loads and stores -/
def isAggT (P : Program) (t : TypeId) : Option Bool :=
  match P.underlying t with
  | some (.struct _) | some (.array _ _) => some true
  | some _ => some false
  | none => none
def sizeT (P : Program) (t : TypeId) : Option Nat := (P.info? t).map (·.size)
theorem run_isAgg {t : TypeId} {b : Bool} (h : isAggT P t = some b) : (isAgg t).run P w = .ok b w := by
  unfold isAggT at h
  split at h
  case h_1 h' => simp at h; subst h; simp [isAgg, run_underlying h']
  case h_2 h' => simp at h; subst h; simp [isAgg, run_underlying h']
  case h_3 d h1 h2 h' =>
    simp at h; subst h
    simp only [isAgg, Sem.run_bind, run_underlying h', Result.andThen_ok]
    rfl
  case h_4 => simp at h
theorem run_sizeT {t : TypeId} {n : Nat} (h : sizeT P t = some n) : (sizeOf t).run P w = .ok n w := by
  unfold sizeT at h
  cases hi : P.info? t with
  | none => simp [hi] at h
  | some i => simp [hi] at h; simp [sizeOf, typeInfo, hi, h]

def xLoad (P : Program) (t : TypeId) (v : AV) (S : St) : Option AV :=
  match v with
  | .ptr i off =>
    match isAggT P t with
    | some true => match sizeT P t with
      | some n => match S.read i off n with
        | some vs => some (.agg vs)
        | none => none
      | none => none
    | some false => match S.read i off 1 with
      | some [x] => some x
      | _ => none
    | none => none
  | _ => none
theorem loadVar_means (h : Rel G B w0 ε S w) {t : TypeId} {i off : Nat} {u : AV} (hl : xLoad P t (.ptr i off) S = some u) {b : Nat} (hb : ε.δ i = some b) :
    ∃ y, (loadVar t ⟨b, off, none⟩).run P w = .ok y w ∧ γ ε u = some y := by
  simp only [xLoad] at hl
  split at hl
  · rename_i hagg
    split at hl <;> try (simp at hl; done)
    rename_i n hn
    split at hl <;> try (simp at hl; done)
    rename_i vs hr
    simp at hl; subst hl
    obtain ⟨b', xs, h1, h2, h3, h4⟩ := h.read hr
    rw [hb] at h1; simp at h1; subst h1
    have hc := run_loadCells_list (P := P) w ⟨b, off, none⟩ xs (fun j v hj => by rw [Addr.add_lit]; exact h4 j v hj)
    refine ⟨.agg xs.toArray, ?_, by simp [γ, h2]⟩
    rw [h3] at hc
    simp [loadVar, run_isAgg hagg, run_sizeT hn, hc]
  · rename_i hagg
    split at hl <;> try (simp at hl; done)
    rename_i x hr
    simp at hl; subst hl
    obtain ⟨b', xs, h1, h2, h3, h4⟩ := h.read hr
    rw [hb] at h1; simp at h1; subst h1
    obtain ⟨y, ys, h5, h6, rfl⟩ := γs_cons.1 h2
    have := h4 0 y (by simp)
    simp only [Nat.add_zero] at this
    exact ⟨y, by simp [loadVar, run_isAgg hagg, this], h5⟩
  · simp at hl
theorem load_means (h : Rel G B w0 ε S w) {t : TypeId} {v u : AV} {x : Value} (hv : γ ε v = some x) (hl : xLoad P t v S = some u) :
    MeansV G B w0 ε S ((Instr.loadAt t x).run P w) u S := by
  cases v <;> try (simp [xLoad] at hl; done)
  case ptr i off =>
    simp only [γ, Option.map_eq_some_iff] at hv
    obtain ⟨b, hb, rfl⟩ := hv
    obtain ⟨y, h1, h2⟩ := loadVar_means (P := P) h hl hb
    exact MeansV.same h (by simp [Instr.loadAt, Instr.sureAddr, h1]) h2

def xStore (P : Program) (t : TypeId) (v u : AV) (S : St) : Option St :=
  match v with
  | .ptr i off =>
    match sizeT P t with
    | some n => if u.cells.length = n then S.write i off u.cells else none
    | none => none
  | _ => none
theorem storeVar_means (h : Rel G B w0 ε S w) {t : TypeId} {i off : Nat} {u : AV} {y : Value} {S' : St} (hu : γ ε u = some y) (hl : xStore P t (.ptr i off) u S = some S') {b : Nat} (hb : ε.δ i = some b) :
    ∃ w', (storeVar t ⟨b, off, none⟩ y).run P w = .ok () w' ∧ Rel G B w0 ε S' w' ∧ S'.nxt = S.nxt := by
  simp only [xStore] at hl
  split at hl <;> try (simp at hl; done)
  rename_i n hn
  split at hl <;> try (simp at hl; done)
  rename_i hlen
  have hc := γ_cells hu
  obtain ⟨b', w', h1, h2, h3, h4⟩ := h.write (P := P) hl hc
  rw [hb] at h1; simp at h1; subst h1
  have hl2 := γs_length hc
  have hsz : y.cells.size = n := by simpa [hlen] using hl2
  refine ⟨w', ?_, h3, h4⟩
  simp [storeVar, run_sizeT hn, hsz, h2]
theorem store_means (h : Rel G B w0 ε S w) {t : TypeId} {v u : AV} {x y : Value} {S' : St} (hv : γ ε v = some x) (hu : γ ε u = some y) (hl : xStore P t v u S = some S') :
    Means G B w0 ε S ((do Instr.storeAt t x y; pure Next.skip : Sem Next).run P w) (.unit S') := by
  cases v <;> try (simp [xStore] at hl; done)
  case ptr i off =>
    simp only [γ, Option.map_eq_some_iff] at hv
    obtain ⟨b, hb, rfl⟩ := hv
    obtain ⟨w', h1, h2, h3⟩ := storeVar_means (P := P) h hu hl hb
    exact ⟨w', ε, by simp [Instr.storeAt, Instr.sureAddr, h1], Env.agr_refl _ _, h2, by omega⟩

/-! ### Parts of values -/
def xPart (P : Program) (t : TypeId) (cs : List AV) (off : Nat) : Option AV :=
  match isAggT P t with
  | some true => match sizeT P t with
    | some n => some (.agg ((cs.drop off).take n))
    | none => none
  | some false => cs[off]?
  | none => none
theorem part_means {t : TypeId} {cs : List AV} {xs : Array Value} {off : Nat} {u : AV} (hc : γs ε cs = some xs.toList) (hp : xPart P t cs off = some u) :
    ∃ y, (∀ w, (part t xs off).run P w = .ok y w) ∧ γ ε u = some y := by
  simp only [xPart] at hp
  split at hp
  · rename_i hagg
    split at hp <;> try (simp at hp; done)
    rename_i n hn
    simp at hp; subst hp
    refine ⟨.agg (xs.extract off (off + n)), fun w => by simp [part, run_isAgg hagg, run_sizeT hn], ?_⟩
    have := γs_take (γs_drop hc off) n
    have e : ((xs.toList.drop off).take n).toArray = xs.extract off (off + n) := by
      apply Array.ext'
      simp
    simp [γ, this, ← e]
  · rename_i hagg
    obtain ⟨y, h1, h2⟩ := γs_get hc hp
    have h1' : xs[off]? = some y := by simpa using h1
    exact ⟨y, fun w => by simp [part, run_isAgg hagg, h1'], h2⟩
  · simp at hp

def fieldT (P : Program) (t : TypeId) (f : Nat) : Option Field :=
  match P.underlying t with
  | some (.struct fs) => fs[f]?
  | _ => none
theorem fieldT_spec {t : TypeId} {f : Nat} {fd : Field} (h : fieldT P t f = some fd) : ∃ fs, P.underlying t = some (.struct fs) ∧ fs[f]? = some fd := by
  unfold fieldT at h
  split at h <;> try (simp at h; done)
  rename_i fs hfs
  exact ⟨fs, hfs, h⟩
def xField (P : Program) (t : TypeId) (v : AV) (f : Nat) : Option AV :=
  match v, fieldT P t f with
  | .agg cs, some fd => xPart P fd.type cs fd.offset
  | _, _ => none
theorem field_means (h : Rel G B w0 ε S w) {t : TypeId} {v u : AV} {x : Value} {f : Nat} (hv : γ ε v = some x) (hl : xField P t v f = some u) :
    MeansV G B w0 ε S ((Instr.field t x f).run P w) u S := by
  unfold xField at hl
  split at hl <;> try (simp at hl; done)
  rename_i cs fd hfd
  obtain ⟨fs, h1, h2⟩ := fieldT_spec hfd
  simp only [γ, Option.map_eq_some_iff] at hv
  obtain ⟨xs, hxs, rfl⟩ := hv
  obtain ⟨y, h3, h4⟩ := part_means (P := P) (xs := xs.toArray) (by simpa using hxs) hl
  exact MeansV.same h (by simp [Instr.field, run_underlying h1, h2, asAgg, h3]) h4
def xFieldAddr (P : Program) (t : TypeId) (v : AV) (f : Nat) : Option AV :=
  match v, fieldT P t f with
  | .ptr i off, some fd => match sizeT P fd.type with
    | some (_ + 1) => some (.ptr i (off + fd.offset))
    | _ => none
  | _, _ => none
theorem fieldAddr_means (h : Rel G B w0 ε S w) {t : TypeId} {v u : AV} {x : Value} {f : Nat} (hv : γ ε v = some x) (hl : xFieldAddr P t v f = some u) :
    MeansV G B w0 ε S ((Instr.fieldAt t x f).run P w) u S := by
  unfold xFieldAddr at hl
  split at hl <;> try (simp at hl; done)
  rename_i i off fd hfd
  split at hl <;> try (simp at hl; done)
  rename_i n hn
  simp at hl; subst hl
  obtain ⟨fs, h1, h2⟩ := fieldT_spec hfd
  simp only [γ, Option.map_eq_some_iff] at hv
  obtain ⟨b, hb, rfl⟩ := hv
  refine MeansV.same h (x := .pointer (some ⟨b, off + fd.offset, none⟩)) ?_ (by simp [γ, hb])
  simp [Instr.fieldAt, run_underlying h1, h2, Instr.sureAddr, fieldPlace, run_sizeT hn, Addr.add_lit]

/-! ### Indexes and slices -/
def xIndexAddr (P : Program) (t : TypeId) (v ix : AV) : Option AV :=
  match ix with
  | .int _ j =>
    match P.underlying t, v with
    | some (.slice e), .slc i off len _ =>
      match sizeT P e with
      | some n => if 0 ≤ j ∧ j < len then some (.ptr i (off + j.toNat * n)) else none
      | none => none
    | some (.array len e), .ptr i off =>
      match sizeT P e with
      | some n => if 0 ≤ j ∧ j < len then some (.ptr i (off + j.toNat * n)) else none
      | none => none
    | _, _ => none
  | _ => none
theorem indexAddr_means (h : Rel G B w0 ε S w) {t : TypeId} {v ix u : AV} {x y : Value} (hv : γ ε v = some x) (hy : γ ε ix = some y) (hl : xIndexAddr P t v ix = some u) :
    MeansV G B w0 ε S ((Instr.indexAt t x y).run P w) u S := by
  unfold xIndexAddr at hl
  split at hl <;> try (simp at hl; done)
  rename_i k j
  simp only [γ, Option.some.injEq] at hy
  subst hy
  split at hl <;> try (simp at hl; done)
  · rename_i e i off len c ht
    split at hl <;> try (simp at hl; done)
    rename_i n hn
    split at hl <;> try (simp at hl; done)
    rename_i hj
    simp at hl; subst hl
    simp only [γ, Option.map_eq_some_iff] at hv
    obtain ⟨b, hb, rfl⟩ := hv
    refine MeansV.same h (x := .pointer (some ⟨b, off + j.toNat * n, none⟩)) ?_ (by simp [γ, hb])
    simp [Instr.indexAt, asIntOf, run_underlying ht, hj, run_sizeT hn, Addr.add_lit]
  · rename_i len e i off ht
    split at hl <;> try (simp at hl; done)
    rename_i n hn
    split at hl <;> try (simp at hl; done)
    rename_i hj
    simp at hl; subst hl
    simp only [γ, Option.map_eq_some_iff] at hv
    obtain ⟨b, hb, rfl⟩ := hv
    refine MeansV.same h (x := .pointer (some ⟨b, off + j.toNat * n, none⟩)) ?_ (by simp [γ, hb])
    simp [Instr.indexAt, asIntOf, run_underlying ht, Instr.sureAddr, hj, run_sizeT hn, Addr.add_lit]

theorem bs_size (l : List Nat) : (bs l).size = l.length := by simp [bs, ByteArray.size]
theorem bs_data (l : List Nat) : (bs l).data.toList = l.map UInt8.ofNat := by simp [bs]
def xIndex (P : Program) (t : TypeId) (v ix : AV) : Option AV :=
  match ix with
  | .int _ j =>
    match P.underlying t, v with
    | some .string, .str s =>
      if 0 ≤ j then match s[j.toNat]? with
        | some c => some (.int .u8 c)
        | none => none
      else none
    | some (.array len e), .agg cs =>
      match sizeT P e with
      | some n => if 0 ≤ j ∧ j < len then xPart P e cs (j.toNat * n) else none
      | none => none
    | _, _ => none
  | _ => none
theorem index_means (h : Rel G B w0 ε S w) {t : TypeId} {v ix u : AV} {x y : Value} (hv : γ ε v = some x) (hy : γ ε ix = some y) (hl : xIndex P t v ix = some u) :
    MeansV G B w0 ε S ((Instr.index t x y).run P w) u S := by
  unfold xIndex at hl
  split at hl <;> try (simp at hl; done)
  rename_i k j
  simp only [γ, Option.some.injEq] at hy
  subst hy
  split at hl <;> try (simp at hl; done)
  · rename_i s ht
    split at hl <;> try (simp at hl; done)
    rename_i hj
    split at hl <;> try (simp at hl; done)
    rename_i c hc
    simp at hl; subst hl
    simp only [γ] at hv
    split at hv <;> simp at hv
    rename_i hok
    subst hv
    have hlt : c < 256 := by
      simp only [okb, List.all_eq_true, decide_eq_true_eq] at hok
      exact hok c (List.mem_of_getElem? hc)
    have hget : (bs s)[j.toNat]? = some (UInt8.ofNat c) := by
      have hlen : j.toNat < s.length := (List.getElem?_eq_some_iff.1 hc).1
      have hlen' : j.toNat < (bs s).size := by rw [bs_size]; exact hlen
      rw [getElem?_pos (bs s) j.toNat hlen']
      congr 1
      have h1 : (bs s).data.toList[j.toNat]? = some (UInt8.ofNat c) := by rw [bs_data]; simp [hc]
      have h2 : (bs s)[j.toNat]'hlen' = (bs s).data[j.toNat]'hlen' := rfl
      rw [h2]
      rw [Array.getElem?_toList] at h1
      rw [Array.getElem?_eq_getElem (by exact hlen')] at h1
      exact Option.some.inj h1
    have hnat : (UInt8.ofNat c).toNat = c := by simp [UInt8.toNat_ofNat']; omega
    refine MeansV.same h (x := .int .u8 c) ?_ (by simp [γ])
    simp only [Instr.index, asIntOf, Sem.run_bind, Sem.run_pure, Result.andThen_ok, run_underlying ht, hj, if_true, hget, hnat]
  · rename_i len e cs ht
    split at hl <;> try (simp at hl; done)
    rename_i n hn
    split at hl <;> try (simp at hl; done)
    rename_i hj
    simp only [γ, Option.map_eq_some_iff] at hv
    obtain ⟨xs, hxs, rfl⟩ := hv
    obtain ⟨y, h3, h4⟩ := part_means (P := P) (xs := xs.toArray) (by simpa using hxs) hl
    exact MeansV.same h (by simp [Instr.index, asIntOf, run_underlying ht, hj, run_sizeT hn, h3]) h4
end
end Go.Rx
